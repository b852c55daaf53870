/- Part of the texts on which proofs about this seat rest: each says what it proves at its own head. No condition. -/
import Derived.Test.YtepcejdglbcbkaaGreatM8
set_option linter.unusedVariables false
set_option linter.unusedSimpArgs false
set_option maxHeartbeats 4000000
set_option maxRecDepth 100000
/- What is pending. Condition: the control is valid. -/
namespace Go.Proofs.YtepcejdglbcbkaaGreat
open Go.Abs
variable {k:Nat}
def ik (x y:Nat):Nat→Nat
 | 0=>0
 | n+1=>ik x y n+if x/2 ^ n%2=1∧y/2 ^ n%2=1 then 2 ^ n else 0
theorem yk:∀ x<32,∀ y<32,ik x y 5=x &&& y:=by decide +kernel
theorem rY (x y:Nat):∀ n,ik x y n<2 ^ n
 | 0=>Nat.one_pos
 | n+1=>by
  have:=rY x y n
  simp only [ik]
  rw [Nat.pow_succ]
  split<;>omega
theorem s58 {c:LnI}(h:bI c) {j:Nat}(hj:j<4):ad (ab FN (k+30)) 58 [lnV c,.int .i64 j] (.int .u32 (c.pend j)):=by
 have r1:=rW c hj
 have r2:=rX c hj
 have gi:inB (j:Int) 4=some j:=aZ hj
 obtain ⟨h1,h2,_⟩:=h.k j hj
 have ha:aj .and (.int .u32 (c.R j:Nat)) (.int .u32 (c.M j:Nat))=some (.int .u32 (c.pend j:Nat)):=ua (by omega) (by omega)
 refine ak aas fun T H E lv=>?_
 dsimp only [lnC] at r1 r2
 generalize c.pend j=y at *
 repeat (first | refine stN ?_ | intro E)
 exact ae (.inr rfl) rfl rfl rfl rfl rfl rfl
theorem s59 {c:LnI}(h:bI c) {j:Nat}(hj:j<4):ad (ab FN (k+40)) 59 [lnV c,.int .i64 j] (.int .u32 (c.pend j)):=by
 have r1:=rW c hj
 have r2:=rX c hj
 have gi:inB (j:Int) 4=some j:=aZ hj
 obtain ⟨h1,h2,_⟩:=h.k j hj
 have he:c.pend j=ik (c.R j) (c.M j) 5:=(yk _ h1 _ h2).symm
 rw [he]
 clear he
 refine ak aat fun T H E lv=>?_
 repeat (first | refine stN ?_ | intro E)
 refine aW (α:=Nat) (a8.mk (fun i=>i≤5) (fun i=>5-i) (fun i=>[(6,.int .i64 (i:Int)),(5,.int .u32 (ik (c.R j) (c.M j) i:Nat)),(2,.pp (lnC c) 0),(1,.int .i64 (j:Int))]) (fun _=>[])) (fun _ lv' c'=>lv'=lv∧c'=4) 0 (by omega) ⟨rfl,rfl⟩ (show 5-0<k+39 by omega) ⟨rfl,rfl,rfl,rfl,trivial⟩ trivial ?_
 rintro i _ _ T H E hi ⟨rfl,rfl⟩ hμ
 have hi:i≤5:=hi
 dsimp only
 clear hμ
 rcases Nat.lt_or_ge i 5 with hi5 | hi5
 ·have hl:dg i (i:Int):=by unfold dg;omega
  have cR:ad (ab FN (k+39)) 115 [.int .u32 (c.R j:Nat),.int .i64 (i:Int)] (.bool (decide (c.R j/2 ^ i%2=1))):=vQ (k:=k+18) hl (by omega)
  have cM:ad (ab FN (k+39)) 115 [.int .u32 (c.M j:Nat),.int .i64 (i:Int)] (.bool (decide (c.M j/2 ^ i%2=1))):=vQ (k:=k+18) hl (by omega)
  have cB:ad (ab FN (k+39)) 116 [.int .i64 (i:Int)] (.int .u32 ((2 ^ i:Nat):Int)):=vP (k:=k+19) hl
  have hlt:=rY (c.R j) (c.M j) (i+1)
  have h32:2 ^ (i+1)≤32:=by
   have:i=0∨i=1∨i=2∨i=3∨i=4:=by omega
   rcases this with rfl | rfl | rfl | rfl | rfl<;>decide
  have hS:ik (c.R j) (c.M j) (i+1)=ik (c.R j) (c.M j) i+if c.R j/2 ^ i%2=1∧c.M j/2 ^ i%2=1 then 2 ^ i else 0:=rfl
  generalize hs':ik (c.R j) (c.M j) (i+1)=s' at *
  generalize hs:ik (c.R j) (c.M j) i=s at *
  have hadd:(c.R j/2 ^ i%2=1∧c.M j/2 ^ i%2=1)→aj .add (.int .u32 (s:Int)) (.int .u32 ((2 ^ i:Nat):Int))=some (.int .u32 (s':Int)):=fun hh=>by
   rw [if_pos hh] at hS
   generalize 2 ^ i=p at *
   simp only [aj,reduceCtorEq,or_self,if_false,if_true,bC]
   rw [w32 (by omega) (by omega)]
   rw [hS];rfl
  by_cases hA:c.R j/2 ^ i%2=1
  ·rw [decide_eq_true hA] at cR
   by_cases hB:c.M j/2 ^ i%2=1
   ·rw [decide_eq_true hB] at cM
    have hadd:=hadd ⟨hA,hB⟩
    repeat (first | refine stN ?_ | intro E)
    exact aB (i+1) (show i+1≤5 by omega) ⟨rfl,rfl⟩ (show 5-(i+1)<5-i by omega) ⟨rfl,by rw [hs'];rfl,rfl,rfl,trivial⟩ trivial
   ·rw [decide_eq_false hB] at cM
    rw [if_neg (fun hh=>hB hh.2),Nat.add_zero] at hS
    subst hS
    repeat (first | refine stN ?_ | intro E)
    exact aB (i+1) (show i+1≤5 by omega) ⟨rfl,rfl⟩ (show 5-(i+1)<5-i by omega) ⟨rfl,by rw [hs'];rfl,rfl,rfl,trivial⟩ trivial
  ·rw [decide_eq_false hA] at cR
   rw [if_neg (fun hh=>hA hh.1),Nat.add_zero] at hS
   subst hS
   repeat (first | refine stN ?_ | intro E)
   exact aB (i+1) (show i+1≤5 by omega) ⟨rfl,rfl⟩ (show 5-(i+1)<5-i by omega) ⟨rfl,by rw [hs'];rfl,rfl,rfl,trivial⟩ trivial
 ·obtain rfl:i=5:=by omega
  repeat (first | refine stN ?_ | intro E)
  apply aN
  apply aM
  repeat (first | refine stN ?_ | intro E)
  exact ae (.inr rfl) rfl rfl rfl rfl rfl rfl
end Go.Proofs.YtepcejdglbcbkaaGreat
/- The view of a processor's lines: methods that read and write its object, by the program. Condition: the control is valid. -/
namespace Go.Proofs.YtepcejdglbcbkaaGreat
open Go.Abs
variable {k:Nat}
theorem dH {F:aE}{f:FuncId}{args:List AV}{os:List (Nat×List AV)}{H:Hp}{n:Nat}{lv:Nat→Bool}{c:Nat}{E:Nat→Option TypeId}{R:AV}{id i:Nat}{v cells:List AV}(ho:lkO os i=some cells) (h:aU F f args [(i,cells)] (ah os H) n lv c E R id v):aU F f args os H n lv c E R id v:=by
 have e:ah [(i,cells)] (ah os H)=ah os H:=by
  funext j
  simp only [ah,upd]
  split
  ·next hj=>rw [hj,av ho]
  ·rfl
 obtain ⟨h⟩:=h
 rw [e] at h
 exact ⟨h⟩
def vwC (c:LnI) (j:Nat):List AV:=[.int .i64 c.n,.int .u32 c.r0,.int .u32 c.r1,.int .u32 c.r2,.int .u32 c.r3,.int .u32 c.m0,.int .u32 c.m1,.int .u32 c.m2,.int .u32 c.m3,.int .i64 c.t0,.int .i64 c.t1,.int .i64 c.t2,.int .i64 c.t3,.int .i64 c.t4,.int .i64 (j:Int)]
section
variable {c:LnI}{j cc:Nat}{H:Hp}{E:Nat→Option TypeId}{lv:Nat→Bool}
theorem aaC (hj:j<4):aU (ab FN (k+1)) 227 [.ref 2 0] [(2,vwC c j)] H 4 lv cc E (.int .u32 (c.M j)) 2 (vwC c j):=by
 refine bY (by omega) rfl YT fun T=>?_
 obtain rfl | rfl | rfl | rfl:j=0∨j=1∨j=2∨j=3:=by omega
 all_goals
  simp only [LnI.M]
  repeat (first | refine stN ?_ | intro E)
  exact aQ (.inr rfl) rfl rfl rfl rfl rfl ⟨rfl,_,rfl,av rfl,(by repeat (first | exact az.refl _ _ _ | refine az.cons ?_ rfl))⟩
theorem aaD (h:bI c) (hj:j<4):aU (ab FN (k+31)) 228 [.ref 2 0] [(2,vwC c j)] H 4 lv cc E (.int .u32 (c.pend j)) 2 (vwC c j):=by
 have c58:ad (ab FN (k+30)) 58 [lnV c,.int .i64 j] (.int .u32 (c.pend j)):=s58 h hj
 generalize c.pend j=y at *
 refine bY (by omega) rfl YU fun T=>?_
 repeat (first | refine stN ?_ | intro E)
 exact aQ (.inr rfl) rfl rfl rfl rfl rfl ⟨rfl,_,rfl,av rfl,(by repeat (first | exact az.refl _ _ _ | refine az.cons ?_ rfl))⟩
theorem aaE {v:Nat}(hv:v<4294967296) (hj:j<4):aU (ab FN (k+1)) 229 [.ref 2 0,.int .u32 v] [(2,vwC c j)] H 4 lv cc E (.tup []) 2 (vwC (c.dU j (v%32)) j):=by
 have ha:aj .and (.int .u32 (v:Int)) (.int .u32 31)=some (.int .u32 ((v%32:Nat):Int)):=by
  have h1:=ua (a:=v) (b:=31) hv (by decide)
  rw [Nat.and_two_pow_sub_one_eq_mod v 5] at h1
  exact h1
 generalize v%32=w at *
 refine bY (by omega) rfl YV fun T=>?_
 obtain rfl | rfl | rfl | rfl:j=0∨j=1∨j=2∨j=3:=by omega
 all_goals
  simp only [LnI.dU]
  repeat (first | refine stN ?_ | intro E)
  exact aQ (.inl rfl) rfl rfl rfl rfl rfl ⟨rfl,_,rfl,av rfl,(by repeat (first | exact az.refl _ _ _ | refine az.cons ?_ rfl))⟩
theorem zY {a b:Nat}(ha:a<32) (hb:b<5):aj .andNot (.int .u32 (a:Int)) (.int .u32 ((2 ^ b:Nat):Int))=some (.int .u32 ((gI a b:Nat):Int)):=by
 have:∀ a<32,∀ b<5,aj .andNot (.int .u32 ((a:Nat):Int)) (.int .u32 ((2 ^ b:Nat):Int))=some (.int .u32 ((gI a b:Nat):Int)):=by
  have key:∀ a<32,∀ b<5,(BitVec.ofInt 32 ((a:Nat):Int) &&& ~~~ BitVec.ofInt 32 ((2 ^ b:Nat):Int)).toNat=gI a b:=by decide +kernel
  intro a ha b hb
  have h1:(BitVec.ofInt IntKind.u32.bits ((a:Nat):Int) &&& ~~~ BitVec.ofInt IntKind.u32.bits ((2 ^ b:Nat):Int)).toNat=gI a b:=key a ha b hb
  have h2:=tZ a ha b hb
  simp only [aj,reduceCtorEq,or_self,if_false,if_true,bC,h1]
  rw [w32 (by omega) (by omega)]
 exact this a ha b hb
theorem aaF (h:bI c) {v:Nat}(hv:v<4294967296) (hj:j<4):aU (ab FN (k+1)) 230 [.ref 2 0,.int .u32 v] [(2,vwC c j)] H 4 lv cc E (.tup []) 2 (vwC (if v<5 then c.setR j (gI (c.R j) v) else c) j):=by
 refine bY (by omega) rfl YW fun T=>?_
 by_cases h5:v<5
 ·rw [if_pos h5]
  have ho:=zY (h.k j hj).1 h5
  have hs:aj .shl (.int .u32 1) (.int .u32 (v:Int))=some (.int .u32 ((2 ^ v:Nat):Int)):=by
   have h1:2 ^ v<4294967296:=Nat.pow_lt_pow_right (n:=32) (by decide) (by omega)
   exact er (b:=1) (s:=v) (by omega) (by omega) (by rw [Nat.one_mul])
  generalize gI (c.R j) v=y at *
  generalize 2 ^ v=z at *
  obtain rfl | rfl | rfl | rfl:j=0∨j=1∨j=2∨j=3:=by omega
  all_goals
   simp only [LnI.R] at ho
   simp only [LnI.setR]
   repeat (first | refine stN ?_ | intro E)
   exact aQ (.inl rfl) rfl rfl rfl rfl rfl ⟨rfl,_,rfl,av rfl,(by repeat (first | exact az.refl _ _ _ | refine az.cons ?_ rfl))⟩
 ·rw [if_neg h5]
  repeat (first | refine stN ?_ | intro E)
  exact aQ (.inl rfl) rfl rfl rfl rfl rfl ⟨rfl,_,rfl,av rfl,(by repeat (first | exact az.refl _ _ _ | refine az.cons ?_ rfl))⟩
theorem aaG (h:bI c) {v:Nat}(hv:v<4294967296) (hj:j<4):aU (ab FN (k+31)) 231 [.ref 2 0,.int .u32 v] [(2,vwC c j)] H 4 lv cc E (.tup []) 2 (vwC (if (v:Int)<c.n then c.raise 4 v else c) j):=by
 refine bY (by omega) rfl YX fun T=>?_
 have hn:=h.n
 have hw:IntKind.u32.wrap c.n=c.n:=w32 (by omega) (by omega)
 by_cases h5:(v:Int)<c.n
 ·rw [if_pos h5]
  have c61:ad (ab FN (k+30)) 61 [lnV c,.int .i64 4,.int .i64 v] (lnV (c.raise 4 v)):=s61 h (.inr (.inr (.inr (.inr ⟨rfl,rfl⟩)))) (by omega)
  generalize c.raise 4 v=y at *
  repeat (first | refine stN ?_ | intro E)
  exact aQ (.inl rfl) rfl rfl rfl rfl rfl ⟨rfl,_,rfl,av rfl,(by repeat (first | exact az.refl _ _ _ | refine az.cons ?_ rfl))⟩
 ·rw [if_neg h5]
  repeat (first | refine stN ?_ | intro E)
  exact aQ (.inl rfl) rfl rfl rfl rfl rfl ⟨rfl,_,rfl,av rfl,(by repeat (first | exact az.refl _ _ _ | refine az.cons ?_ rfl))⟩
theorem aaH (h:bI c) {v:Nat}(hv:v<4294967296) (hj:j<4):aU (ab FN (k+2)) 232 [.ref 2 0,.int .u32 v] [(2,vwC c j)] H 4 lv cc E (.tup []) 2 (vwC (if (v/16=1∨v/16=2∨v/16=3)∧((v%16:Nat):Int)<c.n then c.setT (v/16) ((v%16:Nat):Int) else c) j):=by
 refine bY (by omega) rfl YY fun T=>?_
 have hn:=h.n
 have hw:IntKind.u32.wrap c.n=c.n:=w32 (by omega) (by omega)
 have hq:aj .quo (.int .u32 (v:Int)) (.int .u32 16)=some (.int .u32 ((v/16:Nat):Int)):=by
  have h0:v/16≤v:=Nat.div_le_self v 16
  have h1:(v:Int).tdiv 16=((v/16:Nat):Int):=by
   rw [Int.tdiv_eq_ediv_of_nonneg (by omega)];rfl
  simp only [aj,reduceCtorEq,or_self,if_false,if_true,bC,h1]
  rw [if_neg (by omega),w32 (by omega) (by omega)]
 have hm:aj .rem (.int .u32 (v:Int)) (.int .u32 16)=some (.int .u32 ((v%16:Nat):Int)):=by
  simp only [aj,reduceCtorEq,or_self,if_false,if_true,bC]
  rw [if_neg (by omega)]
  congr 2
 have hm16:v%16<16:=Nat.mod_lt _ (by decide)
 have hw2:IntKind.i64.wrap ((v%16:Nat):Int)=((v%16:Nat):Int):=w64 (by omega) (by omega)
 have c103:ad (ab FN (k+1)) 103 [.int .u32 (v/16:Nat)] (.bool (decide (v/16=1∨v/16=2∨v/16=3))):=zW (k:=k) (v/16)
 generalize v%16=m at *
 generalize v/16=q at *
 by_cases hd:q=1∨q=2∨q=3
 ·rw [decide_eq_true hd] at c103
  by_cases hb:(m:Int)<c.n
  ·rw [if_pos ⟨hd,hb⟩]
   obtain rfl | rfl | rfl:=hd
   all_goals
    simp only [LnI.setT]
    repeat (first | refine stN ?_ | intro E)
    exact aQ (.inl rfl) rfl rfl rfl rfl rfl ⟨rfl,_,rfl,av rfl,(by repeat (first | exact az.refl _ _ _ | refine az.cons ?_ rfl))⟩
  ·rw [if_neg (fun hh=>hb hh.2)]
   repeat (first | refine stN ?_ | intro E)
   exact aQ (.inl rfl) rfl rfl rfl rfl rfl ⟨rfl,_,rfl,av rfl,(by repeat (first | exact az.refl _ _ _ | refine az.cons ?_ rfl))⟩
 ·rw [decide_eq_false hd] at c103
  rw [if_neg (fun hh=>hd hh.1)]
  repeat (first | refine stN ?_ | intro E)
  exact aQ (.inl rfl) rfl rfl rfl rfl rfl ⟨rfl,_,rfl,av rfl,(by repeat (first | exact az.refl _ _ _ | refine az.cons ?_ rfl))⟩
end
end Go.Proofs.YtepcejdglbcbkaaGreat
