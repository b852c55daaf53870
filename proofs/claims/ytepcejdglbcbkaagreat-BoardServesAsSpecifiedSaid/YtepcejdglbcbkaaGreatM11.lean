/- Part of the texts on which proofs about this seat rest: each says what it proves at its own head. No condition. -/
import Derived.Test.YtepcejdglbcbkaaGreatM10
set_option linter.unusedVariables false
set_option linter.unusedSimpArgs false
set_option maxHeartbeats 4000000
set_option maxRecDepth 100000
/- The reference's ports of the lines. Condition: the control is valid. -/
namespace Go.Proofs.YtepcejdglbcbkaaGreat
open Go.Abs
variable {k:Nat}
def gf (c:LnI):Option (LnI×Nat)→AV
 | some (c',r)=>.agg (lnC c'++[.int .u32 r,.int .i64 0])
 | none=>.agg (lnC c++[.int .u32 0,.int .i64 5])
theorem aaJ {c:LnI}(h:bI c) {j v:Nat}(hj:j<4) (hv:v<4294967296) {port:Int}:ad (ab FN (k+60)) 161 [lnV c,.int .i64 j,.int .i64 port,.int .i64 v] (gf c (c.port j false port v)):=by
 have hn:=h.n
 refine ak Yh fun T H E lv=>?_
 unfold LnI.port
 rw [if_neg (by decide)]
 by_cases h0:port=0
 ·subst h0
  rw [if_pos rfl]
  unfold gf
  dsimp only
  have hr:aj .rem (.int .i64 v) (.int .i64 32)=some (.int .i64 ((v%32:Nat):Int)):=oA (by omega)
  have hw:IntKind.u32.wrap ((v%32:Nat):Int)=((v%32:Nat):Int):=w32 (by omega) (by omega)
  generalize v%32=w at *
  obtain ⟨n,r0,r1,r2,r3,m0,m1,m2,m3,t0,t1,t2,t3,t4⟩:=c
  clear h hn
  obtain rfl | rfl | rfl | rfl:j=0∨j=1∨j=2∨j=3:=by omega
  all_goals
   simp only [LnI.dU]
   dsimp only [lnV,lnC]
   repeat (first | refine stN ?_ | intro E)
   exact ae (.inr rfl) rfl rfl rfl rfl rfl rfl
 rw [if_neg h0]
 by_cases h2:port=2
 ·subst h2
  rw [if_pos rfl]
  by_cases h5:v<5
  ·rw [if_pos h5]
   unfold gf
   dsimp only
   have hR:=(h.k j hj).1
   have hl:dg v (v:Int):=by unfold dg;omega
   have r1:=rW c hj
   have gi:inB (j:Int) 4=some j:=aZ hj
   have c115:ad (ab FN (k+59)) 115 [.int .u32 (c.R j:Nat),.int .i64 v] (.bool (decide (c.R j/2 ^ v%2=1))):=vQ (k:=k+38) hl (by omega)
   have c116:ad (ab FN (k+59)) 116 [.int .i64 v] (.int .u32 ((2 ^ v:Nat):Int)):=vP (k:=k+39) hl
   by_cases hd:c.R j/2 ^ v%2=1
   ·rw [decide_eq_true hd] at c115
    have hs:aj .sub (.int .u32 (c.R j:Nat)) (.int .u32 ((2 ^ v:Nat):Int))=some (.int .u32 ((gI (c.R j) v:Nat):Int)):=by
     have h1:2 ^ v≤c.R j:=by
      rcases Nat.lt_or_ge (c.R j) (2 ^ v) with hlt | hge
      ·rw [Nat.div_eq_of_lt hlt] at hd;omega
      ·exact hge
     have h2:0<2 ^ v:=Nat.two_pow_pos v
     have e:gI (c.R j) v=c.R j-2 ^ v:=if_pos hd
     rw [e]
     generalize 2 ^ v=p at *
     generalize c.R j=x at *
     simp only [aj,reduceCtorEq,or_self,if_false,if_true,bC]
     rw [show (x:Int)-(p:Int)=((x-p:Nat):Int) by omega,w32 (by omega) (by omega)]
    clear hd hl hR
    generalize gI (c.R j) v=y at *
    generalize 2 ^ v=p at *
    obtain ⟨n,r0,r1,r2,r3,m0,m1,m2,m3,t0,t1,t2,t3,t4⟩:=c
    clear h hn
    obtain rfl | rfl | rfl | rfl:j=0∨j=1∨j=2∨j=3:=by omega
    all_goals
     simp only [LnI.R] at c115 hs
     simp only [LnI.setR]
     dsimp only [lnV,lnC]
     repeat (first | refine stN ?_ | intro E)
     exact ae (.inr rfl) rfl rfl rfl rfl rfl rfl
   ·rw [decide_eq_false hd] at c115
    have e:gI (c.R j) v=c.R j:=if_neg hd
    have e2:c.setR j (c.R j)=c:=by
     obtain rfl | rfl | rfl | rfl:j=0∨j=1∨j=2∨j=3:=by omega
     all_goals rfl
    rw [e,e2]
    clear e e2 hd hl hR
    generalize 2 ^ v=p at *
    obtain ⟨n,r0,r1,r2,r3,m0,m1,m2,m3,t0,t1,t2,t3,t4⟩:=c
    clear h hn
    obtain rfl | rfl | rfl | rfl:j=0∨j=1∨j=2∨j=3:=by omega
    all_goals
     simp only [LnI.R] at c115
     dsimp only [lnV,lnC]
     repeat (first | refine stN ?_ | intro E)
     exact ae (.inr rfl) rfl rfl rfl rfl rfl rfl
  ·rw [if_neg h5]
   unfold gf
   dsimp only
   repeat (first | refine stN ?_ | intro E)
   exact ae (.inr rfl) rfl rfl rfl rfl rfl rfl
 rw [if_neg h2]
 by_cases h3:port=3
 ·subst h3
  rw [if_pos rfl]
  unfold gf
  dsimp only
  by_cases h5:(v:Int)<c.n
  ·rw [if_pos h5]
   have c63:ad (ab FN (k+59)) 63 [lnV c,.int .i64 4,.int .i64 v] (lnV (c.raise 4 v)):=(s63 (k:=0) h (.inr (.inr (.inr (.inr ⟨rfl,rfl⟩)))) (by omega)).fuel (by omega)
   generalize c.raise 4 v=y at *
   repeat (first | refine stN ?_ | intro E)
   exact ae (.inr rfl) rfl rfl rfl rfl rfl rfl
  ·rw [if_neg h5]
   repeat (first | refine stN ?_ | intro E)
   exact ae (.inr rfl) rfl rfl rfl rfl rfl rfl
 rw [if_neg h3]
 by_cases h4:port=4
 ·subst h4
  rw [if_pos rfl]
  unfold gf
  dsimp only
  have hq:aj .quo (.int .i64 (v:Int)) (.int .i64 16)=some (.int .i64 ((v/16:Nat):Int)):=iD (by omega)
  have hm:aj .rem (.int .i64 (v:Int)) (.int .i64 16)=some (.int .i64 ((v%16:Nat):Int)):=oA (by omega)
  have hm16:v%16<16:=Nat.mod_lt _ (by decide)
  have c107:ad (ab FN (k+59)) 107 [.int .i64 (v/16:Nat)] (.bool (decide (v/16=1∨v/16=2∨v/16=3))):=zX (k:=k+58) (v/16)
  generalize v%16=m at *
  generalize v/16=q at *
  by_cases hd:q=1∨q=2∨q=3
  ·rw [decide_eq_true hd] at c107
   by_cases hb:(m:Int)<c.n
   ·rw [if_pos ⟨hd,hb⟩]
    obtain ⟨n,r0,r1,r2,r3,m0,m1,m2,m3,t0,t1,t2,t3,t4⟩:=c
    clear h hn
    dsimp only at hb
    obtain rfl | rfl | rfl:=hd
    all_goals
     simp only [LnI.setT]
     dsimp only [lnV,lnC]
     repeat (first | refine stN ?_ | intro E)
     exact ae (.inr rfl) rfl rfl rfl rfl rfl rfl
   ·rw [if_neg (fun hh=>hb hh.2)]
    repeat (first | refine stN ?_ | intro E)
    exact ae (.inr rfl) rfl rfl rfl rfl rfl rfl
  ·rw [decide_eq_false hd] at c107
   rw [if_neg (fun hh=>hd hh.1)]
   repeat (first | refine stN ?_ | intro E)
   exact ae (.inr rfl) rfl rfl rfl rfl rfl rfl
 rw [if_neg h4]
 unfold gf
 dsimp only
 repeat (first | refine stN ?_ | intro E)
 exact ae (.inr rfl) rfl rfl rfl rfl rfl rfl
theorem aaK {c:LnI}(h:bI c) {j v:Nat}(hj:j<4) (hv:v<4294967296) {i:Bool}{port:Int}:ad (ab FN (k+61)) 110 [lnV c,.int .i64 j,.agg [.bool i,.int .i64 port,.int .u32 v]] (gf c (c.port j i port v)):=by
 cases i
 ·have hw:IntKind.i64.wrap (v:Int)=(v:Int):=w64 (by omega) (by omega)
  have c161:ad (ab FN (k+60)) 161 [lnV c,.int .i64 j,.int .i64 port,.int .i64 v] (gf c (c.port j false port v)):=aaJ h hj hv
  refine ak Bf fun T H E lv=>?_
  generalize c.port j false port v=y at *
  rcases y with _ | ⟨c',r⟩
  ·unfold gf at *
   dsimp only at *
   repeat (first | refine stN ?_ | intro E)
   exact ae (.inr rfl) rfl rfl rfl rfl rfl rfl
  ·unfold gf at *
   dsimp only at *
   repeat (first | refine stN ?_ | intro E)
   exact ae (.inr rfl) rfl rfl rfl rfl rfl rfl
 ·have r2:=rX c hj
  dsimp only [lnC] at r2
  have gi:inB (j:Int) 4=some j:=aZ hj
  have c59:ad (ab FN (k+60)) 59 [lnV c,.int .i64 j] (.int .u32 (c.pend j)):=s59 (k:=k+20) h hj
  refine ak Bf fun T H E lv=>?_
  unfold LnI.port gf
  rw [if_pos rfl]
  generalize c.pend j=y at *
  generalize c.M j=z at *
  by_cases h0:port=0
  ·subst h0
   rw [if_pos rfl]
   dsimp only
   repeat (first | refine stN ?_ | intro E)
   exact ae (.inr rfl) rfl rfl rfl rfl rfl rfl
  rw [if_neg h0]
  by_cases h1:port=1
  ·subst h1
   rw [if_pos rfl]
   dsimp only
   repeat (first | refine stN ?_ | intro E)
   exact ae (.inr rfl) rfl rfl rfl rfl rfl rfl
  rw [if_neg h1]
  dsimp only
  repeat (first | refine stN ?_ | intro E)
  exact ae (.inr rfl) rfl rfl rfl rfl rfl rfl
end Go.Proofs.YtepcejdglbcbkaaGreat
/- A clock, as numbers. No program. -/
namespace Go.Proofs.YtepcejdglbcbkaaGreat
open Go.Abs
structure CkI where
 l:Int
 o0:Bool
 o1:Bool
 o2:Bool
 o3:Bool
 r0:Int
 r1:Int
 r2:Int
 r3:Int
 a0:Int
 a1:Int
 a2:Int
 a3:Int
def ckC (c:CkI):List AV:=[.int .i64 c.l,.bool c.o0,.bool c.o1,.bool c.o2,.bool c.o3,.int .i64 c.r0,.int .i64 c.r1,.int .i64 c.r2,.int .i64 c.r3,.int .i64 c.a0,.int .i64 c.a1,.int .i64 c.a2,.int .i64 c.a3]
def ckV (c:CkI):AV:=.agg (ckC c)
def CkI.O (c:CkI):Nat→Bool
 | 0=>c.o0
 | 1=>c.o1
 | 2=>c.o2
 | _=>c.o3
def CkI.R (c:CkI):Nat→Int
 | 0=>c.r0
 | 1=>c.r1
 | 2=>c.r2
 | _=>c.r3
def CkI.A (c:CkI):Nat→Int
 | 0=>c.a0
 | 1=>c.a1
 | 2=>c.a2
 | _=>c.a3
def CkI.setO (c:CkI) (k:Nat) (v:Bool):CkI:=match k with
 | 0=>{ c with o0:=v }
 | 1=>{ c with o1:=v }
 | 2=>{ c with o2:=v }
 | _=>{ c with o3:=v }
def CkI.setR (c:CkI) (k:Nat) (v:Int):CkI:=match k with
 | 0=>{ c with r0:=v }
 | 1=>{ c with r1:=v }
 | 2=>{ c with r2:=v }
 | _=>{ c with r3:=v }
def CkI.setA (c:CkI) (k:Nat) (v:Int):CkI:=match k with
 | 0=>{ c with a0:=v }
 | 1=>{ c with a1:=v }
 | 2=>{ c with a2:=v }
 | _=>{ c with a3:=v }
def CkI.okK (c:CkI) (k:Nat):Prop:=0≤c.R k∧c.R k≤c.l∧(c.O k=true∨c.R k=0)∧0≤c.A k∧c.A k≤1099511627776
structure eI (c:CkI):Prop where
 l:0≤c.l∧c.l≤2147483647
 k:∀ i,i<4→c.okK i
noncomputable def ckB (c:CkI):Bool:=@decide (eI c) (Classical.propDecidable _)
theorem Bt {c:CkI}(h:eI c):ckB c=true:=@decide_eq_true _ (Classical.propDecidable _) h
theorem vR {c:CkI}(h:¬ eI c):ckB c=false:=@decide_eq_false _ (Classical.propDecidable _) h
theorem ud {c:CkI}{i:Nat}(hi:i<4) (h:¬ c.okK i):ckB c=false:=vR fun hc=>h (hc.k i hi)
def CkI.take (c:CkI) (k:Nat):CkI:=(c.setO k false).setR k 0
def fg (n a:Nat):Nat:=if a=0 then 0 else min (n+a) 1099511627776
def CkI.due (c:CkI) (k n:Nat):Bool:=decide (c.A k≠0∧c.A k≤(n:Int))
def CkI.fire (c:CkI) (k n:Nat):CkI:=if c.due k n=true then c.setA k 0 else c
def CkI.port (c:CkI) (k n:Nat) (i:Bool) (p:Int) (v:Nat):CkI×Nat×Int:=
 if i=true∧p=16 then if c.O k=true then (c.take k,(c.R k).toNat,0) else (c,0,4)
 else if i=false∧p=17 then (c.setA k (fg n v),0,0) else (c,0,5)
theorem Bu (c:CkI) {i:Nat}(h:i<4):rd (ckC c) (0+1+i*1) 1 false=some (.bool (c.O i)):=by
 rcases i with _ | _ | _ | _ | i<;>first | rfl | omega
theorem Bv (c:CkI) {i:Nat}(h:i<4):rd (ckC c) (0+5+i*1) 1 false=some (.int .i64 (c.R i)):=by
 rcases i with _ | _ | _ | _ | i<;>first | rfl | omega
theorem qD (c:CkI) {i:Nat}(h:i<4):rd (ckC c) (0+9+i*1) 1 false=some (.int .i64 (c.A i)):=by
 rcases i with _ | _ | _ | _ | i<;>first | rfl | omega
end Go.Proofs.YtepcejdglbcbkaaGreat
