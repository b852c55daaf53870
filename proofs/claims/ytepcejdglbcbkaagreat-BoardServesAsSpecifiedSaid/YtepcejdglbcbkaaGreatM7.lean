/- Part of the texts on which proofs about this seat rest: each says what it proves at its own head. No condition. -/
import Derived.Test.YtepcejdglbcbkaaGreatM6
set_option linter.unusedVariables false
set_option linter.unusedSimpArgs false
set_option maxHeartbeats 4000000
set_option maxRecDepth 100000
/- Arithmetic of words, and how a memory and a ring lie in cells. No condition. -/
namespace Go.Proofs.YtepcejdglbcbkaaGreat
open Go.Abs
theorem fG {j m:Nat}(h:j<m):inB (j:Int) m=some j:=by rw [xD (by omega) (by omega)];exact congrArg some (Int.toNat_natCast _)
theorem ke {j m:Nat}(h:j≤m):asB (j:Int) m=some j:=by rw [oi (by omega) (by omega)];exact congrArg some (Int.toNat_natCast _)
theorem dm (n:Nat) (h:n<4294967296):(BitVec.ofInt 32 (n:Int)).toNat=n:=by
 simp only [BitVec.toNat_ofInt]
 omega
theorem er {b s:Nat}{kk:IntKind}{r:Int}(hs:s<32) (h:b*2 ^ s<4294967296) (hr:r=((b*2 ^ s:Nat):Int)):aj .shl (.int .u32 b) (.int kk s)=some (.int .u32 r):=by
 subst hr
 have hm:min ((s:Int)).toNat IntKind.u32.bits=s:=by
  have:IntKind.u32.bits=32:=rfl
  rw [this];simp;omega
 have hneg:¬ ((s:Int)<0):=by omega
 simp only [aj,ja,true_or,if_true,hneg,if_false,hm]
 have:((b:Int)*2 ^ s)=((b*2 ^ s:Nat):Int):=by simp
 rw [this,w32 (by omega) (by omega)]
theorem kf {x y s:Nat}{r:Int}(hx:x<2 ^ s) (h:x+y*2 ^ s<4294967296) (hr:r=((x+y*2 ^ s:Nat):Int)):aj .or (.int .u32 x) (.int .u32 ((y*2 ^ s:Nat):Int))=some (.int .u32 r):=by
 subst hr
 have h1:(BitVec.ofInt IntKind.u32.bits (x:Int) ||| BitVec.ofInt IntKind.u32.bits ((y*2 ^ s:Nat):Int)).toNat=x+y*2 ^ s:=by
  show (BitVec.ofInt 32 (x:Int) ||| BitVec.ofInt 32 ((y*2 ^ s:Nat):Int)).toNat=_
  rw [BitVec.toNat_or,dm x (by omega),dm (y*2 ^ s) (by omega),Nat.or_comm,Nat.mul_comm y,← Nat.two_pow_add_eq_or_of_lt hx]
  omega
 simp only [aj,reduceCtorEq,or_self,if_false,if_true,bC,h1]
 rw [w32 (by omega) (by omega)]
def aq (bs:List UInt8):AV:=.agg [csl 128 (bs.map ofB)]
def aL (b s:Nat):AV:=.agg [.int .u32 b,.int .u32 s]
def VM (bs:List UInt8):Prop:=∃ p,1≤p∧p≤64∧bs.length=128*p
theorem VM.le {bs:List UInt8}(h:VM bs):bs.length≤8192∧bs.length%128=0∧128≤bs.length:=by
 obtain ⟨p,h1,h2,h3⟩:=h;omega
def bt (bs:List UInt8) (i:Nat):Nat:=(bs.getD i 0).toNat
def word (bs:List UInt8) (i:Nat):Nat:=bt bs i+bt bs (i+1)*2 ^ 8+bt bs (i+2)*2 ^ 16+bt bs (i+3)*2 ^ 24
theorem cY (bs:List UInt8) (i:Nat):bt bs i<256:=UInt8.toNat_lt _
theorem fH (bs:List UInt8) (i:Nat):word bs i<4294967296:=by
 have h0:=cY bs i;have h1:=cY bs (i+1);have h2:=cY bs (i+2);have h3:=cY bs (i+3)
 unfold word;omega
theorem yi {bs:List UInt8}{i:Nat}(h:i<bs.length):(bs.map ofB)[i]? = some (.int .u8 (bt bs i)):=by
 simp [ofB,bt,List.getD_eq_getElem?_getD,h]
end Go.Proofs.YtepcejdglbcbkaaGreat
/- The interrupt lines, as numbers: what is raised, masked, and where lines lead. No program. -/
namespace Go.Proofs.YtepcejdglbcbkaaGreat
open Go.Abs
structure LnI where
 n:Int
 r0:Nat
 r1:Nat
 r2:Nat
 r3:Nat
 m0:Nat
 m1:Nat
 m2:Nat
 m3:Nat
 t0:Int
 t1:Int
 t2:Int
 t3:Int
 t4:Int
def lnC (c:LnI):List AV:=[.int .i64 c.n,.int .u32 c.r0,.int .u32 c.r1,.int .u32 c.r2,.int .u32 c.r3,.int .u32 c.m0,.int .u32 c.m1,.int .u32 c.m2,.int .u32 c.m3,.int .i64 c.t0,.int .i64 c.t1,.int .i64 c.t2,.int .i64 c.t3,.int .i64 c.t4]
def lnV (c:LnI):AV:=.agg (lnC c)
structure LnR (c:LnI):Prop where
 r0:c.r0<4294967296
 r1:c.r1<4294967296
 r2:c.r2<4294967296
 r3:c.r3<4294967296
 m0:c.m0<4294967296
 m1:c.m1<4294967296
 m2:c.m2<4294967296
 m3:c.m3<4294967296
def LnI.R (c:LnI):Nat→Nat
 | 0=>c.r0
 | 1=>c.r1
 | 2=>c.r2
 | _=>c.r3
def LnI.M (c:LnI):Nat→Nat
 | 0=>c.m0
 | 1=>c.m1
 | 2=>c.m2
 | _=>c.m3
def LnI.T (c:LnI):Nat→Int
 | 0=>c.t0
 | 1=>c.t1
 | 2=>c.t2
 | 3=>c.t3
 | _=>c.t4
def LnI.setR (c:LnI) (k v:Nat):LnI:=match k with
 | 0=>{ c with r0:=v }
 | 1=>{ c with r1:=v }
 | 2=>{ c with r2:=v }
 | _=>{ c with r3:=v }
def LnI.dU (c:LnI) (k v:Nat):LnI:=match k with
 | 0=>{ c with m0:=v }
 | 1=>{ c with m1:=v }
 | 2=>{ c with m2:=v }
 | _=>{ c with m3:=v }
def LnI.setT (c:LnI) (k:Nat) (v:Int):LnI:=match k with
 | 0=>{ c with t0:=v }
 | 1=>{ c with t1:=v }
 | 2=>{ c with t2:=v }
 | 3=>{ c with t3:=v }
 | _=>{ c with t4:=v }
def LnI.okK (c:LnI) (k:Nat):Prop:=c.R k<32∧c.M k<32∧((k:Int)<c.n∨(c.R k=0∧c.M k=0))
def LnI.okT (c:LnI) (k:Nat):Prop:=0≤c.T k∧c.T k<c.n∧((k=1∨k=2∨k=3)∨c.T k=0)
structure bI (c:LnI):Prop where
 n:1≤c.n∧c.n≤4
 k:∀ i,i<4→c.okK i
 t:∀ i,i<5→c.okT i
noncomputable def lnB (c:LnI):Bool:=@decide (bI c) (Classical.propDecidable _)
theorem Bs {c:LnI}(h:bI c):lnB c=true:=@decide_eq_true _ (Classical.propDecidable _) h
theorem qC {c:LnI}(h:¬ bI c):lnB c=false:=@decide_eq_false _ (Classical.propDecidable _) h
def LnI.at (c:LnI) (l k:Nat):Nat:=if l=1∨l=2∨l=3 then (c.T l).toNat else k
def jT (x l:Nat):Nat:=if x/2 ^ l%2=1 then x else x+2 ^ l
def gI (x l:Nat):Nat:=if x/2 ^ l%2=1 then x-2 ^ l else x
def LnI.raise (c:LnI) (l k:Nat):LnI:=c.setR (c.at l k) (jT (c.R (c.at l k)) l)
def LnI.pend (c:LnI) (k:Nat):Nat:=c.R k &&& c.M k
def LnI.port (c:LnI) (k:Nat) (i:Bool) (p:Int) (v:Nat):Option (LnI×Nat):=
 if i=true then
  if p=0 then some (c,c.M k) else if p=1 then some (c,c.pend k) else none
 else if p=0 then some (c.dU k (v%32),0)
 else if p=2 then some (if v<5 then c.setR k (gI (c.R k) v) else c,0)
 else if p=3 then some (if (v:Int)<c.n then c.raise 4 v else c,0)
 else if p=4 then some (if (v/16=1∨v/16=2∨v/16=3)∧((v%16:Nat):Int)<c.n then c.setT (v/16) ((v%16:Nat):Int) else c,0)
 else none
theorem EA:∀ x<32,∀ l<5,x ||| 2 ^ l=jT x l:=by decide +kernel
theorem tY:∀ x<32,∀ l<5,jT x l<32:=by decide +kernel
theorem tZ:∀ x<32,∀ l<5,gI x l<32:=by decide +kernel
end Go.Proofs.YtepcejdglbcbkaaGreat
/- lines.Valid, by the program and by the reference. Condition: the numbers are such as their types hold. -/
namespace Go.Proofs.YtepcejdglbcbkaaGreat
open Go.Abs
variable {k:Nat}
theorem LnR.R {c:LnI}(h:LnR c) (i:Nat):c.R i<4294967296:=by
 unfold LnI.R
 split
 ·exact h.r0
 ·exact h.r1
 ·exact h.r2
 ·exact h.r3
theorem LnR.M {c:LnI}(h:LnR c) (i:Nat):c.M i<4294967296:=by
 unfold LnI.M
 split
 ·exact h.m0
 ·exact h.m1
 ·exact h.m2
 ·exact h.m3
theorem yj {a b:Nat}(ha:a<4294967296) (hb:b<4294967296):aj .or (.int .u32 (a:Int)) (.int .u32 (b:Int))=some (.int .u32 ((a ||| b:Nat):Int)):=by
 have h1:(BitVec.ofInt IntKind.u32.bits (a:Int) ||| BitVec.ofInt IntKind.u32.bits (b:Int)).toNat=a ||| b:=by
  show (BitVec.ofInt 32 (a:Int) ||| BitVec.ofInt 32 (b:Int)).toNat=_
  rw [BitVec.toNat_or,dm a ha,dm b hb]
 have h2:a ||| b<4294967296:=Nat.or_lt_two_pow (n:=32) ha hb
 simp only [aj,reduceCtorEq,or_self,if_false,if_true,bC,h1]
 rw [w32 (by omega) (by omega)]
theorem ua {a b:Nat}(ha:a<4294967296) (hb:b<4294967296):aj .and (.int .u32 (a:Int)) (.int .u32 (b:Int))=some (.int .u32 ((a &&& b:Nat):Int)):=by
 have h1:(BitVec.ofInt IntKind.u32.bits (a:Int) &&& BitVec.ofInt IntKind.u32.bits (b:Int)).toNat=a &&& b:=by
  show (BitVec.ofInt 32 (a:Int) &&& BitVec.ofInt 32 (b:Int)).toNat=_
  rw [BitVec.toNat_and,dm a ha,dm b hb]
 have h2:a &&& b≤a:=Nat.and_le_left
 simp only [aj,reduceCtorEq,or_self,if_false,if_true,bC,h1]
 rw [w32 (by omega) (by omega)]
theorem EB {a b:Nat}:a ||| b<32↔a<32∧b<32:=by
 constructor
 ·intro h
  have h1:a≤a ||| b:=Nat.left_le_or
  have h2:b≤a ||| b:=Nat.right_le_or
  omega
 ·exact fun h=>Nat.or_lt_two_pow (n:=5) h.1 h.2
theorem or_zero {a b:Nat}:a ||| b=0↔a=0∧b=0:=by
 constructor
 ·intro h
  have h1:a≤a ||| b:=Nat.left_le_or
  have h2:b≤a ||| b:=Nat.right_le_or
  omega
 ·rintro ⟨rfl,rfl⟩;rfl
theorem zW (l:Nat):ad (ab FN (k+1)) 103 [.int .u32 l] (.bool (decide (l=1∨l=2∨l=3))):=by
 refine ak XL fun T H E lv=>?_
 by_cases h:l=1∨l=2∨l=3
 ·rw [decide_eq_true h]
  rcases h with h1 | h1 | h1
  all_goals
   repeat (first | refine stN ?_ | intro E)
   exact ae (.inr rfl) rfl rfl rfl rfl rfl rfl
 rw [decide_eq_false (by omega)]
 repeat (first | refine stN ?_ | intro E)
 exact ae (.inr rfl) rfl rfl rfl rfl rfl rfl
theorem zX (l:Nat):ad (ab FN (k+1)) 107 [.int .i64 l] (.bool (decide (l=1∨l=2∨l=3))):=by
 refine ak XP fun T H E lv=>?_
 by_cases h1:1≤l
 ·by_cases h3:l≤3
  ·rw [decide_eq_true (by omega)]
   repeat (first | refine stN ?_ | intro E)
   exact ae (.inr rfl) rfl rfl rfl rfl rfl rfl
  ·rw [decide_eq_false (by omega)]
   repeat (first | refine stN ?_ | intro E)
   exact ae (.inr rfl) rfl rfl rfl rfl rfl rfl
 ·rw [decide_eq_false (by omega)]
  repeat (first | refine stN ?_ | intro E)
  exact ae (.inr rfl) rfl rfl rfl rfl rfl rfl
theorem rW (c:LnI) {i:Nat}(h:i<4):rd (lnC c) (0+1+i*1) 1 false=some (.int .u32 (c.R i)):=by
 rcases i with _ | _ | _ | _ | i<;>first | rfl | omega
theorem rX (c:LnI) {i:Nat}(h:i<4):rd (lnC c) (0+5+i*1) 1 false=some (.int .u32 (c.M i)):=by
 rcases i with _ | _ | _ | _ | i<;>first | rfl | omega
theorem aaB (c:LnI) {i:Nat}(h:i<5):rd (lnC c) (0+9+i*1) 1 false=some (.int .i64 (c.T i)):=by
 rcases i with _ | _ | _ | _ | _ | i<;>first | rfl | omega
end Go.Proofs.YtepcejdglbcbkaaGreat
/- lines.Valid and the reference's. Condition: the numbers are such as their types hold. -/
namespace Go.Proofs.YtepcejdglbcbkaaGreat
open Go.Abs
variable {k:Nat}
theorem ub {c:LnI}{i:Nat}(hi:i<4) (h:¬ c.okK i):lnB c=false:=qC fun hc=>h (hc.k i hi)
theorem uc {c:LnI}{i:Nat}(hi:i<5) (h:¬ c.okT i):lnB c=false:=qC fun hc=>h (hc.t i hi)
theorem s41 {c:LnI}(h:LnR c):ad (ab FN (k+100)) 41 [lnV c] (.bool (lnB c)):=by
 refine ak aad fun T H E lv=>?_
 by_cases hn:1≤c.n∧c.n≤4
 ·obtain ⟨n1,n4⟩:=id hn
  repeat (first | refine stN ?_ | intro E)
  refine aW (α:=Nat) (a8.mk (fun i=>i≤4∧∀ j,j<i→c.okK j) (fun i=>4-i) (fun i=>[(15,.int .i64 (i:Int)),(1,.pp (lnC c) 0)]) (fun _=>[])) (fun _ lv' c'=>lv'=lv∧c'=4) 0 ⟨by omega,fun j hj=>by omega⟩ ⟨rfl,rfl⟩ (show 4-0<k+99 by omega) ⟨rfl,rfl,trivial⟩ trivial ?_
  rintro i lv1 _ T H E hP ⟨hlv,rfl⟩ hμ
  have hP:i≤4∧∀ j,j<i→c.okK j:=hP
  obtain ⟨hi,hall⟩:=hP
  dsimp only
  clear hμ
  rcases Nat.lt_or_ge i 4 with hi4 | hi4
  ·have r1:=rW c hi4
   have r2:=rX c hi4
   have gi:inB (i:Int) 4=some i:=aZ hi4
   have hor:=yj (h.R i) (h.M i)
   have h32:=EB (a:=c.R i) (b:=c.M i)
   have hz:=or_zero (a:=c.R i) (b:=c.M i)
   have hoR:c.R i ||| c.M i<4294967296:=Nat.or_lt_two_pow (n:=32) (h.R i) (h.M i)
   have hbad:=ub (c:=c) hi4
   unfold LnI.okK at hbad
   generalize hx:c.R i=x at *
   generalize hy:c.M i=y at *
   generalize x ||| y=z at *
   have hsh:aj .shr (.int .u32 (z:Int)) (.int .u32 5)=some (.int .u32 ((z/32:Nat):Int)):=kO (by decide)
   have hgood:(x<32∧y<32∧((i:Int)<c.n∨(x=0∧y=0)))→∀ j,j<i+1→c.okK j:=fun hg j hj=>by
    rcases Nat.lt_or_ge j i with hji | hji
    ·exact hall j hji
    ·obtain rfl:j=i:=by omega
     unfold LnI.okK
     rw [hx,hy];exact hg
   by_cases hA:32≤z
   ·rw [hbad (by omega)]
    repeat (first | refine stN ?_ | intro E)
    apply bz
    repeat (first | refine stN ?_ | intro E)
    exact ae (.inr rfl) rfl rfl rfl rfl rfl rfl
   have hd:z/32=0:=by omega
   rw [hd] at hsh
   by_cases hB:(i:Int)<c.n
   ·repeat (first | refine stN ?_ | intro E)
    exact aB (i+1) ⟨by omega,hgood (by omega)⟩ ⟨hlv,rfl⟩ (show 4-(i+1)<4-i by omega) ⟨rfl,rfl,trivial⟩ trivial
   by_cases hC:z=0
   ·repeat (first | refine stN ?_ | intro E)
    exact aB (i+1) ⟨by omega,hgood (by omega)⟩ ⟨hlv,rfl⟩ (show 4-(i+1)<4-i by omega) ⟨rfl,rfl,trivial⟩ trivial
   ·rw [hbad (by omega)]
    repeat (first | refine stN ?_ | intro E)
    apply bz
    repeat (first | refine stN ?_ | intro E)
    exact ae (.inr rfl) rfl rfl rfl rfl rfl rfl
  ·obtain rfl:i=4:=by omega
   have hkk:∀ j,j<4→c.okK j:=hall
   repeat (first | refine stN ?_ | intro E)
   apply aN
   apply aM
   repeat (first | refine stN ?_ | intro E)
   refine aW (α:=Nat) (a8.mk (fun i=>i≤5∧∀ j,j<i→c.okT j) (fun i=>5-i) (fun i=>[(43,.int .i64 (i:Int)),(42,.agg ((lnC c).drop 9)),(1,.pp (lnC c) 0)]) (fun _=>[])) (fun _ lv' c'=>lv'=lv1∧c'=4) 0 ⟨by omega,fun j hj=>by omega⟩ ⟨rfl,rfl⟩ (show 5-0<k+99 by omega) ⟨rfl,rfl,rfl,trivial⟩ trivial ?_
   rintro i _ _ T H E hP ⟨rfl,rfl⟩ hμ
   have hP:i≤5∧∀ j,j<i→c.okT j:=hP
   obtain ⟨hi,hall⟩:=hP
   dsimp only
   clear hμ
   rcases Nat.lt_or_ge i 5 with hi5 | hi5
   ·have r1:rd ((lnC c).drop 9) (i*1) 1 false=some (.int .i64 (c.T i)):=by
     rcases i with _ | _ | _ | _ | _ | i<;>first | rfl | omega
    have gi:inB (i:Int) 5=some i:=aZ hi5
    have hbad:=uc (c:=c) hi5
    have c103:ad (ab FN (k+99)) 103 [.int .u32 (i:Int)] (.bool (decide (i=1∨i=2∨i=3))):=zW (k:=k+98) i
    have hw:IntKind.u32.wrap (i:Int)=(i:Int):=w32 (by omega) (by omega)
    unfold LnI.okT at hbad
    generalize hx:c.T i=x at *
    have hgood:(0≤x∧x<c.n∧((i=1∨i=2∨i=3)∨x=0))→∀ j,j<i+1→c.okT j:=fun hg j hj=>by
     rcases Nat.lt_or_ge j i with hji | hji
     ·exact hall j hji
     ·obtain rfl:j=i:=by omega
      unfold LnI.okT
      rw [hx];exact hg
    repeat (first | refine stN ?_ | intro E)
    apply ij
    ·exact rfl
    ·exact rfl
    ·exact gi
    ·exact r1
    by_cases hA:x<0
    ·rw [hbad (by omega)]
     repeat (first | refine stN ?_ | intro E)
     apply bz
     repeat (first | refine stN ?_ | intro E)
     exact ae (.inr rfl) rfl rfl rfl rfl rfl rfl
    by_cases hB:c.n≤x
    ·rw [hbad (by omega)]
     repeat (first | refine stN ?_ | intro E)
     apply bz
     repeat (first | refine stN ?_ | intro E)
     exact ae (.inr rfl) rfl rfl rfl rfl rfl rfl
    by_cases hC:x=0
    ·repeat (first | refine stN ?_ | intro E)
     exact aB (i+1) ⟨by omega,hgood (by omega)⟩ ⟨rfl,rfl⟩ (show 5-(i+1)<5-i by omega) ⟨rfl,rfl,rfl,trivial⟩ trivial
    by_cases hD:i=1∨i=2∨i=3
    ·rw [decide_eq_true hD] at c103
     repeat (first | refine stN ?_ | intro E)
     exact aB (i+1) ⟨by omega,hgood (by omega)⟩ ⟨rfl,rfl⟩ (show 5-(i+1)<5-i by omega) ⟨rfl,rfl,rfl,trivial⟩ trivial
    ·rw [decide_eq_false hD] at c103
     rw [hbad (by omega)]
     repeat (first | refine stN ?_ | intro E)
     apply bz
     repeat (first | refine stN ?_ | intro E)
     exact ae (.inr rfl) rfl rfl rfl rfl rfl rfl
   ·obtain rfl:i=5:=by omega
    rw [Bs ⟨hn,hkk,hall⟩]
    repeat (first | refine stN ?_ | intro E)
    apply aN
    apply aM
    repeat (first | refine stN ?_ | intro E)
    exact ae (.inr rfl) rfl rfl rfl rfl rfl rfl
 ·rw [qC fun hc=>hn hc.n]
  obtain h1 | h1:c.n<1∨(1≤c.n∧4<c.n):=by omega
  all_goals
   repeat (first | refine stN ?_ | intro E)
   exact ae (.inr rfl) rfl rfl rfl rfl rfl rfl
end Go.Proofs.YtepcejdglbcbkaaGreat
