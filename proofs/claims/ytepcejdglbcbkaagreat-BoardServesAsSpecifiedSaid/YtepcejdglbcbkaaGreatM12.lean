/- Part of the texts on which proofs about this seat rest: each says what it proves at its own head. No condition. -/
import Derived.Test.YtepcejdglbcbkaaGreatM11
set_option linter.unusedVariables false
set_option linter.unusedSimpArgs false
set_option maxHeartbeats 4000000
set_option maxRecDepth 100000
/- clock.Valid, and the reference's. No condition. -/
namespace Go.Proofs.YtepcejdglbcbkaaGreat
open Go.Abs
variable {k:Nat}
theorem Bw {c:CkI}{i:Nat}(hall:∀ j,j<i→c.okK j) (h:c.okK i):∀ j,j<i+1→c.okK j:=fun j hj=>by
 rcases Nat.lt_or_ge j i with hji | hji
 ·exact hall j hji
 ·obtain rfl:j=i:=by omega
  exact h
theorem s42 {c:CkI}:ad (ab FN (k+100)) 42 [ckV c] (.bool (ckB c)):=by
 refine ak aae fun T H E lv=>?_
 by_cases hn:0≤c.l∧c.l≤2147483647
 ·obtain ⟨n1,n4⟩:=id hn
  repeat (first | refine stN ?_ | intro E)
  refine aW (α:=Nat) (a8.mk (fun i=>i≤4∧∀ j,j<i→c.okK j) (fun i=>4-i) (fun i=>[(12,.int .i64 (i:Int)),(1,.pp (ckC c) 0)]) (fun _=>[])) (fun _ lv' c'=>lv'=lv∧c'=4) 0 ⟨by omega,fun j hj=>by omega⟩ ⟨rfl,rfl⟩ (show 4-0<k+99 by omega) ⟨rfl,rfl,trivial⟩ trivial ?_
  rintro i lv1 _ T H E hP ⟨hlv,rfl⟩ hμ
  have hP:i≤4∧∀ j,j<i→c.okK j:=hP
  obtain ⟨hi,hall⟩:=hP
  dsimp only
  clear hμ
  rcases Nat.lt_or_ge i 4 with hi4 | hi4
  ·have r1:=Bu c hi4
   have r2:=Bv c hi4
   have r3:=qD c hi4
   have gi:inB (i:Int) 4=some i:=aZ hi4
   have hbad:=ud (c:=c) hi4
   have hgood:(0≤c.R i∧c.R i≤c.l∧(c.O i=true∨c.R i=0)∧0≤c.A i∧c.A i≤1099511627776)→∀ j,j<i+1→c.okK j:=Bw hall
   unfold CkI.okK at hbad
   generalize c.O i=o at *
   generalize c.R i=x at *
   generalize c.A i=y at *
   have hz:rd (ckC c) 0 1 false=some (.int .i64 c.l):=rfl
   by_cases hG:0≤x∧x≤c.l∧(o=true∨x=0)∧0≤y∧y≤1099511627776
   ·have hg:=hgood hG
    obtain ⟨g1,g2,g3,g4,g5⟩:=hG
    generalize c.l=l at *
    cases o
    ·obtain rfl:x=0:=by simpa using g3
     repeat (first | refine stN ?_ | intro E)
     exact aB (i+1) ⟨by omega,hg⟩ ⟨hlv,rfl⟩ (show 4-(i+1)<4-i by omega) ⟨rfl,rfl,trivial⟩ trivial
    ·repeat (first | refine stN ?_ | intro E)
     exact aB (i+1) ⟨by omega,hg⟩ ⟨hlv,rfl⟩ (show 4-(i+1)<4-i by omega) ⟨rfl,rfl,trivial⟩ trivial
   ·rw [hbad hG]
    clear hbad hgood
    generalize c.l=l at *
    obtain q | q | q | q | q:x<0∨(0≤x∧l<x)∨(0≤x∧x≤l∧o=false∧x≠0)∨(0≤x∧x≤l∧(o=true∨x=0)∧y<0)∨(0≤x∧x≤l∧(o=true∨x=0)∧0≤y∧1099511627776<y):=by
     cases o<;>simp at hG ⊢<;>omega
    ·repeat (first | refine stN ?_ | intro E)
     apply bz
     repeat (first | refine stN ?_ | intro E)
     exact ae (.inr rfl) rfl rfl rfl rfl rfl rfl
    ·repeat (first | refine stN ?_ | intro E)
     apply bz
     repeat (first | refine stN ?_ | intro E)
     exact ae (.inr rfl) rfl rfl rfl rfl rfl rfl
    ·obtain ⟨q1,q2,rfl,q3⟩:=q
     repeat (first | refine stN ?_ | intro E)
     apply bz
     repeat (first | refine stN ?_ | intro E)
     exact ae (.inr rfl) rfl rfl rfl rfl rfl rfl
    ·obtain ⟨q1,q2,q3,q4⟩:=q
     cases o
     ·obtain rfl:x=0:=by simpa using q3
      repeat (first | refine stN ?_ | intro E)
      apply bz
      repeat (first | refine stN ?_ | intro E)
      exact ae (.inr rfl) rfl rfl rfl rfl rfl rfl
     ·repeat (first | refine stN ?_ | intro E)
      apply bz
      repeat (first | refine stN ?_ | intro E)
      exact ae (.inr rfl) rfl rfl rfl rfl rfl rfl
    ·obtain ⟨q1,q2,q3,q4,q5⟩:=q
     cases o
     ·obtain rfl:x=0:=by simpa using q3
      repeat (first | refine stN ?_ | intro E)
      apply bz
      repeat (first | refine stN ?_ | intro E)
      exact ae (.inr rfl) rfl rfl rfl rfl rfl rfl
     ·repeat (first | refine stN ?_ | intro E)
      apply bz
      repeat (first | refine stN ?_ | intro E)
      exact ae (.inr rfl) rfl rfl rfl rfl rfl rfl
  ·obtain rfl:i=4:=by omega
   rw [Bt ⟨hn,hall⟩]
   repeat (first | refine stN ?_ | intro E)
   apply aN
   apply aM
   repeat (first | refine stN ?_ | intro E)
   exact ae (.inr rfl) rfl rfl rfl rfl rfl rfl
 ·rw [vR fun hc=>hn hc.l]
  obtain h1 | h1:c.l<0∨(0≤c.l∧2147483647<c.l):=by omega
  all_goals
   repeat (first | refine stN ?_ | intro E)
   exact ae (.inr rfl) rfl rfl rfl rfl rfl rfl
theorem s47 {c:CkI}:ad (ab FN (k+100)) 47 [ckV c] (.bool (ckB c)):=by
 refine ak aaj fun T H E lv=>?_
 repeat (first | refine stN ?_ | intro E)
 refine aW (α:=Nat) (a8.mk (fun i=>i≤4∧∀ j,j<i→c.okK j) (fun i=>4-i) (fun i=>[(3,.int .i64 (i:Int)),(1,.pp (ckC c) 0)]) (fun _=>[])) (fun _ lv' c'=>lv'=lv∧c'=4) 0 ⟨by omega,fun j hj=>by omega⟩ ⟨rfl,rfl⟩ (show 4-0<k+99 by omega) ⟨rfl,rfl,trivial⟩ trivial ?_
 rintro i lv1 _ T H E hP ⟨hlv,rfl⟩ hμ
 have hP:i≤4∧∀ j,j<i→c.okK j:=hP
 obtain ⟨hi,hall⟩:=hP
 dsimp only
 clear hμ
 rcases Nat.lt_or_ge i 4 with hi4 | hi4
 ·have r1:=Bu c hi4
  have r2:=Bv c hi4
  have r3:=qD c hi4
  have gi:inB (i:Int) 4=some i:=aZ hi4
  have hbad:=ud (c:=c) hi4
  have hgood:(0≤c.R i∧c.R i≤c.l∧(c.O i=true∨c.R i=0)∧0≤c.A i∧c.A i≤1099511627776)→∀ j,j<i+1→c.okK j:=Bw hall
  unfold CkI.okK at hbad
  generalize c.O i=o at *
  generalize c.R i=x at *
  generalize c.A i=y at *
  have hz:rd (ckC c) 0 1 false=some (.int .i64 c.l):=rfl
  by_cases hG:0≤x∧x≤c.l∧(o=true∨x=0)∧0≤y∧y≤1099511627776
  ·have hg:=hgood hG
   obtain ⟨g1,g2,g3,g4,g5⟩:=hG
   generalize c.l=l at *
   by_cases hx0:x=0
   ·subst hx0
    repeat (first | refine stN ?_ | intro E)
    exact aB (i+1) ⟨by omega,hg⟩ ⟨hlv,rfl⟩ (show 4-(i+1)<4-i by omega) ⟨rfl,rfl,trivial⟩ trivial
   ·obtain rfl:o=true:=by simpa [hx0] using g3
    repeat (first | refine stN ?_ | intro E)
    exact aB (i+1) ⟨by omega,hg⟩ ⟨hlv,rfl⟩ (show 4-(i+1)<4-i by omega) ⟨rfl,rfl,trivial⟩ trivial
  ·rw [hbad hG]
   clear hbad hgood
   generalize c.l=l at *
   obtain q | q | ⟨q1,q2,q3,q4⟩ | ⟨q1,q2,q3,q4⟩:x<0∨(0≤x∧l<x)∨(0≤x∧x≤l∧o=false∧x≠0)∨(0≤x∧x≤l∧(o=true∨x=0)∧(y<0∨(0≤y∧1099511627776<y))):=by
    cases o<;>simp at hG ⊢<;>omega
   ·repeat (first | refine stN ?_ | intro E)
    apply bz
    repeat (first | refine stN ?_ | intro E)
    exact ae (.inr rfl) rfl rfl rfl rfl rfl rfl
   ·repeat (first | refine stN ?_ | intro E)
    apply bz
    repeat (first | refine stN ?_ | intro E)
    exact ae (.inr rfl) rfl rfl rfl rfl rfl rfl
   ·subst q3
    repeat (first | refine stN ?_ | intro E)
    apply bz
    repeat (first | refine stN ?_ | intro E)
    exact ae (.inr rfl) rfl rfl rfl rfl rfl rfl
   ·by_cases hx0:x=0
    ·subst hx0
     rcases q4 with q4 | q4
     all_goals
      repeat (first | refine stN ?_ | intro E)
      apply bz
      repeat (first | refine stN ?_ | intro E)
      exact ae (.inr rfl) rfl rfl rfl rfl rfl rfl
    ·obtain rfl:o=true:=by simpa [hx0] using q3
     rcases q4 with q4 | q4
     all_goals
      repeat (first | refine stN ?_ | intro E)
      apply bz
      repeat (first | refine stN ?_ | intro E)
      exact ae (.inr rfl) rfl rfl rfl rfl rfl rfl
 ·obtain rfl:i=4:=by omega
  by_cases hn:0≤c.l∧c.l≤2147483647
  ·rw [Bt ⟨hn,hall⟩]
   obtain ⟨n1,n4⟩:=id hn
   repeat (first | refine stN ?_ | intro E)
   apply aN
   apply aM
   repeat (first | refine stN ?_ | intro E)
   exact ae (.inr rfl) rfl rfl rfl rfl rfl rfl
  ·rw [vR fun hc=>hn hc.l]
   obtain h1 | h1:c.l<0∨(0≤c.l∧2147483647<c.l):=by omega
   all_goals
    repeat (first | refine stN ?_ | intro E)
    apply aN
    apply aM
    repeat (first | refine stN ?_ | intro E)
    exact ae (.inr rfl) rfl rfl rfl rfl rfl rfl
end Go.Proofs.YtepcejdglbcbkaaGreat
