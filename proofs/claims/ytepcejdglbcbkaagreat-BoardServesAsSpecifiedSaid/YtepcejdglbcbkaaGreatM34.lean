/- Part of the texts on which proofs about this seat rest: each says what it proves at its own head. No condition. -/
import Derived.Test.YtepcejdglbcbkaaGreatM33
set_option linter.unusedVariables false
set_option linter.unusedSimpArgs false
set_option maxRecDepth 100000
/- Whether a position is right for a ring, by the program and by the reference. No condition but that the numbers are such as their types hold. -/
namespace Go.Proofs.YtepcejdglbcbkaaGreat
open Go.Abs
variable {k:Nat}
def dF (s:Nat):Prop:=s=1∨s=2∨s=4∨s=8
def cV (s:Nat) (a:Int):Prop:=(dF s∧0≤a∧a<s)∨(¬ dF s∧a=0)
noncomputable def cK (s:Nat) (a:Int):Bool:=@decide (cV s a) (Classical.propDecidable _)
theorem hJ {s:Nat}{a:Int}(h:cV s a):cK s a=true:=@decide_eq_true _ (Classical.propDecidable _) h
theorem hK {s:Nat}{a:Int}(h:¬ cV s a):cK s a=false:=@decide_eq_false _ (Classical.propDecidable _) h
theorem SD {b s:Nat}{a:Int}(hs:s<4294967296):ad (ab FN (k+1)) 106 [.agg [.int .u32 b,.int .u32 s],.int .i64 a] (.bool (cK s a)):=by
 refine ak XO fun T H E lv=>?_
 by_cases h:dF s
 ·by_cases h1:0≤a
  ·by_cases h2:a<s
   ·rw [hJ (.inl ⟨h,h1,h2⟩)]
    rcases h with rfl | rfl | rfl | rfl
    all_goals
     repeat (first | refine stN ?_ | intro E)
     exact ae (.inr rfl) rfl rfl rfl rfl rfl rfl
   ·rw [hK (fun h'=>h'.elim (fun h'=>h2 h'.2.2) (fun h'=>h'.1 h))]
    rcases h with rfl | rfl | rfl | rfl
    all_goals
     repeat (first | refine stN ?_ | intro E)
     exact ae (.inr rfl) rfl rfl rfl rfl rfl rfl
  ·rw [hK (fun h'=>h'.elim (fun h'=>h1 h'.2.1) (fun h'=>h'.1 h))]
   rcases h with rfl | rfl | rfl | rfl
   all_goals
    repeat (first | refine stN ?_ | intro E)
    exact ae (.inr rfl) rfl rfl rfl rfl rfl rfl
 ·have hh:=h
  unfold dF at hh
  by_cases h1:a=0
  ·rw [hJ (.inr ⟨h,h1⟩)]
   repeat (first | refine stN ?_ | intro E)
   exact ae (.inr rfl) rfl rfl rfl rfl rfl rfl
  ·rw [hK (fun h'=>h'.elim (fun h'=>h h'.1) (fun h'=>h1 h'.2))]
   repeat (first | refine stN ?_ | intro E)
   exact ae (.inr rfl) rfl rfl rfl rfl rfl rfl
theorem SE {b s:Nat}{a:Int}(hs:s<4294967296):ad (ab FN (k+1)) 109 [.agg [.int .u32 b,.int .u32 s],.int .i64 a] (.bool (cK s a)):=by
 refine ak XR fun T H E lv=>?_
 by_cases h:dF s
 ·by_cases h1:0≤a
  ·by_cases h2:a<s
   ·rw [hJ (.inl ⟨h,h1,h2⟩)]
    rcases h with rfl | rfl | rfl | rfl
    all_goals
     repeat (first | refine stN ?_ | intro E)
     exact ae (.inr rfl) rfl rfl rfl rfl rfl rfl
   ·rw [hK (fun h'=>h'.elim (fun h'=>h2 h'.2.2) (fun h'=>h'.1 h))]
    rcases h with rfl | rfl | rfl | rfl
    all_goals
     repeat (first | refine stN ?_ | intro E)
     exact ae (.inr rfl) rfl rfl rfl rfl rfl rfl
  ·rw [hK (fun h'=>h'.elim (fun h'=>h1 h'.2.1) (fun h'=>h'.1 h))]
   rcases h with rfl | rfl | rfl | rfl
   all_goals
    repeat (first | refine stN ?_ | intro E)
    exact ae (.inr rfl) rfl rfl rfl rfl rfl rfl
 ·have hh:=h
  unfold dF at hh
  by_cases h1:a=0
  ·rw [hJ (.inr ⟨h,h1⟩)]
   repeat (first | refine stN ?_ | intro E)
   exact ae (.inr rfl) rfl rfl rfl rfl rfl rfl
  ·rw [hK (fun h'=>h'.elim (fun h'=>h h'.1) (fun h'=>h1 h'.2))]
   repeat (first | refine stN ?_ | intro E)
   exact ae (.inr rfl) rfl rfl rfl rfl rfl rfl
end Go.Proofs.YtepcejdglbcbkaaGreat
