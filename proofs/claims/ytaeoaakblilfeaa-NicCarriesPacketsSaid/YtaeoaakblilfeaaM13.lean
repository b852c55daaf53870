/- Part 13 of the texts on which proofs about this seat rest: each says what it proves at its own head. No condition. -/
import Derived.Test.YtaeoaakblilfeaaM12
set_option linter.unusedVariables false
set_option linter.unusedSimpArgs false
/- Whether a device is valid, by the reference. Condition: the rings' sizes are words. -/
namespace Go.Proofs.Ytaeoaakblilfeaa
open Go.Abs
variable {k : Nat}
set_option maxRecDepth 100000 in
set_option maxHeartbeats 4000000 in
theorem s11 {x : NI} (h1 : x.ts < 4294967296) (h2 : x.rs < 4294967296) : Calls0 (evCall FN (k + 600)) 11 [niV x] (.bool (nvalidB x)) := by
  obtain ⟨tb, ts, rb, rs, ta, ra, st, dr⟩ := x
  dsimp only at h1 h2
  have c1 : Calls0 (evCall FN (k + 599)) 31 [.agg [.int .u32 tb, .int .u32 ts], .int .i64 ta] (.bool (placeB ts ta)) := (s31 (k := 0) h1).fuel (by omega)
  have c2 : Calls0 (evCall FN (k + 599)) 31 [.agg [.int .u32 rb, .int .u32 rs], .int .i64 ra] (.bool (placeB rs ra)) := (s31 (k := 0) h2).fuel (by omega)
  have e : nvalidB ⟨tb, ts, rb, rs, ta, ra, st, dr⟩ = (decide (st = 0 ∨ (160 ≤ st ∧ st ≤ 165)) && (placeB ts ta && (placeB rs ra && decide (0 ≤ dr ∧ dr ≤ 1099511627776)))) := rfl
  rw [e]
  change Calls0 _ _ [AV.agg [.int .u32 tb, .int .u32 ts, .int .u32 rb, .int .u32 rs, .int .i64 ta, .int .i64 ra, .int .i64 st, .int .i64 dr]] _
  refine q_call0 fn11 fun T H E lv => ?_
  rcases (show (st ≠ 0 ∧ st < 160) ∨ 165 < st ∨ (st = 0 ∨ (160 ≤ st ∧ st ≤ 165)) by omega) with ⟨t1, t2⟩ | t1 | t1
  · rw [decide_eq_false (show ¬ (st = 0 ∨ (160 ≤ st ∧ st ≤ 165)) by omega)]
    rw [Bool.false_and]
    cases hp : placeB ts ta
    · rw [hp] at c1
      repeat (first | refine stN ?_ | intro E)
      exact q_ret (.inr rfl) rfl rfl rfl rfl rfl rfl
    rw [hp] at c1
    cases hq : placeB rs ra
    · rw [hq] at c2
      repeat (first | refine stN ?_ | intro E)
      exact q_ret (.inr rfl) rfl rfl rfl rfl rfl rfl
    rw [hq] at c2
    rcases (show dr < 0 ∨ (0 ≤ dr ∧ dr ≤ 1099511627776) ∨ 1099511627776 < dr by omega) with u1 | ⟨u1, u2⟩ | u1
    all_goals
      repeat (first | refine stN ?_ | intro E)
      exact q_ret (.inr rfl) rfl rfl rfl rfl rfl rfl
  · rw [decide_eq_false (show ¬ (st = 0 ∨ (160 ≤ st ∧ st ≤ 165)) by omega)]
    rw [Bool.false_and]
    cases hp : placeB ts ta
    · rw [hp] at c1
      repeat (first | refine stN ?_ | intro E)
      exact q_ret (.inr rfl) rfl rfl rfl rfl rfl rfl
    rw [hp] at c1
    cases hq : placeB rs ra
    · rw [hq] at c2
      repeat (first | refine stN ?_ | intro E)
      exact q_ret (.inr rfl) rfl rfl rfl rfl rfl rfl
    rw [hq] at c2
    rcases (show dr < 0 ∨ (0 ≤ dr ∧ dr ≤ 1099511627776) ∨ 1099511627776 < dr by omega) with u1 | ⟨u1, u2⟩ | u1
    all_goals
      repeat (first | refine stN ?_ | intro E)
      exact q_ret (.inr rfl) rfl rfl rfl rfl rfl rfl
  rw [decide_eq_true t1]
  rcases t1 with t1 | ⟨t1, t2⟩
  all_goals
    cases hp : placeB ts ta
    · rw [hp] at c1
      repeat (first | refine stN ?_ | intro E)
      exact q_ret (.inr rfl) rfl rfl rfl rfl rfl rfl
    rw [hp] at c1
    cases hq : placeB rs ra
    · rw [hq] at c2
      repeat (first | refine stN ?_ | intro E)
      exact q_ret (.inr rfl) rfl rfl rfl rfl rfl rfl
    rw [hq] at c2
    rcases (show dr < 0 ∨ (0 ≤ dr ∧ dr ≤ 1099511627776) ∨ 1099511627776 < dr by omega) with u1 | ⟨u1, u2⟩ | u1
    · rw [decide_eq_false (show ¬ (0 ≤ dr ∧ dr ≤ 1099511627776) by omega)]
      repeat (first | refine stN ?_ | intro E)
      exact q_ret (.inr rfl) rfl rfl rfl rfl rfl rfl
    · rw [decide_eq_true (show 0 ≤ dr ∧ dr ≤ 1099511627776 from ⟨u1, u2⟩)]
      repeat (first | refine stN ?_ | intro E)
      exact q_ret (.inr rfl) rfl rfl rfl rfl rfl rfl
    · rw [decide_eq_false (show ¬ (0 ≤ dr ∧ dr ≤ 1099511627776) by omega)]
      repeat (first | refine stN ?_ | intro E)
      exact q_ret (.inr rfl) rfl rfl rfl rfl rfl rfl
end Go.Proofs.Ytaeoaakblilfeaa
