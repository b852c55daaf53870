/- Part 12 of the texts on which proofs about this seat rest: each says what it proves at its own head. No condition. -/
import Derived.Test.YtaeoaakblilfeaaM11
set_option linter.unusedVariables false
set_option linter.unusedSimpArgs false
/- Whether a position is right for a ring, by the program and by the reference. No condition but that the numbers are such as their types hold. -/
namespace Go.Proofs.Ytaeoaakblilfeaa
open Go.Abs
variable {k : Nat}
def wholeN (s : Nat) : Prop := s = 1 ∨ s = 2 ∨ s = 4 ∨ s = 8
def PlaceP (s : Nat) (a : Int) : Prop := (wholeN s ∧ 0 ≤ a ∧ a < s) ∨ (¬ wholeN s ∧ a = 0)
noncomputable def placeB (s : Nat) (a : Int) : Bool := @decide (PlaceP s a) (Classical.propDecidable _)
theorem placeB_t {s : Nat} {a : Int} (h : PlaceP s a) : placeB s a = true := @decide_eq_true _ (Classical.propDecidable _) h
theorem placeB_f {s : Nat} {a : Int} (h : ¬ PlaceP s a) : placeB s a = false := @decide_eq_false _ (Classical.propDecidable _) h
set_option maxRecDepth 100000 in
theorem s30 {b s : Nat} {a : Int} (hs : s < 4294967296) : Calls0 (evCall FN (k + 1)) 30 [.agg [.int .u32 b, .int .u32 s], .int .i64 a] (.bool (placeB s a)) := by
  refine q_call0 fn30 fun T H E lv => ?_
  by_cases h : wholeN s
  · by_cases h1 : 0 ≤ a
    · by_cases h2 : a < s
      · rw [placeB_t (.inl ⟨h, h1, h2⟩)]
        rcases h with rfl | rfl | rfl | rfl
        all_goals
          repeat (first | refine stN ?_ | intro E)
          exact q_ret (.inr rfl) rfl rfl rfl rfl rfl rfl
      · rw [placeB_f (fun h' => h'.elim (fun h' => h2 h'.2.2) (fun h' => h'.1 h))]
        rcases h with rfl | rfl | rfl | rfl
        all_goals
          repeat (first | refine stN ?_ | intro E)
          exact q_ret (.inr rfl) rfl rfl rfl rfl rfl rfl
    · rw [placeB_f (fun h' => h'.elim (fun h' => h1 h'.2.1) (fun h' => h'.1 h))]
      rcases h with rfl | rfl | rfl | rfl
      all_goals
        repeat (first | refine stN ?_ | intro E)
        exact q_ret (.inr rfl) rfl rfl rfl rfl rfl rfl
  · have hh := h
    unfold wholeN at hh
    by_cases h1 : a = 0
    · rw [placeB_t (.inr ⟨h, h1⟩)]
      repeat (first | refine stN ?_ | intro E)
      exact q_ret (.inr rfl) rfl rfl rfl rfl rfl rfl
    · rw [placeB_f (fun h' => h'.elim (fun h' => h h'.1) (fun h' => h1 h'.2))]
      repeat (first | refine stN ?_ | intro E)
      exact q_ret (.inr rfl) rfl rfl rfl rfl rfl rfl
set_option maxRecDepth 100000 in
theorem s31 {b s : Nat} {a : Int} (hs : s < 4294967296) : Calls0 (evCall FN (k + 1)) 31 [.agg [.int .u32 b, .int .u32 s], .int .i64 a] (.bool (placeB s a)) := by
  refine q_call0 fn31 fun T H E lv => ?_
  by_cases h : wholeN s
  · by_cases h1 : 0 ≤ a
    · by_cases h2 : a < s
      · rw [placeB_t (.inl ⟨h, h1, h2⟩)]
        rcases h with rfl | rfl | rfl | rfl
        all_goals
          repeat (first | refine stN ?_ | intro E)
          exact q_ret (.inr rfl) rfl rfl rfl rfl rfl rfl
      · rw [placeB_f (fun h' => h'.elim (fun h' => h2 h'.2.2) (fun h' => h'.1 h))]
        rcases h with rfl | rfl | rfl | rfl
        all_goals
          repeat (first | refine stN ?_ | intro E)
          exact q_ret (.inr rfl) rfl rfl rfl rfl rfl rfl
    · rw [placeB_f (fun h' => h'.elim (fun h' => h1 h'.2.1) (fun h' => h'.1 h))]
      rcases h with rfl | rfl | rfl | rfl
      all_goals
        repeat (first | refine stN ?_ | intro E)
        exact q_ret (.inr rfl) rfl rfl rfl rfl rfl rfl
  · have hh := h
    unfold wholeN at hh
    by_cases h1 : a = 0
    · rw [placeB_t (.inr ⟨h, h1⟩)]
      repeat (first | refine stN ?_ | intro E)
      exact q_ret (.inr rfl) rfl rfl rfl rfl rfl rfl
    · rw [placeB_f (fun h' => h'.elim (fun h' => h h'.1) (fun h' => h1 h'.2))]
      repeat (first | refine stN ?_ | intro E)
      exact q_ret (.inr rfl) rfl rfl rfl rfl rfl rfl
end Go.Proofs.Ytaeoaakblilfeaa

/- Whether a device is valid, by the program. Condition: the rings' sizes are words. -/
namespace Go.Proofs.Ytaeoaakblilfeaa
open Go.Abs
variable {k : Nat}
structure NI where
  tb : Nat
  ts : Nat
  rb : Nat
  rs : Nat
  ta : Int
  ra : Int
  st : Int
  dr : Int
def niC (x : NI) : List AV := [.int .u32 x.tb, .int .u32 x.ts, .int .u32 x.rb, .int .u32 x.rs, .int .i64 x.ta, .int .i64 x.ra, .int .i64 x.st, .int .i64 x.dr]
def niV (x : NI) : AV := .agg (niC x)
noncomputable def nvalidB (x : NI) : Bool := decide (x.st = 0 ∨ (160 ≤ x.st ∧ x.st ≤ 165)) && (placeB x.ts x.ta && (placeB x.rs x.ra && decide (0 ≤ x.dr ∧ x.dr ≤ 1099511627776)))
set_option maxRecDepth 100000 in
set_option maxHeartbeats 4000000 in
theorem s10 {x : NI} (h1 : x.ts < 4294967296) (h2 : x.rs < 4294967296) : Calls0 (evCall FN (k + 600)) 10 [niV x] (.bool (nvalidB x)) := by
  obtain ⟨tb, ts, rb, rs, ta, ra, st, dr⟩ := x
  dsimp only at h1 h2
  have c1 : Calls0 (evCall FN (k + 599)) 30 [.agg [.int .u32 tb, .int .u32 ts], .int .i64 ta] (.bool (placeB ts ta)) := (s30 (k := 0) h1).fuel (by omega)
  have c2 : Calls0 (evCall FN (k + 599)) 30 [.agg [.int .u32 rb, .int .u32 rs], .int .i64 ra] (.bool (placeB rs ra)) := (s30 (k := 0) h2).fuel (by omega)
  have e : nvalidB ⟨tb, ts, rb, rs, ta, ra, st, dr⟩ = (decide (st = 0 ∨ (160 ≤ st ∧ st ≤ 165)) && (placeB ts ta && (placeB rs ra && decide (0 ≤ dr ∧ dr ≤ 1099511627776)))) := rfl
  rw [e]
  change Calls0 _ _ [AV.agg [.int .u32 tb, .int .u32 ts, .int .u32 rb, .int .u32 rs, .int .i64 ta, .int .i64 ra, .int .i64 st, .int .i64 dr]] _
  refine q_call0 fn10 fun T H E lv => ?_
  rcases (show (st ≠ 0 ∧ st < 160) ∨ 165 < st ∨ (st = 0 ∨ (160 ≤ st ∧ st ≤ 165)) by omega) with ⟨t1, t2⟩ | t1 | t1
  · rw [decide_eq_false (show ¬ (st = 0 ∨ (160 ≤ st ∧ st ≤ 165)) by omega)]
    clear c1 c2
    repeat (first | refine stN ?_ | intro E)
    exact q_ret (.inr rfl) rfl rfl rfl rfl rfl rfl
  · rw [decide_eq_false (show ¬ (st = 0 ∨ (160 ≤ st ∧ st ≤ 165)) by omega)]
    clear c1 c2
    repeat (first | refine stN ?_ | intro E)
    exact q_ret (.inr rfl) rfl rfl rfl rfl rfl rfl
  rw [decide_eq_true t1]
  rcases t1 with t1 | ⟨t1, t2⟩
  all_goals
    cases hp : placeB ts ta
    · rw [hp] at c1
      repeat (first | refine stN ?_ | intro E)
      exact q_ret (.inr rfl) rfl rfl rfl rfl rfl rfl
    rw [hp] at c1
    cases hq : placeB rs ra
    · rw [hq] at c2
      repeat (first | refine stN ?_ | intro E)
      exact q_ret (.inr rfl) rfl rfl rfl rfl rfl rfl
    rw [hq] at c2
    rcases (show dr < 0 ∨ (0 ≤ dr ∧ dr ≤ 1099511627776) ∨ 1099511627776 < dr by omega) with u1 | ⟨u1, u2⟩ | u1
    · rw [decide_eq_false (show ¬ (0 ≤ dr ∧ dr ≤ 1099511627776) by omega)]
      repeat (first | refine stN ?_ | intro E)
      exact q_ret (.inr rfl) rfl rfl rfl rfl rfl rfl
    · rw [decide_eq_true (show 0 ≤ dr ∧ dr ≤ 1099511627776 from ⟨u1, u2⟩)]
      repeat (first | refine stN ?_ | intro E)
      exact q_ret (.inr rfl) rfl rfl rfl rfl rfl rfl
    · rw [decide_eq_false (show ¬ (0 ≤ dr ∧ dr ≤ 1099511627776) by omega)]
      repeat (first | refine stN ?_ | intro E)
      exact q_ret (.inr rfl) rfl rfl rfl rfl rfl rfl
end Go.Proofs.Ytaeoaakblilfeaa
