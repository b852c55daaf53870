/- Part 17 of the texts on which proofs about this seat rest: each says what it proves at its own head. No condition. -/
import Derived.Test.YtaeoaakblilfeaaM16
set_option linter.unusedVariables false
set_option linter.unusedSimpArgs false
/- What a device does when it is asked, by the reference. Condition: the memory is valid, the device is valid. -/
namespace Go.Proofs.Ytaeoaakblilfeaa
open Go.Abs
variable {k : Nat}
def portC (tb ts rb rs ta ra st dr : Nat) (m : List UInt8) (i : Bool) (p : Int) (w : Nat) : List AV :=
  if i then
    if p = 64 then doC tb ts rb rs ta ra st dr m tb (.sl 1 0 []) false true
    else if p = 65 then doC tb ts rb rs ta ra st dr m ts (.sl 1 0 []) false true
    else if p = 66 then doC tb ts rb rs ta ra st dr m rb (.sl 1 0 []) false true
    else if p = 67 then doC tb ts rb rs ta ra st dr m rs (.sl 1 0 []) false true
    else if p = 69 then doC tb ts rb rs ta ra 0 dr m st (.sl 1 0 []) false true
    else if p = 70 then doC tb ts rb rs ta ra st dr m (dr % 4294967296) (.sl 1 0 []) false true
    else doC tb ts rb rs ta ra st dr m 0 (.sl 1 0 []) false false
  else
    if p = 64 then doC w ts rb rs 0 ra st dr m 0 (.sl 1 0 []) false true
    else if p = 65 then doC tb w rb rs 0 ra st dr m 0 (.sl 1 0 []) false true
    else if p = 66 then doC tb ts w rs ta 0 st dr m 0 (.sl 1 0 []) false true
    else if p = 67 then doC tb ts rb w ta 0 st dr m 0 (.sl 1 0 []) false true
    else if p = 68 then
      if chkN m.length tb ts ≠ 0 then doC tb ts rb rs ta ra (chkN m.length tb ts) dr m 0 (.sl 1 0 []) false true
      else doC tb ts rb rs (trun tb ts ts ⟨m, [], false, ta, st⟩).a ra (trun tb ts ts ⟨m, [], false, ta, st⟩).st dr (trun tb ts ts ⟨m, [], false, ta, st⟩).m 0 (csl 1 (outV (trun tb ts ts ⟨m, [], false, ta, st⟩).o)) (trun tb ts ts ⟨m, [], false, ta, st⟩).r true
    else doC tb ts rb rs ta ra st dr m 0 (.sl 1 0 []) false false
set_option maxRecDepth 100000 in
theorem s38e {tb ts rb rs v : Nat} {ta ra st dr : Int} {m : List UInt8} {r ok : Bool} (h : VM m) (hb : tb < 4294967296) (hs : ts < 4294967296) (hc : chkN m.length tb ts ≠ 0) :
    Calls0 (evCall FN (k + 10600)) 38 [.agg (doC tb ts rb rs ta ra st dr m v (.sl 1 0 []) r ok)] (.agg (doC tb ts rb rs ta ra (chkN m.length tb ts) dr m v (.sl 1 0 []) r ok)) := by
  have hc := (chk_cases m.length tb ts).resolve_left hc
  have c21 : Calls0 (evCall FN (k + 10599)) 21 [memV m, ringV tb ts] (.int .i64 (chkN m.length tb ts)) := (s21 (k := 0) h hb hs).fuel (by omega)
  rw [hc] at c21 ⊢
  refine q_call0 fn38 fun T H E lv => ?_
  repeat (first | refine stN ?_ | intro E)
  exact q_ret (.inr rfl) rfl rfl rfl rfl rfl rfl
theorem w32m (n : Nat) : IntKind.u32.wrap (n : Int) = ((n % 4294967296 : Nat) : Int) := by
  have e1 : (2 ^ IntKind.u32.bits : Int) = 4294967296 := by decide +kernel
  have hs : IntKind.u32.signed = false := rfl
  unfold IntKind.wrap
  simp only [e1, hs, Bool.false_and, Bool.false_eq_true, if_false]
  omega
set_option maxRecDepth 100000 in
set_option maxHeartbeats 4000000 in
theorem s16 {tb ts rb rs ta ra st dr w : Nat} {p : Int} {i : Bool} {m : List UInt8} (h : VM m) (hb : tb < 4294967296) (hs : ts < 4294967296) (hst : st ≤ 165) (ha : wholeN ts → ta < ts) :
    Calls0 (evCall FN (k + 10700)) 16 [.agg [.int .u32 tb, .int .u32 ts, .int .u32 rb, .int .u32 rs, .int .i64 ta, .int .i64 ra, .int .i64 st, .int .i64 dr], memV m, .agg [.bool i, .int .i64 p, .int .u32 w]] (.agg (portC tb ts rb rs ta ra st dr m i p w)) := by
  refine q_call0 fn16 fun T H E lv => ?_
  unfold portC
  cases i
  · rw [if_neg (by decide)]
    by_cases h1 : p = 64
    · subst h1
      rw [if_pos rfl]
      repeat (first | refine stN ?_ | intro E)
      exact q_ret (.inr rfl) rfl rfl rfl rfl rfl rfl
    rw [if_neg h1]
    by_cases h2 : p = 65
    · subst h2
      rw [if_pos rfl]
      repeat (first | refine stN ?_ | intro E)
      exact q_ret (.inr rfl) rfl rfl rfl rfl rfl rfl
    rw [if_neg h2]
    by_cases h3 : p = 66
    · subst h3
      rw [if_pos rfl]
      repeat (first | refine stN ?_ | intro E)
      exact q_ret (.inr rfl) rfl rfl rfl rfl rfl rfl
    rw [if_neg h3]
    by_cases h4 : p = 67
    · subst h4
      rw [if_pos rfl]
      repeat (first | refine stN ?_ | intro E)
      exact q_ret (.inr rfl) rfl rfl rfl rfl rfl rfl
    rw [if_neg h4]
    by_cases h5 : p = 68
    · subst h5
      rw [if_pos rfl]
      by_cases hc : chkN m.length tb ts ≠ 0
      · rw [if_pos hc]
        have c38 : Calls0 (evCall FN (k + 10699)) 38 [.agg (doC tb ts rb rs ta ra st dr m 0 (.sl 1 0 []) false true)] (.agg (doC tb ts rb rs ta ra (chkN m.length tb ts) dr m 0 (.sl 1 0 []) false true)) := s38e (k := k + 99) h hb hs hc
        repeat (first | refine stN ?_ | intro E)
        exact q_ret (.inr rfl) rfl rfl rfl rfl rfl rfl
      · rw [if_neg hc]
        have hrv := chk_rv h (Decidable.not_not.1 hc)
        have c38 : Calls0 (evCall FN (k + 10699)) 38 [.agg (doC tb ts rb rs ta ra st dr m 0 (.sl 1 0 []) false true)] _ := s38 (k := k + 99) hrv (ha hrv.hs)
        generalize trun tb ts ts ⟨m, [], false, ta, st⟩ = R at *
        repeat (first | refine stN ?_ | intro E)
        refine q_ret (.inr rfl) rfl rfl rfl rfl rfl ?_
        simp [AV.flat, flatL, csl, doC]
    rw [if_neg h5]
    repeat (first | refine stN ?_ | intro E)
    exact q_ret (.inr rfl) rfl rfl rfl rfl rfl rfl
  · rw [if_pos rfl]
    by_cases h1 : p = 64
    · subst h1
      rw [if_pos rfl]
      repeat (first | refine stN ?_ | intro E)
      exact q_ret (.inr rfl) rfl rfl rfl rfl rfl rfl
    rw [if_neg h1]
    by_cases h2 : p = 65
    · subst h2
      rw [if_pos rfl]
      repeat (first | refine stN ?_ | intro E)
      exact q_ret (.inr rfl) rfl rfl rfl rfl rfl rfl
    rw [if_neg h2]
    by_cases h3 : p = 66
    · subst h3
      rw [if_pos rfl]
      repeat (first | refine stN ?_ | intro E)
      exact q_ret (.inr rfl) rfl rfl rfl rfl rfl rfl
    rw [if_neg h3]
    by_cases h4 : p = 67
    · subst h4
      rw [if_pos rfl]
      repeat (first | refine stN ?_ | intro E)
      exact q_ret (.inr rfl) rfl rfl rfl rfl rfl rfl
    rw [if_neg h4]
    by_cases h5 : p = 69
    · subst h5
      rw [if_pos rfl]
      repeat (first | refine stN ?_ | intro E)
      exact q_ret (.inr rfl) rfl rfl rfl rfl rfl rfl
    rw [if_neg h5]
    by_cases h6 : p = 70
    · subst h6
      rw [if_pos rfl]
      have hw := w32m dr
      repeat (first | refine stN ?_ | intro E)
      exact q_ret (.inr rfl) rfl rfl rfl rfl rfl rfl
    rw [if_neg h6]
    repeat (first | refine stN ?_ | intro E)
    exact q_ret (.inr rfl) rfl rfl rfl rfl rfl rfl
end Go.Proofs.Ytaeoaakblilfeaa
