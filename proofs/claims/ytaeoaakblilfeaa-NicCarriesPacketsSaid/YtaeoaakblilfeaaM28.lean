/- Part 28 of the texts on which proofs about this seat rest: each says what it proves at its own head. No condition. -/
import Derived.Test.YtaeoaakblilfeaaM27
set_option linter.unusedVariables false
set_option linter.unusedSimpArgs false
/- The encoding of a device, by the program and by the reference. Condition: its numbers fit their types. -/
namespace Go.Proofs.Ytaeoaakblilfeaa
open Go.Abs
variable {k : Nat}
def niL (x : NI) : List Int := [x.tb, x.ts, x.rb, x.rs, x.ta, x.ra, x.st, x.dr]
structure NR (x : NI) : Prop where
  tb : x.tb < 4294967296
  ts : x.ts < 4294967296
  rb : x.rb < 4294967296
  rs : x.rs < 4294967296
  ta : I64 x.ta
  ra : I64 x.ra
  st : I64 x.st
  dr : I64 x.dr
theorem NR.all {x : NI} (h : NR x) : ∀ n ∈ niL x, I64 n := by
  intro n hn
  have h1 := h.tb; have h2 := h.ts; have h3 := h.rb; have h4 := h.rs
  simp only [niL, List.mem_cons, List.not_mem_nil, or_false] at hn
  rcases hn with rfl | rfl | rfl | rfl | rfl | rfl | rfl | rfl
  · exact ⟨by omega, by omega⟩
  · exact ⟨by omega, by omega⟩
  · exact ⟨by omega, by omega⟩
  · exact ⟨by omega, by omega⟩
  · exact h.ta
  · exact h.ra
  · exact h.st
  · exact h.dr
set_option maxRecDepth 100000 in
theorem s12 {x : NI} (h : NR x) : Calls0 (evCall FN (k + 5400)) 12 [niV x] (csl 1 ((encL (niL x)).map ofB)) := by
  have c32 : Calls0 (evCall FN (k + 5399)) 32 [csl 1 (iV (niL x))] (csl 1 ((encL (niL x)).map ofB)) := c32 (k := k + 99) (by simp [niL]) h.all
  have h1 := h.tb; have h2 := h.ts; have h3 := h.rb; have h4 := h.rs
  generalize encL (niL x) = e at *
  refine q_call0 fn12 fun T H E lv => ?_
  obtain ⟨tb, ts, rb, rs, ta, ra, st, dr⟩ := x
  dsimp only at h1 h2 h3 h4
  show Wp _ _ _ ⟨slots (argSlots 0 [AV.agg [.int .u32 tb, .int .u32 ts, .int .u32 rb, .int .u32 rs, .int .i64 ta, .int .i64 ra, .int .i64 st, .int .i64 dr]]) _, _, _, _, _, _⟩ _
  repeat (first | refine stN ?_ | intro E)
  refine q_ret (.inr rfl) rfl rfl rfl ?_ ?_ ?_
  · cases e <;> rfl
  · cases e <;> rfl
  · cases e <;> simp [csl, AV.flat]
set_option maxRecDepth 100000 in
theorem s13 {x : NI} (h : NR x) : Calls0 (evCall FN (k + 5400)) 13 [niV x] (csl 1 ((encL (niL x)).map ofB)) := by
  have c33 : Calls0 (evCall FN (k + 5399)) 33 [csl 1 (iV (niL x))] (csl 1 ((encL (niL x)).map ofB)) := evP_call0 (s33 (k := k + 199) (by simp [niL]) h.all) rfl
  have h1 := h.tb; have h2 := h.ts; have h3 := h.rb; have h4 := h.rs
  generalize encL (niL x) = e at *
  refine q_call0 fn13 fun T H E lv => ?_
  obtain ⟨tb, ts, rb, rs, ta, ra, st, dr⟩ := x
  dsimp only at h1 h2 h3 h4
  show Wp _ _ _ ⟨slots (argSlots 0 [AV.agg [.int .u32 tb, .int .u32 ts, .int .u32 rb, .int .u32 rs, .int .i64 ta, .int .i64 ra, .int .i64 st, .int .i64 dr]]) _, _, _, _, _, _⟩ _
  repeat (first | refine stN ?_ | intro E)
  refine q_ret (.inr rfl) rfl rfl rfl ?_ ?_ ?_
  · cases e <;> rfl
  · cases e <;> rfl
  · cases e <;> simp [csl, AV.flat]
end Go.Proofs.Ytaeoaakblilfeaa
