/- Part 21 of the texts on which proofs about this seat rest: each says what it proves at its own head. No condition. -/
import Derived.Test.YthplidagfcdibaaM20
set_option linter.unusedVariables false
set_option linter.unusedSimpArgs false
/- What a law asks of bytes that changed; a small device; a new device; a new memory; equal answers. Condition: the memories are valid, the numbers fit. -/
namespace Go.Proofs.Ythplidagfcdibaa
open Go.Abs
variable {k : Nat}
noncomputable def smallB (bs : List UInt8) (x : BI) : Bool := @decide (FewP bs x ∧ VM bs ∧ ValidP bs.length x) (Classical.propDecidable _)
theorem smallB_t {bs : List UInt8} {x : BI} (h : FewP bs x ∧ VM bs ∧ ValidP bs.length x) : smallB bs x = true := @decide_eq_true _ (Classical.propDecidable _) h
theorem smallB_f {bs : List UInt8} {x : BI} (h : ¬ (FewP bs x ∧ VM bs ∧ ValidP bs.length x)) : smallB bs x = false := @decide_eq_false _ (Classical.propDecidable _) h
theorem s20 {bs : List UInt8} {x : BI} {p : Nat} (hp : bs.length = 128 * p) (hb : x.b < 4294967296) (hs : x.s < 4294967296) (hr : ∀ r ∈ x.f, r.b < 4294967296 ∧ r.s < 4294967296) : Calls0 (evCall FN (k + 700)) 20 [biV x, memV bs] (.bool (smallB bs x)) := by
  have c9 : Calls0 (evCall FN (k + 699)) 9 [biV x, memV bs] (.bool (fewB bs x)) := s9 (k := k + 599)
  refine q_call0 fn20 fun T H E lv => ?_
  by_cases hF : FewP bs x
  · rw [fewB_t hF] at c9
    obtain ⟨f1, f2, f3, f4⟩ := hF
    have hpl : p ≤ 16 := by rw [List.length_map] at f2; omega
    by_cases h0 : p = 0
    · have c10 : Calls0 (evCall FN (k + 699)) 10 [memV bs] (.bool false) := s10f (k := k + 698) hp (.inl h0)
      rw [smallB_f fun h => by obtain ⟨_, ⟨q, q1, q2, q3⟩, _⟩ := h; omega]
      dsimp only [biV, biC] at c9 ⊢
      repeat (first | refine stN ?_ | intro E)
      exact q_ret (.inr rfl) rfl rfl rfl rfl rfl rfl
    · have h : VM bs := ⟨p, by omega, by omega, hp⟩
      have c10 : Calls0 (evCall FN (k + 699)) 10 [memV bs] (.bool true) := s10t (k := k + 698) h
      have hri : ∀ r ∈ x.f, RIok r := fun r hr' => ⟨(hr r hr').1, (hr r hr').2, by
        have := f1 r (by rw [List.take_of_length_le (by omega)]; exact hr'); omega⟩
      have c12 : Calls0 (evCall FN (k + 699)) 12 [biV x, memV bs] (.bool (validB bs.length x)) := s12 (k := k + 99) h hb hs (by omega) (by omega) hri
      by_cases hV : ValidP bs.length x
      · rw [validB_t hV] at c12
        rw [smallB_t ⟨⟨f1, f2, f3, f4⟩, h, hV⟩]
        dsimp only [biV, biC] at c9 c12 ⊢
        repeat (first | refine stN ?_ | intro E)
        exact q_ret (.inr rfl) rfl rfl rfl rfl rfl rfl
      · rw [validB_f hV] at c12
        rw [smallB_f fun h => hV h.2.2]
        dsimp only [biV, biC] at c9 c12 ⊢
        repeat (first | refine stN ?_ | intro E)
        exact q_ret (.inr rfl) rfl rfl rfl rfl rfl rfl
  · rw [fewB_f hF] at c9
    rw [smallB_f fun h => hF h.1]
    dsimp only [biV, biC] at c9 ⊢
    repeat (first | refine stN ?_ | intro E)
    exact q_ret (.inr rfl) rfl rfl rfl rfl rfl rfl
end Go.Proofs.Ythplidagfcdibaa
