/- Part 22 of the texts on which proofs about this seat rest: each says what it proves at its own head. No condition. -/
import Derived.Test.YthplidagfcdibaaM21
set_option linter.unusedVariables false
set_option linter.unusedSimpArgs false
/- A call of which it is shown that it answers one of several results. No condition. -/
namespace Go.Abs
variable {k : Nat}
theorem q_callE {α : Type} {FN : FuncId → Option FnDef} {f : FuncId} {fn : IFn} {vs : List AV} {R : α → AV} {P : α → Prop} (hf : FN f = some (.code fn)) (h : ∀ (T : Nat → AV) (H : Hp) (E : Nat → Option TypeId) (lv : Nat → Bool), Wp (evCall FN k) k fn.body ⟨slots (argSlots 0 vs) T, objs [] H, E, 0, lv, 4⟩ (fun e S => ∃ r, P r ∧ Ret fn (R r) e S)) : ∃ r, P r ∧ Calls0 (evCall FN (k + 1)) f vs (R r) := by
  have he : ∀ T : Nat → AV, T = (fun _ => .tup []) → slots (argSlots 0 vs) T = fun t => vs.getD t (.tup []) := by
    intro T hT
    subst hT
    funext t
    rw [argSlots_get]; simp
  have h1 := h (fun _ => .tup []) (fun _ => []) (fun _ => none) (fun _ => false)
  obtain ⟨e, S', e1, r, hP, hr⟩ := h1.ex
  refine ⟨r, hP, ⟨call0_of hf ?_⟩⟩
  rw [he _ rfl] at e1
  exact ⟨e, S', e1, hr⟩
end Go.Abs
