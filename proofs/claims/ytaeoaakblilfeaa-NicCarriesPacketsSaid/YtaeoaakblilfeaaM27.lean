/- Part 27 of the texts on which proofs about this seat rest: each says what it proves at its own head. No condition. -/
import Derived.Test.YtaeoaakblilfeaaM26
import Derived.KernelRfl
set_option linter.unusedVariables false
set_option linter.unusedSimpArgs false
/- The examples of the documentation are as they are. No condition. -/
namespace Go.Proofs.Ytaeoaakblilfeaa
open Go.Abs
variable {k : Nat}
noncomputable def FNk : FuncId → Option FnDef := fun f => if f = 80 then some (.prim (pGather (evCall FN0 20000))) else FNl f
theorem FNk_le (f : FuncId) (d : FnDef) (h : FNk f = some d) : FN f = some d := by
  unfold FNk at h
  split at h
  · next e => subst e; rw [← h]; exact fn80
  · exact FNl_le f d h
theorem s9l : call0 (evCall FNk 400) 9 [] = some (.bool true) := by kernel_rfl
theorem s9 : Calls0 (evCall FN (k + 400)) 9 [] (.bool true) :=
  Calls0.fuel (k := 400) ⟨call0_mono (evCall_mono (fun f d h => FNk_le f d h) 400 400 (Nat.le_refl _)) s9l⟩ (by omega)
end Go.Proofs.Ytaeoaakblilfeaa
