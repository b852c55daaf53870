/- Part 22 of the texts on which proofs about this seat rest: each says what it proves at its own head. No condition. -/
import Derived.Test.YthplidagfcdibaaM21
set_option linter.unusedVariables false
set_option linter.unusedSimpArgs false
/- The examples of the documentation: evaluated. No condition. -/
namespace Go.Proofs.Ythplidagfcdibaa
open Go.Abs
variable {k : Nat}
theorem s11l : call0 (evCall FNl 300) 11 [] = some (.bool true) := by kernel_rfl
theorem s11 : Calls0 (evCall FN (k + 300)) 11 [] (.bool true) :=
  Calls0.fuel (k := 300) ⟨call0_mono (evCall_mono (fun f d h => FNl_le f d h) 300 300 (Nat.le_refl _)) s11l⟩ (by omega)
end Go.Proofs.Ythplidagfcdibaa
