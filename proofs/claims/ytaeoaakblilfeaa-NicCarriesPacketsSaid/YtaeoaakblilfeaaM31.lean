/- Part 31 of the texts on which proofs about this seat rest: each says what it proves at its own head. No condition. -/
import Derived.Test.YtaeoaakblilfeaaM30
set_option linter.unusedVariables false
set_option linter.unusedSimpArgs false
/- NicReadsBack: what it answers. Condition: the arguments are such as their types hold. -/
namespace Go.Proofs.Ytaeoaakblilfeaa
open Go.Abs
variable {k : Nat}
theorem b2s_ok (b : List UInt8) : csz 1 (b.map ofB) = 1 ∨ (csz 1 (b.map ofB) = 0 ∧ b = []) := by
  cases b with
  | nil => exact .inr ⟨rfl, rfl⟩
  | cons x b => exact .inl rfl
theorem neq_str (b : List UInt8) : evBin .neq (.str b) (.str b) = some (.bool false) := by simp [evBin, evStr]
end Go.Proofs.Ytaeoaakblilfeaa
