/- Part 21 of the texts on which proofs about this seat rest: each says what it proves at its own head. No condition. -/
import Derived.Test.YtaeoaakblilfeaaM20
set_option linter.unusedVariables false
set_option linter.unusedSimpArgs false
/- An integer at the beginning of bytes is read, by the program. Condition: there are at most 100000 bytes. -/
namespace Go.Proofs.Ytaeoaakblilfeaa
open Go.Abs
variable {k : Nat}
theorem bt_lt256 (b : List UInt8) (i : Nat) : bt b i < 256 := by
  unfold bt; exact UInt8.toNat_lt _
end Go.Proofs.Ytaeoaakblilfeaa
