/- Part 30 of the texts on which proofs about this seat rest: each says what it proves at its own head. No condition. -/
import Derived.Test.YtaeoaakblilfeaaM29
set_option linter.unusedVariables false
set_option linter.unusedSimpArgs false
/- A device is read from bytes, by the reference. Condition: there are at most 100000 bytes. -/
namespace Go.Proofs.Ytaeoaakblilfeaa
open Go.Abs
variable {k : Nat}
end Go.Proofs.Ytaeoaakblilfeaa
