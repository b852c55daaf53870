/- Part 22 of the texts on which proofs about this seat rest: each says what it proves at its own head. No condition. -/
import Derived.Test.YtaeoaakblilfeaaM21
set_option linter.unusedVariables false
set_option linter.unusedSimpArgs false
/- An integer at the beginning of bytes is read, by the reference. Condition: there are at most 100000 bytes. -/
namespace Go.Proofs.Ytaeoaakblilfeaa
open Go.Abs
variable {k : Nat}
end Go.Proofs.Ytaeoaakblilfeaa
