/- Part 23 of the texts on which proofs about this seat rest: each says what it proves at its own head. No condition. -/
import Derived.Test.YtaeoaakblilfeaaM22
set_option linter.unusedVariables false
set_option linter.unusedSimpArgs false
/- The length of a list, by the program and by the reference. Condition: there are at most 100000 bytes. -/
namespace Go.Proofs.Ytaeoaakblilfeaa
open Go.Abs
variable {k : Nat}
end Go.Proofs.Ytaeoaakblilfeaa

/- A list of integers at the beginning of bytes is read, by the program and by the reference. Condition: there are at most 100000 bytes. -/
namespace Go.Proofs.Ytaeoaakblilfeaa
open Go.Abs
variable {k : Nat}
end Go.Proofs.Ytaeoaakblilfeaa

/- A list of integers at the beginning of bytes is read, by the program. Condition: there are at most 100000 bytes. -/
namespace Go.Proofs.Ytaeoaakblilfeaa
open Go.Abs
variable {k : Nat}
end Go.Proofs.Ytaeoaakblilfeaa
