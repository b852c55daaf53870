/- Part 8 of the texts on which proofs about this seat rest: each says what it proves at its own head. No condition. -/
import Derived.Test.YthplidagfcdibaaM7
set_option linter.unusedVariables false
set_option linter.unusedSimpArgs false
/- A request is read. Condition: the memory is valid, the ring is there, the index is of the ring. -/
namespace Go.Proofs.Ythplidagfcdibaa
open Go.Abs
variable {k : Nat}
end Go.Proofs.Ythplidagfcdibaa
