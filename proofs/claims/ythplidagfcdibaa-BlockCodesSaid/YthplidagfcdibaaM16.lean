/- Part 16 of the texts on which proofs about this seat rest: each says what it proves at its own head. No condition. -/
import Derived.Test.YthplidagfcdibaaM15
set_option linter.unusedVariables false
set_option linter.unusedSimpArgs false
/- What an instruction of the device does, by the program. Condition: the memory is valid; the numbers are words. -/
namespace Go.Proofs.Ythplidagfcdibaa
open Go.Abs
variable {k : Nat}
end Go.Proofs.Ythplidagfcdibaa

/- What an instruction of the device does, by the reference. Condition: the memory is valid; the numbers are words. -/
namespace Go.Proofs.Ythplidagfcdibaa
open Go.Abs
variable {k : Nat}
end Go.Proofs.Ythplidagfcdibaa

/- A request is finished, whatever its parts say. Condition: the memory is valid, the ring is there, the indices are of the ring. -/
namespace Go.Proofs.Ythplidagfcdibaa
open Go.Abs
variable {k : Nat}
def ix (l : List Pt) : List Nat := l.map (·.i)
end Go.Proofs.Ythplidagfcdibaa

/- A request that is right, in natural numbers; what completing it does. No condition but what is said. -/
namespace Go.Proofs.Ythplidagfcdibaa
open Go.Abs
variable {k : Nat}
end Go.Proofs.Ythplidagfcdibaa

/- A request is completed that reads the disk, by the program. Condition: the memory is valid, the request is right. -/
namespace Go.Proofs.Ythplidagfcdibaa
open Go.Abs
variable {k : Nat}
end Go.Proofs.Ythplidagfcdibaa
