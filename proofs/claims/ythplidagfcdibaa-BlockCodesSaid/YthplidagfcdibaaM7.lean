/- Part 7 of the texts on which proofs about this seat rest: each says what it proves at its own head. No condition. -/
import Derived.Test.YthplidagfcdibaaM6
set_option linter.unusedVariables false
set_option linter.unusedSimpArgs false
/- The reference takes a request. Condition: the memory is valid, the ring is there, the index is of the ring. -/
namespace Go.Proofs.Ythplidagfcdibaa
open Go.Abs
variable {k : Nat}
end Go.Proofs.Ythplidagfcdibaa

/- The reference takes a request. Condition: the memory is valid, the ring is there, the index is of the ring. -/
namespace Go.Proofs.Ythplidagfcdibaa
open Go.Abs
variable {k : Nat}
theorem src_sl (H : Hp) (br sz : Nat) (ys : List AV) : src H sz (.sl br sz ys) = some ys := if_pos (.inl rfl)
end Go.Proofs.Ythplidagfcdibaa

/- The flags of a descriptor. No condition but that they are words. -/
namespace Go.Proofs.Ythplidagfcdibaa
open Go.Abs
variable {k : Nat}
end Go.Proofs.Ythplidagfcdibaa
