/- Part 15 of the texts on which proofs about this seat rest: each says what it proves at its own head. No condition. -/
import Derived.Test.YthplidagfcdibaaM14
set_option linter.unusedVariables false
set_option linter.unusedSimpArgs false
/- What a notification does, and the reference's. Condition: the memory is valid, the ring is there. -/
namespace Go.Proofs.Ythplidagfcdibaa
open Go.Abs
variable {k : Nat}
end Go.Proofs.Ythplidagfcdibaa

/- A notification, by the program: a method that writes the object of the work under way. Condition: the memory is valid, the ring is there. -/
namespace Go.Proofs.Ythplidagfcdibaa
open Go.Abs
variable {k : Nat}
def FB (br z : Nat) (f : List RI) : Prop := (br = 1 ∧ z = csz 5 (risV f)) ∨ (4 ≤ br ∧ z = 5)
theorem FB.len {br z : Nat} {f : List RI} (h : FB br z f) : z = 5 ∨ risV f = [] := by
  rcases h with ⟨_, rfl⟩ | ⟨_, rfl⟩
  · exact csz_ok _ _
  · exact .inl rfl
end Go.Proofs.Ythplidagfcdibaa

/- A notification of any ring: by the program and by the reference. Condition: the memory is valid; the numbers are words. -/
namespace Go.Proofs.Ythplidagfcdibaa
open Go.Abs
variable {k : Nat}
end Go.Proofs.Ythplidagfcdibaa
