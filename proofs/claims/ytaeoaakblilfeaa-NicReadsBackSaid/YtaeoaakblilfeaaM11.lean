/- Part 11 of the texts on which proofs about this seat rest: each says what it proves at its own head. No condition. -/
import Derived.Test.YtaeoaakblilfeaaM10
set_option linter.unusedVariables false
set_option linter.unusedSimpArgs false
/- What error parts have that must be written, or read, with so many bytes: by the program, by the reference. Condition: there are at most 100 parts, their lengths are words. -/
namespace Go.Proofs.Ytaeoaakblilfeaa
open Go.Abs
variable {k : Nat}
end Go.Proofs.Ytaeoaakblilfeaa

/- What a device sends: the model; the reference's send. Condition: the memory is valid, the ring is there, the position is in it. -/
namespace Go.Proofs.Ytaeoaakblilfeaa
open Go.Abs
variable {k : Nat}
structure PO (M : List UInt8) (l : List Pt) : Prop where
  ne : 1 ≤ l.length
  len : l.length ≤ 4
  one : ∀ q ∈ l, 1 ≤ q.n ∧ q.n ≤ 512 ∧ q.a + q.n ≤ M.length
theorem PO.lt {M : List UInt8} {l : List Pt} (h : PO M l) : ∀ q ∈ l, q.n < 4294967296 := fun q hq => by have := h.one q hq; omega
def outV (o : List (List UInt8)) : List AV := o.map .str
def OB (br z : Nat) (o : List (List UInt8)) : Prop := (br = 1 ∧ z = 0 ∧ o = []) ∨ ((br = 3 ∨ 4 ≤ br) ∧ z = 1)
theorem OB.src {br z : Nat} {o : List (List UInt8)} (h : OB br z o) (H : Hp) : src H 1 (.sl br z (outV o)) = some (outV o) := by
  rcases h with ⟨rfl, rfl, rfl⟩ | ⟨_, rfl⟩
  · show (if (0 : Nat) = 1 ∨ outV [] = [] then some (outV []) else none) = _
    exact if_pos (show (0 : Nat) = 1 ∨ outV [] = [] from Or.inr rfl)
  · exact src_sl _ _ _ _
theorem OB.canon {br z : Nat} {o : List (List UInt8)} (h : OB br z o) : canonCell (.sl br z (outV o)) = csl 1 (outV o) := by
  rcases h with ⟨rfl, rfl, rfl⟩ | ⟨h, rfl⟩
  · rfl
  · exact if_neg (by omega)
end Go.Proofs.Ytaeoaakblilfeaa

/- What a device receives, and what it does when it is asked, by the reference. Condition: the memory is valid, the device is valid. -/
namespace Go.Proofs.Ytaeoaakblilfeaa
open Go.Abs
variable {k : Nat}
end Go.Proofs.Ytaeoaakblilfeaa
