/- Part 6 of the texts on which proofs about this seat rest: each says what it proves at its own head. No condition. -/
import Derived.Test.YtaeoaakblilfeaaM5
set_option linter.unusedVariables false
set_option linter.unusedSimpArgs false
/- What is wrong with a descriptor that follows others. Condition: the memory is valid, the ring is there. -/
namespace Go.Proofs.Ytaeoaakblilfeaa
open Go.Abs
variable {k : Nat}
def errN (inn len st at_ sz size fl s wrt : Nat) : Nat :=
  if inn = 1 ∨ 4 ≤ len then 163 else
  if st ≠ 1 then 165 else
  if sz < 1 ∨ 512 < sz ∨ size < at_ + sz then 161 else
  if fl / 4 % 64 ≠ 0 ∨ fl / 65536 ≠ 0 ∨ (fl / 2 % 2 ≠ 1 ∧ fl / 256 % 256 ≠ 0) ∨ (fl % 2 = 0 ∧ wrt = 1) then 164 else
  if fl / 2 % 2 = 1 ∧ s ≤ fl / 256 % 256 then 162 else 0
def bn (x : Bool) : Nat := if x then 1 else 0
def errAt (bs : List UInt8) (b s : Nat) (js : List Nat) (i : Nat) : Nat :=
  errN (bn (decide (i ∈ js))) js.length (dw bs b i 3) (dw bs b i 0) (dw bs b i 1) bs.length (dw bs b i 2) s (bn (js.any (wr bs b)))
end Go.Proofs.Ytaeoaakblilfeaa
