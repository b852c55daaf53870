/- Part 7 of the texts on which proofs about this seat rest: each says what it proves at its own head. No condition. -/
import Derived.Test.YtaeoaakblilfeaaM6
set_option linter.unusedVariables false
set_option linter.unusedSimpArgs false
/- The reference takes a request. Condition: the memory is valid, the ring is there, the index is of the ring. -/
namespace Go.Proofs.Ytaeoaakblilfeaa
open Go.Abs
variable {k : Nat}
def walk (bs : List UInt8) (b s : Nat) : Nat → List Nat → Nat → List Nat × Nat
  | 0, js, _ => (js, 0)
  | f + 1, js, i => if errAt bs b s js i ≠ 0 then (js, errAt bs b s js i) else if dw bs b i 2 / 2 % 2 = 1 then walk bs b s f (js ++ [i]) (dw bs b i 2 / 256 % 256) else (js ++ [i], 0)
theorem errAt_ok {bs : List UInt8} {b s i : Nat} {js : List Nat} (h : errAt bs b s js i = 0) : i ∉ js ∧ js.length < 4 ∧ dw bs b i 3 = 1 ∧ 1 ≤ dw bs b i 1 ∧ dw bs b i 1 ≤ 512 ∧ dw bs b i 0 + dw bs b i 1 ≤ bs.length ∧ (dw bs b i 2 / 2 % 2 = 1 → dw bs b i 2 / 256 % 256 < s) := by
  unfold errAt errN at h
  split at h <;> try omega
  split at h <;> try omega
  split at h <;> try omega
  split at h <;> try omega
  split at h <;> try omega
  refine ⟨?_, by omega, by omega, by omega, by omega, by omega, by omega⟩
  intro hm
  have : bn (decide (i ∈ js)) = 1 := by rw [decide_eq_true hm]; rfl
  omega
def WP (bs : List UInt8) (b s i : Nat) (f : Nat) (js : List Nat) (cur : Nat) : Prop := js.length + f = 5 ∧ 1 ≤ f ∧ cur < s ∧ (∀ j ∈ js, j < s) ∧ walk bs b s f js cur = walk bs b s 5 [] i
theorem WP.last {bs : List UInt8} {b s i f : Nat} {js : List Nat} {cur : Nat} (h : WP bs b s i f js cur) (he : errAt bs b s js cur = 0) (hm : ¬ dw bs b cur 2 / 2 % 2 = 1) : walk bs b s 5 [] i = (js ++ [cur], 0) := by
  obtain ⟨h1, h2, h3, h4, h5⟩ := h
  obtain ⟨f, rfl⟩ : ∃ g, f = g + 1 := ⟨f - 1, by omega⟩
  rw [← h5]; simp only [walk]; rw [if_neg (by rw [he]; simp), if_neg hm]
end Go.Proofs.Ytaeoaakblilfeaa

/- The reference takes a request. Condition: the memory is valid, the ring is there, the index is of the ring. -/
namespace Go.Proofs.Ytaeoaakblilfeaa
open Go.Abs
variable {k : Nat}
theorem src_sl (H : Hp) (br sz : Nat) (ys : List AV) : src H sz (.sl br sz ys) = some ys := if_pos (.inl rfl)
end Go.Proofs.Ytaeoaakblilfeaa

/- The flags of a descriptor. No condition but that they are words. -/
namespace Go.Proofs.Ytaeoaakblilfeaa
open Go.Abs
variable {k : Nat}
end Go.Proofs.Ytaeoaakblilfeaa
