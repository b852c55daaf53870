/- Part 5 of the texts on which proofs about this seat rest: each says what it proves at its own head. No condition. -/
import Derived.Test.YthplidagfcdibaaM4
set_option linter.unusedVariables false
set_option linter.unusedSimpArgs false
/- Arithmetic of words, and how a memory and a ring lie in cells. No condition. -/
namespace Go.Proofs.Ythplidagfcdibaa
open Go.Abs
def memV (bs : List UInt8) : AV := .agg [csl 128 (bs.map ofB)]
def ringV (b s : Nat) : AV := .agg [.int .u32 b, .int .u32 s]
def VM (bs : List UInt8) : Prop := ∃ p, 1 ≤ p ∧ p ≤ 64 ∧ bs.length = 128 * p
theorem VM.le {bs : List UInt8} (h : VM bs) : bs.length ≤ 8192 ∧ bs.length % 128 = 0 ∧ 128 ≤ bs.length := by
  obtain ⟨p, h1, h2, h3⟩ := h; omega
def bt (bs : List UInt8) (i : Nat) : Nat := (bs.getD i 0).toNat
def word (bs : List UInt8) (i : Nat) : Nat := bt bs i + bt bs (i + 1) * 2 ^ 8 + bt bs (i + 2) * 2 ^ 16 + bt bs (i + 3) * 2 ^ 24
end Go.Proofs.Ythplidagfcdibaa

/- What the functions of the memory come to. No condition. -/
namespace Go.Proofs.Ythplidagfcdibaa
open Go.Abs
variable {k : Nat}
set_option maxRecDepth 100000 in
theorem s55 {bs : List UInt8} (h : VM bs) : Calls0 (evCall FN (k + 1)) 55 [memV bs] (.int .i64 bs.length) := by
  have hl := h.le
  refine q_call0 fn55 fun T H E lv => ?_
  repeat (first | refine stN ?_ | intro E)
  refine q_ret (.inr rfl) rfl rfl rfl rfl ?_ rfl
  show AV.int _ _ = _
  rw [List.length_map, w64 (by omega) (by omega)]
  congr 1; omega
set_option maxRecDepth 100000 in
theorem s52 {bs : List UInt8} (h : VM bs) : Calls0 (evCall FN (k + 1)) 52 [memV bs] (.int .i64 bs.length) := by
  have hl := h.le
  refine q_call0 fn52 fun T H E lv => ?_
  repeat (first | refine stN ?_ | intro E)
  refine q_ret (.inr rfl) rfl rfl rfl rfl ?_ rfl
  show AV.int _ _ = _
  rw [List.length_map, w64 (by omega) (by omega)]
  congr 1; omega
end Go.Proofs.Ythplidagfcdibaa

/- What a descriptor is read as. Condition: the memory is valid, the ring is there. -/
namespace Go.Proofs.Ythplidagfcdibaa
open Go.Abs
variable {k : Nat}
structure RV (bs : List UInt8) (b s : Nat) : Prop where
  m : VM bs
  hs : s = 1 ∨ s = 2 ∨ s = 4 ∨ s = 8
  hb : b % 16 = 0
  le : b + 16 * s ≤ bs.length
def dw (bs : List UInt8) (b i j : Nat) : Nat := word bs (b + 16 * i + 4 * j)
end Go.Proofs.Ythplidagfcdibaa

/- The reference's words. Condition: the memory is valid, the ring is there. -/
namespace Go.Proofs.Ythplidagfcdibaa
open Go.Abs
variable {k : Nat}
end Go.Proofs.Ythplidagfcdibaa

/- Bytes are put into pages that are written in place: the method 'put', at the two places from which it is called. Condition: the bytes fit. -/
namespace Go.Proofs.Ythplidagfcdibaa
open Go.Abs
variable {k : Nat}
def GB (br s0 : Nat) (ys : List UInt8) : Prop := (br = 1 ∧ s0 = csz 1 (ys.map ofB)) ∨ (br = 3 ∧ s0 = 1) ∨ (br = 4 ∧ s0 = 1)
theorem GB.len {br s0 : Nat} {ys : List UInt8} (h : GB br s0 ys) : s0 = 1 ∨ ys.map ofB = [] := by
  rcases h with ⟨_, rfl⟩ | ⟨_, rfl⟩ | ⟨_, rfl⟩
  · exact csz_ok _ _
  · exact .inl rfl
  · exact .inl rfl
end Go.Proofs.Ythplidagfcdibaa

/- A word is stored into a memory that is being changed. Condition: the place is there. -/
namespace Go.Proofs.Ythplidagfcdibaa
open Go.Abs
variable {k : Nat}
theorem ofB_le (n : Nat) (h : n < 256) : ofB (UInt8.ofNat n) = .int .u8 n := by
  simp only [ofB, AV.int.injEq, true_and]
  rw [UInt8.toNat_ofNat']; congr 1; omega
theorem flat_ofB (bs : List UInt8) : flatL (bs.map ofB) = true := by
  induction bs with
  | nil => rfl
  | cons b bs ih => simp only [List.map_cons, flatL, ih, Bool.and_true]; rfl
end Go.Proofs.Ythplidagfcdibaa

/- A word is stored into a copy of a memory, and the rest is as it was. Condition: the memory is valid, the place is there. -/
namespace Go.Proofs.Ythplidagfcdibaa
open Go.Abs
variable {k : Nat}
end Go.Proofs.Ythplidagfcdibaa

/- Statuses are marked. Condition: the memory is valid, the ring is there, the indices are of the ring. -/
namespace Go.Proofs.Ythplidagfcdibaa
open Go.Abs
variable {k : Nat}
end Go.Proofs.Ythplidagfcdibaa

/- The reference's store, and its marks. Condition: the memory is valid, the place is there. -/
namespace Go.Proofs.Ythplidagfcdibaa
open Go.Abs
variable {k : Nat}
theorem setS_map : ∀ {bs : List UInt8} {o : Nat} {u : UInt8}, o < bs.length → setS (bs.map ofB) o (ofB u) = some ((bs.set o u).map ofB)
  | b :: bs, 0, u, _ => rfl
  | b :: bs, o + 1, u, h => by
    have := setS_map (bs := bs) (o := o) (u := u) (by simpa using h)
    simp only [List.map_cons, setS, this, List.set_cons_succ]
end Go.Proofs.Ythplidagfcdibaa

/- What is wrong with a descriptor. Condition: the memory is valid, the ring is there. -/
namespace Go.Proofs.Ythplidagfcdibaa
open Go.Abs
variable {k : Nat}
def wr (bs : List UInt8) (b i : Nat) : Bool := decide (dw bs b i 2 % 2 = 1)
end Go.Proofs.Ythplidagfcdibaa
