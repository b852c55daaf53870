/- Part 39 of the texts on which proofs about this seat rest: each says what it proves at its own head. No condition. -/
import Derived.Test.YtaeoaakblilfeaaM38
set_option linter.unusedVariables false
set_option linter.unusedSimpArgs false
/- What the arguments of the laws of the network device are. No condition. -/
namespace Go.Proofs.Ytaeoaakblilfeaa
open Go.Abs Go.ChangeShapes Go.WideShapes Go.ChangeAt Go.RowKit
def nicSh : Sh := .agg [ringSh, ringSh, .int .i64, .int .i64, .int .i64, .int .i64]
def ioSh : Sh := .agg [.bool, .int .i64, .int .u32]
theorem wf_i64 {n : Int} (h : (Lit.int .i64 n).wf = true) : I64 n := by
  have h1 : IntKind.i64.min = -9223372036854775808 := rfl
  have h2 : IntKind.i64.max = 9223372036854775807 := rfl
  simp only [Lit.wf, h1, h2, Bool.and_eq_true, decide_eq_true_eq] at h
  exact ⟨by omega, by omega⟩
theorem hasNic {xs : List AV} (h : Has nicSh xs) : ∃ x : NI, xs = niC x ∧ NR x := by
  obtain ⟨_, _, h1, ⟨_, _, h2, ⟨_, _, ⟨ta, rfl, w1⟩, ⟨_, _, ⟨ra, rfl, w2⟩, ⟨_, _, ⟨st, rfl, w3⟩, ⟨_, _, ⟨dr, rfl, w4⟩, rfl, rfl⟩, rfl⟩, rfl⟩, rfl⟩, rfl⟩, rfl⟩ := h
  obtain ⟨tb, ts, b1, b2, rfl⟩ := hasRing h1
  obtain ⟨rb, rs, b3, b4, rfl⟩ := hasRing h2
  exact ⟨⟨tb, ts, rb, rs, ta, ra, st, dr⟩, rfl, ⟨b1, b2, b3, b4, wf_i64 w1, wf_i64 w2, wf_i64 w3, wf_i64 w4⟩⟩
theorem hasIO {xs : List AV} (h : Has ioSh xs) : ∃ (i : Bool) (port : Int) (v : Nat), v < 4294967296 ∧ xs = [.bool i, .int .i64 port, .int .u32 v] := by
  obtain ⟨_, _, ⟨i, rfl⟩, ⟨_, _, ⟨port, rfl, _⟩, ⟨_, _, ⟨n, rfl, hn⟩, rfl, rfl⟩, rfl⟩, rfl⟩ := h
  obtain ⟨v, rfl, hv⟩ := wf_nat (m := 4294967296) hn rfl (by decide)
  exact ⟨i, port, v, hv, rfl⟩
end Go.Proofs.Ytaeoaakblilfeaa
