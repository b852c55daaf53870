/- Part 21 of the texts on which proofs about this seat rest: each says what it proves at its own head. No condition. -/
import Derived.Test.YtaeoaakblilfeaaM20
set_option linter.unusedVariables false
set_option linter.unusedSimpArgs false
/- What the arguments of the laws of the network device are. No condition. -/
namespace Go.Proofs.Ytaeoaakblilfeaa
open Go.Abs Go.ChangeShapes Go.WideShapes Go.ChangeAt Go.RowKit
def nicSh : Sh := .agg [ringSh, ringSh, .int .i64, .int .i64, .int .i64, .int .i64]
def byteSh : Sh := .sl (.int .u8)
theorem wf_i64 {n : Int} (h : (Lit.int .i64 n).wf = true) : I64 n := by
  have h1 : IntKind.i64.min = -9223372036854775808 := rfl
  have h2 : IntKind.i64.max = 9223372036854775807 := rfl
  simp only [Lit.wf, h1, h2, Bool.and_eq_true, decide_eq_true_eq] at h
  exact ⟨by omega, by omega⟩
theorem hasNic {xs : List AV} (h : Has nicSh xs) : ∃ x : NI, xs = niC x ∧ NR x := by
  obtain ⟨_, _, h1, ⟨_, _, h2, ⟨_, _, ⟨ta, rfl, w1⟩, ⟨_, _, ⟨ra, rfl, w2⟩, ⟨_, _, ⟨st, rfl, w3⟩, ⟨_, _, ⟨dr, rfl, w4⟩, rfl, rfl⟩, rfl⟩, rfl⟩, rfl⟩, rfl⟩, rfl⟩ := h
  obtain ⟨tb, ts, b1, b2, rfl⟩ := hasRing h1
  obtain ⟨rb, rs, b3, b4, rfl⟩ := hasRing h2
  exact ⟨⟨tb, ts, rb, rs, ta, ra, st, dr⟩, rfl, ⟨b1, b2, b3, b4, wf_i64 w1, wf_i64 w2, wf_i64 w3, wf_i64 w4⟩⟩
theorem hasByteSl {xs : List AV} (h : Has byteSh xs) : ∃ bs : List UInt8, xs = [csl 1 (bs.map ofB)] := by
  obtain ⟨ls, rfl, h2, h3⟩ := h
  have key : ∀ ls : List (List AV), (∀ y ∈ ls, Has (.int .u8) y) → ∃ bs : List UInt8, ls.flatten = bs.map ofB := by
    intro ls
    induction ls with
    | nil => intro _; exact ⟨[], rfl⟩
    | cons y ls ih =>
      intro h
      obtain ⟨bs, e2⟩ := ih fun z hz => h z (List.mem_cons_of_mem _ hz)
      obtain ⟨n, rfl, hn⟩ := h y List.mem_cons_self
      obtain ⟨j, rfl, hj⟩ := wf_nat (m := 256) hn rfl (by decide)
      refine ⟨UInt8.ofNat j :: bs, ?_⟩
      rw [List.flatten_cons, e2, List.map_cons, ofB_le _ (by omega)]
      rfl
  obtain ⟨bs, e⟩ := key ls h2
  exact ⟨bs, by rw [e]; rfl⟩
theorem two {α : Type} {ds : List α} {n : Nat} (h : ds.length = n) (hn : n = 2) : ∃ d1 d2, ds = [d1, d2] := by
  subst hn
  rcases ds with _ | ⟨x0, _ | ⟨x1, _ | ⟨x2, t⟩⟩⟩ <;> simp at h
  exact ⟨x0, x1, rfl⟩
theorem each2 {s0 s1 : Sh} {xss : List (List AV)} (h : Each [s0, s1] xss) : ∃ x0 x1, xss = [x0, x1] ∧ Has s0 x0 ∧ Has s1 x1 := by
  rcases xss with _ | ⟨x0, _ | ⟨x1, _ | ⟨x2, t⟩⟩⟩
  · exact h.elim
  · exact h.2.elim
  · exact ⟨x0, x1, rfl, h.1, h.2.1⟩
  · exact h.2.2.elim
end Go.Proofs.Ytaeoaakblilfeaa
