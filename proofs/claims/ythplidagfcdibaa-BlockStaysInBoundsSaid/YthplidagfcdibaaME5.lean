/- A proof that BlockStaysInBounds returns true for every input. No condition. -/
import Derived.Test.YthplidagfcdibaaM21
set_option linter.unusedVariables false
set_option linter.unusedSimpArgs false
/- BlockStaysInBounds returns true for every input. No condition. -/
namespace Go.Proofs.Ythplidagfcdibaa
open Go.Abs Go.ChangeShapes Go.WideShapes Go.ChangeAt Go.RowKit
def law5 : List Sh := [blkSh, memSh, .int .u8]
noncomputable def lf5 : Func := Try.prog.funcs.getD 5 default
theorem law5_eval (xss : List (List AV)) (h : Each law5 xss) : ∃ k hs', evCall FN k 5 (argsOf law5 xss) h0 (fun _ => none) = some (.bool true, hs') := by
  obtain ⟨x0, x1, x2, rfl, q0, q1, q2⟩ := each3 h
  obtain ⟨x, rfl, hx⟩ := hasBlk q0
  obtain ⟨m, p, e1, _, rfl⟩ := hasMem q1
  obtain ⟨n, rfl, hn⟩ := hasInt q2
  obtain ⟨i, rfl, hi⟩ := wf_nat (m := 256) hn rfl (by decide)
  obtain ⟨hs', hh⟩ := eval_of (s5 (k := 0) e1 hx hi)
  exact ⟨_, hs', hh⟩
theorem lf5_get : Try.prog.funcs[5]? = some lf5 := by kernel_rfl
set_option maxRecDepth 100000 in
theorem law5_lifted (os : Os) (started : os.Started) (H : Type) (enc : TypeId × Value → H) :
    ReturnsInHanded {} Try.checked os 5 .any (Rows.blockStaysInBoundsSpec.pre6 enc Try.prog lf5 [] false) (Rows.blockStaysInBoundsSpec.post enc Try.prog lf5 false true false false) :=
  law_returns (C := Try.checked) (tb := 4) (shs := law5) (d := 8) own0 started (by kernel_rfl) lf5_get
    (ChangeSpec.witness6 (enc := enc) (C := Try.checked) false ⟨#[], #[.agg #[.int .u32 0, .int .u32 0, .int .i64 0, .int .i64 0, .slice none 0 0, .slice none 0 0], .agg #[.slice none 0 0], .int .u8 0], []⟩ 8 (by kernel_rfl) (by kernel_rfl) (by kernel_rfl) (by kernel_rfl))
    (by kernel_rfl) (by kernel_rfl) (by kernel_rfl) (by kernel_rfl) rfl
    (fun ds hd => by obtain ⟨d1, d2, d3, rfl⟩ := three (n := lf5.params.toList.length) hd (by kernel_rfl); exact ⟨rfl, rfl⟩) (fun ds hd => by obtain ⟨d1, d2, d3, rfl⟩ := three (n := lf5.params.toList.length) hd (by kernel_rfl); rfl)
    (by kernel_rfl) (by kernel_rfl) (by kernel_rfl) table0 law5_eval
theorem law5_proved : Rows.BlockStaysInBoundsSaid :=
  OpenClaim.holds_of_wide 5 lf5 rfl rfl rfl rfl rfl rfl rfl ⟨rfl, rfl, rfl, rfl, rfl⟩ rfl rfl rfl rfl rfl (by kernel_rfl) lf5_get (by kernel_rfl)
    (of_decide_eq_true (by kernel_rfl)) (by unfold Func.isWrapper; first | (rw [if_pos (by decide +kernel)]; kernel_rfl) | (rw [if_neg (by decide +kernel)]; exact ⟨rfl, rfl⟩))
    (fun os started H enc _ => law5_lifted os started H enc)
end Go.Proofs.Ythplidagfcdibaa
