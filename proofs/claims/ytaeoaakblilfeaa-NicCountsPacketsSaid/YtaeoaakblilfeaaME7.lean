/- A proof that NicCountsPackets returns true for every input. No condition. -/
import Derived.Test.YtaeoaakblilfeaaM35
set_option linter.unusedVariables false
set_option linter.unusedSimpArgs false
/- NicCountsPackets returns true for every input. No condition. -/
namespace Go.Proofs.Ytaeoaakblilfeaa
open Go.Abs Go.ChangeShapes Go.WideShapes Go.ChangeAt Go.RowKit
def law7 : List Sh := [nicSh, memSh, .sl .str]
noncomputable def lf7 : Func := Try.prog.funcs.getD 7 default
theorem law7_eval (xss : List (List AV)) (h : Each law7 xss) : ∃ k hs', evCall FN k 7 (argsOf law7 xss) h0 (fun _ => none) = some (.bool true, hs') := by
  obtain ⟨x0, x1, x2, rfl, q0, q1, q2⟩ := each3 h
  obtain ⟨x, rfl, hx⟩ := hasNic q0
  obtain ⟨m, p, e1, _, rfl⟩ := hasMem q1
  obtain ⟨l, rfl⟩ := hasStrs q2
  obtain ⟨hs', hh⟩ := eval_of (s7 (k := 0) (l := l) hx e1)
  exact ⟨_, hs', hh⟩
theorem lf7_get : Try.prog.funcs[7]? = some lf7 := by kernel_rfl
set_option maxRecDepth 100000 in
theorem law7_lifted (os : Os) (started : os.Started) (H : Type) (enc : TypeId × Value → H) :
    ReturnsInHanded {} Try.checked os 7 .any (Rows.nicCountsPacketsSpec.pre6 enc Try.prog lf7 [] false) (Rows.nicCountsPacketsSpec.post enc Try.prog lf7 false true false false) :=
  law_returns (C := Try.checked) (tb := 4) (shs := law7) (d := 8) own0 started (by kernel_rfl) lf7_get
    (ChangeSpec.witness6 (enc := enc) (C := Try.checked) false ⟨#[], #[.agg #[.int .u32 0, .int .u32 0, .int .u32 0, .int .u32 0, .int .i64 0, .int .i64 0, .int .i64 0, .int .i64 0], .agg #[.slice none 0 0], .slice none 0 0], []⟩ 8 (by kernel_rfl) (by kernel_rfl) (by kernel_rfl) (by kernel_rfl))
    (by kernel_rfl) (by kernel_rfl) (by kernel_rfl) (by kernel_rfl) rfl
    (fun ds hd => by obtain ⟨d1, d2, d3, rfl⟩ := three (n := lf7.params.toList.length) hd (by kernel_rfl); exact ⟨rfl, rfl⟩) (fun ds hd => by obtain ⟨d1, d2, d3, rfl⟩ := three (n := lf7.params.toList.length) hd (by kernel_rfl); rfl)
    (by kernel_rfl) (by kernel_rfl) (by kernel_rfl) table0 law7_eval
theorem law7_proved : Rows.NicCountsPacketsSaid :=
  OpenClaim.holds_of_wide 7 lf7 rfl rfl rfl rfl rfl rfl rfl ⟨rfl, rfl, rfl, rfl, rfl⟩ rfl rfl rfl rfl rfl (by kernel_rfl) lf7_get (by kernel_rfl)
    (of_decide_eq_true (by kernel_rfl)) (by unfold Func.isWrapper; first | (rw [if_pos (by decide +kernel)]; kernel_rfl) | (rw [if_neg (by decide +kernel)]; exact ⟨rfl, rfl⟩))
    (fun os started H enc _ => law7_lifted os started H enc)
end Go.Proofs.Ytaeoaakblilfeaa
