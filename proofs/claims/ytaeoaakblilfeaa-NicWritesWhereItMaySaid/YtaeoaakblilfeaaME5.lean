/- A proof that NicWritesWhereItMay returns true for every input. No condition. -/
import Derived.Test.YtaeoaakblilfeaaM39
set_option linter.unusedVariables false
set_option linter.unusedSimpArgs false
/- NicWritesWhereItMay returns true for every input. No condition. -/
namespace Go.Proofs.Ytaeoaakblilfeaa
open Go.Abs Go.ChangeShapes Go.WideShapes Go.ChangeAt Go.RowKit
def law5 : List Sh := [nicSh, memSh, ioSh, .str]
noncomputable def lf5 : Func := Try.prog.funcs.getD 5 default
theorem law5_eval (xss : List (List AV)) (h : Each law5 xss) : ∃ k hs', evCall FN k 5 (argsOf law5 xss) h0 (fun _ => none) = some (.bool true, hs') := by
  obtain ⟨x0, x1, x2, x3, rfl, q0, q1, q2, q3⟩ := each4 h
  obtain ⟨x, rfl, hx⟩ := hasNic q0
  obtain ⟨m, p, e1, _, rfl⟩ := hasMem q1
  obtain ⟨i, port, w, _, rfl⟩ := hasIO q2
  obtain ⟨pk, rfl⟩ := hasStr q3
  obtain ⟨hs', hh⟩ := eval_of (s5 (k := 0) (pk := pk) (i := i) (port := port) (w := w) hx e1)
  exact ⟨_, hs', hh⟩
theorem lf5_get : Try.prog.funcs[5]? = some lf5 := by kernel_rfl
set_option maxRecDepth 100000 in
theorem law5_lifted (os : Os) (started : os.Started) (H : Type) (enc : TypeId × Value → H) :
    ReturnsInHanded {} Try.checked os 5 .any (Rows.nicWritesWhereItMaySpec.pre6 enc Try.prog lf5 [] false) (Rows.nicWritesWhereItMaySpec.post enc Try.prog lf5 false true false false) :=
  law_returns (C := Try.checked) (tb := 4) (shs := law5) (d := 8) own0 started (by kernel_rfl) lf5_get
    (ChangeSpec.witness6 (enc := enc) (C := Try.checked) false ⟨#[], #[.agg #[.int .u32 0, .int .u32 0, .int .u32 0, .int .u32 0, .int .i64 0, .int .i64 0, .int .i64 0, .int .i64 0], .agg #[.slice none 0 0], .agg #[.bool false, .int .i64 0, .int .u32 0], .string ⟨#[]⟩], []⟩ 8 (by kernel_rfl) (by kernel_rfl) (by kernel_rfl) (by kernel_rfl))
    (by kernel_rfl) (by kernel_rfl) (by kernel_rfl) (by kernel_rfl) rfl
    (fun ds hd => by obtain ⟨d1, d2, d3, d4, rfl⟩ := four (n := lf5.params.toList.length) hd (by kernel_rfl); exact ⟨rfl, rfl⟩) (fun ds hd => by obtain ⟨d1, d2, d3, d4, rfl⟩ := four (n := lf5.params.toList.length) hd (by kernel_rfl); rfl)
    (by kernel_rfl) (by kernel_rfl) (by kernel_rfl) table0 law5_eval
theorem law5_proved : Rows.NicWritesWhereItMaySaid :=
  OpenClaim.holds_of_wide 5 lf5 rfl rfl rfl rfl rfl rfl rfl ⟨rfl, rfl, rfl, rfl, rfl⟩ rfl rfl rfl rfl rfl (by kernel_rfl) lf5_get (by kernel_rfl)
    (of_decide_eq_true (by kernel_rfl)) (by unfold Func.isWrapper; first | (rw [if_pos (by decide +kernel)]; kernel_rfl) | (rw [if_neg (by decide +kernel)]; exact ⟨rfl, rfl⟩))
    (fun os started H enc _ => law5_lifted os started H enc)
end Go.Proofs.Ytaeoaakblilfeaa
