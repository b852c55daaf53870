/- A proof that NicReadsBack returns true for every input. No condition. -/
import Derived.Test.YtaeoaakblilfeaaM21
set_option linter.unusedVariables false
set_option linter.unusedSimpArgs false
/- NicReadsBack returns true for every input. No condition. -/
namespace Go.Proofs.Ytaeoaakblilfeaa
open Go.Abs Go.ChangeShapes Go.WideShapes Go.ChangeAt Go.RowKit
def law4 : List Sh := [nicSh, byteSh]
noncomputable def lf4 : Func := Try.prog.funcs.getD 4 default
theorem law4_eval (xss : List (List AV)) (h : Each law4 xss) : ∃ k hs', evCall FN k 4 (argsOf law4 xss) h0 (fun _ => none) = some (.bool true, hs') := by
  obtain ⟨x0, x1, rfl, q0, q1⟩ := each2 h
  obtain ⟨x, rfl, hx⟩ := hasNic q0
  obtain ⟨b, rfl⟩ := hasByteSl q1
  obtain ⟨hs', hh⟩ := eval_of (s4 (k := 0) (b := b) hx)
  exact ⟨_, hs', hh⟩
theorem lf4_get : Try.prog.funcs[4]? = some lf4 := by kernel_rfl
set_option maxRecDepth 100000 in
theorem law4_lifted (os : Os) (started : os.Started) (H : Type) (enc : TypeId × Value → H) :
    ReturnsInHanded {} Try.checked os 4 .any (Rows.nicReadsBackSpec.pre6 enc Try.prog lf4 [] false) (Rows.nicReadsBackSpec.post enc Try.prog lf4 false true false false) :=
  law_returns (C := Try.checked) (tb := 4) (shs := law4) (d := 8) own0 started (by kernel_rfl) lf4_get
    (ChangeSpec.witness6 (enc := enc) (C := Try.checked) false ⟨#[], #[.agg #[.int .u32 0, .int .u32 0, .int .u32 0, .int .u32 0, .int .i64 0, .int .i64 0, .int .i64 0, .int .i64 0], .slice none 0 0], []⟩ 8 (by kernel_rfl) (by kernel_rfl) (by kernel_rfl) (by kernel_rfl))
    (by kernel_rfl) (by kernel_rfl) (by kernel_rfl) (by kernel_rfl) rfl
    (fun ds hd => by obtain ⟨d1, d2, rfl⟩ := two (n := lf4.params.toList.length) hd (by kernel_rfl); exact ⟨rfl, rfl⟩) (fun ds hd => by obtain ⟨d1, d2, rfl⟩ := two (n := lf4.params.toList.length) hd (by kernel_rfl); rfl)
    (by kernel_rfl) (by kernel_rfl) (by kernel_rfl) table0 law4_eval
theorem law4_proved : Rows.NicReadsBackSaid :=
  OpenClaim.holds_of_wide 4 lf4 rfl rfl rfl rfl rfl rfl rfl ⟨rfl, rfl, rfl, rfl, rfl⟩ rfl rfl rfl rfl rfl (by kernel_rfl) lf4_get (by kernel_rfl)
    (of_decide_eq_true (by kernel_rfl)) (by unfold Func.isWrapper; first | (rw [if_pos (by decide +kernel)]; kernel_rfl) | (rw [if_neg (by decide +kernel)]; exact ⟨rfl, rfl⟩))
    (fun os started H enc _ => law4_lifted os started H enc)
end Go.Proofs.Ytaeoaakblilfeaa
