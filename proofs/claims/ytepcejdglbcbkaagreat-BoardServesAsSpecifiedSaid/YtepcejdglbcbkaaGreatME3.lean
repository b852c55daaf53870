/- A proof that BoardServesAsSpecified returns true for every input. No condition. -/
import Derived.Test.YtepcejdglbcbkaaGreatMY3
set_option linter.unusedVariables false
set_option linter.unusedSimpArgs false
/- BoardServesAsSpecified returns true for every input. No condition. -/
namespace Go.Proofs.YtepcejdglbcbkaaGreat
open Go.Abs Go.ChangeShapes Go.WideShapes Go.ChangeAt Go.RowKit
theorem law3_proved:Rows.BoardServesAsSpecifiedSaid:=
 OpenClaim.holds_of_wide 3 lf3 rfl rfl rfl rfl rfl rfl rfl ⟨rfl,rfl,rfl,rfl,rfl⟩ rfl rfl rfl rfl rfl Az uI wv
  (of_decide_eq_true (by kernel_rfl)) (by unfold Func.isWrapper;first | (rw [if_pos (by decide +kernel)];kernel_rfl) | (rw [if_neg (by decide +kernel)];exact ⟨rfl,rfl⟩))
  (fun os started H enc _=>tl os started H enc)
end Go.Proofs.YtepcejdglbcbkaaGreat
