/- Part of the texts on which proofs about this seat rest: each says what it proves at its own head. No condition. -/
import Derived.Test.YtepcejdglbcbkaaGreatM0
set_option linter.unusedVariables false
set_option linter.unusedSimpArgs false
/- BoardServesAsSpecified: the closed facts of its row. No condition. -/
namespace Go.Proofs.YtepcejdglbcbkaaGreat
open Go.ChangeShapes Go.WideShapes Go.ChangeAt Go.RowKit
noncomputable def lf3:Func:=Tryz.prog.funcs.getD 3 default
theorem uI:Tryz.prog.funcs[3]? = some lf3:=by kernel_rfl
theorem Az:Tryz.pinned.checked.prog.funcNamed Rows.boardServesAsSpecifiedRow.func=some 3:=by kernel_rfl
theorem ZA:(Rows.boardServesAsSpecifiedRow.inPlace==Tryz.pinned.checked.prog.inPlace 3)=true:=by kernel_rfl
theorem ZB:(Rows.boardServesAsSpecifiedRow.unfollowed==Tryz.pinned.checked.prog.unfollowed 3)=true:=by kernel_rfl
theorem ZC:(Rows.boardServesAsSpecifiedRow.recurses==Tryz.pinned.checked.prog.recurses 3)=true:=by kernel_rfl
theorem ZD:(Rows.boardServesAsSpecifiedRow.named==Tryz.pinned.checked.prog.varsNamed 3)=true:=by kernel_rfl
theorem ZE:(Rows.boardServesAsSpecifiedRow.plainKeys==Tryz.pinned.checked.prog.plainKeys)=true:=by kernel_rfl
theorem ZF:(Rows.boardServesAsSpecifiedRow.lifted==Tryz.pinned.checked.prog.liftsFinal)=true:=by kernel_rfl
theorem wv:joinedFacts Tryz.pinned.checked.prog 3 lf3 Rows.boardServesAsSpecifiedSpec Rows.boardServesAsSpecifiedRow=true:=
 wy (by kernel_rfl) BJ yZ (by kernel_rfl) ZA ZB ZC ZD (by kernel_rfl) ZE (by kernel_rfl) y1 nh ZF (by kernel_rfl)
end Go.Proofs.YtepcejdglbcbkaaGreat
