/- Part of the texts on which proofs about this seat rest: each says what it proves at its own head. No condition. -/
import Derived.Test.YtepcejdglbcbkaaGreatM0
set_option linter.unusedVariables false
set_option linter.unusedSimpArgs false
/- BoardServesAsSpecified: the closed facts of its row. No condition. -/
namespace Go.Proofs.YtepcejdglbcbkaaGreat
open Go.ChangeShapes Go.WideShapes Go.ChangeAt Go.RowKit
noncomputable def lf3:Func:=Tryz.prog.funcs.getD 3 default
theorem uI:Tryz.prog.funcs[3]? = some lf3:=by kernel_rfl
theorem At:Tryz.pinned.checked.prog.funcNamed Rows.boardServesAsSpecifiedRow.func=some 3:=by kernel_rfl
theorem Zu:(Rows.boardServesAsSpecifiedRow.inPlace==Tryz.pinned.checked.prog.inPlace 3)=true:=by kernel_rfl
theorem Zv:(Rows.boardServesAsSpecifiedRow.unfollowed==Tryz.pinned.checked.prog.unfollowed 3)=true:=by kernel_rfl
theorem Zw:(Rows.boardServesAsSpecifiedRow.recurses==Tryz.pinned.checked.prog.recurses 3)=true:=by kernel_rfl
theorem Zx:(Rows.boardServesAsSpecifiedRow.named==Tryz.pinned.checked.prog.varsNamed 3)=true:=by kernel_rfl
theorem Zy:(Rows.boardServesAsSpecifiedRow.plainKeys==Tryz.pinned.checked.prog.plainKeys)=true:=by kernel_rfl
theorem Zz:(Rows.boardServesAsSpecifiedRow.lifted==Tryz.pinned.checked.prog.liftsFinal)=true:=by kernel_rfl
theorem wu:joinedFacts Tryz.pinned.checked.prog 3 lf3 Rows.boardServesAsSpecifiedSpec Rows.boardServesAsSpecifiedRow=true:=
 wv (by kernel_rfl) BC yY (by kernel_rfl) Zu Zv Zw Zx (by kernel_rfl) Zy (by kernel_rfl) yZ nh Zz (by kernel_rfl)
end Go.Proofs.YtepcejdglbcbkaaGreat
