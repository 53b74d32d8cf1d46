/-
  THE LAW FnExprText: whatever the arguments of bulk at most 1048576 are, the call returns true, and the arguments read as before.
  Conditions: the bulk alone.
-/
import Derived.Test.YtmkipahfpaacgaaGreatDoorT676
namespace Go.Proofs.YtmkipahfpaacgaaGreatDoor.fnExprText
open Go Go.ChangeShapes Go.WideShapes Go.ChangeAt Go.RowKit
set_option linter.unusedSimpArgs false
set_option linter.unusedVariables false
theorem kf1:(Rows.fnExprTextUptoRow.inPlace == Tryz.pinned.checked.prog.inPlace 4)=true:=by kernel_rfl
theorem kf2:(Rows.fnExprTextUptoRow.unfollowed == Tryz.pinned.checked.prog.unfollowed 4)=true:=by kernel_rfl
theorem kf3:(Rows.fnExprTextUptoRow.recurses == Tryz.pinned.checked.prog.recurses 4)=true:=by kernel_rfl
theorem kf4:(Rows.fnExprTextUptoRow.named == Tryz.pinned.checked.prog.varsNamed 4)=true:=by kernel_rfl
theorem kf5:laidOutB Tryz.pinned.checked.prog=true:=by kernel_rfl
theorem kf6:mapsRowed Tryz.pinned.checked.prog=true:=by kernel_rfl
theorem kf7:Tryz.pinned.checked.prog.stopsHeard=true:=by kernel_rfl
theorem kf8:Tryz.pinned.checked.prog.mayEnter=true:=by kernel_rfl
theorem kf9:(Rows.fnExprTextUptoRow.lifted == Tryz.pinned.checked.prog.liftsFinal)=true:=by kernel_rfl
theorem kf0:(Rows.fnExprTextUptoRow.plainKeys == Tryz.pinned.checked.prog.plainKeys)=true:=by kernel_rfl
end Go.Proofs.YtmkipahfpaacgaaGreatDoor.fnExprText
