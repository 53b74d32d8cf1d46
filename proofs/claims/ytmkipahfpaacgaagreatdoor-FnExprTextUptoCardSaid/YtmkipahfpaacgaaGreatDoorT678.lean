/-
  THE LAW FnExprText: whatever the arguments of bulk at most 1048576 are, the call returns true, and the arguments read as before.
  Conditions: the bulk alone.
-/
import Derived.Test.YtmkipahfpaacgaaGreatDoorT677
namespace Go.Proofs.YtmkipahfpaacgaaGreatDoor.fnExprText
open Go Go.ChangeShapes Go.WideShapes Go.ChangeAt Go.RowKit
set_option linter.unusedSimpArgs false
set_option linter.unusedVariables false
theorem facts:joinedFacts Tryz.pinned.checked.prog 4 Tryz.f4 (Rows.OpenSpec.upto Rows.fnExprTextSpec).bare Rows.fnExprTextUptoRow=true:=by
 unfold joinedFacts
 rw[kf1,kf2,kf3,kf4,kf5,kf6,kf7,kf8,kf9,kf0]
 kernel_rfl
theorem named:Tryz.pinned.checked.prog.funcNamed Rows.fnExprTextUptoRow.func=some 4:=by kernel_rfl
theorem over:Rows.FnExprTextUptoSaid:=
 OpenClaim.holds_of_cond 4 Tryz.f4 rfl rfl rfl rfl rfl rfl rfl ⟨rfl,rfl,rfl,rfl,rfl⟩ rfl rfl rfl rfl rfl named Tryz.func4 facts
  (xas (by as_aux_lemma=>kernel_rfl)) (by as_aux_lemma=>unfold Func.isWrapper;first|(rw[if_pos (by decide +kernel)];kernel_rfl)|(rw[if_neg (by decide +kernel)];exact⟨rfl,rfl⟩))
  (fun os started H enc _ F=>by rw[OpenClaim.pre_eq_preRow];exact lifted os started H enc F)
end Go.Proofs.YtmkipahfpaacgaaGreatDoor.fnExprText
