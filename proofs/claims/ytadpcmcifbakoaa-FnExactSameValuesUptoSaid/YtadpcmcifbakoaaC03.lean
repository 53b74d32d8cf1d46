/-
  THE LAW FnExactSameValues: whatever the arguments of bulk at most 1048576 are, the call returns true, and the arguments read as before.
  Conditions: the bulk alone.
-/
import Derived.Test.YtadpcmcifbakoaaL1
import Derived.Test.YtadpcmcifbakoaaDec
namespace Go.Proofs.Ytadpcmcifbakoaa.fnExactSameValues
open Go Go.ChangeShapes Go.WideShapes Go.ChangeAt Go.RowKit
set_option linter.unusedSimpArgs false
set_option linter.unusedVariables false
set_option linter.unusedVariables false

theorem own : ownKnob Try.prog.godebug = none := by kernel_rfl
theorem laidOut : laidOutB Try.prog = true := by kernel_rfl

set_option maxRecDepth 100000 in
theorem contract (H : Type) (enc : TypeId × Value → H) (W : World) (base : Nat) (args : Array Value) (ds gs : List (DataW H)) (before : List MemPlace)
    (hval : ∀ (j : Nat) t v, Try.f5.params[j]? = some t → args[j]? = some v → Value.okWide Try.prog W .any base t v)
    (hW : DataW.Whole enc Try.prog Try.f5.params.toList Rows.fnExactSameValuesSpec.vars false W args.toList ds gs before) (hk : Rows.uptoSmall H (ds ++ gs) = true) :
    Calls Try.prog 5 args W fun e W' => ∃ v, e = .returned v ∧ Rows.fnExactSameValuesSpec.post enc Try.prog Try.f5 false true false false W args v W' := by
  have hb := bound_of hk
  have hW' := hW
  obtain ⟨p, q, hA0, hV, rfl, hfz, hnd⟩ := hW
  have hA : DataW.TrodAll enc Try.prog W 0 (fun _ => true) true Try.f5.params.toList args.toList ds p := hA0
  rw [Try.params5] at hA hval
  obtain ⟨v0, vs0, d0, ds0, p0, q0, hargs, rfl, rfl, h0, r0⟩ := trodAll_cons hA
  obtain ⟨v1, vs1, d1, ds1, p1, q1, rfl, rfl, rfl, h1, r1⟩ := trodAll_cons r0
  obtain ⟨v2, vs2, d2, ds2, p2, q2, rfl, rfl, rfl, h2, r2⟩ := trodAll_cons r1
  obtain ⟨rfl, rfl, rfl⟩ := trodAll_nil r2
  obtain rfl : args = #[v0, v1, v2] := by cases args; simp_all
  obtain ⟨rfl, rfl⟩ := trodVars_none hV
  simp only [List.append_nil, Rows.uptoBulkAll] at hb
  obtain ⟨w, a0, b0, _⟩ := arg_sl (k := 1) Try.underlying22 (by kernel_rfl) (fun _ => rfl) (decData W) (hval 0 _ v0 rfl rfl) h0
  obtain ⟨t, a1, b1, _⟩ := arg_struct Try.underlying40 (decTy W) (hval 1 _ v1 rfl rfl) h1
  obtain ⟨u, a2, b2, _⟩ := arg_struct Try.underlying40 (decTy W) (hval 2 _ v2 rfl rfl) h2
  have hs : WSmall w := wsmall_of b0 (by omega)
  refine (law_calls (laws_FnExactSameValues_fn hs (a := t.data) (k := t.index) (a' := u.data) (k' := u.index)) (W := W) (args := #[v0, v1, v2]) (fun G T hG => ⟨rfl, fun i hi hv => ?_⟩)).mono ?_
  · match i, hi with
    | 0, _ => exact a0 G T hG
    | 1, _ => exact a1 G T hG
    | 2, _ => exact a2 G T hG
  · rintro e W' ⟨v, G', rfl, hr, hbelow⟩
    obtain rfl := hr.bool_true
    exact ⟨_, rfl, law_post hW' rfl rfl Try.underlying4 rfl laidOut (fun t ht => by
      simp only [Try.params5, List.mem_cons, List.not_mem_nil, or_false] at ht
      rcases ht with rfl | rfl | rfl <;> exact ⟨by kernel_rfl, of_decide_eq_true (by kernel_rfl)⟩) hbelow⟩

set_option maxRecDepth 100000 in
theorem lifted (os : Os) (started : os.Started) (H : Type) (enc : TypeId × Value → H) (F : Stop.Interp) :
    ReturnsInHanded {} Try.checked os 5 .any ((Rows.OpenSpec.upto Rows.fnExactSameValuesSpec).pre6 enc Try.prog Try.f5 Rows.fnExactSameValuesUptoRow.domain false) (((Rows.OpenSpec.upto Rows.fnExactSameValuesSpec).at F).post enc Try.prog Try.f5 false true false false) := by
  refine returnsInHanded_of_cond (C := Try.checked) (s := Rows.OpenSpec.upto Rows.fnExactSameValuesSpec) (k := Rows.uptoSmall) rfl own started (by kernel_rfl) Try.func5
    (OpenSpec.witness (enc := enc) (C := Try.checked) (s := Rows.OpenSpec.upto Rows.fnExactSameValuesSpec) (k := Rows.uptoSmall) rfl false ⟨#[], #[.slice none 0 0, .agg #[.int .i64 0, .int .i64 0], .agg #[.int .i64 0, .int .i64 0]], []⟩ 8 (by kernel_rfl) (by kernel_rfl) (by kernel_rfl)
      (x := ([.nil, .agg [.lit (.int .i64 0), .lit (.int .i64 0)], .agg [.lit (.int .i64 0), .lit (.int .i64 0)]], [], [])) (by kernel_rfl) rfl (by kernel_rfl)) ?_
  intro W base args ds gs before hval hW _ hk _
  exact contract H enc W base args ds gs before hval hW hk

theorem over : Rows.fnExactSameValuesUptoRow.holds Try.pinned (Rows.OpenSpec.upto Rows.fnExactSameValuesSpec) :=
  OpenClaim.holds_of_cond 5 Try.f5 rfl rfl rfl rfl rfl rfl rfl ⟨rfl, rfl, rfl, rfl, rfl⟩ rfl rfl rfl rfl rfl (by kernel_rfl) Try.func5 (by kernel_rfl)
    (of_decide_eq_true (by kernel_rfl)) (by unfold Func.isWrapper; first | (rw [if_pos (by decide +kernel)]; kernel_rfl) | (rw [if_neg (by decide +kernel)]; exact ⟨rfl, rfl⟩))
    (fun os started H enc _ F => lifted os started H enc F)

theorem proved : Rows.FnExactSameValuesUptoSaid := over
end Go.Proofs.Ytadpcmcifbakoaa.fnExactSameValues
