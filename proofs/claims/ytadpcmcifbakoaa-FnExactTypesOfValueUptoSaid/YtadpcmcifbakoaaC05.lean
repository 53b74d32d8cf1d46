/-
  THE LAW FnExactTypesOfValue: whatever the arguments of bulk at most 1048576 are, the call returns true, and the arguments read as before.
  Conditions: the bulk alone.
-/
import Derived.Test.YtadpcmcifbakoaaL3
import Derived.Test.YtadpcmcifbakoaaDec
namespace Go.Proofs.Ytadpcmcifbakoaa.fnExactTypesOfValue
open Go Go.ChangeShapes Go.WideShapes Go.ChangeAt Go.RowKit
set_option linter.unusedSimpArgs false
set_option linter.unusedVariables false

theorem own : ownKnob Try.prog.godebug = none := by kernel_rfl
theorem laidOut : laidOutB Try.prog = true := by kernel_rfl

set_option maxRecDepth 100000 in
theorem contract (H : Type) (enc : TypeId × Value → H) (W : World) (base : Nat) (args : Array Value) (ds gs : List (DataW H)) (before : List MemPlace)
    (hval : ∀ (j : Nat) t v, Try.f7.params[j]? = some t → args[j]? = some v → Value.okWide Try.prog W .any base t v)
    (hW : DataW.Whole enc Try.prog Try.f7.params.toList Rows.fnExactTypesOfValueSpec.vars false W args.toList ds gs before) (hk : Rows.uptoSmall H (ds ++ gs) = true) :
    Calls Try.prog 7 args W fun e W' => ∃ v, e = .returned v ∧ Rows.fnExactTypesOfValueSpec.post enc Try.prog Try.f7 false true false false W args v W' := by
  have hb := bound_of hk
  have hW' := hW
  obtain ⟨p, q, hA0, hV, rfl, hfz, hnd⟩ := hW
  have hA : DataW.TrodAll enc Try.prog W 0 (fun _ => true) true Try.f7.params.toList args.toList ds p := hA0
  rw [Try.params7] at hA hval
  obtain ⟨v0, vs0, d0, ds0, p0, q0, hargs, rfl, rfl, h0, r0⟩ := trodAll_cons hA
  obtain ⟨v1, vs1, d1, ds1, p1, q1, rfl, rfl, rfl, h1, r1⟩ := trodAll_cons r0
  obtain ⟨rfl, rfl, rfl⟩ := trodAll_nil r1
  obtain rfl : args = #[v0, v1] := by cases args; simp_all
  obtain ⟨rfl, rfl⟩ := trodVars_none hV
  simp only [List.append_nil, Rows.uptoBulkAll] at hb
  obtain ⟨w, a0, b0, _⟩ := arg_sl (k := 1) Try.underlying22 (by kernel_rfl) (fun _ => rfl) (decData W) (hval 0 _ v0 rfl rfl) h0
  obtain ⟨v, a1, b1, _⟩ := arg_struct Try.underlying49 (decVal W) (hval 1 _ v1 rfl rfl) h1
  have hs : WSmall w := wsmall_of b0 (by omega)
  have ok_v : v.ok := val_ok_of (by omega)
  have sz_v : v.size ≤ 1000000000000 := by rw [Val.size_eq]; omega
  refine (law_calls (laws_FnExactTypesOfValue_fn hs ok_v sz_v) (W := W) (args := #[v0, v1]) (fun G T hG => ⟨rfl, fun i hi hv => ?_⟩)).mono ?_
  · match i, hi with
    | 0, _ => exact a0 G T hG
    | 1, _ => exact a1 G T hG
  · rintro e W' ⟨v, G', rfl, hr, hbelow⟩
    obtain rfl := hr.bool_true
    exact ⟨_, rfl, law_post hW' rfl rfl Try.underlying4 rfl laidOut (fun t ht => by
      simp only [Try.params7, List.mem_cons, List.not_mem_nil, or_false] at ht
      rcases ht with rfl | rfl <;> exact ⟨by kernel_rfl, of_decide_eq_true (by kernel_rfl)⟩) hbelow⟩

set_option maxRecDepth 100000 in
theorem lifted (os : Os) (started : os.Started) (H : Type) (enc : TypeId × Value → H) (F : Stop.Interp) :
    ReturnsInHanded {} Try.checked os 7 .any ((Rows.OpenSpec.upto Rows.fnExactTypesOfValueSpec).pre6 enc Try.prog Try.f7 Rows.fnExactTypesOfValueUptoRow.domain false) (((Rows.OpenSpec.upto Rows.fnExactTypesOfValueSpec).at F).post enc Try.prog Try.f7 false true false false) := by
  refine returnsInHanded_of_cond (C := Try.checked) (s := Rows.OpenSpec.upto Rows.fnExactTypesOfValueSpec) (k := Rows.uptoSmall) rfl own started (by kernel_rfl) Try.func7
    (OpenSpec.witness (enc := enc) (C := Try.checked) (s := Rows.OpenSpec.upto Rows.fnExactTypesOfValueSpec) (k := Rows.uptoSmall) rfl false ⟨#[], #[.slice none 0 0, .agg #[.int .i64 0, .int .i64 0, .slice none 0 0]], []⟩ 8 (by kernel_rfl) (by kernel_rfl) (by kernel_rfl)
      (x := ([.nil, .agg [.lit (.int .i64 0), .lit (.int .i64 0), .nil]], [], [])) (by kernel_rfl) rfl (by kernel_rfl)) ?_
  intro W base args ds gs before hval hW _ hk _
  exact contract H enc W base args ds gs before hval hW hk

theorem over : Rows.fnExactTypesOfValueUptoRow.holds Try.pinned (Rows.OpenSpec.upto Rows.fnExactTypesOfValueSpec) :=
  OpenClaim.holds_of_cond 7 Try.f7 rfl rfl rfl rfl rfl rfl rfl ⟨rfl, rfl, rfl, rfl, rfl⟩ rfl rfl rfl rfl rfl (by kernel_rfl) Try.func7 (by kernel_rfl)
    (of_decide_eq_true (by kernel_rfl)) (by unfold Func.isWrapper; first | (rw [if_pos (by decide +kernel)]; kernel_rfl) | (rw [if_neg (by decide +kernel)]; exact ⟨rfl, rfl⟩))
    (fun os started H enc _ F => lifted os started H enc F)

theorem proved : Rows.FnExactTypesOfValueUptoSaid := over
end Go.Proofs.Ytadpcmcifbakoaa.fnExactTypesOfValue
