/-
  WALKS: the law FnExactSameValues.
-/
import Derived.Test.YtadpcmcifbakoaaF11
namespace Go.Proofs.Ytadpcmcifbakoaa
open Go
set_option linter.unusedSimpArgs false
set_option linter.unusedVariables false
set_option maxRecDepth 100000
set_option maxHeartbeats 2000000

theorem laws_FnExactSameValues_fn {w : List Data} (hs : WSmall w) {a k a' k' : Int} : FnD Try.prog 5 [.d (encDatas w), .agg [.d (.i a), .d (.i k)], .agg [.d (.i a'), .d (.i k')]] [] (.d (.bool true)) [] := by
  refine Fn.body (fn := Try.f5) (n := 52) rfl rfl rfl rfl rfl (fun w0 F0 own kept hk => ?_)
  refine CWp.seq ?_
  refine CWp.region rfl ?_
  refine Walk.box (id := 3004) .none rfl rfl rfl rfl rfl rfl rfl ?_
  refine Walk.box (id := 3005) .none rfl rfl rfl rfl rfl rfl rfl ?_
  refine Walk.assign .none rfl rfl ?_
  refine ⟨trivial, ?_⟩
  refine CWp.seq ?_
  refine CWp.region rfl ?_
  refine Walk.assign .none rfl rfl ?_
  refine ⟨trivial, ?_⟩
  refine CWp.seq ?_
  refine CWp.region rfl ?_
  refine Walk.move .none rfl rfl ?_
  refine Walk.move .none rfl rfl ?_
  refine Walk.call (cr := []) cal10 (laws_szDataS_fn hs (by omega) (by omega)) rfl .none rfl rfl (LeL.refl _) trivial rfl rfl rfl ?_
  refine Walk.assign .none rfl rfl ?_
  refine ⟨trivial, ?_⟩
  refine CWp.seq ?_
  refine CWp.seq ?_
  refine CWp.region rfl ?_
  refine Walk.move .none rfl rfl ?_
  refine Walk.ltI .none rfl rfl rfl ?_
  refine ⟨trivial, ?_⟩
  refine CWp.cond rfl (fun h1 => ?_) (fun h1 => ?_)
  · have h1p := h1; have h1s := h1; try simp only [Bool.not_eq_true', Bool.not_eq_false', Bool.not_not] at h1s
    try simp only [Bool.not_eq_true', Bool.not_eq_false', decide_eq_true_eq, decide_eq_false_iff_not, Bool.not_not, List.length_map, Bool.and_eq_true, Bool.or_eq_false_iff] at h1p
    refine CWp.seq ?_
    refine CWp.region rfl ?_
    refine Walk.assign .none rfl rfl ?_
    refine ⟨trivial, ?_⟩
    refine CWp.ret ?_
    refine ⟨_, _, [], (.cons (.tmp rfl) .nil), (.eqd ?_), ⟨rfl, rfl⟩, HSub.nil, noBox⟩
    all_goals (first | rfl | (exfalso; simp_all; done))
  · have h1p := h1; have h1s := h1; try simp only [Bool.not_eq_true', Bool.not_eq_false', Bool.not_not] at h1s
    try simp only [Bool.not_eq_true', Bool.not_eq_false', decide_eq_true_eq, decide_eq_false_iff_not, Bool.not_not, List.length_map, Bool.and_eq_true, Bool.or_eq_false_iff] at h1p
    refine CWp.skip ?_
    refine CWp.seq ?_
    refine CWp.drawn mixed rfl ?_
    refine Walk.move .none rfl rfl ?_
    refine Walk.call (cr := []) cal12 (laws_toDataS_fn hs) rfl .none rfl rfl (LeL.refl _) trivial rfl rfl rfl ?_
    refine Walk.loadBA ty40 .none rfl rfl rfl rfl ?_
    refine Walk.call (cr := []) cal24 (laws_toType_fn) rfl .none rfl rfl (LeL.refl _) trivial rfl rfl rfl ?_
    refine Walk.loadBA ty40 .none rfl rfl rfl rfl ?_
    refine Walk.call (cr := []) cal24 (laws_toType_fn) rfl .none rfl rfl (LeL.refl _) trivial rfl rfl rfl ?_
    refine Walk.call (cr := []) cal23 (spec_SameValues_fn hs) rfl .none rfl rfl (LeL.refl _) trivial rfl rfl rfl ?_
    refine Walk.move .none rfl rfl ?_
    refine Walk.extract .none rfl rfl rfl ?_
    refine Walk.extract .none rfl rfl rfl ?_
    refine Walk.assign .none rfl rfl ?_
    refine Walk.assign .none rfl rfl ?_
    refine ⟨by show _ = _; kernel_rfl, ?_⟩
    refine CWp.seq ?_
    refine CWp.region rfl ?_
    refine Walk.move .none rfl rfl ?_
    refine Walk.call (cr := []) cal12 (laws_toDataS_fn hs) rfl .none rfl rfl (LeL.refl _) trivial rfl rfl rfl ?_
    refine Walk.assign .none rfl rfl ?_
    refine ⟨trivial, ?_⟩
    refine CWp.seq ?_
    refine CWp.drawn mixed rfl ?_
    refine Walk.move .none rfl rfl ?_
    refine Walk.loadBA ty40 .none rfl rfl rfl rfl ?_
    refine Walk.call (cr := []) cal24 (laws_toType_fn) rfl .none rfl rfl (LeL.refl _) trivial rfl rfl rfl ?_
    refine Walk.loadBA ty40 .none rfl rfl rfl rfl ?_
    refine Walk.call (cr := []) cal24 (laws_toType_fn) rfl .none rfl rfl (LeL.refl _) trivial rfl rfl rfl ?_
    refine Walk.call (cr := []) cal25 (impl_SameValues_fn hs) rfl .none rfl rfl (LeL.refl _) trivial rfl rfl rfl ?_
    refine Walk.move .none rfl rfl ?_
    refine Walk.extract .none rfl rfl rfl ?_
    refine Walk.extract .none rfl rfl rfl ?_
    refine Walk.assign .none rfl rfl ?_
    refine Walk.assign .none rfl rfl ?_
    refine ⟨by show _ = _; kernel_rfl, ?_⟩
    refine CWp.seq ?_
    refine CWp.seq ?_
    refine CWp.region rfl ?_
    refine Walk.move .none rfl rfl ?_
    refine Walk.move .none rfl rfl ?_
    refine Walk.neB un4 .none rfl rfl rfl ?_
    refine Walk.move .none rfl rfl ?_
    refine Walk.split (e := 42) rfl (fun h2 => ?_) (fun h2 => ?_)
    · have h2p := h2; have h2s := h2; try simp only [Bool.not_eq_true', Bool.not_eq_false', Bool.not_not] at h2s
      try simp only [Bool.not_eq_true', Bool.not_eq_false', decide_eq_true_eq, decide_eq_false_iff_not, Bool.not_not, List.length_map, Bool.and_eq_true, Bool.or_eq_false_iff] at h2p
      refine Walk.pass rfl rfl rfl h2 rfl rfl ?_
      refine Walk.pass rfl rfl rfl h2 rfl rfl ?_
      refine Walk.pass rfl rfl rfl h2 rfl rfl ?_
      refine Walk.pickT .none rfl rfl h2 rfl ?_
      refine ⟨trivial, ?_⟩
      refine CWp.cond rfl (fun h3 => ?_) (fun h3 => ?_)
      · have h3p := h3; have h3s := h3; try simp only [Bool.not_eq_true', Bool.not_eq_false', Bool.not_not] at h3s
        try simp only [Bool.not_eq_true', Bool.not_eq_false', decide_eq_true_eq, decide_eq_false_iff_not, Bool.not_not, List.length_map, Bool.and_eq_true, Bool.or_eq_false_iff] at h3p
        refine CWp.seq ?_
        refine CWp.region rfl ?_
        refine Walk.assign .none rfl rfl ?_
        refine ⟨trivial, ?_⟩
        refine CWp.ret ?_
        refine ⟨_, _, [], (.cons (.tmp rfl) .nil), (.eqd ?_), ⟨rfl, rfl⟩, HSub.nil, noBox⟩
        all_goals (first | rfl | (exfalso; simp_all; done))
      · exact absurd h3 (by simp)
    · have h2p := h2; have h2s := h2; try simp only [Bool.not_eq_true', Bool.not_eq_false', Bool.not_not] at h2s
      try simp only [Bool.not_eq_true', Bool.not_eq_false', decide_eq_true_eq, decide_eq_false_iff_not, Bool.not_not, List.length_map, Bool.and_eq_true, Bool.or_eq_false_iff] at h2p
      refine Walk.move (.some rfl rfl h2) rfl rfl ?_
      refine Walk.move (.some rfl rfl h2) rfl rfl ?_
      refine Walk.neB un4 (.some rfl rfl h2) rfl rfl rfl ?_
      refine Walk.pickF .none rfl rfl h2 rfl ?_
      refine ⟨trivial, ?_⟩
      refine CWp.cond rfl (fun h4 => ?_) (fun h4 => ?_)
      · have h4p := h4; have h4s := h4; try simp only [Bool.not_eq_true', Bool.not_eq_false', Bool.not_not] at h4s
        try simp only [Bool.not_eq_true', Bool.not_eq_false', decide_eq_true_eq, decide_eq_false_iff_not, Bool.not_not, List.length_map, Bool.and_eq_true, Bool.or_eq_false_iff] at h4p
        refine CWp.seq ?_
        refine CWp.region rfl ?_
        refine Walk.assign .none rfl rfl ?_
        refine ⟨trivial, ?_⟩
        refine CWp.ret ?_
        refine ⟨_, _, [], (.cons (.tmp rfl) .nil), (.eqd ?_), ⟨rfl, rfl⟩, HSub.nil, noBox⟩
        all_goals (first | rfl | (exfalso; simp_all; done))
      · have h4p := h4; have h4s := h4; try simp only [Bool.not_eq_true', Bool.not_eq_false', Bool.not_not] at h4s
        try simp only [Bool.not_eq_true', Bool.not_eq_false', decide_eq_true_eq, decide_eq_false_iff_not, Bool.not_not, List.length_map, Bool.and_eq_true, Bool.or_eq_false_iff] at h4p
        refine CWp.skip ?_
        refine CWp.seq ?_
        refine CWp.seq ?_
        refine CWp.region rfl ?_
        refine Walk.move .none rfl rfl ?_
        refine Walk.move .none rfl rfl ?_
        refine Walk.call (cr := []) cal12 (laws_toDataS_fn hs) rfl .none rfl rfl (LeL.refl _) trivial rfl rfl rfl ?_
        refine Walk.call (cr := []) cal15 (laws_eqDataS_fn hs) rfl .none rfl rfl (LeL.refl _) trivial rfl rfl rfl ?_
        refine Walk.not .none rfl rfl ?_
        refine ⟨trivial, ?_⟩
        refine CWp.cond rfl (fun h5 => ?_) (fun h5 => ?_)
        · have h5p := h5; have h5s := h5; try simp only [Bool.not_eq_true', Bool.not_eq_false', Bool.not_not] at h5s
          try simp only [Bool.not_eq_true', Bool.not_eq_false', decide_eq_true_eq, decide_eq_false_iff_not, Bool.not_not, List.length_map, Bool.and_eq_true, Bool.or_eq_false_iff] at h5p
          refine CWp.seq ?_
          refine CWp.region rfl ?_
          refine Walk.assign .none rfl rfl ?_
          refine ⟨trivial, ?_⟩
          refine CWp.ret ?_
          refine ⟨_, _, [], (.cons (.tmp rfl) .nil), (.eqd ?_), ⟨rfl, rfl⟩, HSub.nil, noBox⟩
          all_goals (first | rfl | (exfalso; simp_all; done))
        · have h5p := h5; have h5s := h5; try simp only [Bool.not_eq_true', Bool.not_eq_false', Bool.not_not] at h5s
          try simp only [Bool.not_eq_true', Bool.not_eq_false', decide_eq_true_eq, decide_eq_false_iff_not, Bool.not_not, List.length_map, Bool.and_eq_true, Bool.or_eq_false_iff] at h5p
          refine CWp.skip ?_
          refine CWp.seq ?_
          refine CWp.region rfl ?_
          refine Walk.assign .none rfl rfl ?_
          refine ⟨trivial, ?_⟩
          refine CWp.ret ?_
          refine ⟨_, _, [], (.cons (.tmp rfl) .nil), (.eqd ?_), ⟨rfl, rfl⟩, HSub.nil, noBox⟩
          all_goals (first | rfl | (exfalso; simp_all; done))

end Go.Proofs.Ytadpcmcifbakoaa
