/-
  WALKS: the law FnExactAllTypes.
-/
import Derived.Test.YtadpcmcifbakoaaF13
import Derived.Test.YtadpcmcifbakoaaWv
namespace Go.Proofs.Ytadpcmcifbakoaa
open Go
set_option linter.unusedSimpArgs false
set_option linter.unusedVariables false
set_option maxRecDepth 100000
set_option maxHeartbeats 2000000

theorem szL_ctors_le : ∀ l : List Ctor, szL Ctor.sz l ≤ 2 * (mCtors l : Int)
  | [] => by simp [szL, mCtors]
  | x :: r => by
    have ih := szL_ctors_le r
    simp only [szL, Ctor.sz, szL_tys, mCtors, mCtor, mTys, List.length_cons, List.map_cons, List.sum_cons] at ih ⊢
    omega
theorem szL_datas_le : ∀ l : List Data, szL Data.sz l ≤ 2 * (mDatas l : Int)
  | [] => by simp [szL, mDatas]
  | x :: r => by
    have ih := szL_datas_le r
    have h2 := szL_ctors_le x.ctors
    simp only [szL, Data.sz, mDatas, mData, List.length_cons, List.map_cons, List.sum_cons] at ih ⊢
    omega
theorem allTypesOf_len (n : Nat) : (allTypesOf n).length = 1 + n * 4 := by
  simp only [allTypesOf, List.length_cons, List.length_flatMap, List.length_map, List.length_range]
  rw [List.map_const', List.sum_replicate_nat]
  simp; omega

theorem laws_FnExactAllTypes_good {w : List Data} (hs : WSmall w) (hv : worldValid w = true) : FnD Try.prog 3 [.d (encDatas w)] [] (.d (.bool true)) [] := by
  have hw4 : w.length ≤ 4 := by
    have h := hv
    unfold worldValid at h
    simp only [Bool.and_eq_true, decide_eq_true_eq] at h
    omega
  have hsp : (if specWorldValid w then allTypesOf w.length else []) = allTypesOf w.length := by rw [specWorldValid_eq, hv]; rfl
  have hspec := spec_AllTypes_fn hs
  rw [hsp] at hspec
  have himp := impl_AllTypes_fn hs
  rw [allTypes, if_pos hv] at himp
  have hlen := allTypesOf_len w.length
  have htys := szL_tys (allTypesOf w.length)
  have z := szr_or (left := 1048576) (mDatas w)
  have hbd := szL_datas_le w
  have hnn := szL_nonneg (l := w) Data.sz_nn
  refine Fn.body (fn := Try.f3) (n := 69) rfl rfl rfl rfl rfl (fun w0 F0 own kept hk => ?_)
  refine CWp.seq ?_
  refine CWp.region rfl ?_
  refine Walk.assign .none rfl rfl ?_
  refine ⟨trivial, ?_⟩
  refine CWp.seq ?_
  refine CWp.region rfl ?_
  refine Walk.assign .none rfl rfl ?_
  refine ⟨trivial, ?_⟩
  refine CWp.seq ?_
  refine CWp.region rfl ?_
  refine Walk.move .none rfl rfl ?_
  refine Walk.move .none rfl rfl ?_
  refine Walk.call (cr := []) cal10 (laws_szDataS_fn hs (by omega) (by omega)) rfl .none rfl rfl (LeL.refl _) trivial rfl rfl rfl ?_
  refine Walk.assign .none rfl rfl ?_
  refine ⟨trivial, ?_⟩
  refine CWp.seq ?_
  refine CWp.seq ?_
  refine CWp.region rfl ?_
  refine Walk.move .none rfl rfl ?_
  refine Walk.ltI .none rfl rfl rfl ?_
  refine ⟨trivial, ?_⟩
  refine CWp.cond rfl (fun h1 => ?_) (fun h1 => ?_)
  · have h1p := h1; have h1s := h1; try simp only [Bool.not_eq_true', Bool.not_eq_false', Bool.not_not] at h1s
    try simp only [Bool.not_eq_true', Bool.not_eq_false', decide_eq_true_eq, decide_eq_false_iff_not, Bool.not_not, List.length_map, Bool.and_eq_true, Bool.or_eq_false_iff] at h1p
    refine CWp.seq ?_
    refine CWp.region rfl ?_
    refine Walk.assign .none rfl rfl ?_
    refine ⟨trivial, ?_⟩
    refine CWp.ret ?_
    refine ⟨_, _, [], (.cons (.tmp rfl) .nil), (.eqd ?_), ⟨rfl, rfl⟩, HSub.nil, noBox⟩
    all_goals (first | rfl | (exfalso; simp_all; done) | (exfalso; simp at *; omega))
  · have h1p := h1; have h1s := h1; try simp only [Bool.not_eq_true', Bool.not_eq_false', Bool.not_not] at h1s
    try simp only [Bool.not_eq_true', Bool.not_eq_false', decide_eq_true_eq, decide_eq_false_iff_not, Bool.not_not, List.length_map, Bool.and_eq_true, Bool.or_eq_false_iff] at h1p
    refine CWp.skip ?_
    refine CWp.seq ?_
    refine CWp.region rfl ?_
    refine Walk.move .none rfl rfl ?_
    refine Walk.call (cr := []) cal12 (laws_toDataS_fn hs) rfl .none rfl rfl (LeL.refl _) trivial rfl rfl rfl ?_
    refine Walk.call (cr := []) cal11 (hspec) rfl .none rfl rfl (LeL.refl _) trivial rfl rfl rfl ?_
    refine Walk.assign .none rfl rfl ?_
    refine ⟨trivial, ?_⟩
    refine CWp.seq ?_
    refine CWp.region rfl ?_
    refine Walk.move .none rfl rfl ?_
    refine Walk.call (cr := [63]) cal12 (laws_toDataS_tr hs) rfl .none rfl rfl (LeL.refl _) trivial rfl (by first | rfl | (simp only [okCall, List.all_cons, List.all_nil, entOK, entOK', AV.idsL, AV.ids, idsL_append, ownCells_ids, List.map_cons, List.map_nil]; rfl)) (by first | rfl | (simp only [freshB, occH, occE, Res.ids, List.cons_append, List.nil_append, AV.idsL, AV.ids, idsL_append, ownCells_ids, zerosA_idsR, repNil, List.map_cons, List.map_nil, upC]; rfl)) ?_
    refine Walk.assign .none rfl rfl ?_
    refine ⟨trivial, ?_⟩
    refine CWp.seq ?_
    refine CWp.region rfl ?_
    refine Walk.move .none rfl rfl ?_
    refine Walk.lend (cr := [1]) (lr := [(63, _)]) cal13 (impl_AllTypes_own hs hv) rfl .none rfl rfl (.cons (.ms (k := 2) List.mem_cons_self (by intro x hx; obtain ⟨y, _, rfl⟩ := List.mem_map.1 hx; rfl) (by first | rfl | (simp [mkL_len]; done))) .nil) ⟨rfl, trivial⟩ rfl rfl (by first | rfl | (simp only [freshB, occH, occE, Res.ids, List.cons_append, List.nil_append, AV.idsL, AV.ids, idsL_append, ownCells_ids, zerosA_idsR, repNil, List.map_cons, List.map_nil, upC]; rfl)) ?_
    refine Walk.assign .none rfl rfl ?_
    refine ⟨trivial, ?_⟩
    refine CWp.seq ?_
    refine CWp.seq ?_
    refine CWp.fixT hk 6 1 2 rfl rfl rfl (fun hx2 => ?_) (fun hx2 => ?_)
    · exact absurd hx2 (by simp [allTypesOf])
    ·
      refine CWp.region rfl ?_
      refine Walk.move .none rfl rfl ?_
      refine Walk.move .none rfl rfl ?_
      refine Walk.lend (cr := []) (lr := [(1, _)]) cal14 (laws_eqTypeS_fn (by omega)) rfl .none rfl rfl (.cons (.ms (k := 2) List.mem_cons_self (by intro x hx; obtain ⟨y, _, rfl⟩ := List.mem_map.1 hx; rfl) (by first | rfl | (simp [mkL_len]; done))) (.cons (.le (.refl _)) .nil)) ⟨rfl, trivial⟩ rfl rfl (by first | rfl | (simp only [freshB, occH, occE, Res.ids, List.cons_append, List.nil_append, AV.idsL, AV.ids, idsL_append, ownCells_ids, zerosA_idsR, repNil, List.map_cons, List.map_nil, upC]; rfl)) ?_
      refine Walk.not .none rfl rfl ?_
      refine ⟨trivial, ?_⟩
      refine CWp.cond rfl (fun h3 => ?_) (fun h3 => ?_)
      · have h3p := h3; have h3s := h3; try simp only [Bool.not_eq_true', Bool.not_eq_false', Bool.not_not] at h3s
        try simp only [Bool.not_eq_true', Bool.not_eq_false', decide_eq_true_eq, decide_eq_false_iff_not, Bool.not_not, List.length_map, Bool.and_eq_true, Bool.or_eq_false_iff] at h3p
        refine CWp.seq ?_
        refine CWp.region rfl ?_
        refine Walk.assign .none rfl rfl ?_
        refine ⟨trivial, ?_⟩
        refine CWp.ret ?_
        refine ⟨_, _, [], (.cons (.tmp rfl) .nil), (.eqd ?_), ⟨rfl, rfl⟩, HSub.nil, noBox⟩
        all_goals (first | rfl | (exfalso; simp_all; done) | (exfalso; simp at *; omega))
      · have h3p := h3; have h3s := h3; try simp only [Bool.not_eq_true', Bool.not_eq_false', Bool.not_not] at h3s
        try simp only [Bool.not_eq_true', Bool.not_eq_false', decide_eq_true_eq, decide_eq_false_iff_not, Bool.not_not, List.length_map, Bool.and_eq_true, Bool.or_eq_false_iff] at h3p
        refine CWp.skip ?_
        refine CWp.seq ?_
        refine CWp.seq ?_
        refine CWp.region rfl ?_
        refine Walk.move .none rfl rfl ?_
        refine Walk.move .none rfl rfl ?_
        refine Walk.call (cr := []) cal12 (laws_toDataS_fn hs) rfl .none rfl rfl (LeL.refl _) trivial rfl (by first | rfl | (simp only [okCall, List.all_cons, List.all_nil, entOK, entOK', AV.idsL, AV.ids, idsL_append, ownCells_ids, List.map_cons, List.map_nil]; rfl)) (by first | rfl | (simp only [freshB, occH, occE, Res.ids, List.cons_append, List.nil_append, AV.idsL, AV.ids, idsL_append, ownCells_ids, zerosA_idsR, repNil, List.map_cons, List.map_nil, upC]; rfl)) ?_
        refine Walk.lend (cr := []) (lr := [(63, _)]) cal15 (laws_eqDataS_fn hs) rfl .none rfl rfl (.cons (.ms (k := 2) List.mem_cons_self (by intro x hx; obtain ⟨y, _, rfl⟩ := List.mem_map.1 hx; rfl) (by first | rfl | (simp [mkL_len]; done))) (.cons (.le (.refl _)) .nil)) ⟨rfl, trivial⟩ rfl rfl (by first | rfl | (simp only [freshB, occH, occE, Res.ids, List.cons_append, List.nil_append, AV.idsL, AV.ids, idsL_append, ownCells_ids, zerosA_idsR, repNil, List.map_cons, List.map_nil, upC]; rfl)) ?_
        refine Walk.not .none rfl rfl ?_
        refine ⟨trivial, ?_⟩
        refine CWp.cond rfl (fun h4 => ?_) (fun h4 => ?_)
        · have h4p := h4; have h4s := h4; try simp only [Bool.not_eq_true', Bool.not_eq_false', Bool.not_not] at h4s
          try simp only [Bool.not_eq_true', Bool.not_eq_false', decide_eq_true_eq, decide_eq_false_iff_not, Bool.not_not, List.length_map, Bool.and_eq_true, Bool.or_eq_false_iff] at h4p
          refine CWp.seq ?_
          refine CWp.region rfl ?_
          refine Walk.assign .none rfl rfl ?_
          refine ⟨trivial, ?_⟩
          refine CWp.ret ?_
          refine ⟨_, _, [], (.cons (.tmp rfl) .nil), (.eqd ?_), ⟨rfl, rfl⟩, HSub.nil, noBox⟩
          all_goals (first | rfl | (exfalso; simp_all; done) | (exfalso; simp at *; omega))
        · have h4p := h4; have h4s := h4; try simp only [Bool.not_eq_true', Bool.not_eq_false', Bool.not_not] at h4s
          try simp only [Bool.not_eq_true', Bool.not_eq_false', decide_eq_true_eq, decide_eq_false_iff_not, Bool.not_not, List.length_map, Bool.and_eq_true, Bool.or_eq_false_iff] at h4p
          refine CWp.skip ?_
          refine CWp.seq ?_
          refine CWp.region rfl ?_
          refine Walk.assign .none rfl rfl ?_
          refine ⟨trivial, ?_⟩
          refine CWp.seq ?_
          refine CWp.region rfl ?_
          refine Walk.move .none rfl rfl ?_
          refine Walk.move .none rfl rfl ?_
          refine Walk.call (cr := []) cal16 (FnD.tree_ren (ownCells_ids _ _) (ownCells_ids _ _) (laws_markDataS_tr (l := w) (k := 1) (by omega) (by omega) hs) 63) rfl .none rfl rfl (.cons (LeA.msn (by first | rfl | (simp; done))) (.cons (.refl _) .nil)) ⟨rfl, trivial⟩ rfl (by first | rfl | (simp only [okCall, List.all_cons, List.all_nil, entOK, entOK', AV.idsL, AV.ids, idsL_append, ownCells_ids, List.map_cons, List.map_nil]; rfl)) (by first | rfl | (simp only [freshB, occH, occE, Res.ids, List.cons_append, List.nil_append, AV.idsL, AV.ids, idsL_append, ownCells_ids, zerosA_idsR, repNil, List.map_cons, List.map_nil, upC]; rfl)) ?_
          refine Walk.assign .none rfl rfl ?_
          refine ⟨trivial, ?_⟩
          refine CWp.seq ?_
          refine CWp.seq ?_
          refine CWp.region rfl ?_
          refine Walk.move .none rfl rfl ?_
          refine Walk.ltI .none rfl rfl rfl ?_
          refine Walk.move .none rfl rfl ?_
          refine Walk.split (e := 37) rfl (fun h5 => ?_) (fun h5 => ?_)
          · have h5p := h5; have h5s := h5; try simp only [Bool.not_eq_true', Bool.not_eq_false', Bool.not_not] at h5s
            try simp only [Bool.not_eq_true', Bool.not_eq_false', decide_eq_true_eq, decide_eq_false_iff_not, Bool.not_not, List.length_map, Bool.and_eq_true, Bool.or_eq_false_iff] at h5p
            refine Walk.pass rfl rfl rfl h5 rfl rfl ?_
            refine Walk.pass rfl rfl rfl h5 rfl rfl ?_
            refine Walk.pass rfl rfl rfl h5 rfl rfl ?_
            refine Walk.pass rfl rfl rfl h5 rfl rfl ?_
            refine Walk.pickT .none rfl rfl h5 rfl ?_
            refine ⟨trivial, ?_⟩
            refine CWp.cond rfl (fun h6 => ?_) (fun h6 => ?_)
            · have h6p := h6; have h6s := h6; try simp only [Bool.not_eq_true', Bool.not_eq_false', Bool.not_not] at h6s
              try simp only [Bool.not_eq_true', Bool.not_eq_false', decide_eq_true_eq, decide_eq_false_iff_not, Bool.not_not, List.length_map, Bool.and_eq_true, Bool.or_eq_false_iff] at h6p
              refine CWp.seq ?_
              refine CWp.region rfl ?_
              refine Walk.assign .none rfl rfl ?_
              refine ⟨trivial, ?_⟩
              refine CWp.ret ?_
              refine ⟨_, _, [], (.cons (.tmp rfl) .nil), (.eqd ?_), ⟨rfl, rfl⟩, HSub.nil, noBox⟩
              all_goals (first | rfl | (exfalso; simp_all; done) | (exfalso; simp at *; omega))
            · exact absurd h6 (by simp)
          · have h5p := h5; have h5s := h5; try simp only [Bool.not_eq_true', Bool.not_eq_false', Bool.not_not] at h5s
            try simp only [Bool.not_eq_true', Bool.not_eq_false', decide_eq_true_eq, decide_eq_false_iff_not, Bool.not_not, List.length_map, Bool.and_eq_true, Bool.or_eq_false_iff] at h5p
            refine Walk.move (.some rfl rfl h5) rfl rfl ?_
            refine Walk.move (.some rfl rfl h5) rfl rfl ?_
            refine Walk.lend (cr := []) (lr := [(1, _)]) cal14 (laws_eqTypeS_fn (by omega)) rfl (.some rfl rfl h5) rfl rfl (.cons (.ms (k := 2) List.mem_cons_self (by intro x hx; obtain ⟨y, _, rfl⟩ := List.mem_map.1 hx; rfl) (by first | rfl | (simp [mkL_len]; done))) (.cons (.le (.refl _)) .nil)) ⟨rfl, trivial⟩ rfl rfl (by first | rfl | (simp only [freshB, occH, occE, Res.ids, List.cons_append, List.nil_append, AV.idsL, AV.ids, idsL_append, ownCells_ids, zerosA_idsR, repNil, List.map_cons, List.map_nil, upC]; rfl)) ?_
            refine Walk.not (.some rfl rfl h5) rfl rfl ?_
            refine Walk.pickF .none rfl rfl h5 rfl ?_
            refine ⟨trivial, ?_⟩
            refine CWp.cond rfl (fun h7 => ?_) (fun h7 => ?_)
            · have h7p := h7; have h7s := h7; try simp only [Bool.not_eq_true', Bool.not_eq_false', Bool.not_not] at h7s
              try simp only [Bool.not_eq_true', Bool.not_eq_false', decide_eq_true_eq, decide_eq_false_iff_not, Bool.not_not, List.length_map, Bool.and_eq_true, Bool.or_eq_false_iff] at h7p
              refine CWp.seq ?_
              refine CWp.region rfl ?_
              refine Walk.assign .none rfl rfl ?_
              refine ⟨trivial, ?_⟩
              refine CWp.ret ?_
              refine ⟨_, _, [], (.cons (.tmp rfl) .nil), (.eqd ?_), ⟨rfl, rfl⟩, HSub.nil, noBox⟩
              all_goals (first | rfl | (exfalso; simp_all; done) | (exfalso; simp at *; omega))
            · have h7p := h7; have h7s := h7; try simp only [Bool.not_eq_true', Bool.not_eq_false', Bool.not_not] at h7s
              try simp only [Bool.not_eq_true', Bool.not_eq_false', decide_eq_true_eq, decide_eq_false_iff_not, Bool.not_not, List.length_map, Bool.and_eq_true, Bool.or_eq_false_iff] at h7p
              refine CWp.skip ?_
              refine CWp.seq ?_
              refine CWp.region rfl ?_
              refine Walk.assign .none rfl rfl ?_
              refine ⟨trivial, ?_⟩
              refine CWp.seq ?_
              refine CWp.region rfl ?_
              refine Walk.move .none rfl rfl ?_
              refine Walk.move .none rfl rfl ?_
              refine Walk.call (cr := []) cal17 (FnD.tree_ren (ownCells_ids _ _) (ownCells_ids _ _) (laws_markTypeS_tr (m := true) (l := allTypesOf w.length) (k := 1) (by omega) (by omega) (by omega)) 1) rfl .none rfl rfl (.cons (LeA.msn (by first | rfl | (simp; done))) (.cons (.refl _) .nil)) ⟨rfl, trivial⟩ rfl (by first | rfl | (simp only [okCall, List.all_cons, List.all_nil, entOK, entOK', AV.idsL, AV.ids, idsL_append, ownCells_ids, List.map_cons, List.map_nil]; rfl)) (by first | rfl | (simp only [freshB, occH, occE, Res.ids, List.cons_append, List.nil_append, AV.idsL, AV.ids, idsL_append, ownCells_ids, zerosA_idsR, repNil, List.map_cons, List.map_nil, upC]; rfl)) ?_
              refine Walk.assign .none rfl rfl ?_
              refine ⟨trivial, ?_⟩
              refine CWp.seq ?_
              refine CWp.region rfl ?_
              refine Walk.assign .none rfl rfl ?_
              refine ⟨trivial, ?_⟩
              refine CWp.seq ?_
              refine CWp.region rfl ?_
              refine Walk.move .none rfl rfl ?_
              refine Walk.move .none rfl rfl ?_
              refine Walk.lend (cr := []) (lr := [(1, _)]) cal18 (laws_heldTypeS_fn (l := allTypesOf w.length) (k := 1) (by omega) (by omega) (by omega)) rfl .none rfl rfl (.cons (.ms (k := 2) List.mem_cons_self (by intro x hx; obtain ⟨y, _, rfl⟩ := List.mem_map.1 hx; rfl) (by first | rfl | (simp [mkL_len]; done))) (.cons (.le (.refl _)) .nil)) ⟨rfl, trivial⟩ rfl rfl (by first | rfl | (simp only [freshB, occH, occE, Res.ids, List.cons_append, List.nil_append, AV.idsL, AV.ids, idsL_append, ownCells_ids, zerosA_idsR, repNil, List.map_cons, List.map_nil, upC]; rfl)) ?_
              refine Walk.assign .none rfl rfl ?_
              refine ⟨trivial, ?_⟩
              refine CWp.seq ?_
              refine CWp.seq ?_
              refine CWp.region rfl ?_
              refine Walk.move .none rfl rfl ?_
              refine Walk.ltI .none rfl rfl rfl ?_
              refine ⟨trivial, ?_⟩
              refine CWp.cond rfl (fun h8 => ?_) (fun h8 => ?_)
              · have h8p := h8; have h8s := h8; try simp only [Bool.not_eq_true', Bool.not_eq_false', Bool.not_not] at h8s
                try simp only [Bool.not_eq_true', Bool.not_eq_false', decide_eq_true_eq, decide_eq_false_iff_not, Bool.not_not, List.length_map, Bool.and_eq_true, Bool.or_eq_false_iff] at h8p
                refine CWp.seq ?_
                refine CWp.region rfl ?_
                refine Walk.assign .none rfl rfl ?_
                refine ⟨trivial, ?_⟩
                refine CWp.ret ?_
                refine ⟨_, _, [], (.cons (.tmp rfl) .nil), (.eqd ?_), ⟨rfl, rfl⟩, HSub.nil, noBox⟩
                all_goals (first | rfl | (exfalso; simp_all; done) | (exfalso; simp at *; omega))
              · have h8p := h8; have h8s := h8; try simp only [Bool.not_eq_true', Bool.not_eq_false', Bool.not_not] at h8s
                try simp only [Bool.not_eq_true', Bool.not_eq_false', decide_eq_true_eq, decide_eq_false_iff_not, Bool.not_not, List.length_map, Bool.and_eq_true, Bool.or_eq_false_iff] at h8p
                refine CWp.skip ?_
                refine CWp.seq ?_
                refine CWp.seq ?_
                refine CWp.region rfl ?_
                refine Walk.move .none rfl rfl ?_
                refine Walk.move .none rfl rfl ?_
                refine Walk.neI .none rfl rfl rfl ?_
                refine ⟨trivial, ?_⟩
                refine CWp.cond rfl (fun h9 => ?_) (fun h9 => ?_)
                · have h9p := h9; have h9s := h9; try simp only [Bool.not_eq_true', Bool.not_eq_false', Bool.not_not] at h9s
                  try simp only [Bool.not_eq_true', Bool.not_eq_false', decide_eq_true_eq, decide_eq_false_iff_not, Bool.not_not, List.length_map, Bool.and_eq_true, Bool.or_eq_false_iff] at h9p
                  refine CWp.seq ?_
                  refine CWp.region rfl ?_
                  refine Walk.assign .none rfl rfl ?_
                  refine ⟨trivial, ?_⟩
                  refine CWp.ret ?_
                  refine ⟨_, _, [], (.cons (.tmp rfl) .nil), (.eqd ?_), ⟨rfl, rfl⟩, HSub.nil, noBox⟩
                  all_goals (first | rfl | (exfalso; simp_all; done) | (exfalso; simp at *; omega))
                · have h9p := h9; have h9s := h9; try simp only [Bool.not_eq_true', Bool.not_eq_false', Bool.not_not] at h9s
                  try simp only [Bool.not_eq_true', Bool.not_eq_false', decide_eq_true_eq, decide_eq_false_iff_not, Bool.not_not, List.length_map, Bool.and_eq_true, Bool.or_eq_false_iff] at h9p
                  refine CWp.skip ?_
                  refine CWp.seq ?_
                  refine CWp.region rfl ?_
                  refine Walk.move .none rfl rfl ?_
                  refine Walk.call (cr := []) cal12 (laws_toDataS_fn hs) rfl .none rfl rfl (LeL.refl _) trivial rfl (by first | rfl | (simp only [okCall, List.all_cons, List.all_nil, entOK, entOK', AV.idsL, AV.ids, idsL_append, ownCells_ids, List.map_cons, List.map_nil]; rfl)) (by first | rfl | (simp only [freshB, occH, occE, Res.ids, List.cons_append, List.nil_append, AV.idsL, AV.ids, idsL_append, ownCells_ids, zerosA_idsR, repNil, List.map_cons, List.map_nil, upC]; rfl)) ?_
                  refine Walk.call (cr := []) cal13 (himp) rfl .none rfl rfl (LeL.refl _) trivial rfl (by first | rfl | (simp only [okCall, List.all_cons, List.all_nil, entOK, entOK', AV.idsL, AV.ids, idsL_append, ownCells_ids, List.map_cons, List.map_nil]; rfl)) (by first | rfl | (simp only [freshB, occH, occE, Res.ids, List.cons_append, List.nil_append, AV.idsL, AV.ids, idsL_append, ownCells_ids, zerosA_idsR, repNil, List.map_cons, List.map_nil, upC]; rfl)) ?_
                  refine Walk.assign .none rfl rfl ?_
                  refine ⟨trivial, ?_⟩
                  refine CWp.seq ?_
                  refine CWp.seq ?_
                  refine CWp.region rfl ?_
                  refine Walk.move .none rfl rfl ?_
                  refine Walk.move .none rfl rfl ?_
                  refine Walk.call (cr := []) cal14 (laws_eqTypeS_fn (by omega)) rfl .none rfl rfl (LeL.refl _) trivial rfl (by first | rfl | (simp only [okCall, List.all_cons, List.all_nil, entOK, entOK', AV.idsL, AV.ids, idsL_append, ownCells_ids, List.map_cons, List.map_nil]; rfl)) (by first | rfl | (simp only [freshB, occH, occE, Res.ids, List.cons_append, List.nil_append, AV.idsL, AV.ids, idsL_append, ownCells_ids, zerosA_idsR, repNil, List.map_cons, List.map_nil, upC]; rfl)) ?_
                  refine Walk.not .none rfl rfl ?_
                  refine ⟨trivial, ?_⟩
                  refine CWp.cond rfl (fun h10 => ?_) (fun h10 => ?_)
                  · have h10p := h10; have h10s := h10; try simp only [Bool.not_eq_true', Bool.not_eq_false', Bool.not_not] at h10s
                    try simp only [Bool.not_eq_true', Bool.not_eq_false', decide_eq_true_eq, decide_eq_false_iff_not, Bool.not_not, List.length_map, Bool.and_eq_true, Bool.or_eq_false_iff] at h10p
                    refine CWp.seq ?_
                    refine CWp.region rfl ?_
                    refine Walk.assign .none rfl rfl ?_
                    refine ⟨trivial, ?_⟩
                    refine CWp.ret ?_
                    refine ⟨_, _, [], (.cons (.tmp rfl) .nil), (.eqd ?_), ⟨rfl, rfl⟩, HSub.nil, noBox⟩
                    all_goals (first | rfl | (exfalso; simp_all; done) | (exfalso; simp at *; omega))
                  · have h10p := h10; have h10s := h10; try simp only [Bool.not_eq_true', Bool.not_eq_false', Bool.not_not] at h10s
                    try simp only [Bool.not_eq_true', Bool.not_eq_false', decide_eq_true_eq, decide_eq_false_iff_not, Bool.not_not, List.length_map, Bool.and_eq_true, Bool.or_eq_false_iff] at h10p
                    refine CWp.skip ?_
                    refine CWp.seq ?_
                    refine CWp.region rfl ?_
                    refine Walk.assign .none rfl rfl ?_
                    refine ⟨trivial, ?_⟩
                    refine CWp.seq ?_
                    refine CWp.region rfl ?_
                    refine Walk.move .none rfl rfl ?_
                    refine Walk.move .none rfl rfl ?_
                    refine Walk.lend (cr := []) (lr := [(1, _)]) cal18 (laws_heldTypeS_fn (l := allTypesOf w.length) (k := 1) (by omega) (by omega) (by omega)) rfl .none rfl rfl (.cons (.ms (k := 2) List.mem_cons_self (by intro x hx; obtain ⟨y, _, rfl⟩ := List.mem_map.1 hx; rfl) (by first | rfl | (simp [mkL_len]; done))) (.cons (.le (.refl _)) .nil)) ⟨rfl, trivial⟩ rfl rfl (by first | rfl | (simp only [freshB, occH, occE, Res.ids, List.cons_append, List.nil_append, AV.idsL, AV.ids, idsL_append, ownCells_ids, zerosA_idsR, repNil, List.map_cons, List.map_nil, upC]; rfl)) ?_
                    refine Walk.assign .none rfl rfl ?_
                    refine ⟨trivial, ?_⟩
                    refine CWp.seq ?_
                    refine CWp.seq ?_
                    refine CWp.region rfl ?_
                    refine Walk.move .none rfl rfl ?_
                    refine Walk.ltI .none rfl rfl rfl ?_
                    refine ⟨trivial, ?_⟩
                    refine CWp.cond rfl (fun h11 => ?_) (fun h11 => ?_)
                    · have h11p := h11; have h11s := h11; try simp only [Bool.not_eq_true', Bool.not_eq_false', Bool.not_not] at h11s
                      try simp only [Bool.not_eq_true', Bool.not_eq_false', decide_eq_true_eq, decide_eq_false_iff_not, Bool.not_not, List.length_map, Bool.and_eq_true, Bool.or_eq_false_iff] at h11p
                      refine CWp.seq ?_
                      refine CWp.region rfl ?_
                      refine Walk.assign .none rfl rfl ?_
                      refine ⟨trivial, ?_⟩
                      refine CWp.ret ?_
                      refine ⟨_, _, [], (.cons (.tmp rfl) .nil), (.eqd ?_), ⟨rfl, rfl⟩, HSub.nil, noBox⟩
                      all_goals (first | rfl | (exfalso; simp_all; done) | (exfalso; simp at *; omega))
                    · have h11p := h11; have h11s := h11; try simp only [Bool.not_eq_true', Bool.not_eq_false', Bool.not_not] at h11s
                      try simp only [Bool.not_eq_true', Bool.not_eq_false', decide_eq_true_eq, decide_eq_false_iff_not, Bool.not_not, List.length_map, Bool.and_eq_true, Bool.or_eq_false_iff] at h11p
                      refine CWp.skip ?_
                      refine CWp.seq ?_
                      refine CWp.seq ?_
                      refine CWp.region rfl ?_
                      refine Walk.move .none rfl rfl ?_
                      refine Walk.move .none rfl rfl ?_
                      refine Walk.neI .none rfl rfl rfl ?_
                      refine ⟨trivial, ?_⟩
                      refine CWp.cond rfl (fun h12 => ?_) (fun h12 => ?_)
                      · have h12p := h12; have h12s := h12; try simp only [Bool.not_eq_true', Bool.not_eq_false', Bool.not_not] at h12s
                        try simp only [Bool.not_eq_true', Bool.not_eq_false', decide_eq_true_eq, decide_eq_false_iff_not, Bool.not_not, List.length_map, Bool.and_eq_true, Bool.or_eq_false_iff] at h12p
                        refine CWp.seq ?_
                        refine CWp.region rfl ?_
                        refine Walk.assign .none rfl rfl ?_
                        refine ⟨trivial, ?_⟩
                        refine CWp.ret ?_
                        refine ⟨_, _, [], (.cons (.tmp rfl) .nil), (.eqd ?_), ⟨rfl, rfl⟩, HSub.nil, noBox⟩
                        all_goals (first | rfl | (exfalso; simp_all; done) | (exfalso; simp at *; omega))
                      · have h12p := h12; have h12s := h12; try simp only [Bool.not_eq_true', Bool.not_eq_false', Bool.not_not] at h12s
                        try simp only [Bool.not_eq_true', Bool.not_eq_false', decide_eq_true_eq, decide_eq_false_iff_not, Bool.not_not, List.length_map, Bool.and_eq_true, Bool.or_eq_false_iff] at h12p
                        refine CWp.skip ?_
                        refine CWp.seq ?_
                        refine CWp.region rfl ?_
                        refine Walk.assign .none rfl rfl ?_
                        refine ⟨trivial, ?_⟩
                        refine CWp.ret ?_
                        refine ⟨_, _, [], (.cons (.tmp rfl) .nil), (.eqd ?_), ⟨rfl, rfl⟩, HSub.nil, noBox⟩
                        all_goals (first | rfl | (exfalso; simp_all; done) | (exfalso; simp at *; omega))


theorem laws_FnExactAllTypes_bad {w : List Data} (hs : WSmall w) (hv : worldValid w = false) : FnD Try.prog 3 [.d (encDatas w)] [] (.d (.bool true)) [] := by
  have hsp : (if specWorldValid w then allTypesOf w.length else []) = [] := by rw [specWorldValid_eq, hv]; rfl
  have hspec := spec_AllTypes_fn hs
  rw [hsp] at hspec
  have himp := impl_AllTypes_fn hs
  rw [allTypes, if_neg (by rw [hv]; simp)] at himp
  have z := szr_or (left := 1048576) (mDatas w)
  have hbd := szL_datas_le w
  have hnn := szL_nonneg (l := w) Data.sz_nn
  refine Fn.body (fn := Try.f3) (n := 69) rfl rfl rfl rfl rfl (fun w0 F0 own kept hk => ?_)
  refine CWp.seq ?_
  refine CWp.region rfl ?_
  refine Walk.assign .none rfl rfl ?_
  refine ⟨trivial, ?_⟩
  refine CWp.seq ?_
  refine CWp.region rfl ?_
  refine Walk.assign .none rfl rfl ?_
  refine ⟨trivial, ?_⟩
  refine CWp.seq ?_
  refine CWp.region rfl ?_
  refine Walk.move .none rfl rfl ?_
  refine Walk.move .none rfl rfl ?_
  refine Walk.call (cr := []) cal10 (laws_szDataS_fn hs (by omega) (by omega)) rfl .none rfl rfl (LeL.refl _) trivial rfl rfl rfl ?_
  refine Walk.assign .none rfl rfl ?_
  refine ⟨trivial, ?_⟩
  refine CWp.seq ?_
  refine CWp.seq ?_
  refine CWp.region rfl ?_
  refine Walk.move .none rfl rfl ?_
  refine Walk.ltI .none rfl rfl rfl ?_
  refine ⟨trivial, ?_⟩
  refine CWp.cond rfl (fun h1 => ?_) (fun h1 => ?_)
  · have h1p := h1; have h1s := h1; try simp only [Bool.not_eq_true', Bool.not_eq_false', Bool.not_not] at h1s
    try simp only [Bool.not_eq_true', Bool.not_eq_false', decide_eq_true_eq, decide_eq_false_iff_not, Bool.not_not, List.length_map, Bool.and_eq_true, Bool.or_eq_false_iff] at h1p
    refine CWp.seq ?_
    refine CWp.region rfl ?_
    refine Walk.assign .none rfl rfl ?_
    refine ⟨trivial, ?_⟩
    refine CWp.ret ?_
    refine ⟨_, _, [], (.cons (.tmp rfl) .nil), (.eqd ?_), ⟨rfl, rfl⟩, HSub.nil, noBox⟩
    all_goals (first | rfl | (exfalso; simp_all [szL]; done) | (exfalso; simp [szL] at *; omega))
  · have h1p := h1; have h1s := h1; try simp only [Bool.not_eq_true', Bool.not_eq_false', Bool.not_not] at h1s
    try simp only [Bool.not_eq_true', Bool.not_eq_false', decide_eq_true_eq, decide_eq_false_iff_not, Bool.not_not, List.length_map, Bool.and_eq_true, Bool.or_eq_false_iff] at h1p
    refine CWp.skip ?_
    refine CWp.seq ?_
    refine CWp.region rfl ?_
    refine Walk.move .none rfl rfl ?_
    refine Walk.call (cr := []) cal12 (laws_toDataS_fn hs) rfl .none rfl rfl (LeL.refl _) trivial rfl rfl rfl ?_
    refine Walk.call (cr := []) cal11 (hspec) rfl .none rfl rfl (LeL.refl _) trivial rfl rfl rfl ?_
    refine Walk.assign .none rfl rfl ?_
    refine ⟨trivial, ?_⟩
    refine CWp.seq ?_
    refine CWp.region rfl ?_
    refine Walk.move .none rfl rfl ?_
    refine Walk.call (cr := [63]) cal12 (laws_toDataS_tr hs) rfl .none rfl rfl (LeL.refl _) trivial rfl (by first | rfl | (simp only [okCall, List.all_cons, List.all_nil, entOK, entOK', AV.idsL, AV.ids, idsL_append, ownCells_ids, List.map_cons, List.map_nil]; rfl)) (by first | rfl | (simp only [freshB, occH, occE, Res.ids, List.cons_append, List.nil_append, AV.idsL, AV.ids, idsL_append, ownCells_ids, zerosA_idsR, repNil, List.map_cons, List.map_nil, upC]; rfl)) ?_
    refine Walk.assign .none rfl rfl ?_
    refine ⟨trivial, ?_⟩
    refine CWp.seq ?_
    refine CWp.region rfl ?_
    refine Walk.move .none rfl rfl ?_
    refine Walk.lend (cr := []) (lr := [(63, _)]) cal13 (himp) rfl .none rfl rfl (.cons (.ms (k := 2) List.mem_cons_self (by intro x hx; obtain ⟨y, _, rfl⟩ := List.mem_map.1 hx; rfl) (by first | rfl | (simp [mkL_len]; done))) .nil) ⟨rfl, trivial⟩ rfl rfl (by first | rfl | (simp only [freshB, occH, occE, Res.ids, List.cons_append, List.nil_append, AV.idsL, AV.ids, idsL_append, ownCells_ids, zerosA_idsR, repNil, List.map_cons, List.map_nil, upC]; rfl)) ?_
    refine Walk.assign .none rfl rfl ?_
    refine ⟨trivial, ?_⟩
    refine CWp.seq ?_
    refine CWp.seq ?_
    refine CWp.region rfl ?_
    refine Walk.move .none rfl rfl ?_
    refine Walk.move .none rfl rfl ?_
    refine Walk.call (cr := []) cal14 (laws_eqTypeS_fn (l := []) (m := []) (by simp)) rfl .none rfl rfl (LeL.refl _) trivial rfl (by first | rfl | (simp only [okCall, List.all_cons, List.all_nil, entOK, entOK', AV.idsL, AV.ids, idsL_append, ownCells_ids, List.map_cons, List.map_nil]; rfl)) (by first | rfl | (simp only [freshB, occH, occE, Res.ids, List.cons_append, List.nil_append, AV.idsL, AV.ids, idsL_append, ownCells_ids, zerosA_idsR, repNil, List.map_cons, List.map_nil, upC]; rfl)) ?_
    refine Walk.not .none rfl rfl ?_
    refine ⟨trivial, ?_⟩
    refine CWp.cond rfl (fun h2 => ?_) (fun h2 => ?_)
    · have h2p := h2; have h2s := h2; try simp only [Bool.not_eq_true', Bool.not_eq_false', Bool.not_not] at h2s
      try simp only [Bool.not_eq_true', Bool.not_eq_false', decide_eq_true_eq, decide_eq_false_iff_not, Bool.not_not, List.length_map, Bool.and_eq_true, Bool.or_eq_false_iff] at h2p
      refine CWp.seq ?_
      refine CWp.region rfl ?_
      refine Walk.assign .none rfl rfl ?_
      refine ⟨trivial, ?_⟩
      refine CWp.ret ?_
      refine ⟨_, _, [], (.cons (.tmp rfl) .nil), (.eqd ?_), ⟨rfl, rfl⟩, HSub.nil, noBox⟩
      all_goals (first | rfl | (exfalso; simp_all [szL]; done) | (exfalso; simp [szL] at *; omega))
    · have h2p := h2; have h2s := h2; try simp only [Bool.not_eq_true', Bool.not_eq_false', Bool.not_not] at h2s
      try simp only [Bool.not_eq_true', Bool.not_eq_false', decide_eq_true_eq, decide_eq_false_iff_not, Bool.not_not, List.length_map, Bool.and_eq_true, Bool.or_eq_false_iff] at h2p
      refine CWp.skip ?_
      refine CWp.seq ?_
      refine CWp.seq ?_
      refine CWp.region rfl ?_
      refine Walk.move .none rfl rfl ?_
      refine Walk.move .none rfl rfl ?_
      refine Walk.call (cr := []) cal12 (laws_toDataS_fn hs) rfl .none rfl rfl (LeL.refl _) trivial rfl (by first | rfl | (simp only [okCall, List.all_cons, List.all_nil, entOK, entOK', AV.idsL, AV.ids, idsL_append, ownCells_ids, List.map_cons, List.map_nil]; rfl)) (by first | rfl | (simp only [freshB, occH, occE, Res.ids, List.cons_append, List.nil_append, AV.idsL, AV.ids, idsL_append, ownCells_ids, zerosA_idsR, repNil, List.map_cons, List.map_nil, upC]; rfl)) ?_
      refine Walk.lend (cr := []) (lr := [(63, _)]) cal15 (laws_eqDataS_fn hs) rfl .none rfl rfl (.cons (.ms (k := 2) List.mem_cons_self (by intro x hx; obtain ⟨y, _, rfl⟩ := List.mem_map.1 hx; rfl) (by first | rfl | (simp [mkL_len]; done))) (.cons (.le (.refl _)) .nil)) ⟨rfl, trivial⟩ rfl rfl (by first | rfl | (simp only [freshB, occH, occE, Res.ids, List.cons_append, List.nil_append, AV.idsL, AV.ids, idsL_append, ownCells_ids, zerosA_idsR, repNil, List.map_cons, List.map_nil, upC]; rfl)) ?_
      refine Walk.not .none rfl rfl ?_
      refine ⟨trivial, ?_⟩
      refine CWp.cond rfl (fun h3 => ?_) (fun h3 => ?_)
      · have h3p := h3; have h3s := h3; try simp only [Bool.not_eq_true', Bool.not_eq_false', Bool.not_not] at h3s
        try simp only [Bool.not_eq_true', Bool.not_eq_false', decide_eq_true_eq, decide_eq_false_iff_not, Bool.not_not, List.length_map, Bool.and_eq_true, Bool.or_eq_false_iff] at h3p
        refine CWp.seq ?_
        refine CWp.region rfl ?_
        refine Walk.assign .none rfl rfl ?_
        refine ⟨trivial, ?_⟩
        refine CWp.ret ?_
        refine ⟨_, _, [], (.cons (.tmp rfl) .nil), (.eqd ?_), ⟨rfl, rfl⟩, HSub.nil, noBox⟩
        all_goals (first | rfl | (exfalso; simp_all [szL]; done) | (exfalso; simp [szL] at *; omega))
      · have h3p := h3; have h3s := h3; try simp only [Bool.not_eq_true', Bool.not_eq_false', Bool.not_not] at h3s
        try simp only [Bool.not_eq_true', Bool.not_eq_false', decide_eq_true_eq, decide_eq_false_iff_not, Bool.not_not, List.length_map, Bool.and_eq_true, Bool.or_eq_false_iff] at h3p
        refine CWp.skip ?_
        refine CWp.seq ?_
        refine CWp.region rfl ?_
        refine Walk.assign .none rfl rfl ?_
        refine ⟨trivial, ?_⟩
        refine CWp.seq ?_
        refine CWp.region rfl ?_
        refine Walk.move .none rfl rfl ?_
        refine Walk.move .none rfl rfl ?_
        refine Walk.call (cr := []) cal16 (FnD.tree_ren (ownCells_ids _ _) (ownCells_ids _ _) (laws_markDataS_tr (l := w) (k := 1) (by omega) (by omega) hs) 63) rfl .none rfl rfl (.cons (LeA.msn (by first | rfl | (simp; done))) (.cons (.refl _) .nil)) ⟨rfl, trivial⟩ rfl (by first | rfl | (simp only [okCall, List.all_cons, List.all_nil, entOK, entOK', AV.idsL, AV.ids, idsL_append, ownCells_ids, List.map_cons, List.map_nil]; rfl)) (by first | rfl | (simp only [freshB, occH, occE, Res.ids, List.cons_append, List.nil_append, AV.idsL, AV.ids, idsL_append, ownCells_ids, zerosA_idsR, repNil, List.map_cons, List.map_nil, upC]; rfl)) ?_
        refine Walk.assign .none rfl rfl ?_
        refine ⟨trivial, ?_⟩
        refine CWp.seq ?_
        refine CWp.seq ?_
        refine CWp.region rfl ?_
        refine Walk.move .none rfl rfl ?_
        refine Walk.ltI .none rfl rfl rfl ?_
        refine Walk.move .none rfl rfl ?_
        refine Walk.split (e := 37) rfl (fun h4 => ?_) (fun h4 => ?_)
        · have h4p := h4; have h4s := h4; try simp only [Bool.not_eq_true', Bool.not_eq_false', Bool.not_not] at h4s
          try simp only [Bool.not_eq_true', Bool.not_eq_false', decide_eq_true_eq, decide_eq_false_iff_not, Bool.not_not, List.length_map, Bool.and_eq_true, Bool.or_eq_false_iff] at h4p
          refine Walk.pass rfl rfl rfl h4 rfl rfl ?_
          refine Walk.pass rfl rfl rfl h4 rfl rfl ?_
          refine Walk.pass rfl rfl rfl h4 rfl rfl ?_
          refine Walk.pass rfl rfl rfl h4 rfl rfl ?_
          refine Walk.pickT .none rfl rfl h4 rfl ?_
          refine ⟨trivial, ?_⟩
          refine CWp.cond rfl (fun h5 => ?_) (fun h5 => ?_)
          · have h5p := h5; have h5s := h5; try simp only [Bool.not_eq_true', Bool.not_eq_false', Bool.not_not] at h5s
            try simp only [Bool.not_eq_true', Bool.not_eq_false', decide_eq_true_eq, decide_eq_false_iff_not, Bool.not_not, List.length_map, Bool.and_eq_true, Bool.or_eq_false_iff] at h5p
            refine CWp.seq ?_
            refine CWp.region rfl ?_
            refine Walk.assign .none rfl rfl ?_
            refine ⟨trivial, ?_⟩
            refine CWp.ret ?_
            refine ⟨_, _, [], (.cons (.tmp rfl) .nil), (.eqd ?_), ⟨rfl, rfl⟩, HSub.nil, noBox⟩
            all_goals (first | rfl | (exfalso; simp_all [szL]; done) | (exfalso; simp [szL] at *; omega))
          · exact absurd h5 (by simp)
        · have h4p := h4; have h4s := h4; try simp only [Bool.not_eq_true', Bool.not_eq_false', Bool.not_not] at h4s
          try simp only [Bool.not_eq_true', Bool.not_eq_false', decide_eq_true_eq, decide_eq_false_iff_not, Bool.not_not, List.length_map, Bool.and_eq_true, Bool.or_eq_false_iff] at h4p
          refine Walk.move (.some rfl rfl h4) rfl rfl ?_
          refine Walk.move (.some rfl rfl h4) rfl rfl ?_
          refine Walk.call (cr := []) cal14 (laws_eqTypeS_fn (l := []) (m := []) (by simp)) rfl (.some rfl rfl h4) rfl rfl (LeL.refl _) trivial rfl (by first | rfl | (simp only [okCall, List.all_cons, List.all_nil, entOK, entOK', AV.idsL, AV.ids, idsL_append, ownCells_ids, List.map_cons, List.map_nil]; rfl)) (by first | rfl | (simp only [freshB, occH, occE, Res.ids, List.cons_append, List.nil_append, AV.idsL, AV.ids, idsL_append, ownCells_ids, zerosA_idsR, repNil, List.map_cons, List.map_nil, upC]; rfl)) ?_
          refine Walk.not (.some rfl rfl h4) rfl rfl ?_
          refine Walk.pickF .none rfl rfl h4 rfl ?_
          refine ⟨trivial, ?_⟩
          refine CWp.cond rfl (fun h6 => ?_) (fun h6 => ?_)
          · have h6p := h6; have h6s := h6; try simp only [Bool.not_eq_true', Bool.not_eq_false', Bool.not_not] at h6s
            try simp only [Bool.not_eq_true', Bool.not_eq_false', decide_eq_true_eq, decide_eq_false_iff_not, Bool.not_not, List.length_map, Bool.and_eq_true, Bool.or_eq_false_iff] at h6p
            refine CWp.seq ?_
            refine CWp.region rfl ?_
            refine Walk.assign .none rfl rfl ?_
            refine ⟨trivial, ?_⟩
            refine CWp.ret ?_
            refine ⟨_, _, [], (.cons (.tmp rfl) .nil), (.eqd ?_), ⟨rfl, rfl⟩, HSub.nil, noBox⟩
            all_goals (first | rfl | (exfalso; simp_all [szL]; done) | (exfalso; simp [szL] at *; omega))
          · have h6p := h6; have h6s := h6; try simp only [Bool.not_eq_true', Bool.not_eq_false', Bool.not_not] at h6s
            try simp only [Bool.not_eq_true', Bool.not_eq_false', decide_eq_true_eq, decide_eq_false_iff_not, Bool.not_not, List.length_map, Bool.and_eq_true, Bool.or_eq_false_iff] at h6p
            refine CWp.skip ?_
            refine CWp.seq ?_
            refine CWp.region rfl ?_
            refine Walk.assign .none rfl rfl ?_
            refine ⟨trivial, ?_⟩
            refine CWp.seq ?_
            refine CWp.region rfl ?_
            refine Walk.move .none rfl rfl ?_
            refine Walk.move .none rfl rfl ?_
            refine Walk.call (cr := []) cal17 (laws_markTypeS_nil (l := []) rfl) rfl .none rfl rfl (LeL.refl _) trivial rfl (by first | rfl | (simp only [okCall, List.all_cons, List.all_nil, entOK, entOK', AV.idsL, AV.ids, idsL_append, ownCells_ids, List.map_cons, List.map_nil]; rfl)) (by first | rfl | (simp only [freshB, occH, occE, Res.ids, List.cons_append, List.nil_append, AV.idsL, AV.ids, idsL_append, ownCells_ids, zerosA_idsR, repNil, List.map_cons, List.map_nil, upC]; rfl)) ?_
            refine Walk.assign .none rfl rfl ?_
            refine ⟨trivial, ?_⟩
            refine CWp.seq ?_
            refine CWp.region rfl ?_
            refine Walk.assign .none rfl rfl ?_
            refine ⟨trivial, ?_⟩
            refine CWp.seq ?_
            refine CWp.region rfl ?_
            refine Walk.move .none rfl rfl ?_
            refine Walk.move .none rfl rfl ?_
            refine Walk.call (cr := []) cal18 (laws_heldTypeS_fn (l := []) (k := 1) (by omega) (by simp [szL]) (by simp)) rfl .none rfl rfl (LeL.refl _) trivial rfl (by first | rfl | (simp only [okCall, List.all_cons, List.all_nil, entOK, entOK', AV.idsL, AV.ids, idsL_append, ownCells_ids, List.map_cons, List.map_nil]; rfl)) (by first | rfl | (simp only [freshB, occH, occE, Res.ids, List.cons_append, List.nil_append, AV.idsL, AV.ids, idsL_append, ownCells_ids, zerosA_idsR, repNil, List.map_cons, List.map_nil, upC]; rfl)) ?_
            refine Walk.assign .none rfl rfl ?_
            refine ⟨trivial, ?_⟩
            refine CWp.seq ?_
            refine CWp.seq ?_
            refine CWp.region rfl ?_
            refine Walk.move .none rfl rfl ?_
            refine Walk.ltI .none rfl rfl rfl ?_
            refine ⟨trivial, ?_⟩
            refine CWp.cond rfl (fun h7 => ?_) (fun h7 => ?_)
            · have h7p := h7; have h7s := h7; try simp only [Bool.not_eq_true', Bool.not_eq_false', Bool.not_not] at h7s
              try simp only [Bool.not_eq_true', Bool.not_eq_false', decide_eq_true_eq, decide_eq_false_iff_not, Bool.not_not, List.length_map, Bool.and_eq_true, Bool.or_eq_false_iff] at h7p
              refine CWp.seq ?_
              refine CWp.region rfl ?_
              refine Walk.assign .none rfl rfl ?_
              refine ⟨trivial, ?_⟩
              refine CWp.ret ?_
              refine ⟨_, _, [], (.cons (.tmp rfl) .nil), (.eqd ?_), ⟨rfl, rfl⟩, HSub.nil, noBox⟩
              all_goals (first | rfl | (exfalso; simp_all [szL]; done) | (exfalso; simp [szL] at *; omega))
            · have h7p := h7; have h7s := h7; try simp only [Bool.not_eq_true', Bool.not_eq_false', Bool.not_not] at h7s
              try simp only [Bool.not_eq_true', Bool.not_eq_false', decide_eq_true_eq, decide_eq_false_iff_not, Bool.not_not, List.length_map, Bool.and_eq_true, Bool.or_eq_false_iff] at h7p
              refine CWp.skip ?_
              refine CWp.seq ?_
              refine CWp.seq ?_
              refine CWp.region rfl ?_
              refine Walk.move .none rfl rfl ?_
              refine Walk.move .none rfl rfl ?_
              refine Walk.neI .none rfl rfl rfl ?_
              refine ⟨trivial, ?_⟩
              refine CWp.cond rfl (fun h8 => ?_) (fun h8 => ?_)
              · have h8p := h8; have h8s := h8; try simp only [Bool.not_eq_true', Bool.not_eq_false', Bool.not_not] at h8s
                try simp only [Bool.not_eq_true', Bool.not_eq_false', decide_eq_true_eq, decide_eq_false_iff_not, Bool.not_not, List.length_map, Bool.and_eq_true, Bool.or_eq_false_iff] at h8p
                refine CWp.seq ?_
                refine CWp.region rfl ?_
                refine Walk.assign .none rfl rfl ?_
                refine ⟨trivial, ?_⟩
                refine CWp.ret ?_
                refine ⟨_, _, [], (.cons (.tmp rfl) .nil), (.eqd ?_), ⟨rfl, rfl⟩, HSub.nil, noBox⟩
                all_goals (first | rfl | (exfalso; simp_all [szL]; done) | (exfalso; simp [szL] at *; omega))
              · have h8p := h8; have h8s := h8; try simp only [Bool.not_eq_true', Bool.not_eq_false', Bool.not_not] at h8s
                try simp only [Bool.not_eq_true', Bool.not_eq_false', decide_eq_true_eq, decide_eq_false_iff_not, Bool.not_not, List.length_map, Bool.and_eq_true, Bool.or_eq_false_iff] at h8p
                refine CWp.skip ?_
                refine CWp.seq ?_
                refine CWp.region rfl ?_
                refine Walk.move .none rfl rfl ?_
                refine Walk.call (cr := []) cal12 (laws_toDataS_fn hs) rfl .none rfl rfl (LeL.refl _) trivial rfl (by first | rfl | (simp only [okCall, List.all_cons, List.all_nil, entOK, entOK', AV.idsL, AV.ids, idsL_append, ownCells_ids, List.map_cons, List.map_nil]; rfl)) (by first | rfl | (simp only [freshB, occH, occE, Res.ids, List.cons_append, List.nil_append, AV.idsL, AV.ids, idsL_append, ownCells_ids, zerosA_idsR, repNil, List.map_cons, List.map_nil, upC]; rfl)) ?_
                refine Walk.call (cr := []) cal13 (himp) rfl .none rfl rfl (LeL.refl _) trivial rfl (by first | rfl | (simp only [okCall, List.all_cons, List.all_nil, entOK, entOK', AV.idsL, AV.ids, idsL_append, ownCells_ids, List.map_cons, List.map_nil]; rfl)) (by first | rfl | (simp only [freshB, occH, occE, Res.ids, List.cons_append, List.nil_append, AV.idsL, AV.ids, idsL_append, ownCells_ids, zerosA_idsR, repNil, List.map_cons, List.map_nil, upC]; rfl)) ?_
                refine Walk.assign .none rfl rfl ?_
                refine ⟨trivial, ?_⟩
                refine CWp.seq ?_
                refine CWp.seq ?_
                refine CWp.region rfl ?_
                refine Walk.move .none rfl rfl ?_
                refine Walk.move .none rfl rfl ?_
                refine Walk.call (cr := []) cal14 (laws_eqTypeS_fn (l := []) (m := []) (by simp)) rfl .none rfl rfl (LeL.refl _) trivial rfl (by first | rfl | (simp only [okCall, List.all_cons, List.all_nil, entOK, entOK', AV.idsL, AV.ids, idsL_append, ownCells_ids, List.map_cons, List.map_nil]; rfl)) (by first | rfl | (simp only [freshB, occH, occE, Res.ids, List.cons_append, List.nil_append, AV.idsL, AV.ids, idsL_append, ownCells_ids, zerosA_idsR, repNil, List.map_cons, List.map_nil, upC]; rfl)) ?_
                refine Walk.not .none rfl rfl ?_
                refine ⟨trivial, ?_⟩
                refine CWp.cond rfl (fun h9 => ?_) (fun h9 => ?_)
                · have h9p := h9; have h9s := h9; try simp only [Bool.not_eq_true', Bool.not_eq_false', Bool.not_not] at h9s
                  try simp only [Bool.not_eq_true', Bool.not_eq_false', decide_eq_true_eq, decide_eq_false_iff_not, Bool.not_not, List.length_map, Bool.and_eq_true, Bool.or_eq_false_iff] at h9p
                  refine CWp.seq ?_
                  refine CWp.region rfl ?_
                  refine Walk.assign .none rfl rfl ?_
                  refine ⟨trivial, ?_⟩
                  refine CWp.ret ?_
                  refine ⟨_, _, [], (.cons (.tmp rfl) .nil), (.eqd ?_), ⟨rfl, rfl⟩, HSub.nil, noBox⟩
                  all_goals (first | rfl | (exfalso; simp_all [szL]; done) | (exfalso; simp [szL] at *; omega))
                · have h9p := h9; have h9s := h9; try simp only [Bool.not_eq_true', Bool.not_eq_false', Bool.not_not] at h9s
                  try simp only [Bool.not_eq_true', Bool.not_eq_false', decide_eq_true_eq, decide_eq_false_iff_not, Bool.not_not, List.length_map, Bool.and_eq_true, Bool.or_eq_false_iff] at h9p
                  refine CWp.skip ?_
                  refine CWp.seq ?_
                  refine CWp.region rfl ?_
                  refine Walk.assign .none rfl rfl ?_
                  refine ⟨trivial, ?_⟩
                  refine CWp.seq ?_
                  refine CWp.region rfl ?_
                  refine Walk.move .none rfl rfl ?_
                  refine Walk.move .none rfl rfl ?_
                  refine Walk.call (cr := []) cal18 (laws_heldTypeS_fn (l := []) (k := 1) (by omega) (by simp [szL]) (by simp)) rfl .none rfl rfl (LeL.refl _) trivial rfl (by first | rfl | (simp only [okCall, List.all_cons, List.all_nil, entOK, entOK', AV.idsL, AV.ids, idsL_append, ownCells_ids, List.map_cons, List.map_nil]; rfl)) (by first | rfl | (simp only [freshB, occH, occE, Res.ids, List.cons_append, List.nil_append, AV.idsL, AV.ids, idsL_append, ownCells_ids, zerosA_idsR, repNil, List.map_cons, List.map_nil, upC]; rfl)) ?_
                  refine Walk.assign .none rfl rfl ?_
                  refine ⟨trivial, ?_⟩
                  refine CWp.seq ?_
                  refine CWp.seq ?_
                  refine CWp.region rfl ?_
                  refine Walk.move .none rfl rfl ?_
                  refine Walk.ltI .none rfl rfl rfl ?_
                  refine ⟨trivial, ?_⟩
                  refine CWp.cond rfl (fun h10 => ?_) (fun h10 => ?_)
                  · have h10p := h10; have h10s := h10; try simp only [Bool.not_eq_true', Bool.not_eq_false', Bool.not_not] at h10s
                    try simp only [Bool.not_eq_true', Bool.not_eq_false', decide_eq_true_eq, decide_eq_false_iff_not, Bool.not_not, List.length_map, Bool.and_eq_true, Bool.or_eq_false_iff] at h10p
                    refine CWp.seq ?_
                    refine CWp.region rfl ?_
                    refine Walk.assign .none rfl rfl ?_
                    refine ⟨trivial, ?_⟩
                    refine CWp.ret ?_
                    refine ⟨_, _, [], (.cons (.tmp rfl) .nil), (.eqd ?_), ⟨rfl, rfl⟩, HSub.nil, noBox⟩
                    all_goals (first | rfl | (exfalso; simp_all [szL]; done) | (exfalso; simp [szL] at *; omega))
                  · have h10p := h10; have h10s := h10; try simp only [Bool.not_eq_true', Bool.not_eq_false', Bool.not_not] at h10s
                    try simp only [Bool.not_eq_true', Bool.not_eq_false', decide_eq_true_eq, decide_eq_false_iff_not, Bool.not_not, List.length_map, Bool.and_eq_true, Bool.or_eq_false_iff] at h10p
                    refine CWp.skip ?_
                    refine CWp.seq ?_
                    refine CWp.seq ?_
                    refine CWp.region rfl ?_
                    refine Walk.move .none rfl rfl ?_
                    refine Walk.move .none rfl rfl ?_
                    refine Walk.neI .none rfl rfl rfl ?_
                    refine ⟨trivial, ?_⟩
                    refine CWp.cond rfl (fun h11 => ?_) (fun h11 => ?_)
                    · have h11p := h11; have h11s := h11; try simp only [Bool.not_eq_true', Bool.not_eq_false', Bool.not_not] at h11s
                      try simp only [Bool.not_eq_true', Bool.not_eq_false', decide_eq_true_eq, decide_eq_false_iff_not, Bool.not_not, List.length_map, Bool.and_eq_true, Bool.or_eq_false_iff] at h11p
                      refine CWp.seq ?_
                      refine CWp.region rfl ?_
                      refine Walk.assign .none rfl rfl ?_
                      refine ⟨trivial, ?_⟩
                      refine CWp.ret ?_
                      refine ⟨_, _, [], (.cons (.tmp rfl) .nil), (.eqd ?_), ⟨rfl, rfl⟩, HSub.nil, noBox⟩
                      all_goals (first | rfl | (exfalso; simp_all [szL]; done) | (exfalso; simp [szL] at *; omega))
                    · have h11p := h11; have h11s := h11; try simp only [Bool.not_eq_true', Bool.not_eq_false', Bool.not_not] at h11s
                      try simp only [Bool.not_eq_true', Bool.not_eq_false', decide_eq_true_eq, decide_eq_false_iff_not, Bool.not_not, List.length_map, Bool.and_eq_true, Bool.or_eq_false_iff] at h11p
                      refine CWp.skip ?_
                      refine CWp.seq ?_
                      refine CWp.region rfl ?_
                      refine Walk.assign .none rfl rfl ?_
                      refine ⟨trivial, ?_⟩
                      refine CWp.ret ?_
                      refine ⟨_, _, [], (.cons (.tmp rfl) .nil), (.eqd ?_), ⟨rfl, rfl⟩, HSub.nil, noBox⟩
                      all_goals (first | rfl | (exfalso; simp_all [szL]; done) | (exfalso; simp [szL] at *; omega))

theorem laws_FnExactAllTypes_fn {w : List Data} (hs : WSmall w) : FnD Try.prog 3 [.d (encDatas w)] [] (.d (.bool true)) [] := by
  cases hv : worldValid w with
  | true => exact laws_FnExactAllTypes_good hs hv
  | false => exact laws_FnExactAllTypes_bad hs hv
end Go.Proofs.Ytadpcmcifbakoaa
