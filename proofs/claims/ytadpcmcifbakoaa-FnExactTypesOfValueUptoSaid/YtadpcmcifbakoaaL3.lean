/-
  WALKS: the law FnExactTypesOfValue.
-/
import Derived.Test.YtadpcmcifbakoaaF17
namespace Go.Proofs.Ytadpcmcifbakoaa
open Go
set_option linter.unusedSimpArgs false
set_option linter.unusedVariables false
set_option maxRecDepth 100000
set_option maxHeartbeats 2000000

theorem markDataS_63 {l : List Data} {k : Int} (h0 : 0 < k) (h1 : k + szL Data.sz l ≤ 1000000000000) (hl : WSmall l) : FnD Try.prog 16 [.ms 63 l.length, .d (.i k)] [(63, some (.tree (ownCells false (l.map Data.c))))]
    (.d (.i (k + szL Data.sz l))) [(63, some (.tree (ownCells false ((mkL Data.one Data.sz k l).map Data.c))))] := FnD.ren rfl (ownCells_ids _ _) (ownCells_ids _ _) (laws_markDataS_tr h0 h1 hl) 63
theorem markValue_64 {v : Val} {k : Int} (h0 : 0 < k) (h1 : k + szL Val.szM v.kids ≤ 1000000000000) (hok : v.ok) : FnD Try.prog 32 [.agg [.d (.i v.ctor), .d (.i v.num), .ms 64 v.kids.length], .d (.i k)] [(64, some (.tree (ownCells false (Val.cs v.kids))))]
    (.d (.i (k + szL Val.szM v.kids))) [(64, some (.tree (ownCells false (Val.cs (mkL Val.one Val.szM k v.kids)))))] := FnD.ren rfl (ownCells_ids _ _) (ownCells_ids _ _) (laws_markValue_tr h0 h1 hok) 64
theorem markTypeS_1 {m : Bool} {l : List Ty} {k : Int} (h0 : 0 ≤ k) (h1 : k + szL Ty.sz l ≤ 1000000000000) (hl : l.length ≤ 1000000000000) : FnD Try.prog 17 [.ms 1 l.length, .d (.i k)] [(1, some (.tree (ownCells m (l.map Ty.c))))]
    (.d (.i (k + szL Ty.sz l))) [(1, some (.tree (ownCells m ((mkL Ty.one Ty.sz k l).map Ty.c))))] := FnD.ren rfl (ownCells_ids _ _) (ownCells_ids _ _) (laws_markTypeS_tr h0 h1 hl) 1
theorem Val.size_m (v : Val) : v.size = 1 + mVal v := by
  have key : ∀ n, ∀ v : Val, v.size ≤ n → v.size = 1 + mVal v := by
    intro n
    induction n with
    | zero => intro v h; rw [Val.size_eq] at h; omega
    | succ n ih =>
      intro v h
      rw [Val.size_eq] at h ⊢
      rw [mVal_eq]
      have : ∀ l : List Val, Vals.size l ≤ n → Vals.size l = mVals l := by
        intro l
        induction l with
        | nil => intro _; rfl
        | cons x r ihl =>
          intro hl
          simp only [Vals.size] at hl
          simp only [Vals.size, mVals]
          rw [ih x (by omega), ihl (by omega)]
      rw [this _ (by omega)]
  exact key _ v (Nat.le_refl _)

theorem laws_FnExactTypesOfValue_good {w : List Data} (hs : WSmall w) (hv : worldValid w = true) {v : Val} (hok : v.ok) (hsz : v.size ≤ 1000000000000) : FnD Try.prog 7 [.d (encDatas w), .agg [.d (.i v.ctor), .d (.i v.num), .d (encVals v.kids)]] [] (.d (.bool true)) [] := by
  have hw4 := valid_four hv
  have hlen := allTypesOf_len w.length
  have hle : (typesOfV w v).length ≤ (allTypesOf w.length).length := by rw [typesOfV, if_pos hv]; exact List.length_filter_le _ _
  have htys := szL_tys (typesOfV w v)
  have z := szr_or (left := 1048576) (mDatas w)
  have z2 := szr_or (left := szr 1048576 (mDatas w)) (mVal v)
  have hbd := szL_datas_le w
  have hnn := szL_nonneg (l := w) Data.sz_nn
  have hvb := Vals.szM_le v.kids
  have hvn := Vals.szM_nn v.kids
  rw [Vals.szM_eq] at hvb hvn
  rw [← mVal_eq] at hvb
  refine Fn.body (fn := Try.f7) (n := 92) rfl rfl rfl rfl rfl (fun w0 F0 own kept hk => ?_)
  refine CWp.seq ?_
  refine CWp.region rfl ?_
  refine Walk.box (id := 3003) .none rfl rfl rfl rfl rfl rfl rfl ?_
  refine Walk.assign .none rfl rfl ?_
  refine ⟨trivial, ?_⟩
  refine CWp.seq ?_
  refine CWp.region rfl ?_
  refine Walk.assign .none rfl rfl ?_
  refine ⟨trivial, ?_⟩
  refine CWp.seq ?_
  refine CWp.region rfl ?_
  refine Walk.move .none rfl rfl ?_
  refine Walk.move .none rfl rfl ?_
  refine Walk.call (cr := []) cal10 (laws_szDataS_fn hs (by omega) (by omega)) rfl .none rfl rfl (LeL.refl _) trivial rfl rfl rfl ?_
  refine Walk.assign .none rfl rfl ?_
  refine ⟨trivial, ?_⟩
  refine CWp.seq ?_
  refine CWp.seq ?_
  refine CWp.region rfl ?_
  refine Walk.move .none rfl rfl ?_
  refine Walk.ltI .none rfl rfl rfl ?_
  refine ⟨trivial, ?_⟩
  refine CWp.cond rfl (fun h1 => ?_) (fun h1 => ?_)
  · have h1p := h1; have h1s := h1; try simp only [q1, q2, q5] at h1s
    try simp only [q1, q2, q3, q4, q5, q6, q7, q8] at h1p
    refine CWp.seq ?_
    refine CWp.region rfl ?_
    refine Walk.assign .none rfl rfl ?_
    refine ⟨trivial, ?_⟩
    refine CWp.ret ?_
    refine ⟨_, _, [], (.cons (.tmp rfl) .nil), (.eqd ?_), ⟨rfl, rfl⟩, HSub.nil, noBox⟩
    all_goals (first | rfl | (exfalso; simp_all [valEq_refl]; done) | (exfalso; simp [valEq_refl] at *; omega))
  · have h1p := h1; have h1s := h1; try simp only [q1, q2, q5] at h1s
    try simp only [q1, q2, q3, q4, q5, q6, q7, q8] at h1p
    refine CWp.skip ?_
    refine CWp.seq ?_
    refine CWp.region rfl ?_
    refine Walk.loadBA ty49 .none rfl rfl rfl rfl ?_
    refine Walk.move .none rfl rfl ?_
    refine Walk.call (cr := []) cal27 (laws_szValue_fn _ (Nat.le_refl _) hok (by omega) (by omega)) rfl .none rfl rfl (LeL.refl _) trivial rfl rfl rfl ?_
    refine Walk.assign .none rfl rfl ?_
    refine ⟨trivial, ?_⟩
    refine CWp.seq ?_
    refine CWp.seq ?_
    refine CWp.region rfl ?_
    refine Walk.move .none rfl rfl ?_
    refine Walk.ltI .none rfl rfl rfl ?_
    refine ⟨trivial, ?_⟩
    refine CWp.cond rfl (fun h2 => ?_) (fun h2 => ?_)
    · have h2p := h2; have h2s := h2; try simp only [q1, q2, q5] at h2s
      try simp only [q1, q2, q3, q4, q5, q6, q7, q8] at h2p
      refine CWp.seq ?_
      refine CWp.region rfl ?_
      refine Walk.assign .none rfl rfl ?_
      refine ⟨trivial, ?_⟩
      refine CWp.ret ?_
      refine ⟨_, _, [], (.cons (.tmp rfl) .nil), (.eqd ?_), ⟨rfl, rfl⟩, HSub.nil, noBox⟩
      all_goals (first | rfl | (exfalso; simp_all [valEq_refl]; done) | (exfalso; simp [valEq_refl] at *; omega))
    · have h2p := h2; have h2s := h2; try simp only [q1, q2, q5] at h2s
      try simp only [q1, q2, q3, q4, q5, q6, q7, q8] at h2p
      refine CWp.skip ?_
      refine CWp.seq ?_
      refine CWp.drawn mixed rfl ?_
      refine Walk.move .none rfl rfl ?_
      refine Walk.call (cr := []) cal12 (laws_toDataS_fn hs) rfl .none rfl rfl (LeL.refl _) trivial rfl rfl rfl ?_
      refine Walk.loadBA ty49 .none rfl rfl rfl rfl ?_
      refine Walk.call (cr := []) cal29 (laws_toValue_fn hok) rfl .none rfl rfl (LeL.refl _) trivial rfl rfl rfl ?_
      refine Walk.call (cr := []) cal28 (spec_TypesOfValue_fn hs hok hsz) rfl .none rfl rfl (LeL.refl _) trivial rfl rfl rfl ?_
      refine Walk.assign .none rfl rfl ?_
      refine ⟨by show _ = _; kernel_rfl, ?_⟩
      refine CWp.seq ?_
      refine CWp.region rfl ?_
      refine Walk.move .none rfl rfl ?_
      refine Walk.call (cr := [63]) cal12 (laws_toDataS_tr hs) rfl .none rfl rfl (LeL.refl _) trivial rfl (by first | rfl | (simp only [okCall, List.all_cons, List.all_nil, entOK, entOK', AV.idsL, AV.ids, idsL_append, ownCells_ids, List.map_cons, List.map_nil]; rfl)) (by first | rfl | (simp only [freshB, occH, occE, Res.ids, List.cons_append, List.nil_append, AV.idsL, AV.ids, idsL_append, ownCells_ids, zerosA_idsR, repNil, List.map_cons, List.map_nil, upC]; rfl)) ?_
      refine Walk.assign .none rfl rfl ?_
      refine ⟨trivial, ?_⟩
      refine CWp.seq ?_
      refine CWp.region rfl ?_
      refine Walk.loadBA ty49 .none rfl rfl rfl rfl ?_
      refine Walk.call (cr := [64]) cal29 (laws_toValue_tr _ (Nat.le_refl _) hok) rfl .none rfl rfl (LeL.refl _) trivial rfl (by first | rfl | (simp only [okCall, List.all_cons, List.all_nil, entOK, entOK', AV.idsL, AV.ids, idsL_append, ownCells_ids, List.map_cons, List.map_nil]; rfl)) (by first | rfl | (simp only [freshB, occH, occE, Res.ids, List.cons_append, List.nil_append, AV.idsL, AV.ids, idsL_append, ownCells_ids, zerosA_idsR, repNil, List.map_cons, List.map_nil, upC]; rfl)) ?_
      refine Walk.alloc (id := 3008) tz54 rfl .none rfl (by first | rfl | (simp only [freshB, occH, occE, Res.ids, List.cons_append, List.nil_append, AV.idsL, AV.ids, idsL_append, ownCells_ids, zerosA_idsR, repNil, List.map_cons, List.map_nil, upC]; rfl)) (by first | rfl | (simp only [freshB, occH, occE, Res.ids, List.cons_append, List.nil_append, AV.idsL, AV.ids, idsL_append, ownCells_ids, zerosA_idsR, repNil, List.map_cons, List.map_nil, upC]; rfl)) (by first | rfl | (simp only [freshB, occH, occE, Res.ids, List.cons_append, List.nil_append, AV.idsL, AV.ids, idsL_append, ownCells_ids, zerosA_idsR, repNil, List.map_cons, List.map_nil, upC]; rfl)) ?_
      refine Walk.store ty54 .none rfl rfl rfl rfl rfl rfl (by simp) rfl ?_
      refine ⟨trivial, ?_⟩
      refine CWp.seq ?_
      refine CWp.region rfl ?_
      refine Walk.move .none rfl rfl ?_
      refine Walk.loadBA ty54 .none rfl rfl rfl rfl ?_
      refine Walk.lend (cr := [1]) (lr := [(63, _), (64, _)]) cal30 (impl_TypesOfValue_own hs hv hok) rfl .none rfl rfl (.cons (.ms (k := 2) List.mem_cons_self (by intro x hx; obtain ⟨y, _, rfl⟩ := List.mem_map.1 hx; rfl) (by first | rfl | (simp [mkL_len, Val.cs_len]; done))) (.cons (.agg (.cons (.le (.refl _)) (.cons (.le (.refl _)) (.cons (.ms (k := 3) (List.mem_cons_of_mem _ List.mem_cons_self) Val.cs_rows (by first | rfl | (simp [mkL_len, Val.cs_len]; done))) .nil)))) .nil)) ⟨rfl, ⟨rfl, trivial⟩⟩ rfl (by first | rfl | (simp only [okLend, flatR_own, flatA, AV.ids]; rfl)) (by first | rfl | (simp only [freshB, occH, occE, Res.ids, List.cons_append, List.nil_append, AV.idsL, AV.ids, idsL_append, ownCells_ids, zerosA_idsR, repNil, List.map_cons, List.map_nil, upC]; rfl)) ?_
      refine Walk.assign .none rfl rfl ?_
      refine ⟨trivial, ?_⟩
      refine CWp.seq ?_
      refine CWp.seq ?_
      refine CWp.region rfl ?_
      refine Walk.move .none rfl rfl ?_
      refine Walk.move .none rfl rfl ?_
      refine Walk.lend (cr := []) (lr := [(1, _)]) cal14 (laws_eqTypeS_fn (by omega)) rfl .none rfl rfl (.cons (.ms (k := 2) List.mem_cons_self (by intro x hx; obtain ⟨y, _, rfl⟩ := List.mem_map.1 hx; rfl) (by first | rfl | (simp [mkL_len, Val.cs_len]; done))) (.cons (.le (.refl _)) .nil)) ⟨rfl, trivial⟩ rfl (by first | rfl | (simp only [okLend, flatR_own, flatA, AV.ids]; rfl)) (by first | rfl | (simp only [freshB, occH, occE, Res.ids, List.cons_append, List.nil_append, AV.idsL, AV.ids, idsL_append, ownCells_ids, zerosA_idsR, repNil, List.map_cons, List.map_nil, upC]; rfl)) ?_
      refine Walk.not .none rfl rfl ?_
      refine ⟨trivial, ?_⟩
      refine CWp.cond rfl (fun h3 => ?_) (fun h3 => ?_)
      · have h3p := h3; have h3s := h3; try simp only [q1, q2, q5] at h3s
        try simp only [q1, q2, q3, q4, q5, q6, q7, q8] at h3p
        refine CWp.seq ?_
        refine CWp.region rfl ?_
        refine Walk.assign .none rfl rfl ?_
        refine ⟨trivial, ?_⟩
        refine CWp.ret ?_
        refine ⟨_, _, [], (.cons (.tmp rfl) .nil), (.eqd ?_), ⟨rfl, rfl⟩, HSub.nil, noBox⟩
        all_goals (first | rfl | (exfalso; simp_all [valEq_refl]; done) | (exfalso; simp [valEq_refl] at *; omega))
      · have h3p := h3; have h3s := h3; try simp only [q1, q2, q5] at h3s
        try simp only [q1, q2, q3, q4, q5, q6, q7, q8] at h3p
        refine CWp.skip ?_
        refine CWp.seq ?_
        refine CWp.seq ?_
        refine CWp.region rfl ?_
        refine Walk.move .none rfl rfl ?_
        refine Walk.move .none rfl rfl ?_
        refine Walk.call (cr := []) cal12 (laws_toDataS_fn hs) rfl .none rfl rfl (LeL.refl _) trivial rfl (by first | rfl | (simp only [okCall, List.all_cons, List.all_nil, entOK, entOK', AV.idsL, AV.ids, idsL_append, ownCells_ids, List.map_cons, List.map_nil]; rfl)) (by first | rfl | (simp only [freshB, occH, occE, Res.ids, List.cons_append, List.nil_append, AV.idsL, AV.ids, idsL_append, ownCells_ids, zerosA_idsR, repNil, List.map_cons, List.map_nil, upC]; rfl)) ?_
        refine Walk.lend (cr := []) (lr := [(63, _)]) cal15 (laws_eqDataS_fn hs) rfl .none rfl rfl (.cons (.ms (k := 2) List.mem_cons_self (by intro x hx; obtain ⟨y, _, rfl⟩ := List.mem_map.1 hx; rfl) (by first | rfl | (simp [mkL_len, Val.cs_len]; done))) (.cons (.le (.refl _)) .nil)) ⟨rfl, trivial⟩ rfl (by first | rfl | (simp only [okLend, flatR_own, flatA, AV.ids]; rfl)) (by first | rfl | (simp only [freshB, occH, occE, Res.ids, List.cons_append, List.nil_append, AV.idsL, AV.ids, idsL_append, ownCells_ids, zerosA_idsR, repNil, List.map_cons, List.map_nil, upC]; rfl)) ?_
        refine Walk.not .none rfl rfl ?_
        refine ⟨trivial, ?_⟩
        refine CWp.cond rfl (fun h4 => ?_) (fun h4 => ?_)
        · have h4p := h4; have h4s := h4; try simp only [q1, q2, q5] at h4s
          try simp only [q1, q2, q3, q4, q5, q6, q7, q8] at h4p
          refine CWp.seq ?_
          refine CWp.region rfl ?_
          refine Walk.assign .none rfl rfl ?_
          refine ⟨trivial, ?_⟩
          refine CWp.ret ?_
          refine ⟨_, _, [], (.cons (.tmp rfl) .nil), (.eqd ?_), ⟨rfl, rfl⟩, HSub.nil, noBox⟩
          all_goals (first | rfl | (exfalso; simp_all [valEq_refl]; done) | (exfalso; simp [valEq_refl] at *; omega))
        · have h4p := h4; have h4s := h4; try simp only [q1, q2, q5] at h4s
          try simp only [q1, q2, q3, q4, q5, q6, q7, q8] at h4p
          refine CWp.skip ?_
          refine CWp.seq ?_
          refine CWp.seq ?_
          refine CWp.drawn mixed rfl ?_
          refine Walk.loadBA ty54 .none rfl rfl rfl rfl ?_
          refine Walk.loadBA ty49 .none rfl rfl rfl rfl ?_
          refine Walk.call (cr := []) cal29 (laws_toValue_fn hok) rfl .none rfl rfl (LeL.refl _) trivial rfl (by first | rfl | (simp only [okCall, List.all_cons, List.all_nil, entOK, entOK', AV.idsL, AV.ids, idsL_append, ownCells_ids, List.map_cons, List.map_nil]; rfl)) (by first | rfl | (simp only [freshB, occH, occE, Res.ids, List.cons_append, List.nil_append, AV.idsL, AV.ids, idsL_append, ownCells_ids, zerosA_idsR, repNil, List.map_cons, List.map_nil, upC]; rfl)) ?_
          refine Walk.lend (cr := []) (lr := [(64, _)]) cal31 (laws_eqValue_fn _ (Nat.le_refl _) hok) rfl .none rfl rfl (.cons (.agg (.cons (.le (.refl _)) (.cons (.le (.refl _)) (.cons (.ms (k := 3) List.mem_cons_self Val.cs_rows (by first | rfl | (simp [mkL_len, Val.cs_len]; done))) .nil)))) (.cons (.le (.refl _)) .nil)) ⟨rfl, trivial⟩ rfl (by first | rfl | (simp only [okLend, flatR_own, flatA, AV.ids]; rfl)) (by first | rfl | (simp only [freshB, occH, occE, Res.ids, List.cons_append, List.nil_append, AV.idsL, AV.ids, idsL_append, ownCells_ids, zerosA_idsR, repNil, List.map_cons, List.map_nil, upC]; rfl)) ?_
          refine Walk.not .none rfl rfl ?_
          refine ⟨by show _ = _; kernel_rfl, ?_⟩
          refine CWp.cond rfl (fun h5 => ?_) (fun h5 => ?_)
          · have h5p := h5; have h5s := h5; try simp only [q1, q2, q5] at h5s
            try simp only [q1, q2, q3, q4, q5, q6, q7, q8] at h5p
            refine CWp.seq ?_
            refine CWp.region rfl ?_
            refine Walk.assign .none rfl rfl ?_
            refine ⟨trivial, ?_⟩
            refine CWp.ret ?_
            refine ⟨_, _, [], (.cons (.tmp rfl) .nil), (.eqd ?_), ⟨rfl, rfl⟩, HSub.nil, noBox⟩
            all_goals (first | rfl | (exfalso; simp_all [valEq_refl]; done) | (exfalso; simp [valEq_refl] at *; omega))
          · have h5p := h5; have h5s := h5; try simp only [q1, q2, q5] at h5s
            try simp only [q1, q2, q3, q4, q5, q6, q7, q8] at h5p
            refine CWp.skip ?_
            refine CWp.seq ?_
            refine CWp.region rfl ?_
            refine Walk.assign .none rfl rfl ?_
            refine ⟨trivial, ?_⟩
            refine CWp.seq ?_
            refine CWp.region rfl ?_
            refine Walk.move .none rfl rfl ?_
            refine Walk.move .none rfl rfl ?_
            refine Walk.call (cr := []) cal16 (markDataS_63 (l := w) (k := 1) (by omega) (by omega) hs) rfl .none rfl rfl (.cons (LeA.msn (by first | rfl | (simp [Val.cs_len]; done))) (.cons (.refl _) .nil)) ⟨rfl, trivial⟩ rfl (by first | rfl | (simp only [okCall, List.all_cons, List.all_nil, entOK, entOK', AV.idsL, AV.ids, idsL_append, ownCells_ids, List.map_cons, List.map_nil]; rfl)) (by first | rfl | (simp only [freshB, occH, occE, Res.ids, List.cons_append, List.nil_append, AV.idsL, AV.ids, idsL_append, ownCells_ids, zerosA_idsR, repNil, List.map_cons, List.map_nil, upC]; rfl)) ?_
            refine Walk.assign .none rfl rfl ?_
            refine ⟨trivial, ?_⟩
            refine CWp.seq ?_
            refine CWp.region rfl ?_
            refine Walk.loadBA ty54 .none rfl rfl rfl rfl ?_
            refine Walk.move .none rfl rfl ?_
            refine Walk.call (cr := []) cal32 (markValue_64 (v := v) (k := 1 + szL Data.sz w) (by omega) (by omega) hok) rfl .none rfl rfl (.cons (.agg (.cons (.refl _) (.cons (.refl _) (.cons (LeA.msn (by first | rfl | (simp [Val.cs_len]; done))) .nil)))) (.cons (.refl _) .nil)) ⟨rfl, trivial⟩ rfl (by first | rfl | (simp only [okCall, List.all_cons, List.all_nil, entOK, entOK', AV.idsL, AV.ids, idsL_append, ownCells_ids, List.map_cons, List.map_nil]; rfl)) (by first | rfl | (simp only [freshB, occH, occE, Res.ids, List.cons_append, List.nil_append, AV.idsL, AV.ids, idsL_append, ownCells_ids, zerosA_idsR, repNil, List.map_cons, List.map_nil, upC]; rfl)) ?_
            refine Walk.assign .none rfl rfl ?_
            refine ⟨trivial, ?_⟩
            refine CWp.seq ?_
            refine CWp.seq ?_
            refine CWp.region rfl ?_
            refine Walk.move .none rfl rfl ?_
            refine Walk.ltI .none rfl rfl rfl ?_
            refine Walk.move .none rfl rfl ?_
            refine Walk.split (e := 58) rfl (fun h6 => ?_) (fun h6 => ?_)
            · have h6p := h6; have h6s := h6; try simp only [q1, q2, q5] at h6s
              try simp only [q1, q2, q3, q4, q5, q6, q7, q8] at h6p
              refine Walk.pass rfl rfl rfl h6 rfl rfl ?_
              refine Walk.pass rfl rfl rfl h6 rfl rfl ?_
              refine Walk.pass rfl rfl rfl h6 rfl rfl ?_
              refine Walk.pass rfl rfl rfl h6 rfl rfl ?_
              refine Walk.pickT .none rfl rfl h6 rfl ?_
              refine ⟨trivial, ?_⟩
              refine CWp.cond rfl (fun h7 => ?_) (fun h7 => ?_)
              · have h7p := h7; have h7s := h7; try simp only [q1, q2, q5] at h7s
                try simp only [q1, q2, q3, q4, q5, q6, q7, q8] at h7p
                refine CWp.seq ?_
                refine CWp.region rfl ?_
                refine Walk.assign .none rfl rfl ?_
                refine ⟨trivial, ?_⟩
                refine CWp.ret ?_
                refine ⟨_, _, [], (.cons (.tmp rfl) .nil), (.eqd ?_), ⟨rfl, rfl⟩, HSub.nil, noBox⟩
                all_goals (first | rfl | (exfalso; simp_all [valEq_refl]; done) | (exfalso; simp [valEq_refl] at *; omega))
              · exact absurd h7 (by simp)
            · have h6p := h6; have h6s := h6; try simp only [q1, q2, q5] at h6s
              try simp only [q1, q2, q3, q4, q5, q6, q7, q8] at h6p
              refine Walk.move (.some rfl rfl h6) rfl rfl ?_
              refine Walk.move (.some rfl rfl h6) rfl rfl ?_
              refine Walk.lend (cr := []) (lr := [(1, _)]) cal14 (laws_eqTypeS_fn (by omega)) rfl (.some rfl rfl h6) rfl rfl (.cons (.ms (k := 2) List.mem_cons_self (by intro x hx; obtain ⟨y, _, rfl⟩ := List.mem_map.1 hx; rfl) (by first | rfl | (simp [mkL_len, Val.cs_len]; done))) (.cons (.le (.refl _)) .nil)) ⟨rfl, trivial⟩ rfl (by first | rfl | (simp only [okLend, flatR_own, flatA, AV.ids]; rfl)) (by first | rfl | (simp only [freshB, occH, occE, Res.ids, List.cons_append, List.nil_append, AV.idsL, AV.ids, idsL_append, ownCells_ids, zerosA_idsR, repNil, List.map_cons, List.map_nil, upC]; rfl)) ?_
              refine Walk.not (.some rfl rfl h6) rfl rfl ?_
              refine Walk.pickF .none rfl rfl h6 rfl ?_
              refine ⟨trivial, ?_⟩
              refine CWp.cond rfl (fun h8 => ?_) (fun h8 => ?_)
              · have h8p := h8; have h8s := h8; try simp only [q1, q2, q5] at h8s
                try simp only [q1, q2, q3, q4, q5, q6, q7, q8] at h8p
                refine CWp.seq ?_
                refine CWp.region rfl ?_
                refine Walk.assign .none rfl rfl ?_
                refine ⟨trivial, ?_⟩
                refine CWp.ret ?_
                refine ⟨_, _, [], (.cons (.tmp rfl) .nil), (.eqd ?_), ⟨rfl, rfl⟩, HSub.nil, noBox⟩
                all_goals (first | rfl | (exfalso; simp_all [valEq_refl]; done) | (exfalso; simp [valEq_refl] at *; omega))
              · have h8p := h8; have h8s := h8; try simp only [q1, q2, q5] at h8s
                try simp only [q1, q2, q3, q4, q5, q6, q7, q8] at h8p
                refine CWp.skip ?_
                refine CWp.seq ?_
                refine CWp.region rfl ?_
                refine Walk.assign .none rfl rfl ?_
                refine ⟨trivial, ?_⟩
                refine CWp.seq ?_
                refine CWp.region rfl ?_
                refine Walk.move .none rfl rfl ?_
                refine Walk.move .none rfl rfl ?_
                refine Walk.call (cr := []) cal17 (markTypeS_1 (m := true) (l := typesOfV w v) (k := 1) (by omega) (by omega) (by omega)) rfl .none rfl rfl (.cons (LeA.msn (by first | rfl | (simp [Val.cs_len]; done))) (.cons (.refl _) .nil)) ⟨rfl, trivial⟩ rfl (by first | rfl | (simp only [okCall, List.all_cons, List.all_nil, entOK, entOK', AV.idsL, AV.ids, idsL_append, ownCells_ids, List.map_cons, List.map_nil]; rfl)) (by first | rfl | (simp only [freshB, occH, occE, Res.ids, List.cons_append, List.nil_append, AV.idsL, AV.ids, idsL_append, ownCells_ids, zerosA_idsR, repNil, List.map_cons, List.map_nil, upC]; rfl)) ?_
                refine Walk.assign .none rfl rfl ?_
                refine ⟨trivial, ?_⟩
                refine CWp.seq ?_
                refine CWp.region rfl ?_
                refine Walk.assign .none rfl rfl ?_
                refine ⟨trivial, ?_⟩
                refine CWp.seq ?_
                refine CWp.region rfl ?_
                refine Walk.move .none rfl rfl ?_
                refine Walk.move .none rfl rfl ?_
                refine Walk.lend (cr := []) (lr := [(1, _)]) cal18 (laws_heldTypeS_fn (l := typesOfV w v) (k := 1) (by omega) (by omega) (by omega)) rfl .none rfl rfl (.cons (.ms (k := 2) List.mem_cons_self (by intro x hx; obtain ⟨y, _, rfl⟩ := List.mem_map.1 hx; rfl) (by first | rfl | (simp [mkL_len, Val.cs_len]; done))) (.cons (.le (.refl _)) .nil)) ⟨rfl, trivial⟩ rfl (by first | rfl | (simp only [okLend, flatR_own, flatA, AV.ids]; rfl)) (by first | rfl | (simp only [freshB, occH, occE, Res.ids, List.cons_append, List.nil_append, AV.idsL, AV.ids, idsL_append, ownCells_ids, zerosA_idsR, repNil, List.map_cons, List.map_nil, upC]; rfl)) ?_
                refine Walk.assign .none rfl rfl ?_
                refine ⟨trivial, ?_⟩
                refine CWp.seq ?_
                refine CWp.seq ?_
                refine CWp.region rfl ?_
                refine Walk.move .none rfl rfl ?_
                refine Walk.ltI .none rfl rfl rfl ?_
                refine ⟨trivial, ?_⟩
                refine CWp.cond rfl (fun h9 => ?_) (fun h9 => ?_)
                · have h9p := h9; have h9s := h9; try simp only [q1, q2, q5] at h9s
                  try simp only [q1, q2, q3, q4, q5, q6, q7, q8] at h9p
                  refine CWp.seq ?_
                  refine CWp.region rfl ?_
                  refine Walk.assign .none rfl rfl ?_
                  refine ⟨trivial, ?_⟩
                  refine CWp.ret ?_
                  refine ⟨_, _, [], (.cons (.tmp rfl) .nil), (.eqd ?_), ⟨rfl, rfl⟩, HSub.nil, noBox⟩
                  all_goals (first | rfl | (exfalso; simp_all [valEq_refl]; done) | (exfalso; simp [valEq_refl] at *; omega))
                · have h9p := h9; have h9s := h9; try simp only [q1, q2, q5] at h9s
                  try simp only [q1, q2, q3, q4, q5, q6, q7, q8] at h9p
                  refine CWp.skip ?_
                  refine CWp.seq ?_
                  refine CWp.seq ?_
                  refine CWp.region rfl ?_
                  refine Walk.move .none rfl rfl ?_
                  refine Walk.move .none rfl rfl ?_
                  refine Walk.neI .none rfl rfl rfl ?_
                  refine ⟨trivial, ?_⟩
                  refine CWp.cond rfl (fun h10 => ?_) (fun h10 => ?_)
                  · have h10p := h10; have h10s := h10; try simp only [q1, q2, q5] at h10s
                    try simp only [q1, q2, q3, q4, q5, q6, q7, q8] at h10p
                    refine CWp.seq ?_
                    refine CWp.region rfl ?_
                    refine Walk.assign .none rfl rfl ?_
                    refine ⟨trivial, ?_⟩
                    refine CWp.ret ?_
                    refine ⟨_, _, [], (.cons (.tmp rfl) .nil), (.eqd ?_), ⟨rfl, rfl⟩, HSub.nil, noBox⟩
                    all_goals (first | rfl | (exfalso; simp_all [valEq_refl]; done) | (exfalso; simp [valEq_refl] at *; omega))
                  · have h10p := h10; have h10s := h10; try simp only [q1, q2, q5] at h10s
                    try simp only [q1, q2, q3, q4, q5, q6, q7, q8] at h10p
                    refine CWp.skip ?_
                    refine CWp.seq ?_
                    refine CWp.drawn mixed rfl ?_
                    refine Walk.move .none rfl rfl ?_
                    refine Walk.call (cr := []) cal12 (laws_toDataS_fn hs) rfl .none rfl rfl (LeL.refl _) trivial rfl (by first | rfl | (simp only [okCall, List.all_cons, List.all_nil, entOK, entOK', AV.idsL, AV.ids, idsL_append, ownCells_ids, List.map_cons, List.map_nil]; rfl)) (by first | rfl | (simp only [freshB, occH, occE, Res.ids, List.cons_append, List.nil_append, AV.idsL, AV.ids, idsL_append, ownCells_ids, zerosA_idsR, repNil, List.map_cons, List.map_nil, upC]; rfl)) ?_
                    refine Walk.loadBA ty49 .none rfl rfl rfl rfl ?_
                    refine Walk.call (cr := []) cal29 (laws_toValue_fn hok) rfl .none rfl rfl (LeL.refl _) trivial rfl (by first | rfl | (simp only [okCall, List.all_cons, List.all_nil, entOK, entOK', AV.idsL, AV.ids, idsL_append, ownCells_ids, List.map_cons, List.map_nil]; rfl)) (by first | rfl | (simp only [freshB, occH, occE, Res.ids, List.cons_append, List.nil_append, AV.idsL, AV.ids, idsL_append, ownCells_ids, zerosA_idsR, repNil, List.map_cons, List.map_nil, upC]; rfl)) ?_
                    refine Walk.call (cr := []) cal30 (FnD.out_frz (k := 2) (by intro x hx; obtain ⟨y, _, rfl⟩ := List.mem_map.1 hx; rfl) (by simp [soleN]) (impl_TypesOfValue_own hs hv hok)) rfl .none rfl rfl (LeL.refl _) trivial rfl (by first | rfl | (simp only [okCall, List.all_cons, List.all_nil, entOK, entOK', AV.idsL, AV.ids, idsL_append, ownCells_ids, List.map_cons, List.map_nil]; rfl)) (by first | rfl | (simp only [freshB, occH, occE, Res.ids, List.cons_append, List.nil_append, AV.idsL, AV.ids, idsL_append, ownCells_ids, zerosA_idsR, repNil, List.map_cons, List.map_nil, upC]; rfl)) ?_
                    refine Walk.assign .none rfl rfl ?_
                    refine ⟨by show _ = _; kernel_rfl, ?_⟩
                    refine CWp.seq ?_
                    refine CWp.seq ?_
                    refine CWp.region rfl ?_
                    refine Walk.move .none rfl rfl ?_
                    refine Walk.move .none rfl rfl ?_
                    refine Walk.lend (cr := []) (lr := [(1, _)]) cal14 (laws_eqTypeS_fn (by omega)) rfl .none rfl rfl (.cons (.le (.refl _)) (.cons (.le (.refl _)) .nil)) ⟨rfl, trivial⟩ rfl (by first | rfl | (simp only [okLend, flatR_own, flatA, AV.ids]; rfl)) (by first | rfl | (simp only [freshB, occH, occE, Res.ids, List.cons_append, List.nil_append, AV.idsL, AV.ids, idsL_append, ownCells_ids, zerosA_idsR, repNil, List.map_cons, List.map_nil, upC]; rfl)) ?_
                    refine Walk.not .none rfl rfl ?_
                    refine ⟨trivial, ?_⟩
                    refine CWp.cond rfl (fun h11 => ?_) (fun h11 => ?_)
                    · have h11p := h11; have h11s := h11; try simp only [q1, q2, q5] at h11s
                      try simp only [q1, q2, q3, q4, q5, q6, q7, q8] at h11p
                      refine CWp.seq ?_
                      refine CWp.region rfl ?_
                      refine Walk.assign .none rfl rfl ?_
                      refine ⟨trivial, ?_⟩
                      refine CWp.ret ?_
                      refine ⟨_, _, [], (.cons (.tmp rfl) .nil), (.eqd ?_), ⟨rfl, rfl⟩, HSub.nil, noBox⟩
                      all_goals (first | rfl | (exfalso; simp_all [valEq_refl]; done) | (exfalso; simp [valEq_refl] at *; omega))
                    · have h11p := h11; have h11s := h11; try simp only [q1, q2, q5] at h11s
                      try simp only [q1, q2, q3, q4, q5, q6, q7, q8] at h11p
                      refine CWp.skip ?_
                      refine CWp.seq ?_
                      refine CWp.region rfl ?_
                      refine Walk.assign .none rfl rfl ?_
                      refine ⟨trivial, ?_⟩
                      refine CWp.seq ?_
                      refine CWp.region rfl ?_
                      refine Walk.move .none rfl rfl ?_
                      refine Walk.move .none rfl rfl ?_
                      refine Walk.lend (cr := []) (lr := [(1, _)]) cal18 (laws_heldTypeS_fn (l := typesOfV w v) (k := 1) (by omega) (by omega) (by omega)) rfl .none rfl rfl (.cons (.ms (k := 2) List.mem_cons_self (by intro x hx; obtain ⟨y, _, rfl⟩ := List.mem_map.1 hx; rfl) (by first | rfl | (simp [mkL_len, Val.cs_len]; done))) (.cons (.le (.refl _)) .nil)) ⟨rfl, trivial⟩ rfl (by first | rfl | (simp only [okLend, flatR_own, flatA, AV.ids]; rfl)) (by first | rfl | (simp only [freshB, occH, occE, Res.ids, List.cons_append, List.nil_append, AV.idsL, AV.ids, idsL_append, ownCells_ids, zerosA_idsR, repNil, List.map_cons, List.map_nil, upC]; rfl)) ?_
                      refine Walk.assign .none rfl rfl ?_
                      refine ⟨trivial, ?_⟩
                      refine CWp.seq ?_
                      refine CWp.seq ?_
                      refine CWp.region rfl ?_
                      refine Walk.move .none rfl rfl ?_
                      refine Walk.ltI .none rfl rfl rfl ?_
                      refine ⟨trivial, ?_⟩
                      refine CWp.cond rfl (fun h12 => ?_) (fun h12 => ?_)
                      · have h12p := h12; have h12s := h12; try simp only [q1, q2, q5] at h12s
                        try simp only [q1, q2, q3, q4, q5, q6, q7, q8] at h12p
                        refine CWp.seq ?_
                        refine CWp.region rfl ?_
                        refine Walk.assign .none rfl rfl ?_
                        refine ⟨trivial, ?_⟩
                        refine CWp.ret ?_
                        refine ⟨_, _, [], (.cons (.tmp rfl) .nil), (.eqd ?_), ⟨rfl, rfl⟩, HSub.nil, noBox⟩
                        all_goals (first | rfl | (exfalso; simp_all [valEq_refl]; done) | (exfalso; simp [valEq_refl] at *; omega))
                      · have h12p := h12; have h12s := h12; try simp only [q1, q2, q5] at h12s
                        try simp only [q1, q2, q3, q4, q5, q6, q7, q8] at h12p
                        refine CWp.skip ?_
                        refine CWp.seq ?_
                        refine CWp.seq ?_
                        refine CWp.region rfl ?_
                        refine Walk.move .none rfl rfl ?_
                        refine Walk.move .none rfl rfl ?_
                        refine Walk.neI .none rfl rfl rfl ?_
                        refine ⟨trivial, ?_⟩
                        refine CWp.cond rfl (fun h13 => ?_) (fun h13 => ?_)
                        · have h13p := h13; have h13s := h13; try simp only [q1, q2, q5] at h13s
                          try simp only [q1, q2, q3, q4, q5, q6, q7, q8] at h13p
                          refine CWp.seq ?_
                          refine CWp.region rfl ?_
                          refine Walk.assign .none rfl rfl ?_
                          refine ⟨trivial, ?_⟩
                          refine CWp.ret ?_
                          refine ⟨_, _, [], (.cons (.tmp rfl) .nil), (.eqd ?_), ⟨rfl, rfl⟩, HSub.nil, noBox⟩
                          all_goals (first | rfl | (exfalso; simp_all [valEq_refl]; done) | (exfalso; simp [valEq_refl] at *; omega))
                        · have h13p := h13; have h13s := h13; try simp only [q1, q2, q5] at h13s
                          try simp only [q1, q2, q3, q4, q5, q6, q7, q8] at h13p
                          refine CWp.skip ?_
                          refine CWp.seq ?_
                          refine CWp.region rfl ?_
                          refine Walk.assign .none rfl rfl ?_
                          refine ⟨trivial, ?_⟩
                          refine CWp.ret ?_
                          refine ⟨_, _, [], (.cons (.tmp rfl) .nil), (.eqd ?_), ⟨rfl, rfl⟩, HSub.nil, noBox⟩
                          all_goals (first | rfl | (exfalso; simp_all [valEq_refl]; done) | (exfalso; simp [valEq_refl] at *; omega))


theorem laws_FnExactTypesOfValue_bad {w : List Data} (hs : WSmall w) (hv : worldValid w = false) {v : Val} (hok : v.ok) (hsz : v.size ≤ 1000000000000) : FnD Try.prog 7 [.d (encDatas w), .agg [.d (.i v.ctor), .d (.i v.num), .d (encVals v.kids)]] [] (.d (.bool true)) [] := by
  have hspec := spec_TypesOfValue_fn hs hok hsz
  rw [typesOfV, if_neg (by rw [hv]; simp)] at hspec
  have z := szr_or (left := 1048576) (mDatas w)
  have z2 := szr_or (left := szr 1048576 (mDatas w)) (mVal v)
  have hbd := szL_datas_le w
  have hnn := szL_nonneg (l := w) Data.sz_nn
  have hvb := Vals.szM_le v.kids
  have hvn := Vals.szM_nn v.kids
  rw [Vals.szM_eq] at hvb hvn
  rw [← mVal_eq] at hvb
  refine Fn.body (fn := Try.f7) (n := 92) rfl rfl rfl rfl rfl (fun w0 F0 own kept hk => ?_)
  refine CWp.seq ?_
  refine CWp.region rfl ?_
  refine Walk.box (id := 3003) .none rfl rfl rfl rfl rfl rfl rfl ?_
  refine Walk.assign .none rfl rfl ?_
  refine ⟨trivial, ?_⟩
  refine CWp.seq ?_
  refine CWp.region rfl ?_
  refine Walk.assign .none rfl rfl ?_
  refine ⟨trivial, ?_⟩
  refine CWp.seq ?_
  refine CWp.region rfl ?_
  refine Walk.move .none rfl rfl ?_
  refine Walk.move .none rfl rfl ?_
  refine Walk.call (cr := []) cal10 (laws_szDataS_fn hs (by omega) (by omega)) rfl .none rfl rfl (LeL.refl _) trivial rfl rfl rfl ?_
  refine Walk.assign .none rfl rfl ?_
  refine ⟨trivial, ?_⟩
  refine CWp.seq ?_
  refine CWp.seq ?_
  refine CWp.region rfl ?_
  refine Walk.move .none rfl rfl ?_
  refine Walk.ltI .none rfl rfl rfl ?_
  refine ⟨trivial, ?_⟩
  refine CWp.cond rfl (fun h1 => ?_) (fun h1 => ?_)
  · have h1p := h1; have h1s := h1; try simp only [q1, q2, q5] at h1s
    try simp only [q1, q2, q3, q4, q5, q6, q7, q8] at h1p
    refine CWp.seq ?_
    refine CWp.region rfl ?_
    refine Walk.assign .none rfl rfl ?_
    refine ⟨trivial, ?_⟩
    refine CWp.ret ?_
    refine ⟨_, _, [], (.cons (.tmp rfl) .nil), (.eqd ?_), ⟨rfl, rfl⟩, HSub.nil, noBox⟩
    all_goals (first | rfl | (exfalso; simp_all [valEq_refl, szL]; done) | (exfalso; simp [valEq_refl, szL] at *; omega))
  · have h1p := h1; have h1s := h1; try simp only [q1, q2, q5] at h1s
    try simp only [q1, q2, q3, q4, q5, q6, q7, q8] at h1p
    refine CWp.skip ?_
    refine CWp.seq ?_
    refine CWp.region rfl ?_
    refine Walk.loadBA ty49 .none rfl rfl rfl rfl ?_
    refine Walk.move .none rfl rfl ?_
    refine Walk.call (cr := []) cal27 (laws_szValue_fn _ (Nat.le_refl _) hok (by omega) (by omega)) rfl .none rfl rfl (LeL.refl _) trivial rfl rfl rfl ?_
    refine Walk.assign .none rfl rfl ?_
    refine ⟨trivial, ?_⟩
    refine CWp.seq ?_
    refine CWp.seq ?_
    refine CWp.region rfl ?_
    refine Walk.move .none rfl rfl ?_
    refine Walk.ltI .none rfl rfl rfl ?_
    refine ⟨trivial, ?_⟩
    refine CWp.cond rfl (fun h2 => ?_) (fun h2 => ?_)
    · have h2p := h2; have h2s := h2; try simp only [q1, q2, q5] at h2s
      try simp only [q1, q2, q3, q4, q5, q6, q7, q8] at h2p
      refine CWp.seq ?_
      refine CWp.region rfl ?_
      refine Walk.assign .none rfl rfl ?_
      refine ⟨trivial, ?_⟩
      refine CWp.ret ?_
      refine ⟨_, _, [], (.cons (.tmp rfl) .nil), (.eqd ?_), ⟨rfl, rfl⟩, HSub.nil, noBox⟩
      all_goals (first | rfl | (exfalso; simp_all [valEq_refl, szL]; done) | (exfalso; simp [valEq_refl, szL] at *; omega))
    · have h2p := h2; have h2s := h2; try simp only [q1, q2, q5] at h2s
      try simp only [q1, q2, q3, q4, q5, q6, q7, q8] at h2p
      refine CWp.skip ?_
      refine CWp.seq ?_
      refine CWp.drawn mixed rfl ?_
      refine Walk.move .none rfl rfl ?_
      refine Walk.call (cr := []) cal12 (laws_toDataS_fn hs) rfl .none rfl rfl (LeL.refl _) trivial rfl rfl rfl ?_
      refine Walk.loadBA ty49 .none rfl rfl rfl rfl ?_
      refine Walk.call (cr := []) cal29 (laws_toValue_fn hok) rfl .none rfl rfl (LeL.refl _) trivial rfl rfl rfl ?_
      refine Walk.call (cr := []) cal28 (hspec) rfl .none rfl rfl (LeL.refl _) trivial rfl rfl rfl ?_
      refine Walk.assign .none rfl rfl ?_
      refine ⟨by show _ = _; kernel_rfl, ?_⟩
      refine CWp.seq ?_
      refine CWp.region rfl ?_
      refine Walk.move .none rfl rfl ?_
      refine Walk.call (cr := [63]) cal12 (laws_toDataS_tr hs) rfl .none rfl rfl (LeL.refl _) trivial rfl (by first | rfl | (simp only [okCall, List.all_cons, List.all_nil, entOK, entOK', AV.idsL, AV.ids, idsL_append, ownCells_ids, List.map_cons, List.map_nil]; rfl)) (by first | rfl | (simp only [freshB, occH, occE, Res.ids, List.cons_append, List.nil_append, AV.idsL, AV.ids, idsL_append, ownCells_ids, zerosA_idsR, repNil, List.map_cons, List.map_nil, upC]; rfl)) ?_
      refine Walk.assign .none rfl rfl ?_
      refine ⟨trivial, ?_⟩
      refine CWp.seq ?_
      refine CWp.region rfl ?_
      refine Walk.loadBA ty49 .none rfl rfl rfl rfl ?_
      refine Walk.call (cr := [64]) cal29 (laws_toValue_tr _ (Nat.le_refl _) hok) rfl .none rfl rfl (LeL.refl _) trivial rfl (by first | rfl | (simp only [okCall, List.all_cons, List.all_nil, entOK, entOK', AV.idsL, AV.ids, idsL_append, ownCells_ids, List.map_cons, List.map_nil]; rfl)) (by first | rfl | (simp only [freshB, occH, occE, Res.ids, List.cons_append, List.nil_append, AV.idsL, AV.ids, idsL_append, ownCells_ids, zerosA_idsR, repNil, List.map_cons, List.map_nil, upC]; rfl)) ?_
      refine Walk.alloc (id := 3008) tz54 rfl .none rfl (by first | rfl | (simp only [freshB, occH, occE, Res.ids, List.cons_append, List.nil_append, AV.idsL, AV.ids, idsL_append, ownCells_ids, zerosA_idsR, repNil, List.map_cons, List.map_nil, upC]; rfl)) (by first | rfl | (simp only [freshB, occH, occE, Res.ids, List.cons_append, List.nil_append, AV.idsL, AV.ids, idsL_append, ownCells_ids, zerosA_idsR, repNil, List.map_cons, List.map_nil, upC]; rfl)) (by first | rfl | (simp only [freshB, occH, occE, Res.ids, List.cons_append, List.nil_append, AV.idsL, AV.ids, idsL_append, ownCells_ids, zerosA_idsR, repNil, List.map_cons, List.map_nil, upC]; rfl)) ?_
      refine Walk.store ty54 .none rfl rfl rfl rfl rfl rfl (by simp) rfl ?_
      refine ⟨trivial, ?_⟩
      refine CWp.seq ?_
      refine CWp.region rfl ?_
      refine Walk.move .none rfl rfl ?_
      refine Walk.loadBA ty54 .none rfl rfl rfl rfl ?_
      refine Walk.lend (cr := []) (lr := [(63, _), (64, _)]) cal30 (impl_TypesOfValue_bad hs hv hok) rfl .none rfl rfl (.cons (.ms (k := 2) List.mem_cons_self (by intro x hx; obtain ⟨y, _, rfl⟩ := List.mem_map.1 hx; rfl) (by first | rfl | (simp [mkL_len, Val.cs_len]; done))) (.cons (.agg (.cons (.le (.refl _)) (.cons (.le (.refl _)) (.cons (.ms (k := 3) (List.mem_cons_of_mem _ List.mem_cons_self) Val.cs_rows (by first | rfl | (simp [mkL_len, Val.cs_len]; done))) .nil)))) .nil)) ⟨rfl, ⟨rfl, trivial⟩⟩ rfl (by first | rfl | (simp only [okLend, flatR_own, flatA, AV.ids]; rfl)) (by first | rfl | (simp only [freshB, occH, occE, Res.ids, List.cons_append, List.nil_append, AV.idsL, AV.ids, idsL_append, ownCells_ids, zerosA_idsR, repNil, List.map_cons, List.map_nil, upC]; rfl)) ?_
      refine Walk.assign .none rfl rfl ?_
      refine ⟨trivial, ?_⟩
      refine CWp.seq ?_
      refine CWp.seq ?_
      refine CWp.region rfl ?_
      refine Walk.move .none rfl rfl ?_
      refine Walk.move .none rfl rfl ?_
      refine Walk.call (cr := []) cal14 (laws_eqTypeS_fn (l := []) (m := []) (by simp)) rfl .none rfl rfl (LeL.refl _) trivial rfl (by first | rfl | (simp only [okCall, List.all_cons, List.all_nil, entOK, entOK', AV.idsL, AV.ids, idsL_append, ownCells_ids, List.map_cons, List.map_nil]; rfl)) (by first | rfl | (simp only [freshB, occH, occE, Res.ids, List.cons_append, List.nil_append, AV.idsL, AV.ids, idsL_append, ownCells_ids, zerosA_idsR, repNil, List.map_cons, List.map_nil, upC]; rfl)) ?_
      refine Walk.not .none rfl rfl ?_
      refine ⟨trivial, ?_⟩
      refine CWp.cond rfl (fun h3 => ?_) (fun h3 => ?_)
      · have h3p := h3; have h3s := h3; try simp only [q1, q2, q5] at h3s
        try simp only [q1, q2, q3, q4, q5, q6, q7, q8] at h3p
        refine CWp.seq ?_
        refine CWp.region rfl ?_
        refine Walk.assign .none rfl rfl ?_
        refine ⟨trivial, ?_⟩
        refine CWp.ret ?_
        refine ⟨_, _, [], (.cons (.tmp rfl) .nil), (.eqd ?_), ⟨rfl, rfl⟩, HSub.nil, noBox⟩
        all_goals (first | rfl | (exfalso; simp_all [valEq_refl, szL]; done) | (exfalso; simp [valEq_refl, szL] at *; omega))
      · have h3p := h3; have h3s := h3; try simp only [q1, q2, q5] at h3s
        try simp only [q1, q2, q3, q4, q5, q6, q7, q8] at h3p
        refine CWp.skip ?_
        refine CWp.seq ?_
        refine CWp.seq ?_
        refine CWp.region rfl ?_
        refine Walk.move .none rfl rfl ?_
        refine Walk.move .none rfl rfl ?_
        refine Walk.call (cr := []) cal12 (laws_toDataS_fn hs) rfl .none rfl rfl (LeL.refl _) trivial rfl (by first | rfl | (simp only [okCall, List.all_cons, List.all_nil, entOK, entOK', AV.idsL, AV.ids, idsL_append, ownCells_ids, List.map_cons, List.map_nil]; rfl)) (by first | rfl | (simp only [freshB, occH, occE, Res.ids, List.cons_append, List.nil_append, AV.idsL, AV.ids, idsL_append, ownCells_ids, zerosA_idsR, repNil, List.map_cons, List.map_nil, upC]; rfl)) ?_
        refine Walk.lend (cr := []) (lr := [(63, _)]) cal15 (laws_eqDataS_fn hs) rfl .none rfl rfl (.cons (.ms (k := 2) List.mem_cons_self (by intro x hx; obtain ⟨y, _, rfl⟩ := List.mem_map.1 hx; rfl) (by first | rfl | (simp [mkL_len, Val.cs_len]; done))) (.cons (.le (.refl _)) .nil)) ⟨rfl, trivial⟩ rfl (by first | rfl | (simp only [okLend, flatR_own, flatA, AV.ids]; rfl)) (by first | rfl | (simp only [freshB, occH, occE, Res.ids, List.cons_append, List.nil_append, AV.idsL, AV.ids, idsL_append, ownCells_ids, zerosA_idsR, repNil, List.map_cons, List.map_nil, upC]; rfl)) ?_
        refine Walk.not .none rfl rfl ?_
        refine ⟨trivial, ?_⟩
        refine CWp.cond rfl (fun h4 => ?_) (fun h4 => ?_)
        · have h4p := h4; have h4s := h4; try simp only [q1, q2, q5] at h4s
          try simp only [q1, q2, q3, q4, q5, q6, q7, q8] at h4p
          refine CWp.seq ?_
          refine CWp.region rfl ?_
          refine Walk.assign .none rfl rfl ?_
          refine ⟨trivial, ?_⟩
          refine CWp.ret ?_
          refine ⟨_, _, [], (.cons (.tmp rfl) .nil), (.eqd ?_), ⟨rfl, rfl⟩, HSub.nil, noBox⟩
          all_goals (first | rfl | (exfalso; simp_all [valEq_refl, szL]; done) | (exfalso; simp [valEq_refl, szL] at *; omega))
        · have h4p := h4; have h4s := h4; try simp only [q1, q2, q5] at h4s
          try simp only [q1, q2, q3, q4, q5, q6, q7, q8] at h4p
          refine CWp.skip ?_
          refine CWp.seq ?_
          refine CWp.seq ?_
          refine CWp.drawn mixed rfl ?_
          refine Walk.loadBA ty54 .none rfl rfl rfl rfl ?_
          refine Walk.loadBA ty49 .none rfl rfl rfl rfl ?_
          refine Walk.call (cr := []) cal29 (laws_toValue_fn hok) rfl .none rfl rfl (LeL.refl _) trivial rfl (by first | rfl | (simp only [okCall, List.all_cons, List.all_nil, entOK, entOK', AV.idsL, AV.ids, idsL_append, ownCells_ids, List.map_cons, List.map_nil]; rfl)) (by first | rfl | (simp only [freshB, occH, occE, Res.ids, List.cons_append, List.nil_append, AV.idsL, AV.ids, idsL_append, ownCells_ids, zerosA_idsR, repNil, List.map_cons, List.map_nil, upC]; rfl)) ?_
          refine Walk.lend (cr := []) (lr := [(64, _)]) cal31 (laws_eqValue_fn _ (Nat.le_refl _) hok) rfl .none rfl rfl (.cons (.agg (.cons (.le (.refl _)) (.cons (.le (.refl _)) (.cons (.ms (k := 3) List.mem_cons_self Val.cs_rows (by first | rfl | (simp [mkL_len, Val.cs_len]; done))) .nil)))) (.cons (.le (.refl _)) .nil)) ⟨rfl, trivial⟩ rfl (by first | rfl | (simp only [okLend, flatR_own, flatA, AV.ids]; rfl)) (by first | rfl | (simp only [freshB, occH, occE, Res.ids, List.cons_append, List.nil_append, AV.idsL, AV.ids, idsL_append, ownCells_ids, zerosA_idsR, repNil, List.map_cons, List.map_nil, upC]; rfl)) ?_
          refine Walk.not .none rfl rfl ?_
          refine ⟨by show _ = _; kernel_rfl, ?_⟩
          refine CWp.cond rfl (fun h5 => ?_) (fun h5 => ?_)
          · have h5p := h5; have h5s := h5; try simp only [q1, q2, q5] at h5s
            try simp only [q1, q2, q3, q4, q5, q6, q7, q8] at h5p
            refine CWp.seq ?_
            refine CWp.region rfl ?_
            refine Walk.assign .none rfl rfl ?_
            refine ⟨trivial, ?_⟩
            refine CWp.ret ?_
            refine ⟨_, _, [], (.cons (.tmp rfl) .nil), (.eqd ?_), ⟨rfl, rfl⟩, HSub.nil, noBox⟩
            all_goals (first | rfl | (exfalso; simp_all [valEq_refl, szL]; done) | (exfalso; simp [valEq_refl, szL] at *; omega))
          · have h5p := h5; have h5s := h5; try simp only [q1, q2, q5] at h5s
            try simp only [q1, q2, q3, q4, q5, q6, q7, q8] at h5p
            refine CWp.skip ?_
            refine CWp.seq ?_
            refine CWp.region rfl ?_
            refine Walk.assign .none rfl rfl ?_
            refine ⟨trivial, ?_⟩
            refine CWp.seq ?_
            refine CWp.region rfl ?_
            refine Walk.move .none rfl rfl ?_
            refine Walk.move .none rfl rfl ?_
            refine Walk.call (cr := []) cal16 (markDataS_63 (l := w) (k := 1) (by omega) (by omega) hs) rfl .none rfl rfl (.cons (LeA.msn (by first | rfl | (simp [Val.cs_len]; done))) (.cons (.refl _) .nil)) ⟨rfl, trivial⟩ rfl (by first | rfl | (simp only [okCall, List.all_cons, List.all_nil, entOK, entOK', AV.idsL, AV.ids, idsL_append, ownCells_ids, List.map_cons, List.map_nil]; rfl)) (by first | rfl | (simp only [freshB, occH, occE, Res.ids, List.cons_append, List.nil_append, AV.idsL, AV.ids, idsL_append, ownCells_ids, zerosA_idsR, repNil, List.map_cons, List.map_nil, upC]; rfl)) ?_
            refine Walk.assign .none rfl rfl ?_
            refine ⟨trivial, ?_⟩
            refine CWp.seq ?_
            refine CWp.region rfl ?_
            refine Walk.loadBA ty54 .none rfl rfl rfl rfl ?_
            refine Walk.move .none rfl rfl ?_
            refine Walk.call (cr := []) cal32 (markValue_64 (v := v) (k := 1 + szL Data.sz w) (by omega) (by omega) hok) rfl .none rfl rfl (.cons (.agg (.cons (.refl _) (.cons (.refl _) (.cons (LeA.msn (by first | rfl | (simp [Val.cs_len]; done))) .nil)))) (.cons (.refl _) .nil)) ⟨rfl, trivial⟩ rfl (by first | rfl | (simp only [okCall, List.all_cons, List.all_nil, entOK, entOK', AV.idsL, AV.ids, idsL_append, ownCells_ids, List.map_cons, List.map_nil]; rfl)) (by first | rfl | (simp only [freshB, occH, occE, Res.ids, List.cons_append, List.nil_append, AV.idsL, AV.ids, idsL_append, ownCells_ids, zerosA_idsR, repNil, List.map_cons, List.map_nil, upC]; rfl)) ?_
            refine Walk.assign .none rfl rfl ?_
            refine ⟨trivial, ?_⟩
            refine CWp.seq ?_
            refine CWp.seq ?_
            refine CWp.region rfl ?_
            refine Walk.move .none rfl rfl ?_
            refine Walk.ltI .none rfl rfl rfl ?_
            refine Walk.move .none rfl rfl ?_
            refine Walk.split (e := 58) rfl (fun h6 => ?_) (fun h6 => ?_)
            · have h6p := h6; have h6s := h6; try simp only [q1, q2, q5] at h6s
              try simp only [q1, q2, q3, q4, q5, q6, q7, q8] at h6p
              refine Walk.pass rfl rfl rfl h6 rfl rfl ?_
              refine Walk.pass rfl rfl rfl h6 rfl rfl ?_
              refine Walk.pass rfl rfl rfl h6 rfl rfl ?_
              refine Walk.pass rfl rfl rfl h6 rfl rfl ?_
              refine Walk.pickT .none rfl rfl h6 rfl ?_
              refine ⟨trivial, ?_⟩
              refine CWp.cond rfl (fun h7 => ?_) (fun h7 => ?_)
              · have h7p := h7; have h7s := h7; try simp only [q1, q2, q5] at h7s
                try simp only [q1, q2, q3, q4, q5, q6, q7, q8] at h7p
                refine CWp.seq ?_
                refine CWp.region rfl ?_
                refine Walk.assign .none rfl rfl ?_
                refine ⟨trivial, ?_⟩
                refine CWp.ret ?_
                refine ⟨_, _, [], (.cons (.tmp rfl) .nil), (.eqd ?_), ⟨rfl, rfl⟩, HSub.nil, noBox⟩
                all_goals (first | rfl | (exfalso; simp_all [valEq_refl, szL]; done) | (exfalso; simp [valEq_refl, szL] at *; omega))
              · exact absurd h7 (by simp)
            · have h6p := h6; have h6s := h6; try simp only [q1, q2, q5] at h6s
              try simp only [q1, q2, q3, q4, q5, q6, q7, q8] at h6p
              refine Walk.move (.some rfl rfl h6) rfl rfl ?_
              refine Walk.move (.some rfl rfl h6) rfl rfl ?_
              refine Walk.call (cr := []) cal14 (laws_eqTypeS_fn (l := []) (m := []) (by simp)) rfl (.some rfl rfl h6) rfl rfl (LeL.refl _) trivial rfl (by first | rfl | (simp only [okCall, List.all_cons, List.all_nil, entOK, entOK', AV.idsL, AV.ids, idsL_append, ownCells_ids, List.map_cons, List.map_nil]; rfl)) (by first | rfl | (simp only [freshB, occH, occE, Res.ids, List.cons_append, List.nil_append, AV.idsL, AV.ids, idsL_append, ownCells_ids, zerosA_idsR, repNil, List.map_cons, List.map_nil, upC]; rfl)) ?_
              refine Walk.not (.some rfl rfl h6) rfl rfl ?_
              refine Walk.pickF .none rfl rfl h6 rfl ?_
              refine ⟨trivial, ?_⟩
              refine CWp.cond rfl (fun h8 => ?_) (fun h8 => ?_)
              · have h8p := h8; have h8s := h8; try simp only [q1, q2, q5] at h8s
                try simp only [q1, q2, q3, q4, q5, q6, q7, q8] at h8p
                refine CWp.seq ?_
                refine CWp.region rfl ?_
                refine Walk.assign .none rfl rfl ?_
                refine ⟨trivial, ?_⟩
                refine CWp.ret ?_
                refine ⟨_, _, [], (.cons (.tmp rfl) .nil), (.eqd ?_), ⟨rfl, rfl⟩, HSub.nil, noBox⟩
                all_goals (first | rfl | (exfalso; simp_all [valEq_refl, szL]; done) | (exfalso; simp [valEq_refl, szL] at *; omega))
              · have h8p := h8; have h8s := h8; try simp only [q1, q2, q5] at h8s
                try simp only [q1, q2, q3, q4, q5, q6, q7, q8] at h8p
                refine CWp.skip ?_
                refine CWp.seq ?_
                refine CWp.region rfl ?_
                refine Walk.assign .none rfl rfl ?_
                refine ⟨trivial, ?_⟩
                refine CWp.seq ?_
                refine CWp.region rfl ?_
                refine Walk.move .none rfl rfl ?_
                refine Walk.move .none rfl rfl ?_
                refine Walk.call (cr := []) cal17 (laws_markTypeS_nil (l := []) rfl) rfl .none rfl rfl (LeL.refl _) trivial rfl (by first | rfl | (simp only [okCall, List.all_cons, List.all_nil, entOK, entOK', AV.idsL, AV.ids, idsL_append, ownCells_ids, List.map_cons, List.map_nil]; rfl)) (by first | rfl | (simp only [freshB, occH, occE, Res.ids, List.cons_append, List.nil_append, AV.idsL, AV.ids, idsL_append, ownCells_ids, zerosA_idsR, repNil, List.map_cons, List.map_nil, upC]; rfl)) ?_
                refine Walk.assign .none rfl rfl ?_
                refine ⟨trivial, ?_⟩
                refine CWp.seq ?_
                refine CWp.region rfl ?_
                refine Walk.assign .none rfl rfl ?_
                refine ⟨trivial, ?_⟩
                refine CWp.seq ?_
                refine CWp.region rfl ?_
                refine Walk.move .none rfl rfl ?_
                refine Walk.move .none rfl rfl ?_
                refine Walk.call (cr := []) cal18 (laws_heldTypeS_fn (l := []) (k := 1) (by omega) (by simp [szL]) (by simp)) rfl .none rfl rfl (LeL.refl _) trivial rfl (by first | rfl | (simp only [okCall, List.all_cons, List.all_nil, entOK, entOK', AV.idsL, AV.ids, idsL_append, ownCells_ids, List.map_cons, List.map_nil]; rfl)) (by first | rfl | (simp only [freshB, occH, occE, Res.ids, List.cons_append, List.nil_append, AV.idsL, AV.ids, idsL_append, ownCells_ids, zerosA_idsR, repNil, List.map_cons, List.map_nil, upC]; rfl)) ?_
                refine Walk.assign .none rfl rfl ?_
                refine ⟨trivial, ?_⟩
                refine CWp.seq ?_
                refine CWp.seq ?_
                refine CWp.region rfl ?_
                refine Walk.move .none rfl rfl ?_
                refine Walk.ltI .none rfl rfl rfl ?_
                refine ⟨trivial, ?_⟩
                refine CWp.cond rfl (fun h9 => ?_) (fun h9 => ?_)
                · have h9p := h9; have h9s := h9; try simp only [q1, q2, q5] at h9s
                  try simp only [q1, q2, q3, q4, q5, q6, q7, q8] at h9p
                  refine CWp.seq ?_
                  refine CWp.region rfl ?_
                  refine Walk.assign .none rfl rfl ?_
                  refine ⟨trivial, ?_⟩
                  refine CWp.ret ?_
                  refine ⟨_, _, [], (.cons (.tmp rfl) .nil), (.eqd ?_), ⟨rfl, rfl⟩, HSub.nil, noBox⟩
                  all_goals (first | rfl | (exfalso; simp_all [valEq_refl, szL]; done) | (exfalso; simp [valEq_refl, szL] at *; omega))
                · have h9p := h9; have h9s := h9; try simp only [q1, q2, q5] at h9s
                  try simp only [q1, q2, q3, q4, q5, q6, q7, q8] at h9p
                  refine CWp.skip ?_
                  refine CWp.seq ?_
                  refine CWp.seq ?_
                  refine CWp.region rfl ?_
                  refine Walk.move .none rfl rfl ?_
                  refine Walk.move .none rfl rfl ?_
                  refine Walk.neI .none rfl rfl rfl ?_
                  refine ⟨trivial, ?_⟩
                  refine CWp.cond rfl (fun h10 => ?_) (fun h10 => ?_)
                  · have h10p := h10; have h10s := h10; try simp only [q1, q2, q5] at h10s
                    try simp only [q1, q2, q3, q4, q5, q6, q7, q8] at h10p
                    refine CWp.seq ?_
                    refine CWp.region rfl ?_
                    refine Walk.assign .none rfl rfl ?_
                    refine ⟨trivial, ?_⟩
                    refine CWp.ret ?_
                    refine ⟨_, _, [], (.cons (.tmp rfl) .nil), (.eqd ?_), ⟨rfl, rfl⟩, HSub.nil, noBox⟩
                    all_goals (first | rfl | (exfalso; simp_all [valEq_refl, szL]; done) | (exfalso; simp [valEq_refl, szL] at *; omega))
                  · have h10p := h10; have h10s := h10; try simp only [q1, q2, q5] at h10s
                    try simp only [q1, q2, q3, q4, q5, q6, q7, q8] at h10p
                    refine CWp.skip ?_
                    refine CWp.seq ?_
                    refine CWp.drawn mixed rfl ?_
                    refine Walk.move .none rfl rfl ?_
                    refine Walk.call (cr := []) cal12 (laws_toDataS_fn hs) rfl .none rfl rfl (LeL.refl _) trivial rfl (by first | rfl | (simp only [okCall, List.all_cons, List.all_nil, entOK, entOK', AV.idsL, AV.ids, idsL_append, ownCells_ids, List.map_cons, List.map_nil]; rfl)) (by first | rfl | (simp only [freshB, occH, occE, Res.ids, List.cons_append, List.nil_append, AV.idsL, AV.ids, idsL_append, ownCells_ids, zerosA_idsR, repNil, List.map_cons, List.map_nil, upC]; rfl)) ?_
                    refine Walk.loadBA ty49 .none rfl rfl rfl rfl ?_
                    refine Walk.call (cr := []) cal29 (laws_toValue_fn hok) rfl .none rfl rfl (LeL.refl _) trivial rfl (by first | rfl | (simp only [okCall, List.all_cons, List.all_nil, entOK, entOK', AV.idsL, AV.ids, idsL_append, ownCells_ids, List.map_cons, List.map_nil]; rfl)) (by first | rfl | (simp only [freshB, occH, occE, Res.ids, List.cons_append, List.nil_append, AV.idsL, AV.ids, idsL_append, ownCells_ids, zerosA_idsR, repNil, List.map_cons, List.map_nil, upC]; rfl)) ?_
                    refine Walk.call (cr := []) cal30 (impl_TypesOfValue_bad hs hv hok) rfl .none rfl rfl (LeL.refl _) trivial rfl (by first | rfl | (simp only [okCall, List.all_cons, List.all_nil, entOK, entOK', AV.idsL, AV.ids, idsL_append, ownCells_ids, List.map_cons, List.map_nil]; rfl)) (by first | rfl | (simp only [freshB, occH, occE, Res.ids, List.cons_append, List.nil_append, AV.idsL, AV.ids, idsL_append, ownCells_ids, zerosA_idsR, repNil, List.map_cons, List.map_nil, upC]; rfl)) ?_
                    refine Walk.assign .none rfl rfl ?_
                    refine ⟨by show _ = _; kernel_rfl, ?_⟩
                    refine CWp.seq ?_
                    refine CWp.seq ?_
                    refine CWp.region rfl ?_
                    refine Walk.move .none rfl rfl ?_
                    refine Walk.move .none rfl rfl ?_
                    refine Walk.call (cr := []) cal14 (laws_eqTypeS_fn (l := []) (m := []) (by simp)) rfl .none rfl rfl (LeL.refl _) trivial rfl (by first | rfl | (simp only [okCall, List.all_cons, List.all_nil, entOK, entOK', AV.idsL, AV.ids, idsL_append, ownCells_ids, List.map_cons, List.map_nil]; rfl)) (by first | rfl | (simp only [freshB, occH, occE, Res.ids, List.cons_append, List.nil_append, AV.idsL, AV.ids, idsL_append, ownCells_ids, zerosA_idsR, repNil, List.map_cons, List.map_nil, upC]; rfl)) ?_
                    refine Walk.not .none rfl rfl ?_
                    refine ⟨trivial, ?_⟩
                    refine CWp.cond rfl (fun h11 => ?_) (fun h11 => ?_)
                    · have h11p := h11; have h11s := h11; try simp only [q1, q2, q5] at h11s
                      try simp only [q1, q2, q3, q4, q5, q6, q7, q8] at h11p
                      refine CWp.seq ?_
                      refine CWp.region rfl ?_
                      refine Walk.assign .none rfl rfl ?_
                      refine ⟨trivial, ?_⟩
                      refine CWp.ret ?_
                      refine ⟨_, _, [], (.cons (.tmp rfl) .nil), (.eqd ?_), ⟨rfl, rfl⟩, HSub.nil, noBox⟩
                      all_goals (first | rfl | (exfalso; simp_all [valEq_refl, szL]; done) | (exfalso; simp [valEq_refl, szL] at *; omega))
                    · have h11p := h11; have h11s := h11; try simp only [q1, q2, q5] at h11s
                      try simp only [q1, q2, q3, q4, q5, q6, q7, q8] at h11p
                      refine CWp.skip ?_
                      refine CWp.seq ?_
                      refine CWp.region rfl ?_
                      refine Walk.assign .none rfl rfl ?_
                      refine ⟨trivial, ?_⟩
                      refine CWp.seq ?_
                      refine CWp.region rfl ?_
                      refine Walk.move .none rfl rfl ?_
                      refine Walk.move .none rfl rfl ?_
                      refine Walk.call (cr := []) cal18 (laws_heldTypeS_fn (l := []) (k := 1) (by omega) (by simp [szL]) (by simp)) rfl .none rfl rfl (LeL.refl _) trivial rfl (by first | rfl | (simp only [okCall, List.all_cons, List.all_nil, entOK, entOK', AV.idsL, AV.ids, idsL_append, ownCells_ids, List.map_cons, List.map_nil]; rfl)) (by first | rfl | (simp only [freshB, occH, occE, Res.ids, List.cons_append, List.nil_append, AV.idsL, AV.ids, idsL_append, ownCells_ids, zerosA_idsR, repNil, List.map_cons, List.map_nil, upC]; rfl)) ?_
                      refine Walk.assign .none rfl rfl ?_
                      refine ⟨trivial, ?_⟩
                      refine CWp.seq ?_
                      refine CWp.seq ?_
                      refine CWp.region rfl ?_
                      refine Walk.move .none rfl rfl ?_
                      refine Walk.ltI .none rfl rfl rfl ?_
                      refine ⟨trivial, ?_⟩
                      refine CWp.cond rfl (fun h12 => ?_) (fun h12 => ?_)
                      · have h12p := h12; have h12s := h12; try simp only [q1, q2, q5] at h12s
                        try simp only [q1, q2, q3, q4, q5, q6, q7, q8] at h12p
                        refine CWp.seq ?_
                        refine CWp.region rfl ?_
                        refine Walk.assign .none rfl rfl ?_
                        refine ⟨trivial, ?_⟩
                        refine CWp.ret ?_
                        refine ⟨_, _, [], (.cons (.tmp rfl) .nil), (.eqd ?_), ⟨rfl, rfl⟩, HSub.nil, noBox⟩
                        all_goals (first | rfl | (exfalso; simp_all [valEq_refl, szL]; done) | (exfalso; simp [valEq_refl, szL] at *; omega))
                      · have h12p := h12; have h12s := h12; try simp only [q1, q2, q5] at h12s
                        try simp only [q1, q2, q3, q4, q5, q6, q7, q8] at h12p
                        refine CWp.skip ?_
                        refine CWp.seq ?_
                        refine CWp.seq ?_
                        refine CWp.region rfl ?_
                        refine Walk.move .none rfl rfl ?_
                        refine Walk.move .none rfl rfl ?_
                        refine Walk.neI .none rfl rfl rfl ?_
                        refine ⟨trivial, ?_⟩
                        refine CWp.cond rfl (fun h13 => ?_) (fun h13 => ?_)
                        · have h13p := h13; have h13s := h13; try simp only [q1, q2, q5] at h13s
                          try simp only [q1, q2, q3, q4, q5, q6, q7, q8] at h13p
                          refine CWp.seq ?_
                          refine CWp.region rfl ?_
                          refine Walk.assign .none rfl rfl ?_
                          refine ⟨trivial, ?_⟩
                          refine CWp.ret ?_
                          refine ⟨_, _, [], (.cons (.tmp rfl) .nil), (.eqd ?_), ⟨rfl, rfl⟩, HSub.nil, noBox⟩
                          all_goals (first | rfl | (exfalso; simp_all [valEq_refl, szL]; done) | (exfalso; simp [valEq_refl, szL] at *; omega))
                        · have h13p := h13; have h13s := h13; try simp only [q1, q2, q5] at h13s
                          try simp only [q1, q2, q3, q4, q5, q6, q7, q8] at h13p
                          refine CWp.skip ?_
                          refine CWp.seq ?_
                          refine CWp.region rfl ?_
                          refine Walk.assign .none rfl rfl ?_
                          refine ⟨trivial, ?_⟩
                          refine CWp.ret ?_
                          refine ⟨_, _, [], (.cons (.tmp rfl) .nil), (.eqd ?_), ⟨rfl, rfl⟩, HSub.nil, noBox⟩
                          all_goals (first | rfl | (exfalso; simp_all [valEq_refl, szL]; done) | (exfalso; simp [valEq_refl, szL] at *; omega))

theorem laws_FnExactTypesOfValue_fn {w : List Data} (hs : WSmall w) {v : Val} (hok : v.ok) (hsz : v.size ≤ 1000000000000) : FnD Try.prog 7 [.d (encDatas w), .agg [.d (.i v.ctor), .d (.i v.num), .d (encVals v.kids)]] [] (.d (.bool true)) [] := by
  cases hv : worldValid w with
  | true => exact laws_FnExactTypesOfValue_good hs hv hok hsz
  | false => exact laws_FnExactTypesOfValue_bad hs hv hok hsz
end Go.Proofs.Ytadpcmcifbakoaa
