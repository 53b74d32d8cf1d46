/-
  WALKS: the law FnExactTypesOfPattern.
-/
import Derived.Test.YtadpcmcifbakoaaF23
namespace Go.Proofs.Ytadpcmcifbakoaa
open Go
set_option linter.unusedSimpArgs false
set_option linter.unusedVariables false
set_option maxRecDepth 100000
set_option maxHeartbeats 2000000
theorem markDataS_63 {l : List Data} {k : Int} (h0 : 0 < k) (h1 : k + szL Data.sz l ≤ 1000000000000) (hl : WSmall l) : FnD Try.prog 16 [.ms 63 l.length, .d (.i k)] [(63, some (.tree (ownCells false (l.map Data.c))))]
  (.d (.i (k + szL Data.sz l))) [(63, some (.tree (ownCells false ((mkL Data.one Data.sz k l).map Data.c))))] := FnD.ren rfl (ownCells_ids _ _) (ownCells_ids _ _) (laws_markDataS_tr h0 h1 hl) 63
theorem markPattern_66 {p : Pat} {k : Int} (h0 : 0 < k) (h1 : k + szL Pat.szM p.kids ≤ 1000000000000) (hok : p.ok) : FnD Try.prog 41 [.agg [.d (.i p.op), .d (.i p.ctor), .d (.i p.n), .d (.i p.m), .d (.i p.var), .ms 66 p.kids.length], .d (.i k)] [(66, some (.tree (ownCells false (Pat.cs p.kids))))]
  (.d (.i (k + szL Pat.szM p.kids))) [(66, some (.tree (ownCells false (Pat.cs (mkL Pat.one Pat.szM k p.kids)))))] := FnD.ren rfl (ownCells_ids _ _) (ownCells_ids _ _) (laws_markPattern_tr h0 h1 hok) 66
theorem markTypeS_1 {m : Bool} {l : List Ty} {k : Int} (h0 : 0 ≤ k) (h1 : k + szL Ty.sz l ≤ 1000000000000) (hl : l.length ≤ 1000000000000) : FnD Try.prog 17 [.ms 1 l.length, .d (.i k)] [(1, some (.tree (ownCells m (l.map Ty.c))))]
  (.d (.i (k + szL Ty.sz l))) [(1, some (.tree (ownCells m ((mkL Ty.one Ty.sz k l).map Ty.c))))] := FnD.ren rfl (ownCells_ids _ _) (ownCells_ids _ _) (laws_markTypeS_tr h0 h1 hl) 1
theorem Pat.size_m (v : Pat) : v.size = 1 + mPat v := by
 have key : ∀ n, ∀ v : Pat, v.size ≤ n → v.size = 1 + mPat v := by
  intro n
  induction n with
  | zero => intro v h; rw [Pat.size_eq] at h; omega
  | succ n ih =>
   intro v h
   rw [Pat.size_eq] at h ⊢
   rw [mPat_eq]
   have : ∀ l : List Pat, Pats.size l ≤ n → Pats.size l = mPats l := by
    intro l
    induction l with
    | nil => intro _; rfl
    | cons x r ihl =>
     intro hl
     simp only [Pats.size] at hl
     simp only [Pats.size, mPats]
     rw [ih x (by omega), ihl (by omega)]
   rw [this _ (by omega)]
 exact key _ v (Nat.le_refl _)
theorem laws_FnExactTypesOfPattern_good {w : List Data} (hs : WSmall w) (hv : worldValid w = true) {p : Pat} (hok : p.ok) (hsz : p.size ≤ 1000000000000) : FnD Try.prog 9 [.d (encDatas w), .agg [.d (.i p.op), .d (.i p.ctor), .d (.i p.n), .d (.i p.m), .d (.i p.var), .d (encPats p.kids)]] [] (.d (.bool true)) [] := by
 have hw4 := valid_four hv
 have hlen := allTypesOf_len w.length
 have hle : (typesOfP w p).length ≤ (allTypesOf w.length).length := by rw [typesOfP, if_pos hv]; exact List.length_filter_le _ _
 have htys := szL_tys (typesOfP w p)
 have z := szr_or (left := 1048576) (mDatas w)
 have z2 := szr_or (left := szr 1048576 (mDatas w)) (mPat p)
 have hbd := szL_datas_le w
 have hnn := szL_nonneg (l := w) Data.sz_nn
 have hvb := Pats.szM_le p.kids
 have hvn := Pats.szM_nn p.kids
 rw [Pats.szM_eq] at hvb hvn
 rw [← mPat_eq] at hvb
 refine Fn.body (fn := Try.f9) (n := 92) rfl rfl rfl rfl rfl (fun w0 F0 own kept hk => ?_)
 refine sr ?_
 refine Walk.box (id := 3003) .none rfl rfl rfl rfl rfl rfl rfl ?_
 refine asg ?_
 refine tv ?_
 refine sr ?_
 refine asg ?_
 refine tv ?_
 refine sr ?_
 refine mv ?_
 refine mv ?_
 refine Walk.call (cr := []) cal10 (laws_szDataS_fn hs (by omega) (by omega)) rfl .none rfl rfl (LeL.refl _) trivial rfl rfl rfl ?_
 refine asg ?_
 refine tv ?_
 refine CWp.seq ?_
 refine sr ?_
 refine mv ?_
 refine Walk.ltI .none rfl rfl rfl ?_
 refine tv ?_
 refine cd ?_ ?_
 ·intro h1; have ⟨h1p, h1s⟩ := dup h1; try simp only [Q5] at h1s
  try simp only [Q] at h1p
  refine sr ?_
  refine asg ?_
  refine tv ?_
  refine CWp.ret ?_
  refine ⟨_, _, [], (.cons (.tmp rfl) .nil), (.eqd ?_), ⟨rfl, rfl⟩, HSub.nil, noBox⟩
  all_goals (first | rfl | (exfalso; simp_all [patEq_refl]; done) | (exfalso; simp [patEq_refl] at *; omega))
 ·intro h1; have ⟨h1p, h1s⟩ := dup h1; try simp only [Q5] at h1s
  try simp only [Q] at h1p
  refine CWp.skip ?_
  refine sr ?_
  refine Walk.loadBA ty65 .none rfl rfl rfl rfl ?_
  refine mv ?_
  refine Walk.call (cr := []) cal36 (laws_szPattern_fn _ (Nat.le_refl _) hok (by omega) (by omega)) rfl .none rfl rfl (LeL.refl _) trivial rfl rfl rfl ?_
  refine asg ?_
  refine tv ?_
  refine CWp.seq ?_
  refine sr ?_
  refine mv ?_
  refine Walk.ltI .none rfl rfl rfl ?_
  refine tv ?_
  refine cd ?_ ?_
  ·intro h2; have ⟨h2p, h2s⟩ := dup h2; try simp only [Q5] at h2s
   try simp only [Q] at h2p
   refine sr ?_
   refine asg ?_
   refine tv ?_
   refine CWp.ret ?_
   refine ⟨_, _, [], (.cons (.tmp rfl) .nil), (.eqd ?_), ⟨rfl, rfl⟩, HSub.nil, noBox⟩
   all_goals (first | rfl | (exfalso; simp_all [patEq_refl]; done) | (exfalso; simp [patEq_refl] at *; omega))
  ·intro h2; have ⟨h2p, h2s⟩ := dup h2; try simp only [Q5] at h2s
   try simp only [Q] at h2p
   refine CWp.skip ?_
   refine CWp.seq ?_
   refine CWp.drawn mixed rfl ?_
   refine mv ?_
   refine Walk.call (cr := []) cal12 (laws_toDataS_fn hs) rfl .none rfl rfl (LeL.refl _) trivial rfl rfl rfl ?_
   refine Walk.loadBA ty65 .none rfl rfl rfl rfl ?_
   refine Walk.call (cr := []) cal38 (laws_toPattern_fn hok) rfl .none rfl rfl (LeL.refl _) trivial rfl rfl rfl ?_
   refine Walk.call (cr := []) cal37 (spec_TypesOfPattern_fn hs hok hsz) rfl .none rfl rfl (LeL.refl _) trivial rfl rfl rfl ?_
   refine asg ?_
   refine ⟨by show _ = _; kernel_rfl, ?_⟩
   refine sr ?_
   refine mv ?_
   refine Walk.call (cr := [63]) cal12 (laws_toDataS_tr hs) rfl .none rfl rfl (LeL.refl _) trivial rfl (by first | rfl | (simp only [okCall, List.all_cons, List.all_nil, entOK, entOK', AV.idsL, AV.ids, idsL_append, ownCells_ids, List.map_cons, List.map_nil]; rfl)) (by first | rfl | (simp only [freshB, occH, occE, Res.ids, List.cons_append, List.nil_append, AV.idsL, AV.ids, idsL_append, ownCells_ids, zerosA_idsR, repNil, List.map_cons, List.map_nil, upC]; rfl)) ?_
   refine asg ?_
   refine tv ?_
   refine sr ?_
   refine Walk.loadBA ty65 .none rfl rfl rfl rfl ?_
   refine Walk.call (cr := [66]) cal38 (laws_toPattern_tr _ (Nat.le_refl _) hok) rfl .none rfl rfl (LeL.refl _) trivial rfl (by first | rfl | (simp only [okCall, List.all_cons, List.all_nil, entOK, entOK', AV.idsL, AV.ids, idsL_append, ownCells_ids, List.map_cons, List.map_nil]; rfl)) (by first | rfl | (simp only [freshB, occH, occE, Res.ids, List.cons_append, List.nil_append, AV.idsL, AV.ids, idsL_append, ownCells_ids, zerosA_idsR, repNil, List.map_cons, List.map_nil, upC]; rfl)) ?_
   refine Walk.alloc (id := 3008) tz70 rfl .none rfl (by first | rfl | (simp only [freshB, occH, occE, Res.ids, List.cons_append, List.nil_append, AV.idsL, AV.ids, idsL_append, ownCells_ids, zerosA_idsR, repNil, List.map_cons, List.map_nil, upC]; rfl)) (by first | rfl | (simp only [freshB, occH, occE, Res.ids, List.cons_append, List.nil_append, AV.idsL, AV.ids, idsL_append, ownCells_ids, zerosA_idsR, repNil, List.map_cons, List.map_nil, upC]; rfl)) (by first | rfl | (simp only [freshB, occH, occE, Res.ids, List.cons_append, List.nil_append, AV.idsL, AV.ids, idsL_append, ownCells_ids, zerosA_idsR, repNil, List.map_cons, List.map_nil, upC]; rfl)) ?_
   refine Walk.store ty70 .none rfl rfl rfl rfl rfl rfl (by simp) rfl ?_
   refine tv ?_
   refine sr ?_
   refine mv ?_
   refine Walk.loadBA ty70 .none rfl rfl rfl rfl ?_
   refine Walk.lend (cr := [1]) (lr := [(63, _), (66, _)]) cal39 (impl_TypesOfPattern_own hs hv hok) rfl .none rfl rfl (.cons (.ms (k := 2) List.mem_cons_self (by intro x hx; obtain ⟨y, _, rfl⟩ := List.mem_map.1 hx; rfl) (by first | rfl | (simp [mkL_len, Pat.cs_len]; done))) (.cons (.agg (.cons (.le (.refl _)) (.cons (.le (.refl _)) (.cons (.le (.refl _)) (.cons (.le (.refl _)) (.cons (.le (.refl _)) (.cons (.ms (k := 6) (List.mem_cons_of_mem _ List.mem_cons_self) Pat.cs_rows (by first | rfl | (simp [mkL_len, Pat.cs_len]; done))) .nil))))))) .nil)) ⟨rfl, ⟨rfl, trivial⟩⟩ rfl (by first | rfl | (simp only [okLend, flatR_own, flatA, AV.ids]; rfl)) (by first | rfl | (simp only [freshB, occH, occE, Res.ids, List.cons_append, List.nil_append, AV.idsL, AV.ids, idsL_append, ownCells_ids, zerosA_idsR, repNil, List.map_cons, List.map_nil, upC]; rfl)) ?_
   refine asg ?_
   refine tv ?_
   refine CWp.seq ?_
   refine sr ?_
   refine mv ?_
   refine mv ?_
   refine Walk.lend (cr := []) (lr := [(1, _)]) cal14 (laws_eqTypeS_fn (by omega)) rfl .none rfl rfl (.cons (.ms (k := 2) List.mem_cons_self (by intro x hx; obtain ⟨y, _, rfl⟩ := List.mem_map.1 hx; rfl) (by first | rfl | (simp [mkL_len, Pat.cs_len]; done))) (.cons (.le (.refl _)) .nil)) ⟨rfl, trivial⟩ rfl (by first | rfl | (simp only [okLend, flatR_own, flatA, AV.ids]; rfl)) (by first | rfl | (simp only [freshB, occH, occE, Res.ids, List.cons_append, List.nil_append, AV.idsL, AV.ids, idsL_append, ownCells_ids, zerosA_idsR, repNil, List.map_cons, List.map_nil, upC]; rfl)) ?_
   refine Walk.not .none rfl rfl ?_
   refine tv ?_
   refine cd ?_ ?_
   ·intro h3; have ⟨h3p, h3s⟩ := dup h3; try simp only [Q5] at h3s
    try simp only [Q] at h3p
    refine sr ?_
    refine asg ?_
    refine tv ?_
    refine CWp.ret ?_
    refine ⟨_, _, [], (.cons (.tmp rfl) .nil), (.eqd ?_), ⟨rfl, rfl⟩, HSub.nil, noBox⟩
    all_goals (first | rfl | (exfalso; simp_all [patEq_refl]; done) | (exfalso; simp [patEq_refl] at *; omega))
   ·intro h3; have ⟨h3p, h3s⟩ := dup h3; try simp only [Q5] at h3s
    try simp only [Q] at h3p
    refine CWp.skip ?_
    refine CWp.seq ?_
    refine sr ?_
    refine mv ?_
    refine mv ?_
    refine Walk.call (cr := []) cal12 (laws_toDataS_fn hs) rfl .none rfl rfl (LeL.refl _) trivial rfl (by first | rfl | (simp only [okCall, List.all_cons, List.all_nil, entOK, entOK', AV.idsL, AV.ids, idsL_append, ownCells_ids, List.map_cons, List.map_nil]; rfl)) (by first | rfl | (simp only [freshB, occH, occE, Res.ids, List.cons_append, List.nil_append, AV.idsL, AV.ids, idsL_append, ownCells_ids, zerosA_idsR, repNil, List.map_cons, List.map_nil, upC]; rfl)) ?_
    refine Walk.lend (cr := []) (lr := [(63, _)]) cal15 (laws_eqDataS_fn hs) rfl .none rfl rfl (.cons (.ms (k := 2) List.mem_cons_self (by intro x hx; obtain ⟨y, _, rfl⟩ := List.mem_map.1 hx; rfl) (by first | rfl | (simp [mkL_len, Pat.cs_len]; done))) (.cons (.le (.refl _)) .nil)) ⟨rfl, trivial⟩ rfl (by first | rfl | (simp only [okLend, flatR_own, flatA, AV.ids]; rfl)) (by first | rfl | (simp only [freshB, occH, occE, Res.ids, List.cons_append, List.nil_append, AV.idsL, AV.ids, idsL_append, ownCells_ids, zerosA_idsR, repNil, List.map_cons, List.map_nil, upC]; rfl)) ?_
    refine Walk.not .none rfl rfl ?_
    refine tv ?_
    refine cd ?_ ?_
    ·intro h4; have ⟨h4p, h4s⟩ := dup h4; try simp only [Q5] at h4s
     try simp only [Q] at h4p
     refine sr ?_
     refine asg ?_
     refine tv ?_
     refine CWp.ret ?_
     refine ⟨_, _, [], (.cons (.tmp rfl) .nil), (.eqd ?_), ⟨rfl, rfl⟩, HSub.nil, noBox⟩
     all_goals (first | rfl | (exfalso; simp_all [patEq_refl]; done) | (exfalso; simp [patEq_refl] at *; omega))
    ·intro h4; have ⟨h4p, h4s⟩ := dup h4; try simp only [Q5] at h4s
     try simp only [Q] at h4p
     refine CWp.skip ?_
     refine CWp.seq ?_
     refine CWp.seq ?_
     refine CWp.drawn mixed rfl ?_
     refine Walk.loadBA ty70 .none rfl rfl rfl rfl ?_
     refine Walk.loadBA ty65 .none rfl rfl rfl rfl ?_
     refine Walk.call (cr := []) cal38 (laws_toPattern_fn hok) rfl .none rfl rfl (LeL.refl _) trivial rfl (by first | rfl | (simp only [okCall, List.all_cons, List.all_nil, entOK, entOK', AV.idsL, AV.ids, idsL_append, ownCells_ids, List.map_cons, List.map_nil]; rfl)) (by first | rfl | (simp only [freshB, occH, occE, Res.ids, List.cons_append, List.nil_append, AV.idsL, AV.ids, idsL_append, ownCells_ids, zerosA_idsR, repNil, List.map_cons, List.map_nil, upC]; rfl)) ?_
     refine Walk.lend (cr := []) (lr := [(66, _)]) cal40 (laws_eqPattern_fn _ (Nat.le_refl _) hok) rfl .none rfl rfl (.cons (.agg (.cons (.le (.refl _)) (.cons (.le (.refl _)) (.cons (.le (.refl _)) (.cons (.le (.refl _)) (.cons (.le (.refl _)) (.cons (.ms (k := 6) List.mem_cons_self Pat.cs_rows (by first | rfl | (simp [mkL_len, Pat.cs_len]; done))) .nil))))))) (.cons (.le (.refl _)) .nil)) ⟨rfl, trivial⟩ rfl (by first | rfl | (simp only [okLend, flatR_own, flatA, AV.ids]; rfl)) (by first | rfl | (simp only [freshB, occH, occE, Res.ids, List.cons_append, List.nil_append, AV.idsL, AV.ids, idsL_append, ownCells_ids, zerosA_idsR, repNil, List.map_cons, List.map_nil, upC]; rfl)) ?_
     refine Walk.not .none rfl rfl ?_
     refine ⟨by show _ = _; kernel_rfl, ?_⟩
     refine cd ?_ ?_
     ·intro h5; have ⟨h5p, h5s⟩ := dup h5; try simp only [Q5] at h5s
      try simp only [Q] at h5p
      refine sr ?_
      refine asg ?_
      refine tv ?_
      refine CWp.ret ?_
      refine ⟨_, _, [], (.cons (.tmp rfl) .nil), (.eqd ?_), ⟨rfl, rfl⟩, HSub.nil, noBox⟩
      all_goals (first | rfl | (exfalso; simp_all [patEq_refl]; done) | (exfalso; simp [patEq_refl] at *; omega))
     ·intro h5; have ⟨h5p, h5s⟩ := dup h5; try simp only [Q5] at h5s
      try simp only [Q] at h5p
      refine CWp.skip ?_
      refine sr ?_
      refine asg ?_
      refine tv ?_
      refine sr ?_
      refine mv ?_
      refine mv ?_
      refine Walk.call (cr := []) cal16 (markDataS_63 (l := w) (k := 1) (by omega) (by omega) hs) rfl .none rfl rfl (.cons (LeA.msn (by first | rfl | (simp [Pat.cs_len]; done))) (.cons (.refl _) .nil)) ⟨rfl, trivial⟩ rfl (by first | rfl | (simp only [okCall, List.all_cons, List.all_nil, entOK, entOK', AV.idsL, AV.ids, idsL_append, ownCells_ids, List.map_cons, List.map_nil]; rfl)) (by first | rfl | (simp only [freshB, occH, occE, Res.ids, List.cons_append, List.nil_append, AV.idsL, AV.ids, idsL_append, ownCells_ids, zerosA_idsR, repNil, List.map_cons, List.map_nil, upC]; rfl)) ?_
      refine asg ?_
      refine tv ?_
      refine sr ?_
      refine Walk.loadBA ty70 .none rfl rfl rfl rfl ?_
      refine mv ?_
      refine Walk.call (cr := []) cal41 (markPattern_66 (p := p) (k := 1 + szL Data.sz w) (by omega) (by omega) hok) rfl .none rfl rfl (.cons (.agg (.cons (.refl _) (.cons (.refl _) (.cons (.refl _) (.cons (.refl _) (.cons (.refl _) (.cons (LeA.msn (by first | rfl | (simp [Pat.cs_len]; done))) .nil))))))) (.cons (.refl _) .nil)) ⟨rfl, trivial⟩ rfl (by first | rfl | (simp only [okCall, List.all_cons, List.all_nil, entOK, entOK', AV.idsL, AV.ids, idsL_append, ownCells_ids, List.map_cons, List.map_nil]; rfl)) (by first | rfl | (simp only [freshB, occH, occE, Res.ids, List.cons_append, List.nil_append, AV.idsL, AV.ids, idsL_append, ownCells_ids, zerosA_idsR, repNil, List.map_cons, List.map_nil, upC]; rfl)) ?_
      refine asg ?_
      refine tv ?_
      refine CWp.seq ?_
      refine sr ?_
      refine mv ?_
      refine Walk.ltI .none rfl rfl rfl ?_
      refine mv ?_
      refine sp 58 ?_ ?_
      ·intro h6; have ⟨h6p, h6s⟩ := dup h6; try simp only [Q5] at h6s
       try simp only [Q] at h6p
       refine ps h6 ?_
       refine ps h6 ?_
       refine ps h6 ?_
       refine ps h6 ?_
       refine Walk.pickT .none rfl rfl h6 rfl ?_
       refine tv ?_
       refine cd ?_ ?_
       ·intro h7; have ⟨h7p, h7s⟩ := dup h7; try simp only [Q5] at h7s
        try simp only [Q] at h7p
        refine sr ?_
        refine asg ?_
        refine tv ?_
        refine CWp.ret ?_
        refine ⟨_, _, [], (.cons (.tmp rfl) .nil), (.eqd ?_), ⟨rfl, rfl⟩, HSub.nil, noBox⟩
        all_goals (first | rfl | (exfalso; simp_all [patEq_refl]; done) | (exfalso; simp [patEq_refl] at *; omega))
       ·exact fun h => absurd h (by simp)
      ·intro h6; have ⟨h6p, h6s⟩ := dup h6; try simp only [Q5] at h6s
       try simp only [Q] at h6p
       refine Walk.move (.some rfl rfl h6) rfl rfl ?_
       refine Walk.move (.some rfl rfl h6) rfl rfl ?_
       refine Walk.lend (cr := []) (lr := [(1, _)]) cal14 (laws_eqTypeS_fn (by omega)) rfl (.some rfl rfl h6) rfl rfl (.cons (.ms (k := 2) List.mem_cons_self (by intro x hx; obtain ⟨y, _, rfl⟩ := List.mem_map.1 hx; rfl) (by first | rfl | (simp [mkL_len, Pat.cs_len]; done))) (.cons (.le (.refl _)) .nil)) ⟨rfl, trivial⟩ rfl (by first | rfl | (simp only [okLend, flatR_own, flatA, AV.ids]; rfl)) (by first | rfl | (simp only [freshB, occH, occE, Res.ids, List.cons_append, List.nil_append, AV.idsL, AV.ids, idsL_append, ownCells_ids, zerosA_idsR, repNil, List.map_cons, List.map_nil, upC]; rfl)) ?_
       refine Walk.not (.some rfl rfl h6) rfl rfl ?_
       refine Walk.pickF .none rfl rfl h6 rfl ?_
       refine tv ?_
       refine cd ?_ ?_
       ·intro h8; have ⟨h8p, h8s⟩ := dup h8; try simp only [Q5] at h8s
        try simp only [Q] at h8p
        refine sr ?_
        refine asg ?_
        refine tv ?_
        refine CWp.ret ?_
        refine ⟨_, _, [], (.cons (.tmp rfl) .nil), (.eqd ?_), ⟨rfl, rfl⟩, HSub.nil, noBox⟩
        all_goals (first | rfl | (exfalso; simp_all [patEq_refl]; done) | (exfalso; simp [patEq_refl] at *; omega))
       ·intro h8; have ⟨h8p, h8s⟩ := dup h8; try simp only [Q5] at h8s
        try simp only [Q] at h8p
        refine CWp.skip ?_
        refine sr ?_
        refine asg ?_
        refine tv ?_
        refine sr ?_
        refine mv ?_
        refine mv ?_
        refine Walk.call (cr := []) cal17 (markTypeS_1 (m := true) (l := typesOfP w p) (k := 1) (by omega) (by omega) (by omega)) rfl .none rfl rfl (.cons (LeA.msn (by first | rfl | (simp [Pat.cs_len]; done))) (.cons (.refl _) .nil)) ⟨rfl, trivial⟩ rfl (by first | rfl | (simp only [okCall, List.all_cons, List.all_nil, entOK, entOK', AV.idsL, AV.ids, idsL_append, ownCells_ids, List.map_cons, List.map_nil]; rfl)) (by first | rfl | (simp only [freshB, occH, occE, Res.ids, List.cons_append, List.nil_append, AV.idsL, AV.ids, idsL_append, ownCells_ids, zerosA_idsR, repNil, List.map_cons, List.map_nil, upC]; rfl)) ?_
        refine asg ?_
        refine tv ?_
        refine sr ?_
        refine asg ?_
        refine tv ?_
        refine sr ?_
        refine mv ?_
        refine mv ?_
        refine Walk.lend (cr := []) (lr := [(1, _)]) cal18 (laws_heldTypeS_fn (l := typesOfP w p) (k := 1) (by omega) (by omega) (by omega)) rfl .none rfl rfl (.cons (.ms (k := 2) List.mem_cons_self (by intro x hx; obtain ⟨y, _, rfl⟩ := List.mem_map.1 hx; rfl) (by first | rfl | (simp [mkL_len, Pat.cs_len]; done))) (.cons (.le (.refl _)) .nil)) ⟨rfl, trivial⟩ rfl (by first | rfl | (simp only [okLend, flatR_own, flatA, AV.ids]; rfl)) (by first | rfl | (simp only [freshB, occH, occE, Res.ids, List.cons_append, List.nil_append, AV.idsL, AV.ids, idsL_append, ownCells_ids, zerosA_idsR, repNil, List.map_cons, List.map_nil, upC]; rfl)) ?_
        refine asg ?_
        refine tv ?_
        refine CWp.seq ?_
        refine sr ?_
        refine mv ?_
        refine Walk.ltI .none rfl rfl rfl ?_
        refine tv ?_
        refine cd ?_ ?_
        ·intro h9; have ⟨h9p, h9s⟩ := dup h9; try simp only [Q5] at h9s
         try simp only [Q] at h9p
         refine sr ?_
         refine asg ?_
         refine tv ?_
         refine CWp.ret ?_
         refine ⟨_, _, [], (.cons (.tmp rfl) .nil), (.eqd ?_), ⟨rfl, rfl⟩, HSub.nil, noBox⟩
         all_goals (first | rfl | (exfalso; simp_all [patEq_refl]; done) | (exfalso; simp [patEq_refl] at *; omega))
        ·intro h9; have ⟨h9p, h9s⟩ := dup h9; try simp only [Q5] at h9s
         try simp only [Q] at h9p
         refine CWp.skip ?_
         refine CWp.seq ?_
         refine sr ?_
         refine mv ?_
         refine mv ?_
         refine Walk.neI .none rfl rfl rfl ?_
         refine tv ?_
         refine cd ?_ ?_
         ·intro h10; have ⟨h10p, h10s⟩ := dup h10; try simp only [Q5] at h10s
          try simp only [Q] at h10p
          refine sr ?_
          refine asg ?_
          refine tv ?_
          refine CWp.ret ?_
          refine ⟨_, _, [], (.cons (.tmp rfl) .nil), (.eqd ?_), ⟨rfl, rfl⟩, HSub.nil, noBox⟩
          all_goals (first | rfl | (exfalso; simp_all [patEq_refl]; done) | (exfalso; simp [patEq_refl] at *; omega))
         ·intro h10; have ⟨h10p, h10s⟩ := dup h10; try simp only [Q5] at h10s
          try simp only [Q] at h10p
          refine CWp.skip ?_
          refine CWp.seq ?_
          refine CWp.drawn mixed rfl ?_
          refine mv ?_
          refine Walk.call (cr := []) cal12 (laws_toDataS_fn hs) rfl .none rfl rfl (LeL.refl _) trivial rfl (by first | rfl | (simp only [okCall, List.all_cons, List.all_nil, entOK, entOK', AV.idsL, AV.ids, idsL_append, ownCells_ids, List.map_cons, List.map_nil]; rfl)) (by first | rfl | (simp only [freshB, occH, occE, Res.ids, List.cons_append, List.nil_append, AV.idsL, AV.ids, idsL_append, ownCells_ids, zerosA_idsR, repNil, List.map_cons, List.map_nil, upC]; rfl)) ?_
          refine Walk.loadBA ty65 .none rfl rfl rfl rfl ?_
          refine Walk.call (cr := []) cal38 (laws_toPattern_fn hok) rfl .none rfl rfl (LeL.refl _) trivial rfl (by first | rfl | (simp only [okCall, List.all_cons, List.all_nil, entOK, entOK', AV.idsL, AV.ids, idsL_append, ownCells_ids, List.map_cons, List.map_nil]; rfl)) (by first | rfl | (simp only [freshB, occH, occE, Res.ids, List.cons_append, List.nil_append, AV.idsL, AV.ids, idsL_append, ownCells_ids, zerosA_idsR, repNil, List.map_cons, List.map_nil, upC]; rfl)) ?_
          refine Walk.call (cr := []) cal39 (FnD.out_frz (k := 2) (by intro x hx; obtain ⟨y, _, rfl⟩ := List.mem_map.1 hx; rfl) (by simp [soleN]) (impl_TypesOfPattern_own hs hv hok)) rfl .none rfl rfl (LeL.refl _) trivial rfl (by first | rfl | (simp only [okCall, List.all_cons, List.all_nil, entOK, entOK', AV.idsL, AV.ids, idsL_append, ownCells_ids, List.map_cons, List.map_nil]; rfl)) (by first | rfl | (simp only [freshB, occH, occE, Res.ids, List.cons_append, List.nil_append, AV.idsL, AV.ids, idsL_append, ownCells_ids, zerosA_idsR, repNil, List.map_cons, List.map_nil, upC]; rfl)) ?_
          refine asg ?_
          refine ⟨by show _ = _; kernel_rfl, ?_⟩
          refine CWp.seq ?_
          refine sr ?_
          refine mv ?_
          refine mv ?_
          refine Walk.lend (cr := []) (lr := [(1, _)]) cal14 (laws_eqTypeS_fn (by omega)) rfl .none rfl rfl (.cons (.le (.refl _)) (.cons (.le (.refl _)) .nil)) ⟨rfl, trivial⟩ rfl (by first | rfl | (simp only [okLend, flatR_own, flatA, AV.ids]; rfl)) (by first | rfl | (simp only [freshB, occH, occE, Res.ids, List.cons_append, List.nil_append, AV.idsL, AV.ids, idsL_append, ownCells_ids, zerosA_idsR, repNil, List.map_cons, List.map_nil, upC]; rfl)) ?_
          refine Walk.not .none rfl rfl ?_
          refine tv ?_
          refine cd ?_ ?_
          ·intro h11; have ⟨h11p, h11s⟩ := dup h11; try simp only [Q5] at h11s
           try simp only [Q] at h11p
           refine sr ?_
           refine asg ?_
           refine tv ?_
           refine CWp.ret ?_
           refine ⟨_, _, [], (.cons (.tmp rfl) .nil), (.eqd ?_), ⟨rfl, rfl⟩, HSub.nil, noBox⟩
           all_goals (first | rfl | (exfalso; simp_all [patEq_refl]; done) | (exfalso; simp [patEq_refl] at *; omega))
          ·intro h11; have ⟨h11p, h11s⟩ := dup h11; try simp only [Q5] at h11s
           try simp only [Q] at h11p
           refine CWp.skip ?_
           refine sr ?_
           refine asg ?_
           refine tv ?_
           refine sr ?_
           refine mv ?_
           refine mv ?_
           refine Walk.lend (cr := []) (lr := [(1, _)]) cal18 (laws_heldTypeS_fn (l := typesOfP w p) (k := 1) (by omega) (by omega) (by omega)) rfl .none rfl rfl (.cons (.ms (k := 2) List.mem_cons_self (by intro x hx; obtain ⟨y, _, rfl⟩ := List.mem_map.1 hx; rfl) (by first | rfl | (simp [mkL_len, Pat.cs_len]; done))) (.cons (.le (.refl _)) .nil)) ⟨rfl, trivial⟩ rfl (by first | rfl | (simp only [okLend, flatR_own, flatA, AV.ids]; rfl)) (by first | rfl | (simp only [freshB, occH, occE, Res.ids, List.cons_append, List.nil_append, AV.idsL, AV.ids, idsL_append, ownCells_ids, zerosA_idsR, repNil, List.map_cons, List.map_nil, upC]; rfl)) ?_
           refine asg ?_
           refine tv ?_
           refine CWp.seq ?_
           refine sr ?_
           refine mv ?_
           refine Walk.ltI .none rfl rfl rfl ?_
           refine tv ?_
           refine cd ?_ ?_
           ·intro h12; have ⟨h12p, h12s⟩ := dup h12; try simp only [Q5] at h12s
            try simp only [Q] at h12p
            refine sr ?_
            refine asg ?_
            refine tv ?_
            refine CWp.ret ?_
            refine ⟨_, _, [], (.cons (.tmp rfl) .nil), (.eqd ?_), ⟨rfl, rfl⟩, HSub.nil, noBox⟩
            all_goals (first | rfl | (exfalso; simp_all [patEq_refl]; done) | (exfalso; simp [patEq_refl] at *; omega))
           ·intro h12; have ⟨h12p, h12s⟩ := dup h12; try simp only [Q5] at h12s
            try simp only [Q] at h12p
            refine CWp.skip ?_
            refine CWp.seq ?_
            refine sr ?_
            refine mv ?_
            refine mv ?_
            refine Walk.neI .none rfl rfl rfl ?_
            refine tv ?_
            refine cd ?_ ?_
            ·intro h13; have ⟨h13p, h13s⟩ := dup h13; try simp only [Q5] at h13s
             try simp only [Q] at h13p
             refine sr ?_
             refine asg ?_
             refine tv ?_
             refine CWp.ret ?_
             refine ⟨_, _, [], (.cons (.tmp rfl) .nil), (.eqd ?_), ⟨rfl, rfl⟩, HSub.nil, noBox⟩
             all_goals (first | rfl | (exfalso; simp_all [patEq_refl]; done) | (exfalso; simp [patEq_refl] at *; omega))
            ·intro h13; have ⟨h13p, h13s⟩ := dup h13; try simp only [Q5] at h13s
             try simp only [Q] at h13p
             refine CWp.skip ?_
             refine sr ?_
             refine asg ?_
             refine tv ?_
             refine CWp.ret ?_
             refine ⟨_, _, [], (.cons (.tmp rfl) .nil), (.eqd ?_), ⟨rfl, rfl⟩, HSub.nil, noBox⟩
             all_goals (first | rfl | (exfalso; simp_all [patEq_refl]; done) | (exfalso; simp [patEq_refl] at *; omega))
theorem laws_FnExactTypesOfPattern_bad {w : List Data} (hs : WSmall w) (hv : worldValid w = false) {p : Pat} (hok : p.ok) (hsz : p.size ≤ 1000000000000) : FnD Try.prog 9 [.d (encDatas w), .agg [.d (.i p.op), .d (.i p.ctor), .d (.i p.n), .d (.i p.m), .d (.i p.var), .d (encPats p.kids)]] [] (.d (.bool true)) [] := by
 have hspec := spec_TypesOfPattern_fn hs hok hsz
 rw [typesOfP, if_neg (by rw [hv]; simp)] at hspec
 have z := szr_or (left := 1048576) (mDatas w)
 have z2 := szr_or (left := szr 1048576 (mDatas w)) (mPat p)
 have hbd := szL_datas_le w
 have hnn := szL_nonneg (l := w) Data.sz_nn
 have hvb := Pats.szM_le p.kids
 have hvn := Pats.szM_nn p.kids
 rw [Pats.szM_eq] at hvb hvn
 rw [← mPat_eq] at hvb
 refine Fn.body (fn := Try.f9) (n := 92) rfl rfl rfl rfl rfl (fun w0 F0 own kept hk => ?_)
 refine sr ?_
 refine Walk.box (id := 3003) .none rfl rfl rfl rfl rfl rfl rfl ?_
 refine asg ?_
 refine tv ?_
 refine sr ?_
 refine asg ?_
 refine tv ?_
 refine sr ?_
 refine mv ?_
 refine mv ?_
 refine Walk.call (cr := []) cal10 (laws_szDataS_fn hs (by omega) (by omega)) rfl .none rfl rfl (LeL.refl _) trivial rfl rfl rfl ?_
 refine asg ?_
 refine tv ?_
 refine CWp.seq ?_
 refine sr ?_
 refine mv ?_
 refine Walk.ltI .none rfl rfl rfl ?_
 refine tv ?_
 refine cd ?_ ?_
 ·intro h1; have ⟨h1p, h1s⟩ := dup h1; try simp only [Q5] at h1s
  try simp only [Q] at h1p
  refine sr ?_
  refine asg ?_
  refine tv ?_
  refine CWp.ret ?_
  refine ⟨_, _, [], (.cons (.tmp rfl) .nil), (.eqd ?_), ⟨rfl, rfl⟩, HSub.nil, noBox⟩
  all_goals (first | rfl | (exfalso; simp_all [patEq_refl, szL]; done) | (exfalso; simp [patEq_refl, szL] at *; omega))
 ·intro h1; have ⟨h1p, h1s⟩ := dup h1; try simp only [Q5] at h1s
  try simp only [Q] at h1p
  refine CWp.skip ?_
  refine sr ?_
  refine Walk.loadBA ty65 .none rfl rfl rfl rfl ?_
  refine mv ?_
  refine Walk.call (cr := []) cal36 (laws_szPattern_fn _ (Nat.le_refl _) hok (by omega) (by omega)) rfl .none rfl rfl (LeL.refl _) trivial rfl rfl rfl ?_
  refine asg ?_
  refine tv ?_
  refine CWp.seq ?_
  refine sr ?_
  refine mv ?_
  refine Walk.ltI .none rfl rfl rfl ?_
  refine tv ?_
  refine cd ?_ ?_
  ·intro h2; have ⟨h2p, h2s⟩ := dup h2; try simp only [Q5] at h2s
   try simp only [Q] at h2p
   refine sr ?_
   refine asg ?_
   refine tv ?_
   refine CWp.ret ?_
   refine ⟨_, _, [], (.cons (.tmp rfl) .nil), (.eqd ?_), ⟨rfl, rfl⟩, HSub.nil, noBox⟩
   all_goals (first | rfl | (exfalso; simp_all [patEq_refl, szL]; done) | (exfalso; simp [patEq_refl, szL] at *; omega))
  ·intro h2; have ⟨h2p, h2s⟩ := dup h2; try simp only [Q5] at h2s
   try simp only [Q] at h2p
   refine CWp.skip ?_
   refine CWp.seq ?_
   refine CWp.drawn mixed rfl ?_
   refine mv ?_
   refine Walk.call (cr := []) cal12 (laws_toDataS_fn hs) rfl .none rfl rfl (LeL.refl _) trivial rfl rfl rfl ?_
   refine Walk.loadBA ty65 .none rfl rfl rfl rfl ?_
   refine Walk.call (cr := []) cal38 (laws_toPattern_fn hok) rfl .none rfl rfl (LeL.refl _) trivial rfl rfl rfl ?_
   refine Walk.call (cr := []) cal37 (hspec) rfl .none rfl rfl (LeL.refl _) trivial rfl rfl rfl ?_
   refine asg ?_
   refine ⟨by show _ = _; kernel_rfl, ?_⟩
   refine sr ?_
   refine mv ?_
   refine Walk.call (cr := [63]) cal12 (laws_toDataS_tr hs) rfl .none rfl rfl (LeL.refl _) trivial rfl (by first | rfl | (simp only [okCall, List.all_cons, List.all_nil, entOK, entOK', AV.idsL, AV.ids, idsL_append, ownCells_ids, List.map_cons, List.map_nil]; rfl)) (by first | rfl | (simp only [freshB, occH, occE, Res.ids, List.cons_append, List.nil_append, AV.idsL, AV.ids, idsL_append, ownCells_ids, zerosA_idsR, repNil, List.map_cons, List.map_nil, upC]; rfl)) ?_
   refine asg ?_
   refine tv ?_
   refine sr ?_
   refine Walk.loadBA ty65 .none rfl rfl rfl rfl ?_
   refine Walk.call (cr := [66]) cal38 (laws_toPattern_tr _ (Nat.le_refl _) hok) rfl .none rfl rfl (LeL.refl _) trivial rfl (by first | rfl | (simp only [okCall, List.all_cons, List.all_nil, entOK, entOK', AV.idsL, AV.ids, idsL_append, ownCells_ids, List.map_cons, List.map_nil]; rfl)) (by first | rfl | (simp only [freshB, occH, occE, Res.ids, List.cons_append, List.nil_append, AV.idsL, AV.ids, idsL_append, ownCells_ids, zerosA_idsR, repNil, List.map_cons, List.map_nil, upC]; rfl)) ?_
   refine Walk.alloc (id := 3008) tz70 rfl .none rfl (by first | rfl | (simp only [freshB, occH, occE, Res.ids, List.cons_append, List.nil_append, AV.idsL, AV.ids, idsL_append, ownCells_ids, zerosA_idsR, repNil, List.map_cons, List.map_nil, upC]; rfl)) (by first | rfl | (simp only [freshB, occH, occE, Res.ids, List.cons_append, List.nil_append, AV.idsL, AV.ids, idsL_append, ownCells_ids, zerosA_idsR, repNil, List.map_cons, List.map_nil, upC]; rfl)) (by first | rfl | (simp only [freshB, occH, occE, Res.ids, List.cons_append, List.nil_append, AV.idsL, AV.ids, idsL_append, ownCells_ids, zerosA_idsR, repNil, List.map_cons, List.map_nil, upC]; rfl)) ?_
   refine Walk.store ty70 .none rfl rfl rfl rfl rfl rfl (by simp) rfl ?_
   refine tv ?_
   refine sr ?_
   refine mv ?_
   refine Walk.loadBA ty70 .none rfl rfl rfl rfl ?_
   refine Walk.lend (cr := []) (lr := [(63, _), (66, _)]) cal39 (impl_TypesOfPattern_bad hs hv hok) rfl .none rfl rfl (.cons (.ms (k := 2) List.mem_cons_self (by intro x hx; obtain ⟨y, _, rfl⟩ := List.mem_map.1 hx; rfl) (by first | rfl | (simp [mkL_len, Pat.cs_len]; done))) (.cons (.agg (.cons (.le (.refl _)) (.cons (.le (.refl _)) (.cons (.le (.refl _)) (.cons (.le (.refl _)) (.cons (.le (.refl _)) (.cons (.ms (k := 6) (List.mem_cons_of_mem _ List.mem_cons_self) Pat.cs_rows (by first | rfl | (simp [mkL_len, Pat.cs_len]; done))) .nil))))))) .nil)) ⟨rfl, ⟨rfl, trivial⟩⟩ rfl (by first | rfl | (simp only [okLend, flatR_own, flatA, AV.ids]; rfl)) (by first | rfl | (simp only [freshB, occH, occE, Res.ids, List.cons_append, List.nil_append, AV.idsL, AV.ids, idsL_append, ownCells_ids, zerosA_idsR, repNil, List.map_cons, List.map_nil, upC]; rfl)) ?_
   refine asg ?_
   refine tv ?_
   refine CWp.seq ?_
   refine sr ?_
   refine mv ?_
   refine mv ?_
   refine Walk.call (cr := []) cal14 (laws_eqTypeS_fn (l := []) (m := []) (by simp)) rfl .none rfl rfl (LeL.refl _) trivial rfl (by first | rfl | (simp only [okCall, List.all_cons, List.all_nil, entOK, entOK', AV.idsL, AV.ids, idsL_append, ownCells_ids, List.map_cons, List.map_nil]; rfl)) (by first | rfl | (simp only [freshB, occH, occE, Res.ids, List.cons_append, List.nil_append, AV.idsL, AV.ids, idsL_append, ownCells_ids, zerosA_idsR, repNil, List.map_cons, List.map_nil, upC]; rfl)) ?_
   refine Walk.not .none rfl rfl ?_
   refine tv ?_
   refine cd ?_ ?_
   ·intro h3; have ⟨h3p, h3s⟩ := dup h3; try simp only [Q5] at h3s
    try simp only [Q] at h3p
    refine sr ?_
    refine asg ?_
    refine tv ?_
    refine CWp.ret ?_
    refine ⟨_, _, [], (.cons (.tmp rfl) .nil), (.eqd ?_), ⟨rfl, rfl⟩, HSub.nil, noBox⟩
    all_goals (first | rfl | (exfalso; simp_all [patEq_refl, szL]; done) | (exfalso; simp [patEq_refl, szL] at *; omega))
   ·intro h3; have ⟨h3p, h3s⟩ := dup h3; try simp only [Q5] at h3s
    try simp only [Q] at h3p
    refine CWp.skip ?_
    refine CWp.seq ?_
    refine sr ?_
    refine mv ?_
    refine mv ?_
    refine Walk.call (cr := []) cal12 (laws_toDataS_fn hs) rfl .none rfl rfl (LeL.refl _) trivial rfl (by first | rfl | (simp only [okCall, List.all_cons, List.all_nil, entOK, entOK', AV.idsL, AV.ids, idsL_append, ownCells_ids, List.map_cons, List.map_nil]; rfl)) (by first | rfl | (simp only [freshB, occH, occE, Res.ids, List.cons_append, List.nil_append, AV.idsL, AV.ids, idsL_append, ownCells_ids, zerosA_idsR, repNil, List.map_cons, List.map_nil, upC]; rfl)) ?_
    refine Walk.lend (cr := []) (lr := [(63, _)]) cal15 (laws_eqDataS_fn hs) rfl .none rfl rfl (.cons (.ms (k := 2) List.mem_cons_self (by intro x hx; obtain ⟨y, _, rfl⟩ := List.mem_map.1 hx; rfl) (by first | rfl | (simp [mkL_len, Pat.cs_len]; done))) (.cons (.le (.refl _)) .nil)) ⟨rfl, trivial⟩ rfl (by first | rfl | (simp only [okLend, flatR_own, flatA, AV.ids]; rfl)) (by first | rfl | (simp only [freshB, occH, occE, Res.ids, List.cons_append, List.nil_append, AV.idsL, AV.ids, idsL_append, ownCells_ids, zerosA_idsR, repNil, List.map_cons, List.map_nil, upC]; rfl)) ?_
    refine Walk.not .none rfl rfl ?_
    refine tv ?_
    refine cd ?_ ?_
    ·intro h4; have ⟨h4p, h4s⟩ := dup h4; try simp only [Q5] at h4s
     try simp only [Q] at h4p
     refine sr ?_
     refine asg ?_
     refine tv ?_
     refine CWp.ret ?_
     refine ⟨_, _, [], (.cons (.tmp rfl) .nil), (.eqd ?_), ⟨rfl, rfl⟩, HSub.nil, noBox⟩
     all_goals (first | rfl | (exfalso; simp_all [patEq_refl, szL]; done) | (exfalso; simp [patEq_refl, szL] at *; omega))
    ·intro h4; have ⟨h4p, h4s⟩ := dup h4; try simp only [Q5] at h4s
     try simp only [Q] at h4p
     refine CWp.skip ?_
     refine CWp.seq ?_
     refine CWp.seq ?_
     refine CWp.drawn mixed rfl ?_
     refine Walk.loadBA ty70 .none rfl rfl rfl rfl ?_
     refine Walk.loadBA ty65 .none rfl rfl rfl rfl ?_
     refine Walk.call (cr := []) cal38 (laws_toPattern_fn hok) rfl .none rfl rfl (LeL.refl _) trivial rfl (by first | rfl | (simp only [okCall, List.all_cons, List.all_nil, entOK, entOK', AV.idsL, AV.ids, idsL_append, ownCells_ids, List.map_cons, List.map_nil]; rfl)) (by first | rfl | (simp only [freshB, occH, occE, Res.ids, List.cons_append, List.nil_append, AV.idsL, AV.ids, idsL_append, ownCells_ids, zerosA_idsR, repNil, List.map_cons, List.map_nil, upC]; rfl)) ?_
     refine Walk.lend (cr := []) (lr := [(66, _)]) cal40 (laws_eqPattern_fn _ (Nat.le_refl _) hok) rfl .none rfl rfl (.cons (.agg (.cons (.le (.refl _)) (.cons (.le (.refl _)) (.cons (.le (.refl _)) (.cons (.le (.refl _)) (.cons (.le (.refl _)) (.cons (.ms (k := 6) List.mem_cons_self Pat.cs_rows (by first | rfl | (simp [mkL_len, Pat.cs_len]; done))) .nil))))))) (.cons (.le (.refl _)) .nil)) ⟨rfl, trivial⟩ rfl (by first | rfl | (simp only [okLend, flatR_own, flatA, AV.ids]; rfl)) (by first | rfl | (simp only [freshB, occH, occE, Res.ids, List.cons_append, List.nil_append, AV.idsL, AV.ids, idsL_append, ownCells_ids, zerosA_idsR, repNil, List.map_cons, List.map_nil, upC]; rfl)) ?_
     refine Walk.not .none rfl rfl ?_
     refine ⟨by show _ = _; kernel_rfl, ?_⟩
     refine cd ?_ ?_
     ·intro h5; have ⟨h5p, h5s⟩ := dup h5; try simp only [Q5] at h5s
      try simp only [Q] at h5p
      refine sr ?_
      refine asg ?_
      refine tv ?_
      refine CWp.ret ?_
      refine ⟨_, _, [], (.cons (.tmp rfl) .nil), (.eqd ?_), ⟨rfl, rfl⟩, HSub.nil, noBox⟩
      all_goals (first | rfl | (exfalso; simp_all [patEq_refl, szL]; done) | (exfalso; simp [patEq_refl, szL] at *; omega))
     ·intro h5; have ⟨h5p, h5s⟩ := dup h5; try simp only [Q5] at h5s
      try simp only [Q] at h5p
      refine CWp.skip ?_
      refine sr ?_
      refine asg ?_
      refine tv ?_
      refine sr ?_
      refine mv ?_
      refine mv ?_
      refine Walk.call (cr := []) cal16 (markDataS_63 (l := w) (k := 1) (by omega) (by omega) hs) rfl .none rfl rfl (.cons (LeA.msn (by first | rfl | (simp [Pat.cs_len]; done))) (.cons (.refl _) .nil)) ⟨rfl, trivial⟩ rfl (by first | rfl | (simp only [okCall, List.all_cons, List.all_nil, entOK, entOK', AV.idsL, AV.ids, idsL_append, ownCells_ids, List.map_cons, List.map_nil]; rfl)) (by first | rfl | (simp only [freshB, occH, occE, Res.ids, List.cons_append, List.nil_append, AV.idsL, AV.ids, idsL_append, ownCells_ids, zerosA_idsR, repNil, List.map_cons, List.map_nil, upC]; rfl)) ?_
      refine asg ?_
      refine tv ?_
      refine sr ?_
      refine Walk.loadBA ty70 .none rfl rfl rfl rfl ?_
      refine mv ?_
      refine Walk.call (cr := []) cal41 (markPattern_66 (p := p) (k := 1 + szL Data.sz w) (by omega) (by omega) hok) rfl .none rfl rfl (.cons (.agg (.cons (.refl _) (.cons (.refl _) (.cons (.refl _) (.cons (.refl _) (.cons (.refl _) (.cons (LeA.msn (by first | rfl | (simp [Pat.cs_len]; done))) .nil))))))) (.cons (.refl _) .nil)) ⟨rfl, trivial⟩ rfl (by first | rfl | (simp only [okCall, List.all_cons, List.all_nil, entOK, entOK', AV.idsL, AV.ids, idsL_append, ownCells_ids, List.map_cons, List.map_nil]; rfl)) (by first | rfl | (simp only [freshB, occH, occE, Res.ids, List.cons_append, List.nil_append, AV.idsL, AV.ids, idsL_append, ownCells_ids, zerosA_idsR, repNil, List.map_cons, List.map_nil, upC]; rfl)) ?_
      refine asg ?_
      refine tv ?_
      refine CWp.seq ?_
      refine sr ?_
      refine mv ?_
      refine Walk.ltI .none rfl rfl rfl ?_
      refine mv ?_
      refine sp 58 ?_ ?_
      ·intro h6; have ⟨h6p, h6s⟩ := dup h6; try simp only [Q5] at h6s
       try simp only [Q] at h6p
       refine ps h6 ?_
       refine ps h6 ?_
       refine ps h6 ?_
       refine ps h6 ?_
       refine Walk.pickT .none rfl rfl h6 rfl ?_
       refine tv ?_
       refine cd ?_ ?_
       ·intro h7; have ⟨h7p, h7s⟩ := dup h7; try simp only [Q5] at h7s
        try simp only [Q] at h7p
        refine sr ?_
        refine asg ?_
        refine tv ?_
        refine CWp.ret ?_
        refine ⟨_, _, [], (.cons (.tmp rfl) .nil), (.eqd ?_), ⟨rfl, rfl⟩, HSub.nil, noBox⟩
        all_goals (first | rfl | (exfalso; simp_all [patEq_refl, szL]; done) | (exfalso; simp [patEq_refl, szL] at *; omega))
       ·exact fun h => absurd h (by simp)
      ·intro h6; have ⟨h6p, h6s⟩ := dup h6; try simp only [Q5] at h6s
       try simp only [Q] at h6p
       refine Walk.move (.some rfl rfl h6) rfl rfl ?_
       refine Walk.move (.some rfl rfl h6) rfl rfl ?_
       refine Walk.call (cr := []) cal14 (laws_eqTypeS_fn (l := []) (m := []) (by simp)) rfl (.some rfl rfl h6) rfl rfl (LeL.refl _) trivial rfl (by first | rfl | (simp only [okCall, List.all_cons, List.all_nil, entOK, entOK', AV.idsL, AV.ids, idsL_append, ownCells_ids, List.map_cons, List.map_nil]; rfl)) (by first | rfl | (simp only [freshB, occH, occE, Res.ids, List.cons_append, List.nil_append, AV.idsL, AV.ids, idsL_append, ownCells_ids, zerosA_idsR, repNil, List.map_cons, List.map_nil, upC]; rfl)) ?_
       refine Walk.not (.some rfl rfl h6) rfl rfl ?_
       refine Walk.pickF .none rfl rfl h6 rfl ?_
       refine tv ?_
       refine cd ?_ ?_
       ·intro h8; have ⟨h8p, h8s⟩ := dup h8; try simp only [Q5] at h8s
        try simp only [Q] at h8p
        refine sr ?_
        refine asg ?_
        refine tv ?_
        refine CWp.ret ?_
        refine ⟨_, _, [], (.cons (.tmp rfl) .nil), (.eqd ?_), ⟨rfl, rfl⟩, HSub.nil, noBox⟩
        all_goals (first | rfl | (exfalso; simp_all [patEq_refl, szL]; done) | (exfalso; simp [patEq_refl, szL] at *; omega))
       ·intro h8; have ⟨h8p, h8s⟩ := dup h8; try simp only [Q5] at h8s
        try simp only [Q] at h8p
        refine CWp.skip ?_
        refine sr ?_
        refine asg ?_
        refine tv ?_
        refine sr ?_
        refine mv ?_
        refine mv ?_
        refine Walk.call (cr := []) cal17 (laws_markTypeS_nil (l := []) rfl) rfl .none rfl rfl (LeL.refl _) trivial rfl (by first | rfl | (simp only [okCall, List.all_cons, List.all_nil, entOK, entOK', AV.idsL, AV.ids, idsL_append, ownCells_ids, List.map_cons, List.map_nil]; rfl)) (by first | rfl | (simp only [freshB, occH, occE, Res.ids, List.cons_append, List.nil_append, AV.idsL, AV.ids, idsL_append, ownCells_ids, zerosA_idsR, repNil, List.map_cons, List.map_nil, upC]; rfl)) ?_
        refine asg ?_
        refine tv ?_
        refine sr ?_
        refine asg ?_
        refine tv ?_
        refine sr ?_
        refine mv ?_
        refine mv ?_
        refine Walk.call (cr := []) cal18 (laws_heldTypeS_fn (l := []) (k := 1) (by omega) (by simp [szL]) (by simp)) rfl .none rfl rfl (LeL.refl _) trivial rfl (by first | rfl | (simp only [okCall, List.all_cons, List.all_nil, entOK, entOK', AV.idsL, AV.ids, idsL_append, ownCells_ids, List.map_cons, List.map_nil]; rfl)) (by first | rfl | (simp only [freshB, occH, occE, Res.ids, List.cons_append, List.nil_append, AV.idsL, AV.ids, idsL_append, ownCells_ids, zerosA_idsR, repNil, List.map_cons, List.map_nil, upC]; rfl)) ?_
        refine asg ?_
        refine tv ?_
        refine CWp.seq ?_
        refine sr ?_
        refine mv ?_
        refine Walk.ltI .none rfl rfl rfl ?_
        refine tv ?_
        refine cd ?_ ?_
        ·intro h9; have ⟨h9p, h9s⟩ := dup h9; try simp only [Q5] at h9s
         try simp only [Q] at h9p
         refine sr ?_
         refine asg ?_
         refine tv ?_
         refine CWp.ret ?_
         refine ⟨_, _, [], (.cons (.tmp rfl) .nil), (.eqd ?_), ⟨rfl, rfl⟩, HSub.nil, noBox⟩
         all_goals (first | rfl | (exfalso; simp_all [patEq_refl, szL]; done) | (exfalso; simp [patEq_refl, szL] at *; omega))
        ·intro h9; have ⟨h9p, h9s⟩ := dup h9; try simp only [Q5] at h9s
         try simp only [Q] at h9p
         refine CWp.skip ?_
         refine CWp.seq ?_
         refine sr ?_
         refine mv ?_
         refine mv ?_
         refine Walk.neI .none rfl rfl rfl ?_
         refine tv ?_
         refine cd ?_ ?_
         ·intro h10; have ⟨h10p, h10s⟩ := dup h10; try simp only [Q5] at h10s
          try simp only [Q] at h10p
          refine sr ?_
          refine asg ?_
          refine tv ?_
          refine CWp.ret ?_
          refine ⟨_, _, [], (.cons (.tmp rfl) .nil), (.eqd ?_), ⟨rfl, rfl⟩, HSub.nil, noBox⟩
          all_goals (first | rfl | (exfalso; simp_all [patEq_refl, szL]; done) | (exfalso; simp [patEq_refl, szL] at *; omega))
         ·intro h10; have ⟨h10p, h10s⟩ := dup h10; try simp only [Q5] at h10s
          try simp only [Q] at h10p
          refine CWp.skip ?_
          refine CWp.seq ?_
          refine CWp.drawn mixed rfl ?_
          refine mv ?_
          refine Walk.call (cr := []) cal12 (laws_toDataS_fn hs) rfl .none rfl rfl (LeL.refl _) trivial rfl (by first | rfl | (simp only [okCall, List.all_cons, List.all_nil, entOK, entOK', AV.idsL, AV.ids, idsL_append, ownCells_ids, List.map_cons, List.map_nil]; rfl)) (by first | rfl | (simp only [freshB, occH, occE, Res.ids, List.cons_append, List.nil_append, AV.idsL, AV.ids, idsL_append, ownCells_ids, zerosA_idsR, repNil, List.map_cons, List.map_nil, upC]; rfl)) ?_
          refine Walk.loadBA ty65 .none rfl rfl rfl rfl ?_
          refine Walk.call (cr := []) cal38 (laws_toPattern_fn hok) rfl .none rfl rfl (LeL.refl _) trivial rfl (by first | rfl | (simp only [okCall, List.all_cons, List.all_nil, entOK, entOK', AV.idsL, AV.ids, idsL_append, ownCells_ids, List.map_cons, List.map_nil]; rfl)) (by first | rfl | (simp only [freshB, occH, occE, Res.ids, List.cons_append, List.nil_append, AV.idsL, AV.ids, idsL_append, ownCells_ids, zerosA_idsR, repNil, List.map_cons, List.map_nil, upC]; rfl)) ?_
          refine Walk.call (cr := []) cal39 (impl_TypesOfPattern_bad hs hv hok) rfl .none rfl rfl (LeL.refl _) trivial rfl (by first | rfl | (simp only [okCall, List.all_cons, List.all_nil, entOK, entOK', AV.idsL, AV.ids, idsL_append, ownCells_ids, List.map_cons, List.map_nil]; rfl)) (by first | rfl | (simp only [freshB, occH, occE, Res.ids, List.cons_append, List.nil_append, AV.idsL, AV.ids, idsL_append, ownCells_ids, zerosA_idsR, repNil, List.map_cons, List.map_nil, upC]; rfl)) ?_
          refine asg ?_
          refine ⟨by show _ = _; kernel_rfl, ?_⟩
          refine CWp.seq ?_
          refine sr ?_
          refine mv ?_
          refine mv ?_
          refine Walk.call (cr := []) cal14 (laws_eqTypeS_fn (l := []) (m := []) (by simp)) rfl .none rfl rfl (LeL.refl _) trivial rfl (by first | rfl | (simp only [okCall, List.all_cons, List.all_nil, entOK, entOK', AV.idsL, AV.ids, idsL_append, ownCells_ids, List.map_cons, List.map_nil]; rfl)) (by first | rfl | (simp only [freshB, occH, occE, Res.ids, List.cons_append, List.nil_append, AV.idsL, AV.ids, idsL_append, ownCells_ids, zerosA_idsR, repNil, List.map_cons, List.map_nil, upC]; rfl)) ?_
          refine Walk.not .none rfl rfl ?_
          refine tv ?_
          refine cd ?_ ?_
          ·intro h11; have ⟨h11p, h11s⟩ := dup h11; try simp only [Q5] at h11s
           try simp only [Q] at h11p
           refine sr ?_
           refine asg ?_
           refine tv ?_
           refine CWp.ret ?_
           refine ⟨_, _, [], (.cons (.tmp rfl) .nil), (.eqd ?_), ⟨rfl, rfl⟩, HSub.nil, noBox⟩
           all_goals (first | rfl | (exfalso; simp_all [patEq_refl, szL]; done) | (exfalso; simp [patEq_refl, szL] at *; omega))
          ·intro h11; have ⟨h11p, h11s⟩ := dup h11; try simp only [Q5] at h11s
           try simp only [Q] at h11p
           refine CWp.skip ?_
           refine sr ?_
           refine asg ?_
           refine tv ?_
           refine sr ?_
           refine mv ?_
           refine mv ?_
           refine Walk.call (cr := []) cal18 (laws_heldTypeS_fn (l := []) (k := 1) (by omega) (by simp [szL]) (by simp)) rfl .none rfl rfl (LeL.refl _) trivial rfl (by first | rfl | (simp only [okCall, List.all_cons, List.all_nil, entOK, entOK', AV.idsL, AV.ids, idsL_append, ownCells_ids, List.map_cons, List.map_nil]; rfl)) (by first | rfl | (simp only [freshB, occH, occE, Res.ids, List.cons_append, List.nil_append, AV.idsL, AV.ids, idsL_append, ownCells_ids, zerosA_idsR, repNil, List.map_cons, List.map_nil, upC]; rfl)) ?_
           refine asg ?_
           refine tv ?_
           refine CWp.seq ?_
           refine sr ?_
           refine mv ?_
           refine Walk.ltI .none rfl rfl rfl ?_
           refine tv ?_
           refine cd ?_ ?_
           ·intro h12; have ⟨h12p, h12s⟩ := dup h12; try simp only [Q5] at h12s
            try simp only [Q] at h12p
            refine sr ?_
            refine asg ?_
            refine tv ?_
            refine CWp.ret ?_
            refine ⟨_, _, [], (.cons (.tmp rfl) .nil), (.eqd ?_), ⟨rfl, rfl⟩, HSub.nil, noBox⟩
            all_goals (first | rfl | (exfalso; simp_all [patEq_refl, szL]; done) | (exfalso; simp [patEq_refl, szL] at *; omega))
           ·intro h12; have ⟨h12p, h12s⟩ := dup h12; try simp only [Q5] at h12s
            try simp only [Q] at h12p
            refine CWp.skip ?_
            refine CWp.seq ?_
            refine sr ?_
            refine mv ?_
            refine mv ?_
            refine Walk.neI .none rfl rfl rfl ?_
            refine tv ?_
            refine cd ?_ ?_
            ·intro h13; have ⟨h13p, h13s⟩ := dup h13; try simp only [Q5] at h13s
             try simp only [Q] at h13p
             refine sr ?_
             refine asg ?_
             refine tv ?_
             refine CWp.ret ?_
             refine ⟨_, _, [], (.cons (.tmp rfl) .nil), (.eqd ?_), ⟨rfl, rfl⟩, HSub.nil, noBox⟩
             all_goals (first | rfl | (exfalso; simp_all [patEq_refl, szL]; done) | (exfalso; simp [patEq_refl, szL] at *; omega))
            ·intro h13; have ⟨h13p, h13s⟩ := dup h13; try simp only [Q5] at h13s
             try simp only [Q] at h13p
             refine CWp.skip ?_
             refine sr ?_
             refine asg ?_
             refine tv ?_
             refine CWp.ret ?_
             refine ⟨_, _, [], (.cons (.tmp rfl) .nil), (.eqd ?_), ⟨rfl, rfl⟩, HSub.nil, noBox⟩
             all_goals (first | rfl | (exfalso; simp_all [patEq_refl, szL]; done) | (exfalso; simp [patEq_refl, szL] at *; omega))
theorem laws_FnExactTypesOfPattern_fn {w : List Data} (hs : WSmall w) {p : Pat} (hok : p.ok) (hsz : p.size ≤ 1000000000000) : FnD Try.prog 9 [.d (encDatas w), .agg [.d (.i p.op), .d (.i p.ctor), .d (.i p.n), .d (.i p.m), .d (.i p.var), .d (encPats p.kids)]] [] (.d (.bool true)) [] := by
 cases hv : worldValid w with
 | true => exact laws_FnExactTypesOfPattern_good hs hv hok hsz
 | false => exact laws_FnExactTypesOfPattern_bad hs hv hok hsz
end Go.Proofs.Ytadpcmcifbakoaa
