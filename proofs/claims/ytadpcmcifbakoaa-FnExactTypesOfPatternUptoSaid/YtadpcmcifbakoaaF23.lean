/-
  WALKS: the types of a pattern.
-/
import Derived.Test.YtadpcmcifbakoaaF22
namespace Go.Proofs.Ytadpcmcifbakoaa
open Go
set_option linter.unusedSimpArgs false
set_option linter.unusedVariables false
set_option maxRecDepth 100000
set_option maxHeartbeats 4000000
def typesOfP (w : List Data) (p : Pat) : List Ty := if worldValid w then (allTypesOf w.length).filter (fun t => isP w t p) else []
theorem scan0 (w : List Data) (t : Ty) (p : Pat) : (scanP w 10 t p 0).1.isSome = isP w t p := by
 have h := (scanP_eq w 10 t p 0).1
 rw [h]
 unfold wantP isP
 rw [Int.zero_add]
 split
 ·rename_i hz; rw [hz]; rfl
 ·rename_i hz
  cases hc : (shapeP w 10 t p && (decide ((p.size : Int) ≤ 60) && linP w 10 t p)) with
  | true => exact absurd hc hz
  | false => rfl
theorem impl_patternVars_fn {w : List Data} (hw : WT w) {a k : Int} {p : Pat} (ht : TyIn w.length ⟨a, k⟩) (hok : p.ok) :
  FnD Try.prog 109 [.d (encDatas w), .agg [.d (.i a), .d (.i k)], .agg [.d (.i p.op), .d (.i p.ctor), .d (.i p.n), .d (.i p.m), .d (.i p.var), .d (encPats p.kids)]] [] (.tup [.d (encVts (someV (scanP w 10 ⟨a, k⟩ p 0).1)), .d (.bool (isP w ⟨a, k⟩ p))]) [] := by
 rw [← scan0]
 refine Fn.body (fn := Try.f109) (n := 15) rfl rfl rfl rfl rfl (fun w0 F0 own kept hk => ?_)
 refine sr ?_
 refine Walk.box (id := 3004) .none rfl rfl rfl rfl rfl rfl rfl ?_
 refine Walk.box (id := 3005) .none rfl rfl rfl rfl rfl rfl rfl ?_
 refine asg ?_
 refine asg ?_
 refine tv ?_
 refine sr ?_
 refine Walk.alloc (id := 950) tz3 rfl .none rfl rfl rfl rfl ?_
 refine Walk.store ty3 .none rfl rfl rfl rfl rfl rfl (by simp) rfl ?_
 refine tv ?_
 refine sr ?_
 refine mv ?_
 refine Walk.loadBA ty38 .none rfl rfl rfl rfl ?_
 refine Walk.loadBA ty70 .none rfl rfl rfl rfl ?_
 refine Walk.call (cr := []) cal138 (impl_patternScan_fn hw 10 (c := 0) (by omega) (by omega) ht hok (by omega) (by omega)) rfl .none rfl rfl (LeL.refl _) ⟨rfl, trivial⟩ rfl rfl rfl ?_
 refine Walk.extract .none rfl rfl rfl ?_
 refine Walk.extract .none rfl rfl rfl ?_
 refine asg ?_
 refine asg ?_
 refine tv ?_
 refine CWp.ret ?_
 refine ⟨_, _, [], (.cons (.tmp rfl) (.cons (.tmp rfl) .nil)), (.tup (.cons (.eqd ?_) (.cons (.eqd ?_) .nil))), ⟨rfl, rfl⟩, HSub.nil, noBox⟩
 all_goals (rfl)
theorem impl_patternOk_fn {w : List Data} (hw : WT w) {a k : Int} {p : Pat} (ht : TyIn w.length ⟨a, k⟩) (hok : p.ok) :
  FnD Try.prog 75 [.d (encDatas w), .agg [.d (.i a), .d (.i k)], .agg [.d (.i p.op), .d (.i p.ctor), .d (.i p.n), .d (.i p.m), .d (.i p.var), .d (encPats p.kids)]] [] (.d (.bool (isP w ⟨a, k⟩ p))) [] := by
 refine Fn.body (fn := Try.f75) (n := 17) rfl rfl rfl rfl rfl (fun w0 F0 own kept hk => ?_)
 refine sr ?_
 refine Walk.box (id := 3004) .none rfl rfl rfl rfl rfl rfl rfl ?_
 refine Walk.box (id := 3005) .none rfl rfl rfl rfl rfl rfl rfl ?_
 refine asg ?_
 refine tv ?_
 refine sr ?_
 refine mv ?_
 refine Walk.loadBA ty38 .none rfl rfl rfl rfl ?_
 refine Walk.loadBA ty70 .none rfl rfl rfl rfl ?_
 refine Walk.call (cr := []) cal109 (impl_patternVars_fn hw ht hok) rfl .none rfl rfl (LeL.refl _) trivial rfl rfl rfl ?_
 refine mv ?_
 refine Walk.extract .none rfl rfl rfl ?_
 refine Walk.extract .none rfl rfl rfl ?_
 refine asg ?_
 refine asg ?_
 refine tv ?_
 refine sr ?_
 refine mv ?_
 refine asg ?_
 refine tv ?_
 refine CWp.ret ?_
 refine ⟨_, _, [], (.cons (.tmp rfl) .nil), (.eqd ?_), ⟨rfl, rfl⟩, HSub.nil, noBox⟩
 all_goals (rfl)
theorem impl_TypesOfPattern_1_fn {w : List Data} (hw : WT w) {p : Pat} (hok : p.ok) {a k : Int} (ht : TyIn w.length ⟨a, k⟩) :
  FnD Try.prog 74 [.agg [.d (.i a), .d (.i k)], .ref 3002 0, .ref 3003 0] [(3002, some (.box [.d (encDatas w)])), (3003, some (.box [.d (.i p.op), .d (.i p.ctor), .d (.i p.n), .d (.i p.m), .d (.i p.var), .d (encPats p.kids)]))] (.d (.bool (!isP w ⟨a, k⟩ p))) [] := by
 refine Fn.body (fn := Try.f74) (n := 10) rfl rfl rfl rfl rfl (fun w0 F0 own kept hk => ?_)
 refine sr ?_
 refine Walk.box (id := 3001) .none rfl rfl rfl rfl rfl rfl rfl ?_
 refine asg ?_
 refine tv ?_
 refine sr ?_
 refine Walk.loadB ty26 .none rfl rfl rfl rfl ?_
 refine Walk.loadBA ty38 .none rfl rfl rfl rfl ?_
 refine Walk.loadBA ty70 .none rfl rfl rfl rfl ?_
 refine Walk.call (cr := []) cal75 (impl_patternOk_fn hw ht hok) rfl .none rfl rfl (LeL.refl _) trivial rfl rfl rfl ?_
 refine Walk.not .none rfl rfl ?_
 refine asg ?_
 refine tv ?_
 refine CWp.ret ?_
 refine ⟨_, _, [], (.cons (.tmp rfl) .nil), (.eqd ?_), ⟨rfl, rfl⟩, (SubH.get ⟨rfl, ⟨rfl, trivial⟩⟩), (fun _ h => h)⟩
 all_goals (first | rfl | (simp []; done) | (simp_all; done) | (simp_all; omega) | omega)
theorem impl_TypesOfPattern_own {w : List Data} (hs : WSmall w) (hv : worldValid w = true) {p : Pat} (hok : p.ok) :
  FnD Try.prog 39 [.d (encDatas w), .agg [.d (.i p.op), .d (.i p.ctor), .d (.i p.n), .d (.i p.m), .d (.i p.var), .d (encPats p.kids)]] [] (.ms 1 (typesOfP w p).length) [(1, some (.tree (ownCells true ((typesOfP w p).map Ty.c))))] := by
 have hw := valid_wt hs hv
 have h4 := valid_four hv
 have hlen := allTypesOf_len w.length
 have hdel := slices_DeleteFunc_Ty_tr (xs := allTypesOf w.length) (p := fun t => !isP w t p) (by omega) cal74 (B2 := [.d (encDatas w)]) (B3 := [.d (.i p.op), .d (.i p.ctor), .d (.i p.n), .d (.i p.m), .d (.i p.var), .d (encPats p.kids)]) rfl rfl
  (fun t ht => impl_TypesOfPattern_1_fn hw hok (allTypesOf_in ht))
 simp only [Bool.not_not] at hdel
 rw [typesOfP, if_pos hv]
 refine Fn.body (fn := Try.f39) (n := 9) rfl rfl rfl rfl rfl (fun w0 F0 own kept hk => ?_)
 refine sr ?_
 refine Walk.box (id := 3002) .none rfl rfl rfl rfl rfl rfl rfl ?_
 refine Walk.box (id := 3003) .none rfl rfl rfl rfl rfl rfl rfl ?_
 refine asg ?_
 refine tv ?_
 refine sr ?_
 refine Walk.loadB ty26 .none rfl rfl rfl rfl ?_
 refine Walk.call (cr := [1]) cal13 (impl_AllTypes_ms hs hv) rfl .none rfl rfl (LeL.refl _) trivial rfl (by first | rfl | (simp only [okCall, List.all_cons, List.all_nil, entOK, entOK', AV.idsL, AV.ids, idsL_append, ownCells_ids, List.map_cons, List.map_nil]; rfl)) (by first | rfl | (simp only [freshB, occH, occE, Res.ids, List.cons_append, List.nil_append, AV.idsL, AV.ids, idsL_append, ownCells_ids, zerosA_idsR, repNil, List.map_cons, List.map_nil, upC]; rfl)) ?_
 refine Walk.closure (xs := [_, _]) rfl .none rfl rfl ?_
 refine Walk.call (cr := []) cal65 (hdel) rfl .none rfl rfl (.cons (LeA.msn (by first | rfl | (simp; done))) (.cons (.refl _) .nil)) ⟨rfl, rfl, rfl, trivial⟩ rfl (by first | rfl | (simp only [okCall, List.all_cons, List.all_nil, entOK, entOK', AV.idsL, AV.ids, idsL_append, ownCells_ids, List.map_cons, List.map_nil]; rfl)) (by first | rfl | (simp only [freshB, occH, occE, Res.ids, List.cons_append, List.nil_append, AV.idsL, AV.ids, idsL_append, ownCells_ids, zerosA_idsR, repNil, List.map_cons, List.map_nil, upC]; rfl)) ?_
 refine asg ?_
 refine tv ?_
 refine CWp.ret ?_
 refine ⟨_, _, [(1, some (.tree (ownCells true (((allTypesOf w.length).filter (fun t => isP w t p)).map Ty.c))))], (.cons (.tmp rfl) .nil), (LeA.msn ?_), ⟨rfl, rfl⟩, (SubH.get ⟨(by rfl), trivial⟩), (boxOK rfl)⟩
 all_goals (rfl)
theorem impl_TypesOfPattern_bad {w : List Data} (hs : WSmall w) (hv : worldValid w = false) {p : Pat} (hok : p.ok) :
  FnD Try.prog 39 [.d (encDatas w), .agg [.d (.i p.op), .d (.i p.ctor), .d (.i p.n), .d (.i p.m), .d (.i p.var), .d (encPats p.kids)]] [] (.d (.sl [])) [] := by
 have himp := impl_AllTypes_fn hs
 rw [allTypes, if_neg (by rw [hv]; simp)] at himp
 refine Fn.body (fn := Try.f39) (n := 9) rfl rfl rfl rfl rfl (fun w0 F0 own kept hk => ?_)
 refine sr ?_
 refine Walk.box (id := 3002) .none rfl rfl rfl rfl rfl rfl rfl ?_
 refine Walk.box (id := 3003) .none rfl rfl rfl rfl rfl rfl rfl ?_
 refine asg ?_
 refine tv ?_
 refine sr ?_
 refine Walk.loadB ty26 .none rfl rfl rfl rfl ?_
 refine Walk.call (cr := []) cal13 (himp) rfl .none rfl rfl (LeL.refl _) trivial rfl rfl rfl ?_
 refine Walk.closure (xs := [_, _]) rfl .none rfl rfl ?_
 refine Walk.call (cr := []) cal65 (slices_DeleteFunc_Ty_nil (hp := [(3002, some (.box [.d (encDatas w)])), (3003, some (.box [.d (.i p.op), .d (.i p.ctor), .d (.i p.n), .d (.i p.m), .d (.i p.var), .d (encPats p.kids)]))]) cal74 ⟨rfl, rfl, trivial⟩ rfl rfl) rfl .none rfl rfl (LeL.refl _) ⟨rfl, rfl, trivial⟩ rfl (by first | rfl | (simp only [okCall, List.all_cons, List.all_nil, entOK, entOK', AV.idsL, AV.ids, idsL_append, ownCells_ids, List.map_cons, List.map_nil]; rfl)) (by first | rfl | (simp only [freshB, occH, occE, Res.ids, List.cons_append, List.nil_append, AV.idsL, AV.ids, idsL_append, ownCells_ids, zerosA_idsR, repNil, List.map_cons, List.map_nil, upC]; rfl)) ?_
 refine asg ?_
 refine tv ?_
 refine CWp.ret ?_
 refine ⟨_, _, [], (.cons (.tmp rfl) .nil), (.eqd ?_), ⟨rfl, rfl⟩, HSub.nil, noBox⟩
 all_goals (rfl)
theorem spec_TypesOfPattern_fn {w : List Data} (hs : WSmall w) {p : Pat} (hok : p.ok) (hb : p.size ≤ 1000000000000) :
  FnD Try.prog 37 [.d (encDatas w), .agg [.d (.i p.op), .d (.i p.ctor), .d (.i p.n), .d (.i p.m), .d (.i p.var), .d (encPats p.kids)]] [] (.d (encTys (typesOfP w p))) [] := by
 cases hv : worldValid w with
 | false =>
  have hspec := spec_AllTypes_fn hs
  rw [show (if specWorldValid w then allTypesOf w.length else []) = [] by rw [specWorldValid_eq, hv]; rfl] at hspec
  rw [typesOfP, if_neg (by rw [hv]; simp)]
  refine Fn.body (fn := Try.f37) (n := 32) rfl rfl rfl rfl rfl (fun w0 F0 own kept hk => ?_)
  refine sr ?_
  refine Walk.box (id := 3003) .none rfl rfl rfl rfl rfl rfl rfl ?_
  refine asg ?_
  refine tv ?_
  refine sr ?_
  refine Walk.sliceEmptyG 1 sl24 .none rfl rfl ?_
  refine asg ?_
  refine tv ?_
  refine sr ?_
  refine mv ?_
  refine Walk.call (cr := []) cal11 (hspec) rfl .none rfl rfl (LeL.refl _) trivial rfl rfl rfl ?_
  refine asg ?_
  refine tv ?_
  refine CWp.seq ?_
  refine sr ?_
  refine asg ?_
  refine tv ?_
  refine CWp.block ?_
  refine CWp.loopX (ι := Unit) hk (fun x => [(7, .d (.i 0)), (5, .gl 1 ([] : List (List D)))]) [11, 12, 13, 14, 15, 16, 17, 18, 19, 20, 21, 22, 23, 24, 25, 26, 27, 28, 29, 30] (fun x => [(1, some (.tok (([] : List (List D))).length 2))]) (fun x => True) (fun x => 0) () trivial ⟨⟨_, rfl, (LeA.eqi (by first | rfl | (simp; done) | (simp_all; done) | omega))⟩, ⟨⟨_, rfl, (LeA.glg (by first | rfl | (simp; done) | (simp_all; done) | omega))⟩, trivial⟩⟩ ⟨beq_nat_eq (by first | rfl | (simp; done) | (simp; omega) | (first | rfl | (simp; done) | (simp_all; done) | omega)), trivial⟩ (fun x => rfl) (fun x hg1 => ?_)
  refine CWp.seq ?_
  refine sr ?_
  refine mv ?_
  refine mv ?_
  refine Walk.len sl24 .none rfl rfl ?_
  refine Walk.ltI .none rfl rfl rfl ?_
  refine tv ?_
  refine cd ?_ ?_
  ·intro h1; have ⟨h1p, h1s⟩ := dup h1; try simp only [Q5] at h1s
   try simp only [Q] at h1p
   exfalso; revert h1; simp --stop
  ·intro h1; have ⟨h1p, h1s⟩ := dup h1; try simp only [Q5] at h1s
   try simp only [Q] at h1p
   refine CWp.exit ?_
   refine sr ?_
   refine mv ?_
   refine asg ?_
   refine tv ?_
   refine CWp.ret ?_
   refine ⟨_, _, [], (.cons (.tmp rfl) .nil), (.gld ?_), ⟨rfl, rfl⟩, HSub.nil, noBox⟩
   all_goals (first | rfl | (simp; done))
 | true =>
  have hw := valid_wt hs hv
  have h4 := valid_four hv
  have hlen := allTypesOf_len w.length
  have hspec := spec_AllTypes_fn hs
  rw [show (if specWorldValid w then allTypesOf w.length else []) = allTypesOf w.length by rw [specWorldValid_eq, hv]; rfl] at hspec
  rw [typesOfP, if_pos hv]
  refine Fn.body (fn := Try.f37) (n := 32) rfl rfl rfl rfl rfl (fun w0 F0 own kept hk => ?_)
  refine sr ?_
  refine Walk.box (id := 3003) .none rfl rfl rfl rfl rfl rfl rfl ?_
  refine asg ?_
  refine tv ?_
  refine sr ?_
  refine Walk.sliceEmptyG 1 sl24 .none rfl rfl ?_
  refine asg ?_
  refine tv ?_
  refine sr ?_
  refine mv ?_
  refine Walk.call (cr := []) cal11 (hspec) rfl .none rfl rfl (LeL.refl _) trivial rfl rfl rfl ?_
  refine asg ?_
  refine tv ?_
  refine CWp.seq ?_
  refine sr ?_
  refine asg ?_
  refine tv ?_
  refine CWp.block ?_
  refine CWp.loopX (ι := List (Ty) × List (Ty)) hk (fun x => [(7, .d (.i (x.1.length : Int))), (5, .gl 1 ((x.1.filter (fun t => isP w t p)).map Ty.c))]) [11, 12, 13, 14, 15, 16, 17, 18, 19, 20, 21, 22, 23, 24, 25, 26, 27, 28, 29, 30] (fun x => [(1, some (.tok (((x.1.filter (fun t => isP w t p)).map Ty.c)).length 2))]) (fun x => x.1 ++ x.2 = allTypesOf w.length) (fun x => x.2.length) ([], allTypesOf w.length) (by simp) ⟨⟨_, rfl, (LeA.eqi (by first | rfl | (simp; done) | (simp only [List.filter_append, List.map_append]; simp [hk]; done) | (simp_all; done)))⟩, ⟨⟨_, rfl, (LeA.glg (by first | rfl | (simp; done) | (simp only [List.filter_append, List.map_append]; simp [hk]; done) | (simp_all; done)))⟩, trivial⟩⟩ ⟨beq_nat_eq (by first | rfl | (simp; done) | (simp; omega) | (first | rfl | (simp; done) | (simp only [List.filter_append, List.map_append]; simp [hk]; done) | (simp_all; done))), trivial⟩ (fun x => rfl) (fun x hg1 => ?_)
  obtain ⟨pre, rest⟩ := x
  dsimp only at hg1 ⊢
  refine CWp.seq ?_
  refine sr ?_
  refine mv ?_
  refine mv ?_
  refine Walk.len sl24 .none rfl rfl ?_
  refine Walk.ltI .none rfl rfl rfl ?_
  refine tv ?_
  refine cd ?_ ?_
  ·intro h1; have ⟨h1p, h1s⟩ := dup h1; try simp only [Q5] at h1s
   try simp only [Q] at h1p
   rcases rest with _ | ⟨y, rest⟩
   ·exfalso; simp_all
   refine CWp.skip ?_
   refine CWp.seq ?_
   refine CWp.block ?_
   refine CWp.seq ?_
   refine CWp.drawn mixed rfl ?_
   refine mv ?_
   refine mv ?_
   refine mv ?_
   refine Walk.idx sl24 .none rfl rfl rfl rfl (zip_at hg1) rfl ?_
   refine Walk.loadPA ty38 .none rfl rfl rfl rfl ?_
   refine Walk.loadBA ty70 .none rfl rfl rfl rfl ?_
   refine Walk.call (cr := []) cal72 (spec_l3Is_fn hw (a := y.data) (k := y.index) (allTypesOf_in (t := y) (by rw [← hg1]; simp)) hok hb) rfl .none rfl rfl (LeL.refl _) trivial rfl rfl rfl ?_
   refine ⟨by show _ = _; kernel_rfl, ?_⟩
   refine cd ?_ ?_
   ·intro h2; have ⟨h2p, h2s⟩ := dup h2; try simp only [Q5] at h2s
    try simp only [Q] at h2p
    refine CWp.region rfl ?_
    refine mv ?_
    refine mv ?_
    refine mv ?_
    refine Walk.idx sl24 .none rfl rfl rfl rfl (zip_at hg1) rfl ?_
    refine Walk.loadPA ty38 .none rfl rfl rfl rfl ?_
    refine Walk.sliceLit sl24 tz38 rfl (by decide) (ks := [0]) (xs := [_]) rfl rfl (by decide) (by decide) .none rfl rfl rfl rfl ?_
    refine Walk.append sl24 zz38 rfl .none rfl rfl rfl rfl (htokL rfl (by first | rfl | (simp; done) | (simp; omega))) (by simp) (by have hz := List.length_filter_le (fun t => isP w t p) pre; have hy := congrArg List.length hg1; simp at hy ⊢; omega) (by have hz := List.length_filter_le (fun t => isP w t p) pre; have hy := congrArg List.length hg1; simp at hy ⊢; omega) ?_
    refine asg ?_
    refine tv ?_
    refine CWp.region rfl ?_
    refine mv ?_
    refine Walk.addI .none rfl rfl rfl (by first | (constructor <;> omega) | (constructor <;> simp <;> omega)) ?_
    refine asg ?_
    refine tv ?_
    refine ⟨(pre ++ [y], rest), (by have hz := hg1; rw [← hz]; simp), (by simp), Sub.x (by kernel_rfl) (by kernel_rfl) ⟨⟨_, rfl, (LeA.eqi (by first | rfl | (simp; done) | (simp only [List.filter_append, List.map_append]; simp [h1s, h1p, h2s, h2p]; done) | (simp_all; done)))⟩, ⟨⟨_, rfl, (LeA.glg (by first | rfl | (simp; done) | (simp only [List.filter_append, List.map_append]; simp [h1s, h1p, h2s, h2p]; done) | (simp_all; done)))⟩, trivial⟩⟩ (by kernel_rfl) (by kernel_rfl) ⟨beq_nat_eq (by first | rfl | (simp; done) | (simp; omega) | (first | rfl | (simp; done) | (simp only [List.filter_append, List.map_append]; simp [h1s, h1p, h2s, h2p]; done) | (simp_all; done))), trivial⟩⟩
   ·intro h2; have ⟨h2p, h2s⟩ := dup h2; try simp only [Q5] at h2s
    try simp only [Q] at h2p
    refine CWp.skip ?_
    refine CWp.region rfl ?_
    refine mv ?_
    refine Walk.addI .none rfl rfl rfl (by first | (constructor <;> omega) | (constructor <;> simp <;> omega)) ?_
    refine asg ?_
    refine tv ?_
    refine ⟨(pre ++ [y], rest), (by have hz := hg1; rw [← hz]; simp), (by simp), Sub.x (by kernel_rfl) (by kernel_rfl) ⟨⟨_, rfl, (LeA.eqi (by first | rfl | (simp; done) | (simp only [List.filter_append, List.map_append]; simp [h1s, h1p, h2s, h2p]; done) | (simp_all; done)))⟩, ⟨⟨_, rfl, (LeA.glg (by first | rfl | (simp; done) | (simp only [List.filter_append, List.map_append]; simp [h1s, h1p, h2s, h2p]; done) | (simp_all; done)))⟩, trivial⟩⟩ (by kernel_rfl) (by kernel_rfl) ⟨beq_nat_eq (by first | rfl | (simp; done) | (simp; omega) | (first | rfl | (simp; done) | (simp only [List.filter_append, List.map_append]; simp [h1s, h1p, h2s, h2p]; done) | (simp_all; done))), trivial⟩⟩
  ·intro h1; have ⟨h1p, h1s⟩ := dup h1; try simp only [Q5] at h1s
   try simp only [Q] at h1p
   have hrest : rest = [] := by
    rcases rest with _ | ⟨a, b⟩
    ·rfl
    ·exfalso; have hz := congrArg List.length (hg1); simp only [List.length_append, List.length_cons, List.length_map] at hz; omega
   subst hrest
   refine CWp.exit ?_
   refine sr ?_
   refine mv ?_
   refine asg ?_
   refine tv ?_
   refine CWp.ret ?_
   refine ⟨_, _, [], (.cons (.tmp rfl) .nil), (.gld ?_), ⟨rfl, rfl⟩, HSub.nil, noBox⟩
   all_goals (rw [List.append_nil] at hg1; subst hg1; rfl)
end Go.Proofs.Ytadpcmcifbakoaa
