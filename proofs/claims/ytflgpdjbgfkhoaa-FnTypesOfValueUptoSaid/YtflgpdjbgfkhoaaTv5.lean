/-
  THE LAW FnTypesOfValue: whatever the arguments of bulk at most 1048576 are, the call returns true, and the arguments read as before.
  Conditions: the bulk alone.
-/
import Derived.Test.YtflgpdjbgfkhoaaTv4
namespace Go.Proofs.Ytflgpdjbgfkhoaa
open Go
set_option linter.unusedSimpArgs false
set_option linter.unusedVariables false
set_option maxRecDepth 100000
set_option maxHeartbeats 2000000
def typesOfV (w : List Data) (v : Val) : List Ty := if worldValid w then (allTypesOf w.length).filter (fun t => isV w t v) else []
theorem impl_TypesOfValue_1_fn {w : List Data} (hw : WT w) {v : Val} (hok : v.ok) {a k : Int} (ht : TyIn w.length ⟨a, k⟩) :
  FnD Try.prog 30 [.agg [.d (.i a), .d (.i k)], .ref 3002 0, .ref 3003 0] [(3002, some (.box [.d (encDatas w)])), (3003, some (.box [.d (.i v.ctor), .d (.i v.num), .d (encVals v.kids)]))] (.d (.bool (!isV w ⟨a, k⟩ v))) [] := by
 refine bd Try.f30 10 [] [] fun w0 F0 own kept hk => ?_
 refine Walk.box (id := 3001) .none rfl rfl rfl rfl rfl rfl rfl ?_
 refine ev ?_
 refine Walk.call (cr := []) cal31 (impl_valueOk_fn hw ht hok) rfl .none rfl rfl (LeL.refl _) trivial rfl rfl rfl ?_
 refine ev ?_
 refine rn [] (r1 rfl) (.eqd ?_) ⟨rfl, rfl⟩ (SubH.get ⟨rfl, ⟨rfl, trivial⟩⟩) (fun _ h => h)
 all_goals (first | rfl | (simp []; done) | (simp_all; done) | (simp_all; omega) | omega)
theorem impl_TypesOfValue_own {w : List Data} (hs : WSmall w) (hv : worldValid w = true) {v : Val} (hok : v.ok) :
  FnD Try.prog 13 [.d (encDatas w), .agg [.d (.i v.ctor), .d (.i v.num), .d (encVals v.kids)]] [] (.ms 1 (typesOfV w v).length) [(1, some (.tree (ownCells true ((typesOfV w v).map Ty.c))))] := by
 have hw := valid_wt hs hv
 have h4 := valid_four hv
 have hlen := allTypesOf_len w.length
 have hdel := slices_DeleteFunc_Ty_tr (xs := allTypesOf w.length) (p := fun t => !isV w t v) (by omega) cal30 (B2 := [.d (encDatas w)]) (B3 := [.d (.i v.ctor), .d (.i v.num), .d (encVals v.kids)]) rfl rfl
  (fun t ht => impl_TypesOfValue_1_fn hw hok (allTypesOf_in ht))
 simp only [Bool.not_not] at hdel
 rw [typesOfV, if_pos hv]
 refine bd Try.f13 9 [] [] fun w0 F0 own kept hk => ?_
 refine Walk.box (id := 3002) .none rfl rfl rfl rfl rfl rfl rfl ?_
 refine Walk.box (id := 3003) .none rfl rfl rfl rfl rfl rfl rfl ?_
 refine ev ?_
 refine Walk.call (cr := [1]) cal7 (impl_AllTypes_ms hs hv) rfl .none rfl rfl (LeL.refl _) trivial rfl (by first | rfl | (simp only [okCall, List.all_cons, List.all_nil, entOK, entOK', AV.idsL, AV.ids, idsL_append, ownCells_ids, List.map_cons, List.map_nil]; rfl)) (by first | rfl | (simp only [freshB, occH, occE, Res.ids, List.cons_append, List.nil_append, AV.idsL, AV.ids, idsL_append, ownCells_ids, zerosA_idsR, repNil, List.map_cons, List.map_nil, upC]; rfl)) ?_
 refine Walk.closure (xs := [_, _]) rfl .none rfl rfl ?_
 refine Walk.call (cr := []) cal29 (hdel) rfl .none rfl rfl (.cons (LeA.msn (by first | rfl | (simp; done))) (.cons (.refl _) .nil)) ⟨rfl, rfl, rfl, trivial⟩ rfl (by first | rfl | (simp only [okCall, List.all_cons, List.all_nil, entOK, entOK', AV.idsL, AV.ids, idsL_append, ownCells_ids, List.map_cons, List.map_nil]; rfl)) (by first | rfl | (simp only [freshB, occH, occE, Res.ids, List.cons_append, List.nil_append, AV.idsL, AV.ids, idsL_append, ownCells_ids, zerosA_idsR, repNil, List.map_cons, List.map_nil, upC]; rfl)) ?_
 refine ev ?_
 refine rn [(1, some (.tree (ownCells true (((allTypesOf w.length).filter (fun t => isV w t v)).map Ty.c))))] (r1 rfl) (LeA.msn ?_) ⟨rfl, rfl⟩ (SubH.get ⟨(by rfl), trivial⟩) (boxOK rfl)
 all_goals (rfl)
theorem impl_TypesOfValue_bad {w : List Data} (hs : WSmall w) (hv : worldValid w = false) {v : Val} (hok : v.ok) :
  FnD Try.prog 13 [.d (encDatas w), .agg [.d (.i v.ctor), .d (.i v.num), .d (encVals v.kids)]] [] (.d (.sl [])) [] := by
 have himp := impl_AllTypes_fn hs
 rw [allTypes, if_neg (by rw [hv]; simp)] at himp
 refine bd Try.f13 9 [] [] fun w0 F0 own kept hk => ?_
 refine Walk.box (id := 3002) .none rfl rfl rfl rfl rfl rfl rfl ?_
 refine Walk.box (id := 3003) .none rfl rfl rfl rfl rfl rfl rfl ?_
 refine ev ?_
 refine Walk.call (cr := []) cal7 (himp) rfl .none rfl rfl (LeL.refl _) trivial rfl rfl rfl ?_
 refine Walk.closure (xs := [_, _]) rfl .none rfl rfl ?_
 refine Walk.call (cr := []) cal29 (slices_DeleteFunc_Ty_nil (hp := [(3002, some (.box [.d (encDatas w)])), (3003, some (.box [.d (.i v.ctor), .d (.i v.num), .d (encVals v.kids)]))]) cal30 ⟨rfl, rfl, trivial⟩ rfl rfl) rfl .none rfl rfl (LeL.refl _) ⟨rfl, rfl, trivial⟩ rfl (by first | rfl | (simp only [okCall, List.all_cons, List.all_nil, entOK, entOK', AV.idsL, AV.ids, idsL_append, ownCells_ids, List.map_cons, List.map_nil]; rfl)) (by first | rfl | (simp only [freshB, occH, occE, Res.ids, List.cons_append, List.nil_append, AV.idsL, AV.ids, idsL_append, ownCells_ids, zerosA_idsR, repNil, List.map_cons, List.map_nil, upC]; rfl)) ?_
 refine ev ?_
 refine rn0 (r1 rfl) (.eqd ?_)
 all_goals (rfl)
theorem spec_TypesOfValue_fn {w : List Data} (hs : WSmall w) {v : Val} (hok : v.ok) (hb : v.size ≤ 1000000000000) :
  FnD Try.prog 14 [.d (encDatas w), .agg [.d (.i v.ctor), .d (.i v.num), .d (encVals v.kids)]] [] (.d (encTys (typesOfV w v))) [] := by
 cases hv : worldValid w with
 | false =>
  have hspec := spec_AllTypes_fn hs
  rw [show (if specWorldValid w then allTypesOf w.length else []) = [] by rw [specWorldValid_eq, hv]; rfl] at hspec
  rw [typesOfV, if_neg (by rw [hv]; simp)]
  refine bd Try.f14 32 [] [] fun w0 F0 own kept hk => ?_
  refine Walk.box (id := 3003) .none rfl rfl rfl rfl rfl rfl rfl ?_
  refine ev ?_
  refine Walk.sliceEmptyG 1 sl25 .none rfl rfl ?_
  refine ev ?_
  refine Walk.call (cr := []) cal9 (hspec) rfl .none rfl rfl (LeL.refl _) trivial rfl rfl rfl ?_
  refine ev ?_
  refine CWp.loopX (ι := Unit) hk (fun x => [(7, .d (.i 0)), (5, .gl 1 ([] : List (List D)))]) [11, 12, 13, 14, 15, 16, 17, 18, 19, 20, 21, 22, 23, 24, 25, 26, 27, 28, 29, 30] (fun x => [(1, some (.tok (([] : List (List D))).length 2))]) (fun x => True) (fun x => 0) () trivial ⟨⟨_, rfl, (LeA.eqi (by first | rfl | (simp; done) | (simp_all; done) | omega))⟩, ⟨⟨_, rfl, (LeA.glg (by first | rfl | (simp; done) | (simp_all; done) | omega))⟩, trivial⟩⟩ ⟨beq_nat_eq (by first | rfl | (simp; done) | (simp; omega) | (first | rfl | (simp; done) | (simp_all; done) | omega)), trivial⟩ (fun x => rfl) (fun x hg1 => ?_)
  refine evc [] [] ?_
  refine sq (fun h1 h1p h1s => ?_) fun h1 h1p h1s => ?_
  ·try simp only [Q] at h1p
   exfalso; revert h1; simp --stop
  ·try simp only [Q] at h1p
   refine rn0 (r1 rfl) (.gld ?_)
   all_goals (first | rfl | (simp; done))
 | true =>
  have hw := valid_wt hs hv
  have h4 := valid_four hv
  have hlen := allTypesOf_len w.length
  have hspec := spec_AllTypes_fn hs
  rw [show (if specWorldValid w then allTypesOf w.length else []) = allTypesOf w.length by rw [specWorldValid_eq, hv]; rfl] at hspec
  rw [typesOfV, if_pos hv]
  refine bd Try.f14 32 [] [] fun w0 F0 own kept hk => ?_
  refine Walk.box (id := 3003) .none rfl rfl rfl rfl rfl rfl rfl ?_
  refine ev ?_
  refine Walk.sliceEmptyG 1 sl25 .none rfl rfl ?_
  refine ev ?_
  refine Walk.call (cr := []) cal9 (hspec) rfl .none rfl rfl (LeL.refl _) trivial rfl rfl rfl ?_
  refine ev ?_
  refine CWp.loopX (ι := List (Ty) × List (Ty)) hk (fun x => [(7, .d (.i (x.1.length : Int))), (5, .gl 1 ((x.1.filter (fun t => isV w t v)).map Ty.c))]) [11, 12, 13, 14, 15, 16, 17, 18, 19, 20, 21, 22, 23, 24, 25, 26, 27, 28, 29, 30] (fun x => [(1, some (.tok (((x.1.filter (fun t => isV w t v)).map Ty.c)).length 2))]) (fun x => x.1 ++ x.2 = allTypesOf w.length) (fun x => x.2.length) ([], allTypesOf w.length) (by simp) ⟨⟨_, rfl, (LeA.eqi (by first | rfl | (simp; done) | (simp only [List.filter_append, List.map_append]; simp [hk]; done) | (simp_all; done)))⟩, ⟨⟨_, rfl, (LeA.glg (by first | rfl | (simp; done) | (simp only [List.filter_append, List.map_append]; simp [hk]; done) | (simp_all; done)))⟩, trivial⟩⟩ ⟨beq_nat_eq (by first | rfl | (simp; done) | (simp; omega) | (first | rfl | (simp; done) | (simp only [List.filter_append, List.map_append]; simp [hk]; done) | (simp_all; done))), trivial⟩ (fun x => rfl) (fun x hg1 => ?_)
  obtain ⟨pre, rest⟩ := x
  dsimp only at hg1 ⊢
  refine evc [] [] ?_
  refine sq (fun h1 h1p h1s => ?_) fun h1 h1p h1s => ?_
  ·try simp only [Q] at h1p
   rcases rest with _ | ⟨y, rest⟩
   ·exfalso; simp_all
   refine Walk.idx sl25 .none rfl rfl rfl rfl (zip_at hg1) rfl ?_
   refine evd [] [] ?_
   refine Walk.call (cr := []) cal32 (spec_l2Is_fn hw (a := y.data) (k := y.index) (allTypesOf_in (t := y) (by rw [← hg1]; simp)) hok hb) rfl .none rfl rfl (LeL.refl _) trivial rfl rfl rfl ?_
   refine dr ?_
   refine sq (fun h2 h2p h2s => ?_) fun h2 h2p h2s => ?_
   ·try simp only [Q] at h2p
    refine Walk.idx sl25 .none rfl rfl rfl rfl (zip_at hg1) rfl ?_
    refine ev ?_
    refine Walk.sliceLit sl25 tz31 rfl (by decide) (ks := [0]) (xs := [_]) rfl rfl (by decide) (by decide) .none rfl rfl rfl rfl ?_
    refine Walk.append sl25 zz31 rfl .none rfl rfl rfl rfl (htokL rfl (by first | rfl | (simp; done) | (simp; omega))) (by simp) (by have hz := List.length_filter_le (fun t => isV w t v) pre; have hy := congrArg List.length hg1; simp at hy ⊢; omega) (by have hz := List.length_filter_le (fun t => isV w t v) pre; have hy := congrArg List.length hg1; simp at hy ⊢; omega) ?_
    refine ev ?_
    refine ar ?_
    refine Exists.intro ((pre ++ [y], rest)) ⟨(by have hz := hg1; rw [← hz]; simp), (by simp), Sub.x (by kernel_rfl) (by kernel_rfl) ⟨⟨_, rfl, (LeA.eqi (by first | rfl | (simp; done) | (simp only [List.filter_append, List.map_append]; simp [h1s, h1p, h2s, h2p]; done) | (simp_all; done)))⟩, ⟨⟨_, rfl, (LeA.glg (by first | rfl | (simp; done) | (simp only [List.filter_append, List.map_append]; simp [h1s, h1p, h2s, h2p]; done) | (simp_all; done)))⟩, trivial⟩⟩ (by kernel_rfl) (by kernel_rfl) ⟨beq_nat_eq (by first | rfl | (simp; done) | (simp; omega) | (first | rfl | (simp; done) | (simp only [List.filter_append, List.map_append]; simp [h1s, h1p, h2s, h2p]; done) | (simp_all; done))), trivial⟩⟩
   ·try simp only [Q] at h2p
    refine ar ?_
    refine Exists.intro ((pre ++ [y], rest)) ⟨(by have hz := hg1; rw [← hz]; simp), (by simp), Sub.x (by kernel_rfl) (by kernel_rfl) ⟨⟨_, rfl, (LeA.eqi (by first | rfl | (simp; done) | (simp only [List.filter_append, List.map_append]; simp [h1s, h1p, h2s, h2p]; done) | (simp_all; done)))⟩, ⟨⟨_, rfl, (LeA.glg (by first | rfl | (simp; done) | (simp only [List.filter_append, List.map_append]; simp [h1s, h1p, h2s, h2p]; done) | (simp_all; done)))⟩, trivial⟩⟩ (by kernel_rfl) (by kernel_rfl) ⟨beq_nat_eq (by first | rfl | (simp; done) | (simp; omega) | (first | rfl | (simp; done) | (simp only [List.filter_append, List.map_append]; simp [h1s, h1p, h2s, h2p]; done) | (simp_all; done))), trivial⟩⟩
  ·try simp only [Q] at h1p
   have hrest : rest = [] := by
    rcases rest with _ | ⟨a, b⟩
    ·rfl
    ·exfalso; have hz := congrArg List.length (hg1); simp only [List.length_append, List.length_cons, List.length_map] at hz; omega
   subst hrest
   refine rn0 (r1 rfl) (.gld ?_)
   all_goals (rw [List.append_nil] at hg1; subst hg1; rfl)
def vvQ (b : Str) : Nat := if pickV b (typV b 0).2 8 = 0 then (someT b ((typV b 0).2 + 1) (worldD b 0).length).2 else (typV b 0).2 + 1
def vvT (b : Str) : Ty := if pickV b (typV b 0).2 8 = 0 then (someT b ((typV b 0).2 + 1) (worldD b 0).length).1 else typT b 0
def vvW (b : Str) : List Data := (mutW b (vvQ b) (worldD b 0)).1
theorem vvQ_bd (b : Str) : vvQ b ≤ 100 := by
 have h1 := (typV_ok b 0).1
 have h2 := someT_bd b ((typV b 0).2 + 1) (worldD b 0).length
 unfold vvQ; split <;> omega
theorem vvW_small (b : Str) : WSmall (vvW b) := mutD_small b 0 (vvQ b)
structure MutOf (b : Str) (p : Nat) (v v' : Val) (q : Nat) : Prop where
 some_ : ∃ n, mutV b n p v = some (v', q)
 q : q ≤ 3010000
theorem mut_of {b : Str} (hb : b.length ≤ 2000) {p : Nat} (hp : p ≤ 4000) (v : Val) : ∃ v' q, MutOf b p v v' q := by
 obtain ⟨n, v', q, h1, h2⟩ := mutV_some hb hp v
 exact ⟨v', q, ⟨n, h1⟩, h2⟩
theorem MutOf.size {b : Str} {p : Nat} {v v' : Val} {q : Nat} (h : MutOf b p v v' q) : v'.size ≤ v.size + 3010000 := by
 obtain ⟨n, hn⟩ := h.some_
 have := mutV_sz hn
 have := h.q
 omega
theorem spec_l2Mutate_of {b : Str} (hb : b.length ≤ 2000) {p : Nat} {v v' : Val} {q : Nat} (h : MutOf b p v v' q) (hs : v.size ≤ 1000000) :
  FnD Try.prog 50 [.ref 900 0, .agg [.d (.i v.ctor), .d (.i v.num), .d (encVals v.kids)]] [(900, some (rdB b p))] (.agg [.d (.i v'.ctor), .d (.i v'.num), .d (encVals v'.kids)]) [(900, some (rdB b q))] := by
 obtain ⟨n, hn⟩ := h.some_
 have := h.q
 exact spec_l2Mutate_fn hb n hn (by omega) (by omega)
theorem spec_DrawValueValid_fn {b : Str} (hb : b.length ≤ 1000000000000) {v' : Val} {q : Nat} (hm : MutOf (b.take 2000) (mutW (b.take 2000) (vvQ (b.take 2000)) (worldD (b.take 2000) 0)).2 (typV (b.take 2000) 0).1 v' q) :
  FnD Try.prog 28 [.d (encBytes b)] [] (.tup [.d (encDatas (vvW (b.take 2000))), .agg [.d (.i (vvT (b.take 2000)).data), .d (.i (vvT (b.take 2000)).index)],
   .agg [.d (.i v'.ctor), .d (.i v'.num), .d (encVals v'.kids)]]) [] := by
 have hop := spec_l17Open_fn hb
 have hb2 : (b.take 2000).length ≤ 2000 := by rw [List.length_take]; omega
 generalize b.take 2000 = e at *
 have ho := worldD_ok e 0
 have hvo := typV_ok e 0
 have hbq := vvQ_bd e
 have hmb := mutW_bd e (vvQ e) (worldD e 0)
 have hty := spec_l2Typed_fn (p := 0) hb2 (by omega)
 have hpk := spec_pick_fn (p := (typV e 0).2) (n := 8) hb2 (by omega) (by omega)
 have hso := spec_l1Some_fn (p := (typV e 0).2 + 1) (w := worldD e 0) hb2 (by omega) ho.small.len
 have hmu := fun q (h : q = vvQ e) => spec_l1Mutate_fn (p := q) hb2 (by omega) ho.small ho.one
 have hmp := spec_l2Mutate_of hb2 hm (by omega)
 have hQ : vvQ e = if pickV e (typV e 0).2 8 = 0 then (someT e ((typV e 0).2 + 1) (worldD e 0).length).2 else (typV e 0).2 + 1 := rfl
 have hT : vvT e = if pickV e (typV e 0).2 8 = 0 then (someT e ((typV e 0).2 + 1) (worldD e 0).length).1 else typT e 0 := rfl
 have hW : vvW e = (mutW e (vvQ e) (worldD e 0)).1 := rfl
 generalize vvQ e = q0 at *
 generalize vvT e = t0 at *
 generalize vvW e = w1 at *
 refine bd Try.f28 30 [] [] fun w0 F0 own kept hk => ?_
 refine Walk.alloc (id := 3003) tz31 rfl .none rfl rfl rfl rfl ?_
 refine Walk.alloc (id := 3004) tz35 rfl .none rfl rfl rfl rfl ?_
 refine tv ?_
 refine Walk.call (cr := [900]) cal37 (hop) rfl .none rfl rfl (LeL.refl _) trivial rfl (by first | rfl | (simp only [okCall, List.all_cons, List.all_nil, entOK, entOK', AV.idsL, AV.ids, idsL_append, ownCells_ids, List.map_cons, List.map_nil]; rfl)) (by first | rfl | (simp only [freshB, occH, occE, Res.ids, List.cons_append, List.nil_append, AV.idsL, AV.ids, idsL_append, ownCells_ids, zerosA_idsR, repNil, List.map_cons, List.map_nil, upC]; rfl)) ?_
 refine ev ?_
 refine Walk.call (cr := []) cal47 (hty) rfl .none rfl rfl (LeL.refl _) ⟨rfl, trivial⟩ rfl rfl rfl ?_
 refine ev ?_
 refine Walk.alloc (id := 3007) tz31 rfl .none rfl rfl rfl rfl ?_
 refine Walk.alloc (id := 3008) tz35 rfl .none rfl rfl rfl rfl ?_
 refine ev ?_
 refine Walk.store ty31 .none rfl rfl rfl rfl rfl rfl (by simp) rfl ?_
 refine Walk.store ty35 .none rfl rfl rfl rfl rfl rfl (by simp) rfl ?_
 refine tv ?_
 refine Walk.call (cr := []) cal48 (hpk) rfl .none rfl rfl (LeL.refl _) ⟨rfl, trivial⟩ rfl rfl rfl ?_
 refine ev ?_
 refine sq (fun h1 h1p h1s => ?_) fun h1 h1p h1s => ?_
 ·try simp only [Q] at h1p
  rw [if_pos (by omega)] at hQ hT; subst hQ; have HMU := hmu _ rfl
  refine Walk.call (cr := []) cal49 (hso) rfl .none rfl rfl (LeL.refl _) ⟨rfl, trivial⟩ rfl rfl rfl ?_
  refine Walk.store ty31 .none rfl rfl rfl rfl rfl rfl (by simp) rfl ?_
  refine tv ?_
  refine Walk.call (cr := []) cal38 (HMU) rfl .none rfl rfl (LeL.refl _) ⟨rfl, trivial⟩ rfl rfl rfl ?_
  refine evd [] [] ?_
  refine Walk.call (cr := []) cal50 (hmp) rfl .none rfl rfl (LeL.refl _) ⟨rfl, trivial⟩ rfl rfl rfl ?_
  refine evd [] [] ?_
  refine Walk.store ty31 .none rfl rfl rfl rfl rfl rfl (by simp) rfl ?_
  refine Walk.store ty35 .none rfl rfl rfl rfl rfl rfl (by simp) rfl ?_
  refine dr ?_
  refine rn0 (.cons (.tmp rfl) (.cons (.cellA ty31 rfl rfl rfl) (.cons (.cellA ty35 rfl rfl rfl) .nil))) (.tup (.cons (.eqd ?_) (.cons (.agg (.cons (.eqd ?_) (.cons (.eqd ?_) .nil))) (.cons (.agg (.cons (.eqd ?_) (.cons (.eqd ?_) (.cons (.eqd ?_) .nil)))) .nil))))
  all_goals (first | rfl | (rw [hT]; all_goals rfl) | (rw [hW]; all_goals rfl))
 ·try simp only [Q] at h1p
  rw [if_neg (by omega)] at hQ hT; subst hQ; have HMU := hmu _ rfl
  refine Walk.call (cr := []) cal38 (HMU) rfl .none rfl rfl (LeL.refl _) ⟨rfl, trivial⟩ rfl rfl rfl ?_
  refine evd [] [] ?_
  refine Walk.call (cr := []) cal50 (hmp) rfl .none rfl rfl (LeL.refl _) ⟨rfl, trivial⟩ rfl rfl rfl ?_
  refine evd [] [] ?_
  refine Walk.store ty31 .none rfl rfl rfl rfl rfl rfl (by simp) rfl ?_
  refine Walk.store ty35 .none rfl rfl rfl rfl rfl rfl (by simp) rfl ?_
  refine dr ?_
  refine rn0 (.cons (.tmp rfl) (.cons (.cellA ty31 rfl rfl rfl) (.cons (.cellA ty35 rfl rfl rfl) .nil))) (.tup (.cons (.eqd ?_) (.cons (.agg (.cons (.eqd ?_) (.cons (.eqd ?_) .nil))) (.cons (.agg (.cons (.eqd ?_) (.cons (.eqd ?_) (.cons (.eqd ?_) .nil)))) .nil))))
  all_goals (first | rfl | (rw [hT]; all_goals rfl) | (rw [hW]; all_goals rfl))
theorem spec_DrawTypesOfValue_fn {b : Str} (hb : b.length ≤ 1000000000000) {v' : Val} {q : Nat} (hm : MutOf (b.take 2000) (mutW (b.take 2000) (vvQ (b.take 2000)) (worldD (b.take 2000) 0)).2 (typV (b.take 2000) 0).1 v' q) :
  FnD Try.prog 12 [.d (encBytes b)] [] (.tup [.d (encDatas (vvW (b.take 2000))), .agg [.d (.i v'.ctor), .d (.i v'.num), .d (encVals v'.kids)]]) [] := by
 have hd := spec_DrawValueValid_fn hb hm
 refine bd Try.f12 15 [] [] fun w0 F0 own kept hk => ?_
 refine Walk.alloc (id := 3003) tz35 rfl .none rfl rfl rfl rfl ?_
 refine tv ?_
 refine Walk.call (cr := []) cal28 (hd) rfl .none rfl rfl (LeL.refl _) trivial rfl rfl rfl ?_
 refine ev ?_
 refine Walk.alloc (id := 3005) tz31 rfl .none rfl rfl rfl rfl ?_
 refine Walk.alloc (id := 3006) tz35 rfl .none rfl rfl rfl rfl ?_
 refine ev ?_
 refine Walk.store ty31 .none rfl rfl rfl rfl rfl rfl (by simp) rfl ?_
 refine Walk.store ty35 .none rfl rfl rfl rfl rfl rfl (by simp) rfl ?_
 refine tv ?_
 refine Walk.store ty35 .none rfl rfl rfl rfl rfl rfl (by simp) rfl ?_
 refine dr ?_
 refine rn0 (.cons (.tmp rfl) (.cons (.cellA ty35 rfl rfl rfl) .nil)) (.tup (.cons (.eqd ?_) (.cons (.agg (.cons (.eqd ?_) (.cons (.eqd ?_) (.cons (.eqd ?_) .nil)))) .nil)))
 all_goals (first | rfl | (simp []; done) | (simp_all; done) | (simp_all; omega) | omega)
theorem ctors_wide {k : Int} {c : Int} : ∀ (l : List Ctor) (i : Nat), c ∈ ctorsFrom k i l → c ∈ ctorsFrom 0 i l
 | [], _, h => by simp [ctorsFrom] at h
 | x :: r, i, h => by
  have h0 : fits x 0 = true := by simp [fits]
  unfold ctorsFrom at h ⊢
  rw [if_pos h0]
  split at h
  ·rcases List.mem_cons.1 h with rfl | h
   ·simp
   ·exact List.mem_cons_of_mem _ (ctors_wide r (i + 1) h)
  ·exact List.mem_cons_of_mem _ (ctors_wide r (i + 1) h)
theorem fits_wide {w : List Data} : ∀ (n : Nat) (a k : Int) (v : Val), fitsV w n ⟨a, k⟩ v = true → fitsV w n ⟨a, 0⟩ v = true
 | 0, _, _, _, h => by simp [fitsV] at h
 | n + 1, a, k, v, h => by
  simp only [fitsV] at h ⊢
  by_cases ha : a = -1
  ·rw [if_pos ha] at h ⊢; exact h
  rw [if_neg ha] at h ⊢
  split at h
  ·rename_i hc
   have hc0 : v.ctor ∈ ctorsOf w ⟨a, 0⟩ := ctors_wide _ _ hc.2
   rw [if_pos ⟨hc.1, hc0⟩]
   have key : ∀ (l : List Ty) (m : List Val), all2 (fitsV w n) (l.map (argTy (resIx (nth (nth w a.toNat).ctors v.ctor.toNat) k))) m = true → all2 (fitsV w n) (l.map (argTy (resIx (nth (nth w a.toNat).ctors v.ctor.toNat) 0))) m = true := by
    intro l
    induction l with
    | nil => intro m h; exact h
    | cons t r ih =>
     intro m h
     cases m with
     | nil => simp [all2] at h
     | cons y s =>
      simp only [List.map_cons, all2, Bool.and_eq_true] at h ⊢
      refine ⟨?_, ih s h.2⟩
      have h1 := h.1
      unfold argTy resIx at h1 ⊢
      split at h1
      ·rename_i ht
       rw [if_pos ht]
       by_cases hi : (nth (nth w a.toNat).ctors v.ctor.toNat).index = 0
       ·rw [if_pos hi] at h1 ⊢
        exact fits_wide n _ _ _ h1
       ·rw [if_neg hi] at h1 ⊢
        exact h1
      ·rename_i ht
       rw [if_neg ht]; exact h1
   exact key _ _ h
  ·cases h
theorem laws_ptType_fn {l : List Ty} {a k : Int} (hl : l.length ≤ 1000000000000) : FnD Try.prog 16 [.d (encTys l), .agg [.d (.i a), .d (.i k)]] [] (.d (.bool (decide ((⟨a, k⟩ : Ty) ∈ l)))) [] := by
 refine bd Try.f16 18 [17] [] fun w0 F0 own kept hk => ?_
 refine Walk.box (id := 3003) .none rfl rfl rfl rfl rfl rfl rfl ?_
 refine evs [17] [] ?_
 refine CWp.loopX (ι := List (Ty) × List (Ty)) hk (fun x => [(5, .d (.i (x.1.length : Int)))]) [4, 6, 7, 8, 9, 10, 11, 12, 13, 14, 15, 16, 17] (fun x => []) (fun x => x.1 ++ x.2 = l ∧ (⟨a, k⟩ : Ty) ∉ x.1) (fun x => x.2.length) ([], l) ⟨by simp, by simp⟩ ⟨⟨_, rfl, (LeA.eqi (by first | rfl | (simp; done) | (simp_all; done) | omega))⟩, trivial⟩ trivial (fun x => rfl) (fun x hg1 => ?_)
 obtain ⟨pre, rest⟩ := x
 dsimp only at hg1 ⊢
 refine evc [17] [] ?_
 refine sq (fun h1 h1p h1s => ?_) fun h1 h1p h1s => ?_
 ·try simp only [Q] at h1p
  rcases rest with _ | ⟨y, rest⟩
  ·exfalso; simp_all
  refine Walk.idx sl25 .none rfl rfl rfl rfl (zip_at hg1.1) rfl ?_
  refine evd [17] [] ?_
  refine Walk.eqV eq31 .none rfl rfl rfl rfl rfl ?_
  refine dr ?_
  refine sq (fun h2 h2p h2s => ?_) fun h2 h2p h2s => ?_
  ·try simp only [Q] at h2p
   refine rn0 (r1 rfl) (.eqd ?_)
   all_goals (first | (refine congrArg D.bool (Eq.symm (decide_eq_true ?_)); rw [← hg1.1]; refine List.mem_append_right _ (List.mem_cons.2 (.inl ?_)); obtain ⟨ya, yk⟩ := y; simp_all; done) | (refine congrArg D.bool (Eq.symm (decide_eq_false ?_)); rw [← hg1.1, List.append_nil]; exact hg1.2))
  ·try simp only [Q] at h2p
   refine ar ?_
   refine Exists.intro ((pre ++ [y], rest)) ⟨⟨(by have hz := hg1.1; rw [← hz]; simp), (by rw [List.mem_append, not_or]; refine ⟨hg1.2, fun h => ?_⟩; obtain ⟨ya, yk⟩ := y; simp only [List.mem_singleton, Ty.mk.injEq] at h; simp_all)⟩, (by simp), Sub.x (by kernel_rfl) (by kernel_rfl) ⟨⟨_, rfl, (LeA.eqi (by first | rfl | (simp; done) | (simp_all; done) | omega))⟩, trivial⟩ (by kernel_rfl) (by kernel_rfl) trivial⟩
 ·try simp only [Q] at h1p
  have hrest : rest = [] := by
   rcases rest with _ | ⟨a, b⟩
   ·rfl
   ·exfalso; have hz := congrArg List.length (hg1.1); simp only [List.length_append, List.length_cons, List.length_map] at hz; omega
  subst hrest
  refine rn0 (r1 rfl) (.eqd ?_)
  all_goals (first | (refine congrArg D.bool (Eq.symm (decide_eq_true ?_)); rw [← hg1.1]; refine List.mem_append_right _ (List.mem_cons.2 (.inl ?_)); obtain ⟨ya, yk⟩ := y; simp_all; done) | (refine congrArg D.bool (Eq.symm (decide_eq_false ?_)); rw [← hg1.1, List.append_nil]; exact hg1.2))
theorem impl_ValueValid_v {w : List Data} (hs : WSmall w) (hv : worldValid w = true) {a k : Int} {v : Val} (ht : typeOk w.length ⟨a, k⟩ = true) (hin : TyIn w.length ⟨a, k⟩) (hok : v.ok) :
  FnD Try.prog 15 [.d (encDatas w), .agg [.d (.i a), .d (.i k)], .agg [.d (.i v.ctor), .d (.i v.num), .d (encVals v.kids)]] [] (.d (.bool (isV w ⟨a, k⟩ v))) [] := by
 have htv := impl_TypeValid_fn hs (a := a) (b := k)
 rw [show typeValid w ⟨a, k⟩ = true by rw [typeValid, hv, ht]; rfl] at htv
 refine bd Try.f15 16 [] [] fun w0 F0 own kept hk => ?_
 refine Walk.box (id := 3004) .none rfl rfl rfl rfl rfl rfl rfl ?_
 refine Walk.box (id := 3005) .none rfl rfl rfl rfl rfl rfl rfl ?_
 refine ev ?_
 refine Walk.call (cr := []) cal11 (htv) rfl .none rfl rfl (LeL.refl _) trivial rfl rfl rfl ?_
 refine ev ?_
 refine sq (fun h1 h1p h1s => ?_) fun h1 h1p h1s => ?_
 ·try simp only [Q] at h1p
  refine Walk.call (cr := []) cal31 (impl_valueOk_fn (valid_wt hs hv) hin hok) rfl (.some rfl rfl h1) rfl rfl (LeL.refl _) trivial rfl rfl rfl ?_
  refine evs [] [(10, true)] ?_ ⟨⟨_, rfl, h1⟩, trivial⟩
  refine rn0 (r1 rfl) (.eqd ?_)
  all_goals (first | rfl | (refine congrArg D.bool ?_; simp_all; done))
 ·try simp only [Q] at h1p
  refine rn0 (r1 rfl) (.eqd ?_)
  all_goals (first | rfl | (refine congrArg D.bool ?_; simp_all; done))
theorem laws_FnTypesOfValue_good {b : Str} (hb : b.length ≤ 1000000000000) {v : Val} {q : Nat} (hm : MutOf (b.take 2000) (mutW (b.take 2000) (vvQ (b.take 2000)) (worldD (b.take 2000) 0)).2 (typV (b.take 2000) 0).1 v q) (hv : worldValid (vvW (b.take 2000)) = true) :
  FnD Try.prog 4 [.d (encBytes b)] [] (.d (.bool true)) [] := by
 have hdr := spec_DrawTypesOfValue_fn hb hm
 have hs := vvW_small (b.take 2000)
 have hsz : v.size ≤ 1000000000 := by have := hm.size; have := (typV_ok (b.take 2000) 0).2.1; omega
 have hok : v.ok := Val.ok_sz v (by omega)
 clear hm
 generalize vvW (b.take 2000) = w at *
 have hw4 := valid_four hv
 have hlen := allTypesOf_len w.length
 have hspec := spec_TypesOfValue_fn hs hok (by omega)
 have himp := FnD.out_frz (k := 2) (xs := (typesOfV w v).map Ty.c) (by intro x hx; obtain ⟨y, _, rfl⟩ := List.mem_map.1 hx; rfl) (show soleN 1 ((typesOfV w v).map Ty.c).length (.ms 1 (typesOfV w v).length) from ⟨rfl, by simp⟩) (impl_TypesOfValue_own hs hv hok)
 have hT : typesOfV w v = (allTypesOf w.length).filter (fun t => isV w t v) := by unfold typesOfV; rw [if_pos hv]
 have hle : (typesOfV w v).length ≤ 17 := by have := List.length_filter_le (fun t => isV w t v) (allTypesOf w.length); rw [hT]; omega
 have hmem : ∀ y ∈ typesOfV w v, y ∈ allTypesOf w.length ∧ isV w y v = true := fun y hy => by rw [hT] at hy; exact List.mem_filter.1 hy
 have hvv : ∀ y ∈ typesOfV w v, FnD Try.prog 15 [.d (encDatas w), .agg [.d (.i y.data), .d (.i y.index)], .agg [.d (.i v.ctor), .d (.i v.num), .d (encVals v.kids)]] [] (.d (.bool true)) [] := fun y hy => by
  have h := impl_ValueValid_v hs hv (a := y.data) (k := y.index) (allTypesOf_ok (hmem y hy).1) (allTypesOf_in (hmem y hy).1) hok
  rw [show isV w ⟨y.data, y.index⟩ v = true from (hmem y hy).2] at h
  exact h
 have hwide : ∀ y ∈ typesOfV w v, (⟨y.data, 0⟩ : Ty) ∈ typesOfV w v := fun y hy => by
  obtain ⟨h1, h2⟩ := hmem y hy
  rw [hT]
  refine List.mem_filter.2 ⟨?_, ?_⟩
  ·simp only [allTypesOf, List.mem_cons, List.mem_flatMap, List.mem_map, List.mem_range] at h1 ⊢
   rcases h1 with rfl | ⟨i, hi, k, hk, rfl⟩
   ·left; rfl
   ·right; exact ⟨i, hi, 0, by omega, rfl⟩
  ·obtain ⟨a, k⟩ := y
   simp only [isV, Bool.and_eq_true] at h2 ⊢
   exact ⟨fits_wide 10 a k v h2.1, h2.2⟩
 have hpt := fun y (hy : y ∈ typesOfV w v) => laws_ptType_fn (l := typesOfV w v) (a := y.data) (k := 0) (by omega)
 have hpt2 : ∀ y ∈ typesOfV w v, FnD Try.prog 16 [.d (encTys (typesOfV w v)), .agg [.d (.i y.data), .d (.i 0)]] [] (.d (.bool true)) [] := fun y hy => by
  have h := hpt y hy
  rw [decide_eq_true (hwide y hy)] at h
  exact h
 refine bd Try.f4 49 [] [] fun w0 F0 own kept hk => ?_
 refine sq (fun h1 h1p h1s => ?_) fun h1 h1p h1s => ?_
 ·try simp only [Q] at h1p
  refine rn0 (r1 rfl) (.eqd ?_)
  all_goals (first | rfl | (exfalso; simp_all; done))
 ·try simp only [Q] at h1p
  refine Walk.call (cr := []) cal12 (hdr) rfl .none rfl rfl (LeL.refl _) trivial rfl rfl rfl ?_
  refine ev ?_
  refine Walk.alloc (id := 3004) tz35 rfl .none rfl rfl rfl rfl ?_
  refine ev ?_
  refine Walk.store ty35 .none rfl rfl rfl rfl rfl rfl (by simp) rfl ?_
  refine tv ?_
  refine Walk.call (cr := []) cal13 (himp) rfl .none rfl rfl (LeL.refl _) trivial rfl rfl rfl ?_
  refine ev ?_
  refine Walk.call (cr := []) cal14 (hspec) rfl .none rfl rfl (LeL.refl _) trivial rfl rfl rfl ?_
  refine Walk.call (cr := []) cal8 (laws_ptTypes_same (l := typesOfV w v) (by omega)) rfl .none rfl rfl (LeL.refl _) trivial rfl rfl rfl ?_
  refine ev ?_
  refine sq (fun h2 h2p h2s => ?_) fun h2 h2p h2s => ?_
  ·try simp only [Q] at h2p
   exfalso; simp at h2 --stop
  ·try simp only [Q] at h2p
   refine CWp.loopX (ι := List (Ty) × List (Ty)) hk (fun x => [(6, .d (.i (x.1.length : Int)))]) [2, 24, 25, 26, 27, 28, 29, 30, 31, 32, 33, 34, 35, 36, 37, 38, 39, 40, 41, 42, 43, 44, 45, 46, 47, 48] (fun x => []) (fun x => x.1 ++ x.2 = typesOfV w v) (fun x => x.2.length) ([], typesOfV w v) (by simp) ⟨⟨_, rfl, (LeA.eqi (by first | rfl | (simp; done) | (simp_all; done) | omega))⟩, trivial⟩ trivial (fun x => rfl) (fun x hg1 => ?_)
   obtain ⟨pre, rest⟩ := x
   dsimp only at hg1 ⊢
   refine evc [] [] ?_
   refine sq (fun h3 h3p h3s => ?_) fun h3 h3p h3s => ?_
   ·try simp only [Q] at h3p
    rcases rest with _ | ⟨y, rest⟩
    ·exfalso; simp_all
    refine Walk.idx sl25 .none rfl rfl rfl rfl (zip_at hg1) rfl ?_
    refine evd [] [] ?_
    refine Walk.call (cr := []) cal15 (hvv y (by rw [← hg1]; simp)) rfl .none rfl rfl (LeL.refl _) trivial rfl rfl rfl ?_
    refine evd [] [] ?_
    refine sq (fun h4 h4p h4s => ?_) fun h4 h4p h4s => ?_
    ·try simp only [Q] at h4p
     exfalso; simp at h4 --stop
    ·try simp only [Q] at h4p
     refine Walk.idx sl25 (.some rfl rfl h4) rfl rfl rfl rfl (zip_at hg1) rfl ?_
     refine evd [] [(38, false)] ?_ ⟨⟨_, rfl, h4⟩, trivial⟩
     refine Walk.build st31 (ks := [0]) (xs := [_]) rfl rfl (.some rfl rfl h4) rfl rfl rfl ?_
     refine Walk.call (cr := []) cal16 (hpt2 y (by rw [← hg1]; simp)) rfl (.some rfl rfl h4) rfl rfl (LeL.refl _) trivial rfl rfl rfl ?_
     refine evd [] [(38, false)] ?_ ⟨⟨_, rfl, h4⟩, trivial⟩
     refine dr ?_
     refine sq (fun h5 h5p h5s => ?_) fun h5 h5p h5s => ?_
     ·try simp only [Q] at h5p
      exfalso; simp_all --stop
     ·try simp only [Q] at h5p
      refine ar ?_
      refine Exists.intro ((pre ++ [y], rest)) ⟨(by have hz := hg1; rw [← hz]; simp), (by simp), Sub.x (by kernel_rfl) (by kernel_rfl) ⟨⟨_, rfl, (LeA.eqi (by first | rfl | (simp; done) | (simp_all; done) | omega))⟩, trivial⟩ (by kernel_rfl) (by kernel_rfl) trivial⟩
   ·try simp only [Q] at h3p
    have hrest : rest = [] := by
     rcases rest with _ | ⟨a, b⟩
     ·rfl
     ·exfalso; have hz := congrArg List.length (hg1); simp only [List.length_append, List.length_cons, List.length_map] at hz; omega
    subst hrest
    refine rn0 (r1 rfl) (.eqd ?_)
    all_goals (first | rfl | (exfalso; simp_all; done))
theorem laws_FnTypesOfValue_bad {b : Str} (hb : b.length ≤ 1000000000000) {v : Val} {q : Nat} (hm : MutOf (b.take 2000) (mutW (b.take 2000) (vvQ (b.take 2000)) (worldD (b.take 2000) 0)).2 (typV (b.take 2000) 0).1 v q) (hv : worldValid (vvW (b.take 2000)) = false) :
  FnD Try.prog 4 [.d (encBytes b)] [] (.d (.bool true)) [] := by
 have hdr := spec_DrawTypesOfValue_fn hb hm
 have hs := vvW_small (b.take 2000)
 have hsz : v.size ≤ 1000000000 := by have := hm.size; have := (typV_ok (b.take 2000) 0).2.1; omega
 have hok : v.ok := Val.ok_sz v (by omega)
 clear hm
 generalize vvW (b.take 2000) = w at *
 have hspec := spec_TypesOfValue_fn hs hok (by omega)
 rw [show typesOfV w v = [] by unfold typesOfV; rw [if_neg (by rw [hv]; simp)]] at hspec
 refine bd Try.f4 49 [] [] fun w0 F0 own kept hk => ?_
 refine sq (fun h1 h1p h1s => ?_) fun h1 h1p h1s => ?_
 ·try simp only [Q] at h1p
  refine rn0 (r1 rfl) (.eqd ?_)
  all_goals (first | rfl | (refine congrArg D.bool ?_; simp; done))
 ·try simp only [Q] at h1p
  refine Walk.call (cr := []) cal12 (hdr) rfl .none rfl rfl (LeL.refl _) trivial rfl rfl rfl ?_
  refine ev ?_
  refine Walk.alloc (id := 3004) tz35 rfl .none rfl rfl rfl rfl ?_
  refine ev ?_
  refine Walk.store ty35 .none rfl rfl rfl rfl rfl rfl (by simp) rfl ?_
  refine tv ?_
  refine Walk.call (cr := []) cal13 (impl_TypesOfValue_bad hs hv hok) rfl .none rfl rfl (LeL.refl _) trivial rfl rfl rfl ?_
  refine ev ?_
  refine Walk.call (cr := []) cal14 (hspec) rfl .none rfl rfl (LeL.refl _) trivial rfl rfl rfl ?_
  refine Walk.call (cr := []) cal8 (laws_ptTypes_same (l := []) (by simp)) rfl .none rfl rfl (LeL.refl _) trivial rfl rfl rfl ?_
  refine ev ?_
  refine sq (fun h2 h2p h2s => ?_) fun h2 h2p h2s => ?_
  ·try simp only [Q] at h2p
   exfalso; simp at h2 --stop
  ·try simp only [Q] at h2p
   refine CWp.loopX (ι := Unit) hk (fun x => [(6, .d (.i 0))]) [2, 24, 25, 26, 27, 28, 29, 30, 31, 32, 33, 34, 35, 36, 37, 38, 39, 40, 41, 42, 43, 44, 45, 46, 47, 48] (fun x => []) (fun x => True) (fun x => 0) () trivial ⟨⟨_, rfl, (LeA.eqi (by first | rfl | (simp; done) | (simp_all; done) | omega))⟩, trivial⟩ trivial (fun x => rfl) (fun x hg1 => ?_)
   refine evc [] [] ?_
   refine sq (fun h3 h3p h3s => ?_) fun h3 h3p h3s => ?_
   ·try simp only [Q] at h3p
    exfalso; simp at h3 --stop
   ·try simp only [Q] at h3p
    refine rn0 (r1 rfl) (.eqd ?_)
    all_goals (first | rfl | (refine congrArg D.bool ?_; simp; done))
theorem laws_FnTypesOfValue_fn {b : Str} (hb : b.length ≤ 1000000000000) : FnD Try.prog 4 [.d (encBytes b)] [] (.d (.bool true)) [] := by
 have hb2 : (b.take 2000).length ≤ 2000 := by rw [List.length_take]; omega
 obtain ⟨v, q, hm⟩ := mut_of hb2 (p := (mutW (b.take 2000) (vvQ (b.take 2000)) (worldD (b.take 2000) 0)).2) (by have := vvQ_bd (b.take 2000); have := mutW_bd (b.take 2000) (vvQ (b.take 2000)) (worldD (b.take 2000) 0); omega) (typV (b.take 2000) 0).1
 cases hv : worldValid (vvW (b.take 2000)) with
 | true => exact laws_FnTypesOfValue_good hb hm hv
 | false => exact laws_FnTypesOfValue_bad hb hm hv
end Go.Proofs.Ytflgpdjbgfkhoaa
namespace Go.Proofs.Ytflgpdjbgfkhoaa
open Go Go.ChangeShapes Go.WideShapes Go.ChangeAt Go.RowKit
set_option linter.unusedSimpArgs false
set_option linter.unusedVariables false
set_option linter.unusedVariables false
def FW (W : World) (b : Nat) : Nat := match W.heap[b]? with
 | some (.cells cs _ _) => cs.size
 | _ => 0
theorem FW_cell {W : World} {b o : Nat} {v : Value} (h : W.cell? ⟨b, o, none⟩ = some v) : o < FW W b := by
 unfold World.cell? at h
 unfold FW
 simp only at h
 split at h
 ·rename_i c t fr hb
  simp only [hb]
  simp only [Option.isSome_none, Bool.false_eq_true, if_false] at h
  exact (Array.getElem?_eq_some_iff.1 h).1
 ·cases h
theorem FW_top {W : World} {b : Nat} (h : W.heap.size ≤ b) : FW W b = 0 := by
 unfold FW
 rw [Array.getElem?_eq_none h]
structure RelL (W : World) (xs : List D) (cs : List Value) : Prop where
 len : xs.length = cs.length
 rel : ∀ i (h1 : i < xs.length) (h2 : i < cs.length), RelD (FW W) W xs[i] cs[i]
theorem RelL.append {W : World} {xs ys : List D} {cs ds : List Value} (h : RelL W xs cs) (k : RelL W ys ds) : RelL W (xs ++ ys) (cs ++ ds) := by
 refine ⟨by simp [h.len, k.len], fun i h1 h2 => ?_⟩
 by_cases hi : i < xs.length
 ·rw [List.getElem_append_left hi, List.getElem_append_left (by rw [← h.len]; exact hi)]
  exact h.rel i hi (by rw [← h.len]; exact hi)
 ·have hl := h.len
  rw [List.getElem_append_right (by omega), List.getElem_append_right (by omega)]
  have e : i - xs.length = i - cs.length := by omega
  have h1' : i - xs.length < ys.length := by simp only [List.length_append] at h1; omega
  have h2' : i - cs.length < ds.length := by simp only [List.length_append] at h2; omega
  have := k.rel (i - xs.length) h1' (by omega)
  simp only [e] at this ⊢
  exact this
def Dec (P : Program) (W : World) (n : Nat) (t : TypeId) {α : Type} (f : α → List D) (m : α → Nat) (R : α → Prop) : Prop :=
 ∀ (H : Type) (enc : TypeId × Value → H) (cs : List Value) (x : DataW H × List MemPlace), DataW.trod enc P W 0 (fun _ => true) true n t cs = some x →
  ∃ a, RelL W (f a) cs ∧ m a + 1 ≤ Rows.uptoBulk x.1 ∧ R a
section
variable {P : Program} {W : World} {n : Nat} {t : TypeId}
theorem Dec.zero {α : Type} {f : α → List D} {m : α → Nat} {R : α → Prop} : Dec P W 0 t f m R := fun H enc cs x h => by simp [DataW.trod] at h
theorem Dec.map {α β : Type} {f : α → List D} {m : α → Nat} {R : α → Prop} {f' : β → List D} {m' : β → Nat} {R' : β → Prop} (g : α → β) (h : Dec P W n t f m R)
  (h1 : ∀ a, f' (g a) = f a) (h2 : ∀ a, m' (g a) ≤ m a) (h3 : ∀ a, R a → R' (g a)) : Dec P W n t f' m' R' := fun H enc cs x hx => by
 obtain ⟨a, q1, q2, q3⟩ := h H enc cs x hx
 exact ⟨g a, by rw [h1]; exact q1, by have := h2 a; omega, h3 a q3⟩
theorem RelL.one {x : D} {v : Value} (h : RelD (FW W) W x v) : RelL W [x] [v] :=
 ⟨rfl, fun i h1 h2 => by
  have : i = 0 := by simp at h1; omega
  subst this
  exact h⟩
theorem Dec.int {k : IntKind} (ht : P.underlying t = some (.int k)) : Dec P W n t (fun z : Int => [.int k z]) (fun _ => 0) (fun z => (Lit.int k z).wf = true) := fun H enc cs x h => by
 obtain ⟨z, rfl, rfl, hw⟩ := DataW.trod_int ht h
 exact ⟨z, .one (.int k z), by simp [Rows.uptoBulk], hw⟩
theorem Dec.bool (ht : P.underlying t = some .bool) : Dec P W n t (fun z : Bool => [.bool z]) (fun _ => 0) (fun _ => True) := fun H enc cs x h => by
 obtain ⟨z, rfl, rfl⟩ := DataW.trod_bool ht h
 exact ⟨z, .one (.bool z), by simp [Rows.uptoBulk], trivial⟩
theorem Dec.str (ht : P.underlying t = some .string) : Dec P W n t (fun s : Str => [.str s]) (fun s => s.length) (fun _ => True) := fun H enc cs x h => by
 obtain ⟨s, rfl, rfl, hw⟩ := DataW.trod_string ht h
 exact ⟨s.data.toList, .one (by have := RelD.str (F := FW W) (w := W) s.data.toList; simpa using this), by simp [Rows.uptoBulk], trivial⟩
def sumM {α : Type} (m : α → Nat) : List α → Nat
 | [] => 0
 | a :: r => m a + 1 + sumM m r
theorem sumM_len {α : Type} (m : α → Nat) : ∀ l : List α, l.length ≤ sumM m l
 | [] => by simp [sumM]
 | a :: r => by have := sumM_len m r; simp only [sumM, List.length_cons]; omega
theorem choose_list {α β : Type} {Q : Nat → α → β → Prop} : ∀ (l : List β) (o : Nat), (∀ i (h : i < l.length), ∃ a, Q (o + i) a l[i]) → ∃ zs : List α, zs.length = l.length ∧ ∀ i (h : i < l.length) (h' : i < zs.length), Q (o + i) zs[i] l[i]
 | [], o, _ => ⟨[], rfl, fun i h => by simp at h⟩
 | b :: r, o, h => by
  obtain ⟨a, ha⟩ := h 0 (by simp)
  obtain ⟨zs, h1, h2⟩ := choose_list (Q := Q) r (o + 1) (fun i hi => by
   have := h (i + 1) (by simp; omega)
   rw [show o + 1 + i = o + (i + 1) by omega]
   simpa using this)
  refine ⟨a :: zs, by simp [h1], fun i hi hi' => ?_⟩
  cases i with
  | zero => exact ha
  | succ i =>
   have := h2 i (by simpa using hi) (by simpa using hi')
   rw [show o + 1 + i = o + (i + 1) by omega] at this
   simpa using this
theorem bulk_sum {H α : Type} {m : α → Nat} : ∀ {zs : List α} {xs : List (DataW H)}, zs.length = xs.length → (∀ i (h : i < zs.length) (h' : i < xs.length), m zs[i] + 1 ≤ Rows.uptoBulk xs[i]) → sumM m zs ≤ Rows.uptoBulkAll xs
 | [], [], _, _ => by simp [sumM, Rows.uptoBulkAll]
 | a :: zs, x :: xs, hl, h => by
  have h0 := h 0 (by simp) (by simp)
  have ih := bulk_sum (m := m) (zs := zs) (xs := xs) (by simpa using hl) (fun i h1 h2 => by
   have := h (i + 1) (by simp; omega) (by simp; omega)
   simpa using this)
  simp only [sumM, Rows.uptoBulkAll]
  simp only [List.getElem_cons_zero] at h0
  omega
 | [], _ :: _, hl, _ => by simp at hl
 | _ :: _, [], hl, _ => by simp at hl
theorem Dec.sl {α : Type} {f : α → List D} {m : α → Nat} {R : α → Prop} {e : TypeId} {k : Nat} (ht : P.underlying t = some (.slice e)) (hc : P.cellsOf e = k + 1) (hk : ∀ a, (f a).length = k + 1) (he : Dec P W n e f m R) :
  Dec P W (n + 1) t (fun l : List α => [.sl (l.map f)]) (fun l => sumM m l) (fun l => ∀ a ∈ l, R a) := fun H enc cs x h => by
 rcases DataW.trod_slice ht h with ⟨rfl, rfl⟩ | ⟨a, len, cap, elems, rest, n', hn, rfl, rfl, _, hcap, _, hlen, hel, _, _⟩
 ·exact ⟨[], .one .nil, by simp [sumM, Rows.uptoBulk], fun a h => by simp at h⟩
 obtain rfl : n = n' := by omega
 have each : ∀ i (hi : i < elems.length), ∃ y, (∃ cs, W.cells? 0 (a.add (i * (k + 1))) (k + 1) = some cs ∧ RelL W (f y) cs) ∧ m y + 1 ≤ Rows.uptoBulk (elems[i]).1 ∧ R y := by
  intro i hi
  have := hel i (by omega)
  rw [hc, List.getElem?_eq_getElem hi, Option.bind_eq_some_iff] at this
  obtain ⟨cs, h1, h2⟩ := this
  obtain ⟨y, h3, h4, h5⟩ := he H enc cs _ h2
  exact ⟨y, ⟨cs, h1, h3⟩, h4, h5⟩
 obtain ⟨zs, hal, has⟩ := choose_list (Q := fun i y (el : DataW H × List MemPlace) => (∃ cs, W.cells? 0 (a.add (i * (k + 1))) (k + 1) = some cs ∧ RelL W (f y) cs) ∧ m y + 1 ≤ Rows.uptoBulk el.1 ∧ R y) elems 0 (fun i hi => by simpa using each i hi)
 refine ⟨zs, .one ?_, ?_, fun y hy => ?_⟩
 ·by_cases h0 : zs = []
  ·subst h0
   have hz : len = 0 := by simp at hal; omega
   subst hz
   obtain ⟨b, o, s⟩ := a
   cases s with
   | none => exact .sl [] 0 b o cap (fun _ => undef) (by simp) (by simp) (fun n hn => by simp at hn) (fun i hi => by simp at hi)
   | some s => exact .emp b o s cap
  ·have hpos : 0 < zs.length := List.length_pos_iff.2 h0
   obtain ⟨⟨cs0, hc0, hr0⟩, _⟩ := has 0 (by omega) hpos
   have hspot : a.spot = none := by
    have h1 := (World.cells?_some hc0).2.2 0 (by omega)
    have h2 : 0 < cs0.length := by have := (World.cells?_some hc0).2.1; omega
    simp only [Nat.add_zero, Nat.zero_mul, Addr.add, if_true, List.getElem?_eq_getElem h2] at h1
    unfold World.cell? at h1
    split at h1
    ·cases hs : a.spot with
     | none => rfl
     | some s => simp [hs] at h1
    ·cases h1
   obtain ⟨b, o, s⟩ := a
   simp only at hspot
   subst hspot
   have hlen' : (zs.map f).length = len := by simp; omega
   have hmulk : ∀ i j, i < zs.length → j < k + 1 → i * (k + 1) + j < zs.length * (k + 1) := fun i j hi hj => by
    have : (i + 1) * (k + 1) ≤ zs.length * (k + 1) := Nat.mul_le_mul_right _ (by omega)
    rw [Nat.add_mul, Nat.one_mul] at this
    omega
   have cellAt : ∀ i (hi : i < zs.length) j (hj : j < (f zs[i]).length), ∃ v, W.cell? ⟨b, o + (i * (k + 1) + j), none⟩ = some v ∧ RelD (FW W) W ((f zs[i])[j]) v := fun i hi j hj => by
    obtain ⟨⟨cs, hc1, hr1⟩, _⟩ := has i (by omega) hi
    have hjk : j < k + 1 := by have := hk zs[i]; omega
    obtain ⟨_, q1, q2⟩ := World.cells?_some hc1
    have q3 := q2 j hjk
    rw [List.getElem?_eq_getElem (by omega)] at q3
    refine ⟨cs[j], ?_, hr1.rel j hj (by omega)⟩
    rw [← q3]
    congr 1
    simp only [Nat.zero_add, Addr.add]
    split <;> split <;> simp_all <;> omega
   have hv : ((zs.map f).length, cap) = (len, cap) := by rw [hlen']
   have goal : RelD (FW W) W (.sl (zs.map f)) (.slice (some ⟨b, o, none⟩) (zs.map f).length cap) := by
    refine .sl _ (k + 1) b o cap (fun q => (W.cell? ⟨b, o + q, none⟩).getD undef) (fun y hy => ?_) (by omega) (fun q hq => ?_) (fun i hi j hj => ?_)
    ·obtain ⟨y', _, rfl⟩ := List.mem_map.1 hy; exact hk y'
    ·have hq' : q < zs.length * (k + 1) := by simpa using hq
     have hi : q / (k + 1) < zs.length := Nat.div_lt_of_lt_mul (by rw [Nat.mul_comm]; exact hq')
     have hj : q % (k + 1) < k + 1 := Nat.mod_lt _ (by omega)
     obtain ⟨v, h1, _⟩ := cellAt _ hi (q % (k + 1)) (by rw [hk]; exact hj)
     rw [Nat.div_add_mod'] at h1
     exact ⟨FW_cell h1, by rw [h1]; rfl⟩
    ·have hi' : i < zs.length := by simpa using hi
     simp only [List.getElem_map] at hj ⊢
     obtain ⟨v, h1, h2⟩ := cellAt i hi' j hj
     show RelD (FW W) W _ ((W.cell? ⟨b, o + (i * (k + 1) + j), none⟩).getD undef)
     rw [h1]
     exact h2
   rw [hlen'] at goal
   exact goal
 ·have := bulk_sum (m := m) (zs := zs) (xs := elems.map (·.1)) (by simp [hal]) (fun i h1 h2 => by
   have := (has i (by simpa using h2) h1).2.1
   simpa using this)
  simp only [Rows.uptoBulk]
  omega
 ·obtain ⟨i, hi, rfl⟩ := List.getElem_of_mem hy
  exact (has i (by omega) hi).2.2
def DecF (P : Program) (W : World) (n o K : Nat) (fs : List Field) {α : Type} (f : α → List D) (m : α → Nat) (R : α → Prop) : Prop :=
 ∀ (H : Type) (enc : TypeId × Value → H) (cs : List Value) (xs : List (DataW H × List MemPlace)), cs.length = K → xs.length = fs.length →
  (∀ (i : Nat) (fd : Field), fs[i]? = some fd → DataW.trod enc P W 0 (fun _ => true) true n fd.type ((cs.drop fd.offset).take (P.cellsOf fd.type)) = xs[i]?) →
  ∃ a, RelL W (f a) (cs.drop o) ∧ m a ≤ Rows.uptoBulkAll (xs.map (·.1)) ∧ R a
theorem DecF.nil {K : Nat} : DecF P W n K K [] (fun _ : Unit => []) (fun _ => 0) (fun _ => True) := fun H enc cs xs h1 h2 _ =>
 ⟨(), by rw [List.drop_of_length_le (by omega)]; exact ⟨rfl, fun i h => by simp at h⟩, by simp, trivial⟩
theorem DecF.cons {α β : Type} {f : α → List D} {m : α → Nat} {R : α → Prop} {f2 : β → List D} {m2 : β → Nat} {R2 : β → Prop} {o K k : Nat} {fd : Field} {fs : List Field}
  (h1 : Dec P W n fd.type f m R) (ho : fd.offset = o) (hc : P.cellsOf fd.type = k) (h2 : DecF P W n (o + k) K fs f2 m2 R2) :
  DecF P W n o K (fd :: fs) (fun p : α × β => f p.1 ++ f2 p.2) (fun p => m p.1 + 1 + m2 p.2) (fun p => R p.1 ∧ R2 p.2) := fun H enc cs xs hK hl hx => by
 cases xs with
 | nil => simp at hl
 | cons y ys =>
  have h0 := hx 0 fd (by simp)
  simp only [List.getElem?_cons_zero] at h0
  rw [ho, hc] at h0
  obtain ⟨a, q1, q2, q3⟩ := h1 H enc _ _ h0
  obtain ⟨b, r1, r2, r3⟩ := h2 H enc cs ys hK (by simpa using hl) (fun i fd' hi => by
   have := hx (i + 1) fd' (by simpa using hi)
   simpa using this)
  refine ⟨(a, b), ?_, ?_, q3, r3⟩
  ·have : cs.drop o = (cs.drop o).take k ++ cs.drop (o + k) := by
    rw [← List.drop_drop, List.take_append_drop]
   rw [this]
   exact q1.append r1
  ·simp only [List.map_cons, Rows.uptoBulkAll]
   omega
theorem Dec.struct {α : Type} {f : α → List D} {m : α → Nat} {R : α → Prop} {fs : Array Field} (ht : P.underlying t = some (.struct fs)) {K : Nat} (hK : P.cellsOf t = K) (h : DecF P W n 0 K fs.toList f m R) :
  Dec P W (n + 1) t f m R := fun H enc cs x hx => by
 obtain ⟨xs, n', hn, rfl, hl, hxl, hf⟩ := DataW.trod_struct ht hx
 obtain rfl : n = n' := by omega
 obtain ⟨a, q1, q2, q3⟩ := h H enc cs xs (by omega) (by simpa using hxl) (fun i fd hi => hf i fd (by simpa using hi))
 refine ⟨a, by simpa using q1, ?_, q3⟩
 simp only [Rows.uptoBulk]
 omega
end
section
variable {P : Program} {W : World} {base : Nat} {t : TypeId} {v : Value} {H : Type} {enc : TypeId × Value → H} {d : DataW H} {ps : List MemPlace}
theorem arg_sl {α : Type} {e : TypeId} {f : α → List D} {m : α → Nat} {R : α → Prop} {k : Nat} (ht : P.underlying t = some (.slice e)) (hc : P.cellsOf e = k + 1) (hk : ∀ a, (f a).length = k + 1) (hd : ∀ n, Dec P W n e f m R)
  (hval : Value.okWide P W .any base t v) (h : DataW.Trod enc P W 0 (fun _ => true) true t v d ps) :
  ∃ l : List α, (∀ G T, G.F = FW W → RelA G T W (.d (.sl (l.map f))) v) ∧ sumM m l + 1 ≤ Rows.uptoBulk d ∧ ∀ a ∈ l, R a := by
 obtain ⟨n, hn⟩ := h
 cases n with
 | zero => simp [DataW.trod] at hn
 | succ n =>
  obtain ⟨l, h1, h2, h3⟩ := Dec.sl ht hc hk (hd n) H enc _ _ hn
  have hcells : v.cells.toList = [v] := by
   cases v with
   | agg cs => simp only [Value.okWide, ht, Cell.okWide, Cell.ok] at hval
   | _ => rfl
  rw [hcells] at h1
  exact ⟨l, fun G T hG => .d (by rw [hG]; simpa using h1.rel 0 (by simp) (by simp)), h2, h3⟩
end
section
variable {P : Program} {H : Type} {enc : TypeId × Value → H}
theorem trodAll_below (hl : laidOutB P = true) {W W' : World} (hb : Below W.heap.size W W') : ∀ {ts : List TypeId} {vs : List Value} {ds : List (DataW H)} {ps : List MemPlace},
  (∀ t ∈ ts, P.readableRec t = true ∧ t < P.types.size) → DataW.TrodAll enc P W 0 (fun _ => true) true ts vs ds ps → (∀ x ∈ ps, x.block < W.heap.size) →
  DataW.TrodAll enc P W' 0 (fun b => decide (b < W.heap.size)) true ts vs ds ps
 | [], [], [], ps, _, h, _ => h
 | t :: ts, v :: vs, d :: ds, ps, hr, h, hlt => by
  obtain ⟨p, q, h1, h2, rfl⟩ := h
  exact ⟨p, q, Below.trod hl (hr t (by simp)).1 (hr t (by simp)).2 h1 hb (fun x hx => hlt x (by simp [hx])),
   trodAll_below hl hb (fun t ht => hr t (by simp [ht])) h2 (fun x hx => hlt x (by simp [hx])), rfl⟩
theorem law_post {f : Func} {s : ChangeSpec} {W W' : World} {args : Array Value} {ds gs : List (DataW H)} {before : List MemPlace} {tb : TypeId}
  (hW : DataW.Whole enc P f.params.toList s.vars false W args.toList ds gs before) (hvars : s.vars = []) (hrt : f.resultTypes = #[tb]) (htb : P.underlying tb = some .bool)
  (hs : s.fn H (ds ++ gs) = { results := [.lit (.bool true)], args := ds }) (hl : laidOutB P = true) (hr : ∀ t ∈ f.params.toList, P.readableRec t = true ∧ t < P.types.size)
  (hb : Below W.heap.size W W') : s.post enc P f false true false false W args (.bool true) W' := by
 have hlt : ∀ p ∈ before, p.block < W.heap.size := fun p hp => hW.lt p hp
 have hW0 := hW
 obtain ⟨p, q, hA, hV, rfl, hfz, _⟩ := hW
 rw [hvars] at hV
 cases gs with
 | cons g gs => exact hV.elim
 | nil =>
  have hq : q = [] := hV
  subst hq
  simp only [List.append_nil] at *
  refine ⟨ds, [], p, [], p, [], by simpa [hvars] using hW0, ?_, ?_, ?_, World.keptBut_mono (fun x hx => ⟨hx, .inr (.inl hx)⟩) (hb.frame (· ∈ p)), fun h => by cases h⟩
  ·simp only [List.append_nil, hs, hrt]
   exact trodAll_cons_mk (shut_bool htb _) trodAll_mk0
  ·simp only [List.append_nil, hs]
   exact trodAll_below hl hb hr hA hlt
  ·simp only [hvars, List.append_nil, hs]
   rfl
theorem law_calls {f : FuncId} {avs : List AV} {W : World} {args : Array Value} {r : AV} (hf : FnD P f avs [] r [])
  (hargs : ∀ G T, G.F = FW W → AllR G T W avs args) : Calls P f args W fun e W' => ∃ v G', e = .returned v ∧ RelA G' (fun _ => none) W' r v ∧ Below W.heap.size W W' := by
 let G : Gh := { F := FW W, loc := fun _ => [] }
 refine (hf G W args ⟨hargs G _ rfl, fun id r h => (by simp [getH] at h), fun id id' h => (by simp [getH] at h), fun b hb => FW_top hb⟩).mono ?_
 rintro e W' ⟨v, r', hp', G', rfl, ⟨rfl, rfl⟩, h⟩
 exact ⟨v, G', rfl, h.res, ⟨h.frm.os, h.frm.tape, h.frm.output, h.frm.size, fun b hb => (h.frm.block b hb (by simp [ownedL])).1⟩⟩
theorem RelA.bool_true {G : Gh} {T : TokF} {w : World} {v : Value} (h : RelA G T w (.d (.bool true)) v) : v = .bool true := by
 cases h with | d h => cases h; rfl
theorem bound_of {H : Type} {l : List (DataW H)} (hk : Rows.uptoSmall H l = true) : Rows.uptoBulkAll l ≤ 1048576 := of_decide_eq_true hk
end
end Go.Proofs.Ytflgpdjbgfkhoaa
namespace Go.Proofs.Ytflgpdjbgfkhoaa
open Go Go.ChangeShapes Go.WideShapes Go.ChangeAt Go.RowKit
set_option linter.unusedSimpArgs false
set_option linter.unusedVariables false
set_option maxRecDepth 100000
theorem decByte (W : World) (n : Nat) : Dec Try.prog W n 5 (fun x : UInt8 => [D.int .u8 (x.toNat : Int)]) (fun _ => 0) (fun _ => True) := fun H enc cs x hx => by
 obtain ⟨z, q1, q2, q3⟩ := Dec.int (k := .u8) Try.underlying5 H enc cs x hx
 have h : 0 ≤ z ∧ z ≤ 255 := by
  simp [Lit.wf, IntKind.wrap, IntKind.signed, IntKind.bits, IntKind.min, IntKind.max] at q3
  omega
 refine ⟨UInt8.ofNat z.toNat, ?_, q2, trivial⟩
 have e : (((UInt8.ofNat z.toNat).toNat : Nat) : Int) = z := by
  rw [UInt8.toNat_ofNat', Nat.mod_eq_of_lt (by omega)]; omega
 show RelL W [D.int .u8 (((UInt8.ofNat z.toNat).toNat : Nat) : Int)] cs
 rw [e]; exact q1
end Go.Proofs.Ytflgpdjbgfkhoaa
namespace Go.Proofs.Ytflgpdjbgfkhoaa.fnTypesOfValue
open Go Go.ChangeShapes Go.WideShapes Go.ChangeAt Go.RowKit
set_option linter.unusedSimpArgs false
set_option linter.unusedVariables false
theorem own : ownKnob Try.prog.godebug = none := by kernel_rfl
theorem laidOut : laidOutB Try.prog = true := by kernel_rfl
set_option maxRecDepth 100000 in
theorem contract (H : Type) (enc : TypeId × Value → H) (W : World) (base : Nat) (args : Array Value) (ds gs : List (DataW H)) (before : List MemPlace)
  (hval : ∀ (j : Nat) t v, Try.f4.params[j]? = some t → args[j]? = some v → Value.okWide Try.prog W .any base t v)
  (hW : DataW.Whole enc Try.prog Try.f4.params.toList Rows.fnTypesOfValueSpec.vars false W args.toList ds gs before) (hk : Rows.uptoSmall H (ds ++ gs) = true) :
  Calls Try.prog 4 args W fun e W' => ∃ v, e = .returned v ∧ Rows.fnTypesOfValueSpec.post enc Try.prog Try.f4 false true false false W args v W' := by
 have hb := bound_of hk
 have hW' := hW
 obtain ⟨p, q, hA0, hV, rfl, hfz, hnd⟩ := hW
 have hA : DataW.TrodAll enc Try.prog W 0 (fun _ => true) true Try.f4.params.toList args.toList ds p := hA0
 rw [Try.params4] at hA hval
 obtain ⟨v0, vs0, d0, ds0, p0, q0, hargs, rfl, rfl, h0, r0⟩ := trodAll_cons hA
 obtain ⟨rfl, rfl, rfl⟩ := trodAll_nil r0
 obtain rfl : args = #[v0] := by cases args; simp_all
 obtain ⟨rfl, rfl⟩ := trodVars_none hV
 simp only [List.append_nil, Rows.uptoBulkAll] at hb
 obtain ⟨code, a0, b0, _⟩ := arg_sl (k := 0) Try.underlying22 (by kernel_rfl) (fun _ => rfl) (decByte W) (hval 0 _ v0 rfl rfl) h0
 have ln_code : code.length ≤ 1000000000000 := by have := sumM_len (fun _ : UInt8 => 0) code; omega
 refine (law_calls ((laws_FnTypesOfValue_fn ln_code)) (W := W) (args := #[v0]) (fun G T hG => ⟨rfl, fun i hi hv => ?_⟩)).mono ?_
 ·match i, hi with
  | 0, _ => exact a0 G T hG
 ·rintro e W' ⟨v, G', rfl, hr, hbelow⟩
  obtain rfl := hr.bool_true
  exact ⟨_, rfl, law_post hW' rfl rfl Try.underlying4 rfl laidOut (fun t ht => by
   simp only [Try.params4, List.mem_cons, List.not_mem_nil, or_false] at ht
   rcases ht with rfl <;> exact ⟨by kernel_rfl, of_decide_eq_true (by kernel_rfl)⟩) hbelow⟩
set_option maxRecDepth 100000 in
theorem lifted (os : Os) (started : os.Started) (H : Type) (enc : TypeId × Value → H) (F : Stop.Interp) :
  ReturnsInHanded {} Try.checked os 4 .any ((Rows.OpenSpec.upto Rows.fnTypesOfValueSpec).pre6 enc Try.prog Try.f4 Rows.fnTypesOfValueUptoRow.domain false) (((Rows.OpenSpec.upto Rows.fnTypesOfValueSpec).at F).post enc Try.prog Try.f4 false true false false) := by
 refine returnsInHanded_of_cond (C := Try.checked) (s := Rows.OpenSpec.upto Rows.fnTypesOfValueSpec) (k := Rows.uptoSmall) rfl own started (by kernel_rfl) Try.func4
  (OpenSpec.witness (enc := enc) (C := Try.checked) (s := Rows.OpenSpec.upto Rows.fnTypesOfValueSpec) (k := Rows.uptoSmall) rfl false ⟨#[], #[.slice none 0 0], []⟩ 8 (by kernel_rfl) (by kernel_rfl) (by kernel_rfl)
   (x := ([.nil], [], [])) (by kernel_rfl) rfl (by kernel_rfl)) ?_
 intro W base args ds gs before hval hW _ hk _
 exact contract H enc W base args ds gs before hval hW hk
theorem kf1 : (Rows.fnTypesOfValueUptoRow.inPlace == Try.pinned.checked.prog.inPlace 4) = true := by kernel_rfl
theorem kf2 : (Rows.fnTypesOfValueUptoRow.unfollowed == Try.pinned.checked.prog.unfollowed 4) = true := by kernel_rfl
theorem kf3 : (Rows.fnTypesOfValueUptoRow.recurses == Try.pinned.checked.prog.recurses 4) = true := by kernel_rfl
theorem kf4 : (Rows.fnTypesOfValueUptoRow.named == Try.pinned.checked.prog.varsNamed 4) = true := by kernel_rfl
theorem kf5 : laidOutB Try.pinned.checked.prog = true := by kernel_rfl
theorem kf6 : mapsRowed Try.pinned.checked.prog = true := by kernel_rfl
theorem kf7 : Try.pinned.checked.prog.stopsHeard = true := by kernel_rfl
theorem kf8 : Try.pinned.checked.prog.mayEnter = true := by kernel_rfl
theorem kf9 : (Rows.fnTypesOfValueUptoRow.lifted == Try.pinned.checked.prog.liftsFinal) = true := by kernel_rfl
theorem kf0 : (Rows.fnTypesOfValueUptoRow.plainKeys == Try.pinned.checked.prog.plainKeys) = true := by kernel_rfl
theorem facts : joinedFacts Try.pinned.checked.prog 4 Try.f4 (Rows.OpenSpec.upto Rows.fnTypesOfValueSpec).bare Rows.fnTypesOfValueUptoRow = true := by
 unfold joinedFacts
 rw [kf1, kf2, kf3, kf4, kf5, kf6, kf7, kf8, kf9, kf0]
 kernel_rfl
theorem named : Try.pinned.checked.prog.funcNamed Rows.fnTypesOfValueUptoRow.func = some 4 := by kernel_rfl
theorem over : Rows.fnTypesOfValueUptoRow.holds Try.pinned (Rows.OpenSpec.upto Rows.fnTypesOfValueSpec) :=
 OpenClaim.holds_of_cond 4 Try.f4 rfl rfl rfl rfl rfl rfl rfl ⟨rfl, rfl, rfl, rfl, rfl⟩ rfl rfl rfl rfl rfl named Try.func4 facts
  (of_decide_eq_true (by as_aux_lemma => kernel_rfl)) (by as_aux_lemma => unfold Func.isWrapper; first | (rw [if_pos (by decide +kernel)]; kernel_rfl) | (rw [if_neg (by decide +kernel)]; exact ⟨rfl, rfl⟩))
  (fun os started H enc _ F => lifted os started H enc F)
theorem proved : Rows.FnTypesOfValueUptoSaid := over
end Go.Proofs.Ytflgpdjbgfkhoaa.fnTypesOfValue
