/-
  THE LAW FnExactDescendingFun: whatever the arguments of bulk at most 1048576 are, the call returns true, and the arguments read as before.
  Conditions: the bulk alone.
-/
import Derived.Test.YtdgknigklgnefaaGreatT4
namespace Go.Proofs.YtdgknigklgnefaaGreat
open Go
set_option linter.unusedSimpArgs false
set_option linter.unusedVariables false
set_option maxRecDepth 100000
set_option maxHeartbeats 2000000
def ClsSz (l : List Cl) : Prop := ∀ c ∈ l, c.pat.size ≤ 1000000000000
def FusSz (l : List Fu) : Prop := ∀ f ∈ l, ClsSz f.cls ∧ ∀ e ∈ f.bodies, e.size ≤ 1000000000000
theorem tv_ok {w : List Data} {t : Ty} (h : typeValid w t = true) : TyOk w.length t := by
 unfold typeValid at h; rw [Bool.and_eq_true] at h; exact typeOk_ok h.2
theorem cls_at {w : List Data} {t : Ty} {l : List Cl} {i : Nat} (hi : i < l.length) (h : clOk w t (nth l i) = false) : clsValid w t l = false := by
 unfold clsValid
 have : l.any (fun c => !clOk w t c) = true := List.any_eq_true.2 ⟨nth l i, nth_mem hi, by rw [h]; rfl⟩
 rw [this]; simp
theorem cls_all {w : List Data} {t : Ty} {l : List Cl} (ht : typeValid w t = true) (hl : l.length ≤ 8) (h : ∀ i, i < l.length → clOk w t (nth l i) = true) : clsValid w t l = true := by
 unfold clsValid
 rw [ht, decide_eq_true (by omega), Bool.true_and, Bool.true_and, Bool.not_eq_true', List.any_eq_false]
 intro c hc
 obtain ⟨i, hi, rfl⟩ := List.getElem_of_mem hc
 have := h i hi
 simp only [nth, List.getD, List.getElem?_eq_getElem hi, Option.getD_some] at this
 simp [this]
theorem cls_len {w : List Data} {t : Ty} {l : List Cl} (h : 8 < l.length) : clsValid w t l = false := by
 unfold clsValid; rw [decide_eq_false (by omega), Bool.false_and, Bool.and_false]
theorem cls_tv {w : List Data} {t : Ty} {l : List Cl} (h : typeValid w t = false) : clsValid w t l = false := by
 unfold clsValid; rw [h, Bool.false_and]
theorem cls_facts {w : List Data} {t : Ty} {l : List Cl} (h : clsValid w t l = true) : typeValid w t = true ∧ l.length ≤ 8 ∧ ∀ i, i < l.length → clOk w t (nth l i) = true := by
 unfold clsValid at h
 simp only [Bool.and_eq_true, decide_eq_true_eq, Bool.not_eq_true', List.any_eq_false, Bool.not_eq_false'] at h
 refine ⟨h.1, by omega, fun i hi => ?_⟩
 simpa using h.2.2 _ (nth_mem hi)
theorem clOk_vars {w : List Data} {t : Ty} {c : Cl} (h : clOk w t c = true) : isP w t c.pat = true ∧ shapeP w 10 t c.pat = true ∧ varsP w 10 t c.pat = varsOf w t c.pat := by
 unfold clOk at h
 rw [Bool.and_eq_true] at h
 refine ⟨h.1, ?_, (varsOf_eq h.1).symm⟩
 have := h.1; unfold isP at this; simp only [Bool.and_eq_true] at this; exact this.1
theorem spec_ClausesValid_fn {w : List Data} (hs : WSmall w) {a k : Int} {l : List Cl} (hl : ClsOk l) (hz : ClsSz l) :
  FnD Tryz.prog 109 [.d (encDatas w), .agg [.d (.i a), .d (.i k)], .d (encCls l)] [] (.d (.bool (clsValid w ⟨a, k⟩ l))) [] := by
 have hll := hl.1
 refine bd Tryz.f109 31 [] [] fun w0 F0 own kept hk => ?_
 refine Walk.box (id := 3004) .none rfl rfl rfl rfl rfl rfl rfl ?_
 refine ev ?_
 refine Walk.call (cr := []) cal172 (spec_TypeValid_v hs) rfl .none rfl rfl (LeL.refl _) trivial rfl rfl rfl ?_
 refine ev ?_
 refine sq (fun h1 h1p h1s => ?_) fun h1 h1p h1s => ?_
 ·try simp only [Q, Int.natCast_inj] at h1p
  refine sqT ?_
  refine rn0 (r1 rfl) (.eqd ?_)
  all_goals (refine congrArg D.bool ?_; first | (rw [cls_tv (by assumption)]; done) | (rw [cls_len (by omega)]; done) | (rw [cls_at (i := i) (by omega) (by assumption)]; done) | (rw [cls_all (by assumption) (by omega) (fun x hx => hg1.2 x (by omega))]; done))
 ·try simp only [Q, Int.natCast_inj] at h1p
  refine sq (fun h3 h3p h3s => ?_) fun h3 h3p h3s => ?_
  ·try simp only [Q, Int.natCast_inj] at h3p
   refine rn0 (r1 rfl) (.eqd ?_)
   all_goals (refine congrArg D.bool ?_; first | (rw [cls_tv (by assumption)]; done) | (rw [cls_len (by omega)]; done) | (rw [cls_at (i := i) (by omega) (by assumption)]; done) | (rw [cls_all (by assumption) (by omega) (fun x hx => hg1.2 x (by omega))]; done))
  ·try simp only [Q, Int.natCast_inj] at h3p
   refine CWp.loopX (ι := Nat) hk (fun i => [(7, .d (.i (i : Int)))]) [6, 17, 18, 19, 20, 21, 22, 23, 24, 25, 26, 27, 28, 29, 30] (fun i => []) (fun i => i ≤ l.length ∧ ∀ i', i' < i → clOk w ⟨a, k⟩ (nth l i') = true) (fun i => l.length - i) 0 ⟨by omega, fun _ h => absurd h (by omega)⟩ ⟨⟨_, rfl, (LeA.eqi (by first | rfl | (simp; done) | (simp_all; done) | omega))⟩, trivial⟩ trivial (fun x => rfl) (fun i hg1 => ?_)
   refine evc [] [] ?_
   refine sq (fun h4 h4p h4s => ?_) fun h4 h4p h4s => ?_
   ·try simp only [Q, Int.natCast_inj] at h4p
    refine Walk.idx sl44 .none rfl rfl rfl rfl (at_nth (by omega)) rfl ?_
    refine evd [] [] ?_
    refine Walk.call (cr := []) cal185 (spec_l4Is_fn (t := ⟨a, k⟩) (c := nth l i) (valid_wt hs (tv_facts (by assumption)).1) (valid_az (tv_facts (by assumption)).1) (tv_ok (by assumption)) (hl.2 _ (nth_mem (by omega))) (hz _ (nth_mem (by omega)))) rfl .none rfl rfl (LeL.refl _) trivial rfl rfl rfl ?_
    refine evd [] [] ?_
    refine dr ?_
    refine sq (fun h5 h5p h5s => ?_) fun h5 h5p h5s => ?_
    ·try simp only [Q, Int.natCast_inj] at h5p
     refine rn0 (r1 rfl) (.eqd ?_)
     all_goals (refine congrArg D.bool ?_; first | (rw [cls_tv (by assumption)]; done) | (rw [cls_len (by omega)]; done) | (rw [cls_at (i := i) (by omega) (by assumption)]; done) | (rw [cls_all (by assumption) (by omega) (fun x hx => hg1.2 x (by omega))]; done))
    ·try simp only [Q, Int.natCast_inj] at h5p
     refine ar ?_
     refine Exists.intro (i + 1) ⟨⟨by omega, upto_succ hg1.2 (by assumption)⟩, (by omega), Sub.x (by kernel_rfl) (by kernel_rfl) ⟨⟨_, rfl, (LeA.eqi (by first | rfl | (simp; done) | (simp_all; done) | omega))⟩, trivial⟩ (by kernel_rfl) (by kernel_rfl) trivial⟩
   ·try simp only [Q, Int.natCast_inj] at h4p
    refine rn0 (r1 rfl) (.eqd ?_)
    all_goals (refine congrArg D.bool ?_; first | (rw [cls_tv (by assumption)]; done) | (rw [cls_len (by omega)]; done) | (rw [cls_at (i := i) (by omega) (by assumption)]; done) | (rw [cls_all (by assumption) (by omega) (fun x hx => hg1.2 x (by omega))]; done))
theorem spec_l13Is_fn {w : List Data} (hs : WSmall w) {funs : List Ft} (hfl : funs.length ≤ 1000000000000) (hfa : ∀ f ∈ funs, TyOk w.length f.arg) {f : Fu} (hok : FuOk f) (hz : ClsSz f.cls ∧ ∀ e ∈ f.bodies, e.size ≤ 1000000000000) (hres : TyOk w.length f.ty.res) :
  FnD Tryz.prog 74 [.d (encDatas w), .d (encFts funs), .agg [.d (.i f.ty.arg.data), .d (.i f.ty.arg.index), .d (.i f.ty.res.data), .d (.i f.ty.res.index), .d (encCls f.cls), .d (encExs f.bodies)]] [] (.d (.bool (fuValid w funs f))) [] := by
 have hcl := hok.1.1
 have hbl := hok.2.1
 cases hv : clsValid w f.ty.arg f.cls with
 | false =>
  have hcv := spec_ClausesValid_fn hs (a := f.ty.arg.data) (k := f.ty.arg.index) hok.1 hz.1
  rw [show clsValid w ⟨f.ty.arg.data, f.ty.arg.index⟩ f.cls = false from hv] at hcv
  have hfv : fuValid w funs f = false := by unfold fuValid; rw [hv, Bool.false_and]
  rw [hfv]
  refine bd Tryz.f74 57 [] [] fun w0 F0 own kept hk => ?_
  refine Walk.box (id := 3005) .none rfl rfl rfl rfl rfl rfl rfl ?_
  refine ev ?_
  refine Walk.call (cr := []) cal109 (hcv) rfl .none rfl rfl (LeL.refl _) trivial rfl rfl rfl ?_
  refine ev ?_
  refine sq (fun h1 h1p h1s => ?_) fun h1 h1p h1s => ?_
  ·try simp only [Q, Ex.cs_len] at h1p
   refine sqT ?_
   refine rn0 (r1 rfl) (.eqd ?_)
   all_goals (rfl)
  ·try simp only [Q, Ex.cs_len] at h1p
   exfalso; contradiction --stop
 | true =>
  have hcv := spec_ClausesValid_fn hs (a := f.ty.arg.data) (k := f.ty.arg.index) hok.1 hz.1
  rw [show clsValid w ⟨f.ty.arg.data, f.ty.arg.index⟩ f.cls = true from hv] at hcv
  obtain ⟨htv, h8, hco⟩ := cls_facts hv
  have hwv := (tv_facts (w := w) (a := f.ty.arg.data) (k := f.ty.arg.index) htv).1
  have hw := valid_wt hs hwv
  have haz := valid_az hwv
  have hta := tv_ok htv
  have hvl := varsOf_len w f.ty.arg
  have hv3 : ∀ i, i < f.cls.length → FnD Tryz.prog 132 [.nils, .d (encDatas w), .agg [.d (.i f.ty.arg.data), .d (.i f.ty.arg.index)], .agg [.d (.i (nth f.cls i).pat.op), .d (.i (nth f.cls i).pat.ctor), .d (.i (nth f.cls i).pat.n), .d (.i (nth f.cls i).pat.m), .d (.i (nth f.cls i).pat.var), .d (encPats (nth f.cls i).pat.kids)]] [] (.d (encVts (varsOf w f.ty.arg (nth f.cls i).pat))) [] := fun i hi => by
   have hc := clOk_vars (hco i hi)
   rw [← hc.2.2]
   exact spec_l3Vars_nil hw hc.2.1 (by omega) hta.1 (hok.1.2 _ (nth_mem hi)) (hz.1 _ (nth_mem hi))
  refine bd Tryz.f74 57 [] [] fun w0 F0 own kept hk => ?_
  refine Walk.box (id := 3005) .none rfl rfl rfl rfl rfl rfl rfl ?_
  refine ev ?_
  refine Walk.call (cr := []) cal109 (hcv) rfl .none rfl rfl (LeL.refl _) trivial rfl rfl rfl ?_
  refine ev ?_
  refine sq (fun h1 h1p h1s => ?_) fun h1 h1p h1s => ?_
  ·try simp only [Q, Int.natCast_inj, Ex.cs_len] at h1p
   exfalso; contradiction --stop
  ·try simp only [Q, Int.natCast_inj, Ex.cs_len] at h1p
   refine sq (fun h2 h2p h2s => ?_) fun h2 h2p h2s => ?_
   ·try simp only [Q, Int.natCast_inj, Ex.cs_len] at h2p
    refine rn0 (r1 rfl) (.eqd ?_)
    all_goals (refine congrArg D.bool ?_; first | (rw [bodies_len (by omega)]; done) | (rw [bodies_at (i := i) (by omega) (by omega) (by assumption)]; done) | (rw [bodies_all hv (by omega) (fun x hx => hg1.2 x (by omega))]; done))
   ·try simp only [Q, Int.natCast_inj, Ex.cs_len] at h2p
    refine CWp.loopX (ι := Nat) hk (fun i => [(7, .d (.i (i : Int)))]) [6, 8, 26, 27, 28, 29, 30, 31, 32, 33, 34, 35, 36, 37, 38, 39, 40, 41, 42, 43, 44, 45, 46, 47, 48, 49, 50, 51, 52, 53, 54, 55, 56] (fun i => []) (fun i => i ≤ f.cls.length ∧ ∀ i', i' < i → isE w funs (varsOf w f.ty.arg (nth f.cls i').pat) f.ty.res (nth f.bodies i') = true) (fun i => f.cls.length - i) 0 ⟨by omega, fun _ h => absurd h (by omega)⟩ ⟨⟨_, rfl, (LeA.eqi (by first | rfl | (simp; done) | (simp_all; done) | omega))⟩, trivial⟩ trivial (fun x => rfl) (fun i hg1 => ?_)
    refine evc [] [] ?_
    refine sq (fun h3 h3p h3s => ?_) fun h3 h3p h3s => ?_
    ·try simp only [Q, Int.natCast_inj, Ex.cs_len] at h3p
     refine Walk.idx sl44 .none rfl rfl rfl rfl (at_nth (by omega)) rfl ?_
     refine evd [] [] ?_
     refine Walk.call (cr := []) cal132 (hv3 i (by omega)) rfl .none rfl rfl (LeL.refl _) trivial rfl rfl rfl ?_
     refine evd [] [] ?_
     refine dr ?_
     refine Walk.idx sl116 .none rfl rfl rfl rfl (exs_at (by omega)) rfl ?_
     refine evd [] [] ?_
     refine Walk.call (cr := []) cal133 (spec_l12Is_fn (t := f.ty.res) (e := nth f.bodies i) hw haz hfl (by have := hvl (nth f.cls i).pat; omega) hfa hres (Exs.ok_mem hok.2.2 _ (nth_mem (by omega))) (hz.2 _ (nth_mem (by omega)))) rfl .none rfl rfl (LeL.refl _) trivial rfl rfl rfl ?_
     refine evd [] [] ?_
     refine dr ?_
     refine sq (fun h4 h4p h4s => ?_) fun h4 h4p h4s => ?_
     ·try simp only [Q, Int.natCast_inj, Ex.cs_len] at h4p
      refine rn0 (r1 rfl) (.eqd ?_)
      all_goals (refine congrArg D.bool ?_; first | (rw [bodies_len (by omega)]; done) | (rw [bodies_at (i := i) (by omega) (by omega) (by assumption)]; done) | (rw [bodies_all hv (by omega) (fun x hx => hg1.2 x (by omega))]; done))
     ·try simp only [Q, Int.natCast_inj, Ex.cs_len] at h4p
      refine ar ?_
      refine Exists.intro (i + 1) ⟨⟨by omega, upto_succ hg1.2 (by assumption)⟩, (by omega), Sub.x (by kernel_rfl) (by kernel_rfl) ⟨⟨_, rfl, (LeA.eqi (by first | rfl | (simp; done) | (simp_all; done) | omega))⟩, trivial⟩ (by kernel_rfl) (by kernel_rfl) trivial⟩
    ·try simp only [Q, Int.natCast_inj, Ex.cs_len] at h3p
     refine rn0 (r1 rfl) (.eqd ?_)
     all_goals (refine congrArg D.bool ?_; first | (rw [bodies_len (by omega)]; done) | (rw [bodies_at (i := i) (by omega) (by omega) (by assumption)]; done) | (rw [bodies_all hv (by omega) (fun x hx => hg1.2 x (by omega))]; done))
theorem spec_FunsValid_fn {w : List Data} (hs : WSmall w) {l : List Fu} (hl : FusOk l) (hz : FusSz l) : FnD Tryz.prog 14 [.d (encDatas w), .d (encFus l)] [] (.d (.bool (fusValid w l))) [] := by
 have hll := hl.1
 have hfm := fun (y : Fu) (hy : y ∈ l) (ho : ftsOk w (l.map Fu.ty) = true) => typeOk_ok (fts_in ho y.ty (List.mem_map.2 ⟨y, hy, rfl⟩)).2
 have hfa := fun (ho : ftsOk w (l.map Fu.ty) = true) (f : Ft) (hf : f ∈ l.map Fu.ty) => typeOk_ok (fts_in ho f hf).1
 have hml : (l.map Fu.ty).length ≤ 1000000000000 := by simp; omega
 unfold fusValid
 generalize hF : l.map Fu.ty = funs at *
 have hft := spec_l13Types_fn hl.1
 rw [hF] at hft
 have hWV := spec_WorldValid_fn hs
 rw [specWorldValid_eq] at hWV
 refine bd Tryz.f14 32 [] [] fun w0 F0 own kept hk => ?_
 refine Walk.call (cr := []) cal71 (hft) rfl .none rfl rfl (LeL.refl _) trivial rfl rfl rfl ?_
 refine ev ?_
 refine Walk.call (cr := []) cal72 (hWV) rfl .none rfl rfl (LeL.refl _) trivial rfl rfl rfl ?_
 refine ev ?_
 refine sq (fun h1 h1p h1s => ?_) fun h1 h1p h1s => ?_
 ·try simp only [Q, Int.natCast_inj] at h1p
  refine sqT ?_
  refine rn0 (r1 rfl) (.eqd ?_)
  all_goals (refine congrArg D.bool ?_; first | (simp_all; done) | (rw [all_at hg1.1 (by assumption)]; simp_all; done) | (rw [List.append_nil] at hg1; obtain ⟨hz', hg2⟩ := hg1; subst hz'; simp_all; done))
 ·try simp only [Q, Int.natCast_inj] at h1p
  refine Walk.call (cr := []) cal73 (spec_l12Funs_fn hs.len hml) rfl (.some rfl rfl h1) rfl rfl (LeL.refl _) trivial rfl rfl rfl ?_
  refine evs [] [(12, false)] ?_ ⟨⟨_, rfl, h1⟩, trivial⟩
  refine sq (fun h3 h3p h3s => ?_) fun h3 h3p h3s => ?_
  ·try simp only [Q, Int.natCast_inj] at h3p
   refine rn0 (r1 rfl) (.eqd ?_)
   all_goals (refine congrArg D.bool ?_; first | (simp_all; done) | (rw [all_at hg1.1 (by assumption)]; simp_all; done) | (rw [List.append_nil] at hg1; obtain ⟨hz', hg2⟩ := hg1; subst hz'; simp_all; done))
  ·try simp only [Q, Int.natCast_inj] at h3p
   refine CWp.loopX (ι := List (Fu) × List (Fu)) hk (fun x => [(6, .d (.i (x.1.length : Int)))]) [4, 18, 19, 20, 21, 22, 23, 24, 25, 26, 27, 28, 29, 30, 31] (fun x => []) (fun x => x.1 ++ x.2 = l ∧ x.1.all (fuValid w funs) = true) (fun x => x.2.length) ([], l) ⟨by simp, by simp⟩ ⟨⟨_, rfl, (LeA.eqi (by first | rfl | (simp; done) | (simp_all; done) | omega))⟩, trivial⟩ trivial (fun x => rfl) (fun x hg1 => ?_)
   obtain ⟨pre, rest⟩ := x
   dsimp only at hg1 ⊢
   refine evc [] [] ?_
   refine sq (fun h4 h4p h4s => ?_) fun h4 h4p h4s => ?_
   ·try simp only [Q, Int.natCast_inj] at h4p
    rcases rest with _ | ⟨y, rest⟩
    ·exfalso; simp_all
    refine Walk.idx sl29 .none rfl rfl rfl rfl (zip_at hg1.1) rfl ?_
    refine ev ?_
    refine Walk.call (cr := []) cal74 (spec_l13Is_fn hs hml (hfa (by assumption)) (f := y) (hl.2 y (by rw [← hg1.1]; simp)) (hz y (by rw [← hg1.1]; simp)) (hfm y (by rw [← hg1.1]; simp) (by assumption))) rfl .none rfl rfl (LeL.refl _) trivial rfl rfl rfl ?_
    refine ev ?_
    refine sq (fun h5 h5p h5s => ?_) fun h5 h5p h5s => ?_
    ·try simp only [Q, Int.natCast_inj] at h5p
     refine rn0 (r1 rfl) (.eqd ?_)
     all_goals (refine congrArg D.bool ?_; first | (simp_all; done) | (rw [all_at hg1.1 (by assumption)]; simp_all; done) | (rw [List.append_nil] at hg1; obtain ⟨hz', hg2⟩ := hg1; subst hz'; simp_all; done))
    ·try simp only [Q, Int.natCast_inj] at h5p
     refine ar ?_
     refine Exists.intro ((pre ++ [y], rest)) ⟨⟨by simp [hg1.1], by rw [List.all_append, hg1.2]; simp only [List.all_cons, List.all_nil, Bool.and_true, Bool.true_and]; assumption⟩, (by simp), Sub.x (by kernel_rfl) (by kernel_rfl) ⟨⟨_, rfl, (LeA.eqi (by first | rfl | (simp; done) | (simp_all; done) | omega))⟩, trivial⟩ (by kernel_rfl) (by kernel_rfl) trivial⟩
   ·try simp only [Q, Int.natCast_inj] at h4p
    have hrest : rest = [] := by
     rcases rest with _ | ⟨a, b⟩
     ·rfl
     ·exfalso; have hz := congrArg List.length (hg1.1); simp only [List.length_append, List.length_cons, List.length_map] at hz; omega
    subst hrest
    refine rn0 (r1 rfl) (.eqd ?_)
    all_goals (refine congrArg D.bool ?_; first | (simp_all; done) | (rw [all_at hg1.1 (by assumption)]; simp_all; done) | (rw [List.append_nil] at hg1; obtain ⟨hz', hg2⟩ := hg1; subst hz'; simp_all; done))
def standsP : Nat → Pat → Int → Bool
 | 0, _, _ => false
 | n + 1, p, v => (decide (p.op = 2 ∨ p.op = 6) && decide (p.var = v)) || p.kids.any fun k => standsP n k v
def properP : Nat → Pat → Int → Bool
 | 0, _, _ => false
 | n + 1, p, v => if p.op = 6 then properP n (nth p.kids 0) v else if p.op = 5 then properP n (nth p.kids 0) v && properP n (nth p.kids 1) v else if p.op = 4 then p.kids.any fun k => standsP n k v else false
def partsP (w : List Data) : Nat → Ty → Pat → List Int
 | 0, _, _ => []
 | n + 1, t, p => if p.op = 6 then partsP w n t (nth p.kids 0) else if p.op = 5 then (partsP w n t (nth p.kids 0)).filter (fun v => decide (v ∈ partsP w n t (nth p.kids 1))) else if p.op = 4 then (varsL (varsP w n) (argsOf w t p.ctor) p.kids).map Vt.var else []
theorem mem_varsL {f : Ty → Pat → List Vt} {v : Int} : ∀ {a : List Ty} {b : List Pat}, v ∈ (varsL f a b).map Vt.var ↔ ∃ i, i < a.length ∧ i < b.length ∧ v ∈ (f (nth a i) (nth b i)).map Vt.var
 | [], b => by simp [varsL]
 | x :: r, [] => by simp [varsL]
 | x :: r, y :: s => by
  have ih := mem_varsL (f := f) (v := v) (a := r) (b := s)
  simp only [varsL, List.map_append, List.mem_append]
  rw [ih]
  constructor
  ·rintro (h | ⟨i, h1, h2, h3⟩)
   ·exact ⟨0, by simp, by simp, h⟩
   ·exact ⟨i + 1, by simpa using h1, by simpa using h2, h3⟩
  ·rintro ⟨i, h1, h2, h3⟩
   cases i with
   | zero => exact .inl h3
   | succ i => exact .inr ⟨i, by simpa using h1, by simpa using h2, h3⟩
theorem linP_kid {w : List Data} {n : Nat} {t : Ty} {p : Pat} (hl : p.kids.length = (typesP w t p).length) (h : linP w (n + 1) t p = true) {i : Nat} (hi : i < p.kids.length) : linP w n (nth (typesP w t p) i) (nth p.kids i) = true := by
 cases hs : linP w n (nth (typesP w t p) i) (nth p.kids i) with
 | true => rfl
 | false =>
  have := all2_nth_false (f := linP w n) (a := typesP w t p) (b := p.kids) (i := i) (by omega) hl.symm hs
  simp only [linP, this, Bool.false_and] at h
  cases h
theorem alike_vars {a b : List Vt} (ha : nodupV a = true) (hb : nodupV b = true) (h : alikeV a b = true) (x : Int) : x ∈ b.map Vt.var ↔ x ∈ a.map Vt.var := by
 rw [alike_same hb] at h
 unfold sameV2 at h
 simp only [Bool.and_eq_true, decide_eq_true_eq, Bool.not_eq_true', List.any_eq_false, Bool.not_eq_true, decide_eq_false_iff_not, Classical.not_not] at h
 have na := of_decide_eq_true ha
 constructor
 ·intro hx
  by_cases hm : x ∈ a.map Vt.var
  ·exact hm
  ·have := nodup_sub (a := x :: a.map Vt.var) (b := b.map Vt.var) (List.nodup_cons.2 ⟨hm, na⟩) (fun y hy => by
    rcases List.mem_cons.1 hy with rfl | hy
    ·exact hx
    ·obtain ⟨z, hz, rfl⟩ := List.mem_map.1 hy
     exact List.mem_map.2 ⟨z, h.2 z hz, rfl⟩)
   simp only [List.length_cons, List.length_map] at this
   omega
 ·intro hx
  obtain ⟨z, hz, rfl⟩ := List.mem_map.1 hx
  exact List.mem_map.2 ⟨z, h.2 z hz, rfl⟩
theorem any_nth {α : Type} [Inhabited α] {p : α → Bool} {l : List α} : l.any p = true ↔ ∃ i, i < l.length ∧ p (nth l i) = true := by
 rw [List.any_eq_true]
 constructor
 ·rintro ⟨x, hx, h⟩
  obtain ⟨i, hi, rfl⟩ := List.getElem_of_mem hx
  exact ⟨i, hi, by simpa [nth, List.getD, hi] using h⟩
 ·rintro ⟨i, hi, h⟩
  exact ⟨_, nth_mem hi, h⟩
theorem kids_mem {w : List Data} {n : Nat} {t : Ty} {p k : Pat} (h : shapeP w (n + 1) t p = true) (hk : k ∈ p.kids) : ∃ u, shapeP w n u k = true := by
 obtain ⟨i, hi, rfl⟩ := List.getElem_of_mem hk
 have := shapeP_kid h hi
 simp only [nth, List.getD, List.getElem?_eq_getElem hi, Option.getD_some] at this
 exact ⟨_, this⟩
theorem typesP_5 {w : List Data} {t : Ty} {p : Pat} (h : p.op = 5) : typesP w t p = [t, t] := by unfold typesP; rw [if_neg (by omega), if_pos h]
theorem typesP_6 {w : List Data} {t : Ty} {p : Pat} (h : p.op = 6) : typesP w t p = [t] := by unfold typesP; rw [if_neg (by omega), if_neg (by omega), if_pos h]
theorem typesP_4 {w : List Data} {t : Ty} {p : Pat} (h : p.op = 4) : typesP w t p = argsOf w t p.ctor := by unfold typesP; rw [if_pos h]
theorem stands_vars (w : List Data) : ∀ (n : Nat) {t : Ty} {p : Pat} (v : Int), shapeP w n t p = true → linP w n t p = true → standsP n p v = decide (v ∈ (varsP w n t p).map Vt.var)
 | 0, t, p, v, h, _ => by simp [shapeP] at h
 | n + 1, t, p, v, h, hl => by
  have hlen := (shapeP_own h).2
  have ih := fun i (hi : i < p.kids.length) => stands_vars w n v (shapeP_kid h hi) (linP_kid hlen hl hi)
  rw [Bool.eq_iff_iff, decide_eq_true_eq]
  simp only [standsP, varsP, List.map_append, List.mem_append, Bool.or_eq_true, Bool.and_eq_true, decide_eq_true_eq]
  refine or_congr ?_ ?_
  ·unfold nameP
   split
   ·rename_i hn
    simp only [List.map_cons, List.map_nil, List.mem_singleton]
    exact ⟨fun h => h.2.symm, fun h => ⟨hn, h.symm⟩⟩
   ·rename_i hn; simp [hn]
  ·rw [any_nth, mem_varsL]
   by_cases h5 : p.op = 5
   ·have e := typesP_5 (w := w) (t := t) h5
    have hv : vtypes w t p = [t] := by unfold vtypes; rw [if_pos h5, e]; rfl
    rw [e] at hlen ih
    have hlen2 : p.kids.length = 2 := hlen
    have h0 := ih 0 (by omega)
    have h1 := ih 1 (by omega)
    change standsP n (nth p.kids 0) v = decide (v ∈ (varsP w n t (nth p.kids 0)).map Vt.var) at h0
    change standsP n (nth p.kids 1) v = decide (v ∈ (varsP w n t (nth p.kids 1)).map Vt.var) at h1
    have s0 := shapeP_kid h (i := 0) (by omega)
    have s1 := shapeP_kid h (i := 1) (by omega)
    have l0 := linP_kid (by rw [e]; exact hlen) hl (i := 0) (by omega)
    have l1 := linP_kid (by rw [e]; exact hlen) hl (i := 1) (by omega)
    rw [e] at s0 s1 l0 l1
    change shapeP w n t (nth p.kids 0) = true at s0
    change shapeP w n t (nth p.kids 1) = true at s1
    change linP w n t (nth p.kids 0) = true at l0
    change linP w n t (nth p.kids 1) = true at l1
    have hal : alikeV (varsP w n t (nth p.kids 0)) (varsP w n t (nth p.kids 1)) = true := by
     simp only [linP, if_pos h5, Bool.and_eq_true] at hl; exact hl.2
    have hva := alike_vars (lin_nodup w n t _ s0 l0) (lin_nodup w n t _ s1 l1) hal v
    rw [hv]
    constructor
    ·rintro ⟨i, hi, hst⟩
     refine ⟨0, by simp, by omega, ?_⟩
     show v ∈ (varsP w n t (nth p.kids 0)).map Vt.var
     have : i = 0 ∨ i = 1 := by omega
     rcases this with rfl | rfl
     ·rw [h0] at hst; exact of_decide_eq_true hst
     ·rw [h1] at hst; exact hva.1 (of_decide_eq_true hst)
    ·rintro ⟨i, hi, hi2, hst⟩
     have : i = 0 := by simpa using hi
     subst this
     exact ⟨0, by omega, by rw [h0]; exact decide_eq_true hst⟩
   ·have hv : vtypes w t p = typesP w t p := by unfold vtypes; rw [if_neg h5]
    rw [hv]
    constructor
    ·rintro ⟨i, hi, hst⟩
     rw [ih i hi] at hst
     exact ⟨i, by omega, hi, of_decide_eq_true hst⟩
    ·rintro ⟨i, _, hi, hst⟩
     exact ⟨i, hi, by rw [ih i hi]; exact decide_eq_true hst⟩
theorem proper_parts (w : List Data) : ∀ (n : Nat) {t : Ty} {p : Pat} (v : Int), shapeP w n t p = true → linP w n t p = true → properP n p v = decide (v ∈ partsP w n t p)
 | 0, t, p, v, h, _ => by simp [shapeP] at h
 | n + 1, t, p, v, h, hl => by
  have hlen := (shapeP_own h).2
  unfold properP partsP
  by_cases h6 : p.op = 6
  ·rw [if_pos h6, if_pos h6]
   have e := typesP_6 (w := w) (t := t) h6
   have h1 : p.kids.length = 1 := by rw [hlen, e]; rfl
   have s := shapeP_kid h (i := 0) (by omega)
   have l := linP_kid hlen hl (i := 0) (by omega)
   rw [e] at s l
   exact proper_parts w n v s l
  ·rw [if_neg h6, if_neg h6]
   by_cases h5 : p.op = 5
   ·rw [if_pos h5, if_pos h5]
    have e := typesP_5 (w := w) (t := t) h5
    have h1 : p.kids.length = 2 := by rw [hlen, e]; rfl
    have s0 := shapeP_kid h (i := 0) (by omega)
    have l0 := linP_kid hlen hl (i := 0) (by omega)
    have s1 := shapeP_kid h (i := 1) (by omega)
    have l1 := linP_kid hlen hl (i := 1) (by omega)
    rw [e] at s0 l0 s1 l1
    have k0 := proper_parts w n v s0 l0
    have k1 := proper_parts w n v s1 l1
    change properP n (nth p.kids 0) v = decide (v ∈ partsP w n t (nth p.kids 0)) at k0
    change properP n (nth p.kids 1) v = decide (v ∈ partsP w n t (nth p.kids 1)) at k1
    rw [k0, k1, Bool.eq_iff_iff]
    simp
   ·rw [if_neg h5, if_neg h5]
    by_cases h4 : p.op = 4
    ·rw [if_pos h4, if_pos h4]
     have e := typesP_4 (w := w) (t := t) h4
     rw [Bool.eq_iff_iff, any_nth, decide_eq_true_eq, mem_varsL, ← e]
     constructor
     ·rintro ⟨i, hi, hst⟩
      rw [stands_vars w n v (shapeP_kid h hi) (linP_kid hlen hl hi)] at hst
      exact ⟨i, by omega, hi, of_decide_eq_true hst⟩
     ·rintro ⟨i, _, hi, hst⟩
      exact ⟨i, hi, by rw [stands_vars w n v (shapeP_kid h hi) (linP_kid hlen hl hi)]; exact decide_eq_true hst⟩
    ·rw [if_neg h4, if_neg h4]; simp
def descE (q : Int → Bool) (f : Int) : Nat → Ex → Bool
 | 0, _ => false
 | n + 1, e => !(decide (e.op = 5) && (decide (f < e.n) || (decide (e.n = f) && (!decide ((nth e.kids 0).op = 2) || !q (nth e.kids 0).n)))) && e.kids.all (descE q f n)
theorem descE_congr {q r : Int → Bool} (h : ∀ v, q v = r v) (f : Int) (n : Nat) (e : Ex) : descE q f n e = descE r f n e := by
 rw [show q = r from funext h]
def descF (f : Fu) (i : Int) : Bool := all2 (fun c e => descE (properP 10 c.pat) i 10 e) f.cls f.bodies
def descending (w : List Data) (l : List Fu) (i : Int) : Bool := fusValid w l && (decide (0 ≤ i ∧ i < (l.length : Int)) && descF (nth l i.toNat) i)
theorem Pat.cs_ccs (l : List Pat) : Pat.cs l = l.map Pat.cc := by
 rw [Pat.cs_eq]; exact List.map_congr_left (fun v _ => Pat.c_eq v)
theorem Ex.cs_ccs (l : List Ex) : Ex.cs l = l.map Ex.cc := by
 rw [Ex.cs_eq]; exact List.map_congr_left (fun v _ => Ex.c_eq v)
theorem slices_IndexFunc_Pat_fn {xs : List Pat} {f : Nat} {caps : List AV} {hp : Hp} {p : Pat → Bool} (hs : xs.length ≤ 1000000000000) (hcal : Callee Tryz.prog f)
  (hf : ∀ t ∈ xs, FnD Tryz.prog f ([.agg [.d (.i t.op), .d (.i t.ctor), .d (.i t.n), .d (.i t.m), .d (.i t.var), .d (encPats t.kids)]] ++ caps) hp (.d (.bool (p t))) []) (k1 : subH hp hp) (k2 : noTok hp = true) (k3 : okCall hp [] (.d .nilp) [] = true) :
  FnD Tryz.prog 264 [.d (encPats xs), .fn f caps] hp (.d (.i (idxF p xs 0))) [] := by
 rw [show encPats xs = D.sl (xs.map Pat.cc) by show D.sl (Pat.cs xs) = _; rw [Pat.cs_ccs]]
 refine bd Tryz.f264 19 [] [] fun w0 F0 own kept hk => ?_
 refine CWp.loopX (ι := List (Pat) × List (Pat)) hk (fun x => [(8, .d (.i (x.1.length : Int)))]) [4, 5, 9, 10, 11, 12, 13, 14, 15, 16, 17, 18] (fun x => []) (fun x => x.1 ++ x.2 = xs ∧ idxF p x.2 x.1.length = idxF p xs 0) (fun x => x.2.length) ([], xs) ⟨by simp, rfl⟩ ⟨⟨_, rfl, (LeA.eqi (by first | rfl | (simp; done) | (simp_all; done) | omega))⟩, trivial⟩ trivial (fun x => boxIds_all hp) (fun x hg1 => ?_)
 obtain ⟨pre, rest⟩ := x
 dsimp only at hg1 ⊢
 refine evc [] [] ?_
 refine sq (fun h1 h1p h1s => ?_) fun h1 h1p h1s => ?_
 ·try simp only [Q] at h1p
  rcases rest with _ | ⟨y, rest⟩
  ·exfalso; simp_all
  refine Walk.idx sl49 .none rfl rfl rfl rfl (zip_at hg1.1) rfl ?_
  refine ev ?_
  refine Walk.callV (cr := []) hcal (hf y (by rw [← hg1.1]; simp)) rfl .none rfl rfl rfl (LeL.refl _) k1 k2 (okCall_d k3 _) rfl ?_
  refine tv ?_
  refine sq (fun h2 h2p h2s => ?_) fun h2 h2p h2s => ?_
  ·try simp only [Q] at h2p
   refine rn [] (r1 rfl) (.eqd ?_) ⟨rfl, rfl⟩ (fun _ _ h => h) (fun _ h => h)
   all_goals (rw [← hg1.2]; simp [idxF, h1s, h1p, h2s, h2p])
  ·try simp only [Q] at h2p
   refine ar ?_
   refine Exists.intro ((pre ++ [y], rest)) ⟨⟨(by have hz := hg1.1; rw [← hz]; simp), (by rw [← hg1.2]; simp [idxF, h2s])⟩, (by simp), Sub.x (by kernel_rfl) (by kernel_rfl) ⟨⟨_, rfl, (LeA.eqi (by first | rfl | (simp; done) | (simp_all; done) | omega))⟩, trivial⟩ (by simp) (by simp [coverH]) trivial⟩
 ·try simp only [Q] at h1p
  have hrest : rest = [] := by
   rcases rest with _ | ⟨a, b⟩
   ·rfl
   ·exfalso; have hz := congrArg List.length (hg1.1); simp only [List.length_append, List.length_cons, List.length_map] at hz; omega
  subst hrest
  refine rn [] (r1 rfl) (.eqd ?_) ⟨rfl, rfl⟩ (fun _ _ h => h) (fun _ h => h)
  all_goals (rw [← hg1.2]; simp [idxF, h1s, h1p])
theorem slices_ContainsFunc_Pat_fn {xs : List Pat} {f : Nat} {caps : List AV} {hp : Hp} {p : Pat → Bool} (hs : xs.length ≤ 1000000000000) (hcal : Callee Tryz.prog f)
  (hf : ∀ t ∈ xs, FnD Tryz.prog f ([.agg [.d (.i t.op), .d (.i t.ctor), .d (.i t.n), .d (.i t.m), .d (.i t.var), .d (encPats t.kids)]] ++ caps) hp (.d (.bool (p t))) []) (k1 : subH hp hp) (k2 : noTok hp = true) (k3 : okCall hp [] (.d .nilp) [] = true) :
  FnD Tryz.prog 192 [.d (encPats xs), .fn f caps] hp (.d (.bool (xs.any p))) [] := by
 refine bd Tryz.f192 9 [] [] fun w0 F0 own kept hk => ?_
 refine Walk.call (cr := []) cal264 (slices_IndexFunc_Pat_fn hs hcal hf k1 k2 k3) rfl .none rfl rfl (LeL.refl _) k1 k2 (okCall_d k3 _) rfl ?_
 refine ev ?_
 refine rn [] (r1 rfl) (.eqd ?_) ⟨rfl, rfl⟩ (fun _ _ h => h) (fun _ h => h)
 all_goals (exact congrArg D.bool (idxF_any p xs 0))
theorem slices_IndexFunc_Ex_fn {xs : List Ex} {f : Nat} {caps : List AV} {hp : Hp} {p : Ex → Bool} (hs : xs.length ≤ 1000000000000) (hcal : Callee Tryz.prog f)
  (hf : ∀ t ∈ xs, FnD Tryz.prog f ([.agg [.d (.i t.op), .d (.i t.n), .d (.i t.ctor), .d (encExs t.kids)]] ++ caps) hp (.d (.bool (p t))) []) (k1 : subH hp hp) (k2 : noTok hp = true) (k3 : okCall hp [] (.d .nilp) [] = true) :
  FnD Tryz.prog 228 [.d (encExs xs), .fn f caps] hp (.d (.i (idxF p xs 0))) [] := by
 rw [show encExs xs = D.sl (xs.map Ex.cc) by show D.sl (Ex.cs xs) = _; rw [Ex.cs_ccs]]
 refine bd Tryz.f228 19 [] [] fun w0 F0 own kept hk => ?_
 refine CWp.loopX (ι := List (Ex) × List (Ex)) hk (fun x => [(8, .d (.i (x.1.length : Int)))]) [4, 5, 9, 10, 11, 12, 13, 14, 15, 16, 17, 18] (fun x => []) (fun x => x.1 ++ x.2 = xs ∧ idxF p x.2 x.1.length = idxF p xs 0) (fun x => x.2.length) ([], xs) ⟨by simp, rfl⟩ ⟨⟨_, rfl, (LeA.eqi (by first | rfl | (simp; done) | (simp_all; done) | omega))⟩, trivial⟩ trivial (fun x => boxIds_all hp) (fun x hg1 => ?_)
 obtain ⟨pre, rest⟩ := x
 dsimp only at hg1 ⊢
 refine evc [] [] ?_
 refine sq (fun h1 h1p h1s => ?_) fun h1 h1p h1s => ?_
 ·try simp only [Q] at h1p
  rcases rest with _ | ⟨y, rest⟩
  ·exfalso; simp_all
  refine Walk.idx sl116 .none rfl rfl rfl rfl (zip_at hg1.1) rfl ?_
  refine ev ?_
  refine Walk.callV (cr := []) hcal (hf y (by rw [← hg1.1]; simp)) rfl .none rfl rfl rfl (LeL.refl _) k1 k2 (okCall_d k3 _) rfl ?_
  refine tv ?_
  refine sq (fun h2 h2p h2s => ?_) fun h2 h2p h2s => ?_
  ·try simp only [Q] at h2p
   refine rn [] (r1 rfl) (.eqd ?_) ⟨rfl, rfl⟩ (fun _ _ h => h) (fun _ h => h)
   all_goals (rw [← hg1.2]; simp [idxF, h1s, h1p, h2s, h2p])
  ·try simp only [Q] at h2p
   refine ar ?_
   refine Exists.intro ((pre ++ [y], rest)) ⟨⟨(by have hz := hg1.1; rw [← hz]; simp), (by rw [← hg1.2]; simp [idxF, h2s])⟩, (by simp), Sub.x (by kernel_rfl) (by kernel_rfl) ⟨⟨_, rfl, (LeA.eqi (by first | rfl | (simp; done) | (simp_all; done) | omega))⟩, trivial⟩ (by simp) (by simp [coverH]) trivial⟩
 ·try simp only [Q] at h1p
  have hrest : rest = [] := by
   rcases rest with _ | ⟨a, b⟩
   ·rfl
   ·exfalso; have hz := congrArg List.length (hg1.1); simp only [List.length_append, List.length_cons, List.length_map] at hz; omega
  subst hrest
  refine rn [] (r1 rfl) (.eqd ?_) ⟨rfl, rfl⟩ (fun _ _ h => h) (fun _ h => h)
  all_goals (rw [← hg1.2]; simp [idxF, h1s, h1p])
theorem slices_ContainsFunc_Ex_fn {xs : List Ex} {f : Nat} {caps : List AV} {hp : Hp} {p : Ex → Bool} (hs : xs.length ≤ 1000000000000) (hcal : Callee Tryz.prog f)
  (hf : ∀ t ∈ xs, FnD Tryz.prog f ([.agg [.d (.i t.op), .d (.i t.n), .d (.i t.ctor), .d (encExs t.kids)]] ++ caps) hp (.d (.bool (p t))) []) (k1 : subH hp hp) (k2 : noTok hp = true) (k3 : okCall hp [] (.d .nilp) [] = true) :
  FnD Tryz.prog 152 [.d (encExs xs), .fn f caps] hp (.d (.bool (xs.any p))) [] := by
 refine bd Tryz.f152 9 [] [] fun w0 F0 own kept hk => ?_
 refine Walk.call (cr := []) cal228 (slices_IndexFunc_Ex_fn hs hcal hf k1 k2 k3) rfl .none rfl rfl (LeL.refl _) k1 k2 (okCall_d k3 _) rfl ?_
 refine ev ?_
 refine rn [] (r1 rfl) (.eqd ?_) ⟨rfl, rfl⟩ (fun _ _ h => h) (fun _ h => h)
 all_goals (exact congrArg D.bool (idxF_any p xs 0))
theorem impl_stands_1_fn {k : Pat} {v : Int} {b : Bool} (h : FnD Tryz.prog 227 [.agg [.d (.i k.op), .d (.i k.ctor), .d (.i k.n), .d (.i k.m), .d (.i k.var), .d (encPats k.kids)], .d (.i v)] [] (.d (.bool b)) []) : FnD Tryz.prog 277 [.agg [.d (.i k.op), .d (.i k.ctor), .d (.i k.n), .d (.i k.m), .d (.i k.var), .d (encPats k.kids)], .ref 3003 0] [(3003, some (.box [.d (.i v)]))] (.d (.bool b)) [] := by
 refine bd Tryz.f277 7 [] [] fun w0 F0 own kept hk => ?_
 refine Walk.box (id := 3002) .none rfl rfl rfl rfl rfl rfl rfl ?_
 refine ev ?_
 refine Walk.call (cr := []) cal227 (h) rfl .none rfl rfl (LeL.refl _) trivial rfl rfl rfl ?_
 refine ev ?_
 refine rn [] (r1 rfl) (.eqd ?_) ⟨rfl, rfl⟩ (SubH.get ⟨rfl, trivial⟩) (fun _ h => h)
 all_goals (rfl)
theorem impl_stands_fn {w : List Data} : ∀ (n : Nat) {t : Ty} {p : Pat} {v : Int}, shapeP w n t p = true → p.ok → FnD Tryz.prog 227 [.agg [.d (.i p.op), .d (.i p.ctor), .d (.i p.n), .d (.i p.m), .d (.i p.var), .d (encPats p.kids)], .d (.i v)] [] (.d (.bool (standsP n p v))) []
 | 0, t, p, v, h, _ => by simp [shapeP] at h
 | n + 1, t, p, v, h, hok => by
  rw [Pat.ok_iff] at hok
  have ih : ∀ k ∈ p.kids, FnD Tryz.prog 227 [.agg [.d (.i k.op), .d (.i k.ctor), .d (.i k.n), .d (.i k.m), .d (.i k.var), .d (encPats k.kids)], .d (.i v)] [] (.d (.bool (standsP n k v))) [] := fun k hk => by
   obtain ⟨u, hu⟩ := kids_mem h hk
   exact impl_stands_fn n hu (Pats.ok_mem hok.2 _ hk)
  have hd : standsP (n + 1) p v = ((decide (p.op = 2 ∨ p.op = 6) && decide (p.var = v)) || p.kids.any fun k => standsP n k v) := rfl
  rw [hd]
  refine bd Tryz.f227 25 [] [] fun w0 F0 own kept hk => ?_
  refine Walk.box (id := 3002) .none rfl rfl rfl rfl rfl rfl rfl ?_
  refine Walk.box (id := 3003) .none rfl rfl rfl rfl rfl rfl rfl ?_
  refine ev ?_
  refine sq (fun h1 h1p h1s => ?_) fun h1 h1p h1s => ?_
  ·try simp only [Q] at h1p
   refine sqT ?_
   refine sq (fun h2 h2p h2s => ?_) fun h2 h2p h2s => ?_
   ·try simp only [Q] at h2p
    refine rn0 (r1 rfl) (.eqd ?_)
    all_goals (refine congrArg D.bool ?_; first | (simp_all; done) | (rw [Bool.eq_iff_iff]; simp_all; done))
   ·try simp only [Q] at h2p
    refine Walk.closure (xs := [_]) rfl (.some rfl rfl h2) rfl rfl ?_
    refine Walk.call (cr := []) cal192 (slices_ContainsFunc_Pat_fn (p := fun k => standsP n k v) hok.1 cal277 (fun t htm => impl_stands_1_fn (ih t htm)) ⟨rfl, trivial⟩ rfl rfl) rfl (.some rfl rfl h2) rfl rfl (LeL.refl _) ⟨rfl, trivial⟩ rfl rfl rfl ?_
    refine evs [] [(19, false)] ?_ ⟨⟨_, rfl, h2⟩, trivial⟩
    refine rn0 (r1 rfl) (.eqd ?_)
    all_goals (refine congrArg D.bool ?_; first | (simp_all; done) | (rw [Bool.eq_iff_iff]; simp_all; done))
  ·try simp only [Q] at h1p
   refine sq (fun h3 h3p h3s => ?_) fun h3 h3p h3s => ?_
   ·try simp only [Q] at h3p
    refine sq (fun h4 h4p h4s => ?_) fun h4 h4p h4s => ?_
    ·try simp only [Q] at h4p
     refine rn0 (r1 rfl) (.eqd ?_)
     all_goals (refine congrArg D.bool ?_; first | (simp_all; done) | (rw [Bool.eq_iff_iff]; simp_all; done))
    ·try simp only [Q] at h4p
     refine Walk.closure (xs := [_]) rfl (.some rfl rfl h4) rfl rfl ?_
     refine Walk.call (cr := []) cal192 (slices_ContainsFunc_Pat_fn (p := fun k => standsP n k v) hok.1 cal277 (fun t htm => impl_stands_1_fn (ih t htm)) ⟨rfl, trivial⟩ rfl rfl) rfl (.some rfl rfl h4) rfl rfl (LeL.refl _) ⟨rfl, trivial⟩ rfl rfl rfl ?_
     refine evs [] [(19, false)] ?_ ⟨⟨_, rfl, h4⟩, trivial⟩
     refine rn0 (r1 rfl) (.eqd ?_)
     all_goals (refine congrArg D.bool ?_; first | (simp_all; done) | (rw [Bool.eq_iff_iff]; simp_all; done))
   ·try simp only [Q] at h3p
    refine sqF ?_
    refine Walk.closure (xs := [_]) rfl (.some rfl rfl rfl) rfl rfl ?_
    refine Walk.call (cr := []) cal192 (slices_ContainsFunc_Pat_fn (p := fun k => standsP n k v) hok.1 cal277 (fun t htm => impl_stands_1_fn (ih t htm)) ⟨rfl, trivial⟩ rfl rfl) rfl (.some rfl rfl rfl) rfl rfl (LeL.refl _) ⟨rfl, trivial⟩ rfl rfl rfl ?_
    refine evs [] [(19, false)] ?_ ⟨⟨_, rfl, rfl⟩, trivial⟩
    refine rn0 (r1 rfl) (.eqd ?_)
    all_goals (refine congrArg D.bool ?_; first | (simp_all; done) | (rw [Bool.eq_iff_iff]; simp_all; done))
theorem impl_proper_1_fn {k : Pat} {v : Int} {b : Bool} (h : FnD Tryz.prog 227 [.agg [.d (.i k.op), .d (.i k.ctor), .d (.i k.n), .d (.i k.m), .d (.i k.var), .d (encPats k.kids)], .d (.i v)] [] (.d (.bool b)) []) : FnD Tryz.prog 226 [.agg [.d (.i k.op), .d (.i k.ctor), .d (.i k.n), .d (.i k.m), .d (.i k.var), .d (encPats k.kids)], .ref 3003 0] [(3003, some (.box [.d (.i v)]))] (.d (.bool b)) [] := by
 refine bd Tryz.f226 7 [] [] fun w0 F0 own kept hk => ?_
 refine Walk.box (id := 3002) .none rfl rfl rfl rfl rfl rfl rfl ?_
 refine ev ?_
 refine Walk.call (cr := []) cal227 (h) rfl .none rfl rfl (LeL.refl _) trivial rfl rfl rfl ?_
 refine ev ?_
 refine rn [] (r1 rfl) (.eqd ?_) ⟨rfl, rfl⟩ (SubH.get ⟨rfl, trivial⟩) (fun _ h => h)
 all_goals (rfl)
theorem impl_proper_fn {w : List Data} : ∀ (n : Nat) {t : Ty} {p : Pat} {v : Int}, shapeP w n t p = true → p.ok → FnD Tryz.prog 151 [.agg [.d (.i p.op), .d (.i p.ctor), .d (.i p.n), .d (.i p.m), .d (.i p.var), .d (encPats p.kids)], .d (.i v)] [] (.d (.bool (properP n p v))) []
 | 0, t, p, v, h, _ => by simp [shapeP] at h
 | n + 1, t, p, v, h, hok => by
  rw [Pat.ok_iff] at hok
  obtain ⟨ho, hl⟩ := shapeP_own h
  have ih : ∀ k ∈ p.kids, FnD Tryz.prog 227 [.agg [.d (.i k.op), .d (.i k.ctor), .d (.i k.n), .d (.i k.m), .d (.i k.var), .d (encPats k.kids)], .d (.i v)] [] (.d (.bool (standsP n k v))) [] := fun k hk => by
   obtain ⟨u, hu⟩ := kids_mem h hk
   exact impl_stands_fn n hu (Pats.ok_mem hok.2 _ hk)
  have l6 : p.op = 6 → p.kids.length = 1 := fun e => by rw [hl, typesP_6 e]; rfl
  have l5 : p.op = 5 → p.kids.length = 2 := fun e => by rw [hl, typesP_5 e]; rfl
  have g0 : ∀ {i : Nat}, i < p.kids.length → FnD Tryz.prog 151 [.agg [.d (.i (nth p.kids i).op), .d (.i (nth p.kids i).ctor), .d (.i (nth p.kids i).n), .d (.i (nth p.kids i).m), .d (.i (nth p.kids i).var), .d (encPats (nth p.kids i).kids)], .d (.i v)] [] (.d (.bool (properP n (nth p.kids i) v))) [] := fun {i} hi => impl_proper_fn n (shapeP_kid h hi) (Pats.ok_mem hok.2 _ (nth_mem hi))
  have hd : properP (n + 1) p v = (if p.op = 6 then properP n (nth p.kids 0) v else if p.op = 5 then properP n (nth p.kids 0) v && properP n (nth p.kids 1) v else if p.op = 4 then p.kids.any fun k => standsP n k v else false) := rfl
  rw [hd]
  refine bd Tryz.f151 37 [] [] fun w0 F0 own kept hk => ?_
  refine Walk.box (id := 3002) .none rfl rfl rfl rfl rfl rfl rfl ?_
  refine Walk.box (id := 3003) .none rfl rfl rfl rfl rfl rfl rfl ?_
  refine ev ?_
  refine sq (fun h1 h1p h1s => ?_) fun h1 h1p h1s => ?_
  ·try simp only [Q, Pat.cs_len] at h1p
   refine Walk.idx (i := 0) sl49 .none rfl rfl rfl rfl (pats_at (by first | (have := l6 (by omega); omega) | (have := l5 (by omega); omega))) rfl ?_
   refine evd [] [] ?_
   refine Walk.call (cr := []) cal151 (g0 (i := 0) (by have := l6 (by omega); omega)) rfl .none rfl rfl (LeL.refl _) trivial rfl rfl rfl ?_
   refine evd [] [] ?_
   refine dr ?_
   refine rn0 (r1 rfl) (.eqd ?_)
   all_goals (refine congrArg D.bool ?_; first | (rw [if_pos (by omega)]; simp_all; done) | (rw [if_pos (by omega)]; done) | (rw [if_neg (by omega), if_pos (by omega)]; simp_all; done) | (rw [if_neg (by omega), if_neg (by omega), if_pos (by omega)]; done) | (rw [if_neg (by omega), if_neg (by omega), if_neg (by omega)]; done))
  ·try simp only [Q, Pat.cs_len] at h1p
   refine sq (fun h2 h2p h2s => ?_) fun h2 h2p h2s => ?_
   ·try simp only [Q, Pat.cs_len] at h2p
    refine Walk.idx (i := 0) sl49 .none rfl rfl rfl rfl (pats_at (by first | (have := l6 (by omega); omega) | (have := l5 (by omega); omega))) rfl ?_
    refine evd [] [] ?_
    refine Walk.call (cr := []) cal151 (g0 (i := 0) (by have := l5 (by omega); omega)) rfl .none rfl rfl (LeL.refl _) trivial rfl rfl rfl ?_
    refine evd [] [] ?_
    refine sq (fun h3 h3p h3s => ?_) fun h3 h3p h3s => ?_
    ·try simp only [Q, Pat.cs_len] at h3p
     refine Walk.idx (i := 1) sl49 (.some rfl rfl h3) rfl rfl rfl rfl (pats_at (by first | (have := l6 (by omega); omega) | (have := l5 (by omega); omega))) rfl ?_
     refine evd [] [(23, true)] ?_ ⟨⟨_, rfl, h3⟩, trivial⟩
     refine Walk.call (cr := []) cal151 (g0 (i := 1) (by have := l5 (by omega); omega)) rfl (.some rfl rfl h3) rfl rfl (LeL.refl _) trivial rfl rfl rfl ?_
     refine evd [] [(23, true)] ?_ ⟨⟨_, rfl, h3⟩, trivial⟩
     refine dr ?_
     refine rn0 (r1 rfl) (.eqd ?_)
     all_goals (refine congrArg D.bool ?_; first | (rw [if_pos (by omega)]; simp_all; done) | (rw [if_pos (by omega)]; done) | (rw [if_neg (by omega), if_pos (by omega)]; simp_all; done) | (rw [if_neg (by omega), if_neg (by omega), if_pos (by omega)]; done) | (rw [if_neg (by omega), if_neg (by omega), if_neg (by omega)]; done))
    ·try simp only [Q, Pat.cs_len] at h3p
     refine dr ?_
     refine rn0 (r1 rfl) (.eqd ?_)
     all_goals (refine congrArg D.bool ?_; first | (rw [if_pos (by omega)]; simp_all; done) | (rw [if_pos (by omega)]; done) | (rw [if_neg (by omega), if_pos (by omega)]; simp_all; done) | (rw [if_neg (by omega), if_neg (by omega), if_pos (by omega)]; done) | (rw [if_neg (by omega), if_neg (by omega), if_neg (by omega)]; done))
   ·try simp only [Q, Pat.cs_len] at h2p
    refine sq (fun h4 h4p h4s => ?_) fun h4 h4p h4s => ?_
    ·try simp only [Q, Pat.cs_len] at h4p
     refine Walk.closure (xs := [_]) rfl .none rfl rfl ?_
     refine Walk.call (cr := []) cal192 (slices_ContainsFunc_Pat_fn (p := fun k => standsP n k v) hok.1 cal226 (fun t htm => impl_proper_1_fn (ih t htm)) ⟨rfl, trivial⟩ rfl rfl) rfl .none rfl rfl (LeL.refl _) ⟨rfl, trivial⟩ rfl rfl rfl ?_
     refine ev ?_
     refine rn0 (r1 rfl) (.eqd ?_)
     all_goals (refine congrArg D.bool ?_; first | (rw [if_pos (by omega)]; simp_all; done) | (rw [if_pos (by omega)]; done) | (rw [if_neg (by omega), if_pos (by omega)]; simp_all; done) | (rw [if_neg (by omega), if_neg (by omega), if_pos (by omega)]; done) | (rw [if_neg (by omega), if_neg (by omega), if_neg (by omega)]; done))
    ·try simp only [Q, Pat.cs_len] at h4p
     refine rn0 (r1 rfl) (.eqd ?_)
     all_goals (refine congrArg D.bool ?_; first | (rw [if_pos (by omega)]; simp_all; done) | (rw [if_pos (by omega)]; done) | (rw [if_neg (by omega), if_pos (by omega)]; simp_all; done) | (rw [if_neg (by omega), if_neg (by omega), if_pos (by omega)]; done) | (rw [if_neg (by omega), if_neg (by omega), if_neg (by omega)]; done))
theorem impl_descends_1_fn {k : Ex} {f : Int} {p : Pat} {b : Bool} (h : FnD Tryz.prog 88 [.agg [.d (.i k.op), .d (.i k.n), .d (.i k.ctor), .d (encExs k.kids)], .d (.i f), .agg [.d (.i p.op), .d (.i p.ctor), .d (.i p.n), .d (.i p.m), .d (.i p.var), .d (encPats p.kids)]] [] (.d (.bool b)) []) : FnD Tryz.prog 153 [.agg [.d (.i k.op), .d (.i k.n), .d (.i k.ctor), .d (encExs k.kids)], .ref 3004 0, .ref 3005 0] [(3004, some (.box [.d (.i f)])), (3005, some (.box [.d (.i p.op), .d (.i p.ctor), .d (.i p.n), .d (.i p.m), .d (.i p.var), .d (encPats p.kids)]))] (.d (.bool (!b))) [] := by
 refine bd Tryz.f153 10 [] [] fun w0 F0 own kept hk => ?_
 refine Walk.box (id := 3003) .none rfl rfl rfl rfl rfl rfl rfl ?_
 refine ev ?_
 refine Walk.call (cr := []) cal88 (h) rfl .none rfl rfl (LeL.refl _) trivial rfl rfl rfl ?_
 refine ev ?_
 refine rn [] (r1 rfl) (.eqd ?_) ⟨rfl, rfl⟩ (SubH.get ⟨rfl, ⟨rfl, trivial⟩⟩) (fun _ h => h)
 all_goals (rfl)
theorem call_kid {w : List Data} {funs : List Ft} {vars : List Vt} {n : Nat} {t : Ty} {e : Ex} (h : fitsE w funs vars (n + 1) t e = true) (h5 : e.op = 5) : e.kids.length = 1 := by
 simp only [fitsE, nodeE, Bool.and_eq_true, decide_eq_true_eq] at h
 have hok := h.1.1
 rw [ok_5 h5] at hok
 simp only [Bool.and_eq_true, decide_eq_true_eq] at hok
 have hT : typesE w funs t e = [(nth funs e.n.toNat).arg] := by unfold typesE; rw [if_neg (by omega), if_neg (by omega), if_pos h5, if_pos hok.1]
 have hl := h.1.2
 rw [hT] at hl
 exact hl.symm
theorem fitsE_mem {w : List Data} {funs : List Ft} {vars : List Vt} {n : Nat} {t : Ty} {e k : Ex} (h : fitsE w funs vars (n + 1) t e = true) (hk : k ∈ e.kids) : ∃ u, fitsE w funs vars n u k = true := by
 simp only [fitsE, nodeE, Bool.and_eq_true, decide_eq_true_eq] at h
 obtain ⟨i, hi, rfl⟩ := List.getElem_of_mem hk
 refine ⟨nth (typesE w funs t e) i, ?_⟩
 have e1 : nth e.kids i = e.kids[i] := by simp [nth, List.getD, hi]
 rw [← e1]
 cases hs : fitsE w funs vars n (nth (typesE w funs t e) i) (nth e.kids i) with
 | true => rfl
 | false =>
  have := all2_nth_false (f := fitsE w funs vars n) (a := typesE w funs t e) (b := e.kids) (i := i) (by omega) (by omega) hs
  rw [this] at h
  exact absurd h.2 (by simp)
theorem impl_descends_fn {w : List Data} {funs : List Ft} {vars : List Vt} {ut : Ty} {p : Pat} (hsp : shapeP w 10 ut p = true) (hpo : p.ok) {f : Int} : ∀ (n : Nat) {t : Ty} {e : Ex}, fitsE w funs vars n t e = true → e.ok →
  FnD Tryz.prog 88 [.agg [.d (.i e.op), .d (.i e.n), .d (.i e.ctor), .d (encExs e.kids)], .d (.i f), .agg [.d (.i p.op), .d (.i p.ctor), .d (.i p.n), .d (.i p.m), .d (.i p.var), .d (encPats p.kids)]] [] (.d (.bool (descE (properP 10 p) f n e))) []
 | 0, t, e, h, _ => by simp [fitsE] at h
 | n + 1, t, e, h, hok => by
  rw [Ex.ok_iff] at hok
  have ih : ∀ k ∈ e.kids, FnD Tryz.prog 88 [.agg [.d (.i k.op), .d (.i k.n), .d (.i k.ctor), .d (encExs k.kids)], .d (.i f), .agg [.d (.i p.op), .d (.i p.ctor), .d (.i p.n), .d (.i p.m), .d (.i p.var), .d (encPats p.kids)]] [] (.d (.bool (descE (properP 10 p) f n k))) [] := fun k hk => by
   obtain ⟨u, hu⟩ := fitsE_mem h hk
   exact impl_descends_fn hsp hpo n hu (Exs.ok_mem hok.2 _ hk)
  have hck := fun h5 => call_kid h h5
  have hall : e.kids.all (descE (properP 10 p) f n) = !e.kids.any (fun k => !descE (properP 10 p) f n k) := by
   rw [List.not_any_eq_all_not]; simp
  have hd : descE (properP 10 p) f (n + 1) e = (!(decide (e.op = 5) && (decide (f < e.n) || (decide (e.n = f) && (!decide ((nth e.kids 0).op = 2) || !properP 10 p (nth e.kids 0).n)))) && e.kids.all (descE (properP 10 p) f n)) := rfl
  rw [hd, hall]
  refine bd Tryz.f88 45 [] [] fun w0 F0 own kept hk => ?_
  refine Walk.box (id := 3003) .none rfl rfl rfl rfl rfl rfl rfl ?_
  refine Walk.box (id := 3004) .none rfl rfl rfl rfl rfl rfl rfl ?_
  refine Walk.box (id := 3005) .none rfl rfl rfl rfl rfl rfl rfl ?_
  refine ev ?_
  refine sq (fun h1 h1p h1s => ?_) fun h1 h1p h1s => ?_
  ·try simp only [Q, Ex.cs_len] at h1p
   refine sq (fun h2 h2p h2s => ?_) fun h2 h2p h2s => ?_
   ·try simp only [Q, Ex.cs_len] at h2p
    refine sq (fun h3 h3p h3s => ?_) fun h3 h3p h3s => ?_
    ·try simp only [Q, Ex.cs_len] at h3p
     refine sqT ?_
     refine dr ?_
     refine sqT ?_
     refine rn0 (r1 rfl) (.eqd ?_)
     all_goals (refine congrArg D.bool ?_; first | (simp_all; done) | (have e0 : e.n = f := (by omega); simp_all; done) | (have e0 : ¬ e.n = f := (by omega); have e1 : ¬ f < e.n := (by omega); simp_all; done) | (have e0 : ¬ e.n = f := (by omega); simp_all; done))
    ·try simp only [Q, Ex.cs_len] at h3p
     refine Walk.idx (i := 0) sl116 (.some rfl rfl h3) rfl rfl rfl rfl (exs_at (by have := hck (by omega); omega)) rfl ?_
     refine evd [] [(16, true), (21, false)] ?_ ⟨⟨_, rfl, h2⟩, ⟨_, rfl, h3⟩, trivial⟩
     refine sq (fun h5 h5p h5s => ?_) fun h5 h5p h5s => ?_
     ·try simp only [Q, Ex.cs_len] at h5p
      refine dr ?_
      refine sqT ?_
      refine rn0 (r1 rfl) (.eqd ?_)
      all_goals (refine congrArg D.bool ?_; first | (simp_all; done) | (have e0 : e.n = f := (by omega); simp_all; done) | (have e0 : ¬ e.n = f := (by omega); have e1 : ¬ f < e.n := (by omega); simp_all; done) | (have e0 : ¬ e.n = f := (by omega); simp_all; done))
     ·try simp only [Q, Ex.cs_len] at h5p
      refine Walk.idx (i := 0) sl116 (.some rfl rfl h5) rfl rfl rfl rfl (exs_at (by have := hck (by omega); omega)) rfl ?_
      refine evd [] [(16, true), (29, false)] ?_ ⟨⟨_, rfl, h2⟩, ⟨_, rfl, h5⟩, trivial⟩
      refine Walk.call (cr := []) cal151 (impl_proper_fn 10 hsp hpo) rfl (.some rfl rfl h5) rfl rfl (LeL.refl _) trivial rfl rfl rfl ?_
      refine evd [] [(16, true), (29, false)] ?_ ⟨⟨_, rfl, h2⟩, ⟨_, rfl, h5⟩, trivial⟩
      refine dr ?_
      refine sq (fun h7 h7p h7s => ?_) fun h7 h7p h7s => ?_
      ·try simp only [Q, Ex.cs_len] at h7p
       refine rn0 (r1 rfl) (.eqd ?_)
       all_goals (refine congrArg D.bool ?_; first | (simp_all; done) | (have e0 : e.n = f := (by omega); simp_all; done) | (have e0 : ¬ e.n = f := (by omega); have e1 : ¬ f < e.n := (by omega); simp_all; done) | (have e0 : ¬ e.n = f := (by omega); simp_all; done))
      ·try simp only [Q, Ex.cs_len] at h7p
       refine Walk.closure (xs := [_, _]) rfl .none rfl rfl ?_
       refine Walk.call (cr := []) cal152 (slices_ContainsFunc_Ex_fn (p := fun k => !descE (properP 10 p) f n k) hok.1 cal153 (fun t htm => impl_descends_1_fn (ih t htm)) ⟨rfl, rfl, trivial⟩ rfl rfl) rfl .none rfl rfl (LeL.refl _) ⟨rfl, rfl, trivial⟩ rfl rfl rfl ?_
       refine ev ?_
       refine rn0 (r1 rfl) (.eqd ?_)
       all_goals (refine congrArg D.bool ?_; first | (simp_all; done) | (have e0 : e.n = f := (by omega); simp_all; done) | (have e0 : ¬ e.n = f := (by omega); have e1 : ¬ f < e.n := (by omega); simp_all; done) | (have e0 : ¬ e.n = f := (by omega); simp_all; done))
   ·try simp only [Q, Ex.cs_len] at h2p
    refine dr ?_
    refine sqF ?_
    refine Walk.closure (xs := [_, _]) rfl .none rfl rfl ?_
    refine Walk.call (cr := []) cal152 (slices_ContainsFunc_Ex_fn (p := fun k => !descE (properP 10 p) f n k) hok.1 cal153 (fun t htm => impl_descends_1_fn (ih t htm)) ⟨rfl, rfl, trivial⟩ rfl rfl) rfl .none rfl rfl (LeL.refl _) ⟨rfl, rfl, trivial⟩ rfl rfl rfl ?_
    refine ev ?_
    refine rn0 (r1 rfl) (.eqd ?_)
    all_goals (refine congrArg D.bool ?_; first | (simp_all; done) | (have e0 : e.n = f := (by omega); simp_all; done) | (have e0 : ¬ e.n = f := (by omega); have e1 : ¬ f < e.n := (by omega); simp_all; done) | (have e0 : ¬ e.n = f := (by omega); simp_all; done))
  ·try simp only [Q, Ex.cs_len] at h1p
   refine sqF ?_
   refine dr ?_
   refine sqF ?_
   refine Walk.closure (xs := [_, _]) rfl .none rfl rfl ?_
   refine Walk.call (cr := []) cal152 (slices_ContainsFunc_Ex_fn (p := fun k => !descE (properP 10 p) f n k) hok.1 cal153 (fun t htm => impl_descends_1_fn (ih t htm)) ⟨rfl, rfl, trivial⟩ rfl rfl) rfl .none rfl rfl (LeL.refl _) ⟨rfl, rfl, trivial⟩ rfl rfl rfl ?_
   refine ev ?_
   refine rn0 (r1 rfl) (.eqd ?_)
   all_goals (refine congrArg D.bool ?_; first | (simp_all; done) | (have e0 : e.n = f := (by omega); simp_all; done) | (have e0 : ¬ e.n = f := (by omega); have e1 : ¬ f < e.n := (by omega); simp_all; done) | (have e0 : ¬ e.n = f := (by omega); simp_all; done))
theorem fus_facts {w : List Data} {l : List Fu} (h : fusValid w l = true) : worldValid w = true ∧ ∀ i, i < l.length → clsValid w (nth l i).ty.arg (nth l i).cls = true ∧ (nth l i).cls.length = (nth l i).bodies.length ∧ ∀ j, j < (nth l i).bodies.length → isE w (l.map Fu.ty) (varsOf w (nth l i).ty.arg (nth (nth l i).cls j).pat) (nth l i).ty.res (nth (nth l i).bodies j) = true := by
 unfold fusValid at h
 simp only [Bool.and_eq_true, List.all_eq_true] at h
 refine ⟨h.1, fun i hi => ?_⟩
 have hf := h.2.2 _ (nth_mem hi)
 unfold fuValid at hf
 rw [Bool.and_eq_true] at hf
 have hl : (nth l i).cls.length = (nth l i).bodies.length := by
  by_cases hl : (nth l i).cls.length = (nth l i).bodies.length
  ·exact hl
  ·have := hf.2; unfold bodiesOk at this; rw [all2_len hl] at this; cases this
 refine ⟨hf.1, hl, fun j hj => ?_⟩
 cases hb : isE w (l.map Fu.ty) (varsOf w (nth l i).ty.arg (nth (nth l i).cls j).pat) (nth l i).ty.res (nth (nth l i).bodies j) with
 | true => rfl
 | false =>
  have := bodies_at (w := w) (funs := l.map Fu.ty) (f := nth l i) (i := j) (by omega) hj hb
  unfold fuValid at this
  rw [hf.1, hf.2] at this
  cases this
theorem cls_at_ok {w : List Data} {t : Ty} {l : List Cl} (h : clsValid w t l = true) {i : Nat} (hi : i < l.length) : isP w t (nth l i).pat = true := (clOk_vars ((cls_facts h).2.2 i hi)).1
theorem isP_shape {w : List Data} {t : Ty} {p : Pat} (h : isP w t p = true) : shapeP w 10 t p = true ∧ linP w 10 t p = true := by
 unfold isP at h; simp only [Bool.and_eq_true] at h; exact ⟨h.1, h.2.2⟩
theorem isE_fits {w : List Data} {funs : List Ft} {vars : List Vt} {t : Ty} {e : Ex} (h : isE w funs vars t e = true) : fitsE w funs vars 10 t e = true := by
 unfold isE at h; rw [Bool.and_eq_true] at h; exact h.1
theorem desc_at {f : Fu} {i : Int} {j : Nat} (hl : f.cls.length = f.bodies.length) (hj : j < f.bodies.length) (h : descE (properP 10 (nth f.cls j).pat) i 10 (nth f.bodies j) = false) : descF f i = false := by
 unfold descF; exact all2_nth_false (i := j) (by omega) hl h
theorem desc_all {f : Fu} {i : Int} (hl : f.cls.length = f.bodies.length) (h : ∀ j, j < f.bodies.length → descE (properP 10 (nth f.cls j).pat) i 10 (nth f.bodies j) = true) : descF f i = true := by
 unfold descF; exact all2_nth_true hl (fun j hj => h j (by omega))
theorem impl_DescendingFun_fn {w : List Data} (hs : WSmall w) {l : List Fu} (hl : FusOk l) {i : Int} : FnD Tryz.prog 21 [.d (encDatas w), .d (encFus l), .d (.i i)] [] (.d (.bool (descending w l i))) [] := by
 have hll := hl.1
 by_cases hv : fusValid w l = true ∧ 0 ≤ i ∧ i < (l.length : Int)
 ·obtain ⟨hv1, hi0, hi1⟩ := hv
  obtain ⟨f, rfl⟩ := Int.eq_ofNat_of_zero_le hi0
  have hf : f < l.length := by omega
  obtain ⟨hwv, hfa⟩ := fus_facts hv1
  obtain ⟨hc, hcl, hb⟩ := hfa f hf
  have hfo := hl.2 _ (nth_mem hf)
  have hbl := hfo.2.1
  have hdd : descending w l (f : Int) = descF (nth l f) f := by unfold descending; rw [hv1, decide_eq_true ⟨hi0, hi1⟩]; simp
  rw [hdd]
  have hfv := impl_FunsValid_fn hs hl
  rw [hv1] at hfv
  have hat : (l.map Fu.c)[f]? = some (Fu.c (nth l f)) := at_nth hf
  generalize hY : nth l f = y at *
  refine bd Tryz.f21 46 [] [] fun w0 F0 own kept hk => ?_
  refine Walk.call (cr := []) cal17 (hfv) rfl .none rfl rfl (LeL.refl _) trivial rfl rfl rfl ?_
  refine ev ?_
  refine sq (fun h1 h1p h1s => ?_) fun h1 h1p h1s => ?_
  ·try simp only [Q, Int.natCast_inj, Ex.cs_len] at h1p
   refine sqT ?_
   exfalso; first | (simp_all [within]; done) | (simp_all [within]; omega) --stop
  ·try simp only [Q, Int.natCast_inj, Ex.cs_len] at h1p
   refine ar ?_
   refine Walk.call (cr := []) cal87 (impl_within_fn) rfl (.some rfl rfl h1) rfl rfl (LeL.refl _) trivial rfl rfl rfl ?_
   refine evs [] [(13, false)] ?_ ⟨⟨_, rfl, h1⟩, trivial⟩
   refine sq (fun h3 h3p h3s => ?_) fun h3 h3p h3s => ?_
   ·try simp only [Q, Int.natCast_inj, Ex.cs_len] at h3p
    exfalso; first | (simp_all [within]; done) | (simp_all [within]; omega) --stop
   ·try simp only [Q, Int.natCast_inj, Ex.cs_len] at h3p
    refine Walk.idx (i := f) sl29 .none rfl rfl rfl rfl (hat) rfl ?_
    refine ev ?_
    refine CWp.loopX (ι := Nat) hk (fun j => [(27, .d (.i (j : Int)))]) [6, 7, 8, 28, 29, 30, 31, 32, 33, 34, 35, 36, 37, 38, 39, 40, 41, 42, 43, 44, 45] (fun j => []) (fun j => j ≤ y.bodies.length ∧ ∀ j', j' < j → descE (properP 10 (nth y.cls j').pat) (f : Int) 10 (nth y.bodies j') = true) (fun j => y.bodies.length - j) 0 ⟨by omega, fun _ h => absurd h (by omega)⟩ ⟨⟨_, rfl, (LeA.eqi (by first | rfl | (simp; done) | (simp_all; done) | omega))⟩, trivial⟩ trivial (fun x => rfl) (fun j hg1 => ?_)
    refine evc [] [] ?_
    refine sq (fun h4 h4p h4s => ?_) fun h4 h4p h4s => ?_
    ·try simp only [Q, Int.natCast_inj, Ex.cs_len] at h4p
     refine Walk.idx sl116 .none rfl rfl rfl rfl (exs_at (by omega)) rfl ?_
     refine ev ?_
     refine Walk.alloc (id := 3008) tz130 rfl .none rfl rfl rfl rfl ?_
     refine ev ?_
     refine Walk.store ty130 .none rfl rfl rfl rfl rfl rfl (by simp) rfl ?_
     refine tv ?_
     refine Walk.idx (i := f) sl29 .none rfl rfl rfl rfl (hat) rfl ?_
     refine evd [] [] ?_
     refine Walk.idx sl44 .none rfl rfl rfl rfl (at_nth (by omega)) rfl ?_
     refine evd [] [] ?_
     refine Walk.call (cr := []) cal88 (impl_descends_fn (f := (f : Int)) (p := (nth y.cls j).pat) (isP_shape (cls_at_ok hc (by omega))).1 (hfo.1.2 _ (nth_mem (by omega))) 10 (isE_fits (hb j (by omega))) (Exs.ok_mem hfo.2.2 _ (nth_mem (by omega)))) rfl .none rfl rfl (LeL.refl _) trivial rfl rfl rfl ?_
     refine evd [] [] ?_
     refine dr ?_
     refine sq (fun h5 h5p h5s => ?_) fun h5 h5p h5s => ?_
     ·try simp only [Q, Int.natCast_inj, Ex.cs_len] at h5p
      refine rn0 (r1 rfl) (.eqd ?_)
      all_goals (refine congrArg D.bool ?_; first | (rw [desc_at (j := j) hcl (by omega) (by assumption)]; done) | (rw [desc_all hcl (fun x hx => hg1.2 x (by omega))]; done))
     ·try simp only [Q, Int.natCast_inj, Ex.cs_len] at h5p
      refine ar ?_
      refine Exists.intro (j + 1) ⟨⟨by omega, upto_succ hg1.2 (by assumption)⟩, (by omega), Sub.x (by kernel_rfl) (by kernel_rfl) ⟨⟨_, rfl, (LeA.eqi (by first | rfl | (simp; done) | (simp_all; done) | omega))⟩, trivial⟩ (by kernel_rfl) (by kernel_rfl) trivial⟩
    ·try simp only [Q, Int.natCast_inj, Ex.cs_len] at h4p
     refine rn0 (r1 rfl) (.eqd ?_)
     all_goals (refine congrArg D.bool ?_; first | (rw [desc_at (j := j) hcl (by omega) (by assumption)]; done) | (rw [desc_all hcl (fun x hx => hg1.2 x (by omega))]; done))
 ·have hdd : descending w l i = false := by
   unfold descending
   rw [Bool.eq_false_iff]
   intro h
   simp only [Bool.and_eq_true, decide_eq_true_eq] at h
   exact hv ⟨h.1, h.2.1⟩
  rw [hdd]
  refine bd Tryz.f21 46 [] [] fun w0 F0 own kept hk => ?_
  refine Walk.call (cr := []) cal17 (impl_FunsValid_fn hs hl) rfl .none rfl rfl (LeL.refl _) trivial rfl rfl rfl ?_
  refine ev ?_
  refine sq (fun h1 h1p h1s => ?_) fun h1 h1p h1s => ?_
  ·try simp only [Q, within] at h1p
   refine sqT ?_
   refine rn0 (r1 rfl) (.eqd ?_)
   all_goals (rfl)
  ·try simp only [Q, within] at h1p
   refine ar ?_
   refine Walk.call (cr := []) cal87 (impl_within_fn) rfl (.some rfl rfl h1) rfl rfl (LeL.refl _) trivial rfl rfl rfl ?_
   refine evs [] [(13, false)] ?_ ⟨⟨_, rfl, h1⟩, trivial⟩
   refine sq (fun h3 h3p h3s => ?_) fun h3 h3p h3s => ?_
   ·try simp only [Q, within] at h3p
    refine rn0 (r1 rfl) (.eqd ?_)
    all_goals (rfl)
   ·try simp only [Q, within] at h3p
    exfalso; refine hv ⟨?_, ?_⟩ <;> first | (simp_all; done) | (simp_all; omega) --stop
mutual
theorem valEq_refl : ∀ v : Val, valEq v v = true
 | .mk _ _ ks => by simp [valEq, valsEq_refl ks]
theorem valsEq_refl : ∀ l : List Val, valsEq l l = true
 | [] => rfl
 | v :: r => by simp [valsEq, valEq_refl v, valsEq_refl r]
end
theorem Val.c_len (v : Val) : v.c.length = 3 := by cases v; rfl
theorem Val.cs_rows {l : List Val} : ∀ x, x ∈ Val.cs l → x.length = 3 := by
 intro x hx
 rw [Val.cs_eq] at hx
 obtain ⟨y, _, rfl⟩ := List.mem_map.1 hx
 exact y.c_len
theorem Val.cs_nil (l : List Val) : Val.cs l = [] ↔ l = [] := by rw [Val.cs_eq]; simp
mutual
def mVal : Val → Nat
 | .mk _ _ ks => mVals ks
def mVals : List Val → Nat
 | [] => 0
 | v :: r => 1 + mVal v + mVals r
end
mutual
def Val.szM : Val → Int
 | .mk _ _ ks => 2 + Vals.szM ks
def Vals.szM : List Val → Int
 | [] => 0
 | v :: r => v.szM + Vals.szM r
end
mutual
def Val.one (k : Int) : Val → Val
 | .mk _ _ ks => .mk k (k + 1) (Vals.one (k + 1 + 1) ks)
def Vals.one (k : Int) : List Val → List Val
 | [] => []
 | v :: r => v.one k :: Vals.one (k + v.szM) r
end
theorem Vals.szM_eq : ∀ l : List Val, Vals.szM l = szL Val.szM l
 | [] => rfl
 | v :: r => by simp only [Vals.szM, szL, Vals.szM_eq r]
theorem Vals.one_eq : ∀ (l : List Val) (k : Int), Vals.one k l = mkL Val.one Val.szM k l
 | [], _ => rfl
 | v :: r, k => by simp only [Vals.one, mkL, Vals.one_eq r]
theorem Val.szM_kids (v : Val) : v.szM = 2 + szL Val.szM v.kids := by cases v; simp only [Val.szM, Val.kids, Vals.szM_eq]
theorem Val.one_kids (v : Val) (k : Int) : (v.one k).kids = mkL Val.one Val.szM (k + 1 + 1) v.kids := by cases v; simp only [Val.one, Val.kids, Vals.one_eq]
theorem Val.one_sc (v : Val) (k : Int) : (Val.one k v).ctor = k ∧ (Val.one k v).num = k + 1 := by cases v; exact ⟨rfl, rfl⟩
mutual
theorem Val.szM_nn : ∀ v : Val, 0 ≤ v.szM
 | .mk _ _ ks => by have := Vals.szM_nn ks; simp only [Val.szM]; omega
theorem Vals.szM_nn : ∀ l : List Val, 0 ≤ Vals.szM l
 | [] => by simp [Vals.szM]
 | v :: r => by have := Val.szM_nn v; have := Vals.szM_nn r; simp only [Vals.szM]; omega
end
mutual
theorem Val.szM_le : ∀ v : Val, v.szM ≤ 2 + 2 * (mVal v : Int)
 | .mk _ _ ks => by have := Vals.szM_le ks; simp only [Val.szM, mVal]; omega
theorem Vals.szM_le : ∀ l : List Val, Vals.szM l ≤ 2 * (mVals l : Int)
 | [] => by simp [Vals.szM, mVals]
 | v :: r => by have := Val.szM_le v; have := Vals.szM_le r; simp only [Vals.szM, mVals]; omega
end
mutual
def cntV (m : Int) : Val → Int
 | .mk _ _ ks => cntL m 1 ks
def cntL (m n : Int) : List Val → Int
 | [] => n
 | k :: r => if n ≤ m then cntL m (n + cntV (m - n) k) r else n
end
theorem cntL_stop {m n : Int} {l : List Val} (h : ¬ n ≤ m) : cntL m n l = n := by cases l <;> simp [cntL, h]
mutual
theorem cntV_le : ∀ (v : Val) (m : Int), 1 ≤ cntV m v ∧ cntV m v ≤ v.size
 | .mk _ _ ks, m => by
  have := cntL_le ks m 1 (by omega)
  simp only [cntV, Val.size]; push_cast; omega
theorem cntL_le : ∀ (l : List Val) (m n : Int), 1 ≤ n → 1 ≤ cntL m n l ∧ cntL m n l ≤ n + Vals.size l
 | [], m, n, h => by simp [cntL, Vals.size]; omega
 | k :: r, m, n, h => by
  have h1 := cntV_le k (m - n)
  have h2 := cntL_le r m (n + cntV (m - n) k) (by omega)
  simp only [cntL, Vals.size]
  split
  ·push_cast; omega
  ·push_cast; omega
end
mutual
theorem cntV_iff : ∀ (v : Val) (m : Int), (cntV m v ≤ m ↔ (v.size : Int) ≤ m) ∧ (cntV m v ≤ m → cntV m v = v.size)
 | .mk _ _ ks, m => by
  have := cntL_iff ks m 1
  simp only [cntV, Val.size]; push_cast; exact this
theorem cntL_iff : ∀ (l : List Val) (m n : Int), (cntL m n l ≤ m ↔ n + (Vals.size l : Int) ≤ m) ∧ (cntL m n l ≤ m → cntL m n l = n + Vals.size l)
 | [], m, n => by simp [cntL, Vals.size]
 | k :: r, m, n => by
  have h1 := cntV_iff k (m - n)
  have h2 := cntL_iff r m (n + cntV (m - n) k)
  have h3 := cntL_le r m (n + cntV (m - n) k)
  have h4 := cntV_le k (m - n)
  simp only [cntL, Vals.size]
  push_cast
  by_cases hn : n ≤ m
  ·rw [if_pos hn]
   by_cases h5 : cntV (m - n) k ≤ m - n
   ·have h6 := h1.2 h5
    rw [h6] at h2 ⊢
    constructor
    ·rw [h2.1]; constructor <;> intro h <;> omega
    ·intro h; rw [h2.2 h]; omega
   ·have h7 : ¬ (k.size : Int) ≤ m - n := fun h => h5 (h1.1.2 h)
    have h8 : ¬ n + cntV (m - n) k ≤ m := by omega
    rw [cntL_stop h8]
    constructor
    ·constructor <;> intro h <;> omega
    ·intro h; omega
  ·rw [if_neg hn]
   constructor
   ·constructor <;> intro h <;> omega
   ·intro h; omega
end
theorem Vals.size_split {pre rest l : List Val} {y : Val} (h : pre ++ y :: rest = l) : Vals.size l = Vals.size pre + y.size + Vals.size rest := by
 subst h
 induction pre with
 | nil => simp [Vals.size]
 | cons x r ih => simp only [List.cons_append, Vals.size, ih]; omega
structure Bd where
 var : Int
 val : Val
def Bd.c (b : Bd) : List D := [.i b.var, .i b.val.ctor, .i b.val.num, encVals b.val.kids]
instance : Inhabited Bd := ⟨⟨0, default⟩⟩
def BdOk (m : Nat) (l : List Bd) : Prop := ∀ x ∈ l, x.val.ok ∧ x.val.size ≤ m
theorem BdOk.app {m : Nat} {a b : List Bd} (h1 : BdOk m a) (h2 : BdOk m b) : BdOk m (a ++ b) := fun x hx => by
 rcases List.mem_append.1 hx with h | h
 ·exact h1 x h
 ·exact h2 x h
theorem BdOk.mono {m k : Nat} {a : List Bd} (h : BdOk m a) (hk : m ≤ k) : BdOk k a := fun x hx => ⟨(h x hx).1, Nat.le_trans (h x hx).2 hk⟩
theorem types5 {w : List Data} {t : Ty} {p : Pat} (h : p.op = 5) : typesP w t p = [t, t] := by unfold typesP; rw [if_neg (by omega), if_pos h]
theorem types6 {w : List Data} {t : Ty} {p : Pat} (h : p.op = 6) : typesP w t p = [t] := by unfold typesP; rw [if_neg (by omega), if_neg (by omega), if_pos h]
theorem shape_op {w : List Data} {n : Nat} {t : Ty} {p : Pat} (h : shapeP w (n + 1) t p = true) : p.op = 1 ∨ p.op = 2 ∨ p.op = 3 ∨ p.op = 4 ∨ p.op = 5 ∨ p.op = 6 := by
 have h1 := (shapeP_own h).1
 unfold ownP at h1
 have h2 := (of_decide_eq_true h1).2.2.2.2
 omega
theorem shape_two {w : List Data} {n : Nat} {t : Ty} {p : Pat} (h : shapeP w (n + 1) t p = true) (h5 : p.op = 5) : p.kids.length = 2 ∧ shapeP w n t (nth p.kids 0) = true ∧ shapeP w n t (nth p.kids 1) = true := by
 have hl := (shapeP_own h).2
 have h0 := fun i hi => shapeP_kid h (i := i) hi
 rw [types5 h5] at hl h0
 have hl' : p.kids.length = 2 := hl
 exact ⟨hl', h0 0 (by omega), h0 1 (by omega)⟩
theorem shape_one {w : List Data} {n : Nat} {t : Ty} {p : Pat} (h : shapeP w (n + 1) t p = true) (h6 : p.op = 6) : p.kids.length = 1 ∧ shapeP w n t (nth p.kids 0) = true := by
 have hl := (shapeP_own h).2
 have h0 := fun i hi => shapeP_kid h (i := i) hi
 rw [types6 h6] at hl h0
 have hl' : p.kids.length = 1 := hl
 exact ⟨hl', h0 0 (by omega)⟩
theorem partsP_len (w : List Data) : ∀ (n : Nat) {t : Ty} {p : Pat}, shapeP w n t p = true → (partsP w n t p).length ≤ p.size
 | 0, t, p, h => by simp [partsP]
 | n + 1, t, p, h => by
  have hlen := (shapeP_own h).2
  have hs := Pat.size_eq p
  unfold partsP
  split
  ·rename_i h6
   obtain ⟨hl, s0⟩ := shape_one h h6
   have := partsP_len w n s0
   have := pnth_size (l := p.kids) (i := 0) (by omega); omega
  ·split
   ·rename_i h5
    obtain ⟨hl, s0, s1⟩ := shape_two h h5
    have := partsP_len w n s0
    have := pnth_size (l := p.kids) (i := 0) (by omega)
    have := List.length_filter_le (fun v => decide (v ∈ partsP w n t (nth p.kids 1))) (partsP w n t (nth p.kids 0))
    omega
   ·split
    ·have := varsL_len (varsP_len w n) (argsOf w t p.ctor) p.kids
     rw [List.length_map]; omega
    ·simp
theorem varsD_next {f : Ty → Pat → List Vt} {a : List Ty} {b : List Pat} {i : Nat} (h1 : i < a.length) (h2 : i < b.length) : varsL f (a.drop i) (b.drop i) = f (nth a i) (nth b i) ++ varsL f (a.drop (i + 1)) (b.drop (i + 1)) := by
 rw [drop_nth h1, drop_nth h2]; rfl
theorem varsD_end {f : Ty → Pat → List Vt} {a : List Ty} {b : List Pat} {i : Nat} (h1 : a.length ≤ i) : varsL f (a.drop i) (b.drop i) = [] := by
 rw [List.drop_eq_nil_of_le h1]; cases b.drop i <;> rfl
theorem filter_next {q : Int → Bool} {l : List Int} {i : Nat} (h : i < l.length) : (l.take (i + 1)).filter q = (l.take i).filter q ++ (if q (nth l i) = true then [nth l i] else []) := by
 rw [List.take_succ_eq_append_getElem h, List.filter_append, ← nth_eq h]
 congr 1
 cases hq : q (nth l i) <;> simp [hq]
theorem filter_end {q : Int → Bool} {l : List Int} {i : Nat} (h : l.length ≤ i) : (l.take i).filter q = l.filter q := by rw [List.take_of_length_le h]
theorem filter_len {q : Int → Bool} {l : List Int} {i : Nat} : ((l.take i).filter q).length ≤ l.length := by
 have := List.length_filter_le q (l.take i); simp at this; omega
theorem spec_l13Parts_fn {w : List Data} (hw : WT w) : ∀ (n : Nat) {a k : Int} {p : Pat}, n ≤ 1000 → shapeP w n ⟨a, k⟩ p = true → TyIn w.length ⟨a, k⟩ → p.ok → p.size ≤ 1000000000000 →
  FnD Tryz.prog 86 [.d (encDatas w), .agg [.d (.i a), .d (.i k)], .agg [.d (.i p.op), .d (.i p.ctor), .d (.i p.n), .d (.i p.m), .d (.i p.var), .d (encPats p.kids)]] [] (.d (encInts (partsP w n ⟨a, k⟩ p))) []
 | 0, a, k, p, _, h, _, _, _ => by simp [shapeP] at h
 | n + 1, a, k, p, hn, h, ht, hok, hsz => by
  have hps := Pat.size_eq p
  obtain ⟨ho, hlen⟩ := shapeP_own h
  have hokk := (Pat.ok_iff p).1 hok
  have hop := shape_op h
  have hlp := partsP_len w (n + 1) h
  by_cases h6 : p.op = 6
  ·obtain ⟨hl, s0⟩ := shape_one h h6
   have hz := pnth_size (l := p.kids) (i := 0) (by omega)
   have hd : partsP w (n + 1) ⟨a, k⟩ p = partsP w n ⟨a, k⟩ (nth p.kids 0) := by conv => lhs; unfold partsP; rw [if_pos h6]
   rw [hd]
   refine bd Tryz.f86 105 [] [] fun w0 F0 own kept hk => ?_
   refine Walk.box (id := 3004) .none rfl rfl rfl rfl rfl rfl rfl ?_
   refine Walk.box (id := 3005) .none rfl rfl rfl rfl rfl rfl rfl ?_
   refine ev ?_
   refine sq (fun h1 h1p h1s => ?_) fun h1 h1p h1s => ?_
   ·try simp only [Q] at h1p
    refine Walk.idx (i := 0) sl49 .none rfl rfl rfl rfl (pats_at (by omega)) rfl ?_
    refine evd [] [] ?_
    refine Walk.call (cr := []) cal86 (spec_l13Parts_fn hw n (by omega) s0 ht (Pats.ok_mem hokk.2 _ (nth_mem (by omega))) (by omega)) rfl .none rfl rfl (LeL.refl _) trivial rfl rfl rfl ?_
    refine evd [] [] ?_
    refine dr ?_
    refine rn0 (r1 rfl) (.eqd ?_)
    all_goals (rfl)
   ·try simp only [Q] at h1p
    exfalso; omega --stop
  by_cases h5 : p.op = 5
  ·obtain ⟨hl, s0, s1⟩ := shape_two h h5
   have hz := pnth_size (l := p.kids) (i := 0) (by omega)
   have hz1 := pnth_size (l := p.kids) (i := 1) (by omega)
   have hd : partsP w (n + 1) ⟨a, k⟩ p = (partsP w n ⟨a, k⟩ (nth p.kids 0)).filter (fun v => decide (v ∈ partsP w n ⟨a, k⟩ (nth p.kids 1))) := by
    conv => lhs; unfold partsP
    rw [if_neg h6, if_pos h5]
   have c0 := spec_l13Parts_fn hw n (by omega) s0 ht (Pats.ok_mem hokk.2 _ (nth_mem (by omega))) (by omega)
   have c1 := spec_l13Parts_fn hw n (by omega) s1 ht (Pats.ok_mem hokk.2 _ (nth_mem (by omega))) (by omega)
   have b0 := partsP_len w n s0
   have b1 := partsP_len w n s1
   rw [hd]
   generalize partsP w n ⟨a, k⟩ (nth p.kids 0) = A at *
   generalize partsP w n ⟨a, k⟩ (nth p.kids 1) = C at *
   refine bd Tryz.f86 105 [] [] fun w0 F0 own kept hk => ?_
   refine Walk.box (id := 3004) .none rfl rfl rfl rfl rfl rfl rfl ?_
   refine Walk.box (id := 3005) .none rfl rfl rfl rfl rfl rfl rfl ?_
   refine ev ?_
   refine sq (fun h1 h1p h1s => ?_) fun h1 h1p h1s => ?_
   ·try simp only [Q, Int.natCast_inj] at h1p
    exfalso; omega --stop
   ·try simp only [Q, Int.natCast_inj] at h1p
    refine sq (fun h2 h2p h2s => ?_) fun h2 h2p h2s => ?_
    ·try simp only [Q, Int.natCast_inj] at h2p
     refine Walk.idx (i := 0) sl49 .none rfl rfl rfl rfl (pats_at (by omega)) rfl ?_
     refine evd [] [] ?_
     refine Walk.call (cr := []) cal86 (c0) rfl .none rfl rfl (LeL.refl _) trivial rfl rfl rfl ?_
     refine evd [] [] ?_
     refine dr ?_
     refine Walk.idx (i := 1) sl49 .none rfl rfl rfl rfl (pats_at (by omega)) rfl ?_
     refine evd [] [] ?_
     refine Walk.call (cr := []) cal86 (c1) rfl .none rfl rfl (LeL.refl _) trivial rfl rfl rfl ?_
     refine evd [] [] ?_
     refine dr ?_
     refine Walk.sliceEmptyG 1 sl54 .none rfl rfl ?_
     refine ev ?_
     refine CWp.loopX (ι := Nat) hk (fun i => [(10, .d (.i (i : Int))), (9, .gl 1 (((A.take i).filter (fun v => decide (v ∈ C))).map fun n => [D.i n]))]) [44, 45, 46, 47, 48, 49, 50, 51, 52, 53, 54, 55, 56, 57, 58, 59, 60, 61, 62] (fun i => [(1, some (.tok ((((A.take i).filter (fun v => decide (v ∈ C))).map fun n => [D.i n])).length 1))]) (fun i => i ≤ A.length) (fun i => A.length - i) 0 (by omega) ⟨⟨_, rfl, (LeA.eqi (by first | rfl | (simp; done) | (rw [filter_next (by omega), if_pos (by assumption), List.map_append]; rfl) | (rw [filter_next (by omega), if_pos (by assumption)]; simp; done) | (rw [filter_next (by omega), if_neg (by simp_all), List.append_nil]; done) | omega))⟩, ⟨⟨_, rfl, (LeA.glg (by first | rfl | (simp; done) | (rw [filter_next (by omega), if_pos (by assumption), List.map_append]; rfl) | (rw [filter_next (by omega), if_pos (by assumption)]; simp; done) | (rw [filter_next (by omega), if_neg (by simp_all), List.append_nil]; done) | omega))⟩, trivial⟩⟩ ⟨beq_nat_eq (by first | rfl | (simp; done) | (simp; omega) | (first | rfl | (simp; done) | (rw [filter_next (by omega), if_pos (by assumption), List.map_append]; rfl) | (rw [filter_next (by omega), if_pos (by assumption)]; simp; done) | (rw [filter_next (by omega), if_neg (by simp_all), List.append_nil]; done) | omega)), trivial⟩ (fun x => rfl) (fun i hg1 => ?_)
     refine evc [] [] ?_
     refine sq (fun h3 h3p h3s => ?_) fun h3 h3p h3s => ?_
     ·try simp only [Q, Int.natCast_inj] at h3p
      refine Walk.idx sl54 .none rfl rfl rfl rfl (at_nth (by omega)) rfl ?_
      refine ev ?_
      refine Walk.call (cr := []) cal149 (spec_l1Has_fn (v := nth A i) (by omega)) rfl .none rfl rfl (LeL.refl _) trivial rfl rfl rfl ?_
      refine tv ?_
      refine sq (fun h4 h4p h4s => ?_) fun h4 h4p h4s => ?_
      ·try simp only [Q, Int.natCast_inj] at h4p
       refine Walk.idx sl54 .none rfl rfl rfl rfl (at_nth (by omega)) rfl ?_
       refine ev ?_
       refine Walk.sliceLit sl54 tz3 rfl (by decide) (ks := [0]) (xs := [_]) rfl rfl (by decide) (by decide) .none rfl rfl rfl rfl ?_
       refine Walk.append sl54 zz3 rfl .none rfl rfl rfl rfl (htokL rfl (by first | rfl | (simp; done) | (simp; omega))) (by intro x hx; simp at hx; subst hx; rfl) (by have := filter_len (q := fun v => decide (v ∈ C)) (l := A) (i := i); simp at *; omega) (by have := filter_len (q := fun v => decide (v ∈ C)) (l := A) (i := i); simp at *; omega) ?_
       refine ev ?_
       refine ar ?_
       refine Exists.intro (i + 1) ⟨(by omega), (by omega), Sub.x (by kernel_rfl) (by kernel_rfl) ⟨⟨_, rfl, (LeA.eqi (by first | rfl | (simp; done) | (rw [filter_next (by omega), if_pos (by assumption), List.map_append]; rfl) | (rw [filter_next (by omega), if_pos (by assumption)]; simp; done) | (rw [filter_next (by omega), if_neg (by simp_all), List.append_nil]; done) | omega))⟩, ⟨⟨_, rfl, (LeA.glg (by first | rfl | (simp; done) | (rw [filter_next (by omega), if_pos (by assumption), List.map_append]; rfl) | (rw [filter_next (by omega), if_pos (by assumption)]; simp; done) | (rw [filter_next (by omega), if_neg (by simp_all), List.append_nil]; done) | omega))⟩, trivial⟩⟩ (by kernel_rfl) (by kernel_rfl) ⟨beq_nat_eq (by first | rfl | (simp; done) | (simp; omega) | (first | rfl | (simp; done) | (rw [filter_next (by omega), if_pos (by assumption), List.map_append]; rfl) | (rw [filter_next (by omega), if_pos (by assumption)]; simp; done) | (rw [filter_next (by omega), if_neg (by simp_all), List.append_nil]; done) | omega)), trivial⟩⟩
      ·try simp only [Q, Int.natCast_inj] at h4p
       refine ar ?_
       refine Exists.intro (i + 1) ⟨(by omega), (by omega), Sub.x (by kernel_rfl) (by kernel_rfl) ⟨⟨_, rfl, (LeA.eqi (by first | rfl | (simp; done) | (rw [filter_next (by omega), if_pos (by assumption), List.map_append]; rfl) | (rw [filter_next (by omega), if_pos (by assumption)]; simp; done) | (rw [filter_next (by omega), if_neg (by simp_all), List.append_nil]; done) | omega))⟩, ⟨⟨_, rfl, (LeA.glg (by first | rfl | (simp; done) | (rw [filter_next (by omega), if_pos (by assumption), List.map_append]; rfl) | (rw [filter_next (by omega), if_pos (by assumption)]; simp; done) | (rw [filter_next (by omega), if_neg (by simp_all), List.append_nil]; done) | omega))⟩, trivial⟩⟩ (by kernel_rfl) (by kernel_rfl) ⟨beq_nat_eq (by first | rfl | (simp; done) | (simp; omega) | (first | rfl | (simp; done) | (rw [filter_next (by omega), if_pos (by assumption), List.map_append]; rfl) | (rw [filter_next (by omega), if_pos (by assumption)]; simp; done) | (rw [filter_next (by omega), if_neg (by simp_all), List.append_nil]; done) | omega)), trivial⟩⟩
     ·try simp only [Q, Int.natCast_inj] at h3p
      refine rn0 (r1 rfl) (.gld ?_)
      all_goals (first | rfl | (rw [filter_end (by omega)]; done))
    ·try simp only [Q, Int.natCast_inj] at h2p
     exfalso; omega --stop
  by_cases h4 : p.op = 4
  ·have hmem : p.ctor ∈ vctors w ⟨a, k⟩ := ownP_mem ho h4
   have e4 := typesP_4 (w := w) (t := ⟨a, k⟩) h4
   have hd : partsP w (n + 1) ⟨a, k⟩ p = (varsL (varsP w n) (argsOf w ⟨a, k⟩ p.ctor) p.kids).map Vt.var := by
    conv => lhs; unfold partsP
    rw [if_neg h6, if_neg h5, if_pos h4]
   have hv3 : ∀ i, i < p.kids.length → FnD Tryz.prog 132 [.nils, .d (encDatas w), .agg [.d (.i (nth (argsOf w ⟨a, k⟩ p.ctor) i).data), .d (.i (nth (argsOf w ⟨a, k⟩ p.ctor) i).index)], .agg [.d (.i (nth p.kids i).op), .d (.i (nth p.kids i).ctor), .d (.i (nth p.kids i).n), .d (.i (nth p.kids i).m), .d (.i (nth p.kids i).var), .d (encPats (nth p.kids i).kids)]] [] (.d (encVts (varsP w n (nth (argsOf w ⟨a, k⟩ p.ctor) i) (nth p.kids i)))) [] := fun i hi => by
    have hk := shapeP_kid h hi
    rw [e4] at hk
    have hz := pnth_size (l := p.kids) (i := i) hi
    have htt := typesP_in (w := w) (a := a) (k := k) hw ht ho (nth (typesP w ⟨a, k⟩ p) i) (nth_mem (by omega))
    rw [e4] at htt
    exact spec_l3Vars_nil hw hk (by omega) htt (Pats.ok_mem hokk.2 _ (nth_mem hi)) (by omega)
   have hvl := fun i => varsP_len w n (nth (argsOf w ⟨a, k⟩ p.ctor) i) (nth p.kids i)
   have hks := hokk.1
   have hvn := fun (i : Nat) (h1 : i < (argsOf w ⟨a, k⟩ p.ctor).length) (h2 : i < p.kids.length) => varsD_next (f := varsP w n) h1 h2
   have hve := fun (i : Nat) (h1 : (argsOf w ⟨a, k⟩ p.ctor).length ≤ i) => varsD_end (f := varsP w n) (b := p.kids) h1
   have hargs := spec_l1Args_v hw ht hmem
   rw [hd] at hlp ⊢
   rw [e4] at hlen
   generalize argsOf w ⟨a, k⟩ p.ctor = T at *
   refine bd Tryz.f86 105 [] [] fun w0 F0 own kept hk => ?_
   refine Walk.box (id := 3004) .none rfl rfl rfl rfl rfl rfl rfl ?_
   refine Walk.box (id := 3005) .none rfl rfl rfl rfl rfl rfl rfl ?_
   refine ev ?_
   refine sq (fun h1 h1p h1s => ?_) fun h1 h1p h1s => ?_
   ·try simp only [Q, Int.natCast_inj] at h1p
    exfalso; omega --stop
   ·try simp only [Q, Int.natCast_inj] at h1p
    refine sq (fun h2 h2p h2s => ?_) fun h2 h2p h2s => ?_
    ·try simp only [Q, Int.natCast_inj] at h2p
     exfalso; omega --stop
    ·try simp only [Q, Int.natCast_inj] at h2p
     refine sq (fun h3 h3p h3s => ?_) fun h3 h3p h3s => ?_
     ·try simp only [Q, Int.natCast_inj] at h3p
      refine Walk.sliceEmptyG 1 sl54 .none rfl rfl ?_
      refine ev ?_
      refine Walk.call (cr := []) cal150 (hargs) rfl .none rfl rfl (LeL.refl _) trivial rfl rfl rfl ?_
      refine ev ?_
      refine CWp.loopX (ι := Nat × List Int) hk (fun s => [(13, .d (.i (s.1 : Int))), (11, .gl 1 (s.2.map fun n => [D.i n]))]) [14, 15, 72, 73, 74, 75, 76, 77, 78, 79, 80, 81, 82, 83, 84, 85, 86, 87, 88, 89, 90, 91, 92, 93, 94, 95, 96, 97, 98, 99, 100, 101, 102] (fun s => [(1, some (.tok ((s.2.map fun n => [D.i n])).length 1))]) (fun s => s.1 ≤ T.length ∧ s.2 ++ (varsL (varsP w n) (T.drop s.1) (p.kids.drop s.1)).map Vt.var = (varsL (varsP w n) T p.kids).map Vt.var) (fun s => T.length - s.1) (0, []) ⟨by simp, by simp⟩ ⟨⟨_, rfl, (LeA.eqi (by first | rfl | (dsimp only; omega) | omega))⟩, ⟨⟨_, rfl, (LeA.glg (by first | rfl | (dsimp only; omega) | omega))⟩, trivial⟩⟩ ⟨beq_nat_eq (by first | rfl | (simp; done) | (simp; omega) | (first | rfl | (dsimp only; omega) | omega)), trivial⟩ (fun x => rfl) (fun s hg2 => ?_)
      refine evc [] [] ?_
      refine sq (fun h4 h4p h4s => ?_) fun h4 h4p h4s => ?_
      ·try simp only [Q, Int.natCast_inj] at h4p
       refine Walk.idx sl182 .none rfl rfl rfl rfl (at_nth (by omega)) rfl ?_
       refine evd [] [] ?_
       refine Walk.idx sl49 .none rfl rfl rfl rfl (pats_at (by omega)) rfl ?_
       refine evd [] [] ?_
       refine Walk.call (cr := []) cal132 (hv3 s.1 (by omega)) rfl .none rfl rfl (LeL.refl _) trivial rfl rfl rfl ?_
       refine evd [] [] ?_
       refine dr ?_
       refine CWp.loopX (ι := List (Vt) × List (Vt) × (List Int)) hk (fun x => [(15, .d (.i (x.1.length : Int))), (11, .gl 1 (x.2.2.map fun n => [D.i n]))]) [89, 90, 91, 92, 93, 94, 95, 96, 97, 98, 99, 100, 101, 102] (fun x => [(1, some (.tok ((x.2.2.map fun n => [D.i n])).length 1))]) (fun x => x.1 ++ x.2.1 = varsP w n (nth T s.1) (nth p.kids s.1) ∧ x.2.2 = s.2 ++ x.1.map Vt.var) (fun x => x.2.1.length) ([], varsP w n (nth T s.1) (nth p.kids s.1), s.2) ⟨by simp, by simp⟩ ⟨⟨_, rfl, (LeA.eqi (by first | rfl | (simp; done)))⟩, ⟨⟨_, rfl, (LeA.glg (by first | rfl | (simp; done)))⟩, trivial⟩⟩ ⟨beq_nat_eq (by first | rfl | (simp; done) | (simp; omega) | (first | rfl | (simp; done))), trivial⟩ (fun x => rfl) (fun x hg3 => ?_)
       obtain ⟨pre, rest, acc⟩ := x
       dsimp only at hg3 ⊢
       refine evc [] [] ?_
       refine sq (fun h5 h5p h5s => ?_) fun h5 h5p h5s => ?_
       ·try simp only [Q, Int.natCast_inj] at h5p
        rcases rest with _ | ⟨y, rest⟩
        ·exfalso; simp_all
        have hpl3 := congrArg List.length hg3.1; simp only [List.length_append, List.length_cons] at hpl3; have hpl4 := hvl s.1; have hpl5 := pnth_size (l := p.kids) (i := s.1) (by omega)
        refine Walk.idx sl124 .none rfl rfl rfl rfl (zip_at hg3.1) rfl ?_
        refine ev ?_
        refine Walk.sliceLit sl54 tz3 rfl (by decide) (ks := [0]) (xs := [_]) rfl rfl (by decide) (by decide) .none rfl rfl rfl rfl ?_
        refine Walk.append sl54 zz3 rfl .none rfl rfl rfl rfl (htokL rfl (by first | rfl | (simp; done) | (simp; omega))) (by intro x hx; simp at hx; subst hx; rfl) (by have hz := congrArg List.length hg2.2; have hz2 := congrArg List.length hg3.1; have hz3 := congrArg List.length (hvn s.1 (by omega) (by omega)); simp only [List.length_append, List.length_map, List.length_cons, List.length_nil] at *; have hz4 := congrArg List.length hg3.2; simp only [List.length_append, List.length_map, List.length_cons, List.length_nil] at *; omega) (by have hz := congrArg List.length hg2.2; have hz2 := congrArg List.length hg3.1; have hz3 := congrArg List.length (hvn s.1 (by omega) (by omega)); simp only [List.length_append, List.length_map, List.length_cons, List.length_nil] at *; have hz4 := congrArg List.length hg3.2; simp only [List.length_append, List.length_map, List.length_cons, List.length_nil] at *; omega) ?_
        refine ev ?_
        refine ar ?_
        refine Exists.intro ((pre ++ [y], rest, acc ++ [y.var])) ⟨⟨(by have hz := hg3.1; rw [← hz]; simp), (by rw [hg3.2]; simp)⟩, (by simp), Sub.x (by kernel_rfl) (by kernel_rfl) ⟨⟨_, rfl, (LeA.eqi (by first | rfl | (simp; done)))⟩, ⟨⟨_, rfl, (LeA.glg (by first | rfl | (simp; done)))⟩, trivial⟩⟩ (by kernel_rfl) (by kernel_rfl) ⟨beq_nat_eq (by first | rfl | (simp; done) | (simp; omega) | (first | rfl | (simp; done))), trivial⟩⟩
       ·try simp only [Q, Int.natCast_inj] at h5p
        have hrest : rest = [] := by
         rcases rest with _ | ⟨a, b⟩
         ·rfl
         ·exfalso; have hz := congrArg List.length (hg3.1); simp only [List.length_append, List.length_cons, List.length_map] at hz; omega
        subst hrest
        refine ar ?_
        rw [List.append_nil] at hg3
        refine Exists.intro ((s.1 + 1, acc)) ⟨⟨by dsimp only; omega, by dsimp only; rw [hg3.2, hg3.1, List.append_assoc, ← List.map_append, ← hvn s.1 (by omega) (by omega)]; exact hg2.2⟩, (by dsimp only; omega), Sub.x (by kernel_rfl) (by kernel_rfl) ⟨⟨_, rfl, (LeA.eqi (by first | rfl | (dsimp only; omega) | omega))⟩, ⟨⟨_, rfl, (LeA.glg (by first | rfl | (dsimp only; omega) | omega))⟩, trivial⟩⟩ (by kernel_rfl) (by kernel_rfl) ⟨beq_nat_eq (by first | rfl | (simp; done) | (simp; omega) | (first | rfl | (dsimp only; omega) | omega)), trivial⟩⟩
      ·try simp only [Q, Int.natCast_inj] at h4p
       refine rn0 (r1 rfl) (.gld ?_)
       all_goals (first | rfl | (rw [hve _ (by omega)] at hg2; simp only [List.map_nil, List.append_nil] at hg2; rw [← hg2.2]; done))
     ·try simp only [Q, Int.natCast_inj] at h3p
      exfalso; omega --stop
  ·have hd : partsP w (n + 1) ⟨a, k⟩ p = [] := by
    conv => lhs; unfold partsP
    rw [if_neg h6, if_neg h5, if_neg h4]
   rw [hd]
   refine bd Tryz.f86 105 [] [] fun w0 F0 own kept hk => ?_
   refine Walk.box (id := 3004) .none rfl rfl rfl rfl rfl rfl rfl ?_
   refine Walk.box (id := 3005) .none rfl rfl rfl rfl rfl rfl rfl ?_
   refine ev ?_
   refine sq (fun h1 h1p h1s => ?_) fun h1 h1p h1s => ?_
   ·try simp only [Q] at h1p
    exfalso; omega --stop
   ·try simp only [Q] at h1p
    refine sq (fun h2 h2p h2s => ?_) fun h2 h2p h2s => ?_
    ·try simp only [Q] at h2p
     exfalso; omega --stop
    ·try simp only [Q] at h2p
     refine sq (fun h3 h3p h3s => ?_) fun h3 h3p h3s => ?_
     ·try simp only [Q] at h3p
      exfalso; omega --stop
     ·try simp only [Q] at h3p
      refine Walk.sliceEmpty sl54 .none rfl ?_
      refine ev ?_
      refine rn0 (r1 rfl) (.eqd ?_)
      all_goals (rfl)
theorem spec_l13Descends_fn {w : List Data} {funs : List Ft} {vars : List Vt} {ps : List Int} (hps : ps.length ≤ 1000000000000) {f : Int} : ∀ (n : Nat) {t : Ty} {e : Ex}, fitsE w funs vars n t e = true → e.ok →
  FnD Tryz.prog 85 [.agg [.d (.i e.op), .d (.i e.n), .d (.i e.ctor), .d (encExs e.kids)], .d (.i f), .d (encInts ps)] [] (.d (.bool (descE (fun v => decide (v ∈ ps)) f n e))) []
 | 0, t, e, h, _ => by simp [fitsE] at h
 | n + 1, t, e, h, hok => by
  rw [Ex.ok_iff] at hok
  have ih : ∀ k ∈ e.kids, FnD Tryz.prog 85 [.agg [.d (.i k.op), .d (.i k.n), .d (.i k.ctor), .d (encExs k.kids)], .d (.i f), .d (encInts ps)] [] (.d (.bool (descE (fun v => decide (v ∈ ps)) f n k))) [] := fun k hk => by
   obtain ⟨u, hu⟩ := fitsE_mem h hk
   exact spec_l13Descends_fn hps n hu (Exs.ok_mem hok.2 _ hk)
  have hck := fun h5 => call_kid h h5
  have hd : descE (fun v => decide (v ∈ ps)) f (n + 1) e = (!(decide (e.op = 5) && (decide (f < e.n) || (decide (e.n = f) && (!decide ((nth e.kids 0).op = 2) || !decide ((nth e.kids 0).n ∈ ps))))) && e.kids.all (descE (fun v => decide (v ∈ ps)) f n)) := rfl
  rw [hd]
  obtain ⟨X, hX⟩ : ∃ X, X = (decide (e.op = 5) && (decide (f < e.n) || (decide (e.n = f) && (!decide ((nth e.kids 0).op = 2) || !decide ((nth e.kids 0).n ∈ ps))))) := ⟨_, rfl⟩
  rw [← hX]
  refine bd Tryz.f85 57 [] [1] fun w0 F0 own kept hk => ?_
  refine Walk.box (id := 3003) .none rfl rfl rfl rfl rfl rfl rfl ?_
  refine ev ?_
  refine CWp.regionJ ?_
  refine WRest.join 33 [(40, .d (.bool (X)))] [8, 9, 10, 11, 12, 13, 14, 15, 16, 17, 18, 19, 20, 21, 22, 23, 24, 25, 26, 27, 28, 29, 30, 31, 32, 33, 34, 35, 36, 37, 38, 39] ?_ ?_
  ·
   refine ev ?_
   refine sq (fun h1 h1p h1s => ?_) fun h1 h1p h1s => ?_
   ·try simp only [Q, Ex.cs_len, Int.natCast_inj] at h1p
    refine sq (fun h2 h2p h2s => ?_) fun h2 h2p h2s => ?_
    ·try simp only [Q, Ex.cs_len, Int.natCast_inj] at h2p
     exact jn rfl (LeA.eqb (by (rw [hX, Bool.eq_iff_iff]; first | (simp_all; done) | (have e0 : e.n = f := (by omega); simp_all; done) | (have e0 : ¬ e.n = f := (by omega); have e1 : ¬ f < e.n := (by omega); simp_all; done) | (have e1 : ¬ f < e.n := (by omega); simp_all; done))))
    ·try simp only [Q, Ex.cs_len, Int.natCast_inj] at h2p
     refine sq (fun h3 h3p h3s => ?_) fun h3 h3p h3s => ?_
     ·try simp only [Q, Ex.cs_len, Int.natCast_inj] at h3p
      refine Walk.idx (i := 0) sl116 (.some rfl rfl h3) rfl rfl rfl rfl (exs_at (by have := hck (by omega); omega)) rfl ?_
      refine evs [] [(11, true), (16, false), (21, true)] ?_ ⟨⟨_, rfl, h1⟩, ⟨_, rfl, h2⟩, ⟨_, rfl, h3⟩, trivial⟩
      refine sq (fun h4 h4p h4s => ?_) fun h4 h4p h4s => ?_
      ·try simp only [Q, Ex.cs_len, Int.natCast_inj] at h4p
       exact jn rfl (LeA.eqb (by (rw [hX, Bool.eq_iff_iff]; first | (simp_all; done) | (have e0 : e.n = f := (by omega); simp_all; done) | (have e0 : ¬ e.n = f := (by omega); have e1 : ¬ f < e.n := (by omega); simp_all; done) | (have e1 : ¬ f < e.n := (by omega); simp_all; done))))
      ·try simp only [Q, Ex.cs_len, Int.natCast_inj] at h4p
       refine Walk.idx (i := 0) sl116 (.some rfl rfl h4) rfl rfl rfl rfl (exs_at (by have := hck (by omega); omega)) rfl ?_
       refine evs [] [(11, true), (16, false), (21, true), (28, false)] ?_ ⟨⟨_, rfl, h1⟩, ⟨_, rfl, h2⟩, ⟨_, rfl, h3⟩, ⟨_, rfl, h4⟩, trivial⟩
       refine Walk.call (cr := []) cal149 (spec_l1Has_fn hps) rfl (.some rfl rfl h4) rfl rfl (LeL.refl _) trivial rfl rfl rfl ?_
       refine evs [] [(11, true), (16, false), (21, true), (28, false)] ?_ ⟨⟨_, rfl, h1⟩, ⟨_, rfl, h2⟩, ⟨_, rfl, h3⟩, ⟨_, rfl, h4⟩, trivial⟩
       exact jn rfl (LeA.eqb (by (rw [hX, Bool.eq_iff_iff]; first | (simp_all; done) | (have e0 : e.n = f := (by omega); simp_all; done) | (have e0 : ¬ e.n = f := (by omega); have e1 : ¬ f < e.n := (by omega); simp_all; done) | (have e1 : ¬ f < e.n := (by omega); simp_all; done))))
     ·try simp only [Q, Ex.cs_len, Int.natCast_inj] at h3p
      exact jn rfl (LeA.eqb (by (rw [hX, Bool.eq_iff_iff]; first | (simp_all; done) | (have e0 : e.n = f := (by omega); simp_all; done) | (have e0 : ¬ e.n = f := (by omega); have e1 : ¬ f < e.n := (by omega); simp_all; done) | (have e1 : ¬ f < e.n := (by omega); simp_all; done))))
   ·try simp only [Q, Ex.cs_len, Int.natCast_inj] at h1p
    exact jn rfl (LeA.eqb (by (rw [hX, Bool.eq_iff_iff]; first | (simp_all; done) | (have e0 : e.n = f := (by omega); simp_all; done) | (have e0 : ¬ e.n = f := (by omega); have e1 : ¬ f < e.n := (by omega); simp_all; done) | (have e1 : ¬ f < e.n := (by omega); simp_all; done))))
  refine WRest.done ?_
  refine tv ?_
  refine sq (fun h5 h5p h5s => ?_) fun h5 h5p h5s => ?_
  ·try simp only [Q, Ex.cs_len, Int.natCast_inj] at h5p
   refine rn0 (r1 rfl) (.eqd ?_)
   all_goals (refine congrArg D.bool ?_; clear hX hd; first | (simp_all; done) | (rw [show e.kids.all (descE (fun v => decide (v ∈ ps)) f n) = false from List.all_eq_false.2 ⟨_, nth_mem (i := i) (by omega), by simp_all⟩, Bool.and_false]; done) | (rw [show e.kids.all (descE (fun v => decide (v ∈ ps)) f n) = true from List.all_eq_true.2 (fun x hx => by obtain ⟨j, hj, ej⟩ := List.getElem_of_mem hx; have := hg1.2 j (by omega); rw [nth_eq hj, ej] at this; exact this), Bool.and_true]; simp_all; done))
  ·try simp only [Q, Ex.cs_len, Int.natCast_inj] at h5p
   refine CWp.loopX (ι := Nat) hk (fun i => [(7, .d (.i (i : Int)))]) [6, 41, 42, 43, 44, 45, 46, 47, 48, 49, 50, 51, 52, 53, 54, 55, 56] (fun i => []) (fun i => i ≤ e.kids.length ∧ ∀ i', i' < i → descE (fun v => decide (v ∈ ps)) f n (nth e.kids i') = true) (fun i => e.kids.length - i) 0 ⟨by omega, fun _ h => absurd h (by omega)⟩ ⟨⟨_, rfl, (LeA.eqi (by first | rfl | (simp; done) | (simp_all; done) | omega))⟩, trivial⟩ trivial (fun x => rfl) (fun i hg1 => ?_)
   refine evc [] [1] ?_
   refine sq (fun h6 h6p h6s => ?_) fun h6 h6p h6s => ?_
   ·try simp only [Q, Ex.cs_len, Int.natCast_inj] at h6p
    refine Walk.idx sl116 .none rfl rfl rfl rfl (exs_at (by omega)) rfl ?_
    refine ev ?_
    refine Walk.call (cr := []) cal85 (ih (nth e.kids i) (nth_mem (by omega))) rfl .none rfl rfl (LeL.refl _) trivial rfl rfl rfl ?_
    refine ev ?_
    refine sq (fun h7 h7p h7s => ?_) fun h7 h7p h7s => ?_
    ·try simp only [Q, Ex.cs_len, Int.natCast_inj] at h7p
     refine rn0 (r1 rfl) (.eqd ?_)
     all_goals (refine congrArg D.bool ?_; clear hX hd; first | (simp_all; done) | (rw [show e.kids.all (descE (fun v => decide (v ∈ ps)) f n) = false from List.all_eq_false.2 ⟨_, nth_mem (i := i) (by omega), by simp_all⟩, Bool.and_false]; done) | (rw [show e.kids.all (descE (fun v => decide (v ∈ ps)) f n) = true from List.all_eq_true.2 (fun x hx => by obtain ⟨j, hj, ej⟩ := List.getElem_of_mem hx; have := hg1.2 j (by omega); rw [nth_eq hj, ej] at this; exact this), Bool.and_true]; simp_all; done))
    ·try simp only [Q, Ex.cs_len, Int.natCast_inj] at h7p
     refine ar ?_
     refine Exists.intro (i + 1) ⟨⟨by omega, upto_succ hg1.2 (by simp_all)⟩, (by omega), Sub.x (by kernel_rfl) (by kernel_rfl) ⟨⟨_, rfl, (LeA.eqi (by first | rfl | (simp; done) | (simp_all; done) | omega))⟩, trivial⟩ (by kernel_rfl) (by kernel_rfl) trivial⟩
   ·try simp only [Q, Ex.cs_len, Int.natCast_inj] at h6p
    refine rn0 (r1 rfl) (.eqd ?_)
    all_goals (refine congrArg D.bool ?_; clear hX hd; first | (simp_all; done) | (rw [show e.kids.all (descE (fun v => decide (v ∈ ps)) f n) = false from List.all_eq_false.2 ⟨_, nth_mem (i := i) (by omega), by simp_all⟩, Bool.and_false]; done) | (rw [show e.kids.all (descE (fun v => decide (v ∈ ps)) f n) = true from List.all_eq_true.2 (fun x hx => by obtain ⟨j, hj, ej⟩ := List.getElem_of_mem hx; have := hg1.2 j (by omega); rw [nth_eq hj, ej] at this; exact this), Bool.and_true]; simp_all; done))
theorem spec_DescendingFun_fn {w : List Data} (hs : WSmall w) {l : List Fu} (hl : FusOk l) (hz : FusSz l) {i : Int} : FnD Tryz.prog 20 [.d (encDatas w), .d (encFus l), .d (.i i)] [] (.d (.bool (descending w l i))) [] := by
 have hll := hl.1
 by_cases hv : fusValid w l = true ∧ 0 ≤ i ∧ i < (l.length : Int)
 ·obtain ⟨hv1, hi0, hi1⟩ := hv
  obtain ⟨f, rfl⟩ := Int.eq_ofNat_of_zero_le hi0
  have hf : f < l.length := by omega
  obtain ⟨hwv, hfa⟩ := fus_facts hv1
  obtain ⟨hc, hcl, hb⟩ := hfa f hf
  have hfo := hl.2 _ (nth_mem hf)
  have hfz := hz _ (nth_mem hf)
  have hbl := hfo.2.1
  have hw := valid_wt hs hwv
  have hdd : descending w l (f : Int) = descF (nth l f) f := by unfold descending; rw [hv1, decide_eq_true ⟨hi0, hi1⟩]; simp
  rw [hdd]
  have hfv := spec_FunsValid_fn hs hl hz
  rw [hv1] at hfv
  have hat : (l.map Fu.c)[f]? = some (Fu.c (nth l f)) := at_nth hf
  generalize hY : nth l f = y at *
  have hta : TyIn w.length ⟨y.ty.arg.data, y.ty.arg.index⟩ := (tv_ok (cls_facts hc).1).1
  have hcll := hfo.1.1
  have hpp : ∀ j, j < y.cls.length → ∀ v, properP 10 (nth y.cls j).pat v = decide (v ∈ partsP w 10 y.ty.arg (nth y.cls j).pat) := fun j hj v => proper_parts w 10 v (isP_shape (cls_at_ok hc hj)).1 (isP_shape (cls_at_ok hc hj)).2
  have hde : ∀ j, j < y.cls.length → descE (properP 10 (nth y.cls j).pat) (f : Int) 10 (nth y.bodies j) = descE (fun v => decide (v ∈ partsP w 10 ⟨y.ty.arg.data, y.ty.arg.index⟩ (nth y.cls j).pat)) (f : Int) 10 (nth y.bodies j) := fun j hj => descE_congr (hpp j hj) _ _ _
  have hsp := fun j hj => (isP_shape (cls_at_ok (i := j) hc hj)).1
  have hpl : ∀ j, j < y.cls.length → (partsP w 10 ⟨y.ty.arg.data, y.ty.arg.index⟩ (nth y.cls j).pat).length ≤ (nth y.cls j).pat.size := fun (j : Nat) (hj : j < y.cls.length) => partsP_len w 10 (hsp j hj)
  have hpl2 : ∀ j, j < y.cls.length → (partsP w 10 ⟨y.ty.arg.data, y.ty.arg.index⟩ (nth y.cls j).pat).length ≤ 1000000000000 := fun j hj => by have := hpl j hj; have := hfz.1 (nth y.cls j) (nth_mem hj); omega
  refine bd Tryz.f20 53 [] [] fun w0 F0 own kept hk => ?_
  refine Walk.call (cr := []) cal14 (hfv) rfl .none rfl rfl (LeL.refl _) trivial rfl rfl rfl ?_
  refine ev ?_
  refine sq (fun h1 h1p h1s => ?_) fun h1 h1p h1s => ?_
  ·try simp only [Q, Int.natCast_inj, Ex.cs_len] at h1p
   refine sqT ?_
   refine sqT ?_
   exfalso; first | (simp_all; done) | (simp_all; omega) --stop
  ·try simp only [Q, Int.natCast_inj, Ex.cs_len] at h1p
   refine sq (fun h3 h3p h3s => ?_) fun h3 h3p h3s => ?_
   ·try simp only [Q, Int.natCast_inj, Ex.cs_len] at h3p
    refine sqT ?_
    exfalso; first | (simp_all; done) | (simp_all; omega) --stop
   ·try simp only [Q, Int.natCast_inj, Ex.cs_len] at h3p
    refine sq (fun h5 h5p h5s => ?_) fun h5 h5p h5s => ?_
    ·try simp only [Q, Int.natCast_inj, Ex.cs_len] at h5p
     exfalso; first | (simp_all; done) | (simp_all; omega) --stop
    ·try simp only [Q, Int.natCast_inj, Ex.cs_len] at h5p
     refine Walk.idx (i := f) sl29 .none rfl rfl rfl rfl (hat) rfl ?_
     refine ev ?_
     refine Walk.alloc (id := 3007) tz118 rfl .none rfl rfl rfl rfl ?_
     refine Walk.store ty118 .none rfl rfl rfl rfl rfl rfl (by simp) rfl ?_
     refine tv ?_
     refine CWp.loopX (ι := Nat) hk (fun j => [(8, .d (.i (j : Int)))]) [6, 27, 28, 29, 30, 31, 32, 33, 34, 35, 36, 37, 38, 39, 40, 41, 42, 43, 44, 45, 46, 47, 48, 49, 50, 51, 52] (fun j => []) (fun j => j ≤ y.cls.length ∧ ∀ j', j' < j → descE (properP 10 (nth y.cls j').pat) (f : Int) 10 (nth y.bodies j') = true) (fun j => y.cls.length - j) 0 ⟨by omega, fun _ h => absurd h (by omega)⟩ ⟨⟨_, rfl, (LeA.eqi (by first | rfl | (simp; done) | (simp_all; done) | omega))⟩, trivial⟩ trivial (fun x => rfl) (fun j hg1 => ?_)
     refine evc [] [] ?_
     refine sq (fun h6 h6p h6s => ?_) fun h6 h6p h6s => ?_
     ·try simp only [Q, Int.natCast_inj, Ex.cs_len] at h6p
      refine Walk.idx sl116 .none rfl rfl rfl rfl (exs_at (by omega)) rfl ?_
      refine evd [] [] ?_
      refine Walk.idx sl44 .none rfl rfl rfl rfl (at_nth (by omega)) rfl ?_
      refine evd [] [] ?_
      refine Walk.call (cr := []) cal86 (spec_l13Parts_fn hw 10 (by omega) (hsp j (by omega)) hta (hfo.1.2 _ (nth_mem (by omega))) (hfz.1 _ (nth_mem (by omega)))) rfl .none rfl rfl (LeL.refl _) trivial rfl rfl rfl ?_
      refine Walk.call (cr := []) cal85 (spec_l13Descends_fn (hpl2 j (by omega)) (f := (f : Int)) 10 (isE_fits (hb j (by omega))) (Exs.ok_mem hfo.2.2 _ (nth_mem (by omega)))) rfl .none rfl rfl (LeL.refl _) trivial rfl rfl rfl ?_
      refine evd [] [] ?_
      refine dr ?_
      refine sq (fun h7 h7p h7s => ?_) fun h7 h7p h7s => ?_
      ·try simp only [Q, Int.natCast_inj, Ex.cs_len] at h7p
       refine rn0 (r1 rfl) (.eqd ?_)
       all_goals (refine congrArg D.bool ?_; first | (rw [desc_at (j := j) hcl (by omega) (by rw [hde j (by omega)]; assumption)]; done) | (rw [desc_all hcl (fun x hx => hg1.2 x (by omega))]; done))
      ·try simp only [Q, Int.natCast_inj, Ex.cs_len] at h7p
       refine ar ?_
       refine Exists.intro (j + 1) ⟨⟨by omega, upto_succ hg1.2 (by rw [hde j (by omega)]; assumption)⟩, (by omega), Sub.x (by kernel_rfl) (by kernel_rfl) ⟨⟨_, rfl, (LeA.eqi (by first | rfl | (simp; done) | (simp_all; done) | omega))⟩, trivial⟩ (by kernel_rfl) (by kernel_rfl) trivial⟩
     ·try simp only [Q, Int.natCast_inj, Ex.cs_len] at h6p
      refine rn0 (r1 rfl) (.eqd ?_)
      all_goals (refine congrArg D.bool ?_; first | (rw [desc_at (j := j) hcl (by omega) (by rw [hde j (by omega)]; assumption)]; done) | (rw [desc_all hcl (fun x hx => hg1.2 x (by omega))]; done))
 ·have hdd : descending w l i = false := by
   unfold descending
   rw [Bool.eq_false_iff]
   intro h
   simp only [Bool.and_eq_true, decide_eq_true_eq] at h
   exact hv ⟨h.1, h.2.1⟩
  rw [hdd]
  refine bd Tryz.f20 53 [] [] fun w0 F0 own kept hk => ?_
  refine Walk.call (cr := []) cal14 (spec_FunsValid_fn hs hl hz) rfl .none rfl rfl (LeL.refl _) trivial rfl rfl rfl ?_
  refine ev ?_
  refine sq (fun h1 h1p h1s => ?_) fun h1 h1p h1s => ?_
  ·try simp only [Q] at h1p
   refine sqT ?_
   refine sqT ?_
   refine rn0 (r1 rfl) (.eqd ?_)
   all_goals (rfl)
  ·try simp only [Q] at h1p
   refine sq (fun h3 h3p h3s => ?_) fun h3 h3p h3s => ?_
   ·try simp only [Q] at h3p
    refine sqT ?_
    refine rn0 (r1 rfl) (.eqd ?_)
    all_goals (rfl)
   ·try simp only [Q] at h3p
    refine sq (fun h5 h5p h5s => ?_) fun h5 h5p h5s => ?_
    ·try simp only [Q] at h5p
     refine rn0 (r1 rfl) (.eqd ?_)
     all_goals (rfl)
    ·try simp only [Q] at h5p
     exfalso; refine hv ⟨?_, ?_⟩ <;> first | (simp_all; done) | (simp_all; omega) --stop
theorem laws_FnExactDescendingFun_fn {w : List Data} (hs : WSmall w) {l : List Fu} (hok : FusOk l) (hsz : FusSz l) {i : Int} : FnD Tryz.prog 4 [.d (encDatas w), .d (encFus l), .d (.i i)] [] (.d (.bool true)) [] := by
 have z := szr_or (left := 1048576) (mDatas w)
 refine bd Tryz.f4 49 [38] [] fun w0 F0 own kept hk => ?_
 refine Walk.call (cr := []) cal12 (laws_szDataS_fn hs (by omega) (by omega)) rfl .none rfl rfl (LeL.refl _) trivial rfl rfl rfl ?_
 refine evs [38] [] ?_
 refine sq (fun h1 h1p h1s => ?_) fun h1 h1p h1s => ?_
 ·try simp only [Q] at h1p
  refine rn0 (r1 rfl) (.eqd ?_)
  all_goals (first | rfl | (exfalso; simp_all [fusEq_refl]; done) | (exfalso; simp [fusEq_refl] at *; omega))
 ·try simp only [Q] at h1p
  refine Walk.call (cr := []) cal13 (laws_szFunS_fn hok (by omega) (by omega)) rfl .none rfl rfl (LeL.refl _) trivial rfl rfl rfl ?_
  refine evs [38] [] ?_
  refine sq (fun h2 h2p h2s => ?_) fun h2 h2p h2s => ?_
  ·try simp only [Q] at h2p
   refine rn0 (r1 rfl) (.eqd ?_)
   all_goals (first | rfl | (exfalso; simp_all [fusEq_refl]; done) | (exfalso; simp [fusEq_refl] at *; omega))
  ·try simp only [Q] at h2p
   refine Walk.call (cr := []) cal15 (laws_toDataS_fn hs) rfl .none rfl rfl (LeL.refl _) trivial rfl rfl rfl ?_
   refine evs [38] [] ?_
   refine Walk.call (cr := []) cal16 (laws_toFunS_fn hok) rfl .none rfl rfl (LeL.refl _) trivial rfl rfl rfl ?_
   refine evs [38] [] ?_
   refine Walk.call (cr := []) cal20 (spec_DescendingFun_fn hs hok hsz) rfl .none rfl rfl (LeL.refl _) trivial rfl rfl rfl ?_
   refine evs [38] [] ?_
   refine Walk.call (cr := []) cal15 (laws_toDataS_fn hs) rfl .none rfl rfl (LeL.refl _) trivial rfl rfl rfl ?_
   refine evs [38] [] ?_
   refine Walk.call (cr := []) cal16 (laws_toFunS_fn hok) rfl .none rfl rfl (LeL.refl _) trivial rfl rfl rfl ?_
   refine evs [38] [] ?_
   refine Walk.call (cr := []) cal21 (impl_DescendingFun_fn hs hok) rfl .none rfl rfl (LeL.refl _) trivial rfl rfl rfl ?_
   refine evs [38] [] ?_
   refine Walk.neB un4 .none rfl rfl rfl ?_
   refine tv ?_
   refine sq (fun h3 h3p h3s => ?_) fun h3 h3p h3s => ?_
   ·try simp only [Q] at h3p
    refine rn0 (r1 rfl) (.eqd ?_)
    all_goals (first | rfl | (exfalso; simp_all [fusEq_refl]; done) | (exfalso; simp [fusEq_refl] at *; omega))
   ·try simp only [Q] at h3p
    refine Walk.call (cr := []) cal15 (laws_toDataS_fn hs) rfl .none rfl rfl (LeL.refl _) trivial rfl rfl rfl ?_
    refine Walk.call (cr := []) cal18 (laws_eqDataS_fn hs) rfl .none rfl rfl (LeL.refl _) trivial rfl rfl rfl ?_
    refine evs [38] [] ?_
    refine sq (fun h4 h4p h4s => ?_) fun h4 h4p h4s => ?_
    ·try simp only [Q] at h4p
     refine rn0 (r1 rfl) (.eqd ?_)
     all_goals (first | rfl | (exfalso; simp_all [fusEq_refl]; done) | (exfalso; simp [fusEq_refl] at *; omega))
    ·try simp only [Q] at h4p
     refine Walk.call (cr := []) cal16 (laws_toFunS_fn hok) rfl .none rfl rfl (LeL.refl _) trivial rfl rfl rfl ?_
     refine Walk.call (cr := []) cal19 (laws_eqFunS_fn hok) rfl .none rfl rfl (LeL.refl _) trivial rfl rfl rfl ?_
     refine evs [38] [] ?_
     refine sq (fun h5 h5p h5s => ?_) fun h5 h5p h5s => ?_
     ·try simp only [Q] at h5p
      refine rn0 (r1 rfl) (.eqd ?_)
      all_goals (first | rfl | (exfalso; simp_all [fusEq_refl]; done) | (exfalso; simp [fusEq_refl] at *; omega))
     ·try simp only [Q] at h5p
      refine rn0 (r1 rfl) (.eqd ?_)
      all_goals (first | rfl | (exfalso; simp_all [fusEq_refl]; done) | (exfalso; simp [fusEq_refl] at *; omega))
end Go.Proofs.YtdgknigklgnefaaGreat
namespace Go.Proofs.YtdgknigklgnefaaGreat
open Go Go.ChangeShapes Go.WideShapes Go.ChangeAt Go.RowKit
set_option linter.unusedSimpArgs false
set_option linter.unusedVariables false
set_option linter.unusedVariables false
def FW (W : World) (b : Nat) : Nat := match W.heap[b]? with
 | some (.cells cs _ _) => cs.size
 | _ => 0
theorem FW_cell {W : World} {b o : Nat} {v : Value} (h : W.cell? ⟨b, o, none⟩ = some v) : o < FW W b := by
 unfold World.cell? at h
 unfold FW
 simp only at h
 split at h
 ·rename_i c t fr hb
  simp only [hb]
  simp only [Option.isSome_none, Bool.false_eq_true, if_false] at h
  exact (Array.getElem?_eq_some_iff.1 h).1
 ·cases h
theorem FW_top {W : World} {b : Nat} (h : W.heap.size ≤ b) : FW W b = 0 := by
 unfold FW
 rw [Array.getElem?_eq_none h]
structure RelL (W : World) (xs : List D) (cs : List Value) : Prop where
 len : xs.length = cs.length
 rel : ∀ i (h1 : i < xs.length) (h2 : i < cs.length), RelD (FW W) W xs[i] cs[i]
theorem RelL.append {W : World} {xs ys : List D} {cs ds : List Value} (h : RelL W xs cs) (k : RelL W ys ds) : RelL W (xs ++ ys) (cs ++ ds) := by
 refine ⟨by simp [h.len, k.len], fun i h1 h2 => ?_⟩
 by_cases hi : i < xs.length
 ·rw [List.getElem_append_left hi, List.getElem_append_left (by rw [← h.len]; exact hi)]
  exact h.rel i hi (by rw [← h.len]; exact hi)
 ·have hl := h.len
  rw [List.getElem_append_right (by omega), List.getElem_append_right (by omega)]
  have e : i - xs.length = i - cs.length := by omega
  have h1' : i - xs.length < ys.length := by simp only [List.length_append] at h1; omega
  have h2' : i - cs.length < ds.length := by simp only [List.length_append] at h2; omega
  have := k.rel (i - xs.length) h1' (by omega)
  simp only [e] at this ⊢
  exact this
def Dec (P : Program) (W : World) (n : Nat) (t : TypeId) {α : Type} (f : α → List D) (m : α → Nat) (R : α → Prop) : Prop :=
 ∀ (H : Type) (enc : TypeId × Value → H) (cs : List Value) (x : DataW H × List MemPlace), DataW.trod enc P W 0 (fun _ => true) true n t cs = some x →
  ∃ a, RelL W (f a) cs ∧ m a + 1 ≤ Rows.uptoBulk x.1 ∧ R a
section
variable {P : Program} {W : World} {n : Nat} {t : TypeId}
theorem Dec.zero {α : Type} {f : α → List D} {m : α → Nat} {R : α → Prop} : Dec P W 0 t f m R := fun H enc cs x h => by simp [DataW.trod] at h
theorem Dec.map {α β : Type} {f : α → List D} {m : α → Nat} {R : α → Prop} {f' : β → List D} {m' : β → Nat} {R' : β → Prop} (g : α → β) (h : Dec P W n t f m R)
  (h1 : ∀ a, f' (g a) = f a) (h2 : ∀ a, m' (g a) ≤ m a) (h3 : ∀ a, R a → R' (g a)) : Dec P W n t f' m' R' := fun H enc cs x hx => by
 obtain ⟨a, q1, q2, q3⟩ := h H enc cs x hx
 exact ⟨g a, by rw [h1]; exact q1, by have := h2 a; omega, h3 a q3⟩
theorem RelL.one {x : D} {v : Value} (h : RelD (FW W) W x v) : RelL W [x] [v] :=
 ⟨rfl, fun i h1 h2 => by
  have : i = 0 := by simp at h1; omega
  subst this
  exact h⟩
theorem Dec.int {k : IntKind} (ht : P.underlying t = some (.int k)) : Dec P W n t (fun z : Int => [.int k z]) (fun _ => 0) (fun z => (Lit.int k z).wf = true) := fun H enc cs x h => by
 obtain ⟨z, rfl, rfl, hw⟩ := DataW.trod_int ht h
 exact ⟨z, .one (.int k z), by simp [Rows.uptoBulk], hw⟩
theorem Dec.bool (ht : P.underlying t = some .bool) : Dec P W n t (fun z : Bool => [.bool z]) (fun _ => 0) (fun _ => True) := fun H enc cs x h => by
 obtain ⟨z, rfl, rfl⟩ := DataW.trod_bool ht h
 exact ⟨z, .one (.bool z), by simp [Rows.uptoBulk], trivial⟩
theorem Dec.str (ht : P.underlying t = some .string) : Dec P W n t (fun s : Str => [.str s]) (fun s => s.length) (fun _ => True) := fun H enc cs x h => by
 obtain ⟨s, rfl, rfl, hw⟩ := DataW.trod_string ht h
 exact ⟨s.data.toList, .one (by have := RelD.str (F := FW W) (w := W) s.data.toList; simpa using this), by simp [Rows.uptoBulk], trivial⟩
def sumM {α : Type} (m : α → Nat) : List α → Nat
 | [] => 0
 | a :: r => m a + 1 + sumM m r
theorem sumM_len {α : Type} (m : α → Nat) : ∀ l : List α, l.length ≤ sumM m l
 | [] => by simp [sumM]
 | a :: r => by have := sumM_len m r; simp only [sumM, List.length_cons]; omega
theorem sumM_mem {α : Type} {m : α → Nat} : ∀ {l : List α} {a : α}, a ∈ l → m a + 1 ≤ sumM m l
 | b :: r, a, h => by
  simp only [sumM]
  rcases List.mem_cons.1 h with rfl | h
  ·omega
  ·have := sumM_mem (m := m) h; omega
theorem choose_list {α β : Type} {Q : Nat → α → β → Prop} : ∀ (l : List β) (o : Nat), (∀ i (h : i < l.length), ∃ a, Q (o + i) a l[i]) → ∃ zs : List α, zs.length = l.length ∧ ∀ i (h : i < l.length) (h' : i < zs.length), Q (o + i) zs[i] l[i]
 | [], o, _ => ⟨[], rfl, fun i h => by simp at h⟩
 | b :: r, o, h => by
  obtain ⟨a, ha⟩ := h 0 (by simp)
  obtain ⟨zs, h1, h2⟩ := choose_list (Q := Q) r (o + 1) (fun i hi => by
   have := h (i + 1) (by simp; omega)
   rw [show o + 1 + i = o + (i + 1) by omega]
   simpa using this)
  refine ⟨a :: zs, by simp [h1], fun i hi hi' => ?_⟩
  cases i with
  | zero => exact ha
  | succ i =>
   have := h2 i (by simpa using hi) (by simpa using hi')
   rw [show o + 1 + i = o + (i + 1) by omega] at this
   simpa using this
theorem bulk_sum {H α : Type} {m : α → Nat} : ∀ {zs : List α} {xs : List (DataW H)}, zs.length = xs.length → (∀ i (h : i < zs.length) (h' : i < xs.length), m zs[i] + 1 ≤ Rows.uptoBulk xs[i]) → sumM m zs ≤ Rows.uptoBulkAll xs
 | [], [], _, _ => by simp [sumM, Rows.uptoBulkAll]
 | a :: zs, x :: xs, hl, h => by
  have h0 := h 0 (by simp) (by simp)
  have ih := bulk_sum (m := m) (zs := zs) (xs := xs) (by simpa using hl) (fun i h1 h2 => by
   have := h (i + 1) (by simp; omega) (by simp; omega)
   simpa using this)
  simp only [sumM, Rows.uptoBulkAll]
  simp only [List.getElem_cons_zero] at h0
  omega
 | [], _ :: _, hl, _ => by simp at hl
 | _ :: _, [], hl, _ => by simp at hl
theorem Dec.sl {α : Type} {f : α → List D} {m : α → Nat} {R : α → Prop} {e : TypeId} {k : Nat} (ht : P.underlying t = some (.slice e)) (hc : P.cellsOf e = k + 1) (hk : ∀ a, (f a).length = k + 1) (he : Dec P W n e f m R) :
  Dec P W (n + 1) t (fun l : List α => [.sl (l.map f)]) (fun l => sumM m l) (fun l => ∀ a ∈ l, R a) := fun H enc cs x h => by
 rcases DataW.trod_slice ht h with ⟨rfl, rfl⟩ | ⟨a, len, cap, elems, rest, n', hn, rfl, rfl, _, hcap, _, hlen, hel, _, _⟩
 ·exact ⟨[], .one .nil, by simp [sumM, Rows.uptoBulk], fun a h => by simp at h⟩
 obtain rfl : n = n' := by omega
 have each : ∀ i (hi : i < elems.length), ∃ y, (∃ cs, W.cells? 0 (a.add (i * (k + 1))) (k + 1) = some cs ∧ RelL W (f y) cs) ∧ m y + 1 ≤ Rows.uptoBulk (elems[i]).1 ∧ R y := by
  intro i hi
  have := hel i (by omega)
  rw [hc, List.getElem?_eq_getElem hi, Option.bind_eq_some_iff] at this
  obtain ⟨cs, h1, h2⟩ := this
  obtain ⟨y, h3, h4, h5⟩ := he H enc cs _ h2
  exact ⟨y, ⟨cs, h1, h3⟩, h4, h5⟩
 obtain ⟨zs, hal, has⟩ := choose_list (Q := fun i y (el : DataW H × List MemPlace) => (∃ cs, W.cells? 0 (a.add (i * (k + 1))) (k + 1) = some cs ∧ RelL W (f y) cs) ∧ m y + 1 ≤ Rows.uptoBulk el.1 ∧ R y) elems 0 (fun i hi => by simpa using each i hi)
 refine ⟨zs, .one ?_, ?_, fun y hy => ?_⟩
 ·by_cases h0 : zs = []
  ·subst h0
   have hz : len = 0 := by simp at hal; omega
   subst hz
   obtain ⟨b, o, s⟩ := a
   cases s with
   | none => exact .sl [] 0 b o cap (fun _ => undef) (by simp) (by simp) (fun n hn => by simp at hn) (fun i hi => by simp at hi)
   | some s => exact .emp b o s cap
  ·have hpos : 0 < zs.length := List.length_pos_iff.2 h0
   obtain ⟨⟨cs0, hc0, hr0⟩, _⟩ := has 0 (by omega) hpos
   have hspot : a.spot = none := by
    have h1 := (World.cells?_some hc0).2.2 0 (by omega)
    have h2 : 0 < cs0.length := by have := (World.cells?_some hc0).2.1; omega
    simp only [Nat.add_zero, Nat.zero_mul, Addr.add, if_true, List.getElem?_eq_getElem h2] at h1
    unfold World.cell? at h1
    split at h1
    ·cases hs : a.spot with
     | none => rfl
     | some s => simp [hs] at h1
    ·cases h1
   obtain ⟨b, o, s⟩ := a
   simp only at hspot
   subst hspot
   have hlen' : (zs.map f).length = len := by simp; omega
   have hmulk : ∀ i j, i < zs.length → j < k + 1 → i * (k + 1) + j < zs.length * (k + 1) := fun i j hi hj => by
    have : (i + 1) * (k + 1) ≤ zs.length * (k + 1) := Nat.mul_le_mul_right _ (by omega)
    rw [Nat.add_mul, Nat.one_mul] at this
    omega
   have cellAt : ∀ i (hi : i < zs.length) j (hj : j < (f zs[i]).length), ∃ v, W.cell? ⟨b, o + (i * (k + 1) + j), none⟩ = some v ∧ RelD (FW W) W ((f zs[i])[j]) v := fun i hi j hj => by
    obtain ⟨⟨cs, hc1, hr1⟩, _⟩ := has i (by omega) hi
    have hjk : j < k + 1 := by have := hk zs[i]; omega
    obtain ⟨_, q1, q2⟩ := World.cells?_some hc1
    have q3 := q2 j hjk
    rw [List.getElem?_eq_getElem (by omega)] at q3
    refine ⟨cs[j], ?_, hr1.rel j hj (by omega)⟩
    rw [← q3]
    congr 1
    simp only [Nat.zero_add, Addr.add]
    split <;> split <;> simp_all <;> omega
   have hv : ((zs.map f).length, cap) = (len, cap) := by rw [hlen']
   have goal : RelD (FW W) W (.sl (zs.map f)) (.slice (some ⟨b, o, none⟩) (zs.map f).length cap) := by
    refine .sl _ (k + 1) b o cap (fun q => (W.cell? ⟨b, o + q, none⟩).getD undef) (fun y hy => ?_) (by omega) (fun q hq => ?_) (fun i hi j hj => ?_)
    ·obtain ⟨y', _, rfl⟩ := List.mem_map.1 hy; exact hk y'
    ·have hq' : q < zs.length * (k + 1) := by simpa using hq
     have hi : q / (k + 1) < zs.length := Nat.div_lt_of_lt_mul (by rw [Nat.mul_comm]; exact hq')
     have hj : q % (k + 1) < k + 1 := Nat.mod_lt _ (by omega)
     obtain ⟨v, h1, _⟩ := cellAt _ hi (q % (k + 1)) (by rw [hk]; exact hj)
     rw [Nat.div_add_mod'] at h1
     exact ⟨FW_cell h1, by rw [h1]; rfl⟩
    ·have hi' : i < zs.length := by simpa using hi
     simp only [List.getElem_map] at hj ⊢
     obtain ⟨v, h1, h2⟩ := cellAt i hi' j hj
     show RelD (FW W) W _ ((W.cell? ⟨b, o + (i * (k + 1) + j), none⟩).getD undef)
     rw [h1]
     exact h2
   rw [hlen'] at goal
   exact goal
 ·have := bulk_sum (m := m) (zs := zs) (xs := elems.map (·.1)) (by simp [hal]) (fun i h1 h2 => by
   have := (has i (by simpa using h2) h1).2.1
   simpa using this)
  simp only [Rows.uptoBulk]
  omega
 ·obtain ⟨i, hi, rfl⟩ := List.getElem_of_mem hy
  exact (has i (by omega) hi).2.2
def DecF (P : Program) (W : World) (n o K : Nat) (fs : List Field) {α : Type} (f : α → List D) (m : α → Nat) (R : α → Prop) : Prop :=
 ∀ (H : Type) (enc : TypeId × Value → H) (cs : List Value) (xs : List (DataW H × List MemPlace)), cs.length = K → xs.length = fs.length →
  (∀ (i : Nat) (fd : Field), fs[i]? = some fd → DataW.trod enc P W 0 (fun _ => true) true n fd.type ((cs.drop fd.offset).take (P.cellsOf fd.type)) = xs[i]?) →
  ∃ a, RelL W (f a) (cs.drop o) ∧ m a ≤ Rows.uptoBulkAll (xs.map (·.1)) ∧ R a
theorem DecF.nil {K : Nat} : DecF P W n K K [] (fun _ : Unit => []) (fun _ => 0) (fun _ => True) := fun H enc cs xs h1 h2 _ =>
 ⟨(), by rw [List.drop_of_length_le (by omega)]; exact ⟨rfl, fun i h => by simp at h⟩, by simp, trivial⟩
theorem DecF.cons {α β : Type} {f : α → List D} {m : α → Nat} {R : α → Prop} {f2 : β → List D} {m2 : β → Nat} {R2 : β → Prop} {o K k : Nat} {fd : Field} {fs : List Field}
  (h1 : Dec P W n fd.type f m R) (ho : fd.offset = o) (hc : P.cellsOf fd.type = k) (h2 : DecF P W n (o + k) K fs f2 m2 R2) :
  DecF P W n o K (fd :: fs) (fun p : α × β => f p.1 ++ f2 p.2) (fun p => m p.1 + 1 + m2 p.2) (fun p => R p.1 ∧ R2 p.2) := fun H enc cs xs hK hl hx => by
 cases xs with
 | nil => simp at hl
 | cons y ys =>
  have h0 := hx 0 fd (by simp)
  simp only [List.getElem?_cons_zero] at h0
  rw [ho, hc] at h0
  obtain ⟨a, q1, q2, q3⟩ := h1 H enc _ _ h0
  obtain ⟨b, r1, r2, r3⟩ := h2 H enc cs ys hK (by simpa using hl) (fun i fd' hi => by
   have := hx (i + 1) fd' (by simpa using hi)
   simpa using this)
  refine ⟨(a, b), ?_, ?_, q3, r3⟩
  ·have : cs.drop o = (cs.drop o).take k ++ cs.drop (o + k) := by
    rw [← List.drop_drop, List.take_append_drop]
   rw [this]
   exact q1.append r1
  ·simp only [List.map_cons, Rows.uptoBulkAll]
   omega
theorem Dec.struct {α : Type} {f : α → List D} {m : α → Nat} {R : α → Prop} {fs : Array Field} (ht : P.underlying t = some (.struct fs)) {K : Nat} (hK : P.cellsOf t = K) (h : DecF P W n 0 K fs.toList f m R) :
  Dec P W (n + 1) t f m R := fun H enc cs x hx => by
 obtain ⟨xs, n', hn, rfl, hl, hxl, hf⟩ := DataW.trod_struct ht hx
 obtain rfl : n = n' := by omega
 obtain ⟨a, q1, q2, q3⟩ := h H enc cs xs (by omega) (by simpa using hxl) (fun i fd hi => hf i fd (by simpa using hi))
 refine ⟨a, by simpa using q1, ?_, q3⟩
 simp only [Rows.uptoBulk]
 omega
end
section
variable {P : Program} {W : World} {base : Nat} {t : TypeId} {v : Value} {H : Type} {enc : TypeId × Value → H} {d : DataW H} {ps : List MemPlace}
theorem arg_sl {α : Type} {e : TypeId} {f : α → List D} {m : α → Nat} {R : α → Prop} {k : Nat} (ht : P.underlying t = some (.slice e)) (hc : P.cellsOf e = k + 1) (hk : ∀ a, (f a).length = k + 1) (hd : ∀ n, Dec P W n e f m R)
  (hval : Value.okWide P W .any base t v) (h : DataW.Trod enc P W 0 (fun _ => true) true t v d ps) :
  ∃ l : List α, (∀ G T, G.F = FW W → RelA G T W (.d (.sl (l.map f))) v) ∧ sumM m l + 1 ≤ Rows.uptoBulk d ∧ ∀ a ∈ l, R a := by
 obtain ⟨n, hn⟩ := h
 cases n with
 | zero => simp [DataW.trod] at hn
 | succ n =>
  obtain ⟨l, h1, h2, h3⟩ := Dec.sl ht hc hk (hd n) H enc _ _ hn
  have hcells : v.cells.toList = [v] := by
   cases v with
   | agg cs => simp only [Value.okWide, ht, Cell.okWide, Cell.ok] at hval
   | _ => rfl
  rw [hcells] at h1
  exact ⟨l, fun G T hG => .d (by rw [hG]; simpa using h1.rel 0 (by simp) (by simp)), h2, h3⟩
theorem arg_int {k : IntKind} (ht : P.underlying t = some (.int k)) (hval : Value.okWide P W .any base t v) (h : DataW.Trod enc P W 0 (fun _ => true) true t v d ps) :
  ∃ n : Int, (∀ G T, G.F = FW W → RelA G T W (.d (.int k n)) v) ∧ (Lit.int k n).wf = true := by
 obtain ⟨n, hn⟩ := h
 obtain ⟨s, h1, h2, h3⟩ := Dec.int ht H enc _ _ hn
 have hcells : v.cells.toList = [v] := by
  cases v with
  | agg cs => simp only [Value.okWide, ht, Cell.okWide, Cell.ok] at hval
  | _ => rfl
 rw [hcells] at h1
 exact ⟨s, fun G T hG => .d (by rw [hG]; simpa using h1.rel 0 (by simp) (by simp)), h3⟩
end
section
variable {P : Program} {H : Type} {enc : TypeId × Value → H}
theorem trodAll_below (hl : laidOutB P = true) {W W' : World} (hb : Below W.heap.size W W') : ∀ {ts : List TypeId} {vs : List Value} {ds : List (DataW H)} {ps : List MemPlace},
  (∀ t ∈ ts, P.readableRec t = true ∧ t < P.types.size) → DataW.TrodAll enc P W 0 (fun _ => true) true ts vs ds ps → (∀ x ∈ ps, x.block < W.heap.size) →
  DataW.TrodAll enc P W' 0 (fun b => decide (b < W.heap.size)) true ts vs ds ps
 | [], [], [], ps, _, h, _ => h
 | t :: ts, v :: vs, d :: ds, ps, hr, h, hlt => by
  obtain ⟨p, q, h1, h2, rfl⟩ := h
  exact ⟨p, q, Below.trod hl (hr t (by simp)).1 (hr t (by simp)).2 h1 hb (fun x hx => hlt x (by simp [hx])),
   trodAll_below hl hb (fun t ht => hr t (by simp [ht])) h2 (fun x hx => hlt x (by simp [hx])), rfl⟩
theorem law_post {f : Func} {s : ChangeSpec} {W W' : World} {args : Array Value} {ds gs : List (DataW H)} {before : List MemPlace} {tb : TypeId}
  (hW : DataW.Whole enc P f.params.toList s.vars false W args.toList ds gs before) (hvars : s.vars = []) (hrt : f.resultTypes = #[tb]) (htb : P.underlying tb = some .bool)
  (hs : s.fn H (ds ++ gs) = { results := [.lit (.bool true)], args := ds }) (hl : laidOutB P = true) (hr : ∀ t ∈ f.params.toList, P.readableRec t = true ∧ t < P.types.size)
  (hb : Below W.heap.size W W') : s.post enc P f false true false false W args (.bool true) W' := by
 have hlt : ∀ p ∈ before, p.block < W.heap.size := fun p hp => hW.lt p hp
 have hW0 := hW
 obtain ⟨p, q, hA, hV, rfl, hfz, _⟩ := hW
 rw [hvars] at hV
 cases gs with
 | cons g gs => exact hV.elim
 | nil =>
  have hq : q = [] := hV
  subst hq
  simp only [List.append_nil] at *
  refine ⟨ds, [], p, [], p, [], by simpa [hvars] using hW0, ?_, ?_, ?_, World.keptBut_mono (fun x hx => ⟨hx, .inr (.inl hx)⟩) (hb.frame (· ∈ p)), fun h => by cases h⟩
  ·simp only [List.append_nil, hs, hrt]
   exact trodAll_cons_mk (shut_bool htb _) trodAll_mk0
  ·simp only [List.append_nil, hs]
   exact trodAll_below hl hb hr hA hlt
  ·simp only [hvars, List.append_nil, hs]
   rfl
theorem law_calls {f : FuncId} {avs : List AV} {W : World} {args : Array Value} {r : AV} (hf : FnD P f avs [] r [])
  (hargs : ∀ G T, G.F = FW W → AllR G T W avs args) : Calls P f args W fun e W' => ∃ v G', e = .returned v ∧ RelA G' (fun _ => none) W' r v ∧ Below W.heap.size W W' := by
 let G : Gh := { F := FW W, loc := fun _ => [] }
 refine (hf G W args ⟨hargs G _ rfl, fun id r h => (by simp [getH] at h), fun id id' h => (by simp [getH] at h), fun b hb => FW_top hb⟩).mono ?_
 rintro e W' ⟨v, r', hp', G', rfl, ⟨rfl, rfl⟩, h⟩
 exact ⟨v, G', rfl, h.res, ⟨h.frm.os, h.frm.tape, h.frm.output, h.frm.size, fun b hb => (h.frm.block b hb (by simp [ownedL])).1⟩⟩
theorem RelA.bool_true {G : Gh} {T : TokF} {w : World} {v : Value} (h : RelA G T w (.d (.bool true)) v) : v = .bool true := by
 cases h with | d h => cases h; rfl
theorem bound_of {H : Type} {l : List (DataW H)} (hk : Rows.uptoSmall H l = true) : Rows.uptoBulkAll l ≤ 1048576 := of_decide_eq_true hk
end
end Go.Proofs.YtdgknigklgnefaaGreat
namespace Go.Proofs.YtdgknigklgnefaaGreat
open Go Go.ChangeShapes Go.WideShapes Go.ChangeAt Go.RowKit
set_option linter.unusedSimpArgs false
set_option linter.unusedVariables false
set_option maxRecDepth 100000
theorem decInt (W : World) (n : Nat) : Dec Tryz.prog W n 3 (fun z : Int => [.i z]) (fun _ => 0) (fun _ => True) := Dec.map (f := fun z : Int => [D.i z]) (R := fun z => (Lit.int .i64 z).wf = true) id (Dec.int Tryz.underlying3) (fun _ => rfl) (fun _ => Nat.le_refl _) (fun _ _ => trivial)
theorem decStr (W : World) (n : Nat) : Dec Tryz.prog W n 9 (fun s : Str => [.str s]) (fun s => s.length) (fun _ => True) := Dec.str Tryz.underlying9
theorem decTy (W : World) : ∀ n, Dec Tryz.prog W n 37 Ty.c (fun _ => 0) (fun _ => True)
 | 0 => Dec.zero
 | n + 1 => Dec.map (fun p : Int × Int × Unit => (⟨p.1, p.2.1⟩ : Ty)) (Dec.struct Tryz.underlying37 (by kernel_rfl) (DecF.cons (k := 1) (decInt W n) rfl (by kernel_rfl) (DecF.cons (k := 1) (decInt W n) rfl (by kernel_rfl) DecF.nil))) (fun _ => rfl) (fun _ => Nat.zero_le _) (fun _ _ => trivial)
theorem decTys (W : World) : ∀ n, Dec Tryz.prog W n 260 (fun l : List Ty => [encTys l]) (fun l => l.length) (fun _ => True)
 | 0 => Dec.zero
 | n + 1 => Dec.map id (Dec.sl (k := 1) Tryz.underlying260 (by kernel_rfl) (fun _ => rfl) (decTy W n)) (fun _ => rfl) (fun l => sumM_len _ l) (fun _ _ => trivial)
def bCtor (c : Ctor) : Nat := c.name.length + c.args.length
theorem decCtor (W : World) : ∀ n, Dec Tryz.prog W n 262 Ctor.c bCtor (fun _ => True)
 | 0 => Dec.zero
 | n + 1 => Dec.map (fun p : Str × List Ty × Int × Unit => (⟨p.1, p.2.1, p.2.2.1⟩ : Ctor)) (Dec.struct Tryz.underlying262 (by kernel_rfl) (DecF.cons (k := 1) (decStr W n) rfl (by kernel_rfl) (DecF.cons (k := 1) (decTys W n) rfl (by kernel_rfl) (DecF.cons (k := 1) (decInt W n) rfl (by kernel_rfl) DecF.nil))))
   (fun _ => rfl) (fun p => by simp only [bCtor]; omega) (fun _ _ => trivial)
theorem decCtors (W : World) : ∀ n, Dec Tryz.prog W n 100 (fun l : List Ctor => [encCtors l]) (fun l => sumM bCtor l) (fun _ => True)
 | 0 => Dec.zero
 | n + 1 => Dec.map id (Dec.sl (k := 2) Tryz.underlying100 (by kernel_rfl) (fun _ => rfl) (decCtor W n)) (fun _ => rfl) (fun l => Nat.le_refl _) (fun _ _ => trivial)
def bData (d : Data) : Nat := d.name.length + sumM bCtor d.ctors
theorem decData (W : World) : ∀ n, Dec Tryz.prog W n 102 Data.c bData (fun _ => True)
 | 0 => Dec.zero
 | n + 1 => Dec.map (fun p : Str × List Ctor × Unit => (⟨p.1, p.2.1⟩ : Data)) (Dec.struct Tryz.underlying102 (by kernel_rfl) (DecF.cons (k := 1) (decStr W n) rfl (by kernel_rfl) (DecF.cons (k := 1) (decCtors W n) rfl (by kernel_rfl) DecF.nil)))
   (fun _ => rfl) (fun p => by simp only [bData]; omega) (fun _ _ => trivial)
theorem wsmall_of {w : List Data} {N : Nat} (h : sumM bData w + 1 ≤ N) (hN : N ≤ 1048576) : WSmall w := by
 refine ⟨by have := sumM_len bData w; omega, fun d hd => ?_, fun d hd c hc => ?_⟩
 ·have h1 := sumM_mem (m := bData) hd
  have h2 := sumM_len bCtor d.ctors
  simp only [bData] at h1
  omega
 ·have h1 := sumM_mem (m := bData) hd
  have h2 := sumM_mem (m := bCtor) hc
  simp only [bData] at h1
  simp only [bCtor] at h2
  omega
theorem Vals.ok_size : ∀ (n : Nat) (l : List Val), Vals.size l ≤ n → n ≤ 1048576 → l.length ≤ 1048576 ∧ Vals.ok l := by
 intro n
 induction n with
 | zero =>
  intro l h hn
  cases l with
  | nil => exact ⟨by simp, trivial⟩
  | cons x r => simp only [Vals.size, Val.size_eq] at h; omega
 | succ n ih =>
  intro l
  induction l with
  | nil => intro _ _; exact ⟨by simp, trivial⟩
  | cons x r ihr =>
   intro h hn
   simp only [Vals.size] at h
   have hx := Val.size_eq x
   have h1 := ih x.kids (by omega) (by omega)
   have h2 := ih r (by omega) (by omega)
   refine ⟨?_, (Val.ok_iff x).2 ⟨by have := h1.1; omega, h1.2⟩, h2.2⟩
   have : ∀ l : List Val, l.length ≤ Vals.size l := by
    intro l
    induction l with
    | nil => simp
    | cons y s ihs => simp only [Vals.size, List.length_cons, Val.size_eq]; omega
   have := this r
   simp only [List.length_cons]; omega
theorem decPat (W : World) : ∀ n, Dec Tryz.prog W n 145 Pat.cc (fun v => Pats.size v.kids) (fun _ => True) := by
 intro n
 induction n using Nat.strongRecOn with
 | _ n ih =>
  cases n with
  | zero => exact Dec.zero
  | succ n =>
   have hk : Dec Tryz.prog W n 143 (fun l : List Pat => [.sl (l.map Pat.cc)]) (fun l => Pats.size l) (fun _ => True) := by
    cases n with
    | zero => exact Dec.zero
    | succ n =>
     refine Dec.map id (Dec.sl (k := 5) Tryz.underlying143 (by kernel_rfl) (fun _ => rfl) (ih n (by omega))) (fun _ => rfl) (fun l => ?_) (fun _ _ => trivial)
     have : ∀ l : List Pat, Pats.size l ≤ sumM (fun v => Pats.size v.kids) l := by
      intro l
      induction l with
      | nil => simp [Pats.size, sumM]
      | cons a r ih2 => simp only [Pats.size, sumM, Pat.size_eq]; omega
     exact this l
   refine Dec.map (fun p : Int × Int × Int × Int × Int × List Pat × Unit => Pat.mk p.1 p.2.1 p.2.2.1 p.2.2.2.1 p.2.2.2.2.1 p.2.2.2.2.2.1) (Dec.struct Tryz.underlying145 (by kernel_rfl) (DecF.cons (k := 1) (decInt W n) rfl (by kernel_rfl) (DecF.cons (k := 1) (decInt W n) rfl (by kernel_rfl) (DecF.cons (k := 1) (decInt W n) rfl (by kernel_rfl) (DecF.cons (k := 1) (decInt W n) rfl (by kernel_rfl) (DecF.cons (k := 1) (decInt W n) rfl (by kernel_rfl) (DecF.cons (k := 1) hk rfl (by kernel_rfl) DecF.nil))))))) (fun p => ?_) (fun p => ?_) (fun _ _ => trivial)
   ·show [D.i _, D.i _, D.i _, D.i _, D.i _, D.sl (Pat.cs _)] = _
    rw [show Pat.cs (Pat.mk p.1 p.2.1 p.2.2.1 p.2.2.2.1 p.2.2.2.2.1 p.2.2.2.2.2.1).kids = p.2.2.2.2.2.1.map Pat.cc by rw [Pat.cs_eq]; exact List.map_congr_left (fun v _ => Pat.c_eq v)]
    rfl
   ·show Pats.size p.2.2.2.2.2.1 ≤ 0 + 1 + (0 + 1 + (0 + 1 + (0 + 1 + (0 + 1 + (Pats.size p.2.2.2.2.2.1 + 1 + 0)))))
    omega
theorem Pats.ok_size : ∀ (n : Nat) (l : List Pat), Pats.size l ≤ n → n ≤ 1048576 → l.length ≤ 1048576 ∧ Pats.ok l := by
 intro n
 induction n with
 | zero =>
  intro l h hn
  cases l with
  | nil => exact ⟨by simp, trivial⟩
  | cons x r => simp only [Pats.size, Pat.size_eq] at h; omega
 | succ n ih =>
  intro l
  induction l with
  | nil => intro _ _; exact ⟨by simp, trivial⟩
  | cons x r ihr =>
   intro h hn
   simp only [Pats.size] at h
   have hx := Pat.size_eq x
   have h1 := ih x.kids (by omega) (by omega)
   have h2 := ih r (by omega) (by omega)
   refine ⟨?_, (Pat.ok_iff x).2 ⟨by have := h1.1; omega, h1.2⟩, h2.2⟩
   have : ∀ l : List Pat, l.length ≤ Pats.size l := by
    intro l
    induction l with
    | nil => simp
    | cons y s ihs => simp only [Pats.size, List.length_cons, Pat.size_eq]; omega
   have := this r
   simp only [List.length_cons]; omega
theorem pat_ok_of {v : Pat} (h : Pats.size v.kids ≤ 1048576) : v.ok := by
 have := Pats.ok_size _ _ (Nat.le_refl _) h
 exact (Pat.ok_iff v).2 ⟨by omega, this.2⟩
def bCl (c : Cl) : Nat := Pats.size c.pat.kids
theorem decGd (W : World) : ∀ n, Dec Tryz.prog W n 146 (fun g : Gd => [.i g.op, .i g.var, .i g.n]) (fun _ => 0) (fun _ => True)
 | 0 => Dec.zero
 | n + 1 => Dec.map (fun p : Int × Int × Int × Unit => (⟨p.1, p.2.1, p.2.2.1⟩ : Gd)) (Dec.struct Tryz.underlying146 (by kernel_rfl) (DecF.cons (k := 1) (decInt W n) rfl (by kernel_rfl) (DecF.cons (k := 1) (decInt W n) rfl (by kernel_rfl) (DecF.cons (k := 1) (decInt W n) rfl (by kernel_rfl) DecF.nil)))) (fun _ => rfl) (fun _ => Nat.zero_le _) (fun _ _ => trivial)
theorem decCl (W : World) : ∀ n, Dec Tryz.prog W n 148 Cl.c bCl (fun _ => True)
 | 0 => Dec.zero
 | n + 1 => Dec.map (fun p : Pat × Gd × Unit => (⟨p.1, p.2.1⟩ : Cl)) (Dec.struct Tryz.underlying148 (by kernel_rfl) (DecF.cons (k := 6) (decPat W n) rfl (by kernel_rfl) (DecF.cons (k := 3) (decGd W n) rfl (by kernel_rfl) DecF.nil))) (fun _ => rfl) (fun p => by simp only [bCl]; omega) (fun _ _ => trivial)
theorem decCls (W : World) : ∀ n, Dec Tryz.prog W n 38 (fun l : List Cl => [encCls l]) (fun l => sumM bCl l) (fun _ => True)
 | 0 => Dec.zero
 | n + 1 => Dec.map id (Dec.sl (k := 8) Tryz.underlying38 (by kernel_rfl) (fun _ => rfl) (decCl W n)) (fun _ => rfl) (fun l => Nat.le_refl _) (fun _ _ => trivial)
theorem cls_ok_of {l : List Cl} (h : sumM bCl l ≤ 1048576) : ClsOk l ∧ ClsSz l := by
 refine ⟨⟨by have := sumM_len bCl l; omega, fun c hc => ?_⟩, fun c hc => ?_⟩
 ·have h1 := sumM_mem (m := bCl) hc
  simp only [bCl] at h1
  exact pat_ok_of (by omega)
 ·have h1 := sumM_mem (m := bCl) hc
  simp only [bCl] at h1
  rw [Pat.size_eq]; omega
theorem decEx (W : World) : ∀ n, Dec Tryz.prog W n 265 Ex.cc (fun v => Exs.size v.kids) (fun _ => True) := by
 intro n
 induction n using Nat.strongRecOn with
 | _ n ih =>
  cases n with
  | zero => exact Dec.zero
  | succ n =>
   have hk : Dec Tryz.prog W n 106 (fun l : List Ex => [.sl (l.map Ex.cc)]) (fun l => Exs.size l) (fun _ => True) := by
    cases n with
    | zero => exact Dec.zero
    | succ n =>
     refine Dec.map id (Dec.sl (k := 3) Tryz.underlying106 (by kernel_rfl) (fun _ => rfl) (ih n (by omega))) (fun _ => rfl) (fun l => ?_) (fun _ _ => trivial)
     have : ∀ l : List Ex, Exs.size l ≤ sumM (fun v => Exs.size v.kids) l := by
      intro l
      induction l with
      | nil => simp [Exs.size, sumM]
      | cons a r ih2 => simp only [Exs.size, sumM, Ex.size_eq]; omega
     exact this l
   refine Dec.map (fun p : Int × Int × Int × List Ex × Unit => Ex.mk p.1 p.2.1 p.2.2.1 p.2.2.2.1) (Dec.struct Tryz.underlying265 (by kernel_rfl) (DecF.cons (k := 1) (decInt W n) rfl (by kernel_rfl) (DecF.cons (k := 1) (decInt W n) rfl (by kernel_rfl) (DecF.cons (k := 1) (decInt W n) rfl (by kernel_rfl) (DecF.cons (k := 1) hk rfl (by kernel_rfl) DecF.nil))))) (fun p => ?_) (fun p => ?_) (fun _ _ => trivial)
   ·show [D.i _, D.i _, D.i _, D.sl (Ex.cs _)] = _
    rw [show Ex.cs (Ex.mk p.1 p.2.1 p.2.2.1 p.2.2.2.1).kids = p.2.2.2.1.map Ex.cc by rw [Ex.cs_eq]; exact List.map_congr_left (fun v _ => Ex.c_eq v)]
    rfl
   ·show Exs.size p.2.2.2.1 ≤ 0 + 1 + (0 + 1 + (0 + 1 + (Exs.size p.2.2.2.1 + 1 + 0)))
    omega
theorem decExs (W : World) : ∀ n, Dec Tryz.prog W n 106 (fun l : List Ex => [encExs l]) (fun l => Exs.size l) (fun _ => True)
 | 0 => Dec.zero
 | n + 1 => Dec.map id (Dec.sl (k := 3) Tryz.underlying106 (by kernel_rfl) (fun _ => rfl) (decEx W n)) (fun l => by
   show [D.sl (Ex.cs l)] = _
   rw [show Ex.cs l = l.map Ex.cc by rw [Ex.cs_eq]; exact List.map_congr_left (fun v _ => Ex.c_eq v)]) (fun l => by
     have : ∀ l : List Ex, Exs.size l ≤ sumM (fun v => Exs.size v.kids) l := by
      intro l
      induction l with
      | nil => simp [Exs.size, sumM]
      | cons a r ih2 => simp only [Exs.size, sumM, Ex.size_eq]; omega
     exact this l) (fun _ _ => trivial)
theorem Exs.ok_size : ∀ (n : Nat) (l : List Ex), Exs.size l ≤ n → n ≤ 1048576 → l.length ≤ 1048576 ∧ Exs.ok l := by
 intro n
 induction n with
 | zero =>
  intro l h hn
  cases l with
  | nil => exact ⟨by simp, trivial⟩
  | cons x r => simp only [Exs.size, Ex.size_eq] at h; omega
 | succ n ih =>
  intro l
  induction l with
  | nil => intro _ _; exact ⟨by simp, trivial⟩
  | cons x r ihr =>
   intro h hn
   simp only [Exs.size] at h
   have hx := Ex.size_eq x
   have h1 := ih x.kids (by omega) (by omega)
   have h2 := ih r (by omega) (by omega)
   refine ⟨?_, (Ex.ok_iff x).2 ⟨by have := h1.1; omega, h1.2⟩, h2.2⟩
   have : ∀ l : List Ex, l.length ≤ Exs.size l := by
    intro l
    induction l with
    | nil => simp
    | cons y s ihs => simp only [Exs.size, List.length_cons, Ex.size_eq]; omega
   have := this r
   simp only [List.length_cons]; omega
theorem exs_size_mem {e : Ex} : ∀ {l : List Ex}, e ∈ l → e.size ≤ Exs.size l
 | a :: r, h => by
  simp only [Exs.size]
  rcases List.mem_cons.1 h with rfl | h
  ·omega
  ·have := exs_size_mem h; omega
def bFu (f : Fu) : Nat := sumM bCl f.cls + Exs.size f.bodies
theorem decFt (W : World) : ∀ n, Dec Tryz.prog W n 105 Ft.c (fun _ => 0) (fun _ => True)
 | 0 => Dec.zero
 | n + 1 => Dec.map (fun p : Ty × Ty × Unit => (⟨p.1, p.2.1⟩ : Ft)) (Dec.struct Tryz.underlying105 (by kernel_rfl) (DecF.cons (k := 2) (decTy W n) rfl (by kernel_rfl) (DecF.cons (k := 2) (decTy W n) rfl (by kernel_rfl) DecF.nil))) (fun _ => rfl) (fun _ => Nat.zero_le _) (fun _ _ => trivial)
theorem decFu (W : World) : ∀ n, Dec Tryz.prog W n 108 Fu.c bFu (fun _ => True)
 | 0 => Dec.zero
 | n + 1 => Dec.map (fun p : Ft × List Cl × List Ex × Unit => (⟨p.1, p.2.1, p.2.2.1⟩ : Fu)) (Dec.struct Tryz.underlying108 (by kernel_rfl) (DecF.cons (k := 4) (decFt W n) rfl (by kernel_rfl) (DecF.cons (k := 1) (decCls W n) rfl (by kernel_rfl) (DecF.cons (k := 1) (decExs W n) rfl (by kernel_rfl) DecF.nil)))) (fun _ => rfl) (fun p => by simp only [bFu]; omega) (fun _ _ => trivial)
theorem fus_ok_of {l : List Fu} {N : Nat} (h : sumM bFu l ≤ N) (hN : N ≤ 1048576) : FusOk l ∧ FusSz l := by
 have key : ∀ f ∈ l, sumM bCl f.cls ≤ 1048576 ∧ Exs.size f.bodies ≤ 1048576 := fun f hf => by
  have h1 := sumM_mem (m := bFu) hf
  simp only [bFu] at h1
  omega
 refine ⟨⟨by have := sumM_len bFu l; omega, fun f hf => ?_⟩, fun f hf => ?_⟩
 ·have h1 := key f hf
  have h2 := Exs.ok_size _ _ h1.2 (Nat.le_refl _)
  exact ⟨(cls_ok_of h1.1).1, by omega, h2.2⟩
 ·have h1 := key f hf
  exact ⟨(cls_ok_of h1.1).2, fun e he => by have := exs_size_mem he; omega⟩
end Go.Proofs.YtdgknigklgnefaaGreat
namespace Go.Proofs.YtdgknigklgnefaaGreat.fnExactDescendingFun
open Go Go.ChangeShapes Go.WideShapes Go.ChangeAt Go.RowKit
set_option linter.unusedSimpArgs false
set_option linter.unusedVariables false
theorem own : ownKnob Tryz.prog.godebug = none := by kernel_rfl
theorem laidOut : laidOutB Tryz.prog = true := by kernel_rfl
set_option maxRecDepth 100000 in
theorem contract (H : Type) (enc : TypeId × Value → H) (W : World) (base : Nat) (args : Array Value) (ds gs : List (DataW H)) (before : List MemPlace)
  (hval : ∀ (j : Nat) t v, Tryz.f4.params[j]? = some t → args[j]? = some v → Value.okWide Tryz.prog W .any base t v)
  (hW : DataW.Whole enc Tryz.prog Tryz.f4.params.toList Rows.fnExactDescendingFunSpec.vars false W args.toList ds gs before) (hk : Rows.uptoSmall H (ds ++ gs) = true) :
  Calls Tryz.prog 4 args W fun e W' => ∃ v, e = .returned v ∧ Rows.fnExactDescendingFunSpec.post enc Tryz.prog Tryz.f4 false true false false W args v W' := by
 have hb := bound_of hk
 have hW' := hW
 obtain ⟨p, q, hA0, hV, rfl, hfz, hnd⟩ := hW
 have hA : DataW.TrodAll enc Tryz.prog W 0 (fun _ => true) true Tryz.f4.params.toList args.toList ds p := hA0
 rw [Tryz.params4] at hA hval
 obtain ⟨v0, vs0, d0, ds0, p0, q0, hargs, rfl, rfl, h0, r0⟩ := trodAll_cons hA
 obtain ⟨v1, vs1, d1, ds1, p1, q1, rfl, rfl, rfl, h1, r1⟩ := trodAll_cons r0
 obtain ⟨v2, vs2, d2, ds2, p2, q2, rfl, rfl, rfl, h2, r2⟩ := trodAll_cons r1
 obtain ⟨rfl, rfl, rfl⟩ := trodAll_nil r2
 obtain rfl : args = #[v0, v1, v2] := by cases args; simp_all
 obtain ⟨rfl, rfl⟩ := trodVars_none hV
 simp only [List.append_nil, Rows.uptoBulkAll] at hb
 obtain ⟨w, a0, b0, _⟩ := arg_sl (k := 1) Tryz.underlying22 (by kernel_rfl) (fun _ => rfl) (decData W) (hval 0 _ v0 rfl rfl) h0
 obtain ⟨l, a1, b1, _⟩ := arg_sl (k := 5) Tryz.underlying23 (by kernel_rfl) (fun _ => rfl) (decFu W) (hval 1 _ v1 rfl rfl) h1
 obtain ⟨i, a2, c2⟩ := arg_int Tryz.underlying3 (hval 2 _ v2 rfl rfl) h2
 have hs : WSmall w := wsmall_of b0 (by omega)
 obtain ⟨ok_l, sz_l⟩ := fus_ok_of (l := l) (N := 1048576) (by omega) (Nat.le_refl _)
 refine (law_calls (laws_FnExactDescendingFun_fn hs ok_l sz_l (i := i)) (W := W) (args := #[v0, v1, v2]) (fun G T hG => ⟨rfl, fun i hi hv => ?_⟩)).mono ?_
 ·match i, hi with
  | 0, _ => exact a0 G T hG
  | 1, _ => exact a1 G T hG
  | 2, _ => exact a2 G T hG
 ·rintro e W' ⟨v, G', rfl, hr, hbelow⟩
  obtain rfl := hr.bool_true
  exact ⟨_, rfl, law_post hW' rfl rfl Tryz.underlying4 rfl laidOut (fun t ht => by
   simp only [Tryz.params4, List.mem_cons, List.not_mem_nil, or_false] at ht
   rcases ht with rfl | rfl | rfl <;> exact ⟨by kernel_rfl, of_decide_eq_true (by kernel_rfl)⟩) hbelow⟩
set_option maxRecDepth 100000 in
theorem lifted (os : Os) (started : os.Started) (H : Type) (enc : TypeId × Value → H) (F : Stop.Interp) :
  ReturnsInHanded {} Tryz.checked os 4 .any ((Rows.OpenSpec.upto Rows.fnExactDescendingFunSpec).pre6 enc Tryz.prog Tryz.f4 Rows.fnExactDescendingFunUptoRow.domain false) (((Rows.OpenSpec.upto Rows.fnExactDescendingFunSpec).at F).post enc Tryz.prog Tryz.f4 false true false false) := by
 refine returnsInHanded_of_cond (C := Tryz.checked) (s := Rows.OpenSpec.upto Rows.fnExactDescendingFunSpec) (k := Rows.uptoSmall) rfl own started (by kernel_rfl) Tryz.func4
  (OpenSpec.witness (enc := enc) (C := Tryz.checked) (s := Rows.OpenSpec.upto Rows.fnExactDescendingFunSpec) (k := Rows.uptoSmall) rfl false ⟨#[], #[.slice none 0 0, .slice none 0 0, .int .i64 0], []⟩ 8 (by kernel_rfl) (by kernel_rfl) (by kernel_rfl)
   (x := ([.nil, .nil, .lit (.int .i64 0)], [], [])) (by kernel_rfl) rfl (by kernel_rfl)) ?_
 intro W base args ds gs before hval hW _ hk _
 exact contract H enc W base args ds gs before hval hW hk
theorem kf1 : (Rows.fnExactDescendingFunUptoRow.inPlace == Tryz.pinned.checked.prog.inPlace 4) = true := by kernel_rfl
theorem kf2 : (Rows.fnExactDescendingFunUptoRow.unfollowed == Tryz.pinned.checked.prog.unfollowed 4) = true := by kernel_rfl
theorem kf3 : (Rows.fnExactDescendingFunUptoRow.recurses == Tryz.pinned.checked.prog.recurses 4) = true := by kernel_rfl
theorem kf4 : (Rows.fnExactDescendingFunUptoRow.named == Tryz.pinned.checked.prog.varsNamed 4) = true := by kernel_rfl
theorem kf5 : laidOutB Tryz.pinned.checked.prog = true := by kernel_rfl
theorem kf6 : mapsRowed Tryz.pinned.checked.prog = true := by kernel_rfl
theorem kf7 : Tryz.pinned.checked.prog.stopsHeard = true := by kernel_rfl
theorem kf8 : Tryz.pinned.checked.prog.mayEnter = true := by kernel_rfl
theorem kf9 : (Rows.fnExactDescendingFunUptoRow.lifted == Tryz.pinned.checked.prog.liftsFinal) = true := by kernel_rfl
theorem kf0 : (Rows.fnExactDescendingFunUptoRow.plainKeys == Tryz.pinned.checked.prog.plainKeys) = true := by kernel_rfl
theorem facts : joinedFacts Tryz.pinned.checked.prog 4 Tryz.f4 (Rows.OpenSpec.upto Rows.fnExactDescendingFunSpec).bare Rows.fnExactDescendingFunUptoRow = true := by
 unfold joinedFacts
 rw [kf1, kf2, kf3, kf4, kf5, kf6, kf7, kf8, kf9, kf0]
 kernel_rfl
theorem named : Tryz.pinned.checked.prog.funcNamed Rows.fnExactDescendingFunUptoRow.func = some 4 := by kernel_rfl
theorem over : Rows.fnExactDescendingFunUptoRow.holds Tryz.pinned (Rows.OpenSpec.upto Rows.fnExactDescendingFunSpec) :=
 OpenClaim.holds_of_cond 4 Tryz.f4 rfl rfl rfl rfl rfl rfl rfl ⟨rfl, rfl, rfl, rfl, rfl⟩ rfl rfl rfl rfl rfl named Tryz.func4 facts
  (of_decide_eq_true (by as_aux_lemma => kernel_rfl)) (by as_aux_lemma => unfold Func.isWrapper; first | (rw [if_pos (by decide +kernel)]; kernel_rfl) | (rw [if_neg (by decide +kernel)]; exact ⟨rfl, rfl⟩))
  (fun os started H enc _ F => lifted os started H enc F)
theorem proved : Rows.FnExactDescendingFunUptoSaid := over
end Go.Proofs.YtdgknigklgnefaaGreat.fnExactDescendingFun
