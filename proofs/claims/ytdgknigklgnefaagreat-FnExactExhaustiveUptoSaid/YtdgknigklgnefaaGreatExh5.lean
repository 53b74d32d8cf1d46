/-
  THE ABSTRACT WALK AND THE WALKS, part 5 of 6: the parts F57, F58, F70, Val, F7, F8, Wu, F9, F71, F72, F74, F75, F76, F77, F78, F10, F73, F18, F19, F31, F32, F33, F34, F35, F36, F37, F82.
-/
import Derived.Test.YtdgknigklgnefaaGreatExh4
namespace Go.Proofs.YtdgknigklgnefaaGreat
open Go
set_option linter.unusedSimpArgs false
set_option linter.unusedVariables false
set_option maxRecDepth 100000
set_option maxHeartbeats 2000000
theorem varsOf_eq {w : List Data} {t : Ty} {p : Pat} (h : isP w t p = true) : varsOf w t p = varsP w 10 t p := by
 unfold isP at h
 simp only [Bool.and_eq_true, decide_eq_true_eq] at h
 have e := (scanP_eq w 10 t p 0).1
 have hw : wantP w 10 t p 0 = true := by
  unfold wantP; rw [h.1, h.2.2, decide_eq_true (by omega)]; rfl
 rw [if_pos hw] at e
 unfold varsOf; rw [e]; rfl
theorem varsP_nod {w : List Data} {t : Ty} {p : Pat} (h : isP w t p = true) : nodupV (varsP w 10 t p) = true := by
 unfold isP at h
 simp only [Bool.and_eq_true] at h
 exact lin_nodup w 10 t p h.1 h.2.2
theorem varsP_ok {w : List Data} (hw : WT w) (haz : AZ w) : ∀ (n : Nat) {t : Ty} {p : Pat}, shapeP w n t p = true → TyOk w.length t → ∀ v ∈ varsP w n t p, TyOk w.length v.ty
 | 0, t, p, h, _ => by simp [shapeP] at h
 | n + 1, t, p, h, ht => by
  obtain ⟨ho, hlen⟩ := shapeP_own h
  intro v hv
  have hto : ∀ u ∈ typesP w t p, TyOk w.length u := fun u hu => by
   refine ⟨typesP_in (a := t.data) (k := t.index) hw ht.1 ho u hu, fun hd => ?_⟩
   unfold typesP at hu
   split at hu
   ·rename_i h4; exact haz t p.ctor (ownP_mem ho h4) ht.1 u hu hd
   ·split at hu
    ·simp only [List.mem_cons, List.not_mem_nil, or_false, or_self] at hu
     rw [hu] at hd ⊢; exact ht.2 hd
    ·split at hu
     ·simp only [List.mem_cons, List.not_mem_nil, or_false] at hu
      rw [hu] at hd ⊢; exact ht.2 hd
     ·simp at hu
  simp only [varsP, List.mem_append] at hv
  rcases hv with hv | hv
  ·unfold nameP at hv
   split at hv
   ·simp only [List.mem_cons, List.not_mem_nil, or_false] at hv
    rw [hv]; exact ht
   ·simp at hv
  ·have key : ∀ (a : List Ty) (b : List Pat), (∀ i, i < a.length → i < b.length → ∀ v ∈ varsP w n (nth a i) (nth b i), TyOk w.length v.ty) → ∀ v ∈ varsL (varsP w n) a b, TyOk w.length v.ty := by
    intro a
    induction a with
    | nil => intro b _ v hv; simp [varsL] at hv
    | cons x r ih =>
     intro b h v hv
     cases b with
     | nil => simp [varsL] at hv
     | cons y s =>
      simp only [varsL, List.mem_append] at hv
      rcases hv with hv | hv
      ·exact h 0 (by simp) (by simp) v hv
      ·exact ih s (fun i h1 h2 => h (i + 1) (by simpa using h1) (by simpa using h2)) v hv
   refine key (vtypes w t p) p.kids (fun i h1 h2 => ?_) v hv
   have hvt : i < (typesP w t p).length ∧ nth (vtypes w t p) i = nth (typesP w t p) i := by
    unfold vtypes at h1 ⊢
    split at h1
    ·rename_i h5
     rw [if_pos h5]
     rw [List.length_take] at h1
     refine ⟨by omega, ?_⟩
     have : i = 0 := by omega
     subst this
     cases hT : typesP w t p with
     | nil => rfl
     | cons a b => rfl
    ·rename_i h5
     rw [if_neg h5]; exact ⟨h1, rfl⟩
   rw [hvt.2]
   exact varsP_ok hw haz n (shapeP_kid h (by omega)) (hto _ (nth_mem hvt.1))
def gdS (g : Gd) (vars : List Vt) : Bool := if g.op = 0 then decide (g.var = 0 ∧ g.n = 0) else decide (1 ≤ g.op ∧ g.op ≤ 2 ∧ 0 ≤ g.n ∧ g.n ≤ 9) && (decide (0 ≤ findV vars g.var) && decide ((nth vars (findV vars g.var).toNat).ty.data = -1))
theorem gdS_eq {n : Nat} {g : Gd} {vars : List Vt} (hn : nodupV vars = true) (hv : ∀ v ∈ vars, TyOk n v.ty) : gdS g vars = gdOk g vars := by
 unfold gdS gdOk
 split
 ·rfl
 ·congr 1
  have hnod := of_decide_eq_true hn
  rw [Bool.eq_iff_iff]
  simp only [Bool.and_eq_true, decide_eq_true_eq]
  constructor
  ·rintro ⟨h1, h2⟩
   rcases findV_spec vars g.var with ⟨h3, _⟩ | ⟨k, h3, h4, h5, _⟩
   ·omega
   ·rw [h3] at h2
    simp only [Int.toNat_natCast] at h2
    have hm := nth_mem h4
    have ho := (hv _ hm).2 h2
    have : nth vars k = ⟨g.var, ⟨-1, 0⟩⟩ := by
     generalize nth vars k = z at *
     obtain ⟨zv, ⟨za, zk⟩⟩ := z
     dsimp only at h5 h2 ho
     rw [h5, h2, ho]
    rw [← this]; exact hm
  ·intro hm
   rcases findV_spec vars g.var with ⟨_, h4⟩ | ⟨k, h3, h4, h5, _⟩
   ·exact absurd rfl (h4 _ hm)
   ·refine ⟨by omega, ?_⟩
    rw [h3]
    simp only [Int.toNat_natCast]
    obtain ⟨j, hj, e⟩ := List.getElem_of_mem hm
    have ej : nth vars j = ⟨g.var, ⟨-1, 0⟩⟩ := by simp [nth, List.getD, hj, e]
    have : k = j := nodup_nth hnod h4 hj (by rw [h5, ej])
    rw [this, ej]
theorem spec_l4Guard_fn {g : Gd} {vars : List Vt} (hv : vars.length ≤ 1000000000000) : FnD Tryz.prog 247 [.agg [.d (.i g.op), .d (.i g.var), .d (.i g.n)], .d (encVts vars)] [] (.d (.bool (gdS g vars))) [] := by
 have hlt := fun h => findV_lt (l := vars) (n := g.var) h
 refine bd Tryz.f247 50 [] [3] fun w0 F0 own kept hk => ?_
 refine Walk.box (id := 3002) .none rfl rfl rfl rfl rfl rfl rfl ?_
 refine ev ?_
 refine sq (fun h1 h1p h1s => ?_) fun h1 h1p h1s => ?_
 ·try simp only [Q] at h1p
  refine sq (fun h2 h2p h2s => ?_) fun h2 h2p h2s => ?_
  ·try simp only [Q] at h2p
   refine rn0 (r1 rfl) (.eqd ?_)
   all_goals (refine congrArg D.bool ?_; unfold gdS; first | (rw [if_pos (by omega)]; simp_all; done) | (rw [if_neg (by omega), decide_eq_false (by omega), Bool.false_and]; done) | (rw [if_neg (by omega), decide_eq_true (by omega), Bool.true_and]; simp_all; done) | (rw [if_neg (by omega), decide_eq_true (by omega), Bool.true_and, decide_eq_false (by omega), Bool.false_and]; done) | (rw [if_neg (by omega)]; simp_all; done))
  ·try simp only [Q] at h2p
   refine rn0 (r1 rfl) (.eqd ?_)
   all_goals (refine congrArg D.bool ?_; unfold gdS; first | (rw [if_pos (by omega)]; simp_all; done) | (rw [if_neg (by omega), decide_eq_false (by omega), Bool.false_and]; done) | (rw [if_neg (by omega), decide_eq_true (by omega), Bool.true_and]; simp_all; done) | (rw [if_neg (by omega), decide_eq_true (by omega), Bool.true_and, decide_eq_false (by omega), Bool.false_and]; done) | (rw [if_neg (by omega)]; simp_all; done))
 ·try simp only [Q] at h1p
  refine CWp.regionJ ?_
  refine WRest.join 18 [(34, .d (.bool (decide (¬ (1 ≤ g.op ∧ g.op ≤ 2 ∧ 0 ≤ g.n ∧ g.n ≤ 9)))))] [17, 18, 19, 20, 21, 22, 23, 24, 25, 26, 27, 28, 29, 30, 31, 32, 33] ?_ ?_
  ·
   refine ev ?_
   refine sq (fun h3 h3p h3s => ?_) fun h3 h3p h3s => ?_
   ·try simp only [Q] at h3p
    refine sq (fun h4 h4p h4s => ?_) fun h4 h4p h4s => ?_
    ·try simp only [Q] at h4p
     refine sqT ?_
     exact jn rfl (LeA.eqb (by (first | rfl | (rw [Bool.eq_iff_iff]; simp_all; done) | (rw [Bool.eq_iff_iff]; simp_all; omega))))
    ·try simp only [Q] at h4p
     refine sq (fun h5 h5p h5s => ?_) fun h5 h5p h5s => ?_
     ·try simp only [Q] at h5p
      exact jn rfl (LeA.eqb (by (first | rfl | (rw [Bool.eq_iff_iff]; simp_all; done) | (rw [Bool.eq_iff_iff]; simp_all; omega))))
     ·try simp only [Q] at h5p
      exact jn rfl (LeA.eqb (by (first | rfl | (rw [Bool.eq_iff_iff]; simp_all; done) | (rw [Bool.eq_iff_iff]; simp_all; omega))))
   ·try simp only [Q] at h3p
    refine sqF ?_
    refine sq (fun h6 h6p h6s => ?_) fun h6 h6p h6s => ?_
    ·try simp only [Q] at h6p
     exact jn rfl (LeA.eqb (by (first | rfl | (rw [Bool.eq_iff_iff]; simp_all; done) | (rw [Bool.eq_iff_iff]; simp_all; omega))))
    ·try simp only [Q] at h6p
     exact jn rfl (LeA.eqb (by (first | rfl | (rw [Bool.eq_iff_iff]; simp_all; done) | (rw [Bool.eq_iff_iff]; simp_all; omega))))
  refine WRest.done ?_
  refine tv ?_
  refine sq (fun h7 h7p h7s => ?_) fun h7 h7p h7s => ?_
  ·try simp only [Q] at h7p
   refine rn0 (r1 rfl) (.eqd ?_)
   all_goals (refine congrArg D.bool ?_; unfold gdS; first | (rw [if_pos (by omega)]; simp_all; done) | (rw [if_neg (by omega), decide_eq_false (by omega), Bool.false_and]; done) | (rw [if_neg (by omega), decide_eq_true (by omega), Bool.true_and]; simp_all; done) | (rw [if_neg (by omega), decide_eq_true (by omega), Bool.true_and, decide_eq_false (by omega), Bool.false_and]; done) | (rw [if_neg (by omega)]; simp_all; done))
  ·try simp only [Q] at h7p
   refine Walk.call (cr := []) cal282 (spec_l3Find_fn hv) rfl .none rfl rfl (LeL.refl _) trivial rfl rfl rfl ?_
   refine ev ?_
   refine sq (fun h8 h8p h8s => ?_) fun h8 h8p h8s => ?_
   ·try simp only [Q] at h8p
    refine Walk.idx (i := (findV vars g.var).toNat) sl124 (.some rfl rfl h8) rfl rfl rfl (by have := hlt (by omega); omega) (at_nth (by have := hlt (by omega); omega)) rfl ?_
    refine evs [] [(41, true)] ?_ ⟨⟨_, rfl, h8⟩, trivial⟩
    refine rn0 (r1 rfl) (.eqd ?_)
    all_goals (refine congrArg D.bool ?_; unfold gdS; first | (rw [if_pos (by omega)]; simp_all; done) | (rw [if_neg (by omega), decide_eq_false (by omega), Bool.false_and]; done) | (rw [if_neg (by omega), decide_eq_true (by omega), Bool.true_and]; simp_all; done) | (rw [if_neg (by omega), decide_eq_true (by omega), Bool.true_and, decide_eq_false (by omega), Bool.false_and]; done) | (rw [if_neg (by omega)]; simp_all; done))
   ·try simp only [Q] at h8p
    refine rn0 (r1 rfl) (.eqd ?_)
    all_goals (refine congrArg D.bool ?_; unfold gdS; first | (rw [if_pos (by omega)]; simp_all; done) | (rw [if_neg (by omega), decide_eq_false (by omega), Bool.false_and]; done) | (rw [if_neg (by omega), decide_eq_true (by omega), Bool.true_and]; simp_all; done) | (rw [if_neg (by omega), decide_eq_true (by omega), Bool.true_and, decide_eq_false (by omega), Bool.false_and]; done) | (rw [if_neg (by omega)]; simp_all; done))
theorem spec_l4Is_fn {w : List Data} (hw : WT w) (haz : AZ w) {t : Ty} {c : Cl} (ht : TyOk w.length t) (hok : c.pat.ok) (hsz : c.pat.size ≤ 1000000000000) :
  FnD Tryz.prog 185 [.d (encDatas w), .agg [.d (.i t.data), .d (.i t.index)], .agg [.d (.i c.pat.op), .d (.i c.pat.ctor), .d (.i c.pat.n), .d (.i c.pat.m), .d (.i c.pat.var), .d (encPats c.pat.kids), .d (.i c.g.op), .d (.i c.g.var), .d (.i c.g.n)]] [] (.d (.bool (clOk w t c))) [] := by
 have ht' : TyIn w.length ⟨t.data, t.index⟩ := ht.1
 have hcl : clOk w t c = (isP w t c.pat && gdOk c.g (varsOf w t c.pat)) := rfl
 cases hp : isP w t c.pat with
 | false =>
  have hpi := spec_l3Is_fn hw ht' hok hsz
  have hpi' : FnD Tryz.prog 173 [.d (encDatas w), .agg [.d (.i t.data), .d (.i t.index)], .agg [.d (.i c.pat.op), .d (.i c.pat.ctor), .d (.i c.pat.n), .d (.i c.pat.m), .d (.i c.pat.var), .d (encPats c.pat.kids)]] [] (.d (.bool false)) [] := by rw [← hp]; exact hpi
  rw [hcl, hp, Bool.false_and]
  refine bd Tryz.f185 22 [] [] fun w0 F0 own kept hk => ?_
  refine Walk.box (id := 3004) .none rfl rfl rfl rfl rfl rfl rfl ?_
  refine Walk.box (id := 3005) .none rfl rfl rfl rfl rfl rfl rfl ?_
  refine ev ?_
  refine Walk.call (cr := []) cal173 (hpi') rfl .none rfl rfl (LeL.refl _) trivial rfl rfl rfl ?_
  refine evd [] [] ?_
  refine sq (fun h1 h1p h1s => ?_) fun h1 h1p h1s => ?_
  ·try simp only [Q] at h1p
   exfalso; contradiction --stop
  ·try simp only [Q] at h1p
   refine dr ?_
   refine rn0 (r1 rfl) (.eqd ?_)
   all_goals (rfl)
 | true =>
  have hpi := spec_l3Is_fn hw ht' hok hsz
  have hpi' : FnD Tryz.prog 173 [.d (encDatas w), .agg [.d (.i t.data), .d (.i t.index)], .agg [.d (.i c.pat.op), .d (.i c.pat.ctor), .d (.i c.pat.n), .d (.i c.pat.m), .d (.i c.pat.var), .d (encPats c.pat.kids)]] [] (.d (.bool true)) [] := by rw [← hp]; exact hpi
  have hsh : shapeP w 10 ⟨t.data, t.index⟩ c.pat = true := by
   have := hp; unfold isP at this; simp only [Bool.and_eq_true] at this; exact this.1
  have hvl := varsP_len w 10 ⟨t.data, t.index⟩ c.pat
  have hge := gdS_eq (g := c.g) (varsP_nod hp) (varsP_ok hw haz 10 hsh ht)
  have hge' : gdS c.g (varsP w 10 ⟨t.data, t.index⟩ c.pat) = gdOk c.g (varsOf w t c.pat) := by rw [varsOf_eq hp]; exact hge
  rw [hcl, hp, Bool.true_and, ← hge']
  refine bd Tryz.f185 22 [] [] fun w0 F0 own kept hk => ?_
  refine Walk.box (id := 3004) .none rfl rfl rfl rfl rfl rfl rfl ?_
  refine Walk.box (id := 3005) .none rfl rfl rfl rfl rfl rfl rfl ?_
  refine ev ?_
  refine Walk.call (cr := []) cal173 (hpi') rfl .none rfl rfl (LeL.refl _) trivial rfl rfl rfl ?_
  refine evd [] [] ?_
  refine sq (fun h1 h1p h1s => ?_) fun h1 h1p h1s => ?_
  ·try simp only [Q] at h1p
   refine Walk.call (cr := []) cal132 (spec_l3Vars_nil hw hsh (by omega) ht' hok hsz) rfl (.some rfl rfl h1) rfl rfl (LeL.refl _) trivial rfl rfl rfl ?_
   refine Walk.call (cr := []) cal247 (spec_l4Guard_fn (g := c.g) (by omega)) rfl (.some rfl rfl h1) rfl rfl (LeL.refl _) trivial rfl rfl rfl ?_
   refine evd [] [(12, true)] ?_ ⟨⟨_, rfl, h1⟩, trivial⟩
   refine dr ?_
   refine rn0 (r1 rfl) (.eqd ?_)
   all_goals (rfl)
  ·try simp only [Q] at h1p
   exfalso; contradiction --stop
def ClsSz (l : List Cl) : Prop := ∀ c ∈ l, c.pat.size ≤ 1000000000000
theorem tv_ok {w : List Data} {t : Ty} (h : typeValid w t = true) : TyOk w.length t := by
 unfold typeValid at h; rw [Bool.and_eq_true] at h; exact typeOk_ok h.2
theorem cls_at {w : List Data} {t : Ty} {l : List Cl} {i : Nat} (hi : i < l.length) (h : clOk w t (nth l i) = false) : clsValid w t l = false := by
 unfold clsValid
 have : l.any (fun c => !clOk w t c) = true := List.any_eq_true.2 ⟨nth l i, nth_mem hi, by rw [h]; rfl⟩
 rw [this]; simp
theorem cls_all {w : List Data} {t : Ty} {l : List Cl} (ht : typeValid w t = true) (hl : l.length ≤ 8) (h : ∀ i, i < l.length → clOk w t (nth l i) = true) : clsValid w t l = true := by
 unfold clsValid
 rw [ht, decide_eq_true (by omega), Bool.true_and, Bool.true_and, Bool.not_eq_true', List.any_eq_false]
 intro c hc
 obtain ⟨i, hi, rfl⟩ := List.getElem_of_mem hc
 have := h i hi
 simp only [nth, List.getD, List.getElem?_eq_getElem hi, Option.getD_some] at this
 simp [this]
theorem cls_len {w : List Data} {t : Ty} {l : List Cl} (h : 8 < l.length) : clsValid w t l = false := by
 unfold clsValid; rw [decide_eq_false (by omega), Bool.false_and, Bool.and_false]
theorem cls_tv {w : List Data} {t : Ty} {l : List Cl} (h : typeValid w t = false) : clsValid w t l = false := by
 unfold clsValid; rw [h, Bool.false_and]
theorem spec_ClausesValid_fn {w : List Data} (hs : WSmall w) {a k : Int} {l : List Cl} (hl : ClsOk l) (hz : ClsSz l) :
  FnD Tryz.prog 109 [.d (encDatas w), .agg [.d (.i a), .d (.i k)], .d (encCls l)] [] (.d (.bool (clsValid w ⟨a, k⟩ l))) [] := by
 have hll := hl.1
 refine bd Tryz.f109 31 [] [] fun w0 F0 own kept hk => ?_
 refine Walk.box (id := 3004) .none rfl rfl rfl rfl rfl rfl rfl ?_
 refine ev ?_
 refine Walk.call (cr := []) cal172 (spec_TypeValid_v hs) rfl .none rfl rfl (LeL.refl _) trivial rfl rfl rfl ?_
 refine ev ?_
 refine sq (fun h1 h1p h1s => ?_) fun h1 h1p h1s => ?_
 ·try simp only [Q, Int.natCast_inj] at h1p
  refine sqT ?_
  refine rn0 (r1 rfl) (.eqd ?_)
  all_goals (refine congrArg D.bool ?_; first | (rw [cls_tv (by assumption)]; done) | (rw [cls_len (by omega)]; done) | (rw [cls_at (i := i) (by omega) (by assumption)]; done) | (rw [cls_all (by assumption) (by omega) (fun x hx => hg1.2 x (by omega))]; done))
 ·try simp only [Q, Int.natCast_inj] at h1p
  refine sq (fun h3 h3p h3s => ?_) fun h3 h3p h3s => ?_
  ·try simp only [Q, Int.natCast_inj] at h3p
   refine rn0 (r1 rfl) (.eqd ?_)
   all_goals (refine congrArg D.bool ?_; first | (rw [cls_tv (by assumption)]; done) | (rw [cls_len (by omega)]; done) | (rw [cls_at (i := i) (by omega) (by assumption)]; done) | (rw [cls_all (by assumption) (by omega) (fun x hx => hg1.2 x (by omega))]; done))
  ·try simp only [Q, Int.natCast_inj] at h3p
   refine CWp.loopX (ι := Nat) hk (fun i => [(7, .d (.i (i : Int)))]) [6, 17, 18, 19, 20, 21, 22, 23, 24, 25, 26, 27, 28, 29, 30] (fun i => []) (fun i => i ≤ l.length ∧ ∀ i', i' < i → clOk w ⟨a, k⟩ (nth l i') = true) (fun i => l.length - i) 0 ⟨by omega, fun _ h => absurd h (by omega)⟩ ⟨⟨_, rfl, (LeA.eqi (by first | rfl | (simp; done) | (simp_all; done) | omega))⟩, trivial⟩ trivial (fun x => rfl) (fun i hg1 => ?_)
   refine evc [] [] ?_
   refine sq (fun h4 h4p h4s => ?_) fun h4 h4p h4s => ?_
   ·try simp only [Q, Int.natCast_inj] at h4p
    refine Walk.idx sl44 .none rfl rfl rfl rfl (at_nth (by omega)) rfl ?_
    refine evd [] [] ?_
    refine Walk.call (cr := []) cal185 (spec_l4Is_fn (t := ⟨a, k⟩) (c := nth l i) (valid_wt hs (tv_facts (by assumption)).1) (valid_az (tv_facts (by assumption)).1) (tv_ok (by assumption)) (hl.2 _ (nth_mem (by omega))) (hz _ (nth_mem (by omega)))) rfl .none rfl rfl (LeL.refl _) trivial rfl rfl rfl ?_
    refine evd [] [] ?_
    refine dr ?_
    refine sq (fun h5 h5p h5s => ?_) fun h5 h5p h5s => ?_
    ·try simp only [Q, Int.natCast_inj] at h5p
     refine rn0 (r1 rfl) (.eqd ?_)
     all_goals (refine congrArg D.bool ?_; first | (rw [cls_tv (by assumption)]; done) | (rw [cls_len (by omega)]; done) | (rw [cls_at (i := i) (by omega) (by assumption)]; done) | (rw [cls_all (by assumption) (by omega) (fun x hx => hg1.2 x (by omega))]; done))
    ·try simp only [Q, Int.natCast_inj] at h5p
     refine ar ?_
     refine Exists.intro (i + 1) ⟨⟨by omega, upto_succ hg1.2 (by assumption)⟩, (by omega), Sub.x (by kernel_rfl) (by kernel_rfl) ⟨⟨_, rfl, (LeA.eqi (by first | rfl | (simp; done) | (simp_all; done) | omega))⟩, trivial⟩ (by kernel_rfl) (by kernel_rfl) trivial⟩
   ·try simp only [Q, Int.natCast_inj] at h4p
    refine rn0 (r1 rfl) (.eqd ?_)
    all_goals (refine congrArg D.bool ?_; first | (rw [cls_tv (by assumption)]; done) | (rw [cls_len (by omega)]; done) | (rw [cls_at (i := i) (by omega) (by assumption)]; done) | (rw [cls_all (by assumption) (by omega) (fun x hx => hg1.2 x (by omega))]; done))
theorem mk_op {a b c d e : Int} {l : List Pat} : (Pat.mk a b c d e l).op = a := rfl
theorem mk_ctor {a b c d e : Int} {l : List Pat} : (Pat.mk a b c d e l).ctor = b := rfl
theorem mk_n {a b c d e : Int} {l : List Pat} : (Pat.mk a b c d e l).n = c := rfl
theorem mk_m {a b c d e : Int} {l : List Pat} : (Pat.mk a b c d e l).m = d := rfl
theorem mk_var {a b c d e : Int} {l : List Pat} : (Pat.mk a b c d e l).var = e := rfl
theorem mk_kids {a b c d e : Int} {l : List Pat} : (Pat.mk a b c d e l).kids = l := rfl
abbrev anyQ : Pat := .mk 1 0 0 0 0 []
abbrev zeroP : Pat := .mk 0 0 0 0 0 []
mutual
def bareP : Pat → Pat
 | .mk op c n m v ks => if op = 2 then anyQ else if op = 6 ∧ ks ≠ [] then headB ks else .mk op c n m v (bareL ks)
def headB : List Pat → Pat
 | [] => anyQ
 | k :: _ => bareP k
def bareL : List Pat → List Pat
 | [] => []
 | k :: r => bareP k :: bareL r
end
theorem bareL_eq : ∀ l : List Pat, bareL l = l.map bareP
 | [] => rfl
 | k :: r => by simp [bareL, bareL_eq r]
theorem bareP_eq (p : Pat) : bareP p = if p.op = 2 then anyQ else if p.op = 6 ∧ p.kids ≠ [] then bareP (nth p.kids 0) else .mk p.op p.ctor p.n p.m p.var (p.kids.map bareP) := by
 cases p with | mk op c n m v ks =>
 have e : bareP (.mk op c n m v ks) = if op = 2 then anyQ else if op = 6 ∧ ks ≠ [] then headB ks else .mk op c n m v (bareL ks) := by conv => lhs; unfold bareP
 rw [e, bareL_eq]
 by_cases h2 : op = 2
 ·rw [if_pos h2]
  exact (if_pos (c := (Pat.mk op c n m v ks).op = 2) h2).symm
 ·rw [if_neg h2]
  refine Eq.trans ?_ (if_neg (c := (Pat.mk op c n m v ks).op = 2) h2).symm
  by_cases h6 : op = 6 ∧ ks ≠ []
  ·rw [if_pos h6]
   refine Eq.trans ?_ (if_pos (c := (Pat.mk op c n m v ks).op = 6 ∧ (Pat.mk op c n m v ks).kids ≠ []) h6).symm
   cases ks with
   | nil => exact absurd rfl h6.2
   | cons k r => rfl
  ·rw [if_neg h6]
   exact (if_neg (c := (Pat.mk op c n m v ks).op = 6 ∧ (Pat.mk op c n m v ks).kids ≠ []) h6).symm
def stepP (out : List (List Pat)) (l : List Pat) : List (List Pat) := out.flatMap fun q => l.map fun c => q ++ [c]
def prodP (ls : List (List Pat)) : List (List Pat) := ls.foldl stepP [[]]
mutual
def splitP : Pat → List Pat
 | .mk op c n m v ks => if op = 5 then splitO ks else (prodP (splitPL ks)).map fun l => .mk op c n m v l
def splitO : List Pat → List Pat
 | [] => []
 | a :: r => splitP a ++ splitO2 r
def splitO2 : List Pat → List Pat
 | [] => []
 | b :: _ => splitP b
def splitPL : List Pat → List (List Pat)
 | [] => []
 | k :: r => splitP k :: splitPL r
end
theorem splitPL_eq : ∀ l : List Pat, splitPL l = l.map splitP
 | [] => rfl
 | k :: r => by simp [splitPL, splitPL_eq r]
theorem splitP_n {p : Pat} (h : p.op ≠ 5) : splitP p = (prodP (p.kids.map splitP)).map fun l => .mk p.op p.ctor p.n p.m p.var l := by
 cases p with | mk op c n m v ks =>
 have h' : ¬ op = 5 := h
 conv => lhs; unfold splitP
 rw [if_neg h', splitPL_eq]; rfl
theorem splitP_5 {p : Pat} (h : p.op = 5) (hk : p.kids.length = 2) : splitP p = splitP (nth p.kids 0) ++ splitP (nth p.kids 1) := by
 cases p with | mk op c n m v ks =>
 have h' : op = 5 := h
 conv => lhs; unfold splitP
 rw [if_pos h']
 have hk' : ks.length = 2 := hk
 match ks, hk' with
 | [a, b], _ => rfl
mutual
def cntS : Pat → Int
 | .mk op _ _ _ _ ks => if op = 5 then cntO ks 0 else cntM ks 1
def cntO : List Pat → Int → Int
 | [], n => n
 | k :: r, n => cntO r (cap (n + cntS k))
def cntM : List Pat → Int → Int
 | [], n => n
 | k :: r, n => cntM r (cap (n * cntS k))
end
theorem cntS_eq (p : Pat) : cntS p = if p.op = 5 then cntO p.kids 0 else cntM p.kids 1 := by
 cases p with | mk op c n m v ks =>
 conv => lhs; unfold cntS
 rfl
mutual
theorem cntS_bd : ∀ p : Pat, 0 ≤ cntS p ∧ cntS p ≤ 401
 | .mk op _ _ _ _ ks => by
  unfold cntS
  split
  ·exact cntO_bd ks 0 (by omega) (by omega)
  ·exact cntM_bd ks 1 (by omega) (by omega)
theorem cntO_bd : ∀ (l : List Pat) (n : Int), 0 ≤ n → n ≤ 401 → 0 ≤ cntO l n ∧ cntO l n ≤ 401
 | [], n, h1, h2 => ⟨h1, h2⟩
 | k :: r, n, h1, h2 => by
  unfold cntO
  have h3 := cntS_bd k
  have h4 := cap_bd (x := n + cntS k) (by omega)
  exact cntO_bd r _ h4.1 h4.2
theorem cntM_bd : ∀ (l : List Pat) (n : Int), 0 ≤ n → n ≤ 401 → 0 ≤ cntM l n ∧ cntM l n ≤ 401
 | [], n, h1, h2 => ⟨h1, h2⟩
 | k :: r, n, h1, h2 => by
  unfold cntM
  have h3 := cntS_bd k
  have h4 := cap_bd (x := n * cntS k) (Int.mul_nonneg h1 h3.1)
  exact cntM_bd r _ h4.1 h4.2
end
theorem cntO_next {l : List Pat} {i : Nat} {n : Int} (h : i < l.length) : cntO (l.drop i) n = cntO (l.drop (i + 1)) (cap (n + cntS (nth l i))) := by
 rw [drop_nth h]; rfl
theorem cntM_next {l : List Pat} {i : Nat} {n : Int} (h : i < l.length) : cntM (l.drop i) n = cntM (l.drop (i + 1)) (cap (n * cntS (nth l i))) := by
 rw [drop_nth h]; rfl
def binP : Nat → Pat → Bool
 | 0, _ => false
 | n + 1, p => decide (p.op = 5 → p.kids.length = 2) && p.kids.all (binP n)
theorem bin_kid {n : Nat} {p : Pat} (h : binP (n + 1) p = true) {i : Nat} (hi : i < p.kids.length) : binP n (nth p.kids i) = true := by
 unfold binP at h
 rw [Bool.and_eq_true, List.all_eq_true] at h
 exact h.2 _ (nth_mem hi)
theorem bin_two {n : Nat} {p : Pat} (h : binP (n + 1) p = true) (h5 : p.op = 5) : p.kids.length = 2 := by
 unfold binP at h
 rw [Bool.and_eq_true] at h
 exact (of_decide_eq_true h.1) h5
theorem bin_mono : ∀ (n : Nat) {p : Pat}, binP n p = true → binP (n + 1) p = true
 | 0, p, h => by simp [binP] at h
 | n + 1, p, h => by
  have h' := h
  unfold binP at h ⊢
  rw [Bool.and_eq_true, List.all_eq_true] at h ⊢
  exact ⟨h.1, fun k hk => bin_mono n (h.2 k hk)⟩
theorem shape_bin {w : List Data} : ∀ (n : Nat) {t : Ty} {p : Pat}, shapeP w n t p = true → binP n (bareP p) = true
 | 0, t, p, h => by simp [shapeP] at h
 | n + 1, t, p, h => by
  obtain ⟨ho, hlen⟩ := shapeP_own h
  have hany : binP (n + 1) anyQ = true := by simp [binP, anyQ, Pat.op, Pat.kids]
  rw [bareP_eq]
  by_cases h2 : p.op = 2
  ·rw [if_pos h2]; exact hany
  rw [if_neg h2]
  by_cases h6 : p.op = 6
  ·obtain ⟨hl, s0⟩ := shape_one h h6
   rw [if_pos ⟨h6, fun e => by rw [e] at hl; simp at hl⟩]
   exact bin_mono n (shape_bin n s0)
  rw [if_neg (fun h => h6 h.1)]
  unfold binP
  rw [Bool.and_eq_true, List.all_eq_true]
  refine ⟨decide_eq_true (fun h5 => ?_), fun k hk => ?_⟩
  ·have := (shape_two h h5).1; simpa [Pat.kids] using this
  ·simp only [Pat.kids, List.mem_map] at hk
   obtain ⟨x, hx, rfl⟩ := hk
   obtain ⟨i, hi, rfl⟩ := List.getElem_of_mem hx
   have := shape_bin n (shapeP_kid h hi)
   have e : nth p.kids i = p.kids[i] := nth_eq hi
   rw [e] at this
   exact this
theorem stepP_len (out : List (List Pat)) (l : List Pat) : (stepP out l).length = out.length * l.length := by
 unfold stepP
 induction out with
 | nil => simp
 | cons q r ih => rw [List.flatMap_cons, List.length_append, ih, List.length_map, List.length_cons, Nat.succ_mul]; omega
theorem prodP_snoc (ls : List (List Pat)) (l : List Pat) : prodP (ls ++ [l]) = stepP (prodP ls) l := by unfold prodP; rw [List.foldl_append]; rfl
theorem cap_mul {a b : Nat} : cap (cap (a : Int) * cap (b : Int)) = cap ((a * b : Nat) : Int) := by
 unfold cap
 rcases Nat.eq_zero_or_pos a with rfl | ha
 ·simp
 rcases Nat.eq_zero_or_pos b with rfl | hb
 ·simp
 have h1 : a ≤ a * b := Nat.le_mul_of_pos_right a hb
 have h2 : b ≤ a * b := Nat.le_mul_of_pos_left b ha
 have hab : ((a * b : Nat) : Int) = (a : Int) * (b : Int) := by push_cast; rfl
 by_cases ca : 401 < (a : Int)
 ·rw [if_pos ca]
  by_cases cb : 401 < (b : Int)
  ·rw [if_pos cb, if_pos (by omega), if_pos (by omega)]
  ·rw [if_neg cb]
   have h3 : (401 : Int) * 1 ≤ 401 * (b : Int) := Int.mul_le_mul_of_nonneg_left (by omega) (by omega)
   rw [if_pos (show 401 < ((a * b : Nat) : Int) by omega)]
   split <;> omega
 ·rw [if_neg ca]
  by_cases cb : 401 < (b : Int)
  ·rw [if_pos cb]
   have h3 : (1 : Int) * 401 ≤ (a : Int) * 401 := Int.mul_le_mul_of_nonneg_right (by omega) (by omega)
   rw [if_pos (show 401 < ((a * b : Nat) : Int) by omega)]
   split <;> omega
  ·rw [if_neg cb, hab]
theorem cap_add {a b : Nat} : cap (cap (a : Int) + cap (b : Int)) = cap ((a + b : Nat) : Int) := by
 unfold cap
 push_cast
 split <;> split <;> split <;> (try split) <;> omega
theorem cap_cap {x : Int} : cap (cap x) = cap x := by unfold cap; split <;> (try split) <;> omega
theorem cntM_eq : ∀ (l : List Pat) (out : List (List Pat)), (∀ k ∈ l, cntS k = cap ((splitP k).length : Int) ∧ 0 < (splitP k).length) → cntM l (cap (out.length : Int)) = cap (((l.map splitP).foldl stepP out).length : Int) ∧ (0 < out.length → 0 < ((l.map splitP).foldl stepP out).length)
 | [], out, _ => ⟨rfl, fun h => h⟩
 | k :: r, out, h => by
  have hk := h k (by simp)
  unfold cntM
  rw [hk.1, cap_mul]
  have := cntM_eq r (stepP out (splitP k)) (fun x hx => h x (by simp [hx]))
  rw [stepP_len] at this
  rw [List.map_cons, List.foldl_cons]
  exact ⟨this.1, fun ho => this.2 (Nat.mul_pos ho hk.2)⟩
theorem cnt_eq : ∀ (n : Nat) {p : Pat}, binP n p = true → cntS p = cap ((splitP p).length : Int) ∧ 0 < (splitP p).length
 | 0, p, h => by simp [binP] at h
 | n + 1, p, h => by
  have ih := fun i (hi : i < p.kids.length) => cnt_eq n (bin_kid h hi)
  rw [cntS_eq]
  by_cases h5 : p.op = 5
  ·have hl := bin_two h h5
   rw [if_pos h5, splitP_5 h5 hl, List.length_append]
   have k0 := ih 0 (by omega)
   have k1 := ih 1 (by omega)
   have e : p.kids = [nth p.kids 0, nth p.kids 1] := by
    match hk : p.kids, hl with
    | [a, b], _ => rfl
   refine ⟨?_, by omega⟩
   rw [e]
   simp only [cntO]
   rw [Int.zero_add, k0.1, cap_cap, k1.1]
   show cap (cap ((splitP (nth p.kids 0)).length : Int) + cap ((splitP (nth p.kids 1)).length : Int)) = _
   rw [cap_add]; rfl
  ·rw [if_neg h5, splitP_n h5, List.length_map]
   have := cntM_eq p.kids [[]] (fun k hk => by
    obtain ⟨i, hi, rfl⟩ := List.getElem_of_mem hk
    have := ih i hi
    simpa [nth, List.getD, hi] using this)
   exact ⟨this.1, this.2 (by simp)⟩
theorem foldl_len_le : ∀ (ls : List (List Pat)) (out : List (List Pat)), (∀ l ∈ ls, 0 < l.length) → out.length ≤ (ls.foldl stepP out).length
 | [], out, _ => Nat.le_refl _
 | l :: r, out, h => by
  rw [List.foldl_cons]
  have h1 := foldl_len_le r (stepP out l) (fun x hx => h x (by simp [hx]))
  rw [stepP_len] at h1
  have h2 : out.length ≤ out.length * l.length := Nat.le_mul_of_pos_right _ (h l (by simp))
  omega
theorem foldl_len_mul : ∀ (ls : List (List Pat)) (out : List (List Pat)), (∀ l ∈ ls, 0 < l.length) → 0 < out.length → ∀ l ∈ ls, l.length ≤ (ls.foldl stepP out).length
 | [], out, _, _, l, hl => by simp at hl
 | x :: r, out, h, ho, l, hl => by
  rw [List.foldl_cons]
  have hx := h x (by simp)
  have hp : 0 < (stepP out x).length := by rw [stepP_len]; exact Nat.mul_pos ho hx
  rcases List.mem_cons.1 hl with rfl | hl
  ·have h1 := foldl_len_le r (stepP out l) (fun y hy => h y (by simp [hy]))
   rw [stepP_len] at h1
   have h2 : l.length ≤ out.length * l.length := Nat.le_mul_of_pos_left _ ho
   omega
  ·exact foldl_len_mul r (stepP out x) (fun y hy => h y (by simp [hy])) hp l hl
theorem split_kid {n : Nat} {p : Pat} (h : binP (n + 1) p = true) {i : Nat} (hi : i < p.kids.length) : (splitP (nth p.kids i)).length ≤ (splitP p).length := by
 by_cases h5 : p.op = 5
 ·have hl := bin_two h h5
  rw [splitP_5 h5 hl, List.length_append]
  have : i = 0 ∨ i = 1 := by omega
  rcases this with rfl | rfl <;> omega
 ·rw [splitP_n h5, List.length_map]
  refine foldl_len_mul _ [[]] (fun l hl => ?_) (by simp) _ (List.mem_map.2 ⟨_, nth_mem hi, rfl⟩)
  obtain ⟨k, hk, rfl⟩ := List.mem_map.1 hl
  obtain ⟨j, hj, rfl⟩ := List.getElem_of_mem hk
  have := (cnt_eq n (bin_kid h hj)).2
  simpa [nth, List.getD, hj] using this
theorem split_front {n : Nat} {p : Pat} (h : binP (n + 1) p = true) (h5 : p.op ≠ 5) (i : Nat) : (prodP ((p.kids.take i).map splitP)).length ≤ (splitP p).length := by
 rw [splitP_n h5, List.length_map]
 have e : p.kids.map splitP = (p.kids.take i).map splitP ++ (p.kids.drop i).map splitP := by rw [← List.map_append, List.take_append_drop]
 unfold prodP
 rw [e, List.foldl_append]
 refine foldl_len_le _ _ (fun l hl => ?_)
 obtain ⟨k, hk, rfl⟩ := List.mem_map.1 hl
 obtain ⟨j, hj, rfl⟩ := List.getElem_of_mem (List.mem_of_mem_drop hk)
 have := (cnt_eq n (bin_kid h hj)).2
 simpa [nth, List.getD, hj] using this
def partP (w : List Data) : Nat → Ty → Pat → Bool
 | 0, _, _ => false
 | n + 1, t, p => (ownP w t p && decide (p.op = 1 ∨ p.op = 3 ∨ p.op = 4)) && all2 (partP w n) (typesP w t p) p.kids
theorem all2_imp {α β : Type} {f g : α → β → Bool} : ∀ {a : List α} {b : List β}, (∀ x ∈ a, ∀ y ∈ b, f x y = true → g x y = true) → all2 f a b = true → all2 g a b = true
 | [], [], _, _ => rfl
 | x :: r, y :: s, h, h2 => by
  simp only [all2, Bool.and_eq_true] at h2 ⊢
  exact ⟨h x (by simp) y (by simp) h2.1, all2_imp (fun a ha b hb => h a (by simp [ha]) b (by simp [hb])) h2.2⟩
 | [], _ :: _, _, h2 => by simp [all2] at h2
 | _ :: _, [], _, h2 => by simp [all2] at h2
theorem part_shape {w : List Data} : ∀ (n : Nat) {t : Ty} {p : Pat}, partP w n t p = true → shapeP w n t p = true
 | 0, t, p, h => by simp [partP] at h
 | n + 1, t, p, h => by
  unfold partP at h
  unfold shapeP
  simp only [Bool.and_eq_true] at h ⊢
  exact ⟨h.1.1, all2_imp (fun x _ y _ hh => part_shape n hh) h.2⟩
theorem part_mono {w : List Data} : ∀ (n : Nat) {t : Ty} {p : Pat}, partP w n t p = true → partP w (n + 1) t p = true
 | 0, t, p, h => by simp [partP] at h
 | n + 1, t, p, h => by
  unfold partP at h ⊢
  simp only [Bool.and_eq_true] at h ⊢
  exact ⟨h.1, all2_imp (fun x _ y _ hh => part_mono n hh) h.2⟩
theorem part_op {w : List Data} {n : Nat} {t : Ty} {p : Pat} (h : partP w n t p = true) : p.op = 1 ∨ p.op = 3 ∨ p.op = 4 := by
 cases n with
 | zero => simp [partP] at h
 | succ n => unfold partP at h; simp only [Bool.and_eq_true] at h; exact of_decide_eq_true h.1.2
theorem part_own {w : List Data} {n : Nat} {t : Ty} {p : Pat} (h : partP w n t p = true) : ownP w t p = true ∧ p.kids.length = (typesP w t p).length := by
 cases n with
 | zero => simp [partP] at h
 | succ n => exact shapeP_own (part_shape _ h)
theorem part_kid {w : List Data} {n : Nat} {t : Ty} {p : Pat} (h : partP w (n + 1) t p = true) {i : Nat} (hi : i < p.kids.length) : partP w n (nth (typesP w t p) i) (nth p.kids i) = true := by
 have hl := (part_own h).2
 unfold partP at h
 simp only [Bool.and_eq_true] at h
 exact all2_mem hl.symm h.2 i (by omega)
theorem ownP_mk {w : List Data} {t : Ty} {p : Pat} {l : List Pat} : ownP w t (.mk p.op p.ctor p.n p.m p.var l) = ownP w t p := rfl
theorem typesP_mk {w : List Data} {t : Ty} {p : Pat} {l : List Pat} : typesP w t (.mk p.op p.ctor p.n p.m p.var l) = typesP w t p := rfl
theorem prodP_mem : ∀ (ls : List (List Pat)) (out : List (List Pat)) (l : List Pat), l ∈ ls.foldl stepP out → ∃ q ∈ out, ∃ r : List Pat, l = q ++ r ∧ r.length = ls.length ∧ ∀ i, i < ls.length → nth r i ∈ nth ls i
 | [], out, l, h => ⟨l, h, [], by simp, rfl, fun i hi => by simp at hi⟩
 | x :: rs, out, l, h => by
  rw [List.foldl_cons] at h
  obtain ⟨q, hq, r, e, hl, hm⟩ := prodP_mem rs (stepP out x) l h
  unfold stepP at hq
  simp only [List.mem_flatMap, List.mem_map] at hq
  obtain ⟨q0, hq0, c, hc, rfl⟩ := hq
  refine ⟨q0, hq0, c :: r, by rw [e]; simp, by simp [hl], fun i hi => ?_⟩
  cases i with
  | zero => exact hc
  | succ i => exact hm i (by simpa using hi)
theorem anyQ_part {w : List Data} {n : Nat} {t : Ty} : partP w (n + 1) t anyQ = true := by
 unfold partP
 have h1 : typesP w t anyQ = [] := by unfold typesP; rw [if_neg (by decide), if_neg (by decide), if_neg (by decide)]
 rw [h1]
 have h2 : ownP w t anyQ = true := by unfold ownP; exact decide_eq_true (by simp [anyQ, Pat.op, Pat.var, Pat.n, Pat.m, Pat.ctor])
 rw [h2]; rfl
theorem anyQ_split : splitP anyQ = [anyQ] := by
 rw [splitP_n (by decide)]; rfl
theorem shape_zero {w : List Data} {n : Nat} {t : Ty} {p : Pat} (h : shapeP w (n + 1) t p = true) (h4 : p.op ≠ 4) (h5 : p.op ≠ 5) (h6 : p.op ≠ 6) : p.kids = [] := by
 have hl := (shapeP_own h).2
 unfold typesP at hl
 rw [if_neg h4, if_neg h5, if_neg h6] at hl
 exact List.eq_nil_of_length_eq_zero hl
theorem parts_ok {w : List Data} : ∀ (n : Nat) {t : Ty} {p : Pat}, shapeP w n t p = true → ∀ x ∈ splitP (bareP p), partP w n t x = true
 | 0, t, p, h => by simp [shapeP] at h
 | n + 1, t, p, h => by
  obtain ⟨ho, hlen⟩ := shapeP_own h
  have hop := shape_op h
  intro x hx
  rw [bareP_eq] at hx
  by_cases h2 : p.op = 2
  ·rw [if_pos h2, anyQ_split, List.mem_singleton] at hx
   rw [hx]; exact anyQ_part
  rw [if_neg h2] at hx
  by_cases h6 : p.op = 6
  ·obtain ⟨hl, s0⟩ := shape_one h h6
   rw [if_pos ⟨h6, fun e => by rw [e] at hl; simp at hl⟩] at hx
   exact part_mono n (parts_ok n s0 x hx)
  rw [if_neg (fun h => h6 h.1)] at hx
  by_cases h5 : p.op = 5
  ·obtain ⟨hl, s0, s1⟩ := shape_two h h5
   have hl2 : (p.kids.map bareP).length = 2 := by rw [List.length_map]; exact hl
   rw [splitP_5 (p := .mk p.op p.ctor p.n p.m p.var (p.kids.map bareP)) h5 hl2] at hx
   have e0 : nth (p.kids.map bareP) 0 = bareP (nth p.kids 0) := by
    match hk : p.kids, hl with
    | [a, b], _ => rfl
   have e1 : nth (p.kids.map bareP) 1 = bareP (nth p.kids 1) := by
    match hk : p.kids, hl with
    | [a, b], _ => rfl
   simp only [mk_kids] at hx
   rw [e0, e1] at hx
   rcases List.mem_append.1 hx with hx | hx
   ·exact part_mono n (parts_ok n s0 x hx)
   ·exact part_mono n (parts_ok n s1 x hx)
  rw [splitP_n (p := .mk p.op p.ctor p.n p.m p.var (p.kids.map bareP)) h5] at hx
  simp only [mk_kids, mk_op, mk_ctor, mk_n, mk_m, mk_var, List.mem_map] at hx
  obtain ⟨l, hl, rfl⟩ := hx
  obtain ⟨q, hq, r, e, hlr, hm⟩ := prodP_mem _ _ _ hl
  rw [List.mem_singleton] at hq
  rw [hq, List.nil_append] at e
  subst e
  simp only [List.map_map, List.length_map] at hlr hm
  unfold partP
  rw [ownP_mk, typesP_mk, ho, decide_eq_true (show _ ∨ _ ∨ _ from by rw [mk_op]; omega), Bool.true_and, Bool.true_and]
  refine all2_nth_true (by rw [mk_kids]; omega) (fun i hi => ?_)
  have hm' := hm i (by omega)
  have e2 : nth (p.kids.map (splitP ∘ bareP)) i = splitP (bareP (nth p.kids i)) := by
   rw [nth_eq (by simp; omega)]; simp [nth, List.getD, show i < p.kids.length by omega]
  rw [e2] at hm'
  exact parts_ok n (shapeP_kid h (by omega)) _ hm'
theorem Pats.ok_of : ∀ {l : List Pat}, (∀ k ∈ l, k.ok) → Pats.ok l
 | [], _ => trivial
 | k :: r, h => ⟨h k (by simp), Pats.ok_of (fun x hx => h x (by simp [hx]))⟩
theorem Pats.size_of {m : Nat} : ∀ {l : List Pat}, (∀ k ∈ l, k.size ≤ m) → Pats.size l ≤ l.length * m
 | [], _ => by simp [Pats.size]
 | k :: r, h => by
  have h1 := h k (by simp)
  have h2 := Pats.size_of (l := r) (fun x hx => h x (by simp [hx]))
  simp only [Pats.size, List.length_cons, Nat.succ_mul]; omega
mutual
theorem bare_ok : ∀ p : Pat, p.ok → (bareP p).ok
 | .mk op c n m v ks, h => by
  unfold bareP
  split
  ·exact ⟨by simp, trivial⟩
  ·split
   ·exact headB_ok ks h.2
   ·exact ⟨by rw [bareL_eq, List.length_map]; exact h.1, bareL_ok ks h.2⟩
theorem headB_ok : ∀ l : List Pat, Pats.ok l → (headB l).ok
 | [], _ => ⟨by simp, trivial⟩
 | k :: r, h => bare_ok k h.1
theorem bareL_ok : ∀ l : List Pat, Pats.ok l → Pats.ok (bareL l)
 | [], _ => trivial
 | k :: r, h => ⟨bare_ok k h.1, bareL_ok r h.2⟩
end
mutual
theorem bare_size : ∀ p : Pat, (bareP p).size ≤ p.size
 | .mk op c n m v ks => by
  unfold bareP
  split
  ·simp [anyQ, Pat.size, Pats.size]
  ·split
   ·have := headB_size ks; simp only [Pat.size]; omega
   ·have := bareL_size ks; simp only [Pat.size]; omega
theorem headB_size : ∀ l : List Pat, (headB l).size ≤ 1 + Pats.size l
 | [] => by simp [headB, anyQ, Pat.size, Pats.size]
 | k :: r => by have := bare_size k; simp only [headB, Pats.size]; omega
theorem bareL_size : ∀ l : List Pat, Pats.size (bareL l) ≤ Pats.size l
 | [] => Nat.le_refl _
 | k :: r => by have := bare_size k; have := bareL_size r; simp only [bareL, Pats.size]; omega
end
end Go.Proofs.YtdgknigklgnefaaGreat
namespace Go.Proofs.YtdgknigklgnefaaGreat
open Go
set_option linter.unusedSimpArgs false
set_option linter.unusedVariables false
def capN (n : Nat) : Nat := if 401 < n then 401 else n
end Go.Proofs.YtdgknigklgnefaaGreat
namespace Go.Proofs.YtdgknigklgnefaaGreat
open Go
set_option linter.unusedSimpArgs false
set_option linter.unusedVariables false
set_option maxRecDepth 100000
set_option maxHeartbeats 2000000
theorem Val.cs_cc (l : List Val) : Val.cs l = l.map Val.cc := by
 rw [Val.cs_eq]; exact List.map_congr_left (fun v _ => Val.c_eq v)
end Go.Proofs.YtdgknigklgnefaaGreat
namespace Go.Proofs.YtdgknigklgnefaaGreat
open Go
set_option linter.unusedSimpArgs false
set_option linter.unusedVariables false
theorem Vals.ok_of : ∀ {l : List Val}, (∀ v ∈ l, v.ok) → Vals.ok l
 | [], _ => trivial
 | v :: r, h => ⟨h v (by simp), Vals.ok_of (fun x hx => h x (List.mem_cons_of_mem _ hx))⟩
end Go.Proofs.YtdgknigklgnefaaGreat
namespace Go.Proofs.YtdgknigklgnefaaGreat
open Go
set_option linter.unusedSimpArgs false
set_option linter.unusedVariables false
set_option maxRecDepth 100000
set_option maxHeartbeats 2000000
theorem Pat.cs_cd (l : List Pat) : Pat.cs l = l.map Pat.cc := by
 rw [Pat.cs_eq]; exact List.map_congr_left (fun v _ => Pat.c_eq v)
theorem pat_rows (l : List Pat) : ∀ x ∈ Pat.cs l, x.length = 6 := Pat.cs_rows
theorem pat_row (l : List Pat) : ∀ x ∈ l.map Pat.cc, x.length = 6 := fun x hx => by
 obtain ⟨y, _, rfl⟩ := List.mem_map.1 hx; rfl
theorem bareP_2 {p : Pat} (h : p.op = 2) : bareP p = anyQ := by rw [bareP_eq, if_pos h]
theorem bareP_6 {p : Pat} (h : p.op = 6) (h2 : 0 < p.kids.length) : bareP p = bareP (nth p.kids 0) := by
 rw [bareP_eq, if_neg (by omega), if_pos ⟨h, fun e => by rw [e] at h2; simp at h2⟩]
theorem bareP_n {p : Pat} (h : p.op ≠ 2) (h2 : ¬ (p.op = 6 ∧ 0 < p.kids.length)) : bareP p = .mk p.op p.ctor p.n p.m p.var (p.kids.map bareP) := by
 rw [bareP_eq, if_neg h, if_neg (fun hh => h2 ⟨hh.1, List.length_pos_iff.2 hh.2⟩)]
theorem impl_ownPattern_fn : ∀ (n : Nat) {p : Pat}, p.size ≤ n → p.ok → FnD Tryz.prog 203 [.agg [.d (.i p.op), .d (.i p.ctor), .d (.i p.n), .d (.i p.m), .d (.i p.var), .d (encPats p.kids)]] [] (.agg [.d (.i p.op), .d (.i p.ctor), .d (.i p.n), .d (.i p.m), .d (.i p.var), .d (encPats p.kids)]) []
 | 0, p, h, _ => by rw [Pat.size_eq] at h; omega
 | n + 1, p, h, hok => by
  rw [Pat.size_eq] at h
  rw [Pat.ok_iff] at hok
  have hok1 := hok.1
  refine bd Tryz.f203 24 [] [] fun w0 F0 own kept hk => ?_
  refine Walk.box (id := 3001) .none rfl rfl rfl rfl rfl rfl rfl ?_
  refine Walk.alloc (id := 3002) tz51 rfl .none rfl rfl rfl rfl ?_
  refine tv ?_
  refine Walk.store ty49 .none rfl rfl rfl rfl rfl rfl (by simp) rfl ?_
  refine tv ?_
  refine CWp.tokB 3001 5 7 6 rfl rfl rfl rfl ?_
  refine CWp.loopX (ι := List (Pat) × List (Pat)) hk (fun x => [(11, .d (.i (x.1.length : Int)))]) [5, 12, 13, 14, 15, 16, 17, 18, 19, 20, 21, 22] (fun x => [(3001, some (.box [.d (.i p.op), .d (.i p.ctor), .d (.i p.n), .d (.i p.m), .d (.i p.var), .gl 7 (x.1.map Pat.cc)])), (7, some (.tok (x.1.map Pat.cc).length 6))]) (fun x => x.1 ++ x.2 = p.kids) (fun x => x.2.length) ([], p.kids) (by simp) ⟨⟨_, rfl, (LeA.eqi (by first | rfl | (simp; done) | (simp_all; done) | omega))⟩, trivial⟩ ⟨(by first | rfl | (simp [getH]; done)), ⟨beq_nat_eq (by first | rfl | (simp; done) | (simp; omega) | (first | rfl | (simp; done) | (simp_all; done) | omega)), trivial⟩⟩ (fun x => rfl) (fun x hg1 => ?_)
  obtain ⟨pre, rest⟩ := x
  dsimp only at hg1 ⊢
  refine evc [] [] ?_
  refine sq (fun h1 h1p h1s => ?_) fun h1 h1p h1s => ?_
  ·try simp only [Q, Pat.cs_len] at h1p
   rcases rest with _ | ⟨y, rest⟩
   ·exfalso; simp_all
   refine Walk.idx sl49 .none rfl rfl rfl rfl (Pat.cs_at' hg1) rfl ?_
   refine ev ?_
   refine Walk.alloc (id := 3005) tz51 rfl .none rfl rfl rfl rfl ?_
   refine Walk.store ty51 .none rfl rfl rfl rfl rfl rfl (by simp) rfl ?_
   refine tv ?_
   refine Walk.call (cr := []) cal203 (impl_ownPattern_fn n (p := y) (by have := Pats.size_mem (l := p.kids) (v := y) (by rw [← hg1]; simp); omega) (Pats.ok_mem hok.2 y (by rw [← hg1]; simp))) rfl .none rfl rfl (LeL.refl _) trivial rfl rfl rfl ?_
   refine Walk.sliceLit sl49 tz51 rfl (by decide) (ks := [0]) (xs := [_]) rfl rfl (by decide) (by decide) .none rfl rfl rfl rfl ?_
   refine Walk.append sl49 zz51 rfl .none rfl rfl rfl rfl (htokL rfl (by first | rfl | (simp; done) | (simp; omega))) (by intro x hx; first | (simp at hx; subst hx; rfl) | exact pat_row _ x hx) (by have := congrArg List.length hg1; simp at this; simp; omega) (by have := congrArg List.length hg1; simp at this; simp; omega) ?_
   refine evd [] [] ?_
   refine Walk.store ty49 .none rfl rfl rfl rfl rfl rfl (by simp) rfl ?_
   refine dr ?_
   refine ar ?_
   refine Exists.intro ((pre ++ [y], rest)) ⟨(by have hz := hg1; rw [← hz]; simp), (by simp), Sub.x (by kernel_rfl) (by kernel_rfl) ⟨⟨_, rfl, (LeA.eqi (by first | rfl | (simp; done) | (simp_all; done) | omega))⟩, trivial⟩ (by kernel_rfl) (by kernel_rfl) ⟨(by first | rfl | (simp [getH]; done)), ⟨beq_nat_eq (by first | rfl | (simp; done) | (simp; omega) | (first | rfl | (simp; done) | (simp_all; done) | omega)), trivial⟩⟩⟩
  ·try simp only [Q, Pat.cs_len] at h1p
   have hrest : rest = [] := by
    rcases rest with _ | ⟨a, b⟩
    ·rfl
    ·exfalso; have hz := congrArg List.length (hg1); simp only [List.length_append, List.length_cons, List.length_map] at hz; omega
   subst hrest
   refine Walk.store ty51 .none rfl rfl rfl rfl rfl rfl (by simp) rfl ?_
   refine tv ?_
   refine rn0 (.cons (.cellA ty51 rfl rfl rfl) .nil) (.agg (.cons (.eqd ?_) (.cons (.eqd ?_) (.cons (.eqd ?_) (.cons (.eqd ?_) (.cons (.eqd ?_) (.cons (.gld ?_) .nil)))))))
   all_goals (first | rfl | (rw [List.append_nil] at hg1; rw [← hg1, Pat.cs_cd]; done))
theorem impl_ownPatterns_fn {l : List Pat} (h : l.length ≤ 1000000000000) (hok : ∀ p ∈ l, p.ok) : FnD Tryz.prog 194 [.d (encPats l)] [] (.d (encPats l)) [] := by
 refine bd Tryz.f194 19 [3] [] fun w0 F0 own kept hk => ?_
 refine Walk.assignNil 1 6 .none rfl rfl ?_
 refine tv ?_
 refine CWp.loopX (ι := List (Pat) × List (Pat)) hk (fun x => [(8, .d (.i (x.1.length : Int))), (3, .gl 1 (x.1.map Pat.cc))]) [5, 9, 10, 11, 12, 13, 14, 15, 16, 17] (fun x => [(1, some (.tok ((x.1.map Pat.cc)).length 6))]) (fun x => x.1 ++ x.2 = l) (fun x => x.2.length) ([], l) (by simp) ⟨⟨_, rfl, (LeA.eqi (by first | rfl | (simp; done) | (simp_all; done) | omega))⟩, ⟨⟨_, rfl, (LeA.glg (by first | rfl | (simp; done) | (simp_all; done) | omega))⟩, trivial⟩⟩ ⟨beq_nat_eq (by first | rfl | (simp; done) | (simp; omega) | (first | rfl | (simp; done) | (simp_all; done) | omega)), trivial⟩ (fun x => rfl) (fun x hg1 => ?_)
 obtain ⟨pre, rest⟩ := x
 dsimp only at hg1 ⊢
 refine evc [3] [] ?_
 refine sq (fun h1 h1p h1s => ?_) fun h1 h1p h1s => ?_
 ·try simp only [Q, Pat.cs_len] at h1p
  rcases rest with _ | ⟨y, rest⟩
  ·exfalso; simp_all
  refine Walk.idx sl49 .none rfl rfl rfl rfl (Pat.cs_at' hg1) rfl ?_
  refine evs [3] [] ?_
  refine Walk.alloc (id := 3005) tz51 rfl .none rfl rfl rfl rfl ?_
  refine Walk.store ty51 .none rfl rfl rfl rfl rfl rfl (by simp) rfl ?_
  refine tv ?_
  refine Walk.call (cr := []) cal203 (impl_ownPattern_fn _ (Nat.le_refl _) (hok y (by rw [← hg1]; simp))) rfl .none rfl rfl (LeL.refl _) trivial rfl rfl rfl ?_
  refine Walk.sliceLit sl49 tz51 rfl (by decide) (ks := [0]) (xs := [_]) rfl rfl (by decide) (by decide) .none rfl rfl rfl rfl ?_
  refine Walk.append sl49 zz51 rfl .none rfl rfl rfl rfl (htokL rfl (by first | rfl | (simp; done) | (simp; omega))) (by intro x hx; simp at hx; subst hx; rfl) (by have := congrArg List.length hg1; simp at this; simp; omega) (by have := congrArg List.length hg1; simp at this; simp; omega) ?_
  refine asg ?_
  refine tv ?_
  refine ar ?_
  refine Exists.intro ((pre ++ [y], rest)) ⟨(by have hz := hg1; rw [← hz]; simp), (by simp), Sub.x (by kernel_rfl) (by kernel_rfl) ⟨⟨_, rfl, (LeA.eqi (by first | rfl | (simp; done) | (simp_all; done) | omega))⟩, ⟨⟨_, rfl, (LeA.glg (by first | rfl | (simp; done) | (simp_all; done) | omega))⟩, trivial⟩⟩ (by kernel_rfl) (by kernel_rfl) ⟨beq_nat_eq (by first | rfl | (simp; done) | (simp; omega) | (first | rfl | (simp; done) | (simp_all; done) | omega)), trivial⟩⟩
 ·try simp only [Q, Pat.cs_len] at h1p
  have hrest : rest = [] := by
   rcases rest with _ | ⟨a, b⟩
   ·rfl
   ·exfalso; have hz := congrArg List.length (hg1); simp only [List.length_append, List.length_cons, List.length_map] at hz; omega
  subst hrest
  refine rn0 (r1 rfl) (.gld ?_)
  all_goals (first | rfl | (rw [List.append_nil] at hg1; rw [← hg1, Pat.cs_cd]; done))
theorem impl_anyPattern_fn : FnD Tryz.prog 114 [] [] (.agg [.d (.i 1), .d (.i 0), .d (.i 0), .d (.i 0), .d (.i 0), .d (.sl [])]) [] := by
 refine bd Tryz.f114 2 [] [] fun w0 F0 own kept hk => ?_
 refine Walk.alloc (id := 3000) tz51 rfl .none rfl rfl rfl rfl ?_
 refine tv ?_
 refine Walk.build st51 (ks := [0]) (xs := [_]) rfl rfl .none rfl rfl rfl ?_
 refine Walk.store ty51 .none rfl rfl rfl rfl rfl rfl (by simp) rfl ?_
 refine tv ?_
 refine rn0 (.cons (.cellA ty51 rfl rfl rfl) .nil) (.agg (.cons (.eqd ?_) (.cons (.eqd ?_) (.cons (.eqd ?_) (.cons (.eqd ?_) (.cons (.eqd ?_) (.cons (.nild ?_) .nil)))))))
 all_goals (first | rfl | (simp []; done) | (simp_all; done) | (simp_all; omega) | omega)
theorem impl_BarePattern_fn : ∀ (n : Nat) {p : Pat}, p.size ≤ n → p.ok → FnD Tryz.prog 252 [.agg [.d (.i p.op), .d (.i p.ctor), .d (.i p.n), .d (.i p.m), .d (.i p.var), .d (encPats p.kids)]] [] (.agg [.d (.i (bareP p).op), .d (.i (bareP p).ctor), .d (.i (bareP p).n), .d (.i (bareP p).m), .d (.i (bareP p).var), .d (encPats (bareP p).kids)]) []
 | 0, p, h, _ => by rw [Pat.size_eq] at h; omega
 | n + 1, p, h, hok => by
  rw [Pat.size_eq] at h
  rw [Pat.ok_iff] at hok
  have hok1 := hok.1
  by_cases h2 : p.op = 2
  ·rw [bareP_2 h2]
   refine bd Tryz.f252 44 [] [] fun w0 F0 own kept hk => ?_
   refine Walk.box (id := 3001) .none rfl rfl rfl rfl rfl rfl rfl ?_
   refine Walk.alloc (id := 3002) tz51 rfl .none rfl rfl rfl rfl ?_
   refine tv ?_
   refine sq (fun h1 h1p h1s => ?_) fun h1 h1p h1s => ?_
   ·try simp only [Q] at h1p
    refine Walk.call (cr := []) cal114 (impl_anyPattern_fn) rfl .none rfl rfl (LeL.refl _) trivial rfl rfl rfl ?_
    refine Walk.store ty51 .none rfl rfl rfl rfl rfl rfl (by simp) rfl ?_
    refine tv ?_
    refine rn0 (.cons (.cellA ty51 rfl rfl rfl) .nil) (.agg (.cons (.eqd ?_) (.cons (.eqd ?_) (.cons (.eqd ?_) (.cons (.eqd ?_) (.cons (.eqd ?_) (.cons (.eqd ?_) .nil)))))))
    all_goals (rfl)
   ·try simp only [Q] at h1p
    exfalso; omega --stop
  by_cases h6 : p.op = 6 ∧ 0 < p.kids.length
  ·rw [bareP_6 h6.1 h6.2]
   refine bd Tryz.f252 44 [] [] fun w0 F0 own kept hk => ?_
   refine Walk.box (id := 3001) .none rfl rfl rfl rfl rfl rfl rfl ?_
   refine Walk.alloc (id := 3002) tz51 rfl .none rfl rfl rfl rfl ?_
   refine tv ?_
   refine sq (fun h1 h1p h1s => ?_) fun h1 h1p h1s => ?_
   ·try simp only [Q, Pat.cs_len] at h1p
    exfalso; omega --stop
   ·try simp only [Q, Pat.cs_len] at h1p
    refine sq (fun h2 h2p h2s => ?_) fun h2 h2p h2s => ?_
    ·try simp only [Q, Pat.cs_len] at h2p
     refine sq (fun h3 h3p h3s => ?_) fun h3 h3p h3s => ?_
     ·try simp only [Q, Pat.cs_len] at h3p
      refine Walk.idx (i := 0) sl49 .none rfl rfl rfl rfl (pats_at h6.2) rfl ?_
      refine ev ?_
      refine Walk.call (cr := []) cal252 (impl_BarePattern_fn n (p := nth p.kids 0) (by have := Pats.size_mem (nth_mem h6.2); omega) (Pats.ok_mem hok.2 _ (nth_mem h6.2))) rfl .none rfl rfl (LeL.refl _) trivial rfl rfl rfl ?_
      refine Walk.store ty51 .none rfl rfl rfl rfl rfl rfl (by simp) rfl ?_
      refine tv ?_
      refine rn0 (.cons (.cellA ty51 rfl rfl rfl) .nil) (.agg (.cons (.eqd ?_) (.cons (.eqd ?_) (.cons (.eqd ?_) (.cons (.eqd ?_) (.cons (.eqd ?_) (.cons (.eqd ?_) .nil)))))))
      all_goals (rfl)
     ·try simp only [Q, Pat.cs_len] at h3p
      exfalso; first | omega | (simp_all; done) --stop
    ·try simp only [Q, Pat.cs_len] at h2p
     exfalso; omega --stop
  ·rw [bareP_n h2 h6]
   refine bd Tryz.f252 44 [] [] fun w0 F0 own kept hk => ?_
   refine Walk.box (id := 3001) .none rfl rfl rfl rfl rfl rfl rfl ?_
   refine Walk.alloc (id := 3002) tz51 rfl .none rfl rfl rfl rfl ?_
   refine tv ?_
   refine sq (fun h1 h1p h1s => ?_) fun h1 h1p h1s => ?_
   ·try simp only [Q, Pat.cs_len] at h1p
    exfalso; omega --stop
   ·try simp only [Q, Pat.cs_len] at h1p
    refine sq (fun h2 h2p h2s => ?_) fun h2 h2p h2s => ?_
    ·try simp only [Q, Pat.cs_len] at h2p
     refine sq (fun h3 h3p h3s => ?_) fun h3 h3p h3s => ?_
     ·try simp only [Q, Pat.cs_len] at h3p
      exfalso; apply h6; first | omega | (simp_all; done) --stop
     ·try simp only [Q, Pat.cs_len] at h3p
      refine Walk.store ty49 .none rfl rfl rfl rfl rfl rfl (by simp) rfl ?_
      refine tv ?_
      refine CWp.tokB 3001 5 7 6 rfl rfl rfl rfl ?_
      refine CWp.loopX (ι := List (Pat) × List (Pat)) hk (fun x => [(31, .d (.i (x.1.length : Int)))]) [5, 32, 33, 34, 35, 36, 37, 38, 39, 40, 41, 42] (fun x => [(3001, some (.box [.d (.i p.op), .d (.i p.ctor), .d (.i p.n), .d (.i p.m), .d (.i p.var), .gl 7 ((x.1.map bareP).map Pat.cc)])), (7, some (.tok ((x.1.map bareP).map Pat.cc).length 6))]) (fun x => x.1 ++ x.2 = p.kids) (fun x => x.2.length) ([], p.kids) (by simp) ⟨⟨_, rfl, (LeA.eqi (by first | rfl | (simp; done) | (simp_all; done) | omega))⟩, trivial⟩ ⟨(by first | rfl | (simp [getH]; done)), ⟨beq_nat_eq (by first | rfl | (simp; done) | (simp; omega) | (first | rfl | (simp; done) | (simp_all; done) | omega)), trivial⟩⟩ (fun x => rfl) (fun x hg1 => ?_)
      obtain ⟨pre, rest⟩ := x
      dsimp only at hg1 ⊢
      refine evc [] [] ?_
      refine sq (fun h4 h4p h4s => ?_) fun h4 h4p h4s => ?_
      ·try simp only [Q, Pat.cs_len] at h4p
       rcases rest with _ | ⟨y, rest⟩
       ·exfalso; simp_all
       refine Walk.idx sl49 .none rfl rfl rfl rfl (Pat.cs_at' hg1) rfl ?_
       refine ev ?_
       refine Walk.alloc (id := 3005) tz51 rfl .none rfl rfl rfl rfl ?_
       refine Walk.store ty51 .none rfl rfl rfl rfl rfl rfl (by simp) rfl ?_
       refine tv ?_
       refine Walk.call (cr := []) cal252 (impl_BarePattern_fn n (p := y) (by have := Pats.size_mem (l := p.kids) (v := y) (by rw [← hg1]; simp); omega) (Pats.ok_mem hok.2 y (by rw [← hg1]; simp))) rfl .none rfl rfl (LeL.refl _) trivial rfl rfl rfl ?_
       refine Walk.sliceLit sl49 tz51 rfl (by decide) (ks := [0]) (xs := [_]) rfl rfl (by decide) (by decide) .none rfl rfl rfl rfl ?_
       refine Walk.append sl49 zz51 rfl .none rfl rfl rfl rfl (htokL rfl (by first | rfl | (simp; done) | (simp; omega))) (by intro x hx; first | (simp at hx; subst hx; rfl) | exact pat_row _ x hx) (by have := congrArg List.length hg1; simp at this; simp; omega) (by have := congrArg List.length hg1; simp at this; simp; omega) ?_
       refine evd [] [] ?_
       refine Walk.store ty49 .none rfl rfl rfl rfl rfl rfl (by simp) rfl ?_
       refine dr ?_
       refine ar ?_
       refine Exists.intro ((pre ++ [y], rest)) ⟨(by have hz := hg1; rw [← hz]; simp), (by simp), Sub.x (by kernel_rfl) (by kernel_rfl) ⟨⟨_, rfl, (LeA.eqi (by first | rfl | (simp; done) | (simp_all; done) | omega))⟩, trivial⟩ (by kernel_rfl) (by kernel_rfl) ⟨(by first | rfl | (simp [getH]; done)), ⟨beq_nat_eq (by first | rfl | (simp; done) | (simp; omega) | (first | rfl | (simp; done) | (simp_all; done) | omega)), trivial⟩⟩⟩
      ·try simp only [Q, Pat.cs_len] at h4p
       have hrest : rest = [] := by
        rcases rest with _ | ⟨a, b⟩
        ·rfl
        ·exfalso; have hz := congrArg List.length (hg1); simp only [List.length_append, List.length_cons, List.length_map] at hz; omega
       subst hrest
       refine Walk.store ty51 .none rfl rfl rfl rfl rfl rfl (by simp) rfl ?_
       refine tv ?_
       refine rn0 (.cons (.cellA ty51 rfl rfl rfl) .nil) (.agg (.cons (.eqd ?_) (.cons (.eqd ?_) (.cons (.eqd ?_) (.cons (.eqd ?_) (.cons (.eqd ?_) (.cons (.gld ?_) .nil)))))))
       all_goals (first | rfl | (rw [List.append_nil] at hg1; rw [← hg1, Pat.cs_cd]; done) | (rw [List.append_nil] at hg1; subst hg1; rw [← Pat.cs_cd]; all_goals rfl))
    ·try simp only [Q, Pat.cs_len] at h2p
     refine sqF ?_
     refine Walk.store ty49 .none rfl rfl rfl rfl rfl rfl (by simp) rfl ?_
     refine tv ?_
     refine CWp.tokB 3001 5 7 6 rfl rfl rfl rfl ?_
     refine CWp.loopX (ι := List (Pat) × List (Pat)) hk (fun x => [(31, .d (.i (x.1.length : Int)))]) [5, 32, 33, 34, 35, 36, 37, 38, 39, 40, 41, 42] (fun x => [(3001, some (.box [.d (.i p.op), .d (.i p.ctor), .d (.i p.n), .d (.i p.m), .d (.i p.var), .gl 7 ((x.1.map bareP).map Pat.cc)])), (7, some (.tok ((x.1.map bareP).map Pat.cc).length 6))]) (fun x => x.1 ++ x.2 = p.kids) (fun x => x.2.length) ([], p.kids) (by simp) ⟨⟨_, rfl, (LeA.eqi (by first | rfl | (simp; done) | (simp_all; done) | omega))⟩, trivial⟩ ⟨(by first | rfl | (simp [getH]; done)), ⟨beq_nat_eq (by first | rfl | (simp; done) | (simp; omega) | (first | rfl | (simp; done) | (simp_all; done) | omega)), trivial⟩⟩ (fun x => rfl) (fun x hg1 => ?_)
     obtain ⟨pre, rest⟩ := x
     dsimp only at hg1 ⊢
     refine evc [] [] ?_
     refine sq (fun h6 h6p h6s => ?_) fun h6 h6p h6s => ?_
     ·try simp only [Q, Pat.cs_len] at h6p
      rcases rest with _ | ⟨y, rest⟩
      ·exfalso; simp_all
      refine Walk.idx sl49 .none rfl rfl rfl rfl (Pat.cs_at' hg1) rfl ?_
      refine ev ?_
      refine Walk.alloc (id := 3005) tz51 rfl .none rfl rfl rfl rfl ?_
      refine Walk.store ty51 .none rfl rfl rfl rfl rfl rfl (by simp) rfl ?_
      refine tv ?_
      refine Walk.call (cr := []) cal252 (impl_BarePattern_fn n (p := y) (by have := Pats.size_mem (l := p.kids) (v := y) (by rw [← hg1]; simp); omega) (Pats.ok_mem hok.2 y (by rw [← hg1]; simp))) rfl .none rfl rfl (LeL.refl _) trivial rfl rfl rfl ?_
      refine Walk.sliceLit sl49 tz51 rfl (by decide) (ks := [0]) (xs := [_]) rfl rfl (by decide) (by decide) .none rfl rfl rfl rfl ?_
      refine Walk.append sl49 zz51 rfl .none rfl rfl rfl rfl (htokL rfl (by first | rfl | (simp; done) | (simp; omega))) (by intro x hx; first | (simp at hx; subst hx; rfl) | exact pat_row _ x hx) (by have := congrArg List.length hg1; simp at this; simp; omega) (by have := congrArg List.length hg1; simp at this; simp; omega) ?_
      refine evd [] [] ?_
      refine Walk.store ty49 .none rfl rfl rfl rfl rfl rfl (by simp) rfl ?_
      refine dr ?_
      refine ar ?_
      refine Exists.intro ((pre ++ [y], rest)) ⟨(by have hz := hg1; rw [← hz]; simp), (by simp), Sub.x (by kernel_rfl) (by kernel_rfl) ⟨⟨_, rfl, (LeA.eqi (by first | rfl | (simp; done) | (simp_all; done) | omega))⟩, trivial⟩ (by kernel_rfl) (by kernel_rfl) ⟨(by first | rfl | (simp [getH]; done)), ⟨beq_nat_eq (by first | rfl | (simp; done) | (simp; omega) | (first | rfl | (simp; done) | (simp_all; done) | omega)), trivial⟩⟩⟩
     ·try simp only [Q, Pat.cs_len] at h6p
      have hrest : rest = [] := by
       rcases rest with _ | ⟨a, b⟩
       ·rfl
       ·exfalso; have hz := congrArg List.length (hg1); simp only [List.length_append, List.length_cons, List.length_map] at hz; omega
      subst hrest
      refine Walk.store ty51 .none rfl rfl rfl rfl rfl rfl (by simp) rfl ?_
      refine tv ?_
      refine rn0 (.cons (.cellA ty51 rfl rfl rfl) .nil) (.agg (.cons (.eqd ?_) (.cons (.eqd ?_) (.cons (.eqd ?_) (.cons (.eqd ?_) (.cons (.eqd ?_) (.cons (.gld ?_) .nil)))))))
      all_goals (first | rfl | (rw [List.append_nil] at hg1; rw [← hg1, Pat.cs_cd]; done) | (rw [List.append_nil] at hg1; subst hg1; rw [← Pat.cs_cd]; all_goals rfl))
theorem impl_countSplit_fn : ∀ (n : Nat) {p : Pat}, p.size ≤ n → p.ok → FnD Tryz.prog 253 [.agg [.d (.i p.op), .d (.i p.ctor), .d (.i p.n), .d (.i p.m), .d (.i p.var), .d (encPats p.kids)]] [] (.d (.i (cntS p))) []
 | 0, p, h, _ => by rw [Pat.size_eq] at h; omega
 | n + 1, p, h, hok => by
  rw [Pat.size_eq] at h
  rw [Pat.ok_iff] at hok
  have hok1 := hok.1
  have hbd := fun i => cntS_bd (nth p.kids i)
  by_cases h5 : p.op = 5
  ·rw [cntS_eq, if_pos h5]
   refine bd Tryz.f253 31 [] [] fun w0 F0 own kept hk => ?_
   refine Walk.box (id := 3001) .none rfl rfl rfl rfl rfl rfl rfl ?_
   refine ev ?_
   refine sq (fun h1 h1p h1s => ?_) fun h1 h1p h1s => ?_
   ·try simp only [Q, Pat.cs_len] at h1p
    refine CWp.loopX (ι := Nat × Int) hk (fun x => [(12, .d (.i (x.1 : Int))), (3, .d (.i x.2))]) [5, 13, 14, 15, 16, 17, 18, 19, 20, 21, 22, 23, 24, 25, 26, 27, 28, 29] (fun x => []) (fun x => x.1 ≤ p.kids.length ∧ cntO (p.kids.drop x.1) x.2 = cntO p.kids 0 ∧ 0 ≤ x.2 ∧ x.2 ≤ 401) (fun x => p.kids.length - x.1) (0, 0) ⟨by simp, rfl, by simp, by simp⟩ ⟨⟨_, rfl, (LeA.eqi (by first | rfl | (dsimp only; omega) | (simp; done)))⟩, ⟨⟨_, rfl, (LeA.eqi (by first | rfl | (dsimp only; omega) | (simp; done)))⟩, trivial⟩⟩ trivial (fun x => rfl) (fun x hg1 => ?_)
    refine evc [] [] ?_
    refine sq (fun h2 h2p h2s => ?_) fun h2 h2p h2s => ?_
    ·try simp only [Q, Pat.cs_len] at h2p
     refine Walk.idx sl49 .none rfl rfl rfl rfl (pats_at (by omega)) rfl ?_
     refine ev ?_
     refine Walk.alloc (id := 3005) tz51 rfl .none rfl rfl rfl rfl ?_
     refine Walk.store ty51 .none rfl rfl rfl rfl rfl rfl (by simp) rfl ?_
     refine tv ?_
     refine sq (fun h3 h3p h3s => ?_) fun h3 h3p h3s => ?_
     ·try simp only [Q, Pat.cs_len] at h3p
      refine Walk.call (cr := []) cal253 (impl_countSplit_fn n (p := nth p.kids x.1) (by have := Pats.size_mem (nth_mem (l := p.kids) (i := x.1) (by omega)); omega) (Pats.ok_mem hok.2 _ (nth_mem (by omega)))) rfl .none rfl rfl (LeL.refl _) trivial rfl rfl rfl ?_
      refine ev ?_
      refine ar ?_ (by first | (constructor <;> omega) | (have hb := hbd x.1; constructor <;> omega) | (constructor <;> simp [Pat.cs_len] <;> omega))
      refine Walk.minI .none rfl rfl rfl ?_
      refine ev ?_
      refine ar ?_ (by first | (constructor <;> omega) | (have hb := hbd x.1; constructor <;> omega) | (constructor <;> simp [Pat.cs_len] <;> omega))
      refine Exists.intro ((x.1 + 1, cap (x.2 + cntS (nth p.kids x.1)))) ⟨(by
           have hb := hbd x.1
           have hc := cap_bd (x := x.2 + cntS (nth p.kids x.1)) (by omega)
           exact ⟨by dsimp only; omega, by dsimp only; rw [← cntO_next (by omega)]; exact hg1.2.1, hc.1, hc.2⟩), (by dsimp only; omega), Sub.x (by kernel_rfl) (by kernel_rfl) ⟨⟨_, rfl, (LeA.eqi (by first | rfl | (dsimp only; omega) | (simp; done)))⟩, ⟨⟨_, rfl, (LeA.eqi (by first | rfl | (dsimp only; omega) | (simp; done)))⟩, trivial⟩⟩ (by kernel_rfl) (by kernel_rfl) trivial⟩
     ·try simp only [Q, Pat.cs_len] at h3p
      exfalso; omega --stop
    ·try simp only [Q, Pat.cs_len] at h2p
     refine rn0 (r1 rfl) (.eqd ?_)
     all_goals (refine congrArg D.i ?_; rw [← hg1.2.1, List.drop_eq_nil_of_le (by omega)]; rfl)
   ·try simp only [Q, Pat.cs_len] at h1p
    exfalso; omega --stop
  ·rw [cntS_eq, if_neg h5]
   refine bd Tryz.f253 31 [] [] fun w0 F0 own kept hk => ?_
   refine Walk.box (id := 3001) .none rfl rfl rfl rfl rfl rfl rfl ?_
   refine ev ?_
   refine sq (fun h1 h1p h1s => ?_) fun h1 h1p h1s => ?_
   ·try simp only [Q, Pat.cs_len] at h1p
    exfalso; omega --stop
   ·try simp only [Q, Pat.cs_len] at h1p
    refine CWp.loopX (ι := Nat × Int) hk (fun x => [(12, .d (.i (x.1 : Int))), (3, .d (.i x.2))]) [5, 13, 14, 15, 16, 17, 18, 19, 20, 21, 22, 23, 24, 25, 26, 27, 28, 29] (fun x => []) (fun x => x.1 ≤ p.kids.length ∧ cntM (p.kids.drop x.1) x.2 = cntM p.kids 1 ∧ 0 ≤ x.2 ∧ x.2 ≤ 401) (fun x => p.kids.length - x.1) (0, 1) ⟨by simp, rfl, by simp, by simp⟩ ⟨⟨_, rfl, (LeA.eqi (by first | rfl | (dsimp only; omega) | (simp; done)))⟩, ⟨⟨_, rfl, (LeA.eqi (by first | rfl | (dsimp only; omega) | (simp; done)))⟩, trivial⟩⟩ trivial (fun x => rfl) (fun x hg1 => ?_)
    refine evc [] [] ?_
    refine sq (fun h2 h2p h2s => ?_) fun h2 h2p h2s => ?_
    ·try simp only [Q, Pat.cs_len] at h2p
     refine Walk.idx sl49 .none rfl rfl rfl rfl (pats_at (by omega)) rfl ?_
     refine ev ?_
     refine Walk.alloc (id := 3005) tz51 rfl .none rfl rfl rfl rfl ?_
     refine Walk.store ty51 .none rfl rfl rfl rfl rfl rfl (by simp) rfl ?_
     refine tv ?_
     refine sq (fun h3 h3p h3s => ?_) fun h3 h3p h3s => ?_
     ·try simp only [Q, Pat.cs_len] at h3p
      exfalso; omega --stop
     ·try simp only [Q, Pat.cs_len] at h3p
      refine Walk.call (cr := []) cal253 (impl_countSplit_fn n (p := nth p.kids x.1) (by have := Pats.size_mem (nth_mem (l := p.kids) (i := x.1) (by omega)); omega) (Pats.ok_mem hok.2 _ (nth_mem (by omega)))) rfl .none rfl rfl (LeL.refl _) trivial rfl rfl rfl ?_
      refine ev ?_
      refine ar ?_ (by first | (constructor <;> omega) | (have hb := hbd x.1; have h3 := Int.mul_le_mul hg1.2.2.2 hb.2 hb.1 (by omega); have h4 := Int.mul_nonneg hg1.2.2.1 hb.1; constructor <;> omega) | (constructor <;> simp [Pat.cs_len] <;> omega))
      refine Walk.minI .none rfl rfl rfl ?_
      refine ev ?_
      refine ar ?_ (by first | (constructor <;> omega) | (have hb := hbd x.1; have h3 := Int.mul_le_mul hg1.2.2.2 hb.2 hb.1 (by omega); have h4 := Int.mul_nonneg hg1.2.2.1 hb.1; constructor <;> omega) | (constructor <;> simp [Pat.cs_len] <;> omega))
      refine Exists.intro ((x.1 + 1, cap (x.2 * cntS (nth p.kids x.1)))) ⟨(by
           have hb := hbd x.1
           have hc := cap_bd (x := x.2 * cntS (nth p.kids x.1)) (Int.mul_nonneg hg1.2.2.1 hb.1)
           exact ⟨by dsimp only; omega, by dsimp only; rw [← cntM_next (by omega)]; exact hg1.2.1, hc.1, hc.2⟩), (by dsimp only; omega), Sub.x (by kernel_rfl) (by kernel_rfl) ⟨⟨_, rfl, (LeA.eqi (by first | rfl | (dsimp only; omega) | (simp; done)))⟩, ⟨⟨_, rfl, (LeA.eqi (by first | rfl | (dsimp only; omega) | (simp; done)))⟩, trivial⟩⟩ (by kernel_rfl) (by kernel_rfl) trivial⟩
    ·try simp only [Q, Pat.cs_len] at h2p
     refine rn0 (r1 rfl) (.eqd ?_)
     all_goals (refine congrArg D.i ?_; rw [← hg1.2.1, List.drop_eq_nil_of_le (by omega)]; rfl)
theorem slices_Clone_Pat_fn {xs : List Pat} (hs : xs.length ≤ 1000000000000) : FnD Tryz.prog 256 [.d (encPats xs)] [] (.gl 77 (Pat.cs xs)) [(77, some (.tok (Pat.cs xs).length 6))] := by
 refine Fn.body (fn := Tryz.f256) (n := 8) rfl rfl rfl rfl rfl (fun w0 F0 own kept hk => ?_)
 refine CWp.splitNil 0 rfl (fun hx0 => ?_) ?_
 ·
  refine evc [2, 4] [] ?_
  refine asg ?_
  refine tv ?_
  refine Walk.eqNilT sl49 .none rfl rfl ?_
  refine tv ?_
  refine sqT ?_
  refine Walk.assignNil 77 6 .none rfl rfl ?_
  refine tv ?_
  refine rn [(77, some (.tok (Pat.cs xs).length 6))] (r1 rfl) (.glg ?_) ⟨rfl, rfl⟩ (SubH.get ⟨(by first | rfl | (simp [hx0]; rfl) | (simp; rfl)), trivial⟩) (boxOK rfl)
  all_goals (first | rfl | exact hx0.symm | (simp; done))
 ·
  refine evc [2, 4] [] ?_
  refine asg ?_
  refine tv ?_
  refine Walk.eqNilF sl49 .none rfl rfl ?_
  refine tv ?_
  refine sqF ?_
  refine Walk.sliceEmptyG 77 sl49 .none rfl rfl ?_
  refine evs [2, 4] [] ?_
  refine Walk.append sl49 zz51 rfl .none rfl rfl rfl rfl (htokL rfl (by first | rfl | (simp; done) | (simp; omega))) (by intro y hy; rw [Pat.cs_cd] at hy; obtain ⟨z, _, rfl⟩ := List.mem_map.1 hy; rfl) (by simp [Pat.cs_len]; omega) (by simp [Pat.cs_len]; omega) ?_
  refine asg ?_
  refine tv ?_
  refine rn [(77, some (.tok (Pat.cs xs).length 6))] (r1 rfl) (.glg ?_) ⟨rfl, rfl⟩ (SubH.get ⟨(by first | rfl | (simp [hx0]; rfl) | (simp; rfl)), trivial⟩) (boxOK rfl)
  all_goals (first | rfl | exact hx0.symm | (simp; done))
def growQ (C : List Pat) (q : Pat) : List Pat := C.map fun c => .mk q.op q.ctor q.n q.m q.var (q.kids ++ [c])
theorem grow_prodP {ls : List (List Pat)} {C : List Pat} {a b c d e : Int} : ((prodP ls).map (fun l => Pat.mk a b c d e l)).flatMap (growQ C) = (prodP (ls ++ [C])).map (fun l => Pat.mk a b c d e l) := by
 rw [prodP_snoc]
 unfold stepP growQ
 rw [List.flatMap_map, List.map_flatMap]
 congr 1
 funext q
 simp [mk_op, mk_ctor, mk_n, mk_m, mk_var, mk_kids]
def frontQ (p : Pat) (i : Nat) : List Pat := (prodP ((p.kids.take i).map splitP)).map fun l => Pat.mk p.op p.ctor p.n p.m p.var l
theorem frontQ_0 (p : Pat) : frontQ p 0 = [.mk p.op p.ctor p.n p.m p.var []] := by unfold frontQ; simp [prodP]
theorem frontQ_next {p : Pat} {i : Nat} (h : i < p.kids.length) : (frontQ p i).flatMap (growQ (splitP (nth p.kids i))) = frontQ p (i + 1) := by
 unfold frontQ
 rw [grow_prodP, List.take_succ_eq_append_getElem h, List.map_append, ← nth_eq h]; rfl
theorem frontQ_end {p : Pat} {i : Nat} (h5 : p.op ≠ 5) (h : p.kids.length ≤ i) : frontQ p i = splitP p := by
 unfold frontQ; rw [splitP_n h5, List.take_of_length_le h]
theorem frontQ_len {n : Nat} {p : Pat} (h : binP (n + 1) p = true) (h5 : p.op ≠ 5) (i : Nat) : (frontQ p i).length ≤ (splitP p).length := by
 unfold frontQ; rw [List.length_map]; exact split_front h h5 i
theorem frontQ_kids {p : Pat} {i : Nat} {q : Pat} (h : q ∈ frontQ p i) : q.kids.length ≤ p.kids.length := by
 unfold frontQ at h
 obtain ⟨l, hl, rfl⟩ := List.mem_map.1 h
 obtain ⟨q0, hq, r, e, hlr, _⟩ := prodP_mem _ _ _ hl
 rw [List.mem_singleton] at hq
 rw [hq, List.nil_append] at e
 rw [mk_kids, e, hlr]; simp; omega
theorem flatQ_len {α β : Type} {f : α → List β} {k : Nat} (hf : ∀ x, (f x).length ≤ k) : ∀ l : List α, (l.flatMap f).length ≤ l.length * k
 | [] => by simp
 | x :: r => by
  rw [List.flatMap_cons, List.length_append, List.length_cons, Nat.succ_mul]
  have := hf x; have := flatQ_len hf r; omega
theorem impl_split_gl : ∀ (n : Nat) {p : Pat}, binP n p = true → p.ok → (splitP p).length ≤ 40 → FnD Tryz.prog 254 [.agg [.d (.i p.op), .d (.i p.ctor), .d (.i p.n), .d (.i p.m), .d (.i p.var), .d (encPats p.kids)]] [] (.gl 9 (Pat.cs (splitP p))) [(9, some (.tok (Pat.cs (splitP p)).length 6))]
 | 0, p, h, _, _ => by simp [binP] at h
 | n + 1, p, h, hok, hlen => by
  have hok' := (Pat.ok_iff p).1 hok
  have hok1 := hok'.1
  by_cases h5 : p.op = 5
  ·have hl := bin_two h h5
   have e5 := splitP_5 h5 hl
   have l0 := split_kid h (i := 0) (by omega)
   have l1 := split_kid h (i := 1) (by omega)
   have c0 := impl_split_gl n (bin_kid h (i := 0) (by omega)) (Pats.ok_mem hok'.2 _ (nth_mem (by omega))) (by omega)
   have c1 := FnD.glD (impl_split_gl n (bin_kid h (i := 1) (by omega)) (Pats.ok_mem hok'.2 _ (nth_mem (by omega))) (by omega))
   rw [e5]
   refine bd Tryz.f254 70 [] [] fun w0 F0 own kept hk => ?_
   refine Walk.box (id := 3001) .none rfl rfl rfl rfl rfl rfl rfl ?_
   refine ev ?_
   refine sq (fun h1 h1p h1s => ?_) fun h1 h1p h1s => ?_
   ·try simp only [Q, Pat.cs_len] at h1p
    refine Walk.idx (i := 0) sl49 .none rfl rfl rfl rfl (pats_at (by omega)) rfl ?_
    refine evd [] [] ?_
    refine Walk.call (cr := [9]) cal254 (c0) rfl .none rfl rfl (LeL.refl _) trivial rfl rfl rfl ?_
    refine evd [] [] ?_
    refine Walk.idx (i := 1) sl49 .none rfl rfl rfl rfl (pats_at (by omega)) rfl ?_
    refine evd [] [] ?_
    refine Walk.call (cr := []) cal254 (c1) rfl .none rfl rfl (LeL.refl _) trivial rfl rfl rfl ?_
    refine Walk.append sl49 zz51 rfl .none rfl rfl rfl rfl (htokL rfl (by first | rfl | (simp; done) | (simp; omega))) (by intro x hx; exact pat_rows _ x hx) (by simp [Pat.cs_len]; omega) (by simp [Pat.cs_len]; omega) ?_
    refine evd [] [] ?_
    refine dr ?_
    refine rn [(9, some (.tok (Pat.cs (splitP (nth p.kids 0) ++ splitP (nth p.kids 1))).length 6))] (r1 rfl) (.glg ?_) ⟨rfl, rfl⟩ (SubH.get ⟨(by first | rfl | (simp [Pat.cs_cd]; rfl)), trivial⟩) (boxOK rfl)
    all_goals (first | rfl | (simp [Pat.cs_cd]; done))
   ·try simp only [Q, Pat.cs_len] at h1p
    exfalso; omega --stop
  ·have hfl := frontQ_len h h5
   have hfk := fun (i : Nat) (q : Pat) (hq : q ∈ frontQ p i) => frontQ_kids hq
   have hf0 := frontQ_0 p
   have hfe := fun (i : Nat) (hi : p.kids.length ≤ i) => frontQ_end h5 hi
   have hfn := fun (i : Nat) (hi : i < p.kids.length) => frontQ_next hi
   have hcal := fun (i : Nat) (hi : i < p.kids.length) => FnD.glD (impl_split_gl n (bin_kid h hi) (Pats.ok_mem hok'.2 _ (nth_mem hi)) (by have := split_kid h hi; omega))
   have hcl := fun (i : Nat) (hi : i < p.kids.length) => split_kid h hi
   have hgl := fun (C : List Pat) (q : Pat) => show (growQ C q).length ≤ C.length from by unfold growQ; simp
   generalize splitP p = SP at *
   refine bd Tryz.f254 70 [8] [10, 23] fun w0 F0 own kept hk => ?_
   refine Walk.box (id := 3001) .none rfl rfl rfl rfl rfl rfl rfl ?_
   refine evs [8] [] ?_
   refine sq (fun h1 h1p h1s => ?_) fun h1 h1p h1s => ?_
   ·try simp only [Q, Pat.cs_len] at h1p
    exfalso; omega --stop
   ·try simp only [Q, Pat.cs_len] at h1p
    refine Walk.store ty49 .none rfl rfl rfl rfl rfl rfl (by simp) rfl ?_
    refine tv ?_
    refine Walk.sliceLitG 9 sl49 tz51 rfl (by decide) (ks := [0]) (xs := [_]) rfl rfl (by decide) (by decide) .none rfl rfl rfl rfl rfl ?_
    refine evs [8] [] ?_
    refine CWp.loopX (ι := Nat) hk (fun i => [(35, .d (.i (i : Int))), (4, .gl 9 ((frontQ p i).map Pat.cc)), (32, .any)]) [6, 7, 8, 10, 12, 13, 36, 37, 38, 39, 40, 41, 42, 43, 44, 45, 46, 47, 48, 49, 50, 51, 52, 53, 54, 55, 56, 57, 58, 59, 60, 61, 62, 63, 64, 65, 66, 67, 68] (fun i => [(9, some (.tok (((frontQ p i).map Pat.cc)).length 6))]) (fun i => i ≤ p.kids.length) (fun i => p.kids.length - i) 0 (by omega) ⟨⟨_, rfl, (LeA.eqi (by first | rfl | (rw [hf0]; rfl) | (rw [← hfn i (by omega), ← hg2]; done) | omega | (simp; done)))⟩, ⟨⟨_, rfl, (LeA.glg (by first | rfl | (rw [hf0]; rfl) | (rw [← hfn i (by omega), ← hg2]; done) | omega | (simp; done)))⟩, ⟨⟨_, rfl, LeA.any _⟩, trivial⟩⟩⟩ ⟨beq_nat_eq (by first | rfl | (simp; done) | (simp; omega) | (first | rfl | (rw [hf0]; rfl) | (rw [← hfn i (by omega), ← hg2]; done) | omega | (simp; done))), trivial⟩ (fun x => rfl) (fun i hg1 => ?_)
    refine evc [8] [10, 23] ?_
    refine sq (fun h2 h2p h2s => ?_) fun h2 h2p h2s => ?_
    ·try simp only [Q, Pat.cs_len] at h2p
     refine Walk.idx sl49 .none rfl rfl rfl rfl (pats_at (by omega)) rfl ?_
     refine evs [8] [] ?_
     refine Walk.alloc (id := 3006) tz51 rfl .none rfl rfl rfl rfl ?_
     refine Walk.store ty51 .none rfl rfl rfl rfl rfl rfl (by simp) rfl ?_
     refine tv ?_
     refine Walk.call (cr := []) cal254 (hcal i (by omega)) rfl .none rfl rfl (LeL.refl _) trivial rfl rfl rfl ?_
     refine evs [8] [] ?_
     refine CWp.tokDrop 4 9 rfl rfl ?_
     refine evc [8] [] ?_
     refine Walk.assignNil 3 6 .none rfl rfl ?_
     refine tv ?_
     refine CWp.loopX (ι := List (Pat) × List (Pat)) hk (fun x => [(43, .d (.i (x.1.length : Int))), (8, .gl 3 ((x.1.flatMap (growQ (splitP (nth p.kids i)))).map Pat.cc))]) [10, 12, 13, 44, 45, 46, 47, 48, 49, 50, 51, 52, 53, 54, 55, 56, 57, 58, 59, 60, 61, 62, 63, 64, 65, 66] (fun x => [(3, some (.tok (((x.1.flatMap (growQ (splitP (nth p.kids i)))).map Pat.cc)).length 6))]) (fun x => x.1 ++ x.2 = frontQ p i) (fun x => x.2.length) ([], frontQ p i) (by simp) ⟨⟨_, rfl, (LeA.eqi (by first | rfl | (simp; done) | (rw [List.append_nil] at hg3; rw [List.flatMap_append, List.map_append]; simp [growQ, ← hg3]; done)))⟩, ⟨⟨_, rfl, (LeA.glg (by first | rfl | (simp; done) | (rw [List.append_nil] at hg3; rw [List.flatMap_append, List.map_append]; simp [growQ, ← hg3]; done)))⟩, trivial⟩⟩ ⟨beq_nat_eq (by first | rfl | (simp; done) | (simp; omega) | (first | rfl | (simp; done) | (rw [List.append_nil] at hg3; rw [List.flatMap_append, List.map_append]; simp [growQ, ← hg3]; done))), trivial⟩ (fun x => rfl) (fun x hg2 => ?_)
     obtain ⟨pre2, rest2⟩ := x
     dsimp only at hg2 ⊢
     refine evc [8] [10, 23] ?_
     refine sq (fun h3 h3p h3s => ?_) fun h3 h3p h3s => ?_
     ·try simp only [Q, Pat.cs_len] at h3p
      rcases rest2 with _ | ⟨q, rest2⟩
      ·exfalso; simp_all
      have hqk := hfk i q (by rw [← hg2]; simp); have hl2 := congrArg List.length hg2; simp only [List.length_append, List.length_cons] at hl2; have hl2b := hfl i
      refine Walk.idx sl49 .none rfl rfl rfl rfl (zip_at hg2) rfl ?_
      refine evs [8] [] ?_
      refine Walk.alloc (id := 3010) tz51 rfl .none rfl rfl rfl rfl ?_
      refine Walk.store ty51 .none rfl rfl rfl rfl rfl rfl (by simp) rfl ?_
      refine tv ?_
      refine CWp.loopX (ι := List (Pat) × List (Pat)) hk (fun x => [(49, .d (.i (x.1.length : Int))), (8, .gl 3 ((pre2.flatMap (growQ (splitP (nth p.kids i))) ++ growQ x.1 q).map Pat.cc))]) [12, 13, 50, 51, 52, 53, 54, 55, 56, 57, 58, 59, 60, 61, 62, 63, 64, 65] (fun x => [(3, some (.tok (((pre2.flatMap (growQ (splitP (nth p.kids i))) ++ growQ x.1 q).map Pat.cc)).length 6))]) (fun x => x.1 ++ x.2 = splitP (nth p.kids i)) (fun x => x.2.length) ([], splitP (nth p.kids i)) (by simp) ⟨⟨_, rfl, (LeA.eqi (by first | rfl | (simp [growQ]; done) | (simp [growQ]; omega) | (simp [growQ, mk_op, mk_ctor, mk_n, mk_m, mk_var, mk_kids, Pat.cs_cd]; done)))⟩, ⟨⟨_, rfl, (LeA.glg (by first | rfl | (simp [growQ]; done) | (simp [growQ]; omega) | (simp [growQ, mk_op, mk_ctor, mk_n, mk_m, mk_var, mk_kids, Pat.cs_cd]; done)))⟩, trivial⟩⟩ ⟨beq_nat_eq (by first | rfl | (simp; done) | (simp; omega) | (first | rfl | (simp [growQ]; done) | (simp [growQ]; omega) | (simp [growQ, mk_op, mk_ctor, mk_n, mk_m, mk_var, mk_kids, Pat.cs_cd]; done))), trivial⟩ (fun x => rfl) (fun x hg3 => ?_)
      obtain ⟨pre3, rest3⟩ := x
      dsimp only at hg3 ⊢
      refine evc [8] [10, 23] ?_
      refine sq (fun h4 h4p h4s => ?_) fun h4 h4p h4s => ?_
      ·try simp only [Q, Pat.cs_len] at h4p
       rcases rest3 with _ | ⟨y, rest3⟩
       ·exfalso; simp_all
       have hl3 := congrArg List.length hg3; simp only [List.length_append, List.length_cons] at hl3; have hl3b := hcl i (by omega)
       refine Walk.idx sl49 .none rfl rfl rfl rfl (Pat.cs_at' hg3) rfl ?_
       refine evs [8] [] ?_
       refine Walk.alloc (id := 3012) tz51 rfl .none rfl rfl rfl rfl ?_
       refine Walk.store ty51 .none rfl rfl rfl rfl rfl rfl (by simp) rfl ?_
       refine tv ?_
       refine Walk.alloc (id := 3013) tz51 rfl .none rfl rfl rfl rfl ?_
       refine Walk.store ty51 .none rfl rfl rfl rfl rfl rfl (by simp) rfl ?_
       refine tv ?_
       refine Walk.call (cr := [77]) cal256 (slices_Clone_Pat_fn (xs := q.kids) (by omega)) rfl .none rfl rfl (LeL.refl _) trivial rfl rfl rfl ?_
       refine evd [8] [] ?_
       refine Walk.sliceLit sl49 tz51 rfl (by decide) (ks := [0]) (xs := [_]) rfl rfl (by decide) (by decide) .none rfl rfl rfl rfl ?_
       refine Walk.append sl49 zz51 rfl .none rfl rfl rfl rfl (htokL rfl (by first | rfl | (simp; done) | (simp; omega))) (by intro x hx; first | (simp at hx; subst hx; rfl) | exact pat_row _ x hx | exact pat_rows _ x hx) (by first | (simp; omega) | (simp only [Pat.cs_len, List.length_append, List.length_cons, List.length_nil]; omega) | (have h10 := hgl pre3 q; have h8 := congrArg List.length hg2; have h9 := congrArg List.length hg3; have h7 := flatQ_len (hgl (splitP (nth p.kids i))) pre2; have h6 := hfl i; have h5 := hcl i (by omega); simp only [List.length_append, List.length_cons, List.length_map, List.length_nil] at *; have h4 : pre2.length * (splitP (nth p.kids i)).length ≤ 40 * 40 := Nat.mul_le_mul (by omega) (by omega); omega)) (by first | (simp; omega) | (simp only [Pat.cs_len, List.length_append, List.length_cons, List.length_nil]; omega) | (have h10 := hgl pre3 q; have h8 := congrArg List.length hg2; have h9 := congrArg List.length hg3; have h7 := flatQ_len (hgl (splitP (nth p.kids i))) pre2; have h6 := hfl i; have h5 := hcl i (by omega); simp only [List.length_append, List.length_cons, List.length_map, List.length_nil] at *; have h4 : pre2.length * (splitP (nth p.kids i)).length ≤ 40 * 40 := Nat.mul_le_mul (by omega) (by omega); omega)) ?_
       refine evd [8] [] ?_
       refine Walk.store ty49 .none rfl rfl rfl rfl rfl rfl (by simp) rfl ?_
       refine dr ?_
       refine Walk.sliceLit sl49 tz51 rfl (by decide) (ks := [0]) (xs := [_]) rfl rfl (by decide) (by decide) .none rfl rfl rfl rfl ?_
       refine Walk.append sl49 zz51 rfl .none rfl rfl rfl rfl (htokL rfl (by first | rfl | (simp; done) | (simp; omega))) (by intro x hx; first | (simp at hx; subst hx; rfl) | exact pat_row _ x hx | exact pat_rows _ x hx) (by first | (simp; omega) | (simp only [Pat.cs_len, List.length_append, List.length_cons, List.length_nil]; omega) | (have h10 := hgl pre3 q; have h8 := congrArg List.length hg2; have h9 := congrArg List.length hg3; have h7 := flatQ_len (hgl (splitP (nth p.kids i))) pre2; have h6 := hfl i; have h5 := hcl i (by omega); simp only [List.length_append, List.length_cons, List.length_map, List.length_nil] at *; have h4 : pre2.length * (splitP (nth p.kids i)).length ≤ 40 * 40 := Nat.mul_le_mul (by omega) (by omega); omega)) (by first | (simp; omega) | (simp only [Pat.cs_len, List.length_append, List.length_cons, List.length_nil]; omega) | (have h10 := hgl pre3 q; have h8 := congrArg List.length hg2; have h9 := congrArg List.length hg3; have h7 := flatQ_len (hgl (splitP (nth p.kids i))) pre2; have h6 := hfl i; have h5 := hcl i (by omega); simp only [List.length_append, List.length_cons, List.length_map, List.length_nil] at *; have h4 : pre2.length * (splitP (nth p.kids i)).length ≤ 40 * 40 := Nat.mul_le_mul (by omega) (by omega); omega)) ?_
       refine asg ?_
       refine tv ?_
       refine ar ?_
       refine Exists.intro ((pre3 ++ [y], rest3)) ⟨(by have hz := hg3; rw [← hz]; simp), (by simp), Sub.x (by kernel_rfl) (by kernel_rfl) ⟨⟨_, rfl, (LeA.eqi (by first | rfl | (simp [growQ]; done) | (simp [growQ]; omega) | (simp [growQ, mk_op, mk_ctor, mk_n, mk_m, mk_var, mk_kids, Pat.cs_cd]; done)))⟩, ⟨⟨_, rfl, (LeA.glg (by first | rfl | (simp [growQ]; done) | (simp [growQ]; omega) | (simp [growQ, mk_op, mk_ctor, mk_n, mk_m, mk_var, mk_kids, Pat.cs_cd]; done)))⟩, trivial⟩⟩ (by kernel_rfl) (by kernel_rfl) ⟨beq_nat_eq (by first | rfl | (simp; done) | (simp; omega) | (first | rfl | (simp [growQ]; done) | (simp [growQ]; omega) | (simp [growQ, mk_op, mk_ctor, mk_n, mk_m, mk_var, mk_kids, Pat.cs_cd]; done))), trivial⟩⟩
      ·try simp only [Q, Pat.cs_len] at h4p
       have hrest3 : rest3 = [] := by
        rcases rest3 with _ | ⟨a, b⟩
        ·rfl
        ·exfalso; have hz := congrArg List.length (hg3); simp only [List.length_append, List.length_cons, List.length_map] at hz; omega
       subst hrest3
       refine ar ?_
       refine Exists.intro ((pre2 ++ [q], rest2)) ⟨(by have hz := hg2; rw [← hz]; simp), (by simp), Sub.x (by kernel_rfl) (by kernel_rfl) ⟨⟨_, rfl, (LeA.eqi (by first | rfl | (simp; done) | (rw [List.append_nil] at hg3; rw [List.flatMap_append, List.map_append]; simp [growQ, ← hg3]; done)))⟩, ⟨⟨_, rfl, (LeA.glg (by first | rfl | (simp; done) | (rw [List.append_nil] at hg3; rw [List.flatMap_append, List.map_append]; simp [growQ, ← hg3]; done)))⟩, trivial⟩⟩ (by kernel_rfl) (by kernel_rfl) ⟨beq_nat_eq (by first | rfl | (simp; done) | (simp; omega) | (first | rfl | (simp; done) | (rw [List.append_nil] at hg3; rw [List.flatMap_append, List.map_append]; simp [growQ, ← hg3]; done))), trivial⟩⟩
     ·try simp only [Q, Pat.cs_len] at h3p
      have hrest2 : rest2 = [] := by
       rcases rest2 with _ | ⟨a, b⟩
       ·rfl
       ·exfalso; have hz := congrArg List.length (hg2); simp only [List.length_append, List.length_cons, List.length_map] at hz; omega
      subst hrest2
      refine CWp.tokRen 4 3 9 rfl rfl (by kernel_rfl) ?_
      refine evc [8] [] ?_
      refine ar ?_
      rw [List.append_nil] at hg2
      refine Exists.intro (i + 1) ⟨(by omega), (by omega), Sub.x (by kernel_rfl) (by kernel_rfl) ⟨⟨_, rfl, (LeA.eqi (by first | rfl | (rw [hf0]; rfl) | (rw [← hfn i (by omega), ← hg2]; done) | omega | (simp; done)))⟩, ⟨⟨_, rfl, (LeA.glg (by first | rfl | (rw [hf0]; rfl) | (rw [← hfn i (by omega), ← hg2]; done) | omega | (simp; done)))⟩, ⟨⟨_, rfl, LeA.any _⟩, trivial⟩⟩⟩ (by kernel_rfl) (by kernel_rfl) ⟨beq_nat_eq (by first | rfl | (simp; done) | (simp; omega) | (first | rfl | (rw [hf0]; rfl) | (rw [← hfn i (by omega), ← hg2]; done) | omega | (simp; done))), trivial⟩⟩
    ·try simp only [Q, Pat.cs_len] at h2p
     refine rn [(9, some (.tok (Pat.cs SP).length 6))] (r1 rfl) (.glg ?_) ⟨rfl, rfl⟩ (SubH.get ⟨(by (rw [← hfe i (by omega), show Pat.cs (frontQ p i) = (frontQ p i).map Pat.cc from Pat.cs_cd _]; all_goals rfl)), trivial⟩) (boxOK rfl)
     all_goals ((rw [← hfe i (by omega), show Pat.cs (frontQ p i) = (frontQ p i).map Pat.cc from Pat.cs_cd _]; all_goals rfl))
def partsQ (p : Pat) : List Pat := if (splitP (bareP p)).length ≤ 40 then splitP (bareP p) else []
def partsOk (p : Pat) : Bool := decide ((splitP (bareP p)).length ≤ 40)
theorem impl_parts_fn {w : List Data} {n : Nat} {t : Ty} {p : Pat} (h : shapeP w n t p = true) (hok : p.ok) : FnD Tryz.prog 189 [.agg [.d (.i p.op), .d (.i p.ctor), .d (.i p.n), .d (.i p.m), .d (.i p.var), .d (encPats p.kids)]] [] (.tup [.d (encPats (partsQ p)), .d (.bool (partsOk p))]) [] := by
 have hb := shape_bin n h
 have hbo := bare_ok p hok
 have hce := (cnt_eq n hb).1
 have hbp := impl_BarePattern_fn _ (Nat.le_refl _) hok
 have hcs := impl_countSplit_fn _ (Nat.le_refl _) hbo
 have hsp := fun h40 => FnD.glD (impl_split_gl n hb hbo h40)
 rw [hce] at hcs
 unfold partsQ partsOk
 generalize bareP p = b at *
 by_cases h40 : (splitP b).length ≤ 40
 ·rw [if_pos h40, decide_eq_true h40]
  have hc40 : cap ((splitP b).length : Int) ≤ 40 := by unfold cap; split <;> omega
  refine bd Tryz.f189 12 [] [] fun w0 F0 own kept hk => ?_
  refine Walk.box (id := 3001) .none rfl rfl rfl rfl rfl rfl rfl ?_
  refine ev ?_
  refine Walk.call (cr := []) cal252 (hbp) rfl .none rfl rfl (LeL.refl _) trivial rfl rfl rfl ?_
  refine Walk.alloc (id := 3004) tz51 rfl .none rfl rfl rfl rfl ?_
  refine Walk.store ty51 .none rfl rfl rfl rfl rfl rfl (by simp) rfl ?_
  refine tv ?_
  refine Walk.call (cr := []) cal253 (hcs) rfl .none rfl rfl (LeL.refl _) trivial rfl rfl rfl ?_
  refine ev ?_
  refine sq (fun h1 h1p h1s => ?_) fun h1 h1p h1s => ?_
  ·try simp only [Q] at h1p
   exfalso; omega --stop
  ·try simp only [Q] at h1p
   refine Walk.call (cr := []) cal254 (hsp h40) rfl .none rfl rfl (LeL.refl _) trivial rfl rfl rfl ?_
   refine ev ?_
   refine rn0 (r2 rfl rfl) (.tup (.cons (.eqd ?_) (.cons (.eqd ?_) .nil)))
   all_goals (rfl)
 ·rw [if_neg h40, decide_eq_false h40]
  have hc40 : ¬ cap ((splitP b).length : Int) ≤ 40 := by unfold cap; split <;> omega
  refine bd Tryz.f189 12 [] [] fun w0 F0 own kept hk => ?_
  refine Walk.box (id := 3001) .none rfl rfl rfl rfl rfl rfl rfl ?_
  refine ev ?_
  refine Walk.call (cr := []) cal252 (hbp) rfl .none rfl rfl (LeL.refl _) trivial rfl rfl rfl ?_
  refine Walk.alloc (id := 3004) tz51 rfl .none rfl rfl rfl rfl ?_
  refine Walk.store ty51 .none rfl rfl rfl rfl rfl rfl (by simp) rfl ?_
  refine tv ?_
  refine Walk.call (cr := []) cal253 (hcs) rfl .none rfl rfl (LeL.refl _) trivial rfl rfl rfl ?_
  refine ev ?_
  refine sq (fun h1 h1p h1s => ?_) fun h1 h1p h1s => ?_
  ·try simp only [Q] at h1p
   refine rn0 (r2 rfl rfl) (.tup (.cons (.nild ?_) (.cons (.eqd ?_) .nil)))
   all_goals (rfl)
  ·try simp only [Q] at h1p
   exfalso; omega --stop
structure Spa (w : List Data) : Prop where
 dp : Dp w
 ctors : ∀ t, InS (w.length * 4) t → (vctors w t).length ≤ 4 ∧ (vctors w t).Nodup
 args : ∀ t c, InS (w.length * 4) t → c ∈ vctors w t → (argsOf w t c).length ≤ 3
theorem ctorsFrom_up (k : Int) : ∀ (l : List Ctor) (i : Nat), (ctorsFrom k i l).Pairwise (· < ·)
 | [], _ => by simp [ctorsFrom]
 | x :: r, i => by
  unfold ctorsFrom
  have ih := ctorsFrom_up k r (i + 1)
  split
  ·refine List.pairwise_cons.2 ⟨fun y hy => ?_, ih⟩
   obtain ⟨j, rfl, h1, _⟩ := ctorsFrom_mem k r (i + 1) y hy
   omega
  ·exact ih
theorem valid_sp {w : List Data} (hs : WSmall w) (hv : worldValid w = true) : Spa w := by
 have hd := valid_dp hs hv
 have hW := (worldValid_iff w).1 hv
 refine ⟨hd, fun t ht => ?_, fun t c ht hc => ?_⟩
 ·unfold vctors
  split
  ·simp
  ·rename_i he
   refine ⟨?_, (ctorsFrom_up _ _ _).imp (fun h => by omega)⟩
   rcases ht with h | ⟨h1, h2⟩
   ·exact absurd h he
   ·have := hd.ct _ h1; rw [h2] at this; exact this
 ·have hti := ins_tyin ht
  obtain ⟨d, h1, h2, j, h3, h4⟩ := vctors_data (a := t.data) (k := t.index) hti hc
  have hco := hW.ctor _ (nth_mem h2) _ (nth_mem h4)
  simp only [ctorOk, Bool.and_eq_true, decide_eq_true_eq] at hco
  unfold argsOf
  rw [h1, h3]
  simp only [Int.toNat_natCast, List.length_map]
  omega
abbrev intQ (n m : Int) : Pat := .mk 3 0 n m 0 []
abbrev ctorQ (c : Int) (l : List Pat) : Pat := .mk 4 c 0 0 0 l
def wholeQ (w : List Data) (t : Ty) (c : Int) : Pat := ctorQ c ((argsOf w t c).map fun _ => anyQ)
def lowQ (p : Pat) : Int := if p.op = 1 then 0 else p.n
def highQ (p : Pat) : Int := if p.op = 1 then 9 else p.m
def minQ (a b : Int) : Int := if b < a then b else a
def maxQ (a b : Int) : Int := if a < b then b else a
def rangeQ (n m : Int) : List Pat := if n ≤ m then [intQ n m] else []
def meetL (f : Pat → Pat → Option Pat) : List Pat → List Pat → List Pat → Option (List Pat)
 | p :: r, q :: s, acc => match f p q with
  | none => none
  | some x => meetL f r s (acc ++ [x])
 | _, _, acc => some acc
def meetQ : Nat → Pat → Pat → Option Pat
 | 0, _, _ => none
 | n + 1, a, b => if a.op = 1 then some b else if b.op = 1 then some a else if a.op = 3 then (if maxQ a.n b.n ≤ minQ a.m b.m then some (intQ (maxQ a.n b.n) (minQ a.m b.m)) else none)
  else if a.ctor = b.ctor then (meetL (meetQ n) a.kids b.kids []).map (ctorQ a.ctor) else none
def minusK (f : Ty → Pat → Pat → List Pat) (c : Int) : List Ty → List Pat → List Pat → List Pat → List Pat
 | u :: r, x :: s, y :: q, front => (f u x y).map (fun z => ctorQ c (front ++ [z] ++ s)) ++ (match meetQ 11 x y with
  | none => []
  | some both => minusK f c r s q (front ++ [both]))
 | _, _, _, _ => []
def minusC (f : Ty → Pat → Pat → List Pat) (w : List Data) (t : Ty) (a b : Pat) : List Pat := if a.ctor = b.ctor then minusK f a.ctor (argsOf w t a.ctor) a.kids b.kids [] else [a]
def minusI (a b : Pat) : List Pat := rangeQ (lowQ a) (minQ (highQ a) (b.n - 1)) ++ rangeQ (maxQ (lowQ a) (b.m + 1)) (highQ a)
def minusQ (w : List Data) : Nat → Ty → Pat → Pat → List Pat
 | 0, _, _, _ => []
 | n + 1, t, a, b => if b.op = 1 then [] else if b.op = 3 then minusI a b else if a.op = 1 then (vctors w t).flatMap fun c => minusC (minusQ w n) w t (wholeQ w t c) b else minusC (minusQ w n) w t a b
section
variable {w : List Data} {n : Nat} {t : Ty} {a b : Pat}
theorem minus_1 (h : b.op = 1) : minusQ w (n + 1) t a b = [] := by unfold minusQ; rw [if_pos h]
theorem minus_3 (h : b.op = 3) : minusQ w (n + 1) t a b = minusI a b := by unfold minusQ; rw [if_neg (by omega), if_pos h]
theorem minus_a (h : b.op = 4) (h2 : a.op = 1) : minusQ w (n + 1) t a b = (vctors w t).flatMap fun c => minusC (minusQ w n) w t (wholeQ w t c) b := by
 conv => lhs; unfold minusQ
 rw [if_neg (by omega), if_neg (by omega), if_pos h2]
theorem minus_c (h : b.op = 4) (h2 : a.op = 4) : minusQ w (n + 1) t a b = minusC (minusQ w n) w t a b := by
 conv => lhs; unfold minusQ
 rw [if_neg (by omega), if_neg (by omega), if_neg (by omega)]
theorem meet_1 (h : a.op = 1) : meetQ (n + 1) a b = some b := by unfold meetQ; rw [if_pos h]
theorem meet_2 (h : a.op ≠ 1) (h2 : b.op = 1) : meetQ (n + 1) a b = some a := by unfold meetQ; rw [if_neg h, if_pos h2]
theorem meet_3 (h : a.op = 3) (h2 : b.op ≠ 1) : meetQ (n + 1) a b = if maxQ a.n b.n ≤ minQ a.m b.m then some (intQ (maxQ a.n b.n) (minQ a.m b.m)) else none := by
 conv => lhs; unfold meetQ
 rw [if_neg (by omega), if_neg h2, if_pos h]
theorem meet_4 (h : a.op = 4) (h2 : b.op ≠ 1) (hc : a.ctor = b.ctor) : meetQ (n + 1) a b = (meetL (meetQ n) a.kids b.kids []).map (ctorQ a.ctor) := by
 conv => lhs; unfold meetQ
 rw [if_neg (by omega), if_neg h2, if_neg (by omega), if_pos hc]
theorem meet_4n (h : a.op = 4) (h2 : b.op ≠ 1) (hc : ¬ a.ctor = b.ctor) : meetQ (n + 1) a b = none := by
 conv => lhs; unfold meetQ
 rw [if_neg (by omega), if_neg h2, if_neg (by omega), if_neg hc]
end
theorem part_int {w : List Data} {n : Nat} {t : Ty} {p : Pat} (h : partP w n t p = true) (h3 : p.op = 3) : t.data = -1 ∧ 0 ≤ p.n ∧ p.n ≤ p.m ∧ p.m ≤ 9 := by
 have ho := (part_own h).1
 unfold ownP at ho
 have := (of_decide_eq_true ho).2.2.2.2
 omega
theorem part_ctor {w : List Data} {n : Nat} {t : Ty} {p : Pat} (h : partP w n t p = true) (h4 : p.op = 4) : p.ctor ∈ vctors w t ∧ t.data ≠ -1 ∧ p.kids.length = (argsOf w t p.ctor).length ∧ p = ctorQ p.ctor p.kids := by
 obtain ⟨ho, hl⟩ := part_own h
 have hm := ownP_mem ho h4
 refine ⟨hm, fun e => by unfold vctors at hm; rw [if_pos e] at hm; simp at hm, by rw [types4 h4] at hl; exact hl, ?_⟩
 unfold ownP at ho
 have hh := of_decide_eq_true ho
 have h1 := hh.2.1 (by omega)
 have h2 := hh.2.2.1 (by omega)
 obtain ⟨op, c, m, k, v, ks⟩ := p
 change op = 4 at h4
 change v = 0 at h1
 change m = 0 ∧ k = 0 at h2
 rw [h4, h1, h2.1, h2.2]; rfl
theorem intQ_part {w : List Data} {n : Nat} {t : Ty} {a b : Int} (ht : t.data = -1) (h0 : 0 ≤ a) (h1 : a ≤ b) (h2 : b ≤ 9) : partP w (n + 1) t (intQ a b) = true := by
 unfold partP
 have e : typesP w t (intQ a b) = [] := rfl
 rw [e]
 have ho : ownP w t (intQ a b) = true := by
  unfold ownP
  refine decide_eq_true ⟨fun h => ?_, fun _ => rfl, fun h => absurd rfl h, fun _ => rfl, .inr (.inr (.inr (.inr (.inl ⟨rfl, ht, h0, h1, h2⟩))))⟩
  exfalso; change (3 : Int) = 2 ∨ (3 : Int) = 6 at h; omega
 rw [ho]; rfl
theorem ctorQ_part {w : List Data} {n : Nat} {t : Ty} {c : Int} {l : List Pat} (hc : c ∈ vctors w t) (hl : l.length = (argsOf w t c).length) (hk : ∀ i, i < l.length → partP w n (nth (argsOf w t c) i) (nth l i) = true) : partP w (n + 1) t (ctorQ c l) = true := by
 unfold partP
 have e : typesP w t (ctorQ c l) = argsOf w t c := types4 rfl
 have ho : ownP w t (ctorQ c l) = true := by
  unfold ownP
  refine decide_eq_true ⟨fun h => ?_, fun _ => rfl, fun _ => ⟨rfl, rfl⟩, fun h => absurd rfl h, .inr (.inr (.inr (.inr (.inr ⟨rfl, hc⟩))))⟩
  exfalso; change (4 : Int) = 2 ∨ (4 : Int) = 6 at h; omega
 rw [ho, e, mk_kids]
 exact all2_nth_true hl.symm (fun i hi => hk i (by omega))
theorem part_le {w : List Data} {n m : Nat} (h : n ≤ m) {t : Ty} {p : Pat} (hp : partP w n t p = true) : partP w m t p = true := by
 induction h with
 | refl => exact hp
 | step _ ih => exact part_mono _ ih
theorem wholeQ_part {w : List Data} {n : Nat} {t : Ty} {c : Int} (hc : c ∈ vctors w t) : partP w (n + 2) t (wholeQ w t c) = true := by
 unfold wholeQ
 refine ctorQ_part hc (by simp) (fun i hi => ?_)
 have e : nth ((argsOf w t c).map fun _ => anyQ) i = anyQ := by
  rw [nth_eq hi]; simp
 rw [e]; exact anyQ_part
theorem meetL_none {f : Pat → Pat → Option Pat} {a b : List Pat} {i : Nat} {acc : List Pat} (h1 : i < a.length) (h2 : i < b.length) (h : f (nth a i) (nth b i) = none) : meetL f (a.drop i) (b.drop i) acc = none := by
 rw [drop_nth h1, drop_nth h2, meetL, h]
theorem meetL_some {f : Pat → Pat → Option Pat} {a b : List Pat} {i : Nat} {acc : List Pat} {x : Pat} (h1 : i < a.length) (h2 : i < b.length) (h : f (nth a i) (nth b i) = some x) : meetL f (a.drop i) (b.drop i) acc = meetL f (a.drop (i + 1)) (b.drop (i + 1)) (acc ++ [x]) := by
 rw [drop_nth h1, drop_nth h2, meetL, h]
theorem meetL_end {f : Pat → Pat → Option Pat} {a b : List Pat} {i : Nat} {acc : List Pat} (h1 : a.length ≤ i) : meetL f (a.drop i) (b.drop i) acc = some acc := by
 rw [List.drop_eq_nil_of_le h1]; cases b.drop i <;> rfl
theorem meetL_spec {f : Pat → Pat → Option Pat} : ∀ {a b acc l : List Pat}, a.length = b.length → meetL f a b acc = some l → ∃ r, l = acc ++ r ∧ r.length = a.length ∧ ∀ i, i < a.length → f (nth a i) (nth b i) = some (nth r i)
 | [], [], acc, l, _, h => by
  simp only [meetL, Option.some.injEq] at h
  exact ⟨[], by simp [h], rfl, fun i hi => by simp at hi⟩
 | p :: r, q :: s, acc, l, hl, h => by
  unfold meetL at h
  cases hf : f p q with
  | none => rw [hf] at h; cases h
  | some x =>
   rw [hf] at h
   obtain ⟨z, e, hz, hm⟩ := meetL_spec (a := r) (b := s) (by simpa using hl) h
   refine ⟨x :: z, by rw [e]; simp, by simp [hz], fun i hi => ?_⟩
   cases i with
   | zero => exact hf
   | succ i => exact hm i (by simpa using hi)
 | [], _ :: _, _, _, hl, _ => by simp at hl
 | _ :: _, [], _, _, hl, _ => by simp at hl
theorem same_op {w : List Data} {n m : Nat} {t : Ty} {a b : Pat} (ha : partP w n t a = true) (hb : partP w m t b = true) (h1 : a.op ≠ 1) (h2 : b.op ≠ 1) : a.op = b.op := by
 have oa := part_op ha
 have ob := part_op hb
 rcases oa with h | h | h
 ·exact absurd h h1
 ·rcases ob with h' | h' | h'
  ·exact absurd h' h2
  ·omega
  ·exact absurd (part_int ha h).1 (part_ctor hb h').2.1
 ·rcases ob with h' | h' | h'
  ·exact absurd h' h2
  ·exact absurd (part_int hb h').1 (part_ctor ha h).2.1
  ·omega
theorem minQ_le (a b : Int) : minQ a b ≤ a ∧ minQ a b ≤ b := by unfold minQ; split <;> omega
theorem maxQ_ge (a b : Int) : a ≤ maxQ a b ∧ b ≤ maxQ a b := by unfold maxQ; split <;> omega
theorem minQ_or (a b : Int) : minQ a b = a ∨ minQ a b = b := by unfold minQ; split <;> omega
theorem maxQ_or (a b : Int) : maxQ a b = a ∨ maxQ a b = b := by unfold maxQ; split <;> omega
theorem meet_part {w : List Data} : ∀ (n m : Nat) {t : Ty} {a b x : Pat}, partP w m t a = true → partP w m t b = true → meetQ n a b = some x → partP w m t x = true
 | 0, m, t, a, b, x, _, _, h => by simp [meetQ] at h
 | n + 1, 0, t, a, b, x, ha, _, _ => by simp [partP] at ha
 | n + 1, m + 1, t, a, b, x, ha, hb, h => by
  by_cases h1 : a.op = 1
  ·rw [meet_1 h1] at h; cases h; exact hb
  by_cases h2 : b.op = 1
  ·rw [meet_2 h1 h2] at h; cases h; exact ha
  have hs := same_op ha hb h1 h2
  have oa := part_op ha
  by_cases h3 : a.op = 3
  ·rw [meet_3 h3 h2] at h
   split at h
   ·cases h
    have ia := part_int ha h3
    have ib := part_int hb (by omega)
    have q1 := minQ_or a.m b.m
    have q2 := maxQ_or a.n b.n
    refine intQ_part ia.1 (by omega) (by assumption) (by omega)
   ·cases h
  have h4 : a.op = 4 := by omega
  by_cases hc : a.ctor = b.ctor
  ·rw [meet_4 h4 h2 hc] at h
   obtain ⟨m1, m2, m3, m4⟩ := part_ctor ha h4
   obtain ⟨n1, n2, n3, n4⟩ := part_ctor hb (by omega)
   rw [← hc] at n3
   cases hl : meetL (meetQ n) a.kids b.kids [] with
   | none => rw [hl] at h; cases h
   | some l =>
    rw [hl] at h
    simp only [Option.map_some, Option.some.injEq] at h
    subst h
    obtain ⟨r, e, hr, hm⟩ := meetL_spec (by omega) hl
    rw [List.nil_append] at e
    subst e
    refine ctorQ_part m1 (by omega) (fun i hi => ?_)
    have ka := part_kid ha (i := i) (by omega)
    have kb := part_kid hb (i := i) (by omega)
    rw [types4 h4] at ka
    rw [types4 (by omega), ← hc] at kb
    exact meet_part n m ka kb (hm i (by omega))
  ·rw [meet_4n h4 h2 hc] at h; cases h
theorem range_part {w : List Data} {n : Nat} {t : Ty} {a b : Int} (ht : t.data = -1) (h0 : 0 ≤ a) (h2 : b ≤ 9) : ∀ x ∈ rangeQ a b, partP w (n + 1) t x = true := by
 intro x hx
 unfold rangeQ at hx
 split at hx
 ·rename_i h1
  rw [List.mem_singleton] at hx
  rw [hx]; exact intQ_part ht h0 h1 h2
 ·simp at hx
theorem low_high {w : List Data} {n : Nat} {t : Ty} {a : Pat} (ha : partP w n t a = true) (ht : t.data = -1) : 0 ≤ lowQ a ∧ highQ a ≤ 9 ∧ lowQ a ≤ highQ a := by
 have oa := part_op ha
 unfold lowQ highQ
 by_cases h1 : a.op = 1
 ·rw [if_pos h1, if_pos h1]; omega
 ·rw [if_neg h1, if_neg h1]
  by_cases h3 : a.op = 3
  ·have := part_int ha h3; omega
  ·exact absurd ht (part_ctor ha (by omega)).2.1
theorem minusI_len (a b : Pat) : (minusI a b).length ≤ 2 := by
 have h : ∀ x y, (rangeQ x y).length ≤ 1 := fun x y => by unfold rangeQ; split <;> simp
 unfold minusI
 rw [List.length_append]
 have := h (lowQ a) (minQ (highQ a) (b.n - 1)); have := h (maxQ (lowQ a) (b.m + 1)) (highQ a); omega
theorem minusK_part {w : List Data} {f : Ty → Pat → Pat → List Pat} {m : Nat} {t : Ty} {c : Int} (hc : c ∈ vctors w t) (hf : ∀ u x y, partP w m u x = true → partP w m u y = true → ∀ z ∈ f u x y, partP w m u z = true) :
  ∀ (i : Nat) {xs bs front : List Pat}, front.length = i → xs.length + i = (argsOf w t c).length → bs.length = xs.length → (∀ j, j < i → partP w m (nth (argsOf w t c) j) (nth front j) = true) →
   (∀ j, j < xs.length → partP w m (nth (argsOf w t c) (i + j)) (nth xs j) = true ∧ partP w m (nth (argsOf w t c) (i + j)) (nth bs j) = true) →
   ∀ x ∈ minusK f c ((argsOf w t c).drop i) xs bs front, partP w (m + 1) t x = true := by
 intro i xs
 induction xs generalizing i with
 | nil =>
  intro bs front _ _ _ _ _ x hx
  cases hT : (argsOf w t c).drop i <;> (rw [hT] at hx; simp [minusK] at hx)
 | cons a0 s ih =>
  intro bs front hfl hal hbl hfr hab x hx
  cases bs with
  | nil => simp at hbl
  | cons b0 q =>
   have hi : i < (argsOf w t c).length := by simp at hal; omega
   rw [drop_nth hi] at hx
   have h0 := hab 0 (by simp)
   simp only [Nat.add_zero] at h0
   have e0 : nth (a0 :: s) 0 = a0 := rfl
   have e1 : nth (b0 :: q) 0 = b0 := rfl
   rw [e0, e1] at h0
   unfold minusK at hx
   have hpiece : ∀ z, partP w m (nth (argsOf w t c) i) z = true → ∀ j, j < (front ++ [z] ++ s).length → partP w m (nth (argsOf w t c) j) (nth (front ++ [z] ++ s) j) = true := fun z hz j hj => by
    by_cases hj1 : j < i
    ·have e : nth (front ++ [z] ++ s) j = nth front j := by
      simp only [nth, List.getD, List.append_assoc]
      rw [List.getElem?_append_left (by omega)]
     rw [e]; exact hfr j hj1
    ·by_cases hj2 : j = i
     ·have e : nth (front ++ [z] ++ s) j = z := by
       simp only [nth, List.getD, List.append_assoc]
       rw [List.getElem?_append_right (by omega), show j - front.length = 0 by omega]; rfl
      rw [e, hj2]; exact hz
     ·obtain ⟨k, rfl⟩ : ∃ k, j = i + 1 + k := ⟨j - (i + 1), by omega⟩
      have e : nth (front ++ [z] ++ s) (i + 1 + k) = nth (a0 :: s) (k + 1) := by
       simp only [nth, List.getD, List.append_assoc]
       rw [List.getElem?_append_right (by omega), show i + 1 + k - front.length = k + 1 by omega]; rfl
      rw [e]
      have := (hab (k + 1) (by simp at hj ⊢; omega)).1
      rwa [show i + (k + 1) = i + 1 + k by omega] at this
   rcases List.mem_append.1 hx with hx | hx
   ·obtain ⟨z, hz, rfl⟩ := List.mem_map.1 hx
    refine ctorQ_part hc (by simp at hal ⊢; omega) (hpiece z (hf _ _ _ h0.1 h0.2 z hz))
   ·cases hm : meetQ 11 a0 b0 with
    | none => rw [hm] at hx; simp at hx
    | some both =>
     rw [hm] at hx
     have hbp := meet_part 11 m h0.1 h0.2 hm
     refine ih (i + 1) (bs := q) (front := front ++ [both]) (by simp [hfl]) (by simp at hal ⊢; omega) (by simpa using hbl) (fun j hj => ?_) (fun j hj => ?_) x hx
     ·have := hpiece both hbp j (by simp; omega)
      have e : nth (front ++ [both] ++ s) j = nth (front ++ [both]) j := by
       simp only [nth, List.getD]
       rw [List.getElem?_append_left (by simp; omega)]
      rwa [e] at this
     ·have := hab (j + 1) (by simpa using hj)
      rwa [show i + (j + 1) = i + 1 + j by omega] at this
theorem minus_part {w : List Data} : ∀ (n m : Nat) {t : Ty} {a b : Pat}, n < m → partP w m t a = true → partP w n t b = true → ∀ x ∈ minusQ w n t a b, partP w m t x = true
 | 0, m, t, a, b, _, _, hb => by simp [partP] at hb
 | n + 1, 0, t, a, b, hn, _, _ => by omega
 | n + 1, m + 1, t, a, b, hn, ha, hb => by
  have ob := part_op hb
  have oa := part_op ha
  have hf : ∀ u x y, partP w m u x = true → partP w n u y = true → ∀ z ∈ minusQ w n u x y, partP w m u z = true := fun u x y hx hy => minus_part n m (by omega) hx hy
  have hcc : ∀ a, partP w (m + 1) t a = true → a.op = 4 → b.op = 4 → ∀ x ∈ minusC (minusQ w n) w t a b, partP w (m + 1) t x = true := fun a ha h4 h4b => by
   obtain ⟨m1, m2, m3, m4⟩ := part_ctor ha h4
   obtain ⟨n1, n2, n3, n4⟩ := part_ctor hb h4b
   intro x hx
   unfold minusC at hx
   split at hx
   ·rename_i hc
    have key := minusK_part (w := w) (f := fun u x y => if partP w m u x = true ∧ partP w n u y = true then minusQ w n u x y else []) (m := m) (t := t) (c := a.ctor) m1 (fun u x y hx hy z hz => by
     split at hz
     ·rename_i hh; exact hf u x y hh.1 hh.2 z hz
     ·simp at hz) 0 (xs := a.kids) (bs := b.kids) (front := []) rfl (by omega) (by rw [hc] at m3; omega) (fun j hj => by omega) (fun j hj => by
      have ka := part_kid ha (i := j) hj
      have kb := part_kid hb (i := j) (by rw [hc] at m3; omega)
      rw [types4 h4] at ka
      rw [types4 h4b, ← hc] at kb
      rw [Nat.zero_add]
      exact ⟨ka, part_le (by omega) kb⟩) x
    refine key ?_
    have e : ∀ (ts : List Ty) (xs bs front : List Pat), (∀ j, j < ts.length → j < xs.length → j < bs.length → partP w m (nth ts j) (nth xs j) = true ∧ partP w n (nth ts j) (nth bs j) = true) →
      minusK (fun u x y => if partP w m u x = true ∧ partP w n u y = true then minusQ w n u x y else []) a.ctor ts xs bs front = minusK (minusQ w n) a.ctor ts xs bs front := by
     intro ts
     induction ts with
     | nil => intro xs bs front _; simp [minusK]
     | cons u r ih =>
      intro xs bs front h
      cases xs with
      | nil => simp [minusK]
      | cons x s =>
       cases bs with
       | nil => simp [minusK]
       | cons y q =>
        have h0 := h 0 (by simp) (by simp) (by simp)
        change partP w m u x = true ∧ partP w n u y = true at h0
        unfold minusK
        rw [if_pos h0]
        congr 1
        cases hmm : meetQ 11 x y with
        | none => rfl
        | some both => exact ih s q (front ++ [both]) (fun j h1 h2 h3 => h (j + 1) (by simpa using h1) (by simpa using h2) (by simpa using h3))
    rw [List.drop_zero, e _ _ _ _ (fun j h1 h2 h3 => ?_)]
    ·exact hx
    ·have ka := part_kid ha (i := j) h2
     have kb := part_kid hb (i := j) h3
     rw [types4 h4] at ka
     rw [types4 h4b, ← hc] at kb
     exact ⟨ka, kb⟩
   ·rw [List.mem_singleton] at hx
    rw [hx]; exact ha
  rcases ob with h1 | h3 | h4
  ·rw [minus_1 h1]; simp
  ·rw [minus_3 h3]
   intro x hx
   have hl := low_high ha (part_int hb h3).1
   have ib := part_int hb h3
   have q1 := minQ_le (highQ a) (b.n - 1)
   have q2 := maxQ_ge (lowQ a) (b.m + 1)
   unfold minusI at hx
   rcases List.mem_append.1 hx with h | h
   ·exact range_part ib.1 (by omega) (by omega) x h
   ·exact range_part ib.1 (by omega) (by omega) x h
  ·by_cases ha1 : a.op = 1
   ·rw [minus_a h4 ha1]
    intro x hx
    obtain ⟨c, hc, hx⟩ := List.mem_flatMap.1 hx
    refine hcc _ ?_ rfl h4 x hx
    obtain ⟨k, rfl⟩ : ∃ k, m = k + 1 := ⟨m - 1, by omega⟩
    exact wholeQ_part hc
   ·have ha4 : a.op = 4 := by
     have := same_op ha hb ha1 (by omega); omega
    rw [minus_c h4 ha4]
    exact hcc a ha ha4 h4
theorem part_ok {w : List Data} (hs : Spa w) : ∀ (n : Nat) {t : Ty} {p : Pat}, InS (w.length * 4) t → partP w n t p = true → p.ok ∧ p.size ≤ 4 ^ n
 | 0, t, p, _, h => by simp [partP] at h
 | n + 1, t, p, ht, h => by
  have hk := fun i (hi : i < p.kids.length) => part_kid h hi
  have hl := (part_own h).2
  have op := part_op h
  have hpow : 4 ^ (n + 1) = 4 ^ n * 4 := rfl
  have hpos : 0 < 4 ^ n := Nat.pow_pos (by omega)
  by_cases h4 : p.op = 4
  ·obtain ⟨m1, m2, m3, m4⟩ := part_ctor h h4
   have h3 := hs.args t p.ctor ht m1
   rw [types4 h4] at hk
   have ih : ∀ k ∈ p.kids, k.ok ∧ k.size ≤ 4 ^ n := fun k hkm => by
    obtain ⟨i, hi, rfl⟩ := List.getElem_of_mem hkm
    have e : nth p.kids i = p.kids[i] := nth_eq hi
    have := part_ok hs n (args_ins hs.dp ht m1 _ (nth_mem (i := i) (by omega))) (hk i hi)
    rwa [e] at this
   have hz := Pats.size_of (m := 4 ^ n) (fun k hk => (ih k hk).2)
   rw [Pat.ok_iff, Pat.size_eq]
   refine ⟨⟨by omega, Pats.ok_of (fun k hk => (ih k hk).1)⟩, ?_⟩
   have : p.kids.length * 4 ^ n ≤ 3 * 4 ^ n := Nat.mul_le_mul_right _ (by omega)
   omega
  ·have hk0 : p.kids = [] := shape_zero (part_shape _ h) h4 (by omega) (by omega)
   rw [Pat.ok_iff, Pat.size_eq, hk0]
   exact ⟨⟨by simp, trivial⟩, by simp only [Pats.size]; omega⟩
theorem flat_once {α : Type} {g : Int → List α} {c0 : Int} {X : Nat} : ∀ {cs : List Int}, cs.Nodup → (∀ c ∈ cs, c ≠ c0 → (g c).length ≤ 1) → (g c0).length ≤ X → (cs.flatMap g).length ≤ cs.length + X
 | [], _, _, _ => by simp
 | c :: r, hn, h1, h2 => by
  obtain ⟨n1, n2⟩ := List.nodup_cons.1 hn
  rw [List.flatMap_cons, List.length_append, List.length_cons]
  by_cases hc : c = c0
  ·have key : ∀ l : List Int, c0 ∉ l → (∀ x ∈ l, x ≠ c0 → (g x).length ≤ 1) → (l.flatMap g).length ≤ l.length := by
    intro l
    induction l with
    | nil => intro _ _; simp
    | cons y s ih =>
     intro hm hh
     rw [List.flatMap_cons, List.length_append, List.length_cons]
     have a1 := hh y (by simp) (fun e => hm (by rw [e]; simp))
     have a2 := ih (fun e => hm (by simp [e])) (fun x hx => hh x (by simp [hx]))
     omega
   have := key r (by rw [← hc]; exact n1) (fun x hx => h1 x (by simp [hx]))
   rw [hc]; omega
  ·have a1 := h1 c (by simp) hc
   have a2 := flat_once (X := X) n2 (fun x hx => h1 x (by simp [hx])) h2
   omega
theorem minusK_len {f : Ty → Pat → Pat → List Pat} {c : Int} (L : Pat → Nat) : ∀ (ts : List Ty) (xs bs front : List Pat), (∀ i, i < ts.length → i < xs.length → i < bs.length → (f (nth ts i) (nth xs i) (nth bs i)).length ≤ L (nth bs i)) → (minusK f c ts xs bs front).length ≤ (bs.map L).sum
 | [], xs, bs, front, _ => by simp [minusK]
 | _ :: _, [], bs, front, _ => by simp [minusK]
 | _ :: _, _ :: _, [], front, _ => by simp [minusK]
 | u :: r, x :: s, y :: q, front, h => by
  have h0 := h 0 (by simp) (by simp) (by simp)
  change (f u x y).length ≤ L y at h0
  unfold minusK
  rw [List.length_append, List.length_map, List.map_cons, List.sum_cons]
  cases hm : meetQ 11 x y with
  | none => simp; omega
  | some both =>
   have := minusK_len (c := c) L r s q (front ++ [both]) (fun i h1 h2 h3 => h (i + 1) (by simpa using h1) (by simpa using h2) (by simpa using h3))
   dsimp only; omega
theorem minusC_len {w : List Data} {f : Ty → Pat → Pat → List Pat} {t : Ty} {a b : Pat} {L : Pat → Nat} (h : ∀ i, i < (argsOf w t a.ctor).length → i < a.kids.length → i < b.kids.length → (f (nth (argsOf w t a.ctor) i) (nth a.kids i) (nth b.kids i)).length ≤ L (nth b.kids i)) :
  (minusC f w t a b).length ≤ if a.ctor = b.ctor then (b.kids.map L).sum else 1 := by
 unfold minusC
 split
 ·exact minusK_len L _ _ _ _ h
 ·simp
theorem sum4 : ∀ l : List Pat, (l.map fun b => 4 * b.size).sum = 4 * Pats.size l
 | [] => rfl
 | k :: r => by simp only [List.map_cons, List.sum_cons, Pats.size, sum4 r]; omega
theorem minus_len {w : List Data} (hs : Spa w) : ∀ (n m : Nat) {t : Ty} {a b : Pat}, n < m → InS (w.length * 4) t → partP w m t a = true → partP w n t b = true → (minusQ w n t a b).length ≤ 4 * b.size
 | 0, m, t, a, b, _, _, _, hb => by simp [partP] at hb
 | n + 1, 0, t, a, b, hn, _, _, _ => by omega
 | n + 1, m + 1, t, a, b, hn, ht, ha, hb => by
  have ob := part_op hb
  have hz := Pat.size_eq b
  rcases ob with h1 | h3 | h4
  ·rw [minus_1 h1]; simp
  ·rw [minus_3 h3]; have := minusI_len a b; omega
  ·obtain ⟨n1, n2, n3, n4⟩ := part_ctor hb h4
   have hcc : ∀ a, partP w (m + 1) t a = true → a.op = 4 → (minusC (minusQ w n) w t a b).length ≤ if a.ctor = b.ctor then 4 * Pats.size b.kids else 1 := fun a ha h4a => by
    obtain ⟨m1, m2, m3, m4⟩ := part_ctor ha h4a
    rw [← sum4]
    by_cases hc : a.ctor = b.ctor
    ·have := minusC_len (w := w) (f := minusQ w n) (t := t) (a := a) (b := b) (L := fun b => 4 * b.size) (fun i h1 h2 h3 => by
      have ka := part_kid ha (i := i) h2
      have kb := part_kid hb (i := i) h3
      rw [types4 h4a] at ka
      rw [types4 h4, ← hc] at kb
      exact minus_len hs n m (by omega) (args_ins hs.dp ht m1 _ (nth_mem h1)) ka kb)
     exact this
    ·unfold minusC; rw [if_neg hc, if_neg hc]; simp
   by_cases ha1 : a.op = 1
   ·rw [minus_a h4 ha1]
    obtain ⟨c1, c2⟩ := hs.ctors t ht
    have hw : ∀ c, c ∈ vctors w t → (minusC (minusQ w n) w t (wholeQ w t c) b).length ≤ if c = b.ctor then 4 * Pats.size b.kids else 1 := fun c hc => by
     obtain ⟨k, rfl⟩ : ∃ k, m = k + 1 := ⟨m - 1, by omega⟩
     exact hcc _ (wholeQ_part hc) rfl
    have := flat_once (g := fun c => minusC (minusQ w n) w t (wholeQ w t c) b) (c0 := b.ctor) (X := 4 * Pats.size b.kids) c2 (fun c hc hne => by have := hw c hc; rwa [if_neg hne] at this) (by have := hw _ n1; rwa [if_pos rfl] at this)
    omega
   ·have ha4 : a.op = 4 := by have := same_op ha hb ha1 (by omega); omega
    rw [minus_c h4 ha4]
    have := hcc a ha ha4
    split at this <;> omega
theorem all2_false {α β : Type} [Inhabited α] [Inhabited β] {f : α → β → Bool} : ∀ {a : List α} {b : List β}, a.length = b.length → all2 f a b = false → ∃ i, i < a.length ∧ f (nth a i) (nth b i) = false
 | [], [], _, h => by simp [all2] at h
 | x :: r, y :: s, hl, h => by
  simp only [all2, Bool.and_eq_false_iff] at h
  rcases h with h | h
  ·exact ⟨0, by simp, h⟩
  ·obtain ⟨i, h1, h2⟩ := all2_false (by simpa using hl) h
   exact ⟨i + 1, by simpa using h1, h2⟩
 | [], _ :: _, hl, _ => by simp at hl
 | _ :: _, [], hl, _ => by simp at hl
theorem empty_1 {w : List Data} {f : Nat → Nat} {n : Nat} {t : Ty} {p : Pat} (h : p.op = 1) : emptyP w f (n + 1) t p = decide (dv f t = 0) := by rw [emptyP_succ, if_pos (.inl h)]
theorem empty_3 {w : List Data} {f : Nat → Nat} {n m : Nat} {t : Ty} {p : Pat} (hp : partP w m t p = true) (h : p.op = 3) : emptyP w f (n + 1) t p = false := by
 rw [emptyP_succ, if_neg (by omega), if_neg (by omega)]
 have e : typesP w t p = [] := by unfold typesP; rw [if_neg (by omega), if_neg (by omega), if_neg (by omega)]
 have hl := (part_own hp).2
 rw [e] at hl ⊢
 rw [List.eq_nil_of_length_eq_zero hl]; rfl
theorem empty_4 {w : List Data} {f : Nat → Nat} {n : Nat} {t : Ty} {p : Pat} (h : p.op = 4) : emptyP w f (n + 1) t p = !(all2 (fun u q => !emptyP w f n u q) (argsOf w t p.ctor) p.kids) := by
 rw [emptyP_succ, if_neg (by omega), if_neg (by omega), types4 h]
theorem dead_kid {w : List Data} {f : Nat → Nat} {n m : Nat} {t : Ty} {p : Pat} (hp : partP w m t p = true) (h : p.op = 4) (hd : emptyP w f (n + 1) t p = true) : ∃ i, i < p.kids.length ∧ emptyP w f n (nth (argsOf w t p.ctor) i) (nth p.kids i) = true := by
 rw [empty_4 h] at hd
 have hl := (part_ctor hp h).2.2.1
 obtain ⟨i, h1, h2⟩ := all2_false (a := argsOf w t p.ctor) (b := p.kids) (f := fun u q => !emptyP w f n u q) hl.symm (by simpa using hd)
 exact ⟨i, by omega, by simpa using h2⟩
theorem kid_dead {w : List Data} {f : Nat → Nat} {n : Nat} {t : Ty} {c : Int} {l : List Pat} {i : Nat} (hi : i < l.length) (hl : l.length = (argsOf w t c).length) (hd : emptyP w f n (nth (argsOf w t c) i) (nth l i) = true) : emptyP w f (n + 1) t (ctorQ c l) = true := by
 rw [empty_4 rfl]
 have := all2_nth_false (f := fun u q => !emptyP w f n u q) (a := argsOf w t c) (b := l) (i := i) (by omega) hl.symm (by rw [hd]; rfl)
 show (!all2 (fun u q => !emptyP w f n u q) (argsOf w t c) l) = true
 rw [this]; rfl
theorem no_arg {w : List Data} (hd : Dp w) {t : Ty} {c : Int} (ht : InS (w.length * 4) t) (hc : c ∈ vctors w t) (h0 : dv (depthT w) t = 0) : ∃ i, i < (argsOf w t c).length ∧ dv (depthT w) (nth (argsOf w t c) i) = 0 := by
 by_cases hx : ∃ i, i < (argsOf w t c).length ∧ dv (depthT w) (nth (argsOf w t c) i) = 0
 ·exact hx
 ·exfalso
  have a : Snd w (depthT w) ∧ Cmp w (w.length * 4 + 1) (depthT w) := iter_all hd.cl (w.length * 4 + 1)
  have hdt : t.data ≠ -1 := fun e => by unfold vctors at hc; rw [if_pos e] at hc; simp at hc
  have hb : ∀ u ∈ argsOf w t c, Hd w (w.length * 4 + 1) u := fun u hu => by
   obtain ⟨i, hi, rfl⟩ := List.getElem_of_mem hu
   have hpos : 0 < dv (depthT w) (argsOf w t c)[i] := by
    have e : nth (argsOf w t c) i = (argsOf w t c)[i] := nth_eq hi
    rcases Nat.eq_zero_or_pos (dv (depthT w) (argsOf w t c)[i]) with h | h
    ·exact absurd ⟨i, hi, by rw [e]; exact h⟩ hx
    ·exact h
   have hin := args_ins hd ht hc _ hu
   have h1 := dv_hd a.1 hin hpos
   rcases hin with h2 | ⟨h2, h3⟩
   ·exact .inl h2
   ·rw [← h3] at h1 ⊢
    exact hd_fix hd.cl h2 h1
  have h2 : Hd w (w.length * 4 + 2) t := .inr ⟨c, vctors_of hc, hdt, hb⟩
  rcases ht with h3 | ⟨h3, h4⟩
  ·exact hdt h3
  ·rw [← h4] at h2
   have h5 := hd_fix hd.cl h3 h2
   rw [h4] at h5
   have := (dv_cmp a.2 (.inr ⟨h3, h4⟩) h5).1
   omega
section
variable {w : List Data} (hs : Spa w)
include hs
theorem dead_type : ∀ (n : Nat) {t : Ty} {p : Pat}, InS (w.length * 4) t → partP w n t p = true → dv (depthT w) t = 0 → emptyP w (depthT w) n t p = true
 | 0, t, p, _, h, _ => by simp [partP] at h
 | n + 1, t, p, ht, h, h0 => by
  rcases part_op h with h1 | h3 | h4
  ·rw [empty_1 h1]; exact decide_eq_true h0
  ·have := (part_int h h3).1
   unfold dv at h0; rw [if_pos this] at h0; omega
  ·obtain ⟨m1, m2, m3, m4⟩ := part_ctor h h4
   obtain ⟨i, h5, h6⟩ := no_arg hs.dp ht m1 h0
   rw [m4]
   have hk := part_kid h (i := i) (by omega)
   rw [types4 h4] at hk
   exact kid_dead (by omega) m3 (dead_type n (args_ins hs.dp ht m1 _ (nth_mem h5)) hk h6)
theorem meet_dead : ∀ (n k : Nat) {t : Ty} {a b x : Pat}, InS (w.length * 4) t → partP w n t a = true → partP w n t b = true → emptyP w (depthT w) n t a = true → meetQ k a b = some x → emptyP w (depthT w) n t x = true
 | 0, k, t, a, b, x, _, h, _, _, _ => by simp [partP] at h
 | n + 1, 0, t, a, b, x, _, _, _, _, h => by simp [meetQ] at h
 | n + 1, k + 1, t, a, b, x, ht, ha, hb, hd, h => by
  by_cases h1 : a.op = 1
  ·rw [meet_1 h1] at h; cases h
   rw [empty_1 h1] at hd
   exact dead_type hs (n + 1) ht hb (of_decide_eq_true hd)
  by_cases h2 : b.op = 1
  ·rw [meet_2 h1 h2] at h; cases h; exact hd
  by_cases h3 : a.op = 3
  ·rw [empty_3 ha h3] at hd; cases hd
  have h4 : a.op = 4 := by have := part_op ha; omega
  have hso := same_op ha hb h1 h2
  by_cases hc : a.ctor = b.ctor
  ·rw [meet_4 h4 h2 hc] at h
   obtain ⟨m1, m2, m3, m4⟩ := part_ctor ha h4
   obtain ⟨n1, n2, n3, n4⟩ := part_ctor hb (by omega)
   rw [← hc] at n3
   cases hl : meetL (meetQ k) a.kids b.kids [] with
   | none => rw [hl] at h; cases h
   | some l =>
    rw [hl] at h
    simp only [Option.map_some, Option.some.injEq] at h
    subst h
    obtain ⟨r, e, hr, hm⟩ := meetL_spec (by omega) hl
    rw [List.nil_append] at e
    subst e
    obtain ⟨i, hi, hde⟩ := dead_kid ha h4 hd
    have ka := part_kid ha (i := i) hi
    have kb := part_kid hb (i := i) (by omega)
    rw [types4 h4] at ka
    rw [types4 (by omega), ← hc] at kb
    exact kid_dead (i := i) (by omega) (by omega) (meet_dead n k (args_ins hs.dp ht m1 _ (nth_mem (by omega))) ka kb hde (hm i hi))
  ·rw [meet_4n h4 h2 hc] at h; cases h
theorem minusK_dead {f : Ty → Pat → Pat → List Pat} {m : Nat} {t : Ty} {c : Int} (ht : InS (w.length * 4) t) (hc : c ∈ vctors w t) :
  ∀ (i : Nat) {xs bs front : List Pat}, front.length = i → xs.length + i = (argsOf w t c).length → bs.length = xs.length →
   (∀ j, j < xs.length → partP w m (nth (argsOf w t c) (i + j)) (nth xs j) = true ∧ partP w m (nth (argsOf w t c) (i + j)) (nth bs j) = true ∧ (emptyP w (depthT w) m (nth (argsOf w t c) (i + j)) (nth xs j) = true → ∀ z ∈ f (nth (argsOf w t c) (i + j)) (nth xs j) (nth bs j), emptyP w (depthT w) m (nth (argsOf w t c) (i + j)) z = true)) →
   ((∃ j, j < i ∧ emptyP w (depthT w) m (nth (argsOf w t c) j) (nth front j) = true) ∨ ∃ j, j < xs.length ∧ emptyP w (depthT w) m (nth (argsOf w t c) (i + j)) (nth xs j) = true) →
   ∀ x ∈ minusK f c ((argsOf w t c).drop i) xs bs front, emptyP w (depthT w) (m + 1) t x = true := by
 intro i xs
 induction xs generalizing i with
 | nil =>
  intro bs front _ _ _ _ _ x hx
  cases hT : (argsOf w t c).drop i <;> (rw [hT] at hx; simp [minusK] at hx)
 | cons a0 s ih =>
  intro bs front hfl hal hbl hab hde x hx
  cases bs with
  | nil => simp at hbl
  | cons b0 q =>
   have hi : i < (argsOf w t c).length := by simp at hal; omega
   rw [drop_nth hi] at hx
   have h0 := hab 0 (by simp)
   simp only [Nat.add_zero] at h0
   have e0 : nth (a0 :: s) 0 = a0 := rfl
   have e1 : nth (b0 :: q) 0 = b0 := rfl
   rw [e0, e1] at h0
   unfold minusK at hx
   have f1 : ∀ z j, j < i → nth (front ++ [z] ++ s) j = nth front j := fun z j hj => by
    simp only [nth, List.getD, List.append_assoc]
    rw [List.getElem?_append_left (by omega)]
   have f2 : ∀ z, nth (front ++ [z] ++ s) i = z := fun z => by
    simp only [nth, List.getD, List.append_assoc]
    rw [List.getElem?_append_right (by omega), show i - front.length = 0 by omega]; rfl
   have f3 : ∀ z k, nth (front ++ [z] ++ s) (i + 1 + k) = nth (a0 :: s) (k + 1) := fun z k => by
    simp only [nth, List.getD, List.append_assoc]
    rw [List.getElem?_append_right (by omega), show i + 1 + k - front.length = k + 1 by omega]; rfl
   have hfl2 : ∀ z, (front ++ [z] ++ s).length = (argsOf w t c).length := fun z => by simp at hal ⊢; omega
   rcases List.mem_append.1 hx with hx | hx
   ·obtain ⟨z, hz, rfl⟩ := List.mem_map.1 hx
    rcases hde with ⟨j, hj, hd⟩ | ⟨j, hj, hd⟩
    ·exact kid_dead (i := j) (by rw [hfl2]; omega) (hfl2 z) (by rw [f1 z j hj]; exact hd)
    ·cases j with
     | zero => exact kid_dead (i := i) (by rw [hfl2]; omega) (hfl2 z) (by rw [f2 z]; exact h0.2.2 hd z hz)
     | succ k => exact kid_dead (i := i + 1 + k) (by rw [hfl2]; simp at hj; simp at hal; omega) (hfl2 z) (by rw [f3 z k, show i + 1 + k = i + (k + 1) by omega]; exact hd)
   ·cases hm : meetQ 11 a0 b0 with
    | none => rw [hm] at hx; simp at hx
    | some both =>
     rw [hm] at hx
     refine ih (i + 1) (bs := q) (front := front ++ [both]) (by simp [hfl]) (by simp at hal ⊢; omega) (by simpa using hbl) (fun j hj => ?_) ?_ x hx
     ·have := hab (j + 1) (by simpa using hj)
      rwa [show i + (j + 1) = i + 1 + j by omega] at this
     ·rcases hde with ⟨j, hj, hd⟩ | ⟨j, hj, hd⟩
      ·refine .inl ⟨j, by omega, ?_⟩
       have e : nth (front ++ [both]) j = nth front j := by
        simp only [nth, List.getD]
        rw [List.getElem?_append_left (by omega)]
       rw [e]; exact hd
      ·cases j with
       | zero =>
        refine .inl ⟨i, by omega, ?_⟩
        have e : nth (front ++ [both]) i = both := by
         simp only [nth, List.getD]
         rw [List.getElem?_append_right (by omega), show i - front.length = 0 by omega]; rfl
        rw [e]
        exact meet_dead hs m 11 (args_ins hs.dp ht hc _ (nth_mem hi)) h0.1 h0.2.1 hd hm
       | succ k =>
        refine .inr ⟨k, by simpa using hj, ?_⟩
        rw [show i + 1 + k = i + (k + 1) by omega]; exact hd
theorem minus_dead : ∀ (n m : Nat) {t : Ty} {a b : Pat}, n < m → InS (w.length * 4) t → partP w m t a = true → partP w n t b = true → emptyP w (depthT w) m t a = true → ∀ x ∈ minusQ w n t a b, emptyP w (depthT w) m t x = true
 | 0, m, t, a, b, _, _, _, hb, _ => by simp [partP] at hb
 | n + 1, 0, t, a, b, hn, _, _, _, _ => by omega
 | n + 1, m + 1, t, a, b, hn, ht, ha, hb, hd => by
  have hcc : ∀ a, partP w (m + 1) t a = true → a.op = 4 → b.op = 4 → emptyP w (depthT w) (m + 1) t a = true → ∀ x ∈ minusC (minusQ w n) w t a b, emptyP w (depthT w) (m + 1) t x = true := fun a ha h4 h4b hd => by
   obtain ⟨m1, m2, m3, m4⟩ := part_ctor ha h4
   obtain ⟨n1, n2, n3, n4⟩ := part_ctor hb h4b
   intro x hx
   unfold minusC at hx
   split at hx
   ·rename_i hc
    obtain ⟨j, hj, hdj⟩ := dead_kid ha h4 hd
    refine minusK_dead hs ht m1 0 (xs := a.kids) (bs := b.kids) (front := []) rfl (by omega) (by rw [hc] at m3; omega) (fun j hj => ?_) (.inr ⟨j, hj, by rw [Nat.zero_add]; exact hdj⟩) x hx
    have ka := part_kid ha (i := j) hj
    have kb := part_kid hb (i := j) (by rw [hc] at m3; omega)
    rw [types4 h4] at ka
    rw [types4 h4b, ← hc] at kb
    rw [Nat.zero_add]
    exact ⟨ka, part_le (by omega) kb, fun hdk z hz => minus_dead n m (by omega) (args_ins hs.dp ht m1 _ (nth_mem (by omega))) ka kb hdk z hz⟩
   ·rw [List.mem_singleton] at hx
    rw [hx]; exact hd
  rcases part_op hb with h1 | h3 | h4
  ·rw [minus_1 h1]; simp
  ·have hl := low_high ha (part_int hb h3).1
   rcases part_op ha with h | h | h
   ·rw [empty_1 h] at hd
    have := of_decide_eq_true hd
    unfold dv at this; rw [if_pos (part_int hb h3).1] at this; omega
   ·rw [empty_3 ha h] at hd; cases hd
   ·exact absurd (part_int hb h3).1 (part_ctor ha h).2.1
  ·by_cases ha1 : a.op = 1
   ·rw [minus_a h4 ha1]
    rw [empty_1 ha1] at hd
    intro x hx
    obtain ⟨c, hc, hx⟩ := List.mem_flatMap.1 hx
    obtain ⟨k, rfl⟩ : ∃ k, m = k + 1 := ⟨m - 1, by omega⟩
    exact hcc _ (wholeQ_part hc) rfl h4 (dead_type hs _ ht (wholeQ_part hc) (of_decide_eq_true hd)) x hx
   ·have ha4 : a.op = 4 := by have := same_op ha hb ha1 (by omega); omega
    rw [minus_c h4 ha4]
    exact hcc a ha ha4 h4 hd
end
def aliveQ (w : List Data) (t : Ty) (p : Pat) : Bool := !emptyP w (depthT w) 11 t p
def nextQ (w : List Data) (t : Ty) (l : List Pat) (b : Pat) : List Pat := (l.flatMap fun a => minusQ w 10 t a b).filter (aliveQ w t)
def subL (w : List Data) (t : Ty) : List Pat → List Pat → Option (List Pat)
 | l, [] => some l
 | l, b :: r => if (nextQ w t l b).length ≤ 400 then subL w t (nextQ w t l b) r else none
def withoutQ (w : List Data) (t : Ty) (l away : List Pat) : Option (List Pat) := subL w t (l.filter (aliveQ w t)) away
theorem nextQ_filter {w : List Data} (hs : Spa w) {t : Ty} (ht : InS (w.length * 4) t) {l : List Pat} {b : Pat} (hl : ∀ a ∈ l, partP w 11 t a = true) (hb : partP w 10 t b = true) : nextQ w t (l.filter (aliveQ w t)) b = nextQ w t l b := by
 unfold nextQ
 induction l with
 | nil => rfl
 | cons a r ih =>
  have ih' := ih (fun x hx => hl x (by simp [hx]))
  rw [List.flatMap_cons, List.filter_append]
  by_cases h : aliveQ w t a = true
  ·rw [List.filter_cons_of_pos h, List.flatMap_cons, List.filter_append, ih']
  ·rw [List.filter_cons_of_neg h, ih']
   have hd : emptyP w (depthT w) 11 t a = true := by unfold aliveQ at h; simpa using h
   have : (minusQ w 10 t a b).filter (aliveQ w t) = [] := by
    rw [List.filter_eq_nil_iff]
    intro x hx
    have := minus_dead hs 10 11 (by omega) ht (hl a (by simp)) hb hd x hx
    unfold aliveQ; rw [this]; simp
   rw [this, List.nil_append]
theorem nextQ_alive {w : List Data} {t : Ty} {l : List Pat} {b : Pat} : (nextQ w t l b).filter (aliveQ w t) = nextQ w t l b := by
 unfold nextQ; rw [List.filter_filter]; simp
theorem subL_alive {w : List Data} {t : Ty} : ∀ (away : List Pat) {l : List Pat}, l.filter (aliveQ w t) = l → (subL w t l away).map (List.filter (aliveQ w t)) = subL w t l away
 | [], l, h => by simp only [subL, Option.map_some, h]
 | b :: r, l, h => by
  unfold subL
  split
  ·exact subL_alive r nextQ_alive
  ·rfl
theorem subL_keep {w : List Data} (hs : Spa w) {t : Ty} (ht : InS (w.length * 4) t) {l away : List Pat} (hl : ∀ a ∈ l, partP w 11 t a = true) (hb : ∀ b ∈ away, partP w 10 t b = true) : (subL w t l away).map (List.filter (aliveQ w t)) = withoutQ w t l away := by
 unfold withoutQ
 cases away with
 | nil => rfl
 | cons b r =>
  unfold subL
  rw [nextQ_filter hs ht hl (hb b (by simp))]
  split
  ·exact subL_alive r nextQ_alive
  ·rfl
theorem nextQ_part {w : List Data} {t : Ty} {l : List Pat} {b : Pat} (hl : ∀ a ∈ l, partP w 11 t a = true) (hb : partP w 10 t b = true) : ∀ x ∈ nextQ w t l b, partP w 11 t x = true := fun x hx => by
 unfold nextQ at hx
 obtain ⟨a, ha, hx⟩ := List.mem_flatMap.1 (List.mem_filter.1 hx).1
 exact minus_part 10 11 (by omega) (hl a ha) hb x hx
theorem slices_Grow_P_fn {n : Nat} (h0 : 0 < n) (hb : n ≤ 1000000) : FnD Tryz.prog 299 [.nils, .d (.i (n : Int))] [] (.gv 9 []) [(9, some (.tok 0 6))] := by
 refine bd Tryz.f299 27 [12, 24] [] fun w0 F0 own kept hk => ?_
 refine sq (fun h1 h1p h1s => ?_) fun h1 h1p h1s => ?_
 ·try simp only [Q] at h1p
  exfalso; omega --stop
 ·try simp only [Q] at h1p
  refine Walk.capN sl49 .none rfl rfl ?_
  refine evs [12, 24] [] ?_
  refine Walk.lenN sl49 .none rfl rfl ?_
  refine evs [12, 24] [] ?_
  refine ar ?_
  refine ar ?_
  refine sq (fun h2 h2p h2s => ?_) fun h2 h2p h2s => ?_
  ·try simp only [Q] at h2p
   refine Walk.capN sl49 .none rfl rfl ?_
   refine Walk.cutN_h sl49 .none rfl rfl rfl ?_
   refine evs [12, 24] [] ?_
   refine Walk.growZ (n := n) 8 sl49 Tryz.underlying3 tz51 rfl (by decide) rfl .none rfl rfl rfl (by simp) h0 (by omega) (by omega) rfl ?_
   refine evs [12, 24] [] ?_
   refine Walk.lenN sl49 .none rfl rfl ?_
   refine Walk.cutV_h 9 (b := 0) sl49 .none rfl rfl (htokL rfl (by first | rfl | (simp; done) | (simp; omega))) rfl rfl (Nat.zero_le _) (by rw [List.length_replicate]; exact h0) rfl ?_
   refine evs [12, 24] [] ?_
   refine rn [(9, some (.tok 0 6))] (r1 rfl) (.gvg ?_) ⟨rfl, rfl⟩ (SubH.get ⟨rfl, trivial⟩) (boxOK rfl)
   all_goals (rfl)
  ·try simp only [Q] at h2p
   exfalso; simp at h2; all_goals omega --stop
abbrev encLs (ls : List (List Pat)) : D := .sl (ls.map fun l => [encPats l])
theorem slices_Concat_P_fn {ls : List (List Pat)} (hl : ls.length ≤ 1000) (h0 : 0 < ls.flatten.length) (hb : ls.flatten.length ≤ 1000000) : FnD Tryz.prog 262 [.d (encLs ls)] [] (.d (encPats ls.flatten)) [] := by
 have key : ∀ {pre rest : List (List Pat)} {y : List Pat}, pre ++ y :: rest = ls → pre.flatten.length + y.length ≤ ls.flatten.length := fun h => by
  rw [← h]; simp
 refine FnD.gvD (i := 9) (k := 6) ?_
 refine bd Tryz.f262 36 [] [] fun w0 F0 own kept hk => ?_
 refine CWp.loopX (ι := List (List Pat) × List (List Pat)) hk (fun x => [(11, .d (.i (x.1.length : Int))), (3, .d (.i (x.1.flatten.length : Int)))]) [5, 12, 13, 14, 15, 16, 17, 18, 19, 20, 21, 22] (fun x => []) (fun x => x.1 ++ x.2 = ls) (fun x => x.2.length) ([], ls) (by simp) ⟨⟨_, rfl, (LeA.eqi (by first | rfl | (simp [Pat.cs_len]; done) | omega))⟩, ⟨⟨_, rfl, (LeA.eqi (by first | rfl | (simp [Pat.cs_len]; done) | omega))⟩, trivial⟩⟩ trivial (fun x => rfl) (fun x hg1 => ?_)
 obtain ⟨pre, rest⟩ := x
 dsimp only at hg1 ⊢
 refine evc [] [] ?_
 refine sq (fun h1 h1p h1s => ?_) fun h1 h1p h1s => ?_
 ·try simp only [Q, Pat.cs_len] at h1p
  rcases rest with _ | ⟨y, rest⟩
  ·exfalso; simp_all
  refine Walk.idx sl342 .none rfl rfl rfl rfl (zip_at hg1) rfl ?_
  refine ev ?_
  refine ar ?_ (by (have h9 := key hg1; constructor <;> first | omega | (simp only [Pat.cs_len]; omega)))
  refine sq (fun h2 h2p h2s => ?_) fun h2 h2p h2s => ?_
  ·try simp only [Q, Pat.cs_len] at h2p
   exfalso; have := key hg1; omega --stop
  ·try simp only [Q, Pat.cs_len] at h2p
   refine ar ?_ (by (constructor <;> omega))
   refine Exists.intro ((pre ++ [y], rest)) ⟨(by have hz := hg1; rw [← hz]; simp), (by simp), Sub.x (by kernel_rfl) (by kernel_rfl) ⟨⟨_, rfl, (LeA.eqi (by first | rfl | (simp [Pat.cs_len]; done) | omega))⟩, ⟨⟨_, rfl, (LeA.eqi (by first | rfl | (simp [Pat.cs_len]; done) | omega))⟩, trivial⟩⟩ (by kernel_rfl) (by kernel_rfl) trivial⟩
 ·try simp only [Q, Pat.cs_len] at h1p
  have hrest : rest = [] := by
   rcases rest with _ | ⟨a, b⟩
   ·rfl
   ·exfalso; have hz := congrArg List.length (hg1); simp only [List.length_append, List.length_cons, List.length_map] at hz; omega
  subst hrest
  refine Walk.call (cr := [9]) cal299 (slices_Grow_P_fn (n := pre.flatten.length) (by rw [List.append_nil] at hg1; rw [hg1]; exact h0) (by rw [List.append_nil] at hg1; rw [hg1]; exact hb)) rfl .none rfl rfl (LeL.refl _) trivial rfl rfl rfl ?_
  refine ev ?_
  refine CWp.loopX (ι := List (List Pat) × List (List Pat)) hk (fun x => [(27, .d (.i (x.1.length : Int))), (6, .gv 9 (Pat.cs x.1.flatten))]) [8, 28, 29, 30, 31, 32, 33, 34] (fun x => [(9, some (.tok (Pat.cs x.1.flatten).length 6))]) (fun x => x.1 ++ x.2 = ls) (fun x => x.2.length) ([], ls) (by simp) ⟨⟨_, rfl, (LeA.eqi (by first | rfl | (simp [Pat.cs_cd]; done) | omega))⟩, ⟨⟨_, rfl, (LeA.gvg (by first | rfl | (simp [Pat.cs_cd]; done) | omega))⟩, trivial⟩⟩ ⟨beq_nat_eq (by rfl), trivial⟩ (fun x => rfl) (fun x hg2 => ?_)
  obtain ⟨pre, rest⟩ := x
  dsimp only at hg2 ⊢
  refine evc [] [] ?_
  refine sq (fun h3 h3p h3s => ?_) fun h3 h3p h3s => ?_
  ·try simp only [Q, Pat.cs_len] at h3p
   rcases rest with _ | ⟨y, rest⟩
   ·exfalso; simp_all
   refine Walk.idx sl342 .none rfl rfl rfl rfl (zip_at hg2) rfl ?_
   refine ev ?_
   refine Walk.appendV sl49 zz51 .none rfl rfl rfl rfl (htokL rfl (by first | rfl | (simp; done) | (simp; omega))) (by exact pat_rows _) (by have := key hg2; simp only [Pat.cs_len]; omega) (by have := key hg2; simp only [Pat.cs_len]; omega) ?_
   refine ev ?_
   refine ar ?_ (by (constructor <;> omega))
   refine Exists.intro ((pre ++ [y], rest)) ⟨(by have hz := hg2; rw [← hz]; simp), (by simp), Sub.x (by kernel_rfl) (by kernel_rfl) ⟨⟨_, rfl, (LeA.eqi (by first | rfl | (simp [Pat.cs_cd]; done) | omega))⟩, ⟨⟨_, rfl, (LeA.gvg (by first | rfl | (simp [Pat.cs_cd]; done) | omega))⟩, trivial⟩⟩ (by kernel_rfl) (by kernel_rfl) ⟨beq_nat_eq (by (first | rfl | (simp [Pat.cs_cd]; done) | omega)), trivial⟩⟩
  ·try simp only [Q, Pat.cs_len] at h3p
   have hrest : rest = [] := by
    rcases rest with _ | ⟨a, b⟩
    ·rfl
    ·exfalso; have hz := congrArg List.length (hg2); simp only [List.length_append, List.length_cons, List.length_map] at hz; omega
   subst hrest
   refine rn [(9, some (.tok (Pat.cs ls.flatten).length 6))] (r1 rfl) (.gvg ?_) ⟨rfl, rfl⟩ (SubH.get ⟨(by rw [List.append_nil] at hg2; subst hg2; rfl), trivial⟩) (boxOK rfl)
   all_goals (first | rfl | (rw [List.append_nil] at hg2; rw [hg2]))
def rangesTo (l : List Int) : Nat → List Pat
 | 0 => []
 | n + 1 => rangesTo l n ++ rangeQ (nth l (2 * n)) (nth l (2 * n + 1))
theorem rangesTo_len (l : List Int) : ∀ n, (rangesTo l n).length ≤ n
 | 0 => by simp [rangesTo]
 | n + 1 => by
  have := rangesTo_len l n
  simp only [rangesTo, rangeQ, List.length_append]
  split <;> simp <;> omega
theorem rangesTo_yes {l : List Int} {n : Nat} (h : nth l (2 * n) ≤ nth l (2 * n + 1)) : rangesTo l (n + 1) = rangesTo l n ++ [intQ (nth l (2 * n)) (nth l (2 * n + 1))] := by simp [rangesTo, rangeQ, h]
theorem rangesTo_no {l : List Int} {n : Nat} (h : ¬ nth l (2 * n) ≤ nth l (2 * n + 1)) : rangesTo l (n + 1) = rangesTo l n := by simp only [rangesTo, rangeQ, if_neg h, List.append_nil]
theorem ranges_2 (a b : Int) : rangesTo [a, b] 1 = rangeQ a b := by simp [rangesTo, nth]
theorem ranges_4 (a b c d : Int) : rangesTo [a, b, c, d] 2 = rangeQ a b ++ rangeQ c d := by simp [rangesTo, nth]
theorem impl_numbers_fn {p : Pat} : FnD Tryz.prog 259 [.agg [.d (.i p.op), .d (.i p.ctor), .d (.i p.n), .d (.i p.m), .d (.i p.var), .d (encPats p.kids)]] [] (.tup [.d (.i (lowQ p)), .d (.i (highQ p))]) [] := by
 by_cases h : p.op = 1
 ·have e1 : lowQ p = 0 := if_pos h
  have e2 : highQ p = 9 := if_pos h
  rw [e1, e2]
  refine bd Tryz.f259 11 [] [] fun w0 F0 own kept hk => ?_
  refine Walk.box (id := 3001) .none rfl rfl rfl rfl rfl rfl rfl ?_
  refine ev ?_
  refine sq (fun h1 h1p h1s => ?_) fun h1 h1p h1s => ?_
  ·try simp only [Q] at h1p
   refine rn0 (r2 rfl rfl) (.tup (.cons (.eqd ?_) (.cons (.eqd ?_) .nil)))
   all_goals (rfl)
  ·try simp only [Q] at h1p
   exfalso; omega --stop
 ·skip
  have e1 : lowQ p = p.n := if_neg h
  have e2 : highQ p = p.m := if_neg h
  rw [e1, e2]
  refine bd Tryz.f259 11 [] [] fun w0 F0 own kept hk => ?_
  refine Walk.box (id := 3001) .none rfl rfl rfl rfl rfl rfl rfl ?_
  refine ev ?_
  refine sq (fun h1 h1p h1s => ?_) fun h1 h1p h1s => ?_
  ·try simp only [Q] at h1p
   exfalso; omega --stop
  ·try simp only [Q] at h1p
   refine dr ?_
   refine rn0 (r2 rfl rfl) (.tup (.cons (.eqd ?_) (.cons (.eqd ?_) .nil)))
   all_goals (rfl)
theorem impl_ranges_fn {l : List Int} {n : Nat} (hl : l.length = 2 * n) (hb : n ≤ 1000) : FnD Tryz.prog 260 [.d (encInts l)] [] (.d (encPats (rangesTo l n))) [] := by
 refine bd Tryz.f260 35 [3] [] fun w0 F0 own kept hk => ?_
 refine Walk.assignNil 9 6 .none rfl rfl ?_
 refine tv ?_
 refine CWp.loopX (ι := Nat) hk (fun i => [(4, .d (.i ((2 * i : Nat) : Int))), (3, .gl 9 (Pat.cs (rangesTo l i)))]) [5, 6, 7, 8, 9, 10, 11, 12, 13, 14, 15, 16, 17, 18, 19, 20, 21, 22, 23, 24, 25, 26, 27, 28, 29, 30, 31, 32, 33] (fun i => [(9, some (.tok ((Pat.cs (rangesTo l i))).length 6))]) (fun i => i ≤ n) (fun i => n - i) 0 (by omega) ⟨⟨_, rfl, (LeA.eqi (by rfl))⟩, ⟨⟨_, rfl, (LeA.glg (by rfl))⟩, trivial⟩⟩ ⟨beq_nat_eq (by rfl), trivial⟩ (fun x => rfl) (fun i hg1 => ?_)
 refine evc [3] [] ?_
 refine sq (fun h1 h1p h1s => ?_) fun h1 h1p h1s => ?_
 ·try simp only [Q] at h1p
  refine Walk.idx (i := 2 * i) sl54 .none rfl rfl rfl rfl (at_nth (by omega)) rfl ?_
  refine evd [3] [] ?_
  refine ar ?_
  refine Walk.idx (i := 2 * i + 1) sl54 .none rfl rfl rfl rfl (at_nth (by omega)) rfl ?_
  refine evd [3] [] ?_
  refine dr ?_
  refine sq (fun h2 h2p h2s => ?_) fun h2 h2p h2s => ?_
  ·try simp only [Q] at h2p
   refine Walk.idx (i := 2 * i) sl54 .none rfl rfl rfl rfl (at_nth (by omega)) rfl ?_
   refine evd [3] [] ?_
   refine ar ?_
   refine Walk.idx (i := 2 * i + 1) sl54 .none rfl rfl rfl rfl (at_nth (by omega)) rfl ?_
   refine evd [3] [] ?_
   refine Walk.build st51 (ks := [0, 2, 3]) (xs := [_, _, _]) rfl rfl .none rfl rfl rfl ?_
   refine Walk.sliceLit sl49 tz51 rfl (by decide) (ks := [0]) (xs := [_]) rfl rfl (by decide) (by decide) .none rfl rfl rfl rfl ?_
   refine Walk.append sl49 zz51 rfl .none rfl rfl rfl rfl (htokL rfl (by first | rfl | (simp; done) | (simp; omega))) (by (intro x hx; simp at hx; subst hx; rfl)) (by have := rangesTo_len l i; simp [Pat.cs_len]; omega) (by have := rangesTo_len l i; simp [Pat.cs_len]; omega) ?_
   refine asg ?_
   refine dr ?_
   refine ar ?_
   refine Exists.intro (i + 1) ⟨(by omega), (by omega), Sub.x (by kernel_rfl) (by kernel_rfl) ⟨⟨_, rfl, (LeA.eqi (by rfl))⟩, ⟨⟨_, rfl, (LeA.glg (by (rw [rangesTo_yes (by assumption), Pat.cs_cd, Pat.cs_cd, List.map_append]; rfl)))⟩, trivial⟩⟩ (by kernel_rfl) (by kernel_rfl) ⟨beq_nat_eq (by (first | rfl | (simp; done) | (rw [rangesTo_yes (by assumption), Pat.cs_cd, Pat.cs_cd, List.map_append]; rfl) | (rw [rangesTo_no (by assumption)]; done) | (rw [rangesTo_no (by omega)]; done) | (rw [rangesTo_yes (by assumption)]; simp [Pat.cs_len]; done) | (rw [rangesTo_yes (by omega)]; simp [Pat.cs_len]; done) | omega)), trivial⟩⟩
  ·try simp only [Q] at h2p
   refine ar ?_
   refine Exists.intro (i + 1) ⟨(by omega), (by omega), Sub.x (by kernel_rfl) (by kernel_rfl) ⟨⟨_, rfl, (LeA.eqi (by rfl))⟩, ⟨⟨_, rfl, (LeA.glg (by (rw [rangesTo_no (by omega)]; done)))⟩, trivial⟩⟩ (by kernel_rfl) (by kernel_rfl) ⟨beq_nat_eq (by (first | rfl | (simp; done) | (rw [rangesTo_yes (by assumption), Pat.cs_cd, Pat.cs_cd, List.map_append]; rfl) | (rw [rangesTo_no (by assumption)]; done) | (rw [rangesTo_no (by omega)]; done) | (rw [rangesTo_yes (by assumption)]; simp [Pat.cs_len]; done) | (rw [rangesTo_yes (by omega)]; simp [Pat.cs_len]; done) | omega)), trivial⟩⟩
 ·try simp only [Q] at h1p
  refine rn0 (r1 rfl) (.gld ?_)
  all_goals (first | rfl | (have e : i = n := (by omega); rw [e]))
theorem impl_whole_fn {w : List Data} (hw : WT w) {f : Nat → Nat} {a k c : Int} (ht : TyIn w.length ⟨a, k⟩) (hc : c ∈ vctors w ⟨a, k⟩) (hl : (argsOf w ⟨a, k⟩ c).length ≤ 3) : FnD Tryz.prog 261 [.d (sPtr w f), .agg [.d (.i a), .d (.i k)], .d (.i c)] []
  (.agg [.d (.i 4), .d (.i c), .d (.i 0), .d (.i 0), .d (.i 0), .d (encPats (wholeQ w ⟨a, k⟩ c).kids)]) [] := by
 refine bd Tryz.f261 28 [] [] fun w0 F0 own kept hk => ?_
 refine Walk.box (id := 3004) .none rfl rfl rfl rfl rfl rfl rfl ?_
 refine Walk.alloc (id := 3006) tz51 rfl .none rfl rfl rfl rfl ?_
 refine tv ?_
 refine Walk.build st51 (ks := [0, 1]) (xs := [_, _]) rfl rfl .none rfl rfl rfl ?_
 refine Walk.alloc (id := 3007) tz51 rfl .none rfl rfl rfl rfl ?_
 refine Walk.store ty51 .none rfl rfl rfl rfl rfl rfl (by simp) rfl ?_
 refine tv ?_
 refine Walk.call (cr := []) cal171 (impl_argTypes_v hw ht hc) rfl .none rfl rfl (LeL.refl _) trivial rfl rfl rfl ?_
 refine evd [] [] ?_
 refine dr ?_
 refine CWp.tokB 3007 5 9 6 rfl rfl rfl rfl ?_
 refine CWp.loopX (ι := List (Ty) × List (Ty)) hk (fun x => [(18, .d (.i (x.1.length : Int)))]) [19, 20, 21, 22, 23, 24, 25, 26] (fun x => [(3007, some (.box [.d (.i 4), .d (.i c), .d (.i 0), .d (.i 0), .d (.i 0), .gl 9 ((x.1.map fun _ => anyQ).map Pat.cc)])), (9, some (.tok ((x.1.map fun _ => anyQ).map Pat.cc).length 6))]) (fun x => x.1 ++ x.2 = argsOf w ⟨a, k⟩ c) (fun x => x.2.length) ([], argsOf w ⟨a, k⟩ c) (by simp) ⟨⟨_, rfl, (LeA.eqi (by rfl))⟩, trivial⟩ ⟨(by rfl), ⟨beq_nat_eq (by rfl), trivial⟩⟩ (fun x => rfl) (fun x hg1 => ?_)
 obtain ⟨pre, rest⟩ := x
 dsimp only at hg1 ⊢
 refine evc [] [] ?_
 refine sq (fun h1 h1p h1s => ?_) fun h1 h1p h1s => ?_
 ·try simp only [Q] at h1p
  rcases rest with _ | ⟨y, rest⟩
  ·exfalso; simp_all
  refine Walk.call (cr := []) cal114 (impl_anyPattern_fn) rfl .none rfl rfl (LeL.refl _) trivial rfl rfl rfl ?_
  refine Walk.sliceLit sl49 tz51 rfl (by decide) (ks := [0]) (xs := [_]) rfl rfl (by decide) (by decide) .none rfl rfl rfl rfl ?_
  refine Walk.append sl49 zz51 rfl .none rfl rfl rfl rfl (htokL rfl (by first | rfl | (simp; done) | (simp; omega))) (by intro x hx; first | (simp at hx; subst hx; rfl) | exact pat_row _ x hx) (by have := congrArg List.length hg1; simp at this; simp; omega) (by have := congrArg List.length hg1; simp at this; simp; omega) ?_
  refine evd [] [] ?_
  refine Walk.store ty49 .none rfl rfl rfl rfl rfl rfl (by simp) rfl ?_
  refine dr ?_
  refine ar ?_
  refine Exists.intro ((pre ++ [y], rest)) ⟨(by have hz := hg1; rw [← hz]; simp), (by simp), Sub.x (by kernel_rfl) (by kernel_rfl) ⟨⟨_, rfl, (LeA.eqi (by (simp; done)))⟩, trivial⟩ (by kernel_rfl) (by kernel_rfl) ⟨(by (simp [getH]; exact ⟨rfl, rfl, rfl, rfl, rfl, rfl⟩)), ⟨beq_nat_eq (by (simp; done)), trivial⟩⟩⟩
 ·try simp only [Q] at h1p
  have hrest : rest = [] := by
   rcases rest with _ | ⟨a, b⟩
   ·rfl
   ·exfalso; have hz := congrArg List.length (hg1); simp only [List.length_append, List.length_cons, List.length_map] at hz; omega
  subst hrest
  refine Walk.store ty51 .none rfl rfl rfl rfl rfl rfl (by simp) rfl ?_
  refine tv ?_
  refine rn0 (.cons (.cellA ty51 rfl rfl rfl) .nil) (.agg (.cons (.eqd ?_) (.cons (.eqd ?_) (.cons (.eqd ?_) (.cons (.eqd ?_) (.cons (.eqd ?_) (.cons (.gld ?_) .nil)))))))
  all_goals (first | rfl | (rw [List.append_nil] at hg1; subst hg1; rw [← Pat.cs_cd]; all_goals rfl))
def meetP (n : Nat) (a b : Pat) : Pat := (meetQ n a b).getD zeroP
theorem meetP_some {n : Nat} {a b x : Pat} (h : meetQ n a b = some x) : meetP n a b = x := by unfold meetP; rw [h]; rfl
theorem meetP_none {n : Nat} {a b : Pat} (h : meetQ n a b = none) : meetP n a b = zeroP := by unfold meetP; rw [h]; rfl
theorem meet_is {n : Nat} {a b : Pat} (h : (meetQ n a b).isSome = true) : meetQ n a b = some (meetP n a b) := by
 unfold meetP
 cases e : meetQ n a b with
 | none => rw [e] at h; cases h
 | some x => rfl
theorem meet_no {n : Nat} {a b : Pat} (h : (meetQ n a b).isSome = false) : meetQ n a b = none := by
 cases e : meetQ n a b with
 | none => rfl
 | some x => rw [e] at h; cases h
theorem impl_meet_fn {w : List Data} (hs : Spa w) {f : Nat → Nat} : ∀ (n m : Nat) {ta tk : Int} {a b : Pat}, m ≤ n → InS (w.length * 4) ⟨ta, tk⟩ → partP w m ⟨ta, tk⟩ a = true → partP w m ⟨ta, tk⟩ b = true →
  FnD Tryz.prog 263 [.d (sPtr w f), .agg [.d (.i ta), .d (.i tk)], .agg [.d (.i a.op), .d (.i a.ctor), .d (.i a.n), .d (.i a.m), .d (.i a.var), .d (encPats a.kids)], .agg [.d (.i b.op), .d (.i b.ctor), .d (.i b.n), .d (.i b.m), .d (.i b.var), .d (encPats b.kids)]] []
   (.tup [.agg [.d (.i (meetP n a b).op), .d (.i (meetP n a b).ctor), .d (.i (meetP n a b).n), .d (.i (meetP n a b).m), .d (.i (meetP n a b).var), .d (encPats (meetP n a b).kids)], .d (.bool (meetQ n a b).isSome)]) []
 | n, 0, ta, tk, a, b, _, _, ha, _ => by simp [partP] at ha
 | 0, m + 1, ta, tk, a, b, h, _, _, _ => by omega
 | n + 1, m + 1, ta, tk, a, b, hnm, ht, ha, hb => by
  by_cases h1 : a.op = 1
  ·have e := meet_1 (n := n) (b := b) h1
   rw [meetP_some e, e]
   refine bd Tryz.f263 100 [] [] fun w0 F0 own kept hk => ?_
   refine Walk.box (id := 3005) .none rfl rfl rfl rfl rfl rfl rfl ?_
   refine Walk.box (id := 3006) .none rfl rfl rfl rfl rfl rfl rfl ?_
   refine Walk.box (id := 3007) .none rfl rfl rfl rfl rfl rfl rfl ?_
   refine Walk.alloc (id := 3008) tz51 rfl .none rfl rfl rfl rfl ?_
   refine ev ?_
   refine sq (fun h1 h1p h1s => ?_) fun h1 h1p h1s => ?_
   ·try simp only [Q] at h1p
    refine Walk.store ty51 .none rfl rfl rfl rfl rfl rfl (by simp) rfl ?_
    refine ev ?_
    refine rn0 (.cons (.cellA ty51 rfl rfl rfl) (.cons (.tmp rfl) .nil)) (.tup (.cons (.agg (.cons (.eqd ?_) (.cons (.eqd ?_) (.cons (.eqd ?_) (.cons (.eqd ?_) (.cons (.eqd ?_) (.cons (.eqd ?_) .nil))))))) (.cons (.eqd ?_) .nil)))
    all_goals (rfl)
   ·try simp only [Q] at h1p
    exfalso; omega --stop
  by_cases h2 : b.op = 1
  ·have e := meet_2 (n := n) h1 h2
   rw [meetP_some e, e]
   refine bd Tryz.f263 100 [] [] fun w0 F0 own kept hk => ?_
   refine Walk.box (id := 3005) .none rfl rfl rfl rfl rfl rfl rfl ?_
   refine Walk.box (id := 3006) .none rfl rfl rfl rfl rfl rfl rfl ?_
   refine Walk.box (id := 3007) .none rfl rfl rfl rfl rfl rfl rfl ?_
   refine Walk.alloc (id := 3008) tz51 rfl .none rfl rfl rfl rfl ?_
   refine ev ?_
   refine sq (fun h1 h1p h1s => ?_) fun h1 h1p h1s => ?_
   ·try simp only [Q] at h1p
    exfalso; omega --stop
   ·try simp only [Q] at h1p
    refine sq (fun h2 h2p h2s => ?_) fun h2 h2p h2s => ?_
    ·try simp only [Q] at h2p
     refine Walk.store ty51 .none rfl rfl rfl rfl rfl rfl (by simp) rfl ?_
     refine ev ?_
     refine rn0 (.cons (.cellA ty51 rfl rfl rfl) (.cons (.tmp rfl) .nil)) (.tup (.cons (.agg (.cons (.eqd ?_) (.cons (.eqd ?_) (.cons (.eqd ?_) (.cons (.eqd ?_) (.cons (.eqd ?_) (.cons (.eqd ?_) .nil))))))) (.cons (.eqd ?_) .nil)))
     all_goals (rfl)
    ·try simp only [Q] at h2p
     exfalso; omega --stop
  by_cases h3 : a.op = 3
  ·have e := meet_3 (n := n) h3 h2
   by_cases hr : maxQ a.n b.n ≤ minQ a.m b.m
   ·rw [if_pos hr] at e
    have er : rangesTo [maxQ a.n b.n, minQ a.m b.m] 1 = [intQ (maxQ a.n b.n) (minQ a.m b.m)] := by rw [ranges_2]; exact if_pos hr
    have hrg := impl_ranges_fn (l := [maxQ a.n b.n, minQ a.m b.m]) (n := 1) rfl (by omega)
    rw [er] at hrg
    rw [meetP_some e, e]
    refine bd Tryz.f263 100 [] [] fun w0 F0 own kept hk => ?_
    refine Walk.box (id := 3005) .none rfl rfl rfl rfl rfl rfl rfl ?_
    refine Walk.box (id := 3006) .none rfl rfl rfl rfl rfl rfl rfl ?_
    refine Walk.box (id := 3007) .none rfl rfl rfl rfl rfl rfl rfl ?_
    refine Walk.alloc (id := 3008) tz51 rfl .none rfl rfl rfl rfl ?_
    refine ev ?_
    refine sq (fun h1 h1p h1s => ?_) fun h1 h1p h1s => ?_
    ·try simp only [Q, Pat.cs_len] at h1p
     exfalso; omega --stop
    ·try simp only [Q, Pat.cs_len] at h1p
     refine sq (fun h2 h2p h2s => ?_) fun h2 h2p h2s => ?_
     ·try simp only [Q, Pat.cs_len] at h2p
      exfalso; omega --stop
     ·try simp only [Q, Pat.cs_len] at h2p
      refine sq (fun h3 h3p h3s => ?_) fun h3 h3p h3s => ?_
      ·try simp only [Q, Pat.cs_len] at h3p
       refine Walk.maxI .none rfl rfl rfl ?_
       refine ev ?_
       refine Walk.minI .none rfl rfl rfl ?_
       refine Walk.sliceLit sl54 tz3 rfl (by decide) (ks := [0, 1]) (xs := [_, _]) rfl rfl (by decide) (by decide) .none rfl rfl rfl rfl ?_
       refine Walk.call (cr := []) cal260 (hrg) rfl .none rfl rfl (LeL.refl _) trivial rfl rfl rfl ?_
       refine ev ?_
       refine sq (fun h4 h4p h4s => ?_) fun h4 h4p h4s => ?_
       ·try simp only [Q, Pat.cs_len] at h4p
        exfalso; simp [Pat.cs_len] at h4 --stop
       ·try simp only [Q, Pat.cs_len] at h4p
        refine Walk.idx (i := 0) sl49 .none rfl rfl rfl rfl (rfl) rfl ?_
        refine ev ?_
        refine Walk.store ty51 .none rfl rfl rfl rfl rfl rfl (by simp) rfl ?_
        refine ev ?_
        refine rn0 (.cons (.cellA ty51 rfl rfl rfl) (.cons (.tmp rfl) .nil)) (.tup (.cons (.agg (.cons (.eqd ?_) (.cons (.eqd ?_) (.cons (.eqd ?_) (.cons (.eqd ?_) (.cons (.eqd ?_) (.cons (.eqd ?_) .nil))))))) (.cons (.eqd ?_) .nil)))
        all_goals (rfl)
      ·try simp only [Q, Pat.cs_len] at h3p
       exfalso; omega --stop
   ·skip
    rw [if_neg hr] at e
    have er : rangesTo [maxQ a.n b.n, minQ a.m b.m] 1 = [] := by rw [ranges_2]; exact if_neg hr
    have hrg := impl_ranges_fn (l := [maxQ a.n b.n, minQ a.m b.m]) (n := 1) rfl (by omega)
    rw [er] at hrg
    rw [meetP_none e, e]
    refine bd Tryz.f263 100 [] [] fun w0 F0 own kept hk => ?_
    refine Walk.box (id := 3005) .none rfl rfl rfl rfl rfl rfl rfl ?_
    refine Walk.box (id := 3006) .none rfl rfl rfl rfl rfl rfl rfl ?_
    refine Walk.box (id := 3007) .none rfl rfl rfl rfl rfl rfl rfl ?_
    refine Walk.alloc (id := 3008) tz51 rfl .none rfl rfl rfl rfl ?_
    refine ev ?_
    refine sq (fun h1 h1p h1s => ?_) fun h1 h1p h1s => ?_
    ·try simp only [Q, Pat.cs_len] at h1p
     exfalso; omega --stop
    ·try simp only [Q, Pat.cs_len] at h1p
     refine sq (fun h2 h2p h2s => ?_) fun h2 h2p h2s => ?_
     ·try simp only [Q, Pat.cs_len] at h2p
      exfalso; omega --stop
     ·try simp only [Q, Pat.cs_len] at h2p
      refine sq (fun h3 h3p h3s => ?_) fun h3 h3p h3s => ?_
      ·try simp only [Q, Pat.cs_len] at h3p
       refine Walk.maxI .none rfl rfl rfl ?_
       refine ev ?_
       refine Walk.minI .none rfl rfl rfl ?_
       refine Walk.sliceLit sl54 tz3 rfl (by decide) (ks := [0, 1]) (xs := [_, _]) rfl rfl (by decide) (by decide) .none rfl rfl rfl rfl ?_
       refine Walk.call (cr := []) cal260 (hrg) rfl .none rfl rfl (LeL.refl _) trivial rfl rfl rfl ?_
       refine ev ?_
       refine sq (fun h4 h4p h4s => ?_) fun h4 h4p h4s => ?_
       ·try simp only [Q, Pat.cs_len] at h4p
        refine Walk.build st51 (ks := []) (xs := []) rfl rfl .none rfl rfl rfl ?_
        refine Walk.store ty51 .none rfl rfl rfl rfl rfl rfl (by simp) rfl ?_
        refine ev ?_
        refine rn0 (.cons (.cellA ty51 rfl rfl rfl) (.cons (.tmp rfl) .nil)) (.tup (.cons (.agg (.cons (.eqd ?_) (.cons (.eqd ?_) (.cons (.eqd ?_) (.cons (.eqd ?_) (.cons (.eqd ?_) (.cons (.nild ?_) .nil))))))) (.cons (.eqd ?_) .nil)))
        all_goals (rfl)
       ·try simp only [Q, Pat.cs_len] at h4p
        exfalso; simp [Pat.cs] at h4 --stop
      ·try simp only [Q, Pat.cs_len] at h3p
       exfalso; omega --stop
  have oa := part_op ha
  have h4 : a.op = 4 := by omega
  have h4b : b.op = 4 := by have := same_op ha hb h1 h2; omega
  by_cases hc : a.ctor = b.ctor
  ·obtain ⟨c1, c2, c3, c4⟩ := part_ctor ha h4
   obtain ⟨d1, d2, d3, d4⟩ := part_ctor hb h4b
   rw [← hc] at d3
   have h3l := hs.args ⟨ta, tk⟩ a.ctor ht c1
   have ka := fun i (hi : i < a.kids.length) => part_kid ha hi
   have kb := fun i (hi : i < b.kids.length) => part_kid hb hi
   rw [types4 h4] at ka
   rw [types4 h4b, ← hc] at kb
   have e := meet_4 (n := n) h4 h2 hc
   have hlen : a.kids.length = b.kids.length := by omega
   have ih := fun i (hi : i < (argsOf w ⟨ta, tk⟩ a.ctor).length) => impl_meet_fn hs n m (f := f) (ta := (nth (argsOf w ⟨ta, tk⟩ a.ctor) i).data) (tk := (nth (argsOf w ⟨ta, tk⟩ a.ctor) i).index) (a := nth a.kids i) (b := nth b.kids i) (by omega) (args_ins hs.dp ht c1 _ (nth_mem hi)) (ka i (by omega)) (kb i (by omega))
   refine bd Tryz.f263 100 [] [] fun w0 F0 own kept hk => ?_
   refine Walk.box (id := 3005) .none rfl rfl rfl rfl rfl rfl rfl ?_
   refine Walk.box (id := 3006) .none rfl rfl rfl rfl rfl rfl rfl ?_
   refine Walk.box (id := 3007) .none rfl rfl rfl rfl rfl rfl rfl ?_
   refine Walk.alloc (id := 3008) tz51 rfl .none rfl rfl rfl rfl ?_
   refine ev ?_
   refine sq (fun h1 h1p h1s => ?_) fun h1 h1p h1s => ?_
   ·try simp only [Q, Pat.cs_len] at h1p
    exfalso; omega --stop
   ·try simp only [Q, Pat.cs_len] at h1p
    refine sq (fun h2 h2p h2s => ?_) fun h2 h2p h2s => ?_
    ·try simp only [Q, Pat.cs_len] at h2p
     exfalso; omega --stop
    ·try simp only [Q, Pat.cs_len] at h2p
     refine sq (fun h3 h3p h3s => ?_) fun h3 h3p h3s => ?_
     ·try simp only [Q, Pat.cs_len] at h3p
      exfalso; omega --stop
     ·try simp only [Q, Pat.cs_len] at h3p
      refine sq (fun h4 h4p h4s => ?_) fun h4 h4p h4s => ?_
      ·try simp only [Q, Pat.cs_len] at h4p
       exfalso; omega --stop
      ·try simp only [Q, Pat.cs_len] at h4p
       refine Walk.build st51 (ks := [0, 1]) (xs := [_, _]) rfl rfl .none rfl rfl rfl ?_
       refine Walk.alloc (id := 3011) tz51 rfl .none rfl rfl rfl rfl ?_
       refine Walk.store ty51 .none rfl rfl rfl rfl rfl rfl (by simp) rfl ?_
       refine tv ?_
       refine Walk.call (cr := []) cal171 (impl_argTypes_v hs.dp.wt (ins_tyin ht) c1) rfl .none rfl rfl (LeL.refl _) trivial rfl rfl rfl ?_
       refine evd [] [] ?_
       refine dr ?_
       refine CWp.tokB 3011 5 9 6 rfl rfl rfl rfl ?_
       refine CWp.loopX (ι := Nat × List Pat) hk (fun x => [(68, .d (.i (x.1 : Int)))]) [9, 12, 13, 14, 15, 69, 70, 71, 72, 73, 74, 75, 76, 77, 78, 79, 80, 81, 82, 83, 84, 85, 86, 87, 88, 89, 90, 91, 92, 93, 94, 95, 96, 97, 98] (fun x => [(3011, some (.box [.d (.i 4), .d (.i a.ctor), .d (.i 0), .d (.i 0), .d (.i 0), .gl 9 (x.2.map Pat.cc)])), (9, some (.tok (x.2.map Pat.cc).length 6))]) (fun x => x.1 ≤ a.kids.length ∧ x.2.length = x.1 ∧ meetL (meetQ n) (a.kids.drop x.1) (b.kids.drop x.1) x.2 = meetL (meetQ n) a.kids b.kids []) (fun x => a.kids.length - x.1) (0, []) ⟨by simp, rfl, rfl⟩ ⟨⟨_, rfl, (LeA.eqi (by first | rfl | (simp; done) | (simp_all; done) | omega))⟩, trivial⟩ ⟨(by first | rfl | (simp [getH]; done)), ⟨beq_nat_eq (by rfl), trivial⟩⟩ (fun x => rfl) (fun x hg1 => ?_)
       refine evc [] [] ?_
       refine sq (fun h5 h5p h5s => ?_) fun h5 h5p h5s => ?_
       ·try simp only [Q, Pat.cs_len] at h5p
        refine Walk.idx sl182 .none rfl rfl rfl rfl (at_nth (by omega)) rfl ?_
        refine ev ?_
        refine Walk.alloc (id := 3013) tz42 rfl .none rfl rfl rfl rfl ?_
        refine ev ?_
        refine Walk.store ty42 .none rfl rfl rfl rfl rfl rfl (by simp) rfl ?_
        refine tv ?_
        refine Walk.idx sl49 .none rfl rfl rfl rfl (pats_at (by omega)) rfl ?_
        refine evd [] [] ?_
        refine Walk.idx sl49 .none rfl rfl rfl rfl (pats_at (by omega)) rfl ?_
        refine evd [] [] ?_
        refine Walk.call (cr := []) cal263 (ih x.1 (by omega)) rfl .none rfl rfl (LeL.refl _) trivial rfl rfl rfl ?_
        refine evd [] [] ?_
        refine Walk.alloc (id := 3014) tz51 rfl .none rfl rfl rfl rfl ?_
        refine Walk.store ty51 .none rfl rfl rfl rfl rfl rfl (by simp) rfl ?_
        refine evd [] [] ?_
        refine dr ?_
        refine sq (fun h6 h6p h6s => ?_) fun h6 h6p h6s => ?_
        ·try simp only [Q, Pat.cs_len] at h6p
         refine Walk.build st51 (ks := []) (xs := []) rfl rfl .none rfl rfl rfl ?_
         refine Walk.store ty51 .none rfl rfl rfl rfl rfl rfl (by simp) rfl ?_
         refine ev ?_
         refine rn0 (.cons (.cellA ty51 rfl rfl rfl) (.cons (.tmp rfl) .nil)) (.tup (.cons (.agg (.cons (.eqd ?_) (.cons (.eqd ?_) (.cons (.eqd ?_) (.cons (.eqd ?_) (.cons (.eqd ?_) (.cons (.nild ?_) .nil))))))) (.cons (.eqd ?_) .nil)))
         all_goals ((have e2 : meetQ (n + 1) a b = none := (by rw [e, ← hg1.2.2, meetL_none (by omega) (by omega) (meet_no (by assumption))]; rfl); (first | rw [meetP_none e2] | rw [e2]); all_goals rfl))
        ·try simp only [Q, Pat.cs_len] at h6p
         refine Walk.sliceLit sl49 tz51 rfl (by decide) (ks := [0]) (xs := [_]) rfl rfl (by decide) (by decide) .none rfl rfl rfl rfl ?_
         refine Walk.append sl49 zz51 rfl .none rfl rfl rfl rfl (htokL rfl (by first | rfl | (simp; done) | (simp; omega))) (by intro x hx; first | (simp at hx; subst hx; rfl) | exact pat_row _ x hx) (by simp; omega) (by simp; omega) ?_
         refine ev ?_
         refine Walk.store ty49 .none rfl rfl rfl rfl rfl rfl (by simp) rfl ?_
         refine tv ?_
         refine ar ?_
         refine Exists.intro ((x.1 + 1, x.2 ++ [meetP n (nth a.kids x.1) (nth b.kids x.1)])) ⟨⟨by dsimp only; omega, by dsimp only; rw [List.length_append, hg1.2.1]; rfl, by dsimp only; rw [← meetL_some (by omega) (by omega) (meet_is (by assumption))]; exact hg1.2.2⟩, (by dsimp only; omega), Sub.x (by kernel_rfl) (by kernel_rfl) ⟨⟨_, rfl, (LeA.eqi (by first | rfl | (simp; done) | (simp_all; done) | omega))⟩, trivial⟩ (by kernel_rfl) (by kernel_rfl) ⟨(by first | rfl | (simp [getH]; done)), ⟨beq_nat_eq (by (simp; done)), trivial⟩⟩⟩
       ·try simp only [Q, Pat.cs_len] at h5p
        refine Walk.store ty51 .none rfl rfl rfl rfl rfl rfl (by simp) rfl ?_
        refine ev ?_
        refine rn0 (.cons (.cellA ty51 rfl rfl rfl) (.cons (.tmp rfl) .nil)) (.tup (.cons (.agg (.cons (.eqd ?_) (.cons (.eqd ?_) (.cons (.eqd ?_) (.cons (.eqd ?_) (.cons (.eqd ?_) (.cons (.gld ?_) .nil))))))) (.cons (.eqd ?_) .nil)))
        all_goals (first | (have e2 : meetQ (n + 1) a b = none := (by rw [e, ← hg1.2.2, meetL_none (by omega) (by omega) (meet_no (by assumption))]; rfl); (first | rw [meetP_none e2] | rw [e2]); all_goals rfl) | (have e2 : meetQ (n + 1) a b = some (ctorQ a.ctor x.2) := (by rw [e, ← hg1.2.2, meetL_end (by omega)]; rfl); rw [meetP_some e2, Pat.cs_cd]; all_goals rfl) | (have e2 : meetQ (n + 1) a b = some (ctorQ a.ctor x.2) := (by rw [e, ← hg1.2.2, meetL_end (by omega)]; rfl); rw [meetP_some e2]; all_goals rfl) | (have e2 : meetQ (n + 1) a b = some (ctorQ a.ctor x.2) := (by rw [e, ← hg1.2.2, meetL_end (by omega)]; rfl); rw [e2]; all_goals rfl))
  ·skip
   have e := meet_4n (n := n) h4 h2 hc
   rw [meetP_none e, e]
   refine bd Tryz.f263 100 [] [] fun w0 F0 own kept hk => ?_
   refine Walk.box (id := 3005) .none rfl rfl rfl rfl rfl rfl rfl ?_
   refine Walk.box (id := 3006) .none rfl rfl rfl rfl rfl rfl rfl ?_
   refine Walk.box (id := 3007) .none rfl rfl rfl rfl rfl rfl rfl ?_
   refine Walk.alloc (id := 3008) tz51 rfl .none rfl rfl rfl rfl ?_
   refine ev ?_
   refine sq (fun h1 h1p h1s => ?_) fun h1 h1p h1s => ?_
   ·try simp only [Q] at h1p
    exfalso; omega --stop
   ·try simp only [Q] at h1p
    refine sq (fun h2 h2p h2s => ?_) fun h2 h2p h2s => ?_
    ·try simp only [Q] at h2p
     exfalso; omega --stop
    ·try simp only [Q] at h2p
     refine sq (fun h3 h3p h3s => ?_) fun h3 h3p h3s => ?_
     ·try simp only [Q] at h3p
      exfalso; omega --stop
     ·try simp only [Q] at h3p
      refine sq (fun h4 h4p h4s => ?_) fun h4 h4p h4s => ?_
      ·try simp only [Q] at h4p
       refine Walk.build st51 (ks := []) (xs := []) rfl rfl .none rfl rfl rfl ?_
       refine Walk.store ty51 .none rfl rfl rfl rfl rfl rfl (by simp) rfl ?_
       refine ev ?_
       refine rn0 (.cons (.cellA ty51 rfl rfl rfl) (.cons (.tmp rfl) .nil)) (.tup (.cons (.agg (.cons (.eqd ?_) (.cons (.eqd ?_) (.cons (.eqd ?_) (.cons (.eqd ?_) (.cons (.eqd ?_) (.cons (.nild ?_) .nil))))))) (.cons (.eqd ?_) .nil)))
       all_goals (rfl)
      ·try simp only [Q] at h4p
       exfalso; omega --stop
theorem minusK_at {f : Ty → Pat → Pat → List Pat} {c : Int} {ts : List Ty} {xs bs front : List Pat} {i : Nat} (h1 : i < ts.length) (h2 : i < xs.length) (h3 : i < bs.length) :
  minusK f c (ts.drop i) (xs.drop i) (bs.drop i) front = (f (nth ts i) (nth xs i) (nth bs i)).map (fun z => ctorQ c (front ++ [z] ++ xs.drop (i + 1))) ++ (match meetQ 11 (nth xs i) (nth bs i) with
   | none => []
   | some both => minusK f c (ts.drop (i + 1)) (xs.drop (i + 1)) (bs.drop (i + 1)) (front ++ [both])) := by
 rw [drop_nth h1, drop_nth h2, drop_nth h3, minusK]
 all_goals (cases meetQ 11 (nth xs i) (nth bs i) <;> rfl)
theorem minusK_some {f : Ty → Pat → Pat → List Pat} {c : Int} {ts : List Ty} {xs bs front : List Pat} {i : Nat} (h1 : i < ts.length) (h2 : i < xs.length) (h3 : i < bs.length) (h : (meetQ 11 (nth xs i) (nth bs i)).isSome = true) :
  minusK f c (ts.drop i) (xs.drop i) (bs.drop i) front = (f (nth ts i) (nth xs i) (nth bs i)).map (fun z => ctorQ c (front ++ [z] ++ xs.drop (i + 1))) ++ minusK f c (ts.drop (i + 1)) (xs.drop (i + 1)) (bs.drop (i + 1)) (front ++ [meetP 11 (nth xs i) (nth bs i)]) := by
 rw [minusK_at h1 h2 h3, meet_is h]
theorem minusK_none {f : Ty → Pat → Pat → List Pat} {c : Int} {ts : List Ty} {xs bs front : List Pat} {i : Nat} (h1 : i < ts.length) (h2 : i < xs.length) (h3 : i < bs.length) (h : (meetQ 11 (nth xs i) (nth bs i)).isSome = false) :
  minusK f c (ts.drop i) (xs.drop i) (bs.drop i) front = (f (nth ts i) (nth xs i) (nth bs i)).map (fun z => ctorQ c (front ++ [z] ++ xs.drop (i + 1))) := by
 rw [minusK_at h1 h2 h3, meet_no h, List.append_nil]
theorem minusK_end {f : Ty → Pat → Pat → List Pat} {c : Int} {ts : List Ty} {xs bs front : List Pat} {i : Nat} (h1 : ts.length ≤ i) : minusK f c (ts.drop i) (xs.drop i) (bs.drop i) front = [] := by
 rw [List.drop_eq_nil_of_le h1]; rfl
theorem pow_le10 {n : Nat} (h : n ≤ 11) : 4 ^ n ≤ 4194304 := Nat.le_trans (Nat.pow_le_pow_right (by omega) h) (by decide)
theorem minus_bd {w : List Data} (hs : Spa w) {n m : Nat} {t : Ty} {a b : Pat} (h : n < m) (h10 : n ≤ 10) (ht : InS (w.length * 4) t) (ha : partP w m t a = true) (hb : partP w n t b = true) : (minusQ w n t a b).length ≤ 20000000 := by
 have h1 := minus_len hs n m h ht ha hb
 have h2 := (part_ok hs n ht hb).2
 have h3 := pow_le10 (n := n) (by omega)
 omega
theorem concat3 {A B : List Pat} {y : Pat} {xs : List (List D)} (hx : xs = Pat.cs B) (hb : A.length + 1 + B.length ≤ 1000) :
  FnD Tryz.prog 262 [.d (.sl [[.sl (A.map Pat.cc)], [.sl [Pat.cc y]], [.sl xs]])] [] (.d (encPats (A ++ [y] ++ B))) [] := by
 have h := slices_Concat_P_fn (ls := [A, [y], B]) (by simp) (by simp; omega) (by simp; omega)
 have e : [A, [y], B].flatten = A ++ [y] ++ B := by simp
 rw [e] at h
 subst hx
 have e2 : encLs [A, [y], B] = .sl [[.sl (A.map Pat.cc)], [.sl [Pat.cc y]], [.sl (Pat.cs B)]] := by
  show D.sl [[.sl (Pat.cs A)], [.sl (Pat.cs [y])], [.sl (Pat.cs B)]] = _
  rw [Pat.cs_cd A, Pat.cs_cd [y]]; rfl
 rw [e2] at h
 exact h
section
variable {w : List Data} {f : Nat → Nat}
abbrev MinusFn (w : List Data) (f : Nat → Nat) (n : Nat) (ta tk : Int) (a b : Pat) : Prop :=
 FnD Tryz.prog 191 [.d (sPtr w f), .agg [.d (.i ta), .d (.i tk)], .agg [.d (.i a.op), .d (.i a.ctor), .d (.i a.n), .d (.i a.m), .d (.i a.var), .d (encPats a.kids)], .agg [.d (.i b.op), .d (.i b.ctor), .d (.i b.n), .d (.i b.m), .d (.i b.var), .d (encPats b.kids)]] [] (.d (encPats (minusQ w n ⟨ta, tk⟩ a b))) []
theorem impl_minus_1 {n : Nat} {ta tk : Int} {a b : Pat} (h : b.op = 1) : MinusFn w f (n + 1) ta tk a b := by
 unfold MinusFn
 rw [minus_1 h]
 refine bd Tryz.f191 159 [] [] fun w0 F0 own kept hk => ?_
 refine Walk.box (id := 3005) .none rfl rfl rfl rfl rfl rfl rfl ?_
 refine Walk.box (id := 3006) .none rfl rfl rfl rfl rfl rfl rfl ?_
 refine Walk.box (id := 3007) .none rfl rfl rfl rfl rfl rfl rfl ?_
 refine ev ?_
 refine sq (fun h1 h1p h1s => ?_) fun h1 h1p h1s => ?_
 ·try simp only [Q] at h1p
  refine rn0 (r1 rfl) (.nild ?_)
  all_goals (rfl)
 ·try simp only [Q] at h1p
  exfalso; omega --stop
theorem impl_minus_3 {n : Nat} {ta tk : Int} {a b : Pat} (h : b.op = 3) (hbn : 0 ≤ b.n ∧ b.n ≤ 9) (hbm : 0 ≤ b.m ∧ b.m ≤ 9) : MinusFn w f (n + 1) ta tk a b := by
 unfold MinusFn
 rw [minus_3 h]
 have er : rangesTo [lowQ a, minQ (highQ a) (b.n - 1), maxQ (lowQ a) (b.m + 1), highQ a] 2 = minusI a b := ranges_4 _ _ _ _
 have hrg := impl_ranges_fn (l := [lowQ a, minQ (highQ a) (b.n - 1), maxQ (lowQ a) (b.m + 1), highQ a]) (n := 2) rfl (by omega)
 rw [er] at hrg
 refine bd Tryz.f191 159 [] [] fun w0 F0 own kept hk => ?_
 refine Walk.box (id := 3005) .none rfl rfl rfl rfl rfl rfl rfl ?_
 refine Walk.box (id := 3006) .none rfl rfl rfl rfl rfl rfl rfl ?_
 refine Walk.box (id := 3007) .none rfl rfl rfl rfl rfl rfl rfl ?_
 refine ev ?_
 refine sq (fun h1 h1p h1s => ?_) fun h1 h1p h1s => ?_
 ·try simp only [Q] at h1p
  exfalso; omega --stop
 ·try simp only [Q] at h1p
  refine sq (fun h2 h2p h2s => ?_) fun h2 h2p h2s => ?_
  ·try simp only [Q] at h2p
   refine Walk.call (cr := []) cal259 (impl_numbers_fn) rfl .none rfl rfl (LeL.refl _) trivial rfl rfl rfl ?_
   refine ev ?_
   refine ar ?_
   refine Walk.minI .none rfl rfl rfl ?_
   refine ev ?_
   refine ar ?_
   refine Walk.maxI .none rfl rfl rfl ?_
   refine ev ?_
   refine Walk.sliceLit sl54 tz3 rfl (by decide) (ks := [0, 1, 2, 3]) (xs := [_, _, _, _]) rfl rfl (by decide) (by decide) .none rfl rfl rfl rfl ?_
   refine Walk.call (cr := []) cal260 (hrg) rfl .none rfl rfl (LeL.refl _) trivial rfl rfl rfl ?_
   refine ev ?_
   refine rn0 (r1 rfl) (.eqd ?_)
   all_goals (first | rfl | (simp [h1s, h1p, h2s, h2p]; done) | (simp_all; done) | (simp_all; omega) | omega)
  ·try simp only [Q] at h2p
   exfalso; omega --stop
theorem impl_minus_n {n : Nat} {ta tk : Int} {a b : Pat} (h4 : a.op = 4) (h4b : b.op = 4) (hc : ¬ a.ctor = b.ctor) : MinusFn w f (n + 1) ta tk a b := by
 unfold MinusFn
 have e : minusQ w (n + 1) ⟨ta, tk⟩ a b = [a] := by rw [minus_c h4b h4]; exact if_neg hc
 rw [e]
 refine bd Tryz.f191 159 [] [] fun w0 F0 own kept hk => ?_
 refine Walk.box (id := 3005) .none rfl rfl rfl rfl rfl rfl rfl ?_
 refine Walk.box (id := 3006) .none rfl rfl rfl rfl rfl rfl rfl ?_
 refine Walk.box (id := 3007) .none rfl rfl rfl rfl rfl rfl rfl ?_
 refine ev ?_
 refine sq (fun h1 h1p h1s => ?_) fun h1 h1p h1s => ?_
 ·try simp only [Q] at h1p
  exfalso; omega --stop
 ·try simp only [Q] at h1p
  refine sq (fun h2 h2p h2s => ?_) fun h2 h2p h2s => ?_
  ·try simp only [Q] at h2p
   exfalso; omega --stop
  ·try simp only [Q] at h2p
   refine sq (fun h3 h3p h3s => ?_) fun h3 h3p h3s => ?_
   ·try simp only [Q] at h3p
    exfalso; omega --stop
   ·try simp only [Q] at h3p
    refine sq (fun h4 h4p h4s => ?_) fun h4 h4p h4s => ?_
    ·try simp only [Q] at h4p
     refine Walk.sliceLit sl49 tz51 rfl (by decide) (ks := [0]) (xs := [_]) rfl rfl (by decide) (by decide) .none rfl rfl rfl rfl ?_
     refine ev ?_
     refine rn0 (r1 rfl) (.eqd ?_)
     all_goals (first | rfl | (cases a; rfl))
    ·try simp only [Q] at h4p
     exfalso; omega --stop
theorem impl_minus_c (hs : Spa w) {n m : Nat} (hn : n + 1 ≤ 10) (hm : m + 1 ≤ 11) (hnm : n < m)
  (ih : ∀ {ta tk : Int} {a b : Pat}, InS (w.length * 4) ⟨ta, tk⟩ → partP w m ⟨ta, tk⟩ a = true → partP w n ⟨ta, tk⟩ b = true → MinusFn w f n ta tk a b)
  {ta tk : Int} {a b : Pat} (ht : InS (w.length * 4) ⟨ta, tk⟩) (ha : partP w (m + 1) ⟨ta, tk⟩ a = true) (hb : partP w (n + 1) ⟨ta, tk⟩ b = true) (h4 : a.op = 4) (h4b : b.op = 4) (hc : a.ctor = b.ctor) : MinusFn w f (n + 1) ta tk a b := by
 obtain ⟨c1, c2, c3, -⟩ := part_ctor ha h4
 obtain ⟨d1, d2, d3, -⟩ := part_ctor hb h4b
 rw [← hc] at d3
 have h3l := hs.args ⟨ta, tk⟩ a.ctor ht c1
 have ka := fun i (hi : i < a.kids.length) => part_kid ha hi
 have kb := fun i (hi : i < b.kids.length) => part_kid hb hi
 rw [types4 h4] at ka
 rw [types4 h4b, ← hc] at kb
 have hbd := minus_bd hs (n := n + 1) (m := m + 1) (by omega) hn ht ha hb
 have e : minusQ w (n + 1) ⟨ta, tk⟩ a b = minusK (minusQ w n) a.ctor (argsOf w ⟨ta, tk⟩ a.ctor) a.kids b.kids [] := by rw [minus_c h4b h4]; exact if_pos hc
 have hins := fun i (hi : i < (argsOf w ⟨ta, tk⟩ a.ctor).length) => args_ins hs.dp ht c1 _ (nth_mem hi)
 have hmi : ∀ i, i < (argsOf w ⟨ta, tk⟩ a.ctor).length → FnD Tryz.prog 191 [.d (sPtr w f), .agg [.d (.i (nth (argsOf w ⟨ta, tk⟩ a.ctor) i).data), .d (.i (nth (argsOf w ⟨ta, tk⟩ a.ctor) i).index)], .agg [.d (.i (nth a.kids i).op), .d (.i (nth a.kids i).ctor), .d (.i (nth a.kids i).n), .d (.i (nth a.kids i).m), .d (.i (nth a.kids i).var), .d (encPats (nth a.kids i).kids)], .agg [.d (.i (nth b.kids i).op), .d (.i (nth b.kids i).ctor), .d (.i (nth b.kids i).n), .d (.i (nth b.kids i).m), .d (.i (nth b.kids i).var), .d (encPats (nth b.kids i).kids)]] [] (.d (encPats (minusQ w n (nth (argsOf w ⟨ta, tk⟩ a.ctor) i) (nth a.kids i) (nth b.kids i)))) [] := fun i hi => ih (ta := (nth (argsOf w ⟨ta, tk⟩ a.ctor) i).data) (tk := (nth (argsOf w ⟨ta, tk⟩ a.ctor) i).index) (hins i hi) (ka i (by omega)) (kb i (by omega))
 have hme := fun i (hi : i < (argsOf w ⟨ta, tk⟩ a.ctor).length) => impl_meet_fn hs 11 m (f := f) (ta := (nth (argsOf w ⟨ta, tk⟩ a.ctor) i).data) (tk := (nth (argsOf w ⟨ta, tk⟩ a.ctor) i).index) (by omega) (hins i hi) (ka i (by omega)) (part_le (by omega) (kb i (by omega)))
 unfold MinusFn
 rw [e] at hbd ⊢
 have hT : ∀ i out front, i < (argsOf w ⟨ta, tk⟩ a.ctor).length → out ++ minusK (minusQ w n) a.ctor ((argsOf w ⟨ta, tk⟩ a.ctor).drop i) (a.kids.drop i) (b.kids.drop i) front = minusK (minusQ w n) a.ctor (argsOf w ⟨ta, tk⟩ a.ctor) a.kids b.kids [] →
   out.length + (minusQ w n (nth (argsOf w ⟨ta, tk⟩ a.ctor) i) (nth a.kids i) (nth b.kids i)).length ≤ 20000000 := fun i out front hi h => by
  rw [minusK_at hi (by omega) (by omega)] at h
  have := congrArg List.length h
  simp only [List.length_append, List.length_map] at this
  omega
 refine bd Tryz.f191 159 [14, 15] [] fun w0 F0 own kept hk => ?_
 refine Walk.box (id := 3005) .none rfl rfl rfl rfl rfl rfl rfl ?_
 refine Walk.box (id := 3006) .none rfl rfl rfl rfl rfl rfl rfl ?_
 refine Walk.box (id := 3007) .none rfl rfl rfl rfl rfl rfl rfl ?_
 refine evs [14, 15] [] ?_
 refine sq (fun h1 h1p h1s => ?_) fun h1 h1p h1s => ?_
 ·try simp only [Q, Pat.cs_len] at h1p
  exfalso; omega --stop
 ·try simp only [Q, Pat.cs_len] at h1p
  refine sq (fun h2 h2p h2s => ?_) fun h2 h2p h2s => ?_
  ·try simp only [Q, Pat.cs_len] at h2p
   exfalso; omega --stop
  ·try simp only [Q, Pat.cs_len] at h2p
   refine sq (fun h3 h3p h3s => ?_) fun h3 h3p h3s => ?_
   ·try simp only [Q, Pat.cs_len] at h3p
    exfalso; omega --stop
   ·try simp only [Q, Pat.cs_len] at h3p
    refine sq (fun h4 h4p h4s => ?_) fun h4 h4p h4s => ?_
    ·try simp only [Q, Pat.cs_len] at h4p
     exfalso; omega --stop
    ·try simp only [Q, Pat.cs_len] at h4p
     refine Walk.assignNil 9 6 .none rfl rfl ?_
     refine Walk.assignNil 8 6 .none rfl rfl ?_
     refine tv ?_
     refine Walk.call (cr := []) cal171 (impl_argTypes_v hs.dp.wt (ins_tyin ht) c1) rfl .none rfl rfl (LeL.refl _) trivial rfl rfl rfl ?_
     refine evd [14, 15] [] ?_
     refine dr ?_
     refine CWp.loopX (ι := Nat × List Pat × List Pat) hk (fun s => [(94, .d (.i (s.1 : Int))), (14, .gl 9 (s.2.1.map Pat.cc)), (15, .gl 8 (s.2.2.map Pat.cc))]) [16, 17, 19, 20, 21, 22, 95, 96, 97, 98, 99, 100, 101, 102, 103, 104, 105, 106, 107, 108, 109, 110, 111, 112, 113, 114, 115, 116, 117, 118, 119, 120, 121, 122, 123, 124, 125, 126, 127, 128, 129, 130, 131, 132, 133, 134, 135, 136, 137, 138, 139, 140, 141, 142, 143, 144, 145, 146, 147, 148, 149, 150, 151, 152, 153, 154, 155, 156, 157] (fun s => [(9, some (.tok ((s.2.1.map Pat.cc)).length 6)), (8, some (.tok ((s.2.2.map Pat.cc)).length 6))]) (fun s => s.1 ≤ a.kids.length ∧ s.2.2.length = s.1 ∧ s.2.1 ++ minusK (minusQ w n) a.ctor ((argsOf w ⟨ta, tk⟩ a.ctor).drop s.1) (a.kids.drop s.1) (b.kids.drop s.1) s.2.2 = minusK (minusQ w n) a.ctor (argsOf w ⟨ta, tk⟩ a.ctor) a.kids b.kids []) (fun s => a.kids.length - s.1) (0, [], []) ⟨by simp, rfl, rfl⟩ ⟨⟨_, rfl, (LeA.eqi (by first | rfl | (simp; done) | (simp_all; done) | omega))⟩, ⟨⟨_, rfl, (LeA.glg (by first | rfl | (simp; done) | (simp_all; done) | omega))⟩, ⟨⟨_, rfl, (LeA.glg (by first | rfl | (simp; done) | (simp_all; done) | omega))⟩, trivial⟩⟩⟩ ⟨beq_nat_eq (by first | rfl | (simp; done) | (simp; omega) | (first | rfl | (simp; done) | (simp_all; done) | omega)), ⟨beq_nat_eq (by first | rfl | (simp; done) | (simp; omega) | (first | rfl | (simp; done) | (simp_all; done) | omega)), trivial⟩⟩ (fun x => rfl) (fun s hg2 => ?_)
     refine evc [14, 15] [] ?_
     refine sq (fun h5 h5p h5s => ?_) fun h5 h5p h5s => ?_
     ·try simp only [Q, Pat.cs_len] at h5p
      refine Walk.idx sl182 .none rfl rfl rfl rfl (at_nth (by omega)) rfl ?_
      refine evs [14, 15] [] ?_
      refine Walk.alloc (id := 3017) tz42 rfl .none rfl rfl rfl rfl ?_
      refine evs [14, 15] [] ?_
      refine Walk.store ty42 .none rfl rfl rfl rfl rfl rfl (by simp) rfl ?_
      refine tv ?_
      refine Walk.idx sl49 .none rfl rfl rfl rfl (pats_at (by omega)) rfl ?_
      refine evd [14, 15] [] ?_
      refine Walk.idx sl49 .none rfl rfl rfl rfl (pats_at (by omega)) rfl ?_
      refine evd [14, 15] [] ?_
      refine Walk.call (cr := []) cal191 (hmi s.1 (by omega)) rfl .none rfl rfl (LeL.refl _) trivial rfl rfl rfl ?_
      refine evd [14, 15] [] ?_
      refine dr ?_
      refine CWp.loopX (ι := List (Pat) × List (Pat)) hk (fun x => [(113, .d (.i (x.1.length : Int))), (14, .gl 9 ((s.2.1 ++ x.1.map (fun z => ctorQ a.ctor (s.2.2 ++ [z] ++ a.kids.drop (s.1 + 1)))).map Pat.cc))]) [19, 20, 114, 115, 116, 117, 118, 119, 120, 121, 122, 123, 124, 125, 126, 127, 128, 129, 130, 131, 132, 133, 134] (fun x => [(9, some (.tok (((s.2.1 ++ x.1.map (fun z => ctorQ a.ctor (s.2.2 ++ [z] ++ a.kids.drop (s.1 + 1)))).map Pat.cc)).length 6))]) (fun x => x.1 ++ x.2 = (minusQ w n (nth (argsOf w ⟨ta, tk⟩ a.ctor) s.1) (nth a.kids s.1) (nth b.kids s.1))) (fun x => x.2.length) ([], (minusQ w n (nth (argsOf w ⟨ta, tk⟩ a.ctor) s.1) (nth a.kids s.1) (nth b.kids s.1))) (by simp) ⟨⟨_, rfl, (LeA.eqi (by first | rfl | (simp; done) | (simp only [List.map_append, List.append_assoc, List.map_cons, List.map_nil]; done) | (simp only [List.map_append, List.append_assoc, List.map_cons, List.map_nil]; rfl) | (rw [List.append_nil] at hg3; rw [hg3]; done) | omega))⟩, ⟨⟨_, rfl, (LeA.glg (by first | rfl | (simp; done) | (simp only [List.map_append, List.append_assoc, List.map_cons, List.map_nil]; done) | (simp only [List.map_append, List.append_assoc, List.map_cons, List.map_nil]; rfl) | (rw [List.append_nil] at hg3; rw [hg3]; done) | omega))⟩, trivial⟩⟩ ⟨beq_nat_eq (by first | rfl | (simp; done) | (simp; omega) | (first | rfl | (simp; done) | (simp only [List.map_append, List.append_assoc, List.map_cons, List.map_nil]; done) | (simp only [List.map_append, List.append_assoc, List.map_cons, List.map_nil]; rfl) | (rw [List.append_nil] at hg3; rw [hg3]; done) | omega)), trivial⟩ (fun x => rfl) (fun x hg3 => ?_)
      obtain ⟨pre, rest⟩ := x
      dsimp only at hg3 ⊢
      refine evc [14, 15] [] ?_
      refine sq (fun h6 h6p h6s => ?_) fun h6 h6p h6s => ?_
      ·try simp only [Q, Pat.cs_len] at h6p
       rcases rest with _ | ⟨y, rest⟩
       ·exfalso; simp_all
       refine Walk.idx sl49 .none rfl rfl rfl rfl (Pat.cs_at' hg3) rfl ?_
       refine evs [14, 15] [] ?_
       refine Walk.alloc (id := 3019) tz51 rfl .none rfl rfl rfl rfl ?_
       refine Walk.store ty51 .none rfl rfl rfl rfl rfl rfl (by simp) rfl ?_
       refine tv ?_
       refine Walk.sliceLit sl49 tz51 rfl (by decide) (ks := [0]) (xs := [_]) rfl rfl (by decide) (by decide) .none rfl rfl rfl rfl ?_
       refine evd [14, 15] [] ?_
       refine ar ?_ (by first | (constructor <;> omega) | (have h9 := hT s.1 s.2.1 s.2.2 (by omega) hg2.2.2; have h8 := congrArg List.length hg3; simp only [List.length_append, List.length_cons] at h8; constructor <;> omega))
       refine Walk.cut_l sl49 .none rfl rfl rfl (by intro x hx; first | (simp at hx; subst hx; rfl) | exact pat_row _ x hx | exact pat_rows _ x hx) rfl rfl (by simp only [Pat.cs_len]; omega) ?_
       refine Walk.sliceLit sl342 tz49 rfl (by decide) (ks := [0, 1, 2]) (xs := [_, _, _]) rfl rfl (by decide) (by decide) .none rfl rfl rfl rfl ?_
       refine Walk.call (cr := []) cal262 (concat3 (A := s.2.2) (y := y) (xs := (Pat.cs a.kids).drop (s.1 + 1)) (B := a.kids.drop (s.1 + 1)) (by rw [Pat.cs_cd, Pat.cs_cd, List.map_drop]) (by rw [List.length_drop]; omega)) rfl .none rfl rfl (LeL.refl _) trivial rfl rfl rfl ?_
       refine evd [14, 15] [] ?_
       refine dr ?_
       refine Walk.build st51 (ks := [0, 1, 5]) (xs := [_, _, _]) rfl rfl .none rfl rfl rfl ?_
       refine Walk.sliceLit sl49 tz51 rfl (by decide) (ks := [0]) (xs := [_]) rfl rfl (by decide) (by decide) .none rfl rfl rfl rfl ?_
       refine Walk.append sl49 zz51 rfl .none rfl rfl rfl rfl (htokL rfl (by first | rfl | (simp; done) | (simp; omega))) (by intro x hx; first | (simp at hx; subst hx; rfl) | exact pat_row _ x hx | exact pat_rows _ x hx) (by first | (have h9 := hT s.1 s.2.1 s.2.2 (by omega) hg2.2.2; have h8 := congrArg List.length hg3; simp at h8 ⊢; omega) | (simp; omega)) (by first | (have h9 := hT s.1 s.2.1 s.2.2 (by omega) hg2.2.2; have h8 := congrArg List.length hg3; simp at h8 ⊢; omega) | (simp; omega)) ?_
       refine asg ?_
       refine tv ?_
       refine ar ?_ (by first | (constructor <;> omega) | (have h9 := hT s.1 s.2.1 s.2.2 (by omega) hg2.2.2; have h8 := congrArg List.length hg3; simp only [List.length_append, List.length_cons] at h8; constructor <;> omega))
       refine Exists.intro ((pre ++ [y], rest)) ⟨(by have hz := hg3; rw [← hz]; simp), (by simp), Sub.x (by kernel_rfl) (by kernel_rfl) ⟨⟨_, rfl, (LeA.eqi (by first | rfl | (simp; done) | (simp only [List.map_append, List.append_assoc, List.map_cons, List.map_nil]; done) | (simp only [List.map_append, List.append_assoc, List.map_cons, List.map_nil]; rfl) | (rw [List.append_nil] at hg3; rw [hg3]; done) | omega))⟩, ⟨⟨_, rfl, (LeA.glg (by first | rfl | (simp; done) | (simp only [List.map_append, List.append_assoc, List.map_cons, List.map_nil]; done) | (simp only [List.map_append, List.append_assoc, List.map_cons, List.map_nil]; rfl) | (rw [List.append_nil] at hg3; rw [hg3]; done) | omega))⟩, trivial⟩⟩ (by kernel_rfl) (by kernel_rfl) ⟨beq_nat_eq (by first | rfl | (simp; done) | (simp; omega) | (first | rfl | (simp; done) | (simp only [List.map_append, List.append_assoc, List.map_cons, List.map_nil]; done) | (simp only [List.map_append, List.append_assoc, List.map_cons, List.map_nil]; rfl) | (rw [List.append_nil] at hg3; rw [hg3]; done) | omega)), trivial⟩⟩
      ·try simp only [Q, Pat.cs_len] at h6p
       have hrest : rest = [] := by
        rcases rest with _ | ⟨a, b⟩
        ·rfl
        ·exfalso; have hz := congrArg List.length (hg3); simp only [List.length_append, List.length_cons, List.length_map] at hz; omega
       subst hrest
       refine Walk.idx sl49 .none rfl rfl rfl rfl (pats_at (by omega)) rfl ?_
       refine evd [14, 15] [] ?_
       refine Walk.idx sl49 .none rfl rfl rfl rfl (pats_at (by omega)) rfl ?_
       refine evd [14, 15] [] ?_
       refine Walk.call (cr := []) cal263 (hme s.1 (by omega)) rfl .none rfl rfl (LeL.refl _) trivial rfl rfl rfl ?_
       refine evd [14, 15] [] ?_
       refine Walk.alloc (id := 3021) tz51 rfl .none rfl rfl rfl rfl ?_
       refine Walk.store ty51 .none rfl rfl rfl rfl rfl rfl (by simp) rfl ?_
       refine evd [14, 15] [] ?_
       refine dr ?_
       refine sq (fun h7 h7p h7s => ?_) fun h7 h7p h7s => ?_
       ·try simp only [Q, Pat.cs_len] at h7p
        refine rn0 (r1 rfl) (.gld ?_)
        all_goals (first | rfl | (rw [← hg2.2.2, minusK_end (by omega), List.append_nil, Pat.cs_cd]; done) | (rw [List.append_nil] at hg3; rw [← hg2.2.2, minusK_none (by omega) (by omega) (by omega) (by assumption), ← hg3, Pat.cs_cd]; all_goals rfl))
       ·try simp only [Q, Pat.cs_len] at h7p
        refine Walk.sliceLit sl49 tz51 rfl (by decide) (ks := [0]) (xs := [_]) rfl rfl (by decide) (by decide) .none rfl rfl rfl rfl ?_
        refine Walk.append sl49 zz51 rfl .none rfl rfl rfl rfl (htokL rfl (by first | rfl | (simp; done) | (simp; omega))) (by intro x hx; first | (simp at hx; subst hx; rfl) | exact pat_row _ x hx | exact pat_rows _ x hx) (by first | (have h9 := hT s.1 s.2.1 s.2.2 (by omega) hg2.2.2; have h8 := congrArg List.length hg3; simp at h8 ⊢; omega) | (simp; omega)) (by first | (have h9 := hT s.1 s.2.1 s.2.2 (by omega) hg2.2.2; have h8 := congrArg List.length hg3; simp at h8 ⊢; omega) | (simp; omega)) ?_
        refine asg ?_
        refine tv ?_
        refine ar ?_ (by first | (constructor <;> omega) | (have h9 := hT s.1 s.2.1 s.2.2 (by omega) hg2.2.2; have h8 := congrArg List.length hg3; simp only [List.length_append, List.length_cons] at h8; constructor <;> omega))
        refine Exists.intro ((s.1 + 1, s.2.1 ++ (minusQ w n (nth (argsOf w ⟨ta, tk⟩ a.ctor) s.1) (nth a.kids s.1) (nth b.kids s.1)).map (fun z => ctorQ a.ctor (s.2.2 ++ [z] ++ a.kids.drop (s.1 + 1))), s.2.2 ++ [meetP 11 (nth a.kids s.1) (nth b.kids s.1)])) ⟨⟨by dsimp only; omega, by dsimp only; rw [List.length_append, hg2.2.1]; rfl, by dsimp only; rw [List.append_assoc, ← minusK_some (by omega) (by omega) (by omega) (by assumption)]; exact hg2.2.2⟩, (by dsimp only; omega), Sub.x (by kernel_rfl) (by kernel_rfl) ⟨⟨_, rfl, (LeA.eqi (by first | rfl | (simp; done) | (simp_all; done) | omega))⟩, ⟨⟨_, rfl, (LeA.glg (by first | rfl | (simp; done) | (simp_all; done) | omega))⟩, ⟨⟨_, rfl, (LeA.glg (by first | rfl | (simp; done) | (simp_all; done) | omega))⟩, trivial⟩⟩⟩ (by kernel_rfl) (by kernel_rfl) ⟨beq_nat_eq (by first | rfl | (simp; done) | (simp; omega) | (first | rfl | (simp; done) | (simp_all; done) | omega)), ⟨beq_nat_eq (by first | rfl | (simp; done) | (simp; omega) | (first | rfl | (simp; done) | (simp_all; done) | omega)), trivial⟩⟩⟩
     ·try simp only [Q, Pat.cs_len] at h5p
      refine rn0 (r1 rfl) (.gld ?_)
      all_goals (first | rfl | (rw [← hg2.2.2, minusK_end (by omega), List.append_nil, Pat.cs_cd]; done) | (rw [List.append_nil] at hg3; rw [← hg2.2.2, minusK_none (by omega) (by omega) (by omega) (by assumption), ← hg3, Pat.cs_cd]; all_goals rfl))
theorem impl_minus_a (hs : Spa w) {n : Nat} {ta tk : Int} {a b : Pat} (ht : InS (w.length * 4) ⟨ta, tk⟩) (h1 : a.op = 1) (h4b : b.op = 4) (hbd : (minusQ w (n + 1) ⟨ta, tk⟩ a b).length ≤ 20000000)
  (hC : ∀ c ∈ vctors w ⟨ta, tk⟩, MinusFn w f (n + 1) ta tk (wholeQ w ⟨ta, tk⟩ c) b) : MinusFn w f (n + 1) ta tk a b := by
 have e : minusQ w (n + 1) ⟨ta, tk⟩ a b = (vctors w ⟨ta, tk⟩).flatMap fun c => minusQ w (n + 1) ⟨ta, tk⟩ (wholeQ w ⟨ta, tk⟩ c) b := by
  rw [minus_a h4b h1]
  exact congrArg (fun g => (vctors w ⟨ta, tk⟩).flatMap g) (funext fun c => (minus_c h4b rfl).symm)
 unfold MinusFn
 rw [e] at hbd ⊢
 have hcl := (hs.ctors _ ht).1
 have hpre : ∀ {pre rest : List Int} {y : Int}, pre ++ y :: rest = vctors w ⟨ta, tk⟩ → (pre.flatMap fun c => minusQ w (n + 1) ⟨ta, tk⟩ (wholeQ w ⟨ta, tk⟩ c) b).length + (minusQ w (n + 1) ⟨ta, tk⟩ (wholeQ w ⟨ta, tk⟩ y) b).length ≤ 20000000 := fun h => by
  rw [← h, List.flatMap_append, List.flatMap_cons] at hbd
  simp only [List.length_append] at hbd
  omega
 have hmem : ∀ {pre rest : List Int} {y : Int}, pre ++ y :: rest = vctors w ⟨ta, tk⟩ → y ∈ vctors w ⟨ta, tk⟩ := fun h => by rw [← h]; simp
 refine bd Tryz.f191 159 [11] [] fun w0 F0 own kept hk => ?_
 refine Walk.box (id := 3005) .none rfl rfl rfl rfl rfl rfl rfl ?_
 refine Walk.box (id := 3006) .none rfl rfl rfl rfl rfl rfl rfl ?_
 refine Walk.box (id := 3007) .none rfl rfl rfl rfl rfl rfl rfl ?_
 refine evs [11] [] ?_
 refine sq (fun h1 h1p h1s => ?_) fun h1 h1p h1s => ?_
 ·try simp only [Q, Pat.cs_len] at h1p
  exfalso; omega --stop
 ·try simp only [Q, Pat.cs_len] at h1p
  refine sq (fun h2 h2p h2s => ?_) fun h2 h2p h2s => ?_
  ·try simp only [Q, Pat.cs_len] at h2p
   exfalso; omega --stop
  ·try simp only [Q, Pat.cs_len] at h2p
   refine sq (fun h3 h3p h3s => ?_) fun h3 h3p h3s => ?_
   ·try simp only [Q, Pat.cs_len] at h3p
    refine Walk.assignNil 9 6 .none rfl rfl ?_
    refine tv ?_
    refine Walk.call (cr := []) cal170 (impl_ctorsOf_v hs.dp.wt (ins_tyin ht)) rfl .none rfl rfl (LeL.refl _) trivial rfl rfl rfl ?_
    refine evd [11] [] ?_
    refine dr ?_
    refine CWp.loopX (ι := List (Int) × List (Int)) hk (fun x => [(61, .d (.i (x.1.length : Int))), (11, .gl 9 (Pat.cs (x.1.flatMap fun c => minusQ w (n + 1) ⟨ta, tk⟩ (wholeQ w ⟨ta, tk⟩ c) b)))]) [13, 62, 63, 64, 65, 66, 67, 68, 69, 70, 71, 72, 73, 74, 75] (fun x => [(9, some (.tok ((Pat.cs (x.1.flatMap fun c => minusQ w (n + 1) ⟨ta, tk⟩ (wholeQ w ⟨ta, tk⟩ c) b))).length 6))]) (fun x => x.1 ++ x.2 = vctors w ⟨ta, tk⟩) (fun x => x.2.length) ([], vctors w ⟨ta, tk⟩) (by simp) ⟨⟨_, rfl, (LeA.eqi (by first | rfl | (rw [List.flatMap_append, Pat.cs_cd, Pat.cs_cd, Pat.cs_cd, List.map_append]; simp; done) | (simp [Pat.cs_len]; done) | omega))⟩, ⟨⟨_, rfl, (LeA.glg (by first | rfl | (rw [List.flatMap_append, Pat.cs_cd, Pat.cs_cd, Pat.cs_cd, List.map_append]; simp; done) | (simp [Pat.cs_len]; done) | omega))⟩, trivial⟩⟩ ⟨beq_nat_eq (by first | rfl | (simp; done) | (simp; omega) | (first | rfl | (rw [List.flatMap_append, Pat.cs_cd, Pat.cs_cd, Pat.cs_cd, List.map_append]; simp; done) | (simp [Pat.cs_len]; done) | omega)), trivial⟩ (fun x => rfl) (fun x hg1 => ?_)
    obtain ⟨pre, rest⟩ := x
    dsimp only at hg1 ⊢
    refine evc [11] [] ?_
    refine sq (fun h4 h4p h4s => ?_) fun h4 h4p h4s => ?_
    ·try simp only [Q, Pat.cs_len] at h4p
     rcases rest with _ | ⟨y, rest⟩
     ·exfalso; simp_all
     refine Walk.idx sl54 .none rfl rfl rfl rfl (zip_at hg1) rfl ?_
     refine evs [11] [] ?_
     refine Walk.call (cr := []) cal261 (impl_whole_fn hs.dp.wt (f := f) (ins_tyin ht) (hmem hg1) (hs.args _ _ ht (hmem hg1))) rfl .none rfl rfl (LeL.refl _) trivial rfl rfl rfl ?_
     refine evd [11] [] ?_
     refine Walk.call (cr := []) cal191 (hC y (hmem hg1)) rfl .none rfl rfl (LeL.refl _) trivial rfl rfl rfl ?_
     refine Walk.append sl49 zz51 rfl .none rfl rfl rfl rfl (htokL rfl (by first | rfl | (simp; done) | (simp; omega))) (by exact pat_rows _) (by have h9 := hpre hg1; simp only [Pat.cs_len]; omega) (by have h9 := hpre hg1; simp only [Pat.cs_len]; omega) ?_
     refine asg ?_
     refine dr ?_
     refine ar ?_
     refine Exists.intro ((pre ++ [y], rest)) ⟨(by have hz := hg1; rw [← hz]; simp), (by simp), Sub.x (by kernel_rfl) (by kernel_rfl) ⟨⟨_, rfl, (LeA.eqi (by first | rfl | (rw [List.flatMap_append, Pat.cs_cd, Pat.cs_cd, Pat.cs_cd, List.map_append]; simp; done) | (simp [Pat.cs_len]; done) | omega))⟩, ⟨⟨_, rfl, (LeA.glg (by first | rfl | (rw [List.flatMap_append, Pat.cs_cd, Pat.cs_cd, Pat.cs_cd, List.map_append]; simp; done) | (simp [Pat.cs_len]; done) | omega))⟩, trivial⟩⟩ (by kernel_rfl) (by kernel_rfl) ⟨beq_nat_eq (by first | rfl | (simp; done) | (simp; omega) | (first | rfl | (rw [List.flatMap_append, Pat.cs_cd, Pat.cs_cd, Pat.cs_cd, List.map_append]; simp; done) | (simp [Pat.cs_len]; done) | omega)), trivial⟩⟩
    ·try simp only [Q, Pat.cs_len] at h4p
     have hrest : rest = [] := by
      rcases rest with _ | ⟨a, b⟩
      ·rfl
      ·exfalso; have hz := congrArg List.length (hg1); simp only [List.length_append, List.length_cons, List.length_map] at hz; omega
     subst hrest
     refine rn0 (r1 rfl) (.gld ?_)
     all_goals (first | rfl | (rw [List.append_nil] at hg1; rw [hg1]; done))
   ·try simp only [Q, Pat.cs_len] at h3p
    exfalso; omega --stop
theorem impl_minus_fn (hs : Spa w) : ∀ (n m : Nat) {ta tk : Int} {a b : Pat}, n < m → n ≤ 10 → m ≤ 11 → InS (w.length * 4) ⟨ta, tk⟩ → partP w m ⟨ta, tk⟩ a = true → partP w n ⟨ta, tk⟩ b = true → MinusFn w f n ta tk a b
 | 0, m, ta, tk, a, b, _, _, _, _, _, hb => by simp [partP] at hb
 | n + 1, 0, ta, tk, a, b, h, _, _, _, _, _ => by omega
 | n + 1, m + 1, ta, tk, a, b, h, hn, hm, ht, ha, hb => by
  have hC : ∀ {a : Pat}, partP w (m + 1) ⟨ta, tk⟩ a = true → a.op = 4 → b.op = 4 → MinusFn w f (n + 1) ta tk a b := fun {a} ha h4 h4b => by
   by_cases hc : a.ctor = b.ctor
   ·exact impl_minus_c hs hn hm (by omega) (fun h1 h2 h3 => impl_minus_fn hs n m (by omega) (by omega) (by omega) h1 h2 h3) ht ha hb h4 h4b hc
   ·exact impl_minus_n h4 h4b hc
  rcases part_op hb with h1 | h3 | h4b
  ·exact impl_minus_1 h1
  ·have := part_int hb h3
   exact impl_minus_3 h3 ⟨by omega, by omega⟩ ⟨by omega, by omega⟩
  ·by_cases h1 : a.op = 1
   ·obtain ⟨m', rfl⟩ : ∃ m', m = m' + 1 := ⟨m - 1, by omega⟩
    exact impl_minus_a hs ht h1 h4b (minus_bd hs h hn ht ha hb) (fun c hc => hC (wholeQ_part hc) rfl h4b)
   ·exact hC ha (by have := same_op ha hb h1 (by omega); omega) h4b
end
theorem take_more {α : Type} {N : Nat} {X Y : List α} (h : N ≤ X.length) : (X ++ Y).take N = X.take N := by
 rw [List.take_append, (by omega : N - X.length = 0)]; simp
theorem tk_step {α β : Type} [Inhabited β] {X : List α} {l : List β} {h : β → α} {j m : Nat} (hj : j < l.length) (hl : ((X ++ (l.take j).map h).take (m + 1)).length ≤ m) :
  (X ++ (l.take (j + 1)).map h).take (m + 1) = (X ++ (l.take j).map h).take (m + 1) ++ [h (nth l j)] := by
 have e1 : l.take (j + 1) = l.take j ++ [nth l j] := by rw [List.take_succ_eq_append_getElem hj, nth_eq hj]
 rw [List.length_take] at hl
 have h2 : (X ++ (l.take j).map h).length ≤ m := by omega
 rw [e1, List.map_append, ← List.append_assoc, List.take_of_length_le (by simp at h2 ⊢; omega), List.take_of_length_le (l := X ++ (l.take j).map h) (by omega)]
 rfl
theorem tk_exit {α β : Type} {X : List α} {l : List β} {h : β → α} {j m : Nat} (hc : ¬ j < l.length ∨ ¬ ((X ++ (l.take j).map h).take (m + 1)).length ≤ m) :
  (X ++ (l.take j).map h).take (m + 1) = (X ++ l.map h).take (m + 1) := by
 rcases hc with hc | hc
 ·rw [List.take_of_length_le (l := l) (by omega)]
 ·rw [List.length_take] at hc
  have e : l.map h = (l.take j).map h ++ (l.drop j).map h := by rw [← List.map_append, List.take_append_drop]
  rw [e, ← List.append_assoc, take_more (X := X ++ (l.take j).map h) (by omega)]
theorem fm_step {α β : Type} [Inhabited β] {l : List β} {g : β → List α} {j : Nat} (hj : j < l.length) : (l.take (j + 1)).flatMap g = (l.take j).flatMap g ++ g (nth l j) := by
 rw [List.take_succ_eq_append_getElem hj, List.flatMap_append, nth_eq hj]; simp
theorem fm_exit {α β : Type} {l : List β} {g : β → List α} {j m : Nat} (hc : ¬ j < l.length ∨ ¬ (((l.take j).flatMap g).take (m + 1)).length ≤ m) :
  ((l.take j).flatMap g).take (m + 1) = (l.flatMap g).take (m + 1) := by
 rcases hc with hc | hc
 ·rw [List.take_of_length_le (l := l) (by omega)]
 ·rw [List.length_take] at hc
  have e : l.flatMap g = (l.take j).flatMap g ++ (l.drop j).flatMap g := by rw [← List.flatMap_append, List.take_append_drop]
  rw [e, take_more (X := (l.take j).flatMap g) (by omega)]
abbrev enc1P (o : List Pat) : List D := [.sl (Pat.cs o)]
abbrev encPatss (ls : List (List Pat)) : D := .sl (ls.map enc1P)
theorem take_stepL {N : Nat} (acc : List (List Pat)) (l : List Pat) : (stepP (acc.take N) l).take N = (stepP acc l).take N := by
 by_cases h : acc.length ≤ N
 ·rw [List.take_of_length_le h]
 have e0 : ∀ a : List (List Pat), stepP a [] = [] := fun a => by unfold stepP; simp
 cases l with
 | nil => rw [e0, e0]
 | cons c r =>
  have e : stepP acc (c :: r) = stepP (acc.take N) (c :: r) ++ stepP (acc.drop N) (c :: r) := by
   unfold stepP; rw [← List.flatMap_append, List.take_append_drop]
  rw [e, take_more]
  rw [stepP_len, List.length_take, Nat.min_eq_left (by omega), List.length_cons]
  exact Nat.le_mul_of_pos_right _ (by omega)
theorem take_stepR {N : Nat} (acc : List (List Pat)) (l : List Pat) : (stepP acc (l.take N)).take N = (stepP acc l).take N := by
 by_cases h : l.length ≤ N
 ·rw [List.take_of_length_le h]
 cases acc with
 | nil => rfl
 | cons q r =>
  have e : ∀ l : List Pat, stepP (q :: r) l = l.map (fun c => q ++ [c]) ++ stepP r l := fun l => by unfold stepP; rw [List.flatMap_cons]
  rw [e, e, take_more (by rw [List.length_map, List.length_take]; omega), take_more (by rw [List.length_map]; omega), List.map_take, List.take_take, Nat.min_self]
def tupQ (m : Nat) (ls : List (List Pat)) : List (List Pat) := ls.foldl (fun acc l => (stepP acc l).take (m + 1)) [[]]
theorem tupQ_snoc (m : Nat) (ls : List (List Pat)) (l : List Pat) : tupQ m (ls ++ [l]) = (stepP (tupQ m ls) l).take (m + 1) := by
 unfold tupQ; rw [List.foldl_append]; rfl
theorem tup_fold (m : Nat) : ∀ (ls : List (List Pat)) (acc : List (List Pat)), (ls.map (List.take (m + 1))).foldl (fun acc l => (stepP acc l).take (m + 1)) (acc.take (m + 1)) = (ls.foldl stepP acc).take (m + 1)
 | [], acc => rfl
 | l :: r, acc => by
  rw [List.map_cons, List.foldl_cons, List.foldl_cons, take_stepR, take_stepL]
  exact tup_fold m r (stepP acc l)
theorem tupQ_eq (m : Nat) (ls : List (List Pat)) : tupQ m (ls.map (List.take (m + 1))) = (prodP ls).take (m + 1) := by
 have h := tup_fold m ls [[]]
 have e : ([[]] : List (List Pat)).take (m + 1) = [[]] := by simp
 rw [e] at h
 exact h
theorem tupQ_len (m : Nat) (ls : List (List Pat)) : (tupQ m ls).length ≤ m + 1 := by
 have key : ∀ (ls acc : List (List Pat)), acc.length ≤ m + 1 → (ls.foldl (fun acc l => (stepP acc l).take (m + 1)) acc).length ≤ m + 1 := by
  intro ls
  induction ls with
  | nil => intro acc h; exact h
  | cons l r ih => intro acc h; exact ih _ (by rw [List.length_take]; omega)
 exact key ls [[]] (by simp)
theorem tupQ_mem (m : Nat) {ls : List (List Pat)} {o : List Pat} (h : o ∈ tupQ m ls) : o.length = ls.length := by
 have key : ∀ (ls acc : List (List Pat)) (n : Nat), (∀ o ∈ acc, o.length = n) → ∀ o ∈ ls.foldl (fun acc l => (stepP acc l).take (m + 1)) acc, o.length = n + ls.length := by
  intro ls
  induction ls with
  | nil => intro acc n h o ho; exact h o ho
  | cons l r ih =>
   intro acc n h o ho
   have := ih _ (n + 1) (fun o' ho' => by
    have ho' := List.mem_of_mem_take ho'
    unfold stepP at ho'
    simp only [List.mem_flatMap, List.mem_map] at ho'
    obtain ⟨p, hp, q, _, rfl⟩ := ho'
    simp [h p hp]) o ho
   simp only [List.length_cons]; omega
 have := key ls [[]] 0 (by simp) o h
 simpa using this
def stepQ (l : List Pat) (o : List Pat) : List (List Pat) := l.map fun y => o ++ [y]
theorem stepP_Q (acc : List (List Pat)) (l : List Pat) : stepP acc l = acc.flatMap (stepQ l) := rfl
theorem tkQ_exit {X : List (List Pat)} {l : List Pat} {o : List Pat} {j m : Nat} (hc : ¬ j < l.length ∨ ¬ ((X ++ (l.take j).map fun y => o ++ [y]).take (m + 1)).length ≤ m) :
  (X ++ (l.take j).map fun y => o ++ [y]).take (m + 1) = (X ++ stepQ l o).take (m + 1) := tk_exit hc
theorem take_app {α : Type} {N : Nat} (a b : List α) : (a.take N ++ b.take N).take N = (a ++ b).take N := by
 by_cases h : a.length ≤ N
 ·rw [List.take_of_length_le h, List.take_append, List.take_append, List.take_take, Nat.min_eq_left (by omega)]
 ·rw [take_more (by rw [List.length_take]; omega), take_more (by omega), List.take_take, Nat.min_self]
def splitS (p : Pat) : List Pat := (splitP p).take 401
theorem splitS_5 {p : Pat} (h : p.op = 5) (hk : p.kids.length = 2) : splitS p = (splitS (nth p.kids 0) ++ splitS (nth p.kids 1)).take 401 := by
 unfold splitS; rw [splitP_5 h hk, take_app]
theorem splitS_n {p : Pat} (h : p.op ≠ 5) : splitS p = (tupQ 400 (p.kids.map splitS)).map fun l => .mk p.op p.ctor p.n p.m p.var l := by
 unfold splitS
 rw [splitP_n h, ← List.map_take]
 congr 1
 have := tupQ_eq 400 (p.kids.map splitP)
 rw [List.map_map] at this
 exact this.symm
theorem splitS_len (p : Pat) : (splitS p).length ≤ 401 := by unfold splitS; rw [List.length_take]; omega
theorem spec_BarePattern_fn : ∀ (n : Nat) {p : Pat}, p.size ≤ n → p.ok → FnD Tryz.prog 294 [.agg [.d (.i p.op), .d (.i p.ctor), .d (.i p.n), .d (.i p.m), .d (.i p.var), .d (encPats p.kids)]] [] (.agg [.d (.i (bareP p).op), .d (.i (bareP p).ctor), .d (.i (bareP p).n), .d (.i (bareP p).m), .d (.i (bareP p).var), .d (encPats (bareP p).kids)]) []
 | 0, p, h, _ => by rw [Pat.size_eq] at h; omega
 | n + 1, p, h, hok => by
  rw [Pat.size_eq] at h
  rw [Pat.ok_iff] at hok
  have hok1 := hok.1
  by_cases h2 : p.op = 2
  ·rw [bareP_2 h2]
   refine bd Tryz.f294 42 [] [] fun w0 F0 own kept hk => ?_
   refine Walk.box (id := 3001) .none rfl rfl rfl rfl rfl rfl rfl ?_
   refine Walk.alloc (id := 3002) tz51 rfl .none rfl rfl rfl rfl ?_
   refine tv ?_
   refine sq (fun h1 h1p h1s => ?_) fun h1 h1p h1s => ?_
   ·try simp only [Q] at h1p
    refine Walk.build st51 (ks := [0]) (xs := [_]) rfl rfl .none rfl rfl rfl ?_
    refine Walk.store ty51 .none rfl rfl rfl rfl rfl rfl (by simp) rfl ?_
    refine tv ?_
    refine rn0 (.cons (.cellA ty51 rfl rfl rfl) .nil) (.agg (.cons (.eqd ?_) (.cons (.eqd ?_) (.cons (.eqd ?_) (.cons (.eqd ?_) (.cons (.eqd ?_) (.cons (.nild ?_) .nil)))))))
    all_goals (rfl)
   ·try simp only [Q] at h1p
    exfalso; omega --stop
  by_cases h6 : p.op = 6 ∧ 0 < p.kids.length
  ·rw [bareP_6 h6.1 h6.2]
   refine bd Tryz.f294 42 [] [] fun w0 F0 own kept hk => ?_
   refine Walk.box (id := 3001) .none rfl rfl rfl rfl rfl rfl rfl ?_
   refine Walk.alloc (id := 3002) tz51 rfl .none rfl rfl rfl rfl ?_
   refine tv ?_
   refine sq (fun h1 h1p h1s => ?_) fun h1 h1p h1s => ?_
   ·try simp only [Q, Pat.cs_len] at h1p
    exfalso; omega --stop
   ·try simp only [Q, Pat.cs_len] at h1p
    refine sq (fun h2 h2p h2s => ?_) fun h2 h2p h2s => ?_
    ·try simp only [Q, Pat.cs_len] at h2p
     refine sq (fun h3 h3p h3s => ?_) fun h3 h3p h3s => ?_
     ·try simp only [Q, Pat.cs_len] at h3p
      refine Walk.idx (i := 0) sl49 .none rfl rfl rfl rfl (pats_at h6.2) rfl ?_
      refine ev ?_
      refine Walk.call (cr := []) cal294 (spec_BarePattern_fn n (p := nth p.kids 0) (by have := Pats.size_mem (nth_mem h6.2); omega) (Pats.ok_mem hok.2 _ (nth_mem h6.2))) rfl .none rfl rfl (LeL.refl _) trivial rfl rfl rfl ?_
      refine Walk.store ty51 .none rfl rfl rfl rfl rfl rfl (by simp) rfl ?_
      refine tv ?_
      refine rn0 (.cons (.cellA ty51 rfl rfl rfl) .nil) (.agg (.cons (.eqd ?_) (.cons (.eqd ?_) (.cons (.eqd ?_) (.cons (.eqd ?_) (.cons (.eqd ?_) (.cons (.eqd ?_) .nil)))))))
      all_goals (rfl)
     ·try simp only [Q, Pat.cs_len] at h3p
      exfalso; omega --stop
    ·try simp only [Q, Pat.cs_len] at h2p
     exfalso; omega --stop
  ·rw [bareP_n h2 h6]
   refine bd Tryz.f294 42 [] [] fun w0 F0 own kept hk => ?_
   refine Walk.box (id := 3001) .none rfl rfl rfl rfl rfl rfl rfl ?_
   refine Walk.alloc (id := 3002) tz51 rfl .none rfl rfl rfl rfl ?_
   refine tv ?_
   refine sq (fun h1 h1p h1s => ?_) fun h1 h1p h1s => ?_
   ·try simp only [Q, Pat.cs_len] at h1p
    exfalso; omega --stop
   ·try simp only [Q, Pat.cs_len] at h1p
    refine sq (fun h2 h2p h2s => ?_) fun h2 h2p h2s => ?_
    ·try simp only [Q, Pat.cs_len] at h2p
     refine sq (fun h3 h3p h3s => ?_) fun h3 h3p h3s => ?_
     ·try simp only [Q, Pat.cs_len] at h3p
      exfalso; apply h6; exact ⟨by omega, by omega⟩ --stop
     ·try simp only [Q, Pat.cs_len] at h3p
      refine Walk.alloc (id := 3003) tz51 rfl .none rfl rfl rfl rfl ?_
      refine Walk.store ty51 .none rfl rfl rfl rfl rfl rfl (by simp) rfl ?_
      refine tv ?_
      refine Walk.store ty49 .none rfl rfl rfl rfl rfl rfl (by simp) rfl ?_
      refine tv ?_
      refine CWp.tokB 3003 5 7 6 rfl rfl rfl rfl ?_
      refine CWp.loopX (ι := List (Pat) × List (Pat)) hk (fun x => [(4, .d (.i (x.1.length : Int)))]) [23, 24, 25, 26, 27, 28, 29, 30, 31, 32, 33, 34, 35, 36, 37, 38, 39, 40] (fun x => [(3003, some (.box [.d (.i p.op), .d (.i p.ctor), .d (.i p.n), .d (.i p.m), .d (.i p.var), .gl 7 ((x.1.map bareP).map Pat.cc)])), (7, some (.tok ((x.1.map bareP).map Pat.cc).length 6))]) (fun x => x.1 ++ x.2 = p.kids) (fun x => x.2.length) ([], p.kids) (by simp) ⟨⟨_, rfl, (LeA.eqi (by first | rfl | (simp; done) | (simp_all; done) | omega))⟩, trivial⟩ ⟨(by first | rfl | (simp [getH]; done)), ⟨beq_nat_eq (by rfl), trivial⟩⟩ (fun x => rfl) (fun x hg1 => ?_)
      obtain ⟨pre, rest⟩ := x
      dsimp only at hg1 ⊢
      refine evc [] [] ?_
      refine sq (fun h4 h4p h4s => ?_) fun h4 h4p h4s => ?_
      ·try simp only [Q, Pat.cs_len] at h4p
       rcases rest with _ | ⟨y, rest⟩
       ·exfalso; simp_all
       refine Walk.idx sl49 .none rfl rfl rfl rfl (Pat.cs_at' hg1) rfl ?_
       refine evd [] [] ?_
       refine Walk.call (cr := []) cal294 (spec_BarePattern_fn n (p := y) (by have := Pats.size_mem (l := p.kids) (v := y) (by rw [← hg1]; simp); omega) (Pats.ok_mem hok.2 y (by rw [← hg1]; simp))) rfl .none rfl rfl (LeL.refl _) trivial rfl rfl rfl ?_
       refine Walk.sliceLit sl49 tz51 rfl (by decide) (ks := [0]) (xs := [_]) rfl rfl (by decide) (by decide) .none rfl rfl rfl rfl ?_
       refine Walk.append sl49 zz51 rfl .none rfl rfl rfl rfl (htokL rfl (by first | rfl | (simp; done) | (simp; omega))) (by intro x hx; first | (simp at hx; subst hx; rfl) | exact pat_row _ x hx) (by have := congrArg List.length hg1; simp at this; simp; omega) (by have := congrArg List.length hg1; simp at this; simp; omega) ?_
       refine evd [] [] ?_
       refine Walk.store ty49 .none rfl rfl rfl rfl rfl rfl (by simp) rfl ?_
       refine dr ?_
       refine ar ?_
       refine Exists.intro ((pre ++ [y], rest)) ⟨(by have hz := hg1; rw [← hz]; simp), (by simp), Sub.x (by kernel_rfl) (by kernel_rfl) ⟨⟨_, rfl, (LeA.eqi (by first | rfl | (simp; done) | (simp_all; done) | omega))⟩, trivial⟩ (by kernel_rfl) (by kernel_rfl) ⟨(by first | rfl | (simp [getH]; done)), ⟨beq_nat_eq (by (simp; done)), trivial⟩⟩⟩
      ·try simp only [Q, Pat.cs_len] at h4p
       have hrest : rest = [] := by
        rcases rest with _ | ⟨a, b⟩
        ·rfl
        ·exfalso; have hz := congrArg List.length (hg1); simp only [List.length_append, List.length_cons, List.length_map] at hz; omega
       subst hrest
       refine Walk.store ty51 .none rfl rfl rfl rfl rfl rfl (by simp) rfl ?_
       refine tv ?_
       refine rn0 (.cons (.cellA ty51 rfl rfl rfl) .nil) (.agg (.cons (.eqd ?_) (.cons (.eqd ?_) (.cons (.eqd ?_) (.cons (.eqd ?_) (.cons (.eqd ?_) (.cons (.gld ?_) .nil)))))))
       all_goals (first | rfl | (rw [List.append_nil] at hg1; rw [← hg1, Pat.cs_cd]; done) | (rw [List.append_nil] at hg1; subst hg1; rw [← Pat.cs_cd]; all_goals rfl))
    ·try simp only [Q, Pat.cs_len] at h2p
     refine Walk.alloc (id := 3003) tz51 rfl .none rfl rfl rfl rfl ?_
     refine Walk.store ty51 .none rfl rfl rfl rfl rfl rfl (by simp) rfl ?_
     refine tv ?_
     refine Walk.store ty49 .none rfl rfl rfl rfl rfl rfl (by simp) rfl ?_
     refine tv ?_
     refine CWp.tokB 3003 5 7 6 rfl rfl rfl rfl ?_
     refine CWp.loopX (ι := List (Pat) × List (Pat)) hk (fun x => [(4, .d (.i (x.1.length : Int)))]) [23, 24, 25, 26, 27, 28, 29, 30, 31, 32, 33, 34, 35, 36, 37, 38, 39, 40] (fun x => [(3003, some (.box [.d (.i p.op), .d (.i p.ctor), .d (.i p.n), .d (.i p.m), .d (.i p.var), .gl 7 ((x.1.map bareP).map Pat.cc)])), (7, some (.tok ((x.1.map bareP).map Pat.cc).length 6))]) (fun x => x.1 ++ x.2 = p.kids) (fun x => x.2.length) ([], p.kids) (by simp) ⟨⟨_, rfl, (LeA.eqi (by first | rfl | (simp; done) | (simp_all; done) | omega))⟩, trivial⟩ ⟨(by first | rfl | (simp [getH]; done)), ⟨beq_nat_eq (by rfl), trivial⟩⟩ (fun x => rfl) (fun x hg1 => ?_)
     obtain ⟨pre, rest⟩ := x
     dsimp only at hg1 ⊢
     refine evc [] [] ?_
     refine sq (fun h5 h5p h5s => ?_) fun h5 h5p h5s => ?_
     ·try simp only [Q, Pat.cs_len] at h5p
      rcases rest with _ | ⟨y, rest⟩
      ·exfalso; simp_all
      refine Walk.idx sl49 .none rfl rfl rfl rfl (Pat.cs_at' hg1) rfl ?_
      refine evd [] [] ?_
      refine Walk.call (cr := []) cal294 (spec_BarePattern_fn n (p := y) (by have := Pats.size_mem (l := p.kids) (v := y) (by rw [← hg1]; simp); omega) (Pats.ok_mem hok.2 y (by rw [← hg1]; simp))) rfl .none rfl rfl (LeL.refl _) trivial rfl rfl rfl ?_
      refine Walk.sliceLit sl49 tz51 rfl (by decide) (ks := [0]) (xs := [_]) rfl rfl (by decide) (by decide) .none rfl rfl rfl rfl ?_
      refine Walk.append sl49 zz51 rfl .none rfl rfl rfl rfl (htokL rfl (by first | rfl | (simp; done) | (simp; omega))) (by intro x hx; first | (simp at hx; subst hx; rfl) | exact pat_row _ x hx) (by have := congrArg List.length hg1; simp at this; simp; omega) (by have := congrArg List.length hg1; simp at this; simp; omega) ?_
      refine evd [] [] ?_
      refine Walk.store ty49 .none rfl rfl rfl rfl rfl rfl (by simp) rfl ?_
      refine dr ?_
      refine ar ?_
      refine Exists.intro ((pre ++ [y], rest)) ⟨(by have hz := hg1; rw [← hz]; simp), (by simp), Sub.x (by kernel_rfl) (by kernel_rfl) ⟨⟨_, rfl, (LeA.eqi (by first | rfl | (simp; done) | (simp_all; done) | omega))⟩, trivial⟩ (by kernel_rfl) (by kernel_rfl) ⟨(by first | rfl | (simp [getH]; done)), ⟨beq_nat_eq (by (simp; done)), trivial⟩⟩⟩
     ·try simp only [Q, Pat.cs_len] at h5p
      have hrest : rest = [] := by
       rcases rest with _ | ⟨a, b⟩
       ·rfl
       ·exfalso; have hz := congrArg List.length (hg1); simp only [List.length_append, List.length_cons, List.length_map] at hz; omega
      subst hrest
      refine Walk.store ty51 .none rfl rfl rfl rfl rfl rfl (by simp) rfl ?_
      refine tv ?_
      refine rn0 (.cons (.cellA ty51 rfl rfl rfl) .nil) (.agg (.cons (.eqd ?_) (.cons (.eqd ?_) (.cons (.eqd ?_) (.cons (.eqd ?_) (.cons (.eqd ?_) (.cons (.gld ?_) .nil)))))))
      all_goals (first | rfl | (rw [List.append_nil] at hg1; rw [← hg1, Pat.cs_cd]; done) | (rw [List.append_nil] at hg1; subst hg1; rw [← Pat.cs_cd]; all_goals rfl))
theorem spec_l3Tuples_fn {ls : List (List Pat)} (hl : ls.length ≤ 1000000000000) (hls : ∀ l ∈ ls, l.length ≤ 1000000000000) : FnD Tryz.prog 315 [.d (encPatss ls)] [] (.d (encPatss (tupQ 400 ls))) [] := by
 refine bd Tryz.f315 62 [] [] fun w0 F0 own kept hk => ?_
 refine Walk.sliceEmpty sl49 .none rfl ?_
 refine Walk.sliceLit sl342 tz49 rfl (by decide) (ks := [0]) (xs := [_]) rfl rfl (by decide) (by decide) .none rfl rfl rfl rfl ?_
 refine ev ?_
 refine CWp.loopX (ι := List (List Pat) × List (List Pat)) hk (fun x => [(4, .d (.i (x.1.length : Int))), (3, .d (.sl ((tupQ 400 x.1).map enc1P)))]) [5, 6, 7, 10, 11, 12, 13, 14, 15, 16, 17, 18, 19, 20, 21, 22, 23, 24, 25, 26, 27, 28, 29, 30, 31, 32, 33, 34, 35, 36, 37, 38, 39, 40, 41, 42, 43, 44, 45, 46, 47, 48, 49, 50, 51, 52, 53, 54, 55, 56, 57, 58, 59, 60] (fun x => []) (fun x => x.1 ++ x.2 = ls) (fun x => x.2.length) ([], ls) (by simp) ⟨⟨_, rfl, (LeA.eqi (by rfl))⟩, ⟨⟨_, rfl, (by exact LeA.refl _)⟩, trivial⟩⟩ trivial (fun x => rfl) (fun x hg1 => ?_)
 obtain ⟨pre, rest⟩ := x
 dsimp only at hg1 ⊢
 refine evc [] [] ?_
 refine sq (fun h1 h1p h1s => ?_) fun h1 h1p h1s => ?_
 ·try simp only [Q, Pat.cs_len, Int.ofNat_lt, Int.ofNat_le] at h1p
  rcases rest with _ | ⟨l, rest⟩
  ·exfalso; simp_all
  have hll := hls l (by rw [← hg1]; simp); have htl := tupQ_len 400 pre
  refine Walk.sliceEmptyG 3 sl342 .none rfl rfl ?_
  refine ev ?_
  refine CWp.loopX (ι := Nat) hk (fun k => [(6, .d (.i (k : Int))), (5, .gl 3 (((((tupQ 400 pre).take k).flatMap (stepQ l)).take (400 + 1)).map enc1P))]) [7, 17, 18, 19, 20, 21, 22, 23, 24, 25, 26, 27, 28, 29, 30, 31, 32, 33, 34, 35, 36, 37, 38, 39, 40, 41, 42, 43, 44, 45, 46, 47, 48, 49, 50, 51, 52, 53, 54, 55, 56, 57, 58, 59] (fun k => [(3, some (.tok ((((((tupQ 400 pre).take k).flatMap (stepQ l)).take (400 + 1)).map enc1P)).length 1))]) (fun k => k ≤ (tupQ 400 pre).length) (fun k => (tupQ 400 pre).length - k) 0 (by simp) ⟨⟨_, rfl, (LeA.eqi (by rfl))⟩, ⟨⟨_, rfl, (LeA.glg (by rfl))⟩, trivial⟩⟩ ⟨beq_nat_eq (by rfl), trivial⟩ (fun x => rfl) (fun k hg2 => ?_)
  refine evc [] [] ?_
  refine sq (fun h2 h2p h2s => ?_) fun h2 h2p h2s => ?_
  ·try simp only [Q, Pat.cs_len, Int.ofNat_lt, Int.ofNat_le] at h2p
   refine sq (fun h3 h3p h3s => ?_) fun h3 h3p h3s => ?_
   ·try simp only [Q, Pat.cs_len, Int.ofNat_lt, Int.ofNat_le] at h3p
    refine CWp.loopX (ι := Nat) hk (fun j => [(7, .d (.i (j : Int))), (5, .gl 3 (((((tupQ 400 pre).take k).flatMap (stepQ l) ++ (l.take j).map (fun y => nth (tupQ 400 pre) k ++ [y])).take (400 + 1)).map enc1P))]) [28, 29, 30, 31, 32, 33, 34, 35, 36, 37, 38, 39, 40, 41, 42, 43, 44, 45, 46, 47, 48, 49, 50, 51, 52, 53, 54, 55, 56, 57, 58, 59] (fun j => [(3, some (.tok ((((((tupQ 400 pre).take k).flatMap (stepQ l) ++ (l.take j).map (fun y => nth (tupQ 400 pre) k ++ [y])).take (400 + 1)).map enc1P)).length 1))]) (fun j => j ≤ l.length) (fun j => l.length - j) 0 (by simp) ⟨⟨_, rfl, (LeA.eqi (by rfl))⟩, ⟨⟨_, rfl, (LeA.glg (by (simp; done)))⟩, trivial⟩⟩ ⟨beq_nat_eq (by (simp; done)), trivial⟩ (fun x => rfl) (fun j hg3 => ?_)
    have hol := tupQ_mem 400 (nth_mem (l := tupQ 400 pre) (i := k) (by omega))
    refine evc [] [] ?_
    refine Walk.idx sl342 .none rfl rfl rfl rfl (by first | exact zip_at hg1 | exact at_nth (by omega)) rfl ?_
    refine ev ?_
    refine sq (fun h4 h4p h4s => ?_) fun h4 h4p h4s => ?_
    ·try simp only [Q, Pat.cs_len, Int.ofNat_lt, Int.ofNat_le] at h4p
     refine sq (fun h5 h5p h5s => ?_) fun h5 h5p h5s => ?_
     ·try simp only [Q, Pat.cs_len, Int.ofNat_lt, Int.ofNat_le] at h5p
      refine Walk.sliceEmptyG 5 sl49 .none rfl rfl ?_
      refine evd [] [] ?_
      refine Walk.idx sl342 .none rfl rfl rfl rfl (by first | exact zip_at hg1 | exact at_nth (by omega)) rfl ?_
      refine evd [] [] ?_
      refine Walk.append sl49 zz51 rfl .none rfl rfl rfl rfl (htokL rfl (by first | rfl | (simp; done) | (simp; omega))) (by intro z hz; (rw [Pat.cs_cd] at hz; obtain ⟨_, _, rfl⟩ := List.mem_map.1 hz; rfl)) (by first | (simp only [List.length_map, List.length_append, List.length_cons, List.length_nil, Pat.cs_len] at *; omega)) (by first | (simp only [List.length_map, List.length_append, List.length_cons, List.length_nil, Pat.cs_len] at *; omega)) ?_
      refine evd [] [] ?_
      refine Walk.idx sl342 .none rfl rfl rfl rfl (by first | exact zip_at hg1 | exact at_nth (by omega)) rfl ?_
      refine evd [] [] ?_
      refine Walk.idx sl49 .none rfl rfl rfl rfl (pats_at (by omega)) rfl ?_
      refine evd [] [] ?_
      refine Walk.sliceLit sl49 tz51 rfl (by decide) (ks := [0]) (xs := [_]) rfl rfl (by decide) (by decide) .none rfl rfl rfl rfl ?_
      refine Walk.append sl49 zz51 rfl .none rfl rfl rfl rfl (htokL rfl (by first | rfl | (simp; done) | (simp; omega))) (by intro z hz; (simp at hz; rw [hz]; rfl)) (by first | (simp only [List.length_map, List.length_append, List.length_cons, List.length_nil, Pat.cs_len] at *; omega)) (by first | (simp only [List.length_map, List.length_append, List.length_cons, List.length_nil, Pat.cs_len] at *; omega)) ?_
      refine Walk.sliceLit sl342 tz49 rfl (by decide) (ks := [0]) (xs := [_]) rfl rfl (by decide) (by decide) .none rfl rfl rfl rfl ?_
      refine Walk.append sl342 zz49 rfl .none rfl rfl rfl rfl (htokL rfl (by first | rfl | (simp; done) | (simp; omega))) (by intro z hz; (simp at hz; rw [hz]; rfl)) (by first | (simp only [List.length_map, List.length_append, List.length_cons, List.length_nil, Pat.cs_len] at *; omega)) (by first | (simp only [List.length_map, List.length_append, List.length_cons, List.length_nil, Pat.cs_len] at *; omega)) ?_
      refine evd [] [] ?_
      refine dr ?_
      refine ar ?_
      refine Exists.intro (j + 1) ⟨?_, ?_, Sub.x (by kernel_rfl) (by kernel_rfl) ⟨⟨_, rfl, (LeA.eqi (by rfl))⟩, ⟨⟨_, rfl, (LeA.glg (by (rw [tk_step (by omega) (by omega), List.map_append]; simp [Pat.cs_cd]; done)))⟩, trivial⟩⟩ (by kernel_rfl) (by kernel_rfl) ⟨beq_nat_eq (by (first | rfl | (simp; done) | (rw [tk_step (by omega) (by omega), List.map_append]; simp [Pat.cs_cd]; done))), trivial⟩⟩
      all_goals first | omega | (simp_all; done) | (simp_all; omega)
     ·try simp only [Q, Pat.cs_len, Int.ofNat_lt, Int.ofNat_le] at h5p
      refine ar ?_
      refine Exists.intro (k + 1) ⟨?_, ?_, Sub.x (by kernel_rfl) (by kernel_rfl) ⟨⟨_, rfl, (LeA.eqi (by rfl))⟩, ⟨⟨_, rfl, (LeA.glg (by (rw [fm_step (by omega), tkQ_exit (by omega)])))⟩, trivial⟩⟩ (by kernel_rfl) (by kernel_rfl) ⟨beq_nat_eq (by (first | rfl | (simp; done) | (rw [fm_step (by omega), tkQ_exit (by omega)]))), trivial⟩⟩
      all_goals first | omega | (simp_all; done) | (simp_all; omega)
    ·try simp only [Q, Pat.cs_len, Int.ofNat_lt, Int.ofNat_le] at h4p
     refine sqF ?_
     refine ar ?_
     refine Exists.intro (k + 1) ⟨?_, ?_, Sub.x (by kernel_rfl) (by kernel_rfl) ⟨⟨_, rfl, (LeA.eqi (by rfl))⟩, ⟨⟨_, rfl, (LeA.glg (by (rw [fm_step (by omega), tkQ_exit (by omega)])))⟩, trivial⟩⟩ (by kernel_rfl) (by kernel_rfl) ⟨beq_nat_eq (by (first | rfl | (simp; done) | (rw [fm_step (by omega), tkQ_exit (by omega)]))), trivial⟩⟩
     all_goals first | omega | (simp_all; done) | (simp_all; omega)
   ·try simp only [Q, Pat.cs_len, Int.ofNat_lt, Int.ofNat_le] at h3p
    refine ar ?_
    refine Exists.intro ((pre ++ [l], rest)) ⟨(by have hz := hg1; rw [← hz]; simp), (by simp), Sub.x (by kernel_rfl) (by kernel_rfl) ⟨⟨_, rfl, (LeA.eqi (by (simp; done)))⟩, ⟨⟨_, rfl, (by exact LeA.gld (by first | rfl | (simp; done) | (rw [tupQ_snoc, stepP_Q, fm_exit (by omega)])))⟩, trivial⟩⟩ (by kernel_rfl) (by kernel_rfl) trivial⟩
  ·try simp only [Q, Pat.cs_len, Int.ofNat_lt, Int.ofNat_le] at h2p
   refine sqF ?_
   refine ar ?_
   refine Exists.intro ((pre ++ [l], rest)) ⟨(by have hz := hg1; rw [← hz]; simp), (by simp), Sub.x (by kernel_rfl) (by kernel_rfl) ⟨⟨_, rfl, (LeA.eqi (by (simp; done)))⟩, ⟨⟨_, rfl, (by exact LeA.gld (by first | rfl | (simp; done) | (rw [tupQ_snoc, stepP_Q, fm_exit (by omega)])))⟩, trivial⟩⟩ (by kernel_rfl) (by kernel_rfl) trivial⟩
 ·try simp only [Q, Pat.cs_len, Int.ofNat_lt, Int.ofNat_le] at h1p
  have hrest : rest = [] := by
   rcases rest with _ | ⟨a, b⟩
   ·rfl
   ·exfalso; have hz := congrArg List.length (hg1); simp only [List.length_append, List.length_cons, List.length_map] at hz; omega
  subst hrest
  refine rn0 (r1 rfl) (.eqd ?_)
  all_goals ((rw [List.append_nil] at hg1); subst hg1; rfl)
theorem spec_l3Split_gv : ∀ (n : Nat) {p : Pat}, binP n p = true → p.ok → FnD Tryz.prog 293 [.agg [.d (.i p.op), .d (.i p.ctor), .d (.i p.n), .d (.i p.m), .d (.i p.var), .d (encPats p.kids)]] [] (.gv 9 (Pat.cs (splitS p))) [(9, some (.tok (Pat.cs (splitS p)).length 6))]
 | 0, p, h, _ => by simp [binP] at h
 | n + 1, p, h, hok => by
  have hok' := (Pat.ok_iff p).1 hok
  have hok1 := hok'.1
  by_cases h5 : p.op = 5
  ·have hl := bin_two h h5
   have e5 := splitS_5 h5 hl
   have l0 := splitS_len (nth p.kids 0)
   have l1 := splitS_len (nth p.kids 1)
   have c0 := spec_l3Split_gv n (bin_kid h (i := 0) (by omega)) (Pats.ok_mem hok'.2 _ (nth_mem (by omega)))
   have c1 := FnD.gvD (spec_l3Split_gv n (bin_kid h (i := 1) (by omega)) (Pats.ok_mem hok'.2 _ (nth_mem (by omega))))
   rw [e5]
   generalize splitS (nth p.kids 0) = A at *
   generalize splitS (nth p.kids 1) = C at *
   by_cases hlen : (A ++ C).length ≤ 401
   ·rw [List.take_of_length_le hlen]
    rw [List.length_append] at hlen
    refine bd Tryz.f293 67 [25] [] fun w0 F0 own kept hk => ?_
    refine Walk.box (id := 3001) .none rfl rfl rfl rfl rfl rfl rfl ?_
    refine evs [25] [] ?_
    refine sq (fun h1 h1p h1s => ?_) fun h1 h1p h1s => ?_
    ·try simp only [Q, Pat.cs_len, List.length_append] at h1p
     refine Walk.idx (i := 0) sl49 .none rfl rfl rfl rfl (pats_at (by omega)) rfl ?_
     refine evd [25] [] ?_
     refine Walk.call (cr := [9]) cal293 (c0) rfl .none rfl rfl (LeL.refl _) trivial rfl rfl rfl ?_
     refine evd [25] [] ?_
     refine Walk.idx (i := 1) sl49 .none rfl rfl rfl rfl (pats_at (by omega)) rfl ?_
     refine evd [25] [] ?_
     refine Walk.call (cr := []) cal293 (c1) rfl .none rfl rfl (LeL.refl _) trivial rfl rfl rfl ?_
     refine Walk.appendV sl49 zz51 .none rfl rfl rfl rfl (htokL rfl (by first | rfl | (simp; done) | (simp; omega))) (by intro x hx; exact pat_rows _ x hx) (by simp [Pat.cs_len]; omega) (by simp [Pat.cs_len]; omega) ?_
     refine evd [25] [] ?_
     refine dr ?_
     refine Walk.lenV sl49 .none rfl rfl ?_
     refine evs [25] [] ?_
     refine sq (fun h2 h2p h2s => ?_) fun h2 h2p h2s => ?_
     ·try simp only [Q, Pat.cs_len, List.length_append] at h2p
      exfalso; omega --stop
     ·try simp only [Q, Pat.cs_len, List.length_append] at h2p
      refine rn [(9, some (.tok (Pat.cs (A ++ C)).length 6))] (r1 rfl) (.gvg ?_) ⟨rfl, rfl⟩ (SubH.get ⟨(by first | rfl | (simp [Pat.cs_cd]; rfl)), trivial⟩) (boxOK rfl)
      all_goals (first | rfl | (simp [Pat.cs_cd]; done))
    ·try simp only [Q, Pat.cs_len, List.length_append] at h1p
     exfalso; omega --stop
   ·have c8 := FnD.gvRen 8 c0
    rw [List.length_append] at hlen
    refine bd Tryz.f293 67 [25] [] fun w0 F0 own kept hk => ?_
    refine Walk.box (id := 3001) .none rfl rfl rfl rfl rfl rfl rfl ?_
    refine evs [25] [] ?_
    refine sq (fun h1 h1p h1s => ?_) fun h1 h1p h1s => ?_
    ·try simp only [Q, Pat.cs_len, List.length_append] at h1p
     refine Walk.idx (i := 0) sl49 .none rfl rfl rfl rfl (pats_at (by omega)) rfl ?_
     refine evd [25] [] ?_
     refine Walk.call (cr := [8]) cal293 (c8) rfl .none rfl rfl (LeL.refl _) trivial rfl rfl rfl ?_
     refine evd [25] [] ?_
     refine Walk.idx (i := 1) sl49 .none rfl rfl rfl rfl (pats_at (by omega)) rfl ?_
     refine evd [25] [] ?_
     refine Walk.call (cr := []) cal293 (c1) rfl .none rfl rfl (LeL.refl _) trivial rfl rfl rfl ?_
     refine Walk.appendV sl49 zz51 .none rfl rfl rfl rfl (htokL rfl (by first | rfl | (simp; done) | (simp; omega))) (by intro x hx; exact pat_rows _ x hx) (by simp [Pat.cs_len]; omega) (by simp [Pat.cs_len]; omega) ?_
     refine evd [25] [] ?_
     refine dr ?_
     refine Walk.lenV sl49 .none rfl rfl ?_
     refine evs [25] [] ?_
     refine sq (fun h2 h2p h2s => ?_) fun h2 h2p h2s => ?_
     ·try simp only [Q, Pat.cs_len, List.length_append] at h2p
      refine Walk.cutV_h 9 (b := 401) sl49 .none rfl rfl (htokL rfl (by first | rfl | (simp; done) | (simp; omega))) rfl rfl (by simp [Pat.cs_len]; omega) (by simp [Pat.cs_len]; omega) rfl ?_
      refine evs [25] [] ?_
      refine rn [(9, some (.tok (Pat.cs ((A ++ C).take 401)).length 6))] (r1 rfl) (.gvg ?_) ⟨rfl, rfl⟩ (SubH.get ⟨(by (show some (Res.tok _ _) = some (Res.tok _ _); simp [Pat.cs_len]; omega)), trivial⟩) (boxOK rfl)
      all_goals (first | rfl | (simp [Pat.cs_cd]; done))
     ·try simp only [Q, Pat.cs_len, List.length_append] at h2p
      exfalso; omega --stop
    ·try simp only [Q, Pat.cs_len, List.length_append] at h1p
     exfalso; omega --stop
  ·have hts := tupQ_len 400 (p.kids.map splitS)
   have htm := fun (i : Nat) (hi : i < (tupQ 400 (p.kids.map splitS)).length) => tupQ_mem 400 (nth_mem hi)
   have ht3 := spec_l3Tuples_fn (ls := p.kids.map splitS) (by rw [List.length_map]; omega) (fun l hl => by obtain ⟨x, _, rfl⟩ := List.mem_map.1 hl; have := splitS_len x; omega)
   have hcal := fun (i : Nat) (hi : i < p.kids.length) => FnD.gvD (spec_l3Split_gv n (bin_kid h hi) (Pats.ok_mem hok'.2 _ (nth_mem hi)))
   have hpl := fun (y : Pat) (pre rest : List Pat) (e : pre ++ y :: rest = p.kids) => (show pre.length < p.kids.length ∧ nth p.kids pre.length = y from ⟨by have := congrArg List.length e; simp at this; omega, nth_at e⟩)
   have hcal2 := fun (y : Pat) (pre rest : List Pat) (e : pre ++ y :: rest = p.kids) => show FnD Tryz.prog 293 [.agg [.d (.i y.op), .d (.i y.ctor), .d (.i y.n), .d (.i y.m), .d (.i y.var), .d (encPats y.kids)]] [] (.d (.sl (Pat.cs (splitS y)))) [] from by
    have hq := hcal pre.length (hpl y pre rest e).1
    rw [(hpl y pre rest e).2] at hq
    exact hq
   have ht3' := fun (pre : List Pat) (e : pre ++ [] = p.kids) => show FnD Tryz.prog 315 [.d (encPatss (pre.map splitS))] [] (.d (encPatss (tupQ 400 (p.kids.map splitS)))) [] from by
    rw [List.append_nil] at e
    rw [e]; exact ht3
   rw [splitS_n h5]
   refine bd Tryz.f293 67 [] [] fun w0 F0 own kept hk => ?_
   refine Walk.box (id := 3001) .none rfl rfl rfl rfl rfl rfl rfl ?_
   refine ev ?_
   refine sq (fun h1 h1p h1s => ?_) fun h1 h1p h1s => ?_
   ·try simp only [Q, Pat.cs_len] at h1p
    exfalso; omega --stop
   ·try simp only [Q, Pat.cs_len] at h1p
    refine Walk.sliceEmptyG 4 sl342 .none rfl rfl ?_
    refine ev ?_
    refine CWp.loopX (ι := List (Pat) × List (Pat)) hk (fun x => [(5, .d (.i (x.1.length : Int))), (4, .gl 4 ((x.1.map splitS).map enc1P))]) [31, 32, 33, 34, 35, 36, 37, 38, 39, 40, 41, 42, 43, 44, 45, 46] (fun x => [(4, some (.tok (((x.1.map splitS).map enc1P)).length 1))]) (fun x => x.1 ++ x.2 = p.kids) (fun x => x.2.length) ([], p.kids) (by simp) ⟨⟨_, rfl, (LeA.eqi (by first | rfl | (simp; done)))⟩, ⟨⟨_, rfl, (LeA.glg (by first | rfl | (simp; done)))⟩, trivial⟩⟩ ⟨beq_nat_eq (by rfl), trivial⟩ (fun x => rfl) (fun x hg1 => ?_)
    obtain ⟨pre, rest⟩ := x
    dsimp only at hg1 ⊢
    refine evc [] [] ?_
    refine sq (fun h2 h2p h2s => ?_) fun h2 h2p h2s => ?_
    ·try simp only [Q, Pat.cs_len] at h2p
     rcases rest with _ | ⟨y, rest⟩
     ·exfalso; simp_all
     refine Walk.idx sl49 .none rfl rfl rfl rfl (Pat.cs_at' hg1) rfl ?_
     refine ev ?_
     refine Walk.call (cr := []) cal293 (hcal2 y pre rest hg1) rfl .none rfl rfl (LeL.refl _) trivial rfl rfl rfl ?_
     refine Walk.sliceLit sl342 tz49 rfl (by decide) (ks := [0]) (xs := [_]) rfl rfl (by decide) (by decide) .none rfl rfl rfl rfl ?_
     refine Walk.append sl342 zz49 rfl .none rfl rfl rfl rfl (htokL rfl (by first | rfl | (simp; done) | (simp; omega))) (by intro x hx; first | (simp at hx; subst hx; rfl) | exact pat_row _ x hx) (by (simp; omega)) (by (simp; omega)) ?_
     refine ev ?_
     refine ar ?_
     refine Exists.intro ((pre ++ [y], rest)) ⟨(by have hz := hg1; rw [← hz]; simp), (by simp), Sub.x (by kernel_rfl) (by kernel_rfl) ⟨⟨_, rfl, (LeA.eqi (by first | rfl | (simp; done)))⟩, ⟨⟨_, rfl, (LeA.glg (by first | rfl | (simp; done)))⟩, trivial⟩⟩ (by kernel_rfl) (by kernel_rfl) ⟨beq_nat_eq (by (simp; done)), trivial⟩⟩
    ·try simp only [Q, Pat.cs_len] at h2p
     have hrest : rest = [] := by
      rcases rest with _ | ⟨a, b⟩
      ·rfl
      ·exfalso; have hz := congrArg List.length (hg1); simp only [List.length_append, List.length_cons, List.length_map] at hz; omega
     subst hrest
     refine Walk.call (cr := []) cal315 (ht3' pre hg1) rfl .none rfl rfl (.cons (.gl _ _) .nil) trivial rfl rfl rfl ?_
     refine ev ?_
     refine Walk.sliceEmptyGV 9 sl49 .none rfl rfl ?_
     refine ev ?_
     refine CWp.loopX (ι := Nat) hk (fun k => [(8, .d (.i (k : Int))), (7, .gv 9 ((((tupQ 400 (p.kids.map splitS)).take k).map fun l => Pat.mk p.op p.ctor p.n p.m p.var l).map Pat.cc))]) [9, 50, 51, 52, 53, 54, 55, 56, 57, 58, 59, 60, 61, 62, 63, 64, 65] (fun k => [(9, some (.tok (((((tupQ 400 (p.kids.map splitS)).take k).map fun l => Pat.mk p.op p.ctor p.n p.m p.var l).map Pat.cc)).length 6))]) (fun k => k ≤ (tupQ 400 (p.kids.map splitS)).length) (fun k => (tupQ 400 (p.kids.map splitS)).length - k) 0 (by omega) ⟨⟨_, rfl, (LeA.eqi (by rfl))⟩, ⟨⟨_, rfl, (LeA.gvg (by rfl))⟩, trivial⟩⟩ ⟨beq_nat_eq (by rfl), trivial⟩ (fun x => rfl) (fun k hg2 => ?_)
     refine evc [] [] ?_
     refine sq (fun h3 h3p h3s => ?_) fun h3 h3p h3s => ?_
     ·try simp only [Q, Pat.cs_len] at h3p
      refine Walk.alloc (id := 3009) tz51 rfl .none rfl rfl rfl rfl ?_
      refine Walk.store ty51 .none rfl rfl rfl rfl rfl rfl (by simp) rfl ?_
      refine tv ?_
      refine Walk.idx sl342 .none rfl rfl rfl rfl (at_nth (by omega)) rfl ?_
      refine ev ?_
      refine Walk.store ty49 .none rfl rfl rfl rfl rfl rfl (by simp) rfl ?_
      refine tv ?_
      refine Walk.sliceLit sl49 tz51 rfl (by decide) (ks := [0]) (xs := [_]) rfl rfl (by decide) (by decide) .none rfl rfl rfl rfl ?_
      refine Walk.appendV sl49 zz51 .none rfl rfl rfl rfl (htokL rfl (by first | rfl | (simp; done) | (simp; omega))) (by intro x hx; first | (simp at hx; subst hx; rfl) | exact pat_row _ x hx) (by (simp; omega)) (by (simp; omega)) ?_
      refine ev ?_
      refine ar ?_
      refine Exists.intro (k + 1) ⟨(by omega), (by omega), Sub.x (by kernel_rfl) (by kernel_rfl) ⟨⟨_, rfl, (LeA.eqi (by rfl))⟩, ⟨⟨_, rfl, (LeA.gvg (by (rw [List.take_succ_eq_append_getElem (by omega), ← nth_eq (by omega)]; simp [mk_op, mk_ctor, mk_n, mk_m, mk_var, mk_kids]; done)))⟩, trivial⟩⟩ (by kernel_rfl) (by kernel_rfl) ⟨beq_nat_eq (by (simp; omega)), trivial⟩⟩
     ·try simp only [Q, Pat.cs_len] at h3p
      refine rn [(9, some (.tok (Pat.cs ((tupQ 400 (p.kids.map splitS)).map fun l => Pat.mk p.op p.ctor p.n p.m p.var l)).length 6))] (r1 rfl) (.gvg ?_) ⟨rfl, rfl⟩ (SubH.get ⟨(by (obtain rfl : k = (tupQ 400 (p.kids.map splitS)).length := (by omega); rw [List.take_length]; simp [Pat.cs_cd]; rfl)), trivial⟩) (boxOK rfl)
      all_goals ((obtain rfl : k = (tupQ 400 (p.kids.map splitS)).length := (by omega); rw [List.take_length, show Pat.cs ((tupQ 400 (p.kids.map splitS)).map fun l => Pat.mk p.op p.ctor p.n p.m p.var l) = ((tupQ 400 (p.kids.map splitS)).map fun l => Pat.mk p.op p.ctor p.n p.m p.var l).map Pat.cc from Pat.cs_cd _]; done))
theorem spec_l5Parts_fn {w : List Data} {n : Nat} {t : Ty} {p : Pat} (h : shapeP w n t p = true) (hok : p.ok) : FnD Tryz.prog 248 [.agg [.d (.i p.op), .d (.i p.ctor), .d (.i p.n), .d (.i p.m), .d (.i p.var), .d (encPats p.kids)]] [] (.d (encPats (splitS (bareP p)))) [] := by
 have hbp := spec_BarePattern_fn _ (Nat.le_refl _) hok
 have hsp := FnD.gvD (spec_l3Split_gv n (shape_bin n h) (bare_ok p hok))
 generalize bareP p = b at *
 refine bd Tryz.f248 6 [] [] fun w0 F0 own kept hk => ?_
 refine Walk.box (id := 3001) .none rfl rfl rfl rfl rfl rfl rfl ?_
 refine ev ?_
 refine Walk.call (cr := []) cal294 (hbp) rfl .none rfl rfl (LeL.refl _) trivial rfl rfl rfl ?_
 refine Walk.call (cr := []) cal293 (hsp) rfl .none rfl rfl (LeL.refl _) trivial rfl rfl rfl ?_
 refine ev ?_
 refine rn0 (r1 rfl) (.eqd ?_)
 all_goals (rfl)
def endsIx (s : Str) : Prop := 2 < s.length ∧ nth s (s.length - 2) = 58
instance (s : Str) : Decidable (endsIx s) := inferInstanceAs (Decidable (_ ∧ _))
structure TB (w : List Data) : Prop where
 len : w.length ≤ 4
 dn : ∀ d ∈ w, d.name.length ≤ 1 ∧ d.ctors.length ≤ 4
 cn : ∀ d ∈ w, ∀ c ∈ d.ctors, c.name.length ≤ 5 ∧ c.args.length ≤ 3 ∧ 0 ≤ c.index ∧ c.index ≤ 3
 ar : ∀ d ∈ w, ∀ c ∈ d.ctors, ∀ t ∈ c.args, (t.data = -1 ∨ (0 ≤ t.data ∧ t.data.toNat < w.length)) ∧ -1 ≤ t.index ∧ t.index ≤ 3
theorem Pat.cs_cc (l : List Pat) : Pat.cs l = l.map Pat.cc := by
 rw [Pat.cs_eq]; exact List.map_congr_left (fun v _ => Pat.c_eq v)
theorem spec_l5Any_fn : FnD Tryz.prog 111 [] [] (.agg [.d (.i 1), .d (.i 0), .d (.i 0), .d (.i 0), .d (.i 0), .d (.sl [])]) [] := by
 refine bd Tryz.f111 2 [] [] fun w0 F0 own kept hk => ?_
 refine Walk.alloc (id := 3000) tz51 rfl .none rfl rfl rfl rfl ?_
 refine tv ?_
 refine Walk.build st51 (ks := [0]) (xs := [_]) rfl rfl .none rfl rfl rfl ?_
 refine Walk.store ty51 .none rfl rfl rfl rfl rfl rfl (by simp) rfl ?_
 refine tv ?_
 refine rn0 (.cons (.cellA ty51 rfl rfl rfl) .nil) (.agg (.cons (.eqd ?_) (.cons (.eqd ?_) (.cons (.eqd ?_) (.cons (.eqd ?_) (.cons (.eqd ?_) (.cons (.nild ?_) .nil)))))))
 all_goals (first | rfl | (simp []; done) | (simp_all; done) | (simp_all; omega) | omega)
theorem spec_l5Ranges_fn {a b : Pat} (hn : 0 ≤ b.n ∧ b.n ≤ 9) (hm : 0 ≤ b.m ∧ b.m ≤ 9) : FnD Tryz.prog 296 [.agg [.d (.i (a).op), .d (.i (a).ctor), .d (.i (a).n), .d (.i (a).m), .d (.i (a).var), .d (encPats (a).kids)], .agg [.d (.i (b).op), .d (.i (b).ctor), .d (.i (b).n), .d (.i (b).m), .d (.i (b).var), .d (encPats (b).kids)]] [] (.d (encPats (rangeQ a.n (minQ a.m (b.n - 1)) ++ rangeQ (maxQ a.n (b.m + 1)) a.m))) [] := by
 refine bd Tryz.f296 58 [] [] fun w0 F0 own kept hk => ?_
 refine Walk.box (id := 3002) .none rfl rfl rfl rfl rfl rfl rfl ?_
 refine Walk.box (id := 3003) .none rfl rfl rfl rfl rfl rfl rfl ?_
 refine ev ?_
 refine Walk.sliceEmptyG 9 sl49 .none rfl rfl ?_
 refine ev ?_
 refine Walk.build st51 (ks := [0, 2, 3]) (xs := [_, _, _]) rfl rfl .none rfl rfl rfl ?_
 refine Walk.alloc (id := 3006) tz51 rfl .none rfl rfl rfl rfl ?_
 refine Walk.store ty51 .none rfl rfl rfl rfl rfl rfl (by simp) rfl ?_
 refine tv ?_
 refine ar ?_
 refine sq (fun h1 h1p h1s => ?_) fun h1 h1p h1s => ?_
 ·try simp only [Q] at h1p
  refine ar ?_
  refine Walk.store ty3 .none rfl rfl rfl rfl rfl rfl (by simp) rfl ?_
  refine tv ?_
  refine sq (fun h2 h2p h2s => ?_) fun h2 h2p h2s => ?_
  ·try simp only [Q] at h2p
   refine Walk.sliceLit sl49 tz51 rfl (by decide) (ks := [0]) (xs := [_]) rfl rfl (by decide) (by decide) .none rfl rfl rfl rfl ?_
   refine Walk.append sl49 zz51 rfl .none rfl rfl rfl rfl (htokL rfl (by first | rfl | (simp; done) | (simp; omega))) (by intro x hx; simp at hx; subst hx; rfl) (by simp) (by simp) ?_
   refine ev ?_
   refine Walk.build st51 (ks := [0, 2, 3]) (xs := [_, _, _]) rfl rfl .none rfl rfl rfl ?_
   refine Walk.alloc (id := 3007) tz51 rfl .none rfl rfl rfl rfl ?_
   refine Walk.store ty51 .none rfl rfl rfl rfl rfl rfl (by simp) rfl ?_
   refine tv ?_
   refine ar ?_
   refine sq (fun h3 h3p h3s => ?_) fun h3 h3p h3s => ?_
   ·try simp only [Q] at h3p
    refine ar ?_
    refine Walk.store ty3 .none rfl rfl rfl rfl rfl rfl (by simp) rfl ?_
    refine tv ?_
    refine sq (fun h4 h4p h4s => ?_) fun h4 h4p h4s => ?_
    ·try simp only [Q] at h4p
     refine Walk.sliceLit sl49 tz51 rfl (by decide) (ks := [0]) (xs := [_]) rfl rfl (by decide) (by decide) .none rfl rfl rfl rfl ?_
     refine Walk.append sl49 zz51 rfl .none rfl rfl rfl rfl (htokL rfl (by first | rfl | (simp; done) | (simp; omega))) (by intro x hx; simp at hx; subst hx; rfl) (by simp) (by simp) ?_
     refine ev ?_
     refine rn0 (r1 rfl) (.gld ?_)
     all_goals (unfold minQ maxQ rangeQ; (repeat' split) <;> first | rfl | (exfalso; omega))
    ·try simp only [Q] at h4p
     refine rn0 (r1 rfl) (.gld ?_)
     all_goals (unfold minQ maxQ rangeQ; (repeat' split) <;> first | rfl | (exfalso; omega))
   ·try simp only [Q] at h3p
    refine sq (fun h5 h5p h5s => ?_) fun h5 h5p h5s => ?_
    ·try simp only [Q] at h5p
     refine Walk.sliceLit sl49 tz51 rfl (by decide) (ks := [0]) (xs := [_]) rfl rfl (by decide) (by decide) .none rfl rfl rfl rfl ?_
     refine Walk.append sl49 zz51 rfl .none rfl rfl rfl rfl (htokL rfl (by first | rfl | (simp; done) | (simp; omega))) (by intro x hx; simp at hx; subst hx; rfl) (by simp) (by simp) ?_
     refine ev ?_
     refine rn0 (r1 rfl) (.gld ?_)
     all_goals (unfold minQ maxQ rangeQ; (repeat' split) <;> first | rfl | (exfalso; omega))
    ·try simp only [Q] at h5p
     refine rn0 (r1 rfl) (.gld ?_)
     all_goals (unfold minQ maxQ rangeQ; (repeat' split) <;> first | rfl | (exfalso; omega))
  ·try simp only [Q] at h2p
   refine Walk.build st51 (ks := [0, 2, 3]) (xs := [_, _, _]) rfl rfl .none rfl rfl rfl ?_
   refine Walk.alloc (id := 3007) tz51 rfl .none rfl rfl rfl rfl ?_
   refine Walk.store ty51 .none rfl rfl rfl rfl rfl rfl (by simp) rfl ?_
   refine tv ?_
   refine ar ?_
   refine sq (fun h6 h6p h6s => ?_) fun h6 h6p h6s => ?_
   ·try simp only [Q] at h6p
    refine ar ?_
    refine Walk.store ty3 .none rfl rfl rfl rfl rfl rfl (by simp) rfl ?_
    refine tv ?_
    refine sq (fun h7 h7p h7s => ?_) fun h7 h7p h7s => ?_
    ·try simp only [Q] at h7p
     refine Walk.sliceLit sl49 tz51 rfl (by decide) (ks := [0]) (xs := [_]) rfl rfl (by decide) (by decide) .none rfl rfl rfl rfl ?_
     refine Walk.append sl49 zz51 rfl .none rfl rfl rfl rfl (htokL rfl (by first | rfl | (simp; done) | (simp; omega))) (by intro x hx; simp at hx; subst hx; rfl) (by simp) (by simp) ?_
     refine ev ?_
     refine rn0 (r1 rfl) (.gld ?_)
     all_goals (unfold minQ maxQ rangeQ; (repeat' split) <;> first | rfl | (exfalso; omega))
    ·try simp only [Q] at h7p
     refine rn0 (r1 rfl) (.gld ?_)
     all_goals (unfold minQ maxQ rangeQ; (repeat' split) <;> first | rfl | (exfalso; omega))
   ·try simp only [Q] at h6p
    refine sq (fun h8 h8p h8s => ?_) fun h8 h8p h8s => ?_
    ·try simp only [Q] at h8p
     refine Walk.sliceLit sl49 tz51 rfl (by decide) (ks := [0]) (xs := [_]) rfl rfl (by decide) (by decide) .none rfl rfl rfl rfl ?_
     refine Walk.append sl49 zz51 rfl .none rfl rfl rfl rfl (htokL rfl (by first | rfl | (simp; done) | (simp; omega))) (by intro x hx; simp at hx; subst hx; rfl) (by simp) (by simp) ?_
     refine ev ?_
     refine rn0 (r1 rfl) (.gld ?_)
     all_goals (unfold minQ maxQ rangeQ; (repeat' split) <;> first | rfl | (exfalso; omega))
    ·try simp only [Q] at h8p
     refine rn0 (r1 rfl) (.gld ?_)
     all_goals (unfold minQ maxQ rangeQ; (repeat' split) <;> first | rfl | (exfalso; omega))
 ·try simp only [Q] at h1p
  refine sq (fun h9 h9p h9s => ?_) fun h9 h9p h9s => ?_
  ·try simp only [Q] at h9p
   refine Walk.sliceLit sl49 tz51 rfl (by decide) (ks := [0]) (xs := [_]) rfl rfl (by decide) (by decide) .none rfl rfl rfl rfl ?_
   refine Walk.append sl49 zz51 rfl .none rfl rfl rfl rfl (htokL rfl (by first | rfl | (simp; done) | (simp; omega))) (by intro x hx; simp at hx; subst hx; rfl) (by simp) (by simp) ?_
   refine ev ?_
   refine Walk.build st51 (ks := [0, 2, 3]) (xs := [_, _, _]) rfl rfl .none rfl rfl rfl ?_
   refine Walk.alloc (id := 3007) tz51 rfl .none rfl rfl rfl rfl ?_
   refine Walk.store ty51 .none rfl rfl rfl rfl rfl rfl (by simp) rfl ?_
   refine tv ?_
   refine ar ?_
   refine sq (fun h10 h10p h10s => ?_) fun h10 h10p h10s => ?_
   ·try simp only [Q] at h10p
    refine ar ?_
    refine Walk.store ty3 .none rfl rfl rfl rfl rfl rfl (by simp) rfl ?_
    refine tv ?_
    refine sq (fun h11 h11p h11s => ?_) fun h11 h11p h11s => ?_
    ·try simp only [Q] at h11p
     refine Walk.sliceLit sl49 tz51 rfl (by decide) (ks := [0]) (xs := [_]) rfl rfl (by decide) (by decide) .none rfl rfl rfl rfl ?_
     refine Walk.append sl49 zz51 rfl .none rfl rfl rfl rfl (htokL rfl (by first | rfl | (simp; done) | (simp; omega))) (by intro x hx; simp at hx; subst hx; rfl) (by simp) (by simp) ?_
     refine ev ?_
     refine rn0 (r1 rfl) (.gld ?_)
     all_goals (unfold minQ maxQ rangeQ; (repeat' split) <;> first | rfl | (exfalso; omega))
    ·try simp only [Q] at h11p
     refine rn0 (r1 rfl) (.gld ?_)
     all_goals (unfold minQ maxQ rangeQ; (repeat' split) <;> first | rfl | (exfalso; omega))
   ·try simp only [Q] at h10p
    refine sq (fun h12 h12p h12s => ?_) fun h12 h12p h12s => ?_
    ·try simp only [Q] at h12p
     refine Walk.sliceLit sl49 tz51 rfl (by decide) (ks := [0]) (xs := [_]) rfl rfl (by decide) (by decide) .none rfl rfl rfl rfl ?_
     refine Walk.append sl49 zz51 rfl .none rfl rfl rfl rfl (htokL rfl (by first | rfl | (simp; done) | (simp; omega))) (by intro x hx; simp at hx; subst hx; rfl) (by simp) (by simp) ?_
     refine ev ?_
     refine rn0 (r1 rfl) (.gld ?_)
     all_goals (unfold minQ maxQ rangeQ; (repeat' split) <;> first | rfl | (exfalso; omega))
    ·try simp only [Q] at h12p
     refine rn0 (r1 rfl) (.gld ?_)
     all_goals (unfold minQ maxQ rangeQ; (repeat' split) <;> first | rfl | (exfalso; omega))
  ·try simp only [Q] at h9p
   refine Walk.build st51 (ks := [0, 2, 3]) (xs := [_, _, _]) rfl rfl .none rfl rfl rfl ?_
   refine Walk.alloc (id := 3007) tz51 rfl .none rfl rfl rfl rfl ?_
   refine Walk.store ty51 .none rfl rfl rfl rfl rfl rfl (by simp) rfl ?_
   refine tv ?_
   refine ar ?_
   refine sq (fun h13 h13p h13s => ?_) fun h13 h13p h13s => ?_
   ·try simp only [Q] at h13p
    refine ar ?_
    refine Walk.store ty3 .none rfl rfl rfl rfl rfl rfl (by simp) rfl ?_
    refine tv ?_
    refine sq (fun h14 h14p h14s => ?_) fun h14 h14p h14s => ?_
    ·try simp only [Q] at h14p
     refine Walk.sliceLit sl49 tz51 rfl (by decide) (ks := [0]) (xs := [_]) rfl rfl (by decide) (by decide) .none rfl rfl rfl rfl ?_
     refine Walk.append sl49 zz51 rfl .none rfl rfl rfl rfl (htokL rfl (by first | rfl | (simp; done) | (simp; omega))) (by intro x hx; simp at hx; subst hx; rfl) (by simp) (by simp) ?_
     refine ev ?_
     refine rn0 (r1 rfl) (.gld ?_)
     all_goals (unfold minQ maxQ rangeQ; (repeat' split) <;> first | rfl | (exfalso; omega))
    ·try simp only [Q] at h14p
     refine rn0 (r1 rfl) (.gld ?_)
     all_goals (unfold minQ maxQ rangeQ; (repeat' split) <;> first | rfl | (exfalso; omega))
   ·try simp only [Q] at h13p
    refine sq (fun h15 h15p h15s => ?_) fun h15 h15p h15s => ?_
    ·try simp only [Q] at h15p
     refine Walk.sliceLit sl49 tz51 rfl (by decide) (ks := [0]) (xs := [_]) rfl rfl (by decide) (by decide) .none rfl rfl rfl rfl ?_
     refine Walk.append sl49 zz51 rfl .none rfl rfl rfl rfl (htokL rfl (by first | rfl | (simp; done) | (simp; omega))) (by intro x hx; simp at hx; subst hx; rfl) (by simp) (by simp) ?_
     refine ev ?_
     refine rn0 (r1 rfl) (.gld ?_)
     all_goals (unfold minQ maxQ rangeQ; (repeat' split) <;> first | rfl | (exfalso; omega))
    ·try simp only [Q] at h15p
     refine rn0 (r1 rfl) (.gld ?_)
     all_goals (unfold minQ maxQ rangeQ; (repeat' split) <;> first | rfl | (exfalso; omega))
theorem spec_l5Wide_q {w : List Data} (hw : WT w) {a k c : Int} (ht : TyIn w.length ⟨a, k⟩) (hc : c ∈ vctors w ⟨a, k⟩) (hl : (argsOf w ⟨a, k⟩ c).length ≤ 3) : FnD Tryz.prog 165 [.d (encDatas w), .agg [.d (.i a), .d (.i k)], .d (.i c)] []
  (.agg [.d (.i 4), .d (.i c), .d (.i 0), .d (.i 0), .d (.i 0), .d (encPats (wholeQ w ⟨a, k⟩ c).kids)]) [] := by
 refine bd Tryz.f165 29 [] [] fun w0 F0 own kept hk => ?_
 refine Walk.box (id := 3004) .none rfl rfl rfl rfl rfl rfl rfl ?_
 refine Walk.alloc (id := 3006) tz51 rfl .none rfl rfl rfl rfl ?_
 refine tv ?_
 refine Walk.build st51 (ks := [0, 1]) (xs := [_, _]) rfl rfl .none rfl rfl rfl ?_
 refine Walk.alloc (id := 3007) tz51 rfl .none rfl rfl rfl rfl ?_
 refine Walk.store ty51 .none rfl rfl rfl rfl rfl rfl (by simp) rfl ?_
 refine tv ?_
 refine Walk.call (cr := []) cal150 (spec_l1Args_v hw ht hc) rfl .none rfl rfl (LeL.refl _) trivial rfl rfl rfl ?_
 refine ev ?_
 refine CWp.tokB 3007 5 9 6 rfl rfl rfl rfl ?_
 refine CWp.loopX (ι := List (Ty) × List (Ty)) hk (fun x => [(9, .d (.i (x.1.length : Int)))]) [16, 17, 18, 19, 20, 21, 22, 23, 24, 25, 26, 27] (fun x => [(3007, some (.box [.d (.i 4), .d (.i c), .d (.i 0), .d (.i 0), .d (.i 0), .gl 9 ((x.1.map fun _ => anyQ).map Pat.cc)])), (9, some (.tok ((x.1.map fun _ => anyQ).map Pat.cc).length 6))]) (fun x => x.1 ++ x.2 = argsOf w ⟨a, k⟩ c) (fun x => x.2.length) ([], argsOf w ⟨a, k⟩ c) (by simp) ⟨⟨_, rfl, (LeA.eqi (by rfl))⟩, trivial⟩ ⟨(by rfl), ⟨beq_nat_eq (by rfl), trivial⟩⟩ (fun x => rfl) (fun x hg1 => ?_)
 obtain ⟨pre, rest⟩ := x
 dsimp only at hg1 ⊢
 refine evc [] [] ?_
 refine sq (fun h1 h1p h1s => ?_) fun h1 h1p h1s => ?_
 ·try simp only [Q] at h1p
  rcases rest with _ | ⟨y, rest⟩
  ·exfalso; simp_all
  refine Walk.call (cr := []) cal111 (spec_l5Any_fn) rfl .none rfl rfl (LeL.refl _) trivial rfl rfl rfl ?_
  refine Walk.sliceLit sl49 tz51 rfl (by decide) (ks := [0]) (xs := [_]) rfl rfl (by decide) (by decide) .none rfl rfl rfl rfl ?_
  refine Walk.append sl49 zz51 rfl .none rfl rfl rfl rfl (htokL rfl (by first | rfl | (simp; done) | (simp; omega))) (by intro x hx; first | (simp at hx; subst hx; rfl) | exact pat_row _ x hx) (by have := congrArg List.length hg1; simp at this; simp; omega) (by have := congrArg List.length hg1; simp at this; simp; omega) ?_
  refine evd [] [] ?_
  refine Walk.store ty49 .none rfl rfl rfl rfl rfl rfl (by simp) rfl ?_
  refine dr ?_
  refine ar ?_
  refine Exists.intro ((pre ++ [y], rest)) ⟨(by have hz := hg1; rw [← hz]; simp), (by simp), Sub.x (by kernel_rfl) (by kernel_rfl) ⟨⟨_, rfl, (LeA.eqi (by (simp; done)))⟩, trivial⟩ (by kernel_rfl) (by kernel_rfl) ⟨(by (simp [getH]; exact ⟨rfl, rfl, rfl, rfl, rfl, rfl⟩)), ⟨beq_nat_eq (by (simp; done)), trivial⟩⟩⟩
 ·try simp only [Q] at h1p
  have hrest : rest = [] := by
   rcases rest with _ | ⟨a, b⟩
   ·rfl
   ·exfalso; have hz := congrArg List.length (hg1); simp only [List.length_append, List.length_cons, List.length_map] at hz; omega
  subst hrest
  refine Walk.store ty51 .none rfl rfl rfl rfl rfl rfl (by simp) rfl ?_
  refine tv ?_
  refine rn0 (.cons (.cellA ty51 rfl rfl rfl) .nil) (.agg (.cons (.eqd ?_) (.cons (.eqd ?_) (.cons (.eqd ?_) (.cons (.eqd ?_) (.cons (.eqd ?_) (.cons (.gld ?_) .nil)))))))
  all_goals (first | rfl | (rw [List.append_nil] at hg1; subst hg1; rw [← Pat.cs_cd]; all_goals rfl))
def meetZ (n : Nat) (a b : Pat) : Pat := if a.op = 3 ∧ b.op ≠ 1 then intQ (maxQ a.n b.n) (minQ a.m b.m) else meetP n a b
theorem meetZ_n {n : Nat} {a b : Pat} (h : ¬ (a.op = 3 ∧ b.op ≠ 1)) : meetZ n a b = meetP n a b := if_neg h
theorem meetZ_is {n : Nat} {a b : Pat} (h : (meetQ n a b).isSome = true) : meetZ n a b = meetP n a b := by
 unfold meetZ
 split
 ·rename_i h3
  cases n with
  | zero => simp [meetQ] at h
  | succ n =>
   have e := meet_3 (n := n) h3.1 h3.2
   rw [e] at h
   split at h
   ·rename_i hr
    rw [if_pos hr] at e
    exact (meetP_some e).symm
   ·cases h
 ·rfl
theorem spec_l5Meet_fn {w : List Data} (hs : Spa w) : ∀ (n m : Nat) {t : Ty} {a b : Pat}, m ≤ n → InS (w.length * 4) t → partP w m t a = true → partP w m t b = true →
  FnD Tryz.prog 316 [.agg [.d (.i (a).op), .d (.i (a).ctor), .d (.i (a).n), .d (.i (a).m), .d (.i (a).var), .d (encPats (a).kids)], .agg [.d (.i (b).op), .d (.i (b).ctor), .d (.i (b).n), .d (.i (b).m), .d (.i (b).var), .d (encPats (b).kids)]] [] (.tup [.agg [.d (.i (meetZ n a b).op), .d (.i (meetZ n a b).ctor), .d (.i (meetZ n a b).n), .d (.i (meetZ n a b).m), .d (.i (meetZ n a b).var), .d (encPats (meetZ n a b).kids)], .d (.bool (meetQ n a b).isSome)]) []
 | n, 0, t, a, b, _, _, ha, _ => by simp [partP] at ha
 | 0, m + 1, t, a, b, h, _, _, _ => by omega
 | n + 1, m + 1, t, a, b, hnm, ht, ha, hb => by
  by_cases h1 : a.op = 1
  ·have e := meet_1 (n := n) (b := b) h1
   rw [meetZ_n (fun h => by omega), meetP_some e, e]
   refine bd Tryz.f316 89 [] [] fun w0 F0 own kept hk => ?_
   refine Walk.box (id := 3002) .none rfl rfl rfl rfl rfl rfl rfl ?_
   refine Walk.box (id := 3003) .none rfl rfl rfl rfl rfl rfl rfl ?_
   refine Walk.alloc (id := 3004) tz51 rfl .none rfl rfl rfl rfl ?_
   refine ev ?_
   refine sq (fun h1 h1p h1s => ?_) fun h1 h1p h1s => ?_
   ·try simp only [Q] at h1p
    refine Walk.store ty51 .none rfl rfl rfl rfl rfl rfl (by simp) rfl ?_
    refine ev ?_
    refine rn0 (.cons (.cellA ty51 rfl rfl rfl) (.cons (.tmp rfl) .nil)) (.tup (.cons (.agg (.cons (.eqd ?_) (.cons (.eqd ?_) (.cons (.eqd ?_) (.cons (.eqd ?_) (.cons (.eqd ?_) (.cons (.eqd ?_) .nil))))))) (.cons (.eqd ?_) .nil)))
    all_goals (rfl)
   ·try simp only [Q] at h1p
    exfalso; omega --stop
  by_cases h2 : b.op = 1
  ·have e := meet_2 (n := n) h1 h2
   rw [meetZ_n (fun h => h.2 h2), meetP_some e, e]
   refine bd Tryz.f316 89 [] [] fun w0 F0 own kept hk => ?_
   refine Walk.box (id := 3002) .none rfl rfl rfl rfl rfl rfl rfl ?_
   refine Walk.box (id := 3003) .none rfl rfl rfl rfl rfl rfl rfl ?_
   refine Walk.alloc (id := 3004) tz51 rfl .none rfl rfl rfl rfl ?_
   refine ev ?_
   refine sq (fun h1 h1p h1s => ?_) fun h1 h1p h1s => ?_
   ·try simp only [Q] at h1p
    exfalso; omega --stop
   ·try simp only [Q] at h1p
    refine sq (fun h2 h2p h2s => ?_) fun h2 h2p h2s => ?_
    ·try simp only [Q] at h2p
     refine Walk.store ty51 .none rfl rfl rfl rfl rfl rfl (by simp) rfl ?_
     refine ev ?_
     refine rn0 (.cons (.cellA ty51 rfl rfl rfl) (.cons (.tmp rfl) .nil)) (.tup (.cons (.agg (.cons (.eqd ?_) (.cons (.eqd ?_) (.cons (.eqd ?_) (.cons (.eqd ?_) (.cons (.eqd ?_) (.cons (.eqd ?_) .nil))))))) (.cons (.eqd ?_) .nil)))
     all_goals (rfl)
    ·try simp only [Q] at h2p
     exfalso; omega --stop
  by_cases h3 : a.op = 3
  ·have e := meet_3 (n := n) h3 h2
   have ez : meetZ (n + 1) a b = intQ (maxQ a.n b.n) (minQ a.m b.m) := if_pos ⟨h3, h2⟩
   have eb : (meetQ (n + 1) a b).isSome = decide (maxQ a.n b.n ≤ minQ a.m b.m) := by
    rw [e]
    by_cases hr : maxQ a.n b.n ≤ minQ a.m b.m
    ·rw [if_pos hr, decide_eq_true hr]; rfl
    ·rw [if_neg hr, decide_eq_false hr]; rfl
   rw [ez, eb]
   refine bd Tryz.f316 89 [] [] fun w0 F0 own kept hk => ?_
   refine Walk.box (id := 3002) .none rfl rfl rfl rfl rfl rfl rfl ?_
   refine Walk.box (id := 3003) .none rfl rfl rfl rfl rfl rfl rfl ?_
   refine Walk.alloc (id := 3004) tz51 rfl .none rfl rfl rfl rfl ?_
   refine ev ?_
   refine sq (fun h1 h1p h1s => ?_) fun h1 h1p h1s => ?_
   ·try simp only [Q] at h1p
    exfalso; omega --stop
   ·try simp only [Q] at h1p
    refine sq (fun h2 h2p h2s => ?_) fun h2 h2p h2s => ?_
    ·try simp only [Q] at h2p
     exfalso; omega --stop
    ·try simp only [Q] at h2p
     refine sq (fun h3 h3p h3s => ?_) fun h3 h3p h3s => ?_
     ·try simp only [Q] at h3p
      refine sq (fun h4 h4p h4s => ?_) fun h4 h4p h4s => ?_
      ·try simp only [Q] at h4p
       refine sq (fun h5 h5p h5s => ?_) fun h5 h5p h5s => ?_
       ·try simp only [Q] at h5p
        refine Walk.build st51 (ks := [0, 2, 3]) (xs := [_, _, _]) rfl rfl .none rfl rfl rfl ?_
        refine ev ?_
        refine Walk.store ty51 .none rfl rfl rfl rfl rfl rfl (by simp) rfl ?_
        refine ev ?_
        refine rn0 (.cons (.cellA ty51 rfl rfl rfl) (.cons (.tmp rfl) .nil)) (.tup (.cons (.agg (.cons (.eqd ?_) (.cons (.eqd ?_) (.cons (.eqd ?_) (.cons (.eqd ?_) (.cons (.eqd ?_) (.cons (.nild ?_) .nil))))))) (.cons (.eqd ?_) .nil)))
        all_goals (first | rfl | ((try simp only [mk_op, mk_ctor, mk_n, mk_m, mk_var, mk_kids]); simp only [minQ, maxQ]; (repeat' split) <;> first | rfl | (exfalso; omega)))
       ·try simp only [Q] at h5p
        refine Walk.build st51 (ks := [0, 2, 3]) (xs := [_, _, _]) rfl rfl .none rfl rfl rfl ?_
        refine ev ?_
        refine Walk.store ty51 .none rfl rfl rfl rfl rfl rfl (by simp) rfl ?_
        refine ev ?_
        refine rn0 (.cons (.cellA ty51 rfl rfl rfl) (.cons (.tmp rfl) .nil)) (.tup (.cons (.agg (.cons (.eqd ?_) (.cons (.eqd ?_) (.cons (.eqd ?_) (.cons (.eqd ?_) (.cons (.eqd ?_) (.cons (.nild ?_) .nil))))))) (.cons (.eqd ?_) .nil)))
        all_goals (first | rfl | ((try simp only [mk_op, mk_ctor, mk_n, mk_m, mk_var, mk_kids]); simp only [minQ, maxQ]; (repeat' split) <;> first | rfl | (exfalso; omega)))
      ·try simp only [Q] at h4p
       refine sq (fun h6 h6p h6s => ?_) fun h6 h6p h6s => ?_
       ·try simp only [Q] at h6p
        refine Walk.build st51 (ks := [0, 2, 3]) (xs := [_, _, _]) rfl rfl .none rfl rfl rfl ?_
        refine ev ?_
        refine Walk.store ty51 .none rfl rfl rfl rfl rfl rfl (by simp) rfl ?_
        refine ev ?_
        refine rn0 (.cons (.cellA ty51 rfl rfl rfl) (.cons (.tmp rfl) .nil)) (.tup (.cons (.agg (.cons (.eqd ?_) (.cons (.eqd ?_) (.cons (.eqd ?_) (.cons (.eqd ?_) (.cons (.eqd ?_) (.cons (.nild ?_) .nil))))))) (.cons (.eqd ?_) .nil)))
        all_goals (first | rfl | ((try simp only [mk_op, mk_ctor, mk_n, mk_m, mk_var, mk_kids]); simp only [minQ, maxQ]; (repeat' split) <;> first | rfl | (exfalso; omega)))
       ·try simp only [Q] at h6p
        refine Walk.build st51 (ks := [0, 2, 3]) (xs := [_, _, _]) rfl rfl .none rfl rfl rfl ?_
        refine ev ?_
        refine Walk.store ty51 .none rfl rfl rfl rfl rfl rfl (by simp) rfl ?_
        refine ev ?_
        refine rn0 (.cons (.cellA ty51 rfl rfl rfl) (.cons (.tmp rfl) .nil)) (.tup (.cons (.agg (.cons (.eqd ?_) (.cons (.eqd ?_) (.cons (.eqd ?_) (.cons (.eqd ?_) (.cons (.eqd ?_) (.cons (.nild ?_) .nil))))))) (.cons (.eqd ?_) .nil)))
        all_goals (first | rfl | ((try simp only [mk_op, mk_ctor, mk_n, mk_m, mk_var, mk_kids]); simp only [minQ, maxQ]; (repeat' split) <;> first | rfl | (exfalso; omega)))
     ·try simp only [Q] at h3p
      exfalso; omega --stop
  have oa := part_op ha
  have h4 : a.op = 4 := by omega
  have h4b : b.op = 4 := by have := same_op ha hb h1 h2; omega
  have ez : meetZ (n + 1) a b = meetP (n + 1) a b := meetZ_n (fun h => h3 h.1)
  by_cases hc : a.ctor = b.ctor
  ·obtain ⟨c1, c2, c3, -⟩ := part_ctor ha h4
   obtain ⟨d1, d2, d3, -⟩ := part_ctor hb h4b
   rw [← hc] at d3
   have h3l := hs.args t a.ctor ht c1
   have ka := fun i (hi : i < a.kids.length) => part_kid ha hi
   have kb := fun i (hi : i < b.kids.length) => part_kid hb hi
   rw [types4 h4] at ka
   rw [types4 h4b, ← hc] at kb
   have e := meet_4 (n := n) h4 h2 hc
   have hlen : a.kids.length = b.kids.length := by omega
   have ih := fun i (hi : i < a.kids.length) => spec_l5Meet_fn hs n m (t := nth (argsOf w t a.ctor) i) (a := nth a.kids i) (b := nth b.kids i) (by omega) (args_ins hs.dp ht c1 _ (nth_mem (by omega))) (ka i (by omega)) (kb i (by omega))
   have key : ∀ (i : Nat) (acc : List Pat), i < a.kids.length → (meetQ n (nth a.kids i) (nth b.kids i)).isSome = true → meetL (meetQ n) (a.kids.drop i) (b.kids.drop i) acc = meetL (meetQ n) (a.kids.drop (i + 1)) (b.kids.drop (i + 1)) (acc ++ [meetZ n (nth a.kids i) (nth b.kids i)]) := fun i acc hi h => by
    rw [meetZ_is h]; exact meetL_some hi (by omega) (meet_is h)
   rw [ez]
   refine bd Tryz.f316 89 [] [] fun w0 F0 own kept hk => ?_
   refine Walk.box (id := 3002) .none rfl rfl rfl rfl rfl rfl rfl ?_
   refine Walk.box (id := 3003) .none rfl rfl rfl rfl rfl rfl rfl ?_
   refine Walk.alloc (id := 3004) tz51 rfl .none rfl rfl rfl rfl ?_
   refine ev ?_
   refine sq (fun h1 h1p h1s => ?_) fun h1 h1p h1s => ?_
   ·try simp only [Q, Pat.cs_len] at h1p
    exfalso; omega --stop
   ·try simp only [Q, Pat.cs_len] at h1p
    refine sq (fun h2 h2p h2s => ?_) fun h2 h2p h2s => ?_
    ·try simp only [Q, Pat.cs_len] at h2p
     exfalso; omega --stop
    ·try simp only [Q, Pat.cs_len] at h2p
     refine sq (fun h3 h3p h3s => ?_) fun h3 h3p h3s => ?_
     ·try simp only [Q, Pat.cs_len] at h3p
      exfalso; omega --stop
     ·try simp only [Q, Pat.cs_len] at h3p
      refine sq (fun h4 h4p h4s => ?_) fun h4 h4p h4s => ?_
      ·try simp only [Q, Pat.cs_len] at h4p
       exfalso; omega --stop
      ·try simp only [Q, Pat.cs_len] at h4p
       refine Walk.build st51 (ks := [0, 1]) (xs := [_, _]) rfl rfl .none rfl rfl rfl ?_
       refine Walk.alloc (id := 3008) tz51 rfl .none rfl rfl rfl rfl ?_
       refine Walk.store ty51 .none rfl rfl rfl rfl rfl rfl (by simp) rfl ?_
       refine tv ?_
       refine CWp.tokB 3008 5 9 6 rfl rfl rfl rfl ?_
       refine CWp.loopX (ι := Nat × List Pat) hk (fun x => [(9, .d (.i (x.1 : Int)))]) [5, 10, 11, 58, 59, 60, 61, 62, 63, 64, 65, 66, 67, 68, 69, 70, 71, 72, 73, 74, 75, 76, 77, 78, 79, 80, 81, 82, 83, 84, 85, 86, 87] (fun x => [(3008, some (.box [.d (.i 4), .d (.i a.ctor), .d (.i 0), .d (.i 0), .d (.i 0), .gl 9 (x.2.map Pat.cc)])), (9, some (.tok (x.2.map Pat.cc).length 6))]) (fun x => x.1 ≤ a.kids.length ∧ x.2.length = x.1 ∧ meetL (meetQ n) (a.kids.drop x.1) (b.kids.drop x.1) x.2 = meetL (meetQ n) a.kids b.kids []) (fun x => a.kids.length - x.1) (0, []) ⟨by simp, rfl, rfl⟩ ⟨⟨_, rfl, (LeA.eqi (by first | rfl | (simp; done) | (simp_all; done) | omega))⟩, trivial⟩ ⟨(by first | rfl | (simp [getH]; done)), ⟨beq_nat_eq (by rfl), trivial⟩⟩ (fun x => rfl) (fun x hg1 => ?_)
       refine evc [] [] ?_
       refine sq (fun h5 h5p h5s => ?_) fun h5 h5p h5s => ?_
       ·try simp only [Q, Pat.cs_len] at h5p
        refine Walk.idx sl49 .none rfl rfl rfl rfl (pats_at (by omega)) rfl ?_
        refine evd [] [] ?_
        refine Walk.idx sl49 .none rfl rfl rfl rfl (pats_at (by omega)) rfl ?_
        refine evd [] [] ?_
        refine Walk.call (cr := []) cal316 (ih x.1 (by omega)) rfl .none rfl rfl (LeL.refl _) trivial rfl rfl rfl ?_
        refine evd [] [] ?_
        refine Walk.alloc (id := 3010) tz51 rfl .none rfl rfl rfl rfl ?_
        refine Walk.store ty51 .none rfl rfl rfl rfl rfl rfl (by simp) rfl ?_
        refine evd [] [] ?_
        refine dr ?_
        refine sq (fun h6 h6p h6s => ?_) fun h6 h6p h6s => ?_
        ·try simp only [Q, Pat.cs_len] at h6p
         refine Walk.build st51 (ks := []) (xs := []) rfl rfl .none rfl rfl rfl ?_
         refine Walk.store ty51 .none rfl rfl rfl rfl rfl rfl (by simp) rfl ?_
         refine ev ?_
         refine rn0 (.cons (.cellA ty51 rfl rfl rfl) (.cons (.tmp rfl) .nil)) (.tup (.cons (.agg (.cons (.eqd ?_) (.cons (.eqd ?_) (.cons (.eqd ?_) (.cons (.eqd ?_) (.cons (.eqd ?_) (.cons (.nild ?_) .nil))))))) (.cons (.eqd ?_) .nil)))
         all_goals ((have e2 : meetQ (n + 1) a b = none := (by rw [e, ← hg1.2.2, meetL_none (by omega) (by omega) (meet_no (by assumption))]; rfl); (first | rw [meetP_none e2] | rw [e2]); all_goals rfl))
        ·try simp only [Q, Pat.cs_len] at h6p
         refine Walk.sliceLit sl49 tz51 rfl (by decide) (ks := [0]) (xs := [_]) rfl rfl (by decide) (by decide) .none rfl rfl rfl rfl ?_
         refine Walk.append sl49 zz51 rfl .none rfl rfl rfl rfl (htokL rfl (by first | rfl | (simp; done) | (simp; omega))) (by intro x hx; first | (simp at hx; subst hx; rfl) | exact pat_row _ x hx) (by simp; omega) (by simp; omega) ?_
         refine ev ?_
         refine Walk.store ty49 .none rfl rfl rfl rfl rfl rfl (by simp) rfl ?_
         refine tv ?_
         refine ar ?_
         refine Exists.intro ((x.1 + 1, x.2 ++ [meetZ n (nth a.kids x.1) (nth b.kids x.1)])) ⟨⟨by dsimp only; omega, by dsimp only; rw [List.length_append, hg1.2.1]; rfl, by dsimp only; rw [← key x.1 x.2 (by omega) (by assumption)]; exact hg1.2.2⟩, (by dsimp only; omega), Sub.x (by kernel_rfl) (by kernel_rfl) ⟨⟨_, rfl, (LeA.eqi (by first | rfl | (simp; done) | (simp_all; done) | omega))⟩, trivial⟩ (by kernel_rfl) (by kernel_rfl) ⟨(by first | rfl | (simp [getH]; done)), ⟨beq_nat_eq (by (simp; done)), trivial⟩⟩⟩
       ·try simp only [Q, Pat.cs_len] at h5p
        refine Walk.store ty51 .none rfl rfl rfl rfl rfl rfl (by simp) rfl ?_
        refine ev ?_
        refine rn0 (.cons (.cellA ty51 rfl rfl rfl) (.cons (.tmp rfl) .nil)) (.tup (.cons (.agg (.cons (.eqd ?_) (.cons (.eqd ?_) (.cons (.eqd ?_) (.cons (.eqd ?_) (.cons (.eqd ?_) (.cons (.gld ?_) .nil))))))) (.cons (.eqd ?_) .nil)))
        all_goals (first | (have e2 : meetQ (n + 1) a b = none := (by rw [e, ← hg1.2.2, meetL_none (by omega) (by omega) (meet_no (by assumption))]; rfl); (first | rw [meetP_none e2] | rw [e2]); all_goals rfl) | (have e2 : meetQ (n + 1) a b = some (ctorQ a.ctor x.2) := (by rw [e, ← hg1.2.2, meetL_end (by omega)]; rfl); rw [meetP_some e2, Pat.cs_cd]; all_goals rfl) | (have e2 : meetQ (n + 1) a b = some (ctorQ a.ctor x.2) := (by rw [e, ← hg1.2.2, meetL_end (by omega)]; rfl); rw [meetP_some e2]; all_goals rfl) | (have e2 : meetQ (n + 1) a b = some (ctorQ a.ctor x.2) := (by rw [e, ← hg1.2.2, meetL_end (by omega)]; rfl); rw [e2]; all_goals rfl))
  ·skip
   have e := meet_4n (n := n) h4 h2 hc
   rw [ez, meetP_none e, e]
   refine bd Tryz.f316 89 [] [] fun w0 F0 own kept hk => ?_
   refine Walk.box (id := 3002) .none rfl rfl rfl rfl rfl rfl rfl ?_
   refine Walk.box (id := 3003) .none rfl rfl rfl rfl rfl rfl rfl ?_
   refine Walk.alloc (id := 3004) tz51 rfl .none rfl rfl rfl rfl ?_
   refine ev ?_
   refine sq (fun h1 h1p h1s => ?_) fun h1 h1p h1s => ?_
   ·try simp only [Q] at h1p
    exfalso; omega --stop
   ·try simp only [Q] at h1p
    refine sq (fun h2 h2p h2s => ?_) fun h2 h2p h2s => ?_
    ·try simp only [Q] at h2p
     exfalso; omega --stop
    ·try simp only [Q] at h2p
     refine sq (fun h3 h3p h3s => ?_) fun h3 h3p h3s => ?_
     ·try simp only [Q] at h3p
      exfalso; omega --stop
     ·try simp only [Q] at h3p
      refine sq (fun h4 h4p h4s => ?_) fun h4 h4p h4s => ?_
      ·try simp only [Q] at h4p
       refine Walk.build st51 (ks := []) (xs := []) rfl rfl .none rfl rfl rfl ?_
       refine Walk.store ty51 .none rfl rfl rfl rfl rfl rfl (by simp) rfl ?_
       refine ev ?_
       refine rn0 (.cons (.cellA ty51 rfl rfl rfl) (.cons (.tmp rfl) .nil)) (.tup (.cons (.agg (.cons (.eqd ?_) (.cons (.eqd ?_) (.cons (.eqd ?_) (.cons (.eqd ?_) (.cons (.eqd ?_) (.cons (.nild ?_) .nil))))))) (.cons (.eqd ?_) .nil)))
       all_goals (rfl)
      ·try simp only [Q] at h4p
       exfalso; omega --stop
end Go.Proofs.YtdgknigklgnefaaGreat
