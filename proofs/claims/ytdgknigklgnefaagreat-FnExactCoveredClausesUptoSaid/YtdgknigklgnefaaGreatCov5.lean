/-
  THE ABSTRACT WALK AND THE WALKS, part 5 of 6: the parts F45, F46, F50, F51, F52, F53, F54, F55, F56, F57, F58, F60, F61, F30, F63, F64, L14.
-/
import Derived.Test.YtdgknigklgnefaaGreatCov4
namespace Go.Proofs.YtdgknigklgnefaaGreat
open Go
set_option linter.unusedSimpArgs false
set_option linter.unusedVariables false
set_option maxRecDepth 100000
set_option maxHeartbeats 2000000
structure VarsOk (l : List Bd) (vs : List Vt) : Prop where
 len : l.length = vs.length
 nod : (l.map Bd.var).Nodup
 sub : ∀ x ∈ l.map Bd.var, x ∈ vs.map Vt.var
theorem matchL_vars {f : Pat → Val → List Bd × Bool} {g : Ty → Pat → List Vt} : ∀ {a : List Ty} {b : List Pat} {c : List Val} {acc : List Bd}, a.length = b.length → b.length = c.length →
  (∀ i, i < b.length → (f (nth b i) (nth c i)).2 = true → nodupV (g (nth a i) (nth b i)) = true → VarsOk (f (nth b i) (nth c i)).1 (g (nth a i) (nth b i))) → ((varsL g a b).map Vt.var).Nodup →
  (matchL f b c acc).2 = true → ∃ X, (matchL f b c acc).1 = acc ++ X ∧ VarsOk X (varsL g a b)
 | [], [], [], acc, _, _, _, _, _ => ⟨[], by simp [matchL], ⟨rfl, by simp, by simp⟩⟩
 | t :: a, p :: b, v :: c, acc, h1, h2, h3, h4, h5 => by
  unfold matchL at h5 ⊢
  split at h5
  ·rename_i hok
   rw [if_pos hok]
   simp only [varsL, List.map_append] at h4 ⊢
   obtain ⟨n1, n2, n3⟩ := List.nodup_append.1 h4
   have k0 := h3 0 (by simp) hok (decide_eq_true n1)
   obtain ⟨X, e, k⟩ := matchL_vars (f := f) (g := g) (a := a) (b := b) (c := c) (acc := acc ++ (f p v).1) (by simpa using h1) (by simpa using h2) (fun i hi => h3 (i + 1) (by simpa using hi)) n2 h5
   refine ⟨(f p v).1 ++ X, by rw [e, List.append_assoc], ⟨?_, ?_, ?_⟩⟩
   ·have := k0.len
    have e0 : (f p v).1.length = (g t p).length := this
    rw [List.length_append, List.length_append, e0, k.len]
   ·rw [List.map_append]
    exact List.nodup_append.2 ⟨k0.nod, k.nod, fun x hx y hy => n3 x (k0.sub x hx) y (k.sub y hy)⟩
   ·intro x hx
    rw [List.map_append] at hx ⊢
    rcases List.mem_append.1 hx with h | h
    ·exact List.mem_append_left _ (k0.sub x h)
    ·exact List.mem_append_right _ (k.sub x h)
  ·exact absurd h5 (by simp)
 | [], _ :: _, _, _, h, _, _, _, _ => by simp at h
 | _ :: _, [], _, _, h, _, _, _, _ => by simp at h
 | [], [], _ :: _, _, _, h, _, _, _ => by simp at h
 | _ :: _, _ :: _, [], _, _, h, _, _, _ => by simp at h
theorem alike_sub {a b : List Vt} (ha : nodupV a = true) (hb : nodupV b = true) (h : alikeV a b = true) : a.length = b.length ∧ ∀ x ∈ b.map Vt.var, x ∈ a.map Vt.var := by
 rw [alike_same hb] at h
 unfold sameV2 at h
 simp only [Bool.and_eq_true, decide_eq_true_eq, Bool.not_eq_true', List.any_eq_false, Bool.not_eq_true, decide_eq_false_iff_not, Classical.not_not] at h
 have na := of_decide_eq_true ha
 refine ⟨h.1, fun x hx => ?_⟩
 by_cases hm : x ∈ a.map Vt.var
 ·exact hm
 ·have := nodup_sub (a := x :: a.map Vt.var) (b := b.map Vt.var) (List.nodup_cons.2 ⟨hm, na⟩) (fun y hy => by
   rcases List.mem_cons.1 hy with rfl | hy
   ·exact hx
   ·obtain ⟨z, hz, rfl⟩ := List.mem_map.1 hy
    exact List.mem_map.2 ⟨z, h.2 z hz, rfl⟩)
  simp only [List.length_cons, List.length_map] at this
  omega
theorem match_vars {w : List Data} : ∀ (n m : Nat) {t : Ty} {p : Pat} {v : Val}, MatchOk w n m t p v → linP w n t p = true → (matchV n p v).2 = true → VarsOk (matchV n p v).1 (varsP w n t p)
 | 0, m, t, p, v, h, _, _ => by have := h.shape; simp [shapeP] at this
 | n + 1, m, t, p, v, h, hl, hm => by
  have hop := shape_op h.shape
  have hnod := of_decide_eq_true (lin_nodup w (n + 1) t p h.shape hl)
  by_cases h5 : p.op = 5
  ·obtain ⟨hk, k0, k1⟩ := h.two h5
   have e1 := types5 (w := w) (t := t) h5
   obtain ⟨x, y, hxy⟩ : ∃ x y, p.kids = [x, y] := by
    match hp : p.kids, hk with
    | [x, y], _ => exact ⟨x, y, rfl⟩
   have ex : nth p.kids 0 = x := by rw [hxy]; rfl
   have ey : nth p.kids 1 = y := by rw [hxy]; rfl
   simp only [linP, Bool.and_eq_true, if_pos h5, e1, hxy] at hl
   rw [ex] at k0
   rw [ey] at k1
   have e2 : varsP w (n + 1) t p = varsP w n t x := by
    simp only [varsP, nameP, vtypes, e1, hxy, if_pos h5]
    rw [if_neg (by omega)]
    simp [varsL]
   simp only [all2, Bool.and_eq_true, and_true] at hl
   rw [e2]
   cases hm0 : (matchV n (nth p.kids 0) v).2 with
   | true =>
    rw [match_5a h5 hm0]
    rw [ex] at hm0 ⊢
    exact match_vars n m k0 hl.1.1 hm0
   | false =>
    rw [match_5b h5 hm0] at hm ⊢
    rw [ey] at hm ⊢
    have k := match_vars n m k1 hl.1.2 hm
    obtain ⟨s1, s2⟩ := alike_sub (lin_nodup w n t x k0.shape hl.1.1) (lin_nodup w n t y k1.shape hl.1.2) hl.2
    exact ⟨by rw [k.len]; exact s1.symm, k.nod, fun z hz => s2 z (k.sub z hz)⟩
  have hv : vtypes w t p = typesP w t p := by unfold vtypes; rw [if_neg h5]
  by_cases h1 : p.op = 1
  ·rw [match_1 h1]
   have : varsP w (n + 1) t p = [] := by
    simp only [varsP, nameP, hv]
    rw [if_neg (by omega)]
    unfold typesP; rw [if_neg (by omega), if_neg (by omega), if_neg (by omega)]; simp [varsL]
   rw [this]; exact ⟨rfl, by simp, by simp⟩
  by_cases h2 : p.op = 2
  ·rw [match_2 h2]
   have : varsP w (n + 1) t p = [⟨p.var, t⟩] := by
    simp only [varsP, nameP, hv]
    rw [if_pos (by omega)]
    unfold typesP; rw [if_neg (by omega), if_neg (by omega), if_neg (by omega)]; simp [varsL]
   rw [this]; exact ⟨rfl, by simp, by simp⟩
  by_cases h3 : p.op = 3
  ·rw [match_3 h3]
   have : varsP w (n + 1) t p = [] := by
    simp only [varsP, nameP, hv]
    rw [if_neg (by omega)]
    unfold typesP; rw [if_neg (by omega), if_neg (by omega), if_neg (by omega)]; simp [varsL]
   rw [this]; exact ⟨rfl, by simp, by simp⟩
  simp only [linP, if_neg h5, Bool.and_eq_true] at hl
  by_cases h6 : p.op = 6
  ·obtain ⟨hk, k0⟩ := h.one h6
   have e1 := types6 (w := w) (t := t) h6
   obtain ⟨x, hx⟩ : ∃ x, p.kids = [x] := by
    match hp : p.kids, hk with
    | [x], _ => exact ⟨x, rfl⟩
   have ex : nth p.kids 0 = x := by rw [hx]; rfl
   have e2 : varsP w (n + 1) t p = ⟨p.var, t⟩ :: varsP w n t x := by
    simp only [varsP, nameP, hv, e1, hx]
    rw [if_pos (by omega)]
    simp [varsL]
   rw [match_6 h6] at hm ⊢
   rw [e1, hx] at hl
   simp only [all2, Bool.and_eq_true, and_true] at hl
   rw [ex] at k0 hm ⊢
   rw [e2] at hnod ⊢
   have k := match_vars n m k0 hl.1 hm
   rw [List.map_cons] at hnod
   have hnod' := List.nodup_cons.1 hnod
   refine ⟨by simp [k.len], ?_, fun z hz => ?_⟩
   ·rw [List.map_cons]
    exact List.nodup_cons.2 ⟨fun hh => hnod'.1 (k.sub _ hh), k.nod⟩
   ·rw [List.map_cons] at hz ⊢
    rcases List.mem_cons.1 hz with h | h
    ·rw [h]; exact List.mem_cons_self
    ·exact List.mem_cons_of_mem _ (k.sub z h)
  have h4 : p.op = 4 := by omega
  by_cases hc : p.ctor = v.ctor
  ·obtain ⟨hlen, k, hk⟩ := h.kid h4 hc
   rw [match_4 h4 hc] at hm ⊢
   have e2 : varsP w (n + 1) t p = varsL (varsP w n) (typesP w t p) p.kids := by
    simp only [varsP, nameP, hv]
    rw [if_neg (by omega), List.nil_append]
   rw [e2] at hnod ⊢
   have hl2 := (shapeP_own h.shape).2
   obtain ⟨X, e, kx⟩ := matchL_vars (f := matchV n) (g := varsP w n) (a := typesP w t p) (acc := []) hl2.symm hlen (fun i hi hmi hni => match_vars n k (hk i hi) (all2_mem hl2.symm hl.1 i (by omega)) hmi) hnod hm
   rw [e, List.nil_append]; exact kx
  ·rw [match_4n h4 hc] at hm; exact absurd hm (by simp)
theorem match_six {w : List Data} {m : Nat} {t : Ty} {p : Pat} {v : Val} (h : MatchOk w 10 m t p v) (hp : isP w t p = true) (hm : (matchV 10 p v).2 = true) : (matchV 10 p v).1.length ≤ 6 := by
 unfold isP at hp
 simp only [Bool.and_eq_true] at hp
 have k := match_vars 10 m h hp.2.2 hm
 rw [k.len]
 have e := (scanP_eq w 10 t p 0).1
 have hw : wantP w 10 t p 0 = true := by
  unfold wantP; rw [hp.1, hp.2.2]; have := of_decide_eq_true hp.2.1; simp; omega
 rw [if_pos hw] at e
 have := scanP_in w 10 t p 0 _ e
 exact nodup_len this.1 this.2
theorem impl_match_gv {w : List Data} : ∀ (n m : Nat) {t : Ty} {p : Pat} {v : Val}, MatchOk w n m t p v → (matchV n p v).2 = true →
  FnD Tryz.prog 181 [.agg [.d (.i p.op), .d (.i p.ctor), .d (.i p.n), .d (.i p.m), .d (.i p.var), .d (encPats p.kids)], .agg [.d (.i v.ctor), .d (.i v.num), .d (encVals v.kids)]] [] (.tup [.gv 9 ((matchV n p v).1.map Bd.c), .d (.bool true)]) [(9, some (.tok ((matchV n p v).1.map Bd.c).length 4))]
 | 0, m, t, p, v, h, _ => by have := h.shape; simp [shapeP] at this
 | n + 1, m, t, p, v, h, hm => by
  have hop := shape_op h.shape
  have k4 := h.kid
  have k5 := h.two
  have k6 := h.one
  have hsz := h.psz
  have hps := Pat.size_eq p
  have hkl := ((Pat.ok_iff p).1 h.pok).1
  have mok := fun {t : Ty} {q : Pat} {u : Val} (hs : shapeP w n t q = true) (hu : u.ok) => matchV_ok n hs hu
  by_cases h4 : p.op = 4
  ·have hc : p.ctor = v.ctor := by
    by_cases hc : p.ctor = v.ctor
    ·exact hc
    ·rw [match_4n h4 hc] at hm; exact absurd hm (by simp)
   obtain ⟨hl, k, hkm⟩ := k4 h4 hc
   have hm4 := match_4 (n := n) h4 hc
   have hall := fun (i : Nat) (hi : i < p.kids.length) => matchL_all (f := matchV n) (a := p.kids) (b := v.kids) (acc := []) (by rw [← hm4]; exact hm) i hi (by omega)
   refine bd Tryz.f181 105 [10] [] fun w0 F0 own kept hk => ?_
   refine Walk.box (id := 3002) .none rfl rfl rfl rfl rfl rfl rfl ?_
   refine Walk.box (id := 3003) .none rfl rfl rfl rfl rfl rfl rfl ?_
   refine evs [10] [] ?_
   refine sq (fun h1 h1p h1s => ?_) fun h1 h1p h1s => ?_
   ·try simp only [Q, Pat.cs_len] at h1p
    exfalso; omega --stop
   ·try simp only [Q, Pat.cs_len] at h1p
    refine sq (fun h2 h2p h2s => ?_) fun h2 h2p h2s => ?_
    ·try simp only [Q, Pat.cs_len] at h2p
     exfalso; omega --stop
    ·try simp only [Q, Pat.cs_len] at h2p
     refine sq (fun h3 h3p h3s => ?_) fun h3 h3p h3s => ?_
     ·try simp only [Q, Pat.cs_len] at h3p
      exfalso; omega --stop
     ·try simp only [Q, Pat.cs_len] at h3p
      refine sq (fun h4 h4p h4s => ?_) fun h4 h4p h4s => ?_
      ·try simp only [Q, Pat.cs_len] at h4p
       exfalso; omega --stop
      ·try simp only [Q, Pat.cs_len] at h4p
       refine sq (fun h5 h5p h5s => ?_) fun h5 h5p h5s => ?_
       ·try simp only [Q, Pat.cs_len] at h5p
        exfalso; omega --stop
       ·try simp only [Q, Pat.cs_len] at h5p
        refine sq (fun h6 h6p h6s => ?_) fun h6 h6p h6s => ?_
        ·try simp only [Q, Pat.cs_len] at h6p
         exfalso; omega --stop
        ·try simp only [Q, Pat.cs_len] at h6p
         refine Walk.assignNilV 9 4 .none rfl rfl ?_
         refine tv ?_
         refine CWp.loopX (ι := Nat × List Bd) hk (fun x => [(83, .d (.i (x.1 : Int))), (10, .gv 9 (x.2.map Bd.c))]) [4, 5, 11, 12, 13, 14, 84, 85, 86, 87, 88, 89, 90, 91, 92, 93, 94, 95, 96, 97, 98, 99, 100, 101, 102, 103] (fun x => [(9, some (.tok ((x.2.map Bd.c)).length 4))]) (fun x => x.1 ≤ p.kids.length ∧ matchL (matchV n) (p.kids.drop x.1) (v.kids.drop x.1) x.2 = matchL (matchV n) p.kids v.kids [] ∧ x.2.length + Pats.size (p.kids.drop x.1) ≤ Pats.size p.kids) (fun x => p.kids.length - x.1) (0, []) ⟨by simp, rfl, by simp⟩ ⟨⟨_, rfl, (LeA.eqi (by first | rfl | omega | (simp; done)))⟩, ⟨⟨_, rfl, (LeA.gvg (by first | rfl | omega | (simp; done)))⟩, trivial⟩⟩ ⟨beq_nat_eq (by rfl), trivial⟩ (fun x => rfl) (fun x hg1 => ?_)
         refine evc [10] [] ?_
         refine sq (fun h7 h7p h7s => ?_) fun h7 h7p h7s => ?_
         ·try simp only [Q, Pat.cs_len] at h7p
          refine Walk.idx sl49 .none rfl rfl rfl rfl (pats_at (by omega)) rfl ?_
          refine evs [10] [] ?_
          refine Walk.alloc (id := 3012) tz51 rfl .none rfl rfl rfl rfl ?_
          refine evs [10] [] ?_
          refine Walk.store ty51 .none rfl rfl rfl rfl rfl rfl (by simp) rfl ?_
          refine tv ?_
          refine Walk.idx sl58 .none rfl rfl rfl rfl (vals_at (by omega)) rfl ?_
          refine evd [10] [] ?_
          refine Walk.call (cr := []) cal181 (impl_match_fn n k (hkm x.1 (by omega))) rfl .none rfl rfl (LeL.refl _) trivial rfl rfl rfl ?_
          refine evd [10] [] ?_
          refine dr ?_
          refine sq (fun h8 h8p h8s => ?_) fun h8 h8p h8s => ?_
          ·try simp only [Q, Pat.cs_len] at h8p
           exfalso; have := hall x.1 (by omega); simp_all --stop
          ·try simp only [Q, Pat.cs_len] at h8p
           refine Walk.appendV sl61 zz177 .none rfl rfl rfl rfl (htokL rfl (by first | rfl | (simp; done) | (simp; omega))) (by intro x hx; exact bd_rows _ x hx) (by have := (mok (hkm x.1 (by omega)).shape (hkm x.1 (by omega)).vok).2; have := psize_drop (l := p.kids) (i := x.1) (by omega); have := hg1.2.2; simp; omega) (by have := (mok (hkm x.1 (by omega)).shape (hkm x.1 (by omega)).vok).2; have := psize_drop (l := p.kids) (i := x.1) (by omega); have := hg1.2.2; simp; omega) ?_
           refine asg ?_
           refine tv ?_
           refine ar ?_
           refine Exists.intro ((x.1 + 1, x.2 ++ (matchV n (nth p.kids x.1) (nth v.kids x.1)).1)) ⟨⟨by dsimp only; omega, by dsimp only; rw [← matchL_next (by omega) (by omega) (hall x.1 (by omega))]; exact hg1.2.1, by have := (mok (hkm x.1 (by omega)).shape (hkm x.1 (by omega)).vok).2; have := psize_drop (l := p.kids) (i := x.1) (by omega); have := hg1.2.2; dsimp only; rw [List.length_append]; omega⟩, (by dsimp only; omega), Sub.x (by kernel_rfl) (by kernel_rfl) ⟨⟨_, rfl, (LeA.eqi (by first | rfl | omega | (simp; done)))⟩, ⟨⟨_, rfl, (LeA.gvg (by first | rfl | omega | (simp; done)))⟩, trivial⟩⟩ (by kernel_rfl) (by kernel_rfl) ⟨beq_nat_eq (by (simp; done)), trivial⟩⟩
         ·try simp only [Q, Pat.cs_len] at h7p
          refine rn [(9, some (.tok ((matchV (n + 1) p v).1.map Bd.c).length 4))] (r2 rfl rfl) (.tup (.cons (.gvg ?_) (.cons (.eqd ?_) .nil))) ⟨rfl, rfl⟩ (SubH.get ⟨(by rw [hm4, ← hg1.2.1, matchL_end (by omega)]; all_goals rfl), trivial⟩) (boxOK rfl)
          all_goals (first | rfl | (rw [hm4, ← hg1.2.1, matchL_end (by omega)]; all_goals rfl))
  by_cases h5 : p.op = 5
  ·obtain ⟨hl, k0, k1⟩ := k5 h5
   cases hm0 : (matchV n (nth p.kids 0) v).2 with
   | true =>
    have e := match_5a (n := n) h5 hm0
    rw [e]
    refine bd Tryz.f181 105 [] [] fun w0 F0 own kept hk => ?_
    refine Walk.box (id := 3002) .none rfl rfl rfl rfl rfl rfl rfl ?_
    refine Walk.box (id := 3003) .none rfl rfl rfl rfl rfl rfl rfl ?_
    refine ev ?_
    refine sq (fun h1 h1p h1s => ?_) fun h1 h1p h1s => ?_
    ·try simp only [Q, Pat.cs_len] at h1p
     exfalso; omega --stop
    ·try simp only [Q, Pat.cs_len] at h1p
     refine sq (fun h2 h2p h2s => ?_) fun h2 h2p h2s => ?_
     ·try simp only [Q, Pat.cs_len] at h2p
      exfalso; omega --stop
     ·try simp only [Q, Pat.cs_len] at h2p
      refine sq (fun h3 h3p h3s => ?_) fun h3 h3p h3s => ?_
      ·try simp only [Q, Pat.cs_len] at h3p
       exfalso; omega --stop
      ·try simp only [Q, Pat.cs_len] at h3p
       refine sq (fun h4 h4p h4s => ?_) fun h4 h4p h4s => ?_
       ·try simp only [Q, Pat.cs_len] at h4p
        refine Walk.idx (i := 0) sl49 .none rfl rfl rfl rfl (pats_at (by omega)) rfl ?_
        refine evd [] [] ?_
        refine Walk.call (cr := [9]) cal181 (impl_match_gv n m k0 hm0) rfl .none rfl rfl (LeL.refl _) trivial rfl rfl rfl ?_
        refine evd [] [] ?_
        refine dr ?_
        refine sq (fun h5 h5p h5s => ?_) fun h5 h5p h5s => ?_
        ·try simp only [Q, Pat.cs_len] at h5p
         refine rn [(9, some (.tok ((matchV n (nth p.kids 0) v).1.map Bd.c).length 4))] (r2 rfl rfl) (.tup (.cons (.gvg ?_) (.cons (.eqd ?_) .nil))) ⟨rfl, rfl⟩ (SubH.get ⟨(by rfl), trivial⟩) (boxOK rfl)
         all_goals (rfl)
        ·try simp only [Q, Pat.cs_len] at h5p
         exfalso; simp_all --stop
       ·try simp only [Q, Pat.cs_len] at h4p
        exfalso; omega --stop
   | false =>
    have e := match_5b (n := n) h5 hm0
    rw [e] at hm ⊢
    have hf0 := impl_match_fn n m k0
    rw [hm0] at hf0
    refine bd Tryz.f181 105 [] [] fun w0 F0 own kept hk => ?_
    refine Walk.box (id := 3002) .none rfl rfl rfl rfl rfl rfl rfl ?_
    refine Walk.box (id := 3003) .none rfl rfl rfl rfl rfl rfl rfl ?_
    refine ev ?_
    refine sq (fun h1 h1p h1s => ?_) fun h1 h1p h1s => ?_
    ·try simp only [Q, Pat.cs_len] at h1p
     exfalso; omega --stop
    ·try simp only [Q, Pat.cs_len] at h1p
     refine sq (fun h2 h2p h2s => ?_) fun h2 h2p h2s => ?_
     ·try simp only [Q, Pat.cs_len] at h2p
      exfalso; omega --stop
     ·try simp only [Q, Pat.cs_len] at h2p
      refine sq (fun h3 h3p h3s => ?_) fun h3 h3p h3s => ?_
      ·try simp only [Q, Pat.cs_len] at h3p
       exfalso; omega --stop
      ·try simp only [Q, Pat.cs_len] at h3p
       refine sq (fun h4 h4p h4s => ?_) fun h4 h4p h4s => ?_
       ·try simp only [Q, Pat.cs_len] at h4p
        refine Walk.idx (i := 0) sl49 .none rfl rfl rfl rfl (pats_at (by omega)) rfl ?_
        refine evd [] [] ?_
        refine Walk.call (cr := []) cal181 (hf0) rfl .none rfl rfl (LeL.refl _) trivial rfl rfl rfl ?_
        refine evd [] [] ?_
        refine dr ?_
        refine sq (fun h5 h5p h5s => ?_) fun h5 h5p h5s => ?_
        ·try simp only [Q, Pat.cs_len] at h5p
         exfalso; simp_all --stop
        ·try simp only [Q, Pat.cs_len] at h5p
         refine Walk.idx (i := 1) sl49 .none rfl rfl rfl rfl (pats_at (by omega)) rfl ?_
         refine evd [] [] ?_
         refine Walk.call (cr := [9]) cal181 (impl_match_gv n m k1 hm) rfl .none rfl rfl (LeL.refl _) trivial rfl rfl rfl ?_
         refine evd [] [] ?_
         refine dr ?_
         refine rn [(9, some (.tok ((matchV n (nth p.kids 1) v).1.map Bd.c).length 4))] (r2 rfl rfl) (.tup (.cons (.gvg ?_) (.cons (.eqd ?_) .nil))) ⟨rfl, rfl⟩ (SubH.get ⟨(by rfl), trivial⟩) (boxOK rfl)
         all_goals (rfl)
       ·try simp only [Q, Pat.cs_len] at h4p
        exfalso; omega --stop
  ·have hw : p.op = 3 → within v.num p.n p.m = true := fun h3 => by rw [match_3 h3] at hm; exact hm
   have h6m : p.op = 6 → (matchV n (nth p.kids 0) v).2 = true := fun h6 => by rw [match_6 h6] at hm; exact hm
   refine bd Tryz.f181 105 [4] [] fun w0 F0 own kept hk => ?_
   refine Walk.box (id := 3002) .none rfl rfl rfl rfl rfl rfl rfl ?_
   refine Walk.box (id := 3003) .none rfl rfl rfl rfl rfl rfl rfl ?_
   refine asg ?_
   refine evs [4] [] ?_
   refine sq (fun h1 h1p h1s => ?_) fun h1 h1p h1s => ?_
   ·try simp only [Q, Pat.cs_len] at h1p
    refine Walk.assignNilV 9 4 .none rfl rfl ?_
    refine evs [4] [] ?_
    refine rn [(9, some (.tok ((matchV (n + 1) p v).1.map Bd.c).length 4))] (r2 rfl rfl) (.tup (.cons (.gvg ?_) (.cons (.eqd ?_) .nil))) ⟨rfl, rfl⟩ (SubH.get ⟨(by (rw [match_1 (by omega)]; all_goals rfl)), trivial⟩) (boxOK rfl)
    all_goals (first | rfl | (rw [match_1 (by omega)]; all_goals rfl) | (rw [match_2 (by omega)]; all_goals rfl) | (rw [match_3 (by omega)]; all_goals first | rfl | (rw [hw (by omega)]; done)) | (rw [match_6 (by omega)]; all_goals first | rfl | (rw [h6m (by omega)]; done)) | (rw [hw (by omega)]; done) | (rw [h6m (by omega)]; done))
   ·try simp only [Q, Pat.cs_len] at h1p
    refine sq (fun h2 h2p h2s => ?_) fun h2 h2p h2s => ?_
    ·try simp only [Q, Pat.cs_len] at h2p
     refine Walk.build st177 (ks := [0, 1]) (xs := [_, _]) rfl rfl .none rfl rfl rfl ?_
     refine Walk.sliceLitGV 9 sl61 tz177 rfl (by decide) (ks := [0]) (xs := [_]) rfl rfl (by decide) (by decide) .none rfl rfl rfl rfl rfl ?_
     refine asg ?_
     refine evs [4] [] ?_
     refine rn [(9, some (.tok ((matchV (n + 1) p v).1.map Bd.c).length 4))] (r2 rfl rfl) (.tup (.cons (.gvg ?_) (.cons (.eqd ?_) .nil))) ⟨rfl, rfl⟩ (SubH.get ⟨(by (rw [match_2 (by omega)]; all_goals rfl)), trivial⟩) (boxOK rfl)
     all_goals (first | rfl | (rw [match_1 (by omega)]; all_goals rfl) | (rw [match_2 (by omega)]; all_goals rfl) | (rw [match_3 (by omega)]; all_goals first | rfl | (rw [hw (by omega)]; done)) | (rw [match_6 (by omega)]; all_goals first | rfl | (rw [h6m (by omega)]; done)) | (rw [hw (by omega)]; done) | (rw [h6m (by omega)]; done))
    ·try simp only [Q, Pat.cs_len] at h2p
     refine sq (fun h3 h3p h3s => ?_) fun h3 h3p h3s => ?_
     ·try simp only [Q, Pat.cs_len] at h3p
      refine Walk.call (cr := []) cal87 (impl_within_fn) rfl .none rfl rfl (LeL.refl _) trivial rfl rfl rfl ?_
      refine Walk.assignNilV 9 4 .none rfl rfl ?_
      refine evs [4] [] ?_
      refine rn [(9, some (.tok ((matchV (n + 1) p v).1.map Bd.c).length 4))] (r2 rfl rfl) (.tup (.cons (.gvg ?_) (.cons (.eqd ?_) .nil))) ⟨rfl, rfl⟩ (SubH.get ⟨(by (rw [match_3 (by omega)]; all_goals rfl)), trivial⟩) (boxOK rfl)
      all_goals (first | rfl | (rw [match_1 (by omega)]; all_goals rfl) | (rw [match_2 (by omega)]; all_goals rfl) | (rw [match_3 (by omega)]; all_goals first | rfl | (rw [hw (by omega)]; done)) | (rw [match_6 (by omega)]; all_goals first | rfl | (rw [h6m (by omega)]; done)) | (rw [hw (by omega)]; done) | (rw [h6m (by omega)]; done))
     ·try simp only [Q, Pat.cs_len] at h3p
      refine sq (fun h4 h4p h4s => ?_) fun h4 h4p h4s => ?_
      ·try simp only [Q, Pat.cs_len] at h4p
       exfalso; omega --stop
      ·try simp only [Q, Pat.cs_len] at h4p
       refine sq (fun h5 h5p h5s => ?_) fun h5 h5p h5s => ?_
       ·try simp only [Q, Pat.cs_len] at h5p
        refine Walk.idx (i := 0) sl49 .none rfl rfl rfl rfl (pats_at (by have := (k6 (by omega)).1; omega)) rfl ?_
        refine evd [4] [] ?_
        refine Walk.call (cr := []) cal181 (impl_match_fn n m (k6 (by omega)).2) rfl .none rfl rfl (LeL.refl _) trivial rfl rfl rfl ?_
        refine evd [4] [] ?_
        refine dr ?_
        refine Walk.build st177 (ks := [0, 1]) (xs := [_, _]) rfl rfl .none rfl rfl rfl ?_
        refine Walk.sliceLitGV 9 sl61 tz177 rfl (by decide) (ks := [0]) (xs := [_]) rfl rfl (by decide) (by decide) .none rfl rfl rfl rfl rfl ?_
        refine evs [4] [] ?_
        refine Walk.appendV sl61 zz177 .none rfl rfl rfl rfl (htokL rfl (by first | rfl | (simp; done) | (simp; omega))) (by intro x hx; exact bd_rows _ x hx) (by have := (mok (k6 (by omega)).2.shape h.vok).2; have := pnth_size (l := p.kids) (i := 0) (by have := (k6 (by omega)).1; omega); simp; omega) (by have := (mok (k6 (by omega)).2.shape h.vok).2; have := pnth_size (l := p.kids) (i := 0) (by have := (k6 (by omega)).1; omega); simp; omega) ?_
        refine evs [4] [] ?_
        refine asg ?_
        refine evs [4] [] ?_
        refine rn [(9, some (.tok ((matchV (n + 1) p v).1.map Bd.c).length 4))] (r2 rfl rfl) (.tup (.cons (.gvg ?_) (.cons (.eqd ?_) .nil))) ⟨rfl, rfl⟩ (SubH.get ⟨(by (rw [match_6 (by omega)]; show some (Res.tok _ _) = some (Res.tok _ _); simp; omega)), trivial⟩) (boxOK rfl)
        all_goals (first | rfl | (rw [match_1 (by omega)]; all_goals rfl) | (rw [match_2 (by omega)]; all_goals rfl) | (rw [match_3 (by omega)]; all_goals first | rfl | (rw [hw (by omega)]; done)) | (rw [match_6 (by omega)]; all_goals first | rfl | (rw [h6m (by omega)]; done)) | (rw [hw (by omega)]; done) | (rw [h6m (by omega)]; done))
       ·try simp only [Q, Pat.cs_len] at h5p
        exfalso; omega --stop
theorem chunk_bd' {n : Nat} {S : List Bd} (h : n = S.length) : chunkD n 4 (bdC S) = some (S.map Bd.c) := by
 rw [h, ← List.length_map (f := Bd.c)]; exact chunk_bd S
theorem idsD (l : List D) : AV.idsL (l.map AV.d) = [] := by
 induction l with
 | nil => rfl
 | cons x r ih => simpa [AV.idsL, AV.ids] using ih
theorem impl_matched_fn {w : List Data} {m : Nat} {t : Ty} {p : Pat} {v : Val} (h : MatchOk w 10 m t p v) (hp : isP w t p = true) :
  FnD Tryz.prog 104 [.agg [.d (.i p.op), .d (.i p.ctor), .d (.i p.n), .d (.i p.m), .d (.i p.var), .d (encPats p.kids)], .agg [.d (.i v.ctor), .d (.i v.num), .d (encVals v.kids)]] [] (.tup [.d (encBds (matchedV 10 p v).1), .d (.bool (matchedV 10 p v).2)]) [] := by
 unfold matchedV
 cases hm : (matchV 10 p v).2 with
 | false =>
  have hf := impl_match_fn 10 m h
  rw [hm] at hf
  rw [if_neg (by simp)]
  refine bd Tryz.f104 36 [] [] fun w0 F0 own kept hk => ?_
  refine Walk.box (id := 3002) .none rfl rfl rfl rfl rfl rfl rfl ?_
  refine Walk.box (id := 3003) .none rfl rfl rfl rfl rfl rfl rfl ?_
  refine ev ?_
  refine Walk.call (cr := []) cal181 (hf) rfl .none rfl rfl (LeL.refl _) trivial rfl rfl rfl ?_
  refine ev ?_
  refine sq (fun h1 h1p h1s => ?_) fun h1 h1p h1s => ?_
  ·try simp only [Q] at h1p
   refine rn0 (r2 rfl rfl) (.tup (.cons (.nild ?_) (.cons (.eqd ?_) .nil)))
   all_goals (rfl)
  ·try simp only [Q] at h1p
   exfalso; simp_all --stop
 | true =>
  have hf := impl_match_gv 10 m h hm
  have h6 := match_six h hp hm
  have hbo := sortB_ok (matchV_ok 10 h.shape h.vok).1
  have hsl := sortB_len (matchV 10 p v).1
  have hvs := h.vsz
  rw [if_pos rfl]
  have hLm : ∀ L : List Bd, (L.map Bd.c).length = L.length := fun L => by simp
  have hLm := hLm (matchV 10 p v).1
  have hso : sortL ((matchV 10 p v).1.length - 1) 1 (matchV 10 p v).1 = sortB (matchV 10 p v).1 := rfl
  generalize (matchV 10 p v).1 = L at *
  generalize hS : sortB L = S at *
  have hrow : ∀ {i : Nat}, i < L.length → (nth S i).val.ok ∧ (nth S i).val.size ≤ v.size := fun hi => hbo _ (nth_mem (by omega))
  refine bd Tryz.f104 36 [26] [4, 999999] fun w0 F0 own kept hk => ?_
  refine Walk.box (id := 3002) .none rfl rfl rfl (by rfl) (by rfl) (by rfl) (by rfl) ?_
  refine Walk.box (id := 3003) .none rfl rfl rfl (by rfl) (by rfl) (by rfl) (by rfl) ?_
  refine evs [26] [] ?_
  refine Walk.call (cr := [9]) cal181 (hf) rfl .none rfl rfl (LeL.refl _) trivial rfl rfl rfl ?_
  refine evs [26] [] ?_
  refine sq (fun h1 h1p h1s => ?_) fun h1 h1p h1s => ?_
  ·try simp only [Q, List.length_map] at h1p
   exfalso; simp_all --stop
  ·try simp only [Q, List.length_map] at h1p
   refine CWp.fixV hk 6 9 4 rfl rfl rfl (fun hx2 => ?_) (fun hx2 => ?_)
   ·
    refine evc [26] [] ?_
    refine Walk.call (cr := []) cal182 (slices_SortFunc_nil) rfl .none rfl rfl (LeL.refl _) trivial rfl (by rfl) (by rfl) ?_
    refine tv ?_
    refine CWp.loopX (ι := Unit) hk (fun u => [(22, .d (.i 0))]) [8, 9, 23, 24, 25, 26, 27, 28, 29, 30, 31, 32, 33, 34] (fun u => []) (fun u => True) (fun u => 0) () trivial ⟨⟨_, rfl, (LeA.eqi (by first | rfl | (simp; done) | (simp_all; done) | omega))⟩, trivial⟩ trivial (fun x => rfl) (fun u hg1 => ?_)
    refine evc [26] [4, 999999] ?_
    refine sq (fun h3 h3p h3s => ?_) fun h3 h3p h3s => ?_
    ·try simp only [Q, List.length_map] at h3p
     exfalso; simp at h3 --stop
    ·try simp only [Q, List.length_map] at h3p
     refine CWp.ret ?_
     refine rn0 (r2 rfl rfl) (.tup (.cons (.eqd ?_) (.cons (.eqd ?_) .nil)))
     all_goals (first | rfl | (rw [show S = [] from List.eq_nil_of_length_eq_zero (by have hz : L.map Bd.c = [] := (by assumption); have hz2 := congrArg List.length hz; simp only [List.length_nil] at hz2; omega)]; rfl))
   ·
    refine evc [26] [] ?_
    refine Walk.call (cr := []) cal182 (slices_SortFunc_fn (L := L) (by omega) cal183 (fun a b => impl_matched_1_fn)) rfl .none rfl rfl (.cons (LeA.msn (by first | rfl | (simp [List.length_map]; done))) (.cons (.refl _) .nil)) ⟨rfl, trivial⟩ rfl okCall_bd rfl ?_
    refine tv ?_
    refine CWp.loopX (ι := Nat) hk (fun i => [(22, .d (.i (i : Int)))]) [8, 9, 23, 24, 25, 26, 27, 28, 29, 30, 31, 32, 33, 34] (fun i => [(9, some (.box (bdC S)))]) (fun i => i ≤ L.length) (fun i => L.length - i) 0 (by omega) ⟨⟨_, rfl, (LeA.eqi (by first | rfl | (simp; done) | (simp_all; done) | omega))⟩, trivial⟩ ⟨(by (show some (Res.box _) = some (Res.box _); rw [hso])), trivial⟩ (fun x => rfl) (fun i hg1 => ?_)
    refine evc [26] [4, 999999] ?_
    refine sq (fun h4 h4p h4s => ?_) fun h4 h4p h4s => ?_
    ·try simp only [Q, List.length_map] at h4p
     refine Walk.idxM sl61 .none rfl rfl rfl rfl (by omega) ?_
     refine Walk.loadBA ty177 .none rfl rfl rfl ((cut_bd (by omega))) ?_
     refine Walk.alloc (id := 3009) tz177 rfl .none rfl (by rfl) (by rfl) (by (simp only [freshB, occH, occE, Res.ids, List.cons_append, List.nil_append, AV.idsL, AV.ids, idsL_append, ownCells_ids, zerosA_idsR, repNil, List.map_cons, List.map_nil, upC, idsD, bdC_ids]; rfl)) ?_
     refine evs [26] [] ?_
     refine Walk.store ty177 .none rfl rfl rfl rfl rfl rfl (by simp) rfl ?_
     refine tv ?_
     refine Walk.call (cr := []) cal102 (impl_ownValue_fn (nth S i).val.size (Nat.le_refl _) (hrow (by omega)).1) rfl .none rfl rfl (LeL.refl _) trivial rfl (by rfl) (by rfl) ?_
     refine Walk.idxM sl61 .none rfl rfl rfl rfl (by omega) ?_
     refine evs [26] [] ?_
     refine Walk.store ty65 .none rfl rfl rfl rfl rfl rfl (by simp) ((put_bv (by omega))) ?_
     refine tv ?_
     refine ar ?_
     refine Exists.intro (i + 1) ⟨(by omega), (by omega), Sub.x (by kernel_rfl) (by kernel_rfl) ⟨⟨_, rfl, (LeA.eqi (by first | rfl | (simp; done) | (simp_all; done) | omega))⟩, trivial⟩ (by kernel_rfl) (by kernel_rfl) ⟨(by rfl), trivial⟩⟩
    ·try simp only [Q, List.length_map] at h4p
     refine CWp.frz hk 4 9 _ _ rfl rfl (chunk_bd' (by simp; omega)) rfl ?_
     refine CWp.ret ?_
     refine rn0 (r2 rfl rfl) (.tup (.cons (.eqd ?_) (.cons (.eqd ?_) .nil)))
     all_goals (rfl)
theorem match_ok {w : List Data} {a k : Int} {p : Pat} {v : Val} (h1 : isP w ⟨a, k⟩ p = true) (h2 : isV w ⟨a, k⟩ v = true) (hp : p.ok) (hv : v.ok) : MatchOk w 10 10 ⟨a, k⟩ p v := by
 unfold isP at h1
 unfold isV at h2
 simp only [Bool.and_eq_true, decide_eq_true_eq] at h1 h2
 exact ⟨h1.1, h2.1, hp, hv, by omega, by omega⟩
inductive Ex where
 | mk (op n ctor : Int) (kids : List Ex)
 deriving Inhabited
mutual
def Ex.c : Ex → List D
 | .mk op n ctor kids => [.i op, .i n, .i ctor, .sl (Ex.cs kids)]
def Ex.cs : List Ex → List (List D)
 | [] => []
 | v :: r => v.c :: Ex.cs r
end
abbrev encExs (l : List Ex) : D := .sl (Ex.cs l)
theorem Ex.cs_eq : ∀ l : List Ex, Ex.cs l = l.map Ex.c
 | [] => rfl
 | v :: r => by simp [Ex.cs, Ex.cs_eq r]
theorem Ex.cs_len (l : List Ex) : (Ex.cs l).length = l.length := by simp [Ex.cs_eq]
def Ex.op : Ex → Int | .mk a0 _ _ _ => a0
def Ex.n : Ex → Int | .mk _ a1 _ _ => a1
def Ex.ctor : Ex → Int | .mk _ _ a2 _ => a2
def Ex.kids : Ex → List Ex | .mk _ _ _ k => k
abbrev Ex.cc (v : Ex) : List D := [.i v.op, .i v.n, .i v.ctor, .sl (Ex.cs v.kids)]
theorem Ex.c_eq (v : Ex) : v.c = v.cc := by cases v; rfl
theorem Ex.eta (v : Ex) : Ex.mk v.op v.n v.ctor v.kids = v := by cases v; rfl
theorem Ex.cs_at' {pre : List Ex} {x : Ex} {rest xs : List Ex} (h : pre ++ x :: rest = xs) : (Ex.cs xs)[pre.length]? = some x.cc := by rw [Ex.cs_eq, ← Ex.c_eq]; exact zip_at h
mutual
def exEq : Ex → Ex → Bool
 | .mk a0 a1 a2 ks, .mk b0 b1 b2 ls => decide (a0 = b0) && (decide (a1 = b1) && (decide (a2 = b2) && exsEq ks ls))
def exsEq : List Ex → List Ex → Bool
 | [], [] => true
 | x :: r, y :: s => exEq x y && exsEq r s
 | _, _ => false
end
mutual
def Ex.ok : Ex → Prop
 | .mk _ _ _ ks => ks.length ≤ 1000000000000 ∧ Exs.ok ks
def Exs.ok : List Ex → Prop
 | [] => True
 | v :: r => v.ok ∧ Exs.ok r
end
theorem Exs.ok_mem : ∀ {l : List Ex}, Exs.ok l → ∀ v, v ∈ l → v.ok
 | x :: r, h, v, hv => by
  simp only [Exs.ok] at h
  rcases List.mem_cons.1 hv with rfl | hv
  ·exact h.1
  ·exact Exs.ok_mem h.2 v hv
mutual
def Ex.size : Ex → Nat
 | .mk _ _ _ ks => 1 + Exs.size ks
def Exs.size : List Ex → Nat
 | [] => 0
 | v :: r => v.size + Exs.size r
end
theorem Exs.size_mem : ∀ {l : List Ex} {v : Ex}, v ∈ l → v.size ≤ Exs.size l
 | x :: r, v, hv => by
  simp only [Exs.size]
  rcases List.mem_cons.1 hv with rfl | hv
  ·omega
  ·have := Exs.size_mem hv; omega
theorem Ex.ok_iff (v : Ex) : v.ok ↔ v.kids.length ≤ 1000000000000 ∧ Exs.ok v.kids := by cases v; rfl
theorem Ex.size_eq (v : Ex) : v.size = 1 + Exs.size v.kids := by cases v; rfl
mutual
theorem exEq_refl : ∀ v : Ex, exEq v v = true
 | .mk _ _ _ ks => by simp [exEq, exsEq_refl ks]
theorem exsEq_refl : ∀ l : List Ex, exsEq l l = true
 | [] => rfl
 | v :: r => by simp [exsEq, exEq_refl v, exsEq_refl r]
end
theorem Ex.cs_cc (l : List Ex) : Ex.cs l = l.map Ex.cc := by
 rw [Ex.cs_eq]; exact List.map_congr_left (fun v _ => Ex.c_eq v)
mutual
def mEx : Ex → Nat
 | .mk _ _ _ ks => mExs ks
def mExs : List Ex → Nat
 | [] => 0
 | v :: r => 1 + mEx v + mExs r
end
structure Gd where
 op : Int
 var : Int
 n : Int
 deriving Inhabited
structure Cl where
 pat : Pat
 g : Gd
 deriving Inhabited
structure Ft where
 arg : Ty
 res : Ty
 deriving Inhabited
structure Fu where
 ty : Ft
 cls : List Cl
 bodies : List Ex
 deriving Inhabited
abbrev Cl.c (x : Cl) : List D := [.i x.pat.op, .i x.pat.ctor, .i x.pat.n, .i x.pat.m, .i x.pat.var, .sl (Pat.cs x.pat.kids), .i x.g.op, .i x.g.var, .i x.g.n]
abbrev encCls (l : List Cl) : D := .sl (l.map Cl.c)
abbrev Ft.c (x : Ft) : List D := [.i x.arg.data, .i x.arg.index, .i x.res.data, .i x.res.index]
abbrev Fu.c (x : Fu) : List D := [.i x.ty.arg.data, .i x.ty.arg.index, .i x.ty.res.data, .i x.ty.res.index, encCls x.cls, encExs x.bodies]
def ClsOk (l : List Cl) : Prop := l.length ≤ 1000000000000 ∧ ∀ c ∈ l, c.pat.ok
def mCl (c : Cl) : Nat := mPat c.pat
def mCls (l : List Cl) : Nat := l.length + (l.map mCl).sum
def gdEq (a b : Gd) : Bool := decide (a.op = b.op) && (decide (a.var = b.var) && decide (a.n = b.n))
def clEq (a b : Cl) : Bool := patEq a.pat b.pat && gdEq a.g b.g
def clsEq (a b : List Cl) : Bool := all2 clEq a b
theorem all2_refl {α : Type} {f : α → α → Bool} (h : ∀ x, f x x = true) : ∀ l : List α, all2 f l l = true
 | [] => rfl
 | x :: r => by simp [all2, h x, all2_refl h r]
theorem clEq_refl (a : Cl) : clEq a a = true := by simp [clEq, gdEq, patEq_refl]
theorem clsEq_refl (l : List Cl) : clsEq l l = true := all2_refl clEq_refl l
theorem laws_szClause_fn {c : Cl} {left : Int} (hok : c.pat.ok) (k0 : 0 ≤ left) (k1 : left ≤ 1000000000000) :
  FnD Tryz.prog 89 [.agg [.d (.i c.pat.op), .d (.i c.pat.ctor), .d (.i c.pat.n), .d (.i c.pat.m), .d (.i c.pat.var), .d (encPats c.pat.kids), .d (.i c.g.op), .d (.i c.g.var), .d (.i c.g.n)], .d (.i left)] [] (.d (.i (szr left (mCl c)))) [] := by
 have z := szr_or (left := left) (mCl c)
 refine bd Tryz.f89 12 [] [] fun w0 F0 own kept hk => ?_
 refine Walk.box (id := 3002) .none rfl rfl rfl rfl rfl rfl rfl ?_
 refine ev ?_
 refine Walk.call (cr := []) cal154 (laws_szPattern_fn _ (Nat.le_refl _) hok k0 k1) rfl .none rfl rfl (LeL.refl _) trivial rfl rfl rfl ?_
 refine ev ?_
 refine sq (fun h1 h1p h1s => ?_) fun h1 h1p h1s => ?_
 ·try simp only [Q] at h1p
  refine rn0 (r1 rfl) (.eqd ?_)
  all_goals (refine congrArg D.i ?_; unfold mCl at *; omega)
 ·try simp only [Q] at h1p
  refine rn0 (r1 rfl) (.eqd ?_)
  all_goals (refine congrArg D.i ?_; unfold mCl at *; omega)
theorem laws_szClauseS_fn {l : List Cl} {left : Int} (hs : ClsOk l) (k0 : 0 ≤ left) (k1 : left ≤ 1000000000000) : FnD Tryz.prog 22 [.d (encCls l), .d (.i left)] [] (.d (.i (szr left (mCls l)))) [] := by
 have h := hs.1
 have z := szr_or (left := left) (mCls l)
 simp only [mCls] at z ⊢
 refine bd Tryz.f22 27 [] [] fun w0 F0 own kept hk => ?_
 refine ar ?_
 refine sq (fun h1 h1p h1s => ?_) fun h1 h1p h1s => ?_
 ·try simp only [Q] at h1p
  refine rn0 (r1 rfl) (.eqd ?_)
  all_goals (refine congrArg D.i ?_; first | omega | (have e := sum_split (f := mCl) hg1.1; have z3 := szr_or (left := v) (mCl y); omega) | (rw [List.append_nil] at hg1; rw [hg1.1] at hg1; omega))
 ·try simp only [Q] at h1p
  refine CWp.loopX (ι := List (Cl) × List (Cl) × (Int)) hk (fun x => [(5, .d (.i (x.1.length : Int))), (1, .d (.i x.2.2))]) [4, 12, 13, 14, 15, 16, 17, 18, 19, 20, 21, 22, 23, 24, 25] (fun x => []) (fun x => x.1 ++ x.2.1 = l ∧ x.2.2 = left - l.length - (x.1.map mCl).sum ∧ 0 ≤ x.2.2) (fun x => x.2.1.length) ([], l, left - l.length) ⟨by simp, by simp, by simp at *; omega⟩ ⟨⟨_, rfl, (LeA.eqi (by first | rfl | (simp; done)))⟩, ⟨⟨_, rfl, (LeA.eqi (by first | rfl | (simp; done)))⟩, trivial⟩⟩ trivial (fun x => rfl) (fun x hg1 => ?_)
  obtain ⟨pre, rest, v⟩ := x
  dsimp only at hg1 ⊢
  refine evc [] [] ?_
  refine sq (fun h2 h2p h2s => ?_) fun h2 h2p h2s => ?_
  ·try simp only [Q] at h2p
   rcases rest with _ | ⟨y, rest⟩
   ·exfalso; simp_all
   refine Walk.idx sl38 .none rfl rfl rfl rfl (zip_at hg1.1) rfl ?_
   refine ev ?_
   refine Walk.call (cr := []) cal89 (laws_szClause_fn (c := y) (hs.2 y (by rw [← hg1.1]; simp)) (by omega) (by omega)) rfl .none rfl rfl (LeL.refl _) trivial rfl rfl rfl ?_
   refine ev ?_
   refine sq (fun h3 h3p h3s => ?_) fun h3 h3p h3s => ?_
   ·try simp only [Q] at h3p
    refine rn0 (r1 rfl) (.eqd ?_)
    all_goals (refine congrArg D.i ?_; first | omega | (have e := sum_split (f := mCl) hg1.1; have z3 := szr_or (left := v) (mCl y); omega) | (rw [List.append_nil] at hg1; rw [hg1.1] at hg1; omega))
   ·try simp only [Q] at h3p
    refine ar ?_
    refine Exists.intro ((pre ++ [y], rest, szr v (mCl y))) ⟨⟨(by have hz := hg1.1; rw [← hz]; simp), (by have e := sum_split (f := mCl) hg1.1; have z3 := szr_or (left := v) (mCl y); simp; omega)⟩, (by simp), Sub.x (by kernel_rfl) (by kernel_rfl) ⟨⟨_, rfl, (LeA.eqi (by first | rfl | (simp; done)))⟩, ⟨⟨_, rfl, (LeA.eqi (by first | rfl | (simp; done)))⟩, trivial⟩⟩ (by kernel_rfl) (by kernel_rfl) trivial⟩
  ·try simp only [Q] at h2p
   have hrest : rest = [] := by
    rcases rest with _ | ⟨a, b⟩
    ·rfl
    ·exfalso; have hz := congrArg List.length (hg1.1); simp only [List.length_append, List.length_cons, List.length_map] at hz; omega
   subst hrest
   refine rn0 (r1 rfl) (.eqd ?_)
   all_goals (refine congrArg D.i ?_; first | omega | (have e := sum_split (f := mCl) hg1.1; have z3 := szr_or (left := v) (mCl y); omega) | (rw [List.append_nil] at hg1; rw [hg1.1] at hg1; omega))
theorem laws_toGuard_fn {a b c : Int} : FnD Tryz.prog 156 [.agg [.d (.i a), .d (.i b), .d (.i c)]] [] (.agg [.d (.i a), .d (.i b), .d (.i c)]) [] := by
 refine bd Tryz.f156 14 [] [] fun w0 F0 own kept hk => ?_
 refine Walk.box (id := 3001) .none rfl rfl rfl rfl rfl rfl rfl ?_
 refine Walk.alloc (id := 3002) tz133 rfl .none rfl rfl rfl rfl ?_
 refine tv ?_
 refine Walk.alloc (id := 3003) tz133 rfl .none rfl rfl rfl rfl ?_
 refine tv ?_
 refine Walk.store ty3 .none rfl rfl rfl rfl rfl rfl (by simp) rfl ?_
 refine tv ?_
 refine Walk.store ty3 .none rfl rfl rfl rfl rfl rfl (by simp) rfl ?_
 refine tv ?_
 refine Walk.store ty3 .none rfl rfl rfl rfl rfl rfl (by simp) rfl ?_
 refine tv ?_
 refine Walk.store ty133 .none rfl rfl rfl rfl rfl rfl (by simp) rfl ?_
 refine tv ?_
 refine rn0 (.cons (.cellA ty133 rfl rfl rfl) .nil) (.agg (.cons (.eqd ?_) (.cons (.eqd ?_) (.cons (.eqd ?_) .nil))))
 all_goals (first | rfl | (simp []; done) | (simp_all; done) | (simp_all; omega) | omega)
theorem laws_toClause_fn {c : Cl} (hok : c.pat.ok) :
  FnD Tryz.prog 90 [.agg [.d (.i c.pat.op), .d (.i c.pat.ctor), .d (.i c.pat.n), .d (.i c.pat.m), .d (.i c.pat.var), .d (encPats c.pat.kids), .d (.i c.g.op), .d (.i c.g.var), .d (.i c.g.n)]] [] (.agg [.d (.i c.pat.op), .d (.i c.pat.ctor), .d (.i c.pat.n), .d (.i c.pat.m), .d (.i c.pat.var), .d (encPats c.pat.kids), .d (.i c.g.op), .d (.i c.g.var), .d (.i c.g.n)]) [] := by
 refine bd Tryz.f90 13 [] [] fun w0 F0 own kept hk => ?_
 refine Walk.box (id := 3001) .none rfl rfl rfl rfl rfl rfl rfl ?_
 refine Walk.alloc (id := 3002) tz135 rfl .none rfl rfl rfl rfl ?_
 refine tv ?_
 refine Walk.alloc (id := 3003) tz135 rfl .none rfl rfl rfl rfl ?_
 refine tv ?_
 refine Walk.call (cr := []) cal155 (laws_toPattern_fn hok) rfl .none rfl rfl (LeL.refl _) trivial rfl rfl rfl ?_
 refine ev ?_
 refine Walk.store ty51 .none rfl rfl rfl rfl rfl rfl (by simp) rfl ?_
 refine tv ?_
 refine Walk.call (cr := []) cal156 (laws_toGuard_fn) rfl .none rfl rfl (LeL.refl _) trivial rfl rfl rfl ?_
 refine ev ?_
 refine Walk.store ty133 .none rfl rfl rfl rfl rfl rfl (by simp) rfl ?_
 refine tv ?_
 refine Walk.store ty135 .none rfl rfl rfl rfl rfl rfl (by simp) rfl ?_
 refine tv ?_
 refine rn0 (.cons (.cellA ty135 rfl rfl rfl) .nil) (.agg (.cons (.eqd ?_) (.cons (.eqd ?_) (.cons (.eqd ?_) (.cons (.eqd ?_) (.cons (.eqd ?_) (.cons (.eqd ?_) (.cons (.eqd ?_) (.cons (.eqd ?_) (.cons (.eqd ?_) .nil))))))))))
 all_goals (first | rfl | (simp []; done) | (simp_all; done) | (simp_all; omega) | omega)
theorem laws_toClauseS_fn {l : List Cl} (hs : ClsOk l) : FnD Tryz.prog 25 [.d (encCls l)] [] (.d (encCls l)) [] := by
 have h := hs.1
 refine bd Tryz.f25 23 [] [999999] fun w0 F0 own kept hk => ?_
 refine Walk.make (id := 3007) sl44 tz135 rfl (by decide) (zerosA_ids rfl) .none rfl rfl rfl (by simp; omega) (by simp; omega) rfl rfl rfl ?_
 refine ev ?_
 refine CWp.loopX (ι := List (Cl) × List (Cl)) hk (fun x => [(4, .d (.i (x.1.length : Int)))]) [8, 9, 10, 11, 12, 13, 14, 15, 16, 17, 18, 19, 20, 21] (fun x => [(3007, some (.box ((x.1.flatMap fun x => (Cl.c x).map AV.d) ++ zerosA x.2.length [.d (.i 0), .d (.i 0), .d (.i 0), .d (.i 0), .d (.i 0), .nils, .d (.i 0), .d (.i 0), .d (.i 0)])))]) (fun x => x.1 ++ x.2 = l) (fun x => x.2.length) ([], l) (by simp) ⟨⟨_, rfl, (LeA.eqi (by first | rfl | (simp; done) | (simp_all; done) | omega))⟩, trivial⟩ ⟨(by first | rfl | (show some (Res.box _) = some (Res.box _); simp; done)), trivial⟩ (fun x => rfl) (fun x hg1 => ?_)
 obtain ⟨pre, rest⟩ := x
 dsimp only at hg1 ⊢
 refine evc [] [999999] ?_
 refine sq (fun h1 h1p h1s => ?_) fun h1 h1p h1s => ?_
 ·try simp only [Q] at h1p
  rcases rest with _ | ⟨y, rest⟩
  ·exfalso; simp_all
  refine Walk.idx sl38 .none rfl rfl rfl rfl (zip_at hg1) rfl ?_
  refine ev ?_
  refine Walk.call (cr := []) cal90 (laws_toClause_fn (c := y) (hs.2 y (by rw [← hg1]; simp))) rfl .none rfl rfl (LeL.refl _) trivial rfl rfl rfl ?_
  refine Walk.idxM sl44 .none rfl rfl rfl rfl (by first | omega | (simp ; omega)) ?_
  refine Walk.store ty135 .none rfl rfl rfl rfl rfl rfl (by simp) ((putC_next (k := 9) (by intro x _; rfl) (by first | rfl | simp) rfl)) ?_
  refine tv ?_
  refine ar ?_
  refine Exists.intro ((pre ++ [y], rest)) ⟨(by have hz := hg1; rw [← hz]; simp), (by simp), Sub.x (by kernel_rfl) (by kernel_rfl) ⟨⟨_, rfl, (LeA.eqi (by first | rfl | (simp; done) | (simp_all; done) | omega))⟩, trivial⟩ (by kernel_rfl) (by kernel_rfl) ⟨(by first | rfl | (show some (Res.box _) = some (Res.box _); simp; done)), trivial⟩⟩
 ·try simp only [Q] at h1p
  have hrest : rest = [] := by
   rcases rest with _ | ⟨a, b⟩
   ·rfl
   ·exfalso; have hz := congrArg List.length (hg1); simp only [List.length_append, List.length_cons, List.length_map] at hz; omega
  subst hrest
  refine CWp.frz hk 2 3007 _ _ rfl rfl (chunkD_done (f := Cl.c) (k := 9) hg1 (by simp) (by intro x _; rfl)) rfl ?_
  refine CWp.ret ?_
  refine rn0 (r1 rfl) (.eqd ?_)
  all_goals (first | rfl | (simp [h1s, h1p]; done) | (simp_all; done) | (simp_all; omega) | omega)
theorem laws_eqGuard_fn {a b : Gd} : FnD Tryz.prog 157 [.agg [.d (.i a.op), .d (.i a.var), .d (.i a.n)], .agg [.d (.i b.op), .d (.i b.var), .d (.i b.n)]] [] (.d (.bool (gdEq a b))) [] := by
 refine bd Tryz.f157 20 [] [] fun w0 F0 own kept hk => ?_
 refine Walk.box (id := 3002) .none rfl rfl rfl rfl rfl rfl rfl ?_
 refine Walk.box (id := 3003) .none rfl rfl rfl rfl rfl rfl rfl ?_
 refine ev ?_
 refine sq (fun h1 h1p h1s => ?_) fun h1 h1p h1s => ?_
 ·try simp only [Q] at h1p
  refine rn0 (r1 rfl) (.eqd ?_)
  all_goals (refine congrArg D.bool ?_; simp [gdEq, h1s, h1p])
 ·try simp only [Q] at h1p
  refine sq (fun h2 h2p h2s => ?_) fun h2 h2p h2s => ?_
  ·try simp only [Q] at h2p
   refine rn0 (r1 rfl) (.eqd ?_)
   all_goals (refine congrArg D.bool ?_; simp [gdEq, h1s, h1p, h2s, h2p])
  ·try simp only [Q] at h2p
   refine sq (fun h3 h3p h3s => ?_) fun h3 h3p h3s => ?_
   ·try simp only [Q] at h3p
    refine rn0 (r1 rfl) (.eqd ?_)
    all_goals (refine congrArg D.bool ?_; simp [gdEq, h1s, h1p, h2s, h2p, h3s, h3p])
   ·try simp only [Q] at h3p
    refine rn0 (r1 rfl) (.eqd ?_)
    all_goals (refine congrArg D.bool ?_; simp [gdEq, h1s, h1p, h2s, h2p, h3s, h3p])
theorem laws_eqClause_fn {a b : Cl} (hok : a.pat.ok) :
  FnD Tryz.prog 91 [.agg [.d (.i a.pat.op), .d (.i a.pat.ctor), .d (.i a.pat.n), .d (.i a.pat.m), .d (.i a.pat.var), .d (encPats a.pat.kids), .d (.i a.g.op), .d (.i a.g.var), .d (.i a.g.n)], .agg [.d (.i b.pat.op), .d (.i b.pat.ctor), .d (.i b.pat.n), .d (.i b.pat.m), .d (.i b.pat.var), .d (encPats b.pat.kids), .d (.i b.g.op), .d (.i b.g.var), .d (.i b.g.n)]] [] (.d (.bool (clEq a b))) [] := by
 refine bd Tryz.f91 17 [] [] fun w0 F0 own kept hk => ?_
 refine Walk.box (id := 3002) .none rfl rfl rfl rfl rfl rfl rfl ?_
 refine Walk.box (id := 3003) .none rfl rfl rfl rfl rfl rfl rfl ?_
 refine ev ?_
 refine Walk.call (cr := []) cal116 (laws_eqPattern_fn (a := a.pat) (b := b.pat) _ (Nat.le_refl _) hok) rfl .none rfl rfl (LeL.refl _) trivial rfl rfl rfl ?_
 refine ev ?_
 refine sq (fun h1 h1p h1s => ?_) fun h1 h1p h1s => ?_
 ·try simp only [Q] at h1p
  refine rn0 (r1 rfl) (.eqd ?_)
  all_goals (refine congrArg D.bool ?_; simp [clEq, h1s, h1p])
 ·try simp only [Q] at h1p
  refine Walk.call (cr := []) cal157 (laws_eqGuard_fn (a := a.g) (b := b.g)) rfl .none rfl rfl (LeL.refl _) trivial rfl rfl rfl ?_
  refine ev ?_
  refine sq (fun h2 h2p h2s => ?_) fun h2 h2p h2s => ?_
  ·try simp only [Q] at h2p
   refine rn0 (r1 rfl) (.eqd ?_)
   all_goals (refine congrArg D.bool ?_; simp [clEq, h1s, h1p, h2s, h2p])
  ·try simp only [Q] at h2p
   refine rn0 (r1 rfl) (.eqd ?_)
   all_goals (refine congrArg D.bool ?_; simp [clEq, h1s, h1p, h2s, h2p])
theorem laws_eqClauseS_fn {l m : List Cl} (hs : ClsOk l) : FnD Tryz.prog 27 [.d (encCls l), .d (encCls m)] [] (.d (.bool (clsEq l m))) [] := by
 have h := hs.1
 refine bd Tryz.f27 27 [] [] fun w0 F0 own kept hk => ?_
 refine sq (fun h1 h1p h1s => ?_) fun h1 h1p h1s => ?_
 ·try simp only [Q, Int.natCast_inj] at h1p
  refine rn0 (r1 rfl) (.eqd ?_)
  all_goals (refine congrArg D.bool ?_; first | (refine (all2_len ?_).symm; omega) | (refine (all2_nth_true (by omega) (fun x hx => hg1.2 x (by omega))).symm) | (refine (all2_nth_false (i := i) (by omega) (by omega) ?_).symm; assumption))
 ·try simp only [Q, Int.natCast_inj] at h1p
  refine CWp.loopX (ι := Nat) hk (fun i => [(5, .d (.i (i : Int)))]) [4, 11, 12, 13, 14, 15, 16, 17, 18, 19, 20, 21, 22, 23, 24, 25, 26] (fun i => []) (fun i => i ≤ l.length ∧ ∀ i', i' < i → clEq (nth l i') (nth m i') = true) (fun i => l.length - i) 0 ⟨by omega, fun _ h => absurd h (by omega)⟩ ⟨⟨_, rfl, (LeA.eqi (by first | rfl | (simp; done) | (simp_all; done) | omega))⟩, trivial⟩ trivial (fun x => rfl) (fun i hg1 => ?_)
  refine evc [] [] ?_
  refine sq (fun h2 h2p h2s => ?_) fun h2 h2p h2s => ?_
  ·try simp only [Q, Int.natCast_inj] at h2p
   refine Walk.idx sl44 .none rfl rfl rfl rfl (at_nth (by omega)) rfl ?_
   refine evd [] [] ?_
   refine Walk.idx sl44 .none rfl rfl rfl rfl (at_nth (by omega)) rfl ?_
   refine evd [] [] ?_
   refine Walk.call (cr := []) cal91 (laws_eqClause_fn (a := nth l i) (b := nth m i) (hs.2 _ (nth_mem (by omega)))) rfl .none rfl rfl (LeL.refl _) trivial rfl rfl rfl ?_
   refine evd [] [] ?_
   refine dr ?_
   refine sq (fun h3 h3p h3s => ?_) fun h3 h3p h3s => ?_
   ·try simp only [Q, Int.natCast_inj] at h3p
    refine rn0 (r1 rfl) (.eqd ?_)
    all_goals (refine congrArg D.bool ?_; first | (refine (all2_len ?_).symm; omega) | (refine (all2_nth_true (by omega) (fun x hx => hg1.2 x (by omega))).symm) | (refine (all2_nth_false (i := i) (by omega) (by omega) ?_).symm; assumption))
   ·try simp only [Q, Int.natCast_inj] at h3p
    refine ar ?_
    refine Exists.intro (i + 1) ⟨⟨by omega, upto_succ hg1.2 (by assumption)⟩, (by omega), Sub.x (by kernel_rfl) (by kernel_rfl) ⟨⟨_, rfl, (LeA.eqi (by first | rfl | (simp; done) | (simp_all; done) | omega))⟩, trivial⟩ (by kernel_rfl) (by kernel_rfl) trivial⟩
  ·try simp only [Q, Int.natCast_inj] at h2p
   refine rn0 (r1 rfl) (.eqd ?_)
   all_goals (refine congrArg D.bool ?_; first | (refine (all2_len ?_).symm; omega) | (refine (all2_nth_true (by omega) (fun x hx => hg1.2 x (by omega))).symm) | (refine (all2_nth_false (i := i) (by omega) (by omega) ?_).symm; assumption))
mutual
def cntE (m : Int) : Ex → Int
 | .mk _ _ _ ks => cntEL m 1 ks
def cntEL (m n : Int) : List Ex → Int
 | [] => n
 | k :: r => if n ≤ m then cntEL m (n + cntE (m - n) k) r else n
end
theorem cntEL_stop {m n : Int} {l : List Ex} (h : ¬ n ≤ m) : cntEL m n l = n := by cases l <;> simp [cntEL, h]
mutual
theorem cntE_le : ∀ (v : Ex) (m : Int), 1 ≤ cntE m v ∧ cntE m v ≤ v.size
 | .mk _ _ _ ks, m => by
  have := cntEL_le ks m 1 (by omega)
  simp only [cntE, Ex.size]; push_cast; omega
theorem cntEL_le : ∀ (l : List Ex) (m n : Int), 1 ≤ n → 1 ≤ cntEL m n l ∧ cntEL m n l ≤ n + Exs.size l
 | [], m, n, h => by simp [cntEL, Exs.size]; omega
 | k :: r, m, n, h => by
  have h1 := cntE_le k (m - n)
  have h2 := cntEL_le r m (n + cntE (m - n) k) (by omega)
  simp only [cntEL, Exs.size]
  split
  ·push_cast; omega
  ·push_cast; omega
end
mutual
theorem cntE_iff : ∀ (v : Ex) (m : Int), (cntE m v ≤ m ↔ (v.size : Int) ≤ m) ∧ (cntE m v ≤ m → cntE m v = v.size)
 | .mk _ _ _ ks, m => by
  have := cntEL_iff ks m 1
  simp only [cntE, Ex.size]; push_cast; exact this
theorem cntEL_iff : ∀ (l : List Ex) (m n : Int), (cntEL m n l ≤ m ↔ n + (Exs.size l : Int) ≤ m) ∧ (cntEL m n l ≤ m → cntEL m n l = n + Exs.size l)
 | [], m, n => by simp [cntEL, Exs.size]
 | k :: r, m, n => by
  have h1 := cntE_iff k (m - n)
  have h2 := cntEL_iff r m (n + cntE (m - n) k)
  have h3 := cntEL_le r m (n + cntE (m - n) k)
  have h4 := cntE_le k (m - n)
  simp only [cntEL, Exs.size]
  push_cast
  by_cases hn : n ≤ m
  ·rw [if_pos hn]
   by_cases h5 : cntE (m - n) k ≤ m - n
   ·have h6 := h1.2 h5
    rw [h6] at h2 ⊢
    constructor
    ·rw [h2.1]; constructor <;> intro h <;> omega
    ·intro h; rw [h2.2 h]; omega
   ·have h7 : ¬ (k.size : Int) ≤ m - n := fun h => h5 (h1.1.2 h)
    have h8 : ¬ n + cntE (m - n) k ≤ m := by omega
    rw [cntEL_stop h8]
    constructor
    ·constructor <;> intro h <;> omega
    ·intro h; omega
  ·rw [if_neg hn]
   constructor
   ·constructor <;> intro h <;> omega
   ·intro h; omega
end
def TyOk (n : Nat) (t : Ty) : Prop := TyIn n t ∧ (t.data = -1 → t.index = 0)
def gdOk (g : Gd) (vars : List Vt) : Bool := if g.op = 0 then decide (g.var = 0 ∧ g.n = 0) else decide (1 ≤ g.op ∧ g.op ≤ 2 ∧ 0 ≤ g.n ∧ g.n ≤ 9) && decide ((⟨g.var, ⟨-1, 0⟩⟩ : Vt) ∈ vars)
def varsOf (w : List Data) (t : Ty) (p : Pat) : List Vt := someV (scanP w 10 t p 0).1
def clOk (w : List Data) (t : Ty) (c : Cl) : Bool := isP w t c.pat && gdOk c.g (varsOf w t c.pat)
def clsValid (w : List Data) (t : Ty) (l : List Cl) : Bool := typeValid w t && (decide ((l.length : Int) ≤ 8) && !l.any fun c => !clOk w t c)
theorem slices_IndexFunc_Cl_fn {xs : List Cl} {f : Nat} {caps : List AV} {hp : Hp} {p : Cl → Bool} (hs : xs.length ≤ 1000000000000) (hcal : Callee Tryz.prog f)
  (hf : ∀ t ∈ xs, FnD Tryz.prog f ([.agg [.d (.i t.pat.op), .d (.i t.pat.ctor), .d (.i t.pat.n), .d (.i t.pat.m), .d (.i t.pat.var), .d (encPats t.pat.kids), .d (.i t.g.op), .d (.i t.g.var), .d (.i t.g.n)]] ++ caps) hp (.d (.bool (p t))) []) (k1 : subH hp hp) (k2 : noTok hp = true) (k3 : okCall hp [] (.d .nilp) [] = true) :
  FnD Tryz.prog 218 [.d (encCls xs), .fn f caps] hp (.d (.i (idxF p xs 0))) [] := by
 refine bd Tryz.f218 19 [] [] fun w0 F0 own kept hk => ?_
 refine CWp.loopX (ι := List (Cl) × List (Cl)) hk (fun x => [(8, .d (.i (x.1.length : Int)))]) [4, 5, 9, 10, 11, 12, 13, 14, 15, 16, 17, 18] (fun x => []) (fun x => x.1 ++ x.2 = xs ∧ idxF p x.2 x.1.length = idxF p xs 0) (fun x => x.2.length) ([], xs) ⟨by simp, rfl⟩ ⟨⟨_, rfl, (LeA.eqi (by first | rfl | (simp; done) | (simp_all; done) | omega))⟩, trivial⟩ trivial (fun x => boxIds_all hp) (fun x hg1 => ?_)
 obtain ⟨pre, rest⟩ := x
 dsimp only at hg1 ⊢
 refine evc [] [] ?_
 refine sq (fun h1 h1p h1s => ?_) fun h1 h1p h1s => ?_
 ·try simp only [Q] at h1p
  rcases rest with _ | ⟨y, rest⟩
  ·exfalso; simp_all
  refine Walk.idx sl44 .none rfl rfl rfl rfl (zip_at hg1.1) rfl ?_
  refine ev ?_
  refine Walk.callV (cr := []) hcal (hf y (by rw [← hg1.1]; simp)) rfl .none rfl rfl rfl (LeL.refl _) k1 k2 (okCall_d k3 _) rfl ?_
  refine tv ?_
  refine sq (fun h2 h2p h2s => ?_) fun h2 h2p h2s => ?_
  ·try simp only [Q] at h2p
   refine rn [] (r1 rfl) (.eqd ?_) ⟨rfl, rfl⟩ (fun _ _ h => h) (fun _ h => h)
   all_goals (rw [← hg1.2]; simp [idxF, h1s, h1p, h2s, h2p])
  ·try simp only [Q] at h2p
   refine ar ?_
   refine Exists.intro ((pre ++ [y], rest)) ⟨⟨(by have hz := hg1.1; rw [← hz]; simp), (by rw [← hg1.2]; simp [idxF, h2s])⟩, (by simp), Sub.x (by kernel_rfl) (by kernel_rfl) ⟨⟨_, rfl, (LeA.eqi (by first | rfl | (simp; done) | (simp_all; done) | omega))⟩, trivial⟩ (by simp) (by simp [coverH]) trivial⟩
 ·try simp only [Q] at h1p
  have hrest : rest = [] := by
   rcases rest with _ | ⟨a, b⟩
   ·rfl
   ·exfalso; have hz := congrArg List.length (hg1.1); simp only [List.length_append, List.length_cons, List.length_map] at hz; omega
  subst hrest
  refine rn [] (r1 rfl) (.eqd ?_) ⟨rfl, rfl⟩ (fun _ _ h => h) (fun _ h => h)
  all_goals (rw [← hg1.2]; simp [idxF, h1s, h1p])
theorem slices_ContainsFunc_Cl_fn {xs : List Cl} {f : Nat} {caps : List AV} {hp : Hp} {p : Cl → Bool} (hs : xs.length ≤ 1000000000000) (hcal : Callee Tryz.prog f)
  (hf : ∀ t ∈ xs, FnD Tryz.prog f ([.agg [.d (.i t.pat.op), .d (.i t.pat.ctor), .d (.i t.pat.n), .d (.i t.pat.m), .d (.i t.pat.var), .d (encPats t.pat.kids), .d (.i t.g.op), .d (.i t.g.var), .d (.i t.g.n)]] ++ caps) hp (.d (.bool (p t))) []) (k1 : subH hp hp) (k2 : noTok hp = true) (k3 : okCall hp [] (.d .nilp) [] = true) :
  FnD Tryz.prog 141 [.d (encCls xs), .fn f caps] hp (.d (.bool (xs.any p))) [] := by
 refine bd Tryz.f141 9 [] [] fun w0 F0 own kept hk => ?_
 refine Walk.call (cr := []) cal218 (slices_IndexFunc_Cl_fn hs hcal hf k1 k2 k3) rfl .none rfl rfl (LeL.refl _) k1 k2 (okCall_d k3 _) rfl ?_
 refine ev ?_
 refine rn [] (r1 rfl) (.eqd ?_) ⟨rfl, rfl⟩ (fun _ _ h => h) (fun _ h => h)
 all_goals (exact congrArg D.bool (idxF_any p xs 0))
theorem varsOf_len (w : List Data) (t : Ty) (p : Pat) : (varsOf w t p).length ≤ 6 := (someV_ok w 10 t p 0).2
theorem impl_guardOk_fn {g : Gd} {vars : List Vt} (hv : vars.length ≤ 1000000000000) : FnD Tryz.prog 219 [.agg [.d (.i g.op), .d (.i g.var), .d (.i g.n)], .d (encVts vars)] [] (.d (.bool (gdOk g vars))) [] := by
 refine bd Tryz.f219 27 [10] [] fun w0 F0 own kept hk => ?_
 refine Walk.box (id := 3002) .none rfl rfl rfl rfl rfl rfl rfl ?_
 refine evs [10] [] ?_
 refine sq (fun h1 h1p h1s => ?_) fun h1 h1p h1s => ?_
 ·try simp only [Q, within] at h1p
  refine Walk.build st133 (ks := []) (xs := []) rfl rfl .none rfl rfl rfl ?_
  refine Walk.eqV eq133 .none rfl rfl rfl rfl rfl ?_
  refine evs [10] [] ?_
  refine rn0 (r1 rfl) (.eqd ?_)
  all_goals (refine congrArg D.bool ?_; unfold gdOk; first | (rw [if_pos (by omega)]; simp_all; done) | (rw [if_neg (by omega)]; simp_all [within]; done) | (rw [if_neg (by omega), decide_eq_false (by omega), Bool.false_and]; done) | (rw [if_neg (by omega), decide_eq_true (by omega), Bool.true_and]; done) | (rw [if_neg (by omega)]; simp_all [within]; omega))
 ·try simp only [Q, within] at h1p
  refine Walk.call (cr := []) cal87 (impl_within_fn) rfl .none rfl rfl (LeL.refl _) trivial rfl rfl rfl ?_
  refine evs [10] [] ?_
  refine sq (fun h2 h2p h2s => ?_) fun h2 h2p h2s => ?_
  ·try simp only [Q, within] at h2p
   refine Walk.call (cr := []) cal87 (impl_within_fn) rfl (.some rfl rfl h2) rfl rfl (LeL.refl _) trivial rfl rfl rfl ?_
   refine evs [10] [(14, true)] ?_ ⟨⟨_, rfl, h2⟩, trivial⟩
   refine sq (fun h3 h3p h3s => ?_) fun h3 h3p h3s => ?_
   ·try simp only [Q, within] at h3p
    refine Walk.build st42 (ks := [0]) (xs := [_]) rfl rfl (.some rfl rfl h3) rfl rfl rfl ?_
    refine Walk.build st197 (ks := [0, 1]) (xs := [_, _]) rfl rfl (.some rfl rfl h3) rfl rfl rfl ?_
    refine Walk.call (cr := []) cal272 (slices_Contains_Vt_fn (v := ⟨g.var, ⟨-1, 0⟩⟩) hv) rfl (.some rfl rfl h3) rfl rfl (LeL.refl _) trivial rfl rfl rfl ?_
    refine evs [10] [(19, true)] ?_ ⟨⟨_, rfl, h3⟩, trivial⟩
    refine rn0 (r1 rfl) (.eqd ?_)
    all_goals (refine congrArg D.bool ?_; unfold gdOk; first | (rw [if_pos (by omega)]; simp_all; done) | (rw [if_neg (by omega)]; simp_all [within]; done) | (rw [if_neg (by omega), decide_eq_false (by omega), Bool.false_and]; done) | (rw [if_neg (by omega), decide_eq_true (by omega), Bool.true_and]; done) | (rw [if_neg (by omega)]; simp_all [within]; omega))
   ·try simp only [Q, within] at h3p
    refine rn0 (r1 rfl) (.eqd ?_)
    all_goals (refine congrArg D.bool ?_; unfold gdOk; first | (rw [if_pos (by omega)]; simp_all; done) | (rw [if_neg (by omega)]; simp_all [within]; done) | (rw [if_neg (by omega), decide_eq_false (by omega), Bool.false_and]; done) | (rw [if_neg (by omega), decide_eq_true (by omega), Bool.true_and]; done) | (rw [if_neg (by omega)]; simp_all [within]; omega))
  ·try simp only [Q, within] at h2p
   refine sqF ?_
   refine rn0 (r1 rfl) (.eqd ?_)
   all_goals (refine congrArg D.bool ?_; unfold gdOk; first | (rw [if_pos (by omega)]; simp_all; done) | (rw [if_neg (by omega)]; simp_all [within]; done) | (rw [if_neg (by omega), decide_eq_false (by omega), Bool.false_and]; done) | (rw [if_neg (by omega), decide_eq_true (by omega), Bool.true_and]; done) | (rw [if_neg (by omega)]; simp_all [within]; omega))
theorem impl_clauseOk_fn {w : List Data} (hw : WT w) {t : Ty} {c : Cl} (ht : TyIn w.length t) (hok : c.pat.ok) :
  FnD Tryz.prog 143 [.d (encDatas w), .agg [.d (.i t.data), .d (.i t.index)], .agg [.d (.i c.pat.op), .d (.i c.pat.ctor), .d (.i c.pat.n), .d (.i c.pat.m), .d (.i c.pat.var), .d (encPats c.pat.kids), .d (.i c.g.op), .d (.i c.g.var), .d (.i c.g.n)]] [] (.d (.bool (clOk w t c))) [] := by
 have ht' : TyIn w.length ⟨t.data, t.index⟩ := ht
 have hvl := varsOf_len w t c.pat
 refine bd Tryz.f143 24 [] [] fun w0 F0 own kept hk => ?_
 refine Walk.box (id := 3004) .none rfl rfl rfl rfl rfl rfl rfl ?_
 refine Walk.box (id := 3005) .none rfl rfl rfl rfl rfl rfl rfl ?_
 refine ev ?_
 refine Walk.call (cr := []) cal144 (impl_patternVars_fn hw ht' hok) rfl .none rfl rfl (LeL.refl _) trivial rfl rfl rfl ?_
 refine ev ?_
 refine sq (fun h1 h1p h1s => ?_) fun h1 h1p h1s => ?_
 ·try simp only [Q] at h1p
  refine Walk.call (cr := []) cal219 (impl_guardOk_fn (g := c.g) (vars := varsOf w t c.pat) (by omega)) rfl (.some rfl rfl h1) rfl rfl (LeL.refl _) trivial rfl rfl rfl ?_
  refine evs [] [(18, true)] ?_ ⟨⟨_, rfl, h1⟩, trivial⟩
  refine rn0 (r1 rfl) (.eqd ?_)
  all_goals (refine congrArg D.bool ?_; unfold clOk; have hte : (⟨t.data, t.index⟩ : Ty) = t := rfl; first | (simp_all; done) | (rw [hte] at *; simp_all; done))
 ·try simp only [Q] at h1p
  refine rn0 (r1 rfl) (.eqd ?_)
  all_goals (refine congrArg D.bool ?_; unfold clOk; have hte : (⟨t.data, t.index⟩ : Ty) = t := rfl; first | (simp_all; done) | (rw [hte] at *; simp_all; done))
theorem impl_ClausesValid_1_fn {w : List Data} (hw : WT w) {a k : Int} {c : Cl} (ht : TyIn w.length ⟨a, k⟩) (hok : c.pat.ok) :
  FnD Tryz.prog 142 [.agg [.d (.i c.pat.op), .d (.i c.pat.ctor), .d (.i c.pat.n), .d (.i c.pat.m), .d (.i c.pat.var), .d (encPats c.pat.kids), .d (.i c.g.op), .d (.i c.g.var), .d (.i c.g.n)], .ref 3003 0, .ref 3004 0] [(3003, some (.box [.d (encDatas w)])), (3004, some (.box [.d (.i a), .d (.i k)]))] (.d (.bool (!clOk w ⟨a, k⟩ c))) [] := by
 refine bd Tryz.f142 10 [] [] fun w0 F0 own kept hk => ?_
 refine Walk.box (id := 3901) .none rfl rfl rfl rfl rfl rfl rfl ?_
 refine ev ?_
 refine Walk.call (cr := []) cal143 (impl_clauseOk_fn (t := ⟨a, k⟩) (c := c) hw ht hok) rfl .none rfl rfl (LeL.refl _) trivial rfl rfl rfl ?_
 refine ev ?_
 refine rn [] (r1 rfl) (.eqd ?_) ⟨rfl, rfl⟩ (SubH.get ⟨rfl, ⟨rfl, trivial⟩⟩) (fun _ h => h)
 all_goals (rfl)
theorem impl_ClausesValid_fn {w : List Data} (hs : WSmall w) {a k : Int} {l : List Cl} (hl : ClsOk l) :
  FnD Tryz.prog 80 [.d (encDatas w), .agg [.d (.i a), .d (.i k)], .d (encCls l)] [] (.d (.bool (clsValid w ⟨a, k⟩ l))) [] := by
 have hll := hl.1
 refine bd Tryz.f80 21 [] [] fun w0 F0 own kept hk => ?_
 refine Walk.box (id := 3003) .none rfl rfl rfl rfl rfl rfl rfl ?_
 refine Walk.box (id := 3004) .none rfl rfl rfl rfl rfl rfl rfl ?_
 refine ev ?_
 refine Walk.call (cr := []) cal98 (impl_TypeValid_fn hs) rfl .none rfl rfl (LeL.refl _) trivial rfl rfl rfl ?_
 refine ev ?_
 refine sq (fun h1 h1p h1s => ?_) fun h1 h1p h1s => ?_
 ·try simp only [Q] at h1p
  refine sq (fun h2 h2p h2s => ?_) fun h2 h2p h2s => ?_
  ·try simp only [Q] at h2p
   refine Walk.closure (xs := [_, _]) rfl (.some rfl rfl h2) rfl rfl ?_
   refine Walk.call (cr := []) cal141 (slices_ContainsFunc_Cl_fn (p := fun c => !clOk w ⟨a, k⟩ c) hl.1 cal142 (fun t htm => impl_ClausesValid_1_fn (valid_wt hs (tv_facts (by assumption)).1) (tv_facts (by assumption)).2.1 (hl.2 t htm)) ⟨rfl, rfl, trivial⟩ rfl rfl) rfl (.some rfl rfl h2) rfl rfl (LeL.refl _) ⟨rfl, rfl, trivial⟩ rfl rfl rfl ?_
   refine evs [] [(15, true)] ?_ ⟨⟨_, rfl, h2⟩, trivial⟩
   refine rn0 (r1 rfl) (.eqd ?_)
   all_goals (refine congrArg D.bool ?_; unfold clsValid; first | (simp_all; done) | (simp_all; omega))
  ·try simp only [Q] at h2p
   refine rn0 (r1 rfl) (.eqd ?_)
   all_goals (refine congrArg D.bool ?_; unfold clsValid; first | (simp_all; done) | (simp_all; omega))
 ·try simp only [Q] at h1p
  refine sqF ?_
  refine rn0 (r1 rfl) (.eqd ?_)
  all_goals (refine congrArg D.bool ?_; unfold clsValid; first | (simp_all; done) | (simp_all; omega))
def AZ (w : List Data) : Prop := ∀ t c, c ∈ vctors w t → TyIn w.length t → ∀ u ∈ argsOf w t c, u.data = -1 → u.index = 0
theorem valid_az {w : List Data} (hv : worldValid w = true) : AZ w := by
 have hW := (worldValid_iff w).1 hv
 rintro ⟨a, k⟩ c hc ht u hu hd
 obtain ⟨d, rfl, h1, j, rfl, h3⟩ := vctors_data ht hc
 have hco := hW.ctor _ (nth_mem h1) _ (nth_mem h3)
 simp only [ctorOk, Bool.and_eq_true, decide_eq_true_eq, Bool.not_eq_true', List.any_eq_false, Bool.not_eq_false'] at hco
 have hall := hco.2.2.2
 simp only [argsOf, Int.toNat_natCast] at hu
 obtain ⟨x, hx, rfl⟩ := List.mem_map.1 hu
 have hxo := hall x hx
 simp only [argOk, within, Bool.or_eq_true, Bool.and_eq_true, decide_eq_true_eq, and_true, Bool.not_eq_true', Bool.not_eq_false] at hxo
 unfold argTy at hd ⊢
 split at hd
 ·rename_i hi
  rw [if_pos hi]
  dsimp only at hd ⊢
  omega
 ·rename_i hi
  rw [if_neg hi]
  omega
theorem typeOk_ok {n : Nat} {t : Ty} (h : typeOk n t = true) : TyOk n t := by
 refine ⟨typeOk_in h, fun hd => ?_⟩
 simp only [typeOk, within, Bool.or_eq_true, Bool.and_eq_true, decide_eq_true_eq, and_true] at h
 omega
theorem varsOf_eq {w : List Data} {t : Ty} {p : Pat} (h : isP w t p = true) : varsOf w t p = varsP w 10 t p := by
 unfold isP at h
 simp only [Bool.and_eq_true, decide_eq_true_eq] at h
 have e := (scanP_eq w 10 t p 0).1
 have hw : wantP w 10 t p 0 = true := by
  unfold wantP; rw [h.1, h.2.2, decide_eq_true (by omega)]; rfl
 rw [if_pos hw] at e
 unfold varsOf; rw [e]; rfl
theorem varsP_nod {w : List Data} {t : Ty} {p : Pat} (h : isP w t p = true) : nodupV (varsP w 10 t p) = true := by
 unfold isP at h
 simp only [Bool.and_eq_true] at h
 exact lin_nodup w 10 t p h.1 h.2.2
theorem varsP_ok {w : List Data} (hw : WT w) (haz : AZ w) : ∀ (n : Nat) {t : Ty} {p : Pat}, shapeP w n t p = true → TyOk w.length t → ∀ v ∈ varsP w n t p, TyOk w.length v.ty
 | 0, t, p, h, _ => by simp [shapeP] at h
 | n + 1, t, p, h, ht => by
  obtain ⟨ho, hlen⟩ := shapeP_own h
  intro v hv
  have hto : ∀ u ∈ typesP w t p, TyOk w.length u := fun u hu => by
   refine ⟨typesP_in (a := t.data) (k := t.index) hw ht.1 ho u hu, fun hd => ?_⟩
   unfold typesP at hu
   split at hu
   ·rename_i h4; exact haz t p.ctor (ownP_mem ho h4) ht.1 u hu hd
   ·split at hu
    ·simp only [List.mem_cons, List.not_mem_nil, or_false, or_self] at hu
     rw [hu] at hd ⊢; exact ht.2 hd
    ·split at hu
     ·simp only [List.mem_cons, List.not_mem_nil, or_false] at hu
      rw [hu] at hd ⊢; exact ht.2 hd
     ·simp at hu
  simp only [varsP, List.mem_append] at hv
  rcases hv with hv | hv
  ·unfold nameP at hv
   split at hv
   ·simp only [List.mem_cons, List.not_mem_nil, or_false] at hv
    rw [hv]; exact ht
   ·simp at hv
  ·have key : ∀ (a : List Ty) (b : List Pat), (∀ i, i < a.length → i < b.length → ∀ v ∈ varsP w n (nth a i) (nth b i), TyOk w.length v.ty) → ∀ v ∈ varsL (varsP w n) a b, TyOk w.length v.ty := by
    intro a
    induction a with
    | nil => intro b _ v hv; simp [varsL] at hv
    | cons x r ih =>
     intro b h v hv
     cases b with
     | nil => simp [varsL] at hv
     | cons y s =>
      simp only [varsL, List.mem_append] at hv
      rcases hv with hv | hv
      ·exact h 0 (by simp) (by simp) v hv
      ·exact ih s (fun i h1 h2 => h (i + 1) (by simpa using h1) (by simpa using h2)) v hv
   refine key (vtypes w t p) p.kids (fun i h1 h2 => ?_) v hv
   have hvt : i < (typesP w t p).length ∧ nth (vtypes w t p) i = nth (typesP w t p) i := by
    unfold vtypes at h1 ⊢
    split at h1
    ·rename_i h5
     rw [if_pos h5]
     rw [List.length_take] at h1
     refine ⟨by omega, ?_⟩
     have : i = 0 := by omega
     subst this
     cases hT : typesP w t p with
     | nil => rfl
     | cons a b => rfl
    ·rename_i h5
     rw [if_neg h5]; exact ⟨h1, rfl⟩
   rw [hvt.2]
   exact varsP_ok hw haz n (shapeP_kid h (by omega)) (hto _ (nth_mem hvt.1))
def gdS (g : Gd) (vars : List Vt) : Bool := if g.op = 0 then decide (g.var = 0 ∧ g.n = 0) else decide (1 ≤ g.op ∧ g.op ≤ 2 ∧ 0 ≤ g.n ∧ g.n ≤ 9) && (decide (0 ≤ findV vars g.var) && decide ((nth vars (findV vars g.var).toNat).ty.data = -1))
theorem gdS_eq {n : Nat} {g : Gd} {vars : List Vt} (hn : nodupV vars = true) (hv : ∀ v ∈ vars, TyOk n v.ty) : gdS g vars = gdOk g vars := by
 unfold gdS gdOk
 split
 ·rfl
 ·congr 1
  have hnod := of_decide_eq_true hn
  rw [Bool.eq_iff_iff]
  simp only [Bool.and_eq_true, decide_eq_true_eq]
  constructor
  ·rintro ⟨h1, h2⟩
   rcases findV_spec vars g.var with ⟨h3, _⟩ | ⟨k, h3, h4, h5, _⟩
   ·omega
   ·rw [h3] at h2
    simp only [Int.toNat_natCast] at h2
    have hm := nth_mem h4
    have ho := (hv _ hm).2 h2
    have : nth vars k = ⟨g.var, ⟨-1, 0⟩⟩ := by
     generalize nth vars k = z at *
     obtain ⟨zv, ⟨za, zk⟩⟩ := z
     dsimp only at h5 h2 ho
     rw [h5, h2, ho]
    rw [← this]; exact hm
  ·intro hm
   rcases findV_spec vars g.var with ⟨_, h4⟩ | ⟨k, h3, h4, h5, _⟩
   ·exact absurd rfl (h4 _ hm)
   ·refine ⟨by omega, ?_⟩
    rw [h3]
    simp only [Int.toNat_natCast]
    obtain ⟨j, hj, e⟩ := List.getElem_of_mem hm
    have ej : nth vars j = ⟨g.var, ⟨-1, 0⟩⟩ := by simp [nth, List.getD, hj, e]
    have : k = j := nodup_nth hnod h4 hj (by rw [h5, ej])
    rw [this, ej]
theorem spec_l4Guard_fn {g : Gd} {vars : List Vt} (hv : vars.length ≤ 1000000000000) : FnD Tryz.prog 247 [.agg [.d (.i g.op), .d (.i g.var), .d (.i g.n)], .d (encVts vars)] [] (.d (.bool (gdS g vars))) [] := by
 have hlt := fun h => findV_lt (l := vars) (n := g.var) h
 refine bd Tryz.f247 50 [] [3] fun w0 F0 own kept hk => ?_
 refine Walk.box (id := 3002) .none rfl rfl rfl rfl rfl rfl rfl ?_
 refine ev ?_
 refine sq (fun h1 h1p h1s => ?_) fun h1 h1p h1s => ?_
 ·try simp only [Q] at h1p
  refine sq (fun h2 h2p h2s => ?_) fun h2 h2p h2s => ?_
  ·try simp only [Q] at h2p
   refine rn0 (r1 rfl) (.eqd ?_)
   all_goals (refine congrArg D.bool ?_; unfold gdS; first | (rw [if_pos (by omega)]; simp_all; done) | (rw [if_neg (by omega), decide_eq_false (by omega), Bool.false_and]; done) | (rw [if_neg (by omega), decide_eq_true (by omega), Bool.true_and]; simp_all; done) | (rw [if_neg (by omega), decide_eq_true (by omega), Bool.true_and, decide_eq_false (by omega), Bool.false_and]; done) | (rw [if_neg (by omega)]; simp_all; done))
  ·try simp only [Q] at h2p
   refine rn0 (r1 rfl) (.eqd ?_)
   all_goals (refine congrArg D.bool ?_; unfold gdS; first | (rw [if_pos (by omega)]; simp_all; done) | (rw [if_neg (by omega), decide_eq_false (by omega), Bool.false_and]; done) | (rw [if_neg (by omega), decide_eq_true (by omega), Bool.true_and]; simp_all; done) | (rw [if_neg (by omega), decide_eq_true (by omega), Bool.true_and, decide_eq_false (by omega), Bool.false_and]; done) | (rw [if_neg (by omega)]; simp_all; done))
 ·try simp only [Q] at h1p
  refine CWp.regionJ ?_
  refine WRest.join 18 [(34, .d (.bool (decide (¬ (1 ≤ g.op ∧ g.op ≤ 2 ∧ 0 ≤ g.n ∧ g.n ≤ 9)))))] [17, 18, 19, 20, 21, 22, 23, 24, 25, 26, 27, 28, 29, 30, 31, 32, 33] ?_ ?_
  ·
   refine ev ?_
   refine sq (fun h3 h3p h3s => ?_) fun h3 h3p h3s => ?_
   ·try simp only [Q] at h3p
    refine sq (fun h4 h4p h4s => ?_) fun h4 h4p h4s => ?_
    ·try simp only [Q] at h4p
     refine sqT ?_
     exact jn rfl (LeA.eqb (by (first | rfl | (rw [Bool.eq_iff_iff]; simp_all; done) | (rw [Bool.eq_iff_iff]; simp_all; omega))))
    ·try simp only [Q] at h4p
     refine sq (fun h5 h5p h5s => ?_) fun h5 h5p h5s => ?_
     ·try simp only [Q] at h5p
      exact jn rfl (LeA.eqb (by (first | rfl | (rw [Bool.eq_iff_iff]; simp_all; done) | (rw [Bool.eq_iff_iff]; simp_all; omega))))
     ·try simp only [Q] at h5p
      exact jn rfl (LeA.eqb (by (first | rfl | (rw [Bool.eq_iff_iff]; simp_all; done) | (rw [Bool.eq_iff_iff]; simp_all; omega))))
   ·try simp only [Q] at h3p
    refine sqF ?_
    refine sq (fun h6 h6p h6s => ?_) fun h6 h6p h6s => ?_
    ·try simp only [Q] at h6p
     exact jn rfl (LeA.eqb (by (first | rfl | (rw [Bool.eq_iff_iff]; simp_all; done) | (rw [Bool.eq_iff_iff]; simp_all; omega))))
    ·try simp only [Q] at h6p
     exact jn rfl (LeA.eqb (by (first | rfl | (rw [Bool.eq_iff_iff]; simp_all; done) | (rw [Bool.eq_iff_iff]; simp_all; omega))))
  refine WRest.done ?_
  refine tv ?_
  refine sq (fun h7 h7p h7s => ?_) fun h7 h7p h7s => ?_
  ·try simp only [Q] at h7p
   refine rn0 (r1 rfl) (.eqd ?_)
   all_goals (refine congrArg D.bool ?_; unfold gdS; first | (rw [if_pos (by omega)]; simp_all; done) | (rw [if_neg (by omega), decide_eq_false (by omega), Bool.false_and]; done) | (rw [if_neg (by omega), decide_eq_true (by omega), Bool.true_and]; simp_all; done) | (rw [if_neg (by omega), decide_eq_true (by omega), Bool.true_and, decide_eq_false (by omega), Bool.false_and]; done) | (rw [if_neg (by omega)]; simp_all; done))
  ·try simp only [Q] at h7p
   refine Walk.call (cr := []) cal282 (spec_l3Find_fn hv) rfl .none rfl rfl (LeL.refl _) trivial rfl rfl rfl ?_
   refine ev ?_
   refine sq (fun h8 h8p h8s => ?_) fun h8 h8p h8s => ?_
   ·try simp only [Q] at h8p
    refine Walk.idx (i := (findV vars g.var).toNat) sl124 (.some rfl rfl h8) rfl rfl rfl (by have := hlt (by omega); omega) (at_nth (by have := hlt (by omega); omega)) rfl ?_
    refine evs [] [(41, true)] ?_ ⟨⟨_, rfl, h8⟩, trivial⟩
    refine rn0 (r1 rfl) (.eqd ?_)
    all_goals (refine congrArg D.bool ?_; unfold gdS; first | (rw [if_pos (by omega)]; simp_all; done) | (rw [if_neg (by omega), decide_eq_false (by omega), Bool.false_and]; done) | (rw [if_neg (by omega), decide_eq_true (by omega), Bool.true_and]; simp_all; done) | (rw [if_neg (by omega), decide_eq_true (by omega), Bool.true_and, decide_eq_false (by omega), Bool.false_and]; done) | (rw [if_neg (by omega)]; simp_all; done))
   ·try simp only [Q] at h8p
    refine rn0 (r1 rfl) (.eqd ?_)
    all_goals (refine congrArg D.bool ?_; unfold gdS; first | (rw [if_pos (by omega)]; simp_all; done) | (rw [if_neg (by omega), decide_eq_false (by omega), Bool.false_and]; done) | (rw [if_neg (by omega), decide_eq_true (by omega), Bool.true_and]; simp_all; done) | (rw [if_neg (by omega), decide_eq_true (by omega), Bool.true_and, decide_eq_false (by omega), Bool.false_and]; done) | (rw [if_neg (by omega)]; simp_all; done))
theorem spec_l4Is_fn {w : List Data} (hw : WT w) (haz : AZ w) {t : Ty} {c : Cl} (ht : TyOk w.length t) (hok : c.pat.ok) (hsz : c.pat.size ≤ 1000000000000) :
  FnD Tryz.prog 185 [.d (encDatas w), .agg [.d (.i t.data), .d (.i t.index)], .agg [.d (.i c.pat.op), .d (.i c.pat.ctor), .d (.i c.pat.n), .d (.i c.pat.m), .d (.i c.pat.var), .d (encPats c.pat.kids), .d (.i c.g.op), .d (.i c.g.var), .d (.i c.g.n)]] [] (.d (.bool (clOk w t c))) [] := by
 have ht' : TyIn w.length ⟨t.data, t.index⟩ := ht.1
 have hcl : clOk w t c = (isP w t c.pat && gdOk c.g (varsOf w t c.pat)) := rfl
 cases hp : isP w t c.pat with
 | false =>
  have hpi := spec_l3Is_fn hw ht' hok hsz
  have hpi' : FnD Tryz.prog 173 [.d (encDatas w), .agg [.d (.i t.data), .d (.i t.index)], .agg [.d (.i c.pat.op), .d (.i c.pat.ctor), .d (.i c.pat.n), .d (.i c.pat.m), .d (.i c.pat.var), .d (encPats c.pat.kids)]] [] (.d (.bool false)) [] := by rw [← hp]; exact hpi
  rw [hcl, hp, Bool.false_and]
  refine bd Tryz.f185 22 [] [] fun w0 F0 own kept hk => ?_
  refine Walk.box (id := 3004) .none rfl rfl rfl rfl rfl rfl rfl ?_
  refine Walk.box (id := 3005) .none rfl rfl rfl rfl rfl rfl rfl ?_
  refine ev ?_
  refine Walk.call (cr := []) cal173 (hpi') rfl .none rfl rfl (LeL.refl _) trivial rfl rfl rfl ?_
  refine evd [] [] ?_
  refine sq (fun h1 h1p h1s => ?_) fun h1 h1p h1s => ?_
  ·try simp only [Q] at h1p
   exfalso; contradiction --stop
  ·try simp only [Q] at h1p
   refine dr ?_
   refine rn0 (r1 rfl) (.eqd ?_)
   all_goals (rfl)
 | true =>
  have hpi := spec_l3Is_fn hw ht' hok hsz
  have hpi' : FnD Tryz.prog 173 [.d (encDatas w), .agg [.d (.i t.data), .d (.i t.index)], .agg [.d (.i c.pat.op), .d (.i c.pat.ctor), .d (.i c.pat.n), .d (.i c.pat.m), .d (.i c.pat.var), .d (encPats c.pat.kids)]] [] (.d (.bool true)) [] := by rw [← hp]; exact hpi
  have hsh : shapeP w 10 ⟨t.data, t.index⟩ c.pat = true := by
   have := hp; unfold isP at this; simp only [Bool.and_eq_true] at this; exact this.1
  have hvl := varsP_len w 10 ⟨t.data, t.index⟩ c.pat
  have hge := gdS_eq (g := c.g) (varsP_nod hp) (varsP_ok hw haz 10 hsh ht)
  have hge' : gdS c.g (varsP w 10 ⟨t.data, t.index⟩ c.pat) = gdOk c.g (varsOf w t c.pat) := by rw [varsOf_eq hp]; exact hge
  rw [hcl, hp, Bool.true_and, ← hge']
  refine bd Tryz.f185 22 [] [] fun w0 F0 own kept hk => ?_
  refine Walk.box (id := 3004) .none rfl rfl rfl rfl rfl rfl rfl ?_
  refine Walk.box (id := 3005) .none rfl rfl rfl rfl rfl rfl rfl ?_
  refine ev ?_
  refine Walk.call (cr := []) cal173 (hpi') rfl .none rfl rfl (LeL.refl _) trivial rfl rfl rfl ?_
  refine evd [] [] ?_
  refine sq (fun h1 h1p h1s => ?_) fun h1 h1p h1s => ?_
  ·try simp only [Q] at h1p
   refine Walk.call (cr := []) cal132 (spec_l3Vars_nil hw hsh (by omega) ht' hok hsz) rfl (.some rfl rfl h1) rfl rfl (LeL.refl _) trivial rfl rfl rfl ?_
   refine Walk.call (cr := []) cal247 (spec_l4Guard_fn (g := c.g) (by omega)) rfl (.some rfl rfl h1) rfl rfl (LeL.refl _) trivial rfl rfl rfl ?_
   refine evd [] [(12, true)] ?_ ⟨⟨_, rfl, h1⟩, trivial⟩
   refine dr ?_
   refine rn0 (r1 rfl) (.eqd ?_)
   all_goals (rfl)
  ·try simp only [Q] at h1p
   exfalso; contradiction --stop
def ClsSz (l : List Cl) : Prop := ∀ c ∈ l, c.pat.size ≤ 1000000000000
theorem tv_ok {w : List Data} {t : Ty} (h : typeValid w t = true) : TyOk w.length t := by
 unfold typeValid at h; rw [Bool.and_eq_true] at h; exact typeOk_ok h.2
theorem cls_at {w : List Data} {t : Ty} {l : List Cl} {i : Nat} (hi : i < l.length) (h : clOk w t (nth l i) = false) : clsValid w t l = false := by
 unfold clsValid
 have : l.any (fun c => !clOk w t c) = true := List.any_eq_true.2 ⟨nth l i, nth_mem hi, by rw [h]; rfl⟩
 rw [this]; simp
theorem cls_all {w : List Data} {t : Ty} {l : List Cl} (ht : typeValid w t = true) (hl : l.length ≤ 8) (h : ∀ i, i < l.length → clOk w t (nth l i) = true) : clsValid w t l = true := by
 unfold clsValid
 rw [ht, decide_eq_true (by omega), Bool.true_and, Bool.true_and, Bool.not_eq_true', List.any_eq_false]
 intro c hc
 obtain ⟨i, hi, rfl⟩ := List.getElem_of_mem hc
 have := h i hi
 simp only [nth, List.getD, List.getElem?_eq_getElem hi, Option.getD_some] at this
 simp [this]
theorem cls_len {w : List Data} {t : Ty} {l : List Cl} (h : 8 < l.length) : clsValid w t l = false := by
 unfold clsValid; rw [decide_eq_false (by omega), Bool.false_and, Bool.and_false]
theorem cls_tv {w : List Data} {t : Ty} {l : List Cl} (h : typeValid w t = false) : clsValid w t l = false := by
 unfold clsValid; rw [h, Bool.false_and]
theorem spec_ClausesValid_fn {w : List Data} (hs : WSmall w) {a k : Int} {l : List Cl} (hl : ClsOk l) (hz : ClsSz l) :
  FnD Tryz.prog 109 [.d (encDatas w), .agg [.d (.i a), .d (.i k)], .d (encCls l)] [] (.d (.bool (clsValid w ⟨a, k⟩ l))) [] := by
 have hll := hl.1
 refine bd Tryz.f109 31 [] [] fun w0 F0 own kept hk => ?_
 refine Walk.box (id := 3004) .none rfl rfl rfl rfl rfl rfl rfl ?_
 refine ev ?_
 refine Walk.call (cr := []) cal172 (spec_TypeValid_v hs) rfl .none rfl rfl (LeL.refl _) trivial rfl rfl rfl ?_
 refine ev ?_
 refine sq (fun h1 h1p h1s => ?_) fun h1 h1p h1s => ?_
 ·try simp only [Q, Int.natCast_inj] at h1p
  refine sqT ?_
  refine rn0 (r1 rfl) (.eqd ?_)
  all_goals (refine congrArg D.bool ?_; first | (rw [cls_tv (by assumption)]; done) | (rw [cls_len (by omega)]; done) | (rw [cls_at (i := i) (by omega) (by assumption)]; done) | (rw [cls_all (by assumption) (by omega) (fun x hx => hg1.2 x (by omega))]; done))
 ·try simp only [Q, Int.natCast_inj] at h1p
  refine sq (fun h3 h3p h3s => ?_) fun h3 h3p h3s => ?_
  ·try simp only [Q, Int.natCast_inj] at h3p
   refine rn0 (r1 rfl) (.eqd ?_)
   all_goals (refine congrArg D.bool ?_; first | (rw [cls_tv (by assumption)]; done) | (rw [cls_len (by omega)]; done) | (rw [cls_at (i := i) (by omega) (by assumption)]; done) | (rw [cls_all (by assumption) (by omega) (fun x hx => hg1.2 x (by omega))]; done))
  ·try simp only [Q, Int.natCast_inj] at h3p
   refine CWp.loopX (ι := Nat) hk (fun i => [(7, .d (.i (i : Int)))]) [6, 17, 18, 19, 20, 21, 22, 23, 24, 25, 26, 27, 28, 29, 30] (fun i => []) (fun i => i ≤ l.length ∧ ∀ i', i' < i → clOk w ⟨a, k⟩ (nth l i') = true) (fun i => l.length - i) 0 ⟨by omega, fun _ h => absurd h (by omega)⟩ ⟨⟨_, rfl, (LeA.eqi (by first | rfl | (simp; done) | (simp_all; done) | omega))⟩, trivial⟩ trivial (fun x => rfl) (fun i hg1 => ?_)
   refine evc [] [] ?_
   refine sq (fun h4 h4p h4s => ?_) fun h4 h4p h4s => ?_
   ·try simp only [Q, Int.natCast_inj] at h4p
    refine Walk.idx sl44 .none rfl rfl rfl rfl (at_nth (by omega)) rfl ?_
    refine evd [] [] ?_
    refine Walk.call (cr := []) cal185 (spec_l4Is_fn (t := ⟨a, k⟩) (c := nth l i) (valid_wt hs (tv_facts (by assumption)).1) (valid_az (tv_facts (by assumption)).1) (tv_ok (by assumption)) (hl.2 _ (nth_mem (by omega))) (hz _ (nth_mem (by omega)))) rfl .none rfl rfl (LeL.refl _) trivial rfl rfl rfl ?_
    refine evd [] [] ?_
    refine dr ?_
    refine sq (fun h5 h5p h5s => ?_) fun h5 h5p h5s => ?_
    ·try simp only [Q, Int.natCast_inj] at h5p
     refine rn0 (r1 rfl) (.eqd ?_)
     all_goals (refine congrArg D.bool ?_; first | (rw [cls_tv (by assumption)]; done) | (rw [cls_len (by omega)]; done) | (rw [cls_at (i := i) (by omega) (by assumption)]; done) | (rw [cls_all (by assumption) (by omega) (fun x hx => hg1.2 x (by omega))]; done))
    ·try simp only [Q, Int.natCast_inj] at h5p
     refine ar ?_
     refine Exists.intro (i + 1) ⟨⟨by omega, upto_succ hg1.2 (by assumption)⟩, (by omega), Sub.x (by kernel_rfl) (by kernel_rfl) ⟨⟨_, rfl, (LeA.eqi (by first | rfl | (simp; done) | (simp_all; done) | omega))⟩, trivial⟩ (by kernel_rfl) (by kernel_rfl) trivial⟩
   ·try simp only [Q, Int.natCast_inj] at h4p
    refine rn0 (r1 rfl) (.eqd ?_)
    all_goals (refine congrArg D.bool ?_; first | (rw [cls_tv (by assumption)]; done) | (rw [cls_len (by omega)]; done) | (rw [cls_at (i := i) (by omega) (by assumption)]; done) | (rw [cls_all (by assumption) (by omega) (fun x hx => hg1.2 x (by omega))]; done))
theorem idxB_spec {α : Type} [Inhabited α] (p : α → Bool) : ∀ (l : List α) (i : Nat), (idxF p l i = -1 ∧ ∀ v ∈ l, p v = false) ∨ ∃ k : Nat, idxF p l i = ((i + k : Nat) : Int) ∧ k < l.length ∧ p (nth l k) = true ∧ ∀ j, j < k → p (nth l j) = false
 | [], i => .inl ⟨rfl, by simp⟩
 | x :: r, i => by
  unfold idxF
  cases h : p x with
  | true => exact .inr ⟨0, by simp, by simp, by simpa [nth] using h, fun j hj => absurd hj (by omega)⟩
  | false =>
   rcases idxB_spec p r (i + 1) with ⟨h1, h2⟩ | ⟨k, h1, h2, h3, h4⟩
   ·exact .inl ⟨by simpa using h1, fun v hv => by rcases List.mem_cons.1 hv with rfl | hv; exact h; exact h2 v hv⟩
   ·refine .inr ⟨k + 1, ?_, by simpa using h2, by simpa [nth] using h3, fun j hj => ?_⟩
    ·simp only [Bool.false_eq_true, if_false]; rw [h1]; congr 1; omega
    ·cases j with
     | zero => simpa [nth] using h
     | succ j => simpa [nth] using h4 j (by omega)
def findB (l : List Bd) (n : Int) : Int := idxF (fun b => decide (b.var = n)) l 0
def gdCond (g : Gd) (b : Bd) : Bool := decide (b.val.ctor = -1) && ((decide (g.op = 1) && decide (b.val.num < g.n)) || (decide (g.op = 2) && decide (b.val.num = g.n)))
def gdHold (g : Gd) (l : List Bd) : Bool := decide (g.op = 0) || (decide (0 ≤ findB l g.var) && gdCond g (nth l (findB l g.var).toNat))
theorem findB_spec (l : List Bd) (n : Int) : (findB l n = -1 ∧ ∀ v ∈ l, v.var ≠ n) ∨ ∃ k : Nat, findB l n = (k : Int) ∧ k < l.length ∧ (nth l k).var = n ∧ ∀ j, j < k → (nth l j).var ≠ n := by
 rcases idxB_spec (fun b : Bd => decide (b.var = n)) l 0 with ⟨h1, h2⟩ | ⟨k, h1, h2, h3, h4⟩
 ·exact .inl ⟨h1, fun v hv => by simpa using h2 v hv⟩
 ·exact .inr ⟨k, by unfold findB; rw [h1]; simp, h2, by simpa using h3, fun j hj => by simpa using h4 j hj⟩
theorem findB_at {l : List Bd} {n : Int} {k : Nat} (hk : k < l.length) (h : (nth l k).var = n) (h2 : ∀ j, j < k → ¬ (nth l j).var = n) : findB l n = (k : Int) := by
 rcases findB_spec l n with ⟨_, h4⟩ | ⟨i, h3, h4, h5, h6⟩
 ·exact absurd h (h4 _ (nth_mem hk))
 ·rcases Nat.lt_trichotomy i k with hl | hl | hl
  ·exact absurd h5 (h2 i hl)
  ·rw [h3, hl]
  ·exact absurd h (h6 k hl)
theorem findB_no {l : List Bd} {n : Int} (h2 : ∀ j, j < l.length → ¬ (nth l j).var = n) : findB l n = -1 := by
 rcases findB_spec l n with ⟨h3, _⟩ | ⟨i, h3, h4, h5, h6⟩
 ·exact h3
 ·exact absurd h5 (h2 i h4)
theorem hold_at {g : Gd} {l : List Bd} {k : Nat} (h0 : ¬ g.op = 0) (hk : k < l.length) (h : (nth l k).var = g.var) (h2 : ∀ j, j < k → ¬ (nth l j).var = g.var) : gdHold g l = gdCond g (nth l k) := by
 unfold gdHold
 rw [decide_eq_false h0, findB_at hk h h2, decide_eq_true (by omega)]
 simp
theorem hold_no {g : Gd} {l : List Bd} (h0 : ¬ g.op = 0) (h2 : ∀ j, j < l.length → ¬ (nth l j).var = g.var) : gdHold g l = false := by
 unfold gdHold
 rw [decide_eq_false h0, findB_no h2]; rfl
theorem hold_0 {g : Gd} {l : List Bd} (h0 : g.op = 0) : gdHold g l = true := by unfold gdHold; rw [decide_eq_true h0]; rfl
theorem hold_iff {g : Gd} {l : List Bd} (hn : (l.map Bd.var).Nodup) : gdHold g l = true ↔ (g.op = 0 ∨ ∃ b ∈ l, b.var = g.var ∧ gdCond g b = true) := by
 by_cases h0 : g.op = 0
 ·rw [hold_0 h0]; simp [h0]
 ·rcases findB_spec l g.var with ⟨h3, h4⟩ | ⟨k, h3, h4, h5, h6⟩
  ·rw [hold_no h0 (fun j hj => h4 _ (nth_mem hj))]
   simp only [Bool.false_eq_true, false_iff]
   rintro (h | ⟨b, hb, h, _⟩)
   ·exact h0 h
   ·exact h4 b hb h
  ·rw [hold_at h0 h4 h5 h6]
   constructor
   ·intro h; exact .inr ⟨_, nth_mem h4, h5, h⟩
   ·rintro (h | ⟨b, hb, h, hc⟩)
    ·exact absurd h h0
    ·obtain ⟨j, hj, e⟩ := List.getElem_of_mem hb
     have ej : nth l j = b := by simp [nth, List.getD, hj, e]
     have hjk : j = k := by
      have hn' := List.pairwise_iff_getElem.1 hn
      rcases Nat.lt_trichotomy j k with hl | hl | hl
      ·exact absurd (by rw [ej]; exact h) (h6 j hl)
      ·exact hl
      ·have := hn' k j (by simpa using h4) (by simpa using hj) hl
       simp only [List.getElem_map] at this
       refine absurd ?_ this
       rw [← nth_eq h4, ← nth_eq hj, h5, ej, h]
     rw [← hjk, ej]; exact hc
theorem hold_perm {g : Gd} {a b : List Bd} (hp : a.Perm b) (hn : (b.map Bd.var).Nodup) : gdHold g a = gdHold g b := by
 have hna : (a.map Bd.var).Nodup := (hp.map Bd.var).nodup_iff.2 hn
 rw [Bool.eq_iff_iff, hold_iff hna, hold_iff hn]
 constructor
 ·rintro (h | ⟨x, hx, h⟩)
  ·exact .inl h
  ·exact .inr ⟨x, hp.mem_iff.1 hx, h⟩
 ·rintro (h | ⟨x, hx, h⟩)
  ·exact .inl h
  ·exact .inr ⟨x, hp.mem_iff.2 hx, h⟩
theorem nth_set {α : Type} [Inhabited α] {l : List α} {i j : Nat} {x : α} (hi : i < l.length) : nth (l.set i x) j = if i = j then x else nth l j := by
 unfold nth
 simp only [List.getD, List.getElem?_set]
 by_cases h : i = j
 ·subst h; simp [hi]
 ·simp [h]
theorem sink_sorts : ∀ (j i : Nat) (L : List Bd), j ≤ i → i < L.length → (∀ a b, a < b → b ≤ i → a ≠ j → b ≠ j → (nth L a).var ≤ (nth L b).var) → (∀ b, j < b → b ≤ i → (nth L j).var ≤ (nth L b).var) →
  ∀ a b, a < b → b ≤ i → (nth (sinkL j L) a).var ≤ (nth (sinkL j L) b).var
 | 0, i, L, hj, hi, h1, h2, a, b, hab, hb => by
  show (nth L a).var ≤ (nth L b).var
  by_cases ha : a = 0
  ·subst ha; exact h2 b hab hb
  ·exact h1 a b hab hb ha (by omega)
 | j + 1, i, L, hj, hi, h1, h2, a, b, hab, hb => by
  unfold sinkL
  split
  ·rename_i hlt
   have hs : ∀ k, nth (swapL L j) k = if j = k then nth L (j + 1) else if j + 1 = k then nth L j else nth L k := fun k => by
    unfold swapL
    rw [nth_set (by simp; omega), nth_set (by omega)]
   refine sink_sorts j i (swapL L j) (by omega) (by rw [swapL_len]; omega) (fun a b hab hb ha hbj => ?_) (fun b hjb hb => ?_) a b hab hb
   ·have ea : nth (swapL L j) a = if j + 1 = a then nth L j else nth L a := by rw [hs a, if_neg (fun h => ha h.symm)]
    have eb : nth (swapL L j) b = if j + 1 = b then nth L j else nth L b := by rw [hs b, if_neg (fun h => hbj h.symm)]
    rw [ea, eb]
    by_cases e1 : j + 1 = a
    ·rw [if_pos e1, if_neg (by omega)]; exact h1 j b (by omega) hb (by omega) (by omega)
    ·rw [if_neg e1]
     by_cases e2 : j + 1 = b
     ·rw [if_pos e2]; exact h1 a j (by omega) (by omega) (by omega) (by omega)
     ·rw [if_neg e2]; exact h1 a b hab hb (by omega) (by omega)
   ·have ea : nth (swapL L j) j = nth L (j + 1) := by rw [hs j, if_pos rfl]
    have eb : nth (swapL L j) b = if j + 1 = b then nth L j else nth L b := by rw [hs b, if_neg (by omega)]
    rw [ea, eb]
    by_cases e2 : j + 1 = b
    ·rw [if_pos e2]; omega
    ·rw [if_neg e2]; exact h2 b (by omega) hb
  ·rename_i hge
   by_cases ha : a = j + 1
   ·subst ha; exact h2 b hab hb
   ·by_cases hbj : b = j + 1
    ·subst hbj
     by_cases haj : a = j
     ·subst haj; omega
     ·have := h1 a j (by omega) (by omega) ha (by omega); omega
    ·exact h1 a b hab hb ha hbj
theorem sortL_sorts : ∀ (k i : Nat) (L : List Bd), i + k ≤ L.length → (∀ a b, a < b → b < i → (nth L a).var ≤ (nth L b).var) → ∀ a b, a < b → b < i + k → (nth (sortL k i L) a).var ≤ (nth (sortL k i L) b).var
 | 0, i, L, _, h, a, b, hab, hb => h a b hab hb
 | k + 1, i, L, hl, h, a, b, hab, hb => by
  unfold sortL
  refine sortL_sorts k (i + 1) (sinkL i L) (by rw [sinkL_len]; omega) (fun a b hab hb => ?_) a b hab (by omega)
  exact sink_sorts i i L (Nat.le_refl _) (by omega) (fun a b hab hb ha hbi => h a b hab (by omega)) (fun b h1 h2 => by omega) a b hab (by omega)
theorem sortB_sorted (L : List Bd) : (sortB L).Pairwise fun x y => x.var ≤ y.var := by
 rw [List.pairwise_iff_getElem]
 intro i j hi hj hij
 rw [← nth_eq hi, ← nth_eq hj]
 have hl := sortB_len L
 refine sortL_sorts (L.length - 1) 1 L (by omega) (fun a b hab hb => by omega) i j hij (by omega)
theorem strict_ext : ∀ {a b : List Bd}, a.Pairwise (fun x y => x.var < y.var) → b.Pairwise (fun x y => x.var < y.var) → (∀ x, x ∈ a ↔ x ∈ b) → a = b
 | [], [], _, _, _ => rfl
 | [], y :: s, _, _, h => absurd ((h y).2 (by simp)) (by simp)
 | x :: r, [], _, _, h => absurd ((h x).1 (by simp)) (by simp)
 | x :: r, y :: s, ha, hb, h => by
  obtain ⟨h1, h2⟩ := List.pairwise_cons.1 ha
  obtain ⟨h3, h4⟩ := List.pairwise_cons.1 hb
  have e : x = y := by
   rcases List.mem_cons.1 ((h x).1 (by simp)) with e | e
   ·exact e
   ·rcases List.mem_cons.1 ((h y).2 (by simp)) with e2 | e2
    ·exact e2.symm
    ·have := h3 x e; have := h1 y e2; omega
  subst e
  congr 1
  refine strict_ext h2 h4 (fun z => ?_)
  have hz := h z
  simp only [List.mem_cons] at hz
  constructor
  ·intro hr
   rcases hz.1 (.inr hr) with e | e
   ·subst e; have := h1 z hr; omega
   ·exact e
  ·intro hs
   rcases hz.2 (.inr hs) with e | e
   ·subst e; have := h3 z hs; omega
   ·exact e
def sort6 (L : List Bd) : List Bd := (List.range 6).flatMap fun (n : Nat) => L.filter fun b => decide (b.var = (n : Int))
theorem sort6_sorted {L : List Bd} (hn : (L.map Bd.var).Nodup) : (sort6 L).Pairwise fun x y => x.var < y.var := by
 have key : ∀ (m : Nat), ((List.range m).flatMap fun (n : Nat) => L.filter fun b => decide (b.var = (n : Int))).Pairwise fun x y => x.var < y.var := by
  intro m
  induction m with
  | zero => simp
  | succ m ih =>
   rw [List.range_succ, List.flatMap_append]
   refine List.pairwise_append.2 ⟨ih, ?_, fun x hx y hy => ?_⟩
   ·simp only [List.flatMap_cons, List.flatMap_nil, List.append_nil]
    have hnd : (L.filter fun b => decide (b.var = (m : Int))).Pairwise fun x y => x.var ≠ y.var := ((List.pairwise_map.1 hn)).filter _
    refine hnd.imp_of_mem (fun {x y} hx hy hne => ?_)
    simp only [List.mem_filter, decide_eq_true_eq] at hx hy
    exact absurd (by rw [hx.2, hy.2]) hne
   ·simp only [List.mem_flatMap, List.mem_range, List.mem_filter, decide_eq_true_eq] at hx
    simp only [List.flatMap_cons, List.flatMap_nil, List.append_nil, List.mem_filter, decide_eq_true_eq] at hy
    obtain ⟨k, hk, _, e⟩ := hx
    rw [e, hy.2]; omega
 exact key 6
theorem sort6_eq {L : List Bd} (hn : (L.map Bd.var).Nodup) (hr : ∀ b ∈ L, 0 ≤ b.var ∧ b.var ≤ 5) : sort6 L = sortB L := by
 have hs : (sortB L).Pairwise fun x y => x.var < y.var := by
  have h1 := sortB_sorted L
  have h2 : ((sortB L).map Bd.var).Nodup := ((sortB_perm L).map Bd.var).nodup_iff.2 hn
  have h3 := List.pairwise_map.1 h2
  exact h1.imp₂ (fun {a b} h4 h5 => by omega) h3
 refine strict_ext (sort6_sorted hn) hs (fun x => ?_)
 rw [(sortB_perm L).mem_iff]
 unfold sort6
 simp only [List.mem_flatMap, List.mem_range, List.mem_filter, decide_eq_true_eq]
 constructor
 ·rintro ⟨k, _, h, _⟩; exact h
 ·intro h
  have := hr x h
  exact ⟨x.var.toNat, by omega, h, by omega⟩
def runAt (c : Cl) (v : Val) : Bool := (matchV 10 c.pat v).2 && gdHold c.g (matchV 10 c.pat v).1
def runV : List Cl → Val → Int → Int × List Bd
 | [], _, _ => (-1, [])
 | c :: r, v, i => if runAt c v = true then (i, sortB (matchV 10 c.pat v).1) else runV r v (i + 1)
theorem runV_hit {l : List Cl} {v : Val} {i : Nat} (h : i < l.length) (hr : runAt (nth l i) v = true) : runV (l.drop i) v (i : Int) = ((i : Int), sortB (matchV 10 (nth l i).pat v).1) := by
 rw [drop_nth h, runV, if_pos hr]
theorem runV_next {l : List Cl} {v : Val} {i : Nat} (h : i < l.length) (hr : runAt (nth l i) v = false) : runV (l.drop i) v (i : Int) = runV (l.drop (i + 1)) v ((i + 1 : Nat) : Int) := by
 rw [drop_nth h, runV, if_neg (by rw [hr]; simp)]
 congr 1
theorem runV_end {l : List Cl} {v : Val} {i : Nat} (h : l.length ≤ i) : runV (l.drop i) v (i : Int) = (-1, []) := by
 rw [List.drop_eq_nil_of_le h]; rfl
theorem runV_lt {v : Val} : ∀ (l : List Cl) (i : Int), (runV l v i).1 = -1 ∨ (i ≤ (runV l v i).1 ∧ (runV l v i).1 < i + l.length)
 | [], i => .inl rfl
 | c :: r, i => by
  unfold runV
  split
  ·right; simp only [List.length_cons]; omega
  ·rcases runV_lt r (i + 1) with h | h
   ·exact .inl h
   ·right; simp only [List.length_cons]; omega
theorem slices_IndexFunc_Bd_fn {xs : List Bd} {f : Nat} {caps : List AV} {hp : Hp} {p : Bd → Bool} (hs : xs.length ≤ 1000000000000) (hcal : Callee Tryz.prog f)
  (hf : ∀ t ∈ xs, FnD Tryz.prog f ([.agg (bdA t)] ++ caps) hp (.d (.bool (p t))) []) (k1 : subH hp hp) (k2 : noTok hp = true) (k3 : okCall hp [] (.d .nilp) [] = true) :
  FnD Tryz.prog 266 [.d (encBds xs), .fn f caps] hp (.d (.i (idxF p xs 0))) [] := by
 refine bd Tryz.f266 19 [] [] fun w0 F0 own kept hk => ?_
 refine CWp.loopX (ι := List (Bd) × List (Bd)) hk (fun x => [(8, .d (.i (x.1.length : Int)))]) [4, 5, 9, 10, 11, 12, 13, 14, 15, 16, 17, 18] (fun x => []) (fun x => x.1 ++ x.2 = xs ∧ idxF p x.2 x.1.length = idxF p xs 0) (fun x => x.2.length) ([], xs) ⟨by simp, rfl⟩ ⟨⟨_, rfl, (LeA.eqi (by first | rfl | (simp; done) | (simp_all; done) | omega))⟩, trivial⟩ trivial (fun x => boxIds_all hp) (fun x hg1 => ?_)
 obtain ⟨pre, rest⟩ := x
 dsimp only at hg1 ⊢
 refine evc [] [] ?_
 refine sq (fun h1 h1p h1s => ?_) fun h1 h1p h1s => ?_
 ·try simp only [Q] at h1p
  rcases rest with _ | ⟨y, rest⟩
  ·exfalso; simp_all
  refine Walk.idx sl61 .none rfl rfl rfl rfl (zip_at hg1.1) rfl ?_
  refine ev ?_
  refine Walk.callV (cr := []) hcal (hf y (by rw [← hg1.1]; simp)) rfl .none rfl rfl rfl (LeL.refl _) k1 k2 (okCall_d k3 _) rfl ?_
  refine tv ?_
  refine sq (fun h2 h2p h2s => ?_) fun h2 h2p h2s => ?_
  ·try simp only [Q] at h2p
   refine rn [] (r1 rfl) (.eqd ?_) ⟨rfl, rfl⟩ (fun _ _ h => h) (fun _ h => h)
   all_goals (rw [← hg1.2]; simp [idxF, h1s, h1p, h2s, h2p])
  ·try simp only [Q] at h2p
   refine ar ?_
   refine Exists.intro ((pre ++ [y], rest)) ⟨⟨(by have hz := hg1.1; rw [← hz]; simp), (by rw [← hg1.2]; simp [idxF, h2s])⟩, (by simp), Sub.x (by kernel_rfl) (by kernel_rfl) ⟨⟨_, rfl, (LeA.eqi (by first | rfl | (simp; done) | (simp_all; done) | omega))⟩, trivial⟩ (by simp) (by simp [coverH]) trivial⟩
 ·try simp only [Q] at h1p
  have hrest : rest = [] := by
   rcases rest with _ | ⟨a, b⟩
   ·rfl
   ·exfalso; have hz := congrArg List.length (hg1.1); simp only [List.length_append, List.length_cons, List.length_map] at hz; omega
  subst hrest
  refine rn [] (r1 rfl) (.eqd ?_) ⟨rfl, rfl⟩ (fun _ _ h => h) (fun _ h => h)
  all_goals (rw [← hg1.2]; simp [idxF, h1s, h1p])
theorem impl_GuardHolds_1_fn {x : Bd} {a b c : Int} : FnD Tryz.prog 267 [.agg (bdA x), .ref 3002 0] [(3002, some (.box [.d (.i a), .d (.i b), .d (.i c)]))] (.d (.bool (decide (x.var = b)))) [] := by
 refine bd Tryz.f267 9 [] [] fun w0 F0 own kept hk => ?_
 refine Walk.box (id := 3001) .none rfl rfl rfl rfl rfl rfl rfl ?_
 refine ev ?_
 refine rn [] (r1 rfl) (.eqd ?_) ⟨rfl, rfl⟩ (SubH.get ⟨rfl, trivial⟩) (fun _ h => h)
 all_goals (rfl)
theorem impl_GuardHolds_fn {g : Gd} {l : List Bd} (hl : l.length ≤ 1000000000000) : FnD Tryz.prog 201 [.agg [.d (.i g.op), .d (.i g.var), .d (.i g.n)], .d (encBds l)] [] (.d (.bool (gdHold g l))) [] := by
 have hsp := findB_spec l g.var
 have hfi : idxF (fun b : Bd => decide (b.var = g.var)) l 0 = findB l g.var := rfl
 by_cases h0 : g.op = 0
 ·rw [hold_0 h0]
  refine bd Tryz.f201 50 [] [] fun w0 F0 own kept hk => ?_
  refine Walk.box (id := 3002) .none rfl rfl rfl rfl rfl rfl rfl ?_
  refine ev ?_
  refine sq (fun h1 h1p h1s => ?_) fun h1 h1p h1s => ?_
  ·try simp only [Q] at h1p
   refine rn0 (r1 rfl) (.eqd ?_)
   all_goals (rfl)
  ·try simp only [Q] at h1p
   exfalso; omega --stop
 rcases hsp with ⟨h3, h4⟩ | ⟨k, h3, h4, h5, h6⟩
 ·rw [hold_no h0 (fun j hj => h4 _ (nth_mem hj))]
  have hix := slices_IndexFunc_Bd_fn (p := fun b => decide (b.var = g.var)) hl cal267 (fun t _ => impl_GuardHolds_1_fn (x := t) (a := g.op) (b := g.var) (c := g.n)) ⟨rfl, trivial⟩ rfl rfl
  rw [hfi, h3] at hix
  refine bd Tryz.f201 50 [] [] fun w0 F0 own kept hk => ?_
  refine Walk.box (id := 3002) .none rfl rfl rfl rfl rfl rfl rfl ?_
  refine ev ?_
  refine sq (fun h1 h1p h1s => ?_) fun h1 h1p h1s => ?_
  ·try simp only [Q] at h1p
   exfalso; omega --stop
  ·try simp only [Q] at h1p
   refine Walk.closure (xs := [_]) rfl .none rfl rfl ?_
   refine Walk.call (cr := []) cal266 (hix) rfl .none rfl rfl (LeL.refl _) ⟨rfl, trivial⟩ rfl rfl rfl ?_
   refine ev ?_
   refine sq (fun h2 h2p h2s => ?_) fun h2 h2p h2s => ?_
   ·try simp only [Q] at h2p
    refine sqT ?_
    refine rn0 (r1 rfl) (.eqd ?_)
    all_goals (rfl)
   ·try simp only [Q] at h2p
    exfalso; revert h2; simp --stop
 ·rw [hold_at h0 h4 h5 h6]
  have hix := slices_IndexFunc_Bd_fn (p := fun b => decide (b.var = g.var)) hl cal267 (fun t _ => impl_GuardHolds_1_fn (x := t) (a := g.op) (b := g.var) (c := g.n)) ⟨rfl, trivial⟩ rfl rfl
  rw [hfi, h3] at hix
  unfold gdCond
  refine bd Tryz.f201 50 [] [] fun w0 F0 own kept hk => ?_
  refine Walk.box (id := 3002) .none rfl rfl rfl rfl rfl rfl rfl ?_
  refine ev ?_
  refine sq (fun h1 h1p h1s => ?_) fun h1 h1p h1s => ?_
  ·try simp only [Q] at h1p
   exfalso; omega --stop
  ·try simp only [Q] at h1p
   refine Walk.closure (xs := [_]) rfl .none rfl rfl ?_
   refine Walk.call (cr := []) cal266 (hix) rfl .none rfl rfl (LeL.refl _) ⟨rfl, trivial⟩ rfl rfl rfl ?_
   refine ev ?_
   refine sq (fun h2 h2p h2s => ?_) fun h2 h2p h2s => ?_
   ·try simp only [Q] at h2p
    exfalso; revert h2; simp --stop
   ·try simp only [Q] at h2p
    refine Walk.idx sl61 (.some rfl rfl h2) rfl rfl rfl rfl (at_nth h4) rfl ?_
    refine evs [] [(15, false)] ?_ ⟨⟨_, rfl, h2⟩, trivial⟩
    refine sq (fun h3 h3p h3s => ?_) fun h3 h3p h3s => ?_
    ·try simp only [Q] at h3p
     refine rn0 (r1 rfl) (.eqd ?_)
     all_goals (refine congrArg D.bool ?_; first | (simp_all; done) | (rw [Bool.eq_iff_iff]; simp_all; done) | (rw [Bool.eq_iff_iff]; simp_all; omega))
    ·try simp only [Q] at h3p
     refine Walk.idx sl61 .none rfl rfl rfl rfl (at_nth h4) rfl ?_
     refine ev ?_
     refine sq (fun h4 h4p h4s => ?_) fun h4 h4p h4s => ?_
     ·try simp only [Q] at h4p
      refine sq (fun h5 h5p h5s => ?_) fun h5 h5p h5s => ?_
      ·try simp only [Q] at h5p
       refine rn0 (r1 rfl) (.eqd ?_)
       all_goals (refine congrArg D.bool ?_; first | (simp_all; done) | (rw [Bool.eq_iff_iff]; simp_all; done) | (rw [Bool.eq_iff_iff]; simp_all; omega))
      ·try simp only [Q] at h5p
       refine sq (fun h6 h6p h6s => ?_) fun h6 h6p h6s => ?_
       ·try simp only [Q] at h6p
        refine rn0 (r1 rfl) (.eqd ?_)
        all_goals (refine congrArg D.bool ?_; first | (simp_all; done) | (rw [Bool.eq_iff_iff]; simp_all; done) | (rw [Bool.eq_iff_iff]; simp_all; omega))
       ·try simp only [Q] at h6p
        refine rn0 (r1 rfl) (.eqd ?_)
        all_goals (refine congrArg D.bool ?_; first | (simp_all; done) | (rw [Bool.eq_iff_iff]; simp_all; done) | (rw [Bool.eq_iff_iff]; simp_all; omega))
     ·try simp only [Q] at h4p
      refine sqF ?_
      refine sq (fun h7 h7p h7s => ?_) fun h7 h7p h7s => ?_
      ·try simp only [Q] at h7p
       refine rn0 (r1 rfl) (.eqd ?_)
       all_goals (refine congrArg D.bool ?_; first | (simp_all; done) | (rw [Bool.eq_iff_iff]; simp_all; done) | (rw [Bool.eq_iff_iff]; simp_all; omega))
      ·try simp only [Q] at h7p
       refine rn0 (r1 rfl) (.eqd ?_)
       all_goals (refine congrArg D.bool ?_; first | (simp_all; done) | (rw [Bool.eq_iff_iff]; simp_all; done) | (rw [Bool.eq_iff_iff]; simp_all; omega))
theorem spec_GuardHolds_fn {g : Gd} {l : List Bd} (hl : l.length ≤ 1000000000000) : FnD Tryz.prog 199 [.agg [.d (.i g.op), .d (.i g.var), .d (.i g.n)], .d (encBds l)] [] (.d (.bool (gdHold g l))) [] := by
 refine bd Tryz.f199 59 [] [] fun w0 F0 own kept hk => ?_
 refine Walk.box (id := 3002) .none rfl rfl rfl rfl rfl rfl rfl ?_
 refine ev ?_
 refine sq (fun h1 h1p h1s => ?_) fun h1 h1p h1s => ?_
 ·try simp only [Q, Int.natCast_inj] at h1p
  refine rn0 (r1 rfl) (.eqd ?_)
  all_goals (refine congrArg D.bool ?_; first | (rw [hold_0 (by omega)]; done) | (rw [hold_no (by omega) (fun x hx => hg1.2 x (by omega))]; done) | (rw [hold_at (k := i) (by omega) (by omega) (by omega) hg1.2]; unfold gdCond; first | (simp_all; done) | (rw [Bool.eq_iff_iff]; simp_all; done) | (rw [Bool.eq_iff_iff]; simp_all; omega)))
 ·try simp only [Q, Int.natCast_inj] at h1p
  refine CWp.loopX (ι := Nat) hk (fun i => [(5, .d (.i (i : Int)))]) [4, 6, 10, 11, 12, 13, 14, 15, 16, 17, 18, 19, 20, 21, 22, 23, 24, 25, 26, 27, 28, 29, 30, 31, 32, 33, 34, 35, 36, 37, 38, 39, 40, 41, 42, 43, 44, 45, 46, 47, 48, 49, 50, 51, 52, 53, 54, 55, 56, 57, 58] (fun i => []) (fun i => i ≤ l.length ∧ ∀ i', i' < i → ¬ (nth l i').var = g.var) (fun i => l.length - i) 0 ⟨by omega, fun _ h => absurd h (by omega)⟩ ⟨⟨_, rfl, (LeA.eqi (by first | rfl | (simp; done) | (simp_all; done) | omega))⟩, trivial⟩ trivial (fun x => rfl) (fun i hg1 => ?_)
  refine evc [] [] ?_
  refine sq (fun h2 h2p h2s => ?_) fun h2 h2p h2s => ?_
  ·try simp only [Q, Int.natCast_inj] at h2p
   refine Walk.idx sl61 .none rfl rfl rfl rfl (at_nth (by omega)) rfl ?_
   refine evd [] [] ?_
   refine dr ?_
   refine sq (fun h3 h3p h3s => ?_) fun h3 h3p h3s => ?_
   ·try simp only [Q, Int.natCast_inj] at h3p
    refine ar ?_
    refine Exists.intro (i + 1) ⟨⟨by omega, upto_succ hg1.2 (by omega)⟩, (by omega), Sub.x (by kernel_rfl) (by kernel_rfl) ⟨⟨_, rfl, (LeA.eqi (by first | rfl | (simp; done) | (simp_all; done) | omega))⟩, trivial⟩ (by kernel_rfl) (by kernel_rfl) trivial⟩
   ·try simp only [Q, Int.natCast_inj] at h3p
    refine Walk.idx sl61 .none rfl rfl rfl rfl (at_nth (by omega)) rfl ?_
    refine ev ?_
    refine Walk.idx sl61 .none rfl rfl rfl rfl (at_nth (by omega)) rfl ?_
    refine ev ?_
    refine sq (fun h4 h4p h4s => ?_) fun h4 h4p h4s => ?_
    ·try simp only [Q, Int.natCast_inj] at h4p
     refine sq (fun h5 h5p h5s => ?_) fun h5 h5p h5s => ?_
     ·try simp only [Q, Int.natCast_inj] at h5p
      refine sq (fun h6 h6p h6s => ?_) fun h6 h6p h6s => ?_
      ·try simp only [Q, Int.natCast_inj] at h6p
       refine rn0 (r1 rfl) (.eqd ?_)
       all_goals (refine congrArg D.bool ?_; first | (rw [hold_0 (by omega)]; done) | (rw [hold_no (by omega) (fun x hx => hg1.2 x (by omega))]; done) | (rw [hold_at (k := i) (by omega) (by omega) (by omega) hg1.2]; unfold gdCond; first | (simp_all; done) | (rw [Bool.eq_iff_iff]; simp_all; done) | (rw [Bool.eq_iff_iff]; simp_all; omega)))
      ·try simp only [Q, Int.natCast_inj] at h6p
       refine sq (fun h7 h7p h7s => ?_) fun h7 h7p h7s => ?_
       ·try simp only [Q, Int.natCast_inj] at h7p
        refine rn0 (r1 rfl) (.eqd ?_)
        all_goals (refine congrArg D.bool ?_; first | (rw [hold_0 (by omega)]; done) | (rw [hold_no (by omega) (fun x hx => hg1.2 x (by omega))]; done) | (rw [hold_at (k := i) (by omega) (by omega) (by omega) hg1.2]; unfold gdCond; first | (simp_all; done) | (rw [Bool.eq_iff_iff]; simp_all; done) | (rw [Bool.eq_iff_iff]; simp_all; omega)))
       ·try simp only [Q, Int.natCast_inj] at h7p
        refine rn0 (r1 rfl) (.eqd ?_)
        all_goals (refine congrArg D.bool ?_; first | (rw [hold_0 (by omega)]; done) | (rw [hold_no (by omega) (fun x hx => hg1.2 x (by omega))]; done) | (rw [hold_at (k := i) (by omega) (by omega) (by omega) hg1.2]; unfold gdCond; first | (simp_all; done) | (rw [Bool.eq_iff_iff]; simp_all; done) | (rw [Bool.eq_iff_iff]; simp_all; omega)))
     ·try simp only [Q, Int.natCast_inj] at h5p
      refine sqF ?_
      refine sq (fun h8 h8p h8s => ?_) fun h8 h8p h8s => ?_
      ·try simp only [Q, Int.natCast_inj] at h8p
       refine rn0 (r1 rfl) (.eqd ?_)
       all_goals (refine congrArg D.bool ?_; first | (rw [hold_0 (by omega)]; done) | (rw [hold_no (by omega) (fun x hx => hg1.2 x (by omega))]; done) | (rw [hold_at (k := i) (by omega) (by omega) (by omega) hg1.2]; unfold gdCond; first | (simp_all; done) | (rw [Bool.eq_iff_iff]; simp_all; done) | (rw [Bool.eq_iff_iff]; simp_all; omega)))
      ·try simp only [Q, Int.natCast_inj] at h8p
       refine rn0 (r1 rfl) (.eqd ?_)
       all_goals (refine congrArg D.bool ?_; first | (rw [hold_0 (by omega)]; done) | (rw [hold_no (by omega) (fun x hx => hg1.2 x (by omega))]; done) | (rw [hold_at (k := i) (by omega) (by omega) (by omega) hg1.2]; unfold gdCond; first | (simp_all; done) | (rw [Bool.eq_iff_iff]; simp_all; done) | (rw [Bool.eq_iff_iff]; simp_all; omega)))
    ·try simp only [Q, Int.natCast_inj] at h4p
     refine rn0 (r1 rfl) (.eqd ?_)
     all_goals (refine congrArg D.bool ?_; first | (rw [hold_0 (by omega)]; done) | (rw [hold_no (by omega) (fun x hx => hg1.2 x (by omega))]; done) | (rw [hold_at (k := i) (by omega) (by omega) (by omega) hg1.2]; unfold gdCond; first | (simp_all; done) | (rw [Bool.eq_iff_iff]; simp_all; done) | (rw [Bool.eq_iff_iff]; simp_all; omega)))
  ·try simp only [Q, Int.natCast_inj] at h2p
   refine rn0 (r1 rfl) (.eqd ?_)
   all_goals (refine congrArg D.bool ?_; first | (rw [hold_0 (by omega)]; done) | (rw [hold_no (by omega) (fun x hx => hg1.2 x (by omega))]; done) | (rw [hold_at (k := i) (by omega) (by omega) (by omega) hg1.2]; unfold gdCond; first | (simp_all; done) | (rw [Bool.eq_iff_iff]; simp_all; done) | (rw [Bool.eq_iff_iff]; simp_all; omega)))
def matchSL (f : List Bd → Pat → Val → List Bd × Bool) : List Pat → List Val → List Bd → List Bd × Bool
 | p :: r, v :: s, out => if (f out p v).2 = true then matchSL f r s (f out p v).1 else (out, false)
 | _, _, out => (out, true)
def matchS : Nat → List Bd → Pat → Val → List Bd × Bool
 | 0, out, _, _ => (out, false)
 | n + 1, out, p, v =>
  if p.op = 1 then (out, true)
  else if p.op = 2 then (out ++ [⟨p.var, v⟩], true)
  else if p.op = 3 then (out, within v.num p.n p.m)
  else if p.op = 5 then (if (matchS n out (nth p.kids 0) v).2 = true then ((matchS n out (nth p.kids 0) v).1, true) else matchS n out (nth p.kids 1) v)
  else if p.op = 6 then matchS n (out ++ [⟨p.var, v⟩]) (nth p.kids 0) v
  else if p.ctor = v.ctor then matchSL (matchS n) p.kids v.kids out else (out, false)
section
variable {n : Nat} {out : List Bd} {p : Pat} {v : Val}
theorem ms_1 (h : p.op = 1) : matchS (n + 1) out p v = (out, true) := by unfold matchS; rw [if_pos h]
theorem ms_2 (h : p.op = 2) : matchS (n + 1) out p v = (out ++ [⟨p.var, v⟩], true) := by unfold matchS; rw [if_neg (by omega), if_pos h]
theorem ms_3 (h : p.op = 3) : matchS (n + 1) out p v = (out, within v.num p.n p.m) := by unfold matchS; rw [if_neg (by omega), if_neg (by omega), if_pos h]
theorem ms_5a (h : p.op = 5) (h2 : (matchS n out (nth p.kids 0) v).2 = true) : matchS (n + 1) out p v = ((matchS n out (nth p.kids 0) v).1, true) := by
 conv => lhs; unfold matchS
 rw [if_neg (by omega), if_neg (by omega), if_neg (by omega), if_pos h, if_pos h2]
theorem ms_5b (h : p.op = 5) (h2 : (matchS n out (nth p.kids 0) v).2 = false) : matchS (n + 1) out p v = matchS n out (nth p.kids 1) v := by
 conv => lhs; unfold matchS
 rw [if_neg (by omega), if_neg (by omega), if_neg (by omega), if_pos h, if_neg (by rw [h2]; simp)]
theorem ms_6 (h : p.op = 6) : matchS (n + 1) out p v = matchS n (out ++ [⟨p.var, v⟩]) (nth p.kids 0) v := by
 conv => lhs; unfold matchS
 rw [if_neg (by omega), if_neg (by omega), if_neg (by omega), if_neg (by omega), if_pos h]
theorem ms_4 (h : p.op = 4) (h2 : p.ctor = v.ctor) : matchS (n + 1) out p v = matchSL (matchS n) p.kids v.kids out := by
 conv => lhs; unfold matchS
 rw [if_neg (by omega), if_neg (by omega), if_neg (by omega), if_neg (by omega), if_neg (by omega), if_pos h2]
theorem ms_4n (h : p.op = 4) (h2 : ¬ p.ctor = v.ctor) : matchS (n + 1) out p v = (out, false) := by
 conv => lhs; unfold matchS
 rw [if_neg (by omega), if_neg (by omega), if_neg (by omega), if_neg (by omega), if_neg (by omega), if_neg h2]
end
theorem matchSL_next {f : List Bd → Pat → Val → List Bd × Bool} {a : List Pat} {b : List Val} {out : List Bd} {i : Nat} (h1 : i < a.length) (h2 : i < b.length) (h : (f out (nth a i) (nth b i)).2 = true) :
  matchSL f (a.drop i) (b.drop i) out = matchSL f (a.drop (i + 1)) (b.drop (i + 1)) (f out (nth a i) (nth b i)).1 := by
 rw [drop_nth h1, drop_nth h2]
 conv => lhs; unfold matchSL
 rw [if_pos h]
theorem matchSL_bad {f : List Bd → Pat → Val → List Bd × Bool} {a : List Pat} {b : List Val} {out : List Bd} {i : Nat} (h1 : i < a.length) (h2 : i < b.length) (h : (f out (nth a i) (nth b i)).2 = false) :
  matchSL f (a.drop i) (b.drop i) out = (out, false) := by
 rw [drop_nth h1, drop_nth h2]
 conv => lhs; unfold matchSL
 rw [if_neg (by rw [h]; simp)]
theorem matchSL_end {f : List Bd → Pat → Val → List Bd × Bool} {a : List Pat} {b : List Val} {out : List Bd} {i : Nat} (h1 : a.length ≤ i) : matchSL f (a.drop i) (b.drop i) out = (out, true) := by
 rw [List.drop_eq_nil_of_le h1]; cases b.drop i <;> rfl
theorem matchSL_eq {f : List Bd → Pat → Val → List Bd × Bool} {g : Pat → Val → List Bd × Bool} (h : ∀ out p v, (f out p v).2 = (g p v).2 ∧ ((g p v).2 = true → (f out p v).1 = out ++ (g p v).1)) :
  ∀ (a : List Pat) (b : List Val) (out acc : List Bd), (matchSL f a b (out ++ acc)).2 = (matchL g a b acc).2 ∧ ((matchL g a b acc).2 = true → (matchSL f a b (out ++ acc)).1 = out ++ (matchL g a b acc).1)
 | [], b, out, acc => by cases b <;> exact ⟨rfl, fun _ => rfl⟩
 | _ :: _, [], out, acc => ⟨rfl, fun _ => rfl⟩
 | p :: r, v :: s, out, acc => by
  obtain ⟨h1, h2⟩ := h (out ++ acc) p v
  unfold matchSL matchL
  rw [h1]
  cases hg : (g p v).2 with
  | true =>
   simp only [if_true]
   rw [h2 hg, List.append_assoc]
   exact matchSL_eq h r s out (acc ++ (g p v).1)
  | false => simp
theorem matchS_eq : ∀ (n : Nat) (out : List Bd) (p : Pat) (v : Val), (matchS n out p v).2 = (matchV n p v).2 ∧ ((matchV n p v).2 = true → (matchS n out p v).1 = out ++ (matchV n p v).1)
 | 0, out, p, v => by simp [matchS, matchV]
 | n + 1, out, p, v => by
  unfold matchS matchV
  by_cases h1 : p.op = 1
  ·simp [h1]
  by_cases h2 : p.op = 2
  ·simp [h2]
  by_cases h3 : p.op = 3
  ·simp [h3]
  by_cases h5 : p.op = 5
  ·simp only [h5, if_neg (show ¬ (5 : Int) = 1 by omega), if_neg (show ¬ (5 : Int) = 2 by omega), if_neg (show ¬ (5 : Int) = 3 by omega), if_true]
   obtain ⟨a1, a2⟩ := matchS_eq n out (nth p.kids 0) v
   obtain ⟨b1, b2⟩ := matchS_eq n out (nth p.kids 1) v
   rw [a1]
   cases hm : (matchV n (nth p.kids 0) v).2 with
   | true => simp [a2 hm]
   | false => simp only [Bool.false_eq_true, if_false]; exact ⟨b1, b2⟩
  by_cases h6 : p.op = 6
  ·simp only [h6, if_neg (show ¬ (6 : Int) = 1 by omega), if_neg (show ¬ (6 : Int) = 2 by omega), if_neg (show ¬ (6 : Int) = 3 by omega), if_neg (show ¬ (6 : Int) = 5 by omega), if_true]
   obtain ⟨a1, a2⟩ := matchS_eq n (out ++ [⟨p.var, v⟩]) (nth p.kids 0) v
   exact ⟨a1, fun h => by rw [a2 h]; simp⟩
  rw [if_neg h1, if_neg h2, if_neg h3, if_neg h5, if_neg h6, if_neg h1, if_neg h2, if_neg h3, if_neg h5, if_neg h6]
  split
  ·have := matchSL_eq (f := matchS n) (g := matchV n) (fun out p v => matchS_eq n out p v) p.kids v.kids out []
   rw [List.append_nil] at this
   exact this
  ·simp
theorem matchSL_len {f : List Bd → Pat → Val → List Bd × Bool} : ∀ (a : List Pat) (b : List Val) (out : List Bd), (∀ p ∈ a, ∀ out v, (f out p v).1.length ≤ out.length + p.size) → (matchSL f a b out).1.length ≤ out.length + Pats.size a
 | [], b, out, _ => by cases b <;> simp [matchSL, Pats.size]
 | _ :: _, [], out, _ => by simp [matchSL]
 | p :: r, v :: s, out, h => by
  have h1 := h p (by simp) out v
  unfold matchSL
  simp only [Pats.size]
  split
  ·have := matchSL_len (f := f) r s (f out p v).1 (fun q hq => h q (by simp [hq])); omega
  ·simp
theorem matchS_len {w : List Data} : ∀ (n : Nat) {t : Ty} {p : Pat} (out : List Bd) (v : Val), shapeP w n t p = true → (matchS n out p v).1.length ≤ out.length + p.size
 | 0, t, p, out, v, h => by simp [shapeP] at h
 | n + 1, t, p, out, v, h => by
  have hs := Pat.size_eq p
  by_cases h1 : p.op = 1
  ·rw [ms_1 h1]; simp
  by_cases h2 : p.op = 2
  ·rw [ms_2 h2]; simp; omega
  by_cases h3 : p.op = 3
  ·rw [ms_3 h3]; simp
  by_cases h5 : p.op = 5
  ·obtain ⟨hl, s0, s1⟩ := shape_two h h5
   have z0 := pnth_size (l := p.kids) (i := 0) (by omega)
   have z1 := pnth_size (l := p.kids) (i := 1) (by omega)
   have k0 := matchS_len n out v s0
   have k1 := matchS_len n out v s1
   cases hm : (matchS n out (nth p.kids 0) v).2 with
   | true => rw [ms_5a h5 hm]; dsimp only; omega
   | false => rw [ms_5b h5 hm]; omega
  by_cases h6 : p.op = 6
  ·obtain ⟨hl, s0⟩ := shape_one h h6
   have z0 := pnth_size (l := p.kids) (i := 0) (by omega)
   have k0 := matchS_len n (out ++ [⟨p.var, v⟩]) v s0
   rw [ms_6 h6]; simp at k0; omega
  have h4 : p.op = 4 := by have := shape_op h; omega
  by_cases hc : p.ctor = v.ctor
  ·rw [ms_4 h4 hc]
   have := matchSL_len (f := matchS n) p.kids v.kids out (fun q hq out u => by
    obtain ⟨i, hi, rfl⟩ := List.getElem_of_mem hq
    have e : p.kids[i] = nth p.kids i := by simp [nth, List.getD, hi]
    rw [e]
    exact matchS_len n out u (shapeP_kid h hi))
   omega
  ·rw [ms_4n h4 hc]; simp
theorem spec_l3Match_fn {w : List Data} : ∀ (n m : Nat) {t : Ty} {p : Pat} {v : Val} {out : List Bd}, MatchOk w n m t p v → out.length + p.size ≤ 1000000000000 →
  FnD Tryz.prog 198 [.d (encBds out), .agg [.d (.i p.op), .d (.i p.ctor), .d (.i p.n), .d (.i p.m), .d (.i p.var), .d (encPats p.kids)], .agg [.d (.i v.ctor), .d (.i v.num), .d (encVals v.kids)]] [] (.tup [.d (encBds (matchS n out p v).1), .d (.bool (matchS n out p v).2)]) []
 | 0, m, t, p, v, out, h, _ => by have := h.shape; simp [shapeP] at this
 | n + 1, m, t, p, v, out, h, hb => by
  have hop := shape_op h.shape
  have k4 := h.kid
  have k5 := h.two
  have k6 := h.one
  have hsz := h.psz
  have hps := Pat.size_eq p
  have hkl := ((Pat.ok_iff p).1 h.pok).1
  have hkl2 := ((Val.ok_iff v).1 h.vok).1
  have mok := fun {t : Ty} {q : Pat} (out : List Bd) (u : Val) (hs : shapeP w n t q = true) => matchS_len n out u hs
  by_cases c4 : p.op = 4 ∧ p.ctor = v.ctor
  ·obtain ⟨hl, k, hkm⟩ := k4 c4.1 c4.2
   have hm4 := ms_4 (n := n) (out := out) c4.1 c4.2
   refine bd Tryz.f198 119 [] [] fun w0 F0 own kept hk => ?_
   refine Walk.box (id := 3004) .none rfl rfl rfl rfl rfl rfl rfl ?_
   refine Walk.box (id := 3005) .none rfl rfl rfl rfl rfl rfl rfl ?_
   refine ev ?_
   refine sq (fun h1 h1p h1s => ?_) fun h1 h1p h1s => ?_
   ·try simp only [Q, Pat.cs_len] at h1p
    exfalso; omega --stop
   ·try simp only [Q, Pat.cs_len] at h1p
    refine sq (fun h2 h2p h2s => ?_) fun h2 h2p h2s => ?_
    ·try simp only [Q, Pat.cs_len] at h2p
     exfalso; omega --stop
    ·try simp only [Q, Pat.cs_len] at h2p
     refine sq (fun h3 h3p h3s => ?_) fun h3 h3p h3s => ?_
     ·try simp only [Q, Pat.cs_len] at h3p
      exfalso; omega --stop
     ·try simp only [Q, Pat.cs_len] at h3p
      refine sq (fun h4 h4p h4s => ?_) fun h4 h4p h4s => ?_
      ·try simp only [Q, Pat.cs_len] at h4p
       exfalso; omega --stop
      ·try simp only [Q, Pat.cs_len] at h4p
       refine sq (fun h5 h5p h5s => ?_) fun h5 h5p h5s => ?_
       ·try simp only [Q, Pat.cs_len] at h5p
        exfalso; omega --stop
       ·try simp only [Q, Pat.cs_len] at h5p
        refine sq (fun h6 h6p h6s => ?_) fun h6 h6p h6s => ?_
        ·try simp only [Q, Pat.cs_len] at h6p
         exfalso; omega --stop
        ·try simp only [Q, Pat.cs_len] at h6p
         refine CWp.loopX (ι := Nat × List Bd) hk (fun x => [(10, .d (.i (x.1 : Int))), (0, .d (encBds x.2))]) [6, 7, 11, 12, 92, 93, 94, 95, 96, 97, 98, 99, 100, 101, 102, 103, 104, 105, 106, 107, 108, 109, 110, 111, 112, 113, 114, 115, 116, 117] (fun x => []) (fun x => x.1 ≤ p.kids.length ∧ matchSL (matchS n) (p.kids.drop x.1) (v.kids.drop x.1) x.2 = matchSL (matchS n) p.kids v.kids out ∧ x.2.length + Pats.size (p.kids.drop x.1) ≤ out.length + Pats.size p.kids) (fun x => p.kids.length - x.1) (0, out) ⟨by simp, rfl, by simp⟩ ⟨⟨_, rfl, (LeA.eqi (by first | rfl | omega | (simp; done)))⟩, ⟨⟨_, rfl, (by first | exact LeA.refl _ | exact LeA.gld (by first | rfl | omega | (simp; done)) | exact LeA.nild (by first | rfl | omega | (simp; done)) | exact LeA.eqsl (by first | rfl | omega | (simp; done)) | exact LeA.eqd (by first | rfl | omega | (simp; done)))⟩, trivial⟩⟩ trivial (fun x => rfl) (fun x hg1 => ?_)
         refine evc [] [] ?_
         refine sq (fun h7 h7p h7s => ?_) fun h7 h7p h7s => ?_
         ·try simp only [Q, Pat.cs_len] at h7p
          refine Walk.idx sl49 .none rfl rfl rfl rfl (pats_at (by omega)) rfl ?_
          refine evd [] [] ?_
          refine Walk.idx sl58 .none rfl rfl rfl rfl (vals_at (by omega)) rfl ?_
          refine evd [] [] ?_
          refine Walk.call (cr := []) cal198 (spec_l3Match_fn n k (out := x.2) (hkm x.1 (by omega)) (by have := psize_drop (l := p.kids) (i := x.1) (by omega); have := hg1.2.2; omega)) rfl .none rfl rfl (LeL.refl _) trivial rfl rfl rfl ?_
          refine evd [] [] ?_
          refine dr ?_
          refine sq (fun h8 h8p h8s => ?_) fun h8 h8p h8s => ?_
          ·try simp only [Q, Pat.cs_len] at h8p
           refine rn0 (r2 rfl rfl) (.tup (.cons (.eqd ?_) (.cons (.eqd ?_) .nil)))
           all_goals (first | (rw [hm4, ← hg1.2.1, matchSL_end (by omega)]; all_goals rfl) | (rw [hm4, ← hg1.2.1, matchSL_bad (by omega) (by omega) (by assumption)]; all_goals rfl))
          ·try simp only [Q, Pat.cs_len] at h8p
           refine ar ?_
           refine Exists.intro ((x.1 + 1, (matchS n x.2 (nth p.kids x.1) (nth v.kids x.1)).1)) ⟨⟨by dsimp only; omega, by dsimp only; rw [← matchSL_next (by omega) (by omega) (by assumption)]; exact hg1.2.1, by have := mok x.2 (nth v.kids x.1) (hkm x.1 (by omega)).shape; have := psize_drop (l := p.kids) (i := x.1) (by omega); have := hg1.2.2; dsimp only; omega⟩, (by dsimp only; omega), Sub.x (by kernel_rfl) (by kernel_rfl) ⟨⟨_, rfl, (LeA.eqi (by first | rfl | omega | (simp; done)))⟩, ⟨⟨_, rfl, (by first | exact LeA.refl _ | exact LeA.gld (by first | rfl | omega | (simp; done)) | exact LeA.nild (by first | rfl | omega | (simp; done)) | exact LeA.eqsl (by first | rfl | omega | (simp; done)) | exact LeA.eqd (by first | rfl | omega | (simp; done)))⟩, trivial⟩⟩ (by kernel_rfl) (by kernel_rfl) trivial⟩
         ·try simp only [Q, Pat.cs_len] at h7p
          refine rn0 (r2 rfl rfl) (.tup (.cons (.eqd ?_) (.cons (.eqd ?_) .nil)))
          all_goals (first | (rw [hm4, ← hg1.2.1, matchSL_end (by omega)]; all_goals rfl) | (rw [hm4, ← hg1.2.1, matchSL_bad (by omega) (by omega) (by assumption)]; all_goals rfl))
  ·have hn4 : p.op = 4 → matchS (n + 1) out p v = (out, false) := fun h4 => ms_4n h4 (fun hc => c4 ⟨h4, hc⟩)
   have hc6 : p.op = 6 → FnD Tryz.prog 198 [.d (.sl ([] ++ out.map Bd.c ++ [[.i p.var, .i v.ctor, .i v.num, encVals v.kids]])), .agg [.d (.i (nth p.kids 0).op), .d (.i (nth p.kids 0).ctor), .d (.i (nth p.kids 0).n), .d (.i (nth p.kids 0).m), .d (.i (nth p.kids 0).var), .d (encPats (nth p.kids 0).kids)], .agg [.d (.i v.ctor), .d (.i v.num), .d (encVals v.kids)]] [] (.tup [.d (encBds (matchS n (out ++ [⟨p.var, v⟩]) (nth p.kids 0) v).1), .d (.bool (matchS n (out ++ [⟨p.var, v⟩]) (nth p.kids 0) v).2)]) [] := fun h6 => by
    have hh := spec_l3Match_fn n m (out := out ++ [⟨p.var, v⟩]) (k6 h6).2 (by have := pnth_size (l := p.kids) (i := 0) (by have := (k6 h6).1; omega); simp; omega)
    rw [show encBds (out ++ [⟨p.var, v⟩]) = .sl ([] ++ out.map Bd.c ++ [[.i p.var, .i v.ctor, .i v.num, encVals v.kids]]) by simp [Bd.c]] at hh
    exact hh
   refine bd Tryz.f198 119 [] [] fun w0 F0 own kept hk => ?_
   refine Walk.box (id := 3004) .none rfl rfl rfl rfl rfl rfl rfl ?_
   refine Walk.box (id := 3005) .none rfl rfl rfl rfl rfl rfl rfl ?_
   refine ev ?_
   refine sq (fun h1 h1p h1s => ?_) fun h1 h1p h1s => ?_
   ·try simp only [Q, Pat.cs_len] at h1p
    refine rn0 (r2 rfl rfl) (.tup (.cons (.eqd ?_) (.cons (.eqd ?_) .nil)))
    all_goals (first | (rw [ms_1 (by omega)]; all_goals rfl) | (rw [ms_2 (by omega)]; all_goals first | rfl | (simp [encBds, Bd.c]; done)) | (rw [ms_3 (by omega)]; all_goals first | rfl | (refine congrArg D.bool ?_; unfold within; first | (rw [decide_eq_false (show ¬ p.n ≤ v.num by omega), Bool.false_and]; done) | (rw [decide_eq_true (show p.n ≤ v.num by omega), Bool.true_and]; done))) | (rw [ms_5a (by omega) (by assumption)]; all_goals rfl) | (rw [ms_5b (by omega) (by simp_all)]; all_goals rfl) | (rw [ms_6 (by omega)]; all_goals rfl) | (rw [hn4 (by omega)]; all_goals rfl))
   ·try simp only [Q, Pat.cs_len] at h1p
    refine sq (fun h2 h2p h2s => ?_) fun h2 h2p h2s => ?_
    ·try simp only [Q, Pat.cs_len] at h2p
     refine Walk.sliceEmptyG 1 sl61 .none rfl rfl ?_
     refine evd [] [] ?_
     refine Walk.append sl61 zz177 rfl .none rfl rfl rfl rfl (htokL rfl (by first | rfl | (simp; done) | (simp; omega))) (by intro x hx; first | exact bd_rows _ x hx | (simp at hx; subst hx; rfl)) (by simp; omega) (by simp; omega) ?_
     refine evd [] [] ?_
     refine Walk.build st177 (ks := [0, 1]) (xs := [_, _]) rfl rfl .none rfl rfl rfl ?_
     refine Walk.sliceLit sl61 tz177 rfl (by decide) (ks := [0]) (xs := [_]) rfl rfl (by decide) (by decide) .none rfl rfl rfl rfl ?_
     refine Walk.append sl61 zz177 rfl .none rfl rfl rfl rfl (htokL rfl (by first | rfl | (simp; done) | (simp; omega))) (by intro x hx; first | exact bd_rows _ x hx | (simp at hx; subst hx; rfl)) (by simp; omega) (by simp; omega) ?_
     refine evd [] [] ?_
     refine dr ?_
     refine rn0 (r2 rfl rfl) (.tup (.cons (.gld ?_) (.cons (.eqd ?_) .nil)))
     all_goals (first | (rw [ms_1 (by omega)]; all_goals rfl) | (rw [ms_2 (by omega)]; all_goals first | rfl | (simp [encBds, Bd.c]; done)) | (rw [ms_3 (by omega)]; all_goals first | rfl | (refine congrArg D.bool ?_; unfold within; first | (rw [decide_eq_false (show ¬ p.n ≤ v.num by omega), Bool.false_and]; done) | (rw [decide_eq_true (show p.n ≤ v.num by omega), Bool.true_and]; done))) | (rw [ms_5a (by omega) (by assumption)]; all_goals rfl) | (rw [ms_5b (by omega) (by simp_all)]; all_goals rfl) | (rw [ms_6 (by omega)]; all_goals rfl) | (rw [hn4 (by omega)]; all_goals rfl))
    ·try simp only [Q, Pat.cs_len] at h2p
     refine sq (fun h3 h3p h3s => ?_) fun h3 h3p h3s => ?_
     ·try simp only [Q, Pat.cs_len] at h3p
      refine sq (fun h4 h4p h4s => ?_) fun h4 h4p h4s => ?_
      ·try simp only [Q, Pat.cs_len] at h4p
       refine dr ?_
       refine rn0 (r2 rfl rfl) (.tup (.cons (.eqd ?_) (.cons (.eqd ?_) .nil)))
       all_goals (first | (rw [ms_1 (by omega)]; all_goals rfl) | (rw [ms_2 (by omega)]; all_goals first | rfl | (simp [encBds, Bd.c]; done)) | (rw [ms_3 (by omega)]; all_goals first | rfl | (refine congrArg D.bool ?_; unfold within; first | (rw [decide_eq_false (show ¬ p.n ≤ v.num by omega), Bool.false_and]; done) | (rw [decide_eq_true (show p.n ≤ v.num by omega), Bool.true_and]; done))) | (rw [ms_5a (by omega) (by assumption)]; all_goals rfl) | (rw [ms_5b (by omega) (by simp_all)]; all_goals rfl) | (rw [ms_6 (by omega)]; all_goals rfl) | (rw [hn4 (by omega)]; all_goals rfl))
      ·try simp only [Q, Pat.cs_len] at h4p
       refine dr ?_
       refine rn0 (r2 rfl rfl) (.tup (.cons (.eqd ?_) (.cons (.eqd ?_) .nil)))
       all_goals (first | (rw [ms_1 (by omega)]; all_goals rfl) | (rw [ms_2 (by omega)]; all_goals first | rfl | (simp [encBds, Bd.c]; done)) | (rw [ms_3 (by omega)]; all_goals first | rfl | (refine congrArg D.bool ?_; unfold within; first | (rw [decide_eq_false (show ¬ p.n ≤ v.num by omega), Bool.false_and]; done) | (rw [decide_eq_true (show p.n ≤ v.num by omega), Bool.true_and]; done))) | (rw [ms_5a (by omega) (by assumption)]; all_goals rfl) | (rw [ms_5b (by omega) (by simp_all)]; all_goals rfl) | (rw [ms_6 (by omega)]; all_goals rfl) | (rw [hn4 (by omega)]; all_goals rfl))
     ·try simp only [Q, Pat.cs_len] at h3p
      refine sq (fun h5 h5p h5s => ?_) fun h5 h5p h5s => ?_
      ·try simp only [Q, Pat.cs_len] at h5p
       refine Walk.idx (i := 0) sl49 .none rfl rfl rfl rfl (pats_at (by first | (have := (k5 (by omega)).1; omega) | (have := (k6 (by omega)).1; omega))) rfl ?_
       refine evd [] [] ?_
       refine Walk.call (cr := []) cal198 (spec_l3Match_fn n m (k5 (by omega)).2.1 (by have := pnth_size (l := p.kids) (i := 0) (by have := (k5 (by omega)).1; omega); omega)) rfl .none rfl rfl (LeL.refl _) trivial rfl rfl rfl ?_
       refine evd [] [] ?_
       refine dr ?_
       refine sq (fun h6 h6p h6s => ?_) fun h6 h6p h6s => ?_
       ·try simp only [Q, Pat.cs_len] at h6p
        refine rn0 (r2 rfl rfl) (.tup (.cons (.eqd ?_) (.cons (.eqd ?_) .nil)))
        all_goals (first | (rw [ms_1 (by omega)]; all_goals rfl) | (rw [ms_2 (by omega)]; all_goals first | rfl | (simp [encBds, Bd.c]; done)) | (rw [ms_3 (by omega)]; all_goals first | rfl | (refine congrArg D.bool ?_; unfold within; first | (rw [decide_eq_false (show ¬ p.n ≤ v.num by omega), Bool.false_and]; done) | (rw [decide_eq_true (show p.n ≤ v.num by omega), Bool.true_and]; done))) | (rw [ms_5a (by omega) (by assumption)]; all_goals rfl) | (rw [ms_5b (by omega) (by simp_all)]; all_goals rfl) | (rw [ms_6 (by omega)]; all_goals rfl) | (rw [hn4 (by omega)]; all_goals rfl))
       ·try simp only [Q, Pat.cs_len] at h6p
        refine Walk.idx (i := 1) sl49 .none rfl rfl rfl rfl (pats_at (by first | (have := (k5 (by omega)).1; omega) | (have := (k6 (by omega)).1; omega))) rfl ?_
        refine evd [] [] ?_
        refine Walk.call (cr := []) cal198 (spec_l3Match_fn n m (k5 (by omega)).2.2 (by have := pnth_size (l := p.kids) (i := 1) (by have := (k5 (by omega)).1; omega); omega)) rfl .none rfl rfl (LeL.refl _) trivial rfl rfl rfl ?_
        refine evd [] [] ?_
        refine dr ?_
        refine rn0 (r2 rfl rfl) (.tup (.cons (.eqd ?_) (.cons (.eqd ?_) .nil)))
        all_goals (first | (rw [ms_1 (by omega)]; all_goals rfl) | (rw [ms_2 (by omega)]; all_goals first | rfl | (simp [encBds, Bd.c]; done)) | (rw [ms_3 (by omega)]; all_goals first | rfl | (refine congrArg D.bool ?_; unfold within; first | (rw [decide_eq_false (show ¬ p.n ≤ v.num by omega), Bool.false_and]; done) | (rw [decide_eq_true (show p.n ≤ v.num by omega), Bool.true_and]; done))) | (rw [ms_5a (by omega) (by assumption)]; all_goals rfl) | (rw [ms_5b (by omega) (by simp_all)]; all_goals rfl) | (rw [ms_6 (by omega)]; all_goals rfl) | (rw [hn4 (by omega)]; all_goals rfl))
      ·try simp only [Q, Pat.cs_len] at h5p
       refine sq (fun h7 h7p h7s => ?_) fun h7 h7p h7s => ?_
       ·try simp only [Q, Pat.cs_len] at h7p
        refine Walk.sliceEmptyG 2 sl61 .none rfl rfl ?_
        refine evd [] [] ?_
        refine Walk.append sl61 zz177 rfl .none rfl rfl rfl rfl (htokL rfl (by first | rfl | (simp; done) | (simp; omega))) (by intro x hx; first | exact bd_rows _ x hx | (simp at hx; subst hx; rfl)) (by simp; omega) (by simp; omega) ?_
        refine evd [] [] ?_
        refine Walk.build st177 (ks := [0, 1]) (xs := [_, _]) rfl rfl .none rfl rfl rfl ?_
        refine Walk.sliceLit sl61 tz177 rfl (by decide) (ks := [0]) (xs := [_]) rfl rfl (by decide) (by decide) .none rfl rfl rfl rfl ?_
        refine Walk.append sl61 zz177 rfl .none rfl rfl rfl rfl (htokL rfl (by first | rfl | (simp; done) | (simp; omega))) (by intro x hx; first | exact bd_rows _ x hx | (simp at hx; subst hx; rfl)) (by simp; omega) (by simp; omega) ?_
        refine evd [] [] ?_
        refine Walk.idx (i := 0) sl49 .none rfl rfl rfl rfl (pats_at (by first | (have := (k5 (by omega)).1; omega) | (have := (k6 (by omega)).1; omega))) rfl ?_
        refine evd [] [] ?_
        refine Walk.call (cr := []) cal198 (hc6 (by omega)) rfl .none rfl rfl (.cons (.gl _ _) (.cons (.refl _) (.cons (.refl _) .nil))) trivial rfl rfl rfl ?_
        refine evd [] [] ?_
        refine dr ?_
        refine rn0 (r2 rfl rfl) (.tup (.cons (.eqd ?_) (.cons (.eqd ?_) .nil)))
        all_goals (first | (rw [ms_1 (by omega)]; all_goals rfl) | (rw [ms_2 (by omega)]; all_goals first | rfl | (simp [encBds, Bd.c]; done)) | (rw [ms_3 (by omega)]; all_goals first | rfl | (refine congrArg D.bool ?_; unfold within; first | (rw [decide_eq_false (show ¬ p.n ≤ v.num by omega), Bool.false_and]; done) | (rw [decide_eq_true (show p.n ≤ v.num by omega), Bool.true_and]; done))) | (rw [ms_5a (by omega) (by assumption)]; all_goals rfl) | (rw [ms_5b (by omega) (by simp_all)]; all_goals rfl) | (rw [ms_6 (by omega)]; all_goals rfl) | (rw [hn4 (by omega)]; all_goals rfl))
       ·try simp only [Q, Pat.cs_len] at h7p
        refine sq (fun h8 h8p h8s => ?_) fun h8 h8p h8s => ?_
        ·try simp only [Q, Pat.cs_len] at h8p
         refine rn0 (r2 rfl rfl) (.tup (.cons (.eqd ?_) (.cons (.eqd ?_) .nil)))
         all_goals (first | (rw [ms_1 (by omega)]; all_goals rfl) | (rw [ms_2 (by omega)]; all_goals first | rfl | (simp [encBds, Bd.c]; done)) | (rw [ms_3 (by omega)]; all_goals first | rfl | (refine congrArg D.bool ?_; unfold within; first | (rw [decide_eq_false (show ¬ p.n ≤ v.num by omega), Bool.false_and]; done) | (rw [decide_eq_true (show p.n ≤ v.num by omega), Bool.true_and]; done))) | (rw [ms_5a (by omega) (by assumption)]; all_goals rfl) | (rw [ms_5b (by omega) (by simp_all)]; all_goals rfl) | (rw [ms_6 (by omega)]; all_goals rfl) | (rw [hn4 (by omega)]; all_goals rfl))
        ·try simp only [Q, Pat.cs_len] at h8p
         exfalso; apply c4; omega --stop
def sortTo (L : List Bd) (m : Nat) : List Bd := (List.range m).flatMap fun (n : Nat) => L.filter fun b => decide (b.var = (n : Int))
def pickTo (L : List Bd) (n i : Nat) : List Bd := (L.take i).filter fun b => decide (b.var = (n : Int))
theorem sortTo_succ (L : List Bd) (m : Nat) : sortTo L (m + 1) = sortTo L m ++ pickTo L m L.length := by
 unfold sortTo pickTo; rw [List.range_succ, List.flatMap_append]; simp
theorem pickTo_0 (L : List Bd) (n : Nat) : pickTo L n 0 = [] := by simp [pickTo]
theorem pickTo_succ {L : List Bd} {n i : Nat} (h : i < L.length) : pickTo L n (i + 1) = pickTo L n i ++ (if (nth L i).var = (n : Int) then [nth L i] else []) := by
 unfold pickTo
 rw [List.take_succ_eq_append_getElem h, List.filter_append]
 congr 1
 rw [← nth_eq h]
 by_cases e : (nth L i).var = (n : Int)
 ·simp [e]
 ·simp [e]
theorem pickTo_yes {L : List Bd} {n i : Nat} (h : i < L.length) (e : (nth L i).var = (n : Int)) : pickTo L n (i + 1) = pickTo L n i ++ [nth L i] := by rw [pickTo_succ h, if_pos e]
theorem pickTo_no {L : List Bd} {n i : Nat} (h : i < L.length) (e : ¬ (nth L i).var = (n : Int)) : pickTo L n (i + 1) = pickTo L n i := by rw [pickTo_succ h, if_neg e, List.append_nil]
theorem pickTo_end {L : List Bd} {n i : Nat} (h : L.length ≤ i) : pickTo L n i = pickTo L n L.length := by
 unfold pickTo; rw [List.take_of_length_le h, List.take_of_length_le (Nat.le_refl _)]
theorem pickTo_len (L : List Bd) (n i : Nat) : (pickTo L n i).length ≤ L.length := by
 unfold pickTo
 have := List.length_filter_le (fun b : Bd => decide (b.var = (n : Int))) (L.take i)
 simp at this; omega
theorem sortTo_len (L : List Bd) : ∀ m, (sortTo L m).length ≤ m * L.length
 | 0 => by simp [sortTo]
 | m + 1 => by
  rw [sortTo_succ, List.length_append, Nat.succ_mul]
  have := sortTo_len L m
  have := pickTo_len L m L.length
  omega
theorem spec_l3Sort_fn {L : List Bd} {m : Nat} (hl : L.length ≤ 1000) (hok : BdOk m L) : FnD Tryz.prog 200 [.d (encBds L)] [] (.d (encBds (sort6 L))) [] := by
 have hs6 : sort6 L = sortTo L 6 := rfl
 rw [hs6]
 refine bd Tryz.f200 36 [] [] fun w0 F0 own kept hk => ?_
 refine Walk.sliceEmptyG 1 sl61 .none rfl rfl ?_
 refine ev ?_
 refine CWp.loopX (ι := Nat) hk (fun n => [(4, .d (.i (n : Int))), (3, .gl 1 ((sortTo L n).map Bd.c))]) [5, 7, 8, 9, 10, 11, 12, 13, 14, 15, 16, 17, 18, 19, 20, 21, 22, 23, 24, 25, 26, 27, 28, 29, 30, 31, 32, 33, 34] (fun n => [(1, some (.tok (((sortTo L n).map Bd.c)).length 4))]) (fun n => n ≤ 6) (fun n => 6 - n) 0 (by omega) ⟨⟨_, rfl, (LeA.eqi (by first | rfl | (rw [sortTo_succ, ← pickTo_end (i := i) (by omega)]; done) | (simp; done) | omega))⟩, ⟨⟨_, rfl, (LeA.glg (by first | rfl | (rw [sortTo_succ, ← pickTo_end (i := i) (by omega)]; done) | (simp; done) | omega))⟩, trivial⟩⟩ ⟨beq_nat_eq (by first | rfl | (simp; done) | (simp; omega) | (first | rfl | (rw [sortTo_succ, ← pickTo_end (i := i) (by omega)]; done) | (simp; done) | omega)), trivial⟩ (fun x => rfl) (fun n hg1 => ?_)
 refine evc [] [] ?_
 refine sq (fun h1 h1p h1s => ?_) fun h1 h1p h1s => ?_
 ·try simp only [Q, Int.natCast_inj] at h1p
  refine CWp.loopX (ι := Nat) hk (fun i => [(5, .d (.i (i : Int))), (3, .gl 1 ((sortTo L n ++ pickTo L n i).map Bd.c))]) [11, 12, 13, 14, 15, 16, 17, 18, 19, 20, 21, 22, 23, 24, 25, 26, 27, 28, 29, 30, 31, 32, 33, 34] (fun i => [(1, some (.tok (((sortTo L n ++ pickTo L n i).map Bd.c)).length 4))]) (fun i => i ≤ L.length) (fun i => L.length - i) 0 (by omega) ⟨⟨_, rfl, (LeA.eqi (by first | rfl | (rw [pickTo_0, List.append_nil]; done) | (rw [pickTo_no (by omega) (by omega)]; done) | (rw [pickTo_yes (by omega) (by omega), ← List.append_assoc, List.map_append, List.map_append]; rw [List.map_append]; congr 1; simp [Bd.c]; omega) | (simp; done) | omega))⟩, ⟨⟨_, rfl, (LeA.glg (by first | rfl | (rw [pickTo_0, List.append_nil]; done) | (rw [pickTo_no (by omega) (by omega)]; done) | (rw [pickTo_yes (by omega) (by omega), ← List.append_assoc, List.map_append, List.map_append]; rw [List.map_append]; congr 1; simp [Bd.c]; omega) | (simp; done) | omega))⟩, trivial⟩⟩ ⟨beq_nat_eq (by first | rfl | (simp; done) | (simp; omega) | (first | rfl | (rw [pickTo_0, List.append_nil]; done) | (rw [pickTo_no (by omega) (by omega)]; done) | (rw [pickTo_yes (by omega) (by omega), ← List.append_assoc, List.map_append, List.map_append]; rw [List.map_append]; congr 1; simp [Bd.c]; omega) | (simp; done) | omega)), trivial⟩ (fun x => rfl) (fun i hg2 => ?_)
  refine evc [] [] ?_
  refine sq (fun h2 h2p h2s => ?_) fun h2 h2p h2s => ?_
  ·try simp only [Q, Int.natCast_inj] at h2p
   refine Walk.idx sl61 .none rfl rfl rfl rfl (at_nth (by omega)) rfl ?_
   refine ev ?_
   refine sq (fun h3 h3p h3s => ?_) fun h3 h3p h3s => ?_
   ·try simp only [Q, Int.natCast_inj] at h3p
    refine Walk.idx sl61 .none rfl rfl rfl rfl (at_nth (by omega)) rfl ?_
    refine ev ?_
    refine Walk.call (cr := []) cal265 (spec_l2Copy_fn _ (Nat.le_refl _) (hok (nth L i) (nth_mem (by omega))).1) rfl .none rfl rfl (LeL.refl _) trivial rfl rfl rfl ?_
    refine Walk.build st177 (ks := [0, 1]) (xs := [_, _]) rfl rfl .none rfl rfl rfl ?_
    refine Walk.sliceLit sl61 tz177 rfl (by decide) (ks := [0]) (xs := [_]) rfl rfl (by decide) (by decide) .none rfl rfl rfl rfl ?_
    refine Walk.append sl61 zz177 rfl .none rfl rfl rfl rfl (htokL rfl (by first | rfl | (simp; done) | (simp; omega))) (by intro x hx; simp at hx; subst hx; rfl) (by have := pickTo_len L n i; have := sortTo_len L n; have := Nat.mul_le_mul (show n ≤ 6 by omega) hl; simp; omega) (by have := pickTo_len L n i; have := sortTo_len L n; have := Nat.mul_le_mul (show n ≤ 6 by omega) hl; simp; omega) ?_
    refine ev ?_
    refine ar ?_
    refine Exists.intro (i + 1) ⟨(by omega), (by omega), Sub.x (by kernel_rfl) (by kernel_rfl) ⟨⟨_, rfl, (LeA.eqi (by first | rfl | (rw [pickTo_0, List.append_nil]; done) | (rw [pickTo_no (by omega) (by omega)]; done) | (rw [pickTo_yes (by omega) (by omega), ← List.append_assoc, List.map_append, List.map_append]; rw [List.map_append]; congr 1; simp [Bd.c]; omega) | (simp; done) | omega))⟩, ⟨⟨_, rfl, (LeA.glg (by first | rfl | (rw [pickTo_0, List.append_nil]; done) | (rw [pickTo_no (by omega) (by omega)]; done) | (rw [pickTo_yes (by omega) (by omega), ← List.append_assoc, List.map_append, List.map_append]; rw [List.map_append]; congr 1; simp [Bd.c]; omega) | (simp; done) | omega))⟩, trivial⟩⟩ (by kernel_rfl) (by kernel_rfl) ⟨beq_nat_eq (by first | rfl | (simp; done) | (simp; omega) | (first | rfl | (rw [pickTo_0, List.append_nil]; done) | (rw [pickTo_no (by omega) (by omega)]; done) | (rw [pickTo_yes (by omega) (by omega), ← List.append_assoc, List.map_append, List.map_append]; rw [List.map_append]; congr 1; simp [Bd.c]; omega) | (simp; done) | omega)), trivial⟩⟩
   ·try simp only [Q, Int.natCast_inj] at h3p
    refine ar ?_
    refine Exists.intro (i + 1) ⟨(by omega), (by omega), Sub.x (by kernel_rfl) (by kernel_rfl) ⟨⟨_, rfl, (LeA.eqi (by first | rfl | (rw [pickTo_0, List.append_nil]; done) | (rw [pickTo_no (by omega) (by omega)]; done) | (rw [pickTo_yes (by omega) (by omega), ← List.append_assoc, List.map_append, List.map_append]; rw [List.map_append]; congr 1; simp [Bd.c]; omega) | (simp; done) | omega))⟩, ⟨⟨_, rfl, (LeA.glg (by first | rfl | (rw [pickTo_0, List.append_nil]; done) | (rw [pickTo_no (by omega) (by omega)]; done) | (rw [pickTo_yes (by omega) (by omega), ← List.append_assoc, List.map_append, List.map_append]; rw [List.map_append]; congr 1; simp [Bd.c]; omega) | (simp; done) | omega))⟩, trivial⟩⟩ (by kernel_rfl) (by kernel_rfl) ⟨beq_nat_eq (by first | rfl | (simp; done) | (simp; omega) | (first | rfl | (rw [pickTo_0, List.append_nil]; done) | (rw [pickTo_no (by omega) (by omega)]; done) | (rw [pickTo_yes (by omega) (by omega), ← List.append_assoc, List.map_append, List.map_append]; rw [List.map_append]; congr 1; simp [Bd.c]; omega) | (simp; done) | omega)), trivial⟩⟩
  ·try simp only [Q, Int.natCast_inj] at h2p
   refine ar ?_
   refine Exists.intro (n + 1) ⟨(by omega), (by omega), Sub.x (by kernel_rfl) (by kernel_rfl) ⟨⟨_, rfl, (LeA.eqi (by first | rfl | (rw [sortTo_succ, ← pickTo_end (i := i) (by omega)]; done) | (simp; done) | omega))⟩, ⟨⟨_, rfl, (LeA.glg (by first | rfl | (rw [sortTo_succ, ← pickTo_end (i := i) (by omega)]; done) | (simp; done) | omega))⟩, trivial⟩⟩ (by kernel_rfl) (by kernel_rfl) ⟨beq_nat_eq (by first | rfl | (simp; done) | (simp; omega) | (first | rfl | (rw [sortTo_succ, ← pickTo_end (i := i) (by omega)]; done) | (simp; done) | omega)), trivial⟩⟩
 ·try simp only [Q, Int.natCast_inj] at h1p
  refine rn0 (r1 rfl) (.gld ?_)
  all_goals (first | rfl | (rw [show n = 6 by omega]; done) | (obtain rfl : n = 6 := (by omega); rfl))
def RunOk (w : List Data) (t : Ty) (l : List Cl) (v : Val) : Prop := ∀ i, i < l.length → MatchOk w 10 10 t (nth l i).pat v ∧ isP w t (nth l i).pat = true
theorem match_nod {w : List Data} {m : Nat} {t : Ty} {p : Pat} {v : Val} (h : MatchOk w 10 m t p v) (hp : isP w t p = true) (hm : (matchV 10 p v).2 = true) : ((matchV 10 p v).1.map Bd.var).Nodup ∧ ∀ b ∈ (matchV 10 p v).1, 0 ≤ b.var ∧ b.var ≤ 5 := by
 have hp' := hp
 unfold isP at hp
 simp only [Bool.and_eq_true] at hp
 have k := match_vars 10 m h hp.2.2 hm
 refine ⟨k.nod, fun b hb => ?_⟩
 have e := (scanP_eq w 10 t p 0).1
 have hw : wantP w 10 t p 0 = true := by
  unfold wantP; rw [hp.1, hp.2.2]; have := of_decide_eq_true hp.2.1; simp; omega
 rw [if_pos hw] at e
 have := scanP_in w 10 t p 0 _ e
 obtain ⟨x, hx, ex⟩ := List.mem_map.1 (k.sub b.var (List.mem_map.2 ⟨b, hb, rfl⟩))
 have h3 := this.1 x hx
 rw [← ex]; exact h3
theorem runAt_eq {w : List Data} {m : Nat} {t : Ty} {c : Cl} {v : Val} (h : MatchOk w 10 m t c.pat v) (hp : isP w t c.pat = true) : runAt c v = ((matchedV 10 c.pat v).2 && gdHold c.g (matchedV 10 c.pat v).1) := by
 unfold runAt matchedV
 cases hm : (matchV 10 c.pat v).2 with
 | false => rfl
 | true =>
  rw [if_pos rfl, Bool.true_and, Bool.true_and]
  exact (hold_perm (sortB_perm _) (match_nod h hp hm).1).symm
theorem matched_sort {p : Pat} {v : Val} (h : (matchedV 10 p v).2 = true) : (matchedV 10 p v).1 = sortB (matchV 10 p v).1 := by
 rw [matchedV_ok] at h
 unfold matchedV; rw [if_pos h]
theorem matched_len {w : List Data} {m : Nat} {t : Ty} {p : Pat} {v : Val} (h : MatchOk w 10 m t p v) (hp : isP w t p = true) : (matchedV 10 p v).1.length ≤ 6 := by
 unfold matchedV
 split
 ·rename_i hm; rw [sortB_len]; exact match_six h hp hm
 ·simp
theorem runS_eq {w : List Data} {m : Nat} {t : Ty} {c : Cl} {v : Val} (h : MatchOk w 10 m t c.pat v) : runAt c v = ((matchS 10 [] c.pat v).2 && gdHold c.g (matchS 10 [] c.pat v).1) := by
 unfold runAt
 obtain ⟨h1, h2⟩ := matchS_eq 10 [] c.pat v
 rw [h1]
 cases hm : (matchV 10 c.pat v).2 with
 | false => rfl
 | true => rw [h2 hm, List.nil_append]
theorem matchS_sort {w : List Data} {m : Nat} {t : Ty} {p : Pat} {v : Val} (h : MatchOk w 10 m t p v) (hp : isP w t p = true) (hm : (matchS 10 [] p v).2 = true) : sort6 (matchS 10 [] p v).1 = sortB (matchV 10 p v).1 := by
 obtain ⟨h1, h2⟩ := matchS_eq 10 [] p v
 rw [h1] at hm
 rw [h2 hm, List.nil_append]
 exact sort6_eq (match_nod h hp hm).1 (match_nod h hp hm).2
theorem impl_run_fn {w : List Data} {t : Ty} {l : List Cl} {v : Val} (hl : l.length ≤ 1000000000000) (hr : RunOk w t l v) :
  FnD Tryz.prog 121 [.d (encCls l), .agg [.d (.i v.ctor), .d (.i v.num), .d (encVals v.kids)]] [] (.tup [.d (.i (runV l v 0).1), .d (encBds (runV l v 0).2)]) [] := by
 have hhit := fun (i : Nat) (hi : i < l.length) (h : ((matchedV 10 (nth l i).pat v).2 && gdHold (nth l i).g (matchedV 10 (nth l i).pat v).1) = true) => runV_hit (v := v) hi (by rw [runAt_eq (hr i hi).1 (hr i hi).2]; exact h)
 have hnext := fun (i : Nat) (hi : i < l.length) (h : ((matchedV 10 (nth l i).pat v).2 && gdHold (nth l i).g (matchedV 10 (nth l i).pat v).1) = false) => runV_next (v := v) hi (by rw [runAt_eq (hr i hi).1 (hr i hi).2]; exact h)
 have hms := fun (i : Nat) => matched_sort (p := (nth l i).pat) (v := v)
 refine bd Tryz.f121 34 [] [] fun w0 F0 own kept hk => ?_
 refine Walk.box (id := 3003) .none rfl rfl rfl rfl rfl rfl rfl ?_
 refine ev ?_
 refine CWp.loopX (ι := Nat) hk (fun i => [(12, .d (.i (i : Int)))]) [4, 5, 6, 7, 8, 9, 13, 14, 15, 16, 17, 18, 19, 20, 21, 22, 23, 24, 25, 26, 27, 28, 29, 30, 31, 32, 33] (fun i => []) (fun i => i ≤ l.length ∧ runV (l.drop i) v (i : Int) = runV l v 0) (fun i => l.length - i) 0 ⟨by omega, rfl⟩ ⟨⟨_, rfl, (LeA.eqi (by first | rfl | (simp; done) | (simp_all; done) | omega))⟩, trivial⟩ trivial (fun x => rfl) (fun i hg1 => ?_)
 refine evc [] [] ?_
 refine sq (fun h1 h1p h1s => ?_) fun h1 h1p h1s => ?_
 ·try simp only [Q, Int.natCast_inj] at h1p
  refine Walk.idx sl44 .none rfl rfl rfl rfl (at_nth (by omega)) rfl ?_
  refine ev ?_
  refine Walk.alloc (id := 3007) tz135 rfl .none rfl rfl rfl rfl ?_
  refine ev ?_
  refine Walk.store ty135 .none rfl rfl rfl rfl rfl rfl (by simp) rfl ?_
  refine tv ?_
  refine Walk.call (cr := []) cal104 (impl_matched_fn (hr i (by omega)).1 (hr i (by omega)).2) rfl .none rfl rfl (LeL.refl _) trivial rfl rfl rfl ?_
  refine ev ?_
  refine sq (fun h2 h2p h2s => ?_) fun h2 h2p h2s => ?_
  ·try simp only [Q, Int.natCast_inj] at h2p
   refine Walk.call (cr := []) cal201 (impl_GuardHolds_fn (g := (nth l i).g) (by have := matched_len (hr i (by omega)).1 (hr i (by omega)).2; omega)) rfl (.some rfl rfl h2) rfl rfl (LeL.refl _) trivial rfl rfl rfl ?_
   refine evs [] [(25, true)] ?_ ⟨⟨_, rfl, h2⟩, trivial⟩
   refine sq (fun h3 h3p h3s => ?_) fun h3 h3p h3s => ?_
   ·try simp only [Q, Int.natCast_inj] at h3p
    refine rn0 (r2 rfl rfl) (.tup (.cons (.eqd ?_) (.cons (.eqd ?_) .nil)))
    all_goals (first | (rw [← hg1.2, hhit i (by omega) (by simp_all)]; all_goals rfl) | (rw [← hg1.2, hhit i (by omega) (by simp_all), ← hms i (by simp_all)]; done) | (rw [← hg1.2, runV_end (by omega)]; all_goals rfl))
   ·try simp only [Q, Int.natCast_inj] at h3p
    refine ar ?_
    refine Exists.intro (i + 1) ⟨⟨by omega, by rw [← hnext i (by omega) (by simp_all)]; exact hg1.2⟩, (by omega), Sub.x (by kernel_rfl) (by kernel_rfl) ⟨⟨_, rfl, (LeA.eqi (by first | rfl | (simp; done) | (simp_all; done) | omega))⟩, trivial⟩ (by kernel_rfl) (by kernel_rfl) trivial⟩
  ·try simp only [Q, Int.natCast_inj] at h2p
   refine sqF ?_
   refine ar ?_
   refine Exists.intro (i + 1) ⟨⟨by omega, by rw [← hnext i (by omega) (by simp_all)]; exact hg1.2⟩, (by omega), Sub.x (by kernel_rfl) (by kernel_rfl) ⟨⟨_, rfl, (LeA.eqi (by first | rfl | (simp; done) | (simp_all; done) | omega))⟩, trivial⟩ (by kernel_rfl) (by kernel_rfl) trivial⟩
 ·try simp only [Q, Int.natCast_inj] at h1p
  refine rn0 (r2 rfl rfl) (.tup (.cons (.eqd ?_) (.cons (.nild ?_) .nil)))
  all_goals (first | (rw [← hg1.2, hhit i (by omega) (by simp_all)]; all_goals rfl) | (rw [← hg1.2, hhit i (by omega) (by simp_all), ← hms i (by simp_all)]; done) | (rw [← hg1.2, runV_end (by omega)]; all_goals rfl))
theorem spec_l4Run_fn {w : List Data} {t : Ty} {l : List Cl} {v : Val} (hl : l.length ≤ 1000000000000) (hr : RunOk w t l v) :
  FnD Tryz.prog 120 [.d (encCls l), .agg [.d (.i v.ctor), .d (.i v.num), .d (encVals v.kids)]] [] (.tup [.d (.i (runV l v 0).1), .d (encBds (runV l v 0).2)]) [] := by
 have hhit := fun (i : Nat) (hi : i < l.length) (h : ((matchS 10 [] (nth l i).pat v).2 && gdHold (nth l i).g (matchS 10 [] (nth l i).pat v).1) = true) => runV_hit (v := v) hi (by rw [runS_eq (hr i hi).1]; exact h)
 have hnext := fun (i : Nat) (hi : i < l.length) (h : ((matchS 10 [] (nth l i).pat v).2 && gdHold (nth l i).g (matchS 10 [] (nth l i).pat v).1) = false) => runV_next (v := v) hi (by rw [runS_eq (hr i hi).1]; exact h)
 have hms := fun (i : Nat) (hi : i < l.length) => matchS_sort (hr i hi).1 (hr i hi).2
 have hlen := fun (i : Nat) (hi : i < l.length) => matchS_len 10 [] v (hr i hi).1.shape
 have hbok := fun (i : Nat) (hi : i < l.length) (h : (matchS 10 [] (nth l i).pat v).2 = true) => show BdOk v.size (matchS 10 [] (nth l i).pat v).1 by
  obtain ⟨h1, h2⟩ := matchS_eq 10 [] (nth l i).pat v
  rw [h1] at h
  rw [h2 h]
  exact (matchV_ok 10 (hr i hi).1.shape (hr i hi).1.vok).1
 have hpsz := fun (i : Nat) (hi : i < l.length) => (hr i hi).1.psz
 refine bd Tryz.f120 39 [] [] fun w0 F0 own kept hk => ?_
 refine Walk.box (id := 3003) .none rfl rfl rfl rfl rfl rfl rfl ?_
 refine ev ?_
 refine CWp.loopX (ι := Nat) hk (fun i => [(6, .d (.i (i : Int)))]) [4, 5, 7, 8, 9, 10, 11, 12, 13, 14, 15, 16, 17, 18, 19, 20, 21, 22, 23, 24, 25, 26, 27, 28, 29, 30, 31, 32, 33, 34, 35, 36, 37] (fun i => []) (fun i => i ≤ l.length ∧ runV (l.drop i) v (i : Int) = runV l v 0) (fun i => l.length - i) 0 ⟨by omega, rfl⟩ ⟨⟨_, rfl, (LeA.eqi (by first | rfl | (simp; done) | (simp_all; done) | omega))⟩, trivial⟩ trivial (fun x => rfl) (fun i hg1 => ?_)
 refine evc [] [] ?_
 refine sq (fun h1 h1p h1s => ?_) fun h1 h1p h1s => ?_
 ·try simp only [Q, Int.natCast_inj] at h1p
  refine Walk.idx sl44 .none rfl rfl rfl rfl (at_nth (by omega)) rfl ?_
  refine evd [] [] ?_
  refine Walk.call (cr := []) cal198 (spec_l3Match_fn 10 10 (out := []) (hr i (by omega)).1 (by have := hpsz i (by omega); simp; omega)) rfl .none rfl rfl (.cons .nil (.cons (.refl _) (.cons (.refl _) .nil))) trivial rfl rfl rfl ?_
  refine evd [] [] ?_
  refine dr ?_
  refine sq (fun h2 h2p h2s => ?_) fun h2 h2p h2s => ?_
  ·try simp only [Q, Int.natCast_inj] at h2p
   refine Walk.idx sl44 (.some rfl rfl h2) rfl rfl rfl rfl (at_nth (by omega)) rfl ?_
   refine evs [] [(26, true)] ?_ ⟨⟨_, rfl, h2⟩, trivial⟩
   refine Walk.call (cr := []) cal199 (spec_GuardHolds_fn (g := (nth l i).g) (by have := hlen i (by omega); have := hpsz i (by omega); simp at *; omega)) rfl (.some rfl rfl h2) rfl rfl (LeL.refl _) trivial rfl rfl rfl ?_
   refine evs [] [(26, true)] ?_ ⟨⟨_, rfl, h2⟩, trivial⟩
   refine sq (fun h3 h3p h3s => ?_) fun h3 h3p h3s => ?_
   ·try simp only [Q, Int.natCast_inj] at h3p
    refine Walk.call (cr := []) cal200 (spec_l3Sort_fn (by have := hlen i (by omega); have := hpsz i (by omega); simp at *; omega) (hbok i (by omega) (by simp_all))) rfl .none rfl rfl (LeL.refl _) trivial rfl rfl rfl ?_
    refine ev ?_
    refine rn0 (r2 rfl rfl) (.tup (.cons (.eqd ?_) (.cons (.eqd ?_) .nil)))
    all_goals (first | (rw [← hg1.2, hhit i (by omega) (by simp_all)]; all_goals rfl) | (rw [← hg1.2, hhit i (by omega) (by simp_all), hms i (by omega) (by simp_all)]; done) | (rw [← hg1.2, runV_end (by omega)]; all_goals rfl))
   ·try simp only [Q, Int.natCast_inj] at h3p
    refine ar ?_
    refine Exists.intro (i + 1) ⟨⟨by omega, by rw [← hnext i (by omega) (by simp_all)]; exact hg1.2⟩, (by omega), Sub.x (by kernel_rfl) (by kernel_rfl) ⟨⟨_, rfl, (LeA.eqi (by first | rfl | (simp; done) | (simp_all; done) | omega))⟩, trivial⟩ (by kernel_rfl) (by kernel_rfl) trivial⟩
  ·try simp only [Q, Int.natCast_inj] at h2p
   refine sqF ?_
   refine ar ?_
   refine Exists.intro (i + 1) ⟨⟨by omega, by rw [← hnext i (by omega) (by simp_all)]; exact hg1.2⟩, (by omega), Sub.x (by kernel_rfl) (by kernel_rfl) ⟨⟨_, rfl, (LeA.eqi (by first | rfl | (simp; done) | (simp_all; done) | omega))⟩, trivial⟩ (by kernel_rfl) (by kernel_rfl) trivial⟩
 ·try simp only [Q, Int.natCast_inj] at h1p
  refine Walk.sliceEmpty sl61 .none rfl ?_
  refine ev ?_
  refine rn0 (r2 rfl rfl) (.tup (.cons (.eqd ?_) (.cons (.eqd ?_) .nil)))
  all_goals (first | (rw [← hg1.2, hhit i (by omega) (by simp_all)]; all_goals rfl) | (rw [← hg1.2, hhit i (by omega) (by simp_all), hms i (by omega) (by simp_all)]; done) | (rw [← hg1.2, runV_end (by omega)]; all_goals rfl))
abbrev intC (n : Int) : List D := [D.i n]
def iOne (k : Int) (_ : Int) : Int := k
def iSz (_ : Int) : Int := 1
theorem szL_ints : ∀ l : List Int, szL iSz l = l.length
 | [] => rfl
 | x :: r => by simp only [szL, szL_ints r, iSz, List.length_cons]; omega
theorem iSz_nn : ∀ x, 0 ≤ iSz x := fun _ => by unfold iSz; omega
theorem flatR_ints (l : List Int) : FlatR (l.map intC) := by
 intro x hx y hy
 obtain ⟨t, _, rfl⟩ := List.mem_map.1 hx
 simp only [List.mem_singleton] at hy
 subst hy; rfl
theorem laws_eqIntS_fn {l m : List Int} (h : l.length ≤ 1000000000000) : FnD Tryz.prog 52 [.d (encInts l), .d (encInts m)] [] (.d (.bool (decide (l = m)))) [] := by
 refine bd Tryz.f52 26 [] [] fun w0 F0 own kept hk => ?_
 refine sq (fun h1 h1p h1s => ?_) fun h1 h1p h1s => ?_
 ·try simp only [Q, Int.natCast_inj] at h1p
  refine rn0 (r1 rfl) (.eqd ?_)
  all_goals (refine congrArg D.bool ?_; first | (refine (decide_eq_false (fun e => ?_)).symm; subst e; omega) | (refine (decide_eq_false (fun e => ?_)).symm; subst e; simp_all; done) | (refine (decide_eq_true (ext_nth (by omega) (fun x hx => hg1.2 x (by omega)))).symm))
 ·try simp only [Q, Int.natCast_inj] at h1p
  refine CWp.loopX (ι := Nat) hk (fun i => [(5, .d (.i (i : Int)))]) [4, 11, 12, 13, 14, 15, 16, 17, 18, 19, 20, 21, 22, 23, 24, 25] (fun i => []) (fun i => i ≤ l.length ∧ ∀ i', i' < i → nth l i' = nth m i') (fun i => l.length - i) 0 ⟨by omega, fun _ h => absurd h (by omega)⟩ ⟨⟨_, rfl, (LeA.eqi (by first | rfl | (simp; done) | (simp_all; done) | omega))⟩, trivial⟩ trivial (fun x => rfl) (fun i hg1 => ?_)
  refine evc [] [] ?_
  refine sq (fun h2 h2p h2s => ?_) fun h2 h2p h2s => ?_
  ·try simp only [Q, Int.natCast_inj] at h2p
   refine Walk.idx sl54 .none rfl rfl rfl rfl (at_nth (by omega)) rfl ?_
   refine evd [] [] ?_
   refine Walk.idx sl54 .none rfl rfl rfl rfl (at_nth (by omega)) rfl ?_
   refine evd [] [] ?_
   refine dr ?_
   refine sq (fun h3 h3p h3s => ?_) fun h3 h3p h3s => ?_
   ·try simp only [Q, Int.natCast_inj] at h3p
    refine rn0 (r1 rfl) (.eqd ?_)
    all_goals (refine congrArg D.bool ?_; first | (refine (decide_eq_false (fun e => ?_)).symm; subst e; omega) | (refine (decide_eq_false (fun e => ?_)).symm; subst e; simp_all; done) | (refine (decide_eq_true (ext_nth (by omega) (fun x hx => hg1.2 x (by omega)))).symm))
   ·try simp only [Q, Int.natCast_inj] at h3p
    refine ar ?_
    refine Exists.intro (i + 1) ⟨⟨by omega, upto_succ hg1.2 (by simp_all)⟩, (by omega), Sub.x (by kernel_rfl) (by kernel_rfl) ⟨⟨_, rfl, (LeA.eqi (by first | rfl | (simp; done) | (simp_all; done) | omega))⟩, trivial⟩ (by kernel_rfl) (by kernel_rfl) trivial⟩
  ·try simp only [Q, Int.natCast_inj] at h2p
   refine rn0 (r1 rfl) (.eqd ?_)
   all_goals (refine congrArg D.bool ?_; first | (refine (decide_eq_false (fun e => ?_)).symm; subst e; omega) | (refine (decide_eq_false (fun e => ?_)).symm; subst e; simp_all; done) | (refine (decide_eq_true (ext_nth (by omega) (fun x hx => hg1.2 x (by omega)))).symm))
theorem laws_markIntS_tr {m : Bool} {l : List Int} {k : Int} (h0 : 0 ≤ k) (h1 : k + l.length ≤ 1000000000000) : FnD Tryz.prog 55 [.ms 47 l.length, .d (.i k)] [(47, some (.tree (ownCells m (l.map intC))))]
  (.d (.i (k + l.length))) [(47, some (.tree (ownCells m ((mkL iOne iSz k l).map intC))))] := by
 have hsz := szL_ints l
 refine bd Tryz.f55 19 [] [] fun w0 F0 own kept hk => ?_
 refine CWp.loopX (ι := List (Int) × List (Int) × (Int)) hk (fun x => [(5, .d (.i (x.1.length : Int))), (1, .d (.i x.2.2))]) [6, 7, 8, 9, 10, 11, 12, 13, 14, 15, 16, 17] (fun x => [(47, some (.tree (ownCells m ((mkL iOne iSz k x.1).map intC) ++ ownCells m (x.2.1.map intC))))]) (fun x => x.1 ++ x.2.1 = l ∧ x.2.2 = k + szL iSz x.1) (fun x => x.2.1.length) ([], l, k) ⟨by simp, by simp [szL]⟩ ⟨⟨_, rfl, (LeA.eqi (by first | rfl | (simp; done) | omega))⟩, ⟨⟨_, rfl, (LeA.eqi (by first | rfl | (simp; done) | omega))⟩, trivial⟩⟩ ⟨(by first | rfl | (show some (Res.tree _) = some (Res.tree _); rw [mkL_snoc, List.map_append, List.map_singleton, ← own_next, hg1.2]; rfl)), trivial⟩ (fun x => rfl) (fun x hg1 => ?_)
 obtain ⟨pre, rest, v⟩ := x
 dsimp only at hg1 ⊢
 refine evc [] [] ?_
 refine sq (fun h1 h1p h1s => ?_) fun h1 h1p h1s => ?_
 ·try simp only [Q] at h1p
  rcases rest with _ | ⟨y, rest⟩
  ·exfalso; simp_all
  have hsp := szL_split (sz := iSz) hg1.1; have hnn := szL_nonneg (l := rest) iSz_nn; have hnp := szL_nonneg (l := pre) iSz_nn; have hys : iSz y = 1 := rfl; have hv := hg1.2
  refine Walk.idxM sl54 .none rfl rfl rfl rfl (by first | omega | (simp ; omega)) ?_
  refine Walk.storeT ty3 .none rfl rfl rfl rfl rfl rfl (by simp) ((putC_off0 (mkL_own_len (kk := 1) m (by intro x; rfl)) putC_c0)) ?_
  refine tv ?_
  refine ar ?_
  refine ar ?_
  refine Exists.intro ((pre ++ [y], rest, v + 1)) ⟨⟨(by have hz := hg1.1; rw [← hz]; simp), (by show v + 1 = _; rw [szL_snoc, hg1.2]; unfold iSz; omega)⟩, (by simp), Sub.x (by kernel_rfl) (by kernel_rfl) ⟨⟨_, rfl, (LeA.eqi (by first | rfl | (simp; done) | omega))⟩, ⟨⟨_, rfl, (LeA.eqi (by first | rfl | (simp; done) | omega))⟩, trivial⟩⟩ (by kernel_rfl) (by kernel_rfl) ⟨(by first | rfl | (show some (Res.tree _) = some (Res.tree _); rw [mkL_snoc, List.map_append, List.map_singleton, ← own_next, hg1.2]; rfl)), trivial⟩⟩
 ·try simp only [Q] at h1p
  have hrest : rest = [] := by
   rcases rest with _ | ⟨a, b⟩
   ·rfl
   ·exfalso; have hz := congrArg List.length (hg1.1); simp only [List.length_append, List.length_cons, List.length_map] at hz; omega
  subst hrest
  refine rn [(47, some (.tree (ownCells m ((mkL iOne iSz k l).map intC))))] (r1 rfl) (.eqd ?_) ⟨rfl, rfl⟩ (SubO.get ⟨.inr (by first | rfl | (obtain ⟨hg1, _⟩ := hg1; rw [List.append_nil] at hg1; subst hg1; show some (Res.tree _) = some (Res.tree _); simp [ownCells_nil]; done)), ⟨.inl rfl, trivial⟩⟩) (boxOK rfl)
  all_goals (first | rfl | (obtain ⟨hg1, hv⟩ := hg1; rw [List.append_nil] at hg1; subst hg1; rw [hv, hsz]))
theorem laws_heldIntS_fn {l : List Int} {k : Int} (h0 : 0 ≤ k) (h1 : k + l.length ≤ 1000000000000) : FnD Tryz.prog 56 [.d (encInts (mkL iOne iSz k l)), .d (.i k)] [] (.d (.i (k + l.length))) [] := by
 have hsz := szL_ints l
 refine bd Tryz.f56 21 [] [] fun w0 F0 own kept hk => ?_
 refine CWp.loopX (ι := List (Int) × List (Int) × (Int)) hk (fun x => [(5, .d (.i (x.1.length : Int))), (1, .d (.i x.2.2))]) [4, 6, 7, 8, 9, 10, 11, 12, 13, 14, 15, 16, 17, 18, 19] (fun x => []) (fun x => x.1 ++ x.2.1 = l ∧ x.2.2 = k + szL iSz x.1) (fun x => x.2.1.length) ([], l, k) ⟨by simp, by simp [szL]⟩ ⟨⟨_, rfl, (LeA.eqi (by first | rfl | (simp; done) | omega))⟩, ⟨⟨_, rfl, (LeA.eqi (by first | rfl | (simp; done) | omega))⟩, trivial⟩⟩ trivial (fun x => rfl) (fun x hg1 => ?_)
 obtain ⟨pre, rest, v⟩ := x
 dsimp only at hg1 ⊢
 refine evc [] [] ?_
 refine sq (fun h1 h1p h1s => ?_) fun h1 h1p h1s => ?_
 ·try simp only [Q, mkL_len] at h1p
  rcases rest with _ | ⟨y, rest⟩
  ·exfalso; simp_all
  have hsp := szL_split (sz := iSz) hg1.1; have hnn := szL_nonneg (l := rest) iSz_nn; have hnp := szL_nonneg (l := pre) iSz_nn; have hys : iSz y = 1 := rfl; have hv := hg1.2
  refine Walk.idx sl54 .none rfl rfl rfl rfl (mkL_at hg1.1) rfl ?_
  refine ev ?_
  refine sq (fun h2 h2p h2s => ?_) fun h2 h2p h2s => ?_
  ·try simp only [Q, mkL_len] at h2p
   exfalso; have hv := hg1.2; revert h2; simp [iOne, hv] --stop
  ·try simp only [Q, mkL_len] at h2p
   refine ar ?_
   refine ar ?_
   refine Exists.intro ((pre ++ [y], rest, v + 1)) ⟨⟨(by have hz := hg1.1; rw [← hz]; simp), (by show v + 1 = _; rw [szL_snoc, hg1.2]; unfold iSz; omega)⟩, (by simp), Sub.x (by kernel_rfl) (by kernel_rfl) ⟨⟨_, rfl, (LeA.eqi (by first | rfl | (simp; done) | omega))⟩, ⟨⟨_, rfl, (LeA.eqi (by first | rfl | (simp; done) | omega))⟩, trivial⟩⟩ (by kernel_rfl) (by kernel_rfl) trivial⟩
 ·try simp only [Q, mkL_len] at h1p
  have hrest : rest = [] := by
   rcases rest with _ | ⟨a, b⟩
   ·rfl
   ·exfalso; have hz := congrArg List.length (hg1.1); simp only [List.length_append, List.length_cons, List.length_map] at hz; omega
  subst hrest
  refine rn0 (r1 rfl) (.eqd ?_)
  all_goals (first | rfl | (obtain ⟨hg1, hv⟩ := hg1; rw [List.append_nil] at hg1; subst hg1; rw [hv, hsz]))
section
variable {c : Ctx} {all : Array Oper} {chk : List Rec → Prop} {os : List Oper} {recs : List Rec} {env : Env} {hp : Hp} {Q : St → Prop}
variable {ty d : Nat} {pos : String} {af : Array Edge} {g : Option (Nat × Bool)} {pg : List (Nat × AV)} {t : TypeId} {x y : Operand}
theorem Walk.idxV {len e : Nat} {cs : List AV} {v : AV} {kd : IntKind} {n : Int} {i : Nat} (ht : ArT c.P t len e 1) (hk : TyS c.P e 1 false) (hg : GH all env g pg) (hd : Nat.blt d c.n = true)
  (hx : opd env x = some (.agg cs)) (hy : opd env y = some (.d (.int kd n))) (hi : n = ↑i) (hlt : i < len) (hv : cs[i]? = some v)
  (hn : Walk c all chk os (mkRec (pg ++ (opF x (.agg cs) ++ opF y (.d (.int kd n)))) [] [] ⟨some (d, v), []⟩ :: recs) ⟨(d, v) :: env, hp⟩ Q) :
  Walk c all chk (⟨some d, .index t x y, ty, pos, af, g⟩ :: os) recs ⟨env, hp⟩ Q := by
 refine Walk.pure2 hg hd hx hy (fun a G T w h1 h2 => ?_) hn
 obtain ⟨hi', hv'⟩ := List.getElem?_eq_some_iff.1 hv
 obtain ⟨vs, he, hs, h⟩ := h1.agg_eq
 have hb := h i hi' (by omega)
 rw [hv'] at hb
 refine ⟨vs[i]'(by omega), ?_, hb⟩
 have hc : (0 : Int) ≤ (i : Int) ∧ (i : Int) < (len : Int) := by omega
 have hg2 : vs[i]? = some (vs[i]'(by omega)) := Array.getElem?_eq_getElem (by omega)
 simp only [execOp, he, h2.int_eq, hi, Instr.index, asIntOf, Sem.run_bind, Sem.run_pure, Result.andThen_ok, run_underlying ht.und, hc, if_true, and_self, Int.toNat_natCast, hk.run_size, Nat.mul_one, part, hk.run_agg]
 simp only [Bool.false_eq_true, if_false, hg2, Sem.run_pure, Result.andThen_ok]
end
theorem LeA.eqa {cs ds : List AV} (h : cs = ds) : LeA (.agg cs) (.agg ds) := h ▸ .refl _
def covF (l : List Cl) (vs : List Val) (i : Nat) (j : Nat) : Bool := (vs.take i).any fun v => decide ((runV l v 0).1 = (j : Int))
def covTo (f : Nat → Bool) : Nat → List Int
 | 0 => []
 | m + 1 => covTo f m ++ (if f m then [((m : Nat) : Int)] else [])
def covB (f : Nat → Bool) (b : Int) (j : Nat) : Bool := f j || decide (b = (j : Int))
def coverV (w : List Data) (t : Ty) (l : List Cl) (vs : List Val) : List Int := if clsValid w t l = true ∧ vs.all (isV w t) = true then covTo (covF l vs vs.length) 8 else []
def tabB (n : Nat) (f : Nat → Bool) : List AV := (List.range n).map fun s => .d (.bool (f s))
theorem covTo_len (f : Nat → Bool) : ∀ m, (covTo f m).length ≤ m
 | 0 => by simp [covTo]
 | m + 1 => by
  have := covTo_len f m
  simp only [covTo, List.length_append]
  split <;> simp <;> omega
theorem covTo_yes {f : Nat → Bool} {m : Nat} (h : f m = true) : covTo f (m + 1) = covTo f m ++ [(m : Int)] := by simp [covTo, h]
theorem covTo_no {f : Nat → Bool} {m : Nat} (h : f m = false) : covTo f (m + 1) = covTo f m := by simp [covTo, h]
theorem covTo_end {f : Nat → Bool} {n : Nat} (h : ∀ j, n ≤ j → f j = false) : ∀ m, covTo f (n + m) = covTo f n
 | 0 => rfl
 | m + 1 => by rw [← Nat.add_assoc, covTo_no (h _ (by omega)), covTo_end h m]
theorem covF_0 (l : List Cl) (vs : List Val) : covF l vs 0 = fun _ => false := by funext j; simp [covF]
theorem covF_at {l : List Cl} {vs : List Val} {i : Nat} (h : i < vs.length) : covF l vs (i + 1) = covB (covF l vs i) (runV l (nth vs i) 0).1 := by
 funext j
 unfold covF covB
 have e : vs[i]? = some (nth vs i) := by simpa using at_nth (f := id) h
 rw [List.take_add_one, e, List.any_append]
 simp
theorem covB_neg {f : Nat → Bool} {b : Int} (h : b < 0) : covB f b = f := by
 funext j; unfold covB; rw [decide_eq_false (by omega), Bool.or_false]
theorem covF_out {l : List Cl} {vs : List Val} {i j : Nat} (h : l.length ≤ j) : covF l vs i j = false := by
 unfold covF
 rw [List.any_eq_false]
 intro v _ hv
 have := of_decide_eq_true hv
 rcases runV_lt (v := v) l 0 with h1 | h1 <;> omega
theorem tabB_at {n i : Nat} {f : Nat → Bool} (h : i < n) : (tabB n f)[i]? = some (.d (.bool (f i))) := by simp [tabB, h]
theorem tabB_put {n o : Nat} {f : Nat → Bool} {b : Int} (eo : o = b.toNat) (h0 : 0 ≤ b) (h : b.toNat < n) : putC (tabB n f) o [.d (.bool true)] = some (tabB n (covB f b)) := by
 subst eo
 rw [putC_at (by simp [tabB, h])]
 congr 1
 refine List.ext_getElem (by simp [tabB]) (fun j h1 h2 => ?_)
 rw [List.getElem_set]
 simp only [tabB, List.getElem_map, List.getElem_range, covB]
 by_cases hj : b.toNat = j
 ·rw [if_pos hj, decide_eq_true (by omega), Bool.or_true]
 ·rw [if_neg hj, decide_eq_false (by omega), Bool.or_false]
theorem tabB_get {n i o : Nat} {f : Nat → Bool} (h : i < n) (e : o = i) : (tabB n f)[o]? = some (.d (.bool (f i))) := by subst e; exact tabB_at h
theorem zerosB_snoc : ∀ n : Nat, zerosA (n + 1) [AV.d (.bool false)] = zerosA n [AV.d (.bool false)] ++ [AV.d (.bool false)]
 | 0 => rfl
 | n + 1 => congrArg (AV.d (.bool false) :: ·) (zerosB_snoc n)
theorem zeros_tabB (n : Nat) : zerosA n [AV.d (.bool false)] = tabB n fun _ => false := by
 unfold tabB
 induction n with
 | zero => rfl
 | succ n ih => rw [zerosB_snoc, ih, List.range_succ, List.map_append]; rfl
theorem tabB_ids {n : Nat} {f : Nat → Bool} : AV.idsL (tabB n f) = [] := by
 unfold tabB
 induction List.range n with
 | nil => rfl
 | cons x r ih => rw [List.map_cons, AV.idsL, ih]; rfl
theorem cls_run {w : List Data} {a k : Int} {l : List Cl} {v : Val} (h : clsValid w ⟨a, k⟩ l = true) (hl : ClsOk l) (hv : v.ok) (h2 : isV w ⟨a, k⟩ v = true) : RunOk w ⟨a, k⟩ l v := by
 intro i hi
 unfold clsValid at h
 simp only [Bool.and_eq_true, Bool.not_eq_true', List.any_eq_false, Bool.not_eq_true] at h
 have h3 := h.2.2 _ (nth_mem hi)
 have h4 : clOk w ⟨a, k⟩ (nth l i) = true := by simpa using h3
 unfold clOk at h4
 rw [Bool.and_eq_true] at h4
 exact ⟨match_ok h4.1 h2 (hl.2 _ (nth_mem hi)) hv, h4.1⟩
theorem clsV_tv {w : List Data} {a k : Int} {l : List Cl} (h : clsValid w ⟨a, k⟩ l = true) : typeValid w ⟨a, k⟩ = true ∧ l.length ≤ 8 := by
 unfold clsValid at h
 simp only [Bool.and_eq_true, decide_eq_true_eq] at h
 exact ⟨h.1, by omega⟩
theorem runV_ge {l : List Cl} {v : Val} (h : 0 ≤ (runV l v 0).1) : (runV l v 0).1 < l.length := by rcases runV_lt (v := v) l 0 with h1 | h1 <;> omega
theorem cov_bad {w : List Data} {t : Ty} {l : List Cl} {vs : List Val} {i : Nat} (hi : i < vs.length) (h : isV w t (nth vs i) = false) : coverV w t l vs = [] := by
 unfold coverV
 rw [if_neg]
 rintro ⟨_, h2⟩
 have := (List.all_eq_true.1 h2) _ (nth_mem hi)
 rw [h] at this; cases this
theorem cov_inv {w : List Data} {t : Ty} {l : List Cl} {vs : List Val} (h : clsValid w t l = false) : coverV w t l vs = [] := by
 unfold coverV; rw [if_neg (by rw [h]; simp)]
theorem cov_good {w : List Data} {t : Ty} {l : List Cl} {vs : List Val} (h : clsValid w t l = true) (h2 : ∀ i, i < vs.length → isV w t (nth vs i) = true) : coverV w t l vs = covTo (covF l vs vs.length) 8 := by
 unfold coverV
 rw [if_pos ⟨h, List.all_eq_true.2 fun x hx => by
  obtain ⟨i, hi, rfl⟩ := List.getElem_of_mem hx
  have := h2 i hi
  have e : vs[i]? = some (nth vs i) := by simpa using at_nth (f := id) hi
  rw [List.getElem?_eq_getElem hi] at e
  rw [Option.some.inj e]; exact this⟩]
theorem cov_len {l : List Cl} {vs : List Val} {i : Nat} (h : l.length ≤ 8) : covTo (covF l vs i) l.length = covTo (covF l vs i) 8 := by
 have := covTo_end (f := covF l vs i) (n := l.length) (fun j hj => covF_out hj) (8 - l.length)
 rw [show l.length + (8 - l.length) = 8 by omega] at this
 exact this.symm
theorem impl_CoveredClauses_fn {w : List Data} (hs : WSmall w) {a k : Int} {l : List Cl} (hl : ClsOk l) {vs : List Val} (hb : vs.length ≤ 1000000000000) (hv : Vals.ok vs) :
  FnD Tryz.prog 51 [.d (encDatas w), .agg [.d (.i a), .d (.i k)], .d (encCls l), .d (encVals vs)] [] (.d (encInts (coverV w ⟨a, k⟩ l vs))) [] := by
 have hcv := impl_ClausesValid_fn hs (a := a) (k := k) hl
 have hok := fun (i : Nat) (hi : i < vs.length) => Vals.ok_mem hv _ (nth_mem hi)
 have h8 := fun (h : clsValid w ⟨a, k⟩ l = true) => (clsV_tv h).2
 have hge := fun (v : Val) => runV_ge (l := l) (v := v)
 refine bd Tryz.f51 56 [14] [] fun w0 F0 own kept hk => ?_
 refine Walk.box (id := 3005) .none rfl rfl rfl (by first | rfl | (simp only [freshB, occH, occE, Res.ids, List.cons_append, List.nil_append, AV.idsL, AV.ids, idsL_append, ownCells_ids, zerosA_idsR, repNil, List.map_cons, List.map_nil, upC, tabB_ids]; rfl)) (by first | rfl | (simp only [freshB, occH, occE, Res.ids, List.cons_append, List.nil_append, AV.idsL, AV.ids, idsL_append, ownCells_ids, zerosA_idsR, repNil, List.map_cons, List.map_nil, upC, tabB_ids]; rfl)) (by first | rfl | (simp only [freshB, occH, occE, Res.ids, List.cons_append, List.nil_append, AV.idsL, AV.ids, idsL_append, ownCells_ids, zerosA_idsR, repNil, List.map_cons, List.map_nil, upC, tabB_ids]; rfl)) (by first | rfl | (simp only [freshB, occH, occE, Res.ids, List.cons_append, List.nil_append, AV.idsL, AV.ids, idsL_append, ownCells_ids, zerosA_idsR, repNil, List.map_cons, List.map_nil, upC, tabB_ids]; rfl)) ?_
 refine evs [14] [] ?_
 refine Walk.call (cr := []) cal80 (hcv) rfl .none rfl rfl (LeL.refl _) trivial rfl (by first | rfl | (simp only [okCall, List.all_cons, List.all_nil, entOK, entOK', AV.idsL, AV.ids, idsL_append, ownCells_ids, List.map_cons, List.map_nil, tabB_ids]; rfl)) (by first | rfl | (simp only [freshB, occH, occE, Res.ids, List.cons_append, List.nil_append, AV.idsL, AV.ids, idsL_append, ownCells_ids, zerosA_idsR, repNil, List.map_cons, List.map_nil, upC, tabB_ids]; rfl)) ?_
 refine evs [14] [] ?_
 refine sq (fun h1 h1p h1s => ?_) fun h1 h1p h1s => ?_
 ·try simp only [Q, Int.natCast_inj, Val.cs_len] at h1p
  refine rn0 (r1 rfl) (.nild ?_)
  all_goals (first | (rw [cov_inv (by assumption)]; rfl) | (rw [cov_bad (i := i) (by omega) (by assumption)]; rfl) | (rw [cov_good (by assumption) (fun x hx => hg1.2 x (by omega))]; have e : j = 8 := (by omega); rw [e]; all_goals rfl))
 ·try simp only [Q, Int.natCast_inj, Val.cs_len] at h1p
  refine Walk.alloc (id := 3009) tz173 rfl .none rfl (by first | rfl | (simp only [freshB, occH, occE, Res.ids, List.cons_append, List.nil_append, AV.idsL, AV.ids, idsL_append, ownCells_ids, zerosA_idsR, repNil, List.map_cons, List.map_nil, upC, tabB_ids]; rfl)) (by first | rfl | (simp only [freshB, occH, occE, Res.ids, List.cons_append, List.nil_append, AV.idsL, AV.ids, idsL_append, ownCells_ids, zerosA_idsR, repNil, List.map_cons, List.map_nil, upC, tabB_ids]; rfl)) (by first | rfl | (simp only [freshB, occH, occE, Res.ids, List.cons_append, List.nil_append, AV.idsL, AV.ids, idsL_append, ownCells_ids, zerosA_idsR, repNil, List.map_cons, List.map_nil, upC, tabB_ids]; rfl)) ?_
  refine tv ?_
  refine CWp.loopX (ι := Nat) hk (fun i => [(24, .d (.i (i : Int)))]) [8, 11, 12, 13, 25, 26, 27, 28, 29, 30, 31, 32, 33, 34, 35, 36, 37, 38, 39, 40, 41, 42, 43] (fun i => [(3009, some (.box (tabB 8 (covF l vs i))))]) (fun i => i ≤ vs.length ∧ ∀ i', i' < i → isV w ⟨a, k⟩ (nth vs i') = true) (fun i => vs.length - i) 0 ⟨by omega, fun _ h => absurd h (by omega)⟩ ⟨⟨_, rfl, (LeA.eqi (by first | rfl | (simp; done) | (simp_all; done) | omega))⟩, trivial⟩ ⟨(by first | rfl | (show some (Res.box _) = some (Res.box _); rw [covF_0]; all_goals rfl) | (show some (Res.box _) = some (Res.box _); rw [covF_at (by omega)]; all_goals rfl) | (show some (Res.box _) = some (Res.box _); rw [covF_at (by omega), covB_neg (by omega)]; all_goals rfl)), trivial⟩ (fun x => rfl) (fun i hg1 => ?_)
  refine evc [14] [] ?_
  refine sq (fun h2 h2p h2s => ?_) fun h2 h2p h2s => ?_
  ·try simp only [Q, Int.natCast_inj, Val.cs_len] at h2p
   refine Walk.idx sl58 .none rfl rfl rfl rfl (vals_at (by omega)) rfl ?_
   refine evs [14] [] ?_
   refine Walk.alloc (id := 3011) tz65 rfl .none rfl (by first | rfl | (simp only [freshB, occH, occE, Res.ids, List.cons_append, List.nil_append, AV.idsL, AV.ids, idsL_append, ownCells_ids, zerosA_idsR, repNil, List.map_cons, List.map_nil, upC, tabB_ids]; rfl)) (by first | rfl | (simp only [freshB, occH, occE, Res.ids, List.cons_append, List.nil_append, AV.idsL, AV.ids, idsL_append, ownCells_ids, zerosA_idsR, repNil, List.map_cons, List.map_nil, upC, tabB_ids]; rfl)) (by first | rfl | (simp only [freshB, occH, occE, Res.ids, List.cons_append, List.nil_append, AV.idsL, AV.ids, idsL_append, ownCells_ids, zerosA_idsR, repNil, List.map_cons, List.map_nil, upC, tabB_ids]; rfl)) ?_
   refine Walk.store ty65 .none rfl rfl rfl rfl rfl rfl (by simp) rfl ?_
   refine tv ?_
   refine Walk.call (cr := []) cal103 (impl_valueOk_fn (valid_wt hs (tv_facts (clsV_tv (l := l) (a := a) (k := k) (by assumption)).1).1) (tv_facts (clsV_tv (l := l) (a := a) (k := k) (by assumption)).1).2.1 (hok i (by omega))) rfl .none rfl rfl (LeL.refl _) trivial rfl (by first | rfl | (simp only [okCall, List.all_cons, List.all_nil, entOK, entOK', AV.idsL, AV.ids, idsL_append, ownCells_ids, List.map_cons, List.map_nil, tabB_ids]; rfl)) (by first | rfl | (simp only [freshB, occH, occE, Res.ids, List.cons_append, List.nil_append, AV.idsL, AV.ids, idsL_append, ownCells_ids, zerosA_idsR, repNil, List.map_cons, List.map_nil, upC, tabB_ids]; rfl)) ?_
   refine evs [14] [] ?_
   refine sq (fun h3 h3p h3s => ?_) fun h3 h3p h3s => ?_
   ·try simp only [Q, Int.natCast_inj, Val.cs_len] at h3p
    refine rn0 (r1 rfl) (.nild ?_)
    all_goals (first | (rw [cov_inv (by assumption)]; rfl) | (rw [cov_bad (i := i) (by omega) (by assumption)]; rfl) | (rw [cov_good (by assumption) (fun x hx => hg1.2 x (by omega))]; have e : j = 8 := (by omega); rw [e]; all_goals rfl))
   ·try simp only [Q, Int.natCast_inj, Val.cs_len] at h3p
    refine Walk.call (cr := []) cal121 (impl_run_fn (v := nth vs i) hl.1 (cls_run (a := a) (k := k) (by assumption) hl (hok i (by omega)) (by assumption))) rfl .none rfl rfl (LeL.refl _) trivial rfl (by first | rfl | (simp only [okCall, List.all_cons, List.all_nil, entOK, entOK', AV.idsL, AV.ids, idsL_append, ownCells_ids, List.map_cons, List.map_nil, tabB_ids]; rfl)) (by first | rfl | (simp only [freshB, occH, occE, Res.ids, List.cons_append, List.nil_append, AV.idsL, AV.ids, idsL_append, ownCells_ids, zerosA_idsR, repNil, List.map_cons, List.map_nil, upC, tabB_ids]; rfl)) ?_
    refine evs [14] [] ?_
    refine sq (fun h4 h4p h4s => ?_) fun h4 h4p h4s => ?_
    ·try simp only [Q, Int.natCast_inj, Val.cs_len] at h4p
     refine Walk.idxA (i := (runV l (nth vs i) 0).1.toNat) ar173 .none rfl rfl rfl (Int.toNat_of_nonneg (by omega)).symm (by have := hge (nth vs i); have := (clsV_tv (l := l) (a := a) (k := k) (by assumption)).2; omega) ?_
     refine Walk.store ty4 .none rfl rfl rfl rfl rfl rfl (by simp) ((tabB_put (b := (runV l (nth vs i) 0).1) (by simp; done) (by omega) (by have := hge (nth vs i); have := (clsV_tv (l := l) (a := a) (k := k) (by assumption)).2; omega))) ?_
     refine tv ?_
     refine ar ?_
     refine Exists.intro (i + 1) ⟨⟨by omega, upto_succ hg1.2 (by assumption)⟩, (by omega), Sub.x (by kernel_rfl) (by kernel_rfl) ⟨⟨_, rfl, (LeA.eqi (by first | rfl | (simp; done) | (simp_all; done) | omega))⟩, trivial⟩ (by kernel_rfl) (by kernel_rfl) ⟨(by first | rfl | (show some (Res.box _) = some (Res.box _); rw [covF_0]; all_goals rfl) | (show some (Res.box _) = some (Res.box _); rw [covF_at (by omega)]; all_goals rfl) | (show some (Res.box _) = some (Res.box _); rw [covF_at (by omega), covB_neg (by omega)]; all_goals rfl)), trivial⟩⟩
    ·try simp only [Q, Int.natCast_inj, Val.cs_len] at h4p
     refine ar ?_
     refine Exists.intro (i + 1) ⟨⟨by omega, upto_succ hg1.2 (by assumption)⟩, (by omega), Sub.x (by kernel_rfl) (by kernel_rfl) ⟨⟨_, rfl, (LeA.eqi (by first | rfl | (simp; done) | (simp_all; done) | omega))⟩, trivial⟩ (by kernel_rfl) (by kernel_rfl) ⟨(by first | rfl | (show some (Res.box _) = some (Res.box _); rw [covF_0]; all_goals rfl) | (show some (Res.box _) = some (Res.box _); rw [covF_at (by omega)]; all_goals rfl) | (show some (Res.box _) = some (Res.box _); rw [covF_at (by omega), covB_neg (by omega)]; all_goals rfl)), trivial⟩⟩
  ·try simp only [Q, Int.natCast_inj, Val.cs_len] at h2p
   refine Walk.assignNil 1 1 .none rfl rfl ?_
   refine tv ?_
   refine CWp.loopX (ι := Nat) hk (fun j => [(45, .d (.i (j : Int))), (44, .agg (tabB 8 (covF l vs vs.length))), (14, .gl 1 ((covTo (covF l vs vs.length) j).map fun n => [D.i n]))]) [15, 16, 46, 47, 48, 49, 50, 51, 52, 53, 54] (fun j => [(1, some (.tok (((covTo (covF l vs vs.length) j).map fun n => [D.i n])).length 1))]) (fun j => j ≤ 8) (fun j => 8 - j) 0 (by omega) ⟨⟨_, rfl, (LeA.eqi (by first | rfl | (rw [show vs.length = i by omega]; all_goals rfl) | (simp; done) | (rw [covTo_yes (by assumption)]; simp; done) | (rw [covTo_no (by assumption)]; done) | omega))⟩, ⟨⟨_, rfl, (LeA.eqa (by first | rfl | (rw [show vs.length = i by omega]; all_goals rfl) | (simp; done) | (rw [covTo_yes (by assumption)]; simp; done) | (rw [covTo_no (by assumption)]; done) | omega))⟩, ⟨⟨_, rfl, (LeA.glg (by first | rfl | (rw [show vs.length = i by omega]; all_goals rfl) | (simp; done) | (rw [covTo_yes (by assumption)]; simp; done) | (rw [covTo_no (by assumption)]; done) | omega))⟩, trivial⟩⟩⟩ ⟨beq_nat_eq (by first | rfl | (simp; done) | (simp; omega) | (first | rfl | (rw [show vs.length = i by omega]; all_goals rfl) | (simp; done) | (rw [covTo_yes (by assumption)]; simp; done) | (rw [covTo_no (by assumption)]; done) | omega)), trivial⟩ (fun x => rfl) (fun j hg2 => ?_)
   refine evc [14] [] ?_
   refine sq (fun h5 h5p h5s => ?_) fun h5 h5p h5s => ?_
   ·try simp only [Q, Int.natCast_inj, Val.cs_len] at h5p
    refine Walk.idxV (i := j) ar173 ty4 .none rfl rfl rfl rfl (by have := hge (nth vs i); have := (clsV_tv (l := l) (a := a) (k := k) (by assumption)).2; omega) (tabB_at (by omega)) ?_
    refine evs [14] [] ?_
    refine sq (fun h6 h6p h6s => ?_) fun h6 h6p h6s => ?_
    ·try simp only [Q, Int.natCast_inj, Val.cs_len] at h6p
     refine Walk.sliceLit sl54 tz3 rfl (by decide) (ks := [0]) (xs := [_]) rfl rfl (by decide) (by decide) .none rfl rfl rfl rfl ?_
     refine Walk.append sl54 zz3 rfl .none rfl rfl rfl rfl (htokL rfl (by first | rfl | (simp; done) | (simp; omega))) (by simp) (by have := covTo_len (covF l vs vs.length) j; simp; omega) (by have := covTo_len (covF l vs vs.length) j; simp; omega) ?_
     refine asg ?_
     refine tv ?_
     refine ar ?_
     refine Exists.intro (j + 1) ⟨(by omega), (by omega), Sub.x (by kernel_rfl) (by kernel_rfl) ⟨⟨_, rfl, (LeA.eqi (by first | rfl | (rw [show vs.length = i by omega]; all_goals rfl) | (simp; done) | (rw [covTo_yes (by assumption)]; simp; done) | (rw [covTo_no (by assumption)]; done) | omega))⟩, ⟨⟨_, rfl, (LeA.eqa (by first | rfl | (rw [show vs.length = i by omega]; all_goals rfl) | (simp; done) | (rw [covTo_yes (by assumption)]; simp; done) | (rw [covTo_no (by assumption)]; done) | omega))⟩, ⟨⟨_, rfl, (LeA.glg (by first | rfl | (rw [show vs.length = i by omega]; all_goals rfl) | (simp; done) | (rw [covTo_yes (by assumption)]; simp; done) | (rw [covTo_no (by assumption)]; done) | omega))⟩, trivial⟩⟩⟩ (by kernel_rfl) (by kernel_rfl) ⟨beq_nat_eq (by first | rfl | (simp; done) | (simp; omega) | (first | rfl | (rw [show vs.length = i by omega]; all_goals rfl) | (simp; done) | (rw [covTo_yes (by assumption)]; simp; done) | (rw [covTo_no (by assumption)]; done) | omega)), trivial⟩⟩
    ·try simp only [Q, Int.natCast_inj, Val.cs_len] at h6p
     refine ar ?_
     refine Exists.intro (j + 1) ⟨(by omega), (by omega), Sub.x (by kernel_rfl) (by kernel_rfl) ⟨⟨_, rfl, (LeA.eqi (by first | rfl | (rw [show vs.length = i by omega]; all_goals rfl) | (simp; done) | (rw [covTo_yes (by assumption)]; simp; done) | (rw [covTo_no (by assumption)]; done) | omega))⟩, ⟨⟨_, rfl, (LeA.eqa (by first | rfl | (rw [show vs.length = i by omega]; all_goals rfl) | (simp; done) | (rw [covTo_yes (by assumption)]; simp; done) | (rw [covTo_no (by assumption)]; done) | omega))⟩, ⟨⟨_, rfl, (LeA.glg (by first | rfl | (rw [show vs.length = i by omega]; all_goals rfl) | (simp; done) | (rw [covTo_yes (by assumption)]; simp; done) | (rw [covTo_no (by assumption)]; done) | omega))⟩, trivial⟩⟩⟩ (by kernel_rfl) (by kernel_rfl) ⟨beq_nat_eq (by first | rfl | (simp; done) | (simp; omega) | (first | rfl | (rw [show vs.length = i by omega]; all_goals rfl) | (simp; done) | (rw [covTo_yes (by assumption)]; simp; done) | (rw [covTo_no (by assumption)]; done) | omega)), trivial⟩⟩
   ·try simp only [Q, Int.natCast_inj, Val.cs_len] at h5p
    refine rn0 (r1 rfl) (.gld ?_)
    all_goals (first | (rw [cov_inv (by assumption)]; rfl) | (rw [cov_bad (i := i) (by omega) (by assumption)]; rfl) | (rw [cov_good (by assumption) (fun x hx => hg1.2 x (by omega))]; have e : j = 8 := (by omega); rw [e]; all_goals rfl))
theorem impl_CoveredClauses_own {w : List Data} (hs : WSmall w) {a k : Int} {l : List Cl} (hl : ClsOk l) {vs : List Val} (hb : vs.length ≤ 1000000000000) (hv : Vals.ok vs) (hcl : clsValid w ⟨a, k⟩ l = true) (hall : ∀ i, i < vs.length → isV w ⟨a, k⟩ (nth vs i) = true) (hne : covTo (covF l vs vs.length) 8 ≠ []) :
  FnD Tryz.prog 51 [.d (encDatas w), .agg [.d (.i a), .d (.i k)], .d (encCls l), .d (encVals vs)] [] (.ms 1 (covTo (covF l vs vs.length) 8).length) [(1, some (.tree (ownCells true ((covTo (covF l vs vs.length) 8).map intC))))] := by
 have hcv := impl_ClausesValid_fn hs (a := a) (k := k) hl
 have hok := fun (i : Nat) (hi : i < vs.length) => Vals.ok_mem hv _ (nth_mem hi)
 have h8 := fun (h : clsValid w ⟨a, k⟩ l = true) => (clsV_tv h).2
 have hge := fun (v : Val) => runV_ge (l := l) (v := v)
 refine bd Tryz.f51 56 [14] [20] fun w0 F0 own kept hk => ?_
 refine Walk.box (id := 3005) .none rfl rfl rfl (by first | rfl | (simp only [freshB, occH, occE, Res.ids, List.cons_append, List.nil_append, AV.idsL, AV.ids, idsL_append, ownCells_ids, zerosA_idsR, repNil, List.map_cons, List.map_nil, upC, tabB_ids]; rfl)) (by first | rfl | (simp only [freshB, occH, occE, Res.ids, List.cons_append, List.nil_append, AV.idsL, AV.ids, idsL_append, ownCells_ids, zerosA_idsR, repNil, List.map_cons, List.map_nil, upC, tabB_ids]; rfl)) (by first | rfl | (simp only [freshB, occH, occE, Res.ids, List.cons_append, List.nil_append, AV.idsL, AV.ids, idsL_append, ownCells_ids, zerosA_idsR, repNil, List.map_cons, List.map_nil, upC, tabB_ids]; rfl)) (by first | rfl | (simp only [freshB, occH, occE, Res.ids, List.cons_append, List.nil_append, AV.idsL, AV.ids, idsL_append, ownCells_ids, zerosA_idsR, repNil, List.map_cons, List.map_nil, upC, tabB_ids]; rfl)) ?_
 refine evs [14] [] ?_
 refine Walk.call (cr := []) cal80 (hcv) rfl .none rfl rfl (LeL.refl _) trivial rfl (by first | rfl | (simp only [okCall, List.all_cons, List.all_nil, entOK, entOK', AV.idsL, AV.ids, idsL_append, ownCells_ids, List.map_cons, List.map_nil, tabB_ids]; rfl)) (by first | rfl | (simp only [freshB, occH, occE, Res.ids, List.cons_append, List.nil_append, AV.idsL, AV.ids, idsL_append, ownCells_ids, zerosA_idsR, repNil, List.map_cons, List.map_nil, upC, tabB_ids]; rfl)) ?_
 refine evs [14] [] ?_
 refine sq (fun h1 h1p h1s => ?_) fun h1 h1p h1s => ?_
 ·try simp only [Q, Int.natCast_inj, Val.cs_len] at h1p
  exfalso; rw [hcl] at h1; exact absurd h1 (by simp) --stop
 ·try simp only [Q, Int.natCast_inj, Val.cs_len] at h1p
  refine Walk.alloc (id := 3009) tz173 rfl .none rfl (by first | rfl | (simp only [freshB, occH, occE, Res.ids, List.cons_append, List.nil_append, AV.idsL, AV.ids, idsL_append, ownCells_ids, zerosA_idsR, repNil, List.map_cons, List.map_nil, upC, tabB_ids]; rfl)) (by first | rfl | (simp only [freshB, occH, occE, Res.ids, List.cons_append, List.nil_append, AV.idsL, AV.ids, idsL_append, ownCells_ids, zerosA_idsR, repNil, List.map_cons, List.map_nil, upC, tabB_ids]; rfl)) (by first | rfl | (simp only [freshB, occH, occE, Res.ids, List.cons_append, List.nil_append, AV.idsL, AV.ids, idsL_append, ownCells_ids, zerosA_idsR, repNil, List.map_cons, List.map_nil, upC, tabB_ids]; rfl)) ?_
  refine tv ?_
  refine CWp.loopX (ι := Nat) hk (fun i => [(24, .d (.i (i : Int)))]) [8, 11, 12, 13, 25, 26, 27, 28, 29, 30, 31, 32, 33, 34, 35, 36, 37, 38, 39, 40, 41, 42, 43] (fun i => [(3009, some (.box (tabB 8 (covF l vs i))))]) (fun i => i ≤ vs.length ∧ ∀ i', i' < i → isV w ⟨a, k⟩ (nth vs i') = true) (fun i => vs.length - i) 0 ⟨by omega, fun _ h => absurd h (by omega)⟩ ⟨⟨_, rfl, (LeA.eqi (by first | rfl | (simp; done) | (simp_all; done) | omega))⟩, trivial⟩ ⟨(by first | rfl | (show some (Res.box _) = some (Res.box _); rw [covF_0]; all_goals rfl) | (show some (Res.box _) = some (Res.box _); rw [covF_at (by omega)]; all_goals rfl) | (show some (Res.box _) = some (Res.box _); rw [covF_at (by omega), covB_neg (by omega)]; all_goals rfl)), trivial⟩ (fun x => rfl) (fun i hg1 => ?_)
  refine evc [14] [20] ?_
  refine sq (fun h2 h2p h2s => ?_) fun h2 h2p h2s => ?_
  ·try simp only [Q, Int.natCast_inj, Val.cs_len] at h2p
   refine Walk.idx sl58 .none rfl rfl rfl rfl (vals_at (by omega)) rfl ?_
   refine evs [14] [] ?_
   refine Walk.alloc (id := 3011) tz65 rfl .none rfl (by first | rfl | (simp only [freshB, occH, occE, Res.ids, List.cons_append, List.nil_append, AV.idsL, AV.ids, idsL_append, ownCells_ids, zerosA_idsR, repNil, List.map_cons, List.map_nil, upC, tabB_ids]; rfl)) (by first | rfl | (simp only [freshB, occH, occE, Res.ids, List.cons_append, List.nil_append, AV.idsL, AV.ids, idsL_append, ownCells_ids, zerosA_idsR, repNil, List.map_cons, List.map_nil, upC, tabB_ids]; rfl)) (by first | rfl | (simp only [freshB, occH, occE, Res.ids, List.cons_append, List.nil_append, AV.idsL, AV.ids, idsL_append, ownCells_ids, zerosA_idsR, repNil, List.map_cons, List.map_nil, upC, tabB_ids]; rfl)) ?_
   refine Walk.store ty65 .none rfl rfl rfl rfl rfl rfl (by simp) rfl ?_
   refine tv ?_
   refine Walk.call (cr := []) cal103 (impl_valueOk_fn (valid_wt hs (tv_facts (clsV_tv (l := l) (a := a) (k := k) (by assumption)).1).1) (tv_facts (clsV_tv (l := l) (a := a) (k := k) (by assumption)).1).2.1 (hok i (by omega))) rfl .none rfl rfl (LeL.refl _) trivial rfl (by first | rfl | (simp only [okCall, List.all_cons, List.all_nil, entOK, entOK', AV.idsL, AV.ids, idsL_append, ownCells_ids, List.map_cons, List.map_nil, tabB_ids]; rfl)) (by first | rfl | (simp only [freshB, occH, occE, Res.ids, List.cons_append, List.nil_append, AV.idsL, AV.ids, idsL_append, ownCells_ids, zerosA_idsR, repNil, List.map_cons, List.map_nil, upC, tabB_ids]; rfl)) ?_
   refine evs [14] [] ?_
   refine sq (fun h3 h3p h3s => ?_) fun h3 h3p h3s => ?_
   ·try simp only [Q, Int.natCast_inj, Val.cs_len] at h3p
    exfalso; rw [hall _ (by omega)] at h3; exact absurd h3 (by simp) --stop
   ·try simp only [Q, Int.natCast_inj, Val.cs_len] at h3p
    refine Walk.call (cr := []) cal121 (impl_run_fn (v := nth vs i) hl.1 (cls_run (a := a) (k := k) (by assumption) hl (hok i (by omega)) (by assumption))) rfl .none rfl rfl (LeL.refl _) trivial rfl (by first | rfl | (simp only [okCall, List.all_cons, List.all_nil, entOK, entOK', AV.idsL, AV.ids, idsL_append, ownCells_ids, List.map_cons, List.map_nil, tabB_ids]; rfl)) (by first | rfl | (simp only [freshB, occH, occE, Res.ids, List.cons_append, List.nil_append, AV.idsL, AV.ids, idsL_append, ownCells_ids, zerosA_idsR, repNil, List.map_cons, List.map_nil, upC, tabB_ids]; rfl)) ?_
    refine evs [14] [] ?_
    refine sq (fun h4 h4p h4s => ?_) fun h4 h4p h4s => ?_
    ·try simp only [Q, Int.natCast_inj, Val.cs_len] at h4p
     refine Walk.idxA (i := (runV l (nth vs i) 0).1.toNat) ar173 .none rfl rfl rfl (Int.toNat_of_nonneg (by omega)).symm (by have := hge (nth vs i); have := (clsV_tv (l := l) (a := a) (k := k) (by assumption)).2; omega) ?_
     refine Walk.store ty4 .none rfl rfl rfl rfl rfl rfl (by simp) ((tabB_put (b := (runV l (nth vs i) 0).1) (by simp; done) (by omega) (by have := hge (nth vs i); have := (clsV_tv (l := l) (a := a) (k := k) (by assumption)).2; omega))) ?_
     refine tv ?_
     refine ar ?_
     refine Exists.intro (i + 1) ⟨⟨by omega, upto_succ hg1.2 (by assumption)⟩, (by omega), Sub.x (by kernel_rfl) (by kernel_rfl) ⟨⟨_, rfl, (LeA.eqi (by first | rfl | (simp; done) | (simp_all; done) | omega))⟩, trivial⟩ (by kernel_rfl) (by kernel_rfl) ⟨(by first | rfl | (show some (Res.box _) = some (Res.box _); rw [covF_0]; all_goals rfl) | (show some (Res.box _) = some (Res.box _); rw [covF_at (by omega)]; all_goals rfl) | (show some (Res.box _) = some (Res.box _); rw [covF_at (by omega), covB_neg (by omega)]; all_goals rfl)), trivial⟩⟩
    ·try simp only [Q, Int.natCast_inj, Val.cs_len] at h4p
     refine ar ?_
     refine Exists.intro (i + 1) ⟨⟨by omega, upto_succ hg1.2 (by assumption)⟩, (by omega), Sub.x (by kernel_rfl) (by kernel_rfl) ⟨⟨_, rfl, (LeA.eqi (by first | rfl | (simp; done) | (simp_all; done) | omega))⟩, trivial⟩ (by kernel_rfl) (by kernel_rfl) ⟨(by first | rfl | (show some (Res.box _) = some (Res.box _); rw [covF_0]; all_goals rfl) | (show some (Res.box _) = some (Res.box _); rw [covF_at (by omega)]; all_goals rfl) | (show some (Res.box _) = some (Res.box _); rw [covF_at (by omega), covB_neg (by omega)]; all_goals rfl)), trivial⟩⟩
  ·try simp only [Q, Int.natCast_inj, Val.cs_len] at h2p
   refine Walk.assignNilV 1 1 .none rfl rfl ?_
   refine tv ?_
   refine CWp.loopX (ι := Nat) hk (fun j => [(45, .d (.i (j : Int))), (44, .agg (tabB 8 (covF l vs vs.length))), (14, .gv 1 ((covTo (covF l vs vs.length) j).map intC))]) [15, 16, 46, 47, 48, 49, 50, 51, 52, 53, 54] (fun j => [(1, some (.tok (((covTo (covF l vs vs.length) j).map intC)).length 1))]) (fun j => j ≤ 8) (fun j => 8 - j) 0 (by omega) ⟨⟨_, rfl, (LeA.eqi (by first | rfl | (rw [show vs.length = i by omega]; all_goals rfl) | (simp; done) | (rw [covTo_yes (by assumption)]; simp; done) | (rw [covTo_no (by assumption)]; done) | omega))⟩, ⟨⟨_, rfl, (LeA.eqa (by first | rfl | (rw [show vs.length = i by omega]; all_goals rfl) | (simp; done) | (rw [covTo_yes (by assumption)]; simp; done) | (rw [covTo_no (by assumption)]; done) | omega))⟩, ⟨⟨_, rfl, (LeA.gvg (by first | rfl | (rw [show vs.length = i by omega]; all_goals rfl) | (simp; done) | (rw [covTo_yes (by assumption)]; simp; done) | (rw [covTo_no (by assumption)]; done) | omega))⟩, trivial⟩⟩⟩ ⟨beq_nat_eq (by first | rfl | (simp; done) | (simp; omega) | (first | rfl | (rw [show vs.length = i by omega]; all_goals rfl) | (simp; done) | (rw [covTo_yes (by assumption)]; simp; done) | (rw [covTo_no (by assumption)]; done) | omega)), trivial⟩ (fun x => rfl) (fun j hg2 => ?_)
   refine evc [14] [20] ?_
   refine sq (fun h5 h5p h5s => ?_) fun h5 h5p h5s => ?_
   ·try simp only [Q, Int.natCast_inj, Val.cs_len] at h5p
    refine Walk.idxV (i := j) ar173 ty4 .none rfl rfl rfl rfl (by have := hge (nth vs i); have := (clsV_tv (l := l) (a := a) (k := k) (by assumption)).2; omega) (tabB_at (by omega)) ?_
    refine evs [14] [] ?_
    refine sq (fun h6 h6p h6s => ?_) fun h6 h6p h6s => ?_
    ·try simp only [Q, Int.natCast_inj, Val.cs_len] at h6p
     refine Walk.sliceLit sl54 tz3 rfl (by decide) (ks := [0]) (xs := [_]) rfl rfl (by decide) (by decide) .none rfl rfl rfl rfl ?_
     refine Walk.appendV sl54 zz3 .none rfl rfl rfl rfl (htokL rfl (by first | rfl | (simp; done) | (simp; omega))) (by simp) (by have := covTo_len (covF l vs vs.length) j; simp; omega) (by have := covTo_len (covF l vs vs.length) j; simp; omega) ?_
     refine asg ?_
     refine tv ?_
     refine ar ?_
     refine Exists.intro (j + 1) ⟨(by omega), (by omega), Sub.x (by kernel_rfl) (by kernel_rfl) ⟨⟨_, rfl, (LeA.eqi (by first | rfl | (rw [show vs.length = i by omega]; all_goals rfl) | (simp; done) | (rw [covTo_yes (by assumption)]; simp; done) | (rw [covTo_no (by assumption)]; done) | omega))⟩, ⟨⟨_, rfl, (LeA.eqa (by first | rfl | (rw [show vs.length = i by omega]; all_goals rfl) | (simp; done) | (rw [covTo_yes (by assumption)]; simp; done) | (rw [covTo_no (by assumption)]; done) | omega))⟩, ⟨⟨_, rfl, (LeA.gvg (by first | rfl | (rw [show vs.length = i by omega]; all_goals rfl) | (simp; done) | (rw [covTo_yes (by assumption)]; simp; done) | (rw [covTo_no (by assumption)]; done) | omega))⟩, trivial⟩⟩⟩ (by kernel_rfl) (by kernel_rfl) ⟨beq_nat_eq (by first | rfl | (simp; done) | (simp; omega) | (first | rfl | (rw [show vs.length = i by omega]; all_goals rfl) | (simp; done) | (rw [covTo_yes (by assumption)]; simp; done) | (rw [covTo_no (by assumption)]; done) | omega)), trivial⟩⟩
    ·try simp only [Q, Int.natCast_inj, Val.cs_len] at h6p
     refine ar ?_
     refine Exists.intro (j + 1) ⟨(by omega), (by omega), Sub.x (by kernel_rfl) (by kernel_rfl) ⟨⟨_, rfl, (LeA.eqi (by first | rfl | (rw [show vs.length = i by omega]; all_goals rfl) | (simp; done) | (rw [covTo_yes (by assumption)]; simp; done) | (rw [covTo_no (by assumption)]; done) | omega))⟩, ⟨⟨_, rfl, (LeA.eqa (by first | rfl | (rw [show vs.length = i by omega]; all_goals rfl) | (simp; done) | (rw [covTo_yes (by assumption)]; simp; done) | (rw [covTo_no (by assumption)]; done) | omega))⟩, ⟨⟨_, rfl, (LeA.gvg (by first | rfl | (rw [show vs.length = i by omega]; all_goals rfl) | (simp; done) | (rw [covTo_yes (by assumption)]; simp; done) | (rw [covTo_no (by assumption)]; done) | omega))⟩, trivial⟩⟩⟩ (by kernel_rfl) (by kernel_rfl) ⟨beq_nat_eq (by first | rfl | (simp; done) | (simp; omega) | (first | rfl | (rw [show vs.length = i by omega]; all_goals rfl) | (simp; done) | (rw [covTo_yes (by assumption)]; simp; done) | (rw [covTo_no (by assumption)]; done) | omega)), trivial⟩⟩
   ·try simp only [Q, Int.natCast_inj, Val.cs_len] at h5p
    obtain rfl : j = 8 := (by omega)
    refine CWp.gvGt 14 rfl (flatR_ints _) ?_
    refine CWp.fixT hk 14 1 1 rfl rfl rfl (fun hx => absurd hx (by simp [hne])) (fun hx => ?_)
    refine evc [14] [] ?_
    refine rn [(1, some (.tree (ownCells true ((covTo (covF l vs vs.length) 8).map intC))))] (r1 rfl) (LeA.msn ?_) ⟨rfl, rfl⟩ (SubH.get ⟨(by rfl), trivial⟩) (boxOK rfl)
    all_goals (first | rfl | (simp; done))
theorem spec_CoveredClauses_fn {w : List Data} (hs : WSmall w) {a k : Int} {l : List Cl} (hl : ClsOk l) (hz : ClsSz l) {vs : List Val} (hb : vs.length ≤ 1000000000000) (hv : Vals.ok vs) (hvs : ∀ v ∈ vs, v.size ≤ 1000000000000) :
  FnD Tryz.prog 49 [.d (encDatas w), .agg [.d (.i a), .d (.i k)], .d (encCls l), .d (encVals vs)] [] (.d (encInts (coverV w ⟨a, k⟩ l vs))) [] := by
 have hcv := spec_ClausesValid_fn hs (a := a) (k := k) hl hz
 have hok := fun (i : Nat) (hi : i < vs.length) => Vals.ok_mem hv _ (nth_mem hi)
 have hsz := fun (i : Nat) (hi : i < vs.length) => hvs _ (nth_mem hi)
 have h8 := fun (h : clsValid w ⟨a, k⟩ l = true) => (clsV_tv h).2
 have hge := fun (v : Val) => runV_ge (l := l) (v := v)
 have hll := hl.1
 refine bd Tryz.f49 69 [63] [] fun w0 F0 own kept hk => ?_
 refine Walk.box (id := 3005) .none rfl rfl rfl (by first | rfl | (simp only [freshB, occH, occE, Res.ids, List.cons_append, List.nil_append, AV.idsL, AV.ids, idsL_append, ownCells_ids, zerosA_idsR, repNil, List.map_cons, List.map_nil, upC, tabB_ids]; rfl)) (by first | rfl | (simp only [freshB, occH, occE, Res.ids, List.cons_append, List.nil_append, AV.idsL, AV.ids, idsL_append, ownCells_ids, zerosA_idsR, repNil, List.map_cons, List.map_nil, upC, tabB_ids]; rfl)) (by first | rfl | (simp only [freshB, occH, occE, Res.ids, List.cons_append, List.nil_append, AV.idsL, AV.ids, idsL_append, ownCells_ids, zerosA_idsR, repNil, List.map_cons, List.map_nil, upC, tabB_ids]; rfl)) (by first | rfl | (simp only [freshB, occH, occE, Res.ids, List.cons_append, List.nil_append, AV.idsL, AV.ids, idsL_append, ownCells_ids, zerosA_idsR, repNil, List.map_cons, List.map_nil, upC, tabB_ids]; rfl)) ?_
 refine evs [63] [] ?_
 refine Walk.sliceEmptyG 1 sl54 .none rfl rfl ?_
 refine evs [63] [] ?_
 refine Walk.call (cr := []) cal109 (hcv) rfl .none rfl rfl (LeL.refl _) trivial rfl (by first | rfl | (simp only [okCall, List.all_cons, List.all_nil, entOK, entOK', AV.idsL, AV.ids, idsL_append, ownCells_ids, List.map_cons, List.map_nil, tabB_ids]; rfl)) (by first | rfl | (simp only [freshB, occH, occE, Res.ids, List.cons_append, List.nil_append, AV.idsL, AV.ids, idsL_append, ownCells_ids, zerosA_idsR, repNil, List.map_cons, List.map_nil, upC, tabB_ids]; rfl)) ?_
 refine evs [63] [] ?_
 refine sq (fun h1 h1p h1s => ?_) fun h1 h1p h1s => ?_
 ·try simp only [Q, Int.natCast_inj, Val.cs_len] at h1p
  refine rn0 (r1 rfl) (.gld ?_)
  all_goals (first | (rw [cov_inv (by assumption)]; rfl) | (rw [cov_bad (i := i) (by omega) (by assumption)]; rfl) | (rw [cov_good (by assumption) (fun x hx => hg1.2 x (by omega)), ← cov_len (clsV_tv (l := l) (a := a) (k := k) (by assumption)).2]; have e : j = l.length := (by omega); rw [e]; all_goals rfl))
 ·try simp only [Q, Int.natCast_inj, Val.cs_len] at h1p
  refine Walk.make (id := 70) (m := l.length) sl170 tz4 rfl (by decide) (zerosA_ids rfl) .none rfl (congrArg (fun z : Int => some (AV.d (D.i z))) (by simp : ((l.map Cl.c).length : Int) = ((l.length : Nat) : Int))) (congrArg (fun z : Int => some (AV.d (D.i z))) (by simp : ((l.map Cl.c).length : Int) = ((l.length : Nat) : Int))) (by first | omega | (have := covTo_len (covF l vs vs.length) j; simp; omega)) (by first | omega | (have := covTo_len (covF l vs vs.length) j; simp; omega)) (by first | rfl | (simp only [freshB, occH, occE, Res.ids, List.cons_append, List.nil_append, AV.idsL, AV.ids, idsL_append, ownCells_ids, zerosA_idsR, repNil, List.map_cons, List.map_nil, upC, tabB_ids]; rfl)) (by first | rfl | (simp only [freshB, occH, occE, Res.ids, List.cons_append, List.nil_append, AV.idsL, AV.ids, idsL_append, ownCells_ids, zerosA_idsR, repNil, List.map_cons, List.map_nil, upC, tabB_ids]; rfl)) (by first | rfl | (simp only [freshB, occH, occE, Res.ids, List.cons_append, List.nil_append, AV.idsL, AV.ids, idsL_append, ownCells_ids, zerosA_idsR, repNil, List.map_cons, List.map_nil, upC, tabB_ids]; rfl)) ?_
  refine evs [63] [] ?_
  refine CWp.loopX (ι := Nat) hk (fun i => [(11, .d (.i (i : Int)))]) [8, 12, 13, 25, 26, 27, 28, 29, 30, 31, 32, 33, 34, 35, 36, 37, 38, 39, 40, 41, 42, 43, 44, 45, 46, 47, 48, 49, 50, 51, 52, 53] (fun i => [(70, some (.box (tabB l.length (covF l vs i))))]) (fun i => i ≤ vs.length ∧ ∀ i', i' < i → isV w ⟨a, k⟩ (nth vs i') = true) (fun i => vs.length - i) 0 ⟨by omega, fun _ h => absurd h (by omega)⟩ ⟨⟨_, rfl, (LeA.eqi (by first | rfl | (simp; done) | (simp_all; done) | omega))⟩, trivial⟩ ⟨(by first | rfl | (show some (Res.box _) = some (Res.box _); rw [covF_0, zeros_tabB]; all_goals rfl) | (show some (Res.box _) = some (Res.box _); rw [covF_at (by omega)]; all_goals rfl) | (show some (Res.box _) = some (Res.box _); rw [covF_at (by omega), covB_neg (by omega)]; all_goals rfl)), trivial⟩ (fun x => rfl) (fun i hg1 => ?_)
  refine evc [63] [] ?_
  refine sq (fun h2 h2p h2s => ?_) fun h2 h2p h2s => ?_
  ·try simp only [Q, Int.natCast_inj, Val.cs_len] at h2p
   refine Walk.idx sl58 .none rfl rfl rfl rfl (vals_at (by omega)) rfl ?_
   refine evd [63] [] ?_
   refine Walk.call (cr := []) cal119 (spec_l2Is_fn (valid_wt hs (tv_facts (clsV_tv (l := l) (a := a) (k := k) (by assumption)).1).1) (tv_facts (clsV_tv (l := l) (a := a) (k := k) (by assumption)).1).2.1 (hok i (by omega)) (hsz i (by omega))) rfl .none rfl rfl (LeL.refl _) trivial rfl (by first | rfl | (simp only [okCall, List.all_cons, List.all_nil, entOK, entOK', AV.idsL, AV.ids, idsL_append, ownCells_ids, List.map_cons, List.map_nil, tabB_ids]; rfl)) (by first | rfl | (simp only [freshB, occH, occE, Res.ids, List.cons_append, List.nil_append, AV.idsL, AV.ids, idsL_append, ownCells_ids, zerosA_idsR, repNil, List.map_cons, List.map_nil, upC, tabB_ids]; rfl)) ?_
   refine evd [63] [] ?_
   refine dr ?_
   refine sq (fun h3 h3p h3s => ?_) fun h3 h3p h3s => ?_
   ·try simp only [Q, Int.natCast_inj, Val.cs_len] at h3p
    refine rn0 (r1 rfl) (.gld ?_)
    all_goals (first | (rw [cov_inv (by assumption)]; rfl) | (rw [cov_bad (i := i) (by omega) (by assumption)]; rfl) | (rw [cov_good (by assumption) (fun x hx => hg1.2 x (by omega)), ← cov_len (clsV_tv (l := l) (a := a) (k := k) (by assumption)).2]; have e : j = l.length := (by omega); rw [e]; all_goals rfl))
   ·try simp only [Q, Int.natCast_inj, Val.cs_len] at h3p
    refine Walk.idx sl58 .none rfl rfl rfl rfl (vals_at (by omega)) rfl ?_
    refine evs [63] [] ?_
    refine Walk.call (cr := []) cal120 (spec_l4Run_fn (v := nth vs i) hl.1 (cls_run (a := a) (k := k) (by assumption) hl (hok i (by omega)) (by assumption))) rfl .none rfl rfl (LeL.refl _) trivial rfl (by first | rfl | (simp only [okCall, List.all_cons, List.all_nil, entOK, entOK', AV.idsL, AV.ids, idsL_append, ownCells_ids, List.map_cons, List.map_nil, tabB_ids]; rfl)) (by first | rfl | (simp only [freshB, occH, occE, Res.ids, List.cons_append, List.nil_append, AV.idsL, AV.ids, idsL_append, ownCells_ids, zerosA_idsR, repNil, List.map_cons, List.map_nil, upC, tabB_ids]; rfl)) ?_
    refine evs [63] [] ?_
    refine sq (fun h4 h4p h4s => ?_) fun h4 h4p h4s => ?_
    ·try simp only [Q, Int.natCast_inj, Val.cs_len] at h4p
     refine Walk.idxM (i := (runV l (nth vs i) 0).1.toNat) sl170 .none rfl rfl rfl (Int.toNat_of_nonneg (by omega)).symm (by have := hge (nth vs i); omega) ?_
     refine Walk.store ty4 .none rfl rfl rfl rfl rfl rfl (by simp) ((tabB_put (b := (runV l (nth vs i) 0).1) (by simp; done) (by omega) (by have := hge (nth vs i); omega))) ?_
     refine tv ?_
     refine ar ?_
     refine Exists.intro (i + 1) ⟨⟨by omega, upto_succ hg1.2 (by assumption)⟩, (by omega), Sub.x (by kernel_rfl) (by kernel_rfl) ⟨⟨_, rfl, (LeA.eqi (by first | rfl | (simp; done) | (simp_all; done) | omega))⟩, trivial⟩ (by kernel_rfl) (by kernel_rfl) ⟨(by first | rfl | (show some (Res.box _) = some (Res.box _); rw [covF_0, zeros_tabB]; all_goals rfl) | (show some (Res.box _) = some (Res.box _); rw [covF_at (by omega)]; all_goals rfl) | (show some (Res.box _) = some (Res.box _); rw [covF_at (by omega), covB_neg (by omega)]; all_goals rfl)), trivial⟩⟩
    ·try simp only [Q, Int.natCast_inj, Val.cs_len] at h4p
     refine ar ?_
     refine Exists.intro (i + 1) ⟨⟨by omega, upto_succ hg1.2 (by assumption)⟩, (by omega), Sub.x (by kernel_rfl) (by kernel_rfl) ⟨⟨_, rfl, (LeA.eqi (by first | rfl | (simp; done) | (simp_all; done) | omega))⟩, trivial⟩ (by kernel_rfl) (by kernel_rfl) ⟨(by first | rfl | (show some (Res.box _) = some (Res.box _); rw [covF_0, zeros_tabB]; all_goals rfl) | (show some (Res.box _) = some (Res.box _); rw [covF_at (by omega)]; all_goals rfl) | (show some (Res.box _) = some (Res.box _); rw [covF_at (by omega), covB_neg (by omega)]; all_goals rfl)), trivial⟩⟩
  ·try simp only [Q, Int.natCast_inj, Val.cs_len] at h2p
   refine CWp.loopX (ι := Nat) hk (fun j => [(14, .d (.i (j : Int))), (9, .gl 1 ((covTo (covF l vs vs.length) j).map fun n => [D.i n]))]) [54, 55, 56, 57, 58, 59, 60, 61, 62, 63, 64, 65, 66, 67] (fun j => [(70, some (.box (tabB l.length (covF l vs vs.length)))), (1, some (.tok (((covTo (covF l vs vs.length) j).map fun n => [D.i n])).length 1))]) (fun j => j ≤ l.length ∧ i = vs.length) (fun j => l.length - j) 0 ⟨by omega, by omega⟩ ⟨⟨_, rfl, (LeA.eqi (by first | rfl | (simp; done) | (rw [covTo_yes (by assumption)]; simp; done) | (rw [covTo_no (by assumption)]; done) | omega))⟩, ⟨⟨_, rfl, (LeA.glg (by first | rfl | (simp; done) | (rw [covTo_yes (by assumption)]; simp; done) | (rw [covTo_no (by assumption)]; done) | omega))⟩, trivial⟩⟩ ⟨(by first | rfl | (show some (Res.box _) = some (Res.box _); rw [show vs.length = i by omega]; all_goals rfl)), ⟨beq_nat_eq (by first | rfl | (simp; done) | (simp; omega) | (first | rfl | (simp; done) | (rw [covTo_yes (by assumption)]; simp; done) | (rw [covTo_no (by assumption)]; done) | omega)), trivial⟩⟩ (fun x => rfl) (fun j hg2 => ?_)
   refine evc [63] [] ?_
   refine sq (fun h5 h5p h5s => ?_) fun h5 h5p h5s => ?_
   ·try simp only [Q, Int.natCast_inj, Val.cs_len] at h5p
    refine Walk.idxM (i := j) sl170 .none rfl rfl rfl rfl (by have := hge (nth vs i); omega) ?_
    refine Walk.loadB ty4 .none rfl rfl rfl ((tabB_get (i := j) (by omega) (by simp))) ?_
    refine tv ?_
    refine sq (fun h6 h6p h6s => ?_) fun h6 h6p h6s => ?_
    ·try simp only [Q, Int.natCast_inj, Val.cs_len] at h6p
     refine Walk.sliceLit sl54 tz3 rfl (by decide) (ks := [0]) (xs := [_]) rfl rfl (by decide) (by decide) .none rfl rfl rfl rfl ?_
     refine Walk.append sl54 zz3 rfl .none rfl rfl rfl rfl (htokL rfl (by first | rfl | (simp; done) | (simp; omega))) (by simp) (by first | omega | (have := covTo_len (covF l vs vs.length) j; simp; omega)) (by first | omega | (have := covTo_len (covF l vs vs.length) j; simp; omega)) ?_
     refine evs [63] [] ?_
     refine ar ?_
     refine Exists.intro (j + 1) ⟨⟨by omega, by omega⟩, (by omega), Sub.x (by kernel_rfl) (by kernel_rfl) ⟨⟨_, rfl, (LeA.eqi (by first | rfl | (simp; done) | (rw [covTo_yes (by assumption)]; simp; done) | (rw [covTo_no (by assumption)]; done) | omega))⟩, ⟨⟨_, rfl, (LeA.glg (by first | rfl | (simp; done) | (rw [covTo_yes (by assumption)]; simp; done) | (rw [covTo_no (by assumption)]; done) | omega))⟩, trivial⟩⟩ (by kernel_rfl) (by kernel_rfl) ⟨(by first | rfl | (show some (Res.box _) = some (Res.box _); rw [show vs.length = i by omega]; all_goals rfl)), ⟨beq_nat_eq (by first | rfl | (simp; done) | (simp; omega) | (first | rfl | (simp; done) | (rw [covTo_yes (by assumption)]; simp; done) | (rw [covTo_no (by assumption)]; done) | omega)), trivial⟩⟩⟩
    ·try simp only [Q, Int.natCast_inj, Val.cs_len] at h6p
     refine ar ?_
     refine Exists.intro (j + 1) ⟨⟨by omega, by omega⟩, (by omega), Sub.x (by kernel_rfl) (by kernel_rfl) ⟨⟨_, rfl, (LeA.eqi (by first | rfl | (simp; done) | (rw [covTo_yes (by assumption)]; simp; done) | (rw [covTo_no (by assumption)]; done) | omega))⟩, ⟨⟨_, rfl, (LeA.glg (by first | rfl | (simp; done) | (rw [covTo_yes (by assumption)]; simp; done) | (rw [covTo_no (by assumption)]; done) | omega))⟩, trivial⟩⟩ (by kernel_rfl) (by kernel_rfl) ⟨(by first | rfl | (show some (Res.box _) = some (Res.box _); rw [show vs.length = i by omega]; all_goals rfl)), ⟨beq_nat_eq (by first | rfl | (simp; done) | (simp; omega) | (first | rfl | (simp; done) | (rw [covTo_yes (by assumption)]; simp; done) | (rw [covTo_no (by assumption)]; done) | omega)), trivial⟩⟩⟩
   ·try simp only [Q, Int.natCast_inj, Val.cs_len] at h5p
    refine rn0 (r1 rfl) (.gld ?_)
    all_goals (first | (rw [cov_inv (by assumption)]; rfl) | (rw [cov_bad (i := i) (by omega) (by assumption)]; rfl) | (rw [cov_good (by assumption) (fun x hx => hg1.2 x (by omega)), ← cov_len (clsV_tv (l := l) (a := a) (k := k) (by assumption)).2]; have e : j = l.length := (by omega); rw [e]; all_goals rfl))
theorem own_cls_cons (m : Bool) (y : Cl) (rest : List Cl) : ownCells m ((y :: rest).map Cl.c) = .d (.i y.pat.op) :: .d (.i y.pat.ctor) :: .d (.i y.pat.n) :: .d (.i y.pat.m) :: .d (.i y.pat.var) :: .own m (encPats y.pat.kids) :: .d (.i y.g.op) :: .d (.i y.g.var) :: .d (.i y.g.n) :: ownCells m (rest.map Cl.c) := rfl
theorem own_cls_snoc (m : Bool) (l : List Cl) (y : Cl) : ownCells m ((l ++ [y]).map Cl.c) = ownCells m (l.map Cl.c) ++ [.d (.i y.pat.op), .d (.i y.pat.ctor), .d (.i y.pat.n), .d (.i y.pat.m), .d (.i y.pat.var), .own m (encPats y.pat.kids), .d (.i y.g.op), .d (.i y.g.var), .d (.i y.g.n)] := by
 rw [List.map_append, ownCells_append]
 rfl
theorem Cl.rows {l : List Cl} : ∀ x, x ∈ l.map Cl.c → x.length = 9 := by
 intro x hx
 obtain ⟨y, _, rfl⟩ := List.mem_map.1 hx
 rfl
theorem own_cls_len (m : Bool) (l : List Cl) : (ownCells m (l.map Cl.c)).length = l.length * 9 := by
 rw [ownCells_len (k := 9) Cl.rows, List.length_map]
def Cl.szM (c : Cl) : Int := c.pat.szM + 3
def Cl.one (k : Int) (c : Cl) : Cl := ⟨c.pat.one k, ⟨k + 1 + 1 + 1 + 1 + 1 + szL Pat.szM c.pat.kids, k + 1 + 1 + 1 + 1 + 1 + szL Pat.szM c.pat.kids + 1, k + 1 + 1 + 1 + 1 + 1 + szL Pat.szM c.pat.kids + 1 + 1⟩⟩
theorem Cl.szM_nn (c : Cl) : 0 ≤ c.szM := by have := Pat.szM_nn c.pat; unfold Cl.szM; omega
theorem Cl.szM_kids (c : Cl) : c.szM = 5 + szL Pat.szM c.pat.kids + 3 := by unfold Cl.szM; rw [Pat.szM_kids]
theorem Cl.szM_le (c : Cl) : c.szM ≤ 8 + 5 * (mCl c : Int) := by have := Pat.szM_le c.pat; unfold Cl.szM mCl; omega
theorem Cls.szM_le : ∀ l : List Cl, szL Cl.szM l ≤ 8 * (mCls l : Int)
 | [] => by simp [szL, mCls]
 | c :: r => by
  have h1 := Cl.szM_le c
  have h2 := Cls.szM_le r
  simp only [szL, mCls, List.length_cons, List.map_cons, List.sum_cons] at *
  omega
theorem laws_toClause_tr {c : Cl} (hok : c.pat.ok) :
  FnD Tryz.prog 90 [.agg [.d (.i c.pat.op), .d (.i c.pat.ctor), .d (.i c.pat.n), .d (.i c.pat.m), .d (.i c.pat.var), .d (encPats c.pat.kids), .d (.i c.g.op), .d (.i c.g.var), .d (.i c.g.n)]] [] (.agg [.d (.i c.pat.op), .d (.i c.pat.ctor), .d (.i c.pat.n), .d (.i c.pat.m), .d (.i c.pat.var), .ms 66 c.pat.kids.length, .d (.i c.g.op), .d (.i c.g.var), .d (.i c.g.n)]) [(66, some (.tree (ownCells false (Pat.cs c.pat.kids))))] := by
 refine bd Tryz.f90 13 [] [] fun w0 F0 own kept hk => ?_
 refine Walk.box (id := 3001) .none rfl rfl rfl rfl rfl rfl rfl ?_
 refine Walk.alloc (id := 3002) tz135 rfl .none rfl rfl rfl rfl ?_
 refine tv ?_
 refine Walk.alloc (id := 3003) tz135 rfl .none rfl rfl rfl rfl ?_
 refine tv ?_
 refine Walk.call (cr := [66]) cal155 (laws_toPattern_tr _ (Nat.le_refl _) hok) rfl .none rfl rfl (LeL.refl _) trivial rfl (by first | rfl | (simp only [okCall, List.all_cons, List.all_nil, entOK, entOK', AV.idsL, AV.ids, idsL_append, ownCells_ids, List.map_cons, List.map_nil]; rfl)) (by first | rfl | (simp only [freshB, occH, occE, Res.ids, List.cons_append, List.nil_append, AV.idsL, AV.ids, idsL_append, ownCells_ids, zerosA_idsR, repNil, List.map_cons, List.map_nil, upC]; rfl)) ?_
 refine ev ?_
 refine Walk.store ty51 .none rfl rfl rfl rfl rfl rfl (by simp) rfl ?_
 refine tv ?_
 refine Walk.call (cr := []) cal156 (laws_toGuard_fn) rfl .none rfl rfl (LeL.refl _) trivial rfl rfl rfl ?_
 refine ev ?_
 refine Walk.store ty133 .none rfl rfl rfl rfl rfl rfl (by simp) rfl ?_
 refine tv ?_
 refine Walk.store ty135 .none rfl rfl rfl rfl rfl rfl (by simp) rfl ?_
 refine tv ?_
 refine rn [(66, some (.tree (ownCells false (Pat.cs c.pat.kids))))] (.cons (.cellA ty135 rfl rfl rfl) .nil) (.agg (.cons (.eqd ?_) (.cons (.eqd ?_) (.cons (.eqd ?_) (.cons (.eqd ?_) (.cons (.eqd ?_) (.cons (LeA.msn ?_) (.cons (.eqd ?_) (.cons (.eqd ?_) (.cons (.eqd ?_) .nil)))))))))) ⟨rfl, rfl⟩ (SubH.get ⟨rfl, trivial⟩) (boxOK rfl)
 all_goals (first | rfl | (simp []; done) | (simp_all; done) | (simp_all; omega) | omega)
theorem laws_toClauseS_tr {l : List Cl} (hs : ClsOk l) : FnD Tryz.prog 25 [.d (encCls l)] [] (.ms 68 l.length) [(68, some (.tree (ownCells false (l.map Cl.c))))] := by
 have h := hs.1
 have hf2 : ∀ c ∈ l, FnD Tryz.prog 90 [.agg [.d (.i c.pat.op), .d (.i c.pat.ctor), .d (.i c.pat.n), .d (.i c.pat.m), .d (.i c.pat.var), .d (encPats c.pat.kids), .d (.i c.g.op), .d (.i c.g.var), .d (.i c.g.n)]] [] (.agg [.d (.i c.pat.op), .d (.i c.pat.ctor), .d (.i c.pat.n), .d (.i c.pat.m), .d (.i c.pat.var), .ms 67 c.pat.kids.length, .d (.i c.g.op), .d (.i c.g.var), .d (.i c.g.n)]) [(67, some (.tree (ownCells false (Pat.cs c.pat.kids))))] := fun v hv => FnD.out_ren (ownCells_ids _ _) rfl (laws_toClause_tr (hs.2 v hv)) 67
 refine bd Tryz.f25 23 [] [2, 4] fun w0 F0 own kept hk => ?_
 refine Walk.make (id := 68) sl44 tz135 rfl (by decide) (zerosA_ids rfl) .none rfl rfl rfl (by simp; omega) (by simp; omega) rfl rfl rfl ?_
 refine ev ?_
 refine CWp.boxTree 68 false rfl rfl (zerosA_map _ _ _) ?_
 refine evc [] [] ?_
 refine CWp.loopX (ι := List (Cl) × List (Cl)) hk (fun x => [(4, .d (.i (x.1.length : Int)))]) [8, 9, 10, 11, 12, 13, 14, 15, 16, 17, 18, 19, 20, 21] (fun x => [(68, some (.tree (ownCells false (x.1.map Cl.c) ++ zerosA x.2.length [.d (.i 0), .d (.i 0), .d (.i 0), .d (.i 0), .d (.i 0), .own false (.sl []), .d (.i 0), .d (.i 0), .d (.i 0)])))]) (fun x => x.1 ++ x.2 = l) (fun x => x.2.length) ([], l) (by simp) ⟨⟨_, rfl, (LeA.eqi (by first | rfl | (simp; done) | (simp_all; done) | omega))⟩, trivial⟩ ⟨(by first | rfl | (show some (Res.tree _) = some (Res.tree _); rw [own_cls_snoc, List.append_assoc]; rfl) | (show some (Res.tree _) = some (Res.tree _); simp [ownCells_nil]; rfl)), trivial⟩ (fun x => rfl) (fun x hg1 => ?_)
 obtain ⟨pre, rest⟩ := x
 dsimp only at hg1 ⊢
 refine evc [] [2, 4] ?_
 refine sq (fun h1 h1p h1s => ?_) fun h1 h1p h1s => ?_
 ·try simp only [Q, Pat.cs_len] at h1p
  rcases rest with _ | ⟨y, rest⟩
  ·exfalso; simp_all
  refine Walk.idx sl38 .none rfl rfl rfl rfl (zip_at hg1) rfl ?_
  refine ev ?_
  refine Walk.call (cr := [67]) cal90 (hf2 y (by rw [← hg1]; simp)) rfl .none rfl rfl (LeL.refl _) trivial rfl (by first | rfl | (simp only [okCall, List.all_cons, List.all_nil, entOK, entOK', AV.idsL, AV.ids, idsL_append, ownCells_ids, List.map_cons, List.map_nil]; rfl)) (by first | rfl | (simp only [freshB, occH, occE, Res.ids, List.cons_append, List.nil_append, AV.idsL, AV.ids, idsL_append, ownCells_ids, zerosA_idsR, repNil, List.map_cons, List.map_nil, upC]; rfl)) ?_
  refine Walk.idxM sl44 .none rfl rfl rfl rfl (by first | omega | (simp [Pat.cs_len]; omega)) ?_
  refine Walk.storeT ty135 .none rfl rfl rfl rfl rfl rfl (by simp) ((putC_fill (own_cls_len false _) rfl)) ?_
  refine tv ?_
  refine CWp.merge hk 68 (pre.length * 9 + 5) 67 6 _ rfl (cell_off (own_cls_len false _) rfl) (by simp [mkL_len, Pat.cs_len]) rfl Pat.cs_rows rfl rfl (putC_off (own_cls_len false _) (putC_set rfl)) ?_
  refine evc [] [] ?_
  refine ar ?_
  refine Exists.intro ((pre ++ [y], rest)) ⟨(by have hz := hg1; rw [← hz]; simp), (by simp), Sub.x (by kernel_rfl) (by kernel_rfl) ⟨⟨_, rfl, (LeA.eqi (by first | rfl | (simp; done) | (simp_all; done) | omega))⟩, trivial⟩ (by kernel_rfl) (by kernel_rfl) ⟨(by first | rfl | (show some (Res.tree _) = some (Res.tree _); rw [own_cls_snoc, List.append_assoc]; rfl) | (show some (Res.tree _) = some (Res.tree _); simp [ownCells_nil]; rfl)), trivial⟩⟩
 ·try simp only [Q, Pat.cs_len] at h1p
  have hrest : rest = [] := by
   rcases rest with _ | ⟨a, b⟩
   ·rfl
   ·exfalso; have hz := congrArg List.length (hg1); simp only [List.length_append, List.length_cons, List.length_map] at hz; omega
  subst hrest
  refine rn [(68, some (.tree (ownCells false (l.map Cl.c))))] (r1 rfl) (LeA.msn ?_) ⟨rfl, rfl⟩ (SubH.get ⟨(by first | rfl | (rw [List.append_nil] at hg1; subst hg1; show some (Res.tree _) = some (Res.tree _); simp [zerosA]; done)), trivial⟩) (boxOK rfl)
  all_goals (first | rfl | (simp; done))
theorem markPatternS_68 {l : List Pat} {k : Int} (h0 : 0 < k) (h1 : k + szL Pat.szM l ≤ 1000000000000) (hl : l.length ≤ 1000000000000) (hok : Pats.ok l) : FnD Tryz.prog 46 [.ms 47 l.length, .d (.i k)] [(47, some (.tree (ownCells false (Pat.cs l))))]
  (.d (.i (k + szL Pat.szM l))) [(47, some (.tree (ownCells false (Pat.cs (mkL Pat.one Pat.szM k l)))))] := markPatternS_ren (laws_markPatternS_tr _ (Nat.le_refl _) h0 h1 hl hok)
theorem laws_markClauseS_tr {l : List Cl} {k : Int} (h0 : 0 < k) (h1 : k + szL Cl.szM l ≤ 1000000000000) (hok : ClsOk l) : FnD Tryz.prog 45 [.ms 48 l.length, .d (.i k)] [(48, some (.tree (ownCells false (l.map Cl.c))))]
  (.d (.i (k + szL Cl.szM l))) [(48, some (.tree (ownCells false ((mkL Cl.one Cl.szM k l).map Cl.c))))] := by
 have hl := hok.1
 have hpk := fun (c : Cl) (hc : c ∈ l) => (Pat.ok_iff c.pat).1 (hok.2 c hc)
 refine bd Tryz.f45 85 [57] [14, 15, 1000009] fun w0 F0 own kept hk => ?_
 refine CWp.loopX (ι := List (Cl) × List (Cl) × (Int)) hk (fun x => [(5, .d (.i (x.1.length : Int))), (1, .d (.i x.2.2))]) [6, 7, 8, 9, 10, 11, 12, 13, 14, 15, 16, 17, 18, 19, 20, 21, 22, 23, 24, 25, 26, 27, 28, 29, 30, 31, 32, 33, 34, 35, 36, 37, 38, 39, 40, 41, 42, 43, 44, 45, 46, 47, 48, 49, 50, 51, 52, 53, 54, 55, 56, 57, 58, 59, 60, 61, 62, 63, 64, 65, 66, 67, 68, 69, 70, 71, 72, 73, 74, 75, 76, 77, 78, 79, 80, 81, 82, 83] (fun x => [(48, some (.tree (ownCells false ((mkL Cl.one Cl.szM k x.1).map Cl.c) ++ ownCells false (x.2.1.map Cl.c))))]) (fun x => x.1 ++ x.2.1 = l ∧ x.2.2 = k + szL Cl.szM x.1) (fun x => x.2.1.length) ([], l, k) ⟨by simp, by simp [szL]⟩ ⟨⟨_, rfl, (LeA.eqi (by first | rfl | (simp; done) | omega | (refine Eq.trans (b := v + Cl.szM y) ?_ rfl; omega)))⟩, ⟨⟨_, rfl, (LeA.eqi (by first | rfl | (simp; done) | omega | (refine Eq.trans (b := v + Cl.szM y) ?_ rfl; omega)))⟩, trivial⟩⟩ ⟨(by first | rfl | (show some (Res.tree _) = some (Res.tree _); rw [mkL_snoc, own_cls_snoc, ← hg1.2]; simp only [Cl.one, Pat.one_kids, Pat.one_sc y.pat v, List.append_assoc, List.cons_append, List.nil_append]; all_goals rfl)), trivial⟩ (fun x => rfl) (fun x hg1 => ?_)
 obtain ⟨pre, rest, v⟩ := x
 dsimp only at hg1 ⊢
 refine evc [57] [14, 15, 1000009] ?_
 refine cq (fun h1 h1p h1s => ?_) fun h1 h1p h1s => ?_
 ·try simp only [Q] at h1p
  rcases rest with _ | ⟨y, rest⟩
  ·exfalso; simp_all
  have hsp := szL_split (sz := Cl.szM) hg1.1; have hnn := szL_nonneg (l := rest) Cl.szM_nn; have hnp := szL_nonneg (l := pre) Cl.szM_nn; have hys := Cl.szM_kids y; have hya := szL_nonneg (l := y.pat.kids) Pat.szM_nn; have hv := hg1.2
  refine CWp.reTree 48 (ownCells false ((mkL Cl.one Cl.szM k pre).map Cl.c) ++ (.d (.i y.pat.op) :: .d (.i y.pat.ctor) :: .d (.i y.pat.n) :: .d (.i y.pat.m) :: .d (.i y.pat.var) :: .own false (encPats y.pat.kids) :: .d (.i y.g.op) :: .d (.i y.g.var) :: .d (.i y.g.n) :: ownCells false (rest.map Cl.c))) rfl (by rw [own_cls_cons]) ?_
  refine evc [57] [14, 15, 1000009] ?_
  refine Walk.idxM sl44 .none rfl rfl rfl rfl (by first | omega | (simp [Pat.cs_nil, Pat.cs_len, Pat.cs]; omega)) ?_
  refine evs [57] [] ?_
  refine Walk.storeT ty3 .none rfl rfl rfl rfl rfl rfl (by simp) ((putC_off ((own_cls_len false _).trans (by rw [mkL_len]; all_goals rfl)) putC_c0)) ?_
  refine tv ?_
  refine ar ?_
  refine Walk.idxM sl44 .none rfl rfl rfl rfl (by first | omega | (simp [Pat.cs_nil, Pat.cs_len, Pat.cs]; omega)) ?_
  refine evs [57] [] ?_
  refine Walk.storeT ty3 .none rfl rfl rfl rfl rfl rfl (by simp) ((putC_off ((own_cls_len false _).trans (by rw [mkL_len]; all_goals rfl)) putC_c1)) ?_
  refine tv ?_
  refine ar ?_
  refine Walk.idxM sl44 .none rfl rfl rfl rfl (by first | omega | (simp [Pat.cs_nil, Pat.cs_len, Pat.cs]; omega)) ?_
  refine evs [57] [] ?_
  refine Walk.storeT ty3 .none rfl rfl rfl rfl rfl rfl (by simp) ((putC_off ((own_cls_len false _).trans (by rw [mkL_len]; all_goals rfl)) putC_c2)) ?_
  refine tv ?_
  refine ar ?_
  refine Walk.idxM sl44 .none rfl rfl rfl rfl (by first | omega | (simp [Pat.cs_nil, Pat.cs_len, Pat.cs]; omega)) ?_
  refine evs [57] [] ?_
  refine Walk.storeT ty3 .none rfl rfl rfl rfl rfl rfl (by simp) ((putC_off ((own_cls_len false _).trans (by rw [mkL_len]; all_goals rfl)) putC_c3)) ?_
  refine tv ?_
  refine ar ?_
  refine Walk.idxM sl44 .none rfl rfl rfl rfl (by first | omega | (simp [Pat.cs_nil, Pat.cs_len, Pat.cs]; omega)) ?_
  refine evs [57] [] ?_
  refine Walk.storeT ty3 .none rfl rfl rfl rfl rfl rfl (by simp) ((putC_off ((own_cls_len false _).trans (by rw [mkL_len]; all_goals rfl)) putC_c4)) ?_
  refine tv ?_
  refine ar ?_
  by_cases hs2 : y.pat.kids = []
  ·refine CWp.emptyCell 48 (pre.length * 9 + 5) rfl (cell_off ((own_cls_len false _).trans (by rw [mkL_len]; all_goals rfl)) rfl) (by simp [hs2, Pat.cs_nil, Pat.cs_len, Pat.cs]) (putC_off ((own_cls_len false _).trans (by rw [mkL_len]; all_goals rfl)) putC_c5) ?_
   refine evc [57] [] ?_
   refine Walk.idxM sl44 .none rfl rfl rfl rfl (by first | omega | (simp [Pat.cs_nil, Pat.cs_len, Pat.cs]; omega)) ?_
   refine evs [57] [] ?_
   refine Walk.loadT ty49 .none rfl rfl rfl ((by rw [cell_off ((own_cls_len false _).trans (by rw [mkL_len]; all_goals rfl)) rfl]; rfl)) ?_
   refine evs [57] [] ?_
   refine Walk.call (cr := []) cal46 (laws_markPatternS_nil hs2) rfl .none rfl rfl (LeL.refl _) trivial rfl (by first | rfl | (simp only [okCall, List.all_cons, List.all_nil, entOK, entOK', AV.idsL, AV.ids, idsL_append, ownCells_ids, List.map_cons, List.map_nil]; rfl)) (by first | rfl | (simp only [freshB, occH, occE, Res.ids, List.cons_append, List.nil_append, AV.idsL, AV.ids, idsL_append, ownCells_ids, zerosA_idsR, repNil, List.map_cons, List.map_nil, upC]; rfl)) ?_
   refine evs [57] [] ?_
   refine CWp.fullCell 48 (pre.length * 9 + 5) false rfl (xs := Pat.cs (mkL Pat.one Pat.szM (v + 1 + 1 + 1 + 1 + 1) y.pat.kids)) rfl (cell_off ((own_cls_len false _).trans (by rw [mkL_len]; all_goals rfl)) rfl) (by simp [hs2, mkL, Pat.cs]) (putC_off ((own_cls_len false _).trans (by rw [mkL_len]; all_goals rfl)) putC_c5) ?_
   refine evc [57] [] ?_
   refine Walk.idxM sl44 .none rfl rfl rfl rfl (by first | omega | (simp [Pat.cs_nil, Pat.cs_len, Pat.cs]; omega)) ?_
   refine evs [57] [] ?_
   refine Walk.storeT ty3 .none rfl rfl rfl rfl rfl rfl (by simp) ((putC_off (o := pre.length * 9) (j := 6) ((own_cls_len false _).trans (by rw [mkL_len])) putC_c6)) ?_
   refine tv ?_
   refine ar ?_
   refine Walk.idxM sl44 .none rfl rfl rfl rfl (by first | omega | (simp [Pat.cs_nil, Pat.cs_len, Pat.cs]; omega)) ?_
   refine evs [57] [] ?_
   refine Walk.storeT ty3 .none rfl rfl rfl rfl rfl rfl (by simp) ((putC_off (o := pre.length * 9) (j := 7) ((own_cls_len false _).trans (by rw [mkL_len])) putC_c7)) ?_
   refine tv ?_
   refine ar ?_
   refine Walk.idxM sl44 .none rfl rfl rfl rfl (by first | omega | (simp [Pat.cs_nil, Pat.cs_len, Pat.cs]; omega)) ?_
   refine evs [57] [] ?_
   refine Walk.storeT ty3 .none rfl rfl rfl rfl rfl rfl (by simp) ((putC_off (o := pre.length * 9) (j := 8) ((own_cls_len false _).trans (by rw [mkL_len])) putC_c8)) ?_
   refine tv ?_
   refine ar ?_
   refine ar ?_
   refine Exists.intro ((pre ++ [y], rest, v + Cl.szM y)) ⟨⟨(by have hz := hg1.1; rw [← hz]; simp), (by show v + Cl.szM y = _; rw [szL_snoc, hg1.2]; omega)⟩, (by simp), Sub.x (by kernel_rfl) (by kernel_rfl) ⟨⟨_, rfl, (LeA.eqi (by first | rfl | (simp; done) | omega | (refine Eq.trans (b := v + Cl.szM y) ?_ rfl; omega)))⟩, ⟨⟨_, rfl, (LeA.eqi (by first | rfl | (simp; done) | omega | (refine Eq.trans (b := v + Cl.szM y) ?_ rfl; omega)))⟩, trivial⟩⟩ (by kernel_rfl) (by kernel_rfl) ⟨(by first | rfl | (show some (Res.tree _) = some (Res.tree _); rw [mkL_snoc, own_cls_snoc, ← hg1.2]; simp only [Cl.one, Pat.one_kids, Pat.one_sc y.pat v, List.append_assoc, List.cons_append, List.nil_append]; all_goals rfl)), trivial⟩⟩
  ·refine CWp.split 48 (pre.length * 9 + 5) 47 rfl (cell_off ((own_cls_len false _).trans (by rw [mkL_len]; all_goals rfl)) rfl) (by simp [hs2, Pat.cs_nil, Pat.cs_len, Pat.cs]) (by first | rfl | (simp only [freshB, occH, occE, Res.ids, List.cons_append, List.nil_append, AV.idsL, AV.ids, idsL_append, ownCells_ids, zerosA_idsR, repNil, List.map_cons, List.map_nil, upC]; rfl)) (putC_off ((own_cls_len false _).trans (by rw [mkL_len]; all_goals rfl)) putC_c5) ?_
   refine evc [57] [] ?_
   refine Walk.idxM sl44 .none rfl rfl rfl rfl (by first | omega | (simp [Pat.cs_nil, Pat.cs_len, Pat.cs]; omega)) ?_
   refine evs [57] [] ?_
   refine Walk.loadT ty49 .none rfl rfl rfl ((by rw [cell_off ((own_cls_len false _).trans (by rw [mkL_len]; all_goals rfl)) rfl]; rfl)) ?_
   refine evs [57] [] ?_
   refine Walk.call (cr := []) cal46 (markPatternS_68 (l := y.pat.kids) (k := v + 1 + 1 + 1 + 1 + 1) (by omega) (by omega) (hpk y (by rw [← hg1.1]; simp)).1 (hpk y (by rw [← hg1.1]; simp)).2) rfl .none rfl rfl (.cons (LeA.msn (by first | rfl | (simp [Pat.cs_nil, Pat.cs_len, Pat.cs]; done))) (.cons (.refl _) .nil)) ⟨by first | rfl | (simp; rfl), trivial⟩ rfl (by first | rfl | (simp only [okCall, List.all_cons, List.all_nil, entOK, entOK', AV.idsL, AV.ids, idsL_append, ownCells_ids, List.map_cons, List.map_nil]; rfl)) (by first | rfl | (simp only [freshB, occH, occE, Res.ids, List.cons_append, List.nil_append, AV.idsL, AV.ids, idsL_append, ownCells_ids, zerosA_idsR, repNil, List.map_cons, List.map_nil, upC]; rfl)) ?_
   refine evs [57] [] ?_
   refine CWp.merge hk 48 (pre.length * 9 + 5) 47 6 _ rfl (cell_off ((own_cls_len false _).trans (by rw [mkL_len]; all_goals rfl)) rfl) (by simp [mkL_len, Pat.cs_nil, Pat.cs_len, Pat.cs]) rfl Pat.cs_rows rfl rfl (putC_off ((own_cls_len false _).trans (by rw [mkL_len]; all_goals rfl)) putC_c5) ?_
   refine evc [57] [] ?_
   refine Walk.idxM sl44 .none rfl rfl rfl rfl (by first | omega | (simp [Pat.cs_nil, Pat.cs_len, Pat.cs]; omega)) ?_
   refine evs [57] [] ?_
   refine Walk.storeT ty3 .none rfl rfl rfl rfl rfl rfl (by simp) ((putC_off (o := pre.length * 9) (j := 6) ((own_cls_len false _).trans (by rw [mkL_len])) putC_c6)) ?_
   refine tv ?_
   refine ar ?_
   refine Walk.idxM sl44 .none rfl rfl rfl rfl (by first | omega | (simp [Pat.cs_nil, Pat.cs_len, Pat.cs]; omega)) ?_
   refine evs [57] [] ?_
   refine Walk.storeT ty3 .none rfl rfl rfl rfl rfl rfl (by simp) ((putC_off (o := pre.length * 9) (j := 7) ((own_cls_len false _).trans (by rw [mkL_len])) putC_c7)) ?_
   refine tv ?_
   refine ar ?_
   refine Walk.idxM sl44 .none rfl rfl rfl rfl (by first | omega | (simp [Pat.cs_nil, Pat.cs_len, Pat.cs]; omega)) ?_
   refine evs [57] [] ?_
   refine Walk.storeT ty3 .none rfl rfl rfl rfl rfl rfl (by simp) ((putC_off (o := pre.length * 9) (j := 8) ((own_cls_len false _).trans (by rw [mkL_len])) putC_c8)) ?_
   refine tv ?_
   refine ar ?_
   refine ar ?_
   refine Exists.intro ((pre ++ [y], rest, v + Cl.szM y)) ⟨⟨(by have hz := hg1.1; rw [← hz]; simp), (by show v + Cl.szM y = _; rw [szL_snoc, hg1.2]; omega)⟩, (by simp), Sub.x (by kernel_rfl) (by kernel_rfl) ⟨⟨_, rfl, (LeA.eqi (by first | rfl | (simp; done) | omega | (refine Eq.trans (b := v + Cl.szM y) ?_ rfl; omega)))⟩, ⟨⟨_, rfl, (LeA.eqi (by first | rfl | (simp; done) | omega | (refine Eq.trans (b := v + Cl.szM y) ?_ rfl; omega)))⟩, trivial⟩⟩ (by kernel_rfl) (by kernel_rfl) ⟨(by first | rfl | (show some (Res.tree _) = some (Res.tree _); rw [mkL_snoc, own_cls_snoc, ← hg1.2]; simp only [Cl.one, Pat.one_kids, Pat.one_sc y.pat v, List.append_assoc, List.cons_append, List.nil_append]; all_goals rfl)), trivial⟩⟩
 ·try simp only [Q] at h1p
  have hrest : rest = [] := by
   rcases rest with _ | ⟨a, b⟩
   ·rfl
   ·exfalso; have hz := congrArg List.length (hg1.1); simp only [List.length_append, List.length_cons, List.length_map] at hz; omega
  subst hrest
  refine evc [57] [14, 15, 1000009] ?_
  refine rn [(48, some (.tree (ownCells false ((mkL Cl.one Cl.szM k l).map Cl.c))))] (r1 rfl) (.eqd ?_) ⟨rfl, rfl⟩ (SubO.get ⟨.inr (by first | rfl | (obtain ⟨hg1, _⟩ := hg1; rw [List.append_nil] at hg1; subst hg1; show some (Res.tree _) = some (Res.tree _); simp [ownCells_nil]; done)), ⟨.inl rfl, trivial⟩⟩) (boxOK rfl)
  all_goals (first | rfl | (obtain ⟨hg1, hv⟩ := hg1; rw [List.append_nil] at hg1; subst hg1; rw [hv]))
theorem markDataS_j {l : List Data} {k : Int} (h0 : 0 < k) (h1 : k + szL Data.sz l ≤ 1000000000000) (hl : WSmall l) : FnD Tryz.prog 44 [.ms 63 l.length, .d (.i k)] [(63, some (.tree (ownCells false (l.map Data.c))))]
  (.d (.i (k + szL Data.sz l))) [(63, some (.tree (ownCells false ((mkL Data.one Data.sz k l).map Data.c))))] := FnD.ren rfl (ownCells_ids _ _) (ownCells_ids _ _) (laws_markDataS_tr h0 h1 hl) 63
theorem markClauseS_j {l : List Cl} {k : Int} (h0 : 0 < k) (h1 : k + szL Cl.szM l ≤ 1000000000000) (hok : ClsOk l) : FnD Tryz.prog 45 [.ms 68 l.length, .d (.i k)] [(68, some (.tree (ownCells false (l.map Cl.c))))]
  (.d (.i (k + szL Cl.szM l))) [(68, some (.tree (ownCells false ((mkL Cl.one Cl.szM k l).map Cl.c))))] := FnD.ren rfl (ownCells_ids _ _) (ownCells_ids _ _) (laws_markClauseS_tr h0 h1 hok) 68
theorem markValueS_j {l : List Val} {k : Int} (h0 : 0 < k) (h1 : k + szL Val.szM l ≤ 1000000000000) (hl : l.length ≤ 1000000000000) (hok : Vals.ok l) : FnD Tryz.prog 54 [.ms 64 l.length, .d (.i k)] [(64, some (.tree (ownCells false (Val.cs l))))]
  (.d (.i (k + szL Val.szM l))) [(64, some (.tree (ownCells false (Val.cs (mkL Val.one Val.szM k l)))))] := FnD.ren rfl (ownCells_ids _ _) (ownCells_ids _ _) (laws_markValueS_tr _ (Nat.le_refl _) h0 h1 hl hok) 64
theorem markIntS_j {m : Bool} {l : List Int} {k : Int} (h0 : 0 ≤ k) (h1 : k + l.length ≤ 1000000000000) : FnD Tryz.prog 55 [.ms 1 l.length, .d (.i k)] [(1, some (.tree (ownCells m (l.map intC))))]
  (.d (.i (k + l.length))) [(1, some (.tree (ownCells m ((mkL iOne iSz k l).map intC))))] := FnD.ren rfl (ownCells_ids _ _) (ownCells_ids _ _) (laws_markIntS_tr h0 h1) 1
theorem laws_CoveredClauses_l {w : List Data} (hs : WSmall w) {a k : Int} {cl : List Cl} (hok : ClsOk cl) {vs : List Val} (hb : vs.length ≤ 1000000000000) (hv : Vals.ok vs) {l : List Int} (hlen : l.length ≤ 8)
  (hspec : FnD Tryz.prog 49 [.d (encDatas w), .agg [.d (.i a), .d (.i k)], .d (encCls cl), .d (encVals vs)] [] (.d (encInts l)) [])
  (himp : FnD Tryz.prog 51 [.d (encDatas w), .agg [.d (.i a), .d (.i k)], .d (encCls cl), .d (encVals vs)] [] (.d (encInts l)) [])
  (hown : FnD Tryz.prog 51 [.d (encDatas w), .agg [.d (.i a), .d (.i k)], .d (encCls cl), .d (encVals vs)] [] (.ms 1 l.length) [(1, some (.tree (ownCells true (l.map intC))))]) :
  FnD Tryz.prog 9 [.d (encDatas w), .agg [.d (.i a), .d (.i k)], .d (encCls cl), .d (encVals vs)] [] (.d (.bool true)) [] := by
 have z := szr_or (left := 1048576) (mDatas w)
 have z2 := szr_or (left := szr 1048576 (mDatas w)) (mCls cl)
 have z3 := szr_or (left := szr (szr 1048576 (mDatas w)) (mCls cl)) (mVals vs)
 have hbd := szL_datas_le w
 have hnn := szL_nonneg (l := w) Data.sz_nn
 have hcb := Cls.szM_le cl
 have hcn := szL_nonneg (l := cl) Cl.szM_nn
 have hvb := Vals.szM_le vs
 have hvn := Vals.szM_nn vs
 rw [Vals.szM_eq] at hvb hvn
 refine bd Tryz.f9 123 [] [] fun w0 F0 own kept hk => ?_
 refine Walk.box (id := 3005) .none rfl rfl rfl rfl rfl rfl rfl ?_
 refine ev ?_
 refine Walk.call (cr := []) cal12 (laws_szDataS_fn hs (by omega) (by omega)) rfl .none rfl rfl (LeL.refl _) trivial rfl rfl rfl ?_
 refine ev ?_
 refine sq (fun h1 h1p h1s => ?_) fun h1 h1p h1s => ?_
 ·try simp only [Q] at h1p
  refine rn0 (r1 rfl) (.eqd ?_)
  all_goals (first | rfl | (exfalso; simp_all [clsEq_refl, valsEq_refl]; done) | (exfalso; simp [clsEq_refl, valsEq_refl] at *; omega))
 ·try simp only [Q] at h1p
  refine Walk.call (cr := []) cal22 (laws_szClauseS_fn hok (by omega) (by omega)) rfl .none rfl rfl (LeL.refl _) trivial rfl rfl rfl ?_
  refine ev ?_
  refine sq (fun h2 h2p h2s => ?_) fun h2 h2p h2s => ?_
  ·try simp only [Q] at h2p
   refine rn0 (r1 rfl) (.eqd ?_)
   all_goals (first | rfl | (exfalso; simp_all [clsEq_refl, valsEq_refl]; done) | (exfalso; simp [clsEq_refl, valsEq_refl] at *; omega))
  ·try simp only [Q] at h2p
   refine Walk.call (cr := []) cal48 (laws_szValueS_fn hb hv (by omega) (by omega)) rfl .none rfl rfl (LeL.refl _) trivial rfl rfl rfl ?_
   refine ev ?_
   refine sq (fun h3 h3p h3s => ?_) fun h3 h3p h3s => ?_
   ·try simp only [Q] at h3p
    refine rn0 (r1 rfl) (.eqd ?_)
    all_goals (first | rfl | (exfalso; simp_all [clsEq_refl, valsEq_refl]; done) | (exfalso; simp [clsEq_refl, valsEq_refl] at *; omega))
   ·try simp only [Q] at h3p
    refine Walk.call (cr := []) cal15 (laws_toDataS_fn hs) rfl .none rfl rfl (LeL.refl _) trivial rfl rfl rfl ?_
    refine evd [] [] ?_
    refine Walk.call (cr := []) cal24 (laws_toType_fn) rfl .none rfl rfl (LeL.refl _) trivial rfl rfl rfl ?_
    refine evd [] [] ?_
    refine Walk.call (cr := []) cal25 (laws_toClauseS_fn hok) rfl .none rfl rfl (LeL.refl _) trivial rfl rfl rfl ?_
    refine evd [] [] ?_
    refine Walk.call (cr := []) cal50 (laws_toValueS_fn hb hv) rfl .none rfl rfl (LeL.refl _) trivial rfl rfl rfl ?_
    refine Walk.call (cr := []) cal49 (hspec) rfl .none rfl rfl (LeL.refl _) trivial rfl rfl rfl ?_
    refine evd [] [] ?_
    refine dr ?_
    refine Walk.call (cr := [63]) cal15 (laws_toDataS_tr hs) rfl .none rfl rfl (LeL.refl _) trivial rfl (by first | rfl | (simp only [okCall, List.all_cons, List.all_nil, entOK, entOK', AV.idsL, AV.ids, idsL_append, ownCells_ids, List.map_cons, List.map_nil]; rfl)) (by first | rfl | (simp only [freshB, occH, occE, Res.ids, List.cons_append, List.nil_append, AV.idsL, AV.ids, idsL_append, ownCells_ids, zerosA_idsR, repNil, List.map_cons, List.map_nil, upC]; rfl)) ?_
    refine ev ?_
    refine Walk.call (cr := [68]) cal25 (laws_toClauseS_tr hok) rfl .none rfl rfl (LeL.refl _) trivial rfl (by first | rfl | (simp only [okCall, List.all_cons, List.all_nil, entOK, entOK', AV.idsL, AV.ids, idsL_append, ownCells_ids, List.map_cons, List.map_nil]; rfl)) (by first | rfl | (simp only [freshB, occH, occE, Res.ids, List.cons_append, List.nil_append, AV.idsL, AV.ids, idsL_append, ownCells_ids, zerosA_idsR, repNil, List.map_cons, List.map_nil, upC]; rfl)) ?_
    refine ev ?_
    refine Walk.call (cr := [64]) cal50 (laws_toValueS_tr hb hv) rfl .none rfl rfl (LeL.refl _) trivial rfl (by first | rfl | (simp only [okCall, List.all_cons, List.all_nil, entOK, entOK', AV.idsL, AV.ids, idsL_append, ownCells_ids, List.map_cons, List.map_nil]; rfl)) (by first | rfl | (simp only [freshB, occH, occE, Res.ids, List.cons_append, List.nil_append, AV.idsL, AV.ids, idsL_append, ownCells_ids, zerosA_idsR, repNil, List.map_cons, List.map_nil, upC]; rfl)) ?_
    refine ev ?_
    refine Walk.call (cr := []) cal24 (laws_toType_fn) rfl .none rfl rfl (LeL.refl _) trivial rfl (by first | rfl | (simp only [okCall, List.all_cons, List.all_nil, entOK, entOK', AV.idsL, AV.ids, idsL_append, ownCells_ids, List.map_cons, List.map_nil]; rfl)) (by first | rfl | (simp only [freshB, occH, occE, Res.ids, List.cons_append, List.nil_append, AV.idsL, AV.ids, idsL_append, ownCells_ids, zerosA_idsR, repNil, List.map_cons, List.map_nil, upC]; rfl)) ?_
    refine ev ?_
    refine Walk.lend (cr := [1]) (lr := [(63, _), (68, _), (64, _)]) cal51 (hown) rfl .none rfl rfl (.cons (.ms (k := 2) List.mem_cons_self (by intro x hx; obtain ⟨y, _, rfl⟩ := List.mem_map.1 hx; rfl) (by first | rfl | (simp [mkL_len, Pat.cs_len, Val.cs_len]; done))) (.cons (.le (.refl _)) (.cons (.ms (k := 9) (List.mem_cons_of_mem _ List.mem_cons_self) Cl.rows (by first | rfl | (simp [mkL_len, Pat.cs_len, Val.cs_len]; done))) (.cons (.ms (k := 3) (List.mem_cons_of_mem _ (List.mem_cons_of_mem _ List.mem_cons_self)) Val.cs_rows (by first | rfl | (simp [mkL_len, Pat.cs_len, Val.cs_len]; done))) .nil)))) ⟨rfl, ⟨rfl, ⟨rfl, trivial⟩⟩⟩ rfl (by first | rfl | (simp only [okLend, flatR_own, flatA, AV.ids]; rfl)) (by first | rfl | (simp only [freshB, occH, occE, Res.ids, List.cons_append, List.nil_append, AV.idsL, AV.ids, idsL_append, ownCells_ids, zerosA_idsR, repNil, List.map_cons, List.map_nil, upC]; rfl)) ?_
    refine ev ?_
    refine Walk.lend (cr := []) (lr := [(1, _)]) cal52 (laws_eqIntS_fn (by omega)) rfl .none rfl rfl (.cons (.ms (k := 1) List.mem_cons_self (by intro x hx; obtain ⟨y, _, rfl⟩ := List.mem_map.1 hx; rfl) (by first | rfl | (simp [mkL_len, Pat.cs_len, Val.cs_len]; done))) (.cons (.le (.refl _)) .nil)) ⟨rfl, trivial⟩ rfl (by first | rfl | (simp only [okLend, flatR_own, flatA, AV.ids]; rfl)) (by first | rfl | (simp only [freshB, occH, occE, Res.ids, List.cons_append, List.nil_append, AV.idsL, AV.ids, idsL_append, ownCells_ids, zerosA_idsR, repNil, List.map_cons, List.map_nil, upC]; rfl)) ?_
    refine ev ?_
    refine sq (fun h4 h4p h4s => ?_) fun h4 h4p h4s => ?_
    ·try simp only [Q] at h4p
     refine rn0 (r1 rfl) (.eqd ?_)
     all_goals (first | rfl | (exfalso; simp_all [clsEq_refl, valsEq_refl]; done) | (exfalso; simp [clsEq_refl, valsEq_refl] at *; omega))
    ·try simp only [Q] at h4p
     refine Walk.call (cr := []) cal15 (laws_toDataS_fn hs) rfl .none rfl rfl (LeL.refl _) trivial rfl (by first | rfl | (simp only [okCall, List.all_cons, List.all_nil, entOK, entOK', AV.idsL, AV.ids, idsL_append, ownCells_ids, List.map_cons, List.map_nil]; rfl)) (by first | rfl | (simp only [freshB, occH, occE, Res.ids, List.cons_append, List.nil_append, AV.idsL, AV.ids, idsL_append, ownCells_ids, zerosA_idsR, repNil, List.map_cons, List.map_nil, upC]; rfl)) ?_
     refine Walk.lend (cr := []) (lr := [(63, _)]) cal18 (laws_eqDataS_fn hs) rfl .none rfl rfl (.cons (.ms (k := 2) List.mem_cons_self (by intro x hx; obtain ⟨y, _, rfl⟩ := List.mem_map.1 hx; rfl) (by first | rfl | (simp [mkL_len, Pat.cs_len, Val.cs_len]; done))) (.cons (.le (.refl _)) .nil)) ⟨rfl, trivial⟩ rfl (by first | rfl | (simp only [okLend, flatR_own, flatA, AV.ids]; rfl)) (by first | rfl | (simp only [freshB, occH, occE, Res.ids, List.cons_append, List.nil_append, AV.idsL, AV.ids, idsL_append, ownCells_ids, zerosA_idsR, repNil, List.map_cons, List.map_nil, upC]; rfl)) ?_
     refine ev ?_
     refine sq (fun h5 h5p h5s => ?_) fun h5 h5p h5s => ?_
     ·try simp only [Q] at h5p
      refine rn0 (r1 rfl) (.eqd ?_)
      all_goals (first | rfl | (exfalso; simp_all [clsEq_refl, valsEq_refl]; done) | (exfalso; simp [clsEq_refl, valsEq_refl] at *; omega))
     ·try simp only [Q] at h5p
      refine Walk.call (cr := []) cal25 (laws_toClauseS_fn hok) rfl .none rfl rfl (LeL.refl _) trivial rfl (by first | rfl | (simp only [okCall, List.all_cons, List.all_nil, entOK, entOK', AV.idsL, AV.ids, idsL_append, ownCells_ids, List.map_cons, List.map_nil]; rfl)) (by first | rfl | (simp only [freshB, occH, occE, Res.ids, List.cons_append, List.nil_append, AV.idsL, AV.ids, idsL_append, ownCells_ids, zerosA_idsR, repNil, List.map_cons, List.map_nil, upC]; rfl)) ?_
      refine Walk.lend (cr := []) (lr := [(68, _)]) cal27 (laws_eqClauseS_fn hok) rfl .none rfl rfl (.cons (.ms (k := 9) List.mem_cons_self Cl.rows (by first | rfl | (simp [mkL_len, Pat.cs_len, Val.cs_len]; done))) (.cons (.le (.refl _)) .nil)) ⟨rfl, trivial⟩ rfl (by first | rfl | (simp only [okLend, flatR_own, flatA, AV.ids]; rfl)) (by first | rfl | (simp only [freshB, occH, occE, Res.ids, List.cons_append, List.nil_append, AV.idsL, AV.ids, idsL_append, ownCells_ids, zerosA_idsR, repNil, List.map_cons, List.map_nil, upC]; rfl)) ?_
      refine ev ?_
      refine sq (fun h6 h6p h6s => ?_) fun h6 h6p h6s => ?_
      ·try simp only [Q] at h6p
       refine rn0 (r1 rfl) (.eqd ?_)
       all_goals (first | rfl | (exfalso; simp_all [clsEq_refl, valsEq_refl]; done) | (exfalso; simp [clsEq_refl, valsEq_refl] at *; omega))
      ·try simp only [Q] at h6p
       refine Walk.call (cr := []) cal50 (laws_toValueS_fn hb hv) rfl .none rfl rfl (LeL.refl _) trivial rfl (by first | rfl | (simp only [okCall, List.all_cons, List.all_nil, entOK, entOK', AV.idsL, AV.ids, idsL_append, ownCells_ids, List.map_cons, List.map_nil]; rfl)) (by first | rfl | (simp only [freshB, occH, occE, Res.ids, List.cons_append, List.nil_append, AV.idsL, AV.ids, idsL_append, ownCells_ids, zerosA_idsR, repNil, List.map_cons, List.map_nil, upC]; rfl)) ?_
       refine Walk.lend (cr := []) (lr := [(64, _)]) cal53 (laws_eqValueS_of hb (fun x hx y => laws_eqValue_fn _ (Nat.le_refl _) (Vals.ok_mem hv x hx))) rfl .none rfl rfl (.cons (.ms (k := 3) List.mem_cons_self Val.cs_rows (by first | rfl | (simp [mkL_len, Pat.cs_len, Val.cs_len]; done))) (.cons (.le (.refl _)) .nil)) ⟨rfl, trivial⟩ rfl (by first | rfl | (simp only [okLend, flatR_own, flatA, AV.ids]; rfl)) (by first | rfl | (simp only [freshB, occH, occE, Res.ids, List.cons_append, List.nil_append, AV.idsL, AV.ids, idsL_append, ownCells_ids, zerosA_idsR, repNil, List.map_cons, List.map_nil, upC]; rfl)) ?_
       refine ev ?_
       refine sq (fun h7 h7p h7s => ?_) fun h7 h7p h7s => ?_
       ·try simp only [Q] at h7p
        refine rn0 (r1 rfl) (.eqd ?_)
        all_goals (first | rfl | (exfalso; simp_all [clsEq_refl, valsEq_refl]; done) | (exfalso; simp [clsEq_refl, valsEq_refl] at *; omega))
       ·try simp only [Q] at h7p
        refine Walk.call (cr := []) cal44 (markDataS_j (l := w) (k := 1) (by omega) (by omega) hs) rfl .none rfl rfl (.cons (LeA.msn (by first | rfl | (simp [Pat.cs_len, Val.cs_len]; done))) (.cons (.refl _) .nil)) ⟨rfl, trivial⟩ rfl (by first | rfl | (simp only [okCall, List.all_cons, List.all_nil, entOK, entOK', AV.idsL, AV.ids, idsL_append, ownCells_ids, List.map_cons, List.map_nil]; rfl)) (by first | rfl | (simp only [freshB, occH, occE, Res.ids, List.cons_append, List.nil_append, AV.idsL, AV.ids, idsL_append, ownCells_ids, zerosA_idsR, repNil, List.map_cons, List.map_nil, upC]; rfl)) ?_
        refine ev ?_
        refine Walk.call (cr := []) cal45 (markClauseS_j (l := cl) (k := 1 + szL Data.sz w) (by omega) (by omega) hok) rfl .none rfl rfl (.cons (LeA.msn (by first | rfl | (simp [Pat.cs_len, Val.cs_len]; done))) (.cons (.refl _) .nil)) ⟨rfl, trivial⟩ rfl (by first | rfl | (simp only [okCall, List.all_cons, List.all_nil, entOK, entOK', AV.idsL, AV.ids, idsL_append, ownCells_ids, List.map_cons, List.map_nil]; rfl)) (by first | rfl | (simp only [freshB, occH, occE, Res.ids, List.cons_append, List.nil_append, AV.idsL, AV.ids, idsL_append, ownCells_ids, zerosA_idsR, repNil, List.map_cons, List.map_nil, upC]; rfl)) ?_
        refine ev ?_
        refine Walk.call (cr := []) cal54 (markValueS_j (l := vs) (k := 1 + szL Data.sz w + szL Cl.szM cl) (by omega) (by omega) hb hv) rfl .none rfl rfl (.cons (LeA.msn (by first | rfl | (simp [Pat.cs_len, Val.cs_len]; done))) (.cons (.refl _) .nil)) ⟨rfl, trivial⟩ rfl (by first | rfl | (simp only [okCall, List.all_cons, List.all_nil, entOK, entOK', AV.idsL, AV.ids, idsL_append, ownCells_ids, List.map_cons, List.map_nil]; rfl)) (by first | rfl | (simp only [freshB, occH, occE, Res.ids, List.cons_append, List.nil_append, AV.idsL, AV.ids, idsL_append, ownCells_ids, zerosA_idsR, repNil, List.map_cons, List.map_nil, upC]; rfl)) ?_
        refine ev ?_
        refine sq (fun h8 h8p h8s => ?_) fun h8 h8p h8s => ?_
        ·try simp only [Q] at h8p
         refine sqT ?_
         refine rn0 (r1 rfl) (.eqd ?_)
         all_goals (first | rfl | (exfalso; simp_all [clsEq_refl, valsEq_refl]; done) | (exfalso; simp [clsEq_refl, valsEq_refl] at *; omega))
        ·try simp only [Q] at h8p
         refine Walk.lend (cr := []) (lr := [(1, _)]) cal52 (laws_eqIntS_fn (by omega)) rfl (.some rfl rfl h8) rfl rfl (.cons (.ms (k := 1) List.mem_cons_self (by intro x hx; obtain ⟨y, _, rfl⟩ := List.mem_map.1 hx; rfl) (by first | rfl | (simp [mkL_len, Pat.cs_len, Val.cs_len]; done))) (.cons (.le (.refl _)) .nil)) ⟨rfl, trivial⟩ rfl (by first | rfl | (simp only [okLend, flatR_own, flatA, AV.ids]; rfl)) (by first | rfl | (simp only [freshB, occH, occE, Res.ids, List.cons_append, List.nil_append, AV.idsL, AV.ids, idsL_append, ownCells_ids, zerosA_idsR, repNil, List.map_cons, List.map_nil, upC]; rfl)) ?_
         refine evs [] [(85, false)] ?_ ⟨⟨_, rfl, h8⟩, trivial⟩
         refine sq (fun h10 h10p h10s => ?_) fun h10 h10p h10s => ?_
         ·try simp only [Q] at h10p
          refine rn0 (r1 rfl) (.eqd ?_)
          all_goals (first | rfl | (exfalso; simp_all [clsEq_refl, valsEq_refl]; done) | (exfalso; simp [clsEq_refl, valsEq_refl] at *; omega))
         ·try simp only [Q] at h10p
          refine Walk.call (cr := []) cal55 (markIntS_j (m := true) (l := l) (k := 1) (by omega) (by omega)) rfl .none rfl rfl (.cons (LeA.msn (by first | rfl | (simp [Pat.cs_len, Val.cs_len]; done))) (.cons (.refl _) .nil)) ⟨rfl, trivial⟩ rfl (by first | rfl | (simp only [okCall, List.all_cons, List.all_nil, entOK, entOK', AV.idsL, AV.ids, idsL_append, ownCells_ids, List.map_cons, List.map_nil]; rfl)) (by first | rfl | (simp only [freshB, occH, occE, Res.ids, List.cons_append, List.nil_append, AV.idsL, AV.ids, idsL_append, ownCells_ids, zerosA_idsR, repNil, List.map_cons, List.map_nil, upC]; rfl)) ?_
          refine ev ?_
          refine Walk.lend (cr := []) (lr := [(1, _)]) cal56 (laws_heldIntS_fn (l := l) (k := 1) (by omega) (by omega)) rfl .none rfl rfl (.cons (.ms (k := 1) List.mem_cons_self (by intro x hx; obtain ⟨y, _, rfl⟩ := List.mem_map.1 hx; rfl) (by first | rfl | (simp [mkL_len, Pat.cs_len, Val.cs_len]; done))) (.cons (.le (.refl _)) .nil)) ⟨rfl, trivial⟩ rfl (by first | rfl | (simp only [okLend, flatR_own, flatA, AV.ids]; rfl)) (by first | rfl | (simp only [freshB, occH, occE, Res.ids, List.cons_append, List.nil_append, AV.idsL, AV.ids, idsL_append, ownCells_ids, zerosA_idsR, repNil, List.map_cons, List.map_nil, upC]; rfl)) ?_
          refine ev ?_
          refine sq (fun h11 h11p h11s => ?_) fun h11 h11p h11s => ?_
          ·try simp only [Q] at h11p
           refine rn0 (r1 rfl) (.eqd ?_)
           all_goals (first | rfl | (exfalso; simp_all [clsEq_refl, valsEq_refl]; done) | (exfalso; simp [clsEq_refl, valsEq_refl] at *; omega))
          ·try simp only [Q] at h11p
           refine sq (fun h12 h12p h12s => ?_) fun h12 h12p h12s => ?_
           ·try simp only [Q] at h12p
            refine rn0 (r1 rfl) (.eqd ?_)
            all_goals (first | rfl | (exfalso; simp_all [clsEq_refl, valsEq_refl]; done) | (exfalso; simp [clsEq_refl, valsEq_refl] at *; omega))
           ·try simp only [Q] at h12p
            refine Walk.call (cr := []) cal15 (laws_toDataS_fn hs) rfl .none rfl rfl (LeL.refl _) trivial rfl (by first | rfl | (simp only [okCall, List.all_cons, List.all_nil, entOK, entOK', AV.idsL, AV.ids, idsL_append, ownCells_ids, List.map_cons, List.map_nil]; rfl)) (by first | rfl | (simp only [freshB, occH, occE, Res.ids, List.cons_append, List.nil_append, AV.idsL, AV.ids, idsL_append, ownCells_ids, zerosA_idsR, repNil, List.map_cons, List.map_nil, upC]; rfl)) ?_
            refine evd [] [] ?_
            refine Walk.call (cr := []) cal24 (laws_toType_fn) rfl .none rfl rfl (LeL.refl _) trivial rfl (by first | rfl | (simp only [okCall, List.all_cons, List.all_nil, entOK, entOK', AV.idsL, AV.ids, idsL_append, ownCells_ids, List.map_cons, List.map_nil]; rfl)) (by first | rfl | (simp only [freshB, occH, occE, Res.ids, List.cons_append, List.nil_append, AV.idsL, AV.ids, idsL_append, ownCells_ids, zerosA_idsR, repNil, List.map_cons, List.map_nil, upC]; rfl)) ?_
            refine evd [] [] ?_
            refine Walk.call (cr := []) cal25 (laws_toClauseS_fn hok) rfl .none rfl rfl (LeL.refl _) trivial rfl (by first | rfl | (simp only [okCall, List.all_cons, List.all_nil, entOK, entOK', AV.idsL, AV.ids, idsL_append, ownCells_ids, List.map_cons, List.map_nil]; rfl)) (by first | rfl | (simp only [freshB, occH, occE, Res.ids, List.cons_append, List.nil_append, AV.idsL, AV.ids, idsL_append, ownCells_ids, zerosA_idsR, repNil, List.map_cons, List.map_nil, upC]; rfl)) ?_
            refine evd [] [] ?_
            refine Walk.call (cr := []) cal50 (laws_toValueS_fn hb hv) rfl .none rfl rfl (LeL.refl _) trivial rfl (by first | rfl | (simp only [okCall, List.all_cons, List.all_nil, entOK, entOK', AV.idsL, AV.ids, idsL_append, ownCells_ids, List.map_cons, List.map_nil]; rfl)) (by first | rfl | (simp only [freshB, occH, occE, Res.ids, List.cons_append, List.nil_append, AV.idsL, AV.ids, idsL_append, ownCells_ids, zerosA_idsR, repNil, List.map_cons, List.map_nil, upC]; rfl)) ?_
            refine Walk.call (cr := []) cal51 (himp) rfl .none rfl rfl (LeL.refl _) trivial rfl (by first | rfl | (simp only [okCall, List.all_cons, List.all_nil, entOK, entOK', AV.idsL, AV.ids, idsL_append, ownCells_ids, List.map_cons, List.map_nil]; rfl)) (by first | rfl | (simp only [freshB, occH, occE, Res.ids, List.cons_append, List.nil_append, AV.idsL, AV.ids, idsL_append, ownCells_ids, zerosA_idsR, repNil, List.map_cons, List.map_nil, upC]; rfl)) ?_
            refine evd [] [] ?_
            refine dr ?_
            refine Walk.call (cr := []) cal52 (laws_eqIntS_fn (l := l) (by omega)) rfl .none rfl rfl (LeL.refl _) trivial rfl (by first | rfl | (simp only [okCall, List.all_cons, List.all_nil, entOK, entOK', AV.idsL, AV.ids, idsL_append, ownCells_ids, List.map_cons, List.map_nil]; rfl)) (by first | rfl | (simp only [freshB, occH, occE, Res.ids, List.cons_append, List.nil_append, AV.idsL, AV.ids, idsL_append, ownCells_ids, zerosA_idsR, repNil, List.map_cons, List.map_nil, upC]; rfl)) ?_
            refine ev ?_
            refine sq (fun h13 h13p h13s => ?_) fun h13 h13p h13s => ?_
            ·try simp only [Q] at h13p
             refine rn0 (r1 rfl) (.eqd ?_)
             all_goals (first | rfl | (exfalso; simp_all [clsEq_refl, valsEq_refl]; done) | (exfalso; simp [clsEq_refl, valsEq_refl] at *; omega))
            ·try simp only [Q] at h13p
             refine Walk.lend (cr := []) (lr := [(1, _)]) cal56 (laws_heldIntS_fn (l := l) (k := 1) (by omega) (by omega)) rfl .none rfl rfl (.cons (.ms (k := 1) List.mem_cons_self (by intro x hx; obtain ⟨y, _, rfl⟩ := List.mem_map.1 hx; rfl) (by first | rfl | (simp [mkL_len, Pat.cs_len, Val.cs_len]; done))) (.cons (.le (.refl _)) .nil)) ⟨rfl, trivial⟩ rfl (by first | rfl | (simp only [okLend, flatR_own, flatA, AV.ids]; rfl)) (by first | rfl | (simp only [freshB, occH, occE, Res.ids, List.cons_append, List.nil_append, AV.idsL, AV.ids, idsL_append, ownCells_ids, zerosA_idsR, repNil, List.map_cons, List.map_nil, upC]; rfl)) ?_
             refine ev ?_
             refine sq (fun h14 h14p h14s => ?_) fun h14 h14p h14s => ?_
             ·try simp only [Q] at h14p
              refine rn0 (r1 rfl) (.eqd ?_)
              all_goals (first | rfl | (exfalso; simp_all [clsEq_refl, valsEq_refl]; done) | (exfalso; simp [clsEq_refl, valsEq_refl] at *; omega))
             ·try simp only [Q] at h14p
              refine sq (fun h15 h15p h15s => ?_) fun h15 h15p h15s => ?_
              ·try simp only [Q] at h15p
               refine rn0 (r1 rfl) (.eqd ?_)
               all_goals (first | rfl | (exfalso; simp_all [clsEq_refl, valsEq_refl]; done) | (exfalso; simp [clsEq_refl, valsEq_refl] at *; omega))
              ·try simp only [Q] at h15p
               refine rn0 (r1 rfl) (.eqd ?_)
               all_goals (first | rfl | (exfalso; simp_all [clsEq_refl, valsEq_refl]; done) | (exfalso; simp [clsEq_refl, valsEq_refl] at *; omega))
theorem laws_markIntS_e {k : Int} : FnD Tryz.prog 55 [.d (.sl []), .d (.i k)] [] (.d (.i k)) [] := by
 refine bd Tryz.f55 19 [] [] fun w0 F0 own kept hk => ?_
 refine CWp.loopX (ι := Unit) hk (fun x => [(5, .d (.i 0)), (1, .d (.i k))]) [6, 7, 8, 9, 10, 11, 12, 13, 14, 15, 16, 17] (fun x => []) (fun x => True) (fun x => 0) () trivial ⟨⟨_, rfl, (LeA.eqi (by first | rfl | (simp; done) | (simp_all; done) | omega))⟩, ⟨⟨_, rfl, (LeA.eqi (by first | rfl | (simp; done) | (simp_all; done) | omega))⟩, trivial⟩⟩ trivial (fun x => rfl) (fun x hg1 => ?_)
 refine evc [] [] ?_
 refine sq (fun h1 h1p h1s => ?_) fun h1 h1p h1s => ?_
 ·try simp only [Q] at h1p
  exfalso; revert h1; simp --stop
 ·try simp only [Q] at h1p
  refine rn0 (r1 rfl) (.eqd ?_)
  all_goals (first | rfl | (simp; done))
theorem laws_CoveredClauses_e {w : List Data} (hs : WSmall w) {a k : Int} {cl : List Cl} (hok : ClsOk cl) {vs : List Val} (hb : vs.length ≤ 1000000000000) (hv : Vals.ok vs)
  (hspec : FnD Tryz.prog 49 [.d (encDatas w), .agg [.d (.i a), .d (.i k)], .d (encCls cl), .d (encVals vs)] [] (.d (encInts [])) [])
  (himp : FnD Tryz.prog 51 [.d (encDatas w), .agg [.d (.i a), .d (.i k)], .d (encCls cl), .d (encVals vs)] [] (.d (encInts [])) []) :
  FnD Tryz.prog 9 [.d (encDatas w), .agg [.d (.i a), .d (.i k)], .d (encCls cl), .d (encVals vs)] [] (.d (.bool true)) [] := by
 have z := szr_or (left := 1048576) (mDatas w)
 have z2 := szr_or (left := szr 1048576 (mDatas w)) (mCls cl)
 have z3 := szr_or (left := szr (szr 1048576 (mDatas w)) (mCls cl)) (mVals vs)
 have hbd := szL_datas_le w
 have hnn := szL_nonneg (l := w) Data.sz_nn
 have hcb := Cls.szM_le cl
 have hcn := szL_nonneg (l := cl) Cl.szM_nn
 have hvb := Vals.szM_le vs
 have hvn := Vals.szM_nn vs
 rw [Vals.szM_eq] at hvb hvn
 refine bd Tryz.f9 123 [] [] fun w0 F0 own kept hk => ?_
 refine Walk.box (id := 3005) .none rfl rfl rfl rfl rfl rfl rfl ?_
 refine ev ?_
 refine Walk.call (cr := []) cal12 (laws_szDataS_fn hs (by omega) (by omega)) rfl .none rfl rfl (LeL.refl _) trivial rfl rfl rfl ?_
 refine ev ?_
 refine sq (fun h1 h1p h1s => ?_) fun h1 h1p h1s => ?_
 ·try simp only [Q] at h1p
  refine rn0 (r1 rfl) (.eqd ?_)
  all_goals (first | rfl | (exfalso; simp_all [clsEq_refl, valsEq_refl]; done) | (exfalso; simp [clsEq_refl, valsEq_refl] at *; omega))
 ·try simp only [Q] at h1p
  refine Walk.call (cr := []) cal22 (laws_szClauseS_fn hok (by omega) (by omega)) rfl .none rfl rfl (LeL.refl _) trivial rfl rfl rfl ?_
  refine ev ?_
  refine sq (fun h2 h2p h2s => ?_) fun h2 h2p h2s => ?_
  ·try simp only [Q] at h2p
   refine rn0 (r1 rfl) (.eqd ?_)
   all_goals (first | rfl | (exfalso; simp_all [clsEq_refl, valsEq_refl]; done) | (exfalso; simp [clsEq_refl, valsEq_refl] at *; omega))
  ·try simp only [Q] at h2p
   refine Walk.call (cr := []) cal48 (laws_szValueS_fn hb hv (by omega) (by omega)) rfl .none rfl rfl (LeL.refl _) trivial rfl rfl rfl ?_
   refine ev ?_
   refine sq (fun h3 h3p h3s => ?_) fun h3 h3p h3s => ?_
   ·try simp only [Q] at h3p
    refine rn0 (r1 rfl) (.eqd ?_)
    all_goals (first | rfl | (exfalso; simp_all [clsEq_refl, valsEq_refl]; done) | (exfalso; simp [clsEq_refl, valsEq_refl] at *; omega))
   ·try simp only [Q] at h3p
    refine Walk.call (cr := []) cal15 (laws_toDataS_fn hs) rfl .none rfl rfl (LeL.refl _) trivial rfl rfl rfl ?_
    refine evd [] [] ?_
    refine Walk.call (cr := []) cal24 (laws_toType_fn) rfl .none rfl rfl (LeL.refl _) trivial rfl rfl rfl ?_
    refine evd [] [] ?_
    refine Walk.call (cr := []) cal25 (laws_toClauseS_fn hok) rfl .none rfl rfl (LeL.refl _) trivial rfl rfl rfl ?_
    refine evd [] [] ?_
    refine Walk.call (cr := []) cal50 (laws_toValueS_fn hb hv) rfl .none rfl rfl (LeL.refl _) trivial rfl rfl rfl ?_
    refine Walk.call (cr := []) cal49 (hspec) rfl .none rfl rfl (LeL.refl _) trivial rfl rfl rfl ?_
    refine evd [] [] ?_
    refine dr ?_
    refine Walk.call (cr := [63]) cal15 (laws_toDataS_tr hs) rfl .none rfl rfl (LeL.refl _) trivial rfl (by first | rfl | (simp only [okCall, List.all_cons, List.all_nil, entOK, entOK', AV.idsL, AV.ids, idsL_append, ownCells_ids, List.map_cons, List.map_nil]; rfl)) (by first | rfl | (simp only [freshB, occH, occE, Res.ids, List.cons_append, List.nil_append, AV.idsL, AV.ids, idsL_append, ownCells_ids, zerosA_idsR, repNil, List.map_cons, List.map_nil, upC]; rfl)) ?_
    refine ev ?_
    refine Walk.call (cr := [68]) cal25 (laws_toClauseS_tr hok) rfl .none rfl rfl (LeL.refl _) trivial rfl (by first | rfl | (simp only [okCall, List.all_cons, List.all_nil, entOK, entOK', AV.idsL, AV.ids, idsL_append, ownCells_ids, List.map_cons, List.map_nil]; rfl)) (by first | rfl | (simp only [freshB, occH, occE, Res.ids, List.cons_append, List.nil_append, AV.idsL, AV.ids, idsL_append, ownCells_ids, zerosA_idsR, repNil, List.map_cons, List.map_nil, upC]; rfl)) ?_
    refine ev ?_
    refine Walk.call (cr := [64]) cal50 (laws_toValueS_tr hb hv) rfl .none rfl rfl (LeL.refl _) trivial rfl (by first | rfl | (simp only [okCall, List.all_cons, List.all_nil, entOK, entOK', AV.idsL, AV.ids, idsL_append, ownCells_ids, List.map_cons, List.map_nil]; rfl)) (by first | rfl | (simp only [freshB, occH, occE, Res.ids, List.cons_append, List.nil_append, AV.idsL, AV.ids, idsL_append, ownCells_ids, zerosA_idsR, repNil, List.map_cons, List.map_nil, upC]; rfl)) ?_
    refine ev ?_
    refine Walk.call (cr := []) cal24 (laws_toType_fn) rfl .none rfl rfl (LeL.refl _) trivial rfl (by first | rfl | (simp only [okCall, List.all_cons, List.all_nil, entOK, entOK', AV.idsL, AV.ids, idsL_append, ownCells_ids, List.map_cons, List.map_nil]; rfl)) (by first | rfl | (simp only [freshB, occH, occE, Res.ids, List.cons_append, List.nil_append, AV.idsL, AV.ids, idsL_append, ownCells_ids, zerosA_idsR, repNil, List.map_cons, List.map_nil, upC]; rfl)) ?_
    refine ev ?_
    refine Walk.lend (cr := []) (lr := [(63, _), (68, _), (64, _)]) cal51 (himp) rfl .none rfl rfl (.cons (.ms (k := 2) List.mem_cons_self (by intro x hx; obtain ⟨y, _, rfl⟩ := List.mem_map.1 hx; rfl) (by first | rfl | (simp [mkL_len, Pat.cs_len, Val.cs_len]; done))) (.cons (.le (.refl _)) (.cons (.ms (k := 9) (List.mem_cons_of_mem _ List.mem_cons_self) Cl.rows (by first | rfl | (simp [mkL_len, Pat.cs_len, Val.cs_len]; done))) (.cons (.ms (k := 3) (List.mem_cons_of_mem _ (List.mem_cons_of_mem _ List.mem_cons_self)) Val.cs_rows (by first | rfl | (simp [mkL_len, Pat.cs_len, Val.cs_len]; done))) .nil)))) ⟨rfl, ⟨rfl, ⟨rfl, trivial⟩⟩⟩ rfl (by first | rfl | (simp only [okLend, flatR_own, flatA, AV.ids]; rfl)) (by first | rfl | (simp only [freshB, occH, occE, Res.ids, List.cons_append, List.nil_append, AV.idsL, AV.ids, idsL_append, ownCells_ids, zerosA_idsR, repNil, List.map_cons, List.map_nil, upC]; rfl)) ?_
    refine ev ?_
    refine Walk.call (cr := []) cal52 (laws_eqIntS_fn (l := []) (m := []) (by simp)) rfl .none rfl rfl (LeL.refl _) trivial rfl (by first | rfl | (simp only [okCall, List.all_cons, List.all_nil, entOK, entOK', AV.idsL, AV.ids, idsL_append, ownCells_ids, List.map_cons, List.map_nil]; rfl)) (by first | rfl | (simp only [freshB, occH, occE, Res.ids, List.cons_append, List.nil_append, AV.idsL, AV.ids, idsL_append, ownCells_ids, zerosA_idsR, repNil, List.map_cons, List.map_nil, upC]; rfl)) ?_
    refine ev ?_
    refine sq (fun h4 h4p h4s => ?_) fun h4 h4p h4s => ?_
    ·try simp only [Q] at h4p
     refine rn0 (r1 rfl) (.eqd ?_)
     all_goals (first | rfl | (exfalso; simp_all [clsEq_refl, valsEq_refl]; done) | (exfalso; simp [clsEq_refl, valsEq_refl] at *; omega))
    ·try simp only [Q] at h4p
     refine Walk.call (cr := []) cal15 (laws_toDataS_fn hs) rfl .none rfl rfl (LeL.refl _) trivial rfl (by first | rfl | (simp only [okCall, List.all_cons, List.all_nil, entOK, entOK', AV.idsL, AV.ids, idsL_append, ownCells_ids, List.map_cons, List.map_nil]; rfl)) (by first | rfl | (simp only [freshB, occH, occE, Res.ids, List.cons_append, List.nil_append, AV.idsL, AV.ids, idsL_append, ownCells_ids, zerosA_idsR, repNil, List.map_cons, List.map_nil, upC]; rfl)) ?_
     refine Walk.lend (cr := []) (lr := [(63, _)]) cal18 (laws_eqDataS_fn hs) rfl .none rfl rfl (.cons (.ms (k := 2) List.mem_cons_self (by intro x hx; obtain ⟨y, _, rfl⟩ := List.mem_map.1 hx; rfl) (by first | rfl | (simp [mkL_len, Pat.cs_len, Val.cs_len]; done))) (.cons (.le (.refl _)) .nil)) ⟨rfl, trivial⟩ rfl (by first | rfl | (simp only [okLend, flatR_own, flatA, AV.ids]; rfl)) (by first | rfl | (simp only [freshB, occH, occE, Res.ids, List.cons_append, List.nil_append, AV.idsL, AV.ids, idsL_append, ownCells_ids, zerosA_idsR, repNil, List.map_cons, List.map_nil, upC]; rfl)) ?_
     refine ev ?_
     refine sq (fun h5 h5p h5s => ?_) fun h5 h5p h5s => ?_
     ·try simp only [Q] at h5p
      refine rn0 (r1 rfl) (.eqd ?_)
      all_goals (first | rfl | (exfalso; simp_all [clsEq_refl, valsEq_refl]; done) | (exfalso; simp [clsEq_refl, valsEq_refl] at *; omega))
     ·try simp only [Q] at h5p
      refine Walk.call (cr := []) cal25 (laws_toClauseS_fn hok) rfl .none rfl rfl (LeL.refl _) trivial rfl (by first | rfl | (simp only [okCall, List.all_cons, List.all_nil, entOK, entOK', AV.idsL, AV.ids, idsL_append, ownCells_ids, List.map_cons, List.map_nil]; rfl)) (by first | rfl | (simp only [freshB, occH, occE, Res.ids, List.cons_append, List.nil_append, AV.idsL, AV.ids, idsL_append, ownCells_ids, zerosA_idsR, repNil, List.map_cons, List.map_nil, upC]; rfl)) ?_
      refine Walk.lend (cr := []) (lr := [(68, _)]) cal27 (laws_eqClauseS_fn hok) rfl .none rfl rfl (.cons (.ms (k := 9) List.mem_cons_self Cl.rows (by first | rfl | (simp [mkL_len, Pat.cs_len, Val.cs_len]; done))) (.cons (.le (.refl _)) .nil)) ⟨rfl, trivial⟩ rfl (by first | rfl | (simp only [okLend, flatR_own, flatA, AV.ids]; rfl)) (by first | rfl | (simp only [freshB, occH, occE, Res.ids, List.cons_append, List.nil_append, AV.idsL, AV.ids, idsL_append, ownCells_ids, zerosA_idsR, repNil, List.map_cons, List.map_nil, upC]; rfl)) ?_
      refine ev ?_
      refine sq (fun h6 h6p h6s => ?_) fun h6 h6p h6s => ?_
      ·try simp only [Q] at h6p
       refine rn0 (r1 rfl) (.eqd ?_)
       all_goals (first | rfl | (exfalso; simp_all [clsEq_refl, valsEq_refl]; done) | (exfalso; simp [clsEq_refl, valsEq_refl] at *; omega))
      ·try simp only [Q] at h6p
       refine Walk.call (cr := []) cal50 (laws_toValueS_fn hb hv) rfl .none rfl rfl (LeL.refl _) trivial rfl (by first | rfl | (simp only [okCall, List.all_cons, List.all_nil, entOK, entOK', AV.idsL, AV.ids, idsL_append, ownCells_ids, List.map_cons, List.map_nil]; rfl)) (by first | rfl | (simp only [freshB, occH, occE, Res.ids, List.cons_append, List.nil_append, AV.idsL, AV.ids, idsL_append, ownCells_ids, zerosA_idsR, repNil, List.map_cons, List.map_nil, upC]; rfl)) ?_
       refine Walk.lend (cr := []) (lr := [(64, _)]) cal53 (laws_eqValueS_of hb (fun x hx y => laws_eqValue_fn _ (Nat.le_refl _) (Vals.ok_mem hv x hx))) rfl .none rfl rfl (.cons (.ms (k := 3) List.mem_cons_self Val.cs_rows (by first | rfl | (simp [mkL_len, Pat.cs_len, Val.cs_len]; done))) (.cons (.le (.refl _)) .nil)) ⟨rfl, trivial⟩ rfl (by first | rfl | (simp only [okLend, flatR_own, flatA, AV.ids]; rfl)) (by first | rfl | (simp only [freshB, occH, occE, Res.ids, List.cons_append, List.nil_append, AV.idsL, AV.ids, idsL_append, ownCells_ids, zerosA_idsR, repNil, List.map_cons, List.map_nil, upC]; rfl)) ?_
       refine ev ?_
       refine sq (fun h7 h7p h7s => ?_) fun h7 h7p h7s => ?_
       ·try simp only [Q] at h7p
        refine rn0 (r1 rfl) (.eqd ?_)
        all_goals (first | rfl | (exfalso; simp_all [clsEq_refl, valsEq_refl]; done) | (exfalso; simp [clsEq_refl, valsEq_refl] at *; omega))
       ·try simp only [Q] at h7p
        refine Walk.call (cr := []) cal44 (markDataS_j (l := w) (k := 1) (by omega) (by omega) hs) rfl .none rfl rfl (.cons (LeA.msn (by first | rfl | (simp [Pat.cs_len, Val.cs_len]; done))) (.cons (.refl _) .nil)) ⟨rfl, trivial⟩ rfl (by first | rfl | (simp only [okCall, List.all_cons, List.all_nil, entOK, entOK', AV.idsL, AV.ids, idsL_append, ownCells_ids, List.map_cons, List.map_nil]; rfl)) (by first | rfl | (simp only [freshB, occH, occE, Res.ids, List.cons_append, List.nil_append, AV.idsL, AV.ids, idsL_append, ownCells_ids, zerosA_idsR, repNil, List.map_cons, List.map_nil, upC]; rfl)) ?_
        refine ev ?_
        refine Walk.call (cr := []) cal45 (markClauseS_j (l := cl) (k := 1 + szL Data.sz w) (by omega) (by omega) hok) rfl .none rfl rfl (.cons (LeA.msn (by first | rfl | (simp [Pat.cs_len, Val.cs_len]; done))) (.cons (.refl _) .nil)) ⟨rfl, trivial⟩ rfl (by first | rfl | (simp only [okCall, List.all_cons, List.all_nil, entOK, entOK', AV.idsL, AV.ids, idsL_append, ownCells_ids, List.map_cons, List.map_nil]; rfl)) (by first | rfl | (simp only [freshB, occH, occE, Res.ids, List.cons_append, List.nil_append, AV.idsL, AV.ids, idsL_append, ownCells_ids, zerosA_idsR, repNil, List.map_cons, List.map_nil, upC]; rfl)) ?_
        refine ev ?_
        refine Walk.call (cr := []) cal54 (markValueS_j (l := vs) (k := 1 + szL Data.sz w + szL Cl.szM cl) (by omega) (by omega) hb hv) rfl .none rfl rfl (.cons (LeA.msn (by first | rfl | (simp [Pat.cs_len, Val.cs_len]; done))) (.cons (.refl _) .nil)) ⟨rfl, trivial⟩ rfl (by first | rfl | (simp only [okCall, List.all_cons, List.all_nil, entOK, entOK', AV.idsL, AV.ids, idsL_append, ownCells_ids, List.map_cons, List.map_nil]; rfl)) (by first | rfl | (simp only [freshB, occH, occE, Res.ids, List.cons_append, List.nil_append, AV.idsL, AV.ids, idsL_append, ownCells_ids, zerosA_idsR, repNil, List.map_cons, List.map_nil, upC]; rfl)) ?_
        refine ev ?_
        refine sq (fun h8 h8p h8s => ?_) fun h8 h8p h8s => ?_
        ·try simp only [Q] at h8p
         refine sqT ?_
         refine rn0 (r1 rfl) (.eqd ?_)
         all_goals (first | rfl | (exfalso; simp_all [clsEq_refl, valsEq_refl]; done) | (exfalso; simp [clsEq_refl, valsEq_refl] at *; omega))
        ·try simp only [Q] at h8p
         refine Walk.call (cr := []) cal52 (laws_eqIntS_fn (l := []) (m := []) (by simp)) rfl (.some rfl rfl h8) rfl rfl (LeL.refl _) trivial rfl (by first | rfl | (simp only [okCall, List.all_cons, List.all_nil, entOK, entOK', AV.idsL, AV.ids, idsL_append, ownCells_ids, List.map_cons, List.map_nil]; rfl)) (by first | rfl | (simp only [freshB, occH, occE, Res.ids, List.cons_append, List.nil_append, AV.idsL, AV.ids, idsL_append, ownCells_ids, zerosA_idsR, repNil, List.map_cons, List.map_nil, upC]; rfl)) ?_
         refine evs [] [(85, false)] ?_ ⟨⟨_, rfl, h8⟩, trivial⟩
         refine sq (fun h10 h10p h10s => ?_) fun h10 h10p h10s => ?_
         ·try simp only [Q] at h10p
          refine rn0 (r1 rfl) (.eqd ?_)
          all_goals (first | rfl | (exfalso; simp_all [clsEq_refl, valsEq_refl]; done) | (exfalso; simp [clsEq_refl, valsEq_refl] at *; omega))
         ·try simp only [Q] at h10p
          refine Walk.call (cr := []) cal55 (laws_markIntS_e) rfl .none rfl rfl (LeL.refl _) trivial rfl (by first | rfl | (simp only [okCall, List.all_cons, List.all_nil, entOK, entOK', AV.idsL, AV.ids, idsL_append, ownCells_ids, List.map_cons, List.map_nil]; rfl)) (by first | rfl | (simp only [freshB, occH, occE, Res.ids, List.cons_append, List.nil_append, AV.idsL, AV.ids, idsL_append, ownCells_ids, zerosA_idsR, repNil, List.map_cons, List.map_nil, upC]; rfl)) ?_
          refine ev ?_
          refine Walk.call (cr := []) cal56 (laws_heldIntS_fn (l := []) (k := 1) (by omega) (by simp)) rfl .none rfl rfl (LeL.refl _) trivial rfl (by first | rfl | (simp only [okCall, List.all_cons, List.all_nil, entOK, entOK', AV.idsL, AV.ids, idsL_append, ownCells_ids, List.map_cons, List.map_nil]; rfl)) (by first | rfl | (simp only [freshB, occH, occE, Res.ids, List.cons_append, List.nil_append, AV.idsL, AV.ids, idsL_append, ownCells_ids, zerosA_idsR, repNil, List.map_cons, List.map_nil, upC]; rfl)) ?_
          refine ev ?_
          refine sq (fun h11 h11p h11s => ?_) fun h11 h11p h11s => ?_
          ·try simp only [Q] at h11p
           refine rn0 (r1 rfl) (.eqd ?_)
           all_goals (first | rfl | (exfalso; simp_all [clsEq_refl, valsEq_refl]; done) | (exfalso; simp [clsEq_refl, valsEq_refl] at *; omega))
          ·try simp only [Q] at h11p
           refine sq (fun h12 h12p h12s => ?_) fun h12 h12p h12s => ?_
           ·try simp only [Q] at h12p
            refine rn0 (r1 rfl) (.eqd ?_)
            all_goals (first | rfl | (exfalso; simp_all [clsEq_refl, valsEq_refl]; done) | (exfalso; simp [clsEq_refl, valsEq_refl] at *; omega))
           ·try simp only [Q] at h12p
            refine Walk.call (cr := []) cal15 (laws_toDataS_fn hs) rfl .none rfl rfl (LeL.refl _) trivial rfl (by first | rfl | (simp only [okCall, List.all_cons, List.all_nil, entOK, entOK', AV.idsL, AV.ids, idsL_append, ownCells_ids, List.map_cons, List.map_nil]; rfl)) (by first | rfl | (simp only [freshB, occH, occE, Res.ids, List.cons_append, List.nil_append, AV.idsL, AV.ids, idsL_append, ownCells_ids, zerosA_idsR, repNil, List.map_cons, List.map_nil, upC]; rfl)) ?_
            refine evd [] [] ?_
            refine Walk.call (cr := []) cal24 (laws_toType_fn) rfl .none rfl rfl (LeL.refl _) trivial rfl (by first | rfl | (simp only [okCall, List.all_cons, List.all_nil, entOK, entOK', AV.idsL, AV.ids, idsL_append, ownCells_ids, List.map_cons, List.map_nil]; rfl)) (by first | rfl | (simp only [freshB, occH, occE, Res.ids, List.cons_append, List.nil_append, AV.idsL, AV.ids, idsL_append, ownCells_ids, zerosA_idsR, repNil, List.map_cons, List.map_nil, upC]; rfl)) ?_
            refine evd [] [] ?_
            refine Walk.call (cr := []) cal25 (laws_toClauseS_fn hok) rfl .none rfl rfl (LeL.refl _) trivial rfl (by first | rfl | (simp only [okCall, List.all_cons, List.all_nil, entOK, entOK', AV.idsL, AV.ids, idsL_append, ownCells_ids, List.map_cons, List.map_nil]; rfl)) (by first | rfl | (simp only [freshB, occH, occE, Res.ids, List.cons_append, List.nil_append, AV.idsL, AV.ids, idsL_append, ownCells_ids, zerosA_idsR, repNil, List.map_cons, List.map_nil, upC]; rfl)) ?_
            refine evd [] [] ?_
            refine Walk.call (cr := []) cal50 (laws_toValueS_fn hb hv) rfl .none rfl rfl (LeL.refl _) trivial rfl (by first | rfl | (simp only [okCall, List.all_cons, List.all_nil, entOK, entOK', AV.idsL, AV.ids, idsL_append, ownCells_ids, List.map_cons, List.map_nil]; rfl)) (by first | rfl | (simp only [freshB, occH, occE, Res.ids, List.cons_append, List.nil_append, AV.idsL, AV.ids, idsL_append, ownCells_ids, zerosA_idsR, repNil, List.map_cons, List.map_nil, upC]; rfl)) ?_
            refine Walk.call (cr := []) cal51 (himp) rfl .none rfl rfl (LeL.refl _) trivial rfl (by first | rfl | (simp only [okCall, List.all_cons, List.all_nil, entOK, entOK', AV.idsL, AV.ids, idsL_append, ownCells_ids, List.map_cons, List.map_nil]; rfl)) (by first | rfl | (simp only [freshB, occH, occE, Res.ids, List.cons_append, List.nil_append, AV.idsL, AV.ids, idsL_append, ownCells_ids, zerosA_idsR, repNil, List.map_cons, List.map_nil, upC]; rfl)) ?_
            refine evd [] [] ?_
            refine dr ?_
            refine Walk.call (cr := []) cal52 (laws_eqIntS_fn (l := []) (m := []) (by simp)) rfl .none rfl rfl (LeL.refl _) trivial rfl (by first | rfl | (simp only [okCall, List.all_cons, List.all_nil, entOK, entOK', AV.idsL, AV.ids, idsL_append, ownCells_ids, List.map_cons, List.map_nil]; rfl)) (by first | rfl | (simp only [freshB, occH, occE, Res.ids, List.cons_append, List.nil_append, AV.idsL, AV.ids, idsL_append, ownCells_ids, zerosA_idsR, repNil, List.map_cons, List.map_nil, upC]; rfl)) ?_
            refine ev ?_
            refine sq (fun h13 h13p h13s => ?_) fun h13 h13p h13s => ?_
            ·try simp only [Q] at h13p
             refine rn0 (r1 rfl) (.eqd ?_)
             all_goals (first | rfl | (exfalso; simp_all [clsEq_refl, valsEq_refl]; done) | (exfalso; simp [clsEq_refl, valsEq_refl] at *; omega))
            ·try simp only [Q] at h13p
             refine Walk.call (cr := []) cal56 (laws_heldIntS_fn (l := []) (k := 1) (by omega) (by simp)) rfl .none rfl rfl (LeL.refl _) trivial rfl (by first | rfl | (simp only [okCall, List.all_cons, List.all_nil, entOK, entOK', AV.idsL, AV.ids, idsL_append, ownCells_ids, List.map_cons, List.map_nil]; rfl)) (by first | rfl | (simp only [freshB, occH, occE, Res.ids, List.cons_append, List.nil_append, AV.idsL, AV.ids, idsL_append, ownCells_ids, zerosA_idsR, repNil, List.map_cons, List.map_nil, upC]; rfl)) ?_
             refine ev ?_
             refine sq (fun h14 h14p h14s => ?_) fun h14 h14p h14s => ?_
             ·try simp only [Q] at h14p
              refine rn0 (r1 rfl) (.eqd ?_)
              all_goals (first | rfl | (exfalso; simp_all [clsEq_refl, valsEq_refl]; done) | (exfalso; simp [clsEq_refl, valsEq_refl] at *; omega))
             ·try simp only [Q] at h14p
              refine sq (fun h15 h15p h15s => ?_) fun h15 h15p h15s => ?_
              ·try simp only [Q] at h15p
               refine rn0 (r1 rfl) (.eqd ?_)
               all_goals (first | rfl | (exfalso; simp_all [clsEq_refl, valsEq_refl]; done) | (exfalso; simp [clsEq_refl, valsEq_refl] at *; omega))
              ·try simp only [Q] at h15p
               refine rn0 (r1 rfl) (.eqd ?_)
               all_goals (first | rfl | (exfalso; simp_all [clsEq_refl, valsEq_refl]; done) | (exfalso; simp [clsEq_refl, valsEq_refl] at *; omega))
theorem laws_FnExactCoveredClauses_fn {w : List Data} (hs : WSmall w) {a k : Int} {cl : List Cl} (hok : ClsOk cl) (hz : ClsSz cl) {vs : List Val} (hb : vs.length ≤ 1000000000000) (hv : Vals.ok vs) (hvs : ∀ v ∈ vs, v.size ≤ 1000000000000) :
  FnD Tryz.prog 9 [.d (encDatas w), .agg [.d (.i a), .d (.i k)], .d (encCls cl), .d (encVals vs)] [] (.d (.bool true)) [] := by
 have hspec := spec_CoveredClauses_fn hs (a := a) (k := k) hok hz hb hv hvs
 have himp := impl_CoveredClauses_fn hs (a := a) (k := k) hok hb hv
 by_cases he : coverV w ⟨a, k⟩ cl vs = []
 ·rw [he] at hspec himp
  exact laws_CoveredClauses_e hs hok hb hv hspec himp
 ·by_cases hc : clsValid w ⟨a, k⟩ cl = true ∧ vs.all (isV w ⟨a, k⟩) = true
  ·have e : coverV w ⟨a, k⟩ cl vs = covTo (covF cl vs vs.length) 8 := by unfold coverV; rw [if_pos hc]
   rw [e] at he hspec himp
   exact laws_CoveredClauses_l hs hok hb hv (covTo_len _ 8) hspec himp (impl_CoveredClauses_own hs hok hb hv hc.1 (fun i hi => List.all_eq_true.1 hc.2 _ (nth_mem hi)) he)
  ·exact absurd (by unfold coverV; rw [if_neg hc]) he
end Go.Proofs.YtdgknigklgnefaaGreat
