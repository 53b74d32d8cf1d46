/-
  THE LAW FnExactExhaustive: whatever the arguments of bulk at most 1048576 are, the call returns true, and the arguments read as before.
  Conditions: the bulk alone.
-/
import Derived.Test.YtdgknigklgnefaaGreatExh5
namespace Go.Proofs.YtdgknigklgnefaaGreat
open Go
set_option linter.unusedSimpArgs false
set_option linter.unusedVariables false
set_option maxRecDepth 100000
set_option maxHeartbeats 2000000
theorem minusK_some' {f : Ty → Pat → Pat → List Pat} {c : Int} {ts : List Ty} {xs bs front : List Pat} {i : Nat} (h1 : i < ts.length) (h2 : i < xs.length) (h3 : i < bs.length) (h : (meetQ 11 (nth xs i) (nth bs i)).isSome = true) :
  minusK f c (ts.drop i) (xs.drop i) (bs.drop i) front = (f (nth ts i) (nth xs i) (nth bs i)).map (fun z => ctorQ c (front ++ [z] ++ xs.drop (i + 1))) ++ minusK f c (ts.drop (i + 1)) (xs.drop (i + 1)) (bs.drop (i + 1)) (front ++ [meetZ 11 (nth xs i) (nth bs i)]) := by
 rw [meetZ_is h]; exact minusK_some h1 h2 h3 h
theorem cc_ctorQ (c : Int) (L : List Pat) : Pat.cc (ctorQ c L) = [D.i 4, D.i c, D.i 0, D.i 0, D.i 0, D.sl (L.map Pat.cc)] := by
 show [D.i 4, D.i c, D.i 0, D.i 0, D.i 0, D.sl (Pat.cs L)] = _
 rw [Pat.cs_cd]
section
variable {w : List Data}
abbrev MinusSp (w : List Data) (n : Nat) (ta tk : Int) (a b : Pat) : Prop :=
 FnD Tryz.prog 250 [.d (encDatas w), .agg [.d (.i ta), .d (.i tk)], .agg [.d (.i (a).op), .d (.i (a).ctor), .d (.i (a).n), .d (.i (a).m), .d (.i (a).var), .d (encPats (a).kids)], .agg [.d (.i (b).op), .d (.i (b).ctor), .d (.i (b).n), .d (.i (b).m), .d (.i (b).var), .d (encPats (b).kids)]] [] (.d (encPats (minusQ w n ⟨ta, tk⟩ a b))) []
theorem spec_l5Kids_fn (hs : Spa w) {n m : Nat} (hn : n + 1 ≤ 10) (hm : m + 1 ≤ 11) (hnm : n < m)
  (ih : ∀ {ta tk : Int} {a b : Pat}, InS (w.length * 4) ⟨ta, tk⟩ → partP w m ⟨ta, tk⟩ a = true → partP w n ⟨ta, tk⟩ b = true → MinusSp w n ta tk a b)
  {ta tk : Int} {a b : Pat} (ht : InS (w.length * 4) ⟨ta, tk⟩) (ha : partP w (m + 1) ⟨ta, tk⟩ a = true) (hb : partP w (n + 1) ⟨ta, tk⟩ b = true) (h4 : a.op = 4) (h4b : b.op = 4) (hc : a.ctor = b.ctor) :
  FnD Tryz.prog 297 [.d (encDatas w), .agg [.d (.i ta), .d (.i tk)], .agg [.d (.i (a).op), .d (.i (a).ctor), .d (.i (a).n), .d (.i (a).m), .d (.i (a).var), .d (encPats (a).kids)], .agg [.d (.i (b).op), .d (.i (b).ctor), .d (.i (b).n), .d (.i (b).m), .d (.i (b).var), .d (encPats (b).kids)]] [] (.d (encPats (minusQ w (n + 1) ⟨ta, tk⟩ a b))) [] := by
 obtain ⟨c1, c2, c3, -⟩ := part_ctor ha h4
 obtain ⟨d1, d2, d3, -⟩ := part_ctor hb h4b
 rw [← hc] at d3
 have h3l := hs.args ⟨ta, tk⟩ a.ctor ht c1
 have ka := fun i (hi : i < a.kids.length) => part_kid ha hi
 have kb := fun i (hi : i < b.kids.length) => part_kid hb hi
 rw [types4 h4] at ka
 rw [types4 h4b, ← hc] at kb
 have hbd := minus_bd hs (n := n + 1) (m := m + 1) (by omega) hn ht ha hb
 have e : minusQ w (n + 1) ⟨ta, tk⟩ a b = minusK (minusQ w n) a.ctor (argsOf w ⟨ta, tk⟩ a.ctor) a.kids b.kids [] := by rw [minus_c h4b h4]; exact if_pos hc
 have hins := fun i (hi : i < (argsOf w ⟨ta, tk⟩ a.ctor).length) => args_ins hs.dp ht c1 _ (nth_mem hi)
 have hmi : ∀ i, i < (argsOf w ⟨ta, tk⟩ a.ctor).length → FnD Tryz.prog 250 [.d (encDatas w), .agg [.d (.i (nth (argsOf w ⟨ta, tk⟩ a.ctor) i).data), .d (.i (nth (argsOf w ⟨ta, tk⟩ a.ctor) i).index)], .agg [.d (.i (nth a.kids i).op), .d (.i (nth a.kids i).ctor), .d (.i (nth a.kids i).n), .d (.i (nth a.kids i).m), .d (.i (nth a.kids i).var), .d (encPats (nth a.kids i).kids)], .agg [.d (.i (nth b.kids i).op), .d (.i (nth b.kids i).ctor), .d (.i (nth b.kids i).n), .d (.i (nth b.kids i).m), .d (.i (nth b.kids i).var), .d (encPats (nth b.kids i).kids)]] [] (.d (encPats (minusQ w n (nth (argsOf w ⟨ta, tk⟩ a.ctor) i) (nth a.kids i) (nth b.kids i)))) [] := fun i hi => ih (ta := (nth (argsOf w ⟨ta, tk⟩ a.ctor) i).data) (tk := (nth (argsOf w ⟨ta, tk⟩ a.ctor) i).index) (hins i hi) (ka i (by omega)) (kb i (by omega))
 have hme := fun i (hi : i < (argsOf w ⟨ta, tk⟩ a.ctor).length) => spec_l5Meet_fn hs 11 m (t := nth (argsOf w ⟨ta, tk⟩ a.ctor) i) (by omega) (hins i hi) (ka i (by omega)) (part_le (by omega) (kb i (by omega)))
 rw [e] at hbd ⊢
 have hT : ∀ i out front, i < (argsOf w ⟨ta, tk⟩ a.ctor).length → out ++ minusK (minusQ w n) a.ctor ((argsOf w ⟨ta, tk⟩ a.ctor).drop i) (a.kids.drop i) (b.kids.drop i) front = minusK (minusQ w n) a.ctor (argsOf w ⟨ta, tk⟩ a.ctor) a.kids b.kids [] →
   out.length + (minusQ w n (nth (argsOf w ⟨ta, tk⟩ a.ctor) i) (nth a.kids i) (nth b.kids i)).length ≤ 20000000 := fun i out front hi h => by
  rw [minusK_at hi (by omega) (by omega)] at h
  have := congrArg List.length h
  simp only [List.length_append, List.length_map] at this
  omega
 refine bd Tryz.f297 100 [] [] fun w0 F0 own kept hk => ?_
 refine Walk.box (id := 3005) .none rfl rfl rfl rfl rfl rfl rfl ?_
 refine Walk.box (id := 3006) .none rfl rfl rfl rfl rfl rfl rfl ?_
 refine Walk.box (id := 3007) .none rfl rfl rfl rfl rfl rfl rfl ?_
 refine ev ?_
 refine Walk.sliceEmptyG 9 sl49 .none rfl rfl ?_
 refine ev ?_
 refine Walk.call (cr := []) cal150 (spec_l1Args_v hs.dp.wt (ins_tyin ht) c1) rfl .none rfl rfl (LeL.refl _) trivial rfl rfl rfl ?_
 refine ev ?_
 refine Walk.sliceEmptyG 8 sl49 .none rfl rfl ?_
 refine ev ?_
 refine CWp.loopX (ι := Nat × List Pat × List Pat) hk (fun s => [(12, .d (.i (s.1 : Int))), (9, .gl 9 (s.2.1.map Pat.cc)), (11, .gl 8 (s.2.2.map Pat.cc))]) [8, 13, 14, 15, 16, 17, 25, 26, 27, 28, 29, 30, 31, 32, 33, 34, 35, 36, 37, 38, 39, 40, 41, 42, 43, 44, 45, 46, 47, 48, 49, 50, 51, 52, 53, 54, 55, 56, 57, 58, 59, 60, 61, 62, 63, 64, 65, 66, 67, 68, 69, 70, 71, 72, 73, 74, 75, 76, 77, 78, 79, 80, 81, 82, 83, 84, 85, 86, 87, 88, 89, 90, 91, 92, 93, 94, 95, 96, 97, 98] (fun s => [(9, some (.tok ((s.2.1.map Pat.cc)).length 6)), (8, some (.tok ((s.2.2.map Pat.cc)).length 6))]) (fun s => s.1 ≤ a.kids.length ∧ s.2.2.length = s.1 ∧ s.2.1 ++ minusK (minusQ w n) a.ctor ((argsOf w ⟨ta, tk⟩ a.ctor).drop s.1) (a.kids.drop s.1) (b.kids.drop s.1) s.2.2 = minusK (minusQ w n) a.ctor (argsOf w ⟨ta, tk⟩ a.ctor) a.kids b.kids []) (fun s => a.kids.length - s.1) (0, [], []) ⟨by simp, rfl, rfl⟩ ⟨⟨_, rfl, (LeA.eqi (by first | rfl | (simp; done) | (simp_all; done) | omega))⟩, ⟨⟨_, rfl, (LeA.glg (by first | rfl | (simp; done) | (simp_all; done) | omega))⟩, ⟨⟨_, rfl, (LeA.glg (by first | rfl | (simp; done) | (simp_all; done) | omega))⟩, trivial⟩⟩⟩ ⟨beq_nat_eq (by rfl), ⟨beq_nat_eq (by rfl), trivial⟩⟩ (fun x => rfl) (fun s hg1 => ?_)
 refine evc [] [] ?_
 refine sq (fun h1 h1p h1s => ?_) fun h1 h1p h1s => ?_
 ·try simp only [Q, Pat.cs_len] at h1p
  refine Walk.idx sl182 .none rfl rfl rfl rfl (at_nth (by omega)) rfl ?_
  refine evd [] [] ?_
  refine Walk.idx sl49 .none rfl rfl rfl rfl (pats_at (by omega)) rfl ?_
  refine evd [] [] ?_
  refine Walk.idx sl49 .none rfl rfl rfl rfl (pats_at (by omega)) rfl ?_
  refine evd [] [] ?_
  refine Walk.call (cr := []) cal250 (hmi s.1 (by omega)) rfl .none rfl rfl (LeL.refl _) trivial rfl rfl rfl ?_
  refine evd [] [] ?_
  refine dr ?_
  refine CWp.loopX (ι := List (Pat) × List (Pat)) hk (fun x => [(14, .d (.i (x.1.length : Int))), (9, .gl 9 ((s.2.1 ++ x.1.map (fun z => ctorQ a.ctor (s.2.2 ++ [z] ++ a.kids.drop (s.1 + 1)))).map Pat.cc))]) [15, 47, 48, 49, 50, 51, 52, 53, 54, 55, 56, 57, 58, 59, 60, 61, 62, 63, 64, 65, 66, 67, 68, 69, 70, 71, 72, 73, 74, 75, 76, 77] (fun x => [(9, some (.tok (((s.2.1 ++ x.1.map (fun z => ctorQ a.ctor (s.2.2 ++ [z] ++ a.kids.drop (s.1 + 1)))).map Pat.cc)).length 6))]) (fun x => x.1 ++ x.2 = (minusQ w n (nth (argsOf w ⟨ta, tk⟩ a.ctor) s.1) (nth a.kids s.1) (nth b.kids s.1))) (fun x => x.2.length) ([], (minusQ w n (nth (argsOf w ⟨ta, tk⟩ a.ctor) s.1) (nth a.kids s.1) (nth b.kids s.1))) (by simp) ⟨⟨_, rfl, (LeA.eqi (by rfl))⟩, ⟨⟨_, rfl, (LeA.glg (by (simp; done)))⟩, trivial⟩⟩ ⟨beq_nat_eq (by (simp; done)), trivial⟩ (fun x => rfl) (fun x hg2 => ?_)
  obtain ⟨pre, rest⟩ := x
  dsimp only at hg2 ⊢
  refine evc [] [] ?_
  refine sq (fun h2 h2p h2s => ?_) fun h2 h2p h2s => ?_
  ·try simp only [Q, Pat.cs_len] at h2p
   rcases rest with _ | ⟨y, rest⟩
   ·exfalso; simp_all
   refine Walk.sliceEmptyG 7 sl49 .none rfl rfl ?_
   refine evd [] [] ?_
   refine Walk.append sl49 zz51 rfl .none rfl rfl rfl rfl (htokL rfl (by first | rfl | (simp; done) | (simp; omega))) (by intro x hx; exact pat_row _ x hx) (by (simp [Pat.cs_len]; omega)) (by (simp [Pat.cs_len]; omega)) ?_
   refine evd [] [] ?_
   refine Walk.idx sl49 .none rfl rfl rfl rfl (Pat.cs_at' hg2) rfl ?_
   refine evd [] [] ?_
   refine Walk.sliceLit sl49 tz51 rfl (by decide) (ks := [0]) (xs := [_]) rfl rfl (by decide) (by decide) .none rfl rfl rfl rfl ?_
   refine Walk.append sl49 zz51 rfl .none rfl rfl rfl rfl (htokL rfl (by first | rfl | (simp; done) | (simp; omega))) (by intro x hx; (simp at hx; subst hx; rfl)) (by (simp [Pat.cs_len]; omega)) (by (simp [Pat.cs_len]; omega)) ?_
   refine Walk.build st51 (ks := [0, 1, 5]) (xs := [_, _, _]) rfl rfl .none rfl rfl rfl ?_
   refine Walk.alloc (id := 3015) tz51 rfl .none rfl rfl rfl rfl ?_
   refine Walk.store ty51 .none rfl rfl rfl rfl rfl rfl (by simp) rfl ?_
   refine dr ?_
   refine ar ?_ (by (constructor <;> omega))
   refine Walk.cut_l sl49 .none rfl rfl rfl (by intro x hx; exact pat_rows _ x hx) rfl rfl (by simp only [Pat.cs_len]; omega) ?_
   refine Walk.append sl49 zz51 rfl .none rfl rfl rfl rfl (htokL rfl (by first | rfl | (simp; done) | (simp; omega))) (by intro x hx; exact pat_rows _ x (List.mem_of_mem_drop hx)) (by (simp [Pat.cs_len]; omega)) (by (simp [Pat.cs_len]; omega)) ?_
   refine evd [] [] ?_
   refine Walk.store ty49 .none rfl rfl rfl rfl rfl rfl (by simp) rfl ?_
   refine dr ?_
   refine Walk.sliceLit sl49 tz51 rfl (by decide) (ks := [0]) (xs := [_]) rfl rfl (by decide) (by decide) .none rfl rfl rfl rfl ?_
   refine Walk.append sl49 zz51 rfl .none rfl rfl rfl rfl (htokL rfl (by first | rfl | (simp; done) | (simp; omega))) (by intro x hx; (simp at hx; subst hx; rfl)) (by (have h9 := hT s.1 s.2.1 s.2.2 (by omega) hg1.2.2; have h8 := congrArg List.length hg2; simp [Pat.cs_len] at h8 ⊢; omega)) (by (have h9 := hT s.1 s.2.1 s.2.2 (by omega) hg1.2.2; have h8 := congrArg List.length hg2; simp [Pat.cs_len] at h8 ⊢; omega)) ?_
   refine ev ?_
   refine ar ?_ (by (have h9 := hT s.1 s.2.1 s.2.2 (by omega) hg1.2.2; have h8 := congrArg List.length hg2; simp only [List.length_append, List.length_cons] at h8; constructor <;> omega))
   refine Exists.intro ((pre ++ [y], rest)) ⟨(by have hz := hg2; rw [← hz]; simp), (by simp), Sub.x (by kernel_rfl) (by kernel_rfl) ⟨⟨_, rfl, (LeA.eqi (by (simp; done)))⟩, ⟨⟨_, rfl, (LeA.glg (by (simp only [List.map_append, List.append_assoc, List.map_cons, List.map_nil, cc_ctorQ, Pat.cs_cd a.kids, List.map_drop, List.nil_append, List.cons_append]; done)))⟩, trivial⟩⟩ (by kernel_rfl) (by kernel_rfl) ⟨beq_nat_eq (by (simp; omega)), trivial⟩⟩
  ·try simp only [Q, Pat.cs_len] at h2p
   have hrest : rest = [] := by
    rcases rest with _ | ⟨a, b⟩
    ·rfl
    ·exfalso; have hz := congrArg List.length (hg2); simp only [List.length_append, List.length_cons, List.length_map] at hz; omega
   subst hrest
   refine Walk.idx sl49 .none rfl rfl rfl rfl (pats_at (by omega)) rfl ?_
   refine evd [] [] ?_
   refine Walk.idx sl49 .none rfl rfl rfl rfl (pats_at (by omega)) rfl ?_
   refine evd [] [] ?_
   refine Walk.call (cr := []) cal316 (hme s.1 (by omega)) rfl .none rfl rfl (LeL.refl _) trivial rfl rfl rfl ?_
   refine evd [] [] ?_
   refine Walk.alloc (id := 3016) tz51 rfl .none rfl rfl rfl rfl ?_
   refine Walk.store ty51 .none rfl rfl rfl rfl rfl rfl (by simp) rfl ?_
   refine evd [] [] ?_
   refine dr ?_
   refine sq (fun h3 h3p h3s => ?_) fun h3 h3p h3s => ?_
   ·try simp only [Q, Pat.cs_len] at h3p
    refine rn0 (r1 rfl) (.gld ?_)
    all_goals ((rw [List.append_nil] at hg2; rw [← hg1.2.2, minusK_none (by omega) (by omega) (by omega) (by assumption), ← hg2, Pat.cs_cd]; all_goals rfl))
   ·try simp only [Q, Pat.cs_len] at h3p
    refine Walk.sliceLit sl49 tz51 rfl (by decide) (ks := [0]) (xs := [_]) rfl rfl (by decide) (by decide) .none rfl rfl rfl rfl ?_
    refine Walk.append sl49 zz51 rfl .none rfl rfl rfl rfl (htokL rfl (by first | rfl | (simp; done) | (simp; omega))) (by intro x hx; (simp at hx; subst hx; rfl)) (by (simp [Pat.cs_len]; omega)) (by (simp [Pat.cs_len]; omega)) ?_
    refine ev ?_
    refine ar ?_ (by (constructor <;> omega))
    refine Exists.intro ((s.1 + 1, s.2.1 ++ (minusQ w n (nth (argsOf w ⟨ta, tk⟩ a.ctor) s.1) (nth a.kids s.1) (nth b.kids s.1)).map (fun z => ctorQ a.ctor (s.2.2 ++ [z] ++ a.kids.drop (s.1 + 1))), s.2.2 ++ [meetZ 11 (nth a.kids s.1) (nth b.kids s.1)])) ⟨⟨by dsimp only; omega, by dsimp only; rw [List.length_append, hg1.2.1]; rfl, by dsimp only; rw [List.append_assoc, ← minusK_some' (by omega) (by omega) (by omega) (by assumption)]; exact hg1.2.2⟩, (by dsimp only; omega), Sub.x (by kernel_rfl) (by kernel_rfl) ⟨⟨_, rfl, (LeA.eqi (by first | rfl | (simp; done) | (simp_all; done) | omega))⟩, ⟨⟨_, rfl, (LeA.glg (by first | rfl | (simp; done) | (simp_all; done) | omega))⟩, ⟨⟨_, rfl, (LeA.glg (by first | rfl | (simp; done) | (simp_all; done) | omega))⟩, trivial⟩⟩⟩ (by kernel_rfl) (by kernel_rfl) ⟨beq_nat_eq (by (first | rfl | (simp; done) | (simp_all; done) | omega)), ⟨beq_nat_eq (by (simp; done)), trivial⟩⟩⟩
 ·try simp only [Q, Pat.cs_len] at h1p
  refine rn0 (r1 rfl) (.gld ?_)
  all_goals ((rw [← hg1.2.2, minusK_end (by omega), List.append_nil, Pat.cs_cd]; done))
theorem spec_minus_1 {n : Nat} {ta tk : Int} {a b : Pat} (h : b.op = 1) : MinusSp w (n + 1) ta tk a b := by
 unfold MinusSp
 rw [minus_1 h]
 refine bd Tryz.f250 82 [] [] fun w0 F0 own kept hk => ?_
 refine Walk.box (id := 3005) .none rfl rfl rfl rfl rfl rfl rfl ?_
 refine Walk.box (id := 3006) .none rfl rfl rfl rfl rfl rfl rfl ?_
 refine Walk.box (id := 3007) .none rfl rfl rfl rfl rfl rfl rfl ?_
 refine ev ?_
 refine sq (fun h1 h1p h1s => ?_) fun h1 h1p h1s => ?_
 ·try simp only [Q] at h1p
  refine Walk.sliceEmpty sl49 .none rfl ?_
  refine ev ?_
  refine rn0 (r1 rfl) (.eqd ?_)
  all_goals (rfl)
 ·try simp only [Q] at h1p
  exfalso; omega --stop
theorem spec_minus_3 {n : Nat} {ta tk : Int} {a b : Pat} (h : b.op = 3) (ha : a.op = 1 ∨ a.op = 3) (hbn : 0 ≤ b.n ∧ b.n ≤ 9) (hbm : 0 ≤ b.m ∧ b.m ≤ 9) : MinusSp w (n + 1) ta tk a b := by
 unfold MinusSp
 rw [minus_3 h]
 by_cases h1 : a.op = 1
 ·have e : minusI a b = rangeQ 0 (minQ 9 (b.n - 1)) ++ rangeQ (maxQ 0 (b.m + 1)) 9 := by
   have e1 : lowQ a = 0 := if_pos h1
   have e2 : highQ a = 9 := if_pos h1
   unfold minusI; rw [e1, e2]
  have hr := spec_l5Ranges_fn (a := intQ 0 9) hbn hbm
  rw [e]
  refine bd Tryz.f250 82 [] [] fun w0 F0 own kept hk => ?_
  refine Walk.box (id := 3005) .none rfl rfl rfl rfl rfl rfl rfl ?_
  refine Walk.box (id := 3006) .none rfl rfl rfl rfl rfl rfl rfl ?_
  refine Walk.box (id := 3007) .none rfl rfl rfl rfl rfl rfl rfl ?_
  refine ev ?_
  refine sq (fun h1 h1p h1s => ?_) fun h1 h1p h1s => ?_
  ·try simp only [Q] at h1p
   exfalso; omega --stop
  ·try simp only [Q] at h1p
   refine sq (fun h2 h2p h2s => ?_) fun h2 h2p h2s => ?_
   ·try simp only [Q] at h2p
    refine sq (fun h3 h3p h3s => ?_) fun h3 h3p h3s => ?_
    ·try simp only [Q] at h3p
     refine Walk.build st51 (ks := [0, 3]) (xs := [_, _]) rfl rfl .none rfl rfl rfl ?_
     refine ev ?_
     refine Walk.call (cr := []) cal296 (hr) rfl .none rfl rfl (.cons (.agg (.cons (.refl _) (.cons (.refl _) (.cons (.refl _) (.cons (.refl _) (.cons (.refl _) (.cons .nil .nil))))))) (.cons (.refl _) .nil)) trivial rfl rfl rfl ?_
     refine ev ?_
     refine rn0 (r1 rfl) (.eqd ?_)
     all_goals (rfl)
    ·try simp only [Q] at h3p
     exfalso; first | omega | (simp_all; done) --stop
   ·try simp only [Q] at h2p
    exfalso; omega --stop
 ·have e : minusI a b = rangeQ a.n (minQ a.m (b.n - 1)) ++ rangeQ (maxQ a.n (b.m + 1)) a.m := by
   have e1 : lowQ a = a.n := if_neg h1
   have e2 : highQ a = a.m := if_neg h1
   unfold minusI; rw [e1, e2]
  have hr := spec_l5Ranges_fn (a := a) hbn hbm
  rw [e]
  refine bd Tryz.f250 82 [] [] fun w0 F0 own kept hk => ?_
  refine Walk.box (id := 3005) .none rfl rfl rfl rfl rfl rfl rfl ?_
  refine Walk.box (id := 3006) .none rfl rfl rfl rfl rfl rfl rfl ?_
  refine Walk.box (id := 3007) .none rfl rfl rfl rfl rfl rfl rfl ?_
  refine ev ?_
  refine sq (fun h1 h1p h1s => ?_) fun h1 h1p h1s => ?_
  ·try simp only [Q] at h1p
   exfalso; omega --stop
  ·try simp only [Q] at h1p
   refine sq (fun h2 h2p h2s => ?_) fun h2 h2p h2s => ?_
   ·try simp only [Q] at h2p
    refine sq (fun h3 h3p h3s => ?_) fun h3 h3p h3s => ?_
    ·try simp only [Q] at h3p
     exfalso; first | omega | (simp_all; done) --stop
    ·try simp only [Q] at h3p
     refine sq (fun h4 h4p h4s => ?_) fun h4 h4p h4s => ?_
     ·try simp only [Q] at h4p
      refine Walk.call (cr := []) cal296 (hr) rfl .none rfl rfl (LeL.refl _) trivial rfl rfl rfl ?_
      refine ev ?_
      refine rn0 (r1 rfl) (.eqd ?_)
      all_goals (rfl)
     ·try simp only [Q] at h4p
      exfalso; omega --stop
   ·try simp only [Q] at h2p
    exfalso; omega --stop
theorem spec_minus_n {n : Nat} {ta tk : Int} {a b : Pat} (h4 : a.op = 4) (h4b : b.op = 4) (hc : ¬ a.ctor = b.ctor) : MinusSp w (n + 1) ta tk a b := by
 unfold MinusSp
 have e : minusQ w (n + 1) ⟨ta, tk⟩ a b = [a] := by rw [minus_c h4b h4]; exact if_neg hc
 rw [e]
 refine bd Tryz.f250 82 [] [] fun w0 F0 own kept hk => ?_
 refine Walk.box (id := 3005) .none rfl rfl rfl rfl rfl rfl rfl ?_
 refine Walk.box (id := 3006) .none rfl rfl rfl rfl rfl rfl rfl ?_
 refine Walk.box (id := 3007) .none rfl rfl rfl rfl rfl rfl rfl ?_
 refine ev ?_
 refine sq (fun h1 h1p h1s => ?_) fun h1 h1p h1s => ?_
 ·try simp only [Q] at h1p
  exfalso; omega --stop
 ·try simp only [Q] at h1p
  refine sq (fun h2 h2p h2s => ?_) fun h2 h2p h2s => ?_
  ·try simp only [Q] at h2p
   exfalso; omega --stop
  ·try simp only [Q] at h2p
   refine sqF ?_
   refine sq (fun h4 h4p h4s => ?_) fun h4 h4p h4s => ?_
   ·try simp only [Q] at h4p
    exfalso; omega --stop
   ·try simp only [Q] at h4p
    refine sq (fun h5 h5p h5s => ?_) fun h5 h5p h5s => ?_
    ·try simp only [Q] at h5p
     refine sq (fun h6 h6p h6s => ?_) fun h6 h6p h6s => ?_
     ·try simp only [Q] at h6p
      refine Walk.sliceLit sl49 tz51 rfl (by decide) (ks := [0]) (xs := [_]) rfl rfl (by decide) (by decide) .none rfl rfl rfl rfl ?_
      refine ev ?_
      refine rn0 (r1 rfl) (.eqd ?_)
      all_goals (first | rfl | (cases a; rfl))
     ·try simp only [Q] at h6p
      exfalso; first | omega | (simp_all; done) --stop
    ·try simp only [Q] at h5p
     exfalso; omega --stop
theorem spec_minus_c (hs : Spa w) {n m : Nat} (hn : n + 1 ≤ 10) (hm : m + 1 ≤ 11) (hnm : n < m)
  (ih : ∀ {ta tk : Int} {a b : Pat}, InS (w.length * 4) ⟨ta, tk⟩ → partP w m ⟨ta, tk⟩ a = true → partP w n ⟨ta, tk⟩ b = true → MinusSp w n ta tk a b)
  {ta tk : Int} {a b : Pat} (ht : InS (w.length * 4) ⟨ta, tk⟩) (ha : partP w (m + 1) ⟨ta, tk⟩ a = true) (hb : partP w (n + 1) ⟨ta, tk⟩ b = true) (h4 : a.op = 4) (h4b : b.op = 4) (hc : a.ctor = b.ctor) : MinusSp w (n + 1) ta tk a b := by
 have hki := spec_l5Kids_fn hs hn hm hnm ih ht ha hb h4 h4b hc
 clear ih
 unfold MinusSp
 refine bd Tryz.f250 82 [] [] fun w0 F0 own kept hk => ?_
 refine Walk.box (id := 3005) .none rfl rfl rfl rfl rfl rfl rfl ?_
 refine Walk.box (id := 3006) .none rfl rfl rfl rfl rfl rfl rfl ?_
 refine Walk.box (id := 3007) .none rfl rfl rfl rfl rfl rfl rfl ?_
 refine ev ?_
 refine sq (fun h1 h1p h1s => ?_) fun h1 h1p h1s => ?_
 ·try simp only [Q] at h1p
  exfalso; omega --stop
 ·try simp only [Q] at h1p
  refine sq (fun h2 h2p h2s => ?_) fun h2 h2p h2s => ?_
  ·try simp only [Q] at h2p
   exfalso; omega --stop
  ·try simp only [Q] at h2p
   refine sqF ?_
   refine sq (fun h4 h4p h4s => ?_) fun h4 h4p h4s => ?_
   ·try simp only [Q] at h4p
    exfalso; omega --stop
   ·try simp only [Q] at h4p
    refine sq (fun h5 h5p h5s => ?_) fun h5 h5p h5s => ?_
    ·try simp only [Q] at h5p
     refine sq (fun h6 h6p h6s => ?_) fun h6 h6p h6s => ?_
     ·try simp only [Q] at h6p
      exfalso; first | omega | (simp_all; done) --stop
     ·try simp only [Q] at h6p
      refine sq (fun h7 h7p h7s => ?_) fun h7 h7p h7s => ?_
      ·try simp only [Q] at h7p
       refine Walk.call (cr := []) cal297 (hki) rfl .none rfl rfl (LeL.refl _) trivial rfl rfl rfl ?_
       refine ev ?_
       refine rn0 (r1 rfl) (.eqd ?_)
       all_goals (rfl)
      ·try simp only [Q] at h7p
       exfalso; omega --stop
    ·try simp only [Q] at h5p
     exfalso; omega --stop
theorem spec_minus_a (hs : Spa w) {n : Nat} {ta tk : Int} {a b : Pat} (ht : InS (w.length * 4) ⟨ta, tk⟩) (h1 : a.op = 1) (h4b : b.op = 4) (hbd : (minusQ w (n + 1) ⟨ta, tk⟩ a b).length ≤ 20000000)
  (hC : ∀ c ∈ vctors w ⟨ta, tk⟩, MinusSp w (n + 1) ta tk (wholeQ w ⟨ta, tk⟩ c) b) : MinusSp w (n + 1) ta tk a b := by
 have e : minusQ w (n + 1) ⟨ta, tk⟩ a b = (vctors w ⟨ta, tk⟩).flatMap fun c => minusQ w (n + 1) ⟨ta, tk⟩ (wholeQ w ⟨ta, tk⟩ c) b := by
  rw [minus_a h4b h1]
  exact congrArg (fun g => (vctors w ⟨ta, tk⟩).flatMap g) (funext fun c => (minus_c h4b rfl).symm)
 unfold MinusSp
 rw [e] at hbd ⊢
 have hcl := (hs.ctors _ ht).1
 have hpre : ∀ {pre rest : List Int} {y : Int}, pre ++ y :: rest = vctors w ⟨ta, tk⟩ → (pre.flatMap fun c => minusQ w (n + 1) ⟨ta, tk⟩ (wholeQ w ⟨ta, tk⟩ c) b).length + (minusQ w (n + 1) ⟨ta, tk⟩ (wholeQ w ⟨ta, tk⟩ y) b).length ≤ 20000000 := fun h => by
  rw [← h, List.flatMap_append, List.flatMap_cons] at hbd
  simp only [List.length_append] at hbd
  omega
 have hmem : ∀ {pre rest : List Int} {y : Int}, pre ++ y :: rest = vctors w ⟨ta, tk⟩ → y ∈ vctors w ⟨ta, tk⟩ := fun h => by rw [← h]; simp
 refine bd Tryz.f250 82 [] [] fun w0 F0 own kept hk => ?_
 refine Walk.box (id := 3005) .none rfl rfl rfl rfl rfl rfl rfl ?_
 refine Walk.box (id := 3006) .none rfl rfl rfl rfl rfl rfl rfl ?_
 refine Walk.box (id := 3007) .none rfl rfl rfl rfl rfl rfl rfl ?_
 refine ev ?_
 refine sq (fun h1 h1p h1s => ?_) fun h1 h1p h1s => ?_
 ·try simp only [Q, Pat.cs_len] at h1p
  exfalso; omega --stop
 ·try simp only [Q, Pat.cs_len] at h1p
  refine sq (fun h2 h2p h2s => ?_) fun h2 h2p h2s => ?_
  ·try simp only [Q, Pat.cs_len] at h2p
   exfalso; omega --stop
  ·try simp only [Q, Pat.cs_len] at h2p
   refine sqF ?_
   refine sq (fun h4 h4p h4s => ?_) fun h4 h4p h4s => ?_
   ·try simp only [Q, Pat.cs_len] at h4p
    exfalso; omega --stop
   ·try simp only [Q, Pat.cs_len] at h4p
    refine sq (fun h5 h5p h5s => ?_) fun h5 h5p h5s => ?_
    ·try simp only [Q, Pat.cs_len] at h5p
     exfalso; omega --stop
    ·try simp only [Q, Pat.cs_len] at h5p
     refine sqF ?_
     refine sq (fun h7 h7p h7s => ?_) fun h7 h7p h7s => ?_
     ·try simp only [Q, Pat.cs_len] at h7p
      exfalso; omega --stop
     ·try simp only [Q, Pat.cs_len] at h7p
      refine Walk.sliceEmptyG 9 sl49 .none rfl rfl ?_
      refine ev ?_
      refine Walk.call (cr := []) cal164 (spec_l1Ctors_v hs.dp.wt (ins_tyin ht)) rfl .none rfl rfl (LeL.refl _) trivial rfl rfl rfl ?_
      refine ev ?_
      refine CWp.loopX (ι := List (Int) × List (Int)) hk (fun x => [(11, .d (.i (x.1.length : Int))), (9, .gl 9 (Pat.cs (x.1.flatMap fun c => minusQ w (n + 1) ⟨ta, tk⟩ (wholeQ w ⟨ta, tk⟩ c) b)))]) [62, 63, 64, 65, 66, 67, 68, 69, 70, 71, 72, 73, 74, 75, 76, 77, 78, 79, 80] (fun x => [(9, some (.tok ((Pat.cs (x.1.flatMap fun c => minusQ w (n + 1) ⟨ta, tk⟩ (wholeQ w ⟨ta, tk⟩ c) b))).length 6))]) (fun x => x.1 ++ x.2 = vctors w ⟨ta, tk⟩) (fun x => x.2.length) ([], vctors w ⟨ta, tk⟩) (by simp) ⟨⟨_, rfl, (LeA.eqi (by rfl))⟩, ⟨⟨_, rfl, (LeA.glg (by rfl))⟩, trivial⟩⟩ ⟨beq_nat_eq (by rfl), trivial⟩ (fun x => rfl) (fun x hg1 => ?_)
      obtain ⟨pre, rest⟩ := x
      dsimp only at hg1 ⊢
      refine evc [] [] ?_
      refine sq (fun h8 h8p h8s => ?_) fun h8 h8p h8s => ?_
      ·try simp only [Q, Pat.cs_len] at h8p
       rcases rest with _ | ⟨y, rest⟩
       ·exfalso; simp_all
       refine Walk.idx sl54 .none rfl rfl rfl rfl (zip_at hg1) rfl ?_
       refine evd [] [] ?_
       refine Walk.call (cr := []) cal165 (spec_l5Wide_q hs.dp.wt (ins_tyin ht) (hmem hg1) (hs.args _ _ ht (hmem hg1))) rfl .none rfl rfl (LeL.refl _) trivial rfl rfl rfl ?_
       refine evd [] [] ?_
       refine Walk.call (cr := []) cal250 (hC y (hmem hg1)) rfl .none rfl rfl (LeL.refl _) trivial rfl rfl rfl ?_
       refine Walk.append sl49 zz51 rfl .none rfl rfl rfl rfl (htokL rfl (by first | rfl | (simp; done) | (simp; omega))) (by exact pat_rows _) (by have h9 := hpre hg1; simp only [Pat.cs_len]; omega) (by have h9 := hpre hg1; simp only [Pat.cs_len]; omega) ?_
       refine evd [] [] ?_
       refine dr ?_
       refine ar ?_
       refine Exists.intro ((pre ++ [y], rest)) ⟨(by have hz := hg1; rw [← hz]; simp), (by simp), Sub.x (by kernel_rfl) (by kernel_rfl) ⟨⟨_, rfl, (LeA.eqi (by (simp [Pat.cs_len]; done)))⟩, ⟨⟨_, rfl, (LeA.glg (by (rw [List.flatMap_append, Pat.cs_cd, Pat.cs_cd, Pat.cs_cd, List.map_append]; simp; done)))⟩, trivial⟩⟩ (by kernel_rfl) (by kernel_rfl) ⟨beq_nat_eq (by (first | rfl | (rw [List.flatMap_append, Pat.cs_cd, Pat.cs_cd, Pat.cs_cd, List.map_append]; simp; done) | (simp [Pat.cs_len]; done) | omega)), trivial⟩⟩
      ·try simp only [Q, Pat.cs_len] at h8p
       have hrest : rest = [] := by
        rcases rest with _ | ⟨a, b⟩
        ·rfl
        ·exfalso; have hz := congrArg List.length (hg1); simp only [List.length_append, List.length_cons, List.length_map] at hz; omega
       subst hrest
       refine rn0 (r1 rfl) (.gld ?_)
       all_goals (first | rfl | (rw [List.append_nil] at hg1; rw [hg1]; done))
theorem spec_l5Minus_fn (hs : Spa w) : ∀ (n m : Nat) {ta tk : Int} {a b : Pat}, n < m → n ≤ 10 → m ≤ 11 → InS (w.length * 4) ⟨ta, tk⟩ → partP w m ⟨ta, tk⟩ a = true → partP w n ⟨ta, tk⟩ b = true → MinusSp w n ta tk a b
 | 0, m, ta, tk, a, b, _, _, _, _, _, hb => by simp [partP] at hb
 | n + 1, 0, ta, tk, a, b, h, _, _, _, _, _ => by omega
 | n + 1, m + 1, ta, tk, a, b, h, hn, hm, ht, ha, hb => by
  have hC : ∀ {a : Pat}, partP w (m + 1) ⟨ta, tk⟩ a = true → a.op = 4 → b.op = 4 → MinusSp w (n + 1) ta tk a b := fun {a} ha h4 h4b => by
   by_cases hc : a.ctor = b.ctor
   ·exact spec_minus_c hs hn hm (by omega) (fun h1 h2 h3 => spec_l5Minus_fn hs n m (by omega) (by omega) (by omega) h1 h2 h3) ht ha hb h4 h4b hc
   ·exact spec_minus_n h4 h4b hc
  rcases part_op hb with h1 | h3 | h4b
  ·exact spec_minus_1 h1
  ·have := part_int hb h3
   refine spec_minus_3 h3 ?_ ⟨by omega, by omega⟩ ⟨by omega, by omega⟩
   by_cases h1 : a.op = 1
   ·exact .inl h1
   ·exact .inr (by have := same_op ha hb h1 (by omega); omega)
  ·by_cases h1 : a.op = 1
   ·obtain ⟨m', rfl⟩ : ∃ m', m = m' + 1 := ⟨m - 1, by omega⟩
    exact spec_minus_a hs ht h1 h4b (minus_bd hs h hn ht ha hb) (fun c hc => hC (wholeQ_part hc) rfl h4b)
   ·exact hC ha (by have := same_op ha hb h1 (by omega); omega) h4b
end
section
variable {c : Ctx} {all : Array Oper} {chk : List Rec → Prop} {os : List Oper} {recs : List Rec} {env : Env} {hp : Hp} {Q : St → Prop}
variable {d ty : Nat} {pos : String} {af : Array Edge} {g : Option (Nat × Bool)} {pg : List (Nat × AV)} {t yt : TypeId} {x y : Operand}
theorem Walk.appendM {id k e yb : Nat} {xs ys : List (List D)} {vy : AV} {ids : List Nat} (hkp : KeptIn c.kept ids) (hid : elemB id ids = false) (hne : xs ++ ys ≠ []) (ht : SlT c.P t e k yb) (hz : ZeroT c.P e k) (hg : GH all env g pg) (hd : Nat.blt d c.n = true)
  (hx : opd env x = some (.gv id xs)) (hy : opd env y = some vy) (hyd : vy.toD = some (.sl ys)) (htok : getH hp id = some (.tok xs.length k)) (hky : ∀ y, y ∈ ys → y.length = k)
  (hb : (xs.length + ys.length) * yb ≤ 140737488355328) (hm : xs.length + ys.length ≤ 9223372036854775807)
  (hn : Walk c all chk os (mkRec (pg ++ (opF x (.gv id xs) ++ opF y vy)) [(id, .tok xs.length k)] [] ⟨some (d, .ms id (xs ++ ys).length), [(id, some (.box ((xs ++ ys).flatten.map .d)))]⟩ :: recs)
   ⟨(d, .ms id (xs ++ ys).length) :: env, (id, some (.box ((xs ++ ys).flatten.map .d))) :: hp⟩ Q) :
  Walk c all chk (⟨some d, .call ⟨.builtin .append, #[x, y], #[t, t]⟩, ty, pos, af, g⟩ :: os) recs ⟨env, hp⟩ Q := by
 refine ⟨pg ++ (opF x (.gv id xs) ++ opF y vy), [(id, .tok xs.length k)], [], _, ?_, facts_append hg.facts (facts_append (opF_holds hx) (opF_holds hy)), hh1 htok, by simp, hn⟩
 intro s a w hrel hp' hh _ K Q' hK
 obtain ⟨G, hr⟩ := hrel
 have e1 := hr.opd (opd_facts hx (fun p hm => hp' p (by simp [hm])))
 have e2 := hr.opd (opd_facts hy (fun p hm => hp' p (by simp [hm])))
 obtain ⟨i, z, z1, z2, z3⟩ := hz.out
 obtain ⟨v', w', G', hrun, hR, hA⟩ := appendV_step hr ht ⟨i, z1, z2, z3⟩ (hh1' hh) e1 (e2.toD hyd) hky hb hm ty
 unfold wpO
 rw [if_pos (hg.gf.wanted hr (fun p hm => hp' p (by simp [hm])))]
 unfold Oper.wp
 have : (execOp a.eval ⟨some d, .call ⟨.builtin .append, #[x, y], #[t, t]⟩, ty, pos, af, g⟩).run c.P w = .ok (.value v') w' := by
  simp only [execOp, resolve, invoke, builtin, Sem.run_bind, Sem.run_pure, Result.andThen_ok, List.map_toArray, List.map_cons, List.map_nil, hrun]
 rw [this, Oper.upon_value]
 have hV : Rel c ⟨(d, .gv id (xs ++ ys)) :: s.env, (id, some (.tok (xs.length + ys.length) k)) :: s.hp⟩ (a.put (some d) v') w' := ⟨G', hR.put hA hd⟩
 rcases Rel.fixV hkp d id k (xs := xs ++ ys) (by simp [getE]) (by rw [getH_cons, if_pos rfl, List.length_append]) hid hV with ⟨h, _⟩ | ⟨_, h⟩
 ·exact absurd h hne
 ·refine hK _ _ (h.congr (fun j => ?_) (fun j => ?_))
  ·show getE ((d, _) :: s.env) j = getE ((d, _) :: (d, _) :: s.env) j
   simp only [getE]
   cases Nat.beq d j <;> rfl
  ·show getH ((id, _) :: s.hp) j = getH ((id, _) :: (id, _) :: s.hp) j
   rw [getH_cons, getH_cons, getH_cons]
   by_cases hj : j = id
   ·rw [if_pos hj, if_pos hj]
   ·rw [if_neg hj, if_neg hj, if_neg hj]
end
theorem FnD.boxD {P : Program} {f : FuncId} {i n k : Nat} {args : List AV} {cs : List AV} {es : List (List D)} (hc : chunkD n k (cs.take (n * k)) = some es) (h : FnD P f args [] (.ms i n) [(i, some (.box cs))]) : FnD P f args [] (.d (.sl es)) [] := by
 intro G w vals hok
 refine (h G w vals hok).mono ?_
 rintro e w' ⟨v, r', hp', G', rfl, ⟨rfl, rfl⟩, hret⟩
 have gi : getH ([(i, some (Res.box cs))] ++ []) i = some (.box cs) := by simp [getH]
 obtain ⟨b, us, et, q1, q2, q3, q4, q5⟩ := hret.heap i _ gi
 have hown : ∀ b, b ∉ ownedL G [] := fun b hb => by simp [ownedL] at hb
 have hnew : w.heap.size ≤ b := (hret.new i (by rw [gi]; rfl) b (by rw [q1]; simp)).resolve_left (hown b)
 have hlt : b < w'.heap.size := by
  rcases Nat.lt_or_ge b w'.heap.size with h | h
  ·exact h
  ·rw [Array.getElem?_eq_none h] at q2; cases q2
 let G2 : Gh := { G' with F := fun x => bif Nat.beq x b then us.size else G'.F x }
 have hin : G2.F b = us.size := by simp [G2]
 have hout : ∀ x, x ≠ b → G2.F x = G'.F x := fun x hx => by
  have : Nat.beq x b = false := by
   cases h : Nat.beq x b with
   | true => exact absurd (Nat.eq_of_beq_eq_true h) hx
   | false => rfl
  simp [G2, this]
 have hle : ∀ x o, o < G'.F x → o < G2.F x := fun x o ho => by
  by_cases hx : x = b
  ·subst hx; rw [q4] at ho; omega
  ·rw [hout x hx]; exact ho
 refine ⟨v, _, _, G2, rfl, ⟨rfl, rfl⟩, frz_slX hret.res q1 q2 q3 q5 hin (fun y o ho => ⟨hle y o ho, rfl⟩) hc, fun id x hx => (by cases hx), fun id id' h1 => (by cases h1), fun id h1 => (by cases h1), ?_, fun x hx => ?_, fun id hi => (by simp [isBox, getH] at hi)⟩
 ·have hf := hret.frm
  exact ⟨hf.os, hf.tape, hf.output, hf.size, fun x hx hn => ⟨(hf.block x hx hn).1, by rw [hout x (by omega)]; exact (hf.block x hx hn).2⟩, fun x o ho => ⟨hle x o (hf.cell x o ho).1, (hf.cell x o ho).2⟩⟩
 ·rw [hout x (by omega)]; exact hret.top x hx
def pd (s : List Pat) : List AV := (s.map Pat.cc).flatten.map .d
theorem pd_append (a b : List Pat) : pd (a ++ b) = pd a ++ pd b := by simp [pd]
theorem pd_one (x : Pat) : pd [x] = [.d (.i x.op), .d (.i x.ctor), .d (.i x.n), .d (.i x.m), .d (.i x.var), .d (encPats x.kids)] := rfl
theorem pd_len (s : List Pat) : (pd s).length = s.length * 6 := by
 induction s with
 | nil => rfl
 | cons x r ih => rw [show x :: r = [x] ++ r from rfl, pd_append, List.length_append, ih, pd_one]; simp; omega
theorem pd_split {s : List Pat} {i : Nat} (h : i < s.length) : pd s = pd (s.take i) ++ (pd [nth s i] ++ pd (s.drop (i + 1))) := by
 rw [← pd_append, ← pd_append]
 congr 1
 rw [show [nth s i] ++ s.drop (i + 1) = nth s i :: s.drop (i + 1) from rfl, ← drop_nth h, List.take_append_drop]
theorem pd_ids (s : List Pat) : AV.idsL (pd s) = [] := by
 unfold pd
 induction (s.map Pat.cc).flatten with
 | nil => rfl
 | cons x r ih => rw [List.map_cons, AV.idsL, ih]; rfl
theorem pd_cut {s : List Pat} {i : Nat} (h : i < s.length) : cutC (pd s) (i * 6) 6 = some [.d (.i (nth s i).op), .d (.i (nth s i).ctor), .d (.i (nth s i).n), .d (.i (nth s i).m), .d (.i (nth s i).var), .d (encPats (nth s i).kids)] := by
 rw [pd_split h, cutC_off0 (by rw [pd_len, List.length_take]; omega) (r := pd [nth s i])]
 ·rfl
 ·rw [pd_one]; first | exact cutC_k6 | (simp [cutC]; done)
theorem pd_put {s : List Pat} {i : Nat} (h : i < s.length) {t : Pat} : putC (pd s) (i * 6) [.d (.i t.op), .d (.i t.ctor), .d (.i t.n), .d (.i t.m), .d (.i t.var), .d (encPats t.kids)] = some (pd (s.set i t)) := by
 rw [pd_split h, putC_off0 (by rw [pd_len, List.length_take]; omega) (B' := pd [t] ++ pd (s.drop (i + 1))) (by rw [pd_one, pd_one]; simp [putC])]
 rw [List.set_eq_take_append_cons_drop, if_pos h, ← pd_append, ← pd_append]
 rfl
abbrev z6 : List AV := [.d (.i 0), .d (.i 0), .d (.i 0), .d (.i 0), .d (.i 0), .nils]
theorem pd_zero {s : List Pat} {i n : Nat} (hn : s.length = n) (h : i ≤ n) : putC (pd s) (i * 6) (zerosA (n - i) z6) = some (pd (s.take i) ++ zerosA (n - i) z6) := by
 subst hn
 have e : pd s = pd (s.take i) ++ (pd (s.drop i) ++ []) := by
  rw [List.append_nil, ← pd_append, List.take_append_drop]
 have e2 : putC (pd (s.take i) ++ (pd (s.drop i) ++ [])) (i * 6) (zerosA (s.length - i) z6) = some (pd (s.take i) ++ (zerosA (s.length - i) z6 ++ [])) := by
  rw [putC_mid (by rw [pd_len, List.length_take]; omega) ?_]
  rw [pd_len, List.length_drop, zerosA_len]; rfl
 rw [← e, List.append_nil] at e2
 exact e2
theorem pd_chunk {s : List Pat} {tl : List AV} : chunkD s.length 6 ((pd s ++ tl).take (s.length * 6)) = some (s.map Pat.cc) := by
 rw [List.take_append_of_le_length (by rw [pd_len]; exact Nat.le_refl _), List.take_of_length_le (by rw [pd_len]; exact Nat.le_refl _)]
 have := chunkD_flat (f := Pat.cc) (k := 6) (l := s) (fun _ _ => rfl)
 rw [← this]
 congr 1
 unfold pd
 induction s with
 | nil => rfl
 | cons x r ih =>
  simp only [List.map_cons, List.flatten_cons, List.map_append, List.flatMap_cons]
  exact congrArg (_ ++ ·) (ih (chunkD_flat (fun _ _ => rfl)))
theorem Pat.cs_ccs (l : List Pat) : Pat.cs l = l.map Pat.cc := by
 rw [Pat.cs_eq]; exact List.map_congr_left (fun v _ => Pat.c_eq v)
theorem Ex.cs_ccs (l : List Ex) : Ex.cs l = l.map Ex.cc := by
 rw [Ex.cs_eq]; exact List.map_congr_left (fun v _ => Ex.c_eq v)
theorem slices_IndexFunc_Pat_fn {xs : List Pat} {f : Nat} {caps : List AV} {hp : Hp} {p : Pat → Bool} (hs : xs.length ≤ 1000000000000) (hcal : Callee Tryz.prog f)
  (hf : ∀ t ∈ xs, FnD Tryz.prog f ([.agg [.d (.i t.op), .d (.i t.ctor), .d (.i t.n), .d (.i t.m), .d (.i t.var), .d (encPats t.kids)]] ++ caps) hp (.d (.bool (p t))) []) (k1 : subH hp hp) (k2 : noTok hp = true) (k3 : okCall hp [] (.d .nilp) [] = true) :
  FnD Tryz.prog 264 [.d (encPats xs), .fn f caps] hp (.d (.i (idxF p xs 0))) [] := by
 rw [show encPats xs = D.sl (xs.map Pat.cc) by show D.sl (Pat.cs xs) = _; rw [Pat.cs_ccs]]
 refine bd Tryz.f264 19 [] [] fun w0 F0 own kept hk => ?_
 refine CWp.loopX (ι := List (Pat) × List (Pat)) hk (fun x => [(8, .d (.i (x.1.length : Int)))]) [4, 5, 9, 10, 11, 12, 13, 14, 15, 16, 17, 18] (fun x => []) (fun x => x.1 ++ x.2 = xs ∧ idxF p x.2 x.1.length = idxF p xs 0) (fun x => x.2.length) ([], xs) ⟨by simp, rfl⟩ ⟨⟨_, rfl, (LeA.eqi (by first | rfl | (simp; done) | (simp_all; done) | omega))⟩, trivial⟩ trivial (fun x => boxIds_all hp) (fun x hg1 => ?_)
 obtain ⟨pre, rest⟩ := x
 dsimp only at hg1 ⊢
 refine evc [] [] ?_
 refine sq (fun h1 h1p h1s => ?_) fun h1 h1p h1s => ?_
 ·try simp only [Q] at h1p
  rcases rest with _ | ⟨y, rest⟩
  ·exfalso; simp_all
  refine Walk.idx sl49 .none rfl rfl rfl rfl (zip_at hg1.1) rfl ?_
  refine ev ?_
  refine Walk.callV (cr := []) hcal (hf y (by rw [← hg1.1]; simp)) rfl .none rfl rfl rfl (LeL.refl _) k1 k2 (okCall_d k3 _) rfl ?_
  refine tv ?_
  refine sq (fun h2 h2p h2s => ?_) fun h2 h2p h2s => ?_
  ·try simp only [Q] at h2p
   refine rn [] (r1 rfl) (.eqd ?_) ⟨rfl, rfl⟩ (fun _ _ h => h) (fun _ h => h)
   all_goals (rw [← hg1.2]; simp [idxF, h1s, h1p, h2s, h2p])
  ·try simp only [Q] at h2p
   refine ar ?_
   refine Exists.intro ((pre ++ [y], rest)) ⟨⟨(by have hz := hg1.1; rw [← hz]; simp), (by rw [← hg1.2]; simp [idxF, h2s])⟩, (by simp), Sub.x (by kernel_rfl) (by kernel_rfl) ⟨⟨_, rfl, (LeA.eqi (by first | rfl | (simp; done) | (simp_all; done) | omega))⟩, trivial⟩ (by simp) (by simp [coverH]) trivial⟩
 ·try simp only [Q] at h1p
  have hrest : rest = [] := by
   rcases rest with _ | ⟨a, b⟩
   ·rfl
   ·exfalso; have hz := congrArg List.length (hg1.1); simp only [List.length_append, List.length_cons, List.length_map] at hz; omega
  subst hrest
  refine rn [] (r1 rfl) (.eqd ?_) ⟨rfl, rfl⟩ (fun _ _ h => h) (fun _ h => h)
  all_goals (rw [← hg1.2]; simp [idxF, h1s, h1p])
theorem slices_ContainsFunc_Pat_fn {xs : List Pat} {f : Nat} {caps : List AV} {hp : Hp} {p : Pat → Bool} (hs : xs.length ≤ 1000000000000) (hcal : Callee Tryz.prog f)
  (hf : ∀ t ∈ xs, FnD Tryz.prog f ([.agg [.d (.i t.op), .d (.i t.ctor), .d (.i t.n), .d (.i t.m), .d (.i t.var), .d (encPats t.kids)]] ++ caps) hp (.d (.bool (p t))) []) (k1 : subH hp hp) (k2 : noTok hp = true) (k3 : okCall hp [] (.d .nilp) [] = true) :
  FnD Tryz.prog 192 [.d (encPats xs), .fn f caps] hp (.d (.bool (xs.any p))) [] := by
 refine bd Tryz.f192 9 [] [] fun w0 F0 own kept hk => ?_
 refine Walk.call (cr := []) cal264 (slices_IndexFunc_Pat_fn hs hcal hf k1 k2 k3) rfl .none rfl rfl (LeL.refl _) k1 k2 (okCall_d k3 _) rfl ?_
 refine ev ?_
 refine rn [] (r1 rfl) (.eqd ?_) ⟨rfl, rfl⟩ (fun _ _ h => h) (fun _ h => h)
 all_goals (exact congrArg D.bool (idxF_any p xs 0))
theorem slices_IndexFunc_Pat_b {xs : List Pat} {f : Nat} {B2 B3 : List AV} {p : Pat → Bool} (hs : xs.length ≤ 1000000000000) (hcal : Callee Tryz.prog f) (hB2 : AV.idsL B2 = []) (hB3 : AV.idsL B3 = [])
  (hf : ∀ t ∈ xs, FnD Tryz.prog f [.agg [.d (.i t.op), .d (.i t.ctor), .d (.i t.n), .d (.i t.m), .d (.i t.var), .d (encPats t.kids)], .ref 3003 0, .ref 3004 0] [(3003, some (.box B2)), (3004, some (.box B3))] (.d (.bool (p t))) []) :
  FnD Tryz.prog 264 [.ms 1 xs.length, .fn f [.ref 3003 0, .ref 3004 0]] [(1, some (.box (pd xs))), (3003, some (.box B2)), (3004, some (.box B3))] (.d (.i (idxF p xs 0))) [] := by
 refine bd Tryz.f264 19 [15] [] fun w0 F0 own kept hk => ?_
 refine CWp.loopX (ι := Nat) hk (fun i => [(8, .d (.i (i : Int)))]) [4, 5, 9, 10, 11, 12, 13, 14, 15, 16, 17, 18] (fun i => []) (fun i => i ≤ xs.length ∧ idxF p (xs.drop i) i = idxF p xs 0) (fun i => xs.length - i) 0 ⟨by omega, rfl⟩ ⟨⟨_, rfl, (LeA.eqi (by first | rfl | (simp; done) | (simp_all; done) | omega))⟩, trivial⟩ trivial (fun x => rfl) (fun i hg1 => ?_)
 refine evc [15] [] ?_
 refine sq (fun h1 h1p h1s => ?_) fun h1 h1p h1s => ?_
 ·try simp only [Q] at h1p
  refine Walk.idxM sl49 .none rfl rfl rfl rfl (by first | omega | (simp ; omega)) ?_
  refine Walk.loadBA ty51 .none rfl rfl rfl ((pd_cut (by omega))) ?_
  refine Walk.callV (cr := []) hcal (hf (nth xs i) (nth_mem (by omega))) rfl .none rfl rfl rfl (LeL.refl _) ⟨rfl, rfl, trivial⟩ rfl (by simp only [okCall, List.all_cons, List.all_nil, entOK, entOK', AV.idsL, AV.ids, hB2, hB3, List.map_cons, List.map_nil]; rfl) rfl ?_
  refine tv ?_
  refine sq (fun h2 h2p h2s => ?_) fun h2 h2p h2s => ?_
  ·try simp only [Q] at h2p
   refine rn [] (r1 rfl) (.eqd ?_) ⟨rfl, rfl⟩ (SubH.get ⟨rfl, ⟨rfl, ⟨rfl, trivial⟩⟩⟩) (fun _ h => h)
   all_goals ((rw [← hg1.2, drop_nth (by omega)]; simp [idxF, h1s, h1p, h2s, h2p]; done))
  ·try simp only [Q] at h2p
   refine ar ?_
   refine Exists.intro (i + 1) ⟨⟨by omega, (by rw [← hg1.2, drop_nth (l := xs) (i := i) (by omega)]; simp_all [idxF])⟩, (by omega), Sub.x (by kernel_rfl) (by kernel_rfl) ⟨⟨_, rfl, (LeA.eqi (by first | rfl | (simp; done) | (simp_all; done) | omega))⟩, trivial⟩ (by kernel_rfl) (by kernel_rfl) trivial⟩
 ·try simp only [Q] at h1p
  refine rn [] (r1 rfl) (.eqd ?_) ⟨rfl, rfl⟩ (SubH.get ⟨rfl, ⟨rfl, ⟨rfl, trivial⟩⟩⟩) (fun _ h => h)
  all_goals ((rw [← hg1.2, List.drop_eq_nil_of_le (by omega)]; rfl))
theorem slices_DeleteFunc_Pat_b {xs : List Pat} {f : Nat} {B2 B3 : List AV} {p : Pat → Bool} (hs : xs.length ≤ 1000000000000) (hcal : Callee Tryz.prog f) (hB2 : AV.idsL B2 = []) (hB3 : AV.idsL B3 = [])
  (hf : ∀ t ∈ xs, FnD Tryz.prog f [.agg [.d (.i t.op), .d (.i t.ctor), .d (.i t.n), .d (.i t.m), .d (.i t.var), .d (encPats t.kids)], .ref 3003 0, .ref 3004 0] [(3003, some (.box B2)), (3004, some (.box B3))] (.d (.bool (p t))) []) :
  ∃ tl : List AV, AV.idsL tl = [] ∧ FnD Tryz.prog 255 [.ms 1 xs.length, .fn f [.ref 3003 0, .ref 3004 0]] [(1, some (.box (pd xs))), (3003, some (.box B2)), (3004, some (.box B3))]
   (.ms 1 (xs.filter fun t => !p t).length) [(1, some (.box (pd (xs.filter fun t => !p t) ++ tl)))] := by
 have hok3 : okCall [(1, some (.box (pd xs))), (3003, some (.box B2)), (3004, some (.box B3))] [] (.d .nilp) [] = true := by
  simp only [okCall, List.all_cons, List.all_nil, entOK, entOK', AV.idsL, AV.ids, pd_ids, hB2, hB3, List.map_cons, List.map_nil]; rfl
 rcases idxF_spec p xs 0 with ⟨hi, hall⟩ | ⟨k, hi, hk1, hk2⟩
 ·have hfil : (xs.filter fun t => !p t) = xs := List.filter_eq_self.2 (fun x hx => by simp [hall x hx])
  refine ⟨[], rfl, ?_⟩
  rw [hfil, List.append_nil]
  refine bd Tryz.f255 42 [] [] fun w0 F0 own kept hk => ?_
  refine Walk.call (cr := []) cal264 (slices_IndexFunc_Pat_b hs hcal hB2 hB3 hf) rfl .none rfl rfl (.cons (LeA.msn (by first | rfl | (simp; done))) (.cons (.refl _) .nil)) ⟨rfl, rfl, rfl, trivial⟩ rfl (okCall_d hok3 _) rfl ?_
  refine ev ?_
  refine sq (fun h1 h1p h1s => ?_) fun h1 h1p h1s => ?_
  ·try simp only [Q] at h1p
   refine rn [(1, some (.box (pd xs)))] (r1 rfl) (.refl _) ⟨rfl, rfl⟩ (SubO.get ⟨.inr (by rfl), ⟨.inl rfl, ⟨.inr rfl, ⟨.inr rfl, trivial⟩⟩⟩⟩) (boxOK rfl)
   all_goals (first | rfl | (simp; done))
  ·try simp only [Q] at h1p
   exfalso; simp [hi] at h1 --stop
 ·skip
  have hlen : (xs.filter fun t => !p t).length ≤ xs.length := List.length_filter_le _ _
  refine ⟨zerosA (xs.length - (xs.filter fun t => !p t).length) z6, zerosA_ids rfl, ?_⟩
  refine bd Tryz.f255 42 [25] [] fun w0 F0 own kept hk => ?_
  refine Walk.call (cr := []) cal264 (slices_IndexFunc_Pat_b hs hcal hB2 hB3 hf) rfl .none rfl rfl (.cons (LeA.msn (by first | rfl | (simp; done))) (.cons (.refl _) .nil)) ⟨rfl, rfl, rfl, trivial⟩ rfl (okCall_d hok3 _) rfl ?_
  refine evs [25] [] ?_
  refine sq (fun h1 h1p h1s => ?_) fun h1 h1p h1s => ?_
  ·try simp only [Q] at h1p
   exfalso; simp [hi] at h1 <;> omega --stop
  ·try simp only [Q] at h1p
   refine ar ?_
   refine CWp.loopX (ι := List Pat × Nat × Nat) hk (fun x => [(6, .d (.i (x.2.1 : Int))), (5, .d (.i (x.2.2 : Int)))]) [7, 16, 17, 18, 19, 20, 21, 22, 23, 24, 25, 26, 27, 28, 29, 30, 31, 32, 33, 34, 35] (fun x => [(1, some (.box (pd x.1)))]) (fun x => x.1.length = xs.length ∧ x.2.1 ≤ xs.length ∧ x.2.2 ≤ x.2.1 ∧ x.1.take x.2.2 = (xs.take x.2.1).filter (fun t => !p t) ∧ x.1.drop x.2.1 = xs.drop x.2.1) (fun x => xs.length - x.2.1) (xs, k + 1, k) ⟨rfl, by dsimp only; omega, by dsimp only; omega, hk2.symm, rfl⟩ ⟨⟨_, rfl, (LeA.eqi (by (simp_all; done)))⟩, ⟨⟨_, rfl, (LeA.eqi (by (simp_all; done)))⟩, trivial⟩⟩ ⟨(by rfl), trivial⟩ (fun x => rfl) (fun x hg1 => ?_)
   refine evc [25] [] ?_
   refine sq (fun h2 h2p h2s => ?_) fun h2 h2p h2s => ?_
   ·try simp only [Q] at h2p
    refine Walk.idxM sl49 .none rfl rfl rfl rfl (by first | omega | (simp ; omega)) ?_
    refine Walk.loadBA ty51 .none rfl rfl rfl (((pd_cut (s := x.1) (by omega)).trans (by rw [nth_of_drop hg1.2.2.2.2 hg1.1 (by omega)]))) ?_
    refine Walk.alloc (id := 3007) tz51 rfl .none rfl (by rfl) (by rfl) (by (simp only [freshB, occH, occE, Res.ids, List.cons_append, List.nil_append, AV.idsL, AV.ids, idsL_append, ownCells_ids, zerosA_idsR, repNil, List.map_cons, List.map_nil, upC, hB2, hB3, pd_ids]; rfl)) ?_
    refine Walk.store ty51 .none rfl rfl rfl rfl rfl rfl (by simp) rfl ?_
    refine tv ?_
    refine Walk.callV (cr := []) hcal (hf (nth xs x.2.1) (nth_mem (by omega))) rfl .none rfl rfl rfl (LeL.refl _) ⟨rfl, rfl, trivial⟩ rfl (by simp only [okCall, List.all_cons, List.all_nil, entOK, entOK', AV.idsL, AV.ids, hB2, hB3, List.map_cons, List.map_nil]; rfl) rfl ?_
    refine evs [25] [] ?_
    refine sq (fun h3 h3p h3s => ?_) fun h3 h3p h3s => ?_
    ·try simp only [Q] at h3p
     refine Walk.idxM sl49 .none rfl rfl rfl rfl (by first | omega | (simp ; omega)) ?_
     refine Walk.store ty51 .none rfl rfl rfl rfl rfl rfl (by simp) ((pd_put (by omega))) ?_
     refine tv ?_
     refine ar ?_
     refine ar ?_
     refine Exists.intro ((if p (nth xs x.2.1) then x.1 else x.1.set x.2.2 (nth xs x.2.1), x.2.1 + 1, if p (nth xs x.2.1) then x.2.2 else x.2.2 + 1)) ⟨(by
         obtain ⟨g1, g2, g3, g4, g5⟩ := hg1
         have hlt : x.2.1 < xs.length := by omega
         have h7 := filter_take_next (p := fun t => !p t) hlt
         refine ⟨by dsimp only; split <;> simp [g1], by dsimp only; omega, by dsimp only; split <;> omega, ?_, ?_⟩
         ·dsimp only
          rw [h7, ← g4]
          cases hp : p (nth xs x.2.1) with
          | true => simp
          | false => simp only [Bool.false_eq_true, if_false, Bool.not_false, if_true]; rw [take_set_next (by omega)]
         ·dsimp only
          split
          ·exact drop_more g5
          ·(rw [drop_set_next g3]; exact drop_more g5)), (by dsimp only; omega), Sub.x (by kernel_rfl) (by kernel_rfl) ⟨⟨_, rfl, (LeA.eqi (by rfl))⟩, ⟨⟨_, rfl, (LeA.eqi (by (simp_all; done)))⟩, trivial⟩⟩ (by kernel_rfl) (by kernel_rfl) ⟨(by (show some (Res.box _) = some (Res.box _); dsimp only; split <;> first | rfl | (exfalso; simp_all; done))), trivial⟩⟩
    ·try simp only [Q] at h3p
     refine ar ?_
     refine Exists.intro ((if p (nth xs x.2.1) then x.1 else x.1.set x.2.2 (nth xs x.2.1), x.2.1 + 1, if p (nth xs x.2.1) then x.2.2 else x.2.2 + 1)) ⟨(by
         obtain ⟨g1, g2, g3, g4, g5⟩ := hg1
         have hlt : x.2.1 < xs.length := by omega
         have h7 := filter_take_next (p := fun t => !p t) hlt
         refine ⟨by dsimp only; split <;> simp [g1], by dsimp only; omega, by dsimp only; split <;> omega, ?_, ?_⟩
         ·dsimp only
          rw [h7, ← g4]
          cases hp : p (nth xs x.2.1) with
          | true => simp
          | false => simp only [Bool.false_eq_true, if_false, Bool.not_false, if_true]; rw [take_set_next (by omega)]
         ·dsimp only
          split
          ·exact drop_more g5
          ·exact drop_more g5), (by dsimp only; omega), Sub.x (by kernel_rfl) (by kernel_rfl) ⟨⟨_, rfl, (LeA.eqi (by rfl))⟩, ⟨⟨_, rfl, (LeA.eqi (by (simp_all; done)))⟩, trivial⟩⟩ (by kernel_rfl) (by kernel_rfl) ⟨(by (show some (Res.box _) = some (Res.box _); dsimp only; split <;> first | rfl | (exfalso; simp_all; done))), trivial⟩⟩
   ·try simp only [Q] at h2p
    refine Walk.cutM_l sl49 .none rfl rfl rfl rfl (by omega) ?_
    refine Walk.clearB sl49 tz51 rfl (by decide) rfl .none rfl rfl (pd_zero hg1.1 (by omega)) ?_
    refine tv ?_
    refine Walk.cutM_h sl49 .none rfl rfl rfl rfl (by omega) ?_
    refine evs [25] [] ?_
    refine rn [(1, some (.box (pd (xs.filter fun t => !p t) ++ zerosA (xs.length - (xs.filter fun t => !p t).length) z6)))] (r1 rfl) (LeA.msn ?_) ⟨rfl, rfl⟩ (SubO.get ⟨.inr (by (obtain ⟨g1, g2, g3, g4, g5⟩ := hg1; have e : x.2.1 = xs.length := (by omega); rw [e, List.take_length] at g4; have e2 : (xs.filter fun t => !p t).length = x.2.2 := (by rw [← g4, List.length_take]; omega); rw [e2, ← g4]; rfl)), ⟨.inl rfl, ⟨.inr rfl, ⟨.inr rfl, trivial⟩⟩⟩⟩) (boxOK rfl)
    all_goals ((obtain ⟨g1, g2, g3, g4, g5⟩ := hg1; have e : x.2.1 = xs.length := (by omega); rw [e, List.take_length] at g4; rw [← g4, List.length_take]; omega))
theorem slices_DeleteFunc_Pat_nil {f : Nat} {caps : List AV} {hp : Hp} (hcal : Callee Tryz.prog f) (k1 : subH hp hp) (k2 : noTok hp = true) (k3 : okCall hp [] (.d .nilp) [] = true) :
  FnD Tryz.prog 255 [.d (.sl []), .fn f caps] hp (.d (.sl [])) [] := by
 have hz := slices_IndexFunc_Pat_fn (xs := []) (p := fun _ => false) (f := f) (caps := caps) (hp := hp) (by simp) hcal (fun t ht => by simp at ht) k1 k2 k3
 refine bd Tryz.f255 42 [] [] fun w0 F0 own kept hk => ?_
 refine Walk.call (cr := []) cal264 (hz) rfl .none rfl rfl (LeL.refl _) k1 k2 (okCall_d k3 _) rfl ?_
 refine ev ?_
 refine sq (fun h1 h1p h1s => ?_) fun h1 h1p h1s => ?_
 ·try simp only [Q] at h1p
  refine rn [] (r1 rfl) (.eqd ?_) ⟨rfl, rfl⟩ (fun _ _ h => h) (fun _ h => h)
  all_goals (rfl)
 ·try simp only [Q] at h1p
  exfalso; simp [idxF] at h1 --stop
theorem slices_Clone_Pat_b {xs : List Pat} (hs : xs.length ≤ 1000000000000) (hne : xs ≠ []) : FnD Tryz.prog 256 [.d (encPats xs)] [] (.ms 1 xs.length) [(1, some (.box (pd xs)))] := by
 have hcs : Pat.cs xs ≠ [] := fun h => hne ((Pat.cs_nil xs).1 h)
 refine Fn.body (fn := Tryz.f256) (n := 8) rfl rfl rfl rfl rfl (fun w0 F0 own kept hk => ?_)
 refine CWp.splitNil 0 rfl (fun hx0 => ?_) ?_
 ·
  refine evc [4] [] ?_
  refine Walk.eqNilT sl49 .none rfl rfl ?_
  refine tv ?_
  refine sqT ?_
  exfalso; exact hcs hx0 --stop
 ·
  refine evc [4] [] ?_
  refine Walk.eqNilF sl49 .none rfl rfl ?_
  refine tv ?_
  refine sqF ?_
  refine Walk.sliceEmptyGV 1 sl49 .none rfl rfl ?_
  refine evs [4] [] ?_
  refine Walk.appendM hk rfl (by simp [hcs]) sl49 zz51 .none rfl rfl rfl rfl (htokL rfl (by first | rfl | (simp; done) | (simp; omega))) (by intro y hy; rw [Pat.cs_cd] at hy; obtain ⟨z, _, rfl⟩ := List.mem_map.1 hy; rfl) (by simp [Pat.cs_len]; omega) (by simp [Pat.cs_len]; omega) ?_
  refine evs [4] [] ?_
  refine rn [(1, some (.box (pd xs)))] (r1 rfl) (LeA.msn ?_) ⟨rfl, rfl⟩ (SubH.get ⟨(by (show some (Res.box _) = some (Res.box _); unfold pd; rw [← Pat.cs_cd]; rfl)), trivial⟩) (boxOK rfl)
  all_goals (first | rfl | (simp [Pat.cs_len]; done))
theorem impl_filled_1_fn {w : List Data} (hs : Spa w) {ta tk : Int} (ht : InS (w.length * 4) ⟨ta, tk⟩) {p : Pat} (hp : partP w 11 ⟨ta, tk⟩ p = true) :
  FnD Tryz.prog 257 [.agg [.d (.i p.op), .d (.i p.ctor), .d (.i p.n), .d (.i p.m), .d (.i p.var), .d (encPats p.kids)], .ref 3003 0, .ref 3004 0] [(3003, some (.box [.d (sPtr w (depthT w))])), (3004, some (.box [.d (.i ta), .d (.i tk)]))] (.d (.bool (emptyP w (depthT w) 11 ⟨ta, tk⟩ p))) [] := by
 refine bd Tryz.f257 9 [] [] fun w0 F0 own kept hk => ?_
 refine Walk.box (id := 3001) .none rfl rfl rfl rfl rfl rfl rfl ?_
 refine ev ?_
 refine Walk.call (cr := []) cal258 (impl_empty_fn hs.dp 11 (part_shape _ hp) ht (part_ok hs 11 ht hp).1) rfl .none rfl rfl (LeL.refl _) trivial rfl rfl rfl ?_
 refine ev ?_
 refine rn [] (r1 rfl) (.eqd ?_) ⟨rfl, rfl⟩ (SubH.get ⟨rfl, ⟨rfl, trivial⟩⟩) (fun _ h => h)
 all_goals (rfl)
theorem impl_filled_fn {w : List Data} (hs : Spa w) {ta tk : Int} (ht : InS (w.length * 4) ⟨ta, tk⟩) {l : List Pat} (hl : ∀ a ∈ l, partP w 11 ⟨ta, tk⟩ a = true) (hb : l.length ≤ 1000000000000) :
  FnD Tryz.prog 190 [.d (sPtr w (depthT w)), .agg [.d (.i ta), .d (.i tk)], .d (encPats l)] [] (.d (encPats (l.filter (aliveQ w ⟨ta, tk⟩)))) [] := by
 by_cases hne : l = []
 ·subst hne
  have hcl : FnD Tryz.prog 256 [.d (.sl [])] [] (.d (.sl [])) [] := (slices_Clone_Pat_fn (xs := []) (by simp)).glD
  refine bd Tryz.f190 11 [] [] fun w0 F0 own kept hk => ?_
  refine Walk.box (id := 3003) .none rfl rfl rfl rfl rfl rfl rfl ?_
  refine Walk.box (id := 3004) .none rfl rfl rfl rfl rfl rfl rfl ?_
  refine ev ?_
  refine Walk.call (cr := []) cal256 (hcl) rfl .none rfl rfl (LeL.refl _) trivial rfl rfl rfl ?_
  refine Walk.closure (xs := [_, _]) rfl .none rfl rfl ?_
  refine Walk.call (cr := []) cal255 (slices_DeleteFunc_Pat_nil (hp := [(3003, some (.box [.d (sPtr w (depthT w))])), (3004, some (.box [.d (.i ta), .d (.i tk)]))]) cal257 ⟨rfl, rfl, trivial⟩ rfl rfl) rfl .none rfl rfl (LeL.refl _) ⟨rfl, rfl, trivial⟩ rfl rfl rfl ?_
  refine ev ?_
  refine rn0 (r1 rfl) (.eqd ?_)
  all_goals (rfl)
 ·obtain ⟨tl, htl, hdel⟩ := slices_DeleteFunc_Pat_b (xs := l) (p := fun a => emptyP w (depthT w) 11 ⟨ta, tk⟩ a) hb cal257 (B2 := [.d (sPtr w (depthT w))]) (B3 := [.d (.i ta), .d (.i tk)]) rfl rfl (fun a ha => impl_filled_1_fn hs ht (hl a ha))
  have key : FnD Tryz.prog 190 [.d (sPtr w (depthT w)), .agg [.d (.i ta), .d (.i tk)], .d (encPats l)] [] (.ms 1 (l.filter (aliveQ w ⟨ta, tk⟩)).length) [(1, some (.box (pd (l.filter (aliveQ w ⟨ta, tk⟩)) ++ tl)))] := by
   refine bd Tryz.f190 11 [] [] fun w0 F0 own kept hk => ?_
   refine Walk.box (id := 3003) .none rfl rfl rfl rfl rfl rfl rfl ?_
   refine Walk.box (id := 3004) .none rfl rfl rfl rfl rfl rfl rfl ?_
   refine ev ?_
   refine Walk.call (cr := [1]) cal256 (slices_Clone_Pat_b hb hne) rfl .none rfl rfl (LeL.refl _) trivial rfl (by simp only [okCall, List.all_cons, List.all_nil, entOK, entOK', AV.idsL, AV.ids, pd_ids, idsL_append, htl, List.map_cons, List.map_nil]; rfl) rfl ?_
   refine Walk.closure (xs := [_, _]) rfl .none rfl rfl ?_
   refine Walk.call (cr := []) cal255 (hdel) rfl .none rfl rfl (.cons (LeA.msn (by first | rfl | (simp; done))) (.cons (.refl _) .nil)) ⟨rfl, rfl, rfl, trivial⟩ rfl (by simp only [okCall, List.all_cons, List.all_nil, entOK, entOK', AV.idsL, AV.ids, pd_ids, idsL_append, htl, List.map_cons, List.map_nil]; rfl) rfl ?_
   refine ev ?_
   refine rn [(1, some (.box (pd (l.filter (aliveQ w ⟨ta, tk⟩)) ++ tl)))] (r1 rfl) (LeA.msn ?_) ⟨rfl, rfl⟩ (SubH.get ⟨(by rfl), trivial⟩) (boxOK rfl)
   all_goals (rfl)
  have h2 := key.boxD (k := 6) pd_chunk
  rw [← Pat.cs_cd] at h2
  exact h2
structure MatchOk (w : List Data) (n m : Nat) (t : Ty) (p : Pat) (v : Val) : Prop where
 shape : shapeP w n t p = true
 fits : fitsV w m t v = true
 pok : p.ok
 vok : v.ok
 psz : p.size ≤ 100
 vsz : v.size ≤ 100
theorem MatchOk.two {w : List Data} {n m : Nat} {t : Ty} {p : Pat} {v : Val} (h : MatchOk w (n + 1) m t p v) (h5 : p.op = 5) :
  p.kids.length = 2 ∧ MatchOk w n m t (nth p.kids 0) v ∧ MatchOk w n m t (nth p.kids 1) v := by
 obtain ⟨hl, s0, s1⟩ := shape_two h.shape h5
 have hpk := (Pat.ok_iff p).1 h.pok
 have hps := Pat.size_eq p
 have z0 := pnth_size (l := p.kids) (i := 0) (by omega)
 have z1 := pnth_size (l := p.kids) (i := 1) (by omega)
 have hs := h.psz
 exact ⟨hl, ⟨s0, h.fits, Pats.ok_mem hpk.2 _ (nth_mem (by omega)), h.vok, by omega, h.vsz⟩, ⟨s1, h.fits, Pats.ok_mem hpk.2 _ (nth_mem (by omega)), h.vok, by omega, h.vsz⟩⟩
theorem MatchOk.one {w : List Data} {n m : Nat} {t : Ty} {p : Pat} {v : Val} (h : MatchOk w (n + 1) m t p v) (h6 : p.op = 6) :
  p.kids.length = 1 ∧ MatchOk w n m t (nth p.kids 0) v := by
 obtain ⟨hl, s0⟩ := shape_one h.shape h6
 have hpk := (Pat.ok_iff p).1 h.pok
 have hps := Pat.size_eq p
 have z0 := pnth_size (l := p.kids) (i := 0) (by omega)
 have hs := h.psz
 exact ⟨hl, ⟨s0, h.fits, Pats.ok_mem hpk.2 _ (nth_mem (by omega)), h.vok, by omega, h.vsz⟩⟩
structure VarsOk (l : List Bd) (vs : List Vt) : Prop where
 len : l.length = vs.length
 nod : (l.map Bd.var).Nodup
 sub : ∀ x ∈ l.map Bd.var, x ∈ vs.map Vt.var
theorem clsV_tv {w : List Data} {a k : Int} {l : List Cl} (h : clsValid w ⟨a, k⟩ l = true) : typeValid w ⟨a, k⟩ = true ∧ l.length ≤ 8 := by
 unfold clsValid at h
 simp only [Bool.and_eq_true, decide_eq_true_eq] at h
 exact ⟨h.1, by omega⟩
theorem flat_bd {α β : Type} {g : α → List β} {K : Nat} : ∀ (l : List α), (∀ x ∈ l, (g x).length ≤ K) → (l.flatMap g).length ≤ l.length * K
 | [], _ => by simp
 | x :: r, h => by
  have h1 := h x (by simp)
  have h2 := flat_bd r (fun y hy => h y (by simp [hy]))
  rw [List.flatMap_cons, List.length_append, List.length_cons, Nat.add_mul]; omega
theorem subL_next {w : List Data} {t : Ty} {l away : List Pat} {i : Nat} (h : i < away.length) : subL w t l (away.drop i) = if (nextQ w t l (nth away i)).length ≤ 400 then subL w t (nextQ w t l (nth away i)) (away.drop (i + 1)) else none := by
 rw [drop_nth h, subL]
theorem subL_end {w : List Data} {t : Ty} {l away : List Pat} {i : Nat} (h : away.length ≤ i) : subL w t l (away.drop i) = some l := by
 rw [List.drop_eq_nil_of_le h, subL]
def coverQ : List Cl → List Pat → Option (List Pat)
 | [], out => some out
 | c :: r, out => if c.g.op = 0 then (if partsOk c.pat = true then coverQ r (out ++ partsQ c.pat) else none) else coverQ r out
theorem coverQ_skip {l : List Cl} {out : List Pat} {i : Nat} (h : i < l.length) (hg : ¬ (nth l i).g.op = 0) : coverQ (l.drop i) out = coverQ (l.drop (i + 1)) out := by
 rw [drop_nth h, coverQ, if_neg hg]
theorem coverQ_more {l : List Cl} {out : List Pat} {i : Nat} (h : i < l.length) (hg : (nth l i).g.op = 0) (hp : partsOk (nth l i).pat = true) : coverQ (l.drop i) out = coverQ (l.drop (i + 1)) (out ++ partsQ (nth l i).pat) := by
 rw [drop_nth h, coverQ, if_pos hg, if_pos hp]
theorem coverQ_bad {l : List Cl} {out : List Pat} {i : Nat} (h : i < l.length) (hg : (nth l i).g.op = 0) (hp : partsOk (nth l i).pat = false) : coverQ (l.drop i) out = none := by
 rw [drop_nth h, coverQ, if_pos hg, if_neg (by rw [hp]; simp)]
theorem coverQ_end {l : List Cl} {out : List Pat} {i : Nat} (h : l.length ≤ i) : coverQ (l.drop i) out = some out := by
 rw [List.drop_eq_nil_of_le h, coverQ]
theorem partsQ_len (p : Pat) : (partsQ p).length ≤ 40 := by unfold partsQ; split; assumption; simp
theorem partsQ_part {w : List Data} {t : Ty} {p : Pat} (h : shapeP w 10 t p = true) : ∀ x ∈ partsQ p, partP w 10 t x = true := fun x hx => by
 unfold partsQ at hx
 split at hx
 ·exact parts_ok 10 h x hx
 ·simp at hx
theorem coverQ_part {w : List Data} {t : Ty} : ∀ (l : List Cl) (out r : List Pat), (∀ c ∈ l, shapeP w 10 t c.pat = true) → (∀ x ∈ out, partP w 10 t x = true) → coverQ l out = some r → r.length ≤ out.length + 40 * l.length ∧ ∀ x ∈ r, partP w 10 t x = true
 | [], out, r, _, ho, h => by rw [coverQ] at h; cases h; exact ⟨by simp, ho⟩
 | c :: l, out, r, hc, ho, h => by
  rw [coverQ] at h
  split at h
  ·split at h
   ·have := coverQ_part l _ r (fun x hx => hc x (by simp [hx])) (fun x hx => by
     rcases List.mem_append.1 hx with hx | hx
     ·exact ho x hx
     ·exact partsQ_part (hc c (by simp)) x hx) h
    have hl := partsQ_len c.pat
    rw [List.length_append] at this
    exact ⟨by rw [List.length_cons]; omega, this.2⟩
   ·cases h
  ·have := coverQ_part l _ r (fun x hx => hc x (by simp [hx])) ho h
   exact ⟨by rw [List.length_cons]; omega, this.2⟩
def missQ (w : List Data) (t : Ty) (l : List Cl) : Option (List Pat) := match coverQ l [] with
 | none => none
 | some away => match withoutQ w t [anyQ] away with
  | none => none
  | some r => if r.all (isP w t) = true then some r else none
def missV (w : List Data) (t : Ty) (l : List Cl) : Option (List Pat) := if clsValid w t l = true then missQ w t l else none
theorem withoutQ_part {w : List Data} {t : Ty} : ∀ (away l r : List Pat), (∀ a ∈ l, partP w 11 t a = true) → l.length ≤ 400 → (∀ b ∈ away, partP w 10 t b = true) → subL w t l away = some r → r.length ≤ 400 ∧ ∀ x ∈ r, partP w 11 t x = true
 | [], l, r, hl, hn, _, h => by rw [subL] at h; cases h; exact ⟨hn, hl⟩
 | b :: away, l, r, hl, hn, hb, h => by
  rw [subL] at h
  split at h
  ·rename_i h4
   exact withoutQ_part away _ r (nextQ_part hl (hb b (by simp))) h4 (fun x hx => hb x (by simp [hx])) h
  ·cases h
theorem impl_without_fn {w : List Data} (hs : Spa w) {ta tk : Int} (ht : InS (w.length * 4) ⟨ta, tk⟩) {l away : List Pat} (hl : ∀ a ∈ l, partP w 11 ⟨ta, tk⟩ a = true) (hb : ∀ b ∈ away, partP w 10 ⟨ta, tk⟩ b = true) (hll : l.length ≤ 400) (hal : away.length ≤ 1000) :
  FnD Tryz.prog 113 [.d (sPtr w (depthT w)), .agg [.d (.i ta), .d (.i tk)], .d (encPats l), .d (encPats away)] [] (.tup [.d (encPats ((withoutQ w ⟨ta, tk⟩ l away).getD [])), .d (.bool (withoutQ w ⟨ta, tk⟩ l away).isSome)]) [] := by
 have hlf : (l.filter (aliveQ w ⟨ta, tk⟩)).length ≤ l.length := List.length_filter_le _ _
 have hmb : ∀ (c : List Pat) (i : Nat), (∀ a ∈ c, partP w 11 ⟨ta, tk⟩ a = true) → i < away.length → ∀ x ∈ c, (minusQ w 10 ⟨ta, tk⟩ x (nth away i)).length ≤ 20000000 := fun c i hc hi x hx => minus_bd hs (by omega) (by omega) ht (hc x hx) (hb _ (nth_mem hi))
 have hnp : ∀ (c : List Pat) (i : Nat), (∀ a ∈ c, partP w 11 ⟨ta, tk⟩ a = true) → i < away.length → ∀ x ∈ (c.flatMap fun a => minusQ w 10 ⟨ta, tk⟩ a (nth away i)), partP w 11 ⟨ta, tk⟩ x = true := fun c i hc hi x hx => by
  obtain ⟨a, ha, hx⟩ := List.mem_flatMap.1 hx
  exact minus_part 10 11 (by omega) (hc a ha) (hb _ (nth_mem hi)) x hx
 have hpre : ∀ {pre rest c : List Pat} {y : Pat} (i : Nat), (∀ a ∈ c, partP w 11 ⟨ta, tk⟩ a = true) → c.length ≤ 400 → i < away.length → pre ++ y :: rest = c → (pre.flatMap fun a => minusQ w 10 ⟨ta, tk⟩ a (nth away i)).length ≤ 8000000000 ∧ (minusQ w 10 ⟨ta, tk⟩ y (nth away i)).length ≤ 20000000 := fun {pre rest c y} i hc h4 hi h => by
  have h1 := flat_bd (g := fun a => minusQ w 10 ⟨ta, tk⟩ a (nth away i)) (K := 20000000) pre (fun x hx => hmb c i hc hi x (by rw [← h]; simp [hx]))
  have h2 := hmb c i hc hi y (by rw [← h]; simp)
  have h3 := congrArg List.length h
  simp only [List.length_append, List.length_cons] at h3
  exact ⟨by omega, h2⟩
 refine bd Tryz.f113 48 [12] [11] fun w0 F0 own kept hk => ?_
 refine Walk.box (id := 3005) .none rfl rfl rfl rfl rfl rfl rfl ?_
 refine evs [12] [] ?_
 refine Walk.call (cr := []) cal190 (impl_filled_fn hs ht hl (by omega)) rfl .none rfl rfl (LeL.refl _) trivial rfl rfl rfl ?_
 refine evs [12] [] ?_
 refine CWp.loopX (ι := Nat × List Pat) hk (fun s => [(21, .d (.i (s.1 : Int))), (2, .d (encPats s.2))]) [8, 9, 11, 12, 14, 22, 23, 24, 25, 26, 27, 28, 29, 30, 31, 32, 33, 34, 35, 36, 37, 38, 39, 40, 41, 42, 43, 44, 45, 46] (fun s => []) (fun s => s.1 ≤ away.length ∧ subL w ⟨ta, tk⟩ s.2 (away.drop s.1) = withoutQ w ⟨ta, tk⟩ l away ∧ (∀ a ∈ s.2, partP w 11 ⟨ta, tk⟩ a = true) ∧ s.2.length ≤ 400) (fun s => away.length - s.1) (0, l.filter (aliveQ w ⟨ta, tk⟩)) ⟨by simp, rfl, fun a ha => hl a (List.mem_filter.1 ha).1, by dsimp only; omega⟩ ⟨⟨_, rfl, (LeA.eqi (by first | rfl | (simp; done) | (simp_all; done) | omega))⟩, ⟨⟨_, rfl, (by exact LeA.refl _)⟩, trivial⟩⟩ trivial (fun x => rfl) (fun s hg1 => ?_)
 refine evc [12] [11] ?_
 refine sq (fun h1 h1p h1s => ?_) fun h1 h1p h1s => ?_
 ·try simp only [Q, Pat.cs_len] at h1p
  refine Walk.idx sl49 .none rfl rfl rfl rfl (pats_at (by omega)) rfl ?_
  refine evs [12] [] ?_
  refine Walk.alloc (id := 3011) tz51 rfl .none rfl rfl rfl rfl ?_
  refine Walk.store ty51 .none rfl rfl rfl rfl rfl rfl (by simp) rfl ?_
  refine tv ?_
  refine Walk.assignNil 9 6 .none rfl rfl ?_
  refine tv ?_
  refine CWp.loopX (ι := List (Pat) × List (Pat)) hk (fun x => [(27, .d (.i (x.1.length : Int))), (12, .gl 9 (Pat.cs (x.1.flatMap fun a => minusQ w 10 ⟨ta, tk⟩ a (nth away s.1))))]) [14, 28, 29, 30, 31, 32, 33, 34, 35, 36, 37, 38] (fun x => [(9, some (.tok ((Pat.cs (x.1.flatMap fun a => minusQ w 10 ⟨ta, tk⟩ a (nth away s.1)))).length 6))]) (fun x => x.1 ++ x.2 = s.2) (fun x => x.2.length) ([], s.2) (by simp) ⟨⟨_, rfl, (LeA.eqi (by rfl))⟩, ⟨⟨_, rfl, (LeA.glg (by rfl))⟩, trivial⟩⟩ ⟨beq_nat_eq (by rfl), trivial⟩ (fun x => rfl) (fun x hg2 => ?_)
  obtain ⟨pre, rest⟩ := x
  dsimp only at hg2 ⊢
  refine evc [12] [11] ?_
  refine sq (fun h2 h2p h2s => ?_) fun h2 h2p h2s => ?_
  ·try simp only [Q, Pat.cs_len] at h2p
   rcases rest with _ | ⟨y, rest⟩
   ·exfalso; simp_all
   refine Walk.idx sl49 .none rfl rfl rfl rfl (Pat.cs_at' hg2) rfl ?_
   refine evs [12] [] ?_
   refine Walk.alloc (id := 3014) tz51 rfl .none rfl rfl rfl rfl ?_
   refine Walk.store ty51 .none rfl rfl rfl rfl rfl rfl (by simp) rfl ?_
   refine tv ?_
   refine Walk.call (cr := []) cal191 (impl_minus_fn hs 10 11 (by omega) (by omega) (by omega) ht (hg1.2.2.1 y (by rw [← hg2]; simp)) (hb _ (nth_mem (by omega)))) rfl .none rfl rfl (LeL.refl _) trivial rfl rfl rfl ?_
   refine Walk.append sl49 zz51 rfl .none rfl rfl rfl rfl (htokL rfl (by first | rfl | (simp; done) | (simp; omega))) (by exact pat_rows _) (by have h9 := hpre s.1 hg1.2.2.1 hg1.2.2.2 (by omega) hg2; simp only [Pat.cs_len]; omega) (by have h9 := hpre s.1 hg1.2.2.1 hg1.2.2.2 (by omega) hg2; simp only [Pat.cs_len]; omega) ?_
   refine asg ?_
   refine tv ?_
   refine ar ?_
   refine Exists.intro ((pre ++ [y], rest)) ⟨(by have hz := hg2; rw [← hz]; simp), (by simp), Sub.x (by kernel_rfl) (by kernel_rfl) ⟨⟨_, rfl, (LeA.eqi (by (simp [Pat.cs_len]; done)))⟩, ⟨⟨_, rfl, (LeA.glg (by (rw [List.flatMap_append, Pat.cs_cd, Pat.cs_cd, Pat.cs_cd, List.map_append]; simp; done)))⟩, trivial⟩⟩ (by kernel_rfl) (by kernel_rfl) ⟨beq_nat_eq (by (first | rfl | (rw [List.flatMap_append, Pat.cs_cd, Pat.cs_cd, Pat.cs_cd, List.map_append]; simp; done) | (simp [Pat.cs_len]; done) | omega)), trivial⟩⟩
  ·try simp only [Q, Pat.cs_len] at h2p
   have hrest : rest = [] := by
    rcases rest with _ | ⟨a, b⟩
    ·rfl
    ·exfalso; have hz := congrArg List.length (hg2); simp only [List.length_append, List.length_cons, List.length_map] at hz; omega
   subst hrest
   obtain rfl : pre = s.2 := (by simpa using hg2)
   refine evc [12] [] ?_
   refine Walk.call (cr := []) cal190 (impl_filled_fn hs ht (l := s.2.flatMap fun a => minusQ w 10 ⟨ta, tk⟩ a (nth away s.1)) (hnp s.2 s.1 hg1.2.2.1 (by omega)) (by have := flat_bd (g := fun a => minusQ w 10 ⟨ta, tk⟩ a (nth away s.1)) (K := 20000000) s.2 (hmb s.2 s.1 hg1.2.2.1 (by omega)); omega)) rfl .none rfl rfl (.cons (.refl _) (.cons (.refl _) (.cons (.gl _ _) .nil))) trivial rfl rfl rfl ?_
   refine evs [12] [] ?_
   refine sq (fun h3 h3p h3s => ?_) fun h3 h3p h3s => ?_
   ·try simp only [Q, Pat.cs_len] at h3p
    refine rn0 (r2 rfl rfl) (.tup (.cons (.nild ?_) (.cons (.eqd ?_) .nil)))
    all_goals ((rw [← hg1.2.1, subL_next (by omega), if_neg (by unfold nextQ; omega)]; rfl))
   ·try simp only [Q, Pat.cs_len] at h3p
    refine ar ?_
    refine Exists.intro ((s.1 + 1, nextQ w ⟨ta, tk⟩ s.2 (nth away s.1))) ⟨(by
       have h4 : (nextQ w ⟨ta, tk⟩ s.2 (nth away s.1)).length ≤ 400 := by unfold nextQ; omega
       refine ⟨by dsimp only; omega, ?_, nextQ_part hg1.2.2.1 (hb _ (nth_mem (by omega))), h4⟩
       have e := subL_next (w := w) (t := ⟨ta, tk⟩) (l := s.2) (away := away) (i := s.1) (by omega)
       rw [if_pos h4] at e
       dsimp only
       rw [← e]; exact hg1.2.1), (by dsimp only; omega), Sub.x (by kernel_rfl) (by kernel_rfl) ⟨⟨_, rfl, (LeA.eqi (by first | rfl | (simp; done) | (simp_all; done) | omega))⟩, ⟨⟨_, rfl, (by exact LeA.refl _)⟩, trivial⟩⟩ (by kernel_rfl) (by kernel_rfl) trivial⟩
 ·try simp only [Q, Pat.cs_len] at h1p
  refine rn0 (r2 rfl rfl) (.tup (.cons (.eqd ?_) (.cons (.eqd ?_) .nil)))
  all_goals ((rw [← hg1.2.1, subL_end (by omega)]; rfl))
theorem impl_covering_fn {w : List Data} {t : Ty} {l : List Cl} (hl : l.length ≤ 8) (hc : ∀ c ∈ l, shapeP w 10 t c.pat = true ∧ c.pat.ok) :
  FnD Tryz.prog 112 [.d (encCls l)] [] (.tup [.d (encPats ((coverQ l []).getD [])), .d (.bool (coverQ l []).isSome)]) [] := by
 have hpl := fun (i : Nat) => partsQ_len (nth l i).pat
 refine bd Tryz.f112 32 [4] [] fun w0 F0 own kept hk => ?_
 refine Walk.assignNil 9 6 .none rfl rfl ?_
 refine tv ?_
 refine CWp.loopX (ι := Nat × List Pat) hk (fun s => [(11, .d (.i (s.1 : Int))), (4, .gl 9 (Pat.cs s.2))]) [2, 3, 6, 7, 8, 12, 13, 14, 15, 16, 17, 18, 19, 20, 21, 22, 23, 24, 25, 26, 27, 28, 29, 30] (fun s => [(9, some (.tok ((Pat.cs s.2)).length 6))]) (fun s => s.1 ≤ l.length ∧ coverQ (l.drop s.1) s.2 = coverQ l [] ∧ s.2.length ≤ 40 * s.1) (fun s => l.length - s.1) (0, []) ⟨by simp, rfl, by simp⟩ ⟨⟨_, rfl, (LeA.eqi (by rfl))⟩, ⟨⟨_, rfl, (LeA.glg (by rfl))⟩, trivial⟩⟩ ⟨beq_nat_eq (by rfl), trivial⟩ (fun x => rfl) (fun s hg1 => ?_)
 refine evc [4] [] ?_
 refine sq (fun h1 h1p h1s => ?_) fun h1 h1p h1s => ?_
 ·try simp only [Q, Pat.cs_len] at h1p
  refine Walk.idx sl44 .none rfl rfl rfl rfl (at_nth (by omega)) rfl ?_
  refine evs [4] [] ?_
  refine Walk.alloc (id := 3006) tz135 rfl .none rfl rfl rfl rfl ?_
  refine Walk.store ty135 .none rfl rfl rfl rfl rfl rfl (by simp) rfl ?_
  refine tv ?_
  refine sq (fun h2 h2p h2s => ?_) fun h2 h2p h2s => ?_
  ·try simp only [Q, Pat.cs_len] at h2p
   refine ar ?_
   refine Exists.intro ((s.1 + 1, if (nth l s.1).g.op = 0 then s.2 ++ partsQ (nth l s.1).pat else s.2)) ⟨(by
      have h9 := hpl s.1
      by_cases hz : (nth l s.1).g.op = 0
      ·refine ⟨by dsimp only; omega, ?_, ?_⟩
       ·dsimp only
        rw [if_pos hz, ← coverQ_more (out := s.2) (by omega) hz (by simp_all)]; exact hg1.2.1
       ·dsimp only
        rw [if_pos hz, List.length_append]; omega
      ·refine ⟨by dsimp only; omega, ?_, ?_⟩
       ·dsimp only
        rw [if_neg hz, ← coverQ_skip (out := s.2) (by omega) hz]; exact hg1.2.1
       ·dsimp only
        rw [if_neg hz]; omega), (by dsimp only; omega), Sub.x (by kernel_rfl) (by kernel_rfl) ⟨⟨_, rfl, (LeA.eqi (by rfl))⟩, ⟨⟨_, rfl, (LeA.glg (by (rw [if_neg (by assumption)]; done)))⟩, trivial⟩⟩ (by kernel_rfl) (by kernel_rfl) ⟨beq_nat_eq (by (first | rfl | (rw [if_pos (by assumption), Pat.cs_cd, Pat.cs_cd, Pat.cs_cd, List.map_append]; done) | (rw [if_neg (by assumption)]; done) | (rw [if_pos (by assumption)]; simp [Pat.cs_len]; done) | (rw [if_neg (by assumption)]; simp [Pat.cs_len]; done) | (simp; done) | omega)), trivial⟩⟩
  ·try simp only [Q, Pat.cs_len] at h2p
   refine Walk.call (cr := []) cal189 (impl_parts_fn (hc _ (nth_mem (i := s.1) (by omega))).1 (hc _ (nth_mem (by omega))).2) rfl .none rfl rfl (LeL.refl _) trivial rfl rfl rfl ?_
   refine evs [4] [] ?_
   refine sq (fun h3 h3p h3s => ?_) fun h3 h3p h3s => ?_
   ·try simp only [Q, Pat.cs_len] at h3p
    refine rn0 (r2 rfl rfl) (.tup (.cons (.nild ?_) (.cons (.eqd ?_) .nil)))
    all_goals ((rw [← hg1.2.1, coverQ_bad (by omega) (by first | assumption | (simp_all; done)) (by assumption)]; rfl))
   ·try simp only [Q, Pat.cs_len] at h3p
    refine Walk.append sl49 zz51 rfl .none rfl rfl rfl rfl (htokL rfl (by first | rfl | (simp; done) | (simp; omega))) (by exact pat_rows _) (by have := hpl s.1; simp only [Pat.cs_len]; omega) (by have := hpl s.1; simp only [Pat.cs_len]; omega) ?_
    refine asg ?_
    refine tv ?_
    refine ar ?_
    refine Exists.intro ((s.1 + 1, if (nth l s.1).g.op = 0 then s.2 ++ partsQ (nth l s.1).pat else s.2)) ⟨(by
       have h9 := hpl s.1
       by_cases hz : (nth l s.1).g.op = 0
       ·refine ⟨by dsimp only; omega, ?_, ?_⟩
        ·dsimp only
         rw [if_pos hz, ← coverQ_more (out := s.2) (by omega) hz (by simp_all)]; exact hg1.2.1
        ·dsimp only
         rw [if_pos hz, List.length_append]; omega
       ·refine ⟨by dsimp only; omega, ?_, ?_⟩
        ·dsimp only
         rw [if_neg hz, ← coverQ_skip (out := s.2) (by omega) hz]; exact hg1.2.1
        ·dsimp only
         rw [if_neg hz]; omega), (by dsimp only; omega), Sub.x (by kernel_rfl) (by kernel_rfl) ⟨⟨_, rfl, (LeA.eqi (by rfl))⟩, ⟨⟨_, rfl, (LeA.glg (by (rw [if_pos (by assumption), Pat.cs_cd, Pat.cs_cd, Pat.cs_cd, List.map_append]; done)))⟩, trivial⟩⟩ (by kernel_rfl) (by kernel_rfl) ⟨beq_nat_eq (by (first | rfl | (rw [if_pos (by assumption), Pat.cs_cd, Pat.cs_cd, Pat.cs_cd, List.map_append]; done) | (rw [if_neg (by assumption)]; done) | (rw [if_pos (by assumption)]; simp [Pat.cs_len]; done) | (rw [if_neg (by assumption)]; simp [Pat.cs_len]; done) | (simp; done) | omega)), trivial⟩⟩
 ·try simp only [Q, Pat.cs_len] at h1p
  refine rn0 (r2 rfl rfl) (.tup (.cons (.gld ?_) (.cons (.eqd ?_) .nil)))
  all_goals ((rw [← hg1.2.1, coverQ_end (by omega)]; rfl))
theorem impl_result_1_fn {w : List Data} (hs : Spa w) {f : Nat → Nat} {ta tk : Int} (ht : InS (w.length * 4) ⟨ta, tk⟩) {p : Pat} (hp : p.ok) :
  FnD Tryz.prog 193 [.agg [.d (.i p.op), .d (.i p.ctor), .d (.i p.n), .d (.i p.m), .d (.i p.var), .d (encPats p.kids)], .ref 3004 0, .ref 3005 0] [(3004, some (.box [.d (sPtr w f)])), (3005, some (.box [.d (.i ta), .d (.i tk)]))] (.d (.bool (!isP w ⟨ta, tk⟩ p))) [] := by
 refine bd Tryz.f193 13 [] [] fun w0 F0 own kept hk => ?_
 refine Walk.box (id := 3001) .none rfl rfl rfl rfl rfl rfl rfl ?_
 refine ev ?_
 refine Walk.call (cr := []) cal99 (impl_patternOk_fn hs.dp.wt (ins_tyin ht) hp) rfl .none rfl rfl (LeL.refl _) trivial rfl rfl rfl ?_
 refine evd [] [] ?_
 refine dr ?_
 refine rn [] (r1 rfl) (.eqd ?_) ⟨rfl, rfl⟩ (SubH.get ⟨rfl, ⟨rfl, trivial⟩⟩) (fun _ h => h)
 all_goals (rfl)
theorem impl_result_fn {w : List Data} (hs : Spa w) {f : Nat → Nat} {ta tk : Int} (ht : InS (w.length * 4) ⟨ta, tk⟩) {l : List Pat} {ok : Bool} (hl : ∀ a ∈ l, a.ok) (hb : l.length ≤ 1000000000000) :
  FnD Tryz.prog 115 [.d (sPtr w f), .agg [.d (.i ta), .d (.i tk)], .d (encPats l), .d (.bool ok)] [] (.tup [.d (encPats (if (ok && l.all (isP w ⟨ta, tk⟩)) = true then l else [])), .d (.bool (ok && l.all (isP w ⟨ta, tk⟩)))]) [] := by
 have hall : (l.any fun p => !isP w ⟨ta, tk⟩ p) = !(l.all (isP w ⟨ta, tk⟩)) := by
  induction l with
  | nil => rfl
  | cons x r ih => rw [List.any_cons, List.all_cons, ih (fun a ha => hl a (by simp [ha])) (by simp at hb; omega), Bool.not_and]
 have hcf := slices_ContainsFunc_Pat_fn (xs := l) (p := fun p => !isP w ⟨ta, tk⟩ p) (caps := [.ref 3004 0, .ref 3005 0]) (hp := [(3004, some (.box [.d (sPtr w f)])), (3005, some (.box [.d (.i ta), .d (.i tk)]))]) hb cal193 (fun q hq => impl_result_1_fn hs ht (hl q hq)) ⟨rfl, rfl, trivial⟩ rfl rfl
 rw [hall] at hcf
 clear hall
 generalize l.all (isP w ⟨ta, tk⟩) = q at hcf ⊢
 refine bd Tryz.f115 19 [] [] fun w0 F0 own kept hk => ?_
 refine Walk.box (id := 3004) .none rfl rfl rfl rfl rfl rfl rfl ?_
 refine Walk.box (id := 3005) .none rfl rfl rfl rfl rfl rfl rfl ?_
 refine ev ?_
 refine sq (fun h1 h1p h1s => ?_) fun h1 h1p h1s => ?_
 ·try simp only [Q] at h1p
  refine sqT ?_
  refine rn0 (r2 rfl rfl) (.tup (.cons (.nild ?_) (.cons (.eqd ?_) .nil)))
  all_goals ((cases ok <;> cases q <;> first | rfl | (exfalso; simp_all; done)))
 ·try simp only [Q] at h1p
  refine Walk.closure (xs := [_, _]) rfl (.some rfl rfl h1) rfl rfl ?_
  refine Walk.call (cr := []) cal192 (hcf) rfl (.some rfl rfl h1) rfl rfl (LeL.refl _) ⟨rfl, rfl, trivial⟩ rfl rfl rfl ?_
  refine evs [] [(12, false)] ?_ ⟨⟨_, rfl, h1⟩, trivial⟩
  refine sq (fun h3 h3p h3s => ?_) fun h3 h3p h3s => ?_
  ·try simp only [Q] at h3p
   refine rn0 (r2 rfl rfl) (.tup (.cons (.nild ?_) (.cons (.eqd ?_) .nil)))
   all_goals ((cases ok <;> cases q <;> first | rfl | (exfalso; simp_all; done)))
  ·try simp only [Q] at h3p
   refine Walk.call (cr := []) cal194 (impl_ownPatterns_fn hb hl) rfl .none rfl rfl (LeL.refl _) trivial rfl rfl rfl ?_
   refine ev ?_
   refine rn0 (r2 rfl rfl) (.tup (.cons (.eqd ?_) (.cons (.eqd ?_) .nil)))
   all_goals ((cases ok <;> cases q <;> first | rfl | (exfalso; simp_all; done)))
theorem cls_shape {w : List Data} {t : Ty} {l : List Cl} (h : clsValid w t l = true) (hl : ClsOk l) : ∀ c ∈ l, shapeP w 10 t c.pat = true ∧ c.pat.ok := fun c hc => by
 unfold clsValid at h
 simp only [Bool.and_eq_true, Bool.not_eq_true', List.any_eq_false, Bool.not_eq_true] at h
 have h4 : clOk w t c = true := by simpa using h.2.2 c hc
 unfold clOk isP at h4
 simp only [Bool.and_eq_true] at h4
 exact ⟨h4.1.1, hl.2 c hc⟩
theorem any_parts {w : List Data} {t : Ty} : ∀ a ∈ [anyQ], partP w 11 t a = true := fun a ha => by
 rw [List.mem_singleton.1 ha]; exact anyQ_part
theorem impl_MissingPatterns_fn {w : List Data} (hs : WSmall w) {a k : Int} {l : List Cl} (hl : ClsOk l) :
  FnD Tryz.prog 42 [.d (encDatas w), .agg [.d (.i a), .d (.i k)], .d (encCls l)] [] (.tup [.d (encPats ((missV w ⟨a, k⟩ l).getD [])), .d (.bool (missV w ⟨a, k⟩ l).isSome)]) [] := by
 have hcv := impl_ClausesValid_fn hs (a := a) (k := k) hl
 by_cases hv : clsValid w ⟨a, k⟩ l = true
 ·have hm : missV w ⟨a, k⟩ l = missQ w ⟨a, k⟩ l := by unfold missV; rw [if_pos hv]
  rw [hm]
  have htv := clsV_tv hv
  have hsp := valid_sp hs (tv_facts htv.1).1
  have hsh := cls_shape hv hl
  have hin : InS (w.length * 4) ⟨a, k⟩ := by
   obtain ⟨_, _, h3⟩ := tv_facts htv.1
   by_cases ha : a = -1
   ·exact .inl ha
   ·obtain ⟨h4, h5, h6, h7⟩ := h3 ha
    have := ins_of (n := w.length) h5 (j := k.toNat) (by omega)
    rwa [Int.toNat_of_nonneg h4, Int.toNat_of_nonneg h6] at this
  have hco := impl_covering_fn (w := w) (t := ⟨a, k⟩) htv.2 hsh
  cases hq : coverQ l [] with
  | none =>
   have e : missQ w ⟨a, k⟩ l = none := by unfold missQ; rw [hq]
   rw [hq] at hco
   rw [e]
   refine bd Tryz.f42 42 [] [] fun w0 F0 own kept hk => ?_
   refine Walk.box (id := 3004) .none rfl rfl rfl rfl rfl rfl rfl ?_
   refine ev ?_
   refine Walk.call (cr := []) cal80 (hcv) rfl .none rfl rfl (LeL.refl _) trivial rfl rfl rfl ?_
   refine ev ?_
   refine sq (fun h1 h1p h1s => ?_) fun h1 h1p h1s => ?_
   ·try simp only [Q] at h1p
    exfalso; rw [hv] at h1; exact absurd h1 (by simp) --stop
   ·try simp only [Q] at h1p
    refine Walk.call (cr := []) cal112 (hco) rfl .none rfl rfl (LeL.refl _) trivial rfl rfl rfl ?_
    refine ev ?_
    refine sq (fun h2 h2p h2s => ?_) fun h2 h2p h2s => ?_
    ·try simp only [Q] at h2p
     refine rn0 (r2 rfl rfl) (.tup (.cons (.nild ?_) (.cons (.eqd ?_) .nil)))
     all_goals (rfl)
    ·try simp only [Q] at h2p
     exfalso; exact absurd h2 (by simp) --stop
  | some away =>
   rw [hq] at hco
   obtain ⟨p1, p2⟩ := coverQ_part l [] away (fun c hc => (hsh c hc).1) (by simp) hq
   have hwo := impl_without_fn hsp hin (l := [anyQ]) (away := away) any_parts p2 (by simp) (by simp at p1; omega)
   have hrl : (withoutQ w ⟨a, k⟩ [anyQ] away).isSome = true → ((withoutQ w ⟨a, k⟩ [anyQ] away).getD []).length ≤ 400 ∧ ∀ x ∈ (withoutQ w ⟨a, k⟩ [anyQ] away).getD [], partP w 11 ⟨a, k⟩ x = true := fun h => by
    cases hw : withoutQ w ⟨a, k⟩ [anyQ] away with
    | none => rw [hw] at h; cases h
    | some r => exact withoutQ_part away _ r (fun x hx => any_parts x (List.mem_filter.1 hx).1) (Nat.le_trans (List.length_filter_le _ _) (by simp)) p2 hw
   have hrl2 : ((withoutQ w ⟨a, k⟩ [anyQ] away).getD []).length ≤ 400 ∧ ∀ x ∈ (withoutQ w ⟨a, k⟩ [anyQ] away).getD [], x.ok := by
    cases hw : withoutQ w ⟨a, k⟩ [anyQ] away with
    | none => exact ⟨by simp, by simp⟩
    | some r =>
     have := hrl (by rw [hw]; rfl)
     rw [hw] at this
     exact ⟨this.1, fun x hx => (part_ok hsp 11 hin (this.2 x hx)).1⟩
   have hre := impl_result_fn hsp (f := depthT w) hin (l := (withoutQ w ⟨a, k⟩ [anyQ] away).getD []) (ok := (withoutQ w ⟨a, k⟩ [anyQ] away).isSome) hrl2.2 (by omega)
   have e : missQ w ⟨a, k⟩ l = if ((withoutQ w ⟨a, k⟩ [anyQ] away).isSome && ((withoutQ w ⟨a, k⟩ [anyQ] away).getD []).all (isP w ⟨a, k⟩)) = true then some ((withoutQ w ⟨a, k⟩ [anyQ] away).getD []) else none := by
    unfold missQ
    rw [hq]
    cases hw : withoutQ w ⟨a, k⟩ [anyQ] away with
    | none => simp [hw]
    | some r => simp [hw]
   rw [e]
   generalize ((withoutQ w ⟨a, k⟩ [anyQ] away).isSome && ((withoutQ w ⟨a, k⟩ [anyQ] away).getD []).all (isP w ⟨a, k⟩)) = q at hre ⊢
   refine bd Tryz.f42 42 [] [] fun w0 F0 own kept hk => ?_
   refine Walk.box (id := 3004) .none rfl rfl rfl rfl rfl rfl rfl ?_
   refine ev ?_
   refine Walk.call (cr := []) cal80 (hcv) rfl .none rfl rfl (LeL.refl _) trivial rfl rfl rfl ?_
   refine ev ?_
   refine sq (fun h1 h1p h1s => ?_) fun h1 h1p h1s => ?_
   ·try simp only [Q] at h1p
    exfalso; rw [hv] at h1; exact absurd h1 (by simp) --stop
   ·try simp only [Q] at h1p
    refine Walk.call (cr := []) cal112 (hco) rfl .none rfl rfl (LeL.refl _) trivial rfl rfl rfl ?_
    refine ev ?_
    refine sq (fun h2 h2p h2s => ?_) fun h2 h2p h2s => ?_
    ·try simp only [Q] at h2p
     exfalso; exact absurd h2 (by simp) --stop
    ·try simp only [Q] at h2p
     refine Walk.call (cr := []) cal93 (impl_newSpaces_fn hsp.dp) rfl .none rfl rfl (LeL.refl _) trivial rfl rfl rfl ?_
     refine ev ?_
     refine Walk.call (cr := []) cal114 (impl_anyPattern_fn) rfl .none rfl rfl (LeL.refl _) trivial rfl rfl rfl ?_
     refine Walk.sliceLit sl49 tz51 rfl (by decide) (ks := [0]) (xs := [_]) rfl rfl (by decide) (by decide) .none rfl rfl rfl rfl ?_
     refine evd [] [] ?_
     refine Walk.call (cr := []) cal113 (hwo) rfl .none rfl rfl (LeL.refl _) trivial rfl rfl rfl ?_
     refine evd [] [] ?_
     refine dr ?_
     refine Walk.call (cr := []) cal115 (hre) rfl .none rfl rfl (LeL.refl _) trivial rfl rfl rfl ?_
     refine ev ?_
     refine rn0 (r2 rfl rfl) (.tup (.cons (.eqd ?_) (.cons (.eqd ?_) .nil)))
     all_goals (first | rfl | (cases q <;> rfl))
 ·have hv' : clsValid w ⟨a, k⟩ l = false := by simpa using hv
  have hm : missV w ⟨a, k⟩ l = none := by unfold missV; rw [if_neg hv]
  rw [hm]
  rw [hv'] at hcv
  refine bd Tryz.f42 42 [] [] fun w0 F0 own kept hk => ?_
  refine Walk.box (id := 3004) .none rfl rfl rfl rfl rfl rfl rfl ?_
  refine ev ?_
  refine Walk.call (cr := []) cal80 (hcv) rfl .none rfl rfl (LeL.refl _) trivial rfl rfl rfl ?_
  refine ev ?_
  refine sq (fun h1 h1p h1s => ?_) fun h1 h1p h1s => ?_
  ·try simp only [Q] at h1p
   refine rn0 (r2 rfl rfl) (.tup (.cons (.nild ?_) (.cons (.eqd ?_) .nil)))
   all_goals (rfl)
  ·try simp only [Q] at h1p
   exfalso; exact absurd h1 (by simp) --stop
def exhQ (w : List Data) (t : Ty) (l : List Cl) : Bool := (missV w t l).isSome && decide (((missV w t l).getD []).length = 0)
theorem impl_Exhaustive_fn {w : List Data} (hs : WSmall w) {a k : Int} {l : List Cl} (hl : ClsOk l) :
  FnD Tryz.prog 26 [.d (encDatas w), .agg [.d (.i a), .d (.i k)], .d (encCls l)] [] (.tup [.d (.bool (exhQ w ⟨a, k⟩ l)), .d (.bool (missV w ⟨a, k⟩ l).isSome)]) [] := by
 have hmp := impl_MissingPatterns_fn hs (a := a) (k := k) hl
 unfold exhQ
 generalize missV w ⟨a, k⟩ l = m at *
 refine bd Tryz.f26 24 [] [] fun w0 F0 own kept hk => ?_
 refine Walk.box (id := 3004) .none rfl rfl rfl rfl rfl rfl rfl ?_
 refine ev ?_
 refine Walk.call (cr := []) cal42 (hmp) rfl .none rfl rfl (LeL.refl _) trivial rfl rfl rfl ?_
 refine ev ?_
 refine sq (fun h1 h1p h1s => ?_) fun h1 h1p h1s => ?_
 ·try simp only [Q, Pat.cs_len, Int.natCast_inj] at h1p
  refine rn0 (r2 rfl rfl) (.tup (.cons (.eqd ?_) (.cons (.eqd ?_) .nil)))
  all_goals ((simp_all [Pat.cs_len]; done))
 ·try simp only [Q, Pat.cs_len, Int.natCast_inj] at h1p
  refine rn0 (r2 rfl rfl) (.tup (.cons (.eqd ?_) (.cons (.eqd ?_) .nil)))
  all_goals ((simp_all [Pat.cs_len]; done))
def keptG (w : List Data) (t : Ty) (b a : Pat) : List Pat := (minusQ w 10 t a b).filter (aliveQ w t)
def nextT (w : List Data) (t : Ty) (l : List Pat) (b : Pat) (k : Nat) : List Pat := (l.take k).flatMap (keptG w t b)
theorem nextQ_flat {w : List Data} {t : Ty} {l : List Pat} {b : Pat} : nextQ w t l b = l.flatMap (keptG w t b) := by
 unfold nextQ
 induction l with
 | nil => rfl
 | cons x r ih => rw [List.flatMap_cons, List.filter_append, List.flatMap_cons, ih]; rfl
theorem nextT_all {w : List Data} {t : Ty} {l : List Pat} {b : Pat} {k : Nat} (h : l.length ≤ k) : nextT w t l b k = nextQ w t l b := by
 rw [nextQ_flat, nextT, List.take_of_length_le h]
theorem nextT_next {w : List Data} {t : Ty} {l : List Pat} {b : Pat} {k : Nat} (h : k < l.length) : nextT w t l b (k + 1) = nextT w t l b k ++ keptG w t b (nth l k) := by
 unfold nextT
 have e : l[k]? = some (nth l k) := by simpa using at_nth (f := id) h
 rw [List.take_add_one, e, List.flatMap_append]
 simp
theorem nextT_le {w : List Data} {t : Ty} {l : List Pat} {b : Pat} (k : Nat) : (nextT w t l b k).length ≤ (nextQ w t l b).length := by
 rw [nextQ_flat, nextT]
 conv => rhs; rw [← List.take_append_drop k l, List.flatMap_append]
 rw [List.length_append]; omega
theorem spec_l5Alive_fn {w : List Data} (hs : Spa w) : ∀ (n : Nat) {ta tk : Int} {p : Pat}, InS (w.length * 4) ⟨ta, tk⟩ → partP w n ⟨ta, tk⟩ p = true →
  FnD Tryz.prog 295 [.d (encDatas w), .d (encTab (w.length * 4) (depthT w)), .agg [.d (.i ta), .d (.i tk)], .agg [.d (.i (p).op), .d (.i (p).ctor), .d (.i (p).n), .d (.i (p).m), .d (.i (p).var), .d (encPats (p).kids)]] [] (.d (.bool (!emptyP w (depthT w) n ⟨ta, tk⟩ p))) []
 | 0, ta, tk, p, _, h => by simp [partP] at h
 | n + 1, ta, tk, p, ht, h => by
  have hdp := spec_l1Depth_fn (f := depthT w) ht (by have := hs.dp.four; omega)
  by_cases h1 : p.op = 1
  ·rw [empty_1 h1]
   refine bd Tryz.f295 45 [] [] fun w0 F0 own kept hk => ?_
   refine Walk.box (id := 3006) .none rfl rfl rfl rfl rfl rfl rfl ?_
   refine Walk.box (id := 3007) .none rfl rfl rfl rfl rfl rfl rfl ?_
   refine ev ?_
   refine sq (fun h1 h1p h1s => ?_) fun h1 h1p h1s => ?_
   ·try simp only [Q] at h1p
    refine Walk.call (cr := []) cal175 (hdp) rfl .none rfl rfl (LeL.refl _) trivial rfl rfl rfl ?_
    refine ev ?_
    refine rn0 (r1 rfl) (.eqd ?_)
    all_goals (refine congrArg D.bool ?_; rw [Bool.eq_iff_iff]; simp; omega)
   ·try simp only [Q] at h1p
    exfalso; omega --stop
  by_cases h3 : p.op = 3
  ·rw [empty_3 h h3]
   refine bd Tryz.f295 45 [] [] fun w0 F0 own kept hk => ?_
   refine Walk.box (id := 3006) .none rfl rfl rfl rfl rfl rfl rfl ?_
   refine Walk.box (id := 3007) .none rfl rfl rfl rfl rfl rfl rfl ?_
   refine ev ?_
   refine sq (fun h1 h1p h1s => ?_) fun h1 h1p h1s => ?_
   ·try simp only [Q] at h1p
    exfalso; omega --stop
   ·try simp only [Q] at h1p
    refine sq (fun h2 h2p h2s => ?_) fun h2 h2p h2s => ?_
    ·try simp only [Q] at h2p
     refine rn0 (r1 rfl) (.eqd ?_)
     all_goals (rfl)
    ·try simp only [Q] at h2p
     exfalso; omega --stop
  have h4 : p.op = 4 := by have := part_op h; omega
  obtain ⟨c1, c2, c3, -⟩ := part_ctor h h4
  have h3l := hs.args ⟨ta, tk⟩ p.ctor ht c1
  have hk := fun i (hi : i < p.kids.length) => part_kid h hi
  rw [types4 h4] at hk
  rw [empty_4 h4, Bool.not_not]
  have ih := fun i (hi : i < p.kids.length) => spec_l5Alive_fn hs n (ta := (nth (argsOf w ⟨ta, tk⟩ p.ctor) i).data) (tk := (nth (argsOf w ⟨ta, tk⟩ p.ctor) i).index) (p := nth p.kids i) (args_ins hs.dp ht c1 _ (nth_mem (by omega))) (hk i hi)
  refine bd Tryz.f295 45 [] [] fun w0 F0 own kept hk => ?_
  refine Walk.box (id := 3006) .none rfl rfl rfl rfl rfl rfl rfl ?_
  refine Walk.box (id := 3007) .none rfl rfl rfl rfl rfl rfl rfl ?_
  refine ev ?_
  refine sq (fun h1 h1p h1s => ?_) fun h1 h1p h1s => ?_
  ·try simp only [Q, Pat.cs_len] at h1p
   exfalso; omega --stop
  ·try simp only [Q, Pat.cs_len] at h1p
   refine sq (fun h2 h2p h2s => ?_) fun h2 h2p h2s => ?_
   ·try simp only [Q, Pat.cs_len] at h2p
    exfalso; omega --stop
   ·try simp only [Q, Pat.cs_len] at h2p
    refine Walk.call (cr := []) cal150 (spec_l1Args_v hs.dp.wt (ins_tyin ht) c1) rfl .none rfl rfl (LeL.refl _) trivial rfl rfl rfl ?_
    refine ev ?_
    refine CWp.loopX (ι := Nat) hk (fun i => [(10, .d (.i (i : Int)))]) [8, 26, 27, 28, 29, 30, 31, 32, 33, 34, 35, 36, 37, 38, 39, 40, 41, 42, 43, 44] (fun i => []) (fun i => i ≤ (argsOf w ⟨ta, tk⟩ p.ctor).length ∧ ∀ i', i' < i → (!emptyP w (depthT w) n (nth (argsOf w ⟨ta, tk⟩ p.ctor) i') (nth p.kids i')) = true) (fun i => (argsOf w ⟨ta, tk⟩ p.ctor).length - i) 0 ⟨by omega, fun _ h => absurd h (by omega)⟩ ⟨⟨_, rfl, (LeA.eqi (by first | rfl | (simp; done) | (simp_all; done) | omega))⟩, trivial⟩ trivial (fun x => rfl) (fun i hg1 => ?_)
    refine evc [] [] ?_
    refine sq (fun h3 h3p h3s => ?_) fun h3 h3p h3s => ?_
    ·try simp only [Q, Pat.cs_len] at h3p
     refine Walk.idx sl182 .none rfl rfl rfl rfl (at_nth (by omega)) rfl ?_
     refine evd [] [] ?_
     refine Walk.idx sl49 .none rfl rfl rfl rfl (pats_at (by omega)) rfl ?_
     refine evd [] [] ?_
     refine Walk.call (cr := []) cal295 (ih i (by omega)) rfl .none rfl rfl (LeL.refl _) trivial rfl rfl rfl ?_
     refine evd [] [] ?_
     refine dr ?_
     refine sq (fun h4 h4p h4s => ?_) fun h4 h4p h4s => ?_
     ·try simp only [Q, Pat.cs_len] at h4p
      refine rn0 (r1 rfl) (.eqd ?_)
      all_goals (refine congrArg D.bool ?_; (rw [all2_nth_false (i := i) (by omega) (by omega) (by first | assumption | (simp; assumption) | (simp_all; done))]; done))
     ·try simp only [Q, Pat.cs_len] at h4p
      refine ar ?_
      refine Exists.intro (i + 1) ⟨⟨by omega, upto_succ hg1.2 (by first | assumption | (simp; assumption) | (simp_all; done))⟩, (by omega), Sub.x (by kernel_rfl) (by kernel_rfl) ⟨⟨_, rfl, (LeA.eqi (by first | rfl | (simp; done) | (simp_all; done) | omega))⟩, trivial⟩ (by kernel_rfl) (by kernel_rfl) trivial⟩
    ·try simp only [Q, Pat.cs_len] at h3p
     refine rn0 (r1 rfl) (.eqd ?_)
     all_goals (refine congrArg D.bool ?_; (rw [all2_nth_true (by omega) (fun x hx => hg1.2 x (by omega))]; done))
theorem spec_l5Keep_fn {w : List Data} (hs : Spa w) {ta tk : Int} (ht : InS (w.length * 4) ⟨ta, tk⟩) {l : List Pat} (hl : ∀ a ∈ l, partP w 11 ⟨ta, tk⟩ a = true) (hb : l.length ≤ 20000000) :
  FnD Tryz.prog 249 [.d (encDatas w), .d (encTab (w.length * 4) (depthT w)), .agg [.d (.i ta), .d (.i tk)], .d (encPats l)] [] (.d (encPats (l.filter (aliveQ w ⟨ta, tk⟩)))) [] := by
 have hal : ∀ a ∈ l, FnD Tryz.prog 295 [.d (encDatas w), .d (encTab (w.length * 4) (depthT w)), .agg [.d (.i ta), .d (.i tk)], .agg [.d (.i (a).op), .d (.i (a).ctor), .d (.i (a).n), .d (.i (a).m), .d (.i (a).var), .d (encPats (a).kids)]] [] (.d (.bool (aliveQ w ⟨ta, tk⟩ a))) [] := fun a ha => spec_l5Alive_fn hs 11 ht (hl a ha)
 have hle : ∀ {pre rest : List Pat} {y : Pat}, pre ++ y :: rest = l → (pre.filter (aliveQ w ⟨ta, tk⟩)).length + 1 ≤ l.length := fun {pre rest y} h => by
  have h1 := List.length_filter_le (aliveQ w ⟨ta, tk⟩) pre
  have h2 := congrArg List.length h
  simp only [List.length_append, List.length_cons] at h2
  omega
 refine bd Tryz.f249 34 [] [] fun w0 F0 own kept hk => ?_
 refine Walk.box (id := 3006) .none rfl rfl rfl rfl rfl rfl rfl ?_
 refine ev ?_
 refine Walk.sliceEmptyG 9 sl49 .none rfl rfl ?_
 refine ev ?_
 refine CWp.loopX (ι := List (Pat) × List (Pat)) hk (fun x => [(10, .d (.i (x.1.length : Int))), (9, .gl 9 (Pat.cs (x.1.filter (aliveQ w ⟨ta, tk⟩))))]) [12, 13, 14, 15, 16, 17, 18, 19, 20, 21, 22, 23, 24, 25, 26, 27, 28, 29, 30, 31, 32] (fun x => [(9, some (.tok ((Pat.cs (x.1.filter (aliveQ w ⟨ta, tk⟩)))).length 6))]) (fun x => x.1 ++ x.2 = l) (fun x => x.2.length) ([], l) (by simp) ⟨⟨_, rfl, (LeA.eqi (by rfl))⟩, ⟨⟨_, rfl, (LeA.glg (by rfl))⟩, trivial⟩⟩ ⟨beq_nat_eq (by rfl), trivial⟩ (fun x => rfl) (fun x hg1 => ?_)
 obtain ⟨pre, rest⟩ := x
 dsimp only at hg1 ⊢
 refine evc [] [] ?_
 refine sq (fun h1 h1p h1s => ?_) fun h1 h1p h1s => ?_
 ·try simp only [Q, Pat.cs_len] at h1p
  rcases rest with _ | ⟨y, rest⟩
  ·exfalso; simp_all
  refine Walk.idx sl49 .none rfl rfl rfl rfl (Pat.cs_at' hg1) rfl ?_
  refine evd [] [] ?_
  refine Walk.call (cr := []) cal295 (hal y (by rw [← hg1]; simp)) rfl .none rfl rfl (LeL.refl _) trivial rfl rfl rfl ?_
  refine dr ?_
  refine sq (fun h2 h2p h2s => ?_) fun h2 h2p h2s => ?_
  ·try simp only [Q, Pat.cs_len] at h2p
   refine Walk.idx sl49 .none rfl rfl rfl rfl (Pat.cs_at' hg1) rfl ?_
   refine ev ?_
   refine Walk.sliceLit sl49 tz51 rfl (by decide) (ks := [0]) (xs := [_]) rfl rfl (by decide) (by decide) .none rfl rfl rfl rfl ?_
   refine Walk.append sl49 zz51 rfl .none rfl rfl rfl rfl (htokL rfl (by first | rfl | (simp; done) | (simp; omega))) (by intro x hx; simp at hx; subst hx; rfl) (by have h9 := hle hg1; simp [Pat.cs_len]; omega) (by have h9 := hle hg1; simp [Pat.cs_len]; omega) ?_
   refine ev ?_
   refine ar ?_
   refine Exists.intro ((pre ++ [y], rest)) ⟨(by have hz := hg1; rw [← hz]; simp), (by simp), Sub.x (by kernel_rfl) (by kernel_rfl) ⟨⟨_, rfl, (LeA.eqi (by (simp; done)))⟩, ⟨⟨_, rfl, (LeA.glg (by (dsimp only; rw [List.filter_append, List.filter_cons_of_pos (by assumption), List.filter_nil, Pat.cs_cd (List.filter _ _), Pat.cs_cd (_ ++ _), List.map_append]; rfl)))⟩, trivial⟩⟩ (by kernel_rfl) (by kernel_rfl) ⟨beq_nat_eq (by (first | rfl | (dsimp only; rw [List.filter_append, List.filter_cons_of_pos (by assumption), List.filter_nil, Pat.cs_cd (List.filter _ _), Pat.cs_cd (_ ++ _), List.map_append]; rfl) | (dsimp only; rw [List.filter_append, List.filter_cons_of_neg (by simp_all), List.filter_nil, List.append_nil]; done) | (dsimp only; rw [List.filter_append, List.filter_cons_of_pos (by assumption), List.filter_nil]; simp [Pat.cs_len]; done) | (simp; done) | omega)), trivial⟩⟩
  ·try simp only [Q, Pat.cs_len] at h2p
   refine ar ?_
   refine Exists.intro ((pre ++ [y], rest)) ⟨(by have hz := hg1; rw [← hz]; simp), (by simp), Sub.x (by kernel_rfl) (by kernel_rfl) ⟨⟨_, rfl, (LeA.eqi (by (simp; done)))⟩, ⟨⟨_, rfl, (LeA.glg (by (dsimp only; rw [List.filter_append, List.filter_cons_of_neg (by simp_all), List.filter_nil, List.append_nil]; done)))⟩, trivial⟩⟩ (by kernel_rfl) (by kernel_rfl) ⟨beq_nat_eq (by (first | rfl | (dsimp only; rw [List.filter_append, List.filter_cons_of_pos (by assumption), List.filter_nil, Pat.cs_cd (List.filter _ _), Pat.cs_cd (_ ++ _), List.map_append]; rfl) | (dsimp only; rw [List.filter_append, List.filter_cons_of_neg (by simp_all), List.filter_nil, List.append_nil]; done) | (dsimp only; rw [List.filter_append, List.filter_cons_of_pos (by assumption), List.filter_nil]; simp [Pat.cs_len]; done) | (simp; done) | omega)), trivial⟩⟩
 ·try simp only [Q, Pat.cs_len] at h1p
  have hrest : rest = [] := by
   rcases rest with _ | ⟨a, b⟩
   ·rfl
   ·exfalso; have hz := congrArg List.length (hg1); simp only [List.length_append, List.length_cons, List.length_map] at hz; omega
  subst hrest
  refine rn0 (r1 rfl) (.gld ?_)
  all_goals (first | rfl | (rw [List.append_nil] at hg1; rw [hg1]; done))
theorem spec_l5MinusAll_fn {w : List Data} (hs : Spa w) {ta tk : Int} (ht : InS (w.length * 4) ⟨ta, tk⟩) {l away : List Pat} (hl : ∀ a ∈ l, partP w 11 ⟨ta, tk⟩ a = true) (hb : ∀ b ∈ away, partP w 10 ⟨ta, tk⟩ b = true) (hll : l.length ≤ 400) (hal : away.length ≤ 1000) :
  FnD Tryz.prog 187 [.d (encDatas w), .d (encTab (w.length * 4) (depthT w)), .agg [.d (.i ta), .d (.i tk)], .d (encPats l), .d (encPats away)] [] (.tup [.d (encPats ((withoutQ w ⟨ta, tk⟩ l away).getD [])), .d (.bool (withoutQ w ⟨ta, tk⟩ l away).isSome)]) [] := by
 have hke := subL_keep hs ht hl hb
 have hmi : ∀ (c : List Pat) (i k : Nat), (∀ a ∈ c, partP w 11 ⟨ta, tk⟩ a = true) → i < away.length → k < c.length → (minusQ w 10 ⟨ta, tk⟩ (nth c k) (nth away i)).length ≤ 20000000 := fun c i k hc hi hk => minus_bd hs (by omega) (by omega) ht (hc _ (nth_mem hk)) (hb _ (nth_mem hi))
 have hkb : ∀ (c : List Pat) (i k : Nat), (∀ a ∈ c, partP w 11 ⟨ta, tk⟩ a = true) → i < away.length → k < c.length → (keptG w ⟨ta, tk⟩ (nth away i) (nth c k)).length ≤ 20000000 := fun c i k hc hi hk => Nat.le_trans (List.length_filter_le _ _) (hmi c i k hc hi hk)
 rw [← hke]
 have hno : ∀ (c : List Pat) (i k : Nat), i < away.length → 400 < (nextT w ⟨ta, tk⟩ c (nth away i) k).length → subL w ⟨ta, tk⟩ c (away.drop i) = none := fun c i k hi h => by
  have := nextT_le (w := w) (t := ⟨ta, tk⟩) (l := c) (b := nth away i) k
  rw [subL_next hi, if_neg (by omega)]
 refine bd Tryz.f187 60 [] [] fun w0 F0 own kept hk => ?_
 refine Walk.box (id := 3007) .none rfl rfl rfl rfl rfl rfl rfl ?_
 refine ev ?_
 refine CWp.loopX (ι := Nat × List Pat) hk (fun s => [(12, .d (.i (s.1 : Int))), (3, .d (encPats s.2))]) [10, 11, 13, 14, 15, 16, 17, 18, 19, 20, 21, 22, 23, 24, 25, 26, 27, 28, 29, 30, 31, 32, 33, 34, 35, 36, 37, 38, 39, 40, 41, 42, 43, 44, 45, 46, 47, 48, 49, 50, 51, 52, 53, 54] (fun s => []) (fun s => s.1 ≤ away.length ∧ subL w ⟨ta, tk⟩ s.2 (away.drop s.1) = subL w ⟨ta, tk⟩ l away ∧ (∀ a ∈ s.2, partP w 11 ⟨ta, tk⟩ a = true) ∧ s.2.length ≤ 400) (fun s => away.length - s.1) (0, l) ⟨by simp, rfl, hl, hll⟩ ⟨⟨_, rfl, (LeA.eqi (by rfl))⟩, ⟨⟨_, rfl, (by exact LeA.refl _)⟩, trivial⟩⟩ trivial (fun x => rfl) (fun s hg1 => ?_)
 refine evc [] [] ?_
 refine sq (fun h1 h1p h1s => ?_) fun h1 h1p h1s => ?_
 ·try simp only [Q, Pat.cs_len] at h1p
  refine Walk.sliceEmptyG 9 sl49 .none rfl rfl ?_
  refine ev ?_
  refine CWp.loopX (ι := Nat) hk (fun k => [(14, .d (.i (k : Int))), (13, .gl 9 (Pat.cs (nextT w ⟨ta, tk⟩ s.2 (nth away s.1) k)))]) [22, 23, 24, 25, 26, 27, 28, 29, 30, 31, 32, 33, 34, 35, 36, 37, 38, 39, 40, 41, 42, 43, 44, 45, 46, 47, 48, 49] (fun k => [(9, some (.tok ((Pat.cs (nextT w ⟨ta, tk⟩ s.2 (nth away s.1) k))).length 6))]) (fun k => k ≤ s.2.length) (fun k => s.2.length - k) 0 (by omega) ⟨⟨_, rfl, (LeA.eqi (by rfl))⟩, ⟨⟨_, rfl, (LeA.glg (by rfl))⟩, trivial⟩⟩ ⟨beq_nat_eq (by rfl), trivial⟩ (fun x => rfl) (fun k hg2 => ?_)
  refine evc [] [] ?_
  refine sq (fun h2 h2p h2s => ?_) fun h2 h2p h2s => ?_
  ·try simp only [Q, Pat.cs_len] at h2p
   refine sq (fun h3 h3p h3s => ?_) fun h3 h3p h3s => ?_
   ·try simp only [Q, Pat.cs_len] at h3p
    refine Walk.idx sl49 .none rfl rfl rfl rfl (pats_at (by omega)) rfl ?_
    refine evd [] [] ?_
    refine Walk.idx sl49 .none rfl rfl rfl rfl (pats_at (by omega)) rfl ?_
    refine evd [] [] ?_
    refine Walk.call (cr := []) cal250 (spec_l5Minus_fn hs 10 11 (by omega) (by omega) (by omega) ht (hg1.2.2.1 _ (nth_mem (by omega))) (hb _ (nth_mem (by omega)))) rfl .none rfl rfl (LeL.refl _) trivial rfl rfl rfl ?_
    refine Walk.call (cr := []) cal249 (show FnD _ _ _ _ (.d (encPats (keptG w ⟨ta, tk⟩ (nth away s.1) (nth s.2 k)))) _ from spec_l5Keep_fn hs ht (minus_part 10 11 (by omega) (hg1.2.2.1 _ (nth_mem (by omega))) (hb _ (nth_mem (by omega)))) (hmi s.2 s.1 k hg1.2.2.1 (by omega) (by omega))) rfl .none rfl rfl (LeL.refl _) trivial rfl rfl rfl ?_
    refine Walk.append sl49 zz51 rfl .none rfl rfl rfl rfl (htokL rfl (by first | rfl | (simp; done) | (simp; omega))) (by exact pat_rows _) (by have h9 := hkb s.2 s.1 k hg1.2.2.1 (by omega) (by omega); simp only [Pat.cs_len]; omega) (by have h9 := hkb s.2 s.1 k hg1.2.2.1 (by omega) (by omega); simp only [Pat.cs_len]; omega) ?_
    refine evd [] [] ?_
    refine dr ?_
    refine ar ?_
    refine Exists.intro (k + 1) ⟨(by omega), (by omega), Sub.x (by kernel_rfl) (by kernel_rfl) ⟨⟨_, rfl, (LeA.eqi (by rfl))⟩, ⟨⟨_, rfl, (LeA.glg (by (rw [nextT_next (by omega), Pat.cs_cd, Pat.cs_cd, Pat.cs_cd, List.map_append]; done)))⟩, trivial⟩⟩ (by kernel_rfl) (by kernel_rfl) ⟨beq_nat_eq (by (first | rfl | (simp [nextT]; done) | (rw [nextT_next (by omega), Pat.cs_cd, Pat.cs_cd, Pat.cs_cd, List.map_append]; done) | (rw [nextT_next (by omega)]; simp [Pat.cs_len]; done) | omega)), trivial⟩⟩
   ·try simp only [Q, Pat.cs_len] at h3p
    refine sq (fun h4 h4p h4s => ?_) fun h4 h4p h4s => ?_
    ·try simp only [Q, Pat.cs_len] at h4p
     refine Walk.sliceEmpty sl49 .none rfl ?_
     refine ev ?_
     refine rn0 (r2 rfl rfl) (.tup (.cons (.eqd ?_) (.cons (.eqd ?_) .nil)))
     all_goals ((rw [← hg1.2.1, hno s.2 s.1 k (by omega) (by omega)]; rfl))
    ·try simp only [Q, Pat.cs_len] at h4p
     refine ar ?_
     refine Exists.intro ((s.1 + 1, nextQ w ⟨ta, tk⟩ s.2 (nth away s.1))) ⟨(by
        have hk : s.2.length ≤ k := by omega
        have h4 : (nextQ w ⟨ta, tk⟩ s.2 (nth away s.1)).length ≤ 400 := by rw [← nextT_all hk]; omega
        have e := subL_next (w := w) (t := ⟨ta, tk⟩) (l := s.2) (away := away) (i := s.1) (by omega)
        rw [if_pos h4] at e
        refine ⟨by dsimp only; omega, ?_, nextQ_part hg1.2.2.1 (hb _ (nth_mem (by omega))), h4⟩
        dsimp only
        rw [← e]; exact hg1.2.1), (by dsimp only; omega), Sub.x (by kernel_rfl) (by kernel_rfl) ⟨⟨_, rfl, (LeA.eqi (by rfl))⟩, ⟨⟨_, rfl, (by exact LeA.gld (by first | rfl | (rw [nextT_all (by omega)]; done) | (dsimp only; rw [nextT_all (by omega)]; done) | (simp; done) | omega))⟩, trivial⟩⟩ (by kernel_rfl) (by kernel_rfl) trivial⟩
  ·try simp only [Q, Pat.cs_len] at h2p
   refine sqF ?_
   refine sq (fun h6 h6p h6s => ?_) fun h6 h6p h6s => ?_
   ·try simp only [Q, Pat.cs_len] at h6p
    refine Walk.sliceEmpty sl49 .none rfl ?_
    refine ev ?_
    refine rn0 (r2 rfl rfl) (.tup (.cons (.eqd ?_) (.cons (.eqd ?_) .nil)))
    all_goals ((rw [← hg1.2.1, hno s.2 s.1 k (by omega) (by omega)]; rfl))
   ·try simp only [Q, Pat.cs_len] at h6p
    refine ar ?_
    refine Exists.intro ((s.1 + 1, nextQ w ⟨ta, tk⟩ s.2 (nth away s.1))) ⟨(by
       have hk : s.2.length ≤ k := by omega
       have h4 : (nextQ w ⟨ta, tk⟩ s.2 (nth away s.1)).length ≤ 400 := by rw [← nextT_all hk]; omega
       have e := subL_next (w := w) (t := ⟨ta, tk⟩) (l := s.2) (away := away) (i := s.1) (by omega)
       rw [if_pos h4] at e
       refine ⟨by dsimp only; omega, ?_, nextQ_part hg1.2.2.1 (hb _ (nth_mem (by omega))), h4⟩
       dsimp only
       rw [← e]; exact hg1.2.1), (by dsimp only; omega), Sub.x (by kernel_rfl) (by kernel_rfl) ⟨⟨_, rfl, (LeA.eqi (by rfl))⟩, ⟨⟨_, rfl, (by exact LeA.gld (by first | rfl | (rw [nextT_all (by omega)]; done) | (dsimp only; rw [nextT_all (by omega)]; done) | (simp; done) | omega))⟩, trivial⟩⟩ (by kernel_rfl) (by kernel_rfl) trivial⟩
 ·try simp only [Q, Pat.cs_len] at h1p
  refine Walk.call (cr := []) cal249 (spec_l5Keep_fn hs ht hg1.2.2.1 (by omega)) rfl .none rfl rfl (LeL.refl _) trivial rfl rfl rfl ?_
  refine ev ?_
  refine rn0 (r2 rfl rfl) (.tup (.cons (.eqd ?_) (.cons (.eqd ?_) .nil)))
  all_goals ((rw [← hg1.2.1, subL_end (by omega)]; rfl))
theorem spec_l3Copy_fn : ∀ (n : Nat) {p : Pat}, p.size ≤ n → p.ok → FnD Tryz.prog 202 [.agg [.d (.i (p).op), .d (.i (p).ctor), .d (.i (p).n), .d (.i (p).m), .d (.i (p).var), .d (encPats (p).kids)]] [] (.agg [.d (.i (p).op), .d (.i (p).ctor), .d (.i (p).n), .d (.i (p).m), .d (.i (p).var), .d (encPats (p).kids)]) []
 | 0, p, h, _ => by rw [Pat.size_eq] at h; omega
 | n + 1, p, h, hok => by
  rw [Pat.size_eq] at h
  rw [Pat.ok_iff] at hok
  have hok1 := hok.1
  refine bd Tryz.f202 26 [] [] fun w0 F0 own kept hk => ?_
  refine Walk.box (id := 3001) .none rfl rfl rfl rfl rfl rfl rfl ?_
  refine Walk.alloc (id := 3002) tz51 rfl .none rfl rfl rfl rfl ?_
  refine tv ?_
  refine Walk.alloc (id := 3003) tz51 rfl .none rfl rfl rfl rfl ?_
  refine Walk.store ty51 .none rfl rfl rfl rfl rfl rfl (by simp) rfl ?_
  refine tv ?_
  refine Walk.store ty49 .none rfl rfl rfl rfl rfl rfl (by simp) rfl ?_
  refine tv ?_
  refine CWp.tokB 3003 5 7 6 rfl rfl rfl rfl ?_
  refine CWp.loopX (ι := List (Pat) × List (Pat)) hk (fun x => [(4, .d (.i (x.1.length : Int)))]) [7, 8, 9, 10, 11, 12, 13, 14, 15, 16, 17, 18, 19, 20, 21, 22, 23, 24] (fun x => [(3003, some (.box [.d (.i p.op), .d (.i p.ctor), .d (.i p.n), .d (.i p.m), .d (.i p.var), .gl 7 (x.1.map Pat.cc)])), (7, some (.tok (x.1.map Pat.cc).length 6))]) (fun x => x.1 ++ x.2 = p.kids) (fun x => x.2.length) ([], p.kids) (by simp) ⟨⟨_, rfl, (LeA.eqi (by first | rfl | (simp; done) | (simp_all; done) | omega))⟩, trivial⟩ ⟨(by first | rfl | (simp [getH]; done)), ⟨beq_nat_eq (by rfl), trivial⟩⟩ (fun x => rfl) (fun x hg1 => ?_)
  obtain ⟨pre, rest⟩ := x
  dsimp only at hg1 ⊢
  refine evc [] [] ?_
  refine sq (fun h1 h1p h1s => ?_) fun h1 h1p h1s => ?_
  ·try simp only [Q, Pat.cs_len] at h1p
   rcases rest with _ | ⟨y, rest⟩
   ·exfalso; simp_all
   refine Walk.idx sl49 .none rfl rfl rfl rfl (Pat.cs_at' hg1) rfl ?_
   refine evd [] [] ?_
   refine Walk.call (cr := []) cal202 (spec_l3Copy_fn n (p := y) (by have := Pats.size_mem (l := p.kids) (v := y) (by rw [← hg1]; simp); omega) (Pats.ok_mem hok.2 y (by rw [← hg1]; simp))) rfl .none rfl rfl (LeL.refl _) trivial rfl rfl rfl ?_
   refine Walk.sliceLit sl49 tz51 rfl (by decide) (ks := [0]) (xs := [_]) rfl rfl (by decide) (by decide) .none rfl rfl rfl rfl ?_
   refine Walk.append sl49 zz51 rfl .none rfl rfl rfl rfl (htokL rfl (by first | rfl | (simp; done) | (simp; omega))) (by intro x hx; first | (simp at hx; subst hx; rfl) | exact pat_row _ x hx) (by have := congrArg List.length hg1; simp at this; simp; omega) (by have := congrArg List.length hg1; simp at this; simp; omega) ?_
   refine evd [] [] ?_
   refine Walk.store ty49 .none rfl rfl rfl rfl rfl rfl (by simp) rfl ?_
   refine dr ?_
   refine ar ?_
   refine Exists.intro ((pre ++ [y], rest)) ⟨(by have hz := hg1; rw [← hz]; simp), (by simp), Sub.x (by kernel_rfl) (by kernel_rfl) ⟨⟨_, rfl, (LeA.eqi (by first | rfl | (simp; done) | (simp_all; done) | omega))⟩, trivial⟩ (by kernel_rfl) (by kernel_rfl) ⟨(by first | rfl | (simp [getH]; done)), ⟨beq_nat_eq (by (simp; done)), trivial⟩⟩⟩
  ·try simp only [Q, Pat.cs_len] at h1p
   have hrest : rest = [] := by
    rcases rest with _ | ⟨a, b⟩
    ·rfl
    ·exfalso; have hz := congrArg List.length (hg1); simp only [List.length_append, List.length_cons, List.length_map] at hz; omega
   subst hrest
   refine Walk.store ty51 .none rfl rfl rfl rfl rfl rfl (by simp) rfl ?_
   refine tv ?_
   refine rn0 (.cons (.cellA ty51 rfl rfl rfl) .nil) (.agg (.cons (.eqd ?_) (.cons (.eqd ?_) (.cons (.eqd ?_) (.cons (.eqd ?_) (.cons (.eqd ?_) (.cons (.gld ?_) .nil)))))))
   all_goals (first | rfl | (rw [List.append_nil] at hg1; rw [← hg1, Pat.cs_cd]; done))
theorem spec_l3All_fn {l : List Pat} (h : l.length ≤ 1000000000000) (hok : ∀ p ∈ l, p.ok) : FnD Tryz.prog 251 [.d (encPats l)] [] (.d (encPats l)) [] := by
 refine bd Tryz.f251 21 [] [] fun w0 F0 own kept hk => ?_
 refine Walk.sliceEmptyG 1 sl49 .none rfl rfl ?_
 refine ev ?_
 refine CWp.loopX (ι := List (Pat) × List (Pat)) hk (fun x => [(4, .d (.i (x.1.length : Int))), (3, .gl 1 (x.1.map Pat.cc))]) [6, 7, 8, 9, 10, 11, 12, 13, 14, 15, 16, 17, 18, 19] (fun x => [(1, some (.tok ((x.1.map Pat.cc)).length 6))]) (fun x => x.1 ++ x.2 = l) (fun x => x.2.length) ([], l) (by simp) ⟨⟨_, rfl, (LeA.eqi (by first | rfl | (simp; done) | (simp_all; done) | omega))⟩, ⟨⟨_, rfl, (LeA.glg (by first | rfl | (simp; done) | (simp_all; done) | omega))⟩, trivial⟩⟩ ⟨beq_nat_eq (by rfl), trivial⟩ (fun x => rfl) (fun x hg1 => ?_)
 obtain ⟨pre, rest⟩ := x
 dsimp only at hg1 ⊢
 refine evc [] [] ?_
 refine sq (fun h1 h1p h1s => ?_) fun h1 h1p h1s => ?_
 ·try simp only [Q, Pat.cs_len] at h1p
  rcases rest with _ | ⟨y, rest⟩
  ·exfalso; simp_all
  refine Walk.idx sl49 .none rfl rfl rfl rfl (Pat.cs_at' hg1) rfl ?_
  refine ev ?_
  refine Walk.call (cr := []) cal202 (spec_l3Copy_fn _ (Nat.le_refl _) (hok y (by rw [← hg1]; simp))) rfl .none rfl rfl (LeL.refl _) trivial rfl rfl rfl ?_
  refine Walk.sliceLit sl49 tz51 rfl (by decide) (ks := [0]) (xs := [_]) rfl rfl (by decide) (by decide) .none rfl rfl rfl rfl ?_
  refine Walk.append sl49 zz51 rfl .none rfl rfl rfl rfl (htokL rfl (by first | rfl | (simp; done) | (simp; omega))) (by intro x hx; simp at hx; subst hx; rfl) (by have := congrArg List.length hg1; simp at this; simp; omega) (by have := congrArg List.length hg1; simp at this; simp; omega) ?_
  refine ev ?_
  refine ar ?_
  refine Exists.intro ((pre ++ [y], rest)) ⟨(by have hz := hg1; rw [← hz]; simp), (by simp), Sub.x (by kernel_rfl) (by kernel_rfl) ⟨⟨_, rfl, (LeA.eqi (by first | rfl | (simp; done) | (simp_all; done) | omega))⟩, ⟨⟨_, rfl, (LeA.glg (by first | rfl | (simp; done) | (simp_all; done) | omega))⟩, trivial⟩⟩ (by kernel_rfl) (by kernel_rfl) ⟨beq_nat_eq (by (simp; done)), trivial⟩⟩
 ·try simp only [Q, Pat.cs_len] at h1p
  have hrest : rest = [] := by
   rcases rest with _ | ⟨a, b⟩
   ·rfl
   ·exfalso; have hz := congrArg List.length (hg1); simp only [List.length_append, List.length_cons, List.length_map] at hz; omega
  subst hrest
  refine rn0 (r1 rfl) (.gld ?_)
  all_goals ((rw [List.append_nil] at hg1; rw [← hg1, Pat.cs_cd]; done))
theorem splitS_ok {p : Pat} (h : partsOk p = true) : splitS (bareP p) = partsQ p := by
 unfold partsOk at h
 have h40 := of_decide_eq_true h
 unfold splitS partsQ
 rw [if_pos h40, List.take_of_length_le (by omega)]
theorem splitS_ge {p : Pat} : ((40 : Int) < ((splitS (bareP p)).length : Int)) ↔ partsOk p = false := by
 unfold partsOk splitS
 rw [List.length_take, decide_eq_false_iff_not]
 omega
theorem spec_l6Parts_fn {w : List Data} {t : Ty} {l : List Cl} (hl : l.length ≤ 8) (hc : ∀ c ∈ l, shapeP w 10 t c.pat = true ∧ c.pat.ok) :
  FnD Tryz.prog 186 [.d (encCls l), .d (.i (l.length : Int))] [] (.tup [.d (encPats ((coverQ l []).getD [])), .d (.bool (coverQ l []).isSome)]) [] := by
 have hpl := fun (i : Nat) => splitS_len (bareP (nth l i).pat)
 have hge := fun (i : Nat) => splitS_ge (p := (nth l i).pat)
 refine bd Tryz.f186 35 [] [] fun w0 F0 own kept hk => ?_
 refine Walk.sliceEmptyG 9 sl49 .none rfl rfl ?_
 refine ev ?_
 refine CWp.loopX (ι := Nat × List Pat) hk (fun s => [(7, .d (.i (s.1 : Int))), (6, .gl 9 (Pat.cs s.2))]) [4, 5, 8, 10, 11, 12, 13, 14, 15, 16, 17, 18, 19, 20, 21, 22, 23, 24, 25, 26, 27, 28, 29, 30, 31, 32, 33] (fun s => [(9, some (.tok ((Pat.cs s.2)).length 6))]) (fun s => s.1 ≤ l.length ∧ coverQ (l.drop s.1) s.2 = coverQ l [] ∧ s.2.length ≤ 40 * s.1) (fun s => l.length - s.1) (0, []) ⟨by simp, rfl, by simp⟩ ⟨⟨_, rfl, (LeA.eqi (by rfl))⟩, ⟨⟨_, rfl, (LeA.glg (by rfl))⟩, trivial⟩⟩ ⟨beq_nat_eq (by rfl), trivial⟩ (fun x => rfl) (fun s hg1 => ?_)
 refine evc [] [] ?_
 refine sq (fun h1 h1p h1s => ?_) fun h1 h1p h1s => ?_
 ·try simp only [Q, Pat.cs_len, Int.natCast_inj] at h1p
  refine Walk.idx sl44 .none rfl rfl rfl rfl (at_nth (by omega)) rfl ?_
  refine ev ?_
  refine sq (fun h2 h2p h2s => ?_) fun h2 h2p h2s => ?_
  ·try simp only [Q, Pat.cs_len, Int.natCast_inj] at h2p
   refine ar ?_
   refine Exists.intro ((s.1 + 1, if (nth l s.1).g.op = 0 then s.2 ++ splitS (bareP (nth l s.1).pat) else s.2)) ⟨(by
      by_cases hz : (nth l s.1).g.op = 0
      ·have hp : partsOk (nth l s.1).pat = true := by
        cases hp : partsOk (nth l s.1).pat with
        | true => rfl
        | false => have := (hge s.1).2 hp; exfalso; first | omega | contradiction
       have h9 := partsQ_len (nth l s.1).pat
       have e := splitS_ok hp
       refine ⟨by dsimp only; omega, ?_, ?_⟩
       ·dsimp only
        rw [if_pos hz, e, ← coverQ_more (out := s.2) (by omega) hz hp]; exact hg1.2.1
       ·dsimp only
        rw [if_pos hz, e, List.length_append]; omega
      ·refine ⟨by dsimp only; omega, ?_, ?_⟩
       ·dsimp only
        rw [if_neg hz, ← coverQ_skip (out := s.2) (by omega) hz]; exact hg1.2.1
       ·dsimp only
        rw [if_neg hz]; omega), (by dsimp only; omega), Sub.x (by kernel_rfl) (by kernel_rfl) ⟨⟨_, rfl, (LeA.eqi (by rfl))⟩, ⟨⟨_, rfl, (LeA.glg (by (dsimp only; rw [if_neg (by assumption)]; done)))⟩, trivial⟩⟩ (by kernel_rfl) (by kernel_rfl) ⟨beq_nat_eq (by (first | rfl | (dsimp only; rw [if_pos (by assumption), Pat.cs_cd, Pat.cs_cd, Pat.cs_cd, List.map_append]; done) | (dsimp only; rw [if_neg (by assumption)]; done) | (dsimp only; rw [if_pos (by assumption)]; simp [Pat.cs_len]; done) | (dsimp only; rw [if_neg (by assumption)]; simp [Pat.cs_len]; done) | (simp; done) | omega)), trivial⟩⟩
  ·try simp only [Q, Pat.cs_len, Int.natCast_inj] at h2p
   refine Walk.idx sl44 .none rfl rfl rfl rfl (at_nth (by omega)) rfl ?_
   refine ev ?_
   refine Walk.call (cr := []) cal248 (spec_l5Parts_fn (hc _ (nth_mem (i := s.1) (by omega))).1 (hc _ (nth_mem (by omega))).2) rfl .none rfl rfl (LeL.refl _) trivial rfl rfl rfl ?_
   refine ev ?_
   refine sq (fun h3 h3p h3s => ?_) fun h3 h3p h3s => ?_
   ·try simp only [Q, Pat.cs_len, Int.natCast_inj] at h3p
    refine rn0 (r2 rfl rfl) (.tup (.cons (.nild ?_) (.cons (.eqd ?_) .nil)))
    all_goals ((rw [← hg1.2.1, coverQ_bad (by omega) (by assumption) ((hge s.1).1 (by omega))]; rfl))
   ·try simp only [Q, Pat.cs_len, Int.natCast_inj] at h3p
    refine Walk.append sl49 zz51 rfl .none rfl rfl rfl rfl (htokL rfl (by first | rfl | (simp; done) | (simp; omega))) (by exact pat_rows _) (by have := hpl s.1; simp only [Pat.cs_len]; omega) (by have := hpl s.1; simp only [Pat.cs_len]; omega) ?_
    refine ev ?_
    refine ar ?_
    refine Exists.intro ((s.1 + 1, if (nth l s.1).g.op = 0 then s.2 ++ splitS (bareP (nth l s.1).pat) else s.2)) ⟨(by
       by_cases hz : (nth l s.1).g.op = 0
       ·have hp : partsOk (nth l s.1).pat = true := by
         cases hp : partsOk (nth l s.1).pat with
         | true => rfl
         | false => have := (hge s.1).2 hp; exfalso; first | omega | contradiction
        have h9 := partsQ_len (nth l s.1).pat
        have e := splitS_ok hp
        refine ⟨by dsimp only; omega, ?_, ?_⟩
        ·dsimp only
         rw [if_pos hz, e, ← coverQ_more (out := s.2) (by omega) hz hp]; exact hg1.2.1
        ·dsimp only
         rw [if_pos hz, e, List.length_append]; omega
       ·refine ⟨by dsimp only; omega, ?_, ?_⟩
        ·dsimp only
         rw [if_neg hz, ← coverQ_skip (out := s.2) (by omega) hz]; exact hg1.2.1
        ·dsimp only
         rw [if_neg hz]; omega), (by dsimp only; omega), Sub.x (by kernel_rfl) (by kernel_rfl) ⟨⟨_, rfl, (LeA.eqi (by rfl))⟩, ⟨⟨_, rfl, (LeA.glg (by (dsimp only; rw [if_pos (by assumption), Pat.cs_cd, Pat.cs_cd, Pat.cs_cd, List.map_append]; done)))⟩, trivial⟩⟩ (by kernel_rfl) (by kernel_rfl) ⟨beq_nat_eq (by (first | rfl | (dsimp only; rw [if_pos (by assumption), Pat.cs_cd, Pat.cs_cd, Pat.cs_cd, List.map_append]; done) | (dsimp only; rw [if_neg (by assumption)]; done) | (dsimp only; rw [if_pos (by assumption)]; simp [Pat.cs_len]; done) | (dsimp only; rw [if_neg (by assumption)]; simp [Pat.cs_len]; done) | (simp; done) | omega)), trivial⟩⟩
 ·try simp only [Q, Pat.cs_len, Int.natCast_inj] at h1p
  refine rn0 (r2 rfl rfl) (.tup (.cons (.gld ?_) (.cons (.eqd ?_) .nil)))
  all_goals ((rw [← hg1.2.1, coverQ_end (by omega)]; rfl))
theorem spec_l5Right_fn {w : List Data} (hs : Spa w) {ta tk : Int} (ht : InS (w.length * 4) ⟨ta, tk⟩) {l : List Pat} {ok : Bool} (hl : ∀ a ∈ l, a.ok ∧ a.size ≤ 1000000000000) (hb : l.length ≤ 1000000000000) :
  FnD Tryz.prog 188 [.d (encDatas w), .agg [.d (.i ta), .d (.i tk)], .d (encPats l), .d (.bool ok)] [] (.tup [.d (encPats (if l.all (isP w ⟨ta, tk⟩) = true then l else [])), .d (.bool (l.all (isP w ⟨ta, tk⟩) && ok))]) [] := by
 have hbad : ∀ i, i < l.length → isP w ⟨ta, tk⟩ (nth l i) = false → l.all (isP w ⟨ta, tk⟩) = false := fun i hi h => by
  cases hq : l.all (isP w ⟨ta, tk⟩) with
  | false => rfl
  | true => have := List.all_eq_true.1 hq _ (nth_mem hi); rw [h] at this; cases this
 have hgood : (∀ i, i < l.length → isP w ⟨ta, tk⟩ (nth l i) = true) → l.all (isP w ⟨ta, tk⟩) = true := fun h => List.all_eq_true.2 fun x hx => by
  obtain ⟨i, hi, rfl⟩ := List.getElem_of_mem hx
  have := h i hi
  rwa [nth_eq hi] at this
 refine bd Tryz.f188 29 [] [] fun w0 F0 own kept hk => ?_
 refine Walk.box (id := 3005) .none rfl rfl rfl rfl rfl rfl rfl ?_
 refine ev ?_
 refine CWp.loopX (ι := Nat) hk (fun i => [(10, .d (.i (i : Int)))]) [8, 9, 11, 12, 13, 14, 15, 16, 17, 18, 19, 20, 21, 22, 23, 24, 25] (fun i => []) (fun i => i ≤ l.length ∧ ∀ i', i' < i → isP w ⟨ta, tk⟩ (nth l i') = true) (fun i => l.length - i) 0 ⟨by omega, fun _ h => absurd h (by omega)⟩ ⟨⟨_, rfl, (LeA.eqi (by first | rfl | (simp; done) | (simp_all; done) | omega))⟩, trivial⟩ trivial (fun x => rfl) (fun i hg1 => ?_)
 refine evc [] [] ?_
 refine sq (fun h1 h1p h1s => ?_) fun h1 h1p h1s => ?_
 ·try simp only [Q, Pat.cs_len] at h1p
  refine Walk.idx sl49 .none rfl rfl rfl rfl (pats_at (by omega)) rfl ?_
  refine evd [] [] ?_
  refine Walk.call (cr := []) cal173 (spec_l3Is_fn hs.dp.wt (ins_tyin ht) (hl _ (nth_mem (i := i) (by omega))).1 (hl _ (nth_mem (by omega))).2) rfl .none rfl rfl (LeL.refl _) trivial rfl rfl rfl ?_
  refine evd [] [] ?_
  refine dr ?_
  refine sq (fun h2 h2p h2s => ?_) fun h2 h2p h2s => ?_
  ·try simp only [Q, Pat.cs_len] at h2p
   refine Walk.sliceEmpty sl49 .none rfl ?_
   refine ev ?_
   refine rn0 (r2 rfl rfl) (.tup (.cons (.eqd ?_) (.cons (.eqd ?_) .nil)))
   all_goals ((rw [hbad i (by omega) (by assumption)]; rfl))
  ·try simp only [Q, Pat.cs_len] at h2p
   refine ar ?_
   refine Exists.intro (i + 1) ⟨⟨by omega, upto_succ hg1.2 (by assumption)⟩, (by omega), Sub.x (by kernel_rfl) (by kernel_rfl) ⟨⟨_, rfl, (LeA.eqi (by first | rfl | (simp; done) | (simp_all; done) | omega))⟩, trivial⟩ (by kernel_rfl) (by kernel_rfl) trivial⟩
 ·try simp only [Q, Pat.cs_len] at h1p
  refine Walk.call (cr := []) cal251 (spec_l3All_fn hb (fun p hp => (hl p hp).1)) rfl .none rfl rfl (LeL.refl _) trivial rfl rfl rfl ?_
  refine ev ?_
  refine rn0 (r2 rfl rfl) (.tup (.cons (.eqd ?_) (.cons (.eqd ?_) .nil)))
  all_goals ((rw [hgood (fun x hx => hg1.2 x (by omega))]; rfl))
theorem spec_l6Rest_fn {w : List Data} (hsp : Spa w) {a k : Int} (hin : InS (w.length * 4) ⟨a, k⟩) {l : List Cl} (h8 : l.length ≤ 8) (hsh : ∀ c ∈ l, shapeP w 10 ⟨a, k⟩ c.pat = true ∧ c.pat.ok) :
  FnD Tryz.prog 110 [.d (encDatas w), .agg [.d (.i a), .d (.i k)], .d (encPats [anyQ]), .d (encCls l), .d (.i (l.length : Int))] [] (.tup [.d (encPats ((missQ w ⟨a, k⟩ l).getD [])), .d (.bool (missQ w ⟨a, k⟩ l).isSome)]) [] := by
 have hco := spec_l6Parts_fn (w := w) (t := ⟨a, k⟩) h8 hsh
 cases hq : coverQ l [] with
 | none =>
  have e : missQ w ⟨a, k⟩ l = none := by unfold missQ; rw [hq]
  rw [hq] at hco
  rw [e]
  refine bd Tryz.f110 42 [] [] fun w0 F0 own kept hk => ?_
  refine Walk.box (id := 3006) .none rfl rfl rfl rfl rfl rfl rfl ?_
  refine ev ?_
  refine Walk.call (cr := []) cal186 (hco) rfl .none rfl rfl (LeL.refl _) trivial rfl rfl rfl ?_
  refine ev ?_
  refine sq (fun h1 h1p h1s => ?_) fun h1 h1p h1s => ?_
  ·try simp only [Q] at h1p
   refine Walk.sliceEmpty sl49 .none rfl ?_
   refine ev ?_
   refine rn0 (r2 rfl rfl) (.tup (.cons (.eqd ?_) (.cons (.eqd ?_) .nil)))
   all_goals (rfl)
  ·try simp only [Q] at h1p
   exfalso; exact absurd h1 (by simp) --stop
 | some away =>
  rw [hq] at hco
  obtain ⟨p1, p2⟩ := coverQ_part l [] away (fun c hc => (hsh c hc).1) (by simp) hq
  have hwo := spec_l5MinusAll_fn hsp hin (l := [anyQ]) (away := away) any_parts p2 (by simp) (by simp at p1; omega)
  have hrl2 : ((withoutQ w ⟨a, k⟩ [anyQ] away).getD []).length ≤ 400 ∧ ∀ x ∈ (withoutQ w ⟨a, k⟩ [anyQ] away).getD [], x.ok ∧ x.size ≤ 1000000000000 := by
   cases hw : withoutQ w ⟨a, k⟩ [anyQ] away with
   | none => exact ⟨by simp, by simp⟩
   | some r =>
    have := withoutQ_part away _ r (fun x hx => any_parts x (List.mem_filter.1 hx).1) (Nat.le_trans (List.length_filter_le _ _) (by simp)) p2 hw
    exact ⟨this.1, fun x hx => ⟨(part_ok hsp 11 hin (this.2 x hx)).1, by have := (part_ok hsp 11 hin (this.2 x hx)).2; have := pow_le10 (n := 11) (by omega); omega⟩⟩
  have hre := spec_l5Right_fn hsp hin (l := (withoutQ w ⟨a, k⟩ [anyQ] away).getD []) (ok := (withoutQ w ⟨a, k⟩ [anyQ] away).isSome) hrl2.2 (by omega)
  have hem : (withoutQ w ⟨a, k⟩ [anyQ] away).isSome = false → (withoutQ w ⟨a, k⟩ [anyQ] away).getD [] = [] := fun h => by
   cases hw : withoutQ w ⟨a, k⟩ [anyQ] away with
   | none => rfl
   | some r => rw [hw] at h; cases h
  have e : missQ w ⟨a, k⟩ l = if (((withoutQ w ⟨a, k⟩ [anyQ] away).getD []).all (isP w ⟨a, k⟩) && (withoutQ w ⟨a, k⟩ [anyQ] away).isSome) = true then some ((withoutQ w ⟨a, k⟩ [anyQ] away).getD []) else none := by
   unfold missQ
   rw [hq]
   cases hw : withoutQ w ⟨a, k⟩ [anyQ] away with
   | none => simp [hw]
   | some r => simp [hw]
  rw [e]
  generalize ((withoutQ w ⟨a, k⟩ [anyQ] away).getD []).all (isP w ⟨a, k⟩) = q at hre ⊢
  generalize (withoutQ w ⟨a, k⟩ [anyQ] away).isSome = q2 at hre hwo hem ⊢
  refine bd Tryz.f110 42 [] [] fun w0 F0 own kept hk => ?_
  refine Walk.box (id := 3006) .none rfl rfl rfl rfl rfl rfl rfl ?_
  refine ev ?_
  refine Walk.call (cr := []) cal186 (hco) rfl .none rfl rfl (LeL.refl _) trivial rfl rfl rfl ?_
  refine ev ?_
  refine sq (fun h1 h1p h1s => ?_) fun h1 h1p h1s => ?_
  ·try simp only [Q] at h1p
   exfalso; exact absurd h1 (by simp) --stop
  ·try simp only [Q] at h1p
   refine Walk.call (cr := []) cal96 (spec_l1Table_fn hsp.dp) rfl .none rfl rfl (LeL.refl _) trivial rfl rfl rfl ?_
   refine evd [] [] ?_
   refine Walk.call (cr := []) cal187 (hwo) rfl .none rfl rfl (LeL.refl _) trivial rfl rfl rfl ?_
   refine evd [] [] ?_
   refine dr ?_
   refine Walk.call (cr := []) cal188 (hre) rfl .none rfl rfl (LeL.refl _) trivial rfl rfl rfl ?_
   refine ev ?_
   refine rn0 (r2 rfl rfl) (.tup (.cons (.eqd ?_) (.cons (.eqd ?_) .nil)))
   all_goals ((cases q <;> cases q2 <;> first | rfl | (rw [hem rfl]; rfl)))
theorem spec_MissingPatterns_fn {w : List Data} (hs : WSmall w) {a k : Int} {l : List Cl} (hl : ClsOk l) (hz : ClsSz l) :
  FnD Tryz.prog 41 [.d (encDatas w), .agg [.d (.i a), .d (.i k)], .d (encCls l)] [] (.tup [.d (encPats ((missV w ⟨a, k⟩ l).getD [])), .d (.bool (missV w ⟨a, k⟩ l).isSome)]) [] := by
 have hcv := spec_ClausesValid_fn hs (a := a) (k := k) hl hz
 by_cases hv : clsValid w ⟨a, k⟩ l = true
 ·have hm : missV w ⟨a, k⟩ l = missQ w ⟨a, k⟩ l := by unfold missV; rw [if_pos hv]
  rw [hm]
  have htv := clsV_tv hv
  have hsp := valid_sp hs (tv_facts htv.1).1
  have hin : InS (w.length * 4) ⟨a, k⟩ := by
   obtain ⟨_, _, h3⟩ := tv_facts htv.1
   by_cases ha : a = -1
   ·exact .inl ha
   ·obtain ⟨h4, h5, h6, h7⟩ := h3 ha
    have := ins_of (n := w.length) h5 (j := k.toNat) (by omega)
    rwa [Int.toNat_of_nonneg h4, Int.toNat_of_nonneg h6] at this
  have hre := spec_l6Rest_fn hsp hin htv.2 (cls_shape hv hl)
  have e1 : encPats [anyQ] = D.sl [[D.i 1, D.i 0, D.i 0, D.i 0, D.i 0, D.sl []]] := rfl
  rw [e1] at hre
  rw [← List.length_map (f := Cl.c)] at hre
  refine bd Tryz.f41 24 [] [] fun w0 F0 own kept hk => ?_
  refine Walk.box (id := 3004) .none rfl rfl rfl rfl rfl rfl rfl ?_
  refine ev ?_
  refine Walk.call (cr := []) cal109 (hcv) rfl .none rfl rfl (LeL.refl _) trivial rfl rfl rfl ?_
  refine ev ?_
  refine sq (fun h1 h1p h1s => ?_) fun h1 h1p h1s => ?_
  ·try simp only [Q] at h1p
   exfalso; rw [hv] at h1; exact absurd h1 (by simp) --stop
  ·try simp only [Q] at h1p
   refine Walk.call (cr := []) cal111 (spec_l5Any_fn) rfl .none rfl rfl (LeL.refl _) trivial rfl rfl rfl ?_
   refine Walk.sliceLit sl49 tz51 rfl (by decide) (ks := [0]) (xs := [_]) rfl rfl (by decide) (by decide) .none rfl rfl rfl rfl ?_
   refine evd [] [] ?_
   refine Walk.call (cr := []) cal110 (hre) rfl .none rfl rfl (LeL.refl _) trivial rfl rfl rfl ?_
   refine evd [] [] ?_
   refine dr ?_
   refine rn0 (r2 rfl rfl) (.tup (.cons (.eqd ?_) (.cons (.eqd ?_) .nil)))
   all_goals (rfl)
 ·have hv' : clsValid w ⟨a, k⟩ l = false := by simpa using hv
  have hm : missV w ⟨a, k⟩ l = none := by unfold missV; rw [if_neg hv]
  rw [hm]
  rw [hv'] at hcv
  refine bd Tryz.f41 24 [] [] fun w0 F0 own kept hk => ?_
  refine Walk.box (id := 3004) .none rfl rfl rfl rfl rfl rfl rfl ?_
  refine ev ?_
  refine Walk.call (cr := []) cal109 (hcv) rfl .none rfl rfl (LeL.refl _) trivial rfl rfl rfl ?_
  refine ev ?_
  refine sq (fun h1 h1p h1s => ?_) fun h1 h1p h1s => ?_
  ·try simp only [Q] at h1p
   refine Walk.sliceEmpty sl49 .none rfl ?_
   refine ev ?_
   refine rn0 (r2 rfl rfl) (.tup (.cons (.eqd ?_) (.cons (.eqd ?_) .nil)))
   all_goals (rfl)
  ·try simp only [Q] at h1p
   exfalso; exact absurd h1 (by simp) --stop
theorem spec_Exhaustive_fn {w : List Data} (hs : WSmall w) {a k : Int} {l : List Cl} (hl : ClsOk l) (hz : ClsSz l) :
  FnD Tryz.prog 23 [.d (encDatas w), .agg [.d (.i a), .d (.i k)], .d (encCls l)] [] (.tup [.d (.bool (exhQ w ⟨a, k⟩ l)), .d (.bool (missV w ⟨a, k⟩ l).isSome)]) [] := by
 have hmp := spec_MissingPatterns_fn hs (a := a) (k := k) hl hz
 unfold exhQ
 generalize missV w ⟨a, k⟩ l = m at *
 refine bd Tryz.f23 24 [] [] fun w0 F0 own kept hk => ?_
 refine Walk.box (id := 3004) .none rfl rfl rfl rfl rfl rfl rfl ?_
 refine ev ?_
 refine Walk.call (cr := []) cal41 (hmp) rfl .none rfl rfl (LeL.refl _) trivial rfl rfl rfl ?_
 refine ev ?_
 refine sq (fun h1 h1p h1s => ?_) fun h1 h1p h1s => ?_
 ·try simp only [Q, Pat.cs_len, Int.natCast_inj] at h1p
  refine rn0 (r2 rfl rfl) (.tup (.cons (.eqd ?_) (.cons (.eqd ?_) .nil)))
  all_goals ((simp_all [Pat.cs_len]; done))
 ·try simp only [Q, Pat.cs_len, Int.natCast_inj] at h1p
  refine rn0 (r2 rfl rfl) (.tup (.cons (.eqd ?_) (.cons (.eqd ?_) .nil)))
  all_goals ((simp_all [Pat.cs_len]; done))
theorem laws_FnExactExhaustive_fn {w : List Data} (hs : WSmall w) {a k : Int} {l : List Cl} (hok : ClsOk l) (hz : ClsSz l) : FnD Tryz.prog 5 [.d (encDatas w), .agg [.d (.i a), .d (.i k)], .d (encCls l)] [] (.d (.bool true)) [] := by
 have z := szr_or (left := 1048576) (mDatas w)
 have hspec := spec_Exhaustive_fn hs (a := a) (k := k) hok hz
 have himp := impl_Exhaustive_fn hs (a := a) (k := k) hok
 generalize exhQ w ⟨a, k⟩ l = q1 at hspec himp
 generalize (missV w ⟨a, k⟩ l).isSome = q2 at hspec himp
 refine bd Tryz.f5 64 [48, 52] [] fun w0 F0 own kept hk => ?_
 refine Walk.box (id := 3004) .none rfl rfl rfl rfl rfl rfl rfl ?_
 refine evs [48, 52] [] ?_
 refine Walk.call (cr := []) cal12 (laws_szDataS_fn hs (by omega) (by omega)) rfl .none rfl rfl (LeL.refl _) trivial rfl rfl rfl ?_
 refine evs [48, 52] [] ?_
 refine sq (fun h1 h1p h1s => ?_) fun h1 h1p h1s => ?_
 ·try simp only [Q] at h1p
  refine rn0 (r1 rfl) (.eqd ?_)
  all_goals (first | rfl | (exfalso; simp_all [clsEq_refl]; done) | (exfalso; simp [clsEq_refl] at *; done))
 ·try simp only [Q] at h1p
  refine Walk.call (cr := []) cal22 (laws_szClauseS_fn hok (by omega) (by omega)) rfl .none rfl rfl (LeL.refl _) trivial rfl rfl rfl ?_
  refine evs [48, 52] [] ?_
  refine sq (fun h2 h2p h2s => ?_) fun h2 h2p h2s => ?_
  ·try simp only [Q] at h2p
   refine rn0 (r1 rfl) (.eqd ?_)
   all_goals (first | rfl | (exfalso; simp_all [clsEq_refl]; done) | (exfalso; simp [clsEq_refl] at *; done))
  ·try simp only [Q] at h2p
   refine Walk.call (cr := []) cal15 (laws_toDataS_fn hs) rfl .none rfl rfl (LeL.refl _) trivial rfl rfl rfl ?_
   refine evd [48, 52] [] ?_
   refine Walk.call (cr := []) cal24 (laws_toType_fn) rfl .none rfl rfl (LeL.refl _) trivial rfl rfl rfl ?_
   refine evd [48, 52] [] ?_
   refine Walk.call (cr := []) cal25 (laws_toClauseS_fn hok) rfl .none rfl rfl (LeL.refl _) trivial rfl rfl rfl ?_
   refine Walk.call (cr := []) cal23 (hspec) rfl .none rfl rfl (LeL.refl _) trivial rfl rfl rfl ?_
   refine evd [48, 52] [] ?_
   refine dr ?_
   refine Walk.call (cr := []) cal15 (laws_toDataS_fn hs) rfl .none rfl rfl (LeL.refl _) trivial rfl rfl rfl ?_
   refine evs [48, 52] [] ?_
   refine Walk.call (cr := []) cal25 (laws_toClauseS_fn hok) rfl .none rfl rfl (LeL.refl _) trivial rfl rfl rfl ?_
   refine evs [48, 52] [] ?_
   refine Walk.call (cr := []) cal24 (laws_toType_fn) rfl .none rfl rfl (LeL.refl _) trivial rfl rfl rfl ?_
   refine evs [48, 52] [] ?_
   refine Walk.call (cr := []) cal26 (himp) rfl .none rfl rfl (LeL.refl _) trivial rfl rfl rfl ?_
   refine evs [48, 52] [] ?_
   refine Walk.neB un4 .none rfl rfl rfl ?_
   refine evs [48, 52] [] ?_
   refine sq (fun h3 h3p h3s => ?_) fun h3 h3p h3s => ?_
   ·try simp only [Q] at h3p
    refine sqT ?_
    refine rn0 (r1 rfl) (.eqd ?_)
    all_goals (first | rfl | (exfalso; simp_all [clsEq_refl]; done) | (exfalso; simp [clsEq_refl] at *; done))
   ·try simp only [Q] at h3p
    refine Walk.neB un4 (.some rfl rfl h3) rfl rfl rfl ?_
    refine evs [48, 52] [(49, false)] ?_ ⟨⟨_, rfl, h3⟩, trivial⟩
    refine sq (fun h5 h5p h5s => ?_) fun h5 h5p h5s => ?_
    ·try simp only [Q] at h5p
     refine rn0 (r1 rfl) (.eqd ?_)
     all_goals (first | rfl | (exfalso; simp_all [clsEq_refl]; done) | (exfalso; simp [clsEq_refl] at *; done))
    ·try simp only [Q] at h5p
     refine Walk.call (cr := []) cal15 (laws_toDataS_fn hs) rfl .none rfl rfl (LeL.refl _) trivial rfl rfl rfl ?_
     refine Walk.call (cr := []) cal18 (laws_eqDataS_fn hs) rfl .none rfl rfl (LeL.refl _) trivial rfl rfl rfl ?_
     refine evs [48, 52] [] ?_
     refine sq (fun h6 h6p h6s => ?_) fun h6 h6p h6s => ?_
     ·try simp only [Q] at h6p
      refine rn0 (r1 rfl) (.eqd ?_)
      all_goals (first | rfl | (exfalso; simp_all [clsEq_refl]; done) | (exfalso; simp [clsEq_refl] at *; done))
     ·try simp only [Q] at h6p
      refine Walk.call (cr := []) cal25 (laws_toClauseS_fn hok) rfl .none rfl rfl (LeL.refl _) trivial rfl rfl rfl ?_
      refine Walk.call (cr := []) cal27 (laws_eqClauseS_fn hok) rfl .none rfl rfl (LeL.refl _) trivial rfl rfl rfl ?_
      refine evs [48, 52] [] ?_
      refine sq (fun h7 h7p h7s => ?_) fun h7 h7p h7s => ?_
      ·try simp only [Q] at h7p
       refine rn0 (r1 rfl) (.eqd ?_)
       all_goals (first | rfl | (exfalso; simp_all [clsEq_refl]; done) | (exfalso; simp [clsEq_refl] at *; done))
      ·try simp only [Q] at h7p
       refine rn0 (r1 rfl) (.eqd ?_)
       all_goals (first | rfl | (exfalso; simp_all [clsEq_refl]; done) | (exfalso; simp [clsEq_refl] at *; done))
end Go.Proofs.YtdgknigklgnefaaGreat
namespace Go.Proofs.YtdgknigklgnefaaGreat
open Go Go.ChangeShapes Go.WideShapes Go.ChangeAt Go.RowKit
set_option linter.unusedSimpArgs false
set_option linter.unusedVariables false
set_option linter.unusedVariables false
def FW (W : World) (b : Nat) : Nat := match W.heap[b]? with
 | some (.cells cs _ _) => cs.size
 | _ => 0
theorem FW_cell {W : World} {b o : Nat} {v : Value} (h : W.cell? ⟨b, o, none⟩ = some v) : o < FW W b := by
 unfold World.cell? at h
 unfold FW
 simp only at h
 split at h
 ·rename_i c t fr hb
  simp only [hb]
  simp only [Option.isSome_none, Bool.false_eq_true, if_false] at h
  exact (Array.getElem?_eq_some_iff.1 h).1
 ·cases h
theorem FW_top {W : World} {b : Nat} (h : W.heap.size ≤ b) : FW W b = 0 := by
 unfold FW
 rw [Array.getElem?_eq_none h]
structure RelL (W : World) (xs : List D) (cs : List Value) : Prop where
 len : xs.length = cs.length
 rel : ∀ i (h1 : i < xs.length) (h2 : i < cs.length), RelD (FW W) W xs[i] cs[i]
theorem RelL.append {W : World} {xs ys : List D} {cs ds : List Value} (h : RelL W xs cs) (k : RelL W ys ds) : RelL W (xs ++ ys) (cs ++ ds) := by
 refine ⟨by simp [h.len, k.len], fun i h1 h2 => ?_⟩
 by_cases hi : i < xs.length
 ·rw [List.getElem_append_left hi, List.getElem_append_left (by rw [← h.len]; exact hi)]
  exact h.rel i hi (by rw [← h.len]; exact hi)
 ·have hl := h.len
  rw [List.getElem_append_right (by omega), List.getElem_append_right (by omega)]
  have e : i - xs.length = i - cs.length := by omega
  have h1' : i - xs.length < ys.length := by simp only [List.length_append] at h1; omega
  have h2' : i - cs.length < ds.length := by simp only [List.length_append] at h2; omega
  have := k.rel (i - xs.length) h1' (by omega)
  simp only [e] at this ⊢
  exact this
def Dec (P : Program) (W : World) (n : Nat) (t : TypeId) {α : Type} (f : α → List D) (m : α → Nat) (R : α → Prop) : Prop :=
 ∀ (H : Type) (enc : TypeId × Value → H) (cs : List Value) (x : DataW H × List MemPlace), DataW.trod enc P W 0 (fun _ => true) true n t cs = some x →
  ∃ a, RelL W (f a) cs ∧ m a + 1 ≤ Rows.uptoBulk x.1 ∧ R a
section
variable {P : Program} {W : World} {n : Nat} {t : TypeId}
theorem Dec.zero {α : Type} {f : α → List D} {m : α → Nat} {R : α → Prop} : Dec P W 0 t f m R := fun H enc cs x h => by simp [DataW.trod] at h
theorem Dec.map {α β : Type} {f : α → List D} {m : α → Nat} {R : α → Prop} {f' : β → List D} {m' : β → Nat} {R' : β → Prop} (g : α → β) (h : Dec P W n t f m R)
  (h1 : ∀ a, f' (g a) = f a) (h2 : ∀ a, m' (g a) ≤ m a) (h3 : ∀ a, R a → R' (g a)) : Dec P W n t f' m' R' := fun H enc cs x hx => by
 obtain ⟨a, q1, q2, q3⟩ := h H enc cs x hx
 exact ⟨g a, by rw [h1]; exact q1, by have := h2 a; omega, h3 a q3⟩
theorem RelL.one {x : D} {v : Value} (h : RelD (FW W) W x v) : RelL W [x] [v] :=
 ⟨rfl, fun i h1 h2 => by
  have : i = 0 := by simp at h1; omega
  subst this
  exact h⟩
theorem Dec.int {k : IntKind} (ht : P.underlying t = some (.int k)) : Dec P W n t (fun z : Int => [.int k z]) (fun _ => 0) (fun z => (Lit.int k z).wf = true) := fun H enc cs x h => by
 obtain ⟨z, rfl, rfl, hw⟩ := DataW.trod_int ht h
 exact ⟨z, .one (.int k z), by simp [Rows.uptoBulk], hw⟩
theorem Dec.bool (ht : P.underlying t = some .bool) : Dec P W n t (fun z : Bool => [.bool z]) (fun _ => 0) (fun _ => True) := fun H enc cs x h => by
 obtain ⟨z, rfl, rfl⟩ := DataW.trod_bool ht h
 exact ⟨z, .one (.bool z), by simp [Rows.uptoBulk], trivial⟩
theorem Dec.str (ht : P.underlying t = some .string) : Dec P W n t (fun s : Str => [.str s]) (fun s => s.length) (fun _ => True) := fun H enc cs x h => by
 obtain ⟨s, rfl, rfl, hw⟩ := DataW.trod_string ht h
 exact ⟨s.data.toList, .one (by have := RelD.str (F := FW W) (w := W) s.data.toList; simpa using this), by simp [Rows.uptoBulk], trivial⟩
def sumM {α : Type} (m : α → Nat) : List α → Nat
 | [] => 0
 | a :: r => m a + 1 + sumM m r
theorem sumM_len {α : Type} (m : α → Nat) : ∀ l : List α, l.length ≤ sumM m l
 | [] => by simp [sumM]
 | a :: r => by have := sumM_len m r; simp only [sumM, List.length_cons]; omega
theorem sumM_mem {α : Type} {m : α → Nat} : ∀ {l : List α} {a : α}, a ∈ l → m a + 1 ≤ sumM m l
 | b :: r, a, h => by
  simp only [sumM]
  rcases List.mem_cons.1 h with rfl | h
  ·omega
  ·have := sumM_mem (m := m) h; omega
theorem choose_list {α β : Type} {Q : Nat → α → β → Prop} : ∀ (l : List β) (o : Nat), (∀ i (h : i < l.length), ∃ a, Q (o + i) a l[i]) → ∃ zs : List α, zs.length = l.length ∧ ∀ i (h : i < l.length) (h' : i < zs.length), Q (o + i) zs[i] l[i]
 | [], o, _ => ⟨[], rfl, fun i h => by simp at h⟩
 | b :: r, o, h => by
  obtain ⟨a, ha⟩ := h 0 (by simp)
  obtain ⟨zs, h1, h2⟩ := choose_list (Q := Q) r (o + 1) (fun i hi => by
   have := h (i + 1) (by simp; omega)
   rw [show o + 1 + i = o + (i + 1) by omega]
   simpa using this)
  refine ⟨a :: zs, by simp [h1], fun i hi hi' => ?_⟩
  cases i with
  | zero => exact ha
  | succ i =>
   have := h2 i (by simpa using hi) (by simpa using hi')
   rw [show o + 1 + i = o + (i + 1) by omega] at this
   simpa using this
theorem bulk_sum {H α : Type} {m : α → Nat} : ∀ {zs : List α} {xs : List (DataW H)}, zs.length = xs.length → (∀ i (h : i < zs.length) (h' : i < xs.length), m zs[i] + 1 ≤ Rows.uptoBulk xs[i]) → sumM m zs ≤ Rows.uptoBulkAll xs
 | [], [], _, _ => by simp [sumM, Rows.uptoBulkAll]
 | a :: zs, x :: xs, hl, h => by
  have h0 := h 0 (by simp) (by simp)
  have ih := bulk_sum (m := m) (zs := zs) (xs := xs) (by simpa using hl) (fun i h1 h2 => by
   have := h (i + 1) (by simp; omega) (by simp; omega)
   simpa using this)
  simp only [sumM, Rows.uptoBulkAll]
  simp only [List.getElem_cons_zero] at h0
  omega
 | [], _ :: _, hl, _ => by simp at hl
 | _ :: _, [], hl, _ => by simp at hl
theorem Dec.sl {α : Type} {f : α → List D} {m : α → Nat} {R : α → Prop} {e : TypeId} {k : Nat} (ht : P.underlying t = some (.slice e)) (hc : P.cellsOf e = k + 1) (hk : ∀ a, (f a).length = k + 1) (he : Dec P W n e f m R) :
  Dec P W (n + 1) t (fun l : List α => [.sl (l.map f)]) (fun l => sumM m l) (fun l => ∀ a ∈ l, R a) := fun H enc cs x h => by
 rcases DataW.trod_slice ht h with ⟨rfl, rfl⟩ | ⟨a, len, cap, elems, rest, n', hn, rfl, rfl, _, hcap, _, hlen, hel, _, _⟩
 ·exact ⟨[], .one .nil, by simp [sumM, Rows.uptoBulk], fun a h => by simp at h⟩
 obtain rfl : n = n' := by omega
 have each : ∀ i (hi : i < elems.length), ∃ y, (∃ cs, W.cells? 0 (a.add (i * (k + 1))) (k + 1) = some cs ∧ RelL W (f y) cs) ∧ m y + 1 ≤ Rows.uptoBulk (elems[i]).1 ∧ R y := by
  intro i hi
  have := hel i (by omega)
  rw [hc, List.getElem?_eq_getElem hi, Option.bind_eq_some_iff] at this
  obtain ⟨cs, h1, h2⟩ := this
  obtain ⟨y, h3, h4, h5⟩ := he H enc cs _ h2
  exact ⟨y, ⟨cs, h1, h3⟩, h4, h5⟩
 obtain ⟨zs, hal, has⟩ := choose_list (Q := fun i y (el : DataW H × List MemPlace) => (∃ cs, W.cells? 0 (a.add (i * (k + 1))) (k + 1) = some cs ∧ RelL W (f y) cs) ∧ m y + 1 ≤ Rows.uptoBulk el.1 ∧ R y) elems 0 (fun i hi => by simpa using each i hi)
 refine ⟨zs, .one ?_, ?_, fun y hy => ?_⟩
 ·by_cases h0 : zs = []
  ·subst h0
   have hz : len = 0 := by simp at hal; omega
   subst hz
   obtain ⟨b, o, s⟩ := a
   cases s with
   | none => exact .sl [] 0 b o cap (fun _ => undef) (by simp) (by simp) (fun n hn => by simp at hn) (fun i hi => by simp at hi)
   | some s => exact .emp b o s cap
  ·have hpos : 0 < zs.length := List.length_pos_iff.2 h0
   obtain ⟨⟨cs0, hc0, hr0⟩, _⟩ := has 0 (by omega) hpos
   have hspot : a.spot = none := by
    have h1 := (World.cells?_some hc0).2.2 0 (by omega)
    have h2 : 0 < cs0.length := by have := (World.cells?_some hc0).2.1; omega
    simp only [Nat.add_zero, Nat.zero_mul, Addr.add, if_true, List.getElem?_eq_getElem h2] at h1
    unfold World.cell? at h1
    split at h1
    ·cases hs : a.spot with
     | none => rfl
     | some s => simp [hs] at h1
    ·cases h1
   obtain ⟨b, o, s⟩ := a
   simp only at hspot
   subst hspot
   have hlen' : (zs.map f).length = len := by simp; omega
   have hmulk : ∀ i j, i < zs.length → j < k + 1 → i * (k + 1) + j < zs.length * (k + 1) := fun i j hi hj => by
    have : (i + 1) * (k + 1) ≤ zs.length * (k + 1) := Nat.mul_le_mul_right _ (by omega)
    rw [Nat.add_mul, Nat.one_mul] at this
    omega
   have cellAt : ∀ i (hi : i < zs.length) j (hj : j < (f zs[i]).length), ∃ v, W.cell? ⟨b, o + (i * (k + 1) + j), none⟩ = some v ∧ RelD (FW W) W ((f zs[i])[j]) v := fun i hi j hj => by
    obtain ⟨⟨cs, hc1, hr1⟩, _⟩ := has i (by omega) hi
    have hjk : j < k + 1 := by have := hk zs[i]; omega
    obtain ⟨_, q1, q2⟩ := World.cells?_some hc1
    have q3 := q2 j hjk
    rw [List.getElem?_eq_getElem (by omega)] at q3
    refine ⟨cs[j], ?_, hr1.rel j hj (by omega)⟩
    rw [← q3]
    congr 1
    simp only [Nat.zero_add, Addr.add]
    split <;> split <;> simp_all <;> omega
   have hv : ((zs.map f).length, cap) = (len, cap) := by rw [hlen']
   have goal : RelD (FW W) W (.sl (zs.map f)) (.slice (some ⟨b, o, none⟩) (zs.map f).length cap) := by
    refine .sl _ (k + 1) b o cap (fun q => (W.cell? ⟨b, o + q, none⟩).getD undef) (fun y hy => ?_) (by omega) (fun q hq => ?_) (fun i hi j hj => ?_)
    ·obtain ⟨y', _, rfl⟩ := List.mem_map.1 hy; exact hk y'
    ·have hq' : q < zs.length * (k + 1) := by simpa using hq
     have hi : q / (k + 1) < zs.length := Nat.div_lt_of_lt_mul (by rw [Nat.mul_comm]; exact hq')
     have hj : q % (k + 1) < k + 1 := Nat.mod_lt _ (by omega)
     obtain ⟨v, h1, _⟩ := cellAt _ hi (q % (k + 1)) (by rw [hk]; exact hj)
     rw [Nat.div_add_mod'] at h1
     exact ⟨FW_cell h1, by rw [h1]; rfl⟩
    ·have hi' : i < zs.length := by simpa using hi
     simp only [List.getElem_map] at hj ⊢
     obtain ⟨v, h1, h2⟩ := cellAt i hi' j hj
     show RelD (FW W) W _ ((W.cell? ⟨b, o + (i * (k + 1) + j), none⟩).getD undef)
     rw [h1]
     exact h2
   rw [hlen'] at goal
   exact goal
 ·have := bulk_sum (m := m) (zs := zs) (xs := elems.map (·.1)) (by simp [hal]) (fun i h1 h2 => by
   have := (has i (by simpa using h2) h1).2.1
   simpa using this)
  simp only [Rows.uptoBulk]
  omega
 ·obtain ⟨i, hi, rfl⟩ := List.getElem_of_mem hy
  exact (has i (by omega) hi).2.2
def DecF (P : Program) (W : World) (n o K : Nat) (fs : List Field) {α : Type} (f : α → List D) (m : α → Nat) (R : α → Prop) : Prop :=
 ∀ (H : Type) (enc : TypeId × Value → H) (cs : List Value) (xs : List (DataW H × List MemPlace)), cs.length = K → xs.length = fs.length →
  (∀ (i : Nat) (fd : Field), fs[i]? = some fd → DataW.trod enc P W 0 (fun _ => true) true n fd.type ((cs.drop fd.offset).take (P.cellsOf fd.type)) = xs[i]?) →
  ∃ a, RelL W (f a) (cs.drop o) ∧ m a ≤ Rows.uptoBulkAll (xs.map (·.1)) ∧ R a
theorem DecF.nil {K : Nat} : DecF P W n K K [] (fun _ : Unit => []) (fun _ => 0) (fun _ => True) := fun H enc cs xs h1 h2 _ =>
 ⟨(), by rw [List.drop_of_length_le (by omega)]; exact ⟨rfl, fun i h => by simp at h⟩, by simp, trivial⟩
theorem DecF.cons {α β : Type} {f : α → List D} {m : α → Nat} {R : α → Prop} {f2 : β → List D} {m2 : β → Nat} {R2 : β → Prop} {o K k : Nat} {fd : Field} {fs : List Field}
  (h1 : Dec P W n fd.type f m R) (ho : fd.offset = o) (hc : P.cellsOf fd.type = k) (h2 : DecF P W n (o + k) K fs f2 m2 R2) :
  DecF P W n o K (fd :: fs) (fun p : α × β => f p.1 ++ f2 p.2) (fun p => m p.1 + 1 + m2 p.2) (fun p => R p.1 ∧ R2 p.2) := fun H enc cs xs hK hl hx => by
 cases xs with
 | nil => simp at hl
 | cons y ys =>
  have h0 := hx 0 fd (by simp)
  simp only [List.getElem?_cons_zero] at h0
  rw [ho, hc] at h0
  obtain ⟨a, q1, q2, q3⟩ := h1 H enc _ _ h0
  obtain ⟨b, r1, r2, r3⟩ := h2 H enc cs ys hK (by simpa using hl) (fun i fd' hi => by
   have := hx (i + 1) fd' (by simpa using hi)
   simpa using this)
  refine ⟨(a, b), ?_, ?_, q3, r3⟩
  ·have : cs.drop o = (cs.drop o).take k ++ cs.drop (o + k) := by
    rw [← List.drop_drop, List.take_append_drop]
   rw [this]
   exact q1.append r1
  ·simp only [List.map_cons, Rows.uptoBulkAll]
   omega
theorem Dec.struct {α : Type} {f : α → List D} {m : α → Nat} {R : α → Prop} {fs : Array Field} (ht : P.underlying t = some (.struct fs)) {K : Nat} (hK : P.cellsOf t = K) (h : DecF P W n 0 K fs.toList f m R) :
  Dec P W (n + 1) t f m R := fun H enc cs x hx => by
 obtain ⟨xs, n', hn, rfl, hl, hxl, hf⟩ := DataW.trod_struct ht hx
 obtain rfl : n = n' := by omega
 obtain ⟨a, q1, q2, q3⟩ := h H enc cs xs (by omega) (by simpa using hxl) (fun i fd hi => hf i fd (by simpa using hi))
 refine ⟨a, by simpa using q1, ?_, q3⟩
 simp only [Rows.uptoBulk]
 omega
end
section
variable {P : Program} {W : World} {base : Nat} {t : TypeId} {v : Value} {H : Type} {enc : TypeId × Value → H} {d : DataW H} {ps : List MemPlace}
theorem arg_sl {α : Type} {e : TypeId} {f : α → List D} {m : α → Nat} {R : α → Prop} {k : Nat} (ht : P.underlying t = some (.slice e)) (hc : P.cellsOf e = k + 1) (hk : ∀ a, (f a).length = k + 1) (hd : ∀ n, Dec P W n e f m R)
  (hval : Value.okWide P W .any base t v) (h : DataW.Trod enc P W 0 (fun _ => true) true t v d ps) :
  ∃ l : List α, (∀ G T, G.F = FW W → RelA G T W (.d (.sl (l.map f))) v) ∧ sumM m l + 1 ≤ Rows.uptoBulk d ∧ ∀ a ∈ l, R a := by
 obtain ⟨n, hn⟩ := h
 cases n with
 | zero => simp [DataW.trod] at hn
 | succ n =>
  obtain ⟨l, h1, h2, h3⟩ := Dec.sl ht hc hk (hd n) H enc _ _ hn
  have hcells : v.cells.toList = [v] := by
   cases v with
   | agg cs => simp only [Value.okWide, ht, Cell.okWide, Cell.ok] at hval
   | _ => rfl
  rw [hcells] at h1
  exact ⟨l, fun G T hG => .d (by rw [hG]; simpa using h1.rel 0 (by simp) (by simp)), h2, h3⟩
theorem arg_struct {α : Type} {f : α → List D} {m : α → Nat} {R : α → Prop} {fs : Array Field} (ht : P.underlying t = some (.struct fs)) (hd : ∀ n, Dec P W n t f m R)
  (hval : Value.okWide P W .any base t v) (h : DataW.Trod enc P W 0 (fun _ => true) true t v d ps) :
  ∃ a : α, (∀ G T, G.F = FW W → RelA G T W (.agg ((f a).map .d)) v) ∧ m a + 1 ≤ Rows.uptoBulk d ∧ R a := by
 obtain ⟨n, hn⟩ := h
 obtain ⟨a, h1, h2, h3⟩ := hd n H enc _ _ hn
 simp only [Value.okWide, ht] at hval
 obtain ⟨cs, rfl, _, _⟩ := hval
 refine ⟨a, fun G T hG => .agg (by have := h1.len; simp [Value.cells] at this ⊢; omega) (fun i hi hv => ?_), h2, h3⟩
 have hi' : i < (f a).length := by simpa using hi
 have := h1.rel i hi' (by simpa [Value.cells] using hv)
 simp only [List.getElem_map]
 exact .d (by rw [hG]; simpa [Value.cells] using this)
end
section
variable {P : Program} {H : Type} {enc : TypeId × Value → H}
theorem trodAll_below (hl : laidOutB P = true) {W W' : World} (hb : Below W.heap.size W W') : ∀ {ts : List TypeId} {vs : List Value} {ds : List (DataW H)} {ps : List MemPlace},
  (∀ t ∈ ts, P.readableRec t = true ∧ t < P.types.size) → DataW.TrodAll enc P W 0 (fun _ => true) true ts vs ds ps → (∀ x ∈ ps, x.block < W.heap.size) →
  DataW.TrodAll enc P W' 0 (fun b => decide (b < W.heap.size)) true ts vs ds ps
 | [], [], [], ps, _, h, _ => h
 | t :: ts, v :: vs, d :: ds, ps, hr, h, hlt => by
  obtain ⟨p, q, h1, h2, rfl⟩ := h
  exact ⟨p, q, Below.trod hl (hr t (by simp)).1 (hr t (by simp)).2 h1 hb (fun x hx => hlt x (by simp [hx])),
   trodAll_below hl hb (fun t ht => hr t (by simp [ht])) h2 (fun x hx => hlt x (by simp [hx])), rfl⟩
theorem law_post {f : Func} {s : ChangeSpec} {W W' : World} {args : Array Value} {ds gs : List (DataW H)} {before : List MemPlace} {tb : TypeId}
  (hW : DataW.Whole enc P f.params.toList s.vars false W args.toList ds gs before) (hvars : s.vars = []) (hrt : f.resultTypes = #[tb]) (htb : P.underlying tb = some .bool)
  (hs : s.fn H (ds ++ gs) = { results := [.lit (.bool true)], args := ds }) (hl : laidOutB P = true) (hr : ∀ t ∈ f.params.toList, P.readableRec t = true ∧ t < P.types.size)
  (hb : Below W.heap.size W W') : s.post enc P f false true false false W args (.bool true) W' := by
 have hlt : ∀ p ∈ before, p.block < W.heap.size := fun p hp => hW.lt p hp
 have hW0 := hW
 obtain ⟨p, q, hA, hV, rfl, hfz, _⟩ := hW
 rw [hvars] at hV
 cases gs with
 | cons g gs => exact hV.elim
 | nil =>
  have hq : q = [] := hV
  subst hq
  simp only [List.append_nil] at *
  refine ⟨ds, [], p, [], p, [], by simpa [hvars] using hW0, ?_, ?_, ?_, World.keptBut_mono (fun x hx => ⟨hx, .inr (.inl hx)⟩) (hb.frame (· ∈ p)), fun h => by cases h⟩
  ·simp only [List.append_nil, hs, hrt]
   exact trodAll_cons_mk (shut_bool htb _) trodAll_mk0
  ·simp only [List.append_nil, hs]
   exact trodAll_below hl hb hr hA hlt
  ·simp only [hvars, List.append_nil, hs]
   rfl
theorem law_calls {f : FuncId} {avs : List AV} {W : World} {args : Array Value} {r : AV} (hf : FnD P f avs [] r [])
  (hargs : ∀ G T, G.F = FW W → AllR G T W avs args) : Calls P f args W fun e W' => ∃ v G', e = .returned v ∧ RelA G' (fun _ => none) W' r v ∧ Below W.heap.size W W' := by
 let G : Gh := { F := FW W, loc := fun _ => [] }
 refine (hf G W args ⟨hargs G _ rfl, fun id r h => (by simp [getH] at h), fun id id' h => (by simp [getH] at h), fun b hb => FW_top hb⟩).mono ?_
 rintro e W' ⟨v, r', hp', G', rfl, ⟨rfl, rfl⟩, h⟩
 exact ⟨v, G', rfl, h.res, ⟨h.frm.os, h.frm.tape, h.frm.output, h.frm.size, fun b hb => (h.frm.block b hb (by simp [ownedL])).1⟩⟩
theorem RelA.bool_true {G : Gh} {T : TokF} {w : World} {v : Value} (h : RelA G T w (.d (.bool true)) v) : v = .bool true := by
 cases h with | d h => cases h; rfl
theorem bound_of {H : Type} {l : List (DataW H)} (hk : Rows.uptoSmall H l = true) : Rows.uptoBulkAll l ≤ 1048576 := of_decide_eq_true hk
end
end Go.Proofs.YtdgknigklgnefaaGreat
namespace Go.Proofs.YtdgknigklgnefaaGreat
open Go Go.ChangeShapes Go.WideShapes Go.ChangeAt Go.RowKit
set_option linter.unusedSimpArgs false
set_option linter.unusedVariables false
set_option maxRecDepth 100000
theorem decInt (W : World) (n : Nat) : Dec Tryz.prog W n 3 (fun z : Int => [.i z]) (fun _ => 0) (fun _ => True) := Dec.map (f := fun z : Int => [D.i z]) (R := fun z => (Lit.int .i64 z).wf = true) id (Dec.int Tryz.underlying3) (fun _ => rfl) (fun _ => Nat.le_refl _) (fun _ _ => trivial)
theorem decStr (W : World) (n : Nat) : Dec Tryz.prog W n 9 (fun s : Str => [.str s]) (fun s => s.length) (fun _ => True) := Dec.str Tryz.underlying9
theorem decTy (W : World) : ∀ n, Dec Tryz.prog W n 37 Ty.c (fun _ => 0) (fun _ => True)
 | 0 => Dec.zero
 | n + 1 => Dec.map (fun p : Int × Int × Unit => (⟨p.1, p.2.1⟩ : Ty)) (Dec.struct Tryz.underlying37 (by kernel_rfl) (DecF.cons (k := 1) (decInt W n) rfl (by kernel_rfl) (DecF.cons (k := 1) (decInt W n) rfl (by kernel_rfl) DecF.nil))) (fun _ => rfl) (fun _ => Nat.zero_le _) (fun _ _ => trivial)
theorem decTys (W : World) : ∀ n, Dec Tryz.prog W n 260 (fun l : List Ty => [encTys l]) (fun l => l.length) (fun _ => True)
 | 0 => Dec.zero
 | n + 1 => Dec.map id (Dec.sl (k := 1) Tryz.underlying260 (by kernel_rfl) (fun _ => rfl) (decTy W n)) (fun _ => rfl) (fun l => sumM_len _ l) (fun _ _ => trivial)
def bCtor (c : Ctor) : Nat := c.name.length + c.args.length
theorem decCtor (W : World) : ∀ n, Dec Tryz.prog W n 262 Ctor.c bCtor (fun _ => True)
 | 0 => Dec.zero
 | n + 1 => Dec.map (fun p : Str × List Ty × Int × Unit => (⟨p.1, p.2.1, p.2.2.1⟩ : Ctor)) (Dec.struct Tryz.underlying262 (by kernel_rfl) (DecF.cons (k := 1) (decStr W n) rfl (by kernel_rfl) (DecF.cons (k := 1) (decTys W n) rfl (by kernel_rfl) (DecF.cons (k := 1) (decInt W n) rfl (by kernel_rfl) DecF.nil))))
   (fun _ => rfl) (fun p => by simp only [bCtor]; omega) (fun _ _ => trivial)
theorem decCtors (W : World) : ∀ n, Dec Tryz.prog W n 100 (fun l : List Ctor => [encCtors l]) (fun l => sumM bCtor l) (fun _ => True)
 | 0 => Dec.zero
 | n + 1 => Dec.map id (Dec.sl (k := 2) Tryz.underlying100 (by kernel_rfl) (fun _ => rfl) (decCtor W n)) (fun _ => rfl) (fun l => Nat.le_refl _) (fun _ _ => trivial)
def bData (d : Data) : Nat := d.name.length + sumM bCtor d.ctors
theorem decData (W : World) : ∀ n, Dec Tryz.prog W n 102 Data.c bData (fun _ => True)
 | 0 => Dec.zero
 | n + 1 => Dec.map (fun p : Str × List Ctor × Unit => (⟨p.1, p.2.1⟩ : Data)) (Dec.struct Tryz.underlying102 (by kernel_rfl) (DecF.cons (k := 1) (decStr W n) rfl (by kernel_rfl) (DecF.cons (k := 1) (decCtors W n) rfl (by kernel_rfl) DecF.nil)))
   (fun _ => rfl) (fun p => by simp only [bData]; omega) (fun _ _ => trivial)
theorem wsmall_of {w : List Data} {N : Nat} (h : sumM bData w + 1 ≤ N) (hN : N ≤ 1048576) : WSmall w := by
 refine ⟨by have := sumM_len bData w; omega, fun d hd => ?_, fun d hd c hc => ?_⟩
 ·have h1 := sumM_mem (m := bData) hd
  have h2 := sumM_len bCtor d.ctors
  simp only [bData] at h1
  omega
 ·have h1 := sumM_mem (m := bData) hd
  have h2 := sumM_mem (m := bCtor) hc
  simp only [bData] at h1
  simp only [bCtor] at h2
  omega
theorem Vals.ok_size : ∀ (n : Nat) (l : List Val), Vals.size l ≤ n → n ≤ 1048576 → l.length ≤ 1048576 ∧ Vals.ok l := by
 intro n
 induction n with
 | zero =>
  intro l h hn
  cases l with
  | nil => exact ⟨by simp, trivial⟩
  | cons x r => simp only [Vals.size, Val.size_eq] at h; omega
 | succ n ih =>
  intro l
  induction l with
  | nil => intro _ _; exact ⟨by simp, trivial⟩
  | cons x r ihr =>
   intro h hn
   simp only [Vals.size] at h
   have hx := Val.size_eq x
   have h1 := ih x.kids (by omega) (by omega)
   have h2 := ih r (by omega) (by omega)
   refine ⟨?_, (Val.ok_iff x).2 ⟨by have := h1.1; omega, h1.2⟩, h2.2⟩
   have : ∀ l : List Val, l.length ≤ Vals.size l := by
    intro l
    induction l with
    | nil => simp
    | cons y s ihs => simp only [Vals.size, List.length_cons, Val.size_eq]; omega
   have := this r
   simp only [List.length_cons]; omega
theorem decPat (W : World) : ∀ n, Dec Tryz.prog W n 145 Pat.cc (fun v => Pats.size v.kids) (fun _ => True) := by
 intro n
 induction n using Nat.strongRecOn with
 | _ n ih =>
  cases n with
  | zero => exact Dec.zero
  | succ n =>
   have hk : Dec Tryz.prog W n 143 (fun l : List Pat => [.sl (l.map Pat.cc)]) (fun l => Pats.size l) (fun _ => True) := by
    cases n with
    | zero => exact Dec.zero
    | succ n =>
     refine Dec.map id (Dec.sl (k := 5) Tryz.underlying143 (by kernel_rfl) (fun _ => rfl) (ih n (by omega))) (fun _ => rfl) (fun l => ?_) (fun _ _ => trivial)
     have : ∀ l : List Pat, Pats.size l ≤ sumM (fun v => Pats.size v.kids) l := by
      intro l
      induction l with
      | nil => simp [Pats.size, sumM]
      | cons a r ih2 => simp only [Pats.size, sumM, Pat.size_eq]; omega
     exact this l
   refine Dec.map (fun p : Int × Int × Int × Int × Int × List Pat × Unit => Pat.mk p.1 p.2.1 p.2.2.1 p.2.2.2.1 p.2.2.2.2.1 p.2.2.2.2.2.1) (Dec.struct Tryz.underlying145 (by kernel_rfl) (DecF.cons (k := 1) (decInt W n) rfl (by kernel_rfl) (DecF.cons (k := 1) (decInt W n) rfl (by kernel_rfl) (DecF.cons (k := 1) (decInt W n) rfl (by kernel_rfl) (DecF.cons (k := 1) (decInt W n) rfl (by kernel_rfl) (DecF.cons (k := 1) (decInt W n) rfl (by kernel_rfl) (DecF.cons (k := 1) hk rfl (by kernel_rfl) DecF.nil))))))) (fun p => ?_) (fun p => ?_) (fun _ _ => trivial)
   ·show [D.i _, D.i _, D.i _, D.i _, D.i _, D.sl (Pat.cs _)] = _
    rw [show Pat.cs (Pat.mk p.1 p.2.1 p.2.2.1 p.2.2.2.1 p.2.2.2.2.1 p.2.2.2.2.2.1).kids = p.2.2.2.2.2.1.map Pat.cc by rw [Pat.cs_eq]; exact List.map_congr_left (fun v _ => Pat.c_eq v)]
    rfl
   ·show Pats.size p.2.2.2.2.2.1 ≤ 0 + 1 + (0 + 1 + (0 + 1 + (0 + 1 + (0 + 1 + (Pats.size p.2.2.2.2.2.1 + 1 + 0)))))
    omega
theorem Pats.ok_size : ∀ (n : Nat) (l : List Pat), Pats.size l ≤ n → n ≤ 1048576 → l.length ≤ 1048576 ∧ Pats.ok l := by
 intro n
 induction n with
 | zero =>
  intro l h hn
  cases l with
  | nil => exact ⟨by simp, trivial⟩
  | cons x r => simp only [Pats.size, Pat.size_eq] at h; omega
 | succ n ih =>
  intro l
  induction l with
  | nil => intro _ _; exact ⟨by simp, trivial⟩
  | cons x r ihr =>
   intro h hn
   simp only [Pats.size] at h
   have hx := Pat.size_eq x
   have h1 := ih x.kids (by omega) (by omega)
   have h2 := ih r (by omega) (by omega)
   refine ⟨?_, (Pat.ok_iff x).2 ⟨by have := h1.1; omega, h1.2⟩, h2.2⟩
   have : ∀ l : List Pat, l.length ≤ Pats.size l := by
    intro l
    induction l with
    | nil => simp
    | cons y s ihs => simp only [Pats.size, List.length_cons, Pat.size_eq]; omega
   have := this r
   simp only [List.length_cons]; omega
theorem pat_ok_of {v : Pat} (h : Pats.size v.kids ≤ 1048576) : v.ok := by
 have := Pats.ok_size _ _ (Nat.le_refl _) h
 exact (Pat.ok_iff v).2 ⟨by omega, this.2⟩
def bCl (c : Cl) : Nat := Pats.size c.pat.kids
theorem decGd (W : World) : ∀ n, Dec Tryz.prog W n 146 (fun g : Gd => [.i g.op, .i g.var, .i g.n]) (fun _ => 0) (fun _ => True)
 | 0 => Dec.zero
 | n + 1 => Dec.map (fun p : Int × Int × Int × Unit => (⟨p.1, p.2.1, p.2.2.1⟩ : Gd)) (Dec.struct Tryz.underlying146 (by kernel_rfl) (DecF.cons (k := 1) (decInt W n) rfl (by kernel_rfl) (DecF.cons (k := 1) (decInt W n) rfl (by kernel_rfl) (DecF.cons (k := 1) (decInt W n) rfl (by kernel_rfl) DecF.nil)))) (fun _ => rfl) (fun _ => Nat.zero_le _) (fun _ _ => trivial)
theorem decCl (W : World) : ∀ n, Dec Tryz.prog W n 148 Cl.c bCl (fun _ => True)
 | 0 => Dec.zero
 | n + 1 => Dec.map (fun p : Pat × Gd × Unit => (⟨p.1, p.2.1⟩ : Cl)) (Dec.struct Tryz.underlying148 (by kernel_rfl) (DecF.cons (k := 6) (decPat W n) rfl (by kernel_rfl) (DecF.cons (k := 3) (decGd W n) rfl (by kernel_rfl) DecF.nil))) (fun _ => rfl) (fun p => by simp only [bCl]; omega) (fun _ _ => trivial)
theorem cls_ok_of {l : List Cl} (h : sumM bCl l ≤ 1048576) : ClsOk l ∧ ClsSz l := by
 refine ⟨⟨by have := sumM_len bCl l; omega, fun c hc => ?_⟩, fun c hc => ?_⟩
 ·have h1 := sumM_mem (m := bCl) hc
  simp only [bCl] at h1
  exact pat_ok_of (by omega)
 ·have h1 := sumM_mem (m := bCl) hc
  simp only [bCl] at h1
  rw [Pat.size_eq]; omega
theorem Exs.ok_size : ∀ (n : Nat) (l : List Ex), Exs.size l ≤ n → n ≤ 1048576 → l.length ≤ 1048576 ∧ Exs.ok l := by
 intro n
 induction n with
 | zero =>
  intro l h hn
  cases l with
  | nil => exact ⟨by simp, trivial⟩
  | cons x r => simp only [Exs.size, Ex.size_eq] at h; omega
 | succ n ih =>
  intro l
  induction l with
  | nil => intro _ _; exact ⟨by simp, trivial⟩
  | cons x r ihr =>
   intro h hn
   simp only [Exs.size] at h
   have hx := Ex.size_eq x
   have h1 := ih x.kids (by omega) (by omega)
   have h2 := ih r (by omega) (by omega)
   refine ⟨?_, (Ex.ok_iff x).2 ⟨by have := h1.1; omega, h1.2⟩, h2.2⟩
   have : ∀ l : List Ex, l.length ≤ Exs.size l := by
    intro l
    induction l with
    | nil => simp
    | cons y s ihs => simp only [Exs.size, List.length_cons, Ex.size_eq]; omega
   have := this r
   simp only [List.length_cons]; omega
end Go.Proofs.YtdgknigklgnefaaGreat
namespace Go.Proofs.YtdgknigklgnefaaGreat.fnExactExhaustive
open Go Go.ChangeShapes Go.WideShapes Go.ChangeAt Go.RowKit
set_option linter.unusedSimpArgs false
set_option linter.unusedVariables false
theorem own : ownKnob Tryz.prog.godebug = none := by kernel_rfl
theorem laidOut : laidOutB Tryz.prog = true := by kernel_rfl
set_option maxRecDepth 100000 in
theorem contract (H : Type) (enc : TypeId × Value → H) (W : World) (base : Nat) (args : Array Value) (ds gs : List (DataW H)) (before : List MemPlace)
  (hval : ∀ (j : Nat) t v, Tryz.f5.params[j]? = some t → args[j]? = some v → Value.okWide Tryz.prog W .any base t v)
  (hW : DataW.Whole enc Tryz.prog Tryz.f5.params.toList Rows.fnExactExhaustiveSpec.vars false W args.toList ds gs before) (hk : Rows.uptoSmall H (ds ++ gs) = true) :
  Calls Tryz.prog 5 args W fun e W' => ∃ v, e = .returned v ∧ Rows.fnExactExhaustiveSpec.post enc Tryz.prog Tryz.f5 false true false false W args v W' := by
 have hb := bound_of hk
 have hW' := hW
 obtain ⟨p, q, hA0, hV, rfl, hfz, hnd⟩ := hW
 have hA : DataW.TrodAll enc Tryz.prog W 0 (fun _ => true) true Tryz.f5.params.toList args.toList ds p := hA0
 rw [Tryz.params5] at hA hval
 obtain ⟨v0, vs0, d0, ds0, p0, q0, hargs, rfl, rfl, h0, r0⟩ := trodAll_cons hA
 obtain ⟨v1, vs1, d1, ds1, p1, q1, rfl, rfl, rfl, h1, r1⟩ := trodAll_cons r0
 obtain ⟨v2, vs2, d2, ds2, p2, q2, rfl, rfl, rfl, h2, r2⟩ := trodAll_cons r1
 obtain ⟨rfl, rfl, rfl⟩ := trodAll_nil r2
 obtain rfl : args = #[v0, v1, v2] := by cases args; simp_all
 obtain ⟨rfl, rfl⟩ := trodVars_none hV
 simp only [List.append_nil, Rows.uptoBulkAll] at hb
 obtain ⟨w, a0, b0, _⟩ := arg_sl (k := 1) Tryz.underlying22 (by kernel_rfl) (fun _ => rfl) (decData W) (hval 0 _ v0 rfl rfl) h0
 obtain ⟨t, a1, b1, _⟩ := arg_struct Tryz.underlying37 (decTy W) (hval 1 _ v1 rfl rfl) h1
 obtain ⟨l, a2, b2, _⟩ := arg_sl (k := 8) Tryz.underlying38 (by kernel_rfl) (fun _ => rfl) (decCl W) (hval 2 _ v2 rfl rfl) h2
 have hs : WSmall w := wsmall_of b0 (by omega)
 obtain ⟨ok_l, sz_l⟩ := cls_ok_of (l := l) (by omega)
 refine (law_calls (laws_FnExactExhaustive_fn hs (a := t.data) (k := t.index) ok_l sz_l) (W := W) (args := #[v0, v1, v2]) (fun G T hG => ⟨rfl, fun i hi hv => ?_⟩)).mono ?_
 ·match i, hi with
  | 0, _ => exact a0 G T hG
  | 1, _ => exact a1 G T hG
  | 2, _ => exact a2 G T hG
 ·rintro e W' ⟨v, G', rfl, hr, hbelow⟩
  obtain rfl := hr.bool_true
  exact ⟨_, rfl, law_post hW' rfl rfl Tryz.underlying4 rfl laidOut (fun t ht => by
   simp only [Tryz.params5, List.mem_cons, List.not_mem_nil, or_false] at ht
   rcases ht with rfl | rfl | rfl <;> exact ⟨by kernel_rfl, of_decide_eq_true (by kernel_rfl)⟩) hbelow⟩
set_option maxRecDepth 100000 in
theorem lifted (os : Os) (started : os.Started) (H : Type) (enc : TypeId × Value → H) (F : Stop.Interp) :
  ReturnsInHanded {} Tryz.checked os 5 .any ((Rows.OpenSpec.upto Rows.fnExactExhaustiveSpec).pre6 enc Tryz.prog Tryz.f5 Rows.fnExactExhaustiveUptoRow.domain false) (((Rows.OpenSpec.upto Rows.fnExactExhaustiveSpec).at F).post enc Tryz.prog Tryz.f5 false true false false) := by
 refine returnsInHanded_of_cond (C := Tryz.checked) (s := Rows.OpenSpec.upto Rows.fnExactExhaustiveSpec) (k := Rows.uptoSmall) rfl own started (by kernel_rfl) Tryz.func5
  (OpenSpec.witness (enc := enc) (C := Tryz.checked) (s := Rows.OpenSpec.upto Rows.fnExactExhaustiveSpec) (k := Rows.uptoSmall) rfl false ⟨#[], #[.slice none 0 0, .agg #[.int .i64 0, .int .i64 0], .slice none 0 0], []⟩ 8 (by kernel_rfl) (by kernel_rfl) (by kernel_rfl)
   (x := ([.nil, .agg [.lit (.int .i64 0), .lit (.int .i64 0)], .nil], [], [])) (by kernel_rfl) rfl (by kernel_rfl)) ?_
 intro W base args ds gs before hval hW _ hk _
 exact contract H enc W base args ds gs before hval hW hk
theorem kf1 : (Rows.fnExactExhaustiveUptoRow.inPlace == Tryz.pinned.checked.prog.inPlace 5) = true := by kernel_rfl
theorem kf2 : (Rows.fnExactExhaustiveUptoRow.unfollowed == Tryz.pinned.checked.prog.unfollowed 5) = true := by kernel_rfl
theorem kf3 : (Rows.fnExactExhaustiveUptoRow.recurses == Tryz.pinned.checked.prog.recurses 5) = true := by kernel_rfl
theorem kf4 : (Rows.fnExactExhaustiveUptoRow.named == Tryz.pinned.checked.prog.varsNamed 5) = true := by kernel_rfl
theorem kf5 : laidOutB Tryz.pinned.checked.prog = true := by kernel_rfl
theorem kf6 : mapsRowed Tryz.pinned.checked.prog = true := by kernel_rfl
theorem kf7 : Tryz.pinned.checked.prog.stopsHeard = true := by kernel_rfl
theorem kf8 : Tryz.pinned.checked.prog.mayEnter = true := by kernel_rfl
theorem kf9 : (Rows.fnExactExhaustiveUptoRow.lifted == Tryz.pinned.checked.prog.liftsFinal) = true := by kernel_rfl
theorem kf0 : (Rows.fnExactExhaustiveUptoRow.plainKeys == Tryz.pinned.checked.prog.plainKeys) = true := by kernel_rfl
theorem facts : joinedFacts Tryz.pinned.checked.prog 5 Tryz.f5 (Rows.OpenSpec.upto Rows.fnExactExhaustiveSpec).bare Rows.fnExactExhaustiveUptoRow = true := by
 unfold joinedFacts
 rw [kf1, kf2, kf3, kf4, kf5, kf6, kf7, kf8, kf9, kf0]
 kernel_rfl
theorem named : Tryz.pinned.checked.prog.funcNamed Rows.fnExactExhaustiveUptoRow.func = some 5 := by kernel_rfl
theorem over : Rows.fnExactExhaustiveUptoRow.holds Tryz.pinned (Rows.OpenSpec.upto Rows.fnExactExhaustiveSpec) :=
 OpenClaim.holds_of_cond 5 Tryz.f5 rfl rfl rfl rfl rfl rfl rfl ⟨rfl, rfl, rfl, rfl, rfl⟩ rfl rfl rfl rfl rfl named Tryz.func5 facts
  (of_decide_eq_true (by as_aux_lemma => kernel_rfl)) (by as_aux_lemma => unfold Func.isWrapper; first | (rw [if_pos (by decide +kernel)]; kernel_rfl) | (rw [if_neg (by decide +kernel)]; exact ⟨rfl, rfl⟩))
  (fun os started H enc _ F => lifted os started H enc F)
theorem proved : Rows.FnExactExhaustiveUptoSaid := over
end Go.Proofs.YtdgknigklgnefaaGreat.fnExactExhaustive
