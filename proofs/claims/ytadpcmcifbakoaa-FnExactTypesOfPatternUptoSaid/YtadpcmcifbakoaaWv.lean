/-
  PLAIN LAWS: valid worlds, in two ways of saying it.
-/
import Derived.Test.YtadpcmcifbakoaaF6
namespace Go.Proofs.Ytadpcmcifbakoaa
open Go
set_option linter.unusedSimpArgs false
set_option linter.unusedVariables false
def ctorNames (w : List Data) : List Str := w.flatMap fun d => d.ctors.map (·.name)
structure WV (w : List Data) : Prop where
 len : w.length ≤ 4
 data : ∀ d ∈ w, dataNameOk d.name = true ∧ 1 ≤ d.ctors.length ∧ d.ctors.length ≤ 4
 ctor : ∀ d ∈ w, ∀ c ∈ d.ctors, ctorOk w.length c = true
 names : (w.map (·.name)).Nodup
 cnames : (ctorNames w).Nodup
theorem ctorsOk_iff (n : Nat) : ∀ (l : List Ctor) (met met' : List Str), ctorsOk n met l = some met' ↔ met' = met ++ l.map (·.name) ∧ (∀ c ∈ l, ctorOk n c = true) ∧ (l.map (·.name)).Nodup ∧ ∀ c ∈ l, c.name ∉ met
 | [], met, met' => by
  unfold ctorsOk
  simp only [Option.some.injEq, List.map_nil, List.append_nil]
  exact ⟨fun h => ⟨h.symm, by simp, by simp, by simp⟩, fun h => h.1.symm⟩
 | c :: r, met, met' => by
  unfold ctorsOk
  by_cases h : (ctorOk n c && !decide (c.name ∈ met)) = true
  ·rw [if_pos h, ctorsOk_iff n r]
   simp only [Bool.and_eq_true, Bool.not_eq_true', decide_eq_false_iff_not] at h
   obtain ⟨h1, h2⟩ := h
   constructor
   ·rintro ⟨rfl, q1, q2, q3⟩
    refine ⟨by simp, fun x hx => ?_, ?_, fun x hx => ?_⟩
    ·rcases List.mem_cons.1 hx with rfl | hx
     ·exact h1
     ·exact q1 x hx
    ·simp only [List.map_cons, List.nodup_cons]
     refine ⟨fun hm => ?_, q2⟩
     obtain ⟨x, hx, he⟩ := List.mem_map.1 hm
     exact q3 x hx (by rw [he]; simp)
    ·rcases List.mem_cons.1 hx with rfl | hx
     ·exact h2
     ·intro hm; exact q3 x hx (by simp [hm])
   ·rintro ⟨rfl, q1, q2, q3⟩
    simp only [List.map_cons, List.nodup_cons] at q2
    refine ⟨by simp, fun x hx => q1 x (List.mem_cons_of_mem _ hx), q2.2, fun x hx hm => ?_⟩
    simp only [List.mem_append, List.mem_singleton] at hm
    rcases hm with hm | hm
    ·exact q3 x (List.mem_cons_of_mem _ hx) hm
    ·exact q2.1 (hm ▸ List.mem_map.2 ⟨x, hx, rfl⟩)
  ·rw [if_neg h]
   constructor
   ·intro h'; cases h'
   ·rintro ⟨_, q1, _, q3⟩
    exfalso; apply h
    simp [q1 c (by simp), q3 c (by simp)]
theorem datasOk_iff (n : Nat) : ∀ (l : List Data) (met datas : List Str), datasOk n met datas l = true ↔
  (∀ d ∈ l, dataNameOk d.name = true ∧ 1 ≤ d.ctors.length ∧ d.ctors.length ≤ 4) ∧ (∀ d ∈ l, ∀ c ∈ d.ctors, ctorOk n c = true) ∧ (l.map (·.name)).Nodup ∧ (∀ d ∈ l, d.name ∉ datas) ∧
   (ctorNames l).Nodup ∧ ∀ s ∈ ctorNames l, s ∉ met
 | [], met, datas => by simp [datasOk, ctorNames]
 | d :: r, met, datas => by
  have hcn : ctorNames (d :: r) = d.ctors.map (·.name) ++ ctorNames r := rfl
  have hw : within d.ctors.length 1 4 = true ↔ 1 ≤ d.ctors.length ∧ d.ctors.length ≤ 4 := by simp [within]; omega
  unfold datasOk
  simp only [Bool.and_eq_true, Bool.not_eq_true', decide_eq_false_iff_not, hw]
  constructor
  ·rintro ⟨⟨⟨h1, h2⟩, h3⟩, h4⟩
   split at h4
   ·rename_i met' hm
    obtain ⟨rfl, c1, c2, c3⟩ := (ctorsOk_iff n _ _ _).1 hm
    obtain ⟨q1, q2, q3, q4, q5, q6⟩ := (datasOk_iff n r _ _).1 h4
    refine ⟨fun x hx => ?_, fun x hx => ?_, ?_, fun x hx => ?_, ?_, fun s hs => ?_⟩
    ·rcases List.mem_cons.1 hx with rfl | hx
     ·exact ⟨h1, h3⟩
     ·exact q1 x hx
    ·rcases List.mem_cons.1 hx with rfl | hx
     ·exact c1
     ·exact q2 x hx
    ·simp only [List.map_cons, List.nodup_cons]
     refine ⟨fun hm => ?_, q3⟩
     obtain ⟨x, hx, he⟩ := List.mem_map.1 hm
     exact q4 x hx (by rw [he]; simp)
    ·rcases List.mem_cons.1 hx with rfl | hx
     ·exact h2
     ·intro hm; exact q4 x hx (by simp [hm])
    ·rw [hcn, List.nodup_append]
     refine ⟨c2, q5, fun a ha b hb he => ?_⟩
     subst he
     exact q6 a hb (by simp only [List.mem_append]; exact .inr ha)
    ·rw [hcn] at hs
     rcases List.mem_append.1 hs with hs | hs
     ·obtain ⟨c, hc, rfl⟩ := List.mem_map.1 hs
      exact c3 c hc
     ·intro hm; exact q6 s hs (by simp [hm])
   ·cases h4
  ·rintro ⟨q1, q2, q3, q4, q5, q6⟩
   rw [hcn] at q5 q6
   rw [List.nodup_append] at q5
   simp only [List.map_cons, List.nodup_cons] at q3
   have hd := q1 d (by simp)
   have hm : ctorsOk n met d.ctors = some (met ++ d.ctors.map (·.name)) := (ctorsOk_iff n _ _ _).2 ⟨rfl, q2 d (by simp), q5.1, fun c hc => q6 _ (List.mem_append.2 (.inl (List.mem_map.2 ⟨c, hc, rfl⟩)))⟩
   refine ⟨⟨⟨hd.1, q4 d (by simp)⟩, hd.2⟩, ?_⟩
   rw [hm]
   refine (datasOk_iff n r _ _).2 ⟨fun x hx => q1 x (List.mem_cons_of_mem _ hx), fun x hx => q2 x (List.mem_cons_of_mem _ hx), q3.2, fun x hx hmem => ?_, q5.2.1, fun s hs hmem => ?_⟩
   ·simp only [List.mem_append, List.mem_singleton] at hmem
    rcases hmem with hmem | hmem
    ·exact q4 x (List.mem_cons_of_mem _ hx) hmem
    ·exact q3.1 (hmem ▸ List.mem_map.2 ⟨x, hx, rfl⟩)
   ·rcases List.mem_append.1 hmem with hmem | hmem
    ·exact q6 s (List.mem_append.2 (.inr hs)) hmem
    ·exact q5.2.2 s hmem s hs rfl
theorem worldValid_iff (w : List Data) : worldValid w = true ↔ WV w := by
 unfold worldValid
 rw [Bool.and_eq_true, datasOk_iff]
 constructor
 ·rintro ⟨h1, q1, q2, q3, _, q5, _⟩
  exact ⟨by have := of_decide_eq_true h1; omega, q1, q2, q3, q5⟩
 ·rintro ⟨h1, q1, q2, q3, q5⟩
  exact ⟨decide_eq_true (by omega), q1, q2, q3, by simp, q5, by simp⟩
theorem nodup_iff_nth {l : List Str} : l.Nodup ↔ ∀ i j, i < j → j < l.length → nth l i ≠ nth l j := by
 unfold List.Nodup
 rw [List.pairwise_iff_getElem]
 constructor
 ·intro h i j hij hj
  have := h i j (by omega) hj hij
  simpa [nth, List.getD, hj, (by omega : i < l.length)] using this
 ·intro h i j hi hj hij
  have := h i j hij hj
  simpa [nth, List.getD, hj, hi] using this
theorem nth_eq {α : Type} [Inhabited α] {l : List α} {i : Nat} (h : i < l.length) : nth l i = l[i] := by simp [nth, List.getD, h]
theorem cnames_iff (w : List Data) : (ctorNames w).Nodup ↔ (∀ d, d < w.length → ∀ j k, j < k → k < (nth w d).ctors.length → (nth (nth w d).ctors j).name ≠ (nth (nth w d).ctors k).name) ∧
  ∀ i d, i < d → d < w.length → ∀ j k, j < (nth w i).ctors.length → k < (nth w d).ctors.length → (nth (nth w i).ctors j).name ≠ (nth (nth w d).ctors k).name := by
 unfold ctorNames List.Nodup
 rw [List.pairwise_flatMap]
 constructor
 ·rintro ⟨h1, h2⟩
  refine ⟨fun d hd j k hjk hk => ?_, fun i d hid hd j k hj hk => ?_⟩
  ·have := h1 (nth w d) (nth_mem hd)
   rw [List.pairwise_iff_getElem] at this
   have := this j k (by simp; omega) (by simpa using hk) hjk
   simpa [nth_eq hk, nth_eq (show j < (nth w d).ctors.length by omega)] using this
  ·rw [List.pairwise_iff_getElem] at h2
   have := h2 i d (by omega) hd hid
   rw [← nth_eq hd, ← nth_eq (show i < w.length by omega)] at this
   exact this _ (List.mem_map.2 ⟨_, nth_mem hj, rfl⟩) _ (List.mem_map.2 ⟨_, nth_mem hk, rfl⟩)
 ·rintro ⟨h1, h2⟩
  refine ⟨fun x hx => ?_, ?_⟩
  ·obtain ⟨d, hd, rfl⟩ := List.getElem_of_mem hx
   rw [List.pairwise_iff_getElem]
   intro j k hj hk hjk
   have hk' : k < (nth w d).ctors.length := by rw [nth_eq hd]; simpa using hk
   have := h1 d hd j k hjk hk'
   rw [nth_eq hk', nth_eq (show j < (nth w d).ctors.length by omega)] at this
   simp only [nth_eq hd] at this
   simpa using this
  ·rw [List.pairwise_iff_getElem]
   intro i d hi hd hid x hx y hy
   obtain ⟨a, ha, rfl⟩ := List.mem_map.1 hx
   obtain ⟨b, hb, rfl⟩ := List.mem_map.1 hy
   obtain ⟨j, hj, rfl⟩ := List.getElem_of_mem ha
   obtain ⟨k, hk, rfl⟩ := List.getElem_of_mem hb
   have hj' : j < (nth w i).ctors.length := by rw [nth_eq hi]; exact hj
   have hk' : k < (nth w d).ctors.length := by rw [nth_eq hd]; exact hk
   have := h2 i d hid hd j k hj' hk'
   rw [nth_eq hj', nth_eq hk'] at this
   simpa only [nth_eq hi, nth_eq hd] using this
theorem names_iff (w : List Data) : (w.map (·.name)).Nodup ↔ ∀ i d, i < d → d < w.length → (nth w i).name ≠ (nth w d).name := by
 rw [nodup_iff_nth]
 have e : ∀ i, i < w.length → nth (w.map (·.name)) i = (nth w i).name := fun i hi => by simp [nth, List.getD, hi]
 constructor
 ·intro h i d hid hd
  have := h i d hid (by simpa using hd)
  rwa [e i (by omega), e d hd] at this
 ·intro h i d hid hd
  have hd' : d < w.length := by simpa using hd
  rw [e i (by omega), e d hd']
  exact h i d hid hd'
theorem twice_iff (w : List Data) (d k : Nat) : twice w d k = false ↔ (∀ i, i < d → (nth w i).name ≠ (nth w d).name) ∧
  ∀ i j, i ≤ d → j < (nth w i).ctors.length → (i < d ∨ j < k) → k < (nth w d).ctors.length → (nth (nth w i).ctors j).name ≠ (nth (nth w d).ctors k).name := by
 unfold twice
 rw [List.any_eq_false]
 constructor
 ·intro h
  refine ⟨fun i hi he => ?_, fun i j hi hj hij hk he => ?_⟩
  ·apply h i (List.mem_range.2 (by omega))
   unfold rowTwice; simp [hi, he]
  ·apply h i (List.mem_range.2 (by omega))
   unfold rowTwice
   rw [any_range_true hj (by unfold hitTwice; simp [hk, he]; omega)]
   simp
 ·rintro ⟨h1, h2⟩ i hi
  have hi' := List.mem_range.1 hi
  unfold rowTwice
  simp only [Bool.or_eq_true, Bool.and_eq_true, decide_eq_true_eq, not_or, not_and]
  refine ⟨fun hid => h1 i hid, ?_⟩
  rw [any_range_false (fun j hj => ?_)]
  ·simp
  ·unfold hitTwice
   cases hc : ((decide (i < d) || decide (j < k)) && (decide (k < (nth w d).ctors.length) && decide ((nth (nth w i).ctors j).name = (nth (nth w d).ctors k).name))) with
   | false => rfl
   | true =>
    simp only [Bool.and_eq_true, Bool.or_eq_true, decide_eq_true_eq] at hc
    exact absurd hc.2.2 (h2 i j (by omega) hj hc.1 hc.2.1)
theorem specWorldValid_iff (w : List Data) : specWorldValid w = true ↔ WV w := by
 unfold specWorldValid
 rw [Bool.and_eq_true, decide_eq_true_eq, List.all_eq_true]
 have hs : ∀ d, specData w d = true ↔ dataNameOk (nth w d).name = true ∧ 1 ≤ (nth w d).ctors.length ∧ (nth w d).ctors.length ≤ 4 ∧ ∀ k, k < (nth w d).ctors.length → ctorOk w.length (nth (nth w d).ctors k) = true ∧ twice w d k = false := fun d => by
  unfold specData
  simp only [Bool.and_eq_true, decide_eq_true_eq, List.all_eq_true, List.mem_range, specCtors, Bool.not_eq_true']
 constructor
 ·rintro ⟨h1, h2⟩
  have h3 : ∀ d, d < w.length → _ := fun d hd => (hs d).1 (h2 d (List.mem_range.2 hd))
  have h4 : ∀ d, d < w.length → ∀ k, k < (nth w d).ctors.length → _ := fun d hd k hk => (twice_iff w d k).1 ((h3 d hd).2.2.2 k hk).2
  refine ⟨h1, fun d hd => ?_, fun d hd c hc => ?_, (names_iff w).2 (fun i d hid hd => ?_), (cnames_iff w).2 ⟨fun d hd j k hjk hk => ?_, fun i d hid hd j k hj hk => ?_⟩⟩
  ·obtain ⟨i, hi, rfl⟩ := List.getElem_of_mem hd
   have := h3 i hi
   rw [nth_eq hi] at this
   exact ⟨this.1, this.2.1, this.2.2.1⟩
  ·obtain ⟨i, hi, rfl⟩ := List.getElem_of_mem hd
   obtain ⟨k, hk, rfl⟩ := List.getElem_of_mem hc
   have hk' : k < (nth w i).ctors.length := by rw [nth_eq hi]; exact hk
   have := ((h3 i hi).2.2.2 k hk').1
   rw [nth_eq hk'] at this
   simpa only [nth_eq hi] using this
  ·exact (h4 d hd 0 (by have := (h3 d hd).2.1; omega)).1 i hid
  ·exact (h4 d hd k hk).2 d j (Nat.le_refl _) (by omega) (.inr hjk) hk
  ·exact (h4 d hd k hk).2 i j (by omega) hj (.inl hid) hk
 ·intro h
  refine ⟨h.len, fun d hd => ?_⟩
  have hd' := List.mem_range.1 hd
  have hm := nth_mem hd'
  have hn := (names_iff w).1 h.names
  have hc := (cnames_iff w).1 h.cnames
  refine (hs d).2 ⟨(h.data _ hm).1, (h.data _ hm).2.1, (h.data _ hm).2.2, fun k hk => ⟨h.ctor _ hm _ (nth_mem hk), (twice_iff w d k).2 ⟨fun i hi => hn i d hi hd', fun i j hi hj hij hk' => ?_⟩⟩⟩
  by_cases hid : i < d
  ·exact hc.2 i d hid hd' j k hj hk'
  ·have : i = d := by omega
   subst this
   exact hc.1 i hd' j k (by omega) hk'
theorem specWorldValid_eq (w : List Data) : specWorldValid w = worldValid w := by
 rw [Bool.eq_iff_iff, specWorldValid_iff, worldValid_iff]
theorem argOk_in {n : Nat} {t : Ty} (h : argOk n t = true) : TyIn n t := by
 unfold argOk at h
 simp only [Bool.or_eq_true, Bool.and_eq_true, decide_eq_true_eq, within] at h
 rcases h with h | h
 ·exact .inl h.1
 ·exact .inr ⟨t.data.toNat, by omega, by omega⟩
theorem typeOk_in {n : Nat} {t : Ty} (h : typeOk n t = true) : TyIn n t := by
 unfold typeOk at h
 simp only [Bool.or_eq_true, Bool.and_eq_true, decide_eq_true_eq, within] at h
 rcases h with h | h
 ·exact .inl h.1
 ·exact .inr ⟨t.data.toNat, by omega, by omega⟩
theorem WV.wt {w : List Data} (hs : WSmall w) (h : WV w) : WT w := ⟨hs, fun d hd c hc t ht => by
 have := h.ctor d hd c hc
 unfold ctorOk at this
 simp only [Bool.and_eq_true, Bool.not_eq_true', List.any_eq_false, Bool.not_eq_true, Bool.not_eq_false] at this
 exact argOk_in (by have := this.2.2.2 t ht; simpa using this)⟩
theorem tv_wt {w : List Data} {t : Ty} (hs : WSmall w) (h : typeValid w t = true) : WT w := by
 unfold typeValid at h
 rw [Bool.and_eq_true] at h
 exact WV.wt hs ((worldValid_iff w).1 h.1)
theorem tv_in {w : List Data} {t : Ty} (h : typeValid w t = true) : TyIn w.length t := by
 unfold typeValid at h
 rw [Bool.and_eq_true] at h
 exact typeOk_in h.2
theorem spec_tv (w : List Data) (t : Ty) : (specWorldValid w && (argOk w.length t && decide (0 ≤ t.index))) = typeValid w t := by
 rw [specWorldValid_eq]
 unfold typeValid
 congr 1
 rw [Bool.eq_iff_iff]
 unfold argOk typeOk within
 simp
 omega
end Go.Proofs.Ytadpcmcifbakoaa
