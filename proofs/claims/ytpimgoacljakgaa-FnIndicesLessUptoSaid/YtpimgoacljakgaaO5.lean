/-
  THE LAW FnIndicesLess: whatever the arguments of bulk at most 1048576 are, the call returns true, and the arguments read as before.
  Conditions: the bulk alone.
-/
import Derived.Test.YtpimgoacljakgaaO4
namespace Go.Proofs.Ytpimgoacljakgaa
open Go
set_option linter.unusedSimpArgs false
set_option linter.unusedVariables false
set_option maxRecDepth 100000
set_option maxHeartbeats 2000000
def anyP : Pat := ⟨1, 0, 0, 0, 0, []⟩
def dA (f : Ty → Nat → Pat × Nat) : List Ty → Nat → List Pat × Nat
 | [], q => ([], q)
 | t :: r, q => ((f t q).1 :: (dA f r (f t q).2).1, (dA f r (f t q).2).2)
def drawP (b : Str) (w : List Data) : Nat → Ty → Nat → Pat × Nat
 | 0, _, p => (anyP, p)
 | d + 1, t, p =>
  if d = 0 then (anyP, p)
  else if pickV b p 4 = 0 then (anyP, p + 1)
  else if pickV b (p + 1) 6 = 0 then (⟨5, 0, 0, 0, 0, [(drawP b w d t (p + 2)).1, (drawP b w d t (drawP b w d t (p + 2)).2).1]⟩, (drawP b w d t (drawP b w d t (p + 2)).2).2)
  else if t.data = -1 then (⟨3, 0, pickV b (p + 2) 10, pickV b (p + 2) 10 + pickV b (p + 3) (10 - pickV b (p + 2) 10) * pickV b (p + 4) 2, 0, []⟩, p + 5)
  else if (vctors w t).length = 0 then (anyP, p + 2)
  else (⟨4, nth (vctors w t) (pickV b (p + 2) (vctors w t).length).toNat, 0, 0, 0, (dA (drawP b w d) (argsOf w t (nth (vctors w t) (pickV b (p + 2) (vctors w t).length).toNat)) (p + 3)).1⟩,
   (dA (drawP b w d) (argsOf w t (nth (vctors w t) (pickV b (p + 2) (vctors w t).length).toNat)) (p + 3)).2)
def bdP : Nat → Nat
 | 0 => 0
 | d + 1 => 5 + 3 * bdP d
def Few (w : List Data) : Prop := ∀ t c, c ∈ vctors w t → TyIn w.length t → (argsOf w t c).length ≤ 3 ∧ ∀ u ∈ argsOf w t c, TyIn w.length u
theorem dA_bd {f : Ty → Nat → Pat × Nat} {k : Nat} : ∀ (l : List Ty) (q : Nat), (∀ t ∈ l, ∀ q, (f t q).2 ≤ q + k) → (dA f l q).2 ≤ q + l.length * k
 | [], q, _ => by simp [dA]
 | t :: r, q, h => by
  have h1 := h t (by simp) q
  have h2 := dA_bd r (f t q).2 (fun x hx => h x (by simp [hx]))
  simp only [dA, List.length_cons, Nat.add_mul]; omega
theorem dA_len {f : Ty → Nat → Pat × Nat} : ∀ (l : List Ty) (q : Nat), (dA f l q).1.length = l.length
 | [], q => rfl
 | t :: r, q => by simp only [dA, List.length_cons, dA_len r]
theorem nth_pick {l : List Int} {b : Str} {p : Nat} (h : ¬ l.length = 0) : nth l (pickV b p l.length).toNat ∈ l := by
 have := pickV_bd (b := b) (p := p) (n := (l.length : Int)) (by omega)
 exact nth_mem (by omega)
theorem drawP_bd {b : Str} {w : List Data} (hf : Few w) : ∀ (d : Nat) (t : Ty) (p : Nat), TyIn w.length t → (drawP b w d t p).2 ≤ p + bdP d
 | 0, t, p, _ => by simp [drawP, bdP]
 | d + 1, t, p, ht => by
  have ih := fun t p ht => drawP_bd (b := b) hf d t p ht
  unfold drawP bdP
  split
  ·dsimp only; omega
  ·split
   ·dsimp only; omega
   ·split
    ·dsimp only
     have h1 := ih t (p + 2) ht
     have h2 := ih t (drawP b w d t (p + 2)).2 ht
     omega
    ·split
     ·dsimp only; omega
     ·split
      ·dsimp only; omega
      ·rename_i h5
       dsimp only
       have hm := nth_pick (b := b) (p := p + 2) h5
       have h3 := hf t _ hm ht
       have h1 := dA_bd (f := drawP b w d) (k := bdP d) (argsOf w t (nth (vctors w t) (pickV b (p + 2) (vctors w t).length).toNat)) (p + 3) (fun u hu q => ih u q (h3.2 u hu))
       have h4 : (argsOf w t (nth (vctors w t) (pickV b (p + 2) (vctors w t).length).toNat)).length * bdP d ≤ 3 * bdP d := Nat.mul_le_mul_right _ h3.1
       omega
theorem valid_few {w : List Data} (hs : WSmall w) (hv : worldValid w = true) : Few w := by
 have hw := valid_wt hs hv
 have hW := (worldValid_iff w).1 hv
 rintro ⟨a, k⟩ c hc ht
 obtain ⟨d, rfl, h1, j, rfl, h3⟩ := vctors_data ht hc
 refine ⟨?_, fun u hu => argsOf_in hw h1 ⟨j, rfl, h3⟩ hu⟩
 have hco := hW.ctor _ (nth_mem h1) _ (nth_mem h3)
 simp only [ctorOk, Bool.and_eq_true, decide_eq_true_eq] at hco
 simp only [argsOf, Int.toNat_natCast, List.length_map]
 omega
theorem Pat.cs_cc (l : List Pat) : Pat.cs l = l.map Pat.cc := by
 rw [Pat.cs_eq]; exact List.map_congr_left (fun v _ => Pat.c_eq v)
section
variable {b : Str} {w : List Data} {d p : Nat} {a k : Int}
theorem drawP_1 (h : d = 0) : drawP b w (d + 1) ⟨a, k⟩ p = (anyP, p) := by simp only [drawP]; rw [if_pos h]
theorem drawP_2 (h : ¬ d = 0) (h2 : pickV b p 4 = 0) : drawP b w (d + 1) ⟨a, k⟩ p = (anyP, p + 1) := by simp only [drawP]; rw [if_neg h, if_pos h2]
theorem drawP_3 (h : ¬ d = 0) (h2 : ¬ pickV b p 4 = 0) (h3 : pickV b (p + 1) 6 = 0) : drawP b w (d + 1) ⟨a, k⟩ p =
  (⟨5, 0, 0, 0, 0, [(drawP b w d ⟨a, k⟩ (p + 2)).1, (drawP b w d ⟨a, k⟩ (drawP b w d ⟨a, k⟩ (p + 2)).2).1]⟩, (drawP b w d ⟨a, k⟩ (drawP b w d ⟨a, k⟩ (p + 2)).2).2) := by
 simp only [drawP]; rw [if_neg h, if_neg h2, if_pos h3]
theorem drawP_4 (h : ¬ d = 0) (h2 : ¬ pickV b p 4 = 0) (h3 : ¬ pickV b (p + 1) 6 = 0) (h4 : a = -1) : drawP b w (d + 1) ⟨a, k⟩ p =
  (⟨3, 0, pickV b (p + 2) 10, pickV b (p + 2) 10 + pickV b (p + 3) (10 - pickV b (p + 2) 10) * pickV b (p + 4) 2, 0, []⟩, p + 5) := by
 simp only [drawP]; rw [if_neg h, if_neg h2, if_neg h3, if_pos h4]
theorem drawP_5 (h : ¬ d = 0) (h2 : ¬ pickV b p 4 = 0) (h3 : ¬ pickV b (p + 1) 6 = 0) (h4 : ¬ a = -1) (h5 : (vctors w ⟨a, k⟩).length = 0) : drawP b w (d + 1) ⟨a, k⟩ p = (anyP, p + 2) := by
 simp only [drawP]; rw [if_neg h, if_neg h2, if_neg h3, if_neg h4, if_pos h5]
theorem drawP_6 (h : ¬ d = 0) (h2 : ¬ pickV b p 4 = 0) (h3 : ¬ pickV b (p + 1) 6 = 0) (h4 : ¬ a = -1) (h5 : ¬ (vctors w ⟨a, k⟩).length = 0) {cc : Int} (hc : nth (vctors w ⟨a, k⟩) (pickV b (p + 2) (vctors w ⟨a, k⟩).length).toNat = cc) : drawP b w (d + 1) ⟨a, k⟩ p =
  (⟨4, cc, 0, 0, 0, (dA (drawP b w d) (argsOf w ⟨a, k⟩ cc) (p + 3)).1⟩, (dA (drawP b w d) (argsOf w ⟨a, k⟩ cc) (p + 3)).2) := by
 simp only [drawP]; rw [if_neg h, if_neg h2, if_neg h3, if_neg h4, if_neg h5, hc]
end
theorem spec_l3Draw_fn {b : Str} {w : List Data} (hb : b.length ≤ 2000) (hw : WT w) (hf : Few w) : ∀ (d : Nat) {a k m : Int} {p : Nat}, m = d → d ≤ 4 → 1 ≤ d → p + bdP d ≤ 1000000 → TyIn w.length ⟨a, k⟩ →
  FnD Try.prog 158 [.ref 900 0, .d (encDatas w), .agg [.d (.i a), .d (.i k)], .d (.i m)] [(900, some (rdB b p))]
   (.agg [.d (.i (drawP b w d ⟨a, k⟩ p).1.op), .d (.i (drawP b w d ⟨a, k⟩ p).1.ctor), .d (.i (drawP b w d ⟨a, k⟩ p).1.n), .d (.i (drawP b w d ⟨a, k⟩ p).1.m), .d (.i (drawP b w d ⟨a, k⟩ p).1.var), .d (encPats (drawP b w d ⟨a, k⟩ p).1.kids)]) [(900, some (rdB b (drawP b w d ⟨a, k⟩ p).2))]
 | 0, a, k, m, p, _, _, h1, _, _ => by omega
 | d + 1, a, k, m, p, hm, hd4, _, hp, ht => by
  have hcl := vctors_len hw ht
  have hbd : bdP (d + 1) = 5 + 3 * bdP d := rfl
  have ih := fun (t : Ty) (q : Nat) (ht : TyIn w.length t) => drawP_bd (b := b) hf d t q ht
  have v10 := pickV_bd (b := b) (p := p + 2) (n := 10) (by omega)
  have v11 := pickV_bd (b := b) (p := p + 3) (n := 10 - pickV b (p + 2) 10) (by omega)
  have v12 := pickV_bd (b := b) (p := p + 4) (n := 2) (by omega)
  have v13 : 0 ≤ pickV b (p + 3) (10 - pickV b (p + 2) 10) * pickV b (p + 4) 2 ∧ pickV b (p + 3) (10 - pickV b (p + 2) 10) * pickV b (p + 4) 2 ≤ 10 := by
   have h : pickV b (p + 4) 2 = 0 ∨ pickV b (p + 4) 2 = 1 := by omega
   rcases h with h | h <;> rw [h] <;> omega
  have hvl : ((((vctors w ⟨a, k⟩).map fun n => [D.i n]).length : Nat) : Int) = (vctors w ⟨a, k⟩).length := by simp
  have v14 := fun h => pickV_bd (b := b) (p := p + 2) (n := ((vctors w ⟨a, k⟩).length : Int)) h
  have hmem := fun h => nth_pick (l := vctors w ⟨a, k⟩) (b := b) (p := p + 2) h
  generalize hcc : nth (vctors w ⟨a, k⟩) (pickV b (p + 2) (vctors w ⟨a, k⟩).length).toNat = cc at *
  have hfw := fun h => hf ⟨a, k⟩ cc (hmem h) ht
  have hat : ¬ (vctors w ⟨a, k⟩).length = 0 → ((vctors w ⟨a, k⟩).map fun n => [D.i n])[(pickV b (p + 2) (vctors w ⟨a, k⟩).length).toNat]? = some [D.i cc] := fun h => by
   rw [← hcc]; exact at_nth (by have := v14 (by omega); omega)
  refine bd Try.f158 96 [] [] fun w0 F0 own kept hk => ?_
  refine Walk.box (id := 3006) .none rfl rfl rfl rfl rfl rfl rfl ?_
  refine Walk.alloc (id := 3008) tz58 rfl .none rfl rfl rfl rfl ?_
  refine tv ?_
  refine sq (fun h1 h1p h1s => ?_) fun h1 h1p h1s => ?_
  ·try simp only [Q] at h1p
   refine sqT ?_
   refine Walk.build st58 (ks := [0]) (xs := [_]) rfl rfl .none rfl rfl rfl ?_
   refine Walk.store ty58 .none rfl rfl rfl rfl rfl rfl (by simp) rfl ?_
   refine tv ?_
   refine rn [(900, some (rdB b (drawP b w (d + 1) ⟨a, k⟩ p).2))] (.cons (.cellA ty58 rfl rfl rfl) .nil) (.agg (.cons (.eqd ?_) (.cons (.eqd ?_) (.cons (.eqd ?_) (.cons (.eqd ?_) (.cons (.eqd ?_) (.cons (.nild ?_) .nil))))))) ⟨rfl, rfl⟩ (SubO.get ⟨.inr (by first | (rw [drawP_1 (by omega)]; all_goals rfl) | (rw [drawP_2 (by omega) (by omega)]; all_goals rfl) | (rw [drawP_3 (by omega) (by omega) (by omega)]; all_goals rfl) | (rw [drawP_4 (by omega) (by omega) (by omega) (by omega)]; all_goals rfl) | (rw [drawP_5 (by omega) (by omega) (by omega) (by omega) (by omega)]; all_goals rfl) | (rw [drawP_6 (by omega) (by omega) (by omega) (by omega) (by omega) hcc]; have hfin := hg1.2.2.2; simp only [dA, List.append_nil] at hfin; rw [← hfin]; all_goals rfl)), ⟨.inl rfl, trivial⟩⟩) (boxOK rfl)
   all_goals (first | (rw [drawP_1 (by omega)]; all_goals first | rfl | (show _ = D.sl (Pat.cs _); rw [Pat.cs_cc]; all_goals rfl) | (show _ = Pat.cs _; rw [Pat.cs_cc]; all_goals rfl)) | (rw [drawP_2 (by omega) (by omega)]; all_goals first | rfl | (show _ = D.sl (Pat.cs _); rw [Pat.cs_cc]; all_goals rfl) | (show _ = Pat.cs _; rw [Pat.cs_cc]; all_goals rfl)) | (rw [drawP_3 (by omega) (by omega) (by omega)]; all_goals first | rfl | (show _ = D.sl (Pat.cs _); rw [Pat.cs_cc]; all_goals rfl) | (show _ = Pat.cs _; rw [Pat.cs_cc]; all_goals rfl)) | (rw [drawP_4 (by omega) (by omega) (by omega) (by omega)]; all_goals first | rfl | (show _ = D.sl (Pat.cs _); rw [Pat.cs_cc]; all_goals rfl) | (show _ = Pat.cs _; rw [Pat.cs_cc]; all_goals rfl)) | (rw [drawP_5 (by omega) (by omega) (by omega) (by omega) (by omega)]; all_goals first | rfl | (show _ = D.sl (Pat.cs _); rw [Pat.cs_cc]; all_goals rfl) | (show _ = Pat.cs _; rw [Pat.cs_cc]; all_goals rfl)) | (rw [drawP_6 (by omega) (by omega) (by omega) (by omega) (by omega) hcc]; have hfin := hg1.2.2.2; simp only [dA, List.append_nil] at hfin; rw [← hfin]; all_goals first | rfl | (show _ = D.sl (Pat.cs _); rw [Pat.cs_cc]; all_goals rfl) | (show _ = Pat.cs _; rw [Pat.cs_cc]; all_goals rfl)))
  ·try simp only [Q] at h1p
   refine Walk.call (cr := []) cal102 (spec_pick_fn (p := p) (n := 4) hb (by omega) (by omega)) rfl (.some rfl rfl h1) rfl rfl (LeL.refl _) ⟨rfl, trivial⟩ rfl rfl rfl ?_
   refine evs [] [(16, false)] ?_ ⟨⟨_, rfl, h1⟩, trivial⟩
   refine sq (fun h3 h3p h3s => ?_) fun h3 h3p h3s => ?_
   ·try simp only [Q] at h3p
    refine Walk.build st58 (ks := [0]) (xs := [_]) rfl rfl .none rfl rfl rfl ?_
    refine Walk.store ty58 .none rfl rfl rfl rfl rfl rfl (by simp) rfl ?_
    refine tv ?_
    refine rn [(900, some (rdB b (drawP b w (d + 1) ⟨a, k⟩ p).2))] (.cons (.cellA ty58 rfl rfl rfl) .nil) (.agg (.cons (.eqd ?_) (.cons (.eqd ?_) (.cons (.eqd ?_) (.cons (.eqd ?_) (.cons (.eqd ?_) (.cons (.nild ?_) .nil))))))) ⟨rfl, rfl⟩ (SubO.get ⟨.inr (by first | (rw [drawP_1 (by omega)]; all_goals rfl) | (rw [drawP_2 (by omega) (by omega)]; all_goals rfl) | (rw [drawP_3 (by omega) (by omega) (by omega)]; all_goals rfl) | (rw [drawP_4 (by omega) (by omega) (by omega) (by omega)]; all_goals rfl) | (rw [drawP_5 (by omega) (by omega) (by omega) (by omega) (by omega)]; all_goals rfl) | (rw [drawP_6 (by omega) (by omega) (by omega) (by omega) (by omega) hcc]; have hfin := hg1.2.2.2; simp only [dA, List.append_nil] at hfin; rw [← hfin]; all_goals rfl)), ⟨.inl rfl, trivial⟩⟩) (boxOK rfl)
    all_goals (first | (rw [drawP_1 (by omega)]; all_goals first | rfl | (show _ = D.sl (Pat.cs _); rw [Pat.cs_cc]; all_goals rfl) | (show _ = Pat.cs _; rw [Pat.cs_cc]; all_goals rfl)) | (rw [drawP_2 (by omega) (by omega)]; all_goals first | rfl | (show _ = D.sl (Pat.cs _); rw [Pat.cs_cc]; all_goals rfl) | (show _ = Pat.cs _; rw [Pat.cs_cc]; all_goals rfl)) | (rw [drawP_3 (by omega) (by omega) (by omega)]; all_goals first | rfl | (show _ = D.sl (Pat.cs _); rw [Pat.cs_cc]; all_goals rfl) | (show _ = Pat.cs _; rw [Pat.cs_cc]; all_goals rfl)) | (rw [drawP_4 (by omega) (by omega) (by omega) (by omega)]; all_goals first | rfl | (show _ = D.sl (Pat.cs _); rw [Pat.cs_cc]; all_goals rfl) | (show _ = Pat.cs _; rw [Pat.cs_cc]; all_goals rfl)) | (rw [drawP_5 (by omega) (by omega) (by omega) (by omega) (by omega)]; all_goals first | rfl | (show _ = D.sl (Pat.cs _); rw [Pat.cs_cc]; all_goals rfl) | (show _ = Pat.cs _; rw [Pat.cs_cc]; all_goals rfl)) | (rw [drawP_6 (by omega) (by omega) (by omega) (by omega) (by omega) hcc]; have hfin := hg1.2.2.2; simp only [dA, List.append_nil] at hfin; rw [← hfin]; all_goals first | rfl | (show _ = D.sl (Pat.cs _); rw [Pat.cs_cc]; all_goals rfl) | (show _ = Pat.cs _; rw [Pat.cs_cc]; all_goals rfl)))
   ·try simp only [Q] at h3p
    refine Walk.call (cr := []) cal102 (spec_pick_fn (p := p + 1) (n := 6) hb (by omega) (by omega)) rfl .none rfl rfl (LeL.refl _) ⟨rfl, trivial⟩ rfl rfl rfl ?_
    refine ev ?_
    refine sq (fun h4 h4p h4s => ?_) fun h4 h4p h4s => ?_
    ·try simp only [Q] at h4p
     refine ar ?_
     refine Walk.call (cr := []) cal158 (spec_l3Draw_fn hb hw hf d (p := p + 2) (by omega) (by omega) (by omega) (by omega) ht) rfl .none rfl rfl (LeL.refl _) ⟨rfl, trivial⟩ rfl rfl rfl ?_
     refine evd [] [] ?_
     refine ar ?_
     refine Walk.call (cr := []) cal158 (spec_l3Draw_fn hb hw hf d (p := (drawP b w d ⟨a, k⟩ (p + 2)).2) (by omega) (by omega) (by omega) (by have := ih ⟨a, k⟩ (p + 2) ht; omega) ht) rfl .none rfl rfl (LeL.refl _) ⟨rfl, trivial⟩ rfl rfl rfl ?_
     refine Walk.sliceLit sl56 tz58 rfl (by decide) (ks := [0, 1]) (xs := [_, _]) rfl rfl (by decide) (by decide) .none rfl rfl rfl rfl ?_
     refine Walk.build st58 (ks := [0, 5]) (xs := [_, _]) rfl rfl .none rfl rfl rfl ?_
     refine Walk.store ty58 .none rfl rfl rfl rfl rfl rfl (by simp) rfl ?_
     refine dr ?_
     refine rn [(900, some (rdB b (drawP b w (d + 1) ⟨a, k⟩ p).2))] (.cons (.cellA ty58 rfl rfl rfl) .nil) (.agg (.cons (.eqd ?_) (.cons (.eqd ?_) (.cons (.eqd ?_) (.cons (.eqd ?_) (.cons (.eqd ?_) (.cons (.eqd ?_) .nil))))))) ⟨rfl, rfl⟩ (SubO.get ⟨.inr (by first | (rw [drawP_1 (by omega)]; all_goals rfl) | (rw [drawP_2 (by omega) (by omega)]; all_goals rfl) | (rw [drawP_3 (by omega) (by omega) (by omega)]; all_goals rfl) | (rw [drawP_4 (by omega) (by omega) (by omega) (by omega)]; all_goals rfl) | (rw [drawP_5 (by omega) (by omega) (by omega) (by omega) (by omega)]; all_goals rfl) | (rw [drawP_6 (by omega) (by omega) (by omega) (by omega) (by omega) hcc]; have hfin := hg1.2.2.2; simp only [dA, List.append_nil] at hfin; rw [← hfin]; all_goals rfl)), ⟨.inl rfl, trivial⟩⟩) (boxOK rfl)
     all_goals (first | (rw [drawP_1 (by omega)]; all_goals first | rfl | (show _ = D.sl (Pat.cs _); rw [Pat.cs_cc]; all_goals rfl) | (show _ = Pat.cs _; rw [Pat.cs_cc]; all_goals rfl)) | (rw [drawP_2 (by omega) (by omega)]; all_goals first | rfl | (show _ = D.sl (Pat.cs _); rw [Pat.cs_cc]; all_goals rfl) | (show _ = Pat.cs _; rw [Pat.cs_cc]; all_goals rfl)) | (rw [drawP_3 (by omega) (by omega) (by omega)]; all_goals first | rfl | (show _ = D.sl (Pat.cs _); rw [Pat.cs_cc]; all_goals rfl) | (show _ = Pat.cs _; rw [Pat.cs_cc]; all_goals rfl)) | (rw [drawP_4 (by omega) (by omega) (by omega) (by omega)]; all_goals first | rfl | (show _ = D.sl (Pat.cs _); rw [Pat.cs_cc]; all_goals rfl) | (show _ = Pat.cs _; rw [Pat.cs_cc]; all_goals rfl)) | (rw [drawP_5 (by omega) (by omega) (by omega) (by omega) (by omega)]; all_goals first | rfl | (show _ = D.sl (Pat.cs _); rw [Pat.cs_cc]; all_goals rfl) | (show _ = Pat.cs _; rw [Pat.cs_cc]; all_goals rfl)) | (rw [drawP_6 (by omega) (by omega) (by omega) (by omega) (by omega) hcc]; have hfin := hg1.2.2.2; simp only [dA, List.append_nil] at hfin; rw [← hfin]; all_goals first | rfl | (show _ = D.sl (Pat.cs _); rw [Pat.cs_cc]; all_goals rfl) | (show _ = Pat.cs _; rw [Pat.cs_cc]; all_goals rfl)))
    ·try simp only [Q] at h4p
     refine sq (fun h5 h5p h5s => ?_) fun h5 h5p h5s => ?_
     ·try simp only [Q] at h5p
      refine Walk.call (cr := []) cal102 (spec_pick_fn (p := p + 2) (n := 10) hb (by omega) (by omega)) rfl .none rfl rfl (LeL.refl _) ⟨rfl, trivial⟩ rfl rfl rfl ?_
      refine ev ?_
      refine ar ?_
      refine Walk.call (cr := []) cal102 (spec_pick_fn (p := p + 3) (n := 10 - pickV b (p + 2) 10) hb (by omega) (by omega)) rfl .none rfl rfl (LeL.refl _) ⟨rfl, trivial⟩ rfl rfl rfl ?_
      refine ev ?_
      refine Walk.call (cr := []) cal102 (spec_pick_fn (p := p + 4) (n := 2) hb (by omega) (by omega)) rfl .none rfl rfl (LeL.refl _) ⟨rfl, trivial⟩ rfl rfl rfl ?_
      refine ev ?_
      refine ar ?_
      refine ar ?_
      refine Walk.build st58 (ks := [0, 2, 3]) (xs := [_, _, _]) rfl rfl .none rfl rfl rfl ?_
      refine Walk.store ty58 .none rfl rfl rfl rfl rfl rfl (by simp) rfl ?_
      refine tv ?_
      refine rn [(900, some (rdB b (drawP b w (d + 1) ⟨a, k⟩ p).2))] (.cons (.cellA ty58 rfl rfl rfl) .nil) (.agg (.cons (.eqd ?_) (.cons (.eqd ?_) (.cons (.eqd ?_) (.cons (.eqd ?_) (.cons (.eqd ?_) (.cons (.nild ?_) .nil))))))) ⟨rfl, rfl⟩ (SubO.get ⟨.inr (by first | (rw [drawP_1 (by omega)]; all_goals rfl) | (rw [drawP_2 (by omega) (by omega)]; all_goals rfl) | (rw [drawP_3 (by omega) (by omega) (by omega)]; all_goals rfl) | (rw [drawP_4 (by omega) (by omega) (by omega) (by omega)]; all_goals rfl) | (rw [drawP_5 (by omega) (by omega) (by omega) (by omega) (by omega)]; all_goals rfl) | (rw [drawP_6 (by omega) (by omega) (by omega) (by omega) (by omega) hcc]; have hfin := hg1.2.2.2; simp only [dA, List.append_nil] at hfin; rw [← hfin]; all_goals rfl)), ⟨.inl rfl, trivial⟩⟩) (boxOK rfl)
      all_goals (first | (rw [drawP_1 (by omega)]; all_goals first | rfl | (show _ = D.sl (Pat.cs _); rw [Pat.cs_cc]; all_goals rfl) | (show _ = Pat.cs _; rw [Pat.cs_cc]; all_goals rfl)) | (rw [drawP_2 (by omega) (by omega)]; all_goals first | rfl | (show _ = D.sl (Pat.cs _); rw [Pat.cs_cc]; all_goals rfl) | (show _ = Pat.cs _; rw [Pat.cs_cc]; all_goals rfl)) | (rw [drawP_3 (by omega) (by omega) (by omega)]; all_goals first | rfl | (show _ = D.sl (Pat.cs _); rw [Pat.cs_cc]; all_goals rfl) | (show _ = Pat.cs _; rw [Pat.cs_cc]; all_goals rfl)) | (rw [drawP_4 (by omega) (by omega) (by omega) (by omega)]; all_goals first | rfl | (show _ = D.sl (Pat.cs _); rw [Pat.cs_cc]; all_goals rfl) | (show _ = Pat.cs _; rw [Pat.cs_cc]; all_goals rfl)) | (rw [drawP_5 (by omega) (by omega) (by omega) (by omega) (by omega)]; all_goals first | rfl | (show _ = D.sl (Pat.cs _); rw [Pat.cs_cc]; all_goals rfl) | (show _ = Pat.cs _; rw [Pat.cs_cc]; all_goals rfl)) | (rw [drawP_6 (by omega) (by omega) (by omega) (by omega) (by omega) hcc]; have hfin := hg1.2.2.2; simp only [dA, List.append_nil] at hfin; rw [← hfin]; all_goals first | rfl | (show _ = D.sl (Pat.cs _); rw [Pat.cs_cc]; all_goals rfl) | (show _ = Pat.cs _; rw [Pat.cs_cc]; all_goals rfl)))
     ·try simp only [Q] at h5p
      refine Walk.call (cr := []) cal122 (spec_l1Ctors_v hw ht) rfl .none rfl rfl (LeL.refl _) trivial rfl rfl rfl ?_
      refine ev ?_
      refine sq (fun h6 h6p h6s => ?_) fun h6 h6p h6s => ?_
      ·try simp only [Q] at h6p
       refine Walk.build st58 (ks := [0]) (xs := [_]) rfl rfl .none rfl rfl rfl ?_
       refine Walk.store ty58 .none rfl rfl rfl rfl rfl rfl (by simp) rfl ?_
       refine tv ?_
       refine rn [(900, some (rdB b (drawP b w (d + 1) ⟨a, k⟩ p).2))] (.cons (.cellA ty58 rfl rfl rfl) .nil) (.agg (.cons (.eqd ?_) (.cons (.eqd ?_) (.cons (.eqd ?_) (.cons (.eqd ?_) (.cons (.eqd ?_) (.cons (.nild ?_) .nil))))))) ⟨rfl, rfl⟩ (SubO.get ⟨.inr (by first | (rw [drawP_1 (by omega)]; all_goals rfl) | (rw [drawP_2 (by omega) (by omega)]; all_goals rfl) | (rw [drawP_3 (by omega) (by omega) (by omega)]; all_goals rfl) | (rw [drawP_4 (by omega) (by omega) (by omega) (by omega)]; all_goals rfl) | (rw [drawP_5 (by omega) (by omega) (by omega) (by omega) (by omega)]; all_goals rfl) | (rw [drawP_6 (by omega) (by omega) (by omega) (by omega) (by omega) hcc]; have hfin := hg1.2.2.2; simp only [dA, List.append_nil] at hfin; rw [← hfin]; all_goals rfl)), ⟨.inl rfl, trivial⟩⟩) (boxOK rfl)
       all_goals (first | (rw [drawP_1 (by omega)]; all_goals first | rfl | (show _ = D.sl (Pat.cs _); rw [Pat.cs_cc]; all_goals rfl) | (show _ = Pat.cs _; rw [Pat.cs_cc]; all_goals rfl)) | (rw [drawP_2 (by omega) (by omega)]; all_goals first | rfl | (show _ = D.sl (Pat.cs _); rw [Pat.cs_cc]; all_goals rfl) | (show _ = Pat.cs _; rw [Pat.cs_cc]; all_goals rfl)) | (rw [drawP_3 (by omega) (by omega) (by omega)]; all_goals first | rfl | (show _ = D.sl (Pat.cs _); rw [Pat.cs_cc]; all_goals rfl) | (show _ = Pat.cs _; rw [Pat.cs_cc]; all_goals rfl)) | (rw [drawP_4 (by omega) (by omega) (by omega) (by omega)]; all_goals first | rfl | (show _ = D.sl (Pat.cs _); rw [Pat.cs_cc]; all_goals rfl) | (show _ = Pat.cs _; rw [Pat.cs_cc]; all_goals rfl)) | (rw [drawP_5 (by omega) (by omega) (by omega) (by omega) (by omega)]; all_goals first | rfl | (show _ = D.sl (Pat.cs _); rw [Pat.cs_cc]; all_goals rfl) | (show _ = Pat.cs _; rw [Pat.cs_cc]; all_goals rfl)) | (rw [drawP_6 (by omega) (by omega) (by omega) (by omega) (by omega) hcc]; have hfin := hg1.2.2.2; simp only [dA, List.append_nil] at hfin; rw [← hfin]; all_goals first | rfl | (show _ = D.sl (Pat.cs _); rw [Pat.cs_cc]; all_goals rfl) | (show _ = Pat.cs _; rw [Pat.cs_cc]; all_goals rfl)))
      ·try simp only [Q] at h6p
       refine Walk.call (cr := []) cal102 (spec_pick_fn (p := p + 2) (n := ((((vctors w ⟨a, k⟩).map fun n => [D.i n]).length : Nat) : Int)) hb (by omega) (by omega)) rfl .none rfl rfl (LeL.refl _) ⟨rfl, trivial⟩ rfl rfl rfl ?_
       refine Walk.idx (i := (pickV b (p + 2) (vctors w ⟨a, k⟩).length).toNat) sl66 .none rfl rfl rfl (by rw [hvl]; have := v14 (by omega); omega) (hat (by omega)) rfl ?_
       refine ev ?_
       refine Walk.build st58 (ks := [0, 1]) (xs := [_, _]) rfl rfl .none rfl rfl rfl ?_
       refine Walk.alloc (id := 3011) tz58 rfl .none rfl rfl rfl rfl ?_
       refine Walk.store ty58 .none rfl rfl rfl rfl rfl rfl (by simp) rfl ?_
       refine tv ?_
       refine Walk.call (cr := []) cal133 (spec_l1Args_v hw ht (hmem (by omega))) rfl .none rfl rfl (LeL.refl _) trivial rfl rfl rfl ?_
       refine ev ?_
       refine CWp.tokB 3011 5 1 6 rfl rfl rfl rfl ?_
       refine CWp.loopX (ι := List (Ty) × List (Ty) × (Nat) × (List Pat)) hk (fun x => [(13, .d (.i (x.1.length : Int)))]) [75, 76, 77, 78, 79, 80, 81, 82, 83, 84, 85, 86, 87, 88, 89, 90, 91, 92, 93, 94] (fun x => [(900, some (.box [.d (encBytes b), .d (.i (x.2.2.1 : Int))])), (3011, some (.box [.d (.i 4), .d (.i cc), .d (.i 0), .d (.i 0), .d (.i 0), .gl 1 (x.2.2.2.map Pat.cc)])), (1, some (.tok (x.2.2.2.map Pat.cc).length 6))]) (fun x => x.1 ++ x.2.1 = argsOf w ⟨a, k⟩ cc ∧ x.2.2.1 ≤ p + 3 + x.1.length * bdP d ∧ x.2.2.2.length = x.1.length ∧ (x.2.2.2 ++ (dA (drawP b w d) x.2.1 x.2.2.1).1, (dA (drawP b w d) x.2.1 x.2.2.1).2) = dA (drawP b w d) (argsOf w ⟨a, k⟩ cc) (p + 3)) (fun x => x.2.1.length) ([], argsOf w ⟨a, k⟩ cc, p + 3, []) ⟨by simp, by simp, by simp, by simp⟩ ⟨⟨_, rfl, (LeA.eqi (by first | rfl | (simp; done) | omega))⟩, trivial⟩ ⟨(by first | rfl | (simp [getH]; done)), ⟨(by first | rfl | (simp [getH]; done)), ⟨beq_nat_eq (by first | rfl | (simp; done) | (simp; omega) | (first | rfl | (simp; done) | omega)), trivial⟩⟩⟩ (fun x => rfl) (fun x hg1 => ?_)
       obtain ⟨pre, rest, q, ks⟩ := x
       dsimp only at hg1 ⊢
       refine evc [] [] ?_
       refine sq (fun h7 h7p h7s => ?_) fun h7 h7p h7s => ?_
       ·try simp only [Q] at h7p
        rcases rest with _ | ⟨y, rest⟩
        ·exfalso; simp_all
        have hpm : pre.length * bdP d ≤ 2 * bdP d := Nat.mul_le_mul_right _ (by have := (hfw (by omega)).1; omega)
        refine Walk.idx sl25 .none rfl rfl rfl rfl (zip_at hg1.1) rfl ?_
        refine evd [] [] ?_
        refine ar ?_
        refine Walk.call (cr := []) cal158 (spec_l3Draw_fn hb hw hf d (a := y.data) (k := y.index) (p := q) (by omega) (by omega) (by omega) (by omega) ((hfw (by omega)).2 y (by rw [← hg1.1]; simp))) rfl .none rfl rfl (LeL.refl _) ⟨rfl, trivial⟩ rfl rfl rfl ?_
        refine Walk.sliceLit sl56 tz58 rfl (by decide) (ks := [0]) (xs := [_]) rfl rfl (by decide) (by decide) .none rfl rfl rfl rfl ?_
        refine Walk.append sl56 zz58 rfl .none rfl rfl rfl rfl (htokL rfl (by first | rfl | (simp; done) | (simp; omega))) (by simp) (by have hz := congrArg List.length hg1.1; have := (hfw (by omega)).1; simp at hz ⊢; omega) (by have hz := congrArg List.length hg1.1; have := (hfw (by omega)).1; simp at hz ⊢; omega) ?_
        refine evd [] [] ?_
        refine Walk.store ty56 .none rfl rfl rfl rfl rfl rfl (by simp) rfl ?_
        refine dr ?_
        refine ar ?_
        refine Exists.intro ((pre ++ [y], rest, (drawP b w d y q).2, ks ++ [(drawP b w d y q).1])) ⟨⟨(by have hz := hg1.1; rw [← hz]; simp), ⟨(by have := ih y q ((hfw (by omega)).2 y (by rw [← hg1.1]; simp)); simp only [List.length_append, List.length_cons, List.length_nil, Nat.add_mul]; omega), (by simp [hg1.2.2.1]), (by rw [← hg1.2.2.2]; simp [dA])⟩⟩, (by simp), Sub.x (by kernel_rfl) (by kernel_rfl) ⟨⟨_, rfl, (LeA.eqi (by first | rfl | (simp; done) | omega))⟩, trivial⟩ (by kernel_rfl) (by kernel_rfl) ⟨(by first | rfl | (simp [getH]; done)), ⟨(by first | rfl | (simp [getH]; done)), ⟨beq_nat_eq (by first | rfl | (simp; done) | (simp; omega) | (first | rfl | (simp; done) | omega)), trivial⟩⟩⟩⟩
       ·try simp only [Q] at h7p
        have hrest : rest = [] := by
         rcases rest with _ | ⟨a, b⟩
         ·rfl
         ·exfalso; have hz := congrArg List.length (hg1.1); simp only [List.length_append, List.length_cons, List.length_map] at hz; omega
        subst hrest
        refine Walk.store ty58 .none rfl rfl rfl rfl rfl rfl (by simp) rfl ?_
        refine tv ?_
        refine rn [(900, some (rdB b (drawP b w (d + 1) ⟨a, k⟩ p).2))] (.cons (.cellA ty58 rfl rfl rfl) .nil) (.agg (.cons (.eqd ?_) (.cons (.eqd ?_) (.cons (.eqd ?_) (.cons (.eqd ?_) (.cons (.eqd ?_) (.cons (.gld ?_) .nil))))))) ⟨rfl, rfl⟩ (SubO.get ⟨.inr (by first | (rw [drawP_1 (by omega)]; all_goals rfl) | (rw [drawP_2 (by omega) (by omega)]; all_goals rfl) | (rw [drawP_3 (by omega) (by omega) (by omega)]; all_goals rfl) | (rw [drawP_4 (by omega) (by omega) (by omega) (by omega)]; all_goals rfl) | (rw [drawP_5 (by omega) (by omega) (by omega) (by omega) (by omega)]; all_goals rfl) | (rw [drawP_6 (by omega) (by omega) (by omega) (by omega) (by omega) hcc]; have hfin := hg1.2.2.2; simp only [dA, List.append_nil] at hfin; rw [← hfin]; all_goals rfl)), ⟨.inl rfl, trivial⟩⟩) (boxOK rfl)
        all_goals (first | (rw [drawP_1 (by omega)]; all_goals first | rfl | (show _ = D.sl (Pat.cs _); rw [Pat.cs_cc]; all_goals rfl) | (show _ = Pat.cs _; rw [Pat.cs_cc]; all_goals rfl)) | (rw [drawP_2 (by omega) (by omega)]; all_goals first | rfl | (show _ = D.sl (Pat.cs _); rw [Pat.cs_cc]; all_goals rfl) | (show _ = Pat.cs _; rw [Pat.cs_cc]; all_goals rfl)) | (rw [drawP_3 (by omega) (by omega) (by omega)]; all_goals first | rfl | (show _ = D.sl (Pat.cs _); rw [Pat.cs_cc]; all_goals rfl) | (show _ = Pat.cs _; rw [Pat.cs_cc]; all_goals rfl)) | (rw [drawP_4 (by omega) (by omega) (by omega) (by omega)]; all_goals first | rfl | (show _ = D.sl (Pat.cs _); rw [Pat.cs_cc]; all_goals rfl) | (show _ = Pat.cs _; rw [Pat.cs_cc]; all_goals rfl)) | (rw [drawP_5 (by omega) (by omega) (by omega) (by omega) (by omega)]; all_goals first | rfl | (show _ = D.sl (Pat.cs _); rw [Pat.cs_cc]; all_goals rfl) | (show _ = Pat.cs _; rw [Pat.cs_cc]; all_goals rfl)) | (rw [drawP_6 (by omega) (by omega) (by omega) (by omega) (by omega) hcc]; have hfin := hg1.2.2.2; simp only [dA, List.append_nil] at hfin; rw [← hfin]; all_goals first | rfl | (show _ = D.sl (Pat.cs _); rw [Pat.cs_cc]; all_goals rfl) | (show _ = Pat.cs _; rw [Pat.cs_cc]; all_goals rfl)))
theorem impl_newSpaces_fn {w : List Data} (hd : Dp w) : FnD Try.prog 78 [.d (encDatas w)] [] (.d (sPtr w (depthT w))) [] := by
 refine bd Try.f78 8 [] [999999] fun w0 F0 own kept hk => ?_
 refine Walk.call (cr := []) cal125 (impl_depthsOf_fn hd) rfl .none rfl rfl (LeL.refl _) trivial rfl rfl rfl ?_
 refine Walk.build st145 (ks := [0, 1]) (xs := [_, _]) rfl rfl .none rfl rfl rfl ?_
 refine Walk.box (id := 3007) .none rfl rfl rfl rfl rfl rfl rfl ?_
 refine ev ?_
 refine CWp.frzB hk 2 3007 0 rfl rfl rfl rfl ?_
 refine CWp.ret ?_
 refine rn0 (r1 rfl) (.refl _)
 all_goals (first | rfl | (simp []; done) | (simp_all; done) | (simp_all; omega) | omega)
theorem impl_matches_fn {w : List Data} (hd : Dp w) {f : Nat → Nat} : ∀ (n : Nat) {a k k' : Int} {p : Pat}, shapeP w n ⟨a, k'⟩ p = true → InS (w.length * 4) ⟨a, k⟩ → p.ok →
  FnD Try.prog 79 [.d (sPtr w f), .agg [.d (.i a), .d (.i k)], .agg [.d (.i p.op), .d (.i p.ctor), .d (.i p.n), .d (.i p.m), .d (.i p.var), .d (encPats p.kids)]] [] (.d (.bool (someP w f n ⟨a, k⟩ p))) []
 | 0, a, k, k', p, h, _, _ => by simp [shapeP] at h
 | n + 1, a, k, k', p, h, hi, hok => by
  rw [Pat.ok_iff] at hok
  have hw := hd.wt
  have hw4 := hd.four
  have ht := ins_tyin hi
  have pk := pkids (k := k) h
  have hcl := vctors_len hw ht
  have hops := pk.ops
  have hal := fun hm => args_ins hd hi (c := p.ctor) hm
  have hasm := fun hm => argsOf_small hw ht (c := p.ctor) hm
  have l5 := pk.len5
  have l6 := pk.len6
  have l4 := pk.len4
  refine bd Try.f79 84 [] [] fun w0 F0 own kept hk => ?_
  refine Walk.box (id := 3004) .none rfl rfl rfl rfl rfl rfl rfl ?_
  refine Walk.box (id := 3005) .none rfl rfl rfl rfl rfl rfl rfl ?_
  refine ev ?_
  refine sq (fun h1 h1p h1s => ?_) fun h1 h1p h1s => ?_
  ·try simp only [Q, Pat.cs_len, Bool.not_eq_true', Bool.not_eq_false', decide_eq_false_iff_not] at h1p
   refine sq (fun h2 h2p h2s => ?_) fun h2 h2p h2s => ?_
   ·try simp only [Q, Pat.cs_len, Bool.not_eq_true', Bool.not_eq_false', decide_eq_false_iff_not] at h2p
    refine Walk.call (cr := []) cal126 (impl_of_fn (n := w.length * 4) (f := f) hi (by omega)) rfl .none rfl rfl (LeL.refl _) trivial rfl rfl rfl ?_
    refine evd [] [] ?_
    refine dr ?_
    refine rn0 (r1 rfl) (.eqd ?_)
    all_goals (refine congrArg D.bool ?_; rw [someP_succ]; first | (rw [if_pos (by omega), dec_pos]; done) | (rw [if_neg (by omega), if_pos (by omega)]; done) | (rw [if_neg (by omega), if_neg (by omega), if_pos (by omega)]; first | rfl | (simp_all; done)) | (rw [if_neg (by omega), if_neg (by omega), if_neg (by omega), if_pos (by omega)]; done) | (rw [if_neg (by omega), if_neg (by omega), if_neg (by omega), if_neg (by omega)]; first | (rw [all2_nth_false (i := i) (by omega) (by omega) (by assumption), Bool.and_false]; done) | (rw [all2_nth_true (by omega) (fun x hx => hg1.2 x (by omega))]; simp_all; done) | (rw [decide_eq_false (by simp_all)]; rfl)))
   ·try simp only [Q, Pat.cs_len, Bool.not_eq_true', Bool.not_eq_false', decide_eq_false_iff_not] at h2p
    refine sq (fun h3 h3p h3s => ?_) fun h3 h3p h3s => ?_
    ·try simp only [Q, Pat.cs_len, Bool.not_eq_true', Bool.not_eq_false', decide_eq_false_iff_not] at h3p
     refine rn0 (r1 rfl) (.eqd ?_)
     all_goals (refine congrArg D.bool ?_; rw [someP_succ]; first | (rw [if_pos (by omega), dec_pos]; done) | (rw [if_neg (by omega), if_pos (by omega)]; done) | (rw [if_neg (by omega), if_neg (by omega), if_pos (by omega)]; first | rfl | (simp_all; done)) | (rw [if_neg (by omega), if_neg (by omega), if_neg (by omega), if_pos (by omega)]; done) | (rw [if_neg (by omega), if_neg (by omega), if_neg (by omega), if_neg (by omega)]; first | (rw [all2_nth_false (i := i) (by omega) (by omega) (by assumption), Bool.and_false]; done) | (rw [all2_nth_true (by omega) (fun x hx => hg1.2 x (by omega))]; simp_all; done) | (rw [decide_eq_false (by simp_all)]; rfl)))
    ·try simp only [Q, Pat.cs_len, Bool.not_eq_true', Bool.not_eq_false', decide_eq_false_iff_not] at h3p
     refine sq (fun h4 h4p h4s => ?_) fun h4 h4p h4s => ?_
     ·try simp only [Q, Pat.cs_len, Bool.not_eq_true', Bool.not_eq_false', decide_eq_false_iff_not] at h4p
      refine Walk.idx (i := 0) sl56 .none rfl rfl rfl rfl (pats_at (by omega)) rfl ?_
      refine evd [] [] ?_
      refine Walk.call (cr := []) cal79 (impl_matches_fn hd n (k' := k') (pk.one (by omega)) hi (Pats.ok_mem hok.2 _ (nth_mem (i := 0) (by omega)))) rfl .none rfl rfl (LeL.refl _) trivial rfl rfl rfl ?_
      refine evd [] [] ?_
      refine dr ?_
      refine rn0 (r1 rfl) (.eqd ?_)
      all_goals (refine congrArg D.bool ?_; rw [someP_succ]; first | (rw [if_pos (by omega), dec_pos]; done) | (rw [if_neg (by omega), if_pos (by omega)]; done) | (rw [if_neg (by omega), if_neg (by omega), if_pos (by omega)]; first | rfl | (simp_all; done)) | (rw [if_neg (by omega), if_neg (by omega), if_neg (by omega), if_pos (by omega)]; done) | (rw [if_neg (by omega), if_neg (by omega), if_neg (by omega), if_neg (by omega)]; first | (rw [all2_nth_false (i := i) (by omega) (by omega) (by assumption), Bool.and_false]; done) | (rw [all2_nth_true (by omega) (fun x hx => hg1.2 x (by omega))]; simp_all; done) | (rw [decide_eq_false (by simp_all)]; rfl)))
     ·try simp only [Q, Pat.cs_len, Bool.not_eq_true', Bool.not_eq_false', decide_eq_false_iff_not] at h4p
      refine sq (fun h5 h5p h5s => ?_) fun h5 h5p h5s => ?_
      ·try simp only [Q, Pat.cs_len, Bool.not_eq_true', Bool.not_eq_false', decide_eq_false_iff_not] at h5p
       refine Walk.idx (i := 0) sl56 .none rfl rfl rfl rfl (pats_at (by omega)) rfl ?_
       refine evd [] [] ?_
       refine Walk.call (cr := []) cal79 (impl_matches_fn hd n (k' := k') (pk.one (by omega)) hi (Pats.ok_mem hok.2 _ (nth_mem (i := 0) (by omega)))) rfl .none rfl rfl (LeL.refl _) trivial rfl rfl rfl ?_
       refine evd [] [] ?_
       refine sq (fun h6 h6p h6s => ?_) fun h6 h6p h6s => ?_
       ·try simp only [Q, Pat.cs_len, Bool.not_eq_true', Bool.not_eq_false', decide_eq_false_iff_not] at h6p
        refine dr ?_
        refine rn0 (r1 rfl) (.eqd ?_)
        all_goals (refine congrArg D.bool ?_; rw [someP_succ]; first | (rw [if_pos (by omega), dec_pos]; done) | (rw [if_neg (by omega), if_pos (by omega)]; done) | (rw [if_neg (by omega), if_neg (by omega), if_pos (by omega)]; first | rfl | (simp_all; done)) | (rw [if_neg (by omega), if_neg (by omega), if_neg (by omega), if_pos (by omega)]; done) | (rw [if_neg (by omega), if_neg (by omega), if_neg (by omega), if_neg (by omega)]; first | (rw [all2_nth_false (i := i) (by omega) (by omega) (by assumption), Bool.and_false]; done) | (rw [all2_nth_true (by omega) (fun x hx => hg1.2 x (by omega))]; simp_all; done) | (rw [decide_eq_false (by simp_all)]; rfl)))
       ·try simp only [Q, Pat.cs_len, Bool.not_eq_true', Bool.not_eq_false', decide_eq_false_iff_not] at h6p
        refine Walk.idx (i := 1) sl56 (.some rfl rfl h6) rfl rfl rfl rfl (pats_at (by omega)) rfl ?_
        refine evd [] [(41, false)] ?_ ⟨⟨_, rfl, h6⟩, trivial⟩
        refine Walk.call (cr := []) cal79 (impl_matches_fn hd n (k' := k') (pk.two (by omega)) hi (Pats.ok_mem hok.2 _ (nth_mem (i := 1) (by omega)))) rfl (.some rfl rfl h6) rfl rfl (LeL.refl _) trivial rfl rfl rfl ?_
        refine evd [] [(41, false)] ?_ ⟨⟨_, rfl, h6⟩, trivial⟩
        refine dr ?_
        refine rn0 (r1 rfl) (.eqd ?_)
        all_goals (refine congrArg D.bool ?_; rw [someP_succ]; first | (rw [if_pos (by omega), dec_pos]; done) | (rw [if_neg (by omega), if_pos (by omega)]; done) | (rw [if_neg (by omega), if_neg (by omega), if_pos (by omega)]; first | rfl | (simp_all; done)) | (rw [if_neg (by omega), if_neg (by omega), if_neg (by omega), if_pos (by omega)]; done) | (rw [if_neg (by omega), if_neg (by omega), if_neg (by omega), if_neg (by omega)]; first | (rw [all2_nth_false (i := i) (by omega) (by omega) (by assumption), Bool.and_false]; done) | (rw [all2_nth_true (by omega) (fun x hx => hg1.2 x (by omega))]; simp_all; done) | (rw [decide_eq_false (by simp_all)]; rfl)))
      ·try simp only [Q, Pat.cs_len, Bool.not_eq_true', Bool.not_eq_false', decide_eq_false_iff_not] at h5p
       refine Walk.call (cr := []) cal128 (impl_ctorsOf_v hw ht) rfl .none rfl rfl (LeL.refl _) trivial rfl rfl rfl ?_
       refine evd [] [] ?_
       refine Walk.call (cr := []) cal127 (slices_Contains_int_fn hcl) rfl .none rfl rfl (LeL.refl _) trivial rfl rfl rfl ?_
       refine evd [] [] ?_
       refine dr ?_
       refine sq (fun h7 h7p h7s => ?_) fun h7 h7p h7s => ?_
       ·try simp only [Q, Pat.cs_len, Bool.not_eq_true', Bool.not_eq_false', decide_eq_false_iff_not] at h7p
        refine rn0 (r1 rfl) (.eqd ?_)
        all_goals (refine congrArg D.bool ?_; rw [someP_succ]; first | (rw [if_pos (by omega), dec_pos]; done) | (rw [if_neg (by omega), if_pos (by omega)]; done) | (rw [if_neg (by omega), if_neg (by omega), if_pos (by omega)]; first | rfl | (simp_all; done)) | (rw [if_neg (by omega), if_neg (by omega), if_neg (by omega), if_pos (by omega)]; done) | (rw [if_neg (by omega), if_neg (by omega), if_neg (by omega), if_neg (by omega)]; first | (rw [all2_nth_false (i := i) (by omega) (by omega) (by assumption), Bool.and_false]; done) | (rw [all2_nth_true (by omega) (fun x hx => hg1.2 x (by omega))]; simp_all; done) | (rw [decide_eq_false (by simp_all)]; rfl)))
       ·try simp only [Q, Pat.cs_len, Bool.not_eq_true', Bool.not_eq_false', decide_eq_false_iff_not] at h7p
        refine Walk.call (cr := []) cal129 (impl_argTypes_v hw ht (by simp_all)) rfl .none rfl rfl (LeL.refl _) trivial rfl rfl rfl ?_
        refine evd [] [] ?_
        refine dr ?_
        refine CWp.loopX (ι := Nat) hk (fun i => [(69, .d (.i (i : Int)))]) [6, 7, 8, 70, 71, 72, 73, 74, 75, 76, 77, 78, 79, 80, 81, 82, 83] (fun i => []) (fun i => i ≤ (argsOf w ⟨a, k⟩ p.ctor).length ∧ ∀ i', i' < i → someP w f n (nth (argsOf w ⟨a, k⟩ p.ctor) i') (nth p.kids i') = true) (fun i => (argsOf w ⟨a, k⟩ p.ctor).length - i) 0 ⟨by omega, fun _ h => absurd h (by omega)⟩ ⟨⟨_, rfl, (LeA.eqi (by first | rfl | (simp; done) | (simp_all; done) | omega))⟩, trivial⟩ trivial (fun x => rfl) (fun i hg1 => ?_)
        refine evc [] [] ?_
        refine sq (fun h8 h8p h8s => ?_) fun h8 h8p h8s => ?_
        ·try simp only [Q, Pat.cs_len, Bool.not_eq_true', Bool.not_eq_false', decide_eq_false_iff_not] at h8p
         refine Walk.idx sl25 .none rfl rfl rfl rfl (at_nth (by omega)) rfl ?_
         refine ev ?_
         refine Walk.alloc (id := 3008) tz31 rfl .none rfl rfl rfl rfl ?_
         refine ev ?_
         refine Walk.store ty31 .none rfl rfl rfl rfl rfl rfl (by simp) rfl ?_
         refine tv ?_
         refine Walk.idx sl56 .none rfl rfl rfl rfl (pats_at (by omega)) rfl ?_
         refine evd [] [] ?_
         refine Walk.call (cr := []) cal79 (impl_matches_fn hd n (pk.arg (by omega) i (by omega)) (hal (by assumption) _ (nth_mem (by omega))) (Pats.ok_mem hok.2 _ (nth_mem (by omega)))) rfl .none rfl rfl (LeL.refl _) trivial rfl rfl rfl ?_
         refine evd [] [] ?_
         refine dr ?_
         refine sq (fun h9 h9p h9s => ?_) fun h9 h9p h9s => ?_
         ·try simp only [Q, Pat.cs_len, Bool.not_eq_true', Bool.not_eq_false', decide_eq_false_iff_not] at h9p
          refine rn0 (r1 rfl) (.eqd ?_)
          all_goals (refine congrArg D.bool ?_; rw [someP_succ]; first | (rw [if_pos (by omega), dec_pos]; done) | (rw [if_neg (by omega), if_pos (by omega)]; done) | (rw [if_neg (by omega), if_neg (by omega), if_pos (by omega)]; first | rfl | (simp_all; done)) | (rw [if_neg (by omega), if_neg (by omega), if_neg (by omega), if_pos (by omega)]; done) | (rw [if_neg (by omega), if_neg (by omega), if_neg (by omega), if_neg (by omega)]; first | (rw [all2_nth_false (i := i) (by omega) (by omega) (by assumption), Bool.and_false]; done) | (rw [all2_nth_true (by omega) (fun x hx => hg1.2 x (by omega))]; simp_all; done) | (rw [decide_eq_false (by simp_all)]; rfl)))
         ·try simp only [Q, Pat.cs_len, Bool.not_eq_true', Bool.not_eq_false', decide_eq_false_iff_not] at h9p
          refine ar ?_
          refine Exists.intro (i + 1) ⟨⟨by omega, upto_succ hg1.2 (by assumption)⟩, (by omega), Sub.x (by kernel_rfl) (by kernel_rfl) ⟨⟨_, rfl, (LeA.eqi (by first | rfl | (simp; done) | (simp_all; done) | omega))⟩, trivial⟩ (by kernel_rfl) (by kernel_rfl) trivial⟩
        ·try simp only [Q, Pat.cs_len, Bool.not_eq_true', Bool.not_eq_false', decide_eq_false_iff_not] at h8p
         refine rn0 (r1 rfl) (.eqd ?_)
         all_goals (refine congrArg D.bool ?_; rw [someP_succ]; first | (rw [if_pos (by omega), dec_pos]; done) | (rw [if_neg (by omega), if_pos (by omega)]; done) | (rw [if_neg (by omega), if_neg (by omega), if_pos (by omega)]; first | rfl | (simp_all; done)) | (rw [if_neg (by omega), if_neg (by omega), if_neg (by omega), if_pos (by omega)]; done) | (rw [if_neg (by omega), if_neg (by omega), if_neg (by omega), if_neg (by omega)]; first | (rw [all2_nth_false (i := i) (by omega) (by omega) (by assumption), Bool.and_false]; done) | (rw [all2_nth_true (by omega) (fun x hx => hg1.2 x (by omega))]; simp_all; done) | (rw [decide_eq_false (by simp_all)]; rfl)))
  ·try simp only [Q, Pat.cs_len, Bool.not_eq_true', Bool.not_eq_false', decide_eq_false_iff_not] at h1p
   refine sq (fun h10 h10p h10s => ?_) fun h10 h10p h10s => ?_
   ·try simp only [Q, Pat.cs_len, Bool.not_eq_true', Bool.not_eq_false', decide_eq_false_iff_not] at h10p
    refine Walk.call (cr := []) cal126 (impl_of_fn (n := w.length * 4) (f := f) hi (by omega)) rfl .none rfl rfl (LeL.refl _) trivial rfl rfl rfl ?_
    refine evd [] [] ?_
    refine dr ?_
    refine rn0 (r1 rfl) (.eqd ?_)
    all_goals (refine congrArg D.bool ?_; rw [someP_succ]; first | (rw [if_pos (by omega), dec_pos]; done) | (rw [if_neg (by omega), if_pos (by omega)]; done) | (rw [if_neg (by omega), if_neg (by omega), if_pos (by omega)]; first | rfl | (simp_all; done)) | (rw [if_neg (by omega), if_neg (by omega), if_neg (by omega), if_pos (by omega)]; done) | (rw [if_neg (by omega), if_neg (by omega), if_neg (by omega), if_neg (by omega)]; first | (rw [all2_nth_false (i := i) (by omega) (by omega) (by assumption), Bool.and_false]; done) | (rw [all2_nth_true (by omega) (fun x hx => hg1.2 x (by omega))]; simp_all; done) | (rw [decide_eq_false (by simp_all)]; rfl)))
   ·try simp only [Q, Pat.cs_len, Bool.not_eq_true', Bool.not_eq_false', decide_eq_false_iff_not] at h10p
    refine sq (fun h11 h11p h11s => ?_) fun h11 h11p h11s => ?_
    ·try simp only [Q, Pat.cs_len, Bool.not_eq_true', Bool.not_eq_false', decide_eq_false_iff_not] at h11p
     refine rn0 (r1 rfl) (.eqd ?_)
     all_goals (refine congrArg D.bool ?_; rw [someP_succ]; first | (rw [if_pos (by omega), dec_pos]; done) | (rw [if_neg (by omega), if_pos (by omega)]; done) | (rw [if_neg (by omega), if_neg (by omega), if_pos (by omega)]; first | rfl | (simp_all; done)) | (rw [if_neg (by omega), if_neg (by omega), if_neg (by omega), if_pos (by omega)]; done) | (rw [if_neg (by omega), if_neg (by omega), if_neg (by omega), if_neg (by omega)]; first | (rw [all2_nth_false (i := i) (by omega) (by omega) (by assumption), Bool.and_false]; done) | (rw [all2_nth_true (by omega) (fun x hx => hg1.2 x (by omega))]; simp_all; done) | (rw [decide_eq_false (by simp_all)]; rfl)))
    ·try simp only [Q, Pat.cs_len, Bool.not_eq_true', Bool.not_eq_false', decide_eq_false_iff_not] at h11p
     refine sq (fun h12 h12p h12s => ?_) fun h12 h12p h12s => ?_
     ·try simp only [Q, Pat.cs_len, Bool.not_eq_true', Bool.not_eq_false', decide_eq_false_iff_not] at h12p
      refine Walk.idx (i := 0) sl56 .none rfl rfl rfl rfl (pats_at (by omega)) rfl ?_
      refine evd [] [] ?_
      refine Walk.call (cr := []) cal79 (impl_matches_fn hd n (k' := k') (pk.one (by omega)) hi (Pats.ok_mem hok.2 _ (nth_mem (i := 0) (by omega)))) rfl .none rfl rfl (LeL.refl _) trivial rfl rfl rfl ?_
      refine evd [] [] ?_
      refine dr ?_
      refine rn0 (r1 rfl) (.eqd ?_)
      all_goals (refine congrArg D.bool ?_; rw [someP_succ]; first | (rw [if_pos (by omega), dec_pos]; done) | (rw [if_neg (by omega), if_pos (by omega)]; done) | (rw [if_neg (by omega), if_neg (by omega), if_pos (by omega)]; first | rfl | (simp_all; done)) | (rw [if_neg (by omega), if_neg (by omega), if_neg (by omega), if_pos (by omega)]; done) | (rw [if_neg (by omega), if_neg (by omega), if_neg (by omega), if_neg (by omega)]; first | (rw [all2_nth_false (i := i) (by omega) (by omega) (by assumption), Bool.and_false]; done) | (rw [all2_nth_true (by omega) (fun x hx => hg1.2 x (by omega))]; simp_all; done) | (rw [decide_eq_false (by simp_all)]; rfl)))
     ·try simp only [Q, Pat.cs_len, Bool.not_eq_true', Bool.not_eq_false', decide_eq_false_iff_not] at h12p
      refine sq (fun h13 h13p h13s => ?_) fun h13 h13p h13s => ?_
      ·try simp only [Q, Pat.cs_len, Bool.not_eq_true', Bool.not_eq_false', decide_eq_false_iff_not] at h13p
       refine Walk.idx (i := 0) sl56 .none rfl rfl rfl rfl (pats_at (by omega)) rfl ?_
       refine evd [] [] ?_
       refine Walk.call (cr := []) cal79 (impl_matches_fn hd n (k' := k') (pk.one (by omega)) hi (Pats.ok_mem hok.2 _ (nth_mem (i := 0) (by omega)))) rfl .none rfl rfl (LeL.refl _) trivial rfl rfl rfl ?_
       refine evd [] [] ?_
       refine sq (fun h14 h14p h14s => ?_) fun h14 h14p h14s => ?_
       ·try simp only [Q, Pat.cs_len, Bool.not_eq_true', Bool.not_eq_false', decide_eq_false_iff_not] at h14p
        refine dr ?_
        refine rn0 (r1 rfl) (.eqd ?_)
        all_goals (refine congrArg D.bool ?_; rw [someP_succ]; first | (rw [if_pos (by omega), dec_pos]; done) | (rw [if_neg (by omega), if_pos (by omega)]; done) | (rw [if_neg (by omega), if_neg (by omega), if_pos (by omega)]; first | rfl | (simp_all; done)) | (rw [if_neg (by omega), if_neg (by omega), if_neg (by omega), if_pos (by omega)]; done) | (rw [if_neg (by omega), if_neg (by omega), if_neg (by omega), if_neg (by omega)]; first | (rw [all2_nth_false (i := i) (by omega) (by omega) (by assumption), Bool.and_false]; done) | (rw [all2_nth_true (by omega) (fun x hx => hg1.2 x (by omega))]; simp_all; done) | (rw [decide_eq_false (by simp_all)]; rfl)))
       ·try simp only [Q, Pat.cs_len, Bool.not_eq_true', Bool.not_eq_false', decide_eq_false_iff_not] at h14p
        refine Walk.idx (i := 1) sl56 (.some rfl rfl h14) rfl rfl rfl rfl (pats_at (by omega)) rfl ?_
        refine evd [] [(41, false)] ?_ ⟨⟨_, rfl, h14⟩, trivial⟩
        refine Walk.call (cr := []) cal79 (impl_matches_fn hd n (k' := k') (pk.two (by omega)) hi (Pats.ok_mem hok.2 _ (nth_mem (i := 1) (by omega)))) rfl (.some rfl rfl h14) rfl rfl (LeL.refl _) trivial rfl rfl rfl ?_
        refine evd [] [(41, false)] ?_ ⟨⟨_, rfl, h14⟩, trivial⟩
        refine dr ?_
        refine rn0 (r1 rfl) (.eqd ?_)
        all_goals (refine congrArg D.bool ?_; rw [someP_succ]; first | (rw [if_pos (by omega), dec_pos]; done) | (rw [if_neg (by omega), if_pos (by omega)]; done) | (rw [if_neg (by omega), if_neg (by omega), if_pos (by omega)]; first | rfl | (simp_all; done)) | (rw [if_neg (by omega), if_neg (by omega), if_neg (by omega), if_pos (by omega)]; done) | (rw [if_neg (by omega), if_neg (by omega), if_neg (by omega), if_neg (by omega)]; first | (rw [all2_nth_false (i := i) (by omega) (by omega) (by assumption), Bool.and_false]; done) | (rw [all2_nth_true (by omega) (fun x hx => hg1.2 x (by omega))]; simp_all; done) | (rw [decide_eq_false (by simp_all)]; rfl)))
      ·try simp only [Q, Pat.cs_len, Bool.not_eq_true', Bool.not_eq_false', decide_eq_false_iff_not] at h13p
       refine Walk.call (cr := []) cal128 (impl_ctorsOf_v hw ht) rfl .none rfl rfl (LeL.refl _) trivial rfl rfl rfl ?_
       refine evd [] [] ?_
       refine Walk.call (cr := []) cal127 (slices_Contains_int_fn hcl) rfl .none rfl rfl (LeL.refl _) trivial rfl rfl rfl ?_
       refine evd [] [] ?_
       refine dr ?_
       refine sq (fun h15 h15p h15s => ?_) fun h15 h15p h15s => ?_
       ·try simp only [Q, Pat.cs_len, Bool.not_eq_true', Bool.not_eq_false', decide_eq_false_iff_not] at h15p
        refine rn0 (r1 rfl) (.eqd ?_)
        all_goals (refine congrArg D.bool ?_; rw [someP_succ]; first | (rw [if_pos (by omega), dec_pos]; done) | (rw [if_neg (by omega), if_pos (by omega)]; done) | (rw [if_neg (by omega), if_neg (by omega), if_pos (by omega)]; first | rfl | (simp_all; done)) | (rw [if_neg (by omega), if_neg (by omega), if_neg (by omega), if_pos (by omega)]; done) | (rw [if_neg (by omega), if_neg (by omega), if_neg (by omega), if_neg (by omega)]; first | (rw [all2_nth_false (i := i) (by omega) (by omega) (by assumption), Bool.and_false]; done) | (rw [all2_nth_true (by omega) (fun x hx => hg1.2 x (by omega))]; simp_all; done) | (rw [decide_eq_false (by simp_all)]; rfl)))
       ·try simp only [Q, Pat.cs_len, Bool.not_eq_true', Bool.not_eq_false', decide_eq_false_iff_not] at h15p
        refine Walk.call (cr := []) cal129 (impl_argTypes_v hw ht (by simp_all)) rfl .none rfl rfl (LeL.refl _) trivial rfl rfl rfl ?_
        refine evd [] [] ?_
        refine dr ?_
        refine CWp.loopX (ι := Nat) hk (fun i => [(69, .d (.i (i : Int)))]) [6, 7, 8, 70, 71, 72, 73, 74, 75, 76, 77, 78, 79, 80, 81, 82, 83] (fun i => []) (fun i => i ≤ (argsOf w ⟨a, k⟩ p.ctor).length ∧ ∀ i', i' < i → someP w f n (nth (argsOf w ⟨a, k⟩ p.ctor) i') (nth p.kids i') = true) (fun i => (argsOf w ⟨a, k⟩ p.ctor).length - i) 0 ⟨by omega, fun _ h => absurd h (by omega)⟩ ⟨⟨_, rfl, (LeA.eqi (by first | rfl | (simp; done) | (simp_all; done) | omega))⟩, trivial⟩ trivial (fun x => rfl) (fun i hg1 => ?_)
        refine evc [] [] ?_
        refine sq (fun h16 h16p h16s => ?_) fun h16 h16p h16s => ?_
        ·try simp only [Q, Pat.cs_len, Bool.not_eq_true', Bool.not_eq_false', decide_eq_false_iff_not] at h16p
         refine Walk.idx sl25 .none rfl rfl rfl rfl (at_nth (by omega)) rfl ?_
         refine ev ?_
         refine Walk.alloc (id := 3008) tz31 rfl .none rfl rfl rfl rfl ?_
         refine ev ?_
         refine Walk.store ty31 .none rfl rfl rfl rfl rfl rfl (by simp) rfl ?_
         refine tv ?_
         refine Walk.idx sl56 .none rfl rfl rfl rfl (pats_at (by omega)) rfl ?_
         refine evd [] [] ?_
         refine Walk.call (cr := []) cal79 (impl_matches_fn hd n (pk.arg (by omega) i (by omega)) (hal (by assumption) _ (nth_mem (by omega))) (Pats.ok_mem hok.2 _ (nth_mem (by omega)))) rfl .none rfl rfl (LeL.refl _) trivial rfl rfl rfl ?_
         refine evd [] [] ?_
         refine dr ?_
         refine sq (fun h17 h17p h17s => ?_) fun h17 h17p h17s => ?_
         ·try simp only [Q, Pat.cs_len, Bool.not_eq_true', Bool.not_eq_false', decide_eq_false_iff_not] at h17p
          refine rn0 (r1 rfl) (.eqd ?_)
          all_goals (refine congrArg D.bool ?_; rw [someP_succ]; first | (rw [if_pos (by omega), dec_pos]; done) | (rw [if_neg (by omega), if_pos (by omega)]; done) | (rw [if_neg (by omega), if_neg (by omega), if_pos (by omega)]; first | rfl | (simp_all; done)) | (rw [if_neg (by omega), if_neg (by omega), if_neg (by omega), if_pos (by omega)]; done) | (rw [if_neg (by omega), if_neg (by omega), if_neg (by omega), if_neg (by omega)]; first | (rw [all2_nth_false (i := i) (by omega) (by omega) (by assumption), Bool.and_false]; done) | (rw [all2_nth_true (by omega) (fun x hx => hg1.2 x (by omega))]; simp_all; done) | (rw [decide_eq_false (by simp_all)]; rfl)))
         ·try simp only [Q, Pat.cs_len, Bool.not_eq_true', Bool.not_eq_false', decide_eq_false_iff_not] at h17p
          refine ar ?_
          refine Exists.intro (i + 1) ⟨⟨by omega, upto_succ hg1.2 (by assumption)⟩, (by omega), Sub.x (by kernel_rfl) (by kernel_rfl) ⟨⟨_, rfl, (LeA.eqi (by first | rfl | (simp; done) | (simp_all; done) | omega))⟩, trivial⟩ (by kernel_rfl) (by kernel_rfl) trivial⟩
        ·try simp only [Q, Pat.cs_len, Bool.not_eq_true', Bool.not_eq_false', decide_eq_false_iff_not] at h16p
         refine rn0 (r1 rfl) (.eqd ?_)
         all_goals (refine congrArg D.bool ?_; rw [someP_succ]; first | (rw [if_pos (by omega), dec_pos]; done) | (rw [if_neg (by omega), if_pos (by omega)]; done) | (rw [if_neg (by omega), if_neg (by omega), if_pos (by omega)]; first | rfl | (simp_all; done)) | (rw [if_neg (by omega), if_neg (by omega), if_neg (by omega), if_pos (by omega)]; done) | (rw [if_neg (by omega), if_neg (by omega), if_neg (by omega), if_neg (by omega)]; first | (rw [all2_nth_false (i := i) (by omega) (by omega) (by assumption), Bool.and_false]; done) | (rw [all2_nth_true (by omega) (fun x hx => hg1.2 x (by omega))]; simp_all; done) | (rw [decide_eq_false (by simp_all)]; rfl)))
theorem tv_facts {w : List Data} {a k : Int} (h : typeValid w ⟨a, k⟩ = true) : worldValid w = true ∧ TyIn w.length ⟨a, k⟩ ∧ (a ≠ -1 → 0 ≤ a ∧ a.toNat < w.length ∧ 0 ≤ k ∧ k ≤ 3) := by
 unfold typeValid at h
 rw [Bool.and_eq_true] at h
 obtain ⟨h1, h2⟩ := h
 simp only [typeOk, within, Bool.or_eq_true, Bool.and_eq_true, decide_eq_true_eq, and_true] at h2
 refine ⟨h1, ?_, fun ha => by omega⟩
 rcases h2 with h | h
 ·exact .inl h.1
 ·exact .inr ⟨a.toNat, by simp only; omega, by omega⟩
theorem ins_of {n d j : Nat} (hd : d < n) (hj : j < 4) : InS (n * 4) ⟨(d : Int), (j : Int)⟩ :=
 .inr ⟨by simp only [slotT, Int.toNat_natCast]; omega, by simp only [slotT, Int.toNat_natCast]; exact tyS_ij hj⟩
def ixOk (w : List Data) (a k : Int) (p : Pat) (m : Nat) : Bool := decide (k = 0 ∨ k = (m : Int)) && someP w (depthT w) 10 ⟨a, (m : Int)⟩ p
def idxTo (w : List Data) (a k : Int) (p : Pat) : Nat → List Int
 | 0 => []
 | m + 1 => idxTo w a k p m ++ (if ixOk w a k p (m + 1) then [((m + 1 : Nat) : Int)] else [])
theorem idxTo_len {w : List Data} {a k : Int} {p : Pat} : ∀ m, (idxTo w a k p m).length ≤ m
 | 0 => by simp [idxTo]
 | m + 1 => by
  have := idxTo_len (w := w) (a := a) (k := k) (p := p) m
  simp only [idxTo, List.length_append]
  split
  ·simp only [List.length_singleton]; omega
  ·simp only [List.length_nil]; omega
theorem idxTo_yes {w : List Data} {a k : Int} {p : Pat} {m : Nat} (h : ixOk w a k p (m + 1) = true) : idxTo w a k p (m + 1) = idxTo w a k p m ++ [((m + 1 : Nat) : Int)] := by
 simp only [idxTo]; rw [if_pos h]
theorem idxTo_no {w : List Data} {a k : Int} {p : Pat} {m : Nat} (h : ixOk w a k p (m + 1) = false) : idxTo w a k p (m + 1) = idxTo w a k p m := by
 simp only [idxTo]; rw [if_neg (by rw [h]; simp), List.append_nil]
def patValid (w : List Data) (a k : Int) (p : Pat) : Bool := typeValid w ⟨a, k⟩ && isP w ⟨a, k⟩ p
def indicesV (w : List Data) (a k : Int) (p : Pat) : List Int := if patValid w a k p = true ∧ a ≠ -1 then idxTo w a k p 3 else []
structure PVal (w : List Data) (a k : Int) (p : Pat) : Prop where
 dp : Dp w
 tin : TyIn w.length ⟨a, k⟩
 shape : shapeP w 10 ⟨a, k⟩ p = true
 rng : a ≠ -1 → 0 ≤ a ∧ a.toNat < w.length ∧ 0 ≤ k ∧ k ≤ 3
theorem pval {w : List Data} (hs : WSmall w) {a k : Int} {p : Pat} (h : patValid w a k p = true) : PVal w a k p := by
 unfold patValid at h
 rw [Bool.and_eq_true] at h
 obtain ⟨h1, h2, h3⟩ := tv_facts h.1
 have h4 := h.2
 unfold isP at h4
 simp only [Bool.and_eq_true] at h4
 exact ⟨valid_dp hs h1, h2, h4.1, h3⟩
theorem impl_PatternValid_fn {w : List Data} (hs : WSmall w) {a k : Int} {p : Pat} (hok : p.ok) :
  FnD Try.prog 39 [.d (encDatas w), .agg [.d (.i a), .d (.i k)], .agg [.d (.i p.op), .d (.i p.ctor), .d (.i p.n), .d (.i p.m), .d (.i p.var), .d (encPats p.kids)]] [] (.d (.bool (patValid w a k p))) [] := by
 refine bd Try.f39 16 [] [] fun w0 F0 own kept hk => ?_
 refine Walk.box (id := 3004) .none rfl rfl rfl rfl rfl rfl rfl ?_
 refine Walk.box (id := 3005) .none rfl rfl rfl rfl rfl rfl rfl ?_
 refine ev ?_
 refine Walk.call (cr := []) cal16 (impl_TypeValid_fn hs) rfl .none rfl rfl (LeL.refl _) trivial rfl rfl rfl ?_
 refine ev ?_
 refine sq (fun h1 h1p h1s => ?_) fun h1 h1p h1s => ?_
 ·try simp only [Q] at h1p
  refine Walk.call (cr := []) cal83 (impl_patternOk_fn (valid_wt hs (tv_facts h1s).1) (tv_facts h1s).2.1 hok) rfl (.some rfl rfl h1) rfl rfl (LeL.refl _) trivial rfl rfl rfl ?_
  refine evs [] [(10, true)] ?_ ⟨⟨_, rfl, h1⟩, trivial⟩
  refine rn0 (r1 rfl) (.eqd ?_)
  all_goals (refine congrArg D.bool ?_; unfold patValid; simp_all)
 ·try simp only [Q] at h1p
  refine rn0 (r1 rfl) (.eqd ?_)
  all_goals (refine congrArg D.bool ?_; unfold patValid; simp_all)
theorem spec_TypeValid_v {w : List Data} {a b : Int} (hs : WSmall w) : FnD Try.prog 61 [.d (encDatas w), .agg [.d (.i a), .d (.i b)]] [] (.d (.bool (typeValid w ⟨a, b⟩))) [] := by
 rw [← spec_tv]; exact spec_TypeValid_fn hs
theorem spec_PatternValid_fn {w : List Data} (hs : WSmall w) {a k : Int} {p : Pat} (hok : p.ok) (hb : p.size ≤ 1000000000000) :
  FnD Try.prog 80 [.d (encDatas w), .agg [.d (.i a), .d (.i k)], .agg [.d (.i p.op), .d (.i p.ctor), .d (.i p.n), .d (.i p.m), .d (.i p.var), .d (encPats p.kids)]] [] (.d (.bool (patValid w a k p))) [] := by
 refine bd Try.f80 16 [] [] fun w0 F0 own kept hk => ?_
 refine Walk.box (id := 3004) .none rfl rfl rfl rfl rfl rfl rfl ?_
 refine Walk.box (id := 3005) .none rfl rfl rfl rfl rfl rfl rfl ?_
 refine ev ?_
 refine Walk.call (cr := []) cal61 (spec_TypeValid_v hs) rfl .none rfl rfl (LeL.refl _) trivial rfl rfl rfl ?_
 refine ev ?_
 refine sq (fun h1 h1p h1s => ?_) fun h1 h1p h1s => ?_
 ·try simp only [Q] at h1p
  refine Walk.call (cr := []) cal87 (spec_l3Is_fn (valid_wt hs (tv_facts h1s).1) (tv_facts h1s).2.1 hok hb) rfl (.some rfl rfl h1) rfl rfl (LeL.refl _) trivial rfl rfl rfl ?_
  refine evs [] [(10, true)] ?_ ⟨⟨_, rfl, h1⟩, trivial⟩
  refine rn0 (r1 rfl) (.eqd ?_)
  all_goals (refine congrArg D.bool ?_; unfold patValid; simp_all)
 ·try simp only [Q] at h1p
  refine rn0 (r1 rfl) (.eqd ?_)
  all_goals (refine congrArg D.bool ?_; unfold patValid; simp_all)
theorem impl_IndicesOf_fn {w : List Data} (hs : WSmall w) {a k : Int} {p : Pat} (hok : p.ok) :
  FnD Try.prog 36 [.d (encDatas w), .agg [.d (.i a), .d (.i k)], .agg [.d (.i p.op), .d (.i p.ctor), .d (.i p.n), .d (.i p.m), .d (.i p.var), .d (encPats p.kids)]] [] (.d (encInts (indicesV w a k p))) [] := by
 by_cases hv : patValid w a k p = true ∧ a ≠ -1
 ·have pv := pval hs hv.1
  have hr := pv.rng hv.2
  have hd := pv.dp
  have hin : ∀ m : Nat, m < 4 → InS (w.length * 4) ⟨a, (m : Int)⟩ := fun m hm => by
   have := ins_of (n := w.length) hr.2.1 hm
   rwa [Int.toNat_of_nonneg hr.1] at this
  refine bd Try.f36 49 [8] [1, 8] fun w0 F0 own kept hk => ?_
  refine Walk.box (id := 3004) .none rfl rfl rfl rfl rfl rfl rfl ?_
  refine Walk.box (id := 3005) .none rfl rfl rfl rfl rfl rfl rfl ?_
  refine evs [8] [] ?_
  refine CWp.regionJ ?_
  refine WRest.join 10 [(19, .d (.bool (false)))] [10, 11, 12, 13, 14, 15, 16, 17, 18] ?_ ?_
  ·
   refine evs [8] [] ?_
   refine Walk.call (cr := []) cal39 (impl_PatternValid_fn hs hok) rfl .none rfl rfl (LeL.refl _) trivial rfl rfl rfl ?_
   refine evs [8] [] ?_
   refine sq (fun h1 h1p h1s => ?_) fun h1 h1p h1s => ?_
   ·try simp only [Q] at h1p
    exact jn rfl (LeA.eqb (by first | rfl | (simp_all; done) | (simp [ixOk, h1s, h1p]; done) | (unfold ixOk; rw [Bool.eq_iff_iff]; simp_all; done) | (unfold ixOk; rw [Bool.eq_iff_iff]; simp_all; omega)))
   ·try simp only [Q] at h1p
    exact jn rfl (LeA.eqb (by first | rfl | (simp_all; done) | (simp [ixOk, h1s, h1p]; done) | (unfold ixOk; rw [Bool.eq_iff_iff]; simp_all; done) | (unfold ixOk; rw [Bool.eq_iff_iff]; simp_all; omega)))
  refine WRest.done ?_
  refine tv ?_
  refine sq (fun h2 h2p h2s => ?_) fun h2 h2p h2s => ?_
  ·try simp only [Q] at h2p
   exact absurd h2 (by simp) --stop
  ·try simp only [Q] at h2p
   refine Walk.call (cr := []) cal78 (impl_newSpaces_fn hd) rfl .none rfl rfl (LeL.refl _) trivial rfl rfl rfl ?_
   refine evs [8] [] ?_
   refine Walk.assignNil 1 1 .none rfl rfl ?_
   refine tv ?_
   refine CWp.loopX (ι := Nat) hk (fun m => [(9, .d (.i (((m + 1 : Nat)) : Int))), (8, .gl 1 ((idxTo w a k p m).map fun n => [D.i n]))]) [22, 23, 24, 25, 26, 27, 28, 29, 30, 31, 32, 33, 34, 35, 36, 37, 38, 39, 40, 41, 42, 43, 44, 45, 46, 47] (fun m => [(1, some (.tok (((idxTo w a k p m).map fun n => [D.i n])).length 1))]) (fun m => m ≤ 3) (fun m => 3 - m) 0 (by omega) ⟨⟨_, rfl, (LeA.eqi (by first | rfl | (simp; done) | (rw [idxTo_yes (by assumption)]; simp; done) | (rw [idxTo_no (by assumption)]; done) | omega))⟩, ⟨⟨_, rfl, (LeA.glg (by first | rfl | (simp; done) | (rw [idxTo_yes (by assumption)]; simp; done) | (rw [idxTo_no (by assumption)]; done) | omega))⟩, trivial⟩⟩ ⟨beq_nat_eq (by first | rfl | (simp; done) | (simp; omega) | (first | rfl | (simp; done) | (rw [idxTo_yes (by assumption)]; simp; done) | (rw [idxTo_no (by assumption)]; done) | omega)), trivial⟩ (fun x => rfl) (fun m hg1 => ?_)
   refine evc [8] [1, 8] ?_
   refine sq (fun h3 h3p h3s => ?_) fun h3 h3p h3s => ?_
   ·try simp only [Q] at h3p
    refine CWp.regionJ ?_
    refine WRest.join 18 [(43, .d (.bool (ixOk w a k p (m + 1))))] [26, 27, 28, 29, 30, 31, 32, 33, 34, 35, 36, 37, 38, 39, 40, 41, 42] ?_ ?_
    ·
     refine evs [8] [] ?_
     refine sq (fun h4 h4p h4s => ?_) fun h4 h4p h4s => ?_
     ·try simp only [Q] at h4p
      refine sqT ?_
      refine Walk.build st31 (ks := [0, 1]) (xs := [_, _]) rfl rfl (.some rfl rfl rfl) rfl rfl rfl ?_
      refine evs [8] [(35, true)] ?_ ⟨⟨_, rfl, rfl⟩, trivial⟩
      refine Walk.call (cr := []) cal79 (impl_matches_fn hd (f := depthT w) 10 (k' := k) pv.shape (hin (m + 1) (by omega)) hok) rfl (.some rfl rfl rfl) rfl rfl (LeL.refl _) trivial rfl rfl rfl ?_
      refine evs [8] [(35, true)] ?_ ⟨⟨_, rfl, rfl⟩, trivial⟩
      exact jn rfl (LeA.eqb (by first | rfl | (simp_all; done) | (simp [ixOk, h2s, h2p, h3s, h3p, h4s, h4p]; done) | (unfold ixOk; rw [Bool.eq_iff_iff]; simp_all; done) | (unfold ixOk; rw [Bool.eq_iff_iff]; simp_all; omega)))
     ·try simp only [Q] at h4p
      refine sq (fun h5 h5p h5s => ?_) fun h5 h5p h5s => ?_
      ·try simp only [Q] at h5p
       refine Walk.build st31 (ks := [0, 1]) (xs := [_, _]) rfl rfl (.some rfl rfl h5) rfl rfl rfl ?_
       refine evs [8] [(35, true)] ?_ ⟨⟨_, rfl, h5⟩, trivial⟩
       refine Walk.call (cr := []) cal79 (impl_matches_fn hd (f := depthT w) 10 (k' := k) pv.shape (hin (m + 1) (by omega)) hok) rfl (.some rfl rfl h5) rfl rfl (LeL.refl _) trivial rfl rfl rfl ?_
       refine evs [8] [(35, true)] ?_ ⟨⟨_, rfl, h5⟩, trivial⟩
       exact jn rfl (LeA.eqb (by first | rfl | (simp_all; done) | (simp [ixOk, h2s, h2p, h3s, h3p, h4s, h4p, h5s, h5p]; done) | (unfold ixOk; rw [Bool.eq_iff_iff]; simp_all; done) | (unfold ixOk; rw [Bool.eq_iff_iff]; simp_all; omega)))
      ·try simp only [Q] at h5p
       exact jn rfl (LeA.eqb (by first | rfl | (simp_all; done) | (simp [ixOk, h2s, h2p, h3s, h3p, h4s, h4p, h5s, h5p]; done) | (unfold ixOk; rw [Bool.eq_iff_iff]; simp_all; done) | (unfold ixOk; rw [Bool.eq_iff_iff]; simp_all; omega)))
    refine WRest.done ?_
    refine tv ?_
    refine sq (fun h6 h6p h6s => ?_) fun h6 h6p h6s => ?_
    ·try simp only [Q] at h6p
     refine Walk.sliceLit sl66 tz3 rfl (by decide) (ks := [0]) (xs := [_]) rfl rfl (by decide) (by decide) .none rfl rfl rfl rfl ?_
     refine Walk.append sl66 zz3 rfl .none rfl rfl rfl rfl (htokL rfl (by first | rfl | (simp; done) | (simp; omega))) (by simp) (by have := idxTo_len (w := w) (a := a) (k := k) (p := p) m; simp; omega) (by have := idxTo_len (w := w) (a := a) (k := k) (p := p) m; simp; omega) ?_
     refine asg ?_
     refine tv ?_
     refine ar ?_
     refine Exists.intro (m + 1) ⟨(by omega), (by omega), Sub.x (by kernel_rfl) (by kernel_rfl) ⟨⟨_, rfl, (LeA.eqi (by first | rfl | (simp; done) | (rw [idxTo_yes (by assumption)]; simp; done) | (rw [idxTo_no (by assumption)]; done) | omega))⟩, ⟨⟨_, rfl, (LeA.glg (by first | rfl | (simp; done) | (rw [idxTo_yes (by assumption)]; simp; done) | (rw [idxTo_no (by assumption)]; done) | omega))⟩, trivial⟩⟩ (by kernel_rfl) (by kernel_rfl) ⟨beq_nat_eq (by first | rfl | (simp; done) | (simp; omega) | (first | rfl | (simp; done) | (rw [idxTo_yes (by assumption)]; simp; done) | (rw [idxTo_no (by assumption)]; done) | omega)), trivial⟩⟩
    ·try simp only [Q] at h6p
     refine ar ?_
     refine Exists.intro (m + 1) ⟨(by omega), (by omega), Sub.x (by kernel_rfl) (by kernel_rfl) ⟨⟨_, rfl, (LeA.eqi (by first | rfl | (simp; done) | (rw [idxTo_yes (by assumption)]; simp; done) | (rw [idxTo_no (by assumption)]; done) | omega))⟩, ⟨⟨_, rfl, (LeA.glg (by first | rfl | (simp; done) | (rw [idxTo_yes (by assumption)]; simp; done) | (rw [idxTo_no (by assumption)]; done) | omega))⟩, trivial⟩⟩ (by kernel_rfl) (by kernel_rfl) ⟨beq_nat_eq (by first | rfl | (simp; done) | (simp; omega) | (first | rfl | (simp; done) | (rw [idxTo_yes (by assumption)]; simp; done) | (rw [idxTo_no (by assumption)]; done) | omega)), trivial⟩⟩
   ·try simp only [Q] at h3p
    refine rn0 (r1 rfl) (.gld ?_)
    all_goals (unfold indicesV; rw [if_pos hv]; have e : m = 3 := (by omega); rw [e])
 ·skip
  refine bd Try.f36 49 [] [1] fun w0 F0 own kept hk => ?_
  refine Walk.box (id := 3004) .none rfl rfl rfl rfl rfl rfl rfl ?_
  refine Walk.box (id := 3005) .none rfl rfl rfl rfl rfl rfl rfl ?_
  refine ev ?_
  refine CWp.regionJ ?_
  refine WRest.join 10 [(19, .d (.bool (true)))] [10, 11, 12, 13, 14, 15, 16, 17, 18] ?_ ?_
  ·
   refine ev ?_
   refine Walk.call (cr := []) cal39 (impl_PatternValid_fn hs hok) rfl .none rfl rfl (LeL.refl _) trivial rfl rfl rfl ?_
   refine ev ?_
   refine sq (fun h1 h1p h1s => ?_) fun h1 h1p h1s => ?_
   ·try simp only [Q] at h1p
    exact jn rfl (LeA.eqb (by first | rfl | (simp_all; done) | (rw [Bool.eq_iff_iff]; simp_all; done)))
   ·try simp only [Q] at h1p
    exact jn rfl (LeA.eqb (by first | rfl | (simp_all; done) | (rw [Bool.eq_iff_iff]; simp_all; done)))
  refine WRest.done ?_
  refine tv ?_
  refine sq (fun h2 h2p h2s => ?_) fun h2 h2p h2s => ?_
  ·try simp only [Q] at h2p
   refine rn0 (r1 rfl) (.nild ?_)
   all_goals (unfold indicesV; rw [if_neg hv]; rfl)
  ·try simp only [Q] at h2p
   exact absurd h2 (by simp) --stop
theorem spec_IndicesOf_fn {w : List Data} (hs : WSmall w) {a k : Int} {p : Pat} (hok : p.ok) (hb : p.size ≤ 1000000000000) :
  FnD Try.prog 38 [.d (encDatas w), .agg [.d (.i a), .d (.i k)], .agg [.d (.i p.op), .d (.i p.ctor), .d (.i p.n), .d (.i p.m), .d (.i p.var), .d (encPats p.kids)]] [] (.d (encInts (indicesV w a k p))) [] := by
 by_cases hv : patValid w a k p = true ∧ a ≠ -1
 ·have pv := pval hs hv.1
  have hr := pv.rng hv.2
  have hd := pv.dp
  have hin : ∀ m : Nat, m < 4 → InS (w.length * 4) ⟨a, (m : Int)⟩ := fun m hm => by
   have := ins_of (n := w.length) hr.2.1 hm
   rwa [Int.toNat_of_nonneg hr.1] at this
  refine bd Try.f38 52 [] [2, 8] fun w0 F0 own kept hk => ?_
  refine Walk.box (id := 3004) .none rfl rfl rfl rfl rfl rfl rfl ?_
  refine Walk.box (id := 3005) .none rfl rfl rfl rfl rfl rfl rfl ?_
  refine ev ?_
  refine Walk.sliceEmptyG 1 sl66 .none rfl rfl ?_
  refine ev ?_
  refine CWp.regionJ ?_
  refine WRest.join 10 [(20, .d (.bool (false)))] [11, 12, 13, 14, 15, 16, 17, 18, 19] ?_ ?_
  ·
   refine ev ?_
   refine Walk.call (cr := []) cal80 (spec_PatternValid_fn hs hok hb) rfl .none rfl rfl (LeL.refl _) trivial rfl rfl rfl ?_
   refine ev ?_
   refine sq (fun h1 h1p h1s => ?_) fun h1 h1p h1s => ?_
   ·try simp only [Q] at h1p
    exact jn rfl (LeA.eqb (by first | rfl | (simp_all; done) | (simp [ixOk, h1s, h1p]; done) | (unfold ixOk; rw [Bool.eq_iff_iff]; simp_all; done) | (unfold ixOk; rw [Bool.eq_iff_iff]; simp_all; omega)))
   ·try simp only [Q] at h1p
    exact jn rfl (LeA.eqb (by first | rfl | (simp_all; done) | (simp [ixOk, h1s, h1p]; done) | (unfold ixOk; rw [Bool.eq_iff_iff]; simp_all; done) | (unfold ixOk; rw [Bool.eq_iff_iff]; simp_all; omega)))
  refine WRest.done ?_
  refine tv ?_
  refine sq (fun h2 h2p h2s => ?_) fun h2 h2p h2s => ?_
  ·try simp only [Q] at h2p
   exact absurd h2 (by simp) --stop
  ·try simp only [Q] at h2p
   refine Walk.call (cr := []) cal81 (spec_l1Table_fn hd) rfl .none rfl rfl (LeL.refl _) trivial rfl rfl rfl ?_
   refine ev ?_
   refine CWp.loopX (ι := Nat) hk (fun m => [(9, .d (.i (((m + 1 : Nat)) : Int))), (7, .gl 1 ((idxTo w a k p m).map fun n => [D.i n]))]) [24, 25, 26, 27, 28, 29, 30, 31, 32, 33, 34, 35, 36, 37, 38, 39, 40, 41, 42, 43, 44, 45, 46, 47, 48, 49, 50] (fun m => [(1, some (.tok (((idxTo w a k p m).map fun n => [D.i n])).length 1))]) (fun m => m ≤ 3) (fun m => 3 - m) 0 (by omega) ⟨⟨_, rfl, (LeA.eqi (by first | rfl | (simp; done) | (rw [idxTo_yes (by assumption)]; simp; done) | (rw [idxTo_no (by assumption)]; done) | omega))⟩, ⟨⟨_, rfl, (LeA.glg (by first | rfl | (simp; done) | (rw [idxTo_yes (by assumption)]; simp; done) | (rw [idxTo_no (by assumption)]; done) | omega))⟩, trivial⟩⟩ ⟨beq_nat_eq (by first | rfl | (simp; done) | (simp; omega) | (first | rfl | (simp; done) | (rw [idxTo_yes (by assumption)]; simp; done) | (rw [idxTo_no (by assumption)]; done) | omega)), trivial⟩ (fun x => rfl) (fun m hg1 => ?_)
   refine evc [] [2, 8] ?_
   refine sq (fun h3 h3p h3s => ?_) fun h3 h3p h3s => ?_
   ·try simp only [Q] at h3p
    refine CWp.regionJ ?_
    refine WRest.join 19 [(46, .d (.bool (ixOk w a k p (m + 1))))] [28, 29, 30, 31, 32, 33, 34, 35, 36, 37, 38, 39, 40, 41, 42, 43, 44, 45] ?_ ?_
    ·
     refine ev ?_
     refine sq (fun h4 h4p h4s => ?_) fun h4 h4p h4s => ?_
     ·try simp only [Q] at h4p
      refine sqT ?_
      refine Walk.build st31 (ks := [0, 1]) (xs := [_, _]) rfl rfl (.some rfl rfl rfl) rfl rfl rfl ?_
      refine evs [] [(37, true)] ?_ ⟨⟨_, rfl, rfl⟩, trivial⟩
      refine Walk.call (cr := []) cal82 (spec_l15Some_fn hd (f := depthT w) 10 (k' := k) pv.shape (hin (m + 1) (by omega)) hok) rfl (.some rfl rfl rfl) rfl rfl (LeL.refl _) trivial rfl rfl rfl ?_
      refine evs [] [(37, true)] ?_ ⟨⟨_, rfl, rfl⟩, trivial⟩
      exact jn rfl (LeA.eqb (by first | rfl | (simp_all; done) | (simp [ixOk, h2s, h2p, h3s, h3p, h4s, h4p]; done) | (unfold ixOk; rw [Bool.eq_iff_iff]; simp_all; done) | (unfold ixOk; rw [Bool.eq_iff_iff]; simp_all; omega)))
     ·try simp only [Q] at h4p
      refine sq (fun h5 h5p h5s => ?_) fun h5 h5p h5s => ?_
      ·try simp only [Q] at h5p
       refine Walk.build st31 (ks := [0, 1]) (xs := [_, _]) rfl rfl (.some rfl rfl h5) rfl rfl rfl ?_
       refine evs [] [(37, true)] ?_ ⟨⟨_, rfl, h5⟩, trivial⟩
       refine Walk.call (cr := []) cal82 (spec_l15Some_fn hd (f := depthT w) 10 (k' := k) pv.shape (hin (m + 1) (by omega)) hok) rfl (.some rfl rfl h5) rfl rfl (LeL.refl _) trivial rfl rfl rfl ?_
       refine evs [] [(37, true)] ?_ ⟨⟨_, rfl, h5⟩, trivial⟩
       exact jn rfl (LeA.eqb (by first | rfl | (simp_all; done) | (simp [ixOk, h2s, h2p, h3s, h3p, h4s, h4p, h5s, h5p]; done) | (unfold ixOk; rw [Bool.eq_iff_iff]; simp_all; done) | (unfold ixOk; rw [Bool.eq_iff_iff]; simp_all; omega)))
      ·try simp only [Q] at h5p
       exact jn rfl (LeA.eqb (by first | rfl | (simp_all; done) | (simp [ixOk, h2s, h2p, h3s, h3p, h4s, h4p, h5s, h5p]; done) | (unfold ixOk; rw [Bool.eq_iff_iff]; simp_all; done) | (unfold ixOk; rw [Bool.eq_iff_iff]; simp_all; omega)))
    refine WRest.done ?_
    refine tv ?_
    refine sq (fun h6 h6p h6s => ?_) fun h6 h6p h6s => ?_
    ·try simp only [Q] at h6p
     refine Walk.sliceLit sl66 tz3 rfl (by decide) (ks := [0]) (xs := [_]) rfl rfl (by decide) (by decide) .none rfl rfl rfl rfl ?_
     refine Walk.append sl66 zz3 rfl .none rfl rfl rfl rfl (htokL rfl (by first | rfl | (simp; done) | (simp; omega))) (by simp) (by have := idxTo_len (w := w) (a := a) (k := k) (p := p) m; simp; omega) (by have := idxTo_len (w := w) (a := a) (k := k) (p := p) m; simp; omega) ?_
     refine ev ?_
     refine ar ?_
     refine Exists.intro (m + 1) ⟨(by omega), (by omega), Sub.x (by kernel_rfl) (by kernel_rfl) ⟨⟨_, rfl, (LeA.eqi (by first | rfl | (simp; done) | (rw [idxTo_yes (by assumption)]; simp; done) | (rw [idxTo_no (by assumption)]; done) | omega))⟩, ⟨⟨_, rfl, (LeA.glg (by first | rfl | (simp; done) | (rw [idxTo_yes (by assumption)]; simp; done) | (rw [idxTo_no (by assumption)]; done) | omega))⟩, trivial⟩⟩ (by kernel_rfl) (by kernel_rfl) ⟨beq_nat_eq (by first | rfl | (simp; done) | (simp; omega) | (first | rfl | (simp; done) | (rw [idxTo_yes (by assumption)]; simp; done) | (rw [idxTo_no (by assumption)]; done) | omega)), trivial⟩⟩
    ·try simp only [Q] at h6p
     refine ar ?_
     refine Exists.intro (m + 1) ⟨(by omega), (by omega), Sub.x (by kernel_rfl) (by kernel_rfl) ⟨⟨_, rfl, (LeA.eqi (by first | rfl | (simp; done) | (rw [idxTo_yes (by assumption)]; simp; done) | (rw [idxTo_no (by assumption)]; done) | omega))⟩, ⟨⟨_, rfl, (LeA.glg (by first | rfl | (simp; done) | (rw [idxTo_yes (by assumption)]; simp; done) | (rw [idxTo_no (by assumption)]; done) | omega))⟩, trivial⟩⟩ (by kernel_rfl) (by kernel_rfl) ⟨beq_nat_eq (by first | rfl | (simp; done) | (simp; omega) | (first | rfl | (simp; done) | (rw [idxTo_yes (by assumption)]; simp; done) | (rw [idxTo_no (by assumption)]; done) | omega)), trivial⟩⟩
   ·try simp only [Q] at h3p
    refine rn0 (r1 rfl) (.gld ?_)
    all_goals (unfold indicesV; rw [if_pos hv]; have e : m = 3 := (by omega); rw [e])
 ·skip
  refine bd Try.f38 52 [] [2] fun w0 F0 own kept hk => ?_
  refine Walk.box (id := 3004) .none rfl rfl rfl rfl rfl rfl rfl ?_
  refine Walk.box (id := 3005) .none rfl rfl rfl rfl rfl rfl rfl ?_
  refine ev ?_
  refine Walk.sliceEmptyG 1 sl66 .none rfl rfl ?_
  refine ev ?_
  refine CWp.regionJ ?_
  refine WRest.join 10 [(20, .d (.bool (true)))] [11, 12, 13, 14, 15, 16, 17, 18, 19] ?_ ?_
  ·
   refine ev ?_
   refine Walk.call (cr := []) cal80 (spec_PatternValid_fn hs hok hb) rfl .none rfl rfl (LeL.refl _) trivial rfl rfl rfl ?_
   refine ev ?_
   refine sq (fun h1 h1p h1s => ?_) fun h1 h1p h1s => ?_
   ·try simp only [Q] at h1p
    exact jn rfl (LeA.eqb (by first | rfl | (simp_all; done) | (rw [Bool.eq_iff_iff]; simp_all; done)))
   ·try simp only [Q] at h1p
    exact jn rfl (LeA.eqb (by first | rfl | (simp_all; done) | (rw [Bool.eq_iff_iff]; simp_all; done)))
  refine WRest.done ?_
  refine tv ?_
  refine sq (fun h2 h2p h2s => ?_) fun h2 h2p h2s => ?_
  ·try simp only [Q] at h2p
   refine rn0 (r1 rfl) (.gld ?_)
   all_goals (unfold indicesV; rw [if_neg hv]; rfl)
  ·try simp only [Q] at h2p
   exact absurd h2 (by simp) --stop
def namL (f : Pat → Int → Nat → Pat × Int × Nat) : List Pat → Int → Nat → List Pat × Int × Nat
 | [], m, q => ([], m, q)
 | x :: r, m, q => ((f x m q).1 :: (namL f r (f x m q).2.1 (f x m q).2.2).1, (namL f r (f x m q).2.1 (f x m q).2.2).2)
def namP (b : Str) : Nat → Pat → Int → Nat → Pat × Int × Nat
 | 0, p, m, q => (p, m, q)
 | n + 1, p, m, q =>
  if 5 < m ∨ p.op = 5 ∨ p.op = 3 then (p, m, q)
  else if p.op = 1 ∧ pickV b q 2 = 0 then (⟨2, 0, 0, 0, m, []⟩, m + 1, q + 1)
  else if (namL (namP b n) p.kids m (if p.op = 1 then q + 1 else q)).2.1 ≤ 5 then
   (if pickV b (namL (namP b n) p.kids m (if p.op = 1 then q + 1 else q)).2.2 6 = 0 then
    (⟨6, 0, 0, 0, (namL (namP b n) p.kids m (if p.op = 1 then q + 1 else q)).2.1, [⟨p.op, p.ctor, p.n, p.m, p.var, (namL (namP b n) p.kids m (if p.op = 1 then q + 1 else q)).1⟩]⟩,
     (namL (namP b n) p.kids m (if p.op = 1 then q + 1 else q)).2.1 + 1, (namL (namP b n) p.kids m (if p.op = 1 then q + 1 else q)).2.2 + 1)
   else (⟨p.op, p.ctor, p.n, p.m, p.var, (namL (namP b n) p.kids m (if p.op = 1 then q + 1 else q)).1⟩, (namL (namP b n) p.kids m (if p.op = 1 then q + 1 else q)).2.1, (namL (namP b n) p.kids m (if p.op = 1 then q + 1 else q)).2.2 + 1))
  else (⟨p.op, p.ctor, p.n, p.m, p.var, (namL (namP b n) p.kids m (if p.op = 1 then q + 1 else q)).1⟩, (namL (namP b n) p.kids m (if p.op = 1 then q + 1 else q)).2.1, (namL (namP b n) p.kids m (if p.op = 1 then q + 1 else q)).2.2)
section
variable {b : Str} {n : Nat} {p : Pat} {m : Int} {q : Nat} {ks : List Pat} {zm : Int} {zq : Nat}
theorem nam_1 (h : 5 < m ∨ p.op = 5 ∨ p.op = 3) : namP b (n + 1) p m q = (p, m, q) := by simp only [namP]; rw [if_pos h]
theorem nam_2 (h : ¬ (5 < m ∨ p.op = 5 ∨ p.op = 3)) (h2 : p.op = 1 ∧ pickV b q 2 = 0) : namP b (n + 1) p m q = (⟨2, 0, 0, 0, m, []⟩, m + 1, q + 1) := by simp only [namP]; rw [if_neg h, if_pos h2]
theorem nam_3 (h : ¬ (5 < m ∨ p.op = 5 ∨ p.op = 3)) (h2 : ¬ (p.op = 1 ∧ pickV b q 2 = 0)) (hz : (ks, zm, zq) = namL (namP b n) p.kids m (if p.op = 1 then q + 1 else q)) (h3 : zm ≤ 5) (h4 : pickV b zq 6 = 0) :
  namP b (n + 1) p m q = (⟨6, 0, 0, 0, zm, [⟨p.op, p.ctor, p.n, p.m, p.var, ks⟩]⟩, zm + 1, zq + 1) := by
 simp only [namP]; rw [if_neg h, if_neg h2, ← hz]; dsimp only; rw [if_pos h3, if_pos h4]
theorem nam_4 (h : ¬ (5 < m ∨ p.op = 5 ∨ p.op = 3)) (h2 : ¬ (p.op = 1 ∧ pickV b q 2 = 0)) (hz : (ks, zm, zq) = namL (namP b n) p.kids m (if p.op = 1 then q + 1 else q)) (h3 : zm ≤ 5) (h4 : ¬ pickV b zq 6 = 0) :
  namP b (n + 1) p m q = (⟨p.op, p.ctor, p.n, p.m, p.var, ks⟩, zm, zq + 1) := by
 simp only [namP]; rw [if_neg h, if_neg h2, ← hz]; dsimp only; rw [if_pos h3, if_neg h4]
theorem nam_5 (h : ¬ (5 < m ∨ p.op = 5 ∨ p.op = 3)) (h2 : ¬ (p.op = 1 ∧ pickV b q 2 = 0)) (hz : (ks, zm, zq) = namL (namP b n) p.kids m (if p.op = 1 then q + 1 else q)) (h3 : ¬ zm ≤ 5) :
  namP b (n + 1) p m q = (⟨p.op, p.ctor, p.n, p.m, p.var, ks⟩, zm, zq) := by
 simp only [namP]; rw [if_neg h, if_neg h2, ← hz]; dsimp only; rw [if_neg h3]
end
def NamOk (p : Pat) (m : Int) (q : Nat) (r : Pat × Int × Nat) : Prop := m ≤ r.2.1 ∧ r.2.1 ≤ 6 ∧ r.2.2 ≤ q + 2 * p.size ∧ r.1.size ≤ 2 * p.size ∧ (p.ok → r.1.ok)
theorem namL_ok {f : Pat → Int → Nat → Pat × Int × Nat} : ∀ (l : List Pat) (m : Int) (q : Nat), (∀ x ∈ l, ∀ m q, 0 ≤ m → m ≤ 6 → NamOk x m q (f x m q)) → 0 ≤ m → m ≤ 6 →
  m ≤ (namL f l m q).2.1 ∧ (namL f l m q).2.1 ≤ 6 ∧ (namL f l m q).2.2 ≤ q + 2 * Pats.size l ∧ Pats.size (namL f l m q).1 ≤ 2 * Pats.size l ∧ (namL f l m q).1.length = l.length ∧ (Pats.ok l → Pats.ok (namL f l m q).1)
 | [], m, q, _, _, h6 => by simp [namL, Pats.size, h6]
 | x :: r, m, q, h, h0, h6 => by
  obtain ⟨a1, a2, a3, a4, a5⟩ := h x (by simp) m q h0 h6
  obtain ⟨b1, b2, b3, b4, b5, b6⟩ := namL_ok r (f x m q).2.1 (f x m q).2.2 (fun y hy => h y (by simp [hy])) (by omega) a2
  simp only [namL, Pats.size, List.length_cons]
  refine ⟨by omega, by omega, by omega, by omega, by omega, fun ho => ?_⟩
  exact ⟨a5 ho.1, b6 ho.2⟩
theorem namP_ok {b : Str} : ∀ (n : Nat) (p : Pat) (m : Int) (q : Nat), 0 ≤ m → m ≤ 6 → NamOk p m q (namP b n p m q)
 | 0, p, m, q, h0, h6 => ⟨by simp [namP], by simp [namP, h6], by simp [namP], by simp [namP]; omega, fun h => h⟩
 | n + 1, p, m, q, h0, h6 => by
  have hs := Pat.size_eq p
  by_cases h : 5 < m ∨ p.op = 5 ∨ p.op = 3
  ·rw [nam_1 h]; exact ⟨Int.le_refl _, h6, by dsimp only; omega, by dsimp only; omega, fun h => h⟩
  ·by_cases h2 : p.op = 1 ∧ pickV b q 2 = 0
   ·rw [nam_2 h h2]
    refine ⟨by dsimp only; omega, by dsimp only; omega, by dsimp only; omega, ?_, fun _ => ?_⟩
    ·show (Pat.mk 2 0 0 0 m []).size ≤ _; rw [Pat.size_eq]; simp only [Pat.kids, Pats.size]; omega
    ·show (Pat.mk 2 0 0 0 m []).ok; rw [Pat.ok_iff]; exact ⟨by simp [Pat.kids], trivial⟩
   ·generalize hz : namL (namP b n) p.kids m (if p.op = 1 then q + 1 else q) = z
    obtain ⟨ks, zm, zq⟩ := z
    have hq : (if p.op = 1 then q + 1 else q) ≤ q + 1 := by split <;> omega
    obtain ⟨b1, b2, b3, b4, b5, b6⟩ := namL_ok (f := namP b n) p.kids m (if p.op = 1 then q + 1 else q) (fun x _ m q h0 h6 => namP_ok n x m q h0 h6) h0 h6
    rw [hz] at b1 b2 b3 b4 b5 b6
    dsimp only at b1 b2 b3 b4 b5 b6
    have so : (Pat.mk p.op p.ctor p.n p.m p.var ks).size = 1 + Pats.size ks := by rw [Pat.size_eq]; rfl
    have ko : p.ok → (Pat.mk p.op p.ctor p.n p.m p.var ks).ok := fun h => by
     rw [Pat.ok_iff] at h ⊢
     exact ⟨by show ks.length ≤ _; rw [b5]; exact h.1, b6 h.2⟩
    by_cases h3 : zm ≤ 5
    ·by_cases h4 : pickV b zq 6 = 0
     ·rw [nam_3 h h2 hz.symm h3 h4]
      refine ⟨by dsimp only; omega, by dsimp only; omega, by dsimp only; omega, ?_, fun hk => ?_⟩
      ·dsimp only; rw [Pat.size_eq]; simp only [Pat.kids, Pats.size]; rw [so]; omega
      ·dsimp only; rw [Pat.ok_iff]; exact ⟨by simp [Pat.kids], ko hk, trivial⟩
     ·rw [nam_4 h h2 hz.symm h3 h4]
      exact ⟨b1, b2, by dsimp only; omega, by dsimp only; rw [so]; omega, ko⟩
    ·rw [nam_5 h h2 hz.symm h3]
     exact ⟨b1, b2, by dsimp only; omega, by dsimp only; rw [so]; omega, ko⟩
theorem namL_end {f : Pat → Int → Nat → Pat × Int × Nat} {ks : List Pat} {zm : Int} {zq : Nat} {z : List Pat × Int × Nat} (h : (ks ++ (namL f [] zm zq).1, (namL f [] zm zq).2) = z) : (ks, zm, zq) = z := by
 rw [← h]; simp [namL]
theorem Pats.size_snoc {l : List Pat} {y : Pat} : Pats.size (l ++ [y]) = Pats.size l + y.size := by
 have := Pats.size_split (pre := l) (rest := []) (y := y) rfl
 simpa [Pats.size] using this
theorem spec_l3Name_fn {b : Str} (hb : b.length ≤ 2000) : ∀ (n : Nat) {p : Pat} {m : Int} {q : Nat}, p.size ≤ n → p.ok → 0 ≤ m → m ≤ 6 → q + 2 * p.size ≤ 1000000 →
  FnD Try.prog 157 [.ref 900 0, .agg [.d (.i p.op), .d (.i p.ctor), .d (.i p.n), .d (.i p.m), .d (.i p.var), .d (encPats p.kids)], .d (.i m)] [(900, some (rdB b q))] (.tup [.agg [.d (.i (namP b n p m q).1.op), .d (.i (namP b n p m q).1.ctor), .d (.i (namP b n p m q).1.n), .d (.i (namP b n p m q).1.m), .d (.i (namP b n p m q).1.var), .d (encPats (namP b n p m q).1.kids)], .d (.i (namP b n p m q).2.1)]) [(900, some (rdB b (namP b n p m q).2.2))]
 | 0, p, m, q, h, _, _, _, _ => by rw [Pat.size_eq] at h; omega
 | n + 1, p, m, q, kn, hok, k0, k6, hq => by
  have hs := Pat.size_eq p
  have hok' := hok
  rw [Pat.ok_iff] at hok'
  have ih := fun (x : Pat) (m : Int) (q : Nat) (h0 : 0 ≤ m) (h6 : m ≤ 6) => namP_ok (b := b) n x m q h0 h6
  have hysz : ∀ {pre rest : List Pat} {y : Pat}, pre ++ y :: rest = p.kids → y.size + Pats.size pre + Pats.size rest = Pats.size p.kids := fun h => by have := Pats.size_split h; omega
  have hq1 : (if p.op = 1 then q + 1 else q) ≤ q + 1 := by split <;> omega
  generalize hqq : (if p.op = 1 then q + 1 else q) = q1 at hq1
  have hqa : p.op = 1 → q1 = q + 1 := fun h => by rw [← hqq, if_pos h]
  have hqb : ¬ p.op = 1 → q1 = q := fun h => by rw [← hqq, if_neg h]
  refine bd Try.f157 82 [] [] fun w0 F0 own kept hk => ?_
  refine Walk.box (id := 3004) .none rfl rfl rfl rfl rfl rfl rfl ?_
  refine Walk.alloc (id := 3006) tz58 rfl .none rfl rfl rfl rfl ?_
  refine ev ?_
  refine sq (fun h1 h1p h1s => ?_) fun h1 h1p h1s => ?_
  ·try simp only [Q, Pat.cs_len] at h1p
   refine sqT ?_
   refine sqT ?_
   refine Walk.store ty58 .none rfl rfl rfl rfl rfl rfl (by simp) rfl ?_
   refine ev ?_
   refine rn [(900, some (rdB b (namP b (n + 1) p m q).2.2))] (.cons (.cellA ty58 rfl rfl rfl) (.cons (.tmp rfl) .nil)) (.tup (.cons (.agg (.cons (.eqd ?_) (.cons (.eqd ?_) (.cons (.eqd ?_) (.cons (.eqd ?_) (.cons (.eqd ?_) (.cons (.eqd ?_) .nil))))))) (.cons (.eqd ?_) .nil))) ⟨rfl, rfl⟩ (SubO.get ⟨.inr (by first | (rw [nam_1 (by omega)]; all_goals first | rfl | (show _ = D.sl (Pat.cs _); rw [Pat.cs_cc]; all_goals rfl) | (show _ = Pat.cs _; rw [Pat.cs_cc]; all_goals rfl) | (show _ = D.sl [[D.i _, D.i _, D.i _, D.i _, D.i _, D.sl (Pat.cs _)]]; rw [Pat.cs_cc]; all_goals rfl)) | (rw [nam_2 (by omega) ⟨by omega, by omega⟩]; all_goals first | rfl | (show _ = D.sl (Pat.cs _); rw [Pat.cs_cc]; all_goals rfl) | (show _ = Pat.cs _; rw [Pat.cs_cc]; all_goals rfl) | (show _ = D.sl [[D.i _, D.i _, D.i _, D.i _, D.i _, D.sl (Pat.cs _)]]; rw [Pat.cs_cc]; all_goals rfl)) | (have hz : (ks, zm, zq) = namL (namP b n) p.kids m (if p.op = 1 then q + 1 else q) := (by rw [hqq]; exact namL_end hg1.2.2.2.2.2); rw [nam_3 (by omega) (fun hh => by omega) hz (by omega) (by omega)]; all_goals first | rfl | (show _ = D.sl (Pat.cs _); rw [Pat.cs_cc]; all_goals rfl) | (show _ = Pat.cs _; rw [Pat.cs_cc]; all_goals rfl) | (show _ = D.sl [[D.i _, D.i _, D.i _, D.i _, D.i _, D.sl (Pat.cs _)]]; rw [Pat.cs_cc]; all_goals rfl)) | (have hz : (ks, zm, zq) = namL (namP b n) p.kids m (if p.op = 1 then q + 1 else q) := (by rw [hqq]; exact namL_end hg1.2.2.2.2.2); rw [nam_4 (by omega) (fun hh => by omega) hz (by omega) (by omega)]; all_goals first | rfl | (show _ = D.sl (Pat.cs _); rw [Pat.cs_cc]; all_goals rfl) | (show _ = Pat.cs _; rw [Pat.cs_cc]; all_goals rfl) | (show _ = D.sl [[D.i _, D.i _, D.i _, D.i _, D.i _, D.sl (Pat.cs _)]]; rw [Pat.cs_cc]; all_goals rfl)) | (have hz : (ks, zm, zq) = namL (namP b n) p.kids m (if p.op = 1 then q + 1 else q) := (by rw [hqq]; exact namL_end hg1.2.2.2.2.2); rw [nam_5 (by omega) (fun hh => by omega) hz (by omega)]; all_goals first | rfl | (show _ = D.sl (Pat.cs _); rw [Pat.cs_cc]; all_goals rfl) | (show _ = Pat.cs _; rw [Pat.cs_cc]; all_goals rfl) | (show _ = D.sl [[D.i _, D.i _, D.i _, D.i _, D.i _, D.sl (Pat.cs _)]]; rw [Pat.cs_cc]; all_goals rfl))), ⟨.inl rfl, trivial⟩⟩) (boxOK rfl)
   all_goals (first | (rw [nam_1 (by omega)]; all_goals first | rfl | (show _ = D.sl (Pat.cs _); rw [Pat.cs_cc]; all_goals rfl) | (show _ = Pat.cs _; rw [Pat.cs_cc]; all_goals rfl) | (show _ = D.sl [[D.i _, D.i _, D.i _, D.i _, D.i _, D.sl (Pat.cs _)]]; rw [Pat.cs_cc]; all_goals rfl)) | (rw [nam_2 (by omega) ⟨by omega, by omega⟩]; all_goals first | rfl | (show _ = D.sl (Pat.cs _); rw [Pat.cs_cc]; all_goals rfl) | (show _ = Pat.cs _; rw [Pat.cs_cc]; all_goals rfl) | (show _ = D.sl [[D.i _, D.i _, D.i _, D.i _, D.i _, D.sl (Pat.cs _)]]; rw [Pat.cs_cc]; all_goals rfl)) | (have hz : (ks, zm, zq) = namL (namP b n) p.kids m (if p.op = 1 then q + 1 else q) := (by rw [hqq]; exact namL_end hg1.2.2.2.2.2); rw [nam_3 (by omega) (fun hh => by omega) hz (by omega) (by omega)]; all_goals first | rfl | (show _ = D.sl (Pat.cs _); rw [Pat.cs_cc]; all_goals rfl) | (show _ = Pat.cs _; rw [Pat.cs_cc]; all_goals rfl) | (show _ = D.sl [[D.i _, D.i _, D.i _, D.i _, D.i _, D.sl (Pat.cs _)]]; rw [Pat.cs_cc]; all_goals rfl)) | (have hz : (ks, zm, zq) = namL (namP b n) p.kids m (if p.op = 1 then q + 1 else q) := (by rw [hqq]; exact namL_end hg1.2.2.2.2.2); rw [nam_4 (by omega) (fun hh => by omega) hz (by omega) (by omega)]; all_goals first | rfl | (show _ = D.sl (Pat.cs _); rw [Pat.cs_cc]; all_goals rfl) | (show _ = Pat.cs _; rw [Pat.cs_cc]; all_goals rfl) | (show _ = D.sl [[D.i _, D.i _, D.i _, D.i _, D.i _, D.sl (Pat.cs _)]]; rw [Pat.cs_cc]; all_goals rfl)) | (have hz : (ks, zm, zq) = namL (namP b n) p.kids m (if p.op = 1 then q + 1 else q) := (by rw [hqq]; exact namL_end hg1.2.2.2.2.2); rw [nam_5 (by omega) (fun hh => by omega) hz (by omega)]; all_goals first | rfl | (show _ = D.sl (Pat.cs _); rw [Pat.cs_cc]; all_goals rfl) | (show _ = Pat.cs _; rw [Pat.cs_cc]; all_goals rfl) | (show _ = D.sl [[D.i _, D.i _, D.i _, D.i _, D.i _, D.sl (Pat.cs _)]]; rw [Pat.cs_cc]; all_goals rfl)))
  ·try simp only [Q, Pat.cs_len] at h1p
   refine sq (fun h3 h3p h3s => ?_) fun h3 h3p h3s => ?_
   ·try simp only [Q, Pat.cs_len] at h3p
    refine sqT ?_
    refine Walk.store ty58 .none rfl rfl rfl rfl rfl rfl (by simp) rfl ?_
    refine ev ?_
    refine rn [(900, some (rdB b (namP b (n + 1) p m q).2.2))] (.cons (.cellA ty58 rfl rfl rfl) (.cons (.tmp rfl) .nil)) (.tup (.cons (.agg (.cons (.eqd ?_) (.cons (.eqd ?_) (.cons (.eqd ?_) (.cons (.eqd ?_) (.cons (.eqd ?_) (.cons (.eqd ?_) .nil))))))) (.cons (.eqd ?_) .nil))) ⟨rfl, rfl⟩ (SubO.get ⟨.inr (by first | (rw [nam_1 (by omega)]; all_goals first | rfl | (show _ = D.sl (Pat.cs _); rw [Pat.cs_cc]; all_goals rfl) | (show _ = Pat.cs _; rw [Pat.cs_cc]; all_goals rfl) | (show _ = D.sl [[D.i _, D.i _, D.i _, D.i _, D.i _, D.sl (Pat.cs _)]]; rw [Pat.cs_cc]; all_goals rfl)) | (rw [nam_2 (by omega) ⟨by omega, by omega⟩]; all_goals first | rfl | (show _ = D.sl (Pat.cs _); rw [Pat.cs_cc]; all_goals rfl) | (show _ = Pat.cs _; rw [Pat.cs_cc]; all_goals rfl) | (show _ = D.sl [[D.i _, D.i _, D.i _, D.i _, D.i _, D.sl (Pat.cs _)]]; rw [Pat.cs_cc]; all_goals rfl)) | (have hz : (ks, zm, zq) = namL (namP b n) p.kids m (if p.op = 1 then q + 1 else q) := (by rw [hqq]; exact namL_end hg1.2.2.2.2.2); rw [nam_3 (by omega) (fun hh => by omega) hz (by omega) (by omega)]; all_goals first | rfl | (show _ = D.sl (Pat.cs _); rw [Pat.cs_cc]; all_goals rfl) | (show _ = Pat.cs _; rw [Pat.cs_cc]; all_goals rfl) | (show _ = D.sl [[D.i _, D.i _, D.i _, D.i _, D.i _, D.sl (Pat.cs _)]]; rw [Pat.cs_cc]; all_goals rfl)) | (have hz : (ks, zm, zq) = namL (namP b n) p.kids m (if p.op = 1 then q + 1 else q) := (by rw [hqq]; exact namL_end hg1.2.2.2.2.2); rw [nam_4 (by omega) (fun hh => by omega) hz (by omega) (by omega)]; all_goals first | rfl | (show _ = D.sl (Pat.cs _); rw [Pat.cs_cc]; all_goals rfl) | (show _ = Pat.cs _; rw [Pat.cs_cc]; all_goals rfl) | (show _ = D.sl [[D.i _, D.i _, D.i _, D.i _, D.i _, D.sl (Pat.cs _)]]; rw [Pat.cs_cc]; all_goals rfl)) | (have hz : (ks, zm, zq) = namL (namP b n) p.kids m (if p.op = 1 then q + 1 else q) := (by rw [hqq]; exact namL_end hg1.2.2.2.2.2); rw [nam_5 (by omega) (fun hh => by omega) hz (by omega)]; all_goals first | rfl | (show _ = D.sl (Pat.cs _); rw [Pat.cs_cc]; all_goals rfl) | (show _ = Pat.cs _; rw [Pat.cs_cc]; all_goals rfl) | (show _ = D.sl [[D.i _, D.i _, D.i _, D.i _, D.i _, D.sl (Pat.cs _)]]; rw [Pat.cs_cc]; all_goals rfl))), ⟨.inl rfl, trivial⟩⟩) (boxOK rfl)
    all_goals (first | (rw [nam_1 (by omega)]; all_goals first | rfl | (show _ = D.sl (Pat.cs _); rw [Pat.cs_cc]; all_goals rfl) | (show _ = Pat.cs _; rw [Pat.cs_cc]; all_goals rfl) | (show _ = D.sl [[D.i _, D.i _, D.i _, D.i _, D.i _, D.sl (Pat.cs _)]]; rw [Pat.cs_cc]; all_goals rfl)) | (rw [nam_2 (by omega) ⟨by omega, by omega⟩]; all_goals first | rfl | (show _ = D.sl (Pat.cs _); rw [Pat.cs_cc]; all_goals rfl) | (show _ = Pat.cs _; rw [Pat.cs_cc]; all_goals rfl) | (show _ = D.sl [[D.i _, D.i _, D.i _, D.i _, D.i _, D.sl (Pat.cs _)]]; rw [Pat.cs_cc]; all_goals rfl)) | (have hz : (ks, zm, zq) = namL (namP b n) p.kids m (if p.op = 1 then q + 1 else q) := (by rw [hqq]; exact namL_end hg1.2.2.2.2.2); rw [nam_3 (by omega) (fun hh => by omega) hz (by omega) (by omega)]; all_goals first | rfl | (show _ = D.sl (Pat.cs _); rw [Pat.cs_cc]; all_goals rfl) | (show _ = Pat.cs _; rw [Pat.cs_cc]; all_goals rfl) | (show _ = D.sl [[D.i _, D.i _, D.i _, D.i _, D.i _, D.sl (Pat.cs _)]]; rw [Pat.cs_cc]; all_goals rfl)) | (have hz : (ks, zm, zq) = namL (namP b n) p.kids m (if p.op = 1 then q + 1 else q) := (by rw [hqq]; exact namL_end hg1.2.2.2.2.2); rw [nam_4 (by omega) (fun hh => by omega) hz (by omega) (by omega)]; all_goals first | rfl | (show _ = D.sl (Pat.cs _); rw [Pat.cs_cc]; all_goals rfl) | (show _ = Pat.cs _; rw [Pat.cs_cc]; all_goals rfl) | (show _ = D.sl [[D.i _, D.i _, D.i _, D.i _, D.i _, D.sl (Pat.cs _)]]; rw [Pat.cs_cc]; all_goals rfl)) | (have hz : (ks, zm, zq) = namL (namP b n) p.kids m (if p.op = 1 then q + 1 else q) := (by rw [hqq]; exact namL_end hg1.2.2.2.2.2); rw [nam_5 (by omega) (fun hh => by omega) hz (by omega)]; all_goals first | rfl | (show _ = D.sl (Pat.cs _); rw [Pat.cs_cc]; all_goals rfl) | (show _ = Pat.cs _; rw [Pat.cs_cc]; all_goals rfl) | (show _ = D.sl [[D.i _, D.i _, D.i _, D.i _, D.i _, D.sl (Pat.cs _)]]; rw [Pat.cs_cc]; all_goals rfl)))
   ·try simp only [Q, Pat.cs_len] at h3p
    refine sq (fun h5 h5p h5s => ?_) fun h5 h5p h5s => ?_
    ·try simp only [Q, Pat.cs_len] at h5p
     refine Walk.store ty58 .none rfl rfl rfl rfl rfl rfl (by simp) rfl ?_
     refine ev ?_
     refine rn [(900, some (rdB b (namP b (n + 1) p m q).2.2))] (.cons (.cellA ty58 rfl rfl rfl) (.cons (.tmp rfl) .nil)) (.tup (.cons (.agg (.cons (.eqd ?_) (.cons (.eqd ?_) (.cons (.eqd ?_) (.cons (.eqd ?_) (.cons (.eqd ?_) (.cons (.eqd ?_) .nil))))))) (.cons (.eqd ?_) .nil))) ⟨rfl, rfl⟩ (SubO.get ⟨.inr (by first | (rw [nam_1 (by omega)]; all_goals first | rfl | (show _ = D.sl (Pat.cs _); rw [Pat.cs_cc]; all_goals rfl) | (show _ = Pat.cs _; rw [Pat.cs_cc]; all_goals rfl) | (show _ = D.sl [[D.i _, D.i _, D.i _, D.i _, D.i _, D.sl (Pat.cs _)]]; rw [Pat.cs_cc]; all_goals rfl)) | (rw [nam_2 (by omega) ⟨by omega, by omega⟩]; all_goals first | rfl | (show _ = D.sl (Pat.cs _); rw [Pat.cs_cc]; all_goals rfl) | (show _ = Pat.cs _; rw [Pat.cs_cc]; all_goals rfl) | (show _ = D.sl [[D.i _, D.i _, D.i _, D.i _, D.i _, D.sl (Pat.cs _)]]; rw [Pat.cs_cc]; all_goals rfl)) | (have hz : (ks, zm, zq) = namL (namP b n) p.kids m (if p.op = 1 then q + 1 else q) := (by rw [hqq]; exact namL_end hg1.2.2.2.2.2); rw [nam_3 (by omega) (fun hh => by omega) hz (by omega) (by omega)]; all_goals first | rfl | (show _ = D.sl (Pat.cs _); rw [Pat.cs_cc]; all_goals rfl) | (show _ = Pat.cs _; rw [Pat.cs_cc]; all_goals rfl) | (show _ = D.sl [[D.i _, D.i _, D.i _, D.i _, D.i _, D.sl (Pat.cs _)]]; rw [Pat.cs_cc]; all_goals rfl)) | (have hz : (ks, zm, zq) = namL (namP b n) p.kids m (if p.op = 1 then q + 1 else q) := (by rw [hqq]; exact namL_end hg1.2.2.2.2.2); rw [nam_4 (by omega) (fun hh => by omega) hz (by omega) (by omega)]; all_goals first | rfl | (show _ = D.sl (Pat.cs _); rw [Pat.cs_cc]; all_goals rfl) | (show _ = Pat.cs _; rw [Pat.cs_cc]; all_goals rfl) | (show _ = D.sl [[D.i _, D.i _, D.i _, D.i _, D.i _, D.sl (Pat.cs _)]]; rw [Pat.cs_cc]; all_goals rfl)) | (have hz : (ks, zm, zq) = namL (namP b n) p.kids m (if p.op = 1 then q + 1 else q) := (by rw [hqq]; exact namL_end hg1.2.2.2.2.2); rw [nam_5 (by omega) (fun hh => by omega) hz (by omega)]; all_goals first | rfl | (show _ = D.sl (Pat.cs _); rw [Pat.cs_cc]; all_goals rfl) | (show _ = Pat.cs _; rw [Pat.cs_cc]; all_goals rfl) | (show _ = D.sl [[D.i _, D.i _, D.i _, D.i _, D.i _, D.sl (Pat.cs _)]]; rw [Pat.cs_cc]; all_goals rfl))), ⟨.inl rfl, trivial⟩⟩) (boxOK rfl)
     all_goals (first | (rw [nam_1 (by omega)]; all_goals first | rfl | (show _ = D.sl (Pat.cs _); rw [Pat.cs_cc]; all_goals rfl) | (show _ = Pat.cs _; rw [Pat.cs_cc]; all_goals rfl) | (show _ = D.sl [[D.i _, D.i _, D.i _, D.i _, D.i _, D.sl (Pat.cs _)]]; rw [Pat.cs_cc]; all_goals rfl)) | (rw [nam_2 (by omega) ⟨by omega, by omega⟩]; all_goals first | rfl | (show _ = D.sl (Pat.cs _); rw [Pat.cs_cc]; all_goals rfl) | (show _ = Pat.cs _; rw [Pat.cs_cc]; all_goals rfl) | (show _ = D.sl [[D.i _, D.i _, D.i _, D.i _, D.i _, D.sl (Pat.cs _)]]; rw [Pat.cs_cc]; all_goals rfl)) | (have hz : (ks, zm, zq) = namL (namP b n) p.kids m (if p.op = 1 then q + 1 else q) := (by rw [hqq]; exact namL_end hg1.2.2.2.2.2); rw [nam_3 (by omega) (fun hh => by omega) hz (by omega) (by omega)]; all_goals first | rfl | (show _ = D.sl (Pat.cs _); rw [Pat.cs_cc]; all_goals rfl) | (show _ = Pat.cs _; rw [Pat.cs_cc]; all_goals rfl) | (show _ = D.sl [[D.i _, D.i _, D.i _, D.i _, D.i _, D.sl (Pat.cs _)]]; rw [Pat.cs_cc]; all_goals rfl)) | (have hz : (ks, zm, zq) = namL (namP b n) p.kids m (if p.op = 1 then q + 1 else q) := (by rw [hqq]; exact namL_end hg1.2.2.2.2.2); rw [nam_4 (by omega) (fun hh => by omega) hz (by omega) (by omega)]; all_goals first | rfl | (show _ = D.sl (Pat.cs _); rw [Pat.cs_cc]; all_goals rfl) | (show _ = Pat.cs _; rw [Pat.cs_cc]; all_goals rfl) | (show _ = D.sl [[D.i _, D.i _, D.i _, D.i _, D.i _, D.sl (Pat.cs _)]]; rw [Pat.cs_cc]; all_goals rfl)) | (have hz : (ks, zm, zq) = namL (namP b n) p.kids m (if p.op = 1 then q + 1 else q) := (by rw [hqq]; exact namL_end hg1.2.2.2.2.2); rw [nam_5 (by omega) (fun hh => by omega) hz (by omega)]; all_goals first | rfl | (show _ = D.sl (Pat.cs _); rw [Pat.cs_cc]; all_goals rfl) | (show _ = Pat.cs _; rw [Pat.cs_cc]; all_goals rfl) | (show _ = D.sl [[D.i _, D.i _, D.i _, D.i _, D.i _, D.sl (Pat.cs _)]]; rw [Pat.cs_cc]; all_goals rfl)))
    ·try simp only [Q, Pat.cs_len] at h5p
     refine sq (fun h6 h6p h6s => ?_) fun h6 h6p h6s => ?_
     ·try simp only [Q, Pat.cs_len] at h6p
      refine Walk.call (cr := []) cal102 (spec_pick_fn (p := q) (n := 2) hb (by omega) (by omega)) rfl (.some rfl rfl h6) rfl rfl (LeL.refl _) ⟨rfl, trivial⟩ rfl rfl rfl ?_
      refine evs [] [(30, true)] ?_ ⟨⟨_, rfl, h6⟩, trivial⟩
      refine sq (fun h7 h7p h7s => ?_) fun h7 h7p h7s => ?_
      ·try simp only [Q, Pat.cs_len] at h7p
       refine Walk.build st58 (ks := [0, 4]) (xs := [_, _]) rfl rfl .none rfl rfl rfl ?_
       refine ev ?_
       refine ar ?_
       refine Walk.store ty58 .none rfl rfl rfl rfl rfl rfl (by simp) rfl ?_
       refine ev ?_
       refine rn [(900, some (rdB b (namP b (n + 1) p m q).2.2))] (.cons (.cellA ty58 rfl rfl rfl) (.cons (.tmp rfl) .nil)) (.tup (.cons (.agg (.cons (.eqd ?_) (.cons (.eqd ?_) (.cons (.eqd ?_) (.cons (.eqd ?_) (.cons (.eqd ?_) (.cons (.nild ?_) .nil))))))) (.cons (.eqd ?_) .nil))) ⟨rfl, rfl⟩ (SubO.get ⟨.inr (by first | (rw [nam_1 (by omega)]; all_goals first | rfl | (show _ = D.sl (Pat.cs _); rw [Pat.cs_cc]; all_goals rfl) | (show _ = Pat.cs _; rw [Pat.cs_cc]; all_goals rfl) | (show _ = D.sl [[D.i _, D.i _, D.i _, D.i _, D.i _, D.sl (Pat.cs _)]]; rw [Pat.cs_cc]; all_goals rfl)) | (rw [nam_2 (by omega) ⟨by omega, by omega⟩]; all_goals first | rfl | (show _ = D.sl (Pat.cs _); rw [Pat.cs_cc]; all_goals rfl) | (show _ = Pat.cs _; rw [Pat.cs_cc]; all_goals rfl) | (show _ = D.sl [[D.i _, D.i _, D.i _, D.i _, D.i _, D.sl (Pat.cs _)]]; rw [Pat.cs_cc]; all_goals rfl)) | (have hz : (ks, zm, zq) = namL (namP b n) p.kids m (if p.op = 1 then q + 1 else q) := (by rw [hqq]; exact namL_end hg1.2.2.2.2.2); rw [nam_3 (by omega) (fun hh => by omega) hz (by omega) (by omega)]; all_goals first | rfl | (show _ = D.sl (Pat.cs _); rw [Pat.cs_cc]; all_goals rfl) | (show _ = Pat.cs _; rw [Pat.cs_cc]; all_goals rfl) | (show _ = D.sl [[D.i _, D.i _, D.i _, D.i _, D.i _, D.sl (Pat.cs _)]]; rw [Pat.cs_cc]; all_goals rfl)) | (have hz : (ks, zm, zq) = namL (namP b n) p.kids m (if p.op = 1 then q + 1 else q) := (by rw [hqq]; exact namL_end hg1.2.2.2.2.2); rw [nam_4 (by omega) (fun hh => by omega) hz (by omega) (by omega)]; all_goals first | rfl | (show _ = D.sl (Pat.cs _); rw [Pat.cs_cc]; all_goals rfl) | (show _ = Pat.cs _; rw [Pat.cs_cc]; all_goals rfl) | (show _ = D.sl [[D.i _, D.i _, D.i _, D.i _, D.i _, D.sl (Pat.cs _)]]; rw [Pat.cs_cc]; all_goals rfl)) | (have hz : (ks, zm, zq) = namL (namP b n) p.kids m (if p.op = 1 then q + 1 else q) := (by rw [hqq]; exact namL_end hg1.2.2.2.2.2); rw [nam_5 (by omega) (fun hh => by omega) hz (by omega)]; all_goals first | rfl | (show _ = D.sl (Pat.cs _); rw [Pat.cs_cc]; all_goals rfl) | (show _ = Pat.cs _; rw [Pat.cs_cc]; all_goals rfl) | (show _ = D.sl [[D.i _, D.i _, D.i _, D.i _, D.i _, D.sl (Pat.cs _)]]; rw [Pat.cs_cc]; all_goals rfl))), ⟨.inl rfl, trivial⟩⟩) (boxOK rfl)
       all_goals (first | (rw [nam_1 (by omega)]; all_goals first | rfl | (show _ = D.sl (Pat.cs _); rw [Pat.cs_cc]; all_goals rfl) | (show _ = Pat.cs _; rw [Pat.cs_cc]; all_goals rfl) | (show _ = D.sl [[D.i _, D.i _, D.i _, D.i _, D.i _, D.sl (Pat.cs _)]]; rw [Pat.cs_cc]; all_goals rfl)) | (rw [nam_2 (by omega) ⟨by omega, by omega⟩]; all_goals first | rfl | (show _ = D.sl (Pat.cs _); rw [Pat.cs_cc]; all_goals rfl) | (show _ = Pat.cs _; rw [Pat.cs_cc]; all_goals rfl) | (show _ = D.sl [[D.i _, D.i _, D.i _, D.i _, D.i _, D.sl (Pat.cs _)]]; rw [Pat.cs_cc]; all_goals rfl)) | (have hz : (ks, zm, zq) = namL (namP b n) p.kids m (if p.op = 1 then q + 1 else q) := (by rw [hqq]; exact namL_end hg1.2.2.2.2.2); rw [nam_3 (by omega) (fun hh => by omega) hz (by omega) (by omega)]; all_goals first | rfl | (show _ = D.sl (Pat.cs _); rw [Pat.cs_cc]; all_goals rfl) | (show _ = Pat.cs _; rw [Pat.cs_cc]; all_goals rfl) | (show _ = D.sl [[D.i _, D.i _, D.i _, D.i _, D.i _, D.sl (Pat.cs _)]]; rw [Pat.cs_cc]; all_goals rfl)) | (have hz : (ks, zm, zq) = namL (namP b n) p.kids m (if p.op = 1 then q + 1 else q) := (by rw [hqq]; exact namL_end hg1.2.2.2.2.2); rw [nam_4 (by omega) (fun hh => by omega) hz (by omega) (by omega)]; all_goals first | rfl | (show _ = D.sl (Pat.cs _); rw [Pat.cs_cc]; all_goals rfl) | (show _ = Pat.cs _; rw [Pat.cs_cc]; all_goals rfl) | (show _ = D.sl [[D.i _, D.i _, D.i _, D.i _, D.i _, D.sl (Pat.cs _)]]; rw [Pat.cs_cc]; all_goals rfl)) | (have hz : (ks, zm, zq) = namL (namP b n) p.kids m (if p.op = 1 then q + 1 else q) := (by rw [hqq]; exact namL_end hg1.2.2.2.2.2); rw [nam_5 (by omega) (fun hh => by omega) hz (by omega)]; all_goals first | rfl | (show _ = D.sl (Pat.cs _); rw [Pat.cs_cc]; all_goals rfl) | (show _ = Pat.cs _; rw [Pat.cs_cc]; all_goals rfl) | (show _ = D.sl [[D.i _, D.i _, D.i _, D.i _, D.i _, D.sl (Pat.cs _)]]; rw [Pat.cs_cc]; all_goals rfl)))
      ·try simp only [Q, Pat.cs_len] at h7p
       refine Walk.alloc (id := 3008) tz58 rfl .none rfl rfl rfl rfl ?_
       refine Walk.store ty58 .none rfl rfl rfl rfl rfl rfl (by simp) rfl ?_
       refine tv ?_
       refine Walk.store ty56 .none rfl rfl rfl rfl rfl rfl (by simp) rfl ?_
       refine tv ?_
       refine CWp.tokB 3008 5 1 6 rfl rfl rfl rfl ?_
       refine CWp.loopX (ι := List (Pat) × List (Pat) × (Int) × (Nat) × (List Pat)) hk (fun x => [(10, .d (.i (x.1.length : Int))), (9, .d (.i x.2.2.1))]) [11, 12, 42, 43, 44, 45, 46, 47, 48, 49, 50, 51, 52, 53, 54, 55, 56, 57, 58, 59, 60, 61, 62, 63, 64, 65, 66] (fun x => [(900, some (.box [.d (encBytes b), .d (.i (x.2.2.2.1 : Int))])), (3008, some (.box [.d (.i p.op), .d (.i p.ctor), .d (.i p.n), .d (.i p.m), .d (.i p.var), .gl 1 (x.2.2.2.2.map Pat.cc)])), (1, some (.tok (x.2.2.2.2.map Pat.cc).length 6))]) (fun x => x.1 ++ x.2.1 = p.kids ∧ 0 ≤ x.2.2.1 ∧ x.2.2.1 ≤ 6 ∧ x.2.2.2.1 ≤ q1 + 2 * Pats.size x.1 ∧ x.2.2.2.2.length = x.1.length ∧ (x.2.2.2.2 ++ (namL (namP b n) x.2.1 x.2.2.1 x.2.2.2.1).1, (namL (namP b n) x.2.1 x.2.2.1 x.2.2.2.1).2) = namL (namP b n) p.kids m q1) (fun x => x.2.1.length) ([], p.kids, m, q1, []) ⟨by simp, by simpa using k0, by simpa using k6, by simp [Pats.size], by simp, by simp⟩ ⟨⟨_, rfl, (LeA.eqi (by first | rfl | (simp; done) | omega))⟩, ⟨⟨_, rfl, (LeA.eqi (by first | rfl | (simp; done) | omega))⟩, trivial⟩⟩ ⟨(by first | rfl | (simp [getH]; done) | (show some (Res.box _) = some (Res.box _); rw [hqa (by omega)]; all_goals rfl) | (show some (Res.box _) = some (Res.box _); rw [hqb (by omega)]; all_goals rfl)), ⟨(by first | rfl | (simp [getH]; done) | (show some (Res.box _) = some (Res.box _); rw [hqa (by omega)]; all_goals rfl) | (show some (Res.box _) = some (Res.box _); rw [hqb (by omega)]; all_goals rfl)), ⟨beq_nat_eq (by first | rfl | (simp; done) | (simp; omega) | (first | rfl | (simp; done) | omega)), trivial⟩⟩⟩ (fun x => rfl) (fun x hg1 => ?_)
       obtain ⟨pre, rest, zm, zq, ks⟩ := x
       dsimp only at hg1 ⊢
       refine evc [] [] ?_
       refine sq (fun h8 h8p h8s => ?_) fun h8 h8p h8s => ?_
       ·try simp only [Q, Pat.cs_len] at h8p
        rcases rest with _ | ⟨y, rest⟩
        ·exfalso; simp_all
        have hni := ih y zm zq hg1.2.1 hg1.2.2.1; have hn1 := hni.1; have hn2 := hni.2.1; have hn3 := hni.2.2.1
        refine Walk.idx sl56 .none rfl rfl rfl rfl (Pat.cs_at' hg1.1) rfl ?_
        refine ev ?_
        refine Walk.call (cr := []) cal157 (spec_l3Name_fn hb n (p := y) (m := zm) (q := zq) (by have := hysz hg1.1; omega) (Pats.ok_mem hok'.2 y (by rw [← hg1.1]; simp)) (by omega) (by omega) (by have := hysz hg1.1; omega)) rfl .none rfl rfl (LeL.refl _) ⟨rfl, trivial⟩ rfl rfl rfl ?_
        refine ev ?_
        refine Walk.alloc (id := 3011) tz58 rfl .none rfl rfl rfl rfl ?_
        refine Walk.store ty58 .none rfl rfl rfl rfl rfl rfl (by simp) rfl ?_
        refine ev ?_
        refine Walk.sliceLit sl56 tz58 rfl (by decide) (ks := [0]) (xs := [_]) rfl rfl (by decide) (by decide) .none rfl rfl rfl rfl ?_
        refine Walk.append sl56 zz58 rfl .none rfl rfl rfl rfl (htokL rfl (by first | rfl | (simp; done) | (simp; omega))) (by simp) (by have hz := congrArg List.length hg1.1; simp at hz ⊢; omega) (by have hz := congrArg List.length hg1.1; simp at hz ⊢; omega) ?_
        refine ev ?_
        refine Walk.store ty56 .none rfl rfl rfl rfl rfl rfl (by simp) rfl ?_
        refine tv ?_
        refine ar ?_
        refine Exists.intro ((pre ++ [y], rest, (namP b n y zm zq).2.1, (namP b n y zm zq).2.2, ks ++ [(namP b n y zm zq).1])) ⟨⟨(by have hz := hg1.1; rw [← hz]; simp), ⟨by dsimp only; omega, by dsimp only; omega, (by rw [Pats.size_snoc]; dsimp only; omega), (by simp [hg1.2.2.2.2.1]), (by rw [← hg1.2.2.2.2.2]; simp [namL])⟩⟩, (by simp), Sub.x (by kernel_rfl) (by kernel_rfl) ⟨⟨_, rfl, (LeA.eqi (by first | rfl | (simp; done) | omega))⟩, ⟨⟨_, rfl, (LeA.eqi (by first | rfl | (simp; done) | omega))⟩, trivial⟩⟩ (by kernel_rfl) (by kernel_rfl) ⟨(by first | rfl | (simp [getH]; done) | (show some (Res.box _) = some (Res.box _); rw [hqa (by omega)]; all_goals rfl) | (show some (Res.box _) = some (Res.box _); rw [hqb (by omega)]; all_goals rfl)), ⟨(by first | rfl | (simp [getH]; done) | (show some (Res.box _) = some (Res.box _); rw [hqa (by omega)]; all_goals rfl) | (show some (Res.box _) = some (Res.box _); rw [hqb (by omega)]; all_goals rfl)), ⟨beq_nat_eq (by first | rfl | (simp; done) | (simp; omega) | (first | rfl | (simp; done) | omega)), trivial⟩⟩⟩⟩
       ·try simp only [Q, Pat.cs_len] at h8p
        have hrest : rest = [] := by
         rcases rest with _ | ⟨a, b⟩
         ·rfl
         ·exfalso; have hz := congrArg List.length (hg1.1); simp only [List.length_append, List.length_cons, List.length_map] at hz; omega
        subst hrest
        refine sq (fun h9 h9p h9s => ?_) fun h9 h9p h9s => ?_
        ·try simp only [Q, Pat.cs_len] at h9p
         refine Walk.call (cr := []) cal102 (spec_pick_fn (p := zq) (n := 6) hb (by have e := hg1.1; rw [List.append_nil] at e; rw [← e] at hs; omega) (by omega)) rfl (.some rfl rfl h9) rfl rfl (LeL.refl _) ⟨rfl, trivial⟩ rfl rfl rfl ?_
         refine evs [] [(69, true)] ?_ ⟨⟨_, rfl, h9⟩, trivial⟩
         refine sq (fun h10 h10p h10s => ?_) fun h10 h10p h10s => ?_
         ·try simp only [Q, Pat.cs_len] at h10p
          refine Walk.sliceLit sl56 tz58 rfl (by decide) (ks := [0]) (xs := [_]) rfl rfl (by decide) (by decide) .none rfl rfl rfl rfl ?_
          refine Walk.build st58 (ks := [0, 4, 5]) (xs := [_, _, _]) rfl rfl .none rfl rfl rfl ?_
          refine ev ?_
          refine ar ?_
          refine Walk.store ty58 .none rfl rfl rfl rfl rfl rfl (by simp) rfl ?_
          refine ev ?_
          refine rn [(900, some (rdB b (namP b (n + 1) p m q).2.2))] (.cons (.cellA ty58 rfl rfl rfl) (.cons (.tmp rfl) .nil)) (.tup (.cons (.agg (.cons (.eqd ?_) (.cons (.eqd ?_) (.cons (.eqd ?_) (.cons (.eqd ?_) (.cons (.eqd ?_) (.cons (.eqd ?_) .nil))))))) (.cons (.eqd ?_) .nil))) ⟨rfl, rfl⟩ (SubO.get ⟨.inr (by first | (rw [nam_1 (by omega)]; all_goals first | rfl | (show _ = D.sl (Pat.cs _); rw [Pat.cs_cc]; all_goals rfl) | (show _ = Pat.cs _; rw [Pat.cs_cc]; all_goals rfl) | (show _ = D.sl [[D.i _, D.i _, D.i _, D.i _, D.i _, D.sl (Pat.cs _)]]; rw [Pat.cs_cc]; all_goals rfl)) | (rw [nam_2 (by omega) ⟨by omega, by omega⟩]; all_goals first | rfl | (show _ = D.sl (Pat.cs _); rw [Pat.cs_cc]; all_goals rfl) | (show _ = Pat.cs _; rw [Pat.cs_cc]; all_goals rfl) | (show _ = D.sl [[D.i _, D.i _, D.i _, D.i _, D.i _, D.sl (Pat.cs _)]]; rw [Pat.cs_cc]; all_goals rfl)) | (have hz : (ks, zm, zq) = namL (namP b n) p.kids m (if p.op = 1 then q + 1 else q) := (by rw [hqq]; exact namL_end hg1.2.2.2.2.2); rw [nam_3 (by omega) (fun hh => by omega) hz (by omega) (by omega)]; all_goals first | rfl | (show _ = D.sl (Pat.cs _); rw [Pat.cs_cc]; all_goals rfl) | (show _ = Pat.cs _; rw [Pat.cs_cc]; all_goals rfl) | (show _ = D.sl [[D.i _, D.i _, D.i _, D.i _, D.i _, D.sl (Pat.cs _)]]; rw [Pat.cs_cc]; all_goals rfl)) | (have hz : (ks, zm, zq) = namL (namP b n) p.kids m (if p.op = 1 then q + 1 else q) := (by rw [hqq]; exact namL_end hg1.2.2.2.2.2); rw [nam_4 (by omega) (fun hh => by omega) hz (by omega) (by omega)]; all_goals first | rfl | (show _ = D.sl (Pat.cs _); rw [Pat.cs_cc]; all_goals rfl) | (show _ = Pat.cs _; rw [Pat.cs_cc]; all_goals rfl) | (show _ = D.sl [[D.i _, D.i _, D.i _, D.i _, D.i _, D.sl (Pat.cs _)]]; rw [Pat.cs_cc]; all_goals rfl)) | (have hz : (ks, zm, zq) = namL (namP b n) p.kids m (if p.op = 1 then q + 1 else q) := (by rw [hqq]; exact namL_end hg1.2.2.2.2.2); rw [nam_5 (by omega) (fun hh => by omega) hz (by omega)]; all_goals first | rfl | (show _ = D.sl (Pat.cs _); rw [Pat.cs_cc]; all_goals rfl) | (show _ = Pat.cs _; rw [Pat.cs_cc]; all_goals rfl) | (show _ = D.sl [[D.i _, D.i _, D.i _, D.i _, D.i _, D.sl (Pat.cs _)]]; rw [Pat.cs_cc]; all_goals rfl))), ⟨.inl rfl, trivial⟩⟩) (boxOK rfl)
          all_goals (first | (rw [nam_1 (by omega)]; all_goals first | rfl | (show _ = D.sl (Pat.cs _); rw [Pat.cs_cc]; all_goals rfl) | (show _ = Pat.cs _; rw [Pat.cs_cc]; all_goals rfl) | (show _ = D.sl [[D.i _, D.i _, D.i _, D.i _, D.i _, D.sl (Pat.cs _)]]; rw [Pat.cs_cc]; all_goals rfl)) | (rw [nam_2 (by omega) ⟨by omega, by omega⟩]; all_goals first | rfl | (show _ = D.sl (Pat.cs _); rw [Pat.cs_cc]; all_goals rfl) | (show _ = Pat.cs _; rw [Pat.cs_cc]; all_goals rfl) | (show _ = D.sl [[D.i _, D.i _, D.i _, D.i _, D.i _, D.sl (Pat.cs _)]]; rw [Pat.cs_cc]; all_goals rfl)) | (have hz : (ks, zm, zq) = namL (namP b n) p.kids m (if p.op = 1 then q + 1 else q) := (by rw [hqq]; exact namL_end hg1.2.2.2.2.2); rw [nam_3 (by omega) (fun hh => by omega) hz (by omega) (by omega)]; all_goals first | rfl | (show _ = D.sl (Pat.cs _); rw [Pat.cs_cc]; all_goals rfl) | (show _ = Pat.cs _; rw [Pat.cs_cc]; all_goals rfl) | (show _ = D.sl [[D.i _, D.i _, D.i _, D.i _, D.i _, D.sl (Pat.cs _)]]; rw [Pat.cs_cc]; all_goals rfl)) | (have hz : (ks, zm, zq) = namL (namP b n) p.kids m (if p.op = 1 then q + 1 else q) := (by rw [hqq]; exact namL_end hg1.2.2.2.2.2); rw [nam_4 (by omega) (fun hh => by omega) hz (by omega) (by omega)]; all_goals first | rfl | (show _ = D.sl (Pat.cs _); rw [Pat.cs_cc]; all_goals rfl) | (show _ = Pat.cs _; rw [Pat.cs_cc]; all_goals rfl) | (show _ = D.sl [[D.i _, D.i _, D.i _, D.i _, D.i _, D.sl (Pat.cs _)]]; rw [Pat.cs_cc]; all_goals rfl)) | (have hz : (ks, zm, zq) = namL (namP b n) p.kids m (if p.op = 1 then q + 1 else q) := (by rw [hqq]; exact namL_end hg1.2.2.2.2.2); rw [nam_5 (by omega) (fun hh => by omega) hz (by omega)]; all_goals first | rfl | (show _ = D.sl (Pat.cs _); rw [Pat.cs_cc]; all_goals rfl) | (show _ = Pat.cs _; rw [Pat.cs_cc]; all_goals rfl) | (show _ = D.sl [[D.i _, D.i _, D.i _, D.i _, D.i _, D.sl (Pat.cs _)]]; rw [Pat.cs_cc]; all_goals rfl)))
         ·try simp only [Q, Pat.cs_len] at h10p
          refine Walk.store ty58 .none rfl rfl rfl rfl rfl rfl (by simp) rfl ?_
          refine ev ?_
          refine rn [(900, some (rdB b (namP b (n + 1) p m q).2.2))] (.cons (.cellA ty58 rfl rfl rfl) (.cons (.tmp rfl) .nil)) (.tup (.cons (.agg (.cons (.eqd ?_) (.cons (.eqd ?_) (.cons (.eqd ?_) (.cons (.eqd ?_) (.cons (.eqd ?_) (.cons (.gld ?_) .nil))))))) (.cons (.eqd ?_) .nil))) ⟨rfl, rfl⟩ (SubO.get ⟨.inr (by first | (rw [nam_1 (by omega)]; all_goals first | rfl | (show _ = D.sl (Pat.cs _); rw [Pat.cs_cc]; all_goals rfl) | (show _ = Pat.cs _; rw [Pat.cs_cc]; all_goals rfl) | (show _ = D.sl [[D.i _, D.i _, D.i _, D.i _, D.i _, D.sl (Pat.cs _)]]; rw [Pat.cs_cc]; all_goals rfl)) | (rw [nam_2 (by omega) ⟨by omega, by omega⟩]; all_goals first | rfl | (show _ = D.sl (Pat.cs _); rw [Pat.cs_cc]; all_goals rfl) | (show _ = Pat.cs _; rw [Pat.cs_cc]; all_goals rfl) | (show _ = D.sl [[D.i _, D.i _, D.i _, D.i _, D.i _, D.sl (Pat.cs _)]]; rw [Pat.cs_cc]; all_goals rfl)) | (have hz : (ks, zm, zq) = namL (namP b n) p.kids m (if p.op = 1 then q + 1 else q) := (by rw [hqq]; exact namL_end hg1.2.2.2.2.2); rw [nam_3 (by omega) (fun hh => by omega) hz (by omega) (by omega)]; all_goals first | rfl | (show _ = D.sl (Pat.cs _); rw [Pat.cs_cc]; all_goals rfl) | (show _ = Pat.cs _; rw [Pat.cs_cc]; all_goals rfl) | (show _ = D.sl [[D.i _, D.i _, D.i _, D.i _, D.i _, D.sl (Pat.cs _)]]; rw [Pat.cs_cc]; all_goals rfl)) | (have hz : (ks, zm, zq) = namL (namP b n) p.kids m (if p.op = 1 then q + 1 else q) := (by rw [hqq]; exact namL_end hg1.2.2.2.2.2); rw [nam_4 (by omega) (fun hh => by omega) hz (by omega) (by omega)]; all_goals first | rfl | (show _ = D.sl (Pat.cs _); rw [Pat.cs_cc]; all_goals rfl) | (show _ = Pat.cs _; rw [Pat.cs_cc]; all_goals rfl) | (show _ = D.sl [[D.i _, D.i _, D.i _, D.i _, D.i _, D.sl (Pat.cs _)]]; rw [Pat.cs_cc]; all_goals rfl)) | (have hz : (ks, zm, zq) = namL (namP b n) p.kids m (if p.op = 1 then q + 1 else q) := (by rw [hqq]; exact namL_end hg1.2.2.2.2.2); rw [nam_5 (by omega) (fun hh => by omega) hz (by omega)]; all_goals first | rfl | (show _ = D.sl (Pat.cs _); rw [Pat.cs_cc]; all_goals rfl) | (show _ = Pat.cs _; rw [Pat.cs_cc]; all_goals rfl) | (show _ = D.sl [[D.i _, D.i _, D.i _, D.i _, D.i _, D.sl (Pat.cs _)]]; rw [Pat.cs_cc]; all_goals rfl))), ⟨.inl rfl, trivial⟩⟩) (boxOK rfl)
          all_goals (first | (rw [nam_1 (by omega)]; all_goals first | rfl | (show _ = D.sl (Pat.cs _); rw [Pat.cs_cc]; all_goals rfl) | (show _ = Pat.cs _; rw [Pat.cs_cc]; all_goals rfl) | (show _ = D.sl [[D.i _, D.i _, D.i _, D.i _, D.i _, D.sl (Pat.cs _)]]; rw [Pat.cs_cc]; all_goals rfl)) | (rw [nam_2 (by omega) ⟨by omega, by omega⟩]; all_goals first | rfl | (show _ = D.sl (Pat.cs _); rw [Pat.cs_cc]; all_goals rfl) | (show _ = Pat.cs _; rw [Pat.cs_cc]; all_goals rfl) | (show _ = D.sl [[D.i _, D.i _, D.i _, D.i _, D.i _, D.sl (Pat.cs _)]]; rw [Pat.cs_cc]; all_goals rfl)) | (have hz : (ks, zm, zq) = namL (namP b n) p.kids m (if p.op = 1 then q + 1 else q) := (by rw [hqq]; exact namL_end hg1.2.2.2.2.2); rw [nam_3 (by omega) (fun hh => by omega) hz (by omega) (by omega)]; all_goals first | rfl | (show _ = D.sl (Pat.cs _); rw [Pat.cs_cc]; all_goals rfl) | (show _ = Pat.cs _; rw [Pat.cs_cc]; all_goals rfl) | (show _ = D.sl [[D.i _, D.i _, D.i _, D.i _, D.i _, D.sl (Pat.cs _)]]; rw [Pat.cs_cc]; all_goals rfl)) | (have hz : (ks, zm, zq) = namL (namP b n) p.kids m (if p.op = 1 then q + 1 else q) := (by rw [hqq]; exact namL_end hg1.2.2.2.2.2); rw [nam_4 (by omega) (fun hh => by omega) hz (by omega) (by omega)]; all_goals first | rfl | (show _ = D.sl (Pat.cs _); rw [Pat.cs_cc]; all_goals rfl) | (show _ = Pat.cs _; rw [Pat.cs_cc]; all_goals rfl) | (show _ = D.sl [[D.i _, D.i _, D.i _, D.i _, D.i _, D.sl (Pat.cs _)]]; rw [Pat.cs_cc]; all_goals rfl)) | (have hz : (ks, zm, zq) = namL (namP b n) p.kids m (if p.op = 1 then q + 1 else q) := (by rw [hqq]; exact namL_end hg1.2.2.2.2.2); rw [nam_5 (by omega) (fun hh => by omega) hz (by omega)]; all_goals first | rfl | (show _ = D.sl (Pat.cs _); rw [Pat.cs_cc]; all_goals rfl) | (show _ = Pat.cs _; rw [Pat.cs_cc]; all_goals rfl) | (show _ = D.sl [[D.i _, D.i _, D.i _, D.i _, D.i _, D.sl (Pat.cs _)]]; rw [Pat.cs_cc]; all_goals rfl)))
        ·try simp only [Q, Pat.cs_len] at h9p
         refine sqF ?_
         refine Walk.store ty58 .none rfl rfl rfl rfl rfl rfl (by simp) rfl ?_
         refine ev ?_
         refine rn [(900, some (rdB b (namP b (n + 1) p m q).2.2))] (.cons (.cellA ty58 rfl rfl rfl) (.cons (.tmp rfl) .nil)) (.tup (.cons (.agg (.cons (.eqd ?_) (.cons (.eqd ?_) (.cons (.eqd ?_) (.cons (.eqd ?_) (.cons (.eqd ?_) (.cons (.gld ?_) .nil))))))) (.cons (.eqd ?_) .nil))) ⟨rfl, rfl⟩ (SubO.get ⟨.inr (by first | (rw [nam_1 (by omega)]; all_goals first | rfl | (show _ = D.sl (Pat.cs _); rw [Pat.cs_cc]; all_goals rfl) | (show _ = Pat.cs _; rw [Pat.cs_cc]; all_goals rfl) | (show _ = D.sl [[D.i _, D.i _, D.i _, D.i _, D.i _, D.sl (Pat.cs _)]]; rw [Pat.cs_cc]; all_goals rfl)) | (rw [nam_2 (by omega) ⟨by omega, by omega⟩]; all_goals first | rfl | (show _ = D.sl (Pat.cs _); rw [Pat.cs_cc]; all_goals rfl) | (show _ = Pat.cs _; rw [Pat.cs_cc]; all_goals rfl) | (show _ = D.sl [[D.i _, D.i _, D.i _, D.i _, D.i _, D.sl (Pat.cs _)]]; rw [Pat.cs_cc]; all_goals rfl)) | (have hz : (ks, zm, zq) = namL (namP b n) p.kids m (if p.op = 1 then q + 1 else q) := (by rw [hqq]; exact namL_end hg1.2.2.2.2.2); rw [nam_3 (by omega) (fun hh => by omega) hz (by omega) (by omega)]; all_goals first | rfl | (show _ = D.sl (Pat.cs _); rw [Pat.cs_cc]; all_goals rfl) | (show _ = Pat.cs _; rw [Pat.cs_cc]; all_goals rfl) | (show _ = D.sl [[D.i _, D.i _, D.i _, D.i _, D.i _, D.sl (Pat.cs _)]]; rw [Pat.cs_cc]; all_goals rfl)) | (have hz : (ks, zm, zq) = namL (namP b n) p.kids m (if p.op = 1 then q + 1 else q) := (by rw [hqq]; exact namL_end hg1.2.2.2.2.2); rw [nam_4 (by omega) (fun hh => by omega) hz (by omega) (by omega)]; all_goals first | rfl | (show _ = D.sl (Pat.cs _); rw [Pat.cs_cc]; all_goals rfl) | (show _ = Pat.cs _; rw [Pat.cs_cc]; all_goals rfl) | (show _ = D.sl [[D.i _, D.i _, D.i _, D.i _, D.i _, D.sl (Pat.cs _)]]; rw [Pat.cs_cc]; all_goals rfl)) | (have hz : (ks, zm, zq) = namL (namP b n) p.kids m (if p.op = 1 then q + 1 else q) := (by rw [hqq]; exact namL_end hg1.2.2.2.2.2); rw [nam_5 (by omega) (fun hh => by omega) hz (by omega)]; all_goals first | rfl | (show _ = D.sl (Pat.cs _); rw [Pat.cs_cc]; all_goals rfl) | (show _ = Pat.cs _; rw [Pat.cs_cc]; all_goals rfl) | (show _ = D.sl [[D.i _, D.i _, D.i _, D.i _, D.i _, D.sl (Pat.cs _)]]; rw [Pat.cs_cc]; all_goals rfl))), ⟨.inl rfl, trivial⟩⟩) (boxOK rfl)
         all_goals (first | (rw [nam_1 (by omega)]; all_goals first | rfl | (show _ = D.sl (Pat.cs _); rw [Pat.cs_cc]; all_goals rfl) | (show _ = Pat.cs _; rw [Pat.cs_cc]; all_goals rfl) | (show _ = D.sl [[D.i _, D.i _, D.i _, D.i _, D.i _, D.sl (Pat.cs _)]]; rw [Pat.cs_cc]; all_goals rfl)) | (rw [nam_2 (by omega) ⟨by omega, by omega⟩]; all_goals first | rfl | (show _ = D.sl (Pat.cs _); rw [Pat.cs_cc]; all_goals rfl) | (show _ = Pat.cs _; rw [Pat.cs_cc]; all_goals rfl) | (show _ = D.sl [[D.i _, D.i _, D.i _, D.i _, D.i _, D.sl (Pat.cs _)]]; rw [Pat.cs_cc]; all_goals rfl)) | (have hz : (ks, zm, zq) = namL (namP b n) p.kids m (if p.op = 1 then q + 1 else q) := (by rw [hqq]; exact namL_end hg1.2.2.2.2.2); rw [nam_3 (by omega) (fun hh => by omega) hz (by omega) (by omega)]; all_goals first | rfl | (show _ = D.sl (Pat.cs _); rw [Pat.cs_cc]; all_goals rfl) | (show _ = Pat.cs _; rw [Pat.cs_cc]; all_goals rfl) | (show _ = D.sl [[D.i _, D.i _, D.i _, D.i _, D.i _, D.sl (Pat.cs _)]]; rw [Pat.cs_cc]; all_goals rfl)) | (have hz : (ks, zm, zq) = namL (namP b n) p.kids m (if p.op = 1 then q + 1 else q) := (by rw [hqq]; exact namL_end hg1.2.2.2.2.2); rw [nam_4 (by omega) (fun hh => by omega) hz (by omega) (by omega)]; all_goals first | rfl | (show _ = D.sl (Pat.cs _); rw [Pat.cs_cc]; all_goals rfl) | (show _ = Pat.cs _; rw [Pat.cs_cc]; all_goals rfl) | (show _ = D.sl [[D.i _, D.i _, D.i _, D.i _, D.i _, D.sl (Pat.cs _)]]; rw [Pat.cs_cc]; all_goals rfl)) | (have hz : (ks, zm, zq) = namL (namP b n) p.kids m (if p.op = 1 then q + 1 else q) := (by rw [hqq]; exact namL_end hg1.2.2.2.2.2); rw [nam_5 (by omega) (fun hh => by omega) hz (by omega)]; all_goals first | rfl | (show _ = D.sl (Pat.cs _); rw [Pat.cs_cc]; all_goals rfl) | (show _ = Pat.cs _; rw [Pat.cs_cc]; all_goals rfl) | (show _ = D.sl [[D.i _, D.i _, D.i _, D.i _, D.i _, D.sl (Pat.cs _)]]; rw [Pat.cs_cc]; all_goals rfl)))
     ·try simp only [Q, Pat.cs_len] at h6p
      refine sqF ?_
      refine Walk.alloc (id := 3008) tz58 rfl .none rfl rfl rfl rfl ?_
      refine Walk.store ty58 .none rfl rfl rfl rfl rfl rfl (by simp) rfl ?_
      refine tv ?_
      refine Walk.store ty56 .none rfl rfl rfl rfl rfl rfl (by simp) rfl ?_
      refine tv ?_
      refine CWp.tokB 3008 5 1 6 rfl rfl rfl rfl ?_
      refine CWp.loopX (ι := List (Pat) × List (Pat) × (Int) × (Nat) × (List Pat)) hk (fun x => [(10, .d (.i (x.1.length : Int))), (9, .d (.i x.2.2.1))]) [11, 12, 42, 43, 44, 45, 46, 47, 48, 49, 50, 51, 52, 53, 54, 55, 56, 57, 58, 59, 60, 61, 62, 63, 64, 65, 66] (fun x => [(900, some (.box [.d (encBytes b), .d (.i (x.2.2.2.1 : Int))])), (3008, some (.box [.d (.i p.op), .d (.i p.ctor), .d (.i p.n), .d (.i p.m), .d (.i p.var), .gl 1 (x.2.2.2.2.map Pat.cc)])), (1, some (.tok (x.2.2.2.2.map Pat.cc).length 6))]) (fun x => x.1 ++ x.2.1 = p.kids ∧ 0 ≤ x.2.2.1 ∧ x.2.2.1 ≤ 6 ∧ x.2.2.2.1 ≤ q1 + 2 * Pats.size x.1 ∧ x.2.2.2.2.length = x.1.length ∧ (x.2.2.2.2 ++ (namL (namP b n) x.2.1 x.2.2.1 x.2.2.2.1).1, (namL (namP b n) x.2.1 x.2.2.1 x.2.2.2.1).2) = namL (namP b n) p.kids m q1) (fun x => x.2.1.length) ([], p.kids, m, q1, []) ⟨by simp, by simpa using k0, by simpa using k6, by simp [Pats.size], by simp, by simp⟩ ⟨⟨_, rfl, (LeA.eqi (by first | rfl | (simp; done) | omega))⟩, ⟨⟨_, rfl, (LeA.eqi (by first | rfl | (simp; done) | omega))⟩, trivial⟩⟩ ⟨(by first | rfl | (simp [getH]; done) | (show some (Res.box _) = some (Res.box _); rw [hqa (by omega)]; all_goals rfl) | (show some (Res.box _) = some (Res.box _); rw [hqb (by omega)]; all_goals rfl)), ⟨(by first | rfl | (simp [getH]; done) | (show some (Res.box _) = some (Res.box _); rw [hqa (by omega)]; all_goals rfl) | (show some (Res.box _) = some (Res.box _); rw [hqb (by omega)]; all_goals rfl)), ⟨beq_nat_eq (by first | rfl | (simp; done) | (simp; omega) | (first | rfl | (simp; done) | omega)), trivial⟩⟩⟩ (fun x => rfl) (fun x hg1 => ?_)
      obtain ⟨pre, rest, zm, zq, ks⟩ := x
      dsimp only at hg1 ⊢
      refine evc [] [] ?_
      refine sq (fun h13 h13p h13s => ?_) fun h13 h13p h13s => ?_
      ·try simp only [Q, Pat.cs_len] at h13p
       rcases rest with _ | ⟨y, rest⟩
       ·exfalso; simp_all
       have hni := ih y zm zq hg1.2.1 hg1.2.2.1; have hn1 := hni.1; have hn2 := hni.2.1; have hn3 := hni.2.2.1
       refine Walk.idx sl56 .none rfl rfl rfl rfl (Pat.cs_at' hg1.1) rfl ?_
       refine ev ?_
       refine Walk.call (cr := []) cal157 (spec_l3Name_fn hb n (p := y) (m := zm) (q := zq) (by have := hysz hg1.1; omega) (Pats.ok_mem hok'.2 y (by rw [← hg1.1]; simp)) (by omega) (by omega) (by have := hysz hg1.1; omega)) rfl .none rfl rfl (LeL.refl _) ⟨rfl, trivial⟩ rfl rfl rfl ?_
       refine ev ?_
       refine Walk.alloc (id := 3011) tz58 rfl .none rfl rfl rfl rfl ?_
       refine Walk.store ty58 .none rfl rfl rfl rfl rfl rfl (by simp) rfl ?_
       refine ev ?_
       refine Walk.sliceLit sl56 tz58 rfl (by decide) (ks := [0]) (xs := [_]) rfl rfl (by decide) (by decide) .none rfl rfl rfl rfl ?_
       refine Walk.append sl56 zz58 rfl .none rfl rfl rfl rfl (htokL rfl (by first | rfl | (simp; done) | (simp; omega))) (by simp) (by have hz := congrArg List.length hg1.1; simp at hz ⊢; omega) (by have hz := congrArg List.length hg1.1; simp at hz ⊢; omega) ?_
       refine ev ?_
       refine Walk.store ty56 .none rfl rfl rfl rfl rfl rfl (by simp) rfl ?_
       refine tv ?_
       refine ar ?_
       refine Exists.intro ((pre ++ [y], rest, (namP b n y zm zq).2.1, (namP b n y zm zq).2.2, ks ++ [(namP b n y zm zq).1])) ⟨⟨(by have hz := hg1.1; rw [← hz]; simp), ⟨by dsimp only; omega, by dsimp only; omega, (by rw [Pats.size_snoc]; dsimp only; omega), (by simp [hg1.2.2.2.2.1]), (by rw [← hg1.2.2.2.2.2]; simp [namL])⟩⟩, (by simp), Sub.x (by kernel_rfl) (by kernel_rfl) ⟨⟨_, rfl, (LeA.eqi (by first | rfl | (simp; done) | omega))⟩, ⟨⟨_, rfl, (LeA.eqi (by first | rfl | (simp; done) | omega))⟩, trivial⟩⟩ (by kernel_rfl) (by kernel_rfl) ⟨(by first | rfl | (simp [getH]; done) | (show some (Res.box _) = some (Res.box _); rw [hqa (by omega)]; all_goals rfl) | (show some (Res.box _) = some (Res.box _); rw [hqb (by omega)]; all_goals rfl)), ⟨(by first | rfl | (simp [getH]; done) | (show some (Res.box _) = some (Res.box _); rw [hqa (by omega)]; all_goals rfl) | (show some (Res.box _) = some (Res.box _); rw [hqb (by omega)]; all_goals rfl)), ⟨beq_nat_eq (by first | rfl | (simp; done) | (simp; omega) | (first | rfl | (simp; done) | omega)), trivial⟩⟩⟩⟩
      ·try simp only [Q, Pat.cs_len] at h13p
       have hrest : rest = [] := by
        rcases rest with _ | ⟨a, b⟩
        ·rfl
        ·exfalso; have hz := congrArg List.length (hg1.1); simp only [List.length_append, List.length_cons, List.length_map] at hz; omega
       subst hrest
       refine sq (fun h14 h14p h14s => ?_) fun h14 h14p h14s => ?_
       ·try simp only [Q, Pat.cs_len] at h14p
        refine Walk.call (cr := []) cal102 (spec_pick_fn (p := zq) (n := 6) hb (by have e := hg1.1; rw [List.append_nil] at e; rw [← e] at hs; omega) (by omega)) rfl (.some rfl rfl h14) rfl rfl (LeL.refl _) ⟨rfl, trivial⟩ rfl rfl rfl ?_
        refine evs [] [(69, true)] ?_ ⟨⟨_, rfl, h14⟩, trivial⟩
        refine sq (fun h15 h15p h15s => ?_) fun h15 h15p h15s => ?_
        ·try simp only [Q, Pat.cs_len] at h15p
         refine Walk.sliceLit sl56 tz58 rfl (by decide) (ks := [0]) (xs := [_]) rfl rfl (by decide) (by decide) .none rfl rfl rfl rfl ?_
         refine Walk.build st58 (ks := [0, 4, 5]) (xs := [_, _, _]) rfl rfl .none rfl rfl rfl ?_
         refine ev ?_
         refine ar ?_
         refine Walk.store ty58 .none rfl rfl rfl rfl rfl rfl (by simp) rfl ?_
         refine ev ?_
         refine rn [(900, some (rdB b (namP b (n + 1) p m q).2.2))] (.cons (.cellA ty58 rfl rfl rfl) (.cons (.tmp rfl) .nil)) (.tup (.cons (.agg (.cons (.eqd ?_) (.cons (.eqd ?_) (.cons (.eqd ?_) (.cons (.eqd ?_) (.cons (.eqd ?_) (.cons (.eqd ?_) .nil))))))) (.cons (.eqd ?_) .nil))) ⟨rfl, rfl⟩ (SubO.get ⟨.inr (by first | (rw [nam_1 (by omega)]; all_goals first | rfl | (show _ = D.sl (Pat.cs _); rw [Pat.cs_cc]; all_goals rfl) | (show _ = Pat.cs _; rw [Pat.cs_cc]; all_goals rfl) | (show _ = D.sl [[D.i _, D.i _, D.i _, D.i _, D.i _, D.sl (Pat.cs _)]]; rw [Pat.cs_cc]; all_goals rfl)) | (rw [nam_2 (by omega) ⟨by omega, by omega⟩]; all_goals first | rfl | (show _ = D.sl (Pat.cs _); rw [Pat.cs_cc]; all_goals rfl) | (show _ = Pat.cs _; rw [Pat.cs_cc]; all_goals rfl) | (show _ = D.sl [[D.i _, D.i _, D.i _, D.i _, D.i _, D.sl (Pat.cs _)]]; rw [Pat.cs_cc]; all_goals rfl)) | (have hz : (ks, zm, zq) = namL (namP b n) p.kids m (if p.op = 1 then q + 1 else q) := (by rw [hqq]; exact namL_end hg1.2.2.2.2.2); rw [nam_3 (by omega) (fun hh => by omega) hz (by omega) (by omega)]; all_goals first | rfl | (show _ = D.sl (Pat.cs _); rw [Pat.cs_cc]; all_goals rfl) | (show _ = Pat.cs _; rw [Pat.cs_cc]; all_goals rfl) | (show _ = D.sl [[D.i _, D.i _, D.i _, D.i _, D.i _, D.sl (Pat.cs _)]]; rw [Pat.cs_cc]; all_goals rfl)) | (have hz : (ks, zm, zq) = namL (namP b n) p.kids m (if p.op = 1 then q + 1 else q) := (by rw [hqq]; exact namL_end hg1.2.2.2.2.2); rw [nam_4 (by omega) (fun hh => by omega) hz (by omega) (by omega)]; all_goals first | rfl | (show _ = D.sl (Pat.cs _); rw [Pat.cs_cc]; all_goals rfl) | (show _ = Pat.cs _; rw [Pat.cs_cc]; all_goals rfl) | (show _ = D.sl [[D.i _, D.i _, D.i _, D.i _, D.i _, D.sl (Pat.cs _)]]; rw [Pat.cs_cc]; all_goals rfl)) | (have hz : (ks, zm, zq) = namL (namP b n) p.kids m (if p.op = 1 then q + 1 else q) := (by rw [hqq]; exact namL_end hg1.2.2.2.2.2); rw [nam_5 (by omega) (fun hh => by omega) hz (by omega)]; all_goals first | rfl | (show _ = D.sl (Pat.cs _); rw [Pat.cs_cc]; all_goals rfl) | (show _ = Pat.cs _; rw [Pat.cs_cc]; all_goals rfl) | (show _ = D.sl [[D.i _, D.i _, D.i _, D.i _, D.i _, D.sl (Pat.cs _)]]; rw [Pat.cs_cc]; all_goals rfl))), ⟨.inl rfl, trivial⟩⟩) (boxOK rfl)
         all_goals (first | (rw [nam_1 (by omega)]; all_goals first | rfl | (show _ = D.sl (Pat.cs _); rw [Pat.cs_cc]; all_goals rfl) | (show _ = Pat.cs _; rw [Pat.cs_cc]; all_goals rfl) | (show _ = D.sl [[D.i _, D.i _, D.i _, D.i _, D.i _, D.sl (Pat.cs _)]]; rw [Pat.cs_cc]; all_goals rfl)) | (rw [nam_2 (by omega) ⟨by omega, by omega⟩]; all_goals first | rfl | (show _ = D.sl (Pat.cs _); rw [Pat.cs_cc]; all_goals rfl) | (show _ = Pat.cs _; rw [Pat.cs_cc]; all_goals rfl) | (show _ = D.sl [[D.i _, D.i _, D.i _, D.i _, D.i _, D.sl (Pat.cs _)]]; rw [Pat.cs_cc]; all_goals rfl)) | (have hz : (ks, zm, zq) = namL (namP b n) p.kids m (if p.op = 1 then q + 1 else q) := (by rw [hqq]; exact namL_end hg1.2.2.2.2.2); rw [nam_3 (by omega) (fun hh => by omega) hz (by omega) (by omega)]; all_goals first | rfl | (show _ = D.sl (Pat.cs _); rw [Pat.cs_cc]; all_goals rfl) | (show _ = Pat.cs _; rw [Pat.cs_cc]; all_goals rfl) | (show _ = D.sl [[D.i _, D.i _, D.i _, D.i _, D.i _, D.sl (Pat.cs _)]]; rw [Pat.cs_cc]; all_goals rfl)) | (have hz : (ks, zm, zq) = namL (namP b n) p.kids m (if p.op = 1 then q + 1 else q) := (by rw [hqq]; exact namL_end hg1.2.2.2.2.2); rw [nam_4 (by omega) (fun hh => by omega) hz (by omega) (by omega)]; all_goals first | rfl | (show _ = D.sl (Pat.cs _); rw [Pat.cs_cc]; all_goals rfl) | (show _ = Pat.cs _; rw [Pat.cs_cc]; all_goals rfl) | (show _ = D.sl [[D.i _, D.i _, D.i _, D.i _, D.i _, D.sl (Pat.cs _)]]; rw [Pat.cs_cc]; all_goals rfl)) | (have hz : (ks, zm, zq) = namL (namP b n) p.kids m (if p.op = 1 then q + 1 else q) := (by rw [hqq]; exact namL_end hg1.2.2.2.2.2); rw [nam_5 (by omega) (fun hh => by omega) hz (by omega)]; all_goals first | rfl | (show _ = D.sl (Pat.cs _); rw [Pat.cs_cc]; all_goals rfl) | (show _ = Pat.cs _; rw [Pat.cs_cc]; all_goals rfl) | (show _ = D.sl [[D.i _, D.i _, D.i _, D.i _, D.i _, D.sl (Pat.cs _)]]; rw [Pat.cs_cc]; all_goals rfl)))
        ·try simp only [Q, Pat.cs_len] at h15p
         refine Walk.store ty58 .none rfl rfl rfl rfl rfl rfl (by simp) rfl ?_
         refine ev ?_
         refine rn [(900, some (rdB b (namP b (n + 1) p m q).2.2))] (.cons (.cellA ty58 rfl rfl rfl) (.cons (.tmp rfl) .nil)) (.tup (.cons (.agg (.cons (.eqd ?_) (.cons (.eqd ?_) (.cons (.eqd ?_) (.cons (.eqd ?_) (.cons (.eqd ?_) (.cons (.gld ?_) .nil))))))) (.cons (.eqd ?_) .nil))) ⟨rfl, rfl⟩ (SubO.get ⟨.inr (by first | (rw [nam_1 (by omega)]; all_goals first | rfl | (show _ = D.sl (Pat.cs _); rw [Pat.cs_cc]; all_goals rfl) | (show _ = Pat.cs _; rw [Pat.cs_cc]; all_goals rfl) | (show _ = D.sl [[D.i _, D.i _, D.i _, D.i _, D.i _, D.sl (Pat.cs _)]]; rw [Pat.cs_cc]; all_goals rfl)) | (rw [nam_2 (by omega) ⟨by omega, by omega⟩]; all_goals first | rfl | (show _ = D.sl (Pat.cs _); rw [Pat.cs_cc]; all_goals rfl) | (show _ = Pat.cs _; rw [Pat.cs_cc]; all_goals rfl) | (show _ = D.sl [[D.i _, D.i _, D.i _, D.i _, D.i _, D.sl (Pat.cs _)]]; rw [Pat.cs_cc]; all_goals rfl)) | (have hz : (ks, zm, zq) = namL (namP b n) p.kids m (if p.op = 1 then q + 1 else q) := (by rw [hqq]; exact namL_end hg1.2.2.2.2.2); rw [nam_3 (by omega) (fun hh => by omega) hz (by omega) (by omega)]; all_goals first | rfl | (show _ = D.sl (Pat.cs _); rw [Pat.cs_cc]; all_goals rfl) | (show _ = Pat.cs _; rw [Pat.cs_cc]; all_goals rfl) | (show _ = D.sl [[D.i _, D.i _, D.i _, D.i _, D.i _, D.sl (Pat.cs _)]]; rw [Pat.cs_cc]; all_goals rfl)) | (have hz : (ks, zm, zq) = namL (namP b n) p.kids m (if p.op = 1 then q + 1 else q) := (by rw [hqq]; exact namL_end hg1.2.2.2.2.2); rw [nam_4 (by omega) (fun hh => by omega) hz (by omega) (by omega)]; all_goals first | rfl | (show _ = D.sl (Pat.cs _); rw [Pat.cs_cc]; all_goals rfl) | (show _ = Pat.cs _; rw [Pat.cs_cc]; all_goals rfl) | (show _ = D.sl [[D.i _, D.i _, D.i _, D.i _, D.i _, D.sl (Pat.cs _)]]; rw [Pat.cs_cc]; all_goals rfl)) | (have hz : (ks, zm, zq) = namL (namP b n) p.kids m (if p.op = 1 then q + 1 else q) := (by rw [hqq]; exact namL_end hg1.2.2.2.2.2); rw [nam_5 (by omega) (fun hh => by omega) hz (by omega)]; all_goals first | rfl | (show _ = D.sl (Pat.cs _); rw [Pat.cs_cc]; all_goals rfl) | (show _ = Pat.cs _; rw [Pat.cs_cc]; all_goals rfl) | (show _ = D.sl [[D.i _, D.i _, D.i _, D.i _, D.i _, D.sl (Pat.cs _)]]; rw [Pat.cs_cc]; all_goals rfl))), ⟨.inl rfl, trivial⟩⟩) (boxOK rfl)
         all_goals (first | (rw [nam_1 (by omega)]; all_goals first | rfl | (show _ = D.sl (Pat.cs _); rw [Pat.cs_cc]; all_goals rfl) | (show _ = Pat.cs _; rw [Pat.cs_cc]; all_goals rfl) | (show _ = D.sl [[D.i _, D.i _, D.i _, D.i _, D.i _, D.sl (Pat.cs _)]]; rw [Pat.cs_cc]; all_goals rfl)) | (rw [nam_2 (by omega) ⟨by omega, by omega⟩]; all_goals first | rfl | (show _ = D.sl (Pat.cs _); rw [Pat.cs_cc]; all_goals rfl) | (show _ = Pat.cs _; rw [Pat.cs_cc]; all_goals rfl) | (show _ = D.sl [[D.i _, D.i _, D.i _, D.i _, D.i _, D.sl (Pat.cs _)]]; rw [Pat.cs_cc]; all_goals rfl)) | (have hz : (ks, zm, zq) = namL (namP b n) p.kids m (if p.op = 1 then q + 1 else q) := (by rw [hqq]; exact namL_end hg1.2.2.2.2.2); rw [nam_3 (by omega) (fun hh => by omega) hz (by omega) (by omega)]; all_goals first | rfl | (show _ = D.sl (Pat.cs _); rw [Pat.cs_cc]; all_goals rfl) | (show _ = Pat.cs _; rw [Pat.cs_cc]; all_goals rfl) | (show _ = D.sl [[D.i _, D.i _, D.i _, D.i _, D.i _, D.sl (Pat.cs _)]]; rw [Pat.cs_cc]; all_goals rfl)) | (have hz : (ks, zm, zq) = namL (namP b n) p.kids m (if p.op = 1 then q + 1 else q) := (by rw [hqq]; exact namL_end hg1.2.2.2.2.2); rw [nam_4 (by omega) (fun hh => by omega) hz (by omega) (by omega)]; all_goals first | rfl | (show _ = D.sl (Pat.cs _); rw [Pat.cs_cc]; all_goals rfl) | (show _ = Pat.cs _; rw [Pat.cs_cc]; all_goals rfl) | (show _ = D.sl [[D.i _, D.i _, D.i _, D.i _, D.i _, D.sl (Pat.cs _)]]; rw [Pat.cs_cc]; all_goals rfl)) | (have hz : (ks, zm, zq) = namL (namP b n) p.kids m (if p.op = 1 then q + 1 else q) := (by rw [hqq]; exact namL_end hg1.2.2.2.2.2); rw [nam_5 (by omega) (fun hh => by omega) hz (by omega)]; all_goals first | rfl | (show _ = D.sl (Pat.cs _); rw [Pat.cs_cc]; all_goals rfl) | (show _ = Pat.cs _; rw [Pat.cs_cc]; all_goals rfl) | (show _ = D.sl [[D.i _, D.i _, D.i _, D.i _, D.i _, D.sl (Pat.cs _)]]; rw [Pat.cs_cc]; all_goals rfl)))
       ·try simp only [Q, Pat.cs_len] at h14p
        refine sqF ?_
        refine Walk.store ty58 .none rfl rfl rfl rfl rfl rfl (by simp) rfl ?_
        refine ev ?_
        refine rn [(900, some (rdB b (namP b (n + 1) p m q).2.2))] (.cons (.cellA ty58 rfl rfl rfl) (.cons (.tmp rfl) .nil)) (.tup (.cons (.agg (.cons (.eqd ?_) (.cons (.eqd ?_) (.cons (.eqd ?_) (.cons (.eqd ?_) (.cons (.eqd ?_) (.cons (.gld ?_) .nil))))))) (.cons (.eqd ?_) .nil))) ⟨rfl, rfl⟩ (SubO.get ⟨.inr (by first | (rw [nam_1 (by omega)]; all_goals first | rfl | (show _ = D.sl (Pat.cs _); rw [Pat.cs_cc]; all_goals rfl) | (show _ = Pat.cs _; rw [Pat.cs_cc]; all_goals rfl) | (show _ = D.sl [[D.i _, D.i _, D.i _, D.i _, D.i _, D.sl (Pat.cs _)]]; rw [Pat.cs_cc]; all_goals rfl)) | (rw [nam_2 (by omega) ⟨by omega, by omega⟩]; all_goals first | rfl | (show _ = D.sl (Pat.cs _); rw [Pat.cs_cc]; all_goals rfl) | (show _ = Pat.cs _; rw [Pat.cs_cc]; all_goals rfl) | (show _ = D.sl [[D.i _, D.i _, D.i _, D.i _, D.i _, D.sl (Pat.cs _)]]; rw [Pat.cs_cc]; all_goals rfl)) | (have hz : (ks, zm, zq) = namL (namP b n) p.kids m (if p.op = 1 then q + 1 else q) := (by rw [hqq]; exact namL_end hg1.2.2.2.2.2); rw [nam_3 (by omega) (fun hh => by omega) hz (by omega) (by omega)]; all_goals first | rfl | (show _ = D.sl (Pat.cs _); rw [Pat.cs_cc]; all_goals rfl) | (show _ = Pat.cs _; rw [Pat.cs_cc]; all_goals rfl) | (show _ = D.sl [[D.i _, D.i _, D.i _, D.i _, D.i _, D.sl (Pat.cs _)]]; rw [Pat.cs_cc]; all_goals rfl)) | (have hz : (ks, zm, zq) = namL (namP b n) p.kids m (if p.op = 1 then q + 1 else q) := (by rw [hqq]; exact namL_end hg1.2.2.2.2.2); rw [nam_4 (by omega) (fun hh => by omega) hz (by omega) (by omega)]; all_goals first | rfl | (show _ = D.sl (Pat.cs _); rw [Pat.cs_cc]; all_goals rfl) | (show _ = Pat.cs _; rw [Pat.cs_cc]; all_goals rfl) | (show _ = D.sl [[D.i _, D.i _, D.i _, D.i _, D.i _, D.sl (Pat.cs _)]]; rw [Pat.cs_cc]; all_goals rfl)) | (have hz : (ks, zm, zq) = namL (namP b n) p.kids m (if p.op = 1 then q + 1 else q) := (by rw [hqq]; exact namL_end hg1.2.2.2.2.2); rw [nam_5 (by omega) (fun hh => by omega) hz (by omega)]; all_goals first | rfl | (show _ = D.sl (Pat.cs _); rw [Pat.cs_cc]; all_goals rfl) | (show _ = Pat.cs _; rw [Pat.cs_cc]; all_goals rfl) | (show _ = D.sl [[D.i _, D.i _, D.i _, D.i _, D.i _, D.sl (Pat.cs _)]]; rw [Pat.cs_cc]; all_goals rfl))), ⟨.inl rfl, trivial⟩⟩) (boxOK rfl)
        all_goals (first | (rw [nam_1 (by omega)]; all_goals first | rfl | (show _ = D.sl (Pat.cs _); rw [Pat.cs_cc]; all_goals rfl) | (show _ = Pat.cs _; rw [Pat.cs_cc]; all_goals rfl) | (show _ = D.sl [[D.i _, D.i _, D.i _, D.i _, D.i _, D.sl (Pat.cs _)]]; rw [Pat.cs_cc]; all_goals rfl)) | (rw [nam_2 (by omega) ⟨by omega, by omega⟩]; all_goals first | rfl | (show _ = D.sl (Pat.cs _); rw [Pat.cs_cc]; all_goals rfl) | (show _ = Pat.cs _; rw [Pat.cs_cc]; all_goals rfl) | (show _ = D.sl [[D.i _, D.i _, D.i _, D.i _, D.i _, D.sl (Pat.cs _)]]; rw [Pat.cs_cc]; all_goals rfl)) | (have hz : (ks, zm, zq) = namL (namP b n) p.kids m (if p.op = 1 then q + 1 else q) := (by rw [hqq]; exact namL_end hg1.2.2.2.2.2); rw [nam_3 (by omega) (fun hh => by omega) hz (by omega) (by omega)]; all_goals first | rfl | (show _ = D.sl (Pat.cs _); rw [Pat.cs_cc]; all_goals rfl) | (show _ = Pat.cs _; rw [Pat.cs_cc]; all_goals rfl) | (show _ = D.sl [[D.i _, D.i _, D.i _, D.i _, D.i _, D.sl (Pat.cs _)]]; rw [Pat.cs_cc]; all_goals rfl)) | (have hz : (ks, zm, zq) = namL (namP b n) p.kids m (if p.op = 1 then q + 1 else q) := (by rw [hqq]; exact namL_end hg1.2.2.2.2.2); rw [nam_4 (by omega) (fun hh => by omega) hz (by omega) (by omega)]; all_goals first | rfl | (show _ = D.sl (Pat.cs _); rw [Pat.cs_cc]; all_goals rfl) | (show _ = Pat.cs _; rw [Pat.cs_cc]; all_goals rfl) | (show _ = D.sl [[D.i _, D.i _, D.i _, D.i _, D.i _, D.sl (Pat.cs _)]]; rw [Pat.cs_cc]; all_goals rfl)) | (have hz : (ks, zm, zq) = namL (namP b n) p.kids m (if p.op = 1 then q + 1 else q) := (by rw [hqq]; exact namL_end hg1.2.2.2.2.2); rw [nam_5 (by omega) (fun hh => by omega) hz (by omega)]; all_goals first | rfl | (show _ = D.sl (Pat.cs _); rw [Pat.cs_cc]; all_goals rfl) | (show _ = Pat.cs _; rw [Pat.cs_cc]; all_goals rfl) | (show _ = D.sl [[D.i _, D.i _, D.i _, D.i _, D.i _, D.sl (Pat.cs _)]]; rw [Pat.cs_cc]; all_goals rfl)))
def szP : Nat → Nat
 | 0 => 1
 | d + 1 => 1 + 3 * szP d
theorem szP_pos (d : Nat) : 1 ≤ szP d := by cases d <;> simp only [szP] <;> omega
theorem anyP_sz : anyP.size = 1 ∧ anyP.ok := ⟨by rw [Pat.size_eq]; rfl, by rw [Pat.ok_iff]; exact ⟨by simp [anyP, Pat.kids], trivial⟩⟩
theorem dA_sz {f : Ty → Nat → Pat × Nat} {k : Nat} : ∀ (l : List Ty) (q : Nat), (∀ t ∈ l, ∀ q, (f t q).1.size ≤ k ∧ (f t q).1.ok) → Pats.size (dA f l q).1 ≤ l.length * k ∧ Pats.ok (dA f l q).1
 | [], q, _ => by simp [dA, Pats.size, Pats.ok]
 | t :: r, q, h => by
  have h1 := h t (by simp) q
  have h2 := dA_sz r (f t q).2 (fun x hx => h x (by simp [hx]))
  simp only [dA, List.length_cons, Nat.add_mul, Pats.size]
  exact ⟨by omega, h1.2, h2.2⟩
theorem drawP_sz {b : Str} {w : List Data} (hf : Few w) : ∀ (d : Nat) (t : Ty) (p : Nat), TyIn w.length t → (drawP b w d t p).1.size ≤ szP d ∧ (drawP b w d t p).1.ok
 | 0, t, p, _ => by simp only [drawP, szP]; have := anyP_sz; exact ⟨by omega, this.2⟩
 | d + 1, ⟨a, k⟩, p, ht => by
  have ih := fun t p ht => drawP_sz (b := b) hf d t p ht
  have ha := anyP_sz
  have hp := szP_pos d
  simp only [szP]
  by_cases c1 : d = 0
  ·rw [drawP_1 c1]; exact ⟨by dsimp only; omega, ha.2⟩
  by_cases c2 : pickV b p 4 = 0
  ·rw [drawP_2 c1 c2]; exact ⟨by dsimp only; omega, ha.2⟩
  by_cases c3 : pickV b (p + 1) 6 = 0
  ·rw [drawP_3 c1 c2 c3]
   have h1 := ih ⟨a, k⟩ (p + 2) ht
   have h2 := ih ⟨a, k⟩ (drawP b w d ⟨a, k⟩ (p + 2)).2 ht
   refine ⟨?_, ?_⟩
   ·dsimp only; rw [Pat.size_eq]; simp only [Pat.kids, Pats.size]; omega
   ·dsimp only; rw [Pat.ok_iff]; exact ⟨by simp [Pat.kids], h1.2, h2.2, trivial⟩
  by_cases c4 : a = -1
  ·rw [drawP_4 c1 c2 c3 c4]
   refine ⟨?_, ?_⟩
   ·dsimp only; rw [Pat.size_eq]; simp only [Pat.kids, Pats.size]; omega
   ·dsimp only; rw [Pat.ok_iff]; exact ⟨by simp [Pat.kids], trivial⟩
  by_cases c5 : (vctors w ⟨a, k⟩).length = 0
  ·rw [drawP_5 c1 c2 c3 c4 c5]; exact ⟨by dsimp only; omega, ha.2⟩
  ·rw [drawP_6 c1 c2 c3 c4 c5 rfl]
   have hm := nth_pick (b := b) (p := p + 2) c5
   have h3 := hf ⟨a, k⟩ _ hm ht
   have h1 := dA_sz (f := drawP b w d) (k := szP d) _ (p + 3) (fun u hu q => ih u q (h3.2 u hu))
   have h2 := dA_len (f := drawP b w d) (argsOf w ⟨a, k⟩ (nth (vctors w ⟨a, k⟩) (pickV b (p + 2) (vctors w ⟨a, k⟩).length).toNat)) (p + 3)
   have h4 : (argsOf w ⟨a, k⟩ (nth (vctors w ⟨a, k⟩) (pickV b (p + 2) (vctors w ⟨a, k⟩).length).toNat)).length * szP d ≤ 3 * szP d := Nat.mul_le_mul_right _ h3.1
   refine ⟨?_, ?_⟩
   ·dsimp only; rw [Pat.size_eq]; simp only [Pat.kids]; omega
   ·dsimp only; rw [Pat.ok_iff]; exact ⟨by simp only [Pat.kids]; omega, h1.2⟩
theorem numV_mem {b : Str} {p : Nat} {l : List Int} (h : 1 ≤ l.length) : numV b p l ∈ l := by
 have := pickV_bd (b := b) (p := p) (n := (l.length : Int)) (by omega)
 exact nth_mem (by omega)
theorem num4 (b : Str) (p : Nat) : 1 ≤ numV b p [3, 2, 4, 1] ∧ numV b p [3, 2, 4, 1] ≤ 4 := by
 have := numV_mem (b := b) (p := p) (l := [3, 2, 4, 1]) (by simp)
 simp only [List.mem_cons, List.not_mem_nil, or_false] at this
 omega
theorem szP_four {d : Nat} (h : d ≤ 4) : szP d ≤ 121 ∧ bdP d ≤ 200 := by
 have : d = 0 ∨ d = 1 ∨ d = 2 ∨ d = 3 ∨ d = 4 := by omega
 rcases this with rfl | rfl | rfl | rfl | rfl <;> decide
def rawPat (b : Str) (w : List Data) (t : Ty) (p : Nat) : Pat × Int × Nat :=
 namP b (drawP b w (numV b p [3, 2, 4, 1]).toNat t (p + 1)).1.size (drawP b w (numV b p [3, 2, 4, 1]).toNat t (p + 1)).1 0 (drawP b w (numV b p [3, 2, 4, 1]).toNat t (p + 1)).2
def somePat (b : Str) (w : List Data) (t : Ty) (p : Nat) : Pat := if isP w t (rawPat b w t p).1 then (rawPat b w t p).1 else anyP
theorem rawPat_ok {b : Str} {w : List Data} (hf : Few w) {t : Ty} (ht : TyIn w.length t) (p : Nat) : (rawPat b w t p).2.2 ≤ p + 500 ∧ (rawPat b w t p).1.size ≤ 242 ∧ (rawPat b w t p).1.ok := by
 have h4 := num4 b p
 have hs := szP_four (d := (numV b p [3, 2, 4, 1]).toNat) (by omega)
 have h1 := drawP_sz (b := b) hf (numV b p [3, 2, 4, 1]).toNat t (p + 1) ht
 have h2 := drawP_bd (b := b) hf (numV b p [3, 2, 4, 1]).toNat t (p + 1) ht
 have h3 := namP_ok (b := b) (drawP b w (numV b p [3, 2, 4, 1]).toNat t (p + 1)).1.size (drawP b w (numV b p [3, 2, 4, 1]).toNat t (p + 1)).1 0 (drawP b w (numV b p [3, 2, 4, 1]).toNat t (p + 1)).2 (by omega) (by omega)
 obtain ⟨_, _, n3, n4, n5⟩ := h3
 exact ⟨by unfold rawPat; omega, by unfold rawPat; omega, n5 h1.2⟩
theorem somePat_ok {b : Str} {w : List Data} (hf : Few w) {t : Ty} (ht : TyIn w.length t) (p : Nat) : (somePat b w t p).size ≤ 242 ∧ (somePat b w t p).ok := by
 have h := rawPat_ok (b := b) hf ht p
 have ha := anyP_sz
 unfold somePat
 split
 ·exact ⟨h.2.1, h.2.2⟩
 ·exact ⟨by omega, ha.2⟩
theorem spec_l3Some_fn {b : Str} {w : List Data} (hb : b.length ≤ 2000) (hw : WT w) (hf : Few w) {a k : Int} {p : Nat} (hp : p ≤ 100000) (ht : TyIn w.length ⟨a, k⟩) :
  FnD Try.prog 121 [.ref 900 0, .d (encDatas w), .agg [.d (.i a), .d (.i k)]] [(900, some (rdB b p))]
   (.agg [.d (.i (somePat b w ⟨a, k⟩ p).op), .d (.i (somePat b w ⟨a, k⟩ p).ctor), .d (.i (somePat b w ⟨a, k⟩ p).n), .d (.i (somePat b w ⟨a, k⟩ p).m), .d (.i (somePat b w ⟨a, k⟩ p).var), .d (encPats (somePat b w ⟨a, k⟩ p).kids)]) [(900, some (rdB b (rawPat b w ⟨a, k⟩ p).2.2))] := by
 have h4 := num4 b p
 have hs := szP_four (d := (numV b p [3, 2, 4, 1]).toNat) (by omega)
 have h1 := drawP_sz (b := b) hf (numV b p [3, 2, 4, 1]).toNat ⟨a, k⟩ (p + 1) ht
 have h2 := drawP_bd (b := b) hf (numV b p [3, 2, 4, 1]).toNat ⟨a, k⟩ (p + 1) ht
 have hr := rawPat_ok (b := b) hf ht p
 have hnum := spec_num_fn (b := b) (p := p) (l := [3, 2, 4, 1]) hb (by omega) (by simp) (by simp)
 have hdr := spec_l3Draw_fn hb hw hf (numV b p [3, 2, 4, 1]).toNat (a := a) (k := k) (m := numV b p [3, 2, 4, 1]) (p := p + 1) (by omega) (by omega) (by omega) (by omega) ht
 have hnm := spec_l3Name_fn hb (drawP b w (numV b p [3, 2, 4, 1]).toNat ⟨a, k⟩ (p + 1)).1.size (m := 0) (q := (drawP b w (numV b p [3, 2, 4, 1]).toNat ⟨a, k⟩ (p + 1)).2) (Nat.le_refl _) h1.2 (by omega) (by omega) (by omega)
 have hsp : somePat b w ⟨a, k⟩ p = if isP w ⟨a, k⟩ (rawPat b w ⟨a, k⟩ p).1 then (rawPat b w ⟨a, k⟩ p).1 else anyP := rfl
 rw [show namP b (drawP b w (numV b p [3, 2, 4, 1]).toNat ⟨a, k⟩ (p + 1)).1.size (drawP b w (numV b p [3, 2, 4, 1]).toNat ⟨a, k⟩ (p + 1)).1 0 (drawP b w (numV b p [3, 2, 4, 1]).toNat ⟨a, k⟩ (p + 1)).2 = rawPat b w ⟨a, k⟩ p from rfl] at hnm
 generalize numV b p [3, 2, 4, 1] = m at *
 refine bd Try.f121 28 [] [] fun w0 F0 own kept hk => ?_
 refine Walk.box (id := 3005) .none rfl rfl rfl rfl rfl rfl rfl ?_
 refine Walk.alloc (id := 3006) tz58 rfl .none rfl rfl rfl rfl ?_
 refine tv ?_
 refine Walk.sliceLit sl66 tz3 rfl (by decide) (ks := [0, 1, 2, 3]) (xs := [_, _, _, _]) rfl rfl (by decide) (by decide) .none rfl rfl rfl rfl ?_
 refine Walk.call (cr := []) cal103 (hnum) rfl .none rfl rfl (LeL.refl _) ⟨rfl, trivial⟩ rfl rfl rfl ?_
 refine Walk.call (cr := []) cal158 (hdr) rfl .none rfl rfl (LeL.refl _) ⟨rfl, trivial⟩ rfl rfl rfl ?_
 refine Walk.call (cr := []) cal157 (hnm) rfl .none rfl rfl (LeL.refl _) ⟨rfl, trivial⟩ rfl rfl rfl ?_
 refine evd [] [] ?_
 refine Walk.alloc (id := 3007) tz58 rfl .none rfl rfl rfl rfl ?_
 refine Walk.store ty58 .none rfl rfl rfl rfl rfl rfl (by simp) rfl ?_
 refine evd [] [] ?_
 refine dr ?_
 refine Walk.call (cr := []) cal87 (spec_l3Is_fn hw ht hr.2.2 (by omega)) rfl .none rfl rfl (LeL.refl _) trivial rfl rfl rfl ?_
 refine ev ?_
 refine sq (fun h1 h1p h1s => ?_) fun h1 h1p h1s => ?_
 ·try simp only [Q] at h1p
  refine Walk.build st58 (ks := [0]) (xs := [_]) rfl rfl .none rfl rfl rfl ?_
  refine Walk.store ty58 .none rfl rfl rfl rfl rfl rfl (by simp) rfl ?_
  refine tv ?_
  refine rn [(900, some (rdB b (rawPat b w ⟨a, k⟩ p).2.2))] (.cons (.cellA ty58 rfl rfl rfl) .nil) (.agg (.cons (.eqd ?_) (.cons (.eqd ?_) (.cons (.eqd ?_) (.cons (.eqd ?_) (.cons (.eqd ?_) (.cons (.nild ?_) .nil))))))) ⟨rfl, rfl⟩ (SubO.get ⟨.inr (by rfl), ⟨.inl rfl, trivial⟩⟩) (boxOK rfl)
  all_goals (first | (rw [hsp, if_neg (by rw [h1s]; simp)]; all_goals rfl) | (rw [hsp, if_pos h1s]; all_goals rfl))
 ·try simp only [Q] at h1p
  refine Walk.store ty58 .none rfl rfl rfl rfl rfl rfl (by simp) rfl ?_
  refine tv ?_
  refine rn [(900, some (rdB b (rawPat b w ⟨a, k⟩ p).2.2))] (.cons (.cellA ty58 rfl rfl rfl) .nil) (.agg (.cons (.eqd ?_) (.cons (.eqd ?_) (.cons (.eqd ?_) (.cons (.eqd ?_) (.cons (.eqd ?_) (.cons (.eqd ?_) .nil))))))) ⟨rfl, rfl⟩ (SubO.get ⟨.inr (by rfl), ⟨.inl rfl, trivial⟩⟩) (boxOK rfl)
  all_goals (first | (rw [hsp, if_neg (by rw [h1s]; simp)]; all_goals rfl) | (rw [hsp, if_pos h1s]; all_goals rfl))
def wideP (w : List Data) (t : Ty) (c : Int) : Pat := ⟨4, c, 0, 0, 0, (argsOf w t c).map fun _ => anyP⟩
theorem spec_l5Any_fn : FnD Try.prog 160 [] [] (.agg [.d (.i 1), .d (.i 0), .d (.i 0), .d (.i 0), .d (.i 0), .d (.sl [])]) [] := by
 refine bd Try.f160 2 [] [] fun w0 F0 own kept hk => ?_
 refine Walk.alloc (id := 3000) tz58 rfl .none rfl rfl rfl rfl ?_
 refine tv ?_
 refine Walk.build st58 (ks := [0]) (xs := [_]) rfl rfl .none rfl rfl rfl ?_
 refine Walk.store ty58 .none rfl rfl rfl rfl rfl rfl (by simp) rfl ?_
 refine tv ?_
 refine rn0 (.cons (.cellA ty58 rfl rfl rfl) .nil) (.agg (.cons (.eqd ?_) (.cons (.eqd ?_) (.cons (.eqd ?_) (.cons (.eqd ?_) (.cons (.eqd ?_) (.cons (.nild ?_) .nil)))))))
 all_goals (first | rfl | (simp []; done) | (simp_all; done) | (simp_all; omega) | omega)
theorem spec_l5Wide_fn {w : List Data} (hw : WT w) (hf : Few w) {a k c : Int} (ht : TyIn w.length ⟨a, k⟩) (hc : c ∈ vctors w ⟨a, k⟩) :
  FnD Try.prog 123 [.d (encDatas w), .agg [.d (.i a), .d (.i k)], .d (.i c)] [] (.agg [.d (.i 4), .d (.i c), .d (.i 0), .d (.i 0), .d (.i 0), .d (encPats (wideP w ⟨a, k⟩ c).kids)]) [] := by
 have h3 := (hf ⟨a, k⟩ c hc ht).1
 refine bd Try.f123 29 [] [] fun w0 F0 own kept hk => ?_
 refine Walk.box (id := 3004) .none rfl rfl rfl rfl rfl rfl rfl ?_
 refine Walk.alloc (id := 3006) tz58 rfl .none rfl rfl rfl rfl ?_
 refine tv ?_
 refine Walk.build st58 (ks := [0, 1]) (xs := [_, _]) rfl rfl .none rfl rfl rfl ?_
 refine Walk.alloc (id := 3007) tz58 rfl .none rfl rfl rfl rfl ?_
 refine Walk.store ty58 .none rfl rfl rfl rfl rfl rfl (by simp) rfl ?_
 refine tv ?_
 refine Walk.call (cr := []) cal133 (spec_l1Args_v hw ht hc) rfl .none rfl rfl (LeL.refl _) trivial rfl rfl rfl ?_
 refine ev ?_
 refine CWp.tokB 3007 5 1 6 rfl rfl rfl rfl ?_
 refine CWp.loopX (ι := List (Ty) × List (Ty)) hk (fun x => [(9, .d (.i (x.1.length : Int)))]) [16, 17, 18, 19, 20, 21, 22, 23, 24, 25, 26, 27] (fun x => [(3007, some (.box [.d (.i 4), .d (.i c), .d (.i 0), .d (.i 0), .d (.i 0), .gl 1 (x.1.map fun _ => anyP.cc)])), (1, some (.tok (x.1.map fun _ => anyP.cc).length 6))]) (fun x => x.1 ++ x.2 = argsOf w ⟨a, k⟩ c) (fun x => x.2.length) ([], argsOf w ⟨a, k⟩ c) (by simp) ⟨⟨_, rfl, (LeA.eqi (by first | rfl | (simp; done) | (simp_all; done) | omega))⟩, trivial⟩ ⟨(by first | rfl | (simp [getH]; done) | (show some (Res.box _) = some (Res.box _); rw [List.map_append]; rfl)), ⟨beq_nat_eq (by first | rfl | (simp; done) | (simp; omega) | (first | rfl | (simp; done) | (simp_all; done) | omega)), trivial⟩⟩ (fun x => rfl) (fun x hg1 => ?_)
 obtain ⟨pre, rest⟩ := x
 dsimp only at hg1 ⊢
 refine evc [] [] ?_
 refine sq (fun h1 h1p h1s => ?_) fun h1 h1p h1s => ?_
 ·try simp only [Q] at h1p
  rcases rest with _ | ⟨y, rest⟩
  ·exfalso; simp_all
  refine Walk.call (cr := []) cal160 (spec_l5Any_fn) rfl .none rfl rfl (LeL.refl _) trivial rfl rfl rfl ?_
  refine Walk.sliceLit sl56 tz58 rfl (by decide) (ks := [0]) (xs := [_]) rfl rfl (by decide) (by decide) .none rfl rfl rfl rfl ?_
  refine Walk.append sl56 zz58 rfl .none rfl rfl rfl rfl (htokL rfl (by first | rfl | (simp; done) | (simp; omega))) (by simp) (by have hz := congrArg List.length hg1; simp at hz ⊢; omega) (by have hz := congrArg List.length hg1; simp at hz ⊢; omega) ?_
  refine evd [] [] ?_
  refine Walk.store ty56 .none rfl rfl rfl rfl rfl rfl (by simp) rfl ?_
  refine dr ?_
  refine ar ?_
  refine Exists.intro ((pre ++ [y], rest)) ⟨(by have hz := hg1; rw [← hz]; simp), (by simp), Sub.x (by kernel_rfl) (by kernel_rfl) ⟨⟨_, rfl, (LeA.eqi (by first | rfl | (simp; done) | (simp_all; done) | omega))⟩, trivial⟩ (by kernel_rfl) (by kernel_rfl) ⟨(by first | rfl | (simp [getH]; done) | (show some (Res.box _) = some (Res.box _); rw [List.map_append]; rfl)), ⟨beq_nat_eq (by first | rfl | (simp; done) | (simp; omega) | (first | rfl | (simp; done) | (simp_all; done) | omega)), trivial⟩⟩⟩
 ·try simp only [Q] at h1p
  have hrest : rest = [] := by
   rcases rest with _ | ⟨a, b⟩
   ·rfl
   ·exfalso; have hz := congrArg List.length (hg1); simp only [List.length_append, List.length_cons, List.length_map] at hz; omega
  subst hrest
  refine Walk.store ty58 .none rfl rfl rfl rfl rfl rfl (by simp) rfl ?_
  refine tv ?_
  refine rn0 (.cons (.cellA ty58 rfl rfl rfl) .nil) (.agg (.cons (.eqd ?_) (.cons (.eqd ?_) (.cons (.eqd ?_) (.cons (.eqd ?_) (.cons (.eqd ?_) (.cons (.gld ?_) .nil)))))))
  all_goals (first | rfl | (show _ = Pat.cs _; rw [Pat.cs_cc]; rw [List.append_nil] at hg1; rw [hg1]; simp [wideP, Pat.kids, anyP]; done) | (show _ = Pat.cs _; rw [Pat.cs_cc]; rw [List.append_nil] at hg1; rw [hg1]; rfl))
section
variable {c : Ctx} {all : Array Oper} {chk : List Rec → Prop} {os : List Oper} {recs : List Rec} {env : Env} {hp : Hp} {Q : St → Prop}
variable {d ty : Nat} {pos : String} {af : Array Edge} {g : Option (Nat × Bool)} {pg : List (Nat × AV)} {t yt : TypeId} {x y : Operand}
theorem Walk.appendM {id k e yb : Nat} {xs ys : List (List D)} {vy : AV} {ids : List Nat} (hkp : KeptIn c.kept ids) (hid : elemB id ids = false) (hne : xs ++ ys ≠ []) (ht : SlT c.P t e k yb) (hz : ZeroT c.P e k) (hg : GH all env g pg) (hd : Nat.blt d c.n = true)
  (hx : opd env x = some (.gv id xs)) (hy : opd env y = some vy) (hyd : vy.toD = some (.sl ys)) (htok : getH hp id = some (.tok xs.length k)) (hky : ∀ y, y ∈ ys → y.length = k)
  (hb : (xs.length + ys.length) * yb ≤ 140737488355328) (hm : xs.length + ys.length ≤ 9223372036854775807)
  (hn : Walk c all chk os (mkRec (pg ++ (opF x (.gv id xs) ++ opF y vy)) [(id, .tok xs.length k)] [] ⟨some (d, .ms id (xs ++ ys).length), [(id, some (.box ((xs ++ ys).flatten.map .d)))]⟩ :: recs)
   ⟨(d, .ms id (xs ++ ys).length) :: env, (id, some (.box ((xs ++ ys).flatten.map .d))) :: hp⟩ Q) :
  Walk c all chk (⟨some d, .call ⟨.builtin .append, #[x, y], #[t, t]⟩, ty, pos, af, g⟩ :: os) recs ⟨env, hp⟩ Q := by
 refine ⟨pg ++ (opF x (.gv id xs) ++ opF y vy), [(id, .tok xs.length k)], [], _, ?_, facts_append hg.facts (facts_append (opF_holds hx) (opF_holds hy)), hh1 htok, by simp, hn⟩
 intro s a w hrel hp' hh _ K Q' hK
 obtain ⟨G, hr⟩ := hrel
 have e1 := hr.opd (opd_facts hx (fun p hm => hp' p (by simp [hm])))
 have e2 := hr.opd (opd_facts hy (fun p hm => hp' p (by simp [hm])))
 obtain ⟨i, z, z1, z2, z3⟩ := hz.out
 obtain ⟨v', w', G', hrun, hR, hA⟩ := appendV_step hr ht ⟨i, z1, z2, z3⟩ (hh1' hh) e1 (e2.toD hyd) hky hb hm ty
 unfold wpO
 rw [if_pos (hg.gf.wanted hr (fun p hm => hp' p (by simp [hm])))]
 unfold Oper.wp
 have : (execOp a.eval ⟨some d, .call ⟨.builtin .append, #[x, y], #[t, t]⟩, ty, pos, af, g⟩).run c.P w = .ok (.value v') w' := by
  simp only [execOp, resolve, invoke, builtin, Sem.run_bind, Sem.run_pure, Result.andThen_ok, List.map_toArray, List.map_cons, List.map_nil, hrun]
 rw [this, Oper.upon_value]
 have hV : Rel c ⟨(d, .gv id (xs ++ ys)) :: s.env, (id, some (.tok (xs.length + ys.length) k)) :: s.hp⟩ (a.put (some d) v') w' := ⟨G', hR.put hA hd⟩
 rcases Rel.fixV hkp d id k (xs := xs ++ ys) (by simp [getE]) (by rw [getH_cons, if_pos rfl, List.length_append]) hid hV with ⟨h, _⟩ | ⟨_, h⟩
 ·exact absurd h hne
 ·refine hK _ _ (h.congr (fun j => ?_) (fun j => ?_))
  ·show getE ((d, _) :: s.env) j = getE ((d, _) :: (d, _) :: s.env) j
   simp only [getE]
   cases Nat.beq d j <;> rfl
  ·show getH ((id, _) :: s.hp) j = getH ((id, _) :: (id, _) :: s.hp) j
   rw [getH_cons, getH_cons, getH_cons]
   by_cases hj : j = id
   ·rw [if_pos hj, if_pos hj]
   ·rw [if_neg hj, if_neg hj, if_neg hj]
end
def varP0 : Pat := ⟨2, 0, 0, 0, 0, []⟩
def mutP (b : Str) (p : Pat) (q : Nat) : Pat × Nat :=
 if pickV b q 30 = 0 then (⟨numV b (q + 1) [0, 7, 1, 2, 5], p.ctor, p.n, p.m, p.var, p.kids⟩, q + 2)
 else if pickV b q 30 = 1 then (⟨p.op, p.ctor, p.n, p.m, numV b (q + 1) [6, -1, 1], p.kids⟩, q + 2)
 else if pickV b q 30 = 2 then (⟨p.op, numV b (q + 1) [9, -1, 1], p.n, p.m, p.var, p.kids⟩, q + 2)
 else if pickV b q 30 = 3 then (⟨p.op, p.ctor, p.n, p.m, p.var, p.kids ++ [varP0]⟩, q + 1)
 else if pickV b q 30 = 4 then (⟨p.op, p.ctor, p.n, p.m, p.var, p.kids.set 0 varP0⟩, q + 1)
 else if pickV b q 30 = 5 then (⟨p.op, p.ctor, numV b (q + 1) [10, -1, 5], p.m, p.var, p.kids⟩, q + 2)
 else (⟨p.op, p.ctor, p.n, p.m, p.var, p.kids⟩, q + 1)
theorem put0 {l : List (List D)} {x : List D} {r : List (List D)} {v : List AV} (h : l = x :: r) (hx : x.length = v.length) : putC (l.flatten.map .d) 0 v = some (v ++ r.flatten.map .d) := by
 subst h
 rw [List.flatten_cons, List.map_append]
 have key : ∀ (a b : List AV), a.length = b.length → ∀ (c : List AV), putC (a ++ c) 0 b = some (b ++ c) := by
  intro a
  induction a with
  | nil => intro b h c; cases b with
   | nil => cases c <;> rfl
   | cons => simp at h
  | cons y a ih => intro b h c; cases b with
   | nil => simp at h
   | cons z b =>
    have := ih b (by simpa using h) c
    simp only [List.cons_append, putC, this]
 exact key _ _ (by simpa using hx) _
theorem chunk0 {k : Nat} {v : List AV} {vd : List D} {r : List (List D)} (hv : toDL v = some vd) (hk : v.length = k) (hr : ∀ x ∈ r, x.length = k) : chunkD (r.length + 1) k (v ++ r.flatten.map .d) = some (vd :: r) := by
 have h1 : cutC (v ++ r.flatten.map .d) 0 k = some v := cutC_zero hk
 have h2 : (v ++ r.flatten.map AV.d).drop k = r.flatten.map .d := by rw [← hk]; simp
 have h3 := chunkD_flat (f := fun x : List D => x) (k := k) (l := r) hr
 have h4 : (r.flatMap fun x => x.map AV.d) = r.flatten.map .d := by rw [List.map_flatten]; rfl
 rw [h4, List.map_id'] at h3
 simp only [chunkD, h1, hv, h2, h3]
theorem Pat.cs_app (a b : List Pat) : Pat.cs (a ++ b) = Pat.cs a ++ Pat.cs b := by
 rw [Pat.cs_cc, Pat.cs_cc, Pat.cs_cc, List.map_append]
theorem spec_l3Mutate_a {b : Str} (hb : b.length ≤ 2000) {p : Pat} {q : Nat} (hq : q ≤ 1000000) (hok : p.ok) (hc4 : ¬ (pickV b q 30 = 4 ∧ p.kids ≠ [])) :
  FnD Try.prog 124 [.ref 900 0, .agg [.d (.i p.op), .d (.i p.ctor), .d (.i p.n), .d (.i p.m), .d (.i p.var), .d (encPats p.kids)]] [(900, some (rdB b q))]
   (.agg [.d (.i (mutP b p q).1.op), .d (.i (mutP b p q).1.ctor), .d (.i (mutP b p q).1.n), .d (.i (mutP b p q).1.m), .d (.i (mutP b p q).1.var), .d (encPats (mutP b p q).1.kids)]) [(900, some (rdB b (mutP b p q).2))] := by
 rw [Pat.ok_iff] at hok
 have hkl := Pat.cs_len p.kids
 refine bd Try.f124 57 [] [] fun w0 F0 own kept hk => ?_
 refine Walk.box (id := 3003) .none rfl rfl rfl rfl rfl rfl rfl ?_
 refine Walk.alloc (id := 3004) tz58 rfl .none rfl rfl rfl rfl ?_
 refine tv ?_
 refine Walk.alloc (id := 3005) tz58 rfl .none rfl rfl rfl rfl ?_
 refine Walk.store ty58 .none rfl rfl rfl rfl rfl rfl (by simp) rfl ?_
 refine tv ?_
 refine Walk.sliceEmptyG 1 sl56 .none rfl rfl ?_
 refine ev ?_
 refine Walk.append sl56 zz58 rfl .none rfl rfl rfl rfl (htokL rfl (by first | rfl | (simp; done) | (simp; omega))) (by first | (intro x hx; exact Pat.cs_rows x hx) | (intro x hx; simp only [List.mem_singleton] at hx; subst hx; rfl)) (by simp [Pat.cs_len]; omega) (by simp [Pat.cs_len]; omega) ?_
 refine ev ?_
 refine Walk.store ty56 .none rfl rfl rfl rfl rfl rfl (by simp) rfl ?_
 refine tv ?_
 refine Walk.call (cr := []) cal102 (spec_pick_fn (p := q) (n := 30) hb (by omega) (by omega)) rfl .none rfl rfl (LeL.refl _) ⟨rfl, trivial⟩ rfl rfl rfl ?_
 refine tv ?_
 refine sq (fun h1 h1p h1s => ?_) fun h1 h1p h1s => ?_
 ·try simp only [Q, Pat.cs_len] at h1p
  refine Walk.sliceLit sl66 tz3 rfl (by decide) (ks := [0, 1, 2, 3, 4]) (xs := [_, _, _, _, _]) rfl rfl (by decide) (by decide) .none rfl rfl rfl rfl ?_
  refine Walk.call (cr := []) cal103 (spec_num_fn (p := q + 1) (l := [0, 7, 1, 2, 5]) hb (by omega) (by simp) (by simp)) rfl .none rfl rfl (LeL.refl _) ⟨rfl, trivial⟩ rfl rfl rfl ?_
  refine ev ?_
  refine Walk.store ty3 .none rfl rfl rfl rfl rfl rfl (by simp) rfl ?_
  refine tv ?_
  refine Walk.store ty58 .none rfl rfl rfl rfl rfl rfl (by simp) rfl ?_
  refine tv ?_
  refine rn [(900, some (rdB b (mutP b p q).2))] (.cons (.cellA ty58 rfl rfl rfl) .nil) (.agg (.cons (.eqd ?_) (.cons (.eqd ?_) (.cons (.eqd ?_) (.cons (.eqd ?_) (.cons (.eqd ?_) (.cons (.gld ?_) .nil))))))) ⟨rfl, rfl⟩ (SubO.get ⟨.inr (by unfold mutP; first | (rw [if_pos (by omega)]; all_goals first | rfl | (show _ = Pat.cs (p.kids ++ [varP0]); rw [Pat.cs_app]; all_goals rfl)) | (rw [if_neg (by omega), if_pos (by omega)]; all_goals first | rfl | (show _ = Pat.cs (p.kids ++ [varP0]); rw [Pat.cs_app]; all_goals rfl)) | (rw [if_neg (by omega), if_neg (by omega), if_pos (by omega)]; all_goals first | rfl | (show _ = Pat.cs (p.kids ++ [varP0]); rw [Pat.cs_app]; all_goals rfl)) | (rw [if_neg (by omega), if_neg (by omega), if_neg (by omega), if_pos (by omega)]; all_goals first | rfl | (show _ = Pat.cs (p.kids ++ [varP0]); rw [Pat.cs_app]; all_goals rfl)) | (have hnk : p.kids = [] := (by rcases hke : p.kids with _ | ⟨y, r⟩; rfl; exact absurd ⟨by omega, by rw [hke]; simp⟩ hc4); rw [if_neg (by omega), if_neg (by omega), if_neg (by omega), if_neg (by omega), if_pos (by omega), hnk]; all_goals rfl) | (rw [if_neg (by omega), if_neg (by omega), if_neg (by omega), if_neg (by omega), if_pos (by omega)]; all_goals first | rfl | (show _ = Pat.cs (p.kids ++ [varP0]); rw [Pat.cs_app]; all_goals rfl)) | (rw [if_neg (by omega), if_neg (by omega), if_neg (by omega), if_neg (by omega), if_neg (by omega), if_pos (by omega)]; all_goals first | rfl | (show _ = Pat.cs (p.kids ++ [varP0]); rw [Pat.cs_app]; all_goals rfl)) | (rw [if_neg (by omega), if_neg (by omega), if_neg (by omega), if_neg (by omega), if_neg (by omega), if_neg (by omega)]; all_goals first | rfl | (show _ = Pat.cs (p.kids ++ [varP0]); rw [Pat.cs_app]; all_goals rfl))), ⟨.inl rfl, trivial⟩⟩) (boxOK rfl)
  all_goals (unfold mutP; first | (rw [if_pos (by omega)]; all_goals first | rfl | (show _ = Pat.cs (p.kids ++ [varP0]); rw [Pat.cs_app]; all_goals rfl)) | (rw [if_neg (by omega), if_pos (by omega)]; all_goals first | rfl | (show _ = Pat.cs (p.kids ++ [varP0]); rw [Pat.cs_app]; all_goals rfl)) | (rw [if_neg (by omega), if_neg (by omega), if_pos (by omega)]; all_goals first | rfl | (show _ = Pat.cs (p.kids ++ [varP0]); rw [Pat.cs_app]; all_goals rfl)) | (rw [if_neg (by omega), if_neg (by omega), if_neg (by omega), if_pos (by omega)]; all_goals first | rfl | (show _ = Pat.cs (p.kids ++ [varP0]); rw [Pat.cs_app]; all_goals rfl)) | (have hnk : p.kids = [] := (by rcases hke : p.kids with _ | ⟨y, r⟩; rfl; exact absurd ⟨by omega, by rw [hke]; simp⟩ hc4); rw [if_neg (by omega), if_neg (by omega), if_neg (by omega), if_neg (by omega), if_pos (by omega), hnk]; all_goals rfl) | (rw [if_neg (by omega), if_neg (by omega), if_neg (by omega), if_neg (by omega), if_pos (by omega)]; all_goals first | rfl | (show _ = Pat.cs (p.kids ++ [varP0]); rw [Pat.cs_app]; all_goals rfl)) | (rw [if_neg (by omega), if_neg (by omega), if_neg (by omega), if_neg (by omega), if_neg (by omega), if_pos (by omega)]; all_goals first | rfl | (show _ = Pat.cs (p.kids ++ [varP0]); rw [Pat.cs_app]; all_goals rfl)) | (rw [if_neg (by omega), if_neg (by omega), if_neg (by omega), if_neg (by omega), if_neg (by omega), if_neg (by omega)]; all_goals first | rfl | (show _ = Pat.cs (p.kids ++ [varP0]); rw [Pat.cs_app]; all_goals rfl)))
 ·try simp only [Q, Pat.cs_len] at h1p
  refine sq (fun h2 h2p h2s => ?_) fun h2 h2p h2s => ?_
  ·try simp only [Q, Pat.cs_len] at h2p
   refine Walk.sliceLit sl66 tz3 rfl (by decide) (ks := [0, 1, 2]) (xs := [_, _, _]) rfl rfl (by decide) (by decide) .none rfl rfl rfl rfl ?_
   refine Walk.call (cr := []) cal103 (spec_num_fn (p := q + 1) (l := [6, -1, 1]) hb (by omega) (by simp) (by simp)) rfl .none rfl rfl (LeL.refl _) ⟨rfl, trivial⟩ rfl rfl rfl ?_
   refine ev ?_
   refine Walk.store ty3 .none rfl rfl rfl rfl rfl rfl (by simp) rfl ?_
   refine tv ?_
   refine Walk.store ty58 .none rfl rfl rfl rfl rfl rfl (by simp) rfl ?_
   refine tv ?_
   refine rn [(900, some (rdB b (mutP b p q).2))] (.cons (.cellA ty58 rfl rfl rfl) .nil) (.agg (.cons (.eqd ?_) (.cons (.eqd ?_) (.cons (.eqd ?_) (.cons (.eqd ?_) (.cons (.eqd ?_) (.cons (.gld ?_) .nil))))))) ⟨rfl, rfl⟩ (SubO.get ⟨.inr (by unfold mutP; first | (rw [if_pos (by omega)]; all_goals first | rfl | (show _ = Pat.cs (p.kids ++ [varP0]); rw [Pat.cs_app]; all_goals rfl)) | (rw [if_neg (by omega), if_pos (by omega)]; all_goals first | rfl | (show _ = Pat.cs (p.kids ++ [varP0]); rw [Pat.cs_app]; all_goals rfl)) | (rw [if_neg (by omega), if_neg (by omega), if_pos (by omega)]; all_goals first | rfl | (show _ = Pat.cs (p.kids ++ [varP0]); rw [Pat.cs_app]; all_goals rfl)) | (rw [if_neg (by omega), if_neg (by omega), if_neg (by omega), if_pos (by omega)]; all_goals first | rfl | (show _ = Pat.cs (p.kids ++ [varP0]); rw [Pat.cs_app]; all_goals rfl)) | (have hnk : p.kids = [] := (by rcases hke : p.kids with _ | ⟨y, r⟩; rfl; exact absurd ⟨by omega, by rw [hke]; simp⟩ hc4); rw [if_neg (by omega), if_neg (by omega), if_neg (by omega), if_neg (by omega), if_pos (by omega), hnk]; all_goals rfl) | (rw [if_neg (by omega), if_neg (by omega), if_neg (by omega), if_neg (by omega), if_pos (by omega)]; all_goals first | rfl | (show _ = Pat.cs (p.kids ++ [varP0]); rw [Pat.cs_app]; all_goals rfl)) | (rw [if_neg (by omega), if_neg (by omega), if_neg (by omega), if_neg (by omega), if_neg (by omega), if_pos (by omega)]; all_goals first | rfl | (show _ = Pat.cs (p.kids ++ [varP0]); rw [Pat.cs_app]; all_goals rfl)) | (rw [if_neg (by omega), if_neg (by omega), if_neg (by omega), if_neg (by omega), if_neg (by omega), if_neg (by omega)]; all_goals first | rfl | (show _ = Pat.cs (p.kids ++ [varP0]); rw [Pat.cs_app]; all_goals rfl))), ⟨.inl rfl, trivial⟩⟩) (boxOK rfl)
   all_goals (unfold mutP; first | (rw [if_pos (by omega)]; all_goals first | rfl | (show _ = Pat.cs (p.kids ++ [varP0]); rw [Pat.cs_app]; all_goals rfl)) | (rw [if_neg (by omega), if_pos (by omega)]; all_goals first | rfl | (show _ = Pat.cs (p.kids ++ [varP0]); rw [Pat.cs_app]; all_goals rfl)) | (rw [if_neg (by omega), if_neg (by omega), if_pos (by omega)]; all_goals first | rfl | (show _ = Pat.cs (p.kids ++ [varP0]); rw [Pat.cs_app]; all_goals rfl)) | (rw [if_neg (by omega), if_neg (by omega), if_neg (by omega), if_pos (by omega)]; all_goals first | rfl | (show _ = Pat.cs (p.kids ++ [varP0]); rw [Pat.cs_app]; all_goals rfl)) | (have hnk : p.kids = [] := (by rcases hke : p.kids with _ | ⟨y, r⟩; rfl; exact absurd ⟨by omega, by rw [hke]; simp⟩ hc4); rw [if_neg (by omega), if_neg (by omega), if_neg (by omega), if_neg (by omega), if_pos (by omega), hnk]; all_goals rfl) | (rw [if_neg (by omega), if_neg (by omega), if_neg (by omega), if_neg (by omega), if_pos (by omega)]; all_goals first | rfl | (show _ = Pat.cs (p.kids ++ [varP0]); rw [Pat.cs_app]; all_goals rfl)) | (rw [if_neg (by omega), if_neg (by omega), if_neg (by omega), if_neg (by omega), if_neg (by omega), if_pos (by omega)]; all_goals first | rfl | (show _ = Pat.cs (p.kids ++ [varP0]); rw [Pat.cs_app]; all_goals rfl)) | (rw [if_neg (by omega), if_neg (by omega), if_neg (by omega), if_neg (by omega), if_neg (by omega), if_neg (by omega)]; all_goals first | rfl | (show _ = Pat.cs (p.kids ++ [varP0]); rw [Pat.cs_app]; all_goals rfl)))
  ·try simp only [Q, Pat.cs_len] at h2p
   refine sq (fun h3 h3p h3s => ?_) fun h3 h3p h3s => ?_
   ·try simp only [Q, Pat.cs_len] at h3p
    refine Walk.sliceLit sl66 tz3 rfl (by decide) (ks := [0, 1, 2]) (xs := [_, _, _]) rfl rfl (by decide) (by decide) .none rfl rfl rfl rfl ?_
    refine Walk.call (cr := []) cal103 (spec_num_fn (p := q + 1) (l := [9, -1, 1]) hb (by omega) (by simp) (by simp)) rfl .none rfl rfl (LeL.refl _) ⟨rfl, trivial⟩ rfl rfl rfl ?_
    refine ev ?_
    refine Walk.store ty3 .none rfl rfl rfl rfl rfl rfl (by simp) rfl ?_
    refine tv ?_
    refine Walk.store ty58 .none rfl rfl rfl rfl rfl rfl (by simp) rfl ?_
    refine tv ?_
    refine rn [(900, some (rdB b (mutP b p q).2))] (.cons (.cellA ty58 rfl rfl rfl) .nil) (.agg (.cons (.eqd ?_) (.cons (.eqd ?_) (.cons (.eqd ?_) (.cons (.eqd ?_) (.cons (.eqd ?_) (.cons (.gld ?_) .nil))))))) ⟨rfl, rfl⟩ (SubO.get ⟨.inr (by unfold mutP; first | (rw [if_pos (by omega)]; all_goals first | rfl | (show _ = Pat.cs (p.kids ++ [varP0]); rw [Pat.cs_app]; all_goals rfl)) | (rw [if_neg (by omega), if_pos (by omega)]; all_goals first | rfl | (show _ = Pat.cs (p.kids ++ [varP0]); rw [Pat.cs_app]; all_goals rfl)) | (rw [if_neg (by omega), if_neg (by omega), if_pos (by omega)]; all_goals first | rfl | (show _ = Pat.cs (p.kids ++ [varP0]); rw [Pat.cs_app]; all_goals rfl)) | (rw [if_neg (by omega), if_neg (by omega), if_neg (by omega), if_pos (by omega)]; all_goals first | rfl | (show _ = Pat.cs (p.kids ++ [varP0]); rw [Pat.cs_app]; all_goals rfl)) | (have hnk : p.kids = [] := (by rcases hke : p.kids with _ | ⟨y, r⟩; rfl; exact absurd ⟨by omega, by rw [hke]; simp⟩ hc4); rw [if_neg (by omega), if_neg (by omega), if_neg (by omega), if_neg (by omega), if_pos (by omega), hnk]; all_goals rfl) | (rw [if_neg (by omega), if_neg (by omega), if_neg (by omega), if_neg (by omega), if_pos (by omega)]; all_goals first | rfl | (show _ = Pat.cs (p.kids ++ [varP0]); rw [Pat.cs_app]; all_goals rfl)) | (rw [if_neg (by omega), if_neg (by omega), if_neg (by omega), if_neg (by omega), if_neg (by omega), if_pos (by omega)]; all_goals first | rfl | (show _ = Pat.cs (p.kids ++ [varP0]); rw [Pat.cs_app]; all_goals rfl)) | (rw [if_neg (by omega), if_neg (by omega), if_neg (by omega), if_neg (by omega), if_neg (by omega), if_neg (by omega)]; all_goals first | rfl | (show _ = Pat.cs (p.kids ++ [varP0]); rw [Pat.cs_app]; all_goals rfl))), ⟨.inl rfl, trivial⟩⟩) (boxOK rfl)
    all_goals (unfold mutP; first | (rw [if_pos (by omega)]; all_goals first | rfl | (show _ = Pat.cs (p.kids ++ [varP0]); rw [Pat.cs_app]; all_goals rfl)) | (rw [if_neg (by omega), if_pos (by omega)]; all_goals first | rfl | (show _ = Pat.cs (p.kids ++ [varP0]); rw [Pat.cs_app]; all_goals rfl)) | (rw [if_neg (by omega), if_neg (by omega), if_pos (by omega)]; all_goals first | rfl | (show _ = Pat.cs (p.kids ++ [varP0]); rw [Pat.cs_app]; all_goals rfl)) | (rw [if_neg (by omega), if_neg (by omega), if_neg (by omega), if_pos (by omega)]; all_goals first | rfl | (show _ = Pat.cs (p.kids ++ [varP0]); rw [Pat.cs_app]; all_goals rfl)) | (have hnk : p.kids = [] := (by rcases hke : p.kids with _ | ⟨y, r⟩; rfl; exact absurd ⟨by omega, by rw [hke]; simp⟩ hc4); rw [if_neg (by omega), if_neg (by omega), if_neg (by omega), if_neg (by omega), if_pos (by omega), hnk]; all_goals rfl) | (rw [if_neg (by omega), if_neg (by omega), if_neg (by omega), if_neg (by omega), if_pos (by omega)]; all_goals first | rfl | (show _ = Pat.cs (p.kids ++ [varP0]); rw [Pat.cs_app]; all_goals rfl)) | (rw [if_neg (by omega), if_neg (by omega), if_neg (by omega), if_neg (by omega), if_neg (by omega), if_pos (by omega)]; all_goals first | rfl | (show _ = Pat.cs (p.kids ++ [varP0]); rw [Pat.cs_app]; all_goals rfl)) | (rw [if_neg (by omega), if_neg (by omega), if_neg (by omega), if_neg (by omega), if_neg (by omega), if_neg (by omega)]; all_goals first | rfl | (show _ = Pat.cs (p.kids ++ [varP0]); rw [Pat.cs_app]; all_goals rfl)))
   ·try simp only [Q, Pat.cs_len] at h3p
    refine sq (fun h4 h4p h4s => ?_) fun h4 h4p h4s => ?_
    ·try simp only [Q, Pat.cs_len] at h4p
     refine Walk.build st58 (ks := [0]) (xs := [_]) rfl rfl .none rfl rfl rfl ?_
     refine Walk.sliceLit sl56 tz58 rfl (by decide) (ks := [0]) (xs := [_]) rfl rfl (by decide) (by decide) .none rfl rfl rfl rfl ?_
     refine Walk.append sl56 zz58 rfl .none rfl rfl rfl rfl (htokL rfl (by first | rfl | (simp; done) | (simp; omega))) (by first | (intro x hx; exact Pat.cs_rows x hx) | (intro x hx; simp only [List.mem_singleton] at hx; subst hx; rfl)) (by simp [Pat.cs_len]; omega) (by simp [Pat.cs_len]; omega) ?_
     refine ev ?_
     refine Walk.store ty56 .none rfl rfl rfl rfl rfl rfl (by simp) rfl ?_
     refine tv ?_
     refine Walk.store ty58 .none rfl rfl rfl rfl rfl rfl (by simp) rfl ?_
     refine tv ?_
     refine rn [(900, some (rdB b (mutP b p q).2))] (.cons (.cellA ty58 rfl rfl rfl) .nil) (.agg (.cons (.eqd ?_) (.cons (.eqd ?_) (.cons (.eqd ?_) (.cons (.eqd ?_) (.cons (.eqd ?_) (.cons (.gld ?_) .nil))))))) ⟨rfl, rfl⟩ (SubO.get ⟨.inr (by unfold mutP; first | (rw [if_pos (by omega)]; all_goals first | rfl | (show _ = Pat.cs (p.kids ++ [varP0]); rw [Pat.cs_app]; all_goals rfl)) | (rw [if_neg (by omega), if_pos (by omega)]; all_goals first | rfl | (show _ = Pat.cs (p.kids ++ [varP0]); rw [Pat.cs_app]; all_goals rfl)) | (rw [if_neg (by omega), if_neg (by omega), if_pos (by omega)]; all_goals first | rfl | (show _ = Pat.cs (p.kids ++ [varP0]); rw [Pat.cs_app]; all_goals rfl)) | (rw [if_neg (by omega), if_neg (by omega), if_neg (by omega), if_pos (by omega)]; all_goals first | rfl | (show _ = Pat.cs (p.kids ++ [varP0]); rw [Pat.cs_app]; all_goals rfl)) | (have hnk : p.kids = [] := (by rcases hke : p.kids with _ | ⟨y, r⟩; rfl; exact absurd ⟨by omega, by rw [hke]; simp⟩ hc4); rw [if_neg (by omega), if_neg (by omega), if_neg (by omega), if_neg (by omega), if_pos (by omega), hnk]; all_goals rfl) | (rw [if_neg (by omega), if_neg (by omega), if_neg (by omega), if_neg (by omega), if_pos (by omega)]; all_goals first | rfl | (show _ = Pat.cs (p.kids ++ [varP0]); rw [Pat.cs_app]; all_goals rfl)) | (rw [if_neg (by omega), if_neg (by omega), if_neg (by omega), if_neg (by omega), if_neg (by omega), if_pos (by omega)]; all_goals first | rfl | (show _ = Pat.cs (p.kids ++ [varP0]); rw [Pat.cs_app]; all_goals rfl)) | (rw [if_neg (by omega), if_neg (by omega), if_neg (by omega), if_neg (by omega), if_neg (by omega), if_neg (by omega)]; all_goals first | rfl | (show _ = Pat.cs (p.kids ++ [varP0]); rw [Pat.cs_app]; all_goals rfl))), ⟨.inl rfl, trivial⟩⟩) (boxOK rfl)
     all_goals (unfold mutP; first | (rw [if_pos (by omega)]; all_goals first | rfl | (show _ = Pat.cs (p.kids ++ [varP0]); rw [Pat.cs_app]; all_goals rfl)) | (rw [if_neg (by omega), if_pos (by omega)]; all_goals first | rfl | (show _ = Pat.cs (p.kids ++ [varP0]); rw [Pat.cs_app]; all_goals rfl)) | (rw [if_neg (by omega), if_neg (by omega), if_pos (by omega)]; all_goals first | rfl | (show _ = Pat.cs (p.kids ++ [varP0]); rw [Pat.cs_app]; all_goals rfl)) | (rw [if_neg (by omega), if_neg (by omega), if_neg (by omega), if_pos (by omega)]; all_goals first | rfl | (show _ = Pat.cs (p.kids ++ [varP0]); rw [Pat.cs_app]; all_goals rfl)) | (have hnk : p.kids = [] := (by rcases hke : p.kids with _ | ⟨y, r⟩; rfl; exact absurd ⟨by omega, by rw [hke]; simp⟩ hc4); rw [if_neg (by omega), if_neg (by omega), if_neg (by omega), if_neg (by omega), if_pos (by omega), hnk]; all_goals rfl) | (rw [if_neg (by omega), if_neg (by omega), if_neg (by omega), if_neg (by omega), if_pos (by omega)]; all_goals first | rfl | (show _ = Pat.cs (p.kids ++ [varP0]); rw [Pat.cs_app]; all_goals rfl)) | (rw [if_neg (by omega), if_neg (by omega), if_neg (by omega), if_neg (by omega), if_neg (by omega), if_pos (by omega)]; all_goals first | rfl | (show _ = Pat.cs (p.kids ++ [varP0]); rw [Pat.cs_app]; all_goals rfl)) | (rw [if_neg (by omega), if_neg (by omega), if_neg (by omega), if_neg (by omega), if_neg (by omega), if_neg (by omega)]; all_goals first | rfl | (show _ = Pat.cs (p.kids ++ [varP0]); rw [Pat.cs_app]; all_goals rfl)))
    ·try simp only [Q, Pat.cs_len] at h4p
     refine sq (fun h5 h5p h5s => ?_) fun h5 h5p h5s => ?_
     ·try simp only [Q, Pat.cs_len] at h5p
      refine sq (fun h6 h6p h6s => ?_) fun h6 h6p h6s => ?_
      ·try simp only [Q, Pat.cs_len] at h6p
       exfalso; apply hc4; refine ⟨by omega, fun hh => ?_⟩; rw [hh] at h6p; exact absurd h6p (by decide) --stop
      ·try simp only [Q, Pat.cs_len] at h6p
       refine Walk.store ty58 .none rfl rfl rfl rfl rfl rfl (by simp) rfl ?_
       refine tv ?_
       refine rn [(900, some (rdB b (mutP b p q).2))] (.cons (.cellA ty58 rfl rfl rfl) .nil) (.agg (.cons (.eqd ?_) (.cons (.eqd ?_) (.cons (.eqd ?_) (.cons (.eqd ?_) (.cons (.eqd ?_) (.cons (.gld ?_) .nil))))))) ⟨rfl, rfl⟩ (SubO.get ⟨.inr (by unfold mutP; first | (rw [if_pos (by omega)]; all_goals first | rfl | (show _ = Pat.cs (p.kids ++ [varP0]); rw [Pat.cs_app]; all_goals rfl)) | (rw [if_neg (by omega), if_pos (by omega)]; all_goals first | rfl | (show _ = Pat.cs (p.kids ++ [varP0]); rw [Pat.cs_app]; all_goals rfl)) | (rw [if_neg (by omega), if_neg (by omega), if_pos (by omega)]; all_goals first | rfl | (show _ = Pat.cs (p.kids ++ [varP0]); rw [Pat.cs_app]; all_goals rfl)) | (rw [if_neg (by omega), if_neg (by omega), if_neg (by omega), if_pos (by omega)]; all_goals first | rfl | (show _ = Pat.cs (p.kids ++ [varP0]); rw [Pat.cs_app]; all_goals rfl)) | (have hnk : p.kids = [] := (by rcases hke : p.kids with _ | ⟨y, r⟩; rfl; exact absurd ⟨by omega, by rw [hke]; simp⟩ hc4); rw [if_neg (by omega), if_neg (by omega), if_neg (by omega), if_neg (by omega), if_pos (by omega), hnk]; all_goals rfl) | (rw [if_neg (by omega), if_neg (by omega), if_neg (by omega), if_neg (by omega), if_pos (by omega)]; all_goals first | rfl | (show _ = Pat.cs (p.kids ++ [varP0]); rw [Pat.cs_app]; all_goals rfl)) | (rw [if_neg (by omega), if_neg (by omega), if_neg (by omega), if_neg (by omega), if_neg (by omega), if_pos (by omega)]; all_goals first | rfl | (show _ = Pat.cs (p.kids ++ [varP0]); rw [Pat.cs_app]; all_goals rfl)) | (rw [if_neg (by omega), if_neg (by omega), if_neg (by omega), if_neg (by omega), if_neg (by omega), if_neg (by omega)]; all_goals first | rfl | (show _ = Pat.cs (p.kids ++ [varP0]); rw [Pat.cs_app]; all_goals rfl))), ⟨.inl rfl, trivial⟩⟩) (boxOK rfl)
       all_goals (unfold mutP; first | (rw [if_pos (by omega)]; all_goals first | rfl | (show _ = Pat.cs (p.kids ++ [varP0]); rw [Pat.cs_app]; all_goals rfl)) | (rw [if_neg (by omega), if_pos (by omega)]; all_goals first | rfl | (show _ = Pat.cs (p.kids ++ [varP0]); rw [Pat.cs_app]; all_goals rfl)) | (rw [if_neg (by omega), if_neg (by omega), if_pos (by omega)]; all_goals first | rfl | (show _ = Pat.cs (p.kids ++ [varP0]); rw [Pat.cs_app]; all_goals rfl)) | (rw [if_neg (by omega), if_neg (by omega), if_neg (by omega), if_pos (by omega)]; all_goals first | rfl | (show _ = Pat.cs (p.kids ++ [varP0]); rw [Pat.cs_app]; all_goals rfl)) | (have hnk : p.kids = [] := (by rcases hke : p.kids with _ | ⟨y, r⟩; rfl; exact absurd ⟨by omega, by rw [hke]; simp⟩ hc4); rw [if_neg (by omega), if_neg (by omega), if_neg (by omega), if_neg (by omega), if_pos (by omega), hnk]; all_goals rfl) | (rw [if_neg (by omega), if_neg (by omega), if_neg (by omega), if_neg (by omega), if_pos (by omega)]; all_goals first | rfl | (show _ = Pat.cs (p.kids ++ [varP0]); rw [Pat.cs_app]; all_goals rfl)) | (rw [if_neg (by omega), if_neg (by omega), if_neg (by omega), if_neg (by omega), if_neg (by omega), if_pos (by omega)]; all_goals first | rfl | (show _ = Pat.cs (p.kids ++ [varP0]); rw [Pat.cs_app]; all_goals rfl)) | (rw [if_neg (by omega), if_neg (by omega), if_neg (by omega), if_neg (by omega), if_neg (by omega), if_neg (by omega)]; all_goals first | rfl | (show _ = Pat.cs (p.kids ++ [varP0]); rw [Pat.cs_app]; all_goals rfl)))
     ·try simp only [Q, Pat.cs_len] at h5p
      refine sq (fun h7 h7p h7s => ?_) fun h7 h7p h7s => ?_
      ·try simp only [Q, Pat.cs_len] at h7p
       refine Walk.sliceLit sl66 tz3 rfl (by decide) (ks := [0, 1, 2]) (xs := [_, _, _]) rfl rfl (by decide) (by decide) .none rfl rfl rfl rfl ?_
       refine Walk.call (cr := []) cal103 (spec_num_fn (p := q + 1) (l := [10, -1, 5]) hb (by omega) (by simp) (by simp)) rfl .none rfl rfl (LeL.refl _) ⟨rfl, trivial⟩ rfl rfl rfl ?_
       refine ev ?_
       refine Walk.store ty3 .none rfl rfl rfl rfl rfl rfl (by simp) rfl ?_
       refine tv ?_
       refine Walk.store ty58 .none rfl rfl rfl rfl rfl rfl (by simp) rfl ?_
       refine tv ?_
       refine rn [(900, some (rdB b (mutP b p q).2))] (.cons (.cellA ty58 rfl rfl rfl) .nil) (.agg (.cons (.eqd ?_) (.cons (.eqd ?_) (.cons (.eqd ?_) (.cons (.eqd ?_) (.cons (.eqd ?_) (.cons (.gld ?_) .nil))))))) ⟨rfl, rfl⟩ (SubO.get ⟨.inr (by unfold mutP; first | (rw [if_pos (by omega)]; all_goals first | rfl | (show _ = Pat.cs (p.kids ++ [varP0]); rw [Pat.cs_app]; all_goals rfl)) | (rw [if_neg (by omega), if_pos (by omega)]; all_goals first | rfl | (show _ = Pat.cs (p.kids ++ [varP0]); rw [Pat.cs_app]; all_goals rfl)) | (rw [if_neg (by omega), if_neg (by omega), if_pos (by omega)]; all_goals first | rfl | (show _ = Pat.cs (p.kids ++ [varP0]); rw [Pat.cs_app]; all_goals rfl)) | (rw [if_neg (by omega), if_neg (by omega), if_neg (by omega), if_pos (by omega)]; all_goals first | rfl | (show _ = Pat.cs (p.kids ++ [varP0]); rw [Pat.cs_app]; all_goals rfl)) | (have hnk : p.kids = [] := (by rcases hke : p.kids with _ | ⟨y, r⟩; rfl; exact absurd ⟨by omega, by rw [hke]; simp⟩ hc4); rw [if_neg (by omega), if_neg (by omega), if_neg (by omega), if_neg (by omega), if_pos (by omega), hnk]; all_goals rfl) | (rw [if_neg (by omega), if_neg (by omega), if_neg (by omega), if_neg (by omega), if_pos (by omega)]; all_goals first | rfl | (show _ = Pat.cs (p.kids ++ [varP0]); rw [Pat.cs_app]; all_goals rfl)) | (rw [if_neg (by omega), if_neg (by omega), if_neg (by omega), if_neg (by omega), if_neg (by omega), if_pos (by omega)]; all_goals first | rfl | (show _ = Pat.cs (p.kids ++ [varP0]); rw [Pat.cs_app]; all_goals rfl)) | (rw [if_neg (by omega), if_neg (by omega), if_neg (by omega), if_neg (by omega), if_neg (by omega), if_neg (by omega)]; all_goals first | rfl | (show _ = Pat.cs (p.kids ++ [varP0]); rw [Pat.cs_app]; all_goals rfl))), ⟨.inl rfl, trivial⟩⟩) (boxOK rfl)
       all_goals (unfold mutP; first | (rw [if_pos (by omega)]; all_goals first | rfl | (show _ = Pat.cs (p.kids ++ [varP0]); rw [Pat.cs_app]; all_goals rfl)) | (rw [if_neg (by omega), if_pos (by omega)]; all_goals first | rfl | (show _ = Pat.cs (p.kids ++ [varP0]); rw [Pat.cs_app]; all_goals rfl)) | (rw [if_neg (by omega), if_neg (by omega), if_pos (by omega)]; all_goals first | rfl | (show _ = Pat.cs (p.kids ++ [varP0]); rw [Pat.cs_app]; all_goals rfl)) | (rw [if_neg (by omega), if_neg (by omega), if_neg (by omega), if_pos (by omega)]; all_goals first | rfl | (show _ = Pat.cs (p.kids ++ [varP0]); rw [Pat.cs_app]; all_goals rfl)) | (have hnk : p.kids = [] := (by rcases hke : p.kids with _ | ⟨y, r⟩; rfl; exact absurd ⟨by omega, by rw [hke]; simp⟩ hc4); rw [if_neg (by omega), if_neg (by omega), if_neg (by omega), if_neg (by omega), if_pos (by omega), hnk]; all_goals rfl) | (rw [if_neg (by omega), if_neg (by omega), if_neg (by omega), if_neg (by omega), if_pos (by omega)]; all_goals first | rfl | (show _ = Pat.cs (p.kids ++ [varP0]); rw [Pat.cs_app]; all_goals rfl)) | (rw [if_neg (by omega), if_neg (by omega), if_neg (by omega), if_neg (by omega), if_neg (by omega), if_pos (by omega)]; all_goals first | rfl | (show _ = Pat.cs (p.kids ++ [varP0]); rw [Pat.cs_app]; all_goals rfl)) | (rw [if_neg (by omega), if_neg (by omega), if_neg (by omega), if_neg (by omega), if_neg (by omega), if_neg (by omega)]; all_goals first | rfl | (show _ = Pat.cs (p.kids ++ [varP0]); rw [Pat.cs_app]; all_goals rfl)))
      ·try simp only [Q, Pat.cs_len] at h7p
       refine Walk.store ty58 .none rfl rfl rfl rfl rfl rfl (by simp) rfl ?_
       refine tv ?_
       refine rn [(900, some (rdB b (mutP b p q).2))] (.cons (.cellA ty58 rfl rfl rfl) .nil) (.agg (.cons (.eqd ?_) (.cons (.eqd ?_) (.cons (.eqd ?_) (.cons (.eqd ?_) (.cons (.eqd ?_) (.cons (.gld ?_) .nil))))))) ⟨rfl, rfl⟩ (SubO.get ⟨.inr (by unfold mutP; first | (rw [if_pos (by omega)]; all_goals first | rfl | (show _ = Pat.cs (p.kids ++ [varP0]); rw [Pat.cs_app]; all_goals rfl)) | (rw [if_neg (by omega), if_pos (by omega)]; all_goals first | rfl | (show _ = Pat.cs (p.kids ++ [varP0]); rw [Pat.cs_app]; all_goals rfl)) | (rw [if_neg (by omega), if_neg (by omega), if_pos (by omega)]; all_goals first | rfl | (show _ = Pat.cs (p.kids ++ [varP0]); rw [Pat.cs_app]; all_goals rfl)) | (rw [if_neg (by omega), if_neg (by omega), if_neg (by omega), if_pos (by omega)]; all_goals first | rfl | (show _ = Pat.cs (p.kids ++ [varP0]); rw [Pat.cs_app]; all_goals rfl)) | (have hnk : p.kids = [] := (by rcases hke : p.kids with _ | ⟨y, r⟩; rfl; exact absurd ⟨by omega, by rw [hke]; simp⟩ hc4); rw [if_neg (by omega), if_neg (by omega), if_neg (by omega), if_neg (by omega), if_pos (by omega), hnk]; all_goals rfl) | (rw [if_neg (by omega), if_neg (by omega), if_neg (by omega), if_neg (by omega), if_pos (by omega)]; all_goals first | rfl | (show _ = Pat.cs (p.kids ++ [varP0]); rw [Pat.cs_app]; all_goals rfl)) | (rw [if_neg (by omega), if_neg (by omega), if_neg (by omega), if_neg (by omega), if_neg (by omega), if_pos (by omega)]; all_goals first | rfl | (show _ = Pat.cs (p.kids ++ [varP0]); rw [Pat.cs_app]; all_goals rfl)) | (rw [if_neg (by omega), if_neg (by omega), if_neg (by omega), if_neg (by omega), if_neg (by omega), if_neg (by omega)]; all_goals first | rfl | (show _ = Pat.cs (p.kids ++ [varP0]); rw [Pat.cs_app]; all_goals rfl))), ⟨.inl rfl, trivial⟩⟩) (boxOK rfl)
       all_goals (unfold mutP; first | (rw [if_pos (by omega)]; all_goals first | rfl | (show _ = Pat.cs (p.kids ++ [varP0]); rw [Pat.cs_app]; all_goals rfl)) | (rw [if_neg (by omega), if_pos (by omega)]; all_goals first | rfl | (show _ = Pat.cs (p.kids ++ [varP0]); rw [Pat.cs_app]; all_goals rfl)) | (rw [if_neg (by omega), if_neg (by omega), if_pos (by omega)]; all_goals first | rfl | (show _ = Pat.cs (p.kids ++ [varP0]); rw [Pat.cs_app]; all_goals rfl)) | (rw [if_neg (by omega), if_neg (by omega), if_neg (by omega), if_pos (by omega)]; all_goals first | rfl | (show _ = Pat.cs (p.kids ++ [varP0]); rw [Pat.cs_app]; all_goals rfl)) | (have hnk : p.kids = [] := (by rcases hke : p.kids with _ | ⟨y, r⟩; rfl; exact absurd ⟨by omega, by rw [hke]; simp⟩ hc4); rw [if_neg (by omega), if_neg (by omega), if_neg (by omega), if_neg (by omega), if_pos (by omega), hnk]; all_goals rfl) | (rw [if_neg (by omega), if_neg (by omega), if_neg (by omega), if_neg (by omega), if_pos (by omega)]; all_goals first | rfl | (show _ = Pat.cs (p.kids ++ [varP0]); rw [Pat.cs_app]; all_goals rfl)) | (rw [if_neg (by omega), if_neg (by omega), if_neg (by omega), if_neg (by omega), if_neg (by omega), if_pos (by omega)]; all_goals first | rfl | (show _ = Pat.cs (p.kids ++ [varP0]); rw [Pat.cs_app]; all_goals rfl)) | (rw [if_neg (by omega), if_neg (by omega), if_neg (by omega), if_neg (by omega), if_neg (by omega), if_neg (by omega)]; all_goals first | rfl | (show _ = Pat.cs (p.kids ++ [varP0]); rw [Pat.cs_app]; all_goals rfl)))
theorem spec_l3Mutate_b {b : Str} (hb : b.length ≤ 2000) {p : Pat} {q : Nat} (hq : q ≤ 1000000) (hok : p.ok) (hc4 : pickV b q 30 = 4) {y : Pat} {r : List Pat} (hk4 : p.kids = y :: r) :
  FnD Try.prog 124 [.ref 900 0, .agg [.d (.i p.op), .d (.i p.ctor), .d (.i p.n), .d (.i p.m), .d (.i p.var), .d (encPats p.kids)]] [(900, some (rdB b q))]
   (.agg [.d (.i (mutP b p q).1.op), .d (.i (mutP b p q).1.ctor), .d (.i (mutP b p q).1.n), .d (.i (mutP b p q).1.m), .d (.i (mutP b p q).1.var), .d (encPats (mutP b p q).1.kids)]) [(900, some (rdB b (mutP b p q).2))] := by
 rw [Pat.ok_iff] at hok
 have hkl := Pat.cs_len p.kids
 have hcs : Pat.cs p.kids = y.cc :: Pat.cs r := by rw [Pat.cs_cc, hk4, List.map_cons, ← Pat.cs_cc]
 have hrl : (Pat.cs p.kids).length = (Pat.cs r).length + 1 := by rw [hcs]; rfl
 have hmu : mutP b p q = (⟨p.op, p.ctor, p.n, p.m, p.var, varP0 :: r⟩, q + 1) := by
  unfold mutP; rw [if_neg (by omega), if_neg (by omega), if_neg (by omega), if_neg (by omega), if_pos hc4, hk4]; rfl
 refine bd Try.f124 57 [] [17] fun w0 F0 own kept hk => ?_
 refine Walk.box (id := 3003) .none rfl rfl rfl rfl rfl rfl rfl ?_
 refine Walk.alloc (id := 3004) tz58 rfl .none rfl rfl rfl rfl ?_
 refine tv ?_
 refine Walk.alloc (id := 3005) tz58 rfl .none rfl rfl rfl rfl ?_
 refine Walk.store ty58 .none rfl rfl rfl rfl rfl rfl (by simp) rfl ?_
 refine tv ?_
 refine Walk.sliceEmptyGV 1 sl56 .none rfl rfl ?_
 refine ev ?_
 refine Walk.appendM hk rfl (by rw [hcs]; simp) sl56 zz58 .none rfl rfl rfl rfl (htokL rfl (by first | rfl | (simp; done) | (simp; omega))) (by intro x hx; exact Pat.cs_rows x hx) (by simp [Pat.cs_len]; omega) (by simp [Pat.cs_len]; omega) ?_
 refine ev ?_
 refine Walk.store ty56 .none rfl rfl rfl rfl rfl rfl (by simp) rfl ?_
 refine tv ?_
 refine Walk.call (cr := []) cal102 (spec_pick_fn (p := q) (n := 30) hb (by omega) (by omega)) rfl .none rfl rfl (LeL.refl _) ⟨rfl, trivial⟩ rfl rfl rfl ?_
 refine tv ?_
 refine sq (fun h1 h1p h1s => ?_) fun h1 h1p h1s => ?_
 ·try simp only [Q, Pat.cs_len] at h1p
  exfalso; omega --stop
 ·try simp only [Q, Pat.cs_len] at h1p
  refine sq (fun h2 h2p h2s => ?_) fun h2 h2p h2s => ?_
  ·try simp only [Q, Pat.cs_len] at h2p
   exfalso; omega --stop
  ·try simp only [Q, Pat.cs_len] at h2p
   refine sq (fun h3 h3p h3s => ?_) fun h3 h3p h3s => ?_
   ·try simp only [Q, Pat.cs_len] at h3p
    exfalso; omega --stop
   ·try simp only [Q, Pat.cs_len] at h3p
    refine sq (fun h4 h4p h4s => ?_) fun h4 h4p h4s => ?_
    ·try simp only [Q, Pat.cs_len] at h4p
     exfalso; omega --stop
    ·try simp only [Q, Pat.cs_len] at h4p
     refine sq (fun h5 h5p h5s => ?_) fun h5 h5p h5s => ?_
     ·try simp only [Q, Pat.cs_len] at h5p
      refine sq (fun h6 h6p h6s => ?_) fun h6 h6p h6s => ?_
      ·try simp only [Q, Pat.cs_len] at h6p
       refine Walk.build st58 (ks := [0]) (xs := [_]) rfl rfl .none rfl rfl rfl ?_
       refine Walk.idxM (i := 0) sl56 .none rfl rfl rfl rfl (by simp; omega) ?_
       refine Walk.store ty58 .none rfl rfl rfl rfl rfl rfl (by simp) ((put0 hcs rfl)) ?_
       refine tv ?_
       refine CWp.frzC hk 3005 5 1 _ 6 rfl rfl rfl rfl rfl (by rw [List.nil_append, hrl]; exact chunk0 rfl rfl (fun x hx => Pat.cs_rows x hx)) rfl ?_
       refine evc [] [] ?_
       refine Walk.store ty58 .none rfl rfl rfl rfl rfl rfl (by simp) rfl ?_
       refine tv ?_
       refine rn [(900, some (rdB b (mutP b p q).2))] (.cons (.cellA ty58 rfl rfl rfl) .nil) (.agg (.cons (.eqd ?_) (.cons (.eqd ?_) (.cons (.eqd ?_) (.cons (.eqd ?_) (.cons (.eqd ?_) (.cons (.eqd ?_) .nil))))))) ⟨rfl, rfl⟩ (SubO.get ⟨.inr (by rw [hmu]; all_goals rfl), ⟨.inl rfl, trivial⟩⟩) (boxOK rfl)
       all_goals (rw [hmu]; all_goals rfl)
      ·try simp only [Q, Pat.cs_len] at h6p
       exfalso; rw [List.nil_append, hrl] at h6p; omega --stop
     ·try simp only [Q, Pat.cs_len] at h5p
      exfalso; omega --stop
theorem spec_l3Mutate_fn {b : Str} (hb : b.length ≤ 2000) {p : Pat} {q : Nat} (hq : q ≤ 1000000) (hok : p.ok) :
  FnD Try.prog 124 [.ref 900 0, .agg [.d (.i p.op), .d (.i p.ctor), .d (.i p.n), .d (.i p.m), .d (.i p.var), .d (encPats p.kids)]] [(900, some (rdB b q))]
   (.agg [.d (.i (mutP b p q).1.op), .d (.i (mutP b p q).1.ctor), .d (.i (mutP b p q).1.n), .d (.i (mutP b p q).1.m), .d (.i (mutP b p q).1.var), .d (encPats (mutP b p q).1.kids)]) [(900, some (rdB b (mutP b p q).2))] := by
 by_cases h : pickV b q 30 = 4 ∧ p.kids ≠ []
 ·cases hk : p.kids with
  | nil => exact absurd hk h.2
  | cons y r => rw [← hk]; exact spec_l3Mutate_b hb hq hok h.1 hk
 ·exact spec_l3Mutate_a hb hq hok h
def caseW (i : Nat) : List Data := (parseW (nth texts8 i)).1
theorem caseW_all : ([2, 4].all fun i => [(0 : Int), 1, 2].all fun k => worldValid (caseW i) && (decide (1 ≤ (caseW i).length) && decide (1 ≤ (vctors (caseW i) ⟨0, k⟩).length))) = true := by kernel_rfl
structure CaseW (w : List Data) : Prop where
 small : WSmall w
 valid : worldValid w = true
 one : 1 ≤ w.length
 ct : ∀ k : Int, k = 0 ∨ k = 1 ∨ k = 2 → 1 ≤ (vctors w ⟨0, k⟩).length
theorem caseW_ok {i : Nat} (h : i = 2 ∨ i = 4) : CaseW (caseW i) := by
 have hall := caseW_all
 rw [List.all_eq_true] at hall
 have hi := hall i (by rcases h with rfl | rfl <;> simp)
 rw [List.all_eq_true] at hi
 have hk : ∀ k : Int, k = 0 ∨ k = 1 ∨ k = 2 → worldValid (caseW i) = true ∧ 1 ≤ (caseW i).length ∧ 1 ≤ (vctors (caseW i) ⟨0, k⟩).length := fun k hk => by
  have := hi k (by rcases hk with rfl | rfl | rfl <;> simp)
  simpa using this
 refine ⟨parseW_small (by have := text_small (i := i) (by omega); omega), (hk 0 (.inl rfl)).1, (hk 0 (.inl rfl)).2.1, fun k h => (hk k h).2.2⟩
theorem num24 (b : Str) (p : Nat) : numV b p [2, 4, 2] = 2 ∨ numV b p [2, 4, 2] = 4 := by
 have := numV_mem (b := b) (p := p) (l := [2, 4, 2]) (by simp)
 simp only [List.mem_cons, List.not_mem_nil, or_false] at this
 omega
theorem num012 (b : Str) (p : Nat) : numV b p [0, 1, 2, 0] = 0 ∨ numV b p [0, 1, 2, 0] = 1 ∨ numV b p [0, 1, 2, 0] = 2 := by
 have := numV_mem (b := b) (p := p) (l := [0, 1, 2, 0]) (by simp)
 simp only [List.mem_cons, List.not_mem_nil, or_false] at this
 omega
def caseP (b : Str) (w : List Data) (t : Ty) : Pat × Nat :=
 if (somePat b w t 2).op = 1 then
  (if 0 < pickV b (rawPat b w t 2).2.2 3 then (wideP w t (nth (vctors w t) (pickV b ((rawPat b w t 2).2.2 + 1) (vctors w t).length).toNat), (rawPat b w t 2).2.2 + 2)
  else (somePat b w t 2, (rawPat b w t 2).2.2 + 1))
 else (somePat b w t 2, (rawPat b w t 2).2.2)
def drawC (b : Str) : List Data × Ty × Pat :=
 (caseW (numV b 0 [2, 4, 2]).toNat, ⟨0, numV b 1 [0, 1, 2, 0]⟩, (mutP b (caseP b (caseW (numV b 0 [2, 4, 2]).toNat) ⟨0, numV b 1 [0, 1, 2, 0]⟩).1 (caseP b (caseW (numV b 0 [2, 4, 2]).toNat) ⟨0, numV b 1 [0, 1, 2, 0]⟩).2).1)
theorem anys_ok : ∀ l : List Ty, Pats.size (l.map fun _ => anyP) = l.length ∧ Pats.ok (l.map fun _ => anyP)
 | [] => by simp [Pats.size, Pats.ok]
 | t :: r => by
  have := anys_ok r
  have ha := anyP_sz
  simp only [List.map_cons, Pats.size, List.length_cons]
  exact ⟨by omega, ha.2, this.2⟩
theorem wide_ok {w : List Data} {t : Ty} {c : Int} (h : (argsOf w t c).length ≤ 3) : (wideP w t c).size ≤ 4 ∧ (wideP w t c).ok := by
 have := anys_ok (argsOf w t c)
 refine ⟨?_, ?_⟩
 ·rw [Pat.size_eq]; simp only [wideP, Pat.kids]; omega
 ·rw [Pat.ok_iff]; exact ⟨by simp only [wideP, Pat.kids, List.length_map]; omega, this.2⟩
theorem caseP_ok {b : Str} {w : List Data} (hf : Few w) {t : Ty} (ht : TyIn w.length t) (hc : 1 ≤ (vctors w t).length) : (caseP b w t).1.size ≤ 242 ∧ (caseP b w t).1.ok ∧ (caseP b w t).2 ≤ 600 := by
 have h1 := somePat_ok (b := b) hf ht 2
 have h2 := rawPat_ok (b := b) hf ht 2
 have hm := nth_pick (l := vctors w t) (b := b) (p := (rawPat b w t 2).2.2 + 1) (by omega)
 have h3 := wide_ok (hf t _ hm ht).1
 unfold caseP
 split
 ·split
  ·exact ⟨by dsimp only; omega, h3.2, by dsimp only; omega⟩
  ·exact ⟨h1.1, h1.2, by dsimp only; omega⟩
 ·exact ⟨h1.1, h1.2, by dsimp only; omega⟩
theorem Pats.len_size : ∀ l : List Pat, l.length ≤ Pats.size l
 | [] => Nat.zero_le _
 | v :: r => by
  have := Pats.len_size r
  have h := Pat.size_eq v
  simp only [List.length_cons, Pats.size]; omega
theorem setP_ok {x : Pat} (hx : x.ok) : ∀ {l : List Pat} {i : Nat}, Pats.ok l → Pats.ok (l.set i x)
 | [], _, _ => by simp [Pats.ok]
 | y :: r, 0, h => ⟨hx, h.2⟩
 | y :: r, i + 1, h => ⟨h.1, setP_ok hx h.2⟩
theorem appP_ok {x : Pat} (hx : x.ok) : ∀ {l : List Pat}, Pats.ok l → Pats.ok (l ++ [x])
 | [], _ => ⟨hx, trivial⟩
 | y :: r, h => ⟨h.1, appP_ok hx h.2⟩
theorem setP_sz {x : Pat} : ∀ {l : List Pat} {i : Nat}, Pats.size (l.set i x) ≤ Pats.size l + x.size
 | [], _ => by simp [Pats.size]
 | y :: r, 0 => by simp only [List.set_cons_zero, Pats.size]; omega
 | y :: r, i + 1 => by have := setP_sz (x := x) (l := r) (i := i); simp only [List.set_cons_succ, Pats.size]; omega
theorem mutP_ok {b : Str} {p : Pat} {q : Nat} (hs : p.size ≤ 1000) (hok : p.ok) : (mutP b p q).1.size ≤ 2000 ∧ (mutP b p q).1.ok := by
 have hv : varP0.size = 1 ∧ varP0.ok := ⟨by rw [Pat.size_eq]; rfl, by rw [Pat.ok_iff]; exact ⟨by simp [varP0, Pat.kids], trivial⟩⟩
 have h0 := Pat.size_eq p
 rw [Pat.ok_iff] at hok
 have same : ∀ a c n m v : Int, (Pat.mk a c n m v p.kids).size ≤ 2000 ∧ (Pat.mk a c n m v p.kids).ok := fun a c n m v => by
  refine ⟨by rw [Pat.size_eq]; show 1 + Pats.size p.kids ≤ _; omega, by rw [Pat.ok_iff]; exact hok⟩
 unfold mutP
 split; exact same _ _ _ _ _
 split; exact same _ _ _ _ _
 split; exact same _ _ _ _ _
 split
 ·refine ⟨?_, ?_⟩
  ·dsimp only; rw [Pat.size_eq]; show 1 + Pats.size (p.kids ++ [varP0]) ≤ _; rw [Pats.size_snoc]; omega
  ·dsimp only; rw [Pat.ok_iff]; refine ⟨?_, appP_ok hv.2 hok.2⟩
   show (p.kids ++ [varP0]).length ≤ _
   have := Pats.len_size p.kids
   simp only [List.length_append, List.length_singleton]; omega
 split
 ·refine ⟨?_, ?_⟩
  ·dsimp only; rw [Pat.size_eq]; show 1 + Pats.size (p.kids.set 0 varP0) ≤ _
   have := setP_sz (x := varP0) (l := p.kids) (i := 0); omega
  ·dsimp only; rw [Pat.ok_iff]; exact ⟨by show (p.kids.set 0 varP0).length ≤ _; rw [List.length_set]; exact hok.1, setP_ok hv.2 hok.2⟩
 split; exact same _ _ _ _ _
 exact same _ _ _ _ _
theorem spec_l15Case_fn {b : Str} (hb : b.length ≤ 1000000000000) :
  FnD Try.prog 77 [.d (encBytes b)] [] (.tup [.d (encDatas (drawC (b.take 2000)).1), .agg [.d (.i (drawC (b.take 2000)).2.1.data), .d (.i (drawC (b.take 2000)).2.1.index)], .agg [.d (.i (drawC (b.take 2000)).2.2.op), .d (.i (drawC (b.take 2000)).2.2.ctor), .d (.i (drawC (b.take 2000)).2.2.n), .d (.i (drawC (b.take 2000)).2.2.m), .d (.i (drawC (b.take 2000)).2.2.var), .d (encPats (drawC (b.take 2000)).2.2.kids)]]) [] := by
 have hop := spec_l17Open_fn hb
 have hb2 : (b.take 2000).length ≤ 2000 := by rw [List.length_take]; omega
 generalize b.take 2000 = e at *
 have hi2 := num24 e 0
 have hk2 := num012 e 1
 have hn0 := spec_num_fn (b := e) (p := 0) (l := [2, 4, 2]) hb2 (by omega) (by simp) (by simp)
 have hn1 := spec_num_fn (b := e) (p := 1) (l := [0, 1, 2, 0]) hb2 (by omega) (by simp) (by simp)
 unfold drawC
 dsimp only
 generalize numV e 0 [2, 4, 2] = i at *
 generalize numV e 1 [0, 1, 2, 0] = k at *
 have hcw := caseW_ok (i := i.toNat) (by omega)
 have hpw := spec_ParseWorld_fn (s := nth texts8 i.toNat) (by have := text_small (i := i.toNat) (by omega); omega)
 rw [show (parseW (nth texts8 i.toNat)).1 = caseW i.toNat from rfl] at hpw
 generalize hwe : caseW i.toNat = w at *
 have hw := valid_wt hcw.small hcw.valid
 have hf := valid_few hcw.small hcw.valid
 have hct := hcw.ct k hk2
 have ht : TyIn w.length ⟨0, k⟩ := .inr ⟨0, rfl, by have := hcw.one; omega⟩
 have hcl := vctors_len hw ht
 have hro := rawPat_ok (b := e) hf ht 2
 have hvl : ((((vctors w ⟨0, k⟩).map fun n => [D.i n]).length : Nat) : Int) = (vctors w ⟨0, k⟩).length := by simp
 have hv3 := pickV_bd (b := e) (p := (rawPat e w ⟨0, k⟩ 2).2.2) (n := 3) (by omega)
 have hvc := pickV_bd (b := e) (p := (rawPat e w ⟨0, k⟩ 2).2.2 + 1) (n := ((vctors w ⟨0, k⟩).length : Int)) (by omega)
 have hmem := nth_pick (l := vctors w ⟨0, k⟩) (b := e) (p := (rawPat e w ⟨0, k⟩ 2).2.2 + 1) (by omega)
 have hat : ((vctors w ⟨0, k⟩).map fun n => [D.i n])[(pickV e ((rawPat e w ⟨0, k⟩ 2).2.2 + 1) (vctors w ⟨0, k⟩).length).toNat]? = some [D.i (nth (vctors w ⟨0, k⟩) (pickV e ((rawPat e w ⟨0, k⟩ 2).2.2 + 1) (vctors w ⟨0, k⟩).length).toNat)] := at_nth (by omega)
 by_cases c1 : (somePat e w ⟨0, k⟩ 2).op = 1
 ·by_cases c2 : 0 < pickV e (rawPat e w ⟨0, k⟩ 2).2.2 3
  ·skip
   have hcp : caseP e w ⟨0, k⟩ = (wideP w ⟨0, k⟩ (nth (vctors w ⟨0, k⟩) (pickV e ((rawPat e w ⟨0, k⟩ 2).2.2 + 1) (vctors w ⟨0, k⟩).length).toNat), (rawPat e w ⟨0, k⟩ 2).2.2 + 2) := by unfold caseP; rw [if_pos c1, if_pos c2]
   have hco := caseP_ok (b := e) hf ht hct
   rw [hcp] at hco ⊢
   dsimp only at hco ⊢
   refine bd Try.f77 59 [] [] fun w0 F0 own kept hk => ?_
   refine Walk.alloc (id := 3003) tz31 rfl .none rfl rfl rfl rfl ?_
   refine Walk.alloc (id := 3004) tz58 rfl .none rfl rfl rfl rfl ?_
   refine tv ?_
   refine Walk.call (cr := [900]) cal91 (hop) rfl .none rfl rfl (LeL.refl _) trivial rfl (by first | rfl | (simp only [okCall, List.all_cons, List.all_nil, entOK, entOK', AV.idsL, AV.ids, idsL_append, ownCells_ids, List.map_cons, List.map_nil]; rfl)) (by first | rfl | (simp only [freshB, occH, occE, Res.ids, List.cons_append, List.nil_append, AV.idsL, AV.ids, idsL_append, ownCells_ids, zerosA_idsR, repNil, List.map_cons, List.map_nil, upC]; rfl)) ?_
   refine ev ?_
   refine Walk.sliceLit sl66 tz3 rfl (by decide) (ks := [0, 1, 2]) (xs := [_, _, _]) rfl rfl (by decide) (by decide) .none rfl rfl rfl rfl ?_
   refine Walk.call (cr := []) cal103 (hn0) rfl .none rfl rfl (LeL.refl _) ⟨rfl, trivial⟩ rfl rfl rfl ?_
   refine ev ?_
   refine Walk.call (cr := []) cal120 (spec_l1Texts_fn) rfl .none rfl rfl (LeL.refl _) trivial rfl rfl rfl ?_
   refine ev ?_
   refine Walk.idx (i := i.toNat) sl136 .none rfl rfl rfl (by omega) (at_nth (by rw [texts8_len]; omega)) rfl ?_
   refine ev ?_
   refine Walk.call (cr := []) cal119 (hpw) rfl .none rfl rfl (LeL.refl _) trivial rfl rfl rfl ?_
   refine ev ?_
   refine Walk.sliceLit sl66 tz3 rfl (by decide) (ks := [0, 1, 2, 3]) (xs := [_, _, _, _]) rfl rfl (by decide) (by decide) .none rfl rfl rfl rfl ?_
   refine Walk.call (cr := []) cal103 (hn1) rfl .none rfl rfl (LeL.refl _) ⟨rfl, trivial⟩ rfl rfl rfl ?_
   refine Walk.build st31 (ks := [1]) (xs := [_]) rfl rfl .none rfl rfl rfl ?_
   refine Walk.alloc (id := 3009) tz31 rfl .none rfl rfl rfl rfl ?_
   refine Walk.store ty31 .none rfl rfl rfl rfl rfl rfl (by simp) rfl ?_
   refine tv ?_
   refine Walk.call (cr := []) cal121 (spec_l3Some_fn hb2 hw hf (p := 2) (by omega) ht) rfl .none rfl rfl (LeL.refl _) ⟨rfl, trivial⟩ rfl rfl rfl ?_
   refine Walk.alloc (id := 3010) tz58 rfl .none rfl rfl rfl rfl ?_
   refine Walk.store ty58 .none rfl rfl rfl rfl rfl rfl (by simp) rfl ?_
   refine tv ?_
   refine sq (fun h1 h1p h1s => ?_) fun h1 h1p h1s => ?_
   ·try simp only [Q] at h1p
    refine Walk.call (cr := []) cal102 (spec_pick_fn (p := (rawPat e w ⟨0, k⟩ 2).2.2) (n := 3) hb2 (by omega) (by omega)) rfl (.some rfl rfl h1) rfl rfl (LeL.refl _) ⟨rfl, trivial⟩ rfl rfl rfl ?_
    refine evs [] [(36, true)] ?_ ⟨⟨_, rfl, h1⟩, trivial⟩
    refine sq (fun h2 h2p h2s => ?_) fun h2 h2p h2s => ?_
    ·try simp only [Q] at h2p
     refine Walk.call (cr := []) cal122 (spec_l1Ctors_v hw ht) rfl .none rfl rfl (LeL.refl _) trivial rfl rfl rfl ?_
     refine ev ?_
     refine Walk.call (cr := []) cal102 (spec_pick_fn (p := (rawPat e w ⟨0, k⟩ 2).2.2 + 1) (n := ((((vctors w ⟨0, k⟩).map fun n => [D.i n]).length : Nat) : Int)) hb2 (by omega) (by omega)) rfl .none rfl rfl (LeL.refl _) ⟨rfl, trivial⟩ rfl rfl rfl ?_
     refine Walk.idx (i := (pickV e ((rawPat e w ⟨0, k⟩ 2).2.2 + 1) (vctors w ⟨0, k⟩).length).toNat) sl66 .none rfl rfl rfl (by rw [hvl]; omega) (hat) rfl ?_
     refine evd [] [] ?_
     refine Walk.call (cr := []) cal123 (spec_l5Wide_fn hw hf ht hmem) rfl .none rfl rfl (LeL.refl _) trivial rfl rfl rfl ?_
     refine Walk.store ty58 .none rfl rfl rfl rfl rfl rfl (by simp) rfl ?_
     refine dr ?_
     refine Walk.call (cr := []) cal124 (spec_l3Mutate_fn hb2 (p := wideP w ⟨0, k⟩ (nth (vctors w ⟨0, k⟩) (pickV e ((rawPat e w ⟨0, k⟩ 2).2.2 + 1) (vctors w ⟨0, k⟩).length).toNat)) (q := (rawPat e w ⟨0, k⟩ 2).2.2 + 2) (by omega) hco.2.1) rfl .none rfl rfl (LeL.refl _) ⟨rfl, trivial⟩ rfl rfl rfl ?_
     refine evd [] [] ?_
     refine Walk.store ty31 .none rfl rfl rfl rfl rfl rfl (by simp) rfl ?_
     refine Walk.store ty58 .none rfl rfl rfl rfl rfl rfl (by simp) rfl ?_
     refine dr ?_
     refine rn0 (.cons (.tmp rfl) (.cons (.cellA ty31 rfl rfl rfl) (.cons (.cellA ty58 rfl rfl rfl) .nil))) (.tup (.cons (.eqd ?_) (.cons (.agg (.cons (.eqd ?_) (.cons (.eqd ?_) .nil))) (.cons (.agg (.cons (.eqd ?_) (.cons (.eqd ?_) (.cons (.eqd ?_) (.cons (.eqd ?_) (.cons (.eqd ?_) (.cons (.eqd ?_) .nil))))))) .nil))))
     all_goals (rfl)
    ·try simp only [Q] at h2p
     exfalso; omega --stop
   ·try simp only [Q] at h1p
    refine sqF ?_
    exfalso; omega --stop
  ·skip
   have hcp : caseP e w ⟨0, k⟩ = (somePat e w ⟨0, k⟩ 2, (rawPat e w ⟨0, k⟩ 2).2.2 + 1) := by unfold caseP; rw [if_pos c1, if_neg c2]
   have hco := caseP_ok (b := e) hf ht hct
   rw [hcp] at hco ⊢
   dsimp only at hco ⊢
   refine bd Try.f77 59 [] [] fun w0 F0 own kept hk => ?_
   refine Walk.alloc (id := 3003) tz31 rfl .none rfl rfl rfl rfl ?_
   refine Walk.alloc (id := 3004) tz58 rfl .none rfl rfl rfl rfl ?_
   refine tv ?_
   refine Walk.call (cr := [900]) cal91 (hop) rfl .none rfl rfl (LeL.refl _) trivial rfl (by first | rfl | (simp only [okCall, List.all_cons, List.all_nil, entOK, entOK', AV.idsL, AV.ids, idsL_append, ownCells_ids, List.map_cons, List.map_nil]; rfl)) (by first | rfl | (simp only [freshB, occH, occE, Res.ids, List.cons_append, List.nil_append, AV.idsL, AV.ids, idsL_append, ownCells_ids, zerosA_idsR, repNil, List.map_cons, List.map_nil, upC]; rfl)) ?_
   refine ev ?_
   refine Walk.sliceLit sl66 tz3 rfl (by decide) (ks := [0, 1, 2]) (xs := [_, _, _]) rfl rfl (by decide) (by decide) .none rfl rfl rfl rfl ?_
   refine Walk.call (cr := []) cal103 (hn0) rfl .none rfl rfl (LeL.refl _) ⟨rfl, trivial⟩ rfl rfl rfl ?_
   refine ev ?_
   refine Walk.call (cr := []) cal120 (spec_l1Texts_fn) rfl .none rfl rfl (LeL.refl _) trivial rfl rfl rfl ?_
   refine ev ?_
   refine Walk.idx (i := i.toNat) sl136 .none rfl rfl rfl (by omega) (at_nth (by rw [texts8_len]; omega)) rfl ?_
   refine ev ?_
   refine Walk.call (cr := []) cal119 (hpw) rfl .none rfl rfl (LeL.refl _) trivial rfl rfl rfl ?_
   refine ev ?_
   refine Walk.sliceLit sl66 tz3 rfl (by decide) (ks := [0, 1, 2, 3]) (xs := [_, _, _, _]) rfl rfl (by decide) (by decide) .none rfl rfl rfl rfl ?_
   refine Walk.call (cr := []) cal103 (hn1) rfl .none rfl rfl (LeL.refl _) ⟨rfl, trivial⟩ rfl rfl rfl ?_
   refine Walk.build st31 (ks := [1]) (xs := [_]) rfl rfl .none rfl rfl rfl ?_
   refine Walk.alloc (id := 3009) tz31 rfl .none rfl rfl rfl rfl ?_
   refine Walk.store ty31 .none rfl rfl rfl rfl rfl rfl (by simp) rfl ?_
   refine tv ?_
   refine Walk.call (cr := []) cal121 (spec_l3Some_fn hb2 hw hf (p := 2) (by omega) ht) rfl .none rfl rfl (LeL.refl _) ⟨rfl, trivial⟩ rfl rfl rfl ?_
   refine Walk.alloc (id := 3010) tz58 rfl .none rfl rfl rfl rfl ?_
   refine Walk.store ty58 .none rfl rfl rfl rfl rfl rfl (by simp) rfl ?_
   refine tv ?_
   refine sq (fun h1 h1p h1s => ?_) fun h1 h1p h1s => ?_
   ·try simp only [Q] at h1p
    refine Walk.call (cr := []) cal102 (spec_pick_fn (p := (rawPat e w ⟨0, k⟩ 2).2.2) (n := 3) hb2 (by omega) (by omega)) rfl (.some rfl rfl h1) rfl rfl (LeL.refl _) ⟨rfl, trivial⟩ rfl rfl rfl ?_
    refine evs [] [(36, true)] ?_ ⟨⟨_, rfl, h1⟩, trivial⟩
    refine sq (fun h2 h2p h2s => ?_) fun h2 h2p h2s => ?_
    ·try simp only [Q] at h2p
     exfalso; omega --stop
    ·try simp only [Q] at h2p
     refine Walk.call (cr := []) cal124 (spec_l3Mutate_fn hb2 (p := somePat e w ⟨0, k⟩ 2) (q := (rawPat e w ⟨0, k⟩ 2).2.2 + 1) (by omega) hco.2.1) rfl .none rfl rfl (LeL.refl _) ⟨rfl, trivial⟩ rfl rfl rfl ?_
     refine evd [] [] ?_
     refine Walk.store ty31 .none rfl rfl rfl rfl rfl rfl (by simp) rfl ?_
     refine Walk.store ty58 .none rfl rfl rfl rfl rfl rfl (by simp) rfl ?_
     refine dr ?_
     refine rn0 (.cons (.tmp rfl) (.cons (.cellA ty31 rfl rfl rfl) (.cons (.cellA ty58 rfl rfl rfl) .nil))) (.tup (.cons (.eqd ?_) (.cons (.agg (.cons (.eqd ?_) (.cons (.eqd ?_) .nil))) (.cons (.agg (.cons (.eqd ?_) (.cons (.eqd ?_) (.cons (.eqd ?_) (.cons (.eqd ?_) (.cons (.eqd ?_) (.cons (.eqd ?_) .nil))))))) .nil))))
     all_goals (rfl)
   ·try simp only [Q] at h1p
    exfalso; omega --stop
 ·skip
  have hcp : caseP e w ⟨0, k⟩ = (somePat e w ⟨0, k⟩ 2, (rawPat e w ⟨0, k⟩ 2).2.2) := by unfold caseP; rw [if_neg c1]
  have hco := caseP_ok (b := e) hf ht hct
  rw [hcp] at hco ⊢
  dsimp only at hco ⊢
  refine bd Try.f77 59 [] [] fun w0 F0 own kept hk => ?_
  refine Walk.alloc (id := 3003) tz31 rfl .none rfl rfl rfl rfl ?_
  refine Walk.alloc (id := 3004) tz58 rfl .none rfl rfl rfl rfl ?_
  refine tv ?_
  refine Walk.call (cr := [900]) cal91 (hop) rfl .none rfl rfl (LeL.refl _) trivial rfl (by first | rfl | (simp only [okCall, List.all_cons, List.all_nil, entOK, entOK', AV.idsL, AV.ids, idsL_append, ownCells_ids, List.map_cons, List.map_nil]; rfl)) (by first | rfl | (simp only [freshB, occH, occE, Res.ids, List.cons_append, List.nil_append, AV.idsL, AV.ids, idsL_append, ownCells_ids, zerosA_idsR, repNil, List.map_cons, List.map_nil, upC]; rfl)) ?_
  refine ev ?_
  refine Walk.sliceLit sl66 tz3 rfl (by decide) (ks := [0, 1, 2]) (xs := [_, _, _]) rfl rfl (by decide) (by decide) .none rfl rfl rfl rfl ?_
  refine Walk.call (cr := []) cal103 (hn0) rfl .none rfl rfl (LeL.refl _) ⟨rfl, trivial⟩ rfl rfl rfl ?_
  refine ev ?_
  refine Walk.call (cr := []) cal120 (spec_l1Texts_fn) rfl .none rfl rfl (LeL.refl _) trivial rfl rfl rfl ?_
  refine ev ?_
  refine Walk.idx (i := i.toNat) sl136 .none rfl rfl rfl (by omega) (at_nth (by rw [texts8_len]; omega)) rfl ?_
  refine ev ?_
  refine Walk.call (cr := []) cal119 (hpw) rfl .none rfl rfl (LeL.refl _) trivial rfl rfl rfl ?_
  refine ev ?_
  refine Walk.sliceLit sl66 tz3 rfl (by decide) (ks := [0, 1, 2, 3]) (xs := [_, _, _, _]) rfl rfl (by decide) (by decide) .none rfl rfl rfl rfl ?_
  refine Walk.call (cr := []) cal103 (hn1) rfl .none rfl rfl (LeL.refl _) ⟨rfl, trivial⟩ rfl rfl rfl ?_
  refine Walk.build st31 (ks := [1]) (xs := [_]) rfl rfl .none rfl rfl rfl ?_
  refine Walk.alloc (id := 3009) tz31 rfl .none rfl rfl rfl rfl ?_
  refine Walk.store ty31 .none rfl rfl rfl rfl rfl rfl (by simp) rfl ?_
  refine tv ?_
  refine Walk.call (cr := []) cal121 (spec_l3Some_fn hb2 hw hf (p := 2) (by omega) ht) rfl .none rfl rfl (LeL.refl _) ⟨rfl, trivial⟩ rfl rfl rfl ?_
  refine Walk.alloc (id := 3010) tz58 rfl .none rfl rfl rfl rfl ?_
  refine Walk.store ty58 .none rfl rfl rfl rfl rfl rfl (by simp) rfl ?_
  refine tv ?_
  refine sq (fun h1 h1p h1s => ?_) fun h1 h1p h1s => ?_
  ·try simp only [Q] at h1p
   exfalso; omega --stop
  ·try simp only [Q] at h1p
   refine sqF ?_
   refine Walk.call (cr := []) cal124 (spec_l3Mutate_fn hb2 (p := somePat e w ⟨0, k⟩ 2) (q := (rawPat e w ⟨0, k⟩ 2).2.2) (by omega) hco.2.1) rfl .none rfl rfl (LeL.refl _) ⟨rfl, trivial⟩ rfl rfl rfl ?_
   refine evd [] [] ?_
   refine Walk.store ty31 .none rfl rfl rfl rfl rfl rfl (by simp) rfl ?_
   refine Walk.store ty58 .none rfl rfl rfl rfl rfl rfl (by simp) rfl ?_
   refine dr ?_
   refine rn0 (.cons (.tmp rfl) (.cons (.cellA ty31 rfl rfl rfl) (.cons (.cellA ty58 rfl rfl rfl) .nil))) (.tup (.cons (.eqd ?_) (.cons (.agg (.cons (.eqd ?_) (.cons (.eqd ?_) .nil))) (.cons (.agg (.cons (.eqd ?_) (.cons (.eqd ?_) (.cons (.eqd ?_) (.cons (.eqd ?_) (.cons (.eqd ?_) (.cons (.eqd ?_) .nil))))))) .nil))))
   all_goals (rfl)
theorem drawC_ok (b : Str) : WSmall (drawC b).1 ∧ (drawC b).2.2.size ≤ 1000000000000 ∧ (drawC b).2.2.ok := by
 have hi2 := num24 b 0
 have hk2 := num012 b 1
 have hcw := caseW_ok (i := (numV b 0 [2, 4, 2]).toNat) (by omega)
 have hf := valid_few hcw.small hcw.valid
 have h1 := caseP_ok (b := b) hf (t := ⟨0, numV b 1 [0, 1, 2, 0]⟩) (.inr ⟨0, rfl, by have := hcw.one; omega⟩) (hcw.ct _ hk2)
 have h2 := mutP_ok (b := b) (q := (caseP b (caseW (numV b 0 [2, 4, 2]).toNat) ⟨0, numV b 1 [0, 1, 2, 0]⟩).2) (p := (caseP b (caseW (numV b 0 [2, 4, 2]).toNat) ⟨0, numV b 1 [0, 1, 2, 0]⟩).1) (by omega) h1.2.1
 exact ⟨hcw.small, by show (mutP b _ _).1.size ≤ _; omega, h2.2⟩
def emptyP (w : List Data) (f : Nat → Nat) : Nat → Ty → Pat → Bool
 | 0, _, _ => true
 | n + 1, t, p =>
  if p.op = 1 ∨ p.op = 2 then decide (dv f t = 0)
  else if p.op = 5 then emptyP w f n t (nth p.kids 0) && emptyP w f n t (nth p.kids 1)
  else !(all2 (fun u q => !emptyP w f n u q) (typesP w t p) p.kids)
theorem emptyP_succ {w : List Data} {f : Nat → Nat} {n : Nat} {t : Ty} {p : Pat} : emptyP w f (n + 1) t p = if p.op = 1 ∨ p.op = 2 then decide (dv f t = 0)
  else if p.op = 5 then emptyP w f n t (nth p.kids 0) && emptyP w f n t (nth p.kids 1)
  else !(all2 (fun u q => !emptyP w f n u q) (typesP w t p) p.kids) := rfl
def LeT (u t : Ty) : Prop := u.data = t.data ∧ (t.index = 0 ∨ u.index = t.index)
theorem fits_le {u t : Ty} (h : LeT u t) {c : Ctor} (hf : fits c u.index = true) : fits c t.index = true := by
 rcases h.2 with h0 | h0
 ·rw [h0]; simp [fits]
 ·rwa [← h0]
theorem from_le {u t : Ty} (h : LeT u t) {c : Int} : ∀ (l : List Ctor) (i : Nat), c ∈ ctorsFrom u.index i l → c ∈ ctorsFrom t.index i l
 | [], _, hc => hc
 | x :: r, i, hc => by
  unfold ctorsFrom at hc ⊢
  by_cases hf : fits x u.index = true
  ·rw [if_pos hf] at hc
   rw [if_pos (fits_le h hf)]
   rcases List.mem_cons.1 hc with h1 | h1
   ·exact List.mem_cons.2 (.inl h1)
   ·exact List.mem_cons.2 (.inr (from_le h r (i + 1) h1))
  ·rw [if_neg hf] at hc
   have := from_le h r (i + 1) hc
   split
   ·exact List.mem_cons.2 (.inr this)
   ·exact this
theorem ctors_le {w : List Data} {u t : Ty} (h : LeT u t) {c : Int} (hc : c ∈ ctorsOf w u) : c ∈ ctorsOf w t := by
 unfold ctorsOf at hc ⊢
 rw [← h.1]
 exact from_le h _ _ hc
theorem args_le {w : List Data} {u t : Ty} (h : LeT u t) {c : Int} : (argsOf w u c).length = (argsOf w t c).length ∧ ∀ i, i < (argsOf w t c).length → LeT (nth (argsOf w u c) i) (nth (argsOf w t c) i) := by
 unfold argsOf
 rw [h.1]
 refine ⟨by simp, fun i hi => ?_⟩
 dsimp only at hi ⊢
 generalize hq : nth (nth w t.data.toNat).ctors c.toNat = q at hi ⊢
 rw [List.length_map] at hi
 simp only [nth, List.getD_eq_getElem?_getD, List.getElem?_map, List.getElem?_eq_getElem hi, Option.map_some, Option.getD_some]
 generalize q.args[i] = a
 unfold argTy resIx
 by_cases ha : a.index = -1
 ·rw [if_pos ha, if_pos ha]
  refine ⟨rfl, ?_⟩
  dsimp only
  split
  ·exact h.2
  ·exact .inr rfl
 ·rw [if_neg ha, if_neg ha]
  exact ⟨rfl, .inr rfl⟩
theorem Hd_leT {w : List Data} : ∀ (d : Nat) {u t : Ty}, LeT u t → Hd w d u → Hd w d t
 | 0, _, _, _, h => h.elim
 | d + 1, u, t, hl, h => by
  rcases h with h | ⟨c, hc, h1, h2⟩
  ·exact .inl (by rw [← hl.1]; exact h)
  ·refine .inr ⟨c, ctors_le hl hc, by rw [← hl.1]; exact h1, fun v hv => ?_⟩
   obtain ⟨e, g⟩ := args_le (w := w) hl (c := c)
   obtain ⟨i, hi, rfl⟩ := List.getElem_of_mem hv
   have := Hd_leT d (g i hi) (h2 _ (nth_mem (by omega)))
   simpa [nth, List.getD, hi] using this
theorem dv_leT {w : List Data} (hd : Dp w) {u t : Ty} (hu : InS (w.length * 4) u) (ht : InS (w.length * 4) t) (hl : LeT u t) (h : 0 < dv (depthT w) u) : 0 < dv (depthT w) t := by
 have a := iter_all hd.cl (w.length * 4 + 1)
 have h1 := Hd_leT _ hl (dv_hd a.1 hu h)
 rcases ht with ht | ht
 ·unfold dv; rw [if_pos ht]; omega
 ·refine (dv_cmp (k := w.length * 4 + 1) a.2 (.inr ht) ?_).1
  have := ht.2
  rw [← this] at h1 ⊢
  exact hd_fix hd.cl ht.1 h1
theorem all2_mem {α β : Type} [Inhabited α] [Inhabited β] {f : α → β → Bool} {a : List α} {b : List β} (hl : a.length = b.length) (h : all2 f a b = true) : ∀ i, i < a.length → f (nth a i) (nth b i) = true := fun i hi => by
 cases hf : f (nth a i) (nth b i) with
 | true => rfl
 | false => rw [all2_nth_false hi hl hf] at h; exact absurd h (by simp)
theorem vctors_of {w : List Data} {t : Ty} {c : Int} (h : c ∈ vctors w t) : c ∈ ctorsOf w t := by
 unfold vctors at h
 split at h
 ·simp at h
 ·exact h
theorem some_full {w : List Data} (hd : Dp w) : ∀ (n : Nat) {u t : Ty} {p : Pat}, shapeP w n t p = true → LeT u t → InS (w.length * 4) u → InS (w.length * 4) t →
  someP w (depthT w) n u p = true → emptyP w (depthT w) n t p = false
 | 0, _, _, _, h, _, _, _, _ => by simp [shapeP] at h
 | n + 1, u, t, p, h, hl, hu, ht, hs => by
  obtain ⟨ho, hlen⟩ := shapeP_own h
  have hk := fun i (hi : i < p.kids.length) => shapeP_kid h hi
  rw [someP_succ] at hs
  rw [emptyP_succ]
  by_cases h12 : p.op = 1 ∨ p.op = 2
  ·rw [if_pos h12] at hs ⊢
   have := dv_leT hd hu ht hl (of_decide_eq_true hs)
   exact decide_eq_false (by omega)
  rw [if_neg h12] at hs ⊢
  by_cases h5 : p.op = 5
  ·rw [if_neg (by omega), if_pos h5] at hs
   rw [if_pos h5]
   have ht5 : typesP w t p = [t, t] := by unfold typesP; rw [if_neg (by omega), if_pos h5]
   rw [ht5] at hlen hk
   have hlen' : p.kids.length = 2 := hlen
   rw [Bool.or_eq_true] at hs
   rcases hs with h1 | h1
   ·have h7 : emptyP w (depthT w) n t (nth p.kids 0) = false := some_full hd n (hk 0 (by omega)) hl hu ht h1
    rw [h7]; rfl
   ·have h7 : emptyP w (depthT w) n t (nth p.kids 1) = false := some_full hd n (hk 1 (by omega)) hl hu ht h1
    rw [h7, Bool.and_false]
  rw [if_neg h5]
  rw [all2_nth_true hlen.symm (fun i hi => ?_)]
  ·rfl
  rw [← hlen] at hi
  have hki := hk i hi
  by_cases h4 : p.op = 4
  ·rw [if_neg (by omega), if_neg h5, if_neg (by omega)] at hs
   rw [Bool.and_eq_true] at hs
   have ht4 : typesP w t p = argsOf w t p.ctor := by unfold typesP; rw [if_pos h4]
   rw [ht4] at hki hlen ⊢
   obtain ⟨e, g⟩ := args_le (w := w) hl (c := p.ctor)
   have hm := of_decide_eq_true hs.1
   have hm' : p.ctor ∈ vctors w t := by
    have h2 := ctors_le hl (vctors_of hm)
    unfold vctors at hm ⊢
    rw [hl.1] at hm
    split at hm
    ·simp at hm
    ·rename_i hne; rw [if_neg hne]; exact h2
   have := some_full hd n hki (g i (by omega)) (args_ins hd hu hm _ (nth_mem (by omega))) (args_ins hd ht hm' _ (nth_mem (by omega))) (all2_mem (by omega) hs.2 i (by omega))
   rw [this]; rfl
  ·by_cases h6 : p.op = 6
   ·have ht6 : typesP w t p = [t] := by unfold typesP; rw [if_neg (by omega), if_neg (by omega), if_pos h6]
    rw [ht6] at hki hlen ⊢
    have hlen' : p.kids.length = 1 := hlen
    obtain rfl : i = 0 := by omega
    rw [if_neg (by omega), if_neg h5, if_pos h6] at hs
    have h7 : emptyP w (depthT w) n t (nth p.kids 0) = false := some_full hd n hki hl hu ht hs
    show (!emptyP w (depthT w) n t (nth p.kids 0)) = true
    rw [h7]; rfl
   ·have ht0 : typesP w t p = [] := by unfold typesP; rw [if_neg (by omega), if_neg (by omega), if_neg (by omega)]
    rw [ht0] at hlen
    have hlen' : p.kids.length = 0 := hlen
    omega
def emptyV (w : List Data) (a k : Int) (p : Pat) : Bool := patValid w a k p && emptyP w (depthT w) 10 ⟨a, k⟩ p
theorem idxTo_mem {w : List Data} {a k : Int} {p : Pat} {x : Int} : ∀ m, x ∈ idxTo w a k p m → ∃ j : Nat, x = (j : Int) ∧ 1 ≤ j ∧ j ≤ m ∧ ixOk w a k p j = true
 | 0, h => by simp [idxTo] at h
 | m + 1, h => by
  simp only [idxTo, List.mem_append] at h
  rcases h with h | h
  ·obtain ⟨j, e, h1, h2, h3⟩ := idxTo_mem m h
   exact ⟨j, e, h1, by omega, h3⟩
  ·by_cases hi : ixOk w a k p (m + 1) = true
   ·rw [if_pos hi] at h
    exact ⟨m + 1, by simpa using h, by omega, by omega, hi⟩
   ·rw [if_neg hi] at h; simp at h
theorem idxTo_rise {w : List Data} {a k : Int} {p : Pat} : ∀ m, (idxTo w a k p m).Pairwise (· < ·)
 | 0 => by simp [idxTo]
 | m + 1 => by
  simp only [idxTo]
  refine List.pairwise_append.2 ⟨idxTo_rise m, by split <;> simp, fun x hx y hy => ?_⟩
  obtain ⟨j, e, _, h2, _⟩ := idxTo_mem m hx
  split at hy
  ·rw [List.mem_singleton.1 hy, e]; omega
  ·simp at hy
theorem indices_less {w : List Data} (hs : WSmall w) {a k : Int} {p : Pat} (h : indicesV w a k p ≠ []) :
  patValid w a k p = true ∧ emptyV w a k p = false ∧ ∀ i, i < (indicesV w a k p).length → 1 ≤ nth (indicesV w a k p) i ∧ nth (indicesV w a k p) i ≤ 3 ∧ (0 < k → nth (indicesV w a k p) i = k)
   ∧ (0 < i → nth (indicesV w a k p) (i - 1) < nth (indicesV w a k p) i) := by
 have hp : patValid w a k p = true ∧ a ≠ -1 := by
  unfold indicesV at h
  split at h
  ·assumption
  ·exact absurd rfl h
 have e : indicesV w a k p = idxTo w a k p 3 := by unfold indicesV; rw [if_pos hp]
 rw [e] at h ⊢
 have pv := pval hs hp.1
 refine ⟨hp.1, ?_, fun i hi => ?_⟩
 ·obtain ⟨x, hx⟩ := List.exists_mem_of_ne_nil _ h
  obtain ⟨j, -, h1, h2, h3⟩ := idxTo_mem 3 hx
  unfold ixOk at h3
  rw [Bool.and_eq_true, decide_eq_true_eq] at h3
  obtain ⟨r1, r2, r3, r4⟩ := pv.rng hp.2
  unfold emptyV
  obtain ⟨d, rfl⟩ := Int.eq_ofNat_of_zero_le r1
  obtain ⟨q, rfl⟩ := Int.eq_ofNat_of_zero_le r3
  rw [some_full pv.dp 10 (u := ⟨(d : Int), (j : Int)⟩) pv.shape ⟨rfl, by simp only; omega⟩ (ins_of (by omega) (by omega)) (ins_of (by omega) (by omega)) h3.2, Bool.and_false]
 ·obtain ⟨j, e1, h1, h2, h3⟩ := idxTo_mem 3 (nth_mem hi)
  unfold ixOk at h3
  rw [Bool.and_eq_true, decide_eq_true_eq] at h3
  refine ⟨by omega, by omega, fun hk => by omega, fun h0 => ?_⟩
  have := List.pairwise_iff_getElem.1 (idxTo_rise (w := w) (a := a) (k := k) (p := p) 3) (i - 1) i (by omega) hi (by omega)
  simpa [nth, List.getD, hi, show i - 1 < (idxTo w a k p 3).length by omega] using this
theorem impl_kidTypes_fn {w : List Data} (hw : WT w) {a k : Int} {p : Pat} (ht : TyIn w.length ⟨a, k⟩) :
  FnD Try.prog 135 [.d (encDatas w), .agg [.d (.i a), .d (.i k)], .agg [.d (.i p.op), .d (.i p.ctor), .d (.i p.n), .d (.i p.m), .d (.i p.var), .d (encPats p.kids)]] [] (.d (encTys (shapeT w ⟨a, k⟩ p))) [] := by
 have hsh := impl_shape_fn hw (p := p) ht
 refine bd Try.f135 17 [] [] fun w0 F0 own kept hk => ?_
 refine Walk.box (id := 3004) .none rfl rfl rfl rfl rfl rfl rfl ?_
 refine Walk.box (id := 3005) .none rfl rfl rfl rfl rfl rfl rfl ?_
 refine ev ?_
 refine Walk.call (cr := []) cal166 (hsh) rfl .none rfl rfl (LeL.refl _) trivial rfl rfl rfl ?_
 refine ev ?_
 refine rn0 (r1 rfl) (.eqd ?_)
 all_goals (rfl)
theorem impl_empty_fn {w : List Data} (hd : Dp w) {f : Nat → Nat} : ∀ (n : Nat) {a k : Int} {p : Pat}, shapeP w n ⟨a, k⟩ p = true → InS (w.length * 4) ⟨a, k⟩ → p.ok →
  FnD Try.prog 84 [.d (sPtr w f), .agg [.d (.i a), .d (.i k)], .agg [.d (.i p.op), .d (.i p.ctor), .d (.i p.n), .d (.i p.m), .d (.i p.var), .d (encPats p.kids)]] [] (.d (.bool (emptyP w f n ⟨a, k⟩ p))) []
 | 0, a, k, p, h, _, _ => by simp [shapeP] at h
 | n + 1, a, k, p, h, hi, hok => by
  rw [Pat.ok_iff] at hok
  have hw := hd.wt
  have hw4 := hd.four
  have ht := ins_tyin hi
  have pk := pkids (k := k) h
  obtain ⟨ho, hlen⟩ := shapeP_own h
  have hkid := fun i (hi : i < p.kids.length) => shapeP_kid h hi
  have hops := pk.ops
  have l5 := pk.len5
  have hk1 := pk.one
  have hk2 := pk.two
  have hsT : shapeT w ⟨a, k⟩ p = typesP w ⟨a, k⟩ p := by
   unfold shapeT; rw [if_neg (fun h => h.2 (pk.mem h.1))]
  have hkt := impl_kidTypes_fn hw (p := p) ht
  rw [hsT] at hkt
  have hins : ∀ i, i < (typesP w ⟨a, k⟩ p).length → InS (w.length * 4) (nth (typesP w ⟨a, k⟩ p) i) := fun i hl => by
   have hm := nth_mem hl
   unfold typesP at hm ⊢
   split
   ·rename_i h4
    rw [if_pos h4] at hm
    exact args_ins hd hi (pk.mem h4) _ hm
   ·rename_i h4
    rw [if_neg h4] at hm
    split
    ·rename_i h5
     rw [if_pos h5] at hm
     simp only [List.mem_cons, List.not_mem_nil, or_false, or_self] at hm
     rw [hm]; exact hi
    ·rename_i h5
     rw [if_neg h5] at hm
     split
     ·rename_i h6
      rw [if_pos h6] at hm
      simp only [List.mem_cons, List.not_mem_nil, or_false] at hm
      rw [hm]; exact hi
     ·rename_i h6
      rw [if_neg h6] at hm
      simp at hm
  have htl : (typesP w ⟨a, k⟩ p).length ≤ 1000000000000 := by have := hok.1; omega
  refine bd Try.f84 61 [] [] fun w0 F0 own kept hk => ?_
  refine Walk.box (id := 3004) .none rfl rfl rfl rfl rfl rfl rfl ?_
  refine Walk.box (id := 3005) .none rfl rfl rfl rfl rfl rfl rfl ?_
  refine ev ?_
  refine sq (fun h1 h1p h1s => ?_) fun h1 h1p h1s => ?_
  ·try simp only [Q, Pat.cs_len] at h1p
   refine sq (fun h2 h2p h2s => ?_) fun h2 h2p h2s => ?_
   ·try simp only [Q, Pat.cs_len] at h2p
    refine Walk.call (cr := []) cal126 (impl_of_fn (n := w.length * 4) (f := f) hi (by omega)) rfl .none rfl rfl (LeL.refl _) trivial rfl rfl rfl ?_
    refine evd [] [] ?_
    refine dr ?_
    refine rn0 (r1 rfl) (.eqd ?_)
    all_goals (refine congrArg D.bool ?_; rw [emptyP_succ]; first | (rw [if_pos (by omega)]; exact decide_eq_decide.2 (by omega)) | (rw [if_neg (by omega), if_pos (by omega)]; first | rfl | (simp_all; done)) | (rw [if_neg (by omega), if_neg (by omega)]; first | (rw [all2_nth_false (i := i) (by omega) (by omega) (by show (!_) = false; rw [Bool.not_eq_false']; assumption)]; rfl) | (rw [all2_nth_true (by omega) (fun x hx => by have := hg1.2 x (by omega); simp_all)]; rfl)))
   ·try simp only [Q, Pat.cs_len] at h2p
    refine sq (fun h3 h3p h3s => ?_) fun h3 h3p h3s => ?_
    ·try simp only [Q, Pat.cs_len] at h3p
     refine Walk.idx (i := 0) sl56 .none rfl rfl rfl rfl (pats_at (by omega)) rfl ?_
     refine evd [] [] ?_
     refine Walk.call (cr := []) cal84 (impl_empty_fn hd n (hk1 (by omega)) hi (Pats.ok_mem hok.2 _ (nth_mem (i := 0) (by omega)))) rfl .none rfl rfl (LeL.refl _) trivial rfl rfl rfl ?_
     refine evd [] [] ?_
     refine sq (fun h4 h4p h4s => ?_) fun h4 h4p h4s => ?_
     ·try simp only [Q, Pat.cs_len] at h4p
      refine Walk.idx (i := 1) sl56 (.some rfl rfl h4) rfl rfl rfl rfl (pats_at (by omega)) rfl ?_
      refine evd [] [(30, true)] ?_ ⟨⟨_, rfl, h4⟩, trivial⟩
      refine Walk.call (cr := []) cal84 (impl_empty_fn hd n (hk2 (by omega)) hi (Pats.ok_mem hok.2 _ (nth_mem (i := 1) (by omega)))) rfl (.some rfl rfl h4) rfl rfl (LeL.refl _) trivial rfl rfl rfl ?_
      refine evd [] [(30, true)] ?_ ⟨⟨_, rfl, h4⟩, trivial⟩
      refine dr ?_
      refine rn0 (r1 rfl) (.eqd ?_)
      all_goals (refine congrArg D.bool ?_; rw [emptyP_succ]; first | (rw [if_pos (by omega)]; exact decide_eq_decide.2 (by omega)) | (rw [if_neg (by omega), if_pos (by omega)]; first | rfl | (simp_all; done)) | (rw [if_neg (by omega), if_neg (by omega)]; first | (rw [all2_nth_false (i := i) (by omega) (by omega) (by show (!_) = false; rw [Bool.not_eq_false']; assumption)]; rfl) | (rw [all2_nth_true (by omega) (fun x hx => by have := hg1.2 x (by omega); simp_all)]; rfl)))
     ·try simp only [Q, Pat.cs_len] at h4p
      refine dr ?_
      refine rn0 (r1 rfl) (.eqd ?_)
      all_goals (refine congrArg D.bool ?_; rw [emptyP_succ]; first | (rw [if_pos (by omega)]; exact decide_eq_decide.2 (by omega)) | (rw [if_neg (by omega), if_pos (by omega)]; first | rfl | (simp_all; done)) | (rw [if_neg (by omega), if_neg (by omega)]; first | (rw [all2_nth_false (i := i) (by omega) (by omega) (by show (!_) = false; rw [Bool.not_eq_false']; assumption)]; rfl) | (rw [all2_nth_true (by omega) (fun x hx => by have := hg1.2 x (by omega); simp_all)]; rfl)))
    ·try simp only [Q, Pat.cs_len] at h3p
     refine Walk.call (cr := []) cal135 (hkt) rfl .none rfl rfl (LeL.refl _) trivial rfl rfl rfl ?_
     refine evd [] [] ?_
     refine dr ?_
     refine CWp.loopX (ι := Nat) hk (fun i => [(47, .d (.i (i : Int)))]) [6, 7, 8, 48, 49, 50, 51, 52, 53, 54, 55, 56, 57, 58, 59, 60] (fun i => []) (fun i => i ≤ (typesP w ⟨a, k⟩ p).length ∧ ∀ i', i' < i → emptyP w f n (nth (typesP w ⟨a, k⟩ p) i') (nth p.kids i') = false) (fun i => (typesP w ⟨a, k⟩ p).length - i) 0 ⟨by omega, fun _ h => absurd h (by omega)⟩ ⟨⟨_, rfl, (LeA.eqi (by first | rfl | (simp; done) | (simp_all; done) | omega))⟩, trivial⟩ trivial (fun x => rfl) (fun i hg1 => ?_)
     refine evc [] [] ?_
     refine sq (fun h5 h5p h5s => ?_) fun h5 h5p h5s => ?_
     ·try simp only [Q, Pat.cs_len] at h5p
      refine Walk.idx sl25 .none rfl rfl rfl rfl (at_nth (by omega)) rfl ?_
      refine ev ?_
      refine Walk.alloc (id := 3008) tz31 rfl .none rfl rfl rfl rfl ?_
      refine ev ?_
      refine Walk.store ty31 .none rfl rfl rfl rfl rfl rfl (by simp) rfl ?_
      refine tv ?_
      refine Walk.idx sl56 .none rfl rfl rfl rfl (pats_at (by omega)) rfl ?_
      refine evd [] [] ?_
      refine Walk.call (cr := []) cal84 (impl_empty_fn hd n (hkid i (by omega)) (hins i (by omega)) (Pats.ok_mem hok.2 _ (nth_mem (by omega)))) rfl .none rfl rfl (LeL.refl _) trivial rfl rfl rfl ?_
      refine dr ?_
      refine sq (fun h6 h6p h6s => ?_) fun h6 h6p h6s => ?_
      ·try simp only [Q, Pat.cs_len] at h6p
       refine rn0 (r1 rfl) (.eqd ?_)
       all_goals (refine congrArg D.bool ?_; rw [emptyP_succ]; first | (rw [if_pos (by omega)]; exact decide_eq_decide.2 (by omega)) | (rw [if_neg (by omega), if_pos (by omega)]; first | rfl | (simp_all; done)) | (rw [if_neg (by omega), if_neg (by omega)]; first | (rw [all2_nth_false (i := i) (by omega) (by omega) (by show (!_) = false; rw [Bool.not_eq_false']; assumption)]; rfl) | (rw [all2_nth_true (by omega) (fun x hx => by have := hg1.2 x (by omega); simp_all)]; rfl)))
      ·try simp only [Q, Pat.cs_len] at h6p
       refine ar ?_
       refine Exists.intro (i + 1) ⟨⟨by omega, upto_succ hg1.2 (by assumption)⟩, (by omega), Sub.x (by kernel_rfl) (by kernel_rfl) ⟨⟨_, rfl, (LeA.eqi (by first | rfl | (simp; done) | (simp_all; done) | omega))⟩, trivial⟩ (by kernel_rfl) (by kernel_rfl) trivial⟩
     ·try simp only [Q, Pat.cs_len] at h5p
      refine rn0 (r1 rfl) (.eqd ?_)
      all_goals (refine congrArg D.bool ?_; rw [emptyP_succ]; first | (rw [if_pos (by omega)]; exact decide_eq_decide.2 (by omega)) | (rw [if_neg (by omega), if_pos (by omega)]; first | rfl | (simp_all; done)) | (rw [if_neg (by omega), if_neg (by omega)]; first | (rw [all2_nth_false (i := i) (by omega) (by omega) (by show (!_) = false; rw [Bool.not_eq_false']; assumption)]; rfl) | (rw [all2_nth_true (by omega) (fun x hx => by have := hg1.2 x (by omega); simp_all)]; rfl)))
  ·try simp only [Q, Pat.cs_len] at h1p
   refine sq (fun h7 h7p h7s => ?_) fun h7 h7p h7s => ?_
   ·try simp only [Q, Pat.cs_len] at h7p
    refine Walk.call (cr := []) cal126 (impl_of_fn (n := w.length * 4) (f := f) hi (by omega)) rfl .none rfl rfl (LeL.refl _) trivial rfl rfl rfl ?_
    refine evd [] [] ?_
    refine dr ?_
    refine rn0 (r1 rfl) (.eqd ?_)
    all_goals (refine congrArg D.bool ?_; rw [emptyP_succ]; first | (rw [if_pos (by omega)]; exact decide_eq_decide.2 (by omega)) | (rw [if_neg (by omega), if_pos (by omega)]; first | rfl | (simp_all; done)) | (rw [if_neg (by omega), if_neg (by omega)]; first | (rw [all2_nth_false (i := i) (by omega) (by omega) (by show (!_) = false; rw [Bool.not_eq_false']; assumption)]; rfl) | (rw [all2_nth_true (by omega) (fun x hx => by have := hg1.2 x (by omega); simp_all)]; rfl)))
   ·try simp only [Q, Pat.cs_len] at h7p
    refine sq (fun h8 h8p h8s => ?_) fun h8 h8p h8s => ?_
    ·try simp only [Q, Pat.cs_len] at h8p
     refine Walk.idx (i := 0) sl56 .none rfl rfl rfl rfl (pats_at (by omega)) rfl ?_
     refine evd [] [] ?_
     refine Walk.call (cr := []) cal84 (impl_empty_fn hd n (hk1 (by omega)) hi (Pats.ok_mem hok.2 _ (nth_mem (i := 0) (by omega)))) rfl .none rfl rfl (LeL.refl _) trivial rfl rfl rfl ?_
     refine evd [] [] ?_
     refine sq (fun h9 h9p h9s => ?_) fun h9 h9p h9s => ?_
     ·try simp only [Q, Pat.cs_len] at h9p
      refine Walk.idx (i := 1) sl56 (.some rfl rfl h9) rfl rfl rfl rfl (pats_at (by omega)) rfl ?_
      refine evd [] [(30, true)] ?_ ⟨⟨_, rfl, h9⟩, trivial⟩
      refine Walk.call (cr := []) cal84 (impl_empty_fn hd n (hk2 (by omega)) hi (Pats.ok_mem hok.2 _ (nth_mem (i := 1) (by omega)))) rfl (.some rfl rfl h9) rfl rfl (LeL.refl _) trivial rfl rfl rfl ?_
      refine evd [] [(30, true)] ?_ ⟨⟨_, rfl, h9⟩, trivial⟩
      refine dr ?_
      refine rn0 (r1 rfl) (.eqd ?_)
      all_goals (refine congrArg D.bool ?_; rw [emptyP_succ]; first | (rw [if_pos (by omega)]; exact decide_eq_decide.2 (by omega)) | (rw [if_neg (by omega), if_pos (by omega)]; first | rfl | (simp_all; done)) | (rw [if_neg (by omega), if_neg (by omega)]; first | (rw [all2_nth_false (i := i) (by omega) (by omega) (by show (!_) = false; rw [Bool.not_eq_false']; assumption)]; rfl) | (rw [all2_nth_true (by omega) (fun x hx => by have := hg1.2 x (by omega); simp_all)]; rfl)))
     ·try simp only [Q, Pat.cs_len] at h9p
      refine dr ?_
      refine rn0 (r1 rfl) (.eqd ?_)
      all_goals (refine congrArg D.bool ?_; rw [emptyP_succ]; first | (rw [if_pos (by omega)]; exact decide_eq_decide.2 (by omega)) | (rw [if_neg (by omega), if_pos (by omega)]; first | rfl | (simp_all; done)) | (rw [if_neg (by omega), if_neg (by omega)]; first | (rw [all2_nth_false (i := i) (by omega) (by omega) (by show (!_) = false; rw [Bool.not_eq_false']; assumption)]; rfl) | (rw [all2_nth_true (by omega) (fun x hx => by have := hg1.2 x (by omega); simp_all)]; rfl)))
    ·try simp only [Q, Pat.cs_len] at h8p
     refine Walk.call (cr := []) cal135 (hkt) rfl .none rfl rfl (LeL.refl _) trivial rfl rfl rfl ?_
     refine evd [] [] ?_
     refine dr ?_
     refine CWp.loopX (ι := Nat) hk (fun i => [(47, .d (.i (i : Int)))]) [6, 7, 8, 48, 49, 50, 51, 52, 53, 54, 55, 56, 57, 58, 59, 60] (fun i => []) (fun i => i ≤ (typesP w ⟨a, k⟩ p).length ∧ ∀ i', i' < i → emptyP w f n (nth (typesP w ⟨a, k⟩ p) i') (nth p.kids i') = false) (fun i => (typesP w ⟨a, k⟩ p).length - i) 0 ⟨by omega, fun _ h => absurd h (by omega)⟩ ⟨⟨_, rfl, (LeA.eqi (by first | rfl | (simp; done) | (simp_all; done) | omega))⟩, trivial⟩ trivial (fun x => rfl) (fun i hg1 => ?_)
     refine evc [] [] ?_
     refine sq (fun h10 h10p h10s => ?_) fun h10 h10p h10s => ?_
     ·try simp only [Q, Pat.cs_len] at h10p
      refine Walk.idx sl25 .none rfl rfl rfl rfl (at_nth (by omega)) rfl ?_
      refine ev ?_
      refine Walk.alloc (id := 3008) tz31 rfl .none rfl rfl rfl rfl ?_
      refine ev ?_
      refine Walk.store ty31 .none rfl rfl rfl rfl rfl rfl (by simp) rfl ?_
      refine tv ?_
      refine Walk.idx sl56 .none rfl rfl rfl rfl (pats_at (by omega)) rfl ?_
      refine evd [] [] ?_
      refine Walk.call (cr := []) cal84 (impl_empty_fn hd n (hkid i (by omega)) (hins i (by omega)) (Pats.ok_mem hok.2 _ (nth_mem (by omega)))) rfl .none rfl rfl (LeL.refl _) trivial rfl rfl rfl ?_
      refine dr ?_
      refine sq (fun h11 h11p h11s => ?_) fun h11 h11p h11s => ?_
      ·try simp only [Q, Pat.cs_len] at h11p
       refine rn0 (r1 rfl) (.eqd ?_)
       all_goals (refine congrArg D.bool ?_; rw [emptyP_succ]; first | (rw [if_pos (by omega)]; exact decide_eq_decide.2 (by omega)) | (rw [if_neg (by omega), if_pos (by omega)]; first | rfl | (simp_all; done)) | (rw [if_neg (by omega), if_neg (by omega)]; first | (rw [all2_nth_false (i := i) (by omega) (by omega) (by show (!_) = false; rw [Bool.not_eq_false']; assumption)]; rfl) | (rw [all2_nth_true (by omega) (fun x hx => by have := hg1.2 x (by omega); simp_all)]; rfl)))
      ·try simp only [Q, Pat.cs_len] at h11p
       refine ar ?_
       refine Exists.intro (i + 1) ⟨⟨by omega, upto_succ hg1.2 (by assumption)⟩, (by omega), Sub.x (by kernel_rfl) (by kernel_rfl) ⟨⟨_, rfl, (LeA.eqi (by first | rfl | (simp; done) | (simp_all; done) | omega))⟩, trivial⟩ (by kernel_rfl) (by kernel_rfl) trivial⟩
     ·try simp only [Q, Pat.cs_len] at h10p
      refine rn0 (r1 rfl) (.eqd ?_)
      all_goals (refine congrArg D.bool ?_; rw [emptyP_succ]; first | (rw [if_pos (by omega)]; exact decide_eq_decide.2 (by omega)) | (rw [if_neg (by omega), if_pos (by omega)]; first | rfl | (simp_all; done)) | (rw [if_neg (by omega), if_neg (by omega)]; first | (rw [all2_nth_false (i := i) (by omega) (by omega) (by show (!_) = false; rw [Bool.not_eq_false']; assumption)]; rfl) | (rw [all2_nth_true (by omega) (fun x hx => by have := hg1.2 x (by omega); simp_all)]; rfl)))
theorem impl_EmptyPattern_fn {w : List Data} (hs : WSmall w) {a k : Int} {p : Pat} (hok : p.ok) :
  FnD Try.prog 40 [.d (encDatas w), .agg [.d (.i a), .d (.i k)], .agg [.d (.i p.op), .d (.i p.ctor), .d (.i p.n), .d (.i p.m), .d (.i p.var), .d (encPats p.kids)]] [] (.d (.bool (emptyV w a k p))) [] := by
 have hpv := impl_PatternValid_fn hs (a := a) (k := k) hok
 have pv := pval hs (a := a) (k := k) (p := p)
 have hin : patValid w a k p = true → InS (w.length * 4) ⟨a, k⟩ := fun hv => by
  by_cases ha : a = -1
  ·exact .inl ha
  ·obtain ⟨r1, r2, r3, r4⟩ := (pv hv).rng ha
   obtain ⟨d, rfl⟩ := Int.eq_ofNat_of_zero_le r1
   obtain ⟨q, rfl⟩ := Int.eq_ofNat_of_zero_le r3
   exact ins_of (by omega) (by omega)
 unfold emptyV
 refine bd Try.f40 18 [] [] fun w0 F0 own kept hk => ?_
 refine Walk.box (id := 3004) .none rfl rfl rfl rfl rfl rfl rfl ?_
 refine Walk.box (id := 3005) .none rfl rfl rfl rfl rfl rfl rfl ?_
 refine ev ?_
 refine Walk.call (cr := []) cal39 (hpv) rfl .none rfl rfl (LeL.refl _) trivial rfl rfl rfl ?_
 refine evd [] [] ?_
 refine sq (fun h1 h1p h1s => ?_) fun h1 h1p h1s => ?_
 ·try simp only [Q] at h1p
  refine Walk.call (cr := []) cal78 (impl_newSpaces_fn (pv (by assumption)).dp) rfl (.some rfl rfl h1) rfl rfl (LeL.refl _) trivial rfl rfl rfl ?_
  refine evd [] [(11, true)] ?_ ⟨⟨_, rfl, h1⟩, trivial⟩
  refine Walk.call (cr := []) cal84 (impl_empty_fn (pv (by assumption)).dp 10 (pv (by assumption)).shape (hin (by assumption)) hok) rfl (.some rfl rfl h1) rfl rfl (LeL.refl _) trivial rfl rfl rfl ?_
  refine evd [] [(11, true)] ?_ ⟨⟨_, rfl, h1⟩, trivial⟩
  refine dr ?_
  refine rn0 (r1 rfl) (.eqd ?_)
  all_goals (refine congrArg D.bool ?_; simp_all; done)
 ·try simp only [Q] at h1p
  refine dr ?_
  refine rn0 (r1 rfl) (.eqd ?_)
  all_goals (refine congrArg D.bool ?_; simp_all; done)
theorem spec_DrawIndicesOf_fn {b : Str} (hb : b.length ≤ 1000000000000) :
  FnD Try.prog 35 [.d (encBytes b)] [] (.tup [.d (encDatas (drawC (b.take 2000)).1), .agg [.d (.i (drawC (b.take 2000)).2.1.data), .d (.i (drawC (b.take 2000)).2.1.index)], .agg [.d (.i (drawC (b.take 2000)).2.2.op), .d (.i (drawC (b.take 2000)).2.2.ctor), .d (.i (drawC (b.take 2000)).2.2.n), .d (.i (drawC (b.take 2000)).2.2.m), .d (.i (drawC (b.take 2000)).2.2.var), .d (encPats (drawC (b.take 2000)).2.2.kids)]]) [] := by
 refine bd Try.f35 10 [] [] fun w0 F0 own kept hk => ?_
 refine Walk.alloc (id := 3003) tz31 rfl .none rfl rfl rfl rfl ?_
 refine Walk.alloc (id := 3004) tz58 rfl .none rfl rfl rfl rfl ?_
 refine tv ?_
 refine Walk.call (cr := []) cal77 (spec_l15Case_fn hb) rfl .none rfl rfl (LeL.refl _) trivial rfl rfl rfl ?_
 refine ev ?_
 refine Walk.store ty31 .none rfl rfl rfl rfl rfl rfl (by simp) rfl ?_
 refine Walk.store ty58 .none rfl rfl rfl rfl rfl rfl (by simp) rfl ?_
 refine tv ?_
 refine rn0 (.cons (.tmp rfl) (.cons (.cellA ty31 rfl rfl rfl) (.cons (.cellA ty58 rfl rfl rfl) .nil))) (.tup (.cons (.eqd ?_) (.cons (.agg (.cons (.eqd ?_) (.cons (.eqd ?_) .nil))) (.cons (.agg (.cons (.eqd ?_) (.cons (.eqd ?_) (.cons (.eqd ?_) (.cons (.eqd ?_) (.cons (.eqd ?_) (.cons (.eqd ?_) .nil))))))) .nil))))
 all_goals (first | rfl | (simp []; done) | (simp_all; done) | (simp_all; omega) | omega)
theorem laws_ptInts_fn {l m : List Int} (h : l.length ≤ 1000000000000) (h2 : m.length ≤ 1000000000000) : FnD Try.prog 37 [.d (encInts l), .d (encInts m)] [] (.d (.bool (decide (l = m)))) [] := by
 refine bd Try.f37 26 [] [] fun w0 F0 own kept hk => ?_
 refine sq (fun h1 h1p h1s => ?_) fun h1 h1p h1s => ?_
 ·try simp only [Q, Int.natCast_inj] at h1p
  refine rn0 (r1 rfl) (.eqd ?_)
  all_goals (refine congrArg D.bool ?_; first | (refine (decide_eq_false (fun e => ?_)).symm; subst e; omega) | (refine (decide_eq_false (fun e => ?_)).symm; subst e; simp_all; done) | (refine (decide_eq_true (ext_nth (by omega) (fun x hx => hg1.2 x (by omega)))).symm))
 ·try simp only [Q, Int.natCast_inj] at h1p
  refine CWp.loopX (ι := Nat) hk (fun i => [(5, .d (.i (i : Int)))]) [4, 11, 12, 13, 14, 15, 16, 17, 18, 19, 20, 21, 22, 23, 24, 25] (fun i => []) (fun i => i ≤ l.length ∧ ∀ i', i' < i → nth l i' = nth m i') (fun i => l.length - i) 0 ⟨by omega, fun _ h => absurd h (by omega)⟩ ⟨⟨_, rfl, (LeA.eqi (by first | rfl | (simp; done) | (simp_all; done) | omega))⟩, trivial⟩ trivial (fun x => rfl) (fun i hg1 => ?_)
  refine evc [] [] ?_
  refine sq (fun h2 h2p h2s => ?_) fun h2 h2p h2s => ?_
  ·try simp only [Q, Int.natCast_inj] at h2p
   refine Walk.idx sl66 .none rfl rfl rfl rfl (at_nth (by omega)) rfl ?_
   refine evd [] [] ?_
   refine Walk.idx sl66 .none rfl rfl rfl rfl (at_nth (by omega)) rfl ?_
   refine evd [] [] ?_
   refine dr ?_
   refine sq (fun h3 h3p h3s => ?_) fun h3 h3p h3s => ?_
   ·try simp only [Q, Int.natCast_inj] at h3p
    refine rn0 (r1 rfl) (.eqd ?_)
    all_goals (refine congrArg D.bool ?_; first | (refine (decide_eq_false (fun e => ?_)).symm; subst e; omega) | (refine (decide_eq_false (fun e => ?_)).symm; subst e; simp_all; done) | (refine (decide_eq_true (ext_nth (by omega) (fun x hx => hg1.2 x (by omega)))).symm))
   ·try simp only [Q, Int.natCast_inj] at h3p
    refine ar ?_
    refine Exists.intro (i + 1) ⟨⟨by omega, upto_succ hg1.2 (by simp_all)⟩, (by omega), Sub.x (by kernel_rfl) (by kernel_rfl) ⟨⟨_, rfl, (LeA.eqi (by first | rfl | (simp; done) | (simp_all; done) | omega))⟩, trivial⟩ (by kernel_rfl) (by kernel_rfl) trivial⟩
  ·try simp only [Q, Int.natCast_inj] at h2p
   refine rn0 (r1 rfl) (.eqd ?_)
   all_goals (refine congrArg D.bool ?_; first | (refine (decide_eq_false (fun e => ?_)).symm; subst e; omega) | (refine (decide_eq_false (fun e => ?_)).symm; subst e; simp_all; done) | (refine (decide_eq_true (ext_nth (by omega) (fun x hx => hg1.2 x (by omega)))).symm))
theorem laws_FnIndicesLess_fn {b : Str} (hb : b.length ≤ 1000000000000) : FnD Try.prog 7 [.d (encBytes b)] [] (.d (.bool true)) [] := by
 have hdr := spec_DrawIndicesOf_fn hb
 have hs := drawC_ok (b.take 2000)
 generalize drawC (b.take 2000) = q at *
 obtain ⟨w, ⟨a, k⟩, p⟩ := q
 dsimp only at hdr hs
 obtain ⟨hs, hsz, hok⟩ := hs
 have himp := impl_IndicesOf_fn hs (a := a) (k := k) hok
 have hspec := spec_IndicesOf_fn hs (a := a) (k := k) hok hsz
 have hpv := impl_PatternValid_fn hs (a := a) (k := k) hok
 have hem := impl_EmptyPattern_fn hs (a := a) (k := k) hok
 have hless := indices_less hs (a := a) (k := k) (p := p)
 have hlen : (indicesV w a k p).length ≤ 3 := by
  unfold indicesV
  split
  ·exact idxTo_len 3
  ·simp
 generalize indicesV w a k p = L at *
 have hpt := laws_ptInts_fn (l := L) (m := L) (by omega) (by omega)
 rw [decide_eq_true rfl] at hpt
 by_cases h0 : L = []
 ·subst h0
  refine bd Try.f7 98 [] [] fun w0 F0 own kept hk => ?_
  refine sq (fun h1 h1p h1s => ?_) fun h1 h1p h1s => ?_
  ·try simp only [Q] at h1p
   refine rn0 (r1 rfl) (.eqd ?_)
   all_goals (first | rfl | (exfalso; simp_all; done))
  ·try simp only [Q] at h1p
   refine Walk.call (cr := []) cal35 (hdr) rfl .none rfl rfl (LeL.refl _) trivial rfl rfl rfl ?_
   refine ev ?_
   refine Walk.alloc (id := 3004) tz31 rfl .none rfl rfl rfl rfl ?_
   refine Walk.alloc (id := 3005) tz58 rfl .none rfl rfl rfl rfl ?_
   refine ev ?_
   refine Walk.store ty31 .none rfl rfl rfl rfl rfl rfl (by simp) rfl ?_
   refine Walk.store ty58 .none rfl rfl rfl rfl rfl rfl (by simp) rfl ?_
   refine tv ?_
   refine Walk.call (cr := []) cal36 (himp) rfl .none rfl rfl (LeL.refl _) trivial rfl rfl rfl ?_
   refine ev ?_
   refine Walk.call (cr := []) cal38 (hspec) rfl .none rfl rfl (LeL.refl _) trivial rfl rfl rfl ?_
   refine Walk.call (cr := []) cal37 (hpt) rfl .none rfl rfl (LeL.refl _) trivial rfl rfl rfl ?_
   refine ev ?_
   refine sq (fun h2 h2p h2s => ?_) fun h2 h2p h2s => ?_
   ·try simp only [Q] at h2p
    refine sqT ?_
    refine Walk.call (cr := []) cal38 (hspec) rfl .none rfl rfl (LeL.refl _) trivial rfl rfl rfl ?_
    refine Walk.call (cr := []) cal37 (hpt) rfl .none rfl rfl (LeL.refl _) trivial rfl rfl rfl ?_
    refine ev ?_
    refine rn0 (r1 rfl) (.eqd ?_)
    all_goals (first | rfl | (exfalso; simp_all; done))
   ·try simp only [Q] at h2p
    refine sq (fun h4 h4p h4s => ?_) fun h4 h4p h4s => ?_
    ·try simp only [Q] at h4p
     refine Walk.call (cr := []) cal38 (hspec) rfl .none rfl rfl (LeL.refl _) trivial rfl rfl rfl ?_
     refine Walk.call (cr := []) cal37 (hpt) rfl .none rfl rfl (LeL.refl _) trivial rfl rfl rfl ?_
     refine ev ?_
     refine rn0 (r1 rfl) (.eqd ?_)
     all_goals (first | rfl | (exfalso; simp_all; done))
    ·try simp only [Q] at h4p
     exfalso; simp_all --stop
 ·obtain ⟨e1, e2, hat⟩ := hless h0
  rw [e1] at hpv
  rw [e2] at hem
  have hl0 : 0 < L.length := List.length_pos_iff.2 h0
  refine bd Try.f7 98 [] [] fun w0 F0 own kept hk => ?_
  refine sq (fun h1 h1p h1s => ?_) fun h1 h1p h1s => ?_
  ·try simp only [Q] at h1p
   refine rn0 (r1 rfl) (.eqd ?_)
   all_goals (first | rfl | (exfalso; obtain ⟨a1, a2, a3, a4⟩ := hat i (by omega); first | omega | (have := a3 (by omega); omega) | (have := a4 (by omega); omega)) | (exfalso; contradiction) | (exfalso; simp_all; done))
  ·try simp only [Q] at h1p
   refine Walk.call (cr := []) cal35 (hdr) rfl .none rfl rfl (LeL.refl _) trivial rfl rfl rfl ?_
   refine ev ?_
   refine Walk.alloc (id := 3004) tz31 rfl .none rfl rfl rfl rfl ?_
   refine Walk.alloc (id := 3005) tz58 rfl .none rfl rfl rfl rfl ?_
   refine ev ?_
   refine Walk.store ty31 .none rfl rfl rfl rfl rfl rfl (by simp) rfl ?_
   refine Walk.store ty58 .none rfl rfl rfl rfl rfl rfl (by simp) rfl ?_
   refine tv ?_
   refine Walk.call (cr := []) cal36 (himp) rfl .none rfl rfl (LeL.refl _) trivial rfl rfl rfl ?_
   refine ev ?_
   refine Walk.call (cr := []) cal38 (hspec) rfl .none rfl rfl (LeL.refl _) trivial rfl rfl rfl ?_
   refine Walk.call (cr := []) cal37 (hpt) rfl .none rfl rfl (LeL.refl _) trivial rfl rfl rfl ?_
   refine ev ?_
   refine sq (fun h2 h2p h2s => ?_) fun h2 h2p h2s => ?_
   ·try simp only [Q] at h2p
    refine sqT ?_
    exfalso; simp_all --stop
   ·try simp only [Q] at h2p
    refine sq (fun h4 h4p h4s => ?_) fun h4 h4p h4s => ?_
    ·try simp only [Q] at h4p
     exfalso; simp_all --stop
    ·try simp only [Q] at h4p
     refine CWp.loopX (ι := Nat) hk (fun i => [(7, .d (.i (i : Int)))]) [2, 39, 40, 41, 42, 43, 44, 45, 46, 47, 48, 49, 50, 51, 52, 53, 54, 55, 56, 57, 58, 59, 60, 61, 62, 63, 64, 65, 66, 67, 68, 69, 70, 71, 72, 73, 74, 75, 76, 77, 78, 79, 80, 81, 82, 83, 84, 85, 86] (fun i => []) (fun i => i ≤ L.length) (fun i => L.length - i) 0 (by omega) ⟨⟨_, rfl, (LeA.eqi (by first | rfl | (simp; done) | (simp_all; done) | omega))⟩, trivial⟩ trivial (fun x => rfl) (fun i hg1 => ?_)
     refine evc [] [] ?_
     refine sq (fun h5 h5p h5s => ?_) fun h5 h5p h5s => ?_
     ·try simp only [Q] at h5p
      refine Walk.idx sl66 .none rfl rfl rfl rfl (at_nth (by omega)) rfl ?_
      refine evd [] [] ?_
      refine sq (fun h6 h6p h6s => ?_) fun h6 h6p h6s => ?_
      ·try simp only [Q] at h6p
       refine sqT ?_
       refine sqT ?_
       refine dr ?_
       refine sqT ?_
       refine rn0 (r1 rfl) (.eqd ?_)
       all_goals (first | rfl | (exfalso; obtain ⟨a1, a2, a3, a4⟩ := hat i (by omega); first | omega | (have := a3 (by omega); omega) | (have := a4 (by omega); omega)) | (exfalso; contradiction) | (exfalso; simp_all; done))
      ·try simp only [Q] at h6p
       refine Walk.idx sl66 (.some rfl rfl h6) rfl rfl rfl rfl (at_nth (by omega)) rfl ?_
       refine evd [] [(50, false)] ?_ ⟨⟨_, rfl, h6⟩, trivial⟩
       refine sq (fun h8 h8p h8s => ?_) fun h8 h8p h8s => ?_
       ·try simp only [Q] at h8p
        refine sqT ?_
        refine dr ?_
        refine sqT ?_
        refine rn0 (r1 rfl) (.eqd ?_)
        all_goals (first | rfl | (exfalso; obtain ⟨a1, a2, a3, a4⟩ := hat i (by omega); first | omega | (have := a3 (by omega); omega) | (have := a4 (by omega); omega)) | (exfalso; contradiction) | (exfalso; simp_all; done))
       ·try simp only [Q] at h8p
        refine sq (fun h10 h10p h10s => ?_) fun h10 h10p h10s => ?_
        ·try simp only [Q] at h10p
         refine Walk.idx sl66 (.some rfl rfl h10) rfl rfl rfl rfl (at_nth (by omega)) rfl ?_
         refine evd [] [(57, false), (61, true)] ?_ ⟨⟨_, rfl, h8⟩, ⟨_, rfl, h10⟩, trivial⟩
         refine sq (fun h11 h11p h11s => ?_) fun h11 h11p h11s => ?_
         ·try simp only [Q] at h11p
          refine dr ?_
          refine sqT ?_
          refine rn0 (r1 rfl) (.eqd ?_)
          all_goals (first | rfl | (exfalso; obtain ⟨a1, a2, a3, a4⟩ := hat i (by omega); first | omega | (have := a3 (by omega); omega) | (have := a4 (by omega); omega)) | (exfalso; contradiction) | (exfalso; simp_all; done))
         ·try simp only [Q] at h11p
          refine sq (fun h13 h13p h13s => ?_) fun h13 h13p h13s => ?_
          ·try simp only [Q] at h13p
           refine ar ?_
           refine Walk.idx (i := i - 1) sl66 (.some rfl rfl h13) rfl rfl rfl (by omega) (at_nth (by omega)) rfl ?_
           refine evd [] [(71, false), (74, true)] ?_ ⟨⟨_, rfl, h11⟩, ⟨_, rfl, h13⟩, trivial⟩
           refine Walk.idx sl66 (.some rfl rfl h13) rfl rfl rfl rfl (at_nth (by omega)) rfl ?_
           refine evd [] [(71, false), (74, true)] ?_ ⟨⟨_, rfl, h11⟩, ⟨_, rfl, h13⟩, trivial⟩
           refine dr ?_
           refine sq (fun h14 h14p h14s => ?_) fun h14 h14p h14s => ?_
           ·try simp only [Q] at h14p
            refine rn0 (r1 rfl) (.eqd ?_)
            all_goals (first | rfl | (exfalso; obtain ⟨a1, a2, a3, a4⟩ := hat i (by omega); first | omega | (have := a3 (by omega); omega) | (have := a4 (by omega); omega)) | (exfalso; contradiction) | (exfalso; simp_all; done))
           ·try simp only [Q] at h14p
            refine ar ?_
            refine Exists.intro (i + 1) ⟨(by omega), (by omega), Sub.x (by kernel_rfl) (by kernel_rfl) ⟨⟨_, rfl, (LeA.eqi (by first | rfl | (simp; done) | (simp_all; done) | omega))⟩, trivial⟩ (by kernel_rfl) (by kernel_rfl) trivial⟩
          ·try simp only [Q] at h13p
           refine dr ?_
           refine sqF ?_
           refine ar ?_
           refine Exists.intro (i + 1) ⟨(by omega), (by omega), Sub.x (by kernel_rfl) (by kernel_rfl) ⟨⟨_, rfl, (LeA.eqi (by first | rfl | (simp; done) | (simp_all; done) | omega))⟩, trivial⟩ (by kernel_rfl) (by kernel_rfl) trivial⟩
        ·try simp only [Q] at h10p
         refine sqF ?_
         refine sq (fun h16 h16p h16s => ?_) fun h16 h16p h16s => ?_
         ·try simp only [Q] at h16p
          refine ar ?_
          refine Walk.idx (i := i - 1) sl66 (.some rfl rfl h16) rfl rfl rfl (by omega) (at_nth (by omega)) rfl ?_
          refine evd [] [(71, false), (74, true)] ?_ ⟨⟨_, rfl, rfl⟩, ⟨_, rfl, h16⟩, trivial⟩
          refine Walk.idx sl66 (.some rfl rfl h16) rfl rfl rfl rfl (at_nth (by omega)) rfl ?_
          refine evd [] [(71, false), (74, true)] ?_ ⟨⟨_, rfl, rfl⟩, ⟨_, rfl, h16⟩, trivial⟩
          refine dr ?_
          refine sq (fun h17 h17p h17s => ?_) fun h17 h17p h17s => ?_
          ·try simp only [Q] at h17p
           refine rn0 (r1 rfl) (.eqd ?_)
           all_goals (first | rfl | (exfalso; obtain ⟨a1, a2, a3, a4⟩ := hat i (by omega); first | omega | (have := a3 (by omega); omega) | (have := a4 (by omega); omega)) | (exfalso; contradiction) | (exfalso; simp_all; done))
          ·try simp only [Q] at h17p
           refine ar ?_
           refine Exists.intro (i + 1) ⟨(by omega), (by omega), Sub.x (by kernel_rfl) (by kernel_rfl) ⟨⟨_, rfl, (LeA.eqi (by first | rfl | (simp; done) | (simp_all; done) | omega))⟩, trivial⟩ (by kernel_rfl) (by kernel_rfl) trivial⟩
         ·try simp only [Q] at h16p
          refine dr ?_
          refine sqF ?_
          refine ar ?_
          refine Exists.intro (i + 1) ⟨(by omega), (by omega), Sub.x (by kernel_rfl) (by kernel_rfl) ⟨⟨_, rfl, (LeA.eqi (by first | rfl | (simp; done) | (simp_all; done) | omega))⟩, trivial⟩ (by kernel_rfl) (by kernel_rfl) trivial⟩
     ·try simp only [Q] at h5p
      refine Walk.call (cr := []) cal39 (hpv) rfl .none rfl rfl (LeL.refl _) trivial rfl rfl rfl ?_
      refine ev ?_
      refine sq (fun h19 h19p h19s => ?_) fun h19 h19p h19s => ?_
      ·try simp only [Q] at h19p
       refine Walk.call (cr := []) cal40 (hem) rfl (.some rfl rfl h19) rfl rfl (LeL.refl _) trivial rfl rfl rfl ?_
       refine evs [] [(91, true)] ?_ ⟨⟨_, rfl, h19⟩, trivial⟩
       refine rn0 (r1 rfl) (.eqd ?_)
       all_goals (first | rfl | (exfalso; obtain ⟨a1, a2, a3, a4⟩ := hat i (by omega); first | omega | (have := a3 (by omega); omega) | (have := a4 (by omega); omega)) | (exfalso; contradiction) | (exfalso; simp_all; done))
      ·try simp only [Q] at h19p
       refine rn0 (r1 rfl) (.eqd ?_)
       all_goals (first | rfl | (exfalso; obtain ⟨a1, a2, a3, a4⟩ := hat i (by omega); first | omega | (have := a3 (by omega); omega) | (have := a4 (by omega); omega)) | (exfalso; contradiction) | (exfalso; simp_all; done))
end Go.Proofs.Ytpimgoacljakgaa
namespace Go.Proofs.Ytpimgoacljakgaa
open Go Go.ChangeShapes Go.WideShapes Go.ChangeAt Go.RowKit
set_option linter.unusedSimpArgs false
set_option linter.unusedVariables false
set_option linter.unusedVariables false
def FW (W : World) (b : Nat) : Nat := match W.heap[b]? with
 | some (.cells cs _ _) => cs.size
 | _ => 0
theorem FW_cell {W : World} {b o : Nat} {v : Value} (h : W.cell? ⟨b, o, none⟩ = some v) : o < FW W b := by
 unfold World.cell? at h
 unfold FW
 simp only at h
 split at h
 ·rename_i c t fr hb
  simp only [hb]
  simp only [Option.isSome_none, Bool.false_eq_true, if_false] at h
  exact (Array.getElem?_eq_some_iff.1 h).1
 ·cases h
theorem FW_top {W : World} {b : Nat} (h : W.heap.size ≤ b) : FW W b = 0 := by
 unfold FW
 rw [Array.getElem?_eq_none h]
structure RelL (W : World) (xs : List D) (cs : List Value) : Prop where
 len : xs.length = cs.length
 rel : ∀ i (h1 : i < xs.length) (h2 : i < cs.length), RelD (FW W) W xs[i] cs[i]
theorem RelL.append {W : World} {xs ys : List D} {cs ds : List Value} (h : RelL W xs cs) (k : RelL W ys ds) : RelL W (xs ++ ys) (cs ++ ds) := by
 refine ⟨by simp [h.len, k.len], fun i h1 h2 => ?_⟩
 by_cases hi : i < xs.length
 ·rw [List.getElem_append_left hi, List.getElem_append_left (by rw [← h.len]; exact hi)]
  exact h.rel i hi (by rw [← h.len]; exact hi)
 ·have hl := h.len
  rw [List.getElem_append_right (by omega), List.getElem_append_right (by omega)]
  have e : i - xs.length = i - cs.length := by omega
  have h1' : i - xs.length < ys.length := by simp only [List.length_append] at h1; omega
  have h2' : i - cs.length < ds.length := by simp only [List.length_append] at h2; omega
  have := k.rel (i - xs.length) h1' (by omega)
  simp only [e] at this ⊢
  exact this
def Dec (P : Program) (W : World) (n : Nat) (t : TypeId) {α : Type} (f : α → List D) (m : α → Nat) (R : α → Prop) : Prop :=
 ∀ (H : Type) (enc : TypeId × Value → H) (cs : List Value) (x : DataW H × List MemPlace), DataW.trod enc P W 0 (fun _ => true) true n t cs = some x →
  ∃ a, RelL W (f a) cs ∧ m a + 1 ≤ Rows.uptoBulk x.1 ∧ R a
section
variable {P : Program} {W : World} {n : Nat} {t : TypeId}
theorem Dec.zero {α : Type} {f : α → List D} {m : α → Nat} {R : α → Prop} : Dec P W 0 t f m R := fun H enc cs x h => by simp [DataW.trod] at h
theorem Dec.map {α β : Type} {f : α → List D} {m : α → Nat} {R : α → Prop} {f' : β → List D} {m' : β → Nat} {R' : β → Prop} (g : α → β) (h : Dec P W n t f m R)
  (h1 : ∀ a, f' (g a) = f a) (h2 : ∀ a, m' (g a) ≤ m a) (h3 : ∀ a, R a → R' (g a)) : Dec P W n t f' m' R' := fun H enc cs x hx => by
 obtain ⟨a, q1, q2, q3⟩ := h H enc cs x hx
 exact ⟨g a, by rw [h1]; exact q1, by have := h2 a; omega, h3 a q3⟩
theorem RelL.one {x : D} {v : Value} (h : RelD (FW W) W x v) : RelL W [x] [v] :=
 ⟨rfl, fun i h1 h2 => by
  have : i = 0 := by simp at h1; omega
  subst this
  exact h⟩
theorem Dec.int {k : IntKind} (ht : P.underlying t = some (.int k)) : Dec P W n t (fun z : Int => [.int k z]) (fun _ => 0) (fun z => (Lit.int k z).wf = true) := fun H enc cs x h => by
 obtain ⟨z, rfl, rfl, hw⟩ := DataW.trod_int ht h
 exact ⟨z, .one (.int k z), by simp [Rows.uptoBulk], hw⟩
theorem Dec.bool (ht : P.underlying t = some .bool) : Dec P W n t (fun z : Bool => [.bool z]) (fun _ => 0) (fun _ => True) := fun H enc cs x h => by
 obtain ⟨z, rfl, rfl⟩ := DataW.trod_bool ht h
 exact ⟨z, .one (.bool z), by simp [Rows.uptoBulk], trivial⟩
theorem Dec.str (ht : P.underlying t = some .string) : Dec P W n t (fun s : Str => [.str s]) (fun s => s.length) (fun _ => True) := fun H enc cs x h => by
 obtain ⟨s, rfl, rfl, hw⟩ := DataW.trod_string ht h
 exact ⟨s.data.toList, .one (by have := RelD.str (F := FW W) (w := W) s.data.toList; simpa using this), by simp [Rows.uptoBulk], trivial⟩
def sumM {α : Type} (m : α → Nat) : List α → Nat
 | [] => 0
 | a :: r => m a + 1 + sumM m r
theorem sumM_len {α : Type} (m : α → Nat) : ∀ l : List α, l.length ≤ sumM m l
 | [] => by simp [sumM]
 | a :: r => by have := sumM_len m r; simp only [sumM, List.length_cons]; omega
theorem choose_list {α β : Type} {Q : Nat → α → β → Prop} : ∀ (l : List β) (o : Nat), (∀ i (h : i < l.length), ∃ a, Q (o + i) a l[i]) → ∃ zs : List α, zs.length = l.length ∧ ∀ i (h : i < l.length) (h' : i < zs.length), Q (o + i) zs[i] l[i]
 | [], o, _ => ⟨[], rfl, fun i h => by simp at h⟩
 | b :: r, o, h => by
  obtain ⟨a, ha⟩ := h 0 (by simp)
  obtain ⟨zs, h1, h2⟩ := choose_list (Q := Q) r (o + 1) (fun i hi => by
   have := h (i + 1) (by simp; omega)
   rw [show o + 1 + i = o + (i + 1) by omega]
   simpa using this)
  refine ⟨a :: zs, by simp [h1], fun i hi hi' => ?_⟩
  cases i with
  | zero => exact ha
  | succ i =>
   have := h2 i (by simpa using hi) (by simpa using hi')
   rw [show o + 1 + i = o + (i + 1) by omega] at this
   simpa using this
theorem bulk_sum {H α : Type} {m : α → Nat} : ∀ {zs : List α} {xs : List (DataW H)}, zs.length = xs.length → (∀ i (h : i < zs.length) (h' : i < xs.length), m zs[i] + 1 ≤ Rows.uptoBulk xs[i]) → sumM m zs ≤ Rows.uptoBulkAll xs
 | [], [], _, _ => by simp [sumM, Rows.uptoBulkAll]
 | a :: zs, x :: xs, hl, h => by
  have h0 := h 0 (by simp) (by simp)
  have ih := bulk_sum (m := m) (zs := zs) (xs := xs) (by simpa using hl) (fun i h1 h2 => by
   have := h (i + 1) (by simp; omega) (by simp; omega)
   simpa using this)
  simp only [sumM, Rows.uptoBulkAll]
  simp only [List.getElem_cons_zero] at h0
  omega
 | [], _ :: _, hl, _ => by simp at hl
 | _ :: _, [], hl, _ => by simp at hl
theorem Dec.sl {α : Type} {f : α → List D} {m : α → Nat} {R : α → Prop} {e : TypeId} {k : Nat} (ht : P.underlying t = some (.slice e)) (hc : P.cellsOf e = k + 1) (hk : ∀ a, (f a).length = k + 1) (he : Dec P W n e f m R) :
  Dec P W (n + 1) t (fun l : List α => [.sl (l.map f)]) (fun l => sumM m l) (fun l => ∀ a ∈ l, R a) := fun H enc cs x h => by
 rcases DataW.trod_slice ht h with ⟨rfl, rfl⟩ | ⟨a, len, cap, elems, rest, n', hn, rfl, rfl, _, hcap, _, hlen, hel, _, _⟩
 ·exact ⟨[], .one .nil, by simp [sumM, Rows.uptoBulk], fun a h => by simp at h⟩
 obtain rfl : n = n' := by omega
 have each : ∀ i (hi : i < elems.length), ∃ y, (∃ cs, W.cells? 0 (a.add (i * (k + 1))) (k + 1) = some cs ∧ RelL W (f y) cs) ∧ m y + 1 ≤ Rows.uptoBulk (elems[i]).1 ∧ R y := by
  intro i hi
  have := hel i (by omega)
  rw [hc, List.getElem?_eq_getElem hi, Option.bind_eq_some_iff] at this
  obtain ⟨cs, h1, h2⟩ := this
  obtain ⟨y, h3, h4, h5⟩ := he H enc cs _ h2
  exact ⟨y, ⟨cs, h1, h3⟩, h4, h5⟩
 obtain ⟨zs, hal, has⟩ := choose_list (Q := fun i y (el : DataW H × List MemPlace) => (∃ cs, W.cells? 0 (a.add (i * (k + 1))) (k + 1) = some cs ∧ RelL W (f y) cs) ∧ m y + 1 ≤ Rows.uptoBulk el.1 ∧ R y) elems 0 (fun i hi => by simpa using each i hi)
 refine ⟨zs, .one ?_, ?_, fun y hy => ?_⟩
 ·by_cases h0 : zs = []
  ·subst h0
   have hz : len = 0 := by simp at hal; omega
   subst hz
   obtain ⟨b, o, s⟩ := a
   cases s with
   | none => exact .sl [] 0 b o cap (fun _ => undef) (by simp) (by simp) (fun n hn => by simp at hn) (fun i hi => by simp at hi)
   | some s => exact .emp b o s cap
  ·have hpos : 0 < zs.length := List.length_pos_iff.2 h0
   obtain ⟨⟨cs0, hc0, hr0⟩, _⟩ := has 0 (by omega) hpos
   have hspot : a.spot = none := by
    have h1 := (World.cells?_some hc0).2.2 0 (by omega)
    have h2 : 0 < cs0.length := by have := (World.cells?_some hc0).2.1; omega
    simp only [Nat.add_zero, Nat.zero_mul, Addr.add, if_true, List.getElem?_eq_getElem h2] at h1
    unfold World.cell? at h1
    split at h1
    ·cases hs : a.spot with
     | none => rfl
     | some s => simp [hs] at h1
    ·cases h1
   obtain ⟨b, o, s⟩ := a
   simp only at hspot
   subst hspot
   have hlen' : (zs.map f).length = len := by simp; omega
   have hmulk : ∀ i j, i < zs.length → j < k + 1 → i * (k + 1) + j < zs.length * (k + 1) := fun i j hi hj => by
    have : (i + 1) * (k + 1) ≤ zs.length * (k + 1) := Nat.mul_le_mul_right _ (by omega)
    rw [Nat.add_mul, Nat.one_mul] at this
    omega
   have cellAt : ∀ i (hi : i < zs.length) j (hj : j < (f zs[i]).length), ∃ v, W.cell? ⟨b, o + (i * (k + 1) + j), none⟩ = some v ∧ RelD (FW W) W ((f zs[i])[j]) v := fun i hi j hj => by
    obtain ⟨⟨cs, hc1, hr1⟩, _⟩ := has i (by omega) hi
    have hjk : j < k + 1 := by have := hk zs[i]; omega
    obtain ⟨_, q1, q2⟩ := World.cells?_some hc1
    have q3 := q2 j hjk
    rw [List.getElem?_eq_getElem (by omega)] at q3
    refine ⟨cs[j], ?_, hr1.rel j hj (by omega)⟩
    rw [← q3]
    congr 1
    simp only [Nat.zero_add, Addr.add]
    split <;> split <;> simp_all <;> omega
   have hv : ((zs.map f).length, cap) = (len, cap) := by rw [hlen']
   have goal : RelD (FW W) W (.sl (zs.map f)) (.slice (some ⟨b, o, none⟩) (zs.map f).length cap) := by
    refine .sl _ (k + 1) b o cap (fun q => (W.cell? ⟨b, o + q, none⟩).getD undef) (fun y hy => ?_) (by omega) (fun q hq => ?_) (fun i hi j hj => ?_)
    ·obtain ⟨y', _, rfl⟩ := List.mem_map.1 hy; exact hk y'
    ·have hq' : q < zs.length * (k + 1) := by simpa using hq
     have hi : q / (k + 1) < zs.length := Nat.div_lt_of_lt_mul (by rw [Nat.mul_comm]; exact hq')
     have hj : q % (k + 1) < k + 1 := Nat.mod_lt _ (by omega)
     obtain ⟨v, h1, _⟩ := cellAt _ hi (q % (k + 1)) (by rw [hk]; exact hj)
     rw [Nat.div_add_mod'] at h1
     exact ⟨FW_cell h1, by rw [h1]; rfl⟩
    ·have hi' : i < zs.length := by simpa using hi
     simp only [List.getElem_map] at hj ⊢
     obtain ⟨v, h1, h2⟩ := cellAt i hi' j hj
     show RelD (FW W) W _ ((W.cell? ⟨b, o + (i * (k + 1) + j), none⟩).getD undef)
     rw [h1]
     exact h2
   rw [hlen'] at goal
   exact goal
 ·have := bulk_sum (m := m) (zs := zs) (xs := elems.map (·.1)) (by simp [hal]) (fun i h1 h2 => by
   have := (has i (by simpa using h2) h1).2.1
   simpa using this)
  simp only [Rows.uptoBulk]
  omega
 ·obtain ⟨i, hi, rfl⟩ := List.getElem_of_mem hy
  exact (has i (by omega) hi).2.2
def DecF (P : Program) (W : World) (n o K : Nat) (fs : List Field) {α : Type} (f : α → List D) (m : α → Nat) (R : α → Prop) : Prop :=
 ∀ (H : Type) (enc : TypeId × Value → H) (cs : List Value) (xs : List (DataW H × List MemPlace)), cs.length = K → xs.length = fs.length →
  (∀ (i : Nat) (fd : Field), fs[i]? = some fd → DataW.trod enc P W 0 (fun _ => true) true n fd.type ((cs.drop fd.offset).take (P.cellsOf fd.type)) = xs[i]?) →
  ∃ a, RelL W (f a) (cs.drop o) ∧ m a ≤ Rows.uptoBulkAll (xs.map (·.1)) ∧ R a
theorem DecF.nil {K : Nat} : DecF P W n K K [] (fun _ : Unit => []) (fun _ => 0) (fun _ => True) := fun H enc cs xs h1 h2 _ =>
 ⟨(), by rw [List.drop_of_length_le (by omega)]; exact ⟨rfl, fun i h => by simp at h⟩, by simp, trivial⟩
theorem DecF.cons {α β : Type} {f : α → List D} {m : α → Nat} {R : α → Prop} {f2 : β → List D} {m2 : β → Nat} {R2 : β → Prop} {o K k : Nat} {fd : Field} {fs : List Field}
  (h1 : Dec P W n fd.type f m R) (ho : fd.offset = o) (hc : P.cellsOf fd.type = k) (h2 : DecF P W n (o + k) K fs f2 m2 R2) :
  DecF P W n o K (fd :: fs) (fun p : α × β => f p.1 ++ f2 p.2) (fun p => m p.1 + 1 + m2 p.2) (fun p => R p.1 ∧ R2 p.2) := fun H enc cs xs hK hl hx => by
 cases xs with
 | nil => simp at hl
 | cons y ys =>
  have h0 := hx 0 fd (by simp)
  simp only [List.getElem?_cons_zero] at h0
  rw [ho, hc] at h0
  obtain ⟨a, q1, q2, q3⟩ := h1 H enc _ _ h0
  obtain ⟨b, r1, r2, r3⟩ := h2 H enc cs ys hK (by simpa using hl) (fun i fd' hi => by
   have := hx (i + 1) fd' (by simpa using hi)
   simpa using this)
  refine ⟨(a, b), ?_, ?_, q3, r3⟩
  ·have : cs.drop o = (cs.drop o).take k ++ cs.drop (o + k) := by
    rw [← List.drop_drop, List.take_append_drop]
   rw [this]
   exact q1.append r1
  ·simp only [List.map_cons, Rows.uptoBulkAll]
   omega
theorem Dec.struct {α : Type} {f : α → List D} {m : α → Nat} {R : α → Prop} {fs : Array Field} (ht : P.underlying t = some (.struct fs)) {K : Nat} (hK : P.cellsOf t = K) (h : DecF P W n 0 K fs.toList f m R) :
  Dec P W (n + 1) t f m R := fun H enc cs x hx => by
 obtain ⟨xs, n', hn, rfl, hl, hxl, hf⟩ := DataW.trod_struct ht hx
 obtain rfl : n = n' := by omega
 obtain ⟨a, q1, q2, q3⟩ := h H enc cs xs (by omega) (by simpa using hxl) (fun i fd hi => hf i fd (by simpa using hi))
 refine ⟨a, by simpa using q1, ?_, q3⟩
 simp only [Rows.uptoBulk]
 omega
end
section
variable {P : Program} {W : World} {base : Nat} {t : TypeId} {v : Value} {H : Type} {enc : TypeId × Value → H} {d : DataW H} {ps : List MemPlace}
theorem arg_sl {α : Type} {e : TypeId} {f : α → List D} {m : α → Nat} {R : α → Prop} {k : Nat} (ht : P.underlying t = some (.slice e)) (hc : P.cellsOf e = k + 1) (hk : ∀ a, (f a).length = k + 1) (hd : ∀ n, Dec P W n e f m R)
  (hval : Value.okWide P W .any base t v) (h : DataW.Trod enc P W 0 (fun _ => true) true t v d ps) :
  ∃ l : List α, (∀ G T, G.F = FW W → RelA G T W (.d (.sl (l.map f))) v) ∧ sumM m l + 1 ≤ Rows.uptoBulk d ∧ ∀ a ∈ l, R a := by
 obtain ⟨n, hn⟩ := h
 cases n with
 | zero => simp [DataW.trod] at hn
 | succ n =>
  obtain ⟨l, h1, h2, h3⟩ := Dec.sl ht hc hk (hd n) H enc _ _ hn
  have hcells : v.cells.toList = [v] := by
   cases v with
   | agg cs => simp only [Value.okWide, ht, Cell.okWide, Cell.ok] at hval
   | _ => rfl
  rw [hcells] at h1
  exact ⟨l, fun G T hG => .d (by rw [hG]; simpa using h1.rel 0 (by simp) (by simp)), h2, h3⟩
end
section
variable {P : Program} {H : Type} {enc : TypeId × Value → H}
theorem trodAll_below (hl : laidOutB P = true) {W W' : World} (hb : Below W.heap.size W W') : ∀ {ts : List TypeId} {vs : List Value} {ds : List (DataW H)} {ps : List MemPlace},
  (∀ t ∈ ts, P.readableRec t = true ∧ t < P.types.size) → DataW.TrodAll enc P W 0 (fun _ => true) true ts vs ds ps → (∀ x ∈ ps, x.block < W.heap.size) →
  DataW.TrodAll enc P W' 0 (fun b => decide (b < W.heap.size)) true ts vs ds ps
 | [], [], [], ps, _, h, _ => h
 | t :: ts, v :: vs, d :: ds, ps, hr, h, hlt => by
  obtain ⟨p, q, h1, h2, rfl⟩ := h
  exact ⟨p, q, Below.trod hl (hr t (by simp)).1 (hr t (by simp)).2 h1 hb (fun x hx => hlt x (by simp [hx])),
   trodAll_below hl hb (fun t ht => hr t (by simp [ht])) h2 (fun x hx => hlt x (by simp [hx])), rfl⟩
theorem law_post {f : Func} {s : ChangeSpec} {W W' : World} {args : Array Value} {ds gs : List (DataW H)} {before : List MemPlace} {tb : TypeId}
  (hW : DataW.Whole enc P f.params.toList s.vars false W args.toList ds gs before) (hvars : s.vars = []) (hrt : f.resultTypes = #[tb]) (htb : P.underlying tb = some .bool)
  (hs : s.fn H (ds ++ gs) = { results := [.lit (.bool true)], args := ds }) (hl : laidOutB P = true) (hr : ∀ t ∈ f.params.toList, P.readableRec t = true ∧ t < P.types.size)
  (hb : Below W.heap.size W W') : s.post enc P f false true false false W args (.bool true) W' := by
 have hlt : ∀ p ∈ before, p.block < W.heap.size := fun p hp => hW.lt p hp
 have hW0 := hW
 obtain ⟨p, q, hA, hV, rfl, hfz, _⟩ := hW
 rw [hvars] at hV
 cases gs with
 | cons g gs => exact hV.elim
 | nil =>
  have hq : q = [] := hV
  subst hq
  simp only [List.append_nil] at *
  refine ⟨ds, [], p, [], p, [], by simpa [hvars] using hW0, ?_, ?_, ?_, World.keptBut_mono (fun x hx => ⟨hx, .inr (.inl hx)⟩) (hb.frame (· ∈ p)), fun h => by cases h⟩
  ·simp only [List.append_nil, hs, hrt]
   exact trodAll_cons_mk (shut_bool htb _) trodAll_mk0
  ·simp only [List.append_nil, hs]
   exact trodAll_below hl hb hr hA hlt
  ·simp only [hvars, List.append_nil, hs]
   rfl
theorem law_calls {f : FuncId} {avs : List AV} {W : World} {args : Array Value} {r : AV} (hf : FnD P f avs [] r [])
  (hargs : ∀ G T, G.F = FW W → AllR G T W avs args) : Calls P f args W fun e W' => ∃ v G', e = .returned v ∧ RelA G' (fun _ => none) W' r v ∧ Below W.heap.size W W' := by
 let G : Gh := { F := FW W, loc := fun _ => [] }
 refine (hf G W args ⟨hargs G _ rfl, fun id r h => (by simp [getH] at h), fun id id' h => (by simp [getH] at h), fun b hb => FW_top hb⟩).mono ?_
 rintro e W' ⟨v, r', hp', G', rfl, ⟨rfl, rfl⟩, h⟩
 exact ⟨v, G', rfl, h.res, ⟨h.frm.os, h.frm.tape, h.frm.output, h.frm.size, fun b hb => (h.frm.block b hb (by simp [ownedL])).1⟩⟩
theorem RelA.bool_true {G : Gh} {T : TokF} {w : World} {v : Value} (h : RelA G T w (.d (.bool true)) v) : v = .bool true := by
 cases h with | d h => cases h; rfl
theorem bound_of {H : Type} {l : List (DataW H)} (hk : Rows.uptoSmall H l = true) : Rows.uptoBulkAll l ≤ 1048576 := of_decide_eq_true hk
end
end Go.Proofs.Ytpimgoacljakgaa
namespace Go.Proofs.Ytpimgoacljakgaa
open Go Go.ChangeShapes Go.WideShapes Go.ChangeAt Go.RowKit
set_option linter.unusedSimpArgs false
set_option linter.unusedVariables false
set_option maxRecDepth 100000
theorem decByte (W : World) (n : Nat) : Dec Try.prog W n 5 (fun x : UInt8 => [D.int .u8 (x.toNat : Int)]) (fun _ => 0) (fun _ => True) := fun H enc cs x hx => by
 obtain ⟨z, q1, q2, q3⟩ := Dec.int (k := .u8) Try.underlying5 H enc cs x hx
 have h : 0 ≤ z ∧ z ≤ 255 := by
  simp [Lit.wf, IntKind.wrap, IntKind.signed, IntKind.bits, IntKind.min, IntKind.max] at q3
  omega
 refine ⟨UInt8.ofNat z.toNat, ?_, q2, trivial⟩
 have e : (((UInt8.ofNat z.toNat).toNat : Nat) : Int) = z := by
  rw [UInt8.toNat_ofNat', Nat.mod_eq_of_lt (by omega)]; omega
 show RelL W [D.int .u8 (((UInt8.ofNat z.toNat).toNat : Nat) : Int)] cs
 rw [e]; exact q1
end Go.Proofs.Ytpimgoacljakgaa
namespace Go.Proofs.Ytpimgoacljakgaa.fnIndicesLess
open Go Go.ChangeShapes Go.WideShapes Go.ChangeAt Go.RowKit
set_option linter.unusedSimpArgs false
set_option linter.unusedVariables false
theorem own : ownKnob Try.prog.godebug = none := by kernel_rfl
theorem laidOut : laidOutB Try.prog = true := by kernel_rfl
set_option maxRecDepth 100000 in
theorem contract (H : Type) (enc : TypeId × Value → H) (W : World) (base : Nat) (args : Array Value) (ds gs : List (DataW H)) (before : List MemPlace)
  (hval : ∀ (j : Nat) t v, Try.f7.params[j]? = some t → args[j]? = some v → Value.okWide Try.prog W .any base t v)
  (hW : DataW.Whole enc Try.prog Try.f7.params.toList Rows.fnIndicesLessSpec.vars false W args.toList ds gs before) (hk : Rows.uptoSmall H (ds ++ gs) = true) :
  Calls Try.prog 7 args W fun e W' => ∃ v, e = .returned v ∧ Rows.fnIndicesLessSpec.post enc Try.prog Try.f7 false true false false W args v W' := by
 have hb := bound_of hk
 have hW' := hW
 obtain ⟨p, q, hA0, hV, rfl, hfz, hnd⟩ := hW
 have hA : DataW.TrodAll enc Try.prog W 0 (fun _ => true) true Try.f7.params.toList args.toList ds p := hA0
 rw [Try.params7] at hA hval
 obtain ⟨v0, vs0, d0, ds0, p0, q0, hargs, rfl, rfl, h0, r0⟩ := trodAll_cons hA
 obtain ⟨rfl, rfl, rfl⟩ := trodAll_nil r0
 obtain rfl : args = #[v0] := by cases args; simp_all
 obtain ⟨rfl, rfl⟩ := trodVars_none hV
 simp only [List.append_nil, Rows.uptoBulkAll] at hb
 obtain ⟨b, a0, b0, _⟩ := arg_sl (k := 0) Try.underlying22 (by kernel_rfl) (fun _ => rfl) (decByte W) (hval 0 _ v0 rfl rfl) h0
 have ln_b : b.length ≤ 1000000000000 := by have := sumM_len (fun _ : UInt8 => 0) b; omega
 refine (law_calls (laws_FnIndicesLess_fn ln_b) (W := W) (args := #[v0]) (fun G T hG => ⟨rfl, fun i hi hv => ?_⟩)).mono ?_
 ·match i, hi with
  | 0, _ => exact a0 G T hG
 ·rintro e W' ⟨v, G', rfl, hr, hbelow⟩
  obtain rfl := hr.bool_true
  exact ⟨_, rfl, law_post hW' rfl rfl Try.underlying4 rfl laidOut (fun t ht => by
   simp only [Try.params7, List.mem_cons, List.not_mem_nil, or_false] at ht
   rcases ht with rfl <;> exact ⟨by kernel_rfl, of_decide_eq_true (by kernel_rfl)⟩) hbelow⟩
set_option maxRecDepth 100000 in
theorem lifted (os : Os) (started : os.Started) (H : Type) (enc : TypeId × Value → H) (F : Stop.Interp) :
  ReturnsInHanded {} Try.checked os 7 .any ((Rows.OpenSpec.upto Rows.fnIndicesLessSpec).pre6 enc Try.prog Try.f7 Rows.fnIndicesLessUptoRow.domain false) (((Rows.OpenSpec.upto Rows.fnIndicesLessSpec).at F).post enc Try.prog Try.f7 false true false false) := by
 refine returnsInHanded_of_cond (C := Try.checked) (s := Rows.OpenSpec.upto Rows.fnIndicesLessSpec) (k := Rows.uptoSmall) rfl own started (by kernel_rfl) Try.func7
  (OpenSpec.witness (enc := enc) (C := Try.checked) (s := Rows.OpenSpec.upto Rows.fnIndicesLessSpec) (k := Rows.uptoSmall) rfl false ⟨#[], #[.slice none 0 0], []⟩ 8 (by kernel_rfl) (by kernel_rfl) (by kernel_rfl)
   (x := ([.nil], [], [])) (by kernel_rfl) rfl (by kernel_rfl)) ?_
 intro W base args ds gs before hval hW _ hk _
 exact contract H enc W base args ds gs before hval hW hk
theorem over : Rows.fnIndicesLessUptoRow.holds Try.pinned (Rows.OpenSpec.upto Rows.fnIndicesLessSpec) :=
 OpenClaim.holds_of_cond 7 Try.f7 rfl rfl rfl rfl rfl rfl rfl ⟨rfl, rfl, rfl, rfl, rfl⟩ rfl rfl rfl rfl rfl (by kernel_rfl) Try.func7 (by kernel_rfl)
  (of_decide_eq_true (by kernel_rfl)) (by unfold Func.isWrapper; first | (rw [if_pos (by decide +kernel)]; kernel_rfl) | (rw [if_neg (by decide +kernel)]; exact ⟨rfl, rfl⟩))
  (fun os started H enc _ F => lifted os started H enc F)
theorem proved : Rows.FnIndicesLessUptoSaid := over
end Go.Proofs.Ytpimgoacljakgaa.fnIndicesLess
