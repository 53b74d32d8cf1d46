/-
  PLAIN LAWS and WALKS: which patterns a type has.
-/
import Derived.Test.YtadpcmcifbakoaaAmZ
import Derived.Test.YtadpcmcifbakoaaF15
import Derived.Test.YtadpcmcifbakoaaG1
namespace Go.Proofs.Ytadpcmcifbakoaa
open Go
set_option linter.unusedSimpArgs false
set_option linter.unusedVariables false
set_option maxRecDepth 100000
set_option maxHeartbeats 2000000
structure Vt where
 var : Int
 ty : Ty
 deriving DecidableEq, Inhabited
abbrev Vt.c (t : Vt) : List D := [.i t.var, .i t.ty.data, .i t.ty.index]
abbrev encVts (l : List Vt) : D := .sl (l.map Vt.c)
def vctors (w : List Data) (t : Ty) : List Int := if t.data = -1 then [] else ctorsOf w t
def typesP (w : List Data) (t : Ty) (p : Pat) : List Ty := if p.op = 4 then argsOf w t p.ctor else if p.op = 5 then [t, t] else if p.op = 6 then [t] else []
def ownP (w : List Data) (t : Ty) (p : Pat) : Bool := decide (((p.op = 2 ∨ p.op = 6) → 0 ≤ p.var ∧ p.var ≤ 5) ∧ (¬ (p.op = 2 ∨ p.op = 6) → p.var = 0) ∧ (p.op ≠ 3 → p.n = 0 ∧ p.m = 0) ∧ (p.op ≠ 4 → p.ctor = 0) ∧
 (p.op = 1 ∨ p.op = 2 ∨ p.op = 5 ∨ p.op = 6 ∨ (p.op = 3 ∧ t.data = -1 ∧ 0 ≤ p.n ∧ p.n ≤ p.m ∧ p.m ≤ 9) ∨ (p.op = 4 ∧ p.ctor ∈ vctors w t)))
def okP (w : List Data) (t : Ty) (p : Pat) : Bool := ownP w t p && decide (p.kids.length = (typesP w t p).length)
def shapeT (w : List Data) (t : Ty) (p : Pat) : List Ty := if p.op = 4 ∧ p.ctor ∉ vctors w t then [] else typesP w t p
def shapeP (w : List Data) : Nat → Ty → Pat → Bool
 | 0, _, _ => false
 | n + 1, t, p => ownP w t p && all2 (shapeP w n) (typesP w t p) p.kids
def nameP (t : Ty) (p : Pat) : List Vt := if p.op = 2 ∨ p.op = 6 then [⟨p.var, t⟩] else []
def varsL (f : Ty → Pat → List Vt) : List Ty → List Pat → List Vt
 | a :: r, b :: s => f a b ++ varsL f r s
 | _, _ => []
def vtypes (w : List Data) (t : Ty) (p : Pat) : List Ty := if p.op = 5 then (typesP w t p).take 1 else typesP w t p
def varsP (w : List Data) : Nat → Ty → Pat → List Vt
 | 0, _, _ => []
 | n + 1, t, p => nameP t p ++ varsL (varsP w n) (vtypes w t p) p.kids
def findV (l : List Vt) (n : Int) : Int := idxF (fun v => decide (v.var = n)) l 0
def alikeV (a b : List Vt) : Bool := a.all (fun v => decide (0 ≤ findV b v.var ∧ (nth b (findV b v.var).toNat).ty = v.ty)) && decide (a.length = b.length)
def distV (l : List Vt) : Bool := (List.range l.length).all fun (i : Nat) => decide (findV l (nth l i).var = (i : Int))
def sameV2 (a b : List Vt) : Bool := decide (a.length = b.length) && !a.any fun v => !decide (v ∈ b)
def nodupV (l : List Vt) : Bool := decide (l.map Vt.var).Nodup
def linP (w : List Data) : Nat → Ty → Pat → Bool
 | 0, _, _ => true
 | n + 1, t, p => all2 (linP w n) (typesP w t p) p.kids && (if p.op = 5 then alikeV (varsP w n t (nth p.kids 0)) (varsP w n t (nth p.kids 1)) else distV (varsP w (n + 1) t p))
theorem findV_spec (l : List Vt) (n : Int) : (findV l n = -1 ∧ ∀ v ∈ l, v.var ≠ n) ∨ ∃ k : Nat, findV l n = k ∧ k < l.length ∧ (nth l k).var = n ∧ ∀ j, j < k → (nth l j).var ≠ n := by
 have key : ∀ (l : List Vt) (i : Nat), (idxF (fun v => decide (v.var = n)) l i = -1 ∧ ∀ v ∈ l, v.var ≠ n) ∨ ∃ k : Nat, idxF (fun v => decide (v.var = n)) l i = ((i + k : Nat) : Int) ∧ k < l.length ∧ (nth l k).var = n ∧ ∀ j, j < k → (nth l j).var ≠ n := by
  intro l
  induction l with
  | nil => intro i; exact .inl ⟨rfl, by simp⟩
  | cons x r ih =>
   intro i
   unfold idxF
   by_cases h : x.var = n
   ·exact .inr ⟨0, by simp [h], by simp, by simpa [nth] using h, fun j hj => absurd hj (by omega)⟩
   ·rcases ih (i + 1) with ⟨h1, h2⟩ | ⟨k, h1, h2, h3, h4⟩
    ·exact .inl ⟨by simpa [h] using h1, fun v hv => by rcases List.mem_cons.1 hv with rfl | hv; exact h; exact h2 v hv⟩
    ·refine .inr ⟨k + 1, ?_, by simpa using h2, by simpa [nth] using h3, fun j hj => ?_⟩
     ·simp only [h, decide_false, Bool.false_eq_true, if_false]; rw [h1]; congr 1; omega
     ·cases j with
      | zero => simpa [nth] using h
      | succ j => simpa [nth] using h4 j (by omega)
 rcases key l 0 with h | ⟨k, h1, h2⟩
 ·exact .inl h
 ·exact .inr ⟨k, by unfold findV; simpa using h1, h2⟩
theorem nodup_iff {l : List Vt} : (l.map Vt.var).Nodup ↔ ∀ i j, i < j → j < l.length → (nth l i).var ≠ (nth l j).var := by
 unfold List.Nodup
 rw [List.pairwise_iff_getElem]
 constructor
 ·intro h i j hij hj
  have := h i j (by simp; omega) (by simpa using hj) hij
  simp only [List.getElem_map] at this
  rw [nth_eq (by omega), nth_eq hj]; exact this
 ·intro h i j hi hj hij
  simp only [List.length_map] at hi hj
  simp only [List.getElem_map]
  rw [← nth_eq hi, ← nth_eq hj]; exact h i j hij hj
theorem nodup_nth {l : List Vt} (h : (l.map Vt.var).Nodup) {i j : Nat} (hi : i < l.length) (hj : j < l.length) (he : (nth l i).var = (nth l j).var) : i = j := by
 have h1 := nodup_iff.1 h
 rcases Nat.lt_trichotomy i j with h2 | h2 | h2
 ·exact absurd he (h1 i j h2 hj)
 ·exact h2
 ·exact absurd he.symm (h1 j i h2 hi)
theorem distV_eq (l : List Vt) : distV l = nodupV l := by
 unfold nodupV
 by_cases h : (l.map Vt.var).Nodup
 ·rw [decide_eq_true h]
  refine all_range_true (fun i hi => decide_eq_true ?_)
  rcases findV_spec l (nth l i).var with ⟨_, h2⟩ | ⟨k, h1, h2, h3, h4⟩
  ·exact absurd rfl (h2 _ (nth_mem hi))
  ·rw [h1, nodup_nth h h2 hi h3]
 ·rw [decide_eq_false h]
  cases hd : distV l with
  | false => rfl
  | true =>
   refine absurd ?_ h
   rw [nodup_iff]
   intro i j hij hj he
   have h1 := List.all_eq_true.1 hd i (List.mem_range.2 (by omega))
   have h2 := List.all_eq_true.1 hd j (List.mem_range.2 hj)
   simp only [decide_eq_true_eq] at h1 h2
   rw [he, h2] at h1
   omega
theorem alike_same {a b : List Vt} (hb : nodupV b = true) : alikeV a b = sameV2 a b := by
 unfold nodupV at hb
 simp only [decide_eq_true_eq] at hb
 unfold alikeV sameV2
 rw [Bool.and_comm]
 congr 1
 rw [Bool.eq_iff_iff]
 simp only [List.all_eq_true, Bool.not_eq_true', List.any_eq_false, decide_eq_true_eq, Bool.not_eq_true, decide_eq_false_iff_not, Decidable.not_not]
 refine forall_congr' fun v => forall_congr' fun hv => ?_
 rcases findV_spec b v.var with ⟨h1, h2⟩ | ⟨k, h1, h2, h3, h4⟩
 ·rw [h1]
  exact ⟨fun h => absurd h.1 (by omega), fun h => absurd rfl (h2 v h)⟩
 ·rw [h1]
  simp only [Int.toNat_natCast]
  constructor
  ·rintro ⟨_, h⟩
   have : nth b k = v := by
    have e : ∀ x y : Vt, x.var = y.var → x.ty = y.ty → x = y := fun x y h1 h2 => by cases x; cases y; simp_all
    exact e _ _ h3 h
   rw [← this]; exact nth_mem h2
  ·intro h
   refine ⟨by omega, ?_⟩
   obtain ⟨j, hj, he⟩ := List.getElem_of_mem h
   have h5 : nth b j = v := by rw [nth_eq hj]; exact he
   have := nodup_nth hb h2 hj (by rw [h3, h5])
   rw [this, h5]
def scanK (g : Ty → Pat → Int → Option (List Vt) × Int) (or : Bool) : List Ty → List Pat → Nat → List Vt → Int → Option (List Vt) × Int
 | a :: r, b :: s, i, acc, c => match (g a b c).1 with
  | none => (none, (g a b c).2)
  | some l => if or = true ∧ i = 1 then (if sameV2 acc l = true then scanK g or r s (i + 1) acc (g a b c).2 else (none, (g a b c).2)) else scanK g or r s (i + 1) (acc ++ l) (g a b c).2
 | _, _, _, acc, c => (some acc, c)
def finV (r : Option (List Vt) × Int) : Option (List Vt) × Int := match r.1 with
 | none => r
 | some l => if nodupV l = true then r else (none, r.2)
def scanP (w : List Data) : Nat → Ty → Pat → Int → Option (List Vt) × Int
 | 0, _, _, c => (none, c + 1)
 | n + 1, t, p, c => if 60 < c + 1 then (none, c + 1) else if okP w t p = true then finV (scanK (scanP w n) (decide (p.op = 5)) (typesP w t p) p.kids 0 (nameP t p) (c + 1)) else (none, c + 1)
def wantP (w : List Data) (n : Nat) (t : Ty) (p : Pat) (c : Int) : Bool := shapeP w n t p && (decide (c + (p.size : Int) ≤ 60) && linP w n t p)
theorem lin_nodup (w : List Data) : ∀ (n : Nat) (t : Ty) (p : Pat), shapeP w n t p = true → linP w n t p = true → nodupV (varsP w n t p) = true
 | 0, t, p, h, _ => by simp [shapeP] at h
 | n + 1, t, p, h, hl => by
  by_cases h5 : p.op = 5
  ·simp only [shapeP, linP, Bool.and_eq_true, if_pos h5] at h hl
   have e1 : typesP w t p = [t, t] := by unfold typesP; rw [if_neg (by omega), if_pos h5]
   rw [e1] at h hl
   rcases hk : p.kids with _ | ⟨x, _ | ⟨y, _ | ⟨z, r⟩⟩⟩
   ·rw [hk] at h; simp [all2] at h
   ·rw [hk] at h; simp [all2] at h
   ·rw [hk] at h hl
    simp only [all2, Bool.and_eq_true, and_true] at h hl
    have := lin_nodup w n t x h.2.1 hl.1.1
    have e2 : varsP w (n + 1) t p = varsP w n t x := by
     simp only [varsP, nameP, vtypes, e1, hk, if_pos h5]
     rw [if_neg (by omega)]
     simp [varsL]
    rw [e2]; exact this
   ·rw [hk] at h; simp [all2] at h
  ·simp only [linP, if_neg h5, Bool.and_eq_true] at hl
   rw [← distV_eq]; exact hl.2
theorem scanK_eq {w : List Data} {n : Nat} (ih : ∀ t p c, ((scanP w n t p c).1 = if wantP w n t p c = true then some (varsP w n t p) else none) ∧ (wantP w n t p c = true → (scanP w n t p c).2 = c + p.size)) :
  ∀ (a : List Ty) (b : List Pat) (i : Nat) (acc : List Vt) (c : Int), a.length = b.length → c ≤ 60 →
   ((scanK (scanP w n) false a b i acc c).1 = if (all2 (shapeP w n) a b && (decide (c + (Pats.size b : Int) ≤ 60) && all2 (linP w n) a b)) = true then some (acc ++ varsL (varsP w n) a b) else none) ∧
   ((all2 (shapeP w n) a b && (decide (c + (Pats.size b : Int) ≤ 60) && all2 (linP w n) a b)) = true → (scanK (scanP w n) false a b i acc c).2 = c + Pats.size b)
 | [], [], i, acc, c, _, hc => by simp [scanK, all2, Pats.size, varsL, hc]
 | x :: r, y :: s, i, acc, c, hl, hc => by
  obtain ⟨h1, h2⟩ := ih x y c
  have hps : Pats.size (y :: s) = y.size + Pats.size s := rfl
  simp only [scanK, varsL]
  by_cases hw : wantP w n x y c = true
  ·have h3 := h2 hw
   rw [if_pos hw] at h1
   rw [h1]
   simp only [Bool.false_eq_true, false_and, if_false]
   have h4 := hw
   simp only [wantP, Bool.and_eq_true, decide_eq_true_eq] at h4
   obtain ⟨h5, h6⟩ := scanK_eq ih r s (i + 1) (acc ++ varsP w n x y) (scanP w n x y c).2 (by simpa using hl) (by omega)
   have e : (all2 (shapeP w n) (x :: r) (y :: s) && (decide (c + (Pats.size (y :: s) : Int) ≤ 60) && all2 (linP w n) (x :: r) (y :: s))) = (all2 (shapeP w n) r s && (decide ((scanP w n x y c).2 + (Pats.size s : Int) ≤ 60) && all2 (linP w n) r s)) := by
    rw [all2, all2, h4.1, h4.2.2, h3]
    simp only [Bool.true_and]
    congr 2
    exact decide_eq_decide.2 (by omega)
   rw [e]
   refine ⟨?_, fun hx => ?_⟩
   ·rw [h5, List.append_assoc]
   ·rw [h6 hx, h3]; omega
  ·rw [if_neg hw] at h1
   rw [h1]
   simp only
   have hf : ¬ (all2 (shapeP w n) (x :: r) (y :: s) && (decide (c + (Pats.size (y :: s) : Int) ≤ 60) && all2 (linP w n) (x :: r) (y :: s))) = true := fun h => by
    simp only [all2, Bool.and_eq_true, decide_eq_true_eq] at h
    refine hw ?_
    simp only [wantP, Bool.and_eq_true, decide_eq_true_eq]
    refine ⟨h.1.1, ?_, h.2.2.1⟩
    have := h.2.1
    omega
   rw [if_neg hf]
   exact ⟨rfl, fun h => absurd h hf⟩
 | [], _ :: _, _, _, _, hl, _ => by simp at hl
 | _ :: _, [], _, _, _, hl, _ => by simp at hl
theorem scanP_eq (w : List Data) : ∀ (n : Nat) (t : Ty) (p : Pat) (c : Int), ((scanP w n t p c).1 = if wantP w n t p c = true then some (varsP w n t p) else none) ∧ (wantP w n t p c = true → (scanP w n t p c).2 = c + p.size)
 | 0, t, p, c => by simp [scanP, wantP, shapeP]
 | n + 1, t, p, c => by
  have hsz := Pat.size_eq p
  unfold scanP
  by_cases h1 : 60 < c + 1
  ·have hf : ¬ wantP w (n + 1) t p c = true := fun h => by
    simp only [wantP, Bool.and_eq_true, decide_eq_true_eq] at h; omega
   rw [if_pos h1, if_neg hf]
   exact ⟨rfl, fun h => absurd h hf⟩
  rw [if_neg h1]
  by_cases h2 : okP w t p = true
  ·rw [if_pos h2]
   have h2' := h2
   simp only [okP, Bool.and_eq_true, decide_eq_true_eq] at h2'
   by_cases h5 : p.op = 5
   ·have e1 : typesP w t p = [t, t] := by unfold typesP; rw [if_neg (by omega), if_pos h5]
    have e3 : nameP t p = [] := by unfold nameP; rw [if_neg (by omega)]
    rw [e1] at h2'
    rcases hk : p.kids with _ | ⟨x, _ | ⟨y, _ | ⟨z, r⟩⟩⟩
    ·rw [hk] at h2'; simp at h2'
    ·rw [hk] at h2'; simp at h2'
    ·have e4 : varsP w (n + 1) t p = varsP w n t x := by
      simp only [varsP, vtypes, e1, hk, if_pos h5, e3]
      simp [varsL]
     have e5 : wantP w (n + 1) t p c = ((shapeP w n t x && shapeP w n t y) && (decide (c + 1 + (x.size : Int) + y.size ≤ 60) && ((linP w n t x && linP w n t y) && alikeV (varsP w n t x) (varsP w n t y)))) := by
      simp only [wantP, shapeP, linP, h2'.1, e1, hk, all2, if_pos h5, Bool.and_true, Bool.true_and, nth, List.getD_cons_zero, List.getD_cons_succ]
      congr 2
      refine decide_eq_decide.2 ?_
      rw [hsz, hk]; simp only [Pats.size]; push_cast; omega
     rw [e4, e5, e1, e3]
     obtain ⟨a1, a2⟩ := scanP_eq w n t x (c + 1)
     simp only [scanK, h5, decide_true]
     by_cases w1 : wantP w n t x (c + 1) = true
     ·have a3 := a2 w1
      rw [if_pos w1] at a1
      have b1 := w1
      simp only [wantP, Bool.and_eq_true, decide_eq_true_eq] at b1
      obtain ⟨d1, d2⟩ := scanP_eq w n t y (scanP w n t x (c + 1)).2
      rw [a1]
      simp only [true_and, Nat.zero_ne_one, if_false, List.nil_append]
      by_cases w2 : wantP w n t y (scanP w n t x (c + 1)).2 = true
      ·have d3 := d2 w2
       rw [if_pos w2] at d1
       have b2 := w2
       simp only [wantP, Bool.and_eq_true, decide_eq_true_eq] at b2
       rw [d1]
       simp only [Nat.zero_add, if_true]
       have n1 := lin_nodup w n t x b1.1 b1.2.2
       have n2 := lin_nodup w n t y b2.1 b2.2.2
       have e6 : ((shapeP w n t x && shapeP w n t y) && (decide (c + 1 + (x.size : Int) + y.size ≤ 60) && ((linP w n t x && linP w n t y) && alikeV (varsP w n t x) (varsP w n t y)))) = sameV2 (varsP w n t x) (varsP w n t y) := by
        rw [b1.1, b2.1, b1.2.2, b2.2.2, alike_same n2, decide_eq_true (by omega)]; simp
       rw [e6]
       by_cases hs : sameV2 (varsP w n t x) (varsP w n t y) = true
       ·rw [if_pos hs, if_pos hs]
        simp only [finV, n1, if_true]
        refine ⟨trivial, fun _ => ?_⟩
        rw [d3, a3, hsz, hk]; simp only [Pats.size]; push_cast; omega
       ·rw [if_neg hs, if_neg hs]
        simp only [finV]
        exact ⟨trivial, fun h => absurd h hs⟩
      ·rw [if_neg w2] at d1
       rw [d1]
       simp only [finV]
       have hf : ¬ ((shapeP w n t x && shapeP w n t y) && (decide (c + 1 + (x.size : Int) + y.size ≤ 60) && ((linP w n t x && linP w n t y) && alikeV (varsP w n t x) (varsP w n t y)))) = true := fun h => by
        simp only [Bool.and_eq_true, decide_eq_true_eq] at h
        refine w2 ?_
        simp only [wantP, Bool.and_eq_true, decide_eq_true_eq]
        exact ⟨h.1.2, by omega, h.2.2.1.2⟩
       rw [if_neg hf]
       exact ⟨rfl, fun h => absurd h hf⟩
     ·rw [if_neg w1] at a1
      rw [a1]
      simp only [finV]
      have hf : ¬ ((shapeP w n t x && shapeP w n t y) && (decide (c + 1 + (x.size : Int) + y.size ≤ 60) && ((linP w n t x && linP w n t y) && alikeV (varsP w n t x) (varsP w n t y)))) = true := fun h => by
       simp only [Bool.and_eq_true, decide_eq_true_eq] at h
       refine w1 ?_
       simp only [wantP, Bool.and_eq_true, decide_eq_true_eq]
       exact ⟨h.1.1, by omega, h.2.2.1.1⟩
      rw [if_neg hf]
      exact ⟨rfl, fun h => absurd h hf⟩
    ·rw [hk] at h2'; simp at h2'
   ·have e0 : (decide (p.op = 5)) = false := decide_eq_false h5
    rw [e0]
    obtain ⟨a1, a2⟩ := scanK_eq (fun t p c => scanP_eq w n t p c) (typesP w t p) p.kids 0 (nameP t p) (c + 1) h2'.2.symm (by omega)
    have e4 : varsP w (n + 1) t p = nameP t p ++ varsL (varsP w n) (typesP w t p) p.kids := by simp only [varsP, vtypes, if_neg h5]
    have e5 : wantP w (n + 1) t p c = ((all2 (shapeP w n) (typesP w t p) p.kids && (decide (c + 1 + (Pats.size p.kids : Int) ≤ 60) && all2 (linP w n) (typesP w t p) p.kids)) && nodupV (varsP w (n + 1) t p)) := by
     have : decide (c + (p.size : Int) ≤ 60) = decide (c + 1 + (Pats.size p.kids : Int) ≤ 60) := decide_eq_decide.2 (by omega)
     simp only [wantP, shapeP, linP, h2'.1, if_neg h5, Bool.true_and, distV_eq, this, Bool.and_assoc]
    rw [e5]
    by_cases hw : (all2 (shapeP w n) (typesP w t p) p.kids && (decide (c + 1 + (Pats.size p.kids : Int) ≤ 60) && all2 (linP w n) (typesP w t p) p.kids)) = true
    ·rw [if_pos hw, ← e4] at a1
     have a3 := a2 hw
     rw [hw, Bool.true_and]
     unfold finV
     rw [a1]
     by_cases hn : nodupV (varsP w (n + 1) t p) = true
     ·simp only [hn, if_true]
      exact ⟨a1, fun _ => by rw [a3]; omega⟩
     ·simp only [hn, Bool.false_eq_true, if_false]
      exact ⟨trivial, fun h => absurd h (by simp)⟩
    ·rw [if_neg hw] at a1
     have hw' : (all2 (shapeP w n) (typesP w t p) p.kids && (decide (c + 1 + (Pats.size p.kids : Int) ≤ 60) && all2 (linP w n) (typesP w t p) p.kids)) = false := by simpa using hw
     rw [hw', Bool.false_and]
     unfold finV
     rw [a1]
     simp [a1]
  ·have hf : ¬ wantP w (n + 1) t p c = true := fun h => by
    simp only [wantP, shapeP, Bool.and_eq_true, decide_eq_true_eq] at h
    refine h2 ?_
    simp only [okP, Bool.and_eq_true, decide_eq_true_eq]
    refine ⟨h.1.1, ?_⟩
    by_cases hl : (typesP w t p).length = p.kids.length
    ·exact hl.symm
    ·have := all2_len (f := shapeP w n) hl
     rw [this] at h; simp at h
   rw [if_neg h2, if_neg hf]
   exact ⟨rfl, fun h => absurd h hf⟩
mutual
def cntP (m : Int) : Pat → Int
 | .mk _ _ _ _ _ ks => cntPL m 1 ks
def cntPL (m n : Int) : List Pat → Int
 | [] => n
 | k :: r => if n ≤ m then cntPL m (n + cntP (m - n) k) r else n
end
theorem cntP_eq (m : Int) (v : Pat) : cntP m v = cntPL m 1 v.kids := by cases v; rfl
theorem cntPL_stop {m n : Int} {l : List Pat} (h : ¬ n ≤ m) : cntPL m n l = n := by cases l <;> simp [cntPL, h]
mutual
theorem cntP_le : ∀ (v : Pat) (m : Int), 1 ≤ cntP m v ∧ cntP m v ≤ v.size
 | .mk _ _ _ _ _ ks, m => by
  have := cntPL_le ks m 1 (by omega)
  simp only [cntP, Pat.size]; push_cast; omega
theorem cntPL_le : ∀ (l : List Pat) (m n : Int), 1 ≤ n → 1 ≤ cntPL m n l ∧ cntPL m n l ≤ n + Pats.size l
 | [], m, n, h => by simp [cntPL, Pats.size]; omega
 | k :: r, m, n, h => by
  have h1 := cntP_le k (m - n)
  have h2 := cntPL_le r m (n + cntP (m - n) k) (by omega)
  simp only [cntPL, Pats.size]
  split
  ·push_cast; omega
  ·push_cast; omega
end
mutual
theorem cntP_iff : ∀ (v : Pat) (m : Int), (cntP m v ≤ m ↔ (v.size : Int) ≤ m) ∧ (cntP m v ≤ m → cntP m v = v.size)
 | .mk _ _ _ _ _ ks, m => by
  have := cntPL_iff ks m 1
  simp only [cntP, Pat.size]; push_cast; exact this
theorem cntPL_iff : ∀ (l : List Pat) (m n : Int), (cntPL m n l ≤ m ↔ n + (Pats.size l : Int) ≤ m) ∧ (cntPL m n l ≤ m → cntPL m n l = n + Pats.size l)
 | [], m, n => by simp [cntPL, Pats.size]
 | k :: r, m, n => by
  have h1 := cntP_iff k (m - n)
  have h2 := cntPL_iff r m (n + cntP (m - n) k)
  have h3 := cntPL_le r m (n + cntP (m - n) k)
  have h4 := cntP_le k (m - n)
  simp only [cntPL, Pats.size]
  push_cast
  by_cases hn : n ≤ m
  ·rw [if_pos hn]
   by_cases h5 : cntP (m - n) k ≤ m - n
   ·have h6 := h1.2 h5
    rw [h6] at h2 ⊢
    constructor
    ·rw [h2.1]; constructor <;> intro h <;> omega
    ·intro h; rw [h2.2 h]; omega
   ·have h7 : ¬ (k.size : Int) ≤ m - n := fun h => h5 (h1.1.2 h)
    have h8 : ¬ n + cntP (m - n) k ≤ m := by omega
    rw [cntPL_stop h8]
    constructor
    ·constructor <;> intro h <;> omega
    ·intro h; omega
  ·rw [if_neg hn]
   constructor
   ·constructor <;> intro h <;> omega
   ·intro h; omega
end
theorem Pats.size_split {pre rest l : List Pat} {y : Pat} (h : pre ++ y :: rest = l) : Pats.size l = Pats.size pre + y.size + Pats.size rest := by
 subst h
 induction pre with
 | nil => simp [Pats.size]
 | cons x r ih => simp only [List.cons_append, Pats.size, ih]; omega
theorem pnth_size {l : List Pat} {i : Nat} (h : i < l.length) : (nth l i).size ≤ Pats.size l := Pats.size_mem (nth_mem h)
theorem psize_drop {l : List Pat} {i : Nat} (h : i < l.length) : Pats.size (l.drop i) = (nth l i).size + Pats.size (l.drop (i + 1)) := by
 rw [drop_nth h]; rfl
theorem spec_l3Count_fn : ∀ (n : Nat) {v : Pat} {m : Int}, v.size ≤ n → v.size ≤ 1000000000000 → v.ok → 0 ≤ m → m ≤ 1000000000000 → FnD Try.prog 107 [.agg [.d (.i v.op), .d (.i v.ctor), .d (.i v.n), .d (.i v.m), .d (.i v.var), .d (encPats v.kids)], .d (.i m)] [] (.d (.i (cntP m v))) []
 | 0, v, m, h, _, _, _, _ => by rw [Pat.size_eq] at h; omega
 | n + 1, v, m, h, hb, hok, m0, m1 => by
  rw [Pat.size_eq] at h hb
  rw [Pat.ok_iff] at hok
  rw [cntP_eq]
  refine Fn.body (fn := Try.f107) (n := 31) rfl rfl rfl rfl rfl (fun w0 F0 own kept hk => ?_)
  refine sr ?_
  refine Walk.box (id := 3002) .none rfl rfl rfl rfl rfl rfl rfl ?_
  refine asg ?_
  refine tv ?_
  refine sr ?_
  refine asg ?_
  refine tv ?_
  refine CWp.seq ?_
  refine sr ?_
  refine asg ?_
  refine tv ?_
  refine CWp.block ?_
  refine CWp.loopX (ι := Nat × Int) hk (fun x => [(6, .d (.i (x.1 : Int))), (5, .d (.i x.2))]) [7, 8, 9, 10, 11, 12, 13, 14, 15, 16, 17, 18, 19, 20, 21, 22, 23, 24, 25, 26, 27, 28, 29] (fun x => []) (fun x => x.1 ≤ v.kids.length ∧ cntPL m x.2 (v.kids.drop x.1) = cntPL m 1 v.kids ∧ 1 ≤ x.2 ∧ x.2 + Pats.size (v.kids.drop x.1) ≤ 1 + Pats.size v.kids) (fun x => v.kids.length - x.1) (0, 1) ⟨by simp, by simp, by simp, by simp⟩ ⟨⟨_, rfl, (LeA.eqi (by first | rfl | (simp; done) | (dsimp only; omega)))⟩, ⟨⟨_, rfl, (LeA.eqi (by first | rfl | (simp; done) | (dsimp only; omega)))⟩, trivial⟩⟩ trivial (fun x => rfl) (fun x hg1 => ?_)
  refine CWp.seq ?_
  refine sr ?_
  refine mv ?_
  refine Walk.fieldB fd70_5 .none rfl rfl ?_
  refine Walk.loadB ty68 .none rfl rfl rfl rfl ?_
  refine Walk.len sl68 .none rfl rfl ?_
  refine Walk.ltI .none rfl rfl rfl ?_
  refine mv ?_
  refine sp 12 ?_ ?_
  ·intro h1; have ⟨h1p, h1s⟩ := dup h1; try simp only [Q5] at h1s
   try simp only [Q, Pat.cs_len] at h1p
   refine Walk.move (.some rfl rfl h1) rfl rfl ?_
   refine Walk.move (.some rfl rfl h1) rfl rfl ?_
   refine Walk.leI (.some rfl rfl h1) rfl rfl rfl ?_
   refine Walk.pickT .none rfl rfl h1 rfl ?_
   refine tv ?_
   refine cd ?_ ?_
   ·intro h2; have ⟨h2p, h2s⟩ := dup h2; try simp only [Q5] at h2s
    try simp only [Q, Pat.cs_len] at h2p
    refine CWp.skip ?_
    refine CWp.seq ?_
    refine CWp.block ?_
    refine CWp.region rfl ?_
    refine mv ?_
    refine Walk.fieldB fd70_5 .none rfl rfl ?_
    refine Walk.loadB ty68 .none rfl rfl rfl rfl ?_
    refine mv ?_
    refine Walk.idx sl68 .none rfl rfl rfl rfl (pats_at (by omega)) rfl ?_
    refine Walk.loadPA ty70 .none rfl rfl rfl rfl ?_
    refine mv ?_
    refine mv ?_
    refine Walk.subI .none rfl rfl rfl (by first | (constructor <;> omega) | (have hz := cntP_le (nth v.kids x.1) (m - x.2); have hs := psize_drop (l := v.kids) (i := x.1) (by omega); constructor <;> omega) | (constructor <;> simp [Pat.cs_len] <;> omega)) ?_
    refine Walk.call (cr := []) cal107 (spec_l3Count_fn n (v := nth v.kids x.1) (by have := pnth_size (l := v.kids) (i := x.1) (by omega); omega) (by have := pnth_size (l := v.kids) (i := x.1) (by omega); omega) (Pats.ok_mem hok.2 _ (nth_mem (by omega))) (by omega) (by omega)) rfl .none rfl rfl (LeL.refl _) trivial rfl rfl rfl ?_
    refine Walk.addI .none rfl rfl rfl (by first | (constructor <;> omega) | (have hz := cntP_le (nth v.kids x.1) (m - x.2); have hs := psize_drop (l := v.kids) (i := x.1) (by omega); constructor <;> omega) | (constructor <;> simp [Pat.cs_len] <;> omega)) ?_
    refine asg ?_
    refine tv ?_
    refine CWp.region rfl ?_
    refine mv ?_
    refine Walk.addI .none rfl rfl rfl (by first | (constructor <;> omega) | (have hz := cntP_le (nth v.kids x.1) (m - x.2); have hs := psize_drop (l := v.kids) (i := x.1) (by omega); constructor <;> omega) | (constructor <;> simp [Pat.cs_len] <;> omega)) ?_
    refine asg ?_
    refine tv ?_
    refine ⟨(x.1 + 1, x.2 + cntP (m - x.2) (nth v.kids x.1)), (by
        have hz := cntP_le (nth v.kids x.1) (m - x.2)
        have hs := psize_drop (l := v.kids) (i := x.1) (by omega)
        refine ⟨by dsimp only; omega, ?_, by dsimp only; omega, by dsimp only; omega⟩
        rw [← hg1.2.1, drop_nth (l := v.kids) (i := x.1) (by omega), cntPL, if_pos (by omega)]), (by dsimp only; omega), Sub.x (by kernel_rfl) (by kernel_rfl) ⟨⟨_, rfl, (LeA.eqi (by first | rfl | (simp; done) | (dsimp only; omega)))⟩, ⟨⟨_, rfl, (LeA.eqi (by first | rfl | (simp; done) | (dsimp only; omega)))⟩, trivial⟩⟩ (by kernel_rfl) (by kernel_rfl) trivial⟩
   ·intro h2; have ⟨h2p, h2s⟩ := dup h2; try simp only [Q5] at h2s
    try simp only [Q, Pat.cs_len] at h2p
    refine CWp.exit ?_
    refine sr ?_
    refine mv ?_
    refine asg ?_
    refine tv ?_
    refine CWp.ret ?_
    refine ⟨_, _, [], (.cons (.tmp rfl) .nil), (.eqd ?_), ⟨rfl, rfl⟩, HSub.nil, noBox⟩
    all_goals (refine congrArg D.i ?_; rw [← hg1.2.1]; first | (rw [List.drop_eq_nil_of_le (by omega)]; rfl) | (rw [cntPL_stop (by omega)]))
  ·intro h1; have ⟨h1p, h1s⟩ := dup h1; try simp only [Q5] at h1s
   try simp only [Q, Pat.cs_len] at h1p
   refine ps h1 ?_
   refine ps h1 ?_
   refine ps h1 ?_
   refine Walk.pickF .none rfl rfl h1 rfl ?_
   refine tv ?_
   refine cd ?_ ?_
   ·exact fun h => absurd h (by simp)
   ·intro h3; have ⟨h3p, h3s⟩ := dup h3; try simp only [Q5] at h3s
    try simp only [Q, Pat.cs_len] at h3p
    refine CWp.exit ?_
    refine sr ?_
    refine mv ?_
    refine asg ?_
    refine tv ?_
    refine CWp.ret ?_
    refine ⟨_, _, [], (.cons (.tmp rfl) .nil), (.eqd ?_), ⟨rfl, rfl⟩, HSub.nil, noBox⟩
    all_goals (refine congrArg D.i ?_; rw [← hg1.2.1]; first | (rw [List.drop_eq_nil_of_le (by omega)]; rfl) | (rw [cntPL_stop (by omega)]))
end Go.Proofs.Ytadpcmcifbakoaa
