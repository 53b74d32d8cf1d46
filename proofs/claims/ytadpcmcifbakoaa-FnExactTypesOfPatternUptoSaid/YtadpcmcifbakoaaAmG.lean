/-
  THE ABSTRACT WALK, part G: structs and slices that are built; what new memory leaves as it was.
-/
import Derived.Test.YtadpcmcifbakoaaAmF
import Derived.Great.BuildSlice
import Derived.Laws.CopyRow
namespace Go.Proofs.Ytadpcmcifbakoaa
open Go
set_option linter.unusedSimpArgs false
set_option linter.unusedVariables false
structure AllR (G : Gh) (T : TokF) (w : World) (cs : List AV) (vs : Array Value) : Prop where
 size : vs.size = cs.length
 rel : ∀ i (hi : i < cs.length) (hv : i < vs.size), RelA G T w cs[i] vs[i]
structure PreR (G : Gh) (T : TokF) (w : World) (cs : List AV) (vs : Array Value) : Prop where
 size : cs.length ≤ vs.size
 rel : ∀ i (hi : i < cs.length) (hv : i < vs.size), RelA G T w cs[i] vs[i]
theorem AllR.pre {G : Gh} {T : TokF} {w : World} {cs : List AV} {vs : Array Value} (h : AllR G T w cs vs) : PreR G T w cs vs := ⟨by rw [h.size]; exact Nat.le_refl _, h.rel⟩
def cellsA : AV → Option (List AV)
 | .agg cs => some cs
 | .tup _ => none
 | .any => none
 | v => some [v]
theorem cellsA_rel {G : Gh} {T : TokF} {w : World} {x : AV} {v : Value} {cs : List AV} (h : RelA G T w x v) (hc : cellsA x = some cs) : AllR G T w cs v.cells := by
 have one : ∀ u : Value, u.cells = #[u] → RelA G T w x u → cs = [x] → AllR G T w cs u.cells := fun u hu hr hx => by
  subst hx
  rw [hu]
  refine ⟨rfl, fun i hi hv => ?_⟩
  have : i = 0 := by simp at hi; exact hi
  subst this
  exact hr
 cases h with
 | d h =>
  simp only [cellsA, Option.some.injEq] at hc
  refine one _ ?_ (.d h) hc.symm
  cases h <;> rfl
 | gl h ht =>
  simp only [cellsA, Option.some.injEq] at hc
  refine one _ ?_ (.gl h ht) hc.symm
  cases h <;> rfl
 | gv hv ht => simp only [cellsA, Option.some.injEq] at hc; exact one _ (by obtain ⟨a, c, rfl⟩ := hv; rfl) (.gv hv ht) hc.symm
 | gt hv ht => simp only [cellsA, Option.some.injEq] at hc; exact one _ (by obtain ⟨a, c, rfl⟩ := hv; rfl) (.gt hv ht) hc.symm
 | ref h hT => simp only [cellsA, Option.some.injEq] at hc; exact one _ rfl (.ref h hT) hc.symm
 | ms h hT hcap => simp only [cellsA, Option.some.injEq] at hc; exact one _ rfl (.ms h hT hcap) hc.symm
 | mo h hT hcap ho => simp only [cellsA, Option.some.injEq] at hc; exact one _ rfl (.mo h hT hcap ho) hc.symm
 | mapr h hT => simp only [cellsA, Option.some.injEq] at hc; exact one _ rfl (.mapr h hT) hc.symm
 | fn hn h => simp only [cellsA, Option.some.injEq] at hc; exact one _ rfl (.fn hn h) hc.symm
 | nils => simp only [cellsA, Option.some.injEq] at hc; exact one _ rfl .nils hc.symm
 | sn h hn => simp only [cellsA, Option.some.injEq] at hc; exact one _ (by obtain ⟨a, n, c, rfl⟩ := hn; rfl) (.sn h hn) hc.symm
 | agg hn h => simp only [cellsA, Option.some.injEq] at hc; subst hc; exact ⟨hn, h⟩
 | tup hn h => simp [cellsA] at hc
 | any v => simp [cellsA] at hc
def putC {α : Type} : List α → Nat → List α → Option (List α)
 | cs, _, [] => some cs
 | [], _, _ :: _ => none
 | _ :: r, 0, v :: vs => match putC r 0 vs with | some l => some (v :: l) | none => none
 | x :: r, o + 1, v :: vs => match putC r o (v :: vs) with | some l => some (x :: l) | none => none
theorem putC_spec {α : Type} : ∀ {cs : List α} {o : Nat} {vs l : List α}, putC cs o vs = some l → l.length = cs.length ∧ (vs = [] ∨ o + vs.length ≤ cs.length) ∧
  ∀ i, l[i]? = if o ≤ i ∧ i < o + vs.length then vs[i - o]? else cs[i]?
 | cs, o, [], l, h => by
  have : l = cs := by cases cs <;> simp only [putC, Option.some.injEq] at h <;> exact h.symm
  subst this
  refine ⟨rfl, .inl rfl, fun i => ?_⟩
  rw [if_neg (by simp only [List.length_nil]; omega)]
 | [], o, v :: vs, l, h => by simp [putC] at h
 | x :: r, 0, v :: vs, l, h => by
  simp only [putC] at h
  cases hr : putC r 0 vs with
  | none => simp [hr] at h
  | some l' =>
   simp only [hr, Option.some.injEq] at h
   subst h
   obtain ⟨h1, h2, h3⟩ := putC_spec hr
   refine ⟨by simp [h1], .inr ?_, fun i => ?_⟩
   ·simp only [List.length_cons]
    rcases h2 with rfl | h2
    ·simp
    ·omega
   ·cases i with
    | zero => simp
    | succ i =>
     have := h3 i
     simp only [Nat.zero_le, true_and, Nat.zero_add, Nat.sub_zero, List.length_cons, List.getElem?_cons_succ] at this ⊢
     rw [this]
     by_cases hi : i < vs.length
     ·rw [if_pos hi, if_pos (by omega)]
     ·rw [if_neg hi, if_neg (by omega)]
 | x :: r, o + 1, v :: vs, l, h => by
  simp only [putC] at h
  cases hr : putC r o (v :: vs) with
  | none => simp [hr] at h
  | some l' =>
   simp only [hr, Option.some.injEq] at h
   subst h
   obtain ⟨h1, h2, h3⟩ := putC_spec hr
   refine ⟨by simp [h1], .inr ?_, fun i => ?_⟩
   ·simp only [List.length_cons]
    rcases h2 with h2 | h2
    ·cases h2
    ·simp only [List.length_cons] at h2; omega
   ·cases i with
    | zero => rw [if_neg (by omega)]; simp
    | succ i =>
     have := h3 i
     simp only [List.getElem?_cons_succ]
     rw [this]
     by_cases hi : o ≤ i ∧ i < o + (v :: vs).length
     ·rw [if_pos hi, if_pos (by omega), show i + 1 - (o + 1) = i - o by omega]
     ·rw [if_neg hi, if_neg (by omega)]
theorem AllR.put {G : Gh} {T : TokF} {w : World} {cs vs l : List AV} {us xs : Array Value} {o : Nat} (h : AllR G T w cs us) (hv : AllR G T w vs xs) (hp : putC cs o vs = some l)
  {ys : Array Value} (hs : ys.size = us.size) (hy : ∀ i, ys[i]? = if o ≤ i ∧ i < o + xs.size then xs[i - o]? else us[i]?) : AllR G T w l ys := by
 obtain ⟨h1, h2, h3⟩ := putC_spec hp
 refine ⟨by rw [hs, h.size, h1], fun i hi hvi => ?_⟩
 have e1 := h3 i
 have e2 := hy i
 rw [hv.size] at e2
 rw [List.getElem?_eq_getElem hi] at e1
 rw [Array.getElem?_eq_getElem hvi] at e2
 by_cases hc : o ≤ i ∧ i < o + vs.length
 ·rw [if_pos hc] at e1 e2
  have hlt : i - o < vs.length := by omega
  have hlt' : i - o < xs.size := by rw [hv.size]; exact hlt
  rw [List.getElem?_eq_getElem hlt] at e1
  rw [Array.getElem?_eq_getElem hlt'] at e2
  have := hv.rel (i - o) hlt hlt'
  rw [Option.some.inj e1, Option.some.inj e2]
  exact this
 ·rw [if_neg hc] at e1 e2
  have hlt : i < cs.length := by omega
  have hlt' : i < us.size := by rw [h.size]; exact hlt
  rw [List.getElem?_eq_getElem hlt] at e1
  rw [Array.getElem?_eq_getElem hlt'] at e2
  rw [Option.some.inj e1, Option.some.inj e2]
  exact h.rel i hlt hlt'
theorem PreR.put {G : Gh} {T : TokF} {w : World} {cs vs l : List AV} {us xs : Array Value} {o : Nat} (h : PreR G T w cs us) (hv : AllR G T w vs xs) (hp : putC cs o vs = some l)
  {ys : Array Value} (hs : ys.size = us.size) (hy : ∀ i, ys[i]? = if o ≤ i ∧ i < o + xs.size then xs[i - o]? else us[i]?) : PreR G T w l ys := by
 obtain ⟨h1, h2, h3⟩ := putC_spec hp
 refine ⟨by rw [hs, h1]; exact h.size, fun i hi hvi => ?_⟩
 have e1 := h3 i
 have e2 := hy i
 rw [hv.size] at e2
 rw [List.getElem?_eq_getElem hi] at e1
 rw [Array.getElem?_eq_getElem hvi] at e2
 by_cases hc : o ≤ i ∧ i < o + vs.length
 ·rw [if_pos hc] at e1 e2
  have hlt : i - o < vs.length := by omega
  have hlt' : i - o < xs.size := by rw [hv.size]; exact hlt
  rw [List.getElem?_eq_getElem hlt] at e1
  rw [Array.getElem?_eq_getElem hlt'] at e2
  have := hv.rel (i - o) hlt hlt'
  rw [Option.some.inj e1, Option.some.inj e2]
  exact this
 ·rw [if_neg hc] at e1 e2
  have hlt : i < cs.length := by omega
  have hlt' : i < us.size := Nat.lt_of_lt_of_le hlt h.size
  rw [List.getElem?_eq_getElem hlt] at e1
  rw [Array.getElem?_eq_getElem hlt'] at e2
  rw [Option.some.inj e1, Option.some.inj e2]
  exact h.rel i hlt hlt'
theorem fold_set (off : Nat) : ∀ (vs : List Value) (j : Nat) (cells : Array Value), off + j + vs.length ≤ cells.size →
  let r := (vs.zipIdx j).foldl (fun cs (p : Value × Nat) => cs.setIfInBounds (off + p.2) p.1) cells
  r.size = cells.size ∧ ∀ i, r[i]? = if off + j ≤ i ∧ i < off + j + vs.length then vs[i - (off + j)]? else cells[i]?
 | [], j, cells, h => by
  simp only [List.zipIdx_nil, List.foldl_nil, List.length_nil, true_and]
  intro i
  rw [if_neg (by omega)]
 | v :: vs, j, cells, h => by
  simp only [List.length_cons] at h
  have ih := fold_set off vs (j + 1) (cells.setIfInBounds (off + j) v) (by simp; omega)
  simp only [List.zipIdx_cons, List.foldl_cons] at ih ⊢
  refine ⟨by rw [ih.1]; simp, fun i => ?_⟩
  rw [ih.2 i]
  simp only [List.length_cons]
  by_cases h1 : off + (j + 1) ≤ i ∧ i < off + (j + 1) + vs.length
  ·rw [if_pos h1, if_pos (by omega), show i - (off + j) = (i - (off + (j + 1))) + 1 by omega]
   simp
  ·rw [if_neg h1]
   by_cases h2 : i = off + j
   ·subst h2
    rw [if_pos (by omega)]
    simp [show off + j < cells.size by omega]
   ·rw [if_neg (by omega)]
    simp [Ne.symm h2]
def fillA (place : Nat → Option (Nat × Nat)) : List AV → List (Nat × AV) → Option (List AV)
 | cells, [] => some cells
 | cells, (i, v) :: rest => match place i, cellsA v with
  | some (off, size), some (v0 :: vs) => bif Nat.beq (vs.length + 1) size then match putC cells off (v0 :: vs) with
    | some l => fillA place l rest
    | none => none
   else none
  | _, _ => none
theorem fillA_spec {G : Gh} {T : TokF} {w : World} {place : Nat → Option (Nat × Nat)} : ∀ (parts : List (Nat × AV)) (pv : List (Nat × Value)) (cells l : List AV) (cv : Array Value),
  fillA place cells parts = some l → AllR G T w cells cv → pv.length = parts.length → (∀ i (h1 : i < parts.length) (h2 : i < pv.length), pv[i].1 = parts[i].1 ∧ RelA G T w parts[i].2 pv[i].2) →
  ∃ lv, Instr.fill place cv pv = some lv ∧ AllR G T w l lv
 | [], pv, cells, l, cv, h, hc, hl, _ => by
  have : pv = [] := List.length_eq_zero_iff.1 hl
  subst this
  simp only [fillA, Option.some.injEq] at h
  subst h
  exact ⟨cv, rfl, hc⟩
 | (i, v) :: rest, [], cells, l, cv, h, hc, hl, _ => by simp at hl
 | (i, v) :: rest, (i', u) :: pr, cells, l, cv, h, hc, hl, hr => by
  obtain ⟨e1, e2⟩ := hr 0 (by simp) (by simp)
  simp only [List.getElem_cons_zero] at e1 e2
  subst e1
  simp only [fillA] at h
  cases hp : place i' with
  | none => simp [hp] at h
  | some os =>
   obtain ⟨off, size⟩ := os
   cases hcv : cellsA v with
   | none => simp [hp, hcv] at h
   | some vs' =>
    cases vs' with
    | nil => simp [hp, hcv] at h
    | cons v0 vs =>
     simp only [hp, hcv] at h
     cases hb : Nat.beq (vs.length + 1) size with
     | false => simp [hb] at h
     | true =>
      simp only [hb, cond_true] at h
      have hsz : (v0 :: vs).length = size := Nat.eq_of_beq_eq_true hb
      cases hpc : putC cells off (v0 :: vs) with
      | none => simp [hpc] at h
      | some l' =>
       simp only [hpc] at h
       have hu := cellsA_rel e2 hcv
       obtain ⟨h1, h2, h3⟩ := putC_spec hpc
       simp only [Instr.fill, hp]
       have h2' : off + (v0 :: vs).length ≤ cells.length := h2.resolve_left (by simp)
       have hs1 := hu.size
       have hs2 := hc.size
       have hf := fold_set off u.cells.toList 0 cv (by simp only [Array.length_toList]; omega)
       simp only [Nat.add_zero] at hf
       have hal : AllR G T w l' ((u.cells.toList.zipIdx 0).foldl (fun cs (p : Value × Nat) => cs.setIfInBounds (off + p.2) p.1) cv) :=
        hc.put hu hpc hf.1 (fun i => by rw [hf.2 i]; simp)
       obtain ⟨lv, hlv, hal'⟩ := fillA_spec rest pr l' l _ h hal (by simpa using hl) (fun i h1 h2 => by
        have := hr (i + 1) (by simpa using h1) (by simpa using h2)
        simpa only [List.getElem_cons_succ] using this)
       refine ⟨lv, ?_, hal'⟩
       rw [if_neg (by simp only [Bool.or_eq_true, decide_eq_true_eq, not_or]; omega)]
       rw [← hlv]
       congr 1
       rw [← Array.foldl_toList]
       simp
end Go.Proofs.Ytadpcmcifbakoaa
