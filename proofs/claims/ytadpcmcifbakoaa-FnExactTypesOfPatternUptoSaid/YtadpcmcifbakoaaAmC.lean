/-
  THE ABSTRACT WALK, part C: a region whose order is drawn. One walk in the order of the text serves every order that the edges allow, if what two operations share is ordered by the edges.
-/
import Derived.Test.YtadpcmcifbakoaaAmB
namespace Go.Proofs.Ytadpcmcifbakoaa
open Go
set_option linter.unusedSimpArgs false
set_option linter.unusedVariables false
structure PR where
 pre : List (Nat × AV)
 prh : List (Nat × Res)
 cr : List Nat
 u : Upd
def PR.rcd (p : PR) : Rec := mkRec p.pre p.prh p.cr p.u
def fs (sel : Nat → Bool) : Nat → List PR → St → St
 | _, [], s => s
 | i, p :: r, s => fs sel (i + 1) r (if sel i then s.app p.u else s)
structure OpFacts (c : Ctx) (all : Array Oper) (o : Oper) (p : PR) (s : St) : Prop where
 rule : LRule c all o p.pre p.prh p.cr p.u
 pre : ∀ q, q ∈ p.pre → getE s.env q.1 = some q.2
 prh : ∀ q, q ∈ p.prh → getH s.hp q.1 = some q.2
 cr : ∀ id, id ∈ p.cr → getH s.hp id = none ∧ noOcc id s
theorem walk_data {c : Ctx} {all : Array Oper} {chk : List Rec → Prop} {Q : St → Prop} : ∀ (os : List Oper) (recs : List Rec) (s : St), Walk c all chk os recs s Q →
  ∃ ps : List PR, ps.length = os.length ∧ chk ((ps.map PR.rcd).reverse ++ recs) ∧ Q (fs (fun _ => true) 0 ps s) ∧
   ∀ i o p, os[i]? = some o → ps[i]? = some p → OpFacts c all o p (fs (fun j => decide (j < i)) 0 ps s)
 | [], recs, s, h => ⟨[], rfl, by simpa using h.1, h.2, fun i o p h1 _ => by simp at h1⟩
 | o :: os, recs, s, h => by
  obtain ⟨pre, prh, cr, u, hrule, h1, h2, h3, hrest⟩ := h
  obtain ⟨ps, hl, hc, hq, hf⟩ := walk_data os _ _ hrest
  have sh : ∀ (sel : Nat → Bool) (i : Nat) (ps : List PR) (s : St), fs sel (i + 1) ps s = fs (fun j => sel (j + 1)) i ps s := by
   intro sel i ps
   induction ps generalizing i with
   | nil => intro s; rfl
   | cons p r ih => intro s; simp only [fs]; exact ih _ _
  refine ⟨⟨pre, prh, cr, u⟩ :: ps, by simp [hl], ?_, ?_, ?_⟩
  ·simpa [PR.rcd] using hc
  ·simp only [fs, if_true]
   rw [sh]
   exact hq
  ·intro i o' p' ho hp
   cases i with
   | zero =>
    simp only [List.getElem?_cons_zero, Option.some.injEq] at ho hp
    subst ho hp
    have hz : ∀ (i : Nat) (ps : List PR) (s : St), fs (fun j => decide (j < 0)) i ps s = s := by
     intro i ps
     induction ps generalizing i with
     | nil => intro s; rfl
     | cons p r ih => intro s; simp only [fs]; rw [ih]; simp
    rw [hz]
    exact ⟨hrule, h1, h2, h3⟩
   | succ i =>
    simp only [List.getElem?_cons_succ] at ho hp
    have := hf i o' p' ho hp
    simp only [fs, Nat.zero_lt_succ, decide_true, if_true]
    rw [sh]
    simpa using this
def Upd.wE (u : Upd) (k : Nat) : Bool := match u.sl with | some p => Nat.beq p.1 k | none => false
def Upd.wH (u : Upd) (k : Nat) : Bool := elemB k (u.hp.map (·.1))
theorem getE_app (s : St) (u : Upd) (k : Nat) : getE (s.app u).env k = if u.wE k then u.sl.map (·.2) else getE s.env k := by
 unfold St.app Upd.wE
 cases h : u.sl with
 | none => simp
 | some p =>
  obtain ⟨i, v⟩ := p
  simp only [getE]
  by_cases hb : Nat.beq i k = true
  ·simp [hb]
  ·simp [hb]
theorem getH_append (l l' : Hp) (k : Nat) : getH (l ++ l') k = if elemB k (l.map (·.1)) then getH l k else getH l' k := by
 induction l with
 | nil => simp [elemB]
 | cons x r ih =>
  obtain ⟨i, v⟩ := x
  simp only [List.cons_append, getH, List.map_cons, elemB, ih]
  cases Nat.beq i k <;> simp
theorem getH_app (s : St) (u : Upd) (k : Nat) : getH (s.app u).hp k = if u.wH k then getH u.hp k else getH s.hp k := getH_append _ _ _
theorem fs_E {sel sel' : Nat → Bool} {k : Nat} : ∀ (ps : List PR) (i : Nat) (s s' : St), (∀ j p, ps[j]? = some p → p.u.wE k = true → sel (i + j) = sel' (i + j)) →
  getE s.env k = getE s'.env k → getE (fs sel i ps s).env k = getE (fs sel' i ps s').env k
 | [], _, _, _, _, h => h
 | p :: r, i, s, s', hw, h => by
  simp only [fs]
  apply fs_E r (i + 1) _ _ (fun j q hq hk => by have := hw (j + 1) q (by simpa using hq) hk; rw [show i + 1 + j = i + (j + 1) by omega]; exact this)
  by_cases hk : p.u.wE k = true
  ·have := hw 0 p (by simp) hk
   simp only [Nat.add_zero] at this
   rw [this]
   cases sel' i
   ·simpa using h
   ·simp [getE_app, hk]
  ·have h1 : ∀ t : St, getE (t.app p.u).env k = getE t.env k := fun t => by rw [getE_app, if_neg hk]
   cases sel i <;> cases sel' i <;> simp [h1, h]
theorem fs_H {sel sel' : Nat → Bool} {k : Nat} : ∀ (ps : List PR) (i : Nat) (s s' : St), (∀ j p, ps[j]? = some p → p.u.wH k = true → sel (i + j) = sel' (i + j)) →
  getH s.hp k = getH s'.hp k → getH (fs sel i ps s).hp k = getH (fs sel' i ps s').hp k
 | [], _, _, _, _, h => h
 | p :: r, i, s, s', hw, h => by
  simp only [fs]
  apply fs_H r (i + 1) _ _ (fun j q hq hk => by have := hw (j + 1) q (by simpa using hq) hk; rw [show i + 1 + j = i + (j + 1) by omega]; exact this)
  by_cases hk : p.u.wH k = true
  ·have := hw 0 p (by simp) hk
   simp only [Nat.add_zero] at this
   rw [this]
   cases sel' i
   ·simpa using h
   ·simp [getH_app, hk]
  ·have h1 : ∀ t : St, getH (t.app p.u).hp k = getH t.hp k := fun t => by rw [getH_app, if_neg hk]
   cases sel i <;> cases sel' i <;> simp [h1, h]
theorem fs_last_E {sel : Nat → Bool} {k i : Nat} {p : PR} : ∀ (ps : List PR) (b : Nat) (s : St), ps[i]? = some p → p.u.wE k = true → sel (b + i) = true →
  (∀ j q, i < j → ps[j]? = some q → sel (b + j) = true → q.u.wE k = false) → getE (fs sel b ps s).env k = p.u.sl.map (·.2) := by
 induction i with
 | zero =>
  intro ps b s hp hk hs hj
  cases ps with
  | nil => simp at hp
  | cons q r =>
   simp only [List.getElem?_cons_zero, Option.some.injEq] at hp
   subst hp
   simp only [fs]
   simp only [Nat.add_zero] at hs
   rw [hs, if_pos rfl]
   have : getE (fs sel (b + 1) r (s.app q.u)).env k = getE (fs (fun _ => false) (b + 1) r (s.app q.u)).env k := by
    apply fs_E _ _ _ _ _ rfl
    intro j q' hq' hk'
    cases hsj : sel (b + 1 + j) with
    | false => rfl
    | true =>
     have := hj (j + 1) q' (by omega) (by simpa using hq') (by rw [show b + (j + 1) = b + 1 + j by omega]; exact hsj)
     rw [this] at hk'; cases hk'
   rw [this]
   have hz : ∀ (ps : List PR) (i : Nat) (s : St), fs (fun _ => false) i ps s = s := by
    intro ps
    induction ps with
    | nil => intros; rfl
    | cons p r ih => intro i s; simp only [fs]; rw [ih]; rfl
   rw [hz, getE_app, if_pos hk]
 | succ i ih =>
  intro ps b s hp hk hs hj
  cases ps with
  | nil => simp at hp
  | cons q r =>
   simp only [fs]
   apply ih r (b + 1) _ (by simpa using hp) hk (by rw [show b + 1 + i = b + (i + 1) by omega]; exact hs)
   intro j q' hlt hq' hs'
   exact hj (j + 1) q' (by omega) (by simpa using hq') (by rw [show b + (j + 1) = b + 1 + j by omega]; exact hs')
theorem fs_last_H {sel : Nat → Bool} {k i : Nat} {p : PR} : ∀ (ps : List PR) (b : Nat) (s : St), ps[i]? = some p → p.u.wH k = true → sel (b + i) = true →
  (∀ j q, i < j → ps[j]? = some q → sel (b + j) = true → q.u.wH k = false) → getH (fs sel b ps s).hp k = getH p.u.hp k := by
 induction i with
 | zero =>
  intro ps b s hp hk hs hj
  cases ps with
  | nil => simp at hp
  | cons q r =>
   simp only [List.getElem?_cons_zero, Option.some.injEq] at hp
   subst hp
   simp only [fs]
   simp only [Nat.add_zero] at hs
   rw [hs, if_pos rfl]
   have : getH (fs sel (b + 1) r (s.app q.u)).hp k = getH (fs (fun _ => false) (b + 1) r (s.app q.u)).hp k := by
    apply fs_H _ _ _ _ _ rfl
    intro j q' hq' hk'
    cases hsj : sel (b + 1 + j) with
    | false => rfl
    | true =>
     have := hj (j + 1) q' (by omega) (by simpa using hq') (by rw [show b + (j + 1) = b + 1 + j by omega]; exact hsj)
     rw [this] at hk'; cases hk'
   rw [this]
   have hz : ∀ (ps : List PR) (i : Nat) (s : St), fs (fun _ => false) i ps s = s := by
    intro ps
    induction ps with
    | nil => intros; rfl
    | cons p r ih => intro i s; simp only [fs]; rw [ih]; rfl
   rw [hz, getH_app, if_pos hk]
 | succ i ih =>
  intro ps b s hp hk hs hj
  cases ps with
  | nil => simp at hp
  | cons q r =>
   simp only [fs]
   apply ih r (b + 1) _ (by simpa using hp) hk (by rw [show b + 1 + i = b + (i + 1) by omega]; exact hs)
   intro j q' hlt hq' hs'
   exact hj (j + 1) q' (by omega) (by simpa using hq') (by rw [show b + (j + 1) = b + 1 + j by omega]; exact hs')
theorem fs_from_E {sel : Nat → Bool} {k : Nat} {v : AV} : ∀ (ps : List PR) (b : Nat) (s : St), getE (fs sel b ps s).env k = some v →
  getE s.env k = some v ∨ ∃ j p, ps[j]? = some p ∧ sel (b + j) = true ∧ p.u.sl = some (k, v)
 | [], _, _, h => .inl h
 | p :: r, b, s, h => by
  simp only [fs] at h
  rcases fs_from_E r (b + 1) _ h with h | ⟨j, q, h1, h2, h3⟩
  ·cases hs : sel b with
   | false => simp only [hs] at h; exact .inl (by simpa using h)
   | true =>
    simp only [hs, if_true] at h
    rw [getE_app] at h
    split at h
    ·rename_i hk
     refine .inr ⟨0, p, by simp, by simpa using hs, ?_⟩
     unfold Upd.wE at hk
     cases hsl : p.u.sl with
     | none => simp [hsl] at h
     | some q =>
      simp only [hsl] at hk h
      have := Nat.eq_of_beq_eq_true hk
      simp only [Option.map_some, Option.some.injEq] at h
      rw [← this, ← h]
    ·exact .inl h
  ·exact .inr ⟨j + 1, q, by simpa using h1, by rw [show b + (j + 1) = b + 1 + j by omega]; exact h2, h3⟩
theorem fs_from_H {sel : Nat → Bool} {k : Nat} {v : Res} : ∀ (ps : List PR) (b : Nat) (s : St), getH (fs sel b ps s).hp k = some v →
  getH s.hp k = some v ∨ ∃ j p, ps[j]? = some p ∧ sel (b + j) = true ∧ (k, some v) ∈ p.u.hp
 | [], _, _, h => .inl h
 | p :: r, b, s, h => by
  simp only [fs] at h
  rcases fs_from_H r (b + 1) _ h with h | ⟨j, q, h1, h2, h3⟩
  ·cases hs : sel b with
   | false => simp only [hs] at h; exact .inl (by simpa using h)
   | true =>
    simp only [hs, if_true] at h
    rw [getH_app] at h
    split at h
    ·exact .inr ⟨0, p, by simp, by simpa using hs, getH_mem h⟩
    ·exact .inl h
  ·exact .inr ⟨j + 1, q, by simpa using h1, by rw [show b + (j + 1) = b + 1 + j by omega]; exact h2, h3⟩
theorem Rel.congr {c : Ctx} {s s' : St} {a : Act} {w : World} (hr : Rel c s a w) (he : ∀ k, getE s'.env k = getE s.env k) (hh : ∀ k, getH s'.hp k = getH s.hp k) : Rel c s' a w := by
 obtain ⟨G, hg⟩ := hr
 have ht : tokf s'.hp = tokf s.hp := by funext id; unfold tokf; rw [hh]
 exact ⟨G, hg.size, hg.defers, fun i v h => by rw [ht]; exact hg.slots i v (by rw [← he]; exact h), fun id r h => by rw [ht]; exact hg.heap id r (by rw [← hh]; exact h),
  fun id id' h1 h2 => hg.disj id id' (by rw [← hh]; exact h1) (by rw [← hh]; exact h2), fun id h1 => hg.new id (by rw [← hh]; exact h1), hg.frm, hg.top,
  fun id l hl => by rw [hh, ht]; exact hg.kept id l hl⟩
theorem count_set : ∀ (l : List Bool) (i : Nat), l[i]? = some false → (l.set i true).count false + 1 = l.count false
 | [], _, h => by simp at h
 | x :: l, 0, h => by
  simp only [List.getElem?_cons_zero, Option.some.injEq] at h
  subst h
  simp
 | x :: l, i + 1, h => by
  have := count_set l i (by simpa using h)
  simp only [List.set_cons_succ, List.count_cons]
  omega
def interB (a b : List Nat) : Bool := a.any (elemB · b)
def Upd.keyE (u : Upd) : List Nat := match u.sl with | some p => [p.1] | none => []
def Upd.keyH (u : Upd) : List Nat := u.hp.map (·.1)
def Upd.idsE (u : Upd) : List Nat := match u.sl with | some p => p.2.ids | none => []
def hpIds : Hp → List Nat
 | [] => []
 | (_, some r) :: t => r.ids ++ hpIds t
 | (_, none) :: t => hpIds t
def Upd.idsA (u : Upd) : List Nat := u.idsE ++ hpIds u.hp
def confB (a b : Rec) : Bool :=
 interB a.u.keyE b.rs || interB a.u.keyE b.u.keyE || interB b.u.keyE a.rs ||
 interB a.u.keyH b.rr || interB a.u.keyH b.cr || interB a.u.keyH b.u.keyH || interB b.u.keyH a.rr || interB b.u.keyH a.cr ||
 interB a.cr b.u.idsA
def edgesOf (o : Oper) : List Nat := (o.after.toList.filter (Region.binds .any)).map (·.on)
def predsOf (acc : List (List Nat)) (o : Oper) : List Nat := (edgesOf o).flatMap fun j => j :: acc.getD j []
def preds : List (List Nat) → List Oper → List (List Nat)
 | acc, [] => acc
 | acc, o :: os => preds (acc ++ [predsOf acc o]) os
def chkFrom (ps : List (List Nat)) : List (Nat × Rec) → Nat → List Rec → Bool
 | _, _, [] => true
 | done, j, b :: rs =>
  done.all (fun a => !interB b.cr a.2.u.idsA && (!confB a.2 b || elemB a.1 (ps.getD j []))) && chkFrom ps (done ++ [(j, b)]) (j + 1) rs
def chkEdges : Nat → List Oper → Bool
 | _, [] => true
 | j, o :: os => (edgesOf o).all (fun i => Nat.blt i j) && chkEdges (j + 1) os
def chkB (os : List Oper) (s0 : St) (rs : List Rec) : Bool :=
 chkEdges 0 os && rs.all (fun r => r.cr.all fun id => !occE id s0.env && !occH id s0.hp) && chkFrom (preds [] os) [] 0 rs
theorem interB_iff {a b : List Nat} : interB a b = true ↔ ∃ x, x ∈ a ∧ x ∈ b := by
 simp [interB, elemB_iff]
theorem interB_false {a b : List Nat} (h : interB a b = false) : ∀ x, x ∈ a → x ∉ b := fun x h1 h2 => by
 rw [interB_iff.2 ⟨x, h1, h2⟩] at h; cases h
theorem preds_acc : ∀ (os : List Oper) (acc : List (List Nat)) (j : Nat), j < acc.length → (preds acc os).getD j [] = acc.getD j []
 | [], _, _, _ => rfl
 | o :: os, acc, j, h => by
  simp only [preds]
  rw [preds_acc os _ j (by simp; omega)]
  simp [List.getD, List.getElem?_append_left h]
theorem preds_at : ∀ (os : List Oper) (acc : List (List Nat)) (j : Nat) (o : Oper), os[j]? = some o →
  (preds acc os).getD (acc.length + j) [] = predsOf ((preds acc os).take (acc.length + j)) o
 | [], _, _, _, h => by simp at h
 | o' :: os, acc, 0, o, h => by
  simp only [List.getElem?_cons_zero, Option.some.injEq] at h
  subst h
  simp only [preds, Nat.add_zero]
  have h1 := preds_acc os (acc ++ [predsOf acc o']) acc.length (by simp)
  rw [h1]
  have h2 : (preds (acc ++ [predsOf acc o']) os).take acc.length = acc := by
   apply List.ext_getElem?
   intro i
   rw [List.getElem?_take]
   split
   ·rename_i hi
    have hlen : ∀ (os : List Oper) (acc : List (List Nat)), acc.length ≤ (preds acc os).length := by
     intro os
     induction os with
     | nil => intro acc; exact Nat.le_refl _
     | cons o os ih => intro acc; simp only [preds]; have := ih (acc ++ [predsOf acc o]); simp at this; omega
    have h3 := preds_acc os (acc ++ [predsOf acc o']) i (by simp; omega)
    have h4 : i < (preds (acc ++ [predsOf acc o']) os).length := by have := hlen os (acc ++ [predsOf acc o']); simp at this; omega
    simp only [List.getD, List.getElem?_append_left hi] at h3
    rw [List.getElem?_eq_getElem h4, List.getElem?_eq_getElem hi] at h3 ⊢
    simpa using h3
   ·rename_i hi; rw [List.getElem?_eq_none (by omega)]
  rw [h2]
  simp [List.getD]
 | o' :: os, acc, j + 1, o, h => by
  simp only [preds]
  have := preds_at os (acc ++ [predsOf acc o']) j o (by simpa using h)
  simp only [List.length_append, List.length_cons, List.length_nil] at this
  rw [show acc.length + (j + 1) = acc.length + (0 + 1) + j by omega]
  exact this
theorem chkFrom_spec {ps : List (List Nat)} : ∀ (rs : List Rec) (done : List (Nat × Rec)) (j : Nat), chkFrom ps done j rs = true → ∀ i b, rs[i]? = some b →
  (∀ a, a ∈ done → interB b.cr a.2.u.idsA = false ∧ (confB a.2 b = true → a.1 ∈ ps.getD (j + i) [])) ∧
  (∀ i' a, i' < i → rs[i']? = some a → interB b.cr a.u.idsA = false ∧ (confB a b = true → (j + i') ∈ ps.getD (j + i) []))
 | [], _, _, _, i, b, h => by simp at h
 | r :: rs, done, j, hc, i, b, hb => by
  simp only [chkFrom, Bool.and_eq_true] at hc
  obtain ⟨h1, h2⟩ := hc
  have hd : ∀ a, a ∈ done → interB r.cr a.2.u.idsA = false ∧ (confB a.2 r = true → a.1 ∈ ps.getD j []) := fun a ha => by
   have := List.all_eq_true.1 h1 a ha
   simp only [Bool.and_eq_true, Bool.not_eq_true', Bool.or_eq_true] at this
   refine ⟨this.1, fun hconf => ?_⟩
   rcases this.2 with h | h
   ·rw [hconf] at h; cases h
   ·exact elemB_iff.1 h
  cases i with
  | zero =>
   simp only [List.getElem?_cons_zero, Option.some.injEq] at hb
   subst hb
   exact ⟨by simpa using hd, fun i' a h => by omega⟩
  | succ i =>
   have := chkFrom_spec rs _ (j + 1) h2 i b (by simpa using hb)
   rw [show j + 1 + i = j + (i + 1) by omega] at this
   refine ⟨fun a ha => this.1 a (by simp [ha]), fun i' a hlt ha => ?_⟩
   cases i' with
   | zero =>
    simp only [List.getElem?_cons_zero, Option.some.injEq] at ha
    subst ha
    simpa using this.1 (j, r) (by simp)
   | succ i' =>
    have h3 := this.2 i' a (by omega) (by simpa using ha)
    rw [show j + 1 + i' = j + (i' + 1) by omega] at h3
    exact h3
theorem chkEdges_spec : ∀ (os : List Oper) (b : Nat), chkEdges b os = true → ∀ j o, os[j]? = some o → ∀ i, i ∈ edgesOf o → i < b + j
 | [], _, _, j, o, h => by simp at h
 | o' :: os, b, hc, j, o, h => by
  simp only [chkEdges, Bool.and_eq_true] at hc
  cases j with
  | zero =>
   simp only [List.getElem?_cons_zero, Option.some.injEq] at h
   subst h
   intro i hi
   have := List.all_eq_true.1 hc.1 i hi
   simpa [Nat.blt_eq] using this
  | succ j =>
   intro i hi
   have := chkEdges_spec os (b + 1) hc.2 j o (by simpa using h) i hi
   omega
theorem wE_iff {u : Upd} {k : Nat} : u.wE k = true ↔ k ∈ u.keyE := by
 unfold Upd.wE Upd.keyE
 cases u.sl with
 | none => simp
 | some p => simp only [List.mem_singleton]; exact ⟨fun h => (Nat.eq_of_beq_eq_true h).symm, fun h => by subst h; exact Nat.beq_refl _⟩
theorem wH_iff {u : Upd} {k : Nat} : u.wH k = true ↔ k ∈ u.keyH := elemB_iff
theorem hpIds_mem {id k : Nat} {r : Res} : ∀ {l : Hp}, (k, some r) ∈ l → id ∈ r.ids → id ∈ hpIds l
 | (j, some r') :: t, h, hi => by
  simp only [hpIds, List.mem_append]
  rcases List.mem_cons.1 h with h | h
  ·cases h; exact .inl hi
  ·exact .inr (hpIds_mem h hi)
 | (j, none) :: t, h, hi => by
  simp only [hpIds]
  rcases List.mem_cons.1 h with h | h
  ·cases h
  ·exact hpIds_mem h hi
theorem confB_false {a b : Rec} (h : confB a b = false) :
  (∀ x, x ∈ a.u.keyE → x ∉ b.rs) ∧ (∀ x, x ∈ a.u.keyE → x ∉ b.u.keyE) ∧ (∀ x, x ∈ b.u.keyE → x ∉ a.rs) ∧
  (∀ x, x ∈ a.u.keyH → x ∉ b.rr) ∧ (∀ x, x ∈ a.u.keyH → x ∉ b.cr) ∧ (∀ x, x ∈ a.u.keyH → x ∉ b.u.keyH) ∧ (∀ x, x ∈ b.u.keyH → x ∉ a.rr) ∧ (∀ x, x ∈ b.u.keyH → x ∉ a.cr) ∧
  (∀ x, x ∈ a.cr → x ∉ b.u.idsA) := by
 simp only [confB, Bool.or_eq_false_iff] at h
 obtain ⟨⟨⟨⟨⟨⟨⟨⟨h1, h2⟩, h3⟩, h4⟩, h5⟩, h6⟩, h7⟩, h8⟩, h9⟩ := h
 exact ⟨interB_false h1, interB_false h2, interB_false h3, interB_false h4, interB_false h5, interB_false h6, interB_false h7, interB_false h8, interB_false h9⟩
section
variable {c : Ctx} {all : Array Oper} {ps : List PR} {s0 : St}
def Closed (all : Array Oper) (listed : Array Bool) : Prop :=
 ∀ j o, all[j]? = some o → listed.getD j false = true → ∀ i, i ∈ edgesOf o → listed.getD i false = true
theorem closed_preds {listed : Array Bool} (hcl : Closed all listed) (hed : chkEdges 0 all.toList = true) :
  ∀ (n j : Nat) (o : Oper), j < n → all[j]? = some o → (∀ i, i ∈ edgesOf o → listed.getD i false = true) → ∀ i, i ∈ (preds [] all.toList).getD j [] → listed.getD i false = true := by
 intro n
 induction n with
 | zero => intro j o h; omega
 | succ n ih =>
  intro j o hj ho he i hi
  have h1 := preds_at all.toList [] j o (by simpa using ho)
  simp only [List.length_nil, Nat.zero_add] at h1
  rw [h1] at hi
  simp only [predsOf, List.mem_flatMap] at hi
  obtain ⟨k, hk, hki⟩ := hi
  have hlt := chkEdges_spec all.toList 0 hed j o (by simpa using ho) k hk
  have hjs : j < all.size := by
   rcases Nat.lt_or_ge j all.size with h | h
   ·exact h
   ·simp [Array.getElem?_eq_none h] at ho
  rcases List.mem_cons.1 hki with rfl | hki
  ·exact he _ hk
  ·have hko : all[k]? = some all[k] := by simp [show k < all.size by omega]
   refine ih k all[k] (by omega) hko (fun x hx => hcl k _ hko (he k hk) x hx) i ?_
   have : ((preds [] all.toList).take j).getD k [] = (preds [] all.toList).getD k [] := by
    simp only [List.getD, List.getElem?_take]
    rw [if_pos (by omega)]
   rw [this] at hki
   exact hki
theorem drawn_any {Q : St → Prop} {Q' : Exit → Act → World → Prop} (hQ : ∀ s a w, Rel c s a w → Q s → Q' .normal a w)
  (hlen : ps.length = all.size) (hchk : chkB all.toList s0 (ps.map PR.rcd) = true) (hfin : Q (fs (fun _ => true) 0 ps s0))
  (hf : ∀ i o p, all.toList[i]? = some o → ps[i]? = some p → OpFacts c all o p (fs (fun j => decide (j < i)) 0 ps s0)) :
  ∀ (fuel : Nat) (listed : Array Bool) (a : Act) (w : World), listed.size = all.size → (listed.toList.count false) = fuel → Closed all listed →
   Rel c (fs (fun j => listed.getD j false) 0 ps s0) a w → wpAny c.P .any all Q' fuel listed a w := by
 simp only [chkB, Bool.and_eq_true] at hchk
 obtain ⟨⟨hed, hocc⟩, hcf⟩ := hchk
 have pair : ∀ i j p q, i < j → ps[i]? = some p → ps[j]? = some q →
   interB q.rcd.cr p.rcd.u.idsA = false ∧ (confB p.rcd q.rcd = true → i ∈ (preds [] all.toList).getD j []) := fun i j p q hlt hp hq => by
  have := (chkFrom_spec (ps.map PR.rcd) [] 0 hcf j q.rcd (by simp [hq])).2 i p.rcd hlt (by simp [hp])
  simpa using this
 have all_done : ∀ listed : Array Bool, listed.size = all.size → Region.ready .any all listed = [] → ∀ j, j < all.size → listed.getD j false = true := by
  intro listed hsz hr j
  induction j using Nat.strongRecOn with
  | _ j ih =>
   intro hj
   cases hb : listed.getD j false with
   | true => rfl
   | false =>
    have : j ∈ Region.ready .any all listed := by
     simp only [Region.ready, List.mem_filter, List.mem_range, Bool.and_eq_true, Bool.not_eq_true']
     refine ⟨hj, ?_, ?_⟩
     ·have hjl : j < listed.size := by omega
      simp only [Array.getD, hjl, dite_true] at hb ⊢
      exact hb
     ·have ho : all[j]? = some all[j] := by simp [hj]
      simp only [ho, Option.map_some, Option.getD_some, Array.all_eq_true_iff_forall_mem]
      intro e he
      cases hbd : Region.binds .any e with
      | false => simp
      | true =>
       have hmem : e.on ∈ edgesOf all[j] := by
        simp only [edgesOf, List.mem_map, List.mem_filter]
        exact ⟨e, ⟨by simpa using he, hbd⟩, rfl⟩
       have hlt := chkEdges_spec all.toList 0 hed j all[j] (by simp [hj]) _ hmem
       simp [ih e.on (by omega) (by omega)]
    rw [hr] at this
    cases this
 have finish : ∀ (listed : Array Bool) (a : Act) (w : World), listed.size = all.size → Region.ready .any all listed = [] →
   Rel c (fs (fun j => listed.getD j false) 0 ps s0) a w → Q' .normal a w := by
  intro listed a w hsz hr hrel
  have hall := all_done listed hsz hr
  refine hQ _ a w (hrel.congr (fun k => ?_) (fun k => ?_)) hfin
  ·refine fs_E ps 0 s0 s0 (fun j p hp _ => ?_) rfl
   have hj : j < ps.length := by
    rcases Nat.lt_or_ge j ps.length with h | h
    ·exact h
    ·simp [List.getElem?_eq_none h] at hp
   simp [hall j (by omega)]
  ·refine fs_H ps 0 s0 s0 (fun j p hp _ => ?_) rfl
   have hj : j < ps.length := by
    rcases Nat.lt_or_ge j ps.length with h | h
    ·exact h
    ·simp [List.getElem?_eq_none h] at hp
   simp [hall j (by omega)]
 intro fuel
 induction fuel with
 | zero =>
  intro listed a w hsz hcnt hcl hrel
  have hr : Region.ready .any all listed = [] := by
   simp only [Region.ready, List.filter_eq_nil_iff, List.mem_range, Bool.and_eq_true, Bool.not_eq_true', not_and]
   intro i hi hb
   have hil : i < listed.size := by omega
   simp only [Array.getD, hil, dite_true] at hb
   have hm : false ∈ listed.toList := by
    rw [← hb]
    exact Array.mem_toList_iff.2 (Array.getElem_mem hil)
   exact absurd hcnt (Nat.ne_of_gt (List.count_pos_iff.2 hm))
  exact ⟨hr, finish listed a w hsz hr hrel⟩
 | succ fuel ih =>
  intro listed a w hsz hcnt hcl hrel
  refine ⟨fun hr => finish listed a w hsz hr hrel, fun i hi => ?_⟩
  simp only [Region.ready, List.mem_filter, List.mem_range, Bool.and_eq_true, Bool.not_eq_true'] at hi
  obtain ⟨hia, hib, hie⟩ := hi
  have hil : i < listed.size := by omega
  have hio : all[i]? = some all[i] := by simp [hia]
  have hsi : listed.getD i false = false := by
   simp only [Array.getD, hil, dite_true] at hib ⊢
   exact hib
  have hedge : ∀ x, x ∈ edgesOf all[i] → listed.getD x false = true := by
   intro x hx
   simp only [edgesOf, List.mem_map, List.mem_filter] at hx
   obtain ⟨e, ⟨he, hbd⟩, rfl⟩ := hx
   simp only [hio, Option.map_some, Option.getD_some, Array.all_eq_true_iff_forall_mem] at hie
   have := hie e (by simpa using he)
   simpa [hbd] using this
  have hpi : ∃ p, ps[i]? = some p := ⟨ps[i]'(by omega), by simp [show i < ps.length by omega]⟩
  obtain ⟨p, hp⟩ := hpi
  have hpreds := closed_preds hcl hed (i + 1) i all[i] (by omega) hio hedge
  -- those that were done and stand behind i are not bound to it; those before i that were not done neither
  have before : ∀ j q, ps[j]? = some q → j < i → confB q.rcd p.rcd = true → listed.getD j false = true := fun j q hq hlt hc' =>
   hpreds j ((pair j i q p hlt hq hp).2 hc')
  have behind : ∀ j q, ps[j]? = some q → i < j → confB p.rcd q.rcd = true → listed.getD j false = false := fun j q hq hlt hc' => by
   cases hb : listed.getD j false with
   | false => rfl
   | true =>
    have hja : j < all.size := by
     rcases Nat.lt_or_ge j ps.length with h | h
     ·omega
     ·simp [List.getElem?_eq_none h] at hq
    have hjo : all[j]? = some all[j] := by simp [hja]
    have := closed_preds hcl hed (j + 1) j all[j] (by omega) hjo (hcl j _ hjo hb) i ((pair i j p q hlt hp hq).2 hc')
    rw [hsi] at this; cases this
  have hof := hf i all[i] p (by simp [hia]) hp
  have factE : ∀ k, (k ∈ p.rcd.rs) → getE (fs (fun j => listed.getD j false) 0 ps s0).env k = getE (fs (fun j => decide (j < i)) 0 ps s0).env k := fun k hk => by
   refine fs_E ps 0 s0 s0 (fun j q hq hw => ?_) rfl
   simp only [Nat.zero_add]
   rcases Nat.lt_trichotomy j i with h | h | h
   ·rw [before j q hq h (by
     cases hcb : confB q.rcd p.rcd with
     | true => rfl
     | false => exact absurd hk ((confB_false hcb).1 k (wE_iff.1 hw)))]
    simp [h]
   ·subst h; simp [hsi]
   ·rw [behind j q hq h (by
     cases hcb : confB p.rcd q.rcd with
     | true => rfl
     | false => exact absurd hk ((confB_false hcb).2.2.1 k (wE_iff.1 hw)))]
    simp; omega
  have factH : ∀ k, (k ∈ p.rcd.rr ∨ k ∈ p.rcd.cr) → getH (fs (fun j => listed.getD j false) 0 ps s0).hp k = getH (fs (fun j => decide (j < i)) 0 ps s0).hp k := fun k hk => by
   refine fs_H ps 0 s0 s0 (fun j q hq hw => ?_) rfl
   simp only [Nat.zero_add]
   rcases Nat.lt_trichotomy j i with h | h | h
   ·rw [before j q hq h (by
     cases hcb : confB q.rcd p.rcd with
     | true => rfl
     | false =>
      have hc := confB_false hcb
      rcases hk with hk | hk
      ·exact absurd hk (hc.2.2.2.1 k (wH_iff.1 hw))
      ·exact absurd hk (hc.2.2.2.2.1 k (wH_iff.1 hw)))]
    simp [h]
   ·subst h; simp [hsi]
   ·rw [behind j q hq h (by
     cases hcb : confB p.rcd q.rcd with
     | true => rfl
     | false =>
      have hc := confB_false hcb
      rcases hk with hk | hk
      ·exact absurd hk (hc.2.2.2.2.2.2.1 k (wH_iff.1 hw))
      ·exact absurd hk (hc.2.2.2.2.2.2.2.1 k (wH_iff.1 hw)))]
    simp; omega
  -- the names that i makes occur nowhere yet
  have nocc : ∀ id, id ∈ p.cr → noOcc id (fs (fun j => listed.getD j false) 0 ps s0) := fun id hid => by
   have h0 : occE id s0.env = false ∧ occH id s0.hp = false := by
    have := List.all_eq_true.1 hocc p.rcd (List.mem_map.2 ⟨p, List.mem_of_getElem? hp, rfl⟩)
    have := List.all_eq_true.1 this id hid
    simpa using this
   have hn0 := noOcc_of h0.1 h0.2
   have hu : ∀ j q, ps[j]? = some q → listed.getD j false = true → id ∉ q.u.idsA := fun j q hq hs hm => by
    rcases Nat.lt_trichotomy j i with h | h | h
    ·exact interB_false (pair j i q p h hq hp).1 id hid hm
    ·subst h; rw [hsi] at hs; cases hs
    ·have := behind j q hq h (by
      cases hcb : confB p.rcd q.rcd with
      | true => rfl
      | false => exact absurd hm ((confB_false hcb).2.2.2.2.2.2.2.2 id hid))
     rw [hs] at this; cases this
   refine ⟨fun k v hk hm => ?_, fun k r hk hm => ?_⟩
   ·rcases fs_from_E ps 0 s0 hk with h | ⟨j, q, h1, h2, h3⟩
    ·exact hn0.1 k v h hm
    ·exact hu j q h1 (by simpa using h2) (by simp [Upd.idsA, Upd.idsE, h3, hm])
   ·rcases fs_from_H ps 0 s0 hk with h | ⟨j, q, h1, h2, h3⟩
    ·exact hn0.2 k r h hm
    ·exact hu j q h1 (by simpa using h2) (by simp only [Upd.idsA, List.mem_append]; exact .inr (hpIds_mem h3 hm))
  have step := hof.rule _ a w hrel
   (fun q hq => by rw [factE q.1 (List.mem_map.2 ⟨q, hq, rfl⟩)]; exact hof.pre q hq)
   (fun q hq => by rw [factH q.1 (.inl (List.mem_map.2 ⟨q, hq, rfl⟩))]; exact hof.prh q hq)
   (fun id hid => ⟨by rw [factH id (.inr hid)]; exact (hof.cr id hid).1, nocc id hid⟩)
   (wpAny c.P .any all Q' fuel (listed.setIfInBounds i true)) Q' (fun a' w' hr' => ?_)
  ·unfold wpO at step
   unfold wpOp
   simp only [hio]
   split
   ·rename_i hw; simp only [hw, if_true] at step; exact .inl step
   ·rename_i hw; simp only [hw] at step; exact step
  ·have hset : ∀ j, (listed.setIfInBounds i true).getD j false = (if j = i then true else listed.getD j false) := fun j => by
    by_cases hji : j = i
    ·subst hji; simp [Array.getD, hil]
    ·simp only [Array.getD_eq_getD_getElem?, Array.getElem?_setIfInBounds, if_neg hji, if_neg (Ne.symm hji)]
   refine ih _ a' w' (by simp [hsz]) ?_ ?_ ?_
   ·have : (listed.setIfInBounds i true).toList.count false + 1 = listed.toList.count false := by
     rw [Array.toList_setIfInBounds]
     refine count_set _ _ ?_
     simp only [Array.getD, hil, dite_true] at hsi
     simp [hil, ← hsi]
    omega
   ·intro j o ho hj x hx
    rw [hset] at hj ⊢
    by_cases hji : j = i
    ·subst hji
     rw [hio] at ho
     cases ho
     split
     ·rfl
     ·exact hedge x hx
    ·rw [if_neg hji] at hj
     split
     ·rfl
     ·exact hcl j o ho hj x hx
   ·refine hr'.congr (fun k => ?_) (fun k => ?_)
    ·by_cases hk : p.u.wE k = true
     ·rw [getE_app, if_pos hk]
      refine fs_last_E ps 0 s0 hp hk (by simp [hset]) (fun j q hlt hq hs => ?_)
      rw [hset] at hs
      have hjn : ¬ (0 + j = i) := by omega
      rw [if_neg hjn, Nat.zero_add] at hs
      cases hwq : q.u.wE k with
      | false => rfl
      | true =>
       have := behind j q hq hlt (by
        cases hcb : confB p.rcd q.rcd with
        | true => rfl
        | false => exact absurd (wE_iff.1 hwq) ((confB_false hcb).2.1 k (wE_iff.1 hk)))
       rw [hs] at this; cases this
     ·rw [getE_app, if_neg hk]
      refine fs_E ps 0 s0 s0 (fun j q hq hw => ?_) rfl
      rw [hset]
      split
      ·rename_i hji
       rw [Nat.zero_add] at hji
       subst hji
       rw [hp] at hq; cases hq
       exact absurd hw hk
      ·rfl
    ·by_cases hk : p.u.wH k = true
     ·rw [getH_app, if_pos hk]
      refine fs_last_H ps 0 s0 hp hk (by simp [hset]) (fun j q hlt hq hs => ?_)
      rw [hset] at hs
      have hjn : ¬ (0 + j = i) := by omega
      rw [if_neg hjn, Nat.zero_add] at hs
      cases hwq : q.u.wH k with
      | false => rfl
      | true =>
       have := behind j q hq hlt (by
        cases hcb : confB p.rcd q.rcd with
        | true => rfl
        | false => exact absurd (wH_iff.1 hwq) ((confB_false hcb).2.2.2.2.2.1 k (wH_iff.1 hk)))
       rw [hs] at this; cases this
     ·rw [getH_app, if_neg hk]
      refine fs_H ps 0 s0 s0 (fun j q hq hw => ?_) rfl
      rw [hset]
      split
      ·rename_i hji
       rw [Nat.zero_add] at hji
       subst hji
       rw [hp] at hq; cases hq
       exact absurd hw hk
      ·rfl
theorem Rel.drew {s : St} {a : Act} {w : World} (hr : Rel c s a w) : Rel c s a { w with drawn := w.drawn + 1 } := by
 obtain ⟨G, hg⟩ := hr
 have hm : ∀ {x : AV} {v : Value}, RelA G (tokf s.hp) w x v → RelA G (tokf s.hp) { w with drawn := w.drawn + 1 } x v := fun hx =>
  hx.mono (fun _ _ ho => ⟨ho, rfl⟩) (fun _ _ => .inl rfl) (fun id _ p hp => ⟨hp, fun _ _ => ⟨rfl, rfl⟩⟩)
 refine ⟨G, hg.size, hg.defers, fun i v h => hm (hg.slots i v h), fun id r h => ?_, hg.disj, hg.new,
  ⟨hg.frm.os, hg.frm.tape, hg.frm.output, hg.frm.size, hg.frm.block, hg.frm.cell⟩, hg.top, hg.kept⟩
 have := hg.heap id r h
 cases r with
 | box cs =>
  obtain ⟨b, vs, e, h1, h2, h3, h4, h5⟩ := this
  exact ⟨b, vs, e, h1, h2, h3, h4, fun i hi hv => hm (h5 i hi hv)⟩
 | tok n k => exact this
 | map ks => exact this
 | tree cs => exact tree_mono this rfl (fun _ _ => ⟨rfl, rfl⟩) (Nat.le_refl _) (fun _ _ _ => hm)
theorem CWp.drawn {K : Kt} {id : Nat} {os : List Oper} {s : St} (hmix : c.P.follows .mixedOrders = true) (hos : all.toList = os)
  (h : Walk c all (fun recs => chkB os s recs.reverse = true) os [] s K.n) : CWp c (.region id all true) s K := by
 intro a w hr
 subst hos
 obtain ⟨ps, hl, hc, hq, hf⟩ := walk_data _ _ _ h
 refine wp_region_any hmix (drawn_any (Q := K.n) (fun s a w hr hq => ⟨s, hr, hq⟩) (by simpa using hl) (by simpa using hc) hq hf all.size _ a _ (by simp) (by simp) ?_ ?_)
 ·intro j o ho hj
  simp [Array.getD] at hj
 ·refine hr.drew.congr (fun k => ?_) (fun k => ?_)
  ·have hz : ∀ (ps : List PR) (i : Nat) (s : St), fs (fun j => (Array.replicate all.size false).getD j false) i ps s = s := by
    intro ps
    induction ps with
    | nil => intros; rfl
    | cons p r ih => intro i s; simp only [fs]; rw [ih]; simp [Array.getD]
   rw [hz]
  ·have hz : ∀ (ps : List PR) (i : Nat) (s : St), fs (fun j => (Array.replicate all.size false).getD j false) i ps s = s := by
    intro ps
    induction ps with
    | nil => intros; rfl
    | cons p r ih => intro i s; simp only [fs]; rw [ih]; simp [Array.getD]
   rw [hz]
end
end Go.Proofs.Ytadpcmcifbakoaa
