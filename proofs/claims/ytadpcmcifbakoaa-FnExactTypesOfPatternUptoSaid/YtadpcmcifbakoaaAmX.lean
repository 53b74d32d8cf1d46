/-
  THE ABSTRACT WALK, part X: tokens of trees.
-/
import Derived.Test.YtadpcmcifbakoaaAmW
import Derived.Laws.BytesArg
namespace Go.Proofs.Ytadpcmcifbakoaa
open Go
set_option linter.unusedSimpArgs false
set_option linter.unusedVariables false
def FlatR (xs : List (List D)) : Prop := ∀ x, x ∈ xs → ∀ y, y ∈ x → flatD y = true
theorem RelA.gt_inv {G : Gh} {T : TokF} {w : World} {id : Nat} {xs : List (List D)} {v : Value} (h : RelA G T w (.gt id xs) v) :
  (∃ a cap, v = .slice a xs.length cap) ∧ ∀ n k, T id = some (n, k) → xs.length ≤ n ∧ (n = xs.length → (∀ x, x ∈ xs → x.length = k) ∧ TipT G w id n k v xs) := by
 cases h with | gt hv ht => exact ⟨hv, ht⟩
theorem TipV.tree {G : Gh} {w : World} {id n k : Nat} {v : Value} {xs : List (List D)} (hf : FlatR xs) (hk : ∀ x, x ∈ xs → x.length = k) (h : TipV G w id n k v xs) : TipT G w id n k v xs := by
 rcases h with ⟨h1, h2, h3⟩ | ⟨b, cap, cs, e, h1, h2, h3, h4, h5, h6, h7⟩
 ·exact .inl ⟨h1, h2, h3⟩
 ·refine .inr ⟨b, cap, cs, e, fun _ => [], by rw [h1]; simp, h2, h4, h5, h6, by rw [h1]; simp, fun b' hb' => ?_, fun i hi j hj => .ofFlat (hf _ (List.getElem_mem hi) _ (List.getElem_mem hj)) (h7 i hi j hj)⟩
  rw [h1] at hb'
  simp only [List.mem_singleton] at hb'
  rw [hb']; exact h3
section
variable {c : Ctx} {env : Env} {hp : Hp} {K : Kt} {code : Code} {ids : List Nat}
theorem CWp.gvGt (t : Nat) {id : Nat} {xs : List (List D)} (ht : getE env t = some (.gv id xs)) (hf : FlatR xs) (hn : CWp c code ⟨(t, .gt id xs) :: env, hp⟩ K) : CWp c code ⟨env, hp⟩ K := by
 rintro a w ⟨G, hr⟩
 refine hn a w ⟨G, hr.slot ?_⟩
 obtain ⟨hv, hcl⟩ := (hr.slots t _ ht).gv_inv
 exact .gt hv (fun n k hT => ⟨(hcl n k hT).1, fun hn => ⟨((hcl n k hT).2 hn).1, ((hcl n k hT).2 hn).2.tree hf ((hcl n k hT).2 hn).1⟩⟩)
theorem CWp.fixT (hkp : KeptIn c.kept ids) (t id k : Nat) {xs : List (List D)} (ht : getE env t = some (.gt id xs)) (hb : getH hp id = some (.tok xs.length k)) (hid : elemB id ids = false)
  (h0 : xs = [] → CWp c code ⟨(t, .d (.sl [])) :: env, (id, none) :: hp⟩ K)
  (hn : xs ≠ [] → CWp c code ⟨(t, .ms id xs.length) :: env, (id, some (.tree (ownCells true xs))) :: hp⟩ K) : CWp c code ⟨env, hp⟩ K := by
 rintro a w ⟨G, hr⟩
 have hT : tokf hp id = some (xs.length, k) := tokf_some.2 hb
 obtain ⟨⟨ad, cap0, hv0⟩, hcl⟩ := (hr.slots t _ ht).gt_inv
 obtain ⟨hkx, htip⟩ := (hcl _ _ hT).2 rfl
 have s1 : (getH hp id).isSome := by rw [hb]; rfl
 have turn : ∀ (r : Option Res), (∀ n k, r ≠ some (.tok n k)) → Turn c G ⟨env, hp⟩ w G ((id, r) :: hp) [id] := fun r hnr => by
  have t1 : tokf ((id, r) :: hp) id = none := by
   cases hh : tokf ((id, r) :: hp) id with
   | none => rfl
   | some p =>
    obtain ⟨n, q⟩ := p
    have := tokf_some.1 hh
    rw [getH_cons, if_pos rfl] at this
    exact absurd this (hnr n q)
  refine ⟨fun i hi => ?_, fun i hi => rfl, fun x hx => rfl, fun x o ho => ho, hr.top, fun i hi => .inr ⟨.inl rfl, ?_⟩, fun i hi hs x hx => ?_, fun i hi j hj hij => ?_, fun i hi l hl => ?_⟩
  ·simp only [List.mem_cons, List.not_mem_nil, or_false] at hi
   rw [getH_cons, if_neg hi]
  ·simp only [List.mem_cons, List.not_mem_nil, or_false] at hi
   subst hi; intro p hp; rw [t1] at hp; cases hp
  ·simp only [List.mem_cons, List.not_mem_nil, or_false] at hi
   subst hi; exact ⟨i, by simp, s1, hx⟩
  ·simp only [List.mem_cons, List.not_mem_nil, or_false] at hi hj
   exact absurd (hi.trans hj.symm) hij
  ·simp only [List.mem_cons, List.not_mem_nil, or_false] at hi
   subst hi
   have := elemB_iff.2 (hkp.mem i l hl)
   rw [this] at hid; cases hid
 by_cases hx0 : xs = []
 ·have h1 := (turn none (by simp)).fin hr (fun i hi r hri => by
   simp only [List.mem_cons, List.not_mem_nil, or_false] at hi
   subst hi
   rw [getH_cons, if_pos rfl] at hri; cases hri)
  refine h0 hx0 a w ⟨G, h1.slot ?_⟩
  subst hx0
  rcases htip with ⟨_, _, h3⟩ | ⟨b, cap, cs, et, Ss, h1, h2, _⟩
  ·rw [h3]; exact .d .nil
  ·rw [h2]; exact .d (.sl [] 0 b 0 cap (fun _ => undef) (by simp) (by simp) (fun n hn => by simp at hn) (fun i hi => by simp at hi))
 ·rcases htip with ⟨_, h2, _⟩ | ⟨b, cap, cs, et, Ss, h1, h2, h3, h4, h5, h6, h7, h8⟩
  ·exact absurd (List.eq_nil_of_length_eq_zero h2) hx0
  ·have g1 : getH ((id, some (Res.tree (ownCells true xs))) :: hp) id = some (.tree (ownCells true xs)) := by rw [getH_cons, if_pos rfl]
   have hlen : (ownCells true xs).length = xs.length * k := ownCells_len hkx
   have h9 := (turn (some (.tree (ownCells true xs))) (by simp)).fin hr (fun i hi r hri => by
    simp only [List.mem_cons, List.not_mem_nil, or_false] at hi
    subst hi
    rw [g1] at hri; cases hri
    refine ⟨b, cs, et, Ss, by rw [h1, hlen], h3, by rw [hlen]; exact Nat.le_trans (Nat.mul_le_mul_right _ h5) h4, h6, fun x hx => ⟨h7 x hx, (hr.heap i _ hb).bound x hx⟩, TreeOf.cells h8 hkx⟩)
   refine hn hx0 a w ⟨G, h9.slot ?_⟩
   rw [h2]
   exact .ms (by rw [h1]; rfl) (by unfold tokf; rw [g1]) h5
end
theorem putC_off {α : Type} {o j : Nat} : ∀ {A B B' vs : List α}, A.length = o → putC B j vs = some B' → putC (A ++ B) (o + j) vs = some (A ++ B') := by
 intro A B B' vs ha h
 subst ha
 induction A with
 | nil => simpa using h
 | cons x r ih =>
  cases vs with
  | nil =>
   have e : B' = B := by cases B <;> simp only [putC, Option.some.injEq] at h <;> exact h.symm
   subst e
   simp [putC]
  | cons v vs =>
   have : (x :: r).length + j = r.length + j + 1 := by simp; omega
   rw [this]
   simp only [List.cons_append, putC, ih]
theorem cell_off {α : Type} {o j : Nat} {A B : List α} {v : α} (ha : A.length = o) (h : B[j]? = some v) : (A ++ B)[o + j]? = some v := by
 subst ha
 rw [List.getElem?_append_right (by omega)]
 simpa using h
theorem cutC_off {α : Type} {o j k : Nat} : ∀ {A B r : List α}, A.length = o → cutC B j k = some r → cutC (A ++ B) (o + j) k = some r := by
 intro A B r ha h
 subst ha
 cases k with
 | zero =>
  have e : r = [] := by cases B <;> simp only [cutC, Option.some.injEq] at h <;> exact h.symm
  subst e
  cases A ++ B <;> rfl
 | succ k =>
  induction A with
  | nil => simpa using h
  | cons x t ih =>
   have : (x :: t).length + j = t.length + j + 1 := by simp; omega
   rw [this]
   simp only [List.cons_append, cutC]
   exact ih
theorem putC_off0 {α : Type} {o : Nat} {A B B' vs : List α} (h1 : A.length = o) (h2 : putC B 0 vs = some B') : putC (A ++ B) o vs = some (A ++ B') := putC_off (j := 0) h1 h2
theorem cell_off0 {α : Type} {o : Nat} {A B : List α} {v : α} (h1 : A.length = o) (h2 : B[0]? = some v) : (A ++ B)[o]? = some v := cell_off (j := 0) h1 h2
theorem cutC_off0 {α : Type} {o k : Nat} {A B r : List α} (h1 : A.length = o) (h2 : cutC B 0 k = some r) : cutC (A ++ B) o k = some r := cutC_off (j := 0) h1 h2
theorem putC_fill {α : Type} {o : Nat} {A vs zs : List AV} {y : α} {rest : List α} (h1 : A.length = o) (h2 : zs.length = vs.length) : putC (A ++ zerosA (y :: rest).length zs) o vs = some (A ++ (vs ++ zerosA rest.length zs)) :=
 putC_off0 (B := zs ++ zerosA rest.length zs) h1 (putC_zero h2)
theorem putC_set {α : Type} {v x : α} : ∀ {B : List α} {j : Nat}, B[j]? = some x → putC B j [v] = some (B.set j v)
 | [], j, h => by simp at h
 | y :: r, 0, _ => by simp only [putC, List.set_cons_zero]
 | y :: r, j + 1, h => by simp only [putC, List.set_cons_succ, putC_set (B := r) (j := j) (by simpa using h)]
theorem putC_c0 {α : Type} {x0 v : α} {t : List α} : putC (x0 :: t) 0 [v] = some (v :: t) := putC_set (x := x0) rfl
theorem putC_c1 {α : Type} {x0 x1 v : α} {t : List α} : putC (x0 :: x1 :: t) 1 [v] = some (x0 :: v :: t) := putC_set (x := x1) rfl
theorem putC_c2 {α : Type} {x0 x1 x2 v : α} {t : List α} : putC (x0 :: x1 :: x2 :: t) 2 [v] = some (x0 :: x1 :: v :: t) := putC_set (x := x2) rfl
theorem putC_c3 {α : Type} {x0 x1 x2 x3 v : α} {t : List α} : putC (x0 :: x1 :: x2 :: x3 :: t) 3 [v] = some (x0 :: x1 :: x2 :: v :: t) := putC_set (x := x3) rfl
theorem putC_c4 {α : Type} {x0 x1 x2 x3 x4 v : α} {t : List α} : putC (x0 :: x1 :: x2 :: x3 :: x4 :: t) 4 [v] = some (x0 :: x1 :: x2 :: x3 :: v :: t) := putC_set (x := x4) rfl
theorem putC_c5 {α : Type} {x0 x1 x2 x3 x4 x5 v : α} {t : List α} : putC (x0 :: x1 :: x2 :: x3 :: x4 :: x5 :: t) 5 [v] = some (x0 :: x1 :: x2 :: x3 :: x4 :: v :: t) := putC_set (x := x5) rfl
theorem putC_c6 {α : Type} {x0 x1 x2 x3 x4 x5 x6 v : α} {t : List α} : putC (x0 :: x1 :: x2 :: x3 :: x4 :: x5 :: x6 :: t) 6 [v] = some (x0 :: x1 :: x2 :: x3 :: x4 :: x5 :: v :: t) := putC_set (x := x6) rfl
theorem putC_c7 {α : Type} {x0 x1 x2 x3 x4 x5 x6 x7 v : α} {t : List α} : putC (x0 :: x1 :: x2 :: x3 :: x4 :: x5 :: x6 :: x7 :: t) 7 [v] = some (x0 :: x1 :: x2 :: x3 :: x4 :: x5 :: x6 :: v :: t) := putC_set (x := x7) rfl
theorem putC_c8 {α : Type} {x0 x1 x2 x3 x4 x5 x6 x7 x8 v : α} {t : List α} : putC (x0 :: x1 :: x2 :: x3 :: x4 :: x5 :: x6 :: x7 :: x8 :: t) 8 [v] = some (x0 :: x1 :: x2 :: x3 :: x4 :: x5 :: x6 :: x7 :: v :: t) := putC_set (x := x8) rfl
theorem putC_c9 {α : Type} {x0 x1 x2 x3 x4 x5 x6 x7 x8 x9 v : α} {t : List α} : putC (x0 :: x1 :: x2 :: x3 :: x4 :: x5 :: x6 :: x7 :: x8 :: x9 :: t) 9 [v] = some (x0 :: x1 :: x2 :: x3 :: x4 :: x5 :: x6 :: x7 :: x8 :: v :: t) := putC_set (x := x9) rfl
theorem putC_c10 {α : Type} {x0 x1 x2 x3 x4 x5 x6 x7 x8 x9 x10 v : α} {t : List α} : putC (x0 :: x1 :: x2 :: x3 :: x4 :: x5 :: x6 :: x7 :: x8 :: x9 :: x10 :: t) 10 [v] = some (x0 :: x1 :: x2 :: x3 :: x4 :: x5 :: x6 :: x7 :: x8 :: x9 :: v :: t) := putC_set (x := x10) rfl
theorem putC_c11 {α : Type} {x0 x1 x2 x3 x4 x5 x6 x7 x8 x9 x10 x11 v : α} {t : List α} : putC (x0 :: x1 :: x2 :: x3 :: x4 :: x5 :: x6 :: x7 :: x8 :: x9 :: x10 :: x11 :: t) 11 [v] = some (x0 :: x1 :: x2 :: x3 :: x4 :: x5 :: x6 :: x7 :: x8 :: x9 :: x10 :: v :: t) := putC_set (x := x11) rfl
theorem cutC_k1 {α : Type} {x0 : α} {t : List α} : cutC (x0 :: t) 0 1 = some [x0] := by simp [cutC]
theorem cutC_k2 {α : Type} {x0 x1 : α} {t : List α} : cutC (x0 :: x1 :: t) 0 2 = some [x0, x1] := by simp [cutC]
theorem cutC_k3 {α : Type} {x0 x1 x2 : α} {t : List α} : cutC (x0 :: x1 :: x2 :: t) 0 3 = some [x0, x1, x2] := by simp [cutC]
theorem cutC_k4 {α : Type} {x0 x1 x2 x3 : α} {t : List α} : cutC (x0 :: x1 :: x2 :: x3 :: t) 0 4 = some [x0, x1, x2, x3] := by simp [cutC]
theorem cutC_k5 {α : Type} {x0 x1 x2 x3 x4 : α} {t : List α} : cutC (x0 :: x1 :: x2 :: x3 :: x4 :: t) 0 5 = some [x0, x1, x2, x3, x4] := by simp [cutC]
theorem cutC_k6 {α : Type} {x0 x1 x2 x3 x4 x5 : α} {t : List α} : cutC (x0 :: x1 :: x2 :: x3 :: x4 :: x5 :: t) 0 6 = some [x0, x1, x2, x3, x4, x5] := by simp [cutC]
theorem cutC_k7 {α : Type} {x0 x1 x2 x3 x4 x5 x6 : α} {t : List α} : cutC (x0 :: x1 :: x2 :: x3 :: x4 :: x5 :: x6 :: t) 0 7 = some [x0, x1, x2, x3, x4, x5, x6] := by simp [cutC]
theorem cutC_k8 {α : Type} {x0 x1 x2 x3 x4 x5 x6 x7 : α} {t : List α} : cutC (x0 :: x1 :: x2 :: x3 :: x4 :: x5 :: x6 :: x7 :: t) 0 8 = some [x0, x1, x2, x3, x4, x5, x6, x7] := by simp [cutC]
theorem cutC_k9 {α : Type} {x0 x1 x2 x3 x4 x5 x6 x7 x8 : α} {t : List α} : cutC (x0 :: x1 :: x2 :: x3 :: x4 :: x5 :: x6 :: x7 :: x8 :: t) 0 9 = some [x0, x1, x2, x3, x4, x5, x6, x7, x8] := by simp [cutC]
theorem cutC_k10 {α : Type} {x0 x1 x2 x3 x4 x5 x6 x7 x8 x9 : α} {t : List α} : cutC (x0 :: x1 :: x2 :: x3 :: x4 :: x5 :: x6 :: x7 :: x8 :: x9 :: t) 0 10 = some [x0, x1, x2, x3, x4, x5, x6, x7, x8, x9] := by simp [cutC]
theorem cutC_k11 {α : Type} {x0 x1 x2 x3 x4 x5 x6 x7 x8 x9 x10 : α} {t : List α} : cutC (x0 :: x1 :: x2 :: x3 :: x4 :: x5 :: x6 :: x7 :: x8 :: x9 :: x10 :: t) 0 11 = some [x0, x1, x2, x3, x4, x5, x6, x7, x8, x9, x10] := by simp [cutC]
theorem flatR_own (m : Bool) (xs : List (List D)) : flatR (.tree (ownCells m xs)) = true := by
 simp only [flatR, ownCells_ids, List.isEmpty_nil, Bool.and_true]
 unfold ownCells
 rw [List.all_map, List.all_eq_true]
 intro x _
 cases x <;> rfl
def SubO : List Nat → Hp → Hp → Prop
 | _, [], _ => True
 | seen, (i, r) :: t, hp => (elemB i seen = true ∨ getH hp i = r) ∧ SubO (i :: seen) t hp
theorem SubO.get' : ∀ {l hp : Hp} {seen : List Nat}, SubO seen l hp → ∀ id r, id ∉ seen → getH l id = some r → getH hp id = some r
 | [], hp, seen, _, id, r, _, h => by cases h
 | (i, x) :: t, hp, seen, h, id, r, hns, hg => by
  rw [getH_cons] at hg
  by_cases hi : id = i
  ·subst hi
   rw [if_pos rfl] at hg
   rcases h.1 with h1 | h1
   ·exact absurd (elemB_iff.1 h1) hns
   ·rw [h1]; exact hg
  ·rw [if_neg hi] at hg
   exact SubO.get' h.2 id r (by simp [hi, hns]) hg
theorem SubO.get {l hp : Hp} (h : SubO [] l hp) : HSub l hp := fun id r hg => SubO.get' h id r (by simp) hg
theorem HSub.over {i : Nat} {r r' : Option Res} {hp : Hp} (h : getH hp i = r') : HSub ([(i, r')] ++ [(i, r)]) hp := fun id x hx => by
 have hx' : getH ((i, r') :: [(i, r)]) id = some x := hx
 rw [getH_cons] at hx'
 by_cases hi : id = i
 ·subst hi; rw [if_pos rfl] at hx'; rw [h]; exact hx'
 ·rw [if_neg hi, getH_cons, if_neg hi] at hx'; cases hx'
theorem zerosA_idsR (n : Nat) (zs : List AV) : AV.idsL (zerosA n zs) = (List.replicate n (AV.idsL zs)).flatten := by
 induction n with
 | zero => rfl
 | succ n ih => simp only [zerosA, idsL_append, ih, List.replicate_succ, List.flatten_cons]
theorem repNil (n : Nat) : (List.replicate n ([] : List Nat)).flatten = [] := by
 induction n with
 | zero => rfl
 | succ n ih => simp only [List.replicate_succ, List.flatten_cons, ih, List.nil_append]
theorem LeA.gtg {id : Nat} {xs ys : List (List D)} (h : xs = ys) : LeA (.gt id xs) (.gt id ys) := h ▸ .refl _
theorem LeA.msn {id n n' : Nat} (h : n = n') : LeA (.ms id n) (.ms id n') := h ▸ .refl _
theorem own_next (m : Bool) (P : List (List D)) (row : List D) (B : List AV) : ownCells m P ++ (row.map (ownD m) ++ B) = ownCells m (P ++ [row]) ++ B := by simp [ownCells]
theorem own_len {α : Type} {f : α → List D} {k : Nat} (m : Bool) {l : List α} (hk : ∀ x, x ∈ l → (f x).length = k) : (ownCells m (l.map f)).length = l.length * k := by
 rw [ownCells_len (k := k)]
 ·simp
 ·intro x hx
  obtain ⟨y, hy, rfl⟩ := List.mem_map.1 hx
  exact hk y hy
theorem zerosA_map (f : AV → AV) (zs : List AV) : ∀ n, (zerosA n zs).map f = zerosA n (zs.map f)
 | 0 => rfl
 | n + 1 => by simp [zerosA, zerosA_map f zs n]
section
variable {c : Ctx} {env : Env} {hp : Hp} {K : Kt} {code : Code}
theorem CWp.reCell (id off : Nat) {x y : AV} {cs cs' : List AV} (hb : getH hp id = some (.tree cs)) (hc : cs[off]? = some x) (hput : putC cs off [y] = some cs')
  (hxy : ∀ G T w v S, CellR G T w x v S → ∃ S', S'.Sublist S ∧ CellR G T w y v S')
  (hn : CWp c code ⟨env, (id, some (.tree cs')) :: hp⟩ K) : CWp c code ⟨env, hp⟩ K := by
 rintro a w ⟨G, hr⟩
 obtain ⟨b, vs, e, Ss, hT⟩ := hr.heap id _ hb
 obtain ⟨hoff, hcv⟩ := List.getElem?_eq_some_iff.1 hc
 have hov : off < vs.size := by have := hT.len; omega
 obtain ⟨p1, p2, p3⟩ := putC_spec hput
 have q0 := hT.cell off hoff hov
 rw [hcv] at q0
 obtain ⟨S', h1, h2⟩ := hxy _ _ _ _ _ q0
 obtain ⟨G2, hR, _⟩ := hr.setTree (cs' := cs') (vs' := vs) (Ss' := fun i => if i = off then S' else Ss i) hb hT p1 rfl (fun i _ => by
  by_cases hio : i = off
  ·subst hio; simpa using h1
  ·rw [if_neg hio]; exact List.Sublist.refl _) (fun i hi hvi => by
  have q1 := p3 i
  rw [List.getElem?_eq_getElem hi] at q1
  by_cases hio : i = off
  ·subst hio
   rw [if_pos (by simp)] at q1
   simp only [Nat.sub_self, List.getElem?_cons_zero, Option.some.injEq] at q1
   rw [q1]
   simpa using h2
  ·rw [if_neg (by simp only [List.length_cons, List.length_nil]; omega)] at q1
   have hic : i < cs.length := by omega
   rw [List.getElem?_eq_getElem hic] at q1
   rw [Option.some.inj q1]
   have := hT.cell i hic hvi
   simpa [hio] using this)
 have hw : w.setRow b vs = w := setRow_self w b vs e _ hT.at_
 rw [hw] at hR
 exact hn a w ⟨G2, hR⟩
theorem CWp.reTree (id : Nat) {cs : List AV} (cs' : List AV) (hb : getH hp id = some (.tree cs)) (h : cs = cs') (hn : CWp c code ⟨env, (id, some (.tree cs')) :: hp⟩ K) : CWp c code ⟨env, hp⟩ K := by
 subst h
 rintro a w ⟨G, hr⟩
 refine hn a w ⟨G, ?_⟩
 have hsame : ∀ i, getH ((id, some (Res.tree cs)) :: hp) i = getH hp i := fun i => by
  rw [getH_cons]
  split
  ·rename_i e; subst e; exact hb.symm
  ·rfl
 have ht : tokf ((id, some (Res.tree cs)) :: hp) = tokf hp := by funext i; unfold tokf; rw [hsame]
 exact ⟨hr.size, hr.defers, fun i v h => by rw [ht]; exact hr.slots i v h, fun i r h => by rw [ht]; exact hr.heap i r (by rw [← hsame]; exact h),
  fun i j h1 h2 => hr.disj i j (by rw [← hsame]; exact h1) (by rw [← hsame]; exact h2), fun i h => hr.new i (by rw [← hsame]; exact h), hr.frm, hr.top,
  fun i l h' => by
   show (G.loc i).head? = l.head? ∧ (getH ((id, some (Res.tree cs)) :: hp) i).isSome ∧ tokf ((id, some (Res.tree cs)) :: hp) i = none
   rw [hsame, ht]; exact hr.kept i l h'⟩
theorem CWp.emptyCell (id off : Nat) {m : Bool} {xs : List (List D)} {cs cs' : List AV} (hb : getH hp id = some (.tree cs)) (hc : cs[off]? = some (.own m (.sl xs))) (hx : xs = []) (hput : putC cs off [.d (.sl [])] = some cs')
  (hn : CWp c code ⟨env, (id, some (.tree cs')) :: hp⟩ K) : CWp c code ⟨env, hp⟩ K :=
 CWp.reCell id off hb hc hput (fun G T w v S h => ⟨[], List.nil_sublist _, rfl, by subst hx; exact h.see⟩) hn
theorem CWp.fullCell (id off : Nat) (m : Bool) {xs : List (List D)} {cs cs' : List AV} (hb : getH hp id = some (.tree cs)) (hc : cs[off]? = some (.d (.sl []))) (hx : xs = []) (hput : putC cs off [.own m (.sl xs)] = some cs')
  (hn : CWp c code ⟨env, (id, some (.tree cs')) :: hp⟩ K) : CWp c code ⟨env, hp⟩ K :=
 CWp.reCell id off hb hc hput (fun G T w v S h => ⟨[], List.nil_sublist _, by subst hx; exact TreeD.ofFlat rfl h.2.d_inv⟩) hn
end
def mkL {α : Type} (one : Int → α → α) (sz : α → Int) : Int → List α → List α
 | _, [] => []
 | k, x :: r => one k x :: mkL one sz (k + sz x) r
def szL {α : Type} (sz : α → Int) : List α → Int
 | [] => 0
 | x :: r => sz x + szL sz r
theorem szL_append {α : Type} {sz : α → Int} : ∀ {a b : List α}, szL sz (a ++ b) = szL sz a + szL sz b
 | [], b => by simp [szL]
 | x :: r, b => by simp only [List.cons_append, szL, szL_append (a := r)]; omega
theorem mkL_append {α : Type} {one : Int → α → α} {sz : α → Int} : ∀ {a b : List α} {k : Int}, mkL one sz k (a ++ b) = mkL one sz k a ++ mkL one sz (k + szL sz a) b
 | [], b, k => by simp [mkL, szL]
 | x :: r, b, k => by simp only [List.cons_append, mkL, szL, mkL_append (a := r)]; rw [show k + sz x + szL sz r = k + (sz x + szL sz r) by omega]
theorem mkL_len {α : Type} {one : Int → α → α} {sz : α → Int} : ∀ {a : List α} {k : Int}, (mkL one sz k a).length = a.length
 | [], _ => rfl
 | x :: r, k => by simp only [mkL, List.length_cons, mkL_len (a := r)]
theorem mkL_own_len {α : Type} {one : Int → α → α} {sz : α → Int} {f : α → List D} {kk : Nat} (m : Bool) (hk : ∀ x, (f x).length = kk) {l : List α} {k : Int} : (ownCells m ((mkL one sz k l).map f)).length = l.length * kk := by
 rw [own_len (k := kk) m (fun x _ => hk x), mkL_len]
theorem mkL_snoc {α : Type} {one : Int → α → α} {sz : α → Int} {a : List α} {y : α} {k : Int} : mkL one sz k (a ++ [y]) = mkL one sz k a ++ [one (k + szL sz a) y] := by
 rw [mkL_append]; rfl
theorem szL_snoc {α : Type} {sz : α → Int} {a : List α} {y : α} : szL sz (a ++ [y]) = szL sz a + sz y := by
 rw [szL_append]; simp [szL]
theorem szL_nonneg {α : Type} {sz : α → Int} (h : ∀ x, 0 ≤ sz x) : ∀ {l : List α}, 0 ≤ szL sz l
 | [] => by simp [szL]
 | x :: r => by have := h x; have := szL_nonneg h (l := r); simp only [szL]; omega
theorem mkL_at {α : Type} {one : Int → α → α} {sz : α → Int} {f : α → List D} {pre rest l : List α} {y : α} {k : Int} (h : pre ++ y :: rest = l) :
  ((mkL one sz k l).map f)[pre.length]? = some (f (one (k + szL sz pre) y)) := by
 subst h
 rw [mkL_append, mkL, List.map_append, List.map_cons, List.getElem?_append_right (by simp [mkL_len])]
 simp [mkL_len]
def numsD : List (List D) → Option (List Int)
 | [] => some []
 | [.int .u8 n] :: r => match numsD r with | some l => some (n :: l) | none => none
 | _ => none
theorem numsD_spec : ∀ {xs : List (List D)} {ns : List Int}, numsD xs = some ns → xs = ns.map fun n => [.int .u8 n]
 | [], ns, h => by simp only [numsD, Option.some.injEq] at h; subst h; rfl
 | x :: r, ns, h => by
  unfold numsD at h
  split at h
  ·cases ‹_ :: _ = []›
  ·rename_i n r' he
   cases he
   cases hr : numsD r with
   | none => simp [hr] at h
   | some l =>
    simp only [hr, Option.some.injEq] at h
    subst h
    rw [numsD_spec hr]; rfl
  ·cases h
theorem numsD_enc : ∀ (bs : List UInt8), numsD (bs.map fun b => [.int .u8 (b.toNat : Int)]) = some (bs.map fun b => (b.toNat : Int))
 | [] => rfl
 | b :: r => by simp only [List.map_cons, numsD, numsD_enc r]
def strN (ns : List Int) : List UInt8 := ns.map fun n => UInt8.ofNat n.toNat
theorem strN_enc (bs : List UInt8) : strN (bs.map fun b => (b.toNat : Int)) = bs := by
 unfold strN
 rw [List.map_map]
 conv => rhs; rw [← List.map_id bs]
 refine List.map_congr_left (fun b _ => ?_)
 simp
section
variable {c : Ctx} {all : Array Oper} {chk : List Rec → Prop} {os : List Oper} {recs : List Rec} {env : Env} {hp : Hp} {Q : St → Prop}
variable {d ty : Nat} {pos : String} {af : Array Edge} {g : Option (Nat × Bool)} {pg : List (Nat × AV)}
variable {t yt : TypeId} {x y : Operand}
theorem Walk.bytesStr {e yb : Nat} {xs : List (List D)} {ns : List Int} {vx : AV} (ht : SlT c.P t e 1 yb) (hyt : c.P.underlying yt = some .string) (hu : c.P.underlying e = some (.int .u8)) (hg : GH all env g pg) (hd : Nat.blt d c.n = true)
  (hx : opd env x = some vx) (hv : vx.toD = some (.sl xs)) (hns : numsD xs = some ns)
  (hn : Walk c all chk os (mkRec (pg ++ opF x vx) [] [] ⟨some (d, .d (.str (strN ns))), []⟩ :: recs) ⟨(d, .d (.str (strN ns))) :: env, hp⟩ Q) :
  Walk c all chk (⟨some d, .convert t yt x, ty, pos, af, g⟩ :: os) recs ⟨env, hp⟩ Q :=
 Walk.pure1 hg hd hx (fun a G T w h => ⟨.string ⟨(strN ns).toArray⟩, by
  have h1 := h.toD hv
  have hxs := numsD_spec hns
  subst hxs
  rcases h1.sl_cells (k := 1) (by intro e he; obtain ⟨n, _, rfl⟩ := List.mem_map.1 he; rfl) with ⟨oa, cap, h2, h3, h4⟩ | ⟨b, off, cap, news, h2, h3, h4, h5, h6, h7⟩
  ·have hn0 : ns = [] := by simpa using h3
   subst hn0
   cases oa with
   | none =>
    have := run_convert_bytes_nil (P := c.P) w t e ht.und hu 0 cap yt hyt
    simp only [execOp, h2, Sem.run_bind, this, Result.andThen_ok, Sem.run_pure]
    rfl
   | some ad =>
    have h8 : (loadCells ad 0).run c.P w = .ok (([] : List Int).map (Value.int .u8)).toArray w := run_loadCells_list (P := c.P) w ad [] (fun j v hj => by simp at hj)
    have h9 := run_bytesToString (P := c.P) w ad 0 cap [] h8
    have := run_convert_bytes_string (P := c.P) w t yt e (some ad) 0 cap ht.und hu hyt
    rw [h9] at this
    simp only [execOp, h2, Sem.run_bind, this, Result.andThen_ok, Sem.run_pure]
    rfl
  ·have hlen : ns.length = (ns.map fun n => [D.int .u8 n]).length := by simp
   have := run_convert_bytes_arg (P := c.P) w t e ht.und hu b off _ cap ns hlen (fun i hi => by
    have hi' : i < ns.length := by simpa using hi
    have hin : i < news.length := by rw [h4]; simpa using hi'
    have h8 := (h5 i _ (List.getElem?_eq_getElem hin)).2
    rw [h8]
    have h9 := h7 i hi 0 (by simp) (by simpa using hin)
    simp only [List.getElem_map, List.getElem_cons_zero, Nat.mul_one, Nat.add_zero] at h9
    generalize news[i] = u at h9
    cases h9
    simp [List.getD, List.getElem?_eq_getElem hi']) yt hyt
   simp only [execOp, h2, Sem.run_bind, this, Result.andThen_ok, Sem.run_pure]
   rfl, .d (.str _)⟩) hn
theorem Walk.sliceLitGV {t : TypeId} {parts : Array (Nat × Operand)} {n : Nat} {ks : List Nat} {xs : List Operand} {vs zs r : List AV} {es : List (List D)} {e k yb : Nat} (id : Nat) (ht : SlT c.P t e k yb) (hz : TyZ c.P e k zs) (hzk : zs.length = k) (hk : 0 < k)
  (hparts : parts = (ks.zip xs).toArray) (hlen : ks.length = xs.length) (hsmall : n * k ≤ 16777216) (hpos : 0 < n) (hg : GH all env g pg) (hd : Nat.blt d c.n = true) (hx : opdL env xs = some vs)
  (hf : fillA (fun i => some (i * k, k)) (zerosA n zs) (ks.zip vs) = some r) (hc : chunkD n k r = some es) (hfr : freshB env hp [id] = true)
  (hn : Walk c all chk os (mkRec (pg ++ opFL xs vs) [] [id] ⟨some (d, .gv id es), [(id, some (.tok es.length k))]⟩ :: recs) ⟨(d, .gv id es) :: env, (id, some (.tok es.length k)) :: hp⟩ Q) :
  Walk c all chk (⟨some d, .buildSlice t n parts, ty, pos, af, g⟩ :: os) recs ⟨env, hp⟩ Q := by
 subst hparts
 obtain ⟨c1, c2, c3, c4⟩ := chunkD_spec hc
 refine Walk.mkRowGV id hg hd hx c2 hfr (fun a G T w h => ?_) hn
 obtain ⟨ie, hi1, hi2, hi3⟩ := ht.inf
 obtain ⟨i', z, z1, z2, z3, z4⟩ := hz.inf
 rw [hi1] at z1
 cases z1
 have hz0 := constAVs_rel (G := G) (T := T) (w := w) z4
 have hzr := zeros_rel (by simpa using hz0) n (by omega)
 obtain ⟨lv, hlv, hal⟩ := fillA_spec (ks.zip vs) (ks.zip (xs.map a.eval)) _ r _ hf hzr (by simp [h.1]) (zipVs h hlen)
 have hpos' : ¬ n * ie.size = 0 := by rw [hi2]; exact Nat.ne_of_gt (Nat.mul_pos hpos hk)
 have hrun := run_buildSlice (P := c.P) w t e n ((ks.zip xs).toArray.map fun (i, x) => (i, a.eval x)) lv ie z ht.und hi1 z3 (by rw [hi2]; omega) hpos' (by
  rw [hi2, ← hlv]
  congr 1
  ·rw [hzk]
  ·simp [List.zip_map_right, Prod.map])
 refine ⟨lv, e, ?_, by rw [hal.size, c3, c1], fun i hi j hj hu => ?_⟩
 ·rw [c1]
  simp only [execOp, Sem.run_bind, hrun, Result.andThen_ok, Sem.run_pure]
 ·have hl : i * k + j < r.length := by rw [← hal.size]; exact hu
  exact (hal.rel _ hl hu).toD (c4 i hi j hj hl)
theorem RelA.mo_eq {G : Gh} {T : TokF} {w : World} {id off n : Nat} {v : Value} (h : RelA G T w (.mo id off n) v) : ∃ b o cap, ((G.loc id).head? = some b ∧ T id = none) ∧ v = .slice (some ⟨b, o, none⟩) n cap ∧ n ≤ cap ∧ (n = 0 ∨ o = off) := by
 cases h with | mo h hT hcap ho => exact ⟨_, _, _, ⟨h, hT⟩, rfl, hcap, ho⟩
theorem Walk.cutM_h {e k yb id m : Nat} {o : Operand} {kd : IntKind} {n : Int} {b : Nat} (ht : SlT c.P t e k yb) (hg : GH all env g pg) (hd : Nat.blt d c.n = true)
  (hx : opd env x = some (.ms id m)) (ho : opd env o = some (.d (.int kd n))) (hi : n = ↑b) (hb : b ≤ m)
  (hn : Walk c all chk os (mkRec (pg ++ (opF x (.ms id m) ++ opF o (.d (.int kd n)))) [] [] ⟨some (d, .ms id b), []⟩ :: recs) ⟨(d, .ms id b) :: env, hp⟩ Q) :
  Walk c all chk (⟨some d, .slice t x none (some o) none, ty, pos, af, g⟩ :: os) recs ⟨env, hp⟩ Q :=
 Walk.pure2 hg hd hx ho (fun a G T w h1 h2 => by
  obtain ⟨bl, cap, hl, he, hcap⟩ := h1.ms_eq
  have hbd := run_bounds (P := c.P) (w := w) true m cap (lo := none) (hi := some (.int kd b)) (a := 0) (b := b) (.inl ⟨rfl, rfl⟩) (.inr ⟨kd, rfl⟩) (Nat.zero_le _) (by omega)
  refine ⟨.slice (some ⟨bl, 0, none⟩) b cap, ?_, .ms hl.1 hl.2 (by omega)⟩
  simp only [execOp, h2.int_eq, hi, he, Option.map_none, Option.map_some, Instr.sliceAt, Sem.run_bind, run_underlying ht.und, Result.andThen_ok, Instr.slice, hbd, ht.run_size, Sem.run_pure, Nat.zero_mul, Nat.sub_zero, add_off, Nat.zero_add, ite_self]) hn
theorem Walk.cutM_l {e k yb id m : Nat} {o : Operand} {kd : IntKind} {n : Int} {b : Nat} (ht : SlT c.P t e k yb) (hg : GH all env g pg) (hd : Nat.blt d c.n = true)
  (hx : opd env x = some (.ms id m)) (ho : opd env o = some (.d (.int kd n))) (hi : n = ↑b) (hb : b ≤ m)
  (hn : Walk c all chk os (mkRec (pg ++ (opF x (.ms id m) ++ opF o (.d (.int kd n)))) [] [] ⟨some (d, .mo id (b * k) (m - b)), []⟩ :: recs) ⟨(d, .mo id (b * k) (m - b)) :: env, hp⟩ Q) :
  Walk c all chk (⟨some d, .slice t x (some o) none none, ty, pos, af, g⟩ :: os) recs ⟨env, hp⟩ Q :=
 Walk.pure2 hg hd hx ho (fun a G T w h1 h2 => by
  obtain ⟨bl, cap, hl, he, hcap⟩ := h1.ms_eq
  have hbd := run_bounds (P := c.P) (w := w) true m cap (lo := some (.int kd b)) (hi := none) (a := b) (b := m) (.inr ⟨kd, rfl⟩) (.inl ⟨rfl, rfl⟩) hb (by omega)
  refine ⟨.slice (some ⟨bl, if cap = b then 0 else b * k, none⟩) (m - b) (cap - b), ?_, .mo hl.1 hl.2 (by omega) ?_⟩
  ·simp only [execOp, h2.int_eq, hi, he, Option.map_none, Option.map_some, Instr.sliceAt, Sem.run_bind, run_underlying ht.und, Result.andThen_ok, Instr.slice, hbd, ht.run_size, Sem.run_pure, add_off, Nat.zero_add]
   by_cases h : cap = b
   ·simp [h]
   ·simp [h]
  ·by_cases h : cap = b
   ·left; omega
   ·right; rw [if_neg h]) hn
theorem R.storeRow {G : Gh} {s : St} {a : Act} {w : World} (hr : R c G s a w) {id b off : Nat} {cs vs cs' : List AV} {us : Array Value} {vl : List Value} {e : TypeId} {Ss : Nat → List Nat} (hb : getH s.hp id = some (.tree cs)) (hT : TreeR G (tokf s.hp) w id cs b us e Ss)
  (hvr : AllR G (tokf s.hp) w vs vl.toArray) (hne : vs ≠ []) (hput : putC cs off vs = some cs') :
  off + vl.length ≤ us.size ∧ ∃ G', R c G' ⟨s.env, (id, some (.tree cs')) :: s.hp⟩ a (w.setRow b (us.toList.take off ++ vl ++ us.toList.drop (off + vl.length)).toArray) := by
 obtain ⟨p1, p2, p3⟩ := putC_spec hput
 have p2' := p2.resolve_left hne
 have hsz := hvr.size
 simp only [List.size_toArray] at hsz
 have h4 := hT.len
 have hle : off + vl.length ≤ us.size := by omega
 refine ⟨hle, ?_⟩
 let row : Array Value := (us.toList.take off ++ vl ++ us.toList.drop (off + vl.length)).toArray
 have hrs : row.size = us.size := by
  simp only [row, List.size_toArray, List.length_append, List.length_take, List.length_drop, Array.length_toList]; omega
 have hrow : ∀ i, row[i]? = if off ≤ i ∧ i < off + vl.length then vl[i - off]? else us[i]? := fun i => by
  simp only [row, List.getElem?_toArray]
  rw [List.append_assoc, List.getElem?_append]
  simp only [List.length_take, Array.length_toList]
  by_cases hi : i < off
  ·rw [if_pos (by omega), if_neg (by omega)]
   simp [hi]
  ·rw [if_neg (by omega), List.getElem?_append]
   have hm : min off us.size = off := by omega
   rw [hm]
   by_cases hi2 : i < off + vl.length
   ·rw [if_pos (by omega), if_pos (by omega)]
   ·rw [if_neg (by omega), if_neg (by omega)]
    rw [List.getElem?_drop, show off + vl.length + (i - off - vl.length) = i by omega]
    simp
 let Ss' : Nat → List Nat := fun i => if off ≤ i ∧ i < off + vs.length then [] else Ss i
 obtain ⟨G', hR, _⟩ := hr.setTree (cs' := cs') (vs' := row) (Ss' := Ss') hb hT p1 hrs (fun i hi => by
  simp only [Ss']
  split
  ·exact List.nil_sublist _
  ·exact List.Sublist.refl _) (fun i hi hvi => by
  have q1 := p3 i
  have q2 := hrow i
  rw [List.getElem?_eq_getElem hi] at q1
  rw [Array.getElem?_eq_getElem hvi, hsz] at q2
  by_cases hc : off ≤ i ∧ i < off + vs.length
  ·rw [if_pos hc] at q1 q2
   have hlt : i - off < vs.length := by omega
   have hlt' : i - off < vl.length := by omega
   rw [List.getElem?_eq_getElem hlt] at q1
   rw [List.getElem?_eq_getElem hlt'] at q2
   have h5 : Ss' i = [] := by simp [Ss', hc]
   rw [h5, Option.some.inj q1, Option.some.inj q2]
   have h6 := hvr.rel (i - off) hlt (by simpa using hlt')
   simp only [List.getElem_toArray] at h6
   revert h6
   generalize vs[i - off] = z
   intro h6
   cases z with
   | own m y => cases h6
   | _ => exact ⟨rfl, h6⟩
  ·rw [if_neg hc] at q1 q2
   have hlt : i < cs.length := by omega
   have hlt' : i < us.size := by omega
   rw [List.getElem?_eq_getElem hlt] at q1
   rw [Array.getElem?_eq_getElem hlt'] at q2
   have h5 : Ss' i = Ss i := by simp only [Ss']; rw [if_neg hc]
   rw [h5, Option.some.inj q1, Option.some.inj q2]
   exact hT.cell i hlt hlt')
 exact ⟨G', hR⟩
theorem Walk.clearT {id off n k e yb : Nat} {cs cs' zs : List AV} (ht : SlT c.P t e k yb) (hz : TyZ c.P e k zs) (hzk : zs.length = k) (hk : 0 < k) (h1 : allOne zs = true) (hg : GH all env g pg) (hx : opd env x = some (.mo id off n))
  (hb : getH hp id = some (.tree cs)) (hput : putC cs off (zerosA n zs) = some cs')
  (hn : Walk c all chk os (mkRec (pg ++ opF x (.mo id off n)) [(id, .tree cs)] [] ⟨none, [(id, some (.tree cs'))]⟩ :: recs) ⟨env, (id, some (.tree cs')) :: hp⟩ Q) :
  Walk c all chk (⟨none, .call ⟨.builtin .clear, #[x], #[t]⟩, ty, pos, af, g⟩ :: os) recs ⟨env, hp⟩ Q := by
 refine ⟨pg ++ opF x (.mo id off n), [(id, .tree cs)], [], _, ?_, facts_append hg.facts (opF_holds hx), hh1 hb, by simp, hn⟩
 intro s a w hrel hp' hh _ K Q' hK
 obtain ⟨G, hr⟩ := hrel
 have hbx := hh1' hh
 have e1 := hr.opd (opd_facts hx (fun p hm => hp' p (by simp [hm])))
 obtain ⟨bl, o, cap, hl, he, hcap, ho⟩ := e1.mo_eq
 obtain ⟨b', us, et, Ss, hT⟩ := hr.heap id _ hbx
 obtain rfl := hT.head hl.1
 unfold wpO
 rw [if_pos (hg.gf.wanted hr (fun p hm => hp' p (by simp [hm])))]
 unfold Oper.wp
 rcases Nat.eq_zero_or_pos n with hn0 | hn0
 ·subst hn0
  have hcs : cs' = cs := by
   simp only [zerosA] at hput
   cases cs <;> simp only [putC, Option.some.injEq] at hput <;> exact hput.symm
  subst hcs
  have hrun : (execOp a.eval ⟨none, .call ⟨.builtin .clear, #[x], #[t]⟩, ty, pos, af, g⟩).run c.P w = .ok (.value (.tuple #[])) w := by
   simp [execOp, resolve, invoke, builtin, he, Builtin.clear_, run_underlying ht.und]
  rw [hrun, Oper.upon_value]
  refine hK _ _ ⟨G, ?_⟩
  have hsame : ∀ i, getH ((id, some (Res.tree cs')) :: s.hp) i = getH s.hp i := fun i => by
   rw [getH_cons]
   split
   ·rename_i e; subst e; exact hbx.symm
   ·rfl
  have htk : tokf ((id, some (Res.tree cs')) :: s.hp) = tokf s.hp := by funext i; unfold tokf; rw [hsame]
  have : R c G ⟨s.env, (id, some (Res.tree cs')) :: s.hp⟩ a w :=
   ⟨hr.size, hr.defers, fun i v h => by rw [htk]; exact hr.slots i v h, fun i r h => by rw [htk]; exact hr.heap i r (by rw [← hsame]; exact h),
   fun i j h1 h2 => hr.disj i j (by rw [← hsame]; exact h1) (by rw [← hsame]; exact h2), fun i h => hr.new i (by rw [← hsame]; exact h), hr.frm, hr.top,
   fun i l h' => by
    show (G.loc i).head? = l.head? ∧ (getH ((id, some (Res.tree cs')) :: s.hp) i).isSome ∧ tokf ((id, some (Res.tree cs')) :: s.hp) i = none
    rw [hsame, htk]; exact hr.kept i l h'⟩
  exact this.putNone
 ·obtain rfl : o = off := ho.resolve_left (by omega)
  obtain ⟨ie, z, z1, z2, z3, z4⟩ := hz.inf
  have hz0 := constAVs_rel (G := G) (T := tokf s.hp) (w := w) z4
  have hzr := zeros_rel (by simpa using hz0) n (by omega)
  have hzs : z.cells.size = k := by have := hz0.size; simp at this; omega
  let vl : List Value := (Builtin.zeroCells z.cells n).toList
  have hvl : vl.toArray = (Array.range (n * zs.length)).map (z.cells[· % z.cells.size]!) := by
   simp only [vl, Builtin.zeroCells, Array.toArray_toList]
   rw [hzs, hzk]
  have hvr : AllR G (tokf s.hp) w (zerosA n zs) vl.toArray := by rw [hvl]; exact hzr
  have hne : zerosA n zs ≠ [] := fun h => by
   have := congrArg List.length h
   rw [zerosA_len] at this
   have h2 : 0 < n * zs.length := Nat.mul_pos hn0 (by omega)
   simp only [List.length_nil] at this
   omega
  obtain ⟨hle, G', hR⟩ := hr.storeRow hbx hT hvr hne hput
  have hzone : ∀ i (hi : i < zs.length) (hv : i < z.cells.size), z.cells[i].oneCell' = true := fun i hi hv => by
   have := hz0.rel i hi (by simpa using hv)
   simp only [List.getElem_toArray, Array.getElem_toList] at this
   exact this.one (allOne_iff h1 _ (List.getElem_mem hi))
  have hst := run_storeCells_at c.P bl o et vl 0 us w hT.at_ (by omega) (fun u hu => by
   simp only [vl, Builtin.zeroCells, Array.toList_map, List.mem_map] at hu
   obtain ⟨i, _, rfl⟩ := hu
   have hm : i % z.cells.size < z.cells.size := Nat.mod_lt _ (by omega)
   rw [getElem!_pos z.cells _ hm]
   exact hzone _ (by omega) hm)
  simp only [Nat.add_zero] at hst
  have hrun : (execOp a.eval ⟨none, .call ⟨.builtin .clear, #[x], #[t]⟩, ty, pos, af, g⟩).run c.P w = .ok (.value (.tuple #[])) (w.setRow bl (us.toList.take o ++ vl ++ us.toList.drop (o + vl.length)).toArray) := by
   obtain ⟨m, rfl⟩ : ∃ m, n = m + 1 := ⟨n - 1, by omega⟩
   have hzv : (zeroValue e).run c.P w = .ok z w := run_zero z1 z3
   simp only [vl] at hst
   simp [execOp, resolve, invoke, builtin, he, Builtin.clear_, run_underlying ht.und, hzv, hst, vl]
  rw [hrun, Oper.upon_value]
  exact hK _ _ ⟨G', hR.putNone⟩
end
section
variable {c : Ctx} {env : Env} {hp : Hp} {K : Kt} {code : Code}
theorem CWp.takeTree (id : Nat) (A B : List AV) {cs : List AV} (hb : getH hp id = some (.tree cs)) (h : cs = A ++ B) (hn : CWp c code ⟨env, (id, some (.tree A)) :: hp⟩ K) : CWp c code ⟨env, hp⟩ K := by
 subst h
 rintro a w ⟨G, hr⟩
 obtain ⟨b, vs, e, Ss, hT⟩ := hr.heap id _ hb
 have g2 : getH ((id, some (Res.tree A)) :: hp) id = some (.tree A) := by rw [getH_cons, if_pos rfl]
 have t2 : tokf ((id, some (Res.tree A)) :: hp) id = none := by unfold tokf; rw [g2]
 have s1 : (getH hp id).isSome := by rw [hb]; rfl
 let G' : Gh := { G with loc := fun i => bif Nat.beq i id then b :: (List.range A.length).flatMap Ss else G.loc i }
 have l1 : G'.loc id = b :: (List.range A.length).flatMap Ss := by simp [G']
 have l3 : ∀ i, i ≠ id → G'.loc i = G.loc i := fun i h2 => by simp [G', beq_ne h2]
 have hsub : ((List.range A.length).flatMap Ss).Sublist ((List.range (A ++ B).length).flatMap Ss) := by
  rw [List.length_append, List.range_add, List.flatMap_append]
  exact List.sublist_append_left _ _
 have hnd := hT.nodup
 rw [hT.loc] at hnd
 have hnd' := List.nodup_cons.1 hnd
 have hsub2 : ∀ x, x ∈ G'.loc id → x ∈ G.loc id := fun x hx => by
  rw [l1] at hx
  rw [hT.loc]
  rcases List.mem_cons.1 hx with h | h
  ·simp [h]
  ·exact List.mem_cons_of_mem _ (hsub.subset h)
 have hturn : Turn c G ⟨env, hp⟩ w G' ((id, some (.tree A)) :: hp) [id] := by
  refine ⟨fun i hi => ?_, fun i hi => ?_, fun _ _ => rfl, fun _ _ h => h, hr.top, fun i hi => .inr ⟨.inr ⟨?_, ?_⟩, ?_⟩, fun i hi hs x hx => ?_, fun i hi j hj hij => ?_, fun i hi l hl => ?_⟩ <;>
   simp only [List.mem_cons, List.not_mem_nil, or_false] at hi
  ·rw [getH_cons, if_neg hi]
  ·exact l3 i hi
  ·subst hi; exact t2
  ·subst hi; rw [l1, hT.loc]; rfl
  ·subst hi; intro p hp; rw [t2] at hp; cases hp
  ·subst hi; exact ⟨i, by simp, s1, hsub2 x hx⟩
  ·simp only [List.mem_cons, List.not_mem_nil, or_false] at hj; exact absurd (hi.trans hj.symm) hij
  ·subst hi; exact ⟨by rw [l1, ← (hr.kept i l hl).1, hT.loc]; rfl, by rw [g2]; rfl, t2⟩
 refine hn a w ⟨G', hturn.fin hr (fun i hi r hri => ?_)⟩
 simp only [List.mem_cons, List.not_mem_nil, or_false] at hi
 subst hi
 rw [g2] at hri
 cases hri
 refine ⟨b, vs, e, Ss, l1, hT.at_, by have := hT.len; simp at this; omega, ?_, fun x hx => hT.mine x (hsub2 x hx), fun j hj hjv => ?_⟩
 ·rw [l1]; exact List.nodup_cons.2 ⟨fun h => hnd'.1 (hsub.subset h), hsub.nodup hnd'.2⟩
 ·have h6 := hT.cell j (by simp; omega) hjv
  rw [List.getElem_append_left hj] at h6
  exact h6.map (hturn.cell hr hb (List.mem_append_left _ (List.getElem_mem hj))) (fun _ _ => rfl)
end
mutual
def renA (i j : Nat) : AV → AV
 | .ms a n => if a = i then .ms j n else .ms a n
 | .agg cs => .agg (renL i j cs)
 | .tup cs => .tup (renL i j cs)
 | x => x
def renL (i j : Nat) : List AV → List AV
 | [] => []
 | x :: r => renA i j x :: renL i j r
end
def soleA (i : Nat) : AV → Bool
 | .ms a _ => Nat.beq a i
 | .d _ => true
 | .nils => true
 | .agg cs => soleL cs
 | .tup cs => soleL cs
 | _ => false
where soleL : List AV → Bool
 | [] => true
 | x :: r => soleA i x && soleL r
theorem renL_len (i j : Nat) : ∀ l : List AV, (renL i j l).length = l.length
 | [] => rfl
 | x :: r => by simp [renL, renL_len i j r]
theorem renL_at (i j : Nat) : ∀ (l : List AV) (q : Nat) (h : q < l.length) (h' : q < (renL i j l).length), (renL i j l)[q] = renA i j l[q]
 | x :: r, 0, _, _ => rfl
 | x :: r, q + 1, h, h' => by simp only [renL, List.getElem_cons_succ]; exact renL_at i j r q (by simpa using h) (by simpa [renL] using h')
theorem soleL_at (i : Nat) : ∀ {l : List AV}, soleA.soleL i l = true → ∀ q (h : q < l.length), soleA i l[q] = true
 | x :: r, hs, q, h => by
  simp only [soleA.soleL, Bool.and_eq_true] at hs
  cases q with
  | zero => exact hs.1
  | succ q => exact soleL_at i hs.2 q (by simpa using h)
theorem RelA.ren {G G' : Gh} {T T' : TokF} {w : World} {i j : Nat} {x : AV} {v : Value} (h : RelA G T w x v) (hF : G'.F = G.F) (hl : G'.loc j = G.loc i) (hT : T' j = none) : soleA i x = true → RelA G' T' w (renA i j x) v := by
 induction h with
 | d h => intro _; exact .d (h.mono (fun b o ho => ⟨by rw [hF]; exact ho, rfl⟩))
 | @ms a n b cap h _ hc =>
  intro hs
  simp only [soleA] at hs
  obtain rfl := Nat.eq_of_beq_eq_true hs
  simp only [renA, if_true]
  exact .ms (by rw [hl]; exact h) hT hc
 | @agg cs vs hn h ih =>
  intro hs
  simp only [soleA] at hs
  simp only [renA]
  exact .agg (by rw [renL_len]; exact hn) (fun q hq hv => by
   have hq' : q < cs.length := by rw [renL_len] at hq; exact hq
   rw [renL_at i j cs q hq' hq]
   exact ih q hq' hv (soleL_at i hs q hq'))
 | @tup cs vs hn h ih =>
  intro hs
  simp only [soleA] at hs
  simp only [renA]
  exact .tup (by rw [renL_len]; exact hn) (fun q hq hv => by
   have hq' : q < cs.length := by rw [renL_len] at hq; exact hq
   rw [renL_at i j cs q hq' hq]
   exact ih q hq' hv (soleL_at i hs q hq'))
 | nils => intro _; exact .nils
 | _ => intro hs; simp [soleA] at hs
theorem FnD.out_ren {P : Program} {f : FuncId} {i : Nat} {args : List AV} {r : AV} {cs : List AV} (hc : AV.idsL cs = []) (hs : soleA i r = true) (h : FnD P f args [] r [(i, some (.tree cs))]) (j : Nat) :
  FnD P f args [] (renA i j r) [(j, some (.tree cs))] := by
 intro G w vals hok
 refine (h G w vals hok).mono ?_
 rintro e w' ⟨v, r', hp', G', rfl, ⟨rfl, rfl⟩, hret⟩
 have gi : getH ([(i, some (Res.tree cs))] ++ []) i = some (.tree cs) := by simp [getH]
 have gj : getH ([(j, some (Res.tree cs))] ++ []) j = some (.tree cs) := by simp [getH]
 have only : ∀ {a id : Nat} {x y : Res}, getH ([(a, some x)] ++ []) id = some y → id = a ∧ y = x := fun {a id x y} h => by
  have h' : getH [(a, some x)] id = some y := h
  rw [getH_cons] at h'
  split at h'
  ·rename_i e; cases h'; exact ⟨e, rfl⟩
  ·cases h'
 let G2 : Gh := { G' with loc := fun x => G'.loc i }
 have hown : ∀ b, b ∉ ownedL G [] := fun b hb => by simp [ownedL] at hb
 refine ⟨v, _, _, G2, rfl, ⟨rfl, rfl⟩, hret.res.ren rfl rfl (by unfold tokf; rw [gj]) hs, fun id x hx => ?_, fun id id' h1 h2 hne => ?_, fun id h1 b hb => hret.new i (by rw [gi]; rfl) b hb, hret.frm, hret.top, fun id hi => ?_⟩
 ·obtain ⟨rfl, rfl⟩ := only hx
  obtain ⟨bl, vs, e, Ss, h1, h2, h3, h4, h5, h6⟩ := hret.heap i _ gi
  refine ⟨bl, vs, e, Ss, h1, h2, h3, h4, h5, fun q hq hv => (h6 q hq hv).map (fun hx => ?_) (fun _ _ => rfl)⟩
  have hn : ∀ a, a ∉ (cs[q]).ids := fun a ha => by
   have := AV.mem_idsL (List.getElem_mem hq) ha
   rw [hc] at this; simp at this
  exact hx.mono (fun _ _ ho => ⟨ho, rfl⟩) (fun a ha => (hn a ha).elim) (fun a ha => (hn a ha).elim)
 ·obtain ⟨x, hx⟩ := Option.isSome_iff_exists.1 h1
  obtain ⟨y, hy⟩ := Option.isSome_iff_exists.1 h2
  exact absurd ((only hx).1.trans (only hy).1.symm) hne
 ·unfold isBox at hi
  simp [getH] at hi
end Go.Proofs.Ytadpcmcifbakoaa
