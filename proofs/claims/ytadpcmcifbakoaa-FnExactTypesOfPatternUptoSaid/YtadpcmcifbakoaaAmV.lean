/-
  THE ABSTRACT WALK, part V: trees: a row whose nested rows are its own: taken apart, put together, read, written.
-/
import Derived.Test.YtadpcmcifbakoaaAmU
namespace Go.Proofs.Ytadpcmcifbakoaa
open Go
set_option linter.unusedSimpArgs false
set_option linter.unusedVariables false
def Res.avs : Res → List AV
 | .box cs => cs
 | .tree cs => cs
 | _ => []
theorem Res.avs_ids {r : Res} {x : AV} (hx : x ∈ r.avs) : ∀ id, id ∈ x.ids → id ∈ r.ids := by
 intro id hid
 cases r with
 | box cs => exact AV.mem_idsL hx hid
 | tree cs => exact AV.mem_idsL hx hid
 | _ => simp [Res.avs] at hx
structure Turn (c : Ctx) (G : Gh) (s : St) (w : World) (G' : Gh) (hp' : Hp) (L : List Nat) : Prop where
 get : ∀ i, i ∉ L → getH hp' i = getH s.hp i
 loc : ∀ i, i ∉ L → G'.loc i = G.loc i
 fro : ∀ b, (∀ j, j ∈ L → (getH s.hp j).isSome → b ∉ G.loc j) → G'.F b = G.F b
 fle : ∀ b o, o < G.F b → o < G'.F b
 ftop : ∀ b, w.heap.size ≤ b → G'.F b = 0
 occ : ∀ i, i ∈ L → noOcc i s ∨ (LocEq (tokf hp') G' G i ∧ ∀ p, tokf hp' i = some p → tokf s.hp i = some p ∧ ∀ b, b ∈ G.loc i → G'.F b = G.F b)
 blk : ∀ i, i ∈ L → (getH hp' i).isSome → ∀ b, b ∈ G'.loc i → ∃ j, j ∈ L ∧ (getH s.hp j).isSome ∧ b ∈ G.loc j
 dis : ∀ i, i ∈ L → ∀ j, j ∈ L → i ≠ j → (getH hp' i).isSome → (getH hp' j).isSome → ∀ b, b ∈ G'.loc i → b ∉ G'.loc j
 keep : ∀ i, i ∈ L → ∀ l, c.kept i = some l → (G'.loc i).head? = l.head? ∧ (getH hp' i).isSome ∧ tokf hp' i = none
section
variable {c : Ctx} {G G' : Gh} {s : St} {a : Act} {w : World} {hp' : Hp} {L : List Nat}
theorem Turn.away (h : Turn c G s w G' hp' L) (hr : R c G s a w) {i : Nat} (hi : i ∉ L) (hs : (getH s.hp i).isSome) : ∀ b, b ∈ G.loc i → G'.F b = G.F b :=
 fun b hb => h.fro b (fun j hj hjs hbj => hr.disj i j hs hjs (fun e => hi (e ▸ hj)) b hb hbj)
theorem Turn.rel (h : Turn c G s w G' hp' L) (hr : R c G s a w) {x : AV} {v : Value} (hx : ∀ i, i ∈ L → noOcc i s → i ∉ x.ids) (hR : RelA G (tokf s.hp) w x v) : RelA G' (tokf hp') w x v := by
 refine hR.mono (fun b o ho => ⟨h.fle b o ho, rfl⟩) (fun i hi => ?_) (fun i hi p hp => ?_)
 ·by_cases hL : i ∈ L
  ·rcases h.occ i hL with ho | ho
   ·exact absurd hi (hx i hL ho)
   ·exact ho.1
  ·exact .inl (h.loc i hL)
 ·by_cases hL : i ∈ L
  ·rcases h.occ i hL with ho | ho
   ·exact absurd hi (hx i hL ho)
   ·obtain ⟨h1, h2⟩ := ho.2 p hp
    exact ⟨h1, fun b hb => ⟨rfl, h2 b hb⟩⟩
  ·have hT : tokf s.hp i = some p := by unfold tokf at hp ⊢; rw [h.get i hL] at hp; exact hp
   refine ⟨hT, fun b hb => ⟨rfl, h.away hr hL ?_ b hb⟩⟩
   obtain ⟨n, k⟩ := p
   rw [tokf_some.1 hT]; rfl
theorem Turn.slot (h : Turn c G s w G' hp' L) (hr : R c G s a w) {t : Nat} {x : AV} {v : Value} (ht : getE s.env t = some x) (hR : RelA G (tokf s.hp) w x v) : RelA G' (tokf hp') w x v :=
 h.rel hr (fun i _ ho hx => ho.1 t x ht hx) hR
theorem Turn.cell (h : Turn c G s w G' hp' L) (hr : R c G s a w) {j : Nat} {r : Res} {x : AV} {v : Value} (hj : getH s.hp j = some r) (hx : x ∈ r.avs) (hR : RelA G (tokf s.hp) w x v) : RelA G' (tokf hp') w x v :=
 h.rel hr (fun i _ ho hi => ho.2 j r hj (Res.avs_ids hx i hi)) hR
theorem Turn.fin (h : Turn c G s w G' hp' L) (hr : R c G s a w) (hL : ∀ i, i ∈ L → ∀ r, getH hp' i = some r → RelR G' (tokf hp') w i r) : R c G' ⟨s.env, hp'⟩ a w := by
 have hsome : ∀ i, i ∉ L → (getH hp' i).isSome → (getH s.hp i).isSome := fun i hi hs => by rw [h.get i hi] at hs; exact hs
 let own1 : List Nat := L.flatMap fun j => if (getH s.hp j).isSome then G.loc j else []
 have hown : ∀ b, b ∈ own1 ↔ ∃ j, j ∈ L ∧ (getH s.hp j).isSome ∧ b ∈ G.loc j := fun b => by
  simp only [own1, List.mem_flatMap]
  constructor
  ·rintro ⟨j, hj, hb⟩
   by_cases hs : (getH s.hp j).isSome
   ·rw [if_pos hs] at hb; exact ⟨j, hj, hs, hb⟩
   ·rw [if_neg hs] at hb; simp at hb
  ·rintro ⟨j, hj, hs, hb⟩
   exact ⟨j, hj, by rw [if_pos hs]; exact hb⟩
 refine ⟨hr.size, hr.defers, fun i v hi => h.slot hr hi (hr.slots i v hi), fun i r hi => ?_, fun i j h1 h2 hne b hb => ?_, fun i h1 b hb => ?_,
  hr.frm.trans (own1 := own1) ⟨rfl, rfl, rfl, Nat.le_refl _, fun b _ hb => ⟨rfl, h.fro b (fun j hj hs hbj => hb ((hown b).2 ⟨j, hj, hs, hbj⟩))⟩, fun b o ho => ⟨h.fle b o ho, rfl⟩⟩ (fun b hb => ?_), h.ftop, fun i l hl => ?_⟩
 ·by_cases hi' : i ∈ L
  ·exact hL i hi' r hi
  ·have hg : getH s.hp i = some r := by have := h.get i hi'; rw [← this]; exact hi
   have hh := hr.heap i r hg
   have hs : (getH s.hp i).isSome := by rw [hg]; rfl
   have hl := h.loc i hi'
   have ha := h.away hr hi' hs
   cases r with
   | box cs =>
    obtain ⟨b, vs, e, h1, h2, h3, h4, h5⟩ := hh
    exact ⟨b, vs, e, hl.trans h1, h2, h3, (ha b (by simp [h1])).trans h4, fun j hj hv => h.cell hr hg (List.getElem_mem hj) (h5 j hj hv)⟩
   | tok n k => exact fun b hb => hh b (by rw [hl] at hb; exact hb)
   | map ks =>
    obtain ⟨b, es, cl, h1, h2, h3, h4⟩ := hh
    exact ⟨b, es, cl, hl.trans h1, h2, (ha b (by simp [h1])).trans h3, h4⟩
   | tree cs => exact tree_mono hh hl (fun b hb => ⟨rfl, ha b hb⟩) (Nat.le_refl _) (fun x hx v => h.cell hr hg hx)
 ·have key : ∀ i j, i ∈ L → j ∉ L → (getH hp' i).isSome → (getH hp' j).isSome → ∀ b, b ∈ G'.loc i → b ∉ G'.loc j := fun i j hi hj h1 h2 b hb hbj => by
   obtain ⟨i2, h3, h4, h5⟩ := h.blk i hi h1 b hb
   rw [h.loc j hj] at hbj
   exact hr.disj i2 j h4 (hsome j hj h2) (fun e => hj (e ▸ h3)) b h5 hbj
  by_cases hi : i ∈ L <;> by_cases hj : j ∈ L
  ·exact h.dis i hi j hj hne h1 h2 b hb
  ·exact key i j hi hj h1 h2 b hb
  ·exact fun hbj => key j i hj hi h2 h1 b hbj hb
  ·rw [h.loc i hi] at hb
   rw [h.loc j hj]
   exact hr.disj i j (hsome i hi h1) (hsome j hj h2) hne b hb
 ·by_cases hi : i ∈ L
  ·obtain ⟨j, h3, h4, h5⟩ := h.blk i hi h1 b hb
   exact hr.new j h4 b h5
  ·rw [h.loc i hi] at hb
   exact hr.new i (hsome i hi h1) b hb
 ·obtain ⟨j, h3, h4, h5⟩ := (hown b).1 hb
  exact hr.new j h4 b h5
 ·by_cases hi : i ∈ L
  ·exact h.keep i hi l hl
  ·have hk := hr.kept i l hl
   refine ⟨by rw [h.loc i hi]; exact hk.1, by rw [h.get i hi]; exact hk.2.1, ?_⟩
   have := hk.2.2
   unfold tokf at this ⊢
   rw [h.get i hi]; exact this
theorem R.slot (hr : R c G s a w) {t : Nat} {x : AV} (h : RelA G (tokf s.hp) w x (a.tmps.getD t undef)) : R c G ⟨(t, x) :: s.env, s.hp⟩ a w := by
 refine ⟨hr.size, hr.defers, fun i v hi => ?_, hr.heap, hr.disj, hr.new, hr.frm, hr.top, hr.kept⟩
 simp only [getE] at hi
 cases hb : Nat.beq t i with
 | true =>
  have := Nat.eq_of_beq_eq_true hb
  subst this
  simp only [hb, cond_true, Option.some.injEq] at hi
  subst hi
  exact h
 | false =>
  simp only [hb, cond_false] at hi
  exact hr.slots i v hi
end
def ownD (m : Bool) : D → AV
 | .int k n => .d (.int k n)
 | .bool b => .d (.bool b)
 | .str s => .d (.str s)
 | x => .own m x
def ownCells (m : Bool) (xs : List (List D)) : List AV := xs.flatten.map (ownD m)
theorem ownD_ids (m : Bool) (x : D) : (ownD m x).ids = [] := by cases x <;> rfl
theorem ownCells_ids (m : Bool) (xs : List (List D)) : AV.idsL (ownCells m xs) = [] := by
 unfold ownCells
 generalize xs.flatten = l
 induction l with
 | nil => rfl
 | cons x l ih => simp [AV.idsL, ownD_ids, ih]
theorem ownCells_len {m : Bool} {xs : List (List D)} {k : Nat} (hk : ∀ x, x ∈ xs → x.length = k) : (ownCells m xs).length = xs.length * k := by
 unfold ownCells; rw [List.length_map, flat_len hk]
theorem ownCells_nil (m : Bool) : ownCells m [] = [] := rfl
theorem ownCells_append (m : Bool) (a b : List (List D)) : ownCells m (a ++ b) = ownCells m a ++ ownCells m b := by simp [ownCells]
theorem ownCells_cons (m : Bool) (x : List D) (b : List (List D)) : ownCells m (x :: b) = x.map (ownD m) ++ ownCells m b := by simp [ownCells]
theorem ownCells_at {m : Bool} {xs : List (List D)} {k i j : Nat} (hk : ∀ x, x ∈ xs → x.length = k) (hi : i < xs.length) (hj : j < xs[i].length) :
  (ownCells m xs)[i * k + j]? = some (ownD m xs[i][j]) := by
 have hjk : j < k := by rw [← hk _ (List.getElem_mem hi)]; exact hj
 have := flat_getD (xs := xs) hk hi hjk
 simp only [ownCells, List.getElem?_map] at this ⊢
 revert this
 cases xs.flatten[i * k + j]? with
 | none => simp
 | some y => intro h; simp only [Option.map_some, Option.some.injEq, AV.d.injEq] at h; simp [h]
theorem CellR.ofTree {G : Gh} {T : TokF} {m : Bool} {w : World} {x : D} {v : Value} {S : List Nat} (h : TreeD m w x v S) : CellR G T w (ownD m x) v S := by
 cases h with
 | int k n => exact ⟨rfl, .d (.int _ _)⟩
 | bool b => exact ⟨rfl, .d (.bool _)⟩
 | str s => exact ⟨rfl, .d (.str _)⟩
 | nil => exact TreeD.nil
 | emp b off s cap => exact TreeD.emp b off s cap
 | em0 b off cap => exact TreeD.em0 b off cap
 | sl xs k b cap cs e Ss hk hcap hb hc hr => exact TreeD.sl xs k b cap cs e Ss hk hcap hb hc hr
def flatD : D → Bool
 | .int _ _ => true
 | .bool _ => true
 | .str _ => true
 | .sl [] => true
 | _ => false
theorem TreeD.ofFlat {m : Bool} {F : Nat → Nat} {w : World} {x : D} {v : Value} (hf : flatD x = true) (h : RelD F w x v) : TreeD m w x v [] := by
 cases h with
 | int k n => exact .int _ _
 | bool b => exact .bool _
 | str s => exact .str _
 | nil => exact .nil
 | emp b off s cap => exact .emp b off s cap
 | sl xs k b off cap c hk hcap hc hr =>
  cases xs with
  | nil => exact .em0 b off cap
  | cons x r => simp [flatD] at hf
 | ptr cs b o off c hc hr => simp [flatD] at hf
 | nilp => simp [flatD] at hf
theorem TreeD.weak {m : Bool} {w : World} {x : D} {v : Value} {S : List Nat} (h : TreeD m w x v S) : TreeD false w x v S := by
 induction h with
 | int k n => exact .int _ _
 | bool b => exact .bool _
 | str s => exact .str _
 | nil => exact .nil
 | emp b off s cap => exact .emp b off s cap
 | em0 b off cap => exact .em0 b off cap
 | sl xs k b cap cs e Ss hk hcap hb hc hr ih =>
  refine .sl xs k b cap cs e Ss hk hcap hb ?_ ih
  refine Nat.le_trans (Nat.mul_le_mul_right _ ?_) hc
  cases m
  ·exact Nat.le_refl _
  ·exact hcap
def TreeOf (m : Bool) (w : World) (xs : List (List D)) (k : Nat) (vs : Array Value) (Ss : Nat → List Nat) : Prop :=
 ∀ i (hi : i < xs.length) j (hj : j < xs[i].length), TreeD m w xs[i][j] (vs.getD (i * k + j) undef) (Ss (i * k + j))
theorem divmod_lt {i n k : Nat} (h : i < n * k) : i / k < n ∧ i % k < k ∧ i / k * k + i % k = i := by
 have hk : 0 < k := by
  rcases Nat.eq_zero_or_pos k with h0 | h0
  ·subst h0; simp at h
  ·exact h0
 exact ⟨Nat.div_lt_of_lt_mul (by rw [Nat.mul_comm]; exact h), Nat.mod_lt _ hk, Nat.div_add_mod' _ _⟩
theorem getD_eq {vs : Array Value} {i : Nat} (h : i < vs.size) : vs.getD i undef = vs[i] := by simp [Array.getD, h]
theorem TreeOf.cells {G : Gh} {T : TokF} {m : Bool} {w : World} {xs : List (List D)} {k : Nat} {vs : Array Value} {Ss : Nat → List Nat} (h : TreeOf m w xs k vs Ss) (hk : ∀ x, x ∈ xs → x.length = k) :
  ∀ i (hi : i < (ownCells m xs).length) (hv : i < vs.size), CellR G T w (ownCells m xs)[i] vs[i] (Ss i) := by
 intro i hi hv
 rw [ownCells_len hk] at hi
 obtain ⟨h1, h2, h3⟩ := divmod_lt hi
 have hj : i % k < xs[i / k].length := by rw [hk _ (List.getElem_mem h1)]; exact h2
 have h4 := h (i / k) h1 (i % k) hj
 have h5 := ownCells_at (m := m) hk h1 hj
 rw [h3] at h4 h5
 rw [List.getElem?_eq_getElem (by rw [ownCells_len hk]; exact hi)] at h5
 rw [getD_eq hv] at h4
 rw [Option.some.inj h5]
 exact .ofTree h4
theorem flatMap_pick {Ss : Nat → List Nat} {n off : Nat} {P : Nat → Prop} : (∀ b, b ∈ (List.range n).flatMap (fun i => if i = off then [] else Ss i) → P b) ↔ ∀ i, i < n → i ≠ off → ∀ b, b ∈ Ss i → P b := by
 simp only [List.mem_flatMap, List.mem_range]
 constructor
 ·intro h i hi hne b hb
  exact h b ⟨i, hi, by rw [if_neg hne]; exact hb⟩
 ·rintro h b ⟨i, hi, hb⟩
  by_cases hne : i = off
  ·rw [if_pos hne] at hb; simp at hb
  ·rw [if_neg hne] at hb; exact h i hi hne b hb
theorem nodup_flatMap_sub {Ss Ss' : Nat → List Nat} : ∀ {l : List Nat}, (l.flatMap Ss).Nodup → (∀ i, i ∈ l → (Ss' i).Sublist (Ss i)) → ((l.flatMap Ss').Sublist (l.flatMap Ss))
 | [], _, _ => .slnil
 | x :: l, h, hs => by
  simp only [List.flatMap_cons] at h ⊢
  exact (hs x (by simp)).append (nodup_flatMap_sub (List.nodup_append.1 h).2.1 (fun i hi => hs i (by simp [hi])))
theorem flatMap_apart {Ss : Nat → List Nat} : ∀ {l : List Nat} (hl : l.Nodup), (l.flatMap Ss).Nodup → ∀ i j, i ∈ l → j ∈ l → i ≠ j → ∀ b, b ∈ Ss i → b ∉ Ss j
 | [], _, _, i, j, hi, _, _ => by simp at hi
 | x :: l, hl, h, i, j, hi, hj, hne => by
  simp only [List.flatMap_cons, List.nodup_append, List.mem_flatMap] at h
  obtain ⟨h1, h2, h3⟩ := h
  intro b hb hbj
  rcases List.mem_cons.1 hi with e1 | e1
  ·rcases List.mem_cons.1 hj with e2 | e2
   ·exact hne (e1.trans e2.symm)
   ·exact h3 b (e1 ▸ hb) b ⟨j, e2, hbj⟩ rfl
  ·rcases List.mem_cons.1 hj with e2 | e2
   ·exact h3 b (e2 ▸ hbj) b ⟨i, e1, hb⟩ rfl
   ·exact flatMap_apart (List.nodup_cons.1 hl).2 h2 i j e1 e2 hne b hb hbj
theorem nodup_cell {Ss : Nat → List Nat} : ∀ {l : List Nat}, (l.flatMap Ss).Nodup → ∀ i, i ∈ l → (Ss i).Nodup
 | x :: l, h, i, hi => by
  simp only [List.flatMap_cons, List.nodup_append] at h
  rcases List.mem_cons.1 hi with rfl | hi
  ·exact h.1
  ·exact nodup_cell h.2.1 i hi
theorem nodup_flatMap_set {Ss : Nat → List Nat} {S : List Nat} {off : Nat} : ∀ {l : List Nat}, l.Nodup → (l.flatMap Ss).Nodup → S.Nodup → (∀ b, b ∈ S → ∀ i, i ∈ l → i ≠ off → b ∉ Ss i) →
  (l.flatMap fun i => if i = off then S else Ss i).Nodup
 | [], _, _, _, _ => by simp
 | x :: l, hl, h, hS, hd => by
  simp only [List.flatMap_cons, List.nodup_append, List.mem_flatMap] at h ⊢
  obtain ⟨h1, h2, h3⟩ := h
  have hl' := List.nodup_cons.1 hl
  refine ⟨?_, nodup_flatMap_set hl'.2 h2 hS (fun b hb i hi => hd b hb i (by simp [hi])), fun b hb b' hb' => ?_⟩
  ·split
   ·exact hS
   ·exact h1
  ·rintro rfl
   obtain ⟨j, hj, hbj⟩ := hb'
   have hxj : x ≠ j := fun e => hl'.1 (e ▸ hj)
   by_cases hx : x = off
   ·rw [if_pos hx] at hb
    rw [if_neg (fun e => hxj (hx.trans e.symm))] at hbj
    exact hd b hb j (by simp [hj]) (fun e => hxj (hx.trans e.symm)) hbj
   ·rw [if_neg hx] at hb
    by_cases hjo : j = off
    ·rw [if_pos hjo] at hbj
     exact hd b hbj x (by simp) hx hb
    ·rw [if_neg hjo] at hbj
     exact h3 b hb b ⟨j, hj, hbj⟩ rfl
section
variable {c : Ctx} {env : Env} {hp : Hp} {K : Kt} {code : Code} {ids : List Nat}
theorem beq_ne {i j : Nat} (h : i ≠ j) : Nat.beq i j = false := by
 cases hb : Nat.beq i j with
 | true => exact absurd (Nat.eq_of_beq_eq_true hb) h
 | false => rfl
theorem R.split {G : Gh} {a : Act} {w : World} (hr : R c G ⟨env, hp⟩ a w) {id off id' : Nat} {m : Bool} {xs : List (List D)} {cs cs' : List AV} (hb : getH hp id = some (.tree cs)) (hc : cs[off]? = some (.own m (.sl xs))) (hx : xs ≠ [])
  (hf : freshB env hp [id'] = true) (hput : putC cs off [.ms id' xs.length] = some cs') : ∃ G', R c G' ⟨env, (id', some (.tree (ownCells m xs))) :: (id, some (.tree cs')) :: hp⟩ a w := by
 obtain ⟨h0, hocc⟩ := freshB_spec hf id' (by simp)
 obtain ⟨b, vs, e, Ss, hT⟩ := hr.heap id _ hb
 obtain ⟨hoff, hcv⟩ := List.getElem?_eq_some_iff.1 hc
 have hov : off < vs.size := by have := hT.len; omega
 have hcell := hT.cell off hoff hov
 rw [hcv] at hcell
 have hne : id ≠ id' := fun e => by subst e; have h0' : getH hp id = none := h0; rw [h0'] at hb; cases hb
 obtain ⟨p1, p2, p3⟩ := putC_spec hput
 have hTD : TreeD m w (.sl xs) vs[off] (Ss off) := hcell
 generalize hv : vs[off] = v at hTD
 generalize hSo : Ss off = So at hTD
 cases hTD with
 | nil => exact absurd rfl hx
 | emp _ _ _ _ => exact absurd rfl hx
 | em0 _ _ _ => exact absurd rfl hx
 | sl _ k b1 cap cs1 e1 Ss1 hk hcap hb1 hc1 hr1 =>
  let Ss' : Nat → List Nat := fun i => if i = off then [] else Ss i
  let G' : Gh := { G with loc := fun i => bif Nat.beq i id' then Ss off else bif Nat.beq i id then b :: (List.range cs'.length).flatMap Ss' else G.loc i }
  have l1 : G'.loc id' = Ss off := by simp [G']
  have l2 : G'.loc id = b :: (List.range cs'.length).flatMap Ss' := by simp [G', beq_ne hne]
  have l3 : ∀ i, i ≠ id' → i ≠ id → G'.loc i = G.loc i := fun i h1 h2 => by simp [G', beq_ne h1, beq_ne h2]
  have hnd := hT.nodup
  rw [hT.loc] at hnd
  have hnd' := List.nodup_cons.1 hnd
  have hsubS : ∀ x, x ∈ Ss off → x ∈ G.loc id := fun x hx => by
   rw [hT.loc]; exact List.mem_cons_of_mem _ (List.mem_flatMap.2 ⟨off, List.mem_range.2 hoff, hx⟩)
  have hsubl : ((List.range cs'.length).flatMap Ss').Sublist ((List.range cs.length).flatMap Ss) := by
   rw [p1]
   refine nodup_flatMap_sub hnd'.2 (fun i hi => ?_)
   simp only [Ss']
   split
   ·exact List.nil_sublist _
   ·exact List.Sublist.refl _
  have hsub2 : ∀ x, x ∈ G'.loc id → x ∈ G.loc id := fun x hx => by
   rw [l2] at hx
   rw [hT.loc]
   rcases List.mem_cons.1 hx with h | h
   ·simp [h]
   ·exact List.mem_cons_of_mem _ (hsubl.subset h)
  have g1 : getH ((id', some (Res.tree (ownCells m xs))) :: (id, some (.tree cs')) :: hp) id' = some (.tree (ownCells m xs)) := by rw [getH_cons, if_pos rfl]
  have g2 : getH ((id', some (Res.tree (ownCells m xs))) :: (id, some (.tree cs')) :: hp) id = some (.tree cs') := by rw [getH_cons, if_neg hne, getH_cons, if_pos rfl]
  have hturn : Turn c G ⟨env, hp⟩ w G' ((id', some (.tree (ownCells m xs))) :: (id, some (.tree cs')) :: hp) [id, id'] := by
   refine ⟨fun i hi => ?_, fun i hi => ?_, fun _ _ => rfl, fun _ _ h => h, hr.top, fun i hi => ?_, fun i hi hs x hx => ?_, fun i hi j hj hij _ _ x hx => ?_, fun i hi l hl => ?_⟩
   ·simp only [List.mem_cons, List.not_mem_nil, or_false, not_or] at hi
    rw [getH_cons, if_neg hi.2, getH_cons, if_neg hi.1]
   ·simp only [List.mem_cons, List.not_mem_nil, or_false, not_or] at hi
    exact l3 i hi.2 hi.1
   ·simp only [List.mem_cons, List.not_mem_nil, or_false] at hi
    rcases hi with rfl | rfl
    ·right
     have ht : tokf ((id', some (Res.tree (ownCells m xs))) :: (i, some (.tree cs')) :: hp) i = none := by unfold tokf; rw [g2]
     refine ⟨.inr ⟨ht, by rw [l2, hT.loc]; rfl⟩, fun p hp => by rw [ht] at hp; cases hp⟩
    ·exact .inl hocc
   ·simp only [List.mem_cons, List.not_mem_nil, or_false] at hi
    have hs' : (getH hp id).isSome := by rw [hb]; rfl
    rcases hi with rfl | rfl
    ·exact ⟨i, by simp, hs', hsub2 x hx⟩
    ·rw [l1] at hx; exact ⟨id, by simp, hs', hsubS x hx⟩
   ·simp only [List.mem_cons, List.not_mem_nil, or_false] at hi hj
    have key : ∀ x, x ∈ Ss off → x ∉ G'.loc id := by
     intro x hx hx2
     rw [l2] at hx2
     rcases List.mem_cons.1 hx2 with h | h
     ·exact hnd'.1 (List.mem_flatMap.2 ⟨off, List.mem_range.2 hoff, h ▸ hx⟩)
     ·obtain ⟨j, hj, hxj⟩ := List.mem_flatMap.1 h
      simp only [Ss'] at hxj
      split at hxj
      ·simp at hxj
      ·rename_i hjo
       exact flatMap_apart List.nodup_range hnd'.2 off j (List.mem_range.2 hoff) (by rw [p1] at hj; exact hj) (Ne.symm hjo) x hx hxj
    rcases hi with rfl | rfl <;> rcases hj with rfl | rfl
    ·exact absurd rfl hij
    ·rw [l1]; exact fun h => key x h hx
    ·rw [l1] at hx; exact key x hx
    ·exact absurd rfl hij
   ·simp only [List.mem_cons, List.not_mem_nil, or_false] at hi
    have hk0 := hr.kept i l hl
    rcases hi with rfl | rfl
    ·refine ⟨?_, by rw [g2]; rfl, by unfold tokf; rw [g2]⟩
     rw [l2, ← hk0.1, hT.loc]; rfl
    ·have h0' : getH hp i = none := h0
     have := hk0.2.1
     rw [show (⟨env, hp⟩ : St).hp = hp from rfl, h0'] at this
     cases this
  refine ⟨G', hturn.fin hr (fun i hi r hri => ?_)⟩
  simp only [List.mem_cons, List.not_mem_nil, or_false] at hi
  rcases hi with rfl | rfl
  ·rw [g2] at hri
   cases hri
   refine ⟨b, vs, e, Ss', l2, hT.at_, by rw [p1]; exact hT.len, ?_, fun x hx => hT.mine x (hsub2 x hx), fun j hj hjv => ?_⟩
   ·rw [l2]
    exact List.nodup_cons.2 ⟨fun h => hnd'.1 (hsubl.subset h), hsubl.nodup hnd'.2⟩
   ·have h3 := p3 j
    rw [List.getElem?_eq_getElem hj] at h3
    by_cases hjo : j = off
    ·subst hjo
     rw [if_pos (by simp)] at h3
     simp only [Nat.sub_self, List.getElem?_cons_zero, Option.some.injEq] at h3
     rw [h3, hv]
     refine ⟨by simp [Ss'], .ms (b := b1) ?_ ?_ hcap⟩
     ·rw [l1, hSo]; rfl
     ·unfold tokf; rw [g1]
    ·rw [if_neg (by simp only [List.length_cons, List.length_nil]; omega)] at h3
     have hjc : j < cs.length := by omega
     rw [List.getElem?_eq_getElem hjc] at h3
     rw [Option.some.inj h3]
     have h4 := hT.cell j hjc hjv
     have h5 : Ss' j = Ss j := by simp [Ss', hjo]
     rw [h5]
     exact h4.map (hturn.cell hr hb (List.getElem_mem hjc)) (fun _ _ => rfl)
  ·rw [g1] at hri
   cases hri
   have hlen : (ownCells m xs).length = xs.length * k := ownCells_len hk
   have hle : xs.length * k ≤ cs1.size := by
    refine Nat.le_trans (Nat.mul_le_mul_right _ ?_) hc1
    cases m
    ·exact Nat.le_refl _
    ·exact hcap
   refine ⟨b1, cs1, e1, Ss1, by rw [l1, hSo, hlen], hb1, by rw [hlen]; exact hle, ?_, fun x hx => ?_, TreeOf.cells hr1 hk⟩
   ·rw [l1]; exact nodup_cell hnd'.2 off (List.mem_range.2 hoff)
   ·rw [l1] at hx; exact hT.mine x (hsubS x hx)
theorem CWp.split (id off id' : Nat) {m : Bool} {xs : List (List D)} {cs cs' : List AV} (hb : getH hp id = some (.tree cs)) (hc : cs[off]? = some (.own m (.sl xs))) (hx : xs ≠ [])
  (hf : freshB env hp [id'] = true) (hput : putC cs off [.ms id' xs.length] = some cs')
  (hn : CWp c code ⟨env, (id', some (.tree (ownCells m xs))) :: (id, some (.tree cs')) :: hp⟩ K) : CWp c code ⟨env, hp⟩ K := by
 rintro a w ⟨G, hr⟩
 obtain ⟨G', h⟩ := hr.split hb hc hx hf hput
 exact hn a w ⟨G', h⟩
theorem R.merge {G : Gh} {a : Act} {w : World} (hr : R c G ⟨env, hp⟩ a w) (hkp : KeptIn c.kept ids) {id off id' k n : Nat} {m : Bool} {xs : List (List D)} {cs cs' : List AV} (hb : getH hp id = some (.tree cs)) (hc : cs[off]? = some (.ms id' n)) (hn : n = xs.length)
  (hb' : getH hp id' = some (.tree (ownCells m xs))) (hk : ∀ x, x ∈ xs → x.length = k) (hne : Nat.beq id id' = false) (hid : elemB id' ids = false) (hput : putC cs off [.own false (.sl xs)] = some cs') :
  ∃ G', R c G' ⟨env, (id', none) :: (id, some (.tree cs')) :: hp⟩ a w := by
 subst hn
 have hne : id ≠ id' := fun e => by subst e; simp at hne
 obtain ⟨b, vs, e, Ss, hT⟩ := hr.heap id _ hb
 obtain ⟨b1, cs1, e1, Ss1, hT1⟩ := hr.heap id' _ hb'
 obtain ⟨hoff, hcv⟩ := List.getElem?_eq_some_iff.1 hc
 have hov : off < vs.size := by have := hT.len; omega
 have hcell := hT.cell off hoff hov
 rw [hcv] at hcell
 obtain ⟨hS0, hms⟩ := hcell
 obtain ⟨b2, cap, hl2, he2, hcap⟩ := hms.ms_eq
 obtain rfl : b1 = b2 := by have := hl2.1; rw [hT1.loc] at this; exact Option.some.inj this
 obtain ⟨p1, p2, p3⟩ := putC_spec hput
 have hlen1 : (ownCells m xs).length = xs.length * k := ownCells_len hk
 have hTr : TreeD false w (.sl xs) vs[off] (G.loc id') := by
  rw [he2, hT1.loc, hlen1]
  refine .sl xs k b1 cap cs1 e1 Ss1 hk hcap hT1.at_ (by have := hT1.len; rw [hlen1] at this; exact this) (fun i hi j hj => ?_)
  have hjk : j < k := by rw [← hk _ (List.getElem_mem hi)]; exact hj
  have hlt : i * k + j < (ownCells m xs).length := by rw [hlen1]; exact cell_lt hi hjk
  have hlv : i * k + j < cs1.size := Nat.lt_of_lt_of_le hlt hT1.len
  have h1 := hT1.cell (i * k + j) hlt hlv
  have h2 := ownCells_at (m := m) hk hi hj
  rw [List.getElem?_eq_getElem hlt] at h2
  rw [Option.some.inj h2] at h1
  rw [getD_eq hlv]
  generalize xs[i][j] = y at h1
  cases y with
  | sl ys => exact TreeD.weak h1
  | int kd q => obtain ⟨g1, g2⟩ := h1; rw [g1]; exact .ofFlat rfl g2.d_inv
  | bool q => obtain ⟨g1, g2⟩ := h1; rw [g1]; exact .ofFlat rfl g2.d_inv
  | str q => obtain ⟨g1, g2⟩ := h1; rw [g1]; exact .ofFlat rfl g2.d_inv
  | ptr q r => exact TreeD.weak h1
  | nilp => exact TreeD.weak h1
 let Ss' : Nat → List Nat := fun i => if i = off then G.loc id' else Ss i
 let G' : Gh := { G with loc := fun i => bif Nat.beq i id then b :: (List.range cs'.length).flatMap Ss' else G.loc i }
 have l1 : G'.loc id = b :: (List.range cs'.length).flatMap Ss' := by simp [G']
 have l3 : ∀ i, i ≠ id → G'.loc i = G.loc i := fun i h2 => by simp [G', beq_ne h2]
 have hnd := hT.nodup
 rw [hT.loc] at hnd
 have hnd' := List.nodup_cons.1 hnd
 have s1 : (getH hp id).isSome := by rw [hb]; rfl
 have s2 : (getH hp id').isSome := by rw [hb']; rfl
 have hapart : ∀ x, x ∈ G.loc id → x ∉ G.loc id' := hr.disj id id' s1 s2 hne
 have hmem : ∀ x, x ∈ G'.loc id → x ∈ G.loc id ∨ x ∈ G.loc id' := fun x hx => by
  rw [l1] at hx
  rcases List.mem_cons.1 hx with h | h
  ·left; rw [hT.loc, h]; simp
  ·obtain ⟨j, hj, hxj⟩ := List.mem_flatMap.1 h
   simp only [Ss'] at hxj
   split at hxj
   ·exact .inr hxj
   ·left
    rw [hT.loc]
    rw [p1] at hj
    exact List.mem_cons_of_mem _ (List.mem_flatMap.2 ⟨j, hj, hxj⟩)
 have g1 : getH ((id', none) :: (id, some (Res.tree cs')) :: hp) id' = none := by rw [getH_cons, if_pos rfl]
 have g2 : getH ((id', none) :: (id, some (Res.tree cs')) :: hp) id = some (.tree cs') := by rw [getH_cons, if_neg hne, getH_cons, if_pos rfl]
 have t1 : tokf ((id', none) :: (id, some (Res.tree cs')) :: hp) id' = none := by unfold tokf; rw [g1]
 have t2 : tokf ((id', none) :: (id, some (Res.tree cs')) :: hp) id = none := by unfold tokf; rw [g2]
 have hturn : Turn c G ⟨env, hp⟩ w G' ((id', none) :: (id, some (.tree cs')) :: hp) [id, id'] := by
  refine ⟨fun i hi => ?_, fun i hi => ?_, fun _ _ => rfl, fun _ _ h => h, hr.top, fun i hi => ?_, fun i hi hs x hx => ?_, fun i hi j hj hij h1 h2 x hx => ?_, fun i hi l hl => ?_⟩
  ·simp only [List.mem_cons, List.not_mem_nil, or_false, not_or] at hi
   rw [getH_cons, if_neg hi.2, getH_cons, if_neg hi.1]
  ·simp only [List.mem_cons, List.not_mem_nil, or_false, not_or] at hi
   exact l3 i hi.1
  ·simp only [List.mem_cons, List.not_mem_nil, or_false] at hi
   right
   rcases hi with rfl | rfl
   ·exact ⟨.inr ⟨t2, by rw [l1, hT.loc]; rfl⟩, fun p hp => by rw [t2] at hp; cases hp⟩
   ·exact ⟨.inl (l3 i (Ne.symm hne)), fun p hp => by rw [t1] at hp; cases hp⟩
  ·simp only [List.mem_cons, List.not_mem_nil, or_false] at hi
   rcases hi with rfl | rfl
   ·rcases hmem x hx with h | h
    ·exact ⟨i, by simp, s1, h⟩
    ·exact ⟨id', by simp, s2, h⟩
   ·rw [g1] at hs; cases hs
  ·simp only [List.mem_cons, List.not_mem_nil, or_false] at hi hj
   rcases hi with rfl | rfl
   ·rcases hj with rfl | rfl
    ·exact absurd rfl hij
    ·rw [g1] at h2; cases h2
   ·rw [g1] at h1; cases h1
  ·simp only [List.mem_cons, List.not_mem_nil, or_false] at hi
   have hk0 := hr.kept i l hl
   rcases hi with rfl | rfl
   ·refine ⟨?_, by rw [g2]; rfl, t2⟩
    rw [l1, ← hk0.1, hT.loc]; rfl
   ·have := elemB_iff.2 (hkp.mem i l hl)
    rw [this] at hid; cases hid
 refine ⟨G', hturn.fin hr (fun i hi r hri => ?_)⟩
 simp only [List.mem_cons, List.not_mem_nil, or_false] at hi
 rcases hi with rfl | rfl
 ·rw [g2] at hri
  cases hri
  refine ⟨b, vs, e, Ss', l1, hT.at_, by rw [p1]; exact hT.len, ?_, fun x hx => ?_, fun j hj hjv => ?_⟩
  ·rw [l1, List.nodup_cons]
   constructor
   ·intro h
    obtain ⟨j, hj, hxj⟩ := List.mem_flatMap.1 h
    rw [p1] at hj
    simp only [Ss'] at hxj
    split at hxj
    ·exact hapart b (by rw [hT.loc]; simp) hxj
    ·exact hnd'.1 (List.mem_flatMap.2 ⟨j, hj, hxj⟩)
   ·rw [p1]
    refine nodup_flatMap_set List.nodup_range hnd'.2 hT1.nodup (fun x hx j hj _ hxj => ?_)
    exact hapart x (by rw [hT.loc]; exact List.mem_cons_of_mem _ (List.mem_flatMap.2 ⟨j, hj, hxj⟩)) hx
  ·rcases hmem x hx with h | h
   ·exact hT.mine x h
   ·exact hT1.mine x h
  ·have h3 := p3 j
   rw [List.getElem?_eq_getElem hj] at h3
   by_cases hjo : j = off
   ·subst hjo
    rw [if_pos (by simp)] at h3
    simp only [Nat.sub_self, List.getElem?_cons_zero, Option.some.injEq] at h3
    rw [h3]
    have h5 : Ss' j = G.loc id' := by simp [Ss']
    rw [h5]
    exact hTr
   ·rw [if_neg (by simp only [List.length_cons, List.length_nil]; omega)] at h3
    have hjc : j < cs.length := by omega
    rw [List.getElem?_eq_getElem hjc] at h3
    rw [Option.some.inj h3]
    have h4 := hT.cell j hjc hjv
    have h5 : Ss' j = Ss j := by simp [Ss', hjo]
    rw [h5]
    exact h4.map (hturn.cell hr hb (List.getElem_mem hjc)) (fun _ _ => rfl)
 ·rw [g1] at hri
  cases hri
theorem CWp.merge (hkp : KeptIn c.kept ids) (id off id' k n : Nat) {m : Bool} {xs : List (List D)} {cs cs' : List AV} (hb : getH hp id = some (.tree cs)) (hc : cs[off]? = some (.ms id' n)) (hn : n = xs.length)
  (hb' : getH hp id' = some (.tree (ownCells m xs))) (hk : ∀ x, x ∈ xs → x.length = k) (hne : Nat.beq id id' = false) (hid : elemB id' ids = false) (hput : putC cs off [.own false (.sl xs)] = some cs')
  (hnx : CWp c code ⟨env, (id', none) :: (id, some (.tree cs')) :: hp⟩ K) : CWp c code ⟨env, hp⟩ K := by
 rintro a w ⟨G, hr⟩
 obtain ⟨G', h⟩ := hr.merge hkp hb hc hn hb' hk hne hid hput
 exact hnx a w ⟨G', h⟩
def upC (m : Bool) : AV → AV
 | .d (.sl []) => .own m (.sl [])
 | .nils => .own m (.sl [])
 | x => x
theorem R.boxTree {G : Gh} {a : Act} {w : World} (hr : R c G ⟨env, hp⟩ a w) {id : Nat} {cs : List AV} (m : Bool) (hb : getH hp id = some (.box cs)) : R c G ⟨env, (id, some (.tree (cs.map (upC m)))) :: hp⟩ a w := by
 obtain ⟨b, vs, e, h1, h2, h3, h4, h5⟩ := hr.heap id _ hb
 have g2 : getH ((id, some (Res.tree (cs.map (upC m)))) :: hp) id = some (.tree (cs.map (upC m))) := by rw [getH_cons, if_pos rfl]
 have t2 : tokf ((id, some (Res.tree (cs.map (upC m)))) :: hp) id = none := by unfold tokf; rw [g2]
 have s1 : (getH hp id).isSome := by rw [hb]; rfl
 have hbd := (hr.heap id _ hb).bound
 have hturn : Turn c G ⟨env, hp⟩ w G ((id, some (.tree (cs.map (upC m)))) :: hp) [id] := by
  refine ⟨fun i hi => ?_, fun i hi => rfl, fun _ _ => rfl, fun _ _ h => h, hr.top, fun i hi => .inr ⟨.inl rfl, ?_⟩, fun i hi hs x hx => ?_, fun i hi j hj hij => ?_, fun i hi l hl => ?_⟩ <;>
   simp only [List.mem_cons, List.not_mem_nil, or_false] at hi
  ·rw [getH_cons, if_neg hi]
  ·subst hi; intro p hp; rw [t2] at hp; cases hp
  ·subst hi; exact ⟨i, by simp, s1, hx⟩
  ·simp only [List.mem_cons, List.not_mem_nil, or_false] at hj; exact absurd (hi.trans hj.symm) hij
  ·subst hi; exact ⟨(hr.kept i l hl).1, by rw [g2]; rfl, t2⟩
 refine hturn.fin hr (fun i hi r hri => ?_)
 simp only [List.mem_cons, List.not_mem_nil, or_false] at hi
 subst hi
 rw [g2] at hri
 cases hri
 refine ⟨b, vs, e, fun _ => [], ?_, h2, by simpa using h3, by rw [h1]; simp, fun x hx => ⟨?_, hbd x hx⟩, fun j hj hjv => ?_⟩
 ·rw [h1]; simp
 ·rw [h1] at hx; simp at hx; subst hx; exact h4
 ·simp only [List.length_map] at hj
  have h6 := h5 j hj hjv
  simp only [List.getElem_map]
  have h7 : RelA G (tokf ((i, some (Res.tree (cs.map (upC m)))) :: hp)) w cs[j] vs[j] := hturn.cell hr hb (List.getElem_mem hj) h6
  generalize cs[j] = x at h7
  generalize vs[j] = v at h7
  cases h7 with
  | d h =>
   rename_i y
   by_cases hy : y = .sl []
   ·subst hy
    exact TreeD.ofFlat rfl h
   ·have : upC m (.d y) = .d y := by
     unfold upC
     split
     ·rename_i he; cases he; exact absurd rfl hy
     ·rename_i he; cases he
     ·rfl
    rw [this]
    exact ⟨rfl, .d h⟩
  | nils => exact TreeD.nil
  | gl h ht => exact ⟨rfl, .gl h ht⟩
  | gv h ht => exact ⟨rfl, .gv h ht⟩
  | gt h ht => exact ⟨rfl, .gt h ht⟩
  | ref h hT => exact ⟨rfl, .ref h hT⟩
  | ms h hT hc => exact ⟨rfl, .ms h hT hc⟩
  | mo h hT hc ho => exact ⟨rfl, .mo h hT hc ho⟩
  | mapr h hT => exact ⟨rfl, .mapr h hT⟩
  | fn hn h => exact ⟨rfl, .fn hn h⟩
  | agg hn h => exact ⟨rfl, .agg hn h⟩
  | tup hn h => exact ⟨rfl, .tup hn h⟩
  | sn h hn => exact ⟨rfl, .sn h hn⟩
  | any v => exact ⟨rfl, .any v⟩
theorem CWp.boxTree (id : Nat) {cs cs' : List AV} (m : Bool) (hb : getH hp id = some (.box cs)) (hu : cs.map (upC m) = cs') (hn : CWp c code ⟨env, (id, some (.tree cs')) :: hp⟩ K) : CWp c code ⟨env, hp⟩ K := by
 subst hu
 rintro a w ⟨G, hr⟩
 exact hn a w ⟨G, hr.boxTree m hb⟩
end
end Go.Proofs.Ytadpcmcifbakoaa
