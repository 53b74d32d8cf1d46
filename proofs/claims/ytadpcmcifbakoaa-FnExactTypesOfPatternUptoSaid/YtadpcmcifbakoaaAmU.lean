/-
  THE ABSTRACT WALK, part U: slices that grow and whose cells are written later on.
-/
import Derived.Test.YtadpcmcifbakoaaAmT
import Derived.Lib.LazyBuf
namespace Go.Proofs.Ytadpcmcifbakoaa
open Go
set_option linter.unusedSimpArgs false
set_option linter.unusedVariables false
section
variable {c : Ctx}
theorem RelA.gv_inv {G : Gh} {T : TokF} {w : World} {id : Nat} {xs : List (List D)} {v : Value} (h : RelA G T w (.gv id xs) v) :
  (∃ a cap, v = .slice a xs.length cap) ∧ ∀ n k, T id = some (n, k) → xs.length ≤ n ∧ (n = xs.length → (∀ x, x ∈ xs → x.length = k) ∧ TipV G w id n k v xs) := by
 cases h with | gv hv ht => exact ⟨hv, ht⟩
theorem htokL {hp : Hp} {id n n' k : Nat} (h : getH hp id = some (.tok n' k)) (e : n' = n) : getH hp id = some (.tok n k) := e ▸ h
theorem LeA.gvg {id : Nat} {xs ys : List (List D)} (h : xs = ys) : LeA (.gv id xs) (.gv id ys) := h ▸ .refl _
theorem rows_append {F : Nat → Nat} {w : World} {xs ys : List (List D)} {k : Nat} {us : Array Value} 
  (hx : ∀ i (hi : i < xs.length) j (hj : j < xs[i].length), RelD F w xs[i][j] (us.getD (i * k + j) undef))
  (hy : ∀ i (hi : i < ys.length) j (hj : j < ys[i].length), RelD F w ys[i][j] (us.getD ((xs.length + i) * k + j) undef)) :
  ∀ i (hi : i < (xs ++ ys).length) j (hj : j < (xs ++ ys)[i].length), RelD F w (xs ++ ys)[i][j] (us.getD (i * k + j) undef) := by
 intro i hi j hj
 by_cases h : i < xs.length
 ·have e2 : (xs ++ ys)[i] = xs[i] := List.getElem_append_left h
  have := hx i h j (by rw [← e2]; exact hj)
  simpa only [e2] using this
 ·have h2 : i - xs.length < ys.length := by simp only [List.length_append] at hi; omega
  have e2 : (xs ++ ys)[i] = ys[i - xs.length] := List.getElem_append_right (by omega)
  have e3 : xs.length + (i - xs.length) = i := by omega
  have := hy (i - xs.length) h2 j (by rw [← e2]; exact hj)
  simp only [e3] at this
  simpa only [e2] using this
theorem appendV_step {t : TypeId} {G : Gh} {s : St} {a : Act} {w : World} (hr : R c G s a w) {id k e yb : Nat} {xs ys : List (List D)} {v u : Value} (ht : SlT c.P t e k yb) {z : Value} (hz : ∃ i, c.P.info? e = some i ∧ i.zero = some z ∧ z.cells.size = k)
  (htok : getH s.hp id = some (.tok xs.length k)) (hv : RelA G (tokf s.hp) w (.gv id xs) v) (hu : RelD G.F w (.sl ys) u) (hky : ∀ y, y ∈ ys → y.length = k)
  (hb : (xs.length + ys.length) * yb ≤ 140737488355328) (hm : xs.length + ys.length ≤ 9223372036854775807) (opt : TypeId) :
  ∃ v' w' G', (Builtin.append_ #[t, t] opt #[v, u]).run c.P w = .ok v' w' ∧
   R c G' { s with hp := (id, some (.tok (xs.length + ys.length) k)) :: s.hp } a w' ∧
   RelA G' (tokf ((id, some (.tok (xs.length + ys.length) k)) :: s.hp)) w' (.gv id (xs ++ ys)) v' := by
 obtain ⟨i, hi1, hi2, hi3⟩ := ht.inf
 obtain ⟨i', z1, z2, z3⟩ := hz
 rw [hi1] at z1
 cases z1
 obtain ⟨⟨base, cap0, hv0⟩, hcl⟩ := hv.gv_inv
 have hT : tokf s.hp id = some (xs.length, k) := tokf_some.2 htok
 obtain ⟨hkx, htip⟩ := (hcl _ _ hT).2 rfl
 have hT' : tokf ((id, some (.tok (xs.length + ys.length) k)) :: s.hp) id = some (xs.length + ys.length, k) := tokf_some.2 (by rw [getH_cons, if_pos rfl])
 have hle : ∃ base cap, v = .slice base xs.length cap ∧ xs.length ≤ cap := by
  rcases htip with ⟨h1, h2, h3⟩ | ⟨b, cap, cs, et, h1, h2, h3, h4, h5, h6, h7⟩
  ·exact ⟨none, 0, by rw [h2]; exact h3, by omega⟩
  ·exact ⟨_, cap, h2, h6⟩
 by_cases hm0 : ys = []
 ·subst hm0
  obtain ⟨base, cap, rfl, hle⟩ := hle
  obtain ⟨oa, oc, rfl⟩ : ∃ oa oc, u = .slice oa 0 oc := by obtain ⟨oa, oc, h⟩ := hu.sl_len; exact ⟨oa, oc, h⟩
  refine ⟨_, w, G, run_append_none t opt e i ht.und hi1 base xs.length cap hle oa oc, hr.same htok, ?_⟩
  show RelA G (tokf ((id, some (.tok xs.length k)) :: s.hp)) w (.gv id (xs ++ [])) _
  rw [tokf_same htok, List.append_nil]
  exact hv
 obtain ⟨oa0, cap0', _, h0, _⟩ | ⟨b2, off2, cap2, news, rfl, hcap2, hnl, hnc, hn1, hnr⟩ := hu.sl_cells hky
 ·exact absurd h0 hm0
 have hmpos : 0 < ys.length := List.length_pos_iff.2 hm0
 have hnews : ∀ j u, news[j]? = some u → w.cell? ((⟨b2, off2, none⟩ : Addr).add j) = some u := fun j u hj => by rw [add_off]; exact (hnc j u hj).2
 have hnl' : news.length = ys.length * i.size := by rw [hi2]; exact hnl
 have hky' : ∀ e, e ∈ xs ++ ys → e.length = k := fun e he => by
  rcases List.mem_append.1 he with h | h
  ·exact hkx e h
  ·exact hky e h
 have hlt : ∀ b o, o < G.F b → b < w.heap.size := fun b o ho => by
  rcases Nat.lt_or_ge b w.heap.size with h | h
  ·exact h
  ·rw [hr.top b h] at ho; omega
 -- where the new cells come to stand
 have atNew : ∀ (olds : List Value), olds.length = xs.length * k → ∀ (tail : List Value) (F' : Nat → Nat) (w' : World), (∀ x v, RelD G.F w x v → RelD F' w' x v) →
   (∀ i (hi : i < xs.length) j (hj : j < xs[i].length), RelD G.F w xs[i][j] (olds.getD (i * k + j) undef)) →
   ∀ i (hi : i < (xs ++ ys).length) j (hj : j < (xs ++ ys)[i].length), RelD F' w' (xs ++ ys)[i][j] ((olds ++ news ++ tail).toArray.getD (i * k + j) undef) := by
  intro olds hol tail F' w' hmo hold
  refine rows_append (fun i hi j hj => ?_) (fun i hi j hj => ?_)
  ·have hlt' : i * k + j < olds.length := by
    have h1 : xs[i].length = k := hkx _ (List.getElem_mem hi)
    have : (i + 1) * k ≤ xs.length * k := Nat.mul_le_mul_right _ (by omega)
    rw [Nat.add_mul] at this
    omega
   have e1 : (olds ++ news ++ tail).toArray.getD (i * k + j) undef = olds.getD (i * k + j) undef := by
    simp [List.getD, List.append_assoc, List.getElem?_append_left hlt']
   rw [e1]
   exact hmo _ _ (hold i hi j hj)
  ·have h1 : ys[i].length = k := hky _ (List.getElem_mem hi)
   have hlt' : i * k + j < news.length := by
    have : (i + 1) * k ≤ ys.length * k := Nat.mul_le_mul_right _ (by omega)
    rw [Nat.add_mul] at this
    omega
   have e0 : (xs.length + i) * k + j = olds.length + (i * k + j) := by rw [hol, Nat.add_mul]; omega
   have e1 : (olds ++ news ++ tail).toArray.getD ((xs.length + i) * k + j) undef = news[i * k + j] := by
    rw [e0]
    simp [List.getD, List.append_assoc, List.getElem?_append_right, List.getElem?_append_left hlt', hlt']
   rw [e1]
   exact hmo _ _ (hnr i hi j hj hlt')
 have fresh : ∀ (olds : List Value) (nc : Nat), olds.length = xs.length * k → xs.length + ys.length ≤ nc →
   (∀ i (hi : i < xs.length) j (hj : j < xs[i].length), RelD G.F w xs[i][j] (olds.getD (i * k + j) undef)) →
   ∃ G', R c G' { s with hp := (id, some (.tok (xs.length + ys.length) k)) :: s.hp } a (w.drew.alloc (.cells (olds.toArray ++ news.toArray ++ Builtin.zeroCells z.cells (nc - (xs.length + ys.length))) e)) ∧
    RelA G' (tokf ((id, some (.tok (xs.length + ys.length) k)) :: s.hp)) (w.drew.alloc (.cells (olds.toArray ++ news.toArray ++ Builtin.zeroCells z.cells (nc - (xs.length + ys.length))) e))
     (.gv id (xs ++ ys)) (.slice (some ⟨w.heap.size, 0, none⟩) (xs.length + ys.length) nc) := by
  intro olds nc hol hnc' hold
  let cells : Array Value := olds.toArray ++ news.toArray ++ Builtin.zeroCells z.cells (nc - (xs.length + ys.length))
  let G' : Gh := { F := G.F, loc := fun j => bif Nat.beq j id then [w.heap.size] else G.loc j }
  have hcs : cells.size = nc * k := by
   simp only [cells, Array.size_append, List.size_toArray, size_zeroCells, z3, hol, hnl, ← Nat.add_mul]
   congr 1; omega
  have hcell : ∀ b o, o < G.F b → o < G'.F b ∧ (w.drew.alloc (.cells cells e)).cell? ⟨b, o, none⟩ = w.cell? ⟨b, o, none⟩ := fun b o ho => by
   have hb := hlt b o ho
   exact ⟨ho, by rw [World.cell?_alloc_lt w.drew _ _ hb]; rfl⟩
  have hlocne : ∀ j, j ≠ id → G'.loc j = G.loc j := fun j hj => by
   have : Nat.beq j id = false := by
    cases h : Nat.beq j id with
    | true => exact absurd (Nat.eq_of_beq_eq_true h) hj
    | false => rfl
   simp [G', this]
  have hlocid : G'.loc id = [w.heap.size] := by simp [G']
  refine ⟨G', hr.retok (G' := G') htok (by omega) hcell hlocne (fun b hb _ => ⟨alloc_block (w := w.drew) hb, rfl⟩) (fun b hb => by rw [hlocid] at hb; simp at hb; subst hb; simp)
   (fun b hb => by rw [hlocid] at hb; simp at hb; exact .inr (by omega)) rfl rfl rfl (by simp) (fun b hb => ?_), ?_⟩
  ·have hb' : w.heap.size + 1 ≤ b := by simpa using hb
   exact hr.top b (by omega)
  refine .gv ⟨_, _, by rw [List.length_append]⟩ (fun n' k' hm' => ?_)
  rw [hT'] at hm'
  cases hm'
  refine ⟨by simp, fun _ => ⟨hky', .inr ⟨w.heap.size, nc, cells, e, hlocid, rfl, hr.top _ (Nat.le_refl _), alloc_at (w := w.drew), by rw [hcs]; exact Nat.le_refl _, hnc', ?_⟩⟩⟩
  have := atNew olds hol (Builtin.zeroCells z.cells (nc - (xs.length + ys.length))).toList G.F (w.drew.alloc (.cells cells e)) (fun x v h => h.mono hcell) hold
  have ec : cells = (olds ++ news ++ (Builtin.zeroCells z.cells (nc - (xs.length + ys.length))).toList).toArray := by
   apply Array.ext'; simp [cells]
  intro i hi j hj
  rw [ec]
  exact this i hi j hj
 rcases htip with ⟨h1, h2, h3⟩ | ⟨b, cap, cs, et, h1, h2, h3, h4, h5, h6, h7⟩
 · -- a nil slice
  have hx0 : xs = [] := List.eq_nil_of_length_eq_zero h2
  subst hx0
  subst h3
  simp only [List.length_nil, Nat.zero_add] at hb hm fresh ⊢
  have hrun := run_append_nil (P := c.P) w t opt e i z ht.und hi1 z2 ⟨b2, off2, none⟩ ys.length cap2 news hnl' hnews hmpos (by omega) (by rw [hi3]; omega)
  obtain ⟨G', hR, hA⟩ := fresh [] (grownCap w ys.length 0 e) (by simp) (by
   have := grownCap_ge w ys.length 0 e; omega) (fun j hj => by simp at hj)
  simp only [List.nil_append, Array.empty_append] at hR hA hrun ⊢
  exact ⟨_, _, G', hrun, hR, hA⟩
 ·subst h2
  have hmul : xs.length * k ≤ cs.size := Nat.le_trans (Nat.mul_le_mul_right _ h6) h5
  have hold : ∀ i (hi : i < xs.length) j (hj : j < xs[i].length), RelD G.F w xs[i][j] ((cs.toList.take (xs.length * k)).getD (i * k + j) undef) := fun i hi j hj => by
   have h8 : xs[i].length = k := hkx _ (List.getElem_mem hi)
   have hlt' : i * k + j < xs.length * k := by
    have : (i + 1) * k ≤ xs.length * k := Nat.mul_le_mul_right _ (by omega)
    rw [Nat.add_mul] at this
    omega
   have := h7 i hi j hj
   have e1 : (cs.toList.take (xs.length * k)).getD (i * k + j) undef = cs.getD (i * k + j) undef := by
    have hs : i * k + j < cs.size := by omega
    simp [List.getD, List.getElem?_take, hlt', Array.getD, hs]
   rw [e1]; exact this
  by_cases hroom : xs.length + ys.length ≤ cap
  · -- there is room
   have hfit : xs.length * i.size + news.length ≤ cs.size := by
    rw [hi2, hnl, ← Nat.add_mul]
    exact Nat.le_trans (Nat.mul_le_mul_right _ hroom) h5
   have hrun := run_append_room' (P := c.P) t opt e i ht.und hi1 b xs.length cap cs et h4 ⟨b2, off2, none⟩ ys.length cap2 news hnl' hnews hn1 hroom hfit
   rw [hi2] at hrun hfit
   let row : Array Value := (cs.toList.take (xs.length * k) ++ news ++ cs.toList.drop (xs.length * k + news.length)).toArray
   have hrs : row.size = cs.size := by
    simp only [row, List.size_toArray, List.length_append, List.length_take, List.length_drop, Array.length_toList]; omega
   have hcell : ∀ b' o, o < G.F b' → o < G.F b' ∧ (w.setRow b row).cell? ⟨b', o, none⟩ = w.cell? ⟨b', o, none⟩ := fun b' o ho => by
    have hbb : b' ≠ b := fun e => by subst e; omega
    exact ⟨ho, cell_setRow_other w b row _ hbb⟩
   have hbs : b < w.heap.size := by
    rcases Nat.lt_or_ge b w.heap.size with h | h
    ·exact h
    ·rw [Array.getElem?_eq_none h] at h4; cases h4
   refine ⟨_, _, G, hrun, hr.retok (G' := G) htok (by omega) hcell (fun _ _ => rfl) (fun b' hb' hn => ?_) (fun x hx => by rw [h1] at hx; simp at hx; subst hx; simpa using hbs) (fun b' hb' => .inl hb') rfl rfl rfl (by simp) (fun b' hb' => ?_), ?_⟩
   ·have hne : b' ≠ b := fun e => hn (by rw [h1, e]; simp)
    exact ⟨setRow_other w b b' row hne, rfl⟩
   ·have hb2' : w.heap.size ≤ b' := by simpa using hb'
    exact hr.top b' hb2'
   ·refine .gv ⟨_, _, by rw [List.length_append]⟩ (fun n' k' hm' => ?_)
    rw [hT'] at hm'
    cases hm'
    refine ⟨by simp, fun _ => ⟨hky', .inr ⟨b, cap, row, et, h1, rfl, h3, setRow_heap w b cs row et _ h4, by rw [hrs]; exact h5, hroom, ?_⟩⟩⟩
    exact atNew (cs.toList.take (xs.length * k)) (by simp; omega) _ G.F (w.setRow b row) (fun x v h => h.mono hcell) hold
  · -- it must grow
   have hrun := run_append_grow (P := c.P) w t opt e i z ht.und hi1 z2 ⟨b, 0, none⟩ xs.length cap (cs.toList.take (xs.length * k)) (by rw [hi2]; simp; omega)
    (fun j u hj => by
     rw [add_off]
     obtain ⟨hj1, hj2⟩ := List.getElem?_eq_some_iff.1 hj
     simp only [List.getElem_take] at hj2
     have hjs : j < cs.size := by simp at hj1; omega
     simp only [World.cell?, h4, Option.isSome_none, Bool.false_eq_true, if_false, Nat.zero_add]
     rw [Array.getElem?_eq_getElem hjs, ← hj2]
     simp) ⟨b2, off2, none⟩ ys.length cap2 news hnl' hnews (by omega) (by omega) (by rw [hi3]; exact growslice_fits (by omega) hb)
   obtain ⟨G', hR, hA⟩ := fresh (cs.toList.take (xs.length * k)) (grownCap w (xs.length + ys.length) cap e) (by simp; omega) (by have := grownCap_ge w (xs.length + ys.length) cap e; omega) hold
   exact ⟨_, _, G', hrun, hR, hA⟩
theorem R.mkTokV {G : Gh} {s : St} {a : Act} {w : World} (hr : R c G s a w) {id : Nat} (k : Nat) (h0 : getH s.hp id = none) (hocc : noOcc id s) :
  ∃ G', R c G' { s with hp := (id, some (.tok 0 k)) :: s.hp } a w ∧ RelA G' (tokf ((id, some (.tok 0 k)) :: s.hp)) w (.gv id []) (.slice none 0 0) := by
 have h1 := hr.rename h0 hocc []
 have hl : (fun i => bif Nat.beq i id then ([] : List Nat) else G.loc i) id = [] := by simp
 refine ⟨_, h1.name h0 hocc (fun b hb => by simp at hb) (fun i _ b _ hb => by simp at hb) (fun b hb => by simp at hb), ?_⟩
 refine .gv ⟨none, 0, rfl⟩ (fun n k' hT => ?_)
 have := tokf_some.1 hT
 rw [getH_cons, if_pos rfl] at this
 cases this
 exact ⟨Nat.le_refl _, fun _ => ⟨by simp, .inl ⟨hl, rfl, rfl⟩⟩⟩
theorem flat_getD {xs : List (List D)} {k : Nat} (hk : ∀ x, x ∈ xs → x.length = k) {i : Nat} (hi : i < xs.length) {j : Nat} (hj : j < k) : (xs.flatten.map AV.d)[i * k + j]? = some (.d (xs[i][j]'(by rw [hk _ (List.getElem_mem hi)]; exact hj))) := by
 have := flat_get hk i hi j hj
 rw [List.getElem?_map, this, List.getElem?_eq_getElem (by rw [hk _ (List.getElem_mem hi)]; exact hj)]
 rfl
theorem CWp.fixV {env : Env} {hp : Hp} {K : Kt} {code : Code} {ids : List Nat} (hkp : KeptIn c.kept ids) (t id k : Nat) {xs : List (List D)} (ht : getE env t = some (.gv id xs)) (hb : getH hp id = some (.tok xs.length k)) (hid : elemB id ids = false)
  (h0 : xs = [] → CWp c code ⟨(t, .d (.sl [])) :: env, (id, none) :: hp⟩ K)
  (hn : xs ≠ [] → CWp c code ⟨(t, .ms id xs.length) :: env, (id, some (.box (xs.flatten.map .d))) :: hp⟩ K) : CWp c code ⟨env, hp⟩ K := by
 intro a w hrel
 obtain ⟨G, hr⟩ := hrel
 have hT : tokf hp id = some (xs.length, k) := tokf_some.2 hb
 have hsl := hr.slots t _ ht
 obtain ⟨⟨ad, cap0, hv0⟩, hcl⟩ := hsl.gv_inv
 obtain ⟨hkx, htip⟩ := (hcl _ _ hT).2 rfl
 have hkne : ∀ i l, c.kept i = some l → i ≠ id := fun i l hk e => by
  subst e
  have := elemB_iff.2 (hkp.mem i l hk)
  rw [this] at hid; cases hid
 -- of what stands in the state nothing is lost when the token goes
 have hm : ∀ (r : Option Res), (∀ n k, r ≠ some (.tok n k)) → ∀ {x : AV} {v : Value}, RelA G (tokf hp) w x v → (r.isSome → id ∉ x.ids → True) → RelA G (tokf ((id, r) :: hp)) w x v := by
  intro r hnr x v hx _
  refine hx.mono (fun _ _ ho => ⟨ho, rfl⟩) (fun _ _ => .inl rfl) (fun i _ p hp' => ?_)
  obtain ⟨n, q⟩ := p
  have := tokf_some.1 hp'
  rw [getH_cons] at this
  split at this
  ·exact absurd this (hnr n q)
  ·exact ⟨tokf_some.2 this, fun _ _ => ⟨rfl, rfl⟩⟩
 have base : ∀ (r : Option Res) (v : AV), (∀ n k, r ≠ some (.tok n k)) → RelA G (tokf ((id, r) :: hp)) w v (a.tmps.getD t undef) → (∀ x, r = some x → RelR G (tokf ((id, r) :: hp)) w id x) →
   Rel c ⟨(t, v) :: env, (id, r) :: hp⟩ a w := by
  intro r v hnr hv hrr
  have hsome : ∀ i, (getH ((id, r) :: hp) i).isSome → (getH hp i).isSome := fun i hi => by
   rw [getH_cons] at hi
   split at hi
   ·rename_i e; subst e; rw [hb]; rfl
   ·exact hi
  refine ⟨G, hr.size, hr.defers, fun i x hi => ?_, fun i x hi => ?_, fun i j q1 q2 => hr.disj i j (hsome i q1) (hsome j q2), fun i q1 => hr.new i (hsome i q1), hr.frm, hr.top, fun i l hk => ?_⟩
  ·simp only [getE] at hi
   cases hti : Nat.beq t i with
   | true =>
    have := Nat.eq_of_beq_eq_true hti
    subst this
    simp only [hti, cond_true, Option.some.injEq] at hi
    subst hi
    exact hv
   | false =>
    simp only [hti, cond_false] at hi
    exact hm r hnr (hr.slots i x hi) (fun _ _ => trivial)
  ·have hi' : getH ((id, r) :: hp) i = some x := hi
   rw [getH_cons] at hi'
   split at hi'
   ·rename_i e; subst e; exact hrr x hi'
   ·have hh := hr.heap i x hi'
    cases x with
    | box cs2 =>
     obtain ⟨b2, vs2, e2, q1, q2, q3, q4, q5⟩ := hh
     exact ⟨b2, vs2, e2, q1, q2, q3, q4, fun j hj hv => hm r hnr (q5 j hj hv) (fun _ _ => trivial)⟩
    | tok m q => exact hh
    | map ks => exact hh
    | tree cs2 => exact tree_mono hh rfl (fun _ _ => ⟨rfl, rfl⟩) (Nat.le_refl _) (fun _ _ _ h => hm r hnr h (fun _ _ => trivial))
  ·have hk' := hr.kept i l hk
   have hne := hkne i l hk
   show (G.loc i).head? = l.head? ∧ (getH ((id, r) :: hp) i).isSome ∧ tokf ((id, r) :: hp) i = none
   have hg : getH ((id, r) :: hp) i = getH hp i := by rw [getH_cons, if_neg hne]
   refine ⟨hk'.1, by rw [hg]; exact hk'.2.1, ?_⟩
   have h2 := hk'.2.2
   unfold tokf at h2 ⊢
   rw [hg]; exact h2
 by_cases hx0 : xs = []
 ·refine h0 hx0 a w (base none _ (fun _ _ => by simp) ?_ (fun x h => by cases h))
  subst hx0
  rw [hv0]
  cases ad with
  | none =>
   rcases htip with ⟨h1, h2, h3⟩ | ⟨b, cap, cs, et, h1, h2, _⟩
   ·rw [hv0] at h3; rw [h3]; exact .d .nil
   ·rw [hv0] at h2; cases h2
  | some ad =>
   obtain ⟨b, o, sp⟩ := ad
   cases sp with
   | none => exact .d (.sl [] 0 b o cap0 (fun _ => undef) (by simp) (by simp) (fun n hn => by simp at hn) (fun i hi => by simp at hi))
   | some s => exact .d (.emp b o s cap0)
 ·rcases htip with ⟨h1, h2, h3⟩ | ⟨b, cap, cs, et, h1, h2, h3, h4, h5, h6, h7⟩
  ·exact absurd (List.eq_nil_of_length_eq_zero h2) hx0
  ·have hnt : tokf ((id, some (Res.box (xs.flatten.map .d))) :: hp) id = none := by
    unfold tokf; rw [getH_cons, if_pos rfl]
   refine hn hx0 a w (base (some (.box (xs.flatten.map .d))) _ (fun _ _ => by simp) ?_ (fun x h => ?_))
   ·have hv1 : a.tmps.getD t undef = .slice (some ⟨b, 0, none⟩) xs.length cap := h2
    rw [hv1]
    exact .ms (one_head h1) hnt h6
   ·cases h
    refine ⟨b, cs, et, h1, h4, ?_, h3, fun i hi hv => ?_⟩
    ·rw [List.length_map, flat_len hkx]
     exact Nat.le_trans (Nat.mul_le_mul_right _ h6) h5
    ·have hi' : i < xs.length * k := by rw [List.length_map, flat_len hkx] at hi; exact hi
     have hkpos : 0 < k := by
      rcases Nat.eq_zero_or_pos k with h | h
      ·subst h; simp at hi'
      ·exact h
     have hq : i / k < xs.length := Nat.div_lt_of_lt_mul (by rw [Nat.mul_comm]; exact hi')
     have hrm : i % k < k := Nat.mod_lt _ hkpos
     have e1 := flat_getD hkx hq hrm
     rw [Nat.div_add_mod'] at e1
     rw [List.getElem?_eq_getElem hi] at e1
     rw [Option.some.inj e1]
     have h8 := h7 (i / k) hq (i % k) (by rw [hkx _ (List.getElem_mem hq)]; exact hrm)
     rw [Nat.div_add_mod'] at h8
     have e2 : cs.getD i undef = cs[i] := by simp [Array.getD, hv]
     rw [e2] at h8
     exact .d h8
end
section
variable {c : Ctx} {all : Array Oper} {chk : List Rec → Prop} {os : List Oper} {recs : List Rec} {env : Env} {hp : Hp} {Q : St → Prop}
variable {d ty : Nat} {pos : String} {af : Array Edge} {g : Option (Nat × Bool)} {pg : List (Nat × AV)}
variable {t yt : TypeId} {x y : Operand}
theorem Walk.appendV {id k e yb : Nat} {xs ys : List (List D)} {vy : AV} (ht : SlT c.P t e k yb) (hz : ZeroT c.P e k) (hg : GH all env g pg) (hd : Nat.blt d c.n = true)
  (hx : opd env x = some (.gv id xs)) (hy : opd env y = some vy) (hyd : vy.toD = some (.sl ys)) (htok : getH hp id = some (.tok xs.length k)) (hky : ∀ y, y ∈ ys → y.length = k)
  (hb : (xs.length + ys.length) * yb ≤ 140737488355328) (hm : xs.length + ys.length ≤ 9223372036854775807)
  (hn : Walk c all chk os (mkRec (pg ++ (opF x (.gv id xs) ++ opF y vy)) [(id, .tok xs.length k)] [] ⟨some (d, .gv id (xs ++ ys)), [(id, some (.tok (xs.length + ys.length) k))]⟩ :: recs)
   ⟨(d, .gv id (xs ++ ys)) :: env, (id, some (.tok (xs.length + ys.length) k)) :: hp⟩ Q) :
  Walk c all chk (⟨some d, .call ⟨.builtin .append, #[x, y], #[t, t]⟩, ty, pos, af, g⟩ :: os) recs ⟨env, hp⟩ Q := by
 refine ⟨pg ++ (opF x (.gv id xs) ++ opF y vy), [(id, .tok xs.length k)], [], _, ?_, facts_append hg.facts (facts_append (opF_holds hx) (opF_holds hy)), hh1 htok, by simp, hn⟩
 intro s a w hrel hp' hh _ K Q' hK
 obtain ⟨G, hr⟩ := hrel
 have e1 := hr.opd (opd_facts hx (fun p hm => hp' p (by simp [hm])))
 have e2 := hr.opd (opd_facts hy (fun p hm => hp' p (by simp [hm])))
 obtain ⟨i, z, z1, z2, z3⟩ := hz.out
 obtain ⟨v', w', G', hrun, hR, hA⟩ := appendV_step hr ht ⟨i, z1, z2, z3⟩ (hh1' hh) e1 (e2.toD hyd) hky hb hm ty
 unfold wpO
 rw [if_pos (hg.gf.wanted hr (fun p hm => hp' p (by simp [hm])))]
 unfold Oper.wp
 have : (execOp a.eval ⟨some d, .call ⟨.builtin .append, #[x, y], #[t, t]⟩, ty, pos, af, g⟩).run c.P w = .ok (.value v') w' := by
  simp only [execOp, resolve, invoke, builtin, Sem.run_bind, Sem.run_pure, Result.andThen_ok, List.map_toArray, List.map_cons, List.map_nil, hrun]
 rw [this, Oper.upon_value]
 exact hK _ _ ⟨G', hR.put hA hd⟩
theorem Walk.lenV {xs : List (List D)} {at_ e k yb id : Nat} (ht : SlT c.P at_ e k yb) (hg : GH all env g pg) (hd : Nat.blt d c.n = true) (hx : opd env x = some (.gv id xs))
  (hn : Walk c all chk os (mkRec (pg ++ opF x (.gv id xs)) [] [] ⟨some (d, .d (.i xs.length)), []⟩ :: recs) ⟨(d, .d (.i xs.length)) :: env, hp⟩ Q) :
  Walk c all chk (⟨some d, .call ⟨.builtin .len, #[x], #[at_]⟩, ty, pos, af, g⟩ :: os) recs ⟨env, hp⟩ Q :=
 Walk.pure1 hg hd hx (fun a G T w h => ⟨.int .i64 xs.length, by
  obtain ⟨⟨ad, cap, he⟩, _⟩ := h.gv_inv
  simp [execOp, resolve, invoke, builtin, he, run_len_sl ht], .d (.int _ _)⟩) hn
theorem Walk.assignNilV (id k : Nat) (hg : GH all env g pg) (hd : Nat.blt d c.n = true) (hf : freshB env hp [id] = true)
  (hn : Walk c all chk os (mkRec (pg ++ []) [] [id] ⟨some (d, .gv id []), [(id, some (.tok 0 k))]⟩ :: recs) ⟨(d, .gv id []) :: env, (id, some (.tok 0 k)) :: hp⟩ Q) :
  Walk c all chk (⟨some d, .assign (.const (.slice none 0 0)), ty, pos, af, g⟩ :: os) recs ⟨env, hp⟩ Q := by
 refine ⟨pg ++ [], [], [id], _, ?_, facts_append hg.facts (by simp), by simp, freshB_spec hf, hn⟩
 intro s a w hrel hp' hh hcr K Q' hK
 obtain ⟨G, hr⟩ := hrel
 obtain ⟨h1, h2⟩ := hcr id (by simp)
 obtain ⟨G', hR, hA⟩ := hr.mkTokV k h1 h2
 unfold wpO
 rw [if_pos (hg.gf.wanted hr (fun p hm => hp' p (by simp [hm])))]
 unfold Oper.wp
 have : (execOp a.eval ⟨some d, .assign (.const (.slice none 0 0)), ty, pos, af, g⟩).run c.P w = .ok (.value (.slice none 0 0)) w := rfl
 rw [this, Oper.upon_value]
 exact hK _ _ ⟨G', hR.put hA hd⟩
theorem Walk.mkRowGV {op : Op} {xs : List Operand} {vs : List AV} {es : List (List D)} {k : Nat} (id : Nat) (hg : GH all env g pg) (hd : Nat.blt d c.n = true) (hx : opdL env xs = some vs) (hk : ∀ e, e ∈ es → e.length = k)
  (hf : freshB env hp [id] = true)
  (h : ∀ (a : Act) (G : Gh) (T : TokF) (w : World), (vs.length = xs.length ∧ ∀ i (hi : i < vs.length) (hx : i < xs.length), RelA G T w vs[i] (a.eval xs[i])) →
   ∃ us e, (execOp a.eval ⟨some d, op, ty, pos, af, g⟩).run c.P w = .ok (.value (.slice (some ⟨w.heap.size, 0, none⟩) es.length es.length)) (w.alloc (.cells us e)) ∧ us.size = es.length * k ∧
    ∀ i (hi : i < es.length) j (hj : j < es[i].length) (hu : i * k + j < us.size), RelD G.F w es[i][j] us[i * k + j])
  (hn : Walk c all chk os (mkRec (pg ++ opFL xs vs) [] [id] ⟨some (d, .gv id es), [(id, some (.tok es.length k))]⟩ :: recs) ⟨(d, .gv id es) :: env, (id, some (.tok es.length k)) :: hp⟩ Q) :
  Walk c all chk (⟨some d, op, ty, pos, af, g⟩ :: os) recs ⟨env, hp⟩ Q := by
 refine ⟨pg ++ opFL xs vs, [], [id], _, ?_, facts_append hg.facts (opFL_holds hx), by simp, freshB_spec hf, hn⟩
 intro s a w hrel hp' hh hcr K Q' hK
 obtain ⟨G, hr⟩ := hrel
 obtain ⟨h0, hocc⟩ := hcr id (by simp)
 obtain ⟨us, e, e1, e2, e3⟩ := h a G (tokf s.hp) w (opdL_rel hr (opdL_facts hx (fun p hm => hp' p (by simp [hm]))))
 have hr' := (hr.alloc (.cells us e) 0).rename h0 hocc [w.heap.size]
 have hloc : ∀ i, i ≠ id → (bif Nat.beq i id then [w.heap.size] else G.loc i) = G.loc i := fun i h => by
  cases hb : Nat.beq i id with
  | true => exact absurd (Nat.eq_of_beq_eq_true hb) h
  | false => rfl
 have hR := hr'.name (r := .tok es.length k) h0 hocc (fun b hb => by simp at hb; subst hb; simp) (fun i hi b hb => by
  have hi' : i ≠ id := fun e => by subst e; rw [h0] at hi; cases hi
  have hb' : b ∈ G.loc i := by have := hloc i hi'; simp only [this] at hb; exact hb
  obtain ⟨r, hrr⟩ := Option.isSome_iff_exists.1 hi
  have hlt : b < w.heap.size := (hr.heap i r hrr).bound b hb'
  simp
  omega) (fun b hb => by
  simp at hb
  subst hb
  exact .inr hr.frm.size)
 unfold wpO
 rw [if_pos (hg.gf.wanted hr (fun p hm => hp' p (by simp [hm])))]
 unfold Oper.wp
 rw [e1, Oper.upon_value]
 refine hK _ _ ⟨_, hR.put (v := .gv id es) (.gv ⟨_, _, rfl⟩ (fun n k' hT => ?_)) hd⟩
 have := tokf_some.1 hT
 have h2 : getH ((id, some (Res.tok es.length k)) :: s.hp) id = some (.tok n k') := this
 rw [getH_cons, if_pos rfl] at h2
 cases h2
 refine ⟨Nat.le_refl _, fun _ => ⟨hk, .inr ⟨w.heap.size, es.length, us, e, by simp, rfl, by simp, alloc_at, by rw [e2]; exact Nat.le_refl _, Nat.le_refl _, fun i hi j hj => ?_⟩⟩⟩
 have hjk : j < k := by rw [← hk _ (List.getElem_mem hi)]; exact hj
 have hlt : i * k + j < us.size := by
  have : (i + 1) * k ≤ es.length * k := Nat.mul_le_mul_right _ (by omega)
  rw [Nat.add_mul] at this
  omega
 have h4 := e3 i hi j hj hlt
 have h5 : us.getD (i * k + j) undef = us[i * k + j] := by simp [Array.getD, hlt]
 rw [h5]
 refine h4.mono (fun b o ho => ?_)
 have hb : b < w.heap.size := by
  rcases Nat.lt_or_ge b w.heap.size with h | h
  ·exact h
  ·rw [hr.top b h] at ho; omega
 have : Nat.beq b w.heap.size = false := by
  cases h : Nat.beq b w.heap.size with
  | true => have := Nat.eq_of_beq_eq_true h; omega
  | false => rfl
 exact ⟨by simpa [this] using ho, World.cell?_alloc_lt w _ _ hb⟩
theorem run_eqGuard_slice {P : Program} {op : BinOp} {t : TypeId} {x y : Operand} {a : Option Addr} {n c : Nat} {w : World} : (eqGuard op t x y (.slice a n c) (.slice none 0 0)).run P w = .ok () w := by
 cases op <;> rfl
theorem Walk.eqNilT {e k yb : Nat} (ht : SlT c.P t e k yb) (hg : GH all env g pg) (hd : Nat.blt d c.n = true) (hx : opd env x = some .nils)
  (hn : Walk c all chk os (mkRec (pg ++ opF x .nils) [] [] ⟨some (d, .d (.bool true)), []⟩ :: recs) ⟨(d, .d (.bool true)) :: env, hp⟩ Q) :
  Walk c all chk (⟨some d, .binOp .eql t x (.const (.slice none 0 0)) yt, ty, pos, af, g⟩ :: os) recs ⟨env, hp⟩ Q :=
 Walk.pure1 hg hd hx (fun a G T w h => ⟨.bool true, by
  have hv : a.eval x = .slice none 0 0 := by
   generalize a.eval x = v at *
   cases h; rfl
  have hcn : a.eval (.const (.slice none 0 0)) = .slice none 0 0 := rfl
  simp only [execOp, hv, hcn]
  simp only [Sem.run_bind, run_eqGuard_slice, Result.andThen_ok, run_eql_slice_nil w t e none 0 0 ht.und, Sem.run_pure, Option.isNone_none], .d (.bool _)⟩) hn
theorem Walk.eqNilF {xs : List (List D)} {e k yb : Nat} (ht : SlT c.P t e k yb) (hg : GH all env g pg) (hd : Nat.blt d c.n = true) (hx : opd env x = some (.sn xs))
  (hn : Walk c all chk os (mkRec (pg ++ opF x (.sn xs)) [] [] ⟨some (d, .d (.bool false)), []⟩ :: recs) ⟨(d, .d (.bool false)) :: env, hp⟩ Q) :
  Walk c all chk (⟨some d, .binOp .eql t x (.const (.slice none 0 0)) yt, ty, pos, af, g⟩ :: os) recs ⟨env, hp⟩ Q :=
 Walk.pure1 hg hd hx (fun a G T w h => ⟨.bool false, by
  obtain ⟨ad, n, cp, hv⟩ : ∃ ad n cp, a.eval x = .slice (some ad) n cp := by
   generalize a.eval x = v at *
   cases h with | sn h hn => exact hn
  have hcn : a.eval (.const (.slice none 0 0)) = .slice none 0 0 := rfl
  simp only [execOp, hv, hcn]
  simp only [Sem.run_bind, run_eqGuard_slice, Result.andThen_ok, run_eql_slice_nil w t e (some ad) n cp ht.und, Sem.run_pure, Option.isNone_some], .d (.bool _)⟩) hn
theorem Walk.lenSn {xs : List (List D)} {at_ e k yb : Nat} (ht : SlT c.P at_ e k yb) (hg : GH all env g pg) (hd : Nat.blt d c.n = true) (hx : opd env x = some (.sn xs))
  (hn : Walk c all chk os (mkRec (pg ++ opF x (.sn xs)) [] [] ⟨some (d, .d (.i xs.length)), []⟩ :: recs) ⟨(d, .d (.i xs.length)) :: env, hp⟩ Q) :
  Walk c all chk (⟨some d, .call ⟨.builtin .len, #[x], #[at_]⟩, ty, pos, af, g⟩ :: os) recs ⟨env, hp⟩ Q :=
 Walk.pure1 hg hd hx (fun a G T w h => ⟨.int .i64 xs.length, by
  have hh : RelD G.F w (.sl xs) (a.eval x) := h.toD rfl
  obtain ⟨ad, cap, he⟩ := hh.sl_len
  simp [execOp, resolve, invoke, builtin, he, run_len_sl ht], .d (.int _ _)⟩) hn
theorem CWp.splitNil {K : Kt} {code : Code} (i : Nat) {xs : List (List D)} (h : getE env i = some (.d (.sl xs)))
  (h1 : xs = [] → CWp c code ⟨(i, .nils) :: env, hp⟩ K) (h2 : CWp c code ⟨(i, .sn xs) :: env, hp⟩ K) : CWp c code ⟨env, hp⟩ K := by
 intro a w hrel
 obtain ⟨G, hr⟩ := hrel
 have base : ∀ v, RelA G (tokf hp) w v (a.tmps.getD i undef) → Rel c ⟨(i, v) :: env, hp⟩ a w := fun v hv =>
  ⟨G, hr.size, hr.defers, fun j x hj => by
   simp only [getE] at hj
   cases hti : Nat.beq i j with
   | true =>
    have := Nat.eq_of_beq_eq_true hti
    subst this
    simp only [hti, cond_true, Option.some.injEq] at hj
    subst hj
    exact hv
   | false =>
    simp only [hti, cond_false] at hj
    exact hr.slots j x hj, hr.heap, hr.disj, hr.new, hr.frm, hr.top, hr.kept⟩
 have hd := (hr.slots i _ h).d_inv
 generalize hv : a.tmps.getD i undef = v at hd base
 cases hd with
 | nil => exact h1 rfl a w (base _ .nils)
 | emp b off s cap => exact h2 a w (base _ (.sn (.emp b off s cap) ⟨_, _, _, rfl⟩))
 | sl _ k b off cap cf hk hcap hc hr => exact h2 a w (base _ (.sn (.sl _ k b off cap cf hk hcap hc hr) ⟨_, _, _, rfl⟩))
theorem Walk.sliceEmptyGV {t : TypeId} {e k yb : Nat} (id : Nat) (ht : SlT c.P t e k yb) (hg : GH all env g pg) (hd : Nat.blt d c.n = true) (hfr : freshB env hp [id] = true)
  (hn : Walk c all chk os (mkRec (pg ++ opFL [] []) [] [id] ⟨some (d, .gv id []), [(id, some (.tok 0 k))]⟩ :: recs) ⟨(d, .gv id []) :: env, (id, some (.tok 0 k)) :: hp⟩ Q) :
  Walk c all chk (⟨some d, .buildSlice t 0 #[], ty, pos, af, g⟩ :: os) recs ⟨env, hp⟩ Q := by
 refine Walk.mkRowGV (xs := []) (vs := []) (es := []) (k := k) id hg hd rfl (by simp) hfr (fun a G T w h => ?_) hn
 obtain ⟨ie, hi1, hi2, hi3⟩ := ht.inf
 refine ⟨#[], e, ?_, by simp, fun i hi => by simp at hi⟩
 simp [execOp, Instr.buildSlice, run_underlying ht.und, sizeOf, run_ti hi1, Instr.fill, newRow, Array.range_zero']
end
end Go.Proofs.Ytadpcmcifbakoaa
