/-
  THE ABSTRACT WALK, part L: the operation append; pieces of slices and strings; a nil slice becomes one that grows.
-/
import Derived.Test.YtadpcmcifbakoaaAmK
namespace Go.Proofs.Ytadpcmcifbakoaa
open Go
set_option linter.unusedSimpArgs false
set_option linter.unusedVariables false
section
variable {P : Program} {w : World}
theorem run_append_room' (t ty e : TypeId) (i : TypeInfo) (ht : P.underlying t = some (.slice e)) (hi : P.info? e = some i)
  (g sLen sCap : Nat) (cur : Array Value) (et : TypeId) (hg : w.heap[g]? = some (.cells cur et (0, 0)))
  (a : Addr) (m c : Nat) (news : List Value) (hl : news.length = m * i.size) (hnews : ∀ j u, news[j]? = some u → w.cell? (a.add j) = some u) (h1 : ∀ u ∈ news, u.oneCell' = true)
  (hroom : sLen + m ≤ sCap) (hfit : sLen * i.size + news.length ≤ cur.size) :
  (Builtin.append_ #[t, t] ty #[.slice (some ⟨g, 0, none⟩) sLen sCap, .slice (some a) m c]).run P w =
   .ok (.slice (some ⟨g, 0, none⟩) (sLen + m) sCap) (w.setRow g (cur.toList.take (sLen * i.size) ++ news ++ cur.toList.drop (sLen * i.size + news.length)).toArray) := by
 have hf := run_firstCells_some (P := P) w i.size m a m c news hl hnews
 have hst := run_storeCells_at P g (sLen * i.size) et news 0 cur w hg (by simpa using hfit) h1
 simp only [Nat.add_zero] at hst
 simp [Builtin.append_, run_underlying ht, sizeOf, typeInfo, hi, Builtin.lenOf, hroom, hf, add_off, hst]
theorem run_append_none (t ty e : TypeId) (i : TypeInfo) (ht : P.underlying t = some (.slice e)) (hi : P.info? e = some i)
  (base : Option Addr) (sLen sCap : Nat) (hle : sLen ≤ sCap) (a : Option Addr) (c : Nat) :
  (Builtin.append_ #[t, t] ty #[.slice base sLen sCap, .slice a 0 c]).run P w = .ok (.slice base sLen sCap) w := by
 cases base <;> cases a <;>
 simp [Builtin.append_, run_underlying ht, sizeOf, typeInfo, hi, Builtin.lenOf, hle, Builtin.firstCells, loadCells, loadCellsFrom, storeCells]
end
section
variable {c : Ctx} {all : Array Oper} {chk : List Rec → Prop} {os : List Oper} {recs : List Rec} {env : Env} {hp : Hp} {Q : St → Prop}
variable {d ty : Nat} {pos : String} {af : Array Edge} {g : Option (Nat × Bool)} {pg : List (Nat × AV)}
variable {t yt : TypeId} {x y : Operand}
theorem RelA.gl_inv {G : Gh} {T : TokF} {w : World} {id : Nat} {xs : List (List D)} {v : Value} (h : RelA G T w (.gl id xs) v) :
  RelD G.F w (.sl xs) v ∧ ∀ n k, T id = some (n, k) → xs.length ≤ n ∧ (n = xs.length → (∀ x, x ∈ xs → x.length = k) ∧ Tip G w id n k v) := by
 cases h with | gl h ht => exact ⟨h, ht⟩
theorem tok_same {hp : Hp} {id n k : Nat} (h : getH hp id = some (.tok n k)) (j : Nat) : getH ((id, some (.tok n k)) :: hp) j = getH hp j := by
 rw [getH_cons]
 split
 ·rename_i e; subst e; exact h.symm
 ·rfl
theorem tokf_same {hp : Hp} {id n k : Nat} (h : getH hp id = some (.tok n k)) : tokf ((id, some (.tok n k)) :: hp) = tokf hp := by
 funext j; unfold tokf; rw [tok_same h]
theorem R.same {G : Gh} {s : St} {a : Act} {w : World} (hr : R c G s a w) {id n k : Nat} (h : getH s.hp id = some (.tok n k)) : R c G { s with hp := (id, some (.tok n k)) :: s.hp } a w := by
 have hsame := tok_same h
 have ht2 := tokf_same h
 exact ⟨hr.size, hr.defers, fun i v h => by rw [ht2]; exact hr.slots i v h, fun i r h => by rw [ht2]; exact hr.heap i r (by rw [← hsame]; exact h),
  fun i j h1 h2 => hr.disj i j (by rw [← hsame]; exact h1) (by rw [← hsame]; exact h2), fun i h => hr.new i (by rw [← hsame]; exact h), hr.frm, hr.top,
  fun i l h' => by
   show (G.loc i).head? = l.head? ∧ (getH ((id, some (.tok n k)) :: s.hp) i).isSome ∧ tokf ((id, some (.tok n k)) :: s.hp) i = none
   rw [hsame, ht2]; exact hr.kept i l h'⟩
theorem append_step {G : Gh} {s : St} {a : Act} {w : World} (hr : R c G s a w) {id k e yb : Nat} {xs ys : List (List D)} {v u : Value} (ht : SlT c.P t e k yb) {z : Value} (hz : ∃ i, c.P.info? e = some i ∧ i.zero = some z ∧ z.cells.size = k)
  (hk : 0 < k) (htok : getH s.hp id = some (.tok xs.length k)) (hv : RelA G (tokf s.hp) w (.gl id xs) v) (hu : RelD G.F w (.sl ys) u) (hky : ∀ y, y ∈ ys → y.length = k)
  (hb : (xs.length + ys.length) * yb ≤ 140737488355328) (hm : xs.length + ys.length ≤ 9223372036854775807) (opt : TypeId) :
  ∃ v' w' G', (Builtin.append_ #[t, t] opt #[v, u]).run c.P w = .ok v' w' ∧
   R c G' { s with hp := (id, some (.tok (xs.length + ys.length) k)) :: s.hp } a w' ∧
   RelA G' (tokf ((id, some (.tok (xs.length + ys.length) k)) :: s.hp)) w' (.gl id (xs ++ ys)) v' := by
 obtain ⟨i, hi1, hi2, hi3⟩ := ht.inf
 obtain ⟨i', z1, z2, z3⟩ := hz
 rw [hi1] at z1
 cases z1
 obtain ⟨hd, hcl⟩ := hv.gl_inv
 have hT : tokf s.hp id = some (xs.length, k) := tokf_some.2 htok
 obtain ⟨hkx, htip⟩ := (hcl _ _ hT).2 rfl
 have hT' : tokf ((id, some (.tok (xs.length + ys.length) k)) :: s.hp) id = some (xs.length + ys.length, k) := tokf_some.2 (by rw [getH_cons, if_pos rfl])
 rcases hu.sl_cells hky with ⟨oa0, cap0, rfl, rfl, _⟩ | ⟨b2, off2, cap2, news, rfl, hcap2, hnl, hnc, hn1, hnr⟩
 · -- nothing is appended
  have hle : ∃ base cap, v = .slice base xs.length cap ∧ xs.length ≤ cap := by
   rcases htip with ⟨h1, h2, h3⟩ | ⟨b, cap, cs, et, h1, h2, h3, h4, h5, h6⟩
   ·exact ⟨none, 0, by rw [h2]; exact h3, by omega⟩
   ·exact ⟨_, cap, h2, h6⟩
  obtain ⟨base, cap, rfl, hle⟩ := hle
  refine ⟨_, w, G, run_append_none t opt e i ht.und hi1 base xs.length cap hle oa0 cap0, ?_, ?_⟩
  ·exact hr.same htok
  ·show RelA G (tokf ((id, some (.tok xs.length k)) :: s.hp)) w (.gl id (xs ++ [])) _
   rw [tokf_same htok, List.append_nil]
   exact hv
 ·by_cases hm0 : ys.length = 0
  · -- an empty slice is appended
   have hy0 : ys = [] := List.eq_nil_of_length_eq_zero hm0
   subst hy0
   have hle : ∃ base cap, v = .slice base xs.length cap ∧ xs.length ≤ cap := by
    rcases htip with ⟨h1, h2, h3⟩ | ⟨b, cap, cs, et, h1, h2, h3, h4, h5, h6⟩
    ·exact ⟨none, 0, by rw [h2]; exact h3, by omega⟩
    ·exact ⟨_, cap, h2, h6⟩
   obtain ⟨base, cap, rfl, hle⟩ := hle
   refine ⟨_, w, G, run_append_none t opt e i ht.und hi1 base xs.length cap hle _ cap2, ?_, ?_⟩
   ·exact hr.same htok
   ·show RelA G (tokf ((id, some (.tok xs.length k)) :: s.hp)) w (.gl id (xs ++ [])) _
    rw [tokf_same htok, List.append_nil]
    exact hv
  have hmpos : 0 < ys.length := by omega
  have hnews : ∀ j u, news[j]? = some u → w.cell? ((⟨b2, off2, none⟩ : Addr).add j) = some u := fun j u hj => by rw [add_off]; exact (hnc j u hj).2
  have hnl' : news.length = ys.length * i.size := by rw [hi2]; exact hnl
  -- a new block, in the two cases in which one is made
  have fresh : ∀ (olds : List Value) (nc : Nat), olds.length = xs.length * k → xs.length + ys.length ≤ nc →
    (∀ j, ∀ hj : j < xs.length, ∀ m, ∀ hm : m < xs[j].length, ∀ hu : j * k + m < olds.length, RelD G.F w xs[j][m] olds[j * k + m]) →
    ∃ G', R c G' { s with hp := (id, some (.tok (xs.length + ys.length) k)) :: s.hp } a (w.drew.alloc (.cells (olds.toArray ++ news.toArray ++ Builtin.zeroCells z.cells (nc - (xs.length + ys.length))) e)) ∧
     RelA G' (tokf ((id, some (.tok (xs.length + ys.length) k)) :: s.hp)) (w.drew.alloc (.cells (olds.toArray ++ news.toArray ++ Builtin.zeroCells z.cells (nc - (xs.length + ys.length))) e))
      (.gl id (xs ++ ys)) (.slice (some ⟨w.heap.size, 0, none⟩) (xs.length + ys.length) nc) := by
   intro olds nc hol hnc' hold
   let cells : Array Value := olds.toArray ++ news.toArray ++ Builtin.zeroCells z.cells (nc - (xs.length + ys.length))
   let N := (xs.length + ys.length) * k
   let G' : Gh := { F := fun b => bif Nat.beq b w.heap.size then N else G.F b, loc := fun j => bif Nat.beq j id then [w.heap.size] else G.loc j }
   have hcs : cells.size = nc * k := by
    simp only [cells, Array.size_append, List.size_toArray, size_zeroCells, z3, hol, hnl, ← Nat.add_mul]
    congr 1; omega
   have hFne : ∀ b, b < w.heap.size → G'.F b = G.F b := fun b hb => by
    have : Nat.beq b w.heap.size = false := by
     cases h : Nat.beq b w.heap.size with
     | true => have := Nat.eq_of_beq_eq_true h; omega
     | false => rfl
    simp [G', this]
   have hlt : ∀ b o, o < G.F b → b < w.heap.size := fun b o ho => by
    rcases Nat.lt_or_ge b w.heap.size with h | h
    ·exact h
    ·rw [hr.top b h] at ho; omega
   have hcell : ∀ b o, o < G.F b → o < G'.F b ∧ (w.drew.alloc (.cells cells e)).cell? ⟨b, o, none⟩ = w.cell? ⟨b, o, none⟩ := fun b o ho => by
    have hb := hlt b o ho
    exact ⟨by rw [hFne b hb]; exact ho, by rw [World.cell?_alloc_lt w.drew _ _ hb]; rfl⟩
   have hlocne : ∀ j, j ≠ id → G'.loc j = G.loc j := fun j hj => by
    have : Nat.beq j id = false := by
     cases h : Nat.beq j id with
     | true => exact absurd (Nat.eq_of_beq_eq_true h) hj
     | false => rfl
    simp [G', this]
   have hlocid : G'.loc id = [w.heap.size] := by simp [G']
   refine ⟨G', hr.retok (G' := G') htok (by omega) hcell hlocne (fun b hb _ => ⟨alloc_block (w := w.drew) hb, hFne b hb⟩) (fun b hb => by rw [hlocid] at hb; simp at hb; subst hb; simp)
    (fun b hb => by rw [hlocid] at hb; simp at hb; exact .inr (by omega)) rfl rfl rfl (by simp) (fun b hb => ?_), ?_⟩
   ·have hb' : w.heap.size + 1 ≤ b := by simpa using hb
    have : Nat.beq b w.heap.size = false := by
     cases h : Nat.beq b w.heap.size with
     | true => have := Nat.eq_of_beq_eq_true h; omega
     | false => rfl
    simp only [G', this, cond_false]
    exact hr.top b (by omega)
   ·have hky' : ∀ e, e ∈ xs ++ ys → e.length = k := fun e he => by
     rcases List.mem_append.1 he with h | h
     ·exact hkx e h
     ·exact hky e h
    have hup : G.F w.heap.size ≤ G'.F w.heap.size := by rw [hr.top _ (Nat.le_refl _)]; exact Nat.zero_le _
    have hrow : RelD G'.F (w.drew.alloc (.cells cells e)) (.sl (xs ++ ys)) (.slice (some ⟨w.heap.size, 0, none⟩) (xs ++ ys).length nc) := by
     refine RelD.row (us := olds ++ news) hkx hky (by simpa using hnc') (by simp [hol, hnl, Nat.add_mul]) (fun n u hn => ⟨?_, ?_⟩) (fun i hi j hj hu => ?_) (fun i hi j hj hu => ?_)
     ·obtain ⟨h1, _⟩ := List.getElem?_eq_some_iff.1 hn
      simp only [List.length_append, hol, hnl, ← Nat.add_mul] at h1
      simp only [G', Nat.beq_refl, cond_true]
      exact h1
     ·have : (w.drew.alloc (.cells cells e)).cell? ⟨w.heap.size, n, none⟩ = cells[n]? := World.cell?_alloc_new (w := w.drew) cells e n
      rw [this]
      obtain ⟨h1, _⟩ := List.getElem?_eq_some_iff.1 hn
      simp only [cells]
      rw [Array.getElem?_append_left (by simpa using h1)]
      simpa using hn
     ·have hlt' : i * k + j < olds.length := by
       have h1 : xs[i].length = k := hkx _ (List.getElem_mem hi)
       have : (i + 1) * k ≤ xs.length * k := Nat.mul_le_mul_right _ (by omega)
       rw [Nat.add_mul] at this
       omega
      rw [List.getElem_append_left hlt']
      exact (hold i hi j hj hlt').mono hcell
     ·have h1 : ys[i].length = k := hky _ (List.getElem_mem hi)
      have e1 : (xs.length + i) * k + j = olds.length + (i * k + j) := by rw [hol, Nat.add_mul]; omega
      have hlt' : i * k + j < news.length := by
       have : (i + 1) * k ≤ ys.length * k := Nat.mul_le_mul_right _ (by omega)
       rw [Nat.add_mul] at this
       omega
      have e2 : (olds ++ news)[(xs.length + i) * k + j] = news[i * k + j] := by
       rw [List.getElem_append_right (by omega)]
       congr 1; omega
      rw [e2]
      exact (hnr i hi j hj hlt').mono hcell
    rw [List.length_append] at hrow
    refine .gl hrow (fun n' k' hm' => ?_)
    rw [hT'] at hm'
    cases hm'
    refine ⟨by simp, fun _ => ⟨hky', .inr ⟨w.heap.size, nc, cells, e, hlocid, rfl, by simp [G', N], alloc_at (w := w.drew), by rw [hcs]; exact Nat.le_refl _, hnc'⟩⟩⟩
  rcases htip with ⟨h1, h2, h3⟩ | ⟨b, cap, cs, et, h1, h2, h3, h4, h5, h6⟩
  · -- a nil slice
   have hx0 : xs = [] := List.eq_nil_of_length_eq_zero h2
   subst hx0
   subst h3
   simp only [List.length_nil, Nat.zero_add] at hb hm fresh ⊢
   have hrun := run_append_nil (P := c.P) w t opt e i z ht.und hi1 z2 ⟨b2, off2, none⟩ ys.length cap2 news hnl' hnews hmpos (by omega) (by rw [hi3]; omega)
   obtain ⟨G', hR, hA⟩ := fresh [] (grownCap w ys.length 0 e) (by simp) (by
    have := grownCap_ge w ys.length 0 e; omega) (fun j hj => by simp at hj)
   simp only [List.nil_append, Array.empty_append] at hR hA hrun ⊢
   exact ⟨_, _, G', hrun, hR, hA⟩
  ·subst h2
   by_cases hroom : xs.length + ys.length ≤ cap
   · -- there is room
    have hfit : xs.length * i.size + news.length ≤ cs.size := by
     rw [hi2, hnl, ← Nat.add_mul]
     exact Nat.le_trans (Nat.mul_le_mul_right _ hroom) h5
    have hrun := run_append_room' (P := c.P) t opt e i ht.und hi1 b xs.length cap cs et h4 ⟨b2, off2, none⟩ ys.length cap2 news hnl' hnews hn1 hroom hfit
    rw [hi2] at hrun hfit
    let row : Array Value := (cs.toList.take (xs.length * k) ++ news ++ cs.toList.drop (xs.length * k + news.length)).toArray
    let N := (xs.length + ys.length) * k
    let G' : Gh := { F := fun b' => bif Nat.beq b' b then N else G.F b', loc := G.loc }
    have hNn : xs.length * k + news.length = N := by rw [hnl, ← Nat.add_mul]
    have hrs : row.size = cs.size := by
     simp only [row, List.size_toArray, List.length_append, List.length_take, List.length_drop, Array.length_toList]; omega
    have hrowL : ∀ n, n < xs.length * k → row[n]? = cs[n]? := fun n hn => by
     simp only [row, List.getElem?_toArray]
     rw [List.append_assoc, List.getElem?_append_left (by simp; omega), List.getElem?_take, if_pos hn]
     simp
    have hrowN : ∀ n, n < news.length → row[xs.length * k + n]? = news[n]? := fun n hn => by
     simp only [row, List.getElem?_toArray]
     rw [List.append_assoc, List.getElem?_append_right (by simp; omega), List.getElem?_append_left (by simp; omega)]
     congr 1
     simp; omega
    have hFb : G'.F b = N := by simp [G']
    have hFne : ∀ b', b' ≠ b → G'.F b' = G.F b' := fun b' hb => by
     have : Nat.beq b' b = false := by
      cases h : Nat.beq b' b with
      | true => exact absurd (Nat.eq_of_beq_eq_true h) hb
      | false => rfl
     simp [G', this]
    have hcell : ∀ b' o, o < G.F b' → o < G'.F b' ∧ (w.setRow b row).cell? ⟨b', o, none⟩ = w.cell? ⟨b', o, none⟩ := fun b' o ho => by
     by_cases hbb : b' = b
     ·subst hbb
      rw [h3] at ho
      refine ⟨by rw [hFb]; have : xs.length * k ≤ N := Nat.mul_le_mul_right _ (by omega); omega, ?_⟩
      rw [cell_setRow_same w b' o cs row et _ h4, hrowL o ho]
      simp [World.cell?, h4]
     ·exact ⟨by rw [hFne b' hbb]; exact ho, cell_setRow_other w b row _ hbb⟩
    have hbs : b < w.heap.size := by
     rcases Nat.lt_or_ge b w.heap.size with h | h
     ·exact h
     ·rw [Array.getElem?_eq_none h] at h4; cases h4
    refine ⟨_, _, G', hrun, hr.retok (G' := G') htok (by omega) hcell (fun _ _ => rfl) (fun b' hb' hn => ?_) (fun x hx => by rw [h1] at hx; simp at hx; subst hx; simpa using hbs) (fun b' hb' => .inl hb') rfl rfl rfl (by simp) (fun b' hb' => ?_), ?_⟩
    ·have hne : b' ≠ b := fun e => hn (by rw [h1, e]; simp)
     exact ⟨setRow_other w b b' row hne, hFne b' hne⟩
    ·have hb2' : w.heap.size ≤ b' := by simpa using hb'
     rw [hFne b' (by omega)]
     exact hr.top b' hb2'
    ·have hky' : ∀ e, e ∈ xs ++ ys → e.length = k := fun e he => by
      rcases List.mem_append.1 he with h | h
      ·exact hkx e h
      ·exact hky e h
     have hcellrow : ∀ n, (w.setRow b row).cell? ⟨b, n, none⟩ = row[n]? := fun n => cell_setRow_same w b n cs row et _ h4
     obtain ⟨oa3, cap3, hx, _, hx'⟩ | ⟨b3, off3, cap3, olds, hxe, hx2, hx3, hx4, hx5, hx6⟩ := hd.sl_cells hkx
     ·simp only [Value.slice.injEq] at hx; exact absurd hx.1.symm (hx' _ _)
     simp only [Value.slice.injEq, Option.some.injEq, Addr.mk.injEq] at hxe
     obtain ⟨⟨rfl, rfl, _⟩, _, rfl⟩ := hxe
     have hrow : RelD G'.F (w.setRow b row) (.sl (xs ++ ys)) (.slice (some ⟨b, 0, none⟩) (xs ++ ys).length cap) := by
      refine RelD.row (us := olds ++ news) hkx hky (by simpa using hroom) (by simp [hx3, hnl, Nat.add_mul]) (fun n u hn => ⟨?_, ?_⟩) (fun i hi j hj hu => ?_) (fun i hi j hj hu => ?_)
      ·obtain ⟨hl1, _⟩ := List.getElem?_eq_some_iff.1 hn
       simp only [List.length_append, hx3, hnl, ← Nat.add_mul] at hl1
       rw [hFb]; exact hl1
      ·rw [hcellrow]
       by_cases hno : n < olds.length
       ·rw [hrowL n (by omega)]
        rw [List.getElem?_append_left hno] at hn
        have := (hx4 n u hn).2
        rw [Nat.zero_add] at this
        simpa [World.cell?, h4] using this
       ·rw [List.getElem?_append_right (by omega)] at hn
        have hl1 := (List.getElem?_eq_some_iff.1 hn).1
        have := hrowN (n - olds.length) hl1
        rw [show xs.length * k + (n - olds.length) = n by omega] at this
        rw [this]; exact hn
      ·have hlt' : i * k + j < olds.length := by
        have h1 : xs[i].length = k := hkx _ (List.getElem_mem hi)
        have : (i + 1) * k ≤ xs.length * k := Nat.mul_le_mul_right _ (by omega)
        rw [Nat.add_mul] at this
        omega
       rw [List.getElem_append_left hlt']
       exact (hx6 i hi j hj hlt').mono hcell
      ·have h1 : ys[i].length = k := hky _ (List.getElem_mem hi)
       have hlt' : i * k + j < news.length := by
        have : (i + 1) * k ≤ ys.length * k := Nat.mul_le_mul_right _ (by omega)
        rw [Nat.add_mul] at this
        omega
       have e2 : (olds ++ news)[(xs.length + i) * k + j] = news[i * k + j] := by
        rw [List.getElem_append_right (by rw [hx3, Nat.add_mul]; omega)]
        congr 1; rw [hx3, Nat.add_mul]; omega
       rw [e2]
       exact (hnr i hi j hj hlt').mono hcell
     rw [List.length_append] at hrow
     refine .gl hrow (fun n' k' hm' => ?_)
     rw [hT'] at hm'
     cases hm'
     exact ⟨by simp, fun _ => ⟨hky', .inr ⟨b, cap, row, et, h1, rfl, hFb, setRow_heap w b cs row et _ h4, by rw [hrs]; exact h5, hroom⟩⟩⟩
   · -- it must grow
    obtain ⟨oa3, cap3, hx, _, hx'⟩ | ⟨b3, off3, cap3, olds, hxe, hx2, hx3, hx4, hx5, hx6⟩ := hd.sl_cells hkx
    ·simp only [Value.slice.injEq] at hx; exact absurd hx.1.symm (hx' _ _)
    simp only [Value.slice.injEq, Option.some.injEq, Addr.mk.injEq] at hxe
    obtain ⟨⟨rfl, rfl, _⟩, _, rfl⟩ := hxe
    have hrun := run_append_grow (P := c.P) w t opt e i z ht.und hi1 z2 ⟨b, 0, none⟩ xs.length cap olds (by rw [hi2]; exact hx3)
     (fun j u hj => by rw [add_off]; exact (hx4 j u hj).2) ⟨b2, off2, none⟩ ys.length cap2 news hnl' hnews (by omega) (by omega) (by rw [hi3]; exact growslice_fits (by omega) hb)
    obtain ⟨G', hR, hA⟩ := fresh olds (grownCap w (xs.length + ys.length) cap e) hx3 (by have := grownCap_ge w (xs.length + ys.length) cap e; omega) hx6
    exact ⟨_, _, G', hrun, hR, hA⟩
end
end Go.Proofs.Ytadpcmcifbakoaa
