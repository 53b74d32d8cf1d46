/-
  THE ABSTRACT WALK, part K: append.
-/
import Derived.Test.YtadpcmcifbakoaaAmJ
import Derived.Laws.Append
namespace Go.Proofs.Ytadpcmcifbakoaa
open Go
set_option linter.unusedSimpArgs false
set_option linter.unusedVariables false
theorem RelA.retok {G G' : Gh} {T T' : TokF} {w w' : World} {x : AV} {v : Value} {id n n' k : Nat} (h : RelA G T w x v)
  (hF : ∀ b o, o < G.F b → o < G'.F b ∧ w'.cell? ⟨b, o, none⟩ = w.cell? ⟨b, o, none⟩)
  (hT : T id = some (n, k)) (hlt : n < n') (hT1 : T' id = some (n', k)) (hT2 : ∀ i, i ≠ id → T' i = T i) (hloc : ∀ i, i ≠ id → G'.loc i = G.loc i)
  (htok : ∀ i p, i ≠ id → T i = some p → ∀ b, b ∈ G.loc i → w'.heap[b]? = w.heap[b]? ∧ G'.F b = G.F b) : RelA G' T' w' x v := by
 induction h with
 | d h => exact .d (h.mono hF)
 | @gl i xs v h ht =>
  refine .gl (h.mono hF) (fun m k' hm => ?_)
  by_cases hi : i = id
  ·subst hi
   rw [hT1] at hm
   cases hm
   have := (ht n k hT).1
   exact ⟨by omega, fun he => by omega⟩
  ·rw [hT2 i hi] at hm
   obtain ⟨h1, h2⟩ := ht m k' hm
   refine ⟨h1, fun hx => ?_⟩
   obtain ⟨h3, h4⟩ := h2 hx
   refine ⟨h3, ?_⟩
   rcases h4 with ⟨e1, e2, e3⟩ | ⟨b, cap, cs, e, e1, e2, e3, e4, e5⟩
   ·exact .inl ⟨(hloc i hi).trans e1, e2, e3⟩
   ·obtain ⟨f1, f2⟩ := htok i _ hi hm b (by simp [e1])
    exact .inr ⟨b, cap, cs, e, (hloc i hi).trans e1, e2, f2.trans e3, f1.trans e4, e5⟩
 | @gv i xs v hv ht =>
  refine .gv hv (fun m k' hm => ?_)
  by_cases hi : i = id
  ·subst hi
   rw [hT1] at hm
   cases hm
   have := (ht n k hT).1
   exact ⟨by omega, fun he => by omega⟩
  ·rw [hT2 i hi] at hm
   obtain ⟨h1, h2⟩ := ht m k' hm
   refine ⟨h1, fun hx => ?_⟩
   obtain ⟨h3, h4⟩ := h2 hx
   refine ⟨h3, ?_⟩
   rcases h4 with ⟨e1, e2, e3⟩ | ⟨b, cap, cs, e, e1, e2, e3, e4, e5, e6, e7⟩
   ·exact .inl ⟨(hloc i hi).trans e1, e2, e3⟩
   ·obtain ⟨f1, f2⟩ := htok i _ hi hm b (by simp [e1])
    exact .inr ⟨b, cap, cs, e, (hloc i hi).trans e1, e2, f2.trans e3, f1.trans e4, e5, e6, fun i hi j hj => (e7 i hi j hj).mono hF⟩
 | @gt i xs v hv ht =>
  refine .gt hv (fun m k' hm => ?_)
  by_cases hi : i = id
  ·subst hi
   rw [hT1] at hm
   cases hm
   have := (ht n k hT).1
   exact ⟨by omega, fun he => by omega⟩
  ·rw [hT2 i hi] at hm
   obtain ⟨h1, h2⟩ := ht m k' hm
   refine ⟨h1, fun hx => ?_⟩
   obtain ⟨h3, h4⟩ := h2 hx
   exact ⟨h3, h4.mono hx h3 (hloc i hi) (htok i _ hi hm)⟩
 | @ref i off b h hn =>
  have hi : i ≠ id := fun e => by subst e; rw [hT] at hn; cases hn
  exact .ref ((congrArg List.head? (hloc i hi)).trans h) ((hT2 i hi).trans hn)
 | @ms i m b cap h hn hc =>
  have hi : i ≠ id := fun e => by subst e; rw [hT] at hn; cases hn
  exact .ms ((congrArg List.head? (hloc i hi)).trans h) ((hT2 i hi).trans hn) hc
 | @mo i off o m b cap h hn hc ho =>
  have hi : i ≠ id := fun e => by subst e; rw [hT] at hn; cases hn
  exact .mo ((congrArg List.head? (hloc i hi)).trans h) ((hT2 i hi).trans hn) hc ho
 | @mapr i b h hn =>
  have hi : i ≠ id := fun e => by subst e; rw [hT] at hn; cases hn
  exact .mapr ((congrArg List.head? (hloc i hi)).trans h) ((hT2 i hi).trans hn)
 | fn hn h ih => exact .fn hn ih
 | agg hn h ih => exact .agg hn ih
 | tup hn h ih => exact .tup hn ih
 | nils => exact .nils
 | sn h hn => exact .sn (h.mono hF) hn
 | any v => exact .any v
section
variable {c : Ctx}
theorem R.retok {G G' : Gh} {s : St} {a : Act} {w w' : World} (hr : R c G s a w) {id n n' k : Nat} (htok : getH s.hp id = some (.tok n k)) (hlt : n < n')
  (hF : ∀ b o, o < G.F b → o < G'.F b ∧ w'.cell? ⟨b, o, none⟩ = w.cell? ⟨b, o, none⟩) (hloc : ∀ i, i ≠ id → G'.loc i = G.loc i)
  (hoth : ∀ b, b < w.heap.size → b ∉ G.loc id → w'.heap[b]? = w.heap[b]? ∧ G'.F b = G.F b)
  (hid : ∀ b, b ∈ G'.loc id → b < w'.heap.size) (hnew : ∀ b, b ∈ G'.loc id → b ∈ G.loc id ∨ w.heap.size ≤ b)
  (hos : w'.os = w.os) (htp : w'.tape = w.tape) (hou : w'.output = w.output) (hsz : w.heap.size ≤ w'.heap.size) (htop : ∀ b, w'.heap.size ≤ b → G'.F b = 0) :
  R c G' { s with hp := (id, some (.tok n' k)) :: s.hp } a w' := by
 have hT : tokf s.hp id = some (n, k) := tokf_some.2 htok
 have hT1 : tokf ((id, some (.tok n' k)) :: s.hp) id = some (n', k) := tokf_some.2 (by rw [getH_cons, if_pos rfl])
 have hT2 : ∀ i, i ≠ id → tokf ((id, some (.tok n' k)) :: s.hp) i = tokf s.hp i := fun i hi => by
  unfold tokf
  rw [getH_cons, if_neg hi]
 have bound : ∀ i r, getH s.hp i = some r → ∀ b, b ∈ G.loc i → b < w.heap.size := fun i r h => (hr.heap i r h).bound
 have apart : ∀ i r, i ≠ id → getH s.hp i = some r → ∀ b, b ∈ G.loc i → b ∉ G.loc id := fun i r hi h b hb => hr.disj i id (by rw [h]; rfl) (by rw [htok]; rfl) hi b hb
 have hm : ∀ {x : AV} {v : Value}, RelA G (tokf s.hp) w x v → RelA G' (tokf ((id, some (.tok n' k)) :: s.hp)) w' x v := fun hx =>
  hx.retok hF hT hlt hT1 hT2 hloc (fun i p hi hp b hb => by
   obtain ⟨m, k'⟩ := p
   have h1 := tokf_some.1 hp
   exact hoth b (bound i _ h1 b hb) (apart i _ hi h1 b hb))
 have hsome : ∀ i, (getH ((id, some (.tok n' k)) :: s.hp) i).isSome → (getH s.hp i).isSome := fun i h => by
  rw [getH_cons] at h
  split at h
  ·rename_i e; subst e; rw [htok]; rfl
  ·exact h
 have hidnew := hr.new id (by rw [htok]; rfl)
 refine ⟨hr.size, hr.defers, fun i v h => hm (hr.slots i v h), fun i r h => ?_, fun i j h1 h2 h3 b hb => ?_, fun i h b hb => ?_,
  hr.frm.trans (own1 := G.loc id) ⟨hos, htp, hou, hsz, hoth, hF⟩ hidnew, htop, fun i l hl => ?_⟩
 ·rw [getH_cons] at h
  by_cases hi : i = id
  ·subst hi
   rw [if_pos rfl] at h
   cases h
   exact hid
  ·rw [if_neg hi] at h
   have hh := hr.heap i r h
   have ho : ∀ b, b ∈ G.loc i → w'.heap[b]? = w.heap[b]? ∧ G'.F b = G.F b := fun b hb => hoth b (bound i r h b hb) (apart i r hi h b hb)
   cases r with
   | box cs =>
    obtain ⟨b, vs, e, h1, h2, h3, h4, h5⟩ := hh
    obtain ⟨o1, o2⟩ := ho b (by simp [h1])
    exact ⟨b, vs, e, (hloc i hi).trans h1, o1.trans h2, h3, o2.trans h4, fun j hj hv => hm (h5 j hj hv)⟩
   | tok m k' => exact fun b h1 => Nat.lt_of_lt_of_le (hh b (by rw [hloc i hi] at h1; exact h1)) (by omega)
   | map ks =>
    obtain ⟨b, es, cl, h1, h2, h3, h4⟩ := hh
    obtain ⟨o1, o2⟩ := ho b (by simp [h1])
    exact ⟨b, es, cl, (hloc i hi).trans h1, o1.trans h2, o2.trans h3, h4⟩
   | tree cs => exact tree_mono hh (hloc i hi) ho (by omega) (fun _ _ _ => hm)
 ·have s1 := hsome i h1
  have s2 := hsome j h2
  obtain ⟨r1, hr1⟩ := Option.isSome_iff_exists.1 s1
  obtain ⟨r2, hr2⟩ := Option.isSome_iff_exists.1 s2
  by_cases hi : i = id
  ·subst hi
   rw [hloc j (Ne.symm h3)]
   intro hbj
   rcases hnew b hb with h | h
   ·exact apart j r2 (Ne.symm h3) hr2 b hbj h
   ·have := bound j r2 hr2 b hbj; omega
  ·rw [hloc i hi] at hb
   by_cases hj : j = id
   ·subst hj
    intro hbj
    rcases hnew b hbj with h | h
    ·exact apart i r1 hi hr1 b hb h
    ·have := bound i r1 hr1 b hb; omega
   ·rw [hloc j hj]
    exact hr.disj i j s1 s2 h3 b hb
 ·have s1 := hsome i h
  by_cases hi : i = id
  ·subst hi
   rcases hnew b hb with h' | h'
   ·exact hidnew b h'
   ·right; have := hr.frm.size; omega
  ·rw [hloc i hi] at hb
   exact hr.new i s1 b hb
 ·have hk := hr.kept i l hl
  have hi : i ≠ id := fun e => by subst e; rw [hT] at hk; simp at hk
  refine ⟨(congrArg List.head? (hloc i hi)).trans hk.1, ?_, (hT2 i hi).trans hk.2.2⟩
  show (getH ((id, some (.tok n' k)) :: s.hp) i).isSome
  rw [getH_cons, if_neg hi]
  exact hk.2.1
theorem RelD.one {F : Nat → Nat} {w : World} {x : D} {v : Value} (h : RelD F w x v) : v.oneCell' = true := by
 cases h <;> rfl
theorem RelD.sl_cells {F : Nat → Nat} {w : World} {ys : List (List D)} {v : Value} {k : Nat} (h : RelD F w (.sl ys) v) (hk : ∀ e, e ∈ ys → e.length = k) :
  (∃ oa cap, v = .slice oa 0 cap ∧ ys = [] ∧ ∀ b o, oa ≠ some ⟨b, o, none⟩) ∨ ∃ (b off cap : Nat) (news : List Value), v = .slice (some ⟨b, off, none⟩) ys.length cap ∧ ys.length ≤ cap ∧ news.length = ys.length * k ∧
   (∀ j u, news[j]? = some u → off + j < F b ∧ w.cell? ⟨b, off + j, none⟩ = some u) ∧ (∀ u, u ∈ news → u.oneCell' = true) ∧
   ∀ i (hi : i < ys.length) j (hj : j < ys[i].length) (hu : i * k + j < news.length), RelD F w ys[i][j] news[i * k + j] := by
 cases h with
 | nil => exact .inl ⟨none, 0, rfl, rfl, fun _ _ => by simp⟩
 | emp b off s cap => exact .inl ⟨_, _, rfl, rfl, fun _ _ => by simp⟩
 | sl _ k' b off cap cf hk' hcap hc hr =>
  right
  have hkk : ys ≠ [] → k' = k := fun hne => by
   obtain ⟨x, hx⟩ := List.exists_mem_of_ne_nil _ hne
   rw [← hk x hx, hk' x hx]
  have hlen : ys.length * k = ys.length * k' := by
   by_cases hne : ys = []
   ·subst hne; simp
   ·rw [hkk hne]
  refine ⟨b, off, cap, (List.range (ys.length * k)).map cf, rfl, hcap, by simp, fun j u hj => ?_, fun u hu => ?_, fun i hi j hj hu => ?_⟩
  ·simp only [List.getElem?_map, Option.map_eq_some_iff] at hj
   obtain ⟨j', hj', rfl⟩ := hj
   obtain ⟨h1, rfl⟩ := List.getElem?_eq_some_iff.1 hj'
   simp only [List.length_range] at h1
   rw [List.getElem_range]
   exact hc j (by omega)
  ·simp only [List.mem_map, List.mem_range] at hu
   obtain ⟨j, hj, rfl⟩ := hu
   have hne : ys ≠ [] := fun e => by subst e; simp at hj
   have hkk' := hkk hne
   subst hkk'
   have hpos : 0 < k' := by
    rcases Nat.eq_zero_or_pos k' with h0 | h0
    ·subst h0; simp at hj
    ·exact h0
   have hi : j / k' < ys.length := Nat.div_lt_of_lt_mul (by rw [Nat.mul_comm]; exact hj)
   have hmod : j % k' < (ys[j / k']).length := by rw [hk' _ (List.getElem_mem hi)]; exact Nat.mod_lt _ hpos
   have := hr (j / k') hi (j % k') hmod
   rw [Nat.div_add_mod'] at this
   exact this.one
  ·have hne : ys ≠ [] := fun e => by subst e; simp at hi
   have := hr i hi j hj
   rw [hkk hne] at this
   simpa using this
theorem RelD.row {F : Nat → Nat} {w : World} {xs ys : List (List D)} {k b cap : Nat} {us : List Value} (hkx : ∀ e, e ∈ xs → e.length = k) (hky : ∀ e, e ∈ ys → e.length = k)
  (hcap : (xs ++ ys).length ≤ cap) (hlen : us.length = (xs ++ ys).length * k) (hc : ∀ n u, us[n]? = some u → n < F b ∧ w.cell? ⟨b, n, none⟩ = some u)
  (hx : ∀ i (hi : i < xs.length) j (hj : j < xs[i].length) (hu : i * k + j < us.length), RelD F w xs[i][j] us[i * k + j])
  (hy : ∀ i (hi : i < ys.length) j (hj : j < ys[i].length) (hu : (xs.length + i) * k + j < us.length), RelD F w ys[i][j] us[(xs.length + i) * k + j]) :
  RelD F w (.sl (xs ++ ys)) (.slice (some ⟨b, 0, none⟩) (xs ++ ys).length cap) := by
 refine .sl _ k b 0 cap (fun n => us.getD n undef) (fun e he => ?_) hcap (fun n hn => ?_) (fun i hi j hj => ?_)
 ·rcases List.mem_append.1 he with h | h
  ·exact hkx e h
  ·exact hky e h
 ·have h1 : n < us.length := by omega
  have := hc n us[n] (by simp [h1])
  rw [Nat.zero_add]
  simpa [List.getD, h1] using this
 ·have hjk : j < k := by
   have : ((xs ++ ys)[i]).length = k := by
    rcases List.mem_append.1 (List.getElem_mem hi) with h | h
    ·exact hkx _ h
    ·exact hky _ h
   omega
  have hlt : i * k + j < us.length := by
   have : (i + 1) * k ≤ (xs ++ ys).length * k := Nat.mul_le_mul_right _ (by omega)
   rw [Nat.add_mul] at this
   omega
  have e1 : us.getD (i * k + j) undef = us[i * k + j] := by simp [List.getD, hlt]
  rw [e1]
  by_cases h : i < xs.length
  ·have e2 : (xs ++ ys)[i] = xs[i] := List.getElem_append_left h
   have := hx i h j (by rw [← e2]; exact hj) hlt
   simpa only [e2] using this
  ·have h2 : i - xs.length < ys.length := by simp only [List.length_append] at hi; omega
   have e2 : (xs ++ ys)[i] = ys[i - xs.length] := List.getElem_append_right (by omega)
   have e3 : xs.length + (i - xs.length) = i := by omega
   have := hy (i - xs.length) h2 j (by rw [← e2]; exact hj) (by rw [e3]; exact hlt)
   simp only [e3] at this
   simpa only [e2] using this
end
end Go.Proofs.Ytadpcmcifbakoaa
