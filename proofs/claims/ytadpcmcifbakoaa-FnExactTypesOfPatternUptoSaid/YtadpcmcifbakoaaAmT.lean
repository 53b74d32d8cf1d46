/-
  THE ABSTRACT WALK, part T: a row that was made and filled is never written again from here on.
-/
import Derived.Test.YtadpcmcifbakoaaAmS
namespace Go.Proofs.Ytadpcmcifbakoaa
open Go
set_option linter.unusedSimpArgs false
set_option linter.unusedVariables false
section
variable {c : Ctx}
theorem CWp.frz {env : Env} {hp : Hp} {K : Kt} {code : Code} {ids : List Nat} (hkp : KeptIn c.kept ids) (t id n k : Nat) {cs : List AV} {es : List (List D)} (ht : getE env t = some (.ms id n)) (hb : getH hp id = some (.box cs))
  (hc : chunkD n k cs = some es) (hid : elemB id ids = false) (hn : CWp c code ⟨(t, .d (.sl es)) :: env, (id, none) :: hp⟩ K) : CWp c code ⟨env, hp⟩ K := by
 intro a w hrel
 obtain ⟨G, hr⟩ := hrel
 obtain ⟨c1, c2, c3, c4⟩ := chunkD_spec hc
 obtain ⟨b, us, e, h1, h2, h3, h4, h5⟩ := hr.heap id _ hb
 have hms := hr.slots t _ ht
 obtain ⟨b', cap, hl, he, hcap⟩ := hms.ms_eq
 obtain rfl := (head_one hl.1 h1).symm
 let G' : Gh := { G with F := fun x => bif Nat.beq x b then us.size else G.F x }
 have hF : ∀ x, x ≠ b → G'.F x = G.F x := fun x hx => by
  have : Nat.beq x b = false := by
   cases hh : Nat.beq x b with
   | true => exact absurd (Nat.eq_of_beq_eq_true hh) hx
   | false => rfl
  simp [G', this]
 have hFb : G'.F b = us.size := by simp [G']
 have hother : ∀ i, (getH hp i).isSome → i ≠ id → ∀ x, x ∈ G.loc i → x ≠ b := fun i hi hne x hx e => by
  subst e
  exact hr.disj i id hi (by rw [hb]; rfl) hne x hx (by simp [h1])
 have hget : ∀ i, getH ((id, none) :: hp) i = if i = id then none else getH hp i := fun i => getH_cons
 have htok : ∀ i p, tokf ((id, none) :: hp) i = some p → tokf hp i = some p ∧ i ≠ id := by
  rintro i ⟨m, q⟩ hp'
  have := tokf_some.1 hp'
  rw [hget] at this
  split at this
  ·cases this
  ·rename_i hne; exact ⟨tokf_some.2 this, hne⟩
 have hcell : ∀ x o, o < G.F x → o < G'.F x ∧ w.cell? ⟨x, o, none⟩ = w.cell? ⟨x, o, none⟩ := fun x o ho => by
  refine ⟨?_, rfl⟩
  by_cases hx : x = b
  ·subst hx; rw [h4] at ho; omega
  ·rw [hF x hx]; exact ho
 have hm : ∀ {x : AV} {v : Value}, RelA G (tokf hp) w x v → RelA G' (tokf ((id, none) :: hp)) w x v := fun hx =>
  hx.mono hcell (fun _ _ => .inl rfl) (fun i _ p hp' => by
   obtain ⟨q1, q2⟩ := htok i p hp'
   refine ⟨q1, fun x hx => ⟨rfl, hF x (hother i ?_ q2 x hx)⟩⟩
   obtain ⟨m, q⟩ := p
   rw [tokf_some.1 q1]; rfl)
 have hsome : ∀ i, (getH ((id, none) :: hp) i).isSome → (getH hp i).isSome ∧ i ≠ id := fun i hi => by
  rw [hget] at hi
  split at hi
  ·cases hi
  ·rename_i hne; exact ⟨hi, hne⟩
 have hbnew := hr.new id (by rw [hb]; rfl) b (by simp [h1])
 have hblt : b < w.heap.size := (hr.heap id _ hb).bound b (by simp [h1])
 refine hn a w ⟨G', hr.size, hr.defers, fun i v hi => ?_, fun i r hi => ?_, fun i j q1 q2 => hr.disj i j (hsome i q1).1 (hsome j q2).1, fun i q1 => hr.new i (hsome i q1).1, ?_, fun x hx => ?_, fun i l hk => ?_⟩
 ·simp only [getE] at hi
  cases hti : Nat.beq t i with
  | true =>
   have := Nat.eq_of_beq_eq_true hti
   subst this
   simp only [hti, cond_true, Option.some.injEq] at hi
   subst hi
   rw [he]
   refine .d ?_
   have hn' : n = es.length := c1.symm
   rw [hn']
   refine .sl es k b 0 cap (fun x => us.getD x undef) c2 (by omega) (fun x hx => ?_) (fun i hi j hj => ?_)
   ·have h3' : x < cs.length := by rw [c3, ← c1]; exact hx
    have hxs : x < us.size := Nat.lt_of_lt_of_le h3' h3
    refine ⟨by rw [hFb]; omega, ?_⟩
    simp [World.cell?, h2, hxs]
   ·have hjk : j < k := by rw [← c2 _ (List.getElem_mem hi)]; exact hj
    have hlt : i * k + j < cs.length := by
     rw [c3, ← c1]
     have : (i + 1) * k ≤ es.length * k := Nat.mul_le_mul_right _ (by omega)
     rw [Nat.add_mul] at this
     omega
    have hlu : i * k + j < us.size := by omega
    have h6 := (h5 _ hlt hlu).toD (c4 i hi j hj hlt)
    have h7 : us.getD (i * k + j) undef = us[i * k + j] := by simp [Array.getD, hlu]
    rw [h7]
    exact h6.mono hcell
  | false =>
   simp only [hti, cond_false] at hi
   exact hm (hr.slots i v hi)
 ·have hi' : getH ((id, none) :: hp) i = some r := hi
  rw [hget] at hi'
  split at hi'
  ·cases hi'
  ·rename_i hne
   have hh := hr.heap i r hi'
   have hs : (getH hp i).isSome := by rw [hi']; rfl
   cases r with
   | box cs2 =>
    obtain ⟨b2, vs2, e2, q1, q2, q3, q4, q5⟩ := hh
    exact ⟨b2, vs2, e2, q1, q2, q3, (hF b2 (hother i hs hne b2 (by simp [q1]))).trans q4, fun j hj hv => hm (q5 j hj hv)⟩
   | tok m q => exact hh
   | map ks =>
    obtain ⟨b2, es2, cl, q1, q2, q3, q4⟩ := hh
    exact ⟨b2, es2, cl, q1, q2, (hF b2 (hother i hs hne b2 (by simp [q1]))).trans q3, q4⟩
   | tree cs2 => exact tree_mono hh rfl (fun x hx => ⟨rfl, hF x (hother i hs hne x hx)⟩) (Nat.le_refl _) (fun _ _ _ => hm)
 ·refine hr.frm.trans (own1 := [b]) ⟨rfl, rfl, rfl, Nat.le_refl _, fun x _ hx => ⟨rfl, hF x (fun e => hx (by simp [e]))⟩, hcell⟩ (fun x hx => ?_)
  simp only [List.mem_singleton] at hx
  subst hx
  exact hbnew
 ·rw [hF x (by omega)]; exact hr.top x hx
 ·have := hr.kept i l hk
  have hne : i ≠ id := fun e => by
   subst e
   have := elemB_iff.2 (hkp.mem i l hk)
   rw [this] at hid; cases hid
  refine ⟨this.1, ?_, ?_⟩
  ·show (getH ((id, none) :: hp) i).isSome
   rw [hget, if_neg hne]; exact this.2.1
  ·cases hT : tokf ((id, none) :: hp) i with
   | none => rfl
   | some p => rw [(htok i p hT).1] at this; exact absurd this.2.2 (by simp)
end
theorem idsL_append : ∀ a b : List AV, AV.idsL (a ++ b) = AV.idsL a ++ AV.idsL b
 | [], _ => rfl
 | x :: r, b => by simp [AV.idsL, idsL_append r b]
theorem zerosA_ids {zs : List AV} (h : AV.idsL zs = []) : ∀ {n : Nat}, AV.idsL (zerosA n zs) = []
 | 0 => rfl
 | n + 1 => by simp [zerosA, idsL_append, h, zerosA_ids h]
theorem cutC_zero {k : Nat} : ∀ {h t : List AV}, h.length = k → cutC (h ++ t) 0 k = some h := by
 intro h t hk
 subst hk
 induction h with
 | nil => cases t <;> simp [cutC]
 | cons x r ih => simp [cutC, ih]
theorem toDL_map : ∀ l : List D, toDL (l.map .d) = some l
 | [] => rfl
 | x :: r => by simp [toDL, AV.toD, toDL_map r]
theorem chunkD_flat {α : Type} {f : α → List D} {k : Nat} : ∀ {l : List α}, (∀ x, x ∈ l → (f x).length = k) → chunkD l.length k (l.flatMap fun x => (f x).map .d) = some (l.map f)
 | [], _ => rfl
 | x :: r, h => by
  have hx : ((f x).map AV.d).length = k := by simp [h x (by simp)]
  simp only [List.length_cons, List.flatMap_cons, List.map_cons, chunkD, cutC_zero hx, toDL_map]
  have : (((f x).map AV.d) ++ r.flatMap fun x => (f x).map AV.d).drop k = r.flatMap fun x => (f x).map AV.d := by
   rw [← hx]; simp
  rw [this, chunkD_flat (fun y hy => h y (by simp [hy]))]
theorem putC_zero {α : Type} : ∀ {vs z t : List α}, z.length = vs.length → putC (z ++ t) 0 vs = some (vs ++ t)
 | [], [], t, _ => by cases t <;> rfl
 | v :: vs, y :: z, t, h => by
  simp only [List.cons_append, putC]
  rw [putC_zero (by simpa using h)]
 | [], _ :: _, _, h => by simp at h
 | _ :: _, [], _, h => by simp at h
theorem putC_mid {α : Type} {o : Nat} : ∀ {a z t vs : List α}, a.length = o → z.length = vs.length → putC (a ++ (z ++ t)) o vs = some (a ++ (vs ++ t)) := by
 intro a z t vs ha hz
 subst ha
 induction a with
 | nil => exact putC_zero hz
 | cons x r ih =>
  cases vs with
  | nil =>
   have : z = [] := by simpa using hz
   subst this
   simp [putC]
  | cons v vs => simp only [List.cons_append, List.length_cons, putC, ih]
theorem flat_len_const {α : Type} {f : α → List D} {k : Nat} : ∀ {l : List α}, (∀ x, x ∈ l → (f x).length = k) → (l.flatMap fun x => (f x).map AV.d).length = l.length * k
 | [], _ => by simp
 | x :: r, h => by
  have ih := flat_len_const (l := r) (fun y hy => h y (List.mem_cons_of_mem _ hy))
  simp only [List.flatMap_cons, List.length_append, List.length_map, h x (by simp), ih, List.length_cons, Nat.add_mul]
  omega
theorem putC_next {α : Type} {f : α → List D} {k o : Nat} {pre : List α} {vs zs : List AV} {n : Nat} (hf : ∀ x, x ∈ pre → (f x).length = k) (ho : pre.length * k = o) (hz : zs.length = vs.length) :
  putC ((pre.flatMap fun x => (f x).map AV.d) ++ zerosA (n + 1) zs) o vs = some ((pre.flatMap fun x => (f x).map AV.d) ++ (vs ++ zerosA n zs)) := by
 have : zerosA (n + 1) zs = zs ++ zerosA n zs := rfl
 rw [this]
 exact putC_mid (by rw [flat_len_const hf]; exact ho) hz
theorem chunkD_done {α : Type} {f : α → List D} {k n : Nat} {pre l : List α} {zs : List AV} (h : pre ++ [] = l) (hn : n = l.length) (hk : ∀ x, x ∈ l → (f x).length = k) :
  chunkD n k ((pre.flatMap fun x => (f x).map AV.d) ++ zerosA ([] : List α).length zs) = some (l.map f) := by
 rw [List.append_nil] at h
 subst h hn
 simp only [List.length_nil, zerosA, List.append_nil]
 exact chunkD_flat hk
end Go.Proofs.Ytadpcmcifbakoaa
