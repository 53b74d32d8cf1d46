/-
  THE ABSTRACT WALK, part R: loops of which only what changes is said.
-/
import Derived.Test.YtadpcmcifbakoaaAmQ
namespace Go.Proofs.Ytadpcmcifbakoaa
open Go
set_option linter.unusedSimpArgs false
set_option linter.unusedVariables false
def killE : List Nat → Env
 | [] => []
 | i :: r => (i, .any) :: killE r
def keysE : Env → List Nat
 | [] => []
 | p :: r => p.1 :: keysE r
def keysH : Hp → List Nat
 | [] => []
 | p :: r => p.1 :: keysH r
theorem getE_append_mem {i : Nat} : ∀ {a b : Env}, i ∈ keysE a → getE (a ++ b) i = getE a i
 | (j, v) :: r, b, h => by
  simp only [List.cons_append, getE]
  cases hb : Nat.beq j i with
  | true => rfl
  | false =>
   simp only [cond_false]
   refine getE_append_mem ?_
   rcases List.mem_cons.1 h with h | h
   ·subst h; simp at hb
   ·exact h
theorem getE_append_not {i : Nat} : ∀ {a b : Env}, i ∉ keysE a → getE (a ++ b) i = getE b i
 | [], _, _ => rfl
 | (j, v) :: r, b, h => by
  simp only [List.cons_append, getE]
  have h1 : j ≠ i := fun e => h (by simp [keysE, e])
  cases hb : Nat.beq j i with
  | true => exact absurd (Nat.eq_of_beq_eq_true hb) h1
  | false =>
   simp only [cond_false]
   exact getE_append_not (fun hm => h (by simp [keysE, hm]))
theorem getE_kill {i : Nat} {v : AV} : ∀ {ks : List Nat}, getE (killE ks) i = some v → v = .any
 | j :: r, h => by
  simp only [killE, getE] at h
  cases hb : Nat.beq j i with
  | true => simp only [hb, cond_true, Option.some.injEq] at h; exact h.symm
  | false => simp only [hb, cond_false] at h; exact getE_kill h
theorem keysE_kill : ∀ ks : List Nat, keysE (killE ks) = ks
 | [] => rfl
 | i :: r => by simp [killE, keysE, keysE_kill r]
theorem getH_append_mem {i : Nat} : ∀ {a b : Hp}, i ∈ keysH a → getH (a ++ b) i = getH a i
 | (j, v) :: r, b, h => by
  simp only [List.cons_append, getH]
  cases hb : Nat.beq j i with
  | true => rfl
  | false =>
   simp only [cond_false]
   refine getH_append_mem ?_
   rcases List.mem_cons.1 h with h | h
   ·subst h; simp at hb
   ·exact h
theorem getH_append_not {i : Nat} : ∀ {a b : Hp}, i ∉ keysH a → getH (a ++ b) i = getH b i
 | [], _, _ => rfl
 | (j, v) :: r, b, h => by
  simp only [List.cons_append, getH]
  have h1 : j ≠ i := fun e => h (by simp [keysH, e])
  cases hb : Nat.beq j i with
  | true => exact absurd (Nat.eq_of_beq_eq_true hb) h1
  | false =>
   simp only [cond_false]
   exact getH_append_not (fun hm => h (by simp [keysH, hm]))
def coverE (ks : List Nat) : Env → Bool
 | [] => true
 | p :: r => elemB p.1 ks && coverE ks r
def coverH (ks ks' : List Nat) : Hp → Bool
 | [] => true
 | p :: r => (elemB p.1 ks || !elemB p.1 ks') && coverH ks ks' r
theorem coverE_spec {ks : List Nat} : ∀ {e : Env}, coverE ks e = true → ∀ i, i ∈ keysE e → i ∈ ks
 | p :: r, h, i, hi => by
  simp only [coverE, Bool.and_eq_true] at h
  rcases List.mem_cons.1 hi with rfl | hi
  ·exact elemB_iff.1 h.1
  ·exact coverE_spec h.2 i hi
theorem coverH_spec {ks ks' : List Nat} : ∀ {e : Hp}, coverH ks ks' e = true → ∀ i, i ∈ keysH e → i ∈ ks ∨ i ∉ ks'
 | p :: r, h, i, hi => by
  simp only [coverH, Bool.and_eq_true, Bool.or_eq_true, Bool.not_eq_true'] at h
  rcases List.mem_cons.1 hi with rfl | hi
  ·rcases h.1 with h | h
   ·exact .inl (elemB_iff.1 h)
   ·exact .inr (fun hm => by rw [elemB_iff.2 hm] at h; cases h)
  ·exact coverH_spec h.2 i hi
theorem getH_keys {i : Nat} {r : Res} : ∀ {hp : Hp}, getH hp i = some r → i ∈ keysH hp
 | (j, v) :: t, h => by
  rw [getH_cons] at h
  split at h
  ·rename_i e; simp [keysH, e]
  ·simp [keysH, getH_keys h]
theorem Sub.x {E e' env : Env} {H h' hp : Hp} {ks : List Nat} (he : e'.drop (e'.length - env.length) = env) (hc : coverE (keysE E ++ ks) (e'.take (e'.length - env.length)) = true) (hE : SubE E e')
  (hh : h'.drop (h'.length - hp.length) = hp) (hhc : coverH (keysH H) (keysH hp) (h'.take (h'.length - hp.length)) = true) (hH : SubH H h') :
  Sub ⟨E ++ (killE ks ++ env), H ++ hp⟩ ⟨e', h'⟩ := by
 generalize e'.length - env.length = n at *
 generalize h'.length - hp.length = m at *
 have e1 : e'.take n ++ env = e' := by rw [← he]; simp
 have h1 : h'.take m ++ hp = h' := by rw [← hh]; simp
 refine ⟨fun i v hi => ?_, fun i r hi => ?_⟩
 ·show v = .any ∨ ∃ u, getE e' i = some u ∧ LeA u v
  have hi : getE (E ++ (killE ks ++ env)) i = some v := hi
  by_cases hE' : i ∈ keysE E
  ·rw [getE_append_mem hE'] at hi
   exact .inr (hE.get i v hi)
  ·rw [getE_append_not hE'] at hi
   by_cases hk : i ∈ ks
   ·rw [getE_append_mem (by rw [keysE_kill]; exact hk)] at hi
    exact .inl (getE_kill hi)
   ·rw [getE_append_not (by rw [keysE_kill]; exact hk)] at hi
    refine .inr ⟨v, ?_, .refl _⟩
    rw [← e1, getE_append_not (fun hm => ?_)]
    ·exact hi
    ·rcases List.mem_append.1 (coverE_spec hc i hm) with h | h
     ·exact hE' h
     ·exact hk h
 ·show getH h' i = some r
  have hi : getH (H ++ hp) i = some r := hi
  by_cases hH' : i ∈ keysH H
  ·rw [getH_append_mem hH'] at hi
   exact hH.get i r hi
  ·rw [getH_append_not hH'] at hi
   rw [← h1, getH_append_not (fun hm => ?_)]
   ·exact hi
   ·rcases coverH_spec hhc i hm with h | h
    ·exact hH' h
    ·exact h (getH_keys hi)
section
variable {c : Ctx} {K : Kt}
theorem CWp.loopX {ι : Type} {body : Code} {env : Env} {hp : Hp} {ids : List Nat} (hkp : KeptIn c.kept ids) (E : ι → Env) (ks : List Nat) (H : ι → Hp) (good : ι → Prop) (μ : ι → Nat) (x0 : ι) (h0 : good x0)
  (he0 : SubE (E x0) env) (hh0 : SubH (H x0) hp) (hk : ∀ x, ids.all (fun id => (getH (H x ++ hp) id).isSome) = true)
  (hround : ∀ x, good x → CWp c body ⟨E x ++ (killE ks ++ env), H x ++ hp⟩ (K.with fun s' => ∃ x', good x' ∧ μ x' < μ x ∧ Sub ⟨E x' ++ (killE ks ++ env), H x' ++ hp⟩ s')) :
  CWp c (.loop body) ⟨env, hp⟩ K :=
 CWp.loop (fun x => ⟨E x ++ (killE ks ++ env), H x ++ hp⟩) good μ x0 h0
  (Sub.x (by simp) (by simp [coverE]) he0 (by simp) (by simp [coverH]) hh0) (fun x => hkp.ok (hk x)) hround
end
end Go.Proofs.Ytadpcmcifbakoaa
