/-
  THE ABSTRACT WALK, part O: calls.
-/
import Derived.Test.YtadpcmcifbakoaaAmN
namespace Go.Proofs.Ytadpcmcifbakoaa
open Go
set_option linter.unusedSimpArgs false
set_option linter.unusedVariables false
def subB (a b : List Nat) : Bool := a.all (elemB · b)
theorem subB_iff {a b : List Nat} (h : subB a b = true) : ∀ x, x ∈ a → x ∈ b := fun x hx => elemB_iff.1 (List.all_eq_true.1 h x hx)
def entOK (keys : List Nat) : Nat × Option Res → Bool
 | (_, some (.box cs)) => subB (AV.idsL cs) keys
 | (_, some (.tree cs)) => subB (AV.idsL cs) keys
 | (_, some (.map _)) => true
 | _ => false
def entOK' (cr keys : List Nat) : Nat × Option Res → Bool
 | (_, some (.box cs)) => subB (AV.idsL cs) keys
 | (_, some (.tree cs)) => subB (AV.idsL cs) keys
 | (_, some (.map _)) => true
 | (i, some (.tok _ _)) => elemB i cr
 | _ => false
def okCall (hpc hp0 : Hp) (r : AV) (cr : List Nat) : Bool :=
 let keys := hpc.map (·.1) ++ hp0.map (·.1)
 hpc.all (entOK keys) && hp0.all (entOK' cr keys) && hp0.all (fun p => elemB p.1 (hpc.map (·.1)) || elemB p.1 cr) && subB r.ids keys
theorem getH_all {hp : Hp} {id : Nat} {r : Res} (h : getH hp id = some r) {p : Nat × Option Res → Bool} (ha : hp.all p = true) : p (id, some r) = true := List.all_eq_true.1 ha _ (getH_mem h)
theorem getH_none_of {hp : Hp} {id : Nat} (h : id ∉ hp.map (·.1)) : getH hp id = none := by
 cases hg : getH hp id with
 | none => rfl
 | some r => exact absurd (List.mem_map.2 ⟨_, getH_mem hg, rfl⟩) h
theorem getH_some_of {hp : Hp} {keys : List Nat} (ha : hp.all (entOK keys) = true) {id : Nat} (h : id ∈ hp.map (·.1)) : (getH hp id).isSome := by
 induction hp with
 | nil => simp at h
 | cons p t ih =>
  obtain ⟨i, x⟩ := p
  rw [getH_cons]
  simp only [List.all_cons, Bool.and_eq_true] at ha
  by_cases hi : id = i
  ·rw [if_pos hi]
   cases x with
   | none => simp [entOK] at ha
   | some r => rfl
  ·rw [if_neg hi]
   refine ih ha.2 ?_
   simp only [List.map_cons, List.mem_cons] at h
   exact h.resolve_left hi
theorem getH_some_of' {hp : Hp} {cr keys : List Nat} (ha : hp.all (entOK' cr keys) = true) {id : Nat} (h : id ∈ hp.map (·.1)) : (getH hp id).isSome := by
 induction hp with
 | nil => simp at h
 | cons p t ih =>
  obtain ⟨i, x⟩ := p
  rw [getH_cons]
  simp only [List.all_cons, Bool.and_eq_true] at ha
  by_cases hi : id = i
  ·rw [if_pos hi]
   cases x with
   | none => simp [entOK'] at ha
   | some r => rfl
  ·rw [if_neg hi]
   refine ih ha.2 ?_
   simp only [List.map_cons, List.mem_cons] at h
   exact h.resolve_left hi
section
variable {c : Ctx}
theorem call_step {G : Gh} {s : St} {a : Act} {w : World} (hr : R c G s a w) {f : FuncId} {avs : List AV} {hpc : Hp} {Post : AV → Hp → Prop} {vals : Array Value} (hf : Fn c.P f avs hpc Post)
  (hargs : AllR G (tokf s.hp) w avs vals) (hsub : ∀ id r, getH hpc id = some r → getH s.hp id = some r) (hbox : ∀ id r, getH hpc id = some r → ∀ n k, r ≠ .tok n k)
  (cr : List Nat) (hcr : ∀ id, id ∈ cr → getH s.hp id = none ∧ noOcc id s) :
  Calls c.P f vals w fun e w' => ∃ v r hp0, e = .returned v ∧ Post r hp0 ∧ (okCall hpc hp0 r cr = true →
   ∃ G', R c G' { s with hp := hp0 ++ s.hp } a w' ∧ RelA G' (tokf (hp0 ++ s.hp)) w' r v) := by
 have htc : tokf hpc = fun _ => none := by
  funext id
  cases hT : tokf hpc id with
  | none => rfl
  | some p => obtain ⟨n, k⟩ := p; exact absurd rfl (hbox id _ (tokf_some.1 hT) n k)
 -- what is handed over, by itself
 have hok : HOK G w hpc avs vals := by
  have hm : ∀ {x : AV} {v : Value}, RelA G (tokf s.hp) w x v → RelA G (tokf hpc) w x v := fun hx =>
   hx.mono (fun _ _ ho => ⟨ho, rfl⟩) (fun _ _ => .inl rfl) (fun id _ p hp => by rw [htc] at hp; cases hp)
  have hsome : ∀ id, (getH hpc id).isSome → (getH s.hp id).isSome := fun id hi => by
   obtain ⟨x, hx⟩ := Option.isSome_iff_exists.1 hi
   rw [hsub _ _ hx]; rfl
  refine ⟨⟨hargs.size, fun i hi hv => hm (hargs.rel i hi hv)⟩, fun id r h => ?_, fun id id' h1 h2 => hr.disj id id' (hsome _ h1) (hsome _ h2), hr.top⟩
  have := hr.heap id r (hsub id r h)
  cases r with
  | box cs =>
   obtain ⟨b, us, e, e1, e2, e3, e4, e5⟩ := this
   exact ⟨b, us, e, e1, e2, e3, e4, fun i hi hv => hm (e5 i hi hv)⟩
  | tok n k => exact this
  | map ks => exact this
  | tree cs => exact tree_mono this rfl (fun _ _ => ⟨rfl, rfl⟩) (Nat.le_refl _) (fun _ _ _ => hm)
 refine (hf G w vals hok).mono ?_
 rintro e w' ⟨v, r, hp0, G', rfl, hP, hret⟩
 refine ⟨v, r, hp0, rfl, hP, fun hchk => ?_⟩
 simp only [okCall, Bool.and_eq_true] at hchk
 obtain ⟨⟨⟨c1, c2⟩, c3⟩, c4⟩ := hchk
 let keys := hpc.map (·.1) ++ hp0.map (·.1)
 have hkeys : ∀ id, id ∈ keys → (getH (hp0 ++ hpc) id).isSome := fun id hid => by
  rw [getH_append]
  split
  ·rename_i h; exact getH_some_of' c2 (elemB_iff.1 h)
  ·rename_i h
   simp only [keys, List.mem_append] at hid
   rcases hid with h' | h'
   ·exact getH_some_of c1 h'
   ·exact absurd (elemB_iff.2 h') h
 have hget : ∀ id, id ∈ keys → getH (hp0 ++ s.hp) id = getH (hp0 ++ hpc) id := fun id hid => by
  rw [getH_append, getH_append]
  split
  ·rfl
  ·rename_i h
   simp only [keys, List.mem_append] at hid
   have h' : id ∈ hpc.map (·.1) := hid.resolve_right (fun h' => h (elemB_iff.2 h'))
   obtain ⟨x, hx⟩ := Option.isSome_iff_exists.1 (getH_some_of c1 h')
   rw [hx, hsub _ _ hx]
 have hgetn : ∀ id, id ∉ keys → getH (hp0 ++ s.hp) id = getH s.hp id := fun id hid => by
  rw [getH_append]
  split
  ·rename_i h; exact absurd (List.mem_append.2 (.inr (elemB_iff.1 h))) hid
  ·rfl
 have ht0 : ∀ id, id ∈ keys → id ∉ cr → tokf (hp0 ++ s.hp) id = none := fun id hid hncr => by
  cases hT : tokf (hp0 ++ s.hp) id with
  | none => rfl
  | some p =>
   obtain ⟨n, k⟩ := p
   have h1 := tokf_some.1 hT
   rw [hget id hid, getH_append] at h1
   split at h1
   ·have := getH_all h1 c2; exact absurd (elemB_iff.1 this) hncr
   ·have := getH_all h1 c1; simp [entOK] at this
 have htn : ∀ id, id ∉ keys → tokf (hp0 ++ s.hp) id = tokf s.hp id := fun id hid => by
  unfold tokf; rw [hgetn id hid]
 let G2 : Gh := { F := G'.F, loc := fun id => bif elemB id keys then G'.loc id else G.loc id }
 have hl1 : ∀ id, id ∈ keys → G2.loc id = G'.loc id := fun id hid => by simp [G2, elemB_iff.2 hid]
 have hl2 : ∀ id, id ∉ keys → G2.loc id = G.loc id := fun id hid => by
  have : elemB id keys = false := by
   cases h : elemB id keys with
   | true => exact absurd (elemB_iff.1 h) hid
   | false => rfl
  simp [G2, this]
 have hboxc : ∀ id, id ∈ hpc.map (·.1) → isBox hpc id = true := fun id hid => by
  obtain ⟨x, hx⟩ := Option.isSome_iff_exists.1 (getH_some_of c1 hid)
  unfold isBox
  rw [hx]
  cases x with
  | tok n k => exact absurd rfl (hbox id _ hx n k)
  | _ => rfl
 -- a key is one that was handed over, or one that is new
 have hkey : ∀ id, id ∈ keys → (id ∈ hpc.map (·.1) ∧ (G'.loc id).head? = (G.loc id).head?) ∨ (id ∉ hpc.map (·.1) ∧ id ∈ cr) := fun id hid => by
  by_cases h : id ∈ hpc.map (·.1)
  ·exact .inl ⟨h, (hret.kept id (hboxc id h)).1⟩
  ·right
   refine ⟨h, ?_⟩
   have h0 : id ∈ hp0.map (·.1) := (List.mem_append.1 hid).resolve_left h
   obtain ⟨p, hp, rfl⟩ := List.mem_map.1 h0
   have := List.all_eq_true.1 c3 p hp
   simp only [Bool.or_eq_true] at this
   rcases this with h' | h'
   ·exact absurd (elemB_iff.1 h') h
   ·exact elemB_iff.1 h'
 have howned : ∀ b, b ∈ ownedL G hpc → ∃ id, (getH s.hp id).isSome ∧ b ∈ G.loc id ∧ id ∈ hpc.map (·.1) := fun b hb => by
  obtain ⟨id, h1, h2⟩ := ownedL_iff.1 hb
  obtain ⟨x, hx⟩ := Option.isSome_iff_exists.1 h1
  exact ⟨id, by rw [hsub _ _ hx]; rfl, h2, List.mem_map.2 ⟨_, getH_mem hx, rfl⟩⟩
 have bound : ∀ i r, getH s.hp i = some r → ∀ b, b ∈ G.loc i → b < w.heap.size := fun i r h => (hr.heap i r h).bound
 have away : ∀ i r, i ∉ hpc.map (·.1) → getH s.hp i = some r → ∀ b, b ∈ G.loc i → b ∉ ownedL G hpc := fun i r hi h b hb hown => by
  obtain ⟨id, h1, h2, h3⟩ := howned b hown
  exact hr.disj i id (by rw [h]; rfl) h1 (fun e => hi (e ▸ h3)) b hb h2
 have hm : ∀ {x : AV} {u : Value}, (∀ id, id ∈ x.ids → id ∉ cr) → RelA G (tokf s.hp) w x u → RelA G2 (tokf (hp0 ++ s.hp)) w' x u := fun hx hxx =>
  hxx.mono hret.frm.cell (fun id hid => by
   by_cases hk : id ∈ keys
   ·refine .inr ⟨ht0 id hk (hx id hid), ?_⟩
    rw [hl1 id hk]
    rcases hkey id hk with ⟨_, h⟩ | ⟨_, h⟩
    ·exact h
    ·exact absurd h (hx id hid)
   ·exact .inl (hl2 id hk)) (fun id hid p hp => by
   have hk : id ∉ keys := fun hk => by rw [ht0 id hk (hx id hid)] at hp; cases hp
   rw [htn id hk] at hp
   obtain ⟨n, k⟩ := p
   have h1 := tokf_some.1 hp
   have hnc : id ∉ hpc.map (·.1) := fun h => hk (List.mem_append.2 (.inl h))
   exact ⟨hp, fun b hb => hret.frm.block b (bound id _ h1 b hb) (away id _ hnc h1 b hb)⟩)
 have hm2 : ∀ {x : AV} {u : Value}, (∀ id, id ∈ x.ids → id ∈ keys) → RelA G' (tokf (hp0 ++ hpc)) w' x u → RelA G2 (tokf (hp0 ++ s.hp)) w' x u := fun hx hxx =>
  hxx.mono (fun _ _ ho => ⟨ho, rfl⟩) (fun id hid => .inl (hl1 id (hx id hid))) (fun id hid p hp => ⟨by
   have hk := hx id hid
   unfold tokf at hp ⊢
   rw [hget id hk] at hp
   exact hp, fun _ _ => ⟨rfl, rfl⟩⟩)
 have hsome : ∀ id, id ∉ keys → (getH (hp0 ++ s.hp) id).isSome → (getH s.hp id).isSome := fun id hid h => by rw [hgetn id hid] at h; exact h
 refine ⟨G2, ⟨hr.size, hr.defers, fun i x hx => ?_, fun id x hx => ?_, fun id id' h1 h2 hne b hb => ?_, fun id h1 b hb => ?_, hr.frm.trans hret.frm ?_, hret.top, fun id l hl => ?_⟩, ?_⟩
 ·exact hm (fun id hid hc => (hcr id hc).2.1 i x hx hid) (hr.slots i x hx)
 ·by_cases hk : id ∈ keys
  ·have hx' : getH (hp0 ++ s.hp) id = some x := hx
   rw [hget id hk] at hx'
   have hh := hret.heap id x hx'
   have hids : ∀ j, j ∈ x.ids → j ∈ keys := fun j hj => by
    cases x with
    | box cs =>
     have : subB (AV.idsL cs) keys = true := by
      rw [getH_append] at hx'
      split at hx'
      ·exact getH_all hx' c2
      ·exact getH_all hx' c1
     exact subB_iff this j hj
    | tok n k => simp [Res.ids] at hj
    | map ks => simp [Res.ids] at hj
    | tree cs =>
     have : subB (AV.idsL cs) keys = true := by
      rw [getH_append] at hx'
      split at hx'
      ·exact getH_all hx' c2
      ·exact getH_all hx' c1
     exact subB_iff this j hj
   cases x with
   | box cs =>
    obtain ⟨b, us, e, e1, e2, e3, e4, e5⟩ := hh
    exact ⟨b, us, e, (hl1 id hk).trans e1, e2, e3, e4, fun i hi hv => hm2 (fun j hj => hids j (AV.mem_idsL (List.getElem_mem hi) hj)) (e5 i hi hv)⟩
   | tok n k => exact fun b e1 => by rw [hl1 id hk] at e1; exact hh b e1
   | map ks =>
    obtain ⟨b, es, cl, e1, e2⟩ := hh
    exact ⟨b, es, cl, (hl1 id hk).trans e1, e2⟩
   | tree cs => exact tree_mono hh (hl1 id hk) (fun _ _ => ⟨rfl, rfl⟩) (Nat.le_refl _) (fun x hx v => hm2 (fun j hj => hids j (AV.mem_idsL hx hj)))
  ·have hx' : getH (hp0 ++ s.hp) id = some x := hx
   rw [hgetn id hk] at hx'
   have hnc : id ∉ hpc.map (·.1) := fun h => hk (List.mem_append.2 (.inl h))
   have hh := hr.heap id x hx'
   have hblk : ∀ b, b ∈ G.loc id → w'.heap[b]? = w.heap[b]? ∧ G'.F b = G.F b := fun b hb => hret.frm.block b (bound id x hx' b hb) (away id x hnc hx' b hb)
   cases x with
   | box cs =>
    obtain ⟨b, us, e, e1, e2, e3, e4, e5⟩ := hh
    obtain ⟨f1, f2⟩ := hblk b (by simp [e1])
    exact ⟨b, us, e, (hl2 id hk).trans e1, f1.trans e2, e3, f2.trans e4, fun i hi hv => hm (fun j hj hc => (hcr j hc).2.2 id _ hx' (AV.mem_idsL (List.getElem_mem hi) hj)) (e5 i hi hv)⟩
   | tok n k => exact fun b e1 => by rw [hl2 id hk] at e1; exact Nat.lt_of_lt_of_le (hh b e1) hret.frm.size
   | map ks =>
    obtain ⟨b, es, cl, e1, e2, e3, e4⟩ := hh
    obtain ⟨f1, f2⟩ := hblk b (by simp [e1])
    exact ⟨b, es, cl, (hl2 id hk).trans e1, f1.trans e2, f2.trans e3, e4⟩
   | tree cs => exact tree_mono hh (hl2 id hk) hblk hret.frm.size (fun x hx v => hm (fun j hj hc => (hcr j hc).2.2 id _ hx' (AV.mem_idsL hx hj)))
 ·have mix : ∀ i j, i ∈ keys → j ∉ keys → (getH (hp0 ++ s.hp) i).isSome → (getH s.hp j).isSome → ∀ b, b ∈ G'.loc i → b ∉ G.loc j := fun i j hi hj h1 h2 b hb hbj => by
   obtain ⟨x, hx⟩ := Option.isSome_iff_exists.1 h2
   have hnc : j ∉ hpc.map (·.1) := fun h => hj (List.mem_append.2 (.inl h))
   rcases hret.new i (by rw [← hget i hi]; exact h1) b hb with h | h
   ·exact away j x hnc hx b hbj h
   ·have := bound j x hx b hbj; omega
  by_cases hk : id ∈ keys <;> by_cases hk' : id' ∈ keys
  ·rw [hl1 id hk] at hb
   rw [hl1 id' hk']
   exact hret.disj id id' (hkeys id hk) (hkeys id' hk') hne b hb
  ·rw [hl1 id hk] at hb
   rw [hl2 id' hk']
   exact mix id id' hk hk' h1 (hsome id' hk' h2) b hb
  ·rw [hl2 id hk] at hb
   rw [hl1 id' hk']
   intro hb'
   exact mix id' id hk' hk h2 (hsome id hk h1) b hb' hb
  ·rw [hl2 id hk] at hb
   rw [hl2 id' hk']
   exact hr.disj id id' (hsome id hk h1) (hsome id' hk' h2) hne b hb
 ·by_cases hk : id ∈ keys
  ·rw [hl1 id hk] at hb
   rcases hret.new id (hkeys id hk) b hb with h | h
   ·obtain ⟨j, h2, h3, _⟩ := howned b h
    exact hr.new j h2 b h3
   ·right; have := hr.frm.size; omega
  ·rw [hl2 id hk] at hb
   exact hr.new id (hsome id hk h1) b hb
 ·intro b hb
  obtain ⟨j, h2, h3, _⟩ := howned b hb
  exact hr.new j h2 b h3
 ·have hk0 := hr.kept id l hl
  have hncr : id ∉ cr := fun h => by have := (hcr id h).1; rw [this] at hk0; simp at hk0
  show (G2.loc id).head? = l.head? ∧ (getH (hp0 ++ s.hp) id).isSome ∧ tokf (hp0 ++ s.hp) id = none
  by_cases hk : id ∈ keys
  ·refine ⟨?_, by rw [hget id hk]; exact hkeys id hk, ht0 id hk hncr⟩
   rw [hl1 id hk]
   rcases hkey id hk with ⟨_, h⟩ | ⟨_, h⟩
   ·exact h.trans hk0.1
   ·exact absurd h hncr
  ·exact ⟨(congrArg List.head? (hl2 id hk)).trans hk0.1, by rw [hgetn id hk]; exact hk0.2.1, by rw [htn id hk]; exact hk0.2.2⟩
 ·exact hm2 (fun j hj => subB_iff c4 j hj) hret.res
end
section
variable {c : Ctx} {all : Array Oper} {chk : List Rec → Prop} {os : List Oper} {recs : List Rec} {env : Env} {hp : Hp} {Q : St → Prop}
variable {d ty : Nat} {pos : String} {af : Array Edge} {g : Option (Nat × Bool)} {pg : List (Nat × AV)}
def hpF : Hp → List (Nat × Res)
 | [] => []
 | (i, some r) :: t => (i, r) :: hpF t
 | (_, none) :: t => hpF t
theorem hpF_mem {id : Nat} {r : Res} : ∀ {hp : Hp}, (id, some r) ∈ hp → (id, r) ∈ hpF hp
 | (i, some x) :: t, h => by
  simp only [hpF]
  rcases List.mem_cons.1 h with h | h
  ·cases h; simp
  ·exact List.mem_cons_of_mem _ (hpF_mem h)
 | (i, none) :: t, h => by
  simp only [hpF]
  rcases List.mem_cons.1 h with h | h
  ·cases h
  ·exact hpF_mem h
def subH : Hp → Hp → Prop
 | [], _ => True
 | (i, some r) :: t, hp => getH hp i = some r ∧ subH t hp
 | (_, none) :: _, _ => False
theorem subH_facts : ∀ {hpc hp : Hp}, subH hpc hp → ∀ p, p ∈ hpF hpc → getH hp p.1 = some p.2
 | [], _, _, p, h => by simp [hpF] at h
 | (i, some r) :: t, hp, hs, p, h => by
  simp only [hpF] at h
  rcases List.mem_cons.1 h with rfl | h
  ·exact hs.1
  ·exact subH_facts hs.2 p h
 | (_, none) :: _, _, hs, _, _ => hs.elim
def noTok : Hp → Bool
 | [] => true
 | (_, some (.tok _ _)) :: _ => false
 | _ :: t => noTok t
theorem noTok_spec : ∀ {hp : Hp}, noTok hp = true → ∀ id r, getH hp id = some r → ∀ n k, r ≠ .tok n k
 | (i, some (.box cs)) :: t, h, id, r, hg, n, k => by
  rw [getH_cons] at hg
  split at hg
  ·cases hg; simp
  ·exact noTok_spec (hp := t) h id r hg n k
 | (i, some (.tree cs)) :: t, h, id, r, hg, n, k => by
  rw [getH_cons] at hg
  split at hg
  ·cases hg; simp
  ·exact noTok_spec (hp := t) h id r hg n k
 | (i, some (.map cs)) :: t, h, id, r, hg, n, k => by
  rw [getH_cons] at hg
  split at hg
  ·cases hg; simp
  ·exact noTok_spec (hp := t) h id r hg n k
 | (i, none) :: t, h, id, r, hg, n, k => by
  rw [getH_cons] at hg
  split at hg
  ·cases hg
  ·exact noTok_spec (hp := t) h id r hg n k
def freshB (env : Env) (hp : Hp) : List Nat → Bool
 | [] => true
 | i :: r => (match getH hp i with | none => true | some _ => false) && !occE i env && !occH i hp && freshB env hp r
theorem freshB_spec {env : Env} {hp : Hp} : ∀ {l : List Nat}, freshB env hp l = true → ∀ id, id ∈ l → getH hp id = none ∧ noOcc id ⟨env, hp⟩
 | i :: r, h, id, hm => by
  simp only [freshB, Bool.and_eq_true, Bool.not_eq_true'] at h
  obtain ⟨⟨⟨h1, h2⟩, h3⟩, h4⟩ := h
  rcases List.mem_cons.1 hm with rfl | hm
  ·refine ⟨?_, noOcc_of h2 h3⟩
   cases hg : getH hp id with
   | none => rfl
   | some x => simp [hg] at h1
  ·exact freshB_spec h4 id hm
theorem hasBody {P : Program} {f : FuncId} {fn : Func} (hf : P.funcs[f]? = some fn) (hb : fn.body.isSome = true) (hn : (fn.name == "runtime.NumGoroutine") = false) (args : Array Value) (w : World) :
  (callFunc f args).run P w = .ok (.enter f args) w := by
 obtain ⟨b, hb'⟩ := Option.isSome_iff_exists.1 hb
 have hn' : ¬ fn.name = "runtime.NumGoroutine" := by simpa using hn
 simp [callFunc, hf, hn', hb']
structure Callee (P : Program) (f : FuncId) : Prop where
 run : ∀ (args : Array Value) (w : World), (callFunc f args).run P w = .ok (.enter f args) w
theorem Walk.call {f : FuncId} {args : Array Operand} {ats : Array TypeId} {xs : List Operand} {vs avs : List AV} {hpc hp0 : Hp} {r : AV} {cr : List Nat} (hc : Callee c.P f) (hf : FnD c.P f avs hpc r hp0)
  (hargs : args = xs.toArray) (hg : GH all env g pg) (hd : Nat.blt d c.n = true) (hx : opdL env xs = some vs) (hle : LeL vs avs) (hsub : subH hpc hp) (hnt : noTok hpc = true) (hok : okCall hpc hp0 r cr = true)
  (hcr : freshB env hp cr = true)
  (hn : Walk c all chk os (mkRec (pg ++ opFL xs vs) (hpF hpc) cr ⟨some (d, r), hp0⟩ :: recs) ⟨(d, r) :: env, hp0 ++ hp⟩ Q) :
  Walk c all chk (⟨some d, .call ⟨.value (.func f), args, ats⟩, ty, pos, af, g⟩ :: os) recs ⟨env, hp⟩ Q := by
 subst hargs
 refine ⟨pg ++ opFL xs vs, hpF hpc, cr, _, ?_, facts_append hg.facts (opFL_holds hx), subH_facts hsub, freshB_spec hcr, hn⟩
 intro s a w hrel hp' hh hcr' K Q' hK
 obtain ⟨G, hr⟩ := hrel
 have hrl := opdL_rel hr (opdL_facts hx (fun p hm => hp' p (by simp [hm])))
 have hle' : ∀ {l m : List AV}, LeL l m → ∀ i (h1 : i < l.length) (h2 : i < m.length), LeA l[i] m[i] := by
  intro l
  induction l with
  | nil => intro m _ i h1; simp at h1
  | cons x r ih =>
   intro m h i h1 h2
   cases h with
   | cons h t =>
    cases i with
    | zero => exact h
    | succ i => exact ih t i (by simpa using h1) (by simpa using h2)
 have hall : AllR G (tokf s.hp) w avs (xs.map a.eval).toArray := by
  refine ⟨by simp [← hle.len, hrl.1], fun i hi hv => ?_⟩
  have h1 : i < vs.length := by rw [hle.len]; exact hi
  have := (hrl.2 i h1 (by rw [← hrl.1]; exact h1)).le (hle' hle i h1 hi)
  simpa using this
 have hcalls := call_step hr hf hall (fun id x hx => hh (id, x) (hpF_mem (getH_mem hx))) (noTok_spec hnt) cr hcr'
 unfold wpO
 rw [if_pos (hg.gf.wanted hr (fun p hm => hp' p (by simp [hm])))]
 unfold Oper.wp
 have hrun : (execOp a.eval ⟨some d, .call ⟨.value (.func f), xs.toArray, ats⟩, ty, pos, af, g⟩).run c.P w = .ok (.enter f (xs.map a.eval).toArray) w := by
  have := hc.run (xs.map a.eval).toArray w
  simp only [execOp, resolve, Sem.run_bind, Act.eval, Deferred.ofValue, Sem.run_pure, Result.andThen_ok, invoke]
  simpa using this
 rw [hrun, Oper.upon_enter]
 refine hcalls.mono ?_
 rintro e w' ⟨v, r', hp1, rfl, ⟨rfl, rfl⟩, h⟩
 obtain ⟨G', hR, hA⟩ := h hok
 exact hK _ _ ⟨G', hR.put hA hd⟩
end
end Go.Proofs.Ytadpcmcifbakoaa
