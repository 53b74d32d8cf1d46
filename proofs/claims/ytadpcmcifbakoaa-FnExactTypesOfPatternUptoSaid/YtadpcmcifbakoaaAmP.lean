/-
  THE ABSTRACT WALK, part P: a nil slice that is to grow; what is forgotten; a box that is never written again.
-/
import Derived.Test.YtadpcmcifbakoaaAmO
namespace Go.Proofs.Ytadpcmcifbakoaa
open Go
set_option linter.unusedSimpArgs false
set_option linter.unusedVariables false
section
variable {c : Ctx}
theorem R.mkTok {G : Gh} {s : St} {a : Act} {w : World} (hr : R c G s a w) {id : Nat} (k : Nat) (h0 : getH s.hp id = none) (hocc : noOcc id s) :
  ∃ G', R c G' { s with hp := (id, some (.tok 0 k)) :: s.hp } a w ∧ RelA G' (tokf ((id, some (.tok 0 k)) :: s.hp)) w (.gl id []) (.slice none 0 0) ∧
   (∀ x v, id ∉ AV.ids x → RelA G (tokf s.hp) w x v → RelA G' (tokf ((id, some (.tok 0 k)) :: s.hp)) w x v) := by
 have h1 := hr.rename h0 hocc []
 have hl : (fun i => bif Nat.beq i id then ([] : List Nat) else G.loc i) id = [] := by simp
 have hloc : ∀ i, i ≠ id → (bif Nat.beq i id then ([] : List Nat) else G.loc i) = G.loc i := fun i h => by
  cases hb : Nat.beq i id with
  | true => exact absurd (Nat.eq_of_beq_eq_true hb) h
  | false => rfl
 refine ⟨_, h1.name h0 hocc (fun b hb => by simp at hb) (fun i _ b _ hb => by simp at hb) (fun b hb => by simp at hb), ?_, fun x v hx h => ?_⟩
 ·refine .gl .nil (fun n k' hT => ?_)
  have := tokf_some.1 hT
  rw [getH_cons, if_pos rfl] at this
  cases this
  exact ⟨Nat.le_refl _, fun _ => ⟨by simp, .inl ⟨hl, rfl, rfl⟩⟩⟩
 ·refine h.mono (fun _ _ ho => ⟨ho, rfl⟩) (fun i hi => .inl (hloc i (fun e => hx (e ▸ hi)))) (fun i hi p hp => ?_)
  have hne : i ≠ id := fun e => hx (e ▸ hi)
  obtain ⟨n, k'⟩ := p
  have := tokf_some.1 hp
  rw [getH_cons, if_neg hne] at this
  exact ⟨tokf_some.2 this, fun _ _ => ⟨rfl, rfl⟩⟩
theorem CWp.tok {env : Env} {hp : Hp} {K : Kt} {code : Code} (t id k : Nat) (h : getE env t = some .nils) (hf : freshB env hp [id] = true)
  (hn : CWp c code ⟨(t, .gl id []) :: env, (id, some (.tok 0 k)) :: hp⟩ K) : CWp c code ⟨env, hp⟩ K := by
 intro a w hrel
 obtain ⟨G, hr⟩ := hrel
 obtain ⟨h0, hocc⟩ := freshB_spec hf id (by simp)
 obtain ⟨G', h1, h2, _⟩ := hr.mkTok k h0 hocc
 refine hn a w ⟨G', h1.size, h1.defers, fun i v hi => ?_, h1.heap, h1.disj, h1.new, h1.frm, h1.top, h1.kept⟩
 simp only [getE] at hi
 cases hb : Nat.beq t i with
 | true =>
  have := Nat.eq_of_beq_eq_true hb
  subst this
  simp only [hb, cond_true, Option.some.injEq] at hi
  subst hi
  have := hr.slots t _ h
  have hv : a.tmps.getD t undef = .slice none 0 0 := by
   generalize a.tmps.getD t undef = v at *
   cases this; rfl
  rw [hv]; exact h2
 | false =>
  simp only [hb, cond_false] at hi
  exact h1.slots i v hi
theorem CWp.tokB {env : Env} {hp : Hp} {K : Kt} {code : Code} (b off id k : Nat) {cs cs' : List AV} (hb : getH hp b = some (.box cs)) (h : cs[off]? = some .nils) (hput : putC cs off [.gl id []] = some cs') (hf : freshB env hp [id] = true)
  (hn : CWp c code ⟨env, (b, some (.box cs')) :: (id, some (.tok 0 k)) :: hp⟩ K) : CWp c code ⟨env, hp⟩ K := by
 intro a w hrel
 obtain ⟨G, hr⟩ := hrel
 obtain ⟨h0, hocc⟩ := freshB_spec hf id (by simp)
 obtain ⟨G', h1, h2, h3⟩ := hr.mkTok k h0 hocc
 have hne : b ≠ id := fun e => by subst e; have h0' : getH hp b = none := h0; rw [h0'] at hb; cases hb
 have hb' : getH ((id, some (Res.tok 0 k)) :: hp) b = some (.box cs) := by rw [getH_cons, if_neg hne]; exact hb
 obtain ⟨bl, vs, e, e1, e2, e3, e4, e5⟩ := h1.heap b _ hb'
 obtain ⟨hlt, hv⟩ := List.getElem?_eq_some_iff.1 h
 have hlv : off < vs.size := by omega
 have hval : vs[off] = .slice none 0 0 := by
  have := e5 off hlt hlv
  rw [hv] at this
  generalize vs[off] = v at *
  cases this; rfl
 have hall : PreR G' (tokf ((id, some (.tok 0 k)) :: hp)) w cs' vs := by
  obtain ⟨p1, p2, p3⟩ := putC_spec hput
  refine ⟨by omega, fun i hi hvi => ?_⟩
  have := p3 i
  rw [List.getElem?_eq_getElem hi] at this
  by_cases hio : i = off
  ·subst hio
   rw [if_pos (by simp)] at this
   simp only [Nat.sub_self, List.getElem?_cons_zero, Option.some.injEq] at this
   rw [this, hval]
   exact h2
  ·rw [if_neg (by simp only [List.length_cons, List.length_nil]; omega)] at this
   have hic : i < cs.length := by omega
   rw [List.getElem?_eq_getElem hic] at this
   rw [Option.some.inj this]
   exact e5 i hic hvi
 have := h1.setBox (vs' := vs) hb' e1 e2 e4 hall
 have hw : w.setRow bl vs = w := setRow_self w bl vs e _ e2
 rw [hw] at this
 exact hn a w ⟨G', this⟩
def keepE (env : Env) : List Nat → Env
 | [] => []
 | i :: r => match getE env i with
  | some v => (i, v) :: keepE env r
  | none => keepE env r
def keepH (hp : Hp) : List Nat → Hp
 | [] => []
 | i :: r => match getH hp i with
  | some v => (i, some v) :: keepH hp r
  | none => keepH hp r
theorem keepE_get {env : Env} : ∀ {l : List Nat} {i : Nat} {v : AV}, getE (keepE env l) i = some v → getE env i = some v
 | [], i, v, h => by simp [keepE, getE] at h
 | j :: r, i, v, h => by
  simp only [keepE] at h
  cases hj : getE env j with
  | none => simp only [hj] at h; exact keepE_get h
  | some u =>
   simp only [hj, getE] at h
   cases hb : Nat.beq j i with
   | true =>
    have := Nat.eq_of_beq_eq_true hb
    subst this
    simp only [hb, cond_true] at h
    rw [hj]; exact h
   | false =>
    simp only [hb, cond_false] at h
    exact keepE_get h
theorem keepH_get {hp : Hp} : ∀ {l : List Nat} {i : Nat} {v : Res}, getH (keepH hp l) i = some v → getH hp i = some v
 | [], i, v, h => by simp [keepH, getH] at h
 | j :: r, i, v, h => by
  simp only [keepH] at h
  cases hj : getH hp j with
  | none => simp only [hj] at h; exact keepH_get h
  | some u =>
   simp only [hj] at h
   rw [getH_cons] at h
   by_cases hij : i = j
   ·subst hij; rw [if_pos rfl] at h; rw [hj]; exact h
   ·rw [if_neg hij] at h; exact keepH_get h
theorem CWp.keep {env env' : Env} {hp hp' : Hp} {K : Kt} {code : Code} {ids : List Nat} (hkp : KeptIn c.kept ids) (le lh : List Nat) (he : keepE env le = env') (hh : keepH hp lh = hp') (hk : ids.all (fun id => (getH hp' id).isSome) = true)
  (hn : CWp c code ⟨env', hp'⟩ K) : CWp c code ⟨env, hp⟩ K := by
 subst he hh
 exact CWp.weak (s' := ⟨keepE env le, keepH hp lh⟩) ⟨fun i v h => .inr ⟨v, keepE_get h, .refl _⟩, fun i r h => keepH_get h⟩ (hkp.ok hk) hn
def SubE : Env → Env → Prop
 | [], _ => True
 | (i, v) :: r, env => (∃ u, getE env i = some u ∧ LeA u v) ∧ SubE r env
def SubH : Hp → Hp → Prop
 | [], _ => True
 | (i, r) :: t, hp => getH hp i = r ∧ SubH t hp
theorem SubE.get : ∀ {l env : Env}, SubE l env → ∀ i v, getE l i = some v → ∃ u, getE env i = some u ∧ LeA u v
 | (j, x) :: r, env, h, i, v, hi => by
  simp only [getE] at hi
  cases hb : Nat.beq j i with
  | true =>
   have := Nat.eq_of_beq_eq_true hb
   subst this
   simp only [hb, cond_true, Option.some.injEq] at hi
   subst hi
   exact h.1
  | false =>
   simp only [hb, cond_false] at hi
   exact SubE.get h.2 i v hi
theorem SubH.get : ∀ {l hp : Hp}, SubH l hp → HSub l hp
 | (j, x) :: t, hp, h, i, r, hi => by
  rw [getH_cons] at hi
  by_cases hij : i = j
  ·subst hij; rw [if_pos rfl] at hi; rw [h.1]; exact hi
  ·rw [if_neg hij] at hi; exact SubH.get h.2 i r hi
theorem Sub.of {e e' : Env} {h h' : Hp} (he : SubE e' e) (hh : SubH h' h) : Sub ⟨e', h'⟩ ⟨e, h⟩ := ⟨fun i v hi => .inr (he.get i v hi), fun i r hi => hh.get i r hi⟩
end
section
variable {c : Ctx} {all : Array Oper} {chk : List Rec → Prop} {os : List Oper} {recs : List Rec} {env : Env} {hp : Hp} {Q : St → Prop}
variable {d ty : Nat} {pos : String} {af : Array Edge} {g : Option (Nat × Bool)} {pg : List (Nat × AV)}
theorem Walk.assignNil (id k : Nat) (hg : GH all env g pg) (hd : Nat.blt d c.n = true) (hf : freshB env hp [id] = true)
  (hn : Walk c all chk os (mkRec (pg ++ []) [] [id] ⟨some (d, .gl id []), [(id, some (.tok 0 k))]⟩ :: recs) ⟨(d, .gl id []) :: env, (id, some (.tok 0 k)) :: hp⟩ Q) :
  Walk c all chk (⟨some d, .assign (.const (.slice none 0 0)), ty, pos, af, g⟩ :: os) recs ⟨env, hp⟩ Q := by
 refine ⟨pg ++ [], [], [id], _, ?_, facts_append hg.facts (by simp), by simp, freshB_spec hf, hn⟩
 intro s a w hrel hp' hh hcr K Q' hK
 obtain ⟨G, hr⟩ := hrel
 obtain ⟨h1, h2⟩ := hcr id (by simp)
 obtain ⟨G', hR, hA, _⟩ := hr.mkTok k h1 h2
 unfold wpO
 rw [if_pos (hg.gf.wanted hr (fun p hm => hp' p (by simp [hm])))]
 unfold Oper.wp
 have : (execOp a.eval ⟨some d, .assign (.const (.slice none 0 0)), ty, pos, af, g⟩).run c.P w = .ok (.value (.slice none 0 0)) w := rfl
 rw [this, Oper.upon_value]
 exact hK _ _ ⟨G', hR.put hA hd⟩
theorem Walk.mkRowG {op : Op} {xs : List Operand} {vs : List AV} {es : List (List D)} {k : Nat} (id : Nat) (hg : GH all env g pg) (hd : Nat.blt d c.n = true) (hx : opdL env xs = some vs) (hk : ∀ e, e ∈ es → e.length = k)
  (hf : freshB env hp [id] = true)
  (h : ∀ (a : Act) (G : Gh) (T : TokF) (w : World), (vs.length = xs.length ∧ ∀ i (hi : i < vs.length) (hx : i < xs.length), RelA G T w vs[i] (a.eval xs[i])) →
   ∃ us e, (execOp a.eval ⟨some d, op, ty, pos, af, g⟩).run c.P w = .ok (.value (.slice (some ⟨w.heap.size, 0, none⟩) es.length es.length)) (w.alloc (.cells us e)) ∧ us.size = es.length * k ∧
    ∀ i (hi : i < es.length) j (hj : j < es[i].length) (hu : i * k + j < us.size), RelD G.F w es[i][j] us[i * k + j])
  (hn : Walk c all chk os (mkRec (pg ++ opFL xs vs) [] [id] ⟨some (d, .gl id es), [(id, some (.tok es.length k))]⟩ :: recs) ⟨(d, .gl id es) :: env, (id, some (.tok es.length k)) :: hp⟩ Q) :
  Walk c all chk (⟨some d, op, ty, pos, af, g⟩ :: os) recs ⟨env, hp⟩ Q := by
 refine ⟨pg ++ opFL xs vs, [], [id], _, ?_, facts_append hg.facts (opFL_holds hx), by simp, freshB_spec hf, hn⟩
 intro s a w hrel hp' hh hcr K Q' hK
 obtain ⟨G, hr⟩ := hrel
 obtain ⟨h0, hocc⟩ := hcr id (by simp)
 obtain ⟨us, e, e1, e2, e3⟩ := h a G (tokf s.hp) w (opdL_rel hr (opdL_facts hx (fun p hm => hp' p (by simp [hm]))))
 have hr' := (hr.alloc (.cells us e) us.size).rename h0 hocc [w.heap.size]
 have hloc : ∀ i, i ≠ id → (bif Nat.beq i id then [w.heap.size] else G.loc i) = G.loc i := fun i h => by
  cases hb : Nat.beq i id with
  | true => exact absurd (Nat.eq_of_beq_eq_true hb) h
  | false => rfl
 have hR := hr'.name (r := .tok es.length k) h0 hocc (fun b hb => by simp at hb; subst hb; simp) (fun i hi b hb => by
  have hi' : i ≠ id := fun e => by subst e; rw [h0] at hi; cases hi
  have hb' : b ∈ G.loc i := by have := hloc i hi'; simp only [this] at hb; exact hb
  obtain ⟨r, hrr⟩ := Option.isSome_iff_exists.1 hi
  have hlt : b < w.heap.size := (hr.heap i r hrr).bound b hb'
  simp
  omega) (fun b hb => by
  simp at hb
  subst hb
  exact .inr hr.frm.size)
 unfold wpO
 rw [if_pos (hg.gf.wanted hr (fun p hm => hp' p (by simp [hm])))]
 unfold Oper.wp
 rw [e1, Oper.upon_value]
 refine hK _ _ ⟨_, hR.put (v := .gl id es) (.gl ?_ (fun n k' hT => ?_)) hd⟩
 ·refine .sl es k w.heap.size 0 es.length (fun n => us.getD n undef) hk (Nat.le_refl _) (fun n hn => ⟨?_, ?_⟩) (fun i hi j hj => ?_)
  ·simp only [Nat.beq_refl, cond_true]; omega
  ·have : n < us.size := by omega
   simp [World.cell?_alloc_new, this]
  ·have hjk : j < k := by rw [← hk _ (List.getElem_mem hi)]; exact hj
   have hlt : i * k + j < us.size := by
    have : (i + 1) * k ≤ es.length * k := Nat.mul_le_mul_right _ (by omega)
    rw [Nat.add_mul] at this
    omega
   have h4 := e3 i hi j hj hlt
   have h5 : us.getD (i * k + j) undef = us[i * k + j] := by simp [Array.getD, hlt]
   rw [h5]
   refine h4.mono (fun b o ho => ?_)
   have hb : b < w.heap.size := by
    rcases Nat.lt_or_ge b w.heap.size with h | h
    ·exact h
    ·rw [hr.top b h] at ho; omega
   have : Nat.beq b w.heap.size = false := by
    cases h : Nat.beq b w.heap.size with
    | true => have := Nat.eq_of_beq_eq_true h; omega
    | false => rfl
   exact ⟨by simpa [this] using ho, World.cell?_alloc_lt w _ _ hb⟩
 ·have := tokf_some.1 hT
  have h2 : getH ((id, some (Res.tok es.length k)) :: s.hp) id = some (.tok n k') := this
  rw [getH_cons, if_pos rfl] at h2
  cases h2
  exact ⟨Nat.le_refl _, fun _ => ⟨hk, .inr ⟨w.heap.size, es.length, us, e, by simp, rfl, by simp [e2], alloc_at, by rw [e2]; exact Nat.le_refl _, Nat.le_refl _⟩⟩⟩
theorem Walk.sliceLitG {t : TypeId} {parts : Array (Nat × Operand)} {n : Nat} {ks : List Nat} {xs : List Operand} {vs zs r : List AV} {es : List (List D)} {e k yb : Nat} (id : Nat) (ht : SlT c.P t e k yb) (hz : TyZ c.P e k zs) (hzk : zs.length = k) (hk : 0 < k)
  (hparts : parts = (ks.zip xs).toArray) (hlen : ks.length = xs.length) (hsmall : n * k ≤ 16777216) (hpos : 0 < n) (hg : GH all env g pg) (hd : Nat.blt d c.n = true) (hx : opdL env xs = some vs)
  (hf : fillA (fun i => some (i * k, k)) (zerosA n zs) (ks.zip vs) = some r) (hc : chunkD n k r = some es) (hfr : freshB env hp [id] = true)
  (hn : Walk c all chk os (mkRec (pg ++ opFL xs vs) [] [id] ⟨some (d, .gl id es), [(id, some (.tok es.length k))]⟩ :: recs) ⟨(d, .gl id es) :: env, (id, some (.tok es.length k)) :: hp⟩ Q) :
  Walk c all chk (⟨some d, .buildSlice t n parts, ty, pos, af, g⟩ :: os) recs ⟨env, hp⟩ Q := by
 subst hparts
 obtain ⟨c1, c2, c3, c4⟩ := chunkD_spec hc
 refine Walk.mkRowG id hg hd hx c2 hfr (fun a G T w h => ?_) hn
 obtain ⟨ie, hi1, hi2, hi3⟩ := ht.inf
 obtain ⟨i', z, z1, z2, z3, z4⟩ := hz.inf
 rw [hi1] at z1
 cases z1
 have hz0 := constAVs_rel (G := G) (T := T) (w := w) z4
 have hzr := zeros_rel (by simpa using hz0) n (by omega)
 obtain ⟨lv, hlv, hal⟩ := fillA_spec (ks.zip vs) (ks.zip (xs.map a.eval)) _ r _ hf hzr (by simp [h.1]) (zipVs h hlen)
 have hpos' : ¬ n * ie.size = 0 := by rw [hi2]; exact Nat.ne_of_gt (Nat.mul_pos hpos hk)
 have hrun := run_buildSlice (P := c.P) w t e n ((ks.zip xs).toArray.map fun (i, x) => (i, a.eval x)) lv ie z ht.und hi1 z3 (by rw [hi2]; omega) hpos' (by
  rw [hi2, ← hlv]
  congr 1
  ·rw [hzk]
  ·simp [List.zip_map_right, Prod.map])
 refine ⟨lv, e, ?_, by rw [hal.size, c3, c1], fun i hi j hj hu => ?_⟩
 ·rw [c1]
  simp only [execOp, Sem.run_bind, hrun, Result.andThen_ok, Sem.run_pure]
 ·have hl : i * k + j < r.length := by rw [← hal.size]; exact hu
  exact (hal.rel _ hl hu).toD (c4 i hi j hj hl)
theorem Walk.sliceEmptyG {t : TypeId} {e k yb : Nat} (id : Nat) (ht : SlT c.P t e k yb) (hg : GH all env g pg) (hd : Nat.blt d c.n = true) (hfr : freshB env hp [id] = true)
  (hn : Walk c all chk os (mkRec (pg ++ opFL [] []) [] [id] ⟨some (d, .gl id []), [(id, some (.tok 0 k))]⟩ :: recs) ⟨(d, .gl id []) :: env, (id, some (.tok 0 k)) :: hp⟩ Q) :
  Walk c all chk (⟨some d, .buildSlice t 0 #[], ty, pos, af, g⟩ :: os) recs ⟨env, hp⟩ Q := by
 refine Walk.mkRowG (xs := []) (vs := []) (es := []) (k := k) id hg hd rfl (by simp) hfr (fun a G T w h => ?_) hn
 obtain ⟨ie, hi1, hi2, hi3⟩ := ht.inf
 refine ⟨#[], e, ?_, by simp, fun i hi => by simp at hi⟩
 simp [execOp, Instr.buildSlice, run_underlying ht.und, sizeOf, run_ti hi1, Instr.fill, newRow, Array.range_zero']
end
end Go.Proofs.Ytadpcmcifbakoaa
