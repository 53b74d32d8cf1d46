/-
  THE ABSTRACT WALK, part H: new memory: structs by value, slice literals, boxes, stores.
-/
import Derived.Test.YtadpcmcifbakoaaAmG
namespace Go.Proofs.Ytadpcmcifbakoaa
open Go
set_option linter.unusedSimpArgs false
set_option linter.unusedVariables false
def constAVs : List Value → Option (List AV)
 | [] => some []
 | v :: r => match constAV v with
  | some x => match constAVs r with | some l => some (x :: l) | none => none
  | none => none
theorem constAVs_rel {G : Gh} {T : TokF} {w : World} : ∀ {vs : List Value} {l : List AV}, constAVs vs = some l → AllR G T w l vs.toArray
 | [], l, h => by simp only [constAVs, Option.some.injEq] at h; subst h; exact ⟨rfl, fun i hi => by simp at hi⟩
 | v :: r, l, h => by
  simp only [constAVs] at h
  cases hv : constAV v with
  | none => simp [hv] at h
  | some x =>
   simp only [hv] at h
   cases hr : constAVs r with
   | none => simp [hr] at h
   | some l' =>
    simp only [hr, Option.some.injEq] at h
    subst h
    have ih := constAVs_rel (G := G) (T := T) (w := w) hr
    have h1 := ih.size
    refine ⟨by simpa using h1, fun i hi hvi => ?_⟩
    cases i with
    | zero => simpa using constAV_rel hv
    | succ i =>
     have := ih.rel i (by simpa using hi) (by simpa using hvi)
     simpa using this
structure TyZ (P : Program) (t k : Nat) (zs : List AV) : Prop where
 inf : ∃ i z, P.info? t = some i ∧ i.size = k ∧ i.zero = some z ∧ constAVs z.cells.toList = some zs
structure StT (P : Program) (t : Nat) (places : List (Nat × Nat)) (zs : List AV) : Prop where
 out : ∃ i z fs, P.info? t = some i ∧ i.zero = some z ∧ constAVs z.cells.toList = some zs ∧ P.underlying t = some (.struct fs) ∧
  fs.toList.mapM (fun f => (P.info? f.type).map fun i => (f.offset, i.size)) = some places
def numL : Nat → List Operand → List (Nat × Operand)
 | _, [] => []
 | i, x :: r => (i, x) :: numL (i + 1) r
section
variable {c : Ctx} {all : Array Oper} {chk : List Rec → Prop} {os : List Oper} {recs : List Rec} {env : Env} {hp : Hp} {Q : St → Prop}
variable {d ty : Nat} {pos : String} {af : Array Edge} {g : Option (Nat × Bool)} {pg : List (Nat × AV)}
variable {t yt : TypeId} {x y : Operand}
theorem zipVs {xs : List Operand} {vs : List AV} {ks : List Nat} {a : Act} {G : Gh} {T : TokF} {w : World}
  (h : vs.length = xs.length ∧ ∀ i (hi : i < vs.length) (hx : i < xs.length), RelA G T w vs[i] (a.eval xs[i])) (hk : ks.length = xs.length) :
  ∀ i (h1 : i < (ks.zip vs).length) (h2 : i < (ks.zip (xs.map a.eval)).length), (ks.zip (xs.map a.eval))[i].1 = (ks.zip vs)[i].1 ∧ RelA G T w (ks.zip vs)[i].2 (ks.zip (xs.map a.eval))[i].2 := by
 intro i h1 h2
 simp only [List.length_zip, List.length_map] at h1 h2
 simp only [List.getElem_zip, List.getElem_map]
 exact ⟨trivial, h.2 i (by omega) (by omega)⟩
theorem Walk.build {parts : Array (Nat × Operand)} {ks : List Nat} {xs : List Operand} {vs zs r : List AV} {places : List (Nat × Nat)} (ht : StT c.P t places zs)
  (hparts : parts = (ks.zip xs).toArray) (hlen : ks.length = xs.length) (hg : GH all env g pg) (hd : Nat.blt d c.n = true) (hx : opdL env xs = some vs)
  (hf : fillA (places[·]?) zs (ks.zip vs) = some r)
  (hn : Walk c all chk os (mkRec (pg ++ opFL xs vs) [] [] ⟨some (d, .agg r), []⟩ :: recs) ⟨(d, .agg r) :: env, hp⟩ Q) :
  Walk c all chk (⟨some d, .build t parts, ty, pos, af, g⟩ :: os) recs ⟨env, hp⟩ Q := by
 subst hparts
 refine Walk.pureL hg hd hx (fun a G T w h => ?_) hn
 obtain ⟨i, z, fs, h1, h2, h3, h4, h5⟩ := ht.out
 have hz := constAVs_rel (G := G) (T := T) (w := w) h3
 obtain ⟨lv, hlv, hal⟩ := fillA_spec (ks.zip vs) (ks.zip (xs.map a.eval)) zs r z.cells hf (by simpa using hz) (by simp [h.1]) (zipVs h hlen)
 refine ⟨.agg lv, ?_, .agg hal.size hal.rel⟩
 have hb : c.P.built t ((ks.zip xs).toArray.map fun (i, x) => (i, a.eval x)).toList = some lv := by
  unfold Program.built
  simp only [h1, h4, h2, h5]
  rw [← hlv]
  congr 1
  ·funext i; simp
  ·simp [List.zip_map_right, Prod.map]
 simp only [execOp, Sem.run_bind, run_build w t _ lv hb, Result.andThen_ok, Sem.run_pure]
theorem RelR.bound {G : Gh} {T : TokF} {w : World} {id : Nat} {r : Res} (h : RelR G T w id r) : ∀ b, b ∈ G.loc id → b < w.heap.size := by
 intro b hb
 have lt : ∀ {b : Nat} {o : Obj}, w.heap[b]? = some o → b < w.heap.size := fun {b o} h => by
  rcases Nat.lt_or_ge b w.heap.size with h' | h'
  ·exact h'
  ·rw [Array.getElem?_eq_none h'] at h; cases h
 cases r with
 | box cs =>
  obtain ⟨b', vs, e, h1, h2, _⟩ := h
  rw [h1] at hb
  simp only [List.mem_singleton] at hb
  subst hb
  exact lt h2
 | tok n k => exact h b hb
 | map ks =>
  obtain ⟨b', es, cl, h1, h2, _⟩ := h
  rw [h1] at hb
  simp only [List.mem_singleton] at hb
  subst hb
  exact lt h2
 | tree cs =>
  obtain ⟨b', vs, e, Ss, h⟩ := h
  exact (h.mine b hb).2
theorem R.tokLoc {G : Gh} {s : St} {a : Act} {w : World} (hr : R c G s a w) {id n k : Nat} (h : tokf s.hp id = some (n, k)) : ∀ b, b ∈ G.loc id → b < w.heap.size :=
 (hr.heap id _ (tokf_some.1 h)).bound
theorem R.grow {G G' : Gh} {s : St} {a : Act} {w w' : World} (hr : R c G s a w) (hF : ∀ b, b < w.heap.size → w'.heap[b]? = w.heap[b]? ∧ G'.F b = G.F b) (hloc : G'.loc = G.loc)
  (hos : w'.os = w.os) (htp : w'.tape = w.tape) (hou : w'.output = w.output) (hsz : w.heap.size ≤ w'.heap.size) (htop : ∀ b, w'.heap.size ≤ b → G'.F b = 0) : R c G' s a w' := by
 have hcell : ∀ b o, o < G.F b → o < G'.F b ∧ w'.cell? ⟨b, o, none⟩ = w.cell? ⟨b, o, none⟩ := fun b o ho => by
  have hb : b < w.heap.size := by
   rcases Nat.lt_or_ge b w.heap.size with h | h
   ·exact h
   ·rw [hr.top b h] at ho; omega
  obtain ⟨h1, h2⟩ := hF b hb
  exact ⟨by rw [h2]; exact ho, by simp only [World.cell?, h1]⟩
 have hm : ∀ {x : AV} {v : Value}, RelA G (tokf s.hp) w x v → RelA G' (tokf s.hp) w' x v := fun hx =>
  hx.mono hcell (fun id _ => .inl (by rw [hloc])) (fun id _ p hp => ⟨hp, fun b hb => by obtain ⟨n, k⟩ := p; exact hF b (hr.tokLoc hp b hb)⟩)
 refine ⟨hr.size, hr.defers, fun i v h => hm (hr.slots i v h), fun id r h => ?_, fun id id' h1 h2 h3 => by rw [hloc]; exact hr.disj id id' h1 h2 h3,
  fun id h => by rw [hloc]; exact hr.new id h, hr.frm.trans (own1 := []) ⟨hos, htp, hou, hsz, fun b hb _ => hF b hb, hcell⟩ (by simp), htop, fun id l hl => by rw [hloc]; exact hr.kept id l hl⟩
 have h0 := hr.heap id r h
 have hb := h0.bound
 cases r with
 | box cs =>
  obtain ⟨b, vs, e, h1, h2, h3, h4, h5⟩ := h0
  obtain ⟨e1, e2⟩ := hF b (hb b (by simp [h1]))
  exact ⟨b, vs, e, by rw [hloc]; exact h1, e1.trans h2, h3, e2.trans h4, fun i hi hv => hm (h5 i hi hv)⟩
 | tok n k => exact fun b h1 => by rw [hloc] at h1; exact Nat.lt_of_lt_of_le (h0 b h1) hsz
 | map ks =>
  obtain ⟨b, es, cl, h1, h2, h3, h4⟩ := h0
  obtain ⟨e1, e2⟩ := hF b (hb b (by simp [h1]))
  exact ⟨b, es, cl, by rw [hloc]; exact h1, e1.trans h2, e2.trans h3, h4⟩
 | tree cs => exact tree_mono h0 (by rw [hloc]) (fun b hb' => hF b (hb b hb')) hsz (fun _ _ _ => hm)
theorem R.rename {G : Gh} {s : St} {a : Act} {w : World} (hr : R c G s a w) {id : Nat} (h0 : getH s.hp id = none) (hocc : noOcc id s) (l : List Nat) : R c { G with loc := fun i => bif Nat.beq i id then l else G.loc i } s a w := by
 have hne : ∀ {i : Nat}, i ≠ id → (bif Nat.beq i id then l else G.loc i) = G.loc i := fun {i} h => by
  cases hb : Nat.beq i id with
  | true => exact absurd (Nat.eq_of_beq_eq_true hb) h
  | false => rfl
 have hm : ∀ {x : AV} {v : Value}, id ∉ x.ids → RelA G (tokf s.hp) w x v → RelA { G with loc := fun i => bif Nat.beq i id then l else G.loc i } (tokf s.hp) w x v := fun hx hxx =>
  hxx.mono (fun _ _ ho => ⟨ho, rfl⟩) (fun i hi => .inl (hne (fun e => hx (e ▸ hi)))) (fun i _ p hp => ⟨hp, fun _ _ => ⟨rfl, rfl⟩⟩)
 have hs : ∀ {i : Nat}, (getH s.hp i).isSome → i ≠ id := fun {i} h e => by subst e; rw [h0] at h; cases h
 refine ⟨hr.size, hr.defers, fun i v h => hm (hocc.1 i v h) (hr.slots i v h), fun i r h => ?_, fun i j h1 h2 h3 b => ?_, fun i h b => ?_, hr.frm, hr.top, fun i m hm' => ?_⟩
 ·have hi : i ≠ id := hs (by rw [h]; rfl)
  have hh := hr.heap i r h
  cases r with
  | box cs =>
   obtain ⟨b, vs, e, h1, h2, h3, h4, h5⟩ := hh
   refine ⟨b, vs, e, (hne hi).trans h1, h2, h3, h4, fun j hj hv => hm (fun hx => hocc.2 i _ h ?_) (h5 j hj hv)⟩
   exact AV.mem_idsL (List.getElem_mem hj) hx
  | tok n k => exact fun b h1 => hh b (by have h2 := hne hi; simp only [h2] at h1; exact h1)
  | map ks =>
   obtain ⟨b, es, cl, h1, h2, h3, h4⟩ := hh
   exact ⟨b, es, cl, (hne hi).trans h1, h2, h3, h4⟩
  | tree cs => exact tree_mono hh (hne hi) (fun _ _ => ⟨rfl, rfl⟩) (Nat.le_refl _) (fun x hx v => hm (fun hm' => hocc.2 i _ h (AV.mem_idsL hx hm')))
 ·show b ∈ (bif Nat.beq i id then l else G.loc i) → b ∉ (bif Nat.beq j id then l else G.loc j)
  rw [hne (hs h1), hne (hs h2)]
  exact hr.disj i j h1 h2 h3 b
 ·show b ∈ (bif Nat.beq i id then l else G.loc i) → _
  rw [hne (hs h)]
  exact hr.new i h b
 ·have := hr.kept i m hm'
  exact ⟨(congrArg List.head? (hne (hs this.2.1))).trans this.1, this.2⟩
theorem R.name {G : Gh} {s : St} {a : Act} {w : World} (hr : R c G s a w) {id : Nat} {r : Res} (h0 : getH s.hp id = none) (hocc : noOcc id s)
  (hrel : RelR G (tokf ((id, some r) :: s.hp)) w id r) (hdisj : ∀ i, (getH s.hp i).isSome → ∀ b, b ∈ G.loc i → b ∉ G.loc id) (hnew : ∀ b, b ∈ G.loc id → b ∈ c.own ∨ c.w0.heap.size ≤ b) :
  R c G { s with hp := (id, some r) :: s.hp } a w := by
 have hget : ∀ i, getH ((id, some r) :: s.hp) i = if i = id then some r else getH s.hp i := fun i => by
  simp only [getH]
  by_cases h : i = id
  ·subst h; simp
  ·have : Nat.beq id i = false := by
    cases hb : Nat.beq id i with
    | true => exact absurd (Nat.eq_of_beq_eq_true hb).symm h
    | false => rfl
   simp [this, h]
 have htok : ∀ i p, i ≠ id → tokf ((id, some r) :: s.hp) i = some p → tokf s.hp i = some p := fun i p h1 h2 => by
  obtain ⟨n, k⟩ := p
  have := tokf_some.1 h2
  rw [hget, if_neg h1] at this
  exact tokf_some.2 this
 have hm : ∀ {x : AV} {v : Value}, id ∉ x.ids → RelA G (tokf s.hp) w x v → RelA G (tokf ((id, some r) :: s.hp)) w x v := fun hx hxx =>
  hxx.mono (fun _ _ ho => ⟨ho, rfl⟩) (fun _ _ => .inl rfl) (fun i hi p hp => ⟨htok i p (fun e => hx (e ▸ hi)) hp, fun _ _ => ⟨rfl, rfl⟩⟩)
 refine ⟨hr.size, hr.defers, fun i v h => hm (hocc.1 i v h) (hr.slots i v h), fun i r' h => ?_, fun i j h1 h2 h3 b hb => ?_, fun i h b hb => ?_, hr.frm, hr.top, fun i m hm' => ?_⟩
 ·have h' : (if i = id then some r else getH s.hp i) = some r' := by rw [← hget]; exact h
  by_cases hi : i = id
  ·subst hi
   rw [if_pos rfl] at h'
   cases h'
   exact hrel
  ·rw [if_neg hi] at h'
   have hh := hr.heap i r' h'
   cases r' with
   | box cs =>
    obtain ⟨b, vs, e, h1, h2, h3, h4, h5⟩ := hh
    exact ⟨b, vs, e, h1, h2, h3, h4, fun j hj hv => hm (fun hx => hocc.2 i _ h' (AV.mem_idsL (List.getElem_mem hj) hx)) (h5 j hj hv)⟩
   | tok n k => exact hh
   | map ks => exact hh
   | tree cs => exact tree_mono hh rfl (fun _ _ => ⟨rfl, rfl⟩) (Nat.le_refl _) (fun x hx v => hm (fun hm' => hocc.2 i _ h' (AV.mem_idsL hx hm')))
 ·have e1 : (if i = id then some r else getH s.hp i).isSome = true := by rw [← hget]; exact h1
  have e2 : (if j = id then some r else getH s.hp j).isSome = true := by rw [← hget]; exact h2
  by_cases hi : i = id
  ·subst hi
   rw [if_neg (Ne.symm h3)] at e2
   intro hb'
   exact hdisj j e2 b hb' hb
  ·rw [if_neg hi] at e1
   by_cases hj : j = id
   ·subst hj; exact hdisj i e1 b hb
   ·rw [if_neg hj] at e2; exact hr.disj i j e1 e2 h3 b hb
 ·have e1 : (if i = id then some r else getH s.hp i).isSome = true := by rw [← hget]; exact h
  by_cases hi : i = id
  ·subst hi; exact hnew b hb
  ·rw [if_neg hi] at e1; exact hr.new i e1 b hb
 ·have := hr.kept i m hm'
  have hi : i ≠ id := fun e => by subst e; rw [h0] at this; simp at this
  refine ⟨this.1, ?_, ?_⟩
  ·show (getH ((id, some r) :: s.hp) i).isSome
   rw [hget, if_neg hi]
   exact this.2.1
  ·cases hT : tokf ((id, some r) :: s.hp) i with
   | none => rfl
   | some p => rw [htok i p hi hT] at this; simp at this
theorem alloc_block {w : World} {o : Obj} {b : Nat} (h : b < w.heap.size) : (w.alloc o).heap[b]? = w.heap[b]? := by
 show (w.heap.push o)[b]? = _
 rw [Array.getElem?_push, if_neg (by omega)]
theorem alloc_at {w : World} {o : Obj} : (w.alloc o).heap[w.heap.size]? = some o := by
 show (w.heap.push o)[w.heap.size]? = _
 simp
theorem R.alloc {G : Gh} {s : St} {a : Act} {w : World} (hr : R c G s a w) (o : Obj) (n : Nat) :
  R c { G with F := fun b => bif Nat.beq b w.heap.size then n else G.F b } s a (w.alloc o) := by
 refine hr.grow (fun b hb => ⟨alloc_block hb, ?_⟩) rfl rfl rfl rfl (by simp) (fun b hb => ?_)
 ·have : Nat.beq b w.heap.size = false := by
   cases h : Nat.beq b w.heap.size with
   | true => have := Nat.eq_of_beq_eq_true h; omega
   | false => rfl
  simp [this]
 ·simp only [World.size_alloc] at hb
  have : Nat.beq b w.heap.size = false := by
   cases h : Nat.beq b w.heap.size with
   | true => have := Nat.eq_of_beq_eq_true h; omega
   | false => rfl
  simp only [this, cond_false]
  exact hr.top b (by omega)
theorem R.allocBox {G : Gh} {s : St} {a : Act} {w : World} (hr : R c G s a w) {id : Nat} {cs : List AV} {vs : Array Value} {e : TypeId} (h0 : getH s.hp id = none) (hocc : noOcc id s)
  (hcs : AllR G (tokf s.hp) w cs vs) (hid : id ∉ AV.idsL cs) :
  ∃ G', R c G' { s with hp := (id, some (.box cs)) :: s.hp } a (w.alloc (.cells vs e)) ∧ G'.loc id = [w.heap.size] := by
 have h1 := (hr.alloc (.cells vs e) 0).rename h0 hocc [w.heap.size]
 have hloc : ∀ i, i ≠ id → (bif Nat.beq i id then [w.heap.size] else G.loc i) = G.loc i := fun i h => by
  cases hb : Nat.beq i id with
  | true => exact absurd (Nat.eq_of_beq_eq_true hb) h
  | false => rfl
 refine ⟨_, h1.name h0 hocc ?_ (fun i hi b hb => ?_) (fun b hb => ?_), by simp⟩
 ·refine ⟨w.heap.size, vs, e, by simp, alloc_at, hcs.pre.size, by simp, fun i hi hv => ?_⟩
  have := hcs.rel i hi hv
  have hx : id ∉ (cs[i]).ids := fun h => hid (AV.mem_idsL (List.getElem_mem hi) h)
  refine this.mono (fun b o ho => ?_) (fun j hj => .inl (hloc j (fun e => hx (e ▸ hj)))) (fun j hj p hp => ?_)
  ·have hb : b < w.heap.size := by
    rcases Nat.lt_or_ge b w.heap.size with h | h
    ·exact h
    ·rw [hr.top b h] at ho; omega
   have : Nat.beq b w.heap.size = false := by
    cases h : Nat.beq b w.heap.size with
    | true => have := Nat.eq_of_beq_eq_true h; omega
    | false => rfl
   exact ⟨by simpa [this] using ho, World.cell?_alloc_lt w _ _ hb⟩
  ·have hj' : j ≠ id := fun e => hx (e ▸ hj)
   obtain ⟨n, k⟩ := p
   have hp' := tokf_some.1 hp
   simp only [getH] at hp'
   have hbb : Nat.beq id j = false := by
    cases hb : Nat.beq id j with
    | true => exact absurd (Nat.eq_of_beq_eq_true hb).symm hj'
    | false => rfl
   rw [hbb] at hp'
   have hp2 : tokf s.hp j = some (n, k) := tokf_some.2 hp'
   refine ⟨hp2, fun b hb => ?_⟩
   have hlt := hr.tokLoc hp2 b hb
   have : Nat.beq b w.heap.size = false := by
    cases h : Nat.beq b w.heap.size with
    | true => have := Nat.eq_of_beq_eq_true h; omega
    | false => rfl
   exact ⟨alloc_block hlt, by simp [this]⟩
 ·have hi' : i ≠ id := fun e => by subst e; rw [h0] at hi; cases hi
  have hb' : b ∈ G.loc i := by have := hloc i hi'; simp only [this] at hb; exact hb
  have hlt : b < w.heap.size := by
   obtain ⟨r, hrr⟩ := Option.isSome_iff_exists.1 hi
   exact (hr.heap i r hrr).bound b hb'
  simp
  omega
 ·simp at hb
  subst hb
  exact .inr hr.frm.size
theorem Walk.mkBox {op : Op} {xs : List Operand} {vs cs : List AV} {v : AV} {id : Nat} (hg : GH all env g pg) (hd : Nat.blt d c.n = true) (hx : opdL env xs = some vs)
  (h0 : getH hp id = none) (ho1 : occE id env = false) (ho2 : occH id hp = false) (hid : elemB id (AV.idsL cs) = false)
  (h : ∀ (a : Act) (G : Gh) (T : TokF) (w : World), (vs.length = xs.length ∧ ∀ i (hi : i < vs.length) (hx : i < xs.length), RelA G T w vs[i] (a.eval xs[i])) →
   ∃ z us e, (execOp a.eval ⟨some d, op, ty, pos, af, g⟩).run c.P w = .ok (.value z) (w.alloc (.cells us e)) ∧ AllR G T w cs us ∧
    ∀ G' T' w', G'.loc id = [w.heap.size] → T' id = none → RelA G' T' w' v z)
  (hn : Walk c all chk os (mkRec (pg ++ opFL xs vs) [] [id] ⟨some (d, v), [(id, some (.box cs))]⟩ :: recs) ⟨(d, v) :: env, (id, some (.box cs)) :: hp⟩ Q) :
  Walk c all chk (⟨some d, op, ty, pos, af, g⟩ :: os) recs ⟨env, hp⟩ Q := by
 refine ⟨pg ++ opFL xs vs, [], [id], _, ?_, facts_append hg.facts (opFL_holds hx), by simp, fun i hi => ?_, hn⟩
 ·intro s a w hrel hp' hh hcr K Q' hK
  obtain ⟨G, hr⟩ := hrel
  obtain ⟨h1, h2⟩ := hcr id (by simp)
  obtain ⟨z, us, e, e1, e2, e3⟩ := h a G (tokf s.hp) w (opdL_rel hr (opdL_facts hx (fun p hm => hp' p (by simp [hm]))))
  have hid' : id ∉ AV.idsL cs := fun hm => by rw [elemB_iff.2 hm] at hid; cases hid
  obtain ⟨G', hr', hl⟩ := hr.allocBox h1 h2 e2 hid' (e := e)
  unfold wpO
  rw [if_pos (hg.gf.wanted hr (fun p hm => hp' p (by simp [hm])))]
  unfold Oper.wp
  rw [e1, Oper.upon_value]
  exact hK _ _ ⟨G', hr'.put (e3 G' _ _ hl (by simp [tokf, getH])) hd⟩
 ·simp only [List.mem_singleton] at hi
  subst hi
  exact ⟨h0, noOcc_of ho1 ho2⟩
theorem run_zero {P : Program} {t : TypeId} {i : TypeInfo} {z : Value} {w : World} (h1 : P.info? t = some i) (h2 : i.zero = some z) : (zeroValue t).run P w = .ok z w := by
 simp [zeroValue, run_ti h1, h2]
theorem Walk.alloc {id k : Nat} {zs : List AV} (ht : TyZ c.P t k zs) (hz : AV.idsL zs = []) (hg : GH all env g pg) (hd : Nat.blt d c.n = true)
  (h0 : getH hp id = none) (ho1 : occE id env = false) (ho2 : occH id hp = false)
  (hn : Walk c all chk os (mkRec (pg ++ []) [] [id] ⟨some (d, .ref id 0), [(id, some (.box zs))]⟩ :: recs) ⟨(d, .ref id 0) :: env, (id, some (.box zs)) :: hp⟩ Q) :
  Walk c all chk (⟨some d, .alloc t, ty, pos, af, g⟩ :: os) recs ⟨env, hp⟩ Q := by
 refine Walk.mkBox (xs := []) (vs := []) hg hd rfl h0 ho1 ho2 (by rw [hz]; rfl) (fun a G T w _ => ?_) hn
 obtain ⟨i, z, h1, h2, h3, h4⟩ := ht.inf
 refine ⟨.pointer (some ⟨w.heap.size, 0, none⟩), z.cells, t, ?_, by simpa using constAVs_rel h4, fun G' T' w' hl hT => .ref (one_head hl) hT⟩
 simp only [execOp, Instr.alloc, Sem.run_bind, run_zero h1 h3, Result.andThen_ok]
 simp [newVar, newRow]
theorem Walk.box {id : Nat} {v : AV} {cs : List AV} (hg : GH all env g pg) (hd : Nat.blt d c.n = true) (hx : opd env x = some v) (hc : cellsA v = some cs)
  (h0 : getH hp id = none) (ho1 : occE id env = false) (ho2 : occH id hp = false) (hid : elemB id (AV.idsL cs) = false)
  (hn : Walk c all chk os (mkRec (pg ++ opFL [x] [v]) [] [id] ⟨some (d, .ref id 0), [(id, some (.box cs))]⟩ :: recs) ⟨(d, .ref id 0) :: env, (id, some (.box cs)) :: hp⟩ Q) :
  Walk c all chk (⟨some d, .box t x, ty, pos, af, g⟩ :: os) recs ⟨env, hp⟩ Q := by
 refine Walk.mkBox (xs := [x]) (vs := [v]) hg hd (by simp [opdL, hx]) h0 ho1 ho2 hid (fun a G T w h => ?_) hn
 have h1 := h.2 0 (by simp) (by simp)
 simp only [List.getElem_cons_zero] at h1
 refine ⟨.pointer (some ⟨w.heap.size, 0, none⟩), (a.eval x).cells, t, ?_, cellsA_rel h1 hc, fun G' T' w' hl hT => .ref (one_head hl) hT⟩
 simp [execOp, Instr.box, newVar, newRow]
end
end Go.Proofs.Ytadpcmcifbakoaa
