/-
  THE ABSTRACT WALK, part B: one operation, a region in the order of the text, code, loops.
-/
import Derived.Test.YtadpcmcifbakoaaAmA
namespace Go.Proofs.Ytadpcmcifbakoaa
open Go
set_option linter.unusedSimpArgs false
set_option linter.unusedVariables false
structure Upd where
 sl : Option (Nat × AV)
 hp : Hp
def St.app (s : St) (u : Upd) : St :=
 { env := match u.sl with | some p => p :: s.env | none => s.env, hp := u.hp ++ s.hp }
def wpO (P : Program) (all : Array Oper) (Q : Exit → Act → World → Prop) (o : Oper) (K : Act → World → Prop) (a : Act) (w : World) : Prop :=
 if Region.wanted o (yielded all a.tmps) then o.wp P a w K Q else K (a.put o.dst undef) w
theorem wpO_mono {P : Program} {all : Array Oper} {Q : Exit → Act → World → Prop} {o : Oper} {K K' : Act → World → Prop} {a : Act} {w : World}
  (h : ∀ a w, K a w → K' a w) (hh : wpO P all Q o K a w) : wpO P all Q o K' a w := by
 unfold wpO at *
 split
 ·rename_i hw; simp only [hw, if_true] at hh; exact Oper.wp_mono h hh
 ·rename_i hw; simp only [hw] at hh; exact h _ _ hh
def LRule (c : Ctx) (all : Array Oper) (o : Oper) (pre : List (Nat × AV)) (prh : List (Nat × Res)) (cr : List Nat) (u : Upd) : Prop :=
 ∀ s a w, Rel c s a w → (∀ p, p ∈ pre → getE s.env p.1 = some p.2) → (∀ p, p ∈ prh → getH s.hp p.1 = some p.2) →
  (∀ id, id ∈ cr → getH s.hp id = none ∧ noOcc id s) →
  ∀ (K : Act → World → Prop) (Q : Exit → Act → World → Prop), (∀ a' w', Rel c (s.app u) a' w' → K a' w') → wpO c.P all Q o K a w
structure Rec where
 rs : List Nat
 rr : List Nat
 cr : List Nat
 u : Upd
def mkRec (pre : List (Nat × AV)) (prh : List (Nat × Res)) (cr : List Nat) (u : Upd) : Rec :=
 { rs := pre.map (·.1), rr := prh.map (·.1), cr := cr, u := u }
def Walk (c : Ctx) (all : Array Oper) (chk : List Rec → Prop) : List Oper → List Rec → St → (St → Prop) → Prop
 | [], recs, s, Q => chk recs ∧ Q s
 | o :: os, recs, s, Q => ∃ pre prh cr u, LRule c all o pre prh cr u ∧ (∀ p, p ∈ pre → getE s.env p.1 = some p.2) ∧
   (∀ p, p ∈ prh → getH s.hp p.1 = some p.2) ∧ (∀ id, id ∈ cr → getH s.hp id = none ∧ noOcc id s) ∧
   Walk c all chk os (mkRec pre prh cr u :: recs) (s.app u) Q
structure Kt where
 n : St → Prop
 ex : Nat → St → Prop
 rt : St → Prop
def Kt.post (c : Ctx) (K : Kt) : Exit → Act → World → Prop
 | .normal, a, w => ∃ s, Rel c s a w ∧ K.n s
 | .exit id, a, w => ∃ s, Rel c s a w ∧ K.ex id s
 | .ret, a, w => ∃ s, Rel c s a w ∧ K.rt s
 | _, _, _ => False
def CWp (c : Ctx) (code : Code) (s : St) (K : Kt) : Prop := ∀ a w, Rel c s a w → code.wp c.P (K.post c) a w
def Kt.with (K : Kt) (n : St → Prop) : Kt := { n := n, ex := K.ex, rt := K.rt }
def Kt.blk (K : Kt) (id : Nat) : Kt := { n := K.n, ex := fun i s => bif Nat.beq i id then K.n s else K.ex i s, rt := K.rt }
section
variable {c : Ctx} {s : St} {K : Kt}
theorem CWp.skip (h : K.n s) : CWp c .skip s K := fun _ _ hr => wp_skip ⟨s, hr, h⟩
theorem CWp.exit {id : Nat} (h : K.ex id s) : CWp c (.exit id) s K := fun _ _ hr => wp_exit ⟨s, hr, h⟩
theorem CWp.ret (h : K.rt s) : CWp c .ret s K := fun _ _ hr => wp_ret ⟨s, hr, h⟩
theorem CWp.label {l : Nat} (h : K.n s) : CWp c (.label l) s K := fun _ _ hr => wp_label ⟨s, hr, h⟩
theorem CWp.seq {x y : Code} (h : CWp c x s (K.with fun s' => CWp c y s' K)) : CWp c (.seq x y) s K := by
 intro a w hr
 refine wp_seq (wp_mono (h a w hr) ?_)
 intro e a' w' hq
 cases e with
 | normal =>
  obtain ⟨s', hr', hn⟩ := hq
  exact hn a' w' hr'
 | exit id => exact hq
 | ret => exact hq
 | goto l => exact hq.elim
 | panic ch => exact hq.elim
 | outgrown => exact hq.elim
theorem CWp.block {id : Nat} {x : Code} (h : CWp c x s (K.blk id)) : CWp c (.block id x) s K := by
 intro a w hr
 refine wp_block (wp_mono (h a w hr) ?_)
 intro e a' w' hq
 cases e with
 | normal => exact hq
 | exit i =>
  obtain ⟨s', hr', hn⟩ := hq
  simp only [Exit.inBlock]
  by_cases hi : i = id
  ·subst hi
   simp only [Kt.blk, Nat.beq_refl, cond_true] at hn
   rw [if_pos rfl]
   exact ⟨s', hr', hn⟩
  ·have hb : Nat.beq i id = false := by
    cases hbb : Nat.beq i id with
    | true => exact absurd (Nat.eq_of_beq_eq_true hbb) hi
    | false => rfl
   simp only [Kt.blk, hb, cond_false] at hn
   rw [if_neg hi]
   exact ⟨s', hr', hn⟩
 | ret => exact hq
 | goto l => exact hq.elim
 | panic ch => exact hq.elim
 | outgrown => exact hq.elim
theorem Rel.slot {i : Nat} {v : AV} {a : Act} {w : World} (hr : Rel c s a w) (h : getE s.env i = some v) : ∃ G, RelA G (tokf s.hp) w v (a.tmps.getD i undef) :=
 let ⟨G, hg⟩ := hr
 ⟨G, hg.slots i v h⟩
theorem CWp.cond {t : Nat} {b : Bool} {x y : Code} (hc : getE s.env t = some (.d (.bool b))) (ht : b = true → CWp c x s K) (hf : b = false → CWp c y s K) :
  CWp c (.cond (.tmp t) x y) s K := by
 intro a w hr
 obtain ⟨G, hv⟩ := hr.slot hc
 have he : a.eval (.tmp t) = .bool b := by
  show a.tmps.getD t undef = _
  generalize a.tmps.getD t undef = v at *
  cases hv with
  | d h => cases h; rfl
 exact wp_cond_split he (fun h => ht h a w hr) (fun h => hf h a w hr)
structure Sub (s' s : St) : Prop where
 env : ∀ i v, getE s'.env i = some v → v = .any ∨ ∃ u, getE s.env i = some u ∧ LeA u v
 hp : ∀ i r, getH s'.hp i = some r → getH s.hp i = some r
theorem Rel.sub {s' : St} {a : Act} {w : World} (hr : Rel c s a w) (h : Sub s' s) (hk : ∀ id l, c.kept id = some l → (getH s'.hp id).isSome) : Rel c s' a w := by
 obtain ⟨G, hg⟩ := hr
 have hTs : ∀ id p, tokf s'.hp id = some p → tokf s.hp id = some p := by
  rintro id ⟨n, k⟩ hp
  exact tokf_some.2 (h.hp _ _ (tokf_some.1 hp))
 have hm : ∀ {x : AV} {v : Value}, RelA G (tokf s.hp) w x v → RelA G (tokf s'.hp) w x v := fun hx =>
  hx.mono (fun _ _ ho => ⟨ho, rfl⟩) (fun _ _ => .inl rfl) (fun id _ p hp => ⟨hTs id p hp, fun _ _ => ⟨rfl, rfl⟩⟩)
 have hsome : ∀ id, (getH s'.hp id).isSome → (getH s.hp id).isSome := fun id hi => by
  obtain ⟨r, hr⟩ := Option.isSome_iff_exists.1 hi
  rw [h.hp _ _ hr]; rfl
 refine ⟨G, hg.size, hg.defers, fun i v hi => by
  rcases h.env i v hi with rfl | ⟨u, h1, h2⟩
  ·exact .any _
  ·exact hm ((hg.slots i u h1).le h2), fun id r hi => ?_, fun id id' h1 h2 => hg.disj id id' (hsome _ h1) (hsome _ h2),
  fun id h1 => hg.new id (hsome _ h1), hg.frm, hg.top, fun id l hl => ⟨(hg.kept id l hl).1, hk id l hl, by
   cases hT : tokf s'.hp id with
   | none => rfl
   | some p => exact absurd (hg.kept id l hl).2.2 (by rw [hTs id p hT]; simp)⟩⟩
 have := hg.heap id r (h.hp _ _ hi)
 cases r with
 | box cs =>
  obtain ⟨b, vs, e, h1, h2, h3, h4, h5⟩ := this
  exact ⟨b, vs, e, h1, h2, h3, h4, fun i hi hv => hm (h5 i hi hv)⟩
 | tok n k => exact this
 | map ks => exact this
 | tree cs => exact tree_mono this rfl (fun _ _ => ⟨rfl, rfl⟩) (Nat.le_refl _) (fun _ _ _ => hm)
theorem CWp.weak {s' : St} {code : Code} (h : Sub s' s) (hk : ∀ id l, c.kept id = some l → (getH s'.hp id).isSome) (hh : CWp c code s' K) : CWp c code s K :=
 fun a w hr => hh a w (hr.sub h hk)
theorem CWp.loop {ι : Type} {body : Code} (S : ι → St) (good : ι → Prop) (μ : ι → Nat) (x0 : ι) (h0 : good x0) (hs : Sub (S x0) s)
  (hk : ∀ x id l, c.kept id = some l → (getH (S x).hp id).isSome)
  (hround : ∀ x, good x → CWp c body (S x) (K.with fun s' => ∃ x', good x' ∧ μ x' < μ x ∧ Sub (S x') s')) : CWp c (.loop body) s K := by
 intro a w hr
 have key : ∀ n, ∀ a w x, good x → Rel c (S x) a w → μ x = n → ∀ b k cs,
   ∃ e a' w', K.post c e a' w' ∧ Arrives c.P (lone (b.at a (.code body :: .inLoop body :: k)) cs w) b k cs e a' w' := by
  intro n
  induction n using Nat.strongRecOn with
  | _ n ih =>
   intro a w x hx hr hn b k cs
   obtain ⟨e, a1, w1, hq, harr⟩ := hround x hx a w hr b (.inLoop body :: k) cs
   cases e with
   | normal =>
    obtain ⟨s', hr', x', hx', hlt, hs'⟩ := hq
    obtain ⟨e2, a2, w2, hq2, harr2⟩ := ih (μ x') (hn ▸ hlt) a1 w1 x' hx' (hr'.sub hs' (hk x')) rfl b k cs
    exact ⟨e2, a2, w2, hq2, .of_steps (Steps.trans harr (.one step_inLoop)) harr2⟩
   | exit id => exact ⟨.exit id, a1, w1, hq, .pass (x := .inLoop body) rfl (fun _ _ => .inl (by simp)) harr⟩
   | goto l => exact hq.elim
   | ret => exact ⟨.ret, a1, w1, hq, .pass (x := .inLoop body) rfl (fun _ _ => .inl (by simp)) harr⟩
   | panic ch => exact hq.elim
   | outgrown => exact hq.elim
 intro b k cs
 obtain ⟨e, a', w', hq, harr⟩ := key _ a w x0 h0 (hr.sub hs (hk x0)) rfl b k cs
 exact ⟨e, a', w', hq, .of_steps (.one step_loop) harr⟩
theorem walk_ops {all : Array Oper} {Q : St → Prop} {Q' : Exit → Act → World → Prop} (hQ : ∀ s a w, Rel c s a w → Q s → Q' .normal a w) :
  ∀ (l : List Nat) (os : List Oper) (recs : List Rec) (s : St) (a : Act) (w : World), l.filterMap (all[·]?) = os → (∀ i, i ∈ l → i < all.size) →
   Walk c all (fun _ => True) os recs s Q → Rel c s a w → wpOps c.P all Q' l a w
 | [], os, recs, s, a, w, hl, _, hw, hr => by
  simp only [List.filterMap_nil] at hl
  subst hl
  exact hQ s a w hr hw.2
 | i :: l, os, recs, s, a, w, hl, hlt, hw, hr => by
  have hi : i < all.size := hlt i (by simp)
  have ho : all[i]? = some all[i] := by simp [hi]
  rw [List.filterMap_cons] at hl
  simp only [ho] at hl
  subst hl
  obtain ⟨pre, prh, cr, u, hrule, h1, h2, h3, hrest⟩ := hw
  rw [wpOps_cons]
  unfold wpOp
  simp only [ho]
  have := hrule s a w hr h1 h2 h3 (wpOps c.P all Q' l) Q' (fun a' w' hr' =>
   walk_ops hQ l _ _ _ a' w' rfl (fun j hj => hlt j (by simp [hj])) hrest hr')
  unfold wpO at this
  split
  ·rename_i hw; simp only [hw, if_true] at this; exact .inl this
  ·rename_i hw; simp only [hw] at this; exact this
theorem CWp.region {id : Nat} {all : Array Oper} {os : List Oper} (hos : all.toList = os) (h : Walk c all (fun _ => True) os [] s K.n) : CWp c (.region id all false) s K := by
 intro a w hr
 refine wp_region (walk_ops (Q := K.n) (fun s a w hr hq => ⟨s, hr, hq⟩) (List.range all.size) os [] s a w ?_ (fun i hi => by simpa using hi) h hr)
 subst hos
 have : (List.range all.size).filterMap (all[·]?) = all.toList := by
  have h1 : (List.range all.size).filterMap (all[·]?) = (List.range all.toList.length).filterMap (all.toList[·]?) := by simp
  rw [h1]
  generalize all.toList = l
  induction l with
  | nil => rfl
  | cons x l ih =>
   rw [List.length_cons, List.range_succ_eq_map, List.filterMap_cons]
   simp only [List.getElem?_cons_zero, List.filterMap_map]
   exact congrArg (List.cons x) ih
 exact this
end
end Go.Proofs.Ytadpcmcifbakoaa
