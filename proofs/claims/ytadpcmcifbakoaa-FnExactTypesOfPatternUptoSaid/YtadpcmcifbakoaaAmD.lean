/-
  THE ABSTRACT WALK, part D: the operations that only compute.
-/
import Derived.Test.YtadpcmcifbakoaaAmC
import Derived.Laws.Entries
import Derived.Laws.StructEq
import Derived.Laws.Small
import Derived.Laws.Strings
import Derived.Laws.Slices
import Derived.Laws.Tables
import Derived.ChangeKeysEq
namespace Go.Proofs.Ytadpcmcifbakoaa
open Go
set_option linter.unusedSimpArgs false
set_option linter.unusedVariables false
def constAV : Value → Option AV
 | .int k n => some (.d (.int k n))
 | .bool b => some (.d (.bool b))
 | .string s => some (.d (.str s.data.toList))
 | .slice none 0 0 => some .nils
 | .pointer none => some (.d .nilp)
 | _ => none
def opd (env : Env) : Operand → Option AV
 | .tmp t => getE env t
 | .const v => constAV v
 | .func f => some (.fn f [])
 | .global _ => none
def opF : Operand → AV → List (Nat × AV)
 | .tmp t, v => [(t, v)]
 | _, _ => []
theorem opd_facts {env env' : Env} {x : Operand} {v : AV} (h : opd env x = some v) (hf : ∀ p, p ∈ opF x v → getE env' p.1 = some p.2) : opd env' x = some v := by
 cases x with
 | tmp t => exact hf (t, v) (by simp [opF])
 | const c => exact h
 | global g => exact h
 | func f => exact h
theorem opF_holds {env : Env} {x : Operand} {v : AV} (h : opd env x = some v) : ∀ p, p ∈ opF x v → getE env p.1 = some p.2 := by
 cases x with
 | tmp t => intro p hp; simp only [opF, List.mem_singleton] at hp; subst hp; exact h
 | const c => intro p hp; simp [opF] at hp
 | global g => intro p hp; simp [opF] at hp
 | func f => intro p hp; simp [opF] at hp
theorem constAV_rel {G : Gh} {T : TokF} {w : World} {v : Value} {x : AV} (h : constAV v = some x) : RelA G T w x v := by
 unfold constAV at h
 split at h <;> simp only [Option.some.injEq, reduceCtorEq] at h
 all_goals subst h
 ·exact .d (.int _ _)
 ·exact .d (.bool _)
 ·exact .d (.str _)
 ·exact .nils
 ·exact .d .nilp
section
variable {c : Ctx} {G : Gh} {s : St} {a : Act} {w : World}
theorem R.opd (hr : R c G s a w) {x : Operand} {v : AV} (h : opd s.env x = some v) : RelA G (tokf s.hp) w v (a.eval x) := by
 cases x with
 | tmp t => exact hr.slots t v h
 | const cv => exact constAV_rel h
 | global g => simp [Proofs.Ytadpcmcifbakoaa.opd] at h
 | func f =>
  simp only [Proofs.Ytadpcmcifbakoaa.opd, Option.some.injEq] at h
  subst h
  exact .fn (by simp) (fun i hi => by simp at hi)
theorem R.put (hr : R c G s a w) {d : Nat} {v : AV} {x : Value} (hv : RelA G (tokf s.hp) w v x) (hd : Nat.blt d c.n = true) :
  R c G (s.app ⟨some (d, v), []⟩) (a.put (some d) x) w := by
 have hd' : d < c.n := by simpa [Nat.blt_eq] using hd
 refine ⟨by simp [Act.put, hr.size], hr.defers, fun i u hi => ?_, hr.heap, hr.disj, hr.new, hr.frm, hr.top, hr.kept⟩
 have hi' : getE ((d, v) :: s.env) i = some u := hi
 simp only [getE] at hi'
 show RelA G (tokf s.hp) w u ((a.tmps.setIfInBounds d x).getD i undef)
 cases hb : Nat.beq d i with
 | true =>
  simp only [hb, cond_true, Option.some.injEq] at hi'
  have : d = i := Nat.eq_of_beq_eq_true hb
  subst this hi'
  have : d < a.tmps.size := by rw [hr.size]; exact hd'
  simpa [Array.getD, this] using hv
 | false =>
  simp only [hb, cond_false] at hi'
  have hne : d ≠ i := fun h => by subst h; rw [Nat.beq_refl] at hb; cases hb
  have := hr.slots i u hi'
  simpa [Array.getD_eq_getD_getElem?, Array.getElem?_setIfInBounds, hne] using this
theorem R.putNone (hr : R c G s a w) {x : Value} : R c G (s.app ⟨none, []⟩) (a.put none x) w := hr
def GF (all : Array Oper) : Option (Nat × Bool) → List (Nat × AV) → Prop
 | none, pg => pg = []
 | some (j, want), pg => ∃ d b, (all[j]?).bind (·.dst) = some d ∧ b = want ∧ pg = [(d, .d (.bool b))]
theorem GF.wanted {all : Array Oper} {o : Oper} {pg : List (Nat × AV)} (hg : GF all o.guard pg) (hr : R c G s a w) (hf : ∀ p, p ∈ pg → getE s.env p.1 = some p.2) :
  Region.wanted o (yielded all a.tmps) = true := by
 unfold Region.wanted
 cases hgd : o.guard with
 | none => rfl
 | some g =>
  obtain ⟨j, want⟩ := g
  rw [hgd] at hg
  obtain ⟨d, b, h1, rfl, rfl⟩ := hg
  have h2 := hr.slots d _ (hf (d, .d (.bool b)) (by simp))
  simp only [yielded, h1, Option.bind_some]
  have h3 : a.tmps.getD d undef = .bool b := by
   generalize a.tmps.getD d undef = v at *
   cases h2 with | d h => cases h; rfl
  have h4 : a.tmps[d]? = some (.bool b) := by
   cases hh : a.tmps[d]? with
   | none => simp [Array.getD_eq_getD_getElem?, hh, undef] at h3
   | some v => simpa [Array.getD_eq_getD_getElem?, hh] using h3
  simp [h4]
theorem LRule.pure {all : Array Oper} {o : Oper} {d : Nat} {v : AV} {pg pre : List (Nat × AV)} {prh : List (Nat × Res)} (hdst : o.dst = some d)
  (hg : GF all o.guard pg) (hd : Nat.blt d c.n = true)
  (h : ∀ G s a w, R c G s a w → (∀ p, p ∈ pre → getE s.env p.1 = some p.2) → (∀ p, p ∈ prh → getH s.hp p.1 = some p.2) →
   ∃ x, (execOp a.eval o).run c.P w = .ok (.value x) w ∧ RelA G (tokf s.hp) w v x) :
  LRule c all o (pg ++ pre) prh [] ⟨some (d, v), []⟩ := by
 intro s a w hrel hp hh _ K Q hK
 obtain ⟨G, hr⟩ := hrel
 obtain ⟨x, hx, hv⟩ := h G s a w hr (fun p hm => hp p (by simp [hm])) hh
 unfold wpO
 rw [if_pos (hg.wanted hr (fun p hm => hp p (by simp [hm])))]
 unfold Oper.wp
 rw [hx, Oper.upon_value, hdst]
 exact hK _ _ ⟨G, hr.put hv hd⟩
end
section
variable {c : Ctx} {all : Array Oper} {chk : List Rec → Prop} {os : List Oper} {recs : List Rec} {env : Env} {hp : Hp} {Q : St → Prop}
variable {d ty : Nat} {pos : String} {af : Array Edge} {g : Option (Nat × Bool)} {pg : List (Nat × AV)}
theorem facts_append {p q : List (Nat × AV)} (h1 : ∀ x, x ∈ p → getE env x.1 = some x.2) (h2 : ∀ x, x ∈ q → getE env x.1 = some x.2) :
  ∀ x, x ∈ p ++ q → getE env x.1 = some x.2 := fun x hx => by
 rcases List.mem_append.1 hx with h | h
 ·exact h1 x h
 ·exact h2 x h
def GH (all : Array Oper) (env : Env) : Option (Nat × Bool) → List (Nat × AV) → Prop
 | none, pg => pg = []
 | some (j, want), pg => ∃ d b, (all[j]?).bind (·.dst) = some d ∧ b = want ∧ pg = [(d, .d (.bool b))] ∧ getE env d = some (.d (.bool b))
theorem GH.gf (h : GH all env g pg) : GF all g pg := by
 cases g with
 | none => exact h
 | some g => obtain ⟨d, b, h1, h2, h3, h4⟩ := h; exact ⟨d, b, h1, h2, h3⟩
theorem GH.facts (h : GH all env g pg) : ∀ p, p ∈ pg → getE env p.1 = some p.2 := by
 cases g with
 | none => have h : pg = [] := h; subst h; intro p hp; simp at hp
 | some g =>
  obtain ⟨d, b, h1, h2, h3, h4⟩ := h
  subst h3
  intro p hp
  simp only [List.mem_singleton] at hp
  subst hp
  exact h4
theorem GH.none : GH all env none [] := rfl
theorem GH.some {j e : Nat} {b want : Bool} (h1 : (all[j]?).bind (·.dst) = Option.some e) (h4 : getE env e = Option.some (.d (.bool b))) (h2 : b = want) :
  GH all env (Option.some (j, want)) [(e, .d (.bool b))] := ⟨e, b, h1, h2, rfl, h4⟩
theorem Walk.pass {o : Oper} {j e : Nat} {b want : Bool} (hg : o.guard = some (j, want)) (h1 : (all[j]?).bind (·.dst) = some e) (h4 : getE env e = some (.d (.bool b)))
  (h2 : b = !want) (hdst : o.dst = some d) (hd : Nat.blt d c.n = true) (h : Walk c all chk os (mkRec [(e, .d (.bool b))] [] [] ⟨some (d, .tup []), []⟩ :: recs) ⟨(d, .tup []) :: env, hp⟩ Q) :
  Walk c all chk (o :: os) recs ⟨env, hp⟩ Q := by
 refine ⟨[(e, .d (.bool b))], [], [], ⟨some (d, .tup []), []⟩, ?_, ?_, by simp, by simp, h⟩
 ·intro s' a w hrel hp _ _ K Q' hK
  obtain ⟨G, hr⟩ := hrel
  have hs := hr.slots e _ (hp (e, .d (.bool b)) (by simp))
  have h3 : a.tmps.getD e undef = .bool b := by
   generalize a.tmps.getD e undef = v at *
   cases hs with | d h => cases h; rfl
  have h5 : a.tmps[e]? = some (.bool b) := by
   cases hh : a.tmps[e]? with
   | none => simp [Array.getD_eq_getD_getElem?, hh, undef] at h3
   | some v => simpa [Array.getD_eq_getD_getElem?, hh] using h3
  have hw : Region.wanted o (yielded all a.tmps) = false := by
   unfold Region.wanted
   rw [hg]
   simp only [yielded, h1, Option.bind_some, h5, h2]
   cases want <;> rfl
  unfold wpO
  rw [if_neg (by simp [hw]), hdst]
  exact hK _ _ ⟨G, hr.put (.tup rfl (fun i hi => absurd hi (by simp))) hd⟩
 ·intro p hp
  simp only [List.mem_singleton] at hp
  subst hp
  exact h4
theorem notWanted {o : Oper} {j e : Nat} {want : Bool} {a : Act} {G : Gh} {T : TokF} {w : World} (hg : o.guard = some (j, want)) (h1 : (all[j]?).bind (·.dst) = some e) (hs : RelA G T w (.tup []) (a.tmps.getD e undef)) :
  Region.wanted o (yielded all a.tmps) = false := by
 have h3 : ∃ us, a.tmps.getD e undef = .tuple us := by
  generalize a.tmps.getD e undef = v at *
  cases hs with | tup h _ => exact ⟨_, rfl⟩
 obtain ⟨us, h3⟩ := h3
 have h5 : yielded all a.tmps j = none := by
  simp only [yielded, h1, Option.bind_some]
  cases hh : a.tmps[e]? with
  | none => rfl
  | some v =>
   have : v = .tuple us := by simpa [Array.getD_eq_getD_getElem?, hh] using h3
   subst this
   rfl
 unfold Region.wanted
 rw [hg]
 simp [h5]
theorem Walk.passU {o : Oper} {j e : Nat} {want : Bool} (hg : o.guard = some (j, want)) (h1 : (all[j]?).bind (·.dst) = some e) (h4 : getE env e = some (.tup []))
  (hdst : o.dst = some d) (hd : Nat.blt d c.n = true) (h : Walk c all chk os (mkRec [(e, .tup [])] [] [] ⟨some (d, .tup []), []⟩ :: recs) ⟨(d, .tup []) :: env, hp⟩ Q) :
  Walk c all chk (o :: os) recs ⟨env, hp⟩ Q := by
 refine ⟨[(e, .tup [])], [], [], ⟨some (d, .tup []), []⟩, ?_, ?_, by simp, by simp, h⟩
 ·intro s' a w hrel hp _ _ K Q' hK
  obtain ⟨G, hr⟩ := hrel
  have hw := notWanted hg h1 (hr.slots e _ (hp (e, .tup []) (by simp)))
  unfold wpO
  rw [if_neg (by simp [hw]), hdst]
  exact hK _ _ ⟨G, hr.put (.tup rfl (fun i hi => absurd hi (by simp))) hd⟩
 ·intro p hp
  simp only [List.mem_singleton] at hp
  subst hp
  exact h4
theorem Walk.passU0 {o : Oper} {j e : Nat} {want : Bool} (hg : o.guard = some (j, want)) (h1 : (all[j]?).bind (·.dst) = some e) (h4 : getE env e = some (.tup []))
  (hdst : o.dst = none) (h : Walk c all chk os (mkRec [(e, .tup [])] [] [] ⟨none, []⟩ :: recs) ⟨env, hp⟩ Q) :
  Walk c all chk (o :: os) recs ⟨env, hp⟩ Q := by
 refine ⟨[(e, .tup [])], [], [], ⟨none, []⟩, ?_, ?_, by simp, by simp, h⟩
 ·intro s' a w hrel hp _ _ K Q' hK
  obtain ⟨G, hr⟩ := hrel
  have hw := notWanted hg h1 (hr.slots e _ (hp (e, .tup []) (by simp)))
  unfold wpO
  rw [if_neg (by simp [hw]), hdst]
  exact hK _ _ ⟨G, hr.putNone⟩
 ·intro p hp
  simp only [List.mem_singleton] at hp
  subst hp
  exact h4
theorem Walk.pass0 {o : Oper} {j e : Nat} {b want : Bool} (hg : o.guard = some (j, want)) (h1 : (all[j]?).bind (·.dst) = some e) (h4 : getE env e = some (.d (.bool b)))
  (h2 : b = !want) (hdst : o.dst = none) (h : Walk c all chk os (mkRec [(e, .d (.bool b))] [] [] ⟨none, []⟩ :: recs) ⟨env, hp⟩ Q) :
  Walk c all chk (o :: os) recs ⟨env, hp⟩ Q := by
 refine ⟨[(e, .d (.bool b))], [], [], ⟨none, []⟩, ?_, ?_, by simp, by simp, h⟩
 ·intro s' a w hrel hp _ _ K Q' hK
  obtain ⟨G, hr⟩ := hrel
  have hs := hr.slots e _ (hp (e, .d (.bool b)) (by simp))
  have h3 : a.tmps.getD e undef = .bool b := by
   generalize a.tmps.getD e undef = v at *
   cases hs with | d h => cases h; rfl
  have h5 : a.tmps[e]? = some (.bool b) := by
   cases hh : a.tmps[e]? with
   | none => simp [Array.getD_eq_getD_getElem?, hh, undef] at h3
   | some v => simpa [Array.getD_eq_getD_getElem?, hh] using h3
  have hw : Region.wanted o (yielded all a.tmps) = false := by
   unfold Region.wanted
   rw [hg]
   simp only [yielded, h1, Option.bind_some, h5, h2]
   cases want <;> rfl
  unfold wpO
  rw [if_neg (by simp [hw]), hdst]
  exact hK _ _ ⟨G, hr.putNone⟩
 ·intro p hp
  simp only [List.mem_singleton] at hp
  subst hp
  exact h4
theorem Walk.split {e : Nat} {b : Bool} (h : getE env e = some (.d (.bool b))) (ht : b = true → Walk c all chk os recs ⟨env, hp⟩ Q) (hf : b = false → Walk c all chk os recs ⟨env, hp⟩ Q) :
  Walk c all chk os recs ⟨env, hp⟩ Q := by
 cases b
 ·exact hf rfl
 ·exact ht rfl
theorem Walk.pure1 {op : Op} {x : Operand} {vx v : AV} (hg : GH all env g pg) (hd : Nat.blt d c.n = true) (hx : opd env x = some vx)
  (h : ∀ (a : Act) (G : Gh) (T : TokF) (w : World), RelA G T w vx (a.eval x) → ∃ y, (execOp a.eval ⟨some d, op, ty, pos, af, g⟩).run c.P w = .ok (.value y) w ∧ RelA G T w v y)
  (hn : Walk c all chk os (mkRec (pg ++ opF x vx) [] [] ⟨some (d, v), []⟩ :: recs) ⟨(d, v) :: env, hp⟩ Q) :
  Walk c all chk (⟨some d, op, ty, pos, af, g⟩ :: os) recs ⟨env, hp⟩ Q := by
 refine ⟨pg ++ opF x vx, [], [], _, LRule.pure rfl hg.gf hd (fun G s' a w hr hp _ => ?_), facts_append hg.facts (opF_holds hx), by simp, by simp, hn⟩
 exact h a G _ w (hr.opd (opd_facts hx hp))
theorem Walk.pure2 {op : Op} {x y : Operand} {vx vy v : AV} (hg : GH all env g pg) (hd : Nat.blt d c.n = true) (hx : opd env x = some vx) (hy : opd env y = some vy)
  (h : ∀ (a : Act) (G : Gh) (T : TokF) (w : World), RelA G T w vx (a.eval x) → RelA G T w vy (a.eval y) →
   ∃ z, (execOp a.eval ⟨some d, op, ty, pos, af, g⟩).run c.P w = .ok (.value z) w ∧ RelA G T w v z)
  (hn : Walk c all chk os (mkRec (pg ++ (opF x vx ++ opF y vy)) [] [] ⟨some (d, v), []⟩ :: recs) ⟨(d, v) :: env, hp⟩ Q) :
  Walk c all chk (⟨some d, op, ty, pos, af, g⟩ :: os) recs ⟨env, hp⟩ Q := by
 refine ⟨pg ++ (opF x vx ++ opF y vy), [], [], _, LRule.pure rfl hg.gf hd (fun G s' a w hr hp _ => ?_),
  facts_append hg.facts (facts_append (opF_holds hx) (opF_holds hy)), by simp, by simp, hn⟩
 exact h a G _ w (hr.opd (opd_facts hx (fun p hm => hp p (by simp [hm])))) (hr.opd (opd_facts hy (fun p hm => hp p (by simp [hm]))))
theorem Walk.pure0 {op : Op} {v : AV} (hg : GH all env g pg) (hd : Nat.blt d c.n = true)
  (h : ∀ (a : Act) (G : Gh) (T : TokF) (w : World), ∃ z, (execOp a.eval ⟨some d, op, ty, pos, af, g⟩).run c.P w = .ok (.value z) w ∧ RelA G T w v z)
  (hn : Walk c all chk os (mkRec (pg ++ []) [] [] ⟨some (d, v), []⟩ :: recs) ⟨(d, v) :: env, hp⟩ Q) :
  Walk c all chk (⟨some d, op, ty, pos, af, g⟩ :: os) recs ⟨env, hp⟩ Q := by
 refine ⟨pg ++ [], [], [], _, LRule.pure rfl hg.gf hd (fun G s' a w hr hp _ => h a G _ w), facts_append hg.facts (by simp), by simp, by simp, hn⟩
theorem Walk.move {x : Operand} {v : AV} (hg : GH all env g pg) (hd : Nat.blt d c.n = true) (hx : opd env x = some v)
  (hn : Walk c all chk os (mkRec (pg ++ opF x v) [] [] ⟨some (d, v), []⟩ :: recs) ⟨(d, v) :: env, hp⟩ Q) :
  Walk c all chk (⟨some d, .move x, ty, pos, af, g⟩ :: os) recs ⟨env, hp⟩ Q :=
 Walk.pure1 hg hd hx (fun _ _ _ _ h => ⟨_, rfl, h⟩) hn
theorem Walk.assign {x : Operand} {v : AV} (hg : GH all env g pg) (hd : Nat.blt d c.n = true) (hx : opd env x = some v)
  (hn : Walk c all chk os (mkRec (pg ++ opF x v) [] [] ⟨some (d, v), []⟩ :: recs) ⟨(d, v) :: env, hp⟩ Q) :
  Walk c all chk (⟨some d, .assign x, ty, pos, af, g⟩ :: os) recs ⟨env, hp⟩ Q :=
 Walk.pure1 hg hd hx (fun _ _ _ _ h => ⟨_, rfl, h⟩) hn
theorem RelA.bool_eq {G : Gh} {T : TokF} {w : World} {b : Bool} {v : Value} (h : RelA G T w (.d (.bool b)) v) : v = .bool b := by
 cases h with | d h => cases h; rfl
theorem RelA.int_eq {G : Gh} {T : TokF} {w : World} {k : IntKind} {n : Int} {v : Value} (h : RelA G T w (.d (.int k n)) v) : v = .int k n := by
 cases h with | d h => cases h; rfl
theorem RelA.str_eq {G : Gh} {T : TokF} {w : World} {l : List UInt8} {v : Value} (h : RelA G T w (.d (.str l)) v) : v = .string ⟨l.toArray⟩ := by
 cases h with | d h => cases h; rfl
theorem Walk.pickT {x y z : Operand} {v : AV} {b : Bool} (hg : GH all env g pg) (hd : Nat.blt d c.n = true) (hx : opd env x = some (.d (.bool b))) (hb : b = true) (hy : opd env y = some v)
  (hn : Walk c all chk os (mkRec (pg ++ (opF x (.d (.bool b)) ++ opF y v)) [] [] ⟨some (d, v), []⟩ :: recs) ⟨(d, v) :: env, hp⟩ Q) :
  Walk c all chk (⟨some d, .pick x y z, ty, pos, af, g⟩ :: os) recs ⟨env, hp⟩ Q :=
 Walk.pure2 hg hd hx hy (fun a _ _ _ h1 h2 => ⟨_, by simp [execOp, h1.bool_eq, hb, asBool], h2⟩) hn
theorem Walk.pickF {x y z : Operand} {v : AV} {b : Bool} (hg : GH all env g pg) (hd : Nat.blt d c.n = true) (hx : opd env x = some (.d (.bool b))) (hb : b = false) (hy : opd env z = some v)
  (hn : Walk c all chk os (mkRec (pg ++ (opF x (.d (.bool b)) ++ opF z v)) [] [] ⟨some (d, v), []⟩ :: recs) ⟨(d, v) :: env, hp⟩ Q) :
  Walk c all chk (⟨some d, .pick x y z, ty, pos, af, g⟩ :: os) recs ⟨env, hp⟩ Q :=
 Walk.pure2 hg hd hx hy (fun a _ _ _ h1 h2 => ⟨_, by simp [execOp, h1.bool_eq, hb, asBool], h2⟩) hn
theorem run_eqGuard_int {P : Program} {op : BinOp} {t : TypeId} {x y : Operand} {k k' : IntKind} {m n : Int} {w : World} : (eqGuard op t x y (.int k m) (.int k' n)).run P w = .ok () w := by
 cases op <;> rfl
theorem run_eqGuard_bool {P : Program} {op : BinOp} {t : TypeId} {x y : Operand} {m n : Bool} {w : World} : (eqGuard op t x y (.bool m) (.bool n)).run P w = .ok () w := by
 cases op <;> rfl
theorem run_eqGuard_string {P : Program} {op : BinOp} {t : TypeId} {x y : Operand} {m n : ByteArray} {w : World} : (eqGuard op t x y (.string m) (.string n)).run P w = .ok () w := by
 cases op <;> rfl
section ints
variable {t yt : TypeId} {x y : Operand} {k : IntKind} {m n : Int}
theorem Walk.bin_int {op : BinOp} {r : D} (hg : GH all env g pg) (hd : Nat.blt d c.n = true) (hx : opd env x = some (.d (.int k m))) (hy : opd env y = some (.d (.int k n)))
  (h : ∀ w, ∃ v, (binOp op t (.int k m) (.int k n)).run c.P w = .ok v w ∧ ∀ F, RelD F w r v)
  (hn : Walk c all chk os (mkRec (pg ++ (opF x (.d (.int k m)) ++ opF y (.d (.int k n)))) [] [] ⟨some (d, .d r), []⟩ :: recs) ⟨(d, .d r) :: env, hp⟩ Q) :
  Walk c all chk (⟨some d, .binOp op t x y yt, ty, pos, af, g⟩ :: os) recs ⟨env, hp⟩ Q := by
 refine Walk.pure2 hg hd hx hy (fun a G T w h1 h2 => ?_) hn
 obtain ⟨v, hv, hr⟩ := h w
 refine ⟨v, ?_, .d (hr _)⟩
 simp only [execOp, h1.int_eq, h2.int_eq]
 simp only [Sem.run_bind, run_eqGuard_int, Result.andThen_ok, hv, Sem.run_pure]
theorem Walk.eqI (hg : GH all env g pg) (hd : Nat.blt d c.n = true) (hx : opd env x = some (.d (.int k m))) (hy : opd env y = some (.d (.int k n)))
  (hn : Walk c all chk os (mkRec (pg ++ (opF x (.d (.int k m)) ++ opF y (.d (.int k n)))) [] [] ⟨some (d, .d (.bool (decide (m = n)))), []⟩ :: recs) ⟨(d, .d (.bool (decide (m = n)))) :: env, hp⟩ Q) :
  Walk c all chk (⟨some d, .binOp .eql t x y yt, ty, pos, af, g⟩ :: os) recs ⟨env, hp⟩ Q :=
 Walk.bin_int hg hd hx hy (fun w => ⟨_, by rw [binOp_eql]; rfl, fun _ => .bool _⟩) hn
theorem Walk.neI (hg : GH all env g pg) (hd : Nat.blt d c.n = true) (hx : opd env x = some (.d (.int k m))) (hy : opd env y = some (.d (.int k n)))
  (hn : Walk c all chk os (mkRec (pg ++ (opF x (.d (.int k m)) ++ opF y (.d (.int k n)))) [] [] ⟨some (d, .d (.bool (!decide (m = n)))), []⟩ :: recs) ⟨(d, .d (.bool (!decide (m = n)))) :: env, hp⟩ Q) :
  Walk c all chk (⟨some d, .binOp .neq t x y yt, ty, pos, af, g⟩ :: os) recs ⟨env, hp⟩ Q :=
 Walk.bin_int hg hd hx hy (fun w => ⟨_, by rw [binOp_neq]; rfl, fun _ => .bool _⟩) hn
theorem Walk.ltI (hg : GH all env g pg) (hd : Nat.blt d c.n = true) (hx : opd env x = some (.d (.int k m))) (hy : opd env y = some (.d (.int k n)))
  (hn : Walk c all chk os (mkRec (pg ++ (opF x (.d (.int k m)) ++ opF y (.d (.int k n)))) [] [] ⟨some (d, .d (.bool (decide (m < n)))), []⟩ :: recs) ⟨(d, .d (.bool (decide (m < n)))) :: env, hp⟩ Q) :
  Walk c all chk (⟨some d, .binOp .lss t x y yt, ty, pos, af, g⟩ :: os) recs ⟨env, hp⟩ Q :=
 Walk.bin_int hg hd hx hy (fun w => ⟨_, by rw [binOp_lss]; rfl, fun _ => .bool _⟩) hn
theorem Walk.leI (hg : GH all env g pg) (hd : Nat.blt d c.n = true) (hx : opd env x = some (.d (.int k m))) (hy : opd env y = some (.d (.int k n)))
  (hn : Walk c all chk os (mkRec (pg ++ (opF x (.d (.int k m)) ++ opF y (.d (.int k n)))) [] [] ⟨some (d, .d (.bool (decide (m ≤ n)))), []⟩ :: recs) ⟨(d, .d (.bool (decide (m ≤ n)))) :: env, hp⟩ Q) :
  Walk c all chk (⟨some d, .binOp .leq t x y yt, ty, pos, af, g⟩ :: os) recs ⟨env, hp⟩ Q :=
 Walk.bin_int hg hd hx hy (fun w => ⟨_, by rw [binOp_leq]; rfl, fun _ => .bool _⟩) hn
theorem Walk.gtI (hg : GH all env g pg) (hd : Nat.blt d c.n = true) (hx : opd env x = some (.d (.int k m))) (hy : opd env y = some (.d (.int k n)))
  (hn : Walk c all chk os (mkRec (pg ++ (opF x (.d (.int k m)) ++ opF y (.d (.int k n)))) [] [] ⟨some (d, .d (.bool (decide (n < m)))), []⟩ :: recs) ⟨(d, .d (.bool (decide (n < m)))) :: env, hp⟩ Q) :
  Walk c all chk (⟨some d, .binOp .gtr t x y yt, ty, pos, af, g⟩ :: os) recs ⟨env, hp⟩ Q :=
 Walk.bin_int hg hd hx hy (fun w => ⟨_, by rw [binOp_gtr]; rfl, fun _ => .bool _⟩) hn
theorem Walk.geI (hg : GH all env g pg) (hd : Nat.blt d c.n = true) (hx : opd env x = some (.d (.int k m))) (hy : opd env y = some (.d (.int k n)))
  (hn : Walk c all chk os (mkRec (pg ++ (opF x (.d (.int k m)) ++ opF y (.d (.int k n)))) [] [] ⟨some (d, .d (.bool (decide (n ≤ m)))), []⟩ :: recs) ⟨(d, .d (.bool (decide (n ≤ m)))) :: env, hp⟩ Q) :
  Walk c all chk (⟨some d, .binOp .geq t x y yt, ty, pos, af, g⟩ :: os) recs ⟨env, hp⟩ Q :=
 Walk.bin_int hg hd hx hy (fun w => ⟨_, by rw [binOp_geq]; rfl, fun _ => .bool _⟩) hn
theorem wrap_i64 {n : Int} (h : -9223372036854775808 ≤ n ∧ n ≤ 9223372036854775807) : IntKind.i64.wrap n = n := by
 have e1 : (2 ^ IntKind.i64.bits : Int) = 18446744073709551616 := by rfl
 have e2 : (2 ^ (IntKind.i64.bits - 1) : Int) = 9223372036854775808 := by rfl
 simp only [IntKind.wrap, e1, e2, IntKind.signed, Bool.true_and]
 obtain ⟨h1, h2⟩ := h
 by_cases hn : 0 ≤ n
 ·have hm : n % 18446744073709551616 = n := Int.emod_eq_of_lt hn (by omega)
  rw [hm, if_neg (by simp; omega)]
 ·have hm : n % 18446744073709551616 = n + 18446744073709551616 := by
   rw [← Int.add_emod_right]
   exact Int.emod_eq_of_lt (by omega) (by omega)
  rw [hm, if_pos (by simp; omega)]
  omega
theorem wrap_u8 (n : Int) : IntKind.u8.wrap n = n % 256 := by
 simp [IntKind.wrap, IntKind.signed, IntKind.bits]
def I64 (n : Int) : Prop := -9223372036854775808 ≤ n ∧ n ≤ 9223372036854775807
theorem Walk.addI (hg : GH all env g pg) (hd : Nat.blt d c.n = true) (hx : opd env x = some (.d (.int .i64 m))) (hy : opd env y = some (.d (.int .i64 n))) (hb : I64 (m + n))
  (hn : Walk c all chk os (mkRec (pg ++ (opF x (.d (.int .i64 m)) ++ opF y (.d (.int .i64 n)))) [] [] ⟨some (d, .d (.int .i64 (m + n))), []⟩ :: recs) ⟨(d, .d (.int .i64 (m + n))) :: env, hp⟩ Q) :
  Walk c all chk (⟨some d, .binOp .add t x y yt, ty, pos, af, g⟩ :: os) recs ⟨env, hp⟩ Q :=
 Walk.bin_int hg hd hx hy (fun w => ⟨_, by simp [binOp, Op.intArith, wrap_i64 hb], fun _ => .int _ _⟩) hn
theorem Walk.subI (hg : GH all env g pg) (hd : Nat.blt d c.n = true) (hx : opd env x = some (.d (.int .i64 m))) (hy : opd env y = some (.d (.int .i64 n))) (hb : I64 (m - n))
  (hn : Walk c all chk os (mkRec (pg ++ (opF x (.d (.int .i64 m)) ++ opF y (.d (.int .i64 n)))) [] [] ⟨some (d, .d (.int .i64 (m - n))), []⟩ :: recs) ⟨(d, .d (.int .i64 (m - n))) :: env, hp⟩ Q) :
  Walk c all chk (⟨some d, .binOp .sub t x y yt, ty, pos, af, g⟩ :: os) recs ⟨env, hp⟩ Q :=
 Walk.bin_int hg hd hx hy (fun w => ⟨_, by simp [binOp, Op.intArith, wrap_i64 hb], fun _ => .int _ _⟩) hn
theorem Walk.mulI (hg : GH all env g pg) (hd : Nat.blt d c.n = true) (hx : opd env x = some (.d (.int .i64 m))) (hy : opd env y = some (.d (.int .i64 n))) (hb : I64 (m * n))
  (hn : Walk c all chk os (mkRec (pg ++ (opF x (.d (.int .i64 m)) ++ opF y (.d (.int .i64 n)))) [] [] ⟨some (d, .d (.int .i64 (m * n))), []⟩ :: recs) ⟨(d, .d (.int .i64 (m * n))) :: env, hp⟩ Q) :
  Walk c all chk (⟨some d, .binOp .mul t x y yt, ty, pos, af, g⟩ :: os) recs ⟨env, hp⟩ Q :=
 Walk.bin_int hg hd hx hy (fun w => ⟨_, by simp [binOp, Op.intArith, wrap_i64 hb], fun _ => .int _ _⟩) hn
theorem Walk.addW (hg : GH all env g pg) (hd : Nat.blt d c.n = true) (hx : opd env x = some (.d (.int k m))) (hy : opd env y = some (.d (.int k n)))
  (hn : Walk c all chk os (mkRec (pg ++ (opF x (.d (.int k m)) ++ opF y (.d (.int k n)))) [] [] ⟨some (d, .d (.int k (k.wrap (m + n)))), []⟩ :: recs) ⟨(d, .d (.int k (k.wrap (m + n)))) :: env, hp⟩ Q) :
  Walk c all chk (⟨some d, .binOp .add t x y yt, ty, pos, af, g⟩ :: os) recs ⟨env, hp⟩ Q :=
 Walk.bin_int hg hd hx hy (fun w => ⟨_, by simp [binOp, Op.intArith], fun _ => .int _ _⟩) hn
theorem Walk.subW (hg : GH all env g pg) (hd : Nat.blt d c.n = true) (hx : opd env x = some (.d (.int k m))) (hy : opd env y = some (.d (.int k n)))
  (hn : Walk c all chk os (mkRec (pg ++ (opF x (.d (.int k m)) ++ opF y (.d (.int k n)))) [] [] ⟨some (d, .d (.int k (k.wrap (m - n)))), []⟩ :: recs) ⟨(d, .d (.int k (k.wrap (m - n)))) :: env, hp⟩ Q) :
  Walk c all chk (⟨some d, .binOp .sub t x y yt, ty, pos, af, g⟩ :: os) recs ⟨env, hp⟩ Q :=
 Walk.bin_int hg hd hx hy (fun w => ⟨_, by simp [binOp, Op.intArith], fun _ => .int _ _⟩) hn
theorem Walk.mulW (hg : GH all env g pg) (hd : Nat.blt d c.n = true) (hx : opd env x = some (.d (.int k m))) (hy : opd env y = some (.d (.int k n)))
  (hn : Walk c all chk os (mkRec (pg ++ (opF x (.d (.int k m)) ++ opF y (.d (.int k n)))) [] [] ⟨some (d, .d (.int k (k.wrap (m * n)))), []⟩ :: recs) ⟨(d, .d (.int k (k.wrap (m * n)))) :: env, hp⟩ Q) :
  Walk c all chk (⟨some d, .binOp .mul t x y yt, ty, pos, af, g⟩ :: os) recs ⟨env, hp⟩ Q :=
 Walk.bin_int hg hd hx hy (fun w => ⟨_, by simp [binOp, Op.intArith], fun _ => .int _ _⟩) hn
theorem Walk.quoI (hg : GH all env g pg) (hd : Nat.blt d c.n = true) (hx : opd env x = some (.d (.int .i64 m))) (hy : opd env y = some (.d (.int .i64 n))) (hb : 0 ≤ m ∧ m ≤ 9223372036854775807 ∧ 0 < n)
  (hn : Walk c all chk os (mkRec (pg ++ (opF x (.d (.int .i64 m)) ++ opF y (.d (.int .i64 n)))) [] [] ⟨some (d, .d (.int .i64 (m / n))), []⟩ :: recs) ⟨(d, .d (.int .i64 (m / n))) :: env, hp⟩ Q) :
  Walk c all chk (⟨some d, .binOp .quo t x y yt, ty, pos, af, g⟩ :: os) recs ⟨env, hp⟩ Q := by
 refine Walk.bin_int hg hd hx hy (fun w => ⟨.int .i64 (m / n), ?_, fun _ => .int _ _⟩) hn
 have h1 : n ≠ 0 := by omega
 have h2 : m.tdiv n = m / n := Int.tdiv_eq_ediv_of_nonneg hb.1
 have h3 : 0 ≤ m / n := Int.ediv_nonneg hb.1 (by omega)
 have h4 : m / n ≤ m := Int.ediv_le_self _ hb.1
 have h5 : I64 (m / n) := ⟨by omega, by omega⟩
 simp [binOp, Op.intDiv, h1, h2, wrap_i64 h5]
theorem Walk.remI (hg : GH all env g pg) (hd : Nat.blt d c.n = true) (hx : opd env x = some (.d (.int .i64 m))) (hy : opd env y = some (.d (.int .i64 n))) (hb : 0 ≤ m ∧ 0 < n)
  (hn : Walk c all chk os (mkRec (pg ++ (opF x (.d (.int .i64 m)) ++ opF y (.d (.int .i64 n)))) [] [] ⟨some (d, .d (.int .i64 (m % n))), []⟩ :: recs) ⟨(d, .d (.int .i64 (m % n))) :: env, hp⟩ Q) :
  Walk c all chk (⟨some d, .binOp .rem t x y yt, ty, pos, af, g⟩ :: os) recs ⟨env, hp⟩ Q := by
 refine Walk.bin_int hg hd hx hy (fun w => ⟨.int .i64 (m % n), ?_, fun _ => .int _ _⟩) hn
 have h1 : n ≠ 0 := by omega
 have h2 : m.tmod n = m % n := Int.tmod_eq_emod_of_nonneg hb.1
 simp [binOp, Op.intDiv, h1, h2]
theorem Walk.negI (hg : GH all env g pg) (hd : Nat.blt d c.n = true) (hx : opd env x = some (.d (.int .i64 m))) (hb : I64 (0 - m))
  (hn : Walk c all chk os (mkRec (pg ++ opF x (.d (.int .i64 m))) [] [] ⟨some (d, .d (.int .i64 (0 - m))), []⟩ :: recs) ⟨(d, .d (.int .i64 (0 - m))) :: env, hp⟩ Q) :
  Walk c all chk (⟨some d, .unOp .neg t x, ty, pos, af, g⟩ :: os) recs ⟨env, hp⟩ Q :=
 Walk.pure1 hg hd hx (fun a G T w h => ⟨.int .i64 (0 - m), by
  have := wrap_i64 hb
  simp only [execOp, h.int_eq, Op.unary, Op.intArith, this]
  rfl, .d (.int _ _)⟩) hn
theorem Walk.conv {k' : IntKind} (hs : (c.P.underlying t).isSome = true) (ht : c.P.underlying yt = some (.int k')) (hg : GH all env g pg) (hd : Nat.blt d c.n = true) (hx : opd env x = some (.d (.int k m)))
  (hn : Walk c all chk os (mkRec (pg ++ opF x (.d (.int k m))) [] [] ⟨some (d, .d (.int k' (k'.wrap m))), []⟩ :: recs) ⟨(d, .d (.int k' (k'.wrap m))) :: env, hp⟩ Q) :
  Walk c all chk (⟨some d, .convert t yt x, ty, pos, af, g⟩ :: os) recs ⟨env, hp⟩ Q :=
 Walk.pure1 hg hd hx (fun a G T w h => ⟨.int k' (k'.wrap m), by
  obtain ⟨u, hu⟩ := Option.isSome_iff_exists.1 hs
  simp only [execOp, h.int_eq, convert, Sem.run_bind, run_underlying hu, run_underlying ht, Result.andThen_ok]
  simp [Conv.intToInt], .d (.int _ _)⟩) hn
end ints
section
variable {t yt : TypeId} {x y : Operand}
theorem Walk.not {b : Bool} (hg : GH all env g pg) (hd : Nat.blt d c.n = true) (hx : opd env x = some (.d (.bool b)))
  (hn : Walk c all chk os (mkRec (pg ++ opF x (.d (.bool b))) [] [] ⟨some (d, .d (.bool (!b))), []⟩ :: recs) ⟨(d, .d (.bool (!b))) :: env, hp⟩ Q) :
  Walk c all chk (⟨some d, .unOp .not t x, ty, pos, af, g⟩ :: os) recs ⟨env, hp⟩ Q :=
 Walk.pure1 hg hd hx (fun a G T w h => ⟨.bool (!b), by simp [execOp, h.bool_eq, Op.unary], .d (.bool _)⟩) hn
theorem Walk.eqB {b b' : Bool} (ht : c.P.underlying t = some .bool) (hg : GH all env g pg) (hd : Nat.blt d c.n = true) (hx : opd env x = some (.d (.bool b))) (hy : opd env y = some (.d (.bool b')))
  (hn : Walk c all chk os (mkRec (pg ++ (opF x (.d (.bool b)) ++ opF y (.d (.bool b')))) [] [] ⟨some (d, .d (.bool (b == b'))), []⟩ :: recs) ⟨(d, .d (.bool (b == b'))) :: env, hp⟩ Q) :
  Walk c all chk (⟨some d, .binOp .eql t x y yt, ty, pos, af, g⟩ :: os) recs ⟨env, hp⟩ Q := by
 refine Walk.pure2 hg hd hx hy (fun a G T w h1 h2 => ⟨.bool (b == b'), ?_, .d (.bool _)⟩) hn
 simp only [execOp, h1.bool_eq, h2.bool_eq]
 simp only [Sem.run_bind, run_eqGuard_bool, Result.andThen_ok, run_eql_bool w t b b' ht, Sem.run_pure]
theorem Walk.neB {b b' : Bool} (ht : c.P.underlying t = some .bool) (hg : GH all env g pg) (hd : Nat.blt d c.n = true) (hx : opd env x = some (.d (.bool b))) (hy : opd env y = some (.d (.bool b')))
  (hn : Walk c all chk os (mkRec (pg ++ (opF x (.d (.bool b)) ++ opF y (.d (.bool b')))) [] [] ⟨some (d, .d (.bool (!(b == b')))), []⟩ :: recs) ⟨(d, .d (.bool (!(b == b')))) :: env, hp⟩ Q) :
  Walk c all chk (⟨some d, .binOp .neq t x y yt, ty, pos, af, g⟩ :: os) recs ⟨env, hp⟩ Q := by
 refine Walk.pure2 hg hd hx hy (fun a G T w h1 h2 => ⟨.bool (!(b == b')), ?_, .d (.bool _)⟩) hn
 simp only [execOp, h1.bool_eq, h2.bool_eq]
 simp only [Sem.run_bind, run_eqGuard_bool, Result.andThen_ok, run_neq_bool w t b b' ht, Sem.run_pure]
theorem toList_mk (l : List UInt8) : (ByteArray.mk l.toArray).toList = l := by
 simp [ByteArray.toList_eq]
theorem Walk.bin_str {op : BinOp} {l m : List UInt8} {r : D} (hg : GH all env g pg) (hd : Nat.blt d c.n = true) (hx : opd env x = some (.d (.str l))) (hy : opd env y = some (.d (.str m)))
  (h : ∀ w, ∃ v, (binOp op t (.string ⟨l.toArray⟩) (.string ⟨m.toArray⟩)).run c.P w = .ok v w ∧ ∀ F, RelD F w r v)
  (hn : Walk c all chk os (mkRec (pg ++ (opF x (.d (.str l)) ++ opF y (.d (.str m)))) [] [] ⟨some (d, .d r), []⟩ :: recs) ⟨(d, .d r) :: env, hp⟩ Q) :
  Walk c all chk (⟨some d, .binOp op t x y yt, ty, pos, af, g⟩ :: os) recs ⟨env, hp⟩ Q := by
 refine Walk.pure2 hg hd hx hy (fun a G T w h1 h2 => ?_) hn
 obtain ⟨v, hv, hr⟩ := h w
 refine ⟨v, ?_, .d (hr _)⟩
 simp only [execOp, h1.str_eq, h2.str_eq]
 simp only [Sem.run_bind, run_eqGuard_string, Result.andThen_ok, hv, Sem.run_pure]
end
end
end Go.Proofs.Ytadpcmcifbakoaa
