/-
  THE ABSTRACT WALK, part I: stores, slice literals, make, append.
-/
import Derived.Test.YtadpcmcifbakoaaAmH
import Derived.Laws.AppendOwn
namespace Go.Proofs.Ytadpcmcifbakoaa
open Go
set_option linter.unusedSimpArgs false
set_option linter.unusedVariables false
def AV.one : AV → Bool
 | .agg _ => false
 | .tup _ => false
 | .any => false
 | _ => true
theorem RelA.one {G : Gh} {T : TokF} {w : World} {x : AV} {v : Value} (h : RelA G T w x v) (h1 : x.one = true) : v.oneCell' = true := by
 cases h with
 | d h => cases h <;> rfl
 | gl h _ => cases h <;> rfl
 | gv hv _ => obtain ⟨a, c, rfl⟩ := hv; rfl
 | gt hv _ => obtain ⟨a, c, rfl⟩ := hv; rfl
 | ref _ _ => rfl
 | ms _ _ _ => rfl
 | mo _ _ _ _ => rfl
 | mapr _ _ => rfl
 | fn _ _ => rfl
 | nils => rfl
 | sn _ hn => obtain ⟨a, n, c, rfl⟩ := hn; rfl
 | agg _ _ => simp [AV.one] at h1
 | tup _ _ => simp [AV.one] at h1
 | any _ => simp [AV.one] at h1
def allOne : List AV → Bool
 | [] => true
 | x :: r => x.one && allOne r
theorem allOne_iff : ∀ {l : List AV}, allOne l = true → ∀ x, x ∈ l → x.one = true
 | y :: r, h, x, hx => by
  simp only [allOne, Bool.and_eq_true] at h
  rcases List.mem_cons.1 hx with rfl | hx
  ·exact h.1
  ·exact allOne_iff h.2 x hx
section
variable {c : Ctx}
theorem getH_cons {id i : Nat} {r : Option Res} {hp : Hp} : getH ((id, r) :: hp) i = if i = id then r else getH hp i := by
 simp only [getH]
 by_cases h : i = id
 ·subst h; simp
 ·have : Nat.beq id i = false := by
   cases hb : Nat.beq id i with
   | true => exact absurd (Nat.eq_of_beq_eq_true hb).symm h
   | false => rfl
  simp [this, h]
theorem R.setBox {G : Gh} {s : St} {a : Act} {w : World} (hr : R c G s a w) {id b : Nat} {cs cs' : List AV} {vs vs' : Array Value} {e : TypeId} (hb : getH s.hp id = some (.box cs)) (hl : G.loc id = [b])
  (hw : w.heap[b]? = some (.cells vs e (0, 0))) (hF : G.F b = 0) (hcs : PreR G (tokf s.hp) w cs' vs') :
  R c G { s with hp := (id, some (.box cs')) :: s.hp } a (w.setRow b vs') := by
 have htok : tokf ((id, some (.box cs')) :: s.hp) = tokf s.hp := by
  funext i
  unfold tokf
  rw [getH_cons]
  by_cases h : i = id
  ·subst h; rw [if_pos rfl, hb]
  ·rw [if_neg h]
 have hother : ∀ k, k ≠ b → (w.setRow b vs').heap[k]? = w.heap[k]? := fun k hk => setRow_other w b k vs' hk
 have hcell : ∀ b' o, o < G.F b' → o < G.F b' ∧ (w.setRow b vs').cell? ⟨b', o, none⟩ = w.cell? ⟨b', o, none⟩ := fun b' o ho => by
  have hne : b' ≠ b := fun e => by subst e; rw [hF] at ho; omega
  exact ⟨ho, cell_setRow_other w b vs' _ hne⟩
 have htl : ∀ i p, tokf s.hp i = some p → ∀ b', b' ∈ G.loc i → b' ≠ b := fun i p hp b' hb' e => by
  obtain ⟨n, k⟩ := p
  have h1 := tokf_some.1 hp
  have hne : i ≠ id := fun e' => by subst e'; rw [hb] at h1; cases h1
  subst e
  exact hr.disj i id (by rw [h1]; rfl) (by rw [hb]; rfl) hne b' hb' (by simp [hl])
 have hm : ∀ {x : AV} {v : Value}, RelA G (tokf s.hp) w x v → RelA G (tokf s.hp) (w.setRow b vs') x v := fun hx =>
  hx.mono hcell (fun _ _ => .inl rfl) (fun i _ p hp => ⟨hp, fun b' hb' => ⟨hother b' (htl i p hp b' hb'), rfl⟩⟩)
 have hbown := hr.new id (by rw [hb]; rfl) b (by simp [hl])
 refine ⟨hr.size, hr.defers, fun i v h => by rw [htok]; exact hm (hr.slots i v h), fun i r h => ?_, fun i j h1 h2 h3 => hr.disj i j ?_ ?_ h3, fun i h => hr.new i ?_,
  hr.frm.trans (own1 := [b]) ⟨rfl, rfl, rfl, by simp, fun k _ hk => ⟨hother k (fun e => hk (by simp [e])), rfl⟩, hcell⟩ (fun k hk => by simp only [List.mem_singleton] at hk; subst hk; exact hbown),
  fun k hk => hr.top k (by simpa using hk), fun i l hl' => ⟨(hr.kept i l hl').1, ?_⟩⟩
 ·rw [htok]
  rw [getH_cons] at h
  by_cases hi : i = id
  ·subst hi
   rw [if_pos rfl] at h
   cases h
   exact ⟨b, vs', e, hl, setRow_heap w b vs vs' e _ hw, hcs.size, hF, fun j hj hv => hm (hcs.rel j hj hv)⟩
  ·rw [if_neg hi] at h
   have hne : ∀ b', b' ∈ G.loc i → b' ≠ b := fun b' hb' e => by
    subst e
    exact hr.disj i id (by rw [h]; rfl) (by rw [hb]; rfl) hi b' hb' (by simp [hl])
   have hh := hr.heap i r h
   cases r with
   | box cs2 =>
    obtain ⟨b2, vs2, e2, h1, h2, h3, h4, h5⟩ := hh
    exact ⟨b2, vs2, e2, h1, (hother b2 (hne b2 (by simp [h1]))).trans h2, h3, h4, fun j hj hv => hm (h5 j hj hv)⟩
   | tok n k => exact fun b2 h1 => by simpa using hh b2 h1
   | map ks =>
    obtain ⟨b2, es, cl, h1, h2, h3⟩ := hh
    exact ⟨b2, es, cl, h1, (hother b2 (hne b2 (by simp [h1]))).trans h2, h3⟩
   | tree cs2 => exact tree_mono hh rfl (fun b' hb' => ⟨hother b' (hne b' hb'), rfl⟩) (by simp) (fun _ _ _ => hm)
 ·rw [getH_cons] at h1
  split at h1
  ·rename_i e; subst e; rw [hb]; rfl
  ·exact h1
 ·rw [getH_cons] at h2
  split at h2
  ·rename_i e; subst e; rw [hb]; rfl
  ·exact h2
 ·rw [getH_cons] at h
  split at h
  ·rename_i e; subst e; rw [hb]; rfl
  ·exact h
 ·refine ⟨?_, by show tokf ((id, some (.box cs')) :: s.hp) i = none; rw [htok]; exact (hr.kept i l hl').2.2⟩
  show (getH ((id, some (.box cs')) :: s.hp) i).isSome
  rw [getH_cons]
  split
  ·rfl
  ·exact (hr.kept i l hl').2.1
end
section
variable {c : Ctx} {all : Array Oper} {chk : List Rec → Prop} {os : List Oper} {recs : List Rec} {env : Env} {hp : Hp} {Q : St → Prop}
variable {d ty : Nat} {pos : String} {af : Array Edge} {g : Option (Nat × Bool)} {pg : List (Nat × AV)}
variable {t yt : TypeId} {x y : Operand}
theorem Walk.store {id off k : Nat} {b : Bool} {v : AV} {cs vs cs' : List AV} (ht : TyS c.P t k b) (hg : GH all env g pg) (hx : opd env x = some (.ref id off)) (hy : opd env y = some v)
  (hb : getH hp id = some (.box cs)) (hv : cellsA v = some vs) (hk : vs.length = k) (h1 : allOne vs = true) (hne : vs ≠ []) (hput : putC cs off vs = some cs')
  (hn : Walk c all chk os (mkRec (pg ++ (opF x (.ref id off) ++ opF y v)) [(id, .box cs)] [] ⟨none, [(id, some (.box cs'))]⟩ :: recs) ⟨env, (id, some (.box cs')) :: hp⟩ Q) :
  Walk c all chk (⟨none, .store t x y, ty, pos, af, g⟩ :: os) recs ⟨env, hp⟩ Q := by
 refine ⟨pg ++ (opF x (.ref id off) ++ opF y v), [(id, .box cs)], [], _, ?_, facts_append hg.facts (facts_append (opF_holds hx) (opF_holds hy)), hh1 hb, by simp, hn⟩
 intro s a w hrel hp' hh _ K Q' hK
 obtain ⟨G, hr⟩ := hrel
 have hbx := hh1' hh
 have e1 := hr.opd (opd_facts hx (fun p hm => hp' p (by simp [hm])))
 have e2 := hr.opd (opd_facts hy (fun p hm => hp' p (by simp [hm])))
 obtain ⟨bl, hl, he⟩ := e1.ref_eq
 obtain ⟨b', us, e, h2, h3, h4, h5, h6⟩ := hr.heap id _ hbx
 obtain rfl := head_one hl.1 h2
 have hvr := cellsA_rel e2 hv
 obtain ⟨p1, p2, p3⟩ := putC_spec hput
 have p2' := p2.resolve_left hne
 have hsz := hvr.size
 have hall : PreR G (tokf s.hp) w cs us := ⟨h4, h6⟩
 let vl := (a.eval y).cells.toList
 have hvl : vl.length = vs.length := by simp [vl, hsz]
 have hst := run_storeCells_at c.P bl off e vl 0 us w h3 (by omega) (fun u hu => by
  obtain ⟨i, hi, rfl⟩ := List.getElem_of_mem hu
  have hi' : i < vs.length := by omega
  have := hvr.rel i hi' (by simpa [vl] using hi)
  simpa [vl] using this.one (allOne_iff h1 _ (List.getElem_mem hi')))
 simp only [Nat.add_zero] at hst
 have hrow : PreR G (tokf s.hp) w cs' (us.toList.take off ++ vl ++ us.toList.drop (off + vl.length)).toArray := by
  refine hall.put hvr hput ?_ (fun i => ?_)
  ·simp only [List.size_toArray, List.length_append, List.length_take, List.length_drop, Array.length_toList]; omega
  ·simp only [List.getElem?_toArray]
   rw [List.append_assoc, List.getElem?_append]
   simp only [List.length_take, Array.length_toList]
   by_cases hi : i < off
   ·rw [if_pos (by omega), if_neg (by omega)]
    simp [hi]
   ·rw [if_neg (by omega), List.getElem?_append]
    have hm : min off us.size = off := by omega
    rw [hm]
    by_cases hi2 : i < off + vl.length
    ·rw [if_pos (by omega), if_pos (by omega)]
     simp [vl]
    ·rw [if_neg (by omega), if_neg (by omega)]
     rw [List.getElem?_drop, show off + vl.length + (i - off - vl.length) = i by omega]
     simp
 unfold wpO
 rw [if_pos (hg.gf.wanted hr (fun p hm => hp' p (by simp [hm])))]
 unfold Oper.wp
 have hrun : (execOp a.eval ⟨none, .store t x y, ty, pos, af, g⟩).run c.P w = .ok .skip (w.setRow bl (us.toList.take off ++ vl ++ us.toList.drop (off + vl.length)).toArray) := by
  have hsz2 : (a.eval y).cells.size = k := by omega
  simp only [execOp, he, Instr.storeAt, Instr.sureAddr, Sem.run_bind, Sem.run_pure, Result.andThen_ok, storeVar, ht.run_size]
  simp only [hsz2, ne_eq, not_true_eq_false, if_false]
  have hst' := hst
  simp only [vl] at hst'
  simp only [Result.andThen_ok, hst', vl]
 rw [hrun, Oper.upon_skip]
 exact hK _ _ ⟨G, (hr.setBox hbx h2 h3 h5 hrow).putNone⟩
def AV.toD : AV → Option D
 | .d x => some x
 | .gl _ xs => some (.sl xs)
 | .nils => some (.sl [])
 | .sn xs => some (.sl xs)
 | _ => none
theorem RelA.toD {G : Gh} {T : TokF} {w : World} {x : AV} {v : Value} {y : D} (h : RelA G T w x v) (hy : x.toD = some y) : RelD G.F w y v := by
 cases h with
 | d h => simp only [AV.toD, Option.some.injEq] at hy; subst hy; exact h
 | gl h _ => simp only [AV.toD, Option.some.injEq] at hy; subst hy; exact h
 | nils => simp only [AV.toD, Option.some.injEq] at hy; subst hy; exact .nil
 | sn h _ => simp only [AV.toD, Option.some.injEq] at hy; subst hy; exact h
 | _ => simp [AV.toD] at hy
def toDL : List AV → Option (List D)
 | [] => some []
 | x :: r => match x.toD with
  | some y => match toDL r with | some l => some (y :: l) | none => none
  | none => none
theorem toDL_spec : ∀ {l : List AV} {m : List D}, toDL l = some m → m.length = l.length ∧ ∀ i (h1 : i < l.length) (h2 : i < m.length), (l[i]).toD = some m[i]
 | [], m, h => by simp only [toDL, Option.some.injEq] at h; subst h; exact ⟨rfl, fun i h => by simp at h⟩
 | x :: r, m, h => by
  simp only [toDL] at h
  cases hx : x.toD with
  | none => simp [hx] at h
  | some y =>
   simp only [hx] at h
   cases hr : toDL r with
   | none => simp [hr] at h
   | some l =>
    simp only [hr, Option.some.injEq] at h
    subst h
    obtain ⟨h1, h2⟩ := toDL_spec hr
    refine ⟨by simp [h1], fun i hi hj => ?_⟩
    cases i with
    | zero => simpa using hx
    | succ i => simpa using h2 i (by simpa using hi) (by simpa using hj)
def elemD (v : AV) : Option (List D) := match cellsA v with
 | some cs => toDL cs
 | none => none
def elemsD : List AV → Option (List (List D))
 | [] => some []
 | x :: r => match elemD x with
  | some y => match elemsD r with | some l => some (y :: l) | none => none
  | none => none
def allLen (k : Nat) : List (List D) → Bool
 | [] => true
 | x :: r => Nat.beq x.length k && allLen k r
theorem allLen_iff {k : Nat} : ∀ {l : List (List D)}, allLen k l = true → ∀ x, x ∈ l → x.length = k
 | y :: r, h, x, hx => by
  simp only [allLen, Bool.and_eq_true] at h
  rcases List.mem_cons.1 hx with rfl | hx
  ·exact Nat.eq_of_beq_eq_true h.1
  ·exact allLen_iff h.2 x hx
theorem flat_get {α : Type} {k : Nat} : ∀ {ls : List (List α)}, (∀ x, x ∈ ls → x.length = k) → ∀ i (hi : i < ls.length) j, j < k → (ls.flatten)[i * k + j]? = ls[i][j]?
 | [], _, i, hi, _, _ => by simp at hi
 | x :: r, hk, i, hi, j, hj => by
  have hx := hk x (by simp)
  cases i with
  | zero => simp [List.getElem?_append, hx, hj]
  | succ i =>
   have ih := flat_get (fun y hy => hk y (List.mem_cons_of_mem _ hy)) i (by simpa using hi) j hj
   simp only [List.flatten_cons, List.getElem_cons_succ]
   rw [List.getElem?_append_right (by rw [hx, Nat.add_mul]; omega), hx, ← ih]
   congr 1
   rw [Nat.add_mul]; omega
theorem flat_len {α : Type} {k : Nat} : ∀ {ls : List (List α)}, (∀ x, x ∈ ls → x.length = k) → ls.flatten.length = ls.length * k
 | [], _ => by simp
 | x :: r, hk => by
  simp only [List.flatten_cons, List.length_append, List.length_cons, flat_len (fun y hy => hk y (List.mem_cons_of_mem _ hy)), hk x (by simp), Nat.add_mul]
  omega
end
end Go.Proofs.Ytadpcmcifbakoaa
