/-
  THE ABSTRACT WALK, part E: the operations that read memory, and what is asked of the types.
-/
import Derived.Test.YtadpcmcifbakoaaAmD
import Derived.Laws.Cells
namespace Go.Proofs.Ytadpcmcifbakoaa
open Go
set_option linter.unusedSimpArgs false
set_option linter.unusedVariables false
def aggB : TypeDesc → Bool
 | .struct _ => true
 | .array _ _ => true
 | _ => false
structure TyS (P : Program) (t k : Nat) (agg : Bool) : Prop where
 size : ∃ i, P.info? t = some i ∧ i.size = k
 agg : ∃ u, P.underlying t = some u ∧ aggB u = agg
structure SlT (P : Program) (t e k bytes : Nat) : Prop where
 und : P.underlying t = some (.slice e)
 inf : ∃ i, P.info? e = some i ∧ i.size = k ∧ i.bytes = bytes
structure Fd (P : Program) (t f o : Nat) : Prop where
 out : ∃ fs fd, P.underlying t = some (.struct fs) ∧ fs[f]? = some fd ∧ fd.offset = o ∧ ∃ i, P.info? fd.type = some i ∧ i.size ≠ 0
section
variable {P : Program} {w : World} {t k e y : Nat} {b : Bool}
theorem run_ti {i : TypeInfo} (h : P.info? t = some i) : (typeInfo t).run P w = .ok i w := run_typeInfo w h
theorem TyS.run_size (h : TyS P t k b) : (sizeOf t).run P w = .ok k w := by
 obtain ⟨i, h1, h2⟩ := h.size
 simp [sizeOf, run_ti h1, h2]
theorem TyS.run_agg (h : TyS P t k b) : (isAgg t).run P w = .ok b w := by
 obtain ⟨u, h1, h2⟩ := h.agg
 simp only [isAgg, Sem.run_bind, run_underlying h1, Result.andThen_ok]
 cases u <;> simp only [aggB] at h2 <;> subst h2 <;> rfl
theorem SlT.run_size (h : SlT P t e k y) : (sizeOf e).run P w = .ok k w := by
 obtain ⟨i, h1, h2, h3⟩ := h.inf
 simp [sizeOf, run_ti h1, h2]
theorem add_off (b o n : Nat) : (Addr.mk b o none).add n = ⟨b, o + n, none⟩ := by
 unfold Addr.add
 split
 ·rename_i h; subst h; rfl
 ·rfl
theorem run_loadVar_one (h : TyS P t k false) {b o : Nat} {v : Value} (hc : w.cell? ⟨b, o, none⟩ = some v) : (loadVar t ⟨b, o, none⟩).run P w = .ok v w := by
 simp only [loadVar, Sem.run_bind, h.run_agg, Result.andThen_ok]
 simp [hc]
theorem run_loadVar_agg (h : TyS P t k true) {b o : Nat} {cs : List Value} (hl : cs.length = k) (hc : ∀ j v, cs[j]? = some v → w.cell? ⟨b, o + j, none⟩ = some v) :
  (loadVar t ⟨b, o, none⟩).run P w = .ok (.agg cs.toArray) w := by
 have := run_loadCells_list (P := P) (w := w) ⟨b, o, none⟩ cs (fun j v hj => by rw [add_off]; exact hc j v hj)
 simp only [loadVar, Sem.run_bind, h.run_agg, Result.andThen_ok, if_true, h.run_size, ← hl, this]
 rfl
end
def cutC {α : Type} : List α → Nat → Nat → Option (List α)
 | _, _, 0 => some []
 | [], _, _ + 1 => none
 | x :: r, 0, k + 1 => match cutC r 0 k with | some l => some (x :: l) | none => none
 | _ :: r, o + 1, k + 1 => cutC r o (k + 1)
theorem cutC_spec {α : Type} : ∀ {cs : List α} {o k : Nat} {l : List α}, cutC cs o k = some l → l.length = k ∧ ∀ i, i < k → l[i]? = cs[o + i]?
 | cs, o, 0, l, h => by cases cs <;> simp only [cutC, Option.some.injEq] at h <;> subst h <;> exact ⟨rfl, fun i hi => by omega⟩
 | [], o, k + 1, l, h => by simp [cutC] at h
 | x :: r, 0, k + 1, l, h => by
  simp only [cutC] at h
  cases hr : cutC r 0 k with
  | none => simp [hr] at h
  | some l' =>
   simp only [hr, Option.some.injEq] at h
   subst h
   obtain ⟨h1, h2⟩ := cutC_spec hr
   refine ⟨by simp [h1], fun i hi => ?_⟩
   cases i with
   | zero => simp
   | succ i =>
    have := h2 i (by omega)
    simp only [Nat.zero_add] at this ⊢
    simpa using this
 | x :: r, o + 1, k + 1, l, h => by
  simp only [cutC] at h
  obtain ⟨h1, h2⟩ := cutC_spec h
  refine ⟨h1, fun i hi => ?_⟩
  rw [h2 i hi, show o + 1 + i = (o + i) + 1 by omega]
  simp
def mapD : List D → Option (List AV)
 | [] => some []
 | x :: r => match mapD r with | some l => some (.d x :: l) | none => none
theorem mapD_eq : ∀ {l : List D} {r : List AV}, mapD l = some r → r = l.map .d
 | [], r, h => by simp only [mapD, Option.some.injEq] at h; subst h; rfl
 | x :: l, r, h => by
  simp only [mapD] at h
  cases hl : mapD l with
  | none => simp [hl] at h
  | some l' => simp only [hl, Option.some.injEq] at h; subst h; rw [mapD_eq hl]; rfl
theorem mapD_ok : ∀ l : List D, mapD l = some (l.map .d)
 | [] => rfl
 | x :: l => by simp only [mapD, mapD_ok l]; rfl
section
variable {c : Ctx} {all : Array Oper} {chk : List Rec → Prop} {os : List Oper} {recs : List Rec} {env : Env} {hp : Hp} {Q : St → Prop}
variable {d ty : Nat} {pos : String} {af : Array Edge} {g : Option (Nat × Bool)} {pg : List (Nat × AV)}
theorem Walk.read1 {op : Op} {x : Operand} {vx v : AV} {prh : List (Nat × Res)} (hg : GH all env g pg) (hd : Nat.blt d c.n = true) (hx : opd env x = some vx)
  (hh : ∀ p, p ∈ prh → getH hp p.1 = some p.2)
  (h : ∀ (a : Act) (G : Gh) (s : St) (w : World), R c G s a w → (∀ p, p ∈ prh → getH s.hp p.1 = some p.2) → RelA G (tokf s.hp) w vx (a.eval x) →
   ∃ y, (execOp a.eval ⟨some d, op, ty, pos, af, g⟩).run c.P w = .ok (.value y) w ∧ RelA G (tokf s.hp) w v y)
  (hn : Walk c all chk os (mkRec (pg ++ opF x vx) prh [] ⟨some (d, v), []⟩ :: recs) ⟨(d, v) :: env, hp⟩ Q) :
  Walk c all chk (⟨some d, op, ty, pos, af, g⟩ :: os) recs ⟨env, hp⟩ Q := by
 refine ⟨pg ++ opF x vx, prh, [], _, LRule.pure rfl hg.gf hd (fun G s' a w hr hp' hh' => ?_), facts_append hg.facts (opF_holds hx), hh, by simp, hn⟩
 exact h a G s' w hr hh' (hr.opd (opd_facts hx hp'))
theorem Walk.read2 {op : Op} {x y : Operand} {vx vy v : AV} {prh : List (Nat × Res)} (hg : GH all env g pg) (hd : Nat.blt d c.n = true) (hx : opd env x = some vx) (hy : opd env y = some vy)
  (hh : ∀ p, p ∈ prh → getH hp p.1 = some p.2)
  (h : ∀ (a : Act) (G : Gh) (s : St) (w : World), R c G s a w → (∀ p, p ∈ prh → getH s.hp p.1 = some p.2) → RelA G (tokf s.hp) w vx (a.eval x) → RelA G (tokf s.hp) w vy (a.eval y) →
   ∃ z, (execOp a.eval ⟨some d, op, ty, pos, af, g⟩).run c.P w = .ok (.value z) w ∧ RelA G (tokf s.hp) w v z)
  (hn : Walk c all chk os (mkRec (pg ++ (opF x vx ++ opF y vy)) prh [] ⟨some (d, v), []⟩ :: recs) ⟨(d, v) :: env, hp⟩ Q) :
  Walk c all chk (⟨some d, op, ty, pos, af, g⟩ :: os) recs ⟨env, hp⟩ Q := by
 refine ⟨pg ++ (opF x vx ++ opF y vy), prh, [], _, LRule.pure rfl hg.gf hd (fun G s' a w hr hp' hh' => ?_),
  facts_append hg.facts (facts_append (opF_holds hx) (opF_holds hy)), hh, by simp, hn⟩
 exact h a G s' w hr hh' (hr.opd (opd_facts hx (fun p hm => hp' p (by simp [hm])))) (hr.opd (opd_facts hy (fun p hm => hp' p (by simp [hm]))))
theorem hh1 {id : Nat} {r : Res} (h : getH hp id = some r) : ∀ p, p ∈ [(id, r)] → getH hp p.1 = some p.2 := fun p hp' => by
 simp only [List.mem_singleton] at hp'; subst hp'; exact h
theorem hh1' {s : St} {id : Nat} {r : Res} (h : ∀ p, p ∈ [(id, r)] → getH s.hp p.1 = some p.2) : getH s.hp id = some r := h (id, r) (by simp)
theorem RelA.ref_eq {G : Gh} {T : TokF} {w : World} {id off : Nat} {v : Value} (h : RelA G T w (.ref id off) v) : ∃ b, ((G.loc id).head? = some b ∧ T id = none) ∧ v = .pointer (some ⟨b, off, none⟩) := by
 cases h with | ref h hT => exact ⟨_, ⟨h, hT⟩, rfl⟩
theorem RelA.ms_eq {G : Gh} {T : TokF} {w : World} {id n : Nat} {v : Value} (h : RelA G T w (.ms id n) v) : ∃ b cap, ((G.loc id).head? = some b ∧ T id = none) ∧ v = .slice (some ⟨b, 0, none⟩) n cap ∧ n ≤ cap := by
 cases h with | ms h hT hcap => exact ⟨_, _, ⟨h, hT⟩, rfl, hcap⟩
theorem RelA.tup_eq {G : Gh} {T : TokF} {w : World} {vs : List AV} {v : Value} (h : RelA G T w (.tup vs) v) :
  ∃ us : Array Value, v = .tuple us ∧ us.size = vs.length ∧ ∀ i (hi : i < vs.length) (hv : i < us.size), RelA G T w vs[i] us[i] := by
 cases h with | tup hn h => exact ⟨_, rfl, hn, h⟩
theorem RelA.agg_eq {G : Gh} {T : TokF} {w : World} {vs : List AV} {v : Value} (h : RelA G T w (.agg vs) v) :
  ∃ us : Array Value, v = .agg us ∧ us.size = vs.length ∧ ∀ i (hi : i < vs.length) (hv : i < us.size), RelA G T w vs[i] us[i] := by
 cases h with | agg hn h => exact ⟨_, rfl, hn, h⟩
section loads
variable {t k : Nat} {x : Operand} {id off : Nat}
theorem Walk.loadB {cs : List AV} {v : AV} (ht : TyS c.P t k false) (hg : GH all env g pg) (hd : Nat.blt d c.n = true) (hx : opd env x = some (.ref id off))
  (hb : getH hp id = some (.box cs)) (hv : cs[off]? = some v)
  (hn : Walk c all chk os (mkRec (pg ++ opF x (.ref id off)) [(id, .box cs)] [] ⟨some (d, v), []⟩ :: recs) ⟨(d, v) :: env, hp⟩ Q) :
  Walk c all chk (⟨some d, .load t x, ty, pos, af, g⟩ :: os) recs ⟨env, hp⟩ Q := by
 refine Walk.read1 hg hd hx (hh1 hb) (fun a G s w hr hh h1 => ?_) hn
 obtain ⟨b, hl, he⟩ := h1.ref_eq
 obtain ⟨b', vs, e, h2, h3, h4, h5, h6⟩ := hr.heap id _ (hh1' hh)
 obtain rfl := head_one hl.1 h2
 obtain ⟨hlt, hv'⟩ := List.getElem?_eq_some_iff.1 hv
 have hlv : off < vs.size := by omega
 refine ⟨vs[off], ?_, ?_⟩
 ·have hcell : w.cell? ⟨b, off, none⟩ = some vs[off] := by simp [World.cell?, h3, hlv]
  simp only [execOp, he, Instr.loadAt, Instr.sureAddr, Sem.run_bind, Sem.run_pure, Result.andThen_ok, run_loadVar_one ht hcell]
 ·have := h6 off hlt hlv
  rw [hv'] at this
  exact this
theorem Walk.loadBA {cs r : List AV} (ht : TyS c.P t k true) (hg : GH all env g pg) (hd : Nat.blt d c.n = true) (hx : opd env x = some (.ref id off))
  (hb : getH hp id = some (.box cs)) (hv : cutC cs off k = some r)
  (hn : Walk c all chk os (mkRec (pg ++ opF x (.ref id off)) [(id, .box cs)] [] ⟨some (d, .agg r), []⟩ :: recs) ⟨(d, .agg r) :: env, hp⟩ Q) :
  Walk c all chk (⟨some d, .load t x, ty, pos, af, g⟩ :: os) recs ⟨env, hp⟩ Q := by
 refine Walk.read1 hg hd hx (hh1 hb) (fun a G s w hr hh h1 => ?_) hn
 obtain ⟨b, hl, he⟩ := h1.ref_eq
 obtain ⟨b', vs, e, h2, h3, h4, h5, h6⟩ := hr.heap id _ (hh1' hh)
 obtain rfl := head_one hl.1 h2
 obtain ⟨hlen, hget⟩ := cutC_spec hv
 have hbd : ∀ i, i < k → off + i < cs.length := fun i hi => by
  have := hget i hi
  rw [List.getElem?_eq_getElem (by omega)] at this
  rcases Nat.lt_or_ge (off + i) cs.length with h | h
  ·exact h
  ·rw [List.getElem?_eq_none h] at this; cases this
 let l : List Value := (List.range k).map fun i => vs.getD (off + i) undef
 refine ⟨.agg l.toArray, ?_, ?_⟩
 ·have hcell : ∀ j v, l[j]? = some v → w.cell? ⟨b, off + j, none⟩ = some v := fun j v hj => by
   simp only [l, List.getElem?_map, Option.map_eq_some_iff] at hj
   obtain ⟨i, hi, rfl⟩ := hj
   obtain ⟨hi1, rfl⟩ := List.getElem?_eq_some_iff.1 hi
   simp only [List.length_range] at hi1
   have := hbd j hi1
   simp [World.cell?, h3, List.getElem_range, show off + j < vs.size by omega]
  simp only [execOp, he, Instr.loadAt, Instr.sureAddr, Sem.run_bind, Sem.run_pure, Result.andThen_ok, run_loadVar_agg ht (by simp [l]) hcell]
 ·refine .agg (by simp [l, hlen]) (fun i hi hv' => ?_)
  have hik : i < k := by omega
  have h7 := hbd i hik
  have h8 : r[i] = cs[off + i] := by
   have := hget i hik
   rw [List.getElem?_eq_getElem hi, List.getElem?_eq_getElem h7] at this
   exact Option.some.inj this
  rw [h8]
  have := h6 (off + i) h7 (by omega)
  simpa [l, show off + i < vs.size by omega] using this
theorem RelD.ptr_cells {F : Nat → Nat} {w : World} {cs : List D} {off : Nat} {v : Value} (h : RelD F w (.ptr cs off) v) :
  ∃ b o, v = .pointer (some ⟨b, o + off, none⟩) ∧ ∀ n (hn : n < cs.length), ∃ u, o + n < F b ∧ w.cell? ⟨b, o + n, none⟩ = some u ∧ RelD F w cs[n] u := by
 cases h with
 | ptr _ b o _ cf hc hr => exact ⟨b, o, rfl, fun n hn => ⟨cf n, (hc n hn).1, (hc n hn).2, hr n hn⟩⟩
theorem RelD.ptr_inv {F : Nat → Nat} {w : World} {cs : List D} {off : Nat} {v : Value} (h : RelD F w (.ptr cs off) v) :
  ∃ (b o : Nat) (cf : Nat → Value), v = .pointer (some ⟨b, o + off, none⟩) ∧ (∀ n, n < cs.length → o + n < F b ∧ w.cell? ⟨b, o + n, none⟩ = some (cf n)) ∧ ∀ n (hn : n < cs.length), RelD F w cs[n] (cf n) := by
 cases h with
 | ptr _ b o _ cf hc hr => exact ⟨b, o, cf, rfl, hc, hr⟩
theorem RelA.d_inv {G : Gh} {T : TokF} {w : World} {x : D} {v : Value} (h : RelA G T w (.d x) v) : RelD G.F w x v := by
 cases h with | d h => exact h
theorem Walk.loadP {cs : List D} {v : D} (ht : TyS c.P t k false) (hg : GH all env g pg) (hd : Nat.blt d c.n = true) (hx : opd env x = some (.d (.ptr cs off)))
  (hv : cs[off]? = some v)
  (hn : Walk c all chk os (mkRec (pg ++ opF x (.d (.ptr cs off))) [] [] ⟨some (d, .d v), []⟩ :: recs) ⟨(d, .d v) :: env, hp⟩ Q) :
  Walk c all chk (⟨some d, .load t x, ty, pos, af, g⟩ :: os) recs ⟨env, hp⟩ Q := by
 refine Walk.read1 hg hd hx (by simp) (fun a G s w hr hh h1 => ?_) hn
 obtain ⟨hlt, hv'⟩ := List.getElem?_eq_some_iff.1 hv
 cases h1 with
 | d h1 =>
  obtain ⟨b, o, he, hc⟩ := h1.ptr_cells
  obtain ⟨u, h2, h3, h4⟩ := hc off hlt
  refine ⟨u, ?_, .d (hv' ▸ h4)⟩
  simp only [execOp, he, Instr.loadAt, Instr.sureAddr, Sem.run_bind, Sem.run_pure, Result.andThen_ok, run_loadVar_one ht h3]
theorem Walk.loadPA {cs r : List D} {r' : List AV} (ht : TyS c.P t k true) (hg : GH all env g pg) (hd : Nat.blt d c.n = true) (hx : opd env x = some (.d (.ptr cs off)))
  (hv : cutC cs off k = some r) (hm : mapD r = some r')
  (hn : Walk c all chk os (mkRec (pg ++ opF x (.d (.ptr cs off))) [] [] ⟨some (d, .agg r'), []⟩ :: recs) ⟨(d, .agg r') :: env, hp⟩ Q) :
  Walk c all chk (⟨some d, .load t x, ty, pos, af, g⟩ :: os) recs ⟨env, hp⟩ Q := by
 have := mapD_eq hm
 subst this
 refine Walk.read1 hg hd hx (by simp) (fun a G s w hr hh h1 => ?_) hn
 obtain ⟨hlen, hget⟩ := cutC_spec hv
 have hbd : ∀ i, i < k → off + i < cs.length := fun i hi => by
  have := hget i hi
  rw [List.getElem?_eq_getElem (by omega)] at this
  rcases Nat.lt_or_ge (off + i) cs.length with h | h
  ·exact h
  ·rw [List.getElem?_eq_none h] at this; cases this
 cases h1 with
 | d h1 =>
  obtain ⟨b, o, he, hc⟩ := h1.ptr_cells
  let l : List Value := (List.range k).map fun i => (w.cell? ⟨b, o + (off + i), none⟩).getD undef
  refine ⟨.agg l.toArray, ?_, ?_⟩
  ·have hcell : ∀ j v, l[j]? = some v → w.cell? ⟨b, o + off + j, none⟩ = some v := fun j v hj => by
    simp only [l, List.getElem?_map, Option.map_eq_some_iff] at hj
    obtain ⟨i, hi, rfl⟩ := hj
    obtain ⟨hi1, rfl⟩ := List.getElem?_eq_some_iff.1 hi
    simp only [List.length_range] at hi1
    obtain ⟨u, h2, h3, h4⟩ := hc (off + j) (hbd j hi1)
    rw [List.getElem_range, Nat.add_assoc, h3]; rfl
   simp only [execOp, he, Instr.loadAt, Instr.sureAddr, Sem.run_bind, Sem.run_pure, Result.andThen_ok, run_loadVar_agg ht (by simp [l]) hcell]
  ·refine .agg (by simp [l, hlen]) (fun i hi hv' => ?_)
   simp only [List.length_map] at hi
   have hik : i < k := by omega
   have h7 := hbd i hik
   have h8 : r[i] = cs[off + i] := by
    have := hget i hik
    rw [List.getElem?_eq_getElem hi, List.getElem?_eq_getElem h7] at this
    exact Option.some.inj this
   obtain ⟨u, h2, h3, h4⟩ := hc (off + i) h7
   simp only [List.getElem_map, l, List.getElem_toArray, List.getElem_range, h3, Option.getD_some, h8]
   exact .d h4
end loads
section addrs
variable {t : Nat} {x y : Operand} {id off : Nat}
theorem Fd.run {P : Program} {t f o b off : Nat} {w : World} (h : Fd P t f o) : (Instr.fieldAt t (.pointer (some ⟨b, off, none⟩)) f).run P w = .ok (.pointer (some ⟨b, off + o, none⟩)) w := by
 obtain ⟨fs, fd, h1, h2, h3, i, h4, h5⟩ := h.out
 simp only [Instr.fieldAt, Sem.run_bind, run_underlying h1, Result.andThen_ok, h2, Instr.sureAddr, Sem.run_pure, fieldPlace]
 simp [sizeOf, run_ti h4, h5, add_off, h3]
theorem Walk.fieldB {f o : Nat} (ht : Fd c.P t f o) (hg : GH all env g pg) (hd : Nat.blt d c.n = true) (hx : opd env x = some (.ref id off))
  (hn : Walk c all chk os (mkRec (pg ++ opF x (.ref id off)) [] [] ⟨some (d, .ref id (off + o)), []⟩ :: recs) ⟨(d, .ref id (off + o)) :: env, hp⟩ Q) :
  Walk c all chk (⟨some d, .fieldAddr t x f, ty, pos, af, g⟩ :: os) recs ⟨env, hp⟩ Q :=
 Walk.pure1 hg hd hx (fun a G T w h => by
  obtain ⟨b, hl, he⟩ := h.ref_eq
  exact ⟨.pointer (some ⟨b, off + o, none⟩), by simp only [execOp, he, Sem.run_bind, ht.run, Result.andThen_ok, Sem.run_pure], .ref hl.1 hl.2⟩) hn
theorem Walk.fieldP {f o : Nat} {cs : List D} (ht : Fd c.P t f o) (hg : GH all env g pg) (hd : Nat.blt d c.n = true) (hx : opd env x = some (.d (.ptr cs off)))
  (hn : Walk c all chk os (mkRec (pg ++ opF x (.d (.ptr cs off))) [] [] ⟨some (d, .d (.ptr cs (off + o))), []⟩ :: recs) ⟨(d, .d (.ptr cs (off + o))) :: env, hp⟩ Q) :
  Walk c all chk (⟨some d, .fieldAddr t x f, ty, pos, af, g⟩ :: os) recs ⟨env, hp⟩ Q :=
 Walk.pure1 hg hd hx (fun a G T w h => by
  obtain ⟨b, o', cf, he, hc, hr⟩ := h.d_inv.ptr_inv
  exact ⟨.pointer (some ⟨b, o' + (off + o), none⟩), by simp only [execOp, he, Sem.run_bind, ht.run, Result.andThen_ok, Sem.run_pure, Nat.add_assoc], .d (.ptr cs b o' (off + o) cf hc hr)⟩) hn
theorem RelD.sl_elem {F : Nat → Nat} {w : World} {xs : List (List D)} {v : Value} {i : Nat} {e : List D} (h : RelD F w (.sl xs) v) (he : xs[i]? = some e) :
  ∃ (b off cap : Nat) (cf : Nat → Value), v = .slice (some ⟨b, off, none⟩) xs.length cap ∧ xs.length ≤ cap ∧
   (∀ n, n < e.length → off + i * e.length + n < F b ∧ w.cell? ⟨b, off + i * e.length + n, none⟩ = some (cf n)) ∧ ∀ n (hn : n < e.length), RelD F w e[n] (cf n) := by
 obtain ⟨hi, he'⟩ := List.getElem?_eq_some_iff.1 he
 cases h with
 | nil => simp at hi
 | emp => simp at hi
 | sl _ k b off cap cf hk hcap hc hr =>
  have hke : e.length = k := by rw [← he']; exact hk _ (List.getElem_mem hi)
  refine ⟨b, off, cap, fun n => cf (i * k + n), rfl, hcap, fun n hn => ?_, fun n hn => ?_⟩
  ·have hlt : i * k + n < xs.length * k := by
    have : (i + 1) * k ≤ xs.length * k := Nat.mul_le_mul_right _ (by omega)
    rw [Nat.add_mul, Nat.one_mul] at this
    omega
   have := hc _ hlt
   rw [hke, Nat.add_assoc]
   exact this
  ·have h1 : n < (xs[i]).length := by rw [he']; exact hn
   have := hr i hi n h1
   simp only [he'] at this
   exact this
theorem run_indexAt_sl {P : Program} {t e k y : Nat} (h : SlT P t e k y) {b off len cap i : Nat} {kd : IntKind} {w : World} (hi : i < len) :
  (Instr.indexAt t (.slice (some ⟨b, off, none⟩) len cap) (.int kd i)).run P w = .ok (.pointer (some ⟨b, off + i * k, none⟩)) w := by
 obtain ⟨inf, h1, h2, h3⟩ := h.inf
 have hc : (0 : Int) ≤ (i : Int) ∧ (i : Int) < (len : Int) := by omega
 simp only [Instr.indexAt, asIntOf, Sem.run_bind, Sem.run_pure, Result.andThen_ok, run_underlying h.und, hc, if_true, and_self]
 simp [sizeOf, run_ti h1, h2, add_off]
theorem Walk.idx {e k yb : Nat} {xs : List (List D)} {el : List D} {kd : IntKind} {n : Int} {i : Nat} (ht : SlT c.P t e k yb) (hg : GH all env g pg) (hd : Nat.blt d c.n = true)
  (hx : opd env x = some (.d (.sl xs))) (hy : opd env y = some (.d (.int kd n))) (hi : n = ↑i) (he : xs[i]? = some el) (hk : el.length = k)
  (hn : Walk c all chk os (mkRec (pg ++ (opF x (.d (.sl xs)) ++ opF y (.d (.int kd n)))) [] [] ⟨some (d, .d (.ptr el 0)), []⟩ :: recs) ⟨(d, .d (.ptr el 0)) :: env, hp⟩ Q) :
  Walk c all chk (⟨some d, .indexAddr t x y, ty, pos, af, g⟩ :: os) recs ⟨env, hp⟩ Q := by
 refine Walk.pure2 hg hd hx hy (fun a G T w h1 h2 => ?_) hn
 cases h1 with
 | d h1 =>
  obtain ⟨b, off, cap, cf, hv, hcap, h3, h4⟩ := h1.sl_elem he
  obtain ⟨hlt, _⟩ := List.getElem?_eq_some_iff.1 he
  refine ⟨.pointer (some ⟨b, off + i * k, none⟩), ?_, .d ?_⟩
  ·simp only [execOp, hv, h2.int_eq, hi, Sem.run_bind, run_indexAt_sl ht hlt, Result.andThen_ok, Sem.run_pure]
  ·have := RelD.ptr (F := G.F) (w := w) el b (off + i * el.length) 0 cf h3 h4
   rw [hk] at this
   exact this
theorem Walk.idxG {e k yb : Nat} {xs : List (List D)} {el : List D} {kd : IntKind} {n : Int} {i : Nat} (ht : SlT c.P t e k yb) (hg : GH all env g pg) (hd : Nat.blt d c.n = true)
  (hx : opd env x = some (.gl id xs)) (hy : opd env y = some (.d (.int kd n))) (hi : n = ↑i) (he : xs[i]? = some el) (hk : el.length = k)
  (hn : Walk c all chk os (mkRec (pg ++ (opF x (.gl id xs) ++ opF y (.d (.int kd n)))) [] [] ⟨some (d, .d (.ptr el 0)), []⟩ :: recs) ⟨(d, .d (.ptr el 0)) :: env, hp⟩ Q) :
  Walk c all chk (⟨some d, .indexAddr t x y, ty, pos, af, g⟩ :: os) recs ⟨env, hp⟩ Q := by
 refine Walk.pure2 hg hd hx hy (fun a G T w h1 h2 => ?_) hn
 cases h1 with
 | gl h1 _ =>
  obtain ⟨b, off, cap, cf, hv, hcap, h3, h4⟩ := h1.sl_elem he
  obtain ⟨hlt, _⟩ := List.getElem?_eq_some_iff.1 he
  refine ⟨.pointer (some ⟨b, off + i * k, none⟩), ?_, .d ?_⟩
  ·simp only [execOp, hv, h2.int_eq, hi, Sem.run_bind, run_indexAt_sl ht hlt, Result.andThen_ok, Sem.run_pure]
  ·have := RelD.ptr (F := G.F) (w := w) el b (off + i * el.length) 0 cf h3 h4
   rw [hk] at this
   exact this
theorem Walk.idxM {e k yb m : Nat} {kd : IntKind} {n : Int} {i : Nat} (ht : SlT c.P t e k yb) (hg : GH all env g pg) (hd : Nat.blt d c.n = true)
  (hx : opd env x = some (.ms id m)) (hy : opd env y = some (.d (.int kd n))) (hi : n = ↑i) (hlt : i < m)
  (hn : Walk c all chk os (mkRec (pg ++ (opF x (.ms id m) ++ opF y (.d (.int kd n)))) [] [] ⟨some (d, .ref id (i * k)), []⟩ :: recs) ⟨(d, .ref id (i * k)) :: env, hp⟩ Q) :
  Walk c all chk (⟨some d, .indexAddr t x y, ty, pos, af, g⟩ :: os) recs ⟨env, hp⟩ Q := by
 refine Walk.pure2 hg hd hx hy (fun a G T w h1 h2 => ?_) hn
 obtain ⟨b, cap, hl, he, hcap⟩ := h1.ms_eq
 refine ⟨.pointer (some ⟨b, 0 + i * k, none⟩), ?_, by rw [Nat.zero_add]; exact .ref hl.1 hl.2⟩
 simp only [execOp, he, h2.int_eq, hi, Sem.run_bind, run_indexAt_sl ht hlt, Result.andThen_ok, Sem.run_pure]
structure ArT (P : Program) (t len e k : Nat) : Prop where
 und : P.underlying t = some (.array len e)
 inf : ∃ i, P.info? e = some i ∧ i.size = k
theorem run_indexAt_ar {P : Program} {t len e k : Nat} (h : ArT P t len e k) {b off i : Nat} {kd : IntKind} {w : World} (hi : i < len) :
  (Instr.indexAt t (.pointer (some ⟨b, off, none⟩)) (.int kd i)).run P w = .ok (.pointer (some ⟨b, off + i * k, none⟩)) w := by
 obtain ⟨inf, h1, h2⟩ := h.inf
 have hc : (0 : Int) ≤ (i : Int) ∧ (i : Int) < (len : Int) := by omega
 simp only [Instr.indexAt, asIntOf, Sem.run_bind, Sem.run_pure, Result.andThen_ok, run_underlying h.und, Instr.sureAddr, hc, if_true, and_self]
 simp [sizeOf, run_ti h1, h2, add_off]
theorem Walk.idxA {len e k : Nat} {kd : IntKind} {n : Int} {i : Nat} (ht : ArT c.P t len e k) (hg : GH all env g pg) (hd : Nat.blt d c.n = true)
  (hx : opd env x = some (.ref id off)) (hy : opd env y = some (.d (.int kd n))) (hi : n = ↑i) (hlt : i < len)
  (hn : Walk c all chk os (mkRec (pg ++ (opF x (.ref id off) ++ opF y (.d (.int kd n)))) [] [] ⟨some (d, .ref id (off + i * k)), []⟩ :: recs) ⟨(d, .ref id (off + i * k)) :: env, hp⟩ Q) :
  Walk c all chk (⟨some d, .indexAddr t x y, ty, pos, af, g⟩ :: os) recs ⟨env, hp⟩ Q := by
 refine Walk.pure2 hg hd hx hy (fun a G T w h1 h2 => ?_) hn
 obtain ⟨b, hl, he⟩ := h1.ref_eq
 refine ⟨.pointer (some ⟨b, off + i * k, none⟩), ?_, .ref hl.1 hl.2⟩
 simp only [execOp, he, h2.int_eq, hi, Sem.run_bind, run_indexAt_ar ht hlt, Result.andThen_ok, Sem.run_pure]
theorem Walk.idxAP {len e k : Nat} {cs : List D} {kd : IntKind} {n : Int} {i : Nat} (ht : ArT c.P t len e k) (hg : GH all env g pg) (hd : Nat.blt d c.n = true)
  (hx : opd env x = some (.d (.ptr cs off))) (hy : opd env y = some (.d (.int kd n))) (hi : n = ↑i) (hlt : i < len)
  (hn : Walk c all chk os (mkRec (pg ++ (opF x (.d (.ptr cs off)) ++ opF y (.d (.int kd n)))) [] [] ⟨some (d, .d (.ptr cs (off + i * k))), []⟩ :: recs) ⟨(d, .d (.ptr cs (off + i * k))) :: env, hp⟩ Q) :
  Walk c all chk (⟨some d, .indexAddr t x y, ty, pos, af, g⟩ :: os) recs ⟨env, hp⟩ Q := by
 refine Walk.pure2 hg hd hx hy (fun a G T w h1 h2 => ?_) hn
 obtain ⟨b, o', cf, he, hc, hr⟩ := h1.d_inv.ptr_inv
 refine ⟨.pointer (some ⟨b, o' + (off + i * k), none⟩), ?_, .d (.ptr cs b o' (off + i * k) cf hc hr)⟩
 simp only [execOp, he, h2.int_eq, hi, Sem.run_bind, run_indexAt_ar ht hlt, Result.andThen_ok, Sem.run_pure, Nat.add_assoc]
theorem Walk.nilCheck {v : AV} (hv : (∃ i o, v = .ref i o) ∨ (∃ l o, v = .d (.ptr l o))) (hg : GH all env g pg) (hd : Nat.blt d c.n = true) (hx : opd env x = some v)
  (hn : Walk c all chk os (mkRec (pg ++ opF x v) [] [] ⟨some (d, v), []⟩ :: recs) ⟨(d, v) :: env, hp⟩ Q) :
  Walk c all chk (⟨some d, .nilCheck x, ty, pos, af, g⟩ :: os) recs ⟨env, hp⟩ Q :=
 Walk.pure1 hg hd hx (fun a G T w h => by
  rcases hv with ⟨i, o, rfl⟩ | ⟨l, o, rfl⟩
  ·obtain ⟨b, hl, he⟩ := h.ref_eq
   exact ⟨.pointer (some ⟨b, o, none⟩), by simp only [execOp, he, Sem.run_pure], .ref hl.1 hl.2⟩
  ·cases h with
   | d h =>
    obtain ⟨b, o', he, hc⟩ := h.ptr_cells
    exact ⟨_, by simp only [execOp, he, Sem.run_pure], .d (he ▸ h)⟩) hn
theorem Walk.extract {vs : List AV} {v : AV} {i : Nat} (hg : GH all env g pg) (hd : Nat.blt d c.n = true) (hx : opd env x = some (.tup vs)) (hv : vs[i]? = some v)
  (hn : Walk c all chk os (mkRec (pg ++ opF x (.tup vs)) [] [] ⟨some (d, v), []⟩ :: recs) ⟨(d, v) :: env, hp⟩ Q) :
  Walk c all chk (⟨some d, .extract x i, ty, pos, af, g⟩ :: os) recs ⟨env, hp⟩ Q :=
 Walk.pure1 hg hd hx (fun a G T w h => by
  obtain ⟨hi, hv'⟩ := List.getElem?_eq_some_iff.1 hv
  obtain ⟨us, he, hs, h⟩ := h.tup_eq
  have := h i hi (by omega)
  rw [hv'] at this
  refine ⟨us[i], ?_, this⟩
  simp [execOp, he, Instr.extract, show i < us.size by omega]) hn
end addrs
end
end Go.Proofs.Ytadpcmcifbakoaa
