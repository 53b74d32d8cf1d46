/-
  THE ABSTRACT WALK, part S: maps from strings to true, structs of numbers compared, calls of function values.
-/
import Derived.Test.YtadpcmcifbakoaaAmR
import Derived.Laws.StructEq
import Derived.MapKept
namespace Go.Proofs.Ytadpcmcifbakoaa
open Go
set_option linter.unusedSimpArgs false
set_option linter.unusedVariables false
section
variable {c : Ctx}
theorem R.setMap {G : Gh} {s : St} {a : Act} {w : World} (hr : R c G s a w) {id b : Nat} {ks ks' : List (List UInt8)} {es es' : Array MapEntry} {cl cl' : Nat} (hb : getH s.hp id = some (.map ks)) (hl : G.loc id = [b])
  (hw : w.heap[b]? = some (.map es cl)) (hF : G.F b = 0) (hes : mapEntries ks' es') :
  R c G { s with hp := (id, some (.map ks')) :: s.hp } a { w with heap := w.heap.setIfInBounds b (.map es' cl') } := by
 have htok : tokf ((id, some (.map ks')) :: s.hp) = tokf s.hp := by
  funext i
  unfold tokf
  rw [getH_cons]
  by_cases h : i = id
  ·subst h; rw [if_pos rfl, hb]
  ·rw [if_neg h]
 have hset := MapKept.heap_set (o' := .map es' cl') hw
 have hother : ∀ k, k ≠ b → (w.heap.setIfInBounds b (.map es' cl'))[k]? = w.heap[k]? := hset.2
 have hcell : ∀ b' o, o < G.F b' → o < G.F b' ∧ ({ w with heap := w.heap.setIfInBounds b (.map es' cl') } : World).cell? ⟨b', o, none⟩ = w.cell? ⟨b', o, none⟩ := fun b' o ho => by
  have hne : b' ≠ b := fun e => by subst e; rw [hF] at ho; omega
  refine ⟨ho, ?_⟩
  simp only [World.cell?, hother b' hne]
 have htl : ∀ i p, tokf s.hp i = some p → ∀ b', b' ∈ G.loc i → b' ≠ b := fun i p hp b' hb' e => by
  obtain ⟨n, k⟩ := p
  have h1 := tokf_some.1 hp
  have hne : i ≠ id := fun e' => by subst e'; rw [hb] at h1; cases h1
  subst e
  exact hr.disj i id (by rw [h1]; rfl) (by rw [hb]; rfl) hne b' hb' (by simp [hl])
 have hm : ∀ {x : AV} {v : Value}, RelA G (tokf s.hp) w x v → RelA G (tokf s.hp) { w with heap := w.heap.setIfInBounds b (.map es' cl') } x v := fun hx =>
  hx.mono hcell (fun _ _ => .inl rfl) (fun i _ p hp => ⟨hp, fun b' hb' => ⟨hother b' (htl i p hp b' hb'), rfl⟩⟩)
 have hbown := hr.new id (by rw [hb]; rfl) b (by simp [hl])
 have hsz : (w.heap.setIfInBounds b (.map es' cl')).size = w.heap.size := by simp
 refine ⟨hr.size, hr.defers, fun i v h => by rw [htok]; exact hm (hr.slots i v h), fun i r h => ?_, fun i j h1 h2 h3 => hr.disj i j ?_ ?_ h3, fun i h => hr.new i ?_,
  hr.frm.trans (own1 := [b]) ⟨rfl, rfl, rfl, by simp, fun k _ hk => ⟨hother k (fun e => hk (by simp [e])), rfl⟩, hcell⟩ (fun k hk => by simp only [List.mem_singleton] at hk; subst hk; exact hbown),
  fun k hk => hr.top k (by simpa using hk), fun i l hl' => ⟨(hr.kept i l hl').1, ?_⟩⟩
 ·rw [htok]
  rw [getH_cons] at h
  by_cases hi : i = id
  ·subst hi
   rw [if_pos rfl] at h
   cases h
   exact ⟨b, es', cl', hl, hset.1, hF, hes⟩
  ·rw [if_neg hi] at h
   have hne : ∀ b', b' ∈ G.loc i → b' ≠ b := fun b' hb' e => by
    subst e
    exact hr.disj i id (by rw [h]; rfl) (by rw [hb]; rfl) hi b' hb' (by simp [hl])
   have hh := hr.heap i r h
   cases r with
   | box cs2 =>
    obtain ⟨b2, vs2, e2, h1, h2, h3, h4, h5⟩ := hh
    exact ⟨b2, vs2, e2, h1, (hother b2 (hne b2 (by simp [h1]))).trans h2, h3, h4, fun j hj hv => hm (h5 j hj hv)⟩
   | tok n k => exact fun b2 h1 => by simpa using hh b2 h1
   | map ks =>
    obtain ⟨b2, es, cl, h1, h2, h3⟩ := hh
    exact ⟨b2, es, cl, h1, (hother b2 (hne b2 (by simp [h1]))).trans h2, h3⟩
   | tree cs2 => exact tree_mono hh rfl (fun b' hb' => ⟨hother b' (hne b' hb'), rfl⟩) (by simp) (fun _ _ _ => hm)
 ·rw [getH_cons] at h1
  split at h1
  ·rename_i e; subst e; rw [hb]; rfl
  ·exact h1
 ·rw [getH_cons] at h2
  split at h2
  ·rename_i e; subst e; rw [hb]; rfl
  ·exact h2
 ·rw [getH_cons] at h
  split at h
  ·rename_i e; subst e; rw [hb]; rfl
  ·exact h
 ·refine ⟨?_, by show tokf ((id, some (.map ks')) :: s.hp) i = none; rw [htok]; exact (hr.kept i l hl').2.2⟩
  show (getH ((id, some (.map ks')) :: s.hp) i).isSome
  rw [getH_cons]
  split
  ·rfl
  ·exact (hr.kept i l hl').2.1
theorem RelA.mapr_eq {G : Gh} {T : TokF} {w : World} {id : Nat} {v : Value} (h : RelA G T w (.mapr id) v) : ∃ b, ((G.loc id).head? = some b ∧ T id = none) ∧ v = .map (some b) := by
 cases h with
 | mapr h hT => exact ⟨_, ⟨h, hT⟩, rfl⟩
theorem findNow_str {s : List UInt8} : ∀ {l : List MapEntry} {ks : List (List UInt8)} (i : Nat), l.map (fun e => (e.key, e.val)) = ks.map (fun s => (Value.string ⟨s.toArray⟩, Value.bool true)) →
  ∃ r, Instr.findNow .string (.string ⟨s.toArray⟩) l i = some r ∧ r.map (·.2) = (if s ∈ ks then some (Value.bool true) else none)
 | [], ks, i, h => by
  cases ks with
  | nil => exact ⟨none, rfl, by simp⟩
  | cons k r => simp at h
 | e :: es, ks, i, h => by
  cases ks with
  | nil => simp at h
  | cons k r =>
   simp only [List.map_cons, List.cons.injEq, Prod.mk.injEq] at h
   obtain ⟨⟨h1, h2⟩, h3⟩ := h
   have hs : Instr.sameNow .string (.string ⟨s.toArray⟩) e.key = some (decide (s = k)) := by
    rw [h1]
    simp only [Instr.sameNow]
    congr 1
    by_cases hh : s = k
    ·subst hh; simp [MapKept.bytes_beq]
    ·have : ¬ ((⟨s.toArray⟩ : ByteArray) == ⟨k.toArray⟩) = true := fun hb => hh (by
      have := (MapKept.bytes_beq _ _).1 hb
      simpa using congrArg (fun x : ByteArray => x.data.toList) this)
     simp [this, hh]
   by_cases hh : s = k
   ·refine ⟨some (i, e.val), ?_, by simp [hh, h2]⟩
    have hd : decide (s = k) = true := decide_eq_true hh
    rw [hd] at hs
    unfold Instr.findNow
    rw [hs]
   ·obtain ⟨r', hr1, hr2⟩ := findNow_str (s := s) (i + 1) h3
    refine ⟨r', ?_, by rw [hr2]; simp [hh]⟩
    have hd : decide (s = k) = false := decide_eq_false hh
    rw [hd] at hs
    unfold Instr.findNow
    rw [hs]
    exact hr1
structure MapT (P : Program) (t : Nat) : Prop where
 inf : ∃ k e, P.underlying t = some (.map k e) ∧ P.underlying k = some .string ∧ ∃ i, P.info? e = some i ∧ i.zero = some (.bool false)
def mpGet (P : Program) (t : Nat) : Bool := match P.underlying t with
 | some (.map k e) => match P.underlying k, P.info? e with
  | some .string, some i => match i.zero with
   | some (.bool false) => true
   | _ => false
  | _, _ => false
 | _ => false
theorem MapT.of {P : Program} {t : Nat} (h : mpGet P t = true) : MapT P t := by
 unfold mpGet at h
 split at h
 ·rename_i k e h1
  split at h
  ·rename_i i h2 h3
   split at h
   ·rename_i h4
    exact ⟨k, e, h1, h2, i, h3, h4⟩
   ·cases h
  ·cases h
 ·cases h
end
section
variable {c : Ctx} {all : Array Oper} {chk : List Rec → Prop} {os : List Oper} {recs : List Rec} {env : Env} {hp : Hp} {Q : St → Prop}
variable {d ty : Nat} {pos : String} {af : Array Edge} {g : Option (Nat × Bool)} {pg : List (Nat × AV)}
variable {t yt : TypeId} {x y z : Operand}
theorem Walk.makeMap {id : Nat} (hg : GH all env g pg) (hd : Nat.blt d c.n = true) (hf : freshB env hp [id] = true)
  (hn : Walk c all chk os (mkRec (pg ++ []) [] [id] ⟨some (d, .mapr id), [(id, some (.map []))]⟩ :: recs) ⟨(d, .mapr id) :: env, (id, some (.map [])) :: hp⟩ Q) :
  Walk c all chk (⟨some d, .makeMap t none, ty, pos, af, g⟩ :: os) recs ⟨env, hp⟩ Q := by
 refine ⟨pg ++ [], [], [id], _, ?_, facts_append hg.facts (by simp), by simp, freshB_spec hf, hn⟩
 intro s a w hrel hp' hh hcr K Q' hK
 obtain ⟨G, hr⟩ := hrel
 obtain ⟨h0, hocc⟩ := hcr id (by simp)
 have hr' := (hr.alloc (.map #[] 0) 0).rename h0 hocc [w.heap.size]
 have hloc : ∀ i, i ≠ id → (bif Nat.beq i id then [w.heap.size] else G.loc i) = G.loc i := fun i h => by
  cases hb : Nat.beq i id with
  | true => exact absurd (Nat.eq_of_beq_eq_true hb) h
  | false => rfl
 have hR := hr'.name (r := .map []) h0 hocc ⟨w.heap.size, #[], 0, by simp, alloc_at, by simp, by simp [mapEntries]⟩ (fun i hi b hb => by
  have hi' : i ≠ id := fun e => by subst e; rw [h0] at hi; cases hi
  have hb' : b ∈ G.loc i := by have := hloc i hi'; simp only [this] at hb; exact hb
  obtain ⟨r, hrr⟩ := Option.isSome_iff_exists.1 hi
  have hlt : b < w.heap.size := (hr.heap i r hrr).bound b hb'
  simp
  omega) (fun b hb => by
  simp at hb
  subst hb
  exact .inr hr.frm.size)
 unfold wpO
 rw [if_pos (hg.gf.wanted hr (fun p hm => hp' p (by simp [hm])))]
 unfold Oper.wp
 have hrun : (execOp a.eval ⟨some d, .makeMap t none, ty, pos, af, g⟩).run c.P w = .ok (.value (.map (some w.heap.size))) (w.alloc (.map #[] 0)) := by
  have : (Instr.makeMap t none).run c.P w = .ok (.map (some w.heap.size)) (w.alloc (.map #[] 0)) := rfl
  simp only [execOp, Option.map_none, Sem.run_bind, this, Result.andThen_ok, Sem.run_pure]
 rw [hrun, Oper.upon_value]
 exact hK _ _ ⟨_, hR.put (v := .mapr id) (.mapr (by simp) (by simp [tokf, getH])) hd⟩
theorem Walk.lookup {id : Nat} {ks : List (List UInt8)} {l : List UInt8} (ht : MapT c.P t) (hg : GH all env g pg) (hd : Nat.blt d c.n = true) (hx : opd env x = some (.mapr id)) (hy : opd env y = some (.d (.str l)))
  (hb : getH hp id = some (.map ks))
  (hn : Walk c all chk os (mkRec (pg ++ (opF x (.mapr id) ++ opF y (.d (.str l)))) [(id, .map ks)] [] ⟨some (d, .d (.bool (decide (l ∈ ks)))), []⟩ :: recs) ⟨(d, .d (.bool (decide (l ∈ ks)))) :: env, hp⟩ Q) :
  Walk c all chk (⟨some d, .lookup t x y false, ty, pos, af, g⟩ :: os) recs ⟨env, hp⟩ Q := by
 refine ⟨pg ++ (opF x (.mapr id) ++ opF y (.d (.str l))), [(id, .map ks)], [], _, ?_, facts_append hg.facts (facts_append (opF_holds hx) (opF_holds hy)), hh1 hb, by simp, hn⟩
 intro s a w hrel hp' hh _ K Q' hK
 obtain ⟨G, hr⟩ := hrel
 have hbx := hh1' hh
 have e1 := hr.opd (opd_facts hx (fun p hm => hp' p (by simp [hm])))
 have e2 := hr.opd (opd_facts hy (fun p hm => hp' p (by simp [hm])))
 obtain ⟨bl, hl, he⟩ := e1.mapr_eq
 have he2 := e2.str_eq
 obtain ⟨b', es, cl, h2, h3, h4, h5⟩ := hr.heap id _ hbx
 obtain rfl := head_one hl.1 h2
 obtain ⟨k, e, u1, u2, i, u3, u4⟩ := ht.inf
 obtain ⟨r, f1, f2⟩ := findNow_str (s := l) 0 h5
 have hck : (Instr.checkKey es.isEmpty 10000 k (.string ⟨l.toArray⟩)).run c.P w = .ok () w := MapKept.run_checkKey (k := .string ⟨l.toArray⟩) u2 (by simp [MapKept.IsKey]) _ 9999
 have hz : (zeroValue e).run c.P w = .ok (.bool false) w := run_zero u3 u4
 unfold wpO
 rw [if_pos (hg.gf.wanted hr (fun p hm => hp' p (by simp [hm])))]
 unfold Oper.wp
 have hrun : (execOp a.eval ⟨some d, .lookup t x y false, ty, pos, af, g⟩).run c.P w = .ok (.value (.bool (decide (l ∈ ks)))) w := by
  simp only [execOp, he, he2, Instr.lookup, Sem.run_bind, run_underlying u1, Result.andThen_ok, MapKept.run_getObj_map h3, Sem.run_pure, hck, MapKept.run_findKey u2 f1]
  cases r with
  | none =>
   have hm : l ∉ ks := fun hm => by simp [hm] at f2
   simp only [Sem.run_bind, hz, Result.andThen_ok, Sem.run_pure, hm, decide_false]
   rfl
  | some p =>
   obtain ⟨j, v⟩ := p
   have hm : l ∈ ks := by
    by_cases hm : l ∈ ks
    ·exact hm
    ·simp [hm] at f2
   simp [hm] at f2
   subst f2
   simp [hm]
 rw [hrun, Oper.upon_value]
 exact hK _ _ ⟨G, hr.put (.d (.bool _)) hd⟩
theorem Walk.mapUpdate {id : Nat} {ks : List (List UInt8)} {l : List UInt8} (ht : MapT c.P t) (hg : GH all env g pg) (hx : opd env x = some (.mapr id)) (hy : opd env y = some (.d (.str l))) (hz : opd env z = some (.d (.bool true)))
  (hb : getH hp id = some (.map ks)) (hl0 : l ∉ ks)
  (hn : Walk c all chk os (mkRec (pg ++ (opF x (.mapr id) ++ (opF y (.d (.str l)) ++ opF z (.d (.bool true))))) [(id, .map ks)] [] ⟨none, [(id, some (.map (ks ++ [l])))]⟩ :: recs) ⟨env, (id, some (.map (ks ++ [l]))) :: hp⟩ Q) :
  Walk c all chk (⟨none, .mapUpdate t x y z, ty, pos, af, g⟩ :: os) recs ⟨env, hp⟩ Q := by
 refine ⟨pg ++ (opF x (.mapr id) ++ (opF y (.d (.str l)) ++ opF z (.d (.bool true)))), [(id, .map ks)], [], _, ?_, facts_append hg.facts (facts_append (opF_holds hx) (facts_append (opF_holds hy) (opF_holds hz))), hh1 hb, by simp, hn⟩
 intro s a w hrel hp' hh _ K Q' hK
 obtain ⟨G, hr⟩ := hrel
 have hbx := hh1' hh
 have e1 := hr.opd (opd_facts hx (fun p hm => hp' p (by simp [hm])))
 have e2 := hr.opd (opd_facts hy (fun p hm => hp' p (by simp [hm])))
 have e3 := hr.opd (opd_facts hz (fun p hm => hp' p (by simp [hm])))
 obtain ⟨bl, hl, he⟩ := e1.mapr_eq
 have he2 := e2.str_eq
 have he3 := e3.bool_eq
 obtain ⟨b', es, cl, h2, h3, h4, h5⟩ := hr.heap id _ hbx
 obtain rfl := head_one hl.1 h2
 obtain ⟨k, e, u1, u2, i, u3, u4⟩ := ht.inf
 obtain ⟨r, f1, f2⟩ := findNow_str (s := l) 0 h5
 have hck : (Instr.checkKey false 10000 k (.string ⟨l.toArray⟩)).run c.P w = .ok () w := MapKept.run_checkKey (k := .string ⟨l.toArray⟩) u2 (by simp [MapKept.IsKey]) _ 9999
 have hrn : r = none := by
  cases r with
  | none => rfl
  | some p => simp [hl0] at f2
 subst hrn
 unfold wpO
 rw [if_pos (hg.gf.wanted hr (fun p hm => hp' p (by simp [hm])))]
 unfold Oper.wp
 have hrun : (execOp a.eval ⟨none, .mapUpdate t x y z, ty, pos, af, g⟩).run c.P w = .ok .skip { w with heap := w.heap.setIfInBounds bl (.map (es.push { key := .string ⟨l.toArray⟩, val := .bool true, born := cl }) (cl + 1)) } := by
  simp only [execOp, he, he2, he3, Instr.mapUpdate, Sem.run_bind, run_underlying u1, Result.andThen_ok, MapKept.run_getObj_map h3, Sem.run_pure, hck, MapKept.run_findKey u2 f1, MapKept.run_setObj_map _ h3]
 rw [hrun, Oper.upon_skip]
 refine hK _ _ ⟨G, (hr.setMap hbx h2 h3 h4 ?_).putNone⟩
 simp only [mapEntries] at h5 ⊢
 simp [h5]
def intFields (P : Program) : Nat → List Field → Bool
 | _, [] => true
 | i, f :: r => (f.name != "_") && Nat.beq f.offset i && (match P.underlying f.type with | some (.int _) => true | _ => false) && intFields P (i + 1) r
structure EqT (P : Program) (t k : Nat) : Prop where
 len : (P.fieldsOf t).size = k
 und : P.underlying t = some (.struct (P.fieldsOf t))
 held : P.stoodInHeld t = false
 grd : P.eqGuardType P.depth t = false
 fld : intFields P 0 (P.fieldsOf t).toList = true
def eqC : List AV → List AV → Option Bool
 | [], [] => some true
 | .d (.int .i64 a) :: r, .d (.int .i64 b) :: s => match eqC r s with
  | some t => some (decide (a = b) && t)
  | none => none
 | _, _ => none
theorem eqFields_ints {P : Program} {w : World} {G : Gh} {T : TokF} : ∀ {fs : List Field} {i : Nat} {xs ys : List AV} {b : Bool} {us vs : Array Value}, intFields P i fs = true → eqC xs ys = some b → fs.length = xs.length →
  (∀ j (h : j < xs.length), ∃ u, us[i + j]? = some u ∧ RelA G T w xs[j] u) → (∀ j (h : j < ys.length), ∃ u, vs[i + j]? = some u ∧ RelA G T w ys[j] u) →
  (Op.eqFields 9999 us vs fs).run P w = .ok b w
 | [], i, [], [], b, us, vs, _, h, _, _, _ => by simp only [eqC, Option.some.injEq] at h; subst h; simp [Op.eqFields]
 | [], i, [], _ :: _, b, us, vs, _, h, _, _, _ => by simp [eqC] at h
 | [], i, _ :: _, _, b, us, vs, _, _, h, _, _ => by simp at h
 | f :: fs, i, [], _, b, us, vs, _, _, h, _, _ => by simp at h
 | f :: fs, i, x :: xs, ys, b, us, vs, hf, he, hl, hx, hy => by
  cases ys with
  | nil => unfold eqC at he; split at he <;> simp_all
  | cons y ys =>
   unfold eqC at he
   split at he
   ·rename_i h1 h2; simp at h1
   ·rename_i a r b' s h1 h2
    simp only [List.cons.injEq] at h1 h2
    obtain ⟨rfl, rfl⟩ := h1
    obtain ⟨rfl, rfl⟩ := h2
    split at he
    ·rename_i t ht
     simp only [Option.some.injEq] at he
     subst he
     simp only [intFields, Bool.and_eq_true, bne_iff_ne] at hf
     obtain ⟨⟨⟨f1, f2⟩, f3⟩, f4⟩ := hf
     have f2' := Nat.eq_of_beq_eq_true f2
     obtain ⟨u, hu, hru⟩ := hx 0 (by simp)
     obtain ⟨v, hv, hrv⟩ := hy 0 (by simp)
     have hu' := hru.int_eq
     have hv' := hrv.int_eq
     subst hu' hv'
     have ih := eqFields_ints (P := P) (w := w) (us := us) (vs := vs) f4 ht (by simpa using hl)
      (fun j h => by obtain ⟨u, h1, h2⟩ := hx (j + 1) (by simpa using h); exact ⟨u, by rw [show i + 1 + j = i + (j + 1) by omega]; exact h1, by simpa using h2⟩)
      (fun j h => by obtain ⟨u, h1, h2⟩ := hy (j + 1) (by simpa using h); exact ⟨u, by rw [show i + 1 + j = i + (j + 1) by omega]; exact h1, by simpa using h2⟩)
     split at f3
     ·rename_i kd hk
      have p1 : (part f.type us f.offset).run P w = .ok (.int .i64 a) w := by
       have hu0 : us[i]? = some (.int .i64 a) := by simpa using hu
       simp only [part, isAgg, Sem.run_bind, run_underlying hk, Result.andThen_ok, Sem.run_pure, f2', hu0, Bool.false_eq_true, if_false]
      have p2 : (part f.type vs f.offset).run P w = .ok (.int .i64 b') w := by
       have hv0 : vs[i]? = some (.int .i64 b') := by simpa using hv
       simp only [part, isAgg, Sem.run_bind, run_underlying hk, Result.andThen_ok, Sem.run_pure, f2', hv0, Bool.false_eq_true, if_false]
      simp only [Op.eqFields]
      rw [if_pos f1]
      simp only [Sem.run_bind, p1, p2, Result.andThen_ok, run_equalIn_int w 9998 f.type .i64 kd a b' hk]
      by_cases hab : a = b'
      ·subst hab
       simp [ih]
      ·simp [hab]
     ·cases f3
    ·cases he
   ·cases he
theorem eqC_len : ∀ {xs ys : List AV} {b : Bool}, eqC xs ys = some b → xs.length = ys.length
 | [], [], _, _ => rfl
 | x :: r, y :: s, b, h => by
  unfold eqC at h
  split at h
  ·rename_i h1 _; simp at h1
  ·rename_i a r' b' s' h1 h2
   simp only [List.cons.injEq] at h1 h2
   obtain ⟨rfl, rfl⟩ := h1
   obtain ⟨rfl, rfl⟩ := h2
   split at h
   ·rename_i t ht; simp [eqC_len ht]
   ·cases h
  ·cases h
 | [], _ :: _, _, h => by simp [eqC] at h
 | x :: r, [], _, h => by unfold eqC at h; split at h <;> simp_all
theorem run_eqV {P : Program} {w : World} {G : Gh} {T : TokF} {t : TypeId} {xs ys : List AV} {b : Bool} {u v : Value} {k : Nat} (ht : EqT P t k) (hl0 : xs.length = k) (he : eqC xs ys = some b) (hu : RelA G T w (.agg xs) u) (hv : RelA G T w (.agg ys) v) :
  ∃ us vs, u = .agg us ∧ v = .agg vs ∧ (Op.equalIn 10000 t (.agg us) (.agg vs)).run P w = .ok b w := by
 have hl : (P.fieldsOf t).size = xs.length := ht.len.trans hl0.symm
 cases hu with
 | agg h1 h2 =>
  cases hv with
  | agg h3 h4 =>
   refine ⟨_, _, rfl, rfl, ?_⟩
   rw [show (10000 : Nat) = 9999 + 1 from rfl, run_equalIn_agg w 9999 t _ _ ht.und ht.held]
   refine eqFields_ints (G := G) (T := T) (i := 0) ht.fld he (by simpa using hl) (fun j h => ?_) (fun j h => ?_)
   ·rename_i us vs
    have hj : j < us.size := by rw [h1]; exact h
    exact ⟨us[j], by rw [Nat.zero_add, Array.getElem?_eq_getElem hj], h2 j h hj⟩
   ·rename_i us vs
    have hj : j < vs.size := by rw [h3]; exact h
    exact ⟨vs[j], by rw [Nat.zero_add, Array.getElem?_eq_getElem hj], h4 j h hj⟩
theorem Walk.eqV {xs ys : List AV} {b : Bool} {k : Nat} (ht : EqT c.P t k) (hg : GH all env g pg) (hd : Nat.blt d c.n = true) (hx : opd env x = some (.agg xs)) (hy : opd env y = some (.agg ys)) (he : eqC xs ys = some b) (hl : xs.length = k)
  (hn : Walk c all chk os (mkRec (pg ++ (opF x (.agg xs) ++ opF y (.agg ys))) [] [] ⟨some (d, .d (.bool b)), []⟩ :: recs) ⟨(d, .d (.bool b)) :: env, hp⟩ Q) :
  Walk c all chk (⟨some d, .binOp .eql t x y yt, ty, pos, af, g⟩ :: os) recs ⟨env, hp⟩ Q := by
 refine Walk.pure2 hg hd hx hy (fun a G T w h1 h2 => ⟨.bool b, ?_, .d (.bool _)⟩) hn
 obtain ⟨us, vs, e1, e2, e3⟩ := run_eqV ht hl he h1 h2
 simp only [execOp, e1, e2]
 simp only [Sem.run_bind, run_eqGuard_agg w .eql t x y us vs ht.grd, Result.andThen_ok, run_eql_struct, e3, Sem.run_pure]
theorem Walk.neV {xs ys : List AV} {b : Bool} {k : Nat} (ht : EqT c.P t k) (hg : GH all env g pg) (hd : Nat.blt d c.n = true) (hx : opd env x = some (.agg xs)) (hy : opd env y = some (.agg ys)) (he : eqC xs ys = some b) (hl : xs.length = k)
  (hn : Walk c all chk os (mkRec (pg ++ (opF x (.agg xs) ++ opF y (.agg ys))) [] [] ⟨some (d, .d (.bool (!b))), []⟩ :: recs) ⟨(d, .d (.bool (!b))) :: env, hp⟩ Q) :
  Walk c all chk (⟨some d, .binOp .neq t x y yt, ty, pos, af, g⟩ :: os) recs ⟨env, hp⟩ Q := by
 refine Walk.pure2 hg hd hx hy (fun a G T w h1 h2 => ⟨.bool (!b), ?_, .d (.bool _)⟩) hn
 obtain ⟨us, vs, e1, e2, e3⟩ := run_eqV ht hl he h1 h2
 simp only [execOp, e1, e2]
 simp only [Sem.run_bind, run_eqGuard_agg w .neq t x y us vs ht.grd, Result.andThen_ok, run_neq_struct, e3, Sem.run_pure]
theorem Walk.lenN {at_ e k yb : Nat} (ht : SlT c.P at_ e k yb) (hg : GH all env g pg) (hd : Nat.blt d c.n = true) (hx : opd env x = some .nils)
  (hn : Walk c all chk os (mkRec (pg ++ opF x .nils) [] [] ⟨some (d, .d (.i 0)), []⟩ :: recs) ⟨(d, .d (.i 0)) :: env, hp⟩ Q) :
  Walk c all chk (⟨some d, .call ⟨.builtin .len, #[x], #[at_]⟩, ty, pos, af, g⟩ :: os) recs ⟨env, hp⟩ Q :=
 Walk.pure1 hg hd hx (fun a G T w h => ⟨.int .i64 (0 : Nat), by
  have he : a.eval x = .slice none 0 0 := by
   generalize a.eval x = v at *
   cases h; rfl
  simp [execOp, resolve, invoke, builtin, he, run_len_sl ht], .d (.int _ _)⟩) hn
theorem LeL.get : ∀ {l m : List AV}, LeL l m → ∀ i (h1 : i < l.length) (h2 : i < m.length), LeA l[i] m[i]
 | _, _, .nil, i, h1, _ => by simp at h1
 | _, _, .cons h t, 0, _, _ => h
 | _, _, .cons h t, i + 1, h1, h2 => LeL.get t i (by simpa using h1) (by simpa using h2)
theorem RelA.fn_eq {G : Gh} {T : TokF} {w : World} {f : FuncId} {caps : List AV} {v : Value} (h : RelA G T w (.fn f caps) v) :
  ∃ us, v = .func (.func f) #[] us ∧ us.size = caps.length ∧ ∀ i (hi : i < caps.length) (hv : i < us.size), RelA G T w caps[i] us[i] := by
 cases h with
 | fn hn h => exact ⟨_, rfl, hn, h⟩
theorem Walk.callV {f : FuncId} {args : Array Operand} {ats : Array TypeId} {xs : List Operand} {caps vs avs : List AV} {hpc hp0 : Hp} {r : AV} {cr : List Nat} (hc : Callee c.P f) (hf : FnD c.P f avs hpc r hp0)
  (hargs : args = xs.toArray) (hg : GH all env g pg) (hd : Nat.blt d c.n = true) (hfx : opd env x = some (.fn f caps)) (hx : opdL env xs = some vs) (hle : LeL (vs ++ caps) avs) (hsub : subH hpc hp) (hnt : noTok hpc = true) (hok : okCall hpc hp0 r cr = true)
  (hcr : freshB env hp cr = true)
  (hn : Walk c all chk os (mkRec (pg ++ (opF x (.fn f caps) ++ opFL xs vs)) (hpF hpc) cr ⟨some (d, r), hp0⟩ :: recs) ⟨(d, r) :: env, hp0 ++ hp⟩ Q) :
  Walk c all chk (⟨some d, .call ⟨.value x, args, ats⟩, ty, pos, af, g⟩ :: os) recs ⟨env, hp⟩ Q := by
 subst hargs
 refine ⟨pg ++ (opF x (.fn f caps) ++ opFL xs vs), hpF hpc, cr, _, ?_, facts_append hg.facts (facts_append (opF_holds hfx) (opFL_holds hx)), subH_facts hsub, freshB_spec hcr, hn⟩
 intro s a w hrel hp' hh hcr' K Q' hK
 obtain ⟨G, hr⟩ := hrel
 have hfr := hr.opd (opd_facts hfx (fun p hm => hp' p (by simp [hm])))
 obtain ⟨us, hfe, hus, hur⟩ := hfr.fn_eq
 have hrl := opdL_rel hr (opdL_facts hx (fun p hm => hp' p (by simp [hm])))
 have hall : AllR G (tokf s.hp) w avs ((xs.map a.eval).toArray ++ us) := by
  have hlen := hle.len
  simp only [List.length_append] at hlen
  refine ⟨by simp [← hlen, hrl.1, hus], fun i hi hv => ?_⟩
  have h1 : i < (vs ++ caps).length := by rw [hle.len]; exact hi
  have hA := LeL.get hle i h1 hi
  by_cases hiv : i < vs.length
  ·have h2 := hrl.2 i hiv (by rw [← hrl.1]; exact hiv)
   have e1 : (vs ++ caps)[i] = vs[i] := List.getElem_append_left hiv
   rw [e1] at hA
   have e2 : ((xs.map a.eval).toArray ++ us)[i] = a.eval (xs[i]'(by rw [← hrl.1]; exact hiv)) := by
    rw [Array.getElem_append_left (by simp; rw [← hrl.1]; exact hiv)]
    simp
   rw [e2]
   exact h2.le hA
  ·have hic : i - vs.length < caps.length := by simp only [List.length_append] at h1; omega
   have e1 : (vs ++ caps)[i] = caps[i - vs.length] := List.getElem_append_right (by omega)
   rw [e1] at hA
   have e2 : ((xs.map a.eval).toArray ++ us)[i] = us[i - vs.length]'(by omega) := by
    rw [Array.getElem_append_right (by simp; omega)]
    simp [hrl.1]
   rw [e2]
   exact (hur _ hic (by omega)).le hA
 have hcalls := call_step hr hf hall (fun id x hx => hh (id, x) (hpF_mem (getH_mem hx))) (noTok_spec hnt) cr hcr'
 unfold wpO
 rw [if_pos (hg.gf.wanted hr (fun p hm => hp' p (by simp [hm])))]
 unfold Oper.wp
 have hrun : (execOp a.eval ⟨some d, .call ⟨.value x, xs.toArray, ats⟩, ty, pos, af, g⟩).run c.P w = .ok (.enter f ((xs.map a.eval).toArray ++ us)) w := by
  have := hc.run ((xs.map a.eval).toArray ++ us) w
  simp only [execOp, resolve, Sem.run_bind, hfe, Deferred.ofValue, Sem.run_pure, Result.andThen_ok, invoke]
  simpa using this
 rw [hrun, Oper.upon_enter]
 refine hcalls.mono ?_
 rintro e w' ⟨v, r', hp1, rfl, ⟨rfl, rfl⟩, h⟩
 obtain ⟨G', hR, hA⟩ := h hok
 exact hK _ _ ⟨G', hR.put hA hd⟩
end
end Go.Proofs.Ytadpcmcifbakoaa
