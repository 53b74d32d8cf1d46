/-
  THE ABSTRACT WALK, part J: slice literals, make, append, pieces.
-/
import Derived.Test.YtadpcmcifbakoaaAmI
import Derived.Laws.MakeOwn
namespace Go.Proofs.Ytadpcmcifbakoaa
open Go
set_option linter.unusedSimpArgs false
set_option linter.unusedVariables false
def chunkD : Nat → Nat → List AV → Option (List (List D))
 | 0, _, [] => some []
 | 0, _, _ :: _ => none
 | n + 1, k, l => match cutC l 0 k with
  | some h => match toDL h with
   | some e => match chunkD n k (l.drop k) with
    | some r => some (e :: r)
    | none => none
   | none => none
  | none => none
theorem chunkD_spec {k : Nat} : ∀ {n : Nat} {l : List AV} {es : List (List D)}, chunkD n k l = some es → es.length = n ∧ (∀ e, e ∈ es → e.length = k) ∧ l.length = n * k ∧
  ∀ i (hi : i < es.length) j (hj : j < es[i].length) (hl : i * k + j < l.length), (l[i * k + j]).toD = some es[i][j]
 | 0, [], es, h => by simp only [chunkD, Option.some.injEq] at h; subst h; exact ⟨rfl, by simp, by simp, fun i hi => by simp at hi⟩
 | 0, _ :: _, es, h => by simp [chunkD] at h
 | n + 1, l, es, h => by
  simp only [chunkD] at h
  cases hc : cutC l 0 k with
  | none => simp [hc] at h
  | some hd =>
   simp only [hc] at h
   cases he : toDL hd with
   | none => simp [he] at h
   | some e =>
    simp only [he] at h
    cases hr : chunkD n k (l.drop k) with
    | none => simp [hr] at h
    | some r =>
     simp only [hr, Option.some.injEq] at h
     subst h
     obtain ⟨c1, c2⟩ := cutC_spec hc
     obtain ⟨e1, e2⟩ := toDL_spec he
     obtain ⟨r1, r2, r3, r4⟩ := chunkD_spec hr
     have hlk : k ≤ l.length := by
      rcases Nat.eq_zero_or_pos k with h0 | h0
      ·omega
      ·have := c2 (k - 1) (by omega)
       rw [List.getElem?_eq_getElem (by omega)] at this
       rcases Nat.lt_or_ge (0 + (k - 1)) l.length with h' | h'
       ·omega
       ·rw [List.getElem?_eq_none h'] at this; cases this
     refine ⟨by simp [r1], fun x hx => ?_, ?_, fun i hi j hj hl => ?_⟩
     ·rcases List.mem_cons.1 hx with rfl | hx
      ·omega
      ·exact r2 x hx
     ·simp only [List.length_drop] at r3
      rw [Nat.add_mul]; omega
     ·cases i with
      | zero =>
       simp only [List.getElem_cons_zero] at hj ⊢
       have hjk : j < k := by omega
       have h1 := c2 j hjk
       rw [List.getElem?_eq_getElem (by omega), List.getElem?_eq_getElem (by omega)] at h1
       have h2 := e2 j (by omega) hj
       have h3 : l[0 * k + j] = hd[j] := by
        have := Option.some.inj h1
        rw [this]
        congr 1
        omega
       rw [h3]
       exact h2
      | succ i =>
       simp only [List.getElem_cons_succ] at hj ⊢
       have hle : (i + 1) * k + j = k + (i * k + j) := by rw [Nat.add_mul]; omega
       have := r4 i (by simpa using hi) j hj (by simp only [List.length_drop]; omega)
       rw [List.getElem_drop] at this
       simp only [hle]
       exact this
def zerosA : Nat → List AV → List AV
 | 0, _ => []
 | n + 1, zs => zs ++ zerosA n zs
theorem zerosA_len {zs : List AV} : ∀ {n : Nat}, (zerosA n zs).length = n * zs.length
 | 0 => by simp [zerosA]
 | n + 1 => by simp [zerosA, zerosA_len (n := n), Nat.add_mul]; omega
theorem zerosA_get {zs : List AV} : ∀ {n i : Nat}, i < n * zs.length → (zerosA n zs)[i]? = zs[i % zs.length]?
 | 0, i, h => by simp at h
 | n + 1, i, h => by
  simp only [zerosA]
  rw [List.getElem?_append]
  split
  ·rename_i h'; rw [Nat.mod_eq_of_lt h']
  ·rename_i h'
   have h2 : zs.length ≤ i := by omega
   rw [zerosA_get (by rw [Nat.add_mul] at h; omega), Nat.mod_eq_sub_mod h2]
theorem zeros_rel {G : Gh} {T : TokF} {w : World} {zs : List AV} {z : Array Value} (h : AllR G T w zs z) (n : Nat) (hpos : 0 < zs.length) :
  AllR G T w (zerosA n zs) ((Array.range (n * zs.length)).map (z[· % z.size]!)) := by
 refine ⟨by simp [zerosA_len], fun i hi hv => ?_⟩
 rw [zerosA_len] at hi
 have hm : i % zs.length < zs.length := Nat.mod_lt _ hpos
 have h1 := zerosA_get hi
 rw [List.getElem?_eq_getElem (by rw [zerosA_len]; exact hi), List.getElem?_eq_getElem hm] at h1
 rw [Option.some.inj h1]
 have hm' : i % zs.length < z.size := by rw [h.size]; exact hm
 have := h.rel (i % zs.length) hm hm'
 simp only [Array.getElem_map, Array.getElem_range, h.size]
 rw [getElem!_pos z (i % zs.length) hm']
 exact this
section
variable {c : Ctx} {all : Array Oper} {chk : List Rec → Prop} {os : List Oper} {recs : List Rec} {env : Env} {hp : Hp} {Q : St → Prop}
variable {d ty : Nat} {pos : String} {af : Array Edge} {g : Option (Nat × Bool)} {pg : List (Nat × AV)}
variable {t yt : TypeId} {x y : Operand}
theorem Walk.mkRow {op : Op} {xs : List Operand} {vs : List AV} {es : List (List D)} {k : Nat} (hg : GH all env g pg) (hd : Nat.blt d c.n = true) (hx : opdL env xs = some vs) (hk : ∀ e, e ∈ es → e.length = k)
  (h : ∀ (a : Act) (G : Gh) (T : TokF) (w : World), (vs.length = xs.length ∧ ∀ i (hi : i < vs.length) (hx : i < xs.length), RelA G T w vs[i] (a.eval xs[i])) →
   ∃ us e, (execOp a.eval ⟨some d, op, ty, pos, af, g⟩).run c.P w = .ok (.value (.slice (some ⟨w.heap.size, 0, none⟩) es.length es.length)) (w.alloc (.cells us e)) ∧ us.size = es.length * k ∧
    ∀ i (hi : i < es.length) j (hj : j < es[i].length) (hu : i * k + j < us.size), RelD G.F w es[i][j] us[i * k + j])
  (hn : Walk c all chk os (mkRec (pg ++ opFL xs vs) [] [] ⟨some (d, .d (.sl es)), []⟩ :: recs) ⟨(d, .d (.sl es)) :: env, hp⟩ Q) :
  Walk c all chk (⟨some d, op, ty, pos, af, g⟩ :: os) recs ⟨env, hp⟩ Q := by
 refine ⟨pg ++ opFL xs vs, [], [], _, ?_, facts_append hg.facts (opFL_holds hx), by simp, by simp, hn⟩
 intro s a w hrel hp' hh hcr K Q' hK
 obtain ⟨G, hr⟩ := hrel
 obtain ⟨us, e, e1, e2, e3⟩ := h a G (tokf s.hp) w (opdL_rel hr (opdL_facts hx (fun p hm => hp' p (by simp [hm]))))
 have hr' := hr.alloc (.cells us e) us.size
 unfold wpO
 rw [if_pos (hg.gf.wanted hr (fun p hm => hp' p (by simp [hm])))]
 unfold Oper.wp
 rw [e1, Oper.upon_value]
 refine hK _ _ ⟨_, hr'.put (.d ?_) hd⟩
 refine .sl es k w.heap.size 0 es.length (fun n => us.getD n undef) hk (Nat.le_refl _) (fun n hn => ⟨?_, ?_⟩) (fun i hi j hj => ?_)
 ·simp only [Nat.beq_refl, cond_true]; omega
 ·have : n < us.size := by omega
  simp [World.cell?_alloc_new, this]
 ·have hjk : j < k := by rw [← hk _ (List.getElem_mem hi)]; exact hj
  have hlt : i * k + j < us.size := by
   have : (i + 1) * k ≤ es.length * k := Nat.mul_le_mul_right _ (by omega)
   rw [Nat.add_mul] at this
   omega
  have h4 := e3 i hi j hj hlt
  have h5 : us.getD (i * k + j) undef = us[i * k + j] := by simp [Array.getD, hlt]
  rw [h5]
  refine h4.mono (fun b o ho => ?_)
  have hb : b < w.heap.size := by
   rcases Nat.lt_or_ge b w.heap.size with h | h
   ·exact h
   ·rw [hr.top b h] at ho; omega
  have : Nat.beq b w.heap.size = false := by
   cases h : Nat.beq b w.heap.size with
   | true => have := Nat.eq_of_beq_eq_true h; omega
   | false => rfl
  exact ⟨by simpa [this] using ho, World.cell?_alloc_lt w _ _ hb⟩
theorem Walk.sliceLit {parts : Array (Nat × Operand)} {n : Nat} {ks : List Nat} {xs : List Operand} {vs zs r : List AV} {es : List (List D)} {e k yb : Nat} (ht : SlT c.P t e k yb) (hz : TyZ c.P e k zs) (hzk : zs.length = k) (hk : 0 < k)
  (hparts : parts = (ks.zip xs).toArray) (hlen : ks.length = xs.length) (hsmall : n * k ≤ 16777216) (hpos : 0 < n) (hg : GH all env g pg) (hd : Nat.blt d c.n = true) (hx : opdL env xs = some vs)
  (hf : fillA (fun i => some (i * k, k)) (zerosA n zs) (ks.zip vs) = some r) (hc : chunkD n k r = some es)
  (hn : Walk c all chk os (mkRec (pg ++ opFL xs vs) [] [] ⟨some (d, .d (.sl es)), []⟩ :: recs) ⟨(d, .d (.sl es)) :: env, hp⟩ Q) :
  Walk c all chk (⟨some d, .buildSlice t n parts, ty, pos, af, g⟩ :: os) recs ⟨env, hp⟩ Q := by
 subst hparts
 obtain ⟨c1, c2, c3, c4⟩ := chunkD_spec hc
 refine Walk.mkRow hg hd hx c2 (fun a G T w h => ?_) hn
 obtain ⟨ie, hi1, hi2, hi3⟩ := ht.inf
 obtain ⟨i', z, z1, z2, z3, z4⟩ := hz.inf
 rw [hi1] at z1
 cases z1
 have hz0 := constAVs_rel (G := G) (T := T) (w := w) z4
 have hzr := zeros_rel (by simpa using hz0) n (by omega)
 obtain ⟨lv, hlv, hal⟩ := fillA_spec (ks.zip vs) (ks.zip (xs.map a.eval)) _ r _ hf hzr (by simp [h.1]) (zipVs h hlen)
 have hpos' : ¬ n * ie.size = 0 := by rw [hi2]; exact Nat.ne_of_gt (Nat.mul_pos hpos hk)
 have hrun := run_buildSlice (P := c.P) w t e n ((ks.zip xs).toArray.map fun (i, x) => (i, a.eval x)) lv ie z ht.und hi1 z3 (by rw [hi2]; omega) hpos' (by
  rw [hi2, ← hlv]
  congr 1
  ·rw [hzk]
  ·simp [List.zip_map_right, Prod.map])
 refine ⟨lv, e, ?_, by rw [hal.size, c3, c1], fun i hi j hj hu => ?_⟩
 ·rw [c1]
  simp only [execOp, Sem.run_bind, hrun, Result.andThen_ok, Sem.run_pure]
 ·have hl : i * k + j < r.length := by rw [← hal.size]; exact hu
  exact (hal.rel _ hl hu).toD (c4 i hi j hj hl)
theorem Walk.sliceEmpty {e k yb : Nat} (ht : SlT c.P t e k yb) (hg : GH all env g pg) (hd : Nat.blt d c.n = true)
  (hn : Walk c all chk os (mkRec (pg ++ opFL [] []) [] [] ⟨some (d, .d (.sl [])), []⟩ :: recs) ⟨(d, .d (.sl [])) :: env, hp⟩ Q) :
  Walk c all chk (⟨some d, .buildSlice t 0 #[], ty, pos, af, g⟩ :: os) recs ⟨env, hp⟩ Q := by
 refine Walk.mkRow (xs := []) (vs := []) (k := k) hg hd rfl (by simp) (fun a G T w h => ?_) hn
 obtain ⟨ie, hi1, hi2, hi3⟩ := ht.inf
 refine ⟨#[], e, ?_, by simp, fun i hi => by simp at hi⟩
 simp [execOp, Instr.buildSlice, run_underlying ht.und, sizeOf, run_ti hi1, Instr.fill, newRow, Array.range_zero']
theorem Walk.make {id e k yb m : Nat} {zs : List AV} (ht : SlT c.P t e k yb) (hz : TyZ c.P e k zs) (hzk : zs.length = k) (hk : 0 < k) (hids : AV.idsL (zerosA m zs) = []) (hg : GH all env g pg) (hd : Nat.blt d c.n = true)
  (hx : opd env x = some (.d (.i m))) (hy : opd env y = some (.d (.i m))) (hb : yb * m ≤ 281474976710656) (hm : (m : Int) ≤ 9223372036854775807)
  (h0 : getH hp id = none) (ho1 : occE id env = false) (ho2 : occH id hp = false)
  (hn : Walk c all chk os (mkRec (pg ++ opFL [x, y] [.d (.i m), .d (.i m)]) [] [id] ⟨some (d, .ms id m), [(id, some (.box (zerosA m zs)))]⟩ :: recs) ⟨(d, .ms id m) :: env, (id, some (.box (zerosA m zs))) :: hp⟩ Q) :
  Walk c all chk (⟨some d, .makeSlice t x y, ty, pos, af, g⟩ :: os) recs ⟨env, hp⟩ Q := by
 refine Walk.mkBox hg hd (by simp [opdL, hx, hy]) h0 ho1 ho2 (by rw [hids]; rfl) (fun a G T w h => ?_) hn
 have h1 := h.2 0 (by simp) (by simp)
 have h2 := h.2 1 (by simp) (by simp)
 simp only [List.getElem_cons_zero, List.getElem_cons_succ] at h1 h2
 obtain ⟨ie, hi1, hi2, hi3⟩ := ht.inf
 obtain ⟨i', z, z1, z2, z3, z4⟩ := hz.inf
 rw [hi1] at z1
 cases z1
 have hz0 := constAVs_rel (G := G) (T := T) (w := w) z4
 have hzr := zeros_rel (by simpa using hz0) m (by omega)
 have hb' : (yb : Int) * (m : Int) ≤ 281474976710656 := by
  have h : ((yb * m : Nat) : Int) ≤ 281474976710656 := by omega
  rwa [Int.natCast_mul] at h
 have hrun := run_make (P := c.P) w t e ie z ht.und hi1 z3 .i64 .i64 m m (by omega) (Int.le_refl _) (by rw [hi3]; exact hb') hm
 refine ⟨.slice (some ⟨w.heap.size, 0, none⟩) m m, madeCells z.cells (m * k), e, ?_, ?_, fun G' T' w' hl hT => .ms (one_head hl) hT (Nat.le_refl _)⟩
 ·simp only [execOp, h1.int_eq, h2.int_eq, Sem.run_bind, hrun, Result.andThen_ok, Sem.run_pure, Int.toNat_natCast, hi2]
 ·have : madeCells z.cells (m * k) = (Array.range (m * zs.length)).map (z.cells[· % z.cells.size]!) := by rw [hzk]; rfl
  rw [this]
  exact hzr
end
end Go.Proofs.Ytadpcmcifbakoaa
