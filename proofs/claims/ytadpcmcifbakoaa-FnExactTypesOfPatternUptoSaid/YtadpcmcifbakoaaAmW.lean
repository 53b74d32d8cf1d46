/-
  THE ABSTRACT WALK, part W: trees read and written, never written again, and lent to a call that reads.
-/
import Derived.Test.YtadpcmcifbakoaaAmV
namespace Go.Proofs.Ytadpcmcifbakoaa
open Go
set_option linter.unusedSimpArgs false
set_option linter.unusedVariables false
def seeC : AV → AV
 | .own _ (.sl []) => .d (.sl [])
 | .own _ _ => .any
 | x => x
theorem CellR.see {G : Gh} {T : TokF} {w : World} {x : AV} {v : Value} {S : List Nat} (h : CellR G T w x v S) : RelA G T w (seeC x) v := by
 cases x with
 | own m y =>
  have h' : TreeD m w y v S := h
  unfold seeC
  split
  ·rename_i he
   cases he
   cases h' with
   | nil => exact .d .nil
   | emp b off s cap => exact .d (.emp b off s cap)
   | em0 b off cap => exact .d (.sl [] 0 b off cap (fun _ => undef) (by simp) (by simp) (fun n hn => by simp at hn) (fun i hi => by simp at hi))
   | sl xs k b cap cs e Ss hk hcap hb hc hr =>
    exact .d (.sl [] 0 b 0 cap (fun _ => undef) (by simp) (by simp) (fun n hn => by simp at hn) (fun i hi => by simp at hi))
  ·exact .any _
  ·rename_i h1 h2; exact absurd rfl (h2 m y)
 | _ => exact h.2
section
variable {c : Ctx} {all : Array Oper} {chk : List Rec → Prop} {os : List Oper} {recs : List Rec} {env : Env} {hp : Hp} {Q : St → Prop}
variable {d ty : Nat} {pos : String} {af : Array Edge} {g : Option (Nat × Bool)} {pg : List (Nat × AV)}
variable {t k id off : Nat} {x y : Operand}
theorem TreeR.head {G : Gh} {T : TokF} {w : World} {id : Nat} {cs : List AV} {b b' : Nat} {vs : Array Value} {e : TypeId} {Ss : Nat → List Nat} (h : TreeR G T w id cs b vs e Ss) (h2 : (G.loc id).head? = some b') : b' = b := by
 rw [h.loc] at h2; exact (Option.some.inj h2).symm
theorem Walk.loadT {cs : List AV} {v : AV} (ht : TyS c.P t k false) (hg : GH all env g pg) (hd : Nat.blt d c.n = true) (hx : opd env x = some (.ref id off))
  (hb : getH hp id = some (.tree cs)) (hv : (cs[off]?).map seeC = some v)
  (hn : Walk c all chk os (mkRec (pg ++ opF x (.ref id off)) [(id, .tree cs)] [] ⟨some (d, v), []⟩ :: recs) ⟨(d, v) :: env, hp⟩ Q) :
  Walk c all chk (⟨some d, .load t x, ty, pos, af, g⟩ :: os) recs ⟨env, hp⟩ Q := by
 refine Walk.read1 hg hd hx (hh1 hb) (fun a G s w hr hh h1 => ?_) hn
 obtain ⟨b, hl, he⟩ := h1.ref_eq
 obtain ⟨b', vs, e, Ss, hT⟩ := hr.heap id _ (hh1' hh)
 obtain rfl := hT.head hl.1
 obtain ⟨v0, hv0, rfl⟩ := Option.map_eq_some_iff.1 hv
 obtain ⟨hlt, hv'⟩ := List.getElem?_eq_some_iff.1 hv0
 have hlv : off < vs.size := by have := hT.len; omega
 refine ⟨vs[off], ?_, ?_⟩
 ·have hcell : w.cell? ⟨b, off, none⟩ = some vs[off] := by simp [World.cell?, hT.at_, hlv]
  simp only [execOp, he, Instr.loadAt, Instr.sureAddr, Sem.run_bind, Sem.run_pure, Result.andThen_ok, run_loadVar_one ht hcell]
 ·have := hT.cell off hlt hlv
  rw [hv'] at this
  exact this.see
theorem Walk.loadTA {cs r : List AV} (ht : TyS c.P t k true) (hg : GH all env g pg) (hd : Nat.blt d c.n = true) (hx : opd env x = some (.ref id off))
  (hb : getH hp id = some (.tree cs)) (hv : (cutC cs off k).map (·.map seeC) = some r)
  (hn : Walk c all chk os (mkRec (pg ++ opF x (.ref id off)) [(id, .tree cs)] [] ⟨some (d, .agg r), []⟩ :: recs) ⟨(d, .agg r) :: env, hp⟩ Q) :
  Walk c all chk (⟨some d, .load t x, ty, pos, af, g⟩ :: os) recs ⟨env, hp⟩ Q := by
 refine Walk.read1 hg hd hx (hh1 hb) (fun a G s w hr hh h1 => ?_) hn
 obtain ⟨b, hl, he⟩ := h1.ref_eq
 obtain ⟨b', vs, e, Ss, hT⟩ := hr.heap id _ (hh1' hh)
 obtain rfl := hT.head hl.1
 obtain ⟨r0, hr0, rfl⟩ := Option.map_eq_some_iff.1 hv
 obtain ⟨hlen, hget⟩ := cutC_spec hr0
 have h4 := hT.len
 have hbd : ∀ i, i < k → off + i < cs.length := fun i hi => by
  have := hget i hi
  rw [List.getElem?_eq_getElem (by omega)] at this
  rcases Nat.lt_or_ge (off + i) cs.length with h | h
  ·exact h
  ·rw [List.getElem?_eq_none h] at this; cases this
 let l : List Value := (List.range k).map fun i => vs.getD (off + i) undef
 refine ⟨.agg l.toArray, ?_, ?_⟩
 ·have hcell : ∀ j v, l[j]? = some v → w.cell? ⟨b, off + j, none⟩ = some v := fun j v hj => by
   simp only [l, List.getElem?_map, Option.map_eq_some_iff] at hj
   obtain ⟨i, hi, rfl⟩ := hj
   obtain ⟨hi1, rfl⟩ := List.getElem?_eq_some_iff.1 hi
   simp only [List.length_range] at hi1
   have := hbd j hi1
   simp [World.cell?, hT.at_, List.getElem_range, show off + j < vs.size by omega]
  simp only [execOp, he, Instr.loadAt, Instr.sureAddr, Sem.run_bind, Sem.run_pure, Result.andThen_ok, run_loadVar_agg ht (by simp [l]) hcell]
 ·refine .agg (by simp [l, hlen]) (fun i hi hv' => ?_)
  simp only [List.length_map] at hi
  have hik : i < k := by omega
  have h7 := hbd i hik
  have h8 : r0[i] = cs[off + i] := by
   have := hget i hik
   rw [List.getElem?_eq_getElem hi, List.getElem?_eq_getElem h7] at this
   exact Option.some.inj this
  have h9 : off + i < vs.size := by omega
  have := (hT.cell (off + i) h7 h9).see
  rw [List.getElem_map, h8]
  simpa [l, h9] using this
end
section
variable {c : Ctx}
theorem R.setTree {G : Gh} {s : St} {a : Act} {w : World} (hr : R c G s a w) {id b : Nat} {cs cs' : List AV} {vs vs' : Array Value} {e : TypeId} {Ss Ss' : Nat → List Nat} (hb : getH s.hp id = some (.tree cs))
  (hT : TreeR G (tokf s.hp) w id cs b vs e Ss) (hlen : cs'.length = cs.length) (hsz : vs'.size = vs.size) (hsub : ∀ i, i < cs.length → (Ss' i).Sublist (Ss i))
  (hcell : ∀ i (hi : i < cs'.length) (hv : i < vs'.size), CellR G (tokf s.hp) w cs'[i] vs'[i] (Ss' i)) :
  ∃ G', R c G' ⟨s.env, (id, some (.tree cs')) :: s.hp⟩ a (w.setRow b vs') ∧ G'.F = G.F := by
 have htok : tokf ((id, some (.tree cs')) :: s.hp) = tokf s.hp := by
  funext i
  unfold tokf
  rw [getH_cons]
  by_cases h : i = id
  ·subst h; rw [if_pos rfl, hb]
  ·rw [if_neg h]
 have hTn : tokf s.hp id = none := by unfold tokf; rw [hb]
 have hother : ∀ k, k ≠ b → (w.setRow b vs').heap[k]? = w.heap[k]? := fun k hk => setRow_other w b k vs' hk
 have hbl : b ∈ G.loc id := by rw [hT.loc]; simp
 have hF := (hT.mine b hbl).1
 have hnd := hT.nodup
 rw [hT.loc] at hnd
 have hnd' := List.nodup_cons.1 hnd
 let G' : Gh := { G with loc := fun i => bif Nat.beq i id then b :: (List.range cs'.length).flatMap Ss' else G.loc i }
 have l1 : G'.loc id = b :: (List.range cs'.length).flatMap Ss' := by simp [G']
 have l3 : ∀ i, i ≠ id → G'.loc i = G.loc i := fun i h2 => by simp [G', beq_ne h2]
 have hsubl : ((List.range cs'.length).flatMap Ss').Sublist ((List.range cs.length).flatMap Ss) := by
  rw [hlen]
  exact nodup_flatMap_sub hnd'.2 (fun i hi => hsub i (by simpa using hi))
 have hsub2 : ∀ x, x ∈ G'.loc id → x ∈ G.loc id := fun x hx => by
  rw [l1] at hx
  rw [hT.loc]
  rcases List.mem_cons.1 hx with h | h
  ·simp [h]
  ·exact List.mem_cons_of_mem _ (hsubl.subset h)
 have hsub3 : ∀ i x, x ∈ G'.loc i → x ∈ G.loc i := fun i x hx => by
  by_cases hi : i = id
  ·subst hi; exact hsub2 x hx
  ·rw [l3 i hi] at hx; exact hx
 have hcl : ∀ b' o, o < G.F b' → o < G.F b' ∧ (w.setRow b vs').cell? ⟨b', o, none⟩ = w.cell? ⟨b', o, none⟩ := fun b' o ho => by
  have hne : b' ≠ b := fun e => by subst e; rw [hF] at ho; omega
  exact ⟨ho, cell_setRow_other w b vs' _ hne⟩
 have hs0 : (getH s.hp id).isSome := by rw [hb]; rfl
 have hne : ∀ i, (getH s.hp i).isSome → i ≠ id → ∀ b', b' ∈ G.loc i → b' ≠ b := fun i hi hne b' hb' e => by
  subst e
  exact hr.disj i id hi hs0 hne b' hb' hbl
 have hm : ∀ {x : AV} {v : Value}, RelA G (tokf s.hp) w x v → RelA G' (tokf s.hp) (w.setRow b vs') x v := fun hx =>
  hx.mono hcl (fun i _ => by
   by_cases hi : i = id
   ·subst hi; exact .inr ⟨hTn, by rw [l1, hT.loc]; rfl⟩
   ·exact .inl (l3 i hi)) (fun i _ p hp => ⟨hp, fun b' hb' => ⟨hother b' (hne i ?_ ?_ b' hb'), rfl⟩⟩)
 ·have hget : ∀ i, (getH ((id, some (Res.tree cs')) :: s.hp) i).isSome → (getH s.hp i).isSome := fun i h => by
   rw [getH_cons] at h
   split at h
   ·rename_i e; subst e; exact hs0
   ·exact h
  have hbnew := hr.new id hs0 b hbl
  refine ⟨G', ⟨hr.size, hr.defers, fun i v h => by rw [htok]; exact hm (hr.slots i v h), fun i r h => ?_, fun i j h1 h2 h3 x hx hx2 => hr.disj i j (hget i h1) (hget j h2) h3 x (hsub3 i x hx) (hsub3 j x hx2),
   fun i h x hx => hr.new i (hget i h) x (hsub3 i x hx),
   hr.frm.trans (own1 := [b]) ⟨rfl, rfl, rfl, by simp, fun k _ hk => ⟨hother k (fun e => hk (by simp [e])), rfl⟩, hcl⟩ (fun k hk => by simp only [List.mem_singleton] at hk; subst hk; exact hbnew),
   fun k hk => hr.top k (by simpa using hk), fun i l hl' => ?_⟩, rfl⟩
  ·rw [htok]
   have h' : getH ((id, some (Res.tree cs')) :: s.hp) i = some r := h
   rw [getH_cons] at h'
   by_cases hi : i = id
   ·subst hi
    rw [if_pos rfl] at h'
    cases h'
    refine ⟨b, vs', e, Ss', l1, setRow_heap w b vs vs' e _ hT.at_, by rw [hlen, hsz]; exact hT.len, ?_, fun x hx => ?_, fun j hj hv => (hcell j hj hv).map hm (fun x hx => hother x (fun e => ?_))⟩
    ·rw [l1]; exact List.nodup_cons.2 ⟨fun h => hnd'.1 (hsubl.subset h), hsubl.nodup hnd'.2⟩
    ·have := hT.mine x (hsub2 x hx)
     exact ⟨this.1, by simpa using this.2⟩
    ·subst e
     exact hnd'.1 (List.mem_flatMap.2 ⟨j, List.mem_range.2 (by omega), (hsub j (by omega)).subset hx⟩)
   ·rw [if_neg hi] at h'
    have hh := hr.heap i r h'
    have hs : (getH s.hp i).isSome := by rw [h']; rfl
    have hne' := hne i hs hi
    have hl := l3 i hi
    cases r with
    | box cs2 =>
     obtain ⟨b2, vs2, e2, h1, h2, h3, h4, h5⟩ := hh
     exact ⟨b2, vs2, e2, hl.trans h1, (hother b2 (hne' b2 (by simp [h1]))).trans h2, h3, h4, fun j hj hv => hm (h5 j hj hv)⟩
    | tok n k => exact fun b2 h1 => by rw [hl] at h1; simpa using hh b2 h1
    | map ks =>
     obtain ⟨b2, es, cl, h1, h2, h3⟩ := hh
     exact ⟨b2, es, cl, hl.trans h1, (hother b2 (hne' b2 (by simp [h1]))).trans h2, h3⟩
    | tree cs2 => exact tree_mono hh hl (fun b' hb' => ⟨hother b' (hne' b' hb'), rfl⟩) (by simp) (fun _ _ _ => hm)
  ·have hk := hr.kept i l hl'
   show (G'.loc i).head? = l.head? ∧ (getH ((id, some (Res.tree cs')) :: s.hp) i).isSome ∧ tokf ((id, some (Res.tree cs')) :: s.hp) i = none
   refine ⟨?_, ?_, by rw [htok]; exact hk.2.2⟩
   ·by_cases hi : i = id
    ·subst hi; rw [l1, ← hk.1, hT.loc]; rfl
    ·rw [l3 i hi]; exact hk.1
   ·rw [getH_cons]
    split
    ·rfl
    ·exact hk.2.1
 ·obtain ⟨n, q⟩ := p
  rw [tokf_some.1 hp]; rfl
 ·rintro rfl
  rw [hTn] at hp; cases hp
end
section
variable {c : Ctx} {all : Array Oper} {chk : List Rec → Prop} {os : List Oper} {recs : List Rec} {env : Env} {hp : Hp} {Q : St → Prop}
variable {d ty : Nat} {pos : String} {af : Array Edge} {g : Option (Nat × Bool)} {pg : List (Nat × AV)}
variable {t yt : TypeId} {x y : Operand}
theorem Walk.storeT {id off k : Nat} {b : Bool} {v : AV} {cs vs cs' : List AV} (ht : TyS c.P t k b) (hg : GH all env g pg) (hx : opd env x = some (.ref id off)) (hy : opd env y = some v)
  (hb : getH hp id = some (.tree cs)) (hv : cellsA v = some vs) (hk : vs.length = k) (h1 : allOne vs = true) (hne : vs ≠ []) (hput : putC cs off vs = some cs')
  (hn : Walk c all chk os (mkRec (pg ++ (opF x (.ref id off) ++ opF y v)) [(id, .tree cs)] [] ⟨none, [(id, some (.tree cs'))]⟩ :: recs) ⟨env, (id, some (.tree cs')) :: hp⟩ Q) :
  Walk c all chk (⟨none, .store t x y, ty, pos, af, g⟩ :: os) recs ⟨env, hp⟩ Q := by
 refine ⟨pg ++ (opF x (.ref id off) ++ opF y v), [(id, .tree cs)], [], _, ?_, facts_append hg.facts (facts_append (opF_holds hx) (opF_holds hy)), hh1 hb, by simp, hn⟩
 intro s a w hrel hp' hh _ K Q' hK
 obtain ⟨G, hr⟩ := hrel
 have hbx := hh1' hh
 have e1 := hr.opd (opd_facts hx (fun p hm => hp' p (by simp [hm])))
 have e2 := hr.opd (opd_facts hy (fun p hm => hp' p (by simp [hm])))
 obtain ⟨bl, hl, he⟩ := e1.ref_eq
 obtain ⟨b', us, e, Ss, hT⟩ := hr.heap id _ hbx
 obtain rfl := hT.head hl.1
 have hvr := cellsA_rel e2 hv
 obtain ⟨p1, p2, p3⟩ := putC_spec hput
 have p2' := p2.resolve_left hne
 have hsz := hvr.size
 have h4 := hT.len
 let vl := (a.eval y).cells.toList
 have hvl : vl.length = vs.length := by simp [vl, hsz]
 have hst := run_storeCells_at c.P bl off e vl 0 us w hT.at_ (by omega) (fun u hu => by
  obtain ⟨i, hi, rfl⟩ := List.getElem_of_mem hu
  have hi' : i < vs.length := by omega
  have := hvr.rel i hi' (by simpa [vl] using hi)
  simpa [vl] using this.one (allOne_iff h1 _ (List.getElem_mem hi')))
 simp only [Nat.add_zero] at hst
 let row : Array Value := (us.toList.take off ++ vl ++ us.toList.drop (off + vl.length)).toArray
 have hrs : row.size = us.size := by
  simp only [row, List.size_toArray, List.length_append, List.length_take, List.length_drop, Array.length_toList]; omega
 have hrow : ∀ i, row[i]? = if off ≤ i ∧ i < off + vl.length then vl[i - off]? else us[i]? := fun i => by
  simp only [row, List.getElem?_toArray]
  rw [List.append_assoc, List.getElem?_append]
  simp only [List.length_take, Array.length_toList]
  by_cases hi : i < off
  ·rw [if_pos (by omega), if_neg (by omega)]
   simp [hi]
  ·rw [if_neg (by omega), List.getElem?_append]
   have hm : min off us.size = off := by omega
   rw [hm]
   by_cases hi2 : i < off + vl.length
   ·rw [if_pos (by omega), if_pos (by omega)]
   ·rw [if_neg (by omega), if_neg (by omega)]
    rw [List.getElem?_drop, show off + vl.length + (i - off - vl.length) = i by omega]
    simp
 let Ss' : Nat → List Nat := fun i => if off ≤ i ∧ i < off + vs.length then [] else Ss i
 obtain ⟨G', hR, _⟩ := hr.setTree (cs' := cs') (vs' := row) (Ss' := Ss') hbx hT p1 hrs (fun i hi => by
  simp only [Ss']
  split
  ·exact List.nil_sublist _
  ·exact List.Sublist.refl _) (fun i hi hvi => by
  have q1 := p3 i
  have q2 := hrow i
  rw [List.getElem?_eq_getElem hi] at q1
  rw [Array.getElem?_eq_getElem hvi, hvl] at q2
  by_cases hc : off ≤ i ∧ i < off + vs.length
  ·rw [if_pos hc] at q1 q2
   have hlt : i - off < vs.length := by omega
   have hlt' : i - off < (a.eval y).cells.size := by omega
   rw [List.getElem?_eq_getElem hlt] at q1
   have q3 : vl[i - off]? = some (a.eval y).cells[i - off] := by simp [vl, hlt']
   rw [q3] at q2
   have h5 : Ss' i = [] := by simp [Ss', hc]
   rw [h5, Option.some.inj q1, Option.some.inj q2]
   have h6 := hvr.rel (i - off) hlt hlt'
   revert h6
   generalize vs[i - off] = z
   intro h6
   cases z with
   | own m y => cases h6
   | _ => exact ⟨rfl, h6⟩
  ·rw [if_neg hc] at q1 q2
   have hlt : i < cs.length := by omega
   have hlt' : i < us.size := by omega
   rw [List.getElem?_eq_getElem hlt] at q1
   rw [Array.getElem?_eq_getElem hlt'] at q2
   have h5 : Ss' i = Ss i := by simp only [Ss']; rw [if_neg hc]
   rw [h5, Option.some.inj q1, Option.some.inj q2]
   exact hT.cell i hlt hlt')
 unfold wpO
 rw [if_pos (hg.gf.wanted hr (fun p hm => hp' p (by simp [hm])))]
 unfold Oper.wp
 have hrun : (execOp a.eval ⟨none, .store t x y, ty, pos, af, g⟩).run c.P w = .ok .skip (w.setRow bl row) := by
  have hsz2 : (a.eval y).cells.size = k := by omega
  simp only [execOp, he, Instr.storeAt, Instr.sureAddr, Sem.run_bind, Sem.run_pure, Result.andThen_ok, storeVar, ht.run_size]
  simp only [hsz2, ne_eq, not_true_eq_false, if_false]
  have hst' := hst
  simp only [vl] at hst'
  simp only [Result.andThen_ok, hst', row, vl]
 rw [hrun, Oper.upon_skip]
 exact hK _ _ ⟨G', hR.putNone⟩
end
def flatA : AV → Bool
 | .d x => flatD x
 | .nils => true
 | .ref _ _ => true
 | .ms _ _ => true
 | .gt _ _ => true
 | .tup vs => flatL vs
 | .agg vs => flatL vs
 | .any => true
 | _ => false
where flatL : List AV → Bool
 | [] => true
 | x :: r => flatA x && flatL r
theorem flatL_at : ∀ {l : List AV}, flatA.flatL l = true → ∀ i (hi : i < l.length), flatA l[i] = true
 | x :: r, h, i, hi => by
  simp only [flatA.flatL, Bool.and_eq_true] at h
  cases i with
  | zero => exact h.1
  | succ i => exact flatL_at h.2 i (by simpa using hi)
theorem RelD.flat {F F' : Nat → Nat} {w w' : World} {x : D} {v : Value} (hf : flatD x = true) (h : RelD F w x v) : RelD F' w' x v := by
 cases h with
 | int k n => exact .int _ _
 | bool b => exact .bool _
 | str s => exact .str _
 | nil => exact .nil
 | emp b off s cap => exact .emp b off s cap
 | sl xs k b off cap c hk hcap hc hr =>
  cases xs with
  | nil => exact .sl [] k b off cap c hk hcap (fun n hn => by simp at hn) (fun i hi => by simp at hi)
  | cons x r => simp [flatD] at hf
 | ptr cs b o off c hc hr => simp [flatD] at hf
 | nilp => simp [flatD] at hf
theorem RelA.flat {G G' : Gh} {T : TokF} {w : World} {x : AV} {v : Value} (h : RelA G T w x v) : flatA x = true → (∀ id, id ∈ x.ids → G'.loc id = G.loc id) → (∀ id, id ∈ x.ids → ∀ b, b ∈ G.loc id → G'.F b = G.F b) → RelA G' T w x v := by
 induction h with
 | d h => intro hf _ _; exact .d (h.flat hf)
 | gl h ht => intro hf; simp [flatA] at hf
 | gv hv ht => intro hf; simp [flatA] at hf
 | @gt id xs v hv ht =>
  intro hf hl hF
  refine .gt hv (fun n k hT => ⟨(ht n k hT).1, fun hn => ?_⟩)
  obtain ⟨h1, h2⟩ := (ht n k hT).2 hn
  exact ⟨h1, h2.mono hn h1 (hl id (by simp [AV.ids])) (fun b hb => ⟨rfl, hF id (by simp [AV.ids]) b hb⟩)⟩
 | ref h hT => intro hf hl _; exact .ref (by rw [hl _ (by simp [AV.ids])]; exact h) hT
 | ms h hT hcap => intro hf hl _; exact .ms (by rw [hl _ (by simp [AV.ids])]; exact h) hT hcap
 | mo h hT hcap ho => intro hf; simp [flatA] at hf
 | mapr h hT => intro hf; simp [flatA] at hf
 | fn hn h ih => intro hf; simp [flatA] at hf
 | @agg cs vs hn h ih =>
  intro hf hl hF
  simp only [flatA] at hf
  exact .agg hn (fun i hi hv => ih i hi hv (flatL_at hf i hi) (fun id hid => hl id (by simp only [AV.ids]; exact AV.mem_idsL (List.getElem_mem hi) hid)) (fun id hid => hF id (by simp only [AV.ids]; exact AV.mem_idsL (List.getElem_mem hi) hid)))
 | @tup cs vs hn h ih =>
  intro hf hl hF
  simp only [flatA] at hf
  exact .tup hn (fun i hi hv => ih i hi hv (flatL_at hf i hi) (fun id hid => hl id (by simp only [AV.ids]; exact AV.mem_idsL (List.getElem_mem hi) hid)) (fun id hid => hF id (by simp only [AV.ids]; exact AV.mem_idsL (List.getElem_mem hi) hid)))
 | nils => intro _ _ _; exact .nils
 | sn h hn => intro hf; simp [flatA] at hf
 | any v => intro _ _ _; exact .any v
mutual
inductive Lent (lr : List (Nat × Res)) : AV → AV → Prop
 | le {x y} (h : LeA x y) : Lent lr x y
 | ms {id n m k} {xs : List (List D)} (hb : (id, .tree (ownCells m xs)) ∈ lr) (hk : ∀ x, x ∈ xs → x.length = k) (hn : n = xs.length) : Lent lr (.ms id n) (.d (.sl xs))
 | agg {cs ds} (h : LentL lr cs ds) : Lent lr (.agg cs) (.agg ds)
inductive LentL (lr : List (Nat × Res)) : List AV → List AV → Prop
 | nil : LentL lr [] []
 | cons {x y l m} (h : Lent lr x y) (t : LentL lr l m) : LentL lr (x :: l) (y :: m)
end
theorem LentL.len {lr : List (Nat × Res)} : ∀ {cs ds : List AV}, LentL lr cs ds → cs.length = ds.length
 | [], _, h => by cases h; rfl
 | x :: r, _, h => by cases h with | cons h t => simp [t.len]
theorem LentL.at {lr : List (Nat × Res)} : ∀ {cs ds : List AV}, LentL lr cs ds → ∀ i (hi : i < cs.length) (hj : i < ds.length), Lent lr cs[i] ds[i]
 | [], _, _, i, hi, _ => by simp at hi
 | x :: r, _, h, i, hi, hj => by
  cases h with
  | cons h t =>
   cases i with
   | zero => exact h
   | succ i => exact LentL.at t i (by simpa using hi) (by simpa using hj)
def lentB (G : Gh) (lr : List (Nat × Res)) (b : Nat) : Bool := lr.any fun p => elemB b (G.loc p.1)
theorem lentB_iff {G : Gh} {lr : List (Nat × Res)} {b : Nat} : lentB G lr b = true ↔ ∃ p, p ∈ lr ∧ b ∈ G.loc p.1 := by
 simp only [lentB, List.any_eq_true, elemB_iff]
def allTree : List (Nat × Res) → Bool
 | [] => true
 | (_, .tree _) :: r => allTree r
 | _ => false
theorem allTree_at : ∀ {lr : List (Nat × Res)}, allTree lr = true → ∀ p, p ∈ lr → ∃ cs, p.2 = .tree cs
 | (i, .tree cs) :: r, h, p, hp => by
  rcases List.mem_cons.1 hp with rfl | hp
  ·exact ⟨cs, rfl⟩
  ·exact allTree_at (lr := r) h p hp
def lendG (G : Gh) (w : World) (lr : List (Nat × Res)) : Gh := { G with F := fun b => bif lentB G lr b then szB w b else G.F b }
section
variable {c : Ctx} {G : Gh} {s : St} {a : Act} {w : World} {lr : List (Nat × Res)}
theorem lent_zero (hr : R c G s a w) (hh : ∀ p, p ∈ lr → getH s.hp p.1 = some p.2) (hall : allTree lr = true) {b : Nat} (hb : lentB G lr b = true) : G.F b = 0 ∧ b < w.heap.size := by
 obtain ⟨p, hp, hbp⟩ := lentB_iff.1 hb
 obtain ⟨cs, hcs⟩ := allTree_at hall p hp
 have := hr.heap p.1 _ (hh p hp)
 rw [hcs] at this
 obtain ⟨b', vs, e, Ss, hT⟩ := this
 exact hT.mine b hbp
theorem lendG_le (hr : R c G s a w) (hh : ∀ p, p ∈ lr → getH s.hp p.1 = some p.2) (hall : allTree lr = true) : ∀ b o, o < G.F b → o < (lendG G w lr).F b ∧ w.cell? ⟨b, o, none⟩ = w.cell? ⟨b, o, none⟩ := by
 intro b o ho
 refine ⟨?_, rfl⟩
 simp only [lendG]
 cases hb : lentB G lr b with
 | true => rw [(lent_zero hr hh hall hb).1] at ho; omega
 | false => exact ho
theorem lent_rel (hr : R c G s a w) (hh : ∀ p, p ∈ lr → getH s.hp p.1 = some p.2) (hall : allTree lr = true) {x : AV} {v : Value} (hR : RelA G (tokf s.hp) w x v) :
  ∀ {y : AV}, Lent lr x y → RelA (lendG G w lr) (fun _ => none) w y v := by
 have base : ∀ {x : AV} {v : Value}, RelA G (tokf s.hp) w x v → RelA (lendG G w lr) (fun _ => none) w x v := fun h =>
  h.mono (lendG_le hr hh hall) (fun _ _ => .inl rfl) (fun _ _ p hp => by cases hp)
 induction hR with
 | @ms id n b cap h hT hcap =>
  intro y hy
  cases hy with
  | le h => exact (base (.ms (by assumption) hT hcap)).le h
  | @ms _ _ m k xs hb hk hn =>
   subst hn
   obtain ⟨b', vs, e, Ss, hTr⟩ := hr.heap id _ (hh _ hb)
   obtain rfl := hTr.head h
   have hlen : (ownCells m xs).length = xs.length * k := ownCells_len hk
   have hle : xs.length * k ≤ vs.size := by have := hTr.len; omega
   have hS : ∀ x, x ∈ G.loc id → szB w x ≤ (lendG G w lr).F x := fun x hx => by
    simp only [lendG, lentB_iff.2 ⟨_, hb, hx⟩, cond_true]; exact Nat.le_refl _
   have hbl : b ∈ G.loc id := by rw [hTr.loc]; simp
   have hsz : szB w b = vs.size := by simp [szB, hTr.at_]
   refine .d (.sl xs k b 0 cap (fun n => vs.getD n undef) hk hcap (fun n hn => ⟨by have := hS b hbl; omega, ?_⟩) (fun i hi j hj => ?_))
   ·have : n < vs.size := by omega
    simp [World.cell?, hTr.at_, this]
   ·have hjk : j < k := by rw [← hk _ (List.getElem_mem hi)]; exact hj
    have hlt : i * k + j < (ownCells m xs).length := by rw [hlen]; exact cell_lt hi hjk
    have hlv : i * k + j < vs.size := Nat.lt_of_lt_of_le hlt hTr.len
    have h1 := hTr.cell (i * k + j) hlt hlv
    have h2 := ownCells_at (m := m) hk hi hj
    rw [List.getElem?_eq_getElem hlt] at h2
    rw [Option.some.inj h2] at h1
    rw [getD_eq hlv]
    have hsub : ∀ x, x ∈ Ss (i * k + j) → x ∈ G.loc id := fun x hx => by
     rw [hTr.loc]; exact List.mem_cons_of_mem _ (List.mem_flatMap.2 ⟨_, List.mem_range.2 hlt, hx⟩)
    have tr : ∀ {y : D} {u : Value}, TreeD m w y u (Ss (i * k + j)) → RelD (lendG G w lr).F w y u := fun h => h.toD (fun x hx => hS x (hsub x hx))
    have pl : ∀ {y : D} {u : Value}, flatD y = true → RelA G (tokf s.hp) w (.d y) u → RelD (lendG G w lr).F w y u := fun hf h => h.d_inv.flat hf
    generalize xs[i][j] = y at h1
    cases y with
    | int kd q => exact pl rfl h1.2
    | bool q => exact pl rfl h1.2
    | str q => exact pl rfl h1.2
    | sl ys => exact tr h1
    | ptr q r => exact tr h1
    | nilp => exact tr h1
 | @agg cs vs hn h ih =>
  intro y hy
  cases hy with
  | le hle => exact (base (.agg hn h)).le hle
  | agg hl =>
   refine .agg (by rw [hn, hl.len]) (fun i hi hv => ?_)
   have hc : i < cs.length := by rw [hl.len]; exact hi
   exact ih i hc hv (hl.at i hc hi)
 | d h => intro y hy; cases hy with | le hle => exact (base (.d h)).le hle
 | gl h ht => intro y hy; cases hy with | le hle => exact (base (.gl h ht)).le hle
 | gv h ht => intro y hy; cases hy with | le hle => exact (base (.gv h ht)).le hle
 | gt h ht => intro y hy; cases hy with | le hle => exact (base (.gt h ht)).le hle
 | ref h ht => intro y hy; cases hy with | le hle => exact (base (.ref h ht)).le hle
 | mo h hT hc ho => intro y hy; cases hy with | le hle => exact (base (.mo h hT hc ho)).le hle
 | mapr h ht => intro y hy; cases hy with | le hle => exact (base (.mapr h ht)).le hle
 | fn hn h ih => intro y hy; cases hy with | le hle => exact (base (.fn hn h)).le hle
 | tup hn h ih => intro y hy; cases hy with | le hle => exact (base (.tup hn h)).le hle
 | nils => intro y hy; cases hy with | le hle => exact (base .nils).le hle
 | sn h hn => intro y hy; cases hy with | le hle => exact (base (.sn h hn)).le hle
 | any v => intro y hy; cases hy with | le hle => exact (base (.any v)).le hle
def flatR : Res → Bool
 | .tok _ _ => true
 | .tree cs => cs.all (fun x => match x with | .own _ _ => true | x => flatA x) && (AV.idsL cs).isEmpty
 | _ => false
def okLend (hp0 : Hp) (r : AV) (cr : List Nat) : Bool := match hp0 with
 | [] => flatA r && r.ids.isEmpty
 | [(id, some x)] => elemB id cr && flatA r && subB r.ids [id] && flatR x
 | _ => false
theorem lend_step (hr : R c G s a w) (hh : ∀ p, p ∈ lr → getH s.hp p.1 = some p.2) (hall : allTree lr = true) {f : FuncId} {vs avs : List AV} {Post : AV → Hp → Prop} {vals : Array Value} (hf : Fn c.P f avs [] Post)
  (hargs : AllR G (tokf s.hp) w vs vals) (hl : LentL lr vs avs) (cr : List Nat) (hcr : ∀ id, id ∈ cr → getH s.hp id = none ∧ noOcc id s) :
  Calls c.P f vals w fun e w' => ∃ v r hp0, e = .returned v ∧ Post r hp0 ∧ (okLend hp0 r cr = true →
   ∃ G', R c G' { s with hp := hp0 ++ s.hp } a w' ∧ RelA G' (tokf (hp0 ++ s.hp)) w' r v) := by
 have hTn : tokf [] = fun _ => none := by funext i; rfl
 have hok : HOK (lendG G w lr) w [] avs vals := by
  refine ⟨⟨by rw [hargs.size, hl.len], fun i hi hv => ?_⟩, fun id r h => (by cases h), fun id id' h1 => (by cases h1), fun b hb => ?_⟩
  ·have hc : i < vs.length := by rw [hl.len]; exact hi
   rw [hTn]
   exact lent_rel hr hh hall (hargs.rel i hc hv) (hl.at i hc hi)
  ·simp only [lendG]
   cases hb' : lentB G lr b with
   | true => have := (lent_zero hr hh hall hb').2; omega
   | false => exact hr.top b hb
 refine (hf _ w vals hok).mono ?_
 rintro e w' ⟨v, r, hp0, G', rfl, hP, hret⟩
 refine ⟨v, r, hp0, rfl, hP, fun hchk => ?_⟩
 have hown : ∀ b, b ∉ ownedL (lendG G w lr) [] := fun b hb => by simp [ownedL] at hb
 have hnew : ∀ id, (getH (hp0 ++ []) id).isSome → ∀ b, b ∈ G'.loc id → w.heap.size ≤ b := fun id h b hb => (hret.new id h b hb).resolve_left (hown b)
 let F2 : Nat → Nat := fun b => bif lentB G lr b then 0 else G'.F b
 have hnl : ∀ b, w.heap.size ≤ b → lentB G lr b = false := fun b hb => by
  cases hb' : lentB G lr b with
  | true => have := (lent_zero hr hh hall hb').2; omega
  | false => rfl
 have hr2 : R c ⟨F2, G.loc⟩ s a w' := by
  refine hr.grow (fun b hb => ?_) rfl hret.frm.os hret.frm.tape hret.frm.output hret.frm.size (fun b hb => ?_)
  ·obtain ⟨h1, h2⟩ := hret.frm.block b hb (hown b)
   refine ⟨h1, ?_⟩
   simp only [F2]
   cases hb' : lentB G lr b with
   | true => exact (lent_zero hr hh hall hb').1.symm
   | false => simp only [cond_false, h2, lendG, hb']
  ·have := hret.frm.size
   simp only [F2, hnl b (by omega), cond_false]
   exact hret.top b hb
 match hp0, hchk, hret, hnew, hP with
 | [], hchk, hret, hnew, hP =>
  simp only [okLend, Bool.and_eq_true, List.isEmpty_iff] at hchk
  refine ⟨_, hr2, ?_⟩
  have hi : ∀ id, id ∈ r.ids → False := fun id hid => by rw [hchk.2] at hid; simp at hid
  exact (hret.res.flat (G' := ⟨F2, G'.loc⟩) hchk.1 (fun _ _ => rfl) (fun id hid => (hi id hid).elim)).mono (fun _ _ ho => ⟨ho, rfl⟩) (fun id hid => (hi id hid).elim) (fun id hid => (hi id hid).elim)
 | [(id, some x)], hchk, hret, hnew, hP =>
  simp only [okLend, Bool.and_eq_true] at hchk
  obtain ⟨⟨⟨k1, k2⟩, k3⟩, k4⟩ := hchk
  obtain ⟨h0, hocc⟩ := hcr id (elemB_iff.1 k1)
  have hid : (getH ([(id, some x)] ++ []) id).isSome := by simp [getH]
  have hr3 := hr2.rename h0 hocc (G'.loc id)
  let G3 : Gh := { F := F2, loc := fun i => bif Nat.beq i id then G'.loc id else G.loc i }
  have l1 : G3.loc id = G'.loc id := by simp [G3]
  have l3 : ∀ i, i ≠ id → G3.loc i = G.loc i := fun i h2 => by simp [G3, beq_ne h2]
  have hFid : ∀ b, b ∈ G'.loc id → F2 b = G'.F b := fun b hb => by simp only [F2, hnl b (hnew id hid b hb), cond_false]
  have hx := hret.heap id x (by simp [getH])
  have hxr : RelR G3 (tokf ((id, some x) :: s.hp)) w' id x := by
   cases x with
   | tok n k => exact fun b hb => by rw [l1] at hb; exact hx b hb
   | tree cs =>
    simp only [flatR, Bool.and_eq_true, List.isEmpty_iff] at k4
    obtain ⟨b, us, e, Ss, hT⟩ := hx
    refine ⟨b, us, e, Ss, l1.trans hT.loc, hT.at_, hT.len, by rw [l1]; exact hT.nodup, fun b' hb' => ?_, fun i hi hv => ?_⟩
    ·rw [l1] at hb'
     exact ⟨(hFid b' hb').trans (hT.mine b' hb').1, (hT.mine b' hb').2⟩
    ·have h6 := hT.cell i hi hv
     have h7 := List.all_eq_true.1 k4.1 _ (List.getElem_mem hi)
     have h8 : ∀ j, j ∈ (cs[i]).ids → False := fun j hj => by
      have := AV.mem_idsL (List.getElem_mem hi) hj
      rw [k4.2] at this; simp at this
     revert h6 h7 h8
     generalize cs[i] = z
     intro h6 h7 h8
     have conv : flatA z = true → RelA G' (tokf ([(id, some (Res.tree cs))] ++ [])) w' z us[i] → RelA G3 (tokf ((id, some (Res.tree cs)) :: s.hp)) w' z us[i] := fun hf hz =>
      (hz.flat (G' := ⟨F2, G'.loc⟩) hf (fun _ _ => rfl) (fun j hj => (h8 j hj).elim)).mono (fun _ _ ho => ⟨ho, rfl⟩) (fun j hj => (h8 j hj).elim) (fun j hj => (h8 j hj).elim)
     cases z with
     | own m y => exact h6
     | _ => exact ⟨h6.1, conv h7 h6.2⟩
   | box cs => simp [flatR] at k4
   | map ks => simp [flatR] at k4
  refine ⟨G3, hr3.name h0 hocc hxr (fun i hi b hb hb2 => ?_) (fun b hb => ?_), ?_⟩
  ·have hne : i ≠ id := fun e => by subst e; rw [h0] at hi; cases hi
   have hb3 : b ∈ G.loc i := by have := l3 i hne; rw [← this]; exact hb
   have hb4 : b ∈ G'.loc id := by rw [← l1]; exact hb2
   obtain ⟨r', hr'⟩ := Option.isSome_iff_exists.1 hi
   have := (hr.heap i r' hr').bound b hb3
   have := hnew id hid b hb4
   omega
  ·have hb4 : b ∈ G'.loc id := by rw [← l1]; exact hb
   have := hnew id hid b hb4
   have := hr.frm.size
   right; omega
  ·have hsub : ∀ j, j ∈ r.ids → j = id := fun j hj => by simpa using subB_iff k3 j hj
   refine (hret.res.flat (G' := ⟨F2, G'.loc⟩) k2 (fun _ _ => rfl) (fun j hj b hb => ?_)).mono (fun _ _ ho => ⟨ho, rfl⟩) (fun j hj => .inl ?_) (fun j hj p hp => ?_)
   ·rw [hsub j hj] at hb; exact hFid b hb
   ·rw [hsub j hj]; exact l1
   ·rw [hsub j hj] at hp ⊢
    refine ⟨?_, fun _ _ => ⟨rfl, rfl⟩⟩
    have e1 : getH ([(id, some x)] ++ s.hp) id = some x := by simp [getH]
    have e2 : getH ([(id, some x)] ++ []) id = some x := by simp [getH]
    unfold tokf at hp ⊢
    rw [e1] at hp
    rw [e2]
    exact hp
end
section
variable {c : Ctx} {all : Array Oper} {chk : List Rec → Prop} {os : List Oper} {recs : List Rec} {env : Env} {hp : Hp} {Q : St → Prop}
variable {d ty : Nat} {pos : String} {af : Array Edge} {g : Option (Nat × Bool)} {pg : List (Nat × AV)}
def subR : List (Nat × Res) → Hp → Prop
 | [], _ => True
 | (i, r) :: t, hp => getH hp i = some r ∧ subR t hp
theorem subR_facts : ∀ {lr : List (Nat × Res)} {hp : Hp}, subR lr hp → ∀ p, p ∈ lr → getH hp p.1 = some p.2
 | [], _, _, p, h => by simp at h
 | (i, r) :: t, hp, hs, p, h => by
  rcases List.mem_cons.1 h with rfl | h
  ·exact hs.1
  ·exact subR_facts hs.2 p h
theorem Walk.lend {f : FuncId} {args : Array Operand} {ats : Array TypeId} {xs : List Operand} {vs avs : List AV} {lr : List (Nat × Res)} {hp0 : Hp} {r : AV} {cr : List Nat} (hc : Callee c.P f) (hf : FnD c.P f avs [] r hp0)
  (hargs : args = xs.toArray) (hg : GH all env g pg) (hd : Nat.blt d c.n = true) (hx : opdL env xs = some vs) (hle : LentL lr vs avs) (hsub : subR lr hp) (hall : allTree lr = true) (hok : okLend hp0 r cr = true)
  (hcr : freshB env hp cr = true)
  (hn : Walk c all chk os (mkRec (pg ++ opFL xs vs) lr cr ⟨some (d, r), hp0⟩ :: recs) ⟨(d, r) :: env, hp0 ++ hp⟩ Q) :
  Walk c all chk (⟨some d, .call ⟨.value (.func f), args, ats⟩, ty, pos, af, g⟩ :: os) recs ⟨env, hp⟩ Q := by
 subst hargs
 refine ⟨pg ++ opFL xs vs, lr, cr, _, ?_, facts_append hg.facts (opFL_holds hx), subR_facts hsub, freshB_spec hcr, hn⟩
 intro s a w hrel hp' hh hcr' K Q' hK
 obtain ⟨G, hr⟩ := hrel
 have hrl := opdL_rel hr (opdL_facts hx (fun p hm => hp' p (by simp [hm])))
 have hall' : AllR G (tokf s.hp) w vs (xs.map a.eval).toArray := by
  refine ⟨by simp [hrl.1], fun i hi hv => ?_⟩
  have := hrl.2 i hi (by rw [← hrl.1]; exact hi)
  simpa using this
 have hcalls := lend_step hr hh hall hf hall' hle cr hcr'
 unfold wpO
 rw [if_pos (hg.gf.wanted hr (fun p hm => hp' p (by simp [hm])))]
 unfold Oper.wp
 have hrun : (execOp a.eval ⟨some d, .call ⟨.value (.func f), xs.toArray, ats⟩, ty, pos, af, g⟩).run c.P w = .ok (.enter f (xs.map a.eval).toArray) w := by
  have := hc.run (xs.map a.eval).toArray w
  simp only [execOp, resolve, Sem.run_bind, Act.eval, Deferred.ofValue, Sem.run_pure, Result.andThen_ok, invoke]
  simpa using this
 rw [hrun, Oper.upon_enter]
 refine hcalls.mono ?_
 rintro e w' ⟨v, r', hp1, rfl, ⟨rfl, rfl⟩, h⟩
 obtain ⟨G', hR, hA⟩ := h hok
 exact hK _ _ ⟨G', hR.put hA hd⟩
end
section
variable {c : Ctx} {env : Env} {hp : Hp} {K : Kt} {code : Code} {ids : List Nat}
def ownToD : AV → AV
 | .own _ x => .d x
 | x => x
theorem R.frzTree {G : Gh} {a : Act} {w : World} (hr : R c G ⟨env, hp⟩ a w) (hkp : KeptIn c.kept ids) {id n k : Nat} {cs : List AV} {es : List (List D)} (hb : getH hp id = some (.tree cs))
  (hc : chunkD n k (cs.map ownToD) = some es) (hid : elemB id ids = false) :
  ∃ G', R c G' ⟨env, (id, none) :: hp⟩ a w ∧ (∀ x v, RelA G (tokf hp) w x v → RelA G' (tokf ((id, none) :: hp)) w x v) ∧ (∀ v, RelA G (tokf hp) w (.ms id n) v → RelD G'.F w (.sl es) v) ∧
   G'.loc = G.loc ∧ ∀ b, b ∉ G.loc id → G'.F b = G.F b := by
 obtain ⟨c1, c2, c3, c4⟩ := chunkD_spec hc
 obtain ⟨b, us, e, Ss, hT⟩ := hr.heap id _ hb
 have g1 : getH ((id, none) :: hp) id = none := by rw [getH_cons, if_pos rfl]
 have t1 : tokf ((id, none) :: hp) id = none := by unfold tokf; rw [g1]
 have s1 : (getH hp id).isSome := by rw [hb]; rfl
 let G' : Gh := { G with F := fun x => bif elemB x (G.loc id) then szB w x else G.F x }
 have hin : ∀ x, x ∈ G.loc id → G'.F x = szB w x := fun x hx => by simp [G', elemB_iff.2 hx]
 have hout : ∀ x, x ∉ G.loc id → G'.F x = G.F x := fun x hx => by
  have : elemB x (G.loc id) = false := by
   cases h : elemB x (G.loc id) with
   | true => exact absurd (elemB_iff.1 h) hx
   | false => rfl
  simp [G', this]
 have hturn : Turn c G ⟨env, hp⟩ w G' ((id, none) :: hp) [id] := by
  refine ⟨fun i hi => ?_, fun i hi => rfl, fun x hx => ?_, fun x o ho => ?_, fun x hx => ?_, fun i hi => .inr ⟨.inl rfl, ?_⟩, fun i hi hs x hx => ?_, fun i hi j hj hij => ?_, fun i hi l hl => ?_⟩
  ·simp only [List.mem_cons, List.not_mem_nil, or_false] at hi
   rw [getH_cons, if_neg hi]
  ·exact hout x (hx id (by simp) s1)
  ·by_cases hx : x ∈ G.loc id
   ·rw [(hT.mine x hx).1] at ho; omega
   ·rw [hout x hx]; exact ho
  ·by_cases hx' : x ∈ G.loc id
   ·have := (hT.mine x hx').2; omega
   ·rw [hout x hx']; exact hr.top x hx
  ·simp only [List.mem_cons, List.not_mem_nil, or_false] at hi
   subst hi; intro p hp; rw [t1] at hp; cases hp
  ·simp only [List.mem_cons, List.not_mem_nil, or_false] at hi
   subst hi; rw [g1] at hs; cases hs
  ·simp only [List.mem_cons, List.not_mem_nil, or_false] at hi hj
   exact absurd (hi.trans hj.symm) hij
  ·simp only [List.mem_cons, List.not_mem_nil, or_false] at hi
   subst hi
   have := elemB_iff.2 (hkp.mem i l hl)
   rw [this] at hid; cases hid
 have hmono : ∀ x v, RelA G (tokf hp) w x v → RelA G' (tokf ((id, none) :: hp)) w x v := fun x v hx =>
  hx.mono (fun b o ho => ⟨hturn.fle b o ho, rfl⟩) (fun i _ => .inl rfl) (fun i _ p hp' => by
   obtain ⟨m, q⟩ := p
   have h2 := tokf_some.1 hp'
   rw [getH_cons] at h2
   split at h2
   ·cases h2
   ·rename_i hne
    refine ⟨tokf_some.2 h2, fun b hb => ⟨rfl, hout b (hr.disj i id (by rw [h2]; rfl) s1 hne b hb)⟩⟩)
 refine ⟨G', hturn.fin hr (fun i hi r hri => ?_), hmono, fun v hv => ?_, rfl, hout⟩
 ·simp only [List.mem_cons, List.not_mem_nil, or_false] at hi
  subst hi
  rw [g1] at hri; cases hri
 ·obtain ⟨b', cap, hl, he, hcap⟩ := hv.ms_eq
  obtain rfl := hT.head hl.1
  have hbl : b' ∈ G.loc id := by rw [hT.loc]; simp
  have hlen : cs.length = n * k := by simpa using c3
  have hle : es.length * k ≤ us.size := by have := hT.len; rw [c1]; omega
  have hsz : szB w b' = us.size := by simp [szB, hT.at_]
  rw [he, ← c1]
  refine .sl es k b' 0 cap (fun n => us.getD n undef) c2 (by omega) (fun q hq => ⟨by rw [hin b' hbl]; omega, ?_⟩) (fun i hi j hj => ?_)
  ·have : q < us.size := by omega
   simp [World.cell?, hT.at_, this]
  ·have hjk : j < k := by rw [← c2 _ (List.getElem_mem hi)]; exact hj
   have hlt : i * k + j < cs.length := by rw [hlen, ← c1]; exact cell_lt hi hjk
   have hlv : i * k + j < us.size := Nat.lt_of_lt_of_le hlt hT.len
   have h1 := hT.cell (i * k + j) hlt hlv
   have h2 := c4 i hi j hj (by simpa using hlt)
   simp only [List.getElem_map] at h2
   rw [getD_eq hlv]
   have hsub : ∀ x, x ∈ Ss (i * k + j) → x ∈ G.loc id := fun x hx => by
    rw [hT.loc]; exact List.mem_cons_of_mem _ (List.mem_flatMap.2 ⟨_, List.mem_range.2 hlt, hx⟩)
   revert h1 h2
   generalize cs[i * k + j] = z
   intro h1 h2
   cases z with
   | own m y =>
    simp only [ownToD, AV.toD, Option.some.injEq] at h2
    subst h2
    exact TreeD.toD h1 (fun x hx => by rw [hin x (hsub x hx)]; exact Nat.le_refl _)
   | _ => exact RelA.toD (hmono _ _ h1.2) h2
theorem CWp.frzTree (hkp : KeptIn c.kept ids) (t id n k : Nat) {cs : List AV} {es : List (List D)} (ht : getE env t = some (.ms id n)) (hb : getH hp id = some (.tree cs))
  (hc : chunkD n k (cs.map ownToD) = some es) (hid : elemB id ids = false) (hn : CWp c code ⟨(t, .d (.sl es)) :: env, (id, none) :: hp⟩ K) : CWp c code ⟨env, hp⟩ K := by
 rintro a w ⟨G, hr⟩
 obtain ⟨G', h1, _, h3, _⟩ := hr.frzTree hkp hb hc hid
 exact hn a w ⟨G', h1.slot (.d (h3 _ (hr.slots t _ ht)))⟩
theorem CWp.frzCell (hkp : KeptIn c.kept ids) (id off id' n k : Nat) {cs cs' cs2 : List AV} {es : List (List D)} (hb : getH hp id = some (.tree cs)) (hc0 : cs[off]? = some (.ms id' n)) (hb' : getH hp id' = some (.tree cs2))
  (hc : chunkD n k (cs2.map ownToD) = some es) (hne : Nat.beq id id' = false) (hid : elemB id' ids = false) (hput : putC cs off [.d (.sl es)] = some cs')
  (hn : CWp c code ⟨env, (id, some (.tree cs')) :: (id', none) :: hp⟩ K) : CWp c code ⟨env, hp⟩ K := by
 have hne : id ≠ id' := fun e => by subst e; simp at hne
 rintro a w ⟨G, hr⟩
 obtain ⟨G', h1, h2, h3, h4, h5⟩ := hr.frzTree hkp hb' hc hid
 have g1 : getH ((id', none) :: hp) id = some (.tree cs) := by rw [getH_cons, if_neg hne]; exact hb
 obtain ⟨b, vs, e, Ss, hT⟩ := h1.heap id _ g1
 obtain ⟨b0, vs0, e0, Ss0, hT0⟩ := hr.heap id _ hb
 obtain ⟨hoff, hcv⟩ := List.getElem?_eq_some_iff.1 hc0
 obtain ⟨p1, p2, p3⟩ := putC_spec hput
 have hb0 : b0 = b := by
  have q1 := hT0.loc
  have q2 := hT.loc
  rw [h4, q1] at q2
  exact (List.cons.inj q2).1
 subst hb0
 have hv0 : vs0 = vs := by
  have q1 := hT0.at_
  rw [hT.at_] at q1
  exact (Obj.cells.inj (Option.some.inj q1)).1.symm
 subst hv0
 obtain ⟨G2, hR, _⟩ := h1.setTree (cs' := cs') (vs' := vs0) (Ss' := Ss) g1 hT p1 rfl (fun i _ => List.Sublist.refl _) (fun i hi hvi => by
  have q1 := p3 i
  rw [List.getElem?_eq_getElem hi] at q1
  by_cases hio : i = off
  ·subst hio
   rw [if_pos (by simp)] at q1
   simp only [Nat.sub_self, List.getElem?_cons_zero, Option.some.injEq] at q1
   rw [q1]
   have q2 := hT.cell i hoff hvi
   rw [hcv] at q2
   have q3 := hT0.cell i hoff hvi
   rw [hcv] at q3
   exact ⟨q2.1, .d (h3 _ q3.2)⟩
  ·rw [if_neg (by simp only [List.length_cons, List.length_nil]; omega)] at q1
   have hic : i < cs.length := by omega
   rw [List.getElem?_eq_getElem hic] at q1
   rw [Option.some.inj q1]
   exact hT.cell i hic hvi)
 have hw : w.setRow b0 vs0 = w := setRow_self w b0 vs0 e _ hT.at_
 rw [hw] at hR
 exact hn a w ⟨G2, hR⟩
end
end Go.Proofs.Ytadpcmcifbakoaa
