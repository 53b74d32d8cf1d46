/-
  THE ABSTRACT WALK, part N: what is said of a function, how it is shown from its body, and how a call uses it.
-/
import Derived.Test.YtadpcmcifbakoaaAmM
namespace Go.Proofs.Ytadpcmcifbakoaa
open Go
set_option linter.unusedSimpArgs false
set_option linter.unusedVariables false
def ownedL (G : Gh) (hp : Hp) : List Nat := hp.flatMap fun p => if (getH hp p.1).isSome then G.loc p.1 else []
theorem getH_key {hp : Hp} {id : Nat} {r : Res} (h : getH hp id = some r) : ∃ x, (id, x) ∈ hp := ⟨_, getH_mem h⟩
theorem ownedL_iff {G : Gh} {hp : Hp} {b : Nat} : b ∈ ownedL G hp ↔ ∃ id, (getH hp id).isSome ∧ b ∈ G.loc id := by
 simp only [ownedL, List.mem_flatMap]
 constructor
 ·rintro ⟨⟨id, x⟩, hm, hb⟩
  by_cases h : (getH hp id).isSome
  ·rw [if_pos h] at hb; exact ⟨id, h, hb⟩
  ·rw [if_neg h] at hb; simp at hb
 ·rintro ⟨id, h, hb⟩
  obtain ⟨r, hr⟩ := Option.isSome_iff_exists.1 h
  obtain ⟨x, hx⟩ := getH_key hr
  exact ⟨(id, x), hx, by rw [if_pos h]; exact hb⟩
structure HOK (G : Gh) (w : World) (hp : Hp) (args : List AV) (vals : Array Value) : Prop where
 args : AllR G (tokf hp) w args vals
 heap : ∀ id r, getH hp id = some r → RelR G (tokf hp) w id r
 disj : ∀ id id', (getH hp id).isSome → (getH hp id').isSome → id ≠ id' → ∀ b, b ∈ G.loc id → b ∉ G.loc id'
 top : ∀ b, w.heap.size ≤ b → G.F b = 0
def isBox (hp : Hp) (id : Nat) : Bool := match getH hp id with
 | some (.tok _ _) => false
 | some _ => true
 | none => false
theorem isBox_some {hp : Hp} {id : Nat} (h : isBox hp id = true) : (getH hp id).isSome ∧ tokf hp id = none := by
 unfold isBox at h
 unfold tokf
 cases hg : getH hp id with
 | none => simp [hg] at h
 | some r => cases r <;> simp_all
structure Ret (P : Program) (G : Gh) (w : World) (hp : Hp) (v : Value) (w' : World) (r : AV) (hp' : Hp) (G' : Gh) : Prop where
 res : RelA G' (tokf (hp' ++ hp)) w' r v
 heap : ∀ id x, getH (hp' ++ hp) id = some x → RelR G' (tokf (hp' ++ hp)) w' id x
 disj : ∀ id id', (getH (hp' ++ hp) id).isSome → (getH (hp' ++ hp) id').isSome → id ≠ id' → ∀ b, b ∈ G'.loc id → b ∉ G'.loc id'
 new : ∀ id, (getH (hp' ++ hp) id).isSome → ∀ b, b ∈ G'.loc id → b ∈ ownedL G hp ∨ w.heap.size ≤ b
 frm : Frm w G.F (ownedL G hp) w' G'.F
 top : ∀ b, w'.heap.size ≤ b → G'.F b = 0
 kept : ∀ id, isBox hp id = true → (G'.loc id).head? = (G.loc id).head? ∧ (getH (hp' ++ hp) id).isSome ∧ tokf (hp' ++ hp) id = none
def Fn (P : Program) (f : FuncId) (args : List AV) (hp : Hp) (Post : AV → Hp → Prop) : Prop :=
 ∀ (G : Gh) (w : World) (vals : Array Value), HOK G w hp args vals →
  Calls P f vals w fun e w' => ∃ v r hp' G', e = .returned v ∧ Post r hp' ∧ Ret P G w hp v w' r hp' G'
def FnD (P : Program) (f : FuncId) (args : List AV) (hp : Hp) (r : AV) (hp' : Hp) : Prop := Fn P f args hp fun x y => x = r ∧ y = hp'
theorem Fn.mono {P : Program} {f : FuncId} {args : List AV} {hp : Hp} {Post Post' : AV → Hp → Prop} (h : Fn P f args hp Post) (hp' : ∀ r h, Post r h → Post' r h) : Fn P f args hp Post' :=
 fun G w vals hok => (h G w vals hok).mono fun _ _ ⟨v, r, h, G', e1, e2, e3⟩ => ⟨v, r, h, G', e1, hp' _ _ e2, e3⟩
def envOf : Nat → List AV → Env
 | _, [] => []
 | i, v :: r => (i, v) :: envOf (i + 1) r
theorem envOf_get : ∀ {args : List AV} {i j : Nat} {v : AV}, getE (envOf i args) j = some v → i ≤ j ∧ args[j - i]? = some v
 | [], i, j, v, h => by simp [envOf, getE] at h
 | x :: r, i, j, v, h => by
  simp only [envOf, getE] at h
  cases hb : Nat.beq i j with
  | true =>
   have := Nat.eq_of_beq_eq_true hb
   subst this
   simp only [hb, cond_true, Option.some.injEq] at h
   exact ⟨Nat.le_refl _, by simpa using h⟩
  | false =>
   simp only [hb, cond_false] at h
   obtain ⟨h1, h2⟩ := envOf_get h
   refine ⟨by omega, ?_⟩
   rw [show j - i = (j - (i + 1)) + 1 by omega]
   simpa using h2
inductive ResOK (P : Program) (s : St) : ResultVar → AV → Prop
 | tmp {t v} (h : getE s.env t = some v) : ResOK P s (.tmp t) v
 | cell1 {a t id off k cs v} (ht : TyS P t k false) (h : getE s.env a = some (.ref id off)) (hb : getH s.hp id = some (.box cs)) (hv : cs[off]? = some v) : ResOK P s (.cell a t) v
 | cellA {a t id off k cs r} (ht : TyS P t k true) (h : getE s.env a = some (.ref id off)) (hb : getH s.hp id = some (.box cs)) (hv : cutC cs off k = some r) : ResOK P s (.cell a t) (.agg r)
inductive ResL (P : Program) (s : St) : List ResultVar → List AV → Prop
 | nil : ResL P s [] []
 | cons {x v l m} (h : ResOK P s x v) (t : ResL P s l m) : ResL P s (x :: l) (v :: m)
def retAV : List AV → AV
 | [v] => v
 | vs => .tup vs
def HSub (l : Hp) (hp : Hp) : Prop := ∀ id r, getH l id = some r → getH hp id = some r
def Fin (P : Program) (rs : List ResultVar) (hp : Hp) (Post : AV → Hp → Prop) (s : St) : Prop :=
 ∃ vs r hp', ResL P s rs vs ∧ LeA (retAV vs) r ∧ Post r hp' ∧ HSub (hp' ++ hp) s.hp ∧ ∀ id, isBox hp id = true → isBox (hp' ++ hp) id = true
def boxIds (hp : Hp) : List Nat := (hp.map (·.1)).filter (isBox hp)
structure KeptIn (kept : Nat → Option (List Nat)) (ids : List Nat) : Prop where
 mem : ∀ id l, kept id = some l → id ∈ ids
theorem KeptIn.ok {kept : Nat → Option (List Nat)} {ids : List Nat} (h : KeptIn kept ids) {hp : Hp} (ha : ids.all (fun id => (getH hp id).isSome) = true) : ∀ id l, kept id = some l → (getH hp id).isSome :=
 fun id l hk => List.all_eq_true.1 ha id (h.mem id l hk)
section
variable {c : Ctx} {G : Gh} {s : St} {a : Act} {w : World}
def resF (a : Act) : ResultVar → Sem Value
 | .tmp t => pure (a.tmps.getD t undef)
 | .cell ad t => do loadVar t (← asAddr (a.tmps.getD ad undef))
theorem ResOK.run (hr : R c G s a w) {x : ResultVar} {v : AV} (h : ResOK c.P s x v) :
  ∃ u, (resF a x).run c.P w = .ok u w ∧ RelA G (tokf s.hp) w v u := by
 cases h with
 | tmp h => exact ⟨_, rfl, hr.slots _ _ h⟩
 | @cell1 ad t id off k cs v ht h hb hv =>
  obtain ⟨b, hl, he⟩ := (hr.slots _ _ h).ref_eq
  obtain ⟨b', vs, e, h2, h3, h4, h5, h6⟩ := hr.heap id _ hb
  obtain rfl := head_one hl.1 h2
  obtain ⟨hlt, hv'⟩ := List.getElem?_eq_some_iff.1 hv
  have hlv : off < vs.size := by omega
  have hcell : w.cell? ⟨b, off, none⟩ = some vs[off] := by simp [World.cell?, h3, hlv]
  refine ⟨vs[off], ?_, by have := h6 off hlt hlv; rw [hv'] at this; exact this⟩
  simp only [resF, he, asAddr, Sem.run_bind, Sem.run_pure, Result.andThen_ok, run_loadVar_one ht hcell]
 | @cellA ad t id off k cs r ht h hb hv =>
  obtain ⟨b, hl, he⟩ := (hr.slots _ _ h).ref_eq
  obtain ⟨b', vs, e, h2, h3, h4, h5, h6⟩ := hr.heap id _ hb
  obtain rfl := head_one hl.1 h2
  obtain ⟨hlen, hget⟩ := cutC_spec hv
  have hbd : ∀ i, i < k → off + i < cs.length := fun i hi => by
   have := hget i hi
   rw [List.getElem?_eq_getElem (by omega)] at this
   rcases Nat.lt_or_ge (off + i) cs.length with h | h
   ·exact h
   ·rw [List.getElem?_eq_none h] at this; cases this
  let l : List Value := (List.range k).map fun i => vs.getD (off + i) undef
  have hcell : ∀ j v, l[j]? = some v → w.cell? ⟨b, off + j, none⟩ = some v := fun j v hj => by
   simp only [l, List.getElem?_map, Option.map_eq_some_iff] at hj
   obtain ⟨i, hi, rfl⟩ := hj
   obtain ⟨hi1, rfl⟩ := List.getElem?_eq_some_iff.1 hi
   simp only [List.length_range] at hi1
   have := hbd j hi1
   simp [World.cell?, h3, List.getElem_range, show off + j < vs.size by omega]
  refine ⟨.agg l.toArray, ?_, .agg (by simp [l, hlen]) (fun i hi hv' => ?_)⟩
  ·simp only [resF, he, asAddr, Sem.run_bind, Sem.run_pure, Result.andThen_ok, run_loadVar_agg ht (by simp [l]) hcell]
  ·have hik : i < k := by omega
   have h7 := hbd i hik
   have h8 : r[i] = cs[off + i] := by
    have := hget i hik
    rw [List.getElem?_eq_getElem hi, List.getElem?_eq_getElem h7] at this
    exact Option.some.inj this
   rw [h8]
   have := h6 (off + i) h7 (by omega)
   simpa [l, show off + i < vs.size by omega] using this
theorem ResL.run (hr : R c G s a w) : ∀ {xs : List ResultVar} {vs : List AV}, ResL c.P s xs vs →
  ∃ us : List Value, (xs.mapM (resF a)).run c.P w = .ok us w ∧ AllR G (tokf s.hp) w vs us.toArray
 | [], _, h => by cases h; exact ⟨[], by simp, ⟨rfl, fun i hi => by simp at hi⟩⟩
 | x :: r, _, h => by
  cases h with
  | cons h t =>
   obtain ⟨u, h1, h2⟩ := h.run hr
   obtain ⟨us, h3, h4⟩ := ResL.run hr t
   refine ⟨u :: us, ?_, ?_, fun i hi hv => ?_⟩
   ·rw [List.mapM_cons]
    simp only [Sem.run_bind]
    rw [h1]
    simp only [Result.andThen_ok]
    rw [h3]
    simp
   ·simpa using h4.size
   ·cases i with
    | zero => simpa using h2
    | succ i =>
     have := h4.rel i (by simpa using hi) (by simpa using hv)
     simpa only [List.getElem_toArray, List.getElem_cons_succ] using this
theorem results_run (hr : R c G s a w) {fn : Func} {vs : List AV} (h : ResL c.P s fn.results.toList vs) :
  ∃ v, (results fn a.tmps).run c.P w = .ok v w ∧ RelA G (tokf s.hp) w (retAV vs) v := by
 obtain ⟨us, h1, h2⟩ := ResL.run hr h
 have hm : (fn.results.mapM (resF a)).run c.P w = .ok us.toArray w := by
  rw [Array.mapM_eq_mapM_toList]
  simp only [Sem.run_map, h1, Result.andThen_ok]
 have e : results fn a.tmps = (fn.results.mapM (resF a) >>= fun vs => pure (if h : vs.size = 1 then vs[0] else .tuple vs)) := by
  have hF : (fun x => (match x with | .tmp t => pure (a.tmps.getD t undef) | .cell ad t => (do loadVar t (← asAddr (a.tmps.getD ad undef))) : Sem Value)) = resF a := by
   funext x; cases x <;> rfl
  rw [← hF]
  rfl
 rw [e]
 simp only [Sem.run_bind, hm, Result.andThen_ok, Sem.run_pure]
 have hs := h2.size
 by_cases h1 : us.length = 1
 ·obtain ⟨u, rfl⟩ := List.length_eq_one_iff.1 h1
  have hvl : vs.length = 1 := by simpa using hs.symm
  obtain ⟨v, rfl⟩ := List.length_eq_one_iff.1 hvl
  exact ⟨u, by simp, by simpa [retAV] using h2.rel 0 (by simp) (by simp)⟩
 ·refine ⟨.tuple us.toArray, by simp [h1], ?_⟩
  have hne : vs.length ≠ 1 := by simp at hs; omega
  have : retAV vs = .tup vs := by
   unfold retAV
   split
   ·simp at hne
   ·rfl
  rw [this]
  exact .tup h2.size h2.rel
end
theorem Fn.body {P : Program} {f n : Nat} {fn : Func} {code : Code} {rs : List ResultVar} {args : List AV} {hp : Hp} {Post : AV → Hp → Prop} (hf : P.funcs[f]? = some fn) (hb : fn.body = some code) (hnn : fn.ntmps = n)
  (hrs : fn.results.toList = rs) (hn : Nat.ble args.length n = true)
  (h : ∀ w0 F0 own kept, KeptIn kept (boxIds hp) → CWp ⟨P, n, w0, F0, own, kept⟩ code ⟨envOf 0 args, hp⟩ ⟨Fin P rs hp Post, fun _ _ => False, Fin P rs hp Post⟩) :
  Fn P f args hp Post := by
 subst hnn hrs
 have hn : args.length ≤ fn.ntmps := by simpa using hn
 intro G w vals hok
 let kept : Nat → Option (List Nat) := fun id => if isBox hp id = true then some (G.loc id) else none
 have hkept : ∀ id l, kept id = some l → isBox hp id = true ∧ G.loc id = l := fun id l hk => by
  by_cases hi : isBox hp id = true
  ·simp only [kept, hi, if_true, Option.some.injEq] at hk; exact ⟨hi, hk⟩
  ·simp [kept, hi] at hk
 have hki : KeptIn kept (boxIds hp) := ⟨fun id l hk => by
  have hi := (hkept id l hk).1
  have hs := (isBox_some hi).1
  obtain ⟨r, hr⟩ := Option.isSome_iff_exists.1 hs
  obtain ⟨x, hx⟩ := getH_key hr
  simp only [boxIds, List.mem_filter, List.mem_map]
  exact ⟨⟨(id, x), hx, rfl⟩, hi⟩⟩
 let c : Ctx := ⟨P, fn.ntmps, w, G.F, ownedL G hp, kept⟩
 have hsz := hok.args.size
 have hR : R c G ⟨envOf 0 args, hp⟩ { tmps := vals ++ Array.replicate (fn.ntmps - vals.size) undef, defers := [] } w := by
  refine ⟨by simp [c]; omega, rfl, fun i v hi => ?_, hok.heap, hok.disj, fun id hs b hb' => .inl (ownedL_iff.2 ⟨id, hs, hb'⟩), Frm.refl _ _ _, hok.top, fun id l hk => ?_⟩
  ·obtain ⟨_, h2⟩ := envOf_get hi
   simp only [Nat.sub_zero] at h2
   obtain ⟨h3, h4⟩ := List.getElem?_eq_some_iff.1 h2
   have h5 : i < vals.size := by omega
   have := hok.args.rel i h3 h5
   rw [h4] at this
   have e : (vals ++ Array.replicate (fn.ntmps - vals.size) undef).getD i undef = vals[i] := by
    simp only [Array.getD_eq_getD_getElem?]
    rw [Array.getElem?_append_left h5]
    simp [h5]
   show RelA G (tokf hp) w v ((vals ++ Array.replicate (fn.ntmps - vals.size) undef).getD i undef)
   rw [e]; exact this
  ·obtain ⟨h1, h2⟩ := hkept id l hk
   obtain ⟨h3, h4⟩ := isBox_some h1
   exact ⟨congrArg List.head? h2, h3, h4⟩
 refine calls_of_wp hf hb (wp_mono (h w G.F (ownedL G hp) kept hki _ _ ⟨G, hR⟩) ?_)
 have fin : ∀ s a' w', Rel c s a' w' → Fin P fn.results.toList hp Post s → a'.defers = [] ∧ ∃ v, (results fn a'.tmps).run P w' = .ok v w' ∧
   ∃ v' r hp' G', Ending.returned v = .returned v' ∧ Post r hp' ∧ Ret P G w hp v' w' r hp' G' := by
  rintro s a' w' ⟨G', hr⟩ ⟨vs, r, hp', h1, h2, h3, h4, h5⟩
  obtain ⟨v, hv, hrel⟩ := results_run hr (fn := fn) h1
  refine ⟨hr.defers, v, hv, v, r, hp', G', rfl, h3, ?_⟩
  have hT : ∀ id p, tokf (hp' ++ hp) id = some p → tokf s.hp id = some p := by
   rintro id ⟨n, k⟩ hp2
   exact tokf_some.2 (h4 _ _ (tokf_some.1 hp2))
  have hm : ∀ {x : AV} {u : Value}, RelA G' (tokf s.hp) w' x u → RelA G' (tokf (hp' ++ hp)) w' x u := fun hx =>
   hx.mono (fun _ _ ho => ⟨ho, rfl⟩) (fun _ _ => .inl rfl) (fun id _ p hp2 => ⟨hT id p hp2, fun _ _ => ⟨rfl, rfl⟩⟩)
  have hsome : ∀ id, (getH (hp' ++ hp) id).isSome → (getH s.hp id).isSome := fun id hi => by
   obtain ⟨x, hx⟩ := Option.isSome_iff_exists.1 hi
   rw [h4 _ _ hx]; rfl
  refine ⟨hm (hrel.le h2), fun id x hx => ?_, fun id id' e1 e2 => hr.disj id id' (hsome _ e1) (hsome _ e2), fun id e1 => hr.new id (hsome _ e1), hr.frm, hr.top, fun id hi => ?_⟩
  ·have := hr.heap id x (h4 _ _ hx)
   cases x with
   | box cs =>
    obtain ⟨b, us, e, e1, e2, e3, e4, e5⟩ := this
    exact ⟨b, us, e, e1, e2, e3, e4, fun i hi hv => hm (e5 i hi hv)⟩
   | tok n k => exact this
   | map ks => exact this
   | tree cs => exact tree_mono this rfl (fun _ _ => ⟨rfl, rfl⟩) (Nat.le_refl _) (fun _ _ _ => hm)
  ·have hk := hr.kept id (G.loc id) (by simp only [c, kept, hi, if_true])
   have hb2 := isBox_some (h5 id hi)
   exact ⟨hk.1, hb2.1, hb2.2⟩
 intro e a' w' hq
 cases e with
 | normal => obtain ⟨s, hr, hs⟩ := hq; exact fin s a' w' hr hs
 | ret => obtain ⟨s, hr, hs⟩ := hq; exact fin s a' w' hr hs
 | exit id => obtain ⟨s, hr, hs⟩ := hq; exact hs.elim
 | goto l => exact hq.elim
 | panic ch => exact hq.elim
 | outgrown => exact hq.elim
end Go.Proofs.Ytadpcmcifbakoaa
