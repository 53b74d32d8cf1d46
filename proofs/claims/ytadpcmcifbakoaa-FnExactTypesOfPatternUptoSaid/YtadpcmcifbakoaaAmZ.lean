/-
  THE ABSTRACT WALK, part Z: exclusive or; a call that is handed a row that grows, and gives it back grown.
-/
import Derived.Test.YtadpcmcifbakoaaAmY
namespace Go.Proofs.Ytadpcmcifbakoaa
open Go
set_option linter.unusedSimpArgs false
set_option linter.unusedVariables false
def xorV (m n : Int) : Int := IntKind.i64.wrap ((BitVec.ofInt 64 m ^^^ BitVec.ofInt 64 n).toNat : Int)
theorem xorV_bd {m n : Int} (hm : 0 ≤ m ∧ m < 4611686018427387904) (hn : 0 ≤ n ∧ n < 4611686018427387904) : 0 ≤ xorV m n ∧ xorV m n < 4611686018427387904 := by
 obtain ⟨a, rfl⟩ := Int.eq_ofNat_of_zero_le hm.1
 obtain ⟨b, rfl⟩ := Int.eq_ofNat_of_zero_le hn.1
 have ha : a < 2 ^ 62 := by have := hm.2; omega
 have hb : b < 2 ^ 62 := by have := hn.2; omega
 have h1 : (BitVec.ofInt 64 (a : Int) ^^^ BitVec.ofInt 64 (b : Int)).toNat = a ^^^ b := by
  rw [BitVec.toNat_xor, BitVec.toNat_ofInt, BitVec.toNat_ofInt]
  have e1 : ((a : Int) % ((2 ^ 64 : Nat) : Int)).toNat = a := by
   have : (a : Int) % ((2 ^ 64 : Nat) : Int) = a := Int.emod_eq_of_lt (by omega) (by omega)
   rw [this]; simp
  have e2 : ((b : Int) % ((2 ^ 64 : Nat) : Int)).toNat = b := by
   have : (b : Int) % ((2 ^ 64 : Nat) : Int) = b := Int.emod_eq_of_lt (by omega) (by omega)
   rw [this]; simp
  rw [e1, e2]
 have h2 : a ^^^ b < 2 ^ 62 := Nat.xor_lt_two_pow ha hb
 unfold xorV
 rw [h1, wrap_i64 (by omega)]
 omega
section
variable {c : Ctx} {all : Array Oper} {chk : List Rec → Prop} {os : List Oper} {recs : List Rec} {env : Env} {hp : Hp} {Q : St → Prop}
variable {d ty : Nat} {pos : String} {af : Array Edge} {g : Option (Nat × Bool)} {pg : List (Nat × AV)}
variable {t yt : TypeId} {x y : Operand} {m n : Int}
theorem Walk.xorI (hg : GH all env g pg) (hd : Nat.blt d c.n = true) (hx : opd env x = some (.d (.int .i64 m))) (hy : opd env y = some (.d (.int .i64 n)))
  (hn : Walk c all chk os (mkRec (pg ++ (opF x (.d (.int .i64 m)) ++ opF y (.d (.int .i64 n)))) [] [] ⟨some (d, .d (.int .i64 (xorV m n))), []⟩ :: recs) ⟨(d, .d (.int .i64 (xorV m n))) :: env, hp⟩ Q) :
  Walk c all chk (⟨some d, .binOp .xor t x y yt, ty, pos, af, g⟩ :: os) recs ⟨env, hp⟩ Q :=
 Walk.bin_int hg hd hx hy (fun w => ⟨.int .i64 (xorV m n), by rw [binOp_xor]; rfl, fun F => .int _ _⟩) hn
end
def killI (i j : Nat) : Env → Env
 | [] => []
 | (k, v) :: r => (k, bif elemB i v.ids then .any else bif elemB j v.ids then .any else v) :: killI i j r
theorem killI_get {i j : Nat} : ∀ {l : Env} {t : Nat} {v : AV}, getE (killI i j l) t = some v → ∃ u, getE l t = some u ∧ (v = .any ∨ (v = u ∧ i ∉ u.ids ∧ j ∉ u.ids))
 | [], _, _, h => by simp [killI, getE] at h
 | (k, x) :: r, t, v, h => by
  simp only [killI, getE] at h ⊢
  cases hb : Nat.beq k t with
  | true =>
   simp only [hb, cond_true, Option.some.injEq] at h
   refine ⟨x, by simp, ?_⟩
   cases h1 : elemB i x.ids with
   | true => left; rw [h1] at h; exact h.symm
   | false =>
    cases h2 : elemB j x.ids with
    | true => left; rw [h1, h2] at h; exact h.symm
    | false =>
     right
     rw [h1, h2] at h
     refine ⟨h.symm, fun hm => ?_, fun hm => ?_⟩
     ·rw [elemB_iff.2 hm] at h1; cases h1
     ·rw [elemB_iff.2 hm] at h2; cases h2
  | false =>
   simp only [hb, cond_false] at h
   obtain ⟨u, h1, h2⟩ := killI_get h
   exact ⟨u, by simpa using h1, h2⟩
theorem RelA.gl_move {G G' : Gh} {T T' : TokF} {w : World} {i j n k : Nat} {xs : List (List D)} {v : Value} (h : RelA G T w (.gl i xs) v) (hT : T i = some (n, k)) (hF : G'.F = G.F) (hl : G'.loc j = G.loc i) (hT' : T' j = some (n, k)) : RelA G' T' w (.gl j xs) v := by
 generalize hx : AV.gl i xs = x at h
 cases h with
 | @gl id ys v h ht =>
  cases hx
  refine .gl (h.mono (fun b o ho => ⟨by rw [hF]; exact ho, rfl⟩)) (fun n' k' he => ?_)
  rw [hT'] at he
  cases he
  obtain ⟨h1, h2⟩ := ht _ _ hT
  refine ⟨h1, fun hn => ?_⟩
  obtain ⟨h3, h4⟩ := h2 hn
  refine ⟨h3, ?_⟩
  rcases h4 with ⟨a1, a2, a3⟩ | ⟨b, cap, cs, e, a1, a2, a3, a4⟩
  ·exact .inl ⟨hl.trans a1, a2, a3⟩
  ·exact .inr ⟨b, cap, cs, e, hl.trans a1, a2, by rw [hF]; exact a3, a4⟩
 | _ => cases hx
section
variable {c : Ctx} {env : Env} {hp : Hp} {K : Kt} {code : Code}
theorem CWp.retok (t j i : Nat) {n k : Nat} {ys : List (List D)} (ht : getE env t = some (.gl j ys)) (hi : getH hp i = none) (hj : getH hp j = some (.tok n k)) (o1 : occH i hp = false) (o2 : occH j hp = false)
  (hn : CWp c code ⟨(t, .gl i ys) :: killI i j env, (i, some (.tok n k)) :: (j, none) :: hp⟩ K) : CWp c code ⟨env, hp⟩ K := by
 rintro a w ⟨G, hr⟩
 have hne : i ≠ j := fun e => by subst e; rw [hi] at hj; cases hj
 let hp' : Hp := (i, some (.tok n k)) :: (j, none) :: hp
 let G' : Gh := { G with loc := fun x => bif Nat.beq x i then G.loc j else G.loc x }
 have l1 : G'.loc i = G.loc j := by simp [G']
 have l2 : ∀ x, x ≠ i → G'.loc x = G.loc x := fun x h => by simp [G', beq_ne h]
 have g1 : getH hp' i = some (.tok n k) := by simp [hp', getH]
 have g2 : getH hp' j = none := by
  show getH ((i, some (.tok n k)) :: (j, none) :: hp) j = none
  rw [getH_cons, if_neg (fun e => hne e.symm), getH_cons, if_pos rfl]
 have g3 : ∀ x, x ≠ i → x ≠ j → getH hp' x = getH hp x := fun x h1 h2 => by
  show getH ((i, some (.tok n k)) :: (j, none) :: hp) x = _
  rw [getH_cons, if_neg h1, getH_cons, if_neg h2]
 have hTj : tokf hp j = some (n, k) := tokf_some.2 hj
 have hTi : tokf hp' i = some (n, k) := tokf_some.2 g1
 have hm : ∀ {x : AV} {v : Value}, i ∉ x.ids → j ∉ x.ids → RelA G (tokf hp) w x v → RelA G' (tokf hp') w x v := fun hx1 hx2 hx =>
  hx.mono (fun _ _ ho => ⟨ho, rfl⟩) (fun id hid => .inl (l2 id (fun e => hx1 (e ▸ hid)))) (fun id hid p hp2 => ⟨by
   have e1 : id ≠ i := fun e => hx1 (e ▸ hid)
   have e2 : id ≠ j := fun e => hx2 (e ▸ hid)
   unfold tokf at hp2 ⊢
   rw [g3 id e1 e2] at hp2
   exact hp2, fun _ _ => ⟨rfl, rfl⟩⟩)
 have cases3 : ∀ x (r : Res), getH hp' x = some r → (x = i ∧ r = .tok n k) ∨ (x ≠ i ∧ x ≠ j ∧ getH hp x = some r) := fun x r h => by
  by_cases e1 : x = i
  ·subst e1; rw [g1] at h; cases h; exact .inl ⟨rfl, rfl⟩
  ·by_cases e2 : x = j
   ·subst e2; rw [g2] at h; cases h
   ·rw [g3 x e1 e2] at h; exact .inr ⟨e1, e2, h⟩
 have src : ∀ x, (getH hp' x).isSome → ∃ y, (getH hp y).isSome ∧ G'.loc x = G.loc y ∧ (y = j ∧ x = i ∨ y = x ∧ x ≠ j ∧ x ≠ i) := fun x h => by
  obtain ⟨r, hx⟩ := Option.isSome_iff_exists.1 h
  rcases cases3 x r hx with ⟨rfl, _⟩ | ⟨e1, e2, h3⟩
  ·exact ⟨j, by rw [hj]; rfl, l1, .inl ⟨rfl, rfl⟩⟩
  ·exact ⟨x, by rw [h3]; rfl, l2 x e1, .inr ⟨rfl, e2, e1⟩⟩
 have nocc : ∀ {id x : Nat} {r : Res}, occH id hp = false → getH hp x = some r → id ∉ r.ids := fun h1 h2 => occH_false h1 _ _ (getH_mem h2)
 refine hn a w ⟨G', hr.size, hr.defers, fun x v hx => ?_, fun x r hx => ?_, fun x y h1 h2 hxy b hb => ?_, fun x h1 b hb => ?_, hr.frm, hr.top, fun x l hl => ?_⟩
 ·have hx' : getE ((t, .gl i ys) :: killI i j env) x = some v := hx
  simp only [getE] at hx'
  cases hb : Nat.beq t x with
  | true =>
   have := Nat.eq_of_beq_eq_true hb
   subst this
   simp only [hb, cond_true, Option.some.injEq] at hx'
   subst hx'
   exact (hr.slots t _ ht).gl_move hTj rfl l1 hTi
  | false =>
   simp only [hb, cond_false] at hx'
   obtain ⟨u, h1, h2⟩ := killI_get hx'
   rcases h2 with rfl | ⟨rfl, h3, h4⟩
   ·exact .any _
   ·exact hm h3 h4 (hr.slots x _ h1)
 ·rcases cases3 x r hx with ⟨rfl, rfl⟩ | ⟨e1, e2, h3⟩
  ·intro b hb
   rw [l1] at hb
   exact hr.heap j _ hj b hb
  ·have hh := hr.heap x r h3
   have n1 := nocc o1 h3
   have n2 := nocc o2 h3
   cases r with
   | box cs =>
    obtain ⟨b, us, e, e1', e2', e3, e4, e5⟩ := hh
    exact ⟨b, us, e, (l2 x e1).trans e1', e2', e3, e4, fun q hq hv => hm (fun hid => n1 (AV.mem_idsL (List.getElem_mem hq) hid)) (fun hid => n2 (AV.mem_idsL (List.getElem_mem hq) hid)) (e5 q hq hv)⟩
   | tok n' k' => intro b hb; rw [l2 x e1] at hb; exact hh b hb
   | map ks =>
    obtain ⟨b, es, cl, h5, h6⟩ := hh
    exact ⟨b, es, cl, (l2 x e1).trans h5, h6⟩
   | tree cs => exact tree_mono hh (l2 x e1) (fun _ _ => ⟨rfl, rfl⟩) (Nat.le_refl _) (fun y hy v => hm (fun hid => n1 (AV.mem_idsL hy hid)) (fun hid => n2 (AV.mem_idsL hy hid)))
 ·obtain ⟨x', s1, e1, d1⟩ := src x h1
  obtain ⟨y', s2, e2, d2⟩ := src y h2
  rw [e1] at hb
  rw [e2]
  refine hr.disj x' y' s1 s2 ?_ b hb
  rcases d1 with ⟨rfl, rfl⟩ | ⟨rfl, f1, f2⟩ <;> rcases d2 with ⟨rfl, rfl⟩ | ⟨rfl, f3, f4⟩
  ·exact absurd rfl hxy
  ·exact fun e => f3 e.symm
  ·exact f1
  ·exact hxy
 ·obtain ⟨x', s1, e1, d1⟩ := src x h1
  rw [e1] at hb
  exact hr.new x' s1 b hb
 ·have hk := hr.kept x l hl
  have e1 : x ≠ i := fun e => by
   have h1 := hk.2.1
   have h2 : getH hp x = none := e ▸ hi
   change (getH hp x).isSome = true at h1
   rw [h2] at h1; cases h1
  have e2 : x ≠ j := fun e => by
   have h1 := hk.2.2
   change tokf hp x = none at h1
   rw [e, hTj] at h1; cases h1
  refine ⟨by rw [l2 x e1]; exact hk.1, ?_, ?_⟩
  ·show (getH hp' x).isSome = true
   rw [g3 x e1 e2]; exact hk.2.1
  ·show tokf hp' x = none
   have := hk.2.2
   unfold tokf at this ⊢
   rw [g3 x e1 e2]; exact this
end
section
variable {c : Ctx}
theorem call_stepT {G : Gh} {s : St} {a : Act} {w : World} (hr : R c G s a w) {f : FuncId} {avs : List AV} {i j n k m : Nat} {ys : List (List D)} {vals : Array Value}
  (hf : FnD c.P f avs [(i, some (.tok n k))] (.gl i ys) [(i, some (.tok m k))]) (hargs : AllR G (tokf s.hp) w avs vals) (hi : getH s.hp i = some (.tok n k)) (hj : getH s.hp j = none) (hocc : noOcc j s) :
  Calls c.P f vals w fun e w' => ∃ v, e = .returned v ∧
   ∃ G', R c G' { s with hp := (i, none) :: (j, some (.tok m k)) :: s.hp } a w' ∧ RelA G' (tokf ((i, none) :: (j, some (.tok m k)) :: s.hp)) w' (.gl j ys) v := by
 have hne : i ≠ j := fun e => by subst e; rw [hi] at hj; cases hj
 have only : ∀ {id : Nat} {x y : Res}, getH [(i, some x)] id = some y → id = i ∧ y = x := fun {id x y} h => by
  rw [getH_cons] at h
  split at h
  ·rename_i e; cases h; exact ⟨e, rfl⟩
  ·cases h
 have gi : getH [(i, some (Res.tok n k))] i = some (.tok n k) := by simp [getH]
 have hok : HOK G w [(i, some (.tok n k))] avs vals := by
  refine ⟨⟨hargs.size, fun q hq hv => (hargs.rel q hq hv).mono (fun _ _ ho => ⟨ho, rfl⟩) (fun _ _ => .inl rfl) (fun id _ p hp => ⟨?_, fun _ _ => ⟨rfl, rfl⟩⟩)⟩, fun id r h => ?_, fun id id' h1 h2 h3 => ?_, hr.top⟩
  ·obtain ⟨n', k'⟩ := p
   obtain ⟨rfl, h2⟩ := only (tokf_some.1 hp)
   cases h2
   exact tokf_some.2 hi
  ·obtain ⟨rfl, rfl⟩ := only h
   exact hr.heap _ _ hi
  ·obtain ⟨x, hx⟩ := Option.isSome_iff_exists.1 h1
   obtain ⟨y, hy⟩ := Option.isSome_iff_exists.1 h2
   exact absurd ((only hx).1.trans (only hy).1.symm) h3
 refine (hf G w vals hok).mono ?_
 rintro e w' ⟨v, r, hp0, G', rfl, ⟨rfl, rfl⟩, hret⟩
 refine ⟨v, rfl, ?_⟩
 have gi2 : getH ([(i, some (Res.tok m k))] ++ [(i, some (.tok n k))]) i = some (.tok m k) := by simp [getH]
 have hown : ∀ b, b ∈ ownedL G [(i, some (Res.tok n k))] → b ∈ G.loc i := fun b hb => by
  obtain ⟨id, h1, h2⟩ := ownedL_iff.1 hb
  obtain ⟨x, hx⟩ := Option.isSome_iff_exists.1 h1
  rw [(only hx).1] at h2; exact h2
 have hsi : (getH s.hp i).isSome := by rw [hi]; rfl
 let hp' : Hp := (i, none) :: (j, some (.tok m k)) :: s.hp
 let G2 : Gh := { F := G'.F, loc := fun x => bif Nat.beq x j then G'.loc i else G.loc x }
 have l1 : G2.loc j = G'.loc i := by simp [G2]
 have l2 : ∀ x, x ≠ j → G2.loc x = G.loc x := fun x h => by simp [G2, beq_ne h]
 have g1 : getH hp' i = none := by
  show getH ((i, none) :: (j, some (.tok m k)) :: s.hp) i = none
  rw [getH_cons, if_pos rfl]
 have g2 : getH hp' j = some (.tok m k) := by
  show getH ((i, none) :: (j, some (.tok m k)) :: s.hp) j = _
  rw [getH_cons, if_neg (fun e => hne e.symm), getH_cons, if_pos rfl]
 have g3 : ∀ x, x ≠ i → x ≠ j → getH hp' x = getH s.hp x := fun x h1 h2 => by
  show getH ((i, none) :: (j, some (.tok m k)) :: s.hp) x = _
  rw [getH_cons, if_neg h1, getH_cons, if_neg h2]
 have cases3 : ∀ x (r : Res), getH hp' x = some r → (x = j ∧ r = .tok m k) ∨ (x ≠ i ∧ x ≠ j ∧ getH s.hp x = some r) := fun x r h => by
  by_cases e1 : x = i
  ·subst e1; rw [g1] at h; cases h
  ·by_cases e2 : x = j
   ·subst e2; rw [g2] at h; cases h; exact .inl ⟨rfl, rfl⟩
   ·rw [g3 x e1 e2] at h; exact .inr ⟨e1, e2, h⟩
 have bound : ∀ x r, getH s.hp x = some r → ∀ b, b ∈ G.loc x → b < w.heap.size := fun x r h => (hr.heap x r h).bound
 have blk : ∀ x r, x ≠ i → getH s.hp x = some r → ∀ b, b ∈ G.loc x → w'.heap[b]? = w.heap[b]? ∧ G'.F b = G.F b := fun x r h1 h2 b hb =>
  hret.frm.block b (bound x r h2 b hb) (fun hm => hr.disj x i (by rw [h2]; rfl) hsi h1 b hb (hown b hm))
 have hm : ∀ {x : AV} {v : Value}, j ∉ x.ids → RelA G (tokf s.hp) w x v → RelA G2 (tokf hp') w' x v := fun hx1 hx =>
  hx.mono hret.frm.cell (fun id hid => .inl (l2 id (fun e => hx1 (e ▸ hid)))) (fun id hid p hp2 => by
   have e1 : id ≠ j := fun e => hx1 (e ▸ hid)
   obtain ⟨n', k'⟩ := p
   have h1 := tokf_some.1 hp2
   rcases cases3 id _ h1 with ⟨e, _⟩ | ⟨e2, _, h3⟩
   ·exact absurd e e1
   ·exact ⟨tokf_some.2 h3, blk id _ e2 h3⟩)
 have src : ∀ x, (getH hp' x).isSome → x = j ∨ (x ≠ i ∧ x ≠ j ∧ (getH s.hp x).isSome) := fun x h => by
  obtain ⟨r, hx⟩ := Option.isSome_iff_exists.1 h
  rcases cases3 x r hx with ⟨rfl, _⟩ | ⟨e1, e2, h3⟩
  ·exact .inl rfl
  ·exact .inr ⟨e1, e2, by rw [h3]; rfl⟩
 have hnew := hret.new i (by rw [gi2]; rfl)
 have mix : ∀ x, x ≠ i → (getH s.hp x).isSome → ∀ b, b ∈ G'.loc i → b ∉ G.loc x := fun x h1 h2 b hb hbx => by
  obtain ⟨r, hx⟩ := Option.isSome_iff_exists.1 h2
  rcases hnew b hb with h | h
  ·exact hr.disj i x hsi h2 (fun e => h1 e.symm) b (hown b h) hbx
  ·have := bound x r hx b hbx; omega
 refine ⟨G2, ⟨hr.size, hr.defers, fun x v hx => hm (hocc.1 x v hx) (hr.slots x v hx), fun x r hx => ?_, fun x y h1 h2 hxy b hb => ?_, fun x h1 b hb => ?_, hr.frm.trans hret.frm ?_, hret.top, fun x l hl => ?_⟩, ?_⟩
 ·rcases cases3 x r hx with ⟨rfl, rfl⟩ | ⟨e1, e2, h3⟩
  ·intro b hb
   rw [l1] at hb
   exact hret.heap i _ gi2 b hb
  ·have hh := hr.heap x r h3
   have n2 := hocc.2 x r h3
   have hb0 := blk x r e1 h3
   cases r with
   | box cs =>
    obtain ⟨b, us, e, e1', e2', e3, e4, e5⟩ := hh
    obtain ⟨f1, f2⟩ := hb0 b (by simp [e1'])
    exact ⟨b, us, e, (l2 x e2).trans e1', f1.trans e2', e3, f2.trans e4, fun q hq hv => hm (fun hid => n2 (AV.mem_idsL (List.getElem_mem hq) hid)) (e5 q hq hv)⟩
   | tok n' k' => intro b hb; rw [l2 x e2] at hb; exact Nat.lt_of_lt_of_le (hh b hb) hret.frm.size
   | map ks =>
    obtain ⟨b, es, cl, h5, h6, h7, h8⟩ := hh
    obtain ⟨f1, f2⟩ := hb0 b (by simp [h5])
    exact ⟨b, es, cl, (l2 x e2).trans h5, f1.trans h6, f2.trans h7, h8⟩
   | tree cs => exact tree_mono hh (l2 x e2) hb0 hret.frm.size (fun y hy v => hm (fun hid => n2 (AV.mem_idsL hy hid)))
 ·rcases src x h1 with rfl | ⟨a1, a2, a3⟩ <;> rcases src y h2 with rfl | ⟨b1, b2, b3⟩
  ·exact absurd rfl hxy
  ·rw [l1] at hb
   rw [l2 y b2]
   exact mix y b1 b3 b hb
  ·rw [l2 x a2] at hb
   rw [l1]
   exact fun h => mix x a1 a3 b h hb
  ·rw [l2 x a2] at hb
   rw [l2 y b2]
   exact hr.disj x y a3 b3 hxy b hb
 ·rcases src x h1 with rfl | ⟨a1, a2, a3⟩
  ·rw [l1] at hb
   rcases hnew b hb with h | h
   ·exact hr.new i hsi b (hown b h)
   ·right; have := hr.frm.size; omega
  ·rw [l2 x a2] at hb
   exact hr.new x a3 b hb
 ·intro b hb
  exact hr.new i hsi b (hown b hb)
 ·have hk := hr.kept x l hl
  have e1 : x ≠ i := fun e => by
   have h1 := hk.2.2
   have h2 : tokf s.hp x = some (n, k) := e ▸ tokf_some.2 hi
   rw [h2] at h1; cases h1
  have e2 : x ≠ j := fun e => by
   have h1 := hk.2.1
   have h2 : getH s.hp x = none := e ▸ hj
   rw [h2] at h1; cases h1
  refine ⟨by rw [l2 x e2]; exact hk.1, ?_, ?_⟩
  ·show (getH hp' x).isSome = true
   rw [g3 x e1 e2]; exact hk.2.1
  ·show tokf hp' x = none
   have := hk.2.2
   unfold tokf at this ⊢
   rw [g3 x e1 e2]; exact this
 ·exact hret.res.gl_move (G' := G2) (tokf_some.2 gi2) rfl l1 (tokf_some.2 g2)
end
section
variable {c : Ctx} {all : Array Oper} {chk : List Rec → Prop} {os : List Oper} {recs : List Rec} {env : Env} {hp : Hp} {Q : St → Prop}
variable {d ty : Nat} {pos : String} {af : Array Edge} {g : Option (Nat × Bool)} {pg : List (Nat × AV)}
theorem Walk.callT {f : FuncId} {args : Array Operand} {ats : Array TypeId} {xs : List Operand} {vs avs : List AV} {i n k m : Nat} {ys : List (List D)} (j : Nat) (hc : Callee c.P f)
  (hf : FnD c.P f avs [(i, some (.tok n k))] (.gl i ys) [(i, some (.tok m k))])
  (hargs : args = xs.toArray) (hg : GH all env g pg) (hd : Nat.blt d c.n = true) (hx : opdL env xs = some vs) (hle : LeL vs avs) (hi : getH hp i = some (.tok n k)) (hcr : freshB env hp [j] = true)
  (hn : Walk c all chk os (mkRec (pg ++ opFL xs vs) [(i, .tok n k)] [j] ⟨some (d, .gl j ys), [(i, none), (j, some (.tok m k))]⟩ :: recs) ⟨(d, .gl j ys) :: env, (i, none) :: (j, some (.tok m k)) :: hp⟩ Q) :
  Walk c all chk (⟨some d, .call ⟨.value (.func f), args, ats⟩, ty, pos, af, g⟩ :: os) recs ⟨env, hp⟩ Q := by
 subst hargs
 refine ⟨pg ++ opFL xs vs, [(i, .tok n k)], [j], _, ?_, facts_append hg.facts (opFL_holds hx), hh1 hi, freshB_spec hcr, hn⟩
 intro s a w hrel hp' hh hcr' K Q' hK
 obtain ⟨G, hr⟩ := hrel
 have hrl := opdL_rel hr (opdL_facts hx (fun p hm => hp' p (by simp [hm])))
 have hle' : ∀ {l m : List AV}, LeL l m → ∀ i (h1 : i < l.length) (h2 : i < m.length), LeA l[i] m[i] := by
  intro l
  induction l with
  | nil => intro m _ i h1; simp at h1
  | cons x r ih =>
   intro m h i h1 h2
   cases h with
   | cons h t =>
    cases i with
    | zero => exact h
    | succ i => exact ih t i (by simpa using h1) (by simpa using h2)
 have hall : AllR G (tokf s.hp) w avs (xs.map a.eval).toArray := by
  refine ⟨by simp [← hle.len, hrl.1], fun i hi hv => ?_⟩
  have h1 : i < vs.length := by rw [hle.len]; exact hi
  have := (hrl.2 i h1 (by rw [← hrl.1]; exact h1)).le (hle' hle i h1 hi)
  simpa using this
 have hcalls := call_stepT hr hf hall (hh1' hh) (hcr' j (by simp)).1 (hcr' j (by simp)).2
 unfold wpO
 rw [if_pos (hg.gf.wanted hr (fun p hm => hp' p (by simp [hm])))]
 unfold Oper.wp
 have hrun : (execOp a.eval ⟨some d, .call ⟨.value (.func f), xs.toArray, ats⟩, ty, pos, af, g⟩).run c.P w = .ok (.enter f (xs.map a.eval).toArray) w := by
  have := hc.run (xs.map a.eval).toArray w
  simp only [execOp, resolve, Sem.run_bind, Act.eval, Deferred.ofValue, Sem.run_pure, Result.andThen_ok, invoke]
  simpa using this
 rw [hrun, Oper.upon_enter]
 refine hcalls.mono ?_
 rintro e w' ⟨v, rfl, G', hR, hA⟩
 exact hK _ _ ⟨G', hR.put hA hd⟩
end
section
variable {c : Ctx} {all : Array Oper} {K : Kt}
theorem walk_opsK {Q : St → Prop} {Q' : Exit → Act → World → Prop} {l2 : List Nat} (hQ : ∀ s a w, Rel c s a w → Q s → wpOps c.P all Q' l2 a w) :
  ∀ (l : List Nat) (os : List Oper) (recs : List Rec) (s : St) (a : Act) (w : World), l.filterMap (all[·]?) = os → (∀ i, i ∈ l → i < all.size) →
   Walk c all (fun _ => True) os recs s Q → Rel c s a w → wpOps c.P all Q' (l ++ l2) a w
 | [], os, recs, s, a, w, hl, _, hw, hr => by
  simp only [List.filterMap_nil] at hl
  subst hl
  exact hQ s a w hr hw.2
 | i :: l, os, recs, s, a, w, hl, hlt, hw, hr => by
  have hi : i < all.size := hlt i (by simp)
  have ho : all[i]? = some all[i] := by simp [hi]
  rw [List.filterMap_cons] at hl
  simp only [ho] at hl
  subst hl
  obtain ⟨pre, prh, cr, u, hrule, h1, h2, h3, hrest⟩ := hw
  rw [List.cons_append, wpOps_cons]
  unfold wpOp
  simp only [ho]
  have := hrule s a w hr h1 h2 h3 (wpOps c.P all Q' (l ++ l2)) Q' (fun a' w' hr' =>
   walk_opsK hQ l _ _ _ a' w' rfl (fun j hj => hlt j (by simp [hj])) hrest hr')
  unfold wpO at this
  split
  ·rename_i hw; simp only [hw, if_true] at this; exact .inl this
  ·rename_i hw; simp only [hw] at this; exact this
theorem range_ops (all : Array Oper) : (List.range all.size).filterMap (all[·]?) = all.toList := by
 have h1 : (List.range all.size).filterMap (all[·]?) = (List.range all.toList.length).filterMap (all.toList[·]?) := by simp
 rw [h1]
 generalize all.toList = l
 induction l with
 | nil => rfl
 | cons x l ih =>
  rw [List.length_cons, List.range_succ_eq_map, List.filterMap_cons]
  simp only [List.getElem?_cons_zero, List.filterMap_map]
  exact congrArg (List.cons x) ih
theorem filterMap_all {all : Array Oper} : ∀ {l : List Nat}, (∀ i, i ∈ l → i < all.size) → l.filterMap (all[·]?) = l.map (fun i => all[i]!)
 | [], _ => rfl
 | i :: r, h => by
  have hi : i < all.size := h i (by simp)
  have ho : all[i]? = some all[i] := by simp [hi]
  rw [List.filterMap_cons]
  simp only [ho, List.map_cons]
  rw [filterMap_all (fun j hj => h j (by simp [hj]))]
  simp [hi]
theorem cut_ops (all : Array Oper) (k j : Nat) : (((List.range all.size).drop k).take j).filterMap (all[·]?) = (all.toList.drop k).take j := by
 have h0 := range_ops all
 rw [filterMap_all (fun i hi => by simpa using hi)] at h0
 rw [filterMap_all (fun i hi => by simpa using List.mem_of_mem_drop (List.mem_of_mem_take hi)), ← h0, List.map_take, List.map_drop]
def WRest (c : Ctx) (all : Array Oper) (k : Nat) (s : St) (K : Kt) : Prop := ∀ a w, Rel c s a w → wpOps c.P all (K.post c) ((List.range all.size).drop k) a w
theorem CWp.regionJ {id : Nat} {s : St} (h : WRest c all 0 s K) : CWp c (.region id all false) s K := by
 intro a w hr
 have := h a w hr
 rw [List.drop_zero] at this
 exact wp_region this
theorem WRest.done {k : Nat} {s : St} (h : Walk c all (fun _ => True) (all.toList.drop k) [] s K.n) : WRest c all k s K := by
 intro a w hr
 have e := cut_ops all k (all.size - k)
 rw [List.take_of_length_le (by simp), List.take_of_length_le (by simp)] at e
 exact walk_ops (Q := K.n) (fun s a w hr hq => ⟨s, hr, hq⟩) _ _ [] s a w e (fun i hi => by simpa using List.mem_of_mem_drop hi) h hr
theorem WRest.join {k : Nat} {env : Env} {hp : Hp} (j : Nat) (E : Env) (ks : List Nat)
  (h1 : Walk c all (fun _ => True) ((all.toList.drop k).take j) [] ⟨env, hp⟩ (fun s1 => Sub ⟨E ++ (killE ks ++ env), [] ++ hp⟩ s1))
  (h2 : WRest c all (k + j) ⟨E ++ (killE ks ++ env), hp⟩ K) : WRest c all k ⟨env, hp⟩ K := by
 intro a w hr
 have hk : ∀ id l, c.kept id = some l → (getH hp id).isSome := by
  obtain ⟨G, hg⟩ := hr
  exact fun id l hl => (hg.kept id l hl).2.1
 have e : (List.range all.size).drop k = ((List.range all.size).drop k).take j ++ (List.range all.size).drop (k + j) := by
  conv => lhs; rw [← List.take_append_drop j ((List.range all.size).drop k), List.drop_drop]
 rw [e]
 exact walk_opsK (fun s1 a1 w1 hr1 hs => h2 a1 w1 (hr1.sub hs hk)) _ _ [] _ a w (cut_ops all k j) (fun i hi => by simpa using List.mem_of_mem_drop (List.mem_of_mem_take hi)) h1 hr
end
theorem killI_app {i j : Nat} {b : Env} {t : Nat} {v : AV} : ∀ {a : Env}, getE (a ++ killI i j b) t = some v → ∃ u, getE (a ++ b) t = some u ∧ (v = .any ∨ v = u)
 | [], h => by
  obtain ⟨u, h1, h2⟩ := killI_get (l := b) h
  exact ⟨u, h1, h2.imp_right (fun h => h.1)⟩
 | (k, x) :: r, h => by
  simp only [List.cons_append, getE] at h ⊢
  cases hb : Nat.beq k t with
  | true => simp only [hb, cond_true, Option.some.injEq] at h; exact ⟨x, by simp, .inr h.symm⟩
  | false =>
   simp only [hb, cond_false] at h
   obtain ⟨u, h1, h2⟩ := killI_app (a := r) h
   exact ⟨u, by simpa using h1, h2⟩
theorem Sub.kill {i j : Nat} {a b : Env} {hp : Hp} {s : St} (h : Sub ⟨a ++ b, hp⟩ s) : Sub ⟨a ++ killI i j b, hp⟩ s := by
 refine ⟨fun t v hv => ?_, h.hp⟩
 obtain ⟨u, h1, h2⟩ := killI_app hv
 rcases h2 with rfl | rfl
 ·exact .inl rfl
 ·exact h.env t v h1
section
variable {c : Ctx} {K : Kt}
theorem CWp.loopT (i j : Nat) {ι : Type} {body : Code} {env : Env} {hp : Hp} {ids : List Nat} (hkp : KeptIn c.kept ids) (E : ι → Env) (ks : List Nat) (H : ι → Hp) (good : ι → Prop) (μ : ι → Nat) (x0 : ι) (h0 : good x0)
  (he0 : SubE (E x0) env) (hh0 : SubH (H x0) hp) (hk : ∀ x, ids.all (fun id => (getH (H x ++ hp) id).isSome) = true)
  (hround : ∀ x, good x → CWp c body ⟨E x ++ (killE ks ++ killI i j env), H x ++ hp⟩ (K.with fun s' => ∃ x', good x' ∧ μ x' < μ x ∧ Sub ⟨E x' ++ (killE ks ++ killI i j env), H x' ++ hp⟩ s')) :
  CWp c (.loop body) ⟨env, hp⟩ K := by
 refine CWp.loop (fun x => ⟨E x ++ (killE ks ++ killI i j env), H x ++ hp⟩) good μ x0 h0 ?_ (fun x => hkp.ok (hk x)) hround
 have h : Sub ⟨E x0 ++ (killE ks ++ env), H x0 ++ hp⟩ ⟨env, hp⟩ := Sub.x (by simp) (by simp [coverE]) he0 (by simp) (by simp [coverH]) hh0
 rw [← List.append_assoc] at h
 have := h.kill (i := i) (j := j)
 rw [List.append_assoc] at this
 exact this
end
theorem FnD.nilTok {P : Program} {f : FuncId} {i k m : Nat} {rest : List AV} {ys : List (List D)} (hrest : AV.idsL rest = []) (h : FnD P f (.gl i [] :: rest) [(i, some (.tok 0 k))] (.gl i ys) [(i, some (.tok m k))]) :
  FnD P f (.nils :: rest) [] (.d (.sl ys)) [] := by
 intro G w vals hok
 let G1 : Gh := { G with loc := fun _ => [] }
 have only : ∀ {id : Nat} {x y : Res}, getH [(i, some x)] id = some y → id = i ∧ y = x := fun {id x y} h => by
  rw [getH_cons] at h
  split at h
  ·rename_i e; cases h; exact ⟨e, rfl⟩
  ·cases h
 have gi : getH [(i, some (Res.tok 0 k))] i = some (.tok 0 k) := by simp [getH]
 have hok1 : HOK G1 w [(i, some (.tok 0 k))] (.gl i [] :: rest) vals := by
  refine ⟨⟨hok.args.size, fun q hq hv => ?_⟩, fun id r hx => ?_, fun id id' h1 h2 h3 => ?_, hok.top⟩
  ·have h1 := hok.args.rel q hq hv
   cases q with
   | zero =>
    simp only [List.getElem_cons_zero] at h1 ⊢
    generalize vals[0] = v at *
    cases h1
    refine .gl .nil (fun n k' hT => ?_)
    have := (only (tokf_some.1 hT)).2
    cases this
    exact ⟨Nat.le_refl _, fun _ => ⟨by simp, .inl ⟨rfl, rfl, rfl⟩⟩⟩
   | succ q =>
    simp only [List.getElem_cons_succ] at h1 ⊢
    have hn : ∀ id, id ∉ (rest[q]'(by simpa using hq)).ids := fun id hid => by
     have := AV.mem_idsL (List.getElem_mem _) hid
     rw [hrest] at this; simp at this
    exact h1.mono (fun _ _ ho => ⟨ho, rfl⟩) (fun id hid => (hn id hid).elim) (fun id hid => (hn id hid).elim)
  ·obtain ⟨rfl, rfl⟩ := only hx
   intro b hb
   simp [G1] at hb
  ·obtain ⟨x, hx⟩ := Option.isSome_iff_exists.1 h1
   obtain ⟨y, hy⟩ := Option.isSome_iff_exists.1 h2
   exact absurd ((only hx).1.trans (only hy).1.symm) h3
 refine (h G1 w vals hok1).mono ?_
 rintro e w' ⟨v, r, hp', G', rfl, ⟨rfl, rfl⟩, hret⟩
 have own1 : ∀ b, b ∉ ownedL G1 [(i, some (Res.tok 0 k))] := fun b hb => by
  obtain ⟨id, _, h2⟩ := ownedL_iff.1 hb
  simp [G1] at h2
 have hres : RelD G'.F w' (.sl ys) v := by
  have h1 := hret.res
  generalize hx : AV.gl i ys = x at h1
  cases h1 with
  | gl h _ => cases hx; exact h
  | _ => cases hx
 refine ⟨v, _, _, G', rfl, ⟨rfl, rfl⟩, .d hres, fun id x hx => ?_, fun id id' h1 => ?_, fun id h1 => ?_, ?_, hret.top, fun id hi => ?_⟩
 ·simp [getH] at hx
 ·simp [getH] at h1
 ·simp [getH] at h1
 ·have hf := hret.frm
  exact ⟨hf.os, hf.tape, hf.output, hf.size, fun b hb hn => hf.block b hb (own1 b), hf.cell⟩
 ·simp [isBox, getH] at hi
theorem eqFields_intsD {P : Program} {w : World} {G : Gh} {T : TokF} : ∀ {d : Nat} {fs : List Field} {i : Nat} {xs ys : List AV} {b : Bool} {us vs : Array Value}, intFields P i fs = true → eqC xs ys = some b → fs.length = xs.length →
  (∀ j (h : j < xs.length), ∃ u, us[i + j]? = some u ∧ RelA G T w xs[j] u) → (∀ j (h : j < ys.length), ∃ u, vs[i + j]? = some u ∧ RelA G T w ys[j] u) →
  (Op.eqFields (d + 1) us vs fs).run P w = .ok b w
 | d, [], i, [], [], b, us, vs, _, h, _, _, _ => by simp only [eqC, Option.some.injEq] at h; subst h; simp [Op.eqFields]
 | d, [], i, [], _ :: _, b, us, vs, _, h, _, _, _ => by simp [eqC] at h
 | d, [], i, _ :: _, _, b, us, vs, _, _, h, _, _ => by simp at h
 | d, f :: fs, i, [], _, b, us, vs, _, _, h, _, _ => by simp at h
 | d, f :: fs, i, x :: xs, ys, b, us, vs, hf, he, hl, hx, hy => by
  cases ys with
  | nil => unfold eqC at he; split at he <;> simp_all
  | cons y ys =>
   unfold eqC at he
   split at he
   ·rename_i h1 h2; simp at h1
   ·rename_i a r b' s h1 h2
    simp only [List.cons.injEq] at h1 h2
    obtain ⟨rfl, rfl⟩ := h1
    obtain ⟨rfl, rfl⟩ := h2
    split at he
    ·rename_i t ht
     simp only [Option.some.injEq] at he
     subst he
     simp only [intFields, Bool.and_eq_true, bne_iff_ne] at hf
     obtain ⟨⟨⟨f1, f2⟩, f3⟩, f4⟩ := hf
     have f2' := Nat.eq_of_beq_eq_true f2
     obtain ⟨u, hu, hru⟩ := hx 0 (by simp)
     obtain ⟨v, hv, hrv⟩ := hy 0 (by simp)
     have hu' := hru.int_eq
     have hv' := hrv.int_eq
     subst hu' hv'
     have ih := eqFields_intsD (P := P) (w := w) (d := d) (us := us) (vs := vs) f4 ht (by simpa using hl)
      (fun j h => by obtain ⟨u, h1, h2⟩ := hx (j + 1) (by simpa using h); exact ⟨u, by rw [show i + 1 + j = i + (j + 1) by omega]; exact h1, by simpa using h2⟩)
      (fun j h => by obtain ⟨u, h1, h2⟩ := hy (j + 1) (by simpa using h); exact ⟨u, by rw [show i + 1 + j = i + (j + 1) by omega]; exact h1, by simpa using h2⟩)
     split at f3
     ·rename_i kd hk
      have p1 : (part f.type us f.offset).run P w = .ok (.int .i64 a) w := by
       have hu0 : us[i]? = some (.int .i64 a) := by simpa using hu
       simp only [part, isAgg, Sem.run_bind, run_underlying hk, Result.andThen_ok, Sem.run_pure, f2', hu0, Bool.false_eq_true, if_false]
      have p2 : (part f.type vs f.offset).run P w = .ok (.int .i64 b') w := by
       have hv0 : vs[i]? = some (.int .i64 b') := by simpa using hv
       simp only [part, isAgg, Sem.run_bind, run_underlying hk, Result.andThen_ok, Sem.run_pure, f2', hv0, Bool.false_eq_true, if_false]
      simp only [Op.eqFields]
      rw [if_pos f1]
      simp only [Sem.run_bind, p1, p2, Result.andThen_ok, run_equalIn_int w d f.type .i64 kd a b' hk]
      by_cases hab : a = b'
      ·subst hab
       simp [ih]
      ·simp [hab]
     ·cases f3
    ·cases he
   ·cases he
def subF (P : Program) (f : Field) : Nat := match P.underlying f.type with
 | some (.int _) => 1
 | some (.struct _) => (P.fieldsOf f.type).size
 | _ => 0
def cells2 (P : Program) : List Field → Nat
 | [] => 0
 | f :: r => subF P f + cells2 P r
def intFields2 (P : Program) : Nat → List Field → Bool
 | _, [] => true
 | i, f :: r => (f.name != "_") && Nat.beq f.offset i && (match P.underlying f.type with
  | some (.int _) => true
  | some (.struct _) => (match P.stoodInHeld f.type with | true => false | false => true) && intFields P 0 (P.fieldsOf f.type).toList && (match tyGet P f.type with | some (k, true) => Nat.beq k (P.fieldsOf f.type).size | _ => false)
  | _ => false) && intFields2 P (i + subF P f) r
structure EqT2 (P : Program) (t k : Nat) : Prop where
 und : P.underlying t = some (.struct (P.fieldsOf t))
 held : P.stoodInHeld t = false
 grd : P.eqGuardType P.depth t = false
 fld : intFields2 P 0 (P.fieldsOf t).toList = true
 len : cells2 P (P.fieldsOf t).toList = k
theorem eqC_split {k : Nat} : ∀ {xs ys : List AV} {b : Bool}, eqC xs ys = some b → k ≤ xs.length → ∃ b1 b2, eqC (xs.take k) (ys.take k) = some b1 ∧ eqC (xs.drop k) (ys.drop k) = some b2 ∧ b = (b1 && b2) := by
 induction k with
 | zero => intro xs ys b h _; exact ⟨true, b, by simp [eqC], by simpa using h, by simp⟩
 | succ k ih =>
  intro xs ys b h hk
  cases xs with
  | nil => simp at hk
  | cons x r =>
   cases ys with
   | nil => unfold eqC at h; split at h <;> simp_all
   | cons y s =>
    unfold eqC at h
    split at h
    ·rename_i h1 h2; simp at h1
    ·rename_i a r' b' s' h1 h2
     simp only [List.cons.injEq] at h1 h2
     obtain ⟨rfl, rfl⟩ := h1
     obtain ⟨rfl, rfl⟩ := h2
     split at h
     ·rename_i t ht
      simp only [Option.some.injEq] at h
      subst h
      obtain ⟨b1, b2, e1, e2, e3⟩ := ih ht (by simpa using hk)
      refine ⟨decide (a = b') && b1, b2, by simp [eqC, e1], by simpa using e2, by rw [e3, Bool.and_assoc]⟩
     ·cases h
    ·cases h
theorem eqFields_ints2 {P : Program} {w : World} {G : Gh} {T : TokF} : ∀ {fs : List Field} {i : Nat} {xs ys : List AV} {b : Bool} {us vs : Array Value}, intFields2 P i fs = true → eqC xs ys = some b → cells2 P fs = xs.length →
  (∀ j (h : j < xs.length), ∃ u, us[i + j]? = some u ∧ RelA G T w xs[j] u) → (∀ j (h : j < ys.length), ∃ u, vs[i + j]? = some u ∧ RelA G T w ys[j] u) →
  (Op.eqFields 9999 us vs fs).run P w = .ok b w
 | [], i, xs, ys, b, us, vs, _, h, hl, _, _ => by
  have e : xs = [] := List.eq_nil_of_length_eq_zero hl.symm
  subst e
  have e2 := eqC_len h
  have e : ys = [] := List.eq_nil_of_length_eq_zero e2.symm
  subst e
  simp only [eqC, Option.some.injEq] at h; subst h; simp [Op.eqFields]
 | f :: fs, i, xs, ys, b, us, vs, hf, he, hl, hx, hy => by
  have hlen := eqC_len he
  simp only [cells2] at hl
  simp only [intFields2, Bool.and_eq_true, bne_iff_ne] at hf
  obtain ⟨⟨⟨f1, f2⟩, f3⟩, f4⟩ := hf
  have f2' := Nat.eq_of_beq_eq_true f2
  obtain ⟨b1, b2, e1, e2, e3⟩ := eqC_split (k := subF P f) he (by omega)
  have ih := eqFields_ints2 (P := P) (w := w) (us := us) (vs := vs) f4 e2 (by rw [List.length_drop]; omega)
   (fun j h => by
    rw [List.length_drop] at h
    obtain ⟨u, h1, h2⟩ := hx (subF P f + j) (by omega)
    exact ⟨u, by rw [Nat.add_assoc]; exact h1, by rw [List.getElem_drop]; exact h2⟩)
   (fun j h => by
    rw [List.length_drop] at h
    obtain ⟨u, h1, h2⟩ := hy (subF P f + j) (by omega)
    exact ⟨u, by rw [Nat.add_assoc]; exact h1, by rw [List.getElem_drop]; exact h2⟩)
  have key : ∃ u v, (part f.type us f.offset).run P w = .ok u w ∧ (part f.type vs f.offset).run P w = .ok v w ∧ (Op.equalIn 9999 f.type u v).run P w = .ok b1 w := by
   split at f3
   ·rename_i kd hk
    have hs : subF P f = 1 := by unfold subF; rw [hk]
    rw [hs] at e1 hl
    obtain ⟨u, hu, hru⟩ := hx 0 (by omega)
    obtain ⟨v, hv, hrv⟩ := hy 0 (by omega)
    rcases xs with _ | ⟨x, xr⟩
    ·simp at hl
    rcases ys with _ | ⟨y, yr⟩
    ·simp at hlen
    simp only [List.getElem_cons_zero] at hru hrv
    simp only [List.take_succ_cons, List.take_zero] at e1
    unfold eqC at e1
    split at e1
    ·rename_i h1 _; simp at h1
    ·rename_i a r b' s h1 h2
     simp only [List.cons.injEq] at h1 h2
     obtain ⟨rfl, rfl⟩ := h1
     obtain ⟨rfl, rfl⟩ := h2
     simp only [eqC, Bool.and_true, Option.some.injEq] at e1
     have hu' := hru.int_eq
     have hv' := hrv.int_eq
     subst hu' hv'
     refine ⟨.int .i64 a, .int .i64 b', ?_, ?_, ?_⟩
     ·have hu0 : us[i]? = some (.int .i64 a) := by simpa using hu
      simp only [part, isAgg, Sem.run_bind, run_underlying hk, Result.andThen_ok, Sem.run_pure, f2', hu0, Bool.false_eq_true, if_false]
     ·have hv0 : vs[i]? = some (.int .i64 b') := by simpa using hv
      simp only [part, isAgg, Sem.run_bind, run_underlying hk, Result.andThen_ok, Sem.run_pure, f2', hv0, Bool.false_eq_true, if_false]
     ·rw [show (9999 : Nat) = 9998 + 1 from rfl, run_equalIn_int w 9998 f.type .i64 kd a b' hk, ← e1]
      congr 1
    ·cases e1
   ·rename_i fs' hk
    simp only [Bool.and_eq_true] at f3
    obtain ⟨⟨g1, g2⟩, g3⟩ := f3
    have hheld : P.stoodInHeld f.type = false := by
     split at g1
     ·cases g1
     ·assumption
    have hund : P.underlying f.type = some (.struct (P.fieldsOf f.type)) := by rw [hk]; simp [Program.fieldsOf, hk]
    have hs : subF P f = (P.fieldsOf f.type).size := by unfold subF; rw [hk]
    have hty : TyS P f.type (P.fieldsOf f.type).size true := by
     split at g3
     ·rename_i k hg; rw [← Nat.eq_of_beq_eq_true g3]; exact TyS.of hg
     ·cases g3
    have hpart : ∀ cs : Array Value, (part f.type cs f.offset).run P w = .ok (.agg (cs.extract i (i + (P.fieldsOf f.type).size))) w := fun cs => by
     simp only [part, Sem.run_bind, hty.run_agg, hty.run_size, Result.andThen_ok, Sem.run_pure, f2', if_true]
    refine ⟨_, _, hpart us, hpart vs, ?_⟩
    rw [show (9999 : Nat) = 9998 + 1 from rfl, run_equalIn_agg w 9998 f.type _ _ hund hheld]
    refine eqFields_intsD (d := 9997) (G := G) (T := T) (i := 0) g2 e1 (by rw [List.length_take, Array.length_toList, hs]; omega) (fun j h => ?_) (fun j h => ?_)
    ·rw [List.length_take] at h
     obtain ⟨u, h1, h2⟩ := hx j (by omega)
     refine ⟨u, ?_, by rw [List.getElem_take]; exact h2⟩
     rw [Array.getElem?_extract, if_pos (by have := (Array.getElem?_eq_some_iff.1 h1).1; omega), Nat.zero_add]
     exact h1
    ·rw [List.length_take] at h
     obtain ⟨u, h1, h2⟩ := hy j (by omega)
     refine ⟨u, ?_, by rw [List.getElem_take]; exact h2⟩
     rw [Array.getElem?_extract, if_pos (by have := (Array.getElem?_eq_some_iff.1 h1).1; omega), Nat.zero_add]
     exact h1
   ·cases f3
  obtain ⟨u, v, p1, p2, p3⟩ := key
  simp only [Op.eqFields]
  rw [if_pos f1]
  simp only [Sem.run_bind, p1, p2, Result.andThen_ok, p3]
  subst e3
  cases b1 with
  | true => simp [ih]
  | false => simp
theorem run_eqV2 {P : Program} {w : World} {G : Gh} {T : TokF} {t : TypeId} {xs ys : List AV} {b : Bool} {u v : Value} {k : Nat} (ht : EqT2 P t k) (hl0 : xs.length = k) (he : eqC xs ys = some b) (hu : RelA G T w (.agg xs) u) (hv : RelA G T w (.agg ys) v) :
  ∃ us vs, u = .agg us ∧ v = .agg vs ∧ (Op.equalIn 10000 t (.agg us) (.agg vs)).run P w = .ok b w := by
 cases hu with
 | agg h1 h2 =>
  cases hv with
  | agg h3 h4 =>
   refine ⟨_, _, rfl, rfl, ?_⟩
   rw [show (10000 : Nat) = 9999 + 1 from rfl, run_equalIn_agg w 9999 t _ _ ht.und ht.held]
   refine eqFields_ints2 (G := G) (T := T) (i := 0) ht.fld he (ht.len.trans hl0.symm) (fun j h => ?_) (fun j h => ?_)
   ·rename_i us vs
    have hj : j < us.size := by rw [h1]; exact h
    exact ⟨us[j], by rw [Nat.zero_add, Array.getElem?_eq_getElem hj], h2 j h hj⟩
   ·rename_i us vs
    have hj : j < vs.size := by rw [h3]; exact h
    exact ⟨vs[j], by rw [Nat.zero_add, Array.getElem?_eq_getElem hj], h4 j h hj⟩
section
variable {c : Ctx} {all : Array Oper} {chk : List Rec → Prop} {os : List Oper} {recs : List Rec} {env : Env} {hp : Hp} {Q : St → Prop}
variable {d ty : Nat} {pos : String} {af : Array Edge} {g : Option (Nat × Bool)} {pg : List (Nat × AV)}
variable {t yt : TypeId} {x y : Operand}
theorem Walk.eqV2 {xs ys : List AV} {b : Bool} {k : Nat} (ht : EqT2 c.P t k) (hg : GH all env g pg) (hd : Nat.blt d c.n = true) (hx : opd env x = some (.agg xs)) (hy : opd env y = some (.agg ys)) (he : eqC xs ys = some b) (hl : xs.length = k)
  (hn : Walk c all chk os (mkRec (pg ++ (opF x (.agg xs) ++ opF y (.agg ys))) [] [] ⟨some (d, .d (.bool b)), []⟩ :: recs) ⟨(d, .d (.bool b)) :: env, hp⟩ Q) :
  Walk c all chk (⟨some d, .binOp .eql t x y yt, ty, pos, af, g⟩ :: os) recs ⟨env, hp⟩ Q := by
 refine Walk.pure2 hg hd hx hy (fun a G T w h1 h2 => ⟨.bool b, ?_, .d (.bool _)⟩) hn
 obtain ⟨us, vs, e1, e2, e3⟩ := run_eqV2 ht hl he h1 h2
 simp only [execOp, e1, e2]
 simp only [Sem.run_bind, run_eqGuard_agg w .eql t x y us vs ht.grd, Result.andThen_ok, run_eql_struct, e3, Sem.run_pure]
theorem Walk.neV2 {xs ys : List AV} {b : Bool} {k : Nat} (ht : EqT2 c.P t k) (hg : GH all env g pg) (hd : Nat.blt d c.n = true) (hx : opd env x = some (.agg xs)) (hy : opd env y = some (.agg ys)) (he : eqC xs ys = some b) (hl : xs.length = k)
  (hn : Walk c all chk os (mkRec (pg ++ (opF x (.agg xs) ++ opF y (.agg ys))) [] [] ⟨some (d, .d (.bool (!b))), []⟩ :: recs) ⟨(d, .d (.bool (!b))) :: env, hp⟩ Q) :
  Walk c all chk (⟨some d, .binOp .neq t x y yt, ty, pos, af, g⟩ :: os) recs ⟨env, hp⟩ Q := by
 refine Walk.pure2 hg hd hx hy (fun a G T w h1 h2 => ⟨.bool (!b), ?_, .d (.bool _)⟩) hn
 obtain ⟨us, vs, e1, e2, e3⟩ := run_eqV2 ht hl he h1 h2
 simp only [execOp, e1, e2]
 simp only [Sem.run_bind, run_eqGuard_agg w .neq t x y us vs ht.grd, Result.andThen_ok, run_neq_struct, e3, Sem.run_pure]
end
end Go.Proofs.Ytadpcmcifbakoaa
