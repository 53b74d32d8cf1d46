/-
  THE ABSTRACT WALK, part Y: contracts under other names, and with results that are never written again.
-/
import Derived.Test.YtadpcmcifbakoaaAmX
namespace Go.Proofs.Ytadpcmcifbakoaa
open Go
set_option linter.unusedSimpArgs false
set_option linter.unusedVariables false
mutual
theorem renA_back (i j : Nat) : ∀ {x : AV}, soleA i x = true → renA j i (renA i j x) = x
 | .ms a n, h => by
  simp only [soleA] at h
  have := Nat.eq_of_beq_eq_true h
  subst this
  simp [renA]
 | .d _, _ => rfl
 | .nils, _ => rfl
 | .agg cs, h => by
  simp only [soleA] at h
  simp only [renA, renL_back i j h]
 | .tup cs, h => by
  simp only [soleA] at h
  simp only [renA, renL_back i j h]
 | .sn _, h => by simp [soleA] at h
 | .gl _ _, h => by simp [soleA] at h
 | .gv _ _, h => by simp [soleA] at h
 | .gt _ _, h => by simp [soleA] at h
 | .ref _ _, h => by simp [soleA] at h
 | .mo _ _ _, h => by simp [soleA] at h
 | .mapr _, h => by simp [soleA] at h
 | .fn _ _, h => by simp [soleA] at h
 | .own _ _, h => by simp [soleA] at h
 | .any, h => by simp [soleA] at h
theorem renL_back (i j : Nat) : ∀ {l : List AV}, soleA.soleL i l = true → renL j i (renL i j l) = l
 | [], _ => rfl
 | x :: r, h => by
  simp only [soleA.soleL, Bool.and_eq_true] at h
  simp only [renL, renA_back i j h.1, renL_back i j h.2]
end
mutual
theorem soleA_ren (i j : Nat) : ∀ {x : AV}, soleA i x = true → soleA j (renA i j x) = true
 | .ms a n, h => by
  simp only [soleA] at h
  have := Nat.eq_of_beq_eq_true h
  subst this
  simp [renA, soleA]
 | .d _, _ => rfl
 | .nils, _ => rfl
 | .agg cs, h => by
  simp only [soleA] at h
  simp only [renA, soleA, soleL_ren i j h]
 | .tup cs, h => by
  simp only [soleA] at h
  simp only [renA, soleA, soleL_ren i j h]
 | .sn _, h => by simp [soleA] at h
 | .gl _ _, h => by simp [soleA] at h
 | .gv _ _, h => by simp [soleA] at h
 | .gt _ _, h => by simp [soleA] at h
 | .ref _ _, h => by simp [soleA] at h
 | .mo _ _ _, h => by simp [soleA] at h
 | .mapr _, h => by simp [soleA] at h
 | .fn _ _, h => by simp [soleA] at h
 | .own _ _, h => by simp [soleA] at h
 | .any, h => by simp [soleA] at h
theorem soleL_ren (i j : Nat) : ∀ {l : List AV}, soleA.soleL i l = true → soleA.soleL j (renL i j l) = true
 | [], _ => rfl
 | x :: r, h => by
  simp only [soleA.soleL, Bool.and_eq_true] at h
  simp only [renL, soleA.soleL, soleA_ren i j h.1, soleL_ren i j h.2, Bool.and_self]
end
theorem tree_conv {G0 G2 : Gh} {w0 : World} {a b : Nat} {cs : List AV} {T T' : TokF} (hF : G2.F = G0.F) (hl : G2.loc b = G0.loc a) (hcs : AV.idsL cs = []) (h : RelR G0 T w0 a (.tree cs)) : RelR G2 T' w0 b (.tree cs) := by
 obtain ⟨bl, vs, e, Ss, h1, h2, h3, h4, h5, h6⟩ := h
 refine ⟨bl, vs, e, Ss, hl.trans h1, h2, h3, by rw [hl]; exact h4, fun x hx => ?_, fun q hq hv => (h6 q hq hv).map (fun hx => ?_) (fun _ _ => rfl)⟩
 ·rw [hl] at hx; rw [hF]; exact h5 x hx
 ·have hn : ∀ id, id ∉ (cs[q]).ids := fun id hid => by
   have := AV.mem_idsL (List.getElem_mem hq) hid
   rw [hcs] at this; simp at this
  exact hx.mono (fun _ _ ho => ⟨by rw [hF]; exact ho, rfl⟩) (fun id hid => (hn id hid).elim) (fun id hid => (hn id hid).elim)
theorem FnD.ren {P : Program} {f : FuncId} {i : Nat} {args : List AV} {r : D} {cs cs' : List AV} (hs : soleA.soleL i args = true) (hc : AV.idsL cs = []) (hc' : AV.idsL cs' = []) (h : FnD P f args [(i, some (.tree cs))] (.d r) [(i, some (.tree cs'))]) (j : Nat) :
  FnD P f (renL i j args) [(j, some (.tree cs))] (.d r) [(j, some (.tree cs'))] := by
 intro G w vals hok
 let G1 : Gh := { G with loc := fun x => G.loc j }
 have gj : ∀ (x : Res), getH [(j, some x)] j = some x := fun x => by simp [getH]
 have gi : ∀ (x : Res), getH [(i, some x)] i = some x := fun x => by simp [getH]
 have only : ∀ {a id : Nat} {x y : Res}, getH [(a, some x)] id = some y → id = a ∧ y = x := fun {a id x y} h => by
  rw [getH_cons] at h
  split at h
  ·rename_i e; cases h; exact ⟨e, rfl⟩
  ·cases h
 have hsz := hok.args.size
 rw [renL_len] at hsz
 have hok1 : HOK G1 w [(i, some (.tree cs))] args vals := by
  refine ⟨⟨hsz, fun q hq hv => ?_⟩, fun id x hx => ?_, fun id id' h1 h2 hne => ?_, hok.top⟩
  ·have hq' : q < (renL i j args).length := by rw [renL_len]; exact hq
   have h1 := hok.args.rel q hq' hv
   rw [renL_at i j args q hq hq'] at h1
   have h2 := soleL_at i hs q hq
   have h3 := h1.ren (G' := G1) (T' := tokf [(i, some (Res.tree cs))]) (i := j) (j := i) rfl rfl (by unfold tokf; rw [gi]) (soleA_ren i j h2)
   rw [renA_back i j h2] at h3
   exact h3
  ·obtain ⟨rfl, rfl⟩ := only hx
   exact tree_conv (G0 := G) (G2 := G1) (a := j) rfl rfl hc (hok.heap j _ (gj _))
  ·obtain ⟨x, hx⟩ := Option.isSome_iff_exists.1 h1
   obtain ⟨y, hy⟩ := Option.isSome_iff_exists.1 h2
   exact absurd ((only hx).1.trans (only hy).1.symm) hne
 have own1 : ∀ b, b ∈ ownedL G1 [(i, some (.tree cs))] ↔ b ∈ ownedL G [(j, some (.tree cs))] := fun b => by
  rw [ownedL_iff, ownedL_iff]
  constructor
  ·rintro ⟨id, _, hb⟩; exact ⟨j, by rw [gj]; rfl, hb⟩
  ·rintro ⟨id, h1, hb⟩
   obtain ⟨x, hx⟩ := Option.isSome_iff_exists.1 h1
   rw [(only hx).1] at hb
   exact ⟨i, by rw [gi]; rfl, hb⟩
 refine (h G1 w vals hok1).mono ?_
 rintro e w' ⟨v, r', hp', G', rfl, ⟨rfl, rfl⟩, hret⟩
 have gi2 : getH ([(i, some (Res.tree cs'))] ++ [(i, some (.tree cs))]) i = some (.tree cs') := by simp [getH]
 have gj2 : getH ([(j, some (Res.tree cs'))] ++ [(j, some (.tree cs))]) j = some (.tree cs') := by simp [getH]
 have only2 : ∀ {a id : Nat} {x y z : Res}, getH ([(a, some x)] ++ [(a, some y)]) id = some z → id = a ∧ z = x := fun {a id x y z} h => by
  have h' : getH ((a, some x) :: [(a, some y)]) id = some z := h
  rw [getH_cons] at h'
  split at h'
  ·rename_i e; cases h'; exact ⟨e, rfl⟩
  ·rename_i hne; rw [getH_cons, if_neg hne] at h'; cases h'
 let G2 : Gh := { G' with loc := fun x => G'.loc i }
 refine ⟨v, _, _, G2, rfl, ⟨rfl, rfl⟩, .d hret.res.d_inv, fun id x hx => ?_, fun id id' h1 h2 hne => ?_, fun id h1 b hb => ?_, ?_, hret.top, fun id hi => ?_⟩
 ·obtain ⟨rfl, rfl⟩ := only2 hx
  exact tree_conv (G0 := G') (a := i) rfl rfl hc' (hret.heap i _ gi2)
 ·obtain ⟨x, hx⟩ := Option.isSome_iff_exists.1 h1
  obtain ⟨y, hy⟩ := Option.isSome_iff_exists.1 h2
  exact absurd ((only2 hx).1.trans (only2 hy).1.symm) hne
 ·exact (hret.new i (by rw [gi2]; rfl) b hb).imp_left (own1 b).1
 ·have hf := hret.frm
  exact ⟨hf.os, hf.tape, hf.output, hf.size, fun b hb hn => hf.block b hb (fun hm => hn ((own1 b).1 hm)), hf.cell⟩
 ·have hib : isBox [(i, some (Res.tree cs))] i = true := by unfold isBox; rw [gi]
  have hk := hret.kept i hib
  unfold isBox at hi
  cases hg : getH [(j, some (Res.tree cs))] id with
  | none => rw [hg] at hi; cases hi
  | some x =>
   obtain ⟨rfl, _⟩ := only hg
   exact ⟨hk.1, by rw [gj2]; rfl, by unfold tokf; rw [gj2]⟩
mutual
def frzA (x : D) : AV → AV
 | .ms _ _ => .d x
 | .agg cs => .agg (frzL x cs)
 | .tup cs => .tup (frzL x cs)
 | y => y
def frzL (x : D) : List AV → List AV
 | [] => []
 | y :: r => frzA x y :: frzL x r
end
theorem frzL_len (x : D) : ∀ l : List AV, (frzL x l).length = l.length
 | [] => rfl
 | y :: r => by simp [frzL, frzL_len x r]
theorem frzL_at (x : D) : ∀ (l : List AV) (q : Nat) (h : q < l.length) (h' : q < (frzL x l).length), (frzL x l)[q] = frzA x l[q]
 | y :: r, 0, _, _ => rfl
 | y :: r, q + 1, h, h' => by simp only [frzL, List.getElem_cons_succ]; exact frzL_at x r q (by simpa using h) (by simpa [frzL] using h')
def soleN (i n : Nat) : AV → Prop
 | .ms a m => a = i ∧ m = n
 | .d _ => True
 | .nils => True
 | .agg cs => soleNL i n cs
 | .tup cs => soleNL i n cs
 | _ => False
where soleNL (i n : Nat) : List AV → Prop
 | [] => True
 | x :: r => soleN i n x ∧ soleNL i n r
theorem soleNL_at (i n : Nat) : ∀ {l : List AV}, soleN.soleNL i n l → ∀ q (h : q < l.length), soleN i n l[q]
 | x :: r, hs, q, h => by
  cases q with
  | zero => exact hs.1
  | succ q => exact soleNL_at i n hs.2 q (by simpa using h)
theorem RelA.frz {G G' : Gh} {T T' : TokF} {w : World} {i n : Nat} {x : AV} {v : Value} {d : D} (h : RelA G T w x v) (hF : ∀ b o, o < G.F b → o < G'.F b) (hms : ∀ v, RelA G T w (.ms i n) v → RelD G'.F w d v) : soleN i n x → RelA G' T' w (frzA d x) v := by
 induction h with
 | d h => intro _; exact .d (h.mono (fun b o ho => ⟨hF b o ho, rfl⟩))
 | @ms a m b cap h hT hc =>
  intro hs
  obtain ⟨rfl, rfl⟩ := hs
  exact .d (hms _ (.ms h hT hc))
 | @agg cs vs hn h ih =>
  intro hs
  simp only [frzA]
  exact .agg (by rw [frzL_len]; exact hn) (fun q hq hv => by
   have hq' : q < cs.length := by rw [frzL_len] at hq; exact hq
   rw [frzL_at d cs q hq' hq]
   exact ih q hq' hv (soleNL_at i n hs q hq'))
 | @tup cs vs hn h ih =>
  intro hs
  simp only [frzA]
  exact .tup (by rw [frzL_len]; exact hn) (fun q hq hv => by
   have hq' : q < cs.length := by rw [frzL_len] at hq; exact hq
   rw [frzL_at d cs q hq' hq]
   exact ih q hq' hv (soleNL_at i n hs q hq'))
 | nils => intro _; exact .nils
 | _ => intro hs; exact hs.elim
theorem FnD.out_frz {P : Program} {f : FuncId} {i k : Nat} {m : Bool} {args : List AV} {r : AV} {xs : List (List D)} (hk : ∀ x, x ∈ xs → x.length = k) (hs : soleN i xs.length r) (h : FnD P f args [] r [(i, some (.tree (ownCells m xs)))]) :
  FnD P f args [] (frzA (.sl xs) r) [] := by
 intro G w vals hok
 refine (h G w vals hok).mono ?_
 rintro e w' ⟨v, r', hp', G', rfl, ⟨rfl, rfl⟩, hret⟩
 have gi : getH ([(i, some (Res.tree (ownCells m xs)))] ++ []) i = some (.tree (ownCells m xs)) := by simp [getH]
 obtain ⟨b, us, et, Ss, hT⟩ := hret.heap i _ gi
 have hown : ∀ b, b ∉ ownedL G [] := fun b hb => by simp [ownedL] at hb
 have hnew : ∀ b, b ∈ G'.loc i → w.heap.size ≤ b := fun b hb => (hret.new i (by rw [gi]; rfl) b hb).resolve_left (hown b)
 let G2 : Gh := { G' with F := fun x => bif elemB x (G'.loc i) then szB w' x else G'.F x }
 have hin : ∀ x, x ∈ G'.loc i → G2.F x = szB w' x := fun x hx => by simp [G2, elemB_iff.2 hx]
 have hout : ∀ x, x ∉ G'.loc i → G2.F x = G'.F x := fun x hx => by
  have : elemB x (G'.loc i) = false := by
   cases h : elemB x (G'.loc i) with
   | true => exact absurd (elemB_iff.1 h) hx
   | false => rfl
  simp [G2, this]
 have hle : ∀ b o, o < G'.F b → o < G2.F b := fun x o ho => by
  by_cases hx : x ∈ G'.loc i
  ·rw [(hT.mine x hx).1] at ho; omega
  ·rw [hout x hx]; exact ho
 refine ⟨v, _, _, G2, rfl, ⟨rfl, rfl⟩, hret.res.frz hle (fun u hu => ?_) hs, fun id x hx => (by cases hx), fun id id' h1 => (by cases h1), fun id h1 => (by cases h1), ?_, fun x hx => ?_, fun id hi => (by simp [isBox, getH] at hi)⟩
 ·obtain ⟨b', cap, hl, he, hcap⟩ := hu.ms_eq
  obtain rfl := hT.head hl.1
  have hbl : b' ∈ G'.loc i := by rw [hT.loc]; simp
  have hlen : (ownCells m xs).length = xs.length * k := ownCells_len hk
  have hle' : xs.length * k ≤ us.size := by have := hT.len; omega
  have hsz : szB w' b' = us.size := by simp [szB, hT.at_]
  rw [he]
  refine .sl xs k b' 0 cap (fun n => us.getD n undef) hk hcap (fun q hq => ⟨by rw [hin b' hbl]; omega, ?_⟩) (fun q hq j hj => ?_)
  ·have : q < us.size := by omega
   simp [World.cell?, hT.at_, this]
  ·have hjk : j < k := by rw [← hk _ (List.getElem_mem hq)]; exact hj
   have hlt : q * k + j < (ownCells m xs).length := by rw [hlen]; exact cell_lt hq hjk
   have hlv : q * k + j < us.size := Nat.lt_of_lt_of_le hlt hT.len
   have h1 := hT.cell (q * k + j) hlt hlv
   have h2 := ownCells_at (m := m) hk hq hj
   rw [List.getElem?_eq_getElem hlt] at h2
   rw [Option.some.inj h2] at h1
   rw [getD_eq hlv]
   have hsub : ∀ x, x ∈ Ss (q * k + j) → x ∈ G'.loc i := fun x hx => by
    rw [hT.loc]; exact List.mem_cons_of_mem _ (List.mem_flatMap.2 ⟨_, List.mem_range.2 hlt, hx⟩)
   have tr : ∀ {y : D} {u : Value}, TreeD m w' y u (Ss (q * k + j)) → RelD G2.F w' y u := fun h => h.toD (fun x hx => by rw [hin x (hsub x hx)]; exact Nat.le_refl _)
   generalize xs[q][j] = y at h1
   cases y with
   | int kd q => exact h1.2.d_inv.flat rfl
   | bool q => exact h1.2.d_inv.flat rfl
   | str q => exact h1.2.d_inv.flat rfl
   | sl ys => exact tr h1
   | ptr q r => exact tr h1
   | nilp => exact tr h1
 ·have hf := hret.frm
  exact ⟨hf.os, hf.tape, hf.output, hf.size, fun x hx hn => ⟨(hf.block x hx hn).1, by
   rw [hout x (fun hm => by have := hnew x hm; omega)]; exact (hf.block x hx hn).2⟩, fun x o ho => ⟨hle x o (hf.cell x o ho).1, (hf.cell x o ho).2⟩⟩
 ·by_cases hx' : x ∈ G'.loc i
  ·have := (hT.mine x hx').2; omega
  ·rw [hout x hx']; exact hret.top x hx
end Go.Proofs.Ytadpcmcifbakoaa
