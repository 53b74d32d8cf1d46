/-
  WALKS: types that are deleted from a row that is the caller's own.
-/
import Derived.Test.YtadpcmcifbakoaaG1
import Derived.Test.YtadpcmcifbakoaaF13
namespace Go.Proofs.Ytadpcmcifbakoaa
open Go
set_option linter.unusedSimpArgs false
set_option linter.unusedVariables false
set_option maxRecDepth 100000
set_option maxHeartbeats 2000000
theorem ty_split {xs : List Ty} {i : Nat} (h : i < xs.length) (m : Bool) : ownCells m (xs.map Ty.c) = ownCells m ((xs.take i).map Ty.c) ++ (.d (.i (nth xs i).data) :: .d (.i (nth xs i).index) :: ownCells m ((xs.drop (i + 1)).map Ty.c)) := by
 conv => lhs; rw [← List.take_append_drop i xs, drop_nth h, List.map_append, ownCells_append]
 rfl
theorem ty_len {xs : List Ty} {i : Nat} (h : i ≤ xs.length) (m : Bool) : (ownCells m ((xs.take i).map Ty.c)).length = i * 2 := by
 rw [own_len (k := 2) m (by intro x _; rfl), List.length_take, Nat.min_eq_left h]
theorem own_cutTy {xs : List Ty} {i : Nat} (h : i < xs.length) {m : Bool} : (cutC (ownCells m (xs.map Ty.c)) (i * 2) 2).map (·.map seeC) = some [.d (.i (nth xs i).data), .d (.i (nth xs i).index)] := by
 rw [ty_split h, cutC_off0 (ty_len (by omega) m) cutC_k2]
 rfl
theorem own_putTy {xs : List Ty} {i : Nat} (h : i < xs.length) {m : Bool} {t : Ty} : putC (ownCells m (xs.map Ty.c)) (i * 2) [.d (.i t.data), .d (.i t.index)] = some (ownCells m ((xs.set i t).map Ty.c)) := by
 rw [ty_split h, putC_off0 (ty_len (by omega) m) (B' := .d (.i t.data) :: .d (.i t.index) :: ownCells m ((xs.drop (i + 1)).map Ty.c)) (by simp [putC])]
 rw [List.set_eq_take_append_cons_drop, if_pos h, List.map_append, ownCells_append]
 rfl
theorem own_zeroTy {xs : List Ty} {i n : Nat} (hn : xs.length = n) (h : i ≤ n) {m : Bool} : putC (ownCells m (xs.map Ty.c)) (i * 2) (zerosA (n - i) [.d (.i 0), .d (.i 0)]) = some (ownCells m ((xs.take i).map Ty.c) ++ zerosA (n - i) [.d (.i 0), .d (.i 0)]) := by
 subst hn
 have e : ownCells m (xs.map Ty.c) = ownCells m ((xs.take i).map Ty.c) ++ (ownCells m ((xs.drop i).map Ty.c) ++ []) := by
  conv => lhs; rw [← List.take_append_drop i xs, List.map_append, ownCells_append]
  simp
 rw [e, putC_mid (ty_len h m) ?_]
 ·simp
 ·rw [own_len (k := 2) m (by intro x _; rfl), List.length_drop, zerosA_len]; rfl
theorem idxF_spec {α : Type} [Inhabited α] (p : α → Bool) : ∀ (l : List α) (i : Nat), (idxF p l i = -1 ∧ ∀ x ∈ l, p x = false) ∨ ∃ k : Nat, idxF p l i = ((i + k : Nat) : Int) ∧ k < l.length ∧ (l.take (k + 1)).filter (fun x => !p x) = l.take k
 | [], i => .inl ⟨rfl, by simp⟩
 | x :: r, i => by
  unfold idxF
  cases h : p x with
  | true => exact .inr ⟨0, by simp, by simp, by simp [h]⟩
  | false =>
   rcases idxF_spec p r (i + 1) with ⟨h1, h2⟩ | ⟨k, h1, h2, h3⟩
   ·exact .inl ⟨by simpa using h1, fun y hy => by rcases List.mem_cons.1 hy with rfl | hy; exact h; exact h2 y hy⟩
   ·refine .inr ⟨k + 1, by simp only [Bool.false_eq_true, if_false]; rw [h1]; congr 1; omega, by simpa using h2, ?_⟩
    simp only [List.take_succ_cons, List.filter_cons, h, Bool.not_false, if_true, List.cons.injEq, true_and]
    simpa using h3
theorem take_set_next {α : Type} [Inhabited α] {s : List α} {i : Nat} {t : α} (h : i < s.length) : (s.set i t).take (i + 1) = s.take i ++ [t] := by
 rw [List.set_eq_take_append_cons_drop, if_pos h, List.take_append, List.take_take]
 have : (s.take i).length = i := by simp; omega
 simp [this, Nat.min_eq_right]
theorem drop_set_next {α : Type} {s : List α} {i j : Nat} {t : α} (h : i ≤ j) : (s.set i t).drop (j + 1) = s.drop (j + 1) := by
 rw [List.drop_set, if_pos (by omega)]
theorem filter_take_next {α : Type} [Inhabited α] {p : α → Bool} {l : List α} {j : Nat} (h : j < l.length) : (l.take (j + 1)).filter p = (l.take j).filter p ++ (if p (nth l j) then [nth l j] else []) := by
 rw [List.take_add_one, List.getElem?_eq_getElem h, List.filter_append, nth_eq h]
 simp [List.filter_cons]
theorem nth_of_drop {α : Type} [Inhabited α] {s l : List α} {j : Nat} (h : s.drop j = l.drop j) (hl : s.length = l.length) (hj : j < l.length) : nth s j = nth l j := by
 have h1 := drop_nth (l := s) (i := j) (by omega)
 have h2 := drop_nth (l := l) (i := j) hj
 rw [h1, h2] at h
 exact (List.cons.inj h).1
theorem drop_more {α : Type} {s l : List α} {j : Nat} (h : s.drop j = l.drop j) : s.drop (j + 1) = l.drop (j + 1) := by
 have := congrArg (List.drop 1) h
 simpa [List.drop_drop, Nat.add_comm] using this
theorem slices_IndexFunc_Ty_tr {xs : List Ty} {f : Nat} {B2 B3 : List AV} {p : Ty → Bool} (hs : xs.length ≤ 1000000000000) (hcal : Callee Try.prog f) (hB2 : AV.idsL B2 = []) (hB3 : AV.idsL B3 = [])
  (hf : ∀ t ∈ xs, FnD Try.prog f [.agg [.d (.i t.data), .d (.i t.index)], .ref 3002 0, .ref 3003 0] [(3002, some (.box B2)), (3003, some (.box B3))] (.d (.bool (p t))) []) :
  FnD Try.prog 102 [.ms 1 xs.length, .fn f [.ref 3002 0, .ref 3003 0]] [(1, some (.tree (ownCells true (xs.map Ty.c)))), (3002, some (.box B2)), (3003, some (.box B3))] (.d (.i (idxF p xs 0))) [] := by
 refine Fn.body (fn := Try.f102) (n := 19) rfl rfl rfl rfl rfl (fun w0 F0 own kept hk => ?_)
 refine sr ?_
 refine asg ?_
 refine tv ?_
 refine CWp.seq ?_
 refine sr ?_
 refine mv ?_
 refine Walk.lenM sl24 .none rfl rfl ?_
 refine mv ?_
 refine tv ?_
 refine CWp.block ?_
 refine CWp.loopX (ι := Nat) hk (fun i => [(8, .d (.i (i : Int)))]) [4, 5, 9, 10, 11, 12, 13, 14, 15, 16, 17, 18] (fun i => []) (fun i => i ≤ xs.length ∧ idxF p (xs.drop i) i = idxF p xs 0) (fun i => xs.length - i) 0 ⟨by omega, rfl⟩ ⟨⟨_, rfl, (LeA.eqi (by first | rfl | (simp; done) | (simp_all; done) | omega))⟩, trivial⟩ trivial (fun x => rfl) (fun i hg1 => ?_)
 refine sr ?_
 refine Walk.ltI .none rfl rfl rfl ?_
 refine tv ?_
 refine CWp.seq ?_
 refine cd ?_ ?_
 ·intro h1; have ⟨h1p, h1s⟩ := dup h1; try simp only [Q5] at h1s
  try simp only [Q] at h1p
  refine CWp.skip ?_
  refine CWp.seq ?_
  refine CWp.block ?_
  refine sr ?_
  refine mv ?_
  refine asg ?_
  refine tv ?_
  refine sr ?_
  refine mv ?_
  refine mv ?_
  refine mv ?_
  refine Walk.idxM sl24 .none rfl rfl rfl rfl (by first | omega | (simp ; omega)) ?_
  refine Walk.loadTA ty38 .none rfl rfl rfl ((own_cutTy (by omega))) ?_
  refine Walk.callV (cr := []) hcal (hf (nth xs i) (nth_mem (by omega))) rfl .none rfl rfl rfl (LeL.refl _) ⟨rfl, rfl, trivial⟩ rfl (by simp only [okCall, List.all_cons, List.all_nil, entOK, entOK', AV.idsL, AV.ids, hB2, hB3, List.map_cons, List.map_nil]; rfl) rfl ?_
  refine tv ?_
  refine cd ?_ ?_
  ·intro h2; have ⟨h2p, h2s⟩ := dup h2; try simp only [Q5] at h2s
   try simp only [Q] at h2p
   refine sr ?_
   refine mv ?_
   refine asg ?_
   refine tv ?_
   refine CWp.ret ?_
   refine ⟨_, _, [], (.cons (.tmp rfl) .nil), (.eqd ?_), ⟨rfl, rfl⟩, (SubH.get ⟨rfl, ⟨rfl, ⟨rfl, trivial⟩⟩⟩), (fun _ h => h)⟩
   all_goals (first | (rw [← hg1.2, drop_nth (by omega)]; simp [idxF, h1s, h1p, h2s, h2p]; done) | (rw [← hg1.2, List.drop_eq_nil_of_le (by omega)]; rfl))
  ·intro h2; have ⟨h2p, h2s⟩ := dup h2; try simp only [Q5] at h2s
   try simp only [Q] at h2p
   refine CWp.skip ?_
   refine CWp.region rfl ?_
   refine Walk.addI .none rfl rfl rfl (by first | (constructor <;> omega) | (constructor <;> simp <;> omega)) ?_
   refine mv ?_
   refine tv ?_
   refine ⟨i + 1, ⟨by omega, (by rw [← hg1.2, drop_nth (l := xs) (i := i) (by omega)]; simp_all [idxF])⟩, (by omega), Sub.x (by kernel_rfl) (by kernel_rfl) ⟨⟨_, rfl, (LeA.eqi (by first | rfl | (simp; done) | (simp_all; done) | omega))⟩, trivial⟩ (by kernel_rfl) (by kernel_rfl) trivial⟩
 ·intro h1; have ⟨h1p, h1s⟩ := dup h1; try simp only [Q5] at h1s
  try simp only [Q] at h1p
  refine CWp.exit ?_
  refine sr ?_
  refine asg ?_
  refine tv ?_
  refine CWp.ret ?_
  refine ⟨_, _, [], (.cons (.tmp rfl) .nil), (.eqd ?_), ⟨rfl, rfl⟩, (SubH.get ⟨rfl, ⟨rfl, ⟨rfl, trivial⟩⟩⟩), (fun _ h => h)⟩
  all_goals (first | (rw [← hg1.2, drop_nth (by omega)]; simp [idxF, h1s, h1p]; done) | (rw [← hg1.2, List.drop_eq_nil_of_le (by omega)]; rfl))
theorem slices_DeleteFunc_Ty_tr {xs : List Ty} {f : Nat} {B2 B3 : List AV} {p : Ty → Bool} (hs : xs.length ≤ 1000000000000) (hcal : Callee Try.prog f) (hB2 : AV.idsL B2 = []) (hB3 : AV.idsL B3 = [])
  (hf : ∀ t ∈ xs, FnD Try.prog f [.agg [.d (.i t.data), .d (.i t.index)], .ref 3002 0, .ref 3003 0] [(3002, some (.box B2)), (3003, some (.box B3))] (.d (.bool (p t))) []) :
  FnD Try.prog 65 [.ms 1 xs.length, .fn f [.ref 3002 0, .ref 3003 0]] [(1, some (.tree (ownCells true (xs.map Ty.c)))), (3002, some (.box B2)), (3003, some (.box B3))]
   (.ms 1 (xs.filter fun t => !p t).length) [(1, some (.tree (ownCells true ((xs.filter fun t => !p t).map Ty.c))))] := by
 have hok3 : okCall [(1, some (.tree (ownCells true (xs.map Ty.c)))), (3002, some (.box B2)), (3003, some (.box B3))] [] (.d .nilp) [] = true := by
  simp only [okCall, List.all_cons, List.all_nil, entOK, entOK', AV.idsL, AV.ids, ownCells_ids, hB2, hB3, List.map_cons, List.map_nil]; rfl
 rcases idxF_spec p xs 0 with ⟨hi, hall⟩ | ⟨k, hi, hk1, hk2⟩
 ·have hfil : (xs.filter fun t => !p t) = xs := List.filter_eq_self.2 (fun x hx => by simp [hall x hx])
  rw [hfil]
  refine Fn.body (fn := Try.f65) (n := 42) rfl rfl rfl rfl rfl (fun w0 F0 own kept hk => ?_)
  refine sr ?_
  refine asg ?_
  refine tv ?_
  refine sr ?_
  refine mv ?_
  refine mv ?_
  refine Walk.call (cr := []) cal102 (slices_IndexFunc_Ty_tr hs hcal hB2 hB3 hf) rfl .none rfl rfl (.cons (LeA.msn (by first | rfl | (simp; done))) (.cons (.refl _) .nil)) ⟨rfl, rfl, rfl, trivial⟩ rfl (okCall_d hok3 _) rfl ?_
  refine asg ?_
  refine tv ?_
  refine CWp.seq ?_
  refine sr ?_
  refine mv ?_
  refine Walk.eqI .none rfl rfl rfl ?_
  refine tv ?_
  refine cd ?_ ?_
  ·intro h1; have ⟨h1p, h1s⟩ := dup h1; try simp only [Q5] at h1s
   try simp only [Q] at h1p
   refine sr ?_
   refine mv ?_
   refine asg ?_
   refine tv ?_
   refine CWp.ret ?_
   refine ⟨_, _, [(1, some (.tree (ownCells true (xs.map Ty.c))))], (.cons (.tmp rfl) .nil), (LeA.msn ?_), ⟨rfl, rfl⟩, (SubO.get ⟨.inr (by rfl), ⟨.inl rfl, ⟨.inr rfl, ⟨.inr rfl, trivial⟩⟩⟩⟩), (boxOK rfl)⟩
   all_goals (first | rfl | (simp; done))
  ·intro h1; have ⟨h1p, h1s⟩ := dup h1; try simp only [Q5] at h1s
   try simp only [Q] at h1p
   exfalso; simp [hi] at h1 --stop
 ·skip
  refine Fn.body (fn := Try.f65) (n := 42) rfl rfl rfl rfl rfl (fun w0 F0 own kept hk => ?_)
  refine sr ?_
  refine asg ?_
  refine tv ?_
  refine sr ?_
  refine mv ?_
  refine mv ?_
  refine Walk.call (cr := []) cal102 (slices_IndexFunc_Ty_tr hs hcal hB2 hB3 hf) rfl .none rfl rfl (.cons (LeA.msn (by first | rfl | (simp; done))) (.cons (.refl _) .nil)) ⟨rfl, rfl, rfl, trivial⟩ rfl (okCall_d hok3 _) rfl ?_
  refine asg ?_
  refine tv ?_
  refine CWp.seq ?_
  refine sr ?_
  refine mv ?_
  refine Walk.eqI .none rfl rfl rfl ?_
  refine tv ?_
  refine cd ?_ ?_
  ·intro h1; have ⟨h1p, h1s⟩ := dup h1; try simp only [Q5] at h1s
   try simp only [Q] at h1p
   exfalso; simp [hi] at h1 <;> omega --stop
  ·intro h1; have ⟨h1p, h1s⟩ := dup h1; try simp only [Q5] at h1s
   try simp only [Q] at h1p
   refine CWp.skip ?_
   refine CWp.seq ?_
   refine sr ?_
   refine mv ?_
   refine Walk.addI .none rfl rfl rfl (by first | (constructor <;> omega) | (constructor <;> simp <;> omega)) ?_
   refine asg ?_
   refine tv ?_
   refine CWp.block ?_
   refine CWp.loopX (ι := List Ty × Nat × Nat) hk (fun x => [(6, .d (.i (x.2.1 : Int))), (5, .d (.i (x.2.2 : Int)))]) [7, 16, 17, 18, 19, 20, 21, 22, 23, 24, 25, 26, 27, 28, 29, 30, 31, 32, 33, 34, 35] (fun x => [(1, some (.tree (ownCells true (x.1.map Ty.c))))]) (fun x => x.1.length = xs.length ∧ x.2.1 ≤ xs.length ∧ x.2.2 ≤ x.2.1 ∧ x.1.take x.2.2 = (xs.take x.2.1).filter (fun t => !p t) ∧ x.1.drop x.2.1 = xs.drop x.2.1) (fun x => xs.length - x.2.1) (xs, k + 1, k) ⟨rfl, by dsimp only; omega, by dsimp only; omega, hk2.symm, rfl⟩ ⟨⟨_, rfl, (LeA.eqi (by first | rfl | (simp; done) | (dsimp only; simp [hi]; omega) | (simp_all; done)))⟩, ⟨⟨_, rfl, (LeA.eqi (by first | rfl | (simp; done) | (dsimp only; simp [hi]; omega) | (simp_all; done)))⟩, trivial⟩⟩ ⟨(by first | rfl | (show some (Res.tree _) = some (Res.tree _); dsimp only; split <;> first | rfl | (exfalso; simp_all; done))), trivial⟩ (fun x => rfl) (fun x hg1 => ?_)
   refine CWp.seq ?_
   refine sr ?_
   refine mv ?_
   refine mv ?_
   refine Walk.lenM sl24 .none rfl rfl ?_
   refine Walk.ltI .none rfl rfl rfl ?_
   refine tv ?_
   refine cd ?_ ?_
   ·intro h2; have ⟨h2p, h2s⟩ := dup h2; try simp only [Q5] at h2s
    try simp only [Q] at h2p
    refine CWp.skip ?_
    refine CWp.seq ?_
    refine CWp.block ?_
    refine sr ?_
    refine mv ?_
    refine mv ?_
    refine Walk.idxM sl24 .none rfl rfl rfl rfl (by first | omega | (simp ; omega)) ?_
    refine Walk.loadTA ty38 .none rfl rfl rfl (((own_cutTy (xs := x.1) (by omega)).trans (by rw [nth_of_drop hg1.2.2.2.2 hg1.1 (by omega)]))) ?_
    refine Walk.alloc (id := 3007) tz38 rfl .none rfl (by first | rfl | (simp only [freshB, occH, occE, Res.ids, List.cons_append, List.nil_append, AV.idsL, AV.ids, idsL_append, ownCells_ids, zerosA_idsR, repNil, List.map_cons, List.map_nil, upC, hB2, hB3]; rfl)) (by first | rfl | (simp only [freshB, occH, occE, Res.ids, List.cons_append, List.nil_append, AV.idsL, AV.ids, idsL_append, ownCells_ids, zerosA_idsR, repNil, List.map_cons, List.map_nil, upC, hB2, hB3]; rfl)) (by first | rfl | (simp only [freshB, occH, occE, Res.ids, List.cons_append, List.nil_append, AV.idsL, AV.ids, idsL_append, ownCells_ids, zerosA_idsR, repNil, List.map_cons, List.map_nil, upC, hB2, hB3]; rfl)) ?_
    refine Walk.store ty38 .none rfl rfl rfl rfl rfl rfl (by simp) rfl ?_
    refine tv ?_
    refine sr ?_
    refine mv ?_
    refine Walk.loadBA ty38 .none rfl rfl rfl rfl ?_
    refine Walk.callV (cr := []) hcal (hf (nth xs x.2.1) (nth_mem (by omega))) rfl .none rfl rfl rfl (LeL.refl _) ⟨rfl, rfl, trivial⟩ rfl (by simp only [okCall, List.all_cons, List.all_nil, entOK, entOK', AV.idsL, AV.ids, hB2, hB3, List.map_cons, List.map_nil]; rfl) rfl ?_
    refine Walk.not .none rfl rfl ?_
    refine tv ?_
    refine cd ?_ ?_
    ·intro h3; have ⟨h3p, h3s⟩ := dup h3; try simp only [Q5] at h3s
     try simp only [Q] at h3p
     refine sr ?_
     refine mv ?_
     refine mv ?_
     refine Walk.loadBA ty38 .none rfl rfl rfl rfl ?_
     refine Walk.idxM sl24 .none rfl rfl rfl rfl (by first | omega | (simp ; omega)) ?_
     refine Walk.storeT ty38 .none rfl rfl rfl rfl rfl rfl (by simp) ((own_putTy (by omega))) ?_
     refine tv ?_
     refine CWp.region rfl ?_
     refine mv ?_
     refine Walk.addI .none rfl rfl rfl (by first | (constructor <;> omega) | (constructor <;> simp <;> omega)) ?_
     refine asg ?_
     refine tv ?_
     refine CWp.region rfl ?_
     refine mv ?_
     refine Walk.addI .none rfl rfl rfl (by first | (constructor <;> omega) | (constructor <;> simp <;> omega)) ?_
     refine asg ?_
     refine tv ?_
     refine ⟨(if p (nth xs x.2.1) then x.1 else x.1.set x.2.2 (nth xs x.2.1), x.2.1 + 1, if p (nth xs x.2.1) then x.2.2 else x.2.2 + 1), (by
         obtain ⟨g1, g2, g3, g4, g5⟩ := hg1
         have hlt : x.2.1 < xs.length := by omega
         have h7 := filter_take_next (p := fun t => !p t) hlt
         refine ⟨by dsimp only; split <;> simp [g1], by dsimp only; omega, by dsimp only; split <;> omega, ?_, ?_⟩
         ·dsimp only
          rw [h7, ← g4]
          cases hp : p (nth xs x.2.1) with
          | true => simp
          | false => simp only [Bool.false_eq_true, if_false, Bool.not_false, if_true]; rw [take_set_next (by omega)]
         ·dsimp only
          split
          ·exact drop_more g5
          ·first | (rw [drop_set_next g3]; exact drop_more g5) | exact drop_more g5), (by dsimp only; omega), Sub.x (by kernel_rfl) (by kernel_rfl) ⟨⟨_, rfl, (LeA.eqi (by first | rfl | (simp; done) | (dsimp only; simp [hi]; omega) | (simp_all; done)))⟩, ⟨⟨_, rfl, (LeA.eqi (by first | rfl | (simp; done) | (dsimp only; simp [hi]; omega) | (simp_all; done)))⟩, trivial⟩⟩ (by kernel_rfl) (by kernel_rfl) ⟨(by first | rfl | (show some (Res.tree _) = some (Res.tree _); dsimp only; split <;> first | rfl | (exfalso; simp_all; done))), trivial⟩⟩
    ·intro h3; have ⟨h3p, h3s⟩ := dup h3; try simp only [Q5] at h3s
     try simp only [Q] at h3p
     refine CWp.skip ?_
     refine CWp.region rfl ?_
     refine mv ?_
     refine Walk.addI .none rfl rfl rfl (by first | (constructor <;> omega) | (constructor <;> simp <;> omega)) ?_
     refine asg ?_
     refine tv ?_
     refine ⟨(if p (nth xs x.2.1) then x.1 else x.1.set x.2.2 (nth xs x.2.1), x.2.1 + 1, if p (nth xs x.2.1) then x.2.2 else x.2.2 + 1), (by
         obtain ⟨g1, g2, g3, g4, g5⟩ := hg1
         have hlt : x.2.1 < xs.length := by omega
         have h7 := filter_take_next (p := fun t => !p t) hlt
         refine ⟨by dsimp only; split <;> simp [g1], by dsimp only; omega, by dsimp only; split <;> omega, ?_, ?_⟩
         ·dsimp only
          rw [h7, ← g4]
          cases hp : p (nth xs x.2.1) with
          | true => simp
          | false => simp only [Bool.false_eq_true, if_false, Bool.not_false, if_true]; rw [take_set_next (by omega)]
         ·dsimp only
          split
          ·exact drop_more g5
          ·first | (rw [drop_set_next g3]; exact drop_more g5) | exact drop_more g5), (by dsimp only; omega), Sub.x (by kernel_rfl) (by kernel_rfl) ⟨⟨_, rfl, (LeA.eqi (by first | rfl | (simp; done) | (dsimp only; simp [hi]; omega) | (simp_all; done)))⟩, ⟨⟨_, rfl, (LeA.eqi (by first | rfl | (simp; done) | (dsimp only; simp [hi]; omega) | (simp_all; done)))⟩, trivial⟩⟩ (by kernel_rfl) (by kernel_rfl) ⟨(by first | rfl | (show some (Res.tree _) = some (Res.tree _); dsimp only; split <;> first | rfl | (exfalso; simp_all; done))), trivial⟩⟩
   ·intro h2; have ⟨h2p, h2s⟩ := dup h2; try simp only [Q5] at h2s
    try simp only [Q] at h2p
    refine CWp.exit ?_
    refine sr ?_
    refine mv ?_
    refine mv ?_
    refine Walk.cutM_l sl24 .none rfl rfl rfl rfl (by omega) ?_
    refine Walk.clearT sl24 tz38 rfl (by decide) rfl .none rfl rfl (own_zeroTy hg1.1 (by omega)) ?_
    refine tv ?_
    refine CWp.seq ?_
    refine CWp.takeTree 1 (ownCells true ((x.1.take x.2.2).map Ty.c)) _ rfl rfl ?_
    refine CWp.region rfl ?_
    refine mv ?_
    refine mv ?_
    refine Walk.cutM_h sl24 .none rfl rfl rfl rfl (by omega) ?_
    refine asg ?_
    refine tv ?_
    refine CWp.ret ?_
    refine ⟨_, _, [(1, some (.tree (ownCells true ((xs.filter fun t => !p t).map Ty.c))))], (.cons (.tmp rfl) .nil), (LeA.msn ?_), ⟨rfl, rfl⟩, (SubO.get ⟨.inr (by (obtain ⟨g1, g2, g3, g4, g5⟩ := hg1; have e : x.2.1 = xs.length := (by omega); rw [e, List.take_length] at g4; rw [← g4]; rfl)), ⟨.inl rfl, ⟨.inr rfl, ⟨.inr rfl, trivial⟩⟩⟩⟩), (boxOK rfl)⟩
    all_goals (first | rfl | (obtain ⟨g1, g2, g3, g4, g5⟩ := hg1; have e : x.2.1 = xs.length := (by omega); rw [e, List.take_length] at g4; rw [← g4, List.length_take]; omega))
theorem allTypesOf_in {n : Nat} {t : Ty} (h : t ∈ allTypesOf n) : TyIn n t := by
 simp only [allTypesOf, List.mem_cons, List.mem_flatMap, List.mem_map, List.mem_range] at h
 rcases h with rfl | ⟨i, hi, k, _, rfl⟩
 ·exact .inl rfl
 ·exact .inr ⟨i, rfl, hi⟩
theorem valid_wt {w : List Data} (hs : WSmall w) (hv : worldValid w = true) : WT w := WV.wt hs ((worldValid_iff w).1 hv)
theorem valid_four {w : List Data} (hv : worldValid w = true) : w.length ≤ 4 := by
 unfold worldValid at hv
 simp only [Bool.and_eq_true, decide_eq_true_eq] at hv
 omega
theorem allTypesOf_len (n : Nat) : (allTypesOf n).length = 1 + n * 4 := by
 simp only [allTypesOf, List.length_cons, List.length_flatMap, List.length_map, List.length_range]
 rw [List.map_const', List.sum_replicate_nat]
 simp; omega
theorem impl_allTypes_ms {w : List Data} (hw : w.length ≤ 1000000000000) : FnD Try.prog 46 [.d (encDatas w)] [] (.ms 1 (allTypesOf w.length).length) [(1, some (.tree (ownCells true ((allTypesOf w.length).map Ty.c))))] := by
 refine Fn.body (fn := Try.f46) (n := 25) rfl rfl rfl rfl rfl (fun w0 F0 own kept hk => ?_)
 refine sr ?_
 refine asg ?_
 refine tv ?_
 refine sr ?_
 refine Walk.build st38 (ks := [0]) (xs := [_]) rfl rfl .none rfl rfl rfl ?_
 refine Walk.sliceLitGV 1 sl24 tz38 rfl (by decide) (ks := [0]) (xs := [_]) rfl rfl (by decide) (by decide) .none rfl rfl rfl rfl rfl ?_
 refine asg ?_
 refine tv ?_
 refine CWp.seq ?_
 refine sr ?_
 refine mv ?_
 refine Walk.len sl26 .none rfl rfl ?_
 refine mv ?_
 refine tv ?_
 refine CWp.block ?_
 refine CWp.loopX (ι := Nat) hk (fun i => [(10, .d (.i (i : Int))), (3, .gv 1 ((⟨-1, 0⟩ :: (List.range i).flatMap fun (i : Nat) => (List.range 4).map fun (k : Nat) => (⟨i, k⟩ : Ty)).map Ty.c))]) [4, 5, 11, 12, 13, 14, 15, 16, 17, 18, 19, 20, 21, 22, 23] (fun i => [(1, some (.tok (((⟨-1, 0⟩ :: (List.range i).flatMap fun (i : Nat) => (List.range 4).map fun (k : Nat) => (⟨i, k⟩ : Ty)).map Ty.c)).length 2))]) (fun i => i ≤ w.length) (fun i => w.length - i) 0 (by simp) ⟨⟨_, rfl, (LeA.eqi (by first | rfl | (simp [List.range_succ]; done)))⟩, ⟨⟨_, rfl, (LeA.gvg (by first | rfl | (simp [List.range_succ]; done)))⟩, trivial⟩⟩ ⟨beq_nat_eq (by first | rfl | (simp; done) | (simp; omega) | (first | rfl | (simp [List.range_succ]; done))), trivial⟩ (fun x => rfl) (fun i hg1 => ?_)
 refine sr ?_
 refine Walk.ltI .none rfl rfl rfl ?_
 refine tv ?_
 refine CWp.seq ?_
 refine cd ?_ ?_
 ·intro h1; have ⟨h1p, h1s⟩ := dup h1; try simp only [Q5] at h1s
  try simp only [Q] at h1p
  refine CWp.skip ?_
  refine CWp.seq ?_
  refine CWp.block ?_
  refine sr ?_
  refine mv ?_
  refine asg ?_
  refine tv ?_
  refine sr ?_
  refine asg ?_
  refine tv ?_
  refine CWp.block ?_
  refine CWp.loopX (ι := Nat) hk (fun k => [(5, .d (.i (k : Int))), (3, .gv 1 ((⟨-1, 0⟩ :: ((List.range i).flatMap fun (i : Nat) => (List.range 4).map fun (k : Nat) => (⟨i, k⟩ : Ty)) ++ (List.range k).map fun (k : Nat) => (⟨i, k⟩ : Ty)).map Ty.c))]) [13, 14, 15, 16, 17, 18, 19, 20, 21, 22] (fun k => [(1, some (.tok (((⟨-1, 0⟩ :: ((List.range i).flatMap fun (i : Nat) => (List.range 4).map fun (k : Nat) => (⟨i, k⟩ : Ty)) ++ (List.range k).map fun (k : Nat) => (⟨i, k⟩ : Ty)).map Ty.c)).length 2))]) (fun k => k ≤ 4) (fun k => 4 - k) 0 (by simp) ⟨⟨_, rfl, (LeA.eqi (by first | rfl | (simp [List.range_succ]; done)))⟩, ⟨⟨_, rfl, (LeA.gvg (by first | rfl | (simp [List.range_succ]; done)))⟩, trivial⟩⟩ ⟨beq_nat_eq (by first | rfl | (simp; done) | (simp; omega) | (first | rfl | (simp [List.range_succ]; done))), trivial⟩ (fun x => rfl) (fun k hg2 => ?_)
  refine CWp.seq ?_
  refine sr ?_
  refine mv ?_
  refine Walk.leI .none rfl rfl rfl ?_
  refine tv ?_
  refine cd ?_ ?_
  ·intro h2; have ⟨h2p, h2s⟩ := dup h2; try simp only [Q5] at h2s
   try simp only [Q] at h2p
   refine CWp.skip ?_
   refine CWp.seq ?_
   refine CWp.block ?_
   refine CWp.region rfl ?_
   refine mv ?_
   refine mv ?_
   refine mv ?_
   refine Walk.build st38 (ks := [0, 1]) (xs := [_, _]) rfl rfl .none rfl rfl rfl ?_
   refine Walk.sliceLit sl24 tz38 rfl (by decide) (ks := [0]) (xs := [_]) rfl rfl (by decide) (by decide) .none rfl rfl rfl rfl ?_
   refine Walk.appendV sl24 zz38 .none rfl rfl rfl rfl (htokL rfl (by first | rfl | (simp; done) | (simp; omega))) (by simp) (by simp [List.map_const', List.sum_replicate_nat]; omega) (by simp [List.map_const', List.sum_replicate_nat]; omega) ?_
   refine asg ?_
   refine tv ?_
   refine CWp.region rfl ?_
   refine mv ?_
   refine Walk.addI .none rfl rfl rfl (by first | (constructor <;> omega) | (constructor <;> simp <;> omega)) ?_
   refine asg ?_
   refine tv ?_
   refine ⟨k + 1, ?_, ?_, Sub.x (by kernel_rfl) (by kernel_rfl) ⟨⟨_, rfl, (LeA.eqi (by first | rfl | (simp [List.range_succ]; done)))⟩, ⟨⟨_, rfl, (LeA.gvg (by first | rfl | (simp [List.range_succ]; done)))⟩, trivial⟩⟩ (by kernel_rfl) (by kernel_rfl) ⟨beq_nat_eq (by first | rfl | (simp; done) | (simp; omega) | (first | rfl | (simp [List.range_succ]; done))), trivial⟩⟩
   all_goals first | omega | (simp_all; done) | (simp_all; omega)
  ·intro h2; have ⟨h2p, h2s⟩ := dup h2; try simp only [Q5] at h2s
   try simp only [Q] at h2p
   refine CWp.exit ?_
   refine CWp.region rfl ?_
   refine Walk.addI .none rfl rfl rfl (by first | (constructor <;> omega) | (constructor <;> simp <;> omega)) ?_
   refine mv ?_
   refine tv ?_
   obtain rfl : k = 4 := by omega
   refine ⟨i + 1, ?_, ?_, Sub.x (by kernel_rfl) (by kernel_rfl) ⟨⟨_, rfl, (LeA.eqi (by first | rfl | (simp [List.range_succ]; done)))⟩, ⟨⟨_, rfl, (LeA.gvg (by first | rfl | (simp [List.range_succ]; done)))⟩, trivial⟩⟩ (by kernel_rfl) (by kernel_rfl) ⟨beq_nat_eq (by first | rfl | (simp; done) | (simp; omega) | (first | rfl | (simp [List.range_succ]; done))), trivial⟩⟩
   all_goals first | omega | (simp_all; done) | (simp_all; omega)
 ·intro h1; have ⟨h1p, h1s⟩ := dup h1; try simp only [Q5] at h1s
  try simp only [Q] at h1p
  refine CWp.exit ?_
  refine CWp.seq ?_
  obtain rfl : i = w.length := (by omega)
  refine CWp.gvGt 3 rfl (flatR_tys _) ?_
  refine CWp.fixT hk 3 1 2 rfl rfl rfl (fun hx => absurd hx (by simp)) (fun hx => ?_)
  refine CWp.region rfl ?_
  refine mv ?_
  refine asg ?_
  refine tv ?_
  refine CWp.ret ?_
  refine ⟨_, _, [(1, some (.tree (ownCells true ((allTypesOf w.length).map Ty.c))))], (.cons (.tmp rfl) .nil), (LeA.msn ?_), ⟨rfl, rfl⟩, (SubH.get ⟨(by rfl), trivial⟩), (boxOK rfl)⟩
  all_goals (simp [allTypesOf])
theorem impl_AllTypes_ms {w : List Data} (hs : WSmall w) (hv : worldValid w = true) : FnD Try.prog 13 [.d (encDatas w)] [] (.ms 1 (allTypesOf w.length).length) [(1, some (.tree (ownCells true ((allTypesOf w.length).map Ty.c))))] := by
 refine Fn.body (fn := Try.f13) (n := 8) rfl rfl rfl rfl rfl (fun w0 F0 own kept hk => ?_)
 refine sr ?_
 refine asg ?_
 refine tv ?_
 refine CWp.seq ?_
 refine sr ?_
 refine mv ?_
 refine Walk.call (cr := []) cal21 (impl_WorldValid_fn hs) rfl .none rfl rfl (LeL.refl _) trivial rfl rfl rfl ?_
 refine Walk.not .none rfl rfl ?_
 refine tv ?_
 refine cd ?_ ?_
 ·intro h1; have ⟨h1p, h1s⟩ := dup h1; try simp only [Q5] at h1s
  try simp only [Q] at h1p
  exfalso; revert h1; simp [hv] --stop
 ·intro h1; have ⟨h1p, h1s⟩ := dup h1; try simp only [Q5] at h1s
  try simp only [Q] at h1p
  refine CWp.skip ?_
  refine sr ?_
  refine mv ?_
  refine Walk.call (cr := [1]) cal46 (impl_allTypes_ms hs.len) rfl .none rfl rfl (LeL.refl _) trivial rfl (by first | rfl | (simp only [okCall, List.all_cons, List.all_nil, entOK, entOK', AV.idsL, AV.ids, idsL_append, ownCells_ids, List.map_cons, List.map_nil]; rfl)) (by first | rfl | (simp only [freshB, occH, occE, Res.ids, List.cons_append, List.nil_append, AV.idsL, AV.ids, idsL_append, ownCells_ids, zerosA_idsR, repNil, List.map_cons, List.map_nil, upC]; rfl)) ?_
  refine asg ?_
  refine tv ?_
  refine CWp.ret ?_
  refine ⟨_, _, [(1, some (.tree (ownCells true ((allTypesOf w.length).map Ty.c))))], (.cons (.tmp rfl) .nil), (LeA.msn ?_), ⟨rfl, rfl⟩, (SubH.get ⟨(by rfl), trivial⟩), (boxOK rfl)⟩
  all_goals (rfl)
theorem slices_DeleteFunc_Ty_nil {f : Nat} {caps : List AV} {hp : Hp} (hcal : Callee Try.prog f) (k1 : subH hp hp) (k2 : noTok hp = true) (k3 : okCall hp [] (.d .nilp) [] = true) :
  FnD Try.prog 65 [.d (.sl []), .fn f caps] hp (.d (.sl [])) [] := by
 have hz := slices_IndexFunc_Ty_fn (xs := []) (p := fun _ => false) (f := f) (caps := caps) (hp := hp) (by simp) hcal (fun t ht => by simp at ht) k1 k2 k3
 refine Fn.body (fn := Try.f65) (n := 42) rfl rfl rfl rfl rfl (fun w0 F0 own kept hk => ?_)
 refine sr ?_
 refine asg ?_
 refine tv ?_
 refine sr ?_
 refine mv ?_
 refine mv ?_
 refine Walk.call (cr := []) cal102 (hz) rfl .none rfl rfl (LeL.refl _) k1 k2 (okCall_d k3 _) rfl ?_
 refine asg ?_
 refine tv ?_
 refine CWp.seq ?_
 refine sr ?_
 refine mv ?_
 refine Walk.eqI .none rfl rfl rfl ?_
 refine tv ?_
 refine cd ?_ ?_
 ·intro h1; have ⟨h1p, h1s⟩ := dup h1; try simp only [Q5] at h1s
  try simp only [Q] at h1p
  refine sr ?_
  refine mv ?_
  refine asg ?_
  refine tv ?_
  refine CWp.ret ?_
  refine ⟨_, _, [], (.cons (.tmp rfl) .nil), (.eqd ?_), ⟨rfl, rfl⟩, (fun _ _ h => h), (fun _ h => h)⟩
  all_goals (first | rfl | (simp [h1s, h1p]; done) | (simp_all; done) | (simp_all; omega) | omega)
 ·intro h1; have ⟨h1p, h1s⟩ := dup h1; try simp only [Q5] at h1s
  try simp only [Q] at h1p
  exfalso; simp [idxF] at h1 --stop
end Go.Proofs.Ytadpcmcifbakoaa
