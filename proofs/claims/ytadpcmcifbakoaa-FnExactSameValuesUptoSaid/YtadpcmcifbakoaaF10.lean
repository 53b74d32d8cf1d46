/-
  WALKS: all values up to a depth, in the reference.
-/
import Derived.Test.YtadpcmcifbakoaaF9
namespace Go.Proofs.Ytadpcmcifbakoaa
open Go
set_option linter.unusedSimpArgs false
set_option linter.unusedVariables false
set_option maxRecDepth 100000
set_option maxHeartbeats 2000000

abbrev enc1 (o : List Val) : List D := [.sl (Val.cs o)]
abbrev encValss (ls : List (List Val)) : D := .sl (ls.map enc1)
def stepV (l : List Val) (o : List Val) : List (List Val) := l.map fun y => o ++ [y]
theorem take_more {α : Type} {N : Nat} {X Y : List α} (h : N ≤ X.length) : (X ++ Y).take N = X.take N := by
  rw [List.take_append, (by omega : N - X.length = 0)]; simp
theorem tk_step {α β : Type} [Inhabited β] {X : List α} {l : List β} {h : β → α} {j m : Nat} (hj : j < l.length) (hl : ((X ++ (l.take j).map h).take (m + 1)).length ≤ m) :
    (X ++ (l.take (j + 1)).map h).take (m + 1) = (X ++ (l.take j).map h).take (m + 1) ++ [h (nth l j)] := by
  have e1 : l.take (j + 1) = l.take j ++ [nth l j] := by rw [List.take_succ_eq_append_getElem hj, nth_eq hj]
  rw [List.length_take] at hl
  have h2 : (X ++ (l.take j).map h).length ≤ m := by omega
  rw [e1, List.map_append, ← List.append_assoc, List.take_of_length_le (by simp at h2 ⊢; omega), List.take_of_length_le (l := X ++ (l.take j).map h) (by omega)]
  rfl
theorem tk_exit {α β : Type} {X : List α} {l : List β} {h : β → α} {j m : Nat} (hc : ¬ j < l.length ∨ ¬ ((X ++ (l.take j).map h).take (m + 1)).length ≤ m) :
    (X ++ (l.take j).map h).take (m + 1) = (X ++ l.map h).take (m + 1) := by
  rcases hc with hc | hc
  · rw [List.take_of_length_le (l := l) (by omega)]
  · rw [List.length_take] at hc
    have e : l.map h = (l.take j).map h ++ (l.drop j).map h := by rw [← List.map_append, List.take_append_drop]
    rw [e, ← List.append_assoc, take_more (X := X ++ (l.take j).map h) (by omega)]
theorem fm_step {α β : Type} [Inhabited β] {l : List β} {g : β → List α} {j : Nat} (hj : j < l.length) : (l.take (j + 1)).flatMap g = (l.take j).flatMap g ++ g (nth l j) := by
  rw [List.take_succ_eq_append_getElem hj, List.flatMap_append, nth_eq hj]; simp
theorem fm_exit {α β : Type} {l : List β} {g : β → List α} {j m : Nat} (hc : ¬ j < l.length ∨ ¬ (((l.take j).flatMap g).take (m + 1)).length ≤ m) :
    ((l.take j).flatMap g).take (m + 1) = (l.flatMap g).take (m + 1) := by
  rcases hc with hc | hc
  · rw [List.take_of_length_le (l := l) (by omega)]
  · rw [List.length_take] at hc
    have e : l.flatMap g = (l.take j).flatMap g ++ (l.drop j).flatMap g := by rw [← List.flatMap_append, List.take_append_drop]
    rw [e, take_more (X := (l.take j).flatMap g) (by omega)]
theorem tkV_exit {X : List (List Val)} {l : List Val} {o : List Val} {j m : Nat} (hc : ¬ j < l.length ∨ ¬ ((X ++ (l.take j).map fun y => o ++ [y]).take (m + 1)).length ≤ m) :
    (X ++ (l.take j).map fun y => o ++ [y]).take (m + 1) = (X ++ stepV l o).take (m + 1) := tk_exit hc
theorem tupV_snoc (m : Nat) (ls : List (List Val)) (l : List Val) : tupV m (ls ++ [l]) = ((tupV m ls).flatMap (stepV l)).take (m + 1) := by
  unfold tupV; rw [List.foldl_append]; rfl
theorem tupV_len (m : Nat) (ls : List (List Val)) : (tupV m ls).length ≤ m + 1 := tup_le m ls [[]] (by simp)
theorem tupV_mem (m : Nat) : ∀ {ls : List (List Val)} {o : List Val}, o ∈ tupV m ls → o.length = ls.length := by
  intro ls
  have key : ∀ (ls acc : List (List Val)) (n : Nat), (∀ o ∈ acc, o.length = n) → ∀ o ∈ ls.foldl (fun acc l => (acc.flatMap fun o => l.map fun y => o ++ [y]).take (m + 1)) acc, o.length = n + ls.length := by
    intro ls
    induction ls with
    | nil => intro acc n h o ho; exact h o ho
    | cons l r ih =>
      intro acc n h o ho
      have := ih _ (n + 1) (fun o' ho' => by
        have ho' := List.mem_of_mem_take ho'
        simp only [List.mem_flatMap, List.mem_map] at ho'
        obtain ⟨p, hp, q, _, rfl⟩ := ho'
        simp [h p hp]) o ho
      simp only [List.length_cons]; omega
  intro o ho
  have := key ls [[]] 0 (by simp) o ho
  simpa using this

theorem spec_l2Lists_fn {ls : List (List Val)} {most : Nat} (hm : most ≤ 1000) (hl : ls.length ≤ 1000000000000) (hls : ∀ l ∈ ls, l.length ≤ 1000000000000) : FnD Try.prog 122 [.d (encValss ls), .d (.i most)] [] (.d (encValss (tupV most ls))) [] := by
  refine Fn.body (fn := Try.f122) (n := 66) rfl rfl rfl rfl rfl (fun w0 F0 own kept hk => ?_)
  refine CWp.seq ?_
  refine CWp.region rfl ?_
  refine Walk.assign .none rfl rfl ?_
  refine ⟨trivial, ?_⟩
  refine CWp.seq ?_
  refine CWp.region rfl ?_
  refine Walk.sliceEmpty sl52 .none rfl ?_
  refine Walk.sliceLit sl155 tz52 rfl (by decide) (ks := [0]) (xs := [_]) rfl rfl (by decide) (by decide) .none rfl rfl rfl rfl ?_
  refine Walk.assign .none rfl rfl ?_
  refine ⟨trivial, ?_⟩
  refine CWp.seq ?_
  refine CWp.seq ?_
  refine CWp.region rfl ?_
  refine Walk.assign .none rfl rfl ?_
  refine ⟨trivial, ?_⟩
  refine CWp.block ?_
  refine CWp.loopX (ι := List (List Val) × List (List Val)) hk (fun x => [(6, .d (.i (x.1.length : Int))), (5, .d (.sl ((tupV most x.1).map enc1)))]) [7, 8, 9, 12, 13, 14, 15, 16, 17, 18, 19, 20, 21, 22, 23, 24, 25, 26, 27, 28, 29, 30, 31, 32, 33, 34, 35, 36, 37, 38, 39, 40, 41, 42, 43, 44, 45, 46, 47, 48, 49, 50, 51, 52, 53, 54, 55, 56, 57, 58, 59, 60, 61, 62, 63, 64] (fun x => []) (fun x => x.1 ++ x.2 = ls) (fun x => x.2.length) ([], ls) (by simp) ⟨⟨_, rfl, (LeA.eqi (by first | rfl | (simp; done) | (rw [tupV_snoc, fm_exit (by omega)])))⟩, ⟨⟨_, rfl, (by first | exact LeA.refl _ | exact LeA.gld (by first | rfl | (simp; done) | (rw [tupV_snoc, fm_exit (by omega)])) | exact LeA.nild (by first | rfl | (simp; done) | (rw [tupV_snoc, fm_exit (by omega)])) | exact LeA.eqsl (by first | rfl | (simp; done) | (rw [tupV_snoc, fm_exit (by omega)])) | exact LeA.eqd (by first | rfl | (simp; done) | (rw [tupV_snoc, fm_exit (by omega)])))⟩, trivial⟩⟩ trivial (fun x => rfl) (fun x hg1 => ?_)
  obtain ⟨pre, rest⟩ := x
  dsimp only at hg1 ⊢
  refine CWp.seq ?_
  refine CWp.seq ?_
  refine CWp.region rfl ?_
  refine Walk.move .none rfl rfl ?_
  refine Walk.move .none rfl rfl ?_
  refine Walk.len sl155 .none rfl rfl ?_
  refine Walk.ltI .none rfl rfl rfl ?_
  refine ⟨trivial, ?_⟩
  refine CWp.cond rfl (fun h1 => ?_) (fun h1 => ?_)
  · have h1p := h1; have h1s := h1; try simp only [Bool.not_eq_true', Bool.not_eq_false', Bool.not_not] at h1s
    try simp only [Bool.not_eq_true', Bool.not_eq_false', decide_eq_true_eq, decide_eq_false_iff_not, Bool.not_not, List.length_map, Bool.and_eq_true, Bool.or_eq_false_iff, Val.cs_len, Int.ofNat_lt, Int.ofNat_le] at h1p
    rcases rest with _ | ⟨l, rest⟩
    · exfalso; simp_all
    have hll := hls l (by rw [← hg1]; simp); have htl := tupV_len most pre
    refine CWp.skip ?_
    refine CWp.seq ?_
    refine CWp.block ?_
    refine CWp.seq ?_
    refine CWp.region rfl ?_
    refine Walk.sliceEmptyG 3 sl155 .none rfl rfl ?_
    refine Walk.assign .none rfl rfl ?_
    refine ⟨trivial, ?_⟩
    refine CWp.seq ?_
    refine CWp.seq ?_
    refine CWp.region rfl ?_
    refine Walk.assign .none rfl rfl ?_
    refine ⟨trivial, ?_⟩
    refine CWp.block ?_
    refine CWp.loopX (ι := Nat) hk (fun k => [(8, .d (.i (k : Int))), (7, .gl 3 (((((tupV most pre).take k).flatMap (stepV l)).take (most + 1)).map enc1))]) [9, 19, 20, 21, 22, 23, 24, 25, 26, 27, 28, 29, 30, 31, 32, 33, 34, 35, 36, 37, 38, 39, 40, 41, 42, 43, 44, 45, 46, 47, 48, 49, 50, 51, 52, 53, 54, 55, 56, 57, 58, 59, 60, 61, 62, 63] (fun k => [(3, some (.tok ((((((tupV most pre).take k).flatMap (stepV l)).take (most + 1)).map enc1)).length 1))]) (fun k => k ≤ (tupV most pre).length) (fun k => (tupV most pre).length - k) 0 (by simp) ⟨⟨_, rfl, (LeA.eqi (by first | rfl | (simp; done) | (rw [fm_step (by omega), tkV_exit (by omega)])))⟩, ⟨⟨_, rfl, (LeA.glg (by first | rfl | (simp; done) | (rw [fm_step (by omega), tkV_exit (by omega)])))⟩, trivial⟩⟩ ⟨beq_nat_eq (by first | rfl | (simp; done) | (simp; omega) | (first | rfl | (simp; done) | (rw [fm_step (by omega), tkV_exit (by omega)]))), trivial⟩ (fun x => rfl) (fun k hg2 => ?_)
    refine CWp.seq ?_
    refine CWp.seq ?_
    refine CWp.region rfl ?_
    refine Walk.move .none rfl rfl ?_
    refine Walk.move .none rfl rfl ?_
    refine Walk.len sl155 .none rfl rfl ?_
    refine Walk.ltI .none rfl rfl rfl ?_
    refine Walk.move .none rfl rfl ?_
    refine Walk.split (e := 23) rfl (fun h2 => ?_) (fun h2 => ?_)
    · have h2p := h2; have h2s := h2; try simp only [Bool.not_eq_true', Bool.not_eq_false', Bool.not_not] at h2s
      try simp only [Bool.not_eq_true', Bool.not_eq_false', decide_eq_true_eq, decide_eq_false_iff_not, Bool.not_not, List.length_map, Bool.and_eq_true, Bool.or_eq_false_iff, Val.cs_len, Int.ofNat_lt, Int.ofNat_le] at h2p
      refine Walk.move (.some rfl rfl h2) rfl rfl ?_
      refine Walk.lenG sl155 (.some rfl rfl h2) rfl rfl ?_
      refine Walk.move (.some rfl rfl h2) rfl rfl ?_
      refine Walk.leI (.some rfl rfl h2) rfl rfl rfl ?_
      refine Walk.pickT .none rfl rfl h2 rfl ?_
      refine ⟨trivial, ?_⟩
      refine CWp.cond rfl (fun h3 => ?_) (fun h3 => ?_)
      · have h3p := h3; have h3s := h3; try simp only [Bool.not_eq_true', Bool.not_eq_false', Bool.not_not] at h3s
        try simp only [Bool.not_eq_true', Bool.not_eq_false', decide_eq_true_eq, decide_eq_false_iff_not, Bool.not_not, List.length_map, Bool.and_eq_true, Bool.or_eq_false_iff, Val.cs_len, Int.ofNat_lt, Int.ofNat_le] at h3p
        refine CWp.skip ?_
        refine CWp.seq ?_
        refine CWp.block ?_
        refine CWp.seq ?_
        refine CWp.region rfl ?_
        refine Walk.assign .none rfl rfl ?_
        refine ⟨trivial, ?_⟩
        refine CWp.block ?_
        refine CWp.loopX (ι := Nat) hk (fun j => [(9, .d (.i (j : Int))), (7, .gl 3 (((((tupV most pre).take k).flatMap (stepV l) ++ (l.take j).map (fun y => nth (tupV most pre) k ++ [y])).take (most + 1)).map enc1))]) [31, 32, 33, 34, 35, 36, 37, 38, 39, 40, 41, 42, 43, 44, 45, 46, 47, 48, 49, 50, 51, 52, 53, 54, 55, 56, 57, 58, 59, 60, 61, 62, 63] (fun j => [(3, some (.tok ((((((tupV most pre).take k).flatMap (stepV l) ++ (l.take j).map (fun y => nth (tupV most pre) k ++ [y])).take (most + 1)).map enc1)).length 1))]) (fun j => j ≤ l.length) (fun j => l.length - j) 0 (by simp) ⟨⟨_, rfl, (LeA.eqi (by first | rfl | (simp; done) | (rw [tk_step (by omega) (by omega), List.map_append]; simp [Val.cs_cc]; done)))⟩, ⟨⟨_, rfl, (LeA.glg (by first | rfl | (simp; done) | (rw [tk_step (by omega) (by omega), List.map_append]; simp [Val.cs_cc]; done)))⟩, trivial⟩⟩ ⟨beq_nat_eq (by first | rfl | (simp; done) | (simp; omega) | (first | rfl | (simp; done) | (rw [tk_step (by omega) (by omega), List.map_append]; simp [Val.cs_cc]; done))), trivial⟩ (fun x => rfl) (fun j hg3 => ?_)
        have hol := tupV_mem most (nth_mem (l := tupV most pre) (i := k) (by omega))
        refine CWp.seq ?_
        refine CWp.seq ?_
        refine CWp.region rfl ?_
        refine Walk.move .none rfl rfl ?_
        refine Walk.move .none rfl rfl ?_
        refine Walk.move .none rfl rfl ?_
        refine Walk.idx sl155 .none rfl rfl rfl rfl (by first | exact zip_at hg1 | exact at_nth (by omega)) rfl ?_
        refine Walk.loadP ty52 .none rfl rfl rfl ?_
        refine Walk.len sl52 .none rfl rfl ?_
        refine Walk.ltI .none rfl rfl rfl ?_
        refine Walk.move .none rfl rfl ?_
        refine Walk.split (e := 38) rfl (fun h4 => ?_) (fun h4 => ?_)
        · have h4p := h4; have h4s := h4; try simp only [Bool.not_eq_true', Bool.not_eq_false', Bool.not_not] at h4s
          try simp only [Bool.not_eq_true', Bool.not_eq_false', decide_eq_true_eq, decide_eq_false_iff_not, Bool.not_not, List.length_map, Bool.and_eq_true, Bool.or_eq_false_iff, Val.cs_len, Int.ofNat_lt, Int.ofNat_le] at h4p
          refine Walk.move (.some rfl rfl h4) rfl rfl ?_
          refine Walk.lenG sl155 (.some rfl rfl h4) rfl rfl ?_
          refine Walk.move (.some rfl rfl h4) rfl rfl ?_
          refine Walk.leI (.some rfl rfl h4) rfl rfl rfl ?_
          refine Walk.pickT .none rfl rfl h4 rfl ?_
          refine ⟨trivial, ?_⟩
          refine CWp.cond rfl (fun h5 => ?_) (fun h5 => ?_)
          · have h5p := h5; have h5s := h5; try simp only [Bool.not_eq_true', Bool.not_eq_false', Bool.not_not] at h5s
            try simp only [Bool.not_eq_true', Bool.not_eq_false', decide_eq_true_eq, decide_eq_false_iff_not, Bool.not_not, List.length_map, Bool.and_eq_true, Bool.or_eq_false_iff, Val.cs_len, Int.ofNat_lt, Int.ofNat_le] at h5p
            refine CWp.skip ?_
            refine CWp.seq ?_
            refine CWp.block ?_
            refine CWp.drawn mixed rfl ?_
            refine Walk.move .none rfl rfl ?_
            refine Walk.sliceEmptyG 5 sl52 .none rfl rfl ?_
            refine Walk.move .none rfl rfl ?_
            refine Walk.move .none rfl rfl ?_
            refine Walk.idx sl155 .none rfl rfl rfl rfl (by first | exact zip_at hg1 | exact at_nth (by omega)) rfl ?_
            refine Walk.loadP ty52 .none rfl rfl rfl ?_
            refine Walk.append sl52 zz54 rfl .none rfl rfl rfl rfl (htokL rfl (by first | rfl | (simp; done) | (simp; omega))) (by intro z hz; first | (rw [Val.cs_cc] at hz; obtain ⟨_, _, rfl⟩ := List.mem_map.1 hz; rfl) | (simp at hz; rw [hz]; rfl)) (by first | (simp only [List.length_map, List.length_append, List.length_cons, List.length_nil, Val.cs_len] at *; omega)) (by first | (simp only [List.length_map, List.length_append, List.length_cons, List.length_nil, Val.cs_len] at *; omega)) ?_
            refine Walk.move .none rfl rfl ?_
            refine Walk.move .none rfl rfl ?_
            refine Walk.idx sl155 .none rfl rfl rfl rfl (by first | exact zip_at hg1 | exact at_nth (by omega)) rfl ?_
            refine Walk.loadP ty52 .none rfl rfl rfl ?_
            refine Walk.move .none rfl rfl ?_
            refine Walk.idx sl52 .none rfl rfl rfl rfl (vals_at (by omega)) rfl ?_
            refine Walk.loadPA ty54 .none rfl rfl rfl rfl ?_
            refine Walk.sliceLit sl52 tz54 rfl (by decide) (ks := [0]) (xs := [_]) rfl rfl (by decide) (by decide) .none rfl rfl rfl rfl ?_
            refine Walk.append sl52 zz54 rfl .none rfl rfl rfl rfl (htokL rfl (by first | rfl | (simp; done) | (simp; omega))) (by intro z hz; first | (rw [Val.cs_cc] at hz; obtain ⟨_, _, rfl⟩ := List.mem_map.1 hz; rfl) | (simp at hz; rw [hz]; rfl)) (by first | (simp only [List.length_map, List.length_append, List.length_cons, List.length_nil, Val.cs_len] at *; omega)) (by first | (simp only [List.length_map, List.length_append, List.length_cons, List.length_nil, Val.cs_len] at *; omega)) ?_
            refine Walk.sliceLit sl155 tz52 rfl (by decide) (ks := [0]) (xs := [_]) rfl rfl (by decide) (by decide) .none rfl rfl rfl rfl ?_
            refine Walk.append sl155 zz52 rfl .none rfl rfl rfl rfl (htokL rfl (by first | rfl | (simp; done) | (simp; omega))) (by intro z hz; first | (rw [Val.cs_cc] at hz; obtain ⟨_, _, rfl⟩ := List.mem_map.1 hz; rfl) | (simp at hz; rw [hz]; rfl)) (by first | (simp only [List.length_map, List.length_append, List.length_cons, List.length_nil, Val.cs_len] at *; omega)) (by first | (simp only [List.length_map, List.length_append, List.length_cons, List.length_nil, Val.cs_len] at *; omega)) ?_
            refine Walk.assign .none rfl rfl ?_
            refine ⟨by show _ = _; kernel_rfl, ?_⟩
            refine CWp.region rfl ?_
            refine Walk.move .none rfl rfl ?_
            refine Walk.addI .none rfl rfl rfl (by first | (constructor <;> omega) | (constructor <;> simp <;> omega)) ?_
            refine Walk.assign .none rfl rfl ?_
            refine ⟨trivial, ?_⟩
            refine ⟨j + 1, ?_, ?_, Sub.x (by kernel_rfl) (by kernel_rfl) ⟨⟨_, rfl, (LeA.eqi (by first | rfl | (simp; done) | (rw [tk_step (by omega) (by omega), List.map_append]; simp [Val.cs_cc]; done)))⟩, ⟨⟨_, rfl, (LeA.glg (by first | rfl | (simp; done) | (rw [tk_step (by omega) (by omega), List.map_append]; simp [Val.cs_cc]; done)))⟩, trivial⟩⟩ (by kernel_rfl) (by kernel_rfl) ⟨beq_nat_eq (by first | rfl | (simp; done) | (simp; omega) | (first | rfl | (simp; done) | (rw [tk_step (by omega) (by omega), List.map_append]; simp [Val.cs_cc]; done))), trivial⟩⟩
            all_goals first | omega | (simp_all; done) | (simp_all; omega)
          · have h5p := h5; have h5s := h5; try simp only [Bool.not_eq_true', Bool.not_eq_false', Bool.not_not] at h5s
            try simp only [Bool.not_eq_true', Bool.not_eq_false', decide_eq_true_eq, decide_eq_false_iff_not, Bool.not_not, List.length_map, Bool.and_eq_true, Bool.or_eq_false_iff, Val.cs_len, Int.ofNat_lt, Int.ofNat_le] at h5p
            refine CWp.exit ?_
            refine CWp.region rfl ?_
            refine Walk.move .none rfl rfl ?_
            refine Walk.addI .none rfl rfl rfl (by first | (constructor <;> omega) | (constructor <;> simp <;> omega)) ?_
            refine Walk.assign .none rfl rfl ?_
            refine ⟨trivial, ?_⟩
            refine ⟨k + 1, ?_, ?_, Sub.x (by kernel_rfl) (by kernel_rfl) ⟨⟨_, rfl, (LeA.eqi (by first | rfl | (simp; done) | (rw [fm_step (by omega), tkV_exit (by omega)])))⟩, ⟨⟨_, rfl, (LeA.glg (by first | rfl | (simp; done) | (rw [fm_step (by omega), tkV_exit (by omega)])))⟩, trivial⟩⟩ (by kernel_rfl) (by kernel_rfl) ⟨beq_nat_eq (by first | rfl | (simp; done) | (simp; omega) | (first | rfl | (simp; done) | (rw [fm_step (by omega), tkV_exit (by omega)]))), trivial⟩⟩
            all_goals first | omega | (simp_all; done) | (simp_all; omega)
        · have h4p := h4; have h4s := h4; try simp only [Bool.not_eq_true', Bool.not_eq_false', Bool.not_not] at h4s
          try simp only [Bool.not_eq_true', Bool.not_eq_false', decide_eq_true_eq, decide_eq_false_iff_not, Bool.not_not, List.length_map, Bool.and_eq_true, Bool.or_eq_false_iff, Val.cs_len, Int.ofNat_lt, Int.ofNat_le] at h4p
          refine Walk.pass rfl rfl rfl h4 rfl rfl ?_
          refine Walk.pass rfl rfl rfl h4 rfl rfl ?_
          refine Walk.pass rfl rfl rfl h4 rfl rfl ?_
          refine Walk.pass rfl rfl rfl h4 rfl rfl ?_
          refine Walk.pickF .none rfl rfl h4 rfl ?_
          refine ⟨trivial, ?_⟩
          refine CWp.cond rfl (fun h6 => ?_) (fun h6 => ?_)
          · exact absurd h6 (by simp)
          · have h6p := h6; have h6s := h6; try simp only [Bool.not_eq_true', Bool.not_eq_false', Bool.not_not] at h6s
            try simp only [Bool.not_eq_true', Bool.not_eq_false', decide_eq_true_eq, decide_eq_false_iff_not, Bool.not_not, List.length_map, Bool.and_eq_true, Bool.or_eq_false_iff, Val.cs_len, Int.ofNat_lt, Int.ofNat_le] at h6p
            refine CWp.exit ?_
            refine CWp.region rfl ?_
            refine Walk.move .none rfl rfl ?_
            refine Walk.addI .none rfl rfl rfl (by first | (constructor <;> omega) | (constructor <;> simp <;> omega)) ?_
            refine Walk.assign .none rfl rfl ?_
            refine ⟨trivial, ?_⟩
            refine ⟨k + 1, ?_, ?_, Sub.x (by kernel_rfl) (by kernel_rfl) ⟨⟨_, rfl, (LeA.eqi (by first | rfl | (simp; done) | (rw [fm_step (by omega), tkV_exit (by omega)])))⟩, ⟨⟨_, rfl, (LeA.glg (by first | rfl | (simp; done) | (rw [fm_step (by omega), tkV_exit (by omega)])))⟩, trivial⟩⟩ (by kernel_rfl) (by kernel_rfl) ⟨beq_nat_eq (by first | rfl | (simp; done) | (simp; omega) | (first | rfl | (simp; done) | (rw [fm_step (by omega), tkV_exit (by omega)]))), trivial⟩⟩
            all_goals first | omega | (simp_all; done) | (simp_all; omega)
      · have h3p := h3; have h3s := h3; try simp only [Bool.not_eq_true', Bool.not_eq_false', Bool.not_not] at h3s
        try simp only [Bool.not_eq_true', Bool.not_eq_false', decide_eq_true_eq, decide_eq_false_iff_not, Bool.not_not, List.length_map, Bool.and_eq_true, Bool.or_eq_false_iff, Val.cs_len, Int.ofNat_lt, Int.ofNat_le] at h3p
        refine CWp.exit ?_
        refine CWp.region rfl ?_
        refine Walk.move .none rfl rfl ?_
        refine Walk.assign .none rfl rfl ?_
        refine ⟨trivial, ?_⟩
        refine CWp.region rfl ?_
        refine Walk.move .none rfl rfl ?_
        refine Walk.addI .none rfl rfl rfl (by first | (constructor <;> omega) | (constructor <;> simp <;> omega)) ?_
        refine Walk.assign .none rfl rfl ?_
        refine ⟨trivial, ?_⟩
        refine ⟨(pre ++ [l], rest), (by have hz := hg1; rw [← hz]; simp), (by simp), Sub.x (by kernel_rfl) (by kernel_rfl) ⟨⟨_, rfl, (LeA.eqi (by first | rfl | (simp; done) | (rw [tupV_snoc, fm_exit (by omega)])))⟩, ⟨⟨_, rfl, (by first | exact LeA.refl _ | exact LeA.gld (by first | rfl | (simp; done) | (rw [tupV_snoc, fm_exit (by omega)])) | exact LeA.nild (by first | rfl | (simp; done) | (rw [tupV_snoc, fm_exit (by omega)])) | exact LeA.eqsl (by first | rfl | (simp; done) | (rw [tupV_snoc, fm_exit (by omega)])) | exact LeA.eqd (by first | rfl | (simp; done) | (rw [tupV_snoc, fm_exit (by omega)])))⟩, trivial⟩⟩ (by kernel_rfl) (by kernel_rfl) trivial⟩
    · have h2p := h2; have h2s := h2; try simp only [Bool.not_eq_true', Bool.not_eq_false', Bool.not_not] at h2s
      try simp only [Bool.not_eq_true', Bool.not_eq_false', decide_eq_true_eq, decide_eq_false_iff_not, Bool.not_not, List.length_map, Bool.and_eq_true, Bool.or_eq_false_iff, Val.cs_len, Int.ofNat_lt, Int.ofNat_le] at h2p
      refine Walk.pass rfl rfl rfl h2 rfl rfl ?_
      refine Walk.pass rfl rfl rfl h2 rfl rfl ?_
      refine Walk.pass rfl rfl rfl h2 rfl rfl ?_
      refine Walk.pass rfl rfl rfl h2 rfl rfl ?_
      refine Walk.pickF .none rfl rfl h2 rfl ?_
      refine ⟨trivial, ?_⟩
      refine CWp.cond rfl (fun h7 => ?_) (fun h7 => ?_)
      · exact absurd h7 (by simp)
      · have h7p := h7; have h7s := h7; try simp only [Bool.not_eq_true', Bool.not_eq_false', Bool.not_not] at h7s
        try simp only [Bool.not_eq_true', Bool.not_eq_false', decide_eq_true_eq, decide_eq_false_iff_not, Bool.not_not, List.length_map, Bool.and_eq_true, Bool.or_eq_false_iff, Val.cs_len, Int.ofNat_lt, Int.ofNat_le] at h7p
        refine CWp.exit ?_
        refine CWp.region rfl ?_
        refine Walk.move .none rfl rfl ?_
        refine Walk.assign .none rfl rfl ?_
        refine ⟨trivial, ?_⟩
        refine CWp.region rfl ?_
        refine Walk.move .none rfl rfl ?_
        refine Walk.addI .none rfl rfl rfl (by first | (constructor <;> omega) | (constructor <;> simp <;> omega)) ?_
        refine Walk.assign .none rfl rfl ?_
        refine ⟨trivial, ?_⟩
        refine ⟨(pre ++ [l], rest), (by have hz := hg1; rw [← hz]; simp), (by simp), Sub.x (by kernel_rfl) (by kernel_rfl) ⟨⟨_, rfl, (LeA.eqi (by first | rfl | (simp; done) | (rw [tupV_snoc, fm_exit (by omega)])))⟩, ⟨⟨_, rfl, (by first | exact LeA.refl _ | exact LeA.gld (by first | rfl | (simp; done) | (rw [tupV_snoc, fm_exit (by omega)])) | exact LeA.nild (by first | rfl | (simp; done) | (rw [tupV_snoc, fm_exit (by omega)])) | exact LeA.eqsl (by first | rfl | (simp; done) | (rw [tupV_snoc, fm_exit (by omega)])) | exact LeA.eqd (by first | rfl | (simp; done) | (rw [tupV_snoc, fm_exit (by omega)])))⟩, trivial⟩⟩ (by kernel_rfl) (by kernel_rfl) trivial⟩
  · have h1p := h1; have h1s := h1; try simp only [Bool.not_eq_true', Bool.not_eq_false', Bool.not_not] at h1s
    try simp only [Bool.not_eq_true', Bool.not_eq_false', decide_eq_true_eq, decide_eq_false_iff_not, Bool.not_not, List.length_map, Bool.and_eq_true, Bool.or_eq_false_iff, Val.cs_len, Int.ofNat_lt, Int.ofNat_le] at h1p
    have hrest : rest = [] := by
      rcases rest with _ | ⟨a, b⟩
      · rfl
      · exfalso; have hz := congrArg List.length (hg1); simp only [List.length_append, List.length_cons, List.length_map] at hz; omega
    subst hrest
    refine CWp.exit ?_
    refine CWp.seq ?_
    refine CWp.region rfl ?_
    refine Walk.move .none rfl rfl ?_
    refine Walk.assign .none rfl rfl ?_
    refine ⟨trivial, ?_⟩
    refine CWp.ret ?_
    refine ⟨_, _, [], (.cons (.tmp rfl) .nil), (.eqd ?_), ⟨rfl, rfl⟩, HSub.nil, noBox⟩
    all_goals ((rw [List.append_nil] at hg1); subst hg1; rfl)

end Go.Proofs.Ytadpcmcifbakoaa
