/-
  WALKS: values up to a depth and SameValues, in the reference.
-/
import Derived.Test.YtadpcmcifbakoaaF10
namespace Go.Proofs.Ytadpcmcifbakoaa
open Go
set_option linter.unusedSimpArgs false
set_option linter.unusedVariables false
set_option maxRecDepth 100000
set_option maxHeartbeats 2000000

def allC (w : List Data) (n : Nat) (t : Ty) (c : Int) : List Val := (tupV 400 ((argsOf w t c).map (allV w 400 n))).map (Val.mk c 0)
theorem allV_ctors {w : List Data} {n : Nat} {t : Ty} (ht : t.data ≠ -1) : allV w 400 (n + 1) t = ((ctorsOf w t).flatMap (allC w n t)).take (400 + 1) := by rw [allV, if_neg ht]; rfl
theorem cA_exit {w : List Data} {n : Nat} {t : Ty} {X : List Val} {c : Int} {j : Nat} (hc : ¬ j < (tupV 400 ((argsOf w t c).map (allV w 400 n))).length ∨ ¬ ((X ++ ((tupV 400 ((argsOf w t c).map (allV w 400 n))).take j).map (Val.mk c 0)).take (400 + 1)).length ≤ 400) :
    (X ++ ((tupV 400 ((argsOf w t c).map (allV w 400 n))).take j).map (Val.mk c 0)).take (400 + 1) = (X ++ allC w n t c).take (400 + 1) := tk_exit hc

theorem spec_l2All_fn {w : List Data} (hw : WT w) : ∀ (n : Nat) {a k m : Int}, m = n → n ≤ 1000 → TyIn w.length ⟨a, k⟩ →
    FnD Try.prog 92 [.d (encDatas w), .agg [.d (.i a), .d (.i k)], .d (.i m), .d (.i 400)] [] (.d (encVals (allV w 400 n ⟨a, k⟩))) []
  | 0, a, k, m, hm, _, _ => by
    refine Fn.body (fn := Try.f92) (n := 104) rfl rfl rfl rfl rfl (fun w0 F0 own kept hk => ?_)
    refine CWp.seq ?_
    refine CWp.region rfl ?_
    refine Walk.box (id := 3005) .none rfl rfl rfl rfl rfl rfl rfl ?_
    refine Walk.assign .none rfl rfl ?_
    refine ⟨trivial, ?_⟩
    refine CWp.seq ?_
    refine CWp.region rfl ?_
    refine Walk.sliceEmptyG 1 sl52 .none rfl rfl ?_
    refine Walk.assign .none rfl rfl ?_
    refine ⟨trivial, ?_⟩
    refine CWp.seq ?_
    refine CWp.seq ?_
    refine CWp.region rfl ?_
    refine Walk.move .none rfl rfl ?_
    refine Walk.ltI .none rfl rfl rfl ?_
    refine ⟨trivial, ?_⟩
    refine CWp.cond rfl (fun h1 => ?_) (fun h1 => ?_)
    · have h1p := h1; have h1s := h1; try simp only [Bool.not_eq_true', Bool.not_eq_false', Bool.not_not] at h1s
      try simp only [Bool.not_eq_true', Bool.not_eq_false', decide_eq_true_eq, decide_eq_false_iff_not, Bool.not_not, List.length_map, Bool.and_eq_true, Bool.or_eq_false_iff] at h1p
      refine CWp.seq ?_
      refine CWp.region rfl ?_
      refine Walk.move .none rfl rfl ?_
      refine Walk.assign .none rfl rfl ?_
      refine ⟨trivial, ?_⟩
      refine CWp.ret ?_
      refine ⟨_, _, [], (.cons (.tmp rfl) .nil), (.gld ?_), ⟨rfl, rfl⟩, HSub.nil, noBox⟩
      all_goals (rfl)
    · have h1p := h1; have h1s := h1; try simp only [Bool.not_eq_true', Bool.not_eq_false', Bool.not_not] at h1s
      try simp only [Bool.not_eq_true', Bool.not_eq_false', decide_eq_true_eq, decide_eq_false_iff_not, Bool.not_not, List.length_map, Bool.and_eq_true, Bool.or_eq_false_iff] at h1p
      exfalso; simp at h1; omega --stop
  | n + 1, a, k, m, hm, hn, ht => by
    rcases ht with ha | ⟨d, hd, hlt⟩
    · have ha' : a = -1 := ha
      subst ha'
      refine Fn.body (fn := Try.f92) (n := 104) rfl rfl rfl rfl rfl (fun w0 F0 own kept hk => ?_)
      refine CWp.seq ?_
      refine CWp.region rfl ?_
      refine Walk.box (id := 3005) .none rfl rfl rfl rfl rfl rfl rfl ?_
      refine Walk.assign .none rfl rfl ?_
      refine ⟨trivial, ?_⟩
      refine CWp.seq ?_
      refine CWp.region rfl ?_
      refine Walk.sliceEmptyG 1 sl52 .none rfl rfl ?_
      refine Walk.assign .none rfl rfl ?_
      refine ⟨trivial, ?_⟩
      refine CWp.seq ?_
      refine CWp.seq ?_
      refine CWp.region rfl ?_
      refine Walk.move .none rfl rfl ?_
      refine Walk.ltI .none rfl rfl rfl ?_
      refine ⟨trivial, ?_⟩
      refine CWp.cond rfl (fun h1 => ?_) (fun h1 => ?_)
      · have h1p := h1; have h1s := h1; try simp only [Bool.not_eq_true', Bool.not_eq_false', Bool.not_not] at h1s
        try simp only [Bool.not_eq_true', Bool.not_eq_false', decide_eq_true_eq, decide_eq_false_iff_not, Bool.not_not, List.length_map, Bool.and_eq_true, Bool.or_eq_false_iff] at h1p
        exfalso; simp at h1; omega --stop
      · have h1p := h1; have h1s := h1; try simp only [Bool.not_eq_true', Bool.not_eq_false', Bool.not_not] at h1s
        try simp only [Bool.not_eq_true', Bool.not_eq_false', decide_eq_true_eq, decide_eq_false_iff_not, Bool.not_not, List.length_map, Bool.and_eq_true, Bool.or_eq_false_iff] at h1p
        refine CWp.skip ?_
        refine CWp.seq ?_
        refine CWp.seq ?_
        refine CWp.region rfl ?_
        refine Walk.fieldB fd38_0 .none rfl rfl ?_
        refine Walk.loadB ty3 .none rfl rfl rfl rfl ?_
        refine Walk.eqI .none rfl rfl rfl ?_
        refine ⟨trivial, ?_⟩
        refine CWp.cond rfl (fun h2 => ?_) (fun h2 => ?_)
        · have h2p := h2; have h2s := h2; try simp only [Bool.not_eq_true', Bool.not_eq_false', Bool.not_not] at h2s
          try simp only [Bool.not_eq_true', Bool.not_eq_false', decide_eq_true_eq, decide_eq_false_iff_not, Bool.not_not, List.length_map, Bool.and_eq_true, Bool.or_eq_false_iff] at h2p
          refine CWp.seq ?_
          refine CWp.seq ?_
          refine CWp.region rfl ?_
          refine Walk.assign .none rfl rfl ?_
          refine ⟨trivial, ?_⟩
          refine CWp.block ?_
          refine CWp.loopX (ι := Nat) hk (fun i => [(10, .d (.i (i : Int))), (9, .gl 1 (((List.range i).map fun (n : Nat) => Val.mk (-1) n []).map Val.cc))]) [25, 26, 27, 28, 29, 30, 31, 32, 33] (fun i => [(1, some (.tok ((((List.range i).map fun (n : Nat) => Val.mk (-1) n []).map Val.cc)).length 3))]) (fun i => i ≤ 10) (fun i => 10 - i) 0 (by simp) ⟨⟨_, rfl, (LeA.eqi (by first | rfl | (simp [List.range_succ, Val.ctor, Val.num, Val.kids]; done) | (simp [List.range_succ, Val.ctor, Val.num, Val.kids, Val.cs]; done)))⟩, ⟨⟨_, rfl, (LeA.glg (by first | rfl | (simp [List.range_succ, Val.ctor, Val.num, Val.kids]; done) | (simp [List.range_succ, Val.ctor, Val.num, Val.kids, Val.cs]; done)))⟩, trivial⟩⟩ ⟨beq_nat_eq (by first | rfl | (simp; done) | (simp; omega) | (first | rfl | (simp [List.range_succ, Val.ctor, Val.num, Val.kids]; done) | (simp [List.range_succ, Val.ctor, Val.num, Val.kids, Val.cs]; done))), trivial⟩ (fun x => rfl) (fun i hg1 => ?_)
          refine CWp.seq ?_
          refine CWp.seq ?_
          refine CWp.region rfl ?_
          refine Walk.move .none rfl rfl ?_
          refine Walk.leI .none rfl rfl rfl ?_
          refine ⟨trivial, ?_⟩
          refine CWp.cond rfl (fun h3 => ?_) (fun h3 => ?_)
          · have h3p := h3; have h3s := h3; try simp only [Bool.not_eq_true', Bool.not_eq_false', Bool.not_not] at h3s
            try simp only [Bool.not_eq_true', Bool.not_eq_false', decide_eq_true_eq, decide_eq_false_iff_not, Bool.not_not, List.length_map, Bool.and_eq_true, Bool.or_eq_false_iff] at h3p
            refine CWp.skip ?_
            refine CWp.seq ?_
            refine CWp.block ?_
            refine CWp.region rfl ?_
            refine Walk.move .none rfl rfl ?_
            refine Walk.move .none rfl rfl ?_
            refine Walk.build st54 (ks := [0, 1]) (xs := [_, _]) rfl rfl .none rfl rfl rfl ?_
            refine Walk.sliceLit sl52 tz54 rfl (by decide) (ks := [0]) (xs := [_]) rfl rfl (by decide) (by decide) .none rfl rfl rfl rfl ?_
            refine Walk.append sl52 zz54 rfl .none rfl rfl rfl rfl (htokL rfl (by first | rfl | (simp; done) | (simp; omega))) (by simp) (by simp; omega) (by simp; omega) ?_
            refine Walk.assign .none rfl rfl ?_
            refine ⟨trivial, ?_⟩
            refine CWp.region rfl ?_
            refine Walk.move .none rfl rfl ?_
            refine Walk.addI .none rfl rfl rfl (by first | (constructor <;> omega) | (constructor <;> simp <;> omega)) ?_
            refine Walk.assign .none rfl rfl ?_
            refine ⟨trivial, ?_⟩
            refine ⟨i + 1, ?_, ?_, Sub.x (by kernel_rfl) (by kernel_rfl) ⟨⟨_, rfl, (LeA.eqi (by first | rfl | (simp [List.range_succ, Val.ctor, Val.num, Val.kids]; done) | (simp [List.range_succ, Val.ctor, Val.num, Val.kids, Val.cs]; done)))⟩, ⟨⟨_, rfl, (LeA.glg (by first | rfl | (simp [List.range_succ, Val.ctor, Val.num, Val.kids]; done) | (simp [List.range_succ, Val.ctor, Val.num, Val.kids, Val.cs]; done)))⟩, trivial⟩⟩ (by kernel_rfl) (by kernel_rfl) ⟨beq_nat_eq (by first | rfl | (simp; done) | (simp; omega) | (first | rfl | (simp [List.range_succ, Val.ctor, Val.num, Val.kids]; done) | (simp [List.range_succ, Val.ctor, Val.num, Val.kids, Val.cs]; done))), trivial⟩⟩
            all_goals first | omega | (simp_all; done) | (simp_all; omega)
          · have h3p := h3; have h3s := h3; try simp only [Bool.not_eq_true', Bool.not_eq_false', Bool.not_not] at h3s
            try simp only [Bool.not_eq_true', Bool.not_eq_false', decide_eq_true_eq, decide_eq_false_iff_not, Bool.not_not, List.length_map, Bool.and_eq_true, Bool.or_eq_false_iff] at h3p
            refine CWp.exit ?_
            refine CWp.seq ?_
            refine CWp.region rfl ?_
            refine Walk.move .none rfl rfl ?_
            refine Walk.assign .none rfl rfl ?_
            refine ⟨trivial, ?_⟩
            refine CWp.ret ?_
            refine ⟨_, _, [], (.cons (.tmp rfl) .nil), (.gld ?_), ⟨rfl, rfl⟩, HSub.nil, noBox⟩
            all_goals (have e : i = 10 := (by omega); subst e; rw [allV, if_pos rfl, Val.cs_cc]; rfl)
        · have h2p := h2; have h2s := h2; try simp only [Bool.not_eq_true', Bool.not_eq_false', Bool.not_not] at h2s
          try simp only [Bool.not_eq_true', Bool.not_eq_false', decide_eq_true_eq, decide_eq_false_iff_not, Bool.not_not, List.length_map, Bool.and_eq_true, Bool.or_eq_false_iff] at h2p
          exact absurd h2 (by simp) --stop
    have hd' : a = (d : Int) := hd
    subst hd'
    have hne : (⟨d, k⟩ : Ty).data ≠ -1 := by show (d : Int) ≠ -1; omega
    have hcl := ctorsOf_len hw (d := d) (k := k)
    refine Fn.body (fn := Try.f92) (n := 104) rfl rfl rfl rfl rfl (fun w0 F0 own kept hk => ?_)
    refine CWp.seq ?_
    refine CWp.region rfl ?_
    refine Walk.box (id := 3005) .none rfl rfl rfl rfl rfl rfl rfl ?_
    refine Walk.assign .none rfl rfl ?_
    refine ⟨trivial, ?_⟩
    refine CWp.seq ?_
    refine CWp.region rfl ?_
    refine Walk.sliceEmptyG 1 sl52 .none rfl rfl ?_
    refine Walk.assign .none rfl rfl ?_
    refine ⟨trivial, ?_⟩
    refine CWp.seq ?_
    refine CWp.seq ?_
    refine CWp.region rfl ?_
    refine Walk.move .none rfl rfl ?_
    refine Walk.ltI .none rfl rfl rfl ?_
    refine ⟨trivial, ?_⟩
    refine CWp.cond rfl (fun h1 => ?_) (fun h1 => ?_)
    · have h1p := h1; have h1s := h1; try simp only [Bool.not_eq_true', Bool.not_eq_false', Bool.not_not] at h1s
      try simp only [Bool.not_eq_true', Bool.not_eq_false', decide_eq_true_eq, decide_eq_false_iff_not, Bool.not_not, List.length_map, Bool.and_eq_true, Bool.or_eq_false_iff, Val.cs_len, Ty.eta, Int.ofNat_lt, Int.ofNat_le] at h1p
      exfalso; simp at h1; omega --stop
    · have h1p := h1; have h1s := h1; try simp only [Bool.not_eq_true', Bool.not_eq_false', Bool.not_not] at h1s
      try simp only [Bool.not_eq_true', Bool.not_eq_false', decide_eq_true_eq, decide_eq_false_iff_not, Bool.not_not, List.length_map, Bool.and_eq_true, Bool.or_eq_false_iff, Val.cs_len, Ty.eta, Int.ofNat_lt, Int.ofNat_le] at h1p
      refine CWp.skip ?_
      refine CWp.seq ?_
      refine CWp.seq ?_
      refine CWp.region rfl ?_
      refine Walk.fieldB fd38_0 .none rfl rfl ?_
      refine Walk.loadB ty3 .none rfl rfl rfl rfl ?_
      refine Walk.eqI .none rfl rfl rfl ?_
      refine ⟨trivial, ?_⟩
      refine CWp.cond rfl (fun h2 => ?_) (fun h2 => ?_)
      · have h2p := h2; have h2s := h2; try simp only [Bool.not_eq_true', Bool.not_eq_false', Bool.not_not] at h2s
        try simp only [Bool.not_eq_true', Bool.not_eq_false', decide_eq_true_eq, decide_eq_false_iff_not, Bool.not_not, List.length_map, Bool.and_eq_true, Bool.or_eq_false_iff, Val.cs_len, Ty.eta, Int.ofNat_lt, Int.ofNat_le] at h2p
        exfalso; simp at h2 <;> omega --stop
      · have h2p := h2; have h2s := h2; try simp only [Bool.not_eq_true', Bool.not_eq_false', Bool.not_not] at h2s
        try simp only [Bool.not_eq_true', Bool.not_eq_false', decide_eq_true_eq, decide_eq_false_iff_not, Bool.not_not, List.length_map, Bool.and_eq_true, Bool.or_eq_false_iff, Val.cs_len, Ty.eta, Int.ofNat_lt, Int.ofNat_le] at h2p
        refine CWp.skip ?_
        refine CWp.seq ?_
        refine CWp.region rfl ?_
        refine Walk.move .none rfl rfl ?_
        refine Walk.loadBA ty38 .none rfl rfl rfl rfl ?_
        refine Walk.call (cr := []) cal120 (spec_l1Ctors_in hw hlt) rfl .none rfl rfl (LeL.refl _) trivial rfl rfl rfl ?_
        refine Walk.assign .none rfl rfl ?_
        refine ⟨trivial, ?_⟩
        refine CWp.seq ?_
        refine CWp.seq ?_
        refine CWp.region rfl ?_
        refine Walk.assign .none rfl rfl ?_
        refine ⟨trivial, ?_⟩
        refine CWp.block ?_
        refine CWp.loopX (ι := Nat) hk (fun i => [(12, .d (.i (i : Int))), (9, .gl 1 (((((ctorsOf w ⟨d, k⟩).take i).flatMap (allC w n ⟨d, k⟩)).take (400 + 1)).map Val.cc))]) [13, 14, 15, 16, 17, 38, 39, 40, 41, 42, 43, 44, 45, 46, 47, 48, 49, 50, 51, 52, 53, 54, 55, 56, 57, 58, 59, 60, 61, 62, 63, 64, 65, 66, 67, 68, 69, 70, 71, 72, 73, 74, 75, 76, 77, 78, 79, 80, 81, 82, 83, 84, 85, 86, 87, 88, 89, 90, 91, 92, 93, 94, 95, 96, 97, 98, 99, 100, 101, 102] (fun i => [(1, some (.tok ((((((ctorsOf w ⟨d, k⟩).take i).flatMap (allC w n ⟨d, k⟩)).take (400 + 1)).map Val.cc)).length 3))]) (fun i => i ≤ (ctorsOf w ⟨d, k⟩).length) (fun i => (ctorsOf w ⟨d, k⟩).length - i) 0 (by simp) ⟨⟨_, rfl, (LeA.eqi (by first | rfl | (simp; done) | (subst hg3; rw [fm_step (by omega), cA_exit (by omega)])))⟩, ⟨⟨_, rfl, (LeA.glg (by first | rfl | (simp; done) | (subst hg3; rw [fm_step (by omega), cA_exit (by omega)])))⟩, trivial⟩⟩ ⟨beq_nat_eq (by first | rfl | (simp; done) | (simp; omega) | (first | rfl | (simp; done) | (subst hg3; rw [fm_step (by omega), cA_exit (by omega)]))), trivial⟩ (fun x => rfl) (fun i hg2 => ?_)
        refine CWp.seq ?_
        refine CWp.seq ?_
        refine CWp.region rfl ?_
        refine Walk.move .none rfl rfl ?_
        refine Walk.move .none rfl rfl ?_
        refine Walk.len sl126 .none rfl rfl ?_
        refine Walk.ltI .none rfl rfl rfl ?_
        refine Walk.move .none rfl rfl ?_
        refine Walk.split (e := 42) rfl (fun h3 => ?_) (fun h3 => ?_)
        · have h3p := h3; have h3s := h3; try simp only [Bool.not_eq_true', Bool.not_eq_false', Bool.not_not] at h3s
          try simp only [Bool.not_eq_true', Bool.not_eq_false', decide_eq_true_eq, decide_eq_false_iff_not, Bool.not_not, List.length_map, Bool.and_eq_true, Bool.or_eq_false_iff, Val.cs_len, Ty.eta, Int.ofNat_lt, Int.ofNat_le] at h3p
          refine Walk.move (.some rfl rfl h3) rfl rfl ?_
          refine Walk.lenG sl52 (.some rfl rfl h3) rfl rfl ?_
          refine Walk.move (.some rfl rfl h3) rfl rfl ?_
          refine Walk.leI (.some rfl rfl h3) rfl rfl rfl ?_
          refine Walk.pickT .none rfl rfl h3 rfl ?_
          refine ⟨trivial, ?_⟩
          refine CWp.cond rfl (fun h4 => ?_) (fun h4 => ?_)
          · have h4p := h4; have h4s := h4; try simp only [Bool.not_eq_true', Bool.not_eq_false', Bool.not_not] at h4s
            try simp only [Bool.not_eq_true', Bool.not_eq_false', decide_eq_true_eq, decide_eq_false_iff_not, Bool.not_not, List.length_map, Bool.and_eq_true, Bool.or_eq_false_iff, Val.cs_len, Ty.eta, Int.ofNat_lt, Int.ofNat_le] at h4p
            refine CWp.skip ?_
            refine CWp.seq ?_
            refine CWp.block ?_
            refine CWp.seq ?_
            refine CWp.drawn mixed rfl ?_
            refine Walk.move .none rfl rfl ?_
            refine Walk.loadBA ty38 .none rfl rfl rfl rfl ?_
            refine Walk.move .none rfl rfl ?_
            refine Walk.move .none rfl rfl ?_
            refine Walk.idx sl126 .none rfl rfl rfl rfl (at_nth (by omega)) rfl ?_
            refine Walk.loadP ty3 .none rfl rfl rfl ?_
            refine Walk.call (cr := []) cal121 (spec_l1Args_in hw hlt (place_of (k := k) (nth_mem (l := ctorsOf w ⟨d, k⟩) (i := i) (by omega)))) rfl .none rfl rfl (LeL.refl _) trivial rfl rfl rfl ?_
            refine Walk.assign .none rfl rfl ?_
            refine ⟨by show _ = _; kernel_rfl, ?_⟩
            refine CWp.seq ?_
            refine CWp.region rfl ?_
            refine Walk.sliceEmptyG 2 sl155 .none rfl rfl ?_
            refine Walk.assign .none rfl rfl ?_
            refine ⟨trivial, ?_⟩
            refine CWp.seq ?_
            refine CWp.seq ?_
            refine CWp.region rfl ?_
            refine Walk.assign .none rfl rfl ?_
            refine ⟨trivial, ?_⟩
            refine CWp.block ?_
            refine CWp.loopX (ι := List (Ty) × List (Ty)) hk (fun x => [(15, .d (.i (x.1.length : Int))), (14, .gl 2 ((x.1.map (allV w 400 n)).map enc1))]) [58, 59, 60, 61, 62, 63, 64, 65, 66, 67, 68, 69, 70, 71, 72, 73, 74, 75] (fun x => [(2, some (.tok (((x.1.map (allV w 400 n)).map enc1)).length 1))]) (fun x => x.1 ++ x.2 = argsOf w ⟨d, k⟩ (nth (ctorsOf w ⟨d, k⟩) i)) (fun x => x.2.length) ([], argsOf w ⟨d, k⟩ (nth (ctorsOf w ⟨d, k⟩) i)) (by simp) ⟨⟨_, rfl, (LeA.eqi (by first | rfl | (simp; done)))⟩, ⟨⟨_, rfl, (LeA.glg (by first | rfl | (simp; done)))⟩, trivial⟩⟩ ⟨beq_nat_eq (by first | rfl | (simp; done) | (simp; omega) | (first | rfl | (simp; done))), trivial⟩ (fun x => rfl) (fun x hg3 => ?_)
            obtain ⟨pre2, rest2⟩ := x
            dsimp only at hg3 ⊢
            have hal := argsOf_len hw hlt (k := k) (place_of (k := k) (nth_mem (l := ctorsOf w ⟨d, k⟩) (i := i) (by omega)))
            refine CWp.seq ?_
            refine CWp.seq ?_
            refine CWp.region rfl ?_
            refine Walk.move .none rfl rfl ?_
            refine Walk.move .none rfl rfl ?_
            refine Walk.len sl24 .none rfl rfl ?_
            refine Walk.ltI .none rfl rfl rfl ?_
            refine ⟨trivial, ?_⟩
            refine CWp.cond rfl (fun h5 => ?_) (fun h5 => ?_)
            · have h5p := h5; have h5s := h5; try simp only [Bool.not_eq_true', Bool.not_eq_false', Bool.not_not] at h5s
              try simp only [Bool.not_eq_true', Bool.not_eq_false', decide_eq_true_eq, decide_eq_false_iff_not, Bool.not_not, List.length_map, Bool.and_eq_true, Bool.or_eq_false_iff, Val.cs_len, Ty.eta, Int.ofNat_lt, Int.ofNat_le] at h5p
              rcases rest2 with _ | ⟨y, rest2⟩
              · exfalso; simp_all
              refine CWp.skip ?_
              refine CWp.seq ?_
              refine CWp.block ?_
              refine CWp.region rfl ?_
              refine Walk.move .none rfl rfl ?_
              refine Walk.move .none rfl rfl ?_
              refine Walk.move .none rfl rfl ?_
              refine Walk.move .none rfl rfl ?_
              refine Walk.idx sl24 .none rfl rfl rfl rfl (zip_at hg3) rfl ?_
              refine Walk.loadPA ty38 .none rfl rfl rfl rfl ?_
              refine Walk.move .none rfl rfl ?_
              refine Walk.subI .none rfl rfl rfl (by first | (constructor <;> omega) | (constructor <;> simp <;> omega)) ?_
              refine Walk.move .none rfl rfl ?_
              refine Walk.call (cr := []) cal92 (spec_l2All_fn hw n (a := y.data) (k := y.index) (by omega) (by omega) (argsOf_in hw hlt (k := k) (place_of (k := k) (nth_mem (l := ctorsOf w ⟨d, k⟩) (i := i) (by omega))) (t := y) (by rw [← hg3]; simp))) rfl .none rfl rfl (LeL.refl _) trivial rfl rfl rfl ?_
              refine Walk.sliceLit sl155 tz52 rfl (by decide) (ks := [0]) (xs := [_]) rfl rfl (by decide) (by decide) .none rfl rfl rfl rfl ?_
              refine Walk.append sl155 zz52 rfl .none rfl rfl rfl rfl (htokL rfl (by first | rfl | (simp; done) | (simp; omega))) (by simp) (by simp only [List.length_map, List.length_append, List.length_cons, List.length_nil, Val.cs_len] at *; omega) (by simp only [List.length_map, List.length_append, List.length_cons, List.length_nil, Val.cs_len] at *; omega) ?_
              refine Walk.assign .none rfl rfl ?_
              refine ⟨trivial, ?_⟩
              refine CWp.region rfl ?_
              refine Walk.move .none rfl rfl ?_
              refine Walk.addI .none rfl rfl rfl (by first | (constructor <;> omega) | (constructor <;> simp <;> omega)) ?_
              refine Walk.assign .none rfl rfl ?_
              refine ⟨trivial, ?_⟩
              refine ⟨(pre2 ++ [y], rest2), (by have hz := hg3; rw [← hz]; simp), (by simp), Sub.x (by kernel_rfl) (by kernel_rfl) ⟨⟨_, rfl, (LeA.eqi (by first | rfl | (simp; done)))⟩, ⟨⟨_, rfl, (LeA.glg (by first | rfl | (simp; done)))⟩, trivial⟩⟩ (by kernel_rfl) (by kernel_rfl) ⟨beq_nat_eq (by first | rfl | (simp; done) | (simp; omega) | (first | rfl | (simp; done))), trivial⟩⟩
            · have h5p := h5; have h5s := h5; try simp only [Bool.not_eq_true', Bool.not_eq_false', Bool.not_not] at h5s
              try simp only [Bool.not_eq_true', Bool.not_eq_false', decide_eq_true_eq, decide_eq_false_iff_not, Bool.not_not, List.length_map, Bool.and_eq_true, Bool.or_eq_false_iff, Val.cs_len, Ty.eta, Int.ofNat_lt, Int.ofNat_le] at h5p
              have hrest2 : rest2 = [] := by
                rcases rest2 with _ | ⟨a, b⟩
                · rfl
                · exfalso; have hz := congrArg List.length (hg3); simp only [List.length_append, List.length_cons, List.length_map] at hz; omega
              subst hrest2
              refine CWp.exit ?_
              refine CWp.seq ?_
              refine CWp.region rfl ?_
              refine Walk.move .none rfl rfl ?_
              refine Walk.move .none rfl rfl ?_
              refine Walk.call (cr := []) cal122 (spec_l2Lists_fn (ls := pre2.map (allV w 400 n)) (most := 400) (by omega) (by have h9 := congrArg List.length hg3; simp only [List.length_append, List.length_nil, List.length_map] at h9 ⊢; omega) (by intro l hl; obtain ⟨z, _, rfl⟩ := List.mem_map.1 hl; have := allV_len w 400 (by omega) n z; omega)) rfl .none rfl rfl (.cons (.gl _ _) (.cons (.refl _) .nil)) trivial rfl rfl rfl ?_
              refine Walk.assign .none rfl rfl ?_
              refine ⟨trivial, ?_⟩
              refine CWp.seq ?_
              refine CWp.region rfl ?_
              refine Walk.assign .none rfl rfl ?_
              refine ⟨trivial, ?_⟩
              refine CWp.block ?_
              refine CWp.loopX (ι := Nat) hk (fun j => [(17, .d (.i (j : Int))), (9, .gl 1 (((((ctorsOf w ⟨d, k⟩).take i).flatMap (allC w n ⟨d, k⟩) ++ ((tupV 400 (pre2.map (allV w 400 n))).take j).map (Val.mk (nth (ctorsOf w ⟨d, k⟩) i) 0)).take (400 + 1)).map Val.cc))]) [79, 80, 81, 82, 83, 84, 85, 86, 87, 88, 89, 90, 91, 92, 93, 94, 95, 96, 97, 98, 99, 100, 101, 102] (fun j => [(1, some (.tok ((((((ctorsOf w ⟨d, k⟩).take i).flatMap (allC w n ⟨d, k⟩) ++ ((tupV 400 (pre2.map (allV w 400 n))).take j).map (Val.mk (nth (ctorsOf w ⟨d, k⟩) i) 0)).take (400 + 1)).map Val.cc)).length 3))]) (fun j => j ≤ (tupV 400 (pre2.map (allV w 400 n))).length) (fun j => (tupV 400 (pre2.map (allV w 400 n))).length - j) 0 (by simp) ⟨⟨_, rfl, (LeA.eqi (by first | rfl | (simp; done) | (rw [tk_step (by omega) (by omega), List.map_append]; first | rfl | (simp; done))))⟩, ⟨⟨_, rfl, (LeA.glg (by first | rfl | (simp; done) | (rw [tk_step (by omega) (by omega), List.map_append]; first | rfl | (simp; done))))⟩, trivial⟩⟩ ⟨beq_nat_eq (by first | rfl | (simp; done) | (simp; omega) | (first | rfl | (simp; done) | (rw [tk_step (by omega) (by omega), List.map_append]; first | rfl | (simp; done)))), trivial⟩ (fun x => rfl) (fun j hg4 => ?_)
              (try rw [List.append_nil] at hg3); have htl := tupV_len 400 (pre2.map (allV w 400 n))
              refine CWp.seq ?_
              refine CWp.seq ?_
              refine CWp.region rfl ?_
              refine Walk.move .none rfl rfl ?_
              refine Walk.move .none rfl rfl ?_
              refine Walk.len sl155 .none rfl rfl ?_
              refine Walk.ltI .none rfl rfl rfl ?_
              refine Walk.move .none rfl rfl ?_
              refine Walk.split (e := 83) rfl (fun h6 => ?_) (fun h6 => ?_)
              · have h6p := h6; have h6s := h6; try simp only [Bool.not_eq_true', Bool.not_eq_false', Bool.not_not] at h6s
                try simp only [Bool.not_eq_true', Bool.not_eq_false', decide_eq_true_eq, decide_eq_false_iff_not, Bool.not_not, List.length_map, Bool.and_eq_true, Bool.or_eq_false_iff, Val.cs_len, Ty.eta, Int.ofNat_lt, Int.ofNat_le] at h6p
                refine Walk.move (.some rfl rfl h6) rfl rfl ?_
                refine Walk.lenG sl52 (.some rfl rfl h6) rfl rfl ?_
                refine Walk.move (.some rfl rfl h6) rfl rfl ?_
                refine Walk.leI (.some rfl rfl h6) rfl rfl rfl ?_
                refine Walk.pickT .none rfl rfl h6 rfl ?_
                refine ⟨trivial, ?_⟩
                refine CWp.cond rfl (fun h7 => ?_) (fun h7 => ?_)
                · have h7p := h7; have h7s := h7; try simp only [Bool.not_eq_true', Bool.not_eq_false', Bool.not_not] at h7s
                  try simp only [Bool.not_eq_true', Bool.not_eq_false', decide_eq_true_eq, decide_eq_false_iff_not, Bool.not_not, List.length_map, Bool.and_eq_true, Bool.or_eq_false_iff, Val.cs_len, Ty.eta, Int.ofNat_lt, Int.ofNat_le] at h7p
                  refine CWp.skip ?_
                  refine CWp.seq ?_
                  refine CWp.block ?_
                  refine CWp.drawn mixed rfl ?_
                  refine Walk.move .none rfl rfl ?_
                  refine Walk.move .none rfl rfl ?_
                  refine Walk.move .none rfl rfl ?_
                  refine Walk.idx sl126 .none rfl rfl rfl rfl (at_nth (by omega)) rfl ?_
                  refine Walk.loadP ty3 .none rfl rfl rfl ?_
                  refine Walk.move .none rfl rfl ?_
                  refine Walk.move .none rfl rfl ?_
                  refine Walk.idx sl155 .none rfl rfl rfl rfl (at_nth (by omega)) rfl ?_
                  refine Walk.loadP ty52 .none rfl rfl rfl ?_
                  refine Walk.build st54 (ks := [0, 2]) (xs := [_, _]) rfl rfl .none rfl rfl rfl ?_
                  refine Walk.sliceLit sl52 tz54 rfl (by decide) (ks := [0]) (xs := [_]) rfl rfl (by decide) (by decide) .none rfl rfl rfl rfl ?_
                  refine Walk.append sl52 zz54 rfl .none rfl rfl rfl rfl (htokL rfl (by first | rfl | (simp; done) | (simp; omega))) (by simp) (by simp only [List.length_map, List.length_append, List.length_cons, List.length_nil, Val.cs_len] at *; omega) (by simp only [List.length_map, List.length_append, List.length_cons, List.length_nil, Val.cs_len] at *; omega) ?_
                  refine Walk.assign .none rfl rfl ?_
                  refine ⟨by show _ = _; kernel_rfl, ?_⟩
                  refine CWp.region rfl ?_
                  refine Walk.move .none rfl rfl ?_
                  refine Walk.addI .none rfl rfl rfl (by first | (constructor <;> omega) | (constructor <;> simp <;> omega)) ?_
                  refine Walk.assign .none rfl rfl ?_
                  refine ⟨trivial, ?_⟩
                  refine ⟨j + 1, ?_, ?_, Sub.x (by kernel_rfl) (by kernel_rfl) ⟨⟨_, rfl, (LeA.eqi (by first | rfl | (simp; done) | (rw [tk_step (by omega) (by omega), List.map_append]; first | rfl | (simp; done))))⟩, ⟨⟨_, rfl, (LeA.glg (by first | rfl | (simp; done) | (rw [tk_step (by omega) (by omega), List.map_append]; first | rfl | (simp; done))))⟩, trivial⟩⟩ (by kernel_rfl) (by kernel_rfl) ⟨beq_nat_eq (by first | rfl | (simp; done) | (simp; omega) | (first | rfl | (simp; done) | (rw [tk_step (by omega) (by omega), List.map_append]; first | rfl | (simp; done)))), trivial⟩⟩
                  all_goals first | omega | (simp_all; done) | (simp_all; omega)
                · have h7p := h7; have h7s := h7; try simp only [Bool.not_eq_true', Bool.not_eq_false', Bool.not_not] at h7s
                  try simp only [Bool.not_eq_true', Bool.not_eq_false', decide_eq_true_eq, decide_eq_false_iff_not, Bool.not_not, List.length_map, Bool.and_eq_true, Bool.or_eq_false_iff, Val.cs_len, Ty.eta, Int.ofNat_lt, Int.ofNat_le] at h7p
                  refine CWp.exit ?_
                  refine CWp.region rfl ?_
                  refine Walk.move .none rfl rfl ?_
                  refine Walk.addI .none rfl rfl rfl (by first | (constructor <;> omega) | (constructor <;> simp <;> omega)) ?_
                  refine Walk.assign .none rfl rfl ?_
                  refine ⟨trivial, ?_⟩
                  refine ⟨i + 1, ?_, ?_, Sub.x (by kernel_rfl) (by kernel_rfl) ⟨⟨_, rfl, (LeA.eqi (by first | rfl | (simp; done) | (subst hg3; rw [fm_step (by omega), cA_exit (by omega)])))⟩, ⟨⟨_, rfl, (LeA.glg (by first | rfl | (simp; done) | (subst hg3; rw [fm_step (by omega), cA_exit (by omega)])))⟩, trivial⟩⟩ (by kernel_rfl) (by kernel_rfl) ⟨beq_nat_eq (by first | rfl | (simp; done) | (simp; omega) | (first | rfl | (simp; done) | (subst hg3; rw [fm_step (by omega), cA_exit (by omega)]))), trivial⟩⟩
                  all_goals first | omega | (simp_all; done) | (simp_all; omega)
              · have h6p := h6; have h6s := h6; try simp only [Bool.not_eq_true', Bool.not_eq_false', Bool.not_not] at h6s
                try simp only [Bool.not_eq_true', Bool.not_eq_false', decide_eq_true_eq, decide_eq_false_iff_not, Bool.not_not, List.length_map, Bool.and_eq_true, Bool.or_eq_false_iff, Val.cs_len, Ty.eta, Int.ofNat_lt, Int.ofNat_le] at h6p
                refine Walk.pass rfl rfl rfl h6 rfl rfl ?_
                refine Walk.pass rfl rfl rfl h6 rfl rfl ?_
                refine Walk.pass rfl rfl rfl h6 rfl rfl ?_
                refine Walk.pass rfl rfl rfl h6 rfl rfl ?_
                refine Walk.pickF .none rfl rfl h6 rfl ?_
                refine ⟨trivial, ?_⟩
                refine CWp.cond rfl (fun h8 => ?_) (fun h8 => ?_)
                · exact absurd h8 (by simp)
                · have h8p := h8; have h8s := h8; try simp only [Bool.not_eq_true', Bool.not_eq_false', Bool.not_not] at h8s
                  try simp only [Bool.not_eq_true', Bool.not_eq_false', decide_eq_true_eq, decide_eq_false_iff_not, Bool.not_not, List.length_map, Bool.and_eq_true, Bool.or_eq_false_iff, Val.cs_len, Ty.eta, Int.ofNat_lt, Int.ofNat_le] at h8p
                  refine CWp.exit ?_
                  refine CWp.region rfl ?_
                  refine Walk.move .none rfl rfl ?_
                  refine Walk.addI .none rfl rfl rfl (by first | (constructor <;> omega) | (constructor <;> simp <;> omega)) ?_
                  refine Walk.assign .none rfl rfl ?_
                  refine ⟨trivial, ?_⟩
                  refine ⟨i + 1, ?_, ?_, Sub.x (by kernel_rfl) (by kernel_rfl) ⟨⟨_, rfl, (LeA.eqi (by first | rfl | (simp; done) | (subst hg3; rw [fm_step (by omega), cA_exit (by omega)])))⟩, ⟨⟨_, rfl, (LeA.glg (by first | rfl | (simp; done) | (subst hg3; rw [fm_step (by omega), cA_exit (by omega)])))⟩, trivial⟩⟩ (by kernel_rfl) (by kernel_rfl) ⟨beq_nat_eq (by first | rfl | (simp; done) | (simp; omega) | (first | rfl | (simp; done) | (subst hg3; rw [fm_step (by omega), cA_exit (by omega)]))), trivial⟩⟩
                  all_goals first | omega | (simp_all; done) | (simp_all; omega)
          · have h4p := h4; have h4s := h4; try simp only [Bool.not_eq_true', Bool.not_eq_false', Bool.not_not] at h4s
            try simp only [Bool.not_eq_true', Bool.not_eq_false', decide_eq_true_eq, decide_eq_false_iff_not, Bool.not_not, List.length_map, Bool.and_eq_true, Bool.or_eq_false_iff, Val.cs_len, Ty.eta, Int.ofNat_lt, Int.ofNat_le] at h4p
            refine CWp.exit ?_
            refine CWp.seq ?_
            refine CWp.region rfl ?_
            refine Walk.move .none rfl rfl ?_
            refine Walk.assign .none rfl rfl ?_
            refine ⟨trivial, ?_⟩
            refine CWp.ret ?_
            refine ⟨_, _, [], (.cons (.tmp rfl) .nil), (.gld ?_), ⟨rfl, rfl⟩, HSub.nil, noBox⟩
            all_goals (rw [allV_ctors hne, Val.cs_cc, fm_exit (by omega)])
        · have h3p := h3; have h3s := h3; try simp only [Bool.not_eq_true', Bool.not_eq_false', Bool.not_not] at h3s
          try simp only [Bool.not_eq_true', Bool.not_eq_false', decide_eq_true_eq, decide_eq_false_iff_not, Bool.not_not, List.length_map, Bool.and_eq_true, Bool.or_eq_false_iff, Val.cs_len, Ty.eta, Int.ofNat_lt, Int.ofNat_le] at h3p
          refine Walk.pass rfl rfl rfl h3 rfl rfl ?_
          refine Walk.pass rfl rfl rfl h3 rfl rfl ?_
          refine Walk.pass rfl rfl rfl h3 rfl rfl ?_
          refine Walk.pass rfl rfl rfl h3 rfl rfl ?_
          refine Walk.pickF .none rfl rfl h3 rfl ?_
          refine ⟨trivial, ?_⟩
          refine CWp.cond rfl (fun h9 => ?_) (fun h9 => ?_)
          · exact absurd h9 (by simp)
          · have h9p := h9; have h9s := h9; try simp only [Bool.not_eq_true', Bool.not_eq_false', Bool.not_not] at h9s
            try simp only [Bool.not_eq_true', Bool.not_eq_false', decide_eq_true_eq, decide_eq_false_iff_not, Bool.not_not, List.length_map, Bool.and_eq_true, Bool.or_eq_false_iff, Val.cs_len, Ty.eta, Int.ofNat_lt, Int.ofNat_le] at h9p
            refine CWp.exit ?_
            refine CWp.seq ?_
            refine CWp.region rfl ?_
            refine Walk.move .none rfl rfl ?_
            refine Walk.assign .none rfl rfl ?_
            refine ⟨trivial, ?_⟩
            refine CWp.ret ?_
            refine ⟨_, _, [], (.cons (.tmp rfl) .nil), (.gld ?_), ⟨rfl, rfl⟩, HSub.nil, noBox⟩
            all_goals (rw [allV_ctors hne, Val.cs_cc, fm_exit (by omega)])

theorem spec_l2All_gv {w : List Data} (hw : WT w) : ∀ (n : Nat) {a k m : Int}, m = n → n ≤ 1000 → TyIn w.length ⟨a, k⟩ →
    FnD Try.prog 92 [.d (encDatas w), .agg [.d (.i a), .d (.i k)], .d (.i m), .d (.i 400)] [] (.gv 9 ((allV w 400 n ⟨a, k⟩).map Val.cc)) [(9, some (.tok ((allV w 400 n ⟨a, k⟩).map Val.cc).length 3))]
  | 0, a, k, m, hm, _, _ => by
    refine Fn.body (fn := Try.f92) (n := 104) rfl rfl rfl rfl rfl (fun w0 F0 own kept hk => ?_)
    refine CWp.seq ?_
    refine CWp.region rfl ?_
    refine Walk.box (id := 3005) .none rfl rfl rfl rfl rfl rfl rfl ?_
    refine Walk.assign .none rfl rfl ?_
    refine ⟨trivial, ?_⟩
    refine CWp.seq ?_
    refine CWp.region rfl ?_
    refine Walk.sliceEmptyGV 9 sl52 .none rfl rfl ?_
    refine Walk.assign .none rfl rfl ?_
    refine ⟨trivial, ?_⟩
    refine CWp.seq ?_
    refine CWp.seq ?_
    refine CWp.region rfl ?_
    refine Walk.move .none rfl rfl ?_
    refine Walk.ltI .none rfl rfl rfl ?_
    refine ⟨trivial, ?_⟩
    refine CWp.cond rfl (fun h1 => ?_) (fun h1 => ?_)
    · have h1p := h1; have h1s := h1; try simp only [Bool.not_eq_true', Bool.not_eq_false', Bool.not_not] at h1s
      try simp only [Bool.not_eq_true', Bool.not_eq_false', decide_eq_true_eq, decide_eq_false_iff_not, Bool.not_not, List.length_map, Bool.and_eq_true, Bool.or_eq_false_iff] at h1p
      refine CWp.seq ?_
      refine CWp.region rfl ?_
      refine Walk.move .none rfl rfl ?_
      refine Walk.assign .none rfl rfl ?_
      refine ⟨trivial, ?_⟩
      refine CWp.ret ?_
      refine ⟨_, _, [(9, some (.tok ((allV w 400 0 ⟨a, k⟩).map Val.cc).length 3))], (.cons (.tmp rfl) .nil), (.gvg ?_), ⟨rfl, rfl⟩, (SubH.get ⟨(by first | rfl | (show some (Res.tok _ _) = some (Res.tok _ _); congr 1; rfl)), trivial⟩), (boxOK rfl)⟩
      all_goals (rfl)
    · have h1p := h1; have h1s := h1; try simp only [Bool.not_eq_true', Bool.not_eq_false', Bool.not_not] at h1s
      try simp only [Bool.not_eq_true', Bool.not_eq_false', decide_eq_true_eq, decide_eq_false_iff_not, Bool.not_not, List.length_map, Bool.and_eq_true, Bool.or_eq_false_iff] at h1p
      exfalso; simp at h1; omega --stop
  | n + 1, a, k, m, hm, hn, ht => by
    rcases ht with ha | ⟨d, hd, hlt⟩
    · have ha' : a = -1 := ha
      subst ha'
      refine Fn.body (fn := Try.f92) (n := 104) rfl rfl rfl rfl rfl (fun w0 F0 own kept hk => ?_)
      refine CWp.seq ?_
      refine CWp.region rfl ?_
      refine Walk.box (id := 3005) .none rfl rfl rfl rfl rfl rfl rfl ?_
      refine Walk.assign .none rfl rfl ?_
      refine ⟨trivial, ?_⟩
      refine CWp.seq ?_
      refine CWp.region rfl ?_
      refine Walk.sliceEmptyGV 9 sl52 .none rfl rfl ?_
      refine Walk.assign .none rfl rfl ?_
      refine ⟨trivial, ?_⟩
      refine CWp.seq ?_
      refine CWp.seq ?_
      refine CWp.region rfl ?_
      refine Walk.move .none rfl rfl ?_
      refine Walk.ltI .none rfl rfl rfl ?_
      refine ⟨trivial, ?_⟩
      refine CWp.cond rfl (fun h1 => ?_) (fun h1 => ?_)
      · have h1p := h1; have h1s := h1; try simp only [Bool.not_eq_true', Bool.not_eq_false', Bool.not_not] at h1s
        try simp only [Bool.not_eq_true', Bool.not_eq_false', decide_eq_true_eq, decide_eq_false_iff_not, Bool.not_not, List.length_map, Bool.and_eq_true, Bool.or_eq_false_iff] at h1p
        exfalso; simp at h1; omega --stop
      · have h1p := h1; have h1s := h1; try simp only [Bool.not_eq_true', Bool.not_eq_false', Bool.not_not] at h1s
        try simp only [Bool.not_eq_true', Bool.not_eq_false', decide_eq_true_eq, decide_eq_false_iff_not, Bool.not_not, List.length_map, Bool.and_eq_true, Bool.or_eq_false_iff] at h1p
        refine CWp.skip ?_
        refine CWp.seq ?_
        refine CWp.seq ?_
        refine CWp.region rfl ?_
        refine Walk.fieldB fd38_0 .none rfl rfl ?_
        refine Walk.loadB ty3 .none rfl rfl rfl rfl ?_
        refine Walk.eqI .none rfl rfl rfl ?_
        refine ⟨trivial, ?_⟩
        refine CWp.cond rfl (fun h2 => ?_) (fun h2 => ?_)
        · have h2p := h2; have h2s := h2; try simp only [Bool.not_eq_true', Bool.not_eq_false', Bool.not_not] at h2s
          try simp only [Bool.not_eq_true', Bool.not_eq_false', decide_eq_true_eq, decide_eq_false_iff_not, Bool.not_not, List.length_map, Bool.and_eq_true, Bool.or_eq_false_iff] at h2p
          refine CWp.seq ?_
          refine CWp.seq ?_
          refine CWp.region rfl ?_
          refine Walk.assign .none rfl rfl ?_
          refine ⟨trivial, ?_⟩
          refine CWp.block ?_
          refine CWp.loopX (ι := Nat) hk (fun i => [(10, .d (.i (i : Int))), (9, .gv 9 (((List.range i).map fun (n : Nat) => Val.mk (-1) n []).map Val.cc))]) [25, 26, 27, 28, 29, 30, 31, 32, 33] (fun i => [(9, some (.tok ((((List.range i).map fun (n : Nat) => Val.mk (-1) n []).map Val.cc)).length 3))]) (fun i => i ≤ 10) (fun i => 10 - i) 0 (by simp) ⟨⟨_, rfl, (LeA.eqi (by first | rfl | (simp [List.range_succ, Val.ctor, Val.num, Val.kids]; done) | (simp [List.range_succ, Val.ctor, Val.num, Val.kids, Val.cs]; done)))⟩, ⟨⟨_, rfl, (LeA.gvg (by first | rfl | (simp [List.range_succ, Val.ctor, Val.num, Val.kids]; done) | (simp [List.range_succ, Val.ctor, Val.num, Val.kids, Val.cs]; done)))⟩, trivial⟩⟩ ⟨beq_nat_eq (by first | rfl | (simp; done) | (simp; omega) | (first | rfl | (simp [List.range_succ, Val.ctor, Val.num, Val.kids]; done) | (simp [List.range_succ, Val.ctor, Val.num, Val.kids, Val.cs]; done))), trivial⟩ (fun x => rfl) (fun i hg1 => ?_)
          refine CWp.seq ?_
          refine CWp.seq ?_
          refine CWp.region rfl ?_
          refine Walk.move .none rfl rfl ?_
          refine Walk.leI .none rfl rfl rfl ?_
          refine ⟨trivial, ?_⟩
          refine CWp.cond rfl (fun h3 => ?_) (fun h3 => ?_)
          · have h3p := h3; have h3s := h3; try simp only [Bool.not_eq_true', Bool.not_eq_false', Bool.not_not] at h3s
            try simp only [Bool.not_eq_true', Bool.not_eq_false', decide_eq_true_eq, decide_eq_false_iff_not, Bool.not_not, List.length_map, Bool.and_eq_true, Bool.or_eq_false_iff] at h3p
            refine CWp.skip ?_
            refine CWp.seq ?_
            refine CWp.block ?_
            refine CWp.region rfl ?_
            refine Walk.move .none rfl rfl ?_
            refine Walk.move .none rfl rfl ?_
            refine Walk.build st54 (ks := [0, 1]) (xs := [_, _]) rfl rfl .none rfl rfl rfl ?_
            refine Walk.sliceLit sl52 tz54 rfl (by decide) (ks := [0]) (xs := [_]) rfl rfl (by decide) (by decide) .none rfl rfl rfl rfl ?_
            refine Walk.appendV sl52 zz54 .none rfl rfl rfl rfl (htokL rfl (by first | rfl | (simp; done) | (simp; omega))) (by simp) (by simp; omega) (by simp; omega) ?_
            refine Walk.assign .none rfl rfl ?_
            refine ⟨trivial, ?_⟩
            refine CWp.region rfl ?_
            refine Walk.move .none rfl rfl ?_
            refine Walk.addI .none rfl rfl rfl (by first | (constructor <;> omega) | (constructor <;> simp <;> omega)) ?_
            refine Walk.assign .none rfl rfl ?_
            refine ⟨trivial, ?_⟩
            refine ⟨i + 1, ?_, ?_, Sub.x (by kernel_rfl) (by kernel_rfl) ⟨⟨_, rfl, (LeA.eqi (by first | rfl | (simp [List.range_succ, Val.ctor, Val.num, Val.kids]; done) | (simp [List.range_succ, Val.ctor, Val.num, Val.kids, Val.cs]; done)))⟩, ⟨⟨_, rfl, (LeA.gvg (by first | rfl | (simp [List.range_succ, Val.ctor, Val.num, Val.kids]; done) | (simp [List.range_succ, Val.ctor, Val.num, Val.kids, Val.cs]; done)))⟩, trivial⟩⟩ (by kernel_rfl) (by kernel_rfl) ⟨beq_nat_eq (by first | rfl | (simp; done) | (simp; omega) | (first | rfl | (simp [List.range_succ, Val.ctor, Val.num, Val.kids]; done) | (simp [List.range_succ, Val.ctor, Val.num, Val.kids, Val.cs]; done))), trivial⟩⟩
            all_goals first | omega | (simp_all; done) | (simp_all; omega)
          · have h3p := h3; have h3s := h3; try simp only [Bool.not_eq_true', Bool.not_eq_false', Bool.not_not] at h3s
            try simp only [Bool.not_eq_true', Bool.not_eq_false', decide_eq_true_eq, decide_eq_false_iff_not, Bool.not_not, List.length_map, Bool.and_eq_true, Bool.or_eq_false_iff] at h3p
            refine CWp.exit ?_
            refine CWp.seq ?_
            refine CWp.region rfl ?_
            refine Walk.move .none rfl rfl ?_
            refine Walk.assign .none rfl rfl ?_
            refine ⟨trivial, ?_⟩
            refine CWp.ret ?_
            refine ⟨_, _, [(9, some (.tok ((allV w 400 (n + 1) ⟨(-1), k⟩).map Val.cc).length 3))], (.cons (.tmp rfl) .nil), (.gvg ?_), ⟨rfl, rfl⟩, (SubH.get ⟨(by first | rfl | (show some (Res.tok _ _) = some (Res.tok _ _); congr 1; (obtain rfl : i = 10 := by omega); (first | (rw [allV, if_pos rfl]; rfl) | (rw [allV, if_pos rfl]; simp [digits]; done)))), trivial⟩), (boxOK rfl)⟩
            all_goals (have e : i = 10 := (by omega); subst e; (first | (rw [allV, if_pos rfl]; rfl) | (rw [allV, if_pos rfl]; simp [digits]; done)))
        · have h2p := h2; have h2s := h2; try simp only [Bool.not_eq_true', Bool.not_eq_false', Bool.not_not] at h2s
          try simp only [Bool.not_eq_true', Bool.not_eq_false', decide_eq_true_eq, decide_eq_false_iff_not, Bool.not_not, List.length_map, Bool.and_eq_true, Bool.or_eq_false_iff] at h2p
          exact absurd h2 (by simp) --stop
    have hd' : a = (d : Int) := hd
    subst hd'
    have hne : (⟨d, k⟩ : Ty).data ≠ -1 := by show (d : Int) ≠ -1; omega
    have hcl := ctorsOf_len hw (d := d) (k := k)
    refine Fn.body (fn := Try.f92) (n := 104) rfl rfl rfl rfl rfl (fun w0 F0 own kept hk => ?_)
    refine CWp.seq ?_
    refine CWp.region rfl ?_
    refine Walk.box (id := 3005) .none rfl rfl rfl rfl rfl rfl rfl ?_
    refine Walk.assign .none rfl rfl ?_
    refine ⟨trivial, ?_⟩
    refine CWp.seq ?_
    refine CWp.region rfl ?_
    refine Walk.sliceEmptyGV 9 sl52 .none rfl rfl ?_
    refine Walk.assign .none rfl rfl ?_
    refine ⟨trivial, ?_⟩
    refine CWp.seq ?_
    refine CWp.seq ?_
    refine CWp.region rfl ?_
    refine Walk.move .none rfl rfl ?_
    refine Walk.ltI .none rfl rfl rfl ?_
    refine ⟨trivial, ?_⟩
    refine CWp.cond rfl (fun h1 => ?_) (fun h1 => ?_)
    · have h1p := h1; have h1s := h1; try simp only [Bool.not_eq_true', Bool.not_eq_false', Bool.not_not] at h1s
      try simp only [Bool.not_eq_true', Bool.not_eq_false', decide_eq_true_eq, decide_eq_false_iff_not, Bool.not_not, List.length_map, Bool.and_eq_true, Bool.or_eq_false_iff, Val.cs_len, Ty.eta, Int.ofNat_lt, Int.ofNat_le] at h1p
      exfalso; simp at h1; omega --stop
    · have h1p := h1; have h1s := h1; try simp only [Bool.not_eq_true', Bool.not_eq_false', Bool.not_not] at h1s
      try simp only [Bool.not_eq_true', Bool.not_eq_false', decide_eq_true_eq, decide_eq_false_iff_not, Bool.not_not, List.length_map, Bool.and_eq_true, Bool.or_eq_false_iff, Val.cs_len, Ty.eta, Int.ofNat_lt, Int.ofNat_le] at h1p
      refine CWp.skip ?_
      refine CWp.seq ?_
      refine CWp.seq ?_
      refine CWp.region rfl ?_
      refine Walk.fieldB fd38_0 .none rfl rfl ?_
      refine Walk.loadB ty3 .none rfl rfl rfl rfl ?_
      refine Walk.eqI .none rfl rfl rfl ?_
      refine ⟨trivial, ?_⟩
      refine CWp.cond rfl (fun h2 => ?_) (fun h2 => ?_)
      · have h2p := h2; have h2s := h2; try simp only [Bool.not_eq_true', Bool.not_eq_false', Bool.not_not] at h2s
        try simp only [Bool.not_eq_true', Bool.not_eq_false', decide_eq_true_eq, decide_eq_false_iff_not, Bool.not_not, List.length_map, Bool.and_eq_true, Bool.or_eq_false_iff, Val.cs_len, Ty.eta, Int.ofNat_lt, Int.ofNat_le] at h2p
        exfalso; simp at h2 <;> omega --stop
      · have h2p := h2; have h2s := h2; try simp only [Bool.not_eq_true', Bool.not_eq_false', Bool.not_not] at h2s
        try simp only [Bool.not_eq_true', Bool.not_eq_false', decide_eq_true_eq, decide_eq_false_iff_not, Bool.not_not, List.length_map, Bool.and_eq_true, Bool.or_eq_false_iff, Val.cs_len, Ty.eta, Int.ofNat_lt, Int.ofNat_le] at h2p
        refine CWp.skip ?_
        refine CWp.seq ?_
        refine CWp.region rfl ?_
        refine Walk.move .none rfl rfl ?_
        refine Walk.loadBA ty38 .none rfl rfl rfl rfl ?_
        refine Walk.call (cr := []) cal120 (spec_l1Ctors_in hw hlt) rfl .none rfl rfl (LeL.refl _) trivial rfl rfl rfl ?_
        refine Walk.assign .none rfl rfl ?_
        refine ⟨trivial, ?_⟩
        refine CWp.seq ?_
        refine CWp.seq ?_
        refine CWp.region rfl ?_
        refine Walk.assign .none rfl rfl ?_
        refine ⟨trivial, ?_⟩
        refine CWp.block ?_
        refine CWp.loopX (ι := Nat) hk (fun i => [(12, .d (.i (i : Int))), (9, .gv 9 (((((ctorsOf w ⟨d, k⟩).take i).flatMap (allC w n ⟨d, k⟩)).take (400 + 1)).map Val.cc))]) [13, 14, 15, 16, 17, 38, 39, 40, 41, 42, 43, 44, 45, 46, 47, 48, 49, 50, 51, 52, 53, 54, 55, 56, 57, 58, 59, 60, 61, 62, 63, 64, 65, 66, 67, 68, 69, 70, 71, 72, 73, 74, 75, 76, 77, 78, 79, 80, 81, 82, 83, 84, 85, 86, 87, 88, 89, 90, 91, 92, 93, 94, 95, 96, 97, 98, 99, 100, 101, 102] (fun i => [(9, some (.tok ((((((ctorsOf w ⟨d, k⟩).take i).flatMap (allC w n ⟨d, k⟩)).take (400 + 1)).map Val.cc)).length 3))]) (fun i => i ≤ (ctorsOf w ⟨d, k⟩).length) (fun i => (ctorsOf w ⟨d, k⟩).length - i) 0 (by simp) ⟨⟨_, rfl, (LeA.eqi (by first | rfl | (simp; done) | (subst hg3; rw [fm_step (by omega), cA_exit (by omega)])))⟩, ⟨⟨_, rfl, (LeA.gvg (by first | rfl | (simp; done) | (subst hg3; rw [fm_step (by omega), cA_exit (by omega)])))⟩, trivial⟩⟩ ⟨beq_nat_eq (by first | rfl | (simp; done) | (simp; omega) | (first | rfl | (simp; done) | (subst hg3; rw [fm_step (by omega), cA_exit (by omega)]))), trivial⟩ (fun x => rfl) (fun i hg2 => ?_)
        refine CWp.seq ?_
        refine CWp.seq ?_
        refine CWp.region rfl ?_
        refine Walk.move .none rfl rfl ?_
        refine Walk.move .none rfl rfl ?_
        refine Walk.len sl126 .none rfl rfl ?_
        refine Walk.ltI .none rfl rfl rfl ?_
        refine Walk.move .none rfl rfl ?_
        refine Walk.split (e := 42) rfl (fun h3 => ?_) (fun h3 => ?_)
        · have h3p := h3; have h3s := h3; try simp only [Bool.not_eq_true', Bool.not_eq_false', Bool.not_not] at h3s
          try simp only [Bool.not_eq_true', Bool.not_eq_false', decide_eq_true_eq, decide_eq_false_iff_not, Bool.not_not, List.length_map, Bool.and_eq_true, Bool.or_eq_false_iff, Val.cs_len, Ty.eta, Int.ofNat_lt, Int.ofNat_le] at h3p
          refine Walk.move (.some rfl rfl h3) rfl rfl ?_
          refine Walk.lenV sl52 (.some rfl rfl h3) rfl rfl ?_
          refine Walk.move (.some rfl rfl h3) rfl rfl ?_
          refine Walk.leI (.some rfl rfl h3) rfl rfl rfl ?_
          refine Walk.pickT .none rfl rfl h3 rfl ?_
          refine ⟨trivial, ?_⟩
          refine CWp.cond rfl (fun h4 => ?_) (fun h4 => ?_)
          · have h4p := h4; have h4s := h4; try simp only [Bool.not_eq_true', Bool.not_eq_false', Bool.not_not] at h4s
            try simp only [Bool.not_eq_true', Bool.not_eq_false', decide_eq_true_eq, decide_eq_false_iff_not, Bool.not_not, List.length_map, Bool.and_eq_true, Bool.or_eq_false_iff, Val.cs_len, Ty.eta, Int.ofNat_lt, Int.ofNat_le] at h4p
            refine CWp.skip ?_
            refine CWp.seq ?_
            refine CWp.block ?_
            refine CWp.seq ?_
            refine CWp.drawn mixed rfl ?_
            refine Walk.move .none rfl rfl ?_
            refine Walk.loadBA ty38 .none rfl rfl rfl rfl ?_
            refine Walk.move .none rfl rfl ?_
            refine Walk.move .none rfl rfl ?_
            refine Walk.idx sl126 .none rfl rfl rfl rfl (at_nth (by omega)) rfl ?_
            refine Walk.loadP ty3 .none rfl rfl rfl ?_
            refine Walk.call (cr := []) cal121 (spec_l1Args_in hw hlt (place_of (k := k) (nth_mem (l := ctorsOf w ⟨d, k⟩) (i := i) (by omega)))) rfl .none rfl rfl (LeL.refl _) trivial rfl rfl rfl ?_
            refine Walk.assign .none rfl rfl ?_
            refine ⟨by show _ = _; kernel_rfl, ?_⟩
            refine CWp.seq ?_
            refine CWp.region rfl ?_
            refine Walk.sliceEmptyG 2 sl155 .none rfl rfl ?_
            refine Walk.assign .none rfl rfl ?_
            refine ⟨trivial, ?_⟩
            refine CWp.seq ?_
            refine CWp.seq ?_
            refine CWp.region rfl ?_
            refine Walk.assign .none rfl rfl ?_
            refine ⟨trivial, ?_⟩
            refine CWp.block ?_
            refine CWp.loopX (ι := List (Ty) × List (Ty)) hk (fun x => [(15, .d (.i (x.1.length : Int))), (14, .gl 2 ((x.1.map (allV w 400 n)).map enc1))]) [58, 59, 60, 61, 62, 63, 64, 65, 66, 67, 68, 69, 70, 71, 72, 73, 74, 75] (fun x => [(2, some (.tok (((x.1.map (allV w 400 n)).map enc1)).length 1))]) (fun x => x.1 ++ x.2 = argsOf w ⟨d, k⟩ (nth (ctorsOf w ⟨d, k⟩) i)) (fun x => x.2.length) ([], argsOf w ⟨d, k⟩ (nth (ctorsOf w ⟨d, k⟩) i)) (by simp) ⟨⟨_, rfl, (LeA.eqi (by first | rfl | (simp; done)))⟩, ⟨⟨_, rfl, (LeA.glg (by first | rfl | (simp; done)))⟩, trivial⟩⟩ ⟨beq_nat_eq (by first | rfl | (simp; done) | (simp; omega) | (first | rfl | (simp; done))), trivial⟩ (fun x => rfl) (fun x hg3 => ?_)
            obtain ⟨pre2, rest2⟩ := x
            dsimp only at hg3 ⊢
            have hal := argsOf_len hw hlt (k := k) (place_of (k := k) (nth_mem (l := ctorsOf w ⟨d, k⟩) (i := i) (by omega)))
            refine CWp.seq ?_
            refine CWp.seq ?_
            refine CWp.region rfl ?_
            refine Walk.move .none rfl rfl ?_
            refine Walk.move .none rfl rfl ?_
            refine Walk.len sl24 .none rfl rfl ?_
            refine Walk.ltI .none rfl rfl rfl ?_
            refine ⟨trivial, ?_⟩
            refine CWp.cond rfl (fun h5 => ?_) (fun h5 => ?_)
            · have h5p := h5; have h5s := h5; try simp only [Bool.not_eq_true', Bool.not_eq_false', Bool.not_not] at h5s
              try simp only [Bool.not_eq_true', Bool.not_eq_false', decide_eq_true_eq, decide_eq_false_iff_not, Bool.not_not, List.length_map, Bool.and_eq_true, Bool.or_eq_false_iff, Val.cs_len, Ty.eta, Int.ofNat_lt, Int.ofNat_le] at h5p
              rcases rest2 with _ | ⟨y, rest2⟩
              · exfalso; simp_all
              refine CWp.skip ?_
              refine CWp.seq ?_
              refine CWp.block ?_
              refine CWp.region rfl ?_
              refine Walk.move .none rfl rfl ?_
              refine Walk.move .none rfl rfl ?_
              refine Walk.move .none rfl rfl ?_
              refine Walk.move .none rfl rfl ?_
              refine Walk.idx sl24 .none rfl rfl rfl rfl (zip_at hg3) rfl ?_
              refine Walk.loadPA ty38 .none rfl rfl rfl rfl ?_
              refine Walk.move .none rfl rfl ?_
              refine Walk.subI .none rfl rfl rfl (by first | (constructor <;> omega) | (constructor <;> simp <;> omega)) ?_
              refine Walk.move .none rfl rfl ?_
              refine Walk.call (cr := []) cal92 (spec_l2All_fn hw n (a := y.data) (k := y.index) (by omega) (by omega) (argsOf_in hw hlt (k := k) (place_of (k := k) (nth_mem (l := ctorsOf w ⟨d, k⟩) (i := i) (by omega))) (t := y) (by rw [← hg3]; simp))) rfl .none rfl rfl (LeL.refl _) trivial rfl rfl rfl ?_
              refine Walk.sliceLit sl155 tz52 rfl (by decide) (ks := [0]) (xs := [_]) rfl rfl (by decide) (by decide) .none rfl rfl rfl rfl ?_
              refine Walk.append sl155 zz52 rfl .none rfl rfl rfl rfl (htokL rfl (by first | rfl | (simp; done) | (simp; omega))) (by simp) (by simp only [List.length_map, List.length_append, List.length_cons, List.length_nil, Val.cs_len] at *; omega) (by simp only [List.length_map, List.length_append, List.length_cons, List.length_nil, Val.cs_len] at *; omega) ?_
              refine Walk.assign .none rfl rfl ?_
              refine ⟨trivial, ?_⟩
              refine CWp.region rfl ?_
              refine Walk.move .none rfl rfl ?_
              refine Walk.addI .none rfl rfl rfl (by first | (constructor <;> omega) | (constructor <;> simp <;> omega)) ?_
              refine Walk.assign .none rfl rfl ?_
              refine ⟨trivial, ?_⟩
              refine ⟨(pre2 ++ [y], rest2), (by have hz := hg3; rw [← hz]; simp), (by simp), Sub.x (by kernel_rfl) (by kernel_rfl) ⟨⟨_, rfl, (LeA.eqi (by first | rfl | (simp; done)))⟩, ⟨⟨_, rfl, (LeA.glg (by first | rfl | (simp; done)))⟩, trivial⟩⟩ (by kernel_rfl) (by kernel_rfl) ⟨beq_nat_eq (by first | rfl | (simp; done) | (simp; omega) | (first | rfl | (simp; done))), trivial⟩⟩
            · have h5p := h5; have h5s := h5; try simp only [Bool.not_eq_true', Bool.not_eq_false', Bool.not_not] at h5s
              try simp only [Bool.not_eq_true', Bool.not_eq_false', decide_eq_true_eq, decide_eq_false_iff_not, Bool.not_not, List.length_map, Bool.and_eq_true, Bool.or_eq_false_iff, Val.cs_len, Ty.eta, Int.ofNat_lt, Int.ofNat_le] at h5p
              have hrest2 : rest2 = [] := by
                rcases rest2 with _ | ⟨a, b⟩
                · rfl
                · exfalso; have hz := congrArg List.length (hg3); simp only [List.length_append, List.length_cons, List.length_map] at hz; omega
              subst hrest2
              refine CWp.exit ?_
              refine CWp.seq ?_
              refine CWp.region rfl ?_
              refine Walk.move .none rfl rfl ?_
              refine Walk.move .none rfl rfl ?_
              refine Walk.call (cr := []) cal122 (spec_l2Lists_fn (ls := pre2.map (allV w 400 n)) (most := 400) (by omega) (by have h9 := congrArg List.length hg3; simp only [List.length_append, List.length_nil, List.length_map] at h9 ⊢; omega) (by intro l hl; obtain ⟨z, _, rfl⟩ := List.mem_map.1 hl; have := allV_len w 400 (by omega) n z; omega)) rfl .none rfl rfl (.cons (.gl _ _) (.cons (.refl _) .nil)) trivial rfl rfl rfl ?_
              refine Walk.assign .none rfl rfl ?_
              refine ⟨trivial, ?_⟩
              refine CWp.seq ?_
              refine CWp.region rfl ?_
              refine Walk.assign .none rfl rfl ?_
              refine ⟨trivial, ?_⟩
              refine CWp.block ?_
              refine CWp.loopX (ι := Nat) hk (fun j => [(17, .d (.i (j : Int))), (9, .gv 9 (((((ctorsOf w ⟨d, k⟩).take i).flatMap (allC w n ⟨d, k⟩) ++ ((tupV 400 (pre2.map (allV w 400 n))).take j).map (Val.mk (nth (ctorsOf w ⟨d, k⟩) i) 0)).take (400 + 1)).map Val.cc))]) [79, 80, 81, 82, 83, 84, 85, 86, 87, 88, 89, 90, 91, 92, 93, 94, 95, 96, 97, 98, 99, 100, 101, 102] (fun j => [(9, some (.tok ((((((ctorsOf w ⟨d, k⟩).take i).flatMap (allC w n ⟨d, k⟩) ++ ((tupV 400 (pre2.map (allV w 400 n))).take j).map (Val.mk (nth (ctorsOf w ⟨d, k⟩) i) 0)).take (400 + 1)).map Val.cc)).length 3))]) (fun j => j ≤ (tupV 400 (pre2.map (allV w 400 n))).length) (fun j => (tupV 400 (pre2.map (allV w 400 n))).length - j) 0 (by simp) ⟨⟨_, rfl, (LeA.eqi (by first | rfl | (simp; done) | (rw [tk_step (by omega) (by omega), List.map_append]; first | rfl | (simp; done))))⟩, ⟨⟨_, rfl, (LeA.gvg (by first | rfl | (simp; done) | (rw [tk_step (by omega) (by omega), List.map_append]; first | rfl | (simp; done))))⟩, trivial⟩⟩ ⟨beq_nat_eq (by first | rfl | (simp; done) | (simp; omega) | (first | rfl | (simp; done) | (rw [tk_step (by omega) (by omega), List.map_append]; first | rfl | (simp; done)))), trivial⟩ (fun x => rfl) (fun j hg4 => ?_)
              (try rw [List.append_nil] at hg3); have htl := tupV_len 400 (pre2.map (allV w 400 n))
              refine CWp.seq ?_
              refine CWp.seq ?_
              refine CWp.region rfl ?_
              refine Walk.move .none rfl rfl ?_
              refine Walk.move .none rfl rfl ?_
              refine Walk.len sl155 .none rfl rfl ?_
              refine Walk.ltI .none rfl rfl rfl ?_
              refine Walk.move .none rfl rfl ?_
              refine Walk.split (e := 83) rfl (fun h6 => ?_) (fun h6 => ?_)
              · have h6p := h6; have h6s := h6; try simp only [Bool.not_eq_true', Bool.not_eq_false', Bool.not_not] at h6s
                try simp only [Bool.not_eq_true', Bool.not_eq_false', decide_eq_true_eq, decide_eq_false_iff_not, Bool.not_not, List.length_map, Bool.and_eq_true, Bool.or_eq_false_iff, Val.cs_len, Ty.eta, Int.ofNat_lt, Int.ofNat_le] at h6p
                refine Walk.move (.some rfl rfl h6) rfl rfl ?_
                refine Walk.lenV sl52 (.some rfl rfl h6) rfl rfl ?_
                refine Walk.move (.some rfl rfl h6) rfl rfl ?_
                refine Walk.leI (.some rfl rfl h6) rfl rfl rfl ?_
                refine Walk.pickT .none rfl rfl h6 rfl ?_
                refine ⟨trivial, ?_⟩
                refine CWp.cond rfl (fun h7 => ?_) (fun h7 => ?_)
                · have h7p := h7; have h7s := h7; try simp only [Bool.not_eq_true', Bool.not_eq_false', Bool.not_not] at h7s
                  try simp only [Bool.not_eq_true', Bool.not_eq_false', decide_eq_true_eq, decide_eq_false_iff_not, Bool.not_not, List.length_map, Bool.and_eq_true, Bool.or_eq_false_iff, Val.cs_len, Ty.eta, Int.ofNat_lt, Int.ofNat_le] at h7p
                  refine CWp.skip ?_
                  refine CWp.seq ?_
                  refine CWp.block ?_
                  refine CWp.drawn mixed rfl ?_
                  refine Walk.move .none rfl rfl ?_
                  refine Walk.move .none rfl rfl ?_
                  refine Walk.move .none rfl rfl ?_
                  refine Walk.idx sl126 .none rfl rfl rfl rfl (at_nth (by omega)) rfl ?_
                  refine Walk.loadP ty3 .none rfl rfl rfl ?_
                  refine Walk.move .none rfl rfl ?_
                  refine Walk.move .none rfl rfl ?_
                  refine Walk.idx sl155 .none rfl rfl rfl rfl (at_nth (by omega)) rfl ?_
                  refine Walk.loadP ty52 .none rfl rfl rfl ?_
                  refine Walk.build st54 (ks := [0, 2]) (xs := [_, _]) rfl rfl .none rfl rfl rfl ?_
                  refine Walk.sliceLit sl52 tz54 rfl (by decide) (ks := [0]) (xs := [_]) rfl rfl (by decide) (by decide) .none rfl rfl rfl rfl ?_
                  refine Walk.appendV sl52 zz54 .none rfl rfl rfl rfl (htokL rfl (by first | rfl | (simp; done) | (simp; omega))) (by simp) (by simp only [List.length_map, List.length_append, List.length_cons, List.length_nil, Val.cs_len] at *; omega) (by simp only [List.length_map, List.length_append, List.length_cons, List.length_nil, Val.cs_len] at *; omega) ?_
                  refine Walk.assign .none rfl rfl ?_
                  refine ⟨by show _ = _; kernel_rfl, ?_⟩
                  refine CWp.region rfl ?_
                  refine Walk.move .none rfl rfl ?_
                  refine Walk.addI .none rfl rfl rfl (by first | (constructor <;> omega) | (constructor <;> simp <;> omega)) ?_
                  refine Walk.assign .none rfl rfl ?_
                  refine ⟨trivial, ?_⟩
                  refine ⟨j + 1, ?_, ?_, Sub.x (by kernel_rfl) (by kernel_rfl) ⟨⟨_, rfl, (LeA.eqi (by first | rfl | (simp; done) | (rw [tk_step (by omega) (by omega), List.map_append]; first | rfl | (simp; done))))⟩, ⟨⟨_, rfl, (LeA.gvg (by first | rfl | (simp; done) | (rw [tk_step (by omega) (by omega), List.map_append]; first | rfl | (simp; done))))⟩, trivial⟩⟩ (by kernel_rfl) (by kernel_rfl) ⟨beq_nat_eq (by first | rfl | (simp; done) | (simp; omega) | (first | rfl | (simp; done) | (rw [tk_step (by omega) (by omega), List.map_append]; first | rfl | (simp; done)))), trivial⟩⟩
                  all_goals first | omega | (simp_all; done) | (simp_all; omega)
                · have h7p := h7; have h7s := h7; try simp only [Bool.not_eq_true', Bool.not_eq_false', Bool.not_not] at h7s
                  try simp only [Bool.not_eq_true', Bool.not_eq_false', decide_eq_true_eq, decide_eq_false_iff_not, Bool.not_not, List.length_map, Bool.and_eq_true, Bool.or_eq_false_iff, Val.cs_len, Ty.eta, Int.ofNat_lt, Int.ofNat_le] at h7p
                  refine CWp.exit ?_
                  refine CWp.region rfl ?_
                  refine Walk.move .none rfl rfl ?_
                  refine Walk.addI .none rfl rfl rfl (by first | (constructor <;> omega) | (constructor <;> simp <;> omega)) ?_
                  refine Walk.assign .none rfl rfl ?_
                  refine ⟨trivial, ?_⟩
                  refine ⟨i + 1, ?_, ?_, Sub.x (by kernel_rfl) (by kernel_rfl) ⟨⟨_, rfl, (LeA.eqi (by first | rfl | (simp; done) | (subst hg3; rw [fm_step (by omega), cA_exit (by omega)])))⟩, ⟨⟨_, rfl, (LeA.gvg (by first | rfl | (simp; done) | (subst hg3; rw [fm_step (by omega), cA_exit (by omega)])))⟩, trivial⟩⟩ (by kernel_rfl) (by kernel_rfl) ⟨beq_nat_eq (by first | rfl | (simp; done) | (simp; omega) | (first | rfl | (simp; done) | (subst hg3; rw [fm_step (by omega), cA_exit (by omega)]))), trivial⟩⟩
                  all_goals first | omega | (simp_all; done) | (simp_all; omega)
              · have h6p := h6; have h6s := h6; try simp only [Bool.not_eq_true', Bool.not_eq_false', Bool.not_not] at h6s
                try simp only [Bool.not_eq_true', Bool.not_eq_false', decide_eq_true_eq, decide_eq_false_iff_not, Bool.not_not, List.length_map, Bool.and_eq_true, Bool.or_eq_false_iff, Val.cs_len, Ty.eta, Int.ofNat_lt, Int.ofNat_le] at h6p
                refine Walk.pass rfl rfl rfl h6 rfl rfl ?_
                refine Walk.pass rfl rfl rfl h6 rfl rfl ?_
                refine Walk.pass rfl rfl rfl h6 rfl rfl ?_
                refine Walk.pass rfl rfl rfl h6 rfl rfl ?_
                refine Walk.pickF .none rfl rfl h6 rfl ?_
                refine ⟨trivial, ?_⟩
                refine CWp.cond rfl (fun h8 => ?_) (fun h8 => ?_)
                · exact absurd h8 (by simp)
                · have h8p := h8; have h8s := h8; try simp only [Bool.not_eq_true', Bool.not_eq_false', Bool.not_not] at h8s
                  try simp only [Bool.not_eq_true', Bool.not_eq_false', decide_eq_true_eq, decide_eq_false_iff_not, Bool.not_not, List.length_map, Bool.and_eq_true, Bool.or_eq_false_iff, Val.cs_len, Ty.eta, Int.ofNat_lt, Int.ofNat_le] at h8p
                  refine CWp.exit ?_
                  refine CWp.region rfl ?_
                  refine Walk.move .none rfl rfl ?_
                  refine Walk.addI .none rfl rfl rfl (by first | (constructor <;> omega) | (constructor <;> simp <;> omega)) ?_
                  refine Walk.assign .none rfl rfl ?_
                  refine ⟨trivial, ?_⟩
                  refine ⟨i + 1, ?_, ?_, Sub.x (by kernel_rfl) (by kernel_rfl) ⟨⟨_, rfl, (LeA.eqi (by first | rfl | (simp; done) | (subst hg3; rw [fm_step (by omega), cA_exit (by omega)])))⟩, ⟨⟨_, rfl, (LeA.gvg (by first | rfl | (simp; done) | (subst hg3; rw [fm_step (by omega), cA_exit (by omega)])))⟩, trivial⟩⟩ (by kernel_rfl) (by kernel_rfl) ⟨beq_nat_eq (by first | rfl | (simp; done) | (simp; omega) | (first | rfl | (simp; done) | (subst hg3; rw [fm_step (by omega), cA_exit (by omega)]))), trivial⟩⟩
                  all_goals first | omega | (simp_all; done) | (simp_all; omega)
          · have h4p := h4; have h4s := h4; try simp only [Bool.not_eq_true', Bool.not_eq_false', Bool.not_not] at h4s
            try simp only [Bool.not_eq_true', Bool.not_eq_false', decide_eq_true_eq, decide_eq_false_iff_not, Bool.not_not, List.length_map, Bool.and_eq_true, Bool.or_eq_false_iff, Val.cs_len, Ty.eta, Int.ofNat_lt, Int.ofNat_le] at h4p
            refine CWp.exit ?_
            refine CWp.seq ?_
            refine CWp.region rfl ?_
            refine Walk.move .none rfl rfl ?_
            refine Walk.assign .none rfl rfl ?_
            refine ⟨trivial, ?_⟩
            refine CWp.ret ?_
            refine ⟨_, _, [(9, some (.tok ((allV w 400 (n + 1) ⟨(d : Int), k⟩).map Val.cc).length 3))], (.cons (.tmp rfl) .nil), (.gvg ?_), ⟨rfl, rfl⟩, (SubH.get ⟨(by first | rfl | (show some (Res.tok _ _) = some (Res.tok _ _); congr 1; (first | (rw [allV_ctors hne, fm_exit (by omega)]; done) | (rw [allV_ctors hne, fm_exit (by omega)])))), trivial⟩), (boxOK rfl)⟩
            all_goals ((first | (rw [allV_ctors hne, fm_exit (by omega)]; done) | (rw [allV_ctors hne, fm_exit (by omega)])))
        · have h3p := h3; have h3s := h3; try simp only [Bool.not_eq_true', Bool.not_eq_false', Bool.not_not] at h3s
          try simp only [Bool.not_eq_true', Bool.not_eq_false', decide_eq_true_eq, decide_eq_false_iff_not, Bool.not_not, List.length_map, Bool.and_eq_true, Bool.or_eq_false_iff, Val.cs_len, Ty.eta, Int.ofNat_lt, Int.ofNat_le] at h3p
          refine Walk.pass rfl rfl rfl h3 rfl rfl ?_
          refine Walk.pass rfl rfl rfl h3 rfl rfl ?_
          refine Walk.pass rfl rfl rfl h3 rfl rfl ?_
          refine Walk.pass rfl rfl rfl h3 rfl rfl ?_
          refine Walk.pickF .none rfl rfl h3 rfl ?_
          refine ⟨trivial, ?_⟩
          refine CWp.cond rfl (fun h9 => ?_) (fun h9 => ?_)
          · exact absurd h9 (by simp)
          · have h9p := h9; have h9s := h9; try simp only [Bool.not_eq_true', Bool.not_eq_false', Bool.not_not] at h9s
            try simp only [Bool.not_eq_true', Bool.not_eq_false', decide_eq_true_eq, decide_eq_false_iff_not, Bool.not_not, List.length_map, Bool.and_eq_true, Bool.or_eq_false_iff, Val.cs_len, Ty.eta, Int.ofNat_lt, Int.ofNat_le] at h9p
            refine CWp.exit ?_
            refine CWp.seq ?_
            refine CWp.region rfl ?_
            refine Walk.move .none rfl rfl ?_
            refine Walk.assign .none rfl rfl ?_
            refine ⟨trivial, ?_⟩
            refine CWp.ret ?_
            refine ⟨_, _, [(9, some (.tok ((allV w 400 (n + 1) ⟨(d : Int), k⟩).map Val.cc).length 3))], (.cons (.tmp rfl) .nil), (.gvg ?_), ⟨rfl, rfl⟩, (SubH.get ⟨(by first | rfl | (show some (Res.tok _ _) = some (Res.tok _ _); congr 1; (first | (rw [allV_ctors hne, fm_exit (by omega)]; done) | (rw [allV_ctors hne, fm_exit (by omega)])))), trivial⟩), (boxOK rfl)⟩
            all_goals ((first | (rw [allV_ctors hne, fm_exit (by omega)]; done) | (rw [allV_ctors hne, fm_exit (by omega)])))

theorem cut_cc : ∀ {L : List Val} {i : Nat}, i < L.length → cutC (((L.map Val.cc).flatten).map AV.d) (i * 3) 3 = some [.d (.i (nth L i).ctor), .d (.i (nth L i).num), .d (.sl (Val.cs (nth L i).kids))]
  | x :: r, 0, _ => by simp [cutC, nth]
  | x :: r, i + 1, h => by
    have := cut_cc (L := r) (i := i) (by simpa using h)
    rw [show (i + 1) * 3 = i * 3 + 1 + 1 + 1 by omega]
    simp only [List.map_cons, List.flatten_cons, List.cons_append, List.nil_append, cutC]
    exact this
theorem put_cc : ∀ {L : List Val} {i : Nat}, i < L.length → putC (((L.map Val.cc).flatten).map AV.d) (i * 3) [.d (.i (nth L i).ctor), .d (.i (nth L i).num), .d (.sl (Val.cs (nth L i).kids))] = some (((L.map Val.cc).flatten).map AV.d)
  | x :: r, 0, _ => by simp [putC, nth]
  | x :: r, i + 1, h => by
    have := put_cc (L := r) (i := i) (by simpa using h)
    rw [show (i + 1) * 3 = i * 3 + 1 + 1 + 1 by omega]
    simp only [List.map_cons, List.flatten_cons, List.cons_append, List.nil_append, putC]
    have e : nth (x :: r) (i + 1) = nth r i := rfl
    rw [e, this]
theorem chunk_cc (L : List Val) : chunkD (L.map Val.cc).length 3 (((L.map Val.cc).flatten).map AV.d) = some (L.map Val.cc) := by
  have := chunkD_flat (f := Val.cc) (k := 3) (l := L) (fun _ _ => rfl)
  rw [List.length_map, ← this]
  congr 1
  rw [List.map_flatten, List.flatMap_def, List.map_map]
  rfl
theorem allV_vut {w : List Data} {t : Ty} {n : Nat} : (allV w 400 n t).length ≤ 400 → countV w n t ≤ 400 ∧ allV w 400 n t = fullV w n t := fun h => by
  rw [allV_eq w 400 (by omega)] at h ⊢
  rw [List.length_take] at h
  rw [List.take_of_length_le (by omega), countV_eq]
  refine ⟨?_, rfl⟩
  have := capN_or (fullV w n t).length
  omega
theorem allV_vut' {w : List Data} {t : Ty} {n : Nat} : 400 < (allV w 400 n t).length → 400 < countV w n t := fun h => by
  rw [allV_eq w 400 (by omega), List.length_take] at h
  rw [countV_eq]
  have := capN_or (fullV w n t).length
  omega
theorem vut_yes {w : List Data} {t : Ty} {m : Int} (h1 : typeValid w t = true) (h2 : 0 ≤ m) (h3 : m ≤ 4) (h4 : (allV w 400 m.toNat t).length ≤ 400) : vut w t m = (allV w 400 m.toNat t, true) := by
  obtain ⟨q1, q2⟩ := allV_vut h4
  unfold vut
  rw [if_pos (by simp [within, h1, h2, h3, q1]), q2]
theorem vut_much {w : List Data} {t : Ty} {m : Int} (h4 : 400 < (allV w 400 m.toNat t).length) : vut w t m = ([], false) := by
  have := allV_vut' h4
  unfold vut
  rw [if_neg (by intro hh; simp at hh; omega)]
theorem vut_no {w : List Data} {t : Ty} {m : Int} (h : typeValid w t = false ∨ m < 0 ∨ 4 < m) : vut w t m = ([], false) := by
  unfold vut
  rw [if_neg (by intro hh; simp [within] at hh; rcases h with h | h | h; (rw [h] at hh; exact absurd hh.1 (by simp)); omega; omega)]

theorem spec_TypeValid_in {w : List Data} {a b : Int} (hs : WSmall w) : FnD Try.prog 55 [.d (encDatas w), .agg [.d (.i a), .d (.i b)]] [] (.d (.bool (typeValid w ⟨a, b⟩))) [] := by
  rw [← spec_tv]; exact spec_TypeValid_fn hs
theorem spec_ValuesUpTo_fn {w : List Data} (hs : WSmall w) {a k m : Int} : FnD Try.prog 56 [.d (encDatas w), .agg [.d (.i a), .d (.i k)], .d (.i m)] [] (.tup [.d (encVals (vut w ⟨a, k⟩ m).1), .d (.bool (vut w ⟨a, k⟩ m).2)]) [] := by
  refine Fn.body (fn := Try.f56) (n := 46) rfl rfl rfl rfl rfl (fun w0 F0 own kept hk => ?_)
  refine CWp.seq ?_
  refine CWp.region rfl ?_
  refine Walk.box (id := 3004) .none rfl rfl rfl rfl rfl rfl rfl ?_
  refine Walk.assign .none rfl rfl ?_
  refine Walk.assign .none rfl rfl ?_
  refine ⟨trivial, ?_⟩
  refine CWp.seq ?_
  refine CWp.seq ?_
  refine CWp.region rfl ?_
  refine Walk.move .none rfl rfl ?_
  refine Walk.loadBA ty38 .none rfl rfl rfl rfl ?_
  refine Walk.call (cr := []) cal55 (spec_TypeValid_in hs) rfl .none rfl rfl (LeL.refl _) trivial rfl rfl rfl ?_
  refine Walk.not .none rfl rfl ?_
  refine Walk.move .none rfl rfl ?_
  refine Walk.split (e := 14) rfl (fun h1 => ?_) (fun h1 => ?_)
  · have h1p := h1; have h1s := h1; try simp only [Bool.not_eq_true', Bool.not_eq_false', Bool.not_not] at h1s
    try simp only [Bool.not_eq_true', Bool.not_eq_false', decide_eq_true_eq, decide_eq_false_iff_not, Bool.not_not, List.length_map, Bool.and_eq_true, Bool.or_eq_false_iff, Val.cs_len, Int.ofNat_lt, Int.ofNat_le] at h1p
    refine Walk.pass rfl rfl rfl h1 rfl rfl ?_
    refine Walk.pass rfl rfl rfl h1 rfl rfl ?_
    refine Walk.pickT .none rfl rfl h1 rfl ?_
    refine Walk.move .none rfl rfl ?_
    refine Walk.pass rfl rfl rfl rfl rfl rfl ?_
    refine Walk.pass rfl rfl rfl rfl rfl rfl ?_
    refine Walk.pickT .none rfl rfl rfl rfl ?_
    refine ⟨trivial, ?_⟩
    refine CWp.cond rfl (fun h2 => ?_) (fun h2 => ?_)
    · have h2p := h2; have h2s := h2; try simp only [Bool.not_eq_true', Bool.not_eq_false', Bool.not_not] at h2s
      try simp only [Bool.not_eq_true', Bool.not_eq_false', decide_eq_true_eq, decide_eq_false_iff_not, Bool.not_not, List.length_map, Bool.and_eq_true, Bool.or_eq_false_iff, Val.cs_len, Int.ofNat_lt, Int.ofNat_le] at h2p
      refine CWp.seq ?_
      refine CWp.region rfl ?_
      refine Walk.sliceEmpty sl52 .none rfl ?_
      refine Walk.assign .none rfl rfl ?_
      refine Walk.assign .none rfl rfl ?_
      refine ⟨trivial, ?_⟩
      refine CWp.ret ?_
      refine ⟨_, _, [], (.cons (.tmp rfl) (.cons (.tmp rfl) .nil)), (.tup (.cons (.eqd ?_) (.cons (.eqd ?_) .nil))), ⟨rfl, rfl⟩, HSub.nil, noBox⟩
      all_goals (first | (rw [vut_no] <;> first | rfl | (left; assumption) | (right; omega)) | (rw [vut_much] <;> first | rfl | omega) | (rw [vut_yes] <;> first | assumption | omega | rfl | exact congrArg D.sl (Val.cs_cc _).symm | exact congrArg D.sl ((Val.cs_cc _).trans hx1).symm))
    · exact absurd h2 (by simp)
  · have h1p := h1; have h1s := h1; try simp only [Bool.not_eq_true', Bool.not_eq_false', Bool.not_not] at h1s
    try simp only [Bool.not_eq_true', Bool.not_eq_false', decide_eq_true_eq, decide_eq_false_iff_not, Bool.not_not, List.length_map, Bool.and_eq_true, Bool.or_eq_false_iff, Val.cs_len, Int.ofNat_lt, Int.ofNat_le] at h1p
    refine Walk.move (.some rfl rfl h1) rfl rfl ?_
    refine Walk.ltI (.some rfl rfl h1) rfl rfl rfl ?_
    refine Walk.pickF .none rfl rfl h1 rfl ?_
    refine Walk.move .none rfl rfl ?_
    refine Walk.split (e := 18) rfl (fun h3 => ?_) (fun h3 => ?_)
    · have h3p := h3; have h3s := h3; try simp only [Bool.not_eq_true', Bool.not_eq_false', Bool.not_not] at h3s
      try simp only [Bool.not_eq_true', Bool.not_eq_false', decide_eq_true_eq, decide_eq_false_iff_not, Bool.not_not, List.length_map, Bool.and_eq_true, Bool.or_eq_false_iff, Val.cs_len, Int.ofNat_lt, Int.ofNat_le] at h3p
      refine Walk.pass rfl rfl rfl h3 rfl rfl ?_
      refine Walk.pass rfl rfl rfl h3 rfl rfl ?_
      refine Walk.pickT .none rfl rfl h3 rfl ?_
      refine ⟨trivial, ?_⟩
      refine CWp.cond rfl (fun h4 => ?_) (fun h4 => ?_)
      · have h4p := h4; have h4s := h4; try simp only [Bool.not_eq_true', Bool.not_eq_false', Bool.not_not] at h4s
        try simp only [Bool.not_eq_true', Bool.not_eq_false', decide_eq_true_eq, decide_eq_false_iff_not, Bool.not_not, List.length_map, Bool.and_eq_true, Bool.or_eq_false_iff, Val.cs_len, Int.ofNat_lt, Int.ofNat_le] at h4p
        refine CWp.seq ?_
        refine CWp.region rfl ?_
        refine Walk.sliceEmpty sl52 .none rfl ?_
        refine Walk.assign .none rfl rfl ?_
        refine Walk.assign .none rfl rfl ?_
        refine ⟨trivial, ?_⟩
        refine CWp.ret ?_
        refine ⟨_, _, [], (.cons (.tmp rfl) (.cons (.tmp rfl) .nil)), (.tup (.cons (.eqd ?_) (.cons (.eqd ?_) .nil))), ⟨rfl, rfl⟩, HSub.nil, noBox⟩
        all_goals (first | (rw [vut_no] <;> first | rfl | (left; assumption) | (right; omega)) | (rw [vut_much] <;> first | rfl | omega) | (rw [vut_yes] <;> first | assumption | omega | rfl | exact congrArg D.sl (Val.cs_cc _).symm | exact congrArg D.sl ((Val.cs_cc _).trans hx1).symm))
      · exact absurd h4 (by simp)
    · have h3p := h3; have h3s := h3; try simp only [Bool.not_eq_true', Bool.not_eq_false', Bool.not_not] at h3s
      try simp only [Bool.not_eq_true', Bool.not_eq_false', decide_eq_true_eq, decide_eq_false_iff_not, Bool.not_not, List.length_map, Bool.and_eq_true, Bool.or_eq_false_iff, Val.cs_len, Int.ofNat_lt, Int.ofNat_le] at h3p
      refine Walk.move (.some rfl rfl h3) rfl rfl ?_
      refine Walk.gtI (.some rfl rfl h3) rfl rfl rfl ?_
      refine Walk.pickF .none rfl rfl h3 rfl ?_
      refine ⟨trivial, ?_⟩
      refine CWp.cond rfl (fun h5 => ?_) (fun h5 => ?_)
      · have h5p := h5; have h5s := h5; try simp only [Bool.not_eq_true', Bool.not_eq_false', Bool.not_not] at h5s
        try simp only [Bool.not_eq_true', Bool.not_eq_false', decide_eq_true_eq, decide_eq_false_iff_not, Bool.not_not, List.length_map, Bool.and_eq_true, Bool.or_eq_false_iff, Val.cs_len, Int.ofNat_lt, Int.ofNat_le] at h5p
        refine CWp.seq ?_
        refine CWp.region rfl ?_
        refine Walk.sliceEmpty sl52 .none rfl ?_
        refine Walk.assign .none rfl rfl ?_
        refine Walk.assign .none rfl rfl ?_
        refine ⟨trivial, ?_⟩
        refine CWp.ret ?_
        refine ⟨_, _, [], (.cons (.tmp rfl) (.cons (.tmp rfl) .nil)), (.tup (.cons (.eqd ?_) (.cons (.eqd ?_) .nil))), ⟨rfl, rfl⟩, HSub.nil, noBox⟩
        all_goals (first | (rw [vut_no] <;> first | rfl | (left; assumption) | (right; omega)) | (rw [vut_much] <;> first | rfl | omega) | (rw [vut_yes] <;> first | assumption | omega | rfl | exact congrArg D.sl (Val.cs_cc _).symm | exact congrArg D.sl ((Val.cs_cc _).trans hx1).symm))
      · have h5p := h5; have h5s := h5; try simp only [Bool.not_eq_true', Bool.not_eq_false', Bool.not_not] at h5s
        try simp only [Bool.not_eq_true', Bool.not_eq_false', decide_eq_true_eq, decide_eq_false_iff_not, Bool.not_not, List.length_map, Bool.and_eq_true, Bool.or_eq_false_iff, Val.cs_len, Int.ofNat_lt, Int.ofNat_le] at h5p
        refine CWp.skip ?_
        refine CWp.seq ?_
        refine CWp.region rfl ?_
        refine Walk.move .none rfl rfl ?_
        refine Walk.loadBA ty38 .none rfl rfl rfl rfl ?_
        refine Walk.move .none rfl rfl ?_
        refine Walk.call (cr := [9]) cal92 (spec_l2All_gv (tv_wt hs (by assumption)) m.toNat (by omega) (by omega) (tv_in (by assumption))) rfl .none rfl rfl (LeL.refl _) trivial rfl rfl rfl ?_
        refine Walk.assign .none rfl rfl ?_
        refine ⟨trivial, ?_⟩
        refine CWp.seq ?_
        refine CWp.seq ?_
        refine CWp.region rfl ?_
        refine Walk.move .none rfl rfl ?_
        refine Walk.lenV sl52 .none rfl rfl ?_
        refine Walk.gtI .none rfl rfl rfl ?_
        refine ⟨trivial, ?_⟩
        refine CWp.cond rfl (fun h6 => ?_) (fun h6 => ?_)
        · have h6p := h6; have h6s := h6; try simp only [Bool.not_eq_true', Bool.not_eq_false', Bool.not_not] at h6s
          try simp only [Bool.not_eq_true', Bool.not_eq_false', decide_eq_true_eq, decide_eq_false_iff_not, Bool.not_not, List.length_map, Bool.and_eq_true, Bool.or_eq_false_iff, Val.cs_len, Int.ofNat_lt, Int.ofNat_le] at h6p
          refine CWp.seq ?_
          refine CWp.region rfl ?_
          refine Walk.sliceEmpty sl52 .none rfl ?_
          refine Walk.assign .none rfl rfl ?_
          refine Walk.assign .none rfl rfl ?_
          refine ⟨trivial, ?_⟩
          refine CWp.ret ?_
          refine ⟨_, _, [], (.cons (.tmp rfl) (.cons (.tmp rfl) .nil)), (.tup (.cons (.eqd ?_) (.cons (.eqd ?_) .nil))), ⟨rfl, rfl⟩, HSub.nil, noBox⟩
          all_goals (first | (rw [vut_no] <;> first | rfl | (left; assumption) | (right; omega)) | (rw [vut_much] <;> first | rfl | omega) | (rw [vut_yes] <;> first | assumption | omega | rfl | exact congrArg D.sl (Val.cs_cc _).symm | exact congrArg D.sl ((Val.cs_cc _).trans hx1).symm))
        · have h6p := h6; have h6s := h6; try simp only [Bool.not_eq_true', Bool.not_eq_false', Bool.not_not] at h6s
          try simp only [Bool.not_eq_true', Bool.not_eq_false', decide_eq_true_eq, decide_eq_false_iff_not, Bool.not_not, List.length_map, Bool.and_eq_true, Bool.or_eq_false_iff, Val.cs_len, Int.ofNat_lt, Int.ofNat_le] at h6p
          refine CWp.skip ?_
          refine CWp.seq ?_
          refine CWp.seq ?_
          refine CWp.region rfl ?_
          refine Walk.assign .none rfl rfl ?_
          refine ⟨trivial, ?_⟩
          refine CWp.block ?_
          refine CWp.fixV hk 8 9 3 rfl rfl rfl (fun hx1 => ?_) (fun hx1 => ?_)
          ·
            refine CWp.loopX (ι := Unit) hk (fun u => [(9, .d (.i 0))]) [31, 32, 33, 34, 35, 36, 37, 38, 39, 40, 41, 42, 43, 44] (fun u => []) (fun u => True) (fun u => 0) () trivial ⟨⟨_, rfl, (LeA.eqi (by first | rfl | (simp; done) | (simp_all; done) | omega))⟩, trivial⟩ trivial (fun x => rfl) (fun u hg1 => ?_)
            refine CWp.seq ?_
            refine CWp.seq ?_
            refine CWp.region rfl ?_
            refine Walk.move .none rfl rfl ?_
            refine Walk.move .none rfl rfl ?_
            refine Walk.len sl52 .none rfl rfl ?_
            refine Walk.ltI .none rfl rfl rfl ?_
            refine ⟨trivial, ?_⟩
            refine CWp.cond rfl (fun h7 => ?_) (fun h7 => ?_)
            · have h7p := h7; have h7s := h7; try simp only [Bool.not_eq_true', Bool.not_eq_false', Bool.not_not] at h7s
              try simp only [Bool.not_eq_true', Bool.not_eq_false', decide_eq_true_eq, decide_eq_false_iff_not, Bool.not_not, List.length_map, Bool.and_eq_true, Bool.or_eq_false_iff, Val.cs_len, Int.ofNat_lt, Int.ofNat_le] at h7p
              exfalso; simp at h7 --stop
            · have h7p := h7; have h7s := h7; try simp only [Bool.not_eq_true', Bool.not_eq_false', Bool.not_not] at h7s
              try simp only [Bool.not_eq_true', Bool.not_eq_false', decide_eq_true_eq, decide_eq_false_iff_not, Bool.not_not, List.length_map, Bool.and_eq_true, Bool.or_eq_false_iff, Val.cs_len, Int.ofNat_lt, Int.ofNat_le] at h7p
              refine CWp.exit ?_
              refine CWp.seq ?_
              refine CWp.region rfl ?_
              refine Walk.move .none rfl rfl ?_
              refine Walk.assign .none rfl rfl ?_
              refine Walk.assign .none rfl rfl ?_
              refine ⟨trivial, ?_⟩
              refine CWp.ret ?_
              refine ⟨_, _, [], (.cons (.tmp rfl) (.cons (.tmp rfl) .nil)), (.tup (.cons (.eqd ?_) (.cons (.eqd ?_) .nil))), ⟨rfl, rfl⟩, HSub.nil, noBox⟩
              all_goals (first | (rw [vut_no] <;> first | rfl | (left; assumption) | (right; omega)) | (rw [vut_much] <;> first | rfl | omega) | (rw [vut_yes] <;> first | assumption | omega | rfl | exact congrArg D.sl (Val.cs_cc _).symm | exact congrArg D.sl ((Val.cs_cc _).trans hx1).symm))
          ·
            refine CWp.loopX (ι := Nat) hk (fun i => [(9, .d (.i (i : Int)))]) [31, 32, 33, 34, 35, 36, 37, 38, 39, 40, 41, 42, 43, 44] (fun i => [(9, some (.box (((allV w 400 m.toNat ⟨a, k⟩).map Val.cc).flatten.map .d)))]) (fun i => i ≤ (allV w 400 m.toNat ⟨a, k⟩).length) (fun i => (allV w 400 m.toNat ⟨a, k⟩).length - i) 0 (by simp) ⟨⟨_, rfl, (LeA.eqi (by first | rfl | (simp; done) | (simp_all; done) | omega))⟩, trivial⟩ ⟨(by first | rfl | (simp [getH]; done)), trivial⟩ (fun x => rfl) (fun i hg1 => ?_)
            refine CWp.seq ?_
            refine CWp.seq ?_
            refine CWp.region rfl ?_
            refine Walk.move .none rfl rfl ?_
            refine Walk.move .none rfl rfl ?_
            refine Walk.lenM sl52 .none rfl rfl ?_
            refine Walk.ltI .none rfl rfl rfl ?_
            refine ⟨trivial, ?_⟩
            refine CWp.cond rfl (fun h8 => ?_) (fun h8 => ?_)
            · have h8p := h8; have h8s := h8; try simp only [Bool.not_eq_true', Bool.not_eq_false', Bool.not_not] at h8s
              try simp only [Bool.not_eq_true', Bool.not_eq_false', decide_eq_true_eq, decide_eq_false_iff_not, Bool.not_not, List.length_map, Bool.and_eq_true, Bool.or_eq_false_iff, Val.cs_len, Int.ofNat_lt, Int.ofNat_le] at h8p
              refine CWp.skip ?_
              refine CWp.seq ?_
              refine CWp.block ?_
              refine CWp.region rfl ?_
              refine Walk.move .none rfl rfl ?_
              refine Walk.move .none rfl rfl ?_
              refine Walk.move .none rfl rfl ?_
              refine Walk.move .none rfl rfl ?_
              refine Walk.idxM sl52 .none rfl rfl rfl rfl (by first | omega | (simp; omega)) ?_
              refine Walk.loadBA ty54 .none rfl rfl rfl ((cut_cc (by omega))) ?_
              refine Walk.call (cr := []) cal93 (spec_l2Copy_fn (nth (allV w 400 m.toNat ⟨a, k⟩) i).size (Nat.le_refl _) (fullV_ok (tv_wt hs (by assumption)) m.toNat (tv_in (t := ⟨a, k⟩) (by assumption)) _ (by have h9 := (allV_vut (w := w) (t := ⟨a, k⟩) (n := m.toNat) (by omega)).2; rw [← h9]; exact nth_mem (by omega)))) rfl .none rfl rfl (LeL.refl _) trivial rfl rfl rfl ?_
              refine Walk.idxM sl52 .none rfl rfl rfl rfl (by first | omega | (simp; omega)) ?_
              refine Walk.store ty54 .none rfl rfl rfl rfl rfl rfl (by simp) ((put_cc (by omega))) ?_
              refine ⟨trivial, ?_⟩
              refine CWp.region rfl ?_
              refine Walk.move .none rfl rfl ?_
              refine Walk.addI .none rfl rfl rfl (by first | (constructor <;> omega) | (constructor <;> simp <;> omega)) ?_
              refine Walk.assign .none rfl rfl ?_
              refine ⟨trivial, ?_⟩
              refine ⟨i + 1, ?_, ?_, Sub.x (by kernel_rfl) (by kernel_rfl) ⟨⟨_, rfl, (LeA.eqi (by first | rfl | (simp; done) | (simp_all; done) | omega))⟩, trivial⟩ (by kernel_rfl) (by kernel_rfl) ⟨(by first | rfl | (simp [getH]; done)), trivial⟩⟩
              all_goals first | omega | (simp_all; done) | (simp_all; omega)
            · have h8p := h8; have h8s := h8; try simp only [Bool.not_eq_true', Bool.not_eq_false', Bool.not_not] at h8s
              try simp only [Bool.not_eq_true', Bool.not_eq_false', decide_eq_true_eq, decide_eq_false_iff_not, Bool.not_not, List.length_map, Bool.and_eq_true, Bool.or_eq_false_iff, Val.cs_len, Int.ofNat_lt, Int.ofNat_le] at h8p
              refine CWp.exit ?_
              refine CWp.seq ?_
              refine CWp.region rfl ?_
              refine Walk.move .none rfl rfl ?_
              refine Walk.assign .none rfl rfl ?_
              refine Walk.assign .none rfl rfl ?_
              refine ⟨trivial, ?_⟩
              refine CWp.frz hk 6 9 _ _ rfl rfl (chunk_cc _) rfl ?_
              refine CWp.ret ?_
              refine ⟨_, _, [], (.cons (.tmp rfl) (.cons (.tmp rfl) .nil)), (.tup (.cons (.eqd ?_) (.cons (.eqd ?_) .nil))), ⟨rfl, rfl⟩, HSub.nil, noBox⟩
              all_goals (first | (rw [vut_no] <;> first | rfl | (left; assumption) | (right; omega)) | (rw [vut_much] <;> first | rfl | omega) | (rw [vut_yes] <;> first | assumption | omega | rfl | exact congrArg D.sl (Val.cs_cc _).symm | exact congrArg D.sl ((Val.cs_cc _).trans hx1).symm))

theorem valsEq_take {x y : List Val} {i : Nat} (hl : x.length = y.length) (hi : i < x.length) : valsEq (x.take (i + 1)) (y.take (i + 1)) = (valsEq (x.take i) (y.take i) && valEq (nth x i) (nth y i)) := by
  rw [List.take_succ_eq_append_getElem hi, List.take_succ_eq_append_getElem (by omega : i < y.length), valsEq_split (by simp; omega), nth_eq hi, nth_eq (by omega : i < y.length)]
  simp [valsEq]
theorem valsEq_false_more {x y : List Val} {i : Nat} (hl : x.length = y.length) (h : valsEq (x.take i) (y.take i) = false) : valsEq x y = false := by
  have := valsEq_split (p := x.take i) (q := y.take i) (a := x.drop i) (b := y.drop i) (by simp; omega)
  rw [List.take_append_drop, List.take_append_drop] at this
  rw [this, h]; rfl
def sameTo (x y : List Val) (i : Nat) : Bool := decide (x.length = y.length) && valsEq (x.take i) (y.take i)
theorem sameTo_done {x y : List Val} {i : Nat} (h : ¬ i < x.length ∨ sameTo x y i = false) : sameTo x y i = valsEq x y := by
  by_cases hl : x.length = y.length
  · have e : sameTo x y i = valsEq (x.take i) (y.take i) := by unfold sameTo; rw [decide_eq_true hl, Bool.true_and]
    rw [e] at h ⊢
    rcases h with h | h
    · rw [List.take_of_length_le (by omega), List.take_of_length_le (by omega)]
    · rw [h, valsEq_false_more hl h]
  · rw [valsEq_len hl]; unfold sameTo; rw [decide_eq_false hl, Bool.false_and]
theorem sameTo_zero (x y : List Val) : decide (((Val.cs x).length : Int) = ((Val.cs y).length : Int)) = sameTo x y 0 := by
  simp [sameTo, valsEq, Val.cs_len, Int.natCast_inj]
theorem sameV_no {w : List Data} {a b : Ty} (h : ¬ a.data = b.data ∨ (vut w a 2).2 = false ∨ (vut w b 2).2 = false) : sameV w a b = (false, false) := by
  unfold sameV
  rcases h with h | h | h
  · rw [if_neg]; simp [h]
  · rw [if_neg]; simp [h]
  · rw [if_neg]; simp [h]
theorem sameV_tv {w : List Data} {a b : Ty} (h : typeValid w a = false ∨ typeValid w b = false) : sameV w a b = (false, false) := by
  rcases h with h | h
  · exact sameV_no (.inr (.inl (by rw [vut_no (.inl h)])))
  · exact sameV_no (.inr (.inr (by rw [vut_no (.inl h)])))
theorem sameV_yes {w : List Data} {a b : Ty} (h : a.data = b.data) (h1 : (vut w a 2).2 = true) (h2 : (vut w b 2).2 = true) : sameV w a b = (valsEq (vut w a 2).1 (vut w b 2).1, true) := by
  unfold sameV; rw [if_pos]; simp [h, h1, h2]
theorem sameTo_next {x y : List Val} {i : Nat} (hi : i < x.length) (h : sameTo x y i = true) : sameTo x y (i + 1) = valEq (nth x i) (nth y i) := by
  unfold sameTo at *
  rw [Bool.and_eq_true, decide_eq_true_eq] at h
  rw [valsEq_take h.1 hi, h.2]
  simp [h.1]
theorem spec_SameValues_fn {w : List Data} (hs : WSmall w) {a k a' k' : Int} : FnD Try.prog 23 [.d (encDatas w), .agg [.d (.i a), .d (.i k)], .agg [.d (.i a'), .d (.i k')]] [] (.tup [.d (.bool (sameV w ⟨a, k⟩ ⟨a', k'⟩).1), .d (.bool (sameV w ⟨a, k⟩ ⟨a', k'⟩).2)]) [] := by
  have hl1 := vut_len w ⟨a, k⟩ 2
  have hl2 := vut_len w ⟨a', k'⟩ 2
  refine Fn.body (fn := Try.f23) (n := 73) rfl rfl rfl rfl rfl (fun w0 F0 own kept hk => ?_)
  refine CWp.seq ?_
  refine CWp.region rfl ?_
  refine Walk.box (id := 3004) .none rfl rfl rfl rfl rfl rfl rfl ?_
  refine Walk.box (id := 3005) .none rfl rfl rfl rfl rfl rfl rfl ?_
  refine Walk.assign .none rfl rfl ?_
  refine Walk.assign .none rfl rfl ?_
  refine ⟨trivial, ?_⟩
  refine CWp.seq ?_
  refine CWp.seq ?_
  refine CWp.region rfl ?_
  refine Walk.move .none rfl rfl ?_
  refine Walk.loadBA ty38 .none rfl rfl rfl rfl ?_
  refine Walk.call (cr := []) cal55 (spec_TypeValid_in hs) rfl .none rfl rfl (LeL.refl _) trivial rfl rfl rfl ?_
  refine Walk.not .none rfl rfl ?_
  refine Walk.move .none rfl rfl ?_
  refine Walk.split (e := 18) rfl (fun h1 => ?_) (fun h1 => ?_)
  · have h1p := h1; have h1s := h1; try simp only [Bool.not_eq_true', Bool.not_eq_false', Bool.not_not] at h1s
    try simp only [Bool.not_eq_true', Bool.not_eq_false', decide_eq_true_eq, decide_eq_false_iff_not, Bool.not_not, List.length_map, Bool.and_eq_true, Bool.or_eq_false_iff, Val.cs_len, Int.ofNat_lt, Int.ofNat_le] at h1p
    refine Walk.pass rfl rfl rfl h1 rfl rfl ?_
    refine Walk.pass rfl rfl rfl h1 rfl rfl ?_
    refine Walk.pass rfl rfl rfl h1 rfl rfl ?_
    refine Walk.pass rfl rfl rfl h1 rfl rfl ?_
    refine Walk.pickT .none rfl rfl h1 rfl ?_
    refine Walk.move .none rfl rfl ?_
    refine Walk.pass rfl rfl rfl rfl rfl rfl ?_
    refine Walk.pass rfl rfl rfl rfl rfl rfl ?_
    refine Walk.pass rfl rfl rfl rfl rfl rfl ?_
    refine Walk.pass rfl rfl rfl rfl rfl rfl ?_
    refine Walk.pass rfl rfl rfl rfl rfl rfl ?_
    refine Walk.pickT .none rfl rfl rfl rfl ?_
    refine ⟨trivial, ?_⟩
    refine CWp.cond rfl (fun h2 => ?_) (fun h2 => ?_)
    · have h2p := h2; have h2s := h2; try simp only [Bool.not_eq_true', Bool.not_eq_false', Bool.not_not] at h2s
      try simp only [Bool.not_eq_true', Bool.not_eq_false', decide_eq_true_eq, decide_eq_false_iff_not, Bool.not_not, List.length_map, Bool.and_eq_true, Bool.or_eq_false_iff, Val.cs_len, Int.ofNat_lt, Int.ofNat_le] at h2p
      refine CWp.seq ?_
      refine CWp.region rfl ?_
      refine Walk.assign .none rfl rfl ?_
      refine Walk.assign .none rfl rfl ?_
      refine ⟨trivial, ?_⟩
      refine CWp.ret ?_
      refine ⟨_, _, [], (.cons (.tmp rfl) (.cons (.tmp rfl) .nil)), (.tup (.cons (.eqd ?_) (.cons (.eqd ?_) .nil))), ⟨rfl, rfl⟩, HSub.nil, noBox⟩
      all_goals (first | (rw [sameV_tv] <;> first | rfl | (left; assumption) | (right; assumption)) | (rw [sameV_no] <;> first | rfl | (left; show ¬ _ = _; omega) | (right; left; assumption) | (right; right; assumption)) | (rw [sameV_yes] <;> first | rfl | assumption | (show _ = _; omega) | (refine congrArg D.bool (sameTo_done ?_); first | (left; omega) | (right; assumption))))
    · exact absurd h2 (by simp)
  · have h1p := h1; have h1s := h1; try simp only [Bool.not_eq_true', Bool.not_eq_false', Bool.not_not] at h1s
    try simp only [Bool.not_eq_true', Bool.not_eq_false', decide_eq_true_eq, decide_eq_false_iff_not, Bool.not_not, List.length_map, Bool.and_eq_true, Bool.or_eq_false_iff, Val.cs_len, Int.ofNat_lt, Int.ofNat_le] at h1p
    refine Walk.move (.some rfl rfl h1) rfl rfl ?_
    refine Walk.loadBA ty38 (.some rfl rfl h1) rfl rfl rfl rfl ?_
    refine Walk.call (cr := []) cal55 (spec_TypeValid_in hs) rfl (.some rfl rfl h1) rfl rfl (LeL.refl _) trivial rfl rfl rfl ?_
    refine Walk.not (.some rfl rfl h1) rfl rfl ?_
    refine Walk.pickF .none rfl rfl h1 rfl ?_
    refine Walk.move .none rfl rfl ?_
    refine Walk.split (e := 24) rfl (fun h3 => ?_) (fun h3 => ?_)
    · have h3p := h3; have h3s := h3; try simp only [Bool.not_eq_true', Bool.not_eq_false', Bool.not_not] at h3s
      try simp only [Bool.not_eq_true', Bool.not_eq_false', decide_eq_true_eq, decide_eq_false_iff_not, Bool.not_not, List.length_map, Bool.and_eq_true, Bool.or_eq_false_iff, Val.cs_len, Int.ofNat_lt, Int.ofNat_le] at h3p
      refine Walk.pass rfl rfl rfl h3 rfl rfl ?_
      refine Walk.pass rfl rfl rfl h3 rfl rfl ?_
      refine Walk.pass rfl rfl rfl h3 rfl rfl ?_
      refine Walk.pass rfl rfl rfl h3 rfl rfl ?_
      refine Walk.pass rfl rfl rfl h3 rfl rfl ?_
      refine Walk.pickT .none rfl rfl h3 rfl ?_
      refine ⟨trivial, ?_⟩
      refine CWp.cond rfl (fun h4 => ?_) (fun h4 => ?_)
      · have h4p := h4; have h4s := h4; try simp only [Bool.not_eq_true', Bool.not_eq_false', Bool.not_not] at h4s
        try simp only [Bool.not_eq_true', Bool.not_eq_false', decide_eq_true_eq, decide_eq_false_iff_not, Bool.not_not, List.length_map, Bool.and_eq_true, Bool.or_eq_false_iff, Val.cs_len, Int.ofNat_lt, Int.ofNat_le] at h4p
        refine CWp.seq ?_
        refine CWp.region rfl ?_
        refine Walk.assign .none rfl rfl ?_
        refine Walk.assign .none rfl rfl ?_
        refine ⟨trivial, ?_⟩
        refine CWp.ret ?_
        refine ⟨_, _, [], (.cons (.tmp rfl) (.cons (.tmp rfl) .nil)), (.tup (.cons (.eqd ?_) (.cons (.eqd ?_) .nil))), ⟨rfl, rfl⟩, HSub.nil, noBox⟩
        all_goals (first | (rw [sameV_tv] <;> first | rfl | (left; assumption) | (right; assumption)) | (rw [sameV_no] <;> first | rfl | (left; show ¬ _ = _; omega) | (right; left; assumption) | (right; right; assumption)) | (rw [sameV_yes] <;> first | rfl | assumption | (show _ = _; omega) | (refine congrArg D.bool (sameTo_done ?_); first | (left; omega) | (right; assumption))))
      · exact absurd h4 (by simp)
    · have h3p := h3; have h3s := h3; try simp only [Bool.not_eq_true', Bool.not_eq_false', Bool.not_not] at h3s
      try simp only [Bool.not_eq_true', Bool.not_eq_false', decide_eq_true_eq, decide_eq_false_iff_not, Bool.not_not, List.length_map, Bool.and_eq_true, Bool.or_eq_false_iff, Val.cs_len, Int.ofNat_lt, Int.ofNat_le] at h3p
      refine Walk.fieldB fd38_0 (.some rfl rfl h3) rfl rfl ?_
      refine Walk.loadB ty3 (.some rfl rfl h3) rfl rfl rfl rfl ?_
      refine Walk.fieldB fd38_0 (.some rfl rfl h3) rfl rfl ?_
      refine Walk.loadB ty3 (.some rfl rfl h3) rfl rfl rfl rfl ?_
      refine Walk.neI (.some rfl rfl h3) rfl rfl rfl ?_
      refine Walk.pickF .none rfl rfl h3 rfl ?_
      refine ⟨trivial, ?_⟩
      refine CWp.cond rfl (fun h5 => ?_) (fun h5 => ?_)
      · have h5p := h5; have h5s := h5; try simp only [Bool.not_eq_true', Bool.not_eq_false', Bool.not_not] at h5s
        try simp only [Bool.not_eq_true', Bool.not_eq_false', decide_eq_true_eq, decide_eq_false_iff_not, Bool.not_not, List.length_map, Bool.and_eq_true, Bool.or_eq_false_iff, Val.cs_len, Int.ofNat_lt, Int.ofNat_le] at h5p
        refine CWp.seq ?_
        refine CWp.region rfl ?_
        refine Walk.assign .none rfl rfl ?_
        refine Walk.assign .none rfl rfl ?_
        refine ⟨trivial, ?_⟩
        refine CWp.ret ?_
        refine ⟨_, _, [], (.cons (.tmp rfl) (.cons (.tmp rfl) .nil)), (.tup (.cons (.eqd ?_) (.cons (.eqd ?_) .nil))), ⟨rfl, rfl⟩, HSub.nil, noBox⟩
        all_goals (first | (rw [sameV_tv] <;> first | rfl | (left; assumption) | (right; assumption)) | (rw [sameV_no] <;> first | rfl | (left; show ¬ _ = _; omega) | (right; left; assumption) | (right; right; assumption)) | (rw [sameV_yes] <;> first | rfl | assumption | (show _ = _; omega) | (refine congrArg D.bool (sameTo_done ?_); first | (left; omega) | (right; assumption))))
      · have h5p := h5; have h5s := h5; try simp only [Bool.not_eq_true', Bool.not_eq_false', Bool.not_not] at h5s
        try simp only [Bool.not_eq_true', Bool.not_eq_false', decide_eq_true_eq, decide_eq_false_iff_not, Bool.not_not, List.length_map, Bool.and_eq_true, Bool.or_eq_false_iff, Val.cs_len, Int.ofNat_lt, Int.ofNat_le] at h5p
        refine CWp.skip ?_
        refine CWp.seq ?_
        refine CWp.region rfl ?_
        refine Walk.move .none rfl rfl ?_
        refine Walk.loadBA ty38 .none rfl rfl rfl rfl ?_
        refine Walk.call (cr := []) cal56 (spec_ValuesUpTo_fn hs) rfl .none rfl rfl (LeL.refl _) trivial rfl rfl rfl ?_
        refine Walk.move .none rfl rfl ?_
        refine Walk.extract .none rfl rfl rfl ?_
        refine Walk.extract .none rfl rfl rfl ?_
        refine Walk.assign .none rfl rfl ?_
        refine Walk.assign .none rfl rfl ?_
        refine ⟨trivial, ?_⟩
        refine CWp.seq ?_
        refine CWp.region rfl ?_
        refine Walk.move .none rfl rfl ?_
        refine Walk.loadBA ty38 .none rfl rfl rfl rfl ?_
        refine Walk.call (cr := []) cal56 (spec_ValuesUpTo_fn hs) rfl .none rfl rfl (LeL.refl _) trivial rfl rfl rfl ?_
        refine Walk.move .none rfl rfl ?_
        refine Walk.extract .none rfl rfl rfl ?_
        refine Walk.extract .none rfl rfl rfl ?_
        refine Walk.assign .none rfl rfl ?_
        refine Walk.assign .none rfl rfl ?_
        refine ⟨trivial, ?_⟩
        refine CWp.seq ?_
        refine CWp.seq ?_
        refine CWp.region rfl ?_
        refine Walk.move .none rfl rfl ?_
        refine Walk.not .none rfl rfl ?_
        refine Walk.move .none rfl rfl ?_
        refine Walk.split (e := 45) rfl (fun h6 => ?_) (fun h6 => ?_)
        · have h6p := h6; have h6s := h6; try simp only [Bool.not_eq_true', Bool.not_eq_false', Bool.not_not] at h6s
          try simp only [Bool.not_eq_true', Bool.not_eq_false', decide_eq_true_eq, decide_eq_false_iff_not, Bool.not_not, List.length_map, Bool.and_eq_true, Bool.or_eq_false_iff, Val.cs_len, Int.ofNat_lt, Int.ofNat_le] at h6p
          refine Walk.pass rfl rfl rfl h6 rfl rfl ?_
          refine Walk.pass rfl rfl rfl h6 rfl rfl ?_
          refine Walk.pickT .none rfl rfl h6 rfl ?_
          refine ⟨trivial, ?_⟩
          refine CWp.cond rfl (fun h7 => ?_) (fun h7 => ?_)
          · have h7p := h7; have h7s := h7; try simp only [Bool.not_eq_true', Bool.not_eq_false', Bool.not_not] at h7s
            try simp only [Bool.not_eq_true', Bool.not_eq_false', decide_eq_true_eq, decide_eq_false_iff_not, Bool.not_not, List.length_map, Bool.and_eq_true, Bool.or_eq_false_iff, Val.cs_len, Int.ofNat_lt, Int.ofNat_le] at h7p
            refine CWp.seq ?_
            refine CWp.region rfl ?_
            refine Walk.assign .none rfl rfl ?_
            refine Walk.assign .none rfl rfl ?_
            refine ⟨trivial, ?_⟩
            refine CWp.ret ?_
            refine ⟨_, _, [], (.cons (.tmp rfl) (.cons (.tmp rfl) .nil)), (.tup (.cons (.eqd ?_) (.cons (.eqd ?_) .nil))), ⟨rfl, rfl⟩, HSub.nil, noBox⟩
            all_goals (first | (rw [sameV_tv] <;> first | rfl | (left; assumption) | (right; assumption)) | (rw [sameV_no] <;> first | rfl | (left; show ¬ _ = _; omega) | (right; left; assumption) | (right; right; assumption)) | (rw [sameV_yes] <;> first | rfl | assumption | (show _ = _; omega) | (refine congrArg D.bool (sameTo_done ?_); first | (left; omega) | (right; assumption))))
          · exact absurd h7 (by simp)
        · have h6p := h6; have h6s := h6; try simp only [Bool.not_eq_true', Bool.not_eq_false', Bool.not_not] at h6s
          try simp only [Bool.not_eq_true', Bool.not_eq_false', decide_eq_true_eq, decide_eq_false_iff_not, Bool.not_not, List.length_map, Bool.and_eq_true, Bool.or_eq_false_iff, Val.cs_len, Int.ofNat_lt, Int.ofNat_le] at h6p
          refine Walk.move (.some rfl rfl h6) rfl rfl ?_
          refine Walk.not (.some rfl rfl h6) rfl rfl ?_
          refine Walk.pickF .none rfl rfl h6 rfl ?_
          refine ⟨trivial, ?_⟩
          refine CWp.cond rfl (fun h8 => ?_) (fun h8 => ?_)
          · have h8p := h8; have h8s := h8; try simp only [Bool.not_eq_true', Bool.not_eq_false', Bool.not_not] at h8s
            try simp only [Bool.not_eq_true', Bool.not_eq_false', decide_eq_true_eq, decide_eq_false_iff_not, Bool.not_not, List.length_map, Bool.and_eq_true, Bool.or_eq_false_iff, Val.cs_len, Int.ofNat_lt, Int.ofNat_le] at h8p
            refine CWp.seq ?_
            refine CWp.region rfl ?_
            refine Walk.assign .none rfl rfl ?_
            refine Walk.assign .none rfl rfl ?_
            refine ⟨trivial, ?_⟩
            refine CWp.ret ?_
            refine ⟨_, _, [], (.cons (.tmp rfl) (.cons (.tmp rfl) .nil)), (.tup (.cons (.eqd ?_) (.cons (.eqd ?_) .nil))), ⟨rfl, rfl⟩, HSub.nil, noBox⟩
            all_goals (first | (rw [sameV_tv] <;> first | rfl | (left; assumption) | (right; assumption)) | (rw [sameV_no] <;> first | rfl | (left; show ¬ _ = _; omega) | (right; left; assumption) | (right; right; assumption)) | (rw [sameV_yes] <;> first | rfl | assumption | (show _ = _; omega) | (refine congrArg D.bool (sameTo_done ?_); first | (left; omega) | (right; assumption))))
          · have h8p := h8; have h8s := h8; try simp only [Bool.not_eq_true', Bool.not_eq_false', Bool.not_not] at h8s
            try simp only [Bool.not_eq_true', Bool.not_eq_false', decide_eq_true_eq, decide_eq_false_iff_not, Bool.not_not, List.length_map, Bool.and_eq_true, Bool.or_eq_false_iff, Val.cs_len, Int.ofNat_lt, Int.ofNat_le] at h8p
            refine CWp.skip ?_
            refine CWp.seq ?_
            refine CWp.region rfl ?_
            refine Walk.move .none rfl rfl ?_
            refine Walk.len sl52 .none rfl rfl ?_
            refine Walk.move .none rfl rfl ?_
            refine Walk.len sl52 .none rfl rfl ?_
            refine Walk.eqI .none rfl rfl rfl ?_
            refine Walk.assign .none rfl rfl ?_
            refine ⟨trivial, ?_⟩
            refine CWp.seq ?_
            refine CWp.seq ?_
            refine CWp.region rfl ?_
            refine Walk.assign .none rfl rfl ?_
            refine ⟨trivial, ?_⟩
            refine CWp.block ?_
            refine CWp.loopX (ι := Nat) hk (fun i => [(13, .d (.i (i : Int))), (12, .d (.bool (sameTo (vut w ⟨a, k⟩ 2).1 (vut w ⟨a', k'⟩ 2).1 i)))]) [54, 55, 56, 57, 58, 59, 60, 61, 62, 63, 64, 65, 66, 67, 68, 69, 70, 71] (fun i => []) (fun i => i ≤ (vut w ⟨a, k⟩ 2).1.length) (fun i => (vut w ⟨a, k⟩ 2).1.length - i) 0 (by simp) ⟨⟨_, rfl, (LeA.eqi (by first | rfl | exact sameTo_zero _ _ | (rw [sameTo_next (by omega) (by assumption)])))⟩, ⟨⟨_, rfl, (LeA.eqb (by first | rfl | exact sameTo_zero _ _ | (rw [sameTo_next (by omega) (by assumption)])))⟩, trivial⟩⟩ trivial (fun x => rfl) (fun i hg1 => ?_)
            refine CWp.seq ?_
            refine CWp.seq ?_
            refine CWp.region rfl ?_
            refine Walk.move .none rfl rfl ?_
            refine Walk.move .none rfl rfl ?_
            refine Walk.len sl52 .none rfl rfl ?_
            refine Walk.ltI .none rfl rfl rfl ?_
            refine Walk.move .none rfl rfl ?_
            refine Walk.split (e := 58) rfl (fun h9 => ?_) (fun h9 => ?_)
            · have h9p := h9; have h9s := h9; try simp only [Bool.not_eq_true', Bool.not_eq_false', Bool.not_not] at h9s
              try simp only [Bool.not_eq_true', Bool.not_eq_false', decide_eq_true_eq, decide_eq_false_iff_not, Bool.not_not, List.length_map, Bool.and_eq_true, Bool.or_eq_false_iff, Val.cs_len, Int.ofNat_lt, Int.ofNat_le] at h9p
              refine Walk.move (.some rfl rfl h9) rfl rfl ?_
              refine Walk.pickT .none rfl rfl h9 rfl ?_
              refine ⟨trivial, ?_⟩
              refine CWp.cond rfl (fun h10 => ?_) (fun h10 => ?_)
              · have h10p := h10; have h10s := h10; try simp only [Bool.not_eq_true', Bool.not_eq_false', Bool.not_not] at h10s
                try simp only [Bool.not_eq_true', Bool.not_eq_false', decide_eq_true_eq, decide_eq_false_iff_not, Bool.not_not, List.length_map, Bool.and_eq_true, Bool.or_eq_false_iff, Val.cs_len, Int.ofNat_lt, Int.ofNat_le] at h10p
                refine CWp.skip ?_
                refine CWp.seq ?_
                refine CWp.block ?_
                refine CWp.drawn mixed rfl ?_
                refine Walk.move .none rfl rfl ?_
                refine Walk.move .none rfl rfl ?_
                refine Walk.idx sl52 .none rfl rfl rfl rfl (vals_at (by first | omega | (unfold sameTo at *; simp at *; omega))) rfl ?_
                refine Walk.loadPA ty54 .none rfl rfl rfl rfl ?_
                refine Walk.move .none rfl rfl ?_
                refine Walk.move .none rfl rfl ?_
                refine Walk.idx sl52 .none rfl rfl rfl rfl (vals_at (by first | omega | (unfold sameTo at *; simp at *; omega))) rfl ?_
                refine Walk.loadPA ty54 .none rfl rfl rfl rfl ?_
                refine Walk.call (cr := []) cal57 (spec_ValueSame_fn (nth (vut w ⟨a, k⟩ 2).1 i).size (Nat.le_refl _) (vut_ok hs _ _ _ (nth_mem (by omega)))) rfl .none rfl rfl (LeL.refl _) trivial rfl rfl rfl ?_
                refine Walk.assign .none rfl rfl ?_
                refine ⟨by show _ = _; kernel_rfl, ?_⟩
                refine CWp.region rfl ?_
                refine Walk.move .none rfl rfl ?_
                refine Walk.addI .none rfl rfl rfl (by first | (constructor <;> omega) | (constructor <;> simp <;> omega)) ?_
                refine Walk.assign .none rfl rfl ?_
                refine ⟨trivial, ?_⟩
                refine ⟨i + 1, ?_, ?_, Sub.x (by kernel_rfl) (by kernel_rfl) ⟨⟨_, rfl, (LeA.eqi (by first | rfl | exact sameTo_zero _ _ | (rw [sameTo_next (by omega) (by assumption)])))⟩, ⟨⟨_, rfl, (LeA.eqb (by first | rfl | exact sameTo_zero _ _ | (rw [sameTo_next (by omega) (by assumption)])))⟩, trivial⟩⟩ (by kernel_rfl) (by kernel_rfl) trivial⟩
                all_goals first | omega | (simp_all; done) | (simp_all; omega)
              · have h10p := h10; have h10s := h10; try simp only [Bool.not_eq_true', Bool.not_eq_false', Bool.not_not] at h10s
                try simp only [Bool.not_eq_true', Bool.not_eq_false', decide_eq_true_eq, decide_eq_false_iff_not, Bool.not_not, List.length_map, Bool.and_eq_true, Bool.or_eq_false_iff, Val.cs_len, Int.ofNat_lt, Int.ofNat_le] at h10p
                refine CWp.exit ?_
                refine CWp.seq ?_
                refine CWp.region rfl ?_
                refine Walk.move .none rfl rfl ?_
                refine Walk.assign .none rfl rfl ?_
                refine Walk.assign .none rfl rfl ?_
                refine ⟨trivial, ?_⟩
                refine CWp.ret ?_
                refine ⟨_, _, [], (.cons (.tmp rfl) (.cons (.tmp rfl) .nil)), (.tup (.cons (.eqd ?_) (.cons (.eqd ?_) .nil))), ⟨rfl, rfl⟩, HSub.nil, noBox⟩
                all_goals (first | (rw [sameV_tv] <;> first | rfl | (left; assumption) | (right; assumption)) | (rw [sameV_no] <;> first | rfl | (left; show ¬ _ = _; omega) | (right; left; assumption) | (right; right; assumption)) | (rw [sameV_yes] <;> first | rfl | assumption | (show _ = _; omega) | (refine congrArg D.bool (sameTo_done ?_); first | (left; omega) | (right; assumption))))
            · have h9p := h9; have h9s := h9; try simp only [Bool.not_eq_true', Bool.not_eq_false', Bool.not_not] at h9s
              try simp only [Bool.not_eq_true', Bool.not_eq_false', decide_eq_true_eq, decide_eq_false_iff_not, Bool.not_not, List.length_map, Bool.and_eq_true, Bool.or_eq_false_iff, Val.cs_len, Int.ofNat_lt, Int.ofNat_le] at h9p
              refine Walk.pass rfl rfl rfl h9 rfl rfl ?_
              refine Walk.pickF .none rfl rfl h9 rfl ?_
              refine ⟨trivial, ?_⟩
              refine CWp.cond rfl (fun h11 => ?_) (fun h11 => ?_)
              · exact absurd h11 (by simp)
              · have h11p := h11; have h11s := h11; try simp only [Bool.not_eq_true', Bool.not_eq_false', Bool.not_not] at h11s
                try simp only [Bool.not_eq_true', Bool.not_eq_false', decide_eq_true_eq, decide_eq_false_iff_not, Bool.not_not, List.length_map, Bool.and_eq_true, Bool.or_eq_false_iff, Val.cs_len, Int.ofNat_lt, Int.ofNat_le] at h11p
                refine CWp.exit ?_
                refine CWp.seq ?_
                refine CWp.region rfl ?_
                refine Walk.move .none rfl rfl ?_
                refine Walk.assign .none rfl rfl ?_
                refine Walk.assign .none rfl rfl ?_
                refine ⟨trivial, ?_⟩
                refine CWp.ret ?_
                refine ⟨_, _, [], (.cons (.tmp rfl) (.cons (.tmp rfl) .nil)), (.tup (.cons (.eqd ?_) (.cons (.eqd ?_) .nil))), ⟨rfl, rfl⟩, HSub.nil, noBox⟩
                all_goals (first | (rw [sameV_tv] <;> first | rfl | (left; assumption) | (right; assumption)) | (rw [sameV_no] <;> first | rfl | (left; show ¬ _ = _; omega) | (right; left; assumption) | (right; right; assumption)) | (rw [sameV_yes] <;> first | rfl | assumption | (show _ = _; omega) | (refine congrArg D.bool (sameTo_done ?_); first | (left; omega) | (right; assumption))))

end Go.Proofs.Ytadpcmcifbakoaa
