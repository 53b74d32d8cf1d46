/-
  THE LAW FnSameValues: whatever the arguments of bulk at most 1048576 are, the call returns true, and the arguments read as before.
  Conditions: the bulk alone.
-/
import Derived.Test.YtpimgoacljakgaaJ3
namespace Go.Proofs.Ytpimgoacljakgaa
open Go
set_option linter.unusedSimpArgs false
set_option linter.unusedVariables false
set_option maxRecDepth 100000
set_option maxHeartbeats 2000000
def allC (w : List Data) (n : Nat) (t : Ty) (c : Int) : List Val := (tupV 400 ((argsOf w t c).map (allV w 400 n))).map (Val.mk c 0)
theorem allV_ctors {w : List Data} {n : Nat} {t : Ty} (ht : t.data ≠ -1) : allV w 400 (n + 1) t = ((ctorsOf w t).flatMap (allC w n t)).take (400 + 1) := by rw [allV, if_neg ht]; rfl
theorem cA_exit {w : List Data} {n : Nat} {t : Ty} {X : List Val} {c : Int} {j : Nat} (hc : ¬ j < (tupV 400 ((argsOf w t c).map (allV w 400 n))).length ∨ ¬ ((X ++ ((tupV 400 ((argsOf w t c).map (allV w 400 n))).take j).map (Val.mk c 0)).take (400 + 1)).length ≤ 400) :
  (X ++ ((tupV 400 ((argsOf w t c).map (allV w 400 n))).take j).map (Val.mk c 0)).take (400 + 1) = (X ++ allC w n t c).take (400 + 1) := tk_exit hc
theorem spec_l2All_fn {w : List Data} (hw : WT w) : ∀ (n : Nat) {a k m : Int}, m = n → n ≤ 1000 → TyIn w.length ⟨a, k⟩ →
  FnD Try.prog 108 [.d (encDatas w), .agg [.d (.i a), .d (.i k)], .d (.i m), .d (.i 400)] [] (.d (encVals (allV w 400 n ⟨a, k⟩))) []
 | 0, a, k, m, hm, _, _ => by
  refine bd Try.f108 104 [] [] fun w0 F0 own kept hk => ?_
  refine Walk.box (id := 3005) .none rfl rfl rfl rfl rfl rfl rfl ?_
  refine ev ?_
  refine Walk.sliceEmptyG 1 sl37 .none rfl rfl ?_
  refine ev ?_
  refine sq (fun h1 h1p h1s => ?_) fun h1 h1p h1s => ?_
  ·try simp only [Q] at h1p
   refine rn0 (r1 rfl) (.gld ?_)
   all_goals (rfl)
  ·try simp only [Q] at h1p
   exfalso; simp at h1; omega --stop
 | n + 1, a, k, m, hm, hn, ht => by
  rcases ht with ha | ⟨d, hd, hlt⟩
  ·have ha' : a = -1 := ha
   subst ha'
   refine bd Try.f108 104 [] [] fun w0 F0 own kept hk => ?_
   refine Walk.box (id := 3005) .none rfl rfl rfl rfl rfl rfl rfl ?_
   refine ev ?_
   refine Walk.sliceEmptyG 1 sl37 .none rfl rfl ?_
   refine ev ?_
   refine sq (fun h1 h1p h1s => ?_) fun h1 h1p h1s => ?_
   ·try simp only [Q] at h1p
    exfalso; simp at h1; omega --stop
   ·try simp only [Q] at h1p
    refine sq (fun h2 h2p h2s => ?_) fun h2 h2p h2s => ?_
    ·try simp only [Q] at h2p
     refine CWp.loopX (ι := Nat) hk (fun i => [(10, .d (.i (i : Int))), (9, .gl 1 (((List.range i).map fun (n : Nat) => Val.mk (-1) n []).map Val.cc))]) [25, 26, 27, 28, 29, 30, 31, 32, 33] (fun i => [(1, some (.tok ((((List.range i).map fun (n : Nat) => Val.mk (-1) n []).map Val.cc)).length 3))]) (fun i => i ≤ 10) (fun i => 10 - i) 0 (by simp) ⟨⟨_, rfl, (LeA.eqi (by first | rfl | (simp [List.range_succ, Val.ctor, Val.num, Val.kids]; done) | (simp [List.range_succ, Val.ctor, Val.num, Val.kids, Val.cs]; done)))⟩, ⟨⟨_, rfl, (LeA.glg (by first | rfl | (simp [List.range_succ, Val.ctor, Val.num, Val.kids]; done) | (simp [List.range_succ, Val.ctor, Val.num, Val.kids, Val.cs]; done)))⟩, trivial⟩⟩ ⟨beq_nat_eq (by first | rfl | (simp; done) | (simp; omega) | (first | rfl | (simp [List.range_succ, Val.ctor, Val.num, Val.kids]; done) | (simp [List.range_succ, Val.ctor, Val.num, Val.kids, Val.cs]; done))), trivial⟩ (fun x => rfl) (fun i hg1 => ?_)
     refine evc [] [] ?_
     refine sq (fun h3 h3p h3s => ?_) fun h3 h3p h3s => ?_
     ·try simp only [Q] at h3p
      refine Walk.build st39 (ks := [0, 1]) (xs := [_, _]) rfl rfl .none rfl rfl rfl ?_
      refine Walk.sliceLit sl37 tz39 rfl (by decide) (ks := [0]) (xs := [_]) rfl rfl (by decide) (by decide) .none rfl rfl rfl rfl ?_
      refine Walk.append sl37 zz39 rfl .none rfl rfl rfl rfl (htokL rfl (by first | rfl | (simp; done) | (simp; omega))) (by simp) (by simp; omega) (by simp; omega) ?_
      refine ev ?_
      refine ar ?_
      refine Exists.intro (i + 1) ⟨?_, ?_, Sub.x (by kernel_rfl) (by kernel_rfl) ⟨⟨_, rfl, (LeA.eqi (by first | rfl | (simp [List.range_succ, Val.ctor, Val.num, Val.kids]; done) | (simp [List.range_succ, Val.ctor, Val.num, Val.kids, Val.cs]; done)))⟩, ⟨⟨_, rfl, (LeA.glg (by first | rfl | (simp [List.range_succ, Val.ctor, Val.num, Val.kids]; done) | (simp [List.range_succ, Val.ctor, Val.num, Val.kids, Val.cs]; done)))⟩, trivial⟩⟩ (by kernel_rfl) (by kernel_rfl) ⟨beq_nat_eq (by first | rfl | (simp; done) | (simp; omega) | (first | rfl | (simp [List.range_succ, Val.ctor, Val.num, Val.kids]; done) | (simp [List.range_succ, Val.ctor, Val.num, Val.kids, Val.cs]; done))), trivial⟩⟩
      all_goals first | omega | (simp_all; done) | (simp_all; omega)
     ·try simp only [Q] at h3p
      refine rn0 (r1 rfl) (.gld ?_)
      all_goals (have e : i = 10 := (by omega); subst e; rw [allV, if_pos rfl, Val.cs_cc]; rfl)
    ·try simp only [Q] at h2p
     exact absurd h2 (by simp) --stop
  have hd' : a = (d : Int) := hd
  subst hd'
  have hne : (⟨d, k⟩ : Ty).data ≠ -1 := by show (d : Int) ≠ -1; omega
  have hcl := ctorsOf_len hw (d := d) (k := k)
  refine bd Try.f108 104 [] [] fun w0 F0 own kept hk => ?_
  refine Walk.box (id := 3005) .none rfl rfl rfl rfl rfl rfl rfl ?_
  refine ev ?_
  refine Walk.sliceEmptyG 1 sl37 .none rfl rfl ?_
  refine ev ?_
  refine sq (fun h1 h1p h1s => ?_) fun h1 h1p h1s => ?_
  ·try simp only [Q, Val.cs_len, Ty.eta, Int.ofNat_lt, Int.ofNat_le] at h1p
   exfalso; simp at h1; omega --stop
  ·try simp only [Q, Val.cs_len, Ty.eta, Int.ofNat_lt, Int.ofNat_le] at h1p
   refine sq (fun h2 h2p h2s => ?_) fun h2 h2p h2s => ?_
   ·try simp only [Q, Val.cs_len, Ty.eta, Int.ofNat_lt, Int.ofNat_le] at h2p
    exfalso; simp at h2 <;> omega --stop
   ·try simp only [Q, Val.cs_len, Ty.eta, Int.ofNat_lt, Int.ofNat_le] at h2p
    refine Walk.call (cr := []) cal122 (spec_l1Ctors_in hw hlt) rfl .none rfl rfl (LeL.refl _) trivial rfl rfl rfl ?_
    refine ev ?_
    refine CWp.loopX (ι := Nat) hk (fun i => [(12, .d (.i (i : Int))), (9, .gl 1 (((((ctorsOf w ⟨d, k⟩).take i).flatMap (allC w n ⟨d, k⟩)).take (400 + 1)).map Val.cc))]) [13, 14, 15, 16, 17, 38, 39, 40, 41, 42, 43, 44, 45, 46, 47, 48, 49, 50, 51, 52, 53, 54, 55, 56, 57, 58, 59, 60, 61, 62, 63, 64, 65, 66, 67, 68, 69, 70, 71, 72, 73, 74, 75, 76, 77, 78, 79, 80, 81, 82, 83, 84, 85, 86, 87, 88, 89, 90, 91, 92, 93, 94, 95, 96, 97, 98, 99, 100, 101, 102] (fun i => [(1, some (.tok ((((((ctorsOf w ⟨d, k⟩).take i).flatMap (allC w n ⟨d, k⟩)).take (400 + 1)).map Val.cc)).length 3))]) (fun i => i ≤ (ctorsOf w ⟨d, k⟩).length) (fun i => (ctorsOf w ⟨d, k⟩).length - i) 0 (by simp) ⟨⟨_, rfl, (LeA.eqi (by first | rfl | (simp; done) | (subst hg3; rw [fm_step (by omega), cA_exit (by omega)])))⟩, ⟨⟨_, rfl, (LeA.glg (by first | rfl | (simp; done) | (subst hg3; rw [fm_step (by omega), cA_exit (by omega)])))⟩, trivial⟩⟩ ⟨beq_nat_eq (by first | rfl | (simp; done) | (simp; omega) | (first | rfl | (simp; done) | (subst hg3; rw [fm_step (by omega), cA_exit (by omega)]))), trivial⟩ (fun x => rfl) (fun i hg2 => ?_)
    refine evc [] [] ?_
    refine sq (fun h3 h3p h3s => ?_) fun h3 h3p h3s => ?_
    ·try simp only [Q, Val.cs_len, Ty.eta, Int.ofNat_lt, Int.ofNat_le] at h3p
     refine sq (fun h4 h4p h4s => ?_) fun h4 h4p h4s => ?_
     ·try simp only [Q, Val.cs_len, Ty.eta, Int.ofNat_lt, Int.ofNat_le] at h4p
      refine Walk.idx sl66 .none rfl rfl rfl rfl (at_nth (by omega)) rfl ?_
      refine evd [] [] ?_
      refine Walk.call (cr := []) cal133 (spec_l1Args_in hw hlt (place_of (k := k) (nth_mem (l := ctorsOf w ⟨d, k⟩) (i := i) (by omega)))) rfl .none rfl rfl (LeL.refl _) trivial rfl rfl rfl ?_
      refine evd [] [] ?_
      refine dr ?_
      refine Walk.sliceEmptyG 2 sl167 .none rfl rfl ?_
      refine ev ?_
      refine CWp.loopX (ι := List (Ty) × List (Ty)) hk (fun x => [(15, .d (.i (x.1.length : Int))), (14, .gl 2 ((x.1.map (allV w 400 n)).map enc1))]) [58, 59, 60, 61, 62, 63, 64, 65, 66, 67, 68, 69, 70, 71, 72, 73, 74, 75] (fun x => [(2, some (.tok (((x.1.map (allV w 400 n)).map enc1)).length 1))]) (fun x => x.1 ++ x.2 = argsOf w ⟨d, k⟩ (nth (ctorsOf w ⟨d, k⟩) i)) (fun x => x.2.length) ([], argsOf w ⟨d, k⟩ (nth (ctorsOf w ⟨d, k⟩) i)) (by simp) ⟨⟨_, rfl, (LeA.eqi (by first | rfl | (simp; done)))⟩, ⟨⟨_, rfl, (LeA.glg (by first | rfl | (simp; done)))⟩, trivial⟩⟩ ⟨beq_nat_eq (by first | rfl | (simp; done) | (simp; omega) | (first | rfl | (simp; done))), trivial⟩ (fun x => rfl) (fun x hg3 => ?_)
      obtain ⟨pre2, rest2⟩ := x
      dsimp only at hg3 ⊢
      have hal := argsOf_len hw hlt (k := k) (place_of (k := k) (nth_mem (l := ctorsOf w ⟨d, k⟩) (i := i) (by omega)))
      refine evc [] [] ?_
      refine sq (fun h5 h5p h5s => ?_) fun h5 h5p h5s => ?_
      ·try simp only [Q, Val.cs_len, Ty.eta, Int.ofNat_lt, Int.ofNat_le] at h5p
       rcases rest2 with _ | ⟨y, rest2⟩
       ·exfalso; simp_all
       refine Walk.idx sl25 .none rfl rfl rfl rfl (zip_at hg3) rfl ?_
       refine ev ?_
       refine ar ?_
       refine Walk.call (cr := []) cal108 (spec_l2All_fn hw n (a := y.data) (k := y.index) (by omega) (by omega) (argsOf_in hw hlt (k := k) (place_of (k := k) (nth_mem (l := ctorsOf w ⟨d, k⟩) (i := i) (by omega))) (t := y) (by rw [← hg3]; simp))) rfl .none rfl rfl (LeL.refl _) trivial rfl rfl rfl ?_
       refine Walk.sliceLit sl167 tz37 rfl (by decide) (ks := [0]) (xs := [_]) rfl rfl (by decide) (by decide) .none rfl rfl rfl rfl ?_
       refine Walk.append sl167 zz37 rfl .none rfl rfl rfl rfl (htokL rfl (by first | rfl | (simp; done) | (simp; omega))) (by simp) (by simp only [List.length_map, List.length_append, List.length_cons, List.length_nil, Val.cs_len] at *; omega) (by simp only [List.length_map, List.length_append, List.length_cons, List.length_nil, Val.cs_len] at *; omega) ?_
       refine ev ?_
       refine ar ?_
       refine Exists.intro ((pre2 ++ [y], rest2)) ⟨(by have hz := hg3; rw [← hz]; simp), (by simp), Sub.x (by kernel_rfl) (by kernel_rfl) ⟨⟨_, rfl, (LeA.eqi (by first | rfl | (simp; done)))⟩, ⟨⟨_, rfl, (LeA.glg (by first | rfl | (simp; done)))⟩, trivial⟩⟩ (by kernel_rfl) (by kernel_rfl) ⟨beq_nat_eq (by first | rfl | (simp; done) | (simp; omega) | (first | rfl | (simp; done))), trivial⟩⟩
      ·try simp only [Q, Val.cs_len, Ty.eta, Int.ofNat_lt, Int.ofNat_le] at h5p
       have hrest2 : rest2 = [] := by
        rcases rest2 with _ | ⟨a, b⟩
        ·rfl
        ·exfalso; have hz := congrArg List.length (hg3); simp only [List.length_append, List.length_cons, List.length_map] at hz; omega
       subst hrest2
       refine Walk.call (cr := []) cal149 (spec_l2Lists_fn (ls := pre2.map (allV w 400 n)) (most := 400) (by omega) (by have h9 := congrArg List.length hg3; simp only [List.length_append, List.length_nil, List.length_map] at h9 ⊢; omega) (by intro l hl; obtain ⟨z, _, rfl⟩ := List.mem_map.1 hl; have := allV_len w 400 (by omega) n z; omega)) rfl .none rfl rfl (.cons (.gl _ _) (.cons (.refl _) .nil)) trivial rfl rfl rfl ?_
       refine ev ?_
       refine CWp.loopX (ι := Nat) hk (fun j => [(17, .d (.i (j : Int))), (9, .gl 1 (((((ctorsOf w ⟨d, k⟩).take i).flatMap (allC w n ⟨d, k⟩) ++ ((tupV 400 (pre2.map (allV w 400 n))).take j).map (Val.mk (nth (ctorsOf w ⟨d, k⟩) i) 0)).take (400 + 1)).map Val.cc))]) [79, 80, 81, 82, 83, 84, 85, 86, 87, 88, 89, 90, 91, 92, 93, 94, 95, 96, 97, 98, 99, 100, 101, 102] (fun j => [(1, some (.tok ((((((ctorsOf w ⟨d, k⟩).take i).flatMap (allC w n ⟨d, k⟩) ++ ((tupV 400 (pre2.map (allV w 400 n))).take j).map (Val.mk (nth (ctorsOf w ⟨d, k⟩) i) 0)).take (400 + 1)).map Val.cc)).length 3))]) (fun j => j ≤ (tupV 400 (pre2.map (allV w 400 n))).length) (fun j => (tupV 400 (pre2.map (allV w 400 n))).length - j) 0 (by simp) ⟨⟨_, rfl, (LeA.eqi (by first | rfl | (simp; done) | (rw [tk_step (by omega) (by omega), List.map_append]; first | rfl | (simp; done))))⟩, ⟨⟨_, rfl, (LeA.glg (by first | rfl | (simp; done) | (rw [tk_step (by omega) (by omega), List.map_append]; first | rfl | (simp; done))))⟩, trivial⟩⟩ ⟨beq_nat_eq (by first | rfl | (simp; done) | (simp; omega) | (first | rfl | (simp; done) | (rw [tk_step (by omega) (by omega), List.map_append]; first | rfl | (simp; done)))), trivial⟩ (fun x => rfl) (fun j hg4 => ?_)
       (try rw [List.append_nil] at hg3); have htl := tupV_len 400 (pre2.map (allV w 400 n))
       refine evc [] [] ?_
       refine sq (fun h6 h6p h6s => ?_) fun h6 h6p h6s => ?_
       ·try simp only [Q, Val.cs_len, Ty.eta, Int.ofNat_lt, Int.ofNat_le] at h6p
        refine sq (fun h7 h7p h7s => ?_) fun h7 h7p h7s => ?_
        ·try simp only [Q, Val.cs_len, Ty.eta, Int.ofNat_lt, Int.ofNat_le] at h7p
         refine Walk.idx sl66 .none rfl rfl rfl rfl (at_nth (by omega)) rfl ?_
         refine evd [] [] ?_
         refine Walk.idx sl167 .none rfl rfl rfl rfl (at_nth (by omega)) rfl ?_
         refine evd [] [] ?_
         refine Walk.build st39 (ks := [0, 2]) (xs := [_, _]) rfl rfl .none rfl rfl rfl ?_
         refine Walk.sliceLit sl37 tz39 rfl (by decide) (ks := [0]) (xs := [_]) rfl rfl (by decide) (by decide) .none rfl rfl rfl rfl ?_
         refine Walk.append sl37 zz39 rfl .none rfl rfl rfl rfl (htokL rfl (by first | rfl | (simp; done) | (simp; omega))) (by simp) (by simp only [List.length_map, List.length_append, List.length_cons, List.length_nil, Val.cs_len] at *; omega) (by simp only [List.length_map, List.length_append, List.length_cons, List.length_nil, Val.cs_len] at *; omega) ?_
         refine evd [] [] ?_
         refine dr ?_
         refine ar ?_
         refine Exists.intro (j + 1) ⟨?_, ?_, Sub.x (by kernel_rfl) (by kernel_rfl) ⟨⟨_, rfl, (LeA.eqi (by first | rfl | (simp; done) | (rw [tk_step (by omega) (by omega), List.map_append]; first | rfl | (simp; done))))⟩, ⟨⟨_, rfl, (LeA.glg (by first | rfl | (simp; done) | (rw [tk_step (by omega) (by omega), List.map_append]; first | rfl | (simp; done))))⟩, trivial⟩⟩ (by kernel_rfl) (by kernel_rfl) ⟨beq_nat_eq (by first | rfl | (simp; done) | (simp; omega) | (first | rfl | (simp; done) | (rw [tk_step (by omega) (by omega), List.map_append]; first | rfl | (simp; done)))), trivial⟩⟩
         all_goals first | omega | (simp_all; done) | (simp_all; omega)
        ·try simp only [Q, Val.cs_len, Ty.eta, Int.ofNat_lt, Int.ofNat_le] at h7p
         refine ar ?_
         refine Exists.intro (i + 1) ⟨?_, ?_, Sub.x (by kernel_rfl) (by kernel_rfl) ⟨⟨_, rfl, (LeA.eqi (by first | rfl | (simp; done) | (subst hg3; rw [fm_step (by omega), cA_exit (by omega)])))⟩, ⟨⟨_, rfl, (LeA.glg (by first | rfl | (simp; done) | (subst hg3; rw [fm_step (by omega), cA_exit (by omega)])))⟩, trivial⟩⟩ (by kernel_rfl) (by kernel_rfl) ⟨beq_nat_eq (by first | rfl | (simp; done) | (simp; omega) | (first | rfl | (simp; done) | (subst hg3; rw [fm_step (by omega), cA_exit (by omega)]))), trivial⟩⟩
         all_goals first | omega | (simp_all; done) | (simp_all; omega)
       ·try simp only [Q, Val.cs_len, Ty.eta, Int.ofNat_lt, Int.ofNat_le] at h6p
        refine sqF ?_
        refine ar ?_
        refine Exists.intro (i + 1) ⟨?_, ?_, Sub.x (by kernel_rfl) (by kernel_rfl) ⟨⟨_, rfl, (LeA.eqi (by first | rfl | (simp; done) | (subst hg3; rw [fm_step (by omega), cA_exit (by omega)])))⟩, ⟨⟨_, rfl, (LeA.glg (by first | rfl | (simp; done) | (subst hg3; rw [fm_step (by omega), cA_exit (by omega)])))⟩, trivial⟩⟩ (by kernel_rfl) (by kernel_rfl) ⟨beq_nat_eq (by first | rfl | (simp; done) | (simp; omega) | (first | rfl | (simp; done) | (subst hg3; rw [fm_step (by omega), cA_exit (by omega)]))), trivial⟩⟩
        all_goals first | omega | (simp_all; done) | (simp_all; omega)
     ·try simp only [Q, Val.cs_len, Ty.eta, Int.ofNat_lt, Int.ofNat_le] at h4p
      refine rn0 (r1 rfl) (.gld ?_)
      all_goals (rw [allV_ctors hne, Val.cs_cc, fm_exit (by omega)])
    ·try simp only [Q, Val.cs_len, Ty.eta, Int.ofNat_lt, Int.ofNat_le] at h3p
     refine sqF ?_
     refine rn0 (r1 rfl) (.gld ?_)
     all_goals (rw [allV_ctors hne, Val.cs_cc, fm_exit (by omega)])
theorem spec_l2All_gv {w : List Data} (hw : WT w) : ∀ (n : Nat) {a k m : Int}, m = n → n ≤ 1000 → TyIn w.length ⟨a, k⟩ →
  FnD Try.prog 108 [.d (encDatas w), .agg [.d (.i a), .d (.i k)], .d (.i m), .d (.i 400)] [] (.gv 9 ((allV w 400 n ⟨a, k⟩).map Val.cc)) [(9, some (.tok ((allV w 400 n ⟨a, k⟩).map Val.cc).length 3))]
 | 0, a, k, m, hm, _, _ => by
  refine bd Try.f108 104 [] [] fun w0 F0 own kept hk => ?_
  refine Walk.box (id := 3005) .none rfl rfl rfl rfl rfl rfl rfl ?_
  refine ev ?_
  refine Walk.sliceEmptyGV 9 sl37 .none rfl rfl ?_
  refine ev ?_
  refine sq (fun h1 h1p h1s => ?_) fun h1 h1p h1s => ?_
  ·try simp only [Q] at h1p
   refine rn [(9, some (.tok ((allV w 400 0 ⟨a, k⟩).map Val.cc).length 3))] (r1 rfl) (.gvg ?_) ⟨rfl, rfl⟩ (SubH.get ⟨(by first | rfl | (show some (Res.tok _ _) = some (Res.tok _ _); congr 1; rfl)), trivial⟩) (boxOK rfl)
   all_goals (rfl)
  ·try simp only [Q] at h1p
   exfalso; simp at h1; omega --stop
 | n + 1, a, k, m, hm, hn, ht => by
  rcases ht with ha | ⟨d, hd, hlt⟩
  ·have ha' : a = -1 := ha
   subst ha'
   refine bd Try.f108 104 [] [] fun w0 F0 own kept hk => ?_
   refine Walk.box (id := 3005) .none rfl rfl rfl rfl rfl rfl rfl ?_
   refine ev ?_
   refine Walk.sliceEmptyGV 9 sl37 .none rfl rfl ?_
   refine ev ?_
   refine sq (fun h1 h1p h1s => ?_) fun h1 h1p h1s => ?_
   ·try simp only [Q] at h1p
    exfalso; simp at h1; omega --stop
   ·try simp only [Q] at h1p
    refine sq (fun h2 h2p h2s => ?_) fun h2 h2p h2s => ?_
    ·try simp only [Q] at h2p
     refine CWp.loopX (ι := Nat) hk (fun i => [(10, .d (.i (i : Int))), (9, .gv 9 (((List.range i).map fun (n : Nat) => Val.mk (-1) n []).map Val.cc))]) [25, 26, 27, 28, 29, 30, 31, 32, 33] (fun i => [(9, some (.tok ((((List.range i).map fun (n : Nat) => Val.mk (-1) n []).map Val.cc)).length 3))]) (fun i => i ≤ 10) (fun i => 10 - i) 0 (by simp) ⟨⟨_, rfl, (LeA.eqi (by first | rfl | (simp [List.range_succ, Val.ctor, Val.num, Val.kids]; done) | (simp [List.range_succ, Val.ctor, Val.num, Val.kids, Val.cs]; done)))⟩, ⟨⟨_, rfl, (LeA.gvg (by first | rfl | (simp [List.range_succ, Val.ctor, Val.num, Val.kids]; done) | (simp [List.range_succ, Val.ctor, Val.num, Val.kids, Val.cs]; done)))⟩, trivial⟩⟩ ⟨beq_nat_eq (by first | rfl | (simp; done) | (simp; omega) | (first | rfl | (simp [List.range_succ, Val.ctor, Val.num, Val.kids]; done) | (simp [List.range_succ, Val.ctor, Val.num, Val.kids, Val.cs]; done))), trivial⟩ (fun x => rfl) (fun i hg1 => ?_)
     refine evc [] [] ?_
     refine sq (fun h3 h3p h3s => ?_) fun h3 h3p h3s => ?_
     ·try simp only [Q] at h3p
      refine Walk.build st39 (ks := [0, 1]) (xs := [_, _]) rfl rfl .none rfl rfl rfl ?_
      refine Walk.sliceLit sl37 tz39 rfl (by decide) (ks := [0]) (xs := [_]) rfl rfl (by decide) (by decide) .none rfl rfl rfl rfl ?_
      refine Walk.appendV sl37 zz39 .none rfl rfl rfl rfl (htokL rfl (by first | rfl | (simp; done) | (simp; omega))) (by simp) (by simp; omega) (by simp; omega) ?_
      refine ev ?_
      refine ar ?_
      refine Exists.intro (i + 1) ⟨?_, ?_, Sub.x (by kernel_rfl) (by kernel_rfl) ⟨⟨_, rfl, (LeA.eqi (by first | rfl | (simp [List.range_succ, Val.ctor, Val.num, Val.kids]; done) | (simp [List.range_succ, Val.ctor, Val.num, Val.kids, Val.cs]; done)))⟩, ⟨⟨_, rfl, (LeA.gvg (by first | rfl | (simp [List.range_succ, Val.ctor, Val.num, Val.kids]; done) | (simp [List.range_succ, Val.ctor, Val.num, Val.kids, Val.cs]; done)))⟩, trivial⟩⟩ (by kernel_rfl) (by kernel_rfl) ⟨beq_nat_eq (by first | rfl | (simp; done) | (simp; omega) | (first | rfl | (simp [List.range_succ, Val.ctor, Val.num, Val.kids]; done) | (simp [List.range_succ, Val.ctor, Val.num, Val.kids, Val.cs]; done))), trivial⟩⟩
      all_goals first | omega | (simp_all; done) | (simp_all; omega)
     ·try simp only [Q] at h3p
      refine rn [(9, some (.tok ((allV w 400 (n + 1) ⟨(-1), k⟩).map Val.cc).length 3))] (r1 rfl) (.gvg ?_) ⟨rfl, rfl⟩ (SubH.get ⟨(by first | rfl | (show some (Res.tok _ _) = some (Res.tok _ _); congr 1; (obtain rfl : i = 10 := by omega); (first | (rw [allV, if_pos rfl]; rfl) | (rw [allV, if_pos rfl]; simp [digits]; done)))), trivial⟩) (boxOK rfl)
      all_goals (have e : i = 10 := (by omega); subst e; (first | (rw [allV, if_pos rfl]; rfl) | (rw [allV, if_pos rfl]; simp [digits]; done)))
    ·try simp only [Q] at h2p
     exact absurd h2 (by simp) --stop
  have hd' : a = (d : Int) := hd
  subst hd'
  have hne : (⟨d, k⟩ : Ty).data ≠ -1 := by show (d : Int) ≠ -1; omega
  have hcl := ctorsOf_len hw (d := d) (k := k)
  refine bd Try.f108 104 [44, 85] [] fun w0 F0 own kept hk => ?_
  refine Walk.box (id := 3005) .none rfl rfl rfl rfl rfl rfl rfl ?_
  refine evs [44, 85] [] ?_
  refine Walk.sliceEmptyGV 9 sl37 .none rfl rfl ?_
  refine evs [44, 85] [] ?_
  refine sq (fun h1 h1p h1s => ?_) fun h1 h1p h1s => ?_
  ·try simp only [Q, Val.cs_len, Ty.eta, Int.ofNat_lt, Int.ofNat_le] at h1p
   exfalso; simp at h1; omega --stop
  ·try simp only [Q, Val.cs_len, Ty.eta, Int.ofNat_lt, Int.ofNat_le] at h1p
   refine sq (fun h2 h2p h2s => ?_) fun h2 h2p h2s => ?_
   ·try simp only [Q, Val.cs_len, Ty.eta, Int.ofNat_lt, Int.ofNat_le] at h2p
    exfalso; simp at h2 <;> omega --stop
   ·try simp only [Q, Val.cs_len, Ty.eta, Int.ofNat_lt, Int.ofNat_le] at h2p
    refine Walk.call (cr := []) cal122 (spec_l1Ctors_in hw hlt) rfl .none rfl rfl (LeL.refl _) trivial rfl rfl rfl ?_
    refine evs [44, 85] [] ?_
    refine CWp.loopX (ι := Nat) hk (fun i => [(12, .d (.i (i : Int))), (9, .gv 9 (((((ctorsOf w ⟨d, k⟩).take i).flatMap (allC w n ⟨d, k⟩)).take (400 + 1)).map Val.cc))]) [13, 14, 15, 16, 17, 38, 39, 40, 41, 42, 43, 44, 45, 46, 47, 48, 49, 50, 51, 52, 53, 54, 55, 56, 57, 58, 59, 60, 61, 62, 63, 64, 65, 66, 67, 68, 69, 70, 71, 72, 73, 74, 75, 76, 77, 78, 79, 80, 81, 82, 83, 84, 85, 86, 87, 88, 89, 90, 91, 92, 93, 94, 95, 96, 97, 98, 99, 100, 101, 102] (fun i => [(9, some (.tok ((((((ctorsOf w ⟨d, k⟩).take i).flatMap (allC w n ⟨d, k⟩)).take (400 + 1)).map Val.cc)).length 3))]) (fun i => i ≤ (ctorsOf w ⟨d, k⟩).length) (fun i => (ctorsOf w ⟨d, k⟩).length - i) 0 (by simp) ⟨⟨_, rfl, (LeA.eqi (by first | rfl | (simp; done) | (subst hg3; rw [fm_step (by omega), cA_exit (by omega)])))⟩, ⟨⟨_, rfl, (LeA.gvg (by first | rfl | (simp; done) | (subst hg3; rw [fm_step (by omega), cA_exit (by omega)])))⟩, trivial⟩⟩ ⟨beq_nat_eq (by first | rfl | (simp; done) | (simp; omega) | (first | rfl | (simp; done) | (subst hg3; rw [fm_step (by omega), cA_exit (by omega)]))), trivial⟩ (fun x => rfl) (fun i hg2 => ?_)
    refine evc [44, 85] [] ?_
    refine sq (fun h3 h3p h3s => ?_) fun h3 h3p h3s => ?_
    ·try simp only [Q, Val.cs_len, Ty.eta, Int.ofNat_lt, Int.ofNat_le] at h3p
     refine Walk.lenV sl37 (.some rfl rfl h3) rfl rfl ?_
     refine evs [44, 85] [(42, true)] ?_ ⟨⟨_, rfl, h3⟩, trivial⟩
     refine sq (fun h4 h4p h4s => ?_) fun h4 h4p h4s => ?_
     ·try simp only [Q, Val.cs_len, Ty.eta, Int.ofNat_lt, Int.ofNat_le] at h4p
      refine Walk.idx sl66 .none rfl rfl rfl rfl (at_nth (by omega)) rfl ?_
      refine evd [44, 85] [] ?_
      refine Walk.call (cr := []) cal133 (spec_l1Args_in hw hlt (place_of (k := k) (nth_mem (l := ctorsOf w ⟨d, k⟩) (i := i) (by omega)))) rfl .none rfl rfl (LeL.refl _) trivial rfl rfl rfl ?_
      refine evd [44, 85] [] ?_
      refine dr ?_
      refine Walk.sliceEmptyG 2 sl167 .none rfl rfl ?_
      refine evs [44, 85] [] ?_
      refine CWp.loopX (ι := List (Ty) × List (Ty)) hk (fun x => [(15, .d (.i (x.1.length : Int))), (14, .gl 2 ((x.1.map (allV w 400 n)).map enc1))]) [58, 59, 60, 61, 62, 63, 64, 65, 66, 67, 68, 69, 70, 71, 72, 73, 74, 75] (fun x => [(2, some (.tok (((x.1.map (allV w 400 n)).map enc1)).length 1))]) (fun x => x.1 ++ x.2 = argsOf w ⟨d, k⟩ (nth (ctorsOf w ⟨d, k⟩) i)) (fun x => x.2.length) ([], argsOf w ⟨d, k⟩ (nth (ctorsOf w ⟨d, k⟩) i)) (by simp) ⟨⟨_, rfl, (LeA.eqi (by first | rfl | (simp; done)))⟩, ⟨⟨_, rfl, (LeA.glg (by first | rfl | (simp; done)))⟩, trivial⟩⟩ ⟨beq_nat_eq (by first | rfl | (simp; done) | (simp; omega) | (first | rfl | (simp; done))), trivial⟩ (fun x => rfl) (fun x hg3 => ?_)
      obtain ⟨pre2, rest2⟩ := x
      dsimp only at hg3 ⊢
      have hal := argsOf_len hw hlt (k := k) (place_of (k := k) (nth_mem (l := ctorsOf w ⟨d, k⟩) (i := i) (by omega)))
      refine evc [44, 85] [] ?_
      refine sq (fun h5 h5p h5s => ?_) fun h5 h5p h5s => ?_
      ·try simp only [Q, Val.cs_len, Ty.eta, Int.ofNat_lt, Int.ofNat_le] at h5p
       rcases rest2 with _ | ⟨y, rest2⟩
       ·exfalso; simp_all
       refine Walk.idx sl25 .none rfl rfl rfl rfl (zip_at hg3) rfl ?_
       refine evs [44, 85] [] ?_
       refine ar ?_
       refine Walk.call (cr := []) cal108 (spec_l2All_fn hw n (a := y.data) (k := y.index) (by omega) (by omega) (argsOf_in hw hlt (k := k) (place_of (k := k) (nth_mem (l := ctorsOf w ⟨d, k⟩) (i := i) (by omega))) (t := y) (by rw [← hg3]; simp))) rfl .none rfl rfl (LeL.refl _) trivial rfl rfl rfl ?_
       refine Walk.sliceLit sl167 tz37 rfl (by decide) (ks := [0]) (xs := [_]) rfl rfl (by decide) (by decide) .none rfl rfl rfl rfl ?_
       refine Walk.append sl167 zz37 rfl .none rfl rfl rfl rfl (htokL rfl (by first | rfl | (simp; done) | (simp; omega))) (by simp) (by simp only [List.length_map, List.length_append, List.length_cons, List.length_nil, Val.cs_len] at *; omega) (by simp only [List.length_map, List.length_append, List.length_cons, List.length_nil, Val.cs_len] at *; omega) ?_
       refine evs [44, 85] [] ?_
       refine ar ?_
       refine Exists.intro ((pre2 ++ [y], rest2)) ⟨(by have hz := hg3; rw [← hz]; simp), (by simp), Sub.x (by kernel_rfl) (by kernel_rfl) ⟨⟨_, rfl, (LeA.eqi (by first | rfl | (simp; done)))⟩, ⟨⟨_, rfl, (LeA.glg (by first | rfl | (simp; done)))⟩, trivial⟩⟩ (by kernel_rfl) (by kernel_rfl) ⟨beq_nat_eq (by first | rfl | (simp; done) | (simp; omega) | (first | rfl | (simp; done))), trivial⟩⟩
      ·try simp only [Q, Val.cs_len, Ty.eta, Int.ofNat_lt, Int.ofNat_le] at h5p
       have hrest2 : rest2 = [] := by
        rcases rest2 with _ | ⟨a, b⟩
        ·rfl
        ·exfalso; have hz := congrArg List.length (hg3); simp only [List.length_append, List.length_cons, List.length_map] at hz; omega
       subst hrest2
       refine Walk.call (cr := []) cal149 (spec_l2Lists_fn (ls := pre2.map (allV w 400 n)) (most := 400) (by omega) (by have h9 := congrArg List.length hg3; simp only [List.length_append, List.length_nil, List.length_map] at h9 ⊢; omega) (by intro l hl; obtain ⟨z, _, rfl⟩ := List.mem_map.1 hl; have := allV_len w 400 (by omega) n z; omega)) rfl .none rfl rfl (.cons (.gl _ _) (.cons (.refl _) .nil)) trivial rfl rfl rfl ?_
       refine evs [44, 85] [] ?_
       refine CWp.loopX (ι := Nat) hk (fun j => [(17, .d (.i (j : Int))), (9, .gv 9 (((((ctorsOf w ⟨d, k⟩).take i).flatMap (allC w n ⟨d, k⟩) ++ ((tupV 400 (pre2.map (allV w 400 n))).take j).map (Val.mk (nth (ctorsOf w ⟨d, k⟩) i) 0)).take (400 + 1)).map Val.cc))]) [79, 80, 81, 82, 83, 84, 85, 86, 87, 88, 89, 90, 91, 92, 93, 94, 95, 96, 97, 98, 99, 100, 101, 102] (fun j => [(9, some (.tok ((((((ctorsOf w ⟨d, k⟩).take i).flatMap (allC w n ⟨d, k⟩) ++ ((tupV 400 (pre2.map (allV w 400 n))).take j).map (Val.mk (nth (ctorsOf w ⟨d, k⟩) i) 0)).take (400 + 1)).map Val.cc)).length 3))]) (fun j => j ≤ (tupV 400 (pre2.map (allV w 400 n))).length) (fun j => (tupV 400 (pre2.map (allV w 400 n))).length - j) 0 (by simp) ⟨⟨_, rfl, (LeA.eqi (by first | rfl | (simp; done) | (rw [tk_step (by omega) (by omega), List.map_append]; first | rfl | (simp; done))))⟩, ⟨⟨_, rfl, (LeA.gvg (by first | rfl | (simp; done) | (rw [tk_step (by omega) (by omega), List.map_append]; first | rfl | (simp; done))))⟩, trivial⟩⟩ ⟨beq_nat_eq (by first | rfl | (simp; done) | (simp; omega) | (first | rfl | (simp; done) | (rw [tk_step (by omega) (by omega), List.map_append]; first | rfl | (simp; done)))), trivial⟩ (fun x => rfl) (fun j hg4 => ?_)
       (try rw [List.append_nil] at hg3); have htl := tupV_len 400 (pre2.map (allV w 400 n))
       refine evc [44, 85] [] ?_
       refine sq (fun h6 h6p h6s => ?_) fun h6 h6p h6s => ?_
       ·try simp only [Q, Val.cs_len, Ty.eta, Int.ofNat_lt, Int.ofNat_le] at h6p
        refine Walk.lenV sl37 (.some rfl rfl h6) rfl rfl ?_
        refine evs [44, 85] [(83, true)] ?_ ⟨⟨_, rfl, h6⟩, trivial⟩
        refine sq (fun h7 h7p h7s => ?_) fun h7 h7p h7s => ?_
        ·try simp only [Q, Val.cs_len, Ty.eta, Int.ofNat_lt, Int.ofNat_le] at h7p
         refine Walk.idx sl66 .none rfl rfl rfl rfl (at_nth (by omega)) rfl ?_
         refine evd [44, 85] [] ?_
         refine Walk.idx sl167 .none rfl rfl rfl rfl (at_nth (by omega)) rfl ?_
         refine evd [44, 85] [] ?_
         refine Walk.build st39 (ks := [0, 2]) (xs := [_, _]) rfl rfl .none rfl rfl rfl ?_
         refine Walk.sliceLit sl37 tz39 rfl (by decide) (ks := [0]) (xs := [_]) rfl rfl (by decide) (by decide) .none rfl rfl rfl rfl ?_
         refine Walk.appendV sl37 zz39 .none rfl rfl rfl rfl (htokL rfl (by first | rfl | (simp; done) | (simp; omega))) (by simp) (by simp only [List.length_map, List.length_append, List.length_cons, List.length_nil, Val.cs_len] at *; omega) (by simp only [List.length_map, List.length_append, List.length_cons, List.length_nil, Val.cs_len] at *; omega) ?_
         refine evd [44, 85] [] ?_
         refine dr ?_
         refine ar ?_
         refine Exists.intro (j + 1) ⟨?_, ?_, Sub.x (by kernel_rfl) (by kernel_rfl) ⟨⟨_, rfl, (LeA.eqi (by first | rfl | (simp; done) | (rw [tk_step (by omega) (by omega), List.map_append]; first | rfl | (simp; done))))⟩, ⟨⟨_, rfl, (LeA.gvg (by first | rfl | (simp; done) | (rw [tk_step (by omega) (by omega), List.map_append]; first | rfl | (simp; done))))⟩, trivial⟩⟩ (by kernel_rfl) (by kernel_rfl) ⟨beq_nat_eq (by first | rfl | (simp; done) | (simp; omega) | (first | rfl | (simp; done) | (rw [tk_step (by omega) (by omega), List.map_append]; first | rfl | (simp; done)))), trivial⟩⟩
         all_goals first | omega | (simp_all; done) | (simp_all; omega)
        ·try simp only [Q, Val.cs_len, Ty.eta, Int.ofNat_lt, Int.ofNat_le] at h7p
         refine ar ?_
         refine Exists.intro (i + 1) ⟨?_, ?_, Sub.x (by kernel_rfl) (by kernel_rfl) ⟨⟨_, rfl, (LeA.eqi (by first | rfl | (simp; done) | (subst hg3; rw [fm_step (by omega), cA_exit (by omega)])))⟩, ⟨⟨_, rfl, (LeA.gvg (by first | rfl | (simp; done) | (subst hg3; rw [fm_step (by omega), cA_exit (by omega)])))⟩, trivial⟩⟩ (by kernel_rfl) (by kernel_rfl) ⟨beq_nat_eq (by first | rfl | (simp; done) | (simp; omega) | (first | rfl | (simp; done) | (subst hg3; rw [fm_step (by omega), cA_exit (by omega)]))), trivial⟩⟩
         all_goals first | omega | (simp_all; done) | (simp_all; omega)
       ·try simp only [Q, Val.cs_len, Ty.eta, Int.ofNat_lt, Int.ofNat_le] at h6p
        refine sqF ?_
        refine ar ?_
        refine Exists.intro (i + 1) ⟨?_, ?_, Sub.x (by kernel_rfl) (by kernel_rfl) ⟨⟨_, rfl, (LeA.eqi (by first | rfl | (simp; done) | (subst hg3; rw [fm_step (by omega), cA_exit (by omega)])))⟩, ⟨⟨_, rfl, (LeA.gvg (by first | rfl | (simp; done) | (subst hg3; rw [fm_step (by omega), cA_exit (by omega)])))⟩, trivial⟩⟩ (by kernel_rfl) (by kernel_rfl) ⟨beq_nat_eq (by first | rfl | (simp; done) | (simp; omega) | (first | rfl | (simp; done) | (subst hg3; rw [fm_step (by omega), cA_exit (by omega)]))), trivial⟩⟩
        all_goals first | omega | (simp_all; done) | (simp_all; omega)
     ·try simp only [Q, Val.cs_len, Ty.eta, Int.ofNat_lt, Int.ofNat_le] at h4p
      refine rn [(9, some (.tok ((allV w 400 (n + 1) ⟨(d : Int), k⟩).map Val.cc).length 3))] (r1 rfl) (.gvg ?_) ⟨rfl, rfl⟩ (SubH.get ⟨(by first | rfl | (show some (Res.tok _ _) = some (Res.tok _ _); congr 1; (first | (rw [allV_ctors hne, fm_exit (by omega)]; done) | (rw [allV_ctors hne, fm_exit (by omega)])))), trivial⟩) (boxOK rfl)
      all_goals ((first | (rw [allV_ctors hne, fm_exit (by omega)]; done) | (rw [allV_ctors hne, fm_exit (by omega)])))
    ·try simp only [Q, Val.cs_len, Ty.eta, Int.ofNat_lt, Int.ofNat_le] at h3p
     refine sqF ?_
     refine rn [(9, some (.tok ((allV w 400 (n + 1) ⟨(d : Int), k⟩).map Val.cc).length 3))] (r1 rfl) (.gvg ?_) ⟨rfl, rfl⟩ (SubH.get ⟨(by first | rfl | (show some (Res.tok _ _) = some (Res.tok _ _); congr 1; (first | (rw [allV_ctors hne, fm_exit (by omega)]; done) | (rw [allV_ctors hne, fm_exit (by omega)])))), trivial⟩) (boxOK rfl)
     all_goals ((first | (rw [allV_ctors hne, fm_exit (by omega)]; done) | (rw [allV_ctors hne, fm_exit (by omega)])))
theorem cut_cc : ∀ {L : List Val} {i : Nat}, i < L.length → cutC (((L.map Val.cc).flatten).map AV.d) (i * 3) 3 = some [.d (.i (nth L i).ctor), .d (.i (nth L i).num), .d (.sl (Val.cs (nth L i).kids))]
 | x :: r, 0, _ => by simp [cutC, nth]
 | x :: r, i + 1, h => by
  have := cut_cc (L := r) (i := i) (by simpa using h)
  rw [show (i + 1) * 3 = i * 3 + 1 + 1 + 1 by omega]
  simp only [List.map_cons, List.flatten_cons, List.cons_append, List.nil_append, cutC]
  exact this
theorem put_cc : ∀ {L : List Val} {i : Nat}, i < L.length → putC (((L.map Val.cc).flatten).map AV.d) (i * 3) [.d (.i (nth L i).ctor), .d (.i (nth L i).num), .d (.sl (Val.cs (nth L i).kids))] = some (((L.map Val.cc).flatten).map AV.d)
 | x :: r, 0, _ => by simp [putC, nth]
 | x :: r, i + 1, h => by
  have := put_cc (L := r) (i := i) (by simpa using h)
  rw [show (i + 1) * 3 = i * 3 + 1 + 1 + 1 by omega]
  simp only [List.map_cons, List.flatten_cons, List.cons_append, List.nil_append, putC]
  have e : nth (x :: r) (i + 1) = nth r i := rfl
  rw [e, this]
theorem chunk_cc (L : List Val) : chunkD (L.map Val.cc).length 3 (((L.map Val.cc).flatten).map AV.d) = some (L.map Val.cc) := by
 have := chunkD_flat (f := Val.cc) (k := 3) (l := L) (fun _ _ => rfl)
 rw [List.length_map, ← this]
 congr 1
 rw [List.map_flatten, List.flatMap_def, List.map_map]
 rfl
theorem allV_vut {w : List Data} {t : Ty} {n : Nat} : (allV w 400 n t).length ≤ 400 → countV w n t ≤ 400 ∧ allV w 400 n t = fullV w n t := fun h => by
 rw [allV_eq w 400 (by omega)] at h ⊢
 rw [List.length_take] at h
 rw [List.take_of_length_le (by omega), countV_eq]
 refine ⟨?_, rfl⟩
 have := capN_or (fullV w n t).length
 omega
theorem allV_vut' {w : List Data} {t : Ty} {n : Nat} : 400 < (allV w 400 n t).length → 400 < countV w n t := fun h => by
 rw [allV_eq w 400 (by omega), List.length_take] at h
 rw [countV_eq]
 have := capN_or (fullV w n t).length
 omega
theorem vut_yes {w : List Data} {t : Ty} {m : Int} (h1 : typeValid w t = true) (h2 : 0 ≤ m) (h3 : m ≤ 4) (h4 : (allV w 400 m.toNat t).length ≤ 400) : vut w t m = (allV w 400 m.toNat t, true) := by
 obtain ⟨q1, q2⟩ := allV_vut h4
 unfold vut
 rw [if_pos (by simp [within, h1, h2, h3, q1]), q2]
theorem vut_much {w : List Data} {t : Ty} {m : Int} (h4 : 400 < (allV w 400 m.toNat t).length) : vut w t m = ([], false) := by
 have := allV_vut' h4
 unfold vut
 rw [if_neg (by intro hh; simp at hh; omega)]
theorem vut_no {w : List Data} {t : Ty} {m : Int} (h : typeValid w t = false ∨ m < 0 ∨ 4 < m) : vut w t m = ([], false) := by
 unfold vut
 rw [if_neg (by intro hh; simp [within] at hh; rcases h with h | h | h; (rw [h] at hh; exact absurd hh.1 (by simp)); omega; omega)]
theorem spec_TypeValid_in {w : List Data} {a b : Int} (hs : WSmall w) : FnD Try.prog 61 [.d (encDatas w), .agg [.d (.i a), .d (.i b)]] [] (.d (.bool (typeValid w ⟨a, b⟩))) [] := by
 rw [← spec_tv]; exact spec_TypeValid_fn hs
theorem spec_ValuesUpTo_fn {w : List Data} (hs : WSmall w) {a k m : Int} : FnD Try.prog 62 [.d (encDatas w), .agg [.d (.i a), .d (.i k)], .d (.i m)] [] (.tup [.d (encVals (vut w ⟨a, k⟩ m).1), .d (.bool (vut w ⟨a, k⟩ m).2)]) [] := by
 refine bd Try.f62 46 [28, 42] [999999] fun w0 F0 own kept hk => ?_
 refine Walk.box (id := 3004) .none rfl rfl rfl rfl rfl rfl rfl ?_
 refine evs [28, 42] [] ?_
 refine Walk.call (cr := []) cal61 (spec_TypeValid_in hs) rfl .none rfl rfl (LeL.refl _) trivial rfl rfl rfl ?_
 refine evs [28, 42] [] ?_
 refine sq (fun h1 h1p h1s => ?_) fun h1 h1p h1s => ?_
 ·try simp only [Q, Val.cs_len, Int.ofNat_lt, Int.ofNat_le] at h1p
  refine sqT ?_
  refine sqT ?_
  refine Walk.sliceEmpty sl37 .none rfl ?_
  refine evs [28, 42] [] ?_
  refine CWp.ret ?_
  refine rn0 (r2 rfl rfl) (.tup (.cons (.eqd ?_) (.cons (.eqd ?_) .nil)))
  all_goals (first | (rw [vut_no] <;> first | rfl | (left; assumption) | (right; omega)) | (rw [vut_much] <;> first | rfl | omega) | (rw [vut_yes] <;> first | assumption | omega | rfl | exact congrArg D.sl (Val.cs_cc _).symm | exact congrArg D.sl ((Val.cs_cc _).trans hx1).symm))
 ·try simp only [Q, Val.cs_len, Int.ofNat_lt, Int.ofNat_le] at h1p
  refine sq (fun h3 h3p h3s => ?_) fun h3 h3p h3s => ?_
  ·try simp only [Q, Val.cs_len, Int.ofNat_lt, Int.ofNat_le] at h3p
   refine sqT ?_
   refine Walk.sliceEmpty sl37 .none rfl ?_
   refine evs [28, 42] [] ?_
   refine CWp.ret ?_
   refine rn0 (r2 rfl rfl) (.tup (.cons (.eqd ?_) (.cons (.eqd ?_) .nil)))
   all_goals (first | (rw [vut_no] <;> first | rfl | (left; assumption) | (right; omega)) | (rw [vut_much] <;> first | rfl | omega) | (rw [vut_yes] <;> first | assumption | omega | rfl | exact congrArg D.sl (Val.cs_cc _).symm | exact congrArg D.sl ((Val.cs_cc _).trans hx1).symm))
  ·try simp only [Q, Val.cs_len, Int.ofNat_lt, Int.ofNat_le] at h3p
   refine sq (fun h5 h5p h5s => ?_) fun h5 h5p h5s => ?_
   ·try simp only [Q, Val.cs_len, Int.ofNat_lt, Int.ofNat_le] at h5p
    refine Walk.sliceEmpty sl37 .none rfl ?_
    refine evs [28, 42] [] ?_
    refine CWp.ret ?_
    refine rn0 (r2 rfl rfl) (.tup (.cons (.eqd ?_) (.cons (.eqd ?_) .nil)))
    all_goals (first | (rw [vut_no] <;> first | rfl | (left; assumption) | (right; omega)) | (rw [vut_much] <;> first | rfl | omega) | (rw [vut_yes] <;> first | assumption | omega | rfl | exact congrArg D.sl (Val.cs_cc _).symm | exact congrArg D.sl ((Val.cs_cc _).trans hx1).symm))
   ·try simp only [Q, Val.cs_len, Int.ofNat_lt, Int.ofNat_le] at h5p
    refine Walk.call (cr := [9]) cal108 (spec_l2All_gv (tv_wt hs (by assumption)) m.toNat (by omega) (by omega) (tv_in (by assumption))) rfl .none rfl rfl (LeL.refl _) trivial rfl rfl rfl ?_
    refine evs [28, 42] [] ?_
    refine Walk.lenV sl37 .none rfl rfl ?_
    refine evs [28, 42] [] ?_
    refine sq (fun h6 h6p h6s => ?_) fun h6 h6p h6s => ?_
    ·try simp only [Q, Val.cs_len, Int.ofNat_lt, Int.ofNat_le] at h6p
     refine Walk.sliceEmpty sl37 .none rfl ?_
     refine evs [28, 42] [] ?_
     refine CWp.ret ?_
     refine rn0 (r2 rfl rfl) (.tup (.cons (.eqd ?_) (.cons (.eqd ?_) .nil)))
     all_goals (first | (rw [vut_no] <;> first | rfl | (left; assumption) | (right; omega)) | (rw [vut_much] <;> first | rfl | omega) | (rw [vut_yes] <;> first | assumption | omega | rfl | exact congrArg D.sl (Val.cs_cc _).symm | exact congrArg D.sl ((Val.cs_cc _).trans hx1).symm))
    ·try simp only [Q, Val.cs_len, Int.ofNat_lt, Int.ofNat_le] at h6p
     refine CWp.fixV hk 8 9 3 rfl rfl rfl (fun hx1 => ?_) (fun hx1 => ?_)
     ·
      refine CWp.loopX (ι := Unit) hk (fun u => [(9, .d (.i 0))]) [31, 32, 33, 34, 35, 36, 37, 38, 39, 40, 41, 42, 43, 44] (fun u => []) (fun u => True) (fun u => 0) () trivial ⟨⟨_, rfl, (LeA.eqi (by first | rfl | (simp; done) | (simp_all; done) | omega))⟩, trivial⟩ trivial (fun x => rfl) (fun u hg1 => ?_)
      refine evc [28, 42] [999999] ?_
      refine sq (fun h7 h7p h7s => ?_) fun h7 h7p h7s => ?_
      ·try simp only [Q, Val.cs_len, Int.ofNat_lt, Int.ofNat_le] at h7p
       exfalso; simp at h7 --stop
      ·try simp only [Q, Val.cs_len, Int.ofNat_lt, Int.ofNat_le] at h7p
       refine CWp.ret ?_
       refine rn0 (r2 rfl rfl) (.tup (.cons (.eqd ?_) (.cons (.eqd ?_) .nil)))
       all_goals (first | (rw [vut_no] <;> first | rfl | (left; assumption) | (right; omega)) | (rw [vut_much] <;> first | rfl | omega) | (rw [vut_yes] <;> first | assumption | omega | rfl | exact congrArg D.sl (Val.cs_cc _).symm | exact congrArg D.sl ((Val.cs_cc _).trans hx1).symm))
     ·
      refine CWp.loopX (ι := Nat) hk (fun i => [(9, .d (.i (i : Int)))]) [31, 32, 33, 34, 35, 36, 37, 38, 39, 40, 41, 42, 43, 44] (fun i => [(9, some (.box (((allV w 400 m.toNat ⟨a, k⟩).map Val.cc).flatten.map .d)))]) (fun i => i ≤ (allV w 400 m.toNat ⟨a, k⟩).length) (fun i => (allV w 400 m.toNat ⟨a, k⟩).length - i) 0 (by simp) ⟨⟨_, rfl, (LeA.eqi (by first | rfl | (simp; done) | (simp_all; done) | omega))⟩, trivial⟩ ⟨(by first | rfl | (simp [getH]; done)), trivial⟩ (fun x => rfl) (fun i hg1 => ?_)
      refine evc [28, 42] [999999] ?_
      refine sq (fun h8 h8p h8s => ?_) fun h8 h8p h8s => ?_
      ·try simp only [Q, Val.cs_len, Int.ofNat_lt, Int.ofNat_le] at h8p
       refine Walk.idxM sl37 .none rfl rfl rfl rfl (by first | omega | (simp [Val.cs_len, Int.ofNat_lt, Int.ofNat_le]; omega)) ?_
       refine Walk.loadBA ty39 .none rfl rfl rfl ((cut_cc (by omega))) ?_
       refine Walk.call (cr := []) cal109 (spec_l2Copy_fn (nth (allV w 400 m.toNat ⟨a, k⟩) i).size (Nat.le_refl _) (fullV_ok (tv_wt hs (by assumption)) m.toNat (tv_in (t := ⟨a, k⟩) (by assumption)) _ (by have h9 := (allV_vut (w := w) (t := ⟨a, k⟩) (n := m.toNat) (by omega)).2; rw [← h9]; exact nth_mem (by omega)))) rfl .none rfl rfl (LeL.refl _) trivial rfl rfl rfl ?_
       refine Walk.idxM sl37 .none rfl rfl rfl rfl (by first | omega | (simp [Val.cs_len, Int.ofNat_lt, Int.ofNat_le]; omega)) ?_
       refine Walk.store ty39 .none rfl rfl rfl rfl rfl rfl (by simp) ((put_cc (by omega))) ?_
       refine tv ?_
       refine ar ?_
       refine Exists.intro (i + 1) ⟨?_, ?_, Sub.x (by kernel_rfl) (by kernel_rfl) ⟨⟨_, rfl, (LeA.eqi (by first | rfl | (simp; done) | (simp_all; done) | omega))⟩, trivial⟩ (by kernel_rfl) (by kernel_rfl) ⟨(by first | rfl | (simp [getH]; done)), trivial⟩⟩
       all_goals first | omega | (simp_all; done) | (simp_all; omega)
      ·try simp only [Q, Val.cs_len, Int.ofNat_lt, Int.ofNat_le] at h8p
       refine CWp.frz hk 6 9 _ _ rfl rfl (chunk_cc _) rfl ?_
       refine CWp.ret ?_
       refine rn0 (r2 rfl rfl) (.tup (.cons (.eqd ?_) (.cons (.eqd ?_) .nil)))
       all_goals (first | (rw [vut_no] <;> first | rfl | (left; assumption) | (right; omega)) | (rw [vut_much] <;> first | rfl | omega) | (rw [vut_yes] <;> first | assumption | omega | rfl | exact congrArg D.sl (Val.cs_cc _).symm | exact congrArg D.sl ((Val.cs_cc _).trans hx1).symm))
theorem valsEq_take {x y : List Val} {i : Nat} (hl : x.length = y.length) (hi : i < x.length) : valsEq (x.take (i + 1)) (y.take (i + 1)) = (valsEq (x.take i) (y.take i) && valEq (nth x i) (nth y i)) := by
 rw [List.take_succ_eq_append_getElem hi, List.take_succ_eq_append_getElem (by omega : i < y.length), valsEq_split (by simp; omega), nth_eq hi, nth_eq (by omega : i < y.length)]
 simp [valsEq]
theorem valsEq_false_more {x y : List Val} {i : Nat} (hl : x.length = y.length) (h : valsEq (x.take i) (y.take i) = false) : valsEq x y = false := by
 have := valsEq_split (p := x.take i) (q := y.take i) (a := x.drop i) (b := y.drop i) (by simp; omega)
 rw [List.take_append_drop, List.take_append_drop] at this
 rw [this, h]; rfl
def sameTo (x y : List Val) (i : Nat) : Bool := decide (x.length = y.length) && valsEq (x.take i) (y.take i)
theorem sameTo_done {x y : List Val} {i : Nat} (h : ¬ i < x.length ∨ sameTo x y i = false) : sameTo x y i = valsEq x y := by
 by_cases hl : x.length = y.length
 ·have e : sameTo x y i = valsEq (x.take i) (y.take i) := by unfold sameTo; rw [decide_eq_true hl, Bool.true_and]
  rw [e] at h ⊢
  rcases h with h | h
  ·rw [List.take_of_length_le (by omega), List.take_of_length_le (by omega)]
  ·rw [h, valsEq_false_more hl h]
 ·rw [valsEq_len hl]; unfold sameTo; rw [decide_eq_false hl, Bool.false_and]
theorem sameTo_zero (x y : List Val) : decide (((Val.cs x).length : Int) = ((Val.cs y).length : Int)) = sameTo x y 0 := by
 simp [sameTo, valsEq, Val.cs_len, Int.natCast_inj]
theorem sameV_no {w : List Data} {a b : Ty} (h : ¬ a.data = b.data ∨ (vut w a 2).2 = false ∨ (vut w b 2).2 = false) : sameV w a b = (false, false) := by
 unfold sameV
 rcases h with h | h | h
 ·rw [if_neg]; simp [h]
 ·rw [if_neg]; simp [h]
 ·rw [if_neg]; simp [h]
theorem sameV_tv {w : List Data} {a b : Ty} (h : typeValid w a = false ∨ typeValid w b = false) : sameV w a b = (false, false) := by
 rcases h with h | h
 ·exact sameV_no (.inr (.inl (by rw [vut_no (.inl h)])))
 ·exact sameV_no (.inr (.inr (by rw [vut_no (.inl h)])))
theorem sameV_yes {w : List Data} {a b : Ty} (h : a.data = b.data) (h1 : (vut w a 2).2 = true) (h2 : (vut w b 2).2 = true) : sameV w a b = (valsEq (vut w a 2).1 (vut w b 2).1, true) := by
 unfold sameV; rw [if_pos]; simp [h, h1, h2]
theorem sameTo_next {x y : List Val} {i : Nat} (hi : i < x.length) (h : sameTo x y i = true) : sameTo x y (i + 1) = valEq (nth x i) (nth y i) := by
 unfold sameTo at *
 rw [Bool.and_eq_true, decide_eq_true_eq] at h
 rw [valsEq_take h.1 hi, h.2]
 simp [h.1]
theorem spec_SameValues_fn {w : List Data} (hs : WSmall w) {a k a' k' : Int} : FnD Try.prog 19 [.d (encDatas w), .agg [.d (.i a), .d (.i k)], .agg [.d (.i a'), .d (.i k')]] [] (.tup [.d (.bool (sameV w ⟨a, k⟩ ⟨a', k'⟩).1), .d (.bool (sameV w ⟨a, k⟩ ⟨a', k'⟩).2)]) [] := by
 have hl1 := vut_len w ⟨a, k⟩ 2
 have hl2 := vut_len w ⟨a', k'⟩ 2
 refine bd Try.f19 73 [] [] fun w0 F0 own kept hk => ?_
 refine Walk.box (id := 3004) .none rfl rfl rfl rfl rfl rfl rfl ?_
 refine Walk.box (id := 3005) .none rfl rfl rfl rfl rfl rfl rfl ?_
 refine ev ?_
 refine Walk.call (cr := []) cal61 (spec_TypeValid_in hs) rfl .none rfl rfl (LeL.refl _) trivial rfl rfl rfl ?_
 refine ev ?_
 refine sq (fun h1 h1p h1s => ?_) fun h1 h1p h1s => ?_
 ·try simp only [Q, Val.cs_len, Int.ofNat_lt, Int.ofNat_le] at h1p
  refine sqT ?_
  refine sqT ?_
  refine rn0 (r2 rfl rfl) (.tup (.cons (.eqd ?_) (.cons (.eqd ?_) .nil)))
  all_goals (first | (rw [sameV_tv] <;> first | rfl | (left; assumption) | (right; assumption)) | (rw [sameV_no] <;> first | rfl | (left; show ¬ _ = _; omega) | (right; left; assumption) | (right; right; assumption)) | (rw [sameV_yes] <;> first | rfl | assumption | (show _ = _; omega) | (refine congrArg D.bool (sameTo_done ?_); first | (left; omega) | (right; assumption))))
 ·try simp only [Q, Val.cs_len, Int.ofNat_lt, Int.ofNat_le] at h1p
  refine Walk.call (cr := []) cal61 (spec_TypeValid_in hs) rfl (.some rfl rfl h1) rfl rfl (LeL.refl _) trivial rfl rfl rfl ?_
  refine evs [] [(18, false)] ?_ ⟨⟨_, rfl, h1⟩, trivial⟩
  refine sq (fun h3 h3p h3s => ?_) fun h3 h3p h3s => ?_
  ·try simp only [Q, Val.cs_len, Int.ofNat_lt, Int.ofNat_le] at h3p
   refine sqT ?_
   refine rn0 (r2 rfl rfl) (.tup (.cons (.eqd ?_) (.cons (.eqd ?_) .nil)))
   all_goals (first | (rw [sameV_tv] <;> first | rfl | (left; assumption) | (right; assumption)) | (rw [sameV_no] <;> first | rfl | (left; show ¬ _ = _; omega) | (right; left; assumption) | (right; right; assumption)) | (rw [sameV_yes] <;> first | rfl | assumption | (show _ = _; omega) | (refine congrArg D.bool (sameTo_done ?_); first | (left; omega) | (right; assumption))))
  ·try simp only [Q, Val.cs_len, Int.ofNat_lt, Int.ofNat_le] at h3p
   refine sq (fun h5 h5p h5s => ?_) fun h5 h5p h5s => ?_
   ·try simp only [Q, Val.cs_len, Int.ofNat_lt, Int.ofNat_le] at h5p
    refine rn0 (r2 rfl rfl) (.tup (.cons (.eqd ?_) (.cons (.eqd ?_) .nil)))
    all_goals (first | (rw [sameV_tv] <;> first | rfl | (left; assumption) | (right; assumption)) | (rw [sameV_no] <;> first | rfl | (left; show ¬ _ = _; omega) | (right; left; assumption) | (right; right; assumption)) | (rw [sameV_yes] <;> first | rfl | assumption | (show _ = _; omega) | (refine congrArg D.bool (sameTo_done ?_); first | (left; omega) | (right; assumption))))
   ·try simp only [Q, Val.cs_len, Int.ofNat_lt, Int.ofNat_le] at h5p
    refine Walk.call (cr := []) cal62 (spec_ValuesUpTo_fn hs) rfl .none rfl rfl (LeL.refl _) trivial rfl rfl rfl ?_
    refine ev ?_
    refine Walk.call (cr := []) cal62 (spec_ValuesUpTo_fn hs) rfl .none rfl rfl (LeL.refl _) trivial rfl rfl rfl ?_
    refine ev ?_
    refine sq (fun h6 h6p h6s => ?_) fun h6 h6p h6s => ?_
    ·try simp only [Q, Val.cs_len, Int.ofNat_lt, Int.ofNat_le] at h6p
     refine sqT ?_
     refine rn0 (r2 rfl rfl) (.tup (.cons (.eqd ?_) (.cons (.eqd ?_) .nil)))
     all_goals (first | (rw [sameV_tv] <;> first | rfl | (left; assumption) | (right; assumption)) | (rw [sameV_no] <;> first | rfl | (left; show ¬ _ = _; omega) | (right; left; assumption) | (right; right; assumption)) | (rw [sameV_yes] <;> first | rfl | assumption | (show _ = _; omega) | (refine congrArg D.bool (sameTo_done ?_); first | (left; omega) | (right; assumption))))
    ·try simp only [Q, Val.cs_len, Int.ofNat_lt, Int.ofNat_le] at h6p
     refine sq (fun h8 h8p h8s => ?_) fun h8 h8p h8s => ?_
     ·try simp only [Q, Val.cs_len, Int.ofNat_lt, Int.ofNat_le] at h8p
      refine rn0 (r2 rfl rfl) (.tup (.cons (.eqd ?_) (.cons (.eqd ?_) .nil)))
      all_goals (first | (rw [sameV_tv] <;> first | rfl | (left; assumption) | (right; assumption)) | (rw [sameV_no] <;> first | rfl | (left; show ¬ _ = _; omega) | (right; left; assumption) | (right; right; assumption)) | (rw [sameV_yes] <;> first | rfl | assumption | (show _ = _; omega) | (refine congrArg D.bool (sameTo_done ?_); first | (left; omega) | (right; assumption))))
     ·try simp only [Q, Val.cs_len, Int.ofNat_lt, Int.ofNat_le] at h8p
      refine CWp.loopX (ι := Nat) hk (fun i => [(13, .d (.i (i : Int))), (12, .d (.bool (sameTo (vut w ⟨a, k⟩ 2).1 (vut w ⟨a', k'⟩ 2).1 i)))]) [54, 55, 56, 57, 58, 59, 60, 61, 62, 63, 64, 65, 66, 67, 68, 69, 70, 71] (fun i => []) (fun i => i ≤ (vut w ⟨a, k⟩ 2).1.length) (fun i => (vut w ⟨a, k⟩ 2).1.length - i) 0 (by simp) ⟨⟨_, rfl, (LeA.eqi (by first | rfl | exact sameTo_zero _ _ | (rw [sameTo_next (by omega) (by assumption)])))⟩, ⟨⟨_, rfl, (LeA.eqb (by first | rfl | exact sameTo_zero _ _ | (rw [sameTo_next (by omega) (by assumption)])))⟩, trivial⟩⟩ trivial (fun x => rfl) (fun i hg1 => ?_)
      refine evc [] [] ?_
      refine sq (fun h9 h9p h9s => ?_) fun h9 h9p h9s => ?_
      ·try simp only [Q, Val.cs_len, Int.ofNat_lt, Int.ofNat_le] at h9p
       refine sq (fun h10 h10p h10s => ?_) fun h10 h10p h10s => ?_
       ·try simp only [Q, Val.cs_len, Int.ofNat_lt, Int.ofNat_le] at h10p
        refine Walk.idx sl37 .none rfl rfl rfl rfl (vals_at (by first | omega | (unfold sameTo at *; simp at *; omega))) rfl ?_
        refine evd [] [] ?_
        refine Walk.idx sl37 .none rfl rfl rfl rfl (vals_at (by first | omega | (unfold sameTo at *; simp at *; omega))) rfl ?_
        refine evd [] [] ?_
        refine Walk.call (cr := []) cal63 (spec_ValueSame_fn (nth (vut w ⟨a, k⟩ 2).1 i).size (Nat.le_refl _) (vut_ok hs _ _ _ (nth_mem (by omega)))) rfl .none rfl rfl (LeL.refl _) trivial rfl rfl rfl ?_
        refine evd [] [] ?_
        refine dr ?_
        refine ar ?_
        refine Exists.intro (i + 1) ⟨?_, ?_, Sub.x (by kernel_rfl) (by kernel_rfl) ⟨⟨_, rfl, (LeA.eqi (by first | rfl | exact sameTo_zero _ _ | (rw [sameTo_next (by omega) (by assumption)])))⟩, ⟨⟨_, rfl, (LeA.eqb (by first | rfl | exact sameTo_zero _ _ | (rw [sameTo_next (by omega) (by assumption)])))⟩, trivial⟩⟩ (by kernel_rfl) (by kernel_rfl) trivial⟩
        all_goals first | omega | (simp_all; done) | (simp_all; omega)
       ·try simp only [Q, Val.cs_len, Int.ofNat_lt, Int.ofNat_le] at h10p
        refine rn0 (r2 rfl rfl) (.tup (.cons (.eqd ?_) (.cons (.eqd ?_) .nil)))
        all_goals (first | (rw [sameV_tv] <;> first | rfl | (left; assumption) | (right; assumption)) | (rw [sameV_no] <;> first | rfl | (left; show ¬ _ = _; omega) | (right; left; assumption) | (right; right; assumption)) | (rw [sameV_yes] <;> first | rfl | assumption | (show _ = _; omega) | (refine congrArg D.bool (sameTo_done ?_); first | (left; omega) | (right; assumption))))
      ·try simp only [Q, Val.cs_len, Int.ofNat_lt, Int.ofNat_le] at h9p
       refine sqF ?_
       refine rn0 (r2 rfl rfl) (.tup (.cons (.eqd ?_) (.cons (.eqd ?_) .nil)))
       all_goals (first | (rw [sameV_tv] <;> first | rfl | (left; assumption) | (right; assumption)) | (rw [sameV_no] <;> first | rfl | (left; show ¬ _ = _; omega) | (right; left; assumption) | (right; right; assumption)) | (rw [sameV_yes] <;> first | rfl | assumption | (show _ = _; omega) | (refine congrArg D.bool (sameTo_done ?_); first | (left; omega) | (right; assumption))))
mutual
theorem valEq_symm : ∀ a b : Val, valEq a b = valEq b a
 | .mk a n ks, .mk b m ls => by
  have h1 : decide (a = b) = decide (b = a) := decide_eq_decide.2 eq_comm
  have h2 : decide (n = m) = decide (m = n) := decide_eq_decide.2 eq_comm
  simp only [valEq]
  rw [h1, h2, valsEq_symm ks ls]
theorem valsEq_symm : ∀ l m : List Val, valsEq l m = valsEq m l
 | [], [] => rfl
 | [], _ :: _ => rfl
 | _ :: _, [] => rfl
 | x :: r, y :: s => by
  simp only [valsEq]
  rw [valEq_symm x y, valsEq_symm r s]
end
mutual
theorem valEq_same : ∀ a : Val, valEq a a = true
 | .mk a n ks => by simp [valEq, valsEq_same ks]
theorem valsEq_same : ∀ l : List Val, valsEq l l = true
 | [] => rfl
 | x :: r => by simp [valsEq, valEq_same x, valsEq_same r]
end
theorem sameV_comm (w : List Data) (a b : Ty) : sameV w b a = sameV w a b := by
 unfold sameV
 have h1 : decide (b.data = a.data) = decide (a.data = b.data) := decide_eq_decide.2 eq_comm
 rw [h1, valsEq_symm]
 cases (vut w a 2).2 <;> cases (vut w b 2).2 <;> rfl
theorem sameV_refl {w : List Data} {a : Ty} (h : (sameV w a a).2 = true) : (sameV w a a).1 = true := by
 unfold sameV at h ⊢
 split
 ·exact valsEq_same _
 ·rename_i hn; rw [if_neg hn] at h; cases h
theorem laws_FnSameValues_fn {b : Str} (hb : b.length ≤ 1000000000000) : FnD Try.prog 4 [.d (encBytes b)] [] (.d (.bool true)) [] := by
 have hdr := spec_DrawSameValues_fn hb
 have hs : WSmall (drawT (b.take 2000)).1 := worldD_small
 generalize drawT (b.take 2000) = q at *
 obtain ⟨w, ⟨a, k⟩, ⟨a', k'⟩⟩ := q
 dsimp only at hdr hs
 have himp := impl_SameValues_fn hs (a := a) (k := k) (a' := a') (k' := k')
 have hrev := impl_SameValues_fn hs (a := a') (k := k') (a' := a) (k' := k)
 have hspec := spec_SameValues_fn hs (a := a) (k := k) (a' := a') (k' := k')
 rw [sameV_comm] at hrev
 have hrf : a = a' → k = k' → (sameV w ⟨a, k⟩ ⟨a', k'⟩).2 = true → (sameV w ⟨a, k⟩ ⟨a', k'⟩).1 = true := fun h1 h2 h => by subst h1; subst h2; exact sameV_refl h
 generalize sameV w ⟨a, k⟩ ⟨a', k'⟩ = v at *
 obtain ⟨v1, v2⟩ := v
 dsimp only at himp hrev hspec hrf
 refine bd Try.f4 72 [44, 48, 53, 58, 66] [] fun w0 F0 own kept hk => ?_
 refine sq (fun h1 h1p h1s => ?_) fun h1 h1p h1s => ?_
 ·try simp only [Q] at h1p
  refine rn0 (r1 rfl) (.eqd ?_)
  all_goals (first | rfl | (exfalso; simp_all; done) | (refine congrArg D.bool ?_; simp_all; done) | (cases v1 <;> cases v2 <;> simp_all; done))
 ·try simp only [Q] at h1p
  refine Walk.call (cr := []) cal17 (hdr) rfl .none rfl rfl (LeL.refl _) trivial rfl rfl rfl ?_
  refine evs [44, 48, 53, 58, 66] [] ?_
  refine Walk.alloc (id := 3004) tz31 rfl .none rfl rfl rfl rfl ?_
  refine Walk.alloc (id := 3005) tz31 rfl .none rfl rfl rfl rfl ?_
  refine evs [44, 48, 53, 58, 66] [] ?_
  refine Walk.store ty31 .none rfl rfl rfl rfl rfl rfl (by simp) rfl ?_
  refine Walk.store ty31 .none rfl rfl rfl rfl rfl rfl (by simp) rfl ?_
  refine tv ?_
  refine Walk.call (cr := []) cal18 (himp) rfl .none rfl rfl (LeL.refl _) trivial rfl rfl rfl ?_
  refine evs [44, 48, 53, 58, 66] [] ?_
  refine Walk.call (cr := []) cal19 (hspec) rfl .none rfl rfl (LeL.refl _) trivial rfl rfl rfl ?_
  refine evs [44, 48, 53, 58, 66] [] ?_
  refine Walk.call (cr := []) cal18 (hrev) rfl .none rfl rfl (LeL.refl _) trivial rfl rfl rfl ?_
  refine evs [44, 48, 53, 58, 66] [] ?_
  refine Walk.eqB un4 .none rfl rfl rfl ?_
  refine evs [44, 48, 53, 58, 66] [] ?_
  refine sq (fun h2 h2p h2s => ?_) fun h2 h2p h2s => ?_
  ·try simp only [Q] at h2p
   refine Walk.eqB un4 (.some rfl rfl h2) rfl rfl rfl ?_
   refine evs [44, 48, 53, 58, 66] [(45, true)] ?_ ⟨⟨_, rfl, h2⟩, trivial⟩
   refine sq (fun h3 h3p h3s => ?_) fun h3 h3p h3s => ?_
   ·try simp only [Q] at h3p
    refine Walk.eqB un4 (.some rfl rfl h3) rfl rfl rfl ?_
    refine evs [44, 48, 53, 58, 66] [(50, true)] ?_ ⟨⟨_, rfl, h3⟩, trivial⟩
    refine sq (fun h4 h4p h4s => ?_) fun h4 h4p h4s => ?_
    ·try simp only [Q] at h4p
     refine Walk.eqB un4 (.some rfl rfl h4) rfl rfl rfl ?_
     refine evs [44, 48, 53, 58, 66] [(55, true)] ?_ ⟨⟨_, rfl, h4⟩, trivial⟩
     refine sq (fun h5 h5p h5s => ?_) fun h5 h5p h5s => ?_
     ·try simp only [Q] at h5p
      refine sq (fun h6 h6p h6s => ?_) fun h6 h6p h6s => ?_
      ·try simp only [Q] at h6p
       refine sqT ?_
       refine rn0 (r1 rfl) (.eqd ?_)
       all_goals (first | rfl | (exfalso; simp_all; done) | (refine congrArg D.bool ?_; simp_all; done) | (cases v1 <;> cases v2 <;> simp_all; done))
      ·try simp only [Q] at h6p
       refine Walk.neV eq31 (.some rfl rfl h6) rfl rfl rfl rfl rfl ?_
       refine evs [44, 48, 53, 58, 66] [(60, true), (63, false)] ?_ ⟨⟨_, rfl, h5⟩, ⟨_, rfl, h6⟩, trivial⟩
       refine sq (fun h7 h7p h7s => ?_) fun h7 h7p h7s => ?_
       ·try simp only [Q] at h7p
        refine rn0 (r1 rfl) (.eqd ?_)
        all_goals (first | rfl | (exfalso; simp_all; done) | (refine congrArg D.bool ?_; simp_all; done) | (cases v1 <;> cases v2 <;> simp_all; done))
       ·try simp only [Q] at h7p
        refine rn0 (r1 rfl) (.eqd ?_)
        all_goals (first | rfl | (exfalso; simp_all; done) | (refine congrArg D.bool ?_; simp_all; done) | (cases v1 <;> cases v2 <;> simp_all; done))
     ·try simp only [Q] at h5p
      refine rn0 (r1 rfl) (.eqd ?_)
      all_goals (first | rfl | (exfalso; simp_all; done) | (refine congrArg D.bool ?_; simp_all; done) | (cases v1 <;> cases v2 <;> simp_all; done))
    ·try simp only [Q] at h4p
     refine sqF ?_
     refine rn0 (r1 rfl) (.eqd ?_)
     all_goals (first | rfl | (exfalso; simp_all; done) | (refine congrArg D.bool ?_; simp_all; done) | (cases v1 <;> cases v2 <;> simp_all; done))
   ·try simp only [Q] at h3p
    refine sqF ?_
    refine sqF ?_
    refine rn0 (r1 rfl) (.eqd ?_)
    all_goals (first | rfl | (exfalso; simp_all; done) | (refine congrArg D.bool ?_; simp_all; done) | (cases v1 <;> cases v2 <;> simp_all; done))
  ·try simp only [Q] at h2p
   refine sqF ?_
   refine sqF ?_
   refine sqF ?_
   refine rn0 (r1 rfl) (.eqd ?_)
   all_goals (first | rfl | (exfalso; simp_all; done) | (refine congrArg D.bool ?_; simp_all; done) | (cases v1 <;> cases v2 <;> simp_all; done))
end Go.Proofs.Ytpimgoacljakgaa
namespace Go.Proofs.Ytpimgoacljakgaa
open Go Go.ChangeShapes Go.WideShapes Go.ChangeAt Go.RowKit
set_option linter.unusedSimpArgs false
set_option linter.unusedVariables false
set_option linter.unusedVariables false
def FW (W : World) (b : Nat) : Nat := match W.heap[b]? with
 | some (.cells cs _ _) => cs.size
 | _ => 0
theorem FW_cell {W : World} {b o : Nat} {v : Value} (h : W.cell? ⟨b, o, none⟩ = some v) : o < FW W b := by
 unfold World.cell? at h
 unfold FW
 simp only at h
 split at h
 ·rename_i c t fr hb
  simp only [hb]
  simp only [Option.isSome_none, Bool.false_eq_true, if_false] at h
  exact (Array.getElem?_eq_some_iff.1 h).1
 ·cases h
theorem FW_top {W : World} {b : Nat} (h : W.heap.size ≤ b) : FW W b = 0 := by
 unfold FW
 rw [Array.getElem?_eq_none h]
structure RelL (W : World) (xs : List D) (cs : List Value) : Prop where
 len : xs.length = cs.length
 rel : ∀ i (h1 : i < xs.length) (h2 : i < cs.length), RelD (FW W) W xs[i] cs[i]
theorem RelL.append {W : World} {xs ys : List D} {cs ds : List Value} (h : RelL W xs cs) (k : RelL W ys ds) : RelL W (xs ++ ys) (cs ++ ds) := by
 refine ⟨by simp [h.len, k.len], fun i h1 h2 => ?_⟩
 by_cases hi : i < xs.length
 ·rw [List.getElem_append_left hi, List.getElem_append_left (by rw [← h.len]; exact hi)]
  exact h.rel i hi (by rw [← h.len]; exact hi)
 ·have hl := h.len
  rw [List.getElem_append_right (by omega), List.getElem_append_right (by omega)]
  have e : i - xs.length = i - cs.length := by omega
  have h1' : i - xs.length < ys.length := by simp only [List.length_append] at h1; omega
  have h2' : i - cs.length < ds.length := by simp only [List.length_append] at h2; omega
  have := k.rel (i - xs.length) h1' (by omega)
  simp only [e] at this ⊢
  exact this
def Dec (P : Program) (W : World) (n : Nat) (t : TypeId) {α : Type} (f : α → List D) (m : α → Nat) (R : α → Prop) : Prop :=
 ∀ (H : Type) (enc : TypeId × Value → H) (cs : List Value) (x : DataW H × List MemPlace), DataW.trod enc P W 0 (fun _ => true) true n t cs = some x →
  ∃ a, RelL W (f a) cs ∧ m a + 1 ≤ Rows.uptoBulk x.1 ∧ R a
section
variable {P : Program} {W : World} {n : Nat} {t : TypeId}
theorem Dec.zero {α : Type} {f : α → List D} {m : α → Nat} {R : α → Prop} : Dec P W 0 t f m R := fun H enc cs x h => by simp [DataW.trod] at h
theorem Dec.map {α β : Type} {f : α → List D} {m : α → Nat} {R : α → Prop} {f' : β → List D} {m' : β → Nat} {R' : β → Prop} (g : α → β) (h : Dec P W n t f m R)
  (h1 : ∀ a, f' (g a) = f a) (h2 : ∀ a, m' (g a) ≤ m a) (h3 : ∀ a, R a → R' (g a)) : Dec P W n t f' m' R' := fun H enc cs x hx => by
 obtain ⟨a, q1, q2, q3⟩ := h H enc cs x hx
 exact ⟨g a, by rw [h1]; exact q1, by have := h2 a; omega, h3 a q3⟩
theorem RelL.one {x : D} {v : Value} (h : RelD (FW W) W x v) : RelL W [x] [v] :=
 ⟨rfl, fun i h1 h2 => by
  have : i = 0 := by simp at h1; omega
  subst this
  exact h⟩
theorem Dec.int {k : IntKind} (ht : P.underlying t = some (.int k)) : Dec P W n t (fun z : Int => [.int k z]) (fun _ => 0) (fun z => (Lit.int k z).wf = true) := fun H enc cs x h => by
 obtain ⟨z, rfl, rfl, hw⟩ := DataW.trod_int ht h
 exact ⟨z, .one (.int k z), by simp [Rows.uptoBulk], hw⟩
theorem Dec.bool (ht : P.underlying t = some .bool) : Dec P W n t (fun z : Bool => [.bool z]) (fun _ => 0) (fun _ => True) := fun H enc cs x h => by
 obtain ⟨z, rfl, rfl⟩ := DataW.trod_bool ht h
 exact ⟨z, .one (.bool z), by simp [Rows.uptoBulk], trivial⟩
theorem Dec.str (ht : P.underlying t = some .string) : Dec P W n t (fun s : Str => [.str s]) (fun s => s.length) (fun _ => True) := fun H enc cs x h => by
 obtain ⟨s, rfl, rfl, hw⟩ := DataW.trod_string ht h
 exact ⟨s.data.toList, .one (by have := RelD.str (F := FW W) (w := W) s.data.toList; simpa using this), by simp [Rows.uptoBulk], trivial⟩
def sumM {α : Type} (m : α → Nat) : List α → Nat
 | [] => 0
 | a :: r => m a + 1 + sumM m r
theorem sumM_len {α : Type} (m : α → Nat) : ∀ l : List α, l.length ≤ sumM m l
 | [] => by simp [sumM]
 | a :: r => by have := sumM_len m r; simp only [sumM, List.length_cons]; omega
theorem choose_list {α β : Type} {Q : Nat → α → β → Prop} : ∀ (l : List β) (o : Nat), (∀ i (h : i < l.length), ∃ a, Q (o + i) a l[i]) → ∃ zs : List α, zs.length = l.length ∧ ∀ i (h : i < l.length) (h' : i < zs.length), Q (o + i) zs[i] l[i]
 | [], o, _ => ⟨[], rfl, fun i h => by simp at h⟩
 | b :: r, o, h => by
  obtain ⟨a, ha⟩ := h 0 (by simp)
  obtain ⟨zs, h1, h2⟩ := choose_list (Q := Q) r (o + 1) (fun i hi => by
   have := h (i + 1) (by simp; omega)
   rw [show o + 1 + i = o + (i + 1) by omega]
   simpa using this)
  refine ⟨a :: zs, by simp [h1], fun i hi hi' => ?_⟩
  cases i with
  | zero => exact ha
  | succ i =>
   have := h2 i (by simpa using hi) (by simpa using hi')
   rw [show o + 1 + i = o + (i + 1) by omega] at this
   simpa using this
theorem bulk_sum {H α : Type} {m : α → Nat} : ∀ {zs : List α} {xs : List (DataW H)}, zs.length = xs.length → (∀ i (h : i < zs.length) (h' : i < xs.length), m zs[i] + 1 ≤ Rows.uptoBulk xs[i]) → sumM m zs ≤ Rows.uptoBulkAll xs
 | [], [], _, _ => by simp [sumM, Rows.uptoBulkAll]
 | a :: zs, x :: xs, hl, h => by
  have h0 := h 0 (by simp) (by simp)
  have ih := bulk_sum (m := m) (zs := zs) (xs := xs) (by simpa using hl) (fun i h1 h2 => by
   have := h (i + 1) (by simp; omega) (by simp; omega)
   simpa using this)
  simp only [sumM, Rows.uptoBulkAll]
  simp only [List.getElem_cons_zero] at h0
  omega
 | [], _ :: _, hl, _ => by simp at hl
 | _ :: _, [], hl, _ => by simp at hl
theorem Dec.sl {α : Type} {f : α → List D} {m : α → Nat} {R : α → Prop} {e : TypeId} {k : Nat} (ht : P.underlying t = some (.slice e)) (hc : P.cellsOf e = k + 1) (hk : ∀ a, (f a).length = k + 1) (he : Dec P W n e f m R) :
  Dec P W (n + 1) t (fun l : List α => [.sl (l.map f)]) (fun l => sumM m l) (fun l => ∀ a ∈ l, R a) := fun H enc cs x h => by
 rcases DataW.trod_slice ht h with ⟨rfl, rfl⟩ | ⟨a, len, cap, elems, rest, n', hn, rfl, rfl, _, hcap, _, hlen, hel, _, _⟩
 ·exact ⟨[], .one .nil, by simp [sumM, Rows.uptoBulk], fun a h => by simp at h⟩
 obtain rfl : n = n' := by omega
 have each : ∀ i (hi : i < elems.length), ∃ y, (∃ cs, W.cells? 0 (a.add (i * (k + 1))) (k + 1) = some cs ∧ RelL W (f y) cs) ∧ m y + 1 ≤ Rows.uptoBulk (elems[i]).1 ∧ R y := by
  intro i hi
  have := hel i (by omega)
  rw [hc, List.getElem?_eq_getElem hi, Option.bind_eq_some_iff] at this
  obtain ⟨cs, h1, h2⟩ := this
  obtain ⟨y, h3, h4, h5⟩ := he H enc cs _ h2
  exact ⟨y, ⟨cs, h1, h3⟩, h4, h5⟩
 obtain ⟨zs, hal, has⟩ := choose_list (Q := fun i y (el : DataW H × List MemPlace) => (∃ cs, W.cells? 0 (a.add (i * (k + 1))) (k + 1) = some cs ∧ RelL W (f y) cs) ∧ m y + 1 ≤ Rows.uptoBulk el.1 ∧ R y) elems 0 (fun i hi => by simpa using each i hi)
 refine ⟨zs, .one ?_, ?_, fun y hy => ?_⟩
 ·by_cases h0 : zs = []
  ·subst h0
   have hz : len = 0 := by simp at hal; omega
   subst hz
   obtain ⟨b, o, s⟩ := a
   cases s with
   | none => exact .sl [] 0 b o cap (fun _ => undef) (by simp) (by simp) (fun n hn => by simp at hn) (fun i hi => by simp at hi)
   | some s => exact .emp b o s cap
  ·have hpos : 0 < zs.length := List.length_pos_iff.2 h0
   obtain ⟨⟨cs0, hc0, hr0⟩, _⟩ := has 0 (by omega) hpos
   have hspot : a.spot = none := by
    have h1 := (World.cells?_some hc0).2.2 0 (by omega)
    have h2 : 0 < cs0.length := by have := (World.cells?_some hc0).2.1; omega
    simp only [Nat.add_zero, Nat.zero_mul, Addr.add, if_true, List.getElem?_eq_getElem h2] at h1
    unfold World.cell? at h1
    split at h1
    ·cases hs : a.spot with
     | none => rfl
     | some s => simp [hs] at h1
    ·cases h1
   obtain ⟨b, o, s⟩ := a
   simp only at hspot
   subst hspot
   have hlen' : (zs.map f).length = len := by simp; omega
   have hmulk : ∀ i j, i < zs.length → j < k + 1 → i * (k + 1) + j < zs.length * (k + 1) := fun i j hi hj => by
    have : (i + 1) * (k + 1) ≤ zs.length * (k + 1) := Nat.mul_le_mul_right _ (by omega)
    rw [Nat.add_mul, Nat.one_mul] at this
    omega
   have cellAt : ∀ i (hi : i < zs.length) j (hj : j < (f zs[i]).length), ∃ v, W.cell? ⟨b, o + (i * (k + 1) + j), none⟩ = some v ∧ RelD (FW W) W ((f zs[i])[j]) v := fun i hi j hj => by
    obtain ⟨⟨cs, hc1, hr1⟩, _⟩ := has i (by omega) hi
    have hjk : j < k + 1 := by have := hk zs[i]; omega
    obtain ⟨_, q1, q2⟩ := World.cells?_some hc1
    have q3 := q2 j hjk
    rw [List.getElem?_eq_getElem (by omega)] at q3
    refine ⟨cs[j], ?_, hr1.rel j hj (by omega)⟩
    rw [← q3]
    congr 1
    simp only [Nat.zero_add, Addr.add]
    split <;> split <;> simp_all <;> omega
   have hv : ((zs.map f).length, cap) = (len, cap) := by rw [hlen']
   have goal : RelD (FW W) W (.sl (zs.map f)) (.slice (some ⟨b, o, none⟩) (zs.map f).length cap) := by
    refine .sl _ (k + 1) b o cap (fun q => (W.cell? ⟨b, o + q, none⟩).getD undef) (fun y hy => ?_) (by omega) (fun q hq => ?_) (fun i hi j hj => ?_)
    ·obtain ⟨y', _, rfl⟩ := List.mem_map.1 hy; exact hk y'
    ·have hq' : q < zs.length * (k + 1) := by simpa using hq
     have hi : q / (k + 1) < zs.length := Nat.div_lt_of_lt_mul (by rw [Nat.mul_comm]; exact hq')
     have hj : q % (k + 1) < k + 1 := Nat.mod_lt _ (by omega)
     obtain ⟨v, h1, _⟩ := cellAt _ hi (q % (k + 1)) (by rw [hk]; exact hj)
     rw [Nat.div_add_mod'] at h1
     exact ⟨FW_cell h1, by rw [h1]; rfl⟩
    ·have hi' : i < zs.length := by simpa using hi
     simp only [List.getElem_map] at hj ⊢
     obtain ⟨v, h1, h2⟩ := cellAt i hi' j hj
     show RelD (FW W) W _ ((W.cell? ⟨b, o + (i * (k + 1) + j), none⟩).getD undef)
     rw [h1]
     exact h2
   rw [hlen'] at goal
   exact goal
 ·have := bulk_sum (m := m) (zs := zs) (xs := elems.map (·.1)) (by simp [hal]) (fun i h1 h2 => by
   have := (has i (by simpa using h2) h1).2.1
   simpa using this)
  simp only [Rows.uptoBulk]
  omega
 ·obtain ⟨i, hi, rfl⟩ := List.getElem_of_mem hy
  exact (has i (by omega) hi).2.2
def DecF (P : Program) (W : World) (n o K : Nat) (fs : List Field) {α : Type} (f : α → List D) (m : α → Nat) (R : α → Prop) : Prop :=
 ∀ (H : Type) (enc : TypeId × Value → H) (cs : List Value) (xs : List (DataW H × List MemPlace)), cs.length = K → xs.length = fs.length →
  (∀ (i : Nat) (fd : Field), fs[i]? = some fd → DataW.trod enc P W 0 (fun _ => true) true n fd.type ((cs.drop fd.offset).take (P.cellsOf fd.type)) = xs[i]?) →
  ∃ a, RelL W (f a) (cs.drop o) ∧ m a ≤ Rows.uptoBulkAll (xs.map (·.1)) ∧ R a
theorem DecF.nil {K : Nat} : DecF P W n K K [] (fun _ : Unit => []) (fun _ => 0) (fun _ => True) := fun H enc cs xs h1 h2 _ =>
 ⟨(), by rw [List.drop_of_length_le (by omega)]; exact ⟨rfl, fun i h => by simp at h⟩, by simp, trivial⟩
theorem DecF.cons {α β : Type} {f : α → List D} {m : α → Nat} {R : α → Prop} {f2 : β → List D} {m2 : β → Nat} {R2 : β → Prop} {o K k : Nat} {fd : Field} {fs : List Field}
  (h1 : Dec P W n fd.type f m R) (ho : fd.offset = o) (hc : P.cellsOf fd.type = k) (h2 : DecF P W n (o + k) K fs f2 m2 R2) :
  DecF P W n o K (fd :: fs) (fun p : α × β => f p.1 ++ f2 p.2) (fun p => m p.1 + 1 + m2 p.2) (fun p => R p.1 ∧ R2 p.2) := fun H enc cs xs hK hl hx => by
 cases xs with
 | nil => simp at hl
 | cons y ys =>
  have h0 := hx 0 fd (by simp)
  simp only [List.getElem?_cons_zero] at h0
  rw [ho, hc] at h0
  obtain ⟨a, q1, q2, q3⟩ := h1 H enc _ _ h0
  obtain ⟨b, r1, r2, r3⟩ := h2 H enc cs ys hK (by simpa using hl) (fun i fd' hi => by
   have := hx (i + 1) fd' (by simpa using hi)
   simpa using this)
  refine ⟨(a, b), ?_, ?_, q3, r3⟩
  ·have : cs.drop o = (cs.drop o).take k ++ cs.drop (o + k) := by
    rw [← List.drop_drop, List.take_append_drop]
   rw [this]
   exact q1.append r1
  ·simp only [List.map_cons, Rows.uptoBulkAll]
   omega
theorem Dec.struct {α : Type} {f : α → List D} {m : α → Nat} {R : α → Prop} {fs : Array Field} (ht : P.underlying t = some (.struct fs)) {K : Nat} (hK : P.cellsOf t = K) (h : DecF P W n 0 K fs.toList f m R) :
  Dec P W (n + 1) t f m R := fun H enc cs x hx => by
 obtain ⟨xs, n', hn, rfl, hl, hxl, hf⟩ := DataW.trod_struct ht hx
 obtain rfl : n = n' := by omega
 obtain ⟨a, q1, q2, q3⟩ := h H enc cs xs (by omega) (by simpa using hxl) (fun i fd hi => hf i fd (by simpa using hi))
 refine ⟨a, by simpa using q1, ?_, q3⟩
 simp only [Rows.uptoBulk]
 omega
end
section
variable {P : Program} {W : World} {base : Nat} {t : TypeId} {v : Value} {H : Type} {enc : TypeId × Value → H} {d : DataW H} {ps : List MemPlace}
theorem arg_sl {α : Type} {e : TypeId} {f : α → List D} {m : α → Nat} {R : α → Prop} {k : Nat} (ht : P.underlying t = some (.slice e)) (hc : P.cellsOf e = k + 1) (hk : ∀ a, (f a).length = k + 1) (hd : ∀ n, Dec P W n e f m R)
  (hval : Value.okWide P W .any base t v) (h : DataW.Trod enc P W 0 (fun _ => true) true t v d ps) :
  ∃ l : List α, (∀ G T, G.F = FW W → RelA G T W (.d (.sl (l.map f))) v) ∧ sumM m l + 1 ≤ Rows.uptoBulk d ∧ ∀ a ∈ l, R a := by
 obtain ⟨n, hn⟩ := h
 cases n with
 | zero => simp [DataW.trod] at hn
 | succ n =>
  obtain ⟨l, h1, h2, h3⟩ := Dec.sl ht hc hk (hd n) H enc _ _ hn
  have hcells : v.cells.toList = [v] := by
   cases v with
   | agg cs => simp only [Value.okWide, ht, Cell.okWide, Cell.ok] at hval
   | _ => rfl
  rw [hcells] at h1
  exact ⟨l, fun G T hG => .d (by rw [hG]; simpa using h1.rel 0 (by simp) (by simp)), h2, h3⟩
end
section
variable {P : Program} {H : Type} {enc : TypeId × Value → H}
theorem trodAll_below (hl : laidOutB P = true) {W W' : World} (hb : Below W.heap.size W W') : ∀ {ts : List TypeId} {vs : List Value} {ds : List (DataW H)} {ps : List MemPlace},
  (∀ t ∈ ts, P.readableRec t = true ∧ t < P.types.size) → DataW.TrodAll enc P W 0 (fun _ => true) true ts vs ds ps → (∀ x ∈ ps, x.block < W.heap.size) →
  DataW.TrodAll enc P W' 0 (fun b => decide (b < W.heap.size)) true ts vs ds ps
 | [], [], [], ps, _, h, _ => h
 | t :: ts, v :: vs, d :: ds, ps, hr, h, hlt => by
  obtain ⟨p, q, h1, h2, rfl⟩ := h
  exact ⟨p, q, Below.trod hl (hr t (by simp)).1 (hr t (by simp)).2 h1 hb (fun x hx => hlt x (by simp [hx])),
   trodAll_below hl hb (fun t ht => hr t (by simp [ht])) h2 (fun x hx => hlt x (by simp [hx])), rfl⟩
theorem law_post {f : Func} {s : ChangeSpec} {W W' : World} {args : Array Value} {ds gs : List (DataW H)} {before : List MemPlace} {tb : TypeId}
  (hW : DataW.Whole enc P f.params.toList s.vars false W args.toList ds gs before) (hvars : s.vars = []) (hrt : f.resultTypes = #[tb]) (htb : P.underlying tb = some .bool)
  (hs : s.fn H (ds ++ gs) = { results := [.lit (.bool true)], args := ds }) (hl : laidOutB P = true) (hr : ∀ t ∈ f.params.toList, P.readableRec t = true ∧ t < P.types.size)
  (hb : Below W.heap.size W W') : s.post enc P f false true false false W args (.bool true) W' := by
 have hlt : ∀ p ∈ before, p.block < W.heap.size := fun p hp => hW.lt p hp
 have hW0 := hW
 obtain ⟨p, q, hA, hV, rfl, hfz, _⟩ := hW
 rw [hvars] at hV
 cases gs with
 | cons g gs => exact hV.elim
 | nil =>
  have hq : q = [] := hV
  subst hq
  simp only [List.append_nil] at *
  refine ⟨ds, [], p, [], p, [], by simpa [hvars] using hW0, ?_, ?_, ?_, World.keptBut_mono (fun x hx => ⟨hx, .inr (.inl hx)⟩) (hb.frame (· ∈ p)), fun h => by cases h⟩
  ·simp only [List.append_nil, hs, hrt]
   exact trodAll_cons_mk (shut_bool htb _) trodAll_mk0
  ·simp only [List.append_nil, hs]
   exact trodAll_below hl hb hr hA hlt
  ·simp only [hvars, List.append_nil, hs]
   rfl
theorem law_calls {f : FuncId} {avs : List AV} {W : World} {args : Array Value} {r : AV} (hf : FnD P f avs [] r [])
  (hargs : ∀ G T, G.F = FW W → AllR G T W avs args) : Calls P f args W fun e W' => ∃ v G', e = .returned v ∧ RelA G' (fun _ => none) W' r v ∧ Below W.heap.size W W' := by
 let G : Gh := { F := FW W, loc := fun _ => [] }
 refine (hf G W args ⟨hargs G _ rfl, fun id r h => (by simp [getH] at h), fun id id' h => (by simp [getH] at h), fun b hb => FW_top hb⟩).mono ?_
 rintro e W' ⟨v, r', hp', G', rfl, ⟨rfl, rfl⟩, h⟩
 exact ⟨v, G', rfl, h.res, ⟨h.frm.os, h.frm.tape, h.frm.output, h.frm.size, fun b hb => (h.frm.block b hb (by simp [ownedL])).1⟩⟩
theorem RelA.bool_true {G : Gh} {T : TokF} {w : World} {v : Value} (h : RelA G T w (.d (.bool true)) v) : v = .bool true := by
 cases h with | d h => cases h; rfl
theorem bound_of {H : Type} {l : List (DataW H)} (hk : Rows.uptoSmall H l = true) : Rows.uptoBulkAll l ≤ 1048576 := of_decide_eq_true hk
end
end Go.Proofs.Ytpimgoacljakgaa
namespace Go.Proofs.Ytpimgoacljakgaa
open Go Go.ChangeShapes Go.WideShapes Go.ChangeAt Go.RowKit
set_option linter.unusedSimpArgs false
set_option linter.unusedVariables false
set_option maxRecDepth 100000
theorem decByte (W : World) (n : Nat) : Dec Try.prog W n 5 (fun x : UInt8 => [D.int .u8 (x.toNat : Int)]) (fun _ => 0) (fun _ => True) := fun H enc cs x hx => by
 obtain ⟨z, q1, q2, q3⟩ := Dec.int (k := .u8) Try.underlying5 H enc cs x hx
 have h : 0 ≤ z ∧ z ≤ 255 := by
  simp [Lit.wf, IntKind.wrap, IntKind.signed, IntKind.bits, IntKind.min, IntKind.max] at q3
  omega
 refine ⟨UInt8.ofNat z.toNat, ?_, q2, trivial⟩
 have e : (((UInt8.ofNat z.toNat).toNat : Nat) : Int) = z := by
  rw [UInt8.toNat_ofNat', Nat.mod_eq_of_lt (by omega)]; omega
 show RelL W [D.int .u8 (((UInt8.ofNat z.toNat).toNat : Nat) : Int)] cs
 rw [e]; exact q1
end Go.Proofs.Ytpimgoacljakgaa
namespace Go.Proofs.Ytpimgoacljakgaa.fnSameValues
open Go Go.ChangeShapes Go.WideShapes Go.ChangeAt Go.RowKit
set_option linter.unusedSimpArgs false
set_option linter.unusedVariables false
theorem own : ownKnob Try.prog.godebug = none := by kernel_rfl
theorem laidOut : laidOutB Try.prog = true := by kernel_rfl
set_option maxRecDepth 100000 in
theorem contract (H : Type) (enc : TypeId × Value → H) (W : World) (base : Nat) (args : Array Value) (ds gs : List (DataW H)) (before : List MemPlace)
  (hval : ∀ (j : Nat) t v, Try.f4.params[j]? = some t → args[j]? = some v → Value.okWide Try.prog W .any base t v)
  (hW : DataW.Whole enc Try.prog Try.f4.params.toList Rows.fnSameValuesSpec.vars false W args.toList ds gs before) (hk : Rows.uptoSmall H (ds ++ gs) = true) :
  Calls Try.prog 4 args W fun e W' => ∃ v, e = .returned v ∧ Rows.fnSameValuesSpec.post enc Try.prog Try.f4 false true false false W args v W' := by
 have hb := bound_of hk
 have hW' := hW
 obtain ⟨p, q, hA0, hV, rfl, hfz, hnd⟩ := hW
 have hA : DataW.TrodAll enc Try.prog W 0 (fun _ => true) true Try.f4.params.toList args.toList ds p := hA0
 rw [Try.params4] at hA hval
 obtain ⟨v0, vs0, d0, ds0, p0, q0, hargs, rfl, rfl, h0, r0⟩ := trodAll_cons hA
 obtain ⟨rfl, rfl, rfl⟩ := trodAll_nil r0
 obtain rfl : args = #[v0] := by cases args; simp_all
 obtain ⟨rfl, rfl⟩ := trodVars_none hV
 simp only [List.append_nil, Rows.uptoBulkAll] at hb
 obtain ⟨b, a0, b0, _⟩ := arg_sl (k := 0) Try.underlying22 (by kernel_rfl) (fun _ => rfl) (decByte W) (hval 0 _ v0 rfl rfl) h0
 have ln_b : b.length ≤ 1000000000000 := by have := sumM_len (fun _ : UInt8 => 0) b; omega
 refine (law_calls (laws_FnSameValues_fn ln_b) (W := W) (args := #[v0]) (fun G T hG => ⟨rfl, fun i hi hv => ?_⟩)).mono ?_
 ·match i, hi with
  | 0, _ => exact a0 G T hG
 ·rintro e W' ⟨v, G', rfl, hr, hbelow⟩
  obtain rfl := hr.bool_true
  exact ⟨_, rfl, law_post hW' rfl rfl Try.underlying4 rfl laidOut (fun t ht => by
   simp only [Try.params4, List.mem_cons, List.not_mem_nil, or_false] at ht
   rcases ht with rfl <;> exact ⟨by kernel_rfl, of_decide_eq_true (by kernel_rfl)⟩) hbelow⟩
set_option maxRecDepth 100000 in
theorem lifted (os : Os) (started : os.Started) (H : Type) (enc : TypeId × Value → H) (F : Stop.Interp) :
  ReturnsInHanded {} Try.checked os 4 .any ((Rows.OpenSpec.upto Rows.fnSameValuesSpec).pre6 enc Try.prog Try.f4 Rows.fnSameValuesUptoRow.domain false) (((Rows.OpenSpec.upto Rows.fnSameValuesSpec).at F).post enc Try.prog Try.f4 false true false false) := by
 refine returnsInHanded_of_cond (C := Try.checked) (s := Rows.OpenSpec.upto Rows.fnSameValuesSpec) (k := Rows.uptoSmall) rfl own started (by kernel_rfl) Try.func4
  (OpenSpec.witness (enc := enc) (C := Try.checked) (s := Rows.OpenSpec.upto Rows.fnSameValuesSpec) (k := Rows.uptoSmall) rfl false ⟨#[], #[.slice none 0 0], []⟩ 8 (by kernel_rfl) (by kernel_rfl) (by kernel_rfl)
   (x := ([.nil], [], [])) (by kernel_rfl) rfl (by kernel_rfl)) ?_
 intro W base args ds gs before hval hW _ hk _
 exact contract H enc W base args ds gs before hval hW hk
theorem over : Rows.fnSameValuesUptoRow.holds Try.pinned (Rows.OpenSpec.upto Rows.fnSameValuesSpec) :=
 OpenClaim.holds_of_cond 4 Try.f4 rfl rfl rfl rfl rfl rfl rfl ⟨rfl, rfl, rfl, rfl, rfl⟩ rfl rfl rfl rfl rfl (by kernel_rfl) Try.func4 (by kernel_rfl)
  (of_decide_eq_true (by kernel_rfl)) (by unfold Func.isWrapper; first | (rw [if_pos (by decide +kernel)]; kernel_rfl) | (rw [if_neg (by decide +kernel)]; exact ⟨rfl, rfl⟩))
  (fun os started H enc _ F => lifted os started H enc F)
theorem proved : Rows.FnSameValuesUptoSaid := over
end Go.Proofs.Ytpimgoacljakgaa.fnSameValues
