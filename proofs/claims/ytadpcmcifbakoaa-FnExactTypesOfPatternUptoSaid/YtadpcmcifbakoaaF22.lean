/-
  WALKS: which patterns a type has: the program's scan.
-/
import Derived.Test.YtadpcmcifbakoaaF21
import Derived.Test.YtadpcmcifbakoaaG2
namespace Go.Proofs.Ytadpcmcifbakoaa
open Go
set_option linter.unusedSimpArgs false
set_option linter.unusedVariables false
set_option maxRecDepth 100000
set_option maxHeartbeats 4000000
theorem impl_only_fn {p : Pat} {b1 b2 b3 : Bool} {k : Int} : FnD Try.prog 154 [.agg [.d (.i p.op), .d (.i p.ctor), .d (.i p.n), .d (.i p.m), .d (.i p.var), .d (encPats p.kids)], .d (.bool b1), .d (.bool b2), .d (.bool b3), .d (.i k)] []
  (.d (.bool (decide ((b1 = true ∨ p.ctor = 0) ∧ (b2 = true ∨ p.n = 0 ∧ p.m = 0) ∧ (b3 = true ∨ p.var = 0) ∧ (p.kids.length : Int) = k)))) [] := by
 refine Fn.body (fn := Try.f154) (n := 45) rfl rfl rfl rfl rfl (fun w0 F0 own kept hk => ?_)
 refine sr ?_
 refine Walk.box (id := 3005) .none rfl rfl rfl rfl rfl rfl rfl ?_
 refine asg ?_
 refine tv ?_
 refine CWp.seq ?_
 refine CWp.regionJ ?_
 refine WRest.join 6 [(16, .d (.bool (decide (b1 = true ∨ p.ctor = 0))))] [11, 12, 13, 14, 15] ?_ ?_
 ·
  refine mv ?_
  refine mv ?_
  refine sp 12 ?_ ?_
  ·intro h1; have ⟨h1p, h1s⟩ := dup h1; try simp only [Q5] at h1s
   try simp only [Q, Pat.cs_len] at h1p
   refine ps h1 ?_
   refine ps h1 ?_
   refine ps h1 ?_
   refine Walk.pickT .none rfl rfl h1 rfl ?_
   exact ⟨trivial, Sub.x (by kernel_rfl) (by kernel_rfl) ⟨⟨_, rfl, (LeA.eqb (by (first | rfl | (rw [Bool.eq_iff_iff]; simp_all [Pat.cs_len]; done))))⟩, trivial⟩ (by kernel_rfl) (by kernel_rfl) trivial⟩
  ·intro h1; have ⟨h1p, h1s⟩ := dup h1; try simp only [Q5] at h1s
   try simp only [Q, Pat.cs_len] at h1p
   refine Walk.fieldB fd70_1 (.some rfl rfl h1) rfl rfl ?_
   refine Walk.loadB ty3 (.some rfl rfl h1) rfl rfl rfl rfl ?_
   refine Walk.eqI (.some rfl rfl h1) rfl rfl rfl ?_
   refine Walk.pickF .none rfl rfl h1 rfl ?_
   exact ⟨trivial, Sub.x (by kernel_rfl) (by kernel_rfl) ⟨⟨_, rfl, (LeA.eqb (by (first | rfl | (rw [Bool.eq_iff_iff]; simp_all [Pat.cs_len]; done))))⟩, trivial⟩ (by kernel_rfl) (by kernel_rfl) trivial⟩
 refine WRest.join 13 [(29, .d (.bool (decide ((b1 = true ∨ p.ctor = 0) ∧ (b2 = true ∨ p.n = 0 ∧ p.m = 0)))))] [17, 18, 19, 20, 21, 22, 23, 24, 25, 26, 27, 28] ?_ ?_
 ·
  refine mv ?_
  refine sp 17 ?_ ?_
  ·intro h2; have ⟨h2p, h2s⟩ := dup h2; try simp only [Q5] at h2s
   try simp only [Q, Pat.cs_len] at h2p
   refine Walk.move (.some rfl rfl h2) rfl rfl ?_
   refine Walk.move (.some rfl rfl h2) rfl rfl ?_
   refine sp 19 ?_ ?_
   ·intro h3; have ⟨h3p, h3s⟩ := dup h3; try simp only [Q5] at h3s
    try simp only [Q, Pat.cs_len] at h3p
    refine ps h3 ?_
    refine ps h3 ?_
    refine ps h3 ?_
    refine ps h3 ?_
    refine Walk.passU rfl rfl rfl rfl rfl ?_
    refine Walk.passU rfl rfl rfl rfl rfl ?_
    refine Walk.passU rfl rfl rfl rfl rfl ?_
    refine ps h3 ?_
    refine Walk.pickT (.some rfl rfl h2) rfl rfl h3 rfl ?_
    refine Walk.pickT .none rfl rfl h2 rfl ?_
    exact ⟨trivial, Sub.x (by kernel_rfl) (by kernel_rfl) ⟨⟨_, rfl, (LeA.eqb (by (first | rfl | (rw [Bool.eq_iff_iff]; simp_all [Pat.cs_len]; done))))⟩, trivial⟩ (by kernel_rfl) (by kernel_rfl) trivial⟩
   ·intro h3; have ⟨h3p, h3s⟩ := dup h3; try simp only [Q5] at h3s
    try simp only [Q, Pat.cs_len] at h3p
    refine Walk.fieldB fd70_2 (.some rfl rfl h3) rfl rfl ?_
    refine Walk.loadB ty3 (.some rfl rfl h3) rfl rfl rfl rfl ?_
    refine Walk.eqI (.some rfl rfl h3) rfl rfl rfl ?_
    refine Walk.move (.some rfl rfl h3) rfl rfl ?_
    refine sp 23 ?_ ?_
    ·intro h4; have ⟨h4p, h4s⟩ := dup h4; try simp only [Q5] at h4s
     try simp only [Q, Pat.cs_len] at h4p
     refine Walk.fieldB fd70_3 (.some rfl rfl h4) rfl rfl ?_
     refine Walk.loadB ty3 (.some rfl rfl h4) rfl rfl rfl rfl ?_
     refine Walk.eqI (.some rfl rfl h4) rfl rfl rfl ?_
     refine Walk.pickT (.some rfl rfl h3) rfl rfl h4 rfl ?_
     refine Walk.pickF (.some rfl rfl h2) rfl rfl h3 rfl ?_
     refine Walk.pickT .none rfl rfl h2 rfl ?_
     exact ⟨trivial, Sub.x (by kernel_rfl) (by kernel_rfl) ⟨⟨_, rfl, (LeA.eqb (by (first | rfl | (rw [Bool.eq_iff_iff]; simp_all [Pat.cs_len]; done))))⟩, trivial⟩ (by kernel_rfl) (by kernel_rfl) trivial⟩
    ·intro h4; have ⟨h4p, h4s⟩ := dup h4; try simp only [Q5] at h4s
     try simp only [Q, Pat.cs_len] at h4p
     refine ps h4 ?_
     refine ps h4 ?_
     refine ps h4 ?_
     refine Walk.pickF (.some rfl rfl h3) rfl rfl h4 rfl ?_
     refine Walk.pickF (.some rfl rfl h2) rfl rfl h3 rfl ?_
     refine Walk.pickT .none rfl rfl h2 rfl ?_
     exact ⟨trivial, Sub.x (by kernel_rfl) (by kernel_rfl) ⟨⟨_, rfl, (LeA.eqb (by (first | rfl | (rw [Bool.eq_iff_iff]; simp_all [Pat.cs_len]; done))))⟩, trivial⟩ (by kernel_rfl) (by kernel_rfl) trivial⟩
  ·intro h2; have ⟨h2p, h2s⟩ := dup h2; try simp only [Q5] at h2s
   try simp only [Q, Pat.cs_len] at h2p
   refine ps h2 ?_
   refine ps h2 ?_
   refine Walk.passU rfl rfl rfl rfl rfl ?_
   refine Walk.passU rfl rfl rfl rfl rfl ?_
   refine Walk.passU rfl rfl rfl rfl rfl ?_
   refine Walk.passU rfl rfl rfl rfl rfl ?_
   refine Walk.passU rfl rfl rfl rfl rfl ?_
   refine Walk.passU rfl rfl rfl rfl rfl ?_
   refine Walk.passU rfl rfl rfl rfl rfl ?_
   refine Walk.passU rfl rfl rfl rfl rfl ?_
   refine ps h2 ?_
   refine Walk.pickF .none rfl rfl h2 rfl ?_
   exact ⟨trivial, Sub.x (by kernel_rfl) (by kernel_rfl) ⟨⟨_, rfl, (LeA.eqb (by (first | rfl | (rw [Bool.eq_iff_iff]; simp_all [Pat.cs_len]; done))))⟩, trivial⟩ (by kernel_rfl) (by kernel_rfl) trivial⟩
 refine WRest.join 8 [(37, .d (.bool (decide ((b1 = true ∨ p.ctor = 0) ∧ (b2 = true ∨ p.n = 0 ∧ p.m = 0) ∧ (b3 = true ∨ p.var = 0)))))] [30, 31, 32, 33, 34, 35, 36] ?_ ?_
 ·
  refine mv ?_
  refine sp 30 ?_ ?_
  ·intro h5; have ⟨h5p, h5s⟩ := dup h5; try simp only [Q5] at h5s
   try simp only [Q, Pat.cs_len] at h5p
   refine Walk.move (.some rfl rfl h5) rfl rfl ?_
   refine Walk.move (.some rfl rfl h5) rfl rfl ?_
   refine sp 32 ?_ ?_
   ·intro h6; have ⟨h6p, h6s⟩ := dup h6; try simp only [Q5] at h6s
    try simp only [Q, Pat.cs_len] at h6p
    refine ps h6 ?_
    refine ps h6 ?_
    refine ps h6 ?_
    refine Walk.pickT (.some rfl rfl h5) rfl rfl h6 rfl ?_
    refine Walk.pickT .none rfl rfl h5 rfl ?_
    exact ⟨trivial, Sub.x (by kernel_rfl) (by kernel_rfl) ⟨⟨_, rfl, (LeA.eqb (by (first | rfl | (rw [Bool.eq_iff_iff]; simp_all [Pat.cs_len]; done))))⟩, trivial⟩ (by kernel_rfl) (by kernel_rfl) trivial⟩
   ·intro h6; have ⟨h6p, h6s⟩ := dup h6; try simp only [Q5] at h6s
    try simp only [Q, Pat.cs_len] at h6p
    refine Walk.fieldB fd70_4 (.some rfl rfl h6) rfl rfl ?_
    refine Walk.loadB ty3 (.some rfl rfl h6) rfl rfl rfl rfl ?_
    refine Walk.eqI (.some rfl rfl h6) rfl rfl rfl ?_
    refine Walk.pickF (.some rfl rfl h5) rfl rfl h6 rfl ?_
    refine Walk.pickT .none rfl rfl h5 rfl ?_
    exact ⟨trivial, Sub.x (by kernel_rfl) (by kernel_rfl) ⟨⟨_, rfl, (LeA.eqb (by (first | rfl | (rw [Bool.eq_iff_iff]; simp_all [Pat.cs_len]; done))))⟩, trivial⟩ (by kernel_rfl) (by kernel_rfl) trivial⟩
  ·intro h5; have ⟨h5p, h5s⟩ := dup h5; try simp only [Q5] at h5s
   try simp only [Q, Pat.cs_len] at h5p
   refine ps h5 ?_
   refine ps h5 ?_
   refine Walk.passU rfl rfl rfl rfl rfl ?_
   refine Walk.passU rfl rfl rfl rfl rfl ?_
   refine Walk.passU rfl rfl rfl rfl rfl ?_
   refine ps h5 ?_
   refine Walk.pickF .none rfl rfl h5 rfl ?_
   exact ⟨trivial, Sub.x (by kernel_rfl) (by kernel_rfl) ⟨⟨_, rfl, (LeA.eqb (by (first | rfl | (rw [Bool.eq_iff_iff]; simp_all [Pat.cs_len]; done))))⟩, trivial⟩ (by kernel_rfl) (by kernel_rfl) trivial⟩
 refine WRest.join 7 [(44, .d (.bool (decide ((b1 = true ∨ p.ctor = 0) ∧ (b2 = true ∨ p.n = 0 ∧ p.m = 0) ∧ (b3 = true ∨ p.var = 0) ∧ (p.kids.length : Int) = k))))] [38, 39, 40, 41, 42, 43] ?_ ?_
 ·
  refine mv ?_
  refine sp 38 ?_ ?_
  ·intro h7; have ⟨h7p, h7s⟩ := dup h7; try simp only [Q5] at h7s
   try simp only [Q, Pat.cs_len] at h7p
   refine Walk.fieldB fd70_5 (.some rfl rfl h7) rfl rfl ?_
   refine Walk.loadB ty68 (.some rfl rfl h7) rfl rfl rfl rfl ?_
   refine Walk.len sl68 (.some rfl rfl h7) rfl rfl ?_
   refine Walk.move (.some rfl rfl h7) rfl rfl ?_
   refine Walk.eqI (.some rfl rfl h7) rfl rfl rfl ?_
   refine Walk.pickT .none rfl rfl h7 rfl ?_
   exact ⟨trivial, Sub.x (by kernel_rfl) (by kernel_rfl) ⟨⟨_, rfl, (LeA.eqb (by (first | rfl | (rw [Bool.eq_iff_iff]; simp_all [Pat.cs_len]; done))))⟩, trivial⟩ (by kernel_rfl) (by kernel_rfl) trivial⟩
  ·intro h7; have ⟨h7p, h7s⟩ := dup h7; try simp only [Q5] at h7s
   try simp only [Q, Pat.cs_len] at h7p
   refine ps h7 ?_
   refine ps h7 ?_
   refine ps h7 ?_
   refine ps h7 ?_
   refine ps h7 ?_
   refine Walk.pickF .none rfl rfl h7 rfl ?_
   exact ⟨trivial, Sub.x (by kernel_rfl) (by kernel_rfl) ⟨⟨_, rfl, (LeA.eqb (by (first | rfl | (rw [Bool.eq_iff_iff]; simp_all [Pat.cs_len]; done))))⟩, trivial⟩ (by kernel_rfl) (by kernel_rfl) trivial⟩
 refine WRest.done ?_
 refine asg ?_
 refine tv ?_
 refine CWp.ret ?_
 refine ⟨_, _, [], (.cons (.tmp rfl) .nil), (.eqd ?_), ⟨rfl, rfl⟩, HSub.nil, noBox⟩
 all_goals (rfl)
theorem impl_only_a {p : Pat} {k : Int} : FnD Try.prog 154 [.agg [.d (.i p.op), .d (.i p.ctor), .d (.i p.n), .d (.i p.m), .d (.i p.var), .d (encPats p.kids)], .d (.bool false), .d (.bool false), .d (.bool false), .d (.i k)] []
  (.d (.bool (decide (p.ctor = 0 ∧ (p.n = 0 ∧ p.m = 0) ∧ p.var = 0 ∧ (p.kids.length : Int) = k)))) [] := by
 have := impl_only_fn (p := p) (b1 := false) (b2 := false) (b3 := false) (k := k)
 simpa only [Bool.false_eq_true, false_or] using this
theorem impl_only_v {p : Pat} {k : Int} : FnD Try.prog 154 [.agg [.d (.i p.op), .d (.i p.ctor), .d (.i p.n), .d (.i p.m), .d (.i p.var), .d (encPats p.kids)], .d (.bool false), .d (.bool false), .d (.bool true), .d (.i k)] []
  (.d (.bool (decide (p.ctor = 0 ∧ (p.n = 0 ∧ p.m = 0) ∧ (p.kids.length : Int) = k)))) [] := by
 have := impl_only_fn (p := p) (b1 := false) (b2 := false) (b3 := true) (k := k)
 simpa only [Bool.false_eq_true, false_or, true_or, true_and] using this
theorem impl_only_n {p : Pat} {k : Int} : FnD Try.prog 154 [.agg [.d (.i p.op), .d (.i p.ctor), .d (.i p.n), .d (.i p.m), .d (.i p.var), .d (encPats p.kids)], .d (.bool false), .d (.bool true), .d (.bool false), .d (.i k)] []
  (.d (.bool (decide (p.ctor = 0 ∧ p.var = 0 ∧ (p.kids.length : Int) = k)))) [] := by
 have := impl_only_fn (p := p) (b1 := false) (b2 := true) (b3 := false) (k := k)
 simpa only [Bool.false_eq_true, false_or, true_or, true_and] using this
theorem impl_only_c {p : Pat} {k : Int} : FnD Try.prog 154 [.agg [.d (.i p.op), .d (.i p.ctor), .d (.i p.n), .d (.i p.m), .d (.i p.var), .d (encPats p.kids)], .d (.bool true), .d (.bool false), .d (.bool false), .d (.i k)] []
  (.d (.bool (decide ((p.n = 0 ∧ p.m = 0) ∧ p.var = 0 ∧ (p.kids.length : Int) = k)))) [] := by
 have := impl_only_fn (p := p) (b1 := true) (b2 := false) (b3 := false) (k := k)
 simpa only [Bool.false_eq_true, false_or, true_or, true_and] using this
theorem impl_isVar_fn {v : Int} : FnD Try.prog 155 [.d (.i v)] [] (.d (.bool (within v 0 5))) [] := by
 refine Fn.body (fn := Try.f155) (n := 5) rfl rfl rfl rfl rfl (fun w0 F0 own kept hk => ?_)
 refine sr ?_
 refine asg ?_
 refine tv ?_
 refine sr ?_
 refine mv ?_
 refine Walk.call (cr := []) cal52 (impl_within_fn) rfl .none rfl rfl (LeL.refl _) trivial rfl rfl rfl ?_
 refine asg ?_
 refine tv ?_
 refine CWp.ret ?_
 refine ⟨_, _, [], (.cons (.tmp rfl) .nil), (.eqd ?_), ⟨rfl, rfl⟩, HSub.nil, noBox⟩
 all_goals (rfl)
theorem impl_ctorsOf_v {w : List Data} (hw : WT w) {a k : Int} (ht : TyIn w.length ⟨a, k⟩) : FnD Try.prog 123 [.d (encDatas w), .agg [.d (.i a), .d (.i k)]] [] (.d (encInts (vctors w ⟨a, k⟩))) [] := by
 rcases ht with ha | ⟨d, hd, hlt⟩
 ·simp only at ha; subst ha; rw [vctors_int]; exact impl_ctorsOf_int_fn
 ·simp only at hd; subst hd; rw [vctors_in]; exact impl_ctorsOf_in hw hlt
theorem impl_argTypes_v {w : List Data} (hw : WT w) {a k c : Int} (ht : TyIn w.length ⟨a, k⟩) (hc : c ∈ vctors w ⟨a, k⟩) : FnD Try.prog 124 [.d (encDatas w), .agg [.d (.i a), .d (.i k)], .d (.i c)] [] (.d (encTys (argsOf w ⟨a, k⟩ c))) [] := by
 obtain ⟨d, rfl, h1, h2⟩ := vctors_data ht hc
 exact impl_argTypes_in hw h1 h2
theorem impl_shape_fn {w : List Data} (hw : WT w) {a k : Int} {p : Pat} (ht : TyIn w.length ⟨a, k⟩) :
  FnD Try.prog 150 [.d (encDatas w), .agg [.d (.i a), .d (.i k)], .agg [.d (.i p.op), .d (.i p.ctor), .d (.i p.n), .d (.i p.m), .d (.i p.var), .d (encPats p.kids)]] [] (.tup [.d (encTys (shapeT w ⟨a, k⟩ p)), .d (.bool (okP w ⟨a, k⟩ p))]) [] := by
 have hcl := vctors_len hw ht
 have ty4 : p.op = 4 → p.ctor ∉ vctors w ⟨a, k⟩ → shapeT w ⟨a, k⟩ p = [] := fun h4 hm => by unfold shapeT; rw [if_pos ⟨h4, hm⟩]
 have ty4' : p.op = 4 → p.ctor ∈ vctors w ⟨a, k⟩ → shapeT w ⟨a, k⟩ p = argsOf w ⟨a, k⟩ p.ctor := fun h4 hm => by unfold shapeT typesP; rw [if_neg (fun h => h.2 hm), if_pos h4]
 have ty5 : p.op = 5 → shapeT w ⟨a, k⟩ p = [⟨a, k⟩, ⟨a, k⟩] := fun h5 => by unfold shapeT typesP; rw [if_neg (by omega), if_neg (by omega), if_pos h5]
 have ty6 : p.op = 6 → shapeT w ⟨a, k⟩ p = [⟨a, k⟩] := fun h6 => by unfold shapeT typesP; rw [if_neg (by omega), if_neg (by omega), if_neg (by omega), if_pos h6]
 have ty0 : ¬ p.op = 4 → ¬ p.op = 5 → ¬ p.op = 6 → shapeT w ⟨a, k⟩ p = [] := fun h4 h5 h6 => by unfold shapeT typesP; rw [if_neg (fun h => h4 h.1), if_neg h4, if_neg h5, if_neg h6]
 have ln4 : p.op = 4 → (typesP w ⟨a, k⟩ p).length = (argsOf w ⟨a, k⟩ p.ctor).length := fun h4 => by unfold typesP; rw [if_pos h4]
 have ln5 : p.op = 5 → (typesP w ⟨a, k⟩ p).length = 2 := fun h5 => by unfold typesP; rw [if_neg (by omega), if_pos h5]; rfl
 have ln6 : p.op = 6 → (typesP w ⟨a, k⟩ p).length = 1 := fun h6 => by unfold typesP; rw [if_neg (by omega), if_neg (by omega), if_pos h6]; rfl
 have ln0 : ¬ p.op = 4 → ¬ p.op = 5 → ¬ p.op = 6 → (typesP w ⟨a, k⟩ p).length = 0 := fun h4 h5 h6 => by unfold typesP; rw [if_neg h4, if_neg h5, if_neg h6]; rfl
 have okI : ∀ b : Bool, (b = true ↔ ((((p.op = 2 ∨ p.op = 6) → 0 ≤ p.var ∧ p.var ≤ 5) ∧ (¬ (p.op = 2 ∨ p.op = 6) → p.var = 0) ∧ (p.op ≠ 3 → p.n = 0 ∧ p.m = 0) ∧ (p.op ≠ 4 → p.ctor = 0) ∧
   (p.op = 1 ∨ p.op = 2 ∨ p.op = 5 ∨ p.op = 6 ∨ (p.op = 3 ∧ a = -1 ∧ 0 ≤ p.n ∧ p.n ≤ p.m ∧ p.m ≤ 9) ∨ (p.op = 4 ∧ p.ctor ∈ vctors w ⟨a, k⟩))) ∧ p.kids.length = (typesP w ⟨a, k⟩ p).length)) → b = okP w ⟨a, k⟩ p := fun b h => by
  rw [Bool.eq_iff_iff, h]; unfold okP ownP; simp only [Bool.and_eq_true, decide_eq_true_eq]
 by_cases hmem : p.ctor ∈ vctors w ⟨a, k⟩
 ·have hargs := impl_argTypes_v hw ht hmem
  have hal : (argsOf w ⟨a, k⟩ p.ctor).length ≤ 1000000000000 := by
   obtain ⟨d, rfl, h1, h2⟩ := vctors_data ht hmem
   exact argsOf_len hw h1 h2
  simp only [hmem, and_true] at okI
  refine Fn.body (fn := Try.f150) (n := 87) rfl rfl rfl rfl rfl (fun w0 F0 own kept hk => ?_)
  refine sr ?_
  refine Walk.box (id := 3004) .none rfl rfl rfl rfl rfl rfl rfl ?_
  refine Walk.box (id := 3005) .none rfl rfl rfl rfl rfl rfl rfl ?_
  refine asg ?_
  refine asg ?_
  refine tv ?_
  refine CWp.seq ?_
  refine sr ?_
  refine Walk.fieldB fd70_0 .none rfl rfl ?_
  refine Walk.loadB ty3 .none rfl rfl rfl rfl ?_
  refine tv ?_
  refine CWp.block ?_
  refine sr ?_
  refine Walk.eqI .none rfl rfl rfl ?_
  refine asg ?_
  refine tv ?_
  refine cd ?_ ?_
  ·intro h1; have ⟨h1p, h1s⟩ := dup h1; try simp only [Q5] at h1s
   try simp only [Q] at h1p
   refine sr ?_
   refine Walk.loadBA ty70 .none rfl rfl rfl rfl ?_
   refine Walk.call (cr := []) cal154 (impl_only_a) rfl .none rfl rfl (LeL.refl _) trivial rfl rfl rfl ?_
   refine asg ?_
   refine asg ?_
   refine tv ?_
   refine CWp.ret ?_
   refine ⟨_, _, [], (.cons (.tmp rfl) (.cons (.tmp rfl) .nil)), (.tup (.cons (.nild ?_) (.cons (.eqd ?_) .nil))), ⟨rfl, rfl⟩, HSub.nil, noBox⟩
   all_goals (first | (refine congrArg D.bool (okI _ ?_); (try simp only [decide_eq_true_eq, Bool.false_eq_true, within, Bool.and_eq_true, List.length_map, true_iff, false_iff]); omega) | (rw [ty0 (by omega) (by omega) (by omega)]; first | done | rfl) | (rw [ty5 (by omega)]; first | done | rfl) | (rw [ty6 (by omega)]; first | done | rfl) | (rw [ty4' (by omega) hmem]; first | done | rfl))
  ·intro h1; have ⟨h1p, h1s⟩ := dup h1; try simp only [Q5] at h1s
   try simp only [Q] at h1p
   refine sr ?_
   refine Walk.eqI .none rfl rfl rfl ?_
   refine asg ?_
   refine tv ?_
   refine cd ?_ ?_
   ·intro h2; have ⟨h2p, h2s⟩ := dup h2; try simp only [Q5] at h2s
    try simp only [Q] at h2p
    refine CWp.seq ?_
    refine CWp.regionJ ?_
    refine WRest.join 7 [(23, .d (.bool (decide ((p.ctor = 0 ∧ (p.n = 0 ∧ p.m = 0) ∧ (p.kids.length : Int) = 0) ∧ 0 ≤ p.var ∧ p.var ≤ 5))))] [17, 18, 19, 20, 21, 22] ?_ ?_
    ·
     refine Walk.loadBA ty70 .none rfl rfl rfl rfl ?_
     refine Walk.call (cr := []) cal154 (impl_only_v) rfl .none rfl rfl (LeL.refl _) trivial rfl rfl rfl ?_
     refine mv ?_
     refine sp 19 ?_ ?_
     ·intro h3; have ⟨h3p, h3s⟩ := dup h3; try simp only [Q5] at h3s
      try simp only [Q] at h3p
      refine Walk.fieldB fd70_4 (.some rfl rfl h3) rfl rfl ?_
      refine Walk.loadB ty3 (.some rfl rfl h3) rfl rfl rfl rfl ?_
      refine Walk.call (cr := []) cal155 (impl_isVar_fn) rfl (.some rfl rfl h3) rfl rfl (LeL.refl _) trivial rfl rfl rfl ?_
      refine Walk.pickT .none rfl rfl h3 rfl ?_
      exact ⟨trivial, Sub.x (by kernel_rfl) (by kernel_rfl) ⟨⟨_, rfl, (LeA.eqb (by (rw [Bool.eq_iff_iff]; simp only [decide_eq_true_eq, within, Bool.and_eq_true, Bool.false_eq_true, false_iff, true_iff]; omega)))⟩, trivial⟩ (by kernel_rfl) (by kernel_rfl) trivial⟩
     ·intro h3; have ⟨h3p, h3s⟩ := dup h3; try simp only [Q5] at h3s
      try simp only [Q] at h3p
      refine ps h3 ?_
      refine ps h3 ?_
      refine ps h3 ?_
      refine Walk.pickF .none rfl rfl h3 rfl ?_
      exact ⟨trivial, Sub.x (by kernel_rfl) (by kernel_rfl) ⟨⟨_, rfl, (LeA.eqb (by (rw [Bool.eq_iff_iff]; simp only [decide_eq_true_eq, within, Bool.and_eq_true, Bool.false_eq_true, false_iff, true_iff]; omega)))⟩, trivial⟩ (by kernel_rfl) (by kernel_rfl) trivial⟩
    refine WRest.done ?_
    refine asg ?_
    refine asg ?_
    refine tv ?_
    refine CWp.ret ?_
    refine ⟨_, _, [], (.cons (.tmp rfl) (.cons (.tmp rfl) .nil)), (.tup (.cons (.nild ?_) (.cons (.eqd ?_) .nil))), ⟨rfl, rfl⟩, HSub.nil, noBox⟩
    all_goals (first | (refine congrArg D.bool (okI _ ?_); (try simp only [decide_eq_true_eq, Bool.false_eq_true, within, Bool.and_eq_true, List.length_map, true_iff, false_iff]); omega) | (rw [ty0 (by omega) (by omega) (by omega)]; first | done | rfl) | (rw [ty5 (by omega)]; first | done | rfl) | (rw [ty6 (by omega)]; first | done | rfl) | (rw [ty4' (by omega) hmem]; first | done | rfl))
   ·intro h2; have ⟨h2p, h2s⟩ := dup h2; try simp only [Q5] at h2s
    try simp only [Q] at h2p
    refine sr ?_
    refine Walk.eqI .none rfl rfl rfl ?_
    refine asg ?_
    refine tv ?_
    refine cd ?_ ?_
    ·intro h4; have ⟨h4p, h4s⟩ := dup h4; try simp only [Q5] at h4s
     try simp only [Q] at h4p
     refine CWp.seq ?_
     refine CWp.drawn mixed rfl ?_
     refine Walk.fieldB fd38_0 .none rfl rfl ?_
     refine Walk.loadB ty3 .none rfl rfl rfl rfl ?_
     refine Walk.eqI .none rfl rfl rfl ?_
     refine mv ?_
     refine sp 29 ?_ ?_
     ·intro h5; have ⟨h5p, h5s⟩ := dup h5; try simp only [Q5] at h5s
      try simp only [Q] at h5p
      refine Walk.loadBA ty70 (.some rfl rfl h5) rfl rfl rfl rfl ?_
      refine Walk.call (cr := []) cal154 (impl_only_n) rfl (.some rfl rfl h5) rfl rfl (LeL.refl _) trivial rfl rfl rfl ?_
      refine Walk.pickT .none rfl rfl h5 rfl ?_
      refine mv ?_
      refine sp 33 ?_ ?_
      ·intro h6; have ⟨h6p, h6s⟩ := dup h6; try simp only [Q5] at h6s
       try simp only [Q] at h6p
       refine Walk.fieldB fd70_2 (.some rfl rfl h6) rfl rfl ?_
       refine Walk.loadB ty3 (.some rfl rfl h6) rfl rfl rfl rfl ?_
       refine Walk.leI (.some rfl rfl h6) rfl rfl rfl ?_
       refine Walk.pickT .none rfl rfl h6 rfl ?_
       refine mv ?_
       refine sp 38 ?_ ?_
       ·intro h7; have ⟨h7p, h7s⟩ := dup h7; try simp only [Q5] at h7s
        try simp only [Q] at h7p
        refine Walk.fieldB fd70_2 (.some rfl rfl h7) rfl rfl ?_
        refine Walk.loadB ty3 (.some rfl rfl h7) rfl rfl rfl rfl ?_
        refine Walk.fieldB fd70_3 (.some rfl rfl h7) rfl rfl ?_
        refine Walk.loadB ty3 (.some rfl rfl h7) rfl rfl rfl rfl ?_
        refine Walk.leI (.some rfl rfl h7) rfl rfl rfl ?_
        refine Walk.pickT .none rfl rfl h7 rfl ?_
        refine mv ?_
        refine sp 45 ?_ ?_
        ·intro h8; have ⟨h8p, h8s⟩ := dup h8; try simp only [Q5] at h8s
         try simp only [Q] at h8p
         refine Walk.fieldB fd70_3 (.some rfl rfl h8) rfl rfl ?_
         refine Walk.loadB ty3 (.some rfl rfl h8) rfl rfl rfl rfl ?_
         refine Walk.leI (.some rfl rfl h8) rfl rfl rfl ?_
         refine Walk.pickT .none rfl rfl h8 rfl ?_
         refine asg ?_
         refine asg ?_
         refine ⟨by show _ = _; kernel_rfl, ?_⟩
         refine CWp.ret ?_
         refine ⟨_, _, [], (.cons (.tmp rfl) (.cons (.tmp rfl) .nil)), (.tup (.cons (.nild ?_) (.cons (.eqd ?_) .nil))), ⟨rfl, rfl⟩, HSub.nil, noBox⟩
         all_goals (first | (refine congrArg D.bool (okI _ ?_); (try simp only [decide_eq_true_eq, Bool.false_eq_true, within, Bool.and_eq_true, List.length_map, true_iff, false_iff]); omega) | (rw [ty0 (by omega) (by omega) (by omega)]; first | done | rfl) | (rw [ty5 (by omega)]; first | done | rfl) | (rw [ty6 (by omega)]; first | done | rfl) | (rw [ty4' (by omega) hmem]; first | done | rfl))
        ·intro h8; have ⟨h8p, h8s⟩ := dup h8; try simp only [Q5] at h8s
         try simp only [Q] at h8p
         refine ps h8 ?_
         refine ps h8 ?_
         refine ps h8 ?_
         refine Walk.pickF .none rfl rfl h8 rfl ?_
         refine asg ?_
         refine asg ?_
         refine ⟨by show _ = _; kernel_rfl, ?_⟩
         refine CWp.ret ?_
         refine ⟨_, _, [], (.cons (.tmp rfl) (.cons (.tmp rfl) .nil)), (.tup (.cons (.nild ?_) (.cons (.eqd ?_) .nil))), ⟨rfl, rfl⟩, HSub.nil, noBox⟩
         all_goals (first | (refine congrArg D.bool (okI _ ?_); (try simp only [decide_eq_true_eq, Bool.false_eq_true, within, Bool.and_eq_true, List.length_map, true_iff, false_iff]); omega) | (rw [ty0 (by omega) (by omega) (by omega)]; first | done | rfl) | (rw [ty5 (by omega)]; first | done | rfl) | (rw [ty6 (by omega)]; first | done | rfl) | (rw [ty4' (by omega) hmem]; first | done | rfl))
       ·intro h7; have ⟨h7p, h7s⟩ := dup h7; try simp only [Q5] at h7s
        try simp only [Q] at h7p
        refine ps h7 ?_
        refine ps h7 ?_
        refine ps h7 ?_
        refine ps h7 ?_
        refine ps h7 ?_
        refine Walk.pickF .none rfl rfl h7 rfl ?_
        refine mv ?_
        refine ps rfl ?_
        refine ps rfl ?_
        refine ps rfl ?_
        refine Walk.pickF .none rfl rfl rfl rfl ?_
        refine asg ?_
        refine asg ?_
        refine ⟨by show _ = _; kernel_rfl, ?_⟩
        refine CWp.ret ?_
        refine ⟨_, _, [], (.cons (.tmp rfl) (.cons (.tmp rfl) .nil)), (.tup (.cons (.nild ?_) (.cons (.eqd ?_) .nil))), ⟨rfl, rfl⟩, HSub.nil, noBox⟩
        all_goals (first | (refine congrArg D.bool (okI _ ?_); (try simp only [decide_eq_true_eq, Bool.false_eq_true, within, Bool.and_eq_true, List.length_map, true_iff, false_iff]); omega) | (rw [ty0 (by omega) (by omega) (by omega)]; first | done | rfl) | (rw [ty5 (by omega)]; first | done | rfl) | (rw [ty6 (by omega)]; first | done | rfl) | (rw [ty4' (by omega) hmem]; first | done | rfl))
      ·intro h6; have ⟨h6p, h6s⟩ := dup h6; try simp only [Q5] at h6s
       try simp only [Q] at h6p
       refine ps h6 ?_
       refine ps h6 ?_
       refine ps h6 ?_
       refine Walk.pickF .none rfl rfl h6 rfl ?_
       refine mv ?_
       refine ps rfl ?_
       refine ps rfl ?_
       refine ps rfl ?_
       refine ps rfl ?_
       refine ps rfl ?_
       refine Walk.pickF .none rfl rfl rfl rfl ?_
       refine mv ?_
       refine ps rfl ?_
       refine ps rfl ?_
       refine ps rfl ?_
       refine Walk.pickF .none rfl rfl rfl rfl ?_
       refine asg ?_
       refine asg ?_
       refine ⟨by show _ = _; kernel_rfl, ?_⟩
       refine CWp.ret ?_
       refine ⟨_, _, [], (.cons (.tmp rfl) (.cons (.tmp rfl) .nil)), (.tup (.cons (.nild ?_) (.cons (.eqd ?_) .nil))), ⟨rfl, rfl⟩, HSub.nil, noBox⟩
       all_goals (first | (refine congrArg D.bool (okI _ ?_); (try simp only [decide_eq_true_eq, Bool.false_eq_true, within, Bool.and_eq_true, List.length_map, true_iff, false_iff]); omega) | (rw [ty0 (by omega) (by omega) (by omega)]; first | done | rfl) | (rw [ty5 (by omega)]; first | done | rfl) | (rw [ty6 (by omega)]; first | done | rfl) | (rw [ty4' (by omega) hmem]; first | done | rfl))
     ·intro h5; have ⟨h5p, h5s⟩ := dup h5; try simp only [Q5] at h5s
      try simp only [Q] at h5p
      refine ps h5 ?_
      refine ps h5 ?_
      refine Walk.pickF .none rfl rfl h5 rfl ?_
      refine mv ?_
      refine ps rfl ?_
      refine ps rfl ?_
      refine ps rfl ?_
      refine Walk.pickF .none rfl rfl rfl rfl ?_
      refine mv ?_
      refine ps rfl ?_
      refine ps rfl ?_
      refine ps rfl ?_
      refine ps rfl ?_
      refine ps rfl ?_
      refine Walk.pickF .none rfl rfl rfl rfl ?_
      refine mv ?_
      refine ps rfl ?_
      refine ps rfl ?_
      refine ps rfl ?_
      refine Walk.pickF .none rfl rfl rfl rfl ?_
      refine asg ?_
      refine asg ?_
      refine ⟨by show _ = _; kernel_rfl, ?_⟩
      refine CWp.ret ?_
      refine ⟨_, _, [], (.cons (.tmp rfl) (.cons (.tmp rfl) .nil)), (.tup (.cons (.nild ?_) (.cons (.eqd ?_) .nil))), ⟨rfl, rfl⟩, HSub.nil, noBox⟩
      all_goals (first | (refine congrArg D.bool (okI _ ?_); (try simp only [decide_eq_true_eq, Bool.false_eq_true, within, Bool.and_eq_true, List.length_map, true_iff, false_iff]); omega) | (rw [ty0 (by omega) (by omega) (by omega)]; first | done | rfl) | (rw [ty5 (by omega)]; first | done | rfl) | (rw [ty6 (by omega)]; first | done | rfl) | (rw [ty4' (by omega) hmem]; first | done | rfl))
    ·intro h4; have ⟨h4p, h4s⟩ := dup h4; try simp only [Q5] at h4s
     try simp only [Q] at h4p
     refine sr ?_
     refine Walk.eqI .none rfl rfl rfl ?_
     refine asg ?_
     refine tv ?_
     refine cd ?_ ?_
     ·intro h9; have ⟨h9p, h9s⟩ := dup h9; try simp only [Q5] at h9s
      try simp only [Q] at h9p
      refine CWp.seq ?_
      refine CWp.seq ?_
      refine CWp.drawn mixed rfl ?_
      refine mv ?_
      refine Walk.loadBA ty38 .none rfl rfl rfl rfl ?_
      refine Walk.call (cr := []) cal123 (impl_ctorsOf_v hw ht) rfl .none rfl rfl (LeL.refl _) trivial rfl rfl rfl ?_
      refine Walk.fieldB fd70_1 .none rfl rfl ?_
      refine Walk.loadB ty3 .none rfl rfl rfl rfl ?_
      refine Walk.call (cr := []) cal129 (slices_Contains_int_fn hcl) rfl .none rfl rfl (LeL.refl _) trivial rfl rfl rfl ?_
      refine Walk.not .none rfl rfl ?_
      refine ⟨by show _ = _; kernel_rfl, ?_⟩
      refine cd ?_ ?_
      ·intro h10; have ⟨h10p, h10s⟩ := dup h10; try simp only [Q5] at h10s
       try simp only [Q] at h10p
       exfalso; simp_all --stop
      ·intro h10; have ⟨h10p, h10s⟩ := dup h10; try simp only [Q5] at h10s
       try simp only [Q] at h10p
       refine CWp.skip ?_
       refine sr ?_
       refine mv ?_
       refine Walk.loadBA ty38 .none rfl rfl rfl rfl ?_
       refine Walk.fieldB fd70_1 .none rfl rfl ?_
       refine Walk.loadB ty3 .none rfl rfl rfl rfl ?_
       refine Walk.call (cr := []) cal124 (hargs) rfl .none rfl rfl (LeL.refl _) trivial rfl rfl rfl ?_
       refine asg ?_
       refine tv ?_
       refine sr ?_
       refine mv ?_
       refine Walk.loadBA ty70 .none rfl rfl rfl rfl ?_
       refine mv ?_
       refine Walk.len sl24 .none rfl rfl ?_
       refine Walk.call (cr := []) cal154 (impl_only_c) rfl .none rfl rfl (LeL.refl _) trivial rfl rfl rfl ?_
       refine asg ?_
       refine asg ?_
       refine tv ?_
       refine CWp.ret ?_
       refine ⟨_, _, [], (.cons (.tmp rfl) (.cons (.tmp rfl) .nil)), (.tup (.cons (.eqd ?_) (.cons (.eqd ?_) .nil))), ⟨rfl, rfl⟩, HSub.nil, noBox⟩
       all_goals (first | (refine congrArg D.bool (okI _ ?_); (try simp only [decide_eq_true_eq, Bool.false_eq_true, within, Bool.and_eq_true, List.length_map, true_iff, false_iff]); omega) | (rw [ty0 (by omega) (by omega) (by omega)]; first | done | rfl) | (rw [ty5 (by omega)]; first | done | rfl) | (rw [ty6 (by omega)]; first | done | rfl) | (rw [ty4' (by omega) hmem]; first | done | rfl))
     ·intro h9; have ⟨h9p, h9s⟩ := dup h9; try simp only [Q5] at h9s
      try simp only [Q] at h9p
      refine sr ?_
      refine Walk.eqI .none rfl rfl rfl ?_
      refine asg ?_
      refine tv ?_
      refine cd ?_ ?_
      ·intro h11; have ⟨h11p, h11s⟩ := dup h11; try simp only [Q5] at h11s
       try simp only [Q] at h11p
       refine CWp.seq ?_
       refine CWp.drawn mixed rfl ?_
       refine Walk.loadBA ty38 .none rfl rfl rfl rfl ?_
       refine Walk.loadBA ty38 .none rfl rfl rfl rfl ?_
       refine Walk.sliceLit sl24 tz38 rfl (by decide) (ks := [0, 1]) (xs := [_, _]) rfl rfl (by decide) (by decide) .none rfl rfl rfl rfl ?_
       refine Walk.loadBA ty70 .none rfl rfl rfl rfl ?_
       refine Walk.call (cr := []) cal154 (impl_only_a) rfl .none rfl rfl (LeL.refl _) trivial rfl rfl rfl ?_
       refine asg ?_
       refine asg ?_
       refine ⟨by show _ = _; kernel_rfl, ?_⟩
       refine CWp.ret ?_
       refine ⟨_, _, [], (.cons (.tmp rfl) (.cons (.tmp rfl) .nil)), (.tup (.cons (.eqd ?_) (.cons (.eqd ?_) .nil))), ⟨rfl, rfl⟩, HSub.nil, noBox⟩
       all_goals (first | (refine congrArg D.bool (okI _ ?_); (try simp only [decide_eq_true_eq, Bool.false_eq_true, within, Bool.and_eq_true, List.length_map, true_iff, false_iff]); omega) | (rw [ty0 (by omega) (by omega) (by omega)]; first | done | rfl) | (rw [ty5 (by omega)]; first | done | rfl) | (rw [ty6 (by omega)]; first | done | rfl) | (rw [ty4' (by omega) hmem]; first | done | rfl))
      ·intro h11; have ⟨h11p, h11s⟩ := dup h11; try simp only [Q5] at h11s
       try simp only [Q] at h11p
       refine sr ?_
       refine Walk.eqI .none rfl rfl rfl ?_
       refine asg ?_
       refine tv ?_
       refine cd ?_ ?_
       ·intro h12; have ⟨h12p, h12s⟩ := dup h12; try simp only [Q5] at h12s
        try simp only [Q] at h12p
        refine CWp.seq ?_
        refine CWp.drawn mixed rfl ?_
        refine Walk.loadBA ty38 .none rfl rfl rfl rfl ?_
        refine Walk.sliceLit sl24 tz38 rfl (by decide) (ks := [0]) (xs := [_]) rfl rfl (by decide) (by decide) .none rfl rfl rfl rfl ?_
        refine Walk.loadBA ty70 .none rfl rfl rfl rfl ?_
        refine Walk.call (cr := []) cal154 (impl_only_v) rfl .none rfl rfl (LeL.refl _) trivial rfl rfl rfl ?_
        refine mv ?_
        refine sp 82 ?_ ?_
        ·intro h13; have ⟨h13p, h13s⟩ := dup h13; try simp only [Q5] at h13s
         try simp only [Q] at h13p
         refine Walk.fieldB fd70_4 (.some rfl rfl h13) rfl rfl ?_
         refine Walk.loadB ty3 (.some rfl rfl h13) rfl rfl rfl rfl ?_
         refine Walk.call (cr := []) cal155 (impl_isVar_fn) rfl (.some rfl rfl h13) rfl rfl (LeL.refl _) trivial rfl rfl rfl ?_
         refine Walk.pickT .none rfl rfl h13 rfl ?_
         refine asg ?_
         refine asg ?_
         refine ⟨by show _ = _; kernel_rfl, ?_⟩
         refine CWp.ret ?_
         refine ⟨_, _, [], (.cons (.tmp rfl) (.cons (.tmp rfl) .nil)), (.tup (.cons (.eqd ?_) (.cons (.eqd ?_) .nil))), ⟨rfl, rfl⟩, HSub.nil, noBox⟩
         all_goals (first | (refine congrArg D.bool (okI _ ?_); (try simp only [decide_eq_true_eq, Bool.false_eq_true, within, Bool.and_eq_true, List.length_map, true_iff, false_iff]); omega) | (rw [ty0 (by omega) (by omega) (by omega)]; first | done | rfl) | (rw [ty5 (by omega)]; first | done | rfl) | (rw [ty6 (by omega)]; first | done | rfl) | (rw [ty4' (by omega) hmem]; first | done | rfl))
        ·intro h13; have ⟨h13p, h13s⟩ := dup h13; try simp only [Q5] at h13s
         try simp only [Q] at h13p
         refine ps h13 ?_
         refine ps h13 ?_
         refine ps h13 ?_
         refine Walk.pickF .none rfl rfl h13 rfl ?_
         refine asg ?_
         refine asg ?_
         refine ⟨by show _ = _; kernel_rfl, ?_⟩
         refine CWp.ret ?_
         refine ⟨_, _, [], (.cons (.tmp rfl) (.cons (.tmp rfl) .nil)), (.tup (.cons (.eqd ?_) (.cons (.eqd ?_) .nil))), ⟨rfl, rfl⟩, HSub.nil, noBox⟩
         all_goals (first | (refine congrArg D.bool (okI _ ?_); (try simp only [decide_eq_true_eq, Bool.false_eq_true, within, Bool.and_eq_true, List.length_map, true_iff, false_iff]); omega) | (rw [ty0 (by omega) (by omega) (by omega)]; first | done | rfl) | (rw [ty5 (by omega)]; first | done | rfl) | (rw [ty6 (by omega)]; first | done | rfl) | (rw [ty4' (by omega) hmem]; first | done | rfl))
       ·intro h12; have ⟨h12p, h12s⟩ := dup h12; try simp only [Q5] at h12s
        try simp only [Q] at h12p
        refine CWp.skip ?_
        refine sr ?_
        refine asg ?_
        refine asg ?_
        refine tv ?_
        refine CWp.ret ?_
        refine ⟨_, _, [], (.cons (.tmp rfl) (.cons (.tmp rfl) .nil)), (.tup (.cons (.nild ?_) (.cons (.eqd ?_) .nil))), ⟨rfl, rfl⟩, HSub.nil, noBox⟩
        all_goals (first | (refine congrArg D.bool (okI _ ?_); (try simp only [decide_eq_true_eq, Bool.false_eq_true, within, Bool.and_eq_true, List.length_map, true_iff, false_iff]); omega) | (rw [ty0 (by omega) (by omega) (by omega)]; first | done | rfl) | (rw [ty5 (by omega)]; first | done | rfl) | (rw [ty6 (by omega)]; first | done | rfl) | (rw [ty4' (by omega) hmem]; first | done | rfl))
 ·simp only [hmem, and_false, or_false] at okI
  refine Fn.body (fn := Try.f150) (n := 87) rfl rfl rfl rfl rfl (fun w0 F0 own kept hk => ?_)
  refine sr ?_
  refine Walk.box (id := 3004) .none rfl rfl rfl rfl rfl rfl rfl ?_
  refine Walk.box (id := 3005) .none rfl rfl rfl rfl rfl rfl rfl ?_
  refine asg ?_
  refine asg ?_
  refine tv ?_
  refine CWp.seq ?_
  refine sr ?_
  refine Walk.fieldB fd70_0 .none rfl rfl ?_
  refine Walk.loadB ty3 .none rfl rfl rfl rfl ?_
  refine tv ?_
  refine CWp.block ?_
  refine sr ?_
  refine Walk.eqI .none rfl rfl rfl ?_
  refine asg ?_
  refine tv ?_
  refine cd ?_ ?_
  ·intro h1; have ⟨h1p, h1s⟩ := dup h1; try simp only [Q5] at h1s
   try simp only [Q] at h1p
   refine sr ?_
   refine Walk.loadBA ty70 .none rfl rfl rfl rfl ?_
   refine Walk.call (cr := []) cal154 (impl_only_a) rfl .none rfl rfl (LeL.refl _) trivial rfl rfl rfl ?_
   refine asg ?_
   refine asg ?_
   refine tv ?_
   refine CWp.ret ?_
   refine ⟨_, _, [], (.cons (.tmp rfl) (.cons (.tmp rfl) .nil)), (.tup (.cons (.nild ?_) (.cons (.eqd ?_) .nil))), ⟨rfl, rfl⟩, HSub.nil, noBox⟩
   all_goals (first | (refine congrArg D.bool (okI _ ?_); (try simp only [decide_eq_true_eq, Bool.false_eq_true, within, Bool.and_eq_true, List.length_map, true_iff, false_iff]); omega) | (rw [ty0 (by omega) (by omega) (by omega)]; first | done | rfl) | (rw [ty5 (by omega)]; first | done | rfl) | (rw [ty6 (by omega)]; first | done | rfl) | (rw [ty4 (by omega) hmem]; first | done | rfl))
  ·intro h1; have ⟨h1p, h1s⟩ := dup h1; try simp only [Q5] at h1s
   try simp only [Q] at h1p
   refine sr ?_
   refine Walk.eqI .none rfl rfl rfl ?_
   refine asg ?_
   refine tv ?_
   refine cd ?_ ?_
   ·intro h2; have ⟨h2p, h2s⟩ := dup h2; try simp only [Q5] at h2s
    try simp only [Q] at h2p
    refine CWp.seq ?_
    refine CWp.regionJ ?_
    refine WRest.join 7 [(23, .d (.bool (decide ((p.ctor = 0 ∧ (p.n = 0 ∧ p.m = 0) ∧ (p.kids.length : Int) = 0) ∧ 0 ≤ p.var ∧ p.var ≤ 5))))] [17, 18, 19, 20, 21, 22] ?_ ?_
    ·
     refine Walk.loadBA ty70 .none rfl rfl rfl rfl ?_
     refine Walk.call (cr := []) cal154 (impl_only_v) rfl .none rfl rfl (LeL.refl _) trivial rfl rfl rfl ?_
     refine mv ?_
     refine sp 19 ?_ ?_
     ·intro h3; have ⟨h3p, h3s⟩ := dup h3; try simp only [Q5] at h3s
      try simp only [Q] at h3p
      refine Walk.fieldB fd70_4 (.some rfl rfl h3) rfl rfl ?_
      refine Walk.loadB ty3 (.some rfl rfl h3) rfl rfl rfl rfl ?_
      refine Walk.call (cr := []) cal155 (impl_isVar_fn) rfl (.some rfl rfl h3) rfl rfl (LeL.refl _) trivial rfl rfl rfl ?_
      refine Walk.pickT .none rfl rfl h3 rfl ?_
      exact ⟨trivial, Sub.x (by kernel_rfl) (by kernel_rfl) ⟨⟨_, rfl, (LeA.eqb (by (rw [Bool.eq_iff_iff]; simp only [decide_eq_true_eq, within, Bool.and_eq_true, Bool.false_eq_true, false_iff, true_iff]; omega)))⟩, trivial⟩ (by kernel_rfl) (by kernel_rfl) trivial⟩
     ·intro h3; have ⟨h3p, h3s⟩ := dup h3; try simp only [Q5] at h3s
      try simp only [Q] at h3p
      refine ps h3 ?_
      refine ps h3 ?_
      refine ps h3 ?_
      refine Walk.pickF .none rfl rfl h3 rfl ?_
      exact ⟨trivial, Sub.x (by kernel_rfl) (by kernel_rfl) ⟨⟨_, rfl, (LeA.eqb (by (rw [Bool.eq_iff_iff]; simp only [decide_eq_true_eq, within, Bool.and_eq_true, Bool.false_eq_true, false_iff, true_iff]; omega)))⟩, trivial⟩ (by kernel_rfl) (by kernel_rfl) trivial⟩
    refine WRest.done ?_
    refine asg ?_
    refine asg ?_
    refine tv ?_
    refine CWp.ret ?_
    refine ⟨_, _, [], (.cons (.tmp rfl) (.cons (.tmp rfl) .nil)), (.tup (.cons (.nild ?_) (.cons (.eqd ?_) .nil))), ⟨rfl, rfl⟩, HSub.nil, noBox⟩
    all_goals (first | (refine congrArg D.bool (okI _ ?_); (try simp only [decide_eq_true_eq, Bool.false_eq_true, within, Bool.and_eq_true, List.length_map, true_iff, false_iff]); omega) | (rw [ty0 (by omega) (by omega) (by omega)]; first | done | rfl) | (rw [ty5 (by omega)]; first | done | rfl) | (rw [ty6 (by omega)]; first | done | rfl) | (rw [ty4 (by omega) hmem]; first | done | rfl))
   ·intro h2; have ⟨h2p, h2s⟩ := dup h2; try simp only [Q5] at h2s
    try simp only [Q] at h2p
    refine sr ?_
    refine Walk.eqI .none rfl rfl rfl ?_
    refine asg ?_
    refine tv ?_
    refine cd ?_ ?_
    ·intro h4; have ⟨h4p, h4s⟩ := dup h4; try simp only [Q5] at h4s
     try simp only [Q] at h4p
     refine CWp.seq ?_
     refine CWp.drawn mixed rfl ?_
     refine Walk.fieldB fd38_0 .none rfl rfl ?_
     refine Walk.loadB ty3 .none rfl rfl rfl rfl ?_
     refine Walk.eqI .none rfl rfl rfl ?_
     refine mv ?_
     refine sp 29 ?_ ?_
     ·intro h5; have ⟨h5p, h5s⟩ := dup h5; try simp only [Q5] at h5s
      try simp only [Q] at h5p
      refine Walk.loadBA ty70 (.some rfl rfl h5) rfl rfl rfl rfl ?_
      refine Walk.call (cr := []) cal154 (impl_only_n) rfl (.some rfl rfl h5) rfl rfl (LeL.refl _) trivial rfl rfl rfl ?_
      refine Walk.pickT .none rfl rfl h5 rfl ?_
      refine mv ?_
      refine sp 33 ?_ ?_
      ·intro h6; have ⟨h6p, h6s⟩ := dup h6; try simp only [Q5] at h6s
       try simp only [Q] at h6p
       refine Walk.fieldB fd70_2 (.some rfl rfl h6) rfl rfl ?_
       refine Walk.loadB ty3 (.some rfl rfl h6) rfl rfl rfl rfl ?_
       refine Walk.leI (.some rfl rfl h6) rfl rfl rfl ?_
       refine Walk.pickT .none rfl rfl h6 rfl ?_
       refine mv ?_
       refine sp 38 ?_ ?_
       ·intro h7; have ⟨h7p, h7s⟩ := dup h7; try simp only [Q5] at h7s
        try simp only [Q] at h7p
        refine Walk.fieldB fd70_2 (.some rfl rfl h7) rfl rfl ?_
        refine Walk.loadB ty3 (.some rfl rfl h7) rfl rfl rfl rfl ?_
        refine Walk.fieldB fd70_3 (.some rfl rfl h7) rfl rfl ?_
        refine Walk.loadB ty3 (.some rfl rfl h7) rfl rfl rfl rfl ?_
        refine Walk.leI (.some rfl rfl h7) rfl rfl rfl ?_
        refine Walk.pickT .none rfl rfl h7 rfl ?_
        refine mv ?_
        refine sp 45 ?_ ?_
        ·intro h8; have ⟨h8p, h8s⟩ := dup h8; try simp only [Q5] at h8s
         try simp only [Q] at h8p
         refine Walk.fieldB fd70_3 (.some rfl rfl h8) rfl rfl ?_
         refine Walk.loadB ty3 (.some rfl rfl h8) rfl rfl rfl rfl ?_
         refine Walk.leI (.some rfl rfl h8) rfl rfl rfl ?_
         refine Walk.pickT .none rfl rfl h8 rfl ?_
         refine asg ?_
         refine asg ?_
         refine ⟨by show _ = _; kernel_rfl, ?_⟩
         refine CWp.ret ?_
         refine ⟨_, _, [], (.cons (.tmp rfl) (.cons (.tmp rfl) .nil)), (.tup (.cons (.nild ?_) (.cons (.eqd ?_) .nil))), ⟨rfl, rfl⟩, HSub.nil, noBox⟩
         all_goals (first | (refine congrArg D.bool (okI _ ?_); (try simp only [decide_eq_true_eq, Bool.false_eq_true, within, Bool.and_eq_true, List.length_map, true_iff, false_iff]); omega) | (rw [ty0 (by omega) (by omega) (by omega)]; first | done | rfl) | (rw [ty5 (by omega)]; first | done | rfl) | (rw [ty6 (by omega)]; first | done | rfl) | (rw [ty4 (by omega) hmem]; first | done | rfl))
        ·intro h8; have ⟨h8p, h8s⟩ := dup h8; try simp only [Q5] at h8s
         try simp only [Q] at h8p
         refine ps h8 ?_
         refine ps h8 ?_
         refine ps h8 ?_
         refine Walk.pickF .none rfl rfl h8 rfl ?_
         refine asg ?_
         refine asg ?_
         refine ⟨by show _ = _; kernel_rfl, ?_⟩
         refine CWp.ret ?_
         refine ⟨_, _, [], (.cons (.tmp rfl) (.cons (.tmp rfl) .nil)), (.tup (.cons (.nild ?_) (.cons (.eqd ?_) .nil))), ⟨rfl, rfl⟩, HSub.nil, noBox⟩
         all_goals (first | (refine congrArg D.bool (okI _ ?_); (try simp only [decide_eq_true_eq, Bool.false_eq_true, within, Bool.and_eq_true, List.length_map, true_iff, false_iff]); omega) | (rw [ty0 (by omega) (by omega) (by omega)]; first | done | rfl) | (rw [ty5 (by omega)]; first | done | rfl) | (rw [ty6 (by omega)]; first | done | rfl) | (rw [ty4 (by omega) hmem]; first | done | rfl))
       ·intro h7; have ⟨h7p, h7s⟩ := dup h7; try simp only [Q5] at h7s
        try simp only [Q] at h7p
        refine ps h7 ?_
        refine ps h7 ?_
        refine ps h7 ?_
        refine ps h7 ?_
        refine ps h7 ?_
        refine Walk.pickF .none rfl rfl h7 rfl ?_
        refine mv ?_
        refine ps rfl ?_
        refine ps rfl ?_
        refine ps rfl ?_
        refine Walk.pickF .none rfl rfl rfl rfl ?_
        refine asg ?_
        refine asg ?_
        refine ⟨by show _ = _; kernel_rfl, ?_⟩
        refine CWp.ret ?_
        refine ⟨_, _, [], (.cons (.tmp rfl) (.cons (.tmp rfl) .nil)), (.tup (.cons (.nild ?_) (.cons (.eqd ?_) .nil))), ⟨rfl, rfl⟩, HSub.nil, noBox⟩
        all_goals (first | (refine congrArg D.bool (okI _ ?_); (try simp only [decide_eq_true_eq, Bool.false_eq_true, within, Bool.and_eq_true, List.length_map, true_iff, false_iff]); omega) | (rw [ty0 (by omega) (by omega) (by omega)]; first | done | rfl) | (rw [ty5 (by omega)]; first | done | rfl) | (rw [ty6 (by omega)]; first | done | rfl) | (rw [ty4 (by omega) hmem]; first | done | rfl))
      ·intro h6; have ⟨h6p, h6s⟩ := dup h6; try simp only [Q5] at h6s
       try simp only [Q] at h6p
       refine ps h6 ?_
       refine ps h6 ?_
       refine ps h6 ?_
       refine Walk.pickF .none rfl rfl h6 rfl ?_
       refine mv ?_
       refine ps rfl ?_
       refine ps rfl ?_
       refine ps rfl ?_
       refine ps rfl ?_
       refine ps rfl ?_
       refine Walk.pickF .none rfl rfl rfl rfl ?_
       refine mv ?_
       refine ps rfl ?_
       refine ps rfl ?_
       refine ps rfl ?_
       refine Walk.pickF .none rfl rfl rfl rfl ?_
       refine asg ?_
       refine asg ?_
       refine ⟨by show _ = _; kernel_rfl, ?_⟩
       refine CWp.ret ?_
       refine ⟨_, _, [], (.cons (.tmp rfl) (.cons (.tmp rfl) .nil)), (.tup (.cons (.nild ?_) (.cons (.eqd ?_) .nil))), ⟨rfl, rfl⟩, HSub.nil, noBox⟩
       all_goals (first | (refine congrArg D.bool (okI _ ?_); (try simp only [decide_eq_true_eq, Bool.false_eq_true, within, Bool.and_eq_true, List.length_map, true_iff, false_iff]); omega) | (rw [ty0 (by omega) (by omega) (by omega)]; first | done | rfl) | (rw [ty5 (by omega)]; first | done | rfl) | (rw [ty6 (by omega)]; first | done | rfl) | (rw [ty4 (by omega) hmem]; first | done | rfl))
     ·intro h5; have ⟨h5p, h5s⟩ := dup h5; try simp only [Q5] at h5s
      try simp only [Q] at h5p
      refine ps h5 ?_
      refine ps h5 ?_
      refine Walk.pickF .none rfl rfl h5 rfl ?_
      refine mv ?_
      refine ps rfl ?_
      refine ps rfl ?_
      refine ps rfl ?_
      refine Walk.pickF .none rfl rfl rfl rfl ?_
      refine mv ?_
      refine ps rfl ?_
      refine ps rfl ?_
      refine ps rfl ?_
      refine ps rfl ?_
      refine ps rfl ?_
      refine Walk.pickF .none rfl rfl rfl rfl ?_
      refine mv ?_
      refine ps rfl ?_
      refine ps rfl ?_
      refine ps rfl ?_
      refine Walk.pickF .none rfl rfl rfl rfl ?_
      refine asg ?_
      refine asg ?_
      refine ⟨by show _ = _; kernel_rfl, ?_⟩
      refine CWp.ret ?_
      refine ⟨_, _, [], (.cons (.tmp rfl) (.cons (.tmp rfl) .nil)), (.tup (.cons (.nild ?_) (.cons (.eqd ?_) .nil))), ⟨rfl, rfl⟩, HSub.nil, noBox⟩
      all_goals (first | (refine congrArg D.bool (okI _ ?_); (try simp only [decide_eq_true_eq, Bool.false_eq_true, within, Bool.and_eq_true, List.length_map, true_iff, false_iff]); omega) | (rw [ty0 (by omega) (by omega) (by omega)]; first | done | rfl) | (rw [ty5 (by omega)]; first | done | rfl) | (rw [ty6 (by omega)]; first | done | rfl) | (rw [ty4 (by omega) hmem]; first | done | rfl))
    ·intro h4; have ⟨h4p, h4s⟩ := dup h4; try simp only [Q5] at h4s
     try simp only [Q] at h4p
     refine sr ?_
     refine Walk.eqI .none rfl rfl rfl ?_
     refine asg ?_
     refine tv ?_
     refine cd ?_ ?_
     ·intro h9; have ⟨h9p, h9s⟩ := dup h9; try simp only [Q5] at h9s
      try simp only [Q] at h9p
      refine CWp.seq ?_
      refine CWp.seq ?_
      refine CWp.drawn mixed rfl ?_
      refine mv ?_
      refine Walk.loadBA ty38 .none rfl rfl rfl rfl ?_
      refine Walk.call (cr := []) cal123 (impl_ctorsOf_v hw ht) rfl .none rfl rfl (LeL.refl _) trivial rfl rfl rfl ?_
      refine Walk.fieldB fd70_1 .none rfl rfl ?_
      refine Walk.loadB ty3 .none rfl rfl rfl rfl ?_
      refine Walk.call (cr := []) cal129 (slices_Contains_int_fn hcl) rfl .none rfl rfl (LeL.refl _) trivial rfl rfl rfl ?_
      refine Walk.not .none rfl rfl ?_
      refine ⟨by show _ = _; kernel_rfl, ?_⟩
      refine cd ?_ ?_
      ·intro h10; have ⟨h10p, h10s⟩ := dup h10; try simp only [Q5] at h10s
       try simp only [Q] at h10p
       refine sr ?_
       refine asg ?_
       refine asg ?_
       refine tv ?_
       refine CWp.ret ?_
       refine ⟨_, _, [], (.cons (.tmp rfl) (.cons (.tmp rfl) .nil)), (.tup (.cons (.nild ?_) (.cons (.eqd ?_) .nil))), ⟨rfl, rfl⟩, HSub.nil, noBox⟩
       all_goals (first | (refine congrArg D.bool (okI _ ?_); (try simp only [decide_eq_true_eq, Bool.false_eq_true, within, Bool.and_eq_true, List.length_map, true_iff, false_iff]); omega) | (rw [ty0 (by omega) (by omega) (by omega)]; first | done | rfl) | (rw [ty5 (by omega)]; first | done | rfl) | (rw [ty6 (by omega)]; first | done | rfl) | (rw [ty4 (by omega) hmem]; first | done | rfl))
      ·intro h10; have ⟨h10p, h10s⟩ := dup h10; try simp only [Q5] at h10s
       try simp only [Q] at h10p
       exfalso; simp_all --stop
     ·intro h9; have ⟨h9p, h9s⟩ := dup h9; try simp only [Q5] at h9s
      try simp only [Q] at h9p
      refine sr ?_
      refine Walk.eqI .none rfl rfl rfl ?_
      refine asg ?_
      refine tv ?_
      refine cd ?_ ?_
      ·intro h11; have ⟨h11p, h11s⟩ := dup h11; try simp only [Q5] at h11s
       try simp only [Q] at h11p
       refine CWp.seq ?_
       refine CWp.drawn mixed rfl ?_
       refine Walk.loadBA ty38 .none rfl rfl rfl rfl ?_
       refine Walk.loadBA ty38 .none rfl rfl rfl rfl ?_
       refine Walk.sliceLit sl24 tz38 rfl (by decide) (ks := [0, 1]) (xs := [_, _]) rfl rfl (by decide) (by decide) .none rfl rfl rfl rfl ?_
       refine Walk.loadBA ty70 .none rfl rfl rfl rfl ?_
       refine Walk.call (cr := []) cal154 (impl_only_a) rfl .none rfl rfl (LeL.refl _) trivial rfl rfl rfl ?_
       refine asg ?_
       refine asg ?_
       refine ⟨by show _ = _; kernel_rfl, ?_⟩
       refine CWp.ret ?_
       refine ⟨_, _, [], (.cons (.tmp rfl) (.cons (.tmp rfl) .nil)), (.tup (.cons (.eqd ?_) (.cons (.eqd ?_) .nil))), ⟨rfl, rfl⟩, HSub.nil, noBox⟩
       all_goals (first | (refine congrArg D.bool (okI _ ?_); (try simp only [decide_eq_true_eq, Bool.false_eq_true, within, Bool.and_eq_true, List.length_map, true_iff, false_iff]); omega) | (rw [ty0 (by omega) (by omega) (by omega)]; first | done | rfl) | (rw [ty5 (by omega)]; first | done | rfl) | (rw [ty6 (by omega)]; first | done | rfl) | (rw [ty4 (by omega) hmem]; first | done | rfl))
      ·intro h11; have ⟨h11p, h11s⟩ := dup h11; try simp only [Q5] at h11s
       try simp only [Q] at h11p
       refine sr ?_
       refine Walk.eqI .none rfl rfl rfl ?_
       refine asg ?_
       refine tv ?_
       refine cd ?_ ?_
       ·intro h12; have ⟨h12p, h12s⟩ := dup h12; try simp only [Q5] at h12s
        try simp only [Q] at h12p
        refine CWp.seq ?_
        refine CWp.drawn mixed rfl ?_
        refine Walk.loadBA ty38 .none rfl rfl rfl rfl ?_
        refine Walk.sliceLit sl24 tz38 rfl (by decide) (ks := [0]) (xs := [_]) rfl rfl (by decide) (by decide) .none rfl rfl rfl rfl ?_
        refine Walk.loadBA ty70 .none rfl rfl rfl rfl ?_
        refine Walk.call (cr := []) cal154 (impl_only_v) rfl .none rfl rfl (LeL.refl _) trivial rfl rfl rfl ?_
        refine mv ?_
        refine sp 82 ?_ ?_
        ·intro h13; have ⟨h13p, h13s⟩ := dup h13; try simp only [Q5] at h13s
         try simp only [Q] at h13p
         refine Walk.fieldB fd70_4 (.some rfl rfl h13) rfl rfl ?_
         refine Walk.loadB ty3 (.some rfl rfl h13) rfl rfl rfl rfl ?_
         refine Walk.call (cr := []) cal155 (impl_isVar_fn) rfl (.some rfl rfl h13) rfl rfl (LeL.refl _) trivial rfl rfl rfl ?_
         refine Walk.pickT .none rfl rfl h13 rfl ?_
         refine asg ?_
         refine asg ?_
         refine ⟨by show _ = _; kernel_rfl, ?_⟩
         refine CWp.ret ?_
         refine ⟨_, _, [], (.cons (.tmp rfl) (.cons (.tmp rfl) .nil)), (.tup (.cons (.eqd ?_) (.cons (.eqd ?_) .nil))), ⟨rfl, rfl⟩, HSub.nil, noBox⟩
         all_goals (first | (refine congrArg D.bool (okI _ ?_); (try simp only [decide_eq_true_eq, Bool.false_eq_true, within, Bool.and_eq_true, List.length_map, true_iff, false_iff]); omega) | (rw [ty0 (by omega) (by omega) (by omega)]; first | done | rfl) | (rw [ty5 (by omega)]; first | done | rfl) | (rw [ty6 (by omega)]; first | done | rfl) | (rw [ty4 (by omega) hmem]; first | done | rfl))
        ·intro h13; have ⟨h13p, h13s⟩ := dup h13; try simp only [Q5] at h13s
         try simp only [Q] at h13p
         refine ps h13 ?_
         refine ps h13 ?_
         refine ps h13 ?_
         refine Walk.pickF .none rfl rfl h13 rfl ?_
         refine asg ?_
         refine asg ?_
         refine ⟨by show _ = _; kernel_rfl, ?_⟩
         refine CWp.ret ?_
         refine ⟨_, _, [], (.cons (.tmp rfl) (.cons (.tmp rfl) .nil)), (.tup (.cons (.eqd ?_) (.cons (.eqd ?_) .nil))), ⟨rfl, rfl⟩, HSub.nil, noBox⟩
         all_goals (first | (refine congrArg D.bool (okI _ ?_); (try simp only [decide_eq_true_eq, Bool.false_eq_true, within, Bool.and_eq_true, List.length_map, true_iff, false_iff]); omega) | (rw [ty0 (by omega) (by omega) (by omega)]; first | done | rfl) | (rw [ty5 (by omega)]; first | done | rfl) | (rw [ty6 (by omega)]; first | done | rfl) | (rw [ty4 (by omega) hmem]; first | done | rfl))
       ·intro h12; have ⟨h12p, h12s⟩ := dup h12; try simp only [Q5] at h12s
        try simp only [Q] at h12p
        refine CWp.skip ?_
        refine sr ?_
        refine asg ?_
        refine asg ?_
        refine tv ?_
        refine CWp.ret ?_
        refine ⟨_, _, [], (.cons (.tmp rfl) (.cons (.tmp rfl) .nil)), (.tup (.cons (.nild ?_) (.cons (.eqd ?_) .nil))), ⟨rfl, rfl⟩, HSub.nil, noBox⟩
        all_goals (first | (refine congrArg D.bool (okI _ ?_); (try simp only [decide_eq_true_eq, Bool.false_eq_true, within, Bool.and_eq_true, List.length_map, true_iff, false_iff]); omega) | (rw [ty0 (by omega) (by omega) (by omega)]; first | done | rfl) | (rw [ty5 (by omega)]; first | done | rfl) | (rw [ty6 (by omega)]; first | done | rfl) | (rw [ty4 (by omega) hmem]; first | done | rfl))
theorem vt_iff {t u : Vt} : t = u ↔ t.var = u.var ∧ t.ty.data = u.ty.data ∧ t.ty.index = u.ty.index := by
 rcases t with ⟨a, b, c⟩; rcases u with ⟨d, e, f⟩; simp
def idxVt (l : List Vt) (v : Vt) : Int := idxF (fun x => decide (v = x)) l 0
theorem slices_Index_Vt_fn {l : List Vt} {v : Vt} (h : l.length ≤ 1000000000000) : FnD Try.prog 163 [.d (encVts l), .agg [.d (.i v.var), .d (.i v.ty.data), .d (.i v.ty.index)]] [] (.d (.i (idxVt l v))) [] := by
 refine Fn.body (fn := Try.f163) (n := 19) rfl rfl rfl rfl rfl (fun w0 F0 own kept hk => ?_)
 refine sr ?_
 refine Walk.box (id := 3003) .none rfl rfl rfl rfl rfl rfl rfl ?_
 refine asg ?_
 refine tv ?_
 refine CWp.seq ?_
 refine sr ?_
 refine mv ?_
 refine Walk.len sl134 .none rfl rfl ?_
 refine mv ?_
 refine tv ?_
 refine CWp.block ?_
 refine CWp.loopX (ι := List (Vt) × List (Vt)) hk (fun x => [(8, .d (.i (x.1.length : Int)))]) [4, 5, 9, 10, 11, 12, 13, 14, 15, 16, 17, 18] (fun x => []) (fun x => x.1 ++ x.2 = l ∧ idxF (fun x => decide (v = x)) x.2 x.1.length = idxF (fun x => decide (v = x)) l 0) (fun x => x.2.length) ([], l) ⟨by simp, rfl⟩ ⟨⟨_, rfl, (LeA.eqi (by first | rfl | (simp; done) | (simp_all; done) | omega))⟩, trivial⟩ trivial (fun x => rfl) (fun x hg1 => ?_)
 obtain ⟨pre, rest⟩ := x
 dsimp only at hg1 ⊢
 refine sr ?_
 refine Walk.ltI .none rfl rfl rfl ?_
 refine tv ?_
 refine CWp.seq ?_
 refine cd ?_ ?_
 ·intro h1; have ⟨h1p, h1s⟩ := dup h1; try simp only [Q5] at h1s
  try simp only [Q] at h1p
  rcases rest with _ | ⟨y, rest⟩
  ·exfalso; simp_all
  refine CWp.skip ?_
  refine CWp.seq ?_
  refine CWp.block ?_
  refine sr ?_
  refine mv ?_
  refine asg ?_
  refine tv ?_
  refine CWp.seq ?_
  refine CWp.drawn mixed rfl ?_
  refine Walk.loadBA ty168 .none rfl rfl rfl rfl ?_
  refine mv ?_
  refine mv ?_
  refine Walk.idx sl134 .none rfl rfl rfl rfl (zip_at hg1.1) rfl ?_
  refine Walk.loadPA ty168 .none rfl rfl rfl rfl ?_
  refine Walk.eqV2 eq168 .none rfl rfl rfl rfl rfl ?_
  refine ⟨by show _ = _; kernel_rfl, ?_⟩
  refine cd ?_ ?_
  ·intro h2; have ⟨h2p, h2s⟩ := dup h2; try simp only [Q5] at h2s
   try simp only [Q] at h2p
   refine sr ?_
   refine mv ?_
   refine asg ?_
   refine tv ?_
   refine CWp.ret ?_
   refine ⟨_, _, [], (.cons (.tmp rfl) .nil), (.eqd ?_), ⟨rfl, rfl⟩, HSub.nil, noBox⟩
   all_goals (unfold idxVt; rw [← hg1.2]; simp_all [idxF, vt_iff])
  ·intro h2; have ⟨h2p, h2s⟩ := dup h2; try simp only [Q5] at h2s
   try simp only [Q] at h2p
   refine CWp.skip ?_
   refine CWp.region rfl ?_
   refine Walk.addI .none rfl rfl rfl (by first | (constructor <;> omega) | (constructor <;> simp <;> omega)) ?_
   refine mv ?_
   refine tv ?_
   refine ⟨(pre ++ [y], rest), ⟨(by have hz := hg1.1; rw [← hz]; simp), (by rw [← hg1.2]; simp [idxF]; simp_all [vt_iff])⟩, (by simp), Sub.x (by kernel_rfl) (by kernel_rfl) ⟨⟨_, rfl, (LeA.eqi (by first | rfl | (simp; done) | (simp_all; done) | omega))⟩, trivial⟩ (by kernel_rfl) (by kernel_rfl) trivial⟩
 ·intro h1; have ⟨h1p, h1s⟩ := dup h1; try simp only [Q5] at h1s
  try simp only [Q] at h1p
  have hrest : rest = [] := by
   rcases rest with _ | ⟨a, b⟩
   ·rfl
   ·exfalso; have hz := congrArg List.length (hg1.1); simp only [List.length_append, List.length_cons, List.length_map] at hz; omega
  subst hrest
  refine CWp.exit ?_
  refine sr ?_
  refine asg ?_
  refine tv ?_
  refine CWp.ret ?_
  refine ⟨_, _, [], (.cons (.tmp rfl) .nil), (.eqd ?_), ⟨rfl, rfl⟩, HSub.nil, noBox⟩
  all_goals (unfold idxVt; rw [← hg1.2]; simp_all [idxF, vt_iff])
theorem slices_Contains_Vt_fn {l : List Vt} {v : Vt} (h : l.length ≤ 1000000000000) : FnD Try.prog 158 [.d (encVts l), .agg [.d (.i v.var), .d (.i v.ty.data), .d (.i v.ty.index)]] [] (.d (.bool (decide (v ∈ l)))) [] := by
 refine Fn.body (fn := Try.f158) (n := 9) rfl rfl rfl rfl rfl (fun w0 F0 own kept hk => ?_)
 refine sr ?_
 refine Walk.box (id := 3003) .none rfl rfl rfl rfl rfl rfl rfl ?_
 refine asg ?_
 refine tv ?_
 refine sr ?_
 refine mv ?_
 refine Walk.loadBA ty168 .none rfl rfl rfl rfl ?_
 refine Walk.call (cr := []) cal163 (slices_Index_Vt_fn h) rfl .none rfl rfl (LeL.refl _) trivial rfl rfl rfl ?_
 refine Walk.geI .none rfl rfl rfl ?_
 refine asg ?_
 refine tv ?_
 refine CWp.ret ?_
 refine ⟨_, _, [], (.cons (.tmp rfl) .nil), (.eqd ?_), ⟨rfl, rfl⟩, HSub.nil, noBox⟩
 all_goals (refine congrArg D.bool ?_; rw [show idxVt l v = idxF (fun x => decide (v = x)) l 0 from rfl, idxF_any]; simp [List.any_eq, eq_comm])
theorem slices_IndexFunc_Vt_fn {xs : List Vt} {f : Nat} {caps : List AV} {hp : Hp} {p : Vt → Bool} (hs : xs.length ≤ 1000000000000) (hcal : Callee Try.prog f)
  (hf : ∀ t ∈ xs, FnD Try.prog f ([.agg [.d (.i t.var), .d (.i t.ty.data), .d (.i t.ty.index)]] ++ caps) hp (.d (.bool (p t))) []) (k1 : subH hp hp) (k2 : noTok hp = true) (k3 : okCall hp [] (.d .nilp) [] = true) :
  FnD Try.prog 162 [.d (encVts xs), .fn f caps] hp (.d (.i (idxF p xs 0))) [] := by
 refine Fn.body (fn := Try.f162) (n := 19) rfl rfl rfl rfl rfl (fun w0 F0 own kept hk => ?_)
 refine sr ?_
 refine asg ?_
 refine tv ?_
 refine CWp.seq ?_
 refine sr ?_
 refine mv ?_
 refine Walk.len sl134 .none rfl rfl ?_
 refine mv ?_
 refine tv ?_
 refine CWp.block ?_
 refine CWp.loopX (ι := List (Vt) × List (Vt)) hk (fun x => [(8, .d (.i (x.1.length : Int)))]) [4, 5, 9, 10, 11, 12, 13, 14, 15, 16, 17, 18] (fun x => []) (fun x => x.1 ++ x.2 = xs ∧ idxF p x.2 x.1.length = idxF p xs 0) (fun x => x.2.length) ([], xs) ⟨by simp, rfl⟩ ⟨⟨_, rfl, (LeA.eqi (by first | rfl | (simp; done) | (simp_all; done) | omega))⟩, trivial⟩ trivial (fun x => boxIds_all hp) (fun x hg1 => ?_)
 obtain ⟨pre, rest⟩ := x
 dsimp only at hg1 ⊢
 refine sr ?_
 refine Walk.ltI .none rfl rfl rfl ?_
 refine tv ?_
 refine CWp.seq ?_
 refine cd ?_ ?_
 ·intro h1; have ⟨h1p, h1s⟩ := dup h1; try simp only [Q5] at h1s
  try simp only [Q] at h1p
  rcases rest with _ | ⟨y, rest⟩
  ·exfalso; simp_all
  refine CWp.skip ?_
  refine CWp.seq ?_
  refine CWp.block ?_
  refine sr ?_
  refine mv ?_
  refine asg ?_
  refine tv ?_
  refine sr ?_
  refine mv ?_
  refine mv ?_
  refine mv ?_
  refine Walk.idx sl134 .none rfl rfl rfl rfl (zip_at hg1.1) rfl ?_
  refine Walk.loadPA ty168 .none rfl rfl rfl rfl ?_
  refine Walk.callV (cr := []) hcal (hf y (by rw [← hg1.1]; simp)) rfl .none rfl rfl rfl (LeL.refl _) k1 k2 (okCall_d k3 _) rfl ?_
  refine tv ?_
  refine cd ?_ ?_
  ·intro h2; have ⟨h2p, h2s⟩ := dup h2; try simp only [Q5] at h2s
   try simp only [Q] at h2p
   refine sr ?_
   refine mv ?_
   refine asg ?_
   refine tv ?_
   refine CWp.ret ?_
   refine ⟨_, _, [], (.cons (.tmp rfl) .nil), (.eqd ?_), ⟨rfl, rfl⟩, (fun _ _ h => h), (fun _ h => h)⟩
   all_goals (rw [← hg1.2]; simp [idxF, h1s, h1p, h2s, h2p])
  ·intro h2; have ⟨h2p, h2s⟩ := dup h2; try simp only [Q5] at h2s
   try simp only [Q] at h2p
   refine CWp.skip ?_
   refine CWp.region rfl ?_
   refine Walk.addI .none rfl rfl rfl (by first | (constructor <;> omega) | (constructor <;> simp <;> omega)) ?_
   refine mv ?_
   refine tv ?_
   refine ⟨(pre ++ [y], rest), ⟨(by have hz := hg1.1; rw [← hz]; simp), (by rw [← hg1.2]; simp [idxF, h2s])⟩, (by simp), Sub.x (by kernel_rfl) (by kernel_rfl) ⟨⟨_, rfl, (LeA.eqi (by first | rfl | (simp; done) | (simp_all; done) | omega))⟩, trivial⟩ (by simp) (by simp [coverH]) trivial⟩
 ·intro h1; have ⟨h1p, h1s⟩ := dup h1; try simp only [Q5] at h1s
  try simp only [Q] at h1p
  have hrest : rest = [] := by
   rcases rest with _ | ⟨a, b⟩
   ·rfl
   ·exfalso; have hz := congrArg List.length (hg1.1); simp only [List.length_append, List.length_cons, List.length_map] at hz; omega
  subst hrest
  refine CWp.exit ?_
  refine sr ?_
  refine asg ?_
  refine tv ?_
  refine CWp.ret ?_
  refine ⟨_, _, [], (.cons (.tmp rfl) .nil), (.eqd ?_), ⟨rfl, rfl⟩, (fun _ _ h => h), (fun _ h => h)⟩
  all_goals (rw [← hg1.2]; simp [idxF, h1s, h1p])
theorem slices_ContainsFunc_Vt_fn {xs : List Vt} {f : Nat} {caps : List AV} {hp : Hp} {p : Vt → Bool} (hs : xs.length ≤ 1000000000000) (hcal : Callee Try.prog f)
  (hf : ∀ t ∈ xs, FnD Try.prog f ([.agg [.d (.i t.var), .d (.i t.ty.data), .d (.i t.ty.index)]] ++ caps) hp (.d (.bool (p t))) []) (k1 : subH hp hp) (k2 : noTok hp = true) (k3 : okCall hp [] (.d .nilp) [] = true) :
  FnD Try.prog 156 [.d (encVts xs), .fn f caps] hp (.d (.bool (xs.any p))) [] := by
 refine Fn.body (fn := Try.f156) (n := 9) rfl rfl rfl rfl rfl (fun w0 F0 own kept hk => ?_)
 refine sr ?_
 refine asg ?_
 refine tv ?_
 refine sr ?_
 refine mv ?_
 refine mv ?_
 refine Walk.call (cr := []) cal162 (slices_IndexFunc_Vt_fn hs hcal hf k1 k2 k3) rfl .none rfl rfl (LeL.refl _) k1 k2 (okCall_d k3 _) rfl ?_
 refine Walk.geI .none rfl rfl rfl ?_
 refine asg ?_
 refine tv ?_
 refine CWp.ret ?_
 refine ⟨_, _, [], (.cons (.tmp rfl) .nil), (.eqd ?_), ⟨rfl, rfl⟩, (fun _ _ h => h), (fun _ h => h)⟩
 all_goals (exact congrArg D.bool (idxF_any p xs 0))
theorem impl_sameVars_1_fn {b : List Vt} {v : Vt} (h : b.length ≤ 1000000000000) : FnD Try.prog 157 [.agg [.d (.i v.var), .d (.i v.ty.data), .d (.i v.ty.index)], .ref 3003 0] [(3003, some (.box [.d (encVts b)]))] (.d (.bool (!decide (v ∈ b)))) [] := by
 refine Fn.body (fn := Try.f157) (n := 8) rfl rfl rfl rfl rfl (fun w0 F0 own kept hk => ?_)
 refine sr ?_
 refine Walk.box (id := 3001) .none rfl rfl rfl rfl rfl rfl rfl ?_
 refine asg ?_
 refine tv ?_
 refine sr ?_
 refine Walk.loadB ty134 .none rfl rfl rfl rfl ?_
 refine Walk.loadBA ty168 .none rfl rfl rfl rfl ?_
 refine Walk.call (cr := []) cal158 (slices_Contains_Vt_fn h) rfl .none rfl rfl (LeL.refl _) trivial rfl rfl rfl ?_
 refine Walk.not .none rfl rfl ?_
 refine asg ?_
 refine tv ?_
 refine CWp.ret ?_
 refine ⟨_, _, [], (.cons (.tmp rfl) .nil), (.eqd ?_), ⟨rfl, rfl⟩, (SubH.get ⟨rfl, trivial⟩), (fun _ h => h)⟩
 all_goals (rfl)
theorem impl_sameVars_fn {x y : List Vt} (hx : x.length ≤ 1000000000000) (hy : y.length ≤ 1000000000000) : FnD Try.prog 151 [.d (encVts x), .d (encVts y)] [] (.d (.bool (sameV2 x y))) [] := by
 refine Fn.body (fn := Try.f151) (n := 16) rfl rfl rfl rfl rfl (fun w0 F0 own kept hk => ?_)
 refine sr ?_
 refine Walk.box (id := 3003) .none rfl rfl rfl rfl rfl rfl rfl ?_
 refine asg ?_
 refine tv ?_
 refine sr ?_
 refine mv ?_
 refine Walk.len sl134 .none rfl rfl ?_
 refine Walk.loadB ty134 .none rfl rfl rfl rfl ?_
 refine Walk.len sl134 .none rfl rfl ?_
 refine Walk.eqI .none rfl rfl rfl ?_
 refine mv ?_
 refine sp 10 ?_ ?_
 ·intro h1; have ⟨h1p, h1s⟩ := dup h1; try simp only [Q5] at h1s
  try simp only [Q] at h1p
  refine Walk.move (.some rfl rfl h1) rfl rfl ?_
  refine Walk.closure (xs := [_]) rfl (.some rfl rfl h1) rfl rfl ?_
  refine Walk.call (cr := []) cal156 (slices_ContainsFunc_Vt_fn (p := fun v => !decide (v ∈ y)) hx cal157 (fun t _ => impl_sameVars_1_fn hy) ⟨rfl, trivial⟩ rfl rfl) rfl (.some rfl rfl h1) rfl rfl (LeL.refl _) ⟨rfl, trivial⟩ rfl rfl rfl ?_
  refine Walk.not (.some rfl rfl h1) rfl rfl ?_
  refine Walk.pickT .none rfl rfl h1 rfl ?_
  refine asg ?_
  refine tv ?_
  refine CWp.ret ?_
  refine ⟨_, _, [], (.cons (.tmp rfl) .nil), (.eqd ?_), ⟨rfl, rfl⟩, HSub.nil, noBox⟩
  all_goals (refine congrArg D.bool ?_; unfold sameV2; first | (simp_all; done) | (simp_all; intro hz; omega))
 ·intro h1; have ⟨h1p, h1s⟩ := dup h1; try simp only [Q5] at h1s
  try simp only [Q] at h1p
  refine ps h1 ?_
  refine ps h1 ?_
  refine ps h1 ?_
  refine ps h1 ?_
  refine Walk.pickF .none rfl rfl h1 rfl ?_
  refine asg ?_
  refine tv ?_
  refine CWp.ret ?_
  refine ⟨_, _, [], (.cons (.tmp rfl) .nil), (.eqd ?_), ⟨rfl, rfl⟩, HSub.nil, noBox⟩
  all_goals (refine congrArg D.bool ?_; unfold sameV2; first | (simp_all; done) | (simp_all; intro hz; omega))
def metA (s : List Int) : List AV := (List.range 6).map fun (i : Nat) => .d (.bool (decide ((i : Int) ∈ s)))
theorem metA_nil : [.d (.bool false), .d (.bool false), .d (.bool false), .d (.bool false), .d (.bool false), .d (.bool false)] = metA [] := by rfl
theorem metA_get {s : List Int} {v : Int} (h0 : 0 ≤ v) (h1 : v ≤ 5) : (metA s)[v.toNat]? = some (.d (.bool (decide (v ∈ s)))) := by
 unfold metA
 rw [List.getElem?_map, List.getElem?_range (by omega)]
 simp only [Option.map_some]
 rw [Int.toNat_of_nonneg h0]
theorem metA_put {s : List Int} {v : Int} (h0 : 0 ≤ v) (h1 : v ≤ 5) : putC (metA s) v.toNat [.d (.bool true)] = some (metA (s ++ [v])) := by
 have e : v = 0 ∨ v = 1 ∨ v = 2 ∨ v = 3 ∨ v = 4 ∨ v = 5 := by omega
 rcases e with rfl | rfl | rfl | rfl | rfl | rfl <;> simp [metA, putC, List.range_succ]
theorem nameP_len (t : Ty) (p : Pat) : (nameP t p).length ≤ 1 := by unfold nameP; split <;> simp
theorem nodup_sub : ∀ {a b : List Int}, a.Nodup → (∀ x ∈ a, x ∈ b) → a.length ≤ b.length
 | [], b, _, _ => by simp
 | x :: r, b, hn, hs => by
  have hn' := List.nodup_cons.1 hn
  have hx := hs x (by simp)
  have h := nodup_sub (a := r) (b := b.erase x) hn'.2 (fun y hy => by
   have hne : y ≠ x := fun e => hn'.1 (e ▸ hy)
   exact (List.mem_erase_of_ne hne).2 (hs y (by simp [hy])))
  rw [List.length_erase_of_mem hx] at h
  have := List.length_pos_of_mem hx
  simp only [List.length_cons]; omega
def InR (l : List Vt) : Prop := ∀ v ∈ l, 0 ≤ v.var ∧ v.var ≤ 5
theorem nodup_len {l : List Vt} (h : InR l) (hn : nodupV l = true) : l.length ≤ 6 := by
 unfold nodupV at hn
 have h1 := of_decide_eq_true hn
 have h2 : ∀ x ∈ l.map Vt.var, x ∈ [(0 : Int), 1, 2, 3, 4, 5] := fun x hx => by
  obtain ⟨v, hv, rfl⟩ := List.mem_map.1 hx
  have := h v hv
  simp only [List.mem_cons, List.not_mem_nil, or_false]; omega
 have := nodup_sub h1 h2
 simpa using this
theorem scanK_in {g : Ty → Pat → Int → Option (List Vt) × Int} {or : Bool} (hg : ∀ t p c l, (g t p c).1 = some l → InR l) : ∀ (a : List Ty) (b : List Pat) (i : Nat) (acc : List Vt) (c : Int) (l : List Vt), InR acc → (scanK g or a b i acc c).1 = some l → InR l
 | [], b, i, acc, c, l, ha, h => by simp only [scanK, Option.some.injEq] at h; subst h; exact ha
 | _ :: _, [], i, acc, c, l, ha, h => by simp only [scanK, Option.some.injEq] at h; subst h; exact ha
 | x :: r, y :: s, i, acc, c, l, ha, h => by
  simp only [scanK] at h
  cases hh : (g x y c).1 with
  | none => rw [hh] at h; cases h
  | some m =>
   rw [hh] at h
   simp only at h
   split at h
   ·split at h
    ·exact scanK_in hg r s (i + 1) acc _ l ha h
    ·cases h
   ·refine scanK_in hg r s (i + 1) _ _ l (fun v hv => ?_) h
    rcases List.mem_append.1 hv with hv | hv
    ·exact ha v hv
    ·exact hg x y c m hh v hv
theorem scanP_in (w : List Data) : ∀ (n : Nat) (t : Ty) (p : Pat) (c : Int) (l : List Vt), (scanP w n t p c).1 = some l → InR l ∧ nodupV l = true
 | 0, t, p, c, l, h => by simp [scanP] at h
 | n + 1, t, p, c, l, h => by
  unfold scanP at h
  split at h
  ·cases h
  ·split at h
   ·rename_i h60 ho
    have ho' : ownP w t p = true := by unfold okP at ho; simp only [Bool.and_eq_true] at ho; exact ho.1
    cases hk : (scanK (scanP w n) (decide (p.op = 5)) (typesP w t p) p.kids 0 (nameP t p) (c + 1)).1 with
    | none => unfold finV at h; rw [hk] at h; simp only at h; rw [hk] at h; cases h
    | some m =>
     have hi : InR m := scanK_in (fun t p c l h => (scanP_in w n t p c l h).1) _ _ _ _ _ m (fun v hv => by
      unfold nameP at hv
      split at hv
      ·rename_i hop
       simp only [List.mem_cons, List.not_mem_nil, or_false] at hv
       subst hv
       exact ownP_var ho' hop
      ·simp at hv) hk
     unfold finV at h
     rw [hk] at h
     simp only at h
     split at h
     ·rename_i hn
      rw [hk] at h
      cases h
      exact ⟨hi, hn⟩
     ·cases h
   ·cases h
theorem scanP_bd (w : List Data) (n : Nat) (t : Ty) (p : Pat) (c : Int) (h : (scanP w n t p c).1.isSome = true) : c + 1 ≤ (scanP w n t p c).2 ∧ (scanP w n t p c).2 ≤ 60 := by
 have h1 := scanP_eq w n t p c
 by_cases hw : wantP w n t p c = true
 ·have h2 := h1.2 hw
  simp only [wantP, Bool.and_eq_true, decide_eq_true_eq] at hw
  have := Pat.size_eq p
  omega
 ·rw [if_neg hw] at h1; rw [h1.1] at h; cases h
def someV (o : Option (List Vt)) : List Vt := o.getD []
theorem scanK_none {g : Ty → Pat → Int → Option (List Vt) × Int} {or : Bool} {a : List Ty} {b : List Pat} {i : Nat} {acc : List Vt} {c : Int} (ha : i < a.length) (hl : b.length = a.length) (h : (g (nth a i) (nth b i) c).1.isSome = false) :
  scanK g or (a.drop i) (b.drop i) i acc c = (none, (g (nth a i) (nth b i) c).2) := by
 rw [drop_nth ha, drop_nth (l := b) (by omega), scanK]
 cases hh : (g (nth a i) (nth b i) c).1 with
 | none => rfl
 | some l => rw [hh] at h; cases h
theorem scanK_bad {g : Ty → Pat → Int → Option (List Vt) × Int} {or : Bool} {a : List Ty} {b : List Pat} {i : Nat} {acc : List Vt} {c : Int} (ha : i < a.length) (hl : b.length = a.length) (h : (g (nth a i) (nth b i) c).1.isSome = true) (ho : or = true ∧ i = 1) (hs : sameV2 acc (someV (g (nth a i) (nth b i) c).1) = false) :
  scanK g or (a.drop i) (b.drop i) i acc c = (none, (g (nth a i) (nth b i) c).2) := by
 rw [drop_nth ha, drop_nth (l := b) (by omega), scanK]
 cases hh : (g (nth a i) (nth b i) c).1 with
 | none => rfl
 | some l => rw [hh] at hs; simp only [someV, Option.getD_some] at hs; simp only [if_pos ho, hs, Bool.false_eq_true, if_false]
theorem scanK_next {g : Ty → Pat → Int → Option (List Vt) × Int} {or : Bool} {a : List Ty} {b : List Pat} {i : Nat} {acc : List Vt} {c : Int} (ha : i < a.length) (hl : b.length = a.length) (h : (g (nth a i) (nth b i) c).1.isSome = true) (hs : (or = true ∧ i = 1) → sameV2 acc (someV (g (nth a i) (nth b i) c).1) = true) :
  scanK g or (a.drop i) (b.drop i) i acc c = scanK g or (a.drop (i + 1)) (b.drop (i + 1)) (i + 1) (if or = true ∧ i = 1 then acc else acc ++ someV (g (nth a i) (nth b i) c).1) (g (nth a i) (nth b i) c).2 := by
 rw [drop_nth ha, drop_nth (l := b) (by omega), scanK]
 cases hh : (g (nth a i) (nth b i) c).1 with
 | none => rw [hh] at h; cases h
 | some l =>
  by_cases ho : or = true ∧ i = 1
  ·have := hs ho; rw [hh] at this; simp only [someV, Option.getD_some] at this
   simp only [if_pos ho, this, if_true]
  ·simp only [if_neg ho, someV, Option.getD_some]
theorem scanK_end {g : Ty → Pat → Int → Option (List Vt) × Int} {or : Bool} {a : List Ty} {b : List Pat} {i : Nat} {acc : List Vt} {c : Int} (ha : a.length ≤ i) : scanK g or (a.drop i) (b.drop i) i acc c = (some acc, c) := by
 rw [List.drop_eq_nil_of_le ha, scanK]
 intro a r b s h; cases h
theorem someV_ok (w : List Data) (n : Nat) (t : Ty) (p : Pat) (c : Int) : InR (someV (scanP w n t p c).1) ∧ (someV (scanP w n t p c).1).length ≤ 6 := by
 cases h : (scanP w n t p c).1 with
 | none => exact ⟨fun v hv => by simp [someV] at hv, by simp [someV]⟩
 | some l =>
  have := scanP_in w n t p c l h
  exact ⟨this.1, nodup_len this.1 this.2⟩
structure GoodS (w : List Data) (n : Nat) (t : Ty) (p : Pat) (c : Int) (x : Nat × List Vt × Int) : Prop where
 le : x.1 ≤ p.kids.length
 eq : scanK (scanP w n) (decide (p.op = 5)) ((typesP w t p).drop x.1) (p.kids.drop x.1) x.1 x.2.1 x.2.2 = scanK (scanP w n) (decide (p.op = 5)) (typesP w t p) p.kids 0 (nameP t p) (c + 1)
 lc : (x.1 : Int) ≤ x.2.2
 c0 : 0 ≤ x.2.2
 c1 : x.2.2 ≤ 60
 len : x.2.1.length ≤ 1 + 6 * x.1
 inr : InR x.2.1
def nextS (w : List Data) (n : Nat) (t : Ty) (p : Pat) (x : Nat × List Vt × Int) : Nat × List Vt × Int :=
 (x.1 + 1, if decide (p.op = 5) = true ∧ x.1 = 1 then x.2.1 else x.2.1 ++ someV (scanP w n (nth (typesP w t p) x.1) (nth p.kids x.1) x.2.2).1, (scanP w n (nth (typesP w t p) x.1) (nth p.kids x.1) x.2.2).2)
theorem GoodS.next {w : List Data} {n : Nat} {t : Ty} {p : Pat} {c : Int} {x : Nat × List Vt × Int} (hl : p.kids.length = (typesP w t p).length) (hg : GoodS w n t p c x) (hlt : x.1 < p.kids.length)
  (hz : (scanP w n (nth (typesP w t p) x.1) (nth p.kids x.1) x.2.2).1.isSome = true) (hs : (decide (p.op = 5) = true ∧ x.1 = 1) → sameV2 x.2.1 (someV (scanP w n (nth (typesP w t p) x.1) (nth p.kids x.1) x.2.2).1) = true) :
  GoodS w n t p c (nextS w n t p x) := by
 obtain ⟨h1, h2, h3, h4, h5, h6, h7⟩ := hg
 have hb := scanP_bd w n _ _ _ hz
 have ho := someV_ok w n (nth (typesP w t p) x.1) (nth p.kids x.1) x.2.2
 refine ⟨by unfold nextS; dsimp only; omega, ?_, by unfold nextS; dsimp only; omega, by unfold nextS; dsimp only; omega, by unfold nextS; dsimp only; omega, ?_, ?_⟩
 ·rw [← h2, scanK_next (by omega) hl hz hs]; rfl
 ·unfold nextS; dsimp only
  split
  ·omega
  ·rw [List.length_append]; omega
 ·unfold nextS; dsimp only
  split
  ·exact h7
  ·intro v hv
   rcases List.mem_append.1 hv with hv | hv
   ·exact h7 v hv
   ·exact ho.1 v hv
theorem GoodS.none {w : List Data} {n : Nat} {t : Ty} {p : Pat} {c : Int} {x : Nat × List Vt × Int} (hl : p.kids.length = (typesP w t p).length) (hg : GoodS w n t p c x) (hlt : x.1 < p.kids.length)
  (hz : (scanP w n (nth (typesP w t p) x.1) (nth p.kids x.1) x.2.2).1.isSome = false) :
  finV (scanK (scanP w n) (decide (p.op = 5)) (typesP w t p) p.kids 0 (nameP t p) (c + 1)) = (none, (scanP w n (nth (typesP w t p) x.1) (nth p.kids x.1) x.2.2).2) := by
 rw [← hg.eq, scanK_none (by omega) hl hz]; rfl
theorem GoodS.bad {w : List Data} {n : Nat} {t : Ty} {p : Pat} {c : Int} {x : Nat × List Vt × Int} (hl : p.kids.length = (typesP w t p).length) (hg : GoodS w n t p c x) (hlt : x.1 < p.kids.length)
  (hz : (scanP w n (nth (typesP w t p) x.1) (nth p.kids x.1) x.2.2).1.isSome = true) (ho : p.op = 5 ∧ x.1 = 1) (hs : sameV2 x.2.1 (someV (scanP w n (nth (typesP w t p) x.1) (nth p.kids x.1) x.2.2).1) = false) :
  finV (scanK (scanP w n) (decide (p.op = 5)) (typesP w t p) p.kids 0 (nameP t p) (c + 1)) = (Option.none, (scanP w n (nth (typesP w t p) x.1) (nth p.kids x.1) x.2.2).2) := by
 rw [← hg.eq, scanK_bad (by omega) hl hz (by simpa using ho) hs]; rfl
theorem GoodS.fin {w : List Data} {n : Nat} {t : Ty} {p : Pat} {c : Int} {x : Nat × List Vt × Int} (hl : p.kids.length = (typesP w t p).length) (hg : GoodS w n t p c x) (hge : p.kids.length ≤ x.1) :
  finV (scanK (scanP w n) (decide (p.op = 5)) (typesP w t p) p.kids 0 (nameP t p) (c + 1)) = (if nodupV x.2.1 = true then some x.2.1 else Option.none, x.2.2) := by
 rw [← hg.eq, scanK_end (by omega)]
 unfold finV
 simp only
 split <;> rfl
theorem nodup_app {pre rest l : List Vt} {y : Vt} (h : pre ++ y :: rest = l) (hm : y.var ∈ pre.map Vt.var) : nodupV l = false := by
 unfold nodupV
 refine decide_eq_false (fun hn => ?_)
 rw [← h, List.map_append, List.map_cons, List.nodup_append] at hn
 exact hn.2.2 _ hm _ (by simp) rfl
theorem nodup_snoc {pre : List Vt} {y : Vt} (h : (pre.map Vt.var).Nodup) (hm : y.var ∉ pre.map Vt.var) : ((pre ++ [y]).map Vt.var).Nodup := by
 rw [List.map_append, List.nodup_append]
 exact ⟨h, by simp, fun a ha b hb => by simp at hb; subst hb; exact fun e => hm (e ▸ ha)⟩
def retV (r : Option (List Vt) × Int) : AV := .tup [.d (encVts (someV r.1)), .d (.bool r.1.isSome)]
theorem impl_patternScan_fn {w : List Data} (hw : WT w) : ∀ (n : Nat) {a k d c : Int} {p : Pat}, d + n = 11 → n ≤ 10 → TyIn w.length ⟨a, k⟩ → p.ok → 0 ≤ c → c ≤ 1000000000000 →
  FnD Try.prog 138 [.d (encDatas w), .agg [.d (.i a), .d (.i k)], .agg [.d (.i p.op), .d (.i p.ctor), .d (.i p.n), .d (.i p.m), .d (.i p.var), .d (encPats p.kids)], .d (.i d), .ref 950 0] [(950, some (.box [.d (.i c)]))]
   (retV (scanP w n ⟨a, k⟩ p c)) [(950, some (.box [.d (.i (scanP w n ⟨a, k⟩ p c).2)]))]
 | 0, a, k, d, c, p, hd, _, _, _, c0, c1 => by
  refine Fn.body (fn := Try.f138) (n := 114) rfl rfl rfl rfl rfl (fun w0 F0 own kept hk => ?_)
  refine sr ?_
  refine Walk.box (id := 3006) .none rfl rfl rfl rfl rfl rfl rfl ?_
  refine Walk.box (id := 3007) .none rfl rfl rfl rfl rfl rfl rfl ?_
  refine asg ?_
  refine asg ?_
  refine tv ?_
  refine sr ?_
  refine mv ?_
  refine Walk.nilCheck (.inl ⟨_, _, rfl⟩) .none rfl rfl ?_
  refine Walk.loadB ty3 .none rfl rfl rfl rfl ?_
  refine Walk.addI .none rfl rfl rfl (by first | (constructor <;> omega) | (constructor <;> simp <;> omega)) ?_
  refine Walk.nilCheck (.inl ⟨_, _, rfl⟩) .none rfl rfl ?_
  refine Walk.store ty3 .none rfl rfl rfl rfl rfl rfl (by simp) rfl ?_
  refine tv ?_
  refine CWp.seq ?_
  refine CWp.seq ?_
  refine CWp.regionJ ?_
  refine WRest.join 8 [(34, .d (.bool (true)))] [27, 28, 29, 30, 31, 32, 33] ?_ ?_
  ·
   refine mv ?_
   refine Walk.nilCheck (.inl ⟨_, _, rfl⟩) .none rfl rfl ?_
   refine Walk.loadB ty3 .none rfl rfl rfl rfl ?_
   refine Walk.gtI .none rfl rfl rfl ?_
   refine mv ?_
   refine sp 31 ?_ ?_
   ·intro h1; have ⟨h1p, h1s⟩ := dup h1; try simp only [Q5] at h1s
    try simp only [Q] at h1p
    refine ps h1 ?_
    refine ps h1 ?_
    refine Walk.pickT .none rfl rfl h1 rfl ?_
    exact ⟨trivial, Sub.x (by kernel_rfl) (by kernel_rfl) ⟨⟨_, rfl, (LeA.eqb (by first | rfl | (rw [Bool.eq_iff_iff]; (try simp only [BQ]) <;> first | omega | (simp_all; done) | (simp_all; omega))))⟩, trivial⟩ (by kernel_rfl) (by kernel_rfl) trivial⟩
   ·intro h1; have ⟨h1p, h1s⟩ := dup h1; try simp only [Q5] at h1s
    try simp only [Q] at h1p
    refine Walk.move (.some rfl rfl h1) rfl rfl ?_
    refine Walk.gtI (.some rfl rfl h1) rfl rfl rfl ?_
    refine Walk.pickF .none rfl rfl h1 rfl ?_
    exact ⟨trivial, Sub.x (by kernel_rfl) (by kernel_rfl) ⟨⟨_, rfl, (LeA.eqb (by first | rfl | (rw [Bool.eq_iff_iff]; (try simp only [BQ]) <;> first | omega | (simp_all; done) | (simp_all; omega))))⟩, trivial⟩ (by kernel_rfl) (by kernel_rfl) trivial⟩
  refine WRest.done ?_
  refine tv ?_
  refine cd ?_ ?_
  ·intro h2; have ⟨h2p, h2s⟩ := dup h2; try simp only [Q5] at h2s
   try simp only [Q] at h2p
   refine sr ?_
   refine asg ?_
   refine asg ?_
   refine tv ?_
   refine CWp.ret ?_
   refine ⟨_, _, [(950, some (.box [.d (.i (scanP w 0 ⟨a, k⟩ p c).2)]))], (.cons (.tmp rfl) (.cons (.tmp rfl) .nil)), (.tup (.cons (.nild ?_) (.cons (.eqd ?_) .nil))), ⟨rfl, rfl⟩, (SubO.get ⟨.inr (by rfl), ⟨.inl rfl, trivial⟩⟩), (boxOK rfl)⟩
   all_goals (rfl)
  ·intro h2; have ⟨h2p, h2s⟩ := dup h2; try simp only [Q5] at h2s
   try simp only [Q] at h2p
   exact absurd h2 (by simp) --stop
 | n + 1, a, k, d, c, p, hd, hn, ht, hok, c0, c1 => by
  by_cases h60 : 60 < c + 1
  ·have e : scanP w (n + 1) ⟨a, k⟩ p c = (none, c + 1) := by unfold scanP; rw [if_pos h60]
   rw [e]
   refine Fn.body (fn := Try.f138) (n := 114) rfl rfl rfl rfl rfl (fun w0 F0 own kept hk => ?_)
   refine sr ?_
   refine Walk.box (id := 3006) .none rfl rfl rfl rfl rfl rfl rfl ?_
   refine Walk.box (id := 3007) .none rfl rfl rfl rfl rfl rfl rfl ?_
   refine asg ?_
   refine asg ?_
   refine tv ?_
   refine sr ?_
   refine mv ?_
   refine Walk.nilCheck (.inl ⟨_, _, rfl⟩) .none rfl rfl ?_
   refine Walk.loadB ty3 .none rfl rfl rfl rfl ?_
   refine Walk.addI .none rfl rfl rfl (by first | (constructor <;> omega) | (constructor <;> simp <;> omega)) ?_
   refine Walk.nilCheck (.inl ⟨_, _, rfl⟩) .none rfl rfl ?_
   refine Walk.store ty3 .none rfl rfl rfl rfl rfl rfl (by simp) rfl ?_
   refine tv ?_
   refine CWp.seq ?_
   refine CWp.seq ?_
   refine CWp.regionJ ?_
   refine WRest.join 8 [(34, .d (.bool (true)))] [27, 28, 29, 30, 31, 32, 33] ?_ ?_
   ·
    refine mv ?_
    refine Walk.nilCheck (.inl ⟨_, _, rfl⟩) .none rfl rfl ?_
    refine Walk.loadB ty3 .none rfl rfl rfl rfl ?_
    refine Walk.gtI .none rfl rfl rfl ?_
    refine mv ?_
    refine sp 31 ?_ ?_
    ·intro h1; have ⟨h1p, h1s⟩ := dup h1; try simp only [Q5] at h1s
     try simp only [Q] at h1p
     refine ps h1 ?_
     refine ps h1 ?_
     refine Walk.pickT .none rfl rfl h1 rfl ?_
     exact ⟨trivial, Sub.x (by kernel_rfl) (by kernel_rfl) ⟨⟨_, rfl, (LeA.eqb (by first | rfl | (rw [Bool.eq_iff_iff]; (try simp only [BQ]) <;> first | omega | (simp_all; done) | (simp_all; omega))))⟩, trivial⟩ (by kernel_rfl) (by kernel_rfl) trivial⟩
    ·intro h1; have ⟨h1p, h1s⟩ := dup h1; try simp only [Q5] at h1s
     try simp only [Q] at h1p
     refine Walk.move (.some rfl rfl h1) rfl rfl ?_
     refine Walk.gtI (.some rfl rfl h1) rfl rfl rfl ?_
     refine Walk.pickF .none rfl rfl h1 rfl ?_
     exact ⟨trivial, Sub.x (by kernel_rfl) (by kernel_rfl) ⟨⟨_, rfl, (LeA.eqb (by first | rfl | (rw [Bool.eq_iff_iff]; (try simp only [BQ]) <;> first | omega | (simp_all; done) | (simp_all; omega))))⟩, trivial⟩ (by kernel_rfl) (by kernel_rfl) trivial⟩
   refine WRest.done ?_
   refine tv ?_
   refine cd ?_ ?_
   ·intro h2; have ⟨h2p, h2s⟩ := dup h2; try simp only [Q5] at h2s
    try simp only [Q] at h2p
    refine sr ?_
    refine asg ?_
    refine asg ?_
    refine tv ?_
    refine CWp.ret ?_
    refine ⟨_, _, [(950, some (.box [.d (.i (c + 1))]))], (.cons (.tmp rfl) (.cons (.tmp rfl) .nil)), (.tup (.cons (.nild ?_) (.cons (.eqd ?_) .nil))), ⟨rfl, rfl⟩, (SubO.get ⟨.inr (by rfl), ⟨.inl rfl, trivial⟩⟩), (boxOK rfl)⟩
    all_goals (rfl)
   ·intro h2; have ⟨h2p, h2s⟩ := dup h2; try simp only [Q5] at h2s
    try simp only [Q] at h2p
    exact absurd h2 (by simp) --stop
  have hsh := impl_shape_fn hw (p := p) ht
  by_cases hop : okP w ⟨a, k⟩ p = true
  ·have hok' := hok
   rw [Pat.ok_iff] at hok
   have hop' := hop
   unfold okP at hop'
   simp only [Bool.and_eq_true, decide_eq_true_eq] at hop'
   obtain ⟨ho, hl⟩ := hop'
   have hin := typesP_in hw ht ho
   have hlen := typesP_len hw ht (ownP_mem ho)
   have hst : shapeT w ⟨a, k⟩ p = typesP w ⟨a, k⟩ p := by unfold shapeT; rw [if_neg (fun h => h.2 (ownP_mem ho h.1))]
   rw [hst, hop] at hsh
   have e : scanP w (n + 1) ⟨a, k⟩ p c = finV (scanK (scanP w n) (decide (p.op = 5)) (typesP w ⟨a, k⟩ p) p.kids 0 (nameP ⟨a, k⟩ p) (c + 1)) := by
    conv => lhs; unfold scanP
    rw [if_neg h60, if_pos hop]
   have hnr : InR (nameP ⟨a, k⟩ p) := fun v hv => by
    unfold nameP at hv
    split at hv
    ·rename_i hop
     simp only [List.mem_cons, List.not_mem_nil, or_false] at hv
     subst hv
     exact ownP_var ho hop
    ·simp at hv
   have hnl := nameP_len ⟨a, k⟩ p
   rw [e]
   refine Fn.body (fn := Try.f138) (n := 114) rfl rfl rfl rfl rfl (fun w0 F0 own kept hk => ?_)
   refine sr ?_
   refine Walk.box (id := 3006) .none rfl rfl rfl rfl rfl rfl rfl ?_
   refine Walk.box (id := 3007) .none rfl rfl rfl rfl rfl rfl rfl ?_
   refine asg ?_
   refine asg ?_
   refine tv ?_
   refine sr ?_
   refine mv ?_
   refine Walk.nilCheck (.inl ⟨_, _, rfl⟩) .none rfl rfl ?_
   refine Walk.loadB ty3 .none rfl rfl rfl rfl ?_
   refine Walk.addI .none rfl rfl rfl (by first | (constructor <;> omega) | (constructor <;> simp <;> omega)) ?_
   refine Walk.nilCheck (.inl ⟨_, _, rfl⟩) .none rfl rfl ?_
   refine Walk.store ty3 .none rfl rfl rfl rfl rfl rfl (by simp) rfl ?_
   refine tv ?_
   refine CWp.seq ?_
   refine CWp.seq ?_
   refine CWp.regionJ ?_
   refine WRest.join 8 [(34, .d (.bool (false)))] [27, 28, 29, 30, 31, 32, 33] ?_ ?_
   ·
    refine mv ?_
    refine Walk.nilCheck (.inl ⟨_, _, rfl⟩) .none rfl rfl ?_
    refine Walk.loadB ty3 .none rfl rfl rfl rfl ?_
    refine Walk.gtI .none rfl rfl rfl ?_
    refine mv ?_
    refine sp 31 ?_ ?_
    ·intro h1; have ⟨h1p, h1s⟩ := dup h1; try simp only [Q5] at h1s
     try simp only [Q, Pat.cs_len] at h1p
     refine ps h1 ?_
     refine ps h1 ?_
     refine Walk.pickT .none rfl rfl h1 rfl ?_
     exact ⟨trivial, Sub.x (by kernel_rfl) (by kernel_rfl) ⟨⟨_, rfl, (LeA.eqb (by first | rfl | (rw [Bool.eq_iff_iff]; (try simp only [BQ]) <;> first | omega | (simp_all; done) | (simp_all; omega))))⟩, trivial⟩ (by kernel_rfl) (by kernel_rfl) trivial⟩
    ·intro h1; have ⟨h1p, h1s⟩ := dup h1; try simp only [Q5] at h1s
     try simp only [Q, Pat.cs_len] at h1p
     refine Walk.move (.some rfl rfl h1) rfl rfl ?_
     refine Walk.gtI (.some rfl rfl h1) rfl rfl rfl ?_
     refine Walk.pickF .none rfl rfl h1 rfl ?_
     exact ⟨trivial, Sub.x (by kernel_rfl) (by kernel_rfl) ⟨⟨_, rfl, (LeA.eqb (by first | rfl | (rw [Bool.eq_iff_iff]; (try simp only [BQ]) <;> first | omega | (simp_all; done) | (simp_all; omega))))⟩, trivial⟩ (by kernel_rfl) (by kernel_rfl) trivial⟩
   refine WRest.done ?_
   refine tv ?_
   refine cd ?_ ?_
   ·intro h2; have ⟨h2p, h2s⟩ := dup h2; try simp only [Q5] at h2s
    try simp only [Q, Pat.cs_len] at h2p
    exact absurd h2 (by simp) --stop
   ·intro h2; have ⟨h2p, h2s⟩ := dup h2; try simp only [Q5] at h2s
    try simp only [Q, Pat.cs_len] at h2p
    refine CWp.skip ?_
    refine sr ?_
    refine mv ?_
    refine Walk.loadBA ty38 .none rfl rfl rfl rfl ?_
    refine Walk.loadBA ty70 .none rfl rfl rfl rfl ?_
    refine Walk.call (cr := []) cal150 (hsh) rfl .none rfl rfl (LeL.refl _) trivial rfl rfl rfl ?_
    refine mv ?_
    refine Walk.extract .none rfl rfl rfl ?_
    refine Walk.extract .none rfl rfl rfl ?_
    refine asg ?_
    refine asg ?_
    refine tv ?_
    refine CWp.seq ?_
    refine sr ?_
    refine mv ?_
    refine Walk.not .none rfl rfl ?_
    refine tv ?_
    refine cd ?_ ?_
    ·intro h3; have ⟨h3p, h3s⟩ := dup h3; try simp only [Q5] at h3s
     try simp only [Q, Pat.cs_len] at h3p
     exact absurd h3 (by simp) --stop
    ·intro h3; have ⟨h3p, h3s⟩ := dup h3; try simp only [Q5] at h3s
     try simp only [Q, Pat.cs_len] at h3p
     refine CWp.skip ?_
     refine sr ?_
     refine Walk.assignNil 5 3 .none rfl rfl ?_
     refine tv ?_
     refine CWp.seq ?_
     refine CWp.seq ?_
     refine CWp.regionJ ?_
     refine WRest.join 8 [(51, .d (.bool (decide (p.op = 2 ∨ p.op = 6))))] [44, 45, 46, 47, 48, 49, 50] ?_ ?_
     ·
      refine Walk.fieldB fd70_0 .none rfl rfl ?_
      refine Walk.loadB ty3 .none rfl rfl rfl rfl ?_
      refine Walk.eqI .none rfl rfl rfl ?_
      refine mv ?_
      refine sp 47 ?_ ?_
      ·intro h4; have ⟨h4p, h4s⟩ := dup h4; try simp only [Q5] at h4s
       try simp only [Q, Pat.cs_len] at h4p
       refine ps h4 ?_
       refine ps h4 ?_
       refine ps h4 ?_
       refine Walk.pickT .none rfl rfl h4 rfl ?_
       exact ⟨trivial, Sub.x (by kernel_rfl) (by kernel_rfl) ⟨⟨_, rfl, (LeA.eqb (by first | rfl | (rw [Bool.eq_iff_iff]; (try simp only [BQ]) <;> first | omega | (simp_all; done) | (simp_all; omega))))⟩, trivial⟩ (by kernel_rfl) (by kernel_rfl) trivial⟩
      ·intro h4; have ⟨h4p, h4s⟩ := dup h4; try simp only [Q5] at h4s
       try simp only [Q, Pat.cs_len] at h4p
       refine Walk.fieldB fd70_0 (.some rfl rfl h4) rfl rfl ?_
       refine Walk.loadB ty3 (.some rfl rfl h4) rfl rfl rfl rfl ?_
       refine Walk.eqI (.some rfl rfl h4) rfl rfl rfl ?_
       refine Walk.pickF .none rfl rfl h4 rfl ?_
       exact ⟨trivial, Sub.x (by kernel_rfl) (by kernel_rfl) ⟨⟨_, rfl, (LeA.eqb (by first | rfl | (rw [Bool.eq_iff_iff]; (try simp only [BQ]) <;> first | omega | (simp_all; done) | (simp_all; omega))))⟩, trivial⟩ (by kernel_rfl) (by kernel_rfl) trivial⟩
     refine WRest.done ?_
     refine tv ?_
     refine cd ?_ ?_
     ·intro h5; have ⟨h5p, h5s⟩ := dup h5; try simp only [Q5] at h5s
      try simp only [Q, Pat.cs_len] at h5p
      refine CWp.region rfl ?_
      refine mv ?_
      refine Walk.fieldB fd70_4 .none rfl rfl ?_
      refine Walk.loadB ty3 .none rfl rfl rfl rfl ?_
      refine Walk.loadBA ty38 .none rfl rfl rfl rfl ?_
      refine Walk.build st168 (ks := [0, 1]) (xs := [_, _]) rfl rfl .none rfl rfl rfl ?_
      refine Walk.sliceLit sl134 tz168 rfl (by decide) (ks := [0]) (xs := [_]) rfl rfl (by decide) (by decide) .none rfl rfl rfl rfl ?_
      refine Walk.append sl134 zz168 rfl .none rfl rfl rfl rfl (htokL rfl (by first | rfl | (simp; done) | (simp; omega))) (by simp) (by first | (simp; done) | (simp; omega) | (have hz := (someV_ok w n ⟨(nth (typesP w ⟨a, k⟩ p) z.1).data, (nth (typesP w ⟨a, k⟩ p) z.1).index⟩ (nth p.kids z.1) z.2.2).2; simp; omega)) (by first | (simp; done) | (simp; omega) | (have hz := (someV_ok w n ⟨(nth (typesP w ⟨a, k⟩ p) z.1).data, (nth (typesP w ⟨a, k⟩ p) z.1).index⟩ (nth p.kids z.1) z.2.2).2; simp; omega)) ?_
      refine asg ?_
      refine tv ?_
      refine CWp.seq ?_
      refine sr ?_
      refine Walk.fieldB fd70_5 .none rfl rfl ?_
      refine Walk.loadB ty68 .none rfl rfl rfl rfl ?_
      refine Walk.len sl68 .none rfl rfl ?_
      refine mv ?_
      refine tv ?_
      refine CWp.block ?_
      refine CWp.loopX (ι := Nat × List Vt × Int) hk (fun z => [(62, .d (.i (z.1 : Int))), (14, .gl 5 (z.2.1.map Vt.c))]) [10, 11, 15, 16, 17, 18, 63, 64, 65, 66, 67, 68, 69, 70, 71, 72, 73, 74, 75, 76, 77, 78, 79, 80, 81, 82, 83, 84, 85, 86, 87, 88, 89, 90, 91, 92, 93, 94, 95, 96, 97, 98] (fun z => [(950, some (.box [.d (.i z.2.2)])), (5, some (.tok ((z.2.1.map Vt.c)).length 3))]) (fun z => GoodS w n ⟨a, k⟩ p c z) (fun z => p.kids.length - z.1) (0, nameP ⟨a, k⟩ p, c + 1) ⟨by simp, by simp, by dsimp only; omega, by dsimp only; omega, by dsimp only; omega, by dsimp only; omega, hnr⟩ ⟨⟨_, rfl, (LeA.eqi (by first | rfl | (simp; done) | (dsimp only; omega) | (simp_all [nameP]; done) | (unfold nextS; dsimp only; rw [if_neg (by simp_all)]; simp; done) | (unfold nextS; dsimp only; rw [if_pos (by simp_all)]; done)))⟩, ⟨⟨_, rfl, (LeA.glg (by first | rfl | (simp; done) | (dsimp only; omega) | (simp_all [nameP]; done) | (unfold nextS; dsimp only; rw [if_neg (by simp_all)]; simp; done) | (unfold nextS; dsimp only; rw [if_pos (by simp_all)]; done)))⟩, trivial⟩⟩ ⟨(by first | rfl | (simp [getH]; done)), ⟨beq_nat_eq (by first | rfl | (simp; done) | (simp; omega) | (first | rfl | (simp; done) | (dsimp only; omega) | (simp_all [nameP]; done) | (unfold nextS; dsimp only; rw [if_neg (by simp_all)]; simp; done) | (unfold nextS; dsimp only; rw [if_pos (by simp_all)]; done))), trivial⟩⟩ (fun x => rfl) (fun z hg1 => ?_)
      obtain ⟨s1, _, s3, s4, s5, s6, s7⟩ := id hg1
      refine sr ?_
      refine Walk.ltI .none rfl rfl rfl ?_
      refine tv ?_
      refine CWp.seq ?_
      refine cd ?_ ?_
      ·intro h6; have ⟨h6p, h6s⟩ := dup h6; try simp only [Q5] at h6s
       try simp only [Q, Pat.cs_len] at h6p
       refine CWp.skip ?_
       refine CWp.seq ?_
       refine CWp.block ?_
       refine sr ?_
       refine mv ?_
       refine Walk.idx sl68 .none rfl rfl rfl rfl (pats_at (by omega)) rfl ?_
       refine Walk.loadPA ty70 .none rfl rfl rfl rfl ?_
       refine Walk.alloc (id := 3016) tz70 rfl .none rfl rfl rfl rfl ?_
       refine asg ?_
       refine Walk.store ty70 .none rfl rfl rfl rfl rfl rfl (by simp) rfl ?_
       refine tv ?_
       refine CWp.seq ?_
       refine CWp.drawn mixed rfl ?_
       refine mv ?_
       refine mv ?_
       refine mv ?_
       refine Walk.idx sl24 .none rfl rfl rfl rfl (at_nth (by omega)) rfl ?_
       refine Walk.loadPA ty38 .none rfl rfl rfl rfl ?_
       refine Walk.loadBA ty70 .none rfl rfl rfl rfl ?_
       refine mv ?_
       refine Walk.addI .none rfl rfl rfl (by first | (constructor <;> omega) | (constructor <;> simp <;> omega)) ?_
       refine mv ?_
       refine Walk.call (cr := []) cal138 (impl_patternScan_fn hw n (a := (nth (typesP w ⟨a, k⟩ p) z.1).data) (k := (nth (typesP w ⟨a, k⟩ p) z.1).index) (c := z.2.2) (p := nth p.kids z.1) (by omega) (by omega) (hin _ (nth_mem (by omega))) (Pats.ok_mem hok.2 _ (nth_mem (by omega))) (by omega) (by omega)) rfl .none rfl rfl (LeL.refl _) ⟨rfl, trivial⟩ rfl rfl rfl ?_
       refine mv ?_
       refine Walk.extract .none rfl rfl rfl ?_
       refine Walk.extract .none rfl rfl rfl ?_
       refine asg ?_
       refine asg ?_
       refine ⟨by show _ = _; kernel_rfl, ?_⟩
       refine CWp.block ?_
       refine sr ?_
       refine mv ?_
       refine Walk.not .none rfl rfl ?_
       refine asg ?_
       refine tv ?_
       refine cd ?_ ?_
       ·intro h7; have ⟨h7p, h7s⟩ := dup h7; try simp only [Q5] at h7s
        try simp only [Q, Pat.cs_len] at h7p
        refine sr ?_
        refine asg ?_
        refine asg ?_
        refine tv ?_
        refine CWp.ret ?_
        refine ⟨_, _, [(950, some (.box [.d (.i (finV (scanK (scanP w n) (decide (p.op = 5)) (typesP w ⟨a, k⟩ p) p.kids 0 (nameP ⟨a, k⟩ p) (c + 1))).2)]))], (.cons (.tmp rfl) (.cons (.tmp rfl) .nil)), (.tup (.cons (.nild ?_) (.cons (.eqd ?_) .nil))), ⟨rfl, rfl⟩, (SubO.get ⟨.inr (by first | (show some (Res.box _) = some (Res.box _); rw [hg1.none hl (by omega) (by assumption)]; done) | (show some (Res.box _) = some (Res.box _); rw [hg1.bad hl (by omega) (by assumption) (by assumption) (by assumption)]; done) | (show some (Res.box _) = some (Res.box _); rw [hg1.fin hl (by omega)]; done)), ⟨.inl rfl, trivial⟩⟩), (boxOK rfl)⟩
        all_goals (first | (rw [hg1.none hl (by omega) (by assumption)]; first | done | rfl) | (rw [hg1.bad hl (by omega) (by assumption) (by assumption) (by assumption)]; first | done | rfl) | (rw [hg1.fin hl (by omega), if_neg (by rw [nodup_app hg2.1 (by assumption)]; simp)]; first | done | rfl) | (rw [hg1.fin hl (by omega), if_pos (by have hz := hg2.1; rw [List.append_nil] at hz; rw [← hz]; exact decide_eq_true hg2.2)]; first | done | rfl))
       ·intro h7; have ⟨h7p, h7s⟩ := dup h7; try simp only [Q5] at h7s
        try simp only [Q, Pat.cs_len] at h7p
        refine CWp.seq ?_
        refine CWp.regionJ ?_
        refine WRest.join 7 [(93, .d (.bool (decide (p.op = 5 ∧ z.1 = 1))))] [87, 88, 89, 90, 91, 92] ?_ ?_
        ·
         refine Walk.fieldB fd70_0 .none rfl rfl ?_
         refine Walk.loadB ty3 .none rfl rfl rfl rfl ?_
         refine Walk.eqI .none rfl rfl rfl ?_
         refine mv ?_
         refine sp 90 ?_ ?_
         ·intro h8; have ⟨h8p, h8s⟩ := dup h8; try simp only [Q5] at h8s
          try simp only [Q, Pat.cs_len] at h8p
          refine Walk.move (.some rfl rfl h8) rfl rfl ?_
          refine Walk.eqI (.some rfl rfl h8) rfl rfl rfl ?_
          refine Walk.pickT .none rfl rfl h8 rfl ?_
          exact ⟨trivial, Sub.x (by kernel_rfl) (by kernel_rfl) ⟨⟨_, rfl, (LeA.eqb (by first | rfl | (rw [Bool.eq_iff_iff]; (try simp only [BQ]) <;> first | omega | (simp_all; done) | (simp_all; omega))))⟩, trivial⟩ (by kernel_rfl) (by kernel_rfl) trivial⟩
         ·intro h8; have ⟨h8p, h8s⟩ := dup h8; try simp only [Q5] at h8s
          try simp only [Q, Pat.cs_len] at h8p
          refine ps h8 ?_
          refine ps h8 ?_
          refine Walk.pickF .none rfl rfl h8 rfl ?_
          exact ⟨trivial, Sub.x (by kernel_rfl) (by kernel_rfl) ⟨⟨_, rfl, (LeA.eqb (by first | rfl | (rw [Bool.eq_iff_iff]; (try simp only [BQ]) <;> first | omega | (simp_all; done) | (simp_all; omega))))⟩, trivial⟩ (by kernel_rfl) (by kernel_rfl) trivial⟩
        refine WRest.done ?_
        refine asg ?_
        refine tv ?_
        refine cd ?_ ?_
        ·intro h9; have ⟨h9p, h9s⟩ := dup h9; try simp only [Q5] at h9s
         try simp only [Q, Pat.cs_len] at h9p
         refine sr ?_
         refine mv ?_
         refine mv ?_
         refine Walk.call (cr := []) cal151 (impl_sameVars_fn (by omega) (by have hz := (someV_ok w n ⟨(nth (typesP w ⟨a, k⟩ p) z.1).data, (nth (typesP w ⟨a, k⟩ p) z.1).index⟩ (nth p.kids z.1) z.2.2).2; omega)) rfl .none rfl rfl (.cons (.gl _ _) (.cons (.refl _) .nil)) trivial rfl rfl rfl ?_
         refine Walk.not .none rfl rfl ?_
         refine tv ?_
         refine cd ?_ ?_
         ·intro h10; have ⟨h10p, h10s⟩ := dup h10; try simp only [Q5] at h10s
          try simp only [Q, Pat.cs_len] at h10p
          refine sr ?_
          refine asg ?_
          refine asg ?_
          refine tv ?_
          refine CWp.ret ?_
          refine ⟨_, _, [(950, some (.box [.d (.i (finV (scanK (scanP w n) (decide (p.op = 5)) (typesP w ⟨a, k⟩ p) p.kids 0 (nameP ⟨a, k⟩ p) (c + 1))).2)]))], (.cons (.tmp rfl) (.cons (.tmp rfl) .nil)), (.tup (.cons (.nild ?_) (.cons (.eqd ?_) .nil))), ⟨rfl, rfl⟩, (SubO.get ⟨.inr (by first | (show some (Res.box _) = some (Res.box _); rw [hg1.none hl (by omega) (by assumption)]; done) | (show some (Res.box _) = some (Res.box _); rw [hg1.bad hl (by omega) (by assumption) (by assumption) (by assumption)]; done) | (show some (Res.box _) = some (Res.box _); rw [hg1.fin hl (by omega)]; done)), ⟨.inl rfl, trivial⟩⟩), (boxOK rfl)⟩
          all_goals (first | (rw [hg1.none hl (by omega) (by assumption)]; first | done | rfl) | (rw [hg1.bad hl (by omega) (by assumption) (by assumption) (by assumption)]; first | done | rfl) | (rw [hg1.fin hl (by omega), if_neg (by rw [nodup_app hg2.1 (by assumption)]; simp)]; first | done | rfl) | (rw [hg1.fin hl (by omega), if_pos (by have hz := hg2.1; rw [List.append_nil] at hz; rw [← hz]; exact decide_eq_true hg2.2)]; first | done | rfl))
         ·intro h10; have ⟨h10p, h10s⟩ := dup h10; try simp only [Q5] at h10s
          try simp only [Q, Pat.cs_len] at h10p
          refine CWp.skip ?_
          refine CWp.region rfl ?_
          refine Walk.addI .none rfl rfl rfl (by first | (constructor <;> omega) | (constructor <;> simp <;> omega)) ?_
          refine mv ?_
          refine tv ?_
          refine ⟨(nextS w n ⟨a, k⟩ p z), (hg1.next hl (by omega) (by simp_all) (fun ho => by simp_all)), (by unfold nextS; dsimp only; omega), Sub.x (by kernel_rfl) (by kernel_rfl) ⟨⟨_, rfl, (LeA.eqi (by first | rfl | (simp; done) | (dsimp only; omega) | (simp_all [nameP]; done) | (unfold nextS; dsimp only; rw [if_neg (by simp_all)]; simp; done) | (unfold nextS; dsimp only; rw [if_pos (by simp_all)]; done)))⟩, ⟨⟨_, rfl, (LeA.glg (by first | rfl | (simp; done) | (dsimp only; omega) | (simp_all [nameP]; done) | (unfold nextS; dsimp only; rw [if_neg (by simp_all)]; simp; done) | (unfold nextS; dsimp only; rw [if_pos (by simp_all)]; done)))⟩, trivial⟩⟩ (by kernel_rfl) (by kernel_rfl) ⟨(by first | rfl | (simp [getH]; done)), ⟨beq_nat_eq (by first | rfl | (simp; done) | (simp; omega) | (first | rfl | (simp; done) | (dsimp only; omega) | (simp_all [nameP]; done) | (unfold nextS; dsimp only; rw [if_neg (by simp_all)]; simp; done) | (unfold nextS; dsimp only; rw [if_pos (by simp_all)]; done))), trivial⟩⟩⟩
        ·intro h9; have ⟨h9p, h9s⟩ := dup h9; try simp only [Q5] at h9s
         try simp only [Q, Pat.cs_len] at h9p
         refine CWp.region rfl ?_
         refine mv ?_
         refine mv ?_
         refine Walk.append sl134 zz168 rfl .none rfl rfl rfl rfl (htokL rfl (by first | rfl | (simp; done) | (simp; omega))) (by simp) (by first | (simp; done) | (simp; omega) | (have hz := (someV_ok w n ⟨(nth (typesP w ⟨a, k⟩ p) z.1).data, (nth (typesP w ⟨a, k⟩ p) z.1).index⟩ (nth p.kids z.1) z.2.2).2; simp; omega)) (by first | (simp; done) | (simp; omega) | (have hz := (someV_ok w n ⟨(nth (typesP w ⟨a, k⟩ p) z.1).data, (nth (typesP w ⟨a, k⟩ p) z.1).index⟩ (nth p.kids z.1) z.2.2).2; simp; omega)) ?_
         refine asg ?_
         refine tv ?_
         refine CWp.region rfl ?_
         refine Walk.addI .none rfl rfl rfl (by first | (constructor <;> omega) | (constructor <;> simp <;> omega)) ?_
         refine mv ?_
         refine tv ?_
         refine ⟨(nextS w n ⟨a, k⟩ p z), (hg1.next hl (by omega) (by simp_all) (fun ho => by simp_all)), (by unfold nextS; dsimp only; omega), Sub.x (by kernel_rfl) (by kernel_rfl) ⟨⟨_, rfl, (LeA.eqi (by first | rfl | (simp; done) | (dsimp only; omega) | (simp_all [nameP]; done) | (unfold nextS; dsimp only; rw [if_neg (by simp_all)]; simp; done) | (unfold nextS; dsimp only; rw [if_pos (by simp_all)]; done)))⟩, ⟨⟨_, rfl, (LeA.glg (by first | rfl | (simp; done) | (dsimp only; omega) | (simp_all [nameP]; done) | (unfold nextS; dsimp only; rw [if_neg (by simp_all)]; simp; done) | (unfold nextS; dsimp only; rw [if_pos (by simp_all)]; done)))⟩, trivial⟩⟩ (by kernel_rfl) (by kernel_rfl) ⟨(by first | rfl | (simp [getH]; done)), ⟨beq_nat_eq (by first | rfl | (simp; done) | (simp; omega) | (first | rfl | (simp; done) | (dsimp only; omega) | (simp_all [nameP]; done) | (unfold nextS; dsimp only; rw [if_neg (by simp_all)]; simp; done) | (unfold nextS; dsimp only; rw [if_pos (by simp_all)]; done))), trivial⟩⟩⟩
      ·intro h6; have ⟨h6p, h6s⟩ := dup h6; try simp only [Q5] at h6s
       try simp only [Q, Pat.cs_len] at h6p
       refine CWp.exit ?_
       refine sr ?_
       refine Walk.alloc (id := 3019) tz182 rfl .none rfl rfl rfl rfl ?_
       refine tv ?_
       refine CWp.seq ?_
       refine sr ?_
       refine mv ?_
       refine Walk.lenG sl134 .none rfl rfl ?_
       refine mv ?_
       refine tv ?_
       refine CWp.block ?_
       refine CWp.loopX (ι := List (Vt) × List (Vt)) hk (fun x => [(101, .d (.i (x.1.length : Int)))]) [10, 11, 21, 102, 103, 104, 105, 106, 107, 108, 109, 110, 111, 112] (fun x => [(3019, some (.box (metA (x.1.map Vt.var))))]) (fun x => x.1 ++ x.2 = z.2.1 ∧ (x.1.map Vt.var).Nodup) (fun x => x.2.length) ([], z.2.1) ⟨by simp, by simp⟩ ⟨⟨_, rfl, (LeA.eqi (by first | rfl | (simp; done) | (simp_all; done) | omega))⟩, trivial⟩ ⟨(by first | rfl | (simp [getH]; done)), trivial⟩ (fun x => rfl) (fun x hg2 => ?_)
       obtain ⟨pre, rest⟩ := x
       dsimp only at hg2 ⊢
       refine sr ?_
       refine Walk.ltI .none rfl rfl rfl ?_
       refine tv ?_
       refine CWp.seq ?_
       refine cd ?_ ?_
       ·intro h11; have ⟨h11p, h11s⟩ := dup h11; try simp only [Q5] at h11s
        try simp only [Q, Pat.cs_len] at h11p
        rcases rest with _ | ⟨y, rest⟩
        ·exfalso; simp_all
        have hy := s7 y (by rw [← hg2.1]; simp)
        refine CWp.skip ?_
        refine CWp.seq ?_
        refine CWp.block ?_
        refine sr ?_
        refine Walk.idxG sl134 .none rfl rfl rfl rfl (zip_at hg2.1) rfl ?_
        refine Walk.loadPA ty168 .none rfl rfl rfl rfl ?_
        refine Walk.alloc (id := 3021) tz168 rfl .none rfl rfl rfl rfl ?_
        refine Walk.store ty168 .none rfl rfl rfl rfl rfl rfl (by simp) rfl ?_
        refine tv ?_
        refine CWp.seq ?_
        refine sr ?_
        refine Walk.fieldB fd168_0 .none rfl rfl ?_
        refine Walk.loadB ty3 .none rfl rfl rfl rfl ?_
        refine Walk.idxA (i := y.var.toNat) ar182 .none rfl rfl rfl (Int.toNat_of_nonneg hy.1).symm (by omega) ?_
        refine Walk.loadB ty4 .none rfl rfl rfl ((by simpa using metA_get hy.1 hy.2)) ?_
        refine tv ?_
        refine cd ?_ ?_
        ·intro h12; have ⟨h12p, h12s⟩ := dup h12; try simp only [Q5] at h12s
         try simp only [Q, Pat.cs_len] at h12p
         refine sr ?_
         refine asg ?_
         refine asg ?_
         refine tv ?_
         refine CWp.ret ?_
         refine ⟨_, _, [(950, some (.box [.d (.i (finV (scanK (scanP w n) (decide (p.op = 5)) (typesP w ⟨a, k⟩ p) p.kids 0 (nameP ⟨a, k⟩ p) (c + 1))).2)]))], (.cons (.tmp rfl) (.cons (.tmp rfl) .nil)), (.tup (.cons (.nild ?_) (.cons (.eqd ?_) .nil))), ⟨rfl, rfl⟩, (SubO.get ⟨.inr (by first | (show some (Res.box _) = some (Res.box _); rw [hg1.none hl (by omega) (by assumption)]; done) | (show some (Res.box _) = some (Res.box _); rw [hg1.bad hl (by omega) (by assumption) (by assumption) (by assumption)]; done) | (show some (Res.box _) = some (Res.box _); rw [hg1.fin hl (by omega)]; done)), ⟨.inl rfl, trivial⟩⟩), (boxOK rfl)⟩
         all_goals (first | (rw [hg1.none hl (by omega) (by assumption)]; first | done | rfl) | (rw [hg1.bad hl (by omega) (by assumption) (by assumption) (by assumption)]; first | done | rfl) | (rw [hg1.fin hl (by omega), if_neg (by rw [nodup_app hg2.1 (by assumption)]; simp)]; first | done | rfl) | (rw [hg1.fin hl (by omega), if_pos (by have hz := hg2.1; rw [List.append_nil] at hz; rw [← hz]; exact decide_eq_true hg2.2)]; first | done | rfl))
        ·intro h12; have ⟨h12p, h12s⟩ := dup h12; try simp only [Q5] at h12s
         try simp only [Q, Pat.cs_len] at h12p
         refine CWp.skip ?_
         refine CWp.region rfl ?_
         refine Walk.fieldB fd168_0 .none rfl rfl ?_
         refine Walk.loadB ty3 .none rfl rfl rfl rfl ?_
         refine Walk.idxA (i := y.var.toNat) ar182 .none rfl rfl rfl (Int.toNat_of_nonneg hy.1).symm (by omega) ?_
         refine Walk.store ty4 .none rfl rfl rfl rfl rfl rfl (by simp) ((by simpa using metA_put hy.1 hy.2)) ?_
         refine tv ?_
         refine CWp.region rfl ?_
         refine Walk.addI .none rfl rfl rfl (by first | (constructor <;> omega) | (constructor <;> simp <;> omega)) ?_
         refine mv ?_
         refine tv ?_
         refine ⟨(pre ++ [y], rest), ⟨(by have hz := hg2.1; rw [← hz]; simp), (nodup_snoc hg2.2 (by simp_all))⟩, (by simp), Sub.x (by kernel_rfl) (by kernel_rfl) ⟨⟨_, rfl, (LeA.eqi (by first | rfl | (simp; done) | (simp_all; done) | omega))⟩, trivial⟩ (by kernel_rfl) (by kernel_rfl) ⟨(by first | rfl | (simp [getH]; done)), trivial⟩⟩
       ·intro h11; have ⟨h11p, h11s⟩ := dup h11; try simp only [Q5] at h11s
        try simp only [Q, Pat.cs_len] at h11p
        have hrest : rest = [] := by
         rcases rest with _ | ⟨a, b⟩
         ·rfl
         ·exfalso; have hz := congrArg List.length (hg2.1); simp only [List.length_append, List.length_cons, List.length_map] at hz; omega
        subst hrest
        refine CWp.exit ?_
        refine sr ?_
        refine mv ?_
        refine asg ?_
        refine asg ?_
        refine tv ?_
        refine CWp.ret ?_
        refine ⟨_, _, [(950, some (.box [.d (.i (finV (scanK (scanP w n) (decide (p.op = 5)) (typesP w ⟨a, k⟩ p) p.kids 0 (nameP ⟨a, k⟩ p) (c + 1))).2)]))], (.cons (.tmp rfl) (.cons (.tmp rfl) .nil)), (.tup (.cons (.gld ?_) (.cons (.eqd ?_) .nil))), ⟨rfl, rfl⟩, (SubO.get ⟨.inr (by first | (show some (Res.box _) = some (Res.box _); rw [hg1.none hl (by omega) (by assumption)]; done) | (show some (Res.box _) = some (Res.box _); rw [hg1.bad hl (by omega) (by assumption) (by assumption) (by assumption)]; done) | (show some (Res.box _) = some (Res.box _); rw [hg1.fin hl (by omega)]; done)), ⟨.inl rfl, trivial⟩⟩), (boxOK rfl)⟩
        all_goals (first | (rw [hg1.none hl (by omega) (by assumption)]; first | done | rfl) | (rw [hg1.bad hl (by omega) (by assumption) (by assumption) (by assumption)]; first | done | rfl) | (rw [hg1.fin hl (by omega), if_neg (by rw [nodup_app hg2.1 (by assumption)]; simp)]; first | done | rfl) | (rw [hg1.fin hl (by omega), if_pos (by have hz := hg2.1; rw [List.append_nil] at hz; rw [← hz]; exact decide_eq_true hg2.2)]; first | done | rfl))
     ·intro h5; have ⟨h5p, h5s⟩ := dup h5; try simp only [Q5] at h5s
      try simp only [Q, Pat.cs_len] at h5p
      refine CWp.skip ?_
      refine CWp.seq ?_
      refine sr ?_
      refine Walk.fieldB fd70_5 .none rfl rfl ?_
      refine Walk.loadB ty68 .none rfl rfl rfl rfl ?_
      refine Walk.len sl68 .none rfl rfl ?_
      refine mv ?_
      refine tv ?_
      refine CWp.block ?_
      refine CWp.loopX (ι := Nat × List Vt × Int) hk (fun z => [(62, .d (.i (z.1 : Int))), (14, .gl 5 (z.2.1.map Vt.c))]) [10, 11, 15, 16, 17, 18, 63, 64, 65, 66, 67, 68, 69, 70, 71, 72, 73, 74, 75, 76, 77, 78, 79, 80, 81, 82, 83, 84, 85, 86, 87, 88, 89, 90, 91, 92, 93, 94, 95, 96, 97, 98] (fun z => [(950, some (.box [.d (.i z.2.2)])), (5, some (.tok ((z.2.1.map Vt.c)).length 3))]) (fun z => GoodS w n ⟨a, k⟩ p c z) (fun z => p.kids.length - z.1) (0, nameP ⟨a, k⟩ p, c + 1) ⟨by simp, by simp, by dsimp only; omega, by dsimp only; omega, by dsimp only; omega, by dsimp only; omega, hnr⟩ ⟨⟨_, rfl, (LeA.eqi (by first | rfl | (simp; done) | (dsimp only; omega) | (simp_all [nameP]; done) | (unfold nextS; dsimp only; rw [if_neg (by simp_all)]; simp; done) | (unfold nextS; dsimp only; rw [if_pos (by simp_all)]; done)))⟩, ⟨⟨_, rfl, (LeA.glg (by first | rfl | (simp; done) | (dsimp only; omega) | (simp_all [nameP]; done) | (unfold nextS; dsimp only; rw [if_neg (by simp_all)]; simp; done) | (unfold nextS; dsimp only; rw [if_pos (by simp_all)]; done)))⟩, trivial⟩⟩ ⟨(by first | rfl | (simp [getH]; done)), ⟨beq_nat_eq (by first | rfl | (simp; done) | (simp; omega) | (first | rfl | (simp; done) | (dsimp only; omega) | (simp_all [nameP]; done) | (unfold nextS; dsimp only; rw [if_neg (by simp_all)]; simp; done) | (unfold nextS; dsimp only; rw [if_pos (by simp_all)]; done))), trivial⟩⟩ (fun x => rfl) (fun z hg1 => ?_)
      obtain ⟨s1, _, s3, s4, s5, s6, s7⟩ := id hg1
      refine sr ?_
      refine Walk.ltI .none rfl rfl rfl ?_
      refine tv ?_
      refine CWp.seq ?_
      refine cd ?_ ?_
      ·intro h13; have ⟨h13p, h13s⟩ := dup h13; try simp only [Q5] at h13s
       try simp only [Q, Pat.cs_len] at h13p
       refine CWp.skip ?_
       refine CWp.seq ?_
       refine CWp.block ?_
       refine sr ?_
       refine mv ?_
       refine Walk.idx sl68 .none rfl rfl rfl rfl (pats_at (by omega)) rfl ?_
       refine Walk.loadPA ty70 .none rfl rfl rfl rfl ?_
       refine Walk.alloc (id := 3016) tz70 rfl .none rfl rfl rfl rfl ?_
       refine asg ?_
       refine Walk.store ty70 .none rfl rfl rfl rfl rfl rfl (by simp) rfl ?_
       refine tv ?_
       refine CWp.seq ?_
       refine CWp.drawn mixed rfl ?_
       refine mv ?_
       refine mv ?_
       refine mv ?_
       refine Walk.idx sl24 .none rfl rfl rfl rfl (at_nth (by omega)) rfl ?_
       refine Walk.loadPA ty38 .none rfl rfl rfl rfl ?_
       refine Walk.loadBA ty70 .none rfl rfl rfl rfl ?_
       refine mv ?_
       refine Walk.addI .none rfl rfl rfl (by first | (constructor <;> omega) | (constructor <;> simp <;> omega)) ?_
       refine mv ?_
       refine Walk.call (cr := []) cal138 (impl_patternScan_fn hw n (a := (nth (typesP w ⟨a, k⟩ p) z.1).data) (k := (nth (typesP w ⟨a, k⟩ p) z.1).index) (c := z.2.2) (p := nth p.kids z.1) (by omega) (by omega) (hin _ (nth_mem (by omega))) (Pats.ok_mem hok.2 _ (nth_mem (by omega))) (by omega) (by omega)) rfl .none rfl rfl (LeL.refl _) ⟨rfl, trivial⟩ rfl rfl rfl ?_
       refine mv ?_
       refine Walk.extract .none rfl rfl rfl ?_
       refine Walk.extract .none rfl rfl rfl ?_
       refine asg ?_
       refine asg ?_
       refine ⟨by show _ = _; kernel_rfl, ?_⟩
       refine CWp.block ?_
       refine sr ?_
       refine mv ?_
       refine Walk.not .none rfl rfl ?_
       refine asg ?_
       refine tv ?_
       refine cd ?_ ?_
       ·intro h14; have ⟨h14p, h14s⟩ := dup h14; try simp only [Q5] at h14s
        try simp only [Q, Pat.cs_len] at h14p
        refine sr ?_
        refine asg ?_
        refine asg ?_
        refine tv ?_
        refine CWp.ret ?_
        refine ⟨_, _, [(950, some (.box [.d (.i (finV (scanK (scanP w n) (decide (p.op = 5)) (typesP w ⟨a, k⟩ p) p.kids 0 (nameP ⟨a, k⟩ p) (c + 1))).2)]))], (.cons (.tmp rfl) (.cons (.tmp rfl) .nil)), (.tup (.cons (.nild ?_) (.cons (.eqd ?_) .nil))), ⟨rfl, rfl⟩, (SubO.get ⟨.inr (by first | (show some (Res.box _) = some (Res.box _); rw [hg1.none hl (by omega) (by assumption)]; done) | (show some (Res.box _) = some (Res.box _); rw [hg1.bad hl (by omega) (by assumption) (by assumption) (by assumption)]; done) | (show some (Res.box _) = some (Res.box _); rw [hg1.fin hl (by omega)]; done)), ⟨.inl rfl, trivial⟩⟩), (boxOK rfl)⟩
        all_goals (first | (rw [hg1.none hl (by omega) (by assumption)]; first | done | rfl) | (rw [hg1.bad hl (by omega) (by assumption) (by assumption) (by assumption)]; first | done | rfl) | (rw [hg1.fin hl (by omega), if_neg (by rw [nodup_app hg2.1 (by assumption)]; simp)]; first | done | rfl) | (rw [hg1.fin hl (by omega), if_pos (by have hz := hg2.1; rw [List.append_nil] at hz; rw [← hz]; exact decide_eq_true hg2.2)]; first | done | rfl))
       ·intro h14; have ⟨h14p, h14s⟩ := dup h14; try simp only [Q5] at h14s
        try simp only [Q, Pat.cs_len] at h14p
        refine CWp.seq ?_
        refine CWp.regionJ ?_
        refine WRest.join 7 [(93, .d (.bool (decide (p.op = 5 ∧ z.1 = 1))))] [87, 88, 89, 90, 91, 92] ?_ ?_
        ·
         refine Walk.fieldB fd70_0 .none rfl rfl ?_
         refine Walk.loadB ty3 .none rfl rfl rfl rfl ?_
         refine Walk.eqI .none rfl rfl rfl ?_
         refine mv ?_
         refine sp 90 ?_ ?_
         ·intro h15; have ⟨h15p, h15s⟩ := dup h15; try simp only [Q5] at h15s
          try simp only [Q, Pat.cs_len] at h15p
          refine Walk.move (.some rfl rfl h15) rfl rfl ?_
          refine Walk.eqI (.some rfl rfl h15) rfl rfl rfl ?_
          refine Walk.pickT .none rfl rfl h15 rfl ?_
          exact ⟨trivial, Sub.x (by kernel_rfl) (by kernel_rfl) ⟨⟨_, rfl, (LeA.eqb (by first | rfl | (rw [Bool.eq_iff_iff]; (try simp only [BQ]) <;> first | omega | (simp_all; done) | (simp_all; omega))))⟩, trivial⟩ (by kernel_rfl) (by kernel_rfl) trivial⟩
         ·intro h15; have ⟨h15p, h15s⟩ := dup h15; try simp only [Q5] at h15s
          try simp only [Q, Pat.cs_len] at h15p
          refine ps h15 ?_
          refine ps h15 ?_
          refine Walk.pickF .none rfl rfl h15 rfl ?_
          exact ⟨trivial, Sub.x (by kernel_rfl) (by kernel_rfl) ⟨⟨_, rfl, (LeA.eqb (by first | rfl | (rw [Bool.eq_iff_iff]; (try simp only [BQ]) <;> first | omega | (simp_all; done) | (simp_all; omega))))⟩, trivial⟩ (by kernel_rfl) (by kernel_rfl) trivial⟩
        refine WRest.done ?_
        refine asg ?_
        refine tv ?_
        refine cd ?_ ?_
        ·intro h16; have ⟨h16p, h16s⟩ := dup h16; try simp only [Q5] at h16s
         try simp only [Q, Pat.cs_len] at h16p
         refine sr ?_
         refine mv ?_
         refine mv ?_
         refine Walk.call (cr := []) cal151 (impl_sameVars_fn (by omega) (by have hz := (someV_ok w n ⟨(nth (typesP w ⟨a, k⟩ p) z.1).data, (nth (typesP w ⟨a, k⟩ p) z.1).index⟩ (nth p.kids z.1) z.2.2).2; omega)) rfl .none rfl rfl (.cons (.gl _ _) (.cons (.refl _) .nil)) trivial rfl rfl rfl ?_
         refine Walk.not .none rfl rfl ?_
         refine tv ?_
         refine cd ?_ ?_
         ·intro h17; have ⟨h17p, h17s⟩ := dup h17; try simp only [Q5] at h17s
          try simp only [Q, Pat.cs_len] at h17p
          refine sr ?_
          refine asg ?_
          refine asg ?_
          refine tv ?_
          refine CWp.ret ?_
          refine ⟨_, _, [(950, some (.box [.d (.i (finV (scanK (scanP w n) (decide (p.op = 5)) (typesP w ⟨a, k⟩ p) p.kids 0 (nameP ⟨a, k⟩ p) (c + 1))).2)]))], (.cons (.tmp rfl) (.cons (.tmp rfl) .nil)), (.tup (.cons (.nild ?_) (.cons (.eqd ?_) .nil))), ⟨rfl, rfl⟩, (SubO.get ⟨.inr (by first | (show some (Res.box _) = some (Res.box _); rw [hg1.none hl (by omega) (by assumption)]; done) | (show some (Res.box _) = some (Res.box _); rw [hg1.bad hl (by omega) (by assumption) (by assumption) (by assumption)]; done) | (show some (Res.box _) = some (Res.box _); rw [hg1.fin hl (by omega)]; done)), ⟨.inl rfl, trivial⟩⟩), (boxOK rfl)⟩
          all_goals (first | (rw [hg1.none hl (by omega) (by assumption)]; first | done | rfl) | (rw [hg1.bad hl (by omega) (by assumption) (by assumption) (by assumption)]; first | done | rfl) | (rw [hg1.fin hl (by omega), if_neg (by rw [nodup_app hg2.1 (by assumption)]; simp)]; first | done | rfl) | (rw [hg1.fin hl (by omega), if_pos (by have hz := hg2.1; rw [List.append_nil] at hz; rw [← hz]; exact decide_eq_true hg2.2)]; first | done | rfl))
         ·intro h17; have ⟨h17p, h17s⟩ := dup h17; try simp only [Q5] at h17s
          try simp only [Q, Pat.cs_len] at h17p
          refine CWp.skip ?_
          refine CWp.region rfl ?_
          refine Walk.addI .none rfl rfl rfl (by first | (constructor <;> omega) | (constructor <;> simp <;> omega)) ?_
          refine mv ?_
          refine tv ?_
          refine ⟨(nextS w n ⟨a, k⟩ p z), (hg1.next hl (by omega) (by simp_all) (fun ho => by simp_all)), (by unfold nextS; dsimp only; omega), Sub.x (by kernel_rfl) (by kernel_rfl) ⟨⟨_, rfl, (LeA.eqi (by first | rfl | (simp; done) | (dsimp only; omega) | (simp_all [nameP]; done) | (unfold nextS; dsimp only; rw [if_neg (by simp_all)]; simp; done) | (unfold nextS; dsimp only; rw [if_pos (by simp_all)]; done)))⟩, ⟨⟨_, rfl, (LeA.glg (by first | rfl | (simp; done) | (dsimp only; omega) | (simp_all [nameP]; done) | (unfold nextS; dsimp only; rw [if_neg (by simp_all)]; simp; done) | (unfold nextS; dsimp only; rw [if_pos (by simp_all)]; done)))⟩, trivial⟩⟩ (by kernel_rfl) (by kernel_rfl) ⟨(by first | rfl | (simp [getH]; done)), ⟨beq_nat_eq (by first | rfl | (simp; done) | (simp; omega) | (first | rfl | (simp; done) | (dsimp only; omega) | (simp_all [nameP]; done) | (unfold nextS; dsimp only; rw [if_neg (by simp_all)]; simp; done) | (unfold nextS; dsimp only; rw [if_pos (by simp_all)]; done))), trivial⟩⟩⟩
        ·intro h16; have ⟨h16p, h16s⟩ := dup h16; try simp only [Q5] at h16s
         try simp only [Q, Pat.cs_len] at h16p
         refine CWp.region rfl ?_
         refine mv ?_
         refine mv ?_
         refine Walk.append sl134 zz168 rfl .none rfl rfl rfl rfl (htokL rfl (by first | rfl | (simp; done) | (simp; omega))) (by simp) (by first | (simp; done) | (simp; omega) | (have hz := (someV_ok w n ⟨(nth (typesP w ⟨a, k⟩ p) z.1).data, (nth (typesP w ⟨a, k⟩ p) z.1).index⟩ (nth p.kids z.1) z.2.2).2; simp; omega)) (by first | (simp; done) | (simp; omega) | (have hz := (someV_ok w n ⟨(nth (typesP w ⟨a, k⟩ p) z.1).data, (nth (typesP w ⟨a, k⟩ p) z.1).index⟩ (nth p.kids z.1) z.2.2).2; simp; omega)) ?_
         refine asg ?_
         refine tv ?_
         refine CWp.region rfl ?_
         refine Walk.addI .none rfl rfl rfl (by first | (constructor <;> omega) | (constructor <;> simp <;> omega)) ?_
         refine mv ?_
         refine tv ?_
         refine ⟨(nextS w n ⟨a, k⟩ p z), (hg1.next hl (by omega) (by simp_all) (fun ho => by simp_all)), (by unfold nextS; dsimp only; omega), Sub.x (by kernel_rfl) (by kernel_rfl) ⟨⟨_, rfl, (LeA.eqi (by first | rfl | (simp; done) | (dsimp only; omega) | (simp_all [nameP]; done) | (unfold nextS; dsimp only; rw [if_neg (by simp_all)]; simp; done) | (unfold nextS; dsimp only; rw [if_pos (by simp_all)]; done)))⟩, ⟨⟨_, rfl, (LeA.glg (by first | rfl | (simp; done) | (dsimp only; omega) | (simp_all [nameP]; done) | (unfold nextS; dsimp only; rw [if_neg (by simp_all)]; simp; done) | (unfold nextS; dsimp only; rw [if_pos (by simp_all)]; done)))⟩, trivial⟩⟩ (by kernel_rfl) (by kernel_rfl) ⟨(by first | rfl | (simp [getH]; done)), ⟨beq_nat_eq (by first | rfl | (simp; done) | (simp; omega) | (first | rfl | (simp; done) | (dsimp only; omega) | (simp_all [nameP]; done) | (unfold nextS; dsimp only; rw [if_neg (by simp_all)]; simp; done) | (unfold nextS; dsimp only; rw [if_pos (by simp_all)]; done))), trivial⟩⟩⟩
      ·intro h13; have ⟨h13p, h13s⟩ := dup h13; try simp only [Q5] at h13s
       try simp only [Q, Pat.cs_len] at h13p
       refine CWp.exit ?_
       refine sr ?_
       refine Walk.alloc (id := 3019) tz182 rfl .none rfl rfl rfl rfl ?_
       refine tv ?_
       refine CWp.seq ?_
       refine sr ?_
       refine mv ?_
       refine Walk.lenG sl134 .none rfl rfl ?_
       refine mv ?_
       refine tv ?_
       refine CWp.block ?_
       refine CWp.loopX (ι := List (Vt) × List (Vt)) hk (fun x => [(101, .d (.i (x.1.length : Int)))]) [10, 11, 21, 102, 103, 104, 105, 106, 107, 108, 109, 110, 111, 112] (fun x => [(3019, some (.box (metA (x.1.map Vt.var))))]) (fun x => x.1 ++ x.2 = z.2.1 ∧ (x.1.map Vt.var).Nodup) (fun x => x.2.length) ([], z.2.1) ⟨by simp, by simp⟩ ⟨⟨_, rfl, (LeA.eqi (by first | rfl | (simp; done) | (simp_all; done) | omega))⟩, trivial⟩ ⟨(by first | rfl | (simp [getH]; done)), trivial⟩ (fun x => rfl) (fun x hg2 => ?_)
       obtain ⟨pre, rest⟩ := x
       dsimp only at hg2 ⊢
       refine sr ?_
       refine Walk.ltI .none rfl rfl rfl ?_
       refine tv ?_
       refine CWp.seq ?_
       refine cd ?_ ?_
       ·intro h18; have ⟨h18p, h18s⟩ := dup h18; try simp only [Q5] at h18s
        try simp only [Q, Pat.cs_len] at h18p
        rcases rest with _ | ⟨y, rest⟩
        ·exfalso; simp_all
        have hy := s7 y (by rw [← hg2.1]; simp)
        refine CWp.skip ?_
        refine CWp.seq ?_
        refine CWp.block ?_
        refine sr ?_
        refine Walk.idxG sl134 .none rfl rfl rfl rfl (zip_at hg2.1) rfl ?_
        refine Walk.loadPA ty168 .none rfl rfl rfl rfl ?_
        refine Walk.alloc (id := 3021) tz168 rfl .none rfl rfl rfl rfl ?_
        refine Walk.store ty168 .none rfl rfl rfl rfl rfl rfl (by simp) rfl ?_
        refine tv ?_
        refine CWp.seq ?_
        refine sr ?_
        refine Walk.fieldB fd168_0 .none rfl rfl ?_
        refine Walk.loadB ty3 .none rfl rfl rfl rfl ?_
        refine Walk.idxA (i := y.var.toNat) ar182 .none rfl rfl rfl (Int.toNat_of_nonneg hy.1).symm (by omega) ?_
        refine Walk.loadB ty4 .none rfl rfl rfl ((by simpa using metA_get hy.1 hy.2)) ?_
        refine tv ?_
        refine cd ?_ ?_
        ·intro h19; have ⟨h19p, h19s⟩ := dup h19; try simp only [Q5] at h19s
         try simp only [Q, Pat.cs_len] at h19p
         refine sr ?_
         refine asg ?_
         refine asg ?_
         refine tv ?_
         refine CWp.ret ?_
         refine ⟨_, _, [(950, some (.box [.d (.i (finV (scanK (scanP w n) (decide (p.op = 5)) (typesP w ⟨a, k⟩ p) p.kids 0 (nameP ⟨a, k⟩ p) (c + 1))).2)]))], (.cons (.tmp rfl) (.cons (.tmp rfl) .nil)), (.tup (.cons (.nild ?_) (.cons (.eqd ?_) .nil))), ⟨rfl, rfl⟩, (SubO.get ⟨.inr (by first | (show some (Res.box _) = some (Res.box _); rw [hg1.none hl (by omega) (by assumption)]; done) | (show some (Res.box _) = some (Res.box _); rw [hg1.bad hl (by omega) (by assumption) (by assumption) (by assumption)]; done) | (show some (Res.box _) = some (Res.box _); rw [hg1.fin hl (by omega)]; done)), ⟨.inl rfl, trivial⟩⟩), (boxOK rfl)⟩
         all_goals (first | (rw [hg1.none hl (by omega) (by assumption)]; first | done | rfl) | (rw [hg1.bad hl (by omega) (by assumption) (by assumption) (by assumption)]; first | done | rfl) | (rw [hg1.fin hl (by omega), if_neg (by rw [nodup_app hg2.1 (by assumption)]; simp)]; first | done | rfl) | (rw [hg1.fin hl (by omega), if_pos (by have hz := hg2.1; rw [List.append_nil] at hz; rw [← hz]; exact decide_eq_true hg2.2)]; first | done | rfl))
        ·intro h19; have ⟨h19p, h19s⟩ := dup h19; try simp only [Q5] at h19s
         try simp only [Q, Pat.cs_len] at h19p
         refine CWp.skip ?_
         refine CWp.region rfl ?_
         refine Walk.fieldB fd168_0 .none rfl rfl ?_
         refine Walk.loadB ty3 .none rfl rfl rfl rfl ?_
         refine Walk.idxA (i := y.var.toNat) ar182 .none rfl rfl rfl (Int.toNat_of_nonneg hy.1).symm (by omega) ?_
         refine Walk.store ty4 .none rfl rfl rfl rfl rfl rfl (by simp) ((by simpa using metA_put hy.1 hy.2)) ?_
         refine tv ?_
         refine CWp.region rfl ?_
         refine Walk.addI .none rfl rfl rfl (by first | (constructor <;> omega) | (constructor <;> simp <;> omega)) ?_
         refine mv ?_
         refine tv ?_
         refine ⟨(pre ++ [y], rest), ⟨(by have hz := hg2.1; rw [← hz]; simp), (nodup_snoc hg2.2 (by simp_all))⟩, (by simp), Sub.x (by kernel_rfl) (by kernel_rfl) ⟨⟨_, rfl, (LeA.eqi (by first | rfl | (simp; done) | (simp_all; done) | omega))⟩, trivial⟩ (by kernel_rfl) (by kernel_rfl) ⟨(by first | rfl | (simp [getH]; done)), trivial⟩⟩
       ·intro h18; have ⟨h18p, h18s⟩ := dup h18; try simp only [Q5] at h18s
        try simp only [Q, Pat.cs_len] at h18p
        have hrest : rest = [] := by
         rcases rest with _ | ⟨a, b⟩
         ·rfl
         ·exfalso; have hz := congrArg List.length (hg2.1); simp only [List.length_append, List.length_cons, List.length_map] at hz; omega
        subst hrest
        refine CWp.exit ?_
        refine sr ?_
        refine mv ?_
        refine asg ?_
        refine asg ?_
        refine tv ?_
        refine CWp.ret ?_
        refine ⟨_, _, [(950, some (.box [.d (.i (finV (scanK (scanP w n) (decide (p.op = 5)) (typesP w ⟨a, k⟩ p) p.kids 0 (nameP ⟨a, k⟩ p) (c + 1))).2)]))], (.cons (.tmp rfl) (.cons (.tmp rfl) .nil)), (.tup (.cons (.gld ?_) (.cons (.eqd ?_) .nil))), ⟨rfl, rfl⟩, (SubO.get ⟨.inr (by first | (show some (Res.box _) = some (Res.box _); rw [hg1.none hl (by omega) (by assumption)]; done) | (show some (Res.box _) = some (Res.box _); rw [hg1.bad hl (by omega) (by assumption) (by assumption) (by assumption)]; done) | (show some (Res.box _) = some (Res.box _); rw [hg1.fin hl (by omega)]; done)), ⟨.inl rfl, trivial⟩⟩), (boxOK rfl)⟩
        all_goals (first | (rw [hg1.none hl (by omega) (by assumption)]; first | done | rfl) | (rw [hg1.bad hl (by omega) (by assumption) (by assumption) (by assumption)]; first | done | rfl) | (rw [hg1.fin hl (by omega), if_neg (by rw [nodup_app hg2.1 (by assumption)]; simp)]; first | done | rfl) | (rw [hg1.fin hl (by omega), if_pos (by have hz := hg2.1; rw [List.append_nil] at hz; rw [← hz]; exact decide_eq_true hg2.2)]; first | done | rfl))
  ·have hopf : okP w ⟨a, k⟩ p = false := by simpa using hop
   have e : scanP w (n + 1) ⟨a, k⟩ p c = (none, c + 1) := by unfold scanP; rw [if_neg h60, if_neg hop]
   rw [e]
   rw [hopf] at hsh
   refine Fn.body (fn := Try.f138) (n := 114) rfl rfl rfl rfl rfl (fun w0 F0 own kept hk => ?_)
   refine sr ?_
   refine Walk.box (id := 3006) .none rfl rfl rfl rfl rfl rfl rfl ?_
   refine Walk.box (id := 3007) .none rfl rfl rfl rfl rfl rfl rfl ?_
   refine asg ?_
   refine asg ?_
   refine tv ?_
   refine sr ?_
   refine mv ?_
   refine Walk.nilCheck (.inl ⟨_, _, rfl⟩) .none rfl rfl ?_
   refine Walk.loadB ty3 .none rfl rfl rfl rfl ?_
   refine Walk.addI .none rfl rfl rfl (by first | (constructor <;> omega) | (constructor <;> simp <;> omega)) ?_
   refine Walk.nilCheck (.inl ⟨_, _, rfl⟩) .none rfl rfl ?_
   refine Walk.store ty3 .none rfl rfl rfl rfl rfl rfl (by simp) rfl ?_
   refine tv ?_
   refine CWp.seq ?_
   refine CWp.seq ?_
   refine CWp.regionJ ?_
   refine WRest.join 8 [(34, .d (.bool (false)))] [27, 28, 29, 30, 31, 32, 33] ?_ ?_
   ·
    refine mv ?_
    refine Walk.nilCheck (.inl ⟨_, _, rfl⟩) .none rfl rfl ?_
    refine Walk.loadB ty3 .none rfl rfl rfl rfl ?_
    refine Walk.gtI .none rfl rfl rfl ?_
    refine mv ?_
    refine sp 31 ?_ ?_
    ·intro h1; have ⟨h1p, h1s⟩ := dup h1; try simp only [Q5] at h1s
     try simp only [Q] at h1p
     refine ps h1 ?_
     refine ps h1 ?_
     refine Walk.pickT .none rfl rfl h1 rfl ?_
     exact ⟨trivial, Sub.x (by kernel_rfl) (by kernel_rfl) ⟨⟨_, rfl, (LeA.eqb (by first | rfl | (rw [Bool.eq_iff_iff]; (try simp only [BQ]) <;> first | omega | (simp_all; done) | (simp_all; omega))))⟩, trivial⟩ (by kernel_rfl) (by kernel_rfl) trivial⟩
    ·intro h1; have ⟨h1p, h1s⟩ := dup h1; try simp only [Q5] at h1s
     try simp only [Q] at h1p
     refine Walk.move (.some rfl rfl h1) rfl rfl ?_
     refine Walk.gtI (.some rfl rfl h1) rfl rfl rfl ?_
     refine Walk.pickF .none rfl rfl h1 rfl ?_
     exact ⟨trivial, Sub.x (by kernel_rfl) (by kernel_rfl) ⟨⟨_, rfl, (LeA.eqb (by first | rfl | (rw [Bool.eq_iff_iff]; (try simp only [BQ]) <;> first | omega | (simp_all; done) | (simp_all; omega))))⟩, trivial⟩ (by kernel_rfl) (by kernel_rfl) trivial⟩
   refine WRest.done ?_
   refine tv ?_
   refine cd ?_ ?_
   ·intro h2; have ⟨h2p, h2s⟩ := dup h2; try simp only [Q5] at h2s
    try simp only [Q] at h2p
    exact absurd h2 (by simp) --stop
   ·intro h2; have ⟨h2p, h2s⟩ := dup h2; try simp only [Q5] at h2s
    try simp only [Q] at h2p
    refine CWp.skip ?_
    refine sr ?_
    refine mv ?_
    refine Walk.loadBA ty38 .none rfl rfl rfl rfl ?_
    refine Walk.loadBA ty70 .none rfl rfl rfl rfl ?_
    refine Walk.call (cr := []) cal150 (hsh) rfl .none rfl rfl (LeL.refl _) trivial rfl rfl rfl ?_
    refine mv ?_
    refine Walk.extract .none rfl rfl rfl ?_
    refine Walk.extract .none rfl rfl rfl ?_
    refine asg ?_
    refine asg ?_
    refine tv ?_
    refine CWp.seq ?_
    refine sr ?_
    refine mv ?_
    refine Walk.not .none rfl rfl ?_
    refine tv ?_
    refine cd ?_ ?_
    ·intro h3; have ⟨h3p, h3s⟩ := dup h3; try simp only [Q5] at h3s
     try simp only [Q] at h3p
     refine sr ?_
     refine asg ?_
     refine asg ?_
     refine tv ?_
     refine CWp.ret ?_
     refine ⟨_, _, [(950, some (.box [.d (.i (c + 1))]))], (.cons (.tmp rfl) (.cons (.tmp rfl) .nil)), (.tup (.cons (.nild ?_) (.cons (.eqd ?_) .nil))), ⟨rfl, rfl⟩, (SubO.get ⟨.inr (by rfl), ⟨.inl rfl, trivial⟩⟩), (boxOK rfl)⟩
     all_goals (rfl)
    ·intro h3; have ⟨h3p, h3s⟩ := dup h3; try simp only [Q5] at h3s
     try simp only [Q] at h3p
     exact absurd h3 (by simp) --stop
end Go.Proofs.Ytadpcmcifbakoaa
