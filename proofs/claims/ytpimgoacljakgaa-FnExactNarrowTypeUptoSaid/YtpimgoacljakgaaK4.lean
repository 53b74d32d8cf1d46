/-
  THE LAW FnExactNarrowType: whatever the arguments of bulk at most 1048576 are, the call returns true, and the arguments read as before.
  Conditions: the bulk alone.
-/
import Derived.Test.YtpimgoacljakgaaK3
namespace Go.Proofs.Ytpimgoacljakgaa
open Go
set_option linter.unusedSimpArgs false
set_option linter.unusedVariables false
set_option maxRecDepth 100000
set_option maxHeartbeats 4000000
theorem impl_only_fn {p : Pat} {b1 b2 b3 : Bool} {k : Int} : FnD Try.prog 178 [.agg [.d (.i p.op), .d (.i p.ctor), .d (.i p.n), .d (.i p.m), .d (.i p.var), .d (encPats p.kids)], .d (.bool b1), .d (.bool b2), .d (.bool b3), .d (.i k)] []
  (.d (.bool (decide ((b1 = true ∨ p.ctor = 0) ∧ (b2 = true ∨ p.n = 0 ∧ p.m = 0) ∧ (b3 = true ∨ p.var = 0) ∧ (p.kids.length : Int) = k)))) [] := by
 refine bd Try.f178 45 [] [1] fun w0 F0 own kept hk => ?_
 refine Walk.box (id := 3005) .none rfl rfl rfl rfl rfl rfl rfl ?_
 refine ev ?_
 refine CWp.regionJ ?_
 refine WRest.join 6 [(16, .d (.bool (decide (b1 = true ∨ p.ctor = 0))))] [11, 12, 13, 14, 15] ?_ ?_
 ·
  refine ev ?_
  refine sq (fun h1 h1p h1s => ?_) fun h1 h1p h1s => ?_
  ·try simp only [Q, Pat.cs_len] at h1p
   exact jn rfl (LeA.eqb (by (first | rfl | (rw [Bool.eq_iff_iff]; simp_all [Pat.cs_len]; done))))
  ·try simp only [Q, Pat.cs_len] at h1p
   exact jn rfl (LeA.eqb (by (first | rfl | (rw [Bool.eq_iff_iff]; simp_all [Pat.cs_len]; done))))
 refine WRest.join 13 [(29, .d (.bool (decide ((b1 = true ∨ p.ctor = 0) ∧ (b2 = true ∨ p.n = 0 ∧ p.m = 0)))))] [17, 18, 19, 20, 21, 22, 23, 24, 25, 26, 27, 28] ?_ ?_
 ·
  refine ev ?_
  refine sq (fun h2 h2p h2s => ?_) fun h2 h2p h2s => ?_
  ·try simp only [Q, Pat.cs_len] at h2p
   refine sq (fun h3 h3p h3s => ?_) fun h3 h3p h3s => ?_
   ·try simp only [Q, Pat.cs_len] at h3p
    exact jn rfl (LeA.eqb (by (first | rfl | (rw [Bool.eq_iff_iff]; simp_all [Pat.cs_len]; done))))
   ·try simp only [Q, Pat.cs_len] at h3p
    refine sq (fun h4 h4p h4s => ?_) fun h4 h4p h4s => ?_
    ·try simp only [Q, Pat.cs_len] at h4p
     exact jn rfl (LeA.eqb (by (first | rfl | (rw [Bool.eq_iff_iff]; simp_all [Pat.cs_len]; done))))
    ·try simp only [Q, Pat.cs_len] at h4p
     exact jn rfl (LeA.eqb (by (first | rfl | (rw [Bool.eq_iff_iff]; simp_all [Pat.cs_len]; done))))
  ·try simp only [Q, Pat.cs_len] at h2p
   exact jn rfl (LeA.eqb (by (first | rfl | (rw [Bool.eq_iff_iff]; simp_all [Pat.cs_len]; done))))
 refine WRest.join 8 [(37, .d (.bool (decide ((b1 = true ∨ p.ctor = 0) ∧ (b2 = true ∨ p.n = 0 ∧ p.m = 0) ∧ (b3 = true ∨ p.var = 0)))))] [30, 31, 32, 33, 34, 35, 36] ?_ ?_
 ·
  refine ev ?_
  refine sq (fun h5 h5p h5s => ?_) fun h5 h5p h5s => ?_
  ·try simp only [Q, Pat.cs_len] at h5p
   refine sq (fun h6 h6p h6s => ?_) fun h6 h6p h6s => ?_
   ·try simp only [Q, Pat.cs_len] at h6p
    exact jn rfl (LeA.eqb (by (first | rfl | (rw [Bool.eq_iff_iff]; simp_all [Pat.cs_len]; done))))
   ·try simp only [Q, Pat.cs_len] at h6p
    exact jn rfl (LeA.eqb (by (first | rfl | (rw [Bool.eq_iff_iff]; simp_all [Pat.cs_len]; done))))
  ·try simp only [Q, Pat.cs_len] at h5p
   exact jn rfl (LeA.eqb (by (first | rfl | (rw [Bool.eq_iff_iff]; simp_all [Pat.cs_len]; done))))
 refine WRest.join 7 [(44, .d (.bool (decide ((b1 = true ∨ p.ctor = 0) ∧ (b2 = true ∨ p.n = 0 ∧ p.m = 0) ∧ (b3 = true ∨ p.var = 0) ∧ (p.kids.length : Int) = k))))] [38, 39, 40, 41, 42, 43] ?_ ?_
 ·
  refine ev ?_
  refine sq (fun h7 h7p h7s => ?_) fun h7 h7p h7s => ?_
  ·try simp only [Q, Pat.cs_len] at h7p
   exact jn rfl (LeA.eqb (by (first | rfl | (rw [Bool.eq_iff_iff]; simp_all [Pat.cs_len]; done))))
  ·try simp only [Q, Pat.cs_len] at h7p
   exact jn rfl (LeA.eqb (by (first | rfl | (rw [Bool.eq_iff_iff]; simp_all [Pat.cs_len]; done))))
 refine WRest.done ?_
 refine ev ?_
 refine rn0 (r1 rfl) (.eqd ?_)
 all_goals (rfl)
theorem impl_only_a {p : Pat} {k : Int} : FnD Try.prog 178 [.agg [.d (.i p.op), .d (.i p.ctor), .d (.i p.n), .d (.i p.m), .d (.i p.var), .d (encPats p.kids)], .d (.bool false), .d (.bool false), .d (.bool false), .d (.i k)] []
  (.d (.bool (decide (p.ctor = 0 ∧ (p.n = 0 ∧ p.m = 0) ∧ p.var = 0 ∧ (p.kids.length : Int) = k)))) [] := by
 have := impl_only_fn (p := p) (b1 := false) (b2 := false) (b3 := false) (k := k)
 simpa only [Bool.false_eq_true, false_or] using this
theorem impl_only_v {p : Pat} {k : Int} : FnD Try.prog 178 [.agg [.d (.i p.op), .d (.i p.ctor), .d (.i p.n), .d (.i p.m), .d (.i p.var), .d (encPats p.kids)], .d (.bool false), .d (.bool false), .d (.bool true), .d (.i k)] []
  (.d (.bool (decide (p.ctor = 0 ∧ (p.n = 0 ∧ p.m = 0) ∧ (p.kids.length : Int) = k)))) [] := by
 have := impl_only_fn (p := p) (b1 := false) (b2 := false) (b3 := true) (k := k)
 simpa only [Bool.false_eq_true, false_or, true_or, true_and] using this
theorem impl_only_n {p : Pat} {k : Int} : FnD Try.prog 178 [.agg [.d (.i p.op), .d (.i p.ctor), .d (.i p.n), .d (.i p.m), .d (.i p.var), .d (encPats p.kids)], .d (.bool false), .d (.bool true), .d (.bool false), .d (.i k)] []
  (.d (.bool (decide (p.ctor = 0 ∧ p.var = 0 ∧ (p.kids.length : Int) = k)))) [] := by
 have := impl_only_fn (p := p) (b1 := false) (b2 := true) (b3 := false) (k := k)
 simpa only [Bool.false_eq_true, false_or, true_or, true_and] using this
theorem impl_only_c {p : Pat} {k : Int} : FnD Try.prog 178 [.agg [.d (.i p.op), .d (.i p.ctor), .d (.i p.n), .d (.i p.m), .d (.i p.var), .d (encPats p.kids)], .d (.bool true), .d (.bool false), .d (.bool false), .d (.i k)] []
  (.d (.bool (decide ((p.n = 0 ∧ p.m = 0) ∧ p.var = 0 ∧ (p.kids.length : Int) = k)))) [] := by
 have := impl_only_fn (p := p) (b1 := true) (b2 := false) (b3 := false) (k := k)
 simpa only [Bool.false_eq_true, false_or, true_or, true_and] using this
theorem impl_isVar_fn {v : Int} : FnD Try.prog 179 [.d (.i v)] [] (.d (.bool (within v 0 5))) [] := by
 refine bd Try.f179 5 [] [] fun w0 F0 own kept hk => ?_
 refine Walk.call (cr := []) cal54 (impl_within_fn) rfl .none rfl rfl (LeL.refl _) trivial rfl rfl rfl ?_
 refine ev ?_
 refine rn0 (r1 rfl) (.eqd ?_)
 all_goals (rfl)
theorem impl_ctorsOf_v {w : List Data} (hw : WT w) {a k : Int} (ht : TyIn w.length ⟨a, k⟩) : FnD Try.prog 128 [.d (encDatas w), .agg [.d (.i a), .d (.i k)]] [] (.d (encInts (vctors w ⟨a, k⟩))) [] := by
 rcases ht with ha | ⟨d, hd, hlt⟩
 ·simp only at ha; subst ha; rw [vctors_int]; exact impl_ctorsOf_int_fn
 ·simp only at hd; subst hd; rw [vctors_in]; exact impl_ctorsOf_in hw hlt
theorem impl_argTypes_v {w : List Data} (hw : WT w) {a k c : Int} (ht : TyIn w.length ⟨a, k⟩) (hc : c ∈ vctors w ⟨a, k⟩) : FnD Try.prog 129 [.d (encDatas w), .agg [.d (.i a), .d (.i k)], .d (.i c)] [] (.d (encTys (argsOf w ⟨a, k⟩ c))) [] := by
 obtain ⟨d, rfl, h1, h2⟩ := vctors_data ht hc
 exact impl_argTypes_in hw h1 h2
theorem impl_shape_fn {w : List Data} (hw : WT w) {a k : Int} {p : Pat} (ht : TyIn w.length ⟨a, k⟩) :
  FnD Try.prog 166 [.d (encDatas w), .agg [.d (.i a), .d (.i k)], .agg [.d (.i p.op), .d (.i p.ctor), .d (.i p.n), .d (.i p.m), .d (.i p.var), .d (encPats p.kids)]] [] (.tup [.d (encTys (shapeT w ⟨a, k⟩ p)), .d (.bool (okP w ⟨a, k⟩ p))]) [] := by
 have hcl := vctors_len hw ht
 have ty4 : p.op = 4 → p.ctor ∉ vctors w ⟨a, k⟩ → shapeT w ⟨a, k⟩ p = [] := fun h4 hm => by unfold shapeT; rw [if_pos ⟨h4, hm⟩]
 have ty4' : p.op = 4 → p.ctor ∈ vctors w ⟨a, k⟩ → shapeT w ⟨a, k⟩ p = argsOf w ⟨a, k⟩ p.ctor := fun h4 hm => by unfold shapeT typesP; rw [if_neg (fun h => h.2 hm), if_pos h4]
 have ty5 : p.op = 5 → shapeT w ⟨a, k⟩ p = [⟨a, k⟩, ⟨a, k⟩] := fun h5 => by unfold shapeT typesP; rw [if_neg (by omega), if_neg (by omega), if_pos h5]
 have ty6 : p.op = 6 → shapeT w ⟨a, k⟩ p = [⟨a, k⟩] := fun h6 => by unfold shapeT typesP; rw [if_neg (by omega), if_neg (by omega), if_neg (by omega), if_pos h6]
 have ty0 : ¬ p.op = 4 → ¬ p.op = 5 → ¬ p.op = 6 → shapeT w ⟨a, k⟩ p = [] := fun h4 h5 h6 => by unfold shapeT typesP; rw [if_neg (fun h => h4 h.1), if_neg h4, if_neg h5, if_neg h6]
 have ln4 : p.op = 4 → (typesP w ⟨a, k⟩ p).length = (argsOf w ⟨a, k⟩ p.ctor).length := fun h4 => by unfold typesP; rw [if_pos h4]
 have ln5 : p.op = 5 → (typesP w ⟨a, k⟩ p).length = 2 := fun h5 => by unfold typesP; rw [if_neg (by omega), if_pos h5]; rfl
 have ln6 : p.op = 6 → (typesP w ⟨a, k⟩ p).length = 1 := fun h6 => by unfold typesP; rw [if_neg (by omega), if_neg (by omega), if_pos h6]; rfl
 have ln0 : ¬ p.op = 4 → ¬ p.op = 5 → ¬ p.op = 6 → (typesP w ⟨a, k⟩ p).length = 0 := fun h4 h5 h6 => by unfold typesP; rw [if_neg h4, if_neg h5, if_neg h6]; rfl
 have okI : ∀ b : Bool, (b = true ↔ ((((p.op = 2 ∨ p.op = 6) → 0 ≤ p.var ∧ p.var ≤ 5) ∧ (¬ (p.op = 2 ∨ p.op = 6) → p.var = 0) ∧ (p.op ≠ 3 → p.n = 0 ∧ p.m = 0) ∧ (p.op ≠ 4 → p.ctor = 0) ∧
   (p.op = 1 ∨ p.op = 2 ∨ p.op = 5 ∨ p.op = 6 ∨ (p.op = 3 ∧ a = -1 ∧ 0 ≤ p.n ∧ p.n ≤ p.m ∧ p.m ≤ 9) ∨ (p.op = 4 ∧ p.ctor ∈ vctors w ⟨a, k⟩))) ∧ p.kids.length = (typesP w ⟨a, k⟩ p).length)) → b = okP w ⟨a, k⟩ p := fun b h => by
  rw [Bool.eq_iff_iff, h]; unfold okP ownP; simp only [Bool.and_eq_true, decide_eq_true_eq]
 by_cases hmem : p.ctor ∈ vctors w ⟨a, k⟩
 ·have hargs := impl_argTypes_v hw ht hmem
  have hal : (argsOf w ⟨a, k⟩ p.ctor).length ≤ 1000000000000 := by
   obtain ⟨d, rfl, h1, h2⟩ := vctors_data ht hmem
   exact argsOf_len hw h1 h2
  simp only [hmem, and_true] at okI
  refine bd Try.f166 87 [] [5] fun w0 F0 own kept hk => ?_
  refine Walk.box (id := 3004) .none rfl rfl rfl rfl rfl rfl rfl ?_
  refine Walk.box (id := 3005) .none rfl rfl rfl rfl rfl rfl rfl ?_
  refine ev ?_
  refine sq (fun h1 h1p h1s => ?_) fun h1 h1p h1s => ?_
  ·try simp only [Q] at h1p
   refine Walk.call (cr := []) cal178 (impl_only_a) rfl .none rfl rfl (LeL.refl _) trivial rfl rfl rfl ?_
   refine ev ?_
   refine rn0 (r2 rfl rfl) (.tup (.cons (.nild ?_) (.cons (.eqd ?_) .nil)))
   all_goals (first | (refine congrArg D.bool (okI _ ?_); (try simp only [decide_eq_true_eq, Bool.false_eq_true, within, Bool.and_eq_true, List.length_map, true_iff, false_iff]); omega) | (rw [ty0 (by omega) (by omega) (by omega)]; first | done | rfl) | (rw [ty5 (by omega)]; first | done | rfl) | (rw [ty6 (by omega)]; first | done | rfl) | (rw [ty4' (by omega) hmem]; first | done | rfl))
  ·try simp only [Q] at h1p
   refine sq (fun h2 h2p h2s => ?_) fun h2 h2p h2s => ?_
   ·try simp only [Q] at h2p
    refine CWp.regionJ ?_
    refine WRest.join 7 [(23, .d (.bool (decide ((p.ctor = 0 ∧ (p.n = 0 ∧ p.m = 0) ∧ (p.kids.length : Int) = 0) ∧ 0 ≤ p.var ∧ p.var ≤ 5))))] [17, 18, 19, 20, 21, 22] ?_ ?_
    ·
     refine ev ?_
     refine Walk.call (cr := []) cal178 (impl_only_v) rfl .none rfl rfl (LeL.refl _) trivial rfl rfl rfl ?_
     refine ev ?_
     refine sq (fun h3 h3p h3s => ?_) fun h3 h3p h3s => ?_
     ·try simp only [Q] at h3p
      refine Walk.call (cr := []) cal179 (impl_isVar_fn) rfl (.some rfl rfl h3) rfl rfl (LeL.refl _) trivial rfl rfl rfl ?_
      refine evs [] [(19, true)] ?_ ⟨⟨_, rfl, h3⟩, trivial⟩
      exact jn rfl (LeA.eqb (by (rw [Bool.eq_iff_iff]; simp only [decide_eq_true_eq, within, Bool.and_eq_true, Bool.false_eq_true, false_iff, true_iff]; omega)))
     ·try simp only [Q] at h3p
      exact jn rfl (LeA.eqb (by (rw [Bool.eq_iff_iff]; simp only [decide_eq_true_eq, within, Bool.and_eq_true, Bool.false_eq_true, false_iff, true_iff]; omega)))
    refine WRest.done ?_
    refine ev ?_
    refine rn0 (r2 rfl rfl) (.tup (.cons (.nild ?_) (.cons (.eqd ?_) .nil)))
    all_goals (first | (refine congrArg D.bool (okI _ ?_); (try simp only [decide_eq_true_eq, Bool.false_eq_true, within, Bool.and_eq_true, List.length_map, true_iff, false_iff]); omega) | (rw [ty0 (by omega) (by omega) (by omega)]; first | done | rfl) | (rw [ty5 (by omega)]; first | done | rfl) | (rw [ty6 (by omega)]; first | done | rfl) | (rw [ty4' (by omega) hmem]; first | done | rfl))
   ·try simp only [Q] at h2p
    refine sq (fun h4 h4p h4s => ?_) fun h4 h4p h4s => ?_
    ·try simp only [Q] at h4p
     refine sq (fun h5 h5p h5s => ?_) fun h5 h5p h5s => ?_
     ·try simp only [Q] at h5p
      refine Walk.call (cr := []) cal178 (impl_only_n) rfl (.some rfl rfl h5) rfl rfl (LeL.refl _) trivial rfl rfl rfl ?_
      refine evd [] [(29, true)] ?_ ⟨⟨_, rfl, h5⟩, trivial⟩
      refine sq (fun h6 h6p h6s => ?_) fun h6 h6p h6s => ?_
      ·try simp only [Q] at h6p
       refine sq (fun h7 h7p h7s => ?_) fun h7 h7p h7s => ?_
       ·try simp only [Q] at h7p
        refine sq (fun h8 h8p h8s => ?_) fun h8 h8p h8s => ?_
        ·try simp only [Q] at h8p
         refine dr ?_
         refine rn0 (r2 rfl rfl) (.tup (.cons (.nild ?_) (.cons (.eqd ?_) .nil)))
         all_goals (first | (refine congrArg D.bool (okI _ ?_); (try simp only [decide_eq_true_eq, Bool.false_eq_true, within, Bool.and_eq_true, List.length_map, true_iff, false_iff]); omega) | (rw [ty0 (by omega) (by omega) (by omega)]; first | done | rfl) | (rw [ty5 (by omega)]; first | done | rfl) | (rw [ty6 (by omega)]; first | done | rfl) | (rw [ty4' (by omega) hmem]; first | done | rfl))
        ·try simp only [Q] at h8p
         refine dr ?_
         refine rn0 (r2 rfl rfl) (.tup (.cons (.nild ?_) (.cons (.eqd ?_) .nil)))
         all_goals (first | (refine congrArg D.bool (okI _ ?_); (try simp only [decide_eq_true_eq, Bool.false_eq_true, within, Bool.and_eq_true, List.length_map, true_iff, false_iff]); omega) | (rw [ty0 (by omega) (by omega) (by omega)]; first | done | rfl) | (rw [ty5 (by omega)]; first | done | rfl) | (rw [ty6 (by omega)]; first | done | rfl) | (rw [ty4' (by omega) hmem]; first | done | rfl))
       ·try simp only [Q] at h7p
        refine sqF ?_
        refine dr ?_
        refine rn0 (r2 rfl rfl) (.tup (.cons (.nild ?_) (.cons (.eqd ?_) .nil)))
        all_goals (first | (refine congrArg D.bool (okI _ ?_); (try simp only [decide_eq_true_eq, Bool.false_eq_true, within, Bool.and_eq_true, List.length_map, true_iff, false_iff]); omega) | (rw [ty0 (by omega) (by omega) (by omega)]; first | done | rfl) | (rw [ty5 (by omega)]; first | done | rfl) | (rw [ty6 (by omega)]; first | done | rfl) | (rw [ty4' (by omega) hmem]; first | done | rfl))
      ·try simp only [Q] at h6p
       refine sqF ?_
       refine sqF ?_
       refine dr ?_
       refine rn0 (r2 rfl rfl) (.tup (.cons (.nild ?_) (.cons (.eqd ?_) .nil)))
       all_goals (first | (refine congrArg D.bool (okI _ ?_); (try simp only [decide_eq_true_eq, Bool.false_eq_true, within, Bool.and_eq_true, List.length_map, true_iff, false_iff]); omega) | (rw [ty0 (by omega) (by omega) (by omega)]; first | done | rfl) | (rw [ty5 (by omega)]; first | done | rfl) | (rw [ty6 (by omega)]; first | done | rfl) | (rw [ty4' (by omega) hmem]; first | done | rfl))
     ·try simp only [Q] at h5p
      refine sqF ?_
      refine sqF ?_
      refine sqF ?_
      refine dr ?_
      refine rn0 (r2 rfl rfl) (.tup (.cons (.nild ?_) (.cons (.eqd ?_) .nil)))
      all_goals (first | (refine congrArg D.bool (okI _ ?_); (try simp only [decide_eq_true_eq, Bool.false_eq_true, within, Bool.and_eq_true, List.length_map, true_iff, false_iff]); omega) | (rw [ty0 (by omega) (by omega) (by omega)]; first | done | rfl) | (rw [ty5 (by omega)]; first | done | rfl) | (rw [ty6 (by omega)]; first | done | rfl) | (rw [ty4' (by omega) hmem]; first | done | rfl))
    ·try simp only [Q] at h4p
     refine sq (fun h9 h9p h9s => ?_) fun h9 h9p h9s => ?_
     ·try simp only [Q] at h9p
      refine Walk.call (cr := []) cal128 (impl_ctorsOf_v hw ht) rfl .none rfl rfl (LeL.refl _) trivial rfl rfl rfl ?_
      refine evd [] [] ?_
      refine Walk.call (cr := []) cal127 (slices_Contains_int_fn hcl) rfl .none rfl rfl (LeL.refl _) trivial rfl rfl rfl ?_
      refine evd [] [] ?_
      refine dr ?_
      refine sq (fun h10 h10p h10s => ?_) fun h10 h10p h10s => ?_
      ·try simp only [Q] at h10p
       exfalso; simp_all --stop
      ·try simp only [Q] at h10p
       refine Walk.call (cr := []) cal129 (hargs) rfl .none rfl rfl (LeL.refl _) trivial rfl rfl rfl ?_
       refine ev ?_
       refine Walk.call (cr := []) cal178 (impl_only_c) rfl .none rfl rfl (LeL.refl _) trivial rfl rfl rfl ?_
       refine ev ?_
       refine rn0 (r2 rfl rfl) (.tup (.cons (.eqd ?_) (.cons (.eqd ?_) .nil)))
       all_goals (first | (refine congrArg D.bool (okI _ ?_); (try simp only [decide_eq_true_eq, Bool.false_eq_true, within, Bool.and_eq_true, List.length_map, true_iff, false_iff]); omega) | (rw [ty0 (by omega) (by omega) (by omega)]; first | done | rfl) | (rw [ty5 (by omega)]; first | done | rfl) | (rw [ty6 (by omega)]; first | done | rfl) | (rw [ty4' (by omega) hmem]; first | done | rfl))
     ·try simp only [Q] at h9p
      refine sq (fun h11 h11p h11s => ?_) fun h11 h11p h11s => ?_
      ·try simp only [Q] at h11p
       refine Walk.sliceLit sl25 tz31 rfl (by decide) (ks := [0, 1]) (xs := [_, _]) rfl rfl (by decide) (by decide) .none rfl rfl rfl rfl ?_
       refine evd [] [] ?_
       refine Walk.call (cr := []) cal178 (impl_only_a) rfl .none rfl rfl (LeL.refl _) trivial rfl rfl rfl ?_
       refine evd [] [] ?_
       refine dr ?_
       refine rn0 (r2 rfl rfl) (.tup (.cons (.eqd ?_) (.cons (.eqd ?_) .nil)))
       all_goals (first | (refine congrArg D.bool (okI _ ?_); (try simp only [decide_eq_true_eq, Bool.false_eq_true, within, Bool.and_eq_true, List.length_map, true_iff, false_iff]); omega) | (rw [ty0 (by omega) (by omega) (by omega)]; first | done | rfl) | (rw [ty5 (by omega)]; first | done | rfl) | (rw [ty6 (by omega)]; first | done | rfl) | (rw [ty4' (by omega) hmem]; first | done | rfl))
      ·try simp only [Q] at h11p
       refine sq (fun h12 h12p h12s => ?_) fun h12 h12p h12s => ?_
       ·try simp only [Q] at h12p
        refine Walk.sliceLit sl25 tz31 rfl (by decide) (ks := [0]) (xs := [_]) rfl rfl (by decide) (by decide) .none rfl rfl rfl rfl ?_
        refine evd [] [] ?_
        refine Walk.call (cr := []) cal178 (impl_only_v) rfl .none rfl rfl (LeL.refl _) trivial rfl rfl rfl ?_
        refine evd [] [] ?_
        refine sq (fun h13 h13p h13s => ?_) fun h13 h13p h13s => ?_
        ·try simp only [Q] at h13p
         refine Walk.call (cr := []) cal179 (impl_isVar_fn) rfl (.some rfl rfl h13) rfl rfl (LeL.refl _) trivial rfl rfl rfl ?_
         refine evd [] [(82, true)] ?_ ⟨⟨_, rfl, h13⟩, trivial⟩
         refine dr ?_
         refine rn0 (r2 rfl rfl) (.tup (.cons (.eqd ?_) (.cons (.eqd ?_) .nil)))
         all_goals (first | (refine congrArg D.bool (okI _ ?_); (try simp only [decide_eq_true_eq, Bool.false_eq_true, within, Bool.and_eq_true, List.length_map, true_iff, false_iff]); omega) | (rw [ty0 (by omega) (by omega) (by omega)]; first | done | rfl) | (rw [ty5 (by omega)]; first | done | rfl) | (rw [ty6 (by omega)]; first | done | rfl) | (rw [ty4' (by omega) hmem]; first | done | rfl))
        ·try simp only [Q] at h13p
         refine dr ?_
         refine rn0 (r2 rfl rfl) (.tup (.cons (.eqd ?_) (.cons (.eqd ?_) .nil)))
         all_goals (first | (refine congrArg D.bool (okI _ ?_); (try simp only [decide_eq_true_eq, Bool.false_eq_true, within, Bool.and_eq_true, List.length_map, true_iff, false_iff]); omega) | (rw [ty0 (by omega) (by omega) (by omega)]; first | done | rfl) | (rw [ty5 (by omega)]; first | done | rfl) | (rw [ty6 (by omega)]; first | done | rfl) | (rw [ty4' (by omega) hmem]; first | done | rfl))
       ·try simp only [Q] at h12p
        refine rn0 (r2 rfl rfl) (.tup (.cons (.nild ?_) (.cons (.eqd ?_) .nil)))
        all_goals (first | (refine congrArg D.bool (okI _ ?_); (try simp only [decide_eq_true_eq, Bool.false_eq_true, within, Bool.and_eq_true, List.length_map, true_iff, false_iff]); omega) | (rw [ty0 (by omega) (by omega) (by omega)]; first | done | rfl) | (rw [ty5 (by omega)]; first | done | rfl) | (rw [ty6 (by omega)]; first | done | rfl) | (rw [ty4' (by omega) hmem]; first | done | rfl))
 ·simp only [hmem, and_false, or_false] at okI
  refine bd Try.f166 87 [] [5] fun w0 F0 own kept hk => ?_
  refine Walk.box (id := 3004) .none rfl rfl rfl rfl rfl rfl rfl ?_
  refine Walk.box (id := 3005) .none rfl rfl rfl rfl rfl rfl rfl ?_
  refine ev ?_
  refine sq (fun h1 h1p h1s => ?_) fun h1 h1p h1s => ?_
  ·try simp only [Q] at h1p
   refine Walk.call (cr := []) cal178 (impl_only_a) rfl .none rfl rfl (LeL.refl _) trivial rfl rfl rfl ?_
   refine ev ?_
   refine rn0 (r2 rfl rfl) (.tup (.cons (.nild ?_) (.cons (.eqd ?_) .nil)))
   all_goals (first | (refine congrArg D.bool (okI _ ?_); (try simp only [decide_eq_true_eq, Bool.false_eq_true, within, Bool.and_eq_true, List.length_map, true_iff, false_iff]); omega) | (rw [ty0 (by omega) (by omega) (by omega)]; first | done | rfl) | (rw [ty5 (by omega)]; first | done | rfl) | (rw [ty6 (by omega)]; first | done | rfl) | (rw [ty4 (by omega) hmem]; first | done | rfl))
  ·try simp only [Q] at h1p
   refine sq (fun h2 h2p h2s => ?_) fun h2 h2p h2s => ?_
   ·try simp only [Q] at h2p
    refine CWp.regionJ ?_
    refine WRest.join 7 [(23, .d (.bool (decide ((p.ctor = 0 ∧ (p.n = 0 ∧ p.m = 0) ∧ (p.kids.length : Int) = 0) ∧ 0 ≤ p.var ∧ p.var ≤ 5))))] [17, 18, 19, 20, 21, 22] ?_ ?_
    ·
     refine ev ?_
     refine Walk.call (cr := []) cal178 (impl_only_v) rfl .none rfl rfl (LeL.refl _) trivial rfl rfl rfl ?_
     refine ev ?_
     refine sq (fun h3 h3p h3s => ?_) fun h3 h3p h3s => ?_
     ·try simp only [Q] at h3p
      refine Walk.call (cr := []) cal179 (impl_isVar_fn) rfl (.some rfl rfl h3) rfl rfl (LeL.refl _) trivial rfl rfl rfl ?_
      refine evs [] [(19, true)] ?_ ⟨⟨_, rfl, h3⟩, trivial⟩
      exact jn rfl (LeA.eqb (by (rw [Bool.eq_iff_iff]; simp only [decide_eq_true_eq, within, Bool.and_eq_true, Bool.false_eq_true, false_iff, true_iff]; omega)))
     ·try simp only [Q] at h3p
      exact jn rfl (LeA.eqb (by (rw [Bool.eq_iff_iff]; simp only [decide_eq_true_eq, within, Bool.and_eq_true, Bool.false_eq_true, false_iff, true_iff]; omega)))
    refine WRest.done ?_
    refine ev ?_
    refine rn0 (r2 rfl rfl) (.tup (.cons (.nild ?_) (.cons (.eqd ?_) .nil)))
    all_goals (first | (refine congrArg D.bool (okI _ ?_); (try simp only [decide_eq_true_eq, Bool.false_eq_true, within, Bool.and_eq_true, List.length_map, true_iff, false_iff]); omega) | (rw [ty0 (by omega) (by omega) (by omega)]; first | done | rfl) | (rw [ty5 (by omega)]; first | done | rfl) | (rw [ty6 (by omega)]; first | done | rfl) | (rw [ty4 (by omega) hmem]; first | done | rfl))
   ·try simp only [Q] at h2p
    refine sq (fun h4 h4p h4s => ?_) fun h4 h4p h4s => ?_
    ·try simp only [Q] at h4p
     refine sq (fun h5 h5p h5s => ?_) fun h5 h5p h5s => ?_
     ·try simp only [Q] at h5p
      refine Walk.call (cr := []) cal178 (impl_only_n) rfl (.some rfl rfl h5) rfl rfl (LeL.refl _) trivial rfl rfl rfl ?_
      refine evd [] [(29, true)] ?_ ⟨⟨_, rfl, h5⟩, trivial⟩
      refine sq (fun h6 h6p h6s => ?_) fun h6 h6p h6s => ?_
      ·try simp only [Q] at h6p
       refine sq (fun h7 h7p h7s => ?_) fun h7 h7p h7s => ?_
       ·try simp only [Q] at h7p
        refine sq (fun h8 h8p h8s => ?_) fun h8 h8p h8s => ?_
        ·try simp only [Q] at h8p
         refine dr ?_
         refine rn0 (r2 rfl rfl) (.tup (.cons (.nild ?_) (.cons (.eqd ?_) .nil)))
         all_goals (first | (refine congrArg D.bool (okI _ ?_); (try simp only [decide_eq_true_eq, Bool.false_eq_true, within, Bool.and_eq_true, List.length_map, true_iff, false_iff]); omega) | (rw [ty0 (by omega) (by omega) (by omega)]; first | done | rfl) | (rw [ty5 (by omega)]; first | done | rfl) | (rw [ty6 (by omega)]; first | done | rfl) | (rw [ty4 (by omega) hmem]; first | done | rfl))
        ·try simp only [Q] at h8p
         refine dr ?_
         refine rn0 (r2 rfl rfl) (.tup (.cons (.nild ?_) (.cons (.eqd ?_) .nil)))
         all_goals (first | (refine congrArg D.bool (okI _ ?_); (try simp only [decide_eq_true_eq, Bool.false_eq_true, within, Bool.and_eq_true, List.length_map, true_iff, false_iff]); omega) | (rw [ty0 (by omega) (by omega) (by omega)]; first | done | rfl) | (rw [ty5 (by omega)]; first | done | rfl) | (rw [ty6 (by omega)]; first | done | rfl) | (rw [ty4 (by omega) hmem]; first | done | rfl))
       ·try simp only [Q] at h7p
        refine sqF ?_
        refine dr ?_
        refine rn0 (r2 rfl rfl) (.tup (.cons (.nild ?_) (.cons (.eqd ?_) .nil)))
        all_goals (first | (refine congrArg D.bool (okI _ ?_); (try simp only [decide_eq_true_eq, Bool.false_eq_true, within, Bool.and_eq_true, List.length_map, true_iff, false_iff]); omega) | (rw [ty0 (by omega) (by omega) (by omega)]; first | done | rfl) | (rw [ty5 (by omega)]; first | done | rfl) | (rw [ty6 (by omega)]; first | done | rfl) | (rw [ty4 (by omega) hmem]; first | done | rfl))
      ·try simp only [Q] at h6p
       refine sqF ?_
       refine sqF ?_
       refine dr ?_
       refine rn0 (r2 rfl rfl) (.tup (.cons (.nild ?_) (.cons (.eqd ?_) .nil)))
       all_goals (first | (refine congrArg D.bool (okI _ ?_); (try simp only [decide_eq_true_eq, Bool.false_eq_true, within, Bool.and_eq_true, List.length_map, true_iff, false_iff]); omega) | (rw [ty0 (by omega) (by omega) (by omega)]; first | done | rfl) | (rw [ty5 (by omega)]; first | done | rfl) | (rw [ty6 (by omega)]; first | done | rfl) | (rw [ty4 (by omega) hmem]; first | done | rfl))
     ·try simp only [Q] at h5p
      refine sqF ?_
      refine sqF ?_
      refine sqF ?_
      refine dr ?_
      refine rn0 (r2 rfl rfl) (.tup (.cons (.nild ?_) (.cons (.eqd ?_) .nil)))
      all_goals (first | (refine congrArg D.bool (okI _ ?_); (try simp only [decide_eq_true_eq, Bool.false_eq_true, within, Bool.and_eq_true, List.length_map, true_iff, false_iff]); omega) | (rw [ty0 (by omega) (by omega) (by omega)]; first | done | rfl) | (rw [ty5 (by omega)]; first | done | rfl) | (rw [ty6 (by omega)]; first | done | rfl) | (rw [ty4 (by omega) hmem]; first | done | rfl))
    ·try simp only [Q] at h4p
     refine sq (fun h9 h9p h9s => ?_) fun h9 h9p h9s => ?_
     ·try simp only [Q] at h9p
      refine Walk.call (cr := []) cal128 (impl_ctorsOf_v hw ht) rfl .none rfl rfl (LeL.refl _) trivial rfl rfl rfl ?_
      refine evd [] [] ?_
      refine Walk.call (cr := []) cal127 (slices_Contains_int_fn hcl) rfl .none rfl rfl (LeL.refl _) trivial rfl rfl rfl ?_
      refine evd [] [] ?_
      refine dr ?_
      refine sq (fun h10 h10p h10s => ?_) fun h10 h10p h10s => ?_
      ·try simp only [Q] at h10p
       refine rn0 (r2 rfl rfl) (.tup (.cons (.nild ?_) (.cons (.eqd ?_) .nil)))
       all_goals (first | (refine congrArg D.bool (okI _ ?_); (try simp only [decide_eq_true_eq, Bool.false_eq_true, within, Bool.and_eq_true, List.length_map, true_iff, false_iff]); omega) | (rw [ty0 (by omega) (by omega) (by omega)]; first | done | rfl) | (rw [ty5 (by omega)]; first | done | rfl) | (rw [ty6 (by omega)]; first | done | rfl) | (rw [ty4 (by omega) hmem]; first | done | rfl))
      ·try simp only [Q] at h10p
       exfalso; simp_all --stop
     ·try simp only [Q] at h9p
      refine sq (fun h11 h11p h11s => ?_) fun h11 h11p h11s => ?_
      ·try simp only [Q] at h11p
       refine Walk.sliceLit sl25 tz31 rfl (by decide) (ks := [0, 1]) (xs := [_, _]) rfl rfl (by decide) (by decide) .none rfl rfl rfl rfl ?_
       refine evd [] [] ?_
       refine Walk.call (cr := []) cal178 (impl_only_a) rfl .none rfl rfl (LeL.refl _) trivial rfl rfl rfl ?_
       refine evd [] [] ?_
       refine dr ?_
       refine rn0 (r2 rfl rfl) (.tup (.cons (.eqd ?_) (.cons (.eqd ?_) .nil)))
       all_goals (first | (refine congrArg D.bool (okI _ ?_); (try simp only [decide_eq_true_eq, Bool.false_eq_true, within, Bool.and_eq_true, List.length_map, true_iff, false_iff]); omega) | (rw [ty0 (by omega) (by omega) (by omega)]; first | done | rfl) | (rw [ty5 (by omega)]; first | done | rfl) | (rw [ty6 (by omega)]; first | done | rfl) | (rw [ty4 (by omega) hmem]; first | done | rfl))
      ·try simp only [Q] at h11p
       refine sq (fun h12 h12p h12s => ?_) fun h12 h12p h12s => ?_
       ·try simp only [Q] at h12p
        refine Walk.sliceLit sl25 tz31 rfl (by decide) (ks := [0]) (xs := [_]) rfl rfl (by decide) (by decide) .none rfl rfl rfl rfl ?_
        refine evd [] [] ?_
        refine Walk.call (cr := []) cal178 (impl_only_v) rfl .none rfl rfl (LeL.refl _) trivial rfl rfl rfl ?_
        refine evd [] [] ?_
        refine sq (fun h13 h13p h13s => ?_) fun h13 h13p h13s => ?_
        ·try simp only [Q] at h13p
         refine Walk.call (cr := []) cal179 (impl_isVar_fn) rfl (.some rfl rfl h13) rfl rfl (LeL.refl _) trivial rfl rfl rfl ?_
         refine evd [] [(82, true)] ?_ ⟨⟨_, rfl, h13⟩, trivial⟩
         refine dr ?_
         refine rn0 (r2 rfl rfl) (.tup (.cons (.eqd ?_) (.cons (.eqd ?_) .nil)))
         all_goals (first | (refine congrArg D.bool (okI _ ?_); (try simp only [decide_eq_true_eq, Bool.false_eq_true, within, Bool.and_eq_true, List.length_map, true_iff, false_iff]); omega) | (rw [ty0 (by omega) (by omega) (by omega)]; first | done | rfl) | (rw [ty5 (by omega)]; first | done | rfl) | (rw [ty6 (by omega)]; first | done | rfl) | (rw [ty4 (by omega) hmem]; first | done | rfl))
        ·try simp only [Q] at h13p
         refine dr ?_
         refine rn0 (r2 rfl rfl) (.tup (.cons (.eqd ?_) (.cons (.eqd ?_) .nil)))
         all_goals (first | (refine congrArg D.bool (okI _ ?_); (try simp only [decide_eq_true_eq, Bool.false_eq_true, within, Bool.and_eq_true, List.length_map, true_iff, false_iff]); omega) | (rw [ty0 (by omega) (by omega) (by omega)]; first | done | rfl) | (rw [ty5 (by omega)]; first | done | rfl) | (rw [ty6 (by omega)]; first | done | rfl) | (rw [ty4 (by omega) hmem]; first | done | rfl))
       ·try simp only [Q] at h12p
        refine rn0 (r2 rfl rfl) (.tup (.cons (.nild ?_) (.cons (.eqd ?_) .nil)))
        all_goals (first | (refine congrArg D.bool (okI _ ?_); (try simp only [decide_eq_true_eq, Bool.false_eq_true, within, Bool.and_eq_true, List.length_map, true_iff, false_iff]); omega) | (rw [ty0 (by omega) (by omega) (by omega)]; first | done | rfl) | (rw [ty5 (by omega)]; first | done | rfl) | (rw [ty6 (by omega)]; first | done | rfl) | (rw [ty4 (by omega) hmem]; first | done | rfl))
theorem vt_iff {t u : Vt} : t = u ↔ t.var = u.var ∧ t.ty.data = u.ty.data ∧ t.ty.index = u.ty.index := by
 rcases t with ⟨a, b, c⟩; rcases u with ⟨d, e, f⟩; simp
def idxVt (l : List Vt) (v : Vt) : Int := idxF (fun x => decide (v = x)) l 0
theorem slices_Index_Vt_fn {l : List Vt} {v : Vt} (h : l.length ≤ 1000000000000) : FnD Try.prog 189 [.d (encVts l), .agg [.d (.i v.var), .d (.i v.ty.data), .d (.i v.ty.index)]] [] (.d (.i (idxVt l v))) [] := by
 refine bd Try.f189 19 [16] [] fun w0 F0 own kept hk => ?_
 refine Walk.box (id := 3003) .none rfl rfl rfl rfl rfl rfl rfl ?_
 refine evs [16] [] ?_
 refine CWp.loopX (ι := List (Vt) × List (Vt)) hk (fun x => [(8, .d (.i (x.1.length : Int)))]) [4, 5, 9, 10, 11, 12, 13, 14, 15, 16, 17, 18] (fun x => []) (fun x => x.1 ++ x.2 = l ∧ idxF (fun x => decide (v = x)) x.2 x.1.length = idxF (fun x => decide (v = x)) l 0) (fun x => x.2.length) ([], l) ⟨by simp, rfl⟩ ⟨⟨_, rfl, (LeA.eqi (by first | rfl | (simp; done) | (simp_all; done) | omega))⟩, trivial⟩ trivial (fun x => rfl) (fun x hg1 => ?_)
 obtain ⟨pre, rest⟩ := x
 dsimp only at hg1 ⊢
 refine evc [16] [] ?_
 refine sq (fun h1 h1p h1s => ?_) fun h1 h1p h1s => ?_
 ·try simp only [Q] at h1p
  rcases rest with _ | ⟨y, rest⟩
  ·exfalso; simp_all
  refine Walk.idx sl151 .none rfl rfl rfl rfl (zip_at hg1.1) rfl ?_
  refine evd [16] [] ?_
  refine Walk.eqV2 eq195 .none rfl rfl rfl rfl rfl ?_
  refine dr ?_
  refine sq (fun h2 h2p h2s => ?_) fun h2 h2p h2s => ?_
  ·try simp only [Q] at h2p
   refine rn0 (r1 rfl) (.eqd ?_)
   all_goals (unfold idxVt; rw [← hg1.2]; simp_all [idxF, vt_iff])
  ·try simp only [Q] at h2p
   refine ar ?_
   refine Exists.intro ((pre ++ [y], rest)) ⟨⟨(by have hz := hg1.1; rw [← hz]; simp), (by rw [← hg1.2]; simp [idxF]; simp_all [vt_iff])⟩, (by simp), Sub.x (by kernel_rfl) (by kernel_rfl) ⟨⟨_, rfl, (LeA.eqi (by first | rfl | (simp; done) | (simp_all; done) | omega))⟩, trivial⟩ (by kernel_rfl) (by kernel_rfl) trivial⟩
 ·try simp only [Q] at h1p
  have hrest : rest = [] := by
   rcases rest with _ | ⟨a, b⟩
   ·rfl
   ·exfalso; have hz := congrArg List.length (hg1.1); simp only [List.length_append, List.length_cons, List.length_map] at hz; omega
  subst hrest
  refine rn0 (r1 rfl) (.eqd ?_)
  all_goals (unfold idxVt; rw [← hg1.2]; simp_all [idxF, vt_iff])
theorem slices_Contains_Vt_fn {l : List Vt} {v : Vt} (h : l.length ≤ 1000000000000) : FnD Try.prog 186 [.d (encVts l), .agg [.d (.i v.var), .d (.i v.ty.data), .d (.i v.ty.index)]] [] (.d (.bool (decide (v ∈ l)))) [] := by
 refine bd Try.f186 9 [] [] fun w0 F0 own kept hk => ?_
 refine Walk.box (id := 3003) .none rfl rfl rfl rfl rfl rfl rfl ?_
 refine ev ?_
 refine Walk.call (cr := []) cal189 (slices_Index_Vt_fn h) rfl .none rfl rfl (LeL.refl _) trivial rfl rfl rfl ?_
 refine ev ?_
 refine rn0 (r1 rfl) (.eqd ?_)
 all_goals (refine congrArg D.bool ?_; rw [show idxVt l v = idxF (fun x => decide (v = x)) l 0 from rfl, idxF_any]; simp [List.any_eq, eq_comm])
theorem slices_IndexFunc_Vt_fn {xs : List Vt} {f : Nat} {caps : List AV} {hp : Hp} {p : Vt → Bool} (hs : xs.length ≤ 1000000000000) (hcal : Callee Try.prog f)
  (hf : ∀ t ∈ xs, FnD Try.prog f ([.agg [.d (.i t.var), .d (.i t.ty.data), .d (.i t.ty.index)]] ++ caps) hp (.d (.bool (p t))) []) (k1 : subH hp hp) (k2 : noTok hp = true) (k3 : okCall hp [] (.d .nilp) [] = true) :
  FnD Try.prog 188 [.d (encVts xs), .fn f caps] hp (.d (.i (idxF p xs 0))) [] := by
 refine bd Try.f188 19 [] [] fun w0 F0 own kept hk => ?_
 refine CWp.loopX (ι := List (Vt) × List (Vt)) hk (fun x => [(8, .d (.i (x.1.length : Int)))]) [4, 5, 9, 10, 11, 12, 13, 14, 15, 16, 17, 18] (fun x => []) (fun x => x.1 ++ x.2 = xs ∧ idxF p x.2 x.1.length = idxF p xs 0) (fun x => x.2.length) ([], xs) ⟨by simp, rfl⟩ ⟨⟨_, rfl, (LeA.eqi (by first | rfl | (simp; done) | (simp_all; done) | omega))⟩, trivial⟩ trivial (fun x => boxIds_all hp) (fun x hg1 => ?_)
 obtain ⟨pre, rest⟩ := x
 dsimp only at hg1 ⊢
 refine evc [] [] ?_
 refine sq (fun h1 h1p h1s => ?_) fun h1 h1p h1s => ?_
 ·try simp only [Q] at h1p
  rcases rest with _ | ⟨y, rest⟩
  ·exfalso; simp_all
  refine Walk.idx sl151 .none rfl rfl rfl rfl (zip_at hg1.1) rfl ?_
  refine ev ?_
  refine Walk.callV (cr := []) hcal (hf y (by rw [← hg1.1]; simp)) rfl .none rfl rfl rfl (LeL.refl _) k1 k2 (okCall_d k3 _) rfl ?_
  refine tv ?_
  refine sq (fun h2 h2p h2s => ?_) fun h2 h2p h2s => ?_
  ·try simp only [Q] at h2p
   refine rn [] (r1 rfl) (.eqd ?_) ⟨rfl, rfl⟩ (fun _ _ h => h) (fun _ h => h)
   all_goals (rw [← hg1.2]; simp [idxF, h1s, h1p, h2s, h2p])
  ·try simp only [Q] at h2p
   refine ar ?_
   refine Exists.intro ((pre ++ [y], rest)) ⟨⟨(by have hz := hg1.1; rw [← hz]; simp), (by rw [← hg1.2]; simp [idxF, h2s])⟩, (by simp), Sub.x (by kernel_rfl) (by kernel_rfl) ⟨⟨_, rfl, (LeA.eqi (by first | rfl | (simp; done) | (simp_all; done) | omega))⟩, trivial⟩ (by simp) (by simp [coverH]) trivial⟩
 ·try simp only [Q] at h1p
  have hrest : rest = [] := by
   rcases rest with _ | ⟨a, b⟩
   ·rfl
   ·exfalso; have hz := congrArg List.length (hg1.1); simp only [List.length_append, List.length_cons, List.length_map] at hz; omega
  subst hrest
  refine rn [] (r1 rfl) (.eqd ?_) ⟨rfl, rfl⟩ (fun _ _ h => h) (fun _ h => h)
  all_goals (rw [← hg1.2]; simp [idxF, h1s, h1p])
theorem slices_ContainsFunc_Vt_fn {xs : List Vt} {f : Nat} {caps : List AV} {hp : Hp} {p : Vt → Bool} (hs : xs.length ≤ 1000000000000) (hcal : Callee Try.prog f)
  (hf : ∀ t ∈ xs, FnD Try.prog f ([.agg [.d (.i t.var), .d (.i t.ty.data), .d (.i t.ty.index)]] ++ caps) hp (.d (.bool (p t))) []) (k1 : subH hp hp) (k2 : noTok hp = true) (k3 : okCall hp [] (.d .nilp) [] = true) :
  FnD Try.prog 184 [.d (encVts xs), .fn f caps] hp (.d (.bool (xs.any p))) [] := by
 refine bd Try.f184 9 [] [] fun w0 F0 own kept hk => ?_
 refine Walk.call (cr := []) cal188 (slices_IndexFunc_Vt_fn hs hcal hf k1 k2 k3) rfl .none rfl rfl (LeL.refl _) k1 k2 (okCall_d k3 _) rfl ?_
 refine ev ?_
 refine rn [] (r1 rfl) (.eqd ?_) ⟨rfl, rfl⟩ (fun _ _ h => h) (fun _ h => h)
 all_goals (exact congrArg D.bool (idxF_any p xs 0))
theorem impl_sameVars_1_fn {b : List Vt} {v : Vt} (h : b.length ≤ 1000000000000) : FnD Try.prog 185 [.agg [.d (.i v.var), .d (.i v.ty.data), .d (.i v.ty.index)], .ref 3003 0] [(3003, some (.box [.d (encVts b)]))] (.d (.bool (!decide (v ∈ b)))) [] := by
 refine bd Try.f185 8 [] [] fun w0 F0 own kept hk => ?_
 refine Walk.box (id := 3001) .none rfl rfl rfl rfl rfl rfl rfl ?_
 refine ev ?_
 refine Walk.call (cr := []) cal186 (slices_Contains_Vt_fn h) rfl .none rfl rfl (LeL.refl _) trivial rfl rfl rfl ?_
 refine ev ?_
 refine rn [] (r1 rfl) (.eqd ?_) ⟨rfl, rfl⟩ (SubH.get ⟨rfl, trivial⟩) (fun _ h => h)
 all_goals (rfl)
theorem impl_sameVars_fn {x y : List Vt} (hx : x.length ≤ 1000000000000) (hy : y.length ≤ 1000000000000) : FnD Try.prog 177 [.d (encVts x), .d (encVts y)] [] (.d (.bool (sameV2 x y))) [] := by
 refine bd Try.f177 16 [] [] fun w0 F0 own kept hk => ?_
 refine Walk.box (id := 3003) .none rfl rfl rfl rfl rfl rfl rfl ?_
 refine ev ?_
 refine sq (fun h1 h1p h1s => ?_) fun h1 h1p h1s => ?_
 ·try simp only [Q] at h1p
  refine Walk.closure (xs := [_]) rfl (.some rfl rfl h1) rfl rfl ?_
  refine Walk.call (cr := []) cal184 (slices_ContainsFunc_Vt_fn (p := fun v => !decide (v ∈ y)) hx cal185 (fun t _ => impl_sameVars_1_fn hy) ⟨rfl, trivial⟩ rfl rfl) rfl (.some rfl rfl h1) rfl rfl (LeL.refl _) ⟨rfl, trivial⟩ rfl rfl rfl ?_
  refine evs [] [(10, true)] ?_ ⟨⟨_, rfl, h1⟩, trivial⟩
  refine rn0 (r1 rfl) (.eqd ?_)
  all_goals (refine congrArg D.bool ?_; unfold sameV2; first | (simp_all; done) | (simp_all; intro hz; omega))
 ·try simp only [Q] at h1p
  refine rn0 (r1 rfl) (.eqd ?_)
  all_goals (refine congrArg D.bool ?_; unfold sameV2; first | (simp_all; done) | (simp_all; intro hz; omega))
def metA (s : List Int) : List AV := (List.range 6).map fun (i : Nat) => .d (.bool (decide ((i : Int) ∈ s)))
theorem metA_get {s : List Int} {v : Int} (h0 : 0 ≤ v) (h1 : v ≤ 5) : (metA s)[v.toNat]? = some (.d (.bool (decide (v ∈ s)))) := by
 unfold metA
 rw [List.getElem?_map, List.getElem?_range (by omega)]
 simp only [Option.map_some]
 rw [Int.toNat_of_nonneg h0]
theorem metA_put {s : List Int} {v : Int} (h0 : 0 ≤ v) (h1 : v ≤ 5) : putC (metA s) v.toNat [.d (.bool true)] = some (metA (s ++ [v])) := by
 have e : v = 0 ∨ v = 1 ∨ v = 2 ∨ v = 3 ∨ v = 4 ∨ v = 5 := by omega
 rcases e with rfl | rfl | rfl | rfl | rfl | rfl <;> simp [metA, putC, List.range_succ]
theorem nameP_len (t : Ty) (p : Pat) : (nameP t p).length ≤ 1 := by unfold nameP; split <;> simp
theorem nodup_sub : ∀ {a b : List Int}, a.Nodup → (∀ x ∈ a, x ∈ b) → a.length ≤ b.length
 | [], b, _, _ => by simp
 | x :: r, b, hn, hs => by
  have hn' := List.nodup_cons.1 hn
  have hx := hs x (by simp)
  have h := nodup_sub (a := r) (b := b.erase x) hn'.2 (fun y hy => by
   have hne : y ≠ x := fun e => hn'.1 (e ▸ hy)
   exact (List.mem_erase_of_ne hne).2 (hs y (by simp [hy])))
  rw [List.length_erase_of_mem hx] at h
  have := List.length_pos_of_mem hx
  simp only [List.length_cons]; omega
def InR (l : List Vt) : Prop := ∀ v ∈ l, 0 ≤ v.var ∧ v.var ≤ 5
theorem nodup_len {l : List Vt} (h : InR l) (hn : nodupV l = true) : l.length ≤ 6 := by
 unfold nodupV at hn
 have h1 := of_decide_eq_true hn
 have h2 : ∀ x ∈ l.map Vt.var, x ∈ [(0 : Int), 1, 2, 3, 4, 5] := fun x hx => by
  obtain ⟨v, hv, rfl⟩ := List.mem_map.1 hx
  have := h v hv
  simp only [List.mem_cons, List.not_mem_nil, or_false]; omega
 have := nodup_sub h1 h2
 simpa using this
theorem scanK_in {g : Ty → Pat → Int → Option (List Vt) × Int} {or : Bool} (hg : ∀ t p c l, (g t p c).1 = some l → InR l) : ∀ (a : List Ty) (b : List Pat) (i : Nat) (acc : List Vt) (c : Int) (l : List Vt), InR acc → (scanK g or a b i acc c).1 = some l → InR l
 | [], b, i, acc, c, l, ha, h => by simp only [scanK, Option.some.injEq] at h; subst h; exact ha
 | _ :: _, [], i, acc, c, l, ha, h => by simp only [scanK, Option.some.injEq] at h; subst h; exact ha
 | x :: r, y :: s, i, acc, c, l, ha, h => by
  simp only [scanK] at h
  cases hh : (g x y c).1 with
  | none => rw [hh] at h; cases h
  | some m =>
   rw [hh] at h
   simp only at h
   split at h
   ·split at h
    ·exact scanK_in hg r s (i + 1) acc _ l ha h
    ·cases h
   ·refine scanK_in hg r s (i + 1) _ _ l (fun v hv => ?_) h
    rcases List.mem_append.1 hv with hv | hv
    ·exact ha v hv
    ·exact hg x y c m hh v hv
theorem scanP_in (w : List Data) : ∀ (n : Nat) (t : Ty) (p : Pat) (c : Int) (l : List Vt), (scanP w n t p c).1 = some l → InR l ∧ nodupV l = true
 | 0, t, p, c, l, h => by simp [scanP] at h
 | n + 1, t, p, c, l, h => by
  unfold scanP at h
  split at h
  ·cases h
  ·split at h
   ·rename_i h60 ho
    have ho' : ownP w t p = true := by unfold okP at ho; simp only [Bool.and_eq_true] at ho; exact ho.1
    cases hk : (scanK (scanP w n) (decide (p.op = 5)) (typesP w t p) p.kids 0 (nameP t p) (c + 1)).1 with
    | none => unfold finV at h; rw [hk] at h; simp only at h; rw [hk] at h; cases h
    | some m =>
     have hi : InR m := scanK_in (fun t p c l h => (scanP_in w n t p c l h).1) _ _ _ _ _ m (fun v hv => by
      unfold nameP at hv
      split at hv
      ·rename_i hop
       simp only [List.mem_cons, List.not_mem_nil, or_false] at hv
       subst hv
       exact ownP_var ho' hop
      ·simp at hv) hk
     unfold finV at h
     rw [hk] at h
     simp only at h
     split at h
     ·rename_i hn
      rw [hk] at h
      cases h
      exact ⟨hi, hn⟩
     ·cases h
   ·cases h
theorem scanP_bd (w : List Data) (n : Nat) (t : Ty) (p : Pat) (c : Int) (h : (scanP w n t p c).1.isSome = true) : c + 1 ≤ (scanP w n t p c).2 ∧ (scanP w n t p c).2 ≤ 60 := by
 have h1 := scanP_eq w n t p c
 by_cases hw : wantP w n t p c = true
 ·have h2 := h1.2 hw
  simp only [wantP, Bool.and_eq_true, decide_eq_true_eq] at hw
  have := Pat.size_eq p
  omega
 ·rw [if_neg hw] at h1; rw [h1.1] at h; cases h
def someV (o : Option (List Vt)) : List Vt := o.getD []
theorem scanK_none {g : Ty → Pat → Int → Option (List Vt) × Int} {or : Bool} {a : List Ty} {b : List Pat} {i : Nat} {acc : List Vt} {c : Int} (ha : i < a.length) (hl : b.length = a.length) (h : (g (nth a i) (nth b i) c).1.isSome = false) :
  scanK g or (a.drop i) (b.drop i) i acc c = (none, (g (nth a i) (nth b i) c).2) := by
 rw [drop_nth ha, drop_nth (l := b) (by omega), scanK]
 cases hh : (g (nth a i) (nth b i) c).1 with
 | none => rfl
 | some l => rw [hh] at h; cases h
theorem scanK_bad {g : Ty → Pat → Int → Option (List Vt) × Int} {or : Bool} {a : List Ty} {b : List Pat} {i : Nat} {acc : List Vt} {c : Int} (ha : i < a.length) (hl : b.length = a.length) (h : (g (nth a i) (nth b i) c).1.isSome = true) (ho : or = true ∧ i = 1) (hs : sameV2 acc (someV (g (nth a i) (nth b i) c).1) = false) :
  scanK g or (a.drop i) (b.drop i) i acc c = (none, (g (nth a i) (nth b i) c).2) := by
 rw [drop_nth ha, drop_nth (l := b) (by omega), scanK]
 cases hh : (g (nth a i) (nth b i) c).1 with
 | none => rfl
 | some l => rw [hh] at hs; simp only [someV, Option.getD_some] at hs; simp only [if_pos ho, hs, Bool.false_eq_true, if_false]
theorem scanK_next {g : Ty → Pat → Int → Option (List Vt) × Int} {or : Bool} {a : List Ty} {b : List Pat} {i : Nat} {acc : List Vt} {c : Int} (ha : i < a.length) (hl : b.length = a.length) (h : (g (nth a i) (nth b i) c).1.isSome = true) (hs : (or = true ∧ i = 1) → sameV2 acc (someV (g (nth a i) (nth b i) c).1) = true) :
  scanK g or (a.drop i) (b.drop i) i acc c = scanK g or (a.drop (i + 1)) (b.drop (i + 1)) (i + 1) (if or = true ∧ i = 1 then acc else acc ++ someV (g (nth a i) (nth b i) c).1) (g (nth a i) (nth b i) c).2 := by
 rw [drop_nth ha, drop_nth (l := b) (by omega), scanK]
 cases hh : (g (nth a i) (nth b i) c).1 with
 | none => rw [hh] at h; cases h
 | some l =>
  by_cases ho : or = true ∧ i = 1
  ·have := hs ho; rw [hh] at this; simp only [someV, Option.getD_some] at this
   simp only [if_pos ho, this, if_true]
  ·simp only [if_neg ho, someV, Option.getD_some]
theorem scanK_end {g : Ty → Pat → Int → Option (List Vt) × Int} {or : Bool} {a : List Ty} {b : List Pat} {i : Nat} {acc : List Vt} {c : Int} (ha : a.length ≤ i) : scanK g or (a.drop i) (b.drop i) i acc c = (some acc, c) := by
 rw [List.drop_eq_nil_of_le ha, scanK]
 intro a r b s h; cases h
theorem someV_ok (w : List Data) (n : Nat) (t : Ty) (p : Pat) (c : Int) : InR (someV (scanP w n t p c).1) ∧ (someV (scanP w n t p c).1).length ≤ 6 := by
 cases h : (scanP w n t p c).1 with
 | none => exact ⟨fun v hv => by simp [someV] at hv, by simp [someV]⟩
 | some l =>
  have := scanP_in w n t p c l h
  exact ⟨this.1, nodup_len this.1 this.2⟩
structure GoodS (w : List Data) (n : Nat) (t : Ty) (p : Pat) (c : Int) (x : Nat × List Vt × Int) : Prop where
 le : x.1 ≤ p.kids.length
 eq : scanK (scanP w n) (decide (p.op = 5)) ((typesP w t p).drop x.1) (p.kids.drop x.1) x.1 x.2.1 x.2.2 = scanK (scanP w n) (decide (p.op = 5)) (typesP w t p) p.kids 0 (nameP t p) (c + 1)
 lc : (x.1 : Int) ≤ x.2.2
 c0 : 0 ≤ x.2.2
 c1 : x.2.2 ≤ 60
 len : x.2.1.length ≤ 1 + 6 * x.1
 inr : InR x.2.1
def nextS (w : List Data) (n : Nat) (t : Ty) (p : Pat) (x : Nat × List Vt × Int) : Nat × List Vt × Int :=
 (x.1 + 1, if decide (p.op = 5) = true ∧ x.1 = 1 then x.2.1 else x.2.1 ++ someV (scanP w n (nth (typesP w t p) x.1) (nth p.kids x.1) x.2.2).1, (scanP w n (nth (typesP w t p) x.1) (nth p.kids x.1) x.2.2).2)
theorem GoodS.next {w : List Data} {n : Nat} {t : Ty} {p : Pat} {c : Int} {x : Nat × List Vt × Int} (hl : p.kids.length = (typesP w t p).length) (hg : GoodS w n t p c x) (hlt : x.1 < p.kids.length)
  (hz : (scanP w n (nth (typesP w t p) x.1) (nth p.kids x.1) x.2.2).1.isSome = true) (hs : (decide (p.op = 5) = true ∧ x.1 = 1) → sameV2 x.2.1 (someV (scanP w n (nth (typesP w t p) x.1) (nth p.kids x.1) x.2.2).1) = true) :
  GoodS w n t p c (nextS w n t p x) := by
 obtain ⟨h1, h2, h3, h4, h5, h6, h7⟩ := hg
 have hb := scanP_bd w n _ _ _ hz
 have ho := someV_ok w n (nth (typesP w t p) x.1) (nth p.kids x.1) x.2.2
 refine ⟨by unfold nextS; dsimp only; omega, ?_, by unfold nextS; dsimp only; omega, by unfold nextS; dsimp only; omega, by unfold nextS; dsimp only; omega, ?_, ?_⟩
 ·rw [← h2, scanK_next (by omega) hl hz hs]; rfl
 ·unfold nextS; dsimp only
  split
  ·omega
  ·rw [List.length_append]; omega
 ·unfold nextS; dsimp only
  split
  ·exact h7
  ·intro v hv
   rcases List.mem_append.1 hv with hv | hv
   ·exact h7 v hv
   ·exact ho.1 v hv
theorem GoodS.none {w : List Data} {n : Nat} {t : Ty} {p : Pat} {c : Int} {x : Nat × List Vt × Int} (hl : p.kids.length = (typesP w t p).length) (hg : GoodS w n t p c x) (hlt : x.1 < p.kids.length)
  (hz : (scanP w n (nth (typesP w t p) x.1) (nth p.kids x.1) x.2.2).1.isSome = false) :
  finV (scanK (scanP w n) (decide (p.op = 5)) (typesP w t p) p.kids 0 (nameP t p) (c + 1)) = (none, (scanP w n (nth (typesP w t p) x.1) (nth p.kids x.1) x.2.2).2) := by
 rw [← hg.eq, scanK_none (by omega) hl hz]; rfl
theorem GoodS.bad {w : List Data} {n : Nat} {t : Ty} {p : Pat} {c : Int} {x : Nat × List Vt × Int} (hl : p.kids.length = (typesP w t p).length) (hg : GoodS w n t p c x) (hlt : x.1 < p.kids.length)
  (hz : (scanP w n (nth (typesP w t p) x.1) (nth p.kids x.1) x.2.2).1.isSome = true) (ho : p.op = 5 ∧ x.1 = 1) (hs : sameV2 x.2.1 (someV (scanP w n (nth (typesP w t p) x.1) (nth p.kids x.1) x.2.2).1) = false) :
  finV (scanK (scanP w n) (decide (p.op = 5)) (typesP w t p) p.kids 0 (nameP t p) (c + 1)) = (Option.none, (scanP w n (nth (typesP w t p) x.1) (nth p.kids x.1) x.2.2).2) := by
 rw [← hg.eq, scanK_bad (by omega) hl hz (by simpa using ho) hs]; rfl
theorem GoodS.fin {w : List Data} {n : Nat} {t : Ty} {p : Pat} {c : Int} {x : Nat × List Vt × Int} (hl : p.kids.length = (typesP w t p).length) (hg : GoodS w n t p c x) (hge : p.kids.length ≤ x.1) :
  finV (scanK (scanP w n) (decide (p.op = 5)) (typesP w t p) p.kids 0 (nameP t p) (c + 1)) = (if nodupV x.2.1 = true then some x.2.1 else Option.none, x.2.2) := by
 rw [← hg.eq, scanK_end (by omega)]
 unfold finV
 simp only
 split <;> rfl
theorem nodup_app {pre rest l : List Vt} {y : Vt} (h : pre ++ y :: rest = l) (hm : y.var ∈ pre.map Vt.var) : nodupV l = false := by
 unfold nodupV
 refine decide_eq_false (fun hn => ?_)
 rw [← h, List.map_append, List.map_cons, List.nodup_append] at hn
 exact hn.2.2 _ hm _ (by simp) rfl
theorem nodup_snoc {pre : List Vt} {y : Vt} (h : (pre.map Vt.var).Nodup) (hm : y.var ∉ pre.map Vt.var) : ((pre ++ [y]).map Vt.var).Nodup := by
 rw [List.map_append, List.nodup_append]
 exact ⟨h, by simp, fun a ha b hb => by simp at hb; subst hb; exact fun e => hm (e ▸ ha)⟩
def retV (r : Option (List Vt) × Int) : AV := .tup [.d (encVts (someV r.1)), .d (.bool r.1.isSome)]
theorem impl_patternScan_fn {w : List Data} (hw : WT w) : ∀ (n : Nat) {a k d c : Int} {p : Pat}, d + n = 11 → n ≤ 10 → TyIn w.length ⟨a, k⟩ → p.ok → 0 ≤ c → c ≤ 1000000000000 →
  FnD Try.prog 165 [.d (encDatas w), .agg [.d (.i a), .d (.i k)], .agg [.d (.i p.op), .d (.i p.ctor), .d (.i p.n), .d (.i p.m), .d (.i p.var), .d (encPats p.kids)], .d (.i d), .ref 950 0] [(950, some (.box [.d (.i c)]))]
   (retV (scanP w n ⟨a, k⟩ p c)) [(950, some (.box [.d (.i (scanP w n ⟨a, k⟩ p c).2)]))]
 | 0, a, k, d, c, p, hd, _, _, _, c0, c1 => by
  refine bd Try.f165 114 [] [2] fun w0 F0 own kept hk => ?_
  refine Walk.box (id := 3006) .none rfl rfl rfl rfl rfl rfl rfl ?_
  refine Walk.box (id := 3007) .none rfl rfl rfl rfl rfl rfl rfl ?_
  refine ev ?_
  refine ar ?_
  refine Walk.store ty3 .none rfl rfl rfl rfl rfl rfl (by simp) rfl ?_
  refine tv ?_
  refine CWp.regionJ ?_
  refine WRest.join 8 [(34, .d (.bool (true)))] [27, 28, 29, 30, 31, 32, 33] ?_ ?_
  ·
   refine ev ?_
   refine sq (fun h1 h1p h1s => ?_) fun h1 h1p h1s => ?_
   ·try simp only [Q] at h1p
    exact jnb rfl
   ·try simp only [Q] at h1p
    exact jnb rfl
  refine WRest.done ?_
  refine tv ?_
  refine sq (fun h2 h2p h2s => ?_) fun h2 h2p h2s => ?_
  ·try simp only [Q] at h2p
   refine rn [(950, some (.box [.d (.i (scanP w 0 ⟨a, k⟩ p c).2)]))] (r2 rfl rfl) (.tup (.cons (.nild ?_) (.cons (.eqd ?_) .nil))) ⟨rfl, rfl⟩ (SubO.get ⟨.inr (by rfl), ⟨.inl rfl, trivial⟩⟩) (boxOK rfl)
   all_goals (rfl)
  ·try simp only [Q] at h2p
   exact absurd h2 (by simp) --stop
 | n + 1, a, k, d, c, p, hd, hn, ht, hok, c0, c1 => by
  by_cases h60 : 60 < c + 1
  ·have e : scanP w (n + 1) ⟨a, k⟩ p c = (none, c + 1) := by unfold scanP; rw [if_pos h60]
   rw [e]
   refine bd Try.f165 114 [] [2] fun w0 F0 own kept hk => ?_
   refine Walk.box (id := 3006) .none rfl rfl rfl rfl rfl rfl rfl ?_
   refine Walk.box (id := 3007) .none rfl rfl rfl rfl rfl rfl rfl ?_
   refine ev ?_
   refine ar ?_
   refine Walk.store ty3 .none rfl rfl rfl rfl rfl rfl (by simp) rfl ?_
   refine tv ?_
   refine CWp.regionJ ?_
   refine WRest.join 8 [(34, .d (.bool (true)))] [27, 28, 29, 30, 31, 32, 33] ?_ ?_
   ·
    refine ev ?_
    refine sq (fun h1 h1p h1s => ?_) fun h1 h1p h1s => ?_
    ·try simp only [Q] at h1p
     exact jnb rfl
    ·try simp only [Q] at h1p
     exact jnb rfl
   refine WRest.done ?_
   refine tv ?_
   refine sq (fun h2 h2p h2s => ?_) fun h2 h2p h2s => ?_
   ·try simp only [Q] at h2p
    refine rn [(950, some (.box [.d (.i (c + 1))]))] (r2 rfl rfl) (.tup (.cons (.nild ?_) (.cons (.eqd ?_) .nil))) ⟨rfl, rfl⟩ (SubO.get ⟨.inr (by rfl), ⟨.inl rfl, trivial⟩⟩) (boxOK rfl)
    all_goals (rfl)
   ·try simp only [Q] at h2p
    exact absurd h2 (by simp) --stop
  have hsh := impl_shape_fn hw (p := p) ht
  by_cases hop : okP w ⟨a, k⟩ p = true
  ·have hok' := hok
   rw [Pat.ok_iff] at hok
   have hop' := hop
   unfold okP at hop'
   simp only [Bool.and_eq_true, decide_eq_true_eq] at hop'
   obtain ⟨ho, hl⟩ := hop'
   have hin := typesP_in hw ht ho
   have hlen := typesP_len hw ht (ownP_mem ho)
   have hst : shapeT w ⟨a, k⟩ p = typesP w ⟨a, k⟩ p := by unfold shapeT; rw [if_neg (fun h => h.2 (ownP_mem ho h.1))]
   rw [hst, hop] at hsh
   have e : scanP w (n + 1) ⟨a, k⟩ p c = finV (scanK (scanP w n) (decide (p.op = 5)) (typesP w ⟨a, k⟩ p) p.kids 0 (nameP ⟨a, k⟩ p) (c + 1)) := by
    conv => lhs; unfold scanP
    rw [if_neg h60, if_pos hop]
   have hnr : InR (nameP ⟨a, k⟩ p) := fun v hv => by
    unfold nameP at hv
    split at hv
    ·rename_i hop
     simp only [List.mem_cons, List.not_mem_nil, or_false] at hv
     subst hv
     exact ownP_var ho hop
    ·simp at hv
   have hnl := nameP_len ⟨a, k⟩ p
   rw [e]
   refine bd Try.f165 114 [14, 108] [2, 8, 17] fun w0 F0 own kept hk => ?_
   refine Walk.box (id := 3006) .none rfl rfl rfl rfl rfl rfl rfl ?_
   refine Walk.box (id := 3007) .none rfl rfl rfl rfl rfl rfl rfl ?_
   refine evs [14, 108] [] ?_
   refine ar ?_
   refine Walk.store ty3 .none rfl rfl rfl rfl rfl rfl (by simp) rfl ?_
   refine tv ?_
   refine CWp.regionJ ?_
   refine WRest.join 8 [(34, .d (.bool (false)))] [27, 28, 29, 30, 31, 32, 33] ?_ ?_
   ·
    refine evs [14, 108] [] ?_
    refine sq (fun h1 h1p h1s => ?_) fun h1 h1p h1s => ?_
    ·try simp only [Q, Pat.cs_len] at h1p
     exact jnb rfl
    ·try simp only [Q, Pat.cs_len] at h1p
     exact jnb rfl
   refine WRest.done ?_
   refine tv ?_
   refine sq (fun h2 h2p h2s => ?_) fun h2 h2p h2s => ?_
   ·try simp only [Q, Pat.cs_len] at h2p
    exact absurd h2 (by simp) --stop
   ·try simp only [Q, Pat.cs_len] at h2p
    refine Walk.call (cr := []) cal166 (hsh) rfl .none rfl rfl (LeL.refl _) trivial rfl rfl rfl ?_
    refine evs [14, 108] [] ?_
    refine sq (fun h3 h3p h3s => ?_) fun h3 h3p h3s => ?_
    ·try simp only [Q, Pat.cs_len] at h3p
     exact absurd h3 (by simp) --stop
    ·try simp only [Q, Pat.cs_len] at h3p
     refine Walk.assignNil 5 3 .none rfl rfl ?_
     refine tv ?_
     refine CWp.regionJ ?_
     refine WRest.join 8 [(51, .d (.bool (decide (p.op = 2 ∨ p.op = 6))))] [44, 45, 46, 47, 48, 49, 50] ?_ ?_
     ·
      refine evs [14, 108] [] ?_
      refine sq (fun h4 h4p h4s => ?_) fun h4 h4p h4s => ?_
      ·try simp only [Q, Pat.cs_len] at h4p
       exact jnb rfl
      ·try simp only [Q, Pat.cs_len] at h4p
       exact jnb rfl
     refine WRest.done ?_
     refine tv ?_
     refine sq (fun h5 h5p h5s => ?_) fun h5 h5p h5s => ?_
     ·try simp only [Q, Pat.cs_len] at h5p
      refine Walk.build st195 (ks := [0, 1]) (xs := [_, _]) rfl rfl .none rfl rfl rfl ?_
      refine Walk.sliceLit sl151 tz195 rfl (by decide) (ks := [0]) (xs := [_]) rfl rfl (by decide) (by decide) .none rfl rfl rfl rfl ?_
      refine Walk.append sl151 zz195 rfl .none rfl rfl rfl rfl (htokL rfl (by first | rfl | (simp; done) | (simp; omega))) (by simp) (by first | (simp; done) | (simp; omega) | (have hz := (someV_ok w n ⟨(nth (typesP w ⟨a, k⟩ p) z.1).data, (nth (typesP w ⟨a, k⟩ p) z.1).index⟩ (nth p.kids z.1) z.2.2).2; simp; omega)) (by first | (simp; done) | (simp; omega) | (have hz := (someV_ok w n ⟨(nth (typesP w ⟨a, k⟩ p) z.1).data, (nth (typesP w ⟨a, k⟩ p) z.1).index⟩ (nth p.kids z.1) z.2.2).2; simp; omega)) ?_
      refine asg ?_
      refine tv ?_
      refine CWp.loopX (ι := Nat × List Vt × Int) hk (fun z => [(62, .d (.i (z.1 : Int))), (14, .gl 5 (z.2.1.map Vt.c))]) [10, 11, 15, 16, 17, 18, 63, 64, 65, 66, 67, 68, 69, 70, 71, 72, 73, 74, 75, 76, 77, 78, 79, 80, 81, 82, 83, 84, 85, 86, 87, 88, 89, 90, 91, 92, 93, 94, 95, 96, 97, 98] (fun z => [(950, some (.box [.d (.i z.2.2)])), (5, some (.tok ((z.2.1.map Vt.c)).length 3))]) (fun z => GoodS w n ⟨a, k⟩ p c z) (fun z => p.kids.length - z.1) (0, nameP ⟨a, k⟩ p, c + 1) ⟨by simp, by simp, by dsimp only; omega, by dsimp only; omega, by dsimp only; omega, by dsimp only; omega, hnr⟩ ⟨⟨_, rfl, (LeA.eqi (by first | rfl | (simp; done) | (dsimp only; omega) | (simp_all [nameP]; done) | (unfold nextS; dsimp only; rw [if_neg (by simp_all)]; simp; done) | (unfold nextS; dsimp only; rw [if_pos (by simp_all)]; done)))⟩, ⟨⟨_, rfl, (LeA.glg (by first | rfl | (simp; done) | (dsimp only; omega) | (simp_all [nameP]; done) | (unfold nextS; dsimp only; rw [if_neg (by simp_all)]; simp; done) | (unfold nextS; dsimp only; rw [if_pos (by simp_all)]; done)))⟩, trivial⟩⟩ ⟨(by first | rfl | (simp [getH]; done)), ⟨beq_nat_eq (by first | rfl | (simp; done) | (simp; omega) | (first | rfl | (simp; done) | (dsimp only; omega) | (simp_all [nameP]; done) | (unfold nextS; dsimp only; rw [if_neg (by simp_all)]; simp; done) | (unfold nextS; dsimp only; rw [if_pos (by simp_all)]; done))), trivial⟩⟩ (fun x => rfl) (fun z hg1 => ?_)
      obtain ⟨s1, _, s3, s4, s5, s6, s7⟩ := id hg1
      refine evc [14, 108] [2, 8, 17] ?_
      refine sq (fun h6 h6p h6s => ?_) fun h6 h6p h6s => ?_
      ·try simp only [Q, Pat.cs_len] at h6p
       refine Walk.idx sl56 .none rfl rfl rfl rfl (pats_at (by omega)) rfl ?_
       refine evs [14, 108] [] ?_
       refine Walk.alloc (id := 3016) tz58 rfl .none rfl rfl rfl rfl ?_
       refine evs [14, 108] [] ?_
       refine Walk.store ty58 .none rfl rfl rfl rfl rfl rfl (by simp) rfl ?_
       refine tv ?_
       refine Walk.idx sl25 .none rfl rfl rfl rfl (at_nth (by omega)) rfl ?_
       refine evd [14, 108] [] ?_
       refine ar ?_
       refine Walk.call (cr := []) cal165 (impl_patternScan_fn hw n (a := (nth (typesP w ⟨a, k⟩ p) z.1).data) (k := (nth (typesP w ⟨a, k⟩ p) z.1).index) (c := z.2.2) (p := nth p.kids z.1) (by omega) (by omega) (hin _ (nth_mem (by omega))) (Pats.ok_mem hok.2 _ (nth_mem (by omega))) (by omega) (by omega)) rfl .none rfl rfl (LeL.refl _) ⟨rfl, trivial⟩ rfl rfl rfl ?_
       refine evd [14, 108] [] ?_
       refine dr ?_
       refine sq (fun h7 h7p h7s => ?_) fun h7 h7p h7s => ?_
       ·try simp only [Q, Pat.cs_len] at h7p
        refine rn [(950, some (.box [.d (.i (finV (scanK (scanP w n) (decide (p.op = 5)) (typesP w ⟨a, k⟩ p) p.kids 0 (nameP ⟨a, k⟩ p) (c + 1))).2)]))] (r2 rfl rfl) (.tup (.cons (.nild ?_) (.cons (.eqd ?_) .nil))) ⟨rfl, rfl⟩ (SubO.get ⟨.inr (by first | (show some (Res.box _) = some (Res.box _); rw [hg1.none hl (by omega) (by assumption)]; done) | (show some (Res.box _) = some (Res.box _); rw [hg1.bad hl (by omega) (by assumption) (by assumption) (by assumption)]; done) | (show some (Res.box _) = some (Res.box _); rw [hg1.fin hl (by omega)]; done)), ⟨.inl rfl, trivial⟩⟩) (boxOK rfl)
        all_goals (first | (rw [hg1.none hl (by omega) (by assumption)]; first | done | rfl) | (rw [hg1.bad hl (by omega) (by assumption) (by assumption) (by assumption)]; first | done | rfl) | (rw [hg1.fin hl (by omega), if_neg (by rw [nodup_app hg2.1 (by assumption)]; simp)]; first | done | rfl) | (rw [hg1.fin hl (by omega), if_pos (by have hz := hg2.1; rw [List.append_nil] at hz; rw [← hz]; exact decide_eq_true hg2.2)]; first | done | rfl))
       ·try simp only [Q, Pat.cs_len] at h7p
        refine CWp.regionJ ?_
        refine WRest.join 7 [(93, .d (.bool (decide (p.op = 5 ∧ z.1 = 1))))] [87, 88, 89, 90, 91, 92] ?_ ?_
        ·
         refine evs [14, 108] [] ?_
         refine sq (fun h8 h8p h8s => ?_) fun h8 h8p h8s => ?_
         ·try simp only [Q, Pat.cs_len] at h8p
          exact jnb rfl
         ·try simp only [Q, Pat.cs_len] at h8p
          exact jnb rfl
        refine WRest.done ?_
        refine evs [14, 108] [] ?_
        refine sq (fun h9 h9p h9s => ?_) fun h9 h9p h9s => ?_
        ·try simp only [Q, Pat.cs_len] at h9p
         refine Walk.call (cr := []) cal177 (impl_sameVars_fn (by omega) (by have hz := (someV_ok w n ⟨(nth (typesP w ⟨a, k⟩ p) z.1).data, (nth (typesP w ⟨a, k⟩ p) z.1).index⟩ (nth p.kids z.1) z.2.2).2; omega)) rfl .none rfl rfl (.cons (.gl _ _) (.cons (.refl _) .nil)) trivial rfl rfl rfl ?_
         refine evs [14, 108] [] ?_
         refine sq (fun h10 h10p h10s => ?_) fun h10 h10p h10s => ?_
         ·try simp only [Q, Pat.cs_len] at h10p
          refine rn [(950, some (.box [.d (.i (finV (scanK (scanP w n) (decide (p.op = 5)) (typesP w ⟨a, k⟩ p) p.kids 0 (nameP ⟨a, k⟩ p) (c + 1))).2)]))] (r2 rfl rfl) (.tup (.cons (.nild ?_) (.cons (.eqd ?_) .nil))) ⟨rfl, rfl⟩ (SubO.get ⟨.inr (by first | (show some (Res.box _) = some (Res.box _); rw [hg1.none hl (by omega) (by assumption)]; done) | (show some (Res.box _) = some (Res.box _); rw [hg1.bad hl (by omega) (by assumption) (by assumption) (by assumption)]; done) | (show some (Res.box _) = some (Res.box _); rw [hg1.fin hl (by omega)]; done)), ⟨.inl rfl, trivial⟩⟩) (boxOK rfl)
          all_goals (first | (rw [hg1.none hl (by omega) (by assumption)]; first | done | rfl) | (rw [hg1.bad hl (by omega) (by assumption) (by assumption) (by assumption)]; first | done | rfl) | (rw [hg1.fin hl (by omega), if_neg (by rw [nodup_app hg2.1 (by assumption)]; simp)]; first | done | rfl) | (rw [hg1.fin hl (by omega), if_pos (by have hz := hg2.1; rw [List.append_nil] at hz; rw [← hz]; exact decide_eq_true hg2.2)]; first | done | rfl))
         ·try simp only [Q, Pat.cs_len] at h10p
          refine ar ?_
          refine Exists.intro ((nextS w n ⟨a, k⟩ p z)) ⟨(hg1.next hl (by omega) (by simp_all) (fun ho => by simp_all)), (by unfold nextS; dsimp only; omega), Sub.x (by kernel_rfl) (by kernel_rfl) ⟨⟨_, rfl, (LeA.eqi (by first | rfl | (simp; done) | (dsimp only; omega) | (simp_all [nameP]; done) | (unfold nextS; dsimp only; rw [if_neg (by simp_all)]; simp; done) | (unfold nextS; dsimp only; rw [if_pos (by simp_all)]; done)))⟩, ⟨⟨_, rfl, (LeA.glg (by first | rfl | (simp; done) | (dsimp only; omega) | (simp_all [nameP]; done) | (unfold nextS; dsimp only; rw [if_neg (by simp_all)]; simp; done) | (unfold nextS; dsimp only; rw [if_pos (by simp_all)]; done)))⟩, trivial⟩⟩ (by kernel_rfl) (by kernel_rfl) ⟨(by first | rfl | (simp [getH]; done)), ⟨beq_nat_eq (by first | rfl | (simp; done) | (simp; omega) | (first | rfl | (simp; done) | (dsimp only; omega) | (simp_all [nameP]; done) | (unfold nextS; dsimp only; rw [if_neg (by simp_all)]; simp; done) | (unfold nextS; dsimp only; rw [if_pos (by simp_all)]; done))), trivial⟩⟩⟩
        ·try simp only [Q, Pat.cs_len] at h9p
         refine Walk.append sl151 zz195 rfl .none rfl rfl rfl rfl (htokL rfl (by first | rfl | (simp; done) | (simp; omega))) (by simp) (by first | (simp; done) | (simp; omega) | (have hz := (someV_ok w n ⟨(nth (typesP w ⟨a, k⟩ p) z.1).data, (nth (typesP w ⟨a, k⟩ p) z.1).index⟩ (nth p.kids z.1) z.2.2).2; simp; omega)) (by first | (simp; done) | (simp; omega) | (have hz := (someV_ok w n ⟨(nth (typesP w ⟨a, k⟩ p) z.1).data, (nth (typesP w ⟨a, k⟩ p) z.1).index⟩ (nth p.kids z.1) z.2.2).2; simp; omega)) ?_
         refine asg ?_
         refine tv ?_
         refine ar ?_
         refine Exists.intro ((nextS w n ⟨a, k⟩ p z)) ⟨(hg1.next hl (by omega) (by simp_all) (fun ho => by simp_all)), (by unfold nextS; dsimp only; omega), Sub.x (by kernel_rfl) (by kernel_rfl) ⟨⟨_, rfl, (LeA.eqi (by first | rfl | (simp; done) | (dsimp only; omega) | (simp_all [nameP]; done) | (unfold nextS; dsimp only; rw [if_neg (by simp_all)]; simp; done) | (unfold nextS; dsimp only; rw [if_pos (by simp_all)]; done)))⟩, ⟨⟨_, rfl, (LeA.glg (by first | rfl | (simp; done) | (dsimp only; omega) | (simp_all [nameP]; done) | (unfold nextS; dsimp only; rw [if_neg (by simp_all)]; simp; done) | (unfold nextS; dsimp only; rw [if_pos (by simp_all)]; done)))⟩, trivial⟩⟩ (by kernel_rfl) (by kernel_rfl) ⟨(by first | rfl | (simp [getH]; done)), ⟨beq_nat_eq (by first | rfl | (simp; done) | (simp; omega) | (first | rfl | (simp; done) | (dsimp only; omega) | (simp_all [nameP]; done) | (unfold nextS; dsimp only; rw [if_neg (by simp_all)]; simp; done) | (unfold nextS; dsimp only; rw [if_pos (by simp_all)]; done))), trivial⟩⟩⟩
      ·try simp only [Q, Pat.cs_len] at h6p
       refine Walk.alloc (id := 3019) tz200 rfl .none rfl rfl rfl rfl ?_
       refine tv ?_
       refine CWp.loopX (ι := List (Vt) × List (Vt)) hk (fun x => [(101, .d (.i (x.1.length : Int)))]) [10, 11, 21, 102, 103, 104, 105, 106, 107, 108, 109, 110, 111, 112] (fun x => [(3019, some (.box (metA (x.1.map Vt.var))))]) (fun x => x.1 ++ x.2 = z.2.1 ∧ (x.1.map Vt.var).Nodup) (fun x => x.2.length) ([], z.2.1) ⟨by simp, by simp⟩ ⟨⟨_, rfl, (LeA.eqi (by first | rfl | (simp; done) | (simp_all; done) | omega))⟩, trivial⟩ ⟨(by first | rfl | (simp [getH]; done)), trivial⟩ (fun x => rfl) (fun x hg2 => ?_)
       obtain ⟨pre, rest⟩ := x
       dsimp only at hg2 ⊢
       refine evc [14, 108] [2, 8, 17] ?_
       refine sq (fun h11 h11p h11s => ?_) fun h11 h11p h11s => ?_
       ·try simp only [Q, Pat.cs_len] at h11p
        rcases rest with _ | ⟨y, rest⟩
        ·exfalso; simp_all
        have hy := s7 y (by rw [← hg2.1]; simp)
        refine Walk.idxG sl151 .none rfl rfl rfl rfl (zip_at hg2.1) rfl ?_
        refine evs [14, 108] [] ?_
        refine Walk.alloc (id := 3021) tz195 rfl .none rfl rfl rfl rfl ?_
        refine Walk.store ty195 .none rfl rfl rfl rfl rfl rfl (by simp) rfl ?_
        refine tv ?_
        refine Walk.idxA (i := y.var.toNat) ar200 .none rfl rfl rfl (Int.toNat_of_nonneg hy.1).symm (by omega) ?_
        refine Walk.loadB ty4 .none rfl rfl rfl ((by simpa using metA_get hy.1 hy.2)) ?_
        refine tv ?_
        refine sq (fun h12 h12p h12s => ?_) fun h12 h12p h12s => ?_
        ·try simp only [Q, Pat.cs_len] at h12p
         refine rn [(950, some (.box [.d (.i (finV (scanK (scanP w n) (decide (p.op = 5)) (typesP w ⟨a, k⟩ p) p.kids 0 (nameP ⟨a, k⟩ p) (c + 1))).2)]))] (r2 rfl rfl) (.tup (.cons (.nild ?_) (.cons (.eqd ?_) .nil))) ⟨rfl, rfl⟩ (SubO.get ⟨.inr (by first | (show some (Res.box _) = some (Res.box _); rw [hg1.none hl (by omega) (by assumption)]; done) | (show some (Res.box _) = some (Res.box _); rw [hg1.bad hl (by omega) (by assumption) (by assumption) (by assumption)]; done) | (show some (Res.box _) = some (Res.box _); rw [hg1.fin hl (by omega)]; done)), ⟨.inl rfl, trivial⟩⟩) (boxOK rfl)
         all_goals (first | (rw [hg1.none hl (by omega) (by assumption)]; first | done | rfl) | (rw [hg1.bad hl (by omega) (by assumption) (by assumption) (by assumption)]; first | done | rfl) | (rw [hg1.fin hl (by omega), if_neg (by rw [nodup_app hg2.1 (by assumption)]; simp)]; first | done | rfl) | (rw [hg1.fin hl (by omega), if_pos (by have hz := hg2.1; rw [List.append_nil] at hz; rw [← hz]; exact decide_eq_true hg2.2)]; first | done | rfl))
        ·try simp only [Q, Pat.cs_len] at h12p
         refine Walk.idxA (i := y.var.toNat) ar200 .none rfl rfl rfl (Int.toNat_of_nonneg hy.1).symm (by omega) ?_
         refine Walk.store ty4 .none rfl rfl rfl rfl rfl rfl (by simp) ((by simpa using metA_put hy.1 hy.2)) ?_
         refine tv ?_
         refine ar ?_
         refine Exists.intro ((pre ++ [y], rest)) ⟨⟨(by have hz := hg2.1; rw [← hz]; simp), (nodup_snoc hg2.2 (by simp_all))⟩, (by simp), Sub.x (by kernel_rfl) (by kernel_rfl) ⟨⟨_, rfl, (LeA.eqi (by first | rfl | (simp; done) | (simp_all; done) | omega))⟩, trivial⟩ (by kernel_rfl) (by kernel_rfl) ⟨(by first | rfl | (simp [getH]; done)), trivial⟩⟩
       ·try simp only [Q, Pat.cs_len] at h11p
        have hrest : rest = [] := by
         rcases rest with _ | ⟨a, b⟩
         ·rfl
         ·exfalso; have hz := congrArg List.length (hg2.1); simp only [List.length_append, List.length_cons, List.length_map] at hz; omega
        subst hrest
        refine rn [(950, some (.box [.d (.i (finV (scanK (scanP w n) (decide (p.op = 5)) (typesP w ⟨a, k⟩ p) p.kids 0 (nameP ⟨a, k⟩ p) (c + 1))).2)]))] (r2 rfl rfl) (.tup (.cons (.gld ?_) (.cons (.eqd ?_) .nil))) ⟨rfl, rfl⟩ (SubO.get ⟨.inr (by first | (show some (Res.box _) = some (Res.box _); rw [hg1.none hl (by omega) (by assumption)]; done) | (show some (Res.box _) = some (Res.box _); rw [hg1.bad hl (by omega) (by assumption) (by assumption) (by assumption)]; done) | (show some (Res.box _) = some (Res.box _); rw [hg1.fin hl (by omega)]; done)), ⟨.inl rfl, trivial⟩⟩) (boxOK rfl)
        all_goals (first | (rw [hg1.none hl (by omega) (by assumption)]; first | done | rfl) | (rw [hg1.bad hl (by omega) (by assumption) (by assumption) (by assumption)]; first | done | rfl) | (rw [hg1.fin hl (by omega), if_neg (by rw [nodup_app hg2.1 (by assumption)]; simp)]; first | done | rfl) | (rw [hg1.fin hl (by omega), if_pos (by have hz := hg2.1; rw [List.append_nil] at hz; rw [← hz]; exact decide_eq_true hg2.2)]; first | done | rfl))
     ·try simp only [Q, Pat.cs_len] at h5p
      refine CWp.loopX (ι := Nat × List Vt × Int) hk (fun z => [(62, .d (.i (z.1 : Int))), (14, .gl 5 (z.2.1.map Vt.c))]) [10, 11, 15, 16, 17, 18, 63, 64, 65, 66, 67, 68, 69, 70, 71, 72, 73, 74, 75, 76, 77, 78, 79, 80, 81, 82, 83, 84, 85, 86, 87, 88, 89, 90, 91, 92, 93, 94, 95, 96, 97, 98] (fun z => [(950, some (.box [.d (.i z.2.2)])), (5, some (.tok ((z.2.1.map Vt.c)).length 3))]) (fun z => GoodS w n ⟨a, k⟩ p c z) (fun z => p.kids.length - z.1) (0, nameP ⟨a, k⟩ p, c + 1) ⟨by simp, by simp, by dsimp only; omega, by dsimp only; omega, by dsimp only; omega, by dsimp only; omega, hnr⟩ ⟨⟨_, rfl, (LeA.eqi (by first | rfl | (simp; done) | (dsimp only; omega) | (simp_all [nameP]; done) | (unfold nextS; dsimp only; rw [if_neg (by simp_all)]; simp; done) | (unfold nextS; dsimp only; rw [if_pos (by simp_all)]; done)))⟩, ⟨⟨_, rfl, (LeA.glg (by first | rfl | (simp; done) | (dsimp only; omega) | (simp_all [nameP]; done) | (unfold nextS; dsimp only; rw [if_neg (by simp_all)]; simp; done) | (unfold nextS; dsimp only; rw [if_pos (by simp_all)]; done)))⟩, trivial⟩⟩ ⟨(by first | rfl | (simp [getH]; done)), ⟨beq_nat_eq (by first | rfl | (simp; done) | (simp; omega) | (first | rfl | (simp; done) | (dsimp only; omega) | (simp_all [nameP]; done) | (unfold nextS; dsimp only; rw [if_neg (by simp_all)]; simp; done) | (unfold nextS; dsimp only; rw [if_pos (by simp_all)]; done))), trivial⟩⟩ (fun x => rfl) (fun z hg1 => ?_)
      obtain ⟨s1, _, s3, s4, s5, s6, s7⟩ := id hg1
      refine evc [14, 108] [2, 8, 17] ?_
      refine sq (fun h13 h13p h13s => ?_) fun h13 h13p h13s => ?_
      ·try simp only [Q, Pat.cs_len] at h13p
       refine Walk.idx sl56 .none rfl rfl rfl rfl (pats_at (by omega)) rfl ?_
       refine evs [14, 108] [] ?_
       refine Walk.alloc (id := 3016) tz58 rfl .none rfl rfl rfl rfl ?_
       refine evs [14, 108] [] ?_
       refine Walk.store ty58 .none rfl rfl rfl rfl rfl rfl (by simp) rfl ?_
       refine tv ?_
       refine Walk.idx sl25 .none rfl rfl rfl rfl (at_nth (by omega)) rfl ?_
       refine evd [14, 108] [] ?_
       refine ar ?_
       refine Walk.call (cr := []) cal165 (impl_patternScan_fn hw n (a := (nth (typesP w ⟨a, k⟩ p) z.1).data) (k := (nth (typesP w ⟨a, k⟩ p) z.1).index) (c := z.2.2) (p := nth p.kids z.1) (by omega) (by omega) (hin _ (nth_mem (by omega))) (Pats.ok_mem hok.2 _ (nth_mem (by omega))) (by omega) (by omega)) rfl .none rfl rfl (LeL.refl _) ⟨rfl, trivial⟩ rfl rfl rfl ?_
       refine evd [14, 108] [] ?_
       refine dr ?_
       refine sq (fun h14 h14p h14s => ?_) fun h14 h14p h14s => ?_
       ·try simp only [Q, Pat.cs_len] at h14p
        refine rn [(950, some (.box [.d (.i (finV (scanK (scanP w n) (decide (p.op = 5)) (typesP w ⟨a, k⟩ p) p.kids 0 (nameP ⟨a, k⟩ p) (c + 1))).2)]))] (r2 rfl rfl) (.tup (.cons (.nild ?_) (.cons (.eqd ?_) .nil))) ⟨rfl, rfl⟩ (SubO.get ⟨.inr (by first | (show some (Res.box _) = some (Res.box _); rw [hg1.none hl (by omega) (by assumption)]; done) | (show some (Res.box _) = some (Res.box _); rw [hg1.bad hl (by omega) (by assumption) (by assumption) (by assumption)]; done) | (show some (Res.box _) = some (Res.box _); rw [hg1.fin hl (by omega)]; done)), ⟨.inl rfl, trivial⟩⟩) (boxOK rfl)
        all_goals (first | (rw [hg1.none hl (by omega) (by assumption)]; first | done | rfl) | (rw [hg1.bad hl (by omega) (by assumption) (by assumption) (by assumption)]; first | done | rfl) | (rw [hg1.fin hl (by omega), if_neg (by rw [nodup_app hg2.1 (by assumption)]; simp)]; first | done | rfl) | (rw [hg1.fin hl (by omega), if_pos (by have hz := hg2.1; rw [List.append_nil] at hz; rw [← hz]; exact decide_eq_true hg2.2)]; first | done | rfl))
       ·try simp only [Q, Pat.cs_len] at h14p
        refine CWp.regionJ ?_
        refine WRest.join 7 [(93, .d (.bool (decide (p.op = 5 ∧ z.1 = 1))))] [87, 88, 89, 90, 91, 92] ?_ ?_
        ·
         refine evs [14, 108] [] ?_
         refine sq (fun h15 h15p h15s => ?_) fun h15 h15p h15s => ?_
         ·try simp only [Q, Pat.cs_len] at h15p
          exact jnb rfl
         ·try simp only [Q, Pat.cs_len] at h15p
          exact jnb rfl
        refine WRest.done ?_
        refine evs [14, 108] [] ?_
        refine sq (fun h16 h16p h16s => ?_) fun h16 h16p h16s => ?_
        ·try simp only [Q, Pat.cs_len] at h16p
         refine Walk.call (cr := []) cal177 (impl_sameVars_fn (by omega) (by have hz := (someV_ok w n ⟨(nth (typesP w ⟨a, k⟩ p) z.1).data, (nth (typesP w ⟨a, k⟩ p) z.1).index⟩ (nth p.kids z.1) z.2.2).2; omega)) rfl .none rfl rfl (.cons (.gl _ _) (.cons (.refl _) .nil)) trivial rfl rfl rfl ?_
         refine evs [14, 108] [] ?_
         refine sq (fun h17 h17p h17s => ?_) fun h17 h17p h17s => ?_
         ·try simp only [Q, Pat.cs_len] at h17p
          refine rn [(950, some (.box [.d (.i (finV (scanK (scanP w n) (decide (p.op = 5)) (typesP w ⟨a, k⟩ p) p.kids 0 (nameP ⟨a, k⟩ p) (c + 1))).2)]))] (r2 rfl rfl) (.tup (.cons (.nild ?_) (.cons (.eqd ?_) .nil))) ⟨rfl, rfl⟩ (SubO.get ⟨.inr (by first | (show some (Res.box _) = some (Res.box _); rw [hg1.none hl (by omega) (by assumption)]; done) | (show some (Res.box _) = some (Res.box _); rw [hg1.bad hl (by omega) (by assumption) (by assumption) (by assumption)]; done) | (show some (Res.box _) = some (Res.box _); rw [hg1.fin hl (by omega)]; done)), ⟨.inl rfl, trivial⟩⟩) (boxOK rfl)
          all_goals (first | (rw [hg1.none hl (by omega) (by assumption)]; first | done | rfl) | (rw [hg1.bad hl (by omega) (by assumption) (by assumption) (by assumption)]; first | done | rfl) | (rw [hg1.fin hl (by omega), if_neg (by rw [nodup_app hg2.1 (by assumption)]; simp)]; first | done | rfl) | (rw [hg1.fin hl (by omega), if_pos (by have hz := hg2.1; rw [List.append_nil] at hz; rw [← hz]; exact decide_eq_true hg2.2)]; first | done | rfl))
         ·try simp only [Q, Pat.cs_len] at h17p
          refine ar ?_
          refine Exists.intro ((nextS w n ⟨a, k⟩ p z)) ⟨(hg1.next hl (by omega) (by simp_all) (fun ho => by simp_all)), (by unfold nextS; dsimp only; omega), Sub.x (by kernel_rfl) (by kernel_rfl) ⟨⟨_, rfl, (LeA.eqi (by first | rfl | (simp; done) | (dsimp only; omega) | (simp_all [nameP]; done) | (unfold nextS; dsimp only; rw [if_neg (by simp_all)]; simp; done) | (unfold nextS; dsimp only; rw [if_pos (by simp_all)]; done)))⟩, ⟨⟨_, rfl, (LeA.glg (by first | rfl | (simp; done) | (dsimp only; omega) | (simp_all [nameP]; done) | (unfold nextS; dsimp only; rw [if_neg (by simp_all)]; simp; done) | (unfold nextS; dsimp only; rw [if_pos (by simp_all)]; done)))⟩, trivial⟩⟩ (by kernel_rfl) (by kernel_rfl) ⟨(by first | rfl | (simp [getH]; done)), ⟨beq_nat_eq (by first | rfl | (simp; done) | (simp; omega) | (first | rfl | (simp; done) | (dsimp only; omega) | (simp_all [nameP]; done) | (unfold nextS; dsimp only; rw [if_neg (by simp_all)]; simp; done) | (unfold nextS; dsimp only; rw [if_pos (by simp_all)]; done))), trivial⟩⟩⟩
        ·try simp only [Q, Pat.cs_len] at h16p
         refine Walk.append sl151 zz195 rfl .none rfl rfl rfl rfl (htokL rfl (by first | rfl | (simp; done) | (simp; omega))) (by simp) (by first | (simp; done) | (simp; omega) | (have hz := (someV_ok w n ⟨(nth (typesP w ⟨a, k⟩ p) z.1).data, (nth (typesP w ⟨a, k⟩ p) z.1).index⟩ (nth p.kids z.1) z.2.2).2; simp; omega)) (by first | (simp; done) | (simp; omega) | (have hz := (someV_ok w n ⟨(nth (typesP w ⟨a, k⟩ p) z.1).data, (nth (typesP w ⟨a, k⟩ p) z.1).index⟩ (nth p.kids z.1) z.2.2).2; simp; omega)) ?_
         refine asg ?_
         refine tv ?_
         refine ar ?_
         refine Exists.intro ((nextS w n ⟨a, k⟩ p z)) ⟨(hg1.next hl (by omega) (by simp_all) (fun ho => by simp_all)), (by unfold nextS; dsimp only; omega), Sub.x (by kernel_rfl) (by kernel_rfl) ⟨⟨_, rfl, (LeA.eqi (by first | rfl | (simp; done) | (dsimp only; omega) | (simp_all [nameP]; done) | (unfold nextS; dsimp only; rw [if_neg (by simp_all)]; simp; done) | (unfold nextS; dsimp only; rw [if_pos (by simp_all)]; done)))⟩, ⟨⟨_, rfl, (LeA.glg (by first | rfl | (simp; done) | (dsimp only; omega) | (simp_all [nameP]; done) | (unfold nextS; dsimp only; rw [if_neg (by simp_all)]; simp; done) | (unfold nextS; dsimp only; rw [if_pos (by simp_all)]; done)))⟩, trivial⟩⟩ (by kernel_rfl) (by kernel_rfl) ⟨(by first | rfl | (simp [getH]; done)), ⟨beq_nat_eq (by first | rfl | (simp; done) | (simp; omega) | (first | rfl | (simp; done) | (dsimp only; omega) | (simp_all [nameP]; done) | (unfold nextS; dsimp only; rw [if_neg (by simp_all)]; simp; done) | (unfold nextS; dsimp only; rw [if_pos (by simp_all)]; done))), trivial⟩⟩⟩
      ·try simp only [Q, Pat.cs_len] at h13p
       refine Walk.alloc (id := 3019) tz200 rfl .none rfl rfl rfl rfl ?_
       refine tv ?_
       refine CWp.loopX (ι := List (Vt) × List (Vt)) hk (fun x => [(101, .d (.i (x.1.length : Int)))]) [10, 11, 21, 102, 103, 104, 105, 106, 107, 108, 109, 110, 111, 112] (fun x => [(3019, some (.box (metA (x.1.map Vt.var))))]) (fun x => x.1 ++ x.2 = z.2.1 ∧ (x.1.map Vt.var).Nodup) (fun x => x.2.length) ([], z.2.1) ⟨by simp, by simp⟩ ⟨⟨_, rfl, (LeA.eqi (by first | rfl | (simp; done) | (simp_all; done) | omega))⟩, trivial⟩ ⟨(by first | rfl | (simp [getH]; done)), trivial⟩ (fun x => rfl) (fun x hg2 => ?_)
       obtain ⟨pre, rest⟩ := x
       dsimp only at hg2 ⊢
       refine evc [14, 108] [2, 8, 17] ?_
       refine sq (fun h18 h18p h18s => ?_) fun h18 h18p h18s => ?_
       ·try simp only [Q, Pat.cs_len] at h18p
        rcases rest with _ | ⟨y, rest⟩
        ·exfalso; simp_all
        have hy := s7 y (by rw [← hg2.1]; simp)
        refine Walk.idxG sl151 .none rfl rfl rfl rfl (zip_at hg2.1) rfl ?_
        refine evs [14, 108] [] ?_
        refine Walk.alloc (id := 3021) tz195 rfl .none rfl rfl rfl rfl ?_
        refine Walk.store ty195 .none rfl rfl rfl rfl rfl rfl (by simp) rfl ?_
        refine tv ?_
        refine Walk.idxA (i := y.var.toNat) ar200 .none rfl rfl rfl (Int.toNat_of_nonneg hy.1).symm (by omega) ?_
        refine Walk.loadB ty4 .none rfl rfl rfl ((by simpa using metA_get hy.1 hy.2)) ?_
        refine tv ?_
        refine sq (fun h19 h19p h19s => ?_) fun h19 h19p h19s => ?_
        ·try simp only [Q, Pat.cs_len] at h19p
         refine rn [(950, some (.box [.d (.i (finV (scanK (scanP w n) (decide (p.op = 5)) (typesP w ⟨a, k⟩ p) p.kids 0 (nameP ⟨a, k⟩ p) (c + 1))).2)]))] (r2 rfl rfl) (.tup (.cons (.nild ?_) (.cons (.eqd ?_) .nil))) ⟨rfl, rfl⟩ (SubO.get ⟨.inr (by first | (show some (Res.box _) = some (Res.box _); rw [hg1.none hl (by omega) (by assumption)]; done) | (show some (Res.box _) = some (Res.box _); rw [hg1.bad hl (by omega) (by assumption) (by assumption) (by assumption)]; done) | (show some (Res.box _) = some (Res.box _); rw [hg1.fin hl (by omega)]; done)), ⟨.inl rfl, trivial⟩⟩) (boxOK rfl)
         all_goals (first | (rw [hg1.none hl (by omega) (by assumption)]; first | done | rfl) | (rw [hg1.bad hl (by omega) (by assumption) (by assumption) (by assumption)]; first | done | rfl) | (rw [hg1.fin hl (by omega), if_neg (by rw [nodup_app hg2.1 (by assumption)]; simp)]; first | done | rfl) | (rw [hg1.fin hl (by omega), if_pos (by have hz := hg2.1; rw [List.append_nil] at hz; rw [← hz]; exact decide_eq_true hg2.2)]; first | done | rfl))
        ·try simp only [Q, Pat.cs_len] at h19p
         refine Walk.idxA (i := y.var.toNat) ar200 .none rfl rfl rfl (Int.toNat_of_nonneg hy.1).symm (by omega) ?_
         refine Walk.store ty4 .none rfl rfl rfl rfl rfl rfl (by simp) ((by simpa using metA_put hy.1 hy.2)) ?_
         refine tv ?_
         refine ar ?_
         refine Exists.intro ((pre ++ [y], rest)) ⟨⟨(by have hz := hg2.1; rw [← hz]; simp), (nodup_snoc hg2.2 (by simp_all))⟩, (by simp), Sub.x (by kernel_rfl) (by kernel_rfl) ⟨⟨_, rfl, (LeA.eqi (by first | rfl | (simp; done) | (simp_all; done) | omega))⟩, trivial⟩ (by kernel_rfl) (by kernel_rfl) ⟨(by first | rfl | (simp [getH]; done)), trivial⟩⟩
       ·try simp only [Q, Pat.cs_len] at h18p
        have hrest : rest = [] := by
         rcases rest with _ | ⟨a, b⟩
         ·rfl
         ·exfalso; have hz := congrArg List.length (hg2.1); simp only [List.length_append, List.length_cons, List.length_map] at hz; omega
        subst hrest
        refine rn [(950, some (.box [.d (.i (finV (scanK (scanP w n) (decide (p.op = 5)) (typesP w ⟨a, k⟩ p) p.kids 0 (nameP ⟨a, k⟩ p) (c + 1))).2)]))] (r2 rfl rfl) (.tup (.cons (.gld ?_) (.cons (.eqd ?_) .nil))) ⟨rfl, rfl⟩ (SubO.get ⟨.inr (by first | (show some (Res.box _) = some (Res.box _); rw [hg1.none hl (by omega) (by assumption)]; done) | (show some (Res.box _) = some (Res.box _); rw [hg1.bad hl (by omega) (by assumption) (by assumption) (by assumption)]; done) | (show some (Res.box _) = some (Res.box _); rw [hg1.fin hl (by omega)]; done)), ⟨.inl rfl, trivial⟩⟩) (boxOK rfl)
        all_goals (first | (rw [hg1.none hl (by omega) (by assumption)]; first | done | rfl) | (rw [hg1.bad hl (by omega) (by assumption) (by assumption) (by assumption)]; first | done | rfl) | (rw [hg1.fin hl (by omega), if_neg (by rw [nodup_app hg2.1 (by assumption)]; simp)]; first | done | rfl) | (rw [hg1.fin hl (by omega), if_pos (by have hz := hg2.1; rw [List.append_nil] at hz; rw [← hz]; exact decide_eq_true hg2.2)]; first | done | rfl))
  ·have hopf : okP w ⟨a, k⟩ p = false := by simpa using hop
   have e : scanP w (n + 1) ⟨a, k⟩ p c = (none, c + 1) := by unfold scanP; rw [if_neg h60, if_neg hop]
   rw [e]
   rw [hopf] at hsh
   refine bd Try.f165 114 [] [2] fun w0 F0 own kept hk => ?_
   refine Walk.box (id := 3006) .none rfl rfl rfl rfl rfl rfl rfl ?_
   refine Walk.box (id := 3007) .none rfl rfl rfl rfl rfl rfl rfl ?_
   refine ev ?_
   refine ar ?_
   refine Walk.store ty3 .none rfl rfl rfl rfl rfl rfl (by simp) rfl ?_
   refine tv ?_
   refine CWp.regionJ ?_
   refine WRest.join 8 [(34, .d (.bool (false)))] [27, 28, 29, 30, 31, 32, 33] ?_ ?_
   ·
    refine ev ?_
    refine sq (fun h1 h1p h1s => ?_) fun h1 h1p h1s => ?_
    ·try simp only [Q] at h1p
     exact jnb rfl
    ·try simp only [Q] at h1p
     exact jnb rfl
   refine WRest.done ?_
   refine tv ?_
   refine sq (fun h2 h2p h2s => ?_) fun h2 h2p h2s => ?_
   ·try simp only [Q] at h2p
    exact absurd h2 (by simp) --stop
   ·try simp only [Q] at h2p
    refine Walk.call (cr := []) cal166 (hsh) rfl .none rfl rfl (LeL.refl _) trivial rfl rfl rfl ?_
    refine ev ?_
    refine sq (fun h3 h3p h3s => ?_) fun h3 h3p h3s => ?_
    ·try simp only [Q] at h3p
     refine rn [(950, some (.box [.d (.i (c + 1))]))] (r2 rfl rfl) (.tup (.cons (.nild ?_) (.cons (.eqd ?_) .nil))) ⟨rfl, rfl⟩ (SubO.get ⟨.inr (by rfl), ⟨.inl rfl, trivial⟩⟩) (boxOK rfl)
     all_goals (rfl)
    ·try simp only [Q] at h3p
     exact absurd h3 (by simp) --stop
end Go.Proofs.Ytpimgoacljakgaa
namespace Go.Proofs.Ytpimgoacljakgaa
open Go
set_option linter.unusedSimpArgs false
set_option linter.unusedVariables false
set_option maxRecDepth 100000
set_option maxHeartbeats 2000000
abbrev dPtr (f : Nat → Nat) : D := .ptr (tabD 16 f) 0
abbrev sPtr (w : List Data) (f : Nat → Nat) : D := .ptr [encDatas w, dPtr f] 0
theorem impl_of_box {n : Nat} {f : Nat → Nat} {a k : Int} (h : InS n ⟨a, k⟩) (hn : n ≤ 16) :
  FnD Try.prog 126 [.ref 71 0, .agg [.d (.i a), .d (.i k)]] [(71, some (.box (tabC 16 f)))] (.d (.i (dv f ⟨a, k⟩))) [] := by
 have hs := h.facts
 refine bd Try.f126 17 [16] [] fun w0 F0 own kept hk => ?_
 refine Walk.box (id := 3003) .none rfl rfl rfl (by first | rfl | (simp only [freshB, occH, occE, Res.ids, List.cons_append, List.nil_append, AV.idsL, AV.ids, idsL_append, ownCells_ids, zerosA_idsR, repNil, List.map_cons, List.map_nil, upC, tab_ids]; rfl)) (by first | rfl | (simp only [freshB, occH, occE, Res.ids, List.cons_append, List.nil_append, AV.idsL, AV.ids, idsL_append, ownCells_ids, zerosA_idsR, repNil, List.map_cons, List.map_nil, upC, tab_ids]; rfl)) (by first | rfl | (simp only [freshB, occH, occE, Res.ids, List.cons_append, List.nil_append, AV.idsL, AV.ids, idsL_append, ownCells_ids, zerosA_idsR, repNil, List.map_cons, List.map_nil, upC, tab_ids]; rfl)) (by first | rfl | (simp only [freshB, occH, occE, Res.ids, List.cons_append, List.nil_append, AV.idsL, AV.ids, idsL_append, ownCells_ids, zerosA_idsR, repNil, List.map_cons, List.map_nil, upC, tab_ids]; rfl)) ?_
 refine evs [16] [] ?_
 refine sq (fun h1 h1p h1s => ?_) fun h1 h1p h1s => ?_
 ·try simp only [Q] at h1p
  refine rn [] (r1 rfl) (.eqd ?_) ⟨rfl, rfl⟩ (SubH.get ⟨rfl, trivial⟩) (fun _ h => h)
  all_goals (first | (rw [dv_int (by assumption)]; rfl) | (rw [dv_in (by assumption)]))
 ·try simp only [Q] at h1p
  refine Walk.idxA (i := a.toNat) ar186 .none rfl rfl rfl (by have := hs h1p; omega) (by have := hs h1p; omega) ?_
  refine Walk.idxA (i := k.toNat) ar184 .none rfl rfl rfl (by have := hs h1p; omega) (by have := hs h1p; omega) ?_
  refine Walk.loadB ty3 .none rfl rfl rfl ((tab_get (s := slotT ⟨a, k⟩) (by have := hs h1p; omega) (by have := hs h1p; omega))) ?_
  refine evd [16] [] ?_
  refine dr ?_
  refine rn [] (r1 rfl) (.eqd ?_) ⟨rfl, rfl⟩ (SubH.get ⟨rfl, trivial⟩) (fun _ h => h)
  all_goals (first | (rw [dv_int (by assumption)]; rfl) | (rw [dv_in (by assumption)]))
theorem impl_of_fn {n : Nat} {f : Nat → Nat} {a k : Int} (h : InS n ⟨a, k⟩) (hn : n ≤ 16) :
  FnD Try.prog 126 [.d (dPtr f), .agg [.d (.i a), .d (.i k)]] [] (.d (.i (dv f ⟨a, k⟩))) [] := by
 have hs := h.facts
 refine bd Try.f126 17 [16] [] fun w0 F0 own kept hk => ?_
 refine Walk.box (id := 3003) .none rfl rfl rfl rfl rfl rfl rfl ?_
 refine evs [16] [] ?_
 refine sq (fun h1 h1p h1s => ?_) fun h1 h1p h1s => ?_
 ·try simp only [Q] at h1p
  refine rn0 (r1 rfl) (.eqd ?_)
  all_goals (first | (rw [dv_int (by assumption)]; rfl) | (rw [dv_in (by assumption)]))
 ·try simp only [Q] at h1p
  refine Walk.idxAP (i := a.toNat) ar186 .none rfl rfl rfl (by have := hs h1p; omega) (by have := hs h1p; omega) ?_
  refine Walk.idxAP (i := k.toNat) ar184 .none rfl rfl rfl (by have := hs h1p; omega) (by have := hs h1p; omega) ?_
  refine Walk.loadP ty3 .none rfl rfl (tabD_get (s := slotT ⟨a, k⟩) (by have := hs h1p; omega) (by have := hs h1p; omega)) ?_
  refine evd [16] [] ?_
  refine dr ?_
  refine rn0 (r1 rfl) (.eqd ?_)
  all_goals (first | (rw [dv_int (by assumption)]; rfl) | (rw [dv_in (by assumption)]))
theorem impl_ofCtor_box {w : List Data} (hw : WT w) {n : Nat} {f : Nat → Nat} {a k c : Int} (ht : TyIn w.length ⟨a, k⟩) (hc : c ∈ vctors w ⟨a, k⟩) (hn : n ≤ 16) (hb : ∀ s, f s ≤ 100000) (hin : ∀ u ∈ argsOf w ⟨a, k⟩ c, InS n u) :
  FnD Try.prog 161 [.ref 71 0, .d (encDatas w), .agg [.d (.i a), .d (.i k)], .d (.i c)] [(71, some (.box (tabC 16 f)))] (.d (.i (most w f ⟨a, k⟩ c))) [] := by
 have hl := argsOf_small hw ht hc
 have hd := dv_bd hb (by omega)
 refine bd Try.f161 33 [] [] fun w0 F0 own kept hk => ?_
 refine Walk.box (id := 3006) .none rfl rfl rfl (by first | rfl | (simp only [freshB, occH, occE, Res.ids, List.cons_append, List.nil_append, AV.idsL, AV.ids, idsL_append, ownCells_ids, zerosA_idsR, repNil, List.map_cons, List.map_nil, upC, tab_ids]; rfl)) (by first | rfl | (simp only [freshB, occH, occE, Res.ids, List.cons_append, List.nil_append, AV.idsL, AV.ids, idsL_append, ownCells_ids, zerosA_idsR, repNil, List.map_cons, List.map_nil, upC, tab_ids]; rfl)) (by first | rfl | (simp only [freshB, occH, occE, Res.ids, List.cons_append, List.nil_append, AV.idsL, AV.ids, idsL_append, ownCells_ids, zerosA_idsR, repNil, List.map_cons, List.map_nil, upC, tab_ids]; rfl)) (by first | rfl | (simp only [freshB, occH, occE, Res.ids, List.cons_append, List.nil_append, AV.idsL, AV.ids, idsL_append, ownCells_ids, zerosA_idsR, repNil, List.map_cons, List.map_nil, upC, tab_ids]; rfl)) ?_
 refine ev ?_
 refine Walk.call (cr := []) cal129 (impl_argTypes_v hw ht hc) rfl .none rfl rfl (LeL.refl _) trivial rfl (by first | rfl | (simp only [okCall, List.all_cons, List.all_nil, entOK, entOK', AV.idsL, AV.ids, idsL_append, ownCells_ids, List.map_cons, List.map_nil, tab_ids]; rfl)) (by first | rfl | (simp only [freshB, occH, occE, Res.ids, List.cons_append, List.nil_append, AV.idsL, AV.ids, idsL_append, ownCells_ids, zerosA_idsR, repNil, List.map_cons, List.map_nil, upC, tab_ids]; rfl)) ?_
 refine ev ?_
 refine CWp.loopX (ι := List (Ty) × List (Ty) × (Nat)) hk (fun x => [(18, .d (.i (x.1.length : Int))), (9, .d (.i (x.2.2 : Int)))]) [8, 11, 12, 19, 20, 21, 22, 23, 24, 25, 26, 27, 28, 29, 30] (fun x => []) (fun x => x.1 ++ x.2.1 = argsOf w ⟨a, k⟩ c ∧ x.2.2 ≤ 100000 ∧ mostL f x.2.2 x.2.1 = mostL f 0 (argsOf w ⟨a, k⟩ c)) (fun x => x.2.1.length) ([], argsOf w ⟨a, k⟩ c, 0) ⟨by simp, by simp, rfl⟩ ⟨⟨_, rfl, (LeA.eqi (by first | rfl | (simp; done) | omega | (dsimp only; omega) | (dsimp only; split <;> omega)))⟩, ⟨⟨_, rfl, (LeA.eqi (by first | rfl | (simp; done) | omega | (dsimp only; omega) | (dsimp only; split <;> omega)))⟩, trivial⟩⟩ trivial (fun x => rfl) (fun x hg1 => ?_)
 obtain ⟨pre, rest, m⟩ := x
 dsimp only at hg1 ⊢
 refine evc [] [] ?_
 refine sq (fun h1 h1p h1s => ?_) fun h1 h1p h1s => ?_
 ·try simp only [Q] at h1p
  rcases rest with _ | ⟨y, rest⟩
  ·exfalso; simp_all
  have hdy := hd y; have hye : dv f ⟨y.data, y.index⟩ = dv f y := rfl
  refine Walk.idx sl25 .none rfl rfl rfl rfl (zip_at hg1.1) rfl ?_
  refine ev ?_
  refine Walk.alloc (id := 3011) tz31 rfl .none rfl (by first | rfl | (simp only [freshB, occH, occE, Res.ids, List.cons_append, List.nil_append, AV.idsL, AV.ids, idsL_append, ownCells_ids, zerosA_idsR, repNil, List.map_cons, List.map_nil, upC, tab_ids]; rfl)) (by first | rfl | (simp only [freshB, occH, occE, Res.ids, List.cons_append, List.nil_append, AV.idsL, AV.ids, idsL_append, ownCells_ids, zerosA_idsR, repNil, List.map_cons, List.map_nil, upC, tab_ids]; rfl)) (by first | rfl | (simp only [freshB, occH, occE, Res.ids, List.cons_append, List.nil_append, AV.idsL, AV.ids, idsL_append, ownCells_ids, zerosA_idsR, repNil, List.map_cons, List.map_nil, upC, tab_ids]; rfl)) ?_
  refine Walk.store ty31 .none rfl rfl rfl rfl rfl rfl (by simp) rfl ?_
  refine tv ?_
  refine Walk.call (cr := []) cal126 (impl_of_box (f := f) (a := y.data) (k := y.index) (hin y (by rw [← hg1.1]; simp)) hn) rfl .none rfl rfl (LeL.refl _) ⟨rfl, trivial⟩ rfl (by first | rfl | (simp only [okCall, List.all_cons, List.all_nil, entOK, entOK', AV.idsL, AV.ids, idsL_append, ownCells_ids, List.map_cons, List.map_nil, tab_ids]; rfl)) (by first | rfl | (simp only [freshB, occH, occE, Res.ids, List.cons_append, List.nil_append, AV.idsL, AV.ids, idsL_append, ownCells_ids, zerosA_idsR, repNil, List.map_cons, List.map_nil, upC, tab_ids]; rfl)) ?_
  refine ev ?_
  refine sq (fun h2 h2p h2s => ?_) fun h2 h2p h2s => ?_
  ·try simp only [Q] at h2p
   refine rn [] (r1 rfl) (.eqd ?_) ⟨rfl, rfl⟩ (SubH.get ⟨rfl, trivial⟩) (fun _ h => h)
   all_goals (refine congrArg D.i ?_; unfold most; rw [← hg1.2.2]; first | (simp only [mostL]; rw [if_pos (by omega)]; rfl) | (simp only [mostL]; omega))
  ·try simp only [Q] at h2p
   refine Walk.maxI .none rfl rfl rfl ?_
   refine ev ?_
   refine ar ?_
   refine Exists.intro ((pre ++ [y], rest, max m (dv f y))) ⟨⟨(by have hz := hg1.1; rw [← hz]; simp), ⟨(by have := hd y; dsimp only; omega), (by rw [← hg1.2.2]; simp only [mostL]; rw [if_neg (by have := hd y; omega)])⟩⟩, (by simp), Sub.x (by kernel_rfl) (by kernel_rfl) ⟨⟨_, rfl, (LeA.eqi (by first | rfl | (simp; done) | omega | (dsimp only; omega) | (dsimp only; split <;> omega)))⟩, ⟨⟨_, rfl, (LeA.eqi (by first | rfl | (simp; done) | omega | (dsimp only; omega) | (dsimp only; split <;> omega)))⟩, trivial⟩⟩ (by kernel_rfl) (by kernel_rfl) trivial⟩
 ·try simp only [Q] at h1p
  have hrest : rest = [] := by
   rcases rest with _ | ⟨a, b⟩
   ·rfl
   ·exfalso; have hz := congrArg List.length (hg1.1); simp only [List.length_append, List.length_cons, List.length_map] at hz; omega
  subst hrest
  refine ar ?_
  refine rn [] (r1 rfl) (.eqd ?_) ⟨rfl, rfl⟩ (SubH.get ⟨rfl, trivial⟩) (fun _ h => h)
  all_goals (refine congrArg D.i ?_; unfold most; rw [← hg1.2.2]; first | (simp only [mostL]; rw [if_pos (by omega)]; rfl) | (simp only [mostL]; omega))
theorem tyS_ij {i j : Nat} (h : j < 4) : tyS (i * 4 + j) = ⟨(i : Int), (j : Int)⟩ := by
 unfold tyS
 rw [show (i * 4 + j) / 4 = i by omega, show (i * 4 + j) % 4 = j by omega]
theorem bet_row {w : List Data} {k s : Nat} {pre : List Int} : Bet (iterT w k) (rowT w k s pre) := (steps_bet _ _).trans (row_bet _ _)
theorem strict_relax {w : List Data} {g f : Nat → Nat} {s : Nat} {c : Int} (hB : Bet g f)
  (h : decide ((0 : Int) < (most w f (tyS s) c : Int) ∧ ((f s : Int) = 0 ∨ (most w f (tyS s) c : Int) < (f s : Int))) = true) : Strict g (relax w s f c) := by
 rw [relax_pos h]
 rw [decide_eq_true_eq] at h
 refine ⟨s, by unfold updF; rw [if_pos rfl]; omega, ?_⟩
 unfold updF; rw [if_pos rfl]
 rcases Nat.eq_zero_or_pos (g s) with h0 | h0
 ·exact .inl h0
 ·have := hB s h0
  right; omega
theorem impl_ctorsOf_ij {w : List Data} (hw : WT w) {i j : Nat} (hi : i < w.length) (hj : j < 4) : FnD Try.prog 128 [.d (encDatas w), .agg [.d (.i (i : Int)), .d (.i (j : Int))]] [] (.d (encInts (ctorsOf w (tyS (i * 4 + j))))) [] := by
 rw [← vctors_S, tyS_ij hj]; exact impl_ctorsOf_v hw (.inr ⟨i, rfl, hi⟩)
theorem impl_of_ij {w : List Data} {f : Nat → Nat} {i j : Nat} (hi : i < w.length) (h4 : w.length ≤ 4) (hj : j < 4) :
  FnD Try.prog 126 [.ref 71 0, .agg [.d (.i (i : Int)), .d (.i (j : Int))]] [(71, some (.box (tabC 16 f)))] (.d (.i (f (i * 4 + j)))) [] := by
 have h := impl_of_box (n := w.length * 4) (f := f) (a := (i : Int)) (k := (j : Int)) (.inr ⟨by simp only [slotT, Int.toNat_natCast]; omega, by simp only [slotT, Int.toNat_natCast]; exact tyS_ij hj⟩) (by omega)
 have e : slotT ⟨(i : Int), (j : Int)⟩ = i * 4 + j := by simp only [slotT, Int.toNat_natCast]
 rwa [dv_in (by omega), e] at h
theorem impl_ofCtor_ij {w : List Data} (hd : Dp w) {f : Nat → Nat} {i j : Nat} {c : Int} (hi : i < w.length) (hj : j < 4) (hc : c ∈ ctorsOf w (tyS (i * 4 + j))) (hb : ∀ s, f s ≤ 100000) :
  FnD Try.prog 161 [.ref 71 0, .d (encDatas w), .agg [.d (.i (i : Int)), .d (.i (j : Int))], .d (.i c)] [(71, some (.box (tabC 16 f)))] (.d (.i (most w f (tyS (i * 4 + j)) c))) [] := by
 have h4 := hd.four
 have hcl := hd.cl (i * 4 + j) (by omega) c hc
 rw [← vctors_S, tyS_ij hj] at hc
 rw [tyS_ij hj] at hcl ⊢
 exact impl_ofCtor_box hd.wt (.inr ⟨i, rfl, hi⟩) hc (n := w.length * 4) (by omega) hb hcl
theorem impl_depthsOf_fn {w : List Data} (hd : Dp w) : FnD Try.prog 125 [.d (encDatas w)] [] (.d (dPtr (depthT w))) [] := by
 have hw := hd.wt
 have hw4 := hd.four
 have hlw : ((w.map Data.c).length : Int) = w.length := by simp
 refine bd Try.f125 64 [] [16, 20] fun w0 F0 own kept hk => ?_
 refine Walk.buildZ tz186 ar186 .none rfl ?_
 refine Walk.box (id := 71) .none rfl rfl rfl (by first | rfl | (simp only [freshB, occH, occE, Res.ids, List.cons_append, List.nil_append, AV.idsL, AV.ids, idsL_append, ownCells_ids, zerosA_idsR, repNil, List.map_cons, List.map_nil, upC, tab_ids]; rfl)) (by first | rfl | (simp only [freshB, occH, occE, Res.ids, List.cons_append, List.nil_append, AV.idsL, AV.ids, idsL_append, ownCells_ids, zerosA_idsR, repNil, List.map_cons, List.map_nil, upC, tab_ids]; rfl)) (by first | rfl | (simp only [freshB, occH, occE, Res.ids, List.cons_append, List.nil_append, AV.idsL, AV.ids, idsL_append, ownCells_ids, zerosA_idsR, repNil, List.map_cons, List.map_nil, upC, tab_ids]; rfl)) (by first | rfl | (simp only [freshB, occH, occE, Res.ids, List.cons_append, List.nil_append, AV.idsL, AV.ids, idsL_append, ownCells_ids, zerosA_idsR, repNil, List.map_cons, List.map_nil, upC, tab_ids]; rfl)) ?_
 refine ev ?_
 refine CWp.loopX (ι := Nat × Bool) hk (fun o => [(4, .d (.bool o.2))]) [5, 6, 7, 9, 10, 13, 14, 15, 16, 17, 18, 19, 20, 21, 22, 23, 24, 25, 26, 27, 28, 29, 30, 31, 32, 33, 34, 35, 36, 37, 38, 39, 40, 41, 42, 43, 44, 45, 46, 47, 48, 49, 50, 51, 52, 53, 54, 55, 56, 57, 58, 59, 60, 61, 62] (fun o => [(71, some (.box (tabC 16 (iterT w o.1))))]) (fun o => (o.2 = false → iterT w o.1 = depthT w) ∧ (o.2 = true → o.1 ≤ w.length * 4 + 1)) (fun o => if o.2 then w.length * 4 + 2 - o.1 else 0) (0, true) ⟨by simp, by simp⟩ ⟨⟨_, rfl, (LeA.eqb (by first | rfl | (simp; done) | (simp_all; done) | omega))⟩, trivial⟩ ⟨(by first | rfl | (have e : y.1 = w.length := (by omega); rw [e]; rfl)), trivial⟩ (fun x => rfl) (fun o hg1 => ?_)
 refine evc [] [16, 20] ?_
 refine sq (fun h1 h1p h1s => ?_) fun h1 h1p h1s => ?_
 ·try simp only [Q] at h1p
  refine CWp.loopX (ι := Nat × Bool) hk (fun y => [(16, .d (.i (y.1 : Int))), (4, .d (.bool y.2))]) [5, 6, 7, 9, 10, 17, 18, 19, 20, 21, 22, 23, 24, 25, 26, 27, 28, 29, 30, 31, 32, 33, 34, 35, 36, 37, 38, 39, 40, 41, 42, 43, 44, 45, 46, 47, 48, 49, 50, 51, 52, 53, 54, 55, 56, 57, 58, 59, 60, 61, 62] (fun y => [(71, some (.box (tabC 16 (midT w o.1 (y.1 * 4)))))]) (fun y => y.1 ≤ w.length ∧ (y.2 = false → midT w o.1 (y.1 * 4) = iterT w o.1) ∧ (y.2 = true → Strict (iterT w o.1) (midT w o.1 (y.1 * 4)))) (fun y => w.length - y.1) (0, false) ⟨by simp, fun _ => rfl, by simp⟩ ⟨⟨_, rfl, (LeA.eqi (by first | rfl | (simp; done) | (simp_all; done) | omega))⟩, ⟨⟨_, rfl, (LeA.eqb (by first | rfl | (simp; done) | (simp_all; done) | omega))⟩, trivial⟩⟩ ⟨(by first | rfl | (have e : z.1 = 4 := (by omega); rw [e, ← Nat.succ_mul]; rfl)), trivial⟩ (fun x => rfl) (fun y hg2 => ?_)
  have ho := hg1.2 h1s
  refine evc [] [16, 20] ?_
  refine sq (fun h2 h2p h2s => ?_) fun h2 h2p h2s => ?_
  ·try simp only [Q] at h2p
   refine CWp.loopX (ι := Nat × Bool) hk (fun z => [(6, .d (.i (z.1 : Int))), (4, .d (.bool z.2))]) [7, 9, 10, 19, 20, 21, 22, 23, 24, 25, 26, 27, 28, 29, 30, 31, 32, 33, 34, 35, 36, 37, 38, 39, 40, 41, 42, 43, 44, 45, 46, 47, 48, 49, 50, 51, 52, 53, 54, 55, 56, 57, 58, 59, 60, 61] (fun z => [(71, some (.box (tabC 16 (midT w o.1 (y.1 * 4 + z.1)))))]) (fun z => z.1 ≤ 4 ∧ (z.2 = false → midT w o.1 (y.1 * 4 + z.1) = iterT w o.1) ∧ (z.2 = true → Strict (iterT w o.1) (midT w o.1 (y.1 * 4 + z.1)))) (fun z => 4 - z.1) (0, y.2) ⟨by simp, hg2.2⟩ ⟨⟨_, rfl, (LeA.eqi (by first | rfl | (simp; done) | (simp_all; done) | omega))⟩, ⟨⟨_, rfl, (LeA.eqb (by first | rfl | (simp; done) | (simp_all; done) | omega))⟩, trivial⟩⟩ ⟨(by first | rfl | (show some (Res.box _) = some (Res.box _); rw [← hg4.1, List.append_nil] at *; done) | (show some (Res.box _) = some (Res.box _); rw [← Nat.add_assoc, ← midT_next, ← hg4.1, List.append_nil])), trivial⟩ (fun x => rfl) (fun z hg3 => ?_)
   refine evc [] [16, 20] ?_
   refine sq (fun h3 h3p h3s => ?_) fun h3 h3p h3s => ?_
   ·try simp only [Q] at h3p
    refine Walk.build st31 (ks := [0, 1]) (xs := [_, _]) rfl rfl .none rfl rfl rfl ?_
    refine Walk.alloc (id := 3007) tz31 rfl .none rfl (by first | rfl | (simp only [freshB, occH, occE, Res.ids, List.cons_append, List.nil_append, AV.idsL, AV.ids, idsL_append, ownCells_ids, zerosA_idsR, repNil, List.map_cons, List.map_nil, upC, tab_ids]; rfl)) (by first | rfl | (simp only [freshB, occH, occE, Res.ids, List.cons_append, List.nil_append, AV.idsL, AV.ids, idsL_append, ownCells_ids, zerosA_idsR, repNil, List.map_cons, List.map_nil, upC, tab_ids]; rfl)) (by first | rfl | (simp only [freshB, occH, occE, Res.ids, List.cons_append, List.nil_append, AV.idsL, AV.ids, idsL_append, ownCells_ids, zerosA_idsR, repNil, List.map_cons, List.map_nil, upC, tab_ids]; rfl)) ?_
    refine Walk.store ty31 .none rfl rfl rfl rfl rfl rfl (by simp) rfl ?_
    refine tv ?_
    refine Walk.call (cr := []) cal128 (impl_ctorsOf_ij hw (i := y.1) (j := z.1) (by omega) (by omega)) rfl .none rfl rfl (LeL.refl _) trivial rfl (by first | rfl | (simp only [okCall, List.all_cons, List.all_nil, entOK, entOK', AV.idsL, AV.ids, idsL_append, ownCells_ids, List.map_cons, List.map_nil, tab_ids]; rfl)) (by first | rfl | (simp only [freshB, occH, occE, Res.ids, List.cons_append, List.nil_append, AV.idsL, AV.ids, idsL_append, ownCells_ids, zerosA_idsR, repNil, List.map_cons, List.map_nil, upC, tab_ids]; rfl)) ?_
    refine ev ?_
    refine CWp.loopX (ι := List (Int) × List (Int) × (Bool)) hk (fun x => [(30, .d (.i (x.1.length : Int))), (4, .d (.bool x.2.2))]) [9, 10, 31, 32, 33, 34, 35, 36, 37, 38, 39, 40, 41, 42, 43, 44, 45, 46, 47, 48, 49, 50, 51, 52, 53, 54, 55, 56, 57, 58, 59, 60, 61] (fun x => [(71, some (.box (tabC 16 (rowT w o.1 (y.1 * 4 + z.1) x.1))))]) (fun x => x.1 ++ x.2.1 = ctorsOf w (tyS (y.1 * 4 + z.1)) ∧ (x.2.2 = false → rowT w o.1 (y.1 * 4 + z.1) x.1 = iterT w o.1) ∧ (x.2.2 = true → Strict (iterT w o.1) (rowT w o.1 (y.1 * 4 + z.1) x.1))) (fun x => x.2.1.length) ([], ctorsOf w (tyS (y.1 * 4 + z.1)), z.2) ⟨by simp, hg3.2⟩ ⟨⟨_, rfl, (LeA.eqi (by first | rfl | (simp; done) | (rw [h7]; rfl) | (rw [h7, Bool.false_or]; done) | (rw [h7, Bool.true_or]; done) | omega))⟩, ⟨⟨_, rfl, (LeA.eqb (by first | rfl | (simp; done) | (rw [h7]; rfl) | (rw [h7, Bool.false_or]; done) | (rw [h7, Bool.true_or]; done) | omega))⟩, trivial⟩⟩ ⟨(by first | rfl | (show some (Res.box _) = some (Res.box _); rw [rowT_next]; first | (rw [relax_pos (by assumption)]; done) | (rw [relax_neg (by assumption)]; done))), trivial⟩ (fun x => rfl) (fun x hg4 => ?_)
    obtain ⟨pre, rest, b⟩ := x
    dsimp only at hg4 ⊢
    have hct := hd.ct (y.1 * 4 + z.1) (by omega)
    refine evc [] [16, 20] ?_
    refine sq (fun h4 h4p h4s => ?_) fun h4 h4p h4s => ?_
    ·try simp only [Q] at h4p
     rcases rest with _ | ⟨c, rest⟩
     ·exfalso; simp_all
     refine Walk.idx sl66 .none rfl rfl rfl rfl (zip_at hg4.1) rfl ?_
     refine ev ?_
     refine Walk.call (cr := []) cal161 (impl_ofCtor_ij hd (f := rowT w o.1 (y.1 * 4 + z.1) pre) (i := y.1) (j := z.1) (c := c) (by omega) (by omega) (by rw [← hg4.1]; simp) (rowT_bd hd (by omega) (by omega) (by have hz := congrArg List.length hg4.1; simp at hz; omega))) rfl .none rfl rfl (LeL.refl _) ⟨rfl, trivial⟩ rfl (by first | rfl | (simp only [okCall, List.all_cons, List.all_nil, entOK, entOK', AV.idsL, AV.ids, idsL_append, ownCells_ids, List.map_cons, List.map_nil, tab_ids]; rfl)) (by first | rfl | (simp only [freshB, occH, occE, Res.ids, List.cons_append, List.nil_append, AV.idsL, AV.ids, idsL_append, ownCells_ids, zerosA_idsR, repNil, List.map_cons, List.map_nil, upC, tab_ids]; rfl)) ?_
     refine ev ?_
     refine CWp.regionJ ?_
     refine WRest.join 15 [(53, .d (.bool (decide ((0 : Int) < (most w (rowT w o.1 (y.1 * 4 + z.1) pre) (tyS (y.1 * 4 + z.1)) c : Int) ∧ ((rowT w o.1 (y.1 * 4 + z.1) pre (y.1 * 4 + z.1) : Int) = 0 ∨ (most w (rowT w o.1 (y.1 * 4 + z.1) pre) (tyS (y.1 * 4 + z.1)) c : Int) < (rowT w o.1 (y.1 * 4 + z.1) pre (y.1 * 4 + z.1) : Int))))))] [39, 40, 41, 42, 43, 44, 45, 46, 47, 48, 49, 50, 51, 52] ?_ ?_
     ·
      refine ev ?_
      refine sq (fun h5 h5p h5s => ?_) fun h5 h5p h5s => ?_
      ·try simp only [Q] at h5p
       refine Walk.call (cr := []) cal126 (impl_of_ij (w := w) (f := rowT w o.1 (y.1 * 4 + z.1) pre) (i := y.1) (j := z.1) (by omega) hw4 (by omega)) rfl (.some rfl rfl h5) rfl rfl (LeL.refl _) ⟨rfl, trivial⟩ rfl (by first | rfl | (simp only [okCall, List.all_cons, List.all_nil, entOK, entOK', AV.idsL, AV.ids, idsL_append, ownCells_ids, List.map_cons, List.map_nil, tab_ids]; rfl)) (by first | rfl | (simp only [freshB, occH, occE, Res.ids, List.cons_append, List.nil_append, AV.idsL, AV.ids, idsL_append, ownCells_ids, zerosA_idsR, repNil, List.map_cons, List.map_nil, upC, tab_ids]; rfl)) ?_
       refine evs [] [(41, true)] ?_ ⟨⟨_, rfl, h5⟩, trivial⟩
       refine sq (fun h6 h6p h6s => ?_) fun h6 h6p h6s => ?_
       ·try simp only [Q] at h6p
        exact jnb rfl
       ·try simp only [Q] at h6p
        refine Walk.call (cr := []) cal126 (impl_of_ij (w := w) (f := rowT w o.1 (y.1 * 4 + z.1) pre) (i := y.1) (j := z.1) (by omega) hw4 (by omega)) rfl (.some rfl rfl h6) rfl rfl (LeL.refl _) ⟨rfl, trivial⟩ rfl (by first | rfl | (simp only [okCall, List.all_cons, List.all_nil, entOK, entOK', AV.idsL, AV.ids, idsL_append, ownCells_ids, List.map_cons, List.map_nil, tab_ids]; rfl)) (by first | rfl | (simp only [freshB, occH, occE, Res.ids, List.cons_append, List.nil_append, AV.idsL, AV.ids, idsL_append, ownCells_ids, zerosA_idsR, repNil, List.map_cons, List.map_nil, upC, tab_ids]; rfl)) ?_
        refine evs [] [(41, true), (46, false)] ?_ ⟨⟨_, rfl, h5⟩, ⟨_, rfl, h6⟩, trivial⟩
        exact jnb rfl
      ·try simp only [Q] at h5p
       exact jnb rfl
     refine WRest.done ?_
     refine tv ?_
     refine sq (fun h7 h7p h7s => ?_) fun h7 h7p h7s => ?_
     ·try simp only [Q] at h7p
      refine Walk.idxA (i := y.1) ar186 .none rfl rfl rfl rfl (by omega) ?_
      refine Walk.idxA (i := z.1) ar184 .none rfl rfl rfl rfl (by omega) ?_
      refine Walk.store ty3 .none rfl rfl rfl rfl rfl rfl (by simp) ((tab_put (s := y.1 * 4 + z.1) (v := most w (rowT w o.1 (y.1 * 4 + z.1) pre) (tyS (y.1 * 4 + z.1)) c) (by omega) (by omega) rfl)) ?_
      refine ev ?_
      refine ar ?_
      refine Exists.intro ((pre ++ [c], rest, (decide ((0 : Int) < (most w (rowT w o.1 (y.1 * 4 + z.1) pre) (tyS (y.1 * 4 + z.1)) c : Int) ∧ ((rowT w o.1 (y.1 * 4 + z.1) pre (y.1 * 4 + z.1) : Int) = 0 ∨ (most w (rowT w o.1 (y.1 * 4 + z.1) pre) (tyS (y.1 * 4 + z.1)) c : Int) < (rowT w o.1 (y.1 * 4 + z.1) pre (y.1 * 4 + z.1) : Int)))) || b)) ⟨⟨(by have hz := hg4.1; rw [← hz]; simp), (by
         dsimp only
         rw [rowT_next]
         cases hq : decide ((0 : Int) < (most w (rowT w o.1 (y.1 * 4 + z.1) pre) (tyS (y.1 * 4 + z.1)) c : Int) ∧ ((rowT w o.1 (y.1 * 4 + z.1) pre (y.1 * 4 + z.1) : Int) = 0 ∨ (most w (rowT w o.1 (y.1 * 4 + z.1) pre) (tyS (y.1 * 4 + z.1)) c : Int) < (rowT w o.1 (y.1 * 4 + z.1) pre (y.1 * 4 + z.1) : Int))) with
         | true => exact ⟨fun h => by simp at h, fun _ => strict_relax bet_row hq⟩
         | false => rw [relax_neg hq]; exact hg4.2)⟩, (by simp), Sub.x (by kernel_rfl) (by kernel_rfl) ⟨⟨_, rfl, (LeA.eqi (by first | rfl | (simp; done) | (rw [h7]; rfl) | (rw [h7, Bool.false_or]; done) | (rw [h7, Bool.true_or]; done) | omega))⟩, ⟨⟨_, rfl, (LeA.eqb (by first | rfl | (simp; done) | (rw [h7]; rfl) | (rw [h7, Bool.false_or]; done) | (rw [h7, Bool.true_or]; done) | omega))⟩, trivial⟩⟩ (by kernel_rfl) (by kernel_rfl) ⟨(by first | rfl | (show some (Res.box _) = some (Res.box _); rw [rowT_next]; first | (rw [relax_pos (by assumption)]; done) | (rw [relax_neg (by assumption)]; done))), trivial⟩⟩
     ·try simp only [Q] at h7p
      refine ar ?_
      refine Exists.intro ((pre ++ [c], rest, (decide ((0 : Int) < (most w (rowT w o.1 (y.1 * 4 + z.1) pre) (tyS (y.1 * 4 + z.1)) c : Int) ∧ ((rowT w o.1 (y.1 * 4 + z.1) pre (y.1 * 4 + z.1) : Int) = 0 ∨ (most w (rowT w o.1 (y.1 * 4 + z.1) pre) (tyS (y.1 * 4 + z.1)) c : Int) < (rowT w o.1 (y.1 * 4 + z.1) pre (y.1 * 4 + z.1) : Int)))) || b)) ⟨⟨(by have hz := hg4.1; rw [← hz]; simp), (by
         dsimp only
         rw [rowT_next]
         cases hq : decide ((0 : Int) < (most w (rowT w o.1 (y.1 * 4 + z.1) pre) (tyS (y.1 * 4 + z.1)) c : Int) ∧ ((rowT w o.1 (y.1 * 4 + z.1) pre (y.1 * 4 + z.1) : Int) = 0 ∨ (most w (rowT w o.1 (y.1 * 4 + z.1) pre) (tyS (y.1 * 4 + z.1)) c : Int) < (rowT w o.1 (y.1 * 4 + z.1) pre (y.1 * 4 + z.1) : Int))) with
         | true => exact ⟨fun h => by simp at h, fun _ => strict_relax bet_row hq⟩
         | false => rw [relax_neg hq]; exact hg4.2)⟩, (by simp), Sub.x (by kernel_rfl) (by kernel_rfl) ⟨⟨_, rfl, (LeA.eqi (by first | rfl | (simp; done) | (rw [h7]; rfl) | (rw [h7, Bool.false_or]; done) | (rw [h7, Bool.true_or]; done) | omega))⟩, ⟨⟨_, rfl, (LeA.eqb (by first | rfl | (simp; done) | (rw [h7]; rfl) | (rw [h7, Bool.false_or]; done) | (rw [h7, Bool.true_or]; done) | omega))⟩, trivial⟩⟩ (by kernel_rfl) (by kernel_rfl) ⟨(by first | rfl | (show some (Res.box _) = some (Res.box _); rw [rowT_next]; first | (rw [relax_pos (by assumption)]; done) | (rw [relax_neg (by assumption)]; done))), trivial⟩⟩
    ·try simp only [Q] at h4p
     have hrest : rest = [] := by
      rcases rest with _ | ⟨a, b⟩
      ·rfl
      ·exfalso; have hz := congrArg List.length (hg4.1); simp only [List.length_append, List.length_cons, List.length_map] at hz; omega
     subst hrest
     refine ar ?_
     refine Exists.intro ((z.1 + 1, b)) ⟨(by
        obtain ⟨p1, p2⟩ := hg4
        rw [List.append_nil] at p1
        rw [p1, midT_next, Nat.add_assoc] at p2
        exact ⟨by dsimp only; omega, p2⟩), (by dsimp only; omega), Sub.x (by kernel_rfl) (by kernel_rfl) ⟨⟨_, rfl, (LeA.eqi (by first | rfl | (simp; done) | (simp_all; done) | omega))⟩, ⟨⟨_, rfl, (LeA.eqb (by first | rfl | (simp; done) | (simp_all; done) | omega))⟩, trivial⟩⟩ (by kernel_rfl) (by kernel_rfl) ⟨(by first | rfl | (show some (Res.box _) = some (Res.box _); rw [← hg4.1, List.append_nil] at *; done) | (show some (Res.box _) = some (Res.box _); rw [← Nat.add_assoc, ← midT_next, ← hg4.1, List.append_nil])), trivial⟩⟩
   ·try simp only [Q] at h3p
    refine ar ?_
    refine Exists.intro ((y.1 + 1, z.2)) ⟨(by
       have e : z.1 = 4 := by omega
       obtain ⟨_, q1, q2⟩ := hg3
       rw [e, ← Nat.succ_mul] at q1 q2
       exact ⟨by dsimp only; omega, q1, q2⟩), (by dsimp only; omega), Sub.x (by kernel_rfl) (by kernel_rfl) ⟨⟨_, rfl, (LeA.eqi (by first | rfl | (simp; done) | (simp_all; done) | omega))⟩, ⟨⟨_, rfl, (LeA.eqb (by first | rfl | (simp; done) | (simp_all; done) | omega))⟩, trivial⟩⟩ (by kernel_rfl) (by kernel_rfl) ⟨(by first | rfl | (have e : z.1 = 4 := (by omega); rw [e, ← Nat.succ_mul]; rfl)), trivial⟩⟩
  ·try simp only [Q] at h2p
   refine Exists.intro ((o.1 + 1, y.2)) ⟨⟨(fun h => by
      have e : y.1 = w.length := by omega
      have h1 := hg2.2.1 h
      rw [e] at h1
      have h2 : iterT w (o.1 + 1) = iterT w o.1 := h1
      rw [h2]; exact iter_fix hd.cl h2), (fun h => by
      have e : y.1 = w.length := by omega
      have h1 := hg2.2.2 h
      rw [e] at h1
      have h3 := hg1.2 h1s
      show o.1 + 1 ≤ w.length * 4 + 1
      rcases Nat.lt_or_ge o.1 (w.length * 4 + 1) with h4 | h4
      ·omega
      ·refine absurd ?_ (Strict.ne h1)
       rw [iter_eq hd.cl h4]
       exact (iter_eq hd.cl (k := o.1 + 1) (by omega)).symm)⟩, (by have h3 := hg1.2 h1s; rw [h1s]; dsimp only; simp only [if_true]; split <;> omega), Sub.x (by kernel_rfl) (by kernel_rfl) ⟨⟨_, rfl, (LeA.eqb (by first | rfl | (simp; done) | (simp_all; done) | omega))⟩, trivial⟩ (by kernel_rfl) (by kernel_rfl) ⟨(by first | rfl | (have e : y.1 = w.length := (by omega); rw [e]; rfl)), trivial⟩⟩
 ·try simp only [Q] at h1p
  refine CWp.frzB hk 3 71 0 rfl rfl toDL_tab rfl ?_
  refine evc [] [] ?_
  refine rn0 (r1 rfl) (.eqd ?_)
  all_goals (rw [hg1.1 h1s])
end Go.Proofs.Ytpimgoacljakgaa
namespace Go.Proofs.Ytpimgoacljakgaa
open Go
set_option linter.unusedSimpArgs false
set_option linter.unusedVariables false
set_option maxRecDepth 100000
set_option maxHeartbeats 4000000
theorem scan0 (w : List Data) (t : Ty) (p : Pat) : (scanP w 10 t p 0).1.isSome = isP w t p := by
 have h := (scanP_eq w 10 t p 0).1
 rw [h]
 unfold wantP isP
 rw [Int.zero_add]
 split
 ·rename_i hz; rw [hz]; rfl
 ·rename_i hz
  cases hc : (shapeP w 10 t p && (decide ((p.size : Int) ≤ 60) && linP w 10 t p)) with
  | true => exact absurd hc hz
  | false => rfl
theorem impl_patternVars_fn {w : List Data} (hw : WT w) {a k : Int} {p : Pat} (ht : TyIn w.length ⟨a, k⟩) (hok : p.ok) :
  FnD Try.prog 134 [.d (encDatas w), .agg [.d (.i a), .d (.i k)], .agg [.d (.i p.op), .d (.i p.ctor), .d (.i p.n), .d (.i p.m), .d (.i p.var), .d (encPats p.kids)]] [] (.tup [.d (encVts (someV (scanP w 10 ⟨a, k⟩ p 0).1)), .d (.bool (isP w ⟨a, k⟩ p))]) [] := by
 rw [← scan0]
 refine bd Try.f134 15 [] [] fun w0 F0 own kept hk => ?_
 refine Walk.box (id := 3004) .none rfl rfl rfl rfl rfl rfl rfl ?_
 refine Walk.box (id := 3005) .none rfl rfl rfl rfl rfl rfl rfl ?_
 refine ev ?_
 refine Walk.alloc (id := 950) tz3 rfl .none rfl rfl rfl rfl ?_
 refine Walk.store ty3 .none rfl rfl rfl rfl rfl rfl (by simp) rfl ?_
 refine tv ?_
 refine Walk.call (cr := []) cal165 (impl_patternScan_fn hw 10 (c := 0) (by omega) (by omega) ht hok (by omega) (by omega)) rfl .none rfl rfl (LeL.refl _) ⟨rfl, trivial⟩ rfl rfl rfl ?_
 refine ev ?_
 refine rn0 (r2 rfl rfl) (.tup (.cons (.eqd ?_) (.cons (.eqd ?_) .nil)))
 all_goals (rfl)
theorem impl_patternOk_fn {w : List Data} (hw : WT w) {a k : Int} {p : Pat} (ht : TyIn w.length ⟨a, k⟩) (hok : p.ok) :
  FnD Try.prog 83 [.d (encDatas w), .agg [.d (.i a), .d (.i k)], .agg [.d (.i p.op), .d (.i p.ctor), .d (.i p.n), .d (.i p.m), .d (.i p.var), .d (encPats p.kids)]] [] (.d (.bool (isP w ⟨a, k⟩ p))) [] := by
 refine bd Try.f83 17 [] [] fun w0 F0 own kept hk => ?_
 refine Walk.box (id := 3004) .none rfl rfl rfl rfl rfl rfl rfl ?_
 refine Walk.box (id := 3005) .none rfl rfl rfl rfl rfl rfl rfl ?_
 refine ev ?_
 refine Walk.call (cr := []) cal134 (impl_patternVars_fn hw ht hok) rfl .none rfl rfl (LeL.refl _) trivial rfl rfl rfl ?_
 refine ev ?_
 refine rn0 (r1 rfl) (.eqd ?_)
 all_goals (rfl)
end Go.Proofs.Ytpimgoacljakgaa
namespace Go.Proofs.Ytpimgoacljakgaa
open Go
set_option linter.unusedSimpArgs false
set_option linter.unusedVariables false
set_option maxRecDepth 100000
set_option maxHeartbeats 2000000
def someP (w : List Data) (f : Nat → Nat) : Nat → Ty → Pat → Bool
 | 0, _, _ => false
 | n + 1, t, p =>
  if p.op = 1 ∨ p.op = 2 then decide (0 < dv f t)
  else if p.op = 3 then true
  else if p.op = 5 then someP w f n t (nth p.kids 0) || someP w f n t (nth p.kids 1)
  else if p.op = 6 then someP w f n t (nth p.kids 0)
  else decide (p.ctor ∈ vctors w t) && all2 (someP w f n) (argsOf w t p.ctor) p.kids
def rootP (w : List Data) : Nat → Ty → Pat → Bool
 | 0, _, _ => false
 | n + 1, t, p =>
  if p.op = 6 then rootP w n t (nth p.kids 0)
  else if p.op = 5 then rootP w n t (nth p.kids 0) && rootP w n t (nth p.kids 1)
  else if p.op = 4 then decide (0 < (nth (nth w t.data.toNat).ctors p.ctor.toNat).index) else false
theorem valid_dp {w : List Data} (hs : WSmall w) (hv : worldValid w = true) : Dp w := by
 have hw := valid_wt hs hv
 have hW := (worldValid_iff w).1 hv
 refine ⟨hw, fun s hs c hc u hu => ?_, hW.len, fun s hs => ?_⟩
 ·obtain ⟨j, rfl, hj⟩ := place_of (d := s / 4) (k := ((s % 4 : Nat) : Int)) hc
  have hu' : u ∈ argsOf w ⟨((s / 4 : Nat) : Int), ((s % 4 : Nat) : Int)⟩ (j : Int) := hu
  simp only [argsOf, Int.toNat_natCast, List.mem_map] at hu'
  obtain ⟨x, hx, rfl⟩ := hu'
  have hco := hW.ctor _ (nth_mem (l := w) (i := s / 4) (by omega)) _ (nth_mem hj)
  simp only [ctorOk, Bool.and_eq_true, Bool.not_eq_true', List.any_eq_false] at hco
  have hax : argOk w.length x = true := by
   have := hco.2.2.2 x hx
   cases h : argOk w.length x with
   | true => rfl
   | false => rw [h] at this; exact absurd rfl this
  have hci := hco.2.2.1
  simp only [argOk, within, Bool.or_eq_true, Bool.and_eq_true, decide_eq_true_eq, and_true] at hax hci
  have key : ∀ y : Ty, (y.data = -1 ∨ (0 ≤ y.data ∧ y.data < w.length ∧ 0 ≤ y.index ∧ y.index ≤ 3)) → InS (w.length * 4) y := by
   rintro ⟨a, k⟩ h
   rcases h with h | ⟨h1, h2, h3, h4⟩
   ·exact .inl h
   ·refine .inr ⟨?_, ?_⟩
    ·simp only [slotT] at *; omega
    ·obtain ⟨i, rfl⟩ := Int.eq_ofNat_of_zero_le h1
     obtain ⟨m, rfl⟩ := Int.eq_ofNat_of_zero_le h3
     simp only [slotT, Int.toNat_natCast]
     exact tyS_ij (by simp only at h4; omega)
  refine key _ ?_
  unfold argTy resIx
  split
  ·dsimp only
   rcases hax with h | h
   ·omega
   ·right
    refine ⟨by omega, by omega, ?_⟩
    split <;> omega
  ·rcases hax with h | h
   ·exact .inl h.1
   ·right; omega
 ·have h1 := ctorsFrom_len (tyS s).index (nth w (tyS s).data.toNat).ctors 0
  have h2 := (hW.data _ (nth_mem (l := w) (i := s / 4) (by omega))).2.2
  show (ctorsFrom (tyS s).index 0 (nth w (tyS s).data.toNat).ctors).length ≤ 4
  have e : (tyS s).data.toNat = s / 4 := by simp only [tyS, Int.toNat_natCast]
  rw [e] at h1 ⊢
  omega
theorem ins_tyin {n : Nat} {t : Ty} (h : InS (n * 4) t) : TyIn n t := by
 rcases h with h | ⟨h1, h2⟩
 ·exact .inl h
 ·refine .inr ⟨slotT t / 4, ?_, by omega⟩
  have := congrArg Ty.data h2
  exact this.symm
theorem args_ins {w : List Data} (hd : Dp w) {t : Ty} {c : Int} (ht : InS (w.length * 4) t) (hc : c ∈ vctors w t) : ∀ u ∈ argsOf w t c, InS (w.length * 4) u := by
 rcases ht with h | ⟨h1, h2⟩
 ·unfold vctors at hc; rw [if_pos h] at hc; simp at hc
 ·have hx := hd.cl _ h1
  rw [h2] at hx
  have : c ∈ ctorsOf w t := by
   unfold vctors at hc
   split at hc
   ·simp at hc
   ·exact hc
  exact hx c this
theorem args_same {w : List Data} {a k k' c : Int} : (argsOf w ⟨a, k⟩ c).length = (argsOf w ⟨a, k'⟩ c).length ∧ ∀ i, (nth (argsOf w ⟨a, k⟩ c) i).data = (nth (argsOf w ⟨a, k'⟩ c) i).data := by
 have hd : ∀ (k : Int) (t : Ty), (argTy k t).data = t.data := fun k t => by unfold argTy; split <;> rfl
 refine ⟨by simp [argsOf], fun i => ?_⟩
 unfold argsOf
 dsimp only
 generalize nth (nth w a.toNat).ctors c.toNat = q
 simp only [nth, List.getD_eq_getElem?_getD, List.getElem?_map]
 cases q.args[i]? with
 | none => rfl
 | some x => simp only [Option.map_some, Option.getD_some, hd]
structure PKids (w : List Data) (n : Nat) (a k k' : Int) (p : Pat) : Prop where
 len5 : p.op = 5 → p.kids.length = 2
 len6 : p.op = 6 → p.kids.length = 1
 len4 : p.op = 4 → p.kids.length = (argsOf w ⟨a, k⟩ p.ctor).length
 one : p.op = 5 ∨ p.op = 6 → shapeP w n ⟨a, k'⟩ (nth p.kids 0) = true
 two : p.op = 5 → shapeP w n ⟨a, k'⟩ (nth p.kids 1) = true
 arg : p.op = 4 → ∀ i, i < (argsOf w ⟨a, k⟩ p.ctor).length → shapeP w n ⟨(nth (argsOf w ⟨a, k⟩ p.ctor) i).data, (nth (argsOf w ⟨a, k'⟩ p.ctor) i).index⟩ (nth p.kids i) = true
 mem : p.op = 4 → p.ctor ∈ vctors w ⟨a, k'⟩
 ops : p.op = 1 ∨ p.op = 2 ∨ (p.op = 3 ∧ a = -1) ∨ p.op = 4 ∨ p.op = 5 ∨ p.op = 6
theorem pkids {w : List Data} {n : Nat} {a k k' : Int} {p : Pat} (h : shapeP w (n + 1) ⟨a, k'⟩ p = true) : PKids w n a k k' p := by
 obtain ⟨ho, hl⟩ := shapeP_own h
 have hk := fun i (hi : i < p.kids.length) => shapeP_kid h hi
 have ht4 : p.op = 4 → typesP w ⟨a, k'⟩ p = argsOf w ⟨a, k'⟩ p.ctor := fun h => by unfold typesP; rw [if_pos h]
 have ht5 : p.op = 5 → typesP w ⟨a, k'⟩ p = [⟨a, k'⟩, ⟨a, k'⟩] := fun h => by unfold typesP; rw [if_neg (by omega), if_pos h]
 have ht6 : p.op = 6 → typesP w ⟨a, k'⟩ p = [⟨a, k'⟩] := fun h => by unfold typesP; rw [if_neg (by omega), if_neg (by omega), if_pos h]
 have l5 : p.op = 5 → p.kids.length = 2 := fun h => by rw [hl, ht5 h]; rfl
 have l6 : p.op = 6 → p.kids.length = 1 := fun h => by rw [hl, ht6 h]; rfl
 refine ⟨l5, l6, fun h => by rw [hl, ht4 h, args_same.1], fun h => ?_, fun h => ?_, fun h i hi => ?_, ownP_mem ho, ?_⟩
 ·rcases h with h | h
  ·have := hk 0 (by rw [l5 h]; omega); rwa [ht5 h] at this
  ·have := hk 0 (by rw [l6 h]; omega); rwa [ht6 h] at this
 ·have := hk 1 (by rw [l5 h]; omega); rwa [ht5 h] at this
 ·rw [(args_same (k' := k')).1] at hi
  have := hk i (by rw [hl, ht4 h]; exact hi)
  rw [ht4 h] at this
  rw [(args_same (k' := k')).2]
  exact this
 ·unfold ownP at ho
  have := of_decide_eq_true ho
  obtain ⟨_, _, _, _, q⟩ := this
  simp only at q
  omega
theorem dec_pos {n : Nat} : decide ((0 : Int) < (n : Int)) = decide (0 < n) := decide_eq_decide.2 (by omega)
theorem someP_succ {w : List Data} {f : Nat → Nat} {n : Nat} {t : Ty} {p : Pat} : someP w f (n + 1) t p = if p.op = 1 ∨ p.op = 2 then decide (0 < dv f t)
  else if p.op = 3 then true
  else if p.op = 5 then someP w f n t (nth p.kids 0) || someP w f n t (nth p.kids 1)
  else if p.op = 6 then someP w f n t (nth p.kids 0)
  else decide (p.ctor ∈ vctors w t) && all2 (someP w f n) (argsOf w t p.ctor) p.kids := rfl
theorem rootP_succ {w : List Data} {n : Nat} {t : Ty} {p : Pat} : rootP w (n + 1) t p = if p.op = 6 then rootP w n t (nth p.kids 0)
  else if p.op = 5 then rootP w n t (nth p.kids 0) && rootP w n t (nth p.kids 1)
  else if p.op = 4 then decide (0 < (nth (nth w t.data.toNat).ctors p.ctor.toNat).index) else false := rfl
theorem spec_l15Some_fn {w : List Data} (hd : Dp w) {f : Nat → Nat} : ∀ (n : Nat) {a k k' : Int} {p : Pat}, shapeP w n ⟨a, k'⟩ p = true → InS (w.length * 4) ⟨a, k⟩ → p.ok →
  FnD Try.prog 82 [.d (encDatas w), .d (encTab (w.length * 4) f), .agg [.d (.i a), .d (.i k)], .agg [.d (.i p.op), .d (.i p.ctor), .d (.i p.n), .d (.i p.m), .d (.i p.var), .d (encPats p.kids)]] [] (.d (.bool (someP w f n ⟨a, k⟩ p))) []
 | 0, a, k, k', p, h, _, _ => by simp [shapeP] at h
 | n + 1, a, k, k', p, h, hi, hok => by
  rw [Pat.ok_iff] at hok
  have hw := hd.wt
  have hw4 := hd.four
  have ht := ins_tyin hi
  have pk := pkids (k := k) h
  have hcl := vctors_len hw ht
  have hops := pk.ops
  have hal := fun hm => args_ins hd hi (c := p.ctor) hm
  have hasm := fun hm => argsOf_small hw ht (c := p.ctor) hm
  have l5 := pk.len5
  have l6 := pk.len6
  have l4 := pk.len4
  have hv0 : a = -1 → p.ctor ∉ vctors w ⟨a, k⟩ := fun h => by subst h; rw [vctors_int]; simp
  refine bd Try.f82 91 [] [] fun w0 F0 own kept hk => ?_
  refine Walk.box (id := 3006) .none rfl rfl rfl rfl rfl rfl rfl ?_
  refine Walk.box (id := 3007) .none rfl rfl rfl rfl rfl rfl rfl ?_
  refine ev ?_
  refine sq (fun h1 h1p h1s => ?_) fun h1 h1p h1s => ?_
  ·try simp only [Q, Pat.cs_len, Bool.not_eq_true', Bool.not_eq_false', decide_eq_false_iff_not] at h1p
   refine sq (fun h2 h2p h2s => ?_) fun h2 h2p h2s => ?_
   ·try simp only [Q, Pat.cs_len, Bool.not_eq_true', Bool.not_eq_false', decide_eq_false_iff_not] at h2p
    refine Walk.call (cr := []) cal131 (spec_l1Depth_fn (n := w.length * 4) (f := f) hi (by omega)) rfl .none rfl rfl (LeL.refl _) trivial rfl rfl rfl ?_
    refine ev ?_
    refine rn0 (r1 rfl) (.eqd ?_)
    all_goals (refine congrArg D.bool ?_; rw [someP_succ]; first | (rw [if_pos (by omega), dec_pos]; done) | (rw [if_neg (by omega), if_pos (by omega)]; simp; omega) | (rw [if_neg (by omega), if_neg (by omega), if_pos (by omega)]; first | rfl | (simp_all; done)) | (rw [if_neg (by omega), if_neg (by omega), if_neg (by omega), if_pos (by omega)]; done) | (rw [if_neg (by omega), if_neg (by omega), if_neg (by omega), if_neg (by omega)]; first | (rw [all2_nth_false (i := i) (by omega) (by omega) (by assumption), Bool.and_false]; done) | (rw [all2_nth_true (by omega) (fun x hx => hg1.2 x (by omega))]; simp_all; done) | (rw [decide_eq_false (by simp_all)]; rfl)))
   ·try simp only [Q, Pat.cs_len, Bool.not_eq_true', Bool.not_eq_false', decide_eq_false_iff_not] at h2p
    refine sq (fun h3 h3p h3s => ?_) fun h3 h3p h3s => ?_
    ·try simp only [Q, Pat.cs_len, Bool.not_eq_true', Bool.not_eq_false', decide_eq_false_iff_not] at h3p
     refine rn0 (r1 rfl) (.eqd ?_)
     all_goals (refine congrArg D.bool ?_; rw [someP_succ]; first | (rw [if_pos (by omega), dec_pos]; done) | (rw [if_neg (by omega), if_pos (by omega)]; simp; omega) | (rw [if_neg (by omega), if_neg (by omega), if_pos (by omega)]; first | rfl | (simp_all; done)) | (rw [if_neg (by omega), if_neg (by omega), if_neg (by omega), if_pos (by omega)]; done) | (rw [if_neg (by omega), if_neg (by omega), if_neg (by omega), if_neg (by omega)]; first | (rw [all2_nth_false (i := i) (by omega) (by omega) (by assumption), Bool.and_false]; done) | (rw [all2_nth_true (by omega) (fun x hx => hg1.2 x (by omega))]; simp_all; done) | (rw [decide_eq_false (by simp_all)]; rfl)))
    ·try simp only [Q, Pat.cs_len, Bool.not_eq_true', Bool.not_eq_false', decide_eq_false_iff_not] at h3p
     refine sq (fun h4 h4p h4s => ?_) fun h4 h4p h4s => ?_
     ·try simp only [Q, Pat.cs_len, Bool.not_eq_true', Bool.not_eq_false', decide_eq_false_iff_not] at h4p
      refine Walk.idx (i := 0) sl56 .none rfl rfl rfl rfl (pats_at (by omega)) rfl ?_
      refine evd [] [] ?_
      refine Walk.call (cr := []) cal82 (spec_l15Some_fn hd n (k' := k') (pk.one (by omega)) hi (Pats.ok_mem hok.2 _ (nth_mem (i := 0) (by omega)))) rfl .none rfl rfl (LeL.refl _) trivial rfl rfl rfl ?_
      refine evd [] [] ?_
      refine sq (fun h5 h5p h5s => ?_) fun h5 h5p h5s => ?_
      ·try simp only [Q, Pat.cs_len, Bool.not_eq_true', Bool.not_eq_false', decide_eq_false_iff_not] at h5p
       refine dr ?_
       refine rn0 (r1 rfl) (.eqd ?_)
       all_goals (refine congrArg D.bool ?_; rw [someP_succ]; first | (rw [if_pos (by omega), dec_pos]; done) | (rw [if_neg (by omega), if_pos (by omega)]; simp; omega) | (rw [if_neg (by omega), if_neg (by omega), if_pos (by omega)]; first | rfl | (simp_all; done)) | (rw [if_neg (by omega), if_neg (by omega), if_neg (by omega), if_pos (by omega)]; done) | (rw [if_neg (by omega), if_neg (by omega), if_neg (by omega), if_neg (by omega)]; first | (rw [all2_nth_false (i := i) (by omega) (by omega) (by assumption), Bool.and_false]; done) | (rw [all2_nth_true (by omega) (fun x hx => hg1.2 x (by omega))]; simp_all; done) | (rw [decide_eq_false (by simp_all)]; rfl)))
      ·try simp only [Q, Pat.cs_len, Bool.not_eq_true', Bool.not_eq_false', decide_eq_false_iff_not] at h5p
       refine Walk.idx (i := 1) sl56 (.some rfl rfl h5) rfl rfl rfl rfl (pats_at (by omega)) rfl ?_
       refine evd [] [(35, false)] ?_ ⟨⟨_, rfl, h5⟩, trivial⟩
       refine Walk.call (cr := []) cal82 (spec_l15Some_fn hd n (k' := k') (pk.two (by omega)) hi (Pats.ok_mem hok.2 _ (nth_mem (i := 1) (by omega)))) rfl (.some rfl rfl h5) rfl rfl (LeL.refl _) trivial rfl rfl rfl ?_
       refine evd [] [(35, false)] ?_ ⟨⟨_, rfl, h5⟩, trivial⟩
       refine dr ?_
       refine rn0 (r1 rfl) (.eqd ?_)
       all_goals (refine congrArg D.bool ?_; rw [someP_succ]; first | (rw [if_pos (by omega), dec_pos]; done) | (rw [if_neg (by omega), if_pos (by omega)]; simp; omega) | (rw [if_neg (by omega), if_neg (by omega), if_pos (by omega)]; first | rfl | (simp_all; done)) | (rw [if_neg (by omega), if_neg (by omega), if_neg (by omega), if_pos (by omega)]; done) | (rw [if_neg (by omega), if_neg (by omega), if_neg (by omega), if_neg (by omega)]; first | (rw [all2_nth_false (i := i) (by omega) (by omega) (by assumption), Bool.and_false]; done) | (rw [all2_nth_true (by omega) (fun x hx => hg1.2 x (by omega))]; simp_all; done) | (rw [decide_eq_false (by simp_all)]; rfl)))
     ·try simp only [Q, Pat.cs_len, Bool.not_eq_true', Bool.not_eq_false', decide_eq_false_iff_not] at h4p
      refine sq (fun h6 h6p h6s => ?_) fun h6 h6p h6s => ?_
      ·try simp only [Q, Pat.cs_len, Bool.not_eq_true', Bool.not_eq_false', decide_eq_false_iff_not] at h6p
       refine Walk.idx (i := 0) sl56 .none rfl rfl rfl rfl (pats_at (by omega)) rfl ?_
       refine evd [] [] ?_
       refine Walk.call (cr := []) cal82 (spec_l15Some_fn hd n (k' := k') (pk.one (by omega)) hi (Pats.ok_mem hok.2 _ (nth_mem (i := 0) (by omega)))) rfl .none rfl rfl (LeL.refl _) trivial rfl rfl rfl ?_
       refine evd [] [] ?_
       refine dr ?_
       refine rn0 (r1 rfl) (.eqd ?_)
       all_goals (refine congrArg D.bool ?_; rw [someP_succ]; first | (rw [if_pos (by omega), dec_pos]; done) | (rw [if_neg (by omega), if_pos (by omega)]; simp; omega) | (rw [if_neg (by omega), if_neg (by omega), if_pos (by omega)]; first | rfl | (simp_all; done)) | (rw [if_neg (by omega), if_neg (by omega), if_neg (by omega), if_pos (by omega)]; done) | (rw [if_neg (by omega), if_neg (by omega), if_neg (by omega), if_neg (by omega)]; first | (rw [all2_nth_false (i := i) (by omega) (by omega) (by assumption), Bool.and_false]; done) | (rw [all2_nth_true (by omega) (fun x hx => hg1.2 x (by omega))]; simp_all; done) | (rw [decide_eq_false (by simp_all)]; rfl)))
      ·try simp only [Q, Pat.cs_len, Bool.not_eq_true', Bool.not_eq_false', decide_eq_false_iff_not] at h6p
       refine sq (fun h7 h7p h7s => ?_) fun h7 h7p h7s => ?_
       ·try simp only [Q, Pat.cs_len, Bool.not_eq_true', Bool.not_eq_false', decide_eq_false_iff_not] at h7p
        refine dr ?_
        refine sqT ?_
        refine rn0 (r1 rfl) (.eqd ?_)
        all_goals (refine congrArg D.bool ?_; rw [someP_succ]; first | (rw [if_pos (by omega), dec_pos]; done) | (rw [if_neg (by omega), if_pos (by omega)]; simp; omega) | (rw [if_neg (by omega), if_neg (by omega), if_pos (by omega)]; first | rfl | (simp_all; done)) | (rw [if_neg (by omega), if_neg (by omega), if_neg (by omega), if_pos (by omega)]; done) | (rw [if_neg (by omega), if_neg (by omega), if_neg (by omega), if_neg (by omega)]; first | (rw [all2_nth_false (i := i) (by omega) (by omega) (by assumption), Bool.and_false]; done) | (rw [all2_nth_true (by omega) (fun x hx => hg1.2 x (by omega))]; simp_all; done) | (rw [decide_eq_false (by simp_all)]; rfl)))
       ·try simp only [Q, Pat.cs_len, Bool.not_eq_true', Bool.not_eq_false', decide_eq_false_iff_not] at h7p
        refine Walk.call (cr := []) cal122 (spec_l1Ctors_v hw ht) rfl (.some rfl rfl h7) rfl rfl (LeL.refl _) trivial rfl rfl rfl ?_
        refine evd [] [(58, false)] ?_ ⟨⟨_, rfl, h7⟩, trivial⟩
        refine Walk.call (cr := []) cal132 (spec_l1Has_fn hcl) rfl (.some rfl rfl h7) rfl rfl (LeL.refl _) trivial rfl rfl rfl ?_
        refine evd [] [(58, false)] ?_ ⟨⟨_, rfl, h7⟩, trivial⟩
        refine dr ?_
        refine sq (fun h9 h9p h9s => ?_) fun h9 h9p h9s => ?_
        ·try simp only [Q, Pat.cs_len, Bool.not_eq_true', Bool.not_eq_false', decide_eq_false_iff_not] at h9p
         refine rn0 (r1 rfl) (.eqd ?_)
         all_goals (refine congrArg D.bool ?_; rw [someP_succ]; first | (rw [if_pos (by omega), dec_pos]; done) | (rw [if_neg (by omega), if_pos (by omega)]; simp; omega) | (rw [if_neg (by omega), if_neg (by omega), if_pos (by omega)]; first | rfl | (simp_all; done)) | (rw [if_neg (by omega), if_neg (by omega), if_neg (by omega), if_pos (by omega)]; done) | (rw [if_neg (by omega), if_neg (by omega), if_neg (by omega), if_neg (by omega)]; first | (rw [all2_nth_false (i := i) (by omega) (by omega) (by assumption), Bool.and_false]; done) | (rw [all2_nth_true (by omega) (fun x hx => hg1.2 x (by omega))]; simp_all; done) | (rw [decide_eq_false (by simp_all)]; rfl)))
        ·try simp only [Q, Pat.cs_len, Bool.not_eq_true', Bool.not_eq_false', decide_eq_false_iff_not] at h9p
         refine Walk.call (cr := []) cal133 (spec_l1Args_v hw ht (by simp_all)) rfl .none rfl rfl (LeL.refl _) trivial rfl rfl rfl ?_
         refine ev ?_
         refine CWp.loopX (ι := Nat) hk (fun i => [(10, .d (.i (i : Int)))]) [8, 72, 73, 74, 75, 76, 77, 78, 79, 80, 81, 82, 83, 84, 85, 86, 87, 88, 89, 90] (fun i => []) (fun i => i ≤ (argsOf w ⟨a, k⟩ p.ctor).length ∧ ∀ i', i' < i → someP w f n (nth (argsOf w ⟨a, k⟩ p.ctor) i') (nth p.kids i') = true) (fun i => (argsOf w ⟨a, k⟩ p.ctor).length - i) 0 ⟨by omega, fun _ h => absurd h (by omega)⟩ ⟨⟨_, rfl, (LeA.eqi (by first | rfl | (simp; done) | (simp_all; done) | omega))⟩, trivial⟩ trivial (fun x => rfl) (fun i hg1 => ?_)
         refine evc [] [] ?_
         refine sq (fun h10 h10p h10s => ?_) fun h10 h10p h10s => ?_
         ·try simp only [Q, Pat.cs_len, Bool.not_eq_true', Bool.not_eq_false', decide_eq_false_iff_not] at h10p
          refine Walk.idx sl25 .none rfl rfl rfl rfl (at_nth (by omega)) rfl ?_
          refine evd [] [] ?_
          refine Walk.idx sl56 .none rfl rfl rfl rfl (pats_at (by omega)) rfl ?_
          refine evd [] [] ?_
          refine Walk.call (cr := []) cal82 (spec_l15Some_fn hd n (pk.arg (by omega) i (by omega)) (hal (by assumption) _ (nth_mem (by omega))) (Pats.ok_mem hok.2 _ (nth_mem (by omega)))) rfl .none rfl rfl (LeL.refl _) trivial rfl rfl rfl ?_
          refine evd [] [] ?_
          refine dr ?_
          refine sq (fun h11 h11p h11s => ?_) fun h11 h11p h11s => ?_
          ·try simp only [Q, Pat.cs_len, Bool.not_eq_true', Bool.not_eq_false', decide_eq_false_iff_not] at h11p
           refine rn0 (r1 rfl) (.eqd ?_)
           all_goals (refine congrArg D.bool ?_; rw [someP_succ]; first | (rw [if_pos (by omega), dec_pos]; done) | (rw [if_neg (by omega), if_pos (by omega)]; simp; omega) | (rw [if_neg (by omega), if_neg (by omega), if_pos (by omega)]; first | rfl | (simp_all; done)) | (rw [if_neg (by omega), if_neg (by omega), if_neg (by omega), if_pos (by omega)]; done) | (rw [if_neg (by omega), if_neg (by omega), if_neg (by omega), if_neg (by omega)]; first | (rw [all2_nth_false (i := i) (by omega) (by omega) (by assumption), Bool.and_false]; done) | (rw [all2_nth_true (by omega) (fun x hx => hg1.2 x (by omega))]; simp_all; done) | (rw [decide_eq_false (by simp_all)]; rfl)))
          ·try simp only [Q, Pat.cs_len, Bool.not_eq_true', Bool.not_eq_false', decide_eq_false_iff_not] at h11p
           refine ar ?_
           refine Exists.intro (i + 1) ⟨⟨by omega, upto_succ hg1.2 (by assumption)⟩, (by omega), Sub.x (by kernel_rfl) (by kernel_rfl) ⟨⟨_, rfl, (LeA.eqi (by first | rfl | (simp; done) | (simp_all; done) | omega))⟩, trivial⟩ (by kernel_rfl) (by kernel_rfl) trivial⟩
         ·try simp only [Q, Pat.cs_len, Bool.not_eq_true', Bool.not_eq_false', decide_eq_false_iff_not] at h10p
          refine rn0 (r1 rfl) (.eqd ?_)
          all_goals (refine congrArg D.bool ?_; rw [someP_succ]; first | (rw [if_pos (by omega), dec_pos]; done) | (rw [if_neg (by omega), if_pos (by omega)]; simp; omega) | (rw [if_neg (by omega), if_neg (by omega), if_pos (by omega)]; first | rfl | (simp_all; done)) | (rw [if_neg (by omega), if_neg (by omega), if_neg (by omega), if_pos (by omega)]; done) | (rw [if_neg (by omega), if_neg (by omega), if_neg (by omega), if_neg (by omega)]; first | (rw [all2_nth_false (i := i) (by omega) (by omega) (by assumption), Bool.and_false]; done) | (rw [all2_nth_true (by omega) (fun x hx => hg1.2 x (by omega))]; simp_all; done) | (rw [decide_eq_false (by simp_all)]; rfl)))
  ·try simp only [Q, Pat.cs_len, Bool.not_eq_true', Bool.not_eq_false', decide_eq_false_iff_not] at h1p
   refine sq (fun h12 h12p h12s => ?_) fun h12 h12p h12s => ?_
   ·try simp only [Q, Pat.cs_len, Bool.not_eq_true', Bool.not_eq_false', decide_eq_false_iff_not] at h12p
    refine Walk.call (cr := []) cal131 (spec_l1Depth_fn (n := w.length * 4) (f := f) hi (by omega)) rfl .none rfl rfl (LeL.refl _) trivial rfl rfl rfl ?_
    refine ev ?_
    refine rn0 (r1 rfl) (.eqd ?_)
    all_goals (refine congrArg D.bool ?_; rw [someP_succ]; first | (rw [if_pos (by omega), dec_pos]; done) | (rw [if_neg (by omega), if_pos (by omega)]; simp; omega) | (rw [if_neg (by omega), if_neg (by omega), if_pos (by omega)]; first | rfl | (simp_all; done)) | (rw [if_neg (by omega), if_neg (by omega), if_neg (by omega), if_pos (by omega)]; done) | (rw [if_neg (by omega), if_neg (by omega), if_neg (by omega), if_neg (by omega)]; first | (rw [all2_nth_false (i := i) (by omega) (by omega) (by assumption), Bool.and_false]; done) | (rw [all2_nth_true (by omega) (fun x hx => hg1.2 x (by omega))]; simp_all; done) | (rw [decide_eq_false (by simp_all)]; rfl)))
   ·try simp only [Q, Pat.cs_len, Bool.not_eq_true', Bool.not_eq_false', decide_eq_false_iff_not] at h12p
    refine sq (fun h13 h13p h13s => ?_) fun h13 h13p h13s => ?_
    ·try simp only [Q, Pat.cs_len, Bool.not_eq_true', Bool.not_eq_false', decide_eq_false_iff_not] at h13p
     refine rn0 (r1 rfl) (.eqd ?_)
     all_goals (refine congrArg D.bool ?_; rw [someP_succ]; first | (rw [if_pos (by omega), dec_pos]; done) | (rw [if_neg (by omega), if_pos (by omega)]; simp; omega) | (rw [if_neg (by omega), if_neg (by omega), if_pos (by omega)]; first | rfl | (simp_all; done)) | (rw [if_neg (by omega), if_neg (by omega), if_neg (by omega), if_pos (by omega)]; done) | (rw [if_neg (by omega), if_neg (by omega), if_neg (by omega), if_neg (by omega)]; first | (rw [all2_nth_false (i := i) (by omega) (by omega) (by assumption), Bool.and_false]; done) | (rw [all2_nth_true (by omega) (fun x hx => hg1.2 x (by omega))]; simp_all; done) | (rw [decide_eq_false (by simp_all)]; rfl)))
    ·try simp only [Q, Pat.cs_len, Bool.not_eq_true', Bool.not_eq_false', decide_eq_false_iff_not] at h13p
     refine sq (fun h14 h14p h14s => ?_) fun h14 h14p h14s => ?_
     ·try simp only [Q, Pat.cs_len, Bool.not_eq_true', Bool.not_eq_false', decide_eq_false_iff_not] at h14p
      refine Walk.idx (i := 0) sl56 .none rfl rfl rfl rfl (pats_at (by omega)) rfl ?_
      refine evd [] [] ?_
      refine Walk.call (cr := []) cal82 (spec_l15Some_fn hd n (k' := k') (pk.one (by omega)) hi (Pats.ok_mem hok.2 _ (nth_mem (i := 0) (by omega)))) rfl .none rfl rfl (LeL.refl _) trivial rfl rfl rfl ?_
      refine evd [] [] ?_
      refine sq (fun h15 h15p h15s => ?_) fun h15 h15p h15s => ?_
      ·try simp only [Q, Pat.cs_len, Bool.not_eq_true', Bool.not_eq_false', decide_eq_false_iff_not] at h15p
       refine dr ?_
       refine rn0 (r1 rfl) (.eqd ?_)
       all_goals (refine congrArg D.bool ?_; rw [someP_succ]; first | (rw [if_pos (by omega), dec_pos]; done) | (rw [if_neg (by omega), if_pos (by omega)]; simp; omega) | (rw [if_neg (by omega), if_neg (by omega), if_pos (by omega)]; first | rfl | (simp_all; done)) | (rw [if_neg (by omega), if_neg (by omega), if_neg (by omega), if_pos (by omega)]; done) | (rw [if_neg (by omega), if_neg (by omega), if_neg (by omega), if_neg (by omega)]; first | (rw [all2_nth_false (i := i) (by omega) (by omega) (by assumption), Bool.and_false]; done) | (rw [all2_nth_true (by omega) (fun x hx => hg1.2 x (by omega))]; simp_all; done) | (rw [decide_eq_false (by simp_all)]; rfl)))
      ·try simp only [Q, Pat.cs_len, Bool.not_eq_true', Bool.not_eq_false', decide_eq_false_iff_not] at h15p
       refine Walk.idx (i := 1) sl56 (.some rfl rfl h15) rfl rfl rfl rfl (pats_at (by omega)) rfl ?_
       refine evd [] [(35, false)] ?_ ⟨⟨_, rfl, h15⟩, trivial⟩
       refine Walk.call (cr := []) cal82 (spec_l15Some_fn hd n (k' := k') (pk.two (by omega)) hi (Pats.ok_mem hok.2 _ (nth_mem (i := 1) (by omega)))) rfl (.some rfl rfl h15) rfl rfl (LeL.refl _) trivial rfl rfl rfl ?_
       refine evd [] [(35, false)] ?_ ⟨⟨_, rfl, h15⟩, trivial⟩
       refine dr ?_
       refine rn0 (r1 rfl) (.eqd ?_)
       all_goals (refine congrArg D.bool ?_; rw [someP_succ]; first | (rw [if_pos (by omega), dec_pos]; done) | (rw [if_neg (by omega), if_pos (by omega)]; simp; omega) | (rw [if_neg (by omega), if_neg (by omega), if_pos (by omega)]; first | rfl | (simp_all; done)) | (rw [if_neg (by omega), if_neg (by omega), if_neg (by omega), if_pos (by omega)]; done) | (rw [if_neg (by omega), if_neg (by omega), if_neg (by omega), if_neg (by omega)]; first | (rw [all2_nth_false (i := i) (by omega) (by omega) (by assumption), Bool.and_false]; done) | (rw [all2_nth_true (by omega) (fun x hx => hg1.2 x (by omega))]; simp_all; done) | (rw [decide_eq_false (by simp_all)]; rfl)))
     ·try simp only [Q, Pat.cs_len, Bool.not_eq_true', Bool.not_eq_false', decide_eq_false_iff_not] at h14p
      refine sq (fun h16 h16p h16s => ?_) fun h16 h16p h16s => ?_
      ·try simp only [Q, Pat.cs_len, Bool.not_eq_true', Bool.not_eq_false', decide_eq_false_iff_not] at h16p
       refine Walk.idx (i := 0) sl56 .none rfl rfl rfl rfl (pats_at (by omega)) rfl ?_
       refine evd [] [] ?_
       refine Walk.call (cr := []) cal82 (spec_l15Some_fn hd n (k' := k') (pk.one (by omega)) hi (Pats.ok_mem hok.2 _ (nth_mem (i := 0) (by omega)))) rfl .none rfl rfl (LeL.refl _) trivial rfl rfl rfl ?_
       refine evd [] [] ?_
       refine dr ?_
       refine rn0 (r1 rfl) (.eqd ?_)
       all_goals (refine congrArg D.bool ?_; rw [someP_succ]; first | (rw [if_pos (by omega), dec_pos]; done) | (rw [if_neg (by omega), if_pos (by omega)]; simp; omega) | (rw [if_neg (by omega), if_neg (by omega), if_pos (by omega)]; first | rfl | (simp_all; done)) | (rw [if_neg (by omega), if_neg (by omega), if_neg (by omega), if_pos (by omega)]; done) | (rw [if_neg (by omega), if_neg (by omega), if_neg (by omega), if_neg (by omega)]; first | (rw [all2_nth_false (i := i) (by omega) (by omega) (by assumption), Bool.and_false]; done) | (rw [all2_nth_true (by omega) (fun x hx => hg1.2 x (by omega))]; simp_all; done) | (rw [decide_eq_false (by simp_all)]; rfl)))
      ·try simp only [Q, Pat.cs_len, Bool.not_eq_true', Bool.not_eq_false', decide_eq_false_iff_not] at h16p
       refine sq (fun h17 h17p h17s => ?_) fun h17 h17p h17s => ?_
       ·try simp only [Q, Pat.cs_len, Bool.not_eq_true', Bool.not_eq_false', decide_eq_false_iff_not] at h17p
        refine dr ?_
        refine sqT ?_
        refine rn0 (r1 rfl) (.eqd ?_)
        all_goals (refine congrArg D.bool ?_; rw [someP_succ]; first | (rw [if_pos (by omega), dec_pos]; done) | (rw [if_neg (by omega), if_pos (by omega)]; simp; omega) | (rw [if_neg (by omega), if_neg (by omega), if_pos (by omega)]; first | rfl | (simp_all; done)) | (rw [if_neg (by omega), if_neg (by omega), if_neg (by omega), if_pos (by omega)]; done) | (rw [if_neg (by omega), if_neg (by omega), if_neg (by omega), if_neg (by omega)]; first | (rw [all2_nth_false (i := i) (by omega) (by omega) (by assumption), Bool.and_false]; done) | (rw [all2_nth_true (by omega) (fun x hx => hg1.2 x (by omega))]; simp_all; done) | (rw [decide_eq_false (by simp_all)]; rfl)))
       ·try simp only [Q, Pat.cs_len, Bool.not_eq_true', Bool.not_eq_false', decide_eq_false_iff_not] at h17p
        refine Walk.call (cr := []) cal122 (spec_l1Ctors_v hw ht) rfl (.some rfl rfl h17) rfl rfl (LeL.refl _) trivial rfl rfl rfl ?_
        refine evd [] [(58, false)] ?_ ⟨⟨_, rfl, h17⟩, trivial⟩
        refine Walk.call (cr := []) cal132 (spec_l1Has_fn hcl) rfl (.some rfl rfl h17) rfl rfl (LeL.refl _) trivial rfl rfl rfl ?_
        refine evd [] [(58, false)] ?_ ⟨⟨_, rfl, h17⟩, trivial⟩
        refine dr ?_
        refine sq (fun h19 h19p h19s => ?_) fun h19 h19p h19s => ?_
        ·try simp only [Q, Pat.cs_len, Bool.not_eq_true', Bool.not_eq_false', decide_eq_false_iff_not] at h19p
         refine rn0 (r1 rfl) (.eqd ?_)
         all_goals (refine congrArg D.bool ?_; rw [someP_succ]; first | (rw [if_pos (by omega), dec_pos]; done) | (rw [if_neg (by omega), if_pos (by omega)]; simp; omega) | (rw [if_neg (by omega), if_neg (by omega), if_pos (by omega)]; first | rfl | (simp_all; done)) | (rw [if_neg (by omega), if_neg (by omega), if_neg (by omega), if_pos (by omega)]; done) | (rw [if_neg (by omega), if_neg (by omega), if_neg (by omega), if_neg (by omega)]; first | (rw [all2_nth_false (i := i) (by omega) (by omega) (by assumption), Bool.and_false]; done) | (rw [all2_nth_true (by omega) (fun x hx => hg1.2 x (by omega))]; simp_all; done) | (rw [decide_eq_false (by simp_all)]; rfl)))
        ·try simp only [Q, Pat.cs_len, Bool.not_eq_true', Bool.not_eq_false', decide_eq_false_iff_not] at h19p
         refine Walk.call (cr := []) cal133 (spec_l1Args_v hw ht (by simp_all)) rfl .none rfl rfl (LeL.refl _) trivial rfl rfl rfl ?_
         refine ev ?_
         refine CWp.loopX (ι := Nat) hk (fun i => [(10, .d (.i (i : Int)))]) [8, 72, 73, 74, 75, 76, 77, 78, 79, 80, 81, 82, 83, 84, 85, 86, 87, 88, 89, 90] (fun i => []) (fun i => i ≤ (argsOf w ⟨a, k⟩ p.ctor).length ∧ ∀ i', i' < i → someP w f n (nth (argsOf w ⟨a, k⟩ p.ctor) i') (nth p.kids i') = true) (fun i => (argsOf w ⟨a, k⟩ p.ctor).length - i) 0 ⟨by omega, fun _ h => absurd h (by omega)⟩ ⟨⟨_, rfl, (LeA.eqi (by first | rfl | (simp; done) | (simp_all; done) | omega))⟩, trivial⟩ trivial (fun x => rfl) (fun i hg1 => ?_)
         refine evc [] [] ?_
         refine sq (fun h20 h20p h20s => ?_) fun h20 h20p h20s => ?_
         ·try simp only [Q, Pat.cs_len, Bool.not_eq_true', Bool.not_eq_false', decide_eq_false_iff_not] at h20p
          refine Walk.idx sl25 .none rfl rfl rfl rfl (at_nth (by omega)) rfl ?_
          refine evd [] [] ?_
          refine Walk.idx sl56 .none rfl rfl rfl rfl (pats_at (by omega)) rfl ?_
          refine evd [] [] ?_
          refine Walk.call (cr := []) cal82 (spec_l15Some_fn hd n (pk.arg (by omega) i (by omega)) (hal (by assumption) _ (nth_mem (by omega))) (Pats.ok_mem hok.2 _ (nth_mem (by omega)))) rfl .none rfl rfl (LeL.refl _) trivial rfl rfl rfl ?_
          refine evd [] [] ?_
          refine dr ?_
          refine sq (fun h21 h21p h21s => ?_) fun h21 h21p h21s => ?_
          ·try simp only [Q, Pat.cs_len, Bool.not_eq_true', Bool.not_eq_false', decide_eq_false_iff_not] at h21p
           refine rn0 (r1 rfl) (.eqd ?_)
           all_goals (refine congrArg D.bool ?_; rw [someP_succ]; first | (rw [if_pos (by omega), dec_pos]; done) | (rw [if_neg (by omega), if_pos (by omega)]; simp; omega) | (rw [if_neg (by omega), if_neg (by omega), if_pos (by omega)]; first | rfl | (simp_all; done)) | (rw [if_neg (by omega), if_neg (by omega), if_neg (by omega), if_pos (by omega)]; done) | (rw [if_neg (by omega), if_neg (by omega), if_neg (by omega), if_neg (by omega)]; first | (rw [all2_nth_false (i := i) (by omega) (by omega) (by assumption), Bool.and_false]; done) | (rw [all2_nth_true (by omega) (fun x hx => hg1.2 x (by omega))]; simp_all; done) | (rw [decide_eq_false (by simp_all)]; rfl)))
          ·try simp only [Q, Pat.cs_len, Bool.not_eq_true', Bool.not_eq_false', decide_eq_false_iff_not] at h21p
           refine ar ?_
           refine Exists.intro (i + 1) ⟨⟨by omega, upto_succ hg1.2 (by assumption)⟩, (by omega), Sub.x (by kernel_rfl) (by kernel_rfl) ⟨⟨_, rfl, (LeA.eqi (by first | rfl | (simp; done) | (simp_all; done) | omega))⟩, trivial⟩ (by kernel_rfl) (by kernel_rfl) trivial⟩
         ·try simp only [Q, Pat.cs_len, Bool.not_eq_true', Bool.not_eq_false', decide_eq_false_iff_not] at h20p
          refine rn0 (r1 rfl) (.eqd ?_)
          all_goals (refine congrArg D.bool ?_; rw [someP_succ]; first | (rw [if_pos (by omega), dec_pos]; done) | (rw [if_neg (by omega), if_pos (by omega)]; simp; omega) | (rw [if_neg (by omega), if_neg (by omega), if_pos (by omega)]; first | rfl | (simp_all; done)) | (rw [if_neg (by omega), if_neg (by omega), if_neg (by omega), if_pos (by omega)]; done) | (rw [if_neg (by omega), if_neg (by omega), if_neg (by omega), if_neg (by omega)]; first | (rw [all2_nth_false (i := i) (by omega) (by omega) (by assumption), Bool.and_false]; done) | (rw [all2_nth_true (by omega) (fun x hx => hg1.2 x (by omega))]; simp_all; done) | (rw [decide_eq_false (by simp_all)]; rfl)))
theorem impl_newSpaces_fn {w : List Data} (hd : Dp w) : FnD Try.prog 78 [.d (encDatas w)] [] (.d (sPtr w (depthT w))) [] := by
 refine bd Try.f78 8 [] [999999] fun w0 F0 own kept hk => ?_
 refine Walk.call (cr := []) cal125 (impl_depthsOf_fn hd) rfl .none rfl rfl (LeL.refl _) trivial rfl rfl rfl ?_
 refine Walk.build st145 (ks := [0, 1]) (xs := [_, _]) rfl rfl .none rfl rfl rfl ?_
 refine Walk.box (id := 3007) .none rfl rfl rfl rfl rfl rfl rfl ?_
 refine ev ?_
 refine CWp.frzB hk 2 3007 0 rfl rfl rfl rfl ?_
 refine CWp.ret ?_
 refine rn0 (r1 rfl) (.refl _)
 all_goals (first | rfl | (simp []; done) | (simp_all; done) | (simp_all; omega) | omega)
theorem impl_matches_fn {w : List Data} (hd : Dp w) {f : Nat → Nat} : ∀ (n : Nat) {a k k' : Int} {p : Pat}, shapeP w n ⟨a, k'⟩ p = true → InS (w.length * 4) ⟨a, k⟩ → p.ok →
  FnD Try.prog 79 [.d (sPtr w f), .agg [.d (.i a), .d (.i k)], .agg [.d (.i p.op), .d (.i p.ctor), .d (.i p.n), .d (.i p.m), .d (.i p.var), .d (encPats p.kids)]] [] (.d (.bool (someP w f n ⟨a, k⟩ p))) []
 | 0, a, k, k', p, h, _, _ => by simp [shapeP] at h
 | n + 1, a, k, k', p, h, hi, hok => by
  rw [Pat.ok_iff] at hok
  have hw := hd.wt
  have hw4 := hd.four
  have ht := ins_tyin hi
  have pk := pkids (k := k) h
  have hcl := vctors_len hw ht
  have hops := pk.ops
  have hal := fun hm => args_ins hd hi (c := p.ctor) hm
  have hasm := fun hm => argsOf_small hw ht (c := p.ctor) hm
  have l5 := pk.len5
  have l6 := pk.len6
  have l4 := pk.len4
  refine bd Try.f79 84 [] [] fun w0 F0 own kept hk => ?_
  refine Walk.box (id := 3004) .none rfl rfl rfl rfl rfl rfl rfl ?_
  refine Walk.box (id := 3005) .none rfl rfl rfl rfl rfl rfl rfl ?_
  refine ev ?_
  refine sq (fun h1 h1p h1s => ?_) fun h1 h1p h1s => ?_
  ·try simp only [Q, Pat.cs_len, Bool.not_eq_true', Bool.not_eq_false', decide_eq_false_iff_not] at h1p
   refine sq (fun h2 h2p h2s => ?_) fun h2 h2p h2s => ?_
   ·try simp only [Q, Pat.cs_len, Bool.not_eq_true', Bool.not_eq_false', decide_eq_false_iff_not] at h2p
    refine Walk.call (cr := []) cal126 (impl_of_fn (n := w.length * 4) (f := f) hi (by omega)) rfl .none rfl rfl (LeL.refl _) trivial rfl rfl rfl ?_
    refine evd [] [] ?_
    refine dr ?_
    refine rn0 (r1 rfl) (.eqd ?_)
    all_goals (refine congrArg D.bool ?_; rw [someP_succ]; first | (rw [if_pos (by omega), dec_pos]; done) | (rw [if_neg (by omega), if_pos (by omega)]; done) | (rw [if_neg (by omega), if_neg (by omega), if_pos (by omega)]; first | rfl | (simp_all; done)) | (rw [if_neg (by omega), if_neg (by omega), if_neg (by omega), if_pos (by omega)]; done) | (rw [if_neg (by omega), if_neg (by omega), if_neg (by omega), if_neg (by omega)]; first | (rw [all2_nth_false (i := i) (by omega) (by omega) (by assumption), Bool.and_false]; done) | (rw [all2_nth_true (by omega) (fun x hx => hg1.2 x (by omega))]; simp_all; done) | (rw [decide_eq_false (by simp_all)]; rfl)))
   ·try simp only [Q, Pat.cs_len, Bool.not_eq_true', Bool.not_eq_false', decide_eq_false_iff_not] at h2p
    refine sq (fun h3 h3p h3s => ?_) fun h3 h3p h3s => ?_
    ·try simp only [Q, Pat.cs_len, Bool.not_eq_true', Bool.not_eq_false', decide_eq_false_iff_not] at h3p
     refine rn0 (r1 rfl) (.eqd ?_)
     all_goals (refine congrArg D.bool ?_; rw [someP_succ]; first | (rw [if_pos (by omega), dec_pos]; done) | (rw [if_neg (by omega), if_pos (by omega)]; done) | (rw [if_neg (by omega), if_neg (by omega), if_pos (by omega)]; first | rfl | (simp_all; done)) | (rw [if_neg (by omega), if_neg (by omega), if_neg (by omega), if_pos (by omega)]; done) | (rw [if_neg (by omega), if_neg (by omega), if_neg (by omega), if_neg (by omega)]; first | (rw [all2_nth_false (i := i) (by omega) (by omega) (by assumption), Bool.and_false]; done) | (rw [all2_nth_true (by omega) (fun x hx => hg1.2 x (by omega))]; simp_all; done) | (rw [decide_eq_false (by simp_all)]; rfl)))
    ·try simp only [Q, Pat.cs_len, Bool.not_eq_true', Bool.not_eq_false', decide_eq_false_iff_not] at h3p
     refine sq (fun h4 h4p h4s => ?_) fun h4 h4p h4s => ?_
     ·try simp only [Q, Pat.cs_len, Bool.not_eq_true', Bool.not_eq_false', decide_eq_false_iff_not] at h4p
      refine Walk.idx (i := 0) sl56 .none rfl rfl rfl rfl (pats_at (by omega)) rfl ?_
      refine evd [] [] ?_
      refine Walk.call (cr := []) cal79 (impl_matches_fn hd n (k' := k') (pk.one (by omega)) hi (Pats.ok_mem hok.2 _ (nth_mem (i := 0) (by omega)))) rfl .none rfl rfl (LeL.refl _) trivial rfl rfl rfl ?_
      refine evd [] [] ?_
      refine dr ?_
      refine rn0 (r1 rfl) (.eqd ?_)
      all_goals (refine congrArg D.bool ?_; rw [someP_succ]; first | (rw [if_pos (by omega), dec_pos]; done) | (rw [if_neg (by omega), if_pos (by omega)]; done) | (rw [if_neg (by omega), if_neg (by omega), if_pos (by omega)]; first | rfl | (simp_all; done)) | (rw [if_neg (by omega), if_neg (by omega), if_neg (by omega), if_pos (by omega)]; done) | (rw [if_neg (by omega), if_neg (by omega), if_neg (by omega), if_neg (by omega)]; first | (rw [all2_nth_false (i := i) (by omega) (by omega) (by assumption), Bool.and_false]; done) | (rw [all2_nth_true (by omega) (fun x hx => hg1.2 x (by omega))]; simp_all; done) | (rw [decide_eq_false (by simp_all)]; rfl)))
     ·try simp only [Q, Pat.cs_len, Bool.not_eq_true', Bool.not_eq_false', decide_eq_false_iff_not] at h4p
      refine sq (fun h5 h5p h5s => ?_) fun h5 h5p h5s => ?_
      ·try simp only [Q, Pat.cs_len, Bool.not_eq_true', Bool.not_eq_false', decide_eq_false_iff_not] at h5p
       refine Walk.idx (i := 0) sl56 .none rfl rfl rfl rfl (pats_at (by omega)) rfl ?_
       refine evd [] [] ?_
       refine Walk.call (cr := []) cal79 (impl_matches_fn hd n (k' := k') (pk.one (by omega)) hi (Pats.ok_mem hok.2 _ (nth_mem (i := 0) (by omega)))) rfl .none rfl rfl (LeL.refl _) trivial rfl rfl rfl ?_
       refine evd [] [] ?_
       refine sq (fun h6 h6p h6s => ?_) fun h6 h6p h6s => ?_
       ·try simp only [Q, Pat.cs_len, Bool.not_eq_true', Bool.not_eq_false', decide_eq_false_iff_not] at h6p
        refine dr ?_
        refine rn0 (r1 rfl) (.eqd ?_)
        all_goals (refine congrArg D.bool ?_; rw [someP_succ]; first | (rw [if_pos (by omega), dec_pos]; done) | (rw [if_neg (by omega), if_pos (by omega)]; done) | (rw [if_neg (by omega), if_neg (by omega), if_pos (by omega)]; first | rfl | (simp_all; done)) | (rw [if_neg (by omega), if_neg (by omega), if_neg (by omega), if_pos (by omega)]; done) | (rw [if_neg (by omega), if_neg (by omega), if_neg (by omega), if_neg (by omega)]; first | (rw [all2_nth_false (i := i) (by omega) (by omega) (by assumption), Bool.and_false]; done) | (rw [all2_nth_true (by omega) (fun x hx => hg1.2 x (by omega))]; simp_all; done) | (rw [decide_eq_false (by simp_all)]; rfl)))
       ·try simp only [Q, Pat.cs_len, Bool.not_eq_true', Bool.not_eq_false', decide_eq_false_iff_not] at h6p
        refine Walk.idx (i := 1) sl56 (.some rfl rfl h6) rfl rfl rfl rfl (pats_at (by omega)) rfl ?_
        refine evd [] [(41, false)] ?_ ⟨⟨_, rfl, h6⟩, trivial⟩
        refine Walk.call (cr := []) cal79 (impl_matches_fn hd n (k' := k') (pk.two (by omega)) hi (Pats.ok_mem hok.2 _ (nth_mem (i := 1) (by omega)))) rfl (.some rfl rfl h6) rfl rfl (LeL.refl _) trivial rfl rfl rfl ?_
        refine evd [] [(41, false)] ?_ ⟨⟨_, rfl, h6⟩, trivial⟩
        refine dr ?_
        refine rn0 (r1 rfl) (.eqd ?_)
        all_goals (refine congrArg D.bool ?_; rw [someP_succ]; first | (rw [if_pos (by omega), dec_pos]; done) | (rw [if_neg (by omega), if_pos (by omega)]; done) | (rw [if_neg (by omega), if_neg (by omega), if_pos (by omega)]; first | rfl | (simp_all; done)) | (rw [if_neg (by omega), if_neg (by omega), if_neg (by omega), if_pos (by omega)]; done) | (rw [if_neg (by omega), if_neg (by omega), if_neg (by omega), if_neg (by omega)]; first | (rw [all2_nth_false (i := i) (by omega) (by omega) (by assumption), Bool.and_false]; done) | (rw [all2_nth_true (by omega) (fun x hx => hg1.2 x (by omega))]; simp_all; done) | (rw [decide_eq_false (by simp_all)]; rfl)))
      ·try simp only [Q, Pat.cs_len, Bool.not_eq_true', Bool.not_eq_false', decide_eq_false_iff_not] at h5p
       refine Walk.call (cr := []) cal128 (impl_ctorsOf_v hw ht) rfl .none rfl rfl (LeL.refl _) trivial rfl rfl rfl ?_
       refine evd [] [] ?_
       refine Walk.call (cr := []) cal127 (slices_Contains_int_fn hcl) rfl .none rfl rfl (LeL.refl _) trivial rfl rfl rfl ?_
       refine evd [] [] ?_
       refine dr ?_
       refine sq (fun h7 h7p h7s => ?_) fun h7 h7p h7s => ?_
       ·try simp only [Q, Pat.cs_len, Bool.not_eq_true', Bool.not_eq_false', decide_eq_false_iff_not] at h7p
        refine rn0 (r1 rfl) (.eqd ?_)
        all_goals (refine congrArg D.bool ?_; rw [someP_succ]; first | (rw [if_pos (by omega), dec_pos]; done) | (rw [if_neg (by omega), if_pos (by omega)]; done) | (rw [if_neg (by omega), if_neg (by omega), if_pos (by omega)]; first | rfl | (simp_all; done)) | (rw [if_neg (by omega), if_neg (by omega), if_neg (by omega), if_pos (by omega)]; done) | (rw [if_neg (by omega), if_neg (by omega), if_neg (by omega), if_neg (by omega)]; first | (rw [all2_nth_false (i := i) (by omega) (by omega) (by assumption), Bool.and_false]; done) | (rw [all2_nth_true (by omega) (fun x hx => hg1.2 x (by omega))]; simp_all; done) | (rw [decide_eq_false (by simp_all)]; rfl)))
       ·try simp only [Q, Pat.cs_len, Bool.not_eq_true', Bool.not_eq_false', decide_eq_false_iff_not] at h7p
        refine Walk.call (cr := []) cal129 (impl_argTypes_v hw ht (by simp_all)) rfl .none rfl rfl (LeL.refl _) trivial rfl rfl rfl ?_
        refine evd [] [] ?_
        refine dr ?_
        refine CWp.loopX (ι := Nat) hk (fun i => [(69, .d (.i (i : Int)))]) [6, 7, 8, 70, 71, 72, 73, 74, 75, 76, 77, 78, 79, 80, 81, 82, 83] (fun i => []) (fun i => i ≤ (argsOf w ⟨a, k⟩ p.ctor).length ∧ ∀ i', i' < i → someP w f n (nth (argsOf w ⟨a, k⟩ p.ctor) i') (nth p.kids i') = true) (fun i => (argsOf w ⟨a, k⟩ p.ctor).length - i) 0 ⟨by omega, fun _ h => absurd h (by omega)⟩ ⟨⟨_, rfl, (LeA.eqi (by first | rfl | (simp; done) | (simp_all; done) | omega))⟩, trivial⟩ trivial (fun x => rfl) (fun i hg1 => ?_)
        refine evc [] [] ?_
        refine sq (fun h8 h8p h8s => ?_) fun h8 h8p h8s => ?_
        ·try simp only [Q, Pat.cs_len, Bool.not_eq_true', Bool.not_eq_false', decide_eq_false_iff_not] at h8p
         refine Walk.idx sl25 .none rfl rfl rfl rfl (at_nth (by omega)) rfl ?_
         refine ev ?_
         refine Walk.alloc (id := 3008) tz31 rfl .none rfl rfl rfl rfl ?_
         refine ev ?_
         refine Walk.store ty31 .none rfl rfl rfl rfl rfl rfl (by simp) rfl ?_
         refine tv ?_
         refine Walk.idx sl56 .none rfl rfl rfl rfl (pats_at (by omega)) rfl ?_
         refine evd [] [] ?_
         refine Walk.call (cr := []) cal79 (impl_matches_fn hd n (pk.arg (by omega) i (by omega)) (hal (by assumption) _ (nth_mem (by omega))) (Pats.ok_mem hok.2 _ (nth_mem (by omega)))) rfl .none rfl rfl (LeL.refl _) trivial rfl rfl rfl ?_
         refine evd [] [] ?_
         refine dr ?_
         refine sq (fun h9 h9p h9s => ?_) fun h9 h9p h9s => ?_
         ·try simp only [Q, Pat.cs_len, Bool.not_eq_true', Bool.not_eq_false', decide_eq_false_iff_not] at h9p
          refine rn0 (r1 rfl) (.eqd ?_)
          all_goals (refine congrArg D.bool ?_; rw [someP_succ]; first | (rw [if_pos (by omega), dec_pos]; done) | (rw [if_neg (by omega), if_pos (by omega)]; done) | (rw [if_neg (by omega), if_neg (by omega), if_pos (by omega)]; first | rfl | (simp_all; done)) | (rw [if_neg (by omega), if_neg (by omega), if_neg (by omega), if_pos (by omega)]; done) | (rw [if_neg (by omega), if_neg (by omega), if_neg (by omega), if_neg (by omega)]; first | (rw [all2_nth_false (i := i) (by omega) (by omega) (by assumption), Bool.and_false]; done) | (rw [all2_nth_true (by omega) (fun x hx => hg1.2 x (by omega))]; simp_all; done) | (rw [decide_eq_false (by simp_all)]; rfl)))
         ·try simp only [Q, Pat.cs_len, Bool.not_eq_true', Bool.not_eq_false', decide_eq_false_iff_not] at h9p
          refine ar ?_
          refine Exists.intro (i + 1) ⟨⟨by omega, upto_succ hg1.2 (by assumption)⟩, (by omega), Sub.x (by kernel_rfl) (by kernel_rfl) ⟨⟨_, rfl, (LeA.eqi (by first | rfl | (simp; done) | (simp_all; done) | omega))⟩, trivial⟩ (by kernel_rfl) (by kernel_rfl) trivial⟩
        ·try simp only [Q, Pat.cs_len, Bool.not_eq_true', Bool.not_eq_false', decide_eq_false_iff_not] at h8p
         refine rn0 (r1 rfl) (.eqd ?_)
         all_goals (refine congrArg D.bool ?_; rw [someP_succ]; first | (rw [if_pos (by omega), dec_pos]; done) | (rw [if_neg (by omega), if_pos (by omega)]; done) | (rw [if_neg (by omega), if_neg (by omega), if_pos (by omega)]; first | rfl | (simp_all; done)) | (rw [if_neg (by omega), if_neg (by omega), if_neg (by omega), if_pos (by omega)]; done) | (rw [if_neg (by omega), if_neg (by omega), if_neg (by omega), if_neg (by omega)]; first | (rw [all2_nth_false (i := i) (by omega) (by omega) (by assumption), Bool.and_false]; done) | (rw [all2_nth_true (by omega) (fun x hx => hg1.2 x (by omega))]; simp_all; done) | (rw [decide_eq_false (by simp_all)]; rfl)))
  ·try simp only [Q, Pat.cs_len, Bool.not_eq_true', Bool.not_eq_false', decide_eq_false_iff_not] at h1p
   refine sq (fun h10 h10p h10s => ?_) fun h10 h10p h10s => ?_
   ·try simp only [Q, Pat.cs_len, Bool.not_eq_true', Bool.not_eq_false', decide_eq_false_iff_not] at h10p
    refine Walk.call (cr := []) cal126 (impl_of_fn (n := w.length * 4) (f := f) hi (by omega)) rfl .none rfl rfl (LeL.refl _) trivial rfl rfl rfl ?_
    refine evd [] [] ?_
    refine dr ?_
    refine rn0 (r1 rfl) (.eqd ?_)
    all_goals (refine congrArg D.bool ?_; rw [someP_succ]; first | (rw [if_pos (by omega), dec_pos]; done) | (rw [if_neg (by omega), if_pos (by omega)]; done) | (rw [if_neg (by omega), if_neg (by omega), if_pos (by omega)]; first | rfl | (simp_all; done)) | (rw [if_neg (by omega), if_neg (by omega), if_neg (by omega), if_pos (by omega)]; done) | (rw [if_neg (by omega), if_neg (by omega), if_neg (by omega), if_neg (by omega)]; first | (rw [all2_nth_false (i := i) (by omega) (by omega) (by assumption), Bool.and_false]; done) | (rw [all2_nth_true (by omega) (fun x hx => hg1.2 x (by omega))]; simp_all; done) | (rw [decide_eq_false (by simp_all)]; rfl)))
   ·try simp only [Q, Pat.cs_len, Bool.not_eq_true', Bool.not_eq_false', decide_eq_false_iff_not] at h10p
    refine sq (fun h11 h11p h11s => ?_) fun h11 h11p h11s => ?_
    ·try simp only [Q, Pat.cs_len, Bool.not_eq_true', Bool.not_eq_false', decide_eq_false_iff_not] at h11p
     refine rn0 (r1 rfl) (.eqd ?_)
     all_goals (refine congrArg D.bool ?_; rw [someP_succ]; first | (rw [if_pos (by omega), dec_pos]; done) | (rw [if_neg (by omega), if_pos (by omega)]; done) | (rw [if_neg (by omega), if_neg (by omega), if_pos (by omega)]; first | rfl | (simp_all; done)) | (rw [if_neg (by omega), if_neg (by omega), if_neg (by omega), if_pos (by omega)]; done) | (rw [if_neg (by omega), if_neg (by omega), if_neg (by omega), if_neg (by omega)]; first | (rw [all2_nth_false (i := i) (by omega) (by omega) (by assumption), Bool.and_false]; done) | (rw [all2_nth_true (by omega) (fun x hx => hg1.2 x (by omega))]; simp_all; done) | (rw [decide_eq_false (by simp_all)]; rfl)))
    ·try simp only [Q, Pat.cs_len, Bool.not_eq_true', Bool.not_eq_false', decide_eq_false_iff_not] at h11p
     refine sq (fun h12 h12p h12s => ?_) fun h12 h12p h12s => ?_
     ·try simp only [Q, Pat.cs_len, Bool.not_eq_true', Bool.not_eq_false', decide_eq_false_iff_not] at h12p
      refine Walk.idx (i := 0) sl56 .none rfl rfl rfl rfl (pats_at (by omega)) rfl ?_
      refine evd [] [] ?_
      refine Walk.call (cr := []) cal79 (impl_matches_fn hd n (k' := k') (pk.one (by omega)) hi (Pats.ok_mem hok.2 _ (nth_mem (i := 0) (by omega)))) rfl .none rfl rfl (LeL.refl _) trivial rfl rfl rfl ?_
      refine evd [] [] ?_
      refine dr ?_
      refine rn0 (r1 rfl) (.eqd ?_)
      all_goals (refine congrArg D.bool ?_; rw [someP_succ]; first | (rw [if_pos (by omega), dec_pos]; done) | (rw [if_neg (by omega), if_pos (by omega)]; done) | (rw [if_neg (by omega), if_neg (by omega), if_pos (by omega)]; first | rfl | (simp_all; done)) | (rw [if_neg (by omega), if_neg (by omega), if_neg (by omega), if_pos (by omega)]; done) | (rw [if_neg (by omega), if_neg (by omega), if_neg (by omega), if_neg (by omega)]; first | (rw [all2_nth_false (i := i) (by omega) (by omega) (by assumption), Bool.and_false]; done) | (rw [all2_nth_true (by omega) (fun x hx => hg1.2 x (by omega))]; simp_all; done) | (rw [decide_eq_false (by simp_all)]; rfl)))
     ·try simp only [Q, Pat.cs_len, Bool.not_eq_true', Bool.not_eq_false', decide_eq_false_iff_not] at h12p
      refine sq (fun h13 h13p h13s => ?_) fun h13 h13p h13s => ?_
      ·try simp only [Q, Pat.cs_len, Bool.not_eq_true', Bool.not_eq_false', decide_eq_false_iff_not] at h13p
       refine Walk.idx (i := 0) sl56 .none rfl rfl rfl rfl (pats_at (by omega)) rfl ?_
       refine evd [] [] ?_
       refine Walk.call (cr := []) cal79 (impl_matches_fn hd n (k' := k') (pk.one (by omega)) hi (Pats.ok_mem hok.2 _ (nth_mem (i := 0) (by omega)))) rfl .none rfl rfl (LeL.refl _) trivial rfl rfl rfl ?_
       refine evd [] [] ?_
       refine sq (fun h14 h14p h14s => ?_) fun h14 h14p h14s => ?_
       ·try simp only [Q, Pat.cs_len, Bool.not_eq_true', Bool.not_eq_false', decide_eq_false_iff_not] at h14p
        refine dr ?_
        refine rn0 (r1 rfl) (.eqd ?_)
        all_goals (refine congrArg D.bool ?_; rw [someP_succ]; first | (rw [if_pos (by omega), dec_pos]; done) | (rw [if_neg (by omega), if_pos (by omega)]; done) | (rw [if_neg (by omega), if_neg (by omega), if_pos (by omega)]; first | rfl | (simp_all; done)) | (rw [if_neg (by omega), if_neg (by omega), if_neg (by omega), if_pos (by omega)]; done) | (rw [if_neg (by omega), if_neg (by omega), if_neg (by omega), if_neg (by omega)]; first | (rw [all2_nth_false (i := i) (by omega) (by omega) (by assumption), Bool.and_false]; done) | (rw [all2_nth_true (by omega) (fun x hx => hg1.2 x (by omega))]; simp_all; done) | (rw [decide_eq_false (by simp_all)]; rfl)))
       ·try simp only [Q, Pat.cs_len, Bool.not_eq_true', Bool.not_eq_false', decide_eq_false_iff_not] at h14p
        refine Walk.idx (i := 1) sl56 (.some rfl rfl h14) rfl rfl rfl rfl (pats_at (by omega)) rfl ?_
        refine evd [] [(41, false)] ?_ ⟨⟨_, rfl, h14⟩, trivial⟩
        refine Walk.call (cr := []) cal79 (impl_matches_fn hd n (k' := k') (pk.two (by omega)) hi (Pats.ok_mem hok.2 _ (nth_mem (i := 1) (by omega)))) rfl (.some rfl rfl h14) rfl rfl (LeL.refl _) trivial rfl rfl rfl ?_
        refine evd [] [(41, false)] ?_ ⟨⟨_, rfl, h14⟩, trivial⟩
        refine dr ?_
        refine rn0 (r1 rfl) (.eqd ?_)
        all_goals (refine congrArg D.bool ?_; rw [someP_succ]; first | (rw [if_pos (by omega), dec_pos]; done) | (rw [if_neg (by omega), if_pos (by omega)]; done) | (rw [if_neg (by omega), if_neg (by omega), if_pos (by omega)]; first | rfl | (simp_all; done)) | (rw [if_neg (by omega), if_neg (by omega), if_neg (by omega), if_pos (by omega)]; done) | (rw [if_neg (by omega), if_neg (by omega), if_neg (by omega), if_neg (by omega)]; first | (rw [all2_nth_false (i := i) (by omega) (by omega) (by assumption), Bool.and_false]; done) | (rw [all2_nth_true (by omega) (fun x hx => hg1.2 x (by omega))]; simp_all; done) | (rw [decide_eq_false (by simp_all)]; rfl)))
      ·try simp only [Q, Pat.cs_len, Bool.not_eq_true', Bool.not_eq_false', decide_eq_false_iff_not] at h13p
       refine Walk.call (cr := []) cal128 (impl_ctorsOf_v hw ht) rfl .none rfl rfl (LeL.refl _) trivial rfl rfl rfl ?_
       refine evd [] [] ?_
       refine Walk.call (cr := []) cal127 (slices_Contains_int_fn hcl) rfl .none rfl rfl (LeL.refl _) trivial rfl rfl rfl ?_
       refine evd [] [] ?_
       refine dr ?_
       refine sq (fun h15 h15p h15s => ?_) fun h15 h15p h15s => ?_
       ·try simp only [Q, Pat.cs_len, Bool.not_eq_true', Bool.not_eq_false', decide_eq_false_iff_not] at h15p
        refine rn0 (r1 rfl) (.eqd ?_)
        all_goals (refine congrArg D.bool ?_; rw [someP_succ]; first | (rw [if_pos (by omega), dec_pos]; done) | (rw [if_neg (by omega), if_pos (by omega)]; done) | (rw [if_neg (by omega), if_neg (by omega), if_pos (by omega)]; first | rfl | (simp_all; done)) | (rw [if_neg (by omega), if_neg (by omega), if_neg (by omega), if_pos (by omega)]; done) | (rw [if_neg (by omega), if_neg (by omega), if_neg (by omega), if_neg (by omega)]; first | (rw [all2_nth_false (i := i) (by omega) (by omega) (by assumption), Bool.and_false]; done) | (rw [all2_nth_true (by omega) (fun x hx => hg1.2 x (by omega))]; simp_all; done) | (rw [decide_eq_false (by simp_all)]; rfl)))
       ·try simp only [Q, Pat.cs_len, Bool.not_eq_true', Bool.not_eq_false', decide_eq_false_iff_not] at h15p
        refine Walk.call (cr := []) cal129 (impl_argTypes_v hw ht (by simp_all)) rfl .none rfl rfl (LeL.refl _) trivial rfl rfl rfl ?_
        refine evd [] [] ?_
        refine dr ?_
        refine CWp.loopX (ι := Nat) hk (fun i => [(69, .d (.i (i : Int)))]) [6, 7, 8, 70, 71, 72, 73, 74, 75, 76, 77, 78, 79, 80, 81, 82, 83] (fun i => []) (fun i => i ≤ (argsOf w ⟨a, k⟩ p.ctor).length ∧ ∀ i', i' < i → someP w f n (nth (argsOf w ⟨a, k⟩ p.ctor) i') (nth p.kids i') = true) (fun i => (argsOf w ⟨a, k⟩ p.ctor).length - i) 0 ⟨by omega, fun _ h => absurd h (by omega)⟩ ⟨⟨_, rfl, (LeA.eqi (by first | rfl | (simp; done) | (simp_all; done) | omega))⟩, trivial⟩ trivial (fun x => rfl) (fun i hg1 => ?_)
        refine evc [] [] ?_
        refine sq (fun h16 h16p h16s => ?_) fun h16 h16p h16s => ?_
        ·try simp only [Q, Pat.cs_len, Bool.not_eq_true', Bool.not_eq_false', decide_eq_false_iff_not] at h16p
         refine Walk.idx sl25 .none rfl rfl rfl rfl (at_nth (by omega)) rfl ?_
         refine ev ?_
         refine Walk.alloc (id := 3008) tz31 rfl .none rfl rfl rfl rfl ?_
         refine ev ?_
         refine Walk.store ty31 .none rfl rfl rfl rfl rfl rfl (by simp) rfl ?_
         refine tv ?_
         refine Walk.idx sl56 .none rfl rfl rfl rfl (pats_at (by omega)) rfl ?_
         refine evd [] [] ?_
         refine Walk.call (cr := []) cal79 (impl_matches_fn hd n (pk.arg (by omega) i (by omega)) (hal (by assumption) _ (nth_mem (by omega))) (Pats.ok_mem hok.2 _ (nth_mem (by omega)))) rfl .none rfl rfl (LeL.refl _) trivial rfl rfl rfl ?_
         refine evd [] [] ?_
         refine dr ?_
         refine sq (fun h17 h17p h17s => ?_) fun h17 h17p h17s => ?_
         ·try simp only [Q, Pat.cs_len, Bool.not_eq_true', Bool.not_eq_false', decide_eq_false_iff_not] at h17p
          refine rn0 (r1 rfl) (.eqd ?_)
          all_goals (refine congrArg D.bool ?_; rw [someP_succ]; first | (rw [if_pos (by omega), dec_pos]; done) | (rw [if_neg (by omega), if_pos (by omega)]; done) | (rw [if_neg (by omega), if_neg (by omega), if_pos (by omega)]; first | rfl | (simp_all; done)) | (rw [if_neg (by omega), if_neg (by omega), if_neg (by omega), if_pos (by omega)]; done) | (rw [if_neg (by omega), if_neg (by omega), if_neg (by omega), if_neg (by omega)]; first | (rw [all2_nth_false (i := i) (by omega) (by omega) (by assumption), Bool.and_false]; done) | (rw [all2_nth_true (by omega) (fun x hx => hg1.2 x (by omega))]; simp_all; done) | (rw [decide_eq_false (by simp_all)]; rfl)))
         ·try simp only [Q, Pat.cs_len, Bool.not_eq_true', Bool.not_eq_false', decide_eq_false_iff_not] at h17p
          refine ar ?_
          refine Exists.intro (i + 1) ⟨⟨by omega, upto_succ hg1.2 (by assumption)⟩, (by omega), Sub.x (by kernel_rfl) (by kernel_rfl) ⟨⟨_, rfl, (LeA.eqi (by first | rfl | (simp; done) | (simp_all; done) | omega))⟩, trivial⟩ (by kernel_rfl) (by kernel_rfl) trivial⟩
        ·try simp only [Q, Pat.cs_len, Bool.not_eq_true', Bool.not_eq_false', decide_eq_false_iff_not] at h16p
         refine rn0 (r1 rfl) (.eqd ?_)
         all_goals (refine congrArg D.bool ?_; rw [someP_succ]; first | (rw [if_pos (by omega), dec_pos]; done) | (rw [if_neg (by omega), if_pos (by omega)]; done) | (rw [if_neg (by omega), if_neg (by omega), if_pos (by omega)]; first | rfl | (simp_all; done)) | (rw [if_neg (by omega), if_neg (by omega), if_neg (by omega), if_pos (by omega)]; done) | (rw [if_neg (by omega), if_neg (by omega), if_neg (by omega), if_neg (by omega)]; first | (rw [all2_nth_false (i := i) (by omega) (by omega) (by assumption), Bool.and_false]; done) | (rw [all2_nth_true (by omega) (fun x hx => hg1.2 x (by omega))]; simp_all; done) | (rw [decide_eq_false (by simp_all)]; rfl)))
theorem impl_fixes_fn {w : List Data} (hw : WT w) : ∀ (n : Nat) {a k : Int} {p : Pat}, shapeP w n ⟨a, k⟩ p = true → TyIn w.length ⟨a, k⟩ → p.ok →
  FnD Try.prog 74 [.d (encDatas w), .agg [.d (.i a), .d (.i k)], .agg [.d (.i p.op), .d (.i p.ctor), .d (.i p.n), .d (.i p.m), .d (.i p.var), .d (encPats p.kids)]] [] (.d (.bool (rootP w n ⟨a, k⟩ p))) []
 | 0, a, k, p, h, _, _ => by simp [shapeP] at h
 | n + 1, a, k, p, h, ht, hok => by
  rw [Pat.ok_iff] at hok
  have pk := pkids (k := k) h
  have hops := pk.ops
  have l5 := pk.len5
  have l6 := pk.len6
  have hpl : p.op = 4 → 0 ≤ a ∧ a.toNat < w.length ∧ 0 ≤ p.ctor ∧ p.ctor.toNat < (nth w a.toNat).ctors.length := fun h4 => by
   obtain ⟨d, rfl, h1, j, h2, h3⟩ := vctors_data ht (pk.mem h4)
   rw [h2]; simp only [Int.toNat_natCast]; omega
  refine bd Try.f74 53 [] [] fun w0 F0 own kept hk => ?_
  refine Walk.box (id := 3004) .none rfl rfl rfl rfl rfl rfl rfl ?_
  refine Walk.box (id := 3005) .none rfl rfl rfl rfl rfl rfl rfl ?_
  refine ev ?_
  refine sq (fun h1 h1p h1s => ?_) fun h1 h1p h1s => ?_
  ·try simp only [Q, Pat.cs_len] at h1p
   refine Walk.idx (i := 0) sl56 .none rfl rfl rfl rfl (pats_at (by omega)) rfl ?_
   refine evd [] [] ?_
   refine Walk.call (cr := []) cal74 (impl_fixes_fn hw n (pk.one (by omega)) ht (Pats.ok_mem hok.2 _ (nth_mem (i := 0) (by omega)))) rfl .none rfl rfl (LeL.refl _) trivial rfl rfl rfl ?_
   refine evd [] [] ?_
   refine dr ?_
   refine rn0 (r1 rfl) (.eqd ?_)
   all_goals (refine congrArg D.bool ?_; rw [rootP_succ]; first | (rw [if_pos (by omega)]; done) | (rw [if_neg (by omega), if_pos (by omega)]; first | rfl | (simp_all; done)) | (rw [if_neg (by omega), if_neg (by omega), if_pos (by omega)]; done) | (rw [if_neg (by omega), if_neg (by omega), if_neg (by omega)]; done))
  ·try simp only [Q, Pat.cs_len] at h1p
   refine sq (fun h2 h2p h2s => ?_) fun h2 h2p h2s => ?_
   ·try simp only [Q, Pat.cs_len] at h2p
    refine Walk.idx (i := 0) sl56 .none rfl rfl rfl rfl (pats_at (by omega)) rfl ?_
    refine evd [] [] ?_
    refine Walk.call (cr := []) cal74 (impl_fixes_fn hw n (pk.one (by omega)) ht (Pats.ok_mem hok.2 _ (nth_mem (i := 0) (by omega)))) rfl .none rfl rfl (LeL.refl _) trivial rfl rfl rfl ?_
    refine evd [] [] ?_
    refine sq (fun h3 h3p h3s => ?_) fun h3 h3p h3s => ?_
    ·try simp only [Q, Pat.cs_len] at h3p
     refine Walk.idx (i := 1) sl56 (.some rfl rfl h3) rfl rfl rfl rfl (pats_at (by omega)) rfl ?_
     refine evd [] [(27, true)] ?_ ⟨⟨_, rfl, h3⟩, trivial⟩
     refine Walk.call (cr := []) cal74 (impl_fixes_fn hw n (pk.two (by omega)) ht (Pats.ok_mem hok.2 _ (nth_mem (i := 1) (by omega)))) rfl (.some rfl rfl h3) rfl rfl (LeL.refl _) trivial rfl rfl rfl ?_
     refine evd [] [(27, true)] ?_ ⟨⟨_, rfl, h3⟩, trivial⟩
     refine dr ?_
     refine rn0 (r1 rfl) (.eqd ?_)
     all_goals (refine congrArg D.bool ?_; rw [rootP_succ]; first | (rw [if_pos (by omega)]; done) | (rw [if_neg (by omega), if_pos (by omega)]; first | rfl | (simp_all; done)) | (rw [if_neg (by omega), if_neg (by omega), if_pos (by omega)]; done) | (rw [if_neg (by omega), if_neg (by omega), if_neg (by omega)]; done))
    ·try simp only [Q, Pat.cs_len] at h3p
     refine dr ?_
     refine rn0 (r1 rfl) (.eqd ?_)
     all_goals (refine congrArg D.bool ?_; rw [rootP_succ]; first | (rw [if_pos (by omega)]; done) | (rw [if_neg (by omega), if_pos (by omega)]; first | rfl | (simp_all; done)) | (rw [if_neg (by omega), if_neg (by omega), if_pos (by omega)]; done) | (rw [if_neg (by omega), if_neg (by omega), if_neg (by omega)]; done))
   ·try simp only [Q, Pat.cs_len] at h2p
    refine sq (fun h4 h4p h4s => ?_) fun h4 h4p h4s => ?_
    ·try simp only [Q, Pat.cs_len] at h4p
     refine Walk.idx (i := a.toNat) sl23 (.some rfl rfl h4) rfl rfl rfl (by have := hpl (by omega); omega) (at_nth (by have := hpl (by omega); omega)) rfl ?_
     refine evd [] [(39, true)] ?_ ⟨⟨_, rfl, h4⟩, trivial⟩
     refine Walk.idx (i := p.ctor.toNat) sl77 (.some rfl rfl h4) rfl rfl rfl (by have := hpl (by omega); omega) (at_nth (by have := hpl (by omega); omega)) rfl ?_
     refine evd [] [(39, true)] ?_ ⟨⟨_, rfl, h4⟩, trivial⟩
     refine dr ?_
     refine rn0 (r1 rfl) (.eqd ?_)
     all_goals (refine congrArg D.bool ?_; rw [rootP_succ]; first | (rw [if_pos (by omega)]; done) | (rw [if_neg (by omega), if_pos (by omega)]; first | rfl | (simp_all; done)) | (rw [if_neg (by omega), if_neg (by omega), if_pos (by omega)]; done) | (rw [if_neg (by omega), if_neg (by omega), if_neg (by omega)]; done))
    ·try simp only [Q, Pat.cs_len] at h4p
     refine dr ?_
     refine rn0 (r1 rfl) (.eqd ?_)
     all_goals (refine congrArg D.bool ?_; rw [rootP_succ]; first | (rw [if_pos (by omega)]; done) | (rw [if_neg (by omega), if_pos (by omega)]; first | rfl | (simp_all; done)) | (rw [if_neg (by omega), if_neg (by omega), if_pos (by omega)]; done) | (rw [if_neg (by omega), if_neg (by omega), if_neg (by omega)]; done))
theorem spec_l15Root_fn {w : List Data} (hw : WT w) : ∀ (n : Nat) {a k : Int} {p : Pat}, shapeP w n ⟨a, k⟩ p = true → TyIn w.length ⟨a, k⟩ → p.ok →
  FnD Try.prog 71 [.d (encDatas w), .agg [.d (.i a), .d (.i k)], .agg [.d (.i p.op), .d (.i p.ctor), .d (.i p.n), .d (.i p.m), .d (.i p.var), .d (encPats p.kids)]] [] (.d (.bool (rootP w n ⟨a, k⟩ p))) []
 | 0, a, k, p, h, _, _ => by simp [shapeP] at h
 | n + 1, a, k, p, h, ht, hok => by
  rw [Pat.ok_iff] at hok
  have pk := pkids (k := k) h
  have hops := pk.ops
  have l5 := pk.len5
  have l6 := pk.len6
  have hpl : p.op = 4 → 0 ≤ a ∧ a.toNat < w.length ∧ 0 ≤ p.ctor ∧ p.ctor.toNat < (nth w a.toNat).ctors.length := fun h4 => by
   obtain ⟨d, rfl, h1, j, h2, h3⟩ := vctors_data ht (pk.mem h4)
   rw [h2]; simp only [Int.toNat_natCast]; omega
  refine bd Try.f71 50 [] [] fun w0 F0 own kept hk => ?_
  refine Walk.box (id := 3004) .none rfl rfl rfl rfl rfl rfl rfl ?_
  refine Walk.box (id := 3005) .none rfl rfl rfl rfl rfl rfl rfl ?_
  refine ev ?_
  refine sq (fun h1 h1p h1s => ?_) fun h1 h1p h1s => ?_
  ·try simp only [Q, Pat.cs_len] at h1p
   refine Walk.idx (i := 0) sl56 .none rfl rfl rfl rfl (pats_at (by omega)) rfl ?_
   refine evd [] [] ?_
   refine Walk.call (cr := []) cal71 (spec_l15Root_fn hw n (pk.one (by omega)) ht (Pats.ok_mem hok.2 _ (nth_mem (i := 0) (by omega)))) rfl .none rfl rfl (LeL.refl _) trivial rfl rfl rfl ?_
   refine evd [] [] ?_
   refine dr ?_
   refine rn0 (r1 rfl) (.eqd ?_)
   all_goals (refine congrArg D.bool ?_; rw [rootP_succ]; first | (rw [if_pos (by omega)]; done) | (rw [if_neg (by omega), if_pos (by omega)]; first | rfl | (simp_all; done)) | (rw [if_neg (by omega), if_neg (by omega), if_pos (by omega)]; done) | (rw [if_neg (by omega), if_neg (by omega), if_neg (by omega)]; done))
  ·try simp only [Q, Pat.cs_len] at h1p
   refine sq (fun h2 h2p h2s => ?_) fun h2 h2p h2s => ?_
   ·try simp only [Q, Pat.cs_len] at h2p
    refine Walk.idx (i := 0) sl56 .none rfl rfl rfl rfl (pats_at (by omega)) rfl ?_
    refine evd [] [] ?_
    refine Walk.call (cr := []) cal71 (spec_l15Root_fn hw n (pk.one (by omega)) ht (Pats.ok_mem hok.2 _ (nth_mem (i := 0) (by omega)))) rfl .none rfl rfl (LeL.refl _) trivial rfl rfl rfl ?_
    refine evd [] [] ?_
    refine sq (fun h3 h3p h3s => ?_) fun h3 h3p h3s => ?_
    ·try simp only [Q, Pat.cs_len] at h3p
     refine Walk.idx (i := 1) sl56 (.some rfl rfl h3) rfl rfl rfl rfl (pats_at (by omega)) rfl ?_
     refine evd [] [(27, true)] ?_ ⟨⟨_, rfl, h3⟩, trivial⟩
     refine Walk.call (cr := []) cal71 (spec_l15Root_fn hw n (pk.two (by omega)) ht (Pats.ok_mem hok.2 _ (nth_mem (i := 1) (by omega)))) rfl (.some rfl rfl h3) rfl rfl (LeL.refl _) trivial rfl rfl rfl ?_
     refine evd [] [(27, true)] ?_ ⟨⟨_, rfl, h3⟩, trivial⟩
     refine dr ?_
     refine rn0 (r1 rfl) (.eqd ?_)
     all_goals (refine congrArg D.bool ?_; rw [rootP_succ]; first | (rw [if_pos (by omega)]; done) | (rw [if_neg (by omega), if_pos (by omega)]; first | rfl | (simp_all; done)) | (rw [if_neg (by omega), if_neg (by omega), if_pos (by omega)]; done) | (rw [if_neg (by omega), if_neg (by omega), if_neg (by omega)]; done))
    ·try simp only [Q, Pat.cs_len] at h3p
     refine dr ?_
     refine rn0 (r1 rfl) (.eqd ?_)
     all_goals (refine congrArg D.bool ?_; rw [rootP_succ]; first | (rw [if_pos (by omega)]; done) | (rw [if_neg (by omega), if_pos (by omega)]; first | rfl | (simp_all; done)) | (rw [if_neg (by omega), if_neg (by omega), if_pos (by omega)]; done) | (rw [if_neg (by omega), if_neg (by omega), if_neg (by omega)]; done))
   ·try simp only [Q, Pat.cs_len] at h2p
    refine sq (fun h4 h4p h4s => ?_) fun h4 h4p h4s => ?_
    ·try simp only [Q, Pat.cs_len] at h4p
     refine Walk.idx (i := a.toNat) sl23 .none rfl rfl rfl (by have := hpl (by omega); omega) (at_nth (by have := hpl (by omega); omega)) rfl ?_
     refine evd [] [] ?_
     refine Walk.idx (i := p.ctor.toNat) sl77 .none rfl rfl rfl (by have := hpl (by omega); omega) (at_nth (by have := hpl (by omega); omega)) rfl ?_
     refine evd [] [] ?_
     refine dr ?_
     refine rn0 (r1 rfl) (.eqd ?_)
     all_goals (refine congrArg D.bool ?_; rw [rootP_succ]; first | (rw [if_pos (by omega)]; done) | (rw [if_neg (by omega), if_pos (by omega)]; first | rfl | (simp_all; done)) | (rw [if_neg (by omega), if_neg (by omega), if_pos (by omega)]; done) | (rw [if_neg (by omega), if_neg (by omega), if_neg (by omega)]; done))
    ·try simp only [Q, Pat.cs_len] at h4p
     refine rn0 (r1 rfl) (.eqd ?_)
     all_goals (refine congrArg D.bool ?_; rw [rootP_succ]; first | (rw [if_pos (by omega)]; done) | (rw [if_neg (by omega), if_pos (by omega)]; first | rfl | (simp_all; done)) | (rw [if_neg (by omega), if_neg (by omega), if_pos (by omega)]; done) | (rw [if_neg (by omega), if_neg (by omega), if_neg (by omega)]; done))
theorem tv_facts {w : List Data} {a k : Int} (h : typeValid w ⟨a, k⟩ = true) : worldValid w = true ∧ TyIn w.length ⟨a, k⟩ ∧ (a ≠ -1 → 0 ≤ a ∧ a.toNat < w.length ∧ 0 ≤ k ∧ k ≤ 3) := by
 unfold typeValid at h
 rw [Bool.and_eq_true] at h
 obtain ⟨h1, h2⟩ := h
 simp only [typeOk, within, Bool.or_eq_true, Bool.and_eq_true, decide_eq_true_eq, and_true] at h2
 refine ⟨h1, ?_, fun ha => by omega⟩
 rcases h2 with h | h
 ·exact .inl h.1
 ·exact .inr ⟨a.toNat, by simp only; omega, by omega⟩
theorem ins_of {n d j : Nat} (hd : d < n) (hj : j < 4) : InS (n * 4) ⟨(d : Int), (j : Int)⟩ :=
 .inr ⟨by simp only [slotT, Int.toNat_natCast]; omega, by simp only [slotT, Int.toNat_natCast]; exact tyS_ij hj⟩
def ixOk (w : List Data) (a k : Int) (p : Pat) (m : Nat) : Bool := decide (k = 0 ∨ k = (m : Int)) && someP w (depthT w) 10 ⟨a, (m : Int)⟩ p
def idxTo (w : List Data) (a k : Int) (p : Pat) : Nat → List Int
 | 0 => []
 | m + 1 => idxTo w a k p m ++ (if ixOk w a k p (m + 1) then [((m + 1 : Nat) : Int)] else [])
theorem idxTo_len {w : List Data} {a k : Int} {p : Pat} : ∀ m, (idxTo w a k p m).length ≤ m
 | 0 => by simp [idxTo]
 | m + 1 => by
  have := idxTo_len (w := w) (a := a) (k := k) (p := p) m
  simp only [idxTo, List.length_append]
  split
  ·simp only [List.length_singleton]; omega
  ·simp only [List.length_nil]; omega
theorem idxTo_yes {w : List Data} {a k : Int} {p : Pat} {m : Nat} (h : ixOk w a k p (m + 1) = true) : idxTo w a k p (m + 1) = idxTo w a k p m ++ [((m + 1 : Nat) : Int)] := by
 simp only [idxTo]; rw [if_pos h]
theorem idxTo_no {w : List Data} {a k : Int} {p : Pat} {m : Nat} (h : ixOk w a k p (m + 1) = false) : idxTo w a k p (m + 1) = idxTo w a k p m := by
 simp only [idxTo]; rw [if_neg (by rw [h]; simp), List.append_nil]
def patValid (w : List Data) (a k : Int) (p : Pat) : Bool := typeValid w ⟨a, k⟩ && isP w ⟨a, k⟩ p
def indicesV (w : List Data) (a k : Int) (p : Pat) : List Int := if patValid w a k p = true ∧ a ≠ -1 then idxTo w a k p 3 else []
structure PVal (w : List Data) (a k : Int) (p : Pat) : Prop where
 dp : Dp w
 tin : TyIn w.length ⟨a, k⟩
 shape : shapeP w 10 ⟨a, k⟩ p = true
 rng : a ≠ -1 → 0 ≤ a ∧ a.toNat < w.length ∧ 0 ≤ k ∧ k ≤ 3
theorem pval {w : List Data} (hs : WSmall w) {a k : Int} {p : Pat} (h : patValid w a k p = true) : PVal w a k p := by
 unfold patValid at h
 rw [Bool.and_eq_true] at h
 obtain ⟨h1, h2, h3⟩ := tv_facts h.1
 have h4 := h.2
 unfold isP at h4
 simp only [Bool.and_eq_true] at h4
 exact ⟨valid_dp hs h1, h2, h4.1, h3⟩
theorem indices_one {w : List Data} {a k : Int} {p : Pat} (h : (indicesV w a k p).length = 1) : patValid w a k p = true ∧ a ≠ -1 := by
 unfold indicesV at h
 split at h
 ·assumption
 ·simp at h
theorem impl_PatternValid_fn {w : List Data} (hs : WSmall w) {a k : Int} {p : Pat} (hok : p.ok) :
  FnD Try.prog 39 [.d (encDatas w), .agg [.d (.i a), .d (.i k)], .agg [.d (.i p.op), .d (.i p.ctor), .d (.i p.n), .d (.i p.m), .d (.i p.var), .d (encPats p.kids)]] [] (.d (.bool (patValid w a k p))) [] := by
 refine bd Try.f39 16 [] [] fun w0 F0 own kept hk => ?_
 refine Walk.box (id := 3004) .none rfl rfl rfl rfl rfl rfl rfl ?_
 refine Walk.box (id := 3005) .none rfl rfl rfl rfl rfl rfl rfl ?_
 refine ev ?_
 refine Walk.call (cr := []) cal16 (impl_TypeValid_fn hs) rfl .none rfl rfl (LeL.refl _) trivial rfl rfl rfl ?_
 refine ev ?_
 refine sq (fun h1 h1p h1s => ?_) fun h1 h1p h1s => ?_
 ·try simp only [Q] at h1p
  refine Walk.call (cr := []) cal83 (impl_patternOk_fn (valid_wt hs (tv_facts h1s).1) (tv_facts h1s).2.1 hok) rfl (.some rfl rfl h1) rfl rfl (LeL.refl _) trivial rfl rfl rfl ?_
  refine evs [] [(10, true)] ?_ ⟨⟨_, rfl, h1⟩, trivial⟩
  refine rn0 (r1 rfl) (.eqd ?_)
  all_goals (refine congrArg D.bool ?_; unfold patValid; simp_all)
 ·try simp only [Q] at h1p
  refine rn0 (r1 rfl) (.eqd ?_)
  all_goals (refine congrArg D.bool ?_; unfold patValid; simp_all)
theorem spec_TypeValid_v {w : List Data} {a b : Int} (hs : WSmall w) : FnD Try.prog 61 [.d (encDatas w), .agg [.d (.i a), .d (.i b)]] [] (.d (.bool (typeValid w ⟨a, b⟩))) [] := by
 rw [← spec_tv]; exact spec_TypeValid_fn hs
theorem spec_PatternValid_fn {w : List Data} (hs : WSmall w) {a k : Int} {p : Pat} (hok : p.ok) (hb : p.size ≤ 1000000000000) :
  FnD Try.prog 80 [.d (encDatas w), .agg [.d (.i a), .d (.i k)], .agg [.d (.i p.op), .d (.i p.ctor), .d (.i p.n), .d (.i p.m), .d (.i p.var), .d (encPats p.kids)]] [] (.d (.bool (patValid w a k p))) [] := by
 refine bd Try.f80 16 [] [] fun w0 F0 own kept hk => ?_
 refine Walk.box (id := 3004) .none rfl rfl rfl rfl rfl rfl rfl ?_
 refine Walk.box (id := 3005) .none rfl rfl rfl rfl rfl rfl rfl ?_
 refine ev ?_
 refine Walk.call (cr := []) cal61 (spec_TypeValid_v hs) rfl .none rfl rfl (LeL.refl _) trivial rfl rfl rfl ?_
 refine ev ?_
 refine sq (fun h1 h1p h1s => ?_) fun h1 h1p h1s => ?_
 ·try simp only [Q] at h1p
  refine Walk.call (cr := []) cal87 (spec_l3Is_fn (valid_wt hs (tv_facts h1s).1) (tv_facts h1s).2.1 hok hb) rfl (.some rfl rfl h1) rfl rfl (LeL.refl _) trivial rfl rfl rfl ?_
  refine evs [] [(10, true)] ?_ ⟨⟨_, rfl, h1⟩, trivial⟩
  refine rn0 (r1 rfl) (.eqd ?_)
  all_goals (refine congrArg D.bool ?_; unfold patValid; simp_all)
 ·try simp only [Q] at h1p
  refine rn0 (r1 rfl) (.eqd ?_)
  all_goals (refine congrArg D.bool ?_; unfold patValid; simp_all)
theorem impl_IndicesOf_fn {w : List Data} (hs : WSmall w) {a k : Int} {p : Pat} (hok : p.ok) :
  FnD Try.prog 36 [.d (encDatas w), .agg [.d (.i a), .d (.i k)], .agg [.d (.i p.op), .d (.i p.ctor), .d (.i p.n), .d (.i p.m), .d (.i p.var), .d (encPats p.kids)]] [] (.d (encInts (indicesV w a k p))) [] := by
 by_cases hv : patValid w a k p = true ∧ a ≠ -1
 ·have pv := pval hs hv.1
  have hr := pv.rng hv.2
  have hd := pv.dp
  have hin : ∀ m : Nat, m < 4 → InS (w.length * 4) ⟨a, (m : Int)⟩ := fun m hm => by
   have := ins_of (n := w.length) hr.2.1 hm
   rwa [Int.toNat_of_nonneg hr.1] at this
  refine bd Try.f36 49 [8] [1, 8] fun w0 F0 own kept hk => ?_
  refine Walk.box (id := 3004) .none rfl rfl rfl rfl rfl rfl rfl ?_
  refine Walk.box (id := 3005) .none rfl rfl rfl rfl rfl rfl rfl ?_
  refine evs [8] [] ?_
  refine CWp.regionJ ?_
  refine WRest.join 10 [(19, .d (.bool (false)))] [10, 11, 12, 13, 14, 15, 16, 17, 18] ?_ ?_
  ·
   refine evs [8] [] ?_
   refine Walk.call (cr := []) cal39 (impl_PatternValid_fn hs hok) rfl .none rfl rfl (LeL.refl _) trivial rfl rfl rfl ?_
   refine evs [8] [] ?_
   refine sq (fun h1 h1p h1s => ?_) fun h1 h1p h1s => ?_
   ·try simp only [Q] at h1p
    exact jn rfl (LeA.eqb (by first | rfl | (simp_all; done) | (simp [ixOk, h1s, h1p]; done) | (unfold ixOk; rw [Bool.eq_iff_iff]; simp_all; done) | (unfold ixOk; rw [Bool.eq_iff_iff]; simp_all; omega)))
   ·try simp only [Q] at h1p
    exact jn rfl (LeA.eqb (by first | rfl | (simp_all; done) | (simp [ixOk, h1s, h1p]; done) | (unfold ixOk; rw [Bool.eq_iff_iff]; simp_all; done) | (unfold ixOk; rw [Bool.eq_iff_iff]; simp_all; omega)))
  refine WRest.done ?_
  refine tv ?_
  refine sq (fun h2 h2p h2s => ?_) fun h2 h2p h2s => ?_
  ·try simp only [Q] at h2p
   exact absurd h2 (by simp) --stop
  ·try simp only [Q] at h2p
   refine Walk.call (cr := []) cal78 (impl_newSpaces_fn hd) rfl .none rfl rfl (LeL.refl _) trivial rfl rfl rfl ?_
   refine evs [8] [] ?_
   refine Walk.assignNil 1 1 .none rfl rfl ?_
   refine tv ?_
   refine CWp.loopX (ι := Nat) hk (fun m => [(9, .d (.i (((m + 1 : Nat)) : Int))), (8, .gl 1 ((idxTo w a k p m).map fun n => [D.i n]))]) [22, 23, 24, 25, 26, 27, 28, 29, 30, 31, 32, 33, 34, 35, 36, 37, 38, 39, 40, 41, 42, 43, 44, 45, 46, 47] (fun m => [(1, some (.tok (((idxTo w a k p m).map fun n => [D.i n])).length 1))]) (fun m => m ≤ 3) (fun m => 3 - m) 0 (by omega) ⟨⟨_, rfl, (LeA.eqi (by first | rfl | (simp; done) | (rw [idxTo_yes (by assumption)]; simp; done) | (rw [idxTo_no (by assumption)]; done) | omega))⟩, ⟨⟨_, rfl, (LeA.glg (by first | rfl | (simp; done) | (rw [idxTo_yes (by assumption)]; simp; done) | (rw [idxTo_no (by assumption)]; done) | omega))⟩, trivial⟩⟩ ⟨beq_nat_eq (by first | rfl | (simp; done) | (simp; omega) | (first | rfl | (simp; done) | (rw [idxTo_yes (by assumption)]; simp; done) | (rw [idxTo_no (by assumption)]; done) | omega)), trivial⟩ (fun x => rfl) (fun m hg1 => ?_)
   refine evc [8] [1, 8] ?_
   refine sq (fun h3 h3p h3s => ?_) fun h3 h3p h3s => ?_
   ·try simp only [Q] at h3p
    refine CWp.regionJ ?_
    refine WRest.join 18 [(43, .d (.bool (ixOk w a k p (m + 1))))] [26, 27, 28, 29, 30, 31, 32, 33, 34, 35, 36, 37, 38, 39, 40, 41, 42] ?_ ?_
    ·
     refine evs [8] [] ?_
     refine sq (fun h4 h4p h4s => ?_) fun h4 h4p h4s => ?_
     ·try simp only [Q] at h4p
      refine sqT ?_
      refine Walk.build st31 (ks := [0, 1]) (xs := [_, _]) rfl rfl (.some rfl rfl rfl) rfl rfl rfl ?_
      refine evs [8] [(35, true)] ?_ ⟨⟨_, rfl, rfl⟩, trivial⟩
      refine Walk.call (cr := []) cal79 (impl_matches_fn hd (f := depthT w) 10 (k' := k) pv.shape (hin (m + 1) (by omega)) hok) rfl (.some rfl rfl rfl) rfl rfl (LeL.refl _) trivial rfl rfl rfl ?_
      refine evs [8] [(35, true)] ?_ ⟨⟨_, rfl, rfl⟩, trivial⟩
      exact jn rfl (LeA.eqb (by first | rfl | (simp_all; done) | (simp [ixOk, h2s, h2p, h3s, h3p, h4s, h4p]; done) | (unfold ixOk; rw [Bool.eq_iff_iff]; simp_all; done) | (unfold ixOk; rw [Bool.eq_iff_iff]; simp_all; omega)))
     ·try simp only [Q] at h4p
      refine sq (fun h5 h5p h5s => ?_) fun h5 h5p h5s => ?_
      ·try simp only [Q] at h5p
       refine Walk.build st31 (ks := [0, 1]) (xs := [_, _]) rfl rfl (.some rfl rfl h5) rfl rfl rfl ?_
       refine evs [8] [(35, true)] ?_ ⟨⟨_, rfl, h5⟩, trivial⟩
       refine Walk.call (cr := []) cal79 (impl_matches_fn hd (f := depthT w) 10 (k' := k) pv.shape (hin (m + 1) (by omega)) hok) rfl (.some rfl rfl h5) rfl rfl (LeL.refl _) trivial rfl rfl rfl ?_
       refine evs [8] [(35, true)] ?_ ⟨⟨_, rfl, h5⟩, trivial⟩
       exact jn rfl (LeA.eqb (by first | rfl | (simp_all; done) | (simp [ixOk, h2s, h2p, h3s, h3p, h4s, h4p, h5s, h5p]; done) | (unfold ixOk; rw [Bool.eq_iff_iff]; simp_all; done) | (unfold ixOk; rw [Bool.eq_iff_iff]; simp_all; omega)))
      ·try simp only [Q] at h5p
       exact jn rfl (LeA.eqb (by first | rfl | (simp_all; done) | (simp [ixOk, h2s, h2p, h3s, h3p, h4s, h4p, h5s, h5p]; done) | (unfold ixOk; rw [Bool.eq_iff_iff]; simp_all; done) | (unfold ixOk; rw [Bool.eq_iff_iff]; simp_all; omega)))
    refine WRest.done ?_
    refine tv ?_
    refine sq (fun h6 h6p h6s => ?_) fun h6 h6p h6s => ?_
    ·try simp only [Q] at h6p
     refine Walk.sliceLit sl66 tz3 rfl (by decide) (ks := [0]) (xs := [_]) rfl rfl (by decide) (by decide) .none rfl rfl rfl rfl ?_
     refine Walk.append sl66 zz3 rfl .none rfl rfl rfl rfl (htokL rfl (by first | rfl | (simp; done) | (simp; omega))) (by simp) (by have := idxTo_len (w := w) (a := a) (k := k) (p := p) m; simp; omega) (by have := idxTo_len (w := w) (a := a) (k := k) (p := p) m; simp; omega) ?_
     refine asg ?_
     refine tv ?_
     refine ar ?_
     refine Exists.intro (m + 1) ⟨(by omega), (by omega), Sub.x (by kernel_rfl) (by kernel_rfl) ⟨⟨_, rfl, (LeA.eqi (by first | rfl | (simp; done) | (rw [idxTo_yes (by assumption)]; simp; done) | (rw [idxTo_no (by assumption)]; done) | omega))⟩, ⟨⟨_, rfl, (LeA.glg (by first | rfl | (simp; done) | (rw [idxTo_yes (by assumption)]; simp; done) | (rw [idxTo_no (by assumption)]; done) | omega))⟩, trivial⟩⟩ (by kernel_rfl) (by kernel_rfl) ⟨beq_nat_eq (by first | rfl | (simp; done) | (simp; omega) | (first | rfl | (simp; done) | (rw [idxTo_yes (by assumption)]; simp; done) | (rw [idxTo_no (by assumption)]; done) | omega)), trivial⟩⟩
    ·try simp only [Q] at h6p
     refine ar ?_
     refine Exists.intro (m + 1) ⟨(by omega), (by omega), Sub.x (by kernel_rfl) (by kernel_rfl) ⟨⟨_, rfl, (LeA.eqi (by first | rfl | (simp; done) | (rw [idxTo_yes (by assumption)]; simp; done) | (rw [idxTo_no (by assumption)]; done) | omega))⟩, ⟨⟨_, rfl, (LeA.glg (by first | rfl | (simp; done) | (rw [idxTo_yes (by assumption)]; simp; done) | (rw [idxTo_no (by assumption)]; done) | omega))⟩, trivial⟩⟩ (by kernel_rfl) (by kernel_rfl) ⟨beq_nat_eq (by first | rfl | (simp; done) | (simp; omega) | (first | rfl | (simp; done) | (rw [idxTo_yes (by assumption)]; simp; done) | (rw [idxTo_no (by assumption)]; done) | omega)), trivial⟩⟩
   ·try simp only [Q] at h3p
    refine rn0 (r1 rfl) (.gld ?_)
    all_goals (unfold indicesV; rw [if_pos hv]; have e : m = 3 := (by omega); rw [e])
 ·skip
  refine bd Try.f36 49 [] [1] fun w0 F0 own kept hk => ?_
  refine Walk.box (id := 3004) .none rfl rfl rfl rfl rfl rfl rfl ?_
  refine Walk.box (id := 3005) .none rfl rfl rfl rfl rfl rfl rfl ?_
  refine ev ?_
  refine CWp.regionJ ?_
  refine WRest.join 10 [(19, .d (.bool (true)))] [10, 11, 12, 13, 14, 15, 16, 17, 18] ?_ ?_
  ·
   refine ev ?_
   refine Walk.call (cr := []) cal39 (impl_PatternValid_fn hs hok) rfl .none rfl rfl (LeL.refl _) trivial rfl rfl rfl ?_
   refine ev ?_
   refine sq (fun h1 h1p h1s => ?_) fun h1 h1p h1s => ?_
   ·try simp only [Q] at h1p
    exact jn rfl (LeA.eqb (by first | rfl | (simp_all; done) | (rw [Bool.eq_iff_iff]; simp_all; done)))
   ·try simp only [Q] at h1p
    exact jn rfl (LeA.eqb (by first | rfl | (simp_all; done) | (rw [Bool.eq_iff_iff]; simp_all; done)))
  refine WRest.done ?_
  refine tv ?_
  refine sq (fun h2 h2p h2s => ?_) fun h2 h2p h2s => ?_
  ·try simp only [Q] at h2p
   refine rn0 (r1 rfl) (.nild ?_)
   all_goals (unfold indicesV; rw [if_neg hv]; rfl)
  ·try simp only [Q] at h2p
   exact absurd h2 (by simp) --stop
theorem spec_IndicesOf_fn {w : List Data} (hs : WSmall w) {a k : Int} {p : Pat} (hok : p.ok) (hb : p.size ≤ 1000000000000) :
  FnD Try.prog 38 [.d (encDatas w), .agg [.d (.i a), .d (.i k)], .agg [.d (.i p.op), .d (.i p.ctor), .d (.i p.n), .d (.i p.m), .d (.i p.var), .d (encPats p.kids)]] [] (.d (encInts (indicesV w a k p))) [] := by
 by_cases hv : patValid w a k p = true ∧ a ≠ -1
 ·have pv := pval hs hv.1
  have hr := pv.rng hv.2
  have hd := pv.dp
  have hin : ∀ m : Nat, m < 4 → InS (w.length * 4) ⟨a, (m : Int)⟩ := fun m hm => by
   have := ins_of (n := w.length) hr.2.1 hm
   rwa [Int.toNat_of_nonneg hr.1] at this
  refine bd Try.f38 52 [] [2, 8] fun w0 F0 own kept hk => ?_
  refine Walk.box (id := 3004) .none rfl rfl rfl rfl rfl rfl rfl ?_
  refine Walk.box (id := 3005) .none rfl rfl rfl rfl rfl rfl rfl ?_
  refine ev ?_
  refine Walk.sliceEmptyG 1 sl66 .none rfl rfl ?_
  refine ev ?_
  refine CWp.regionJ ?_
  refine WRest.join 10 [(20, .d (.bool (false)))] [11, 12, 13, 14, 15, 16, 17, 18, 19] ?_ ?_
  ·
   refine ev ?_
   refine Walk.call (cr := []) cal80 (spec_PatternValid_fn hs hok hb) rfl .none rfl rfl (LeL.refl _) trivial rfl rfl rfl ?_
   refine ev ?_
   refine sq (fun h1 h1p h1s => ?_) fun h1 h1p h1s => ?_
   ·try simp only [Q] at h1p
    exact jn rfl (LeA.eqb (by first | rfl | (simp_all; done) | (simp [ixOk, h1s, h1p]; done) | (unfold ixOk; rw [Bool.eq_iff_iff]; simp_all; done) | (unfold ixOk; rw [Bool.eq_iff_iff]; simp_all; omega)))
   ·try simp only [Q] at h1p
    exact jn rfl (LeA.eqb (by first | rfl | (simp_all; done) | (simp [ixOk, h1s, h1p]; done) | (unfold ixOk; rw [Bool.eq_iff_iff]; simp_all; done) | (unfold ixOk; rw [Bool.eq_iff_iff]; simp_all; omega)))
  refine WRest.done ?_
  refine tv ?_
  refine sq (fun h2 h2p h2s => ?_) fun h2 h2p h2s => ?_
  ·try simp only [Q] at h2p
   exact absurd h2 (by simp) --stop
  ·try simp only [Q] at h2p
   refine Walk.call (cr := []) cal81 (spec_l1Table_fn hd) rfl .none rfl rfl (LeL.refl _) trivial rfl rfl rfl ?_
   refine ev ?_
   refine CWp.loopX (ι := Nat) hk (fun m => [(9, .d (.i (((m + 1 : Nat)) : Int))), (7, .gl 1 ((idxTo w a k p m).map fun n => [D.i n]))]) [24, 25, 26, 27, 28, 29, 30, 31, 32, 33, 34, 35, 36, 37, 38, 39, 40, 41, 42, 43, 44, 45, 46, 47, 48, 49, 50] (fun m => [(1, some (.tok (((idxTo w a k p m).map fun n => [D.i n])).length 1))]) (fun m => m ≤ 3) (fun m => 3 - m) 0 (by omega) ⟨⟨_, rfl, (LeA.eqi (by first | rfl | (simp; done) | (rw [idxTo_yes (by assumption)]; simp; done) | (rw [idxTo_no (by assumption)]; done) | omega))⟩, ⟨⟨_, rfl, (LeA.glg (by first | rfl | (simp; done) | (rw [idxTo_yes (by assumption)]; simp; done) | (rw [idxTo_no (by assumption)]; done) | omega))⟩, trivial⟩⟩ ⟨beq_nat_eq (by first | rfl | (simp; done) | (simp; omega) | (first | rfl | (simp; done) | (rw [idxTo_yes (by assumption)]; simp; done) | (rw [idxTo_no (by assumption)]; done) | omega)), trivial⟩ (fun x => rfl) (fun m hg1 => ?_)
   refine evc [] [2, 8] ?_
   refine sq (fun h3 h3p h3s => ?_) fun h3 h3p h3s => ?_
   ·try simp only [Q] at h3p
    refine CWp.regionJ ?_
    refine WRest.join 19 [(46, .d (.bool (ixOk w a k p (m + 1))))] [28, 29, 30, 31, 32, 33, 34, 35, 36, 37, 38, 39, 40, 41, 42, 43, 44, 45] ?_ ?_
    ·
     refine ev ?_
     refine sq (fun h4 h4p h4s => ?_) fun h4 h4p h4s => ?_
     ·try simp only [Q] at h4p
      refine sqT ?_
      refine Walk.build st31 (ks := [0, 1]) (xs := [_, _]) rfl rfl (.some rfl rfl rfl) rfl rfl rfl ?_
      refine evs [] [(37, true)] ?_ ⟨⟨_, rfl, rfl⟩, trivial⟩
      refine Walk.call (cr := []) cal82 (spec_l15Some_fn hd (f := depthT w) 10 (k' := k) pv.shape (hin (m + 1) (by omega)) hok) rfl (.some rfl rfl rfl) rfl rfl (LeL.refl _) trivial rfl rfl rfl ?_
      refine evs [] [(37, true)] ?_ ⟨⟨_, rfl, rfl⟩, trivial⟩
      exact jn rfl (LeA.eqb (by first | rfl | (simp_all; done) | (simp [ixOk, h2s, h2p, h3s, h3p, h4s, h4p]; done) | (unfold ixOk; rw [Bool.eq_iff_iff]; simp_all; done) | (unfold ixOk; rw [Bool.eq_iff_iff]; simp_all; omega)))
     ·try simp only [Q] at h4p
      refine sq (fun h5 h5p h5s => ?_) fun h5 h5p h5s => ?_
      ·try simp only [Q] at h5p
       refine Walk.build st31 (ks := [0, 1]) (xs := [_, _]) rfl rfl (.some rfl rfl h5) rfl rfl rfl ?_
       refine evs [] [(37, true)] ?_ ⟨⟨_, rfl, h5⟩, trivial⟩
       refine Walk.call (cr := []) cal82 (spec_l15Some_fn hd (f := depthT w) 10 (k' := k) pv.shape (hin (m + 1) (by omega)) hok) rfl (.some rfl rfl h5) rfl rfl (LeL.refl _) trivial rfl rfl rfl ?_
       refine evs [] [(37, true)] ?_ ⟨⟨_, rfl, h5⟩, trivial⟩
       exact jn rfl (LeA.eqb (by first | rfl | (simp_all; done) | (simp [ixOk, h2s, h2p, h3s, h3p, h4s, h4p, h5s, h5p]; done) | (unfold ixOk; rw [Bool.eq_iff_iff]; simp_all; done) | (unfold ixOk; rw [Bool.eq_iff_iff]; simp_all; omega)))
      ·try simp only [Q] at h5p
       exact jn rfl (LeA.eqb (by first | rfl | (simp_all; done) | (simp [ixOk, h2s, h2p, h3s, h3p, h4s, h4p, h5s, h5p]; done) | (unfold ixOk; rw [Bool.eq_iff_iff]; simp_all; done) | (unfold ixOk; rw [Bool.eq_iff_iff]; simp_all; omega)))
    refine WRest.done ?_
    refine tv ?_
    refine sq (fun h6 h6p h6s => ?_) fun h6 h6p h6s => ?_
    ·try simp only [Q] at h6p
     refine Walk.sliceLit sl66 tz3 rfl (by decide) (ks := [0]) (xs := [_]) rfl rfl (by decide) (by decide) .none rfl rfl rfl rfl ?_
     refine Walk.append sl66 zz3 rfl .none rfl rfl rfl rfl (htokL rfl (by first | rfl | (simp; done) | (simp; omega))) (by simp) (by have := idxTo_len (w := w) (a := a) (k := k) (p := p) m; simp; omega) (by have := idxTo_len (w := w) (a := a) (k := k) (p := p) m; simp; omega) ?_
     refine ev ?_
     refine ar ?_
     refine Exists.intro (m + 1) ⟨(by omega), (by omega), Sub.x (by kernel_rfl) (by kernel_rfl) ⟨⟨_, rfl, (LeA.eqi (by first | rfl | (simp; done) | (rw [idxTo_yes (by assumption)]; simp; done) | (rw [idxTo_no (by assumption)]; done) | omega))⟩, ⟨⟨_, rfl, (LeA.glg (by first | rfl | (simp; done) | (rw [idxTo_yes (by assumption)]; simp; done) | (rw [idxTo_no (by assumption)]; done) | omega))⟩, trivial⟩⟩ (by kernel_rfl) (by kernel_rfl) ⟨beq_nat_eq (by first | rfl | (simp; done) | (simp; omega) | (first | rfl | (simp; done) | (rw [idxTo_yes (by assumption)]; simp; done) | (rw [idxTo_no (by assumption)]; done) | omega)), trivial⟩⟩
    ·try simp only [Q] at h6p
     refine ar ?_
     refine Exists.intro (m + 1) ⟨(by omega), (by omega), Sub.x (by kernel_rfl) (by kernel_rfl) ⟨⟨_, rfl, (LeA.eqi (by first | rfl | (simp; done) | (rw [idxTo_yes (by assumption)]; simp; done) | (rw [idxTo_no (by assumption)]; done) | omega))⟩, ⟨⟨_, rfl, (LeA.glg (by first | rfl | (simp; done) | (rw [idxTo_yes (by assumption)]; simp; done) | (rw [idxTo_no (by assumption)]; done) | omega))⟩, trivial⟩⟩ (by kernel_rfl) (by kernel_rfl) ⟨beq_nat_eq (by first | rfl | (simp; done) | (simp; omega) | (first | rfl | (simp; done) | (rw [idxTo_yes (by assumption)]; simp; done) | (rw [idxTo_no (by assumption)]; done) | omega)), trivial⟩⟩
   ·try simp only [Q] at h3p
    refine rn0 (r1 rfl) (.gld ?_)
    all_goals (unfold indicesV; rw [if_pos hv]; have e : m = 3 := (by omega); rw [e])
 ·skip
  refine bd Try.f38 52 [] [2] fun w0 F0 own kept hk => ?_
  refine Walk.box (id := 3004) .none rfl rfl rfl rfl rfl rfl rfl ?_
  refine Walk.box (id := 3005) .none rfl rfl rfl rfl rfl rfl rfl ?_
  refine ev ?_
  refine Walk.sliceEmptyG 1 sl66 .none rfl rfl ?_
  refine ev ?_
  refine CWp.regionJ ?_
  refine WRest.join 10 [(20, .d (.bool (true)))] [11, 12, 13, 14, 15, 16, 17, 18, 19] ?_ ?_
  ·
   refine ev ?_
   refine Walk.call (cr := []) cal80 (spec_PatternValid_fn hs hok hb) rfl .none rfl rfl (LeL.refl _) trivial rfl rfl rfl ?_
   refine ev ?_
   refine sq (fun h1 h1p h1s => ?_) fun h1 h1p h1s => ?_
   ·try simp only [Q] at h1p
    exact jn rfl (LeA.eqb (by first | rfl | (simp_all; done) | (rw [Bool.eq_iff_iff]; simp_all; done)))
   ·try simp only [Q] at h1p
    exact jn rfl (LeA.eqb (by first | rfl | (simp_all; done) | (rw [Bool.eq_iff_iff]; simp_all; done)))
  refine WRest.done ?_
  refine tv ?_
  refine sq (fun h2 h2p h2s => ?_) fun h2 h2p h2s => ?_
  ·try simp only [Q] at h2p
   refine rn0 (r1 rfl) (.gld ?_)
   all_goals (unfold indicesV; rw [if_neg hv]; rfl)
  ·try simp only [Q] at h2p
   exact absurd h2 (by simp) --stop
def narrowV (w : List Data) (a k : Int) (p : Pat) : Ty × Bool :=
 if (indicesV w a k p).length = 1 ∧ rootP w 10 ⟨a, k⟩ p = true then (⟨a, nth (indicesV w a k p) 0⟩, true) else (⟨0, 0⟩, false)
theorem narrow_yes {w : List Data} {a k : Int} {p : Pat} (h : (decide ((indicesV w a k p).length = 1) && rootP w 10 ⟨a, k⟩ p) = true) : narrowV w a k p = (⟨a, nth (indicesV w a k p) 0⟩, true) := by
 unfold narrowV; rw [if_pos (by simpa using h)]
theorem narrow_no {w : List Data} {a k : Int} {p : Pat} (h : (decide ((indicesV w a k p).length = 1) && rootP w 10 ⟨a, k⟩ p) = false) : narrowV w a k p = (⟨0, 0⟩, false) := by
 unfold narrowV; rw [if_neg (by intro hh; rw [decide_eq_true hh.1, hh.2] at h; cases h)]
theorem impl_NarrowType_fn {w : List Data} (hs : WSmall w) {a k : Int} {p : Pat} (hok : p.ok) :
  FnD Try.prog 31 [.d (encDatas w), .agg [.d (.i a), .d (.i k)], .agg [.d (.i p.op), .d (.i p.ctor), .d (.i p.n), .d (.i p.m), .d (.i p.var), .d (encPats p.kids)]] [] (.tup [.agg [.d (.i (narrowV w a k p).1.data), .d (.i (narrowV w a k p).1.index)], .d (.bool (narrowV w a k p).2)]) [] := by
 have hF : (indicesV w a k p).length = 1 → FnD Try.prog 74 [.d (encDatas w), .agg [.d (.i a), .d (.i k)], .agg [.d (.i p.op), .d (.i p.ctor), .d (.i p.n), .d (.i p.m), .d (.i p.var), .d (encPats p.kids)]] [] (.d (.bool (rootP w 10 ⟨a, k⟩ p))) [] := fun h => by
  have pv := pval hs (indices_one h).1
  exact impl_fixes_fn pv.dp.wt 10 pv.shape pv.tin hok
 refine bd Try.f31 30 [] [2] fun w0 F0 own kept hk => ?_
 refine Walk.box (id := 3004) .none rfl rfl rfl rfl rfl rfl rfl ?_
 refine Walk.box (id := 3005) .none rfl rfl rfl rfl rfl rfl rfl ?_
 refine Walk.alloc (id := 3006) tz31 rfl .none rfl rfl rfl rfl ?_
 refine ev ?_
 refine Walk.call (cr := []) cal36 (impl_IndicesOf_fn hs hok) rfl .none rfl rfl (LeL.refl _) trivial rfl rfl rfl ?_
 refine ev ?_
 refine CWp.regionJ ?_
 refine WRest.join 10 [(22, .d (.bool (!(decide ((indicesV w a k p).length = 1) && rootP w 10 ⟨a, k⟩ p))))] [13, 14, 15, 16, 17, 18, 19, 20, 21] ?_ ?_
 ·
  refine ev ?_
  refine sq (fun h1 h1p h1s => ?_) fun h1 h1p h1s => ?_
  ·try simp only [Q] at h1p
   exact jn rfl (LeA.eqb (by first | rfl | (rw [Bool.eq_iff_iff]; simp_all; done) | (rw [Bool.eq_iff_iff]; simp_all; omega)))
  ·try simp only [Q] at h1p
   refine Walk.call (cr := []) cal74 (hF (by omega)) rfl (.some rfl rfl h1) rfl rfl (LeL.refl _) trivial rfl rfl rfl ?_
   refine evs [] [(16, false)] ?_ ⟨⟨_, rfl, h1⟩, trivial⟩
   exact jn rfl (LeA.eqb (by first | rfl | (rw [Bool.eq_iff_iff]; simp_all; done) | (rw [Bool.eq_iff_iff]; simp_all; omega)))
 refine WRest.done ?_
 refine tv ?_
 refine sq (fun h2 h2p h2s => ?_) fun h2 h2p h2s => ?_
 ·try simp only [Q] at h2p
  refine Walk.build st31 (ks := []) (xs := []) rfl rfl .none rfl rfl rfl ?_
  refine Walk.store ty31 .none rfl rfl rfl rfl rfl rfl (by simp) rfl ?_
  refine ev ?_
  refine rn0 (.cons (.cellA ty31 rfl rfl rfl) (.cons (.tmp rfl) .nil)) (.tup (.cons (.agg (.cons (.eqd ?_) (.cons (.eqd ?_) .nil))) (.cons (.eqd ?_) .nil)))
  all_goals (first | (rw [narrow_yes (by simp_all)]; done) | (rw [narrow_no (by simp_all)]; done))
 ·try simp only [Q] at h2p
  refine Walk.idx (i := 0) sl66 .none rfl rfl rfl rfl (at_nth (by have h : (indicesV w a k p).length = 1 := (by simp_all); omega)) rfl ?_
  refine evd [] [] ?_
  refine Walk.build st31 (ks := [0, 1]) (xs := [_, _]) rfl rfl .none rfl rfl rfl ?_
  refine Walk.store ty31 .none rfl rfl rfl rfl rfl rfl (by simp) rfl ?_
  refine evd [] [] ?_
  refine dr ?_
  refine rn0 (.cons (.cellA ty31 rfl rfl rfl) (.cons (.tmp rfl) .nil)) (.tup (.cons (.agg (.cons (.eqd ?_) (.cons (.eqd ?_) .nil))) (.cons (.eqd ?_) .nil)))
  all_goals (first | (rw [narrow_yes (by simp_all)]; done) | (rw [narrow_no (by simp_all)]; done))
theorem spec_NarrowType_fn {w : List Data} (hs : WSmall w) {a k : Int} {p : Pat} (hok : p.ok) (hb : p.size ≤ 1000000000000) :
  FnD Try.prog 27 [.d (encDatas w), .agg [.d (.i a), .d (.i k)], .agg [.d (.i p.op), .d (.i p.ctor), .d (.i p.n), .d (.i p.m), .d (.i p.var), .d (encPats p.kids)]] [] (.tup [.agg [.d (.i (narrowV w a k p).1.data), .d (.i (narrowV w a k p).1.index)], .d (.bool (narrowV w a k p).2)]) [] := by
 have hF : (indicesV w a k p).length = 1 → FnD Try.prog 71 [.d (encDatas w), .agg [.d (.i a), .d (.i k)], .agg [.d (.i p.op), .d (.i p.ctor), .d (.i p.n), .d (.i p.m), .d (.i p.var), .d (encPats p.kids)]] [] (.d (.bool (rootP w 10 ⟨a, k⟩ p))) [] := fun h => by
  have pv := pval hs (indices_one h).1
  exact spec_l15Root_fn pv.dp.wt 10 pv.shape pv.tin hok
 refine bd Try.f27 30 [] [2] fun w0 F0 own kept hk => ?_
 refine Walk.box (id := 3004) .none rfl rfl rfl rfl rfl rfl rfl ?_
 refine Walk.box (id := 3005) .none rfl rfl rfl rfl rfl rfl rfl ?_
 refine Walk.alloc (id := 3006) tz31 rfl .none rfl rfl rfl rfl ?_
 refine ev ?_
 refine Walk.call (cr := []) cal38 (spec_IndicesOf_fn hs hok hb) rfl .none rfl rfl (LeL.refl _) trivial rfl rfl rfl ?_
 refine ev ?_
 refine CWp.regionJ ?_
 refine WRest.join 10 [(22, .d (.bool (!(decide ((indicesV w a k p).length = 1) && rootP w 10 ⟨a, k⟩ p))))] [13, 14, 15, 16, 17, 18, 19, 20, 21] ?_ ?_
 ·
  refine ev ?_
  refine sq (fun h1 h1p h1s => ?_) fun h1 h1p h1s => ?_
  ·try simp only [Q] at h1p
   exact jn rfl (LeA.eqb (by first | rfl | (rw [Bool.eq_iff_iff]; simp_all; done) | (rw [Bool.eq_iff_iff]; simp_all; omega)))
  ·try simp only [Q] at h1p
   refine Walk.call (cr := []) cal71 (hF (by omega)) rfl (.some rfl rfl h1) rfl rfl (LeL.refl _) trivial rfl rfl rfl ?_
   refine evs [] [(16, false)] ?_ ⟨⟨_, rfl, h1⟩, trivial⟩
   exact jn rfl (LeA.eqb (by first | rfl | (rw [Bool.eq_iff_iff]; simp_all; done) | (rw [Bool.eq_iff_iff]; simp_all; omega)))
 refine WRest.done ?_
 refine tv ?_
 refine sq (fun h2 h2p h2s => ?_) fun h2 h2p h2s => ?_
 ·try simp only [Q] at h2p
  refine Walk.build st31 (ks := []) (xs := []) rfl rfl .none rfl rfl rfl ?_
  refine Walk.store ty31 .none rfl rfl rfl rfl rfl rfl (by simp) rfl ?_
  refine ev ?_
  refine rn0 (.cons (.cellA ty31 rfl rfl rfl) (.cons (.tmp rfl) .nil)) (.tup (.cons (.agg (.cons (.eqd ?_) (.cons (.eqd ?_) .nil))) (.cons (.eqd ?_) .nil)))
  all_goals (first | (rw [narrow_yes (by simp_all)]; done) | (rw [narrow_no (by simp_all)]; done))
 ·try simp only [Q] at h2p
  refine Walk.idx (i := 0) sl66 .none rfl rfl rfl rfl (at_nth (by have h : (indicesV w a k p).length = 1 := (by simp_all); omega)) rfl ?_
  refine evd [] [] ?_
  refine Walk.build st31 (ks := [0, 1]) (xs := [_, _]) rfl rfl .none rfl rfl rfl ?_
  refine Walk.store ty31 .none rfl rfl rfl rfl rfl rfl (by simp) rfl ?_
  refine evd [] [] ?_
  refine dr ?_
  refine rn0 (.cons (.cellA ty31 rfl rfl rfl) (.cons (.tmp rfl) .nil)) (.tup (.cons (.agg (.cons (.eqd ?_) (.cons (.eqd ?_) .nil))) (.cons (.eqd ?_) .nil)))
  all_goals (first | (rw [narrow_yes (by simp_all)]; done) | (rw [narrow_no (by simp_all)]; done))
theorem laws_FnExactNarrowType_fn {w : List Data} (hs : WSmall w) {a k : Int} {p : Pat} (hok : p.ok) (hsz : p.size ≤ 1000000000000) : FnD Try.prog 6 [.d (encDatas w), .agg [.d (.i a), .d (.i k)], .agg [.d (.i p.op), .d (.i p.ctor), .d (.i p.n), .d (.i p.m), .d (.i p.var), .d (encPats p.kids)]] [] (.d (.bool true)) [] := by
 have z := szr_or (left := 1048576) (mDatas w)
 refine bd Try.f6 65 [53] [] fun w0 F0 own kept hk => ?_
 refine Walk.box (id := 3004) .none rfl rfl rfl rfl rfl rfl rfl ?_
 refine Walk.box (id := 3005) .none rfl rfl rfl rfl rfl rfl rfl ?_
 refine evs [53] [] ?_
 refine Walk.call (cr := []) cal25 (laws_szDataS_fn hs (by omega) (by omega)) rfl .none rfl rfl (LeL.refl _) trivial rfl rfl rfl ?_
 refine evs [53] [] ?_
 refine sq (fun h1 h1p h1s => ?_) fun h1 h1p h1s => ?_
 ·try simp only [Q] at h1p
  refine rn0 (r1 rfl) (.eqd ?_)
  all_goals (first | rfl | (exfalso; simp_all [patEq_refl]; done) | (exfalso; simp [patEq_refl] at *; omega))
 ·try simp only [Q] at h1p
  refine Walk.call (cr := []) cal26 (laws_szPattern_fn _ (Nat.le_refl _) hok (by omega) (by omega)) rfl .none rfl rfl (LeL.refl _) trivial rfl rfl rfl ?_
  refine evs [53] [] ?_
  refine sq (fun h2 h2p h2s => ?_) fun h2 h2p h2s => ?_
  ·try simp only [Q] at h2p
   refine rn0 (r1 rfl) (.eqd ?_)
   all_goals (first | rfl | (exfalso; simp_all [patEq_refl]; done) | (exfalso; simp [patEq_refl] at *; omega))
  ·try simp only [Q] at h2p
   refine Walk.call (cr := []) cal28 (laws_toDataS_fn hs) rfl .none rfl rfl (LeL.refl _) trivial rfl rfl rfl ?_
   refine evd [53] [] ?_
   refine Walk.call (cr := []) cal29 (laws_toType_fn) rfl .none rfl rfl (LeL.refl _) trivial rfl rfl rfl ?_
   refine evd [53] [] ?_
   refine Walk.call (cr := []) cal30 (laws_toPattern_fn hok) rfl .none rfl rfl (LeL.refl _) trivial rfl rfl rfl ?_
   refine Walk.call (cr := []) cal27 (spec_NarrowType_fn hs hok hsz) rfl .none rfl rfl (LeL.refl _) trivial rfl rfl rfl ?_
   refine evd [53] [] ?_
   refine Walk.alloc (id := 3008) tz31 rfl .none rfl rfl rfl rfl ?_
   refine Walk.store ty31 .none rfl rfl rfl rfl rfl rfl (by simp) rfl ?_
   refine evd [53] [] ?_
   refine dr ?_
   refine Walk.call (cr := []) cal28 (laws_toDataS_fn hs) rfl .none rfl rfl (LeL.refl _) trivial rfl rfl rfl ?_
   refine evs [53] [] ?_
   refine Walk.call (cr := []) cal30 (laws_toPattern_fn hok) rfl .none rfl rfl (LeL.refl _) trivial rfl rfl rfl ?_
   refine Walk.alloc (id := 3011) tz58 rfl .none rfl rfl rfl rfl ?_
   refine Walk.store ty58 .none rfl rfl rfl rfl rfl rfl (by simp) rfl ?_
   refine tv ?_
   refine Walk.call (cr := []) cal29 (laws_toType_fn) rfl .none rfl rfl (LeL.refl _) trivial rfl rfl rfl ?_
   refine evd [53] [] ?_
   refine Walk.call (cr := []) cal31 (impl_NarrowType_fn hs hok) rfl .none rfl rfl (LeL.refl _) trivial rfl rfl rfl ?_
   refine evd [53] [] ?_
   refine Walk.alloc (id := 3012) tz31 rfl .none rfl rfl rfl rfl ?_
   refine Walk.store ty31 .none rfl rfl rfl rfl rfl rfl (by simp) rfl ?_
   refine evd [53] [] ?_
   refine dr ?_
   refine Walk.call (cr := []) cal32 (laws_eqType_fn) rfl .none rfl rfl (LeL.refl _) trivial rfl rfl rfl ?_
   refine evs [53] [] ?_
   refine sq (fun h3 h3p h3s => ?_) fun h3 h3p h3s => ?_
   ·try simp only [Q] at h3p
    refine sqT ?_
    refine rn0 (r1 rfl) (.eqd ?_)
    all_goals (first | rfl | (exfalso; simp_all [patEq_refl]; done) | (exfalso; simp [patEq_refl] at *; omega))
   ·try simp only [Q] at h3p
    refine Walk.neB un4 (.some rfl rfl h3) rfl rfl rfl ?_
    refine evs [53] [(50, false)] ?_ ⟨⟨_, rfl, h3⟩, trivial⟩
    refine sq (fun h5 h5p h5s => ?_) fun h5 h5p h5s => ?_
    ·try simp only [Q] at h5p
     refine rn0 (r1 rfl) (.eqd ?_)
     all_goals (first | rfl | (exfalso; simp_all [patEq_refl]; done) | (exfalso; simp [patEq_refl] at *; omega))
    ·try simp only [Q] at h5p
     refine Walk.call (cr := []) cal28 (laws_toDataS_fn hs) rfl .none rfl rfl (LeL.refl _) trivial rfl rfl rfl ?_
     refine Walk.call (cr := []) cal33 (laws_eqDataS_fn hs) rfl .none rfl rfl (LeL.refl _) trivial rfl rfl rfl ?_
     refine evs [53] [] ?_
     refine sq (fun h6 h6p h6s => ?_) fun h6 h6p h6s => ?_
     ·try simp only [Q] at h6p
      refine rn0 (r1 rfl) (.eqd ?_)
      all_goals (first | rfl | (exfalso; simp_all [patEq_refl]; done) | (exfalso; simp [patEq_refl] at *; omega))
     ·try simp only [Q] at h6p
      refine Walk.call (cr := []) cal30 (laws_toPattern_fn hok) rfl .none rfl rfl (LeL.refl _) trivial rfl rfl rfl ?_
      refine Walk.call (cr := []) cal34 (laws_eqPattern_fn _ (Nat.le_refl _) hok) rfl .none rfl rfl (LeL.refl _) trivial rfl rfl rfl ?_
      refine evd [53] [] ?_
      refine dr ?_
      refine sq (fun h7 h7p h7s => ?_) fun h7 h7p h7s => ?_
      ·try simp only [Q] at h7p
       refine rn0 (r1 rfl) (.eqd ?_)
       all_goals (first | rfl | (exfalso; simp_all [patEq_refl]; done) | (exfalso; simp [patEq_refl] at *; omega))
      ·try simp only [Q] at h7p
       refine rn0 (r1 rfl) (.eqd ?_)
       all_goals (first | rfl | (exfalso; simp_all [patEq_refl]; done) | (exfalso; simp [patEq_refl] at *; omega))
end Go.Proofs.Ytpimgoacljakgaa
namespace Go.Proofs.Ytpimgoacljakgaa
open Go Go.ChangeShapes Go.WideShapes Go.ChangeAt Go.RowKit
set_option linter.unusedSimpArgs false
set_option linter.unusedVariables false
set_option linter.unusedVariables false
def FW (W : World) (b : Nat) : Nat := match W.heap[b]? with
 | some (.cells cs _ _) => cs.size
 | _ => 0
theorem FW_cell {W : World} {b o : Nat} {v : Value} (h : W.cell? ⟨b, o, none⟩ = some v) : o < FW W b := by
 unfold World.cell? at h
 unfold FW
 simp only at h
 split at h
 ·rename_i c t fr hb
  simp only [hb]
  simp only [Option.isSome_none, Bool.false_eq_true, if_false] at h
  exact (Array.getElem?_eq_some_iff.1 h).1
 ·cases h
theorem FW_top {W : World} {b : Nat} (h : W.heap.size ≤ b) : FW W b = 0 := by
 unfold FW
 rw [Array.getElem?_eq_none h]
structure RelL (W : World) (xs : List D) (cs : List Value) : Prop where
 len : xs.length = cs.length
 rel : ∀ i (h1 : i < xs.length) (h2 : i < cs.length), RelD (FW W) W xs[i] cs[i]
theorem RelL.append {W : World} {xs ys : List D} {cs ds : List Value} (h : RelL W xs cs) (k : RelL W ys ds) : RelL W (xs ++ ys) (cs ++ ds) := by
 refine ⟨by simp [h.len, k.len], fun i h1 h2 => ?_⟩
 by_cases hi : i < xs.length
 ·rw [List.getElem_append_left hi, List.getElem_append_left (by rw [← h.len]; exact hi)]
  exact h.rel i hi (by rw [← h.len]; exact hi)
 ·have hl := h.len
  rw [List.getElem_append_right (by omega), List.getElem_append_right (by omega)]
  have e : i - xs.length = i - cs.length := by omega
  have h1' : i - xs.length < ys.length := by simp only [List.length_append] at h1; omega
  have h2' : i - cs.length < ds.length := by simp only [List.length_append] at h2; omega
  have := k.rel (i - xs.length) h1' (by omega)
  simp only [e] at this ⊢
  exact this
def Dec (P : Program) (W : World) (n : Nat) (t : TypeId) {α : Type} (f : α → List D) (m : α → Nat) (R : α → Prop) : Prop :=
 ∀ (H : Type) (enc : TypeId × Value → H) (cs : List Value) (x : DataW H × List MemPlace), DataW.trod enc P W 0 (fun _ => true) true n t cs = some x →
  ∃ a, RelL W (f a) cs ∧ m a + 1 ≤ Rows.uptoBulk x.1 ∧ R a
section
variable {P : Program} {W : World} {n : Nat} {t : TypeId}
theorem Dec.zero {α : Type} {f : α → List D} {m : α → Nat} {R : α → Prop} : Dec P W 0 t f m R := fun H enc cs x h => by simp [DataW.trod] at h
theorem Dec.map {α β : Type} {f : α → List D} {m : α → Nat} {R : α → Prop} {f' : β → List D} {m' : β → Nat} {R' : β → Prop} (g : α → β) (h : Dec P W n t f m R)
  (h1 : ∀ a, f' (g a) = f a) (h2 : ∀ a, m' (g a) ≤ m a) (h3 : ∀ a, R a → R' (g a)) : Dec P W n t f' m' R' := fun H enc cs x hx => by
 obtain ⟨a, q1, q2, q3⟩ := h H enc cs x hx
 exact ⟨g a, by rw [h1]; exact q1, by have := h2 a; omega, h3 a q3⟩
theorem RelL.one {x : D} {v : Value} (h : RelD (FW W) W x v) : RelL W [x] [v] :=
 ⟨rfl, fun i h1 h2 => by
  have : i = 0 := by simp at h1; omega
  subst this
  exact h⟩
theorem Dec.int {k : IntKind} (ht : P.underlying t = some (.int k)) : Dec P W n t (fun z : Int => [.int k z]) (fun _ => 0) (fun z => (Lit.int k z).wf = true) := fun H enc cs x h => by
 obtain ⟨z, rfl, rfl, hw⟩ := DataW.trod_int ht h
 exact ⟨z, .one (.int k z), by simp [Rows.uptoBulk], hw⟩
theorem Dec.bool (ht : P.underlying t = some .bool) : Dec P W n t (fun z : Bool => [.bool z]) (fun _ => 0) (fun _ => True) := fun H enc cs x h => by
 obtain ⟨z, rfl, rfl⟩ := DataW.trod_bool ht h
 exact ⟨z, .one (.bool z), by simp [Rows.uptoBulk], trivial⟩
theorem Dec.str (ht : P.underlying t = some .string) : Dec P W n t (fun s : Str => [.str s]) (fun s => s.length) (fun _ => True) := fun H enc cs x h => by
 obtain ⟨s, rfl, rfl, hw⟩ := DataW.trod_string ht h
 exact ⟨s.data.toList, .one (by have := RelD.str (F := FW W) (w := W) s.data.toList; simpa using this), by simp [Rows.uptoBulk], trivial⟩
def sumM {α : Type} (m : α → Nat) : List α → Nat
 | [] => 0
 | a :: r => m a + 1 + sumM m r
theorem sumM_len {α : Type} (m : α → Nat) : ∀ l : List α, l.length ≤ sumM m l
 | [] => by simp [sumM]
 | a :: r => by have := sumM_len m r; simp only [sumM, List.length_cons]; omega
theorem sumM_mem {α : Type} {m : α → Nat} : ∀ {l : List α} {a : α}, a ∈ l → m a + 1 ≤ sumM m l
 | b :: r, a, h => by
  simp only [sumM]
  rcases List.mem_cons.1 h with rfl | h
  ·omega
  ·have := sumM_mem (m := m) h; omega
theorem choose_list {α β : Type} {Q : Nat → α → β → Prop} : ∀ (l : List β) (o : Nat), (∀ i (h : i < l.length), ∃ a, Q (o + i) a l[i]) → ∃ zs : List α, zs.length = l.length ∧ ∀ i (h : i < l.length) (h' : i < zs.length), Q (o + i) zs[i] l[i]
 | [], o, _ => ⟨[], rfl, fun i h => by simp at h⟩
 | b :: r, o, h => by
  obtain ⟨a, ha⟩ := h 0 (by simp)
  obtain ⟨zs, h1, h2⟩ := choose_list (Q := Q) r (o + 1) (fun i hi => by
   have := h (i + 1) (by simp; omega)
   rw [show o + 1 + i = o + (i + 1) by omega]
   simpa using this)
  refine ⟨a :: zs, by simp [h1], fun i hi hi' => ?_⟩
  cases i with
  | zero => exact ha
  | succ i =>
   have := h2 i (by simpa using hi) (by simpa using hi')
   rw [show o + 1 + i = o + (i + 1) by omega] at this
   simpa using this
theorem bulk_sum {H α : Type} {m : α → Nat} : ∀ {zs : List α} {xs : List (DataW H)}, zs.length = xs.length → (∀ i (h : i < zs.length) (h' : i < xs.length), m zs[i] + 1 ≤ Rows.uptoBulk xs[i]) → sumM m zs ≤ Rows.uptoBulkAll xs
 | [], [], _, _ => by simp [sumM, Rows.uptoBulkAll]
 | a :: zs, x :: xs, hl, h => by
  have h0 := h 0 (by simp) (by simp)
  have ih := bulk_sum (m := m) (zs := zs) (xs := xs) (by simpa using hl) (fun i h1 h2 => by
   have := h (i + 1) (by simp; omega) (by simp; omega)
   simpa using this)
  simp only [sumM, Rows.uptoBulkAll]
  simp only [List.getElem_cons_zero] at h0
  omega
 | [], _ :: _, hl, _ => by simp at hl
 | _ :: _, [], hl, _ => by simp at hl
theorem Dec.sl {α : Type} {f : α → List D} {m : α → Nat} {R : α → Prop} {e : TypeId} {k : Nat} (ht : P.underlying t = some (.slice e)) (hc : P.cellsOf e = k + 1) (hk : ∀ a, (f a).length = k + 1) (he : Dec P W n e f m R) :
  Dec P W (n + 1) t (fun l : List α => [.sl (l.map f)]) (fun l => sumM m l) (fun l => ∀ a ∈ l, R a) := fun H enc cs x h => by
 rcases DataW.trod_slice ht h with ⟨rfl, rfl⟩ | ⟨a, len, cap, elems, rest, n', hn, rfl, rfl, _, hcap, _, hlen, hel, _, _⟩
 ·exact ⟨[], .one .nil, by simp [sumM, Rows.uptoBulk], fun a h => by simp at h⟩
 obtain rfl : n = n' := by omega
 have each : ∀ i (hi : i < elems.length), ∃ y, (∃ cs, W.cells? 0 (a.add (i * (k + 1))) (k + 1) = some cs ∧ RelL W (f y) cs) ∧ m y + 1 ≤ Rows.uptoBulk (elems[i]).1 ∧ R y := by
  intro i hi
  have := hel i (by omega)
  rw [hc, List.getElem?_eq_getElem hi, Option.bind_eq_some_iff] at this
  obtain ⟨cs, h1, h2⟩ := this
  obtain ⟨y, h3, h4, h5⟩ := he H enc cs _ h2
  exact ⟨y, ⟨cs, h1, h3⟩, h4, h5⟩
 obtain ⟨zs, hal, has⟩ := choose_list (Q := fun i y (el : DataW H × List MemPlace) => (∃ cs, W.cells? 0 (a.add (i * (k + 1))) (k + 1) = some cs ∧ RelL W (f y) cs) ∧ m y + 1 ≤ Rows.uptoBulk el.1 ∧ R y) elems 0 (fun i hi => by simpa using each i hi)
 refine ⟨zs, .one ?_, ?_, fun y hy => ?_⟩
 ·by_cases h0 : zs = []
  ·subst h0
   have hz : len = 0 := by simp at hal; omega
   subst hz
   obtain ⟨b, o, s⟩ := a
   cases s with
   | none => exact .sl [] 0 b o cap (fun _ => undef) (by simp) (by simp) (fun n hn => by simp at hn) (fun i hi => by simp at hi)
   | some s => exact .emp b o s cap
  ·have hpos : 0 < zs.length := List.length_pos_iff.2 h0
   obtain ⟨⟨cs0, hc0, hr0⟩, _⟩ := has 0 (by omega) hpos
   have hspot : a.spot = none := by
    have h1 := (World.cells?_some hc0).2.2 0 (by omega)
    have h2 : 0 < cs0.length := by have := (World.cells?_some hc0).2.1; omega
    simp only [Nat.add_zero, Nat.zero_mul, Addr.add, if_true, List.getElem?_eq_getElem h2] at h1
    unfold World.cell? at h1
    split at h1
    ·cases hs : a.spot with
     | none => rfl
     | some s => simp [hs] at h1
    ·cases h1
   obtain ⟨b, o, s⟩ := a
   simp only at hspot
   subst hspot
   have hlen' : (zs.map f).length = len := by simp; omega
   have hmulk : ∀ i j, i < zs.length → j < k + 1 → i * (k + 1) + j < zs.length * (k + 1) := fun i j hi hj => by
    have : (i + 1) * (k + 1) ≤ zs.length * (k + 1) := Nat.mul_le_mul_right _ (by omega)
    rw [Nat.add_mul, Nat.one_mul] at this
    omega
   have cellAt : ∀ i (hi : i < zs.length) j (hj : j < (f zs[i]).length), ∃ v, W.cell? ⟨b, o + (i * (k + 1) + j), none⟩ = some v ∧ RelD (FW W) W ((f zs[i])[j]) v := fun i hi j hj => by
    obtain ⟨⟨cs, hc1, hr1⟩, _⟩ := has i (by omega) hi
    have hjk : j < k + 1 := by have := hk zs[i]; omega
    obtain ⟨_, q1, q2⟩ := World.cells?_some hc1
    have q3 := q2 j hjk
    rw [List.getElem?_eq_getElem (by omega)] at q3
    refine ⟨cs[j], ?_, hr1.rel j hj (by omega)⟩
    rw [← q3]
    congr 1
    simp only [Nat.zero_add, Addr.add]
    split <;> split <;> simp_all <;> omega
   have hv : ((zs.map f).length, cap) = (len, cap) := by rw [hlen']
   have goal : RelD (FW W) W (.sl (zs.map f)) (.slice (some ⟨b, o, none⟩) (zs.map f).length cap) := by
    refine .sl _ (k + 1) b o cap (fun q => (W.cell? ⟨b, o + q, none⟩).getD undef) (fun y hy => ?_) (by omega) (fun q hq => ?_) (fun i hi j hj => ?_)
    ·obtain ⟨y', _, rfl⟩ := List.mem_map.1 hy; exact hk y'
    ·have hq' : q < zs.length * (k + 1) := by simpa using hq
     have hi : q / (k + 1) < zs.length := Nat.div_lt_of_lt_mul (by rw [Nat.mul_comm]; exact hq')
     have hj : q % (k + 1) < k + 1 := Nat.mod_lt _ (by omega)
     obtain ⟨v, h1, _⟩ := cellAt _ hi (q % (k + 1)) (by rw [hk]; exact hj)
     rw [Nat.div_add_mod'] at h1
     exact ⟨FW_cell h1, by rw [h1]; rfl⟩
    ·have hi' : i < zs.length := by simpa using hi
     simp only [List.getElem_map] at hj ⊢
     obtain ⟨v, h1, h2⟩ := cellAt i hi' j hj
     show RelD (FW W) W _ ((W.cell? ⟨b, o + (i * (k + 1) + j), none⟩).getD undef)
     rw [h1]
     exact h2
   rw [hlen'] at goal
   exact goal
 ·have := bulk_sum (m := m) (zs := zs) (xs := elems.map (·.1)) (by simp [hal]) (fun i h1 h2 => by
   have := (has i (by simpa using h2) h1).2.1
   simpa using this)
  simp only [Rows.uptoBulk]
  omega
 ·obtain ⟨i, hi, rfl⟩ := List.getElem_of_mem hy
  exact (has i (by omega) hi).2.2
def DecF (P : Program) (W : World) (n o K : Nat) (fs : List Field) {α : Type} (f : α → List D) (m : α → Nat) (R : α → Prop) : Prop :=
 ∀ (H : Type) (enc : TypeId × Value → H) (cs : List Value) (xs : List (DataW H × List MemPlace)), cs.length = K → xs.length = fs.length →
  (∀ (i : Nat) (fd : Field), fs[i]? = some fd → DataW.trod enc P W 0 (fun _ => true) true n fd.type ((cs.drop fd.offset).take (P.cellsOf fd.type)) = xs[i]?) →
  ∃ a, RelL W (f a) (cs.drop o) ∧ m a ≤ Rows.uptoBulkAll (xs.map (·.1)) ∧ R a
theorem DecF.nil {K : Nat} : DecF P W n K K [] (fun _ : Unit => []) (fun _ => 0) (fun _ => True) := fun H enc cs xs h1 h2 _ =>
 ⟨(), by rw [List.drop_of_length_le (by omega)]; exact ⟨rfl, fun i h => by simp at h⟩, by simp, trivial⟩
theorem DecF.cons {α β : Type} {f : α → List D} {m : α → Nat} {R : α → Prop} {f2 : β → List D} {m2 : β → Nat} {R2 : β → Prop} {o K k : Nat} {fd : Field} {fs : List Field}
  (h1 : Dec P W n fd.type f m R) (ho : fd.offset = o) (hc : P.cellsOf fd.type = k) (h2 : DecF P W n (o + k) K fs f2 m2 R2) :
  DecF P W n o K (fd :: fs) (fun p : α × β => f p.1 ++ f2 p.2) (fun p => m p.1 + 1 + m2 p.2) (fun p => R p.1 ∧ R2 p.2) := fun H enc cs xs hK hl hx => by
 cases xs with
 | nil => simp at hl
 | cons y ys =>
  have h0 := hx 0 fd (by simp)
  simp only [List.getElem?_cons_zero] at h0
  rw [ho, hc] at h0
  obtain ⟨a, q1, q2, q3⟩ := h1 H enc _ _ h0
  obtain ⟨b, r1, r2, r3⟩ := h2 H enc cs ys hK (by simpa using hl) (fun i fd' hi => by
   have := hx (i + 1) fd' (by simpa using hi)
   simpa using this)
  refine ⟨(a, b), ?_, ?_, q3, r3⟩
  ·have : cs.drop o = (cs.drop o).take k ++ cs.drop (o + k) := by
    rw [← List.drop_drop, List.take_append_drop]
   rw [this]
   exact q1.append r1
  ·simp only [List.map_cons, Rows.uptoBulkAll]
   omega
theorem Dec.struct {α : Type} {f : α → List D} {m : α → Nat} {R : α → Prop} {fs : Array Field} (ht : P.underlying t = some (.struct fs)) {K : Nat} (hK : P.cellsOf t = K) (h : DecF P W n 0 K fs.toList f m R) :
  Dec P W (n + 1) t f m R := fun H enc cs x hx => by
 obtain ⟨xs, n', hn, rfl, hl, hxl, hf⟩ := DataW.trod_struct ht hx
 obtain rfl : n = n' := by omega
 obtain ⟨a, q1, q2, q3⟩ := h H enc cs xs (by omega) (by simpa using hxl) (fun i fd hi => hf i fd (by simpa using hi))
 refine ⟨a, by simpa using q1, ?_, q3⟩
 simp only [Rows.uptoBulk]
 omega
end
section
variable {P : Program} {W : World} {base : Nat} {t : TypeId} {v : Value} {H : Type} {enc : TypeId × Value → H} {d : DataW H} {ps : List MemPlace}
theorem arg_sl {α : Type} {e : TypeId} {f : α → List D} {m : α → Nat} {R : α → Prop} {k : Nat} (ht : P.underlying t = some (.slice e)) (hc : P.cellsOf e = k + 1) (hk : ∀ a, (f a).length = k + 1) (hd : ∀ n, Dec P W n e f m R)
  (hval : Value.okWide P W .any base t v) (h : DataW.Trod enc P W 0 (fun _ => true) true t v d ps) :
  ∃ l : List α, (∀ G T, G.F = FW W → RelA G T W (.d (.sl (l.map f))) v) ∧ sumM m l + 1 ≤ Rows.uptoBulk d ∧ ∀ a ∈ l, R a := by
 obtain ⟨n, hn⟩ := h
 cases n with
 | zero => simp [DataW.trod] at hn
 | succ n =>
  obtain ⟨l, h1, h2, h3⟩ := Dec.sl ht hc hk (hd n) H enc _ _ hn
  have hcells : v.cells.toList = [v] := by
   cases v with
   | agg cs => simp only [Value.okWide, ht, Cell.okWide, Cell.ok] at hval
   | _ => rfl
  rw [hcells] at h1
  exact ⟨l, fun G T hG => .d (by rw [hG]; simpa using h1.rel 0 (by simp) (by simp)), h2, h3⟩
theorem arg_struct {α : Type} {f : α → List D} {m : α → Nat} {R : α → Prop} {fs : Array Field} (ht : P.underlying t = some (.struct fs)) (hd : ∀ n, Dec P W n t f m R)
  (hval : Value.okWide P W .any base t v) (h : DataW.Trod enc P W 0 (fun _ => true) true t v d ps) :
  ∃ a : α, (∀ G T, G.F = FW W → RelA G T W (.agg ((f a).map .d)) v) ∧ m a + 1 ≤ Rows.uptoBulk d ∧ R a := by
 obtain ⟨n, hn⟩ := h
 obtain ⟨a, h1, h2, h3⟩ := hd n H enc _ _ hn
 simp only [Value.okWide, ht] at hval
 obtain ⟨cs, rfl, _, _⟩ := hval
 refine ⟨a, fun G T hG => .agg (by have := h1.len; simp [Value.cells] at this ⊢; omega) (fun i hi hv => ?_), h2, h3⟩
 have hi' : i < (f a).length := by simpa using hi
 have := h1.rel i hi' (by simpa [Value.cells] using hv)
 simp only [List.getElem_map]
 exact .d (by rw [hG]; simpa [Value.cells] using this)
end
section
variable {P : Program} {H : Type} {enc : TypeId × Value → H}
theorem trodAll_below (hl : laidOutB P = true) {W W' : World} (hb : Below W.heap.size W W') : ∀ {ts : List TypeId} {vs : List Value} {ds : List (DataW H)} {ps : List MemPlace},
  (∀ t ∈ ts, P.readableRec t = true ∧ t < P.types.size) → DataW.TrodAll enc P W 0 (fun _ => true) true ts vs ds ps → (∀ x ∈ ps, x.block < W.heap.size) →
  DataW.TrodAll enc P W' 0 (fun b => decide (b < W.heap.size)) true ts vs ds ps
 | [], [], [], ps, _, h, _ => h
 | t :: ts, v :: vs, d :: ds, ps, hr, h, hlt => by
  obtain ⟨p, q, h1, h2, rfl⟩ := h
  exact ⟨p, q, Below.trod hl (hr t (by simp)).1 (hr t (by simp)).2 h1 hb (fun x hx => hlt x (by simp [hx])),
   trodAll_below hl hb (fun t ht => hr t (by simp [ht])) h2 (fun x hx => hlt x (by simp [hx])), rfl⟩
theorem law_post {f : Func} {s : ChangeSpec} {W W' : World} {args : Array Value} {ds gs : List (DataW H)} {before : List MemPlace} {tb : TypeId}
  (hW : DataW.Whole enc P f.params.toList s.vars false W args.toList ds gs before) (hvars : s.vars = []) (hrt : f.resultTypes = #[tb]) (htb : P.underlying tb = some .bool)
  (hs : s.fn H (ds ++ gs) = { results := [.lit (.bool true)], args := ds }) (hl : laidOutB P = true) (hr : ∀ t ∈ f.params.toList, P.readableRec t = true ∧ t < P.types.size)
  (hb : Below W.heap.size W W') : s.post enc P f false true false false W args (.bool true) W' := by
 have hlt : ∀ p ∈ before, p.block < W.heap.size := fun p hp => hW.lt p hp
 have hW0 := hW
 obtain ⟨p, q, hA, hV, rfl, hfz, _⟩ := hW
 rw [hvars] at hV
 cases gs with
 | cons g gs => exact hV.elim
 | nil =>
  have hq : q = [] := hV
  subst hq
  simp only [List.append_nil] at *
  refine ⟨ds, [], p, [], p, [], by simpa [hvars] using hW0, ?_, ?_, ?_, World.keptBut_mono (fun x hx => ⟨hx, .inr (.inl hx)⟩) (hb.frame (· ∈ p)), fun h => by cases h⟩
  ·simp only [List.append_nil, hs, hrt]
   exact trodAll_cons_mk (shut_bool htb _) trodAll_mk0
  ·simp only [List.append_nil, hs]
   exact trodAll_below hl hb hr hA hlt
  ·simp only [hvars, List.append_nil, hs]
   rfl
theorem law_calls {f : FuncId} {avs : List AV} {W : World} {args : Array Value} {r : AV} (hf : FnD P f avs [] r [])
  (hargs : ∀ G T, G.F = FW W → AllR G T W avs args) : Calls P f args W fun e W' => ∃ v G', e = .returned v ∧ RelA G' (fun _ => none) W' r v ∧ Below W.heap.size W W' := by
 let G : Gh := { F := FW W, loc := fun _ => [] }
 refine (hf G W args ⟨hargs G _ rfl, fun id r h => (by simp [getH] at h), fun id id' h => (by simp [getH] at h), fun b hb => FW_top hb⟩).mono ?_
 rintro e W' ⟨v, r', hp', G', rfl, ⟨rfl, rfl⟩, h⟩
 exact ⟨v, G', rfl, h.res, ⟨h.frm.os, h.frm.tape, h.frm.output, h.frm.size, fun b hb => (h.frm.block b hb (by simp [ownedL])).1⟩⟩
theorem RelA.bool_true {G : Gh} {T : TokF} {w : World} {v : Value} (h : RelA G T w (.d (.bool true)) v) : v = .bool true := by
 cases h with | d h => cases h; rfl
theorem bound_of {H : Type} {l : List (DataW H)} (hk : Rows.uptoSmall H l = true) : Rows.uptoBulkAll l ≤ 1048576 := of_decide_eq_true hk
end
end Go.Proofs.Ytpimgoacljakgaa
namespace Go.Proofs.Ytpimgoacljakgaa
open Go Go.ChangeShapes Go.WideShapes Go.ChangeAt Go.RowKit
set_option linter.unusedSimpArgs false
set_option linter.unusedVariables false
set_option maxRecDepth 100000
theorem decInt (W : World) (n : Nat) : Dec Try.prog W n 3 (fun z : Int => [.i z]) (fun _ => 0) (fun _ => True) := Dec.map (f := fun z : Int => [D.i z]) (R := fun z => (Lit.int .i64 z).wf = true) id (Dec.int Try.underlying3) (fun _ => rfl) (fun _ => Nat.le_refl _) (fun _ _ => trivial)
theorem decStr (W : World) (n : Nat) : Dec Try.prog W n 9 (fun s : Str => [.str s]) (fun s => s.length) (fun _ => True) := Dec.str Try.underlying9
theorem decTy (W : World) : ∀ n, Dec Try.prog W n 46 Ty.c (fun _ => 0) (fun _ => True)
 | 0 => Dec.zero
 | n + 1 => Dec.map (fun p : Int × Int × Unit => (⟨p.1, p.2.1⟩ : Ty)) (Dec.struct Try.underlying46 (by kernel_rfl) (DecF.cons (k := 1) (decInt W n) rfl (by kernel_rfl) (DecF.cons (k := 1) (decInt W n) rfl (by kernel_rfl) DecF.nil))) (fun _ => rfl) (fun _ => Nat.zero_le _) (fun _ _ => trivial)
theorem decTys (W : World) : ∀ n, Dec Try.prog W n 171 (fun l : List Ty => [encTys l]) (fun l => l.length) (fun _ => True)
 | 0 => Dec.zero
 | n + 1 => Dec.map id (Dec.sl (k := 1) Try.underlying171 (by kernel_rfl) (fun _ => rfl) (decTy W n)) (fun _ => rfl) (fun l => sumM_len _ l) (fun _ _ => trivial)
def bCtor (c : Ctor) : Nat := c.name.length + c.args.length
theorem decCtor (W : World) : ∀ n, Dec Try.prog W n 173 Ctor.c bCtor (fun _ => True)
 | 0 => Dec.zero
 | n + 1 => Dec.map (fun p : Str × List Ty × Int × Unit => (⟨p.1, p.2.1, p.2.2.1⟩ : Ctor)) (Dec.struct Try.underlying173 (by kernel_rfl) (DecF.cons (k := 1) (decStr W n) rfl (by kernel_rfl) (DecF.cons (k := 1) (decTys W n) rfl (by kernel_rfl) (DecF.cons (k := 1) (decInt W n) rfl (by kernel_rfl) DecF.nil))))
   (fun _ => rfl) (fun p => by simp only [bCtor]; omega) (fun _ _ => trivial)
theorem decCtors (W : World) : ∀ n, Dec Try.prog W n 93 (fun l : List Ctor => [encCtors l]) (fun l => sumM bCtor l) (fun _ => True)
 | 0 => Dec.zero
 | n + 1 => Dec.map id (Dec.sl (k := 2) Try.underlying93 (by kernel_rfl) (fun _ => rfl) (decCtor W n)) (fun _ => rfl) (fun l => Nat.le_refl _) (fun _ _ => trivial)
def bData (d : Data) : Nat := d.name.length + sumM bCtor d.ctors
theorem decData (W : World) : ∀ n, Dec Try.prog W n 95 Data.c bData (fun _ => True)
 | 0 => Dec.zero
 | n + 1 => Dec.map (fun p : Str × List Ctor × Unit => (⟨p.1, p.2.1⟩ : Data)) (Dec.struct Try.underlying95 (by kernel_rfl) (DecF.cons (k := 1) (decStr W n) rfl (by kernel_rfl) (DecF.cons (k := 1) (decCtors W n) rfl (by kernel_rfl) DecF.nil)))
   (fun _ => rfl) (fun p => by simp only [bData]; omega) (fun _ _ => trivial)
theorem wsmall_of {w : List Data} {N : Nat} (h : sumM bData w + 1 ≤ N) (hN : N ≤ 1048576) : WSmall w := by
 refine ⟨by have := sumM_len bData w; omega, fun d hd => ?_, fun d hd c hc => ?_⟩
 ·have h1 := sumM_mem (m := bData) hd
  have h2 := sumM_len bCtor d.ctors
  simp only [bData] at h1
  omega
 ·have h1 := sumM_mem (m := bData) hd
  have h2 := sumM_mem (m := bCtor) hc
  simp only [bData] at h1
  simp only [bCtor] at h2
  omega
theorem decPat (W : World) : ∀ n, Dec Try.prog W n 49 Pat.cc (fun v => Pats.size v.kids) (fun _ => True) := by
 intro n
 induction n using Nat.strongRecOn with
 | _ n ih =>
  cases n with
  | zero => exact Dec.zero
  | succ n =>
   have hk : Dec Try.prog W n 47 (fun l : List Pat => [.sl (l.map Pat.cc)]) (fun l => Pats.size l) (fun _ => True) := by
    cases n with
    | zero => exact Dec.zero
    | succ n =>
     refine Dec.map id (Dec.sl (k := 5) Try.underlying47 (by kernel_rfl) (fun _ => rfl) (ih n (by omega))) (fun _ => rfl) (fun l => ?_) (fun _ _ => trivial)
     have : ∀ l : List Pat, Pats.size l ≤ sumM (fun v => Pats.size v.kids) l := by
      intro l
      induction l with
      | nil => simp [Pats.size, sumM]
      | cons a r ih2 => simp only [Pats.size, sumM, Pat.size_eq]; omega
     exact this l
   refine Dec.map (fun p : Int × Int × Int × Int × Int × List Pat × Unit => Pat.mk p.1 p.2.1 p.2.2.1 p.2.2.2.1 p.2.2.2.2.1 p.2.2.2.2.2.1) (Dec.struct Try.underlying49 (by kernel_rfl) (DecF.cons (k := 1) (decInt W n) rfl (by kernel_rfl) (DecF.cons (k := 1) (decInt W n) rfl (by kernel_rfl) (DecF.cons (k := 1) (decInt W n) rfl (by kernel_rfl) (DecF.cons (k := 1) (decInt W n) rfl (by kernel_rfl) (DecF.cons (k := 1) (decInt W n) rfl (by kernel_rfl) (DecF.cons (k := 1) hk rfl (by kernel_rfl) DecF.nil))))))) (fun p => ?_) (fun p => ?_) (fun _ _ => trivial)
   ·show [D.i _, D.i _, D.i _, D.i _, D.i _, D.sl (Pat.cs _)] = _
    rw [show Pat.cs (Pat.mk p.1 p.2.1 p.2.2.1 p.2.2.2.1 p.2.2.2.2.1 p.2.2.2.2.2.1).kids = p.2.2.2.2.2.1.map Pat.cc by rw [Pat.cs_eq]; exact List.map_congr_left (fun v _ => Pat.c_eq v)]
    rfl
   ·show Pats.size p.2.2.2.2.2.1 ≤ 0 + 1 + (0 + 1 + (0 + 1 + (0 + 1 + (0 + 1 + (Pats.size p.2.2.2.2.2.1 + 1 + 0)))))
    omega
theorem Pats.ok_size : ∀ (n : Nat) (l : List Pat), Pats.size l ≤ n → n ≤ 1048576 → l.length ≤ 1048576 ∧ Pats.ok l := by
 intro n
 induction n with
 | zero =>
  intro l h hn
  cases l with
  | nil => exact ⟨by simp, trivial⟩
  | cons x r => simp only [Pats.size, Pat.size_eq] at h; omega
 | succ n ih =>
  intro l
  induction l with
  | nil => intro _ _; exact ⟨by simp, trivial⟩
  | cons x r ihr =>
   intro h hn
   simp only [Pats.size] at h
   have hx := Pat.size_eq x
   have h1 := ih x.kids (by omega) (by omega)
   have h2 := ih r (by omega) (by omega)
   refine ⟨?_, (Pat.ok_iff x).2 ⟨by have := h1.1; omega, h1.2⟩, h2.2⟩
   have : ∀ l : List Pat, l.length ≤ Pats.size l := by
    intro l
    induction l with
    | nil => simp
    | cons y s ihs => simp only [Pats.size, List.length_cons, Pat.size_eq]; omega
   have := this r
   simp only [List.length_cons]; omega
theorem pat_ok_of {v : Pat} (h : Pats.size v.kids ≤ 1048576) : v.ok := by
 have := Pats.ok_size _ _ (Nat.le_refl _) h
 exact (Pat.ok_iff v).2 ⟨by omega, this.2⟩
end Go.Proofs.Ytpimgoacljakgaa
namespace Go.Proofs.Ytpimgoacljakgaa.fnExactNarrowType
open Go Go.ChangeShapes Go.WideShapes Go.ChangeAt Go.RowKit
set_option linter.unusedSimpArgs false
set_option linter.unusedVariables false
theorem own : ownKnob Try.prog.godebug = none := by kernel_rfl
theorem laidOut : laidOutB Try.prog = true := by kernel_rfl
set_option maxRecDepth 100000 in
theorem contract (H : Type) (enc : TypeId × Value → H) (W : World) (base : Nat) (args : Array Value) (ds gs : List (DataW H)) (before : List MemPlace)
  (hval : ∀ (j : Nat) t v, Try.f6.params[j]? = some t → args[j]? = some v → Value.okWide Try.prog W .any base t v)
  (hW : DataW.Whole enc Try.prog Try.f6.params.toList Rows.fnExactNarrowTypeSpec.vars false W args.toList ds gs before) (hk : Rows.uptoSmall H (ds ++ gs) = true) :
  Calls Try.prog 6 args W fun e W' => ∃ v, e = .returned v ∧ Rows.fnExactNarrowTypeSpec.post enc Try.prog Try.f6 false true false false W args v W' := by
 have hb := bound_of hk
 have hW' := hW
 obtain ⟨p, q, hA0, hV, rfl, hfz, hnd⟩ := hW
 have hA : DataW.TrodAll enc Try.prog W 0 (fun _ => true) true Try.f6.params.toList args.toList ds p := hA0
 rw [Try.params6] at hA hval
 obtain ⟨v0, vs0, d0, ds0, p0, q0, hargs, rfl, rfl, h0, r0⟩ := trodAll_cons hA
 obtain ⟨v1, vs1, d1, ds1, p1, q1, rfl, rfl, rfl, h1, r1⟩ := trodAll_cons r0
 obtain ⟨v2, vs2, d2, ds2, p2, q2, rfl, rfl, rfl, h2, r2⟩ := trodAll_cons r1
 obtain ⟨rfl, rfl, rfl⟩ := trodAll_nil r2
 obtain rfl : args = #[v0, v1, v2] := by cases args; simp_all
 obtain ⟨rfl, rfl⟩ := trodVars_none hV
 simp only [List.append_nil, Rows.uptoBulkAll] at hb
 obtain ⟨w, a0, b0, _⟩ := arg_sl (k := 1) Try.underlying45 (by kernel_rfl) (fun _ => rfl) (decData W) (hval 0 _ v0 rfl rfl) h0
 obtain ⟨t, a1, b1, _⟩ := arg_struct Try.underlying46 (decTy W) (hval 1 _ v1 rfl rfl) h1
 obtain ⟨p, a2, b2, _⟩ := arg_struct Try.underlying49 (decPat W) (hval 2 _ v2 rfl rfl) h2
 have hs : WSmall w := wsmall_of b0 (by omega)
 have ok_p : p.ok := pat_ok_of (by omega)
 have sz_p : p.size ≤ 1000000000000 := by rw [Pat.size_eq]; omega
 refine (law_calls (laws_FnExactNarrowType_fn hs (a := t.data) (k := t.index) ok_p sz_p) (W := W) (args := #[v0, v1, v2]) (fun G T hG => ⟨rfl, fun i hi hv => ?_⟩)).mono ?_
 ·match i, hi with
  | 0, _ => exact a0 G T hG
  | 1, _ => exact a1 G T hG
  | 2, _ => exact a2 G T hG
 ·rintro e W' ⟨v, G', rfl, hr, hbelow⟩
  obtain rfl := hr.bool_true
  exact ⟨_, rfl, law_post hW' rfl rfl Try.underlying4 rfl laidOut (fun t ht => by
   simp only [Try.params6, List.mem_cons, List.not_mem_nil, or_false] at ht
   rcases ht with rfl | rfl | rfl <;> exact ⟨by kernel_rfl, of_decide_eq_true (by kernel_rfl)⟩) hbelow⟩
set_option maxRecDepth 100000 in
theorem lifted (os : Os) (started : os.Started) (H : Type) (enc : TypeId × Value → H) (F : Stop.Interp) :
  ReturnsInHanded {} Try.checked os 6 .any ((Rows.OpenSpec.upto Rows.fnExactNarrowTypeSpec).pre6 enc Try.prog Try.f6 Rows.fnExactNarrowTypeUptoRow.domain false) (((Rows.OpenSpec.upto Rows.fnExactNarrowTypeSpec).at F).post enc Try.prog Try.f6 false true false false) := by
 refine returnsInHanded_of_cond (C := Try.checked) (s := Rows.OpenSpec.upto Rows.fnExactNarrowTypeSpec) (k := Rows.uptoSmall) rfl own started (by kernel_rfl) Try.func6
  (OpenSpec.witness (enc := enc) (C := Try.checked) (s := Rows.OpenSpec.upto Rows.fnExactNarrowTypeSpec) (k := Rows.uptoSmall) rfl false ⟨#[], #[.slice none 0 0, .agg #[.int .i64 0, .int .i64 0], .agg #[.int .i64 0, .int .i64 0, .int .i64 0, .int .i64 0, .int .i64 0, .slice none 0 0]], []⟩ 8 (by kernel_rfl) (by kernel_rfl) (by kernel_rfl)
   (x := ([.nil, .agg [.lit (.int .i64 0), .lit (.int .i64 0)], .agg [.lit (.int .i64 0), .lit (.int .i64 0), .lit (.int .i64 0), .lit (.int .i64 0), .lit (.int .i64 0), .nil]], [], [])) (by kernel_rfl) rfl (by kernel_rfl)) ?_
 intro W base args ds gs before hval hW _ hk _
 exact contract H enc W base args ds gs before hval hW hk
theorem over : Rows.fnExactNarrowTypeUptoRow.holds Try.pinned (Rows.OpenSpec.upto Rows.fnExactNarrowTypeSpec) :=
 OpenClaim.holds_of_cond 6 Try.f6 rfl rfl rfl rfl rfl rfl rfl ⟨rfl, rfl, rfl, rfl, rfl⟩ rfl rfl rfl rfl rfl (by kernel_rfl) Try.func6 (by kernel_rfl)
  (of_decide_eq_true (by kernel_rfl)) (by unfold Func.isWrapper; first | (rw [if_pos (by decide +kernel)]; kernel_rfl) | (rw [if_neg (by decide +kernel)]; exact ⟨rfl, rfl⟩))
  (fun os started H enc _ F => lifted os started H enc F)
theorem proved : Rows.FnExactNarrowTypeUptoSaid := over
end Go.Proofs.Ytpimgoacljakgaa.fnExactNarrowType
