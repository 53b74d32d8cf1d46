/-
  THE ABSTRACT WALK AND THE WALKS, part 4 of 5: the parts F22, F23, F52, F53, F54, F24, F25, F26, F27, F28, F29, F55, F56, F57.
-/
import Derived.Test.YtdgknigklgnefaaGreatT3
namespace Go.Proofs.YtdgknigklgnefaaGreat
open Go
set_option linter.unusedSimpArgs false
set_option linter.unusedVariables false
set_option maxRecDepth 100000
set_option maxHeartbeats 4000000
theorem impl_only_fn {p : Pat} {b1 b2 b3 : Bool} {k : Int} : FnD Tryz.prog 302 [.agg [.d (.i p.op), .d (.i p.ctor), .d (.i p.n), .d (.i p.m), .d (.i p.var), .d (encPats p.kids)], .d (.bool b1), .d (.bool b2), .d (.bool b3), .d (.i k)] []
  (.d (.bool (decide ((b1 = true ∨ p.ctor = 0) ∧ (b2 = true ∨ p.n = 0 ∧ p.m = 0) ∧ (b3 = true ∨ p.var = 0) ∧ (p.kids.length : Int) = k)))) [] := by
 refine bd Tryz.f302 45 [] [1] fun w0 F0 own kept hk => ?_
 refine Walk.box (id := 3005) .none rfl rfl rfl rfl rfl rfl rfl ?_
 refine ev ?_
 refine CWp.regionJ ?_
 refine WRest.join 6 [(16, .d (.bool (decide (b1 = true ∨ p.ctor = 0))))] [11, 12, 13, 14, 15] ?_ ?_
 ·
  refine ev ?_
  refine sq (fun h1 h1p h1s => ?_) fun h1 h1p h1s => ?_
  ·try simp only [Q, Pat.cs_len] at h1p
   exact jn rfl (LeA.eqb (by ((rw [Bool.eq_iff_iff]; simp_all [Pat.cs_len]; done))))
  ·try simp only [Q, Pat.cs_len] at h1p
   exact jn rfl (LeA.eqb (by ((rw [Bool.eq_iff_iff]; simp_all [Pat.cs_len]; done))))
 refine WRest.join 13 [(29, .d (.bool (decide ((b1 = true ∨ p.ctor = 0) ∧ (b2 = true ∨ p.n = 0 ∧ p.m = 0)))))] [17, 18, 19, 20, 21, 22, 23, 24, 25, 26, 27, 28] ?_ ?_
 ·
  refine ev ?_
  refine sq (fun h2 h2p h2s => ?_) fun h2 h2p h2s => ?_
  ·try simp only [Q, Pat.cs_len] at h2p
   refine sq (fun h3 h3p h3s => ?_) fun h3 h3p h3s => ?_
   ·try simp only [Q, Pat.cs_len] at h3p
    exact jn rfl (LeA.eqb (by ((rw [Bool.eq_iff_iff]; simp_all [Pat.cs_len]; done))))
   ·try simp only [Q, Pat.cs_len] at h3p
    refine sq (fun h4 h4p h4s => ?_) fun h4 h4p h4s => ?_
    ·try simp only [Q, Pat.cs_len] at h4p
     exact jn rfl (LeA.eqb (by ((rw [Bool.eq_iff_iff]; simp_all [Pat.cs_len]; done))))
    ·try simp only [Q, Pat.cs_len] at h4p
     exact jn rfl (LeA.eqb (by ((rw [Bool.eq_iff_iff]; simp_all [Pat.cs_len]; done))))
  ·try simp only [Q, Pat.cs_len] at h2p
   exact jn rfl (LeA.eqb (by ((rw [Bool.eq_iff_iff]; simp_all [Pat.cs_len]; done))))
 refine WRest.join 8 [(37, .d (.bool (decide ((b1 = true ∨ p.ctor = 0) ∧ (b2 = true ∨ p.n = 0 ∧ p.m = 0) ∧ (b3 = true ∨ p.var = 0)))))] [30, 31, 32, 33, 34, 35, 36] ?_ ?_
 ·
  refine ev ?_
  refine sq (fun h5 h5p h5s => ?_) fun h5 h5p h5s => ?_
  ·try simp only [Q, Pat.cs_len] at h5p
   refine sq (fun h6 h6p h6s => ?_) fun h6 h6p h6s => ?_
   ·try simp only [Q, Pat.cs_len] at h6p
    exact jn rfl (LeA.eqb (by ((rw [Bool.eq_iff_iff]; simp_all [Pat.cs_len]; done))))
   ·try simp only [Q, Pat.cs_len] at h6p
    exact jn rfl (LeA.eqb (by ((rw [Bool.eq_iff_iff]; simp_all [Pat.cs_len]; done))))
  ·try simp only [Q, Pat.cs_len] at h5p
   exact jn rfl (LeA.eqb (by ((rw [Bool.eq_iff_iff]; simp_all [Pat.cs_len]; done))))
 refine WRest.join 7 [(44, .d (.bool (decide ((b1 = true ∨ p.ctor = 0) ∧ (b2 = true ∨ p.n = 0 ∧ p.m = 0) ∧ (b3 = true ∨ p.var = 0) ∧ (p.kids.length : Int) = k))))] [38, 39, 40, 41, 42, 43] ?_ ?_
 ·
  refine ev ?_
  refine sq (fun h7 h7p h7s => ?_) fun h7 h7p h7s => ?_
  ·try simp only [Q, Pat.cs_len] at h7p
   exact jn rfl (LeA.eqb (by ((rw [Bool.eq_iff_iff]; simp_all [Pat.cs_len]; done))))
  ·try simp only [Q, Pat.cs_len] at h7p
   exact jn rfl (LeA.eqb (by ((rw [Bool.eq_iff_iff]; simp_all [Pat.cs_len]; done))))
 refine WRest.done ?_
 refine ev ?_
 refine rn0 (r1 rfl) (.eqd ?_)
 all_goals (rfl)
theorem impl_only_a {p : Pat} {k : Int} : FnD Tryz.prog 302 [.agg [.d (.i p.op), .d (.i p.ctor), .d (.i p.n), .d (.i p.m), .d (.i p.var), .d (encPats p.kids)], .d (.bool false), .d (.bool false), .d (.bool false), .d (.i k)] []
  (.d (.bool (decide (p.ctor = 0 ∧ (p.n = 0 ∧ p.m = 0) ∧ p.var = 0 ∧ (p.kids.length : Int) = k)))) [] := by
 have := impl_only_fn (p := p) (b1 := false) (b2 := false) (b3 := false) (k := k)
 simpa only [Bool.false_eq_true, false_or] using this
theorem impl_only_v {p : Pat} {k : Int} : FnD Tryz.prog 302 [.agg [.d (.i p.op), .d (.i p.ctor), .d (.i p.n), .d (.i p.m), .d (.i p.var), .d (encPats p.kids)], .d (.bool false), .d (.bool false), .d (.bool true), .d (.i k)] []
  (.d (.bool (decide (p.ctor = 0 ∧ (p.n = 0 ∧ p.m = 0) ∧ (p.kids.length : Int) = k)))) [] := by
 have := impl_only_fn (p := p) (b1 := false) (b2 := false) (b3 := true) (k := k)
 simpa only [Bool.false_eq_true, false_or, true_or, true_and] using this
theorem impl_only_n {p : Pat} {k : Int} : FnD Tryz.prog 302 [.agg [.d (.i p.op), .d (.i p.ctor), .d (.i p.n), .d (.i p.m), .d (.i p.var), .d (encPats p.kids)], .d (.bool false), .d (.bool true), .d (.bool false), .d (.i k)] []
  (.d (.bool (decide (p.ctor = 0 ∧ p.var = 0 ∧ (p.kids.length : Int) = k)))) [] := by
 have := impl_only_fn (p := p) (b1 := false) (b2 := true) (b3 := false) (k := k)
 simpa only [Bool.false_eq_true, false_or, true_or, true_and] using this
theorem impl_only_c {p : Pat} {k : Int} : FnD Tryz.prog 302 [.agg [.d (.i p.op), .d (.i p.ctor), .d (.i p.n), .d (.i p.m), .d (.i p.var), .d (encPats p.kids)], .d (.bool true), .d (.bool false), .d (.bool false), .d (.i k)] []
  (.d (.bool (decide ((p.n = 0 ∧ p.m = 0) ∧ p.var = 0 ∧ (p.kids.length : Int) = k)))) [] := by
 have := impl_only_fn (p := p) (b1 := true) (b2 := false) (b3 := false) (k := k)
 simpa only [Bool.false_eq_true, false_or, true_or, true_and] using this
theorem impl_isVar_fn {v : Int} : FnD Tryz.prog 140 [.d (.i v)] [] (.d (.bool (within v 0 5))) [] := by
 refine bd Tryz.f140 5 [] [] fun w0 F0 own kept hk => ?_
 refine Walk.call (cr := []) cal87 (impl_within_fn) rfl .none rfl rfl (LeL.refl _) trivial rfl rfl rfl ?_
 refine ev ?_
 refine rn0 (r1 rfl) (.eqd ?_)
 all_goals (rfl)
theorem impl_ctorsOf_v {w : List Data} (hw : WT w) {a k : Int} (ht : TyIn w.length ⟨a, k⟩) : FnD Tryz.prog 170 [.d (encDatas w), .agg [.d (.i a), .d (.i k)]] [] (.d (encInts (vctors w ⟨a, k⟩))) [] := by
 rcases ht with ha | ⟨d, hd, hlt⟩
 ·simp only at ha; subst ha; rw [vctors_int]; exact impl_ctorsOf_int_fn
 ·simp only at hd; subst hd; rw [vctors_in]; exact impl_ctorsOf_in hw hlt
theorem impl_argTypes_v {w : List Data} (hw : WT w) {a k c : Int} (ht : TyIn w.length ⟨a, k⟩) (hc : c ∈ vctors w ⟨a, k⟩) : FnD Tryz.prog 171 [.d (encDatas w), .agg [.d (.i a), .d (.i k)], .d (.i c)] [] (.d (encTys (argsOf w ⟨a, k⟩ c))) [] := by
 obtain ⟨d, rfl, h1, h2⟩ := vctors_data ht hc
 exact impl_argTypes_in hw h1 h2
theorem impl_shape_fn {w : List Data} (hw : WT w) {a k : Int} {p : Pat} (ht : TyIn w.length ⟨a, k⟩) :
  FnD Tryz.prog 273 [.d (encDatas w), .agg [.d (.i a), .d (.i k)], .agg [.d (.i p.op), .d (.i p.ctor), .d (.i p.n), .d (.i p.m), .d (.i p.var), .d (encPats p.kids)]] [] (.tup [.d (encTys (shapeT w ⟨a, k⟩ p)), .d (.bool (okP w ⟨a, k⟩ p))]) [] := by
 have hcl := vctors_len hw ht
 have ty4 : p.op = 4 → p.ctor ∉ vctors w ⟨a, k⟩ → shapeT w ⟨a, k⟩ p = [] := fun h4 hm => by unfold shapeT; rw [if_pos ⟨h4, hm⟩]
 have ty4' : p.op = 4 → p.ctor ∈ vctors w ⟨a, k⟩ → shapeT w ⟨a, k⟩ p = argsOf w ⟨a, k⟩ p.ctor := fun h4 hm => by unfold shapeT typesP; rw [if_neg (fun h => h.2 hm), if_pos h4]
 have ty5 : p.op = 5 → shapeT w ⟨a, k⟩ p = [⟨a, k⟩, ⟨a, k⟩] := fun h5 => by unfold shapeT typesP; rw [if_neg (by omega), if_neg (by omega), if_pos h5]
 have ty6 : p.op = 6 → shapeT w ⟨a, k⟩ p = [⟨a, k⟩] := fun h6 => by unfold shapeT typesP; rw [if_neg (by omega), if_neg (by omega), if_neg (by omega), if_pos h6]
 have ty0 : ¬ p.op = 4 → ¬ p.op = 5 → ¬ p.op = 6 → shapeT w ⟨a, k⟩ p = [] := fun h4 h5 h6 => by unfold shapeT typesP; rw [if_neg (fun h => h4 h.1), if_neg h4, if_neg h5, if_neg h6]
 have ln4 : p.op = 4 → (typesP w ⟨a, k⟩ p).length = (argsOf w ⟨a, k⟩ p.ctor).length := fun h4 => by unfold typesP; rw [if_pos h4]
 have ln5 : p.op = 5 → (typesP w ⟨a, k⟩ p).length = 2 := fun h5 => by unfold typesP; rw [if_neg (by omega), if_pos h5]; rfl
 have ln6 : p.op = 6 → (typesP w ⟨a, k⟩ p).length = 1 := fun h6 => by unfold typesP; rw [if_neg (by omega), if_neg (by omega), if_pos h6]; rfl
 have ln0 : ¬ p.op = 4 → ¬ p.op = 5 → ¬ p.op = 6 → (typesP w ⟨a, k⟩ p).length = 0 := fun h4 h5 h6 => by unfold typesP; rw [if_neg h4, if_neg h5, if_neg h6]; rfl
 have okI : ∀ b : Bool, (b = true ↔ ((((p.op = 2 ∨ p.op = 6) → 0 ≤ p.var ∧ p.var ≤ 5) ∧ (¬ (p.op = 2 ∨ p.op = 6) → p.var = 0) ∧ (p.op ≠ 3 → p.n = 0 ∧ p.m = 0) ∧ (p.op ≠ 4 → p.ctor = 0) ∧
   (p.op = 1 ∨ p.op = 2 ∨ p.op = 5 ∨ p.op = 6 ∨ (p.op = 3 ∧ a = -1 ∧ 0 ≤ p.n ∧ p.n ≤ p.m ∧ p.m ≤ 9) ∨ (p.op = 4 ∧ p.ctor ∈ vctors w ⟨a, k⟩))) ∧ p.kids.length = (typesP w ⟨a, k⟩ p).length)) → b = okP w ⟨a, k⟩ p := fun b h => by
  rw [Bool.eq_iff_iff, h]; unfold okP ownP; simp only [Bool.and_eq_true, decide_eq_true_eq]
 by_cases hmem : p.ctor ∈ vctors w ⟨a, k⟩
 ·have hargs := impl_argTypes_v hw ht hmem
  have hal : (argsOf w ⟨a, k⟩ p.ctor).length ≤ 1000000000000 := by
   obtain ⟨d, rfl, h1, h2⟩ := vctors_data ht hmem
   exact argsOf_len hw h1 h2
  simp only [hmem, and_true] at okI
  refine bd Tryz.f273 87 [] [5] fun w0 F0 own kept hk => ?_
  refine Walk.box (id := 3004) .none rfl rfl rfl rfl rfl rfl rfl ?_
  refine Walk.box (id := 3005) .none rfl rfl rfl rfl rfl rfl rfl ?_
  refine ev ?_
  refine sq (fun h1 h1p h1s => ?_) fun h1 h1p h1s => ?_
  ·try simp only [Q] at h1p
   refine Walk.call (cr := []) cal302 (impl_only_a) rfl .none rfl rfl (LeL.refl _) trivial rfl rfl rfl ?_
   refine ev ?_
   refine rn0 (r2 rfl rfl) (.tup (.cons (.nild ?_) (.cons (.eqd ?_) .nil)))
   all_goals (first | (refine congrArg D.bool (okI _ ?_); (try simp only [decide_eq_true_eq, Bool.false_eq_true, within, Bool.and_eq_true, List.length_map, true_iff, false_iff]); omega) | (rw [ty0 (by omega) (by omega) (by omega)]; first | done | rfl) | (rw [ty5 (by omega)]; first | done | rfl) | (rw [ty6 (by omega)]; first | done | rfl) | (rw [ty4' (by omega) hmem]; first | done | rfl))
  ·try simp only [Q] at h1p
   refine sq (fun h2 h2p h2s => ?_) fun h2 h2p h2s => ?_
   ·try simp only [Q] at h2p
    refine CWp.regionJ ?_
    refine WRest.join 7 [(23, .d (.bool (decide ((p.ctor = 0 ∧ (p.n = 0 ∧ p.m = 0) ∧ (p.kids.length : Int) = 0) ∧ 0 ≤ p.var ∧ p.var ≤ 5))))] [17, 18, 19, 20, 21, 22] ?_ ?_
    ·
     refine ev ?_
     refine Walk.call (cr := []) cal302 (impl_only_v) rfl .none rfl rfl (LeL.refl _) trivial rfl rfl rfl ?_
     refine ev ?_
     refine sq (fun h3 h3p h3s => ?_) fun h3 h3p h3s => ?_
     ·try simp only [Q] at h3p
      refine Walk.call (cr := []) cal140 (impl_isVar_fn) rfl (.some rfl rfl h3) rfl rfl (LeL.refl _) trivial rfl rfl rfl ?_
      refine evs [] [(19, true)] ?_ ⟨⟨_, rfl, h3⟩, trivial⟩
      exact jn rfl (LeA.eqb (by (rw [Bool.eq_iff_iff]; simp only [decide_eq_true_eq, within, Bool.and_eq_true, Bool.false_eq_true, false_iff, true_iff]; omega)))
     ·try simp only [Q] at h3p
      exact jn rfl (LeA.eqb (by (rw [Bool.eq_iff_iff]; simp only [decide_eq_true_eq, within, Bool.and_eq_true, Bool.false_eq_true, false_iff, true_iff]; omega)))
    refine WRest.done ?_
    refine ev ?_
    refine rn0 (r2 rfl rfl) (.tup (.cons (.nild ?_) (.cons (.eqd ?_) .nil)))
    all_goals (first | (refine congrArg D.bool (okI _ ?_); (try simp only [decide_eq_true_eq, Bool.false_eq_true, within, Bool.and_eq_true, List.length_map, true_iff, false_iff]); omega) | (rw [ty0 (by omega) (by omega) (by omega)]; first | done | rfl) | (rw [ty5 (by omega)]; first | done | rfl) | (rw [ty6 (by omega)]; first | done | rfl) | (rw [ty4' (by omega) hmem]; first | done | rfl))
   ·try simp only [Q] at h2p
    refine sq (fun h4 h4p h4s => ?_) fun h4 h4p h4s => ?_
    ·try simp only [Q] at h4p
     refine sq (fun h5 h5p h5s => ?_) fun h5 h5p h5s => ?_
     ·try simp only [Q] at h5p
      refine Walk.call (cr := []) cal302 (impl_only_n) rfl (.some rfl rfl h5) rfl rfl (LeL.refl _) trivial rfl rfl rfl ?_
      refine evd [] [(29, true)] ?_ ⟨⟨_, rfl, h5⟩, trivial⟩
      refine sq (fun h6 h6p h6s => ?_) fun h6 h6p h6s => ?_
      ·try simp only [Q] at h6p
       refine sq (fun h7 h7p h7s => ?_) fun h7 h7p h7s => ?_
       ·try simp only [Q] at h7p
        refine sq (fun h8 h8p h8s => ?_) fun h8 h8p h8s => ?_
        ·try simp only [Q] at h8p
         refine dr ?_
         refine rn0 (r2 rfl rfl) (.tup (.cons (.nild ?_) (.cons (.eqd ?_) .nil)))
         all_goals (first | (refine congrArg D.bool (okI _ ?_); (try simp only [decide_eq_true_eq, Bool.false_eq_true, within, Bool.and_eq_true, List.length_map, true_iff, false_iff]); omega) | (rw [ty0 (by omega) (by omega) (by omega)]; first | done | rfl) | (rw [ty5 (by omega)]; first | done | rfl) | (rw [ty6 (by omega)]; first | done | rfl) | (rw [ty4' (by omega) hmem]; first | done | rfl))
        ·try simp only [Q] at h8p
         refine dr ?_
         refine rn0 (r2 rfl rfl) (.tup (.cons (.nild ?_) (.cons (.eqd ?_) .nil)))
         all_goals (first | (refine congrArg D.bool (okI _ ?_); (try simp only [decide_eq_true_eq, Bool.false_eq_true, within, Bool.and_eq_true, List.length_map, true_iff, false_iff]); omega) | (rw [ty0 (by omega) (by omega) (by omega)]; first | done | rfl) | (rw [ty5 (by omega)]; first | done | rfl) | (rw [ty6 (by omega)]; first | done | rfl) | (rw [ty4' (by omega) hmem]; first | done | rfl))
       ·try simp only [Q] at h7p
        refine sqF ?_
        refine dr ?_
        refine rn0 (r2 rfl rfl) (.tup (.cons (.nild ?_) (.cons (.eqd ?_) .nil)))
        all_goals (first | (refine congrArg D.bool (okI _ ?_); (try simp only [decide_eq_true_eq, Bool.false_eq_true, within, Bool.and_eq_true, List.length_map, true_iff, false_iff]); omega) | (rw [ty0 (by omega) (by omega) (by omega)]; first | done | rfl) | (rw [ty5 (by omega)]; first | done | rfl) | (rw [ty6 (by omega)]; first | done | rfl) | (rw [ty4' (by omega) hmem]; first | done | rfl))
      ·try simp only [Q] at h6p
       refine sqF ?_
       refine sqF ?_
       refine dr ?_
       refine rn0 (r2 rfl rfl) (.tup (.cons (.nild ?_) (.cons (.eqd ?_) .nil)))
       all_goals (first | (refine congrArg D.bool (okI _ ?_); (try simp only [decide_eq_true_eq, Bool.false_eq_true, within, Bool.and_eq_true, List.length_map, true_iff, false_iff]); omega) | (rw [ty0 (by omega) (by omega) (by omega)]; first | done | rfl) | (rw [ty5 (by omega)]; first | done | rfl) | (rw [ty6 (by omega)]; first | done | rfl) | (rw [ty4' (by omega) hmem]; first | done | rfl))
     ·try simp only [Q] at h5p
      refine sqF ?_
      refine sqF ?_
      refine sqF ?_
      refine dr ?_
      refine rn0 (r2 rfl rfl) (.tup (.cons (.nild ?_) (.cons (.eqd ?_) .nil)))
      all_goals (first | (refine congrArg D.bool (okI _ ?_); (try simp only [decide_eq_true_eq, Bool.false_eq_true, within, Bool.and_eq_true, List.length_map, true_iff, false_iff]); omega) | (rw [ty0 (by omega) (by omega) (by omega)]; first | done | rfl) | (rw [ty5 (by omega)]; first | done | rfl) | (rw [ty6 (by omega)]; first | done | rfl) | (rw [ty4' (by omega) hmem]; first | done | rfl))
    ·try simp only [Q] at h4p
     refine sq (fun h9 h9p h9s => ?_) fun h9 h9p h9s => ?_
     ·try simp only [Q] at h9p
      refine Walk.call (cr := []) cal170 (impl_ctorsOf_v hw ht) rfl .none rfl rfl (LeL.refl _) trivial rfl rfl rfl ?_
      refine evd [] [] ?_
      refine Walk.call (cr := []) cal169 (slices_Contains_int_fn hcl) rfl .none rfl rfl (LeL.refl _) trivial rfl rfl rfl ?_
      refine evd [] [] ?_
      refine dr ?_
      refine sq (fun h10 h10p h10s => ?_) fun h10 h10p h10s => ?_
      ·try simp only [Q] at h10p
       exfalso; simp_all --stop
      ·try simp only [Q] at h10p
       refine Walk.call (cr := []) cal171 (hargs) rfl .none rfl rfl (LeL.refl _) trivial rfl rfl rfl ?_
       refine ev ?_
       refine Walk.call (cr := []) cal302 (impl_only_c) rfl .none rfl rfl (LeL.refl _) trivial rfl rfl rfl ?_
       refine ev ?_
       refine rn0 (r2 rfl rfl) (.tup (.cons (.eqd ?_) (.cons (.eqd ?_) .nil)))
       all_goals (first | (refine congrArg D.bool (okI _ ?_); (try simp only [decide_eq_true_eq, Bool.false_eq_true, within, Bool.and_eq_true, List.length_map, true_iff, false_iff]); omega) | (rw [ty0 (by omega) (by omega) (by omega)]; first | done | rfl) | (rw [ty5 (by omega)]; first | done | rfl) | (rw [ty6 (by omega)]; first | done | rfl) | (rw [ty4' (by omega) hmem]; first | done | rfl))
     ·try simp only [Q] at h9p
      refine sq (fun h11 h11p h11s => ?_) fun h11 h11p h11s => ?_
      ·try simp only [Q] at h11p
       refine Walk.sliceLit sl182 tz42 rfl (by decide) (ks := [0, 1]) (xs := [_, _]) rfl rfl (by decide) (by decide) .none rfl rfl rfl rfl ?_
       refine evd [] [] ?_
       refine Walk.call (cr := []) cal302 (impl_only_a) rfl .none rfl rfl (LeL.refl _) trivial rfl rfl rfl ?_
       refine evd [] [] ?_
       refine dr ?_
       refine rn0 (r2 rfl rfl) (.tup (.cons (.eqd ?_) (.cons (.eqd ?_) .nil)))
       all_goals (first | (refine congrArg D.bool (okI _ ?_); (try simp only [decide_eq_true_eq, Bool.false_eq_true, within, Bool.and_eq_true, List.length_map, true_iff, false_iff]); omega) | (rw [ty0 (by omega) (by omega) (by omega)]; first | done | rfl) | (rw [ty5 (by omega)]; first | done | rfl) | (rw [ty6 (by omega)]; first | done | rfl) | (rw [ty4' (by omega) hmem]; first | done | rfl))
      ·try simp only [Q] at h11p
       refine sq (fun h12 h12p h12s => ?_) fun h12 h12p h12s => ?_
       ·try simp only [Q] at h12p
        refine Walk.sliceLit sl182 tz42 rfl (by decide) (ks := [0]) (xs := [_]) rfl rfl (by decide) (by decide) .none rfl rfl rfl rfl ?_
        refine evd [] [] ?_
        refine Walk.call (cr := []) cal302 (impl_only_v) rfl .none rfl rfl (LeL.refl _) trivial rfl rfl rfl ?_
        refine evd [] [] ?_
        refine sq (fun h13 h13p h13s => ?_) fun h13 h13p h13s => ?_
        ·try simp only [Q] at h13p
         refine Walk.call (cr := []) cal140 (impl_isVar_fn) rfl (.some rfl rfl h13) rfl rfl (LeL.refl _) trivial rfl rfl rfl ?_
         refine evd [] [(82, true)] ?_ ⟨⟨_, rfl, h13⟩, trivial⟩
         refine dr ?_
         refine rn0 (r2 rfl rfl) (.tup (.cons (.eqd ?_) (.cons (.eqd ?_) .nil)))
         all_goals (first | (refine congrArg D.bool (okI _ ?_); (try simp only [decide_eq_true_eq, Bool.false_eq_true, within, Bool.and_eq_true, List.length_map, true_iff, false_iff]); omega) | (rw [ty0 (by omega) (by omega) (by omega)]; first | done | rfl) | (rw [ty5 (by omega)]; first | done | rfl) | (rw [ty6 (by omega)]; first | done | rfl) | (rw [ty4' (by omega) hmem]; first | done | rfl))
        ·try simp only [Q] at h13p
         refine dr ?_
         refine rn0 (r2 rfl rfl) (.tup (.cons (.eqd ?_) (.cons (.eqd ?_) .nil)))
         all_goals (first | (refine congrArg D.bool (okI _ ?_); (try simp only [decide_eq_true_eq, Bool.false_eq_true, within, Bool.and_eq_true, List.length_map, true_iff, false_iff]); omega) | (rw [ty0 (by omega) (by omega) (by omega)]; first | done | rfl) | (rw [ty5 (by omega)]; first | done | rfl) | (rw [ty6 (by omega)]; first | done | rfl) | (rw [ty4' (by omega) hmem]; first | done | rfl))
       ·try simp only [Q] at h12p
        refine rn0 (r2 rfl rfl) (.tup (.cons (.nild ?_) (.cons (.eqd ?_) .nil)))
        all_goals (first | (refine congrArg D.bool (okI _ ?_); (try simp only [decide_eq_true_eq, Bool.false_eq_true, within, Bool.and_eq_true, List.length_map, true_iff, false_iff]); omega) | (rw [ty0 (by omega) (by omega) (by omega)]; first | done | rfl) | (rw [ty5 (by omega)]; first | done | rfl) | (rw [ty6 (by omega)]; first | done | rfl) | (rw [ty4' (by omega) hmem]; first | done | rfl))
 ·simp only [hmem, and_false, or_false] at okI
  refine bd Tryz.f273 87 [] [5] fun w0 F0 own kept hk => ?_
  refine Walk.box (id := 3004) .none rfl rfl rfl rfl rfl rfl rfl ?_
  refine Walk.box (id := 3005) .none rfl rfl rfl rfl rfl rfl rfl ?_
  refine ev ?_
  refine sq (fun h1 h1p h1s => ?_) fun h1 h1p h1s => ?_
  ·try simp only [Q] at h1p
   refine Walk.call (cr := []) cal302 (impl_only_a) rfl .none rfl rfl (LeL.refl _) trivial rfl rfl rfl ?_
   refine ev ?_
   refine rn0 (r2 rfl rfl) (.tup (.cons (.nild ?_) (.cons (.eqd ?_) .nil)))
   all_goals (first | (refine congrArg D.bool (okI _ ?_); (try simp only [decide_eq_true_eq, Bool.false_eq_true, within, Bool.and_eq_true, List.length_map, true_iff, false_iff]); omega) | (rw [ty0 (by omega) (by omega) (by omega)]; first | done | rfl) | (rw [ty5 (by omega)]; first | done | rfl) | (rw [ty6 (by omega)]; first | done | rfl) | (rw [ty4 (by omega) hmem]; first | done | rfl))
  ·try simp only [Q] at h1p
   refine sq (fun h2 h2p h2s => ?_) fun h2 h2p h2s => ?_
   ·try simp only [Q] at h2p
    refine CWp.regionJ ?_
    refine WRest.join 7 [(23, .d (.bool (decide ((p.ctor = 0 ∧ (p.n = 0 ∧ p.m = 0) ∧ (p.kids.length : Int) = 0) ∧ 0 ≤ p.var ∧ p.var ≤ 5))))] [17, 18, 19, 20, 21, 22] ?_ ?_
    ·
     refine ev ?_
     refine Walk.call (cr := []) cal302 (impl_only_v) rfl .none rfl rfl (LeL.refl _) trivial rfl rfl rfl ?_
     refine ev ?_
     refine sq (fun h3 h3p h3s => ?_) fun h3 h3p h3s => ?_
     ·try simp only [Q] at h3p
      refine Walk.call (cr := []) cal140 (impl_isVar_fn) rfl (.some rfl rfl h3) rfl rfl (LeL.refl _) trivial rfl rfl rfl ?_
      refine evs [] [(19, true)] ?_ ⟨⟨_, rfl, h3⟩, trivial⟩
      exact jn rfl (LeA.eqb (by (rw [Bool.eq_iff_iff]; simp only [decide_eq_true_eq, within, Bool.and_eq_true, Bool.false_eq_true, false_iff, true_iff]; omega)))
     ·try simp only [Q] at h3p
      exact jn rfl (LeA.eqb (by (rw [Bool.eq_iff_iff]; simp only [decide_eq_true_eq, within, Bool.and_eq_true, Bool.false_eq_true, false_iff, true_iff]; omega)))
    refine WRest.done ?_
    refine ev ?_
    refine rn0 (r2 rfl rfl) (.tup (.cons (.nild ?_) (.cons (.eqd ?_) .nil)))
    all_goals (first | (refine congrArg D.bool (okI _ ?_); (try simp only [decide_eq_true_eq, Bool.false_eq_true, within, Bool.and_eq_true, List.length_map, true_iff, false_iff]); omega) | (rw [ty0 (by omega) (by omega) (by omega)]; first | done | rfl) | (rw [ty5 (by omega)]; first | done | rfl) | (rw [ty6 (by omega)]; first | done | rfl) | (rw [ty4 (by omega) hmem]; first | done | rfl))
   ·try simp only [Q] at h2p
    refine sq (fun h4 h4p h4s => ?_) fun h4 h4p h4s => ?_
    ·try simp only [Q] at h4p
     refine sq (fun h5 h5p h5s => ?_) fun h5 h5p h5s => ?_
     ·try simp only [Q] at h5p
      refine Walk.call (cr := []) cal302 (impl_only_n) rfl (.some rfl rfl h5) rfl rfl (LeL.refl _) trivial rfl rfl rfl ?_
      refine evd [] [(29, true)] ?_ ⟨⟨_, rfl, h5⟩, trivial⟩
      refine sq (fun h6 h6p h6s => ?_) fun h6 h6p h6s => ?_
      ·try simp only [Q] at h6p
       refine sq (fun h7 h7p h7s => ?_) fun h7 h7p h7s => ?_
       ·try simp only [Q] at h7p
        refine sq (fun h8 h8p h8s => ?_) fun h8 h8p h8s => ?_
        ·try simp only [Q] at h8p
         refine dr ?_
         refine rn0 (r2 rfl rfl) (.tup (.cons (.nild ?_) (.cons (.eqd ?_) .nil)))
         all_goals (first | (refine congrArg D.bool (okI _ ?_); (try simp only [decide_eq_true_eq, Bool.false_eq_true, within, Bool.and_eq_true, List.length_map, true_iff, false_iff]); omega) | (rw [ty0 (by omega) (by omega) (by omega)]; first | done | rfl) | (rw [ty5 (by omega)]; first | done | rfl) | (rw [ty6 (by omega)]; first | done | rfl) | (rw [ty4 (by omega) hmem]; first | done | rfl))
        ·try simp only [Q] at h8p
         refine dr ?_
         refine rn0 (r2 rfl rfl) (.tup (.cons (.nild ?_) (.cons (.eqd ?_) .nil)))
         all_goals (first | (refine congrArg D.bool (okI _ ?_); (try simp only [decide_eq_true_eq, Bool.false_eq_true, within, Bool.and_eq_true, List.length_map, true_iff, false_iff]); omega) | (rw [ty0 (by omega) (by omega) (by omega)]; first | done | rfl) | (rw [ty5 (by omega)]; first | done | rfl) | (rw [ty6 (by omega)]; first | done | rfl) | (rw [ty4 (by omega) hmem]; first | done | rfl))
       ·try simp only [Q] at h7p
        refine sqF ?_
        refine dr ?_
        refine rn0 (r2 rfl rfl) (.tup (.cons (.nild ?_) (.cons (.eqd ?_) .nil)))
        all_goals (first | (refine congrArg D.bool (okI _ ?_); (try simp only [decide_eq_true_eq, Bool.false_eq_true, within, Bool.and_eq_true, List.length_map, true_iff, false_iff]); omega) | (rw [ty0 (by omega) (by omega) (by omega)]; first | done | rfl) | (rw [ty5 (by omega)]; first | done | rfl) | (rw [ty6 (by omega)]; first | done | rfl) | (rw [ty4 (by omega) hmem]; first | done | rfl))
      ·try simp only [Q] at h6p
       refine sqF ?_
       refine sqF ?_
       refine dr ?_
       refine rn0 (r2 rfl rfl) (.tup (.cons (.nild ?_) (.cons (.eqd ?_) .nil)))
       all_goals (first | (refine congrArg D.bool (okI _ ?_); (try simp only [decide_eq_true_eq, Bool.false_eq_true, within, Bool.and_eq_true, List.length_map, true_iff, false_iff]); omega) | (rw [ty0 (by omega) (by omega) (by omega)]; first | done | rfl) | (rw [ty5 (by omega)]; first | done | rfl) | (rw [ty6 (by omega)]; first | done | rfl) | (rw [ty4 (by omega) hmem]; first | done | rfl))
     ·try simp only [Q] at h5p
      refine sqF ?_
      refine sqF ?_
      refine sqF ?_
      refine dr ?_
      refine rn0 (r2 rfl rfl) (.tup (.cons (.nild ?_) (.cons (.eqd ?_) .nil)))
      all_goals (first | (refine congrArg D.bool (okI _ ?_); (try simp only [decide_eq_true_eq, Bool.false_eq_true, within, Bool.and_eq_true, List.length_map, true_iff, false_iff]); omega) | (rw [ty0 (by omega) (by omega) (by omega)]; first | done | rfl) | (rw [ty5 (by omega)]; first | done | rfl) | (rw [ty6 (by omega)]; first | done | rfl) | (rw [ty4 (by omega) hmem]; first | done | rfl))
    ·try simp only [Q] at h4p
     refine sq (fun h9 h9p h9s => ?_) fun h9 h9p h9s => ?_
     ·try simp only [Q] at h9p
      refine Walk.call (cr := []) cal170 (impl_ctorsOf_v hw ht) rfl .none rfl rfl (LeL.refl _) trivial rfl rfl rfl ?_
      refine evd [] [] ?_
      refine Walk.call (cr := []) cal169 (slices_Contains_int_fn hcl) rfl .none rfl rfl (LeL.refl _) trivial rfl rfl rfl ?_
      refine evd [] [] ?_
      refine dr ?_
      refine sq (fun h10 h10p h10s => ?_) fun h10 h10p h10s => ?_
      ·try simp only [Q] at h10p
       refine rn0 (r2 rfl rfl) (.tup (.cons (.nild ?_) (.cons (.eqd ?_) .nil)))
       all_goals (first | (refine congrArg D.bool (okI _ ?_); (try simp only [decide_eq_true_eq, Bool.false_eq_true, within, Bool.and_eq_true, List.length_map, true_iff, false_iff]); omega) | (rw [ty0 (by omega) (by omega) (by omega)]; first | done | rfl) | (rw [ty5 (by omega)]; first | done | rfl) | (rw [ty6 (by omega)]; first | done | rfl) | (rw [ty4 (by omega) hmem]; first | done | rfl))
      ·try simp only [Q] at h10p
       exfalso; simp_all --stop
     ·try simp only [Q] at h9p
      refine sq (fun h11 h11p h11s => ?_) fun h11 h11p h11s => ?_
      ·try simp only [Q] at h11p
       refine Walk.sliceLit sl182 tz42 rfl (by decide) (ks := [0, 1]) (xs := [_, _]) rfl rfl (by decide) (by decide) .none rfl rfl rfl rfl ?_
       refine evd [] [] ?_
       refine Walk.call (cr := []) cal302 (impl_only_a) rfl .none rfl rfl (LeL.refl _) trivial rfl rfl rfl ?_
       refine evd [] [] ?_
       refine dr ?_
       refine rn0 (r2 rfl rfl) (.tup (.cons (.eqd ?_) (.cons (.eqd ?_) .nil)))
       all_goals (first | (refine congrArg D.bool (okI _ ?_); (try simp only [decide_eq_true_eq, Bool.false_eq_true, within, Bool.and_eq_true, List.length_map, true_iff, false_iff]); omega) | (rw [ty0 (by omega) (by omega) (by omega)]; first | done | rfl) | (rw [ty5 (by omega)]; first | done | rfl) | (rw [ty6 (by omega)]; first | done | rfl) | (rw [ty4 (by omega) hmem]; first | done | rfl))
      ·try simp only [Q] at h11p
       refine sq (fun h12 h12p h12s => ?_) fun h12 h12p h12s => ?_
       ·try simp only [Q] at h12p
        refine Walk.sliceLit sl182 tz42 rfl (by decide) (ks := [0]) (xs := [_]) rfl rfl (by decide) (by decide) .none rfl rfl rfl rfl ?_
        refine evd [] [] ?_
        refine Walk.call (cr := []) cal302 (impl_only_v) rfl .none rfl rfl (LeL.refl _) trivial rfl rfl rfl ?_
        refine evd [] [] ?_
        refine sq (fun h13 h13p h13s => ?_) fun h13 h13p h13s => ?_
        ·try simp only [Q] at h13p
         refine Walk.call (cr := []) cal140 (impl_isVar_fn) rfl (.some rfl rfl h13) rfl rfl (LeL.refl _) trivial rfl rfl rfl ?_
         refine evd [] [(82, true)] ?_ ⟨⟨_, rfl, h13⟩, trivial⟩
         refine dr ?_
         refine rn0 (r2 rfl rfl) (.tup (.cons (.eqd ?_) (.cons (.eqd ?_) .nil)))
         all_goals (first | (refine congrArg D.bool (okI _ ?_); (try simp only [decide_eq_true_eq, Bool.false_eq_true, within, Bool.and_eq_true, List.length_map, true_iff, false_iff]); omega) | (rw [ty0 (by omega) (by omega) (by omega)]; first | done | rfl) | (rw [ty5 (by omega)]; first | done | rfl) | (rw [ty6 (by omega)]; first | done | rfl) | (rw [ty4 (by omega) hmem]; first | done | rfl))
        ·try simp only [Q] at h13p
         refine dr ?_
         refine rn0 (r2 rfl rfl) (.tup (.cons (.eqd ?_) (.cons (.eqd ?_) .nil)))
         all_goals (first | (refine congrArg D.bool (okI _ ?_); (try simp only [decide_eq_true_eq, Bool.false_eq_true, within, Bool.and_eq_true, List.length_map, true_iff, false_iff]); omega) | (rw [ty0 (by omega) (by omega) (by omega)]; first | done | rfl) | (rw [ty5 (by omega)]; first | done | rfl) | (rw [ty6 (by omega)]; first | done | rfl) | (rw [ty4 (by omega) hmem]; first | done | rfl))
       ·try simp only [Q] at h12p
        refine rn0 (r2 rfl rfl) (.tup (.cons (.nild ?_) (.cons (.eqd ?_) .nil)))
        all_goals (first | (refine congrArg D.bool (okI _ ?_); (try simp only [decide_eq_true_eq, Bool.false_eq_true, within, Bool.and_eq_true, List.length_map, true_iff, false_iff]); omega) | (rw [ty0 (by omega) (by omega) (by omega)]; first | done | rfl) | (rw [ty5 (by omega)]; first | done | rfl) | (rw [ty6 (by omega)]; first | done | rfl) | (rw [ty4 (by omega) hmem]; first | done | rfl))
theorem vt_iff {t u : Vt} : t = u ↔ t.var = u.var ∧ t.ty.data = u.ty.data ∧ t.ty.index = u.ty.index := by
 rcases t with ⟨a, b, c⟩; rcases u with ⟨d, e, f⟩; simp
def idxVt (l : List Vt) (v : Vt) : Int := idxF (fun x => decide (v = x)) l 0
theorem slices_Index_Vt_fn {l : List Vt} {v : Vt} (h : l.length ≤ 1000000000000) : FnD Tryz.prog 301 [.d (encVts l), .agg [.d (.i v.var), .d (.i v.ty.data), .d (.i v.ty.index)]] [] (.d (.i (idxVt l v))) [] := by
 refine bd Tryz.f301 19 [16] [] fun w0 F0 own kept hk => ?_
 refine Walk.box (id := 3003) .none rfl rfl rfl rfl rfl rfl rfl ?_
 refine evs [16] [] ?_
 refine CWp.loopX (ι := List (Vt) × List (Vt)) hk (fun x => [(8, .d (.i (x.1.length : Int)))]) [4, 5, 9, 10, 11, 12, 13, 14, 15, 16, 17, 18] (fun x => []) (fun x => x.1 ++ x.2 = l ∧ idxF (fun x => decide (v = x)) x.2 x.1.length = idxF (fun x => decide (v = x)) l 0) (fun x => x.2.length) ([], l) ⟨by simp, rfl⟩ ⟨⟨_, rfl, (LeA.eqi (by first | rfl | (simp; done) | (simp_all; done) | omega))⟩, trivial⟩ trivial (fun x => rfl) (fun x hg1 => ?_)
 obtain ⟨pre, rest⟩ := x
 dsimp only at hg1 ⊢
 refine evc [16] [] ?_
 refine sq (fun h1 h1p h1s => ?_) fun h1 h1p h1s => ?_
 ·try simp only [Q] at h1p
  rcases rest with _ | ⟨y, rest⟩
  ·exfalso; simp_all
  refine Walk.idx sl124 .none rfl rfl rfl rfl (zip_at hg1.1) rfl ?_
  refine evd [16] [] ?_
  refine Walk.eqV2 eq197 .none rfl rfl rfl rfl rfl ?_
  refine dr ?_
  refine sq (fun h2 h2p h2s => ?_) fun h2 h2p h2s => ?_
  ·try simp only [Q] at h2p
   refine rn0 (r1 rfl) (.eqd ?_)
   all_goals (unfold idxVt; rw [← hg1.2]; simp_all [idxF, vt_iff])
  ·try simp only [Q] at h2p
   refine ar ?_
   refine Exists.intro ((pre ++ [y], rest)) ⟨⟨(by have hz := hg1.1; rw [← hz]; simp), (by rw [← hg1.2]; simp [idxF]; simp_all [vt_iff])⟩, (by simp), Sub.x (by kernel_rfl) (by kernel_rfl) ⟨⟨_, rfl, (LeA.eqi (by first | rfl | (simp; done) | (simp_all; done) | omega))⟩, trivial⟩ (by kernel_rfl) (by kernel_rfl) trivial⟩
 ·try simp only [Q] at h1p
  have hrest : rest = [] := by
   rcases rest with _ | ⟨a, b⟩
   ·rfl
   ·exfalso; have hz := congrArg List.length (hg1.1); simp only [List.length_append, List.length_cons, List.length_map] at hz; omega
  subst hrest
  refine rn0 (r1 rfl) (.eqd ?_)
  all_goals (unfold idxVt; rw [← hg1.2]; simp_all [idxF, vt_iff])
theorem slices_Contains_Vt_fn {l : List Vt} {v : Vt} (h : l.length ≤ 1000000000000) : FnD Tryz.prog 272 [.d (encVts l), .agg [.d (.i v.var), .d (.i v.ty.data), .d (.i v.ty.index)]] [] (.d (.bool (decide (v ∈ l)))) [] := by
 refine bd Tryz.f272 9 [] [] fun w0 F0 own kept hk => ?_
 refine Walk.box (id := 3003) .none rfl rfl rfl rfl rfl rfl rfl ?_
 refine ev ?_
 refine Walk.call (cr := []) cal301 (slices_Index_Vt_fn h) rfl .none rfl rfl (LeL.refl _) trivial rfl rfl rfl ?_
 refine ev ?_
 refine rn0 (r1 rfl) (.eqd ?_)
 all_goals (refine congrArg D.bool ?_; rw [show idxVt l v = idxF (fun x => decide (v = x)) l 0 from rfl, idxF_any]; simp [List.any_eq, eq_comm])
theorem slices_IndexFunc_Vt_fn {xs : List Vt} {f : Nat} {caps : List AV} {hp : Hp} {p : Vt → Bool} (hs : xs.length ≤ 1000000000000) (hcal : Callee Tryz.prog f)
  (hf : ∀ t ∈ xs, FnD Tryz.prog f ([.agg [.d (.i t.var), .d (.i t.ty.data), .d (.i t.ty.index)]] ++ caps) hp (.d (.bool (p t))) []) (k1 : subH hp hp) (k2 : noTok hp = true) (k3 : okCall hp [] (.d .nilp) [] = true) :
  FnD Tryz.prog 305 [.d (encVts xs), .fn f caps] hp (.d (.i (idxF p xs 0))) [] := by
 refine bd Tryz.f305 19 [] [] fun w0 F0 own kept hk => ?_
 refine CWp.loopX (ι := List (Vt) × List (Vt)) hk (fun x => [(8, .d (.i (x.1.length : Int)))]) [4, 5, 9, 10, 11, 12, 13, 14, 15, 16, 17, 18] (fun x => []) (fun x => x.1 ++ x.2 = xs ∧ idxF p x.2 x.1.length = idxF p xs 0) (fun x => x.2.length) ([], xs) ⟨by simp, rfl⟩ ⟨⟨_, rfl, (LeA.eqi (by first | rfl | (simp; done) | (simp_all; done) | omega))⟩, trivial⟩ trivial (fun x => boxIds_all hp) (fun x hg1 => ?_)
 obtain ⟨pre, rest⟩ := x
 dsimp only at hg1 ⊢
 refine evc [] [] ?_
 refine sq (fun h1 h1p h1s => ?_) fun h1 h1p h1s => ?_
 ·try simp only [Q] at h1p
  rcases rest with _ | ⟨y, rest⟩
  ·exfalso; simp_all
  refine Walk.idx sl124 .none rfl rfl rfl rfl (zip_at hg1.1) rfl ?_
  refine ev ?_
  refine Walk.callV (cr := []) hcal (hf y (by rw [← hg1.1]; simp)) rfl .none rfl rfl rfl (LeL.refl _) k1 k2 (okCall_d k3 _) rfl ?_
  refine tv ?_
  refine sq (fun h2 h2p h2s => ?_) fun h2 h2p h2s => ?_
  ·try simp only [Q] at h2p
   refine rn [] (r1 rfl) (.eqd ?_) ⟨rfl, rfl⟩ (fun _ _ h => h) (fun _ h => h)
   all_goals (rw [← hg1.2]; simp [idxF, h1s, h1p, h2s, h2p])
  ·try simp only [Q] at h2p
   refine ar ?_
   refine Exists.intro ((pre ++ [y], rest)) ⟨⟨(by have hz := hg1.1; rw [← hz]; simp), (by rw [← hg1.2]; simp [idxF, h2s])⟩, (by simp), Sub.x (by kernel_rfl) (by kernel_rfl) ⟨⟨_, rfl, (LeA.eqi (by first | rfl | (simp; done) | (simp_all; done) | omega))⟩, trivial⟩ (by simp) (by simp [coverH]) trivial⟩
 ·try simp only [Q] at h1p
  have hrest : rest = [] := by
   rcases rest with _ | ⟨a, b⟩
   ·rfl
   ·exfalso; have hz := congrArg List.length (hg1.1); simp only [List.length_append, List.length_cons, List.length_map] at hz; omega
  subst hrest
  refine rn [] (r1 rfl) (.eqd ?_) ⟨rfl, rfl⟩ (fun _ _ h => h) (fun _ h => h)
  all_goals (rw [← hg1.2]; simp [idxF, h1s, h1p])
theorem slices_ContainsFunc_Vt_fn {xs : List Vt} {f : Nat} {caps : List AV} {hp : Hp} {p : Vt → Bool} (hs : xs.length ≤ 1000000000000) (hcal : Callee Tryz.prog f)
  (hf : ∀ t ∈ xs, FnD Tryz.prog f ([.agg [.d (.i t.var), .d (.i t.ty.data), .d (.i t.ty.index)]] ++ caps) hp (.d (.bool (p t))) []) (k1 : subH hp hp) (k2 : noTok hp = true) (k3 : okCall hp [] (.d .nilp) [] = true) :
  FnD Tryz.prog 303 [.d (encVts xs), .fn f caps] hp (.d (.bool (xs.any p))) [] := by
 refine bd Tryz.f303 9 [] [] fun w0 F0 own kept hk => ?_
 refine Walk.call (cr := []) cal305 (slices_IndexFunc_Vt_fn hs hcal hf k1 k2 k3) rfl .none rfl rfl (LeL.refl _) k1 k2 (okCall_d k3 _) rfl ?_
 refine ev ?_
 refine rn [] (r1 rfl) (.eqd ?_) ⟨rfl, rfl⟩ (fun _ _ h => h) (fun _ h => h)
 all_goals (exact congrArg D.bool (idxF_any p xs 0))
theorem impl_sameVars_1_fn {b : List Vt} {v : Vt} (h : b.length ≤ 1000000000000) : FnD Tryz.prog 304 [.agg [.d (.i v.var), .d (.i v.ty.data), .d (.i v.ty.index)], .ref 3003 0] [(3003, some (.box [.d (encVts b)]))] (.d (.bool (!decide (v ∈ b)))) [] := by
 refine bd Tryz.f304 8 [] [] fun w0 F0 own kept hk => ?_
 refine Walk.box (id := 3001) .none rfl rfl rfl rfl rfl rfl rfl ?_
 refine ev ?_
 refine Walk.call (cr := []) cal272 (slices_Contains_Vt_fn h) rfl .none rfl rfl (LeL.refl _) trivial rfl rfl rfl ?_
 refine ev ?_
 refine rn [] (r1 rfl) (.eqd ?_) ⟨rfl, rfl⟩ (SubH.get ⟨rfl, trivial⟩) (fun _ h => h)
 all_goals (rfl)
theorem impl_sameVars_fn {x y : List Vt} (hx : x.length ≤ 1000000000000) (hy : y.length ≤ 1000000000000) : FnD Tryz.prog 274 [.d (encVts x), .d (encVts y)] [] (.d (.bool (sameV2 x y))) [] := by
 refine bd Tryz.f274 16 [] [] fun w0 F0 own kept hk => ?_
 refine Walk.box (id := 3003) .none rfl rfl rfl rfl rfl rfl rfl ?_
 refine ev ?_
 refine sq (fun h1 h1p h1s => ?_) fun h1 h1p h1s => ?_
 ·try simp only [Q] at h1p
  refine Walk.closure (xs := [_]) rfl (.some rfl rfl h1) rfl rfl ?_
  refine Walk.call (cr := []) cal303 (slices_ContainsFunc_Vt_fn (p := fun v => !decide (v ∈ y)) hx cal304 (fun t _ => impl_sameVars_1_fn hy) ⟨rfl, trivial⟩ rfl rfl) rfl (.some rfl rfl h1) rfl rfl (LeL.refl _) ⟨rfl, trivial⟩ rfl rfl rfl ?_
  refine evs [] [(10, true)] ?_ ⟨⟨_, rfl, h1⟩, trivial⟩
  refine rn0 (r1 rfl) (.eqd ?_)
  all_goals (refine congrArg D.bool ?_; unfold sameV2; first | (simp_all; done) | (simp_all; intro hz; omega))
 ·try simp only [Q] at h1p
  refine rn0 (r1 rfl) (.eqd ?_)
  all_goals (refine congrArg D.bool ?_; unfold sameV2; first | (simp_all; done) | (simp_all; intro hz; omega))
def metA (s : List Int) : List AV := (List.range 6).map fun (i : Nat) => .d (.bool (decide ((i : Int) ∈ s)))
theorem metA_get {s : List Int} {v : Int} (h0 : 0 ≤ v) (h1 : v ≤ 5) : (metA s)[v.toNat]? = some (.d (.bool (decide (v ∈ s)))) := by
 unfold metA
 rw [List.getElem?_map, List.getElem?_range (by omega)]
 simp only [Option.map_some]
 rw [Int.toNat_of_nonneg h0]
theorem metA_put {s : List Int} {v : Int} (h0 : 0 ≤ v) (h1 : v ≤ 5) : putC (metA s) v.toNat [.d (.bool true)] = some (metA (s ++ [v])) := by
 have e : v = 0 ∨ v = 1 ∨ v = 2 ∨ v = 3 ∨ v = 4 ∨ v = 5 := by omega
 rcases e with rfl | rfl | rfl | rfl | rfl | rfl <;> simp [metA, putC, List.range_succ]
theorem nameP_len (t : Ty) (p : Pat) : (nameP t p).length ≤ 1 := by unfold nameP; split <;> simp
theorem nodup_sub : ∀ {a b : List Int}, a.Nodup → (∀ x ∈ a, x ∈ b) → a.length ≤ b.length
 | [], b, _, _ => by simp
 | x :: r, b, hn, hs => by
  have hn' := List.nodup_cons.1 hn
  have hx := hs x (by simp)
  have h := nodup_sub (a := r) (b := b.erase x) hn'.2 (fun y hy => by
   have hne : y ≠ x := fun e => hn'.1 (e ▸ hy)
   exact (List.mem_erase_of_ne hne).2 (hs y (by simp [hy])))
  rw [List.length_erase_of_mem hx] at h
  have := List.length_pos_of_mem hx
  simp only [List.length_cons]; omega
def InR (l : List Vt) : Prop := ∀ v ∈ l, 0 ≤ v.var ∧ v.var ≤ 5
theorem nodup_len {l : List Vt} (h : InR l) (hn : nodupV l = true) : l.length ≤ 6 := by
 unfold nodupV at hn
 have h1 := of_decide_eq_true hn
 have h2 : ∀ x ∈ l.map Vt.var, x ∈ [(0 : Int), 1, 2, 3, 4, 5] := fun x hx => by
  obtain ⟨v, hv, rfl⟩ := List.mem_map.1 hx
  have := h v hv
  simp only [List.mem_cons, List.not_mem_nil, or_false]; omega
 have := nodup_sub h1 h2
 simpa using this
theorem scanK_in {g : Ty → Pat → Int → Option (List Vt) × Int} {or : Bool} (hg : ∀ t p c l, (g t p c).1 = some l → InR l) : ∀ (a : List Ty) (b : List Pat) (i : Nat) (acc : List Vt) (c : Int) (l : List Vt), InR acc → (scanK g or a b i acc c).1 = some l → InR l
 | [], b, i, acc, c, l, ha, h => by simp only [scanK, Option.some.injEq] at h; subst h; exact ha
 | _ :: _, [], i, acc, c, l, ha, h => by simp only [scanK, Option.some.injEq] at h; subst h; exact ha
 | x :: r, y :: s, i, acc, c, l, ha, h => by
  simp only [scanK] at h
  cases hh : (g x y c).1 with
  | none => rw [hh] at h; cases h
  | some m =>
   rw [hh] at h
   simp only at h
   split at h
   ·split at h
    ·exact scanK_in hg r s (i + 1) acc _ l ha h
    ·cases h
   ·refine scanK_in hg r s (i + 1) _ _ l (fun v hv => ?_) h
    rcases List.mem_append.1 hv with hv | hv
    ·exact ha v hv
    ·exact hg x y c m hh v hv
theorem scanP_in (w : List Data) : ∀ (n : Nat) (t : Ty) (p : Pat) (c : Int) (l : List Vt), (scanP w n t p c).1 = some l → InR l ∧ nodupV l = true
 | 0, t, p, c, l, h => by simp [scanP] at h
 | n + 1, t, p, c, l, h => by
  unfold scanP at h
  split at h
  ·cases h
  ·split at h
   ·rename_i h60 ho
    have ho' : ownP w t p = true := by unfold okP at ho; simp only [Bool.and_eq_true] at ho; exact ho.1
    cases hk : (scanK (scanP w n) (decide (p.op = 5)) (typesP w t p) p.kids 0 (nameP t p) (c + 1)).1 with
    | none => unfold finV at h; rw [hk] at h; simp only at h; rw [hk] at h; cases h
    | some m =>
     have hi : InR m := scanK_in (fun t p c l h => (scanP_in w n t p c l h).1) _ _ _ _ _ m (fun v hv => by
      unfold nameP at hv
      split at hv
      ·rename_i hop
       simp only [List.mem_cons, List.not_mem_nil, or_false] at hv
       subst hv
       exact ownP_var ho' hop
      ·simp at hv) hk
     unfold finV at h
     rw [hk] at h
     simp only at h
     split at h
     ·rename_i hn
      rw [hk] at h
      cases h
      exact ⟨hi, hn⟩
     ·cases h
   ·cases h
theorem scanP_bd (w : List Data) (n : Nat) (t : Ty) (p : Pat) (c : Int) (h : (scanP w n t p c).1.isSome = true) : c + 1 ≤ (scanP w n t p c).2 ∧ (scanP w n t p c).2 ≤ 60 := by
 have h1 := scanP_eq w n t p c
 by_cases hw : wantP w n t p c = true
 ·have h2 := h1.2 hw
  simp only [wantP, Bool.and_eq_true, decide_eq_true_eq] at hw
  have := Pat.size_eq p
  omega
 ·rw [if_neg hw] at h1; rw [h1.1] at h; cases h
def someV (o : Option (List Vt)) : List Vt := o.getD []
theorem scanK_none {g : Ty → Pat → Int → Option (List Vt) × Int} {or : Bool} {a : List Ty} {b : List Pat} {i : Nat} {acc : List Vt} {c : Int} (ha : i < a.length) (hl : b.length = a.length) (h : (g (nth a i) (nth b i) c).1.isSome = false) :
  scanK g or (a.drop i) (b.drop i) i acc c = (none, (g (nth a i) (nth b i) c).2) := by
 rw [drop_nth ha, drop_nth (l := b) (by omega), scanK]
 cases hh : (g (nth a i) (nth b i) c).1 with
 | none => rfl
 | some l => rw [hh] at h; cases h
theorem scanK_bad {g : Ty → Pat → Int → Option (List Vt) × Int} {or : Bool} {a : List Ty} {b : List Pat} {i : Nat} {acc : List Vt} {c : Int} (ha : i < a.length) (hl : b.length = a.length) (h : (g (nth a i) (nth b i) c).1.isSome = true) (ho : or = true ∧ i = 1) (hs : sameV2 acc (someV (g (nth a i) (nth b i) c).1) = false) :
  scanK g or (a.drop i) (b.drop i) i acc c = (none, (g (nth a i) (nth b i) c).2) := by
 rw [drop_nth ha, drop_nth (l := b) (by omega), scanK]
 cases hh : (g (nth a i) (nth b i) c).1 with
 | none => rfl
 | some l => rw [hh] at hs; simp only [someV, Option.getD_some] at hs; simp only [if_pos ho, hs, Bool.false_eq_true, if_false]
theorem scanK_next {g : Ty → Pat → Int → Option (List Vt) × Int} {or : Bool} {a : List Ty} {b : List Pat} {i : Nat} {acc : List Vt} {c : Int} (ha : i < a.length) (hl : b.length = a.length) (h : (g (nth a i) (nth b i) c).1.isSome = true) (hs : (or = true ∧ i = 1) → sameV2 acc (someV (g (nth a i) (nth b i) c).1) = true) :
  scanK g or (a.drop i) (b.drop i) i acc c = scanK g or (a.drop (i + 1)) (b.drop (i + 1)) (i + 1) (if or = true ∧ i = 1 then acc else acc ++ someV (g (nth a i) (nth b i) c).1) (g (nth a i) (nth b i) c).2 := by
 rw [drop_nth ha, drop_nth (l := b) (by omega), scanK]
 cases hh : (g (nth a i) (nth b i) c).1 with
 | none => rw [hh] at h; cases h
 | some l =>
  by_cases ho : or = true ∧ i = 1
  ·have := hs ho; rw [hh] at this; simp only [someV, Option.getD_some] at this
   simp only [if_pos ho, this, if_true]
  ·simp only [if_neg ho, someV, Option.getD_some]
theorem scanK_end {g : Ty → Pat → Int → Option (List Vt) × Int} {or : Bool} {a : List Ty} {b : List Pat} {i : Nat} {acc : List Vt} {c : Int} (ha : a.length ≤ i) : scanK g or (a.drop i) (b.drop i) i acc c = (some acc, c) := by
 rw [List.drop_eq_nil_of_le ha, scanK]
 intro a r b s h; cases h
theorem someV_ok (w : List Data) (n : Nat) (t : Ty) (p : Pat) (c : Int) : InR (someV (scanP w n t p c).1) ∧ (someV (scanP w n t p c).1).length ≤ 6 := by
 cases h : (scanP w n t p c).1 with
 | none => exact ⟨fun v hv => by simp [someV] at hv, by simp [someV]⟩
 | some l =>
  have := scanP_in w n t p c l h
  exact ⟨this.1, nodup_len this.1 this.2⟩
structure GoodS (w : List Data) (n : Nat) (t : Ty) (p : Pat) (c : Int) (x : Nat × List Vt × Int) : Prop where
 le : x.1 ≤ p.kids.length
 eq : scanK (scanP w n) (decide (p.op = 5)) ((typesP w t p).drop x.1) (p.kids.drop x.1) x.1 x.2.1 x.2.2 = scanK (scanP w n) (decide (p.op = 5)) (typesP w t p) p.kids 0 (nameP t p) (c + 1)
 lc : (x.1 : Int) ≤ x.2.2
 c0 : 0 ≤ x.2.2
 c1 : x.2.2 ≤ 60
 len : x.2.1.length ≤ 1 + 6 * x.1
 inr : InR x.2.1
def nextS (w : List Data) (n : Nat) (t : Ty) (p : Pat) (x : Nat × List Vt × Int) : Nat × List Vt × Int :=
 (x.1 + 1, if decide (p.op = 5) = true ∧ x.1 = 1 then x.2.1 else x.2.1 ++ someV (scanP w n (nth (typesP w t p) x.1) (nth p.kids x.1) x.2.2).1, (scanP w n (nth (typesP w t p) x.1) (nth p.kids x.1) x.2.2).2)
theorem GoodS.next {w : List Data} {n : Nat} {t : Ty} {p : Pat} {c : Int} {x : Nat × List Vt × Int} (hl : p.kids.length = (typesP w t p).length) (hg : GoodS w n t p c x) (hlt : x.1 < p.kids.length)
  (hz : (scanP w n (nth (typesP w t p) x.1) (nth p.kids x.1) x.2.2).1.isSome = true) (hs : (decide (p.op = 5) = true ∧ x.1 = 1) → sameV2 x.2.1 (someV (scanP w n (nth (typesP w t p) x.1) (nth p.kids x.1) x.2.2).1) = true) :
  GoodS w n t p c (nextS w n t p x) := by
 obtain ⟨h1, h2, h3, h4, h5, h6, h7⟩ := hg
 have hb := scanP_bd w n _ _ _ hz
 have ho := someV_ok w n (nth (typesP w t p) x.1) (nth p.kids x.1) x.2.2
 refine ⟨by unfold nextS; dsimp only; omega, ?_, by unfold nextS; dsimp only; omega, by unfold nextS; dsimp only; omega, by unfold nextS; dsimp only; omega, ?_, ?_⟩
 ·rw [← h2, scanK_next (by omega) hl hz hs]; rfl
 ·unfold nextS; dsimp only
  split
  ·omega
  ·rw [List.length_append]; omega
 ·unfold nextS; dsimp only
  split
  ·exact h7
  ·intro v hv
   rcases List.mem_append.1 hv with hv | hv
   ·exact h7 v hv
   ·exact ho.1 v hv
theorem GoodS.none {w : List Data} {n : Nat} {t : Ty} {p : Pat} {c : Int} {x : Nat × List Vt × Int} (hl : p.kids.length = (typesP w t p).length) (hg : GoodS w n t p c x) (hlt : x.1 < p.kids.length)
  (hz : (scanP w n (nth (typesP w t p) x.1) (nth p.kids x.1) x.2.2).1.isSome = false) :
  finV (scanK (scanP w n) (decide (p.op = 5)) (typesP w t p) p.kids 0 (nameP t p) (c + 1)) = (none, (scanP w n (nth (typesP w t p) x.1) (nth p.kids x.1) x.2.2).2) := by
 rw [← hg.eq, scanK_none (by omega) hl hz]; rfl
theorem GoodS.bad {w : List Data} {n : Nat} {t : Ty} {p : Pat} {c : Int} {x : Nat × List Vt × Int} (hl : p.kids.length = (typesP w t p).length) (hg : GoodS w n t p c x) (hlt : x.1 < p.kids.length)
  (hz : (scanP w n (nth (typesP w t p) x.1) (nth p.kids x.1) x.2.2).1.isSome = true) (ho : p.op = 5 ∧ x.1 = 1) (hs : sameV2 x.2.1 (someV (scanP w n (nth (typesP w t p) x.1) (nth p.kids x.1) x.2.2).1) = false) :
  finV (scanK (scanP w n) (decide (p.op = 5)) (typesP w t p) p.kids 0 (nameP t p) (c + 1)) = (Option.none, (scanP w n (nth (typesP w t p) x.1) (nth p.kids x.1) x.2.2).2) := by
 rw [← hg.eq, scanK_bad (by omega) hl hz (by simpa using ho) hs]; rfl
theorem GoodS.fin {w : List Data} {n : Nat} {t : Ty} {p : Pat} {c : Int} {x : Nat × List Vt × Int} (hl : p.kids.length = (typesP w t p).length) (hg : GoodS w n t p c x) (hge : p.kids.length ≤ x.1) :
  finV (scanK (scanP w n) (decide (p.op = 5)) (typesP w t p) p.kids 0 (nameP t p) (c + 1)) = (if nodupV x.2.1 = true then some x.2.1 else Option.none, x.2.2) := by
 rw [← hg.eq, scanK_end (by omega)]
 unfold finV
 simp only
 split <;> rfl
theorem nodup_app {pre rest l : List Vt} {y : Vt} (h : pre ++ y :: rest = l) (hm : y.var ∈ pre.map Vt.var) : nodupV l = false := by
 unfold nodupV
 refine decide_eq_false (fun hn => ?_)
 rw [← h, List.map_append, List.map_cons, List.nodup_append] at hn
 exact hn.2.2 _ hm _ (by simp) rfl
theorem nodup_snoc {pre : List Vt} {y : Vt} (h : (pre.map Vt.var).Nodup) (hm : y.var ∉ pre.map Vt.var) : ((pre ++ [y]).map Vt.var).Nodup := by
 rw [List.map_append, List.nodup_append]
 exact ⟨h, by simp, fun a ha b hb => by simp at hb; subst hb; exact fun e => hm (e ▸ ha)⟩
def retV (r : Option (List Vt) × Int) : AV := .tup [.d (encVts (someV r.1)), .d (.bool r.1.isSome)]
theorem impl_patternScan_fn {w : List Data} (hw : WT w) : ∀ (n : Nat) {a k d c : Int} {p : Pat}, d + n = 11 → n ≤ 10 → TyIn w.length ⟨a, k⟩ → p.ok → 0 ≤ c → c ≤ 1000000000000 →
  FnD Tryz.prog 220 [.d (encDatas w), .agg [.d (.i a), .d (.i k)], .agg [.d (.i p.op), .d (.i p.ctor), .d (.i p.n), .d (.i p.m), .d (.i p.var), .d (encPats p.kids)], .d (.i d), .ref 950 0] [(950, some (.box [.d (.i c)]))]
   (retV (scanP w n ⟨a, k⟩ p c)) [(950, some (.box [.d (.i (scanP w n ⟨a, k⟩ p c).2)]))]
 | 0, a, k, d, c, p, hd, _, _, _, c0, c1 => by
  refine bd Tryz.f220 114 [] [2] fun w0 F0 own kept hk => ?_
  refine Walk.box (id := 3006) .none rfl rfl rfl rfl rfl rfl rfl ?_
  refine Walk.box (id := 3007) .none rfl rfl rfl rfl rfl rfl rfl ?_
  refine ev ?_
  refine ar ?_
  refine Walk.store ty3 .none rfl rfl rfl rfl rfl rfl (by simp) rfl ?_
  refine tv ?_
  refine CWp.regionJ ?_
  refine WRest.join 8 [(34, .d (.bool (true)))] [27, 28, 29, 30, 31, 32, 33] ?_ ?_
  ·
   refine ev ?_
   refine sq (fun h1 h1p h1s => ?_) fun h1 h1p h1s => ?_
   ·try simp only [Q] at h1p
    exact jnb rfl
   ·try simp only [Q] at h1p
    exact jnb rfl
  refine WRest.done ?_
  refine tv ?_
  refine sq (fun h2 h2p h2s => ?_) fun h2 h2p h2s => ?_
  ·try simp only [Q] at h2p
   refine rn [(950, some (.box [.d (.i (scanP w 0 ⟨a, k⟩ p c).2)]))] (r2 rfl rfl) (.tup (.cons (.nild ?_) (.cons (.eqd ?_) .nil))) ⟨rfl, rfl⟩ (SubO.get ⟨.inr (by rfl), ⟨.inl rfl, trivial⟩⟩) (boxOK rfl)
   all_goals (rfl)
  ·try simp only [Q] at h2p
   exact absurd h2 (by simp) --stop
 | n + 1, a, k, d, c, p, hd, hn, ht, hok, c0, c1 => by
  by_cases h60 : 60 < c + 1
  ·have e : scanP w (n + 1) ⟨a, k⟩ p c = (none, c + 1) := by unfold scanP; rw [if_pos h60]
   rw [e]
   refine bd Tryz.f220 114 [] [2] fun w0 F0 own kept hk => ?_
   refine Walk.box (id := 3006) .none rfl rfl rfl rfl rfl rfl rfl ?_
   refine Walk.box (id := 3007) .none rfl rfl rfl rfl rfl rfl rfl ?_
   refine ev ?_
   refine ar ?_
   refine Walk.store ty3 .none rfl rfl rfl rfl rfl rfl (by simp) rfl ?_
   refine tv ?_
   refine CWp.regionJ ?_
   refine WRest.join 8 [(34, .d (.bool (true)))] [27, 28, 29, 30, 31, 32, 33] ?_ ?_
   ·
    refine ev ?_
    refine sq (fun h1 h1p h1s => ?_) fun h1 h1p h1s => ?_
    ·try simp only [Q] at h1p
     exact jnb rfl
    ·try simp only [Q] at h1p
     exact jnb rfl
   refine WRest.done ?_
   refine tv ?_
   refine sq (fun h2 h2p h2s => ?_) fun h2 h2p h2s => ?_
   ·try simp only [Q] at h2p
    refine rn [(950, some (.box [.d (.i (c + 1))]))] (r2 rfl rfl) (.tup (.cons (.nild ?_) (.cons (.eqd ?_) .nil))) ⟨rfl, rfl⟩ (SubO.get ⟨.inr (by rfl), ⟨.inl rfl, trivial⟩⟩) (boxOK rfl)
    all_goals (rfl)
   ·try simp only [Q] at h2p
    exact absurd h2 (by simp) --stop
  have hsh := impl_shape_fn hw (p := p) ht
  by_cases hop : okP w ⟨a, k⟩ p = true
  ·have hok' := hok
   rw [Pat.ok_iff] at hok
   have hop' := hop
   unfold okP at hop'
   simp only [Bool.and_eq_true, decide_eq_true_eq] at hop'
   obtain ⟨ho, hl⟩ := hop'
   have hin := typesP_in hw ht ho
   have hlen := typesP_len hw ht (ownP_mem ho)
   have hst : shapeT w ⟨a, k⟩ p = typesP w ⟨a, k⟩ p := by unfold shapeT; rw [if_neg (fun h => h.2 (ownP_mem ho h.1))]
   rw [hst, hop] at hsh
   have e : scanP w (n + 1) ⟨a, k⟩ p c = finV (scanK (scanP w n) (decide (p.op = 5)) (typesP w ⟨a, k⟩ p) p.kids 0 (nameP ⟨a, k⟩ p) (c + 1)) := by
    conv => lhs; unfold scanP
    rw [if_neg h60, if_pos hop]
   have hnr : InR (nameP ⟨a, k⟩ p) := fun v hv => by
    unfold nameP at hv
    split at hv
    ·rename_i hop
     simp only [List.mem_cons, List.not_mem_nil, or_false] at hv
     subst hv
     exact ownP_var ho hop
    ·simp at hv
   have hnl := nameP_len ⟨a, k⟩ p
   rw [e]
   refine bd Tryz.f220 114 [14, 108] [2, 8, 17] fun w0 F0 own kept hk => ?_
   refine Walk.box (id := 3006) .none rfl rfl rfl rfl rfl rfl rfl ?_
   refine Walk.box (id := 3007) .none rfl rfl rfl rfl rfl rfl rfl ?_
   refine evs [14, 108] [] ?_
   refine ar ?_
   refine Walk.store ty3 .none rfl rfl rfl rfl rfl rfl (by simp) rfl ?_
   refine tv ?_
   refine CWp.regionJ ?_
   refine WRest.join 8 [(34, .d (.bool (false)))] [27, 28, 29, 30, 31, 32, 33] ?_ ?_
   ·
    refine evs [14, 108] [] ?_
    refine sq (fun h1 h1p h1s => ?_) fun h1 h1p h1s => ?_
    ·try simp only [Q, Pat.cs_len] at h1p
     exact jnb rfl
    ·try simp only [Q, Pat.cs_len] at h1p
     exact jnb rfl
   refine WRest.done ?_
   refine tv ?_
   refine sq (fun h2 h2p h2s => ?_) fun h2 h2p h2s => ?_
   ·try simp only [Q, Pat.cs_len] at h2p
    exact absurd h2 (by simp) --stop
   ·try simp only [Q, Pat.cs_len] at h2p
    refine Walk.call (cr := []) cal273 (hsh) rfl .none rfl rfl (LeL.refl _) trivial rfl rfl rfl ?_
    refine evs [14, 108] [] ?_
    refine sq (fun h3 h3p h3s => ?_) fun h3 h3p h3s => ?_
    ·try simp only [Q, Pat.cs_len] at h3p
     exact absurd h3 (by simp) --stop
    ·try simp only [Q, Pat.cs_len] at h3p
     refine Walk.assignNil 5 3 .none rfl rfl ?_
     refine tv ?_
     refine CWp.regionJ ?_
     refine WRest.join 8 [(51, .d (.bool (decide (p.op = 2 ∨ p.op = 6))))] [44, 45, 46, 47, 48, 49, 50] ?_ ?_
     ·
      refine evs [14, 108] [] ?_
      refine sq (fun h4 h4p h4s => ?_) fun h4 h4p h4s => ?_
      ·try simp only [Q, Pat.cs_len] at h4p
       exact jnb rfl
      ·try simp only [Q, Pat.cs_len] at h4p
       exact jnb rfl
     refine WRest.done ?_
     refine tv ?_
     refine sq (fun h5 h5p h5s => ?_) fun h5 h5p h5s => ?_
     ·try simp only [Q, Pat.cs_len] at h5p
      refine Walk.build st197 (ks := [0, 1]) (xs := [_, _]) rfl rfl .none rfl rfl rfl ?_
      refine Walk.sliceLit sl124 tz197 rfl (by decide) (ks := [0]) (xs := [_]) rfl rfl (by decide) (by decide) .none rfl rfl rfl rfl ?_
      refine Walk.append sl124 zz197 rfl .none rfl rfl rfl rfl (htokL rfl (by first | rfl | (simp; done) | (simp; omega))) (by simp) (by (simp; done)) (by (simp; done)) ?_
      refine asg ?_
      refine tv ?_
      refine CWp.loopX (ι := Nat × List Vt × Int) hk (fun z => [(62, .d (.i (z.1 : Int))), (14, .gl 5 (z.2.1.map Vt.c))]) [10, 11, 15, 16, 17, 18, 63, 64, 65, 66, 67, 68, 69, 70, 71, 72, 73, 74, 75, 76, 77, 78, 79, 80, 81, 82, 83, 84, 85, 86, 87, 88, 89, 90, 91, 92, 93, 94, 95, 96, 97, 98] (fun z => [(950, some (.box [.d (.i z.2.2)])), (5, some (.tok ((z.2.1.map Vt.c)).length 3))]) (fun z => GoodS w n ⟨a, k⟩ p c z) (fun z => p.kids.length - z.1) (0, nameP ⟨a, k⟩ p, c + 1) ⟨by simp, by simp, by dsimp only; omega, by dsimp only; omega, by dsimp only; omega, by dsimp only; omega, hnr⟩ ⟨⟨_, rfl, (LeA.eqi (by rfl))⟩, ⟨⟨_, rfl, (LeA.glg (by (simp_all [nameP]; done)))⟩, trivial⟩⟩ ⟨(by first | rfl | (simp [getH]; done)), ⟨beq_nat_eq (by (first | rfl | (simp; done) | (dsimp only; omega) | (simp_all [nameP]; done) | (unfold nextS; dsimp only; rw [if_neg (by simp_all)]; simp; done) | (unfold nextS; dsimp only; rw [if_pos (by simp_all)]; done))), trivial⟩⟩ (fun x => rfl) (fun z hg1 => ?_)
      obtain ⟨s1, _, s3, s4, s5, s6, s7⟩ := id hg1
      refine evc [14, 108] [2, 8, 17] ?_
      refine sq (fun h6 h6p h6s => ?_) fun h6 h6p h6s => ?_
      ·try simp only [Q, Pat.cs_len] at h6p
       refine Walk.idx sl49 .none rfl rfl rfl rfl (pats_at (by omega)) rfl ?_
       refine evs [14, 108] [] ?_
       refine Walk.alloc (id := 3016) tz51 rfl .none rfl rfl rfl rfl ?_
       refine evs [14, 108] [] ?_
       refine Walk.store ty51 .none rfl rfl rfl rfl rfl rfl (by simp) rfl ?_
       refine tv ?_
       refine Walk.idx sl182 .none rfl rfl rfl rfl (at_nth (by omega)) rfl ?_
       refine evd [14, 108] [] ?_
       refine ar ?_
       refine Walk.call (cr := []) cal220 (impl_patternScan_fn hw n (a := (nth (typesP w ⟨a, k⟩ p) z.1).data) (k := (nth (typesP w ⟨a, k⟩ p) z.1).index) (c := z.2.2) (p := nth p.kids z.1) (by omega) (by omega) (hin _ (nth_mem (by omega))) (Pats.ok_mem hok.2 _ (nth_mem (by omega))) (by omega) (by omega)) rfl .none rfl rfl (LeL.refl _) ⟨rfl, trivial⟩ rfl rfl rfl ?_
       refine evd [14, 108] [] ?_
       refine dr ?_
       refine sq (fun h7 h7p h7s => ?_) fun h7 h7p h7s => ?_
       ·try simp only [Q, Pat.cs_len] at h7p
        refine rn [(950, some (.box [.d (.i (finV (scanK (scanP w n) (decide (p.op = 5)) (typesP w ⟨a, k⟩ p) p.kids 0 (nameP ⟨a, k⟩ p) (c + 1))).2)]))] (r2 rfl rfl) (.tup (.cons (.nild ?_) (.cons (.eqd ?_) .nil))) ⟨rfl, rfl⟩ (SubO.get ⟨.inr (by (show some (Res.box _) = some (Res.box _); rw [hg1.none hl (by omega) (by assumption)]; done)), ⟨.inl rfl, trivial⟩⟩) (boxOK rfl)
        all_goals ((rw [hg1.none hl (by omega) (by assumption)]; first | done | rfl))
       ·try simp only [Q, Pat.cs_len] at h7p
        refine CWp.regionJ ?_
        refine WRest.join 7 [(93, .d (.bool (decide (p.op = 5 ∧ z.1 = 1))))] [87, 88, 89, 90, 91, 92] ?_ ?_
        ·
         refine evs [14, 108] [] ?_
         refine sq (fun h8 h8p h8s => ?_) fun h8 h8p h8s => ?_
         ·try simp only [Q, Pat.cs_len] at h8p
          exact jnb rfl
         ·try simp only [Q, Pat.cs_len] at h8p
          exact jnb rfl
        refine WRest.done ?_
        refine evs [14, 108] [] ?_
        refine sq (fun h9 h9p h9s => ?_) fun h9 h9p h9s => ?_
        ·try simp only [Q, Pat.cs_len] at h9p
         refine Walk.call (cr := []) cal274 (impl_sameVars_fn (by omega) (by have hz := (someV_ok w n ⟨(nth (typesP w ⟨a, k⟩ p) z.1).data, (nth (typesP w ⟨a, k⟩ p) z.1).index⟩ (nth p.kids z.1) z.2.2).2; omega)) rfl .none rfl rfl (.cons (.gl _ _) (.cons (.refl _) .nil)) trivial rfl rfl rfl ?_
         refine evs [14, 108] [] ?_
         refine sq (fun h10 h10p h10s => ?_) fun h10 h10p h10s => ?_
         ·try simp only [Q, Pat.cs_len] at h10p
          refine rn [(950, some (.box [.d (.i (finV (scanK (scanP w n) (decide (p.op = 5)) (typesP w ⟨a, k⟩ p) p.kids 0 (nameP ⟨a, k⟩ p) (c + 1))).2)]))] (r2 rfl rfl) (.tup (.cons (.nild ?_) (.cons (.eqd ?_) .nil))) ⟨rfl, rfl⟩ (SubO.get ⟨.inr (by (show some (Res.box _) = some (Res.box _); rw [hg1.bad hl (by omega) (by assumption) (by assumption) (by assumption)]; done)), ⟨.inl rfl, trivial⟩⟩) (boxOK rfl)
          all_goals ((rw [hg1.bad hl (by omega) (by assumption) (by assumption) (by assumption)]; first | done | rfl))
         ·try simp only [Q, Pat.cs_len] at h10p
          refine ar ?_
          refine Exists.intro ((nextS w n ⟨a, k⟩ p z)) ⟨(hg1.next hl (by omega) (by simp_all) (fun ho => by simp_all)), (by unfold nextS; dsimp only; omega), Sub.x (by kernel_rfl) (by kernel_rfl) ⟨⟨_, rfl, (LeA.eqi (by rfl))⟩, ⟨⟨_, rfl, (LeA.glg (by (simp_all [nameP]; done)))⟩, trivial⟩⟩ (by kernel_rfl) (by kernel_rfl) ⟨(by first | rfl | (simp [getH]; done)), ⟨beq_nat_eq (by (simp; omega)), trivial⟩⟩⟩
        ·try simp only [Q, Pat.cs_len] at h9p
         refine Walk.append sl124 zz197 rfl .none rfl rfl rfl rfl (htokL rfl (by first | rfl | (simp; done) | (simp; omega))) (by simp) (by (have hz := (someV_ok w n ⟨(nth (typesP w ⟨a, k⟩ p) z.1).data, (nth (typesP w ⟨a, k⟩ p) z.1).index⟩ (nth p.kids z.1) z.2.2).2; simp; omega)) (by (have hz := (someV_ok w n ⟨(nth (typesP w ⟨a, k⟩ p) z.1).data, (nth (typesP w ⟨a, k⟩ p) z.1).index⟩ (nth p.kids z.1) z.2.2).2; simp; omega)) ?_
         refine asg ?_
         refine tv ?_
         refine ar ?_
         refine Exists.intro ((nextS w n ⟨a, k⟩ p z)) ⟨(hg1.next hl (by omega) (by simp_all) (fun ho => by simp_all)), (by unfold nextS; dsimp only; omega), Sub.x (by kernel_rfl) (by kernel_rfl) ⟨⟨_, rfl, (LeA.eqi (by rfl))⟩, ⟨⟨_, rfl, (LeA.glg (by (unfold nextS; dsimp only; rw [if_neg (by simp_all)]; simp; done)))⟩, trivial⟩⟩ (by kernel_rfl) (by kernel_rfl) ⟨(by first | rfl | (simp [getH]; done)), ⟨beq_nat_eq (by (first | rfl | (simp; done) | (dsimp only; omega) | (simp_all [nameP]; done) | (unfold nextS; dsimp only; rw [if_neg (by simp_all)]; simp; done) | (unfold nextS; dsimp only; rw [if_pos (by simp_all)]; done))), trivial⟩⟩⟩
      ·try simp only [Q, Pat.cs_len] at h6p
       refine Walk.alloc (id := 3019) tz195 rfl .none rfl rfl rfl rfl ?_
       refine tv ?_
       refine CWp.loopX (ι := List (Vt) × List (Vt)) hk (fun x => [(101, .d (.i (x.1.length : Int)))]) [10, 11, 21, 102, 103, 104, 105, 106, 107, 108, 109, 110, 111, 112] (fun x => [(3019, some (.box (metA (x.1.map Vt.var))))]) (fun x => x.1 ++ x.2 = z.2.1 ∧ (x.1.map Vt.var).Nodup) (fun x => x.2.length) ([], z.2.1) ⟨by simp, by simp⟩ ⟨⟨_, rfl, (LeA.eqi (by first | rfl | (simp; done) | (simp_all; done) | omega))⟩, trivial⟩ ⟨(by first | rfl | (simp [getH]; done)), trivial⟩ (fun x => rfl) (fun x hg2 => ?_)
       obtain ⟨pre, rest⟩ := x
       dsimp only at hg2 ⊢
       refine evc [14, 108] [2, 8, 17] ?_
       refine sq (fun h11 h11p h11s => ?_) fun h11 h11p h11s => ?_
       ·try simp only [Q, Pat.cs_len] at h11p
        rcases rest with _ | ⟨y, rest⟩
        ·exfalso; simp_all
        have hy := s7 y (by rw [← hg2.1]; simp)
        refine Walk.idxG sl124 .none rfl rfl rfl rfl (zip_at hg2.1) rfl ?_
        refine evs [14, 108] [] ?_
        refine Walk.alloc (id := 3021) tz197 rfl .none rfl rfl rfl rfl ?_
        refine Walk.store ty197 .none rfl rfl rfl rfl rfl rfl (by simp) rfl ?_
        refine tv ?_
        refine Walk.idxA (i := y.var.toNat) ar195 .none rfl rfl rfl (Int.toNat_of_nonneg hy.1).symm (by omega) ?_
        refine Walk.loadB ty4 .none rfl rfl rfl ((by simpa using metA_get hy.1 hy.2)) ?_
        refine tv ?_
        refine sq (fun h12 h12p h12s => ?_) fun h12 h12p h12s => ?_
        ·try simp only [Q, Pat.cs_len] at h12p
         refine rn [(950, some (.box [.d (.i (finV (scanK (scanP w n) (decide (p.op = 5)) (typesP w ⟨a, k⟩ p) p.kids 0 (nameP ⟨a, k⟩ p) (c + 1))).2)]))] (r2 rfl rfl) (.tup (.cons (.nild ?_) (.cons (.eqd ?_) .nil))) ⟨rfl, rfl⟩ (SubO.get ⟨.inr (by (show some (Res.box _) = some (Res.box _); rw [hg1.fin hl (by omega)]; done)), ⟨.inl rfl, trivial⟩⟩) (boxOK rfl)
         all_goals ((rw [hg1.fin hl (by omega), if_neg (by rw [nodup_app hg2.1 (by assumption)]; simp)]; first | done | rfl))
        ·try simp only [Q, Pat.cs_len] at h12p
         refine Walk.idxA (i := y.var.toNat) ar195 .none rfl rfl rfl (Int.toNat_of_nonneg hy.1).symm (by omega) ?_
         refine Walk.store ty4 .none rfl rfl rfl rfl rfl rfl (by simp) ((by simpa using metA_put hy.1 hy.2)) ?_
         refine tv ?_
         refine ar ?_
         refine Exists.intro ((pre ++ [y], rest)) ⟨⟨(by have hz := hg2.1; rw [← hz]; simp), (nodup_snoc hg2.2 (by simp_all))⟩, (by simp), Sub.x (by kernel_rfl) (by kernel_rfl) ⟨⟨_, rfl, (LeA.eqi (by first | rfl | (simp; done) | (simp_all; done) | omega))⟩, trivial⟩ (by kernel_rfl) (by kernel_rfl) ⟨(by first | rfl | (simp [getH]; done)), trivial⟩⟩
       ·try simp only [Q, Pat.cs_len] at h11p
        have hrest : rest = [] := by
         rcases rest with _ | ⟨a, b⟩
         ·rfl
         ·exfalso; have hz := congrArg List.length (hg2.1); simp only [List.length_append, List.length_cons, List.length_map] at hz; omega
        subst hrest
        refine rn [(950, some (.box [.d (.i (finV (scanK (scanP w n) (decide (p.op = 5)) (typesP w ⟨a, k⟩ p) p.kids 0 (nameP ⟨a, k⟩ p) (c + 1))).2)]))] (r2 rfl rfl) (.tup (.cons (.gld ?_) (.cons (.eqd ?_) .nil))) ⟨rfl, rfl⟩ (SubO.get ⟨.inr (by (show some (Res.box _) = some (Res.box _); rw [hg1.fin hl (by omega)]; done)), ⟨.inl rfl, trivial⟩⟩) (boxOK rfl)
        all_goals ((rw [hg1.fin hl (by omega), if_pos (by have hz := hg2.1; rw [List.append_nil] at hz; rw [← hz]; exact decide_eq_true hg2.2)]; first | done | rfl))
     ·try simp only [Q, Pat.cs_len] at h5p
      refine CWp.loopX (ι := Nat × List Vt × Int) hk (fun z => [(62, .d (.i (z.1 : Int))), (14, .gl 5 (z.2.1.map Vt.c))]) [10, 11, 15, 16, 17, 18, 63, 64, 65, 66, 67, 68, 69, 70, 71, 72, 73, 74, 75, 76, 77, 78, 79, 80, 81, 82, 83, 84, 85, 86, 87, 88, 89, 90, 91, 92, 93, 94, 95, 96, 97, 98] (fun z => [(950, some (.box [.d (.i z.2.2)])), (5, some (.tok ((z.2.1.map Vt.c)).length 3))]) (fun z => GoodS w n ⟨a, k⟩ p c z) (fun z => p.kids.length - z.1) (0, nameP ⟨a, k⟩ p, c + 1) ⟨by simp, by simp, by dsimp only; omega, by dsimp only; omega, by dsimp only; omega, by dsimp only; omega, hnr⟩ ⟨⟨_, rfl, (LeA.eqi (by rfl))⟩, ⟨⟨_, rfl, (LeA.glg (by (simp_all [nameP]; done)))⟩, trivial⟩⟩ ⟨(by first | rfl | (simp [getH]; done)), ⟨beq_nat_eq (by (first | rfl | (simp; done) | (dsimp only; omega) | (simp_all [nameP]; done) | (unfold nextS; dsimp only; rw [if_neg (by simp_all)]; simp; done) | (unfold nextS; dsimp only; rw [if_pos (by simp_all)]; done))), trivial⟩⟩ (fun x => rfl) (fun z hg1 => ?_)
      obtain ⟨s1, _, s3, s4, s5, s6, s7⟩ := id hg1
      refine evc [14, 108] [2, 8, 17] ?_
      refine sq (fun h13 h13p h13s => ?_) fun h13 h13p h13s => ?_
      ·try simp only [Q, Pat.cs_len] at h13p
       refine Walk.idx sl49 .none rfl rfl rfl rfl (pats_at (by omega)) rfl ?_
       refine evs [14, 108] [] ?_
       refine Walk.alloc (id := 3016) tz51 rfl .none rfl rfl rfl rfl ?_
       refine evs [14, 108] [] ?_
       refine Walk.store ty51 .none rfl rfl rfl rfl rfl rfl (by simp) rfl ?_
       refine tv ?_
       refine Walk.idx sl182 .none rfl rfl rfl rfl (at_nth (by omega)) rfl ?_
       refine evd [14, 108] [] ?_
       refine ar ?_
       refine Walk.call (cr := []) cal220 (impl_patternScan_fn hw n (a := (nth (typesP w ⟨a, k⟩ p) z.1).data) (k := (nth (typesP w ⟨a, k⟩ p) z.1).index) (c := z.2.2) (p := nth p.kids z.1) (by omega) (by omega) (hin _ (nth_mem (by omega))) (Pats.ok_mem hok.2 _ (nth_mem (by omega))) (by omega) (by omega)) rfl .none rfl rfl (LeL.refl _) ⟨rfl, trivial⟩ rfl rfl rfl ?_
       refine evd [14, 108] [] ?_
       refine dr ?_
       refine sq (fun h14 h14p h14s => ?_) fun h14 h14p h14s => ?_
       ·try simp only [Q, Pat.cs_len] at h14p
        refine rn [(950, some (.box [.d (.i (finV (scanK (scanP w n) (decide (p.op = 5)) (typesP w ⟨a, k⟩ p) p.kids 0 (nameP ⟨a, k⟩ p) (c + 1))).2)]))] (r2 rfl rfl) (.tup (.cons (.nild ?_) (.cons (.eqd ?_) .nil))) ⟨rfl, rfl⟩ (SubO.get ⟨.inr (by (show some (Res.box _) = some (Res.box _); rw [hg1.none hl (by omega) (by assumption)]; done)), ⟨.inl rfl, trivial⟩⟩) (boxOK rfl)
        all_goals ((rw [hg1.none hl (by omega) (by assumption)]; first | done | rfl))
       ·try simp only [Q, Pat.cs_len] at h14p
        refine CWp.regionJ ?_
        refine WRest.join 7 [(93, .d (.bool (decide (p.op = 5 ∧ z.1 = 1))))] [87, 88, 89, 90, 91, 92] ?_ ?_
        ·
         refine evs [14, 108] [] ?_
         refine sq (fun h15 h15p h15s => ?_) fun h15 h15p h15s => ?_
         ·try simp only [Q, Pat.cs_len] at h15p
          exact jnb rfl
         ·try simp only [Q, Pat.cs_len] at h15p
          exact jnb rfl
        refine WRest.done ?_
        refine evs [14, 108] [] ?_
        refine sq (fun h16 h16p h16s => ?_) fun h16 h16p h16s => ?_
        ·try simp only [Q, Pat.cs_len] at h16p
         refine Walk.call (cr := []) cal274 (impl_sameVars_fn (by omega) (by have hz := (someV_ok w n ⟨(nth (typesP w ⟨a, k⟩ p) z.1).data, (nth (typesP w ⟨a, k⟩ p) z.1).index⟩ (nth p.kids z.1) z.2.2).2; omega)) rfl .none rfl rfl (.cons (.gl _ _) (.cons (.refl _) .nil)) trivial rfl rfl rfl ?_
         refine evs [14, 108] [] ?_
         refine sq (fun h17 h17p h17s => ?_) fun h17 h17p h17s => ?_
         ·try simp only [Q, Pat.cs_len] at h17p
          refine rn [(950, some (.box [.d (.i (finV (scanK (scanP w n) (decide (p.op = 5)) (typesP w ⟨a, k⟩ p) p.kids 0 (nameP ⟨a, k⟩ p) (c + 1))).2)]))] (r2 rfl rfl) (.tup (.cons (.nild ?_) (.cons (.eqd ?_) .nil))) ⟨rfl, rfl⟩ (SubO.get ⟨.inr (by first | (show some (Res.box _) = some (Res.box _); rw [hg1.none hl (by omega) (by assumption)]; done) | (show some (Res.box _) = some (Res.box _); rw [hg1.bad hl (by omega) (by assumption) (by assumption) (by assumption)]; done) | (show some (Res.box _) = some (Res.box _); rw [hg1.fin hl (by omega)]; done)), ⟨.inl rfl, trivial⟩⟩) (boxOK rfl)
          all_goals ((rw [hg1.bad hl (by omega) (by assumption) (by assumption) (by assumption)]; first | done | rfl))
         ·try simp only [Q, Pat.cs_len] at h17p
          refine ar ?_
          refine Exists.intro ((nextS w n ⟨a, k⟩ p z)) ⟨(hg1.next hl (by omega) (by simp_all) (fun ho => by simp_all)), (by unfold nextS; dsimp only; omega), Sub.x (by kernel_rfl) (by kernel_rfl) ⟨⟨_, rfl, (LeA.eqi (by rfl))⟩, ⟨⟨_, rfl, (LeA.glg (by (unfold nextS; dsimp only; rw [if_pos (by simp_all)]; done)))⟩, trivial⟩⟩ (by kernel_rfl) (by kernel_rfl) ⟨(by first | rfl | (simp [getH]; done)), ⟨beq_nat_eq (by (first | rfl | (simp; done) | (dsimp only; omega) | (simp_all [nameP]; done) | (unfold nextS; dsimp only; rw [if_neg (by simp_all)]; simp; done) | (unfold nextS; dsimp only; rw [if_pos (by simp_all)]; done))), trivial⟩⟩⟩
        ·try simp only [Q, Pat.cs_len] at h16p
         refine Walk.append sl124 zz197 rfl .none rfl rfl rfl rfl (htokL rfl (by first | rfl | (simp; done) | (simp; omega))) (by simp) (by (have hz := (someV_ok w n ⟨(nth (typesP w ⟨a, k⟩ p) z.1).data, (nth (typesP w ⟨a, k⟩ p) z.1).index⟩ (nth p.kids z.1) z.2.2).2; simp; omega)) (by (have hz := (someV_ok w n ⟨(nth (typesP w ⟨a, k⟩ p) z.1).data, (nth (typesP w ⟨a, k⟩ p) z.1).index⟩ (nth p.kids z.1) z.2.2).2; simp; omega)) ?_
         refine asg ?_
         refine tv ?_
         refine ar ?_
         refine Exists.intro ((nextS w n ⟨a, k⟩ p z)) ⟨(hg1.next hl (by omega) (by simp_all) (fun ho => by simp_all)), (by unfold nextS; dsimp only; omega), Sub.x (by kernel_rfl) (by kernel_rfl) ⟨⟨_, rfl, (LeA.eqi (by rfl))⟩, ⟨⟨_, rfl, (LeA.glg (by (unfold nextS; dsimp only; rw [if_neg (by simp_all)]; simp; done)))⟩, trivial⟩⟩ (by kernel_rfl) (by kernel_rfl) ⟨(by first | rfl | (simp [getH]; done)), ⟨beq_nat_eq (by (first | rfl | (simp; done) | (dsimp only; omega) | (simp_all [nameP]; done) | (unfold nextS; dsimp only; rw [if_neg (by simp_all)]; simp; done) | (unfold nextS; dsimp only; rw [if_pos (by simp_all)]; done))), trivial⟩⟩⟩
      ·try simp only [Q, Pat.cs_len] at h13p
       refine Walk.alloc (id := 3019) tz195 rfl .none rfl rfl rfl rfl ?_
       refine tv ?_
       refine CWp.loopX (ι := List (Vt) × List (Vt)) hk (fun x => [(101, .d (.i (x.1.length : Int)))]) [10, 11, 21, 102, 103, 104, 105, 106, 107, 108, 109, 110, 111, 112] (fun x => [(3019, some (.box (metA (x.1.map Vt.var))))]) (fun x => x.1 ++ x.2 = z.2.1 ∧ (x.1.map Vt.var).Nodup) (fun x => x.2.length) ([], z.2.1) ⟨by simp, by simp⟩ ⟨⟨_, rfl, (LeA.eqi (by first | rfl | (simp; done) | (simp_all; done) | omega))⟩, trivial⟩ ⟨(by first | rfl | (simp [getH]; done)), trivial⟩ (fun x => rfl) (fun x hg2 => ?_)
       obtain ⟨pre, rest⟩ := x
       dsimp only at hg2 ⊢
       refine evc [14, 108] [2, 8, 17] ?_
       refine sq (fun h18 h18p h18s => ?_) fun h18 h18p h18s => ?_
       ·try simp only [Q, Pat.cs_len] at h18p
        rcases rest with _ | ⟨y, rest⟩
        ·exfalso; simp_all
        have hy := s7 y (by rw [← hg2.1]; simp)
        refine Walk.idxG sl124 .none rfl rfl rfl rfl (zip_at hg2.1) rfl ?_
        refine evs [14, 108] [] ?_
        refine Walk.alloc (id := 3021) tz197 rfl .none rfl rfl rfl rfl ?_
        refine Walk.store ty197 .none rfl rfl rfl rfl rfl rfl (by simp) rfl ?_
        refine tv ?_
        refine Walk.idxA (i := y.var.toNat) ar195 .none rfl rfl rfl (Int.toNat_of_nonneg hy.1).symm (by omega) ?_
        refine Walk.loadB ty4 .none rfl rfl rfl ((by simpa using metA_get hy.1 hy.2)) ?_
        refine tv ?_
        refine sq (fun h19 h19p h19s => ?_) fun h19 h19p h19s => ?_
        ·try simp only [Q, Pat.cs_len] at h19p
         refine rn [(950, some (.box [.d (.i (finV (scanK (scanP w n) (decide (p.op = 5)) (typesP w ⟨a, k⟩ p) p.kids 0 (nameP ⟨a, k⟩ p) (c + 1))).2)]))] (r2 rfl rfl) (.tup (.cons (.nild ?_) (.cons (.eqd ?_) .nil))) ⟨rfl, rfl⟩ (SubO.get ⟨.inr (by (show some (Res.box _) = some (Res.box _); rw [hg1.fin hl (by omega)]; done)), ⟨.inl rfl, trivial⟩⟩) (boxOK rfl)
         all_goals ((rw [hg1.fin hl (by omega), if_neg (by rw [nodup_app hg2.1 (by assumption)]; simp)]; first | done | rfl))
        ·try simp only [Q, Pat.cs_len] at h19p
         refine Walk.idxA (i := y.var.toNat) ar195 .none rfl rfl rfl (Int.toNat_of_nonneg hy.1).symm (by omega) ?_
         refine Walk.store ty4 .none rfl rfl rfl rfl rfl rfl (by simp) ((by simpa using metA_put hy.1 hy.2)) ?_
         refine tv ?_
         refine ar ?_
         refine Exists.intro ((pre ++ [y], rest)) ⟨⟨(by have hz := hg2.1; rw [← hz]; simp), (nodup_snoc hg2.2 (by simp_all))⟩, (by simp), Sub.x (by kernel_rfl) (by kernel_rfl) ⟨⟨_, rfl, (LeA.eqi (by first | rfl | (simp; done) | (simp_all; done) | omega))⟩, trivial⟩ (by kernel_rfl) (by kernel_rfl) ⟨(by first | rfl | (simp [getH]; done)), trivial⟩⟩
       ·try simp only [Q, Pat.cs_len] at h18p
        have hrest : rest = [] := by
         rcases rest with _ | ⟨a, b⟩
         ·rfl
         ·exfalso; have hz := congrArg List.length (hg2.1); simp only [List.length_append, List.length_cons, List.length_map] at hz; omega
        subst hrest
        refine rn [(950, some (.box [.d (.i (finV (scanK (scanP w n) (decide (p.op = 5)) (typesP w ⟨a, k⟩ p) p.kids 0 (nameP ⟨a, k⟩ p) (c + 1))).2)]))] (r2 rfl rfl) (.tup (.cons (.gld ?_) (.cons (.eqd ?_) .nil))) ⟨rfl, rfl⟩ (SubO.get ⟨.inr (by (show some (Res.box _) = some (Res.box _); rw [hg1.fin hl (by omega)]; done)), ⟨.inl rfl, trivial⟩⟩) (boxOK rfl)
        all_goals (first | (rw [hg1.none hl (by omega) (by assumption)]; first | done | rfl) | (rw [hg1.bad hl (by omega) (by assumption) (by assumption) (by assumption)]; first | done | rfl) | (rw [hg1.fin hl (by omega), if_neg (by rw [nodup_app hg2.1 (by assumption)]; simp)]; first | done | rfl) | (rw [hg1.fin hl (by omega), if_pos (by have hz := hg2.1; rw [List.append_nil] at hz; rw [← hz]; exact decide_eq_true hg2.2)]; first | done | rfl))
  ·have hopf : okP w ⟨a, k⟩ p = false := by simpa using hop
   have e : scanP w (n + 1) ⟨a, k⟩ p c = (none, c + 1) := by unfold scanP; rw [if_neg h60, if_neg hop]
   rw [e]
   rw [hopf] at hsh
   refine bd Tryz.f220 114 [] [2] fun w0 F0 own kept hk => ?_
   refine Walk.box (id := 3006) .none rfl rfl rfl rfl rfl rfl rfl ?_
   refine Walk.box (id := 3007) .none rfl rfl rfl rfl rfl rfl rfl ?_
   refine ev ?_
   refine ar ?_
   refine Walk.store ty3 .none rfl rfl rfl rfl rfl rfl (by simp) rfl ?_
   refine tv ?_
   refine CWp.regionJ ?_
   refine WRest.join 8 [(34, .d (.bool (false)))] [27, 28, 29, 30, 31, 32, 33] ?_ ?_
   ·
    refine ev ?_
    refine sq (fun h1 h1p h1s => ?_) fun h1 h1p h1s => ?_
    ·try simp only [Q] at h1p
     exact jnb rfl
    ·try simp only [Q] at h1p
     exact jnb rfl
   refine WRest.done ?_
   refine tv ?_
   refine sq (fun h2 h2p h2s => ?_) fun h2 h2p h2s => ?_
   ·try simp only [Q] at h2p
    exact absurd h2 (by simp) --stop
   ·try simp only [Q] at h2p
    refine Walk.call (cr := []) cal273 (hsh) rfl .none rfl rfl (LeL.refl _) trivial rfl rfl rfl ?_
    refine ev ?_
    refine sq (fun h3 h3p h3s => ?_) fun h3 h3p h3s => ?_
    ·try simp only [Q] at h3p
     refine rn [(950, some (.box [.d (.i (c + 1))]))] (r2 rfl rfl) (.tup (.cons (.nild ?_) (.cons (.eqd ?_) .nil))) ⟨rfl, rfl⟩ (SubO.get ⟨.inr (by rfl), ⟨.inl rfl, trivial⟩⟩) (boxOK rfl)
     all_goals (rfl)
    ·try simp only [Q] at h3p
     exact absurd h3 (by simp) --stop
theorem scan0 (w : List Data) (t : Ty) (p : Pat) : (scanP w 10 t p 0).1.isSome = isP w t p := by
 have h := (scanP_eq w 10 t p 0).1
 rw [h]
 unfold wantP isP
 rw [Int.zero_add]
 split
 ·rename_i hz; rw [hz]; rfl
 ·rename_i hz
  cases hc : (shapeP w 10 t p && (decide ((p.size : Int) ≤ 60) && linP w 10 t p)) with
  | true => exact absurd hc hz
  | false => rfl
theorem impl_patternVars_fn {w : List Data} (hw : WT w) {a k : Int} {p : Pat} (ht : TyIn w.length ⟨a, k⟩) (hok : p.ok) :
  FnD Tryz.prog 144 [.d (encDatas w), .agg [.d (.i a), .d (.i k)], .agg [.d (.i p.op), .d (.i p.ctor), .d (.i p.n), .d (.i p.m), .d (.i p.var), .d (encPats p.kids)]] [] (.tup [.d (encVts (someV (scanP w 10 ⟨a, k⟩ p 0).1)), .d (.bool (isP w ⟨a, k⟩ p))]) [] := by
 rw [← scan0]
 refine bd Tryz.f144 15 [] [] fun w0 F0 own kept hk => ?_
 refine Walk.box (id := 3004) .none rfl rfl rfl rfl rfl rfl rfl ?_
 refine Walk.box (id := 3005) .none rfl rfl rfl rfl rfl rfl rfl ?_
 refine ev ?_
 refine Walk.alloc (id := 950) tz3 rfl .none rfl rfl rfl rfl ?_
 refine Walk.store ty3 .none rfl rfl rfl rfl rfl rfl (by simp) rfl ?_
 refine tv ?_
 refine Walk.call (cr := []) cal220 (impl_patternScan_fn hw 10 (c := 0) (by omega) (by omega) ht hok (by omega) (by omega)) rfl .none rfl rfl (LeL.refl _) ⟨rfl, trivial⟩ rfl rfl rfl ?_
 refine ev ?_
 refine rn0 (r2 rfl rfl) (.tup (.cons (.eqd ?_) (.cons (.eqd ?_) .nil)))
 all_goals (rfl)
end Go.Proofs.YtdgknigklgnefaaGreat
namespace Go.Proofs.YtdgknigklgnefaaGreat
open Go
set_option linter.unusedSimpArgs false
set_option linter.unusedVariables false
set_option maxRecDepth 100000
set_option maxHeartbeats 2000000
def fitsT (a b : Ty) : Bool := decide (a.data = b.data) && (decide (b.index = 0) || decide (a.index = b.index))
def typesE (w : List Data) (funs : List Ft) (t : Ty) (e : Ex) : List Ty :=
 if e.op = 3 then (if e.n = 0 ∧ e.ctor ∈ vctors w t then argsOf w t e.ctor else [])
 else if e.op = 4 then [t, t]
 else if e.op = 5 then (if 0 ≤ e.n ∧ e.n < (funs.length : Int) ∧ e.ctor = 0 then [(nth funs e.n.toNat).arg] else [])
 else []
def varTy (vars : List Vt) (n : Int) : Ty := if 0 ≤ findV vars n then (nth vars (findV vars n).toNat).ty else ⟨0, 0⟩
def okE (w : List Data) (funs : List Ft) (vars : List Vt) (t : Ty) (e : Ex) : Bool :=
 if e.op = 1 then decide (t.data = -1 ∧ 0 ≤ e.n ∧ e.n ≤ 9 ∧ e.ctor = 0)
 else if e.op = 2 then decide (0 ≤ findV vars e.n) && (fitsT (varTy vars e.n) t && decide (e.ctor = 0))
 else if e.op = 3 then decide (e.n = 0 ∧ e.ctor ∈ vctors w t)
 else if e.op = 4 then decide (t.data = -1 ∧ e.n = 0 ∧ e.ctor = 0)
 else if e.op = 5 then decide (0 ≤ e.n ∧ e.n < (funs.length : Int) ∧ e.ctor = 0) && fitsT (nth funs e.n.toNat).res t
 else false
section
variable {w : List Data} {funs : List Ft} {vars : List Vt} {t : Ty} {e : Ex}
theorem ty_0 (h : e.op ≠ 3 ∧ e.op ≠ 4 ∧ e.op ≠ 5) : typesE w funs t e = [] := by unfold typesE; rw [if_neg h.1, if_neg h.2.1, if_neg h.2.2]
theorem ty_3 (h : e.op = 3) (h2 : e.n = 0) (h3 : e.ctor ∈ vctors w t) : typesE w funs t e = argsOf w t e.ctor := by unfold typesE; rw [if_pos h, if_pos ⟨h2, h3⟩]
theorem ty_3n (h : e.op = 3) (h2 : e.n ≠ 0) : typesE w funs t e = [] := by unfold typesE; rw [if_pos h, if_neg (fun hh => h2 hh.1)]
theorem ty_3m (h : e.op = 3) (h2 : e.ctor ∉ vctors w t) : typesE w funs t e = [] := by unfold typesE; rw [if_pos h, if_neg (fun hh => h2 hh.2)]
theorem ty_4 (h : e.op = 4) : typesE w funs t e = [t, t] := by unfold typesE; rw [if_neg (by omega), if_pos h]
theorem ty_5 (h : e.op = 5) (h2 : 0 ≤ e.n ∧ e.n < (funs.length : Int) ∧ e.ctor = 0) : typesE w funs t e = [(nth funs e.n.toNat).arg] := by unfold typesE; rw [if_neg (by omega), if_neg (by omega), if_pos h, if_pos h2]
theorem ty_5n (h : e.op = 5) (h2 : ¬ (0 ≤ e.n ∧ e.n < (funs.length : Int) ∧ e.ctor = 0)) : typesE w funs t e = [] := by unfold typesE; rw [if_neg (by omega), if_neg (by omega), if_pos h, if_neg h2]
theorem ok_1 (h : e.op = 1) : okE w funs vars t e = decide (t.data = -1 ∧ 0 ≤ e.n ∧ e.n ≤ 9 ∧ e.ctor = 0) := by unfold okE; rw [if_pos h]
theorem ok_2 (h : e.op = 2) : okE w funs vars t e = (decide (0 ≤ findV vars e.n) && (fitsT (varTy vars e.n) t && decide (e.ctor = 0))) := by unfold okE; rw [if_neg (by omega), if_pos h]
theorem ok_3 (h : e.op = 3) : okE w funs vars t e = decide (e.n = 0 ∧ e.ctor ∈ vctors w t) := by unfold okE; rw [if_neg (by omega), if_neg (by omega), if_pos h]
theorem ok_4 (h : e.op = 4) : okE w funs vars t e = decide (t.data = -1 ∧ e.n = 0 ∧ e.ctor = 0) := by unfold okE; rw [if_neg (by omega), if_neg (by omega), if_neg (by omega), if_pos h]
theorem ok_5 (h : e.op = 5) : okE w funs vars t e = (decide (0 ≤ e.n ∧ e.n < (funs.length : Int) ∧ e.ctor = 0) && fitsT (nth funs e.n.toNat).res t) := by unfold okE; rw [if_neg (by omega), if_neg (by omega), if_neg (by omega), if_neg (by omega), if_pos h]
theorem ok_0 (h : e.op ≠ 1 ∧ e.op ≠ 2 ∧ e.op ≠ 3 ∧ e.op ≠ 4 ∧ e.op ≠ 5) : okE w funs vars t e = false := by unfold okE; rw [if_neg h.1, if_neg h.2.1, if_neg h.2.2.1, if_neg h.2.2.2.1, if_neg h.2.2.2.2]
end
def nodeE (w : List Data) (funs : List Ft) (vars : List Vt) (t : Ty) (e : Ex) : Bool := okE w funs vars t e && decide ((typesE w funs t e).length = e.kids.length)
def fitsE (w : List Data) (funs : List Ft) (vars : List Vt) : Nat → Ty → Ex → Bool
 | 0, _, _ => false
 | n + 1, t, e => nodeE w funs vars t e && all2 (fitsE w funs vars n) (typesE w funs t e) e.kids
def scanG (g : Ty → Ex → Int → Bool × Int) : List Ty → List Ex → Int → Bool × Int
 | a :: r, b :: s, c => if (g a b c).1 then scanG g r s (g a b c).2 else (false, (g a b c).2)
 | _, _, c => (true, c)
def scanE (w : List Data) (funs : List Ft) (vars : List Vt) : Nat → Ty → Ex → Int → Bool × Int
 | 0, _, _, c => (false, c + 1)
 | n + 1, t, e, c => if 60 < c + 1 then (false, c + 1)
   else if nodeE w funs vars t e = true then scanG (scanE w funs vars n) (typesE w funs t e) e.kids (c + 1) else (false, c + 1)
theorem scanG_eq {w : List Data} {funs : List Ft} {vars : List Vt} {n : Nat} (ih : ∀ t e c, (scanE w funs vars n t e c).1 = (fitsE w funs vars n t e && decide (c + (e.size : Int) ≤ 60)) ∧ ((scanE w funs vars n t e c).1 = true → (scanE w funs vars n t e c).2 = c + e.size)) :
  ∀ (a : List Ty) (b : List Ex) (c : Int), a.length = b.length → c ≤ 60 → (scanG (scanE w funs vars n) a b c).1 = (all2 (fitsE w funs vars n) a b && decide (c + (Exs.size b : Int) ≤ 60)) ∧ ((scanG (scanE w funs vars n) a b c).1 = true → (scanG (scanE w funs vars n) a b c).2 = c + Exs.size b)
 | [], [], c, _, hc => by simp [scanG, all2, Exs.size, hc]
 | x :: r, y :: s, c, hl, hc => by
  obtain ⟨h1, h2⟩ := ih x y c
  simp only [scanG, all2, Exs.size]
  cases hh : (scanE w funs vars n x y c).1 with
  | true =>
   have h3 := h2 hh
   rw [hh] at h1
   have h4 := h1.symm
   simp only [Bool.and_eq_true, decide_eq_true_eq] at h4
   obtain ⟨h5, h6⟩ := scanG_eq ih r s (scanE w funs vars n x y c).2 (by simpa using hl) (by omega)
   simp only [if_true]
   rw [h5]
   refine ⟨?_, fun hx => ?_⟩
   ·rw [h4.1, h3, Bool.true_and]
    congr 1
    exact decide_eq_decide.2 (by push_cast; omega)
   ·rw [← h5] at hx
    rw [h6 hx, h3]; push_cast; omega
  | false =>
   rw [hh] at h1
   simp only [Bool.false_eq_true, if_false, false_implies, and_true]
   have h4 := h1.symm
   simp only [Bool.and_eq_false_imp, decide_eq_false_iff_not] at h4
   symm
   cases hf : fitsE w funs vars n x y with
   | false => simp
   | true =>
    have := h4 hf
    have h7 : ¬ (c + ((y.size + Exs.size s : Nat) : Int) ≤ 60) := by push_cast; omega
    simp only [Bool.and_eq_false_imp]
    intro _; exact decide_eq_false h7
 | [], _ :: _, _, hl, _ => by simp at hl
 | _ :: _, [], _, hl, _ => by simp at hl
theorem scanE_eq (w : List Data) (funs : List Ft) (vars : List Vt) : ∀ (n : Nat) (t : Ty) (e : Ex) (c : Int), (scanE w funs vars n t e c).1 = (fitsE w funs vars n t e && decide (c + (e.size : Int) ≤ 60)) ∧ ((scanE w funs vars n t e c).1 = true → (scanE w funs vars n t e c).2 = c + e.size)
 | 0, t, e, c => by simp [scanE, fitsE]
 | n + 1, t, e, c => by
  have hsz := Ex.size_eq e
  unfold scanE fitsE
  by_cases h1 : 60 < c + 1
  ·rw [if_pos h1]
   simp only [Bool.false_eq_true, false_implies, and_true]
   symm
   simp only [Bool.and_eq_false_imp, decide_eq_false_iff_not]
   intro _; omega
  ·rw [if_neg h1]
   by_cases h3 : nodeE w funs vars t e = true
   ·rw [if_pos h3, h3, Bool.true_and]
    have h4 : (typesE w funs t e).length = e.kids.length := by
     unfold nodeE at h3; rw [Bool.and_eq_true] at h3; exact of_decide_eq_true h3.2
    obtain ⟨h5, h6⟩ := scanG_eq (fun t e c => scanE_eq w funs vars n t e c) (typesE w funs t e) e.kids (c + 1) h4 (by omega)
    refine ⟨?_, fun hx => ?_⟩
    ·rw [h5]
     congr 1
     exact decide_eq_decide.2 (by omega)
    ·rw [h6 hx]; omega
   ·rw [if_neg h3]
    simp [h3]
def isE (w : List Data) (funs : List Ft) (vars : List Vt) (t : Ty) (e : Ex) : Bool := fitsE w funs vars 10 t e && decide ((e.size : Int) ≤ 60)
theorem scanE0 (w : List Data) (funs : List Ft) (vars : List Vt) (t : Ty) (e : Ex) : (scanE w funs vars 10 t e 0).1 = isE w funs vars t e := by
 rw [(scanE_eq w funs vars 10 t e 0).1, Int.zero_add]; rfl
mutual
def cntE (m : Int) : Ex → Int
 | .mk _ _ _ ks => cntEL m 1 ks
def cntEL (m n : Int) : List Ex → Int
 | [] => n
 | k :: r => if n ≤ m then cntEL m (n + cntE (m - n) k) r else n
end
theorem cntE_eq (m : Int) (v : Ex) : cntE m v = cntEL m 1 v.kids := by cases v; rfl
theorem cntEL_stop {m n : Int} {l : List Ex} (h : ¬ n ≤ m) : cntEL m n l = n := by cases l <;> simp [cntEL, h]
mutual
theorem cntE_le : ∀ (v : Ex) (m : Int), 1 ≤ cntE m v ∧ cntE m v ≤ v.size
 | .mk _ _ _ ks, m => by
  have := cntEL_le ks m 1 (by omega)
  simp only [cntE, Ex.size]; push_cast; omega
theorem cntEL_le : ∀ (l : List Ex) (m n : Int), 1 ≤ n → 1 ≤ cntEL m n l ∧ cntEL m n l ≤ n + Exs.size l
 | [], m, n, h => by simp [cntEL, Exs.size]; omega
 | k :: r, m, n, h => by
  have h1 := cntE_le k (m - n)
  have h2 := cntEL_le r m (n + cntE (m - n) k) (by omega)
  simp only [cntEL, Exs.size]
  split
  ·push_cast; omega
  ·push_cast; omega
end
mutual
theorem cntE_iff : ∀ (v : Ex) (m : Int), (cntE m v ≤ m ↔ (v.size : Int) ≤ m) ∧ (cntE m v ≤ m → cntE m v = v.size)
 | .mk _ _ _ ks, m => by
  have := cntEL_iff ks m 1
  simp only [cntE, Ex.size]; push_cast; exact this
theorem cntEL_iff : ∀ (l : List Ex) (m n : Int), (cntEL m n l ≤ m ↔ n + (Exs.size l : Int) ≤ m) ∧ (cntEL m n l ≤ m → cntEL m n l = n + Exs.size l)
 | [], m, n => by simp [cntEL, Exs.size]
 | k :: r, m, n => by
  have h1 := cntE_iff k (m - n)
  have h2 := cntEL_iff r m (n + cntE (m - n) k)
  have h3 := cntEL_le r m (n + cntE (m - n) k)
  have h4 := cntE_le k (m - n)
  simp only [cntEL, Exs.size]
  push_cast
  by_cases hn : n ≤ m
  ·rw [if_pos hn]
   by_cases h5 : cntE (m - n) k ≤ m - n
   ·have h6 := h1.2 h5
    rw [h6] at h2 ⊢
    constructor
    ·rw [h2.1]; constructor <;> intro h <;> omega
    ·intro h; rw [h2.2 h]; omega
   ·have h7 : ¬ (k.size : Int) ≤ m - n := fun h => h5 (h1.1.2 h)
    have h8 : ¬ n + cntE (m - n) k ≤ m := by omega
    rw [cntEL_stop h8]
    constructor
    ·constructor <;> intro h <;> omega
    ·intro h; omega
  ·rw [if_neg hn]
   constructor
   ·constructor <;> intro h <;> omega
   ·intro h; omega
end
theorem enth_size {l : List Ex} {i : Nat} (h : i < l.length) : (nth l i).size ≤ Exs.size l := Exs.size_mem (nth_mem h)
theorem esize_drop {l : List Ex} {i : Nat} (h : i < l.length) : Exs.size (l.drop i) = (nth l i).size + Exs.size (l.drop (i + 1)) := by
 rw [drop_nth h]; rfl
def TyOk (n : Nat) (t : Ty) : Prop := TyIn n t ∧ (t.data = -1 → t.index = 0)
def ftsOk (w : List Data) (l : List Ft) : Bool := decide ((l.length : Int) ≤ 4) && !l.any fun f => !(typeOk w.length f.arg && typeOk w.length f.res)
def gdOk (g : Gd) (vars : List Vt) : Bool := if g.op = 0 then decide (g.var = 0 ∧ g.n = 0) else decide (1 ≤ g.op ∧ g.op ≤ 2 ∧ 0 ≤ g.n ∧ g.n ≤ 9) && decide ((⟨g.var, ⟨-1, 0⟩⟩ : Vt) ∈ vars)
def varsOf (w : List Data) (t : Ty) (p : Pat) : List Vt := someV (scanP w 10 t p 0).1
def clOk (w : List Data) (t : Ty) (c : Cl) : Bool := isP w t c.pat && gdOk c.g (varsOf w t c.pat)
def clsValid (w : List Data) (t : Ty) (l : List Cl) : Bool := typeValid w t && (decide ((l.length : Int) ≤ 8) && !l.any fun c => !clOk w t c)
def bodiesOk (w : List Data) (funs : List Ft) (f : Fu) : Bool := all2 (fun c e => isE w funs (varsOf w f.ty.arg c.pat) f.ty.res e) f.cls f.bodies
def fuValid (w : List Data) (funs : List Ft) (f : Fu) : Bool := clsValid w f.ty.arg f.cls && bodiesOk w funs f
def fusValid (w : List Data) (l : List Fu) : Bool := worldValid w && (ftsOk w (l.map Fu.ty) && l.all (fuValid w (l.map Fu.ty)))
theorem typesE_in {w : List Data} (hw : WT w) {funs : List Ft} (hf : ∀ f ∈ funs, TyIn w.length f.arg) {t : Ty} (ht : TyIn w.length t) {e : Ex} : ∀ u ∈ typesE w funs t e, TyIn w.length u := by
 intro u hu
 unfold typesE at hu
 split at hu
 ·split at hu
  ·rename_i h
   obtain ⟨d, h1, h2, h3⟩ := vctors_data (a := t.data) (k := t.index) ht h.2
   have : t = ⟨(d : Int), t.index⟩ := by rw [← h1]
   rw [this] at hu
   exact argsOf_in hw h2 h3 hu
  ·simp at hu
 ·split at hu
  ·simp only [List.mem_cons, List.not_mem_nil, or_false, or_self] at hu
   rw [hu]; exact ht
  ·split at hu
   ·split at hu
    ·rename_i h
     simp only [List.mem_cons, List.not_mem_nil, or_false] at hu
     rw [hu]; exact hf _ (nth_mem (by omega))
    ·simp at hu
   ·simp at hu
theorem args_sm {w : List Data} (hw : WT w) {t : Ty} {c : Int} (ht : TyIn w.length t) (hc : c ∈ vctors w t) : (argsOf w t c).length ≤ 1000000000000 := by
 obtain ⟨d, h1, h2, j, h3, h4⟩ := vctors_data (a := t.data) (k := t.index) ht hc
 have := (hw.small.ctor _ (nth_mem h2) _ (nth_mem h4)).2
 unfold argsOf
 rw [h1, h3]
 simpa using this
theorem typesE_len {w : List Data} (hw : WT w) {funs : List Ft} {t : Ty} (ht : TyIn w.length t) {e : Ex} : (typesE w funs t e).length ≤ 1000000000000 := by
 unfold typesE
 split
 ·split
  ·rename_i h; exact args_sm hw ht h.2
  ·simp
 ·split
  ·simp
  ·split
   ·split <;> simp
   ·simp
theorem impl_typeOfVar_1_fn {x : Vt} {n : Int} : FnD Tryz.prog 306 [.agg [.d (.i x.var), .d (.i x.ty.data), .d (.i x.ty.index)], .ref 3003 0] [(3003, some (.box [.d (.i n)]))] (.d (.bool (decide (x.var = n)))) [] := by
 refine bd Tryz.f306 8 [] [] fun w0 F0 own kept hk => ?_
 refine Walk.box (id := 3001) .none rfl rfl rfl rfl rfl rfl rfl ?_
 refine ev ?_
 refine rn [] (r1 rfl) (.eqd ?_) ⟨rfl, rfl⟩ (SubH.get ⟨rfl, trivial⟩) (fun _ h => h)
 all_goals (rfl)
theorem impl_typeOfVar_fn {wd fd : D} {vars : List Vt} {n : Int} (hv : vars.length ≤ 1000000000000) :
  FnD Tryz.prog 275 [.agg [.d wd, .d fd, .d (encVts vars)], .d (.i n)] [] (.tup [.agg [.d (.i (varTy vars n).data), .d (.i (varTy vars n).index)], .d (.bool (decide (0 ≤ findV vars n)))]) [] := by
 have hlt := fun h => findV_lt (l := vars) (n := n) h
 refine bd Tryz.f275 20 [] [] fun w0 F0 own kept hk => ?_
 refine Walk.box (id := 3002) .none rfl rfl rfl rfl rfl rfl rfl ?_
 refine Walk.box (id := 3003) .none rfl rfl rfl rfl rfl rfl rfl ?_
 refine Walk.alloc (id := 3004) tz42 rfl .none rfl rfl rfl rfl ?_
 refine ev ?_
 refine Walk.closure (xs := [_]) rfl .none rfl rfl ?_
 refine Walk.call (cr := []) cal305 (slices_IndexFunc_Vt_fn (p := fun v => decide (v.var = n)) hv cal306 (fun t _ => impl_typeOfVar_1_fn) ⟨rfl, trivial⟩ rfl rfl) rfl .none rfl rfl (LeL.refl _) ⟨rfl, trivial⟩ rfl rfl rfl ?_
 refine ev ?_
 refine sq (fun h1 h1p h1s => ?_) fun h1 h1p h1s => ?_
 ·try simp only [Q] at h1p
  refine Walk.build st42 (ks := []) (xs := []) rfl rfl .none rfl rfl rfl ?_
  refine Walk.store ty42 .none rfl rfl rfl rfl rfl rfl (by simp) rfl ?_
  refine ev ?_
  refine rn0 (.cons (.cellA ty42 rfl rfl rfl) (.cons (.tmp rfl) .nil)) (.tup (.cons (.agg (.cons (.eqd ?_) (.cons (.eqd ?_) .nil))) (.cons (.eqd ?_) .nil)))
  all_goals (first | (unfold varTy; rw [if_neg (by show ¬ 0 ≤ idxF _ _ _; omega)]; done) | (unfold varTy; rw [if_pos (by show 0 ≤ idxF _ _ _; omega)]; done) | (refine congrArg D.bool (decide_eq_false ?_).symm; show ¬ 0 ≤ idxF _ _ _; omega) | (refine congrArg D.bool (decide_eq_true ?_).symm; show 0 ≤ idxF _ _ _; omega))
 ·try simp only [Q] at h1p
  refine Walk.idx (i := (findV vars n).toNat) sl124 .none rfl rfl rfl (by have := hlt (by show 0 ≤ idxF _ _ _; omega); exact this.2.symm) (at_nth (i := (findV vars n).toNat) (by have := hlt (by show 0 ≤ idxF _ _ _; omega); omega)) rfl ?_
  refine ev ?_
  refine Walk.store ty42 .none rfl rfl rfl rfl rfl rfl (by simp) rfl ?_
  refine ev ?_
  refine rn0 (.cons (.cellA ty42 rfl rfl rfl) (.cons (.tmp rfl) .nil)) (.tup (.cons (.agg (.cons (.eqd ?_) (.cons (.eqd ?_) .nil))) (.cons (.eqd ?_) .nil)))
  all_goals (first | (unfold varTy; rw [if_neg (by show ¬ 0 ≤ idxF _ _ _; omega)]; done) | (unfold varTy; rw [if_pos (by show 0 ≤ idxF _ _ _; omega)]; done) | (refine congrArg D.bool (decide_eq_false ?_).symm; show ¬ 0 ≤ idxF _ _ _; omega) | (refine congrArg D.bool (decide_eq_true ?_).symm; show 0 ≤ idxF _ _ _; omega))
theorem impl_fitsT_fn {a b : Ty} : FnD Tryz.prog 108 [.agg [.d (.i a.data), .d (.i a.index)], .agg [.d (.i b.data), .d (.i b.index)]] [] (.d (.bool (fitsT a b))) [] := by
 refine bd Tryz.f108 22 [] [] fun w0 F0 own kept hk => ?_
 refine Walk.box (id := 3002) .none rfl rfl rfl rfl rfl rfl rfl ?_
 refine Walk.box (id := 3003) .none rfl rfl rfl rfl rfl rfl rfl ?_
 refine ev ?_
 refine sq (fun h1 h1p h1s => ?_) fun h1 h1p h1s => ?_
 ·try simp only [Q] at h1p
  refine sq (fun h2 h2p h2s => ?_) fun h2 h2p h2s => ?_
  ·try simp only [Q] at h2p
   refine rn0 (r1 rfl) (.eqd ?_)
   all_goals (refine congrArg D.bool ?_; unfold fitsT; simp_all)
  ·try simp only [Q] at h2p
   refine rn0 (r1 rfl) (.eqd ?_)
   all_goals (refine congrArg D.bool ?_; unfold fitsT; simp_all)
 ·try simp only [Q] at h1p
  refine rn0 (r1 rfl) (.eqd ?_)
  all_goals (refine congrArg D.bool ?_; unfold fitsT; simp_all)
theorem impl_kids_fn {w : List Data} {funs : List Ft} {vars : List Vt} (hw : WT w) (hfl : funs.length ≤ 1000000000000) (hvl : vars.length ≤ 1000000000000) {t : Ty} (ht : TyIn w.length t) {e : Ex} :
  FnD Tryz.prog 221 [.agg [.d (encDatas w), .d (encFts funs), .d (encVts vars)], .agg [.d (.i t.data), .d (.i t.index)], .agg [.d (.i e.op), .d (.i e.n), .d (.i e.ctor), .d (encExs e.kids)]] [] (.tup [.d (encTys (typesE w funs t e)), .d (.bool (okE w funs vars t e))]) [] := by
 have ht' : TyIn w.length ⟨t.data, t.index⟩ := ht
 have hcl := vctors_len hw ht'
 have htd : t.data = -1 → e.ctor ∉ vctors w t := fun h => by unfold vctors; rw [if_pos h]; simp
 by_cases hmem : e.ctor ∈ vctors w t
 ·have hmem' : e.ctor ∈ vctors w ⟨t.data, t.index⟩ := hmem
  have hcon := slices_Contains_int_fn (v := e.ctor) hcl
  rw [decide_eq_true hmem'] at hcon
  refine bd Tryz.f221 118 [] [] fun w0 F0 own kept hk => ?_
  refine Walk.box (id := 3003) .none rfl rfl rfl rfl rfl rfl rfl ?_
  refine Walk.box (id := 3004) .none rfl rfl rfl rfl rfl rfl rfl ?_
  refine Walk.box (id := 3005) .none rfl rfl rfl rfl rfl rfl rfl ?_
  refine ev ?_
  refine sq (fun h1 h1p h1s => ?_) fun h1 h1p h1s => ?_
  ·try simp only [Q, within] at h1p
   refine sq (fun h2 h2p h2s => ?_) fun h2 h2p h2s => ?_
   ·try simp only [Q, within] at h2p
    refine Walk.call (cr := []) cal87 (impl_within_fn) rfl (.some rfl rfl h2) rfl rfl (LeL.refl _) trivial rfl rfl rfl ?_
    refine evd [] [(17, true)] ?_ ⟨⟨_, rfl, h2⟩, trivial⟩
    refine sq (fun h3 h3p h3s => ?_) fun h3 h3p h3s => ?_
    ·try simp only [Q, within] at h3p
     refine dr ?_
     refine rn0 (r2 rfl rfl) (.tup (.cons (.nild ?_) (.cons (.eqd ?_) .nil)))
     all_goals (first | rfl | (rw [ty_0 (by omega)]; all_goals rfl) | (rw [ty_3n (by omega) (by omega)]; all_goals rfl) | (rw [ty_3 (by omega) (by omega) hmem]; all_goals rfl) | (rw [ty_4 (by omega)]; all_goals rfl) | (rw [ty_5n (by omega) (by omega)]; all_goals rfl) | (rw [ty_5 (by omega) (by omega)]; all_goals rfl) | (refine congrArg D.bool ?_; rw [ok_1 (by omega)]; simp_all; done) | (refine congrArg D.bool ?_; rw [ok_1 (by omega)]; simp_all [within]; omega) | (rw [ty_5n (by omega) (by intro hh; simp_all [within]; omega)]; all_goals rfl) | (refine congrArg D.bool ?_; rw [ok_5 (by omega), decide_eq_false (by intro hh; simp_all [within]; omega), Bool.false_and]; done) | (refine congrArg D.bool ?_; rw [ok_2 (by omega), decide_eq_false (by omega), Bool.false_and]; done) | (refine congrArg D.bool ?_; rw [ok_2 (by omega)]; simp_all; done) | (refine congrArg D.bool ?_; rw [ok_3 (by omega)]; simp_all; done) | (refine congrArg D.bool ?_; rw [ok_4 (by omega)]; simp_all; done) | (refine congrArg D.bool ?_; rw [ok_5 (by omega)]; first | (rw [decide_eq_true (by omega), Bool.true_and]; done) | (rw [decide_eq_false (by omega), Bool.false_and]; done)) | (refine congrArg D.bool ?_; rw [ok_0 (by omega)]; done) | (exfalso; simp_all; done))
    ·try simp only [Q, within] at h3p
     refine dr ?_
     refine rn0 (r2 rfl rfl) (.tup (.cons (.nild ?_) (.cons (.eqd ?_) .nil)))
     all_goals (first | rfl | (rw [ty_0 (by omega)]; all_goals rfl) | (rw [ty_3n (by omega) (by omega)]; all_goals rfl) | (rw [ty_3 (by omega) (by omega) hmem]; all_goals rfl) | (rw [ty_4 (by omega)]; all_goals rfl) | (rw [ty_5n (by omega) (by omega)]; all_goals rfl) | (rw [ty_5 (by omega) (by omega)]; all_goals rfl) | (refine congrArg D.bool ?_; rw [ok_1 (by omega)]; simp_all; done) | (refine congrArg D.bool ?_; rw [ok_1 (by omega)]; simp_all [within]; omega) | (rw [ty_5n (by omega) (by intro hh; simp_all [within]; omega)]; all_goals rfl) | (refine congrArg D.bool ?_; rw [ok_5 (by omega), decide_eq_false (by intro hh; simp_all [within]; omega), Bool.false_and]; done) | (refine congrArg D.bool ?_; rw [ok_2 (by omega), decide_eq_false (by omega), Bool.false_and]; done) | (refine congrArg D.bool ?_; rw [ok_2 (by omega)]; simp_all; done) | (refine congrArg D.bool ?_; rw [ok_3 (by omega)]; simp_all; done) | (refine congrArg D.bool ?_; rw [ok_4 (by omega)]; simp_all; done) | (refine congrArg D.bool ?_; rw [ok_5 (by omega)]; first | (rw [decide_eq_true (by omega), Bool.true_and]; done) | (rw [decide_eq_false (by omega), Bool.false_and]; done)) | (refine congrArg D.bool ?_; rw [ok_0 (by omega)]; done) | (exfalso; simp_all; done))
   ·try simp only [Q, within] at h2p
    refine sqF ?_
    refine dr ?_
    refine rn0 (r2 rfl rfl) (.tup (.cons (.nild ?_) (.cons (.eqd ?_) .nil)))
    all_goals (first | rfl | (rw [ty_0 (by omega)]; all_goals rfl) | (rw [ty_3n (by omega) (by omega)]; all_goals rfl) | (rw [ty_3 (by omega) (by omega) hmem]; all_goals rfl) | (rw [ty_4 (by omega)]; all_goals rfl) | (rw [ty_5n (by omega) (by omega)]; all_goals rfl) | (rw [ty_5 (by omega) (by omega)]; all_goals rfl) | (refine congrArg D.bool ?_; rw [ok_1 (by omega)]; simp_all; done) | (refine congrArg D.bool ?_; rw [ok_1 (by omega)]; simp_all [within]; omega) | (rw [ty_5n (by omega) (by intro hh; simp_all [within]; omega)]; all_goals rfl) | (refine congrArg D.bool ?_; rw [ok_5 (by omega), decide_eq_false (by intro hh; simp_all [within]; omega), Bool.false_and]; done) | (refine congrArg D.bool ?_; rw [ok_2 (by omega), decide_eq_false (by omega), Bool.false_and]; done) | (refine congrArg D.bool ?_; rw [ok_2 (by omega)]; simp_all; done) | (refine congrArg D.bool ?_; rw [ok_3 (by omega)]; simp_all; done) | (refine congrArg D.bool ?_; rw [ok_4 (by omega)]; simp_all; done) | (refine congrArg D.bool ?_; rw [ok_5 (by omega)]; first | (rw [decide_eq_true (by omega), Bool.true_and]; done) | (rw [decide_eq_false (by omega), Bool.false_and]; done)) | (refine congrArg D.bool ?_; rw [ok_0 (by omega)]; done) | (exfalso; simp_all; done))
  ·try simp only [Q, within] at h1p
   refine sq (fun h4 h4p h4s => ?_) fun h4 h4p h4s => ?_
   ·try simp only [Q, within] at h4p
    refine Walk.call (cr := []) cal275 (impl_typeOfVar_fn hvl) rfl .none rfl rfl (LeL.refl _) trivial rfl rfl rfl ?_
    refine ev ?_
    refine Walk.alloc (id := 3008) tz42 rfl .none rfl rfl rfl rfl ?_
    refine Walk.store ty42 .none rfl rfl rfl rfl rfl rfl (by simp) rfl ?_
    refine ev ?_
    refine sq (fun h5 h5p h5s => ?_) fun h5 h5p h5s => ?_
    ·try simp only [Q, within] at h5p
     refine Walk.call (cr := []) cal108 (impl_fitsT_fn (a := varTy vars e.n) (b := t)) rfl (.some rfl rfl h5) rfl rfl (LeL.refl _) trivial rfl rfl rfl ?_
     refine evd [] [(37, true)] ?_ ⟨⟨_, rfl, h5⟩, trivial⟩
     refine sq (fun h6 h6p h6s => ?_) fun h6 h6p h6s => ?_
     ·try simp only [Q, within] at h6p
      refine dr ?_
      refine rn0 (r2 rfl rfl) (.tup (.cons (.nild ?_) (.cons (.eqd ?_) .nil)))
      all_goals (first | rfl | (rw [ty_0 (by omega)]; all_goals rfl) | (rw [ty_3n (by omega) (by omega)]; all_goals rfl) | (rw [ty_3 (by omega) (by omega) hmem]; all_goals rfl) | (rw [ty_4 (by omega)]; all_goals rfl) | (rw [ty_5n (by omega) (by omega)]; all_goals rfl) | (rw [ty_5 (by omega) (by omega)]; all_goals rfl) | (refine congrArg D.bool ?_; rw [ok_1 (by omega)]; simp_all; done) | (refine congrArg D.bool ?_; rw [ok_1 (by omega)]; simp_all [within]; omega) | (rw [ty_5n (by omega) (by intro hh; simp_all [within]; omega)]; all_goals rfl) | (refine congrArg D.bool ?_; rw [ok_5 (by omega), decide_eq_false (by intro hh; simp_all [within]; omega), Bool.false_and]; done) | (refine congrArg D.bool ?_; rw [ok_2 (by omega), decide_eq_false (by omega), Bool.false_and]; done) | (refine congrArg D.bool ?_; rw [ok_2 (by omega)]; simp_all; done) | (refine congrArg D.bool ?_; rw [ok_3 (by omega)]; simp_all; done) | (refine congrArg D.bool ?_; rw [ok_4 (by omega)]; simp_all; done) | (refine congrArg D.bool ?_; rw [ok_5 (by omega)]; first | (rw [decide_eq_true (by omega), Bool.true_and]; done) | (rw [decide_eq_false (by omega), Bool.false_and]; done)) | (refine congrArg D.bool ?_; rw [ok_0 (by omega)]; done) | (exfalso; simp_all; done))
     ·try simp only [Q, within] at h6p
      refine dr ?_
      refine rn0 (r2 rfl rfl) (.tup (.cons (.nild ?_) (.cons (.eqd ?_) .nil)))
      all_goals (first | rfl | (rw [ty_0 (by omega)]; all_goals rfl) | (rw [ty_3n (by omega) (by omega)]; all_goals rfl) | (rw [ty_3 (by omega) (by omega) hmem]; all_goals rfl) | (rw [ty_4 (by omega)]; all_goals rfl) | (rw [ty_5n (by omega) (by omega)]; all_goals rfl) | (rw [ty_5 (by omega) (by omega)]; all_goals rfl) | (refine congrArg D.bool ?_; rw [ok_1 (by omega)]; simp_all; done) | (refine congrArg D.bool ?_; rw [ok_1 (by omega)]; simp_all [within]; omega) | (rw [ty_5n (by omega) (by intro hh; simp_all [within]; omega)]; all_goals rfl) | (refine congrArg D.bool ?_; rw [ok_5 (by omega), decide_eq_false (by intro hh; simp_all [within]; omega), Bool.false_and]; done) | (refine congrArg D.bool ?_; rw [ok_2 (by omega), decide_eq_false (by omega), Bool.false_and]; done) | (refine congrArg D.bool ?_; rw [ok_2 (by omega)]; simp_all; done) | (refine congrArg D.bool ?_; rw [ok_3 (by omega)]; simp_all; done) | (refine congrArg D.bool ?_; rw [ok_4 (by omega)]; simp_all; done) | (refine congrArg D.bool ?_; rw [ok_5 (by omega)]; first | (rw [decide_eq_true (by omega), Bool.true_and]; done) | (rw [decide_eq_false (by omega), Bool.false_and]; done)) | (refine congrArg D.bool ?_; rw [ok_0 (by omega)]; done) | (exfalso; simp_all; done))
    ·try simp only [Q, within] at h5p
     refine sqF ?_
     refine dr ?_
     refine rn0 (r2 rfl rfl) (.tup (.cons (.nild ?_) (.cons (.eqd ?_) .nil)))
     all_goals (first | rfl | (rw [ty_0 (by omega)]; all_goals rfl) | (rw [ty_3n (by omega) (by omega)]; all_goals rfl) | (rw [ty_3 (by omega) (by omega) hmem]; all_goals rfl) | (rw [ty_4 (by omega)]; all_goals rfl) | (rw [ty_5n (by omega) (by omega)]; all_goals rfl) | (rw [ty_5 (by omega) (by omega)]; all_goals rfl) | (refine congrArg D.bool ?_; rw [ok_1 (by omega)]; simp_all; done) | (refine congrArg D.bool ?_; rw [ok_1 (by omega)]; simp_all [within]; omega) | (rw [ty_5n (by omega) (by intro hh; simp_all [within]; omega)]; all_goals rfl) | (refine congrArg D.bool ?_; rw [ok_5 (by omega), decide_eq_false (by intro hh; simp_all [within]; omega), Bool.false_and]; done) | (refine congrArg D.bool ?_; rw [ok_2 (by omega), decide_eq_false (by omega), Bool.false_and]; done) | (refine congrArg D.bool ?_; rw [ok_2 (by omega)]; simp_all; done) | (refine congrArg D.bool ?_; rw [ok_3 (by omega)]; simp_all; done) | (refine congrArg D.bool ?_; rw [ok_4 (by omega)]; simp_all; done) | (refine congrArg D.bool ?_; rw [ok_5 (by omega)]; first | (rw [decide_eq_true (by omega), Bool.true_and]; done) | (rw [decide_eq_false (by omega), Bool.false_and]; done)) | (refine congrArg D.bool ?_; rw [ok_0 (by omega)]; done) | (exfalso; simp_all; done))
   ·try simp only [Q, within] at h4p
    refine sq (fun h7 h7p h7s => ?_) fun h7 h7p h7s => ?_
    ·try simp only [Q, within] at h7p
     refine sq (fun h8 h8p h8s => ?_) fun h8 h8p h8s => ?_
     ·try simp only [Q, within] at h8p
      refine dr ?_
      refine sqT ?_
      refine rn0 (r2 rfl rfl) (.tup (.cons (.nild ?_) (.cons (.eqd ?_) .nil)))
      all_goals (first | rfl | (rw [ty_0 (by omega)]; all_goals rfl) | (rw [ty_3n (by omega) (by omega)]; all_goals rfl) | (rw [ty_3 (by omega) (by omega) hmem]; all_goals rfl) | (rw [ty_4 (by omega)]; all_goals rfl) | (rw [ty_5n (by omega) (by omega)]; all_goals rfl) | (rw [ty_5 (by omega) (by omega)]; all_goals rfl) | (refine congrArg D.bool ?_; rw [ok_1 (by omega)]; simp_all; done) | (refine congrArg D.bool ?_; rw [ok_1 (by omega)]; simp_all [within]; omega) | (rw [ty_5n (by omega) (by intro hh; simp_all [within]; omega)]; all_goals rfl) | (refine congrArg D.bool ?_; rw [ok_5 (by omega), decide_eq_false (by intro hh; simp_all [within]; omega), Bool.false_and]; done) | (refine congrArg D.bool ?_; rw [ok_2 (by omega), decide_eq_false (by omega), Bool.false_and]; done) | (refine congrArg D.bool ?_; rw [ok_2 (by omega)]; simp_all; done) | (refine congrArg D.bool ?_; rw [ok_3 (by omega)]; simp_all; done) | (refine congrArg D.bool ?_; rw [ok_4 (by omega)]; simp_all; done) | (refine congrArg D.bool ?_; rw [ok_5 (by omega)]; first | (rw [decide_eq_true (by omega), Bool.true_and]; done) | (rw [decide_eq_false (by omega), Bool.false_and]; done)) | (refine congrArg D.bool ?_; rw [ok_0 (by omega)]; done) | (exfalso; simp_all; done))
     ·try simp only [Q, within] at h8p
      refine Walk.call (cr := []) cal170 (impl_ctorsOf_v hw ht') rfl (.some rfl rfl h8) rfl rfl (LeL.refl _) trivial rfl rfl rfl ?_
      refine evd [] [(52, false)] ?_ ⟨⟨_, rfl, h8⟩, trivial⟩
      refine Walk.call (cr := []) cal169 (hcon) rfl (.some rfl rfl h8) rfl rfl (LeL.refl _) trivial rfl rfl rfl ?_
      refine evd [] [(52, false)] ?_ ⟨⟨_, rfl, h8⟩, trivial⟩
      refine dr ?_
      refine sq (fun h10 h10p h10s => ?_) fun h10 h10p h10s => ?_
      ·try simp only [Q, within] at h10p
       refine rn0 (r2 rfl rfl) (.tup (.cons (.nild ?_) (.cons (.eqd ?_) .nil)))
       all_goals (first | rfl | (rw [ty_0 (by omega)]; all_goals rfl) | (rw [ty_3n (by omega) (by omega)]; all_goals rfl) | (rw [ty_3 (by omega) (by omega) hmem]; all_goals rfl) | (rw [ty_4 (by omega)]; all_goals rfl) | (rw [ty_5n (by omega) (by omega)]; all_goals rfl) | (rw [ty_5 (by omega) (by omega)]; all_goals rfl) | (refine congrArg D.bool ?_; rw [ok_1 (by omega)]; simp_all; done) | (refine congrArg D.bool ?_; rw [ok_1 (by omega)]; simp_all [within]; omega) | (rw [ty_5n (by omega) (by intro hh; simp_all [within]; omega)]; all_goals rfl) | (refine congrArg D.bool ?_; rw [ok_5 (by omega), decide_eq_false (by intro hh; simp_all [within]; omega), Bool.false_and]; done) | (refine congrArg D.bool ?_; rw [ok_2 (by omega), decide_eq_false (by omega), Bool.false_and]; done) | (refine congrArg D.bool ?_; rw [ok_2 (by omega)]; simp_all; done) | (refine congrArg D.bool ?_; rw [ok_3 (by omega)]; simp_all; done) | (refine congrArg D.bool ?_; rw [ok_4 (by omega)]; simp_all; done) | (refine congrArg D.bool ?_; rw [ok_5 (by omega)]; first | (rw [decide_eq_true (by omega), Bool.true_and]; done) | (rw [decide_eq_false (by omega), Bool.false_and]; done)) | (refine congrArg D.bool ?_; rw [ok_0 (by omega)]; done) | (exfalso; simp_all; done))
      ·try simp only [Q, within] at h10p
       refine Walk.call (cr := []) cal171 (impl_argTypes_v hw ht' hmem') rfl .none rfl rfl (LeL.refl _) trivial rfl rfl rfl ?_
       refine ev ?_
       refine rn0 (r2 rfl rfl) (.tup (.cons (.eqd ?_) (.cons (.eqd ?_) .nil)))
       all_goals (first | rfl | (rw [ty_0 (by omega)]; all_goals rfl) | (rw [ty_3n (by omega) (by omega)]; all_goals rfl) | (rw [ty_3 (by omega) (by omega) hmem]; all_goals rfl) | (rw [ty_4 (by omega)]; all_goals rfl) | (rw [ty_5n (by omega) (by omega)]; all_goals rfl) | (rw [ty_5 (by omega) (by omega)]; all_goals rfl) | (refine congrArg D.bool ?_; rw [ok_1 (by omega)]; simp_all; done) | (refine congrArg D.bool ?_; rw [ok_1 (by omega)]; simp_all [within]; omega) | (rw [ty_5n (by omega) (by intro hh; simp_all [within]; omega)]; all_goals rfl) | (refine congrArg D.bool ?_; rw [ok_5 (by omega), decide_eq_false (by intro hh; simp_all [within]; omega), Bool.false_and]; done) | (refine congrArg D.bool ?_; rw [ok_2 (by omega), decide_eq_false (by omega), Bool.false_and]; done) | (refine congrArg D.bool ?_; rw [ok_2 (by omega)]; simp_all; done) | (refine congrArg D.bool ?_; rw [ok_3 (by omega)]; simp_all; done) | (refine congrArg D.bool ?_; rw [ok_4 (by omega)]; simp_all; done) | (refine congrArg D.bool ?_; rw [ok_5 (by omega)]; first | (rw [decide_eq_true (by omega), Bool.true_and]; done) | (rw [decide_eq_false (by omega), Bool.false_and]; done)) | (refine congrArg D.bool ?_; rw [ok_0 (by omega)]; done) | (exfalso; simp_all; done))
    ·try simp only [Q, within] at h7p
     refine sq (fun h11 h11p h11s => ?_) fun h11 h11p h11s => ?_
     ·try simp only [Q, within] at h11p
      refine Walk.sliceLit sl182 tz42 rfl (by decide) (ks := [0, 1]) (xs := [_, _]) rfl rfl (by decide) (by decide) .none rfl rfl rfl rfl ?_
      refine evd [] [] ?_
      refine sq (fun h12 h12p h12s => ?_) fun h12 h12p h12s => ?_
      ·try simp only [Q, within] at h12p
       refine sq (fun h13 h13p h13s => ?_) fun h13 h13p h13s => ?_
       ·try simp only [Q, within] at h13p
        refine dr ?_
        refine rn0 (r2 rfl rfl) (.tup (.cons (.eqd ?_) (.cons (.eqd ?_) .nil)))
        all_goals (first | rfl | (rw [ty_0 (by omega)]; all_goals rfl) | (rw [ty_3n (by omega) (by omega)]; all_goals rfl) | (rw [ty_3 (by omega) (by omega) hmem]; all_goals rfl) | (rw [ty_4 (by omega)]; all_goals rfl) | (rw [ty_5n (by omega) (by omega)]; all_goals rfl) | (rw [ty_5 (by omega) (by omega)]; all_goals rfl) | (refine congrArg D.bool ?_; rw [ok_1 (by omega)]; simp_all; done) | (refine congrArg D.bool ?_; rw [ok_1 (by omega)]; simp_all [within]; omega) | (rw [ty_5n (by omega) (by intro hh; simp_all [within]; omega)]; all_goals rfl) | (refine congrArg D.bool ?_; rw [ok_5 (by omega), decide_eq_false (by intro hh; simp_all [within]; omega), Bool.false_and]; done) | (refine congrArg D.bool ?_; rw [ok_2 (by omega), decide_eq_false (by omega), Bool.false_and]; done) | (refine congrArg D.bool ?_; rw [ok_2 (by omega)]; simp_all; done) | (refine congrArg D.bool ?_; rw [ok_3 (by omega)]; simp_all; done) | (refine congrArg D.bool ?_; rw [ok_4 (by omega)]; simp_all; done) | (refine congrArg D.bool ?_; rw [ok_5 (by omega)]; first | (rw [decide_eq_true (by omega), Bool.true_and]; done) | (rw [decide_eq_false (by omega), Bool.false_and]; done)) | (refine congrArg D.bool ?_; rw [ok_0 (by omega)]; done) | (exfalso; simp_all; done))
       ·try simp only [Q, within] at h13p
        refine dr ?_
        refine rn0 (r2 rfl rfl) (.tup (.cons (.eqd ?_) (.cons (.eqd ?_) .nil)))
        all_goals (first | rfl | (rw [ty_0 (by omega)]; all_goals rfl) | (rw [ty_3n (by omega) (by omega)]; all_goals rfl) | (rw [ty_3 (by omega) (by omega) hmem]; all_goals rfl) | (rw [ty_4 (by omega)]; all_goals rfl) | (rw [ty_5n (by omega) (by omega)]; all_goals rfl) | (rw [ty_5 (by omega) (by omega)]; all_goals rfl) | (refine congrArg D.bool ?_; rw [ok_1 (by omega)]; simp_all; done) | (refine congrArg D.bool ?_; rw [ok_1 (by omega)]; simp_all [within]; omega) | (rw [ty_5n (by omega) (by intro hh; simp_all [within]; omega)]; all_goals rfl) | (refine congrArg D.bool ?_; rw [ok_5 (by omega), decide_eq_false (by intro hh; simp_all [within]; omega), Bool.false_and]; done) | (refine congrArg D.bool ?_; rw [ok_2 (by omega), decide_eq_false (by omega), Bool.false_and]; done) | (refine congrArg D.bool ?_; rw [ok_2 (by omega)]; simp_all; done) | (refine congrArg D.bool ?_; rw [ok_3 (by omega)]; simp_all; done) | (refine congrArg D.bool ?_; rw [ok_4 (by omega)]; simp_all; done) | (refine congrArg D.bool ?_; rw [ok_5 (by omega)]; first | (rw [decide_eq_true (by omega), Bool.true_and]; done) | (rw [decide_eq_false (by omega), Bool.false_and]; done)) | (refine congrArg D.bool ?_; rw [ok_0 (by omega)]; done) | (exfalso; simp_all; done))
      ·try simp only [Q, within] at h12p
       refine sqF ?_
       refine dr ?_
       refine rn0 (r2 rfl rfl) (.tup (.cons (.eqd ?_) (.cons (.eqd ?_) .nil)))
       all_goals (first | rfl | (rw [ty_0 (by omega)]; all_goals rfl) | (rw [ty_3n (by omega) (by omega)]; all_goals rfl) | (rw [ty_3 (by omega) (by omega) hmem]; all_goals rfl) | (rw [ty_4 (by omega)]; all_goals rfl) | (rw [ty_5n (by omega) (by omega)]; all_goals rfl) | (rw [ty_5 (by omega) (by omega)]; all_goals rfl) | (refine congrArg D.bool ?_; rw [ok_1 (by omega)]; simp_all; done) | (refine congrArg D.bool ?_; rw [ok_1 (by omega)]; simp_all [within]; omega) | (rw [ty_5n (by omega) (by intro hh; simp_all [within]; omega)]; all_goals rfl) | (refine congrArg D.bool ?_; rw [ok_5 (by omega), decide_eq_false (by intro hh; simp_all [within]; omega), Bool.false_and]; done) | (refine congrArg D.bool ?_; rw [ok_2 (by omega), decide_eq_false (by omega), Bool.false_and]; done) | (refine congrArg D.bool ?_; rw [ok_2 (by omega)]; simp_all; done) | (refine congrArg D.bool ?_; rw [ok_3 (by omega)]; simp_all; done) | (refine congrArg D.bool ?_; rw [ok_4 (by omega)]; simp_all; done) | (refine congrArg D.bool ?_; rw [ok_5 (by omega)]; first | (rw [decide_eq_true (by omega), Bool.true_and]; done) | (rw [decide_eq_false (by omega), Bool.false_and]; done)) | (refine congrArg D.bool ?_; rw [ok_0 (by omega)]; done) | (exfalso; simp_all; done))
     ·try simp only [Q, within] at h11p
      refine sq (fun h14 h14p h14s => ?_) fun h14 h14p h14s => ?_
      ·try simp only [Q, within] at h14p
       refine ar ?_
       refine Walk.call (cr := []) cal87 (impl_within_fn) rfl .none rfl rfl (LeL.refl _) trivial rfl rfl rfl ?_
       refine ev ?_
       refine sq (fun h15 h15p h15s => ?_) fun h15 h15p h15s => ?_
       ·try simp only [Q, within] at h15p
        refine sqT ?_
        refine rn0 (r2 rfl rfl) (.tup (.cons (.nild ?_) (.cons (.eqd ?_) .nil)))
        all_goals (first | rfl | (rw [ty_0 (by omega)]; all_goals rfl) | (rw [ty_3n (by omega) (by omega)]; all_goals rfl) | (rw [ty_3 (by omega) (by omega) hmem]; all_goals rfl) | (rw [ty_4 (by omega)]; all_goals rfl) | (rw [ty_5n (by omega) (by omega)]; all_goals rfl) | (rw [ty_5 (by omega) (by omega)]; all_goals rfl) | (refine congrArg D.bool ?_; rw [ok_1 (by omega)]; simp_all; done) | (refine congrArg D.bool ?_; rw [ok_1 (by omega)]; simp_all [within]; omega) | (rw [ty_5n (by omega) (by intro hh; simp_all [within]; omega)]; all_goals rfl) | (refine congrArg D.bool ?_; rw [ok_5 (by omega), decide_eq_false (by intro hh; simp_all [within]; omega), Bool.false_and]; done) | (refine congrArg D.bool ?_; rw [ok_2 (by omega), decide_eq_false (by omega), Bool.false_and]; done) | (refine congrArg D.bool ?_; rw [ok_2 (by omega)]; simp_all; done) | (refine congrArg D.bool ?_; rw [ok_3 (by omega)]; simp_all; done) | (refine congrArg D.bool ?_; rw [ok_4 (by omega)]; simp_all; done) | (refine congrArg D.bool ?_; rw [ok_5 (by omega)]; first | (rw [decide_eq_true (by omega), Bool.true_and]; done) | (rw [decide_eq_false (by omega), Bool.false_and]; done)) | (refine congrArg D.bool ?_; rw [ok_0 (by omega)]; done) | (exfalso; simp_all; done))
       ·try simp only [Q, within] at h15p
        refine sq (fun h17 h17p h17s => ?_) fun h17 h17p h17s => ?_
        ·try simp only [Q, within] at h17p
         refine rn0 (r2 rfl rfl) (.tup (.cons (.nild ?_) (.cons (.eqd ?_) .nil)))
         all_goals (first | rfl | (rw [ty_0 (by omega)]; all_goals rfl) | (rw [ty_3n (by omega) (by omega)]; all_goals rfl) | (rw [ty_3 (by omega) (by omega) hmem]; all_goals rfl) | (rw [ty_4 (by omega)]; all_goals rfl) | (rw [ty_5n (by omega) (by omega)]; all_goals rfl) | (rw [ty_5 (by omega) (by omega)]; all_goals rfl) | (refine congrArg D.bool ?_; rw [ok_1 (by omega)]; simp_all; done) | (refine congrArg D.bool ?_; rw [ok_1 (by omega)]; simp_all [within]; omega) | (rw [ty_5n (by omega) (by intro hh; simp_all [within]; omega)]; all_goals rfl) | (refine congrArg D.bool ?_; rw [ok_5 (by omega), decide_eq_false (by intro hh; simp_all [within]; omega), Bool.false_and]; done) | (refine congrArg D.bool ?_; rw [ok_2 (by omega), decide_eq_false (by omega), Bool.false_and]; done) | (refine congrArg D.bool ?_; rw [ok_2 (by omega)]; simp_all; done) | (refine congrArg D.bool ?_; rw [ok_3 (by omega)]; simp_all; done) | (refine congrArg D.bool ?_; rw [ok_4 (by omega)]; simp_all; done) | (refine congrArg D.bool ?_; rw [ok_5 (by omega)]; first | (rw [decide_eq_true (by omega), Bool.true_and]; done) | (rw [decide_eq_false (by omega), Bool.false_and]; done)) | (refine congrArg D.bool ?_; rw [ok_0 (by omega)]; done) | (exfalso; simp_all; done))
        ·try simp only [Q, within] at h17p
         refine Walk.idx (i := e.n.toNat) sl109 .none rfl rfl rfl (by omega) (at_nth (i := e.n.toNat) (by omega)) rfl ?_
         refine evd [] [] ?_
         refine Walk.sliceLit sl182 tz42 rfl (by decide) (ks := [0]) (xs := [_]) rfl rfl (by decide) (by decide) .none rfl rfl rfl rfl ?_
         refine evd [] [] ?_
         refine Walk.idx (i := e.n.toNat) sl109 .none rfl rfl rfl (by omega) (at_nth (i := e.n.toNat) (by omega)) rfl ?_
         refine evd [] [] ?_
         refine Walk.call (cr := []) cal108 (impl_fitsT_fn (a := (nth funs e.n.toNat).res) (b := t)) rfl .none rfl rfl (LeL.refl _) trivial rfl rfl rfl ?_
         refine evd [] [] ?_
         refine dr ?_
         refine rn0 (r2 rfl rfl) (.tup (.cons (.eqd ?_) (.cons (.eqd ?_) .nil)))
         all_goals (first | rfl | (rw [ty_0 (by omega)]; all_goals rfl) | (rw [ty_3n (by omega) (by omega)]; all_goals rfl) | (rw [ty_3 (by omega) (by omega) hmem]; all_goals rfl) | (rw [ty_4 (by omega)]; all_goals rfl) | (rw [ty_5n (by omega) (by omega)]; all_goals rfl) | (rw [ty_5 (by omega) (by omega)]; all_goals rfl) | (refine congrArg D.bool ?_; rw [ok_1 (by omega)]; simp_all; done) | (refine congrArg D.bool ?_; rw [ok_1 (by omega)]; simp_all [within]; omega) | (rw [ty_5n (by omega) (by intro hh; simp_all [within]; omega)]; all_goals rfl) | (refine congrArg D.bool ?_; rw [ok_5 (by omega), decide_eq_false (by intro hh; simp_all [within]; omega), Bool.false_and]; done) | (refine congrArg D.bool ?_; rw [ok_2 (by omega), decide_eq_false (by omega), Bool.false_and]; done) | (refine congrArg D.bool ?_; rw [ok_2 (by omega)]; simp_all; done) | (refine congrArg D.bool ?_; rw [ok_3 (by omega)]; simp_all; done) | (refine congrArg D.bool ?_; rw [ok_4 (by omega)]; simp_all; done) | (refine congrArg D.bool ?_; rw [ok_5 (by omega)]; first | (rw [decide_eq_true (by omega), Bool.true_and]; done) | (rw [decide_eq_false (by omega), Bool.false_and]; done)) | (refine congrArg D.bool ?_; rw [ok_0 (by omega)]; done) | (exfalso; simp_all; done))
      ·try simp only [Q, within] at h14p
       refine rn0 (r2 rfl rfl) (.tup (.cons (.nild ?_) (.cons (.eqd ?_) .nil)))
       all_goals (first | rfl | (rw [ty_0 (by omega)]; all_goals rfl) | (rw [ty_3n (by omega) (by omega)]; all_goals rfl) | (rw [ty_3 (by omega) (by omega) hmem]; all_goals rfl) | (rw [ty_4 (by omega)]; all_goals rfl) | (rw [ty_5n (by omega) (by omega)]; all_goals rfl) | (rw [ty_5 (by omega) (by omega)]; all_goals rfl) | (refine congrArg D.bool ?_; rw [ok_1 (by omega)]; simp_all; done) | (refine congrArg D.bool ?_; rw [ok_1 (by omega)]; simp_all [within]; omega) | (rw [ty_5n (by omega) (by intro hh; simp_all [within]; omega)]; all_goals rfl) | (refine congrArg D.bool ?_; rw [ok_5 (by omega), decide_eq_false (by intro hh; simp_all [within]; omega), Bool.false_and]; done) | (refine congrArg D.bool ?_; rw [ok_2 (by omega), decide_eq_false (by omega), Bool.false_and]; done) | (refine congrArg D.bool ?_; rw [ok_2 (by omega)]; simp_all; done) | (refine congrArg D.bool ?_; rw [ok_3 (by omega)]; simp_all; done) | (refine congrArg D.bool ?_; rw [ok_4 (by omega)]; simp_all; done) | (refine congrArg D.bool ?_; rw [ok_5 (by omega)]; first | (rw [decide_eq_true (by omega), Bool.true_and]; done) | (rw [decide_eq_false (by omega), Bool.false_and]; done)) | (refine congrArg D.bool ?_; rw [ok_0 (by omega)]; done) | (exfalso; simp_all; done))
 ·have hmem' : e.ctor ∉ vctors w ⟨t.data, t.index⟩ := hmem
  have hcon := slices_Contains_int_fn (v := e.ctor) hcl
  rw [decide_eq_false hmem'] at hcon
  refine bd Tryz.f221 118 [] [] fun w0 F0 own kept hk => ?_
  refine Walk.box (id := 3003) .none rfl rfl rfl rfl rfl rfl rfl ?_
  refine Walk.box (id := 3004) .none rfl rfl rfl rfl rfl rfl rfl ?_
  refine Walk.box (id := 3005) .none rfl rfl rfl rfl rfl rfl rfl ?_
  refine ev ?_
  refine sq (fun h1 h1p h1s => ?_) fun h1 h1p h1s => ?_
  ·try simp only [Q, within] at h1p
   refine sq (fun h2 h2p h2s => ?_) fun h2 h2p h2s => ?_
   ·try simp only [Q, within] at h2p
    refine Walk.call (cr := []) cal87 (impl_within_fn) rfl (.some rfl rfl h2) rfl rfl (LeL.refl _) trivial rfl rfl rfl ?_
    refine evd [] [(17, true)] ?_ ⟨⟨_, rfl, h2⟩, trivial⟩
    refine sq (fun h3 h3p h3s => ?_) fun h3 h3p h3s => ?_
    ·try simp only [Q, within] at h3p
     refine dr ?_
     refine rn0 (r2 rfl rfl) (.tup (.cons (.nild ?_) (.cons (.eqd ?_) .nil)))
     all_goals (first | rfl | (rw [ty_0 (by omega)]; all_goals rfl) | (rw [ty_3n (by omega) (by omega)]; all_goals rfl) | (rw [ty_3m (by omega) hmem]; all_goals rfl) | (rw [ty_4 (by omega)]; all_goals rfl) | (rw [ty_5n (by omega) (by omega)]; all_goals rfl) | (rw [ty_5 (by omega) (by omega)]; all_goals rfl) | (refine congrArg D.bool ?_; rw [ok_1 (by omega)]; simp_all; done) | (refine congrArg D.bool ?_; rw [ok_1 (by omega)]; simp_all [within]; omega) | (rw [ty_5n (by omega) (by intro hh; simp_all [within]; omega)]; all_goals rfl) | (refine congrArg D.bool ?_; rw [ok_5 (by omega), decide_eq_false (by intro hh; simp_all [within]; omega), Bool.false_and]; done) | (refine congrArg D.bool ?_; rw [ok_2 (by omega), decide_eq_false (by omega), Bool.false_and]; done) | (refine congrArg D.bool ?_; rw [ok_2 (by omega)]; simp_all; done) | (refine congrArg D.bool ?_; rw [ok_3 (by omega)]; simp_all; done) | (refine congrArg D.bool ?_; rw [ok_4 (by omega)]; simp_all; done) | (refine congrArg D.bool ?_; rw [ok_5 (by omega)]; first | (rw [decide_eq_true (by omega), Bool.true_and]; done) | (rw [decide_eq_false (by omega), Bool.false_and]; done)) | (refine congrArg D.bool ?_; rw [ok_0 (by omega)]; done) | (exfalso; simp_all; done))
    ·try simp only [Q, within] at h3p
     refine dr ?_
     refine rn0 (r2 rfl rfl) (.tup (.cons (.nild ?_) (.cons (.eqd ?_) .nil)))
     all_goals (first | rfl | (rw [ty_0 (by omega)]; all_goals rfl) | (rw [ty_3n (by omega) (by omega)]; all_goals rfl) | (rw [ty_3m (by omega) hmem]; all_goals rfl) | (rw [ty_4 (by omega)]; all_goals rfl) | (rw [ty_5n (by omega) (by omega)]; all_goals rfl) | (rw [ty_5 (by omega) (by omega)]; all_goals rfl) | (refine congrArg D.bool ?_; rw [ok_1 (by omega)]; simp_all; done) | (refine congrArg D.bool ?_; rw [ok_1 (by omega)]; simp_all [within]; omega) | (rw [ty_5n (by omega) (by intro hh; simp_all [within]; omega)]; all_goals rfl) | (refine congrArg D.bool ?_; rw [ok_5 (by omega), decide_eq_false (by intro hh; simp_all [within]; omega), Bool.false_and]; done) | (refine congrArg D.bool ?_; rw [ok_2 (by omega), decide_eq_false (by omega), Bool.false_and]; done) | (refine congrArg D.bool ?_; rw [ok_2 (by omega)]; simp_all; done) | (refine congrArg D.bool ?_; rw [ok_3 (by omega)]; simp_all; done) | (refine congrArg D.bool ?_; rw [ok_4 (by omega)]; simp_all; done) | (refine congrArg D.bool ?_; rw [ok_5 (by omega)]; first | (rw [decide_eq_true (by omega), Bool.true_and]; done) | (rw [decide_eq_false (by omega), Bool.false_and]; done)) | (refine congrArg D.bool ?_; rw [ok_0 (by omega)]; done) | (exfalso; simp_all; done))
   ·try simp only [Q, within] at h2p
    refine sqF ?_
    refine dr ?_
    refine rn0 (r2 rfl rfl) (.tup (.cons (.nild ?_) (.cons (.eqd ?_) .nil)))
    all_goals (first | rfl | (rw [ty_0 (by omega)]; all_goals rfl) | (rw [ty_3n (by omega) (by omega)]; all_goals rfl) | (rw [ty_3m (by omega) hmem]; all_goals rfl) | (rw [ty_4 (by omega)]; all_goals rfl) | (rw [ty_5n (by omega) (by omega)]; all_goals rfl) | (rw [ty_5 (by omega) (by omega)]; all_goals rfl) | (refine congrArg D.bool ?_; rw [ok_1 (by omega)]; simp_all; done) | (refine congrArg D.bool ?_; rw [ok_1 (by omega)]; simp_all [within]; omega) | (rw [ty_5n (by omega) (by intro hh; simp_all [within]; omega)]; all_goals rfl) | (refine congrArg D.bool ?_; rw [ok_5 (by omega), decide_eq_false (by intro hh; simp_all [within]; omega), Bool.false_and]; done) | (refine congrArg D.bool ?_; rw [ok_2 (by omega), decide_eq_false (by omega), Bool.false_and]; done) | (refine congrArg D.bool ?_; rw [ok_2 (by omega)]; simp_all; done) | (refine congrArg D.bool ?_; rw [ok_3 (by omega)]; simp_all; done) | (refine congrArg D.bool ?_; rw [ok_4 (by omega)]; simp_all; done) | (refine congrArg D.bool ?_; rw [ok_5 (by omega)]; first | (rw [decide_eq_true (by omega), Bool.true_and]; done) | (rw [decide_eq_false (by omega), Bool.false_and]; done)) | (refine congrArg D.bool ?_; rw [ok_0 (by omega)]; done) | (exfalso; simp_all; done))
  ·try simp only [Q, within] at h1p
   refine sq (fun h4 h4p h4s => ?_) fun h4 h4p h4s => ?_
   ·try simp only [Q, within] at h4p
    refine Walk.call (cr := []) cal275 (impl_typeOfVar_fn hvl) rfl .none rfl rfl (LeL.refl _) trivial rfl rfl rfl ?_
    refine ev ?_
    refine Walk.alloc (id := 3008) tz42 rfl .none rfl rfl rfl rfl ?_
    refine Walk.store ty42 .none rfl rfl rfl rfl rfl rfl (by simp) rfl ?_
    refine ev ?_
    refine sq (fun h5 h5p h5s => ?_) fun h5 h5p h5s => ?_
    ·try simp only [Q, within] at h5p
     refine Walk.call (cr := []) cal108 (impl_fitsT_fn (a := varTy vars e.n) (b := t)) rfl (.some rfl rfl h5) rfl rfl (LeL.refl _) trivial rfl rfl rfl ?_
     refine evd [] [(37, true)] ?_ ⟨⟨_, rfl, h5⟩, trivial⟩
     refine sq (fun h6 h6p h6s => ?_) fun h6 h6p h6s => ?_
     ·try simp only [Q, within] at h6p
      refine dr ?_
      refine rn0 (r2 rfl rfl) (.tup (.cons (.nild ?_) (.cons (.eqd ?_) .nil)))
      all_goals (first | rfl | (rw [ty_0 (by omega)]; all_goals rfl) | (rw [ty_3n (by omega) (by omega)]; all_goals rfl) | (rw [ty_3m (by omega) hmem]; all_goals rfl) | (rw [ty_4 (by omega)]; all_goals rfl) | (rw [ty_5n (by omega) (by omega)]; all_goals rfl) | (rw [ty_5 (by omega) (by omega)]; all_goals rfl) | (refine congrArg D.bool ?_; rw [ok_1 (by omega)]; simp_all; done) | (refine congrArg D.bool ?_; rw [ok_1 (by omega)]; simp_all [within]; omega) | (rw [ty_5n (by omega) (by intro hh; simp_all [within]; omega)]; all_goals rfl) | (refine congrArg D.bool ?_; rw [ok_5 (by omega), decide_eq_false (by intro hh; simp_all [within]; omega), Bool.false_and]; done) | (refine congrArg D.bool ?_; rw [ok_2 (by omega), decide_eq_false (by omega), Bool.false_and]; done) | (refine congrArg D.bool ?_; rw [ok_2 (by omega)]; simp_all; done) | (refine congrArg D.bool ?_; rw [ok_3 (by omega)]; simp_all; done) | (refine congrArg D.bool ?_; rw [ok_4 (by omega)]; simp_all; done) | (refine congrArg D.bool ?_; rw [ok_5 (by omega)]; first | (rw [decide_eq_true (by omega), Bool.true_and]; done) | (rw [decide_eq_false (by omega), Bool.false_and]; done)) | (refine congrArg D.bool ?_; rw [ok_0 (by omega)]; done) | (exfalso; simp_all; done))
     ·try simp only [Q, within] at h6p
      refine dr ?_
      refine rn0 (r2 rfl rfl) (.tup (.cons (.nild ?_) (.cons (.eqd ?_) .nil)))
      all_goals (first | rfl | (rw [ty_0 (by omega)]; all_goals rfl) | (rw [ty_3n (by omega) (by omega)]; all_goals rfl) | (rw [ty_3m (by omega) hmem]; all_goals rfl) | (rw [ty_4 (by omega)]; all_goals rfl) | (rw [ty_5n (by omega) (by omega)]; all_goals rfl) | (rw [ty_5 (by omega) (by omega)]; all_goals rfl) | (refine congrArg D.bool ?_; rw [ok_1 (by omega)]; simp_all; done) | (refine congrArg D.bool ?_; rw [ok_1 (by omega)]; simp_all [within]; omega) | (rw [ty_5n (by omega) (by intro hh; simp_all [within]; omega)]; all_goals rfl) | (refine congrArg D.bool ?_; rw [ok_5 (by omega), decide_eq_false (by intro hh; simp_all [within]; omega), Bool.false_and]; done) | (refine congrArg D.bool ?_; rw [ok_2 (by omega), decide_eq_false (by omega), Bool.false_and]; done) | (refine congrArg D.bool ?_; rw [ok_2 (by omega)]; simp_all; done) | (refine congrArg D.bool ?_; rw [ok_3 (by omega)]; simp_all; done) | (refine congrArg D.bool ?_; rw [ok_4 (by omega)]; simp_all; done) | (refine congrArg D.bool ?_; rw [ok_5 (by omega)]; first | (rw [decide_eq_true (by omega), Bool.true_and]; done) | (rw [decide_eq_false (by omega), Bool.false_and]; done)) | (refine congrArg D.bool ?_; rw [ok_0 (by omega)]; done) | (exfalso; simp_all; done))
    ·try simp only [Q, within] at h5p
     refine sqF ?_
     refine dr ?_
     refine rn0 (r2 rfl rfl) (.tup (.cons (.nild ?_) (.cons (.eqd ?_) .nil)))
     all_goals (first | rfl | (rw [ty_0 (by omega)]; all_goals rfl) | (rw [ty_3n (by omega) (by omega)]; all_goals rfl) | (rw [ty_3m (by omega) hmem]; all_goals rfl) | (rw [ty_4 (by omega)]; all_goals rfl) | (rw [ty_5n (by omega) (by omega)]; all_goals rfl) | (rw [ty_5 (by omega) (by omega)]; all_goals rfl) | (refine congrArg D.bool ?_; rw [ok_1 (by omega)]; simp_all; done) | (refine congrArg D.bool ?_; rw [ok_1 (by omega)]; simp_all [within]; omega) | (rw [ty_5n (by omega) (by intro hh; simp_all [within]; omega)]; all_goals rfl) | (refine congrArg D.bool ?_; rw [ok_5 (by omega), decide_eq_false (by intro hh; simp_all [within]; omega), Bool.false_and]; done) | (refine congrArg D.bool ?_; rw [ok_2 (by omega), decide_eq_false (by omega), Bool.false_and]; done) | (refine congrArg D.bool ?_; rw [ok_2 (by omega)]; simp_all; done) | (refine congrArg D.bool ?_; rw [ok_3 (by omega)]; simp_all; done) | (refine congrArg D.bool ?_; rw [ok_4 (by omega)]; simp_all; done) | (refine congrArg D.bool ?_; rw [ok_5 (by omega)]; first | (rw [decide_eq_true (by omega), Bool.true_and]; done) | (rw [decide_eq_false (by omega), Bool.false_and]; done)) | (refine congrArg D.bool ?_; rw [ok_0 (by omega)]; done) | (exfalso; simp_all; done))
   ·try simp only [Q, within] at h4p
    refine sq (fun h7 h7p h7s => ?_) fun h7 h7p h7s => ?_
    ·try simp only [Q, within] at h7p
     refine sq (fun h8 h8p h8s => ?_) fun h8 h8p h8s => ?_
     ·try simp only [Q, within] at h8p
      refine dr ?_
      refine sqT ?_
      refine rn0 (r2 rfl rfl) (.tup (.cons (.nild ?_) (.cons (.eqd ?_) .nil)))
      all_goals (first | rfl | (rw [ty_0 (by omega)]; all_goals rfl) | (rw [ty_3n (by omega) (by omega)]; all_goals rfl) | (rw [ty_3m (by omega) hmem]; all_goals rfl) | (rw [ty_4 (by omega)]; all_goals rfl) | (rw [ty_5n (by omega) (by omega)]; all_goals rfl) | (rw [ty_5 (by omega) (by omega)]; all_goals rfl) | (refine congrArg D.bool ?_; rw [ok_1 (by omega)]; simp_all; done) | (refine congrArg D.bool ?_; rw [ok_1 (by omega)]; simp_all [within]; omega) | (rw [ty_5n (by omega) (by intro hh; simp_all [within]; omega)]; all_goals rfl) | (refine congrArg D.bool ?_; rw [ok_5 (by omega), decide_eq_false (by intro hh; simp_all [within]; omega), Bool.false_and]; done) | (refine congrArg D.bool ?_; rw [ok_2 (by omega), decide_eq_false (by omega), Bool.false_and]; done) | (refine congrArg D.bool ?_; rw [ok_2 (by omega)]; simp_all; done) | (refine congrArg D.bool ?_; rw [ok_3 (by omega)]; simp_all; done) | (refine congrArg D.bool ?_; rw [ok_4 (by omega)]; simp_all; done) | (refine congrArg D.bool ?_; rw [ok_5 (by omega)]; first | (rw [decide_eq_true (by omega), Bool.true_and]; done) | (rw [decide_eq_false (by omega), Bool.false_and]; done)) | (refine congrArg D.bool ?_; rw [ok_0 (by omega)]; done) | (exfalso; simp_all; done))
     ·try simp only [Q, within] at h8p
      refine Walk.call (cr := []) cal170 (impl_ctorsOf_v hw ht') rfl (.some rfl rfl h8) rfl rfl (LeL.refl _) trivial rfl rfl rfl ?_
      refine evd [] [(52, false)] ?_ ⟨⟨_, rfl, h8⟩, trivial⟩
      refine Walk.call (cr := []) cal169 (hcon) rfl (.some rfl rfl h8) rfl rfl (LeL.refl _) trivial rfl rfl rfl ?_
      refine evd [] [(52, false)] ?_ ⟨⟨_, rfl, h8⟩, trivial⟩
      refine dr ?_
      refine sq (fun h10 h10p h10s => ?_) fun h10 h10p h10s => ?_
      ·try simp only [Q, within] at h10p
       refine rn0 (r2 rfl rfl) (.tup (.cons (.nild ?_) (.cons (.eqd ?_) .nil)))
       all_goals (first | rfl | (rw [ty_0 (by omega)]; all_goals rfl) | (rw [ty_3n (by omega) (by omega)]; all_goals rfl) | (rw [ty_3m (by omega) hmem]; all_goals rfl) | (rw [ty_4 (by omega)]; all_goals rfl) | (rw [ty_5n (by omega) (by omega)]; all_goals rfl) | (rw [ty_5 (by omega) (by omega)]; all_goals rfl) | (refine congrArg D.bool ?_; rw [ok_1 (by omega)]; simp_all; done) | (refine congrArg D.bool ?_; rw [ok_1 (by omega)]; simp_all [within]; omega) | (rw [ty_5n (by omega) (by intro hh; simp_all [within]; omega)]; all_goals rfl) | (refine congrArg D.bool ?_; rw [ok_5 (by omega), decide_eq_false (by intro hh; simp_all [within]; omega), Bool.false_and]; done) | (refine congrArg D.bool ?_; rw [ok_2 (by omega), decide_eq_false (by omega), Bool.false_and]; done) | (refine congrArg D.bool ?_; rw [ok_2 (by omega)]; simp_all; done) | (refine congrArg D.bool ?_; rw [ok_3 (by omega)]; simp_all; done) | (refine congrArg D.bool ?_; rw [ok_4 (by omega)]; simp_all; done) | (refine congrArg D.bool ?_; rw [ok_5 (by omega)]; first | (rw [decide_eq_true (by omega), Bool.true_and]; done) | (rw [decide_eq_false (by omega), Bool.false_and]; done)) | (refine congrArg D.bool ?_; rw [ok_0 (by omega)]; done) | (exfalso; simp_all; done))
      ·try simp only [Q, within] at h10p
       exfalso; simp_all --stop
    ·try simp only [Q, within] at h7p
     refine sq (fun h11 h11p h11s => ?_) fun h11 h11p h11s => ?_
     ·try simp only [Q, within] at h11p
      refine Walk.sliceLit sl182 tz42 rfl (by decide) (ks := [0, 1]) (xs := [_, _]) rfl rfl (by decide) (by decide) .none rfl rfl rfl rfl ?_
      refine evd [] [] ?_
      refine sq (fun h12 h12p h12s => ?_) fun h12 h12p h12s => ?_
      ·try simp only [Q, within] at h12p
       refine sq (fun h13 h13p h13s => ?_) fun h13 h13p h13s => ?_
       ·try simp only [Q, within] at h13p
        refine dr ?_
        refine rn0 (r2 rfl rfl) (.tup (.cons (.eqd ?_) (.cons (.eqd ?_) .nil)))
        all_goals (first | rfl | (rw [ty_0 (by omega)]; all_goals rfl) | (rw [ty_3n (by omega) (by omega)]; all_goals rfl) | (rw [ty_3m (by omega) hmem]; all_goals rfl) | (rw [ty_4 (by omega)]; all_goals rfl) | (rw [ty_5n (by omega) (by omega)]; all_goals rfl) | (rw [ty_5 (by omega) (by omega)]; all_goals rfl) | (refine congrArg D.bool ?_; rw [ok_1 (by omega)]; simp_all; done) | (refine congrArg D.bool ?_; rw [ok_1 (by omega)]; simp_all [within]; omega) | (rw [ty_5n (by omega) (by intro hh; simp_all [within]; omega)]; all_goals rfl) | (refine congrArg D.bool ?_; rw [ok_5 (by omega), decide_eq_false (by intro hh; simp_all [within]; omega), Bool.false_and]; done) | (refine congrArg D.bool ?_; rw [ok_2 (by omega), decide_eq_false (by omega), Bool.false_and]; done) | (refine congrArg D.bool ?_; rw [ok_2 (by omega)]; simp_all; done) | (refine congrArg D.bool ?_; rw [ok_3 (by omega)]; simp_all; done) | (refine congrArg D.bool ?_; rw [ok_4 (by omega)]; simp_all; done) | (refine congrArg D.bool ?_; rw [ok_5 (by omega)]; first | (rw [decide_eq_true (by omega), Bool.true_and]; done) | (rw [decide_eq_false (by omega), Bool.false_and]; done)) | (refine congrArg D.bool ?_; rw [ok_0 (by omega)]; done) | (exfalso; simp_all; done))
       ·try simp only [Q, within] at h13p
        refine dr ?_
        refine rn0 (r2 rfl rfl) (.tup (.cons (.eqd ?_) (.cons (.eqd ?_) .nil)))
        all_goals (first | rfl | (rw [ty_0 (by omega)]; all_goals rfl) | (rw [ty_3n (by omega) (by omega)]; all_goals rfl) | (rw [ty_3m (by omega) hmem]; all_goals rfl) | (rw [ty_4 (by omega)]; all_goals rfl) | (rw [ty_5n (by omega) (by omega)]; all_goals rfl) | (rw [ty_5 (by omega) (by omega)]; all_goals rfl) | (refine congrArg D.bool ?_; rw [ok_1 (by omega)]; simp_all; done) | (refine congrArg D.bool ?_; rw [ok_1 (by omega)]; simp_all [within]; omega) | (rw [ty_5n (by omega) (by intro hh; simp_all [within]; omega)]; all_goals rfl) | (refine congrArg D.bool ?_; rw [ok_5 (by omega), decide_eq_false (by intro hh; simp_all [within]; omega), Bool.false_and]; done) | (refine congrArg D.bool ?_; rw [ok_2 (by omega), decide_eq_false (by omega), Bool.false_and]; done) | (refine congrArg D.bool ?_; rw [ok_2 (by omega)]; simp_all; done) | (refine congrArg D.bool ?_; rw [ok_3 (by omega)]; simp_all; done) | (refine congrArg D.bool ?_; rw [ok_4 (by omega)]; simp_all; done) | (refine congrArg D.bool ?_; rw [ok_5 (by omega)]; first | (rw [decide_eq_true (by omega), Bool.true_and]; done) | (rw [decide_eq_false (by omega), Bool.false_and]; done)) | (refine congrArg D.bool ?_; rw [ok_0 (by omega)]; done) | (exfalso; simp_all; done))
      ·try simp only [Q, within] at h12p
       refine sqF ?_
       refine dr ?_
       refine rn0 (r2 rfl rfl) (.tup (.cons (.eqd ?_) (.cons (.eqd ?_) .nil)))
       all_goals (first | rfl | (rw [ty_0 (by omega)]; all_goals rfl) | (rw [ty_3n (by omega) (by omega)]; all_goals rfl) | (rw [ty_3m (by omega) hmem]; all_goals rfl) | (rw [ty_4 (by omega)]; all_goals rfl) | (rw [ty_5n (by omega) (by omega)]; all_goals rfl) | (rw [ty_5 (by omega) (by omega)]; all_goals rfl) | (refine congrArg D.bool ?_; rw [ok_1 (by omega)]; simp_all; done) | (refine congrArg D.bool ?_; rw [ok_1 (by omega)]; simp_all [within]; omega) | (rw [ty_5n (by omega) (by intro hh; simp_all [within]; omega)]; all_goals rfl) | (refine congrArg D.bool ?_; rw [ok_5 (by omega), decide_eq_false (by intro hh; simp_all [within]; omega), Bool.false_and]; done) | (refine congrArg D.bool ?_; rw [ok_2 (by omega), decide_eq_false (by omega), Bool.false_and]; done) | (refine congrArg D.bool ?_; rw [ok_2 (by omega)]; simp_all; done) | (refine congrArg D.bool ?_; rw [ok_3 (by omega)]; simp_all; done) | (refine congrArg D.bool ?_; rw [ok_4 (by omega)]; simp_all; done) | (refine congrArg D.bool ?_; rw [ok_5 (by omega)]; first | (rw [decide_eq_true (by omega), Bool.true_and]; done) | (rw [decide_eq_false (by omega), Bool.false_and]; done)) | (refine congrArg D.bool ?_; rw [ok_0 (by omega)]; done) | (exfalso; simp_all; done))
     ·try simp only [Q, within] at h11p
      refine sq (fun h14 h14p h14s => ?_) fun h14 h14p h14s => ?_
      ·try simp only [Q, within] at h14p
       refine ar ?_
       refine Walk.call (cr := []) cal87 (impl_within_fn) rfl .none rfl rfl (LeL.refl _) trivial rfl rfl rfl ?_
       refine ev ?_
       refine sq (fun h15 h15p h15s => ?_) fun h15 h15p h15s => ?_
       ·try simp only [Q, within] at h15p
        refine sqT ?_
        refine rn0 (r2 rfl rfl) (.tup (.cons (.nild ?_) (.cons (.eqd ?_) .nil)))
        all_goals (first | rfl | (rw [ty_0 (by omega)]; all_goals rfl) | (rw [ty_3n (by omega) (by omega)]; all_goals rfl) | (rw [ty_3m (by omega) hmem]; all_goals rfl) | (rw [ty_4 (by omega)]; all_goals rfl) | (rw [ty_5n (by omega) (by omega)]; all_goals rfl) | (rw [ty_5 (by omega) (by omega)]; all_goals rfl) | (refine congrArg D.bool ?_; rw [ok_1 (by omega)]; simp_all; done) | (refine congrArg D.bool ?_; rw [ok_1 (by omega)]; simp_all [within]; omega) | (rw [ty_5n (by omega) (by intro hh; simp_all [within]; omega)]; all_goals rfl) | (refine congrArg D.bool ?_; rw [ok_5 (by omega), decide_eq_false (by intro hh; simp_all [within]; omega), Bool.false_and]; done) | (refine congrArg D.bool ?_; rw [ok_2 (by omega), decide_eq_false (by omega), Bool.false_and]; done) | (refine congrArg D.bool ?_; rw [ok_2 (by omega)]; simp_all; done) | (refine congrArg D.bool ?_; rw [ok_3 (by omega)]; simp_all; done) | (refine congrArg D.bool ?_; rw [ok_4 (by omega)]; simp_all; done) | (refine congrArg D.bool ?_; rw [ok_5 (by omega)]; first | (rw [decide_eq_true (by omega), Bool.true_and]; done) | (rw [decide_eq_false (by omega), Bool.false_and]; done)) | (refine congrArg D.bool ?_; rw [ok_0 (by omega)]; done) | (exfalso; simp_all; done))
       ·try simp only [Q, within] at h15p
        refine sq (fun h17 h17p h17s => ?_) fun h17 h17p h17s => ?_
        ·try simp only [Q, within] at h17p
         refine rn0 (r2 rfl rfl) (.tup (.cons (.nild ?_) (.cons (.eqd ?_) .nil)))
         all_goals (first | rfl | (rw [ty_0 (by omega)]; all_goals rfl) | (rw [ty_3n (by omega) (by omega)]; all_goals rfl) | (rw [ty_3m (by omega) hmem]; all_goals rfl) | (rw [ty_4 (by omega)]; all_goals rfl) | (rw [ty_5n (by omega) (by omega)]; all_goals rfl) | (rw [ty_5 (by omega) (by omega)]; all_goals rfl) | (refine congrArg D.bool ?_; rw [ok_1 (by omega)]; simp_all; done) | (refine congrArg D.bool ?_; rw [ok_1 (by omega)]; simp_all [within]; omega) | (rw [ty_5n (by omega) (by intro hh; simp_all [within]; omega)]; all_goals rfl) | (refine congrArg D.bool ?_; rw [ok_5 (by omega), decide_eq_false (by intro hh; simp_all [within]; omega), Bool.false_and]; done) | (refine congrArg D.bool ?_; rw [ok_2 (by omega), decide_eq_false (by omega), Bool.false_and]; done) | (refine congrArg D.bool ?_; rw [ok_2 (by omega)]; simp_all; done) | (refine congrArg D.bool ?_; rw [ok_3 (by omega)]; simp_all; done) | (refine congrArg D.bool ?_; rw [ok_4 (by omega)]; simp_all; done) | (refine congrArg D.bool ?_; rw [ok_5 (by omega)]; first | (rw [decide_eq_true (by omega), Bool.true_and]; done) | (rw [decide_eq_false (by omega), Bool.false_and]; done)) | (refine congrArg D.bool ?_; rw [ok_0 (by omega)]; done) | (exfalso; simp_all; done))
        ·try simp only [Q, within] at h17p
         refine Walk.idx (i := e.n.toNat) sl109 .none rfl rfl rfl (by omega) (at_nth (i := e.n.toNat) (by omega)) rfl ?_
         refine evd [] [] ?_
         refine Walk.sliceLit sl182 tz42 rfl (by decide) (ks := [0]) (xs := [_]) rfl rfl (by decide) (by decide) .none rfl rfl rfl rfl ?_
         refine evd [] [] ?_
         refine Walk.idx (i := e.n.toNat) sl109 .none rfl rfl rfl (by omega) (at_nth (i := e.n.toNat) (by omega)) rfl ?_
         refine evd [] [] ?_
         refine Walk.call (cr := []) cal108 (impl_fitsT_fn (a := (nth funs e.n.toNat).res) (b := t)) rfl .none rfl rfl (LeL.refl _) trivial rfl rfl rfl ?_
         refine evd [] [] ?_
         refine dr ?_
         refine rn0 (r2 rfl rfl) (.tup (.cons (.eqd ?_) (.cons (.eqd ?_) .nil)))
         all_goals (first | rfl | (rw [ty_0 (by omega)]; all_goals rfl) | (rw [ty_3n (by omega) (by omega)]; all_goals rfl) | (rw [ty_3m (by omega) hmem]; all_goals rfl) | (rw [ty_4 (by omega)]; all_goals rfl) | (rw [ty_5n (by omega) (by omega)]; all_goals rfl) | (rw [ty_5 (by omega) (by omega)]; all_goals rfl) | (refine congrArg D.bool ?_; rw [ok_1 (by omega)]; simp_all; done) | (refine congrArg D.bool ?_; rw [ok_1 (by omega)]; simp_all [within]; omega) | (rw [ty_5n (by omega) (by intro hh; simp_all [within]; omega)]; all_goals rfl) | (refine congrArg D.bool ?_; rw [ok_5 (by omega), decide_eq_false (by intro hh; simp_all [within]; omega), Bool.false_and]; done) | (refine congrArg D.bool ?_; rw [ok_2 (by omega), decide_eq_false (by omega), Bool.false_and]; done) | (refine congrArg D.bool ?_; rw [ok_2 (by omega)]; simp_all; done) | (refine congrArg D.bool ?_; rw [ok_3 (by omega)]; simp_all; done) | (refine congrArg D.bool ?_; rw [ok_4 (by omega)]; simp_all; done) | (refine congrArg D.bool ?_; rw [ok_5 (by omega)]; first | (rw [decide_eq_true (by omega), Bool.true_and]; done) | (rw [decide_eq_false (by omega), Bool.false_and]; done)) | (refine congrArg D.bool ?_; rw [ok_0 (by omega)]; done) | (exfalso; simp_all; done))
      ·try simp only [Q, within] at h14p
       refine rn0 (r2 rfl rfl) (.tup (.cons (.nild ?_) (.cons (.eqd ?_) .nil)))
       all_goals (first | rfl | (rw [ty_0 (by omega)]; all_goals rfl) | (rw [ty_3n (by omega) (by omega)]; all_goals rfl) | (rw [ty_3m (by omega) hmem]; all_goals rfl) | (rw [ty_4 (by omega)]; all_goals rfl) | (rw [ty_5n (by omega) (by omega)]; all_goals rfl) | (rw [ty_5 (by omega) (by omega)]; all_goals rfl) | (refine congrArg D.bool ?_; rw [ok_1 (by omega)]; simp_all; done) | (refine congrArg D.bool ?_; rw [ok_1 (by omega)]; simp_all [within]; omega) | (rw [ty_5n (by omega) (by intro hh; simp_all [within]; omega)]; all_goals rfl) | (refine congrArg D.bool ?_; rw [ok_5 (by omega), decide_eq_false (by intro hh; simp_all [within]; omega), Bool.false_and]; done) | (refine congrArg D.bool ?_; rw [ok_2 (by omega), decide_eq_false (by omega), Bool.false_and]; done) | (refine congrArg D.bool ?_; rw [ok_2 (by omega)]; simp_all; done) | (refine congrArg D.bool ?_; rw [ok_3 (by omega)]; simp_all; done) | (refine congrArg D.bool ?_; rw [ok_4 (by omega)]; simp_all; done) | (refine congrArg D.bool ?_; rw [ok_5 (by omega)]; first | (rw [decide_eq_true (by omega), Bool.true_and]; done) | (rw [decide_eq_false (by omega), Bool.false_and]; done)) | (refine congrArg D.bool ?_; rw [ok_0 (by omega)]; done) | (exfalso; simp_all; done))
theorem scanG_stop {g : Ty → Ex → Int → Bool × Int} {a : List Ty} {b : List Ex} {i : Nat} {c : Int} (ha : i < a.length) (hl : a.length = b.length) (h : (g (nth a i) (nth b i) c).1 = false) :
  scanG g (a.drop i) (b.drop i) c = (false, (g (nth a i) (nth b i) c).2) := by
 rw [drop_nth ha, drop_nth (l := b) (by omega), scanG, if_neg (by rw [h]; simp)]
theorem scanG_next {g : Ty → Ex → Int → Bool × Int} {a : List Ty} {b : List Ex} {i : Nat} {c : Int} (ha : i < a.length) (hl : a.length = b.length) (h : (g (nth a i) (nth b i) c).1 = true) :
  scanG g (a.drop i) (b.drop i) c = scanG g (a.drop (i + 1)) (b.drop (i + 1)) (g (nth a i) (nth b i) c).2 := by
 rw [drop_nth ha, drop_nth (l := b) (by omega), scanG, if_pos h]
theorem scanG_end {g : Ty → Ex → Int → Bool × Int} {a : List Ty} {b : List Ex} {i : Nat} {c : Int} (ha : a.length ≤ i) : scanG g (a.drop i) (b.drop i) c = (true, c) := by
 rw [List.drop_eq_nil_of_le ha, scanG]
 simp
theorem scanE_bd (w : List Data) (funs : List Ft) (vars : List Vt) (n : Nat) (t : Ty) (v : Ex) (c : Int) (h : (scanE w funs vars n t v c).1 = true) : c ≤ (scanE w funs vars n t v c).2 ∧ (scanE w funs vars n t v c).2 ≤ 60 := by
 have h1 := scanE_eq w funs vars n t v c
 have h2 := h1.2 h
 rw [h1.1] at h
 simp only [Bool.and_eq_true, decide_eq_true_eq] at h
 omega
theorem impl_scan_fn {w : List Data} {funs : List Ft} {vars : List Vt} (hw : WT w) (hfl : funs.length ≤ 1000000000000) (hvl : vars.length ≤ 1000000000000) (hfa : ∀ f ∈ funs, TyIn w.length f.arg) : ∀ (n : Nat) {t : Ty} {d c : Int} {e : Ex}, d + n = 11 → n ≤ 10 → TyIn w.length t → e.ok → 0 ≤ c → c ≤ 1000000000000 →
  FnD Tryz.prog 145 [.agg [.d (encDatas w), .d (encFts funs), .d (encVts vars)], .agg [.d (.i t.data), .d (.i t.index)], .agg [.d (.i e.op), .d (.i e.n), .d (.i e.ctor), .d (encExs e.kids)], .d (.i d), .ref 950 0] [(950, some (.box [.d (.i c)]))]
   (.d (.bool (scanE w funs vars n t e c).1)) [(950, some (.box [.d (.i (scanE w funs vars n t e c).2)]))]
 | 0, t, d, c, e, hd, _, _, _, c0, c1 => by
  refine bd Tryz.f145 65 [] [] fun w0 F0 own kept hk => ?_
  refine Walk.box (id := 3005) .none rfl rfl rfl rfl rfl rfl rfl ?_
  refine Walk.box (id := 3006) .none rfl rfl rfl rfl rfl rfl rfl ?_
  refine Walk.box (id := 3007) .none rfl rfl rfl rfl rfl rfl rfl ?_
  refine ev ?_
  refine ar ?_
  refine Walk.store ty3 .none rfl rfl rfl rfl rfl rfl (by simp) rfl ?_
  refine tv ?_
  refine sq (fun h1 h1p h1s => ?_) fun h1 h1p h1s => ?_
  ·try simp only [Q] at h1p
   refine sqT ?_
   refine rn [(950, some (.box [.d (.i (scanE w funs vars 0 t e c).2)]))] (r1 rfl) (.eqd ?_) ⟨rfl, rfl⟩ (SubO.get ⟨.inr (by rfl), ⟨.inl rfl, trivial⟩⟩) (boxOK rfl)
   all_goals (rfl)
  ·try simp only [Q] at h1p
   refine sq (fun h3 h3p h3s => ?_) fun h3 h3p h3s => ?_
   ·try simp only [Q] at h3p
    refine rn [(950, some (.box [.d (.i (scanE w funs vars 0 t e c).2)]))] (r1 rfl) (.eqd ?_) ⟨rfl, rfl⟩ (SubO.get ⟨.inr (by rfl), ⟨.inl rfl, trivial⟩⟩) (boxOK rfl)
    all_goals (rfl)
   ·try simp only [Q] at h3p
    exfalso; simp at *; omega --stop
 | n + 1, t, d, c, e, hd, hn, ht, hok, c0, c1 => by
  rw [Ex.ok_iff] at hok
  by_cases h60 : 60 < c + 1
  ·skip
   refine bd Tryz.f145 65 [] [] fun w0 F0 own kept hk => ?_
   refine Walk.box (id := 3005) .none rfl rfl rfl rfl rfl rfl rfl ?_
   refine Walk.box (id := 3006) .none rfl rfl rfl rfl rfl rfl rfl ?_
   refine Walk.box (id := 3007) .none rfl rfl rfl rfl rfl rfl rfl ?_
   refine ev ?_
   refine ar ?_
   refine Walk.store ty3 .none rfl rfl rfl rfl rfl rfl (by simp) rfl ?_
   refine tv ?_
   refine sq (fun h1 h1p h1s => ?_) fun h1 h1p h1s => ?_
   ·try simp only [Q] at h1p
    refine sqT ?_
    refine rn [(950, some (.box [.d (.i (scanE w funs vars (n + 1) t e c).2)]))] (r1 rfl) (.eqd ?_) ⟨rfl, rfl⟩ (SubO.get ⟨.inr (by (unfold scanE; rw [if_pos h60]; rfl)), ⟨.inl rfl, trivial⟩⟩) (boxOK rfl)
    all_goals (unfold scanE; rw [if_pos h60])
   ·try simp only [Q] at h1p
    refine sq (fun h3 h3p h3s => ?_) fun h3 h3p h3s => ?_
    ·try simp only [Q] at h3p
     refine rn [(950, some (.box [.d (.i (scanE w funs vars (n + 1) t e c).2)]))] (r1 rfl) (.eqd ?_) ⟨rfl, rfl⟩ (SubO.get ⟨.inr (by (unfold scanE; rw [if_pos h60]; rfl)), ⟨.inl rfl, trivial⟩⟩) (boxOK rfl)
     all_goals (unfold scanE; rw [if_pos h60])
    ·try simp only [Q] at h3p
     exfalso; simp at *; omega --stop
  have hkd := impl_kids_fn hw hfl hvl ht (e := e) (funs := funs) (vars := vars)
  have htl := typesE_len hw ht (funs := funs) (e := e)
  have hti := typesE_in hw hfa ht (e := e)
  by_cases hnd : nodeE w funs vars t e = true
  ·have hlen : (typesE w funs t e).length = e.kids.length := by
    unfold nodeE at hnd; rw [Bool.and_eq_true] at hnd; exact of_decide_eq_true hnd.2
   have hok1 : okE w funs vars t e = true := by
    unfold nodeE at hnd; rw [Bool.and_eq_true] at hnd; exact hnd.1
   have hsc : scanE w funs vars (n + 1) t e c = scanG (scanE w funs vars n) (typesE w funs t e) e.kids (c + 1) := by
    conv => lhs; unfold scanE
    rw [if_neg h60, if_pos hnd]
   rw [hsc]
   rw [hok1] at hkd
   refine bd Tryz.f145 65 [] [] fun w0 F0 own kept hk => ?_
   refine Walk.box (id := 3005) .none rfl rfl rfl rfl rfl rfl rfl ?_
   refine Walk.box (id := 3006) .none rfl rfl rfl rfl rfl rfl rfl ?_
   refine Walk.box (id := 3007) .none rfl rfl rfl rfl rfl rfl rfl ?_
   refine ev ?_
   refine ar ?_ (by first | (constructor <;> omega) | (constructor <;> simp [Ex.cs_len] <;> omega))
   refine Walk.store ty3 .none rfl rfl rfl rfl rfl rfl (by simp) rfl ?_
   refine tv ?_
   refine sq (fun h1 h1p h1s => ?_) fun h1 h1p h1s => ?_
   ·try simp only [Q, Ex.cs_len] at h1p
    refine sqT ?_
    exfalso; simp at *; omega --stop
   ·try simp only [Q, Ex.cs_len] at h1p
    refine sq (fun h3 h3p h3s => ?_) fun h3 h3p h3s => ?_
    ·try simp only [Q, Ex.cs_len] at h3p
     exfalso; simp at *; omega --stop
    ·try simp only [Q, Ex.cs_len] at h3p
     refine Walk.call (cr := []) cal221 (hkd) rfl .none rfl rfl (LeL.refl _) trivial rfl rfl rfl ?_
     refine ev ?_
     refine sq (fun h4 h4p h4s => ?_) fun h4 h4p h4s => ?_
     ·try simp only [Q, Ex.cs_len] at h4p
      refine sqT ?_
      exfalso; first | omega | (simp_all [Ex.cs_len]; done) --stop
     ·try simp only [Q, Ex.cs_len] at h4p
      refine sq (fun h6 h6p h6s => ?_) fun h6 h6p h6s => ?_
      ·try simp only [Q, Ex.cs_len] at h6p
       exfalso; first | omega | (simp_all [Ex.cs_len]; done) --stop
      ·try simp only [Q, Ex.cs_len] at h6p
       refine CWp.loopX (ι := Nat × Int) hk (fun x => [(48, .d (.i (x.1 : Int)))]) [10, 13, 14, 49, 50, 51, 52, 53, 54, 55, 56, 57, 58, 59, 60, 61, 62, 63, 64] (fun x => [(950, some (.box [.d (.i x.2)]))]) (fun x => x.1 ≤ e.kids.length ∧ scanG (scanE w funs vars n) ((typesE w funs t e).drop x.1) (e.kids.drop x.1) x.2 = scanG (scanE w funs vars n) (typesE w funs t e) e.kids (c + 1) ∧ 0 ≤ x.2 ∧ x.2 ≤ 60) (fun x => e.kids.length - x.1) (0, c + 1) ⟨by simp, by simp, by dsimp only; omega, by dsimp only; omega⟩ ⟨⟨_, rfl, (LeA.eqi (by first | rfl | (simp; done) | (dsimp only; omega)))⟩, trivial⟩ ⟨(by first | rfl | (simp [getH]; done)), trivial⟩ (fun x => rfl) (fun x hg1 => ?_)
       refine evc [] [] ?_
       refine sq (fun h7 h7p h7s => ?_) fun h7 h7p h7s => ?_
       ·try simp only [Q, Ex.cs_len] at h7p
        refine Walk.idx sl116 .none rfl rfl rfl rfl (exs_at (by omega)) rfl ?_
        refine ev ?_
        refine Walk.alloc (id := 3014) tz130 rfl .none rfl rfl rfl rfl ?_
        refine ev ?_
        refine Walk.store ty130 .none rfl rfl rfl rfl rfl rfl (by simp) rfl ?_
        refine tv ?_
        refine Walk.idx sl182 .none rfl rfl rfl rfl (at_nth (by omega)) rfl ?_
        refine evd [] [] ?_
        refine ar ?_ (by first | (constructor <;> omega) | (constructor <;> simp [Ex.cs_len] <;> omega))
        refine Walk.call (cr := []) cal145 (impl_scan_fn hw hfl hvl hfa n (t := nth (typesE w funs t e) x.1) (c := x.2) (by omega) (by omega) (hti _ (nth_mem (by omega))) (Exs.ok_mem hok.2 _ (nth_mem (by omega))) (by omega) (by omega)) rfl .none rfl rfl (LeL.refl _) ⟨rfl, trivial⟩ rfl rfl rfl ?_
        refine evd [] [] ?_
        refine dr ?_
        refine sq (fun h8 h8p h8s => ?_) fun h8 h8p h8s => ?_
        ·try simp only [Q, Ex.cs_len] at h8p
         refine rn [(950, some (.box [.d (.i (scanG (scanE w funs vars n) (typesE w funs t e) e.kids (c + 1)).2)]))] (r1 rfl) (.eqd ?_) ⟨rfl, rfl⟩ (SubO.get ⟨.inr (by first | (obtain ⟨h1, h2, h3, h4⟩ := hg1; show some (Res.box _) = some (Res.box _); rw [← h2, scanG_end (by omega)]) | (obtain ⟨h1, h2, h3, h4⟩ := hg1; show some (Res.box _) = some (Res.box _); rw [← h2, scanG_stop (by omega) hlen (by simp_all)])), ⟨.inl rfl, trivial⟩⟩) (boxOK rfl)
         all_goals (refine congrArg D.bool ?_; first | (obtain ⟨h1, h2, h3, h4⟩ := hg1; rw [← h2, scanG_end (by omega)]) | (obtain ⟨h1, h2, h3, h4⟩ := hg1; rw [← h2, scanG_stop (by omega) hlen (by simp_all)]))
        ·try simp only [Q, Ex.cs_len] at h8p
         refine ar ?_ (by first | (constructor <;> omega) | (constructor <;> simp [Ex.cs_len] <;> omega))
         refine Exists.intro ((x.1 + 1, (scanE w funs vars n (nth (typesE w funs t e) x.1) (nth e.kids x.1) x.2).2)) ⟨(by
              have hz : (scanE w funs vars n (nth (typesE w funs t e) x.1) (nth e.kids x.1) x.2).1 = true := by simp_all
              have hb := scanE_bd w funs vars n _ _ _ hz
              obtain ⟨h1, h2, h3, h4⟩ := hg1
              refine ⟨by dsimp only; omega, ?_, by dsimp only; omega, by dsimp only; omega⟩
              rw [← h2, scanG_next (i := x.1) (by omega) hlen hz]), (by dsimp only; omega), Sub.x (by kernel_rfl) (by kernel_rfl) ⟨⟨_, rfl, (LeA.eqi (by first | rfl | (simp; done) | (dsimp only; omega)))⟩, trivial⟩ (by kernel_rfl) (by kernel_rfl) ⟨(by first | rfl | (simp [getH]; done)), trivial⟩⟩
       ·try simp only [Q, Ex.cs_len] at h7p
        refine rn [(950, some (.box [.d (.i (scanG (scanE w funs vars n) (typesE w funs t e) e.kids (c + 1)).2)]))] (r1 rfl) (.eqd ?_) ⟨rfl, rfl⟩ (SubO.get ⟨.inr (by first | (obtain ⟨h1, h2, h3, h4⟩ := hg1; show some (Res.box _) = some (Res.box _); rw [← h2, scanG_end (by omega)]) | (obtain ⟨h1, h2, h3, h4⟩ := hg1; show some (Res.box _) = some (Res.box _); rw [← h2, scanG_stop (by omega) hlen (by simp_all)])), ⟨.inl rfl, trivial⟩⟩) (boxOK rfl)
        all_goals (refine congrArg D.bool ?_; first | (obtain ⟨h1, h2, h3, h4⟩ := hg1; rw [← h2, scanG_end (by omega)]) | (obtain ⟨h1, h2, h3, h4⟩ := hg1; rw [← h2, scanG_stop (by omega) hlen (by simp_all)]))
  ·have hsc : scanE w funs vars (n + 1) t e c = (false, c + 1) := by
    conv => lhs; unfold scanE
    rw [if_neg h60, if_neg hnd]
   have hno : okE w funs vars t e = true → (typesE w funs t e).length ≠ e.kids.length := fun h hl => hnd (by unfold nodeE; rw [h, decide_eq_true hl]; rfl)
   rw [hsc]
   refine bd Tryz.f145 65 [] [] fun w0 F0 own kept hk => ?_
   refine Walk.box (id := 3005) .none rfl rfl rfl rfl rfl rfl rfl ?_
   refine Walk.box (id := 3006) .none rfl rfl rfl rfl rfl rfl rfl ?_
   refine Walk.box (id := 3007) .none rfl rfl rfl rfl rfl rfl rfl ?_
   refine ev ?_
   refine ar ?_
   refine Walk.store ty3 .none rfl rfl rfl rfl rfl rfl (by simp) rfl ?_
   refine tv ?_
   refine sq (fun h1 h1p h1s => ?_) fun h1 h1p h1s => ?_
   ·try simp only [Q, Ex.cs_len] at h1p
    refine sqT ?_
    exfalso; simp at *; omega --stop
   ·try simp only [Q, Ex.cs_len] at h1p
    refine sq (fun h3 h3p h3s => ?_) fun h3 h3p h3s => ?_
    ·try simp only [Q, Ex.cs_len] at h3p
     exfalso; simp at *; omega --stop
    ·try simp only [Q, Ex.cs_len] at h3p
     refine Walk.call (cr := []) cal221 (hkd) rfl .none rfl rfl (LeL.refl _) trivial rfl rfl rfl ?_
     refine ev ?_
     refine sq (fun h4 h4p h4s => ?_) fun h4 h4p h4s => ?_
     ·try simp only [Q, Ex.cs_len] at h4p
      refine sqT ?_
      refine rn [(950, some (.box [.d (.i (c + 1))]))] (r1 rfl) (.eqd ?_) ⟨rfl, rfl⟩ (SubO.get ⟨.inr (by rfl), ⟨.inl rfl, trivial⟩⟩) (boxOK rfl)
      all_goals (rfl)
     ·try simp only [Q, Ex.cs_len] at h4p
      refine sq (fun h6 h6p h6s => ?_) fun h6 h6p h6s => ?_
      ·try simp only [Q, Ex.cs_len] at h6p
       refine rn [(950, some (.box [.d (.i (c + 1))]))] (r1 rfl) (.eqd ?_) ⟨rfl, rfl⟩ (SubO.get ⟨.inr (by rfl), ⟨.inl rfl, trivial⟩⟩) (boxOK rfl)
       all_goals (rfl)
      ·try simp only [Q, Ex.cs_len] at h6p
       exfalso; have := hno (by first | assumption | simp_all); omega --stop
theorem impl_expr_fn {w : List Data} {funs : List Ft} {vars : List Vt} (hw : WT w) (hfl : funs.length ≤ 1000000000000) (hvl : vars.length ≤ 1000000000000) (hfa : ∀ f ∈ funs, TyIn w.length f.arg) {t : Ty} {e : Ex} (ht : TyIn w.length t) (hok : e.ok) :
  FnD Tryz.prog 82 [.agg [.d (encDatas w), .d (encFts funs), .d (encVts vars)], .agg [.d (.i t.data), .d (.i t.index)], .agg [.d (.i e.op), .d (.i e.n), .d (.i e.ctor), .d (encExs e.kids)]] [] (.d (.bool (isE w funs vars t e))) [] := by
 have hz := scanE0 w funs vars t e
 refine bd Tryz.f82 12 [] [] fun w0 F0 own kept hk => ?_
 refine Walk.box (id := 3003) .none rfl rfl rfl rfl rfl rfl rfl ?_
 refine Walk.box (id := 3004) .none rfl rfl rfl rfl rfl rfl rfl ?_
 refine Walk.box (id := 3005) .none rfl rfl rfl rfl rfl rfl rfl ?_
 refine ev ?_
 refine Walk.alloc (id := 950) tz3 rfl .none rfl rfl rfl rfl ?_
 refine Walk.store ty3 .none rfl rfl rfl rfl rfl rfl (by simp) rfl ?_
 refine tv ?_
 refine Walk.call (cr := []) cal145 (impl_scan_fn hw hfl hvl hfa 10 (c := 0) (by omega) (by omega) ht hok (by omega) (by omega)) rfl .none rfl rfl (LeL.refl _) ⟨rfl, trivial⟩ rfl rfl rfl ?_
 refine ev ?_
 refine rn0 (r1 rfl) (.eqd ?_)
 all_goals (rw [hz])
end Go.Proofs.YtdgknigklgnefaaGreat
namespace Go.Proofs.YtdgknigklgnefaaGreat
open Go
set_option linter.unusedSimpArgs false
set_option linter.unusedVariables false
def tyS (s : Nat) : Ty := ⟨((s / 4 : Nat) : Int), ((s % 4 : Nat) : Int)⟩
def slotT (t : Ty) : Nat := t.data.toNat * 4 + t.index.toNat
def Hd (w : List Data) : Nat → Ty → Prop
 | 0, _ => False
 | d + 1, t => t.data = -1 ∨ ∃ c ∈ ctorsOf w t, t.data ≠ -1 ∧ ∀ u ∈ argsOf w t c, Hd w d u
def InS (n : Nat) (u : Ty) : Prop := u.data = -1 ∨ (slotT u < n ∧ tyS (slotT u) = u)
def ClosedT (w : List Data) : Prop := ∀ s, s < w.length * 4 → ∀ c ∈ ctorsOf w (tyS s), ∀ u ∈ argsOf w (tyS s) c, InS (w.length * 4) u
section
variable {w : List Data}
def Bet (f g : Nat → Nat) : Prop := ∀ s, 0 < f s → 0 < g s ∧ g s ≤ f s
def Cmp (w : List Data) (k : Nat) (f : Nat → Nat) : Prop := ∀ s, s < w.length * 4 → ∀ d, d ≤ k → Hd w d (tyS s) → 0 < f s ∧ f s ≤ d
theorem Bet.refl (f : Nat → Nat) : Bet f f := fun s h => ⟨h, Nat.le_refl _⟩
theorem Bet.trans {f g h : Nat → Nat} (a : Bet f g) (b : Bet g h) : Bet f h := fun s hs => ⟨(b s (a s hs).1).1, Nat.le_trans (b s (a s hs).1).2 (a s hs).2⟩
theorem Cmp.bet {k : Nat} {f g : Nat → Nat} (h : Cmp w k f) (b : Bet f g) : Cmp w k g := fun s hs d hd hh =>
 ⟨(b s (h s hs d hd hh).1).1, Nat.le_trans (b s (h s hs d hd hh).1).2 (h s hs d hd hh).2⟩
def Strict (f g : Nat → Nat) : Prop := ∃ s, 0 < g s ∧ (f s = 0 ∨ g s < f s)
theorem Strict.bet {f g h : Nat → Nat} (a : Strict f g) (b : Bet g h) : Strict f h := by
 obtain ⟨s, h1, h2⟩ := a
 have := b s h1
 exact ⟨s, this.1, by omega⟩
end
end Go.Proofs.YtdgknigklgnefaaGreat
namespace Go.Proofs.YtdgknigklgnefaaGreat
open Go
set_option linter.unusedSimpArgs false
set_option linter.unusedVariables false
set_option maxRecDepth 100000
set_option maxHeartbeats 2000000
theorem InS.facts {n : Nat} {a k : Int} (h : InS n ⟨a, k⟩) (ha : ¬ a = -1) : slotT ⟨a, k⟩ < n ∧ a * 4 + k = (slotT ⟨a, k⟩ : Int) ∧ 0 ≤ a ∧ 0 ≤ k ∧ k ≤ 3 ∧ a ≤ n := by
 rcases h with h | ⟨h1, h2⟩
 ·exact absurd h ha
 ·have e1 := congrArg Ty.data h2
  have e2 := congrArg Ty.index h2
  simp only [tyS] at e1 e2
  omega
structure Dp (w : List Data) : Prop where
 wt : WT w
 cl : ClosedT w
 four : w.length ≤ 4
 ct : ∀ s, s < w.length * 4 → (ctorsOf w (tyS s)).length ≤ 4
structure PKids (w : List Data) (n : Nat) (a k k' : Int) (p : Pat) : Prop where
 len5 : p.op = 5 → p.kids.length = 2
 len6 : p.op = 6 → p.kids.length = 1
 len4 : p.op = 4 → p.kids.length = (argsOf w ⟨a, k⟩ p.ctor).length
 one : p.op = 5 ∨ p.op = 6 → shapeP w n ⟨a, k'⟩ (nth p.kids 0) = true
 two : p.op = 5 → shapeP w n ⟨a, k'⟩ (nth p.kids 1) = true
 arg : p.op = 4 → ∀ i, i < (argsOf w ⟨a, k⟩ p.ctor).length → shapeP w n ⟨(nth (argsOf w ⟨a, k⟩ p.ctor) i).data, (nth (argsOf w ⟨a, k'⟩ p.ctor) i).index⟩ (nth p.kids i) = true
 mem : p.op = 4 → p.ctor ∈ vctors w ⟨a, k'⟩
 ops : p.op = 1 ∨ p.op = 2 ∨ (p.op = 3 ∧ a = -1) ∨ p.op = 4 ∨ p.op = 5 ∨ p.op = 6
theorem tv_facts {w : List Data} {a k : Int} (h : typeValid w ⟨a, k⟩ = true) : worldValid w = true ∧ TyIn w.length ⟨a, k⟩ ∧ (a ≠ -1 → 0 ≤ a ∧ a.toNat < w.length ∧ 0 ≤ k ∧ k ≤ 3) := by
 unfold typeValid at h
 rw [Bool.and_eq_true] at h
 obtain ⟨h1, h2⟩ := h
 simp only [typeOk, within, Bool.or_eq_true, Bool.and_eq_true, decide_eq_true_eq, and_true] at h2
 refine ⟨h1, ?_, fun ha => by omega⟩
 rcases h2 with h | h
 ·exact .inl h.1
 ·exact .inr ⟨a.toNat, by simp only; omega, by omega⟩
structure PVal (w : List Data) (a k : Int) (p : Pat) : Prop where
 dp : Dp w
 tin : TyIn w.length ⟨a, k⟩
 shape : shapeP w 10 ⟨a, k⟩ p = true
 rng : a ≠ -1 → 0 ≤ a ∧ a.toNat < w.length ∧ 0 ≤ k ∧ k ≤ 3
theorem spec_TypeValid_v {w : List Data} {a b : Int} (hs : WSmall w) : FnD Tryz.prog 172 [.d (encDatas w), .agg [.d (.i a), .d (.i b)]] [] (.d (.bool (typeValid w ⟨a, b⟩))) [] := by
 rw [← spec_tv]; exact spec_TypeValid_fn hs
theorem slices_IndexFunc_Ft_fn {xs : List Ft} {f : Nat} {caps : List AV} {hp : Hp} {p : Ft → Bool} (hs : xs.length ≤ 1000000000000) (hcal : Callee Tryz.prog f)
  (hf : ∀ t ∈ xs, FnD Tryz.prog f ([.agg [.d (.i t.arg.data), .d (.i t.arg.index), .d (.i t.res.data), .d (.i t.res.index)]] ++ caps) hp (.d (.bool (p t))) []) (k1 : subH hp hp) (k2 : noTok hp = true) (k3 : okCall hp [] (.d .nilp) [] = true) :
  FnD Tryz.prog 217 [.d (encFts xs), .fn f caps] hp (.d (.i (idxF p xs 0))) [] := by
 refine bd Tryz.f217 19 [] [] fun w0 F0 own kept hk => ?_
 refine CWp.loopX (ι := List (Ft) × List (Ft)) hk (fun x => [(8, .d (.i (x.1.length : Int)))]) [4, 5, 9, 10, 11, 12, 13, 14, 15, 16, 17, 18] (fun x => []) (fun x => x.1 ++ x.2 = xs ∧ idxF p x.2 x.1.length = idxF p xs 0) (fun x => x.2.length) ([], xs) ⟨by simp, rfl⟩ ⟨⟨_, rfl, (LeA.eqi (by first | rfl | (simp; done) | (simp_all; done) | omega))⟩, trivial⟩ trivial (fun x => boxIds_all hp) (fun x hg1 => ?_)
 obtain ⟨pre, rest⟩ := x
 dsimp only at hg1 ⊢
 refine evc [] [] ?_
 refine sq (fun h1 h1p h1s => ?_) fun h1 h1p h1s => ?_
 ·try simp only [Q] at h1p
  rcases rest with _ | ⟨y, rest⟩
  ·exfalso; simp_all
  refine Walk.idx sl109 .none rfl rfl rfl rfl (zip_at hg1.1) rfl ?_
  refine ev ?_
  refine Walk.callV (cr := []) hcal (hf y (by rw [← hg1.1]; simp)) rfl .none rfl rfl rfl (LeL.refl _) k1 k2 (okCall_d k3 _) rfl ?_
  refine tv ?_
  refine sq (fun h2 h2p h2s => ?_) fun h2 h2p h2s => ?_
  ·try simp only [Q] at h2p
   refine rn [] (r1 rfl) (.eqd ?_) ⟨rfl, rfl⟩ (fun _ _ h => h) (fun _ h => h)
   all_goals (rw [← hg1.2]; simp [idxF, h1s, h1p, h2s, h2p])
  ·try simp only [Q] at h2p
   refine ar ?_
   refine Exists.intro ((pre ++ [y], rest)) ⟨⟨(by have hz := hg1.1; rw [← hz]; simp), (by rw [← hg1.2]; simp [idxF, h2s])⟩, (by simp), Sub.x (by kernel_rfl) (by kernel_rfl) ⟨⟨_, rfl, (LeA.eqi (by first | rfl | (simp; done) | (simp_all; done) | omega))⟩, trivial⟩ (by simp) (by simp [coverH]) trivial⟩
 ·try simp only [Q] at h1p
  have hrest : rest = [] := by
   rcases rest with _ | ⟨a, b⟩
   ·rfl
   ·exfalso; have hz := congrArg List.length (hg1.1); simp only [List.length_append, List.length_cons, List.length_map] at hz; omega
  subst hrest
  refine rn [] (r1 rfl) (.eqd ?_) ⟨rfl, rfl⟩ (fun _ _ h => h) (fun _ h => h)
  all_goals (rw [← hg1.2]; simp [idxF, h1s, h1p])
theorem slices_ContainsFunc_Ft_fn {xs : List Ft} {f : Nat} {caps : List AV} {hp : Hp} {p : Ft → Bool} (hs : xs.length ≤ 1000000000000) (hcal : Callee Tryz.prog f)
  (hf : ∀ t ∈ xs, FnD Tryz.prog f ([.agg [.d (.i t.arg.data), .d (.i t.arg.index), .d (.i t.res.data), .d (.i t.res.index)]] ++ caps) hp (.d (.bool (p t))) []) (k1 : subH hp hp) (k2 : noTok hp = true) (k3 : okCall hp [] (.d .nilp) [] = true) :
  FnD Tryz.prog 138 [.d (encFts xs), .fn f caps] hp (.d (.bool (xs.any p))) [] := by
 refine bd Tryz.f138 9 [] [] fun w0 F0 own kept hk => ?_
 refine Walk.call (cr := []) cal217 (slices_IndexFunc_Ft_fn hs hcal hf k1 k2 k3) rfl .none rfl rfl (LeL.refl _) k1 k2 (okCall_d k3 _) rfl ?_
 refine ev ?_
 refine rn [] (r1 rfl) (.eqd ?_) ⟨rfl, rfl⟩ (fun _ _ h => h) (fun _ h => h)
 all_goals (exact congrArg D.bool (idxF_any p xs 0))
theorem slices_IndexFunc_Cl_fn {xs : List Cl} {f : Nat} {caps : List AV} {hp : Hp} {p : Cl → Bool} (hs : xs.length ≤ 1000000000000) (hcal : Callee Tryz.prog f)
  (hf : ∀ t ∈ xs, FnD Tryz.prog f ([.agg [.d (.i t.pat.op), .d (.i t.pat.ctor), .d (.i t.pat.n), .d (.i t.pat.m), .d (.i t.pat.var), .d (encPats t.pat.kids), .d (.i t.g.op), .d (.i t.g.var), .d (.i t.g.n)]] ++ caps) hp (.d (.bool (p t))) []) (k1 : subH hp hp) (k2 : noTok hp = true) (k3 : okCall hp [] (.d .nilp) [] = true) :
  FnD Tryz.prog 218 [.d (encCls xs), .fn f caps] hp (.d (.i (idxF p xs 0))) [] := by
 refine bd Tryz.f218 19 [] [] fun w0 F0 own kept hk => ?_
 refine CWp.loopX (ι := List (Cl) × List (Cl)) hk (fun x => [(8, .d (.i (x.1.length : Int)))]) [4, 5, 9, 10, 11, 12, 13, 14, 15, 16, 17, 18] (fun x => []) (fun x => x.1 ++ x.2 = xs ∧ idxF p x.2 x.1.length = idxF p xs 0) (fun x => x.2.length) ([], xs) ⟨by simp, rfl⟩ ⟨⟨_, rfl, (LeA.eqi (by first | rfl | (simp; done) | (simp_all; done) | omega))⟩, trivial⟩ trivial (fun x => boxIds_all hp) (fun x hg1 => ?_)
 obtain ⟨pre, rest⟩ := x
 dsimp only at hg1 ⊢
 refine evc [] [] ?_
 refine sq (fun h1 h1p h1s => ?_) fun h1 h1p h1s => ?_
 ·try simp only [Q] at h1p
  rcases rest with _ | ⟨y, rest⟩
  ·exfalso; simp_all
  refine Walk.idx sl44 .none rfl rfl rfl rfl (zip_at hg1.1) rfl ?_
  refine ev ?_
  refine Walk.callV (cr := []) hcal (hf y (by rw [← hg1.1]; simp)) rfl .none rfl rfl rfl (LeL.refl _) k1 k2 (okCall_d k3 _) rfl ?_
  refine tv ?_
  refine sq (fun h2 h2p h2s => ?_) fun h2 h2p h2s => ?_
  ·try simp only [Q] at h2p
   refine rn [] (r1 rfl) (.eqd ?_) ⟨rfl, rfl⟩ (fun _ _ h => h) (fun _ h => h)
   all_goals (rw [← hg1.2]; simp [idxF, h1s, h1p, h2s, h2p])
  ·try simp only [Q] at h2p
   refine ar ?_
   refine Exists.intro ((pre ++ [y], rest)) ⟨⟨(by have hz := hg1.1; rw [← hz]; simp), (by rw [← hg1.2]; simp [idxF, h2s])⟩, (by simp), Sub.x (by kernel_rfl) (by kernel_rfl) ⟨⟨_, rfl, (LeA.eqi (by first | rfl | (simp; done) | (simp_all; done) | omega))⟩, trivial⟩ (by simp) (by simp [coverH]) trivial⟩
 ·try simp only [Q] at h1p
  have hrest : rest = [] := by
   rcases rest with _ | ⟨a, b⟩
   ·rfl
   ·exfalso; have hz := congrArg List.length (hg1.1); simp only [List.length_append, List.length_cons, List.length_map] at hz; omega
  subst hrest
  refine rn [] (r1 rfl) (.eqd ?_) ⟨rfl, rfl⟩ (fun _ _ h => h) (fun _ h => h)
  all_goals (rw [← hg1.2]; simp [idxF, h1s, h1p])
theorem slices_ContainsFunc_Cl_fn {xs : List Cl} {f : Nat} {caps : List AV} {hp : Hp} {p : Cl → Bool} (hs : xs.length ≤ 1000000000000) (hcal : Callee Tryz.prog f)
  (hf : ∀ t ∈ xs, FnD Tryz.prog f ([.agg [.d (.i t.pat.op), .d (.i t.pat.ctor), .d (.i t.pat.n), .d (.i t.pat.m), .d (.i t.pat.var), .d (encPats t.pat.kids), .d (.i t.g.op), .d (.i t.g.var), .d (.i t.g.n)]] ++ caps) hp (.d (.bool (p t))) []) (k1 : subH hp hp) (k2 : noTok hp = true) (k3 : okCall hp [] (.d .nilp) [] = true) :
  FnD Tryz.prog 141 [.d (encCls xs), .fn f caps] hp (.d (.bool (xs.any p))) [] := by
 refine bd Tryz.f141 9 [] [] fun w0 F0 own kept hk => ?_
 refine Walk.call (cr := []) cal218 (slices_IndexFunc_Cl_fn hs hcal hf k1 k2 k3) rfl .none rfl rfl (LeL.refl _) k1 k2 (okCall_d k3 _) rfl ?_
 refine ev ?_
 refine rn [] (r1 rfl) (.eqd ?_) ⟨rfl, rfl⟩ (fun _ _ h => h) (fun _ h => h)
 all_goals (exact congrArg D.bool (idxF_any p xs 0))
theorem impl_ok_1_fn {w : List Data} (hs : w.length ≤ 1000000000000) {fd vd : D} {f : Ft} : FnD Tryz.prog 139 [.agg [.d (.i f.arg.data), .d (.i f.arg.index), .d (.i f.res.data), .d (.i f.res.index)], .ref 3001 0] [(3001, some (.box [.d (encDatas w), .d fd, .d vd]))] (.d (.bool (!(typeOk w.length f.arg && typeOk w.length f.res)))) [] := by
 refine bd Tryz.f139 18 [] [] fun w0 F0 own kept hk => ?_
 refine Walk.box (id := 3002) .none rfl rfl rfl rfl rfl rfl rfl ?_
 refine ev ?_
 refine Walk.call (cr := []) cal107 (impl_typeOk_fn hs (a := f.arg.data) (b := f.arg.index)) rfl .none rfl rfl (LeL.refl _) trivial rfl rfl rfl ?_
 refine ev ?_
 refine sq (fun h1 h1p h1s => ?_) fun h1 h1p h1s => ?_
 ·try simp only [Q] at h1p
  refine rn [] (r1 rfl) (.eqd ?_) ⟨rfl, rfl⟩ (SubH.get ⟨rfl, trivial⟩) (fun _ h => h)
  all_goals (refine congrArg D.bool ?_; simp_all)
 ·try simp only [Q] at h1p
  refine Walk.call (cr := []) cal107 (impl_typeOk_fn hs (a := f.res.data) (b := f.res.index)) rfl (.some rfl rfl h1) rfl rfl (LeL.refl _) trivial rfl rfl rfl ?_
  refine evs [] [(10, false)] ?_ ⟨⟨_, rfl, h1⟩, trivial⟩
  refine rn [] (r1 rfl) (.eqd ?_) ⟨rfl, rfl⟩ (SubH.get ⟨rfl, trivial⟩) (fun _ h => h)
  all_goals (refine congrArg D.bool ?_; simp_all)
theorem impl_scopeOk_fn {w : List Data} {funs : List Ft} (hs : w.length ≤ 1000000000000) (hfl : funs.length ≤ 1000000000000) : FnD Tryz.prog 79 [.agg [.d (encDatas w), .d (encFts funs), .d (.sl [])]] [] (.d (.bool (ftsOk w funs))) [] := by
 refine bd Tryz.f79 45 [] [] fun w0 F0 own kept hk => ?_
 refine Walk.box (id := 3001) .none rfl rfl rfl rfl rfl rfl rfl ?_
 refine ev ?_
 refine sq (fun h1 h1p h1s => ?_) fun h1 h1p h1s => ?_
 ·try simp only [Q] at h1p
  refine sqT ?_
  refine rn0 (r1 rfl) (.eqd ?_)
  all_goals (refine congrArg D.bool ?_; unfold ftsOk; first | (rw [decide_eq_false (by omega), Bool.false_and]; done) | (rw [decide_eq_true (by omega), Bool.true_and]; simp_all; done) | (simp_all; done) | (simp_all; omega))
 ·try simp only [Q] at h1p
  refine Walk.closure (xs := [_]) rfl (.some rfl rfl h1) rfl rfl ?_
  refine Walk.call (cr := []) cal138 (slices_ContainsFunc_Ft_fn (p := fun f => !(typeOk w.length f.arg && typeOk w.length f.res)) hfl cal139 (fun t _ => impl_ok_1_fn hs) ⟨rfl, trivial⟩ rfl rfl) rfl (.some rfl rfl h1) rfl rfl (LeL.refl _) ⟨rfl, trivial⟩ rfl rfl rfl ?_
  refine evs [] [(10, false)] ?_ ⟨⟨_, rfl, h1⟩, trivial⟩
  refine sq (fun h3 h3p h3s => ?_) fun h3 h3p h3s => ?_
  ·try simp only [Q] at h3p
   refine rn0 (r1 rfl) (.eqd ?_)
   all_goals (refine congrArg D.bool ?_; unfold ftsOk; first | (rw [decide_eq_false (by omega), Bool.false_and]; done) | (rw [decide_eq_true (by omega), Bool.true_and]; simp_all; done) | (simp_all; done) | (simp_all; omega))
  ·try simp only [Q] at h3p
   refine Walk.alloc (id := 3003) tz195 rfl .none rfl rfl rfl rfl ?_
   refine tv ?_
   refine CWp.loopX (ι := Unit) hk (fun u => [(19, .d (.i 0))]) [2, 5, 20, 21, 22, 23, 24, 25, 26, 27, 28, 29, 30, 31, 32, 33, 34, 35, 36, 37, 38, 39, 40, 41, 42, 43, 44] (fun u => []) (fun u => True) (fun u => 0) () trivial ⟨⟨_, rfl, (LeA.eqi (by first | rfl | (simp; done) | (simp_all; done) | omega))⟩, trivial⟩ trivial (fun x => rfl) (fun u hg1 => ?_)
   refine evc [] [] ?_
   refine sq (fun h4 h4p h4s => ?_) fun h4 h4p h4s => ?_
   ·try simp only [Q] at h4p
    exfalso; simp at h4 --stop
   ·try simp only [Q] at h4p
    refine rn0 (r1 rfl) (.eqd ?_)
    all_goals (refine congrArg D.bool ?_; unfold ftsOk; first | (rw [decide_eq_false (by omega), Bool.false_and]; done) | (rw [decide_eq_true (by omega), Bool.true_and]; simp_all; done) | (simp_all; done) | (simp_all; omega))
theorem impl_funTypes_fn {l : List Fu} (hl : l.length ≤ 1000000000000) : FnD Tryz.prog 77 [.d (encFus l)] [] (.d (encFts (l.map Fu.ty))) [] := by
 refine bd Tryz.f77 19 [3] [] fun w0 F0 own kept hk => ?_
 refine Walk.assignNil 1 4 .none rfl rfl ?_
 refine tv ?_
 refine CWp.loopX (ι := List (Fu) × List (Fu)) hk (fun x => [(8, .d (.i (x.1.length : Int))), (3, .gl 1 ((x.1.map Fu.ty).map Ft.c))]) [5, 9, 10, 11, 12, 13, 14, 15, 16, 17] (fun x => [(1, some (.tok (((x.1.map Fu.ty).map Ft.c)).length 4))]) (fun x => x.1 ++ x.2 = l) (fun x => x.2.length) ([], l) (by simp) ⟨⟨_, rfl, (LeA.eqi (by first | rfl | (simp; done)))⟩, ⟨⟨_, rfl, (LeA.glg (by first | rfl | (simp; done)))⟩, trivial⟩⟩ ⟨beq_nat_eq (by first | rfl | (simp; done) | (simp; omega) | (first | rfl | (simp; done))), trivial⟩ (fun x => rfl) (fun x hg1 => ?_)
 obtain ⟨pre, rest⟩ := x
 dsimp only at hg1 ⊢
 refine evc [3] [] ?_
 refine sq (fun h1 h1p h1s => ?_) fun h1 h1p h1s => ?_
 ·try simp only [Q] at h1p
  rcases rest with _ | ⟨y, rest⟩
  ·exfalso; simp_all
  refine Walk.idx sl29 .none rfl rfl rfl rfl (zip_at hg1) rfl ?_
  refine evs [3] [] ?_
  refine Walk.alloc (id := 3005) tz118 rfl .none rfl rfl rfl rfl ?_
  refine Walk.store ty118 .none rfl rfl rfl rfl rfl rfl (by simp) rfl ?_
  refine tv ?_
  refine Walk.sliceLit sl109 tz115 rfl (by decide) (ks := [0]) (xs := [_]) rfl rfl (by decide) (by decide) .none rfl rfl rfl rfl ?_
  refine Walk.append sl109 zz115 rfl .none rfl rfl rfl rfl (htokL rfl (by first | rfl | (simp; done) | (simp; omega))) (by simp) (by have hz := congrArg List.length hg1; simp at hz ⊢; omega) (by have hz := congrArg List.length hg1; simp at hz ⊢; omega) ?_
  refine asg ?_
  refine tv ?_
  refine ar ?_
  refine Exists.intro ((pre ++ [y], rest)) ⟨(by have hz := hg1; rw [← hz]; simp), (by simp), Sub.x (by kernel_rfl) (by kernel_rfl) ⟨⟨_, rfl, (LeA.eqi (by first | rfl | (simp; done)))⟩, ⟨⟨_, rfl, (LeA.glg (by first | rfl | (simp; done)))⟩, trivial⟩⟩ (by kernel_rfl) (by kernel_rfl) ⟨beq_nat_eq (by first | rfl | (simp; done) | (simp; omega) | (first | rfl | (simp; done))), trivial⟩⟩
 ·try simp only [Q] at h1p
  have hrest : rest = [] := by
   rcases rest with _ | ⟨a, b⟩
   ·rfl
   ·exfalso; have hz := congrArg List.length (hg1); simp only [List.length_append, List.length_cons, List.length_map] at hz; omega
  subst hrest
  refine rn0 (r1 rfl) (.gld ?_)
  all_goals (first | rfl | (rw [List.append_nil] at hg1; subst hg1; simp; done))
theorem varsOf_len (w : List Data) (t : Ty) (p : Pat) : (varsOf w t p).length ≤ 6 := (someV_ok w 10 t p 0).2
theorem impl_body_fn {w : List Data} (hw : WT w) {fd : D} {t : Ty} {c : Cl} (ht : TyIn w.length t) (hok : c.pat.ok) :
  FnD Tryz.prog 81 [.d (encDatas w), .d fd, .agg [.d (.i t.data), .d (.i t.index)], .agg [.d (.i c.pat.op), .d (.i c.pat.ctor), .d (.i c.pat.n), .d (.i c.pat.m), .d (.i c.pat.var), .d (encPats c.pat.kids), .d (.i c.g.op), .d (.i c.g.var), .d (.i c.g.n)]] [] (.agg [.d (encDatas w), .d fd, .d (encVts (varsOf w t c.pat))]) [] := by
 have ht' : TyIn w.length ⟨t.data, t.index⟩ := ht
 refine bd Tryz.f81 23 [] [] fun w0 F0 own kept hk => ?_
 refine Walk.box (id := 3006) .none rfl rfl rfl rfl rfl rfl rfl ?_
 refine Walk.box (id := 3007) .none rfl rfl rfl rfl rfl rfl rfl ?_
 refine Walk.alloc (id := 3008) tz126 rfl .none rfl rfl rfl rfl ?_
 refine tv ?_
 refine Walk.call (cr := []) cal144 (impl_patternVars_fn hw ht' hok) rfl .none rfl rfl (LeL.refl _) trivial rfl rfl rfl ?_
 refine ev ?_
 refine Walk.build st126 (ks := [0, 1, 2]) (xs := [_, _, _]) rfl rfl .none rfl rfl rfl ?_
 refine Walk.store ty126 .none rfl rfl rfl rfl rfl rfl (by simp) rfl ?_
 refine tv ?_
 refine rn0 (.cons (.cellA ty126 rfl rfl rfl) .nil) (.agg (.cons (.eqd ?_) (.cons (.eqd ?_) (.cons (.eqd ?_) .nil))))
 all_goals (rfl)
theorem impl_guardOk_fn {g : Gd} {vars : List Vt} (hv : vars.length ≤ 1000000000000) : FnD Tryz.prog 219 [.agg [.d (.i g.op), .d (.i g.var), .d (.i g.n)], .d (encVts vars)] [] (.d (.bool (gdOk g vars))) [] := by
 refine bd Tryz.f219 27 [10] [] fun w0 F0 own kept hk => ?_
 refine Walk.box (id := 3002) .none rfl rfl rfl rfl rfl rfl rfl ?_
 refine evs [10] [] ?_
 refine sq (fun h1 h1p h1s => ?_) fun h1 h1p h1s => ?_
 ·try simp only [Q, within] at h1p
  refine Walk.build st133 (ks := []) (xs := []) rfl rfl .none rfl rfl rfl ?_
  refine Walk.eqV eq133 .none rfl rfl rfl rfl rfl ?_
  refine evs [10] [] ?_
  refine rn0 (r1 rfl) (.eqd ?_)
  all_goals (refine congrArg D.bool ?_; unfold gdOk; first | (rw [if_pos (by omega)]; simp_all; done) | (rw [if_neg (by omega)]; simp_all [within]; done) | (rw [if_neg (by omega), decide_eq_false (by omega), Bool.false_and]; done) | (rw [if_neg (by omega), decide_eq_true (by omega), Bool.true_and]; done) | (rw [if_neg (by omega)]; simp_all [within]; omega))
 ·try simp only [Q, within] at h1p
  refine Walk.call (cr := []) cal87 (impl_within_fn) rfl .none rfl rfl (LeL.refl _) trivial rfl rfl rfl ?_
  refine evs [10] [] ?_
  refine sq (fun h2 h2p h2s => ?_) fun h2 h2p h2s => ?_
  ·try simp only [Q, within] at h2p
   refine Walk.call (cr := []) cal87 (impl_within_fn) rfl (.some rfl rfl h2) rfl rfl (LeL.refl _) trivial rfl rfl rfl ?_
   refine evs [10] [(14, true)] ?_ ⟨⟨_, rfl, h2⟩, trivial⟩
   refine sq (fun h3 h3p h3s => ?_) fun h3 h3p h3s => ?_
   ·try simp only [Q, within] at h3p
    refine Walk.build st42 (ks := [0]) (xs := [_]) rfl rfl (.some rfl rfl h3) rfl rfl rfl ?_
    refine Walk.build st197 (ks := [0, 1]) (xs := [_, _]) rfl rfl (.some rfl rfl h3) rfl rfl rfl ?_
    refine Walk.call (cr := []) cal272 (slices_Contains_Vt_fn (v := ⟨g.var, ⟨-1, 0⟩⟩) hv) rfl (.some rfl rfl h3) rfl rfl (LeL.refl _) trivial rfl rfl rfl ?_
    refine evs [10] [(19, true)] ?_ ⟨⟨_, rfl, h3⟩, trivial⟩
    refine rn0 (r1 rfl) (.eqd ?_)
    all_goals (refine congrArg D.bool ?_; unfold gdOk; first | (rw [if_pos (by omega)]; simp_all; done) | (rw [if_neg (by omega)]; simp_all [within]; done) | (rw [if_neg (by omega), decide_eq_false (by omega), Bool.false_and]; done) | (rw [if_neg (by omega), decide_eq_true (by omega), Bool.true_and]; done) | (rw [if_neg (by omega)]; simp_all [within]; omega))
   ·try simp only [Q, within] at h3p
    refine rn0 (r1 rfl) (.eqd ?_)
    all_goals (refine congrArg D.bool ?_; unfold gdOk; first | (rw [if_pos (by omega)]; simp_all; done) | (rw [if_neg (by omega)]; simp_all [within]; done) | (rw [if_neg (by omega), decide_eq_false (by omega), Bool.false_and]; done) | (rw [if_neg (by omega), decide_eq_true (by omega), Bool.true_and]; done) | (rw [if_neg (by omega)]; simp_all [within]; omega))
  ·try simp only [Q, within] at h2p
   refine sqF ?_
   refine rn0 (r1 rfl) (.eqd ?_)
   all_goals (refine congrArg D.bool ?_; unfold gdOk; first | (rw [if_pos (by omega)]; simp_all; done) | (rw [if_neg (by omega)]; simp_all [within]; done) | (rw [if_neg (by omega), decide_eq_false (by omega), Bool.false_and]; done) | (rw [if_neg (by omega), decide_eq_true (by omega), Bool.true_and]; done) | (rw [if_neg (by omega)]; simp_all [within]; omega))
theorem impl_clauseOk_fn {w : List Data} (hw : WT w) {t : Ty} {c : Cl} (ht : TyIn w.length t) (hok : c.pat.ok) :
  FnD Tryz.prog 143 [.d (encDatas w), .agg [.d (.i t.data), .d (.i t.index)], .agg [.d (.i c.pat.op), .d (.i c.pat.ctor), .d (.i c.pat.n), .d (.i c.pat.m), .d (.i c.pat.var), .d (encPats c.pat.kids), .d (.i c.g.op), .d (.i c.g.var), .d (.i c.g.n)]] [] (.d (.bool (clOk w t c))) [] := by
 have ht' : TyIn w.length ⟨t.data, t.index⟩ := ht
 have hvl := varsOf_len w t c.pat
 refine bd Tryz.f143 24 [] [] fun w0 F0 own kept hk => ?_
 refine Walk.box (id := 3004) .none rfl rfl rfl rfl rfl rfl rfl ?_
 refine Walk.box (id := 3005) .none rfl rfl rfl rfl rfl rfl rfl ?_
 refine ev ?_
 refine Walk.call (cr := []) cal144 (impl_patternVars_fn hw ht' hok) rfl .none rfl rfl (LeL.refl _) trivial rfl rfl rfl ?_
 refine ev ?_
 refine sq (fun h1 h1p h1s => ?_) fun h1 h1p h1s => ?_
 ·try simp only [Q] at h1p
  refine Walk.call (cr := []) cal219 (impl_guardOk_fn (g := c.g) (vars := varsOf w t c.pat) (by omega)) rfl (.some rfl rfl h1) rfl rfl (LeL.refl _) trivial rfl rfl rfl ?_
  refine evs [] [(18, true)] ?_ ⟨⟨_, rfl, h1⟩, trivial⟩
  refine rn0 (r1 rfl) (.eqd ?_)
  all_goals (refine congrArg D.bool ?_; unfold clOk; have hte : (⟨t.data, t.index⟩ : Ty) = t := rfl; first | (simp_all; done) | (rw [hte] at *; simp_all; done))
 ·try simp only [Q] at h1p
  refine rn0 (r1 rfl) (.eqd ?_)
  all_goals (refine congrArg D.bool ?_; unfold clOk; have hte : (⟨t.data, t.index⟩ : Ty) = t := rfl; first | (simp_all; done) | (rw [hte] at *; simp_all; done))
theorem impl_ClausesValid_1_fn {w : List Data} (hw : WT w) {a k : Int} {c : Cl} (ht : TyIn w.length ⟨a, k⟩) (hok : c.pat.ok) :
  FnD Tryz.prog 142 [.agg [.d (.i c.pat.op), .d (.i c.pat.ctor), .d (.i c.pat.n), .d (.i c.pat.m), .d (.i c.pat.var), .d (encPats c.pat.kids), .d (.i c.g.op), .d (.i c.g.var), .d (.i c.g.n)], .ref 3003 0, .ref 3004 0] [(3003, some (.box [.d (encDatas w)])), (3004, some (.box [.d (.i a), .d (.i k)]))] (.d (.bool (!clOk w ⟨a, k⟩ c))) [] := by
 refine bd Tryz.f142 10 [] [] fun w0 F0 own kept hk => ?_
 refine Walk.box (id := 3901) .none rfl rfl rfl rfl rfl rfl rfl ?_
 refine ev ?_
 refine Walk.call (cr := []) cal143 (impl_clauseOk_fn (t := ⟨a, k⟩) (c := c) hw ht hok) rfl .none rfl rfl (LeL.refl _) trivial rfl rfl rfl ?_
 refine ev ?_
 refine rn [] (r1 rfl) (.eqd ?_) ⟨rfl, rfl⟩ (SubH.get ⟨rfl, ⟨rfl, trivial⟩⟩) (fun _ h => h)
 all_goals (rfl)
theorem impl_ClausesValid_fn {w : List Data} (hs : WSmall w) {a k : Int} {l : List Cl} (hl : ClsOk l) :
  FnD Tryz.prog 80 [.d (encDatas w), .agg [.d (.i a), .d (.i k)], .d (encCls l)] [] (.d (.bool (clsValid w ⟨a, k⟩ l))) [] := by
 have hll := hl.1
 refine bd Tryz.f80 21 [] [] fun w0 F0 own kept hk => ?_
 refine Walk.box (id := 3003) .none rfl rfl rfl rfl rfl rfl rfl ?_
 refine Walk.box (id := 3004) .none rfl rfl rfl rfl rfl rfl rfl ?_
 refine ev ?_
 refine Walk.call (cr := []) cal98 (impl_TypeValid_fn hs) rfl .none rfl rfl (LeL.refl _) trivial rfl rfl rfl ?_
 refine ev ?_
 refine sq (fun h1 h1p h1s => ?_) fun h1 h1p h1s => ?_
 ·try simp only [Q] at h1p
  refine sq (fun h2 h2p h2s => ?_) fun h2 h2p h2s => ?_
  ·try simp only [Q] at h2p
   refine Walk.closure (xs := [_, _]) rfl (.some rfl rfl h2) rfl rfl ?_
   refine Walk.call (cr := []) cal141 (slices_ContainsFunc_Cl_fn (p := fun c => !clOk w ⟨a, k⟩ c) hl.1 cal142 (fun t htm => impl_ClausesValid_1_fn (valid_wt hs (tv_facts (by assumption)).1) (tv_facts (by assumption)).2.1 (hl.2 t htm)) ⟨rfl, rfl, trivial⟩ rfl rfl) rfl (.some rfl rfl h2) rfl rfl (LeL.refl _) ⟨rfl, rfl, trivial⟩ rfl rfl rfl ?_
   refine evs [] [(15, true)] ?_ ⟨⟨_, rfl, h2⟩, trivial⟩
   refine rn0 (r1 rfl) (.eqd ?_)
   all_goals (refine congrArg D.bool ?_; unfold clsValid; first | (simp_all; done) | (simp_all; omega))
  ·try simp only [Q] at h2p
   refine rn0 (r1 rfl) (.eqd ?_)
   all_goals (refine congrArg D.bool ?_; unfold clsValid; first | (simp_all; done) | (simp_all; omega))
 ·try simp only [Q] at h1p
  refine sqF ?_
  refine rn0 (r1 rfl) (.eqd ?_)
  all_goals (refine congrArg D.bool ?_; unfold clsValid; first | (simp_all; done) | (simp_all; omega))
theorem bodies_len {w : List Data} {funs : List Ft} {f : Fu} (h : ¬ f.bodies.length = f.cls.length) : fuValid w funs f = false := by
 unfold fuValid bodiesOk; rw [all2_len (by omega), Bool.and_false]
theorem bodies_at {w : List Data} {funs : List Ft} {f : Fu} {i : Nat} (hl : f.bodies.length = f.cls.length) (hi : i < f.bodies.length) (h : isE w funs (varsOf w f.ty.arg (nth f.cls i).pat) f.ty.res (nth f.bodies i) = false) : fuValid w funs f = false := by
 unfold fuValid bodiesOk; rw [all2_nth_false (i := i) (by omega) (by omega) h, Bool.and_false]
theorem bodies_all {w : List Data} {funs : List Ft} {f : Fu} (hc : clsValid w f.ty.arg f.cls = true) (hl : f.bodies.length = f.cls.length) (h : ∀ i, i < f.bodies.length → isE w funs (varsOf w f.ty.arg (nth f.cls i).pat) f.ty.res (nth f.bodies i) = true) : fuValid w funs f = true := by
 unfold fuValid bodiesOk; rw [hc, all2_nth_true (by omega) (fun i hi => h i (by omega))]; rfl
theorem fts_in {w : List Data} {funs : List Ft} (h : ftsOk w funs = true) : ∀ f ∈ funs, typeOk w.length f.arg = true ∧ typeOk w.length f.res = true := by
 unfold ftsOk at h
 simp only [Bool.and_eq_true, Bool.not_eq_true', List.any_eq_false, Bool.not_eq_false', decide_eq_true_eq] at h
 intro f hf
 have := h.2 f hf
 simpa using this
theorem all_at {α : Type} {p : α → Bool} {pre rest l : List α} {y : α} (h : pre ++ y :: rest = l) (hy : p y = false) : l.all p = false := by
 subst h; simp [hy]
theorem impl_FunsValid_fn {w : List Data} (hs : WSmall w) {l : List Fu} (hl : FusOk l) : FnD Tryz.prog 17 [.d (encDatas w), .d (encFus l)] [] (.d (.bool (fusValid w l))) [] := by
 have hll := hl.1
 have hfm := fun (y : Fu) (hy : y ∈ l) (ho : ftsOk w (l.map Fu.ty) = true) => fts_in ho y.ty (List.mem_map.2 ⟨y, hy, rfl⟩)
 have hfa := fun (ho : ftsOk w (l.map Fu.ty) = true) (f : Ft) (hf : f ∈ l.map Fu.ty) => typeOk_in (fts_in ho f hf).1
 have hml : (l.map Fu.ty).length ≤ 1000000000000 := by simp; omega
 have hvw := fun (h : worldValid w = true) => valid_wt hs h
 unfold fusValid
 generalize hF : l.map Fu.ty = funs at *
 have hft := impl_funTypes_fn hl.1
 rw [hF] at hft
 refine bd Tryz.f17 72 [] [] fun w0 F0 own kept hk => ?_
 refine Walk.call (cr := []) cal77 (hft) rfl .none rfl rfl (LeL.refl _) trivial rfl rfl rfl ?_
 refine ev ?_
 refine Walk.call (cr := []) cal78 (impl_WorldValid_fn hs) rfl .none rfl rfl (LeL.refl _) trivial rfl rfl rfl ?_
 refine ev ?_
 refine sq (fun h1 h1p h1s => ?_) fun h1 h1p h1s => ?_
 ·try simp only [Q, Int.natCast_inj, Ex.cs_len] at h1p
  refine sqT ?_
  refine rn0 (r1 rfl) (.eqd ?_)
  all_goals (refine congrArg D.bool ?_; first | (simp_all; done) | (rw [all_at hg1.1 (by first | (unfold fuValid; simp_all; done) | (exact bodies_len (by omega)) | (exact bodies_at (i := i) (by omega) (by omega) (by simp_all)))]; simp_all; done) | (rw [List.append_nil] at hg1; obtain ⟨hz, hg2⟩ := hg1; subst hz; simp_all; done))
 ·try simp only [Q, Int.natCast_inj, Ex.cs_len] at h1p
  refine Walk.build st126 (ks := [0, 1]) (xs := [_, _]) rfl rfl (.some rfl rfl h1) rfl rfl rfl ?_
  refine Walk.call (cr := []) cal79 (impl_scopeOk_fn hs.len hml) rfl (.some rfl rfl h1) rfl rfl (.cons (.agg (.cons (.refl _) (.cons (.refl _) (.cons .nil .nil)))) .nil) trivial rfl rfl rfl ?_
  refine evs [] [(15, false)] ?_ ⟨⟨_, rfl, h1⟩, trivial⟩
  refine sq (fun h3 h3p h3s => ?_) fun h3 h3p h3s => ?_
  ·try simp only [Q, Int.natCast_inj, Ex.cs_len] at h3p
   refine rn0 (r1 rfl) (.eqd ?_)
   all_goals (refine congrArg D.bool ?_; first | (simp_all; done) | (rw [all_at hg1.1 (by first | (unfold fuValid; simp_all; done) | (exact bodies_len (by omega)) | (exact bodies_at (i := i) (by omega) (by omega) (by simp_all)))]; simp_all; done) | (rw [List.append_nil] at hg1; obtain ⟨hz, hg2⟩ := hg1; subst hz; simp_all; done))
  ·try simp only [Q, Int.natCast_inj, Ex.cs_len] at h3p
   refine CWp.loopX (ι := List (Fu) × List (Fu)) hk (fun x => [(24, .d (.i (x.1.length : Int)))]) [4, 7, 8, 9, 25, 26, 27, 28, 29, 30, 31, 32, 33, 34, 35, 36, 37, 38, 39, 40, 41, 42, 43, 44, 45, 46, 47, 48, 49, 50, 51, 52, 53, 54, 55, 56, 57, 58, 59, 60, 61, 62, 63, 64, 65, 66, 67, 68, 69, 70, 71] (fun x => []) (fun x => x.1 ++ x.2 = l ∧ x.1.all (fuValid w funs) = true) (fun x => x.2.length) ([], l) ⟨by simp, by simp⟩ ⟨⟨_, rfl, (LeA.eqi (by first | rfl | (simp; done) | (simp_all; done) | omega))⟩, trivial⟩ trivial (fun x => rfl) (fun x hg1 => ?_)
   obtain ⟨pre, rest⟩ := x
   dsimp only at hg1 ⊢
   refine evc [] [] ?_
   refine sq (fun h4 h4p h4s => ?_) fun h4 h4p h4s => ?_
   ·try simp only [Q, Int.natCast_inj, Ex.cs_len] at h4p
    rcases rest with _ | ⟨y, rest⟩
    ·exfalso; simp_all
    have hyl := (hl.2 y (by rw [← hg1.1]; simp)).2.1
    refine Walk.idx sl29 .none rfl rfl rfl rfl (zip_at hg1.1) rfl ?_
    refine ev ?_
    refine Walk.alloc (id := 3007) tz118 rfl .none rfl rfl rfl rfl ?_
    refine Walk.store ty118 .none rfl rfl rfl rfl rfl rfl (by simp) rfl ?_
    refine tv ?_
    refine Walk.call (cr := []) cal80 (impl_ClausesValid_fn hs (hl.2 y (by rw [← hg1.1]; simp)).1) rfl .none rfl rfl (LeL.refl _) trivial rfl rfl rfl ?_
    refine ev ?_
    refine sq (fun h5 h5p h5s => ?_) fun h5 h5p h5s => ?_
    ·try simp only [Q, Int.natCast_inj, Ex.cs_len] at h5p
     refine sqT ?_
     refine rn0 (r1 rfl) (.eqd ?_)
     all_goals (refine congrArg D.bool ?_; first | (simp_all; done) | (rw [all_at hg1.1 (by first | (unfold fuValid; simp_all; done) | (exact bodies_len (by omega)) | (exact bodies_at (i := i) (by omega) (by omega) (by simp_all)))]; simp_all; done) | (rw [List.append_nil] at hg1; obtain ⟨hz, hg2⟩ := hg1; subst hz; simp_all; done))
    ·try simp only [Q, Int.natCast_inj, Ex.cs_len] at h5p
     refine sq (fun h7 h7p h7s => ?_) fun h7 h7p h7s => ?_
     ·try simp only [Q, Int.natCast_inj, Ex.cs_len] at h7p
      refine rn0 (r1 rfl) (.eqd ?_)
      all_goals (refine congrArg D.bool ?_; first | (simp_all; done) | (rw [all_at hg1.1 (by first | (unfold fuValid; simp_all; done) | (exact bodies_len (by omega)) | (exact bodies_at (i := i) (by omega) (by omega) (by simp_all)))]; simp_all; done) | (rw [List.append_nil] at hg1; obtain ⟨hz, hg2⟩ := hg1; subst hz; simp_all; done))
     ·try simp only [Q, Int.natCast_inj, Ex.cs_len] at h7p
      refine CWp.loopX (ι := Nat) hk (fun i => [(48, .d (.i (i : Int)))]) [4, 8, 9, 49, 50, 51, 52, 53, 54, 55, 56, 57, 58, 59, 60, 61, 62, 63, 64, 65, 66, 67, 68, 69, 70] (fun i => []) (fun i => i ≤ y.bodies.length ∧ ∀ i', i' < i → isE w funs (varsOf w y.ty.arg (nth y.cls i').pat) y.ty.res (nth y.bodies i') = true) (fun i => y.bodies.length - i) 0 ⟨by omega, fun _ h => absurd h (by omega)⟩ ⟨⟨_, rfl, (LeA.eqi (by first | rfl | (simp; done) | (simp_all; done) | omega))⟩, trivial⟩ trivial (fun x => rfl) (fun i hg2 => ?_)
      refine evc [] [] ?_
      refine sq (fun h8 h8p h8s => ?_) fun h8 h8p h8s => ?_
      ·try simp only [Q, Int.natCast_inj, Ex.cs_len] at h8p
       refine Walk.idx sl116 .none rfl rfl rfl rfl (exs_at (by omega)) rfl ?_
       refine ev ?_
       refine Walk.alloc (id := 3009) tz130 rfl .none rfl rfl rfl rfl ?_
       refine ev ?_
       refine Walk.store ty130 .none rfl rfl rfl rfl rfl rfl (by simp) rfl ?_
       refine tv ?_
       refine Walk.idx sl44 .none rfl rfl rfl rfl (at_nth (by omega)) rfl ?_
       refine evd [] [] ?_
       refine Walk.call (cr := []) cal81 (impl_body_fn (hvw (by assumption)) (t := y.ty.arg) (c := nth y.cls i) (typeOk_in (hfm y (by rw [← hg1.1]; simp) (by assumption)).1) ((hl.2 y (by rw [← hg1.1]; simp)).1.2 _ (nth_mem (by omega)))) rfl .none rfl rfl (LeL.refl _) trivial rfl rfl rfl ?_
       refine evd [] [] ?_
       refine Walk.call (cr := []) cal82 (impl_expr_fn (hvw (by assumption)) hml (by have := varsOf_len w y.ty.arg (nth y.cls i).pat; omega) (hfa (by assumption)) (t := y.ty.res) (e := nth y.bodies i) (typeOk_in (hfm y (by rw [← hg1.1]; simp) (by assumption)).2) (Exs.ok_mem (hl.2 y (by rw [← hg1.1]; simp)).2.2 _ (nth_mem (by omega)))) rfl .none rfl rfl (LeL.refl _) trivial rfl rfl rfl ?_
       refine evd [] [] ?_
       refine dr ?_
       refine sq (fun h9 h9p h9s => ?_) fun h9 h9p h9s => ?_
       ·try simp only [Q, Int.natCast_inj, Ex.cs_len] at h9p
        refine rn0 (r1 rfl) (.eqd ?_)
        all_goals (refine congrArg D.bool ?_; first | (simp_all; done) | (rw [all_at hg1.1 (by first | (unfold fuValid; simp_all; done) | (exact bodies_len (by omega)) | (exact bodies_at (i := i) (by omega) (by omega) (by simp_all)))]; simp_all; done) | (rw [List.append_nil] at hg1; obtain ⟨hz, hg2⟩ := hg1; subst hz; simp_all; done))
       ·try simp only [Q, Int.natCast_inj, Ex.cs_len] at h9p
        refine ar ?_
        refine Exists.intro (i + 1) ⟨⟨by omega, upto_succ hg2.2 (by simp_all)⟩, (by omega), Sub.x (by kernel_rfl) (by kernel_rfl) ⟨⟨_, rfl, (LeA.eqi (by first | rfl | (simp; done) | (simp_all; done) | omega))⟩, trivial⟩ (by kernel_rfl) (by kernel_rfl) trivial⟩
      ·try simp only [Q, Int.natCast_inj, Ex.cs_len] at h8p
       refine ar ?_
       refine Exists.intro ((pre ++ [y], rest)) ⟨⟨(by have hz := hg1.1; rw [← hz]; simp), (by rw [List.all_append, hg1.2]; simp only [List.all_cons, List.all_nil, Bool.and_true, Bool.true_and]; exact bodies_all (by simp_all) (by omega) (fun i' hi' => hg2.2 i' (by omega)))⟩, (by simp), Sub.x (by kernel_rfl) (by kernel_rfl) ⟨⟨_, rfl, (LeA.eqi (by first | rfl | (simp; done) | (simp_all; done) | omega))⟩, trivial⟩ (by kernel_rfl) (by kernel_rfl) trivial⟩
   ·try simp only [Q, Int.natCast_inj, Ex.cs_len] at h4p
    have hrest : rest = [] := by
     rcases rest with _ | ⟨a, b⟩
     ·rfl
     ·exfalso; have hz := congrArg List.length (hg1.1); simp only [List.length_append, List.length_cons, List.length_map] at hz; omega
    subst hrest
    refine rn0 (r1 rfl) (.eqd ?_)
    all_goals (refine congrArg D.bool ?_; first | (simp_all; done) | (rw [all_at hg1.1 (by first | (unfold fuValid; simp_all; done) | (exact bodies_len (by omega)) | (exact bodies_at (i := i) (by omega) (by omega) (by simp_all)))]; simp_all; done) | (rw [List.append_nil] at hg1; obtain ⟨hz, hg2⟩ := hg1; subst hz; simp_all; done))
def AZ (w : List Data) : Prop := ∀ t c, c ∈ vctors w t → TyIn w.length t → ∀ u ∈ argsOf w t c, u.data = -1 → u.index = 0
theorem valid_az {w : List Data} (hv : worldValid w = true) : AZ w := by
 have hW := (worldValid_iff w).1 hv
 rintro ⟨a, k⟩ c hc ht u hu hd
 obtain ⟨d, rfl, h1, j, rfl, h3⟩ := vctors_data ht hc
 have hco := hW.ctor _ (nth_mem h1) _ (nth_mem h3)
 simp only [ctorOk, Bool.and_eq_true, decide_eq_true_eq, Bool.not_eq_true', List.any_eq_false, Bool.not_eq_false'] at hco
 have hall := hco.2.2.2
 simp only [argsOf, Int.toNat_natCast] at hu
 obtain ⟨x, hx, rfl⟩ := List.mem_map.1 hu
 have hxo := hall x hx
 simp only [argOk, within, Bool.or_eq_true, Bool.and_eq_true, decide_eq_true_eq, and_true, Bool.not_eq_true', Bool.not_eq_false] at hxo
 unfold argTy at hd ⊢
 split at hd
 ·rename_i hi
  rw [if_pos hi]
  dsimp only at hd ⊢
  omega
 ·rename_i hi
  rw [if_neg hi]
  omega
theorem typeOk_ok {n : Nat} {t : Ty} (h : typeOk n t = true) : TyOk n t := by
 refine ⟨typeOk_in h, fun hd => ?_⟩
 simp only [typeOk, within, Bool.or_eq_true, Bool.and_eq_true, decide_eq_true_eq, and_true] at h
 omega
theorem typesE_ok {w : List Data} (hw : WT w) (haz : AZ w) {funs : List Ft} (hf : ∀ f ∈ funs, TyOk w.length f.arg) {t : Ty} (ht : TyOk w.length t) {e : Ex} : ∀ u ∈ typesE w funs t e, TyOk w.length u := by
 intro u hu
 refine ⟨typesE_in hw (fun f h => (hf f h).1) ht.1 u hu, fun hd => ?_⟩
 unfold typesE at hu
 split at hu
 ·split at hu
  ·rename_i h; exact haz t e.ctor h.2 ht.1 u hu hd
  ·simp at hu
 ·split at hu
  ·simp only [List.mem_cons, List.not_mem_nil, or_false, or_self] at hu
   rw [hu] at hd ⊢; exact ht.2 hd
  ·split at hu
   ·split at hu
    ·rename_i h
     simp only [List.mem_cons, List.not_mem_nil, or_false] at hu
     rw [hu] at hd ⊢; exact (hf _ (nth_mem (by omega))).2 hd
    ·simp at hu
   ·simp at hu
theorem spec_l12Fits_fn {a b : Ty} : FnD Tryz.prog 300 [.agg [.d (.i a.data), .d (.i a.index)], .agg [.d (.i b.data), .d (.i b.index)]] [] (.d (.bool (fitsT a b))) [] := by
 refine bd Tryz.f300 22 [] [] fun w0 F0 own kept hk => ?_
 refine Walk.box (id := 3002) .none rfl rfl rfl rfl rfl rfl rfl ?_
 refine Walk.box (id := 3003) .none rfl rfl rfl rfl rfl rfl rfl ?_
 refine ev ?_
 refine sq (fun h1 h1p h1s => ?_) fun h1 h1p h1s => ?_
 ·try simp only [Q] at h1p
  refine sq (fun h2 h2p h2s => ?_) fun h2 h2p h2s => ?_
  ·try simp only [Q] at h2p
   refine rn0 (r1 rfl) (.eqd ?_)
   all_goals (refine congrArg D.bool ?_; unfold fitsT; simp_all)
  ·try simp only [Q] at h2p
   refine rn0 (r1 rfl) (.eqd ?_)
   all_goals (refine congrArg D.bool ?_; unfold fitsT; simp_all)
 ·try simp only [Q] at h1p
  refine rn0 (r1 rfl) (.eqd ?_)
  all_goals (refine congrArg D.bool ?_; unfold fitsT; simp_all)
def numT : Ty := ⟨-1, 0⟩
def typesS (w : List Data) (funs : List Ft) (t : Ty) (e : Ex) : List Ty :=
 if (e.op ≠ 3 ∧ e.ctor ≠ 0) ∨ ((e.op = 3 ∨ e.op = 4) ∧ e.n ≠ 0) then [] else if e.op = 4 then [numT, numT] else typesE w funs t e
theorem typesS_eq {w : List Data} {funs : List Ft} {vars : List Vt} {t : Ty} (ht : TyOk w.length t) {e : Ex} (h : okE w funs vars t e = true) : typesS w funs t e = typesE w funs t e := by
 have hop : e.op = 1 ∨ e.op = 2 ∨ e.op = 3 ∨ e.op = 4 ∨ e.op = 5 := by
  by_cases h0 : e.op ≠ 1 ∧ e.op ≠ 2 ∧ e.op ≠ 3 ∧ e.op ≠ 4 ∧ e.op ≠ 5
  ·rw [ok_0 h0] at h; exact absurd h (by simp)
  ·omega
 unfold typesS
 rcases hop with h1 | h1 | h1 | h1 | h1
 ·rw [ok_1 h1] at h
  have := of_decide_eq_true h
  rw [if_neg (by omega), if_neg (by omega)]
 ·rw [ok_2 h1] at h
  simp only [Bool.and_eq_true, decide_eq_true_eq] at h
  rw [if_neg (by omega), if_neg (by omega)]
 ·rw [ok_3 h1] at h
  have := of_decide_eq_true h
  rw [if_neg (by omega), if_neg (by omega)]
 ·rw [ok_4 h1] at h
  have := of_decide_eq_true h
  rw [if_neg (by omega), if_pos h1, ty_4 h1]
  have h2 := ht.2 this.1
  have h3 : t = numT := by
   obtain ⟨a, k⟩ := t
   have h4 := this.1
   dsimp only at h2 h4
   rw [h4, h2]; rfl
  rw [h3]
 ·rw [ok_5 h1] at h
  simp only [Bool.and_eq_true, decide_eq_true_eq] at h
  rw [if_neg (by omega), if_neg (by omega)]
section
variable {w : List Data} {funs : List Ft} {vars : List Vt} {t : Ty} {e : Ex}
theorem ts_x (h : (e.op ≠ 3 ∧ e.ctor ≠ 0) ∨ ((e.op = 3 ∨ e.op = 4) ∧ e.n ≠ 0)) : typesS w funs t e = [] := by unfold typesS; rw [if_pos h]
theorem ts_4 (h : ¬ ((e.op ≠ 3 ∧ e.ctor ≠ 0) ∨ ((e.op = 3 ∨ e.op = 4) ∧ e.n ≠ 0))) (h4 : e.op = 4) : typesS w funs t e = [numT, numT] := by unfold typesS; rw [if_neg h, if_pos h4]
theorem ts_o (h : ¬ ((e.op ≠ 3 ∧ e.ctor ≠ 0) ∨ ((e.op = 3 ∨ e.op = 4) ∧ e.n ≠ 0))) (h4 : e.op ≠ 4) : typesS w funs t e = typesE w funs t e := by unfold typesS; rw [if_neg h, if_neg h4]
theorem ok_x (h : (e.op ≠ 3 ∧ e.ctor ≠ 0) ∨ ((e.op = 3 ∨ e.op = 4) ∧ e.n ≠ 0)) : okE w funs vars t e = false := by
 unfold okE
 split
 ·exact decide_eq_false (by omega)
 ·split
  ·rw [decide_eq_false (p := e.ctor = 0) (by omega), Bool.and_false, Bool.and_false]
  ·split
   ·exact decide_eq_false (by omega)
   ·split
    ·exact decide_eq_false (by omega)
    ·split
     ·rw [decide_eq_false (by omega), Bool.false_and]
     ·rfl
end
theorem spec_l12Kids_fn {w : List Data} {funs : List Ft} {vars : List Vt} (hw : WT w) (hfl : funs.length ≤ 1000000000000) (hvl : vars.length ≤ 1000000000000) {t : Ty} (ht : TyOk w.length t) {e : Ex} :
  FnD Tryz.prog 270 [.d (encDatas w), .d (encFts funs), .d (encVts vars), .agg [.d (.i t.data), .d (.i t.index)], .agg [.d (.i e.op), .d (.i e.n), .d (.i e.ctor), .d (encExs e.kids)]] [] (.tup [.d (encTys (typesS w funs t e)), .d (.bool (okE w funs vars t e))]) [] := by
 have ht' : TyIn w.length ⟨t.data, t.index⟩ := ht.1
 have hcl := vctors_len hw ht'
 have hlt := fun h => findV_lt (l := vars) (n := e.n) h
 have hvt : 0 ≤ findV vars e.n → varTy vars e.n = (nth vars (findV vars e.n).toNat).ty := fun h => by unfold varTy; rw [if_pos h]
 have hte : t = numT ↔ (t.data = -1 ∧ t.index = 0) := by
  constructor
  ·intro h; rw [h]; exact ⟨rfl, rfl⟩
  ·rintro ⟨h1, h2⟩; obtain ⟨a, k⟩ := t; dsimp only at h1 h2; rw [h1, h2]; rfl
 have ht2 := ht.2
 by_cases hx : (e.op ≠ 3 ∧ e.ctor ≠ 0) ∨ ((e.op = 3 ∨ e.op = 4) ∧ e.n ≠ 0)
 ·rw [ts_x hx, ok_x hx]
  refine bd Tryz.f270 123 [] [2] fun w0 F0 own kept hk => ?_
  refine Walk.box (id := 3008) .none rfl rfl rfl rfl rfl rfl rfl ?_
  refine Walk.box (id := 3009) .none rfl rfl rfl rfl rfl rfl rfl ?_
  refine ev ?_
  refine Walk.build st42 (ks := [0]) (xs := [_]) rfl rfl .none rfl rfl rfl ?_
  refine Walk.alloc (id := 3012) tz42 rfl .none rfl rfl rfl rfl ?_
  refine Walk.store ty42 .none rfl rfl rfl rfl rfl rfl (by simp) rfl ?_
  refine tv ?_
  refine CWp.regionJ ?_
  refine WRest.join 23 [(37, .d (.bool (decide ((e.op ≠ 3 ∧ e.ctor ≠ 0) ∨ ((e.op = 3 ∨ e.op = 4) ∧ e.n ≠ 0)))))] [15, 16, 17, 18, 19, 20, 21, 22, 23, 24, 25, 26, 27, 28, 29, 30, 31, 32, 33, 34, 35, 36] ?_ ?_
  ·
   refine ev ?_
   refine sq (fun h1 h1p h1s => ?_) fun h1 h1p h1s => ?_
   ·try simp only [Q] at h1p
    refine sq (fun h2 h2p h2s => ?_) fun h2 h2p h2s => ?_
    ·try simp only [Q] at h2p
     exact jn rfl (LeA.eqb (by (first | rfl | (rw [Bool.eq_iff_iff]; simp_all; done) | (rw [Bool.eq_iff_iff]; simp_all; omega))))
    ·try simp only [Q] at h2p
     refine sq (fun h3 h3p h3s => ?_) fun h3 h3p h3s => ?_
     ·try simp only [Q] at h3p
      refine sqT ?_
      exact jn rfl (LeA.eqb (by (first | rfl | (rw [Bool.eq_iff_iff]; simp_all; done) | (rw [Bool.eq_iff_iff]; simp_all; omega))))
     ·try simp only [Q] at h3p
      refine sq (fun h4 h4p h4s => ?_) fun h4 h4p h4s => ?_
      ·try simp only [Q] at h4p
       exact jn rfl (LeA.eqb (by (first | rfl | (rw [Bool.eq_iff_iff]; simp_all; done) | (rw [Bool.eq_iff_iff]; simp_all; omega))))
      ·try simp only [Q] at h4p
       exact jn rfl (LeA.eqb (by (first | rfl | (rw [Bool.eq_iff_iff]; simp_all; done) | (rw [Bool.eq_iff_iff]; simp_all; omega))))
   ·try simp only [Q] at h1p
    refine sqF ?_
    refine sq (fun h5 h5p h5s => ?_) fun h5 h5p h5s => ?_
    ·try simp only [Q] at h5p
     refine sqT ?_
     exact jn rfl (LeA.eqb (by (first | rfl | (rw [Bool.eq_iff_iff]; simp_all; done) | (rw [Bool.eq_iff_iff]; simp_all; omega))))
    ·try simp only [Q] at h5p
     refine sq (fun h6 h6p h6s => ?_) fun h6 h6p h6s => ?_
     ·try simp only [Q] at h6p
      exact jn rfl (LeA.eqb (by (first | rfl | (rw [Bool.eq_iff_iff]; simp_all; done) | (rw [Bool.eq_iff_iff]; simp_all; omega))))
     ·try simp only [Q] at h6p
      exact jn rfl (LeA.eqb (by (first | rfl | (rw [Bool.eq_iff_iff]; simp_all; done) | (rw [Bool.eq_iff_iff]; simp_all; omega))))
  refine WRest.done ?_
  refine tv ?_
  refine sq (fun h7 h7p h7s => ?_) fun h7 h7p h7s => ?_
  ·try simp only [Q] at h7p
   refine rn0 (r2 rfl rfl) (.tup (.cons (.nild ?_) (.cons (.eqd ?_) .nil)))
   all_goals (rfl)
  ·try simp only [Q] at h7p
   exfalso; first | (simp_all; done) | (simp_all; omega) --stop
 by_cases hmem : e.ctor ∈ vctors w t
 ·have hmem' : e.ctor ∈ vctors w ⟨t.data, t.index⟩ := hmem
  have hcon := spec_l1Has_fn (v := e.ctor) hcl
  refine bd Tryz.f270 123 [45, 81] [2] fun w0 F0 own kept hk => ?_
  refine Walk.box (id := 3008) .none rfl rfl rfl rfl rfl rfl rfl ?_
  refine Walk.box (id := 3009) .none rfl rfl rfl rfl rfl rfl rfl ?_
  refine evs [45, 81] [] ?_
  refine Walk.build st42 (ks := [0]) (xs := [_]) rfl rfl .none rfl rfl rfl ?_
  refine Walk.alloc (id := 3012) tz42 rfl .none rfl rfl rfl rfl ?_
  refine Walk.store ty42 .none rfl rfl rfl rfl rfl rfl (by simp) rfl ?_
  refine tv ?_
  refine CWp.regionJ ?_
  refine WRest.join 23 [(37, .d (.bool (decide ((e.op ≠ 3 ∧ e.ctor ≠ 0) ∨ ((e.op = 3 ∨ e.op = 4) ∧ e.n ≠ 0)))))] [15, 16, 17, 18, 19, 20, 21, 22, 23, 24, 25, 26, 27, 28, 29, 30, 31, 32, 33, 34, 35, 36] ?_ ?_
  ·
   refine evs [45, 81] [] ?_
   refine sq (fun h1 h1p h1s => ?_) fun h1 h1p h1s => ?_
   ·try simp only [Q] at h1p
    refine sq (fun h2 h2p h2s => ?_) fun h2 h2p h2s => ?_
    ·try simp only [Q] at h2p
     exact jn rfl (LeA.eqb (by (first | rfl | (rw [Bool.eq_iff_iff]; simp_all; done) | (rw [Bool.eq_iff_iff]; simp_all; omega))))
    ·try simp only [Q] at h2p
     refine sq (fun h3 h3p h3s => ?_) fun h3 h3p h3s => ?_
     ·try simp only [Q] at h3p
      refine sqT ?_
      exact jn rfl (LeA.eqb (by (first | rfl | (rw [Bool.eq_iff_iff]; simp_all; done) | (rw [Bool.eq_iff_iff]; simp_all; omega))))
     ·try simp only [Q] at h3p
      refine sq (fun h4 h4p h4s => ?_) fun h4 h4p h4s => ?_
      ·try simp only [Q] at h4p
       exact jn rfl (LeA.eqb (by (first | rfl | (rw [Bool.eq_iff_iff]; simp_all; done) | (rw [Bool.eq_iff_iff]; simp_all; omega))))
      ·try simp only [Q] at h4p
       exact jn rfl (LeA.eqb (by (first | rfl | (rw [Bool.eq_iff_iff]; simp_all; done) | (rw [Bool.eq_iff_iff]; simp_all; omega))))
   ·try simp only [Q] at h1p
    refine sqF ?_
    refine sq (fun h5 h5p h5s => ?_) fun h5 h5p h5s => ?_
    ·try simp only [Q] at h5p
     refine sqT ?_
     exact jn rfl (LeA.eqb (by (first | rfl | (rw [Bool.eq_iff_iff]; simp_all; done) | (rw [Bool.eq_iff_iff]; simp_all; omega))))
    ·try simp only [Q] at h5p
     refine sq (fun h6 h6p h6s => ?_) fun h6 h6p h6s => ?_
     ·try simp only [Q] at h6p
      exact jn rfl (LeA.eqb (by (first | rfl | (rw [Bool.eq_iff_iff]; simp_all; done) | (rw [Bool.eq_iff_iff]; simp_all; omega))))
     ·try simp only [Q] at h6p
      exact jn rfl (LeA.eqb (by (first | rfl | (rw [Bool.eq_iff_iff]; simp_all; done) | (rw [Bool.eq_iff_iff]; simp_all; omega))))
  refine WRest.done ?_
  refine tv ?_
  refine sq (fun h7 h7p h7s => ?_) fun h7 h7p h7s => ?_
  ·try simp only [Q] at h7p
   exfalso; apply hx; omega --stop
  ·try simp only [Q] at h7p
   refine sq (fun h8 h8p h8s => ?_) fun h8 h8p h8s => ?_
   ·try simp only [Q] at h8p
    refine Walk.sliceEmpty sl182 .none rfl ?_
    refine evd [45, 81] [] ?_
    refine Walk.eqV eq42 .none rfl rfl rfl rfl rfl ?_
    refine evd [45, 81] [] ?_
    refine sq (fun h9 h9p h9s => ?_) fun h9 h9p h9s => ?_
    ·try simp only [Q] at h9p
     refine sq (fun h10 h10p h10s => ?_) fun h10 h10p h10s => ?_
     ·try simp only [Q] at h10p
      refine dr ?_
      refine rn0 (r2 rfl rfl) (.tup (.cons (.eqd ?_) (.cons (.eqd ?_) .nil)))
      all_goals (first | rfl | (rw [ts_4 hx (by omega)]; all_goals rfl) | (rw [ts_o hx (by omega), ty_0 (by omega)]; all_goals rfl) | (rw [ts_o hx (by omega), ty_3 (by omega) (by omega) hmem]; all_goals rfl) | (rw [ts_o hx (by omega), ty_5n (by omega) (by omega)]; all_goals rfl) | (rw [ts_o hx (by omega), ty_5 (by omega) (by omega)]; all_goals rfl) | (refine congrArg D.bool ?_; rw [ok_1 (by omega), decide_eq_false (by omega)]; done) | (refine congrArg D.bool ?_; rw [ok_1 (by omega)]; simp_all; done) | (refine congrArg D.bool ?_; rw [ok_2 (by omega), decide_eq_false (by omega), Bool.false_and]; done) | (refine congrArg D.bool ?_; rw [ok_2 (by omega), hvt (by omega)]; simp_all; done) | (refine congrArg D.bool ?_; rw [ok_3 (by omega)]; simp_all; done) | (refine congrArg D.bool ?_; rw [ok_4 (by omega)]; simp_all; done) | (refine congrArg D.bool ?_; rw [ok_5 (by omega)]; first | (rw [decide_eq_true (by omega), Bool.true_and]; done) | (rw [decide_eq_false (by omega), Bool.false_and]; done)) | (refine congrArg D.bool ?_; rw [ok_0 (by omega)]; done) | (exfalso; simp_all; done))
     ·try simp only [Q] at h10p
      refine dr ?_
      refine rn0 (r2 rfl rfl) (.tup (.cons (.eqd ?_) (.cons (.eqd ?_) .nil)))
      all_goals (first | rfl | (rw [ts_4 hx (by omega)]; all_goals rfl) | (rw [ts_o hx (by omega), ty_0 (by omega)]; all_goals rfl) | (rw [ts_o hx (by omega), ty_3 (by omega) (by omega) hmem]; all_goals rfl) | (rw [ts_o hx (by omega), ty_5n (by omega) (by omega)]; all_goals rfl) | (rw [ts_o hx (by omega), ty_5 (by omega) (by omega)]; all_goals rfl) | (refine congrArg D.bool ?_; rw [ok_1 (by omega), decide_eq_false (by omega)]; done) | (refine congrArg D.bool ?_; rw [ok_1 (by omega)]; simp_all; done) | (refine congrArg D.bool ?_; rw [ok_2 (by omega), decide_eq_false (by omega), Bool.false_and]; done) | (refine congrArg D.bool ?_; rw [ok_2 (by omega), hvt (by omega)]; simp_all; done) | (refine congrArg D.bool ?_; rw [ok_3 (by omega)]; simp_all; done) | (refine congrArg D.bool ?_; rw [ok_4 (by omega)]; simp_all; done) | (refine congrArg D.bool ?_; rw [ok_5 (by omega)]; first | (rw [decide_eq_true (by omega), Bool.true_and]; done) | (rw [decide_eq_false (by omega), Bool.false_and]; done)) | (refine congrArg D.bool ?_; rw [ok_0 (by omega)]; done) | (exfalso; simp_all; done))
    ·try simp only [Q] at h9p
     refine sqF ?_
     refine dr ?_
     refine rn0 (r2 rfl rfl) (.tup (.cons (.eqd ?_) (.cons (.eqd ?_) .nil)))
     all_goals (first | rfl | (rw [ts_4 hx (by omega)]; all_goals rfl) | (rw [ts_o hx (by omega), ty_0 (by omega)]; all_goals rfl) | (rw [ts_o hx (by omega), ty_3 (by omega) (by omega) hmem]; all_goals rfl) | (rw [ts_o hx (by omega), ty_5n (by omega) (by omega)]; all_goals rfl) | (rw [ts_o hx (by omega), ty_5 (by omega) (by omega)]; all_goals rfl) | (refine congrArg D.bool ?_; rw [ok_1 (by omega), decide_eq_false (by omega)]; done) | (refine congrArg D.bool ?_; rw [ok_1 (by omega)]; simp_all; done) | (refine congrArg D.bool ?_; rw [ok_2 (by omega), decide_eq_false (by omega), Bool.false_and]; done) | (refine congrArg D.bool ?_; rw [ok_2 (by omega), hvt (by omega)]; simp_all; done) | (refine congrArg D.bool ?_; rw [ok_3 (by omega)]; simp_all; done) | (refine congrArg D.bool ?_; rw [ok_4 (by omega)]; simp_all; done) | (refine congrArg D.bool ?_; rw [ok_5 (by omega)]; first | (rw [decide_eq_true (by omega), Bool.true_and]; done) | (rw [decide_eq_false (by omega), Bool.false_and]; done)) | (refine congrArg D.bool ?_; rw [ok_0 (by omega)]; done) | (exfalso; simp_all; done))
   ·try simp only [Q] at h8p
    refine sq (fun h11 h11p h11s => ?_) fun h11 h11p h11s => ?_
    ·try simp only [Q] at h11p
     refine Walk.call (cr := []) cal282 (spec_l3Find_fn hvl) rfl .none rfl rfl (LeL.refl _) trivial rfl rfl rfl ?_
     refine evs [45, 81] [] ?_
     refine Walk.sliceEmpty sl182 .none rfl ?_
     refine evd [45, 81] [] ?_
     refine sq (fun h12 h12p h12s => ?_) fun h12 h12p h12s => ?_
     ·try simp only [Q] at h12p
      refine Walk.idx (i := (findV vars e.n).toNat) sl124 (.some rfl rfl h12) rfl rfl rfl (by have := hlt (by omega); omega) (at_nth (by have := hlt (by omega); omega)) rfl ?_
      refine evd [45, 81] [(65, true)] ?_ ⟨⟨_, rfl, h12⟩, trivial⟩
      refine Walk.call (cr := []) cal300 (spec_l12Fits_fn (a := (nth vars (findV vars e.n).toNat).ty) (b := t)) rfl (.some rfl rfl h12) rfl rfl (LeL.refl _) trivial rfl rfl rfl ?_
      refine evd [45, 81] [(65, true)] ?_ ⟨⟨_, rfl, h12⟩, trivial⟩
      refine dr ?_
      refine rn0 (r2 rfl rfl) (.tup (.cons (.eqd ?_) (.cons (.eqd ?_) .nil)))
      all_goals (first | rfl | (rw [ts_4 hx (by omega)]; all_goals rfl) | (rw [ts_o hx (by omega), ty_0 (by omega)]; all_goals rfl) | (rw [ts_o hx (by omega), ty_3 (by omega) (by omega) hmem]; all_goals rfl) | (rw [ts_o hx (by omega), ty_5n (by omega) (by omega)]; all_goals rfl) | (rw [ts_o hx (by omega), ty_5 (by omega) (by omega)]; all_goals rfl) | (refine congrArg D.bool ?_; rw [ok_1 (by omega), decide_eq_false (by omega)]; done) | (refine congrArg D.bool ?_; rw [ok_1 (by omega)]; simp_all; done) | (refine congrArg D.bool ?_; rw [ok_2 (by omega), decide_eq_false (by omega), Bool.false_and]; done) | (refine congrArg D.bool ?_; rw [ok_2 (by omega), hvt (by omega)]; simp_all; done) | (refine congrArg D.bool ?_; rw [ok_3 (by omega)]; simp_all; done) | (refine congrArg D.bool ?_; rw [ok_4 (by omega)]; simp_all; done) | (refine congrArg D.bool ?_; rw [ok_5 (by omega)]; first | (rw [decide_eq_true (by omega), Bool.true_and]; done) | (rw [decide_eq_false (by omega), Bool.false_and]; done)) | (refine congrArg D.bool ?_; rw [ok_0 (by omega)]; done) | (exfalso; simp_all; done))
     ·try simp only [Q] at h12p
      refine dr ?_
      refine rn0 (r2 rfl rfl) (.tup (.cons (.eqd ?_) (.cons (.eqd ?_) .nil)))
      all_goals (first | rfl | (rw [ts_4 hx (by omega)]; all_goals rfl) | (rw [ts_o hx (by omega), ty_0 (by omega)]; all_goals rfl) | (rw [ts_o hx (by omega), ty_3 (by omega) (by omega) hmem]; all_goals rfl) | (rw [ts_o hx (by omega), ty_5n (by omega) (by omega)]; all_goals rfl) | (rw [ts_o hx (by omega), ty_5 (by omega) (by omega)]; all_goals rfl) | (refine congrArg D.bool ?_; rw [ok_1 (by omega), decide_eq_false (by omega)]; done) | (refine congrArg D.bool ?_; rw [ok_1 (by omega)]; simp_all; done) | (refine congrArg D.bool ?_; rw [ok_2 (by omega), decide_eq_false (by omega), Bool.false_and]; done) | (refine congrArg D.bool ?_; rw [ok_2 (by omega), hvt (by omega)]; simp_all; done) | (refine congrArg D.bool ?_; rw [ok_3 (by omega)]; simp_all; done) | (refine congrArg D.bool ?_; rw [ok_4 (by omega)]; simp_all; done) | (refine congrArg D.bool ?_; rw [ok_5 (by omega)]; first | (rw [decide_eq_true (by omega), Bool.true_and]; done) | (rw [decide_eq_false (by omega), Bool.false_and]; done)) | (refine congrArg D.bool ?_; rw [ok_0 (by omega)]; done) | (exfalso; simp_all; done))
    ·try simp only [Q] at h11p
     refine sq (fun h13 h13p h13s => ?_) fun h13 h13p h13s => ?_
     ·try simp only [Q] at h13p
      refine Walk.sliceLit sl182 tz42 rfl (by decide) (ks := [0, 1]) (xs := [_, _]) rfl rfl (by decide) (by decide) .none rfl rfl rfl rfl ?_
      refine evd [45, 81] [] ?_
      refine Walk.eqV eq42 .none rfl rfl rfl rfl rfl ?_
      refine evd [45, 81] [] ?_
      refine dr ?_
      refine rn0 (r2 rfl rfl) (.tup (.cons (.eqd ?_) (.cons (.eqd ?_) .nil)))
      all_goals (first | rfl | (rw [ts_4 hx (by omega)]; all_goals rfl) | (rw [ts_o hx (by omega), ty_0 (by omega)]; all_goals rfl) | (rw [ts_o hx (by omega), ty_3 (by omega) (by omega) hmem]; all_goals rfl) | (rw [ts_o hx (by omega), ty_5n (by omega) (by omega)]; all_goals rfl) | (rw [ts_o hx (by omega), ty_5 (by omega) (by omega)]; all_goals rfl) | (refine congrArg D.bool ?_; rw [ok_1 (by omega), decide_eq_false (by omega)]; done) | (refine congrArg D.bool ?_; rw [ok_1 (by omega)]; simp_all; done) | (refine congrArg D.bool ?_; rw [ok_2 (by omega), decide_eq_false (by omega), Bool.false_and]; done) | (refine congrArg D.bool ?_; rw [ok_2 (by omega), hvt (by omega)]; simp_all; done) | (refine congrArg D.bool ?_; rw [ok_3 (by omega)]; simp_all; done) | (refine congrArg D.bool ?_; rw [ok_4 (by omega)]; simp_all; done) | (refine congrArg D.bool ?_; rw [ok_5 (by omega)]; first | (rw [decide_eq_true (by omega), Bool.true_and]; done) | (rw [decide_eq_false (by omega), Bool.false_and]; done)) | (refine congrArg D.bool ?_; rw [ok_0 (by omega)]; done) | (exfalso; simp_all; done))
     ·try simp only [Q] at h13p
      refine sq (fun h14 h14p h14s => ?_) fun h14 h14p h14s => ?_
      ·try simp only [Q] at h14p
       refine Walk.call (cr := []) cal164 (spec_l1Ctors_v hw ht') rfl .none rfl rfl (LeL.refl _) trivial rfl rfl rfl ?_
       refine evd [45, 81] [] ?_
       refine Walk.call (cr := []) cal149 (hcon) rfl .none rfl rfl (LeL.refl _) trivial rfl rfl rfl ?_
       refine evd [45, 81] [] ?_
       refine dr ?_
       refine sq (fun h15 h15p h15s => ?_) fun h15 h15p h15s => ?_
       ·try simp only [Q] at h15p
        refine rn0 (r2 rfl rfl) (.tup (.cons (.nild ?_) (.cons (.eqd ?_) .nil)))
        all_goals (first | rfl | (rw [ts_4 hx (by omega)]; all_goals rfl) | (rw [ts_o hx (by omega), ty_0 (by omega)]; all_goals rfl) | (rw [ts_o hx (by omega), ty_3 (by omega) (by omega) hmem]; all_goals rfl) | (rw [ts_o hx (by omega), ty_5n (by omega) (by omega)]; all_goals rfl) | (rw [ts_o hx (by omega), ty_5 (by omega) (by omega)]; all_goals rfl) | (refine congrArg D.bool ?_; rw [ok_1 (by omega), decide_eq_false (by omega)]; done) | (refine congrArg D.bool ?_; rw [ok_1 (by omega)]; simp_all; done) | (refine congrArg D.bool ?_; rw [ok_2 (by omega), decide_eq_false (by omega), Bool.false_and]; done) | (refine congrArg D.bool ?_; rw [ok_2 (by omega), hvt (by omega)]; simp_all; done) | (refine congrArg D.bool ?_; rw [ok_3 (by omega)]; simp_all; done) | (refine congrArg D.bool ?_; rw [ok_4 (by omega)]; simp_all; done) | (refine congrArg D.bool ?_; rw [ok_5 (by omega)]; first | (rw [decide_eq_true (by omega), Bool.true_and]; done) | (rw [decide_eq_false (by omega), Bool.false_and]; done)) | (refine congrArg D.bool ?_; rw [ok_0 (by omega)]; done) | (exfalso; simp_all; done))
       ·try simp only [Q] at h15p
        refine Walk.call (cr := []) cal150 (spec_l1Args_v hw ht' hmem') rfl .none rfl rfl (LeL.refl _) trivial rfl rfl rfl ?_
        refine evs [45, 81] [] ?_
        refine rn0 (r2 rfl rfl) (.tup (.cons (.eqd ?_) (.cons (.eqd ?_) .nil)))
        all_goals (first | rfl | (rw [ts_4 hx (by omega)]; all_goals rfl) | (rw [ts_o hx (by omega), ty_0 (by omega)]; all_goals rfl) | (rw [ts_o hx (by omega), ty_3 (by omega) (by omega) hmem]; all_goals rfl) | (rw [ts_o hx (by omega), ty_5n (by omega) (by omega)]; all_goals rfl) | (rw [ts_o hx (by omega), ty_5 (by omega) (by omega)]; all_goals rfl) | (refine congrArg D.bool ?_; rw [ok_1 (by omega), decide_eq_false (by omega)]; done) | (refine congrArg D.bool ?_; rw [ok_1 (by omega)]; simp_all; done) | (refine congrArg D.bool ?_; rw [ok_2 (by omega), decide_eq_false (by omega), Bool.false_and]; done) | (refine congrArg D.bool ?_; rw [ok_2 (by omega), hvt (by omega)]; simp_all; done) | (refine congrArg D.bool ?_; rw [ok_3 (by omega)]; simp_all; done) | (refine congrArg D.bool ?_; rw [ok_4 (by omega)]; simp_all; done) | (refine congrArg D.bool ?_; rw [ok_5 (by omega)]; first | (rw [decide_eq_true (by omega), Bool.true_and]; done) | (rw [decide_eq_false (by omega), Bool.false_and]; done)) | (refine congrArg D.bool ?_; rw [ok_0 (by omega)]; done) | (exfalso; simp_all; done))
      ·try simp only [Q] at h14p
       refine sq (fun h16 h16p h16s => ?_) fun h16 h16p h16s => ?_
       ·try simp only [Q] at h16p
        refine sq (fun h17 h17p h17s => ?_) fun h17 h17p h17s => ?_
        ·try simp only [Q] at h17p
         refine sqT ?_
         refine rn0 (r2 rfl rfl) (.tup (.cons (.nild ?_) (.cons (.eqd ?_) .nil)))
         all_goals (first | rfl | (rw [ts_4 hx (by omega)]; all_goals rfl) | (rw [ts_o hx (by omega), ty_0 (by omega)]; all_goals rfl) | (rw [ts_o hx (by omega), ty_3 (by omega) (by omega) hmem]; all_goals rfl) | (rw [ts_o hx (by omega), ty_5n (by omega) (by omega)]; all_goals rfl) | (rw [ts_o hx (by omega), ty_5 (by omega) (by omega)]; all_goals rfl) | (refine congrArg D.bool ?_; rw [ok_1 (by omega), decide_eq_false (by omega)]; done) | (refine congrArg D.bool ?_; rw [ok_1 (by omega)]; simp_all; done) | (refine congrArg D.bool ?_; rw [ok_2 (by omega), decide_eq_false (by omega), Bool.false_and]; done) | (refine congrArg D.bool ?_; rw [ok_2 (by omega), hvt (by omega)]; simp_all; done) | (refine congrArg D.bool ?_; rw [ok_3 (by omega)]; simp_all; done) | (refine congrArg D.bool ?_; rw [ok_4 (by omega)]; simp_all; done) | (refine congrArg D.bool ?_; rw [ok_5 (by omega)]; first | (rw [decide_eq_true (by omega), Bool.true_and]; done) | (rw [decide_eq_false (by omega), Bool.false_and]; done)) | (refine congrArg D.bool ?_; rw [ok_0 (by omega)]; done) | (exfalso; simp_all; done))
        ·try simp only [Q] at h17p
         refine sq (fun h19 h19p h19s => ?_) fun h19 h19p h19s => ?_
         ·try simp only [Q] at h19p
          refine rn0 (r2 rfl rfl) (.tup (.cons (.nild ?_) (.cons (.eqd ?_) .nil)))
          all_goals (first | rfl | (rw [ts_4 hx (by omega)]; all_goals rfl) | (rw [ts_o hx (by omega), ty_0 (by omega)]; all_goals rfl) | (rw [ts_o hx (by omega), ty_3 (by omega) (by omega) hmem]; all_goals rfl) | (rw [ts_o hx (by omega), ty_5n (by omega) (by omega)]; all_goals rfl) | (rw [ts_o hx (by omega), ty_5 (by omega) (by omega)]; all_goals rfl) | (refine congrArg D.bool ?_; rw [ok_1 (by omega), decide_eq_false (by omega)]; done) | (refine congrArg D.bool ?_; rw [ok_1 (by omega)]; simp_all; done) | (refine congrArg D.bool ?_; rw [ok_2 (by omega), decide_eq_false (by omega), Bool.false_and]; done) | (refine congrArg D.bool ?_; rw [ok_2 (by omega), hvt (by omega)]; simp_all; done) | (refine congrArg D.bool ?_; rw [ok_3 (by omega)]; simp_all; done) | (refine congrArg D.bool ?_; rw [ok_4 (by omega)]; simp_all; done) | (refine congrArg D.bool ?_; rw [ok_5 (by omega)]; first | (rw [decide_eq_true (by omega), Bool.true_and]; done) | (rw [decide_eq_false (by omega), Bool.false_and]; done)) | (refine congrArg D.bool ?_; rw [ok_0 (by omega)]; done) | (exfalso; simp_all; done))
         ·try simp only [Q] at h19p
          refine Walk.idx (i := e.n.toNat) sl109 .none rfl rfl rfl (by omega) (at_nth (by omega)) rfl ?_
          refine evd [45, 81] [] ?_
          refine Walk.sliceLit sl182 tz42 rfl (by decide) (ks := [0]) (xs := [_]) rfl rfl (by decide) (by decide) .none rfl rfl rfl rfl ?_
          refine evd [45, 81] [] ?_
          refine Walk.idx (i := e.n.toNat) sl109 .none rfl rfl rfl (by omega) (at_nth (by omega)) rfl ?_
          refine evd [45, 81] [] ?_
          refine Walk.call (cr := []) cal300 (spec_l12Fits_fn (a := (nth funs e.n.toNat).res) (b := t)) rfl .none rfl rfl (LeL.refl _) trivial rfl rfl rfl ?_
          refine evd [45, 81] [] ?_
          refine dr ?_
          refine rn0 (r2 rfl rfl) (.tup (.cons (.eqd ?_) (.cons (.eqd ?_) .nil)))
          all_goals (first | rfl | (rw [ts_4 hx (by omega)]; all_goals rfl) | (rw [ts_o hx (by omega), ty_0 (by omega)]; all_goals rfl) | (rw [ts_o hx (by omega), ty_3 (by omega) (by omega) hmem]; all_goals rfl) | (rw [ts_o hx (by omega), ty_5n (by omega) (by omega)]; all_goals rfl) | (rw [ts_o hx (by omega), ty_5 (by omega) (by omega)]; all_goals rfl) | (refine congrArg D.bool ?_; rw [ok_1 (by omega), decide_eq_false (by omega)]; done) | (refine congrArg D.bool ?_; rw [ok_1 (by omega)]; simp_all; done) | (refine congrArg D.bool ?_; rw [ok_2 (by omega), decide_eq_false (by omega), Bool.false_and]; done) | (refine congrArg D.bool ?_; rw [ok_2 (by omega), hvt (by omega)]; simp_all; done) | (refine congrArg D.bool ?_; rw [ok_3 (by omega)]; simp_all; done) | (refine congrArg D.bool ?_; rw [ok_4 (by omega)]; simp_all; done) | (refine congrArg D.bool ?_; rw [ok_5 (by omega)]; first | (rw [decide_eq_true (by omega), Bool.true_and]; done) | (rw [decide_eq_false (by omega), Bool.false_and]; done)) | (refine congrArg D.bool ?_; rw [ok_0 (by omega)]; done) | (exfalso; simp_all; done))
       ·try simp only [Q] at h16p
        refine rn0 (r2 rfl rfl) (.tup (.cons (.nild ?_) (.cons (.eqd ?_) .nil)))
        all_goals (first | rfl | (rw [ts_4 hx (by omega)]; all_goals rfl) | (rw [ts_o hx (by omega), ty_0 (by omega)]; all_goals rfl) | (rw [ts_o hx (by omega), ty_3 (by omega) (by omega) hmem]; all_goals rfl) | (rw [ts_o hx (by omega), ty_5n (by omega) (by omega)]; all_goals rfl) | (rw [ts_o hx (by omega), ty_5 (by omega) (by omega)]; all_goals rfl) | (refine congrArg D.bool ?_; rw [ok_1 (by omega), decide_eq_false (by omega)]; done) | (refine congrArg D.bool ?_; rw [ok_1 (by omega)]; simp_all; done) | (refine congrArg D.bool ?_; rw [ok_2 (by omega), decide_eq_false (by omega), Bool.false_and]; done) | (refine congrArg D.bool ?_; rw [ok_2 (by omega), hvt (by omega)]; simp_all; done) | (refine congrArg D.bool ?_; rw [ok_3 (by omega)]; simp_all; done) | (refine congrArg D.bool ?_; rw [ok_4 (by omega)]; simp_all; done) | (refine congrArg D.bool ?_; rw [ok_5 (by omega)]; first | (rw [decide_eq_true (by omega), Bool.true_and]; done) | (rw [decide_eq_false (by omega), Bool.false_and]; done)) | (refine congrArg D.bool ?_; rw [ok_0 (by omega)]; done) | (exfalso; simp_all; done))
 ·have hmem' : e.ctor ∉ vctors w ⟨t.data, t.index⟩ := hmem
  have hcon := spec_l1Has_fn (v := e.ctor) hcl
  rw [decide_eq_false hmem'] at hcon
  refine bd Tryz.f270 123 [45, 81] [2] fun w0 F0 own kept hk => ?_
  refine Walk.box (id := 3008) .none rfl rfl rfl rfl rfl rfl rfl ?_
  refine Walk.box (id := 3009) .none rfl rfl rfl rfl rfl rfl rfl ?_
  refine evs [45, 81] [] ?_
  refine Walk.build st42 (ks := [0]) (xs := [_]) rfl rfl .none rfl rfl rfl ?_
  refine Walk.alloc (id := 3012) tz42 rfl .none rfl rfl rfl rfl ?_
  refine Walk.store ty42 .none rfl rfl rfl rfl rfl rfl (by simp) rfl ?_
  refine tv ?_
  refine CWp.regionJ ?_
  refine WRest.join 23 [(37, .d (.bool (decide ((e.op ≠ 3 ∧ e.ctor ≠ 0) ∨ ((e.op = 3 ∨ e.op = 4) ∧ e.n ≠ 0)))))] [15, 16, 17, 18, 19, 20, 21, 22, 23, 24, 25, 26, 27, 28, 29, 30, 31, 32, 33, 34, 35, 36] ?_ ?_
  ·
   refine evs [45, 81] [] ?_
   refine sq (fun h1 h1p h1s => ?_) fun h1 h1p h1s => ?_
   ·try simp only [Q] at h1p
    refine sq (fun h2 h2p h2s => ?_) fun h2 h2p h2s => ?_
    ·try simp only [Q] at h2p
     exact jn rfl (LeA.eqb (by (first | rfl | (rw [Bool.eq_iff_iff]; simp_all; done) | (rw [Bool.eq_iff_iff]; simp_all; omega))))
    ·try simp only [Q] at h2p
     refine sq (fun h3 h3p h3s => ?_) fun h3 h3p h3s => ?_
     ·try simp only [Q] at h3p
      refine sqT ?_
      exact jn rfl (LeA.eqb (by (first | rfl | (rw [Bool.eq_iff_iff]; simp_all; done) | (rw [Bool.eq_iff_iff]; simp_all; omega))))
     ·try simp only [Q] at h3p
      refine sq (fun h4 h4p h4s => ?_) fun h4 h4p h4s => ?_
      ·try simp only [Q] at h4p
       exact jn rfl (LeA.eqb (by (first | rfl | (rw [Bool.eq_iff_iff]; simp_all; done) | (rw [Bool.eq_iff_iff]; simp_all; omega))))
      ·try simp only [Q] at h4p
       exact jn rfl (LeA.eqb (by (first | rfl | (rw [Bool.eq_iff_iff]; simp_all; done) | (rw [Bool.eq_iff_iff]; simp_all; omega))))
   ·try simp only [Q] at h1p
    refine sqF ?_
    refine sq (fun h5 h5p h5s => ?_) fun h5 h5p h5s => ?_
    ·try simp only [Q] at h5p
     refine sqT ?_
     exact jn rfl (LeA.eqb (by (first | rfl | (rw [Bool.eq_iff_iff]; simp_all; done) | (rw [Bool.eq_iff_iff]; simp_all; omega))))
    ·try simp only [Q] at h5p
     refine sq (fun h6 h6p h6s => ?_) fun h6 h6p h6s => ?_
     ·try simp only [Q] at h6p
      exact jn rfl (LeA.eqb (by (first | rfl | (rw [Bool.eq_iff_iff]; simp_all; done) | (rw [Bool.eq_iff_iff]; simp_all; omega))))
     ·try simp only [Q] at h6p
      exact jn rfl (LeA.eqb (by (first | rfl | (rw [Bool.eq_iff_iff]; simp_all; done) | (rw [Bool.eq_iff_iff]; simp_all; omega))))
  refine WRest.done ?_
  refine tv ?_
  refine sq (fun h7 h7p h7s => ?_) fun h7 h7p h7s => ?_
  ·try simp only [Q] at h7p
   exfalso; apply hx; omega --stop
  ·try simp only [Q] at h7p
   refine sq (fun h8 h8p h8s => ?_) fun h8 h8p h8s => ?_
   ·try simp only [Q] at h8p
    refine Walk.sliceEmpty sl182 .none rfl ?_
    refine evd [45, 81] [] ?_
    refine Walk.eqV eq42 .none rfl rfl rfl rfl rfl ?_
    refine evd [45, 81] [] ?_
    refine sq (fun h9 h9p h9s => ?_) fun h9 h9p h9s => ?_
    ·try simp only [Q] at h9p
     refine sq (fun h10 h10p h10s => ?_) fun h10 h10p h10s => ?_
     ·try simp only [Q] at h10p
      refine dr ?_
      refine rn0 (r2 rfl rfl) (.tup (.cons (.eqd ?_) (.cons (.eqd ?_) .nil)))
      all_goals (first | rfl | (rw [ts_4 hx (by omega)]; all_goals rfl) | (rw [ts_o hx (by omega), ty_0 (by omega)]; all_goals rfl) | (rw [ts_o hx (by omega), ty_3m (by omega) hmem]; all_goals rfl) | (rw [ts_o hx (by omega), ty_5n (by omega) (by omega)]; all_goals rfl) | (rw [ts_o hx (by omega), ty_5 (by omega) (by omega)]; all_goals rfl) | (refine congrArg D.bool ?_; rw [ok_1 (by omega), decide_eq_false (by omega)]; done) | (refine congrArg D.bool ?_; rw [ok_1 (by omega)]; simp_all; done) | (refine congrArg D.bool ?_; rw [ok_2 (by omega), decide_eq_false (by omega), Bool.false_and]; done) | (refine congrArg D.bool ?_; rw [ok_2 (by omega), hvt (by omega)]; simp_all; done) | (refine congrArg D.bool ?_; rw [ok_3 (by omega)]; simp_all; done) | (refine congrArg D.bool ?_; rw [ok_4 (by omega)]; simp_all; done) | (refine congrArg D.bool ?_; rw [ok_5 (by omega)]; first | (rw [decide_eq_true (by omega), Bool.true_and]; done) | (rw [decide_eq_false (by omega), Bool.false_and]; done)) | (refine congrArg D.bool ?_; rw [ok_0 (by omega)]; done) | (exfalso; simp_all; done))
     ·try simp only [Q] at h10p
      refine dr ?_
      refine rn0 (r2 rfl rfl) (.tup (.cons (.eqd ?_) (.cons (.eqd ?_) .nil)))
      all_goals (first | rfl | (rw [ts_4 hx (by omega)]; all_goals rfl) | (rw [ts_o hx (by omega), ty_0 (by omega)]; all_goals rfl) | (rw [ts_o hx (by omega), ty_3m (by omega) hmem]; all_goals rfl) | (rw [ts_o hx (by omega), ty_5n (by omega) (by omega)]; all_goals rfl) | (rw [ts_o hx (by omega), ty_5 (by omega) (by omega)]; all_goals rfl) | (refine congrArg D.bool ?_; rw [ok_1 (by omega), decide_eq_false (by omega)]; done) | (refine congrArg D.bool ?_; rw [ok_1 (by omega)]; simp_all; done) | (refine congrArg D.bool ?_; rw [ok_2 (by omega), decide_eq_false (by omega), Bool.false_and]; done) | (refine congrArg D.bool ?_; rw [ok_2 (by omega), hvt (by omega)]; simp_all; done) | (refine congrArg D.bool ?_; rw [ok_3 (by omega)]; simp_all; done) | (refine congrArg D.bool ?_; rw [ok_4 (by omega)]; simp_all; done) | (refine congrArg D.bool ?_; rw [ok_5 (by omega)]; first | (rw [decide_eq_true (by omega), Bool.true_and]; done) | (rw [decide_eq_false (by omega), Bool.false_and]; done)) | (refine congrArg D.bool ?_; rw [ok_0 (by omega)]; done) | (exfalso; simp_all; done))
    ·try simp only [Q] at h9p
     refine sqF ?_
     refine dr ?_
     refine rn0 (r2 rfl rfl) (.tup (.cons (.eqd ?_) (.cons (.eqd ?_) .nil)))
     all_goals (first | rfl | (rw [ts_4 hx (by omega)]; all_goals rfl) | (rw [ts_o hx (by omega), ty_0 (by omega)]; all_goals rfl) | (rw [ts_o hx (by omega), ty_3m (by omega) hmem]; all_goals rfl) | (rw [ts_o hx (by omega), ty_5n (by omega) (by omega)]; all_goals rfl) | (rw [ts_o hx (by omega), ty_5 (by omega) (by omega)]; all_goals rfl) | (refine congrArg D.bool ?_; rw [ok_1 (by omega), decide_eq_false (by omega)]; done) | (refine congrArg D.bool ?_; rw [ok_1 (by omega)]; simp_all; done) | (refine congrArg D.bool ?_; rw [ok_2 (by omega), decide_eq_false (by omega), Bool.false_and]; done) | (refine congrArg D.bool ?_; rw [ok_2 (by omega), hvt (by omega)]; simp_all; done) | (refine congrArg D.bool ?_; rw [ok_3 (by omega)]; simp_all; done) | (refine congrArg D.bool ?_; rw [ok_4 (by omega)]; simp_all; done) | (refine congrArg D.bool ?_; rw [ok_5 (by omega)]; first | (rw [decide_eq_true (by omega), Bool.true_and]; done) | (rw [decide_eq_false (by omega), Bool.false_and]; done)) | (refine congrArg D.bool ?_; rw [ok_0 (by omega)]; done) | (exfalso; simp_all; done))
   ·try simp only [Q] at h8p
    refine sq (fun h11 h11p h11s => ?_) fun h11 h11p h11s => ?_
    ·try simp only [Q] at h11p
     refine Walk.call (cr := []) cal282 (spec_l3Find_fn hvl) rfl .none rfl rfl (LeL.refl _) trivial rfl rfl rfl ?_
     refine evs [45, 81] [] ?_
     refine Walk.sliceEmpty sl182 .none rfl ?_
     refine evd [45, 81] [] ?_
     refine sq (fun h12 h12p h12s => ?_) fun h12 h12p h12s => ?_
     ·try simp only [Q] at h12p
      refine Walk.idx (i := (findV vars e.n).toNat) sl124 (.some rfl rfl h12) rfl rfl rfl (by have := hlt (by omega); omega) (at_nth (by have := hlt (by omega); omega)) rfl ?_
      refine evd [45, 81] [(65, true)] ?_ ⟨⟨_, rfl, h12⟩, trivial⟩
      refine Walk.call (cr := []) cal300 (spec_l12Fits_fn (a := (nth vars (findV vars e.n).toNat).ty) (b := t)) rfl (.some rfl rfl h12) rfl rfl (LeL.refl _) trivial rfl rfl rfl ?_
      refine evd [45, 81] [(65, true)] ?_ ⟨⟨_, rfl, h12⟩, trivial⟩
      refine dr ?_
      refine rn0 (r2 rfl rfl) (.tup (.cons (.eqd ?_) (.cons (.eqd ?_) .nil)))
      all_goals (first | rfl | (rw [ts_4 hx (by omega)]; all_goals rfl) | (rw [ts_o hx (by omega), ty_0 (by omega)]; all_goals rfl) | (rw [ts_o hx (by omega), ty_3m (by omega) hmem]; all_goals rfl) | (rw [ts_o hx (by omega), ty_5n (by omega) (by omega)]; all_goals rfl) | (rw [ts_o hx (by omega), ty_5 (by omega) (by omega)]; all_goals rfl) | (refine congrArg D.bool ?_; rw [ok_1 (by omega), decide_eq_false (by omega)]; done) | (refine congrArg D.bool ?_; rw [ok_1 (by omega)]; simp_all; done) | (refine congrArg D.bool ?_; rw [ok_2 (by omega), decide_eq_false (by omega), Bool.false_and]; done) | (refine congrArg D.bool ?_; rw [ok_2 (by omega), hvt (by omega)]; simp_all; done) | (refine congrArg D.bool ?_; rw [ok_3 (by omega)]; simp_all; done) | (refine congrArg D.bool ?_; rw [ok_4 (by omega)]; simp_all; done) | (refine congrArg D.bool ?_; rw [ok_5 (by omega)]; first | (rw [decide_eq_true (by omega), Bool.true_and]; done) | (rw [decide_eq_false (by omega), Bool.false_and]; done)) | (refine congrArg D.bool ?_; rw [ok_0 (by omega)]; done) | (exfalso; simp_all; done))
     ·try simp only [Q] at h12p
      refine dr ?_
      refine rn0 (r2 rfl rfl) (.tup (.cons (.eqd ?_) (.cons (.eqd ?_) .nil)))
      all_goals (first | rfl | (rw [ts_4 hx (by omega)]; all_goals rfl) | (rw [ts_o hx (by omega), ty_0 (by omega)]; all_goals rfl) | (rw [ts_o hx (by omega), ty_3m (by omega) hmem]; all_goals rfl) | (rw [ts_o hx (by omega), ty_5n (by omega) (by omega)]; all_goals rfl) | (rw [ts_o hx (by omega), ty_5 (by omega) (by omega)]; all_goals rfl) | (refine congrArg D.bool ?_; rw [ok_1 (by omega), decide_eq_false (by omega)]; done) | (refine congrArg D.bool ?_; rw [ok_1 (by omega)]; simp_all; done) | (refine congrArg D.bool ?_; rw [ok_2 (by omega), decide_eq_false (by omega), Bool.false_and]; done) | (refine congrArg D.bool ?_; rw [ok_2 (by omega), hvt (by omega)]; simp_all; done) | (refine congrArg D.bool ?_; rw [ok_3 (by omega)]; simp_all; done) | (refine congrArg D.bool ?_; rw [ok_4 (by omega)]; simp_all; done) | (refine congrArg D.bool ?_; rw [ok_5 (by omega)]; first | (rw [decide_eq_true (by omega), Bool.true_and]; done) | (rw [decide_eq_false (by omega), Bool.false_and]; done)) | (refine congrArg D.bool ?_; rw [ok_0 (by omega)]; done) | (exfalso; simp_all; done))
    ·try simp only [Q] at h11p
     refine sq (fun h13 h13p h13s => ?_) fun h13 h13p h13s => ?_
     ·try simp only [Q] at h13p
      refine Walk.sliceLit sl182 tz42 rfl (by decide) (ks := [0, 1]) (xs := [_, _]) rfl rfl (by decide) (by decide) .none rfl rfl rfl rfl ?_
      refine evd [45, 81] [] ?_
      refine Walk.eqV eq42 .none rfl rfl rfl rfl rfl ?_
      refine evd [45, 81] [] ?_
      refine dr ?_
      refine rn0 (r2 rfl rfl) (.tup (.cons (.eqd ?_) (.cons (.eqd ?_) .nil)))
      all_goals (first | rfl | (rw [ts_4 hx (by omega)]; all_goals rfl) | (rw [ts_o hx (by omega), ty_0 (by omega)]; all_goals rfl) | (rw [ts_o hx (by omega), ty_3m (by omega) hmem]; all_goals rfl) | (rw [ts_o hx (by omega), ty_5n (by omega) (by omega)]; all_goals rfl) | (rw [ts_o hx (by omega), ty_5 (by omega) (by omega)]; all_goals rfl) | (refine congrArg D.bool ?_; rw [ok_1 (by omega), decide_eq_false (by omega)]; done) | (refine congrArg D.bool ?_; rw [ok_1 (by omega)]; simp_all; done) | (refine congrArg D.bool ?_; rw [ok_2 (by omega), decide_eq_false (by omega), Bool.false_and]; done) | (refine congrArg D.bool ?_; rw [ok_2 (by omega), hvt (by omega)]; simp_all; done) | (refine congrArg D.bool ?_; rw [ok_3 (by omega)]; simp_all; done) | (refine congrArg D.bool ?_; rw [ok_4 (by omega)]; simp_all; done) | (refine congrArg D.bool ?_; rw [ok_5 (by omega)]; first | (rw [decide_eq_true (by omega), Bool.true_and]; done) | (rw [decide_eq_false (by omega), Bool.false_and]; done)) | (refine congrArg D.bool ?_; rw [ok_0 (by omega)]; done) | (exfalso; simp_all; done))
     ·try simp only [Q] at h13p
      refine sq (fun h14 h14p h14s => ?_) fun h14 h14p h14s => ?_
      ·try simp only [Q] at h14p
       refine Walk.call (cr := []) cal164 (spec_l1Ctors_v hw ht') rfl .none rfl rfl (LeL.refl _) trivial rfl rfl rfl ?_
       refine evd [45, 81] [] ?_
       refine Walk.call (cr := []) cal149 (hcon) rfl .none rfl rfl (LeL.refl _) trivial rfl rfl rfl ?_
       refine evd [45, 81] [] ?_
       refine dr ?_
       refine sq (fun h15 h15p h15s => ?_) fun h15 h15p h15s => ?_
       ·try simp only [Q] at h15p
        refine rn0 (r2 rfl rfl) (.tup (.cons (.nild ?_) (.cons (.eqd ?_) .nil)))
        all_goals (first | rfl | (rw [ts_4 hx (by omega)]; all_goals rfl) | (rw [ts_o hx (by omega), ty_0 (by omega)]; all_goals rfl) | (rw [ts_o hx (by omega), ty_3m (by omega) hmem]; all_goals rfl) | (rw [ts_o hx (by omega), ty_5n (by omega) (by omega)]; all_goals rfl) | (rw [ts_o hx (by omega), ty_5 (by omega) (by omega)]; all_goals rfl) | (refine congrArg D.bool ?_; rw [ok_1 (by omega), decide_eq_false (by omega)]; done) | (refine congrArg D.bool ?_; rw [ok_1 (by omega)]; simp_all; done) | (refine congrArg D.bool ?_; rw [ok_2 (by omega), decide_eq_false (by omega), Bool.false_and]; done) | (refine congrArg D.bool ?_; rw [ok_2 (by omega), hvt (by omega)]; simp_all; done) | (refine congrArg D.bool ?_; rw [ok_3 (by omega)]; simp_all; done) | (refine congrArg D.bool ?_; rw [ok_4 (by omega)]; simp_all; done) | (refine congrArg D.bool ?_; rw [ok_5 (by omega)]; first | (rw [decide_eq_true (by omega), Bool.true_and]; done) | (rw [decide_eq_false (by omega), Bool.false_and]; done)) | (refine congrArg D.bool ?_; rw [ok_0 (by omega)]; done) | (exfalso; simp_all; done))
       ·try simp only [Q] at h15p
        exfalso; simp_all --stop
      ·try simp only [Q] at h14p
       refine sq (fun h16 h16p h16s => ?_) fun h16 h16p h16s => ?_
       ·try simp only [Q] at h16p
        refine sq (fun h17 h17p h17s => ?_) fun h17 h17p h17s => ?_
        ·try simp only [Q] at h17p
         refine sqT ?_
         refine rn0 (r2 rfl rfl) (.tup (.cons (.nild ?_) (.cons (.eqd ?_) .nil)))
         all_goals (first | rfl | (rw [ts_4 hx (by omega)]; all_goals rfl) | (rw [ts_o hx (by omega), ty_0 (by omega)]; all_goals rfl) | (rw [ts_o hx (by omega), ty_3m (by omega) hmem]; all_goals rfl) | (rw [ts_o hx (by omega), ty_5n (by omega) (by omega)]; all_goals rfl) | (rw [ts_o hx (by omega), ty_5 (by omega) (by omega)]; all_goals rfl) | (refine congrArg D.bool ?_; rw [ok_1 (by omega), decide_eq_false (by omega)]; done) | (refine congrArg D.bool ?_; rw [ok_1 (by omega)]; simp_all; done) | (refine congrArg D.bool ?_; rw [ok_2 (by omega), decide_eq_false (by omega), Bool.false_and]; done) | (refine congrArg D.bool ?_; rw [ok_2 (by omega), hvt (by omega)]; simp_all; done) | (refine congrArg D.bool ?_; rw [ok_3 (by omega)]; simp_all; done) | (refine congrArg D.bool ?_; rw [ok_4 (by omega)]; simp_all; done) | (refine congrArg D.bool ?_; rw [ok_5 (by omega)]; first | (rw [decide_eq_true (by omega), Bool.true_and]; done) | (rw [decide_eq_false (by omega), Bool.false_and]; done)) | (refine congrArg D.bool ?_; rw [ok_0 (by omega)]; done) | (exfalso; simp_all; done))
        ·try simp only [Q] at h17p
         refine sq (fun h19 h19p h19s => ?_) fun h19 h19p h19s => ?_
         ·try simp only [Q] at h19p
          refine rn0 (r2 rfl rfl) (.tup (.cons (.nild ?_) (.cons (.eqd ?_) .nil)))
          all_goals (first | rfl | (rw [ts_4 hx (by omega)]; all_goals rfl) | (rw [ts_o hx (by omega), ty_0 (by omega)]; all_goals rfl) | (rw [ts_o hx (by omega), ty_3m (by omega) hmem]; all_goals rfl) | (rw [ts_o hx (by omega), ty_5n (by omega) (by omega)]; all_goals rfl) | (rw [ts_o hx (by omega), ty_5 (by omega) (by omega)]; all_goals rfl) | (refine congrArg D.bool ?_; rw [ok_1 (by omega), decide_eq_false (by omega)]; done) | (refine congrArg D.bool ?_; rw [ok_1 (by omega)]; simp_all; done) | (refine congrArg D.bool ?_; rw [ok_2 (by omega), decide_eq_false (by omega), Bool.false_and]; done) | (refine congrArg D.bool ?_; rw [ok_2 (by omega), hvt (by omega)]; simp_all; done) | (refine congrArg D.bool ?_; rw [ok_3 (by omega)]; simp_all; done) | (refine congrArg D.bool ?_; rw [ok_4 (by omega)]; simp_all; done) | (refine congrArg D.bool ?_; rw [ok_5 (by omega)]; first | (rw [decide_eq_true (by omega), Bool.true_and]; done) | (rw [decide_eq_false (by omega), Bool.false_and]; done)) | (refine congrArg D.bool ?_; rw [ok_0 (by omega)]; done) | (exfalso; simp_all; done))
         ·try simp only [Q] at h19p
          refine Walk.idx (i := e.n.toNat) sl109 .none rfl rfl rfl (by omega) (at_nth (by omega)) rfl ?_
          refine evd [45, 81] [] ?_
          refine Walk.sliceLit sl182 tz42 rfl (by decide) (ks := [0]) (xs := [_]) rfl rfl (by decide) (by decide) .none rfl rfl rfl rfl ?_
          refine evd [45, 81] [] ?_
          refine Walk.idx (i := e.n.toNat) sl109 .none rfl rfl rfl (by omega) (at_nth (by omega)) rfl ?_
          refine evd [45, 81] [] ?_
          refine Walk.call (cr := []) cal300 (spec_l12Fits_fn (a := (nth funs e.n.toNat).res) (b := t)) rfl .none rfl rfl (LeL.refl _) trivial rfl rfl rfl ?_
          refine evd [45, 81] [] ?_
          refine dr ?_
          refine rn0 (r2 rfl rfl) (.tup (.cons (.eqd ?_) (.cons (.eqd ?_) .nil)))
          all_goals (first | rfl | (rw [ts_4 hx (by omega)]; all_goals rfl) | (rw [ts_o hx (by omega), ty_0 (by omega)]; all_goals rfl) | (rw [ts_o hx (by omega), ty_3m (by omega) hmem]; all_goals rfl) | (rw [ts_o hx (by omega), ty_5n (by omega) (by omega)]; all_goals rfl) | (rw [ts_o hx (by omega), ty_5 (by omega) (by omega)]; all_goals rfl) | (refine congrArg D.bool ?_; rw [ok_1 (by omega), decide_eq_false (by omega)]; done) | (refine congrArg D.bool ?_; rw [ok_1 (by omega)]; simp_all; done) | (refine congrArg D.bool ?_; rw [ok_2 (by omega), decide_eq_false (by omega), Bool.false_and]; done) | (refine congrArg D.bool ?_; rw [ok_2 (by omega), hvt (by omega)]; simp_all; done) | (refine congrArg D.bool ?_; rw [ok_3 (by omega)]; simp_all; done) | (refine congrArg D.bool ?_; rw [ok_4 (by omega)]; simp_all; done) | (refine congrArg D.bool ?_; rw [ok_5 (by omega)]; first | (rw [decide_eq_true (by omega), Bool.true_and]; done) | (rw [decide_eq_false (by omega), Bool.false_and]; done)) | (refine congrArg D.bool ?_; rw [ok_0 (by omega)]; done) | (exfalso; simp_all; done))
       ·try simp only [Q] at h16p
        refine rn0 (r2 rfl rfl) (.tup (.cons (.nild ?_) (.cons (.eqd ?_) .nil)))
        all_goals (first | rfl | (rw [ts_4 hx (by omega)]; all_goals rfl) | (rw [ts_o hx (by omega), ty_0 (by omega)]; all_goals rfl) | (rw [ts_o hx (by omega), ty_3m (by omega) hmem]; all_goals rfl) | (rw [ts_o hx (by omega), ty_5n (by omega) (by omega)]; all_goals rfl) | (rw [ts_o hx (by omega), ty_5 (by omega) (by omega)]; all_goals rfl) | (refine congrArg D.bool ?_; rw [ok_1 (by omega), decide_eq_false (by omega)]; done) | (refine congrArg D.bool ?_; rw [ok_1 (by omega)]; simp_all; done) | (refine congrArg D.bool ?_; rw [ok_2 (by omega), decide_eq_false (by omega), Bool.false_and]; done) | (refine congrArg D.bool ?_; rw [ok_2 (by omega), hvt (by omega)]; simp_all; done) | (refine congrArg D.bool ?_; rw [ok_3 (by omega)]; simp_all; done) | (refine congrArg D.bool ?_; rw [ok_4 (by omega)]; simp_all; done) | (refine congrArg D.bool ?_; rw [ok_5 (by omega)]; first | (rw [decide_eq_true (by omega), Bool.true_and]; done) | (rw [decide_eq_false (by omega), Bool.false_and]; done)) | (refine congrArg D.bool ?_; rw [ok_0 (by omega)]; done) | (exfalso; simp_all; done))
theorem spec_l12Typed_fn {w : List Data} {funs : List Ft} {vars : List Vt} (hw : WT w) (haz : AZ w) (hfl : funs.length ≤ 1000000000000) (hvl : vars.length ≤ 1000000000000) (hfa : ∀ f ∈ funs, TyOk w.length f.arg) : ∀ (n : Nat) {t : Ty} {m : Int} {e : Ex}, m = n → n ≤ 1000 → TyOk w.length t → e.ok →
  FnD Tryz.prog 210 [.d (encDatas w), .d (encFts funs), .d (encVts vars), .agg [.d (.i t.data), .d (.i t.index)], .agg [.d (.i e.op), .d (.i e.n), .d (.i e.ctor), .d (encExs e.kids)], .d (.i m)] [] (.d (.bool (fitsE w funs vars n t e))) []
 | 0, t, m, e, hm, _, _, _ => by
  refine bd Tryz.f210 59 [] [] fun w0 F0 own kept hk => ?_
  refine Walk.box (id := 3009) .none rfl rfl rfl rfl rfl rfl rfl ?_
  refine Walk.box (id := 3010) .none rfl rfl rfl rfl rfl rfl rfl ?_
  refine ev ?_
  refine sq (fun h1 h1p h1s => ?_) fun h1 h1p h1s => ?_
  ·try simp only [Q] at h1p
   refine rn0 (r1 rfl) (.eqd ?_)
   all_goals (rfl)
  ·try simp only [Q] at h1p
   exfalso; omega --stop
 | n + 1, t, m, e, hm, hn, ht, hok => by
  rw [Ex.ok_iff] at hok
  have hkd := spec_l12Kids_fn hw hfl hvl ht (e := e) (funs := funs) (vars := vars)
  have htl := typesE_len hw ht.1 (funs := funs) (e := e)
  have hti := typesE_ok hw haz hfa ht (e := e)
  cases ho : okE w funs vars t e with
  | false =>
   have hsc : fitsE w funs vars (n + 1) t e = false := by
    conv => lhs; unfold fitsE nodeE
    rw [ho]; rfl
   rw [ho] at hkd
   rw [hsc]
   refine bd Tryz.f210 59 [] [] fun w0 F0 own kept hk => ?_
   refine Walk.box (id := 3009) .none rfl rfl rfl rfl rfl rfl rfl ?_
   refine Walk.box (id := 3010) .none rfl rfl rfl rfl rfl rfl rfl ?_
   refine ev ?_
   refine sq (fun h1 h1p h1s => ?_) fun h1 h1p h1s => ?_
   ·try simp only [Q] at h1p
    exfalso; omega --stop
   ·try simp only [Q] at h1p
    refine Walk.call (cr := []) cal270 (hkd) rfl .none rfl rfl (LeL.refl _) trivial rfl rfl rfl ?_
    refine ev ?_
    refine sq (fun h2 h2p h2s => ?_) fun h2 h2p h2s => ?_
    ·try simp only [Q] at h2p
     refine sqT ?_
     refine rn0 (r1 rfl) (.eqd ?_)
     all_goals (rfl)
    ·try simp only [Q] at h2p
     refine sq (fun h4 h4p h4s => ?_) fun h4 h4p h4s => ?_
     ·try simp only [Q] at h4p
      refine rn0 (r1 rfl) (.eqd ?_)
      all_goals (rfl)
     ·try simp only [Q] at h4p
      exfalso; simp_all --stop
  | true =>
   rw [ho, typesS_eq ht ho] at hkd
   by_cases hlen : (typesE w funs t e).length = e.kids.length
   ·have hsc : fitsE w funs vars (n + 1) t e = all2 (fitsE w funs vars n) (typesE w funs t e) e.kids := by
     conv => lhs; unfold fitsE nodeE
     rw [ho, decide_eq_true hlen]; rfl
    rw [hsc]
    refine bd Tryz.f210 59 [] [] fun w0 F0 own kept hk => ?_
    refine Walk.box (id := 3009) .none rfl rfl rfl rfl rfl rfl rfl ?_
    refine Walk.box (id := 3010) .none rfl rfl rfl rfl rfl rfl rfl ?_
    refine ev ?_
    refine sq (fun h1 h1p h1s => ?_) fun h1 h1p h1s => ?_
    ·try simp only [Q, Ex.cs_len] at h1p
     exfalso; omega --stop
    ·try simp only [Q, Ex.cs_len] at h1p
     refine Walk.call (cr := []) cal270 (hkd) rfl .none rfl rfl (LeL.refl _) trivial rfl rfl rfl ?_
     refine ev ?_
     refine sq (fun h2 h2p h2s => ?_) fun h2 h2p h2s => ?_
     ·try simp only [Q, Ex.cs_len] at h2p
      refine sqT ?_
      exfalso; first | omega | (simp_all [Ex.cs_len]; done) --stop
     ·try simp only [Q, Ex.cs_len] at h2p
      refine sq (fun h4 h4p h4s => ?_) fun h4 h4p h4s => ?_
      ·try simp only [Q, Ex.cs_len] at h4p
       exfalso; first | omega | (simp_all [Ex.cs_len]; done) --stop
      ·try simp only [Q, Ex.cs_len] at h4p
       refine CWp.loopX (ι := Nat) hk (fun i => [(15, .d (.i (i : Int)))]) [12, 37, 38, 39, 40, 41, 42, 43, 44, 45, 46, 47, 48, 49, 50, 51, 52, 53, 54, 55, 56, 57, 58] (fun i => []) (fun i => i ≤ (typesE w funs t e).length ∧ ∀ i', i' < i → fitsE w funs vars n (nth (typesE w funs t e) i') (nth e.kids i') = true) (fun i => (typesE w funs t e).length - i) 0 ⟨by omega, fun _ h => absurd h (by omega)⟩ ⟨⟨_, rfl, (LeA.eqi (by first | rfl | (simp; done) | (simp_all; done) | omega))⟩, trivial⟩ trivial (fun x => rfl) (fun i hg1 => ?_)
       refine evc [] [] ?_
       refine sq (fun h5 h5p h5s => ?_) fun h5 h5p h5s => ?_
       ·try simp only [Q, Ex.cs_len] at h5p
        refine Walk.idx sl182 .none rfl rfl rfl rfl (at_nth (by omega)) rfl ?_
        refine evd [] [] ?_
        refine Walk.idx sl116 .none rfl rfl rfl rfl (exs_at (by omega)) rfl ?_
        refine evd [] [] ?_
        refine ar ?_
        refine Walk.call (cr := []) cal210 (spec_l12Typed_fn hw haz hfl hvl hfa n (t := nth (typesE w funs t e) i) (by omega) (by omega) (hti _ (nth_mem (by omega))) (Exs.ok_mem hok.2 _ (nth_mem (by omega)))) rfl .none rfl rfl (LeL.refl _) trivial rfl rfl rfl ?_
        refine evd [] [] ?_
        refine dr ?_
        refine sq (fun h6 h6p h6s => ?_) fun h6 h6p h6s => ?_
        ·try simp only [Q, Ex.cs_len] at h6p
         refine rn0 (r1 rfl) (.eqd ?_)
         all_goals (refine congrArg D.bool ?_; first | (refine (all2_nth_true (by omega) (fun x hx => hg1.2 x (by omega))).symm) | (refine (all2_nth_false (i := i) (by omega) (by omega) ?_).symm; simp_all))
        ·try simp only [Q, Ex.cs_len] at h6p
         refine ar ?_
         refine Exists.intro (i + 1) ⟨⟨by omega, upto_succ hg1.2 (by simp_all)⟩, (by omega), Sub.x (by kernel_rfl) (by kernel_rfl) ⟨⟨_, rfl, (LeA.eqi (by first | rfl | (simp; done) | (simp_all; done) | omega))⟩, trivial⟩ (by kernel_rfl) (by kernel_rfl) trivial⟩
       ·try simp only [Q, Ex.cs_len] at h5p
        refine rn0 (r1 rfl) (.eqd ?_)
        all_goals (refine congrArg D.bool ?_; first | (refine (all2_nth_true (by omega) (fun x hx => hg1.2 x (by omega))).symm) | (refine (all2_nth_false (i := i) (by omega) (by omega) ?_).symm; simp_all))
   ·have hsc : fitsE w funs vars (n + 1) t e = false := by
     conv => lhs; unfold fitsE nodeE
     rw [ho, decide_eq_false hlen]; rfl
    rw [hsc]
    refine bd Tryz.f210 59 [] [] fun w0 F0 own kept hk => ?_
    refine Walk.box (id := 3009) .none rfl rfl rfl rfl rfl rfl rfl ?_
    refine Walk.box (id := 3010) .none rfl rfl rfl rfl rfl rfl rfl ?_
    refine ev ?_
    refine sq (fun h1 h1p h1s => ?_) fun h1 h1p h1s => ?_
    ·try simp only [Q, Ex.cs_len] at h1p
     exfalso; omega --stop
    ·try simp only [Q, Ex.cs_len] at h1p
     refine Walk.call (cr := []) cal270 (hkd) rfl .none rfl rfl (LeL.refl _) trivial rfl rfl rfl ?_
     refine ev ?_
     refine sq (fun h2 h2p h2s => ?_) fun h2 h2p h2s => ?_
     ·try simp only [Q, Ex.cs_len] at h2p
      refine sqT ?_
      refine rn0 (r1 rfl) (.eqd ?_)
      all_goals (rfl)
     ·try simp only [Q, Ex.cs_len] at h2p
      refine sq (fun h4 h4p h4s => ?_) fun h4 h4p h4s => ?_
      ·try simp only [Q, Ex.cs_len] at h4p
       refine rn0 (r1 rfl) (.eqd ?_)
       all_goals (rfl)
      ·try simp only [Q, Ex.cs_len] at h4p
       exfalso; omega --stop
theorem spec_l12Count_fn : ∀ (n : Nat) {v : Ex} {m : Int}, v.size ≤ n → v.size ≤ 1000000000000 → v.ok → 0 ≤ m → m ≤ 1000000000000 → FnD Tryz.prog 211 [.agg [.d (.i v.op), .d (.i v.n), .d (.i v.ctor), .d (encExs v.kids)], .d (.i m)] [] (.d (.i (cntE m v))) []
 | 0, v, m, h, _, _, _, _ => by rw [Ex.size_eq] at h; omega
 | n + 1, v, m, h, hb, hok, m0, m1 => by
  rw [Ex.size_eq] at h hb
  rw [Ex.ok_iff] at hok
  rw [cntE_eq]
  refine bd Tryz.f211 31 [] [] fun w0 F0 own kept hk => ?_
  refine Walk.box (id := 3002) .none rfl rfl rfl rfl rfl rfl rfl ?_
  refine ev ?_
  refine CWp.loopX (ι := Nat × Int) hk (fun x => [(6, .d (.i (x.1 : Int))), (5, .d (.i x.2))]) [7, 8, 9, 10, 11, 12, 13, 14, 15, 16, 17, 18, 19, 20, 21, 22, 23, 24, 25, 26, 27, 28, 29] (fun x => []) (fun x => x.1 ≤ v.kids.length ∧ cntEL m x.2 (v.kids.drop x.1) = cntEL m 1 v.kids ∧ 1 ≤ x.2 ∧ x.2 + Exs.size (v.kids.drop x.1) ≤ 1 + Exs.size v.kids) (fun x => v.kids.length - x.1) (0, 1) ⟨by simp, by simp, by simp, by simp⟩ ⟨⟨_, rfl, (LeA.eqi (by first | rfl | (simp; done) | (dsimp only; omega)))⟩, ⟨⟨_, rfl, (LeA.eqi (by first | rfl | (simp; done) | (dsimp only; omega)))⟩, trivial⟩⟩ trivial (fun x => rfl) (fun x hg1 => ?_)
  refine evc [] [] ?_
  refine sq (fun h1 h1p h1s => ?_) fun h1 h1p h1s => ?_
  ·try simp only [Q, Ex.cs_len] at h1p
   refine sq (fun h2 h2p h2s => ?_) fun h2 h2p h2s => ?_
   ·try simp only [Q, Ex.cs_len] at h2p
    refine Walk.idx sl116 .none rfl rfl rfl rfl (exs_at (by omega)) rfl ?_
    refine ev ?_
    refine ar ?_ (by first | (constructor <;> omega) | (have hz := cntE_le (nth v.kids x.1) (m - x.2); have hs := esize_drop (l := v.kids) (i := x.1) (by omega); constructor <;> omega) | (constructor <;> simp [Ex.cs_len] <;> omega))
    refine Walk.call (cr := []) cal211 (spec_l12Count_fn n (v := nth v.kids x.1) (by have := enth_size (l := v.kids) (i := x.1) (by omega); omega) (by have := enth_size (l := v.kids) (i := x.1) (by omega); omega) (Exs.ok_mem hok.2 _ (nth_mem (by omega))) (by omega) (by omega)) rfl .none rfl rfl (LeL.refl _) trivial rfl rfl rfl ?_
    refine ev ?_
    refine ar ?_ (by first | (constructor <;> omega) | (have hz := cntE_le (nth v.kids x.1) (m - x.2); have hs := esize_drop (l := v.kids) (i := x.1) (by omega); constructor <;> omega) | (constructor <;> simp [Ex.cs_len] <;> omega))
    refine ar ?_ (by first | (constructor <;> omega) | (have hz := cntE_le (nth v.kids x.1) (m - x.2); have hs := esize_drop (l := v.kids) (i := x.1) (by omega); constructor <;> omega) | (constructor <;> simp [Ex.cs_len] <;> omega))
    refine Exists.intro ((x.1 + 1, x.2 + cntE (m - x.2) (nth v.kids x.1))) ⟨(by
        obtain ⟨h1, h2, h3, h4⟩ := hg1
        have hz := cntE_le (nth v.kids x.1) (m - x.2)
        have hs := esize_drop (l := v.kids) (i := x.1) (by omega)
        refine ⟨by dsimp only; omega, ?_, by dsimp only; omega, by dsimp only; omega⟩
        rw [← h2, drop_nth (l := v.kids) (i := x.1) (by omega), cntEL, if_pos (by omega)]), (by dsimp only; omega), Sub.x (by kernel_rfl) (by kernel_rfl) ⟨⟨_, rfl, (LeA.eqi (by first | rfl | (simp; done) | (dsimp only; omega)))⟩, ⟨⟨_, rfl, (LeA.eqi (by first | rfl | (simp; done) | (dsimp only; omega)))⟩, trivial⟩⟩ (by kernel_rfl) (by kernel_rfl) trivial⟩
   ·try simp only [Q, Ex.cs_len] at h2p
    refine rn0 (r1 rfl) (.eqd ?_)
    all_goals (refine congrArg D.i ?_; rw [← hg1.2.1]; first | (rw [List.drop_eq_nil_of_le (by omega)]; rfl) | (rw [cntEL_stop (by omega)]))
  ·try simp only [Q, Ex.cs_len] at h1p
   refine sqF ?_
   refine rn0 (r1 rfl) (.eqd ?_)
   all_goals (refine congrArg D.i ?_; rw [← hg1.2.1]; first | (rw [List.drop_eq_nil_of_le (by omega)]; rfl) | (rw [cntEL_stop (by omega)]))
theorem spec_l12Is_fn {w : List Data} {funs : List Ft} {vars : List Vt} (hw : WT w) (haz : AZ w) (hfl : funs.length ≤ 1000000000000) (hvl : vars.length ≤ 1000000000000) (hfa : ∀ f ∈ funs, TyOk w.length f.arg) {t : Ty} {e : Ex} (ht : TyOk w.length t) (hok : e.ok) (hsz : e.size ≤ 1000000000000) :
  FnD Tryz.prog 133 [.d (encDatas w), .d (encFts funs), .d (encVts vars), .agg [.d (.i t.data), .d (.i t.index)], .agg [.d (.i e.op), .d (.i e.n), .d (.i e.ctor), .d (encExs e.kids)]] [] (.d (.bool (isE w funs vars t e))) [] := by
 have hc := cntE_iff e 60
 refine bd Tryz.f133 22 [] [] fun w0 F0 own kept hk => ?_
 refine Walk.box (id := 3008) .none rfl rfl rfl rfl rfl rfl rfl ?_
 refine Walk.box (id := 3009) .none rfl rfl rfl rfl rfl rfl rfl ?_
 refine ev ?_
 refine Walk.call (cr := []) cal210 (spec_l12Typed_fn hw haz hfl hvl hfa 10 rfl (by omega) ht hok) rfl .none rfl rfl (LeL.refl _) trivial rfl rfl rfl ?_
 refine ev ?_
 refine sq (fun h1 h1p h1s => ?_) fun h1 h1p h1s => ?_
 ·try simp only [Q] at h1p
  refine Walk.call (cr := []) cal211 (spec_l12Count_fn _ (Nat.le_refl _) hsz hok (by omega) (by omega)) rfl (.some rfl rfl h1) rfl rfl (LeL.refl _) trivial rfl rfl rfl ?_
  refine evs [] [(17, true)] ?_ ⟨⟨_, rfl, h1⟩, trivial⟩
  refine rn0 (r1 rfl) (.eqd ?_)
  all_goals (refine congrArg D.bool ?_; unfold isE; first | (rw [h1, Bool.true_and]; exact decide_eq_decide.2 hc.1) | (rw [h1s, Bool.true_and]; exact decide_eq_decide.2 hc.1) | (simp_all; done))
 ·try simp only [Q] at h1p
  refine rn0 (r1 rfl) (.eqd ?_)
  all_goals (refine congrArg D.bool ?_; unfold isE; first | (rw [h1, Bool.true_and]; exact decide_eq_decide.2 hc.1) | (rw [h1s, Bool.true_and]; exact decide_eq_decide.2 hc.1) | (simp_all; done))
theorem spec_l1Is_t {w : List Data} {a b : Int} : FnD Tryz.prog 131 [.d (encDatas w), .agg [.d (.i a), .d (.i b)]] [] (.d (.bool (typeOk w.length ⟨a, b⟩))) [] := by
 have e : (argOk w.length ⟨a, b⟩ && decide (0 ≤ b)) = typeOk w.length ⟨a, b⟩ := by
  rw [Bool.eq_iff_iff]
  simp only [argOk, typeOk, within, Bool.and_eq_true, Bool.or_eq_true, decide_eq_true_eq, and_true]
  omega
 rw [← e]; exact spec_l1Is_fn
theorem spec_l12Funs_fn {w : List Data} {funs : List Ft} (hs : w.length ≤ 1000000000000) (hfl : funs.length ≤ 1000000000000) : FnD Tryz.prog 73 [.d (encDatas w), .d (encFts funs)] [] (.d (.bool (ftsOk w funs))) [] := by
 have hbad : ∀ i, i < funs.length → (typeOk w.length (nth funs i).arg && typeOk w.length (nth funs i).res) = false → ftsOk w funs = false := fun i hi h => by
  unfold ftsOk
  have : funs.any (fun f => !(typeOk w.length f.arg && typeOk w.length f.res)) = true := List.any_eq_true.2 ⟨nth funs i, nth_mem hi, by rw [h]; rfl⟩
  rw [this]; simp
 have hgood : funs.length ≤ 4 → (∀ i, i < funs.length → (typeOk w.length (nth funs i).arg && typeOk w.length (nth funs i).res) = true) → ftsOk w funs = true := fun h4 h => by
  unfold ftsOk
  rw [decide_eq_true (by omega), Bool.true_and, Bool.not_eq_true', List.any_eq_false]
  intro f hf
  obtain ⟨i, hi, rfl⟩ := List.getElem_of_mem hf
  have := h i hi
  simp only [nth, List.getD, List.getElem?_eq_getElem hi, Option.getD_some] at this
  simp [this]
 have hmany : 4 < funs.length → ftsOk w funs = false := fun h => by unfold ftsOk; rw [decide_eq_false (by omega), Bool.false_and]
 refine bd Tryz.f73 37 [] [] fun w0 F0 own kept hk => ?_
 refine CWp.loopX (ι := Nat) hk (fun i => [(5, .d (.i (i : Int)))]) [4, 6, 7, 8, 9, 10, 11, 12, 13, 14, 15, 16, 17, 18, 19, 20, 21, 22, 23, 24, 25, 26, 27, 28, 29, 30, 31, 32, 33] (fun i => []) (fun i => i ≤ funs.length ∧ i ≤ 5 ∧ ∀ i', i' < i → (typeOk w.length (nth funs i').arg && typeOk w.length (nth funs i').res) = true) (fun i => 5 - i) 0 ⟨by omega, by omega, fun _ h => absurd h (by omega)⟩ ⟨⟨_, rfl, (LeA.eqi (by first | rfl | (simp; done) | (simp_all; done) | omega))⟩, trivial⟩ trivial (fun x => rfl) (fun i hg1 => ?_)
 refine evc [] [] ?_
 refine sq (fun h1 h1p h1s => ?_) fun h1 h1p h1s => ?_
 ·try simp only [Q, List.length_map] at h1p
  refine sq (fun h2 h2p h2s => ?_) fun h2 h2p h2s => ?_
  ·try simp only [Q, List.length_map] at h2p
   refine Walk.idx sl109 .none rfl rfl rfl rfl (at_nth (by omega)) rfl ?_
   refine ev ?_
   refine Walk.call (cr := []) cal131 (spec_l1Is_t (a := (nth funs i).arg.data) (b := (nth funs i).arg.index)) rfl .none rfl rfl (LeL.refl _) trivial rfl rfl rfl ?_
   refine ev ?_
   refine sq (fun h3 h3p h3s => ?_) fun h3 h3p h3s => ?_
   ·try simp only [Q, List.length_map] at h3p
    refine sqT ?_
    refine rn0 (r1 rfl) (.eqd ?_)
    all_goals (refine congrArg D.bool ?_; first | (rw [hbad i (by omega) (by simp_all)]; done) | (rw [hmany (by omega)]; exact decide_eq_false (by simp; omega)) | (by_cases h44 : funs.length ≤ 4 <;> first | (rw [hgood h44 (fun x hx => hg1.2.2 x (by omega))]; exact decide_eq_true (by simp; omega)) | (rw [hmany (by omega)]; exact decide_eq_false (by simp; omega))))
   ·try simp only [Q, List.length_map] at h3p
    refine Walk.idx sl109 (.some rfl rfl h3) rfl rfl rfl rfl (at_nth (by omega)) rfl ?_
    refine evs [] [(24, false)] ?_ ⟨⟨_, rfl, h3⟩, trivial⟩
    refine Walk.call (cr := []) cal131 (spec_l1Is_t (a := (nth funs i).res.data) (b := (nth funs i).res.index)) rfl (.some rfl rfl h3) rfl rfl (LeL.refl _) trivial rfl rfl rfl ?_
    refine evs [] [(24, false)] ?_ ⟨⟨_, rfl, h3⟩, trivial⟩
    refine sq (fun h5 h5p h5s => ?_) fun h5 h5p h5s => ?_
    ·try simp only [Q, List.length_map] at h5p
     refine rn0 (r1 rfl) (.eqd ?_)
     all_goals (refine congrArg D.bool ?_; first | (rw [hbad i (by omega) (by simp_all)]; done) | (rw [hmany (by omega)]; exact decide_eq_false (by simp; omega)) | (by_cases h44 : funs.length ≤ 4 <;> first | (rw [hgood h44 (fun x hx => hg1.2.2 x (by omega))]; exact decide_eq_true (by simp; omega)) | (rw [hmany (by omega)]; exact decide_eq_false (by simp; omega))))
    ·try simp only [Q, List.length_map] at h5p
     refine ar ?_
     refine Exists.intro (i + 1) ⟨⟨by omega, by omega, upto_succ hg1.2.2 (by simp_all)⟩, (by omega), Sub.x (by kernel_rfl) (by kernel_rfl) ⟨⟨_, rfl, (LeA.eqi (by first | rfl | (simp; done) | (simp_all; done) | omega))⟩, trivial⟩ (by kernel_rfl) (by kernel_rfl) trivial⟩
  ·try simp only [Q, List.length_map] at h2p
   refine rn0 (r1 rfl) (.eqd ?_)
   all_goals (refine congrArg D.bool ?_; first | (rw [hbad i (by omega) (by simp_all)]; done) | (rw [hmany (by omega)]; exact decide_eq_false (by simp; omega)) | (by_cases h44 : funs.length ≤ 4 <;> first | (rw [hgood h44 (fun x hx => hg1.2.2 x (by omega))]; exact decide_eq_true (by simp; omega)) | (rw [hmany (by omega)]; exact decide_eq_false (by simp; omega))))
 ·try simp only [Q, List.length_map] at h1p
  refine sqF ?_
  refine rn0 (r1 rfl) (.eqd ?_)
  all_goals (refine congrArg D.bool ?_; first | (rw [hbad i (by omega) (by simp_all)]; done) | (rw [hmany (by omega)]; exact decide_eq_false (by simp; omega)) | (by_cases h44 : funs.length ≤ 4 <;> first | (rw [hgood h44 (fun x hx => hg1.2.2 x (by omega))]; exact decide_eq_true (by simp; omega)) | (rw [hmany (by omega)]; exact decide_eq_false (by simp; omega))))
theorem spec_l13Types_fn {l : List Fu} (hl : l.length ≤ 1000000000000) : FnD Tryz.prog 71 [.d (encFus l)] [] (.d (encFts (l.map Fu.ty))) [] := by
 refine bd Tryz.f71 21 [] [] fun w0 F0 own kept hk => ?_
 refine Walk.sliceEmptyG 1 sl109 .none rfl rfl ?_
 refine ev ?_
 refine CWp.loopX (ι := List (Fu) × List (Fu)) hk (fun x => [(4, .d (.i (x.1.length : Int))), (3, .gl 1 ((x.1.map Fu.ty).map Ft.c))]) [6, 7, 8, 9, 10, 11, 12, 13, 14, 15, 16, 17, 18, 19] (fun x => [(1, some (.tok (((x.1.map Fu.ty).map Ft.c)).length 4))]) (fun x => x.1 ++ x.2 = l) (fun x => x.2.length) ([], l) (by simp) ⟨⟨_, rfl, (LeA.eqi (by first | rfl | (simp; done)))⟩, ⟨⟨_, rfl, (LeA.glg (by first | rfl | (simp; done)))⟩, trivial⟩⟩ ⟨beq_nat_eq (by first | rfl | (simp; done) | (simp; omega) | (first | rfl | (simp; done))), trivial⟩ (fun x => rfl) (fun x hg1 => ?_)
 obtain ⟨pre, rest⟩ := x
 dsimp only at hg1 ⊢
 refine evc [] [] ?_
 refine sq (fun h1 h1p h1s => ?_) fun h1 h1p h1s => ?_
 ·try simp only [Q] at h1p
  rcases rest with _ | ⟨y, rest⟩
  ·exfalso; simp_all
  refine Walk.idx sl29 .none rfl rfl rfl rfl (zip_at hg1) rfl ?_
  refine ev ?_
  refine Walk.sliceLit sl109 tz115 rfl (by decide) (ks := [0]) (xs := [_]) rfl rfl (by decide) (by decide) .none rfl rfl rfl rfl ?_
  refine Walk.append sl109 zz115 rfl .none rfl rfl rfl rfl (htokL rfl (by first | rfl | (simp; done) | (simp; omega))) (by simp) (by have hz := congrArg List.length hg1; simp at hz ⊢; omega) (by have hz := congrArg List.length hg1; simp at hz ⊢; omega) ?_
  refine ev ?_
  refine ar ?_
  refine Exists.intro ((pre ++ [y], rest)) ⟨(by have hz := hg1; rw [← hz]; simp), (by simp), Sub.x (by kernel_rfl) (by kernel_rfl) ⟨⟨_, rfl, (LeA.eqi (by first | rfl | (simp; done)))⟩, ⟨⟨_, rfl, (LeA.glg (by first | rfl | (simp; done)))⟩, trivial⟩⟩ (by kernel_rfl) (by kernel_rfl) ⟨beq_nat_eq (by first | rfl | (simp; done) | (simp; omega) | (first | rfl | (simp; done))), trivial⟩⟩
 ·try simp only [Q] at h1p
  have hrest : rest = [] := by
   rcases rest with _ | ⟨a, b⟩
   ·rfl
   ·exfalso; have hz := congrArg List.length (hg1); simp only [List.length_append, List.length_cons, List.length_map] at hz; omega
  subst hrest
  refine rn0 (r1 rfl) (.gld ?_)
  all_goals (first | rfl | (rw [List.append_nil] at hg1; subst hg1; simp; done))
theorem varsOf_eq {w : List Data} {t : Ty} {p : Pat} (h : isP w t p = true) : varsOf w t p = varsP w 10 t p := by
 unfold isP at h
 simp only [Bool.and_eq_true, decide_eq_true_eq] at h
 have e := (scanP_eq w 10 t p 0).1
 have hw : wantP w 10 t p 0 = true := by
  unfold wantP; rw [h.1, h.2.2, decide_eq_true (by omega)]; rfl
 rw [if_pos hw] at e
 unfold varsOf; rw [e]; rfl
theorem varsP_nod {w : List Data} {t : Ty} {p : Pat} (h : isP w t p = true) : nodupV (varsP w 10 t p) = true := by
 unfold isP at h
 simp only [Bool.and_eq_true] at h
 exact lin_nodup w 10 t p h.1 h.2.2
theorem varsP_ok {w : List Data} (hw : WT w) (haz : AZ w) : ∀ (n : Nat) {t : Ty} {p : Pat}, shapeP w n t p = true → TyOk w.length t → ∀ v ∈ varsP w n t p, TyOk w.length v.ty
 | 0, t, p, h, _ => by simp [shapeP] at h
 | n + 1, t, p, h, ht => by
  obtain ⟨ho, hlen⟩ := shapeP_own h
  intro v hv
  have hto : ∀ u ∈ typesP w t p, TyOk w.length u := fun u hu => by
   refine ⟨typesP_in (a := t.data) (k := t.index) hw ht.1 ho u hu, fun hd => ?_⟩
   unfold typesP at hu
   split at hu
   ·rename_i h4; exact haz t p.ctor (ownP_mem ho h4) ht.1 u hu hd
   ·split at hu
    ·simp only [List.mem_cons, List.not_mem_nil, or_false, or_self] at hu
     rw [hu] at hd ⊢; exact ht.2 hd
    ·split at hu
     ·simp only [List.mem_cons, List.not_mem_nil, or_false] at hu
      rw [hu] at hd ⊢; exact ht.2 hd
     ·simp at hu
  simp only [varsP, List.mem_append] at hv
  rcases hv with hv | hv
  ·unfold nameP at hv
   split at hv
   ·simp only [List.mem_cons, List.not_mem_nil, or_false] at hv
    rw [hv]; exact ht
   ·simp at hv
  ·have key : ∀ (a : List Ty) (b : List Pat), (∀ i, i < a.length → i < b.length → ∀ v ∈ varsP w n (nth a i) (nth b i), TyOk w.length v.ty) → ∀ v ∈ varsL (varsP w n) a b, TyOk w.length v.ty := by
    intro a
    induction a with
    | nil => intro b _ v hv; simp [varsL] at hv
    | cons x r ih =>
     intro b h v hv
     cases b with
     | nil => simp [varsL] at hv
     | cons y s =>
      simp only [varsL, List.mem_append] at hv
      rcases hv with hv | hv
      ·exact h 0 (by simp) (by simp) v hv
      ·exact ih s (fun i h1 h2 => h (i + 1) (by simpa using h1) (by simpa using h2)) v hv
   refine key (vtypes w t p) p.kids (fun i h1 h2 => ?_) v hv
   have hvt : i < (typesP w t p).length ∧ nth (vtypes w t p) i = nth (typesP w t p) i := by
    unfold vtypes at h1 ⊢
    split at h1
    ·rename_i h5
     rw [if_pos h5]
     rw [List.length_take] at h1
     refine ⟨by omega, ?_⟩
     have : i = 0 := by omega
     subst this
     cases hT : typesP w t p with
     | nil => rfl
     | cons a b => rfl
    ·rename_i h5
     rw [if_neg h5]; exact ⟨h1, rfl⟩
   rw [hvt.2]
   exact varsP_ok hw haz n (shapeP_kid h (by omega)) (hto _ (nth_mem hvt.1))
def gdS (g : Gd) (vars : List Vt) : Bool := if g.op = 0 then decide (g.var = 0 ∧ g.n = 0) else decide (1 ≤ g.op ∧ g.op ≤ 2 ∧ 0 ≤ g.n ∧ g.n ≤ 9) && (decide (0 ≤ findV vars g.var) && decide ((nth vars (findV vars g.var).toNat).ty.data = -1))
theorem gdS_eq {n : Nat} {g : Gd} {vars : List Vt} (hn : nodupV vars = true) (hv : ∀ v ∈ vars, TyOk n v.ty) : gdS g vars = gdOk g vars := by
 unfold gdS gdOk
 split
 ·rfl
 ·congr 1
  have hnod := of_decide_eq_true hn
  rw [Bool.eq_iff_iff]
  simp only [Bool.and_eq_true, decide_eq_true_eq]
  constructor
  ·rintro ⟨h1, h2⟩
   rcases findV_spec vars g.var with ⟨h3, _⟩ | ⟨k, h3, h4, h5, _⟩
   ·omega
   ·rw [h3] at h2
    simp only [Int.toNat_natCast] at h2
    have hm := nth_mem h4
    have ho := (hv _ hm).2 h2
    have : nth vars k = ⟨g.var, ⟨-1, 0⟩⟩ := by
     generalize nth vars k = z at *
     obtain ⟨zv, ⟨za, zk⟩⟩ := z
     dsimp only at h5 h2 ho
     rw [h5, h2, ho]
    rw [← this]; exact hm
  ·intro hm
   rcases findV_spec vars g.var with ⟨_, h4⟩ | ⟨k, h3, h4, h5, _⟩
   ·exact absurd rfl (h4 _ hm)
   ·refine ⟨by omega, ?_⟩
    rw [h3]
    simp only [Int.toNat_natCast]
    obtain ⟨j, hj, e⟩ := List.getElem_of_mem hm
    have ej : nth vars j = ⟨g.var, ⟨-1, 0⟩⟩ := by simp [nth, List.getD, hj, e]
    have : k = j := nodup_nth hnod h4 hj (by rw [h5, ej])
    rw [this, ej]
theorem spec_l4Guard_fn {g : Gd} {vars : List Vt} (hv : vars.length ≤ 1000000000000) : FnD Tryz.prog 247 [.agg [.d (.i g.op), .d (.i g.var), .d (.i g.n)], .d (encVts vars)] [] (.d (.bool (gdS g vars))) [] := by
 have hlt := fun h => findV_lt (l := vars) (n := g.var) h
 refine bd Tryz.f247 50 [] [3] fun w0 F0 own kept hk => ?_
 refine Walk.box (id := 3002) .none rfl rfl rfl rfl rfl rfl rfl ?_
 refine ev ?_
 refine sq (fun h1 h1p h1s => ?_) fun h1 h1p h1s => ?_
 ·try simp only [Q] at h1p
  refine sq (fun h2 h2p h2s => ?_) fun h2 h2p h2s => ?_
  ·try simp only [Q] at h2p
   refine rn0 (r1 rfl) (.eqd ?_)
   all_goals (refine congrArg D.bool ?_; unfold gdS; first | (rw [if_pos (by omega)]; simp_all; done) | (rw [if_neg (by omega), decide_eq_false (by omega), Bool.false_and]; done) | (rw [if_neg (by omega), decide_eq_true (by omega), Bool.true_and]; simp_all; done) | (rw [if_neg (by omega), decide_eq_true (by omega), Bool.true_and, decide_eq_false (by omega), Bool.false_and]; done) | (rw [if_neg (by omega)]; simp_all; done))
  ·try simp only [Q] at h2p
   refine rn0 (r1 rfl) (.eqd ?_)
   all_goals (refine congrArg D.bool ?_; unfold gdS; first | (rw [if_pos (by omega)]; simp_all; done) | (rw [if_neg (by omega), decide_eq_false (by omega), Bool.false_and]; done) | (rw [if_neg (by omega), decide_eq_true (by omega), Bool.true_and]; simp_all; done) | (rw [if_neg (by omega), decide_eq_true (by omega), Bool.true_and, decide_eq_false (by omega), Bool.false_and]; done) | (rw [if_neg (by omega)]; simp_all; done))
 ·try simp only [Q] at h1p
  refine CWp.regionJ ?_
  refine WRest.join 18 [(34, .d (.bool (decide (¬ (1 ≤ g.op ∧ g.op ≤ 2 ∧ 0 ≤ g.n ∧ g.n ≤ 9)))))] [17, 18, 19, 20, 21, 22, 23, 24, 25, 26, 27, 28, 29, 30, 31, 32, 33] ?_ ?_
  ·
   refine ev ?_
   refine sq (fun h3 h3p h3s => ?_) fun h3 h3p h3s => ?_
   ·try simp only [Q] at h3p
    refine sq (fun h4 h4p h4s => ?_) fun h4 h4p h4s => ?_
    ·try simp only [Q] at h4p
     refine sqT ?_
     exact jn rfl (LeA.eqb (by (first | rfl | (rw [Bool.eq_iff_iff]; simp_all; done) | (rw [Bool.eq_iff_iff]; simp_all; omega))))
    ·try simp only [Q] at h4p
     refine sq (fun h5 h5p h5s => ?_) fun h5 h5p h5s => ?_
     ·try simp only [Q] at h5p
      exact jn rfl (LeA.eqb (by (first | rfl | (rw [Bool.eq_iff_iff]; simp_all; done) | (rw [Bool.eq_iff_iff]; simp_all; omega))))
     ·try simp only [Q] at h5p
      exact jn rfl (LeA.eqb (by (first | rfl | (rw [Bool.eq_iff_iff]; simp_all; done) | (rw [Bool.eq_iff_iff]; simp_all; omega))))
   ·try simp only [Q] at h3p
    refine sqF ?_
    refine sq (fun h6 h6p h6s => ?_) fun h6 h6p h6s => ?_
    ·try simp only [Q] at h6p
     exact jn rfl (LeA.eqb (by (first | rfl | (rw [Bool.eq_iff_iff]; simp_all; done) | (rw [Bool.eq_iff_iff]; simp_all; omega))))
    ·try simp only [Q] at h6p
     exact jn rfl (LeA.eqb (by (first | rfl | (rw [Bool.eq_iff_iff]; simp_all; done) | (rw [Bool.eq_iff_iff]; simp_all; omega))))
  refine WRest.done ?_
  refine tv ?_
  refine sq (fun h7 h7p h7s => ?_) fun h7 h7p h7s => ?_
  ·try simp only [Q] at h7p
   refine rn0 (r1 rfl) (.eqd ?_)
   all_goals (refine congrArg D.bool ?_; unfold gdS; first | (rw [if_pos (by omega)]; simp_all; done) | (rw [if_neg (by omega), decide_eq_false (by omega), Bool.false_and]; done) | (rw [if_neg (by omega), decide_eq_true (by omega), Bool.true_and]; simp_all; done) | (rw [if_neg (by omega), decide_eq_true (by omega), Bool.true_and, decide_eq_false (by omega), Bool.false_and]; done) | (rw [if_neg (by omega)]; simp_all; done))
  ·try simp only [Q] at h7p
   refine Walk.call (cr := []) cal282 (spec_l3Find_fn hv) rfl .none rfl rfl (LeL.refl _) trivial rfl rfl rfl ?_
   refine ev ?_
   refine sq (fun h8 h8p h8s => ?_) fun h8 h8p h8s => ?_
   ·try simp only [Q] at h8p
    refine Walk.idx (i := (findV vars g.var).toNat) sl124 (.some rfl rfl h8) rfl rfl rfl (by have := hlt (by omega); omega) (at_nth (by have := hlt (by omega); omega)) rfl ?_
    refine evs [] [(41, true)] ?_ ⟨⟨_, rfl, h8⟩, trivial⟩
    refine rn0 (r1 rfl) (.eqd ?_)
    all_goals (refine congrArg D.bool ?_; unfold gdS; first | (rw [if_pos (by omega)]; simp_all; done) | (rw [if_neg (by omega), decide_eq_false (by omega), Bool.false_and]; done) | (rw [if_neg (by omega), decide_eq_true (by omega), Bool.true_and]; simp_all; done) | (rw [if_neg (by omega), decide_eq_true (by omega), Bool.true_and, decide_eq_false (by omega), Bool.false_and]; done) | (rw [if_neg (by omega)]; simp_all; done))
   ·try simp only [Q] at h8p
    refine rn0 (r1 rfl) (.eqd ?_)
    all_goals (refine congrArg D.bool ?_; unfold gdS; first | (rw [if_pos (by omega)]; simp_all; done) | (rw [if_neg (by omega), decide_eq_false (by omega), Bool.false_and]; done) | (rw [if_neg (by omega), decide_eq_true (by omega), Bool.true_and]; simp_all; done) | (rw [if_neg (by omega), decide_eq_true (by omega), Bool.true_and, decide_eq_false (by omega), Bool.false_and]; done) | (rw [if_neg (by omega)]; simp_all; done))
theorem spec_l4Is_fn {w : List Data} (hw : WT w) (haz : AZ w) {t : Ty} {c : Cl} (ht : TyOk w.length t) (hok : c.pat.ok) (hsz : c.pat.size ≤ 1000000000000) :
  FnD Tryz.prog 185 [.d (encDatas w), .agg [.d (.i t.data), .d (.i t.index)], .agg [.d (.i c.pat.op), .d (.i c.pat.ctor), .d (.i c.pat.n), .d (.i c.pat.m), .d (.i c.pat.var), .d (encPats c.pat.kids), .d (.i c.g.op), .d (.i c.g.var), .d (.i c.g.n)]] [] (.d (.bool (clOk w t c))) [] := by
 have ht' : TyIn w.length ⟨t.data, t.index⟩ := ht.1
 have hcl : clOk w t c = (isP w t c.pat && gdOk c.g (varsOf w t c.pat)) := rfl
 cases hp : isP w t c.pat with
 | false =>
  have hpi := spec_l3Is_fn hw ht' hok hsz
  have hpi' : FnD Tryz.prog 173 [.d (encDatas w), .agg [.d (.i t.data), .d (.i t.index)], .agg [.d (.i c.pat.op), .d (.i c.pat.ctor), .d (.i c.pat.n), .d (.i c.pat.m), .d (.i c.pat.var), .d (encPats c.pat.kids)]] [] (.d (.bool false)) [] := by rw [← hp]; exact hpi
  rw [hcl, hp, Bool.false_and]
  refine bd Tryz.f185 22 [] [] fun w0 F0 own kept hk => ?_
  refine Walk.box (id := 3004) .none rfl rfl rfl rfl rfl rfl rfl ?_
  refine Walk.box (id := 3005) .none rfl rfl rfl rfl rfl rfl rfl ?_
  refine ev ?_
  refine Walk.call (cr := []) cal173 (hpi') rfl .none rfl rfl (LeL.refl _) trivial rfl rfl rfl ?_
  refine evd [] [] ?_
  refine sq (fun h1 h1p h1s => ?_) fun h1 h1p h1s => ?_
  ·try simp only [Q] at h1p
   exfalso; contradiction --stop
  ·try simp only [Q] at h1p
   refine dr ?_
   refine rn0 (r1 rfl) (.eqd ?_)
   all_goals (rfl)
 | true =>
  have hpi := spec_l3Is_fn hw ht' hok hsz
  have hpi' : FnD Tryz.prog 173 [.d (encDatas w), .agg [.d (.i t.data), .d (.i t.index)], .agg [.d (.i c.pat.op), .d (.i c.pat.ctor), .d (.i c.pat.n), .d (.i c.pat.m), .d (.i c.pat.var), .d (encPats c.pat.kids)]] [] (.d (.bool true)) [] := by rw [← hp]; exact hpi
  have hsh : shapeP w 10 ⟨t.data, t.index⟩ c.pat = true := by
   have := hp; unfold isP at this; simp only [Bool.and_eq_true] at this; exact this.1
  have hvl := varsP_len w 10 ⟨t.data, t.index⟩ c.pat
  have hge := gdS_eq (g := c.g) (varsP_nod hp) (varsP_ok hw haz 10 hsh ht)
  have hge' : gdS c.g (varsP w 10 ⟨t.data, t.index⟩ c.pat) = gdOk c.g (varsOf w t c.pat) := by rw [varsOf_eq hp]; exact hge
  rw [hcl, hp, Bool.true_and, ← hge']
  refine bd Tryz.f185 22 [] [] fun w0 F0 own kept hk => ?_
  refine Walk.box (id := 3004) .none rfl rfl rfl rfl rfl rfl rfl ?_
  refine Walk.box (id := 3005) .none rfl rfl rfl rfl rfl rfl rfl ?_
  refine ev ?_
  refine Walk.call (cr := []) cal173 (hpi') rfl .none rfl rfl (LeL.refl _) trivial rfl rfl rfl ?_
  refine evd [] [] ?_
  refine sq (fun h1 h1p h1s => ?_) fun h1 h1p h1s => ?_
  ·try simp only [Q] at h1p
   refine Walk.call (cr := []) cal132 (spec_l3Vars_nil hw hsh (by omega) ht' hok hsz) rfl (.some rfl rfl h1) rfl rfl (LeL.refl _) trivial rfl rfl rfl ?_
   refine Walk.call (cr := []) cal247 (spec_l4Guard_fn (g := c.g) (by omega)) rfl (.some rfl rfl h1) rfl rfl (LeL.refl _) trivial rfl rfl rfl ?_
   refine evd [] [(12, true)] ?_ ⟨⟨_, rfl, h1⟩, trivial⟩
   refine dr ?_
   refine rn0 (r1 rfl) (.eqd ?_)
   all_goals (rfl)
  ·try simp only [Q] at h1p
   exfalso; contradiction --stop
end Go.Proofs.YtdgknigklgnefaaGreat
