/-
  THE ABSTRACT WALK AND THE WALKS, part 5 of 6: the parts F22, F26, F23, F27, F35, F28, F29, F36, F37, F92, L20, F93, F38, Val, F7, F94, F95, F39, F96, L21.
-/
import Derived.Test.YtflgpdjbgfkhoaaTp4
namespace Go.Proofs.Ytflgpdjbgfkhoaa
open Go
set_option linter.unusedSimpArgs false
set_option linter.unusedVariables false
set_option maxRecDepth 100000
set_option maxHeartbeats 4000000
theorem impl_only_fn {p : Pat} {b1 b2 b3 : Bool} {k : Int} : FnD Try.prog 100 [.agg [.d (.i p.op), .d (.i p.ctor), .d (.i p.n), .d (.i p.m), .d (.i p.var), .d (encPats p.kids)], .d (.bool b1), .d (.bool b2), .d (.bool b3), .d (.i k)] []
  (.d (.bool (decide ((b1 = true ∨ p.ctor = 0) ∧ (b2 = true ∨ p.n = 0 ∧ p.m = 0) ∧ (b3 = true ∨ p.var = 0) ∧ (p.kids.length : Int) = k)))) [] := by
 refine bd Try.f100 45 [] [1] fun w0 F0 own kept hk => ?_
 refine Walk.box (id := 3005) .none rfl rfl rfl rfl rfl rfl rfl ?_
 refine ev ?_
 refine CWp.regionJ ?_
 refine WRest.join 6 [(16, .d (.bool (decide (b1 = true ∨ p.ctor = 0))))] [11, 12, 13, 14, 15] ?_ ?_
 ·
  refine ev ?_
  refine sq (fun h1 h1p h1s => ?_) fun h1 h1p h1s => ?_
  ·try simp only [Q, Pat.cs_len] at h1p
   exact jn rfl (LeA.eqb (by ((rw [Bool.eq_iff_iff]; simp_all [Pat.cs_len]; done))))
  ·try simp only [Q, Pat.cs_len] at h1p
   exact jn rfl (LeA.eqb (by ((rw [Bool.eq_iff_iff]; simp_all [Pat.cs_len]; done))))
 refine WRest.join 13 [(29, .d (.bool (decide ((b1 = true ∨ p.ctor = 0) ∧ (b2 = true ∨ p.n = 0 ∧ p.m = 0)))))] [17, 18, 19, 20, 21, 22, 23, 24, 25, 26, 27, 28] ?_ ?_
 ·
  refine ev ?_
  refine sq (fun h2 h2p h2s => ?_) fun h2 h2p h2s => ?_
  ·try simp only [Q, Pat.cs_len] at h2p
   refine sq (fun h3 h3p h3s => ?_) fun h3 h3p h3s => ?_
   ·try simp only [Q, Pat.cs_len] at h3p
    exact jn rfl (LeA.eqb (by ((rw [Bool.eq_iff_iff]; simp_all [Pat.cs_len]; done))))
   ·try simp only [Q, Pat.cs_len] at h3p
    refine sq (fun h4 h4p h4s => ?_) fun h4 h4p h4s => ?_
    ·try simp only [Q, Pat.cs_len] at h4p
     exact jn rfl (LeA.eqb (by ((rw [Bool.eq_iff_iff]; simp_all [Pat.cs_len]; done))))
    ·try simp only [Q, Pat.cs_len] at h4p
     exact jn rfl (LeA.eqb (by ((rw [Bool.eq_iff_iff]; simp_all [Pat.cs_len]; done))))
  ·try simp only [Q, Pat.cs_len] at h2p
   exact jn rfl (LeA.eqb (by ((rw [Bool.eq_iff_iff]; simp_all [Pat.cs_len]; done))))
 refine WRest.join 8 [(37, .d (.bool (decide ((b1 = true ∨ p.ctor = 0) ∧ (b2 = true ∨ p.n = 0 ∧ p.m = 0) ∧ (b3 = true ∨ p.var = 0)))))] [30, 31, 32, 33, 34, 35, 36] ?_ ?_
 ·
  refine ev ?_
  refine sq (fun h5 h5p h5s => ?_) fun h5 h5p h5s => ?_
  ·try simp only [Q, Pat.cs_len] at h5p
   refine sq (fun h6 h6p h6s => ?_) fun h6 h6p h6s => ?_
   ·try simp only [Q, Pat.cs_len] at h6p
    exact jn rfl (LeA.eqb (by ((rw [Bool.eq_iff_iff]; simp_all [Pat.cs_len]; done))))
   ·try simp only [Q, Pat.cs_len] at h6p
    exact jn rfl (LeA.eqb (by ((rw [Bool.eq_iff_iff]; simp_all [Pat.cs_len]; done))))
  ·try simp only [Q, Pat.cs_len] at h5p
   exact jn rfl (LeA.eqb (by ((rw [Bool.eq_iff_iff]; simp_all [Pat.cs_len]; done))))
 refine WRest.join 7 [(44, .d (.bool (decide ((b1 = true ∨ p.ctor = 0) ∧ (b2 = true ∨ p.n = 0 ∧ p.m = 0) ∧ (b3 = true ∨ p.var = 0) ∧ (p.kids.length : Int) = k))))] [38, 39, 40, 41, 42, 43] ?_ ?_
 ·
  refine ev ?_
  refine sq (fun h7 h7p h7s => ?_) fun h7 h7p h7s => ?_
  ·try simp only [Q, Pat.cs_len] at h7p
   exact jn rfl (LeA.eqb (by ((rw [Bool.eq_iff_iff]; simp_all [Pat.cs_len]; done))))
  ·try simp only [Q, Pat.cs_len] at h7p
   exact jn rfl (LeA.eqb (by ((rw [Bool.eq_iff_iff]; simp_all [Pat.cs_len]; done))))
 refine WRest.done ?_
 refine ev ?_
 refine rn0 (r1 rfl) (.eqd ?_)
 all_goals (rfl)
theorem impl_only_a {p : Pat} {k : Int} : FnD Try.prog 100 [.agg [.d (.i p.op), .d (.i p.ctor), .d (.i p.n), .d (.i p.m), .d (.i p.var), .d (encPats p.kids)], .d (.bool false), .d (.bool false), .d (.bool false), .d (.i k)] []
  (.d (.bool (decide (p.ctor = 0 ∧ (p.n = 0 ∧ p.m = 0) ∧ p.var = 0 ∧ (p.kids.length : Int) = k)))) [] := by
 have := impl_only_fn (p := p) (b1 := false) (b2 := false) (b3 := false) (k := k)
 simpa only [Bool.false_eq_true, false_or] using this
theorem impl_only_v {p : Pat} {k : Int} : FnD Try.prog 100 [.agg [.d (.i p.op), .d (.i p.ctor), .d (.i p.n), .d (.i p.m), .d (.i p.var), .d (encPats p.kids)], .d (.bool false), .d (.bool false), .d (.bool true), .d (.i k)] []
  (.d (.bool (decide (p.ctor = 0 ∧ (p.n = 0 ∧ p.m = 0) ∧ (p.kids.length : Int) = k)))) [] := by
 have := impl_only_fn (p := p) (b1 := false) (b2 := false) (b3 := true) (k := k)
 simpa only [Bool.false_eq_true, false_or, true_or, true_and] using this
theorem impl_only_n {p : Pat} {k : Int} : FnD Try.prog 100 [.agg [.d (.i p.op), .d (.i p.ctor), .d (.i p.n), .d (.i p.m), .d (.i p.var), .d (encPats p.kids)], .d (.bool false), .d (.bool true), .d (.bool false), .d (.i k)] []
  (.d (.bool (decide (p.ctor = 0 ∧ p.var = 0 ∧ (p.kids.length : Int) = k)))) [] := by
 have := impl_only_fn (p := p) (b1 := false) (b2 := true) (b3 := false) (k := k)
 simpa only [Bool.false_eq_true, false_or, true_or, true_and] using this
theorem impl_only_c {p : Pat} {k : Int} : FnD Try.prog 100 [.agg [.d (.i p.op), .d (.i p.ctor), .d (.i p.n), .d (.i p.m), .d (.i p.var), .d (encPats p.kids)], .d (.bool true), .d (.bool false), .d (.bool false), .d (.i k)] []
  (.d (.bool (decide ((p.n = 0 ∧ p.m = 0) ∧ p.var = 0 ∧ (p.kids.length : Int) = k)))) [] := by
 have := impl_only_fn (p := p) (b1 := true) (b2 := false) (b3 := false) (k := k)
 simpa only [Bool.false_eq_true, false_or, true_or, true_and] using this
theorem impl_isVar_fn {v : Int} : FnD Try.prog 101 [.d (.i v)] [] (.d (.bool (within v 0 5))) [] := by
 refine bd Try.f101 5 [] [] fun w0 F0 own kept hk => ?_
 refine Walk.call (cr := []) cal25 (impl_within_fn) rfl .none rfl rfl (LeL.refl _) trivial rfl rfl rfl ?_
 refine ev ?_
 refine rn0 (r1 rfl) (.eqd ?_)
 all_goals (rfl)
theorem impl_ctorsOf_v {w : List Data} (hw : WT w) {a k : Int} (ht : TyIn w.length ⟨a, k⟩) : FnD Try.prog 73 [.d (encDatas w), .agg [.d (.i a), .d (.i k)]] [] (.d (encInts (vctors w ⟨a, k⟩))) [] := by
 rcases ht with ha | ⟨d, hd, hlt⟩
 ·simp only at ha; subst ha; rw [vctors_int]; exact impl_ctorsOf_int_fn
 ·simp only at hd; subst hd; rw [vctors_in]; exact impl_ctorsOf_in hw hlt
theorem impl_argTypes_v {w : List Data} (hw : WT w) {a k c : Int} (ht : TyIn w.length ⟨a, k⟩) (hc : c ∈ vctors w ⟨a, k⟩) : FnD Try.prog 74 [.d (encDatas w), .agg [.d (.i a), .d (.i k)], .d (.i c)] [] (.d (encTys (argsOf w ⟨a, k⟩ c))) [] := by
 obtain ⟨d, rfl, h1, h2⟩ := vctors_data ht hc
 exact impl_argTypes_in hw h1 h2
theorem impl_shape_fn {w : List Data} (hw : WT w) {a k : Int} {p : Pat} (ht : TyIn w.length ⟨a, k⟩) :
  FnD Try.prog 95 [.d (encDatas w), .agg [.d (.i a), .d (.i k)], .agg [.d (.i p.op), .d (.i p.ctor), .d (.i p.n), .d (.i p.m), .d (.i p.var), .d (encPats p.kids)]] [] (.tup [.d (encTys (shapeT w ⟨a, k⟩ p)), .d (.bool (okP w ⟨a, k⟩ p))]) [] := by
 have hcl := vctors_len hw ht
 have ty4 : p.op = 4 → p.ctor ∉ vctors w ⟨a, k⟩ → shapeT w ⟨a, k⟩ p = [] := fun h4 hm => by unfold shapeT; rw [if_pos ⟨h4, hm⟩]
 have ty4' : p.op = 4 → p.ctor ∈ vctors w ⟨a, k⟩ → shapeT w ⟨a, k⟩ p = argsOf w ⟨a, k⟩ p.ctor := fun h4 hm => by unfold shapeT typesP; rw [if_neg (fun h => h.2 hm), if_pos h4]
 have ty5 : p.op = 5 → shapeT w ⟨a, k⟩ p = [⟨a, k⟩, ⟨a, k⟩] := fun h5 => by unfold shapeT typesP; rw [if_neg (by omega), if_neg (by omega), if_pos h5]
 have ty6 : p.op = 6 → shapeT w ⟨a, k⟩ p = [⟨a, k⟩] := fun h6 => by unfold shapeT typesP; rw [if_neg (by omega), if_neg (by omega), if_neg (by omega), if_pos h6]
 have ty0 : ¬ p.op = 4 → ¬ p.op = 5 → ¬ p.op = 6 → shapeT w ⟨a, k⟩ p = [] := fun h4 h5 h6 => by unfold shapeT typesP; rw [if_neg (fun h => h4 h.1), if_neg h4, if_neg h5, if_neg h6]
 have ln4 : p.op = 4 → (typesP w ⟨a, k⟩ p).length = (argsOf w ⟨a, k⟩ p.ctor).length := fun h4 => by unfold typesP; rw [if_pos h4]
 have ln5 : p.op = 5 → (typesP w ⟨a, k⟩ p).length = 2 := fun h5 => by unfold typesP; rw [if_neg (by omega), if_pos h5]; rfl
 have ln6 : p.op = 6 → (typesP w ⟨a, k⟩ p).length = 1 := fun h6 => by unfold typesP; rw [if_neg (by omega), if_neg (by omega), if_pos h6]; rfl
 have ln0 : ¬ p.op = 4 → ¬ p.op = 5 → ¬ p.op = 6 → (typesP w ⟨a, k⟩ p).length = 0 := fun h4 h5 h6 => by unfold typesP; rw [if_neg h4, if_neg h5, if_neg h6]; rfl
 have okI : ∀ b : Bool, (b = true ↔ ((((p.op = 2 ∨ p.op = 6) → 0 ≤ p.var ∧ p.var ≤ 5) ∧ (¬ (p.op = 2 ∨ p.op = 6) → p.var = 0) ∧ (p.op ≠ 3 → p.n = 0 ∧ p.m = 0) ∧ (p.op ≠ 4 → p.ctor = 0) ∧
   (p.op = 1 ∨ p.op = 2 ∨ p.op = 5 ∨ p.op = 6 ∨ (p.op = 3 ∧ a = -1 ∧ 0 ≤ p.n ∧ p.n ≤ p.m ∧ p.m ≤ 9) ∨ (p.op = 4 ∧ p.ctor ∈ vctors w ⟨a, k⟩))) ∧ p.kids.length = (typesP w ⟨a, k⟩ p).length)) → b = okP w ⟨a, k⟩ p := fun b h => by
  rw [Bool.eq_iff_iff, h]; unfold okP ownP; simp only [Bool.and_eq_true, decide_eq_true_eq]
 by_cases hmem : p.ctor ∈ vctors w ⟨a, k⟩
 ·have hargs := impl_argTypes_v hw ht hmem
  have hal : (argsOf w ⟨a, k⟩ p.ctor).length ≤ 1000000000000 := by
   obtain ⟨d, rfl, h1, h2⟩ := vctors_data ht hmem
   exact argsOf_len hw h1 h2
  simp only [hmem, and_true] at okI
  refine bd Try.f95 87 [] [5] fun w0 F0 own kept hk => ?_
  refine Walk.box (id := 3004) .none rfl rfl rfl rfl rfl rfl rfl ?_
  refine Walk.box (id := 3005) .none rfl rfl rfl rfl rfl rfl rfl ?_
  refine ev ?_
  refine sq (fun h1 h1p h1s => ?_) fun h1 h1p h1s => ?_
  ·try simp only [Q] at h1p
   refine Walk.call (cr := []) cal100 (impl_only_a) rfl .none rfl rfl (LeL.refl _) trivial rfl rfl rfl ?_
   refine ev ?_
   refine rn0 (r2 rfl rfl) (.tup (.cons (.nild ?_) (.cons (.eqd ?_) .nil)))
   all_goals (first | (refine congrArg D.bool (okI _ ?_); (try simp only [decide_eq_true_eq, Bool.false_eq_true, within, Bool.and_eq_true, List.length_map, true_iff, false_iff]); omega) | (rw [ty0 (by omega) (by omega) (by omega)]; first | done | rfl) | (rw [ty5 (by omega)]; first | done | rfl) | (rw [ty6 (by omega)]; first | done | rfl) | (rw [ty4' (by omega) hmem]; first | done | rfl))
  ·try simp only [Q] at h1p
   refine sq (fun h2 h2p h2s => ?_) fun h2 h2p h2s => ?_
   ·try simp only [Q] at h2p
    refine CWp.regionJ ?_
    refine WRest.join 7 [(23, .d (.bool (decide ((p.ctor = 0 ∧ (p.n = 0 ∧ p.m = 0) ∧ (p.kids.length : Int) = 0) ∧ 0 ≤ p.var ∧ p.var ≤ 5))))] [17, 18, 19, 20, 21, 22] ?_ ?_
    ·
     refine ev ?_
     refine Walk.call (cr := []) cal100 (impl_only_v) rfl .none rfl rfl (LeL.refl _) trivial rfl rfl rfl ?_
     refine ev ?_
     refine sq (fun h3 h3p h3s => ?_) fun h3 h3p h3s => ?_
     ·try simp only [Q] at h3p
      refine Walk.call (cr := []) cal101 (impl_isVar_fn) rfl (.some rfl rfl h3) rfl rfl (LeL.refl _) trivial rfl rfl rfl ?_
      refine evs [] [(19, true)] ?_ ⟨⟨_, rfl, h3⟩, trivial⟩
      exact jn rfl (LeA.eqb (by (rw [Bool.eq_iff_iff]; simp only [decide_eq_true_eq, within, Bool.and_eq_true, Bool.false_eq_true, false_iff, true_iff]; omega)))
     ·try simp only [Q] at h3p
      exact jn rfl (LeA.eqb (by (rw [Bool.eq_iff_iff]; simp only [decide_eq_true_eq, within, Bool.and_eq_true, Bool.false_eq_true, false_iff, true_iff]; omega)))
    refine WRest.done ?_
    refine ev ?_
    refine rn0 (r2 rfl rfl) (.tup (.cons (.nild ?_) (.cons (.eqd ?_) .nil)))
    all_goals (first | (refine congrArg D.bool (okI _ ?_); (try simp only [decide_eq_true_eq, Bool.false_eq_true, within, Bool.and_eq_true, List.length_map, true_iff, false_iff]); omega) | (rw [ty0 (by omega) (by omega) (by omega)]; first | done | rfl) | (rw [ty5 (by omega)]; first | done | rfl) | (rw [ty6 (by omega)]; first | done | rfl) | (rw [ty4' (by omega) hmem]; first | done | rfl))
   ·try simp only [Q] at h2p
    refine sq (fun h4 h4p h4s => ?_) fun h4 h4p h4s => ?_
    ·try simp only [Q] at h4p
     refine sq (fun h5 h5p h5s => ?_) fun h5 h5p h5s => ?_
     ·try simp only [Q] at h5p
      refine Walk.call (cr := []) cal100 (impl_only_n) rfl (.some rfl rfl h5) rfl rfl (LeL.refl _) trivial rfl rfl rfl ?_
      refine evd [] [(29, true)] ?_ ⟨⟨_, rfl, h5⟩, trivial⟩
      refine sq (fun h6 h6p h6s => ?_) fun h6 h6p h6s => ?_
      ·try simp only [Q] at h6p
       refine sq (fun h7 h7p h7s => ?_) fun h7 h7p h7s => ?_
       ·try simp only [Q] at h7p
        refine sq (fun h8 h8p h8s => ?_) fun h8 h8p h8s => ?_
        ·try simp only [Q] at h8p
         refine dr ?_
         refine rn0 (r2 rfl rfl) (.tup (.cons (.nild ?_) (.cons (.eqd ?_) .nil)))
         all_goals (first | (refine congrArg D.bool (okI _ ?_); (try simp only [decide_eq_true_eq, Bool.false_eq_true, within, Bool.and_eq_true, List.length_map, true_iff, false_iff]); omega) | (rw [ty0 (by omega) (by omega) (by omega)]; first | done | rfl) | (rw [ty5 (by omega)]; first | done | rfl) | (rw [ty6 (by omega)]; first | done | rfl) | (rw [ty4' (by omega) hmem]; first | done | rfl))
        ·try simp only [Q] at h8p
         refine dr ?_
         refine rn0 (r2 rfl rfl) (.tup (.cons (.nild ?_) (.cons (.eqd ?_) .nil)))
         all_goals (first | (refine congrArg D.bool (okI _ ?_); (try simp only [decide_eq_true_eq, Bool.false_eq_true, within, Bool.and_eq_true, List.length_map, true_iff, false_iff]); omega) | (rw [ty0 (by omega) (by omega) (by omega)]; first | done | rfl) | (rw [ty5 (by omega)]; first | done | rfl) | (rw [ty6 (by omega)]; first | done | rfl) | (rw [ty4' (by omega) hmem]; first | done | rfl))
       ·try simp only [Q] at h7p
        refine sqF ?_
        refine dr ?_
        refine rn0 (r2 rfl rfl) (.tup (.cons (.nild ?_) (.cons (.eqd ?_) .nil)))
        all_goals (first | (refine congrArg D.bool (okI _ ?_); (try simp only [decide_eq_true_eq, Bool.false_eq_true, within, Bool.and_eq_true, List.length_map, true_iff, false_iff]); omega) | (rw [ty0 (by omega) (by omega) (by omega)]; first | done | rfl) | (rw [ty5 (by omega)]; first | done | rfl) | (rw [ty6 (by omega)]; first | done | rfl) | (rw [ty4' (by omega) hmem]; first | done | rfl))
      ·try simp only [Q] at h6p
       refine sqF ?_
       refine sqF ?_
       refine dr ?_
       refine rn0 (r2 rfl rfl) (.tup (.cons (.nild ?_) (.cons (.eqd ?_) .nil)))
       all_goals (first | (refine congrArg D.bool (okI _ ?_); (try simp only [decide_eq_true_eq, Bool.false_eq_true, within, Bool.and_eq_true, List.length_map, true_iff, false_iff]); omega) | (rw [ty0 (by omega) (by omega) (by omega)]; first | done | rfl) | (rw [ty5 (by omega)]; first | done | rfl) | (rw [ty6 (by omega)]; first | done | rfl) | (rw [ty4' (by omega) hmem]; first | done | rfl))
     ·try simp only [Q] at h5p
      refine sqF ?_
      refine sqF ?_
      refine sqF ?_
      refine dr ?_
      refine rn0 (r2 rfl rfl) (.tup (.cons (.nild ?_) (.cons (.eqd ?_) .nil)))
      all_goals (first | (refine congrArg D.bool (okI _ ?_); (try simp only [decide_eq_true_eq, Bool.false_eq_true, within, Bool.and_eq_true, List.length_map, true_iff, false_iff]); omega) | (rw [ty0 (by omega) (by omega) (by omega)]; first | done | rfl) | (rw [ty5 (by omega)]; first | done | rfl) | (rw [ty6 (by omega)]; first | done | rfl) | (rw [ty4' (by omega) hmem]; first | done | rfl))
    ·try simp only [Q] at h4p
     refine sq (fun h9 h9p h9s => ?_) fun h9 h9p h9s => ?_
     ·try simp only [Q] at h9p
      refine Walk.call (cr := []) cal73 (impl_ctorsOf_v hw ht) rfl .none rfl rfl (LeL.refl _) trivial rfl rfl rfl ?_
      refine evd [] [] ?_
      refine Walk.call (cr := []) cal72 (slices_Contains_int_fn hcl) rfl .none rfl rfl (LeL.refl _) trivial rfl rfl rfl ?_
      refine evd [] [] ?_
      refine dr ?_
      refine sq (fun h10 h10p h10s => ?_) fun h10 h10p h10s => ?_
      ·try simp only [Q] at h10p
       exfalso; simp_all --stop
      ·try simp only [Q] at h10p
       refine Walk.call (cr := []) cal74 (hargs) rfl .none rfl rfl (LeL.refl _) trivial rfl rfl rfl ?_
       refine ev ?_
       refine Walk.call (cr := []) cal100 (impl_only_c) rfl .none rfl rfl (LeL.refl _) trivial rfl rfl rfl ?_
       refine ev ?_
       refine rn0 (r2 rfl rfl) (.tup (.cons (.eqd ?_) (.cons (.eqd ?_) .nil)))
       all_goals (first | (refine congrArg D.bool (okI _ ?_); (try simp only [decide_eq_true_eq, Bool.false_eq_true, within, Bool.and_eq_true, List.length_map, true_iff, false_iff]); omega) | (rw [ty0 (by omega) (by omega) (by omega)]; first | done | rfl) | (rw [ty5 (by omega)]; first | done | rfl) | (rw [ty6 (by omega)]; first | done | rfl) | (rw [ty4' (by omega) hmem]; first | done | rfl))
     ·try simp only [Q] at h9p
      refine sq (fun h11 h11p h11s => ?_) fun h11 h11p h11s => ?_
      ·try simp only [Q] at h11p
       refine Walk.sliceLit sl25 tz31 rfl (by decide) (ks := [0, 1]) (xs := [_, _]) rfl rfl (by decide) (by decide) .none rfl rfl rfl rfl ?_
       refine evd [] [] ?_
       refine Walk.call (cr := []) cal100 (impl_only_a) rfl .none rfl rfl (LeL.refl _) trivial rfl rfl rfl ?_
       refine evd [] [] ?_
       refine dr ?_
       refine rn0 (r2 rfl rfl) (.tup (.cons (.eqd ?_) (.cons (.eqd ?_) .nil)))
       all_goals (first | (refine congrArg D.bool (okI _ ?_); (try simp only [decide_eq_true_eq, Bool.false_eq_true, within, Bool.and_eq_true, List.length_map, true_iff, false_iff]); omega) | (rw [ty0 (by omega) (by omega) (by omega)]; first | done | rfl) | (rw [ty5 (by omega)]; first | done | rfl) | (rw [ty6 (by omega)]; first | done | rfl) | (rw [ty4' (by omega) hmem]; first | done | rfl))
      ·try simp only [Q] at h11p
       refine sq (fun h12 h12p h12s => ?_) fun h12 h12p h12s => ?_
       ·try simp only [Q] at h12p
        refine Walk.sliceLit sl25 tz31 rfl (by decide) (ks := [0]) (xs := [_]) rfl rfl (by decide) (by decide) .none rfl rfl rfl rfl ?_
        refine evd [] [] ?_
        refine Walk.call (cr := []) cal100 (impl_only_v) rfl .none rfl rfl (LeL.refl _) trivial rfl rfl rfl ?_
        refine evd [] [] ?_
        refine sq (fun h13 h13p h13s => ?_) fun h13 h13p h13s => ?_
        ·try simp only [Q] at h13p
         refine Walk.call (cr := []) cal101 (impl_isVar_fn) rfl (.some rfl rfl h13) rfl rfl (LeL.refl _) trivial rfl rfl rfl ?_
         refine evd [] [(82, true)] ?_ ⟨⟨_, rfl, h13⟩, trivial⟩
         refine dr ?_
         refine rn0 (r2 rfl rfl) (.tup (.cons (.eqd ?_) (.cons (.eqd ?_) .nil)))
         all_goals (first | (refine congrArg D.bool (okI _ ?_); (try simp only [decide_eq_true_eq, Bool.false_eq_true, within, Bool.and_eq_true, List.length_map, true_iff, false_iff]); omega) | (rw [ty0 (by omega) (by omega) (by omega)]; first | done | rfl) | (rw [ty5 (by omega)]; first | done | rfl) | (rw [ty6 (by omega)]; first | done | rfl) | (rw [ty4' (by omega) hmem]; first | done | rfl))
        ·try simp only [Q] at h13p
         refine dr ?_
         refine rn0 (r2 rfl rfl) (.tup (.cons (.eqd ?_) (.cons (.eqd ?_) .nil)))
         all_goals (first | (refine congrArg D.bool (okI _ ?_); (try simp only [decide_eq_true_eq, Bool.false_eq_true, within, Bool.and_eq_true, List.length_map, true_iff, false_iff]); omega) | (rw [ty0 (by omega) (by omega) (by omega)]; first | done | rfl) | (rw [ty5 (by omega)]; first | done | rfl) | (rw [ty6 (by omega)]; first | done | rfl) | (rw [ty4' (by omega) hmem]; first | done | rfl))
       ·try simp only [Q] at h12p
        refine rn0 (r2 rfl rfl) (.tup (.cons (.nild ?_) (.cons (.eqd ?_) .nil)))
        all_goals (first | (refine congrArg D.bool (okI _ ?_); (try simp only [decide_eq_true_eq, Bool.false_eq_true, within, Bool.and_eq_true, List.length_map, true_iff, false_iff]); omega) | (rw [ty0 (by omega) (by omega) (by omega)]; first | done | rfl) | (rw [ty5 (by omega)]; first | done | rfl) | (rw [ty6 (by omega)]; first | done | rfl) | (rw [ty4' (by omega) hmem]; first | done | rfl))
 ·simp only [hmem, and_false, or_false] at okI
  refine bd Try.f95 87 [] [5] fun w0 F0 own kept hk => ?_
  refine Walk.box (id := 3004) .none rfl rfl rfl rfl rfl rfl rfl ?_
  refine Walk.box (id := 3005) .none rfl rfl rfl rfl rfl rfl rfl ?_
  refine ev ?_
  refine sq (fun h1 h1p h1s => ?_) fun h1 h1p h1s => ?_
  ·try simp only [Q] at h1p
   refine Walk.call (cr := []) cal100 (impl_only_a) rfl .none rfl rfl (LeL.refl _) trivial rfl rfl rfl ?_
   refine ev ?_
   refine rn0 (r2 rfl rfl) (.tup (.cons (.nild ?_) (.cons (.eqd ?_) .nil)))
   all_goals (first | (refine congrArg D.bool (okI _ ?_); (try simp only [decide_eq_true_eq, Bool.false_eq_true, within, Bool.and_eq_true, List.length_map, true_iff, false_iff]); omega) | (rw [ty0 (by omega) (by omega) (by omega)]; first | done | rfl) | (rw [ty5 (by omega)]; first | done | rfl) | (rw [ty6 (by omega)]; first | done | rfl) | (rw [ty4 (by omega) hmem]; first | done | rfl))
  ·try simp only [Q] at h1p
   refine sq (fun h2 h2p h2s => ?_) fun h2 h2p h2s => ?_
   ·try simp only [Q] at h2p
    refine CWp.regionJ ?_
    refine WRest.join 7 [(23, .d (.bool (decide ((p.ctor = 0 ∧ (p.n = 0 ∧ p.m = 0) ∧ (p.kids.length : Int) = 0) ∧ 0 ≤ p.var ∧ p.var ≤ 5))))] [17, 18, 19, 20, 21, 22] ?_ ?_
    ·
     refine ev ?_
     refine Walk.call (cr := []) cal100 (impl_only_v) rfl .none rfl rfl (LeL.refl _) trivial rfl rfl rfl ?_
     refine ev ?_
     refine sq (fun h3 h3p h3s => ?_) fun h3 h3p h3s => ?_
     ·try simp only [Q] at h3p
      refine Walk.call (cr := []) cal101 (impl_isVar_fn) rfl (.some rfl rfl h3) rfl rfl (LeL.refl _) trivial rfl rfl rfl ?_
      refine evs [] [(19, true)] ?_ ⟨⟨_, rfl, h3⟩, trivial⟩
      exact jn rfl (LeA.eqb (by (rw [Bool.eq_iff_iff]; simp only [decide_eq_true_eq, within, Bool.and_eq_true, Bool.false_eq_true, false_iff, true_iff]; omega)))
     ·try simp only [Q] at h3p
      exact jn rfl (LeA.eqb (by (rw [Bool.eq_iff_iff]; simp only [decide_eq_true_eq, within, Bool.and_eq_true, Bool.false_eq_true, false_iff, true_iff]; omega)))
    refine WRest.done ?_
    refine ev ?_
    refine rn0 (r2 rfl rfl) (.tup (.cons (.nild ?_) (.cons (.eqd ?_) .nil)))
    all_goals (first | (refine congrArg D.bool (okI _ ?_); (try simp only [decide_eq_true_eq, Bool.false_eq_true, within, Bool.and_eq_true, List.length_map, true_iff, false_iff]); omega) | (rw [ty0 (by omega) (by omega) (by omega)]; first | done | rfl) | (rw [ty5 (by omega)]; first | done | rfl) | (rw [ty6 (by omega)]; first | done | rfl) | (rw [ty4 (by omega) hmem]; first | done | rfl))
   ·try simp only [Q] at h2p
    refine sq (fun h4 h4p h4s => ?_) fun h4 h4p h4s => ?_
    ·try simp only [Q] at h4p
     refine sq (fun h5 h5p h5s => ?_) fun h5 h5p h5s => ?_
     ·try simp only [Q] at h5p
      refine Walk.call (cr := []) cal100 (impl_only_n) rfl (.some rfl rfl h5) rfl rfl (LeL.refl _) trivial rfl rfl rfl ?_
      refine evd [] [(29, true)] ?_ ⟨⟨_, rfl, h5⟩, trivial⟩
      refine sq (fun h6 h6p h6s => ?_) fun h6 h6p h6s => ?_
      ·try simp only [Q] at h6p
       refine sq (fun h7 h7p h7s => ?_) fun h7 h7p h7s => ?_
       ·try simp only [Q] at h7p
        refine sq (fun h8 h8p h8s => ?_) fun h8 h8p h8s => ?_
        ·try simp only [Q] at h8p
         refine dr ?_
         refine rn0 (r2 rfl rfl) (.tup (.cons (.nild ?_) (.cons (.eqd ?_) .nil)))
         all_goals (first | (refine congrArg D.bool (okI _ ?_); (try simp only [decide_eq_true_eq, Bool.false_eq_true, within, Bool.and_eq_true, List.length_map, true_iff, false_iff]); omega) | (rw [ty0 (by omega) (by omega) (by omega)]; first | done | rfl) | (rw [ty5 (by omega)]; first | done | rfl) | (rw [ty6 (by omega)]; first | done | rfl) | (rw [ty4 (by omega) hmem]; first | done | rfl))
        ·try simp only [Q] at h8p
         refine dr ?_
         refine rn0 (r2 rfl rfl) (.tup (.cons (.nild ?_) (.cons (.eqd ?_) .nil)))
         all_goals (first | (refine congrArg D.bool (okI _ ?_); (try simp only [decide_eq_true_eq, Bool.false_eq_true, within, Bool.and_eq_true, List.length_map, true_iff, false_iff]); omega) | (rw [ty0 (by omega) (by omega) (by omega)]; first | done | rfl) | (rw [ty5 (by omega)]; first | done | rfl) | (rw [ty6 (by omega)]; first | done | rfl) | (rw [ty4 (by omega) hmem]; first | done | rfl))
       ·try simp only [Q] at h7p
        refine sqF ?_
        refine dr ?_
        refine rn0 (r2 rfl rfl) (.tup (.cons (.nild ?_) (.cons (.eqd ?_) .nil)))
        all_goals (first | (refine congrArg D.bool (okI _ ?_); (try simp only [decide_eq_true_eq, Bool.false_eq_true, within, Bool.and_eq_true, List.length_map, true_iff, false_iff]); omega) | (rw [ty0 (by omega) (by omega) (by omega)]; first | done | rfl) | (rw [ty5 (by omega)]; first | done | rfl) | (rw [ty6 (by omega)]; first | done | rfl) | (rw [ty4 (by omega) hmem]; first | done | rfl))
      ·try simp only [Q] at h6p
       refine sqF ?_
       refine sqF ?_
       refine dr ?_
       refine rn0 (r2 rfl rfl) (.tup (.cons (.nild ?_) (.cons (.eqd ?_) .nil)))
       all_goals (first | (refine congrArg D.bool (okI _ ?_); (try simp only [decide_eq_true_eq, Bool.false_eq_true, within, Bool.and_eq_true, List.length_map, true_iff, false_iff]); omega) | (rw [ty0 (by omega) (by omega) (by omega)]; first | done | rfl) | (rw [ty5 (by omega)]; first | done | rfl) | (rw [ty6 (by omega)]; first | done | rfl) | (rw [ty4 (by omega) hmem]; first | done | rfl))
     ·try simp only [Q] at h5p
      refine sqF ?_
      refine sqF ?_
      refine sqF ?_
      refine dr ?_
      refine rn0 (r2 rfl rfl) (.tup (.cons (.nild ?_) (.cons (.eqd ?_) .nil)))
      all_goals (first | (refine congrArg D.bool (okI _ ?_); (try simp only [decide_eq_true_eq, Bool.false_eq_true, within, Bool.and_eq_true, List.length_map, true_iff, false_iff]); omega) | (rw [ty0 (by omega) (by omega) (by omega)]; first | done | rfl) | (rw [ty5 (by omega)]; first | done | rfl) | (rw [ty6 (by omega)]; first | done | rfl) | (rw [ty4 (by omega) hmem]; first | done | rfl))
    ·try simp only [Q] at h4p
     refine sq (fun h9 h9p h9s => ?_) fun h9 h9p h9s => ?_
     ·try simp only [Q] at h9p
      refine Walk.call (cr := []) cal73 (impl_ctorsOf_v hw ht) rfl .none rfl rfl (LeL.refl _) trivial rfl rfl rfl ?_
      refine evd [] [] ?_
      refine Walk.call (cr := []) cal72 (slices_Contains_int_fn hcl) rfl .none rfl rfl (LeL.refl _) trivial rfl rfl rfl ?_
      refine evd [] [] ?_
      refine dr ?_
      refine sq (fun h10 h10p h10s => ?_) fun h10 h10p h10s => ?_
      ·try simp only [Q] at h10p
       refine rn0 (r2 rfl rfl) (.tup (.cons (.nild ?_) (.cons (.eqd ?_) .nil)))
       all_goals (first | (refine congrArg D.bool (okI _ ?_); (try simp only [decide_eq_true_eq, Bool.false_eq_true, within, Bool.and_eq_true, List.length_map, true_iff, false_iff]); omega) | (rw [ty0 (by omega) (by omega) (by omega)]; first | done | rfl) | (rw [ty5 (by omega)]; first | done | rfl) | (rw [ty6 (by omega)]; first | done | rfl) | (rw [ty4 (by omega) hmem]; first | done | rfl))
      ·try simp only [Q] at h10p
       exfalso; simp_all --stop
     ·try simp only [Q] at h9p
      refine sq (fun h11 h11p h11s => ?_) fun h11 h11p h11s => ?_
      ·try simp only [Q] at h11p
       refine Walk.sliceLit sl25 tz31 rfl (by decide) (ks := [0, 1]) (xs := [_, _]) rfl rfl (by decide) (by decide) .none rfl rfl rfl rfl ?_
       refine evd [] [] ?_
       refine Walk.call (cr := []) cal100 (impl_only_a) rfl .none rfl rfl (LeL.refl _) trivial rfl rfl rfl ?_
       refine evd [] [] ?_
       refine dr ?_
       refine rn0 (r2 rfl rfl) (.tup (.cons (.eqd ?_) (.cons (.eqd ?_) .nil)))
       all_goals (first | (refine congrArg D.bool (okI _ ?_); (try simp only [decide_eq_true_eq, Bool.false_eq_true, within, Bool.and_eq_true, List.length_map, true_iff, false_iff]); omega) | (rw [ty0 (by omega) (by omega) (by omega)]; first | done | rfl) | (rw [ty5 (by omega)]; first | done | rfl) | (rw [ty6 (by omega)]; first | done | rfl) | (rw [ty4 (by omega) hmem]; first | done | rfl))
      ·try simp only [Q] at h11p
       refine sq (fun h12 h12p h12s => ?_) fun h12 h12p h12s => ?_
       ·try simp only [Q] at h12p
        refine Walk.sliceLit sl25 tz31 rfl (by decide) (ks := [0]) (xs := [_]) rfl rfl (by decide) (by decide) .none rfl rfl rfl rfl ?_
        refine evd [] [] ?_
        refine Walk.call (cr := []) cal100 (impl_only_v) rfl .none rfl rfl (LeL.refl _) trivial rfl rfl rfl ?_
        refine evd [] [] ?_
        refine sq (fun h13 h13p h13s => ?_) fun h13 h13p h13s => ?_
        ·try simp only [Q] at h13p
         refine Walk.call (cr := []) cal101 (impl_isVar_fn) rfl (.some rfl rfl h13) rfl rfl (LeL.refl _) trivial rfl rfl rfl ?_
         refine evd [] [(82, true)] ?_ ⟨⟨_, rfl, h13⟩, trivial⟩
         refine dr ?_
         refine rn0 (r2 rfl rfl) (.tup (.cons (.eqd ?_) (.cons (.eqd ?_) .nil)))
         all_goals (first | (refine congrArg D.bool (okI _ ?_); (try simp only [decide_eq_true_eq, Bool.false_eq_true, within, Bool.and_eq_true, List.length_map, true_iff, false_iff]); omega) | (rw [ty0 (by omega) (by omega) (by omega)]; first | done | rfl) | (rw [ty5 (by omega)]; first | done | rfl) | (rw [ty6 (by omega)]; first | done | rfl) | (rw [ty4 (by omega) hmem]; first | done | rfl))
        ·try simp only [Q] at h13p
         refine dr ?_
         refine rn0 (r2 rfl rfl) (.tup (.cons (.eqd ?_) (.cons (.eqd ?_) .nil)))
         all_goals (first | (refine congrArg D.bool (okI _ ?_); (try simp only [decide_eq_true_eq, Bool.false_eq_true, within, Bool.and_eq_true, List.length_map, true_iff, false_iff]); omega) | (rw [ty0 (by omega) (by omega) (by omega)]; first | done | rfl) | (rw [ty5 (by omega)]; first | done | rfl) | (rw [ty6 (by omega)]; first | done | rfl) | (rw [ty4 (by omega) hmem]; first | done | rfl))
       ·try simp only [Q] at h12p
        refine rn0 (r2 rfl rfl) (.tup (.cons (.nild ?_) (.cons (.eqd ?_) .nil)))
        all_goals (first | (refine congrArg D.bool (okI _ ?_); (try simp only [decide_eq_true_eq, Bool.false_eq_true, within, Bool.and_eq_true, List.length_map, true_iff, false_iff]); omega) | (rw [ty0 (by omega) (by omega) (by omega)]; first | done | rfl) | (rw [ty5 (by omega)]; first | done | rfl) | (rw [ty6 (by omega)]; first | done | rfl) | (rw [ty4 (by omega) hmem]; first | done | rfl))
theorem vt_iff {t u : Vt} : t = u ↔ t.var = u.var ∧ t.ty.data = u.ty.data ∧ t.ty.index = u.ty.index := by
 rcases t with ⟨a, b, c⟩; rcases u with ⟨d, e, f⟩; simp
def idxVt (l : List Vt) (v : Vt) : Int := idxF (fun x => decide (v = x)) l 0
theorem slices_Index_Vt_fn {l : List Vt} {v : Vt} (h : l.length ≤ 1000000000000) : FnD Try.prog 109 [.d (encVts l), .agg [.d (.i v.var), .d (.i v.ty.data), .d (.i v.ty.index)]] [] (.d (.i (idxVt l v))) [] := by
 refine bd Try.f109 19 [16] [] fun w0 F0 own kept hk => ?_
 refine Walk.box (id := 3003) .none rfl rfl rfl rfl rfl rfl rfl ?_
 refine evs [16] [] ?_
 refine CWp.loopX (ι := List (Vt) × List (Vt)) hk (fun x => [(8, .d (.i (x.1.length : Int)))]) [4, 5, 9, 10, 11, 12, 13, 14, 15, 16, 17, 18] (fun x => []) (fun x => x.1 ++ x.2 = l ∧ idxF (fun x => decide (v = x)) x.2 x.1.length = idxF (fun x => decide (v = x)) l 0) (fun x => x.2.length) ([], l) ⟨by simp, rfl⟩ ⟨⟨_, rfl, (LeA.eqi (by first | rfl | (simp; done) | (simp_all; done) | omega))⟩, trivial⟩ trivial (fun x => rfl) (fun x hg1 => ?_)
 obtain ⟨pre, rest⟩ := x
 dsimp only at hg1 ⊢
 refine evc [16] [] ?_
 refine sq (fun h1 h1p h1s => ?_) fun h1 h1p h1s => ?_
 ·try simp only [Q] at h1p
  rcases rest with _ | ⟨y, rest⟩
  ·exfalso; simp_all
  refine Walk.idx sl82 .none rfl rfl rfl rfl (zip_at hg1.1) rfl ?_
  refine evd [16] [] ?_
  refine Walk.eqV2 eq112 .none rfl rfl rfl rfl rfl ?_
  refine dr ?_
  refine sq (fun h2 h2p h2s => ?_) fun h2 h2p h2s => ?_
  ·try simp only [Q] at h2p
   refine rn0 (r1 rfl) (.eqd ?_)
   all_goals (unfold idxVt; rw [← hg1.2]; simp_all [idxF, vt_iff])
  ·try simp only [Q] at h2p
   refine ar ?_
   refine Exists.intro ((pre ++ [y], rest)) ⟨⟨(by have hz := hg1.1; rw [← hz]; simp), (by rw [← hg1.2]; simp [idxF]; simp_all [vt_iff])⟩, (by simp), Sub.x (by kernel_rfl) (by kernel_rfl) ⟨⟨_, rfl, (LeA.eqi (by first | rfl | (simp; done) | (simp_all; done) | omega))⟩, trivial⟩ (by kernel_rfl) (by kernel_rfl) trivial⟩
 ·try simp only [Q] at h1p
  have hrest : rest = [] := by
   rcases rest with _ | ⟨a, b⟩
   ·rfl
   ·exfalso; have hz := congrArg List.length (hg1.1); simp only [List.length_append, List.length_cons, List.length_map] at hz; omega
  subst hrest
  refine rn0 (r1 rfl) (.eqd ?_)
  all_goals (unfold idxVt; rw [← hg1.2]; simp_all [idxF, vt_iff])
theorem slices_Contains_Vt_fn {l : List Vt} {v : Vt} (h : l.length ≤ 1000000000000) : FnD Try.prog 104 [.d (encVts l), .agg [.d (.i v.var), .d (.i v.ty.data), .d (.i v.ty.index)]] [] (.d (.bool (decide (v ∈ l)))) [] := by
 refine bd Try.f104 9 [] [] fun w0 F0 own kept hk => ?_
 refine Walk.box (id := 3003) .none rfl rfl rfl rfl rfl rfl rfl ?_
 refine ev ?_
 refine Walk.call (cr := []) cal109 (slices_Index_Vt_fn h) rfl .none rfl rfl (LeL.refl _) trivial rfl rfl rfl ?_
 refine ev ?_
 refine rn0 (r1 rfl) (.eqd ?_)
 all_goals (refine congrArg D.bool ?_; rw [show idxVt l v = idxF (fun x => decide (v = x)) l 0 from rfl, idxF_any]; simp [List.any_eq, eq_comm])
theorem slices_IndexFunc_Vt_fn {xs : List Vt} {f : Nat} {caps : List AV} {hp : Hp} {p : Vt → Bool} (hs : xs.length ≤ 1000000000000) (hcal : Callee Try.prog f)
  (hf : ∀ t ∈ xs, FnD Try.prog f ([.agg [.d (.i t.var), .d (.i t.ty.data), .d (.i t.ty.index)]] ++ caps) hp (.d (.bool (p t))) []) (k1 : subH hp hp) (k2 : noTok hp = true) (k3 : okCall hp [] (.d .nilp) [] = true) :
  FnD Try.prog 108 [.d (encVts xs), .fn f caps] hp (.d (.i (idxF p xs 0))) [] := by
 refine bd Try.f108 19 [] [] fun w0 F0 own kept hk => ?_
 refine CWp.loopX (ι := List (Vt) × List (Vt)) hk (fun x => [(8, .d (.i (x.1.length : Int)))]) [4, 5, 9, 10, 11, 12, 13, 14, 15, 16, 17, 18] (fun x => []) (fun x => x.1 ++ x.2 = xs ∧ idxF p x.2 x.1.length = idxF p xs 0) (fun x => x.2.length) ([], xs) ⟨by simp, rfl⟩ ⟨⟨_, rfl, (LeA.eqi (by first | rfl | (simp; done) | (simp_all; done) | omega))⟩, trivial⟩ trivial (fun x => boxIds_all hp) (fun x hg1 => ?_)
 obtain ⟨pre, rest⟩ := x
 dsimp only at hg1 ⊢
 refine evc [] [] ?_
 refine sq (fun h1 h1p h1s => ?_) fun h1 h1p h1s => ?_
 ·try simp only [Q] at h1p
  rcases rest with _ | ⟨y, rest⟩
  ·exfalso; simp_all
  refine Walk.idx sl82 .none rfl rfl rfl rfl (zip_at hg1.1) rfl ?_
  refine ev ?_
  refine Walk.callV (cr := []) hcal (hf y (by rw [← hg1.1]; simp)) rfl .none rfl rfl rfl (LeL.refl _) k1 k2 (okCall_d k3 _) rfl ?_
  refine tv ?_
  refine sq (fun h2 h2p h2s => ?_) fun h2 h2p h2s => ?_
  ·try simp only [Q] at h2p
   refine rn [] (r1 rfl) (.eqd ?_) ⟨rfl, rfl⟩ (fun _ _ h => h) (fun _ h => h)
   all_goals (rw [← hg1.2]; simp [idxF, h1s, h1p, h2s, h2p])
  ·try simp only [Q] at h2p
   refine ar ?_
   refine Exists.intro ((pre ++ [y], rest)) ⟨⟨(by have hz := hg1.1; rw [← hz]; simp), (by rw [← hg1.2]; simp [idxF, h2s])⟩, (by simp), Sub.x (by kernel_rfl) (by kernel_rfl) ⟨⟨_, rfl, (LeA.eqi (by first | rfl | (simp; done) | (simp_all; done) | omega))⟩, trivial⟩ (by simp) (by simp [coverH]) trivial⟩
 ·try simp only [Q] at h1p
  have hrest : rest = [] := by
   rcases rest with _ | ⟨a, b⟩
   ·rfl
   ·exfalso; have hz := congrArg List.length (hg1.1); simp only [List.length_append, List.length_cons, List.length_map] at hz; omega
  subst hrest
  refine rn [] (r1 rfl) (.eqd ?_) ⟨rfl, rfl⟩ (fun _ _ h => h) (fun _ h => h)
  all_goals (rw [← hg1.2]; simp [idxF, h1s, h1p])
theorem slices_ContainsFunc_Vt_fn {xs : List Vt} {f : Nat} {caps : List AV} {hp : Hp} {p : Vt → Bool} (hs : xs.length ≤ 1000000000000) (hcal : Callee Try.prog f)
  (hf : ∀ t ∈ xs, FnD Try.prog f ([.agg [.d (.i t.var), .d (.i t.ty.data), .d (.i t.ty.index)]] ++ caps) hp (.d (.bool (p t))) []) (k1 : subH hp hp) (k2 : noTok hp = true) (k3 : okCall hp [] (.d .nilp) [] = true) :
  FnD Try.prog 102 [.d (encVts xs), .fn f caps] hp (.d (.bool (xs.any p))) [] := by
 refine bd Try.f102 9 [] [] fun w0 F0 own kept hk => ?_
 refine Walk.call (cr := []) cal108 (slices_IndexFunc_Vt_fn hs hcal hf k1 k2 k3) rfl .none rfl rfl (LeL.refl _) k1 k2 (okCall_d k3 _) rfl ?_
 refine ev ?_
 refine rn [] (r1 rfl) (.eqd ?_) ⟨rfl, rfl⟩ (fun _ _ h => h) (fun _ h => h)
 all_goals (exact congrArg D.bool (idxF_any p xs 0))
theorem impl_sameVars_1_fn {b : List Vt} {v : Vt} (h : b.length ≤ 1000000000000) : FnD Try.prog 103 [.agg [.d (.i v.var), .d (.i v.ty.data), .d (.i v.ty.index)], .ref 3003 0] [(3003, some (.box [.d (encVts b)]))] (.d (.bool (!decide (v ∈ b)))) [] := by
 refine bd Try.f103 8 [] [] fun w0 F0 own kept hk => ?_
 refine Walk.box (id := 3001) .none rfl rfl rfl rfl rfl rfl rfl ?_
 refine ev ?_
 refine Walk.call (cr := []) cal104 (slices_Contains_Vt_fn h) rfl .none rfl rfl (LeL.refl _) trivial rfl rfl rfl ?_
 refine ev ?_
 refine rn [] (r1 rfl) (.eqd ?_) ⟨rfl, rfl⟩ (SubH.get ⟨rfl, trivial⟩) (fun _ h => h)
 all_goals (rfl)
theorem impl_sameVars_fn {x y : List Vt} (hx : x.length ≤ 1000000000000) (hy : y.length ≤ 1000000000000) : FnD Try.prog 96 [.d (encVts x), .d (encVts y)] [] (.d (.bool (sameV2 x y))) [] := by
 refine bd Try.f96 16 [] [] fun w0 F0 own kept hk => ?_
 refine Walk.box (id := 3003) .none rfl rfl rfl rfl rfl rfl rfl ?_
 refine ev ?_
 refine sq (fun h1 h1p h1s => ?_) fun h1 h1p h1s => ?_
 ·try simp only [Q] at h1p
  refine Walk.closure (xs := [_]) rfl (.some rfl rfl h1) rfl rfl ?_
  refine Walk.call (cr := []) cal102 (slices_ContainsFunc_Vt_fn (p := fun v => !decide (v ∈ y)) hx cal103 (fun t _ => impl_sameVars_1_fn hy) ⟨rfl, trivial⟩ rfl rfl) rfl (.some rfl rfl h1) rfl rfl (LeL.refl _) ⟨rfl, trivial⟩ rfl rfl rfl ?_
  refine evs [] [(10, true)] ?_ ⟨⟨_, rfl, h1⟩, trivial⟩
  refine rn0 (r1 rfl) (.eqd ?_)
  all_goals (refine congrArg D.bool ?_; unfold sameV2; first | (simp_all; done) | (simp_all; intro hz; omega))
 ·try simp only [Q] at h1p
  refine rn0 (r1 rfl) (.eqd ?_)
  all_goals (refine congrArg D.bool ?_; unfold sameV2; first | (simp_all; done) | (simp_all; intro hz; omega))
def metA (s : List Int) : List AV := (List.range 6).map fun (i : Nat) => .d (.bool (decide ((i : Int) ∈ s)))
theorem metA_get {s : List Int} {v : Int} (h0 : 0 ≤ v) (h1 : v ≤ 5) : (metA s)[v.toNat]? = some (.d (.bool (decide (v ∈ s)))) := by
 unfold metA
 rw [List.getElem?_map, List.getElem?_range (by omega)]
 simp only [Option.map_some]
 rw [Int.toNat_of_nonneg h0]
theorem metA_put {s : List Int} {v : Int} (h0 : 0 ≤ v) (h1 : v ≤ 5) : putC (metA s) v.toNat [.d (.bool true)] = some (metA (s ++ [v])) := by
 have e : v = 0 ∨ v = 1 ∨ v = 2 ∨ v = 3 ∨ v = 4 ∨ v = 5 := by omega
 rcases e with rfl | rfl | rfl | rfl | rfl | rfl <;> simp [metA, putC, List.range_succ]
theorem nameP_len (t : Ty) (p : Pat) : (nameP t p).length ≤ 1 := by unfold nameP; split <;> simp
theorem nodup_sub : ∀ {a b : List Int}, a.Nodup → (∀ x ∈ a, x ∈ b) → a.length ≤ b.length
 | [], b, _, _ => by simp
 | x :: r, b, hn, hs => by
  have hn' := List.nodup_cons.1 hn
  have hx := hs x (by simp)
  have h := nodup_sub (a := r) (b := b.erase x) hn'.2 (fun y hy => by
   have hne : y ≠ x := fun e => hn'.1 (e ▸ hy)
   exact (List.mem_erase_of_ne hne).2 (hs y (by simp [hy])))
  rw [List.length_erase_of_mem hx] at h
  have := List.length_pos_of_mem hx
  simp only [List.length_cons]; omega
def InR (l : List Vt) : Prop := ∀ v ∈ l, 0 ≤ v.var ∧ v.var ≤ 5
theorem nodup_len {l : List Vt} (h : InR l) (hn : nodupV l = true) : l.length ≤ 6 := by
 unfold nodupV at hn
 have h1 := of_decide_eq_true hn
 have h2 : ∀ x ∈ l.map Vt.var, x ∈ [(0 : Int), 1, 2, 3, 4, 5] := fun x hx => by
  obtain ⟨v, hv, rfl⟩ := List.mem_map.1 hx
  have := h v hv
  simp only [List.mem_cons, List.not_mem_nil, or_false]; omega
 have := nodup_sub h1 h2
 simpa using this
theorem scanK_in {g : Ty → Pat → Int → Option (List Vt) × Int} {or : Bool} (hg : ∀ t p c l, (g t p c).1 = some l → InR l) : ∀ (a : List Ty) (b : List Pat) (i : Nat) (acc : List Vt) (c : Int) (l : List Vt), InR acc → (scanK g or a b i acc c).1 = some l → InR l
 | [], b, i, acc, c, l, ha, h => by simp only [scanK, Option.some.injEq] at h; subst h; exact ha
 | _ :: _, [], i, acc, c, l, ha, h => by simp only [scanK, Option.some.injEq] at h; subst h; exact ha
 | x :: r, y :: s, i, acc, c, l, ha, h => by
  simp only [scanK] at h
  cases hh : (g x y c).1 with
  | none => rw [hh] at h; cases h
  | some m =>
   rw [hh] at h
   simp only at h
   split at h
   ·split at h
    ·exact scanK_in hg r s (i + 1) acc _ l ha h
    ·cases h
   ·refine scanK_in hg r s (i + 1) _ _ l (fun v hv => ?_) h
    rcases List.mem_append.1 hv with hv | hv
    ·exact ha v hv
    ·exact hg x y c m hh v hv
theorem scanP_in (w : List Data) : ∀ (n : Nat) (t : Ty) (p : Pat) (c : Int) (l : List Vt), (scanP w n t p c).1 = some l → InR l ∧ nodupV l = true
 | 0, t, p, c, l, h => by simp [scanP] at h
 | n + 1, t, p, c, l, h => by
  unfold scanP at h
  split at h
  ·cases h
  ·split at h
   ·rename_i h60 ho
    have ho' : ownP w t p = true := by unfold okP at ho; simp only [Bool.and_eq_true] at ho; exact ho.1
    cases hk : (scanK (scanP w n) (decide (p.op = 5)) (typesP w t p) p.kids 0 (nameP t p) (c + 1)).1 with
    | none => unfold finV at h; rw [hk] at h; simp only at h; rw [hk] at h; cases h
    | some m =>
     have hi : InR m := scanK_in (fun t p c l h => (scanP_in w n t p c l h).1) _ _ _ _ _ m (fun v hv => by
      unfold nameP at hv
      split at hv
      ·rename_i hop
       simp only [List.mem_cons, List.not_mem_nil, or_false] at hv
       subst hv
       exact ownP_var ho' hop
      ·simp at hv) hk
     unfold finV at h
     rw [hk] at h
     simp only at h
     split at h
     ·rename_i hn
      rw [hk] at h
      cases h
      exact ⟨hi, hn⟩
     ·cases h
   ·cases h
theorem scanP_bd (w : List Data) (n : Nat) (t : Ty) (p : Pat) (c : Int) (h : (scanP w n t p c).1.isSome = true) : c + 1 ≤ (scanP w n t p c).2 ∧ (scanP w n t p c).2 ≤ 60 := by
 have h1 := scanP_eq w n t p c
 by_cases hw : wantP w n t p c = true
 ·have h2 := h1.2 hw
  simp only [wantP, Bool.and_eq_true, decide_eq_true_eq] at hw
  have := Pat.size_eq p
  omega
 ·rw [if_neg hw] at h1; rw [h1.1] at h; cases h
def someV (o : Option (List Vt)) : List Vt := o.getD []
theorem scanK_none {g : Ty → Pat → Int → Option (List Vt) × Int} {or : Bool} {a : List Ty} {b : List Pat} {i : Nat} {acc : List Vt} {c : Int} (ha : i < a.length) (hl : b.length = a.length) (h : (g (nth a i) (nth b i) c).1.isSome = false) :
  scanK g or (a.drop i) (b.drop i) i acc c = (none, (g (nth a i) (nth b i) c).2) := by
 rw [drop_nth ha, drop_nth (l := b) (by omega), scanK]
 cases hh : (g (nth a i) (nth b i) c).1 with
 | none => rfl
 | some l => rw [hh] at h; cases h
theorem scanK_bad {g : Ty → Pat → Int → Option (List Vt) × Int} {or : Bool} {a : List Ty} {b : List Pat} {i : Nat} {acc : List Vt} {c : Int} (ha : i < a.length) (hl : b.length = a.length) (h : (g (nth a i) (nth b i) c).1.isSome = true) (ho : or = true ∧ i = 1) (hs : sameV2 acc (someV (g (nth a i) (nth b i) c).1) = false) :
  scanK g or (a.drop i) (b.drop i) i acc c = (none, (g (nth a i) (nth b i) c).2) := by
 rw [drop_nth ha, drop_nth (l := b) (by omega), scanK]
 cases hh : (g (nth a i) (nth b i) c).1 with
 | none => rfl
 | some l => rw [hh] at hs; simp only [someV, Option.getD_some] at hs; simp only [if_pos ho, hs, Bool.false_eq_true, if_false]
theorem scanK_next {g : Ty → Pat → Int → Option (List Vt) × Int} {or : Bool} {a : List Ty} {b : List Pat} {i : Nat} {acc : List Vt} {c : Int} (ha : i < a.length) (hl : b.length = a.length) (h : (g (nth a i) (nth b i) c).1.isSome = true) (hs : (or = true ∧ i = 1) → sameV2 acc (someV (g (nth a i) (nth b i) c).1) = true) :
  scanK g or (a.drop i) (b.drop i) i acc c = scanK g or (a.drop (i + 1)) (b.drop (i + 1)) (i + 1) (if or = true ∧ i = 1 then acc else acc ++ someV (g (nth a i) (nth b i) c).1) (g (nth a i) (nth b i) c).2 := by
 rw [drop_nth ha, drop_nth (l := b) (by omega), scanK]
 cases hh : (g (nth a i) (nth b i) c).1 with
 | none => rw [hh] at h; cases h
 | some l =>
  by_cases ho : or = true ∧ i = 1
  ·have := hs ho; rw [hh] at this; simp only [someV, Option.getD_some] at this
   simp only [if_pos ho, this, if_true]
  ·simp only [if_neg ho, someV, Option.getD_some]
theorem scanK_end {g : Ty → Pat → Int → Option (List Vt) × Int} {or : Bool} {a : List Ty} {b : List Pat} {i : Nat} {acc : List Vt} {c : Int} (ha : a.length ≤ i) : scanK g or (a.drop i) (b.drop i) i acc c = (some acc, c) := by
 rw [List.drop_eq_nil_of_le ha, scanK]
 intro a r b s h; cases h
theorem someV_ok (w : List Data) (n : Nat) (t : Ty) (p : Pat) (c : Int) : InR (someV (scanP w n t p c).1) ∧ (someV (scanP w n t p c).1).length ≤ 6 := by
 cases h : (scanP w n t p c).1 with
 | none => exact ⟨fun v hv => by simp [someV] at hv, by simp [someV]⟩
 | some l =>
  have := scanP_in w n t p c l h
  exact ⟨this.1, nodup_len this.1 this.2⟩
structure GoodS (w : List Data) (n : Nat) (t : Ty) (p : Pat) (c : Int) (x : Nat × List Vt × Int) : Prop where
 le : x.1 ≤ p.kids.length
 eq : scanK (scanP w n) (decide (p.op = 5)) ((typesP w t p).drop x.1) (p.kids.drop x.1) x.1 x.2.1 x.2.2 = scanK (scanP w n) (decide (p.op = 5)) (typesP w t p) p.kids 0 (nameP t p) (c + 1)
 lc : (x.1 : Int) ≤ x.2.2
 c0 : 0 ≤ x.2.2
 c1 : x.2.2 ≤ 60
 len : x.2.1.length ≤ 1 + 6 * x.1
 inr : InR x.2.1
def nextS (w : List Data) (n : Nat) (t : Ty) (p : Pat) (x : Nat × List Vt × Int) : Nat × List Vt × Int :=
 (x.1 + 1, if decide (p.op = 5) = true ∧ x.1 = 1 then x.2.1 else x.2.1 ++ someV (scanP w n (nth (typesP w t p) x.1) (nth p.kids x.1) x.2.2).1, (scanP w n (nth (typesP w t p) x.1) (nth p.kids x.1) x.2.2).2)
theorem GoodS.next {w : List Data} {n : Nat} {t : Ty} {p : Pat} {c : Int} {x : Nat × List Vt × Int} (hl : p.kids.length = (typesP w t p).length) (hg : GoodS w n t p c x) (hlt : x.1 < p.kids.length)
  (hz : (scanP w n (nth (typesP w t p) x.1) (nth p.kids x.1) x.2.2).1.isSome = true) (hs : (decide (p.op = 5) = true ∧ x.1 = 1) → sameV2 x.2.1 (someV (scanP w n (nth (typesP w t p) x.1) (nth p.kids x.1) x.2.2).1) = true) :
  GoodS w n t p c (nextS w n t p x) := by
 obtain ⟨h1, h2, h3, h4, h5, h6, h7⟩ := hg
 have hb := scanP_bd w n _ _ _ hz
 have ho := someV_ok w n (nth (typesP w t p) x.1) (nth p.kids x.1) x.2.2
 refine ⟨by unfold nextS; dsimp only; omega, ?_, by unfold nextS; dsimp only; omega, by unfold nextS; dsimp only; omega, by unfold nextS; dsimp only; omega, ?_, ?_⟩
 ·rw [← h2, scanK_next (by omega) hl hz hs]; rfl
 ·unfold nextS; dsimp only
  split
  ·omega
  ·rw [List.length_append]; omega
 ·unfold nextS; dsimp only
  split
  ·exact h7
  ·intro v hv
   rcases List.mem_append.1 hv with hv | hv
   ·exact h7 v hv
   ·exact ho.1 v hv
theorem GoodS.none {w : List Data} {n : Nat} {t : Ty} {p : Pat} {c : Int} {x : Nat × List Vt × Int} (hl : p.kids.length = (typesP w t p).length) (hg : GoodS w n t p c x) (hlt : x.1 < p.kids.length)
  (hz : (scanP w n (nth (typesP w t p) x.1) (nth p.kids x.1) x.2.2).1.isSome = false) :
  finV (scanK (scanP w n) (decide (p.op = 5)) (typesP w t p) p.kids 0 (nameP t p) (c + 1)) = (none, (scanP w n (nth (typesP w t p) x.1) (nth p.kids x.1) x.2.2).2) := by
 rw [← hg.eq, scanK_none (by omega) hl hz]; rfl
theorem GoodS.bad {w : List Data} {n : Nat} {t : Ty} {p : Pat} {c : Int} {x : Nat × List Vt × Int} (hl : p.kids.length = (typesP w t p).length) (hg : GoodS w n t p c x) (hlt : x.1 < p.kids.length)
  (hz : (scanP w n (nth (typesP w t p) x.1) (nth p.kids x.1) x.2.2).1.isSome = true) (ho : p.op = 5 ∧ x.1 = 1) (hs : sameV2 x.2.1 (someV (scanP w n (nth (typesP w t p) x.1) (nth p.kids x.1) x.2.2).1) = false) :
  finV (scanK (scanP w n) (decide (p.op = 5)) (typesP w t p) p.kids 0 (nameP t p) (c + 1)) = (Option.none, (scanP w n (nth (typesP w t p) x.1) (nth p.kids x.1) x.2.2).2) := by
 rw [← hg.eq, scanK_bad (by omega) hl hz (by simpa using ho) hs]; rfl
theorem GoodS.fin {w : List Data} {n : Nat} {t : Ty} {p : Pat} {c : Int} {x : Nat × List Vt × Int} (hl : p.kids.length = (typesP w t p).length) (hg : GoodS w n t p c x) (hge : p.kids.length ≤ x.1) :
  finV (scanK (scanP w n) (decide (p.op = 5)) (typesP w t p) p.kids 0 (nameP t p) (c + 1)) = (if nodupV x.2.1 = true then some x.2.1 else Option.none, x.2.2) := by
 rw [← hg.eq, scanK_end (by omega)]
 unfold finV
 simp only
 split <;> rfl
theorem nodup_app {pre rest l : List Vt} {y : Vt} (h : pre ++ y :: rest = l) (hm : y.var ∈ pre.map Vt.var) : nodupV l = false := by
 unfold nodupV
 refine decide_eq_false (fun hn => ?_)
 rw [← h, List.map_append, List.map_cons, List.nodup_append] at hn
 exact hn.2.2 _ hm _ (by simp) rfl
theorem nodup_snoc {pre : List Vt} {y : Vt} (h : (pre.map Vt.var).Nodup) (hm : y.var ∉ pre.map Vt.var) : ((pre ++ [y]).map Vt.var).Nodup := by
 rw [List.map_append, List.nodup_append]
 exact ⟨h, by simp, fun a ha b hb => by simp at hb; subst hb; exact fun e => hm (e ▸ ha)⟩
def retV (r : Option (List Vt) × Int) : AV := .tup [.d (encVts (someV r.1)), .d (.bool r.1.isSome)]
theorem impl_patternScan_fn {w : List Data} (hw : WT w) : ∀ (n : Nat) {a k d c : Int} {p : Pat}, d + n = 11 → n ≤ 10 → TyIn w.length ⟨a, k⟩ → p.ok → 0 ≤ c → c ≤ 1000000000000 →
  FnD Try.prog 79 [.d (encDatas w), .agg [.d (.i a), .d (.i k)], .agg [.d (.i p.op), .d (.i p.ctor), .d (.i p.n), .d (.i p.m), .d (.i p.var), .d (encPats p.kids)], .d (.i d), .ref 950 0] [(950, some (.box [.d (.i c)]))]
   (retV (scanP w n ⟨a, k⟩ p c)) [(950, some (.box [.d (.i (scanP w n ⟨a, k⟩ p c).2)]))]
 | 0, a, k, d, c, p, hd, _, _, _, c0, c1 => by
  refine bd Try.f79 114 [] [2] fun w0 F0 own kept hk => ?_
  refine Walk.box (id := 3006) .none rfl rfl rfl rfl rfl rfl rfl ?_
  refine Walk.box (id := 3007) .none rfl rfl rfl rfl rfl rfl rfl ?_
  refine ev ?_
  refine ar ?_
  refine Walk.store ty3 .none rfl rfl rfl rfl rfl rfl (by simp) rfl ?_
  refine tv ?_
  refine CWp.regionJ ?_
  refine WRest.join 8 [(34, .d (.bool (true)))] [27, 28, 29, 30, 31, 32, 33] ?_ ?_
  ·
   refine ev ?_
   refine sq (fun h1 h1p h1s => ?_) fun h1 h1p h1s => ?_
   ·try simp only [Q] at h1p
    exact jnb rfl
   ·try simp only [Q] at h1p
    exact jnb rfl
  refine WRest.done ?_
  refine tv ?_
  refine sq (fun h2 h2p h2s => ?_) fun h2 h2p h2s => ?_
  ·try simp only [Q] at h2p
   refine rn [(950, some (.box [.d (.i (scanP w 0 ⟨a, k⟩ p c).2)]))] (r2 rfl rfl) (.tup (.cons (.nild ?_) (.cons (.eqd ?_) .nil))) ⟨rfl, rfl⟩ (SubO.get ⟨.inr (by rfl), ⟨.inl rfl, trivial⟩⟩) (boxOK rfl)
   all_goals (rfl)
  ·try simp only [Q] at h2p
   exact absurd h2 (by simp) --stop
 | n + 1, a, k, d, c, p, hd, hn, ht, hok, c0, c1 => by
  by_cases h60 : 60 < c + 1
  ·have e : scanP w (n + 1) ⟨a, k⟩ p c = (none, c + 1) := by unfold scanP; rw [if_pos h60]
   rw [e]
   refine bd Try.f79 114 [] [2] fun w0 F0 own kept hk => ?_
   refine Walk.box (id := 3006) .none rfl rfl rfl rfl rfl rfl rfl ?_
   refine Walk.box (id := 3007) .none rfl rfl rfl rfl rfl rfl rfl ?_
   refine ev ?_
   refine ar ?_
   refine Walk.store ty3 .none rfl rfl rfl rfl rfl rfl (by simp) rfl ?_
   refine tv ?_
   refine CWp.regionJ ?_
   refine WRest.join 8 [(34, .d (.bool (true)))] [27, 28, 29, 30, 31, 32, 33] ?_ ?_
   ·
    refine ev ?_
    refine sq (fun h1 h1p h1s => ?_) fun h1 h1p h1s => ?_
    ·try simp only [Q] at h1p
     exact jnb rfl
    ·try simp only [Q] at h1p
     exact jnb rfl
   refine WRest.done ?_
   refine tv ?_
   refine sq (fun h2 h2p h2s => ?_) fun h2 h2p h2s => ?_
   ·try simp only [Q] at h2p
    refine rn [(950, some (.box [.d (.i (c + 1))]))] (r2 rfl rfl) (.tup (.cons (.nild ?_) (.cons (.eqd ?_) .nil))) ⟨rfl, rfl⟩ (SubO.get ⟨.inr (by rfl), ⟨.inl rfl, trivial⟩⟩) (boxOK rfl)
    all_goals (rfl)
   ·try simp only [Q] at h2p
    exact absurd h2 (by simp) --stop
  have hsh := impl_shape_fn hw (p := p) ht
  by_cases hop : okP w ⟨a, k⟩ p = true
  ·have hok' := hok
   rw [Pat.ok_iff] at hok
   have hop' := hop
   unfold okP at hop'
   simp only [Bool.and_eq_true, decide_eq_true_eq] at hop'
   obtain ⟨ho, hl⟩ := hop'
   have hin := typesP_in hw ht ho
   have hlen := typesP_len hw ht (ownP_mem ho)
   have hst : shapeT w ⟨a, k⟩ p = typesP w ⟨a, k⟩ p := by unfold shapeT; rw [if_neg (fun h => h.2 (ownP_mem ho h.1))]
   rw [hst, hop] at hsh
   have e : scanP w (n + 1) ⟨a, k⟩ p c = finV (scanK (scanP w n) (decide (p.op = 5)) (typesP w ⟨a, k⟩ p) p.kids 0 (nameP ⟨a, k⟩ p) (c + 1)) := by
    conv => lhs; unfold scanP
    rw [if_neg h60, if_pos hop]
   have hnr : InR (nameP ⟨a, k⟩ p) := fun v hv => by
    unfold nameP at hv
    split at hv
    ·rename_i hop
     simp only [List.mem_cons, List.not_mem_nil, or_false] at hv
     subst hv
     exact ownP_var ho hop
    ·simp at hv
   have hnl := nameP_len ⟨a, k⟩ p
   rw [e]
   refine bd Try.f79 114 [14, 108] [2, 8, 17] fun w0 F0 own kept hk => ?_
   refine Walk.box (id := 3006) .none rfl rfl rfl rfl rfl rfl rfl ?_
   refine Walk.box (id := 3007) .none rfl rfl rfl rfl rfl rfl rfl ?_
   refine evs [14, 108] [] ?_
   refine ar ?_
   refine Walk.store ty3 .none rfl rfl rfl rfl rfl rfl (by simp) rfl ?_
   refine tv ?_
   refine CWp.regionJ ?_
   refine WRest.join 8 [(34, .d (.bool (false)))] [27, 28, 29, 30, 31, 32, 33] ?_ ?_
   ·
    refine evs [14, 108] [] ?_
    refine sq (fun h1 h1p h1s => ?_) fun h1 h1p h1s => ?_
    ·try simp only [Q, Pat.cs_len] at h1p
     exact jnb rfl
    ·try simp only [Q, Pat.cs_len] at h1p
     exact jnb rfl
   refine WRest.done ?_
   refine tv ?_
   refine sq (fun h2 h2p h2s => ?_) fun h2 h2p h2s => ?_
   ·try simp only [Q, Pat.cs_len] at h2p
    exact absurd h2 (by simp) --stop
   ·try simp only [Q, Pat.cs_len] at h2p
    refine Walk.call (cr := []) cal95 (hsh) rfl .none rfl rfl (LeL.refl _) trivial rfl rfl rfl ?_
    refine evs [14, 108] [] ?_
    refine sq (fun h3 h3p h3s => ?_) fun h3 h3p h3s => ?_
    ·try simp only [Q, Pat.cs_len] at h3p
     exact absurd h3 (by simp) --stop
    ·try simp only [Q, Pat.cs_len] at h3p
     refine Walk.assignNil 5 3 .none rfl rfl ?_
     refine tv ?_
     refine CWp.regionJ ?_
     refine WRest.join 8 [(51, .d (.bool (decide (p.op = 2 ∨ p.op = 6))))] [44, 45, 46, 47, 48, 49, 50] ?_ ?_
     ·
      refine evs [14, 108] [] ?_
      refine sq (fun h4 h4p h4s => ?_) fun h4 h4p h4s => ?_
      ·try simp only [Q, Pat.cs_len] at h4p
       exact jnb rfl
      ·try simp only [Q, Pat.cs_len] at h4p
       exact jnb rfl
     refine WRest.done ?_
     refine tv ?_
     refine sq (fun h5 h5p h5s => ?_) fun h5 h5p h5s => ?_
     ·try simp only [Q, Pat.cs_len] at h5p
      refine Walk.build st112 (ks := [0, 1]) (xs := [_, _]) rfl rfl .none rfl rfl rfl ?_
      refine Walk.sliceLit sl82 tz112 rfl (by decide) (ks := [0]) (xs := [_]) rfl rfl (by decide) (by decide) .none rfl rfl rfl rfl ?_
      refine Walk.append sl82 zz112 rfl .none rfl rfl rfl rfl (htokL rfl (by first | rfl | (simp; done) | (simp; omega))) (by simp) (by (simp; done)) (by (simp; done)) ?_
      refine asg ?_
      refine tv ?_
      refine CWp.loopX (ι := Nat × List Vt × Int) hk (fun z => [(62, .d (.i (z.1 : Int))), (14, .gl 5 (z.2.1.map Vt.c))]) [10, 11, 15, 16, 17, 18, 63, 64, 65, 66, 67, 68, 69, 70, 71, 72, 73, 74, 75, 76, 77, 78, 79, 80, 81, 82, 83, 84, 85, 86, 87, 88, 89, 90, 91, 92, 93, 94, 95, 96, 97, 98] (fun z => [(950, some (.box [.d (.i z.2.2)])), (5, some (.tok ((z.2.1.map Vt.c)).length 3))]) (fun z => GoodS w n ⟨a, k⟩ p c z) (fun z => p.kids.length - z.1) (0, nameP ⟨a, k⟩ p, c + 1) ⟨by simp, by simp, by dsimp only; omega, by dsimp only; omega, by dsimp only; omega, by dsimp only; omega, hnr⟩ ⟨⟨_, rfl, (LeA.eqi (by rfl))⟩, ⟨⟨_, rfl, (LeA.glg (by (simp_all [nameP]; done)))⟩, trivial⟩⟩ ⟨(by first | rfl | (simp [getH]; done)), ⟨beq_nat_eq (by (first | rfl | (simp; done) | (dsimp only; omega) | (simp_all [nameP]; done) | (unfold nextS; dsimp only; rw [if_neg (by simp_all)]; simp; done) | (unfold nextS; dsimp only; rw [if_pos (by simp_all)]; done))), trivial⟩⟩ (fun x => rfl) (fun z hg1 => ?_)
      obtain ⟨s1, _, s3, s4, s5, s6, s7⟩ := id hg1
      refine evc [14, 108] [2, 8, 17] ?_
      refine sq (fun h6 h6p h6s => ?_) fun h6 h6p h6s => ?_
      ·try simp only [Q, Pat.cs_len] at h6p
       refine Walk.idx sl41 .none rfl rfl rfl rfl (pats_at (by omega)) rfl ?_
       refine evs [14, 108] [] ?_
       refine Walk.alloc (id := 3016) tz43 rfl .none rfl rfl rfl rfl ?_
       refine evs [14, 108] [] ?_
       refine Walk.store ty43 .none rfl rfl rfl rfl rfl rfl (by simp) rfl ?_
       refine tv ?_
       refine Walk.idx sl25 .none rfl rfl rfl rfl (at_nth (by omega)) rfl ?_
       refine evd [14, 108] [] ?_
       refine ar ?_
       refine Walk.call (cr := []) cal79 (impl_patternScan_fn hw n (a := (nth (typesP w ⟨a, k⟩ p) z.1).data) (k := (nth (typesP w ⟨a, k⟩ p) z.1).index) (c := z.2.2) (p := nth p.kids z.1) (by omega) (by omega) (hin _ (nth_mem (by omega))) (Pats.ok_mem hok.2 _ (nth_mem (by omega))) (by omega) (by omega)) rfl .none rfl rfl (LeL.refl _) ⟨rfl, trivial⟩ rfl rfl rfl ?_
       refine evd [14, 108] [] ?_
       refine dr ?_
       refine sq (fun h7 h7p h7s => ?_) fun h7 h7p h7s => ?_
       ·try simp only [Q, Pat.cs_len] at h7p
        refine rn [(950, some (.box [.d (.i (finV (scanK (scanP w n) (decide (p.op = 5)) (typesP w ⟨a, k⟩ p) p.kids 0 (nameP ⟨a, k⟩ p) (c + 1))).2)]))] (r2 rfl rfl) (.tup (.cons (.nild ?_) (.cons (.eqd ?_) .nil))) ⟨rfl, rfl⟩ (SubO.get ⟨.inr (by (show some (Res.box _) = some (Res.box _); rw [hg1.none hl (by omega) (by assumption)]; done)), ⟨.inl rfl, trivial⟩⟩) (boxOK rfl)
        all_goals ((rw [hg1.none hl (by omega) (by assumption)]; first | done | rfl))
       ·try simp only [Q, Pat.cs_len] at h7p
        refine CWp.regionJ ?_
        refine WRest.join 7 [(93, .d (.bool (decide (p.op = 5 ∧ z.1 = 1))))] [87, 88, 89, 90, 91, 92] ?_ ?_
        ·
         refine evs [14, 108] [] ?_
         refine sq (fun h8 h8p h8s => ?_) fun h8 h8p h8s => ?_
         ·try simp only [Q, Pat.cs_len] at h8p
          exact jnb rfl
         ·try simp only [Q, Pat.cs_len] at h8p
          exact jnb rfl
        refine WRest.done ?_
        refine evs [14, 108] [] ?_
        refine sq (fun h9 h9p h9s => ?_) fun h9 h9p h9s => ?_
        ·try simp only [Q, Pat.cs_len] at h9p
         refine Walk.call (cr := []) cal96 (impl_sameVars_fn (by omega) (by have hz := (someV_ok w n ⟨(nth (typesP w ⟨a, k⟩ p) z.1).data, (nth (typesP w ⟨a, k⟩ p) z.1).index⟩ (nth p.kids z.1) z.2.2).2; omega)) rfl .none rfl rfl (.cons (.gl _ _) (.cons (.refl _) .nil)) trivial rfl rfl rfl ?_
         refine evs [14, 108] [] ?_
         refine sq (fun h10 h10p h10s => ?_) fun h10 h10p h10s => ?_
         ·try simp only [Q, Pat.cs_len] at h10p
          refine rn [(950, some (.box [.d (.i (finV (scanK (scanP w n) (decide (p.op = 5)) (typesP w ⟨a, k⟩ p) p.kids 0 (nameP ⟨a, k⟩ p) (c + 1))).2)]))] (r2 rfl rfl) (.tup (.cons (.nild ?_) (.cons (.eqd ?_) .nil))) ⟨rfl, rfl⟩ (SubO.get ⟨.inr (by (show some (Res.box _) = some (Res.box _); rw [hg1.bad hl (by omega) (by assumption) (by assumption) (by assumption)]; done)), ⟨.inl rfl, trivial⟩⟩) (boxOK rfl)
          all_goals ((rw [hg1.bad hl (by omega) (by assumption) (by assumption) (by assumption)]; first | done | rfl))
         ·try simp only [Q, Pat.cs_len] at h10p
          refine ar ?_
          refine Exists.intro ((nextS w n ⟨a, k⟩ p z)) ⟨(hg1.next hl (by omega) (by simp_all) (fun ho => by simp_all)), (by unfold nextS; dsimp only; omega), Sub.x (by kernel_rfl) (by kernel_rfl) ⟨⟨_, rfl, (LeA.eqi (by rfl))⟩, ⟨⟨_, rfl, (LeA.glg (by (simp_all [nameP]; done)))⟩, trivial⟩⟩ (by kernel_rfl) (by kernel_rfl) ⟨(by first | rfl | (simp [getH]; done)), ⟨beq_nat_eq (by (simp; omega)), trivial⟩⟩⟩
        ·try simp only [Q, Pat.cs_len] at h9p
         refine Walk.append sl82 zz112 rfl .none rfl rfl rfl rfl (htokL rfl (by first | rfl | (simp; done) | (simp; omega))) (by simp) (by (have hz := (someV_ok w n ⟨(nth (typesP w ⟨a, k⟩ p) z.1).data, (nth (typesP w ⟨a, k⟩ p) z.1).index⟩ (nth p.kids z.1) z.2.2).2; simp; omega)) (by (have hz := (someV_ok w n ⟨(nth (typesP w ⟨a, k⟩ p) z.1).data, (nth (typesP w ⟨a, k⟩ p) z.1).index⟩ (nth p.kids z.1) z.2.2).2; simp; omega)) ?_
         refine asg ?_
         refine tv ?_
         refine ar ?_
         refine Exists.intro ((nextS w n ⟨a, k⟩ p z)) ⟨(hg1.next hl (by omega) (by simp_all) (fun ho => by simp_all)), (by unfold nextS; dsimp only; omega), Sub.x (by kernel_rfl) (by kernel_rfl) ⟨⟨_, rfl, (LeA.eqi (by rfl))⟩, ⟨⟨_, rfl, (LeA.glg (by (unfold nextS; dsimp only; rw [if_neg (by simp_all)]; simp; done)))⟩, trivial⟩⟩ (by kernel_rfl) (by kernel_rfl) ⟨(by first | rfl | (simp [getH]; done)), ⟨beq_nat_eq (by (first | rfl | (simp; done) | (dsimp only; omega) | (simp_all [nameP]; done) | (unfold nextS; dsimp only; rw [if_neg (by simp_all)]; simp; done) | (unfold nextS; dsimp only; rw [if_pos (by simp_all)]; done))), trivial⟩⟩⟩
      ·try simp only [Q, Pat.cs_len] at h6p
       refine Walk.alloc (id := 3019) tz126 rfl .none rfl rfl rfl rfl ?_
       refine tv ?_
       refine CWp.loopX (ι := List (Vt) × List (Vt)) hk (fun x => [(101, .d (.i (x.1.length : Int)))]) [10, 11, 21, 102, 103, 104, 105, 106, 107, 108, 109, 110, 111, 112] (fun x => [(3019, some (.box (metA (x.1.map Vt.var))))]) (fun x => x.1 ++ x.2 = z.2.1 ∧ (x.1.map Vt.var).Nodup) (fun x => x.2.length) ([], z.2.1) ⟨by simp, by simp⟩ ⟨⟨_, rfl, (LeA.eqi (by first | rfl | (simp; done) | (simp_all; done) | omega))⟩, trivial⟩ ⟨(by first | rfl | (simp [getH]; done)), trivial⟩ (fun x => rfl) (fun x hg2 => ?_)
       obtain ⟨pre, rest⟩ := x
       dsimp only at hg2 ⊢
       refine evc [14, 108] [2, 8, 17] ?_
       refine sq (fun h11 h11p h11s => ?_) fun h11 h11p h11s => ?_
       ·try simp only [Q, Pat.cs_len] at h11p
        rcases rest with _ | ⟨y, rest⟩
        ·exfalso; simp_all
        have hy := s7 y (by rw [← hg2.1]; simp)
        refine Walk.idxG sl82 .none rfl rfl rfl rfl (zip_at hg2.1) rfl ?_
        refine evs [14, 108] [] ?_
        refine Walk.alloc (id := 3021) tz112 rfl .none rfl rfl rfl rfl ?_
        refine Walk.store ty112 .none rfl rfl rfl rfl rfl rfl (by simp) rfl ?_
        refine tv ?_
        refine Walk.idxA (i := y.var.toNat) ar126 .none rfl rfl rfl (Int.toNat_of_nonneg hy.1).symm (by omega) ?_
        refine Walk.loadB ty4 .none rfl rfl rfl ((by simpa using metA_get hy.1 hy.2)) ?_
        refine tv ?_
        refine sq (fun h12 h12p h12s => ?_) fun h12 h12p h12s => ?_
        ·try simp only [Q, Pat.cs_len] at h12p
         refine rn [(950, some (.box [.d (.i (finV (scanK (scanP w n) (decide (p.op = 5)) (typesP w ⟨a, k⟩ p) p.kids 0 (nameP ⟨a, k⟩ p) (c + 1))).2)]))] (r2 rfl rfl) (.tup (.cons (.nild ?_) (.cons (.eqd ?_) .nil))) ⟨rfl, rfl⟩ (SubO.get ⟨.inr (by (show some (Res.box _) = some (Res.box _); rw [hg1.fin hl (by omega)]; done)), ⟨.inl rfl, trivial⟩⟩) (boxOK rfl)
         all_goals ((rw [hg1.fin hl (by omega), if_neg (by rw [nodup_app hg2.1 (by assumption)]; simp)]; first | done | rfl))
        ·try simp only [Q, Pat.cs_len] at h12p
         refine Walk.idxA (i := y.var.toNat) ar126 .none rfl rfl rfl (Int.toNat_of_nonneg hy.1).symm (by omega) ?_
         refine Walk.store ty4 .none rfl rfl rfl rfl rfl rfl (by simp) ((by simpa using metA_put hy.1 hy.2)) ?_
         refine tv ?_
         refine ar ?_
         refine Exists.intro ((pre ++ [y], rest)) ⟨⟨(by have hz := hg2.1; rw [← hz]; simp), (nodup_snoc hg2.2 (by simp_all))⟩, (by simp), Sub.x (by kernel_rfl) (by kernel_rfl) ⟨⟨_, rfl, (LeA.eqi (by first | rfl | (simp; done) | (simp_all; done) | omega))⟩, trivial⟩ (by kernel_rfl) (by kernel_rfl) ⟨(by first | rfl | (simp [getH]; done)), trivial⟩⟩
       ·try simp only [Q, Pat.cs_len] at h11p
        have hrest : rest = [] := by
         rcases rest with _ | ⟨a, b⟩
         ·rfl
         ·exfalso; have hz := congrArg List.length (hg2.1); simp only [List.length_append, List.length_cons, List.length_map] at hz; omega
        subst hrest
        refine rn [(950, some (.box [.d (.i (finV (scanK (scanP w n) (decide (p.op = 5)) (typesP w ⟨a, k⟩ p) p.kids 0 (nameP ⟨a, k⟩ p) (c + 1))).2)]))] (r2 rfl rfl) (.tup (.cons (.gld ?_) (.cons (.eqd ?_) .nil))) ⟨rfl, rfl⟩ (SubO.get ⟨.inr (by (show some (Res.box _) = some (Res.box _); rw [hg1.fin hl (by omega)]; done)), ⟨.inl rfl, trivial⟩⟩) (boxOK rfl)
        all_goals ((rw [hg1.fin hl (by omega), if_pos (by have hz := hg2.1; rw [List.append_nil] at hz; rw [← hz]; exact decide_eq_true hg2.2)]; first | done | rfl))
     ·try simp only [Q, Pat.cs_len] at h5p
      refine CWp.loopX (ι := Nat × List Vt × Int) hk (fun z => [(62, .d (.i (z.1 : Int))), (14, .gl 5 (z.2.1.map Vt.c))]) [10, 11, 15, 16, 17, 18, 63, 64, 65, 66, 67, 68, 69, 70, 71, 72, 73, 74, 75, 76, 77, 78, 79, 80, 81, 82, 83, 84, 85, 86, 87, 88, 89, 90, 91, 92, 93, 94, 95, 96, 97, 98] (fun z => [(950, some (.box [.d (.i z.2.2)])), (5, some (.tok ((z.2.1.map Vt.c)).length 3))]) (fun z => GoodS w n ⟨a, k⟩ p c z) (fun z => p.kids.length - z.1) (0, nameP ⟨a, k⟩ p, c + 1) ⟨by simp, by simp, by dsimp only; omega, by dsimp only; omega, by dsimp only; omega, by dsimp only; omega, hnr⟩ ⟨⟨_, rfl, (LeA.eqi (by rfl))⟩, ⟨⟨_, rfl, (LeA.glg (by (simp_all [nameP]; done)))⟩, trivial⟩⟩ ⟨(by first | rfl | (simp [getH]; done)), ⟨beq_nat_eq (by (first | rfl | (simp; done) | (dsimp only; omega) | (simp_all [nameP]; done) | (unfold nextS; dsimp only; rw [if_neg (by simp_all)]; simp; done) | (unfold nextS; dsimp only; rw [if_pos (by simp_all)]; done))), trivial⟩⟩ (fun x => rfl) (fun z hg1 => ?_)
      obtain ⟨s1, _, s3, s4, s5, s6, s7⟩ := id hg1
      refine evc [14, 108] [2, 8, 17] ?_
      refine sq (fun h13 h13p h13s => ?_) fun h13 h13p h13s => ?_
      ·try simp only [Q, Pat.cs_len] at h13p
       refine Walk.idx sl41 .none rfl rfl rfl rfl (pats_at (by omega)) rfl ?_
       refine evs [14, 108] [] ?_
       refine Walk.alloc (id := 3016) tz43 rfl .none rfl rfl rfl rfl ?_
       refine evs [14, 108] [] ?_
       refine Walk.store ty43 .none rfl rfl rfl rfl rfl rfl (by simp) rfl ?_
       refine tv ?_
       refine Walk.idx sl25 .none rfl rfl rfl rfl (at_nth (by omega)) rfl ?_
       refine evd [14, 108] [] ?_
       refine ar ?_
       refine Walk.call (cr := []) cal79 (impl_patternScan_fn hw n (a := (nth (typesP w ⟨a, k⟩ p) z.1).data) (k := (nth (typesP w ⟨a, k⟩ p) z.1).index) (c := z.2.2) (p := nth p.kids z.1) (by omega) (by omega) (hin _ (nth_mem (by omega))) (Pats.ok_mem hok.2 _ (nth_mem (by omega))) (by omega) (by omega)) rfl .none rfl rfl (LeL.refl _) ⟨rfl, trivial⟩ rfl rfl rfl ?_
       refine evd [14, 108] [] ?_
       refine dr ?_
       refine sq (fun h14 h14p h14s => ?_) fun h14 h14p h14s => ?_
       ·try simp only [Q, Pat.cs_len] at h14p
        refine rn [(950, some (.box [.d (.i (finV (scanK (scanP w n) (decide (p.op = 5)) (typesP w ⟨a, k⟩ p) p.kids 0 (nameP ⟨a, k⟩ p) (c + 1))).2)]))] (r2 rfl rfl) (.tup (.cons (.nild ?_) (.cons (.eqd ?_) .nil))) ⟨rfl, rfl⟩ (SubO.get ⟨.inr (by (show some (Res.box _) = some (Res.box _); rw [hg1.none hl (by omega) (by assumption)]; done)), ⟨.inl rfl, trivial⟩⟩) (boxOK rfl)
        all_goals ((rw [hg1.none hl (by omega) (by assumption)]; first | done | rfl))
       ·try simp only [Q, Pat.cs_len] at h14p
        refine CWp.regionJ ?_
        refine WRest.join 7 [(93, .d (.bool (decide (p.op = 5 ∧ z.1 = 1))))] [87, 88, 89, 90, 91, 92] ?_ ?_
        ·
         refine evs [14, 108] [] ?_
         refine sq (fun h15 h15p h15s => ?_) fun h15 h15p h15s => ?_
         ·try simp only [Q, Pat.cs_len] at h15p
          exact jnb rfl
         ·try simp only [Q, Pat.cs_len] at h15p
          exact jnb rfl
        refine WRest.done ?_
        refine evs [14, 108] [] ?_
        refine sq (fun h16 h16p h16s => ?_) fun h16 h16p h16s => ?_
        ·try simp only [Q, Pat.cs_len] at h16p
         refine Walk.call (cr := []) cal96 (impl_sameVars_fn (by omega) (by have hz := (someV_ok w n ⟨(nth (typesP w ⟨a, k⟩ p) z.1).data, (nth (typesP w ⟨a, k⟩ p) z.1).index⟩ (nth p.kids z.1) z.2.2).2; omega)) rfl .none rfl rfl (.cons (.gl _ _) (.cons (.refl _) .nil)) trivial rfl rfl rfl ?_
         refine evs [14, 108] [] ?_
         refine sq (fun h17 h17p h17s => ?_) fun h17 h17p h17s => ?_
         ·try simp only [Q, Pat.cs_len] at h17p
          refine rn [(950, some (.box [.d (.i (finV (scanK (scanP w n) (decide (p.op = 5)) (typesP w ⟨a, k⟩ p) p.kids 0 (nameP ⟨a, k⟩ p) (c + 1))).2)]))] (r2 rfl rfl) (.tup (.cons (.nild ?_) (.cons (.eqd ?_) .nil))) ⟨rfl, rfl⟩ (SubO.get ⟨.inr (by first | (show some (Res.box _) = some (Res.box _); rw [hg1.none hl (by omega) (by assumption)]; done) | (show some (Res.box _) = some (Res.box _); rw [hg1.bad hl (by omega) (by assumption) (by assumption) (by assumption)]; done) | (show some (Res.box _) = some (Res.box _); rw [hg1.fin hl (by omega)]; done)), ⟨.inl rfl, trivial⟩⟩) (boxOK rfl)
          all_goals ((rw [hg1.bad hl (by omega) (by assumption) (by assumption) (by assumption)]; first | done | rfl))
         ·try simp only [Q, Pat.cs_len] at h17p
          refine ar ?_
          refine Exists.intro ((nextS w n ⟨a, k⟩ p z)) ⟨(hg1.next hl (by omega) (by simp_all) (fun ho => by simp_all)), (by unfold nextS; dsimp only; omega), Sub.x (by kernel_rfl) (by kernel_rfl) ⟨⟨_, rfl, (LeA.eqi (by rfl))⟩, ⟨⟨_, rfl, (LeA.glg (by (unfold nextS; dsimp only; rw [if_pos (by simp_all)]; done)))⟩, trivial⟩⟩ (by kernel_rfl) (by kernel_rfl) ⟨(by first | rfl | (simp [getH]; done)), ⟨beq_nat_eq (by (first | rfl | (simp; done) | (dsimp only; omega) | (simp_all [nameP]; done) | (unfold nextS; dsimp only; rw [if_neg (by simp_all)]; simp; done) | (unfold nextS; dsimp only; rw [if_pos (by simp_all)]; done))), trivial⟩⟩⟩
        ·try simp only [Q, Pat.cs_len] at h16p
         refine Walk.append sl82 zz112 rfl .none rfl rfl rfl rfl (htokL rfl (by first | rfl | (simp; done) | (simp; omega))) (by simp) (by (have hz := (someV_ok w n ⟨(nth (typesP w ⟨a, k⟩ p) z.1).data, (nth (typesP w ⟨a, k⟩ p) z.1).index⟩ (nth p.kids z.1) z.2.2).2; simp; omega)) (by (have hz := (someV_ok w n ⟨(nth (typesP w ⟨a, k⟩ p) z.1).data, (nth (typesP w ⟨a, k⟩ p) z.1).index⟩ (nth p.kids z.1) z.2.2).2; simp; omega)) ?_
         refine asg ?_
         refine tv ?_
         refine ar ?_
         refine Exists.intro ((nextS w n ⟨a, k⟩ p z)) ⟨(hg1.next hl (by omega) (by simp_all) (fun ho => by simp_all)), (by unfold nextS; dsimp only; omega), Sub.x (by kernel_rfl) (by kernel_rfl) ⟨⟨_, rfl, (LeA.eqi (by rfl))⟩, ⟨⟨_, rfl, (LeA.glg (by (unfold nextS; dsimp only; rw [if_neg (by simp_all)]; simp; done)))⟩, trivial⟩⟩ (by kernel_rfl) (by kernel_rfl) ⟨(by first | rfl | (simp [getH]; done)), ⟨beq_nat_eq (by (first | rfl | (simp; done) | (dsimp only; omega) | (simp_all [nameP]; done) | (unfold nextS; dsimp only; rw [if_neg (by simp_all)]; simp; done) | (unfold nextS; dsimp only; rw [if_pos (by simp_all)]; done))), trivial⟩⟩⟩
      ·try simp only [Q, Pat.cs_len] at h13p
       refine Walk.alloc (id := 3019) tz126 rfl .none rfl rfl rfl rfl ?_
       refine tv ?_
       refine CWp.loopX (ι := List (Vt) × List (Vt)) hk (fun x => [(101, .d (.i (x.1.length : Int)))]) [10, 11, 21, 102, 103, 104, 105, 106, 107, 108, 109, 110, 111, 112] (fun x => [(3019, some (.box (metA (x.1.map Vt.var))))]) (fun x => x.1 ++ x.2 = z.2.1 ∧ (x.1.map Vt.var).Nodup) (fun x => x.2.length) ([], z.2.1) ⟨by simp, by simp⟩ ⟨⟨_, rfl, (LeA.eqi (by first | rfl | (simp; done) | (simp_all; done) | omega))⟩, trivial⟩ ⟨(by first | rfl | (simp [getH]; done)), trivial⟩ (fun x => rfl) (fun x hg2 => ?_)
       obtain ⟨pre, rest⟩ := x
       dsimp only at hg2 ⊢
       refine evc [14, 108] [2, 8, 17] ?_
       refine sq (fun h18 h18p h18s => ?_) fun h18 h18p h18s => ?_
       ·try simp only [Q, Pat.cs_len] at h18p
        rcases rest with _ | ⟨y, rest⟩
        ·exfalso; simp_all
        have hy := s7 y (by rw [← hg2.1]; simp)
        refine Walk.idxG sl82 .none rfl rfl rfl rfl (zip_at hg2.1) rfl ?_
        refine evs [14, 108] [] ?_
        refine Walk.alloc (id := 3021) tz112 rfl .none rfl rfl rfl rfl ?_
        refine Walk.store ty112 .none rfl rfl rfl rfl rfl rfl (by simp) rfl ?_
        refine tv ?_
        refine Walk.idxA (i := y.var.toNat) ar126 .none rfl rfl rfl (Int.toNat_of_nonneg hy.1).symm (by omega) ?_
        refine Walk.loadB ty4 .none rfl rfl rfl ((by simpa using metA_get hy.1 hy.2)) ?_
        refine tv ?_
        refine sq (fun h19 h19p h19s => ?_) fun h19 h19p h19s => ?_
        ·try simp only [Q, Pat.cs_len] at h19p
         refine rn [(950, some (.box [.d (.i (finV (scanK (scanP w n) (decide (p.op = 5)) (typesP w ⟨a, k⟩ p) p.kids 0 (nameP ⟨a, k⟩ p) (c + 1))).2)]))] (r2 rfl rfl) (.tup (.cons (.nild ?_) (.cons (.eqd ?_) .nil))) ⟨rfl, rfl⟩ (SubO.get ⟨.inr (by (show some (Res.box _) = some (Res.box _); rw [hg1.fin hl (by omega)]; done)), ⟨.inl rfl, trivial⟩⟩) (boxOK rfl)
         all_goals ((rw [hg1.fin hl (by omega), if_neg (by rw [nodup_app hg2.1 (by assumption)]; simp)]; first | done | rfl))
        ·try simp only [Q, Pat.cs_len] at h19p
         refine Walk.idxA (i := y.var.toNat) ar126 .none rfl rfl rfl (Int.toNat_of_nonneg hy.1).symm (by omega) ?_
         refine Walk.store ty4 .none rfl rfl rfl rfl rfl rfl (by simp) ((by simpa using metA_put hy.1 hy.2)) ?_
         refine tv ?_
         refine ar ?_
         refine Exists.intro ((pre ++ [y], rest)) ⟨⟨(by have hz := hg2.1; rw [← hz]; simp), (nodup_snoc hg2.2 (by simp_all))⟩, (by simp), Sub.x (by kernel_rfl) (by kernel_rfl) ⟨⟨_, rfl, (LeA.eqi (by first | rfl | (simp; done) | (simp_all; done) | omega))⟩, trivial⟩ (by kernel_rfl) (by kernel_rfl) ⟨(by first | rfl | (simp [getH]; done)), trivial⟩⟩
       ·try simp only [Q, Pat.cs_len] at h18p
        have hrest : rest = [] := by
         rcases rest with _ | ⟨a, b⟩
         ·rfl
         ·exfalso; have hz := congrArg List.length (hg2.1); simp only [List.length_append, List.length_cons, List.length_map] at hz; omega
        subst hrest
        refine rn [(950, some (.box [.d (.i (finV (scanK (scanP w n) (decide (p.op = 5)) (typesP w ⟨a, k⟩ p) p.kids 0 (nameP ⟨a, k⟩ p) (c + 1))).2)]))] (r2 rfl rfl) (.tup (.cons (.gld ?_) (.cons (.eqd ?_) .nil))) ⟨rfl, rfl⟩ (SubO.get ⟨.inr (by (show some (Res.box _) = some (Res.box _); rw [hg1.fin hl (by omega)]; done)), ⟨.inl rfl, trivial⟩⟩) (boxOK rfl)
        all_goals (first | (rw [hg1.none hl (by omega) (by assumption)]; first | done | rfl) | (rw [hg1.bad hl (by omega) (by assumption) (by assumption) (by assumption)]; first | done | rfl) | (rw [hg1.fin hl (by omega), if_neg (by rw [nodup_app hg2.1 (by assumption)]; simp)]; first | done | rfl) | (rw [hg1.fin hl (by omega), if_pos (by have hz := hg2.1; rw [List.append_nil] at hz; rw [← hz]; exact decide_eq_true hg2.2)]; first | done | rfl))
  ·have hopf : okP w ⟨a, k⟩ p = false := by simpa using hop
   have e : scanP w (n + 1) ⟨a, k⟩ p c = (none, c + 1) := by unfold scanP; rw [if_neg h60, if_neg hop]
   rw [e]
   rw [hopf] at hsh
   refine bd Try.f79 114 [] [2] fun w0 F0 own kept hk => ?_
   refine Walk.box (id := 3006) .none rfl rfl rfl rfl rfl rfl rfl ?_
   refine Walk.box (id := 3007) .none rfl rfl rfl rfl rfl rfl rfl ?_
   refine ev ?_
   refine ar ?_
   refine Walk.store ty3 .none rfl rfl rfl rfl rfl rfl (by simp) rfl ?_
   refine tv ?_
   refine CWp.regionJ ?_
   refine WRest.join 8 [(34, .d (.bool (false)))] [27, 28, 29, 30, 31, 32, 33] ?_ ?_
   ·
    refine ev ?_
    refine sq (fun h1 h1p h1s => ?_) fun h1 h1p h1s => ?_
    ·try simp only [Q] at h1p
     exact jnb rfl
    ·try simp only [Q] at h1p
     exact jnb rfl
   refine WRest.done ?_
   refine tv ?_
   refine sq (fun h2 h2p h2s => ?_) fun h2 h2p h2s => ?_
   ·try simp only [Q] at h2p
    exact absurd h2 (by simp) --stop
   ·try simp only [Q] at h2p
    refine Walk.call (cr := []) cal95 (hsh) rfl .none rfl rfl (LeL.refl _) trivial rfl rfl rfl ?_
    refine ev ?_
    refine sq (fun h3 h3p h3s => ?_) fun h3 h3p h3s => ?_
    ·try simp only [Q] at h3p
     refine rn [(950, some (.box [.d (.i (c + 1))]))] (r2 rfl rfl) (.tup (.cons (.nild ?_) (.cons (.eqd ?_) .nil))) ⟨rfl, rfl⟩ (SubO.get ⟨.inr (by rfl), ⟨.inl rfl, trivial⟩⟩) (boxOK rfl)
     all_goals (rfl)
    ·try simp only [Q] at h3p
     exact absurd h3 (by simp) --stop
end Go.Proofs.Ytflgpdjbgfkhoaa
namespace Go.Proofs.Ytflgpdjbgfkhoaa
open Go
set_option linter.unusedSimpArgs false
set_option linter.unusedVariables false
set_option maxRecDepth 100000
set_option maxHeartbeats 2000000
theorem tyS_ij {i j : Nat} (h : j < 4) : tyS (i * 4 + j) = ⟨(i : Int), (j : Int)⟩ := by
 unfold tyS
 rw [show (i * 4 + j) / 4 = i by omega, show (i * 4 + j) % 4 = j by omega]
end Go.Proofs.Ytflgpdjbgfkhoaa
namespace Go.Proofs.Ytflgpdjbgfkhoaa
open Go
set_option linter.unusedSimpArgs false
set_option linter.unusedVariables false
set_option maxRecDepth 100000
set_option maxHeartbeats 4000000
def typesOfP (w : List Data) (p : Pat) : List Ty := if worldValid w then (allTypesOf w.length).filter (fun t => isP w t p) else []
theorem scan0 (w : List Data) (t : Ty) (p : Pat) : (scanP w 10 t p 0).1.isSome = isP w t p := by
 have h := (scanP_eq w 10 t p 0).1
 rw [h]
 unfold wantP isP
 rw [Int.zero_add]
 split
 ·rename_i hz; rw [hz]; rfl
 ·rename_i hz
  cases hc : (shapeP w 10 t p && (decide ((p.size : Int) ≤ 60) && linP w 10 t p)) with
  | true => exact absurd hc hz
  | false => rfl
theorem impl_patternVars_fn {w : List Data} (hw : WT w) {a k : Int} {p : Pat} (ht : TyIn w.length ⟨a, k⟩) (hok : p.ok) :
  FnD Try.prog 57 [.d (encDatas w), .agg [.d (.i a), .d (.i k)], .agg [.d (.i p.op), .d (.i p.ctor), .d (.i p.n), .d (.i p.m), .d (.i p.var), .d (encPats p.kids)]] [] (.tup [.d (encVts (someV (scanP w 10 ⟨a, k⟩ p 0).1)), .d (.bool (isP w ⟨a, k⟩ p))]) [] := by
 rw [← scan0]
 refine bd Try.f57 15 [] [] fun w0 F0 own kept hk => ?_
 refine Walk.box (id := 3004) .none rfl rfl rfl rfl rfl rfl rfl ?_
 refine Walk.box (id := 3005) .none rfl rfl rfl rfl rfl rfl rfl ?_
 refine ev ?_
 refine Walk.alloc (id := 950) tz3 rfl .none rfl rfl rfl rfl ?_
 refine Walk.store ty3 .none rfl rfl rfl rfl rfl rfl (by simp) rfl ?_
 refine tv ?_
 refine Walk.call (cr := []) cal79 (impl_patternScan_fn hw 10 (c := 0) (by omega) (by omega) ht hok (by omega) (by omega)) rfl .none rfl rfl (LeL.refl _) ⟨rfl, trivial⟩ rfl rfl rfl ?_
 refine ev ?_
 refine rn0 (r2 rfl rfl) (.tup (.cons (.eqd ?_) (.cons (.eqd ?_) .nil)))
 all_goals (rfl)
theorem impl_patternOk_fn {w : List Data} (hw : WT w) {a k : Int} {p : Pat} (ht : TyIn w.length ⟨a, k⟩) (hok : p.ok) :
  FnD Try.prog 35 [.d (encDatas w), .agg [.d (.i a), .d (.i k)], .agg [.d (.i p.op), .d (.i p.ctor), .d (.i p.n), .d (.i p.m), .d (.i p.var), .d (encPats p.kids)]] [] (.d (.bool (isP w ⟨a, k⟩ p))) [] := by
 refine bd Try.f35 17 [] [] fun w0 F0 own kept hk => ?_
 refine Walk.box (id := 3004) .none rfl rfl rfl rfl rfl rfl rfl ?_
 refine Walk.box (id := 3005) .none rfl rfl rfl rfl rfl rfl rfl ?_
 refine ev ?_
 refine Walk.call (cr := []) cal57 (impl_patternVars_fn hw ht hok) rfl .none rfl rfl (LeL.refl _) trivial rfl rfl rfl ?_
 refine ev ?_
 refine rn0 (r1 rfl) (.eqd ?_)
 all_goals (rfl)
theorem impl_TypesOfPattern_1_fn {w : List Data} (hw : WT w) {p : Pat} (hok : p.ok) {a k : Int} (ht : TyIn w.length ⟨a, k⟩) :
  FnD Try.prog 34 [.agg [.d (.i a), .d (.i k)], .ref 3002 0, .ref 3003 0] [(3002, some (.box [.d (encDatas w)])), (3003, some (.box [.d (.i p.op), .d (.i p.ctor), .d (.i p.n), .d (.i p.m), .d (.i p.var), .d (encPats p.kids)]))] (.d (.bool (!isP w ⟨a, k⟩ p))) [] := by
 refine bd Try.f34 10 [] [] fun w0 F0 own kept hk => ?_
 refine Walk.box (id := 3001) .none rfl rfl rfl rfl rfl rfl rfl ?_
 refine ev ?_
 refine Walk.call (cr := []) cal35 (impl_patternOk_fn hw ht hok) rfl .none rfl rfl (LeL.refl _) trivial rfl rfl rfl ?_
 refine ev ?_
 refine rn [] (r1 rfl) (.eqd ?_) ⟨rfl, rfl⟩ (SubH.get ⟨rfl, ⟨rfl, trivial⟩⟩) (fun _ h => h)
 all_goals (first | rfl | (simp []; done) | (simp_all; done) | (simp_all; omega) | omega)
theorem impl_TypesOfPattern_own {w : List Data} (hs : WSmall w) (hv : worldValid w = true) {p : Pat} (hok : p.ok) :
  FnD Try.prog 18 [.d (encDatas w), .agg [.d (.i p.op), .d (.i p.ctor), .d (.i p.n), .d (.i p.m), .d (.i p.var), .d (encPats p.kids)]] [] (.ms 1 (typesOfP w p).length) [(1, some (.tree (ownCells true ((typesOfP w p).map Ty.c))))] := by
 have hw := valid_wt hs hv
 have h4 := valid_four hv
 have hlen := allTypesOf_len w.length
 have hdel := slices_DeleteFunc_Ty_tr (xs := allTypesOf w.length) (p := fun t => !isP w t p) (by omega) cal34 (B2 := [.d (encDatas w)]) (B3 := [.d (.i p.op), .d (.i p.ctor), .d (.i p.n), .d (.i p.m), .d (.i p.var), .d (encPats p.kids)]) rfl rfl
  (fun t ht => impl_TypesOfPattern_1_fn hw hok (allTypesOf_in ht))
 simp only [Bool.not_not] at hdel
 rw [typesOfP, if_pos hv]
 refine bd Try.f18 9 [] [] fun w0 F0 own kept hk => ?_
 refine Walk.box (id := 3002) .none rfl rfl rfl rfl rfl rfl rfl ?_
 refine Walk.box (id := 3003) .none rfl rfl rfl rfl rfl rfl rfl ?_
 refine ev ?_
 refine Walk.call (cr := [1]) cal7 (impl_AllTypes_ms hs hv) rfl .none rfl rfl (LeL.refl _) trivial rfl (by first | rfl | (simp only [okCall, List.all_cons, List.all_nil, entOK, entOK', AV.idsL, AV.ids, idsL_append, ownCells_ids, List.map_cons, List.map_nil]; rfl)) (by first | rfl | (simp only [freshB, occH, occE, Res.ids, List.cons_append, List.nil_append, AV.idsL, AV.ids, idsL_append, ownCells_ids, zerosA_idsR, repNil, List.map_cons, List.map_nil, upC]; rfl)) ?_
 refine Walk.closure (xs := [_, _]) rfl .none rfl rfl ?_
 refine Walk.call (cr := []) cal29 (hdel) rfl .none rfl rfl (.cons (LeA.msn (by first | rfl | (simp; done))) (.cons (.refl _) .nil)) ⟨rfl, rfl, rfl, trivial⟩ rfl (by first | rfl | (simp only [okCall, List.all_cons, List.all_nil, entOK, entOK', AV.idsL, AV.ids, idsL_append, ownCells_ids, List.map_cons, List.map_nil]; rfl)) (by first | rfl | (simp only [freshB, occH, occE, Res.ids, List.cons_append, List.nil_append, AV.idsL, AV.ids, idsL_append, ownCells_ids, zerosA_idsR, repNil, List.map_cons, List.map_nil, upC]; rfl)) ?_
 refine ev ?_
 refine rn [(1, some (.tree (ownCells true (((allTypesOf w.length).filter (fun t => isP w t p)).map Ty.c))))] (r1 rfl) (LeA.msn ?_) ⟨rfl, rfl⟩ (SubH.get ⟨(by rfl), trivial⟩) (boxOK rfl)
 all_goals (rfl)
theorem impl_TypesOfPattern_bad {w : List Data} (hs : WSmall w) (hv : worldValid w = false) {p : Pat} (hok : p.ok) :
  FnD Try.prog 18 [.d (encDatas w), .agg [.d (.i p.op), .d (.i p.ctor), .d (.i p.n), .d (.i p.m), .d (.i p.var), .d (encPats p.kids)]] [] (.d (.sl [])) [] := by
 have himp := impl_AllTypes_fn hs
 rw [allTypes, if_neg (by rw [hv]; simp)] at himp
 refine bd Try.f18 9 [] [] fun w0 F0 own kept hk => ?_
 refine Walk.box (id := 3002) .none rfl rfl rfl rfl rfl rfl rfl ?_
 refine Walk.box (id := 3003) .none rfl rfl rfl rfl rfl rfl rfl ?_
 refine ev ?_
 refine Walk.call (cr := []) cal7 (himp) rfl .none rfl rfl (LeL.refl _) trivial rfl rfl rfl ?_
 refine Walk.closure (xs := [_, _]) rfl .none rfl rfl ?_
 refine Walk.call (cr := []) cal29 (slices_DeleteFunc_Ty_nil (hp := [(3002, some (.box [.d (encDatas w)])), (3003, some (.box [.d (.i p.op), .d (.i p.ctor), .d (.i p.n), .d (.i p.m), .d (.i p.var), .d (encPats p.kids)]))]) cal34 ⟨rfl, rfl, trivial⟩ rfl rfl) rfl .none rfl rfl (LeL.refl _) ⟨rfl, rfl, trivial⟩ rfl (by first | rfl | (simp only [okCall, List.all_cons, List.all_nil, entOK, entOK', AV.idsL, AV.ids, idsL_append, ownCells_ids, List.map_cons, List.map_nil]; rfl)) (by first | rfl | (simp only [freshB, occH, occE, Res.ids, List.cons_append, List.nil_append, AV.idsL, AV.ids, idsL_append, ownCells_ids, zerosA_idsR, repNil, List.map_cons, List.map_nil, upC]; rfl)) ?_
 refine ev ?_
 refine rn0 (r1 rfl) (.eqd ?_)
 all_goals (rfl)
theorem spec_TypesOfPattern_fn {w : List Data} (hs : WSmall w) {p : Pat} (hok : p.ok) (hb : p.size ≤ 1000000000000) :
  FnD Try.prog 19 [.d (encDatas w), .agg [.d (.i p.op), .d (.i p.ctor), .d (.i p.n), .d (.i p.m), .d (.i p.var), .d (encPats p.kids)]] [] (.d (encTys (typesOfP w p))) [] := by
 cases hv : worldValid w with
 | false =>
  have hspec := spec_AllTypes_fn hs
  rw [show (if specWorldValid w then allTypesOf w.length else []) = [] by rw [specWorldValid_eq, hv]; rfl] at hspec
  rw [typesOfP, if_neg (by rw [hv]; simp)]
  refine bd Try.f19 32 [] [] fun w0 F0 own kept hk => ?_
  refine Walk.box (id := 3003) .none rfl rfl rfl rfl rfl rfl rfl ?_
  refine ev ?_
  refine Walk.sliceEmptyG 1 sl25 .none rfl rfl ?_
  refine ev ?_
  refine Walk.call (cr := []) cal9 (hspec) rfl .none rfl rfl (LeL.refl _) trivial rfl rfl rfl ?_
  refine ev ?_
  refine CWp.loopX (ι := Unit) hk (fun x => [(7, .d (.i 0)), (5, .gl 1 ([] : List (List D)))]) [11, 12, 13, 14, 15, 16, 17, 18, 19, 20, 21, 22, 23, 24, 25, 26, 27, 28, 29, 30] (fun x => [(1, some (.tok (([] : List (List D))).length 2))]) (fun x => True) (fun x => 0) () trivial ⟨⟨_, rfl, (LeA.eqi (by first | rfl | (simp; done) | (simp_all; done) | omega))⟩, ⟨⟨_, rfl, (LeA.glg (by first | rfl | (simp; done) | (simp_all; done) | omega))⟩, trivial⟩⟩ ⟨beq_nat_eq (by first | rfl | (simp; done) | (simp; omega) | (first | rfl | (simp; done) | (simp_all; done) | omega)), trivial⟩ (fun x => rfl) (fun x hg1 => ?_)
  refine evc [] [] ?_
  refine sq (fun h1 h1p h1s => ?_) fun h1 h1p h1s => ?_
  ·try simp only [Q] at h1p
   exfalso; revert h1; simp --stop
  ·try simp only [Q] at h1p
   refine rn0 (r1 rfl) (.gld ?_)
   all_goals (first | rfl | (simp; done))
 | true =>
  have hw := valid_wt hs hv
  have h4 := valid_four hv
  have hlen := allTypesOf_len w.length
  have hspec := spec_AllTypes_fn hs
  rw [show (if specWorldValid w then allTypesOf w.length else []) = allTypesOf w.length by rw [specWorldValid_eq, hv]; rfl] at hspec
  rw [typesOfP, if_pos hv]
  refine bd Try.f19 32 [] [] fun w0 F0 own kept hk => ?_
  refine Walk.box (id := 3003) .none rfl rfl rfl rfl rfl rfl rfl ?_
  refine ev ?_
  refine Walk.sliceEmptyG 1 sl25 .none rfl rfl ?_
  refine ev ?_
  refine Walk.call (cr := []) cal9 (hspec) rfl .none rfl rfl (LeL.refl _) trivial rfl rfl rfl ?_
  refine ev ?_
  refine CWp.loopX (ι := List (Ty) × List (Ty)) hk (fun x => [(7, .d (.i (x.1.length : Int))), (5, .gl 1 ((x.1.filter (fun t => isP w t p)).map Ty.c))]) [11, 12, 13, 14, 15, 16, 17, 18, 19, 20, 21, 22, 23, 24, 25, 26, 27, 28, 29, 30] (fun x => [(1, some (.tok (((x.1.filter (fun t => isP w t p)).map Ty.c)).length 2))]) (fun x => x.1 ++ x.2 = allTypesOf w.length) (fun x => x.2.length) ([], allTypesOf w.length) (by simp) ⟨⟨_, rfl, (LeA.eqi (by first | rfl | (simp; done) | (simp only [List.filter_append, List.map_append]; simp [hk]; done) | (simp_all; done)))⟩, ⟨⟨_, rfl, (LeA.glg (by first | rfl | (simp; done) | (simp only [List.filter_append, List.map_append]; simp [hk]; done) | (simp_all; done)))⟩, trivial⟩⟩ ⟨beq_nat_eq (by first | rfl | (simp; done) | (simp; omega) | (first | rfl | (simp; done) | (simp only [List.filter_append, List.map_append]; simp [hk]; done) | (simp_all; done))), trivial⟩ (fun x => rfl) (fun x hg1 => ?_)
  obtain ⟨pre, rest⟩ := x
  dsimp only at hg1 ⊢
  refine evc [] [] ?_
  refine sq (fun h1 h1p h1s => ?_) fun h1 h1p h1s => ?_
  ·try simp only [Q] at h1p
   rcases rest with _ | ⟨y, rest⟩
   ·exfalso; simp_all
   refine Walk.idx sl25 .none rfl rfl rfl rfl (zip_at hg1) rfl ?_
   refine evd [] [] ?_
   refine Walk.call (cr := []) cal36 (spec_l3Is_fn hw (a := y.data) (k := y.index) (allTypesOf_in (t := y) (by rw [← hg1]; simp)) hok hb) rfl .none rfl rfl (LeL.refl _) trivial rfl rfl rfl ?_
   refine dr ?_
   refine sq (fun h2 h2p h2s => ?_) fun h2 h2p h2s => ?_
   ·try simp only [Q] at h2p
    refine Walk.idx sl25 .none rfl rfl rfl rfl (zip_at hg1) rfl ?_
    refine ev ?_
    refine Walk.sliceLit sl25 tz31 rfl (by decide) (ks := [0]) (xs := [_]) rfl rfl (by decide) (by decide) .none rfl rfl rfl rfl ?_
    refine Walk.append sl25 zz31 rfl .none rfl rfl rfl rfl (htokL rfl (by first | rfl | (simp; done) | (simp; omega))) (by simp) (by have hz := List.length_filter_le (fun t => isP w t p) pre; have hy := congrArg List.length hg1; simp at hy ⊢; omega) (by have hz := List.length_filter_le (fun t => isP w t p) pre; have hy := congrArg List.length hg1; simp at hy ⊢; omega) ?_
    refine ev ?_
    refine ar ?_
    refine Exists.intro ((pre ++ [y], rest)) ⟨(by have hz := hg1; rw [← hz]; simp), (by simp), Sub.x (by kernel_rfl) (by kernel_rfl) ⟨⟨_, rfl, (LeA.eqi (by first | rfl | (simp; done) | (simp only [List.filter_append, List.map_append]; simp [h1s, h1p, h2s, h2p]; done) | (simp_all; done)))⟩, ⟨⟨_, rfl, (LeA.glg (by first | rfl | (simp; done) | (simp only [List.filter_append, List.map_append]; simp [h1s, h1p, h2s, h2p]; done) | (simp_all; done)))⟩, trivial⟩⟩ (by kernel_rfl) (by kernel_rfl) ⟨beq_nat_eq (by first | rfl | (simp; done) | (simp; omega) | (first | rfl | (simp; done) | (simp only [List.filter_append, List.map_append]; simp [h1s, h1p, h2s, h2p]; done) | (simp_all; done))), trivial⟩⟩
   ·try simp only [Q] at h2p
    refine ar ?_
    refine Exists.intro ((pre ++ [y], rest)) ⟨(by have hz := hg1; rw [← hz]; simp), (by simp), Sub.x (by kernel_rfl) (by kernel_rfl) ⟨⟨_, rfl, (LeA.eqi (by first | rfl | (simp; done) | (simp only [List.filter_append, List.map_append]; simp [h1s, h1p, h2s, h2p]; done) | (simp_all; done)))⟩, ⟨⟨_, rfl, (LeA.glg (by first | rfl | (simp; done) | (simp only [List.filter_append, List.map_append]; simp [h1s, h1p, h2s, h2p]; done) | (simp_all; done)))⟩, trivial⟩⟩ (by kernel_rfl) (by kernel_rfl) ⟨beq_nat_eq (by first | rfl | (simp; done) | (simp; omega) | (first | rfl | (simp; done) | (simp only [List.filter_append, List.map_append]; simp [h1s, h1p, h2s, h2p]; done) | (simp_all; done))), trivial⟩⟩
  ·try simp only [Q] at h1p
   have hrest : rest = [] := by
    rcases rest with _ | ⟨a, b⟩
    ·rfl
    ·exfalso; have hz := congrArg List.length (hg1); simp only [List.length_append, List.length_cons, List.length_map] at hz; omega
   subst hrest
   refine rn0 (r1 rfl) (.gld ?_)
   all_goals (rw [List.append_nil] at hg1; subst hg1; rfl)
end Go.Proofs.Ytflgpdjbgfkhoaa
namespace Go.Proofs.Ytflgpdjbgfkhoaa
open Go
set_option linter.unusedSimpArgs false
set_option linter.unusedVariables false
set_option maxRecDepth 100000
set_option maxHeartbeats 2000000
theorem valid_dp {w : List Data} (hs : WSmall w) (hv : worldValid w = true) : Dp w := by
 have hw := valid_wt hs hv
 have hW := (worldValid_iff w).1 hv
 refine ⟨hw, fun s hs c hc u hu => ?_, hW.len, fun s hs => ?_⟩
 ·obtain ⟨j, rfl, hj⟩ := place_of (d := s / 4) (k := ((s % 4 : Nat) : Int)) hc
  have hu' : u ∈ argsOf w ⟨((s / 4 : Nat) : Int), ((s % 4 : Nat) : Int)⟩ (j : Int) := hu
  simp only [argsOf, Int.toNat_natCast, List.mem_map] at hu'
  obtain ⟨x, hx, rfl⟩ := hu'
  have hco := hW.ctor _ (nth_mem (l := w) (i := s / 4) (by omega)) _ (nth_mem hj)
  simp only [ctorOk, Bool.and_eq_true, Bool.not_eq_true', List.any_eq_false] at hco
  have hax : argOk w.length x = true := by
   have := hco.2.2.2 x hx
   cases h : argOk w.length x with
   | true => rfl
   | false => rw [h] at this; exact absurd rfl this
  have hci := hco.2.2.1
  simp only [argOk, within, Bool.or_eq_true, Bool.and_eq_true, decide_eq_true_eq, and_true] at hax hci
  have key : ∀ y : Ty, (y.data = -1 ∨ (0 ≤ y.data ∧ y.data < w.length ∧ 0 ≤ y.index ∧ y.index ≤ 3)) → InS (w.length * 4) y := by
   rintro ⟨a, k⟩ h
   rcases h with h | ⟨h1, h2, h3, h4⟩
   ·exact .inl h
   ·refine .inr ⟨?_, ?_⟩
    ·simp only [slotT] at *; omega
    ·obtain ⟨i, rfl⟩ := Int.eq_ofNat_of_zero_le h1
     obtain ⟨m, rfl⟩ := Int.eq_ofNat_of_zero_le h3
     simp only [slotT, Int.toNat_natCast]
     exact tyS_ij (by simp only at h4; omega)
  refine key _ ?_
  unfold argTy resIx
  split
  ·dsimp only
   rcases hax with h | h
   ·omega
   ·right
    refine ⟨by omega, by omega, ?_⟩
    split <;> omega
  ·rcases hax with h | h
   ·exact .inl h.1
   ·right; omega
 ·have h1 := ctorsFrom_len (tyS s).index (nth w (tyS s).data.toNat).ctors 0
  have h2 := (hW.data _ (nth_mem (l := w) (i := s / 4) (by omega))).2.2
  show (ctorsFrom (tyS s).index 0 (nth w (tyS s).data.toNat).ctors).length ≤ 4
  have e : (tyS s).data.toNat = s / 4 := by simp only [tyS, Int.toNat_natCast]
  rw [e] at h1 ⊢
  omega
theorem ins_tyin {n : Nat} {t : Ty} (h : InS (n * 4) t) : TyIn n t := by
 rcases h with h | ⟨h1, h2⟩
 ·exact .inl h
 ·refine .inr ⟨slotT t / 4, ?_, by omega⟩
  have := congrArg Ty.data h2
  exact this.symm
theorem args_ins {w : List Data} (hd : Dp w) {t : Ty} {c : Int} (ht : InS (w.length * 4) t) (hc : c ∈ vctors w t) : ∀ u ∈ argsOf w t c, InS (w.length * 4) u := by
 rcases ht with h | ⟨h1, h2⟩
 ·unfold vctors at hc; rw [if_pos h] at hc; simp at hc
 ·have hx := hd.cl _ h1
  rw [h2] at hx
  have : c ∈ ctorsOf w t := by
   unfold vctors at hc
   split at hc
   ·simp at hc
   ·exact hc
  exact hx c this
structure PKids (w : List Data) (n : Nat) (a k k' : Int) (p : Pat) : Prop where
 len5 : p.op = 5 → p.kids.length = 2
 len6 : p.op = 6 → p.kids.length = 1
 len4 : p.op = 4 → p.kids.length = (argsOf w ⟨a, k⟩ p.ctor).length
 one : p.op = 5 ∨ p.op = 6 → shapeP w n ⟨a, k'⟩ (nth p.kids 0) = true
 two : p.op = 5 → shapeP w n ⟨a, k'⟩ (nth p.kids 1) = true
 arg : p.op = 4 → ∀ i, i < (argsOf w ⟨a, k⟩ p.ctor).length → shapeP w n ⟨(nth (argsOf w ⟨a, k⟩ p.ctor) i).data, (nth (argsOf w ⟨a, k'⟩ p.ctor) i).index⟩ (nth p.kids i) = true
 mem : p.op = 4 → p.ctor ∈ vctors w ⟨a, k'⟩
 ops : p.op = 1 ∨ p.op = 2 ∨ (p.op = 3 ∧ a = -1) ∨ p.op = 4 ∨ p.op = 5 ∨ p.op = 6
def anyP : Pat := ⟨1, 0, 0, 0, 0, []⟩
def dA (f : Ty → Nat → Pat × Nat) : List Ty → Nat → List Pat × Nat
 | [], q => ([], q)
 | t :: r, q => ((f t q).1 :: (dA f r (f t q).2).1, (dA f r (f t q).2).2)
def drawP (b : Str) (w : List Data) : Nat → Ty → Nat → Pat × Nat
 | 0, _, p => (anyP, p)
 | d + 1, t, p =>
  if d = 0 then (anyP, p)
  else if pickV b p 4 = 0 then (anyP, p + 1)
  else if pickV b (p + 1) 6 = 0 then (⟨5, 0, 0, 0, 0, [(drawP b w d t (p + 2)).1, (drawP b w d t (drawP b w d t (p + 2)).2).1]⟩, (drawP b w d t (drawP b w d t (p + 2)).2).2)
  else if t.data = -1 then (⟨3, 0, pickV b (p + 2) 10, pickV b (p + 2) 10 + pickV b (p + 3) (10 - pickV b (p + 2) 10) * pickV b (p + 4) 2, 0, []⟩, p + 5)
  else if (vctors w t).length = 0 then (anyP, p + 2)
  else (⟨4, nth (vctors w t) (pickV b (p + 2) (vctors w t).length).toNat, 0, 0, 0, (dA (drawP b w d) (argsOf w t (nth (vctors w t) (pickV b (p + 2) (vctors w t).length).toNat)) (p + 3)).1⟩,
   (dA (drawP b w d) (argsOf w t (nth (vctors w t) (pickV b (p + 2) (vctors w t).length).toNat)) (p + 3)).2)
def bdP : Nat → Nat
 | 0 => 0
 | d + 1 => 5 + 3 * bdP d
def Few (w : List Data) : Prop := ∀ t c, c ∈ vctors w t → TyIn w.length t → (argsOf w t c).length ≤ 3 ∧ ∀ u ∈ argsOf w t c, TyIn w.length u
theorem dA_bd {f : Ty → Nat → Pat × Nat} {k : Nat} : ∀ (l : List Ty) (q : Nat), (∀ t ∈ l, ∀ q, (f t q).2 ≤ q + k) → (dA f l q).2 ≤ q + l.length * k
 | [], q, _ => by simp [dA]
 | t :: r, q, h => by
  have h1 := h t (by simp) q
  have h2 := dA_bd r (f t q).2 (fun x hx => h x (by simp [hx]))
  simp only [dA, List.length_cons, Nat.add_mul]; omega
theorem dA_len {f : Ty → Nat → Pat × Nat} : ∀ (l : List Ty) (q : Nat), (dA f l q).1.length = l.length
 | [], q => rfl
 | t :: r, q => by simp only [dA, List.length_cons, dA_len r]
theorem nth_pick {l : List Int} {b : Str} {p : Nat} (h : ¬ l.length = 0) : nth l (pickV b p l.length).toNat ∈ l := by
 have := pickV_bd (b := b) (p := p) (n := (l.length : Int)) (by omega)
 exact nth_mem (by omega)
theorem drawP_bd {b : Str} {w : List Data} (hf : Few w) : ∀ (d : Nat) (t : Ty) (p : Nat), TyIn w.length t → (drawP b w d t p).2 ≤ p + bdP d
 | 0, t, p, _ => by simp [drawP, bdP]
 | d + 1, t, p, ht => by
  have ih := fun t p ht => drawP_bd (b := b) hf d t p ht
  unfold drawP bdP
  split
  ·dsimp only; omega
  ·split
   ·dsimp only; omega
   ·split
    ·dsimp only
     have h1 := ih t (p + 2) ht
     have h2 := ih t (drawP b w d t (p + 2)).2 ht
     omega
    ·split
     ·dsimp only; omega
     ·split
      ·dsimp only; omega
      ·rename_i h5
       dsimp only
       have hm := nth_pick (b := b) (p := p + 2) h5
       have h3 := hf t _ hm ht
       have h1 := dA_bd (f := drawP b w d) (k := bdP d) (argsOf w t (nth (vctors w t) (pickV b (p + 2) (vctors w t).length).toNat)) (p + 3) (fun u hu q => ih u q (h3.2 u hu))
       have h4 : (argsOf w t (nth (vctors w t) (pickV b (p + 2) (vctors w t).length).toNat)).length * bdP d ≤ 3 * bdP d := Nat.mul_le_mul_right _ h3.1
       omega
theorem valid_few {w : List Data} (hs : WSmall w) (hv : worldValid w = true) : Few w := by
 have hw := valid_wt hs hv
 have hW := (worldValid_iff w).1 hv
 rintro ⟨a, k⟩ c hc ht
 obtain ⟨d, rfl, h1, j, rfl, h3⟩ := vctors_data ht hc
 refine ⟨?_, fun u hu => argsOf_in hw h1 ⟨j, rfl, h3⟩ hu⟩
 have hco := hW.ctor _ (nth_mem h1) _ (nth_mem h3)
 simp only [ctorOk, Bool.and_eq_true, decide_eq_true_eq] at hco
 simp only [argsOf, Int.toNat_natCast, List.length_map]
 omega
theorem Pat.cs_cc (l : List Pat) : Pat.cs l = l.map Pat.cc := by
 rw [Pat.cs_eq]; exact List.map_congr_left (fun v _ => Pat.c_eq v)
section
variable {b : Str} {w : List Data} {d p : Nat} {a k : Int}
theorem drawP_1 (h : d = 0) : drawP b w (d + 1) ⟨a, k⟩ p = (anyP, p) := by simp only [drawP]; rw [if_pos h]
theorem drawP_2 (h : ¬ d = 0) (h2 : pickV b p 4 = 0) : drawP b w (d + 1) ⟨a, k⟩ p = (anyP, p + 1) := by simp only [drawP]; rw [if_neg h, if_pos h2]
theorem drawP_3 (h : ¬ d = 0) (h2 : ¬ pickV b p 4 = 0) (h3 : pickV b (p + 1) 6 = 0) : drawP b w (d + 1) ⟨a, k⟩ p =
  (⟨5, 0, 0, 0, 0, [(drawP b w d ⟨a, k⟩ (p + 2)).1, (drawP b w d ⟨a, k⟩ (drawP b w d ⟨a, k⟩ (p + 2)).2).1]⟩, (drawP b w d ⟨a, k⟩ (drawP b w d ⟨a, k⟩ (p + 2)).2).2) := by
 simp only [drawP]; rw [if_neg h, if_neg h2, if_pos h3]
theorem drawP_4 (h : ¬ d = 0) (h2 : ¬ pickV b p 4 = 0) (h3 : ¬ pickV b (p + 1) 6 = 0) (h4 : a = -1) : drawP b w (d + 1) ⟨a, k⟩ p =
  (⟨3, 0, pickV b (p + 2) 10, pickV b (p + 2) 10 + pickV b (p + 3) (10 - pickV b (p + 2) 10) * pickV b (p + 4) 2, 0, []⟩, p + 5) := by
 simp only [drawP]; rw [if_neg h, if_neg h2, if_neg h3, if_pos h4]
theorem drawP_5 (h : ¬ d = 0) (h2 : ¬ pickV b p 4 = 0) (h3 : ¬ pickV b (p + 1) 6 = 0) (h4 : ¬ a = -1) (h5 : (vctors w ⟨a, k⟩).length = 0) : drawP b w (d + 1) ⟨a, k⟩ p = (anyP, p + 2) := by
 simp only [drawP]; rw [if_neg h, if_neg h2, if_neg h3, if_neg h4, if_pos h5]
theorem drawP_6 (h : ¬ d = 0) (h2 : ¬ pickV b p 4 = 0) (h3 : ¬ pickV b (p + 1) 6 = 0) (h4 : ¬ a = -1) (h5 : ¬ (vctors w ⟨a, k⟩).length = 0) {cc : Int} (hc : nth (vctors w ⟨a, k⟩) (pickV b (p + 2) (vctors w ⟨a, k⟩).length).toNat = cc) : drawP b w (d + 1) ⟨a, k⟩ p =
  (⟨4, cc, 0, 0, 0, (dA (drawP b w d) (argsOf w ⟨a, k⟩ cc) (p + 3)).1⟩, (dA (drawP b w d) (argsOf w ⟨a, k⟩ cc) (p + 3)).2) := by
 simp only [drawP]; rw [if_neg h, if_neg h2, if_neg h3, if_neg h4, if_neg h5, hc]
end
theorem spec_l3Draw_fn {b : Str} {w : List Data} (hb : b.length ≤ 2000) (hw : WT w) (hf : Few w) : ∀ (d : Nat) {a k m : Int} {p : Nat}, m = d → d ≤ 4 → 1 ≤ d → p + bdP d ≤ 1000000 → TyIn w.length ⟨a, k⟩ →
  FnD Try.prog 94 [.ref 900 0, .d (encDatas w), .agg [.d (.i a), .d (.i k)], .d (.i m)] [(900, some (rdB b p))]
   (.agg [.d (.i (drawP b w d ⟨a, k⟩ p).1.op), .d (.i (drawP b w d ⟨a, k⟩ p).1.ctor), .d (.i (drawP b w d ⟨a, k⟩ p).1.n), .d (.i (drawP b w d ⟨a, k⟩ p).1.m), .d (.i (drawP b w d ⟨a, k⟩ p).1.var), .d (encPats (drawP b w d ⟨a, k⟩ p).1.kids)]) [(900, some (rdB b (drawP b w d ⟨a, k⟩ p).2))]
 | 0, a, k, m, p, _, _, h1, _, _ => by omega
 | d + 1, a, k, m, p, hm, hd4, _, hp, ht => by
  have hcl := vctors_len hw ht
  have hbd : bdP (d + 1) = 5 + 3 * bdP d := rfl
  have ih := fun (t : Ty) (q : Nat) (ht : TyIn w.length t) => drawP_bd (b := b) hf d t q ht
  have v10 := pickV_bd (b := b) (p := p + 2) (n := 10) (by omega)
  have v11 := pickV_bd (b := b) (p := p + 3) (n := 10 - pickV b (p + 2) 10) (by omega)
  have v12 := pickV_bd (b := b) (p := p + 4) (n := 2) (by omega)
  have v13 : 0 ≤ pickV b (p + 3) (10 - pickV b (p + 2) 10) * pickV b (p + 4) 2 ∧ pickV b (p + 3) (10 - pickV b (p + 2) 10) * pickV b (p + 4) 2 ≤ 10 := by
   have h : pickV b (p + 4) 2 = 0 ∨ pickV b (p + 4) 2 = 1 := by omega
   rcases h with h | h <;> rw [h] <;> omega
  have hvl : ((((vctors w ⟨a, k⟩).map fun n => [D.i n]).length : Nat) : Int) = (vctors w ⟨a, k⟩).length := by simp
  have v14 := fun h => pickV_bd (b := b) (p := p + 2) (n := ((vctors w ⟨a, k⟩).length : Int)) h
  have hmem := fun h => nth_pick (l := vctors w ⟨a, k⟩) (b := b) (p := p + 2) h
  generalize hcc : nth (vctors w ⟨a, k⟩) (pickV b (p + 2) (vctors w ⟨a, k⟩).length).toNat = cc at *
  have hfw := fun h => hf ⟨a, k⟩ cc (hmem h) ht
  have hat : ¬ (vctors w ⟨a, k⟩).length = 0 → ((vctors w ⟨a, k⟩).map fun n => [D.i n])[(pickV b (p + 2) (vctors w ⟨a, k⟩).length).toNat]? = some [D.i cc] := fun h => by
   rw [← hcc]; exact at_nth (by have := v14 (by omega); omega)
  refine bd Try.f94 96 [] [] fun w0 F0 own kept hk => ?_
  refine Walk.box (id := 3006) .none rfl rfl rfl rfl rfl rfl rfl ?_
  refine Walk.alloc (id := 3008) tz43 rfl .none rfl rfl rfl rfl ?_
  refine tv ?_
  refine sq (fun h1 h1p h1s => ?_) fun h1 h1p h1s => ?_
  ·try simp only [Q] at h1p
   refine sqT ?_
   refine Walk.build st43 (ks := [0]) (xs := [_]) rfl rfl .none rfl rfl rfl ?_
   refine Walk.store ty43 .none rfl rfl rfl rfl rfl rfl (by simp) rfl ?_
   refine tv ?_
   refine rn [(900, some (rdB b (drawP b w (d + 1) ⟨a, k⟩ p).2))] (.cons (.cellA ty43 rfl rfl rfl) .nil) (.agg (.cons (.eqd ?_) (.cons (.eqd ?_) (.cons (.eqd ?_) (.cons (.eqd ?_) (.cons (.eqd ?_) (.cons (.nild ?_) .nil))))))) ⟨rfl, rfl⟩ (SubO.get ⟨.inr (by (rw [drawP_1 (by omega)]; all_goals rfl)), ⟨.inl rfl, trivial⟩⟩) (boxOK rfl)
   all_goals ((rw [drawP_1 (by omega)]; all_goals first | rfl | (show _ = D.sl (Pat.cs _); rw [Pat.cs_cc]; all_goals rfl) | (show _ = Pat.cs _; rw [Pat.cs_cc]; all_goals rfl)))
  ·try simp only [Q] at h1p
   refine Walk.call (cr := []) cal48 (spec_pick_fn (p := p) (n := 4) hb (by omega) (by omega)) rfl (.some rfl rfl h1) rfl rfl (LeL.refl _) ⟨rfl, trivial⟩ rfl rfl rfl ?_
   refine evs [] [(16, false)] ?_ ⟨⟨_, rfl, h1⟩, trivial⟩
   refine sq (fun h3 h3p h3s => ?_) fun h3 h3p h3s => ?_
   ·try simp only [Q] at h3p
    refine Walk.build st43 (ks := [0]) (xs := [_]) rfl rfl .none rfl rfl rfl ?_
    refine Walk.store ty43 .none rfl rfl rfl rfl rfl rfl (by simp) rfl ?_
    refine tv ?_
    refine rn [(900, some (rdB b (drawP b w (d + 1) ⟨a, k⟩ p).2))] (.cons (.cellA ty43 rfl rfl rfl) .nil) (.agg (.cons (.eqd ?_) (.cons (.eqd ?_) (.cons (.eqd ?_) (.cons (.eqd ?_) (.cons (.eqd ?_) (.cons (.nild ?_) .nil))))))) ⟨rfl, rfl⟩ (SubO.get ⟨.inr (by (rw [drawP_2 (by omega) (by omega)]; all_goals rfl)), ⟨.inl rfl, trivial⟩⟩) (boxOK rfl)
    all_goals ((rw [drawP_2 (by omega) (by omega)]; all_goals first | rfl | (show _ = D.sl (Pat.cs _); rw [Pat.cs_cc]; all_goals rfl) | (show _ = Pat.cs _; rw [Pat.cs_cc]; all_goals rfl)))
   ·try simp only [Q] at h3p
    refine Walk.call (cr := []) cal48 (spec_pick_fn (p := p + 1) (n := 6) hb (by omega) (by omega)) rfl .none rfl rfl (LeL.refl _) ⟨rfl, trivial⟩ rfl rfl rfl ?_
    refine ev ?_
    refine sq (fun h4 h4p h4s => ?_) fun h4 h4p h4s => ?_
    ·try simp only [Q] at h4p
     refine ar ?_
     refine Walk.call (cr := []) cal94 (spec_l3Draw_fn hb hw hf d (p := p + 2) (by omega) (by omega) (by omega) (by omega) ht) rfl .none rfl rfl (LeL.refl _) ⟨rfl, trivial⟩ rfl rfl rfl ?_
     refine evd [] [] ?_
     refine ar ?_
     refine Walk.call (cr := []) cal94 (spec_l3Draw_fn hb hw hf d (p := (drawP b w d ⟨a, k⟩ (p + 2)).2) (by omega) (by omega) (by omega) (by have := ih ⟨a, k⟩ (p + 2) ht; omega) ht) rfl .none rfl rfl (LeL.refl _) ⟨rfl, trivial⟩ rfl rfl rfl ?_
     refine Walk.sliceLit sl41 tz43 rfl (by decide) (ks := [0, 1]) (xs := [_, _]) rfl rfl (by decide) (by decide) .none rfl rfl rfl rfl ?_
     refine Walk.build st43 (ks := [0, 5]) (xs := [_, _]) rfl rfl .none rfl rfl rfl ?_
     refine Walk.store ty43 .none rfl rfl rfl rfl rfl rfl (by simp) rfl ?_
     refine dr ?_
     refine rn [(900, some (rdB b (drawP b w (d + 1) ⟨a, k⟩ p).2))] (.cons (.cellA ty43 rfl rfl rfl) .nil) (.agg (.cons (.eqd ?_) (.cons (.eqd ?_) (.cons (.eqd ?_) (.cons (.eqd ?_) (.cons (.eqd ?_) (.cons (.eqd ?_) .nil))))))) ⟨rfl, rfl⟩ (SubO.get ⟨.inr (by (rw [drawP_3 (by omega) (by omega) (by omega)]; all_goals rfl)), ⟨.inl rfl, trivial⟩⟩) (boxOK rfl)
     all_goals ((rw [drawP_3 (by omega) (by omega) (by omega)]; all_goals first | rfl | (show _ = D.sl (Pat.cs _); rw [Pat.cs_cc]; all_goals rfl) | (show _ = Pat.cs _; rw [Pat.cs_cc]; all_goals rfl)))
    ·try simp only [Q] at h4p
     refine sq (fun h5 h5p h5s => ?_) fun h5 h5p h5s => ?_
     ·try simp only [Q] at h5p
      refine Walk.call (cr := []) cal48 (spec_pick_fn (p := p + 2) (n := 10) hb (by omega) (by omega)) rfl .none rfl rfl (LeL.refl _) ⟨rfl, trivial⟩ rfl rfl rfl ?_
      refine ev ?_
      refine ar ?_
      refine Walk.call (cr := []) cal48 (spec_pick_fn (p := p + 3) (n := 10 - pickV b (p + 2) 10) hb (by omega) (by omega)) rfl .none rfl rfl (LeL.refl _) ⟨rfl, trivial⟩ rfl rfl rfl ?_
      refine ev ?_
      refine Walk.call (cr := []) cal48 (spec_pick_fn (p := p + 4) (n := 2) hb (by omega) (by omega)) rfl .none rfl rfl (LeL.refl _) ⟨rfl, trivial⟩ rfl rfl rfl ?_
      refine ev ?_
      refine ar ?_
      refine ar ?_
      refine Walk.build st43 (ks := [0, 2, 3]) (xs := [_, _, _]) rfl rfl .none rfl rfl rfl ?_
      refine Walk.store ty43 .none rfl rfl rfl rfl rfl rfl (by simp) rfl ?_
      refine tv ?_
      refine rn [(900, some (rdB b (drawP b w (d + 1) ⟨a, k⟩ p).2))] (.cons (.cellA ty43 rfl rfl rfl) .nil) (.agg (.cons (.eqd ?_) (.cons (.eqd ?_) (.cons (.eqd ?_) (.cons (.eqd ?_) (.cons (.eqd ?_) (.cons (.nild ?_) .nil))))))) ⟨rfl, rfl⟩ (SubO.get ⟨.inr (by (rw [drawP_4 (by omega) (by omega) (by omega) (by omega)]; all_goals rfl)), ⟨.inl rfl, trivial⟩⟩) (boxOK rfl)
      all_goals ((rw [drawP_4 (by omega) (by omega) (by omega) (by omega)]; all_goals first | rfl | (show _ = D.sl (Pat.cs _); rw [Pat.cs_cc]; all_goals rfl) | (show _ = Pat.cs _; rw [Pat.cs_cc]; all_goals rfl)))
     ·try simp only [Q] at h5p
      refine Walk.call (cr := []) cal76 (spec_l1Ctors_v hw ht) rfl .none rfl rfl (LeL.refl _) trivial rfl rfl rfl ?_
      refine ev ?_
      refine sq (fun h6 h6p h6s => ?_) fun h6 h6p h6s => ?_
      ·try simp only [Q] at h6p
       refine Walk.build st43 (ks := [0]) (xs := [_]) rfl rfl .none rfl rfl rfl ?_
       refine Walk.store ty43 .none rfl rfl rfl rfl rfl rfl (by simp) rfl ?_
       refine tv ?_
       refine rn [(900, some (rdB b (drawP b w (d + 1) ⟨a, k⟩ p).2))] (.cons (.cellA ty43 rfl rfl rfl) .nil) (.agg (.cons (.eqd ?_) (.cons (.eqd ?_) (.cons (.eqd ?_) (.cons (.eqd ?_) (.cons (.eqd ?_) (.cons (.nild ?_) .nil))))))) ⟨rfl, rfl⟩ (SubO.get ⟨.inr (by (rw [drawP_5 (by omega) (by omega) (by omega) (by omega) (by omega)]; all_goals rfl)), ⟨.inl rfl, trivial⟩⟩) (boxOK rfl)
       all_goals ((rw [drawP_5 (by omega) (by omega) (by omega) (by omega) (by omega)]; all_goals first | rfl | (show _ = D.sl (Pat.cs _); rw [Pat.cs_cc]; all_goals rfl) | (show _ = Pat.cs _; rw [Pat.cs_cc]; all_goals rfl)))
      ·try simp only [Q] at h6p
       refine Walk.call (cr := []) cal48 (spec_pick_fn (p := p + 2) (n := ((((vctors w ⟨a, k⟩).map fun n => [D.i n]).length : Nat) : Int)) hb (by omega) (by omega)) rfl .none rfl rfl (LeL.refl _) ⟨rfl, trivial⟩ rfl rfl rfl ?_
       refine Walk.idx (i := (pickV b (p + 2) (vctors w ⟨a, k⟩).length).toNat) sl93 .none rfl rfl rfl (by rw [hvl]; have := v14 (by omega); omega) (hat (by omega)) rfl ?_
       refine ev ?_
       refine Walk.build st43 (ks := [0, 1]) (xs := [_, _]) rfl rfl .none rfl rfl rfl ?_
       refine Walk.alloc (id := 3011) tz43 rfl .none rfl rfl rfl rfl ?_
       refine Walk.store ty43 .none rfl rfl rfl rfl rfl rfl (by simp) rfl ?_
       refine tv ?_
       refine Walk.call (cr := []) cal77 (spec_l1Args_v hw ht (hmem (by omega))) rfl .none rfl rfl (LeL.refl _) trivial rfl rfl rfl ?_
       refine ev ?_
       refine CWp.tokB 3011 5 1 6 rfl rfl rfl rfl ?_
       refine CWp.loopX (ι := List (Ty) × List (Ty) × (Nat) × (List Pat)) hk (fun x => [(13, .d (.i (x.1.length : Int)))]) [75, 76, 77, 78, 79, 80, 81, 82, 83, 84, 85, 86, 87, 88, 89, 90, 91, 92, 93, 94] (fun x => [(900, some (.box [.d (encBytes b), .d (.i (x.2.2.1 : Int))])), (3011, some (.box [.d (.i 4), .d (.i cc), .d (.i 0), .d (.i 0), .d (.i 0), .gl 1 (x.2.2.2.map Pat.cc)])), (1, some (.tok (x.2.2.2.map Pat.cc).length 6))]) (fun x => x.1 ++ x.2.1 = argsOf w ⟨a, k⟩ cc ∧ x.2.2.1 ≤ p + 3 + x.1.length * bdP d ∧ x.2.2.2.length = x.1.length ∧ (x.2.2.2 ++ (dA (drawP b w d) x.2.1 x.2.2.1).1, (dA (drawP b w d) x.2.1 x.2.2.1).2) = dA (drawP b w d) (argsOf w ⟨a, k⟩ cc) (p + 3)) (fun x => x.2.1.length) ([], argsOf w ⟨a, k⟩ cc, p + 3, []) ⟨by simp, by simp, by simp, by simp⟩ ⟨⟨_, rfl, (LeA.eqi (by first | rfl | (simp; done) | omega))⟩, trivial⟩ ⟨(by first | rfl | (simp [getH]; done)), ⟨(by first | rfl | (simp [getH]; done)), ⟨beq_nat_eq (by rfl), trivial⟩⟩⟩ (fun x => rfl) (fun x hg1 => ?_)
       obtain ⟨pre, rest, q, ks⟩ := x
       dsimp only at hg1 ⊢
       refine evc [] [] ?_
       refine sq (fun h7 h7p h7s => ?_) fun h7 h7p h7s => ?_
       ·try simp only [Q] at h7p
        rcases rest with _ | ⟨y, rest⟩
        ·exfalso; simp_all
        have hpm : pre.length * bdP d ≤ 2 * bdP d := Nat.mul_le_mul_right _ (by have := (hfw (by omega)).1; omega)
        refine Walk.idx sl25 .none rfl rfl rfl rfl (zip_at hg1.1) rfl ?_
        refine evd [] [] ?_
        refine ar ?_
        refine Walk.call (cr := []) cal94 (spec_l3Draw_fn hb hw hf d (a := y.data) (k := y.index) (p := q) (by omega) (by omega) (by omega) (by omega) ((hfw (by omega)).2 y (by rw [← hg1.1]; simp))) rfl .none rfl rfl (LeL.refl _) ⟨rfl, trivial⟩ rfl rfl rfl ?_
        refine Walk.sliceLit sl41 tz43 rfl (by decide) (ks := [0]) (xs := [_]) rfl rfl (by decide) (by decide) .none rfl rfl rfl rfl ?_
        refine Walk.append sl41 zz43 rfl .none rfl rfl rfl rfl (htokL rfl (by first | rfl | (simp; done) | (simp; omega))) (by simp) (by have hz := congrArg List.length hg1.1; have := (hfw (by omega)).1; simp at hz ⊢; omega) (by have hz := congrArg List.length hg1.1; have := (hfw (by omega)).1; simp at hz ⊢; omega) ?_
        refine evd [] [] ?_
        refine Walk.store ty41 .none rfl rfl rfl rfl rfl rfl (by simp) rfl ?_
        refine dr ?_
        refine ar ?_
        refine Exists.intro ((pre ++ [y], rest, (drawP b w d y q).2, ks ++ [(drawP b w d y q).1])) ⟨⟨(by have hz := hg1.1; rw [← hz]; simp), ⟨(by have := ih y q ((hfw (by omega)).2 y (by rw [← hg1.1]; simp)); simp only [List.length_append, List.length_cons, List.length_nil, Nat.add_mul]; omega), (by simp [hg1.2.2.1]), (by rw [← hg1.2.2.2]; simp [dA])⟩⟩, (by simp), Sub.x (by kernel_rfl) (by kernel_rfl) ⟨⟨_, rfl, (LeA.eqi (by first | rfl | (simp; done) | omega))⟩, trivial⟩ (by kernel_rfl) (by kernel_rfl) ⟨(by first | rfl | (simp [getH]; done)), ⟨(by first | rfl | (simp [getH]; done)), ⟨beq_nat_eq (by (simp; done)), trivial⟩⟩⟩⟩
       ·try simp only [Q] at h7p
        have hrest : rest = [] := by
         rcases rest with _ | ⟨a, b⟩
         ·rfl
         ·exfalso; have hz := congrArg List.length (hg1.1); simp only [List.length_append, List.length_cons, List.length_map] at hz; omega
        subst hrest
        refine Walk.store ty43 .none rfl rfl rfl rfl rfl rfl (by simp) rfl ?_
        refine tv ?_
        refine rn [(900, some (rdB b (drawP b w (d + 1) ⟨a, k⟩ p).2))] (.cons (.cellA ty43 rfl rfl rfl) .nil) (.agg (.cons (.eqd ?_) (.cons (.eqd ?_) (.cons (.eqd ?_) (.cons (.eqd ?_) (.cons (.eqd ?_) (.cons (.gld ?_) .nil))))))) ⟨rfl, rfl⟩ (SubO.get ⟨.inr (by first | (rw [drawP_1 (by omega)]; all_goals rfl) | (rw [drawP_2 (by omega) (by omega)]; all_goals rfl) | (rw [drawP_3 (by omega) (by omega) (by omega)]; all_goals rfl) | (rw [drawP_4 (by omega) (by omega) (by omega) (by omega)]; all_goals rfl) | (rw [drawP_5 (by omega) (by omega) (by omega) (by omega) (by omega)]; all_goals rfl) | (rw [drawP_6 (by omega) (by omega) (by omega) (by omega) (by omega) hcc]; have hfin := hg1.2.2.2; simp only [dA, List.append_nil] at hfin; rw [← hfin]; all_goals rfl)), ⟨.inl rfl, trivial⟩⟩) (boxOK rfl)
        all_goals (first | (rw [drawP_1 (by omega)]; all_goals first | rfl | (show _ = D.sl (Pat.cs _); rw [Pat.cs_cc]; all_goals rfl) | (show _ = Pat.cs _; rw [Pat.cs_cc]; all_goals rfl)) | (rw [drawP_2 (by omega) (by omega)]; all_goals first | rfl | (show _ = D.sl (Pat.cs _); rw [Pat.cs_cc]; all_goals rfl) | (show _ = Pat.cs _; rw [Pat.cs_cc]; all_goals rfl)) | (rw [drawP_3 (by omega) (by omega) (by omega)]; all_goals first | rfl | (show _ = D.sl (Pat.cs _); rw [Pat.cs_cc]; all_goals rfl) | (show _ = Pat.cs _; rw [Pat.cs_cc]; all_goals rfl)) | (rw [drawP_4 (by omega) (by omega) (by omega) (by omega)]; all_goals first | rfl | (show _ = D.sl (Pat.cs _); rw [Pat.cs_cc]; all_goals rfl) | (show _ = Pat.cs _; rw [Pat.cs_cc]; all_goals rfl)) | (rw [drawP_5 (by omega) (by omega) (by omega) (by omega) (by omega)]; all_goals first | rfl | (show _ = D.sl (Pat.cs _); rw [Pat.cs_cc]; all_goals rfl) | (show _ = Pat.cs _; rw [Pat.cs_cc]; all_goals rfl)) | (rw [drawP_6 (by omega) (by omega) (by omega) (by omega) (by omega) hcc]; have hfin := hg1.2.2.2; simp only [dA, List.append_nil] at hfin; rw [← hfin]; all_goals first | rfl | (show _ = D.sl (Pat.cs _); rw [Pat.cs_cc]; all_goals rfl) | (show _ = Pat.cs _; rw [Pat.cs_cc]; all_goals rfl)))
theorem tv_facts {w : List Data} {a k : Int} (h : typeValid w ⟨a, k⟩ = true) : worldValid w = true ∧ TyIn w.length ⟨a, k⟩ ∧ (a ≠ -1 → 0 ≤ a ∧ a.toNat < w.length ∧ 0 ≤ k ∧ k ≤ 3) := by
 unfold typeValid at h
 rw [Bool.and_eq_true] at h
 obtain ⟨h1, h2⟩ := h
 simp only [typeOk, within, Bool.or_eq_true, Bool.and_eq_true, decide_eq_true_eq, and_true] at h2
 refine ⟨h1, ?_, fun ha => by omega⟩
 rcases h2 with h | h
 ·exact .inl h.1
 ·exact .inr ⟨a.toNat, by simp only; omega, by omega⟩
def patValid (w : List Data) (a k : Int) (p : Pat) : Bool := typeValid w ⟨a, k⟩ && isP w ⟨a, k⟩ p
structure PVal (w : List Data) (a k : Int) (p : Pat) : Prop where
 dp : Dp w
 tin : TyIn w.length ⟨a, k⟩
 shape : shapeP w 10 ⟨a, k⟩ p = true
 rng : a ≠ -1 → 0 ≤ a ∧ a.toNat < w.length ∧ 0 ≤ k ∧ k ≤ 3
theorem impl_PatternValid_fn {w : List Data} (hs : WSmall w) {a k : Int} {p : Pat} (hok : p.ok) :
  FnD Try.prog 20 [.d (encDatas w), .agg [.d (.i a), .d (.i k)], .agg [.d (.i p.op), .d (.i p.ctor), .d (.i p.n), .d (.i p.m), .d (.i p.var), .d (encPats p.kids)]] [] (.d (.bool (patValid w a k p))) [] := by
 refine bd Try.f20 16 [] [] fun w0 F0 own kept hk => ?_
 refine Walk.box (id := 3004) .none rfl rfl rfl rfl rfl rfl rfl ?_
 refine Walk.box (id := 3005) .none rfl rfl rfl rfl rfl rfl rfl ?_
 refine ev ?_
 refine Walk.call (cr := []) cal11 (impl_TypeValid_fn hs) rfl .none rfl rfl (LeL.refl _) trivial rfl rfl rfl ?_
 refine ev ?_
 refine sq (fun h1 h1p h1s => ?_) fun h1 h1p h1s => ?_
 ·try simp only [Q] at h1p
  refine Walk.call (cr := []) cal35 (impl_patternOk_fn (valid_wt hs (tv_facts h1s).1) (tv_facts h1s).2.1 hok) rfl (.some rfl rfl h1) rfl rfl (LeL.refl _) trivial rfl rfl rfl ?_
  refine evs [] [(10, true)] ?_ ⟨⟨_, rfl, h1⟩, trivial⟩
  refine rn0 (r1 rfl) (.eqd ?_)
  all_goals (refine congrArg D.bool ?_; unfold patValid; simp_all)
 ·try simp only [Q] at h1p
  refine rn0 (r1 rfl) (.eqd ?_)
  all_goals (refine congrArg D.bool ?_; unfold patValid; simp_all)
def namL (f : Pat → Int → Nat → Pat × Int × Nat) : List Pat → Int → Nat → List Pat × Int × Nat
 | [], m, q => ([], m, q)
 | x :: r, m, q => ((f x m q).1 :: (namL f r (f x m q).2.1 (f x m q).2.2).1, (namL f r (f x m q).2.1 (f x m q).2.2).2)
def namP (b : Str) : Nat → Pat → Int → Nat → Pat × Int × Nat
 | 0, p, m, q => (p, m, q)
 | n + 1, p, m, q =>
  if 5 < m ∨ p.op = 5 ∨ p.op = 3 then (p, m, q)
  else if p.op = 1 ∧ pickV b q 2 = 0 then (⟨2, 0, 0, 0, m, []⟩, m + 1, q + 1)
  else if (namL (namP b n) p.kids m (if p.op = 1 then q + 1 else q)).2.1 ≤ 5 then
   (if pickV b (namL (namP b n) p.kids m (if p.op = 1 then q + 1 else q)).2.2 6 = 0 then
    (⟨6, 0, 0, 0, (namL (namP b n) p.kids m (if p.op = 1 then q + 1 else q)).2.1, [⟨p.op, p.ctor, p.n, p.m, p.var, (namL (namP b n) p.kids m (if p.op = 1 then q + 1 else q)).1⟩]⟩,
     (namL (namP b n) p.kids m (if p.op = 1 then q + 1 else q)).2.1 + 1, (namL (namP b n) p.kids m (if p.op = 1 then q + 1 else q)).2.2 + 1)
   else (⟨p.op, p.ctor, p.n, p.m, p.var, (namL (namP b n) p.kids m (if p.op = 1 then q + 1 else q)).1⟩, (namL (namP b n) p.kids m (if p.op = 1 then q + 1 else q)).2.1, (namL (namP b n) p.kids m (if p.op = 1 then q + 1 else q)).2.2 + 1))
  else (⟨p.op, p.ctor, p.n, p.m, p.var, (namL (namP b n) p.kids m (if p.op = 1 then q + 1 else q)).1⟩, (namL (namP b n) p.kids m (if p.op = 1 then q + 1 else q)).2.1, (namL (namP b n) p.kids m (if p.op = 1 then q + 1 else q)).2.2)
section
variable {b : Str} {n : Nat} {p : Pat} {m : Int} {q : Nat} {ks : List Pat} {zm : Int} {zq : Nat}
theorem nam_1 (h : 5 < m ∨ p.op = 5 ∨ p.op = 3) : namP b (n + 1) p m q = (p, m, q) := by simp only [namP]; rw [if_pos h]
theorem nam_2 (h : ¬ (5 < m ∨ p.op = 5 ∨ p.op = 3)) (h2 : p.op = 1 ∧ pickV b q 2 = 0) : namP b (n + 1) p m q = (⟨2, 0, 0, 0, m, []⟩, m + 1, q + 1) := by simp only [namP]; rw [if_neg h, if_pos h2]
theorem nam_3 (h : ¬ (5 < m ∨ p.op = 5 ∨ p.op = 3)) (h2 : ¬ (p.op = 1 ∧ pickV b q 2 = 0)) (hz : (ks, zm, zq) = namL (namP b n) p.kids m (if p.op = 1 then q + 1 else q)) (h3 : zm ≤ 5) (h4 : pickV b zq 6 = 0) :
  namP b (n + 1) p m q = (⟨6, 0, 0, 0, zm, [⟨p.op, p.ctor, p.n, p.m, p.var, ks⟩]⟩, zm + 1, zq + 1) := by
 simp only [namP]; rw [if_neg h, if_neg h2, ← hz]; dsimp only; rw [if_pos h3, if_pos h4]
theorem nam_4 (h : ¬ (5 < m ∨ p.op = 5 ∨ p.op = 3)) (h2 : ¬ (p.op = 1 ∧ pickV b q 2 = 0)) (hz : (ks, zm, zq) = namL (namP b n) p.kids m (if p.op = 1 then q + 1 else q)) (h3 : zm ≤ 5) (h4 : ¬ pickV b zq 6 = 0) :
  namP b (n + 1) p m q = (⟨p.op, p.ctor, p.n, p.m, p.var, ks⟩, zm, zq + 1) := by
 simp only [namP]; rw [if_neg h, if_neg h2, ← hz]; dsimp only; rw [if_pos h3, if_neg h4]
theorem nam_5 (h : ¬ (5 < m ∨ p.op = 5 ∨ p.op = 3)) (h2 : ¬ (p.op = 1 ∧ pickV b q 2 = 0)) (hz : (ks, zm, zq) = namL (namP b n) p.kids m (if p.op = 1 then q + 1 else q)) (h3 : ¬ zm ≤ 5) :
  namP b (n + 1) p m q = (⟨p.op, p.ctor, p.n, p.m, p.var, ks⟩, zm, zq) := by
 simp only [namP]; rw [if_neg h, if_neg h2, ← hz]; dsimp only; rw [if_neg h3]
end
def NamOk (p : Pat) (m : Int) (q : Nat) (r : Pat × Int × Nat) : Prop := m ≤ r.2.1 ∧ r.2.1 ≤ 6 ∧ r.2.2 ≤ q + 2 * p.size ∧ r.1.size ≤ 2 * p.size ∧ (p.ok → r.1.ok)
theorem namL_ok {f : Pat → Int → Nat → Pat × Int × Nat} : ∀ (l : List Pat) (m : Int) (q : Nat), (∀ x ∈ l, ∀ m q, 0 ≤ m → m ≤ 6 → NamOk x m q (f x m q)) → 0 ≤ m → m ≤ 6 →
  m ≤ (namL f l m q).2.1 ∧ (namL f l m q).2.1 ≤ 6 ∧ (namL f l m q).2.2 ≤ q + 2 * Pats.size l ∧ Pats.size (namL f l m q).1 ≤ 2 * Pats.size l ∧ (namL f l m q).1.length = l.length ∧ (Pats.ok l → Pats.ok (namL f l m q).1)
 | [], m, q, _, _, h6 => by simp [namL, Pats.size, h6]
 | x :: r, m, q, h, h0, h6 => by
  obtain ⟨a1, a2, a3, a4, a5⟩ := h x (by simp) m q h0 h6
  obtain ⟨b1, b2, b3, b4, b5, b6⟩ := namL_ok r (f x m q).2.1 (f x m q).2.2 (fun y hy => h y (by simp [hy])) (by omega) a2
  simp only [namL, Pats.size, List.length_cons]
  refine ⟨by omega, by omega, by omega, by omega, by omega, fun ho => ?_⟩
  exact ⟨a5 ho.1, b6 ho.2⟩
theorem namP_ok {b : Str} : ∀ (n : Nat) (p : Pat) (m : Int) (q : Nat), 0 ≤ m → m ≤ 6 → NamOk p m q (namP b n p m q)
 | 0, p, m, q, h0, h6 => ⟨by simp [namP], by simp [namP, h6], by simp [namP], by simp [namP]; omega, fun h => h⟩
 | n + 1, p, m, q, h0, h6 => by
  have hs := Pat.size_eq p
  by_cases h : 5 < m ∨ p.op = 5 ∨ p.op = 3
  ·rw [nam_1 h]; exact ⟨Int.le_refl _, h6, by dsimp only; omega, by dsimp only; omega, fun h => h⟩
  ·by_cases h2 : p.op = 1 ∧ pickV b q 2 = 0
   ·rw [nam_2 h h2]
    refine ⟨by dsimp only; omega, by dsimp only; omega, by dsimp only; omega, ?_, fun _ => ?_⟩
    ·show (Pat.mk 2 0 0 0 m []).size ≤ _; rw [Pat.size_eq]; simp only [Pat.kids, Pats.size]; omega
    ·show (Pat.mk 2 0 0 0 m []).ok; rw [Pat.ok_iff]; exact ⟨by simp [Pat.kids], trivial⟩
   ·generalize hz : namL (namP b n) p.kids m (if p.op = 1 then q + 1 else q) = z
    obtain ⟨ks, zm, zq⟩ := z
    have hq : (if p.op = 1 then q + 1 else q) ≤ q + 1 := by split <;> omega
    obtain ⟨b1, b2, b3, b4, b5, b6⟩ := namL_ok (f := namP b n) p.kids m (if p.op = 1 then q + 1 else q) (fun x _ m q h0 h6 => namP_ok n x m q h0 h6) h0 h6
    rw [hz] at b1 b2 b3 b4 b5 b6
    dsimp only at b1 b2 b3 b4 b5 b6
    have so : (Pat.mk p.op p.ctor p.n p.m p.var ks).size = 1 + Pats.size ks := by rw [Pat.size_eq]; rfl
    have ko : p.ok → (Pat.mk p.op p.ctor p.n p.m p.var ks).ok := fun h => by
     rw [Pat.ok_iff] at h ⊢
     exact ⟨by show ks.length ≤ _; rw [b5]; exact h.1, b6 h.2⟩
    by_cases h3 : zm ≤ 5
    ·by_cases h4 : pickV b zq 6 = 0
     ·rw [nam_3 h h2 hz.symm h3 h4]
      refine ⟨by dsimp only; omega, by dsimp only; omega, by dsimp only; omega, ?_, fun hk => ?_⟩
      ·dsimp only; rw [Pat.size_eq]; simp only [Pat.kids, Pats.size]; rw [so]; omega
      ·dsimp only; rw [Pat.ok_iff]; exact ⟨by simp [Pat.kids], ko hk, trivial⟩
     ·rw [nam_4 h h2 hz.symm h3 h4]
      exact ⟨b1, b2, by dsimp only; omega, by dsimp only; rw [so]; omega, ko⟩
    ·rw [nam_5 h h2 hz.symm h3]
     exact ⟨b1, b2, by dsimp only; omega, by dsimp only; rw [so]; omega, ko⟩
theorem namL_end {f : Pat → Int → Nat → Pat × Int × Nat} {ks : List Pat} {zm : Int} {zq : Nat} {z : List Pat × Int × Nat} (h : (ks ++ (namL f [] zm zq).1, (namL f [] zm zq).2) = z) : (ks, zm, zq) = z := by
 rw [← h]; simp [namL]
theorem Pats.size_snoc {l : List Pat} {y : Pat} : Pats.size (l ++ [y]) = Pats.size l + y.size := by
 have := Pats.size_split (pre := l) (rest := []) (y := y) rfl
 simpa [Pats.size] using this
theorem spec_l3Name_fn {b : Str} (hb : b.length ≤ 2000) : ∀ (n : Nat) {p : Pat} {m : Int} {q : Nat}, p.size ≤ n → p.ok → 0 ≤ m → m ≤ 6 → q + 2 * p.size ≤ 1000000 →
  FnD Try.prog 93 [.ref 900 0, .agg [.d (.i p.op), .d (.i p.ctor), .d (.i p.n), .d (.i p.m), .d (.i p.var), .d (encPats p.kids)], .d (.i m)] [(900, some (rdB b q))] (.tup [.agg [.d (.i (namP b n p m q).1.op), .d (.i (namP b n p m q).1.ctor), .d (.i (namP b n p m q).1.n), .d (.i (namP b n p m q).1.m), .d (.i (namP b n p m q).1.var), .d (encPats (namP b n p m q).1.kids)], .d (.i (namP b n p m q).2.1)]) [(900, some (rdB b (namP b n p m q).2.2))]
 | 0, p, m, q, h, _, _, _, _ => by rw [Pat.size_eq] at h; omega
 | n + 1, p, m, q, kn, hok, k0, k6, hq => by
  have hs := Pat.size_eq p
  have hok' := hok
  rw [Pat.ok_iff] at hok'
  have ih := fun (x : Pat) (m : Int) (q : Nat) (h0 : 0 ≤ m) (h6 : m ≤ 6) => namP_ok (b := b) n x m q h0 h6
  have hysz : ∀ {pre rest : List Pat} {y : Pat}, pre ++ y :: rest = p.kids → y.size + Pats.size pre + Pats.size rest = Pats.size p.kids := fun h => by have := Pats.size_split h; omega
  have hq1 : (if p.op = 1 then q + 1 else q) ≤ q + 1 := by split <;> omega
  generalize hqq : (if p.op = 1 then q + 1 else q) = q1 at hq1
  have hqa : p.op = 1 → q1 = q + 1 := fun h => by rw [← hqq, if_pos h]
  have hqb : ¬ p.op = 1 → q1 = q := fun h => by rw [← hqq, if_neg h]
  refine bd Try.f93 82 [] [] fun w0 F0 own kept hk => ?_
  refine Walk.box (id := 3004) .none rfl rfl rfl rfl rfl rfl rfl ?_
  refine Walk.alloc (id := 3006) tz43 rfl .none rfl rfl rfl rfl ?_
  refine ev ?_
  refine sq (fun h1 h1p h1s => ?_) fun h1 h1p h1s => ?_
  ·try simp only [Q, Pat.cs_len] at h1p
   refine sqT ?_
   refine sqT ?_
   refine Walk.store ty43 .none rfl rfl rfl rfl rfl rfl (by simp) rfl ?_
   refine ev ?_
   refine rn [(900, some (rdB b (namP b (n + 1) p m q).2.2))] (.cons (.cellA ty43 rfl rfl rfl) (.cons (.tmp rfl) .nil)) (.tup (.cons (.agg (.cons (.eqd ?_) (.cons (.eqd ?_) (.cons (.eqd ?_) (.cons (.eqd ?_) (.cons (.eqd ?_) (.cons (.eqd ?_) .nil))))))) (.cons (.eqd ?_) .nil))) ⟨rfl, rfl⟩ (SubO.get ⟨.inr (by (rw [nam_1 (by omega)]; all_goals first | rfl | (show _ = D.sl (Pat.cs _); rw [Pat.cs_cc]; all_goals rfl) | (show _ = Pat.cs _; rw [Pat.cs_cc]; all_goals rfl) | (show _ = D.sl [[D.i _, D.i _, D.i _, D.i _, D.i _, D.sl (Pat.cs _)]]; rw [Pat.cs_cc]; all_goals rfl))), ⟨.inl rfl, trivial⟩⟩) (boxOK rfl)
   all_goals ((rw [nam_1 (by omega)]; all_goals first | rfl | (show _ = D.sl (Pat.cs _); rw [Pat.cs_cc]; all_goals rfl) | (show _ = Pat.cs _; rw [Pat.cs_cc]; all_goals rfl) | (show _ = D.sl [[D.i _, D.i _, D.i _, D.i _, D.i _, D.sl (Pat.cs _)]]; rw [Pat.cs_cc]; all_goals rfl)))
  ·try simp only [Q, Pat.cs_len] at h1p
   refine sq (fun h3 h3p h3s => ?_) fun h3 h3p h3s => ?_
   ·try simp only [Q, Pat.cs_len] at h3p
    refine sqT ?_
    refine Walk.store ty43 .none rfl rfl rfl rfl rfl rfl (by simp) rfl ?_
    refine ev ?_
    refine rn [(900, some (rdB b (namP b (n + 1) p m q).2.2))] (.cons (.cellA ty43 rfl rfl rfl) (.cons (.tmp rfl) .nil)) (.tup (.cons (.agg (.cons (.eqd ?_) (.cons (.eqd ?_) (.cons (.eqd ?_) (.cons (.eqd ?_) (.cons (.eqd ?_) (.cons (.eqd ?_) .nil))))))) (.cons (.eqd ?_) .nil))) ⟨rfl, rfl⟩ (SubO.get ⟨.inr (by (rw [nam_1 (by omega)]; all_goals first | rfl | (show _ = D.sl (Pat.cs _); rw [Pat.cs_cc]; all_goals rfl) | (show _ = Pat.cs _; rw [Pat.cs_cc]; all_goals rfl) | (show _ = D.sl [[D.i _, D.i _, D.i _, D.i _, D.i _, D.sl (Pat.cs _)]]; rw [Pat.cs_cc]; all_goals rfl))), ⟨.inl rfl, trivial⟩⟩) (boxOK rfl)
    all_goals ((rw [nam_1 (by omega)]; all_goals first | rfl | (show _ = D.sl (Pat.cs _); rw [Pat.cs_cc]; all_goals rfl) | (show _ = Pat.cs _; rw [Pat.cs_cc]; all_goals rfl) | (show _ = D.sl [[D.i _, D.i _, D.i _, D.i _, D.i _, D.sl (Pat.cs _)]]; rw [Pat.cs_cc]; all_goals rfl)))
   ·try simp only [Q, Pat.cs_len] at h3p
    refine sq (fun h5 h5p h5s => ?_) fun h5 h5p h5s => ?_
    ·try simp only [Q, Pat.cs_len] at h5p
     refine Walk.store ty43 .none rfl rfl rfl rfl rfl rfl (by simp) rfl ?_
     refine ev ?_
     refine rn [(900, some (rdB b (namP b (n + 1) p m q).2.2))] (.cons (.cellA ty43 rfl rfl rfl) (.cons (.tmp rfl) .nil)) (.tup (.cons (.agg (.cons (.eqd ?_) (.cons (.eqd ?_) (.cons (.eqd ?_) (.cons (.eqd ?_) (.cons (.eqd ?_) (.cons (.eqd ?_) .nil))))))) (.cons (.eqd ?_) .nil))) ⟨rfl, rfl⟩ (SubO.get ⟨.inr (by (rw [nam_1 (by omega)]; all_goals first | rfl | (show _ = D.sl (Pat.cs _); rw [Pat.cs_cc]; all_goals rfl) | (show _ = Pat.cs _; rw [Pat.cs_cc]; all_goals rfl) | (show _ = D.sl [[D.i _, D.i _, D.i _, D.i _, D.i _, D.sl (Pat.cs _)]]; rw [Pat.cs_cc]; all_goals rfl))), ⟨.inl rfl, trivial⟩⟩) (boxOK rfl)
     all_goals ((rw [nam_1 (by omega)]; all_goals first | rfl | (show _ = D.sl (Pat.cs _); rw [Pat.cs_cc]; all_goals rfl) | (show _ = Pat.cs _; rw [Pat.cs_cc]; all_goals rfl) | (show _ = D.sl [[D.i _, D.i _, D.i _, D.i _, D.i _, D.sl (Pat.cs _)]]; rw [Pat.cs_cc]; all_goals rfl)))
    ·try simp only [Q, Pat.cs_len] at h5p
     refine sq (fun h6 h6p h6s => ?_) fun h6 h6p h6s => ?_
     ·try simp only [Q, Pat.cs_len] at h6p
      refine Walk.call (cr := []) cal48 (spec_pick_fn (p := q) (n := 2) hb (by omega) (by omega)) rfl (.some rfl rfl h6) rfl rfl (LeL.refl _) ⟨rfl, trivial⟩ rfl rfl rfl ?_
      refine evs [] [(30, true)] ?_ ⟨⟨_, rfl, h6⟩, trivial⟩
      refine sq (fun h7 h7p h7s => ?_) fun h7 h7p h7s => ?_
      ·try simp only [Q, Pat.cs_len] at h7p
       refine Walk.build st43 (ks := [0, 4]) (xs := [_, _]) rfl rfl .none rfl rfl rfl ?_
       refine ev ?_
       refine ar ?_
       refine Walk.store ty43 .none rfl rfl rfl rfl rfl rfl (by simp) rfl ?_
       refine ev ?_
       refine rn [(900, some (rdB b (namP b (n + 1) p m q).2.2))] (.cons (.cellA ty43 rfl rfl rfl) (.cons (.tmp rfl) .nil)) (.tup (.cons (.agg (.cons (.eqd ?_) (.cons (.eqd ?_) (.cons (.eqd ?_) (.cons (.eqd ?_) (.cons (.eqd ?_) (.cons (.nild ?_) .nil))))))) (.cons (.eqd ?_) .nil))) ⟨rfl, rfl⟩ (SubO.get ⟨.inr (by (rw [nam_2 (by omega) ⟨by omega, by omega⟩]; all_goals first | rfl | (show _ = D.sl (Pat.cs _); rw [Pat.cs_cc]; all_goals rfl) | (show _ = Pat.cs _; rw [Pat.cs_cc]; all_goals rfl) | (show _ = D.sl [[D.i _, D.i _, D.i _, D.i _, D.i _, D.sl (Pat.cs _)]]; rw [Pat.cs_cc]; all_goals rfl))), ⟨.inl rfl, trivial⟩⟩) (boxOK rfl)
       all_goals ((rw [nam_2 (by omega) ⟨by omega, by omega⟩]; all_goals first | rfl | (show _ = D.sl (Pat.cs _); rw [Pat.cs_cc]; all_goals rfl) | (show _ = Pat.cs _; rw [Pat.cs_cc]; all_goals rfl) | (show _ = D.sl [[D.i _, D.i _, D.i _, D.i _, D.i _, D.sl (Pat.cs _)]]; rw [Pat.cs_cc]; all_goals rfl)))
      ·try simp only [Q, Pat.cs_len] at h7p
       refine Walk.alloc (id := 3008) tz43 rfl .none rfl rfl rfl rfl ?_
       refine Walk.store ty43 .none rfl rfl rfl rfl rfl rfl (by simp) rfl ?_
       refine tv ?_
       refine Walk.store ty41 .none rfl rfl rfl rfl rfl rfl (by simp) rfl ?_
       refine tv ?_
       refine CWp.tokB 3008 5 1 6 rfl rfl rfl rfl ?_
       refine CWp.loopX (ι := List (Pat) × List (Pat) × (Int) × (Nat) × (List Pat)) hk (fun x => [(10, .d (.i (x.1.length : Int))), (9, .d (.i x.2.2.1))]) [11, 12, 42, 43, 44, 45, 46, 47, 48, 49, 50, 51, 52, 53, 54, 55, 56, 57, 58, 59, 60, 61, 62, 63, 64, 65, 66] (fun x => [(900, some (.box [.d (encBytes b), .d (.i (x.2.2.2.1 : Int))])), (3008, some (.box [.d (.i p.op), .d (.i p.ctor), .d (.i p.n), .d (.i p.m), .d (.i p.var), .gl 1 (x.2.2.2.2.map Pat.cc)])), (1, some (.tok (x.2.2.2.2.map Pat.cc).length 6))]) (fun x => x.1 ++ x.2.1 = p.kids ∧ 0 ≤ x.2.2.1 ∧ x.2.2.1 ≤ 6 ∧ x.2.2.2.1 ≤ q1 + 2 * Pats.size x.1 ∧ x.2.2.2.2.length = x.1.length ∧ (x.2.2.2.2 ++ (namL (namP b n) x.2.1 x.2.2.1 x.2.2.2.1).1, (namL (namP b n) x.2.1 x.2.2.1 x.2.2.2.1).2) = namL (namP b n) p.kids m q1) (fun x => x.2.1.length) ([], p.kids, m, q1, []) ⟨by simp, by simpa using k0, by simpa using k6, by simp [Pats.size], by simp, by simp⟩ ⟨⟨_, rfl, (LeA.eqi (by first | rfl | (simp; done) | omega))⟩, ⟨⟨_, rfl, (LeA.eqi (by first | rfl | (simp; done) | omega))⟩, trivial⟩⟩ ⟨(by (show some (Res.box _) = some (Res.box _); rw [hqa (by omega)]; all_goals rfl)), ⟨(by rfl), ⟨beq_nat_eq (by rfl), trivial⟩⟩⟩ (fun x => rfl) (fun x hg1 => ?_)
       obtain ⟨pre, rest, zm, zq, ks⟩ := x
       dsimp only at hg1 ⊢
       refine evc [] [] ?_
       refine sq (fun h8 h8p h8s => ?_) fun h8 h8p h8s => ?_
       ·try simp only [Q, Pat.cs_len] at h8p
        rcases rest with _ | ⟨y, rest⟩
        ·exfalso; simp_all
        have hni := ih y zm zq hg1.2.1 hg1.2.2.1; have hn1 := hni.1; have hn2 := hni.2.1; have hn3 := hni.2.2.1
        refine Walk.idx sl41 .none rfl rfl rfl rfl (Pat.cs_at' hg1.1) rfl ?_
        refine ev ?_
        refine Walk.call (cr := []) cal93 (spec_l3Name_fn hb n (p := y) (m := zm) (q := zq) (by have := hysz hg1.1; omega) (Pats.ok_mem hok'.2 y (by rw [← hg1.1]; simp)) (by omega) (by omega) (by have := hysz hg1.1; omega)) rfl .none rfl rfl (LeL.refl _) ⟨rfl, trivial⟩ rfl rfl rfl ?_
        refine ev ?_
        refine Walk.alloc (id := 3011) tz43 rfl .none rfl rfl rfl rfl ?_
        refine Walk.store ty43 .none rfl rfl rfl rfl rfl rfl (by simp) rfl ?_
        refine ev ?_
        refine Walk.sliceLit sl41 tz43 rfl (by decide) (ks := [0]) (xs := [_]) rfl rfl (by decide) (by decide) .none rfl rfl rfl rfl ?_
        refine Walk.append sl41 zz43 rfl .none rfl rfl rfl rfl (htokL rfl (by first | rfl | (simp; done) | (simp; omega))) (by simp) (by have hz := congrArg List.length hg1.1; simp at hz ⊢; omega) (by have hz := congrArg List.length hg1.1; simp at hz ⊢; omega) ?_
        refine ev ?_
        refine Walk.store ty41 .none rfl rfl rfl rfl rfl rfl (by simp) rfl ?_
        refine tv ?_
        refine ar ?_
        refine Exists.intro ((pre ++ [y], rest, (namP b n y zm zq).2.1, (namP b n y zm zq).2.2, ks ++ [(namP b n y zm zq).1])) ⟨⟨(by have hz := hg1.1; rw [← hz]; simp), ⟨by dsimp only; omega, by dsimp only; omega, (by rw [Pats.size_snoc]; dsimp only; omega), (by simp [hg1.2.2.2.2.1]), (by rw [← hg1.2.2.2.2.2]; simp [namL])⟩⟩, (by simp), Sub.x (by kernel_rfl) (by kernel_rfl) ⟨⟨_, rfl, (LeA.eqi (by first | rfl | (simp; done) | omega))⟩, ⟨⟨_, rfl, (LeA.eqi (by first | rfl | (simp; done) | omega))⟩, trivial⟩⟩ (by kernel_rfl) (by kernel_rfl) ⟨(by rfl), ⟨(by (simp [getH]; done)), ⟨beq_nat_eq (by (simp; done)), trivial⟩⟩⟩⟩
       ·try simp only [Q, Pat.cs_len] at h8p
        have hrest : rest = [] := by
         rcases rest with _ | ⟨a, b⟩
         ·rfl
         ·exfalso; have hz := congrArg List.length (hg1.1); simp only [List.length_append, List.length_cons, List.length_map] at hz; omega
        subst hrest
        refine sq (fun h9 h9p h9s => ?_) fun h9 h9p h9s => ?_
        ·try simp only [Q, Pat.cs_len] at h9p
         refine Walk.call (cr := []) cal48 (spec_pick_fn (p := zq) (n := 6) hb (by have e := hg1.1; rw [List.append_nil] at e; rw [← e] at hs; omega) (by omega)) rfl (.some rfl rfl h9) rfl rfl (LeL.refl _) ⟨rfl, trivial⟩ rfl rfl rfl ?_
         refine evs [] [(69, true)] ?_ ⟨⟨_, rfl, h9⟩, trivial⟩
         refine sq (fun h10 h10p h10s => ?_) fun h10 h10p h10s => ?_
         ·try simp only [Q, Pat.cs_len] at h10p
          refine Walk.sliceLit sl41 tz43 rfl (by decide) (ks := [0]) (xs := [_]) rfl rfl (by decide) (by decide) .none rfl rfl rfl rfl ?_
          refine Walk.build st43 (ks := [0, 4, 5]) (xs := [_, _, _]) rfl rfl .none rfl rfl rfl ?_
          refine ev ?_
          refine ar ?_
          refine Walk.store ty43 .none rfl rfl rfl rfl rfl rfl (by simp) rfl ?_
          refine ev ?_
          refine rn [(900, some (rdB b (namP b (n + 1) p m q).2.2))] (.cons (.cellA ty43 rfl rfl rfl) (.cons (.tmp rfl) .nil)) (.tup (.cons (.agg (.cons (.eqd ?_) (.cons (.eqd ?_) (.cons (.eqd ?_) (.cons (.eqd ?_) (.cons (.eqd ?_) (.cons (.eqd ?_) .nil))))))) (.cons (.eqd ?_) .nil))) ⟨rfl, rfl⟩ (SubO.get ⟨.inr (by first | (rw [nam_1 (by omega)]; all_goals first | rfl | (show _ = D.sl (Pat.cs _); rw [Pat.cs_cc]; all_goals rfl) | (show _ = Pat.cs _; rw [Pat.cs_cc]; all_goals rfl) | (show _ = D.sl [[D.i _, D.i _, D.i _, D.i _, D.i _, D.sl (Pat.cs _)]]; rw [Pat.cs_cc]; all_goals rfl)) | (rw [nam_2 (by omega) ⟨by omega, by omega⟩]; all_goals first | rfl | (show _ = D.sl (Pat.cs _); rw [Pat.cs_cc]; all_goals rfl) | (show _ = Pat.cs _; rw [Pat.cs_cc]; all_goals rfl) | (show _ = D.sl [[D.i _, D.i _, D.i _, D.i _, D.i _, D.sl (Pat.cs _)]]; rw [Pat.cs_cc]; all_goals rfl)) | (have hz : (ks, zm, zq) = namL (namP b n) p.kids m (if p.op = 1 then q + 1 else q) := (by rw [hqq]; exact namL_end hg1.2.2.2.2.2); rw [nam_3 (by omega) (fun hh => by omega) hz (by omega) (by omega)]; all_goals first | rfl | (show _ = D.sl (Pat.cs _); rw [Pat.cs_cc]; all_goals rfl) | (show _ = Pat.cs _; rw [Pat.cs_cc]; all_goals rfl) | (show _ = D.sl [[D.i _, D.i _, D.i _, D.i _, D.i _, D.sl (Pat.cs _)]]; rw [Pat.cs_cc]; all_goals rfl)) | (have hz : (ks, zm, zq) = namL (namP b n) p.kids m (if p.op = 1 then q + 1 else q) := (by rw [hqq]; exact namL_end hg1.2.2.2.2.2); rw [nam_4 (by omega) (fun hh => by omega) hz (by omega) (by omega)]; all_goals first | rfl | (show _ = D.sl (Pat.cs _); rw [Pat.cs_cc]; all_goals rfl) | (show _ = Pat.cs _; rw [Pat.cs_cc]; all_goals rfl) | (show _ = D.sl [[D.i _, D.i _, D.i _, D.i _, D.i _, D.sl (Pat.cs _)]]; rw [Pat.cs_cc]; all_goals rfl)) | (have hz : (ks, zm, zq) = namL (namP b n) p.kids m (if p.op = 1 then q + 1 else q) := (by rw [hqq]; exact namL_end hg1.2.2.2.2.2); rw [nam_5 (by omega) (fun hh => by omega) hz (by omega)]; all_goals first | rfl | (show _ = D.sl (Pat.cs _); rw [Pat.cs_cc]; all_goals rfl) | (show _ = Pat.cs _; rw [Pat.cs_cc]; all_goals rfl) | (show _ = D.sl [[D.i _, D.i _, D.i _, D.i _, D.i _, D.sl (Pat.cs _)]]; rw [Pat.cs_cc]; all_goals rfl))), ⟨.inl rfl, trivial⟩⟩) (boxOK rfl)
          all_goals (first | (rw [nam_1 (by omega)]; all_goals first | rfl | (show _ = D.sl (Pat.cs _); rw [Pat.cs_cc]; all_goals rfl) | (show _ = Pat.cs _; rw [Pat.cs_cc]; all_goals rfl) | (show _ = D.sl [[D.i _, D.i _, D.i _, D.i _, D.i _, D.sl (Pat.cs _)]]; rw [Pat.cs_cc]; all_goals rfl)) | (rw [nam_2 (by omega) ⟨by omega, by omega⟩]; all_goals first | rfl | (show _ = D.sl (Pat.cs _); rw [Pat.cs_cc]; all_goals rfl) | (show _ = Pat.cs _; rw [Pat.cs_cc]; all_goals rfl) | (show _ = D.sl [[D.i _, D.i _, D.i _, D.i _, D.i _, D.sl (Pat.cs _)]]; rw [Pat.cs_cc]; all_goals rfl)) | (have hz : (ks, zm, zq) = namL (namP b n) p.kids m (if p.op = 1 then q + 1 else q) := (by rw [hqq]; exact namL_end hg1.2.2.2.2.2); rw [nam_3 (by omega) (fun hh => by omega) hz (by omega) (by omega)]; all_goals first | rfl | (show _ = D.sl (Pat.cs _); rw [Pat.cs_cc]; all_goals rfl) | (show _ = Pat.cs _; rw [Pat.cs_cc]; all_goals rfl) | (show _ = D.sl [[D.i _, D.i _, D.i _, D.i _, D.i _, D.sl (Pat.cs _)]]; rw [Pat.cs_cc]; all_goals rfl)) | (have hz : (ks, zm, zq) = namL (namP b n) p.kids m (if p.op = 1 then q + 1 else q) := (by rw [hqq]; exact namL_end hg1.2.2.2.2.2); rw [nam_4 (by omega) (fun hh => by omega) hz (by omega) (by omega)]; all_goals first | rfl | (show _ = D.sl (Pat.cs _); rw [Pat.cs_cc]; all_goals rfl) | (show _ = Pat.cs _; rw [Pat.cs_cc]; all_goals rfl) | (show _ = D.sl [[D.i _, D.i _, D.i _, D.i _, D.i _, D.sl (Pat.cs _)]]; rw [Pat.cs_cc]; all_goals rfl)) | (have hz : (ks, zm, zq) = namL (namP b n) p.kids m (if p.op = 1 then q + 1 else q) := (by rw [hqq]; exact namL_end hg1.2.2.2.2.2); rw [nam_5 (by omega) (fun hh => by omega) hz (by omega)]; all_goals first | rfl | (show _ = D.sl (Pat.cs _); rw [Pat.cs_cc]; all_goals rfl) | (show _ = Pat.cs _; rw [Pat.cs_cc]; all_goals rfl) | (show _ = D.sl [[D.i _, D.i _, D.i _, D.i _, D.i _, D.sl (Pat.cs _)]]; rw [Pat.cs_cc]; all_goals rfl)))
         ·try simp only [Q, Pat.cs_len] at h10p
          refine Walk.store ty43 .none rfl rfl rfl rfl rfl rfl (by simp) rfl ?_
          refine ev ?_
          refine rn [(900, some (rdB b (namP b (n + 1) p m q).2.2))] (.cons (.cellA ty43 rfl rfl rfl) (.cons (.tmp rfl) .nil)) (.tup (.cons (.agg (.cons (.eqd ?_) (.cons (.eqd ?_) (.cons (.eqd ?_) (.cons (.eqd ?_) (.cons (.eqd ?_) (.cons (.gld ?_) .nil))))))) (.cons (.eqd ?_) .nil))) ⟨rfl, rfl⟩ (SubO.get ⟨.inr (by first | (rw [nam_1 (by omega)]; all_goals first | rfl | (show _ = D.sl (Pat.cs _); rw [Pat.cs_cc]; all_goals rfl) | (show _ = Pat.cs _; rw [Pat.cs_cc]; all_goals rfl) | (show _ = D.sl [[D.i _, D.i _, D.i _, D.i _, D.i _, D.sl (Pat.cs _)]]; rw [Pat.cs_cc]; all_goals rfl)) | (rw [nam_2 (by omega) ⟨by omega, by omega⟩]; all_goals first | rfl | (show _ = D.sl (Pat.cs _); rw [Pat.cs_cc]; all_goals rfl) | (show _ = Pat.cs _; rw [Pat.cs_cc]; all_goals rfl) | (show _ = D.sl [[D.i _, D.i _, D.i _, D.i _, D.i _, D.sl (Pat.cs _)]]; rw [Pat.cs_cc]; all_goals rfl)) | (have hz : (ks, zm, zq) = namL (namP b n) p.kids m (if p.op = 1 then q + 1 else q) := (by rw [hqq]; exact namL_end hg1.2.2.2.2.2); rw [nam_3 (by omega) (fun hh => by omega) hz (by omega) (by omega)]; all_goals first | rfl | (show _ = D.sl (Pat.cs _); rw [Pat.cs_cc]; all_goals rfl) | (show _ = Pat.cs _; rw [Pat.cs_cc]; all_goals rfl) | (show _ = D.sl [[D.i _, D.i _, D.i _, D.i _, D.i _, D.sl (Pat.cs _)]]; rw [Pat.cs_cc]; all_goals rfl)) | (have hz : (ks, zm, zq) = namL (namP b n) p.kids m (if p.op = 1 then q + 1 else q) := (by rw [hqq]; exact namL_end hg1.2.2.2.2.2); rw [nam_4 (by omega) (fun hh => by omega) hz (by omega) (by omega)]; all_goals first | rfl | (show _ = D.sl (Pat.cs _); rw [Pat.cs_cc]; all_goals rfl) | (show _ = Pat.cs _; rw [Pat.cs_cc]; all_goals rfl) | (show _ = D.sl [[D.i _, D.i _, D.i _, D.i _, D.i _, D.sl (Pat.cs _)]]; rw [Pat.cs_cc]; all_goals rfl)) | (have hz : (ks, zm, zq) = namL (namP b n) p.kids m (if p.op = 1 then q + 1 else q) := (by rw [hqq]; exact namL_end hg1.2.2.2.2.2); rw [nam_5 (by omega) (fun hh => by omega) hz (by omega)]; all_goals first | rfl | (show _ = D.sl (Pat.cs _); rw [Pat.cs_cc]; all_goals rfl) | (show _ = Pat.cs _; rw [Pat.cs_cc]; all_goals rfl) | (show _ = D.sl [[D.i _, D.i _, D.i _, D.i _, D.i _, D.sl (Pat.cs _)]]; rw [Pat.cs_cc]; all_goals rfl))), ⟨.inl rfl, trivial⟩⟩) (boxOK rfl)
          all_goals (first | (rw [nam_1 (by omega)]; all_goals first | rfl | (show _ = D.sl (Pat.cs _); rw [Pat.cs_cc]; all_goals rfl) | (show _ = Pat.cs _; rw [Pat.cs_cc]; all_goals rfl) | (show _ = D.sl [[D.i _, D.i _, D.i _, D.i _, D.i _, D.sl (Pat.cs _)]]; rw [Pat.cs_cc]; all_goals rfl)) | (rw [nam_2 (by omega) ⟨by omega, by omega⟩]; all_goals first | rfl | (show _ = D.sl (Pat.cs _); rw [Pat.cs_cc]; all_goals rfl) | (show _ = Pat.cs _; rw [Pat.cs_cc]; all_goals rfl) | (show _ = D.sl [[D.i _, D.i _, D.i _, D.i _, D.i _, D.sl (Pat.cs _)]]; rw [Pat.cs_cc]; all_goals rfl)) | (have hz : (ks, zm, zq) = namL (namP b n) p.kids m (if p.op = 1 then q + 1 else q) := (by rw [hqq]; exact namL_end hg1.2.2.2.2.2); rw [nam_3 (by omega) (fun hh => by omega) hz (by omega) (by omega)]; all_goals first | rfl | (show _ = D.sl (Pat.cs _); rw [Pat.cs_cc]; all_goals rfl) | (show _ = Pat.cs _; rw [Pat.cs_cc]; all_goals rfl) | (show _ = D.sl [[D.i _, D.i _, D.i _, D.i _, D.i _, D.sl (Pat.cs _)]]; rw [Pat.cs_cc]; all_goals rfl)) | (have hz : (ks, zm, zq) = namL (namP b n) p.kids m (if p.op = 1 then q + 1 else q) := (by rw [hqq]; exact namL_end hg1.2.2.2.2.2); rw [nam_4 (by omega) (fun hh => by omega) hz (by omega) (by omega)]; all_goals first | rfl | (show _ = D.sl (Pat.cs _); rw [Pat.cs_cc]; all_goals rfl) | (show _ = Pat.cs _; rw [Pat.cs_cc]; all_goals rfl) | (show _ = D.sl [[D.i _, D.i _, D.i _, D.i _, D.i _, D.sl (Pat.cs _)]]; rw [Pat.cs_cc]; all_goals rfl)) | (have hz : (ks, zm, zq) = namL (namP b n) p.kids m (if p.op = 1 then q + 1 else q) := (by rw [hqq]; exact namL_end hg1.2.2.2.2.2); rw [nam_5 (by omega) (fun hh => by omega) hz (by omega)]; all_goals first | rfl | (show _ = D.sl (Pat.cs _); rw [Pat.cs_cc]; all_goals rfl) | (show _ = Pat.cs _; rw [Pat.cs_cc]; all_goals rfl) | (show _ = D.sl [[D.i _, D.i _, D.i _, D.i _, D.i _, D.sl (Pat.cs _)]]; rw [Pat.cs_cc]; all_goals rfl)))
        ·try simp only [Q, Pat.cs_len] at h9p
         refine sqF ?_
         refine Walk.store ty43 .none rfl rfl rfl rfl rfl rfl (by simp) rfl ?_
         refine ev ?_
         refine rn [(900, some (rdB b (namP b (n + 1) p m q).2.2))] (.cons (.cellA ty43 rfl rfl rfl) (.cons (.tmp rfl) .nil)) (.tup (.cons (.agg (.cons (.eqd ?_) (.cons (.eqd ?_) (.cons (.eqd ?_) (.cons (.eqd ?_) (.cons (.eqd ?_) (.cons (.gld ?_) .nil))))))) (.cons (.eqd ?_) .nil))) ⟨rfl, rfl⟩ (SubO.get ⟨.inr (by first | (rw [nam_1 (by omega)]; all_goals first | rfl | (show _ = D.sl (Pat.cs _); rw [Pat.cs_cc]; all_goals rfl) | (show _ = Pat.cs _; rw [Pat.cs_cc]; all_goals rfl) | (show _ = D.sl [[D.i _, D.i _, D.i _, D.i _, D.i _, D.sl (Pat.cs _)]]; rw [Pat.cs_cc]; all_goals rfl)) | (rw [nam_2 (by omega) ⟨by omega, by omega⟩]; all_goals first | rfl | (show _ = D.sl (Pat.cs _); rw [Pat.cs_cc]; all_goals rfl) | (show _ = Pat.cs _; rw [Pat.cs_cc]; all_goals rfl) | (show _ = D.sl [[D.i _, D.i _, D.i _, D.i _, D.i _, D.sl (Pat.cs _)]]; rw [Pat.cs_cc]; all_goals rfl)) | (have hz : (ks, zm, zq) = namL (namP b n) p.kids m (if p.op = 1 then q + 1 else q) := (by rw [hqq]; exact namL_end hg1.2.2.2.2.2); rw [nam_3 (by omega) (fun hh => by omega) hz (by omega) (by omega)]; all_goals first | rfl | (show _ = D.sl (Pat.cs _); rw [Pat.cs_cc]; all_goals rfl) | (show _ = Pat.cs _; rw [Pat.cs_cc]; all_goals rfl) | (show _ = D.sl [[D.i _, D.i _, D.i _, D.i _, D.i _, D.sl (Pat.cs _)]]; rw [Pat.cs_cc]; all_goals rfl)) | (have hz : (ks, zm, zq) = namL (namP b n) p.kids m (if p.op = 1 then q + 1 else q) := (by rw [hqq]; exact namL_end hg1.2.2.2.2.2); rw [nam_4 (by omega) (fun hh => by omega) hz (by omega) (by omega)]; all_goals first | rfl | (show _ = D.sl (Pat.cs _); rw [Pat.cs_cc]; all_goals rfl) | (show _ = Pat.cs _; rw [Pat.cs_cc]; all_goals rfl) | (show _ = D.sl [[D.i _, D.i _, D.i _, D.i _, D.i _, D.sl (Pat.cs _)]]; rw [Pat.cs_cc]; all_goals rfl)) | (have hz : (ks, zm, zq) = namL (namP b n) p.kids m (if p.op = 1 then q + 1 else q) := (by rw [hqq]; exact namL_end hg1.2.2.2.2.2); rw [nam_5 (by omega) (fun hh => by omega) hz (by omega)]; all_goals first | rfl | (show _ = D.sl (Pat.cs _); rw [Pat.cs_cc]; all_goals rfl) | (show _ = Pat.cs _; rw [Pat.cs_cc]; all_goals rfl) | (show _ = D.sl [[D.i _, D.i _, D.i _, D.i _, D.i _, D.sl (Pat.cs _)]]; rw [Pat.cs_cc]; all_goals rfl))), ⟨.inl rfl, trivial⟩⟩) (boxOK rfl)
         all_goals (first | (rw [nam_1 (by omega)]; all_goals first | rfl | (show _ = D.sl (Pat.cs _); rw [Pat.cs_cc]; all_goals rfl) | (show _ = Pat.cs _; rw [Pat.cs_cc]; all_goals rfl) | (show _ = D.sl [[D.i _, D.i _, D.i _, D.i _, D.i _, D.sl (Pat.cs _)]]; rw [Pat.cs_cc]; all_goals rfl)) | (rw [nam_2 (by omega) ⟨by omega, by omega⟩]; all_goals first | rfl | (show _ = D.sl (Pat.cs _); rw [Pat.cs_cc]; all_goals rfl) | (show _ = Pat.cs _; rw [Pat.cs_cc]; all_goals rfl) | (show _ = D.sl [[D.i _, D.i _, D.i _, D.i _, D.i _, D.sl (Pat.cs _)]]; rw [Pat.cs_cc]; all_goals rfl)) | (have hz : (ks, zm, zq) = namL (namP b n) p.kids m (if p.op = 1 then q + 1 else q) := (by rw [hqq]; exact namL_end hg1.2.2.2.2.2); rw [nam_3 (by omega) (fun hh => by omega) hz (by omega) (by omega)]; all_goals first | rfl | (show _ = D.sl (Pat.cs _); rw [Pat.cs_cc]; all_goals rfl) | (show _ = Pat.cs _; rw [Pat.cs_cc]; all_goals rfl) | (show _ = D.sl [[D.i _, D.i _, D.i _, D.i _, D.i _, D.sl (Pat.cs _)]]; rw [Pat.cs_cc]; all_goals rfl)) | (have hz : (ks, zm, zq) = namL (namP b n) p.kids m (if p.op = 1 then q + 1 else q) := (by rw [hqq]; exact namL_end hg1.2.2.2.2.2); rw [nam_4 (by omega) (fun hh => by omega) hz (by omega) (by omega)]; all_goals first | rfl | (show _ = D.sl (Pat.cs _); rw [Pat.cs_cc]; all_goals rfl) | (show _ = Pat.cs _; rw [Pat.cs_cc]; all_goals rfl) | (show _ = D.sl [[D.i _, D.i _, D.i _, D.i _, D.i _, D.sl (Pat.cs _)]]; rw [Pat.cs_cc]; all_goals rfl)) | (have hz : (ks, zm, zq) = namL (namP b n) p.kids m (if p.op = 1 then q + 1 else q) := (by rw [hqq]; exact namL_end hg1.2.2.2.2.2); rw [nam_5 (by omega) (fun hh => by omega) hz (by omega)]; all_goals first | rfl | (show _ = D.sl (Pat.cs _); rw [Pat.cs_cc]; all_goals rfl) | (show _ = Pat.cs _; rw [Pat.cs_cc]; all_goals rfl) | (show _ = D.sl [[D.i _, D.i _, D.i _, D.i _, D.i _, D.sl (Pat.cs _)]]; rw [Pat.cs_cc]; all_goals rfl)))
     ·try simp only [Q, Pat.cs_len] at h6p
      refine sqF ?_
      refine Walk.alloc (id := 3008) tz43 rfl .none rfl rfl rfl rfl ?_
      refine Walk.store ty43 .none rfl rfl rfl rfl rfl rfl (by simp) rfl ?_
      refine tv ?_
      refine Walk.store ty41 .none rfl rfl rfl rfl rfl rfl (by simp) rfl ?_
      refine tv ?_
      refine CWp.tokB 3008 5 1 6 rfl rfl rfl rfl ?_
      refine CWp.loopX (ι := List (Pat) × List (Pat) × (Int) × (Nat) × (List Pat)) hk (fun x => [(10, .d (.i (x.1.length : Int))), (9, .d (.i x.2.2.1))]) [11, 12, 42, 43, 44, 45, 46, 47, 48, 49, 50, 51, 52, 53, 54, 55, 56, 57, 58, 59, 60, 61, 62, 63, 64, 65, 66] (fun x => [(900, some (.box [.d (encBytes b), .d (.i (x.2.2.2.1 : Int))])), (3008, some (.box [.d (.i p.op), .d (.i p.ctor), .d (.i p.n), .d (.i p.m), .d (.i p.var), .gl 1 (x.2.2.2.2.map Pat.cc)])), (1, some (.tok (x.2.2.2.2.map Pat.cc).length 6))]) (fun x => x.1 ++ x.2.1 = p.kids ∧ 0 ≤ x.2.2.1 ∧ x.2.2.1 ≤ 6 ∧ x.2.2.2.1 ≤ q1 + 2 * Pats.size x.1 ∧ x.2.2.2.2.length = x.1.length ∧ (x.2.2.2.2 ++ (namL (namP b n) x.2.1 x.2.2.1 x.2.2.2.1).1, (namL (namP b n) x.2.1 x.2.2.1 x.2.2.2.1).2) = namL (namP b n) p.kids m q1) (fun x => x.2.1.length) ([], p.kids, m, q1, []) ⟨by simp, by simpa using k0, by simpa using k6, by simp [Pats.size], by simp, by simp⟩ ⟨⟨_, rfl, (LeA.eqi (by first | rfl | (simp; done) | omega))⟩, ⟨⟨_, rfl, (LeA.eqi (by first | rfl | (simp; done) | omega))⟩, trivial⟩⟩ ⟨(by first | rfl | (simp [getH]; done) | (show some (Res.box _) = some (Res.box _); rw [hqa (by omega)]; all_goals rfl) | (show some (Res.box _) = some (Res.box _); rw [hqb (by omega)]; all_goals rfl)), ⟨(by first | rfl | (simp [getH]; done) | (show some (Res.box _) = some (Res.box _); rw [hqa (by omega)]; all_goals rfl) | (show some (Res.box _) = some (Res.box _); rw [hqb (by omega)]; all_goals rfl)), ⟨beq_nat_eq (by first | rfl | (simp; done) | (simp; omega) | (first | rfl | (simp; done) | omega)), trivial⟩⟩⟩ (fun x => rfl) (fun x hg1 => ?_)
      obtain ⟨pre, rest, zm, zq, ks⟩ := x
      dsimp only at hg1 ⊢
      refine evc [] [] ?_
      refine sq (fun h13 h13p h13s => ?_) fun h13 h13p h13s => ?_
      ·try simp only [Q, Pat.cs_len] at h13p
       rcases rest with _ | ⟨y, rest⟩
       ·exfalso; simp_all
       have hni := ih y zm zq hg1.2.1 hg1.2.2.1; have hn1 := hni.1; have hn2 := hni.2.1; have hn3 := hni.2.2.1
       refine Walk.idx sl41 .none rfl rfl rfl rfl (Pat.cs_at' hg1.1) rfl ?_
       refine ev ?_
       refine Walk.call (cr := []) cal93 (spec_l3Name_fn hb n (p := y) (m := zm) (q := zq) (by have := hysz hg1.1; omega) (Pats.ok_mem hok'.2 y (by rw [← hg1.1]; simp)) (by omega) (by omega) (by have := hysz hg1.1; omega)) rfl .none rfl rfl (LeL.refl _) ⟨rfl, trivial⟩ rfl rfl rfl ?_
       refine ev ?_
       refine Walk.alloc (id := 3011) tz43 rfl .none rfl rfl rfl rfl ?_
       refine Walk.store ty43 .none rfl rfl rfl rfl rfl rfl (by simp) rfl ?_
       refine ev ?_
       refine Walk.sliceLit sl41 tz43 rfl (by decide) (ks := [0]) (xs := [_]) rfl rfl (by decide) (by decide) .none rfl rfl rfl rfl ?_
       refine Walk.append sl41 zz43 rfl .none rfl rfl rfl rfl (htokL rfl (by first | rfl | (simp; done) | (simp; omega))) (by simp) (by have hz := congrArg List.length hg1.1; simp at hz ⊢; omega) (by have hz := congrArg List.length hg1.1; simp at hz ⊢; omega) ?_
       refine ev ?_
       refine Walk.store ty41 .none rfl rfl rfl rfl rfl rfl (by simp) rfl ?_
       refine tv ?_
       refine ar ?_
       refine Exists.intro ((pre ++ [y], rest, (namP b n y zm zq).2.1, (namP b n y zm zq).2.2, ks ++ [(namP b n y zm zq).1])) ⟨⟨(by have hz := hg1.1; rw [← hz]; simp), ⟨by dsimp only; omega, by dsimp only; omega, (by rw [Pats.size_snoc]; dsimp only; omega), (by simp [hg1.2.2.2.2.1]), (by rw [← hg1.2.2.2.2.2]; simp [namL])⟩⟩, (by simp), Sub.x (by kernel_rfl) (by kernel_rfl) ⟨⟨_, rfl, (LeA.eqi (by first | rfl | (simp; done) | omega))⟩, ⟨⟨_, rfl, (LeA.eqi (by first | rfl | (simp; done) | omega))⟩, trivial⟩⟩ (by kernel_rfl) (by kernel_rfl) ⟨(by rfl), ⟨(by (simp [getH]; done)), ⟨beq_nat_eq (by (simp; done)), trivial⟩⟩⟩⟩
      ·try simp only [Q, Pat.cs_len] at h13p
       have hrest : rest = [] := by
        rcases rest with _ | ⟨a, b⟩
        ·rfl
        ·exfalso; have hz := congrArg List.length (hg1.1); simp only [List.length_append, List.length_cons, List.length_map] at hz; omega
       subst hrest
       refine sq (fun h14 h14p h14s => ?_) fun h14 h14p h14s => ?_
       ·try simp only [Q, Pat.cs_len] at h14p
        refine Walk.call (cr := []) cal48 (spec_pick_fn (p := zq) (n := 6) hb (by have e := hg1.1; rw [List.append_nil] at e; rw [← e] at hs; omega) (by omega)) rfl (.some rfl rfl h14) rfl rfl (LeL.refl _) ⟨rfl, trivial⟩ rfl rfl rfl ?_
        refine evs [] [(69, true)] ?_ ⟨⟨_, rfl, h14⟩, trivial⟩
        refine sq (fun h15 h15p h15s => ?_) fun h15 h15p h15s => ?_
        ·try simp only [Q, Pat.cs_len] at h15p
         refine Walk.sliceLit sl41 tz43 rfl (by decide) (ks := [0]) (xs := [_]) rfl rfl (by decide) (by decide) .none rfl rfl rfl rfl ?_
         refine Walk.build st43 (ks := [0, 4, 5]) (xs := [_, _, _]) rfl rfl .none rfl rfl rfl ?_
         refine ev ?_
         refine ar ?_
         refine Walk.store ty43 .none rfl rfl rfl rfl rfl rfl (by simp) rfl ?_
         refine ev ?_
         refine rn [(900, some (rdB b (namP b (n + 1) p m q).2.2))] (.cons (.cellA ty43 rfl rfl rfl) (.cons (.tmp rfl) .nil)) (.tup (.cons (.agg (.cons (.eqd ?_) (.cons (.eqd ?_) (.cons (.eqd ?_) (.cons (.eqd ?_) (.cons (.eqd ?_) (.cons (.eqd ?_) .nil))))))) (.cons (.eqd ?_) .nil))) ⟨rfl, rfl⟩ (SubO.get ⟨.inr (by first | (rw [nam_1 (by omega)]; all_goals first | rfl | (show _ = D.sl (Pat.cs _); rw [Pat.cs_cc]; all_goals rfl) | (show _ = Pat.cs _; rw [Pat.cs_cc]; all_goals rfl) | (show _ = D.sl [[D.i _, D.i _, D.i _, D.i _, D.i _, D.sl (Pat.cs _)]]; rw [Pat.cs_cc]; all_goals rfl)) | (rw [nam_2 (by omega) ⟨by omega, by omega⟩]; all_goals first | rfl | (show _ = D.sl (Pat.cs _); rw [Pat.cs_cc]; all_goals rfl) | (show _ = Pat.cs _; rw [Pat.cs_cc]; all_goals rfl) | (show _ = D.sl [[D.i _, D.i _, D.i _, D.i _, D.i _, D.sl (Pat.cs _)]]; rw [Pat.cs_cc]; all_goals rfl)) | (have hz : (ks, zm, zq) = namL (namP b n) p.kids m (if p.op = 1 then q + 1 else q) := (by rw [hqq]; exact namL_end hg1.2.2.2.2.2); rw [nam_3 (by omega) (fun hh => by omega) hz (by omega) (by omega)]; all_goals first | rfl | (show _ = D.sl (Pat.cs _); rw [Pat.cs_cc]; all_goals rfl) | (show _ = Pat.cs _; rw [Pat.cs_cc]; all_goals rfl) | (show _ = D.sl [[D.i _, D.i _, D.i _, D.i _, D.i _, D.sl (Pat.cs _)]]; rw [Pat.cs_cc]; all_goals rfl)) | (have hz : (ks, zm, zq) = namL (namP b n) p.kids m (if p.op = 1 then q + 1 else q) := (by rw [hqq]; exact namL_end hg1.2.2.2.2.2); rw [nam_4 (by omega) (fun hh => by omega) hz (by omega) (by omega)]; all_goals first | rfl | (show _ = D.sl (Pat.cs _); rw [Pat.cs_cc]; all_goals rfl) | (show _ = Pat.cs _; rw [Pat.cs_cc]; all_goals rfl) | (show _ = D.sl [[D.i _, D.i _, D.i _, D.i _, D.i _, D.sl (Pat.cs _)]]; rw [Pat.cs_cc]; all_goals rfl)) | (have hz : (ks, zm, zq) = namL (namP b n) p.kids m (if p.op = 1 then q + 1 else q) := (by rw [hqq]; exact namL_end hg1.2.2.2.2.2); rw [nam_5 (by omega) (fun hh => by omega) hz (by omega)]; all_goals first | rfl | (show _ = D.sl (Pat.cs _); rw [Pat.cs_cc]; all_goals rfl) | (show _ = Pat.cs _; rw [Pat.cs_cc]; all_goals rfl) | (show _ = D.sl [[D.i _, D.i _, D.i _, D.i _, D.i _, D.sl (Pat.cs _)]]; rw [Pat.cs_cc]; all_goals rfl))), ⟨.inl rfl, trivial⟩⟩) (boxOK rfl)
         all_goals (first | (rw [nam_1 (by omega)]; all_goals first | rfl | (show _ = D.sl (Pat.cs _); rw [Pat.cs_cc]; all_goals rfl) | (show _ = Pat.cs _; rw [Pat.cs_cc]; all_goals rfl) | (show _ = D.sl [[D.i _, D.i _, D.i _, D.i _, D.i _, D.sl (Pat.cs _)]]; rw [Pat.cs_cc]; all_goals rfl)) | (rw [nam_2 (by omega) ⟨by omega, by omega⟩]; all_goals first | rfl | (show _ = D.sl (Pat.cs _); rw [Pat.cs_cc]; all_goals rfl) | (show _ = Pat.cs _; rw [Pat.cs_cc]; all_goals rfl) | (show _ = D.sl [[D.i _, D.i _, D.i _, D.i _, D.i _, D.sl (Pat.cs _)]]; rw [Pat.cs_cc]; all_goals rfl)) | (have hz : (ks, zm, zq) = namL (namP b n) p.kids m (if p.op = 1 then q + 1 else q) := (by rw [hqq]; exact namL_end hg1.2.2.2.2.2); rw [nam_3 (by omega) (fun hh => by omega) hz (by omega) (by omega)]; all_goals first | rfl | (show _ = D.sl (Pat.cs _); rw [Pat.cs_cc]; all_goals rfl) | (show _ = Pat.cs _; rw [Pat.cs_cc]; all_goals rfl) | (show _ = D.sl [[D.i _, D.i _, D.i _, D.i _, D.i _, D.sl (Pat.cs _)]]; rw [Pat.cs_cc]; all_goals rfl)) | (have hz : (ks, zm, zq) = namL (namP b n) p.kids m (if p.op = 1 then q + 1 else q) := (by rw [hqq]; exact namL_end hg1.2.2.2.2.2); rw [nam_4 (by omega) (fun hh => by omega) hz (by omega) (by omega)]; all_goals first | rfl | (show _ = D.sl (Pat.cs _); rw [Pat.cs_cc]; all_goals rfl) | (show _ = Pat.cs _; rw [Pat.cs_cc]; all_goals rfl) | (show _ = D.sl [[D.i _, D.i _, D.i _, D.i _, D.i _, D.sl (Pat.cs _)]]; rw [Pat.cs_cc]; all_goals rfl)) | (have hz : (ks, zm, zq) = namL (namP b n) p.kids m (if p.op = 1 then q + 1 else q) := (by rw [hqq]; exact namL_end hg1.2.2.2.2.2); rw [nam_5 (by omega) (fun hh => by omega) hz (by omega)]; all_goals first | rfl | (show _ = D.sl (Pat.cs _); rw [Pat.cs_cc]; all_goals rfl) | (show _ = Pat.cs _; rw [Pat.cs_cc]; all_goals rfl) | (show _ = D.sl [[D.i _, D.i _, D.i _, D.i _, D.i _, D.sl (Pat.cs _)]]; rw [Pat.cs_cc]; all_goals rfl)))
        ·try simp only [Q, Pat.cs_len] at h15p
         refine Walk.store ty43 .none rfl rfl rfl rfl rfl rfl (by simp) rfl ?_
         refine ev ?_
         refine rn [(900, some (rdB b (namP b (n + 1) p m q).2.2))] (.cons (.cellA ty43 rfl rfl rfl) (.cons (.tmp rfl) .nil)) (.tup (.cons (.agg (.cons (.eqd ?_) (.cons (.eqd ?_) (.cons (.eqd ?_) (.cons (.eqd ?_) (.cons (.eqd ?_) (.cons (.gld ?_) .nil))))))) (.cons (.eqd ?_) .nil))) ⟨rfl, rfl⟩ (SubO.get ⟨.inr (by first | (rw [nam_1 (by omega)]; all_goals first | rfl | (show _ = D.sl (Pat.cs _); rw [Pat.cs_cc]; all_goals rfl) | (show _ = Pat.cs _; rw [Pat.cs_cc]; all_goals rfl) | (show _ = D.sl [[D.i _, D.i _, D.i _, D.i _, D.i _, D.sl (Pat.cs _)]]; rw [Pat.cs_cc]; all_goals rfl)) | (rw [nam_2 (by omega) ⟨by omega, by omega⟩]; all_goals first | rfl | (show _ = D.sl (Pat.cs _); rw [Pat.cs_cc]; all_goals rfl) | (show _ = Pat.cs _; rw [Pat.cs_cc]; all_goals rfl) | (show _ = D.sl [[D.i _, D.i _, D.i _, D.i _, D.i _, D.sl (Pat.cs _)]]; rw [Pat.cs_cc]; all_goals rfl)) | (have hz : (ks, zm, zq) = namL (namP b n) p.kids m (if p.op = 1 then q + 1 else q) := (by rw [hqq]; exact namL_end hg1.2.2.2.2.2); rw [nam_3 (by omega) (fun hh => by omega) hz (by omega) (by omega)]; all_goals first | rfl | (show _ = D.sl (Pat.cs _); rw [Pat.cs_cc]; all_goals rfl) | (show _ = Pat.cs _; rw [Pat.cs_cc]; all_goals rfl) | (show _ = D.sl [[D.i _, D.i _, D.i _, D.i _, D.i _, D.sl (Pat.cs _)]]; rw [Pat.cs_cc]; all_goals rfl)) | (have hz : (ks, zm, zq) = namL (namP b n) p.kids m (if p.op = 1 then q + 1 else q) := (by rw [hqq]; exact namL_end hg1.2.2.2.2.2); rw [nam_4 (by omega) (fun hh => by omega) hz (by omega) (by omega)]; all_goals first | rfl | (show _ = D.sl (Pat.cs _); rw [Pat.cs_cc]; all_goals rfl) | (show _ = Pat.cs _; rw [Pat.cs_cc]; all_goals rfl) | (show _ = D.sl [[D.i _, D.i _, D.i _, D.i _, D.i _, D.sl (Pat.cs _)]]; rw [Pat.cs_cc]; all_goals rfl)) | (have hz : (ks, zm, zq) = namL (namP b n) p.kids m (if p.op = 1 then q + 1 else q) := (by rw [hqq]; exact namL_end hg1.2.2.2.2.2); rw [nam_5 (by omega) (fun hh => by omega) hz (by omega)]; all_goals first | rfl | (show _ = D.sl (Pat.cs _); rw [Pat.cs_cc]; all_goals rfl) | (show _ = Pat.cs _; rw [Pat.cs_cc]; all_goals rfl) | (show _ = D.sl [[D.i _, D.i _, D.i _, D.i _, D.i _, D.sl (Pat.cs _)]]; rw [Pat.cs_cc]; all_goals rfl))), ⟨.inl rfl, trivial⟩⟩) (boxOK rfl)
         all_goals (first | (rw [nam_1 (by omega)]; all_goals first | rfl | (show _ = D.sl (Pat.cs _); rw [Pat.cs_cc]; all_goals rfl) | (show _ = Pat.cs _; rw [Pat.cs_cc]; all_goals rfl) | (show _ = D.sl [[D.i _, D.i _, D.i _, D.i _, D.i _, D.sl (Pat.cs _)]]; rw [Pat.cs_cc]; all_goals rfl)) | (rw [nam_2 (by omega) ⟨by omega, by omega⟩]; all_goals first | rfl | (show _ = D.sl (Pat.cs _); rw [Pat.cs_cc]; all_goals rfl) | (show _ = Pat.cs _; rw [Pat.cs_cc]; all_goals rfl) | (show _ = D.sl [[D.i _, D.i _, D.i _, D.i _, D.i _, D.sl (Pat.cs _)]]; rw [Pat.cs_cc]; all_goals rfl)) | (have hz : (ks, zm, zq) = namL (namP b n) p.kids m (if p.op = 1 then q + 1 else q) := (by rw [hqq]; exact namL_end hg1.2.2.2.2.2); rw [nam_3 (by omega) (fun hh => by omega) hz (by omega) (by omega)]; all_goals first | rfl | (show _ = D.sl (Pat.cs _); rw [Pat.cs_cc]; all_goals rfl) | (show _ = Pat.cs _; rw [Pat.cs_cc]; all_goals rfl) | (show _ = D.sl [[D.i _, D.i _, D.i _, D.i _, D.i _, D.sl (Pat.cs _)]]; rw [Pat.cs_cc]; all_goals rfl)) | (have hz : (ks, zm, zq) = namL (namP b n) p.kids m (if p.op = 1 then q + 1 else q) := (by rw [hqq]; exact namL_end hg1.2.2.2.2.2); rw [nam_4 (by omega) (fun hh => by omega) hz (by omega) (by omega)]; all_goals first | rfl | (show _ = D.sl (Pat.cs _); rw [Pat.cs_cc]; all_goals rfl) | (show _ = Pat.cs _; rw [Pat.cs_cc]; all_goals rfl) | (show _ = D.sl [[D.i _, D.i _, D.i _, D.i _, D.i _, D.sl (Pat.cs _)]]; rw [Pat.cs_cc]; all_goals rfl)) | (have hz : (ks, zm, zq) = namL (namP b n) p.kids m (if p.op = 1 then q + 1 else q) := (by rw [hqq]; exact namL_end hg1.2.2.2.2.2); rw [nam_5 (by omega) (fun hh => by omega) hz (by omega)]; all_goals first | rfl | (show _ = D.sl (Pat.cs _); rw [Pat.cs_cc]; all_goals rfl) | (show _ = Pat.cs _; rw [Pat.cs_cc]; all_goals rfl) | (show _ = D.sl [[D.i _, D.i _, D.i _, D.i _, D.i _, D.sl (Pat.cs _)]]; rw [Pat.cs_cc]; all_goals rfl)))
       ·try simp only [Q, Pat.cs_len] at h14p
        refine sqF ?_
        refine Walk.store ty43 .none rfl rfl rfl rfl rfl rfl (by simp) rfl ?_
        refine ev ?_
        refine rn [(900, some (rdB b (namP b (n + 1) p m q).2.2))] (.cons (.cellA ty43 rfl rfl rfl) (.cons (.tmp rfl) .nil)) (.tup (.cons (.agg (.cons (.eqd ?_) (.cons (.eqd ?_) (.cons (.eqd ?_) (.cons (.eqd ?_) (.cons (.eqd ?_) (.cons (.gld ?_) .nil))))))) (.cons (.eqd ?_) .nil))) ⟨rfl, rfl⟩ (SubO.get ⟨.inr (by first | (rw [nam_1 (by omega)]; all_goals first | rfl | (show _ = D.sl (Pat.cs _); rw [Pat.cs_cc]; all_goals rfl) | (show _ = Pat.cs _; rw [Pat.cs_cc]; all_goals rfl) | (show _ = D.sl [[D.i _, D.i _, D.i _, D.i _, D.i _, D.sl (Pat.cs _)]]; rw [Pat.cs_cc]; all_goals rfl)) | (rw [nam_2 (by omega) ⟨by omega, by omega⟩]; all_goals first | rfl | (show _ = D.sl (Pat.cs _); rw [Pat.cs_cc]; all_goals rfl) | (show _ = Pat.cs _; rw [Pat.cs_cc]; all_goals rfl) | (show _ = D.sl [[D.i _, D.i _, D.i _, D.i _, D.i _, D.sl (Pat.cs _)]]; rw [Pat.cs_cc]; all_goals rfl)) | (have hz : (ks, zm, zq) = namL (namP b n) p.kids m (if p.op = 1 then q + 1 else q) := (by rw [hqq]; exact namL_end hg1.2.2.2.2.2); rw [nam_3 (by omega) (fun hh => by omega) hz (by omega) (by omega)]; all_goals first | rfl | (show _ = D.sl (Pat.cs _); rw [Pat.cs_cc]; all_goals rfl) | (show _ = Pat.cs _; rw [Pat.cs_cc]; all_goals rfl) | (show _ = D.sl [[D.i _, D.i _, D.i _, D.i _, D.i _, D.sl (Pat.cs _)]]; rw [Pat.cs_cc]; all_goals rfl)) | (have hz : (ks, zm, zq) = namL (namP b n) p.kids m (if p.op = 1 then q + 1 else q) := (by rw [hqq]; exact namL_end hg1.2.2.2.2.2); rw [nam_4 (by omega) (fun hh => by omega) hz (by omega) (by omega)]; all_goals first | rfl | (show _ = D.sl (Pat.cs _); rw [Pat.cs_cc]; all_goals rfl) | (show _ = Pat.cs _; rw [Pat.cs_cc]; all_goals rfl) | (show _ = D.sl [[D.i _, D.i _, D.i _, D.i _, D.i _, D.sl (Pat.cs _)]]; rw [Pat.cs_cc]; all_goals rfl)) | (have hz : (ks, zm, zq) = namL (namP b n) p.kids m (if p.op = 1 then q + 1 else q) := (by rw [hqq]; exact namL_end hg1.2.2.2.2.2); rw [nam_5 (by omega) (fun hh => by omega) hz (by omega)]; all_goals first | rfl | (show _ = D.sl (Pat.cs _); rw [Pat.cs_cc]; all_goals rfl) | (show _ = Pat.cs _; rw [Pat.cs_cc]; all_goals rfl) | (show _ = D.sl [[D.i _, D.i _, D.i _, D.i _, D.i _, D.sl (Pat.cs _)]]; rw [Pat.cs_cc]; all_goals rfl))), ⟨.inl rfl, trivial⟩⟩) (boxOK rfl)
        all_goals (first | (rw [nam_1 (by omega)]; all_goals first | rfl | (show _ = D.sl (Pat.cs _); rw [Pat.cs_cc]; all_goals rfl) | (show _ = Pat.cs _; rw [Pat.cs_cc]; all_goals rfl) | (show _ = D.sl [[D.i _, D.i _, D.i _, D.i _, D.i _, D.sl (Pat.cs _)]]; rw [Pat.cs_cc]; all_goals rfl)) | (rw [nam_2 (by omega) ⟨by omega, by omega⟩]; all_goals first | rfl | (show _ = D.sl (Pat.cs _); rw [Pat.cs_cc]; all_goals rfl) | (show _ = Pat.cs _; rw [Pat.cs_cc]; all_goals rfl) | (show _ = D.sl [[D.i _, D.i _, D.i _, D.i _, D.i _, D.sl (Pat.cs _)]]; rw [Pat.cs_cc]; all_goals rfl)) | (have hz : (ks, zm, zq) = namL (namP b n) p.kids m (if p.op = 1 then q + 1 else q) := (by rw [hqq]; exact namL_end hg1.2.2.2.2.2); rw [nam_3 (by omega) (fun hh => by omega) hz (by omega) (by omega)]; all_goals first | rfl | (show _ = D.sl (Pat.cs _); rw [Pat.cs_cc]; all_goals rfl) | (show _ = Pat.cs _; rw [Pat.cs_cc]; all_goals rfl) | (show _ = D.sl [[D.i _, D.i _, D.i _, D.i _, D.i _, D.sl (Pat.cs _)]]; rw [Pat.cs_cc]; all_goals rfl)) | (have hz : (ks, zm, zq) = namL (namP b n) p.kids m (if p.op = 1 then q + 1 else q) := (by rw [hqq]; exact namL_end hg1.2.2.2.2.2); rw [nam_4 (by omega) (fun hh => by omega) hz (by omega) (by omega)]; all_goals first | rfl | (show _ = D.sl (Pat.cs _); rw [Pat.cs_cc]; all_goals rfl) | (show _ = Pat.cs _; rw [Pat.cs_cc]; all_goals rfl) | (show _ = D.sl [[D.i _, D.i _, D.i _, D.i _, D.i _, D.sl (Pat.cs _)]]; rw [Pat.cs_cc]; all_goals rfl)) | (have hz : (ks, zm, zq) = namL (namP b n) p.kids m (if p.op = 1 then q + 1 else q) := (by rw [hqq]; exact namL_end hg1.2.2.2.2.2); rw [nam_5 (by omega) (fun hh => by omega) hz (by omega)]; all_goals first | rfl | (show _ = D.sl (Pat.cs _); rw [Pat.cs_cc]; all_goals rfl) | (show _ = Pat.cs _; rw [Pat.cs_cc]; all_goals rfl) | (show _ = D.sl [[D.i _, D.i _, D.i _, D.i _, D.i _, D.sl (Pat.cs _)]]; rw [Pat.cs_cc]; all_goals rfl)))
def szP : Nat → Nat
 | 0 => 1
 | d + 1 => 1 + 3 * szP d
theorem szP_pos (d : Nat) : 1 ≤ szP d := by cases d <;> simp only [szP] <;> omega
theorem anyP_sz : anyP.size = 1 ∧ anyP.ok := ⟨by rw [Pat.size_eq]; rfl, by rw [Pat.ok_iff]; exact ⟨by simp [anyP, Pat.kids], trivial⟩⟩
theorem dA_sz {f : Ty → Nat → Pat × Nat} {k : Nat} : ∀ (l : List Ty) (q : Nat), (∀ t ∈ l, ∀ q, (f t q).1.size ≤ k ∧ (f t q).1.ok) → Pats.size (dA f l q).1 ≤ l.length * k ∧ Pats.ok (dA f l q).1
 | [], q, _ => by simp [dA, Pats.size, Pats.ok]
 | t :: r, q, h => by
  have h1 := h t (by simp) q
  have h2 := dA_sz r (f t q).2 (fun x hx => h x (by simp [hx]))
  simp only [dA, List.length_cons, Nat.add_mul, Pats.size]
  exact ⟨by omega, h1.2, h2.2⟩
theorem drawP_sz {b : Str} {w : List Data} (hf : Few w) : ∀ (d : Nat) (t : Ty) (p : Nat), TyIn w.length t → (drawP b w d t p).1.size ≤ szP d ∧ (drawP b w d t p).1.ok
 | 0, t, p, _ => by simp only [drawP, szP]; have := anyP_sz; exact ⟨by omega, this.2⟩
 | d + 1, ⟨a, k⟩, p, ht => by
  have ih := fun t p ht => drawP_sz (b := b) hf d t p ht
  have ha := anyP_sz
  have hp := szP_pos d
  simp only [szP]
  by_cases c1 : d = 0
  ·rw [drawP_1 c1]; exact ⟨by dsimp only; omega, ha.2⟩
  by_cases c2 : pickV b p 4 = 0
  ·rw [drawP_2 c1 c2]; exact ⟨by dsimp only; omega, ha.2⟩
  by_cases c3 : pickV b (p + 1) 6 = 0
  ·rw [drawP_3 c1 c2 c3]
   have h1 := ih ⟨a, k⟩ (p + 2) ht
   have h2 := ih ⟨a, k⟩ (drawP b w d ⟨a, k⟩ (p + 2)).2 ht
   refine ⟨?_, ?_⟩
   ·dsimp only; rw [Pat.size_eq]; simp only [Pat.kids, Pats.size]; omega
   ·dsimp only; rw [Pat.ok_iff]; exact ⟨by simp [Pat.kids], h1.2, h2.2, trivial⟩
  by_cases c4 : a = -1
  ·rw [drawP_4 c1 c2 c3 c4]
   refine ⟨?_, ?_⟩
   ·dsimp only; rw [Pat.size_eq]; simp only [Pat.kids, Pats.size]; omega
   ·dsimp only; rw [Pat.ok_iff]; exact ⟨by simp [Pat.kids], trivial⟩
  by_cases c5 : (vctors w ⟨a, k⟩).length = 0
  ·rw [drawP_5 c1 c2 c3 c4 c5]; exact ⟨by dsimp only; omega, ha.2⟩
  ·rw [drawP_6 c1 c2 c3 c4 c5 rfl]
   have hm := nth_pick (b := b) (p := p + 2) c5
   have h3 := hf ⟨a, k⟩ _ hm ht
   have h1 := dA_sz (f := drawP b w d) (k := szP d) _ (p + 3) (fun u hu q => ih u q (h3.2 u hu))
   have h2 := dA_len (f := drawP b w d) (argsOf w ⟨a, k⟩ (nth (vctors w ⟨a, k⟩) (pickV b (p + 2) (vctors w ⟨a, k⟩).length).toNat)) (p + 3)
   have h4 : (argsOf w ⟨a, k⟩ (nth (vctors w ⟨a, k⟩) (pickV b (p + 2) (vctors w ⟨a, k⟩).length).toNat)).length * szP d ≤ 3 * szP d := Nat.mul_le_mul_right _ h3.1
   refine ⟨?_, ?_⟩
   ·dsimp only; rw [Pat.size_eq]; simp only [Pat.kids]; omega
   ·dsimp only; rw [Pat.ok_iff]; exact ⟨by simp only [Pat.kids]; omega, h1.2⟩
theorem numV_mem {b : Str} {p : Nat} {l : List Int} (h : 1 ≤ l.length) : numV b p l ∈ l := by
 have := pickV_bd (b := b) (p := p) (n := (l.length : Int)) (by omega)
 exact nth_mem (by omega)
theorem num4 (b : Str) (p : Nat) : 1 ≤ numV b p [3, 2, 4, 1] ∧ numV b p [3, 2, 4, 1] ≤ 4 := by
 have := numV_mem (b := b) (p := p) (l := [3, 2, 4, 1]) (by simp)
 simp only [List.mem_cons, List.not_mem_nil, or_false] at this
 omega
theorem szP_four {d : Nat} (h : d ≤ 4) : szP d ≤ 121 ∧ bdP d ≤ 200 := by
 have : d = 0 ∨ d = 1 ∨ d = 2 ∨ d = 3 ∨ d = 4 := by omega
 rcases this with rfl | rfl | rfl | rfl | rfl <;> decide
def rawPat (b : Str) (w : List Data) (t : Ty) (p : Nat) : Pat × Int × Nat :=
 namP b (drawP b w (numV b p [3, 2, 4, 1]).toNat t (p + 1)).1.size (drawP b w (numV b p [3, 2, 4, 1]).toNat t (p + 1)).1 0 (drawP b w (numV b p [3, 2, 4, 1]).toNat t (p + 1)).2
def somePat (b : Str) (w : List Data) (t : Ty) (p : Nat) : Pat := if isP w t (rawPat b w t p).1 then (rawPat b w t p).1 else anyP
theorem rawPat_ok {b : Str} {w : List Data} (hf : Few w) {t : Ty} (ht : TyIn w.length t) (p : Nat) : (rawPat b w t p).2.2 ≤ p + 500 ∧ (rawPat b w t p).1.size ≤ 242 ∧ (rawPat b w t p).1.ok := by
 have h4 := num4 b p
 have hs := szP_four (d := (numV b p [3, 2, 4, 1]).toNat) (by omega)
 have h1 := drawP_sz (b := b) hf (numV b p [3, 2, 4, 1]).toNat t (p + 1) ht
 have h2 := drawP_bd (b := b) hf (numV b p [3, 2, 4, 1]).toNat t (p + 1) ht
 have h3 := namP_ok (b := b) (drawP b w (numV b p [3, 2, 4, 1]).toNat t (p + 1)).1.size (drawP b w (numV b p [3, 2, 4, 1]).toNat t (p + 1)).1 0 (drawP b w (numV b p [3, 2, 4, 1]).toNat t (p + 1)).2 (by omega) (by omega)
 obtain ⟨_, _, n3, n4, n5⟩ := h3
 exact ⟨by unfold rawPat; omega, by unfold rawPat; omega, n5 h1.2⟩
theorem somePat_ok {b : Str} {w : List Data} (hf : Few w) {t : Ty} (ht : TyIn w.length t) (p : Nat) : (somePat b w t p).size ≤ 242 ∧ (somePat b w t p).ok := by
 have h := rawPat_ok (b := b) hf ht p
 have ha := anyP_sz
 unfold somePat
 split
 ·exact ⟨h.2.1, h.2.2⟩
 ·exact ⟨by omega, ha.2⟩
theorem spec_l3Some_fn {b : Str} {w : List Data} (hb : b.length ≤ 2000) (hw : WT w) (hf : Few w) {a k : Int} {p : Nat} (hp : p ≤ 100000) (ht : TyIn w.length ⟨a, k⟩) :
  FnD Try.prog 78 [.ref 900 0, .d (encDatas w), .agg [.d (.i a), .d (.i k)]] [(900, some (rdB b p))]
   (.agg [.d (.i (somePat b w ⟨a, k⟩ p).op), .d (.i (somePat b w ⟨a, k⟩ p).ctor), .d (.i (somePat b w ⟨a, k⟩ p).n), .d (.i (somePat b w ⟨a, k⟩ p).m), .d (.i (somePat b w ⟨a, k⟩ p).var), .d (encPats (somePat b w ⟨a, k⟩ p).kids)]) [(900, some (rdB b (rawPat b w ⟨a, k⟩ p).2.2))] := by
 have h4 := num4 b p
 have hs := szP_four (d := (numV b p [3, 2, 4, 1]).toNat) (by omega)
 have h1 := drawP_sz (b := b) hf (numV b p [3, 2, 4, 1]).toNat ⟨a, k⟩ (p + 1) ht
 have h2 := drawP_bd (b := b) hf (numV b p [3, 2, 4, 1]).toNat ⟨a, k⟩ (p + 1) ht
 have hr := rawPat_ok (b := b) hf ht p
 have hnum := spec_num_fn (b := b) (p := p) (l := [3, 2, 4, 1]) hb (by omega) (by simp) (by simp)
 have hdr := spec_l3Draw_fn hb hw hf (numV b p [3, 2, 4, 1]).toNat (a := a) (k := k) (m := numV b p [3, 2, 4, 1]) (p := p + 1) (by omega) (by omega) (by omega) (by omega) ht
 have hnm := spec_l3Name_fn hb (drawP b w (numV b p [3, 2, 4, 1]).toNat ⟨a, k⟩ (p + 1)).1.size (m := 0) (q := (drawP b w (numV b p [3, 2, 4, 1]).toNat ⟨a, k⟩ (p + 1)).2) (Nat.le_refl _) h1.2 (by omega) (by omega) (by omega)
 have hsp : somePat b w ⟨a, k⟩ p = if isP w ⟨a, k⟩ (rawPat b w ⟨a, k⟩ p).1 then (rawPat b w ⟨a, k⟩ p).1 else anyP := rfl
 rw [show namP b (drawP b w (numV b p [3, 2, 4, 1]).toNat ⟨a, k⟩ (p + 1)).1.size (drawP b w (numV b p [3, 2, 4, 1]).toNat ⟨a, k⟩ (p + 1)).1 0 (drawP b w (numV b p [3, 2, 4, 1]).toNat ⟨a, k⟩ (p + 1)).2 = rawPat b w ⟨a, k⟩ p from rfl] at hnm
 generalize numV b p [3, 2, 4, 1] = m at *
 refine bd Try.f78 28 [] [] fun w0 F0 own kept hk => ?_
 refine Walk.box (id := 3005) .none rfl rfl rfl rfl rfl rfl rfl ?_
 refine Walk.alloc (id := 3006) tz43 rfl .none rfl rfl rfl rfl ?_
 refine tv ?_
 refine Walk.sliceLit sl93 tz3 rfl (by decide) (ks := [0, 1, 2, 3]) (xs := [_, _, _, _]) rfl rfl (by decide) (by decide) .none rfl rfl rfl rfl ?_
 refine Walk.call (cr := []) cal63 (hnum) rfl .none rfl rfl (LeL.refl _) ⟨rfl, trivial⟩ rfl rfl rfl ?_
 refine Walk.call (cr := []) cal94 (hdr) rfl .none rfl rfl (LeL.refl _) ⟨rfl, trivial⟩ rfl rfl rfl ?_
 refine Walk.call (cr := []) cal93 (hnm) rfl .none rfl rfl (LeL.refl _) ⟨rfl, trivial⟩ rfl rfl rfl ?_
 refine evd [] [] ?_
 refine Walk.alloc (id := 3007) tz43 rfl .none rfl rfl rfl rfl ?_
 refine Walk.store ty43 .none rfl rfl rfl rfl rfl rfl (by simp) rfl ?_
 refine evd [] [] ?_
 refine dr ?_
 refine Walk.call (cr := []) cal36 (spec_l3Is_fn hw ht hr.2.2 (by omega)) rfl .none rfl rfl (LeL.refl _) trivial rfl rfl rfl ?_
 refine ev ?_
 refine sq (fun h1 h1p h1s => ?_) fun h1 h1p h1s => ?_
 ·try simp only [Q] at h1p
  refine Walk.build st43 (ks := [0]) (xs := [_]) rfl rfl .none rfl rfl rfl ?_
  refine Walk.store ty43 .none rfl rfl rfl rfl rfl rfl (by simp) rfl ?_
  refine tv ?_
  refine rn [(900, some (rdB b (rawPat b w ⟨a, k⟩ p).2.2))] (.cons (.cellA ty43 rfl rfl rfl) .nil) (.agg (.cons (.eqd ?_) (.cons (.eqd ?_) (.cons (.eqd ?_) (.cons (.eqd ?_) (.cons (.eqd ?_) (.cons (.nild ?_) .nil))))))) ⟨rfl, rfl⟩ (SubO.get ⟨.inr (by rfl), ⟨.inl rfl, trivial⟩⟩) (boxOK rfl)
  all_goals (first | (rw [hsp, if_neg (by rw [h1s]; simp)]; all_goals rfl) | (rw [hsp, if_pos h1s]; all_goals rfl))
 ·try simp only [Q] at h1p
  refine Walk.store ty43 .none rfl rfl rfl rfl rfl rfl (by simp) rfl ?_
  refine tv ?_
  refine rn [(900, some (rdB b (rawPat b w ⟨a, k⟩ p).2.2))] (.cons (.cellA ty43 rfl rfl rfl) .nil) (.agg (.cons (.eqd ?_) (.cons (.eqd ?_) (.cons (.eqd ?_) (.cons (.eqd ?_) (.cons (.eqd ?_) (.cons (.eqd ?_) .nil))))))) ⟨rfl, rfl⟩ (SubO.get ⟨.inr (by rfl), ⟨.inl rfl, trivial⟩⟩) (boxOK rfl)
  all_goals (first | (rw [hsp, if_neg (by rw [h1s]; simp)]; all_goals rfl) | (rw [hsp, if_pos h1s]; all_goals rfl))
def smB (n : Nat) (w : List Data) : Bool := decide (w.length ≤ n) && w.all fun d => decide (d.name.length ≤ n) && (decide (d.ctors.length ≤ n) && d.ctors.all fun c => decide (c.name.length ≤ n) && decide (c.args.length ≤ n))
structure Sm (n : Nat) (w : List Data) : Prop where
 len : w.length ≤ n
 data : ∀ d ∈ w, d.name.length ≤ n ∧ d.ctors.length ≤ n
 ctor : ∀ d ∈ w, ∀ c ∈ d.ctors, c.name.length ≤ n ∧ c.args.length ≤ n
theorem smB_sm {n : Nat} {w : List Data} (h : smB n w = true) : Sm n w := by
 simp only [smB, Bool.and_eq_true, decide_eq_true_eq, List.all_eq_true] at h
 exact ⟨h.1, fun d hd => ⟨(h.2 d hd).1, (h.2 d hd).2.1⟩, fun d hd c hc => (h.2 d hd).2.2 c hc⟩
theorem Sm.small {n : Nat} {w : List Data} (h : Sm n w) (hn : n ≤ 1000000000000) : WSmall w :=
 ⟨Nat.le_trans h.len hn, fun d hd => ⟨Nat.le_trans (h.data d hd).1 hn, Nat.le_trans (h.data d hd).2 hn⟩, fun d hd c hc => ⟨Nat.le_trans (h.ctor d hd c hc).1 hn, Nat.le_trans (h.ctor d hd c hc).2 hn⟩⟩
theorem of_small {b : Str} {p : Nat} {l : List Str} {n : Nat} (h : ∀ s ∈ l, s.length ≤ n) (hl : 1 ≤ l.length) : (ofV b p l).length ≤ n := by
 have := pickV_bd (b := b) (p := p) (n := (l.length : Int)) (by omega)
 exact h _ (nth_mem (by omega))
theorem Sm.mut {n : Nat} {w : List Data} (h : Sm n w) (b : Str) (p : Nat) : Sm (n + 10) (mutW b p w).1 := by
 have up : Sm (n + 10) w := ⟨by have := h.len; omega, fun d hd => by have := h.data d hd; omega, fun d hd c hc => by have := h.ctor d hd c hc; omega⟩
 unfold mutW
 split
 ·exact up
 rename_i c0 cr hc
 by_cases hi : (pickV b p w.length).toNat < w.length
 ·have hy : nth w (pickV b p w.length).toNat ∈ w := nth_mem hi
  generalize nth w (pickV b p w.length).toNat = y at hc hy ⊢
  have hyc := h.ctor y hy
  have hyd := h.data y hy
  rw [hc] at hyc hyd
  have hy0 := hyc c0 (by simp)
  split
  ·refine ⟨by simp only [List.length_append, List.length_cons, List.length_nil]; have := h.len; omega, fun d hd => ?_, fun d hd c hc' => ?_⟩
   ·rcases List.mem_append.1 hd with h1 | h1
    ·exact up.data d h1
    ·simp only [List.mem_singleton] at h1; subst h1; exact up.data d hy
   ·rcases List.mem_append.1 hd with h1 | h1
    ·exact up.ctor d h1 c hc'
    ·simp only [List.mem_singleton] at h1; subst h1; exact up.ctor d hy c hc'
  ·have hz : ∀ z : Data, z.name.length ≤ n + 10 → z.ctors.length ≤ n + 10 → (∀ c ∈ z.ctors, c.name.length ≤ n + 10 ∧ c.args.length ≤ n + 10) → Sm (n + 10) (w.set (pickV b p w.length).toNat z) := fun z z1 z2 z3 => by
    refine ⟨by rw [List.length_set]; exact up.len, fun d hd => ?_, fun d hd c hc' => ?_⟩
    ·rcases List.mem_or_eq_of_mem_set hd with h1 | rfl
     ·exact up.data d h1
     ·exact ⟨z1, z2⟩
    ·rcases List.mem_or_eq_of_mem_set hd with h1 | rfl
     ·exact up.ctor d h1 c hc'
     ·exact z3 c hc'
   have n1 : (ofV b (p + 2) nmsD).length ≤ 10 := of_small (by decide) (by decide)
   have n2 : (ofV b (p + 2) nmsC).length ≤ 10 := of_small (by decide) (by decide)
   have hl2 : (c0 :: cr).length ≤ n + 10 := by omega
   have hcr : ∀ c ∈ cr, c.name.length ≤ n + 10 ∧ c.args.length ≤ n + 10 := fun c hc => by have := hyc c (by simp [hc]); omega
   have hc0 : c0.name.length ≤ n + 10 ∧ c0.args.length ≤ n + 10 := by omega
   have cons : ∀ c : Ctor, c.name.length ≤ n + 10 ∧ c.args.length ≤ n + 10 → ∀ x ∈ c :: cr, x.name.length ≤ n + 10 ∧ x.args.length ≤ n + 10 := fun c h1 x hx => by
    rcases List.mem_cons.1 hx with rfl | hx
    ·exact h1
    ·exact hcr x hx
   unfold mutY
   repeat' split
   ·exact hz _ (by dsimp only; omega) hl2 (cons _ hc0)
   ·exact hz _ (by dsimp only; omega) (by simp) (by simp)
   ·exact hz _ (by dsimp only; omega) (by simpa using hl2) (cons _ ⟨by dsimp only; omega, hc0.2⟩)
   ·exact hz _ (by dsimp only; omega) (by simpa using hl2) (cons _ ⟨hc0.1, by simp only [List.length_append, List.length_cons, List.length_nil]; omega⟩)
   ·exact hz _ (by dsimp only; omega) (by simpa using hl2) (cons _ ⟨hc0.1, hc0.2⟩)
   ·exact hz _ (by dsimp only; omega) hl2 (cons _ hc0)
 ·have hn : nth w (pickV b p w.length).toNat = default := by simp [nth, List.getD, List.getElem?_eq_none (Nat.le_of_not_lt hi)]
  rw [hn] at hc; cases hc
theorem spec_l1Mutate_fn {b : Str} {p : Nat} {w : List Data} (hb : b.length ≤ 2000) (hp : p ≤ 1000000) (hs : WSmall w) (hne : 1 ≤ w.length) :
  FnD Try.prog 38 [.ref 900 0, .d (encDatas w)] [(900, some (rdB b p))] (.d (encDatas (mutW b p w).1)) [(900, some (rdB b (mutW b p w).2))] := by
 have hv := pickV_bd (b := b) (p := p) (n := (w.length : Int)) (by omega)
 have hlt : (pickV b p w.length).toNat < w.length := by omega
 obtain ⟨pre, y, rest, hw, hpl⟩ : ∃ pre y rest, w = pre ++ y :: rest ∧ pre.length = (pickV b p w.length).toNat :=
  ⟨w.take (pickV b p w.length).toNat, w[(pickV b p w.length).toNat], w.drop ((pickV b p w.length).toNat + 1), by rw [List.getElem_cons_drop, List.take_append_drop], by rw [List.length_take]; omega⟩
 have hd : pickV b p w.length = pre.length := by omega
 subst hw
 obtain ⟨nm, cs⟩ := y
 by_cases h5 : cs = [] ∨ pickV b (p + 1) 30 = 5
 ·have h := spec_l1Mutate_a (b := b) (p := p) hb hp hs hd h5
  have hm : mutW b p (pre ++ ⟨nm, cs⟩ :: rest) = (if cs = [] then pre ++ ⟨nm, cs⟩ :: rest else (pre ++ ⟨nm, cs⟩ :: rest) ++ [⟨nm, cs⟩], if cs = [] then p + 1 else p + 2) := by
   unfold mutW
   rw [hd, Int.toNat_natCast, nth_mid]
   dsimp only
   cases cs with
   | nil => rfl
   | cons c0 cr =>
    have := h5.resolve_left (by simp)
    simp only
    rw [if_pos this, if_neg (by simp), if_neg (by simp)]
  rw [hm]
  exact h
 ·rw [not_or] at h5
  cases cs with
  | nil => exact absurd rfl h5.1
  | cons c0 cr =>
   rw [mutW_mid hd h5.2]
   exact spec_l1Mutate_t hb hp hs hd h5.2
theorem worlds_all : ((List.range 7).all fun i => smB 10 (parseW (nth texts8 i)).1 && (worldValid (parseW (nth texts8 i)).1 && decide (1 ≤ (parseW (nth texts8 i)).1.length))) = true := by kernel_rfl
structure WorldD (w : List Data) : Prop where
 sm : Sm 10 w
 small : WSmall w
 valid : worldValid w = true
 one : 1 ≤ w.length
theorem worldD_ok (b : Str) (p : Nat) : WorldD (worldD b p) := by
 have h := List.all_eq_true.1 worlds_all (pickV b p 7).toNat (List.mem_range.2 (pick7 b p))
 simp only [Bool.and_eq_true, decide_eq_true_eq] at h
 exact ⟨smB_sm h.1, (smB_sm h.1).small (by omega), h.2.1, h.2.2⟩
theorem mutD_small (b : Str) (p q : Nat) : WSmall (mutW b q (worldD b p)).1 := ((worldD_ok b p).sm.mut b q).small (by omega)
theorem laws_ptTypes_same {l : List Ty} (hl : l.length ≤ 1000000000000) : FnD Try.prog 8 [.d (encTys l), .d (encTys l)] [] (.d (.bool true)) [] := by
 refine bd Try.f8 26 [25] [] fun w0 F0 own kept hk => ?_
 refine sq (fun h1 h1p h1s => ?_) fun h1 h1p h1s => ?_
 ·try simp only [Q] at h1p
  exfalso; simp at h1 --stop
 ·try simp only [Q] at h1p
  refine CWp.loopX (ι := List (Ty) × List (Ty)) hk (fun x => [(5, .d (.i (x.1.length : Int)))]) [4, 11, 12, 13, 14, 15, 16, 17, 18, 19, 20, 21, 22, 23, 24, 25] (fun x => []) (fun x => x.1 ++ x.2 = l) (fun x => x.2.length) ([], l) (by simp) ⟨⟨_, rfl, (LeA.eqi (by first | rfl | (simp; done) | (simp_all; done) | omega))⟩, trivial⟩ trivial (fun x => rfl) (fun x hg1 => ?_)
  obtain ⟨pre, rest⟩ := x
  dsimp only at hg1 ⊢
  refine evc [25] [] ?_
  refine sq (fun h2 h2p h2s => ?_) fun h2 h2p h2s => ?_
  ·try simp only [Q] at h2p
   rcases rest with _ | ⟨y, rest⟩
   ·exfalso; simp_all
   refine Walk.idx sl25 .none rfl rfl rfl rfl (zip_at hg1) rfl ?_
   refine evd [25] [] ?_
   refine Walk.idx sl25 .none rfl rfl rfl rfl (zip_at hg1) rfl ?_
   refine evd [25] [] ?_
   refine Walk.neV eq31 .none rfl rfl rfl rfl rfl ?_
   refine dr ?_
   refine sq (fun h3 h3p h3s => ?_) fun h3 h3p h3s => ?_
   ·try simp only [Q] at h3p
    exfalso; simp at h3 --stop
   ·try simp only [Q] at h3p
    refine ar ?_
    refine Exists.intro ((pre ++ [y], rest)) ⟨(by have hz := hg1; rw [← hz]; simp), (by simp), Sub.x (by kernel_rfl) (by kernel_rfl) ⟨⟨_, rfl, (LeA.eqi (by first | rfl | (simp; done) | (simp_all; done) | omega))⟩, trivial⟩ (by kernel_rfl) (by kernel_rfl) trivial⟩
  ·try simp only [Q] at h2p
   have hrest : rest = [] := by
    rcases rest with _ | ⟨a, b⟩
    ·rfl
    ·exfalso; have hz := congrArg List.length (hg1); simp only [List.length_append, List.length_cons, List.length_map] at hz; omega
   subst hrest
   refine rn0 (r1 rfl) (.eqd ?_)
   all_goals (first | rfl | (simp [h1s, h1p, h2s, h2p]; done) | (simp_all; done) | (simp_all; omega) | omega)
theorem allTypesOf_ok {n : Nat} {t : Ty} (h : t ∈ allTypesOf n) : typeOk n t = true := by
 simp only [allTypesOf, List.mem_cons, List.mem_flatMap, List.mem_map, List.mem_range] at h
 rcases h with rfl | ⟨i, hi, k, hk, rfl⟩
 ·rfl
 ·simp only [typeOk, within, Bool.or_eq_true, Bool.and_eq_true, decide_eq_true_eq]
  right; omega
theorem spec_l1Most_fn {w : List Data} (hw : WT w) {n : Nat} {f : Nat → Nat} {a k c : Int} (ht : TyIn w.length ⟨a, k⟩) (hc : c ∈ vctors w ⟨a, k⟩) (hn : n ≤ 100) (hb : ∀ s, f s ≤ 100000) (hin : ∀ u ∈ argsOf w ⟨a, k⟩ c, InS n u) :
  FnD Try.prog 88 [.d (encDatas w), .d (encTab n f), .agg [.d (.i a), .d (.i k)], .d (.i c)] [] (.d (.i (most w f ⟨a, k⟩ c))) [] := by
 have hl := argsOf_small hw ht hc
 have hd := dv_bd hb (by omega)
 refine bd Try.f88 37 [] [] fun w0 F0 own kept hk => ?_
 refine Walk.box (id := 3006) .none rfl rfl rfl rfl rfl rfl rfl ?_
 refine ev ?_
 refine Walk.call (cr := []) cal77 (spec_l1Args_v hw ht hc) rfl .none rfl rfl (LeL.refl _) trivial rfl rfl rfl ?_
 refine ev ?_
 refine CWp.loopX (ι := List (Ty) × List (Ty) × (Nat)) hk (fun x => [(11, .d (.i (x.1.length : Int))), (10, .d (.i (x.2.2 : Int)))]) [8, 12, 17, 18, 19, 20, 21, 22, 23, 24, 25, 26, 27, 28, 29, 30, 31, 32, 33, 34] (fun x => []) (fun x => x.1 ++ x.2.1 = argsOf w ⟨a, k⟩ c ∧ x.2.2 ≤ 100000 ∧ mostL f x.2.2 x.2.1 = mostL f 0 (argsOf w ⟨a, k⟩ c)) (fun x => x.2.1.length) ([], argsOf w ⟨a, k⟩ c, 0) ⟨by simp, by simp, rfl⟩ ⟨⟨_, rfl, (LeA.eqi (by first | rfl | (simp; done) | omega | (dsimp only; omega)))⟩, ⟨⟨_, rfl, (LeA.eqi (by first | rfl | (simp; done) | omega | (dsimp only; omega)))⟩, trivial⟩⟩ trivial (fun x => rfl) (fun x hg1 => ?_)
 obtain ⟨pre, rest, m⟩ := x
 dsimp only at hg1 ⊢
 refine evc [] [] ?_
 refine sq (fun h1 h1p h1s => ?_) fun h1 h1p h1s => ?_
 ·try simp only [Q] at h1p
  rcases rest with _ | ⟨y, rest⟩
  ·exfalso; simp_all
  have hdy := hd y; have hye : dv f ⟨y.data, y.index⟩ = dv f y := rfl
  refine Walk.idx sl25 .none rfl rfl rfl rfl (zip_at hg1.1) rfl ?_
  refine ev ?_
  refine Walk.call (cr := []) cal70 (spec_l1Depth_fn (f := f) (a := y.data) (k := y.index) (hin y (by rw [← hg1.1]; simp)) hn) rfl .none rfl rfl (LeL.refl _) trivial rfl rfl rfl ?_
  refine ev ?_
  refine sq (fun h2 h2p h2s => ?_) fun h2 h2p h2s => ?_
  ·try simp only [Q] at h2p
   refine rn0 (r1 rfl) (.eqd ?_)
   all_goals (refine congrArg D.i ?_; unfold most; rw [← hg1.2.2]; first | (simp only [mostL]; rw [if_pos (by omega)]; rfl) | (simp only [mostL]; omega))
  ·try simp only [Q] at h2p
   refine sq (fun h3 h3p h3s => ?_) fun h3 h3p h3s => ?_
   ·try simp only [Q] at h3p
    refine ar ?_
    refine Exists.intro ((pre ++ [y], rest, max m (dv f y))) ⟨⟨(by have hz := hg1.1; rw [← hz]; simp), ⟨(by have := hd y; dsimp only; omega), (by rw [← hg1.2.2]; simp only [mostL]; rw [if_neg (by have := hd y; omega)])⟩⟩, (by simp), Sub.x (by kernel_rfl) (by kernel_rfl) ⟨⟨_, rfl, (LeA.eqi (by first | rfl | (simp; done) | omega | (dsimp only; omega)))⟩, ⟨⟨_, rfl, (LeA.eqi (by first | rfl | (simp; done) | omega | (dsimp only; omega)))⟩, trivial⟩⟩ (by kernel_rfl) (by kernel_rfl) trivial⟩
   ·try simp only [Q] at h3p
    refine ar ?_
    refine Exists.intro ((pre ++ [y], rest, max m (dv f y))) ⟨⟨(by have hz := hg1.1; rw [← hz]; simp), ⟨(by have := hd y; dsimp only; omega), (by rw [← hg1.2.2]; simp only [mostL]; rw [if_neg (by have := hd y; omega)])⟩⟩, (by simp), Sub.x (by kernel_rfl) (by kernel_rfl) ⟨⟨_, rfl, (LeA.eqi (by first | rfl | (simp; done) | omega | (dsimp only; omega)))⟩, ⟨⟨_, rfl, (LeA.eqi (by first | rfl | (simp; done) | omega | (dsimp only; omega)))⟩, trivial⟩⟩ (by kernel_rfl) (by kernel_rfl) trivial⟩
 ·try simp only [Q] at h1p
  have hrest : rest = [] := by
   rcases rest with _ | ⟨a, b⟩
   ·rfl
   ·exfalso; have hz := congrArg List.length (hg1.1); simp only [List.length_append, List.length_cons, List.length_map] at hz; omega
  subst hrest
  refine ar ?_
  refine rn0 (r1 rfl) (.eqd ?_)
  all_goals (refine congrArg D.i ?_; unfold most; rw [← hg1.2.2]; first | (simp only [mostL]; rw [if_pos (by omega)]; rfl) | (simp only [mostL]; omega))
def hdB (w : List Data) : Nat → Ty → Bool
 | 0, _ => false
 | d + 1, t => decide (t.data = -1) || (ctorsOf w t).any fun c => decide (t.data ≠ -1) && (argsOf w t c).all (hdB w d)
theorem hdB_iff (w : List Data) : ∀ (d : Nat) (t : Ty), hdB w d t = true ↔ Hd w d t
 | 0, t => by simp [hdB, Hd]
 | d + 1, t => by
  simp only [hdB, Hd, Bool.or_eq_true, decide_eq_true_eq, List.any_eq_true, Bool.and_eq_true, List.all_eq_true, hdB_iff w d]
def Low (w : List Data) : Prop := ∀ s, depthT w s ≤ 3
theorem low_of {w : List Data} (hd : Dp w) (h : (List.range (w.length * 4)).all (fun s => !hdB w 4 (tyS s) || hdB w 3 (tyS s)) = true) : Low w := by
 intro s
 by_cases hs : s < w.length * 4
 ·obtain ⟨h1, h2⟩ := iter_all hd.cl (w.length * 4 + 1)
  by_cases h0 : depthT w s = 0
  ·omega
  ·have hh := h1 s hs (Nat.pos_of_ne_zero h0)
   have h3 := hd_stable hd.cl (d := 3) (by omega) (fun s hs hh => by
    have := List.all_eq_true.1 h s (List.mem_range.2 hs)
    rw [(hdB_iff w 4 (tyS s)).2 hh] at this
    exact (hdB_iff w 3 _).1 (by simpa using this)) _ s hs hh
   by_cases h4 : 3 ≤ w.length * 4 + 1
   ·exact (h2 s hs 3 h4 h3).2
   ·omega
 ·have h0 := iter_out (w := w) (i := s) (by omega) (w.length * 4 + 1)
  show iterT w (w.length * 4 + 1) s ≤ 3
  omega
theorem worlds_low : ((List.range 7).all fun i => (List.range ((parseW (nth texts8 i)).1.length * 4)).all fun s => !hdB (parseW (nth texts8 i)).1 4 (tyS s) || hdB (parseW (nth texts8 i)).1 3 (tyS s)) = true := by kernel_rfl
structure WorldL (w : List Data) : Prop where
 dp : Dp w
 low : Low w
 few : Few w
theorem worldD_low (b : Str) (p : Nat) : WorldL (worldD b p) := by
 have ho := worldD_ok b p
 have hd := valid_dp ho.small ho.valid
 exact ⟨hd, low_of hd (List.all_eq_true.1 worlds_low (pickV b p 7).toNat (List.mem_range.2 (pick7 b p))), valid_few ho.small ho.valid⟩
theorem most_hits {w : List Data} (hd : Dp w) {t : Ty} (ht : InS (w.length * 4) t) (hne : ¬ t.data = -1) (h : 0 < dv (depthT w) t) : ∃ c ∈ vctors w t, 0 < most w (depthT w) t c ∧ most w (depthT w) t c = dv (depthT w) t := by
 obtain ⟨h1, h2⟩ : Snd w (depthT w) ∧ Cmp w (w.length * 4 + 1) (depthT w) := iter_all hd.cl (w.length * 4 + 1)
 have hcmp : ∀ k, Cmp w k (depthT w) := fun k => by
  have h3 := (iter_all hd.cl (max k (w.length * 4 + 1))).2
  rw [iter_eq hd.cl (Nat.le_max_right _ _)] at h3
  exact fun s hs d hdk hh => h3 s hs d (by omega) hh
 have hv : vctors w t = ctorsOf w t := by unfold vctors; rw [if_neg hne]
 have hh : Hd w (dv (depthT w) t) t := dv_hd h1 ht h
 rcases hd0 : dv (depthT w) t with _ | e
 ·omega
 rw [hd0] at hh
 rcases hh with hh | ⟨c, hc, _, hu⟩
 ·exact absurd hh hne
 have hin := args_ins hd ht (c := c) (by rw [hv]; exact hc)
 have hp := mostL_pos (f := depthT w) (l := argsOf w t c) (m := 0) (k := e) (Nat.zero_le _) (fun u hu' => dv_cmp (hcmp e) (hin u hu') (hu u hu'))
 refine ⟨c, by rw [hv]; exact hc, hp.1, ?_⟩
 have hle : most w (depthT w) t c ≤ e + 1 := hp.2
 have hpos : 0 < most w (depthT w) t c := hp.1
 -- not less deep than the type
 have hsn := mostL_snd (f := depthT w) (l := argsOf w t c) (m := 0) hp.1
 have hH : Hd w (most w (depthT w) t c) t := by
  obtain ⟨q, hq⟩ : ∃ q, most w (depthT w) t c = q + 1 := ⟨most w (depthT w) t c - 1, by omega⟩
  rw [hq]
  refine .inr ⟨c, hc, hne, fun u hu' => ?_⟩
  have hx := hsn.2 u hu'
  have hlt : dv (depthT w) u < most w (depthT w) t c := hx.2
  exact Hd_le (by omega) (dv_hd h1 (hin u hu') hx.1)
 have hge := (dv_cmp (hcmp _) ht hH).2
 omega
def fineB (w : List Data) (f : Nat → Nat) (t : Ty) (m c : Int) : Bool := decide (0 < most w f t c) && decide ((most w f t c : Int) ≤ m ∨ most w f t c = dv f t)
def fineL (w : List Data) (f : Nat → Nat) (t : Ty) (m : Int) : List Int := (vctors w t).filter (fineB w f t m)
theorem fine_yes {P : Int → Bool} {pre : List Int} {y : Int} (h : P y = true) : ((pre ++ [y]).filter P).map (fun n => [D.i n]) = (pre.filter P).map (fun n => [D.i n]) ++ [[D.i y]] := by simp [List.filter_append, h]
theorem fine_no {P : Int → Bool} {pre : List Int} {y : Int} (h : P y = false) : ((pre ++ [y]).filter P).map (fun n => [D.i n]) = (pre.filter P).map (fun n => [D.i n]) := by simp [List.filter_append, h]
def dV (f : Ty → Nat → Val × Nat) : List Ty → Nat → List Val × Nat
 | [], q => ([], q)
 | t :: r, q => ((f t q).1 :: (dV f r (f t q).2).1, (dV f r (f t q).2).2)
def drawV (b : Str) (w : List Data) (f : Nat → Nat) : Nat → Ty → Int → Nat → Val × Nat
 | 0, _, _, p => (.mk 0 0 [], p)
 | n + 1, t, m, p =>
  if t.data = -1 then (.mk (-1) (pickV b p 10) [], p + 1)
  else (.mk (nth (fineL w f t m) (pickV b p (fineL w f t m).length).toNat) 0 (dV (fun u q => drawV b w f n u (m - 1) q) (argsOf w t (nth (fineL w f t m) (pickV b p (fineL w f t m).length).toNat)) (p + 1)).1,
   (dV (fun u q => drawV b w f n u (m - 1) q) (argsOf w t (nth (fineL w f t m) (pickV b p (fineL w f t m).length).toNat)) (p + 1)).2)
abbrev dW (b : Str) (w : List Data) (n : Nat) (m : Int) : Ty → Nat → Val × Nat := fun u x => drawV b w (depthT w) n u (m - 1) x
def bdV : Nat → Nat
 | 0 => 0
 | d + 1 => 1 + 3 * bdV d
def szV : Nat → Nat
 | 0 => 1
 | d + 1 => 1 + 3 * szV d
theorem dV_bd {f : Ty → Nat → Val × Nat} {k : Nat} : ∀ (l : List Ty) (q : Nat), (∀ t ∈ l, ∀ q, (f t q).2 ≤ q + k) → (dV f l q).2 ≤ q + l.length * k
 | [], q, _ => by simp [dV]
 | t :: r, q, h => by
  have h1 := h t (by simp) q
  have h2 := dV_bd r (f t q).2 (fun x hx => h x (by simp [hx]))
  simp only [dV, List.length_cons, Nat.add_mul]; omega
theorem dV_len {f : Ty → Nat → Val × Nat} : ∀ (l : List Ty) (q : Nat), (dV f l q).1.length = l.length
 | [], q => rfl
 | t :: r, q => by simp only [dV, List.length_cons, dV_len r]
theorem dV_sz {f : Ty → Nat → Val × Nat} {k : Nat} : ∀ (l : List Ty) (q : Nat), (∀ t ∈ l, ∀ q, (f t q).1.size ≤ k ∧ (f t q).1.ok) → Vals.size (dV f l q).1 ≤ l.length * k ∧ Vals.ok (dV f l q).1
 | [], q, _ => by simp [dV, Vals.size, Vals.ok]
 | t :: r, q, h => by
  have h1 := h t (by simp) q
  have h2 := dV_sz r (f t q).2 (fun x hx => h x (by simp [hx]))
  simp only [dV, List.length_cons, Nat.add_mul, Vals.size, Vals.ok]
  exact ⟨by omega, h1.2, h2.2⟩
theorem fineL_mem {w : List Data} {f : Nat → Nat} {t : Ty} {m c : Int} (h : c ∈ fineL w f t m) : c ∈ vctors w t ∧ 0 < most w f t c ∧ ((most w f t c : Int) ≤ m ∨ most w f t c = dv f t) := by
 have := List.mem_filter.1 h
 simpa [fineB] using this
structure Deep (w : List Data) (n : Nat) (t : Ty) (m : Int) : Prop where
 ins : InS (w.length * 4) t
 pos : 0 < dv (depthT w) t
 le : dv (depthT w) t ≤ n
 ml : m ≤ n
theorem fine_pos {w : List Data} (hd : Dp w) {n : Nat} {t : Ty} {m : Int} (h : Deep w n t m) (hne : ¬ t.data = -1) : 1 ≤ (fineL w (depthT w) t m).length := by
 obtain ⟨c, hc, h1, h2⟩ := most_hits hd h.ins hne h.pos
 exact List.length_pos_of_mem (a := c) (List.mem_filter.2 ⟨hc, by have := h.pos; simp [fineB, h2, this]⟩)
theorem deep_kid {w : List Data} (hd : Dp w) {n : Nat} {t : Ty} {m c : Int} (h : Deep w (n + 1) t m) (hc : c ∈ fineL w (depthT w) t m) : ∀ u ∈ argsOf w t c, Deep w n u (m - 1) := by
 intro u hu
 obtain ⟨h1, h2, h3⟩ := fineL_mem hc
 have hin := args_ins hd h.ins h1 u hu
 have hs := (mostL_snd (f := depthT w) (l := argsOf w t c) (m := 0) h2).2 u hu
 have hlt : dv (depthT w) u < most w (depthT w) t c := hs.2
 have := h.le; have := h.ml
 exact ⟨hin, hs.1, by rcases h3 with h3 | h3 <;> omega, by omega⟩
theorem pick_fine {w : List Data} (hd : Dp w) {n : Nat} {t : Ty} {m : Int} (h : Deep w n t m) (hne : ¬ t.data = -1) (b : Str) (p : Nat) : nth (fineL w (depthT w) t m) (pickV b p (fineL w (depthT w) t m).length).toNat ∈ fineL w (depthT w) t m :=
 nth_pick (by have := fine_pos hd h hne; omega)
theorem drawV_ok {b : Str} {w : List Data} (hd : Dp w) (hf : Few w) : ∀ (n : Nat) (t : Ty) (m : Int) (p : Nat), Deep w n t m → (drawV b w (depthT w) n t m p).2 ≤ p + bdV n ∧ (drawV b w (depthT w) n t m p).1.size ≤ szV n ∧ (drawV b w (depthT w) n t m p).1.ok
 | 0, t, m, p, h => by have := h.pos; have := h.le; omega
 | n + 1, t, m, p, h => by
  simp only [drawV, bdV, szV]
  split
  ·refine ⟨by dsimp only; omega, ?_, ?_⟩
   ·simp only [Val.size, Vals.size]; omega
   ·simp [Val.ok, Vals.ok]
  ·rename_i hne
   have hm := pick_fine hd h hne b p
   generalize nth (fineL w (depthT w) t m) (pickV b p (fineL w (depthT w) t m).length).toNat = c at *
   have hk := deep_kid hd h hm
   have h3 := (hf t c (fineL_mem hm).1 (ins_tyin h.ins)).1
   have h1 := dV_bd (f := fun u q => drawV b w (depthT w) n u (m - 1) q) (k := bdV n) (argsOf w t c) (p + 1) (fun u hu q => (drawV_ok hd hf n u (m - 1) q (hk u hu)).1)
   have h2 := dV_sz (f := fun u q => drawV b w (depthT w) n u (m - 1) q) (k := szV n) (argsOf w t c) (p + 1) (fun u hu q => (drawV_ok hd hf n u (m - 1) q (hk u hu)).2)
   have h4 : (argsOf w t c).length * bdV n ≤ 3 * bdV n := Nat.mul_le_mul_right _ h3
   have h5 : (argsOf w t c).length * szV n ≤ 3 * szV n := Nat.mul_le_mul_right _ h3
   have h6 := dV_len (f := fun u q => drawV b w (depthT w) n u (m - 1) q) (argsOf w t c) (p + 1)
   refine ⟨by dsimp only; omega, ?_, ?_⟩
   ·simp only [Val.size]; omega
   ·simp only [Val.ok]; exact ⟨by omega, h2.2⟩
section
variable {b : Str} {w : List Data} {f : Nat → Nat} {n p : Nat} {t : Ty} {m : Int}
theorem drawV_1 (h : t.data = -1) : drawV b w f (n + 1) t m p = (.mk (-1) (pickV b p 10) [], p + 1) := by simp only [drawV]; rw [if_pos h]
theorem drawV_2 (h : ¬ t.data = -1) {c : Int} (hc : nth (fineL w f t m) (pickV b p (fineL w f t m).length).toNat = c) : drawV b w f (n + 1) t m p =
  (.mk c 0 (dV (fun u q => drawV b w f n u (m - 1) q) (argsOf w t c) (p + 1)).1, (dV (fun u q => drawV b w f n u (m - 1) q) (argsOf w t c) (p + 1)).2) := by
 simp only [drawV]; rw [if_neg h, hc]
end
section
variable {c : Ctx} {all : Array Oper} {chk : List Rec → Prop} {os : List Oper} {recs : List Rec} {env : Env} {hp : Hp} {Q : St → Prop}
variable {d ty : Nat} {pos : String} {af : Array Edge} {g : Option (Nat × Bool)} {pg : List (Nat × AV)} {t yt : TypeId} {x y : Operand}
theorem Walk.appendM {id k e yb : Nat} {xs ys : List (List D)} {vy : AV} {ids : List Nat} (hkp : KeptIn c.kept ids) (hid : elemB id ids = false) (hne : xs ++ ys ≠ []) (ht : SlT c.P t e k yb) (hz : ZeroT c.P e k) (hg : GH all env g pg) (hd : Nat.blt d c.n = true)
  (hx : opd env x = some (.gv id xs)) (hy : opd env y = some vy) (hyd : vy.toD = some (.sl ys)) (htok : getH hp id = some (.tok xs.length k)) (hky : ∀ y, y ∈ ys → y.length = k)
  (hb : (xs.length + ys.length) * yb ≤ 140737488355328) (hm : xs.length + ys.length ≤ 9223372036854775807)
  (hn : Walk c all chk os (mkRec (pg ++ (opF x (.gv id xs) ++ opF y vy)) [(id, .tok xs.length k)] [] ⟨some (d, .ms id (xs ++ ys).length), [(id, some (.box ((xs ++ ys).flatten.map .d)))]⟩ :: recs)
   ⟨(d, .ms id (xs ++ ys).length) :: env, (id, some (.box ((xs ++ ys).flatten.map .d))) :: hp⟩ Q) :
  Walk c all chk (⟨some d, .call ⟨.builtin .append, #[x, y], #[t, t]⟩, ty, pos, af, g⟩ :: os) recs ⟨env, hp⟩ Q := by
 refine ⟨pg ++ (opF x (.gv id xs) ++ opF y vy), [(id, .tok xs.length k)], [], _, ?_, facts_append hg.facts (facts_append (opF_holds hx) (opF_holds hy)), hh1 htok, by simp, hn⟩
 intro s a w hrel hp' hh _ K Q' hK
 obtain ⟨G, hr⟩ := hrel
 have e1 := hr.opd (opd_facts hx (fun p hm => hp' p (by simp [hm])))
 have e2 := hr.opd (opd_facts hy (fun p hm => hp' p (by simp [hm])))
 obtain ⟨i, z, z1, z2, z3⟩ := hz.out
 obtain ⟨v', w', G', hrun, hR, hA⟩ := appendV_step hr ht ⟨i, z1, z2, z3⟩ (hh1' hh) e1 (e2.toD hyd) hky hb hm ty
 unfold wpO
 rw [if_pos (hg.gf.wanted hr (fun p hm => hp' p (by simp [hm])))]
 unfold Oper.wp
 have : (execOp a.eval ⟨some d, .call ⟨.builtin .append, #[x, y], #[t, t]⟩, ty, pos, af, g⟩).run c.P w = .ok (.value v') w' := by
  simp only [execOp, resolve, invoke, builtin, Sem.run_bind, Sem.run_pure, Result.andThen_ok, List.map_toArray, List.map_cons, List.map_nil, hrun]
 rw [this, Oper.upon_value]
 have hV : Rel c ⟨(d, .gv id (xs ++ ys)) :: s.env, (id, some (.tok (xs.length + ys.length) k)) :: s.hp⟩ (a.put (some d) v') w' := ⟨G', hR.put hA hd⟩
 rcases Rel.fixV hkp d id k (xs := xs ++ ys) (by simp [getE]) (by rw [getH_cons, if_pos rfl, List.length_append]) hid hV with ⟨h, _⟩ | ⟨_, h⟩
 ·exact absurd h hne
 ·refine hK _ _ (h.congr (fun j => ?_) (fun j => ?_))
  ·show getE ((d, _) :: s.env) j = getE ((d, _) :: (d, _) :: s.env) j
   simp only [getE]
   cases Nat.beq d j <;> rfl
  ·show getH ((id, _) :: s.hp) j = getH ((id, _) :: (id, _) :: s.hp) j
   rw [getH_cons, getH_cons, getH_cons]
   by_cases hj : j = id
   ·rw [if_pos hj, if_pos hj]
   ·rw [if_neg hj, if_neg hj, if_neg hj]
end
def varP0 : Pat := ⟨2, 0, 0, 0, 0, []⟩
def mutP (b : Str) (p : Pat) (q : Nat) : Pat × Nat :=
 if pickV b q 30 = 0 then (⟨numV b (q + 1) [0, 7, 1, 2, 5], p.ctor, p.n, p.m, p.var, p.kids⟩, q + 2)
 else if pickV b q 30 = 1 then (⟨p.op, p.ctor, p.n, p.m, numV b (q + 1) [6, -1, 1], p.kids⟩, q + 2)
 else if pickV b q 30 = 2 then (⟨p.op, numV b (q + 1) [9, -1, 1], p.n, p.m, p.var, p.kids⟩, q + 2)
 else if pickV b q 30 = 3 then (⟨p.op, p.ctor, p.n, p.m, p.var, p.kids ++ [varP0]⟩, q + 1)
 else if pickV b q 30 = 4 then (⟨p.op, p.ctor, p.n, p.m, p.var, p.kids.set 0 varP0⟩, q + 1)
 else if pickV b q 30 = 5 then (⟨p.op, p.ctor, numV b (q + 1) [10, -1, 5], p.m, p.var, p.kids⟩, q + 2)
 else (⟨p.op, p.ctor, p.n, p.m, p.var, p.kids⟩, q + 1)
theorem put0 {l : List (List D)} {x : List D} {r : List (List D)} {v : List AV} (h : l = x :: r) (hx : x.length = v.length) : putC (l.flatten.map .d) 0 v = some (v ++ r.flatten.map .d) := by
 subst h
 rw [List.flatten_cons, List.map_append]
 have key : ∀ (a b : List AV), a.length = b.length → ∀ (c : List AV), putC (a ++ c) 0 b = some (b ++ c) := by
  intro a
  induction a with
  | nil => intro b h c; cases b with
   | nil => cases c <;> rfl
   | cons => simp at h
  | cons y a ih => intro b h c; cases b with
   | nil => simp at h
   | cons z b =>
    have := ih b (by simpa using h) c
    simp only [List.cons_append, putC, this]
 exact key _ _ (by simpa using hx) _
theorem chunk0 {k : Nat} {v : List AV} {vd : List D} {r : List (List D)} (hv : toDL v = some vd) (hk : v.length = k) (hr : ∀ x ∈ r, x.length = k) : chunkD (r.length + 1) k (v ++ r.flatten.map .d) = some (vd :: r) := by
 have h1 : cutC (v ++ r.flatten.map .d) 0 k = some v := cutC_zero hk
 have h2 : (v ++ r.flatten.map AV.d).drop k = r.flatten.map .d := by rw [← hk]; simp
 have h3 := chunkD_flat (f := fun x : List D => x) (k := k) (l := r) hr
 have h4 : (r.flatMap fun x => x.map AV.d) = r.flatten.map .d := by rw [List.map_flatten]; rfl
 rw [h4, List.map_id'] at h3
 simp only [chunkD, h1, hv, h2, h3]
theorem Pat.cs_app (a b : List Pat) : Pat.cs (a ++ b) = Pat.cs a ++ Pat.cs b := by
 rw [Pat.cs_cc, Pat.cs_cc, Pat.cs_cc, List.map_append]
theorem spec_l3Mutate_a {b : Str} (hb : b.length ≤ 2000) {p : Pat} {q : Nat} (hq : q ≤ 1000000) (hok : p.ok) (hc4 : ¬ (pickV b q 30 = 4 ∧ p.kids ≠ [])) :
  FnD Try.prog 56 [.ref 900 0, .agg [.d (.i p.op), .d (.i p.ctor), .d (.i p.n), .d (.i p.m), .d (.i p.var), .d (encPats p.kids)]] [(900, some (rdB b q))]
   (.agg [.d (.i (mutP b p q).1.op), .d (.i (mutP b p q).1.ctor), .d (.i (mutP b p q).1.n), .d (.i (mutP b p q).1.m), .d (.i (mutP b p q).1.var), .d (encPats (mutP b p q).1.kids)]) [(900, some (rdB b (mutP b p q).2))] := by
 rw [Pat.ok_iff] at hok
 have hkl := Pat.cs_len p.kids
 refine bd Try.f56 57 [] [] fun w0 F0 own kept hk => ?_
 refine Walk.box (id := 3003) .none rfl rfl rfl rfl rfl rfl rfl ?_
 refine Walk.alloc (id := 3004) tz43 rfl .none rfl rfl rfl rfl ?_
 refine tv ?_
 refine Walk.alloc (id := 3005) tz43 rfl .none rfl rfl rfl rfl ?_
 refine Walk.store ty43 .none rfl rfl rfl rfl rfl rfl (by simp) rfl ?_
 refine tv ?_
 refine Walk.sliceEmptyG 1 sl41 .none rfl rfl ?_
 refine ev ?_
 refine Walk.append sl41 zz43 rfl .none rfl rfl rfl rfl (htokL rfl (by first | rfl | (simp; done) | (simp; omega))) (by (intro x hx; exact Pat.cs_rows x hx)) (by simp [Pat.cs_len]; omega) (by simp [Pat.cs_len]; omega) ?_
 refine ev ?_
 refine Walk.store ty41 .none rfl rfl rfl rfl rfl rfl (by simp) rfl ?_
 refine tv ?_
 refine Walk.call (cr := []) cal48 (spec_pick_fn (p := q) (n := 30) hb (by omega) (by omega)) rfl .none rfl rfl (LeL.refl _) ⟨rfl, trivial⟩ rfl rfl rfl ?_
 refine tv ?_
 refine sq (fun h1 h1p h1s => ?_) fun h1 h1p h1s => ?_
 ·try simp only [Q, Pat.cs_len] at h1p
  refine Walk.sliceLit sl93 tz3 rfl (by decide) (ks := [0, 1, 2, 3, 4]) (xs := [_, _, _, _, _]) rfl rfl (by decide) (by decide) .none rfl rfl rfl rfl ?_
  refine Walk.call (cr := []) cal63 (spec_num_fn (p := q + 1) (l := [0, 7, 1, 2, 5]) hb (by omega) (by simp) (by simp)) rfl .none rfl rfl (LeL.refl _) ⟨rfl, trivial⟩ rfl rfl rfl ?_
  refine ev ?_
  refine Walk.store ty3 .none rfl rfl rfl rfl rfl rfl (by simp) rfl ?_
  refine tv ?_
  refine Walk.store ty43 .none rfl rfl rfl rfl rfl rfl (by simp) rfl ?_
  refine tv ?_
  refine rn [(900, some (rdB b (mutP b p q).2))] (.cons (.cellA ty43 rfl rfl rfl) .nil) (.agg (.cons (.eqd ?_) (.cons (.eqd ?_) (.cons (.eqd ?_) (.cons (.eqd ?_) (.cons (.eqd ?_) (.cons (.gld ?_) .nil))))))) ⟨rfl, rfl⟩ (SubO.get ⟨.inr (by unfold mutP; (rw [if_pos (by omega)]; all_goals first | rfl | (show _ = Pat.cs (p.kids ++ [varP0]); rw [Pat.cs_app]; all_goals rfl))), ⟨.inl rfl, trivial⟩⟩) (boxOK rfl)
  all_goals (unfold mutP; (rw [if_pos (by omega)]; all_goals first | rfl | (show _ = Pat.cs (p.kids ++ [varP0]); rw [Pat.cs_app]; all_goals rfl)))
 ·try simp only [Q, Pat.cs_len] at h1p
  refine sq (fun h2 h2p h2s => ?_) fun h2 h2p h2s => ?_
  ·try simp only [Q, Pat.cs_len] at h2p
   refine Walk.sliceLit sl93 tz3 rfl (by decide) (ks := [0, 1, 2]) (xs := [_, _, _]) rfl rfl (by decide) (by decide) .none rfl rfl rfl rfl ?_
   refine Walk.call (cr := []) cal63 (spec_num_fn (p := q + 1) (l := [6, -1, 1]) hb (by omega) (by simp) (by simp)) rfl .none rfl rfl (LeL.refl _) ⟨rfl, trivial⟩ rfl rfl rfl ?_
   refine ev ?_
   refine Walk.store ty3 .none rfl rfl rfl rfl rfl rfl (by simp) rfl ?_
   refine tv ?_
   refine Walk.store ty43 .none rfl rfl rfl rfl rfl rfl (by simp) rfl ?_
   refine tv ?_
   refine rn [(900, some (rdB b (mutP b p q).2))] (.cons (.cellA ty43 rfl rfl rfl) .nil) (.agg (.cons (.eqd ?_) (.cons (.eqd ?_) (.cons (.eqd ?_) (.cons (.eqd ?_) (.cons (.eqd ?_) (.cons (.gld ?_) .nil))))))) ⟨rfl, rfl⟩ (SubO.get ⟨.inr (by unfold mutP; (rw [if_neg (by omega), if_pos (by omega)]; all_goals first | rfl | (show _ = Pat.cs (p.kids ++ [varP0]); rw [Pat.cs_app]; all_goals rfl))), ⟨.inl rfl, trivial⟩⟩) (boxOK rfl)
   all_goals (unfold mutP; (rw [if_neg (by omega), if_pos (by omega)]; all_goals first | rfl | (show _ = Pat.cs (p.kids ++ [varP0]); rw [Pat.cs_app]; all_goals rfl)))
  ·try simp only [Q, Pat.cs_len] at h2p
   refine sq (fun h3 h3p h3s => ?_) fun h3 h3p h3s => ?_
   ·try simp only [Q, Pat.cs_len] at h3p
    refine Walk.sliceLit sl93 tz3 rfl (by decide) (ks := [0, 1, 2]) (xs := [_, _, _]) rfl rfl (by decide) (by decide) .none rfl rfl rfl rfl ?_
    refine Walk.call (cr := []) cal63 (spec_num_fn (p := q + 1) (l := [9, -1, 1]) hb (by omega) (by simp) (by simp)) rfl .none rfl rfl (LeL.refl _) ⟨rfl, trivial⟩ rfl rfl rfl ?_
    refine ev ?_
    refine Walk.store ty3 .none rfl rfl rfl rfl rfl rfl (by simp) rfl ?_
    refine tv ?_
    refine Walk.store ty43 .none rfl rfl rfl rfl rfl rfl (by simp) rfl ?_
    refine tv ?_
    refine rn [(900, some (rdB b (mutP b p q).2))] (.cons (.cellA ty43 rfl rfl rfl) .nil) (.agg (.cons (.eqd ?_) (.cons (.eqd ?_) (.cons (.eqd ?_) (.cons (.eqd ?_) (.cons (.eqd ?_) (.cons (.gld ?_) .nil))))))) ⟨rfl, rfl⟩ (SubO.get ⟨.inr (by unfold mutP; (rw [if_neg (by omega), if_neg (by omega), if_pos (by omega)]; all_goals first | rfl | (show _ = Pat.cs (p.kids ++ [varP0]); rw [Pat.cs_app]; all_goals rfl))), ⟨.inl rfl, trivial⟩⟩) (boxOK rfl)
    all_goals (unfold mutP; (rw [if_neg (by omega), if_neg (by omega), if_pos (by omega)]; all_goals first | rfl | (show _ = Pat.cs (p.kids ++ [varP0]); rw [Pat.cs_app]; all_goals rfl)))
   ·try simp only [Q, Pat.cs_len] at h3p
    refine sq (fun h4 h4p h4s => ?_) fun h4 h4p h4s => ?_
    ·try simp only [Q, Pat.cs_len] at h4p
     refine Walk.build st43 (ks := [0]) (xs := [_]) rfl rfl .none rfl rfl rfl ?_
     refine Walk.sliceLit sl41 tz43 rfl (by decide) (ks := [0]) (xs := [_]) rfl rfl (by decide) (by decide) .none rfl rfl rfl rfl ?_
     refine Walk.append sl41 zz43 rfl .none rfl rfl rfl rfl (htokL rfl (by first | rfl | (simp; done) | (simp; omega))) (by (intro x hx; simp only [List.mem_singleton] at hx; subst hx; rfl)) (by simp [Pat.cs_len]; omega) (by simp [Pat.cs_len]; omega) ?_
     refine ev ?_
     refine Walk.store ty41 .none rfl rfl rfl rfl rfl rfl (by simp) rfl ?_
     refine tv ?_
     refine Walk.store ty43 .none rfl rfl rfl rfl rfl rfl (by simp) rfl ?_
     refine tv ?_
     refine rn [(900, some (rdB b (mutP b p q).2))] (.cons (.cellA ty43 rfl rfl rfl) .nil) (.agg (.cons (.eqd ?_) (.cons (.eqd ?_) (.cons (.eqd ?_) (.cons (.eqd ?_) (.cons (.eqd ?_) (.cons (.gld ?_) .nil))))))) ⟨rfl, rfl⟩ (SubO.get ⟨.inr (by unfold mutP; (rw [if_neg (by omega), if_neg (by omega), if_neg (by omega), if_pos (by omega)]; all_goals first | rfl | (show _ = Pat.cs (p.kids ++ [varP0]); rw [Pat.cs_app]; all_goals rfl))), ⟨.inl rfl, trivial⟩⟩) (boxOK rfl)
     all_goals (unfold mutP; (rw [if_neg (by omega), if_neg (by omega), if_neg (by omega), if_pos (by omega)]; all_goals first | rfl | (show _ = Pat.cs (p.kids ++ [varP0]); rw [Pat.cs_app]; all_goals rfl)))
    ·try simp only [Q, Pat.cs_len] at h4p
     refine sq (fun h5 h5p h5s => ?_) fun h5 h5p h5s => ?_
     ·try simp only [Q, Pat.cs_len] at h5p
      refine sq (fun h6 h6p h6s => ?_) fun h6 h6p h6s => ?_
      ·try simp only [Q, Pat.cs_len] at h6p
       exfalso; apply hc4; refine ⟨by omega, fun hh => ?_⟩; rw [hh] at h6p; exact absurd h6p (by decide) --stop
      ·try simp only [Q, Pat.cs_len] at h6p
       refine Walk.store ty43 .none rfl rfl rfl rfl rfl rfl (by simp) rfl ?_
       refine tv ?_
       refine rn [(900, some (rdB b (mutP b p q).2))] (.cons (.cellA ty43 rfl rfl rfl) .nil) (.agg (.cons (.eqd ?_) (.cons (.eqd ?_) (.cons (.eqd ?_) (.cons (.eqd ?_) (.cons (.eqd ?_) (.cons (.gld ?_) .nil))))))) ⟨rfl, rfl⟩ (SubO.get ⟨.inr (by unfold mutP; (rw [if_neg (by omega), if_neg (by omega), if_neg (by omega), if_neg (by omega), if_pos (by omega)]; all_goals first | rfl | (show _ = Pat.cs (p.kids ++ [varP0]); rw [Pat.cs_app]; all_goals rfl))), ⟨.inl rfl, trivial⟩⟩) (boxOK rfl)
       all_goals (unfold mutP; (have hnk : p.kids = [] := (by rcases hke : p.kids with _ | ⟨y, r⟩; rfl; exact absurd ⟨by omega, by rw [hke]; simp⟩ hc4); rw [if_neg (by omega), if_neg (by omega), if_neg (by omega), if_neg (by omega), if_pos (by omega), hnk]; all_goals rfl))
     ·try simp only [Q, Pat.cs_len] at h5p
      refine sq (fun h7 h7p h7s => ?_) fun h7 h7p h7s => ?_
      ·try simp only [Q, Pat.cs_len] at h7p
       refine Walk.sliceLit sl93 tz3 rfl (by decide) (ks := [0, 1, 2]) (xs := [_, _, _]) rfl rfl (by decide) (by decide) .none rfl rfl rfl rfl ?_
       refine Walk.call (cr := []) cal63 (spec_num_fn (p := q + 1) (l := [10, -1, 5]) hb (by omega) (by simp) (by simp)) rfl .none rfl rfl (LeL.refl _) ⟨rfl, trivial⟩ rfl rfl rfl ?_
       refine ev ?_
       refine Walk.store ty3 .none rfl rfl rfl rfl rfl rfl (by simp) rfl ?_
       refine tv ?_
       refine Walk.store ty43 .none rfl rfl rfl rfl rfl rfl (by simp) rfl ?_
       refine tv ?_
       refine rn [(900, some (rdB b (mutP b p q).2))] (.cons (.cellA ty43 rfl rfl rfl) .nil) (.agg (.cons (.eqd ?_) (.cons (.eqd ?_) (.cons (.eqd ?_) (.cons (.eqd ?_) (.cons (.eqd ?_) (.cons (.gld ?_) .nil))))))) ⟨rfl, rfl⟩ (SubO.get ⟨.inr (by unfold mutP; (rw [if_neg (by omega), if_neg (by omega), if_neg (by omega), if_neg (by omega), if_neg (by omega), if_pos (by omega)]; all_goals first | rfl | (show _ = Pat.cs (p.kids ++ [varP0]); rw [Pat.cs_app]; all_goals rfl))), ⟨.inl rfl, trivial⟩⟩) (boxOK rfl)
       all_goals (unfold mutP; (rw [if_neg (by omega), if_neg (by omega), if_neg (by omega), if_neg (by omega), if_neg (by omega), if_pos (by omega)]; all_goals first | rfl | (show _ = Pat.cs (p.kids ++ [varP0]); rw [Pat.cs_app]; all_goals rfl)))
      ·try simp only [Q, Pat.cs_len] at h7p
       refine Walk.store ty43 .none rfl rfl rfl rfl rfl rfl (by simp) rfl ?_
       refine tv ?_
       refine rn [(900, some (rdB b (mutP b p q).2))] (.cons (.cellA ty43 rfl rfl rfl) .nil) (.agg (.cons (.eqd ?_) (.cons (.eqd ?_) (.cons (.eqd ?_) (.cons (.eqd ?_) (.cons (.eqd ?_) (.cons (.gld ?_) .nil))))))) ⟨rfl, rfl⟩ (SubO.get ⟨.inr (by unfold mutP; (rw [if_neg (by omega), if_neg (by omega), if_neg (by omega), if_neg (by omega), if_neg (by omega), if_neg (by omega)]; all_goals first | rfl | (show _ = Pat.cs (p.kids ++ [varP0]); rw [Pat.cs_app]; all_goals rfl))), ⟨.inl rfl, trivial⟩⟩) (boxOK rfl)
       all_goals (unfold mutP; (rw [if_neg (by omega), if_neg (by omega), if_neg (by omega), if_neg (by omega), if_neg (by omega), if_neg (by omega)]; all_goals first | rfl | (show _ = Pat.cs (p.kids ++ [varP0]); rw [Pat.cs_app]; all_goals rfl)))
theorem spec_l3Mutate_b {b : Str} (hb : b.length ≤ 2000) {p : Pat} {q : Nat} (hq : q ≤ 1000000) (hok : p.ok) (hc4 : pickV b q 30 = 4) {y : Pat} {r : List Pat} (hk4 : p.kids = y :: r) :
  FnD Try.prog 56 [.ref 900 0, .agg [.d (.i p.op), .d (.i p.ctor), .d (.i p.n), .d (.i p.m), .d (.i p.var), .d (encPats p.kids)]] [(900, some (rdB b q))]
   (.agg [.d (.i (mutP b p q).1.op), .d (.i (mutP b p q).1.ctor), .d (.i (mutP b p q).1.n), .d (.i (mutP b p q).1.m), .d (.i (mutP b p q).1.var), .d (encPats (mutP b p q).1.kids)]) [(900, some (rdB b (mutP b p q).2))] := by
 rw [Pat.ok_iff] at hok
 have hkl := Pat.cs_len p.kids
 have hcs : Pat.cs p.kids = y.cc :: Pat.cs r := by rw [Pat.cs_cc, hk4, List.map_cons, ← Pat.cs_cc]
 have hrl : (Pat.cs p.kids).length = (Pat.cs r).length + 1 := by rw [hcs]; rfl
 have hmu : mutP b p q = (⟨p.op, p.ctor, p.n, p.m, p.var, varP0 :: r⟩, q + 1) := by
  unfold mutP; rw [if_neg (by omega), if_neg (by omega), if_neg (by omega), if_neg (by omega), if_pos hc4, hk4]; rfl
 refine bd Try.f56 57 [] [17] fun w0 F0 own kept hk => ?_
 refine Walk.box (id := 3003) .none rfl rfl rfl rfl rfl rfl rfl ?_
 refine Walk.alloc (id := 3004) tz43 rfl .none rfl rfl rfl rfl ?_
 refine tv ?_
 refine Walk.alloc (id := 3005) tz43 rfl .none rfl rfl rfl rfl ?_
 refine Walk.store ty43 .none rfl rfl rfl rfl rfl rfl (by simp) rfl ?_
 refine tv ?_
 refine Walk.sliceEmptyGV 1 sl41 .none rfl rfl ?_
 refine ev ?_
 refine Walk.appendM hk rfl (by rw [hcs]; simp) sl41 zz43 .none rfl rfl rfl rfl (htokL rfl (by first | rfl | (simp; done) | (simp; omega))) (by intro x hx; exact Pat.cs_rows x hx) (by simp [Pat.cs_len]; omega) (by simp [Pat.cs_len]; omega) ?_
 refine ev ?_
 refine Walk.store ty41 .none rfl rfl rfl rfl rfl rfl (by simp) rfl ?_
 refine tv ?_
 refine Walk.call (cr := []) cal48 (spec_pick_fn (p := q) (n := 30) hb (by omega) (by omega)) rfl .none rfl rfl (LeL.refl _) ⟨rfl, trivial⟩ rfl rfl rfl ?_
 refine tv ?_
 refine sq (fun h1 h1p h1s => ?_) fun h1 h1p h1s => ?_
 ·try simp only [Q, Pat.cs_len] at h1p
  exfalso; omega --stop
 ·try simp only [Q, Pat.cs_len] at h1p
  refine sq (fun h2 h2p h2s => ?_) fun h2 h2p h2s => ?_
  ·try simp only [Q, Pat.cs_len] at h2p
   exfalso; omega --stop
  ·try simp only [Q, Pat.cs_len] at h2p
   refine sq (fun h3 h3p h3s => ?_) fun h3 h3p h3s => ?_
   ·try simp only [Q, Pat.cs_len] at h3p
    exfalso; omega --stop
   ·try simp only [Q, Pat.cs_len] at h3p
    refine sq (fun h4 h4p h4s => ?_) fun h4 h4p h4s => ?_
    ·try simp only [Q, Pat.cs_len] at h4p
     exfalso; omega --stop
    ·try simp only [Q, Pat.cs_len] at h4p
     refine sq (fun h5 h5p h5s => ?_) fun h5 h5p h5s => ?_
     ·try simp only [Q, Pat.cs_len] at h5p
      refine sq (fun h6 h6p h6s => ?_) fun h6 h6p h6s => ?_
      ·try simp only [Q, Pat.cs_len] at h6p
       refine Walk.build st43 (ks := [0]) (xs := [_]) rfl rfl .none rfl rfl rfl ?_
       refine Walk.idxM (i := 0) sl41 .none rfl rfl rfl rfl (by simp; omega) ?_
       refine Walk.store ty43 .none rfl rfl rfl rfl rfl rfl (by simp) ((put0 hcs rfl)) ?_
       refine tv ?_
       refine CWp.frzC hk 3005 5 1 _ 6 rfl rfl rfl rfl rfl (by rw [List.nil_append, hrl]; exact chunk0 rfl rfl (fun x hx => Pat.cs_rows x hx)) rfl ?_
       refine evc [] [] ?_
       refine Walk.store ty43 .none rfl rfl rfl rfl rfl rfl (by simp) rfl ?_
       refine tv ?_
       refine rn [(900, some (rdB b (mutP b p q).2))] (.cons (.cellA ty43 rfl rfl rfl) .nil) (.agg (.cons (.eqd ?_) (.cons (.eqd ?_) (.cons (.eqd ?_) (.cons (.eqd ?_) (.cons (.eqd ?_) (.cons (.eqd ?_) .nil))))))) ⟨rfl, rfl⟩ (SubO.get ⟨.inr (by rw [hmu]; all_goals rfl), ⟨.inl rfl, trivial⟩⟩) (boxOK rfl)
       all_goals (rw [hmu]; all_goals rfl)
      ·try simp only [Q, Pat.cs_len] at h6p
       exfalso; rw [List.nil_append, hrl] at h6p; omega --stop
     ·try simp only [Q, Pat.cs_len] at h5p
      exfalso; omega --stop
theorem spec_l3Mutate_fn {b : Str} (hb : b.length ≤ 2000) {p : Pat} {q : Nat} (hq : q ≤ 1000000) (hok : p.ok) :
  FnD Try.prog 56 [.ref 900 0, .agg [.d (.i p.op), .d (.i p.ctor), .d (.i p.n), .d (.i p.m), .d (.i p.var), .d (encPats p.kids)]] [(900, some (rdB b q))]
   (.agg [.d (.i (mutP b p q).1.op), .d (.i (mutP b p q).1.ctor), .d (.i (mutP b p q).1.n), .d (.i (mutP b p q).1.m), .d (.i (mutP b p q).1.var), .d (encPats (mutP b p q).1.kids)]) [(900, some (rdB b (mutP b p q).2))] := by
 by_cases h : pickV b q 30 = 4 ∧ p.kids ≠ []
 ·cases hk : p.kids with
  | nil => exact absurd hk h.2
  | cons y r => rw [← hk]; exact spec_l3Mutate_b hb hq hok h.1 hk
 ·exact spec_l3Mutate_a hb hq hok h
end Go.Proofs.Ytflgpdjbgfkhoaa
namespace Go.Proofs.Ytflgpdjbgfkhoaa
open Go
set_option linter.unusedSimpArgs false
set_option linter.unusedVariables false
end Go.Proofs.Ytflgpdjbgfkhoaa
namespace Go.Proofs.Ytflgpdjbgfkhoaa
open Go
set_option linter.unusedSimpArgs false
set_option linter.unusedVariables false
set_option maxRecDepth 100000
set_option maxHeartbeats 2000000
theorem Val.cs_cc (l : List Val) : Val.cs l = l.map Val.cc := by
 rw [Val.cs_eq]; exact List.map_congr_left (fun v _ => Val.c_eq v)
theorem spec_l2Draw_fn {b : Str} {w : List Data} (hb : b.length ≤ 2000) (hd : Dp w) (hf : Few w) : ∀ (n : Nat) {a k m : Int} {p : Nat}, Deep w n ⟨a, k⟩ m → (n : Int) - 10 ≤ m → n ≤ 5 → p + bdV n ≤ 1000000 →
  FnD Try.prog 71 [.ref 900 0, .d (encDatas w), .d (encTab (w.length * 4) (depthT w)), .agg [.d (.i a), .d (.i k)], .d (.i m)] [(900, some (rdB b p))]
   (.agg [.d (.i (drawV b w (depthT w) n ⟨a, k⟩ m p).1.ctor), .d (.i (drawV b w (depthT w) n ⟨a, k⟩ m p).1.num), .d (encVals (drawV b w (depthT w) n ⟨a, k⟩ m p).1.kids)]) [(900, some (rdB b (drawV b w (depthT w) n ⟨a, k⟩ m p).2))]
 | 0, a, k, m, p, h, _, _, _ => by have := h.pos; have := h.le; omega
 | n + 1, a, k, m, p, h, hm, hn5, hp => by
  have ht := ins_tyin h.ins
  have hml := h.ml
  have h4 := hd.four
  have hbd : bdV (n + 1) = 1 + 3 * bdV n := rfl
  have hfb : ∀ s, depthT w s ≤ 100000 := rowT_bd hd (k := w.length * 4 + 1) (s := 0) (by omega) (by omega) (pre := []) (by simp)
  have hcl := vctors_len hd.wt ht
  have hfl : (fineL w (depthT w) ⟨a, k⟩ m).length ≤ (vctors w ⟨a, k⟩).length := List.length_filter_le _ _
  have hflm : ((((vctors w ⟨a, k⟩).filter (fineB w (depthT w) ⟨a, k⟩ m)).map fun n => [D.i n]).length : Int) = (fineL w (depthT w) ⟨a, k⟩ m).length := by rw [List.length_map]; rfl
  have hfp := fun hne => fine_pos hd h hne
  have v14 := fun hh => pickV_bd (b := b) (p := p) (n := ((fineL w (depthT w) ⟨a, k⟩ m).length : Int)) hh
  have hmem := fun hne => pick_fine hd h hne b p
  have hdm := drawV_1 (b := b) (w := w) (f := depthT w) (n := n) (p := p) (t := ⟨a, k⟩) (m := m)
  have hdm2 := fun hne => drawV_2 (b := b) (w := w) (f := depthT w) (n := n) (p := p) (t := ⟨a, k⟩) (m := m) hne rfl
  generalize hcc : nth (fineL w (depthT w) ⟨a, k⟩ m) (pickV b p (fineL w (depthT w) ⟨a, k⟩ m).length).toNat = cc at *
  have hfm := fun hne => fineL_mem (hmem hne)
  have hkid := fun hne => deep_kid hd h (hmem hne)
  have hfw := fun hne => (hf ⟨a, k⟩ cc (hfm hne).1 ht).1
  have hok := fun u q hu => drawV_ok (b := b) hd hf n u (m - 1) q hu
  have hat : ¬ a = -1 → (((vctors w ⟨a, k⟩).filter (fineB w (depthT w) ⟨a, k⟩ m)).map fun n => [D.i n])[(pickV b p (fineL w (depthT w) ⟨a, k⟩ m).length).toNat]? = some [D.i cc] := fun hne => by
   rw [← hcc]; exact at_nth (l := fineL w (depthT w) ⟨a, k⟩ m) (by have := v14 (by have := hfp hne; omega); omega)
  refine bd Try.f71 98 [] [9, 11] fun w0 F0 own kept hk => ?_
  refine Walk.box (id := 3008) .none rfl rfl rfl rfl rfl rfl rfl ?_
  refine Walk.alloc (id := 3010) tz35 rfl .none rfl rfl rfl rfl ?_
  refine tv ?_
  refine sq (fun h1 h1p h1s => ?_) fun h1 h1p h1s => ?_
  ·try simp only [Q] at h1p
   refine Walk.call (cr := []) cal48 (spec_pick_fn (p := p) (n := 10) hb (by omega) (by omega)) rfl .none rfl rfl (LeL.refl _) ⟨rfl, trivial⟩ rfl rfl rfl ?_
   refine Walk.build st35 (ks := [0, 1]) (xs := [_, _]) rfl rfl .none rfl rfl rfl ?_
   refine Walk.store ty35 .none rfl rfl rfl rfl rfl rfl (by simp) rfl ?_
   refine tv ?_
   refine rn [(900, some (rdB b (drawV b w (depthT w) (n + 1) ⟨a, k⟩ m p).2))] (.cons (.cellA ty35 rfl rfl rfl) .nil) (.agg (.cons (.eqd ?_) (.cons (.eqd ?_) (.cons (.nild ?_) .nil)))) ⟨rfl, rfl⟩ (SubO.get ⟨.inr (by first | (rw [hdm (by omega)]; all_goals rfl) | (rw [hdm2 (by omega)]; have hfin := hg2.2.2.2; simp only [dV, List.append_nil] at hfin; rw [← hfin]; all_goals rfl)), ⟨.inl rfl, trivial⟩⟩) (boxOK rfl)
   all_goals (first | (rw [hdm (by omega)]; all_goals rfl) | (rw [hdm2 (by omega)]; have hfin := hg2.2.2.2; simp only [dV, List.append_nil] at hfin; rw [← hfin]; all_goals first | rfl | (show _ = D.sl (Val.cs _); rw [Val.cs_cc]; all_goals rfl) | (show _ = Val.cs _; rw [Val.cs_cc]; all_goals rfl)))
  ·try simp only [Q] at h1p
   refine Walk.call (cr := []) cal76 (spec_l1Ctors_v hd.wt ht) rfl .none rfl rfl (LeL.refl _) trivial rfl rfl rfl ?_
   refine ev ?_
   refine Walk.sliceEmptyG 5 sl93 .none rfl rfl ?_
   refine ev ?_
   refine CWp.loopX (ι := List (Int) × List (Int)) hk (fun x => [(13, .d (.i (x.1.length : Int))), (12, .gl 5 ((x.1.filter (fineB w (depthT w) ⟨a, k⟩ m)).map fun n => [D.i n]))]) [14, 28, 29, 30, 31, 32, 33, 34, 35, 36, 37, 38, 39, 40, 41, 42, 43, 44, 45, 46, 47, 48, 49, 50, 51, 52, 53, 54, 55, 56, 57, 58, 59, 60, 61, 62] (fun x => [(5, some (.tok (((x.1.filter (fineB w (depthT w) ⟨a, k⟩ m)).map fun n => [D.i n])).length 1))]) (fun x => x.1 ++ x.2 = vctors w ⟨a, k⟩) (fun x => x.2.length) ([], vctors w ⟨a, k⟩) (by simp) ⟨⟨_, rfl, (LeA.eqi (by first | rfl | (simp; done) | omega | (rw [fine_yes (by assumption)]; all_goals rfl) | (rw [fine_no (by assumption)]; all_goals rfl) | (rw [fine_yes (by assumption)]; simp; done)))⟩, ⟨⟨_, rfl, (LeA.glg (by first | rfl | (simp; done) | omega | (rw [fine_yes (by assumption)]; all_goals rfl) | (rw [fine_no (by assumption)]; all_goals rfl) | (rw [fine_yes (by assumption)]; simp; done)))⟩, trivial⟩⟩ ⟨beq_nat_eq (by first | rfl | (simp; done) | (simp; omega) | (first | rfl | (simp; done) | omega | (rw [fine_yes (by assumption)]; all_goals rfl) | (rw [fine_no (by assumption)]; all_goals rfl) | (rw [fine_yes (by assumption)]; simp; done))), trivial⟩ (fun x => rfl) (fun x hg1 => ?_)
   obtain ⟨pre, rest⟩ := x
   dsimp only at hg1 ⊢
   refine evc [] [9, 11] ?_
   refine sq (fun h2 h2p h2s => ?_) fun h2 h2p h2s => ?_
   ·try simp only [Q] at h2p
    rcases rest with _ | ⟨y, rest⟩
    ·exfalso; simp_all
    refine Walk.idx sl93 .none rfl rfl rfl rfl (zip_at hg1) rfl ?_
    refine evd [] [] ?_
    refine Walk.call (cr := []) cal88 (spec_l1Most_fn hd.wt ht (c := y) (by rw [← hg1]; simp) (by omega) hfb (args_ins hd h.ins (by rw [← hg1]; simp))) rfl .none rfl rfl (LeL.refl _) trivial rfl rfl rfl ?_
    refine evd [] [] ?_
    refine dr ?_
    refine CWp.regionJ ?_
    refine WRest.join 14 [(55, .d (.bool (fineB w (depthT w) ⟨a, k⟩ m y)))] [42, 43, 44, 45, 46, 47, 48, 49, 50, 51, 52, 53, 54] ?_ ?_
    ·
     refine ev ?_
     refine sq (fun h3 h3p h3s => ?_) fun h3 h3p h3s => ?_
     ·try simp only [Q] at h3p
      refine sq (fun h4 h4p h4s => ?_) fun h4 h4p h4s => ?_
      ·try simp only [Q] at h4p
       exact jn rfl (LeA.eqb (by first | rfl | (unfold fineB; rw [Bool.eq_iff_iff]; simp_all; done) | (unfold fineB; rw [Bool.eq_iff_iff]; simp_all; omega)))
      ·try simp only [Q] at h4p
       refine Walk.call (cr := []) cal70 (spec_l1Depth_fn h.ins (by omega)) rfl (.some rfl rfl h4) rfl rfl (LeL.refl _) trivial rfl rfl rfl ?_
       refine evs [] [(44, true), (48, false)] ?_ ⟨⟨_, rfl, h3⟩, ⟨_, rfl, h4⟩, trivial⟩
       exact jn rfl (LeA.eqb (by first | rfl | (unfold fineB; rw [Bool.eq_iff_iff]; simp_all; done) | (unfold fineB; rw [Bool.eq_iff_iff]; simp_all; omega)))
     ·try simp only [Q] at h3p
      exact jn rfl (LeA.eqb (by first | rfl | (unfold fineB; rw [Bool.eq_iff_iff]; simp_all; done) | (unfold fineB; rw [Bool.eq_iff_iff]; simp_all; omega)))
    refine WRest.done ?_
    refine tv ?_
    refine sq (fun h5 h5p h5s => ?_) fun h5 h5p h5s => ?_
    ·try simp only [Q] at h5p
     refine Walk.idx sl93 .none rfl rfl rfl rfl (zip_at hg1) rfl ?_
     refine ev ?_
     refine Walk.sliceLit sl93 tz3 rfl (by decide) (ks := [0]) (xs := [_]) rfl rfl (by decide) (by decide) .none rfl rfl rfl rfl ?_
     refine Walk.append sl93 zz3 rfl .none rfl rfl rfl rfl (htokL rfl (by first | rfl | (simp; done) | (simp; omega))) (by simp) (by first | (have hz := congrArg List.length hg2.1; have := hfw (by omega); simp at hz ⊢; omega) | (have hz := congrArg List.length hg1; have hq := List.length_filter_le (fineB w (depthT w) ⟨a, k⟩ m) pre; simp at hz ⊢; omega)) (by first | (have hz := congrArg List.length hg2.1; have := hfw (by omega); simp at hz ⊢; omega) | (have hz := congrArg List.length hg1; have hq := List.length_filter_le (fineB w (depthT w) ⟨a, k⟩ m) pre; simp at hz ⊢; omega)) ?_
     refine ev ?_
     refine ar ?_
     refine Exists.intro ((pre ++ [y], rest)) ⟨(by have hz := hg1; rw [← hz]; simp), (by simp), Sub.x (by kernel_rfl) (by kernel_rfl) ⟨⟨_, rfl, (LeA.eqi (by first | rfl | (simp; done) | omega | (rw [fine_yes (by assumption)]; all_goals rfl) | (rw [fine_no (by assumption)]; all_goals rfl) | (rw [fine_yes (by assumption)]; simp; done)))⟩, ⟨⟨_, rfl, (LeA.glg (by first | rfl | (simp; done) | omega | (rw [fine_yes (by assumption)]; all_goals rfl) | (rw [fine_no (by assumption)]; all_goals rfl) | (rw [fine_yes (by assumption)]; simp; done)))⟩, trivial⟩⟩ (by kernel_rfl) (by kernel_rfl) ⟨beq_nat_eq (by first | rfl | (simp; done) | (simp; omega) | (first | rfl | (simp; done) | omega | (rw [fine_yes (by assumption)]; all_goals rfl) | (rw [fine_no (by assumption)]; all_goals rfl) | (rw [fine_yes (by assumption)]; simp; done))), trivial⟩⟩
    ·try simp only [Q] at h5p
     refine ar ?_
     refine Exists.intro ((pre ++ [y], rest)) ⟨(by have hz := hg1; rw [← hz]; simp), (by simp), Sub.x (by kernel_rfl) (by kernel_rfl) ⟨⟨_, rfl, (LeA.eqi (by first | rfl | (simp; done) | omega | (rw [fine_yes (by assumption)]; all_goals rfl) | (rw [fine_no (by assumption)]; all_goals rfl) | (rw [fine_yes (by assumption)]; simp; done)))⟩, ⟨⟨_, rfl, (LeA.glg (by first | rfl | (simp; done) | omega | (rw [fine_yes (by assumption)]; all_goals rfl) | (rw [fine_no (by assumption)]; all_goals rfl) | (rw [fine_yes (by assumption)]; simp; done)))⟩, trivial⟩⟩ (by kernel_rfl) (by kernel_rfl) ⟨beq_nat_eq (by first | rfl | (simp; done) | (simp; omega) | (first | rfl | (simp; done) | omega | (rw [fine_yes (by assumption)]; all_goals rfl) | (rw [fine_no (by assumption)]; all_goals rfl) | (rw [fine_yes (by assumption)]; simp; done))), trivial⟩⟩
   ·try simp only [Q] at h2p
    have hrest : rest = [] := by
     rcases rest with _ | ⟨a, b⟩
     ·rfl
     ·exfalso; have hz := congrArg List.length (hg1); simp only [List.length_append, List.length_cons, List.length_map] at hz; omega
    subst hrest
    rw [List.append_nil] at hg1; subst hg1
    refine evc [] [] ?_
    refine Walk.call (cr := []) cal48 (spec_pick_fn (p := p) (n := ((((vctors w ⟨a, k⟩).filter (fineB w (depthT w) ⟨a, k⟩ m)).map fun n => [D.i n]).length : Int)) hb (by omega) (by omega)) rfl .none rfl rfl (LeL.refl _) ⟨rfl, trivial⟩ rfl rfl rfl ?_
    refine Walk.idxG (i := (pickV b p (fineL w (depthT w) ⟨a, k⟩ m).length).toNat) sl93 .none rfl rfl rfl (by rw [hflm]; have := v14 (by have := hfp (by omega); omega); omega) (hat (by omega)) rfl ?_
    refine ev ?_
    refine Walk.build st35 (ks := [0]) (xs := [_]) rfl rfl .none rfl rfl rfl ?_
    refine Walk.alloc (id := 3015) tz35 rfl .none rfl rfl rfl rfl ?_
    refine Walk.store ty35 .none rfl rfl rfl rfl rfl rfl (by simp) rfl ?_
    refine tv ?_
    refine Walk.call (cr := []) cal77 (spec_l1Args_v hd.wt ht (hfm (by omega)).1) rfl .none rfl rfl (LeL.refl _) trivial rfl rfl rfl ?_
    refine ev ?_
    refine CWp.tokB 3015 2 1 3 rfl rfl rfl rfl ?_
    refine CWp.loopX (ι := List (Ty) × List (Ty) × (Nat) × (List Val)) hk (fun x => [(17, .d (.i (x.1.length : Int)))]) [76, 77, 78, 79, 80, 81, 82, 83, 84, 85, 86, 87, 88, 89, 90, 91, 92, 93, 94, 95, 96] (fun x => [(900, some (.box [.d (encBytes b), .d (.i (x.2.2.1 : Int))])), (3015, some (.box [.d (.i cc), .d (.i 0), .gl 1 (x.2.2.2.map Val.cc)])), (1, some (.tok (x.2.2.2.map Val.cc).length 3))]) (fun x => x.1 ++ x.2.1 = argsOf w ⟨a, k⟩ cc ∧ x.2.2.1 ≤ p + 1 + x.1.length * bdV n ∧ x.2.2.2.length = x.1.length ∧ (x.2.2.2 ++ (dV (dW b w n m) x.2.1 x.2.2.1).1, (dV (dW b w n m) x.2.1 x.2.2.1).2) = dV (dW b w n m) (argsOf w ⟨a, k⟩ cc) (p + 1)) (fun x => x.2.1.length) ([], argsOf w ⟨a, k⟩ cc, p + 1, []) ⟨by simp, by simp, by simp, by simp⟩ ⟨⟨_, rfl, (LeA.eqi (by first | rfl | (simp; done) | omega))⟩, trivial⟩ ⟨(by first | rfl | (simp [getH]; done)), ⟨(by first | rfl | (simp [getH]; done)), ⟨beq_nat_eq (by first | rfl | (simp; done) | (simp; omega) | (first | rfl | (simp; done) | omega)), trivial⟩⟩⟩ (fun x => rfl) (fun x hg2 => ?_)
    obtain ⟨pre, rest, q, ks⟩ := x
    dsimp only at hg2 ⊢
    refine evc [] [9, 11] ?_
    refine sq (fun h6 h6p h6s => ?_) fun h6 h6p h6s => ?_
    ·try simp only [Q] at h6p
     rcases rest with _ | ⟨y, rest⟩
     ·exfalso; simp_all
     have hfw3 := hfw (by omega); have hpm : pre.length * bdV n ≤ 2 * bdV n := Nat.mul_le_mul_right _ (by have hz := congrArg List.length hg2.1; have := hfw (by omega); simp at hz; omega)
     refine Walk.idx sl25 .none rfl rfl rfl rfl (zip_at hg2.1) rfl ?_
     refine evd [] [] ?_
     refine ar ?_
     refine Walk.call (cr := []) cal71 (spec_l2Draw_fn hb hd hf n (a := y.data) (k := y.index) (m := m - 1) (p := q) (hkid (by omega) y (by rw [← hg2.1]; simp)) (by omega) (by omega) (by omega)) rfl .none rfl rfl (LeL.refl _) ⟨rfl, trivial⟩ rfl rfl rfl ?_
     refine Walk.sliceLit sl33 tz35 rfl (by decide) (ks := [0]) (xs := [_]) rfl rfl (by decide) (by decide) .none rfl rfl rfl rfl ?_
     refine Walk.append sl33 zz35 rfl .none rfl rfl rfl rfl (htokL rfl (by first | rfl | (simp; done) | (simp; omega))) (by simp) (by first | (have hz := congrArg List.length hg2.1; have := hfw (by omega); simp at hz ⊢; omega) | (have hz := congrArg List.length hg1; have hq := List.length_filter_le (fineB w (depthT w) ⟨a, k⟩ m) pre; simp at hz ⊢; omega)) (by first | (have hz := congrArg List.length hg2.1; have := hfw (by omega); simp at hz ⊢; omega) | (have hz := congrArg List.length hg1; have hq := List.length_filter_le (fineB w (depthT w) ⟨a, k⟩ m) pre; simp at hz ⊢; omega)) ?_
     refine evd [] [] ?_
     refine Walk.store ty33 .none rfl rfl rfl rfl rfl rfl (by simp) rfl ?_
     refine dr ?_
     refine ar ?_
     refine Exists.intro ((pre ++ [y], rest, (drawV b w (depthT w) n y (m - 1) q).2, ks ++ [(drawV b w (depthT w) n y (m - 1) q).1])) ⟨⟨(by have hz := hg2.1; rw [← hz]; simp), ⟨(by have := (hok y q (hkid (by omega) y (by rw [← hg2.1]; simp))).1; simp only [List.length_append, List.length_cons, List.length_nil, Nat.add_mul]; omega), (by simp [hg2.2.2.1]), (by rw [← hg2.2.2.2]; simp [dV])⟩⟩, (by simp), Sub.x (by kernel_rfl) (by kernel_rfl) ⟨⟨_, rfl, (LeA.eqi (by first | rfl | (simp; done) | omega))⟩, trivial⟩ (by kernel_rfl) (by kernel_rfl) ⟨(by first | rfl | (simp [getH]; done)), ⟨(by first | rfl | (simp [getH]; done)), ⟨beq_nat_eq (by first | rfl | (simp; done) | (simp; omega) | (first | rfl | (simp; done) | omega)), trivial⟩⟩⟩⟩
    ·try simp only [Q] at h6p
     have hrest : rest = [] := by
      rcases rest with _ | ⟨a, b⟩
      ·rfl
      ·exfalso; have hz := congrArg List.length (hg2.1); simp only [List.length_append, List.length_cons, List.length_map] at hz; omega
     subst hrest
     refine Walk.store ty35 .none rfl rfl rfl rfl rfl rfl (by simp) rfl ?_
     refine tv ?_
     refine rn [(900, some (rdB b (drawV b w (depthT w) (n + 1) ⟨a, k⟩ m p).2))] (.cons (.cellA ty35 rfl rfl rfl) .nil) (.agg (.cons (.eqd ?_) (.cons (.eqd ?_) (.cons (.gld ?_) .nil)))) ⟨rfl, rfl⟩ (SubO.get ⟨.inr (by first | (rw [hdm (by omega)]; all_goals rfl) | (rw [hdm2 (by omega)]; have hfin := hg2.2.2.2; simp only [dV, List.append_nil] at hfin; rw [← hfin]; all_goals rfl)), ⟨.inl rfl, trivial⟩⟩) (boxOK rfl)
     all_goals (first | (rw [hdm (by omega)]; all_goals rfl) | (rw [hdm2 (by omega)]; have hfin := hg2.2.2.2; simp only [dV, List.append_nil] at hfin; rw [← hfin]; all_goals first | rfl | (show _ = D.sl (Val.cs _); rw [Val.cs_cc]; all_goals rfl) | (show _ = Val.cs _; rw [Val.cs_cc]; all_goals rfl)))
def typT0 (b : Str) (p : Nat) : Ty := ⟨pickV b (p + 1) (worldD b p).length, numV b (p + 2) [0, 0, 1, 2]⟩
def typT (b : Str) (p : Nat) : Ty := if dv (depthT (worldD b p)) (typT0 b p) = 0 then ⟨-1, 0⟩ else typT0 b p
def typV (b : Str) (p : Nat) : Val × Nat := drawV b (worldD b p) (depthT (worldD b p)) 4 (typT b p) (numV b (p + 3) [3, 2, 4, 1]) (p + 4)
theorem inS_of {n : Nat} {a k : Int} (h1 : 0 ≤ a) (h2 : a < n) (h3 : 0 ≤ k) (h4 : k ≤ 3) : InS (n * 4) ⟨a, k⟩ := by
 refine .inr ⟨?_, ?_⟩
 ·simp only [slotT]; omega
 ·obtain ⟨i, rfl⟩ := Int.eq_ofNat_of_zero_le h1
  obtain ⟨m, rfl⟩ := Int.eq_ofNat_of_zero_le h3
  simp only [slotT, Int.toNat_natCast]
  exact tyS_ij (by omega)
theorem num0012 (b : Str) (p : Nat) : 0 ≤ numV b p [0, 0, 1, 2] ∧ numV b p [0, 0, 1, 2] ≤ 3 := by
 have := numV_mem (b := b) (p := p) (l := [0, 0, 1, 2]) (by simp)
 simp only [List.mem_cons, List.not_mem_nil, or_false] at this
 omega
theorem typT0_in (b : Str) (p : Nat) : InS ((worldD b p).length * 4) (typT0 b p) := by
 have h1 := pickV_bd (b := b) (p := p + 1) (n := ((worldD b p).length : Int)) (by have := (worldD_ok b p).one; omega)
 have h2 := num0012 b (p + 2)
 exact inS_of h1.1 h1.2 h2.1 h2.2
theorem typT_deep (b : Str) (p : Nat) : Deep (worldD b p) 4 (typT b p) (numV b (p + 3) [3, 2, 4, 1]) := by
 have hl := worldD_low b p
 have h4 := num4 b (p + 3)
 unfold typT
 split
 ·exact ⟨.inl rfl, by simp [dv], by simp [dv], by omega⟩
 ·rename_i h
  have := dv_bd (f := depthT (worldD b p)) (b := 3) hl.low (by omega) (typT0 b p)
  exact ⟨typT0_in b p, by omega, by omega, by omega⟩
theorem typV_ok (b : Str) (p : Nat) : (typV b p).2 ≤ p + 44 ∧ (typV b p).1.size ≤ 121 ∧ (typV b p).1.ok := by
 have hl := worldD_low b p
 have h := drawV_ok (b := b) hl.dp hl.few 4 (typT b p) (numV b (p + 3) [3, 2, 4, 1]) (p + 4) (typT_deep b p)
 have e1 : bdV 4 = 40 := by decide
 have e2 : szV 4 = 121 := by decide
 unfold typV
 exact ⟨by omega, by omega, h.2.2⟩
theorem spec_l2Typed_fn {b : Str} {p : Nat} (hb : b.length ≤ 2000) (hp : p ≤ 100000) :
  FnD Try.prog 47 [.ref 900 0] [(900, some (rdB b p))] (.tup [.d (encDatas (worldD b p)), .agg [.d (.i (typT b p).data), .d (.i (typT b p).index)], .agg [.d (.i (typV b p).1.ctor), .d (.i (typV b p).1.num), .d (encVals (typV b p).1.kids)]]) [(900, some (rdB b (typV b p).2))] := by
 have ho := worldD_ok b p
 have hl := worldD_low b p
 have h4 := num4 b (p + 3)
 have hin := typT0_in b p
 have hdeep := typT_deep b p
 have hT : typT b p = if dv (depthT (worldD b p)) (typT0 b p) = 0 then ⟨-1, 0⟩ else typT0 b p := rfl
 have hV : typV b p = drawV b (worldD b p) (depthT (worldD b p)) 4 (typT b p) (numV b (p + 3) [3, 2, 4, 1]) (p + 4) := rfl
 have e1 : bdV 4 = 40 := by decide
 have hwd := spec_l1World_fn (p := p) hb (by omega)
 have hpk := spec_pick_fn (b := b) (p := p + 1) (n := (((worldD b p).map Data.c).length : Int)) hb (by omega) (by have := ho.small.len; simp; omega)
 rw [show pickV b (p + 1) (((worldD b p).map Data.c).length : Int) = (typT0 b p).data by rw [List.length_map]; rfl] at hpk
 have hnu := spec_num_fn (b := b) (p := p + 2) (l := [0, 0, 1, 2]) hb (by omega) (by simp) (by simp)
 rw [show numV b (p + 2) [0, 0, 1, 2] = (typT0 b p).index from rfl] at hnu
 have hdr := fun (t : Ty) (h : Deep (worldD b p) 4 t (numV b (p + 3) [3, 2, 4, 1])) => spec_l2Draw_fn hb hl.dp hl.few 4 (a := t.data) (k := t.index) (p := p + 4) h (by omega) (by omega) (by omega)
 have hdp := spec_l1Depth_fn (f := depthT (worldD b p)) (a := (typT0 b p).data) (k := (typT0 b p).index) hin (by have := hl.dp.four; omega)
 have htb := spec_l1Table_fn hl.dp
 generalize worldD b p = w at *
 generalize typT0 b p = t0 at *
 obtain ⟨a0, k0⟩ := t0
 have hdr2 := hdr ⟨-1, 0⟩
 have hdr3 := hdr ⟨a0, k0⟩
 clear hdr
 dsimp only at hT hV hdr2 hdr3
 refine bd Try.f47 35 [] [] fun w0 F0 own kept hk => ?_
 refine Walk.alloc (id := 3003) tz31 rfl .none rfl rfl rfl rfl ?_
 refine Walk.alloc (id := 3004) tz35 rfl .none rfl rfl rfl rfl ?_
 refine tv ?_
 refine Walk.call (cr := []) cal39 (hwd) rfl .none rfl rfl (LeL.refl _) ⟨rfl, trivial⟩ rfl rfl rfl ?_
 refine ev ?_
 refine Walk.call (cr := []) cal69 (htb) rfl .none rfl rfl (LeL.refl _) trivial rfl rfl rfl ?_
 refine ev ?_
 refine Walk.call (cr := []) cal48 (hpk) rfl .none rfl rfl (LeL.refl _) ⟨rfl, trivial⟩ rfl rfl rfl ?_
 refine ev ?_
 refine Walk.sliceLit sl93 tz3 rfl (by decide) (ks := [0, 1, 2, 3]) (xs := [_, _, _, _]) rfl rfl (by decide) (by decide) .none rfl rfl rfl rfl ?_
 refine Walk.call (cr := []) cal63 (hnu) rfl .none rfl rfl (LeL.refl _) ⟨rfl, trivial⟩ rfl rfl rfl ?_
 refine Walk.build st31 (ks := [0, 1]) (xs := [_, _]) rfl rfl .none rfl rfl rfl ?_
 refine Walk.alloc (id := 3007) tz31 rfl .none rfl rfl rfl rfl ?_
 refine Walk.store ty31 .none rfl rfl rfl rfl rfl rfl (by simp) rfl ?_
 refine tv ?_
 refine Walk.call (cr := []) cal70 (hdp) rfl .none rfl rfl (LeL.refl _) trivial rfl rfl rfl ?_
 refine ev ?_
 refine sq (fun h1 h1p h1s => ?_) fun h1 h1p h1s => ?_
 ·try simp only [Q] at h1p
  have HDR := hdr2 (by rw [if_pos (by omega)] at hT; rw [← hT]; exact hdeep)
  refine Walk.build st31 (ks := [0]) (xs := [_]) rfl rfl .none rfl rfl rfl ?_
  refine Walk.store ty31 .none rfl rfl rfl rfl rfl rfl (by simp) rfl ?_
  refine tv ?_
  refine Walk.sliceLit sl93 tz3 rfl (by decide) (ks := [0, 1, 2, 3]) (xs := [_, _, _, _]) rfl rfl (by decide) (by decide) .none rfl rfl rfl rfl ?_
  refine Walk.call (cr := []) cal63 (spec_num_fn (b := b) (p := p + 3) (l := [3, 2, 4, 1]) hb (by omega) (by simp) (by simp)) rfl .none rfl rfl (LeL.refl _) ⟨rfl, trivial⟩ rfl rfl rfl ?_
  refine Walk.call (cr := []) cal71 (HDR) rfl .none rfl rfl (LeL.refl _) ⟨rfl, trivial⟩ rfl rfl rfl ?_
  refine evd [] [] ?_
  refine Walk.store ty31 .none rfl rfl rfl rfl rfl rfl (by simp) rfl ?_
  refine Walk.store ty35 .none rfl rfl rfl rfl rfl rfl (by simp) rfl ?_
  refine dr ?_
  refine rn [(900, some (rdB b (typV b p).2))] (.cons (.tmp rfl) (.cons (.cellA ty31 rfl rfl rfl) (.cons (.cellA ty35 rfl rfl rfl) .nil))) (.tup (.cons (.eqd ?_) (.cons (.agg (.cons (.eqd ?_) (.cons (.eqd ?_) .nil))) (.cons (.agg (.cons (.eqd ?_) (.cons (.eqd ?_) (.cons (.eqd ?_) .nil)))) .nil)))) ⟨rfl, rfl⟩ (SubO.get ⟨.inr (by first | (rw [if_pos (by omega)] at hT; rw [hV, hT]; all_goals rfl) | (rw [if_neg (by omega)] at hT; rw [hV, hT]; all_goals rfl)), ⟨.inl rfl, trivial⟩⟩) (boxOK rfl)
  all_goals (first | (rw [if_pos (by omega)] at hT; rw [hV, hT]; all_goals rfl) | (rw [if_neg (by omega)] at hT; rw [hV, hT]; all_goals rfl) | (rw [if_pos (by omega)] at hT; rw [hT]; all_goals rfl) | (rw [if_neg (by omega)] at hT; rw [hT]; all_goals rfl) | rfl)
 ·try simp only [Q] at h1p
  have HDR := hdr3 (by rw [if_neg (by omega)] at hT; rw [← hT]; exact hdeep)
  refine Walk.sliceLit sl93 tz3 rfl (by decide) (ks := [0, 1, 2, 3]) (xs := [_, _, _, _]) rfl rfl (by decide) (by decide) .none rfl rfl rfl rfl ?_
  refine Walk.call (cr := []) cal63 (spec_num_fn (b := b) (p := p + 3) (l := [3, 2, 4, 1]) hb (by omega) (by simp) (by simp)) rfl .none rfl rfl (LeL.refl _) ⟨rfl, trivial⟩ rfl rfl rfl ?_
  refine Walk.call (cr := []) cal71 (HDR) rfl .none rfl rfl (LeL.refl _) ⟨rfl, trivial⟩ rfl rfl rfl ?_
  refine evd [] [] ?_
  refine Walk.store ty31 .none rfl rfl rfl rfl rfl rfl (by simp) rfl ?_
  refine Walk.store ty35 .none rfl rfl rfl rfl rfl rfl (by simp) rfl ?_
  refine dr ?_
  refine rn [(900, some (rdB b (typV b p).2))] (.cons (.tmp rfl) (.cons (.cellA ty31 rfl rfl rfl) (.cons (.cellA ty35 rfl rfl rfl) .nil))) (.tup (.cons (.eqd ?_) (.cons (.agg (.cons (.eqd ?_) (.cons (.eqd ?_) .nil))) (.cons (.agg (.cons (.eqd ?_) (.cons (.eqd ?_) (.cons (.eqd ?_) .nil)))) .nil)))) ⟨rfl, rfl⟩ (SubO.get ⟨.inr (by first | (rw [if_pos (by omega)] at hT; rw [hV, hT]; all_goals rfl) | (rw [if_neg (by omega)] at hT; rw [hV, hT]; all_goals rfl)), ⟨.inl rfl, trivial⟩⟩) (boxOK rfl)
  all_goals (first | (rw [if_pos (by omega)] at hT; rw [hV, hT]; all_goals rfl) | (rw [if_neg (by omega)] at hT; rw [hV, hT]; all_goals rfl) | (rw [if_pos (by omega)] at hT; rw [hT]; all_goals rfl) | (rw [if_neg (by omega)] at hT; rw [hT]; all_goals rfl) | rfl)
structure CaseW (w : List Data) : Prop where
 small : WSmall w
 valid : worldValid w = true
 one : 1 ≤ w.length
 ct : ∀ k : Int, k = 0 ∨ k = 1 ∨ k = 2 → 1 ≤ (vctors w ⟨0, k⟩).length
theorem Pats.len_size : ∀ l : List Pat, l.length ≤ Pats.size l
 | [] => Nat.zero_le _
 | v :: r => by
  have := Pats.len_size r
  have h := Pat.size_eq v
  simp only [List.length_cons, Pats.size]; omega
theorem setP_ok {x : Pat} (hx : x.ok) : ∀ {l : List Pat} {i : Nat}, Pats.ok l → Pats.ok (l.set i x)
 | [], _, _ => by simp [Pats.ok]
 | y :: r, 0, h => ⟨hx, h.2⟩
 | y :: r, i + 1, h => ⟨h.1, setP_ok hx h.2⟩
theorem appP_ok {x : Pat} (hx : x.ok) : ∀ {l : List Pat}, Pats.ok l → Pats.ok (l ++ [x])
 | [], _ => ⟨hx, trivial⟩
 | y :: r, h => ⟨h.1, appP_ok hx h.2⟩
theorem setP_sz {x : Pat} : ∀ {l : List Pat} {i : Nat}, Pats.size (l.set i x) ≤ Pats.size l + x.size
 | [], _ => by simp [Pats.size]
 | y :: r, 0 => by simp only [List.set_cons_zero, Pats.size]; omega
 | y :: r, i + 1 => by have := setP_sz (x := x) (l := r) (i := i); simp only [List.set_cons_succ, Pats.size]; omega
theorem mutP_ok {b : Str} {p : Pat} {q : Nat} (hs : p.size ≤ 1000) (hok : p.ok) : (mutP b p q).1.size ≤ 2000 ∧ (mutP b p q).1.ok := by
 have hv : varP0.size = 1 ∧ varP0.ok := ⟨by rw [Pat.size_eq]; rfl, by rw [Pat.ok_iff]; exact ⟨by simp [varP0, Pat.kids], trivial⟩⟩
 have h0 := Pat.size_eq p
 rw [Pat.ok_iff] at hok
 have same : ∀ a c n m v : Int, (Pat.mk a c n m v p.kids).size ≤ 2000 ∧ (Pat.mk a c n m v p.kids).ok := fun a c n m v => by
  refine ⟨by rw [Pat.size_eq]; show 1 + Pats.size p.kids ≤ _; omega, by rw [Pat.ok_iff]; exact hok⟩
 unfold mutP
 split; exact same _ _ _ _ _
 split; exact same _ _ _ _ _
 split; exact same _ _ _ _ _
 split
 ·refine ⟨?_, ?_⟩
  ·dsimp only; rw [Pat.size_eq]; show 1 + Pats.size (p.kids ++ [varP0]) ≤ _; rw [Pats.size_snoc]; omega
  ·dsimp only; rw [Pat.ok_iff]; refine ⟨?_, appP_ok hv.2 hok.2⟩
   show (p.kids ++ [varP0]).length ≤ _
   have := Pats.len_size p.kids
   simp only [List.length_append, List.length_singleton]; omega
 split
 ·refine ⟨?_, ?_⟩
  ·dsimp only; rw [Pat.size_eq]; show 1 + Pats.size (p.kids.set 0 varP0) ≤ _
   have := setP_sz (x := varP0) (l := p.kids) (i := 0); omega
  ·dsimp only; rw [Pat.ok_iff]; exact ⟨by show (p.kids.set 0 varP0).length ≤ _; rw [List.length_set]; exact hok.1, setP_ok hv.2 hok.2⟩
 split; exact same _ _ _ _ _
 exact same _ _ _ _ _
def typP (b : Str) (p : Nat) : Pat := somePat b (worldD b p) (typT b p) (typV b p).2
def typQ (b : Str) (p : Nat) : Nat := (rawPat b (worldD b p) (typT b p) (typV b p).2).2.2
theorem typT_in (b : Str) (p : Nat) : TyIn (worldD b p).length (typT b p) := ins_tyin (typT_deep b p).ins
theorem typP_ok (b : Str) (p : Nat) : (typP b p).size ≤ 242 ∧ (typP b p).ok ∧ typQ b p ≤ p + 600 := by
 have hl := worldD_low b p
 have h1 := somePat_ok (b := b) hl.few (typT_in b p) (typV b p).2
 have h2 := rawPat_ok (b := b) hl.few (typT_in b p) (typV b p).2
 have h3 := typV_ok b p
 exact ⟨h1.1, h1.2, by unfold typQ; omega⟩
theorem spec_l3Typed_fn {b : Str} {p : Nat} (hb : b.length ≤ 2000) (hp : p ≤ 10000) :
  FnD Try.prog 55 [.ref 900 0] [(900, some (rdB b p))] (.tup [.d (encDatas (worldD b p)), .agg [.d (.i (typT b p).data), .d (.i (typT b p).index)],
   .agg [.d (.i (typP b p).op), .d (.i (typP b p).ctor), .d (.i (typP b p).n), .d (.i (typP b p).m), .d (.i (typP b p).var), .d (encPats (typP b p).kids)],
   .agg [.d (.i (typV b p).1.ctor), .d (.i (typV b p).1.num), .d (encVals (typV b p).1.kids)]]) [(900, some (rdB b (typQ b p)))] := by
 have hl := worldD_low b p
 have hv := typV_ok b p
 have ht := typT_in b p
 have hty := spec_l2Typed_fn (p := p) hb (by omega)
 have hsm := spec_l3Some_fn hb hl.dp.wt hl.few (a := (typT b p).data) (k := (typT b p).index) (p := (typV b p).2) (by omega) ht
 refine bd Try.f55 22 [] [] fun w0 F0 own kept hk => ?_
 refine Walk.alloc (id := 3003) tz31 rfl .none rfl rfl rfl rfl ?_
 refine Walk.alloc (id := 3004) tz43 rfl .none rfl rfl rfl rfl ?_
 refine Walk.alloc (id := 3005) tz35 rfl .none rfl rfl rfl rfl ?_
 refine tv ?_
 refine Walk.call (cr := []) cal47 (hty) rfl .none rfl rfl (LeL.refl _) ⟨rfl, trivial⟩ rfl rfl rfl ?_
 refine ev ?_
 refine Walk.alloc (id := 3007) tz31 rfl .none rfl rfl rfl rfl ?_
 refine Walk.alloc (id := 3008) tz35 rfl .none rfl rfl rfl rfl ?_
 refine ev ?_
 refine Walk.store ty31 .none rfl rfl rfl rfl rfl rfl (by simp) rfl ?_
 refine Walk.store ty35 .none rfl rfl rfl rfl rfl rfl (by simp) rfl ?_
 refine tv ?_
 refine Walk.call (cr := []) cal78 (hsm) rfl .none rfl rfl (LeL.refl _) ⟨rfl, trivial⟩ rfl rfl rfl ?_
 refine evd [] [] ?_
 refine Walk.store ty31 .none rfl rfl rfl rfl rfl rfl (by simp) rfl ?_
 refine Walk.store ty43 .none rfl rfl rfl rfl rfl rfl (by simp) rfl ?_
 refine Walk.store ty35 .none rfl rfl rfl rfl rfl rfl (by simp) rfl ?_
 refine dr ?_
 refine rn [(900, some (rdB b (typQ b p)))] (.cons (.tmp rfl) (.cons (.cellA ty31 rfl rfl rfl) (.cons (.cellA ty43 rfl rfl rfl) (.cons (.cellA ty35 rfl rfl rfl) .nil)))) (.tup (.cons (.eqd ?_) (.cons (.agg (.cons (.eqd ?_) (.cons (.eqd ?_) .nil))) (.cons (.agg (.cons (.eqd ?_) (.cons (.eqd ?_) (.cons (.eqd ?_) (.cons (.eqd ?_) (.cons (.eqd ?_) (.cons (.eqd ?_) .nil))))))) (.cons (.agg (.cons (.eqd ?_) (.cons (.eqd ?_) (.cons (.eqd ?_) .nil)))) .nil))))) ⟨rfl, rfl⟩ (SubO.get ⟨.inr (by rfl), ⟨.inl rfl, trivial⟩⟩) (boxOK rfl)
 all_goals (rfl)
def pvQ (b : Str) : Nat := if pickV b (typQ b 0) 10 = 0 then (someT b (typQ b 0 + 1) (worldD b 0).length).2 else typQ b 0 + 1
def pvT (b : Str) : Ty := if pickV b (typQ b 0) 10 = 0 then (someT b (typQ b 0 + 1) (worldD b 0).length).1 else typT b 0
def pvW (b : Str) : List Data := (mutW b (pvQ b) (worldD b 0)).1
def pvP (b : Str) : Pat := (mutP b (typP b 0) (mutW b (pvQ b) (worldD b 0)).2).1
theorem pvQ_bd (b : Str) : pvQ b ≤ 700 := by
 have h1 := (typP_ok b 0).2.2
 have h2 := someT_bd b (typQ b 0 + 1) (worldD b 0).length
 unfold pvQ; split <;> omega
theorem pvW_small (b : Str) : WSmall (pvW b) := mutD_small b 0 (pvQ b)
theorem pvP_ok (b : Str) : (pvP b).size ≤ 2000 ∧ (pvP b).ok := by
 have h := typP_ok b 0
 exact mutP_ok (by omega) h.2.1
theorem spec_DrawPatternValid_fn {b : Str} (hb : b.length ≤ 1000000000000) :
  FnD Try.prog 33 [.d (encBytes b)] [] (.tup [.d (encDatas (pvW (b.take 2000))), .agg [.d (.i (pvT (b.take 2000)).data), .d (.i (pvT (b.take 2000)).index)],
   .agg [.d (.i (pvP (b.take 2000)).op), .d (.i (pvP (b.take 2000)).ctor), .d (.i (pvP (b.take 2000)).n), .d (.i (pvP (b.take 2000)).m), .d (.i (pvP (b.take 2000)).var), .d (encPats (pvP (b.take 2000)).kids)]]) [] := by
 have hop := spec_l17Open_fn hb
 have hb2 : (b.take 2000).length ≤ 2000 := by rw [List.length_take]; omega
 generalize b.take 2000 = e at *
 have ho := worldD_ok e 0
 have hpo := typP_ok e 0
 have hbq := pvQ_bd e
 have hmb := mutW_bd e (pvQ e) (worldD e 0)
 have hty := spec_l3Typed_fn (p := 0) hb2 (by omega)
 have hpk := spec_pick_fn (p := typQ e 0) (n := 10) hb2 (by omega) (by omega)
 have hso := spec_l1Some_fn (p := typQ e 0 + 1) (w := worldD e 0) hb2 (by omega) ho.small.len
 have hmu := fun q (h : q = pvQ e) => spec_l1Mutate_fn (p := q) hb2 (by omega) ho.small ho.one
 have hmp := spec_l3Mutate_fn (q := (mutW e (pvQ e) (worldD e 0)).2) hb2 (by omega) hpo.2.1
 have hQ : pvQ e = if pickV e (typQ e 0) 10 = 0 then (someT e (typQ e 0 + 1) (worldD e 0).length).2 else typQ e 0 + 1 := rfl
 have hT : pvT e = if pickV e (typQ e 0) 10 = 0 then (someT e (typQ e 0 + 1) (worldD e 0).length).1 else typT e 0 := rfl
 have hW : pvW e = (mutW e (pvQ e) (worldD e 0)).1 := rfl
 have hP : pvP e = (mutP e (typP e 0) (mutW e (pvQ e) (worldD e 0)).2).1 := rfl
 generalize pvQ e = q0 at *
 generalize pvT e = t0 at *
 generalize pvW e = w1 at *
 generalize pvP e = p1 at *
 refine bd Try.f33 32 [] [] fun w0 F0 own kept hk => ?_
 refine Walk.alloc (id := 3003) tz31 rfl .none rfl rfl rfl rfl ?_
 refine Walk.alloc (id := 3004) tz43 rfl .none rfl rfl rfl rfl ?_
 refine tv ?_
 refine Walk.call (cr := [900]) cal37 (hop) rfl .none rfl rfl (LeL.refl _) trivial rfl (by first | rfl | (simp only [okCall, List.all_cons, List.all_nil, entOK, entOK', AV.idsL, AV.ids, idsL_append, ownCells_ids, List.map_cons, List.map_nil]; rfl)) (by first | rfl | (simp only [freshB, occH, occE, Res.ids, List.cons_append, List.nil_append, AV.idsL, AV.ids, idsL_append, ownCells_ids, zerosA_idsR, repNil, List.map_cons, List.map_nil, upC]; rfl)) ?_
 refine ev ?_
 refine Walk.call (cr := []) cal55 (hty) rfl .none rfl rfl (LeL.refl _) ⟨rfl, trivial⟩ rfl rfl rfl ?_
 refine ev ?_
 refine Walk.alloc (id := 3007) tz31 rfl .none rfl rfl rfl rfl ?_
 refine Walk.alloc (id := 3008) tz43 rfl .none rfl rfl rfl rfl ?_
 refine Walk.alloc (id := 3009) tz35 rfl .none rfl rfl rfl rfl ?_
 refine ev ?_
 refine Walk.store ty31 .none rfl rfl rfl rfl rfl rfl (by simp) rfl ?_
 refine Walk.store ty43 .none rfl rfl rfl rfl rfl rfl (by simp) rfl ?_
 refine Walk.store ty35 .none rfl rfl rfl rfl rfl rfl (by simp) rfl ?_
 refine tv ?_
 refine Walk.call (cr := []) cal48 (hpk) rfl .none rfl rfl (LeL.refl _) ⟨rfl, trivial⟩ rfl rfl rfl ?_
 refine ev ?_
 refine sq (fun h1 h1p h1s => ?_) fun h1 h1p h1s => ?_
 ·try simp only [Q] at h1p
  rw [if_pos (by omega)] at hQ hT; subst hQ; have HMU := hmu _ rfl
  refine Walk.call (cr := []) cal49 (hso) rfl .none rfl rfl (LeL.refl _) ⟨rfl, trivial⟩ rfl rfl rfl ?_
  refine Walk.store ty31 .none rfl rfl rfl rfl rfl rfl (by simp) rfl ?_
  refine tv ?_
  refine Walk.call (cr := []) cal38 (HMU) rfl .none rfl rfl (LeL.refl _) ⟨rfl, trivial⟩ rfl rfl rfl ?_
  refine evd [] [] ?_
  refine Walk.call (cr := []) cal56 (hmp) rfl .none rfl rfl (LeL.refl _) ⟨rfl, trivial⟩ rfl rfl rfl ?_
  refine evd [] [] ?_
  refine Walk.store ty31 .none rfl rfl rfl rfl rfl rfl (by simp) rfl ?_
  refine Walk.store ty43 .none rfl rfl rfl rfl rfl rfl (by simp) rfl ?_
  refine dr ?_
  refine rn0 (.cons (.tmp rfl) (.cons (.cellA ty31 rfl rfl rfl) (.cons (.cellA ty43 rfl rfl rfl) .nil))) (.tup (.cons (.eqd ?_) (.cons (.agg (.cons (.eqd ?_) (.cons (.eqd ?_) .nil))) (.cons (.agg (.cons (.eqd ?_) (.cons (.eqd ?_) (.cons (.eqd ?_) (.cons (.eqd ?_) (.cons (.eqd ?_) (.cons (.eqd ?_) .nil))))))) .nil))))
  all_goals (first | rfl | (rw [hT]; all_goals rfl) | (rw [hW]; all_goals rfl) | (rw [hP]; all_goals rfl))
 ·try simp only [Q] at h1p
  rw [if_neg (by omega)] at hQ hT; subst hQ; have HMU := hmu _ rfl
  refine Walk.call (cr := []) cal38 (HMU) rfl .none rfl rfl (LeL.refl _) ⟨rfl, trivial⟩ rfl rfl rfl ?_
  refine evd [] [] ?_
  refine Walk.call (cr := []) cal56 (hmp) rfl .none rfl rfl (LeL.refl _) ⟨rfl, trivial⟩ rfl rfl rfl ?_
  refine evd [] [] ?_
  refine Walk.store ty31 .none rfl rfl rfl rfl rfl rfl (by simp) rfl ?_
  refine Walk.store ty43 .none rfl rfl rfl rfl rfl rfl (by simp) rfl ?_
  refine dr ?_
  refine rn0 (.cons (.tmp rfl) (.cons (.cellA ty31 rfl rfl rfl) (.cons (.cellA ty43 rfl rfl rfl) .nil))) (.tup (.cons (.eqd ?_) (.cons (.agg (.cons (.eqd ?_) (.cons (.eqd ?_) .nil))) (.cons (.agg (.cons (.eqd ?_) (.cons (.eqd ?_) (.cons (.eqd ?_) (.cons (.eqd ?_) (.cons (.eqd ?_) (.cons (.eqd ?_) .nil))))))) .nil))))
  all_goals (first | rfl | (rw [hT]; all_goals rfl) | (rw [hW]; all_goals rfl) | (rw [hP]; all_goals rfl))
theorem spec_DrawTypesOfPattern_fn {b : Str} (hb : b.length ≤ 1000000000000) :
  FnD Try.prog 17 [.d (encBytes b)] [] (.tup [.d (encDatas (pvW (b.take 2000))),
   .agg [.d (.i (pvP (b.take 2000)).op), .d (.i (pvP (b.take 2000)).ctor), .d (.i (pvP (b.take 2000)).n), .d (.i (pvP (b.take 2000)).m), .d (.i (pvP (b.take 2000)).var), .d (encPats (pvP (b.take 2000)).kids)]]) [] := by
 have hd := spec_DrawPatternValid_fn hb
 refine bd Try.f17 15 [] [] fun w0 F0 own kept hk => ?_
 refine Walk.alloc (id := 3003) tz43 rfl .none rfl rfl rfl rfl ?_
 refine tv ?_
 refine Walk.call (cr := []) cal33 (hd) rfl .none rfl rfl (LeL.refl _) trivial rfl rfl rfl ?_
 refine ev ?_
 refine Walk.alloc (id := 3005) tz31 rfl .none rfl rfl rfl rfl ?_
 refine Walk.alloc (id := 3006) tz43 rfl .none rfl rfl rfl rfl ?_
 refine ev ?_
 refine Walk.store ty31 .none rfl rfl rfl rfl rfl rfl (by simp) rfl ?_
 refine Walk.store ty43 .none rfl rfl rfl rfl rfl rfl (by simp) rfl ?_
 refine tv ?_
 refine Walk.store ty43 .none rfl rfl rfl rfl rfl rfl (by simp) rfl ?_
 refine dr ?_
 refine rn0 (.cons (.tmp rfl) (.cons (.cellA ty43 rfl rfl rfl) .nil)) (.tup (.cons (.eqd ?_) (.cons (.agg (.cons (.eqd ?_) (.cons (.eqd ?_) (.cons (.eqd ?_) (.cons (.eqd ?_) (.cons (.eqd ?_) (.cons (.eqd ?_) .nil))))))) .nil)))
 all_goals (first | rfl | (simp []; done) | (simp_all; done) | (simp_all; omega) | omega)
theorem laws_ptType_fn {l : List Ty} {a k : Int} (hl : l.length ≤ 1000000000000) : FnD Try.prog 16 [.d (encTys l), .agg [.d (.i a), .d (.i k)]] [] (.d (.bool (decide ((⟨a, k⟩ : Ty) ∈ l)))) [] := by
 refine bd Try.f16 18 [17] [] fun w0 F0 own kept hk => ?_
 refine Walk.box (id := 3003) .none rfl rfl rfl rfl rfl rfl rfl ?_
 refine evs [17] [] ?_
 refine CWp.loopX (ι := List (Ty) × List (Ty)) hk (fun x => [(5, .d (.i (x.1.length : Int)))]) [4, 6, 7, 8, 9, 10, 11, 12, 13, 14, 15, 16, 17] (fun x => []) (fun x => x.1 ++ x.2 = l ∧ (⟨a, k⟩ : Ty) ∉ x.1) (fun x => x.2.length) ([], l) ⟨by simp, by simp⟩ ⟨⟨_, rfl, (LeA.eqi (by first | rfl | (simp; done) | (simp_all; done) | omega))⟩, trivial⟩ trivial (fun x => rfl) (fun x hg1 => ?_)
 obtain ⟨pre, rest⟩ := x
 dsimp only at hg1 ⊢
 refine evc [17] [] ?_
 refine sq (fun h1 h1p h1s => ?_) fun h1 h1p h1s => ?_
 ·try simp only [Q] at h1p
  rcases rest with _ | ⟨y, rest⟩
  ·exfalso; simp_all
  refine Walk.idx sl25 .none rfl rfl rfl rfl (zip_at hg1.1) rfl ?_
  refine evd [17] [] ?_
  refine Walk.eqV eq31 .none rfl rfl rfl rfl rfl ?_
  refine dr ?_
  refine sq (fun h2 h2p h2s => ?_) fun h2 h2p h2s => ?_
  ·try simp only [Q] at h2p
   refine rn0 (r1 rfl) (.eqd ?_)
   all_goals (first | (refine congrArg D.bool (Eq.symm (decide_eq_true ?_)); rw [← hg1.1]; refine List.mem_append_right _ (List.mem_cons.2 (.inl ?_)); obtain ⟨ya, yk⟩ := y; simp_all; done) | (refine congrArg D.bool (Eq.symm (decide_eq_false ?_)); rw [← hg1.1, List.append_nil]; exact hg1.2))
  ·try simp only [Q] at h2p
   refine ar ?_
   refine Exists.intro ((pre ++ [y], rest)) ⟨⟨(by have hz := hg1.1; rw [← hz]; simp), (by rw [List.mem_append, not_or]; refine ⟨hg1.2, fun h => ?_⟩; obtain ⟨ya, yk⟩ := y; simp only [List.mem_singleton, Ty.mk.injEq] at h; simp_all)⟩, (by simp), Sub.x (by kernel_rfl) (by kernel_rfl) ⟨⟨_, rfl, (LeA.eqi (by first | rfl | (simp; done) | (simp_all; done) | omega))⟩, trivial⟩ (by kernel_rfl) (by kernel_rfl) trivial⟩
 ·try simp only [Q] at h1p
  have hrest : rest = [] := by
   rcases rest with _ | ⟨a, b⟩
   ·rfl
   ·exfalso; have hz := congrArg List.length (hg1.1); simp only [List.length_append, List.length_cons, List.length_map] at hz; omega
  subst hrest
  refine rn0 (r1 rfl) (.eqd ?_)
  all_goals (first | (refine congrArg D.bool (Eq.symm (decide_eq_true ?_)); rw [← hg1.1]; refine List.mem_append_right _ (List.mem_cons.2 (.inl ?_)); obtain ⟨ya, yk⟩ := y; simp_all; done) | (refine congrArg D.bool (Eq.symm (decide_eq_false ?_)); rw [← hg1.1, List.append_nil]; exact hg1.2))
theorem laws_FnTypesOfPattern_good {b : Str} (hb : b.length ≤ 1000000000000) (hv : worldValid (pvW (b.take 2000)) = true) : FnD Try.prog 5 [.d (encBytes b)] [] (.d (.bool true)) [] := by
 have hdr := spec_DrawTypesOfPattern_fn hb
 have hs := pvW_small (b.take 2000)
 obtain ⟨hsz, hok⟩ := pvP_ok (b.take 2000)
 generalize pvW (b.take 2000) = w at *
 generalize pvP (b.take 2000) = p at *
 have hw4 := valid_four hv
 have himp0 := impl_AllTypes_fn hs
 rw [allTypes, if_pos hv] at himp0
 have hlen := allTypesOf_len w.length
 have hspec := spec_TypesOfPattern_fn hs hok (by omega)
 have himp := FnD.out_frz (k := 2) (xs := (typesOfP w p).map Ty.c) (by intro x hx; obtain ⟨y, _, rfl⟩ := List.mem_map.1 hx; rfl) (show soleN 1 ((typesOfP w p).map Ty.c).length (.ms 1 (typesOfP w p).length) from ⟨rfl, by simp⟩) (impl_TypesOfPattern_own hs hv hok)
 have hT : typesOfP w p = (allTypesOf w.length).filter (fun t => isP w t p) := by unfold typesOfP; rw [if_pos hv]
 have hle : (typesOfP w p).length ≤ 17 := by have := List.length_filter_le (fun t => isP w t p) (allTypesOf w.length); rw [hT]; omega
 have hpv : ∀ y ∈ allTypesOf w.length, FnD Try.prog 20 [.d (encDatas w), .agg [.d (.i y.data), .d (.i y.index)], .agg [.d (.i p.op), .d (.i p.ctor), .d (.i p.n), .d (.i p.m), .d (.i p.var), .d (encPats p.kids)]] [] (.d (.bool (decide ((⟨y.data, y.index⟩ : Ty) ∈ typesOfP w p)))) [] := fun y hy => by
  have h := impl_PatternValid_fn hs (a := y.data) (k := y.index) hok
  have h2 : patValid w y.data y.index p = decide ((⟨y.data, y.index⟩ : Ty) ∈ typesOfP w p) := by
   have h3 : typeValid w ⟨y.data, y.index⟩ = true := by rw [typeValid, hv, allTypesOf_ok hy]; rfl
   have hy2 : (⟨y.data, y.index⟩ : Ty) ∈ allTypesOf w.length := hy
   rw [patValid, h3, Bool.true_and, hT, Bool.eq_iff_iff, decide_eq_true_eq, List.mem_filter]
   exact ⟨fun h => ⟨hy2, h⟩, fun h => h.2⟩
  rw [h2] at h; exact h
 refine bd Try.f5 52 [46] [] fun w0 F0 own kept hk => ?_
 refine sq (fun h1 h1p h1s => ?_) fun h1 h1p h1s => ?_
 ·try simp only [Q] at h1p
  refine rn0 (r1 rfl) (.eqd ?_)
  all_goals (first | rfl | (have hz := congrArg List.length hg1; simp at hz; have h17 := List.length_filter_le (fun t => isP w t p) (allTypesOf w.length); rw [← hT] at h17; refine congrArg D.bool ?_; simp; omega))
 ·try simp only [Q] at h1p
  refine Walk.call (cr := []) cal17 (hdr) rfl .none rfl rfl (LeL.refl _) trivial rfl rfl rfl ?_
  refine evs [46] [] ?_
  refine Walk.alloc (id := 3004) tz43 rfl .none rfl rfl rfl rfl ?_
  refine evs [46] [] ?_
  refine Walk.store ty43 .none rfl rfl rfl rfl rfl rfl (by simp) rfl ?_
  refine tv ?_
  refine Walk.call (cr := []) cal18 (himp) rfl .none rfl rfl (LeL.refl _) trivial rfl rfl rfl ?_
  refine evs [46] [] ?_
  refine Walk.call (cr := []) cal19 (hspec) rfl .none rfl rfl (LeL.refl _) trivial rfl rfl rfl ?_
  refine Walk.call (cr := []) cal8 (laws_ptTypes_same (l := typesOfP w p) (by omega)) rfl .none rfl rfl (LeL.refl _) trivial rfl rfl rfl ?_
  refine evs [46] [] ?_
  refine sq (fun h2 h2p h2s => ?_) fun h2 h2p h2s => ?_
  ·try simp only [Q] at h2p
   exfalso; simp at h2 --stop
  ·try simp only [Q] at h2p
   refine Walk.call (cr := []) cal7 (himp0) rfl .none rfl rfl (LeL.refl _) trivial rfl rfl rfl ?_
   refine evs [46] [] ?_
   refine CWp.loopX (ι := List (Ty) × List (Ty)) hk (fun x => [(7, .d (.i (x.1.length : Int)))]) [2, 27, 28, 29, 30, 31, 32, 33, 34, 35, 36, 37, 38, 39, 40, 41, 42, 43, 44, 45, 46] (fun x => []) (fun x => x.1 ++ x.2 = allTypesOf w.length) (fun x => x.2.length) ([], allTypesOf w.length) (by simp) ⟨⟨_, rfl, (LeA.eqi (by first | rfl | (simp; done) | (simp_all; done) | omega))⟩, trivial⟩ trivial (fun x => rfl) (fun x hg1 => ?_)
   obtain ⟨pre, rest⟩ := x
   dsimp only at hg1 ⊢
   refine evc [46] [] ?_
   refine sq (fun h3 h3p h3s => ?_) fun h3 h3p h3s => ?_
   ·try simp only [Q] at h3p
    rcases rest with _ | ⟨y, rest⟩
    ·exfalso; simp_all
    refine Walk.idx sl25 .none rfl rfl rfl rfl (zip_at hg1) rfl ?_
    refine evd [46] [] ?_
    refine Walk.call (cr := []) cal20 (hpv y (by rw [← hg1]; simp)) rfl .none rfl rfl (LeL.refl _) trivial rfl rfl rfl ?_
    refine evd [46] [] ?_
    refine Walk.idx sl25 .none rfl rfl rfl rfl (zip_at hg1) rfl ?_
    refine evd [46] [] ?_
    refine Walk.call (cr := []) cal16 (laws_ptType_fn (l := typesOfP w p) (a := y.data) (k := y.index) (by omega)) rfl .none rfl rfl (LeL.refl _) trivial rfl rfl rfl ?_
    refine Walk.neB un4 .none rfl rfl rfl ?_
    refine dr ?_
    refine sq (fun h4 h4p h4s => ?_) fun h4 h4p h4s => ?_
    ·try simp only [Q] at h4p
     exfalso; simp at h4 --stop
    ·try simp only [Q] at h4p
     refine ar ?_
     refine Exists.intro ((pre ++ [y], rest)) ⟨(by have hz := hg1; rw [← hz]; simp), (by simp), Sub.x (by kernel_rfl) (by kernel_rfl) ⟨⟨_, rfl, (LeA.eqi (by first | rfl | (simp; done) | (simp_all; done) | omega))⟩, trivial⟩ (by kernel_rfl) (by kernel_rfl) trivial⟩
   ·try simp only [Q] at h3p
    have hrest : rest = [] := by
     rcases rest with _ | ⟨a, b⟩
     ·rfl
     ·exfalso; have hz := congrArg List.length (hg1); simp only [List.length_append, List.length_cons, List.length_map] at hz; omega
    subst hrest
    refine rn0 (r1 rfl) (.eqd ?_)
    all_goals (first | rfl | (have hz := congrArg List.length hg1; simp at hz; have h17 := List.length_filter_le (fun t => isP w t p) (allTypesOf w.length); rw [← hT] at h17; refine congrArg D.bool ?_; simp; omega))
theorem laws_FnTypesOfPattern_bad {b : Str} (hb : b.length ≤ 1000000000000) (hv : worldValid (pvW (b.take 2000)) = false) : FnD Try.prog 5 [.d (encBytes b)] [] (.d (.bool true)) [] := by
 have hdr := spec_DrawTypesOfPattern_fn hb
 have hs := pvW_small (b.take 2000)
 obtain ⟨hsz, hok⟩ := pvP_ok (b.take 2000)
 generalize pvW (b.take 2000) = w at *
 generalize pvP (b.take 2000) = p at *
 have himp0 := impl_AllTypes_fn hs
 rw [allTypes, if_neg (by rw [hv]; simp)] at himp0
 have hspec := spec_TypesOfPattern_fn hs hok (by omega)
 rw [show typesOfP w p = [] by unfold typesOfP; rw [if_neg (by rw [hv]; simp)]] at hspec
 refine bd Try.f5 52 [] [] fun w0 F0 own kept hk => ?_
 refine sq (fun h1 h1p h1s => ?_) fun h1 h1p h1s => ?_
 ·try simp only [Q] at h1p
  refine rn0 (r1 rfl) (.eqd ?_)
  all_goals (first | rfl | (refine congrArg D.bool ?_; simp; done))
 ·try simp only [Q] at h1p
  refine Walk.call (cr := []) cal17 (hdr) rfl .none rfl rfl (LeL.refl _) trivial rfl rfl rfl ?_
  refine ev ?_
  refine Walk.alloc (id := 3004) tz43 rfl .none rfl rfl rfl rfl ?_
  refine ev ?_
  refine Walk.store ty43 .none rfl rfl rfl rfl rfl rfl (by simp) rfl ?_
  refine tv ?_
  refine Walk.call (cr := []) cal18 (impl_TypesOfPattern_bad hs hv hok) rfl .none rfl rfl (LeL.refl _) trivial rfl rfl rfl ?_
  refine ev ?_
  refine Walk.call (cr := []) cal19 (hspec) rfl .none rfl rfl (LeL.refl _) trivial rfl rfl rfl ?_
  refine Walk.call (cr := []) cal8 (laws_ptTypes_same (l := []) (by simp)) rfl .none rfl rfl (LeL.refl _) trivial rfl rfl rfl ?_
  refine ev ?_
  refine sq (fun h2 h2p h2s => ?_) fun h2 h2p h2s => ?_
  ·try simp only [Q] at h2p
   exfalso; simp at h2 --stop
  ·try simp only [Q] at h2p
   refine Walk.call (cr := []) cal7 (himp0) rfl .none rfl rfl (LeL.refl _) trivial rfl rfl rfl ?_
   refine ev ?_
   refine CWp.loopX (ι := Unit) hk (fun x => [(7, .d (.i 0))]) [2, 27, 28, 29, 30, 31, 32, 33, 34, 35, 36, 37, 38, 39, 40, 41, 42, 43, 44, 45, 46] (fun x => []) (fun x => True) (fun x => 0) () trivial ⟨⟨_, rfl, (LeA.eqi (by first | rfl | (simp; done) | (simp_all; done) | omega))⟩, trivial⟩ trivial (fun x => rfl) (fun x hg1 => ?_)
   refine evc [] [] ?_
   refine sq (fun h3 h3p h3s => ?_) fun h3 h3p h3s => ?_
   ·try simp only [Q] at h3p
    exfalso; simp at h3 --stop
   ·try simp only [Q] at h3p
    refine rn0 (r1 rfl) (.eqd ?_)
    all_goals (first | rfl | (refine congrArg D.bool ?_; simp; done))
theorem laws_FnTypesOfPattern_fn {b : Str} (hb : b.length ≤ 1000000000000) : FnD Try.prog 5 [.d (encBytes b)] [] (.d (.bool true)) [] := by
 cases hv : worldValid (pvW (b.take 2000)) with
 | true => exact laws_FnTypesOfPattern_good hb hv
 | false => exact laws_FnTypesOfPattern_bad hb hv
end Go.Proofs.Ytflgpdjbgfkhoaa
