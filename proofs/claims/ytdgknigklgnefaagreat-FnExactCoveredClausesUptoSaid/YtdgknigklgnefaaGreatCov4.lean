/-
  THE ABSTRACT WALK AND THE WALKS, part 4 of 6: the parts F21, F24, F25, F13, G2, F22, F26, F23, F27, F28, F29, F40, F14, F16, F42, Val, F7, F8, Wu, F9, F10, F11, F17, F43, F44.
-/
import Derived.Test.YtdgknigklgnefaaGreatCov3
namespace Go.Proofs.YtdgknigklgnefaaGreat
open Go
set_option linter.unusedSimpArgs false
set_option linter.unusedVariables false
set_option maxRecDepth 100000
set_option maxHeartbeats 4000000
theorem vctors_in {w : List Data} {d : Nat} {k : Int} : vctors w ⟨d, k⟩ = ctorsOf w ⟨d, k⟩ := by unfold vctors; rw [if_neg (by simp only; omega)]
theorem vctors_int {w : List Data} {k : Int} : vctors w ⟨-1, k⟩ = [] := by unfold vctors; rw [if_pos rfl]
theorem vctors_len {w : List Data} (hw : WT w) {a k : Int} (ht : TyIn w.length ⟨a, k⟩) : (vctors w ⟨a, k⟩).length ≤ 1000000000000 := by
 rcases ht with ha | ⟨d, hd, hlt⟩
 ·simp only at ha; subst ha; rw [vctors_int]; exact Nat.zero_le _
 ·simp only at hd; subst hd; rw [vctors_in]; exact ctorsOf_len hw
theorem vctors_data {w : List Data} {a k c : Int} (ht : TyIn w.length ⟨a, k⟩) (h : c ∈ vctors w ⟨a, k⟩) : ∃ d : Nat, a = d ∧ d < w.length ∧ PlaceIn w d c := by
 rcases ht with ha | ⟨d, hd, hlt⟩
 ·simp only at ha; subst ha; rw [vctors_int] at h; simp at h
 ·simp only at hd; subst hd; rw [vctors_in] at h; exact ⟨d, rfl, hlt, place_of h⟩
theorem typesP_in {w : List Data} (hw : WT w) {a k : Int} {p : Pat} (ht : TyIn w.length ⟨a, k⟩) (h : ownP w ⟨a, k⟩ p = true) : ∀ t ∈ typesP w ⟨a, k⟩ p, TyIn w.length t := by
 intro t hm
 unfold typesP at hm
 split at hm
 ·rename_i h4
  unfold ownP at h
  have h' := of_decide_eq_true h
  have hc : p.ctor ∈ vctors w ⟨a, k⟩ := by
   rcases h'.2.2.2.2 with h | h | h | h | h | h
   ·omega
   ·omega
   ·omega
   ·omega
   ·omega
   ·exact h.2
  obtain ⟨d, rfl, h1, h2⟩ := vctors_data ht hc
  exact argsOf_in hw h1 h2 hm
 ·split at hm
  ·simp only [List.mem_cons, List.not_mem_nil, or_false] at hm
   rcases hm with rfl | rfl <;> exact ht
  ·split at hm
   ·simp only [List.mem_cons, List.not_mem_nil, or_false] at hm
    subst hm; exact ht
   ·simp at hm
theorem typesP_len {w : List Data} (hw : WT w) {a k : Int} {p : Pat} (ht : TyIn w.length ⟨a, k⟩) (h : p.op = 4 → p.ctor ∈ vctors w ⟨a, k⟩) : (typesP w ⟨a, k⟩ p).length ≤ 1000000000000 := by
 unfold typesP
 split
 ·rename_i h4
  obtain ⟨d, rfl, h1, h2⟩ := vctors_data ht (h h4)
  exact argsOf_len hw h1 h2
 ·split
  ·simp
  ·split <;> simp
def kidsN (op : Int) : Int := if op = 5 then 2 else if op = 6 then 1 else if op = 4 then -1 else 0
theorem spec_l3Kids_fn {op : Int} : FnD Tryz.prog 269 [.d (.i op)] [] (.d (.i (kidsN op))) [] := by
 refine bd Tryz.f269 10 [] [] fun w0 F0 own kept hk => ?_
 refine sq (fun h1 h1p h1s => ?_) fun h1 h1p h1s => ?_
 ·try simp only [Q] at h1p
  refine rn0 (r1 rfl) (.eqd ?_)
  all_goals (refine congrArg D.i ?_; simp only [kidsN]; simp_all)
 ·try simp only [Q] at h1p
  refine sq (fun h2 h2p h2s => ?_) fun h2 h2p h2s => ?_
  ·try simp only [Q] at h2p
   refine rn0 (r1 rfl) (.eqd ?_)
   all_goals (refine congrArg D.i ?_; simp only [kidsN]; simp_all)
  ·try simp only [Q] at h2p
   refine sq (fun h3 h3p h3s => ?_) fun h3 h3p h3s => ?_
   ·try simp only [Q] at h3p
    refine rn0 (r1 rfl) (.eqd ?_)
    all_goals (refine congrArg D.i ?_; simp only [kidsN]; simp_all)
   ·try simp only [Q] at h3p
    refine rn0 (r1 rfl) (.eqd ?_)
    all_goals (refine congrArg D.i ?_; simp only [kidsN]; simp_all)
theorem spec_l1Ctors_v {w : List Data} (hw : WT w) {a k : Int} (ht : TyIn w.length ⟨a, k⟩) : FnD Tryz.prog 164 [.d (encDatas w), .agg [.d (.i a), .d (.i k)]] [] (.d (encInts (vctors w ⟨a, k⟩))) [] := by
 rcases ht with ha | ⟨d, hd, hlt⟩
 ·simp only at ha; subst ha; rw [vctors_int]; exact spec_l1Ctors_int_fn
 ·simp only at hd; subst hd; rw [vctors_in]; exact spec_l1Ctors_in hw hlt
theorem spec_l1Args_v {w : List Data} (hw : WT w) {a k c : Int} (ht : TyIn w.length ⟨a, k⟩) (hc : c ∈ vctors w ⟨a, k⟩) : FnD Tryz.prog 150 [.d (encDatas w), .agg [.d (.i a), .d (.i k)], .d (.i c)] [] (.d (encTys (argsOf w ⟨a, k⟩ c))) [] := by
 obtain ⟨d, rfl, h1, h2⟩ := vctors_data ht hc
 exact spec_l1Args_in hw h1 h2
theorem spec_l3Own_fn {w : List Data} (hw : WT w) {a k : Int} {p : Pat} (ht : TyIn w.length ⟨a, k⟩) :
  FnD Tryz.prog 280 [.d (encDatas w), .agg [.d (.i a), .d (.i k)], .agg [.d (.i p.op), .d (.i p.ctor), .d (.i p.n), .d (.i p.m), .d (.i p.var), .d (encPats p.kids)]] [] (.d (.bool (ownP w ⟨a, k⟩ p))) [] := by
 have hcl := vctors_len hw ht
 refine bd Tryz.f280 96 [] [1, 2, 4, 13] fun w0 F0 own kept hk => ?_
 refine Walk.box (id := 3004) .none rfl rfl rfl rfl rfl rfl rfl ?_
 refine Walk.box (id := 3005) .none rfl rfl rfl rfl rfl rfl rfl ?_
 refine ev ?_
 refine CWp.regionJ ?_
 refine WRest.join 8 [(15, .d (.bool (decide (p.op = 2 ∨ p.op = 6))))] [8, 9, 10, 11, 12, 13, 14] ?_ ?_
 ·
  refine ev ?_
  refine sq (fun h1 h1p h1s => ?_) fun h1 h1p h1s => ?_
  ·try simp only [Q] at h1p
   exact jnb rfl
  ·try simp only [Q] at h1p
   exact jnb rfl
 refine WRest.done ?_
 refine ev ?_
 refine CWp.regionJ ?_
 refine WRest.join 11 [(26, .d (.bool (decide ((p.op = 2 ∨ p.op = 6) ∧ (p.var < 0 ∨ 5 < p.var)))))] [16, 17, 18, 19, 20, 21, 22, 23, 24, 25] ?_ ?_
 ·
  refine ev ?_
  refine sq (fun h2 h2p h2s => ?_) fun h2 h2p h2s => ?_
  ·try simp only [Q] at h2p
   refine sq (fun h3 h3p h3s => ?_) fun h3 h3p h3s => ?_
   ·try simp only [Q] at h3p
    exact jnb rfl
   ·try simp only [Q] at h3p
    exact jnb rfl
  ·try simp only [Q] at h2p
   exact jnb rfl
 refine WRest.join 9 [(35, .d (.bool (decide ((p.op = 2 ∨ p.op = 6) ∧ (p.var < 0 ∨ 5 < p.var) ∨ ¬ (p.op = 2 ∨ p.op = 6) ∧ p.var ≠ 0))))] [27, 28, 29, 30, 31, 32, 33, 34] ?_ ?_
 ·
  refine ev ?_
  refine sq (fun h4 h4p h4s => ?_) fun h4 h4p h4s => ?_
  ·try simp only [Q] at h4p
   exact jnb rfl
  ·try simp only [Q] at h4p
   refine sq (fun h5 h5p h5s => ?_) fun h5 h5p h5s => ?_
   ·try simp only [Q] at h5p
    exact jnb rfl
   ·try simp only [Q] at h5p
    exact jnb rfl
 refine WRest.done ?_
 refine tv ?_
 refine sq (fun h6 h6p h6s => ?_) fun h6 h6p h6s => ?_
 ·try simp only [Q] at h6p
  refine rn0 (r1 rfl) (.eqd ?_)
  all_goals (refine congrArg D.bool ?_; unfold ownP; rw [Bool.eq_iff_iff]; by_cases hmem : p.ctor ∈ vctors w ⟨a, k⟩ <;> (simp only [hmem, and_true, and_false, or_false, decide_eq_true_eq, Bool.and_eq_true, Bool.false_eq_true, true_iff, false_iff]; simp only [decide_eq_true_eq, decide_eq_false_iff_not] at *; omega))
 ·try simp only [Q] at h6p
  refine CWp.regionJ ?_
  refine WRest.join 13 [(48, .d (.bool (decide (p.op ≠ 3 ∧ (p.n ≠ 0 ∨ p.m ≠ 0)))))] [36, 37, 38, 39, 40, 41, 42, 43, 44, 45, 46, 47] ?_ ?_
  ·
   refine ev ?_
   refine sq (fun h7 h7p h7s => ?_) fun h7 h7p h7s => ?_
   ·try simp only [Q] at h7p
    refine sq (fun h8 h8p h8s => ?_) fun h8 h8p h8s => ?_
    ·try simp only [Q] at h8p
     exact jnb rfl
    ·try simp only [Q] at h8p
     exact jnb rfl
   ·try simp only [Q] at h7p
    exact jnb rfl
  refine WRest.join 10 [(58, .d (.bool (decide (p.op ≠ 3 ∧ (p.n ≠ 0 ∨ p.m ≠ 0) ∨ p.op ≠ 4 ∧ p.ctor ≠ 0))))] [49, 50, 51, 52, 53, 54, 55, 56, 57] ?_ ?_
  ·
   refine ev ?_
   refine sq (fun h9 h9p h9s => ?_) fun h9 h9p h9s => ?_
   ·try simp only [Q] at h9p
    exact jnb rfl
   ·try simp only [Q] at h9p
    refine sq (fun h10 h10p h10s => ?_) fun h10 h10p h10s => ?_
    ·try simp only [Q] at h10p
     exact jnb rfl
    ·try simp only [Q] at h10p
     exact jnb rfl
  refine WRest.done ?_
  refine tv ?_
  refine sq (fun h11 h11p h11s => ?_) fun h11 h11p h11s => ?_
  ·try simp only [Q] at h11p
   refine rn0 (r1 rfl) (.eqd ?_)
   all_goals (refine congrArg D.bool ?_; unfold ownP; rw [Bool.eq_iff_iff]; by_cases hmem : p.ctor ∈ vctors w ⟨a, k⟩ <;> (simp only [hmem, and_true, and_false, or_false, decide_eq_true_eq, Bool.and_eq_true, Bool.false_eq_true, true_iff, false_iff]; simp only [decide_eq_true_eq, decide_eq_false_iff_not] at *; omega))
  ·try simp only [Q] at h11p
   refine sq (fun h12 h12p h12s => ?_) fun h12 h12p h12s => ?_
   ·try simp only [Q] at h12p
    refine sq (fun h13 h13p h13s => ?_) fun h13 h13p h13s => ?_
    ·try simp only [Q] at h13p
     refine rn0 (r1 rfl) (.eqd ?_)
     all_goals (refine congrArg D.bool ?_; unfold ownP; rw [Bool.eq_iff_iff]; by_cases hmem : p.ctor ∈ vctors w ⟨a, k⟩ <;> (simp only [hmem, and_true, and_false, or_false, decide_eq_true_eq, Bool.and_eq_true, Bool.false_eq_true, true_iff, false_iff]; simp only [decide_eq_true_eq, decide_eq_false_iff_not] at *; omega))
    ·try simp only [Q] at h13p
     refine sq (fun h14 h14p h14s => ?_) fun h14 h14p h14s => ?_
     ·try simp only [Q] at h14p
      refine CWp.regionJ ?_
      refine WRest.join 8 [(75, .d (.bool (decide (a = -1 ∧ 0 ≤ p.n))))] [68, 69, 70, 71, 72, 73, 74] ?_ ?_
      ·
       refine ev ?_
       refine sq (fun h15 h15p h15s => ?_) fun h15 h15p h15s => ?_
       ·try simp only [Q] at h15p
        exact jnb rfl
       ·try simp only [Q] at h15p
        exact jnb rfl
      refine WRest.join 7 [(82, .d (.bool (decide (a = -1 ∧ 0 ≤ p.n ∧ p.n ≤ p.m))))] [76, 77, 78, 79, 80, 81] ?_ ?_
      ·
       refine ev ?_
       refine sq (fun h16 h16p h16s => ?_) fun h16 h16p h16s => ?_
       ·try simp only [Q] at h16p
        exact jnb rfl
       ·try simp only [Q] at h16p
        exact jnb rfl
      refine WRest.join 5 [(87, .d (.bool (decide (a = -1 ∧ 0 ≤ p.n ∧ p.n ≤ p.m ∧ p.m ≤ 9))))] [83, 84, 85, 86] ?_ ?_
      ·
       refine ev ?_
       refine sq (fun h17 h17p h17s => ?_) fun h17 h17p h17s => ?_
       ·try simp only [Q] at h17p
        exact jnb rfl
       ·try simp only [Q] at h17p
        exact jnb rfl
      refine WRest.done ?_
      refine ev ?_
      refine rn0 (r1 rfl) (.eqd ?_)
      all_goals (refine congrArg D.bool ?_; unfold ownP; rw [Bool.eq_iff_iff]; by_cases hmem : p.ctor ∈ vctors w ⟨a, k⟩ <;> (simp only [hmem, and_true, and_false, or_false, decide_eq_true_eq, Bool.and_eq_true, Bool.false_eq_true, true_iff, false_iff]; simp only [decide_eq_true_eq, decide_eq_false_iff_not] at *; omega))
     ·try simp only [Q] at h14p
      refine sq (fun h18 h18p h18s => ?_) fun h18 h18p h18s => ?_
      ·try simp only [Q] at h18p
       refine Walk.call (cr := []) cal164 (spec_l1Ctors_v hw ht) rfl .none rfl rfl (LeL.refl _) trivial rfl rfl rfl ?_
       refine evd [] [] ?_
       refine Walk.call (cr := []) cal149 (spec_l1Has_fn hcl) rfl .none rfl rfl (LeL.refl _) trivial rfl rfl rfl ?_
       refine evd [] [] ?_
       refine dr ?_
       refine rn0 (r1 rfl) (.eqd ?_)
       all_goals (refine congrArg D.bool ?_; unfold ownP; rw [Bool.eq_iff_iff]; by_cases hmem : p.ctor ∈ vctors w ⟨a, k⟩ <;> (simp only [hmem, and_true, and_false, or_false, decide_eq_true_eq, Bool.and_eq_true, Bool.false_eq_true, true_iff, false_iff]; simp only [decide_eq_true_eq, decide_eq_false_iff_not] at *; omega))
      ·try simp only [Q] at h18p
       refine rn0 (r1 rfl) (.eqd ?_)
       all_goals (refine congrArg D.bool ?_; unfold ownP; rw [Bool.eq_iff_iff]; by_cases hmem : p.ctor ∈ vctors w ⟨a, k⟩ <;> (simp only [hmem, and_true, and_false, or_false, decide_eq_true_eq, Bool.and_eq_true, Bool.false_eq_true, true_iff, false_iff]; simp only [decide_eq_true_eq, decide_eq_false_iff_not] at *; omega))
   ·try simp only [Q] at h12p
    refine sq (fun h19 h19p h19s => ?_) fun h19 h19p h19s => ?_
    ·try simp only [Q] at h19p
     refine sq (fun h20 h20p h20s => ?_) fun h20 h20p h20s => ?_
     ·try simp only [Q] at h20p
      refine rn0 (r1 rfl) (.eqd ?_)
      all_goals (refine congrArg D.bool ?_; unfold ownP; rw [Bool.eq_iff_iff]; by_cases hmem : p.ctor ∈ vctors w ⟨a, k⟩ <;> (simp only [hmem, and_true, and_false, or_false, decide_eq_true_eq, Bool.and_eq_true, Bool.false_eq_true, true_iff, false_iff]; simp only [decide_eq_true_eq, decide_eq_false_iff_not] at *; omega))
     ·try simp only [Q] at h20p
      refine sq (fun h21 h21p h21s => ?_) fun h21 h21p h21s => ?_
      ·try simp only [Q] at h21p
       refine CWp.regionJ ?_
       refine WRest.join 8 [(75, .d (.bool (decide (a = -1 ∧ 0 ≤ p.n))))] [68, 69, 70, 71, 72, 73, 74] ?_ ?_
       ·
        refine ev ?_
        refine sq (fun h22 h22p h22s => ?_) fun h22 h22p h22s => ?_
        ·try simp only [Q] at h22p
         exact jnb rfl
        ·try simp only [Q] at h22p
         exact jnb rfl
       refine WRest.join 7 [(82, .d (.bool (decide (a = -1 ∧ 0 ≤ p.n ∧ p.n ≤ p.m))))] [76, 77, 78, 79, 80, 81] ?_ ?_
       ·
        refine ev ?_
        refine sq (fun h23 h23p h23s => ?_) fun h23 h23p h23s => ?_
        ·try simp only [Q] at h23p
         exact jnb rfl
        ·try simp only [Q] at h23p
         exact jnb rfl
       refine WRest.join 5 [(87, .d (.bool (decide (a = -1 ∧ 0 ≤ p.n ∧ p.n ≤ p.m ∧ p.m ≤ 9))))] [83, 84, 85, 86] ?_ ?_
       ·
        refine ev ?_
        refine sq (fun h24 h24p h24s => ?_) fun h24 h24p h24s => ?_
        ·try simp only [Q] at h24p
         exact jnb rfl
        ·try simp only [Q] at h24p
         exact jnb rfl
       refine WRest.done ?_
       refine ev ?_
       refine rn0 (r1 rfl) (.eqd ?_)
       all_goals (refine congrArg D.bool ?_; unfold ownP; rw [Bool.eq_iff_iff]; by_cases hmem : p.ctor ∈ vctors w ⟨a, k⟩ <;> (simp only [hmem, and_true, and_false, or_false, decide_eq_true_eq, Bool.and_eq_true, Bool.false_eq_true, true_iff, false_iff]; simp only [decide_eq_true_eq, decide_eq_false_iff_not] at *; omega))
      ·try simp only [Q] at h21p
       refine sq (fun h25 h25p h25s => ?_) fun h25 h25p h25s => ?_
       ·try simp only [Q] at h25p
        refine Walk.call (cr := []) cal164 (spec_l1Ctors_v hw ht) rfl .none rfl rfl (LeL.refl _) trivial rfl rfl rfl ?_
        refine evd [] [] ?_
        refine Walk.call (cr := []) cal149 (spec_l1Has_fn hcl) rfl .none rfl rfl (LeL.refl _) trivial rfl rfl rfl ?_
        refine evd [] [] ?_
        refine dr ?_
        refine rn0 (r1 rfl) (.eqd ?_)
        all_goals (refine congrArg D.bool ?_; unfold ownP; rw [Bool.eq_iff_iff]; by_cases hmem : p.ctor ∈ vctors w ⟨a, k⟩ <;> (simp only [hmem, and_true, and_false, or_false, decide_eq_true_eq, Bool.and_eq_true, Bool.false_eq_true, true_iff, false_iff]; simp only [decide_eq_true_eq, decide_eq_false_iff_not] at *; omega))
       ·try simp only [Q] at h25p
        refine rn0 (r1 rfl) (.eqd ?_)
        all_goals (refine congrArg D.bool ?_; unfold ownP; rw [Bool.eq_iff_iff]; by_cases hmem : p.ctor ∈ vctors w ⟨a, k⟩ <;> (simp only [hmem, and_true, and_false, or_false, decide_eq_true_eq, Bool.and_eq_true, Bool.false_eq_true, true_iff, false_iff]; simp only [decide_eq_true_eq, decide_eq_false_iff_not] at *; omega))
    ·try simp only [Q] at h19p
     refine sq (fun h26 h26p h26s => ?_) fun h26 h26p h26s => ?_
     ·try simp only [Q] at h26p
      refine sq (fun h27 h27p h27s => ?_) fun h27 h27p h27s => ?_
      ·try simp only [Q] at h27p
       refine rn0 (r1 rfl) (.eqd ?_)
       all_goals (refine congrArg D.bool ?_; unfold ownP; rw [Bool.eq_iff_iff]; by_cases hmem : p.ctor ∈ vctors w ⟨a, k⟩ <;> (simp only [hmem, and_true, and_false, or_false, decide_eq_true_eq, Bool.and_eq_true, Bool.false_eq_true, true_iff, false_iff]; simp only [decide_eq_true_eq, decide_eq_false_iff_not] at *; omega))
      ·try simp only [Q] at h27p
       refine sq (fun h28 h28p h28s => ?_) fun h28 h28p h28s => ?_
       ·try simp only [Q] at h28p
        refine CWp.regionJ ?_
        refine WRest.join 8 [(75, .d (.bool (decide (a = -1 ∧ 0 ≤ p.n))))] [68, 69, 70, 71, 72, 73, 74] ?_ ?_
        ·
         refine ev ?_
         refine sq (fun h29 h29p h29s => ?_) fun h29 h29p h29s => ?_
         ·try simp only [Q] at h29p
          exact jnb rfl
         ·try simp only [Q] at h29p
          exact jnb rfl
        refine WRest.join 7 [(82, .d (.bool (decide (a = -1 ∧ 0 ≤ p.n ∧ p.n ≤ p.m))))] [76, 77, 78, 79, 80, 81] ?_ ?_
        ·
         refine ev ?_
         refine sq (fun h30 h30p h30s => ?_) fun h30 h30p h30s => ?_
         ·try simp only [Q] at h30p
          exact jnb rfl
         ·try simp only [Q] at h30p
          exact jnb rfl
        refine WRest.join 5 [(87, .d (.bool (decide (a = -1 ∧ 0 ≤ p.n ∧ p.n ≤ p.m ∧ p.m ≤ 9))))] [83, 84, 85, 86] ?_ ?_
        ·
         refine ev ?_
         refine sq (fun h31 h31p h31s => ?_) fun h31 h31p h31s => ?_
         ·try simp only [Q] at h31p
          exact jnb rfl
         ·try simp only [Q] at h31p
          exact jnb rfl
        refine WRest.done ?_
        refine ev ?_
        refine rn0 (r1 rfl) (.eqd ?_)
        all_goals (refine congrArg D.bool ?_; unfold ownP; rw [Bool.eq_iff_iff]; by_cases hmem : p.ctor ∈ vctors w ⟨a, k⟩ <;> (simp only [hmem, and_true, and_false, or_false, decide_eq_true_eq, Bool.and_eq_true, Bool.false_eq_true, true_iff, false_iff]; simp only [decide_eq_true_eq, decide_eq_false_iff_not] at *; omega))
       ·try simp only [Q] at h28p
        refine sq (fun h32 h32p h32s => ?_) fun h32 h32p h32s => ?_
        ·try simp only [Q] at h32p
         refine Walk.call (cr := []) cal164 (spec_l1Ctors_v hw ht) rfl .none rfl rfl (LeL.refl _) trivial rfl rfl rfl ?_
         refine evd [] [] ?_
         refine Walk.call (cr := []) cal149 (spec_l1Has_fn hcl) rfl .none rfl rfl (LeL.refl _) trivial rfl rfl rfl ?_
         refine evd [] [] ?_
         refine dr ?_
         refine rn0 (r1 rfl) (.eqd ?_)
         all_goals (refine congrArg D.bool ?_; unfold ownP; rw [Bool.eq_iff_iff]; by_cases hmem : p.ctor ∈ vctors w ⟨a, k⟩ <;> (simp only [hmem, and_true, and_false, or_false, decide_eq_true_eq, Bool.and_eq_true, Bool.false_eq_true, true_iff, false_iff]; simp only [decide_eq_true_eq, decide_eq_false_iff_not] at *; omega))
        ·try simp only [Q] at h32p
         refine rn0 (r1 rfl) (.eqd ?_)
         all_goals (refine congrArg D.bool ?_; unfold ownP; rw [Bool.eq_iff_iff]; by_cases hmem : p.ctor ∈ vctors w ⟨a, k⟩ <;> (simp only [hmem, and_true, and_false, or_false, decide_eq_true_eq, Bool.and_eq_true, Bool.false_eq_true, true_iff, false_iff]; simp only [decide_eq_true_eq, decide_eq_false_iff_not] at *; omega))
     ·try simp only [Q] at h26p
      refine sq (fun h33 h33p h33s => ?_) fun h33 h33p h33s => ?_
      ·try simp only [Q] at h33p
       refine rn0 (r1 rfl) (.eqd ?_)
       all_goals (refine congrArg D.bool ?_; unfold ownP; rw [Bool.eq_iff_iff]; by_cases hmem : p.ctor ∈ vctors w ⟨a, k⟩ <;> (simp only [hmem, and_true, and_false, or_false, decide_eq_true_eq, Bool.and_eq_true, Bool.false_eq_true, true_iff, false_iff]; simp only [decide_eq_true_eq, decide_eq_false_iff_not] at *; omega))
      ·try simp only [Q] at h33p
       refine sq (fun h34 h34p h34s => ?_) fun h34 h34p h34s => ?_
       ·try simp only [Q] at h34p
        refine CWp.regionJ ?_
        refine WRest.join 8 [(75, .d (.bool (decide (a = -1 ∧ 0 ≤ p.n))))] [68, 69, 70, 71, 72, 73, 74] ?_ ?_
        ·
         refine ev ?_
         refine sq (fun h35 h35p h35s => ?_) fun h35 h35p h35s => ?_
         ·try simp only [Q] at h35p
          exact jnb rfl
         ·try simp only [Q] at h35p
          exact jnb rfl
        refine WRest.join 7 [(82, .d (.bool (decide (a = -1 ∧ 0 ≤ p.n ∧ p.n ≤ p.m))))] [76, 77, 78, 79, 80, 81] ?_ ?_
        ·
         refine ev ?_
         refine sq (fun h36 h36p h36s => ?_) fun h36 h36p h36s => ?_
         ·try simp only [Q] at h36p
          exact jnb rfl
         ·try simp only [Q] at h36p
          exact jnb rfl
        refine WRest.join 5 [(87, .d (.bool (decide (a = -1 ∧ 0 ≤ p.n ∧ p.n ≤ p.m ∧ p.m ≤ 9))))] [83, 84, 85, 86] ?_ ?_
        ·
         refine ev ?_
         refine sq (fun h37 h37p h37s => ?_) fun h37 h37p h37s => ?_
         ·try simp only [Q] at h37p
          exact jnb rfl
         ·try simp only [Q] at h37p
          exact jnb rfl
        refine WRest.done ?_
        refine ev ?_
        refine rn0 (r1 rfl) (.eqd ?_)
        all_goals (refine congrArg D.bool ?_; unfold ownP; rw [Bool.eq_iff_iff]; by_cases hmem : p.ctor ∈ vctors w ⟨a, k⟩ <;> (simp only [hmem, and_true, and_false, or_false, decide_eq_true_eq, Bool.and_eq_true, Bool.false_eq_true, true_iff, false_iff]; simp only [decide_eq_true_eq, decide_eq_false_iff_not] at *; omega))
       ·try simp only [Q] at h34p
        refine sq (fun h38 h38p h38s => ?_) fun h38 h38p h38s => ?_
        ·try simp only [Q] at h38p
         refine Walk.call (cr := []) cal164 (spec_l1Ctors_v hw ht) rfl .none rfl rfl (LeL.refl _) trivial rfl rfl rfl ?_
         refine evd [] [] ?_
         refine Walk.call (cr := []) cal149 (spec_l1Has_fn hcl) rfl .none rfl rfl (LeL.refl _) trivial rfl rfl rfl ?_
         refine evd [] [] ?_
         refine dr ?_
         refine rn0 (r1 rfl) (.eqd ?_)
         all_goals (refine congrArg D.bool ?_; unfold ownP; rw [Bool.eq_iff_iff]; by_cases hmem : p.ctor ∈ vctors w ⟨a, k⟩ <;> (simp only [hmem, and_true, and_false, or_false, decide_eq_true_eq, Bool.and_eq_true, Bool.false_eq_true, true_iff, false_iff]; simp only [decide_eq_true_eq, decide_eq_false_iff_not] at *; omega))
        ·try simp only [Q] at h38p
         refine rn0 (r1 rfl) (.eqd ?_)
         all_goals (refine congrArg D.bool ?_; unfold ownP; rw [Bool.eq_iff_iff]; by_cases hmem : p.ctor ∈ vctors w ⟨a, k⟩ <;> (simp only [hmem, and_true, and_false, or_false, decide_eq_true_eq, Bool.and_eq_true, Bool.false_eq_true, true_iff, false_iff]; simp only [decide_eq_true_eq, decide_eq_false_iff_not] at *; omega))
theorem spec_l3Types_fn {w : List Data} (hw : WT w) {a k : Int} {p : Pat} (ht : TyIn w.length ⟨a, k⟩) (h : p.op = 4 → p.ctor ∈ vctors w ⟨a, k⟩) :
  FnD Tryz.prog 209 [.d (encDatas w), .agg [.d (.i a), .d (.i k)], .agg [.d (.i p.op), .d (.i p.ctor), .d (.i p.n), .d (.i p.m), .d (.i p.var), .d (encPats p.kids)]] [] (.d (encTys (typesP w ⟨a, k⟩ p))) [] := by
 by_cases h4 : p.op = 4
 ·have e : typesP w ⟨a, k⟩ p = argsOf w ⟨a, k⟩ p.ctor := by unfold typesP; rw [if_pos h4]
  rw [e]
  refine bd Tryz.f209 30 [] [] fun w0 F0 own kept hk => ?_
  refine Walk.box (id := 3004) .none rfl rfl rfl rfl rfl rfl rfl ?_
  refine Walk.box (id := 3005) .none rfl rfl rfl rfl rfl rfl rfl ?_
  refine ev ?_
  refine sq (fun h1 h1p h1s => ?_) fun h1 h1p h1s => ?_
  ·try simp only [Q] at h1p
   refine Walk.call (cr := []) cal150 (spec_l1Args_v hw ht (h h4)) rfl .none rfl rfl (LeL.refl _) trivial rfl rfl rfl ?_
   refine ev ?_
   refine rn0 (r1 rfl) (.eqd ?_)
   all_goals (rfl)
  ·try simp only [Q] at h1p
   exfalso; simp_all --stop
 ·have e : typesP w ⟨a, k⟩ p = List.replicate (kidsN p.op).toNat ⟨a, k⟩ := by
   unfold typesP kidsN; rw [if_neg h4]
   by_cases h5 : p.op = 5
   ·rw [if_pos h5, if_pos h5]; rfl
   ·rw [if_neg h5, if_neg h5]
    by_cases h6 : p.op = 6
    ·rw [if_pos h6, if_pos h6]; rfl
    ·rw [if_neg h6, if_neg h6, if_neg h4]; rfl
  have hb : 0 ≤ kidsN p.op ∧ kidsN p.op ≤ 2 := by unfold kidsN; split <;> (try split) <;> (try split) <;> omega
  rw [e]
  refine bd Tryz.f209 30 [] [] fun w0 F0 own kept hk => ?_
  refine Walk.box (id := 3004) .none rfl rfl rfl rfl rfl rfl rfl ?_
  refine Walk.box (id := 3005) .none rfl rfl rfl rfl rfl rfl rfl ?_
  refine ev ?_
  refine sq (fun h1 h1p h1s => ?_) fun h1 h1p h1s => ?_
  ·try simp only [Q] at h1p
   exfalso; simp_all --stop
  ·try simp only [Q] at h1p
   refine Walk.sliceEmptyG 5 sl182 .none rfl rfl ?_
   refine ev ?_
   refine CWp.loopX (ι := Nat) hk (fun i => [(8, .d (.i (i : Int))), (7, .gl 5 ((List.replicate i (⟨a, k⟩ : Ty)).map Ty.c))]) [18, 19, 20, 21, 22, 23, 24, 25, 26, 27, 28] (fun i => [(5, some (.tok (((List.replicate i (⟨a, k⟩ : Ty)).map Ty.c)).length 2))]) (fun i => (i : Int) ≤ kidsN p.op) (fun i => (kidsN p.op).toNat - i) 0 (by omega) ⟨⟨_, rfl, (LeA.eqi (by rfl))⟩, ⟨⟨_, rfl, (LeA.glg (by rfl))⟩, trivial⟩⟩ ⟨beq_nat_eq (by rfl), trivial⟩ (fun x => rfl) (fun i hg1 => ?_)
   refine evc [] [] ?_
   refine Walk.call (cr := []) cal269 (spec_l3Kids_fn) rfl .none rfl rfl (LeL.refl _) trivial rfl rfl rfl ?_
   refine ev ?_
   refine sq (fun h2 h2p h2s => ?_) fun h2 h2p h2s => ?_
   ·try simp only [Q] at h2p
    refine Walk.sliceLit sl182 tz42 rfl (by decide) (ks := [0]) (xs := [_]) rfl rfl (by decide) (by decide) .none rfl rfl rfl rfl ?_
    refine Walk.append sl182 zz42 rfl .none rfl rfl rfl rfl (htokL rfl (by first | rfl | (simp; done) | (simp; omega))) (by simp) (by simp; omega) (by simp; omega) ?_
    refine ev ?_
    refine ar ?_
    refine Exists.intro (i + 1) ⟨(by omega), (by omega), Sub.x (by kernel_rfl) (by kernel_rfl) ⟨⟨_, rfl, (LeA.eqi (by rfl))⟩, ⟨⟨_, rfl, (LeA.glg (by (simp [List.replicate_succ']; done)))⟩, trivial⟩⟩ (by kernel_rfl) (by kernel_rfl) ⟨beq_nat_eq (by rfl), trivial⟩⟩
   ·try simp only [Q] at h2p
    refine rn0 (r1 rfl) (.gld ?_)
    all_goals ((obtain rfl : i = (kidsN p.op).toNat := by omega); simp)
theorem shapeP_own {w : List Data} {n : Nat} {t : Ty} {p : Pat} (h : shapeP w (n + 1) t p = true) : ownP w t p = true ∧ p.kids.length = (typesP w t p).length := by
 simp only [shapeP, Bool.and_eq_true] at h
 refine ⟨h.1, ?_⟩
 by_cases hl : (typesP w t p).length = p.kids.length
 ·exact hl.symm
 ·rw [all2_len hl] at h; simp at h
theorem ownP_mem {w : List Data} {t : Ty} {p : Pat} (h : ownP w t p = true) : p.op = 4 → p.ctor ∈ vctors w t := by
 intro h4
 unfold ownP at h
 have h' := (of_decide_eq_true h).2.2.2.2
 rcases h' with h | h | h | h | h | h
 ·omega
 ·omega
 ·omega
 ·omega
 ·omega
 ·exact h.2
theorem ownP_var {w : List Data} {t : Ty} {p : Pat} (h : ownP w t p = true) : (p.op = 2 ∨ p.op = 6) → 0 ≤ p.var ∧ p.var ≤ 5 := by
 unfold ownP at h
 exact (of_decide_eq_true h).1
theorem spec_l3Shape_fn {w : List Data} (hw : WT w) : ∀ (n : Nat) {a k m : Int} {p : Pat}, m = n → n ≤ 1000 → TyIn w.length ⟨a, k⟩ → p.ok →
  FnD Tryz.prog 239 [.d (encDatas w), .agg [.d (.i a), .d (.i k)], .agg [.d (.i p.op), .d (.i p.ctor), .d (.i p.n), .d (.i p.m), .d (.i p.var), .d (encPats p.kids)], .d (.i m)] [] (.d (.bool (shapeP w n ⟨a, k⟩ p))) []
 | 0, a, k, m, p, hm, _, ht, hok => by
  refine bd Tryz.f239 50 [] [1] fun w0 F0 own kept hk => ?_
  refine Walk.box (id := 3005) .none rfl rfl rfl rfl rfl rfl rfl ?_
  refine Walk.box (id := 3006) .none rfl rfl rfl rfl rfl rfl rfl ?_
  refine ev ?_
  refine CWp.regionJ ?_
  refine WRest.join 9 [(19, .d (.bool (true)))] [11, 12, 13, 14, 15, 16, 17, 18] ?_ ?_
  ·
   refine ev ?_
   refine sq (fun h1 h1p h1s => ?_) fun h1 h1p h1s => ?_
   ·try simp only [Q] at h1p
    exact jnb rfl
   ·try simp only [Q] at h1p
    refine Walk.call (cr := []) cal280 (spec_l3Own_fn hw ht) rfl (.some rfl rfl h1) rfl rfl (LeL.refl _) trivial rfl rfl rfl ?_
    refine evs [] [(13, false)] ?_ ⟨⟨_, rfl, h1⟩, trivial⟩
    exact jnb rfl
  refine WRest.done ?_
  refine tv ?_
  refine sq (fun h2 h2p h2s => ?_) fun h2 h2p h2s => ?_
  ·try simp only [Q] at h2p
   refine rn0 (r1 rfl) (.eqd ?_)
   all_goals (rfl)
  ·try simp only [Q] at h2p
   exact absurd h2 (by simp) --stop
 | n + 1, a, k, m, p, hm, hn, ht, hok => by
  rw [Pat.ok_iff] at hok
  by_cases ho : ownP w ⟨a, k⟩ p = true
  ·have hin := typesP_in hw ht ho
   have hlen := typesP_len hw ht (ownP_mem ho)
   refine bd Tryz.f239 50 [] [1] fun w0 F0 own kept hk => ?_
   refine Walk.box (id := 3005) .none rfl rfl rfl rfl rfl rfl rfl ?_
   refine Walk.box (id := 3006) .none rfl rfl rfl rfl rfl rfl rfl ?_
   refine ev ?_
   refine CWp.regionJ ?_
   refine WRest.join 9 [(19, .d (.bool (false)))] [11, 12, 13, 14, 15, 16, 17, 18] ?_ ?_
   ·
    refine ev ?_
    refine sq (fun h1 h1p h1s => ?_) fun h1 h1p h1s => ?_
    ·try simp only [Q, Pat.cs_len] at h1p
     exact jnb rfl
    ·try simp only [Q, Pat.cs_len] at h1p
     refine Walk.call (cr := []) cal280 (spec_l3Own_fn hw ht) rfl (.some rfl rfl h1) rfl rfl (LeL.refl _) trivial rfl rfl rfl ?_
     refine evs [] [(13, false)] ?_ ⟨⟨_, rfl, h1⟩, trivial⟩
     exact jnb rfl
   refine WRest.done ?_
   refine tv ?_
   refine sq (fun h2 h2p h2s => ?_) fun h2 h2p h2s => ?_
   ·try simp only [Q, Pat.cs_len] at h2p
    exact absurd h2 (by simp) --stop
   ·try simp only [Q, Pat.cs_len] at h2p
    refine Walk.call (cr := []) cal209 (spec_l3Types_fn hw ht (ownP_mem ho)) rfl .none rfl rfl (LeL.refl _) trivial rfl rfl rfl ?_
    refine ev ?_
    refine sq (fun h3 h3p h3s => ?_) fun h3 h3p h3s => ?_
    ·try simp only [Q, Pat.cs_len] at h3p
     refine rn0 (r1 rfl) (.eqd ?_)
     all_goals (refine congrArg D.bool ?_; unfold shapeP; rw [ho, Bool.true_and]; (rw [all2_len (by simp [Pat.cs_len] at *; omega)]))
    ·try simp only [Q, Pat.cs_len] at h3p
     refine CWp.loopX (ι := Nat) hk (fun i => [(10, .d (.i (i : Int)))]) [8, 30, 31, 32, 33, 34, 35, 36, 37, 38, 39, 40, 41, 42, 43, 44, 45, 46, 47, 48, 49] (fun i => []) (fun i => i ≤ (typesP w ⟨a, k⟩ p).length ∧ ∀ i', i' < i → shapeP w n (nth (typesP w ⟨a, k⟩ p) i') (nth p.kids i') = true) (fun i => (typesP w ⟨a, k⟩ p).length - i) 0 ⟨by omega, fun _ h => absurd h (by omega)⟩ ⟨⟨_, rfl, (LeA.eqi (by first | rfl | (simp; done) | (simp_all; done) | omega))⟩, trivial⟩ trivial (fun x => rfl) (fun i hg1 => ?_)
     refine evc [] [1] ?_
     refine sq (fun h4 h4p h4s => ?_) fun h4 h4p h4s => ?_
     ·try simp only [Q, Pat.cs_len] at h4p
      refine Walk.idx sl182 .none rfl rfl rfl rfl (at_nth (by omega)) rfl ?_
      refine evd [] [] ?_
      refine Walk.idx sl49 .none rfl rfl rfl rfl (pats_at (by omega)) rfl ?_
      refine evd [] [] ?_
      refine ar ?_
      refine Walk.call (cr := []) cal239 (spec_l3Shape_fn hw n (by omega) (by omega) (hin _ (nth_mem (by omega))) (Pats.ok_mem hok.2 _ (nth_mem (by omega)))) rfl .none rfl rfl (LeL.refl _) trivial rfl rfl rfl ?_
      refine evd [] [] ?_
      refine dr ?_
      refine sq (fun h5 h5p h5s => ?_) fun h5 h5p h5s => ?_
      ·try simp only [Q, Pat.cs_len] at h5p
       refine rn0 (r1 rfl) (.eqd ?_)
       all_goals (refine congrArg D.bool ?_; unfold shapeP; rw [ho, Bool.true_and]; (rw [all2_nth_false (i := i) (by simp [Pat.cs_len] at *; omega) (by simp [Pat.cs_len] at *; omega) (by assumption)]))
      ·try simp only [Q, Pat.cs_len] at h5p
       refine ar ?_
       refine Exists.intro (i + 1) ⟨⟨by omega, upto_succ hg1.2 (by assumption)⟩, (by omega), Sub.x (by kernel_rfl) (by kernel_rfl) ⟨⟨_, rfl, (LeA.eqi (by first | rfl | (simp; done) | (simp_all; done) | omega))⟩, trivial⟩ (by kernel_rfl) (by kernel_rfl) trivial⟩
     ·try simp only [Q, Pat.cs_len] at h4p
      refine rn0 (r1 rfl) (.eqd ?_)
      all_goals (refine congrArg D.bool ?_; unfold shapeP; rw [ho, Bool.true_and]; (rw [all2_nth_true (by simp [Pat.cs_len] at *; omega) (fun x hx => hg1.2 x (by simp [Pat.cs_len] at *; omega))]))
  ·have ho' : ownP w ⟨a, k⟩ p = false := by simpa using ho
   refine bd Tryz.f239 50 [] [1] fun w0 F0 own kept hk => ?_
   refine Walk.box (id := 3005) .none rfl rfl rfl rfl rfl rfl rfl ?_
   refine Walk.box (id := 3006) .none rfl rfl rfl rfl rfl rfl rfl ?_
   refine ev ?_
   refine CWp.regionJ ?_
   refine WRest.join 9 [(19, .d (.bool (true)))] [11, 12, 13, 14, 15, 16, 17, 18] ?_ ?_
   ·
    refine ev ?_
    refine sq (fun h1 h1p h1s => ?_) fun h1 h1p h1s => ?_
    ·try simp only [Q] at h1p
     exact jnb rfl
    ·try simp only [Q] at h1p
     refine Walk.call (cr := []) cal280 (spec_l3Own_fn hw ht) rfl (.some rfl rfl h1) rfl rfl (LeL.refl _) trivial rfl rfl rfl ?_
     refine evs [] [(13, false)] ?_ ⟨⟨_, rfl, h1⟩, trivial⟩
     exact jnb rfl
   refine WRest.done ?_
   refine tv ?_
   refine sq (fun h2 h2p h2s => ?_) fun h2 h2p h2s => ?_
   ·try simp only [Q] at h2p
    refine rn0 (r1 rfl) (.eqd ?_)
    all_goals (refine congrArg D.bool ?_; unfold shapeP; rw [ho']; rfl)
   ·try simp only [Q] at h2p
    exact absurd h2 (by simp) --stop
theorem spec_l3Find_fn {l : List Vt} {n : Int} (h : l.length ≤ 1000000000000) : FnD Tryz.prog 282 [.d (encVts l), .d (.i n)] [] (.d (.i (findV l n))) [] := by
 refine bd Tryz.f282 20 [] [] fun w0 F0 own kept hk => ?_
 refine CWp.loopX (ι := List (Vt) × List (Vt)) hk (fun x => [(5, .d (.i (x.1.length : Int)))]) [4, 6, 7, 8, 9, 10, 11, 12, 13, 14, 15, 16, 17, 18, 19] (fun x => []) (fun x => x.1 ++ x.2 = l ∧ idxF (fun v => decide (v.var = n)) x.2 x.1.length = idxF (fun v => decide (v.var = n)) l 0) (fun x => x.2.length) ([], l) ⟨by simp, rfl⟩ ⟨⟨_, rfl, (LeA.eqi (by first | rfl | (simp; done) | (simp_all; done) | omega))⟩, trivial⟩ trivial (fun x => rfl) (fun x hg1 => ?_)
 obtain ⟨pre, rest⟩ := x
 dsimp only at hg1 ⊢
 refine evc [] [] ?_
 refine sq (fun h1 h1p h1s => ?_) fun h1 h1p h1s => ?_
 ·try simp only [Q] at h1p
  rcases rest with _ | ⟨y, rest⟩
  ·exfalso; simp_all
  refine Walk.idx sl124 .none rfl rfl rfl rfl (zip_at hg1.1) rfl ?_
  refine ev ?_
  refine sq (fun h2 h2p h2s => ?_) fun h2 h2p h2s => ?_
  ·try simp only [Q] at h2p
   refine rn0 (r1 rfl) (.eqd ?_)
   all_goals (refine congrArg D.i ?_; unfold findV; rw [← hg1.2]; simp [idxF, h1s, h1p, h2s, h2p])
  ·try simp only [Q] at h2p
   refine ar ?_
   refine Exists.intro ((pre ++ [y], rest)) ⟨⟨(by have hz := hg1.1; rw [← hz]; simp), (by rw [← hg1.2]; simp_all [idxF])⟩, (by simp), Sub.x (by kernel_rfl) (by kernel_rfl) ⟨⟨_, rfl, (LeA.eqi (by first | rfl | (simp; done) | (simp_all; done) | omega))⟩, trivial⟩ (by kernel_rfl) (by kernel_rfl) trivial⟩
 ·try simp only [Q] at h1p
  have hrest : rest = [] := by
   rcases rest with _ | ⟨a, b⟩
   ·rfl
   ·exfalso; have hz := congrArg List.length (hg1.1); simp only [List.length_append, List.length_cons, List.length_map] at hz; omega
  subst hrest
  refine rn0 (r1 rfl) (.eqd ?_)
  all_goals (refine congrArg D.i ?_; unfold findV; rw [← hg1.2]; simp [idxF, h1s, h1p])
theorem alike_false {a b : List Vt} {i : Nat} (h : i < a.length) (h2 : ¬ (0 ≤ findV b (nth a i).var ∧ (nth b (findV b (nth a i).var).toNat).ty = (nth a i).ty)) : alikeV a b = false := by
 unfold alikeV
 have : (a.all fun v => decide (0 ≤ findV b v.var ∧ (nth b (findV b v.var).toNat).ty = v.ty)) = false := List.all_eq_false.2 ⟨_, nth_mem h, by simpa using h2⟩
 rw [this, Bool.false_and]
theorem alike_true {a b : List Vt} (h : ∀ i, i < a.length → 0 ≤ findV b (nth a i).var ∧ (nth b (findV b (nth a i).var).toNat).ty = (nth a i).ty) : alikeV a b = decide (a.length = b.length) := by
 unfold alikeV
 have : (a.all fun v => decide (0 ≤ findV b v.var ∧ (nth b (findV b v.var).toNat).ty = v.ty)) = true := by
  rw [List.all_eq_true]
  intro v hv
  obtain ⟨j, hj, he⟩ := List.getElem_of_mem hv
  have := h j hj
  rw [nth_eq hj, he] at this
  exact decide_eq_true this
 rw [this, Bool.true_and]
theorem findV_lt {l : List Vt} {n : Int} (h : 0 ≤ findV l n) : (findV l n).toNat < l.length ∧ ((findV l n).toNat : Int) = findV l n := by
 rcases findV_spec l n with ⟨h1, _⟩ | ⟨k, h1, h2, _⟩
 ·omega
 ·rw [h1]; simpa using h2
theorem ty_iff {t u : Ty} : t = u ↔ t.data = u.data ∧ t.index = u.index := by
 cases t; cases u; simp
theorem spec_l3Alike_fn {x y : List Vt} (hx : x.length ≤ 1000000000000) (hy : y.length ≤ 1000000000000) : FnD Tryz.prog 281 [.d (encVts x), .d (encVts y)] [] (.d (.bool (alikeV x y))) [] := by
 refine bd Tryz.f281 40 [33] [] fun w0 F0 own kept hk => ?_
 refine CWp.loopX (ι := Nat) hk (fun i => [(5, .d (.i (i : Int)))]) [4, 6, 7, 8, 9, 10, 11, 12, 13, 14, 15, 16, 17, 18, 19, 20, 21, 22, 23, 24, 25, 26, 27, 28, 29, 30, 31, 32, 33, 34] (fun i => []) (fun i => i ≤ x.length ∧ ∀ j, j < i → 0 ≤ findV y (nth x j).var ∧ (nth y (findV y (nth x j).var).toNat).ty = (nth x j).ty) (fun i => x.length - i) 0 ⟨by omega, fun _ h => absurd h (by omega)⟩ ⟨⟨_, rfl, (LeA.eqi (by first | rfl | (simp; done) | (simp_all; done) | omega))⟩, trivial⟩ trivial (fun x => rfl) (fun i hg1 => ?_)
 refine evc [33] [] ?_
 refine sq (fun h1 h1p h1s => ?_) fun h1 h1p h1s => ?_
 ·try simp only [Q] at h1p
  refine Walk.idx sl124 .none rfl rfl rfl rfl (at_nth (by omega)) rfl ?_
  refine evs [33] [] ?_
  refine Walk.call (cr := []) cal282 (spec_l3Find_fn hy) rfl .none rfl rfl (LeL.refl _) trivial rfl rfl rfl ?_
  refine evs [33] [] ?_
  refine sq (fun h2 h2p h2s => ?_) fun h2 h2p h2s => ?_
  ·try simp only [Q] at h2p
   refine dr ?_
   refine sqT ?_
   refine rn0 (r1 rfl) (.eqd ?_)
   all_goals (refine congrArg D.bool ?_; (refine (alike_false (i := i) (by omega) ?_).symm; simp only [ty_iff]; first | omega | (simp at h4; omega)))
  ·try simp only [Q] at h2p
   refine Walk.idx (i := (findV y (nth x i).var).toNat) sl124 (.some rfl rfl h2) rfl rfl rfl (findV_lt (l := y) (n := (nth x i).var) (by omega)).2.symm (at_nth (by exact (findV_lt (l := y) (n := (nth x i).var) (by omega)).1)) rfl ?_
   refine evd [33] [(22, false)] ?_ ⟨⟨_, rfl, h2⟩, trivial⟩
   refine Walk.idx sl124 (.some rfl rfl h2) rfl rfl rfl rfl (at_nth (by omega)) rfl ?_
   refine evd [33] [(22, false)] ?_ ⟨⟨_, rfl, h2⟩, trivial⟩
   refine Walk.neV eq42 (.some rfl rfl h2) rfl rfl rfl rfl rfl ?_
   refine evd [33] [(22, false)] ?_ ⟨⟨_, rfl, h2⟩, trivial⟩
   refine dr ?_
   refine sq (fun h4 h4p h4s => ?_) fun h4 h4p h4s => ?_
   ·try simp only [Q] at h4p
    refine rn0 (r1 rfl) (.eqd ?_)
    all_goals (refine congrArg D.bool ?_; (refine (alike_false (i := i) (by omega) ?_).symm; simp only [ty_iff]; first | omega | (simp at h4; omega)))
   ·try simp only [Q] at h4p
    refine ar ?_
    refine Exists.intro (i + 1) ⟨⟨by omega, upto_succ hg1.2 (by rw [ty_iff]; first | omega | (simp at h4; omega))⟩, (by omega), Sub.x (by kernel_rfl) (by kernel_rfl) ⟨⟨_, rfl, (LeA.eqi (by first | rfl | (simp; done) | (simp_all; done) | omega))⟩, trivial⟩ (by kernel_rfl) (by kernel_rfl) trivial⟩
 ·try simp only [Q] at h1p
  refine rn0 (r1 rfl) (.eqd ?_)
  all_goals (refine congrArg D.bool ?_; (rw [alike_true (fun j hj => hg1.2 j (by simp at h1p; omega))]; exact decide_eq_decide.2 (by simp; omega)))
theorem varsL_len {f : Ty → Pat → List Vt} (hf : ∀ t p, (f t p).length ≤ p.size) : ∀ (a : List Ty) (b : List Pat), (varsL f a b).length ≤ Pats.size b
 | [], [] => by simp [varsL]
 | [], _ :: _ => by simp [varsL]
 | _ :: _, [] => by simp [varsL]
 | x :: r, y :: s => by
  have h1 := varsL_len hf r s
  have h2 := hf x y
  simp only [varsL, List.length_append, Pats.size]; omega
theorem varsP_len (w : List Data) : ∀ (n : Nat) (t : Ty) (p : Pat), (varsP w n t p).length ≤ p.size
 | 0, t, p => by simp [varsP]
 | n + 1, t, p => by
  have h1 := varsL_len (varsP_len w n) (vtypes w t p) p.kids
  have h2 : (nameP t p).length ≤ 1 := by unfold nameP; split <;> simp
  rw [Pat.size_eq]
  simp only [varsP, List.length_append]; omega
theorem varsL_next {f : Ty → Pat → List Vt} : ∀ {a : List Ty} {b : List Pat} {i : Nat}, i < a.length → i < b.length → varsL f (a.take (i + 1)) (b.take (i + 1)) = varsL f (a.take i) (b.take i) ++ f (nth a i) (nth b i)
 | x :: r, y :: s, 0, _, _ => by simp [varsL, nth]
 | x :: r, y :: s, i + 1, h1, h2 => by
  have := varsL_next (f := f) (a := r) (b := s) (i := i) (by simpa using h1) (by simpa using h2)
  simp only [List.take_succ_cons, varsL]
  rw [this, List.append_assoc]
  rfl
theorem varsL_take {f : Ty → Pat → List Vt} : ∀ {a : List Ty} {b : List Pat} {i : Nat}, varsL f (a.take i) (b.take i) = varsL f (a.take i) b
 | [], b, i => by simp [varsL]
 | x :: r, [], i => by simp [varsL]
 | x :: r, y :: s, 0 => by simp [varsL]
 | x :: r, y :: s, i + 1 => by simp only [List.take_succ_cons, varsL]; rw [varsL_take]
theorem varsL_le {f : Ty → Pat → List Vt} (hf : ∀ t p, (f t p).length ≤ p.size) {a : List Ty} {b : List Pat} {i : Nat} (h : i < b.length) : (varsL f (a.take i) (b.take i)).length + (nth b i).size ≤ Pats.size b := by
 have h1 := varsL_len hf (a.take i) (b.take i)
 have h2 := Pats.size_split (pre := b.take i) (y := nth b i) (rest := b.drop (i + 1)) (l := b) (by rw [← drop_nth h, List.take_append_drop])
 omega
def vcount (w : List Data) (t : Ty) (p : Pat) : Nat := (vtypes w t p).length
theorem vcount_eq (w : List Data) (t : Ty) (p : Pat) : vcount w t p = if p.op = 5 then 1 else (typesP w t p).length := by
 unfold vcount vtypes
 by_cases h5 : p.op = 5
 ·rw [if_pos h5, if_pos h5]
  have : typesP w t p = [t, t] := by unfold typesP; rw [if_neg (by omega), if_pos h5]
  rw [this]; rfl
 ·rw [if_neg h5, if_neg h5]
theorem varsL_all {w : List Data} {f : Ty → Pat → List Vt} {t : Ty} {p : Pat} (hl : p.kids.length = (typesP w t p).length) {i : Nat} (h : i = vcount w t p) : varsL f ((typesP w t p).take i) (p.kids.take i) = varsL f (vtypes w t p) p.kids := by
 subst h
 rw [varsL_take]
 congr 1
 rw [vcount_eq]
 unfold vtypes
 by_cases h5 : p.op = 5
 ·rw [if_pos h5, if_pos h5]
 ·rw [if_neg h5, if_neg h5, List.take_length]
theorem shapeP_kid {w : List Data} {n : Nat} {t : Ty} {p : Pat} (h : shapeP w (n + 1) t p = true) {i : Nat} (hi : i < p.kids.length) : shapeP w n (nth (typesP w t p) i) (nth p.kids i) = true := by
 have hl := (shapeP_own h).2
 cases hs : shapeP w n (nth (typesP w t p) i) (nth p.kids i) with
 | true => rfl
 | false =>
  have := all2_nth_false (f := shapeP w n) (a := typesP w t p) (b := p.kids) (i := i) (by omega) hl.symm hs
  simp only [shapeP, this, Bool.and_false] at h
  cases h
theorem spec_l3Vars_fn {w : List Data} (hw : WT w) : ∀ (n : Nat) {a k : Int} {p : Pat} {xs : List Vt}, shapeP w n ⟨a, k⟩ p = true → n ≤ 1000 → TyIn w.length ⟨a, k⟩ → p.ok → xs.length + p.size ≤ 2000000000000 →
  FnD Tryz.prog 132 [.gl 5 (xs.map Vt.c), .d (encDatas w), .agg [.d (.i a), .d (.i k)], .agg [.d (.i p.op), .d (.i p.ctor), .d (.i p.n), .d (.i p.m), .d (.i p.var), .d (encPats p.kids)]] [(5, some (.tok (xs.map Vt.c).length 3))]
   (.gl 5 ((xs ++ varsP w n ⟨a, k⟩ p).map Vt.c)) [(5, some (.tok ((xs ++ varsP w n ⟨a, k⟩ p).map Vt.c).length 3))]
 | 0, a, k, p, xs, hs, _, _, _, _ => by simp [shapeP] at hs
 | n + 1, a, k, p, xs, hs, hn, ht, hok, hb => by
  rw [Pat.ok_iff] at hok
  rw [Pat.size_eq] at hb
  obtain ⟨ho, hl⟩ := shapeP_own hs
  have hin := typesP_in hw ht ho
  have hlen := typesP_len hw ht (ownP_mem ho)
  have hvc5 : p.op = 5 → vcount w ⟨a, k⟩ p = 1 := fun h => by rw [vcount_eq, if_pos h]
  have hvc : ¬ p.op = 5 → vcount w ⟨a, k⟩ p = (typesP w ⟨a, k⟩ p).length := fun h => by rw [vcount_eq, if_neg h]
  have hv2 : vcount w ⟨a, k⟩ p ≤ p.kids.length := by
   unfold vcount vtypes; split
   ·rw [List.length_take]; omega
   ·omega
  have e5 : p.op = 5 → (typesP w ⟨a, k⟩ p).length = 2 := fun h5 => by unfold typesP; rw [if_neg (by omega), if_pos h5]; rfl
  have hnm : (nameP ⟨a, k⟩ p).length ≤ 1 := by unfold nameP; split <;> simp
  refine bd Tryz.f132 58 [] [1, 5, 6] fun w0 F0 own kept hk => ?_
  refine Walk.box (id := 3006) .none rfl rfl rfl rfl rfl rfl rfl ?_
  refine Walk.box (id := 3007) .none rfl rfl rfl rfl rfl rfl rfl ?_
  refine ev ?_
  refine CWp.regionJ ?_
  refine WRest.join 8 [(18, .d (.bool (decide (p.op = 2 ∨ p.op = 6))))] [11, 12, 13, 14, 15, 16, 17] ?_ ?_
  ·
   refine ev ?_
   refine sq (fun h1 h1p h1s => ?_) fun h1 h1p h1s => ?_
   ·try simp only [Q, Pat.cs_len] at h1p
    exact jnb rfl
   ·try simp only [Q, Pat.cs_len] at h1p
    exact jnb rfl
  refine WRest.done ?_
  refine tv ?_
  refine sq (fun h2 h2p h2s => ?_) fun h2 h2p h2s => ?_
  ·try simp only [Q, Pat.cs_len] at h2p
   refine Walk.build st197 (ks := [0, 1]) (xs := [_, _]) rfl rfl .none rfl rfl rfl ?_
   refine Walk.sliceLit sl124 tz197 rfl (by decide) (ks := [0]) (xs := [_]) rfl rfl (by decide) (by decide) .none rfl rfl rfl rfl ?_
   refine Walk.append sl124 zz197 rfl .none rfl rfl rfl rfl (htokL rfl (by first | rfl | (simp; done) | (simp; omega))) (by simp) (by simp; omega) (by simp; omega) ?_
   refine ev ?_
   refine Walk.call (cr := []) cal209 (spec_l3Types_fn hw ht (ownP_mem ho)) rfl .none rfl rfl (LeL.refl _) trivial rfl rfl rfl ?_
   refine ev ?_
   refine CWp.loopT 5 6 (ι := Nat) hk (fun i => [(0, .gl 5 ((xs ++ nameP ⟨a, k⟩ p ++ varsL (varsP w n) ((typesP w ⟨a, k⟩ p).take i) (p.kids.take i)).map Vt.c)), (10, .d (.i (i : Int)))]) [30, 31, 32, 33, 34, 35, 36, 37, 38, 39, 40, 41, 42, 43, 44, 45, 46, 47, 48, 49, 50, 51, 52, 53, 54, 55, 56] (fun i => [(5, some (.tok ((xs ++ nameP ⟨a, k⟩ p ++ varsL (varsP w n) ((typesP w ⟨a, k⟩ p).take i) (p.kids.take i)).map Vt.c).length 3))]) (fun i => i ≤ vcount w ⟨a, k⟩ p) (fun i => vcount w ⟨a, k⟩ p - i) 0 (by omega) ⟨⟨_, rfl, (LeA.glg (by (simp [varsL, nameP, *]; done)))⟩, ⟨⟨_, rfl, (LeA.eqi (by rfl))⟩, trivial⟩⟩ ⟨beq_nat_eq (by (first | rfl | (simp [varsL, nameP, *]; done) | (rw [varsL_next (by omega) (by omega)]; simp [List.append_assoc]; done) | omega)), trivial⟩ (fun x => rfl) (fun i hg1 => ?_)
   refine evc [] [1, 5, 6] ?_
   refine CWp.regionJ ?_
   refine WRest.join 13 [(42, .d (.bool (decide (i < vcount w ⟨a, k⟩ p))))] [30, 31, 32, 33, 34, 35, 36, 37, 38, 39, 40, 41] ?_ ?_
   ·
    refine ev ?_
    refine sq (fun h3 h3p h3s => ?_) fun h3 h3p h3s => ?_
    ·try simp only [Q, Pat.cs_len] at h3p
     refine sq (fun h4 h4p h4s => ?_) fun h4 h4p h4s => ?_
     ·try simp only [Q, Pat.cs_len] at h4p
      exact jnb rfl
     ·try simp only [Q, Pat.cs_len] at h4p
      exact jnb rfl
    ·try simp only [Q, Pat.cs_len] at h3p
     exact jnb rfl
   refine WRest.done ?_
   refine tv ?_
   refine sq (fun h5 h5p h5s => ?_) fun h5 h5p h5s => ?_
   ·try simp only [Q, Pat.cs_len] at h5p
    refine Walk.idx sl182 .none rfl rfl rfl rfl (at_nth (by omega)) rfl ?_
    refine evd [] [] ?_
    refine Walk.idx sl49 .none rfl rfl rfl rfl (pats_at (by omega)) rfl ?_
    refine evd [] [] ?_
    refine Walk.callT 6 cal132 (spec_l3Vars_fn hw n (a := (nth (typesP w ⟨a, k⟩ p) i).data) (k := (nth (typesP w ⟨a, k⟩ p) i).index) (p := nth p.kids i) (xs := xs ++ nameP ⟨a, k⟩ p ++ varsL (varsP w n) ((typesP w ⟨a, k⟩ p).take i) (p.kids.take i)) (shapeP_kid hs (by omega)) (by omega) (hin _ (nth_mem (by omega))) (Pats.ok_mem hok.2 _ (nth_mem (by omega))) (by have := varsL_le (varsP_len w n) (a := typesP w ⟨a, k⟩ p) (b := p.kids) (i := i) (by omega); simp only [List.length_append]; omega)) rfl .none rfl rfl (.cons (.refl _) (.cons (.refl _) (.cons (.refl _) (.cons (.refl _) .nil)))) rfl (by rfl) ?_
    refine evd [] [] ?_
    refine dr ?_
    refine CWp.retok 0 6 5 rfl rfl rfl rfl rfl ?_
    refine evc [] [] ?_
    refine ar ?_
    refine Exists.intro (i + 1) ⟨(by omega), (by omega), Sub.x (by kernel_rfl) (by kernel_rfl) ⟨⟨_, rfl, (LeA.glg (by (rw [varsL_next (by omega) (by omega)]; simp [List.append_assoc]; done)))⟩, ⟨⟨_, rfl, (LeA.eqi (by rfl))⟩, trivial⟩⟩ (by kernel_rfl) (by kernel_rfl) ⟨beq_nat_eq (by (first | rfl | (simp [varsL, nameP, *]; done) | (rw [varsL_next (by omega) (by omega)]; simp [List.append_assoc]; done) | omega)), trivial⟩⟩
   ·try simp only [Q, Pat.cs_len] at h5p
    refine rn [(5, some (.tok ((xs ++ varsP w (n + 1) ⟨a, k⟩ p).map Vt.c).length 3))] (r1 rfl) (.glg ?_) ⟨rfl, rfl⟩ (SubO.get ⟨.inr (by (show some (Res.tok _ _) = some (Res.tok _ _); congr 2; rw [varsP, ← varsL_all (f := varsP w n) hl (i := i) (by omega)]; simp)), ⟨.inl rfl, trivial⟩⟩) (boxOK rfl)
    all_goals (rw [varsP, ← varsL_all (f := varsP w n) hl (i := i) (by omega)]; simp)
  ·try simp only [Q, Pat.cs_len] at h2p
   refine Walk.call (cr := []) cal209 (spec_l3Types_fn hw ht (ownP_mem ho)) rfl .none rfl rfl (LeL.refl _) trivial rfl rfl rfl ?_
   refine ev ?_
   refine CWp.loopT 5 6 (ι := Nat) hk (fun i => [(0, .gl 5 ((xs ++ nameP ⟨a, k⟩ p ++ varsL (varsP w n) ((typesP w ⟨a, k⟩ p).take i) (p.kids.take i)).map Vt.c)), (10, .d (.i (i : Int)))]) [30, 31, 32, 33, 34, 35, 36, 37, 38, 39, 40, 41, 42, 43, 44, 45, 46, 47, 48, 49, 50, 51, 52, 53, 54, 55, 56] (fun i => [(5, some (.tok ((xs ++ nameP ⟨a, k⟩ p ++ varsL (varsP w n) ((typesP w ⟨a, k⟩ p).take i) (p.kids.take i)).map Vt.c).length 3))]) (fun i => i ≤ vcount w ⟨a, k⟩ p) (fun i => vcount w ⟨a, k⟩ p - i) 0 (by omega) ⟨⟨_, rfl, (LeA.glg (by (simp [varsL, nameP, *]; done)))⟩, ⟨⟨_, rfl, (LeA.eqi (by rfl))⟩, trivial⟩⟩ ⟨beq_nat_eq (by (first | rfl | (simp [varsL, nameP, *]; done) | (rw [varsL_next (by omega) (by omega)]; simp [List.append_assoc]; done) | omega)), trivial⟩ (fun x => rfl) (fun i hg1 => ?_)
   refine evc [] [1, 5, 6] ?_
   refine CWp.regionJ ?_
   refine WRest.join 13 [(42, .d (.bool (decide (i < vcount w ⟨a, k⟩ p))))] [30, 31, 32, 33, 34, 35, 36, 37, 38, 39, 40, 41] ?_ ?_
   ·
    refine ev ?_
    refine sq (fun h6 h6p h6s => ?_) fun h6 h6p h6s => ?_
    ·try simp only [Q, Pat.cs_len] at h6p
     refine sq (fun h7 h7p h7s => ?_) fun h7 h7p h7s => ?_
     ·try simp only [Q, Pat.cs_len] at h7p
      exact jnb rfl
     ·try simp only [Q, Pat.cs_len] at h7p
      exact jnb rfl
    ·try simp only [Q, Pat.cs_len] at h6p
     exact jnb rfl
   refine WRest.done ?_
   refine tv ?_
   refine sq (fun h8 h8p h8s => ?_) fun h8 h8p h8s => ?_
   ·try simp only [Q, Pat.cs_len] at h8p
    refine Walk.idx sl182 .none rfl rfl rfl rfl (at_nth (by omega)) rfl ?_
    refine evd [] [] ?_
    refine Walk.idx sl49 .none rfl rfl rfl rfl (pats_at (by omega)) rfl ?_
    refine evd [] [] ?_
    refine Walk.callT 6 cal132 (spec_l3Vars_fn hw n (a := (nth (typesP w ⟨a, k⟩ p) i).data) (k := (nth (typesP w ⟨a, k⟩ p) i).index) (p := nth p.kids i) (xs := xs ++ nameP ⟨a, k⟩ p ++ varsL (varsP w n) ((typesP w ⟨a, k⟩ p).take i) (p.kids.take i)) (shapeP_kid hs (by omega)) (by omega) (hin _ (nth_mem (by omega))) (Pats.ok_mem hok.2 _ (nth_mem (by omega))) (by have := varsL_le (varsP_len w n) (a := typesP w ⟨a, k⟩ p) (b := p.kids) (i := i) (by omega); simp only [List.length_append]; omega)) rfl .none rfl rfl (.cons (.refl _) (.cons (.refl _) (.cons (.refl _) (.cons (.refl _) .nil)))) rfl (by rfl) ?_
    refine evd [] [] ?_
    refine dr ?_
    refine CWp.retok 0 6 5 rfl rfl rfl rfl rfl ?_
    refine evc [] [] ?_
    refine ar ?_
    refine Exists.intro (i + 1) ⟨(by omega), (by omega), Sub.x (by kernel_rfl) (by kernel_rfl) ⟨⟨_, rfl, (LeA.glg (by (rw [varsL_next (by omega) (by omega)]; simp [List.append_assoc]; done)))⟩, ⟨⟨_, rfl, (LeA.eqi (by rfl))⟩, trivial⟩⟩ (by kernel_rfl) (by kernel_rfl) ⟨beq_nat_eq (by (first | rfl | (simp [varsL, nameP, *]; done) | (rw [varsL_next (by omega) (by omega)]; simp [List.append_assoc]; done) | omega)), trivial⟩⟩
   ·try simp only [Q, Pat.cs_len] at h8p
    refine rn [(5, some (.tok ((xs ++ varsP w (n + 1) ⟨a, k⟩ p).map Vt.c).length 3))] (r1 rfl) (.glg ?_) ⟨rfl, rfl⟩ (SubO.get ⟨.inr (by (show some (Res.tok _ _) = some (Res.tok _ _); congr 2; rw [varsP, ← varsL_all (f := varsP w n) hl (i := i) (by omega)]; simp)), ⟨.inl rfl, trivial⟩⟩) (boxOK rfl)
    all_goals (rw [varsP, ← varsL_all (f := varsP w n) hl (i := i) (by omega)]; simp)
theorem spec_l3Vars_nil {w : List Data} (hw : WT w) {n : Nat} {a k : Int} {p : Pat} (hs : shapeP w n ⟨a, k⟩ p = true) (hn : n ≤ 1000) (ht : TyIn w.length ⟨a, k⟩) (hok : p.ok) (hb : p.size ≤ 1000000000000) :
  FnD Tryz.prog 132 [.nils, .d (encDatas w), .agg [.d (.i a), .d (.i k)], .agg [.d (.i p.op), .d (.i p.ctor), .d (.i p.n), .d (.i p.m), .d (.i p.var), .d (encPats p.kids)]] [] (.d (encVts (varsP w n ⟨a, k⟩ p))) [] := by
 have h := spec_l3Vars_fn hw n (xs := []) hs hn ht hok (by simp only [List.length_nil]; omega)
 exact FnD.nilTok (by simp [AV.idsL, AV.ids]) h
theorem distV_false {l : List Vt} {i : Nat} (h : i < l.length) (h2 : ¬ findV l (nth l i).var = i) : distV l = false := all_range_false h (by simpa using h2)
theorem spec_l3Linear_fn {w : List Data} (hw : WT w) : ∀ (n : Nat) {a k : Int} {p : Pat}, shapeP w n ⟨a, k⟩ p = true → n ≤ 1000 → TyIn w.length ⟨a, k⟩ → p.ok → p.size ≤ 1000000000000 →
  FnD Tryz.prog 241 [.d (encDatas w), .agg [.d (.i a), .d (.i k)], .agg [.d (.i p.op), .d (.i p.ctor), .d (.i p.n), .d (.i p.m), .d (.i p.var), .d (encPats p.kids)]] [] (.d (.bool (linP w n ⟨a, k⟩ p))) []
 | 0, a, k, p, hs, _, _, _, _ => by simp [shapeP] at hs
 | n + 1, a, k, p, hs, hn, ht, hok, hb => by
  have hok' := hok
  rw [Pat.ok_iff] at hok
  have hb' := hb
  rw [Pat.size_eq] at hb'
  obtain ⟨ho, hl⟩ := shapeP_own hs
  have hin := typesP_in hw ht ho
  have hlen := typesP_len hw ht (ownP_mem ho)
  have hvl := varsP_len w (n + 1) ⟨a, k⟩ p
  have hsz : ∀ i, i < p.kids.length → (nth p.kids i).size ≤ 1000000000000 := fun i hi => by have := pnth_size hi; omega
  by_cases hop5 : p.op = 5
  ·have e1 : typesP w ⟨a, k⟩ p = [⟨a, k⟩, ⟨a, k⟩] := by unfold typesP; rw [if_neg (by omega), if_pos hop5]
   have hl2 : p.kids.length = 2 := by rw [hl, e1]; rfl
   have s0 : shapeP w n ⟨a, k⟩ (nth p.kids 0) = true := by have := shapeP_kid hs (i := 0) (by omega); rw [e1] at this; exact this
   have s1 : shapeP w n ⟨a, k⟩ (nth p.kids 1) = true := by have := shapeP_kid hs (i := 1) (by omega); rw [e1] at this; exact this
   have v0 := varsP_len w n ⟨a, k⟩ (nth p.kids 0)
   have v1 := varsP_len w n ⟨a, k⟩ (nth p.kids 1)
   have z0 := hsz 0 (by omega)
   have z1 := hsz 1 (by omega)
   refine bd Tryz.f241 70 [] [] fun w0 F0 own kept hk => ?_
   refine Walk.box (id := 3004) .none rfl rfl rfl rfl rfl rfl rfl ?_
   refine Walk.box (id := 3005) .none rfl rfl rfl rfl rfl rfl rfl ?_
   refine ev ?_
   refine Walk.call (cr := []) cal209 (spec_l3Types_fn hw ht (ownP_mem ho)) rfl .none rfl rfl (LeL.refl _) trivial rfl rfl rfl ?_
   refine ev ?_
   refine CWp.loopX (ι := Nat) hk (fun i => [(8, .d (.i (i : Int)))]) [6, 15, 16, 17, 18, 19, 20, 21, 22, 23, 24, 25, 26, 27, 28, 29, 30, 31, 32] (fun i => []) (fun i => i ≤ (typesP w ⟨a, k⟩ p).length ∧ ∀ i', i' < i → linP w n (nth (typesP w ⟨a, k⟩ p) i') (nth p.kids i') = true) (fun i => (typesP w ⟨a, k⟩ p).length - i) 0 ⟨by omega, fun _ h => absurd h (by omega)⟩ ⟨⟨_, rfl, (LeA.eqi (by first | rfl | (simp; done) | (simp_all; done) | omega))⟩, trivial⟩ trivial (fun x => rfl) (fun i hg1 => ?_)
   refine evc [] [] ?_
   refine sq (fun h1 h1p h1s => ?_) fun h1 h1p h1s => ?_
   ·try simp only [Q, Pat.cs_len] at h1p
    refine Walk.idx sl182 .none rfl rfl rfl rfl (at_nth (by omega)) rfl ?_
    refine evd [] [] ?_
    refine Walk.idx sl49 .none rfl rfl rfl rfl (pats_at (by omega)) rfl ?_
    refine evd [] [] ?_
    refine Walk.call (cr := []) cal241 (spec_l3Linear_fn hw n (shapeP_kid hs (by omega)) (by omega) (hin _ (nth_mem (by omega))) (Pats.ok_mem hok.2 _ (nth_mem (by omega))) (hsz _ (by omega))) rfl .none rfl rfl (LeL.refl _) trivial rfl rfl rfl ?_
    refine evd [] [] ?_
    refine dr ?_
    refine sq (fun h2 h2p h2s => ?_) fun h2 h2p h2s => ?_
    ·try simp only [Q, Pat.cs_len] at h2p
     refine rn0 (r1 rfl) (.eqd ?_)
     all_goals (refine congrArg D.bool ?_; unfold linP; rw [if_pos hop5]; (rw [all2_nth_false (i := i) (by omega) (by omega) (by assumption), Bool.false_and]))
    ·try simp only [Q, Pat.cs_len] at h2p
     refine ar ?_
     refine Exists.intro (i + 1) ⟨⟨by omega, upto_succ hg1.2 (by assumption)⟩, (by omega), Sub.x (by kernel_rfl) (by kernel_rfl) ⟨⟨_, rfl, (LeA.eqi (by first | rfl | (simp; done) | (simp_all; done) | omega))⟩, trivial⟩ (by kernel_rfl) (by kernel_rfl) trivial⟩
   ·try simp only [Q, Pat.cs_len] at h1p
    refine sq (fun h3 h3p h3s => ?_) fun h3 h3p h3s => ?_
    ·try simp only [Q, Pat.cs_len] at h3p
     refine Walk.idx (i := 0) sl49 .none rfl rfl rfl rfl (pats_at (by omega)) rfl ?_
     refine evd [] [] ?_
     refine Walk.call (cr := []) cal132 (spec_l3Vars_nil hw s0 (by omega) ht (Pats.ok_mem hok.2 _ (nth_mem (by omega))) z0) rfl .none rfl rfl (LeL.refl _) trivial rfl rfl rfl ?_
     refine evd [] [] ?_
     refine Walk.idx (i := 1) sl49 .none rfl rfl rfl rfl (pats_at (by omega)) rfl ?_
     refine evd [] [] ?_
     refine Walk.call (cr := []) cal132 (spec_l3Vars_nil hw s1 (by omega) ht (Pats.ok_mem hok.2 _ (nth_mem (by omega))) z1) rfl .none rfl rfl (LeL.refl _) trivial rfl rfl rfl ?_
     refine Walk.call (cr := []) cal281 (spec_l3Alike_fn (by omega) (by omega)) rfl .none rfl rfl (LeL.refl _) trivial rfl rfl rfl ?_
     refine evd [] [] ?_
     refine dr ?_
     refine rn0 (r1 rfl) (.eqd ?_)
     all_goals (refine congrArg D.bool ?_; unfold linP; rw [if_pos hop5]; (rw [all2_nth_true (by omega) (fun x hx => hg1.2 x (by omega)), Bool.true_and]))
    ·try simp only [Q, Pat.cs_len] at h3p
     exfalso; simp_all --stop
  ·skip
   refine bd Tryz.f241 70 [] [] fun w0 F0 own kept hk => ?_
   refine Walk.box (id := 3004) .none rfl rfl rfl rfl rfl rfl rfl ?_
   refine Walk.box (id := 3005) .none rfl rfl rfl rfl rfl rfl rfl ?_
   refine ev ?_
   refine Walk.call (cr := []) cal209 (spec_l3Types_fn hw ht (ownP_mem ho)) rfl .none rfl rfl (LeL.refl _) trivial rfl rfl rfl ?_
   refine ev ?_
   refine CWp.loopX (ι := Nat) hk (fun i => [(8, .d (.i (i : Int)))]) [6, 15, 16, 17, 18, 19, 20, 21, 22, 23, 24, 25, 26, 27, 28, 29, 30, 31, 32] (fun i => []) (fun i => i ≤ (typesP w ⟨a, k⟩ p).length ∧ ∀ i', i' < i → linP w n (nth (typesP w ⟨a, k⟩ p) i') (nth p.kids i') = true) (fun i => (typesP w ⟨a, k⟩ p).length - i) 0 ⟨by omega, fun _ h => absurd h (by omega)⟩ ⟨⟨_, rfl, (LeA.eqi (by first | rfl | (simp; done) | (simp_all; done) | omega))⟩, trivial⟩ trivial (fun x => rfl) (fun i hg1 => ?_)
   refine evc [] [] ?_
   refine sq (fun h1 h1p h1s => ?_) fun h1 h1p h1s => ?_
   ·try simp only [Q, Pat.cs_len] at h1p
    refine Walk.idx sl182 .none rfl rfl rfl rfl (at_nth (by omega)) rfl ?_
    refine evd [] [] ?_
    refine Walk.idx sl49 .none rfl rfl rfl rfl (pats_at (by omega)) rfl ?_
    refine evd [] [] ?_
    refine Walk.call (cr := []) cal241 (spec_l3Linear_fn hw n (shapeP_kid hs (by omega)) (by omega) (hin _ (nth_mem (by omega))) (Pats.ok_mem hok.2 _ (nth_mem (by omega))) (hsz _ (by omega))) rfl .none rfl rfl (LeL.refl _) trivial rfl rfl rfl ?_
    refine evd [] [] ?_
    refine dr ?_
    refine sq (fun h2 h2p h2s => ?_) fun h2 h2p h2s => ?_
    ·try simp only [Q, Pat.cs_len] at h2p
     refine rn0 (r1 rfl) (.eqd ?_)
     all_goals (refine congrArg D.bool ?_; unfold linP; rw [if_neg hop5]; (rw [all2_nth_false (i := i) (by omega) (by omega) (by assumption), Bool.false_and]; done))
    ·try simp only [Q, Pat.cs_len] at h2p
     refine ar ?_
     refine Exists.intro (i + 1) ⟨⟨by omega, upto_succ hg1.2 (by assumption)⟩, (by omega), Sub.x (by kernel_rfl) (by kernel_rfl) ⟨⟨_, rfl, (LeA.eqi (by first | rfl | (simp; done) | (simp_all; done) | omega))⟩, trivial⟩ (by kernel_rfl) (by kernel_rfl) trivial⟩
   ·try simp only [Q, Pat.cs_len] at h1p
    refine sq (fun h3 h3p h3s => ?_) fun h3 h3p h3s => ?_
    ·try simp only [Q, Pat.cs_len] at h3p
     exfalso; simp_all --stop
    ·try simp only [Q, Pat.cs_len] at h3p
     refine Walk.call (cr := []) cal132 (spec_l3Vars_nil hw hs hn ht hok' hb) rfl .none rfl rfl (LeL.refl _) trivial rfl rfl rfl ?_
     refine ev ?_
     refine CWp.loopX (ι := Nat) hk (fun j => [(10, .d (.i (j : Int)))]) [6, 55, 56, 57, 58, 59, 60, 61, 62, 63, 64, 65, 66, 67, 68, 69] (fun j => []) (fun j => j ≤ (varsP w (n + 1) ⟨a, k⟩ p).length ∧ ∀ j', j' < j → findV (varsP w (n + 1) ⟨a, k⟩ p) (nth (varsP w (n + 1) ⟨a, k⟩ p) j').var = (j' : Int)) (fun j => (varsP w (n + 1) ⟨a, k⟩ p).length - j) 0 ⟨by omega, fun _ h => absurd h (by omega)⟩ ⟨⟨_, rfl, (LeA.eqi (by first | rfl | (simp; done) | (simp_all; done) | omega))⟩, trivial⟩ trivial (fun x => rfl) (fun j hg2 => ?_)
     refine evc [] [] ?_
     refine sq (fun h4 h4p h4s => ?_) fun h4 h4p h4s => ?_
     ·try simp only [Q, Pat.cs_len] at h4p
      refine Walk.idx sl124 .none rfl rfl rfl rfl (at_nth (by omega)) rfl ?_
      refine ev ?_
      refine Walk.call (cr := []) cal282 (spec_l3Find_fn (by omega)) rfl .none rfl rfl (LeL.refl _) trivial rfl rfl rfl ?_
      refine ev ?_
      refine sq (fun h5 h5p h5s => ?_) fun h5 h5p h5s => ?_
      ·try simp only [Q, Pat.cs_len] at h5p
       refine rn0 (r1 rfl) (.eqd ?_)
       all_goals (refine congrArg D.bool ?_; unfold linP; rw [if_neg hop5]; (rw [all2_nth_true (by omega) (fun x hx => hg1.2 x (by omega)), Bool.true_and]; first | (rw [distV_false (i := j) (by omega) (by omega)]; done) | (symm; exact all_range_true (fun x hx => decide_eq_true (hg2.2 x (by omega))))))
      ·try simp only [Q, Pat.cs_len] at h5p
       refine ar ?_
       refine Exists.intro (j + 1) ⟨⟨by omega, upto_succ hg2.2 (by omega)⟩, (by omega), Sub.x (by kernel_rfl) (by kernel_rfl) ⟨⟨_, rfl, (LeA.eqi (by first | rfl | (simp; done) | (simp_all; done) | omega))⟩, trivial⟩ (by kernel_rfl) (by kernel_rfl) trivial⟩
     ·try simp only [Q, Pat.cs_len] at h4p
      refine rn0 (r1 rfl) (.eqd ?_)
      all_goals (refine congrArg D.bool ?_; unfold linP; rw [if_neg hop5]; (rw [all2_nth_true (by omega) (fun x hx => hg1.2 x (by omega)), Bool.true_and]; first | (rw [distV_false (i := j) (by omega) (by omega)]; done) | (symm; exact all_range_true (fun x hx => decide_eq_true (hg2.2 x (by omega))))))
def isP (w : List Data) (t : Ty) (p : Pat) : Bool := shapeP w 10 t p && (decide ((p.size : Int) ≤ 60) && linP w 10 t p)
theorem spec_l3Is_fn {w : List Data} (hw : WT w) {a k : Int} {p : Pat} (ht : TyIn w.length ⟨a, k⟩) (hok : p.ok) (hb : p.size ≤ 1000000000000) :
  FnD Tryz.prog 173 [.d (encDatas w), .agg [.d (.i a), .d (.i k)], .agg [.d (.i p.op), .d (.i p.ctor), .d (.i p.n), .d (.i p.m), .d (.i p.var), .d (encPats p.kids)]] [] (.d (.bool (isP w ⟨a, k⟩ p))) [] := by
 have hc := cntP_iff p 60
 by_cases hs : shapeP w 10 ⟨a, k⟩ p = true
 ·skip
  refine bd Tryz.f173 22 [] [1] fun w0 F0 own kept hk => ?_
  refine Walk.box (id := 3004) .none rfl rfl rfl rfl rfl rfl rfl ?_
  refine Walk.box (id := 3005) .none rfl rfl rfl rfl rfl rfl rfl ?_
  refine ev ?_
  refine CWp.regionJ ?_
  refine WRest.join 9 [(15, .d (.bool (decide ((p.size : Int) ≤ 60))))] [7, 8, 9, 10, 11, 12, 13, 14] ?_ ?_
  ·
   refine ev ?_
   refine Walk.call (cr := []) cal239 (spec_l3Shape_fn hw 10 (by omega) (by omega) ht hok) rfl .none rfl rfl (LeL.refl _) trivial rfl rfl rfl ?_
   refine ev ?_
   refine sq (fun h1 h1p h1s => ?_) fun h1 h1p h1s => ?_
   ·try simp only [Q] at h1p
    refine Walk.call (cr := []) cal240 (spec_l3Count_fn _ (Nat.le_refl _) hb hok (by omega) (by omega)) rfl (.some rfl rfl h1) rfl rfl (LeL.refl _) trivial rfl rfl rfl ?_
    refine evs [] [(11, true)] ?_ ⟨⟨_, rfl, h1⟩, trivial⟩
    exact jnb rfl
   ·try simp only [Q] at h1p
    exact jnb rfl
  refine WRest.done ?_
  refine ev ?_
  refine sq (fun h2 h2p h2s => ?_) fun h2 h2p h2s => ?_
  ·try simp only [Q] at h2p
   refine Walk.call (cr := []) cal241 (spec_l3Linear_fn hw 10 hs (by omega) ht hok hb) rfl (.some rfl rfl h2) rfl rfl (LeL.refl _) trivial rfl rfl rfl ?_
   refine evs [] [(16, true)] ?_ ⟨⟨_, rfl, h2⟩, trivial⟩
   refine rn0 (r1 rfl) (.eqd ?_)
   all_goals (refine congrArg D.bool ?_; unfold isP; simp only [hs, Bool.true_and]; first | (simp_all; done) | (simp_all; intro; omega))
  ·try simp only [Q] at h2p
   refine rn0 (r1 rfl) (.eqd ?_)
   all_goals (refine congrArg D.bool ?_; unfold isP; simp only [hs, Bool.true_and]; first | (simp_all; done) | (simp_all; intro; omega))
 ·have hs' : shapeP w 10 ⟨a, k⟩ p = false := by simpa using hs
  refine bd Tryz.f173 22 [] [1] fun w0 F0 own kept hk => ?_
  refine Walk.box (id := 3004) .none rfl rfl rfl rfl rfl rfl rfl ?_
  refine Walk.box (id := 3005) .none rfl rfl rfl rfl rfl rfl rfl ?_
  refine ev ?_
  refine CWp.regionJ ?_
  refine WRest.join 9 [(15, .d (.bool (false)))] [7, 8, 9, 10, 11, 12, 13, 14] ?_ ?_
  ·
   refine ev ?_
   refine Walk.call (cr := []) cal239 (spec_l3Shape_fn hw 10 (by omega) (by omega) ht hok) rfl .none rfl rfl (LeL.refl _) trivial rfl rfl rfl ?_
   refine ev ?_
   refine sq (fun h1 h1p h1s => ?_) fun h1 h1p h1s => ?_
   ·try simp only [Q] at h1p
    refine Walk.call (cr := []) cal240 (spec_l3Count_fn _ (Nat.le_refl _) hb hok (by omega) (by omega)) rfl (.some rfl rfl h1) rfl rfl (LeL.refl _) trivial rfl rfl rfl ?_
    refine evs [] [(11, true)] ?_ ⟨⟨_, rfl, h1⟩, trivial⟩
    exact jnb rfl
   ·try simp only [Q] at h1p
    exact jnb rfl
  refine WRest.done ?_
  refine ev ?_
  refine sq (fun h2 h2p h2s => ?_) fun h2 h2p h2s => ?_
  ·try simp only [Q] at h2p
   refine Walk.call (cr := []) cal241 (show FnD Tryz.prog 241 [.d (encDatas w), .agg [.d (.i a), .d (.i k)], .agg [.d (.i p.op), .d (.i p.ctor), .d (.i p.n), .d (.i p.m), .d (.i p.var), .d (encPats p.kids)]] [] (.d (.bool true)) [] from absurd (by assumption : (false : Bool) = true) (by simp)) rfl (.some rfl rfl h2) rfl rfl (LeL.refl _) trivial rfl rfl rfl ?_
   refine evs [] [(16, true)] ?_ ⟨⟨_, rfl, h2⟩, trivial⟩
   refine rn0 (r1 rfl) (.eqd ?_)
   all_goals (refine congrArg D.bool ?_; unfold isP; simp_all)
  ·try simp only [Q] at h2p
   refine rn0 (r1 rfl) (.eqd ?_)
   all_goals (refine congrArg D.bool ?_; unfold isP; simp_all)
end Go.Proofs.YtdgknigklgnefaaGreat
namespace Go.Proofs.YtdgknigklgnefaaGreat
open Go
set_option linter.unusedSimpArgs false
set_option linter.unusedVariables false
def tyS (s : Nat) : Ty := ⟨((s / 4 : Nat) : Int), ((s % 4 : Nat) : Int)⟩
def slotT (t : Ty) : Nat := t.data.toNat * 4 + t.index.toNat
def Hd (w : List Data) : Nat → Ty → Prop
 | 0, _ => False
 | d + 1, t => t.data = -1 ∨ ∃ c ∈ ctorsOf w t, t.data ≠ -1 ∧ ∀ u ∈ argsOf w t c, Hd w d u
def InS (n : Nat) (u : Ty) : Prop := u.data = -1 ∨ (slotT u < n ∧ tyS (slotT u) = u)
def ClosedT (w : List Data) : Prop := ∀ s, s < w.length * 4 → ∀ c ∈ ctorsOf w (tyS s), ∀ u ∈ argsOf w (tyS s) c, InS (w.length * 4) u
section
variable {w : List Data}
def Bet (f g : Nat → Nat) : Prop := ∀ s, 0 < f s → 0 < g s ∧ g s ≤ f s
def Cmp (w : List Data) (k : Nat) (f : Nat → Nat) : Prop := ∀ s, s < w.length * 4 → ∀ d, d ≤ k → Hd w d (tyS s) → 0 < f s ∧ f s ≤ d
theorem Bet.refl (f : Nat → Nat) : Bet f f := fun s h => ⟨h, Nat.le_refl _⟩
theorem Bet.trans {f g h : Nat → Nat} (a : Bet f g) (b : Bet g h) : Bet f h := fun s hs => ⟨(b s (a s hs).1).1, Nat.le_trans (b s (a s hs).1).2 (a s hs).2⟩
theorem Cmp.bet {k : Nat} {f g : Nat → Nat} (h : Cmp w k f) (b : Bet f g) : Cmp w k g := fun s hs d hd hh =>
 ⟨(b s (h s hs d hd hh).1).1, Nat.le_trans (b s (h s hs d hd hh).1).2 (h s hs d hd hh).2⟩
def Strict (f g : Nat → Nat) : Prop := ∃ s, 0 < g s ∧ (f s = 0 ∨ g s < f s)
theorem Strict.bet {f g h : Nat → Nat} (a : Strict f g) (b : Bet g h) : Strict f h := by
 obtain ⟨s, h1, h2⟩ := a
 have := b s h1
 exact ⟨s, this.1, by omega⟩
end
end Go.Proofs.YtdgknigklgnefaaGreat
namespace Go.Proofs.YtdgknigklgnefaaGreat
open Go
set_option linter.unusedSimpArgs false
set_option linter.unusedVariables false
set_option maxRecDepth 100000
set_option maxHeartbeats 2000000
theorem putC_at {v : AV} : ∀ {cs : List AV} {i : Nat}, i < cs.length → putC cs i [v] = some (cs.set i v)
 | x :: r, 0, _ => by cases r <;> rfl
 | x :: r, i + 1, h => by
  have := putC_at (v := v) (cs := r) (i := i) (by simpa using h)
  simp only [putC, this, List.set_cons_succ]
theorem InS.facts {n : Nat} {a k : Int} (h : InS n ⟨a, k⟩) (ha : ¬ a = -1) : slotT ⟨a, k⟩ < n ∧ a * 4 + k = (slotT ⟨a, k⟩ : Int) ∧ 0 ≤ a ∧ 0 ≤ k ∧ k ≤ 3 ∧ a ≤ n := by
 rcases h with h | ⟨h1, h2⟩
 ·exact absurd h ha
 ·have e1 := congrArg Ty.data h2
  have e2 := congrArg Ty.index h2
  simp only [tyS] at e1 e2
  omega
structure Dp (w : List Data) : Prop where
 wt : WT w
 cl : ClosedT w
 four : w.length ≤ 4
 ct : ∀ s, s < w.length * 4 → (ctorsOf w (tyS s)).length ≤ 4
theorem szL_ctors_le : ∀ l : List Ctor, szL Ctor.sz l ≤ 2 * (mCtors l : Int)
 | [] => by simp [szL, mCtors]
 | x :: r => by
  have ih := szL_ctors_le r
  simp only [szL, Ctor.sz, szL_tys, mCtors, mCtor, mTys, List.length_cons, List.map_cons, List.sum_cons] at ih ⊢
  omega
theorem szL_datas_le : ∀ l : List Data, szL Data.sz l ≤ 2 * (mDatas l : Int)
 | [] => by simp [szL, mDatas]
 | x :: r => by
  have ih := szL_datas_le r
  have h2 := szL_ctors_le x.ctors
  simp only [szL, Data.sz, mDatas, mData, List.length_cons, List.map_cons, List.sum_cons] at ih ⊢
  omega
theorem valid_wt {w : List Data} (hs : WSmall w) (hv : worldValid w = true) : WT w := WV.wt hs ((worldValid_iff w).1 hv)
end Go.Proofs.YtdgknigklgnefaaGreat
namespace Go.Proofs.YtdgknigklgnefaaGreat
open Go
set_option linter.unusedSimpArgs false
set_option linter.unusedVariables false
set_option maxRecDepth 100000
set_option maxHeartbeats 4000000
theorem impl_only_fn {p : Pat} {b1 b2 b3 : Bool} {k : Int} : FnD Tryz.prog 302 [.agg [.d (.i p.op), .d (.i p.ctor), .d (.i p.n), .d (.i p.m), .d (.i p.var), .d (encPats p.kids)], .d (.bool b1), .d (.bool b2), .d (.bool b3), .d (.i k)] []
  (.d (.bool (decide ((b1 = true ∨ p.ctor = 0) ∧ (b2 = true ∨ p.n = 0 ∧ p.m = 0) ∧ (b3 = true ∨ p.var = 0) ∧ (p.kids.length : Int) = k)))) [] := by
 refine bd Tryz.f302 45 [] [1] fun w0 F0 own kept hk => ?_
 refine Walk.box (id := 3005) .none rfl rfl rfl rfl rfl rfl rfl ?_
 refine ev ?_
 refine CWp.regionJ ?_
 refine WRest.join 6 [(16, .d (.bool (decide (b1 = true ∨ p.ctor = 0))))] [11, 12, 13, 14, 15] ?_ ?_
 ·
  refine ev ?_
  refine sq (fun h1 h1p h1s => ?_) fun h1 h1p h1s => ?_
  ·try simp only [Q, Pat.cs_len] at h1p
   exact jn rfl (LeA.eqb (by ((rw [Bool.eq_iff_iff]; simp_all [Pat.cs_len]; done))))
  ·try simp only [Q, Pat.cs_len] at h1p
   exact jn rfl (LeA.eqb (by ((rw [Bool.eq_iff_iff]; simp_all [Pat.cs_len]; done))))
 refine WRest.join 13 [(29, .d (.bool (decide ((b1 = true ∨ p.ctor = 0) ∧ (b2 = true ∨ p.n = 0 ∧ p.m = 0)))))] [17, 18, 19, 20, 21, 22, 23, 24, 25, 26, 27, 28] ?_ ?_
 ·
  refine ev ?_
  refine sq (fun h2 h2p h2s => ?_) fun h2 h2p h2s => ?_
  ·try simp only [Q, Pat.cs_len] at h2p
   refine sq (fun h3 h3p h3s => ?_) fun h3 h3p h3s => ?_
   ·try simp only [Q, Pat.cs_len] at h3p
    exact jn rfl (LeA.eqb (by ((rw [Bool.eq_iff_iff]; simp_all [Pat.cs_len]; done))))
   ·try simp only [Q, Pat.cs_len] at h3p
    refine sq (fun h4 h4p h4s => ?_) fun h4 h4p h4s => ?_
    ·try simp only [Q, Pat.cs_len] at h4p
     exact jn rfl (LeA.eqb (by ((rw [Bool.eq_iff_iff]; simp_all [Pat.cs_len]; done))))
    ·try simp only [Q, Pat.cs_len] at h4p
     exact jn rfl (LeA.eqb (by ((rw [Bool.eq_iff_iff]; simp_all [Pat.cs_len]; done))))
  ·try simp only [Q, Pat.cs_len] at h2p
   exact jn rfl (LeA.eqb (by ((rw [Bool.eq_iff_iff]; simp_all [Pat.cs_len]; done))))
 refine WRest.join 8 [(37, .d (.bool (decide ((b1 = true ∨ p.ctor = 0) ∧ (b2 = true ∨ p.n = 0 ∧ p.m = 0) ∧ (b3 = true ∨ p.var = 0)))))] [30, 31, 32, 33, 34, 35, 36] ?_ ?_
 ·
  refine ev ?_
  refine sq (fun h5 h5p h5s => ?_) fun h5 h5p h5s => ?_
  ·try simp only [Q, Pat.cs_len] at h5p
   refine sq (fun h6 h6p h6s => ?_) fun h6 h6p h6s => ?_
   ·try simp only [Q, Pat.cs_len] at h6p
    exact jn rfl (LeA.eqb (by ((rw [Bool.eq_iff_iff]; simp_all [Pat.cs_len]; done))))
   ·try simp only [Q, Pat.cs_len] at h6p
    exact jn rfl (LeA.eqb (by ((rw [Bool.eq_iff_iff]; simp_all [Pat.cs_len]; done))))
  ·try simp only [Q, Pat.cs_len] at h5p
   exact jn rfl (LeA.eqb (by ((rw [Bool.eq_iff_iff]; simp_all [Pat.cs_len]; done))))
 refine WRest.join 7 [(44, .d (.bool (decide ((b1 = true ∨ p.ctor = 0) ∧ (b2 = true ∨ p.n = 0 ∧ p.m = 0) ∧ (b3 = true ∨ p.var = 0) ∧ (p.kids.length : Int) = k))))] [38, 39, 40, 41, 42, 43] ?_ ?_
 ·
  refine ev ?_
  refine sq (fun h7 h7p h7s => ?_) fun h7 h7p h7s => ?_
  ·try simp only [Q, Pat.cs_len] at h7p
   exact jn rfl (LeA.eqb (by ((rw [Bool.eq_iff_iff]; simp_all [Pat.cs_len]; done))))
  ·try simp only [Q, Pat.cs_len] at h7p
   exact jn rfl (LeA.eqb (by ((rw [Bool.eq_iff_iff]; simp_all [Pat.cs_len]; done))))
 refine WRest.done ?_
 refine ev ?_
 refine rn0 (r1 rfl) (.eqd ?_)
 all_goals (rfl)
theorem impl_only_a {p : Pat} {k : Int} : FnD Tryz.prog 302 [.agg [.d (.i p.op), .d (.i p.ctor), .d (.i p.n), .d (.i p.m), .d (.i p.var), .d (encPats p.kids)], .d (.bool false), .d (.bool false), .d (.bool false), .d (.i k)] []
  (.d (.bool (decide (p.ctor = 0 ∧ (p.n = 0 ∧ p.m = 0) ∧ p.var = 0 ∧ (p.kids.length : Int) = k)))) [] := by
 have := impl_only_fn (p := p) (b1 := false) (b2 := false) (b3 := false) (k := k)
 simpa only [Bool.false_eq_true, false_or] using this
theorem impl_only_v {p : Pat} {k : Int} : FnD Tryz.prog 302 [.agg [.d (.i p.op), .d (.i p.ctor), .d (.i p.n), .d (.i p.m), .d (.i p.var), .d (encPats p.kids)], .d (.bool false), .d (.bool false), .d (.bool true), .d (.i k)] []
  (.d (.bool (decide (p.ctor = 0 ∧ (p.n = 0 ∧ p.m = 0) ∧ (p.kids.length : Int) = k)))) [] := by
 have := impl_only_fn (p := p) (b1 := false) (b2 := false) (b3 := true) (k := k)
 simpa only [Bool.false_eq_true, false_or, true_or, true_and] using this
theorem impl_only_n {p : Pat} {k : Int} : FnD Tryz.prog 302 [.agg [.d (.i p.op), .d (.i p.ctor), .d (.i p.n), .d (.i p.m), .d (.i p.var), .d (encPats p.kids)], .d (.bool false), .d (.bool true), .d (.bool false), .d (.i k)] []
  (.d (.bool (decide (p.ctor = 0 ∧ p.var = 0 ∧ (p.kids.length : Int) = k)))) [] := by
 have := impl_only_fn (p := p) (b1 := false) (b2 := true) (b3 := false) (k := k)
 simpa only [Bool.false_eq_true, false_or, true_or, true_and] using this
theorem impl_only_c {p : Pat} {k : Int} : FnD Tryz.prog 302 [.agg [.d (.i p.op), .d (.i p.ctor), .d (.i p.n), .d (.i p.m), .d (.i p.var), .d (encPats p.kids)], .d (.bool true), .d (.bool false), .d (.bool false), .d (.i k)] []
  (.d (.bool (decide ((p.n = 0 ∧ p.m = 0) ∧ p.var = 0 ∧ (p.kids.length : Int) = k)))) [] := by
 have := impl_only_fn (p := p) (b1 := true) (b2 := false) (b3 := false) (k := k)
 simpa only [Bool.false_eq_true, false_or, true_or, true_and] using this
theorem impl_isVar_fn {v : Int} : FnD Tryz.prog 140 [.d (.i v)] [] (.d (.bool (within v 0 5))) [] := by
 refine bd Tryz.f140 5 [] [] fun w0 F0 own kept hk => ?_
 refine Walk.call (cr := []) cal87 (impl_within_fn) rfl .none rfl rfl (LeL.refl _) trivial rfl rfl rfl ?_
 refine ev ?_
 refine rn0 (r1 rfl) (.eqd ?_)
 all_goals (rfl)
theorem impl_ctorsOf_v {w : List Data} (hw : WT w) {a k : Int} (ht : TyIn w.length ⟨a, k⟩) : FnD Tryz.prog 170 [.d (encDatas w), .agg [.d (.i a), .d (.i k)]] [] (.d (encInts (vctors w ⟨a, k⟩))) [] := by
 rcases ht with ha | ⟨d, hd, hlt⟩
 ·simp only at ha; subst ha; rw [vctors_int]; exact impl_ctorsOf_int_fn
 ·simp only at hd; subst hd; rw [vctors_in]; exact impl_ctorsOf_in hw hlt
theorem impl_argTypes_v {w : List Data} (hw : WT w) {a k c : Int} (ht : TyIn w.length ⟨a, k⟩) (hc : c ∈ vctors w ⟨a, k⟩) : FnD Tryz.prog 171 [.d (encDatas w), .agg [.d (.i a), .d (.i k)], .d (.i c)] [] (.d (encTys (argsOf w ⟨a, k⟩ c))) [] := by
 obtain ⟨d, rfl, h1, h2⟩ := vctors_data ht hc
 exact impl_argTypes_in hw h1 h2
theorem impl_shape_fn {w : List Data} (hw : WT w) {a k : Int} {p : Pat} (ht : TyIn w.length ⟨a, k⟩) :
  FnD Tryz.prog 273 [.d (encDatas w), .agg [.d (.i a), .d (.i k)], .agg [.d (.i p.op), .d (.i p.ctor), .d (.i p.n), .d (.i p.m), .d (.i p.var), .d (encPats p.kids)]] [] (.tup [.d (encTys (shapeT w ⟨a, k⟩ p)), .d (.bool (okP w ⟨a, k⟩ p))]) [] := by
 have hcl := vctors_len hw ht
 have ty4 : p.op = 4 → p.ctor ∉ vctors w ⟨a, k⟩ → shapeT w ⟨a, k⟩ p = [] := fun h4 hm => by unfold shapeT; rw [if_pos ⟨h4, hm⟩]
 have ty4' : p.op = 4 → p.ctor ∈ vctors w ⟨a, k⟩ → shapeT w ⟨a, k⟩ p = argsOf w ⟨a, k⟩ p.ctor := fun h4 hm => by unfold shapeT typesP; rw [if_neg (fun h => h.2 hm), if_pos h4]
 have ty5 : p.op = 5 → shapeT w ⟨a, k⟩ p = [⟨a, k⟩, ⟨a, k⟩] := fun h5 => by unfold shapeT typesP; rw [if_neg (by omega), if_neg (by omega), if_pos h5]
 have ty6 : p.op = 6 → shapeT w ⟨a, k⟩ p = [⟨a, k⟩] := fun h6 => by unfold shapeT typesP; rw [if_neg (by omega), if_neg (by omega), if_neg (by omega), if_pos h6]
 have ty0 : ¬ p.op = 4 → ¬ p.op = 5 → ¬ p.op = 6 → shapeT w ⟨a, k⟩ p = [] := fun h4 h5 h6 => by unfold shapeT typesP; rw [if_neg (fun h => h4 h.1), if_neg h4, if_neg h5, if_neg h6]
 have ln4 : p.op = 4 → (typesP w ⟨a, k⟩ p).length = (argsOf w ⟨a, k⟩ p.ctor).length := fun h4 => by unfold typesP; rw [if_pos h4]
 have ln5 : p.op = 5 → (typesP w ⟨a, k⟩ p).length = 2 := fun h5 => by unfold typesP; rw [if_neg (by omega), if_pos h5]; rfl
 have ln6 : p.op = 6 → (typesP w ⟨a, k⟩ p).length = 1 := fun h6 => by unfold typesP; rw [if_neg (by omega), if_neg (by omega), if_pos h6]; rfl
 have ln0 : ¬ p.op = 4 → ¬ p.op = 5 → ¬ p.op = 6 → (typesP w ⟨a, k⟩ p).length = 0 := fun h4 h5 h6 => by unfold typesP; rw [if_neg h4, if_neg h5, if_neg h6]; rfl
 have okI : ∀ b : Bool, (b = true ↔ ((((p.op = 2 ∨ p.op = 6) → 0 ≤ p.var ∧ p.var ≤ 5) ∧ (¬ (p.op = 2 ∨ p.op = 6) → p.var = 0) ∧ (p.op ≠ 3 → p.n = 0 ∧ p.m = 0) ∧ (p.op ≠ 4 → p.ctor = 0) ∧
   (p.op = 1 ∨ p.op = 2 ∨ p.op = 5 ∨ p.op = 6 ∨ (p.op = 3 ∧ a = -1 ∧ 0 ≤ p.n ∧ p.n ≤ p.m ∧ p.m ≤ 9) ∨ (p.op = 4 ∧ p.ctor ∈ vctors w ⟨a, k⟩))) ∧ p.kids.length = (typesP w ⟨a, k⟩ p).length)) → b = okP w ⟨a, k⟩ p := fun b h => by
  rw [Bool.eq_iff_iff, h]; unfold okP ownP; simp only [Bool.and_eq_true, decide_eq_true_eq]
 by_cases hmem : p.ctor ∈ vctors w ⟨a, k⟩
 ·have hargs := impl_argTypes_v hw ht hmem
  have hal : (argsOf w ⟨a, k⟩ p.ctor).length ≤ 1000000000000 := by
   obtain ⟨d, rfl, h1, h2⟩ := vctors_data ht hmem
   exact argsOf_len hw h1 h2
  simp only [hmem, and_true] at okI
  refine bd Tryz.f273 87 [] [5] fun w0 F0 own kept hk => ?_
  refine Walk.box (id := 3004) .none rfl rfl rfl rfl rfl rfl rfl ?_
  refine Walk.box (id := 3005) .none rfl rfl rfl rfl rfl rfl rfl ?_
  refine ev ?_
  refine sq (fun h1 h1p h1s => ?_) fun h1 h1p h1s => ?_
  ·try simp only [Q] at h1p
   refine Walk.call (cr := []) cal302 (impl_only_a) rfl .none rfl rfl (LeL.refl _) trivial rfl rfl rfl ?_
   refine ev ?_
   refine rn0 (r2 rfl rfl) (.tup (.cons (.nild ?_) (.cons (.eqd ?_) .nil)))
   all_goals (first | (refine congrArg D.bool (okI _ ?_); (try simp only [decide_eq_true_eq, Bool.false_eq_true, within, Bool.and_eq_true, List.length_map, true_iff, false_iff]); omega) | (rw [ty0 (by omega) (by omega) (by omega)]; first | done | rfl) | (rw [ty5 (by omega)]; first | done | rfl) | (rw [ty6 (by omega)]; first | done | rfl) | (rw [ty4' (by omega) hmem]; first | done | rfl))
  ·try simp only [Q] at h1p
   refine sq (fun h2 h2p h2s => ?_) fun h2 h2p h2s => ?_
   ·try simp only [Q] at h2p
    refine CWp.regionJ ?_
    refine WRest.join 7 [(23, .d (.bool (decide ((p.ctor = 0 ∧ (p.n = 0 ∧ p.m = 0) ∧ (p.kids.length : Int) = 0) ∧ 0 ≤ p.var ∧ p.var ≤ 5))))] [17, 18, 19, 20, 21, 22] ?_ ?_
    ·
     refine ev ?_
     refine Walk.call (cr := []) cal302 (impl_only_v) rfl .none rfl rfl (LeL.refl _) trivial rfl rfl rfl ?_
     refine ev ?_
     refine sq (fun h3 h3p h3s => ?_) fun h3 h3p h3s => ?_
     ·try simp only [Q] at h3p
      refine Walk.call (cr := []) cal140 (impl_isVar_fn) rfl (.some rfl rfl h3) rfl rfl (LeL.refl _) trivial rfl rfl rfl ?_
      refine evs [] [(19, true)] ?_ ⟨⟨_, rfl, h3⟩, trivial⟩
      exact jn rfl (LeA.eqb (by (rw [Bool.eq_iff_iff]; simp only [decide_eq_true_eq, within, Bool.and_eq_true, Bool.false_eq_true, false_iff, true_iff]; omega)))
     ·try simp only [Q] at h3p
      exact jn rfl (LeA.eqb (by (rw [Bool.eq_iff_iff]; simp only [decide_eq_true_eq, within, Bool.and_eq_true, Bool.false_eq_true, false_iff, true_iff]; omega)))
    refine WRest.done ?_
    refine ev ?_
    refine rn0 (r2 rfl rfl) (.tup (.cons (.nild ?_) (.cons (.eqd ?_) .nil)))
    all_goals (first | (refine congrArg D.bool (okI _ ?_); (try simp only [decide_eq_true_eq, Bool.false_eq_true, within, Bool.and_eq_true, List.length_map, true_iff, false_iff]); omega) | (rw [ty0 (by omega) (by omega) (by omega)]; first | done | rfl) | (rw [ty5 (by omega)]; first | done | rfl) | (rw [ty6 (by omega)]; first | done | rfl) | (rw [ty4' (by omega) hmem]; first | done | rfl))
   ·try simp only [Q] at h2p
    refine sq (fun h4 h4p h4s => ?_) fun h4 h4p h4s => ?_
    ·try simp only [Q] at h4p
     refine sq (fun h5 h5p h5s => ?_) fun h5 h5p h5s => ?_
     ·try simp only [Q] at h5p
      refine Walk.call (cr := []) cal302 (impl_only_n) rfl (.some rfl rfl h5) rfl rfl (LeL.refl _) trivial rfl rfl rfl ?_
      refine evd [] [(29, true)] ?_ ⟨⟨_, rfl, h5⟩, trivial⟩
      refine sq (fun h6 h6p h6s => ?_) fun h6 h6p h6s => ?_
      ·try simp only [Q] at h6p
       refine sq (fun h7 h7p h7s => ?_) fun h7 h7p h7s => ?_
       ·try simp only [Q] at h7p
        refine sq (fun h8 h8p h8s => ?_) fun h8 h8p h8s => ?_
        ·try simp only [Q] at h8p
         refine dr ?_
         refine rn0 (r2 rfl rfl) (.tup (.cons (.nild ?_) (.cons (.eqd ?_) .nil)))
         all_goals (first | (refine congrArg D.bool (okI _ ?_); (try simp only [decide_eq_true_eq, Bool.false_eq_true, within, Bool.and_eq_true, List.length_map, true_iff, false_iff]); omega) | (rw [ty0 (by omega) (by omega) (by omega)]; first | done | rfl) | (rw [ty5 (by omega)]; first | done | rfl) | (rw [ty6 (by omega)]; first | done | rfl) | (rw [ty4' (by omega) hmem]; first | done | rfl))
        ·try simp only [Q] at h8p
         refine dr ?_
         refine rn0 (r2 rfl rfl) (.tup (.cons (.nild ?_) (.cons (.eqd ?_) .nil)))
         all_goals (first | (refine congrArg D.bool (okI _ ?_); (try simp only [decide_eq_true_eq, Bool.false_eq_true, within, Bool.and_eq_true, List.length_map, true_iff, false_iff]); omega) | (rw [ty0 (by omega) (by omega) (by omega)]; first | done | rfl) | (rw [ty5 (by omega)]; first | done | rfl) | (rw [ty6 (by omega)]; first | done | rfl) | (rw [ty4' (by omega) hmem]; first | done | rfl))
       ·try simp only [Q] at h7p
        refine sqF ?_
        refine dr ?_
        refine rn0 (r2 rfl rfl) (.tup (.cons (.nild ?_) (.cons (.eqd ?_) .nil)))
        all_goals (first | (refine congrArg D.bool (okI _ ?_); (try simp only [decide_eq_true_eq, Bool.false_eq_true, within, Bool.and_eq_true, List.length_map, true_iff, false_iff]); omega) | (rw [ty0 (by omega) (by omega) (by omega)]; first | done | rfl) | (rw [ty5 (by omega)]; first | done | rfl) | (rw [ty6 (by omega)]; first | done | rfl) | (rw [ty4' (by omega) hmem]; first | done | rfl))
      ·try simp only [Q] at h6p
       refine sqF ?_
       refine sqF ?_
       refine dr ?_
       refine rn0 (r2 rfl rfl) (.tup (.cons (.nild ?_) (.cons (.eqd ?_) .nil)))
       all_goals (first | (refine congrArg D.bool (okI _ ?_); (try simp only [decide_eq_true_eq, Bool.false_eq_true, within, Bool.and_eq_true, List.length_map, true_iff, false_iff]); omega) | (rw [ty0 (by omega) (by omega) (by omega)]; first | done | rfl) | (rw [ty5 (by omega)]; first | done | rfl) | (rw [ty6 (by omega)]; first | done | rfl) | (rw [ty4' (by omega) hmem]; first | done | rfl))
     ·try simp only [Q] at h5p
      refine sqF ?_
      refine sqF ?_
      refine sqF ?_
      refine dr ?_
      refine rn0 (r2 rfl rfl) (.tup (.cons (.nild ?_) (.cons (.eqd ?_) .nil)))
      all_goals (first | (refine congrArg D.bool (okI _ ?_); (try simp only [decide_eq_true_eq, Bool.false_eq_true, within, Bool.and_eq_true, List.length_map, true_iff, false_iff]); omega) | (rw [ty0 (by omega) (by omega) (by omega)]; first | done | rfl) | (rw [ty5 (by omega)]; first | done | rfl) | (rw [ty6 (by omega)]; first | done | rfl) | (rw [ty4' (by omega) hmem]; first | done | rfl))
    ·try simp only [Q] at h4p
     refine sq (fun h9 h9p h9s => ?_) fun h9 h9p h9s => ?_
     ·try simp only [Q] at h9p
      refine Walk.call (cr := []) cal170 (impl_ctorsOf_v hw ht) rfl .none rfl rfl (LeL.refl _) trivial rfl rfl rfl ?_
      refine evd [] [] ?_
      refine Walk.call (cr := []) cal169 (slices_Contains_int_fn hcl) rfl .none rfl rfl (LeL.refl _) trivial rfl rfl rfl ?_
      refine evd [] [] ?_
      refine dr ?_
      refine sq (fun h10 h10p h10s => ?_) fun h10 h10p h10s => ?_
      ·try simp only [Q] at h10p
       exfalso; simp_all --stop
      ·try simp only [Q] at h10p
       refine Walk.call (cr := []) cal171 (hargs) rfl .none rfl rfl (LeL.refl _) trivial rfl rfl rfl ?_
       refine ev ?_
       refine Walk.call (cr := []) cal302 (impl_only_c) rfl .none rfl rfl (LeL.refl _) trivial rfl rfl rfl ?_
       refine ev ?_
       refine rn0 (r2 rfl rfl) (.tup (.cons (.eqd ?_) (.cons (.eqd ?_) .nil)))
       all_goals (first | (refine congrArg D.bool (okI _ ?_); (try simp only [decide_eq_true_eq, Bool.false_eq_true, within, Bool.and_eq_true, List.length_map, true_iff, false_iff]); omega) | (rw [ty0 (by omega) (by omega) (by omega)]; first | done | rfl) | (rw [ty5 (by omega)]; first | done | rfl) | (rw [ty6 (by omega)]; first | done | rfl) | (rw [ty4' (by omega) hmem]; first | done | rfl))
     ·try simp only [Q] at h9p
      refine sq (fun h11 h11p h11s => ?_) fun h11 h11p h11s => ?_
      ·try simp only [Q] at h11p
       refine Walk.sliceLit sl182 tz42 rfl (by decide) (ks := [0, 1]) (xs := [_, _]) rfl rfl (by decide) (by decide) .none rfl rfl rfl rfl ?_
       refine evd [] [] ?_
       refine Walk.call (cr := []) cal302 (impl_only_a) rfl .none rfl rfl (LeL.refl _) trivial rfl rfl rfl ?_
       refine evd [] [] ?_
       refine dr ?_
       refine rn0 (r2 rfl rfl) (.tup (.cons (.eqd ?_) (.cons (.eqd ?_) .nil)))
       all_goals (first | (refine congrArg D.bool (okI _ ?_); (try simp only [decide_eq_true_eq, Bool.false_eq_true, within, Bool.and_eq_true, List.length_map, true_iff, false_iff]); omega) | (rw [ty0 (by omega) (by omega) (by omega)]; first | done | rfl) | (rw [ty5 (by omega)]; first | done | rfl) | (rw [ty6 (by omega)]; first | done | rfl) | (rw [ty4' (by omega) hmem]; first | done | rfl))
      ·try simp only [Q] at h11p
       refine sq (fun h12 h12p h12s => ?_) fun h12 h12p h12s => ?_
       ·try simp only [Q] at h12p
        refine Walk.sliceLit sl182 tz42 rfl (by decide) (ks := [0]) (xs := [_]) rfl rfl (by decide) (by decide) .none rfl rfl rfl rfl ?_
        refine evd [] [] ?_
        refine Walk.call (cr := []) cal302 (impl_only_v) rfl .none rfl rfl (LeL.refl _) trivial rfl rfl rfl ?_
        refine evd [] [] ?_
        refine sq (fun h13 h13p h13s => ?_) fun h13 h13p h13s => ?_
        ·try simp only [Q] at h13p
         refine Walk.call (cr := []) cal140 (impl_isVar_fn) rfl (.some rfl rfl h13) rfl rfl (LeL.refl _) trivial rfl rfl rfl ?_
         refine evd [] [(82, true)] ?_ ⟨⟨_, rfl, h13⟩, trivial⟩
         refine dr ?_
         refine rn0 (r2 rfl rfl) (.tup (.cons (.eqd ?_) (.cons (.eqd ?_) .nil)))
         all_goals (first | (refine congrArg D.bool (okI _ ?_); (try simp only [decide_eq_true_eq, Bool.false_eq_true, within, Bool.and_eq_true, List.length_map, true_iff, false_iff]); omega) | (rw [ty0 (by omega) (by omega) (by omega)]; first | done | rfl) | (rw [ty5 (by omega)]; first | done | rfl) | (rw [ty6 (by omega)]; first | done | rfl) | (rw [ty4' (by omega) hmem]; first | done | rfl))
        ·try simp only [Q] at h13p
         refine dr ?_
         refine rn0 (r2 rfl rfl) (.tup (.cons (.eqd ?_) (.cons (.eqd ?_) .nil)))
         all_goals (first | (refine congrArg D.bool (okI _ ?_); (try simp only [decide_eq_true_eq, Bool.false_eq_true, within, Bool.and_eq_true, List.length_map, true_iff, false_iff]); omega) | (rw [ty0 (by omega) (by omega) (by omega)]; first | done | rfl) | (rw [ty5 (by omega)]; first | done | rfl) | (rw [ty6 (by omega)]; first | done | rfl) | (rw [ty4' (by omega) hmem]; first | done | rfl))
       ·try simp only [Q] at h12p
        refine rn0 (r2 rfl rfl) (.tup (.cons (.nild ?_) (.cons (.eqd ?_) .nil)))
        all_goals (first | (refine congrArg D.bool (okI _ ?_); (try simp only [decide_eq_true_eq, Bool.false_eq_true, within, Bool.and_eq_true, List.length_map, true_iff, false_iff]); omega) | (rw [ty0 (by omega) (by omega) (by omega)]; first | done | rfl) | (rw [ty5 (by omega)]; first | done | rfl) | (rw [ty6 (by omega)]; first | done | rfl) | (rw [ty4' (by omega) hmem]; first | done | rfl))
 ·simp only [hmem, and_false, or_false] at okI
  refine bd Tryz.f273 87 [] [5] fun w0 F0 own kept hk => ?_
  refine Walk.box (id := 3004) .none rfl rfl rfl rfl rfl rfl rfl ?_
  refine Walk.box (id := 3005) .none rfl rfl rfl rfl rfl rfl rfl ?_
  refine ev ?_
  refine sq (fun h1 h1p h1s => ?_) fun h1 h1p h1s => ?_
  ·try simp only [Q] at h1p
   refine Walk.call (cr := []) cal302 (impl_only_a) rfl .none rfl rfl (LeL.refl _) trivial rfl rfl rfl ?_
   refine ev ?_
   refine rn0 (r2 rfl rfl) (.tup (.cons (.nild ?_) (.cons (.eqd ?_) .nil)))
   all_goals (first | (refine congrArg D.bool (okI _ ?_); (try simp only [decide_eq_true_eq, Bool.false_eq_true, within, Bool.and_eq_true, List.length_map, true_iff, false_iff]); omega) | (rw [ty0 (by omega) (by omega) (by omega)]; first | done | rfl) | (rw [ty5 (by omega)]; first | done | rfl) | (rw [ty6 (by omega)]; first | done | rfl) | (rw [ty4 (by omega) hmem]; first | done | rfl))
  ·try simp only [Q] at h1p
   refine sq (fun h2 h2p h2s => ?_) fun h2 h2p h2s => ?_
   ·try simp only [Q] at h2p
    refine CWp.regionJ ?_
    refine WRest.join 7 [(23, .d (.bool (decide ((p.ctor = 0 ∧ (p.n = 0 ∧ p.m = 0) ∧ (p.kids.length : Int) = 0) ∧ 0 ≤ p.var ∧ p.var ≤ 5))))] [17, 18, 19, 20, 21, 22] ?_ ?_
    ·
     refine ev ?_
     refine Walk.call (cr := []) cal302 (impl_only_v) rfl .none rfl rfl (LeL.refl _) trivial rfl rfl rfl ?_
     refine ev ?_
     refine sq (fun h3 h3p h3s => ?_) fun h3 h3p h3s => ?_
     ·try simp only [Q] at h3p
      refine Walk.call (cr := []) cal140 (impl_isVar_fn) rfl (.some rfl rfl h3) rfl rfl (LeL.refl _) trivial rfl rfl rfl ?_
      refine evs [] [(19, true)] ?_ ⟨⟨_, rfl, h3⟩, trivial⟩
      exact jn rfl (LeA.eqb (by (rw [Bool.eq_iff_iff]; simp only [decide_eq_true_eq, within, Bool.and_eq_true, Bool.false_eq_true, false_iff, true_iff]; omega)))
     ·try simp only [Q] at h3p
      exact jn rfl (LeA.eqb (by (rw [Bool.eq_iff_iff]; simp only [decide_eq_true_eq, within, Bool.and_eq_true, Bool.false_eq_true, false_iff, true_iff]; omega)))
    refine WRest.done ?_
    refine ev ?_
    refine rn0 (r2 rfl rfl) (.tup (.cons (.nild ?_) (.cons (.eqd ?_) .nil)))
    all_goals (first | (refine congrArg D.bool (okI _ ?_); (try simp only [decide_eq_true_eq, Bool.false_eq_true, within, Bool.and_eq_true, List.length_map, true_iff, false_iff]); omega) | (rw [ty0 (by omega) (by omega) (by omega)]; first | done | rfl) | (rw [ty5 (by omega)]; first | done | rfl) | (rw [ty6 (by omega)]; first | done | rfl) | (rw [ty4 (by omega) hmem]; first | done | rfl))
   ·try simp only [Q] at h2p
    refine sq (fun h4 h4p h4s => ?_) fun h4 h4p h4s => ?_
    ·try simp only [Q] at h4p
     refine sq (fun h5 h5p h5s => ?_) fun h5 h5p h5s => ?_
     ·try simp only [Q] at h5p
      refine Walk.call (cr := []) cal302 (impl_only_n) rfl (.some rfl rfl h5) rfl rfl (LeL.refl _) trivial rfl rfl rfl ?_
      refine evd [] [(29, true)] ?_ ⟨⟨_, rfl, h5⟩, trivial⟩
      refine sq (fun h6 h6p h6s => ?_) fun h6 h6p h6s => ?_
      ·try simp only [Q] at h6p
       refine sq (fun h7 h7p h7s => ?_) fun h7 h7p h7s => ?_
       ·try simp only [Q] at h7p
        refine sq (fun h8 h8p h8s => ?_) fun h8 h8p h8s => ?_
        ·try simp only [Q] at h8p
         refine dr ?_
         refine rn0 (r2 rfl rfl) (.tup (.cons (.nild ?_) (.cons (.eqd ?_) .nil)))
         all_goals (first | (refine congrArg D.bool (okI _ ?_); (try simp only [decide_eq_true_eq, Bool.false_eq_true, within, Bool.and_eq_true, List.length_map, true_iff, false_iff]); omega) | (rw [ty0 (by omega) (by omega) (by omega)]; first | done | rfl) | (rw [ty5 (by omega)]; first | done | rfl) | (rw [ty6 (by omega)]; first | done | rfl) | (rw [ty4 (by omega) hmem]; first | done | rfl))
        ·try simp only [Q] at h8p
         refine dr ?_
         refine rn0 (r2 rfl rfl) (.tup (.cons (.nild ?_) (.cons (.eqd ?_) .nil)))
         all_goals (first | (refine congrArg D.bool (okI _ ?_); (try simp only [decide_eq_true_eq, Bool.false_eq_true, within, Bool.and_eq_true, List.length_map, true_iff, false_iff]); omega) | (rw [ty0 (by omega) (by omega) (by omega)]; first | done | rfl) | (rw [ty5 (by omega)]; first | done | rfl) | (rw [ty6 (by omega)]; first | done | rfl) | (rw [ty4 (by omega) hmem]; first | done | rfl))
       ·try simp only [Q] at h7p
        refine sqF ?_
        refine dr ?_
        refine rn0 (r2 rfl rfl) (.tup (.cons (.nild ?_) (.cons (.eqd ?_) .nil)))
        all_goals (first | (refine congrArg D.bool (okI _ ?_); (try simp only [decide_eq_true_eq, Bool.false_eq_true, within, Bool.and_eq_true, List.length_map, true_iff, false_iff]); omega) | (rw [ty0 (by omega) (by omega) (by omega)]; first | done | rfl) | (rw [ty5 (by omega)]; first | done | rfl) | (rw [ty6 (by omega)]; first | done | rfl) | (rw [ty4 (by omega) hmem]; first | done | rfl))
      ·try simp only [Q] at h6p
       refine sqF ?_
       refine sqF ?_
       refine dr ?_
       refine rn0 (r2 rfl rfl) (.tup (.cons (.nild ?_) (.cons (.eqd ?_) .nil)))
       all_goals (first | (refine congrArg D.bool (okI _ ?_); (try simp only [decide_eq_true_eq, Bool.false_eq_true, within, Bool.and_eq_true, List.length_map, true_iff, false_iff]); omega) | (rw [ty0 (by omega) (by omega) (by omega)]; first | done | rfl) | (rw [ty5 (by omega)]; first | done | rfl) | (rw [ty6 (by omega)]; first | done | rfl) | (rw [ty4 (by omega) hmem]; first | done | rfl))
     ·try simp only [Q] at h5p
      refine sqF ?_
      refine sqF ?_
      refine sqF ?_
      refine dr ?_
      refine rn0 (r2 rfl rfl) (.tup (.cons (.nild ?_) (.cons (.eqd ?_) .nil)))
      all_goals (first | (refine congrArg D.bool (okI _ ?_); (try simp only [decide_eq_true_eq, Bool.false_eq_true, within, Bool.and_eq_true, List.length_map, true_iff, false_iff]); omega) | (rw [ty0 (by omega) (by omega) (by omega)]; first | done | rfl) | (rw [ty5 (by omega)]; first | done | rfl) | (rw [ty6 (by omega)]; first | done | rfl) | (rw [ty4 (by omega) hmem]; first | done | rfl))
    ·try simp only [Q] at h4p
     refine sq (fun h9 h9p h9s => ?_) fun h9 h9p h9s => ?_
     ·try simp only [Q] at h9p
      refine Walk.call (cr := []) cal170 (impl_ctorsOf_v hw ht) rfl .none rfl rfl (LeL.refl _) trivial rfl rfl rfl ?_
      refine evd [] [] ?_
      refine Walk.call (cr := []) cal169 (slices_Contains_int_fn hcl) rfl .none rfl rfl (LeL.refl _) trivial rfl rfl rfl ?_
      refine evd [] [] ?_
      refine dr ?_
      refine sq (fun h10 h10p h10s => ?_) fun h10 h10p h10s => ?_
      ·try simp only [Q] at h10p
       refine rn0 (r2 rfl rfl) (.tup (.cons (.nild ?_) (.cons (.eqd ?_) .nil)))
       all_goals (first | (refine congrArg D.bool (okI _ ?_); (try simp only [decide_eq_true_eq, Bool.false_eq_true, within, Bool.and_eq_true, List.length_map, true_iff, false_iff]); omega) | (rw [ty0 (by omega) (by omega) (by omega)]; first | done | rfl) | (rw [ty5 (by omega)]; first | done | rfl) | (rw [ty6 (by omega)]; first | done | rfl) | (rw [ty4 (by omega) hmem]; first | done | rfl))
      ·try simp only [Q] at h10p
       exfalso; simp_all --stop
     ·try simp only [Q] at h9p
      refine sq (fun h11 h11p h11s => ?_) fun h11 h11p h11s => ?_
      ·try simp only [Q] at h11p
       refine Walk.sliceLit sl182 tz42 rfl (by decide) (ks := [0, 1]) (xs := [_, _]) rfl rfl (by decide) (by decide) .none rfl rfl rfl rfl ?_
       refine evd [] [] ?_
       refine Walk.call (cr := []) cal302 (impl_only_a) rfl .none rfl rfl (LeL.refl _) trivial rfl rfl rfl ?_
       refine evd [] [] ?_
       refine dr ?_
       refine rn0 (r2 rfl rfl) (.tup (.cons (.eqd ?_) (.cons (.eqd ?_) .nil)))
       all_goals (first | (refine congrArg D.bool (okI _ ?_); (try simp only [decide_eq_true_eq, Bool.false_eq_true, within, Bool.and_eq_true, List.length_map, true_iff, false_iff]); omega) | (rw [ty0 (by omega) (by omega) (by omega)]; first | done | rfl) | (rw [ty5 (by omega)]; first | done | rfl) | (rw [ty6 (by omega)]; first | done | rfl) | (rw [ty4 (by omega) hmem]; first | done | rfl))
      ·try simp only [Q] at h11p
       refine sq (fun h12 h12p h12s => ?_) fun h12 h12p h12s => ?_
       ·try simp only [Q] at h12p
        refine Walk.sliceLit sl182 tz42 rfl (by decide) (ks := [0]) (xs := [_]) rfl rfl (by decide) (by decide) .none rfl rfl rfl rfl ?_
        refine evd [] [] ?_
        refine Walk.call (cr := []) cal302 (impl_only_v) rfl .none rfl rfl (LeL.refl _) trivial rfl rfl rfl ?_
        refine evd [] [] ?_
        refine sq (fun h13 h13p h13s => ?_) fun h13 h13p h13s => ?_
        ·try simp only [Q] at h13p
         refine Walk.call (cr := []) cal140 (impl_isVar_fn) rfl (.some rfl rfl h13) rfl rfl (LeL.refl _) trivial rfl rfl rfl ?_
         refine evd [] [(82, true)] ?_ ⟨⟨_, rfl, h13⟩, trivial⟩
         refine dr ?_
         refine rn0 (r2 rfl rfl) (.tup (.cons (.eqd ?_) (.cons (.eqd ?_) .nil)))
         all_goals (first | (refine congrArg D.bool (okI _ ?_); (try simp only [decide_eq_true_eq, Bool.false_eq_true, within, Bool.and_eq_true, List.length_map, true_iff, false_iff]); omega) | (rw [ty0 (by omega) (by omega) (by omega)]; first | done | rfl) | (rw [ty5 (by omega)]; first | done | rfl) | (rw [ty6 (by omega)]; first | done | rfl) | (rw [ty4 (by omega) hmem]; first | done | rfl))
        ·try simp only [Q] at h13p
         refine dr ?_
         refine rn0 (r2 rfl rfl) (.tup (.cons (.eqd ?_) (.cons (.eqd ?_) .nil)))
         all_goals (first | (refine congrArg D.bool (okI _ ?_); (try simp only [decide_eq_true_eq, Bool.false_eq_true, within, Bool.and_eq_true, List.length_map, true_iff, false_iff]); omega) | (rw [ty0 (by omega) (by omega) (by omega)]; first | done | rfl) | (rw [ty5 (by omega)]; first | done | rfl) | (rw [ty6 (by omega)]; first | done | rfl) | (rw [ty4 (by omega) hmem]; first | done | rfl))
       ·try simp only [Q] at h12p
        refine rn0 (r2 rfl rfl) (.tup (.cons (.nild ?_) (.cons (.eqd ?_) .nil)))
        all_goals (first | (refine congrArg D.bool (okI _ ?_); (try simp only [decide_eq_true_eq, Bool.false_eq_true, within, Bool.and_eq_true, List.length_map, true_iff, false_iff]); omega) | (rw [ty0 (by omega) (by omega) (by omega)]; first | done | rfl) | (rw [ty5 (by omega)]; first | done | rfl) | (rw [ty6 (by omega)]; first | done | rfl) | (rw [ty4 (by omega) hmem]; first | done | rfl))
theorem vt_iff {t u : Vt} : t = u ↔ t.var = u.var ∧ t.ty.data = u.ty.data ∧ t.ty.index = u.ty.index := by
 rcases t with ⟨a, b, c⟩; rcases u with ⟨d, e, f⟩; simp
def idxVt (l : List Vt) (v : Vt) : Int := idxF (fun x => decide (v = x)) l 0
theorem slices_Index_Vt_fn {l : List Vt} {v : Vt} (h : l.length ≤ 1000000000000) : FnD Tryz.prog 301 [.d (encVts l), .agg [.d (.i v.var), .d (.i v.ty.data), .d (.i v.ty.index)]] [] (.d (.i (idxVt l v))) [] := by
 refine bd Tryz.f301 19 [16] [] fun w0 F0 own kept hk => ?_
 refine Walk.box (id := 3003) .none rfl rfl rfl rfl rfl rfl rfl ?_
 refine evs [16] [] ?_
 refine CWp.loopX (ι := List (Vt) × List (Vt)) hk (fun x => [(8, .d (.i (x.1.length : Int)))]) [4, 5, 9, 10, 11, 12, 13, 14, 15, 16, 17, 18] (fun x => []) (fun x => x.1 ++ x.2 = l ∧ idxF (fun x => decide (v = x)) x.2 x.1.length = idxF (fun x => decide (v = x)) l 0) (fun x => x.2.length) ([], l) ⟨by simp, rfl⟩ ⟨⟨_, rfl, (LeA.eqi (by first | rfl | (simp; done) | (simp_all; done) | omega))⟩, trivial⟩ trivial (fun x => rfl) (fun x hg1 => ?_)
 obtain ⟨pre, rest⟩ := x
 dsimp only at hg1 ⊢
 refine evc [16] [] ?_
 refine sq (fun h1 h1p h1s => ?_) fun h1 h1p h1s => ?_
 ·try simp only [Q] at h1p
  rcases rest with _ | ⟨y, rest⟩
  ·exfalso; simp_all
  refine Walk.idx sl124 .none rfl rfl rfl rfl (zip_at hg1.1) rfl ?_
  refine evd [16] [] ?_
  refine Walk.eqV2 eq197 .none rfl rfl rfl rfl rfl ?_
  refine dr ?_
  refine sq (fun h2 h2p h2s => ?_) fun h2 h2p h2s => ?_
  ·try simp only [Q] at h2p
   refine rn0 (r1 rfl) (.eqd ?_)
   all_goals (unfold idxVt; rw [← hg1.2]; simp_all [idxF, vt_iff])
  ·try simp only [Q] at h2p
   refine ar ?_
   refine Exists.intro ((pre ++ [y], rest)) ⟨⟨(by have hz := hg1.1; rw [← hz]; simp), (by rw [← hg1.2]; simp [idxF]; simp_all [vt_iff])⟩, (by simp), Sub.x (by kernel_rfl) (by kernel_rfl) ⟨⟨_, rfl, (LeA.eqi (by first | rfl | (simp; done) | (simp_all; done) | omega))⟩, trivial⟩ (by kernel_rfl) (by kernel_rfl) trivial⟩
 ·try simp only [Q] at h1p
  have hrest : rest = [] := by
   rcases rest with _ | ⟨a, b⟩
   ·rfl
   ·exfalso; have hz := congrArg List.length (hg1.1); simp only [List.length_append, List.length_cons, List.length_map] at hz; omega
  subst hrest
  refine rn0 (r1 rfl) (.eqd ?_)
  all_goals (unfold idxVt; rw [← hg1.2]; simp_all [idxF, vt_iff])
theorem slices_Contains_Vt_fn {l : List Vt} {v : Vt} (h : l.length ≤ 1000000000000) : FnD Tryz.prog 272 [.d (encVts l), .agg [.d (.i v.var), .d (.i v.ty.data), .d (.i v.ty.index)]] [] (.d (.bool (decide (v ∈ l)))) [] := by
 refine bd Tryz.f272 9 [] [] fun w0 F0 own kept hk => ?_
 refine Walk.box (id := 3003) .none rfl rfl rfl rfl rfl rfl rfl ?_
 refine ev ?_
 refine Walk.call (cr := []) cal301 (slices_Index_Vt_fn h) rfl .none rfl rfl (LeL.refl _) trivial rfl rfl rfl ?_
 refine ev ?_
 refine rn0 (r1 rfl) (.eqd ?_)
 all_goals (refine congrArg D.bool ?_; rw [show idxVt l v = idxF (fun x => decide (v = x)) l 0 from rfl, idxF_any]; simp [List.any_eq, eq_comm])
theorem slices_IndexFunc_Vt_fn {xs : List Vt} {f : Nat} {caps : List AV} {hp : Hp} {p : Vt → Bool} (hs : xs.length ≤ 1000000000000) (hcal : Callee Tryz.prog f)
  (hf : ∀ t ∈ xs, FnD Tryz.prog f ([.agg [.d (.i t.var), .d (.i t.ty.data), .d (.i t.ty.index)]] ++ caps) hp (.d (.bool (p t))) []) (k1 : subH hp hp) (k2 : noTok hp = true) (k3 : okCall hp [] (.d .nilp) [] = true) :
  FnD Tryz.prog 305 [.d (encVts xs), .fn f caps] hp (.d (.i (idxF p xs 0))) [] := by
 refine bd Tryz.f305 19 [] [] fun w0 F0 own kept hk => ?_
 refine CWp.loopX (ι := List (Vt) × List (Vt)) hk (fun x => [(8, .d (.i (x.1.length : Int)))]) [4, 5, 9, 10, 11, 12, 13, 14, 15, 16, 17, 18] (fun x => []) (fun x => x.1 ++ x.2 = xs ∧ idxF p x.2 x.1.length = idxF p xs 0) (fun x => x.2.length) ([], xs) ⟨by simp, rfl⟩ ⟨⟨_, rfl, (LeA.eqi (by first | rfl | (simp; done) | (simp_all; done) | omega))⟩, trivial⟩ trivial (fun x => boxIds_all hp) (fun x hg1 => ?_)
 obtain ⟨pre, rest⟩ := x
 dsimp only at hg1 ⊢
 refine evc [] [] ?_
 refine sq (fun h1 h1p h1s => ?_) fun h1 h1p h1s => ?_
 ·try simp only [Q] at h1p
  rcases rest with _ | ⟨y, rest⟩
  ·exfalso; simp_all
  refine Walk.idx sl124 .none rfl rfl rfl rfl (zip_at hg1.1) rfl ?_
  refine ev ?_
  refine Walk.callV (cr := []) hcal (hf y (by rw [← hg1.1]; simp)) rfl .none rfl rfl rfl (LeL.refl _) k1 k2 (okCall_d k3 _) rfl ?_
  refine tv ?_
  refine sq (fun h2 h2p h2s => ?_) fun h2 h2p h2s => ?_
  ·try simp only [Q] at h2p
   refine rn [] (r1 rfl) (.eqd ?_) ⟨rfl, rfl⟩ (fun _ _ h => h) (fun _ h => h)
   all_goals (rw [← hg1.2]; simp [idxF, h1s, h1p, h2s, h2p])
  ·try simp only [Q] at h2p
   refine ar ?_
   refine Exists.intro ((pre ++ [y], rest)) ⟨⟨(by have hz := hg1.1; rw [← hz]; simp), (by rw [← hg1.2]; simp [idxF, h2s])⟩, (by simp), Sub.x (by kernel_rfl) (by kernel_rfl) ⟨⟨_, rfl, (LeA.eqi (by first | rfl | (simp; done) | (simp_all; done) | omega))⟩, trivial⟩ (by simp) (by simp [coverH]) trivial⟩
 ·try simp only [Q] at h1p
  have hrest : rest = [] := by
   rcases rest with _ | ⟨a, b⟩
   ·rfl
   ·exfalso; have hz := congrArg List.length (hg1.1); simp only [List.length_append, List.length_cons, List.length_map] at hz; omega
  subst hrest
  refine rn [] (r1 rfl) (.eqd ?_) ⟨rfl, rfl⟩ (fun _ _ h => h) (fun _ h => h)
  all_goals (rw [← hg1.2]; simp [idxF, h1s, h1p])
theorem slices_ContainsFunc_Vt_fn {xs : List Vt} {f : Nat} {caps : List AV} {hp : Hp} {p : Vt → Bool} (hs : xs.length ≤ 1000000000000) (hcal : Callee Tryz.prog f)
  (hf : ∀ t ∈ xs, FnD Tryz.prog f ([.agg [.d (.i t.var), .d (.i t.ty.data), .d (.i t.ty.index)]] ++ caps) hp (.d (.bool (p t))) []) (k1 : subH hp hp) (k2 : noTok hp = true) (k3 : okCall hp [] (.d .nilp) [] = true) :
  FnD Tryz.prog 303 [.d (encVts xs), .fn f caps] hp (.d (.bool (xs.any p))) [] := by
 refine bd Tryz.f303 9 [] [] fun w0 F0 own kept hk => ?_
 refine Walk.call (cr := []) cal305 (slices_IndexFunc_Vt_fn hs hcal hf k1 k2 k3) rfl .none rfl rfl (LeL.refl _) k1 k2 (okCall_d k3 _) rfl ?_
 refine ev ?_
 refine rn [] (r1 rfl) (.eqd ?_) ⟨rfl, rfl⟩ (fun _ _ h => h) (fun _ h => h)
 all_goals (exact congrArg D.bool (idxF_any p xs 0))
theorem impl_sameVars_1_fn {b : List Vt} {v : Vt} (h : b.length ≤ 1000000000000) : FnD Tryz.prog 304 [.agg [.d (.i v.var), .d (.i v.ty.data), .d (.i v.ty.index)], .ref 3003 0] [(3003, some (.box [.d (encVts b)]))] (.d (.bool (!decide (v ∈ b)))) [] := by
 refine bd Tryz.f304 8 [] [] fun w0 F0 own kept hk => ?_
 refine Walk.box (id := 3001) .none rfl rfl rfl rfl rfl rfl rfl ?_
 refine ev ?_
 refine Walk.call (cr := []) cal272 (slices_Contains_Vt_fn h) rfl .none rfl rfl (LeL.refl _) trivial rfl rfl rfl ?_
 refine ev ?_
 refine rn [] (r1 rfl) (.eqd ?_) ⟨rfl, rfl⟩ (SubH.get ⟨rfl, trivial⟩) (fun _ h => h)
 all_goals (rfl)
theorem impl_sameVars_fn {x y : List Vt} (hx : x.length ≤ 1000000000000) (hy : y.length ≤ 1000000000000) : FnD Tryz.prog 274 [.d (encVts x), .d (encVts y)] [] (.d (.bool (sameV2 x y))) [] := by
 refine bd Tryz.f274 16 [] [] fun w0 F0 own kept hk => ?_
 refine Walk.box (id := 3003) .none rfl rfl rfl rfl rfl rfl rfl ?_
 refine ev ?_
 refine sq (fun h1 h1p h1s => ?_) fun h1 h1p h1s => ?_
 ·try simp only [Q] at h1p
  refine Walk.closure (xs := [_]) rfl (.some rfl rfl h1) rfl rfl ?_
  refine Walk.call (cr := []) cal303 (slices_ContainsFunc_Vt_fn (p := fun v => !decide (v ∈ y)) hx cal304 (fun t _ => impl_sameVars_1_fn hy) ⟨rfl, trivial⟩ rfl rfl) rfl (.some rfl rfl h1) rfl rfl (LeL.refl _) ⟨rfl, trivial⟩ rfl rfl rfl ?_
  refine evs [] [(10, true)] ?_ ⟨⟨_, rfl, h1⟩, trivial⟩
  refine rn0 (r1 rfl) (.eqd ?_)
  all_goals (refine congrArg D.bool ?_; unfold sameV2; first | (simp_all; done) | (simp_all; intro hz; omega))
 ·try simp only [Q] at h1p
  refine rn0 (r1 rfl) (.eqd ?_)
  all_goals (refine congrArg D.bool ?_; unfold sameV2; first | (simp_all; done) | (simp_all; intro hz; omega))
def metA (s : List Int) : List AV := (List.range 6).map fun (i : Nat) => .d (.bool (decide ((i : Int) ∈ s)))
theorem metA_get {s : List Int} {v : Int} (h0 : 0 ≤ v) (h1 : v ≤ 5) : (metA s)[v.toNat]? = some (.d (.bool (decide (v ∈ s)))) := by
 unfold metA
 rw [List.getElem?_map, List.getElem?_range (by omega)]
 simp only [Option.map_some]
 rw [Int.toNat_of_nonneg h0]
theorem metA_put {s : List Int} {v : Int} (h0 : 0 ≤ v) (h1 : v ≤ 5) : putC (metA s) v.toNat [.d (.bool true)] = some (metA (s ++ [v])) := by
 have e : v = 0 ∨ v = 1 ∨ v = 2 ∨ v = 3 ∨ v = 4 ∨ v = 5 := by omega
 rcases e with rfl | rfl | rfl | rfl | rfl | rfl <;> simp [metA, putC, List.range_succ]
theorem nameP_len (t : Ty) (p : Pat) : (nameP t p).length ≤ 1 := by unfold nameP; split <;> simp
theorem nodup_sub : ∀ {a b : List Int}, a.Nodup → (∀ x ∈ a, x ∈ b) → a.length ≤ b.length
 | [], b, _, _ => by simp
 | x :: r, b, hn, hs => by
  have hn' := List.nodup_cons.1 hn
  have hx := hs x (by simp)
  have h := nodup_sub (a := r) (b := b.erase x) hn'.2 (fun y hy => by
   have hne : y ≠ x := fun e => hn'.1 (e ▸ hy)
   exact (List.mem_erase_of_ne hne).2 (hs y (by simp [hy])))
  rw [List.length_erase_of_mem hx] at h
  have := List.length_pos_of_mem hx
  simp only [List.length_cons]; omega
def InR (l : List Vt) : Prop := ∀ v ∈ l, 0 ≤ v.var ∧ v.var ≤ 5
theorem nodup_len {l : List Vt} (h : InR l) (hn : nodupV l = true) : l.length ≤ 6 := by
 unfold nodupV at hn
 have h1 := of_decide_eq_true hn
 have h2 : ∀ x ∈ l.map Vt.var, x ∈ [(0 : Int), 1, 2, 3, 4, 5] := fun x hx => by
  obtain ⟨v, hv, rfl⟩ := List.mem_map.1 hx
  have := h v hv
  simp only [List.mem_cons, List.not_mem_nil, or_false]; omega
 have := nodup_sub h1 h2
 simpa using this
theorem scanK_in {g : Ty → Pat → Int → Option (List Vt) × Int} {or : Bool} (hg : ∀ t p c l, (g t p c).1 = some l → InR l) : ∀ (a : List Ty) (b : List Pat) (i : Nat) (acc : List Vt) (c : Int) (l : List Vt), InR acc → (scanK g or a b i acc c).1 = some l → InR l
 | [], b, i, acc, c, l, ha, h => by simp only [scanK, Option.some.injEq] at h; subst h; exact ha
 | _ :: _, [], i, acc, c, l, ha, h => by simp only [scanK, Option.some.injEq] at h; subst h; exact ha
 | x :: r, y :: s, i, acc, c, l, ha, h => by
  simp only [scanK] at h
  cases hh : (g x y c).1 with
  | none => rw [hh] at h; cases h
  | some m =>
   rw [hh] at h
   simp only at h
   split at h
   ·split at h
    ·exact scanK_in hg r s (i + 1) acc _ l ha h
    ·cases h
   ·refine scanK_in hg r s (i + 1) _ _ l (fun v hv => ?_) h
    rcases List.mem_append.1 hv with hv | hv
    ·exact ha v hv
    ·exact hg x y c m hh v hv
theorem scanP_in (w : List Data) : ∀ (n : Nat) (t : Ty) (p : Pat) (c : Int) (l : List Vt), (scanP w n t p c).1 = some l → InR l ∧ nodupV l = true
 | 0, t, p, c, l, h => by simp [scanP] at h
 | n + 1, t, p, c, l, h => by
  unfold scanP at h
  split at h
  ·cases h
  ·split at h
   ·rename_i h60 ho
    have ho' : ownP w t p = true := by unfold okP at ho; simp only [Bool.and_eq_true] at ho; exact ho.1
    cases hk : (scanK (scanP w n) (decide (p.op = 5)) (typesP w t p) p.kids 0 (nameP t p) (c + 1)).1 with
    | none => unfold finV at h; rw [hk] at h; simp only at h; rw [hk] at h; cases h
    | some m =>
     have hi : InR m := scanK_in (fun t p c l h => (scanP_in w n t p c l h).1) _ _ _ _ _ m (fun v hv => by
      unfold nameP at hv
      split at hv
      ·rename_i hop
       simp only [List.mem_cons, List.not_mem_nil, or_false] at hv
       subst hv
       exact ownP_var ho' hop
      ·simp at hv) hk
     unfold finV at h
     rw [hk] at h
     simp only at h
     split at h
     ·rename_i hn
      rw [hk] at h
      cases h
      exact ⟨hi, hn⟩
     ·cases h
   ·cases h
theorem scanP_bd (w : List Data) (n : Nat) (t : Ty) (p : Pat) (c : Int) (h : (scanP w n t p c).1.isSome = true) : c + 1 ≤ (scanP w n t p c).2 ∧ (scanP w n t p c).2 ≤ 60 := by
 have h1 := scanP_eq w n t p c
 by_cases hw : wantP w n t p c = true
 ·have h2 := h1.2 hw
  simp only [wantP, Bool.and_eq_true, decide_eq_true_eq] at hw
  have := Pat.size_eq p
  omega
 ·rw [if_neg hw] at h1; rw [h1.1] at h; cases h
def someV (o : Option (List Vt)) : List Vt := o.getD []
theorem scanK_none {g : Ty → Pat → Int → Option (List Vt) × Int} {or : Bool} {a : List Ty} {b : List Pat} {i : Nat} {acc : List Vt} {c : Int} (ha : i < a.length) (hl : b.length = a.length) (h : (g (nth a i) (nth b i) c).1.isSome = false) :
  scanK g or (a.drop i) (b.drop i) i acc c = (none, (g (nth a i) (nth b i) c).2) := by
 rw [drop_nth ha, drop_nth (l := b) (by omega), scanK]
 cases hh : (g (nth a i) (nth b i) c).1 with
 | none => rfl
 | some l => rw [hh] at h; cases h
theorem scanK_bad {g : Ty → Pat → Int → Option (List Vt) × Int} {or : Bool} {a : List Ty} {b : List Pat} {i : Nat} {acc : List Vt} {c : Int} (ha : i < a.length) (hl : b.length = a.length) (h : (g (nth a i) (nth b i) c).1.isSome = true) (ho : or = true ∧ i = 1) (hs : sameV2 acc (someV (g (nth a i) (nth b i) c).1) = false) :
  scanK g or (a.drop i) (b.drop i) i acc c = (none, (g (nth a i) (nth b i) c).2) := by
 rw [drop_nth ha, drop_nth (l := b) (by omega), scanK]
 cases hh : (g (nth a i) (nth b i) c).1 with
 | none => rfl
 | some l => rw [hh] at hs; simp only [someV, Option.getD_some] at hs; simp only [if_pos ho, hs, Bool.false_eq_true, if_false]
theorem scanK_next {g : Ty → Pat → Int → Option (List Vt) × Int} {or : Bool} {a : List Ty} {b : List Pat} {i : Nat} {acc : List Vt} {c : Int} (ha : i < a.length) (hl : b.length = a.length) (h : (g (nth a i) (nth b i) c).1.isSome = true) (hs : (or = true ∧ i = 1) → sameV2 acc (someV (g (nth a i) (nth b i) c).1) = true) :
  scanK g or (a.drop i) (b.drop i) i acc c = scanK g or (a.drop (i + 1)) (b.drop (i + 1)) (i + 1) (if or = true ∧ i = 1 then acc else acc ++ someV (g (nth a i) (nth b i) c).1) (g (nth a i) (nth b i) c).2 := by
 rw [drop_nth ha, drop_nth (l := b) (by omega), scanK]
 cases hh : (g (nth a i) (nth b i) c).1 with
 | none => rw [hh] at h; cases h
 | some l =>
  by_cases ho : or = true ∧ i = 1
  ·have := hs ho; rw [hh] at this; simp only [someV, Option.getD_some] at this
   simp only [if_pos ho, this, if_true]
  ·simp only [if_neg ho, someV, Option.getD_some]
theorem scanK_end {g : Ty → Pat → Int → Option (List Vt) × Int} {or : Bool} {a : List Ty} {b : List Pat} {i : Nat} {acc : List Vt} {c : Int} (ha : a.length ≤ i) : scanK g or (a.drop i) (b.drop i) i acc c = (some acc, c) := by
 rw [List.drop_eq_nil_of_le ha, scanK]
 intro a r b s h; cases h
theorem someV_ok (w : List Data) (n : Nat) (t : Ty) (p : Pat) (c : Int) : InR (someV (scanP w n t p c).1) ∧ (someV (scanP w n t p c).1).length ≤ 6 := by
 cases h : (scanP w n t p c).1 with
 | none => exact ⟨fun v hv => by simp [someV] at hv, by simp [someV]⟩
 | some l =>
  have := scanP_in w n t p c l h
  exact ⟨this.1, nodup_len this.1 this.2⟩
structure GoodS (w : List Data) (n : Nat) (t : Ty) (p : Pat) (c : Int) (x : Nat × List Vt × Int) : Prop where
 le : x.1 ≤ p.kids.length
 eq : scanK (scanP w n) (decide (p.op = 5)) ((typesP w t p).drop x.1) (p.kids.drop x.1) x.1 x.2.1 x.2.2 = scanK (scanP w n) (decide (p.op = 5)) (typesP w t p) p.kids 0 (nameP t p) (c + 1)
 lc : (x.1 : Int) ≤ x.2.2
 c0 : 0 ≤ x.2.2
 c1 : x.2.2 ≤ 60
 len : x.2.1.length ≤ 1 + 6 * x.1
 inr : InR x.2.1
def nextS (w : List Data) (n : Nat) (t : Ty) (p : Pat) (x : Nat × List Vt × Int) : Nat × List Vt × Int :=
 (x.1 + 1, if decide (p.op = 5) = true ∧ x.1 = 1 then x.2.1 else x.2.1 ++ someV (scanP w n (nth (typesP w t p) x.1) (nth p.kids x.1) x.2.2).1, (scanP w n (nth (typesP w t p) x.1) (nth p.kids x.1) x.2.2).2)
theorem GoodS.next {w : List Data} {n : Nat} {t : Ty} {p : Pat} {c : Int} {x : Nat × List Vt × Int} (hl : p.kids.length = (typesP w t p).length) (hg : GoodS w n t p c x) (hlt : x.1 < p.kids.length)
  (hz : (scanP w n (nth (typesP w t p) x.1) (nth p.kids x.1) x.2.2).1.isSome = true) (hs : (decide (p.op = 5) = true ∧ x.1 = 1) → sameV2 x.2.1 (someV (scanP w n (nth (typesP w t p) x.1) (nth p.kids x.1) x.2.2).1) = true) :
  GoodS w n t p c (nextS w n t p x) := by
 obtain ⟨h1, h2, h3, h4, h5, h6, h7⟩ := hg
 have hb := scanP_bd w n _ _ _ hz
 have ho := someV_ok w n (nth (typesP w t p) x.1) (nth p.kids x.1) x.2.2
 refine ⟨by unfold nextS; dsimp only; omega, ?_, by unfold nextS; dsimp only; omega, by unfold nextS; dsimp only; omega, by unfold nextS; dsimp only; omega, ?_, ?_⟩
 ·rw [← h2, scanK_next (by omega) hl hz hs]; rfl
 ·unfold nextS; dsimp only
  split
  ·omega
  ·rw [List.length_append]; omega
 ·unfold nextS; dsimp only
  split
  ·exact h7
  ·intro v hv
   rcases List.mem_append.1 hv with hv | hv
   ·exact h7 v hv
   ·exact ho.1 v hv
theorem GoodS.none {w : List Data} {n : Nat} {t : Ty} {p : Pat} {c : Int} {x : Nat × List Vt × Int} (hl : p.kids.length = (typesP w t p).length) (hg : GoodS w n t p c x) (hlt : x.1 < p.kids.length)
  (hz : (scanP w n (nth (typesP w t p) x.1) (nth p.kids x.1) x.2.2).1.isSome = false) :
  finV (scanK (scanP w n) (decide (p.op = 5)) (typesP w t p) p.kids 0 (nameP t p) (c + 1)) = (none, (scanP w n (nth (typesP w t p) x.1) (nth p.kids x.1) x.2.2).2) := by
 rw [← hg.eq, scanK_none (by omega) hl hz]; rfl
theorem GoodS.bad {w : List Data} {n : Nat} {t : Ty} {p : Pat} {c : Int} {x : Nat × List Vt × Int} (hl : p.kids.length = (typesP w t p).length) (hg : GoodS w n t p c x) (hlt : x.1 < p.kids.length)
  (hz : (scanP w n (nth (typesP w t p) x.1) (nth p.kids x.1) x.2.2).1.isSome = true) (ho : p.op = 5 ∧ x.1 = 1) (hs : sameV2 x.2.1 (someV (scanP w n (nth (typesP w t p) x.1) (nth p.kids x.1) x.2.2).1) = false) :
  finV (scanK (scanP w n) (decide (p.op = 5)) (typesP w t p) p.kids 0 (nameP t p) (c + 1)) = (Option.none, (scanP w n (nth (typesP w t p) x.1) (nth p.kids x.1) x.2.2).2) := by
 rw [← hg.eq, scanK_bad (by omega) hl hz (by simpa using ho) hs]; rfl
theorem GoodS.fin {w : List Data} {n : Nat} {t : Ty} {p : Pat} {c : Int} {x : Nat × List Vt × Int} (hl : p.kids.length = (typesP w t p).length) (hg : GoodS w n t p c x) (hge : p.kids.length ≤ x.1) :
  finV (scanK (scanP w n) (decide (p.op = 5)) (typesP w t p) p.kids 0 (nameP t p) (c + 1)) = (if nodupV x.2.1 = true then some x.2.1 else Option.none, x.2.2) := by
 rw [← hg.eq, scanK_end (by omega)]
 unfold finV
 simp only
 split <;> rfl
theorem nodup_app {pre rest l : List Vt} {y : Vt} (h : pre ++ y :: rest = l) (hm : y.var ∈ pre.map Vt.var) : nodupV l = false := by
 unfold nodupV
 refine decide_eq_false (fun hn => ?_)
 rw [← h, List.map_append, List.map_cons, List.nodup_append] at hn
 exact hn.2.2 _ hm _ (by simp) rfl
theorem nodup_snoc {pre : List Vt} {y : Vt} (h : (pre.map Vt.var).Nodup) (hm : y.var ∉ pre.map Vt.var) : ((pre ++ [y]).map Vt.var).Nodup := by
 rw [List.map_append, List.nodup_append]
 exact ⟨h, by simp, fun a ha b hb => by simp at hb; subst hb; exact fun e => hm (e ▸ ha)⟩
def retV (r : Option (List Vt) × Int) : AV := .tup [.d (encVts (someV r.1)), .d (.bool r.1.isSome)]
theorem impl_patternScan_fn {w : List Data} (hw : WT w) : ∀ (n : Nat) {a k d c : Int} {p : Pat}, d + n = 11 → n ≤ 10 → TyIn w.length ⟨a, k⟩ → p.ok → 0 ≤ c → c ≤ 1000000000000 →
  FnD Tryz.prog 220 [.d (encDatas w), .agg [.d (.i a), .d (.i k)], .agg [.d (.i p.op), .d (.i p.ctor), .d (.i p.n), .d (.i p.m), .d (.i p.var), .d (encPats p.kids)], .d (.i d), .ref 950 0] [(950, some (.box [.d (.i c)]))]
   (retV (scanP w n ⟨a, k⟩ p c)) [(950, some (.box [.d (.i (scanP w n ⟨a, k⟩ p c).2)]))]
 | 0, a, k, d, c, p, hd, _, _, _, c0, c1 => by
  refine bd Tryz.f220 114 [] [2] fun w0 F0 own kept hk => ?_
  refine Walk.box (id := 3006) .none rfl rfl rfl rfl rfl rfl rfl ?_
  refine Walk.box (id := 3007) .none rfl rfl rfl rfl rfl rfl rfl ?_
  refine ev ?_
  refine ar ?_
  refine Walk.store ty3 .none rfl rfl rfl rfl rfl rfl (by simp) rfl ?_
  refine tv ?_
  refine CWp.regionJ ?_
  refine WRest.join 8 [(34, .d (.bool (true)))] [27, 28, 29, 30, 31, 32, 33] ?_ ?_
  ·
   refine ev ?_
   refine sq (fun h1 h1p h1s => ?_) fun h1 h1p h1s => ?_
   ·try simp only [Q] at h1p
    exact jnb rfl
   ·try simp only [Q] at h1p
    exact jnb rfl
  refine WRest.done ?_
  refine tv ?_
  refine sq (fun h2 h2p h2s => ?_) fun h2 h2p h2s => ?_
  ·try simp only [Q] at h2p
   refine rn [(950, some (.box [.d (.i (scanP w 0 ⟨a, k⟩ p c).2)]))] (r2 rfl rfl) (.tup (.cons (.nild ?_) (.cons (.eqd ?_) .nil))) ⟨rfl, rfl⟩ (SubO.get ⟨.inr (by rfl), ⟨.inl rfl, trivial⟩⟩) (boxOK rfl)
   all_goals (rfl)
  ·try simp only [Q] at h2p
   exact absurd h2 (by simp) --stop
 | n + 1, a, k, d, c, p, hd, hn, ht, hok, c0, c1 => by
  by_cases h60 : 60 < c + 1
  ·have e : scanP w (n + 1) ⟨a, k⟩ p c = (none, c + 1) := by unfold scanP; rw [if_pos h60]
   rw [e]
   refine bd Tryz.f220 114 [] [2] fun w0 F0 own kept hk => ?_
   refine Walk.box (id := 3006) .none rfl rfl rfl rfl rfl rfl rfl ?_
   refine Walk.box (id := 3007) .none rfl rfl rfl rfl rfl rfl rfl ?_
   refine ev ?_
   refine ar ?_
   refine Walk.store ty3 .none rfl rfl rfl rfl rfl rfl (by simp) rfl ?_
   refine tv ?_
   refine CWp.regionJ ?_
   refine WRest.join 8 [(34, .d (.bool (true)))] [27, 28, 29, 30, 31, 32, 33] ?_ ?_
   ·
    refine ev ?_
    refine sq (fun h1 h1p h1s => ?_) fun h1 h1p h1s => ?_
    ·try simp only [Q] at h1p
     exact jnb rfl
    ·try simp only [Q] at h1p
     exact jnb rfl
   refine WRest.done ?_
   refine tv ?_
   refine sq (fun h2 h2p h2s => ?_) fun h2 h2p h2s => ?_
   ·try simp only [Q] at h2p
    refine rn [(950, some (.box [.d (.i (c + 1))]))] (r2 rfl rfl) (.tup (.cons (.nild ?_) (.cons (.eqd ?_) .nil))) ⟨rfl, rfl⟩ (SubO.get ⟨.inr (by rfl), ⟨.inl rfl, trivial⟩⟩) (boxOK rfl)
    all_goals (rfl)
   ·try simp only [Q] at h2p
    exact absurd h2 (by simp) --stop
  have hsh := impl_shape_fn hw (p := p) ht
  by_cases hop : okP w ⟨a, k⟩ p = true
  ·have hok' := hok
   rw [Pat.ok_iff] at hok
   have hop' := hop
   unfold okP at hop'
   simp only [Bool.and_eq_true, decide_eq_true_eq] at hop'
   obtain ⟨ho, hl⟩ := hop'
   have hin := typesP_in hw ht ho
   have hlen := typesP_len hw ht (ownP_mem ho)
   have hst : shapeT w ⟨a, k⟩ p = typesP w ⟨a, k⟩ p := by unfold shapeT; rw [if_neg (fun h => h.2 (ownP_mem ho h.1))]
   rw [hst, hop] at hsh
   have e : scanP w (n + 1) ⟨a, k⟩ p c = finV (scanK (scanP w n) (decide (p.op = 5)) (typesP w ⟨a, k⟩ p) p.kids 0 (nameP ⟨a, k⟩ p) (c + 1)) := by
    conv => lhs; unfold scanP
    rw [if_neg h60, if_pos hop]
   have hnr : InR (nameP ⟨a, k⟩ p) := fun v hv => by
    unfold nameP at hv
    split at hv
    ·rename_i hop
     simp only [List.mem_cons, List.not_mem_nil, or_false] at hv
     subst hv
     exact ownP_var ho hop
    ·simp at hv
   have hnl := nameP_len ⟨a, k⟩ p
   rw [e]
   refine bd Tryz.f220 114 [14, 108] [2, 8, 17] fun w0 F0 own kept hk => ?_
   refine Walk.box (id := 3006) .none rfl rfl rfl rfl rfl rfl rfl ?_
   refine Walk.box (id := 3007) .none rfl rfl rfl rfl rfl rfl rfl ?_
   refine evs [14, 108] [] ?_
   refine ar ?_
   refine Walk.store ty3 .none rfl rfl rfl rfl rfl rfl (by simp) rfl ?_
   refine tv ?_
   refine CWp.regionJ ?_
   refine WRest.join 8 [(34, .d (.bool (false)))] [27, 28, 29, 30, 31, 32, 33] ?_ ?_
   ·
    refine evs [14, 108] [] ?_
    refine sq (fun h1 h1p h1s => ?_) fun h1 h1p h1s => ?_
    ·try simp only [Q, Pat.cs_len] at h1p
     exact jnb rfl
    ·try simp only [Q, Pat.cs_len] at h1p
     exact jnb rfl
   refine WRest.done ?_
   refine tv ?_
   refine sq (fun h2 h2p h2s => ?_) fun h2 h2p h2s => ?_
   ·try simp only [Q, Pat.cs_len] at h2p
    exact absurd h2 (by simp) --stop
   ·try simp only [Q, Pat.cs_len] at h2p
    refine Walk.call (cr := []) cal273 (hsh) rfl .none rfl rfl (LeL.refl _) trivial rfl rfl rfl ?_
    refine evs [14, 108] [] ?_
    refine sq (fun h3 h3p h3s => ?_) fun h3 h3p h3s => ?_
    ·try simp only [Q, Pat.cs_len] at h3p
     exact absurd h3 (by simp) --stop
    ·try simp only [Q, Pat.cs_len] at h3p
     refine Walk.assignNil 5 3 .none rfl rfl ?_
     refine tv ?_
     refine CWp.regionJ ?_
     refine WRest.join 8 [(51, .d (.bool (decide (p.op = 2 ∨ p.op = 6))))] [44, 45, 46, 47, 48, 49, 50] ?_ ?_
     ·
      refine evs [14, 108] [] ?_
      refine sq (fun h4 h4p h4s => ?_) fun h4 h4p h4s => ?_
      ·try simp only [Q, Pat.cs_len] at h4p
       exact jnb rfl
      ·try simp only [Q, Pat.cs_len] at h4p
       exact jnb rfl
     refine WRest.done ?_
     refine tv ?_
     refine sq (fun h5 h5p h5s => ?_) fun h5 h5p h5s => ?_
     ·try simp only [Q, Pat.cs_len] at h5p
      refine Walk.build st197 (ks := [0, 1]) (xs := [_, _]) rfl rfl .none rfl rfl rfl ?_
      refine Walk.sliceLit sl124 tz197 rfl (by decide) (ks := [0]) (xs := [_]) rfl rfl (by decide) (by decide) .none rfl rfl rfl rfl ?_
      refine Walk.append sl124 zz197 rfl .none rfl rfl rfl rfl (htokL rfl (by first | rfl | (simp; done) | (simp; omega))) (by simp) (by (simp; done)) (by (simp; done)) ?_
      refine asg ?_
      refine tv ?_
      refine CWp.loopX (ι := Nat × List Vt × Int) hk (fun z => [(62, .d (.i (z.1 : Int))), (14, .gl 5 (z.2.1.map Vt.c))]) [10, 11, 15, 16, 17, 18, 63, 64, 65, 66, 67, 68, 69, 70, 71, 72, 73, 74, 75, 76, 77, 78, 79, 80, 81, 82, 83, 84, 85, 86, 87, 88, 89, 90, 91, 92, 93, 94, 95, 96, 97, 98] (fun z => [(950, some (.box [.d (.i z.2.2)])), (5, some (.tok ((z.2.1.map Vt.c)).length 3))]) (fun z => GoodS w n ⟨a, k⟩ p c z) (fun z => p.kids.length - z.1) (0, nameP ⟨a, k⟩ p, c + 1) ⟨by simp, by simp, by dsimp only; omega, by dsimp only; omega, by dsimp only; omega, by dsimp only; omega, hnr⟩ ⟨⟨_, rfl, (LeA.eqi (by rfl))⟩, ⟨⟨_, rfl, (LeA.glg (by (simp_all [nameP]; done)))⟩, trivial⟩⟩ ⟨(by first | rfl | (simp [getH]; done)), ⟨beq_nat_eq (by (first | rfl | (simp; done) | (dsimp only; omega) | (simp_all [nameP]; done) | (unfold nextS; dsimp only; rw [if_neg (by simp_all)]; simp; done) | (unfold nextS; dsimp only; rw [if_pos (by simp_all)]; done))), trivial⟩⟩ (fun x => rfl) (fun z hg1 => ?_)
      obtain ⟨s1, _, s3, s4, s5, s6, s7⟩ := id hg1
      refine evc [14, 108] [2, 8, 17] ?_
      refine sq (fun h6 h6p h6s => ?_) fun h6 h6p h6s => ?_
      ·try simp only [Q, Pat.cs_len] at h6p
       refine Walk.idx sl49 .none rfl rfl rfl rfl (pats_at (by omega)) rfl ?_
       refine evs [14, 108] [] ?_
       refine Walk.alloc (id := 3016) tz51 rfl .none rfl rfl rfl rfl ?_
       refine evs [14, 108] [] ?_
       refine Walk.store ty51 .none rfl rfl rfl rfl rfl rfl (by simp) rfl ?_
       refine tv ?_
       refine Walk.idx sl182 .none rfl rfl rfl rfl (at_nth (by omega)) rfl ?_
       refine evd [14, 108] [] ?_
       refine ar ?_
       refine Walk.call (cr := []) cal220 (impl_patternScan_fn hw n (a := (nth (typesP w ⟨a, k⟩ p) z.1).data) (k := (nth (typesP w ⟨a, k⟩ p) z.1).index) (c := z.2.2) (p := nth p.kids z.1) (by omega) (by omega) (hin _ (nth_mem (by omega))) (Pats.ok_mem hok.2 _ (nth_mem (by omega))) (by omega) (by omega)) rfl .none rfl rfl (LeL.refl _) ⟨rfl, trivial⟩ rfl rfl rfl ?_
       refine evd [14, 108] [] ?_
       refine dr ?_
       refine sq (fun h7 h7p h7s => ?_) fun h7 h7p h7s => ?_
       ·try simp only [Q, Pat.cs_len] at h7p
        refine rn [(950, some (.box [.d (.i (finV (scanK (scanP w n) (decide (p.op = 5)) (typesP w ⟨a, k⟩ p) p.kids 0 (nameP ⟨a, k⟩ p) (c + 1))).2)]))] (r2 rfl rfl) (.tup (.cons (.nild ?_) (.cons (.eqd ?_) .nil))) ⟨rfl, rfl⟩ (SubO.get ⟨.inr (by (show some (Res.box _) = some (Res.box _); rw [hg1.none hl (by omega) (by assumption)]; done)), ⟨.inl rfl, trivial⟩⟩) (boxOK rfl)
        all_goals ((rw [hg1.none hl (by omega) (by assumption)]; first | done | rfl))
       ·try simp only [Q, Pat.cs_len] at h7p
        refine CWp.regionJ ?_
        refine WRest.join 7 [(93, .d (.bool (decide (p.op = 5 ∧ z.1 = 1))))] [87, 88, 89, 90, 91, 92] ?_ ?_
        ·
         refine evs [14, 108] [] ?_
         refine sq (fun h8 h8p h8s => ?_) fun h8 h8p h8s => ?_
         ·try simp only [Q, Pat.cs_len] at h8p
          exact jnb rfl
         ·try simp only [Q, Pat.cs_len] at h8p
          exact jnb rfl
        refine WRest.done ?_
        refine evs [14, 108] [] ?_
        refine sq (fun h9 h9p h9s => ?_) fun h9 h9p h9s => ?_
        ·try simp only [Q, Pat.cs_len] at h9p
         refine Walk.call (cr := []) cal274 (impl_sameVars_fn (by omega) (by have hz := (someV_ok w n ⟨(nth (typesP w ⟨a, k⟩ p) z.1).data, (nth (typesP w ⟨a, k⟩ p) z.1).index⟩ (nth p.kids z.1) z.2.2).2; omega)) rfl .none rfl rfl (.cons (.gl _ _) (.cons (.refl _) .nil)) trivial rfl rfl rfl ?_
         refine evs [14, 108] [] ?_
         refine sq (fun h10 h10p h10s => ?_) fun h10 h10p h10s => ?_
         ·try simp only [Q, Pat.cs_len] at h10p
          refine rn [(950, some (.box [.d (.i (finV (scanK (scanP w n) (decide (p.op = 5)) (typesP w ⟨a, k⟩ p) p.kids 0 (nameP ⟨a, k⟩ p) (c + 1))).2)]))] (r2 rfl rfl) (.tup (.cons (.nild ?_) (.cons (.eqd ?_) .nil))) ⟨rfl, rfl⟩ (SubO.get ⟨.inr (by (show some (Res.box _) = some (Res.box _); rw [hg1.bad hl (by omega) (by assumption) (by assumption) (by assumption)]; done)), ⟨.inl rfl, trivial⟩⟩) (boxOK rfl)
          all_goals ((rw [hg1.bad hl (by omega) (by assumption) (by assumption) (by assumption)]; first | done | rfl))
         ·try simp only [Q, Pat.cs_len] at h10p
          refine ar ?_
          refine Exists.intro ((nextS w n ⟨a, k⟩ p z)) ⟨(hg1.next hl (by omega) (by simp_all) (fun ho => by simp_all)), (by unfold nextS; dsimp only; omega), Sub.x (by kernel_rfl) (by kernel_rfl) ⟨⟨_, rfl, (LeA.eqi (by rfl))⟩, ⟨⟨_, rfl, (LeA.glg (by (simp_all [nameP]; done)))⟩, trivial⟩⟩ (by kernel_rfl) (by kernel_rfl) ⟨(by first | rfl | (simp [getH]; done)), ⟨beq_nat_eq (by (simp; omega)), trivial⟩⟩⟩
        ·try simp only [Q, Pat.cs_len] at h9p
         refine Walk.append sl124 zz197 rfl .none rfl rfl rfl rfl (htokL rfl (by first | rfl | (simp; done) | (simp; omega))) (by simp) (by (have hz := (someV_ok w n ⟨(nth (typesP w ⟨a, k⟩ p) z.1).data, (nth (typesP w ⟨a, k⟩ p) z.1).index⟩ (nth p.kids z.1) z.2.2).2; simp; omega)) (by (have hz := (someV_ok w n ⟨(nth (typesP w ⟨a, k⟩ p) z.1).data, (nth (typesP w ⟨a, k⟩ p) z.1).index⟩ (nth p.kids z.1) z.2.2).2; simp; omega)) ?_
         refine asg ?_
         refine tv ?_
         refine ar ?_
         refine Exists.intro ((nextS w n ⟨a, k⟩ p z)) ⟨(hg1.next hl (by omega) (by simp_all) (fun ho => by simp_all)), (by unfold nextS; dsimp only; omega), Sub.x (by kernel_rfl) (by kernel_rfl) ⟨⟨_, rfl, (LeA.eqi (by rfl))⟩, ⟨⟨_, rfl, (LeA.glg (by (unfold nextS; dsimp only; rw [if_neg (by simp_all)]; simp; done)))⟩, trivial⟩⟩ (by kernel_rfl) (by kernel_rfl) ⟨(by first | rfl | (simp [getH]; done)), ⟨beq_nat_eq (by (first | rfl | (simp; done) | (dsimp only; omega) | (simp_all [nameP]; done) | (unfold nextS; dsimp only; rw [if_neg (by simp_all)]; simp; done) | (unfold nextS; dsimp only; rw [if_pos (by simp_all)]; done))), trivial⟩⟩⟩
      ·try simp only [Q, Pat.cs_len] at h6p
       refine Walk.alloc (id := 3019) tz195 rfl .none rfl rfl rfl rfl ?_
       refine tv ?_
       refine CWp.loopX (ι := List (Vt) × List (Vt)) hk (fun x => [(101, .d (.i (x.1.length : Int)))]) [10, 11, 21, 102, 103, 104, 105, 106, 107, 108, 109, 110, 111, 112] (fun x => [(3019, some (.box (metA (x.1.map Vt.var))))]) (fun x => x.1 ++ x.2 = z.2.1 ∧ (x.1.map Vt.var).Nodup) (fun x => x.2.length) ([], z.2.1) ⟨by simp, by simp⟩ ⟨⟨_, rfl, (LeA.eqi (by first | rfl | (simp; done) | (simp_all; done) | omega))⟩, trivial⟩ ⟨(by first | rfl | (simp [getH]; done)), trivial⟩ (fun x => rfl) (fun x hg2 => ?_)
       obtain ⟨pre, rest⟩ := x
       dsimp only at hg2 ⊢
       refine evc [14, 108] [2, 8, 17] ?_
       refine sq (fun h11 h11p h11s => ?_) fun h11 h11p h11s => ?_
       ·try simp only [Q, Pat.cs_len] at h11p
        rcases rest with _ | ⟨y, rest⟩
        ·exfalso; simp_all
        have hy := s7 y (by rw [← hg2.1]; simp)
        refine Walk.idxG sl124 .none rfl rfl rfl rfl (zip_at hg2.1) rfl ?_
        refine evs [14, 108] [] ?_
        refine Walk.alloc (id := 3021) tz197 rfl .none rfl rfl rfl rfl ?_
        refine Walk.store ty197 .none rfl rfl rfl rfl rfl rfl (by simp) rfl ?_
        refine tv ?_
        refine Walk.idxA (i := y.var.toNat) ar195 .none rfl rfl rfl (Int.toNat_of_nonneg hy.1).symm (by omega) ?_
        refine Walk.loadB ty4 .none rfl rfl rfl ((by simpa using metA_get hy.1 hy.2)) ?_
        refine tv ?_
        refine sq (fun h12 h12p h12s => ?_) fun h12 h12p h12s => ?_
        ·try simp only [Q, Pat.cs_len] at h12p
         refine rn [(950, some (.box [.d (.i (finV (scanK (scanP w n) (decide (p.op = 5)) (typesP w ⟨a, k⟩ p) p.kids 0 (nameP ⟨a, k⟩ p) (c + 1))).2)]))] (r2 rfl rfl) (.tup (.cons (.nild ?_) (.cons (.eqd ?_) .nil))) ⟨rfl, rfl⟩ (SubO.get ⟨.inr (by (show some (Res.box _) = some (Res.box _); rw [hg1.fin hl (by omega)]; done)), ⟨.inl rfl, trivial⟩⟩) (boxOK rfl)
         all_goals ((rw [hg1.fin hl (by omega), if_neg (by rw [nodup_app hg2.1 (by assumption)]; simp)]; first | done | rfl))
        ·try simp only [Q, Pat.cs_len] at h12p
         refine Walk.idxA (i := y.var.toNat) ar195 .none rfl rfl rfl (Int.toNat_of_nonneg hy.1).symm (by omega) ?_
         refine Walk.store ty4 .none rfl rfl rfl rfl rfl rfl (by simp) ((by simpa using metA_put hy.1 hy.2)) ?_
         refine tv ?_
         refine ar ?_
         refine Exists.intro ((pre ++ [y], rest)) ⟨⟨(by have hz := hg2.1; rw [← hz]; simp), (nodup_snoc hg2.2 (by simp_all))⟩, (by simp), Sub.x (by kernel_rfl) (by kernel_rfl) ⟨⟨_, rfl, (LeA.eqi (by first | rfl | (simp; done) | (simp_all; done) | omega))⟩, trivial⟩ (by kernel_rfl) (by kernel_rfl) ⟨(by first | rfl | (simp [getH]; done)), trivial⟩⟩
       ·try simp only [Q, Pat.cs_len] at h11p
        have hrest : rest = [] := by
         rcases rest with _ | ⟨a, b⟩
         ·rfl
         ·exfalso; have hz := congrArg List.length (hg2.1); simp only [List.length_append, List.length_cons, List.length_map] at hz; omega
        subst hrest
        refine rn [(950, some (.box [.d (.i (finV (scanK (scanP w n) (decide (p.op = 5)) (typesP w ⟨a, k⟩ p) p.kids 0 (nameP ⟨a, k⟩ p) (c + 1))).2)]))] (r2 rfl rfl) (.tup (.cons (.gld ?_) (.cons (.eqd ?_) .nil))) ⟨rfl, rfl⟩ (SubO.get ⟨.inr (by (show some (Res.box _) = some (Res.box _); rw [hg1.fin hl (by omega)]; done)), ⟨.inl rfl, trivial⟩⟩) (boxOK rfl)
        all_goals ((rw [hg1.fin hl (by omega), if_pos (by have hz := hg2.1; rw [List.append_nil] at hz; rw [← hz]; exact decide_eq_true hg2.2)]; first | done | rfl))
     ·try simp only [Q, Pat.cs_len] at h5p
      refine CWp.loopX (ι := Nat × List Vt × Int) hk (fun z => [(62, .d (.i (z.1 : Int))), (14, .gl 5 (z.2.1.map Vt.c))]) [10, 11, 15, 16, 17, 18, 63, 64, 65, 66, 67, 68, 69, 70, 71, 72, 73, 74, 75, 76, 77, 78, 79, 80, 81, 82, 83, 84, 85, 86, 87, 88, 89, 90, 91, 92, 93, 94, 95, 96, 97, 98] (fun z => [(950, some (.box [.d (.i z.2.2)])), (5, some (.tok ((z.2.1.map Vt.c)).length 3))]) (fun z => GoodS w n ⟨a, k⟩ p c z) (fun z => p.kids.length - z.1) (0, nameP ⟨a, k⟩ p, c + 1) ⟨by simp, by simp, by dsimp only; omega, by dsimp only; omega, by dsimp only; omega, by dsimp only; omega, hnr⟩ ⟨⟨_, rfl, (LeA.eqi (by rfl))⟩, ⟨⟨_, rfl, (LeA.glg (by (simp_all [nameP]; done)))⟩, trivial⟩⟩ ⟨(by first | rfl | (simp [getH]; done)), ⟨beq_nat_eq (by (first | rfl | (simp; done) | (dsimp only; omega) | (simp_all [nameP]; done) | (unfold nextS; dsimp only; rw [if_neg (by simp_all)]; simp; done) | (unfold nextS; dsimp only; rw [if_pos (by simp_all)]; done))), trivial⟩⟩ (fun x => rfl) (fun z hg1 => ?_)
      obtain ⟨s1, _, s3, s4, s5, s6, s7⟩ := id hg1
      refine evc [14, 108] [2, 8, 17] ?_
      refine sq (fun h13 h13p h13s => ?_) fun h13 h13p h13s => ?_
      ·try simp only [Q, Pat.cs_len] at h13p
       refine Walk.idx sl49 .none rfl rfl rfl rfl (pats_at (by omega)) rfl ?_
       refine evs [14, 108] [] ?_
       refine Walk.alloc (id := 3016) tz51 rfl .none rfl rfl rfl rfl ?_
       refine evs [14, 108] [] ?_
       refine Walk.store ty51 .none rfl rfl rfl rfl rfl rfl (by simp) rfl ?_
       refine tv ?_
       refine Walk.idx sl182 .none rfl rfl rfl rfl (at_nth (by omega)) rfl ?_
       refine evd [14, 108] [] ?_
       refine ar ?_
       refine Walk.call (cr := []) cal220 (impl_patternScan_fn hw n (a := (nth (typesP w ⟨a, k⟩ p) z.1).data) (k := (nth (typesP w ⟨a, k⟩ p) z.1).index) (c := z.2.2) (p := nth p.kids z.1) (by omega) (by omega) (hin _ (nth_mem (by omega))) (Pats.ok_mem hok.2 _ (nth_mem (by omega))) (by omega) (by omega)) rfl .none rfl rfl (LeL.refl _) ⟨rfl, trivial⟩ rfl rfl rfl ?_
       refine evd [14, 108] [] ?_
       refine dr ?_
       refine sq (fun h14 h14p h14s => ?_) fun h14 h14p h14s => ?_
       ·try simp only [Q, Pat.cs_len] at h14p
        refine rn [(950, some (.box [.d (.i (finV (scanK (scanP w n) (decide (p.op = 5)) (typesP w ⟨a, k⟩ p) p.kids 0 (nameP ⟨a, k⟩ p) (c + 1))).2)]))] (r2 rfl rfl) (.tup (.cons (.nild ?_) (.cons (.eqd ?_) .nil))) ⟨rfl, rfl⟩ (SubO.get ⟨.inr (by (show some (Res.box _) = some (Res.box _); rw [hg1.none hl (by omega) (by assumption)]; done)), ⟨.inl rfl, trivial⟩⟩) (boxOK rfl)
        all_goals ((rw [hg1.none hl (by omega) (by assumption)]; first | done | rfl))
       ·try simp only [Q, Pat.cs_len] at h14p
        refine CWp.regionJ ?_
        refine WRest.join 7 [(93, .d (.bool (decide (p.op = 5 ∧ z.1 = 1))))] [87, 88, 89, 90, 91, 92] ?_ ?_
        ·
         refine evs [14, 108] [] ?_
         refine sq (fun h15 h15p h15s => ?_) fun h15 h15p h15s => ?_
         ·try simp only [Q, Pat.cs_len] at h15p
          exact jnb rfl
         ·try simp only [Q, Pat.cs_len] at h15p
          exact jnb rfl
        refine WRest.done ?_
        refine evs [14, 108] [] ?_
        refine sq (fun h16 h16p h16s => ?_) fun h16 h16p h16s => ?_
        ·try simp only [Q, Pat.cs_len] at h16p
         refine Walk.call (cr := []) cal274 (impl_sameVars_fn (by omega) (by have hz := (someV_ok w n ⟨(nth (typesP w ⟨a, k⟩ p) z.1).data, (nth (typesP w ⟨a, k⟩ p) z.1).index⟩ (nth p.kids z.1) z.2.2).2; omega)) rfl .none rfl rfl (.cons (.gl _ _) (.cons (.refl _) .nil)) trivial rfl rfl rfl ?_
         refine evs [14, 108] [] ?_
         refine sq (fun h17 h17p h17s => ?_) fun h17 h17p h17s => ?_
         ·try simp only [Q, Pat.cs_len] at h17p
          refine rn [(950, some (.box [.d (.i (finV (scanK (scanP w n) (decide (p.op = 5)) (typesP w ⟨a, k⟩ p) p.kids 0 (nameP ⟨a, k⟩ p) (c + 1))).2)]))] (r2 rfl rfl) (.tup (.cons (.nild ?_) (.cons (.eqd ?_) .nil))) ⟨rfl, rfl⟩ (SubO.get ⟨.inr (by first | (show some (Res.box _) = some (Res.box _); rw [hg1.none hl (by omega) (by assumption)]; done) | (show some (Res.box _) = some (Res.box _); rw [hg1.bad hl (by omega) (by assumption) (by assumption) (by assumption)]; done) | (show some (Res.box _) = some (Res.box _); rw [hg1.fin hl (by omega)]; done)), ⟨.inl rfl, trivial⟩⟩) (boxOK rfl)
          all_goals ((rw [hg1.bad hl (by omega) (by assumption) (by assumption) (by assumption)]; first | done | rfl))
         ·try simp only [Q, Pat.cs_len] at h17p
          refine ar ?_
          refine Exists.intro ((nextS w n ⟨a, k⟩ p z)) ⟨(hg1.next hl (by omega) (by simp_all) (fun ho => by simp_all)), (by unfold nextS; dsimp only; omega), Sub.x (by kernel_rfl) (by kernel_rfl) ⟨⟨_, rfl, (LeA.eqi (by rfl))⟩, ⟨⟨_, rfl, (LeA.glg (by (unfold nextS; dsimp only; rw [if_pos (by simp_all)]; done)))⟩, trivial⟩⟩ (by kernel_rfl) (by kernel_rfl) ⟨(by first | rfl | (simp [getH]; done)), ⟨beq_nat_eq (by (first | rfl | (simp; done) | (dsimp only; omega) | (simp_all [nameP]; done) | (unfold nextS; dsimp only; rw [if_neg (by simp_all)]; simp; done) | (unfold nextS; dsimp only; rw [if_pos (by simp_all)]; done))), trivial⟩⟩⟩
        ·try simp only [Q, Pat.cs_len] at h16p
         refine Walk.append sl124 zz197 rfl .none rfl rfl rfl rfl (htokL rfl (by first | rfl | (simp; done) | (simp; omega))) (by simp) (by (have hz := (someV_ok w n ⟨(nth (typesP w ⟨a, k⟩ p) z.1).data, (nth (typesP w ⟨a, k⟩ p) z.1).index⟩ (nth p.kids z.1) z.2.2).2; simp; omega)) (by (have hz := (someV_ok w n ⟨(nth (typesP w ⟨a, k⟩ p) z.1).data, (nth (typesP w ⟨a, k⟩ p) z.1).index⟩ (nth p.kids z.1) z.2.2).2; simp; omega)) ?_
         refine asg ?_
         refine tv ?_
         refine ar ?_
         refine Exists.intro ((nextS w n ⟨a, k⟩ p z)) ⟨(hg1.next hl (by omega) (by simp_all) (fun ho => by simp_all)), (by unfold nextS; dsimp only; omega), Sub.x (by kernel_rfl) (by kernel_rfl) ⟨⟨_, rfl, (LeA.eqi (by rfl))⟩, ⟨⟨_, rfl, (LeA.glg (by (unfold nextS; dsimp only; rw [if_neg (by simp_all)]; simp; done)))⟩, trivial⟩⟩ (by kernel_rfl) (by kernel_rfl) ⟨(by first | rfl | (simp [getH]; done)), ⟨beq_nat_eq (by (first | rfl | (simp; done) | (dsimp only; omega) | (simp_all [nameP]; done) | (unfold nextS; dsimp only; rw [if_neg (by simp_all)]; simp; done) | (unfold nextS; dsimp only; rw [if_pos (by simp_all)]; done))), trivial⟩⟩⟩
      ·try simp only [Q, Pat.cs_len] at h13p
       refine Walk.alloc (id := 3019) tz195 rfl .none rfl rfl rfl rfl ?_
       refine tv ?_
       refine CWp.loopX (ι := List (Vt) × List (Vt)) hk (fun x => [(101, .d (.i (x.1.length : Int)))]) [10, 11, 21, 102, 103, 104, 105, 106, 107, 108, 109, 110, 111, 112] (fun x => [(3019, some (.box (metA (x.1.map Vt.var))))]) (fun x => x.1 ++ x.2 = z.2.1 ∧ (x.1.map Vt.var).Nodup) (fun x => x.2.length) ([], z.2.1) ⟨by simp, by simp⟩ ⟨⟨_, rfl, (LeA.eqi (by first | rfl | (simp; done) | (simp_all; done) | omega))⟩, trivial⟩ ⟨(by first | rfl | (simp [getH]; done)), trivial⟩ (fun x => rfl) (fun x hg2 => ?_)
       obtain ⟨pre, rest⟩ := x
       dsimp only at hg2 ⊢
       refine evc [14, 108] [2, 8, 17] ?_
       refine sq (fun h18 h18p h18s => ?_) fun h18 h18p h18s => ?_
       ·try simp only [Q, Pat.cs_len] at h18p
        rcases rest with _ | ⟨y, rest⟩
        ·exfalso; simp_all
        have hy := s7 y (by rw [← hg2.1]; simp)
        refine Walk.idxG sl124 .none rfl rfl rfl rfl (zip_at hg2.1) rfl ?_
        refine evs [14, 108] [] ?_
        refine Walk.alloc (id := 3021) tz197 rfl .none rfl rfl rfl rfl ?_
        refine Walk.store ty197 .none rfl rfl rfl rfl rfl rfl (by simp) rfl ?_
        refine tv ?_
        refine Walk.idxA (i := y.var.toNat) ar195 .none rfl rfl rfl (Int.toNat_of_nonneg hy.1).symm (by omega) ?_
        refine Walk.loadB ty4 .none rfl rfl rfl ((by simpa using metA_get hy.1 hy.2)) ?_
        refine tv ?_
        refine sq (fun h19 h19p h19s => ?_) fun h19 h19p h19s => ?_
        ·try simp only [Q, Pat.cs_len] at h19p
         refine rn [(950, some (.box [.d (.i (finV (scanK (scanP w n) (decide (p.op = 5)) (typesP w ⟨a, k⟩ p) p.kids 0 (nameP ⟨a, k⟩ p) (c + 1))).2)]))] (r2 rfl rfl) (.tup (.cons (.nild ?_) (.cons (.eqd ?_) .nil))) ⟨rfl, rfl⟩ (SubO.get ⟨.inr (by (show some (Res.box _) = some (Res.box _); rw [hg1.fin hl (by omega)]; done)), ⟨.inl rfl, trivial⟩⟩) (boxOK rfl)
         all_goals ((rw [hg1.fin hl (by omega), if_neg (by rw [nodup_app hg2.1 (by assumption)]; simp)]; first | done | rfl))
        ·try simp only [Q, Pat.cs_len] at h19p
         refine Walk.idxA (i := y.var.toNat) ar195 .none rfl rfl rfl (Int.toNat_of_nonneg hy.1).symm (by omega) ?_
         refine Walk.store ty4 .none rfl rfl rfl rfl rfl rfl (by simp) ((by simpa using metA_put hy.1 hy.2)) ?_
         refine tv ?_
         refine ar ?_
         refine Exists.intro ((pre ++ [y], rest)) ⟨⟨(by have hz := hg2.1; rw [← hz]; simp), (nodup_snoc hg2.2 (by simp_all))⟩, (by simp), Sub.x (by kernel_rfl) (by kernel_rfl) ⟨⟨_, rfl, (LeA.eqi (by first | rfl | (simp; done) | (simp_all; done) | omega))⟩, trivial⟩ (by kernel_rfl) (by kernel_rfl) ⟨(by first | rfl | (simp [getH]; done)), trivial⟩⟩
       ·try simp only [Q, Pat.cs_len] at h18p
        have hrest : rest = [] := by
         rcases rest with _ | ⟨a, b⟩
         ·rfl
         ·exfalso; have hz := congrArg List.length (hg2.1); simp only [List.length_append, List.length_cons, List.length_map] at hz; omega
        subst hrest
        refine rn [(950, some (.box [.d (.i (finV (scanK (scanP w n) (decide (p.op = 5)) (typesP w ⟨a, k⟩ p) p.kids 0 (nameP ⟨a, k⟩ p) (c + 1))).2)]))] (r2 rfl rfl) (.tup (.cons (.gld ?_) (.cons (.eqd ?_) .nil))) ⟨rfl, rfl⟩ (SubO.get ⟨.inr (by (show some (Res.box _) = some (Res.box _); rw [hg1.fin hl (by omega)]; done)), ⟨.inl rfl, trivial⟩⟩) (boxOK rfl)
        all_goals (first | (rw [hg1.none hl (by omega) (by assumption)]; first | done | rfl) | (rw [hg1.bad hl (by omega) (by assumption) (by assumption) (by assumption)]; first | done | rfl) | (rw [hg1.fin hl (by omega), if_neg (by rw [nodup_app hg2.1 (by assumption)]; simp)]; first | done | rfl) | (rw [hg1.fin hl (by omega), if_pos (by have hz := hg2.1; rw [List.append_nil] at hz; rw [← hz]; exact decide_eq_true hg2.2)]; first | done | rfl))
  ·have hopf : okP w ⟨a, k⟩ p = false := by simpa using hop
   have e : scanP w (n + 1) ⟨a, k⟩ p c = (none, c + 1) := by unfold scanP; rw [if_neg h60, if_neg hop]
   rw [e]
   rw [hopf] at hsh
   refine bd Tryz.f220 114 [] [2] fun w0 F0 own kept hk => ?_
   refine Walk.box (id := 3006) .none rfl rfl rfl rfl rfl rfl rfl ?_
   refine Walk.box (id := 3007) .none rfl rfl rfl rfl rfl rfl rfl ?_
   refine ev ?_
   refine ar ?_
   refine Walk.store ty3 .none rfl rfl rfl rfl rfl rfl (by simp) rfl ?_
   refine tv ?_
   refine CWp.regionJ ?_
   refine WRest.join 8 [(34, .d (.bool (false)))] [27, 28, 29, 30, 31, 32, 33] ?_ ?_
   ·
    refine ev ?_
    refine sq (fun h1 h1p h1s => ?_) fun h1 h1p h1s => ?_
    ·try simp only [Q] at h1p
     exact jnb rfl
    ·try simp only [Q] at h1p
     exact jnb rfl
   refine WRest.done ?_
   refine tv ?_
   refine sq (fun h2 h2p h2s => ?_) fun h2 h2p h2s => ?_
   ·try simp only [Q] at h2p
    exact absurd h2 (by simp) --stop
   ·try simp only [Q] at h2p
    refine Walk.call (cr := []) cal273 (hsh) rfl .none rfl rfl (LeL.refl _) trivial rfl rfl rfl ?_
    refine ev ?_
    refine sq (fun h3 h3p h3s => ?_) fun h3 h3p h3s => ?_
    ·try simp only [Q] at h3p
     refine rn [(950, some (.box [.d (.i (c + 1))]))] (r2 rfl rfl) (.tup (.cons (.nild ?_) (.cons (.eqd ?_) .nil))) ⟨rfl, rfl⟩ (SubO.get ⟨.inr (by rfl), ⟨.inl rfl, trivial⟩⟩) (boxOK rfl)
     all_goals (rfl)
    ·try simp only [Q] at h3p
     exact absurd h3 (by simp) --stop
end Go.Proofs.YtdgknigklgnefaaGreat
namespace Go.Proofs.YtdgknigklgnefaaGreat
open Go
set_option linter.unusedSimpArgs false
set_option linter.unusedVariables false
set_option maxRecDepth 100000
set_option maxHeartbeats 2000000
end Go.Proofs.YtdgknigklgnefaaGreat
namespace Go.Proofs.YtdgknigklgnefaaGreat
open Go
set_option linter.unusedSimpArgs false
set_option linter.unusedVariables false
set_option maxRecDepth 100000
set_option maxHeartbeats 4000000
theorem scan0 (w : List Data) (t : Ty) (p : Pat) : (scanP w 10 t p 0).1.isSome = isP w t p := by
 have h := (scanP_eq w 10 t p 0).1
 rw [h]
 unfold wantP isP
 rw [Int.zero_add]
 split
 ·rename_i hz; rw [hz]; rfl
 ·rename_i hz
  cases hc : (shapeP w 10 t p && (decide ((p.size : Int) ≤ 60) && linP w 10 t p)) with
  | true => exact absurd hc hz
  | false => rfl
theorem impl_patternVars_fn {w : List Data} (hw : WT w) {a k : Int} {p : Pat} (ht : TyIn w.length ⟨a, k⟩) (hok : p.ok) :
  FnD Tryz.prog 144 [.d (encDatas w), .agg [.d (.i a), .d (.i k)], .agg [.d (.i p.op), .d (.i p.ctor), .d (.i p.n), .d (.i p.m), .d (.i p.var), .d (encPats p.kids)]] [] (.tup [.d (encVts (someV (scanP w 10 ⟨a, k⟩ p 0).1)), .d (.bool (isP w ⟨a, k⟩ p))]) [] := by
 rw [← scan0]
 refine bd Tryz.f144 15 [] [] fun w0 F0 own kept hk => ?_
 refine Walk.box (id := 3004) .none rfl rfl rfl rfl rfl rfl rfl ?_
 refine Walk.box (id := 3005) .none rfl rfl rfl rfl rfl rfl rfl ?_
 refine ev ?_
 refine Walk.alloc (id := 950) tz3 rfl .none rfl rfl rfl rfl ?_
 refine Walk.store ty3 .none rfl rfl rfl rfl rfl rfl (by simp) rfl ?_
 refine tv ?_
 refine Walk.call (cr := []) cal220 (impl_patternScan_fn hw 10 (c := 0) (by omega) (by omega) ht hok (by omega) (by omega)) rfl .none rfl rfl (LeL.refl _) ⟨rfl, trivial⟩ rfl rfl rfl ?_
 refine ev ?_
 refine rn0 (r2 rfl rfl) (.tup (.cons (.eqd ?_) (.cons (.eqd ?_) .nil)))
 all_goals (rfl)
end Go.Proofs.YtdgknigklgnefaaGreat
namespace Go.Proofs.YtdgknigklgnefaaGreat
open Go
set_option linter.unusedSimpArgs false
set_option linter.unusedVariables false
set_option maxRecDepth 100000
set_option maxHeartbeats 2000000
structure PKids (w : List Data) (n : Nat) (a k k' : Int) (p : Pat) : Prop where
 len5 : p.op = 5 → p.kids.length = 2
 len6 : p.op = 6 → p.kids.length = 1
 len4 : p.op = 4 → p.kids.length = (argsOf w ⟨a, k⟩ p.ctor).length
 one : p.op = 5 ∨ p.op = 6 → shapeP w n ⟨a, k'⟩ (nth p.kids 0) = true
 two : p.op = 5 → shapeP w n ⟨a, k'⟩ (nth p.kids 1) = true
 arg : p.op = 4 → ∀ i, i < (argsOf w ⟨a, k⟩ p.ctor).length → shapeP w n ⟨(nth (argsOf w ⟨a, k⟩ p.ctor) i).data, (nth (argsOf w ⟨a, k'⟩ p.ctor) i).index⟩ (nth p.kids i) = true
 mem : p.op = 4 → p.ctor ∈ vctors w ⟨a, k'⟩
 ops : p.op = 1 ∨ p.op = 2 ∨ (p.op = 3 ∧ a = -1) ∨ p.op = 4 ∨ p.op = 5 ∨ p.op = 6
theorem tv_facts {w : List Data} {a k : Int} (h : typeValid w ⟨a, k⟩ = true) : worldValid w = true ∧ TyIn w.length ⟨a, k⟩ ∧ (a ≠ -1 → 0 ≤ a ∧ a.toNat < w.length ∧ 0 ≤ k ∧ k ≤ 3) := by
 unfold typeValid at h
 rw [Bool.and_eq_true] at h
 obtain ⟨h1, h2⟩ := h
 simp only [typeOk, within, Bool.or_eq_true, Bool.and_eq_true, decide_eq_true_eq, and_true] at h2
 refine ⟨h1, ?_, fun ha => by omega⟩
 rcases h2 with h | h
 ·exact .inl h.1
 ·exact .inr ⟨a.toNat, by simp only; omega, by omega⟩
structure PVal (w : List Data) (a k : Int) (p : Pat) : Prop where
 dp : Dp w
 tin : TyIn w.length ⟨a, k⟩
 shape : shapeP w 10 ⟨a, k⟩ p = true
 rng : a ≠ -1 → 0 ≤ a ∧ a.toNat < w.length ∧ 0 ≤ k ∧ k ≤ 3
theorem spec_TypeValid_v {w : List Data} {a b : Int} (hs : WSmall w) : FnD Tryz.prog 172 [.d (encDatas w), .agg [.d (.i a), .d (.i b)]] [] (.d (.bool (typeValid w ⟨a, b⟩))) [] := by
 rw [← spec_tv]; exact spec_TypeValid_fn hs
theorem all2_mem {α β : Type} [Inhabited α] [Inhabited β] {f : α → β → Bool} {a : List α} {b : List β} (hl : a.length = b.length) (h : all2 f a b = true) : ∀ i, i < a.length → f (nth a i) (nth b i) = true := fun i hi => by
 cases hf : f (nth a i) (nth b i) with
 | true => rfl
 | false => rw [all2_nth_false hi hl hf] at h; exact absurd h (by simp)
mutual
theorem valEq_refl : ∀ v : Val, valEq v v = true
 | .mk _ _ ks => by simp [valEq, valsEq_refl ks]
theorem valsEq_refl : ∀ l : List Val, valsEq l l = true
 | [] => rfl
 | v :: r => by simp [valsEq, valEq_refl v, valsEq_refl r]
end
theorem own_vals_cons (m : Bool) (y : Val) (rest : List Val) : ownCells m (Val.cs (y :: rest)) = .d (.i y.ctor) :: .d (.i y.num) :: .own m (encVals y.kids) :: ownCells m (Val.cs rest) := by
 cases y; rfl
theorem own_vals_snoc (m : Bool) (l : List Val) (y : Val) : ownCells m (Val.cs (l ++ [y])) = ownCells m (Val.cs l) ++ [.d (.i y.ctor), .d (.i y.num), .own m (encVals y.kids)] := by
 rw [Val.cs_eq, List.map_append, ← Val.cs_eq, ownCells_append]
 congr 1
 cases y; rfl
theorem Val.c_len (v : Val) : v.c.length = 3 := by cases v; rfl
theorem Val.cs_rows {l : List Val} : ∀ x, x ∈ Val.cs l → x.length = 3 := by
 intro x hx
 rw [Val.cs_eq] at hx
 obtain ⟨y, _, rfl⟩ := List.mem_map.1 hx
 exact y.c_len
theorem Val.cs_nil (l : List Val) : Val.cs l = [] ↔ l = [] := by rw [Val.cs_eq]; simp
theorem own_vals_len (m : Bool) (l : List Val) : (ownCells m (Val.cs l)).length = l.length * 3 := by
 rw [ownCells_len (k := 3) Val.cs_rows, Val.cs_len]
mutual
def mVal : Val → Nat
 | .mk _ _ ks => mVals ks
def mVals : List Val → Nat
 | [] => 0
 | v :: r => 1 + mVal v + mVals r
end
theorem mVal_eq (v : Val) : mVal v = mVals v.kids := by cases v; rfl
theorem mVals_eq : ∀ l : List Val, mVals l = l.length + (l.map mVal).sum
 | [] => rfl
 | v :: r => by simp only [mVals, mVals_eq r, List.length_cons, List.map_cons, List.sum_cons]; omega
theorem laws_szValueS_of {l : List Val} {left : Int} (h : l.length ≤ 1000000000000) (k0 : 0 ≤ left) (k1 : left ≤ 1000000000000)
  (hf : ∀ v ∈ l, ∀ q : Int, 0 ≤ q → q ≤ 1000000000000 → FnD Tryz.prog 60 [.agg [.d (.i v.ctor), .d (.i v.num), .d (encVals v.kids)], .d (.i q)] [] (.d (.i (szr q (mVal v)))) []) :
  FnD Tryz.prog 48 [.d (encVals l), .d (.i left)] [] (.d (.i (szr left (mVals l)))) [] := by
 have z := szr_or (left := left) (mVals l)
 rw [mVals_eq] at z ⊢
 refine bd Tryz.f48 27 [] [] fun w0 F0 own kept hk => ?_
 refine ar ?_ (by first | (constructor <;> omega) | (constructor <;> simp [Val.cs_len] <;> omega))
 refine sq (fun h1 h1p h1s => ?_) fun h1 h1p h1s => ?_
 ·try simp only [Q, Val.cs_len] at h1p
  refine rn0 (r1 rfl) (.eqd ?_)
  all_goals (refine congrArg D.i ?_; first | omega | (have e := sum_split (f := mVal) hg1.1; have z3 := szr_or (left := v) (mVal y); simp only [Val.cs_len] at *; omega) | (rw [List.append_nil] at hg1; rw [hg1.1] at hg1; simp only [Val.cs_len] at *; omega) | (simp only [Val.cs_len] at *; omega))
 ·try simp only [Q, Val.cs_len] at h1p
  refine CWp.loopX (ι := List (Val) × List (Val) × (Int)) hk (fun x => [(5, .d (.i (x.1.length : Int))), (1, .d (.i x.2.2))]) [4, 12, 13, 14, 15, 16, 17, 18, 19, 20, 21, 22, 23, 24, 25] (fun x => []) (fun x => x.1 ++ x.2.1 = l ∧ x.2.2 = left - l.length - (x.1.map mVal).sum ∧ 0 ≤ x.2.2) (fun x => x.2.1.length) ([], l, left - l.length) ⟨by simp, by simp, by simp [Val.cs_len] at *; omega⟩ ⟨⟨_, rfl, (LeA.eqi (by first | rfl | (simp; done) | (simp [Val.cs_len]; done)))⟩, ⟨⟨_, rfl, (LeA.eqi (by first | rfl | (simp; done) | (simp [Val.cs_len]; done)))⟩, trivial⟩⟩ trivial (fun x => rfl) (fun x hg1 => ?_)
  obtain ⟨pre, rest, v⟩ := x
  dsimp only at hg1 ⊢
  refine evc [] [] ?_
  refine sq (fun h2 h2p h2s => ?_) fun h2 h2p h2s => ?_
  ·try simp only [Q, Val.cs_len] at h2p
   rcases rest with _ | ⟨y, rest⟩
   ·exfalso; simp_all
   refine Walk.idx sl78 .none rfl rfl rfl rfl (Val.cs_at hg1.1) rfl ?_
   refine ev ?_
   refine Walk.call (cr := []) cal60 (hf y (by rw [← hg1.1]; simp) _ (by omega) (by omega)) rfl .none rfl rfl (LeL.refl _) trivial rfl rfl rfl ?_
   refine ev ?_
   refine sq (fun h3 h3p h3s => ?_) fun h3 h3p h3s => ?_
   ·try simp only [Q, Val.cs_len] at h3p
    refine rn0 (r1 rfl) (.eqd ?_)
    all_goals (refine congrArg D.i ?_; first | omega | (have e := sum_split (f := mVal) hg1.1; have z3 := szr_or (left := v) (mVal y); simp only [Val.cs_len] at *; omega) | (rw [List.append_nil] at hg1; rw [hg1.1] at hg1; simp only [Val.cs_len] at *; omega) | (simp only [Val.cs_len] at *; omega))
   ·try simp only [Q, Val.cs_len] at h3p
    refine ar ?_ (by first | (constructor <;> omega) | (constructor <;> simp [Val.cs_len] <;> omega))
    refine Exists.intro ((pre ++ [y], rest, szr v (mVal y))) ⟨⟨(by have hz := hg1.1; rw [← hz]; simp), (by have e := sum_split (f := mVal) hg1.1; have z3 := szr_or (left := v) (mVal y); simp; omega)⟩, (by simp), Sub.x (by kernel_rfl) (by kernel_rfl) ⟨⟨_, rfl, (LeA.eqi (by first | rfl | (simp; done) | (simp [Val.cs_len]; done)))⟩, ⟨⟨_, rfl, (LeA.eqi (by first | rfl | (simp; done) | (simp [Val.cs_len]; done)))⟩, trivial⟩⟩ (by kernel_rfl) (by kernel_rfl) trivial⟩
  ·try simp only [Q, Val.cs_len] at h2p
   have hrest : rest = [] := by
    rcases rest with _ | ⟨a, b⟩
    ·rfl
    ·exfalso; have hz := congrArg List.length (hg1.1); simp only [List.length_append, List.length_cons, List.length_map] at hz; omega
   subst hrest
   refine rn0 (r1 rfl) (.eqd ?_)
   all_goals (refine congrArg D.i ?_; first | omega | (have e := sum_split (f := mVal) hg1.1; have z3 := szr_or (left := v) (mVal y); simp only [Val.cs_len] at *; omega) | (rw [List.append_nil] at hg1; rw [hg1.1] at hg1; simp only [Val.cs_len] at *; omega) | (simp only [Val.cs_len] at *; omega))
theorem laws_szValue_fn : ∀ (n : Nat) {v : Val} {left : Int}, v.size ≤ n → v.ok → 0 ≤ left → left ≤ 1000000000000 → FnD Tryz.prog 60 [.agg [.d (.i v.ctor), .d (.i v.num), .d (encVals v.kids)], .d (.i left)] [] (.d (.i (szr left (mVal v)))) []
 | 0, v, left, h, _, _, _ => by rw [Val.size_eq] at h; omega
 | n + 1, v, left, h, hok, k0, k1 => by
  rw [Val.size_eq] at h
  rw [Val.ok_iff] at hok
  rw [mVal_eq]
  have z := szr_or (left := left) (mVals v.kids)
  refine bd Tryz.f60 12 [] [] fun w0 F0 own kept hk => ?_
  refine Walk.box (id := 3002) .none rfl rfl rfl rfl rfl rfl rfl ?_
  refine ev ?_
  refine Walk.call (cr := []) cal48 (laws_szValueS_of hok.1 k0 k1 (fun x hx q q0 q1 => laws_szValue_fn n (by have := Vals.size_mem hx; omega) (Vals.ok_mem hok.2 x hx) q0 q1)) rfl .none rfl rfl (LeL.refl _) trivial rfl rfl rfl ?_
  refine ev ?_
  refine sq (fun h1 h1p h1s => ?_) fun h1 h1p h1s => ?_
  ·try simp only [Q] at h1p
   refine rn0 (r1 rfl) (.eqd ?_)
   all_goals (refine congrArg D.i ?_; omega)
  ·try simp only [Q] at h1p
   refine rn0 (r1 rfl) (.eqd ?_)
   all_goals (refine congrArg D.i ?_; omega)
theorem laws_szValueS_fn {l : List Val} {left : Int} (h : l.length ≤ 1000000000000) (hok : Vals.ok l) (k0 : 0 ≤ left) (k1 : left ≤ 1000000000000) :
  FnD Tryz.prog 48 [.d (encVals l), .d (.i left)] [] (.d (.i (szr left (mVals l)))) [] :=
 laws_szValueS_of h k0 k1 (fun x hx q q0 q1 => laws_szValue_fn _ (Nat.le_refl _) (Vals.ok_mem hok x hx) q0 q1)
theorem laws_toValueS_of {l : List Val} (h : l.length ≤ 1000000000000)
  (hf : ∀ v ∈ l, FnD Tryz.prog 62 [.agg [.d (.i v.ctor), .d (.i v.num), .d (encVals v.kids)]] [] (.agg [.d (.i v.ctor), .d (.i v.num), .ms 64 v.kids.length]) [(64, some (.tree (ownCells false (Val.cs v.kids))))]) :
  FnD Tryz.prog 50 [.d (encVals l)] [] (.ms 64 l.length) [(64, some (.tree (ownCells false (Val.cs l))))] := by
 have hf2 : ∀ v ∈ l, FnD Tryz.prog 62 [.agg [.d (.i v.ctor), .d (.i v.num), .d (encVals v.kids)]] [] (.agg [.d (.i v.ctor), .d (.i v.num), .ms 65 v.kids.length]) [(65, some (.tree (ownCells false (Val.cs v.kids))))] := fun v hv => FnD.out_ren (ownCells_ids _ _) rfl (hf v hv) 65
 refine bd Tryz.f50 23 [] [2, 4] fun w0 F0 own kept hk => ?_
 refine Walk.make (id := 64) sl58 tz65 rfl (by decide) (zerosA_ids rfl) .none rfl rfl rfl (by simp [Val.cs_len]; omega) (by simp [Val.cs_len]; omega) rfl rfl rfl ?_
 refine ev ?_
 refine CWp.boxTree 64 false rfl rfl (zerosA_map _ _ _) ?_
 refine evc [] [] ?_
 refine CWp.loopX (ι := List (Val) × List (Val)) hk (fun x => [(4, .d (.i (x.1.length : Int)))]) [8, 9, 10, 11, 12, 13, 14, 15, 16, 17, 18, 19, 20, 21] (fun x => [(64, some (.tree (ownCells false (Val.cs x.1) ++ zerosA x.2.length [.d (.i 0), .d (.i 0), .own false (.sl [])])))]) (fun x => x.1 ++ x.2 = l) (fun x => x.2.length) ([], l) (by simp) ⟨⟨_, rfl, (LeA.eqi (by first | rfl | (simp; done) | (simp_all; done) | omega))⟩, trivial⟩ ⟨(by first | rfl | (show some (Res.tree _) = some (Res.tree _); rw [own_vals_snoc, List.append_assoc]; rfl) | (show some (Res.tree _) = some (Res.tree _); simp [ownCells_nil, Val.cs_len]; rfl)), trivial⟩ (fun x => rfl) (fun x hg1 => ?_)
 obtain ⟨pre, rest⟩ := x
 dsimp only at hg1 ⊢
 refine evc [] [2, 4] ?_
 refine sq (fun h1 h1p h1s => ?_) fun h1 h1p h1s => ?_
 ·try simp only [Q, Val.cs_len] at h1p
  rcases rest with _ | ⟨y, rest⟩
  ·exfalso; simp_all
  refine Walk.idx sl78 .none rfl rfl rfl rfl (Val.cs_at hg1) rfl ?_
  refine ev ?_
  refine Walk.call (cr := [65]) cal62 (hf2 y (by rw [← hg1]; simp)) rfl .none rfl rfl (LeL.refl _) trivial rfl (by first | rfl | (simp only [okCall, List.all_cons, List.all_nil, entOK, entOK', AV.idsL, AV.ids, idsL_append, ownCells_ids, List.map_cons, List.map_nil]; rfl)) (by first | rfl | (simp only [freshB, occH, occE, Res.ids, List.cons_append, List.nil_append, AV.idsL, AV.ids, idsL_append, ownCells_ids, zerosA_idsR, repNil, List.map_cons, List.map_nil, upC]; rfl)) ?_
  refine Walk.idxM sl58 .none rfl rfl rfl rfl (by first | omega | (simp [Val.cs_len]; omega)) ?_
  refine Walk.storeT ty65 .none rfl rfl rfl rfl rfl rfl (by simp) ((putC_fill (own_vals_len false _) rfl)) ?_
  refine tv ?_
  refine CWp.merge hk 64 (pre.length * 3 + 2) 65 3 _ rfl (cell_off (own_vals_len false _) rfl) (by simp [mkL_len, Val.cs_len]) rfl Val.cs_rows rfl rfl (putC_off (own_vals_len false _) (putC_set rfl)) ?_
  refine evc [] [] ?_
  refine ar ?_
  refine Exists.intro ((pre ++ [y], rest)) ⟨(by have hz := hg1; rw [← hz]; simp), (by simp), Sub.x (by kernel_rfl) (by kernel_rfl) ⟨⟨_, rfl, (LeA.eqi (by first | rfl | (simp; done) | (simp_all; done) | omega))⟩, trivial⟩ (by kernel_rfl) (by kernel_rfl) ⟨(by first | rfl | (show some (Res.tree _) = some (Res.tree _); rw [own_vals_snoc, List.append_assoc]; rfl) | (show some (Res.tree _) = some (Res.tree _); simp [ownCells_nil, Val.cs_len]; rfl)), trivial⟩⟩
 ·try simp only [Q, Val.cs_len] at h1p
  have hrest : rest = [] := by
   rcases rest with _ | ⟨a, b⟩
   ·rfl
   ·exfalso; have hz := congrArg List.length (hg1); simp only [List.length_append, List.length_cons, List.length_map] at hz; omega
  subst hrest
  refine rn [(64, some (.tree (ownCells false (Val.cs l))))] (r1 rfl) (LeA.msn ?_) ⟨rfl, rfl⟩ (SubH.get ⟨(by first | rfl | (rw [List.append_nil] at hg1; subst hg1; show some (Res.tree _) = some (Res.tree _); simp [zerosA]; done)), trivial⟩) (boxOK rfl)
  all_goals (first | rfl | (simp [Val.cs_len]; done))
theorem laws_toValue_tr : ∀ (n : Nat) {v : Val}, v.size ≤ n → v.ok → FnD Tryz.prog 62 [.agg [.d (.i v.ctor), .d (.i v.num), .d (encVals v.kids)]] [] (.agg [.d (.i v.ctor), .d (.i v.num), .ms 64 v.kids.length]) [(64, some (.tree (ownCells false (Val.cs v.kids))))]
 | 0, v, h, _ => by rw [Val.size_eq] at h; omega
 | n + 1, v, h, hok => by
  rw [Val.size_eq] at h
  rw [Val.ok_iff] at hok
  refine bd Tryz.f62 15 [] [] fun w0 F0 own kept hk => ?_
  refine Walk.box (id := 3001) .none rfl rfl rfl rfl rfl rfl rfl ?_
  refine Walk.alloc (id := 3002) tz65 rfl .none rfl rfl rfl rfl ?_
  refine tv ?_
  refine Walk.alloc (id := 3003) tz65 rfl .none rfl rfl rfl rfl ?_
  refine tv ?_
  refine Walk.store ty3 .none rfl rfl rfl rfl rfl rfl (by simp) rfl ?_
  refine tv ?_
  refine Walk.store ty3 .none rfl rfl rfl rfl rfl rfl (by simp) rfl ?_
  refine tv ?_
  refine Walk.call (cr := [64]) cal50 (laws_toValueS_of hok.1 (fun x hx => laws_toValue_tr n (by have := Vals.size_mem hx; omega) (Vals.ok_mem hok.2 x hx))) rfl .none rfl rfl (LeL.refl _) trivial rfl (by first | rfl | (simp only [okCall, List.all_cons, List.all_nil, entOK, entOK', AV.idsL, AV.ids, idsL_append, ownCells_ids, List.map_cons, List.map_nil]; rfl)) (by first | rfl | (simp only [freshB, occH, occE, Res.ids, List.cons_append, List.nil_append, AV.idsL, AV.ids, idsL_append, ownCells_ids, zerosA_idsR, repNil, List.map_cons, List.map_nil, upC]; rfl)) ?_
  refine ev ?_
  refine Walk.store ty58 .none rfl rfl rfl rfl rfl rfl (by simp) rfl ?_
  refine tv ?_
  refine Walk.store ty65 .none rfl rfl rfl rfl rfl rfl (by simp) rfl ?_
  refine tv ?_
  refine rn [(64, some (.tree (ownCells false (Val.cs v.kids))))] (.cons (.cellA ty65 rfl rfl rfl) .nil) (.agg (.cons (.eqd ?_) (.cons (.eqd ?_) (.cons (LeA.msn ?_) .nil)))) ⟨rfl, rfl⟩ (SubH.get ⟨rfl, trivial⟩) (boxOK rfl)
  all_goals (first | rfl | (simp []; done) | (simp_all; done) | (simp_all; omega) | omega)
theorem laws_toValueS_tr {l : List Val} (h : l.length ≤ 1000000000000) (hok : Vals.ok l) : FnD Tryz.prog 50 [.d (encVals l)] [] (.ms 64 l.length) [(64, some (.tree (ownCells false (Val.cs l))))] :=
 laws_toValueS_of h (fun x hx => laws_toValue_tr _ (Nat.le_refl _) (Vals.ok_mem hok x hx))
theorem laws_toValueS_fn {l : List Val} (h : l.length ≤ 1000000000000) (hok : Vals.ok l) : FnD Tryz.prog 50 [.d (encVals l)] [] (.d (encVals l)) [] :=
 FnD.out_frz (k := 3) Val.cs_rows (by simp [soleN, Val.cs_len]) (laws_toValueS_tr h hok)
theorem laws_eqValueS_of {l m : List Val} (h : l.length ≤ 1000000000000)
  (hf : ∀ a ∈ l, ∀ b : Val, FnD Tryz.prog 65 [.agg [.d (.i a.ctor), .d (.i a.num), .d (encVals a.kids)], .agg [.d (.i b.ctor), .d (.i b.num), .d (encVals b.kids)]] [] (.d (.bool (valEq a b))) []) :
  FnD Tryz.prog 53 [.d (encVals l), .d (encVals m)] [] (.d (.bool (valsEq l m))) [] := by
 refine bd Tryz.f53 27 [] [] fun w0 F0 own kept hk => ?_
 refine sq (fun h1 h1p h1s => ?_) fun h1 h1p h1s => ?_
 ·try simp only [Q, Int.natCast_inj, Val.cs_len] at h1p
  refine rn0 (r1 rfl) (.eqd ?_)
  all_goals (refine congrArg D.bool ?_; first | (refine (valsEq_len ?_).symm; omega) | (refine (valsEq_nth_true (by omega) (fun x hx => hg1.2 x (by omega))).symm) | (refine (valsEq_nth_false (i := i) (by omega) ?_).symm; assumption))
 ·try simp only [Q, Int.natCast_inj, Val.cs_len] at h1p
  refine CWp.loopX (ι := Nat) hk (fun i => [(5, .d (.i (i : Int)))]) [4, 11, 12, 13, 14, 15, 16, 17, 18, 19, 20, 21, 22, 23, 24, 25, 26] (fun i => []) (fun i => i ≤ l.length ∧ ∀ i', i' < i → valEq (nth l i') (nth m i') = true) (fun i => l.length - i) 0 ⟨by omega, fun _ h => absurd h (by omega)⟩ ⟨⟨_, rfl, (LeA.eqi (by first | rfl | (simp; done) | (simp_all; done) | omega))⟩, trivial⟩ trivial (fun x => rfl) (fun i hg1 => ?_)
  refine evc [] [] ?_
  refine sq (fun h2 h2p h2s => ?_) fun h2 h2p h2s => ?_
  ·try simp only [Q, Int.natCast_inj, Val.cs_len] at h2p
   refine Walk.idx sl58 .none rfl rfl rfl rfl (vals_at (by omega)) rfl ?_
   refine evd [] [] ?_
   refine Walk.idx sl58 .none rfl rfl rfl rfl (vals_at (by omega)) rfl ?_
   refine evd [] [] ?_
   refine Walk.call (cr := []) cal65 (hf _ (nth_mem (by omega)) _) rfl .none rfl rfl (LeL.refl _) trivial rfl rfl rfl ?_
   refine evd [] [] ?_
   refine dr ?_
   refine sq (fun h3 h3p h3s => ?_) fun h3 h3p h3s => ?_
   ·try simp only [Q, Int.natCast_inj, Val.cs_len] at h3p
    refine rn0 (r1 rfl) (.eqd ?_)
    all_goals (refine congrArg D.bool ?_; first | (refine (valsEq_len ?_).symm; omega) | (refine (valsEq_nth_true (by omega) (fun x hx => hg1.2 x (by omega))).symm) | (refine (valsEq_nth_false (i := i) (by omega) ?_).symm; assumption))
   ·try simp only [Q, Int.natCast_inj, Val.cs_len] at h3p
    refine ar ?_
    refine Exists.intro (i + 1) ⟨⟨by omega, upto_succ hg1.2 (by assumption)⟩, (by omega), Sub.x (by kernel_rfl) (by kernel_rfl) ⟨⟨_, rfl, (LeA.eqi (by first | rfl | (simp; done) | (simp_all; done) | omega))⟩, trivial⟩ (by kernel_rfl) (by kernel_rfl) trivial⟩
  ·try simp only [Q, Int.natCast_inj, Val.cs_len] at h2p
   refine rn0 (r1 rfl) (.eqd ?_)
   all_goals (refine congrArg D.bool ?_; first | (refine (valsEq_len ?_).symm; omega) | (refine (valsEq_nth_true (by omega) (fun x hx => hg1.2 x (by omega))).symm) | (refine (valsEq_nth_false (i := i) (by omega) ?_).symm; assumption))
theorem laws_eqValue_fn : ∀ (n : Nat) {a b : Val}, a.size ≤ n → a.ok → FnD Tryz.prog 65 [.agg [.d (.i a.ctor), .d (.i a.num), .d (encVals a.kids)], .agg [.d (.i b.ctor), .d (.i b.num), .d (encVals b.kids)]] [] (.d (.bool (valEq a b))) []
 | 0, a, b, h, _ => by rw [Val.size_eq] at h; omega
 | n + 1, a, b, h, hok => by
  rw [Val.size_eq] at h
  rw [Val.ok_iff] at hok
  rw [valEq_eq]
  refine bd Tryz.f65 21 [] [] fun w0 F0 own kept hk => ?_
  refine Walk.box (id := 3002) .none rfl rfl rfl rfl rfl rfl rfl ?_
  refine Walk.box (id := 3003) .none rfl rfl rfl rfl rfl rfl rfl ?_
  refine ev ?_
  refine sq (fun h1 h1p h1s => ?_) fun h1 h1p h1s => ?_
  ·try simp only [Q] at h1p
   refine rn0 (r1 rfl) (.eqd ?_)
   all_goals (refine congrArg D.bool ?_; simp [h1s, h1p])
  ·try simp only [Q] at h1p
   refine sq (fun h2 h2p h2s => ?_) fun h2 h2p h2s => ?_
   ·try simp only [Q] at h2p
    refine rn0 (r1 rfl) (.eqd ?_)
    all_goals (refine congrArg D.bool ?_; simp [h1s, h1p, h2s, h2p])
   ·try simp only [Q] at h2p
    refine Walk.call (cr := []) cal53 (laws_eqValueS_of hok.1 (fun x hx y => laws_eqValue_fn n (by have := Vals.size_mem hx; omega) (Vals.ok_mem hok.2 x hx))) rfl .none rfl rfl (LeL.refl _) trivial rfl rfl rfl ?_
    refine ev ?_
    refine sq (fun h3 h3p h3s => ?_) fun h3 h3p h3s => ?_
    ·try simp only [Q] at h3p
     refine rn0 (r1 rfl) (.eqd ?_)
     all_goals (refine congrArg D.bool ?_; simp [h1s, h1p, h2s, h2p, h3s, h3p])
    ·try simp only [Q] at h3p
     refine rn0 (r1 rfl) (.eqd ?_)
     all_goals (refine congrArg D.bool ?_; simp [h1s, h1p, h2s, h2p, h3s, h3p])
mutual
def Val.szM : Val → Int
 | .mk _ _ ks => 2 + Vals.szM ks
def Vals.szM : List Val → Int
 | [] => 0
 | v :: r => v.szM + Vals.szM r
end
mutual
def Val.one (k : Int) : Val → Val
 | .mk _ _ ks => .mk k (k + 1) (Vals.one (k + 1 + 1) ks)
def Vals.one (k : Int) : List Val → List Val
 | [] => []
 | v :: r => v.one k :: Vals.one (k + v.szM) r
end
theorem Vals.szM_eq : ∀ l : List Val, Vals.szM l = szL Val.szM l
 | [] => rfl
 | v :: r => by simp only [Vals.szM, szL, Vals.szM_eq r]
theorem Vals.one_eq : ∀ (l : List Val) (k : Int), Vals.one k l = mkL Val.one Val.szM k l
 | [], _ => rfl
 | v :: r, k => by simp only [Vals.one, mkL, Vals.one_eq r]
theorem Val.szM_kids (v : Val) : v.szM = 2 + szL Val.szM v.kids := by cases v; simp only [Val.szM, Val.kids, Vals.szM_eq]
theorem Val.one_kids (v : Val) (k : Int) : (v.one k).kids = mkL Val.one Val.szM (k + 1 + 1) v.kids := by cases v; simp only [Val.one, Val.kids, Vals.one_eq]
theorem Val.one_sc (v : Val) (k : Int) : (Val.one k v).ctor = k ∧ (Val.one k v).num = k + 1 := by cases v; exact ⟨rfl, rfl⟩
mutual
theorem Val.szM_nn : ∀ v : Val, 0 ≤ v.szM
 | .mk _ _ ks => by have := Vals.szM_nn ks; simp only [Val.szM]; omega
theorem Vals.szM_nn : ∀ l : List Val, 0 ≤ Vals.szM l
 | [] => by simp [Vals.szM]
 | v :: r => by have := Val.szM_nn v; have := Vals.szM_nn r; simp only [Vals.szM]; omega
end
mutual
theorem Val.szM_le : ∀ v : Val, v.szM ≤ 2 + 2 * (mVal v : Int)
 | .mk _ _ ks => by have := Vals.szM_le ks; simp only [Val.szM, mVal]; omega
theorem Vals.szM_le : ∀ l : List Val, Vals.szM l ≤ 2 * (mVals l : Int)
 | [] => by simp [Vals.szM, mVals]
 | v :: r => by have := Val.szM_le v; have := Vals.szM_le r; simp only [Vals.szM, mVals]; omega
end
theorem laws_markValueS_nil {l : List Val} {k : Int} (hl : l = []) : FnD Tryz.prog 54 [.d (.sl []), .d (.i k)] [] (.d (.i (k + szL Val.szM l))) [] := by
 subst hl
 refine bd Tryz.f54 34 [] [] fun w0 F0 own kept hk => ?_
 refine CWp.loopX (ι := Unit) hk (fun x => [(5, .d (.i 0)), (1, .d (.i k))]) [6, 7, 8, 9, 10, 11, 12, 13, 14, 15, 16, 17, 18, 19, 20, 21, 22, 23, 24, 25, 26, 27, 28, 29, 30, 31, 32] (fun x => []) (fun x => True) (fun x => 0) () trivial ⟨⟨_, rfl, (LeA.eqi (by first | rfl | (simp; done) | (simp_all; done) | omega))⟩, ⟨⟨_, rfl, (LeA.eqi (by first | rfl | (simp; done) | (simp_all; done) | omega))⟩, trivial⟩⟩ trivial (fun x => rfl) (fun x hg1 => ?_)
 refine evc [] [] ?_
 refine sq (fun h1 h1p h1s => ?_) fun h1 h1p h1s => ?_
 ·try simp only [Q] at h1p
  exfalso; revert h1; simp --stop
 ·try simp only [Q] at h1p
  refine rn0 (r1 rfl) (.eqd ?_)
  all_goals (first | rfl | (simp [szL]; done))
theorem markValueS_ren {n : Nat} {k : Int} {r : D} {xs ys : List (List D)} (h : FnD Tryz.prog 54 [.ms 44 n, .d (.i k)] [(44, some (.tree (ownCells false xs)))] (.d r) [(44, some (.tree (ownCells false ys)))]) :
  FnD Tryz.prog 54 [.ms 45 n, .d (.i k)] [(45, some (.tree (ownCells false xs)))] (.d r) [(45, some (.tree (ownCells false ys)))] := FnD.ren rfl (ownCells_ids _ _) (ownCells_ids _ _) h 45
theorem laws_markValueS_tr : ∀ (n : Nat) {l : List Val} {k : Int}, Vals.size l ≤ n → 0 < k → k + szL Val.szM l ≤ 1000000000000 → l.length ≤ 1000000000000 → Vals.ok l → FnD Tryz.prog 54 [.ms 44 l.length, .d (.i k)] [(44, some (.tree (ownCells false (Val.cs l))))]
  (.d (.i (k + szL Val.szM l))) [(44, some (.tree (ownCells false (Val.cs (mkL Val.one Val.szM k l)))))] := by
 intro n
 induction n with
 | zero =>
  intro l k h h0 h1 hl hok
  have hl0 : l = [] := by
   cases l with
   | nil => rfl
   | cons v r => simp only [Vals.size, Val.size_eq] at h; omega
  subst hl0
  refine bd Tryz.f54 34 [] [] fun w0 F0 own kept hk => ?_
  refine CWp.loopX (ι := Unit) hk (fun x => [(5, .d (.i 0)), (1, .d (.i k))]) [6, 7, 8, 9, 10, 11, 12, 13, 14, 15, 16, 17, 18, 19, 20, 21, 22, 23, 24, 25, 26, 27, 28, 29, 30, 31, 32] (fun x => []) (fun x => True) (fun x => 0) () trivial ⟨⟨_, rfl, (LeA.eqi (by first | rfl | (simp; done) | (simp_all; done) | omega))⟩, ⟨⟨_, rfl, (LeA.eqi (by first | rfl | (simp; done) | (simp_all; done) | omega))⟩, trivial⟩⟩ trivial (fun x => rfl) (fun x hg1 => ?_)
  refine evc [] [] ?_
  refine sq (fun h1 h1p h1s => ?_) fun h1 h1p h1s => ?_
  ·try simp only [Q] at h1p
   exfalso; revert h1; simp --stop
  ·try simp only [Q] at h1p
   refine rn [(44, some (.tree (ownCells false (Val.cs (mkL Val.one Val.szM k []))))) ] (r1 rfl) (.eqd ?_) ⟨rfl, rfl⟩ (SubO.get ⟨.inr (by rfl), ⟨.inl rfl, trivial⟩⟩) (boxOK rfl)
   all_goals (first | rfl | (simp [szL]; done))
 | succ n ih =>
  intro l k h h0 h1 hl hok
  refine bd Tryz.f54 34 [30] [3, 8, 1000009] fun w0 F0 own kept hk => ?_
  refine CWp.loopX (ι := List (Val) × List (Val) × (Int)) hk (fun x => [(5, .d (.i (x.1.length : Int))), (1, .d (.i x.2.2))]) [6, 7, 8, 9, 10, 11, 12, 13, 14, 15, 16, 17, 18, 19, 20, 21, 22, 23, 24, 25, 26, 27, 28, 29, 30, 31, 32] (fun x => [(44, some (.tree (ownCells false (Val.cs (mkL Val.one Val.szM k x.1)) ++ ownCells false (Val.cs x.2.1))))]) (fun x => x.1 ++ x.2.1 = l ∧ x.2.2 = k + szL Val.szM x.1) (fun x => x.2.1.length) ([], l, k) ⟨by simp, by simp [szL]⟩ ⟨⟨_, rfl, (LeA.eqi (by first | rfl | (simp; done) | omega | (refine Eq.trans (b := v + Val.szM y) ?_ rfl; omega)))⟩, ⟨⟨_, rfl, (LeA.eqi (by first | rfl | (simp; done) | omega | (refine Eq.trans (b := v + Val.szM y) ?_ rfl; omega)))⟩, trivial⟩⟩ ⟨(by first | rfl | (show some (Res.tree _) = some (Res.tree _); rw [mkL_snoc, own_vals_snoc, ← hg1.2, Val.one_kids]; simp only [Val.one_sc y v, List.append_assoc, List.cons_append, List.nil_append])), trivial⟩ (fun x => rfl) (fun x hg1 => ?_)
  obtain ⟨pre, rest, v⟩ := x
  dsimp only at hg1 ⊢
  refine evc [30] [3, 8, 1000009] ?_
  refine cq (fun h1 h1p h1s => ?_) fun h1 h1p h1s => ?_
  ·try simp only [Q] at h1p
   rcases rest with _ | ⟨y, rest⟩
   ·exfalso; simp_all
   have hsp := szL_split (sz := Val.szM) hg1.1; have hnn := szL_nonneg (l := rest) Val.szM_nn; have hnp := szL_nonneg (l := pre) Val.szM_nn; have hys := Val.szM_kids y; have hya := szL_nonneg (l := y.kids) Val.szM_nn; have hv := hg1.2
   refine CWp.reTree 44 (ownCells false (Val.cs (mkL Val.one Val.szM k pre)) ++ (.d (.i y.ctor) :: .d (.i y.num) :: .own false (encVals y.kids) :: ownCells false (Val.cs rest))) rfl (by rw [own_vals_cons]) ?_
   refine evc [30] [3, 8, 1000009] ?_
   refine Walk.idxM sl58 .none rfl rfl rfl rfl (by first | omega | (simp [Val.cs_nil, Val.cs_len, Val.cs]; omega)) ?_
   refine evs [30] [] ?_
   refine Walk.storeT ty3 .none rfl rfl rfl rfl rfl rfl (by simp) ((putC_off ((own_vals_len false _).trans (by rw [mkL_len])) putC_c0)) ?_
   refine tv ?_
   refine ar ?_
   refine Walk.idxM sl58 .none rfl rfl rfl rfl (by first | omega | (simp [Val.cs_nil, Val.cs_len, Val.cs]; omega)) ?_
   refine evs [30] [] ?_
   refine Walk.storeT ty3 .none rfl rfl rfl rfl rfl rfl (by simp) ((putC_off ((own_vals_len false _).trans (by rw [mkL_len])) putC_c1)) ?_
   refine tv ?_
   refine ar ?_
   by_cases hs2 : y.kids = []
   ·refine CWp.emptyCell 44 (pre.length * 3 + 2) rfl (cell_off ((own_vals_len false _).trans (by rw [mkL_len])) rfl) (by simp [hs2, Val.cs_nil, Val.cs_len, Val.cs]) (putC_off ((own_vals_len false _).trans (by rw [mkL_len])) putC_c2) ?_
    refine evc [30] [] ?_
    refine Walk.idxM sl58 .none rfl rfl rfl rfl (by first | omega | (simp [Val.cs_nil, Val.cs_len, Val.cs]; omega)) ?_
    refine evs [30] [] ?_
    refine Walk.loadT ty58 .none rfl rfl rfl ((by rw [cell_off ((own_vals_len false _).trans (by rw [mkL_len])) rfl]; rfl)) ?_
    refine evs [30] [] ?_
    refine Walk.call (cr := []) cal54 (laws_markValueS_nil hs2) rfl .none rfl rfl (LeL.refl _) trivial rfl (by first | rfl | (simp only [okCall, List.all_cons, List.all_nil, entOK, entOK', AV.idsL, AV.ids, idsL_append, ownCells_ids, List.map_cons, List.map_nil]; rfl)) (by first | rfl | (simp only [freshB, occH, occE, Res.ids, List.cons_append, List.nil_append, AV.idsL, AV.ids, idsL_append, ownCells_ids, zerosA_idsR, repNil, List.map_cons, List.map_nil, upC]; rfl)) ?_
    refine evs [30] [] ?_
    refine CWp.fullCell 44 (pre.length * 3 + 2) false rfl (xs := Val.cs (mkL Val.one Val.szM (v + 1 + 1) y.kids)) rfl (cell_off ((own_vals_len false _).trans (by rw [mkL_len])) rfl) (by simp [hs2, mkL, Val.cs]) (putC_off ((own_vals_len false _).trans (by rw [mkL_len])) putC_c2) ?_
    refine evc [30] [] ?_
    refine ar ?_
    refine Exists.intro ((pre ++ [y], rest, v + Val.szM y)) ⟨⟨(by have hz := hg1.1; rw [← hz]; simp), (by show v + Val.szM y = _; rw [szL_snoc, hg1.2]; omega)⟩, (by simp), Sub.x (by kernel_rfl) (by kernel_rfl) ⟨⟨_, rfl, (LeA.eqi (by first | rfl | (simp; done) | omega | (refine Eq.trans (b := v + Val.szM y) ?_ rfl; omega)))⟩, ⟨⟨_, rfl, (LeA.eqi (by first | rfl | (simp; done) | omega | (refine Eq.trans (b := v + Val.szM y) ?_ rfl; omega)))⟩, trivial⟩⟩ (by kernel_rfl) (by kernel_rfl) ⟨(by first | rfl | (show some (Res.tree _) = some (Res.tree _); rw [mkL_snoc, own_vals_snoc, ← hg1.2, Val.one_kids]; simp only [Val.one_sc y v, List.append_assoc, List.cons_append, List.nil_append])), trivial⟩⟩
   ·refine CWp.split 44 (pre.length * 3 + 2) 45 rfl (cell_off ((own_vals_len false _).trans (by rw [mkL_len])) rfl) (by simp [hs2, Val.cs_nil, Val.cs_len, Val.cs]) (by first | rfl | (simp only [freshB, occH, occE, Res.ids, List.cons_append, List.nil_append, AV.idsL, AV.ids, idsL_append, ownCells_ids, zerosA_idsR, repNil, List.map_cons, List.map_nil, upC]; rfl)) (putC_off ((own_vals_len false _).trans (by rw [mkL_len])) putC_c2) ?_
    refine evc [30] [] ?_
    refine Walk.idxM sl58 .none rfl rfl rfl rfl (by first | omega | (simp [Val.cs_nil, Val.cs_len, Val.cs]; omega)) ?_
    refine evs [30] [] ?_
    refine Walk.loadT ty58 .none rfl rfl rfl ((by rw [cell_off ((own_vals_len false _).trans (by rw [mkL_len])) rfl]; rfl)) ?_
    refine evs [30] [] ?_
    refine Walk.call (cr := []) cal54 (markValueS_ren (ih (l := y.kids) (k := v + 1 + 1) (by have hm := Vals.size_mem (v := y) (l := l) (by rw [← hg1.1]; simp); rw [Val.size_eq] at hm; omega) (by omega) (by omega) ((Val.ok_iff y).1 (Vals.ok_mem hok y (by rw [← hg1.1]; simp))).1 ((Val.ok_iff y).1 (Vals.ok_mem hok y (by rw [← hg1.1]; simp))).2)) rfl .none rfl rfl (.cons (LeA.msn (by first | rfl | (simp [Val.cs_nil, Val.cs_len, Val.cs]; done))) (.cons (.refl _) .nil)) ⟨by first | rfl | (simp; rfl), trivial⟩ rfl (by first | rfl | (simp only [okCall, List.all_cons, List.all_nil, entOK, entOK', AV.idsL, AV.ids, idsL_append, ownCells_ids, List.map_cons, List.map_nil]; rfl)) (by first | rfl | (simp only [freshB, occH, occE, Res.ids, List.cons_append, List.nil_append, AV.idsL, AV.ids, idsL_append, ownCells_ids, zerosA_idsR, repNil, List.map_cons, List.map_nil, upC]; rfl)) ?_
    refine evs [30] [] ?_
    refine CWp.merge hk 44 (pre.length * 3 + 2) 45 3 _ rfl (cell_off ((own_vals_len false _).trans (by rw [mkL_len])) rfl) (by simp [mkL_len, Val.cs_nil, Val.cs_len, Val.cs]) rfl Val.cs_rows rfl rfl (putC_off ((own_vals_len false _).trans (by rw [mkL_len])) putC_c2) ?_
    refine evc [30] [] ?_
    refine ar ?_
    refine Exists.intro ((pre ++ [y], rest, v + Val.szM y)) ⟨⟨(by have hz := hg1.1; rw [← hz]; simp), (by show v + Val.szM y = _; rw [szL_snoc, hg1.2]; omega)⟩, (by simp), Sub.x (by kernel_rfl) (by kernel_rfl) ⟨⟨_, rfl, (LeA.eqi (by first | rfl | (simp; done) | omega | (refine Eq.trans (b := v + Val.szM y) ?_ rfl; omega)))⟩, ⟨⟨_, rfl, (LeA.eqi (by first | rfl | (simp; done) | omega | (refine Eq.trans (b := v + Val.szM y) ?_ rfl; omega)))⟩, trivial⟩⟩ (by kernel_rfl) (by kernel_rfl) ⟨(by first | rfl | (show some (Res.tree _) = some (Res.tree _); rw [mkL_snoc, own_vals_snoc, ← hg1.2, Val.one_kids]; simp only [Val.one_sc y v, List.append_assoc, List.cons_append, List.nil_append])), trivial⟩⟩
  ·try simp only [Q] at h1p
   have hrest : rest = [] := by
    rcases rest with _ | ⟨a, b⟩
    ·rfl
    ·exfalso; have hz := congrArg List.length (hg1.1); simp only [List.length_append, List.length_cons, List.length_map] at hz; omega
   subst hrest
   refine evc [30] [3, 8, 1000009] ?_
   refine rn [(44, some (.tree (ownCells false (Val.cs (mkL Val.one Val.szM k l)))))] (r1 rfl) (.eqd ?_) ⟨rfl, rfl⟩ (SubO.get ⟨.inr (by first | rfl | (obtain ⟨hg1, _⟩ := hg1; rw [List.append_nil] at hg1; subst hg1; show some (Res.tree _) = some (Res.tree _); simp [ownCells_nil, Val.cs]; done)), ⟨.inl rfl, trivial⟩⟩) (boxOK rfl)
   all_goals (first | rfl | (obtain ⟨hg1, hv⟩ := hg1; rw [List.append_nil] at hg1; subst hg1; rw [hv]))
def fitsV (w : List Data) : Nat → Ty → Val → Bool
 | 0, _, _ => false
 | n + 1, t, v => if t.data = -1 then decide (v.ctor = -1) && (decide (0 ≤ v.num) && (decide (v.num ≤ 9) && decide (v.kids.length = 0)))
   else if v.num = 0 ∧ v.ctor ∈ ctorsOf w t then all2 (fitsV w n) (argsOf w t v.ctor) v.kids else false
def scanL (g : Ty → Val → Int → Bool × Int) : List Ty → List Val → Int → Bool × Int
 | a :: r, b :: s, c => if (g a b c).1 then scanL g r s (g a b c).2 else (false, (g a b c).2)
 | _, _, c => (true, c)
def scanV (w : List Data) : Nat → Ty → Val → Int → Bool × Int
 | 0, _, _, c => (false, c + 1)
 | n + 1, t, v, c => if 60 < c + 1 then (false, c + 1)
   else if t.data = -1 then (decide (v.ctor = -1) && (decide (0 ≤ v.num) && (decide (v.num ≤ 9) && decide (v.kids.length = 0))), c + 1)
   else if v.num = 0 ∧ v.ctor ∈ ctorsOf w t then (if (argsOf w t v.ctor).length = v.kids.length then scanL (scanV w n) (argsOf w t v.ctor) v.kids (c + 1) else (false, c + 1))
   else (false, c + 1)
theorem scanL_eq {w : List Data} {n : Nat} (ih : ∀ t v c, (scanV w n t v c).1 = (fitsV w n t v && decide (c + (v.size : Int) ≤ 60)) ∧ ((scanV w n t v c).1 = true → (scanV w n t v c).2 = c + v.size)) :
  ∀ (a : List Ty) (b : List Val) (c : Int), a.length = b.length → c ≤ 60 → (scanL (scanV w n) a b c).1 = (all2 (fitsV w n) a b && decide (c + (Vals.size b : Int) ≤ 60)) ∧ ((scanL (scanV w n) a b c).1 = true → (scanL (scanV w n) a b c).2 = c + Vals.size b)
 | [], [], c, _, hc => by simp [scanL, all2, Vals.size, hc]
 | x :: r, y :: s, c, hl, hc => by
  obtain ⟨h1, h2⟩ := ih x y c
  simp only [scanL, all2, Vals.size]
  cases hh : (scanV w n x y c).1 with
  | true =>
   have h3 := h2 hh
   rw [hh] at h1
   have h4 := h1.symm
   simp only [Bool.and_eq_true, decide_eq_true_eq] at h4
   obtain ⟨h5, h6⟩ := scanL_eq ih r s (scanV w n x y c).2 (by simpa using hl) (by omega)
   simp only [if_true]
   rw [h5]
   refine ⟨?_, fun hx => ?_⟩
   ·rw [h4.1, h3, Bool.true_and]
    congr 1
    exact decide_eq_decide.2 (by push_cast; omega)
   ·rw [← h5] at hx
    rw [h6 hx, h3]; push_cast; omega
  | false =>
   rw [hh] at h1
   simp only [Bool.false_eq_true, if_false, false_implies, and_true]
   have h4 := h1.symm
   simp only [Bool.and_eq_false_imp, decide_eq_false_iff_not] at h4
   symm
   cases hf : fitsV w n x y with
   | false => simp
   | true =>
    have := h4 hf
    have h7 : ¬ (c + ((y.size + Vals.size s : Nat) : Int) ≤ 60) := by push_cast; omega
    simp only [Bool.and_eq_false_imp]
    intro _; exact decide_eq_false h7
 | [], _ :: _, _, hl, _ => by simp at hl
 | _ :: _, [], _, hl, _ => by simp at hl
theorem Vals.size_nil {l : List Val} (h : l.length = 0) : Vals.size l = 0 := by
 cases l with
 | nil => rfl
 | cons x r => simp at h
theorem scanV_eq (w : List Data) : ∀ (n : Nat) (t : Ty) (v : Val) (c : Int), (scanV w n t v c).1 = (fitsV w n t v && decide (c + (v.size : Int) ≤ 60)) ∧ ((scanV w n t v c).1 = true → (scanV w n t v c).2 = c + v.size)
 | 0, t, v, c => by simp [scanV, fitsV]
 | n + 1, t, v, c => by
  have hsz := Val.size_eq v
  unfold scanV fitsV
  by_cases h1 : 60 < c + 1
  ·rw [if_pos h1]
   simp only [Bool.false_eq_true, false_implies, and_true]
   symm
   simp only [Bool.and_eq_false_imp, decide_eq_false_iff_not]
   intro _; omega
  ·rw [if_neg h1]
   by_cases h2 : t.data = -1
   ·rw [if_pos h2, if_pos h2]
    refine ⟨?_, fun hx => ?_⟩
    ·by_cases hk : v.kids.length = 0
     ·have := Vals.size_nil hk
      have h3 : decide (c + (v.size : Int) ≤ 60) = true := decide_eq_true (by omega)
      rw [h3, Bool.and_true]
     ·simp [hk]
    ·simp only [Bool.and_eq_true, decide_eq_true_eq] at hx
     have := Vals.size_nil hx.2.2.2
     simp only; omega
   ·rw [if_neg h2, if_neg h2]
    by_cases h3 : v.num = 0 ∧ v.ctor ∈ ctorsOf w t
    ·rw [if_pos h3, if_pos h3]
     by_cases h4 : (argsOf w t v.ctor).length = v.kids.length
     ·rw [if_pos h4]
      obtain ⟨h5, h6⟩ := scanL_eq (fun t v c => scanV_eq w n t v c) (argsOf w t v.ctor) v.kids (c + 1) h4 (by omega)
      refine ⟨?_, fun hx => ?_⟩
      ·rw [h5]
       congr 1
       exact decide_eq_decide.2 (by omega)
      ·rw [h6 hx]; omega
     ·rw [if_neg h4, all2_len h4]
      simp
    ·rw [if_neg h3, if_neg h3]
     simp
mutual
def cntV (m : Int) : Val → Int
 | .mk _ _ ks => cntL m 1 ks
def cntL (m n : Int) : List Val → Int
 | [] => n
 | k :: r => if n ≤ m then cntL m (n + cntV (m - n) k) r else n
end
theorem cntV_eq (m : Int) (v : Val) : cntV m v = cntL m 1 v.kids := by cases v; rfl
theorem cntL_stop {m n : Int} {l : List Val} (h : ¬ n ≤ m) : cntL m n l = n := by cases l <;> simp [cntL, h]
mutual
theorem cntV_le : ∀ (v : Val) (m : Int), 1 ≤ cntV m v ∧ cntV m v ≤ v.size
 | .mk _ _ ks, m => by
  have := cntL_le ks m 1 (by omega)
  simp only [cntV, Val.size]; push_cast; omega
theorem cntL_le : ∀ (l : List Val) (m n : Int), 1 ≤ n → 1 ≤ cntL m n l ∧ cntL m n l ≤ n + Vals.size l
 | [], m, n, h => by simp [cntL, Vals.size]; omega
 | k :: r, m, n, h => by
  have h1 := cntV_le k (m - n)
  have h2 := cntL_le r m (n + cntV (m - n) k) (by omega)
  simp only [cntL, Vals.size]
  split
  ·push_cast; omega
  ·push_cast; omega
end
mutual
theorem cntV_iff : ∀ (v : Val) (m : Int), (cntV m v ≤ m ↔ (v.size : Int) ≤ m) ∧ (cntV m v ≤ m → cntV m v = v.size)
 | .mk _ _ ks, m => by
  have := cntL_iff ks m 1
  simp only [cntV, Val.size]; push_cast; exact this
theorem cntL_iff : ∀ (l : List Val) (m n : Int), (cntL m n l ≤ m ↔ n + (Vals.size l : Int) ≤ m) ∧ (cntL m n l ≤ m → cntL m n l = n + Vals.size l)
 | [], m, n => by simp [cntL, Vals.size]
 | k :: r, m, n => by
  have h1 := cntV_iff k (m - n)
  have h2 := cntL_iff r m (n + cntV (m - n) k)
  have h3 := cntL_le r m (n + cntV (m - n) k)
  have h4 := cntV_le k (m - n)
  simp only [cntL, Vals.size]
  push_cast
  by_cases hn : n ≤ m
  ·rw [if_pos hn]
   by_cases h5 : cntV (m - n) k ≤ m - n
   ·have h6 := h1.2 h5
    rw [h6] at h2 ⊢
    constructor
    ·rw [h2.1]; constructor <;> intro h <;> omega
    ·intro h; rw [h2.2 h]; omega
   ·have h7 : ¬ (k.size : Int) ≤ m - n := fun h => h5 (h1.1.2 h)
    have h8 : ¬ n + cntV (m - n) k ≤ m := by omega
    rw [cntL_stop h8]
    constructor
    ·constructor <;> intro h <;> omega
    ·intro h; omega
  ·rw [if_neg hn]
   constructor
   ·constructor <;> intro h <;> omega
   ·intro h; omega
end
theorem Vals.size_split {pre rest l : List Val} {y : Val} (h : pre ++ y :: rest = l) : Vals.size l = Vals.size pre + y.size + Vals.size rest := by
 subst h
 induction pre with
 | nil => simp [Vals.size]
 | cons x r ih => simp only [List.cons_append, Vals.size, ih]; omega
theorem nth_size {l : List Val} {i : Nat} (h : i < l.length) : (nth l i).size ≤ Vals.size l := Vals.size_mem (nth_mem h)
theorem size_drop {l : List Val} {i : Nat} (h : i < l.length) : Vals.size (l.drop i) = (nth l i).size + Vals.size (l.drop (i + 1)) := by
 rw [drop_nth h]; rfl
theorem spec_l2Count_fn : ∀ (n : Nat) {v : Val} {m : Int}, v.size ≤ n → v.size ≤ 1000000000000 → v.ok → 0 ≤ m → m ≤ 1000000000000 → FnD Tryz.prog 197 [.agg [.d (.i v.ctor), .d (.i v.num), .d (encVals v.kids)], .d (.i m)] [] (.d (.i (cntV m v))) []
 | 0, v, m, h, _, _, _, _ => by rw [Val.size_eq] at h; omega
 | n + 1, v, m, h, hb, hok, m0, m1 => by
  rw [Val.size_eq] at h hb
  rw [Val.ok_iff] at hok
  rw [cntV_eq]
  refine bd Tryz.f197 31 [] [] fun w0 F0 own kept hk => ?_
  refine Walk.box (id := 3002) .none rfl rfl rfl rfl rfl rfl rfl ?_
  refine ev ?_
  refine CWp.loopX (ι := Nat × Int) hk (fun x => [(6, .d (.i (x.1 : Int))), (5, .d (.i x.2))]) [7, 8, 9, 10, 11, 12, 13, 14, 15, 16, 17, 18, 19, 20, 21, 22, 23, 24, 25, 26, 27, 28, 29] (fun x => []) (fun x => x.1 ≤ v.kids.length ∧ cntL m x.2 (v.kids.drop x.1) = cntL m 1 v.kids ∧ 1 ≤ x.2 ∧ x.2 + Vals.size (v.kids.drop x.1) ≤ 1 + Vals.size v.kids) (fun x => v.kids.length - x.1) (0, 1) ⟨by simp, by simp, by simp, by simp⟩ ⟨⟨_, rfl, (LeA.eqi (by first | rfl | (simp; done) | (dsimp only; omega)))⟩, ⟨⟨_, rfl, (LeA.eqi (by first | rfl | (simp; done) | (dsimp only; omega)))⟩, trivial⟩⟩ trivial (fun x => rfl) (fun x hg1 => ?_)
  refine evc [] [] ?_
  refine sq (fun h1 h1p h1s => ?_) fun h1 h1p h1s => ?_
  ·try simp only [Q, Val.cs_len] at h1p
   refine sq (fun h2 h2p h2s => ?_) fun h2 h2p h2s => ?_
   ·try simp only [Q, Val.cs_len] at h2p
    refine Walk.idx sl58 .none rfl rfl rfl rfl (vals_at (by omega)) rfl ?_
    refine ev ?_
    refine ar ?_ (by first | (constructor <;> omega) | (have hz := cntV_le (nth v.kids x.1) (m - x.2); have hs := size_drop (l := v.kids) (i := x.1) (by omega); constructor <;> omega) | (constructor <;> simp [Val.cs_len] <;> omega))
    refine Walk.call (cr := []) cal197 (spec_l2Count_fn n (v := nth v.kids x.1) (by have := nth_size (l := v.kids) (i := x.1) (by omega); omega) (by have := nth_size (l := v.kids) (i := x.1) (by omega); omega) (Vals.ok_mem hok.2 _ (nth_mem (by omega))) (by omega) (by omega)) rfl .none rfl rfl (LeL.refl _) trivial rfl rfl rfl ?_
    refine ev ?_
    refine ar ?_ (by first | (constructor <;> omega) | (have hz := cntV_le (nth v.kids x.1) (m - x.2); have hs := size_drop (l := v.kids) (i := x.1) (by omega); constructor <;> omega) | (constructor <;> simp [Val.cs_len] <;> omega))
    refine ar ?_ (by first | (constructor <;> omega) | (have hz := cntV_le (nth v.kids x.1) (m - x.2); have hs := size_drop (l := v.kids) (i := x.1) (by omega); constructor <;> omega) | (constructor <;> simp [Val.cs_len] <;> omega))
    refine Exists.intro ((x.1 + 1, x.2 + cntV (m - x.2) (nth v.kids x.1))) ⟨(by
        have hz := cntV_le (nth v.kids x.1) (m - x.2)
        have hs := size_drop (l := v.kids) (i := x.1) (by omega)
        refine ⟨by dsimp only; omega, ?_, by dsimp only; omega, by dsimp only; omega⟩
        rw [← hg1.2.1, drop_nth (l := v.kids) (i := x.1) (by omega), cntL, if_pos (by omega)]), (by dsimp only; omega), Sub.x (by kernel_rfl) (by kernel_rfl) ⟨⟨_, rfl, (LeA.eqi (by first | rfl | (simp; done) | (dsimp only; omega)))⟩, ⟨⟨_, rfl, (LeA.eqi (by first | rfl | (simp; done) | (dsimp only; omega)))⟩, trivial⟩⟩ (by kernel_rfl) (by kernel_rfl) trivial⟩
   ·try simp only [Q, Val.cs_len] at h2p
    refine rn0 (r1 rfl) (.eqd ?_)
    all_goals (refine congrArg D.i ?_; rw [← hg1.2.1]; first | (rw [List.drop_eq_nil_of_le (by omega)]; rfl) | (rw [cntL_stop (by omega)]))
  ·try simp only [Q, Val.cs_len] at h1p
   refine sqF ?_
   refine rn0 (r1 rfl) (.eqd ?_)
   all_goals (refine congrArg D.i ?_; rw [← hg1.2.1]; first | (rw [List.drop_eq_nil_of_le (by omega)]; rfl) | (rw [cntL_stop (by omega)]))
theorem spec_l2Fits_fn {w : List Data} (hw : WT w) : ∀ (n : Nat) {a k m : Int} {v : Val}, m = n → n ≤ 1000 → TyIn w.length ⟨a, k⟩ → v.ok →
  FnD Tryz.prog 196 [.d (encDatas w), .agg [.d (.i a), .d (.i k)], .agg [.d (.i v.ctor), .d (.i v.num), .d (encVals v.kids)], .d (.i m)] [] (.d (.bool (fitsV w n ⟨a, k⟩ v))) []
 | 0, a, k, m, v, hm, _, _, _ => by
  refine bd Tryz.f196 78 [] [] fun w0 F0 own kept hk => ?_
  refine Walk.box (id := 3005) .none rfl rfl rfl rfl rfl rfl rfl ?_
  refine Walk.box (id := 3006) .none rfl rfl rfl rfl rfl rfl rfl ?_
  refine ev ?_
  refine sq (fun h1 h1p h1s => ?_) fun h1 h1p h1s => ?_
  ·try simp only [Q] at h1p
   refine rn0 (r1 rfl) (.eqd ?_)
   all_goals (rfl)
  ·try simp only [Q] at h1p
   exfalso; simp at h1; omega --stop
 | n + 1, a, k, m, v, hm, hn, ht, hok => by
  rcases ht with ha | ⟨d, hd, hlt⟩
  ·have ha' : a = -1 := ha
   subst ha'
   refine bd Tryz.f196 78 [] [] fun w0 F0 own kept hk => ?_
   refine Walk.box (id := 3005) .none rfl rfl rfl rfl rfl rfl rfl ?_
   refine Walk.box (id := 3006) .none rfl rfl rfl rfl rfl rfl rfl ?_
   refine ev ?_
   refine sq (fun h1 h1p h1s => ?_) fun h1 h1p h1s => ?_
   ·try simp only [Q] at h1p
    exfalso; simp at h1; omega --stop
   ·try simp only [Q] at h1p
    refine sq (fun h2 h2p h2s => ?_) fun h2 h2p h2s => ?_
    ·try simp only [Q] at h2p
     refine sq (fun h3 h3p h3s => ?_) fun h3 h3p h3s => ?_
     ·try simp only [Q] at h3p
      refine sq (fun h4 h4p h4s => ?_) fun h4 h4p h4s => ?_
      ·try simp only [Q] at h4p
       refine sq (fun h5 h5p h5s => ?_) fun h5 h5p h5s => ?_
       ·try simp only [Q] at h5p
        refine rn0 (r1 rfl) (.eqd ?_)
        all_goals (refine congrArg D.bool ?_; simp [fitsV, Val.cs_len, h1s, h1p, h2s, h2p, h3s, h3p, h4s, h4p, h5s, h5p])
       ·try simp only [Q] at h5p
        refine rn0 (r1 rfl) (.eqd ?_)
        all_goals (refine congrArg D.bool ?_; simp [fitsV, Val.cs_len, h1s, h1p, h2s, h2p, h3s, h3p, h4s, h4p, h5s, h5p])
      ·try simp only [Q] at h4p
       refine sqF ?_
       refine rn0 (r1 rfl) (.eqd ?_)
       all_goals (refine congrArg D.bool ?_; simp [fitsV, Val.cs_len, h1s, h1p, h2s, h2p, h3s, h3p, h4s, h4p])
     ·try simp only [Q] at h3p
      refine sqF ?_
      refine sqF ?_
      refine rn0 (r1 rfl) (.eqd ?_)
      all_goals (refine congrArg D.bool ?_; simp [fitsV, Val.cs_len, h1s, h1p, h2s, h2p, h3s, h3p])
    ·try simp only [Q] at h2p
     exact absurd h2 (by simp) --stop
  have hd' : a = (d : Int) := hd
  subst hd'
  have hok' := hok
  rw [Val.ok_iff] at hok
  have hcl := ctorsOf_len hw (d := d) (k := k)
  have hdn : ¬ (d : Int) = -1 := by omega
  by_cases hv : v.num = 0 ∧ v.ctor ∈ ctorsOf w ⟨d, k⟩
  ·have hal := argsOf_len hw hlt (k := k) (place_of (k := k) (c := v.ctor) hv.2)
   refine bd Tryz.f196 78 [] [] fun w0 F0 own kept hk => ?_
   refine Walk.box (id := 3005) .none rfl rfl rfl rfl rfl rfl rfl ?_
   refine Walk.box (id := 3006) .none rfl rfl rfl rfl rfl rfl rfl ?_
   refine ev ?_
   refine sq (fun h1 h1p h1s => ?_) fun h1 h1p h1s => ?_
   ·try simp only [Q, Val.cs_len] at h1p
    exfalso; simp at h1; omega --stop
   ·try simp only [Q, Val.cs_len] at h1p
    refine sq (fun h2 h2p h2s => ?_) fun h2 h2p h2s => ?_
    ·try simp only [Q, Val.cs_len] at h2p
     exfalso; simp at h2 <;> omega --stop
    ·try simp only [Q, Val.cs_len] at h2p
     refine sq (fun h3 h3p h3s => ?_) fun h3 h3p h3s => ?_
     ·try simp only [Q, Val.cs_len] at h3p
      refine dr ?_
      refine sqT ?_
      exfalso; have e1 := hv.1; have e2 := hv.2; simp_all --stop
     ·try simp only [Q, Val.cs_len] at h3p
      refine Walk.call (cr := []) cal164 (spec_l1Ctors_in hw hlt) rfl (.some rfl rfl h3) rfl rfl (LeL.refl _) trivial rfl rfl rfl ?_
      refine evd [] [(38, false)] ?_ ⟨⟨_, rfl, h3⟩, trivial⟩
      refine Walk.call (cr := []) cal149 (spec_l1Has_fn hcl) rfl (.some rfl rfl h3) rfl rfl (LeL.refl _) trivial rfl rfl rfl ?_
      refine evd [] [(38, false)] ?_ ⟨⟨_, rfl, h3⟩, trivial⟩
      refine dr ?_
      refine sq (fun h5 h5p h5s => ?_) fun h5 h5p h5s => ?_
      ·try simp only [Q, Val.cs_len] at h5p
       exfalso; have e1 := hv.1; have e2 := hv.2; simp_all --stop
      ·try simp only [Q, Val.cs_len] at h5p
       refine Walk.call (cr := []) cal150 (spec_l1Args_in hw hlt (place_of (k := k) (c := v.ctor) hv.2)) rfl .none rfl rfl (LeL.refl _) trivial rfl rfl rfl ?_
       refine ev ?_
       refine sq (fun h6 h6p h6s => ?_) fun h6 h6p h6s => ?_
       ·try simp only [Q, Val.cs_len] at h6p
        refine rn0 (r1 rfl) (.eqd ?_)
        all_goals (refine congrArg D.bool ?_; unfold fitsV; rw [if_neg hdn, if_pos hv]; first | (rw [all2_len (by simp [Val.cs_len] at *; omega)]) | (rw [all2_nth_true (by simp [Val.cs_len] at *; omega) (fun x hx => hg1.2 x (by simp [Val.cs_len] at *; omega))]) | (rw [all2_nth_false (i := i) (by simp [Val.cs_len] at *; omega) (by simp [Val.cs_len] at *; omega) (by assumption)]))
       ·try simp only [Q, Val.cs_len] at h6p
        refine CWp.loopX (ι := Nat) hk (fun i => [(10, .d (.i (i : Int)))]) [8, 58, 59, 60, 61, 62, 63, 64, 65, 66, 67, 68, 69, 70, 71, 72, 73, 74, 75, 76, 77] (fun i => []) (fun i => i ≤ (argsOf w ⟨d, k⟩ v.ctor).length ∧ ∀ i', i' < i → fitsV w n (nth (argsOf w ⟨d, k⟩ v.ctor) i') (nth v.kids i') = true) (fun i => (argsOf w ⟨d, k⟩ v.ctor).length - i) 0 ⟨by omega, fun _ h => absurd h (by omega)⟩ ⟨⟨_, rfl, (LeA.eqi (by first | rfl | (simp; done) | (simp_all; done) | omega))⟩, trivial⟩ trivial (fun x => rfl) (fun i hg1 => ?_)
        refine evc [] [] ?_
        refine sq (fun h7 h7p h7s => ?_) fun h7 h7p h7s => ?_
        ·try simp only [Q, Val.cs_len] at h7p
         refine Walk.idx sl182 .none rfl rfl rfl rfl (at_nth (by omega)) rfl ?_
         refine evd [] [] ?_
         refine Walk.idx sl58 .none rfl rfl rfl rfl (vals_at (by omega)) rfl ?_
         refine evd [] [] ?_
         refine ar ?_ (by first | (constructor <;> omega) | (constructor <;> simp [Val.cs_len] <;> omega))
         refine Walk.call (cr := []) cal196 (spec_l2Fits_fn hw n (by omega) (by omega) (argsOf_in hw hlt (k := k) (place_of (k := k) (c := v.ctor) hv.2) (nth_mem (by omega))) (Vals.ok_mem hok.2 _ (nth_mem (by omega)))) rfl .none rfl rfl (LeL.refl _) trivial rfl rfl rfl ?_
         refine evd [] [] ?_
         refine dr ?_
         refine sq (fun h8 h8p h8s => ?_) fun h8 h8p h8s => ?_
         ·try simp only [Q, Val.cs_len] at h8p
          refine rn0 (r1 rfl) (.eqd ?_)
          all_goals (refine congrArg D.bool ?_; unfold fitsV; rw [if_neg hdn, if_pos hv]; first | (rw [all2_len (by simp [Val.cs_len] at *; omega)]) | (rw [all2_nth_true (by simp [Val.cs_len] at *; omega) (fun x hx => hg1.2 x (by simp [Val.cs_len] at *; omega))]) | (rw [all2_nth_false (i := i) (by simp [Val.cs_len] at *; omega) (by simp [Val.cs_len] at *; omega) (by assumption)]))
         ·try simp only [Q, Val.cs_len] at h8p
          refine ar ?_ (by first | (constructor <;> omega) | (constructor <;> simp [Val.cs_len] <;> omega))
          refine Exists.intro (i + 1) ⟨⟨by omega, upto_succ hg1.2 (by assumption)⟩, (by omega), Sub.x (by kernel_rfl) (by kernel_rfl) ⟨⟨_, rfl, (LeA.eqi (by first | rfl | (simp; done) | (simp_all; done) | omega))⟩, trivial⟩ (by kernel_rfl) (by kernel_rfl) trivial⟩
        ·try simp only [Q, Val.cs_len] at h7p
         refine rn0 (r1 rfl) (.eqd ?_)
         all_goals (refine congrArg D.bool ?_; unfold fitsV; rw [if_neg hdn, if_pos hv]; first | (rw [all2_len (by simp [Val.cs_len] at *; omega)]) | (rw [all2_nth_true (by simp [Val.cs_len] at *; omega) (fun x hx => hg1.2 x (by simp [Val.cs_len] at *; omega))]) | (rw [all2_nth_false (i := i) (by simp [Val.cs_len] at *; omega) (by simp [Val.cs_len] at *; omega) (by assumption)]))
  ·skip
   refine bd Tryz.f196 78 [] [] fun w0 F0 own kept hk => ?_
   refine Walk.box (id := 3005) .none rfl rfl rfl rfl rfl rfl rfl ?_
   refine Walk.box (id := 3006) .none rfl rfl rfl rfl rfl rfl rfl ?_
   refine ev ?_
   refine sq (fun h1 h1p h1s => ?_) fun h1 h1p h1s => ?_
   ·try simp only [Q] at h1p
    exfalso; simp at h1; omega --stop
   ·try simp only [Q] at h1p
    refine sq (fun h2 h2p h2s => ?_) fun h2 h2p h2s => ?_
    ·try simp only [Q] at h2p
     exfalso; simp at h2 <;> omega --stop
    ·try simp only [Q] at h2p
     refine sq (fun h3 h3p h3s => ?_) fun h3 h3p h3s => ?_
     ·try simp only [Q] at h3p
      refine dr ?_
      refine sqT ?_
      refine rn0 (r1 rfl) (.eqd ?_)
      all_goals (refine congrArg D.bool ?_; unfold fitsV; rw [if_neg hdn, if_neg hv])
     ·try simp only [Q] at h3p
      refine Walk.call (cr := []) cal164 (spec_l1Ctors_in hw hlt) rfl (.some rfl rfl h3) rfl rfl (LeL.refl _) trivial rfl rfl rfl ?_
      refine evd [] [(38, false)] ?_ ⟨⟨_, rfl, h3⟩, trivial⟩
      refine Walk.call (cr := []) cal149 (spec_l1Has_fn hcl) rfl (.some rfl rfl h3) rfl rfl (LeL.refl _) trivial rfl rfl rfl ?_
      refine evd [] [(38, false)] ?_ ⟨⟨_, rfl, h3⟩, trivial⟩
      refine dr ?_
      refine sq (fun h5 h5p h5s => ?_) fun h5 h5p h5s => ?_
      ·try simp only [Q] at h5p
       refine rn0 (r1 rfl) (.eqd ?_)
       all_goals (refine congrArg D.bool ?_; unfold fitsV; rw [if_neg hdn, if_neg hv])
      ·try simp only [Q] at h5p
       exfalso; simp_all --stop
def isV (w : List Data) (t : Ty) (v : Val) : Bool := fitsV w 10 t v && decide ((v.size : Int) ≤ 60)
theorem spec_l2Is_fn {w : List Data} (hw : WT w) {a k : Int} {v : Val} (ht : TyIn w.length ⟨a, k⟩) (hok : v.ok) (hb : v.size ≤ 1000000000000) :
  FnD Tryz.prog 119 [.d (encDatas w), .agg [.d (.i a), .d (.i k)], .agg [.d (.i v.ctor), .d (.i v.num), .d (encVals v.kids)]] [] (.d (.bool (isV w ⟨a, k⟩ v))) [] := by
 have hc := cntV_iff v 60
 refine bd Tryz.f119 16 [] [] fun w0 F0 own kept hk => ?_
 refine Walk.box (id := 3004) .none rfl rfl rfl rfl rfl rfl rfl ?_
 refine Walk.box (id := 3005) .none rfl rfl rfl rfl rfl rfl rfl ?_
 refine ev ?_
 refine Walk.call (cr := []) cal196 (spec_l2Fits_fn hw 10 (by omega) (by omega) ht hok) rfl .none rfl rfl (LeL.refl _) trivial rfl rfl rfl ?_
 refine ev ?_
 refine sq (fun h1 h1p h1s => ?_) fun h1 h1p h1s => ?_
 ·try simp only [Q] at h1p
  refine Walk.call (cr := []) cal197 (spec_l2Count_fn _ (Nat.le_refl _) hb hok (by omega) (by omega)) rfl (.some rfl rfl h1) rfl rfl (LeL.refl _) trivial rfl rfl rfl ?_
  refine evs [] [(11, true)] ?_ ⟨⟨_, rfl, h1⟩, trivial⟩
  refine rn0 (r1 rfl) (.eqd ?_)
  all_goals (refine congrArg D.bool ?_; unfold isV; simp only [h1s, h1p]; first | rfl | (simp only [Bool.true_and]; exact decide_eq_decide.2 hc.1) | (simp; done))
 ·try simp only [Q] at h1p
  refine rn0 (r1 rfl) (.eqd ?_)
  all_goals (refine congrArg D.bool ?_; unfold isV; simp only [h1s, h1p]; first | rfl | (simp only [Bool.true_and]; exact decide_eq_decide.2 hc.1) | (simp; done))
theorem scanL_stop {w : List Data} {n : Nat} {a : List Ty} {b : List Val} {i : Nat} {c : Int} (ha : i < a.length) (hl : a.length = b.length) (h : (scanV w n (nth a i) (nth b i) c).1 = false) :
  scanL (scanV w n) (a.drop i) (b.drop i) c = (false, (scanV w n (nth a i) (nth b i) c).2) := by
 rw [drop_nth ha, drop_nth (l := b) (by omega), scanL, if_neg (by rw [h]; simp)]
theorem scanL_next {w : List Data} {n : Nat} {a : List Ty} {b : List Val} {i : Nat} {c : Int} (ha : i < a.length) (hl : a.length = b.length) (h : (scanV w n (nth a i) (nth b i) c).1 = true) :
  scanL (scanV w n) (a.drop i) (b.drop i) c = scanL (scanV w n) (a.drop (i + 1)) (b.drop (i + 1)) (scanV w n (nth a i) (nth b i) c).2 := by
 rw [drop_nth ha, drop_nth (l := b) (by omega), scanL, if_pos h]
theorem scanL_end {w : List Data} {n : Nat} {a : List Ty} {b : List Val} {i : Nat} {c : Int} (ha : a.length ≤ i) : scanL (scanV w n) (a.drop i) (b.drop i) c = (true, c) := by
 rw [List.drop_eq_nil_of_le ha, scanL]
 simp
theorem scanV_bd (w : List Data) (n : Nat) (t : Ty) (v : Val) (c : Int) (h : (scanV w n t v c).1 = true) : c ≤ (scanV w n t v c).2 ∧ (scanV w n t v c).2 ≤ 60 := by
 have h1 := (scanV_eq w n t v c)
 have h2 := h1.2 h
 rw [h1.1] at h
 simp only [Bool.and_eq_true, decide_eq_true_eq] at h
 omega
theorem impl_valueScan_fn {w : List Data} (hw : WT w) : ∀ (n : Nat) {a k d c : Int} {v : Val}, d + n = 11 → n ≤ 10 → TyIn w.length ⟨a, k⟩ → v.ok → 0 ≤ c → c ≤ 1000000000000 →
  FnD Tryz.prog 180 [.d (encDatas w), .agg [.d (.i a), .d (.i k)], .agg [.d (.i v.ctor), .d (.i v.num), .d (encVals v.kids)], .d (.i d), .d (.bool false), .ref 950 0] [(950, some (.box [.d (.i c)]))]
   (.d (.bool (scanV w n ⟨a, k⟩ v c).1)) [(950, some (.box [.d (.i (scanV w n ⟨a, k⟩ v c).2)]))]
 | 0, a, k, d, c, v, hd, _, _, _, c0, c1 => by
  refine bd Tryz.f180 108 [] [] fun w0 F0 own kept hk => ?_
  refine Walk.box (id := 3007) .none rfl rfl rfl rfl rfl rfl rfl ?_
  refine Walk.box (id := 3008) .none rfl rfl rfl rfl rfl rfl rfl ?_
  refine ev ?_
  refine ar ?_
  refine Walk.store ty3 .none rfl rfl rfl rfl rfl rfl (by simp) rfl ?_
  refine tv ?_
  refine sq (fun h1 h1p h1s => ?_) fun h1 h1p h1s => ?_
  ·try simp only [Q] at h1p
   refine sqT ?_
   refine rn [(950, some (.box [.d (.i (scanV w 0 ⟨a, k⟩ v c).2)]))] (r1 rfl) (.eqd ?_) ⟨rfl, rfl⟩ (SubO.get ⟨.inr (by rfl), ⟨.inl rfl, trivial⟩⟩) (boxOK rfl)
   all_goals (rfl)
  ·try simp only [Q] at h1p
   refine sq (fun h3 h3p h3s => ?_) fun h3 h3p h3s => ?_
   ·try simp only [Q] at h3p
    refine rn [(950, some (.box [.d (.i (scanV w 0 ⟨a, k⟩ v c).2)]))] (r1 rfl) (.eqd ?_) ⟨rfl, rfl⟩ (SubO.get ⟨.inr (by rfl), ⟨.inl rfl, trivial⟩⟩) (boxOK rfl)
    all_goals (rfl)
   ·try simp only [Q] at h3p
    exfalso; simp at *; omega --stop
 | n + 1, a, k, d, c, v, hd, hn, ht, hok, c0, c1 => by
  by_cases h60 : 60 < c + 1
  ·skip
   refine bd Tryz.f180 108 [] [] fun w0 F0 own kept hk => ?_
   refine Walk.box (id := 3007) .none rfl rfl rfl rfl rfl rfl rfl ?_
   refine Walk.box (id := 3008) .none rfl rfl rfl rfl rfl rfl rfl ?_
   refine ev ?_
   refine ar ?_
   refine Walk.store ty3 .none rfl rfl rfl rfl rfl rfl (by simp) rfl ?_
   refine tv ?_
   refine sq (fun h1 h1p h1s => ?_) fun h1 h1p h1s => ?_
   ·try simp only [Q] at h1p
    refine sqT ?_
    refine rn [(950, some (.box [.d (.i (scanV w (n + 1) ⟨a, k⟩ v c).2)]))] (r1 rfl) (.eqd ?_) ⟨rfl, rfl⟩ (SubO.get ⟨.inr (by (unfold scanV; rw [if_pos h60]; rfl)), ⟨.inl rfl, trivial⟩⟩) (boxOK rfl)
    all_goals (unfold scanV; rw [if_pos h60])
   ·try simp only [Q] at h1p
    refine sq (fun h3 h3p h3s => ?_) fun h3 h3p h3s => ?_
    ·try simp only [Q] at h3p
     refine rn [(950, some (.box [.d (.i (scanV w (n + 1) ⟨a, k⟩ v c).2)]))] (r1 rfl) (.eqd ?_) ⟨rfl, rfl⟩ (SubO.get ⟨.inr (by (unfold scanV; rw [if_pos h60]; rfl)), ⟨.inl rfl, trivial⟩⟩) (boxOK rfl)
     all_goals (unfold scanV; rw [if_pos h60])
    ·try simp only [Q] at h3p
     exfalso; simp at *; omega --stop
  rcases ht with ha | ⟨e, he, hlt⟩
  ·have ha' : a = -1 := ha
   subst ha'
   refine bd Tryz.f180 108 [] [] fun w0 F0 own kept hk => ?_
   refine Walk.box (id := 3007) .none rfl rfl rfl rfl rfl rfl rfl ?_
   refine Walk.box (id := 3008) .none rfl rfl rfl rfl rfl rfl rfl ?_
   refine ev ?_
   refine ar ?_
   refine Walk.store ty3 .none rfl rfl rfl rfl rfl rfl (by simp) rfl ?_
   refine tv ?_
   refine sq (fun h1 h1p h1s => ?_) fun h1 h1p h1s => ?_
   ·try simp only [Q] at h1p
    refine sqT ?_
    exfalso; simp at *; omega --stop
   ·try simp only [Q] at h1p
    refine sq (fun h3 h3p h3s => ?_) fun h3 h3p h3s => ?_
    ·try simp only [Q] at h3p
     exfalso; simp at *; omega --stop
    ·try simp only [Q] at h3p
     refine sqF ?_
     refine sqF ?_
     refine sq (fun h5 h5p h5s => ?_) fun h5 h5p h5s => ?_
     ·try simp only [Q] at h5p
      refine sq (fun h6 h6p h6s => ?_) fun h6 h6p h6s => ?_
      ·try simp only [Q] at h6p
       refine Walk.call (cr := []) cal87 (impl_within_fn) rfl (.some rfl rfl h6) rfl rfl (LeL.refl _) trivial rfl rfl rfl ?_
       refine evs [] [(52, true)] ?_ ⟨⟨_, rfl, h6⟩, trivial⟩
       refine sq (fun h7 h7p h7s => ?_) fun h7 h7p h7s => ?_
       ·try simp only [Q] at h7p
        refine rn [(950, some (.box [.d (.i (scanV w (n + 1) ⟨-1, k⟩ v c).2)]))] (r1 rfl) (.eqd ?_) ⟨rfl, rfl⟩ (SubO.get ⟨.inr (by (unfold scanV; rw [if_neg h60, if_pos rfl]; rfl)), ⟨.inl rfl, trivial⟩⟩) (boxOK rfl)
        all_goals (refine congrArg D.bool ?_; unfold scanV; rw [if_neg h60, if_pos rfl]; simp only [within] at *; first | (simp_all [Val.cs_len]; done) | (simp_all [Val.cs_len]; intro h1 h2; omega))
       ·try simp only [Q] at h7p
        refine rn [(950, some (.box [.d (.i (scanV w (n + 1) ⟨-1, k⟩ v c).2)]))] (r1 rfl) (.eqd ?_) ⟨rfl, rfl⟩ (SubO.get ⟨.inr (by (unfold scanV; rw [if_neg h60, if_pos rfl]; rfl)), ⟨.inl rfl, trivial⟩⟩) (boxOK rfl)
        all_goals (refine congrArg D.bool ?_; unfold scanV; rw [if_neg h60, if_pos rfl]; simp only [within] at *; first | (simp_all [Val.cs_len]; done) | (simp_all [Val.cs_len]; intro h1 h2; omega))
      ·try simp only [Q] at h6p
       refine sqF ?_
       refine rn [(950, some (.box [.d (.i (scanV w (n + 1) ⟨-1, k⟩ v c).2)]))] (r1 rfl) (.eqd ?_) ⟨rfl, rfl⟩ (SubO.get ⟨.inr (by (unfold scanV; rw [if_neg h60, if_pos rfl]; rfl)), ⟨.inl rfl, trivial⟩⟩) (boxOK rfl)
       all_goals (refine congrArg D.bool ?_; unfold scanV; rw [if_neg h60, if_pos rfl]; simp only [within] at *; first | (simp_all [Val.cs_len]; done) | (simp_all [Val.cs_len]; intro h1 h2; omega))
     ·try simp only [Q] at h5p
      exact absurd h5 (by simp) --stop
  have he' : a = (e : Int) := he
  subst he'
  have hok' := hok
  rw [Val.ok_iff] at hok
  have hcl := ctorsOf_len hw (d := e) (k := k)
  have hdn : ¬ (e : Int) = -1 := by omega
  by_cases hv : v.num = 0 ∧ v.ctor ∈ ctorsOf w ⟨e, k⟩
  ·have hal := argsOf_len hw hlt (k := k) (place_of (k := k) (c := v.ctor) hv.2)
   by_cases hlen : (argsOf w ⟨e, k⟩ v.ctor).length = v.kids.length
   ·have hsc : scanV w (n + 1) ⟨e, k⟩ v c = scanL (scanV w n) (argsOf w ⟨e, k⟩ v.ctor) v.kids (c + 1) := by
     conv => lhs; unfold scanV
     rw [if_neg h60, if_neg hdn, if_pos hv, if_pos hlen]
    rw [hsc]
    refine bd Tryz.f180 108 [] [] fun w0 F0 own kept hk => ?_
    refine Walk.box (id := 3007) .none rfl rfl rfl rfl rfl rfl rfl ?_
    refine Walk.box (id := 3008) .none rfl rfl rfl rfl rfl rfl rfl ?_
    refine ev ?_
    refine ar ?_ (by first | (constructor <;> omega) | (constructor <;> simp [Val.cs_len] <;> omega))
    refine Walk.store ty3 .none rfl rfl rfl rfl rfl rfl (by simp) rfl ?_
    refine tv ?_
    refine sq (fun h1 h1p h1s => ?_) fun h1 h1p h1s => ?_
    ·try simp only [Q, Val.cs_len, Ty.eta] at h1p
     refine sqT ?_
     exfalso; simp at *; omega --stop
    ·try simp only [Q, Val.cs_len, Ty.eta] at h1p
     refine sq (fun h3 h3p h3s => ?_) fun h3 h3p h3s => ?_
     ·try simp only [Q, Val.cs_len, Ty.eta] at h3p
      exfalso; simp at *; omega --stop
     ·try simp only [Q, Val.cs_len, Ty.eta] at h3p
      refine sqF ?_
      refine sqF ?_
      refine sq (fun h5 h5p h5s => ?_) fun h5 h5p h5s => ?_
      ·try simp only [Q, Val.cs_len, Ty.eta] at h5p
       exfalso; simp at * <;> omega --stop
      ·try simp only [Q, Val.cs_len, Ty.eta] at h5p
       refine sq (fun h6 h6p h6s => ?_) fun h6 h6p h6s => ?_
       ·try simp only [Q, Val.cs_len, Ty.eta] at h6p
        refine dr ?_
        refine sqT ?_
        exfalso; have e1 := hv.1; have e2 := hv.2; simp_all --stop
       ·try simp only [Q, Val.cs_len, Ty.eta] at h6p
        refine Walk.call (cr := []) cal170 (impl_ctorsOf_in hw hlt) rfl (.some rfl rfl h6) rfl rfl (LeL.refl _) trivial rfl rfl rfl ?_
        refine evd [] [(67, false)] ?_ ⟨⟨_, rfl, h6⟩, trivial⟩
        refine Walk.call (cr := []) cal169 (slices_Contains_int_fn hcl) rfl (.some rfl rfl h6) rfl rfl (LeL.refl _) trivial rfl rfl rfl ?_
        refine evd [] [(67, false)] ?_ ⟨⟨_, rfl, h6⟩, trivial⟩
        refine dr ?_
        refine sq (fun h8 h8p h8s => ?_) fun h8 h8p h8s => ?_
        ·try simp only [Q, Val.cs_len, Ty.eta] at h8p
         exfalso; have e1 := hv.1; have e2 := hv.2; simp_all --stop
        ·try simp only [Q, Val.cs_len, Ty.eta] at h8p
         refine Walk.call (cr := []) cal171 (impl_argTypes_in hw hlt (place_of (k := k) (c := v.ctor) hv.2)) rfl .none rfl rfl (LeL.refl _) trivial rfl rfl rfl ?_
         refine ev ?_
         refine sq (fun h9 h9p h9s => ?_) fun h9 h9p h9s => ?_
         ·try simp only [Q, Val.cs_len, Ty.eta] at h9p
          exfalso; simp [Val.cs_len, hlen] at h9 --stop
         ·try simp only [Q, Val.cs_len, Ty.eta] at h9p
          refine CWp.loopX (ι := Nat × Int) hk (fun x => [(90, .d (.i (x.1 : Int)))]) [12, 14, 15, 91, 92, 93, 94, 95, 96, 97, 98, 99, 100, 101, 102, 103, 104, 105, 106, 107] (fun x => [(950, some (.box [.d (.i x.2)]))]) (fun x => x.1 ≤ v.kids.length ∧ scanL (scanV w n) ((argsOf w ⟨e, k⟩ v.ctor).drop x.1) (v.kids.drop x.1) x.2 = scanL (scanV w n) (argsOf w ⟨e, k⟩ v.ctor) v.kids (c + 1) ∧ 0 ≤ x.2 ∧ x.2 ≤ 60) (fun x => v.kids.length - x.1) (0, c + 1) ⟨by simp, by simp, by dsimp only; omega, by dsimp only; omega⟩ ⟨⟨_, rfl, (LeA.eqi (by first | rfl | (simp; done) | (dsimp only; omega)))⟩, trivial⟩ ⟨(by first | rfl | (simp [getH]; done)), trivial⟩ (fun x => rfl) (fun x hg1 => ?_)
          refine evc [] [] ?_
          refine sq (fun h10 h10p h10s => ?_) fun h10 h10p h10s => ?_
          ·try simp only [Q, Val.cs_len, Ty.eta] at h10p
           refine Walk.idx sl58 .none rfl rfl rfl rfl (vals_at (by omega)) rfl ?_
           refine ev ?_
           refine Walk.alloc (id := 3015) tz65 rfl .none rfl rfl rfl rfl ?_
           refine ev ?_
           refine Walk.store ty65 .none rfl rfl rfl rfl rfl rfl (by simp) rfl ?_
           refine tv ?_
           refine Walk.idx sl182 .none rfl rfl rfl rfl (at_nth (by omega)) rfl ?_
           refine evd [] [] ?_
           refine ar ?_ (by first | (constructor <;> omega) | (constructor <;> simp [Val.cs_len] <;> omega))
           refine Walk.call (cr := []) cal180 (impl_valueScan_fn hw n (a := (nth (argsOf w ⟨e, k⟩ v.ctor) x.1).data) (k := (nth (argsOf w ⟨e, k⟩ v.ctor) x.1).index) (c := x.2) (by omega) (by omega) (argsOf_in hw hlt (k := k) (place_of (k := k) (c := v.ctor) hv.2) (nth_mem (by omega))) (Vals.ok_mem hok.2 _ (nth_mem (by omega))) (by omega) (by omega)) rfl .none rfl rfl (LeL.refl _) ⟨rfl, trivial⟩ rfl rfl rfl ?_
           refine evd [] [] ?_
           refine dr ?_
           refine sq (fun h11 h11p h11s => ?_) fun h11 h11p h11s => ?_
           ·try simp only [Q, Val.cs_len, Ty.eta] at h11p
            refine rn [(950, some (.box [.d (.i (scanL (scanV w n) (argsOf w ⟨e, k⟩ v.ctor) v.kids (c + 1)).2)]))] (r1 rfl) (.eqd ?_) ⟨rfl, rfl⟩ (SubO.get ⟨.inr (by first | (obtain ⟨h1, h2, h3, h4⟩ := hg1; show some (Res.box _) = some (Res.box _); rw [← h2, scanL_end (by simp [Val.cs_len] at *; omega)]) | (obtain ⟨h1, h2, h3, h4⟩ := hg1; show some (Res.box _) = some (Res.box _); rw [← h2, scanL_stop (by simp [Val.cs_len] at *; omega) hlen (by simp_all)])), ⟨.inl rfl, trivial⟩⟩) (boxOK rfl)
            all_goals (refine congrArg D.bool ?_; first | (obtain ⟨h1, h2, h3, h4⟩ := hg1; rw [← h2, scanL_end (by simp [Val.cs_len] at *; omega)]) | (obtain ⟨h1, h2, h3, h4⟩ := hg1; rw [← h2, scanL_stop (by simp [Val.cs_len] at *; omega) hlen (by simp_all)]))
           ·try simp only [Q, Val.cs_len, Ty.eta] at h11p
            refine ar ?_ (by first | (constructor <;> omega) | (constructor <;> simp [Val.cs_len] <;> omega))
            refine Exists.intro ((x.1 + 1, (scanV w n (nth (argsOf w ⟨e, k⟩ v.ctor) x.1) (nth v.kids x.1) x.2).2)) ⟨(by
                  have hz : (scanV w n (nth (argsOf w ⟨e, k⟩ v.ctor) x.1) (nth v.kids x.1) x.2).1 = true := by simp_all
                  have hb := scanV_bd w n _ _ _ hz
                  obtain ⟨h1, h2, h3, h4⟩ := hg1
                  refine ⟨by dsimp only; omega, ?_, by dsimp only; omega, by dsimp only; omega⟩
                  rw [← h2, scanL_next (i := x.1) (by omega) hlen hz]), (by dsimp only; omega), Sub.x (by kernel_rfl) (by kernel_rfl) ⟨⟨_, rfl, (LeA.eqi (by first | rfl | (simp; done) | (dsimp only; omega)))⟩, trivial⟩ (by kernel_rfl) (by kernel_rfl) ⟨(by first | rfl | (simp [getH]; done)), trivial⟩⟩
          ·try simp only [Q, Val.cs_len, Ty.eta] at h10p
           refine rn [(950, some (.box [.d (.i (scanL (scanV w n) (argsOf w ⟨e, k⟩ v.ctor) v.kids (c + 1)).2)]))] (r1 rfl) (.eqd ?_) ⟨rfl, rfl⟩ (SubO.get ⟨.inr (by first | (obtain ⟨h1, h2, h3, h4⟩ := hg1; show some (Res.box _) = some (Res.box _); rw [← h2, scanL_end (by simp [Val.cs_len] at *; omega)]) | (obtain ⟨h1, h2, h3, h4⟩ := hg1; show some (Res.box _) = some (Res.box _); rw [← h2, scanL_stop (by simp [Val.cs_len] at *; omega) hlen (by simp_all)])), ⟨.inl rfl, trivial⟩⟩) (boxOK rfl)
           all_goals (refine congrArg D.bool ?_; first | (obtain ⟨h1, h2, h3, h4⟩ := hg1; rw [← h2, scanL_end (by simp [Val.cs_len] at *; omega)]) | (obtain ⟨h1, h2, h3, h4⟩ := hg1; rw [← h2, scanL_stop (by simp [Val.cs_len] at *; omega) hlen (by simp_all)]))
   ·have hsc : scanV w (n + 1) ⟨e, k⟩ v c = (false, c + 1) := by
     conv => lhs; unfold scanV
     rw [if_neg h60, if_neg hdn, if_pos hv, if_neg hlen]
    rw [hsc]
    refine bd Tryz.f180 108 [] [] fun w0 F0 own kept hk => ?_
    refine Walk.box (id := 3007) .none rfl rfl rfl rfl rfl rfl rfl ?_
    refine Walk.box (id := 3008) .none rfl rfl rfl rfl rfl rfl rfl ?_
    refine ev ?_
    refine ar ?_
    refine Walk.store ty3 .none rfl rfl rfl rfl rfl rfl (by simp) rfl ?_
    refine tv ?_
    refine sq (fun h1 h1p h1s => ?_) fun h1 h1p h1s => ?_
    ·try simp only [Q, Val.cs_len] at h1p
     refine sqT ?_
     exfalso; simp at *; omega --stop
    ·try simp only [Q, Val.cs_len] at h1p
     refine sq (fun h3 h3p h3s => ?_) fun h3 h3p h3s => ?_
     ·try simp only [Q, Val.cs_len] at h3p
      exfalso; simp at *; omega --stop
     ·try simp only [Q, Val.cs_len] at h3p
      refine sqF ?_
      refine sqF ?_
      refine sq (fun h5 h5p h5s => ?_) fun h5 h5p h5s => ?_
      ·try simp only [Q, Val.cs_len] at h5p
       exfalso; simp at * <;> omega --stop
      ·try simp only [Q, Val.cs_len] at h5p
       refine sq (fun h6 h6p h6s => ?_) fun h6 h6p h6s => ?_
       ·try simp only [Q, Val.cs_len] at h6p
        refine dr ?_
        refine sqT ?_
        exfalso; have e1 := hv.1; have e2 := hv.2; simp_all --stop
       ·try simp only [Q, Val.cs_len] at h6p
        refine Walk.call (cr := []) cal170 (impl_ctorsOf_in hw hlt) rfl (.some rfl rfl h6) rfl rfl (LeL.refl _) trivial rfl rfl rfl ?_
        refine evd [] [(67, false)] ?_ ⟨⟨_, rfl, h6⟩, trivial⟩
        refine Walk.call (cr := []) cal169 (slices_Contains_int_fn hcl) rfl (.some rfl rfl h6) rfl rfl (LeL.refl _) trivial rfl rfl rfl ?_
        refine evd [] [(67, false)] ?_ ⟨⟨_, rfl, h6⟩, trivial⟩
        refine dr ?_
        refine sq (fun h8 h8p h8s => ?_) fun h8 h8p h8s => ?_
        ·try simp only [Q, Val.cs_len] at h8p
         exfalso; have e1 := hv.1; have e2 := hv.2; simp_all --stop
        ·try simp only [Q, Val.cs_len] at h8p
         refine Walk.call (cr := []) cal171 (impl_argTypes_in hw hlt (place_of (k := k) (c := v.ctor) hv.2)) rfl .none rfl rfl (LeL.refl _) trivial rfl rfl rfl ?_
         refine ev ?_
         refine sq (fun h9 h9p h9s => ?_) fun h9 h9p h9s => ?_
         ·try simp only [Q, Val.cs_len] at h9p
          refine rn [(950, some (.box [.d (.i (c + 1))]))] (r1 rfl) (.eqd ?_) ⟨rfl, rfl⟩ (SubO.get ⟨.inr (by rfl), ⟨.inl rfl, trivial⟩⟩) (boxOK rfl)
          all_goals (rfl)
         ·try simp only [Q, Val.cs_len] at h9p
          exfalso; simp [Val.cs_len] at h9; omega --stop
  ·have hsc : scanV w (n + 1) ⟨e, k⟩ v c = (false, c + 1) := by
    conv => lhs; unfold scanV
    rw [if_neg h60, if_neg hdn, if_neg hv]
   rw [hsc]
   refine bd Tryz.f180 108 [] [] fun w0 F0 own kept hk => ?_
   refine Walk.box (id := 3007) .none rfl rfl rfl rfl rfl rfl rfl ?_
   refine Walk.box (id := 3008) .none rfl rfl rfl rfl rfl rfl rfl ?_
   refine ev ?_
   refine ar ?_
   refine Walk.store ty3 .none rfl rfl rfl rfl rfl rfl (by simp) rfl ?_
   refine tv ?_
   refine sq (fun h1 h1p h1s => ?_) fun h1 h1p h1s => ?_
   ·try simp only [Q] at h1p
    refine sqT ?_
    exfalso; simp at *; omega --stop
   ·try simp only [Q] at h1p
    refine sq (fun h3 h3p h3s => ?_) fun h3 h3p h3s => ?_
    ·try simp only [Q] at h3p
     exfalso; simp at *; omega --stop
    ·try simp only [Q] at h3p
     refine sqF ?_
     refine sqF ?_
     refine sq (fun h5 h5p h5s => ?_) fun h5 h5p h5s => ?_
     ·try simp only [Q] at h5p
      exfalso; simp at * <;> omega --stop
     ·try simp only [Q] at h5p
      refine sq (fun h6 h6p h6s => ?_) fun h6 h6p h6s => ?_
      ·try simp only [Q] at h6p
       refine dr ?_
       refine sqT ?_
       refine rn [(950, some (.box [.d (.i (c + 1))]))] (r1 rfl) (.eqd ?_) ⟨rfl, rfl⟩ (SubO.get ⟨.inr (by rfl), ⟨.inl rfl, trivial⟩⟩) (boxOK rfl)
       all_goals (rfl)
      ·try simp only [Q] at h6p
       refine Walk.call (cr := []) cal170 (impl_ctorsOf_in hw hlt) rfl (.some rfl rfl h6) rfl rfl (LeL.refl _) trivial rfl rfl rfl ?_
       refine evd [] [(67, false)] ?_ ⟨⟨_, rfl, h6⟩, trivial⟩
       refine Walk.call (cr := []) cal169 (slices_Contains_int_fn hcl) rfl (.some rfl rfl h6) rfl rfl (LeL.refl _) trivial rfl rfl rfl ?_
       refine evd [] [(67, false)] ?_ ⟨⟨_, rfl, h6⟩, trivial⟩
       refine dr ?_
       refine sq (fun h8 h8p h8s => ?_) fun h8 h8p h8s => ?_
       ·try simp only [Q] at h8p
        refine rn [(950, some (.box [.d (.i (c + 1))]))] (r1 rfl) (.eqd ?_) ⟨rfl, rfl⟩ (SubO.get ⟨.inr (by rfl), ⟨.inl rfl, trivial⟩⟩) (boxOK rfl)
        all_goals (rfl)
       ·try simp only [Q] at h8p
        exfalso; simp_all --stop
theorem impl_valueOk_fn {w : List Data} (hw : WT w) {a k : Int} {v : Val} (ht : TyIn w.length ⟨a, k⟩) (hok : v.ok) :
  FnD Tryz.prog 103 [.d (encDatas w), .agg [.d (.i a), .d (.i k)], .agg [.d (.i v.ctor), .d (.i v.num), .d (encVals v.kids)]] [] (.d (.bool (isV w ⟨a, k⟩ v))) [] := by
 have hz := (scanV_eq w 10 ⟨a, k⟩ v 0).1
 rw [Int.zero_add] at hz
 refine bd Tryz.f103 12 [] [] fun w0 F0 own kept hk => ?_
 refine Walk.box (id := 3004) .none rfl rfl rfl rfl rfl rfl rfl ?_
 refine Walk.box (id := 3005) .none rfl rfl rfl rfl rfl rfl rfl ?_
 refine ev ?_
 refine Walk.alloc (id := 950) tz3 rfl .none rfl rfl rfl rfl ?_
 refine Walk.store ty3 .none rfl rfl rfl rfl rfl rfl (by simp) rfl ?_
 refine tv ?_
 refine Walk.call (cr := []) cal180 (impl_valueScan_fn hw 10 (c := 0) (by omega) (by omega) ht hok (by omega) (by omega)) rfl .none rfl rfl (LeL.refl _) ⟨rfl, trivial⟩ rfl rfl rfl ?_
 refine ev ?_
 refine rn0 (r1 rfl) (.eqd ?_)
 all_goals (rw [hz]; rfl)
theorem all2_length {α β : Type} {f : α → β → Bool} {a : List α} {b : List β} (h : all2 f a b = true) : a.length = b.length := by
 by_cases e : a.length = b.length
 ·exact e
 ·rw [all2_len e] at h; exact absurd h (by simp)
structure Bd where
 var : Int
 val : Val
def Bd.c (b : Bd) : List D := [.i b.var, .i b.val.ctor, .i b.val.num, encVals b.val.kids]
abbrev encBds (l : List Bd) : D := .sl (l.map Bd.c)
instance : Inhabited Bd := ⟨⟨0, default⟩⟩
def matchL (f : Pat → Val → List Bd × Bool) : List Pat → List Val → List Bd → List Bd × Bool
 | p :: r, v :: s, acc => if (f p v).2 = true then matchL f r s (acc ++ (f p v).1) else ([], false)
 | _, _, acc => (acc, true)
def matchV : Nat → Pat → Val → List Bd × Bool
 | 0, _, _ => ([], false)
 | n + 1, p, v =>
  if p.op = 1 then ([], true)
  else if p.op = 2 then ([⟨p.var, v⟩], true)
  else if p.op = 3 then ([], within v.num p.n p.m)
  else if p.op = 5 then (if (matchV n (nth p.kids 0) v).2 = true then ((matchV n (nth p.kids 0) v).1, true) else matchV n (nth p.kids 1) v)
  else if p.op = 6 then (⟨p.var, v⟩ :: (matchV n (nth p.kids 0) v).1, (matchV n (nth p.kids 0) v).2)
  else if p.ctor = v.ctor then matchL (matchV n) p.kids v.kids [] else ([], false)
section
variable {n : Nat} {p : Pat} {v : Val}
theorem match_1 (h : p.op = 1) : matchV (n + 1) p v = ([], true) := by unfold matchV; rw [if_pos h]
theorem match_2 (h : p.op = 2) : matchV (n + 1) p v = ([⟨p.var, v⟩], true) := by unfold matchV; rw [if_neg (by omega), if_pos h]
theorem match_3 (h : p.op = 3) : matchV (n + 1) p v = ([], within v.num p.n p.m) := by unfold matchV; rw [if_neg (by omega), if_neg (by omega), if_pos h]
theorem match_5a (h : p.op = 5) (h2 : (matchV n (nth p.kids 0) v).2 = true) : matchV (n + 1) p v = ((matchV n (nth p.kids 0) v).1, true) := by
 conv => lhs; unfold matchV
 rw [if_neg (by omega), if_neg (by omega), if_neg (by omega), if_pos h, if_pos h2]
theorem match_5b (h : p.op = 5) (h2 : (matchV n (nth p.kids 0) v).2 = false) : matchV (n + 1) p v = matchV n (nth p.kids 1) v := by
 conv => lhs; unfold matchV
 rw [if_neg (by omega), if_neg (by omega), if_neg (by omega), if_pos h, if_neg (by rw [h2]; simp)]
theorem match_6 (h : p.op = 6) : matchV (n + 1) p v = (⟨p.var, v⟩ :: (matchV n (nth p.kids 0) v).1, (matchV n (nth p.kids 0) v).2) := by
 conv => lhs; unfold matchV
 rw [if_neg (by omega), if_neg (by omega), if_neg (by omega), if_neg (by omega), if_pos h]
theorem match_4 (h : p.op = 4) (h2 : p.ctor = v.ctor) : matchV (n + 1) p v = matchL (matchV n) p.kids v.kids [] := by
 conv => lhs; unfold matchV
 rw [if_neg (by omega), if_neg (by omega), if_neg (by omega), if_neg (by omega), if_neg (by omega), if_pos h2]
theorem match_4n (h : p.op = 4) (h2 : ¬ p.ctor = v.ctor) : matchV (n + 1) p v = ([], false) := by
 conv => lhs; unfold matchV
 rw [if_neg (by omega), if_neg (by omega), if_neg (by omega), if_neg (by omega), if_neg (by omega), if_neg h2]
end
theorem matchL_all {f : Pat → Val → List Bd × Bool} : ∀ {a : List Pat} {b : List Val} {acc : List Bd}, (matchL f a b acc).2 = true → ∀ i, i < a.length → i < b.length → (f (nth a i) (nth b i)).2 = true
 | [], _, _, _, i, h, _ => by simp at h
 | _ :: _, [], _, _, i, _, h => by simp at h
 | p :: r, v :: s, acc, h, i, h1, h2 => by
  unfold matchL at h
  split at h
  ·rename_i hp
   cases i with
   | zero => exact hp
   | succ i => exact matchL_all h i (by simpa using h1) (by simpa using h2)
  ·exact absurd h (by simp)
theorem matchL_next {f : Pat → Val → List Bd × Bool} {a : List Pat} {b : List Val} {acc : List Bd} {i : Nat} (h1 : i < a.length) (h2 : i < b.length) (h : (f (nth a i) (nth b i)).2 = true) :
  matchL f (a.drop i) (b.drop i) acc = matchL f (a.drop (i + 1)) (b.drop (i + 1)) (acc ++ (f (nth a i) (nth b i)).1) := by
 rw [drop_nth h1, drop_nth h2]
 conv => lhs; unfold matchL
 rw [if_pos h]
theorem matchL_bad {f : Pat → Val → List Bd × Bool} {a : List Pat} {b : List Val} {acc : List Bd} {i : Nat} (h1 : i < a.length) (h2 : i < b.length) (h : (f (nth a i) (nth b i)).2 = false) :
  matchL f (a.drop i) (b.drop i) acc = ([], false) := by
 rw [drop_nth h1, drop_nth h2]
 conv => lhs; unfold matchL
 rw [if_neg (by rw [h]; simp)]
theorem matchL_end {f : Pat → Val → List Bd × Bool} {a : List Pat} {b : List Val} {acc : List Bd} {i : Nat} (h1 : a.length ≤ i) : matchL f (a.drop i) (b.drop i) acc = (acc, true) := by
 rw [List.drop_eq_nil_of_le h1]; cases b.drop i <;> rfl
def BdOk (m : Nat) (l : List Bd) : Prop := ∀ x ∈ l, x.val.ok ∧ x.val.size ≤ m
theorem BdOk.app {m : Nat} {a b : List Bd} (h1 : BdOk m a) (h2 : BdOk m b) : BdOk m (a ++ b) := fun x hx => by
 rcases List.mem_append.1 hx with h | h
 ·exact h1 x h
 ·exact h2 x h
theorem BdOk.mono {m k : Nat} {a : List Bd} (h : BdOk m a) (hk : m ≤ k) : BdOk k a := fun x hx => ⟨(h x hx).1, Nat.le_trans (h x hx).2 hk⟩
theorem matchL_ok {f : Pat → Val → List Bd × Bool} {m : Nat} : ∀ {a : List Pat} {b : List Val} {acc : List Bd} {k : Nat}, (∀ p ∈ a, ∀ v ∈ b, BdOk m (f p v).1 ∧ (f p v).1.length ≤ p.size) → BdOk m acc → acc.length ≤ k → BdOk m (matchL f a b acc).1 ∧ (matchL f a b acc).1.length ≤ k + Pats.size a
 | [], b, acc, k, _, h2, h3 => by cases b <;> exact ⟨h2, by simp only [matchL, Pats.size]; omega⟩
 | _ :: _, [], acc, k, _, h2, h3 => ⟨h2, by simp only [matchL]; omega⟩
 | p :: r, v :: s, acc, k, h1, h2, h3 => by
  unfold matchL
  split
  ·have h4 := h1 p (by simp) v (by simp)
   have := matchL_ok (f := f) (a := r) (b := s) (acc := acc ++ (f p v).1) (k := k + p.size) (fun q hq u hu => h1 q (by simp [hq]) u (by simp [hu])) (h2.app h4.1) (by rw [List.length_append]; omega)
   refine ⟨this.1, ?_⟩
   simp only [Pats.size]; omega
  ·exact ⟨fun x hx => by simp at hx, by simp⟩
theorem types5 {w : List Data} {t : Ty} {p : Pat} (h : p.op = 5) : typesP w t p = [t, t] := by unfold typesP; rw [if_neg (by omega), if_pos h]
theorem types6 {w : List Data} {t : Ty} {p : Pat} (h : p.op = 6) : typesP w t p = [t] := by unfold typesP; rw [if_neg (by omega), if_neg (by omega), if_pos h]
theorem types4 {w : List Data} {t : Ty} {p : Pat} (h : p.op = 4) : typesP w t p = argsOf w t p.ctor := by unfold typesP; rw [if_pos h]
theorem shape_op {w : List Data} {n : Nat} {t : Ty} {p : Pat} (h : shapeP w (n + 1) t p = true) : p.op = 1 ∨ p.op = 2 ∨ p.op = 3 ∨ p.op = 4 ∨ p.op = 5 ∨ p.op = 6 := by
 have h1 := (shapeP_own h).1
 unfold ownP at h1
 have h2 := (of_decide_eq_true h1).2.2.2.2
 omega
theorem shape_two {w : List Data} {n : Nat} {t : Ty} {p : Pat} (h : shapeP w (n + 1) t p = true) (h5 : p.op = 5) : p.kids.length = 2 ∧ shapeP w n t (nth p.kids 0) = true ∧ shapeP w n t (nth p.kids 1) = true := by
 have hl := (shapeP_own h).2
 have h0 := fun i hi => shapeP_kid h (i := i) hi
 rw [types5 h5] at hl h0
 have hl' : p.kids.length = 2 := hl
 exact ⟨hl', h0 0 (by omega), h0 1 (by omega)⟩
theorem shape_one {w : List Data} {n : Nat} {t : Ty} {p : Pat} (h : shapeP w (n + 1) t p = true) (h6 : p.op = 6) : p.kids.length = 1 ∧ shapeP w n t (nth p.kids 0) = true := by
 have hl := (shapeP_own h).2
 have h0 := fun i hi => shapeP_kid h (i := i) hi
 rw [types6 h6] at hl h0
 have hl' : p.kids.length = 1 := hl
 exact ⟨hl', h0 0 (by omega)⟩
theorem matchV_ok {w : List Data} : ∀ (n : Nat) {t : Ty} {p : Pat} {v : Val}, shapeP w n t p = true → v.ok → BdOk v.size (matchV n p v).1 ∧ (matchV n p v).1.length ≤ p.size
 | 0, t, p, v, h, _ => by simp [shapeP] at h
 | n + 1, t, p, v, h, hv => by
  have hs := Pat.size_eq p
  have hsv := Val.size_eq v
  have hv' := hv
  rw [Val.ok_iff] at hv'
  have one : BdOk v.size [⟨p.var, v⟩] := fun x hx => by simp only [List.mem_singleton] at hx; subst hx; exact ⟨hv, Nat.le_refl _⟩
  have nil : BdOk v.size [] := fun x hx => by simp at hx
  by_cases h1 : p.op = 1
  ·rw [match_1 h1]; exact ⟨nil, by simp⟩
  by_cases h2 : p.op = 2
  ·rw [match_2 h2]; exact ⟨one, by simp only [List.length_singleton]; omega⟩
  by_cases h3 : p.op = 3
  ·rw [match_3 h3]; exact ⟨nil, by simp⟩
  by_cases h5 : p.op = 5
  ·obtain ⟨hl, s0, s1⟩ := shape_two h h5
   have k0 := matchV_ok n s0 hv
   have k1 := matchV_ok n s1 hv
   have z0 := pnth_size (l := p.kids) (i := 0) (by omega)
   have z1 := pnth_size (l := p.kids) (i := 1) (by omega)
   cases hm : (matchV n (nth p.kids 0) v).2 with
   | true => rw [match_5a h5 hm]; exact ⟨k0.1, by have := k0.2; dsimp only; omega⟩
   | false => rw [match_5b h5 hm]; exact ⟨k1.1, by have := k1.2; omega⟩
  by_cases h6 : p.op = 6
  ·obtain ⟨hl, s0⟩ := shape_one h h6
   have k0 := matchV_ok n s0 hv
   have z0 := pnth_size (l := p.kids) (i := 0) (by omega)
   rw [match_6 h6]
   exact ⟨one.app k0.1, by have := k0.2; simp only [List.length_cons]; omega⟩
  have h4 : p.op = 4 := by have := shape_op h; omega
  by_cases hc : p.ctor = v.ctor
  ·rw [match_4 h4 hc]
   have := matchL_ok (f := matchV n) (m := v.size) (a := p.kids) (b := v.kids) (acc := []) (k := 0) (fun q hq u hu => by
    obtain ⟨i, hi, rfl⟩ := List.getElem_of_mem hq
    have e : p.kids[i] = nth p.kids i := by simp [nth, List.getD, hi]
    have := matchV_ok n (v := u) (shapeP_kid h hi) (Vals.ok_mem hv'.2 u hu)
    rw [e]
    exact ⟨this.1.mono (by have := Vals.size_mem hu; omega), this.2⟩) nil (by simp)
   exact ⟨this.1, by have := this.2; omega⟩
  ·rw [match_4n h4 hc]; exact ⟨nil, by simp⟩
theorem fits_ctor {w : List Data} {m : Nat} {t : Ty} {v : Val} (h : fitsV w (m + 1) t v = true) (hd : t.data ≠ -1) : v.ctor ∈ vctors w t ∧ (argsOf w t v.ctor).length = v.kids.length ∧ ∀ i, i < v.kids.length → fitsV w m (nth (argsOf w t v.ctor) i) (nth v.kids i) = true := by
 unfold fitsV at h
 rw [if_neg hd] at h
 split at h
 ·rename_i hc
  have hl := all2_length h
  exact ⟨by unfold vctors; rw [if_neg hd]; exact hc.2, hl, fun i hi => all2_mem hl h i (by omega)⟩
 ·exact absurd h (by simp)
end Go.Proofs.YtdgknigklgnefaaGreat
namespace Go.Proofs.YtdgknigklgnefaaGreat
open Go
set_option linter.unusedSimpArgs false
set_option linter.unusedVariables false
end Go.Proofs.YtdgknigklgnefaaGreat
namespace Go.Proofs.YtdgknigklgnefaaGreat
open Go
set_option linter.unusedSimpArgs false
set_option linter.unusedVariables false
set_option maxRecDepth 100000
set_option maxHeartbeats 2000000
theorem Val.cs_cc (l : List Val) : Val.cs l = l.map Val.cc := by
 rw [Val.cs_eq]; exact List.map_congr_left (fun v _ => Val.c_eq v)
theorem impl_ownValue_fn : ∀ (n : Nat) {v : Val}, v.size ≤ n → v.ok → FnD Tryz.prog 102 [.agg [.d (.i v.ctor), .d (.i v.num), .d (encVals v.kids)]] [] (.agg [.d (.i v.ctor), .d (.i v.num), .d (encVals v.kids)]) []
 | 0, v, h, _ => by rw [Val.size_eq] at h; omega
 | n + 1, v, h, hok => by
  rw [Val.size_eq] at h
  rw [Val.ok_iff] at hok
  have hok1 := hok.1
  refine bd Tryz.f102 27 [] [] fun w0 F0 own kept hk => ?_
  refine Walk.box (id := 3001) .none rfl rfl rfl rfl rfl rfl rfl ?_
  refine Walk.alloc (id := 3002) tz65 rfl .none rfl rfl rfl rfl ?_
  refine tv ?_
  refine Walk.build st65 (ks := [0, 1]) (xs := [_, _]) rfl rfl .none rfl rfl rfl ?_
  refine Walk.alloc (id := 3003) tz65 rfl .none rfl rfl rfl rfl ?_
  refine Walk.store ty65 .none rfl rfl rfl rfl rfl rfl (by simp) rfl ?_
  refine tv ?_
  refine CWp.tokB 3003 2 7 3 rfl rfl rfl rfl ?_
  refine CWp.loopX (ι := List (Val) × List (Val)) hk (fun x => [(14, .d (.i (x.1.length : Int)))]) [5, 15, 16, 17, 18, 19, 20, 21, 22, 23, 24, 25] (fun x => [(3003, some (.box [.d (.i v.ctor), .d (.i v.num), .gl 7 (x.1.map Val.cc)])), (7, some (.tok (x.1.map Val.cc).length 3))]) (fun x => x.1 ++ x.2 = v.kids) (fun x => x.2.length) ([], v.kids) (by simp) ⟨⟨_, rfl, (LeA.eqi (by first | rfl | (simp; done) | (simp_all; done) | omega))⟩, trivial⟩ ⟨(by first | rfl | (simp [getH]; done)), ⟨beq_nat_eq (by first | rfl | (simp; done) | (simp; omega) | (first | rfl | (simp; done) | (simp_all; done) | omega)), trivial⟩⟩ (fun x => rfl) (fun x hg1 => ?_)
  obtain ⟨pre, rest⟩ := x
  dsimp only at hg1 ⊢
  refine evc [] [] ?_
  refine sq (fun h1 h1p h1s => ?_) fun h1 h1p h1s => ?_
  ·try simp only [Q, Val.cs_len] at h1p
   rcases rest with _ | ⟨y, rest⟩
   ·exfalso; simp_all
   refine Walk.idx sl58 .none rfl rfl rfl rfl (Val.cs_at hg1) rfl ?_
   refine ev ?_
   refine Walk.alloc (id := 3005) tz65 rfl .none rfl rfl rfl rfl ?_
   refine Walk.store ty65 .none rfl rfl rfl rfl rfl rfl (by simp) rfl ?_
   refine tv ?_
   refine Walk.call (cr := []) cal102 (impl_ownValue_fn n (v := y) (by have := Vals.size_mem (l := v.kids) (v := y) (by rw [← hg1]; simp); omega) (Vals.ok_mem hok.2 y (by rw [← hg1]; simp))) rfl .none rfl rfl (LeL.refl _) trivial rfl rfl rfl ?_
   refine Walk.sliceLit sl58 tz65 rfl (by decide) (ks := [0]) (xs := [_]) rfl rfl (by decide) (by decide) .none rfl rfl rfl rfl ?_
   refine Walk.append sl58 zz65 rfl .none rfl rfl rfl rfl (htokL rfl (by first | rfl | (simp; done) | (simp; omega))) (by simp) (by have := congrArg List.length hg1; simp at this; simp; omega) (by have := congrArg List.length hg1; simp at this; simp; omega) ?_
   refine evd [] [] ?_
   refine Walk.store ty58 .none rfl rfl rfl rfl rfl rfl (by simp) rfl ?_
   refine dr ?_
   refine ar ?_
   refine Exists.intro ((pre ++ [y], rest)) ⟨(by have hz := hg1; rw [← hz]; simp), (by simp), Sub.x (by kernel_rfl) (by kernel_rfl) ⟨⟨_, rfl, (LeA.eqi (by first | rfl | (simp; done) | (simp_all; done) | omega))⟩, trivial⟩ (by kernel_rfl) (by kernel_rfl) ⟨(by first | rfl | (simp [getH]; done)), ⟨beq_nat_eq (by first | rfl | (simp; done) | (simp; omega) | (first | rfl | (simp; done) | (simp_all; done) | omega)), trivial⟩⟩⟩
  ·try simp only [Q, Val.cs_len] at h1p
   have hrest : rest = [] := by
    rcases rest with _ | ⟨a, b⟩
    ·rfl
    ·exfalso; have hz := congrArg List.length (hg1); simp only [List.length_append, List.length_cons, List.length_map] at hz; omega
   subst hrest
   refine Walk.store ty65 .none rfl rfl rfl rfl rfl rfl (by simp) rfl ?_
   refine tv ?_
   refine rn0 (.cons (.cellA ty65 rfl rfl rfl) .nil) (.agg (.cons (.eqd ?_) (.cons (.eqd ?_) (.cons (.gld ?_) .nil))))
   all_goals (first | rfl | (rw [List.append_nil] at hg1; rw [← hg1, Val.cs_cc]; done))
theorem spec_l2Copy_fn : ∀ (n : Nat) {v : Val}, v.size ≤ n → v.ok → FnD Tryz.prog 265 [.agg [.d (.i v.ctor), .d (.i v.num), .d (encVals v.kids)]] [] (.agg [.d (.i v.ctor), .d (.i v.num), .d (encVals v.kids)]) []
 | 0, v, h, _ => by rw [Val.size_eq] at h; omega
 | n + 1, v, h, hok => by
  rw [Val.size_eq] at h
  rw [Val.ok_iff] at hok
  have hok1 := hok.1
  refine bd Tryz.f265 29 [] [] fun w0 F0 own kept hk => ?_
  refine Walk.box (id := 3001) .none rfl rfl rfl rfl rfl rfl rfl ?_
  refine Walk.alloc (id := 3002) tz65 rfl .none rfl rfl rfl rfl ?_
  refine tv ?_
  refine Walk.build st65 (ks := [0, 1]) (xs := [_, _]) rfl rfl .none rfl rfl rfl ?_
  refine Walk.alloc (id := 3003) tz65 rfl .none rfl rfl rfl rfl ?_
  refine Walk.store ty65 .none rfl rfl rfl rfl rfl rfl (by simp) rfl ?_
  refine tv ?_
  refine CWp.tokB 3003 2 7 3 rfl rfl rfl rfl ?_
  refine CWp.loopX (ι := List (Val) × List (Val)) hk (fun x => [(4, .d (.i (x.1.length : Int)))]) [10, 11, 12, 13, 14, 15, 16, 17, 18, 19, 20, 21, 22, 23, 24, 25, 26, 27] (fun x => [(3003, some (.box [.d (.i v.ctor), .d (.i v.num), .gl 7 (x.1.map Val.cc)])), (7, some (.tok (x.1.map Val.cc).length 3))]) (fun x => x.1 ++ x.2 = v.kids) (fun x => x.2.length) ([], v.kids) (by simp) ⟨⟨_, rfl, (LeA.eqi (by first | rfl | (simp; done) | (simp_all; done) | omega))⟩, trivial⟩ ⟨(by first | rfl | (simp [getH]; done)), ⟨beq_nat_eq (by first | rfl | (simp; done) | (simp; omega) | (first | rfl | (simp; done) | (simp_all; done) | omega)), trivial⟩⟩ (fun x => rfl) (fun x hg1 => ?_)
  obtain ⟨pre, rest⟩ := x
  dsimp only at hg1 ⊢
  refine evc [] [] ?_
  refine sq (fun h1 h1p h1s => ?_) fun h1 h1p h1s => ?_
  ·try simp only [Q, Val.cs_len] at h1p
   rcases rest with _ | ⟨y, rest⟩
   ·exfalso; simp_all
   refine Walk.idx sl58 .none rfl rfl rfl rfl (Val.cs_at hg1) rfl ?_
   refine evd [] [] ?_
   refine Walk.call (cr := []) cal265 (spec_l2Copy_fn n (v := y) (by have := Vals.size_mem (l := v.kids) (v := y) (by rw [← hg1]; simp); omega) (Vals.ok_mem hok.2 y (by rw [← hg1]; simp))) rfl .none rfl rfl (LeL.refl _) trivial rfl rfl rfl ?_
   refine Walk.sliceLit sl58 tz65 rfl (by decide) (ks := [0]) (xs := [_]) rfl rfl (by decide) (by decide) .none rfl rfl rfl rfl ?_
   refine Walk.append sl58 zz65 rfl .none rfl rfl rfl rfl (htokL rfl (by first | rfl | (simp; done) | (simp; omega))) (by simp) (by have := congrArg List.length hg1; simp at this; simp; omega) (by have := congrArg List.length hg1; simp at this; simp; omega) ?_
   refine evd [] [] ?_
   refine Walk.store ty58 .none rfl rfl rfl rfl rfl rfl (by simp) rfl ?_
   refine dr ?_
   refine ar ?_
   refine Exists.intro ((pre ++ [y], rest)) ⟨(by have hz := hg1; rw [← hz]; simp), (by simp), Sub.x (by kernel_rfl) (by kernel_rfl) ⟨⟨_, rfl, (LeA.eqi (by first | rfl | (simp; done) | (simp_all; done) | omega))⟩, trivial⟩ (by kernel_rfl) (by kernel_rfl) ⟨(by first | rfl | (simp [getH]; done)), ⟨beq_nat_eq (by first | rfl | (simp; done) | (simp; omega) | (first | rfl | (simp; done) | (simp_all; done) | omega)), trivial⟩⟩⟩
  ·try simp only [Q, Val.cs_len] at h1p
   have hrest : rest = [] := by
    rcases rest with _ | ⟨a, b⟩
    ·rfl
    ·exfalso; have hz := congrArg List.length (hg1); simp only [List.length_append, List.length_cons, List.length_map] at hz; omega
   subst hrest
   refine Walk.store ty65 .none rfl rfl rfl rfl rfl rfl (by simp) rfl ?_
   refine tv ?_
   refine rn0 (.cons (.cellA ty65 rfl rfl rfl) .nil) (.agg (.cons (.eqd ?_) (.cons (.eqd ?_) (.cons (.gld ?_) .nil))))
   all_goals (first | rfl | (rw [List.append_nil] at hg1; rw [← hg1, Val.cs_cc]; done))
end Go.Proofs.YtdgknigklgnefaaGreat
namespace Go.Proofs.YtdgknigklgnefaaGreat
open Go
set_option linter.unusedSimpArgs false
set_option linter.unusedVariables false
end Go.Proofs.YtdgknigklgnefaaGreat
namespace Go.Proofs.YtdgknigklgnefaaGreat
open Go
set_option linter.unusedSimpArgs false
set_option linter.unusedVariables false
set_option maxRecDepth 100000
set_option maxHeartbeats 2000000
abbrev bdA (b : Bd) : List AV := [.d (.i b.var), .d (.i b.val.ctor), .d (.i b.val.num), .d (encVals b.val.kids)]
def bdC (L : List Bd) : List AV := ((L.map Bd.c).flatten).map AV.d
theorem cut_bd : ∀ {L : List Bd} {i : Nat}, i < L.length → cutC (bdC L) (i * 4) 4 = some (bdA (nth L i))
 | x :: r, 0, _ => by simp [cutC, nth, bdC, Bd.c]
 | x :: r, i + 1, h => by
  have := cut_bd (L := r) (i := i) (by simpa using h)
  rw [show (i + 1) * 4 = i * 4 + 1 + 1 + 1 + 1 by omega]
  exact this
theorem put_bd : ∀ {L : List Bd} {i : Nat} {e : Bd}, i < L.length → putC (bdC L) (i * 4) (bdA e) = some (bdC (L.set i e))
 | x :: r, 0, e, _ => by simp [putC, bdC, Bd.c]
 | x :: r, i + 1, e, h => by
  have := put_bd (L := r) (i := i) (e := e) (by simpa using h)
  rw [show (i + 1) * 4 = i * 4 + 1 + 1 + 1 + 1 by omega]
  show putC (.d _ :: .d _ :: .d _ :: .d _ :: bdC r) (i * 4 + 1 + 1 + 1 + 1) (bdA e) = _
  simp only [putC, this]
  rfl
theorem put_bv : ∀ {L : List Bd} {i : Nat}, i < L.length → putC (bdC L) (i * 4 + 1) [.d (.i (nth L i).val.ctor), .d (.i (nth L i).val.num), .d (encVals (nth L i).val.kids)] = some (bdC L)
 | x :: r, 0, _ => by simp [putC, nth, bdC, Bd.c]
 | x :: r, i + 1, h => by
  have := put_bv (L := r) (i := i) (by simpa using h)
  rw [show (i + 1) * 4 + 1 = i * 4 + 1 + 1 + 1 + 1 + 1 by omega]
  show putC (.d _ :: .d _ :: .d _ :: .d _ :: bdC r) (i * 4 + 1 + 1 + 1 + 1 + 1) [.d (.i (nth r i).val.ctor), .d (.i (nth r i).val.num), .d (encVals (nth r i).val.kids)] = _
  simp only [putC, this]
  rfl
theorem chunk_bd (L : List Bd) : chunkD (L.map Bd.c).length 4 (bdC L) = some (L.map Bd.c) := by
 have := chunkD_flat (f := Bd.c) (k := 4) (l := L) (fun _ _ => rfl)
 rw [List.length_map, ← this]
 congr 1
 unfold bdC
 rw [List.map_flatten, List.flatMap_def, List.map_map]
 rfl
def swapL (L : List Bd) (j : Nat) : List Bd := (L.set (j + 1) (nth L j)).set j (nth L (j + 1))
theorem swapL_len {L : List Bd} {j : Nat} : (swapL L j).length = L.length := by simp [swapL]
def sinkL : Nat → List Bd → List Bd
 | 0, L => L
 | j + 1, L => if (nth L (j + 1)).var < (nth L j).var then sinkL j (swapL L j) else L
theorem sink_go {j : Nat} {L : List Bd} (h : (nth L (j + 1)).var < (nth L j).var) : sinkL (j + 1) L = sinkL j (swapL L j) := by
 conv => lhs; unfold sinkL
 rw [if_pos h]
theorem sink_stop {j : Nat} {L : List Bd} (h : ¬ (nth L (j + 1)).var < (nth L j).var) : sinkL (j + 1) L = L := by
 unfold sinkL; rw [if_neg h]
theorem sinkL_len : ∀ (j : Nat) (L : List Bd), (sinkL j L).length = L.length
 | 0, _ => rfl
 | j + 1, L => by
  unfold sinkL; split
  ·rw [sinkL_len j, swapL_len]
  ·rfl
def sortL : Nat → Nat → List Bd → List Bd
 | 0, _, L => L
 | k + 1, i, L => sortL k (i + 1) (sinkL i L)
theorem sortL_next {n i : Nat} {L : List Bd} (h : i < n) : sortL (n - i) i L = sortL (n - (i + 1)) (i + 1) (sinkL i L) := by
 obtain ⟨k, rfl⟩ : ∃ k, n = i + 1 + k := ⟨n - (i + 1), by omega⟩
 rw [show i + 1 + k - i = k + 1 by omega, show i + 1 + k - (i + 1) = k by omega]
 rfl
theorem sortL_end {n i : Nat} {L : List Bd} (h : n ≤ i) : sortL (n - i) i L = L := by
 rw [show n - i = 0 by omega]; rfl
theorem bdC_ids (L : List Bd) : AV.idsL (bdC L) = [] := by
 unfold bdC
 generalize (L.map Bd.c).flatten = l
 induction l with
 | nil => rfl
 | cons x r ih => simpa [AV.idsL, AV.ids] using ih
theorem conv8 (b : UInt8) : 0 ≤ IntKind.i64.wrap (b.toNat : Int) ∧ IntKind.i64.wrap (b.toNat : Int) ≤ 255 := by
 have h : b.toNat < 256 := b.toNat_lt
 rw [wrap_i64 ⟨by omega, by omega⟩]
 omega
theorem ar8 (b : UInt8) : I64 (0 + IntKind.i64.wrap (b.toNat : Int)) := by
 have := conv8 b
 constructor <;> omega
theorem sink_done {j : Nat} {L : List Bd} (h : j = 0 ∨ ¬ (nth L j).var < (nth L (j - 1)).var) : sinkL j L = L := by
 cases j with
 | zero => rfl
 | succ j => exact sink_stop (h.resolve_left (by omega))
theorem okCall_bd {L L' : List Bd} : okCall [(9, some (.box (bdC L)))] [(9, some (.box (bdC L')))] (AV.tup []) [] = true := by
 simp only [okCall, List.all_cons, List.all_nil, entOK, entOK', AV.idsL, AV.ids, idsL_append, bdC_ids, List.map_cons, List.map_nil]; rfl
section
variable {c : Ctx} {env : Env} {hp : Hp} {K : Kt}
theorem CWp.condF {x y : Code} (hn : CWp c y ⟨env, hp⟩ K) : CWp c (.cond (.const (.bool false)) x y) ⟨env, hp⟩ K := by
 intro a w hr
 have he : a.eval (.const (.bool false)) = .bool false := rfl
 exact wp_cond_split he (fun h => by cases h) (fun _ => hn a w hr)
end
def cmpV (x y : Int) : Int := if x < y then -1 else if y < x then 1 else 0
theorem cmpV_neg {x y : Int} : cmpV x y < 0 ↔ x < y := by
 unfold cmpV; split
 ·omega
 ·split <;> omega
theorem u64_small {n : Int} (h : 0 ≤ n) (h2 : n ≤ 12) : IntKind.u64.wrap n = n := by
 obtain ⟨k, rfl⟩ := Int.eq_ofNat_of_zero_le h
 have : k ≤ 12 := by omega
 have h3 : k = 0 ∨ k = 1 ∨ k = 2 ∨ k = 3 ∨ k = 4 ∨ k = 5 ∨ k = 6 ∨ k = 7 ∨ k = 8 ∨ k = 9 ∨ k = 10 ∨ k = 11 ∨ k = 12 := by omega
 rcases h3 with rfl | rfl | rfl | rfl | rfl | rfl | rfl | rfl | rfl | rfl | rfl | rfl | rfl <;> rfl
theorem u8_small {n : Int} (h : 0 ≤ n) (h2 : n ≤ 12) : IntKind.u8.wrap n = n := by
 obtain ⟨k, rfl⟩ := Int.eq_ofNat_of_zero_le h
 have : k ≤ 12 := by omega
 have h3 : k = 0 ∨ k = 1 ∨ k = 2 ∨ k = 3 ∨ k = 4 ∨ k = 5 ∨ k = 6 ∨ k = 7 ∨ k = 8 ∨ k = 9 ∨ k = 10 ∨ k = 11 ∨ k = 12 := by omega
 rcases h3 with rfl | rfl | rfl | rfl | rfl | rfl | rfl | rfl | rfl | rfl | rfl | rfl | rfl <;> rfl
theorem cmp_isNaN_fn {x : Int} : FnD Tryz.prog 246 [.d (.i x)] [] (.d (.bool false)) [] := by
 refine bd Tryz.f246 6 [] [] fun w0 F0 own kept hk => ?_
 refine rn0 (r1 rfl) (.eqd ?_)
 all_goals (first | rfl | (refine congrArg D.bool ?_; simp; done))
theorem cmp_Compare_fn {x y : Int} : FnD Tryz.prog 184 [.d (.i x), .d (.i y)] [] (.d (.i (cmpV x y))) [] := by
 refine bd Tryz.f184 20 [] [] fun w0 F0 own kept hk => ?_
 refine Walk.call (cr := []) cal246 (cmp_isNaN_fn) rfl .none rfl rfl (LeL.refl _) trivial rfl rfl rfl ?_
 refine ev ?_
 refine Walk.call (cr := []) cal246 (cmp_isNaN_fn) rfl .none rfl rfl (LeL.refl _) trivial rfl rfl rfl ?_
 refine ev ?_
 refine sq (fun h1 h1p h1s => ?_) fun h1 h1p h1s => ?_
 ·try simp only [Q] at h1p
  refine sq (fun h2 h2p h2s => ?_) fun h2 h2p h2s => ?_
  ·try simp only [Q] at h2p
   refine rn0 (r1 rfl) (.eqd ?_)
   all_goals (refine congrArg D.i ?_; unfold cmpV; first | (simp_all; done) | (rw [if_pos (by omega)]; done) | (rw [if_neg (by omega), if_pos (by omega)]; done) | (rw [if_neg (by omega), if_neg (by omega)]; done))
  ·try simp only [Q] at h2p
   refine rn0 (r1 rfl) (.eqd ?_)
   all_goals (refine congrArg D.i ?_; unfold cmpV; first | (simp_all; done) | (rw [if_pos (by omega)]; done) | (rw [if_neg (by omega), if_pos (by omega)]; done) | (rw [if_neg (by omega), if_neg (by omega)]; done))
 ·try simp only [Q] at h1p
  refine sq (fun h3 h3p h3s => ?_) fun h3 h3p h3s => ?_
  ·try simp only [Q] at h3p
   refine rn0 (r1 rfl) (.eqd ?_)
   all_goals (refine congrArg D.i ?_; unfold cmpV; first | (simp_all; done) | (rw [if_pos (by omega)]; done) | (rw [if_neg (by omega), if_pos (by omega)]; done) | (rw [if_neg (by omega), if_neg (by omega)]; done))
  ·try simp only [Q] at h3p
   refine sq (fun h4 h4p h4s => ?_) fun h4 h4p h4s => ?_
   ·try simp only [Q] at h4p
    refine rn0 (r1 rfl) (.eqd ?_)
    all_goals (refine congrArg D.i ?_; unfold cmpV; first | (simp_all; done) | (rw [if_pos (by omega)]; done) | (rw [if_neg (by omega), if_pos (by omega)]; done) | (rw [if_neg (by omega), if_neg (by omega)]; done))
   ·try simp only [Q] at h4p
    refine sq (fun h5 h5p h5s => ?_) fun h5 h5p h5s => ?_
    ·try simp only [Q] at h5p
     refine rn0 (r1 rfl) (.eqd ?_)
     all_goals (refine congrArg D.i ?_; unfold cmpV; first | (simp_all; done) | (rw [if_pos (by omega)]; done) | (rw [if_neg (by omega), if_pos (by omega)]; done) | (rw [if_neg (by omega), if_neg (by omega)]; done))
    ·try simp only [Q] at h5p
     refine rn0 (r1 rfl) (.eqd ?_)
     all_goals (refine congrArg D.i ?_; unfold cmpV; first | (simp_all; done) | (rw [if_pos (by omega)]; done) | (rw [if_neg (by omega), if_pos (by omega)]; done) | (rw [if_neg (by omega), if_neg (by omega)]; done))
theorem impl_matched_1_fn {a b : Bd} : FnD Tryz.prog 183 [.agg (bdA a), .agg (bdA b)] [] (.d (.i (cmpV a.var b.var))) [] := by
 refine bd Tryz.f183 10 [] [] fun w0 F0 own kept hk => ?_
 refine Walk.box (id := 3002) .none rfl rfl rfl rfl rfl rfl rfl ?_
 refine Walk.box (id := 3003) .none rfl rfl rfl rfl rfl rfl rfl ?_
 refine ev ?_
 refine Walk.call (cr := []) cal184 (cmp_Compare_fn) rfl .none rfl rfl (LeL.refl _) trivial rfl rfl rfl ?_
 refine ev ?_
 refine rn0 (r1 rfl) (.eqd ?_)
 all_goals (rfl)
theorem bits_Len64_fn {m : Int} (h0 : 0 ≤ m) (h12 : m ≤ 12) : FnD Tryz.prog 292 [.d (.int .u64 m)] [] .any [] := by
 have hu := u8_small h0 h12
 refine bd Tryz.f292 25 [4, 8, 14] [] fun w0 F0 own kept hk => ?_
 refine Walk.geI .none rfl rfl rfl ?_
 refine tv ?_
 refine sq (fun h1 h1p h1s => ?_) fun h1 h1p h1s => ?_
 ·try simp only [Q] at h1p
  exfalso; omega --stop
 ·try simp only [Q] at h1p
  refine Walk.geI .none rfl rfl rfl ?_
  refine tv ?_
  refine sq (fun h2 h2p h2s => ?_) fun h2 h2p h2s => ?_
  ·try simp only [Q] at h2p
   exfalso; omega --stop
  ·try simp only [Q] at h2p
   refine Walk.geI .none rfl rfl rfl ?_
   refine tv ?_
   refine sq (fun h3 h3p h3s => ?_) fun h3 h3p h3s => ?_
   ·try simp only [Q] at h3p
    exfalso; omega --stop
   ·try simp only [Q] at h3p
    refine Walk.conv (k' := .u8) (by kernel_rfl) (by kernel_rfl) .none rfl rfl ?_
    refine Walk.idxS (i := m.toNat) un9 .none rfl rfl rfl (by rw [hu]; omega) (List.getElem?_eq_getElem (by first | omega | (simp; omega))) ?_
    refine Walk.conv (by rw [un5]; rfl) un3 .none rfl rfl ?_
    refine evs [4, 8, 14] [] ?_
    refine ar ?_ (ar8 _)
    refine rn0 (r1 rfl) (.any _)
    all_goals (rfl)
theorem cal292 : Callee Tryz.prog 292 := ⟨fun args w => hasBody (fn := Tryz.f292) rfl rfl (by decide) args w⟩
theorem bits_Len_fn {m : Int} (h0 : 0 ≤ m) (h12 : m ≤ 12) : FnD Tryz.prog 245 [.d (.int .u64 m)] [] .any [] := by
 refine Fn.body (fn := Tryz.f245) (n := 8) rfl rfl rfl rfl rfl (fun w0 F0 own kept hk => ?_)
 refine sr ?_
 refine asg ?_
 refine tv ?_
 refine CWp.seq ?_
 refine CWp.condF ?_
 refine CWp.skip ?_
 refine sr ?_
 refine mv ?_
 refine Walk.call (cr := []) cal292 (bits_Len64_fn h0 h12) rfl .none rfl rfl (LeL.refl _) trivial rfl rfl rfl ?_
 refine asg ?_
 refine tv ?_
 refine CWp.ret ?_
 refine ⟨_, _, [], (.cons (.tmp rfl) .nil), (.any _), ⟨rfl, rfl⟩, HSub.nil, noBox⟩
 all_goals (rfl)
theorem slices_insertionSort_fn {L : List Bd} {f : Nat} (hn : L.length ≤ 12) (hcal : Callee Tryz.prog f) (hf : ∀ a b : Bd, FnD Tryz.prog f ([.agg (bdA a), .agg (bdA b)] ++ []) [] (.d (.i (cmpV a.var b.var))) []) :
  FnD Tryz.prog 283 [.ms 9 L.length, .d (.i 0), .d (.i L.length), .fn f []] [(9, some (.box (bdC L)))] (.tup []) [(9, some (.box (bdC (sortL (L.length - 1) 1 L))))] := by
 refine bd Tryz.f283 53 [26, 31, 46, 50] [] fun w0 F0 own kept hk => ?_
 refine ar ?_
 refine CWp.loopX (ι := Nat × List Bd) hk (fun x => [(8, .d (.i (x.1 : Int)))]) [9, 12, 13, 14, 15, 16, 17, 18, 19, 20, 21, 22, 23, 24, 25, 26, 27, 28, 29, 30, 31, 32, 33, 34, 35, 36, 37, 38, 39, 40, 41, 42, 43, 44, 45, 46, 47, 48, 49, 50, 51, 52] (fun x => [(9, some (.box (bdC x.2)))]) (fun x => 1 ≤ x.1 ∧ x.1 ≤ L.length + 1 ∧ x.2.length = L.length ∧ sortL (L.length - x.1) x.1 x.2 = sortL (L.length - 1) 1 L) (fun x => L.length - x.1) (1, L) ⟨by simp, by simp, rfl, rfl⟩ ⟨⟨_, rfl, (LeA.eqi (by first | rfl | omega | (dsimp only; omega)))⟩, trivial⟩ ⟨(by first | rfl | (show some (Res.box _) = some (Res.box _); rw [← hg2.2.2, sink_done (by first | (left; omega) | (right; rw [← cmpV_neg]; assumption))])), trivial⟩ (fun x => rfl) (fun x hg1 => ?_)
 refine evc [26, 31, 46, 50] [] ?_
 refine sq (fun h1 h1p h1s => ?_) fun h1 h1p h1s => ?_
 ·try simp only [Q] at h1p
  refine CWp.loopX (ι := Nat × List Bd) hk (fun y => [(9, .d (.i (y.1 : Int)))]) [18, 19, 20, 21, 22, 23, 24, 25, 26, 27, 28, 29, 30, 31, 32, 33, 34, 35, 36, 37, 38, 39, 40, 41, 42, 43, 44, 45, 46, 47, 48, 49, 50, 51, 52] (fun y => [(9, some (.box (bdC y.2)))]) (fun y => y.1 ≤ x.1 ∧ y.2.length = L.length ∧ sinkL y.1 y.2 = sinkL x.1 x.2) (fun y => y.1) (x.1, x.2) ⟨Nat.le_refl _, hg1.2.2.1, rfl⟩ ⟨⟨_, rfl, (LeA.eqi (by first | rfl | omega | (dsimp only; omega)))⟩, trivial⟩ ⟨(by first | rfl | (show some (Res.box _) = some (Res.box _); unfold swapL; rw [show y.1 - 1 + 1 = y.1 by omega])), trivial⟩ (fun x => rfl) (fun y hg2 => ?_)
  refine evc [26, 31, 46, 50] [] ?_
  refine sq (fun h2 h2p h2s => ?_) fun h2 h2p h2s => ?_
  ·try simp only [Q] at h2p
   refine Walk.idxM sl61 (.some rfl rfl h2) rfl rfl rfl rfl (by omega) ?_
   refine Walk.loadBA ty177 (.some rfl rfl h2) rfl rfl rfl ((cut_bd (by omega))) ?_
   refine evd [26, 31, 46, 50] [(21, true)] ?_ ⟨⟨_, rfl, h2⟩, trivial⟩
   refine ar ?_
   refine Walk.idxM (i := y.1 - 1) sl61 (.some rfl rfl h2) rfl rfl rfl (by omega) (by omega) ?_
   refine Walk.loadBA ty177 (.some rfl rfl h2) rfl rfl rfl ((cut_bd (by omega))) ?_
   refine Walk.callV (cr := []) hcal (hf _ _) rfl (.some rfl rfl h2) rfl rfl rfl (LeL.refl _) trivial rfl (by first | rfl | (simp only [okCall, List.all_cons, List.all_nil, entOK, entOK', AV.idsL, AV.ids, idsL_append, ownCells_ids, List.map_cons, List.map_nil, bdC_ids]; rfl)) (by first | rfl | (simp only [freshB, occH, occE, Res.ids, List.cons_append, List.nil_append, AV.idsL, AV.ids, idsL_append, ownCells_ids, zerosA_idsR, repNil, List.map_cons, List.map_nil, upC, bdC_ids]; rfl)) ?_
   refine evd [26, 31, 46, 50] [(21, true)] ?_ ⟨⟨_, rfl, h2⟩, trivial⟩
   refine dr ?_
   refine sq (fun h3 h3p h3s => ?_) fun h3 h3p h3s => ?_
   ·try simp only [Q] at h3p
    refine ar ?_
    refine ar ?_
    refine Walk.idxM (i := y.1 - 1) sl61 .none rfl rfl rfl (by omega) (by omega) ?_
    refine Walk.loadBA ty177 .none rfl rfl rfl ((cut_bd (by omega))) ?_
    refine evd [26, 31, 46, 50] [] ?_
    refine Walk.idxM sl61 .none rfl rfl rfl rfl (by omega) ?_
    refine Walk.loadBA ty177 .none rfl rfl rfl ((cut_bd (by omega))) ?_
    refine Walk.idxM sl61 .none rfl rfl rfl rfl (by omega) ?_
    refine Walk.store ty177 .none rfl rfl rfl rfl rfl rfl (by simp) ((put_bd (by first | omega | (simp; omega)))) ?_
    refine Walk.idxM (i := y.1 - 1) sl61 .none rfl rfl rfl (by omega) (by omega) ?_
    refine Walk.store ty177 .none rfl rfl rfl rfl rfl rfl (by simp) ((put_bd (by first | omega | (simp; omega)))) ?_
    refine dr ?_
    refine ar ?_
    refine Exists.intro ((y.1 - 1, swapL y.2 (y.1 - 1))) ⟨⟨by dsimp only; omega, by dsimp only; rw [swapL_len]; exact hg2.2.1, by have hlt : (nth y.2 (y.1 - 1 + 1)).var < (nth y.2 (y.1 - 1)).var := (by rw [show y.1 - 1 + 1 = y.1 by omega]; exact cmpV_neg.1 (by assumption)); have hk := sink_go hlt; rw [show y.1 - 1 + 1 = y.1 by omega] at hk; dsimp only; rw [← hk]; exact hg2.2.2⟩, (by dsimp only; omega), Sub.x (by kernel_rfl) (by kernel_rfl) ⟨⟨_, rfl, (LeA.eqi (by first | rfl | omega | (dsimp only; omega)))⟩, trivial⟩ (by kernel_rfl) (by kernel_rfl) ⟨(by first | rfl | (show some (Res.box _) = some (Res.box _); unfold swapL; rw [show y.1 - 1 + 1 = y.1 by omega])), trivial⟩⟩
   ·try simp only [Q] at h3p
    refine ar ?_
    refine Exists.intro ((x.1 + 1, sinkL x.1 x.2)) ⟨⟨by dsimp only; omega, by dsimp only; omega, by dsimp only; rw [sinkL_len]; exact hg1.2.2.1, by dsimp only; rw [← sortL_next (by omega)]; exact hg1.2.2.2⟩, (by dsimp only; omega), Sub.x (by kernel_rfl) (by kernel_rfl) ⟨⟨_, rfl, (LeA.eqi (by first | rfl | omega | (dsimp only; omega)))⟩, trivial⟩ (by kernel_rfl) (by kernel_rfl) ⟨(by first | rfl | (show some (Res.box _) = some (Res.box _); rw [← hg2.2.2, sink_done (by first | (left; omega) | (right; rw [← cmpV_neg]; assumption))])), trivial⟩⟩
  ·try simp only [Q] at h2p
   refine dr ?_
   refine sqF ?_
   refine ar ?_
   refine Exists.intro ((x.1 + 1, sinkL x.1 x.2)) ⟨⟨by dsimp only; omega, by dsimp only; omega, by dsimp only; rw [sinkL_len]; exact hg1.2.2.1, by dsimp only; rw [← sortL_next (by omega)]; exact hg1.2.2.2⟩, (by dsimp only; omega), Sub.x (by kernel_rfl) (by kernel_rfl) ⟨⟨_, rfl, (LeA.eqi (by first | rfl | omega | (dsimp only; omega)))⟩, trivial⟩ (by kernel_rfl) (by kernel_rfl) ⟨(by first | rfl | (show some (Res.box _) = some (Res.box _); rw [← hg2.2.2, sink_done (by first | (left; omega) | (right; rw [← cmpV_neg]; assumption))])), trivial⟩⟩
 ·try simp only [Q] at h1p
  refine rn [(9, some (.box (bdC (sortL (L.length - 1) 1 L))))] .nil (.refl _) ⟨rfl, rfl⟩ (SubO.get ⟨.inr (by show some (Res.box _) = some (Res.box _); rw [← hg1.2.2.2, sortL_end (by omega)]), ⟨.inl rfl, trivial⟩⟩) (boxOK rfl)
  all_goals (rfl)
theorem slices_insertionSort_nil {f : Nat} : FnD Tryz.prog 283 [.d (.sl []), .d (.i 0), .d (.i 0), .fn f []] [] (.tup []) [] := by
 refine bd Tryz.f283 53 [] [] fun w0 F0 own kept hk => ?_
 refine ar ?_
 refine CWp.loopX (ι := Unit) hk (fun u => [(8, .d (.i 1))]) [9, 12, 13, 14, 15, 16, 17, 18, 19, 20, 21, 22, 23, 24, 25, 26, 27, 28, 29, 30, 31, 32, 33, 34, 35, 36, 37, 38, 39, 40, 41, 42, 43, 44, 45, 46, 47, 48, 49, 50, 51, 52] (fun u => []) (fun u => True) (fun u => 0) () trivial ⟨⟨_, rfl, (LeA.eqi (by first | rfl | (simp; done) | (simp_all; done) | omega))⟩, trivial⟩ trivial (fun x => rfl) (fun u hg1 => ?_)
 refine evc [] [] ?_
 refine sq (fun h1 h1p h1s => ?_) fun h1 h1p h1s => ?_
 ·try simp only [Q] at h1p
  exfalso; simp at h1 --stop
 ·try simp only [Q] at h1p
  refine rn0 .nil (.refl _)
  all_goals (rfl)
theorem slices_pdqsort_fn {L : List Bd} {f : Nat} (hn : L.length ≤ 12) (hcal : Callee Tryz.prog f) (hf : ∀ a b : Bd, FnD Tryz.prog f ([.agg (bdA a), .agg (bdA b)] ++ []) [] (.d (.i (cmpV a.var b.var))) []) :
  FnD Tryz.prog 244 [.ms 9 L.length, .d (.i 0), .d (.i L.length), .any, .fn f []] [(9, some (.box (bdC L)))] (.tup []) [(9, some (.box (bdC (sortL (L.length - 1) 1 L))))] := by
 refine bd Tryz.f244 148 [] [] fun w0 F0 own kept hk => ?_
 refine CWp.loopX (ι := Unit) hk (fun u => [(1, .d (.i 0)), (2, .d (.i (L.length : Int)))]) [3, 10, 11, 12, 13, 14, 15, 16, 17, 18, 19, 20, 21, 22, 23, 24, 25, 26, 27, 28, 29, 30, 31, 32, 33, 34, 35, 36, 37, 38, 39, 40, 41, 42, 43, 44, 45, 46, 47, 48, 49, 50, 51, 52, 53, 54, 55, 56, 57, 58, 59, 60, 61, 62, 63, 64, 65, 66, 67, 68, 69, 70, 71, 72, 73, 74, 75, 76, 77, 78, 79, 80, 81, 82, 83, 84, 85, 86, 87, 88, 89, 90, 91, 92, 93, 94, 95, 96, 97, 98, 99, 100, 101, 102, 103, 104, 105, 106, 107, 108, 109, 110, 111, 112, 113, 114, 115, 116, 117, 118, 119, 120, 121, 122, 123, 124, 125, 126, 127, 128, 129, 130, 131, 132, 133, 134, 135, 136, 137, 138, 139, 140, 141, 142, 143, 144, 145, 146, 147] (fun u => [(9, some (.box (bdC L)))]) (fun u => True) (fun u => 0) () trivial ⟨⟨_, rfl, (LeA.eqi (by first | rfl | (simp; done) | (simp_all; done) | omega))⟩, ⟨⟨_, rfl, (LeA.eqi (by first | rfl | (simp; done) | (simp_all; done) | omega))⟩, trivial⟩⟩ ⟨(by first | rfl | (simp [getH]; done)), trivial⟩ (fun x => rfl) (fun u hg1 => ?_)
 refine evc [] [] ?_
 refine ar ?_
 refine sq (fun h1 h1p h1s => ?_) fun h1 h1p h1s => ?_
 ·try simp only [Q] at h1p
  refine Walk.call (cr := []) cal283 (slices_insertionSort_fn hn hcal hf) rfl .none rfl rfl (.cons (LeA.msn (by first | rfl | (simp; done))) (.cons (.refl _) (.cons (.refl _) (.cons (.refl _) .nil)))) ⟨rfl, trivial⟩ rfl okCall_bd rfl ?_
  refine tv ?_
  refine rn [(9, some (.box (bdC (sortL (L.length - 1) 1 L))))] .nil (.refl _) ⟨rfl, rfl⟩ (SubO.get ⟨.inr (by rfl), ⟨.inl rfl, trivial⟩⟩) (boxOK rfl)
  all_goals (rfl)
 ·try simp only [Q] at h1p
  exfalso; omega --stop
theorem slices_pdqsort_nil {f : Nat} : FnD Tryz.prog 244 [.d (.sl []), .d (.i 0), .d (.i 0), .any, .fn f []] [] (.tup []) [] := by
 refine bd Tryz.f244 148 [] [] fun w0 F0 own kept hk => ?_
 refine CWp.loopX (ι := Unit) hk (fun u => [(1, .d (.i 0)), (2, .d (.i 0))]) [3, 10, 11, 12, 13, 14, 15, 16, 17, 18, 19, 20, 21, 22, 23, 24, 25, 26, 27, 28, 29, 30, 31, 32, 33, 34, 35, 36, 37, 38, 39, 40, 41, 42, 43, 44, 45, 46, 47, 48, 49, 50, 51, 52, 53, 54, 55, 56, 57, 58, 59, 60, 61, 62, 63, 64, 65, 66, 67, 68, 69, 70, 71, 72, 73, 74, 75, 76, 77, 78, 79, 80, 81, 82, 83, 84, 85, 86, 87, 88, 89, 90, 91, 92, 93, 94, 95, 96, 97, 98, 99, 100, 101, 102, 103, 104, 105, 106, 107, 108, 109, 110, 111, 112, 113, 114, 115, 116, 117, 118, 119, 120, 121, 122, 123, 124, 125, 126, 127, 128, 129, 130, 131, 132, 133, 134, 135, 136, 137, 138, 139, 140, 141, 142, 143, 144, 145, 146, 147] (fun u => []) (fun u => True) (fun u => 0) () trivial ⟨⟨_, rfl, (LeA.eqi (by first | rfl | (simp; done) | (simp_all; done) | omega))⟩, ⟨⟨_, rfl, (LeA.eqi (by first | rfl | (simp; done) | (simp_all; done) | omega))⟩, trivial⟩⟩ trivial (fun x => rfl) (fun u hg1 => ?_)
 refine evc [] [] ?_
 refine ar ?_
 refine sq (fun h1 h1p h1s => ?_) fun h1 h1p h1s => ?_
 ·try simp only [Q] at h1p
  refine Walk.call (cr := []) cal283 (slices_insertionSort_nil) rfl .none rfl rfl (LeL.refl _) trivial rfl rfl rfl ?_
  refine tv ?_
  refine rn0 .nil (.refl _)
  all_goals (rfl)
 ·try simp only [Q] at h1p
  exfalso; simp at h1 --stop
theorem slices_SortFunc_fn {L : List Bd} {f : Nat} (hn : L.length ≤ 12) (hcal : Callee Tryz.prog f) (hf : ∀ a b : Bd, FnD Tryz.prog f ([.agg (bdA a), .agg (bdA b)] ++ []) [] (.d (.i (cmpV a.var b.var))) []) :
  FnD Tryz.prog 182 [.ms 9 L.length, .fn f []] [(9, some (.box (bdC L)))] (.tup []) [(9, some (.box (bdC (sortL (L.length - 1) 1 L))))] := by
 have hu := u64_small (n := (L.length : Int)) (by omega) (by omega)
 refine bd Tryz.f182 14 [] [] fun w0 F0 own kept hk => ?_
 refine Walk.conv (k' := .u64) (by kernel_rfl) (by kernel_rfl) .none rfl rfl ?_
 refine Walk.call (cr := []) cal245 (bits_Len_fn (by rw [hu]; omega) (by rw [hu]; omega)) rfl .none rfl rfl (LeL.refl _) trivial rfl (by first | rfl | (simp only [okCall, List.all_cons, List.all_nil, entOK, entOK', AV.idsL, AV.ids, idsL_append, ownCells_ids, List.map_cons, List.map_nil, bdC_ids]; rfl)) (by first | rfl | (simp only [freshB, occH, occE, Res.ids, List.cons_append, List.nil_append, AV.idsL, AV.ids, idsL_append, ownCells_ids, zerosA_idsR, repNil, List.map_cons, List.map_nil, upC, bdC_ids]; rfl)) ?_
 refine ev ?_
 refine Walk.call (cr := []) cal244 (slices_pdqsort_fn hn hcal hf) rfl .none rfl rfl (.cons (LeA.msn (by first | rfl | (simp; done))) (.cons (.refl _) (.cons (.refl _) (.cons (.refl _) (.cons (.refl _) .nil))))) ⟨rfl, trivial⟩ rfl okCall_bd rfl ?_
 refine tv ?_
 refine rn [(9, some (.box (bdC (sortL (L.length - 1) 1 L))))] .nil (.refl _) ⟨rfl, rfl⟩ (SubO.get ⟨.inr (by rfl), ⟨.inl rfl, trivial⟩⟩) (boxOK rfl)
 all_goals (rfl)
theorem slices_SortFunc_nil {f : Nat} : FnD Tryz.prog 182 [.d (.sl []), .fn f []] [] (.tup []) [] := by
 refine bd Tryz.f182 14 [] [] fun w0 F0 own kept hk => ?_
 refine Walk.conv (k' := .u64) (by kernel_rfl) (by kernel_rfl) .none rfl rfl ?_
 refine Walk.call (cr := []) cal245 (bits_Len_fn (m := IntKind.u64.wrap 0) (by decide) (by decide)) rfl .none rfl rfl (LeL.refl _) trivial rfl rfl rfl ?_
 refine ev ?_
 refine Walk.call (cr := []) cal244 (slices_pdqsort_nil) rfl .none rfl rfl (LeL.refl _) trivial rfl rfl rfl ?_
 refine tv ?_
 refine rn0 .nil (.refl _)
 all_goals (rfl)
theorem swapL_perm {L : List Bd} {j : Nat} (h : j + 1 < L.length) : (swapL L j).Perm L := by
 have e : L = L.take j ++ nth L j :: nth L (j + 1) :: L.drop (j + 2) := by
  have h1 : L.drop j = nth L j :: L.drop (j + 1) := drop_nth (by omega)
  have h2 : L.drop (j + 1) = nth L (j + 1) :: L.drop (j + 2) := drop_nth (by omega)
  conv => lhs; rw [← List.take_append_drop j L, h1, h2]
 have hl : (L.take j).length = j := by rw [List.length_take]; omega
 generalize nth L j = x at e
 generalize nth L (j + 1) = y at e
 generalize L.take j = A at *
 generalize L.drop (j + 2) = B at *
 subst e
 have n1 : nth (A ++ x :: y :: B) j = x := by rw [← hl]; simp [nth, List.getD]
 have n2 : nth (A ++ x :: y :: B) (j + 1) = y := by rw [← hl]; simp [nth, List.getD]
 unfold swapL
 rw [n1, n2]
 have s1 : ((A ++ x :: y :: B).set (j + 1) x).set j y = A ++ y :: x :: B := by
  rw [← hl]; simp
 rw [s1]
 exact (List.Perm.swap x y B).append_left A
theorem sinkL_perm : ∀ (j : Nat) (L : List Bd), j < L.length → (sinkL j L).Perm L
 | 0, L, _ => List.Perm.refl _
 | j + 1, L, h => by
  unfold sinkL; split
  ·exact (sinkL_perm j (swapL L j) (by rw [swapL_len]; omega)).trans (swapL_perm h)
  ·exact List.Perm.refl _
theorem sortL_perm : ∀ (k i : Nat) (L : List Bd), i + k ≤ L.length → (sortL k i L).Perm L
 | 0, _, _, _ => List.Perm.refl _
 | k + 1, i, L, h => by
  unfold sortL
  exact (sortL_perm k (i + 1) (sinkL i L) (by rw [sinkL_len]; omega)).trans (sinkL_perm i L (by omega))
def sortB (L : List Bd) : List Bd := sortL (L.length - 1) 1 L
theorem sortB_perm (L : List Bd) : (sortB L).Perm L := by
 cases L with
 | nil => exact List.Perm.refl _
 | cons x r => exact sortL_perm _ _ _ (by simp; omega)
theorem sortB_len (L : List Bd) : (sortB L).length = L.length := (sortB_perm L).length_eq
theorem sortB_ok {m : Nat} {L : List Bd} (h : BdOk m L) : BdOk m (sortB L) := fun x hx => h x ((sortB_perm L).mem_iff.1 hx)
def matchedV (n : Nat) (p : Pat) (v : Val) : List Bd × Bool := if (matchV n p v).2 = true then (sortB (matchV n p v).1, true) else ([], false)
theorem matchedV_ok (n : Nat) (p : Pat) (v : Val) : (matchedV n p v).2 = (matchV n p v).2 := by
 unfold matchedV; split <;> simp_all
structure MatchOk (w : List Data) (n m : Nat) (t : Ty) (p : Pat) (v : Val) : Prop where
 shape : shapeP w n t p = true
 fits : fitsV w m t v = true
 pok : p.ok
 vok : v.ok
 psz : p.size ≤ 100
 vsz : v.size ≤ 100
theorem MatchOk.kid {w : List Data} {n m : Nat} {t : Ty} {p : Pat} {v : Val} (h : MatchOk w (n + 1) m t p v) (h4 : p.op = 4) (hc : p.ctor = v.ctor) :
  p.kids.length = v.kids.length ∧ ∃ k, ∀ i, i < p.kids.length → MatchOk w n k (nth (typesP w t p) i) (nth p.kids i) (nth v.kids i) := by
 obtain ⟨ho, hlen⟩ := shapeP_own h.shape
 have hct := ownP_mem ho h4
 have hdt : t.data ≠ -1 := fun e => by unfold vctors at hct; rw [if_pos e] at hct; simp at hct
 have hk := fun i (hi : i < p.kids.length) => shapeP_kid h.shape hi
 have hpk := (Pat.ok_iff p).1 h.pok
 have hvk := (Val.ok_iff v).1 h.vok
 have hps := Pat.size_eq p
 have hvs := Val.size_eq v
 cases m with
 | zero => have := h.fits; simp [fitsV] at this
 | succ m =>
  obtain ⟨f1, f2, f3⟩ := fits_ctor h.fits hdt
  have ht4 := types4 (w := w) (t := t) h4
  rw [ht4] at hlen
  rw [← hc] at f2 f3
  refine ⟨by omega, m, fun i hi => ?_⟩
  have z1 := pnth_size (l := p.kids) hi
  have z2 := nth_size (l := v.kids) (i := i) (by omega)
  refine ⟨hk i hi, by rw [ht4]; exact f3 i (by omega), Pats.ok_mem hpk.2 _ (nth_mem hi), Vals.ok_mem hvk.2 _ (nth_mem (by omega)), ?_, ?_⟩
  ·have := h.psz; omega
  ·have := h.vsz; omega
theorem MatchOk.two {w : List Data} {n m : Nat} {t : Ty} {p : Pat} {v : Val} (h : MatchOk w (n + 1) m t p v) (h5 : p.op = 5) :
  p.kids.length = 2 ∧ MatchOk w n m t (nth p.kids 0) v ∧ MatchOk w n m t (nth p.kids 1) v := by
 obtain ⟨hl, s0, s1⟩ := shape_two h.shape h5
 have hpk := (Pat.ok_iff p).1 h.pok
 have hps := Pat.size_eq p
 have z0 := pnth_size (l := p.kids) (i := 0) (by omega)
 have z1 := pnth_size (l := p.kids) (i := 1) (by omega)
 have hs := h.psz
 exact ⟨hl, ⟨s0, h.fits, Pats.ok_mem hpk.2 _ (nth_mem (by omega)), h.vok, by omega, h.vsz⟩, ⟨s1, h.fits, Pats.ok_mem hpk.2 _ (nth_mem (by omega)), h.vok, by omega, h.vsz⟩⟩
theorem MatchOk.one {w : List Data} {n m : Nat} {t : Ty} {p : Pat} {v : Val} (h : MatchOk w (n + 1) m t p v) (h6 : p.op = 6) :
  p.kids.length = 1 ∧ MatchOk w n m t (nth p.kids 0) v := by
 obtain ⟨hl, s0⟩ := shape_one h.shape h6
 have hpk := (Pat.ok_iff p).1 h.pok
 have hps := Pat.size_eq p
 have z0 := pnth_size (l := p.kids) (i := 0) (by omega)
 have hs := h.psz
 exact ⟨hl, ⟨s0, h.fits, Pats.ok_mem hpk.2 _ (nth_mem (by omega)), h.vok, by omega, h.vsz⟩⟩
theorem bd_rows (l : List Bd) : ∀ x ∈ l.map Bd.c, x.length = 4 := fun x hx => by
 obtain ⟨y, _, rfl⟩ := List.mem_map.1 hx; rfl
theorem impl_match_fn {w : List Data} : ∀ (n m : Nat) {t : Ty} {p : Pat} {v : Val}, MatchOk w n m t p v →
  FnD Tryz.prog 181 [.agg [.d (.i p.op), .d (.i p.ctor), .d (.i p.n), .d (.i p.m), .d (.i p.var), .d (encPats p.kids)], .agg [.d (.i v.ctor), .d (.i v.num), .d (encVals v.kids)]] [] (.tup [.d (encBds (matchV n p v).1), .d (.bool (matchV n p v).2)]) []
 | 0, m, t, p, v, h => by have := h.shape; simp [shapeP] at this
 | n + 1, m, t, p, v, h => by
  have hop := shape_op h.shape
  have k4 := h.kid
  have k5 := h.two
  have k6 := h.one
  have hsz := h.psz
  have hps := Pat.size_eq p
  have hkl := ((Pat.ok_iff p).1 h.pok).1
  have mok := fun {t : Ty} {q : Pat} {u : Val} (hs : shapeP w n t q = true) (hu : u.ok) => matchV_ok n hs hu
  by_cases c4 : p.op = 4 ∧ p.ctor = v.ctor
  ·obtain ⟨hl, k, hkm⟩ := k4 c4.1 c4.2
   have hm4 := match_4 (n := n) c4.1 c4.2
   refine bd Tryz.f181 105 [10] [] fun w0 F0 own kept hk => ?_
   refine Walk.box (id := 3002) .none rfl rfl rfl rfl rfl rfl rfl ?_
   refine Walk.box (id := 3003) .none rfl rfl rfl rfl rfl rfl rfl ?_
   refine evs [10] [] ?_
   refine sq (fun h1 h1p h1s => ?_) fun h1 h1p h1s => ?_
   ·try simp only [Q, Pat.cs_len] at h1p
    exfalso; omega --stop
   ·try simp only [Q, Pat.cs_len] at h1p
    refine sq (fun h2 h2p h2s => ?_) fun h2 h2p h2s => ?_
    ·try simp only [Q, Pat.cs_len] at h2p
     exfalso; omega --stop
    ·try simp only [Q, Pat.cs_len] at h2p
     refine sq (fun h3 h3p h3s => ?_) fun h3 h3p h3s => ?_
     ·try simp only [Q, Pat.cs_len] at h3p
      exfalso; omega --stop
     ·try simp only [Q, Pat.cs_len] at h3p
      refine sq (fun h4 h4p h4s => ?_) fun h4 h4p h4s => ?_
      ·try simp only [Q, Pat.cs_len] at h4p
       exfalso; omega --stop
      ·try simp only [Q, Pat.cs_len] at h4p
       refine sq (fun h5 h5p h5s => ?_) fun h5 h5p h5s => ?_
       ·try simp only [Q, Pat.cs_len] at h5p
        exfalso; omega --stop
       ·try simp only [Q, Pat.cs_len] at h5p
        refine sq (fun h6 h6p h6s => ?_) fun h6 h6p h6s => ?_
        ·try simp only [Q, Pat.cs_len] at h6p
         exfalso; omega --stop
        ·try simp only [Q, Pat.cs_len] at h6p
         refine Walk.assignNil 1 4 .none rfl rfl ?_
         refine tv ?_
         refine CWp.loopX (ι := Nat × List Bd) hk (fun x => [(83, .d (.i (x.1 : Int))), (10, .gl 1 (x.2.map Bd.c))]) [4, 5, 11, 12, 13, 14, 84, 85, 86, 87, 88, 89, 90, 91, 92, 93, 94, 95, 96, 97, 98, 99, 100, 101, 102, 103] (fun x => [(1, some (.tok ((x.2.map Bd.c)).length 4))]) (fun x => x.1 ≤ p.kids.length ∧ matchL (matchV n) (p.kids.drop x.1) (v.kids.drop x.1) x.2 = matchL (matchV n) p.kids v.kids [] ∧ x.2.length + Pats.size (p.kids.drop x.1) ≤ Pats.size p.kids) (fun x => p.kids.length - x.1) (0, []) ⟨by simp, rfl, by simp⟩ ⟨⟨_, rfl, (LeA.eqi (by first | rfl | omega | (simp; done)))⟩, ⟨⟨_, rfl, (LeA.glg (by first | rfl | omega | (simp; done)))⟩, trivial⟩⟩ ⟨beq_nat_eq (by rfl), trivial⟩ (fun x => rfl) (fun x hg1 => ?_)
         refine evc [10] [] ?_
         refine sq (fun h7 h7p h7s => ?_) fun h7 h7p h7s => ?_
         ·try simp only [Q, Pat.cs_len] at h7p
          refine Walk.idx sl49 .none rfl rfl rfl rfl (pats_at (by omega)) rfl ?_
          refine evs [10] [] ?_
          refine Walk.alloc (id := 3012) tz51 rfl .none rfl rfl rfl rfl ?_
          refine evs [10] [] ?_
          refine Walk.store ty51 .none rfl rfl rfl rfl rfl rfl (by simp) rfl ?_
          refine tv ?_
          refine Walk.idx sl58 .none rfl rfl rfl rfl (vals_at (by omega)) rfl ?_
          refine evd [10] [] ?_
          refine Walk.call (cr := []) cal181 (impl_match_fn n k (hkm x.1 (by omega))) rfl .none rfl rfl (LeL.refl _) trivial rfl rfl rfl ?_
          refine evd [10] [] ?_
          refine dr ?_
          refine sq (fun h8 h8p h8s => ?_) fun h8 h8p h8s => ?_
          ·try simp only [Q, Pat.cs_len] at h8p
           refine rn0 (r2 rfl rfl) (.tup (.cons (.nild ?_) (.cons (.eqd ?_) .nil)))
           all_goals ((rw [hm4, ← hg1.2.1, matchL_bad (by omega) (by omega) (by simp_all)]; all_goals rfl))
          ·try simp only [Q, Pat.cs_len] at h8p
           refine Walk.append sl61 zz177 rfl .none rfl rfl rfl rfl (htokL rfl (by first | rfl | (simp; done) | (simp; omega))) (by intro x hx; exact bd_rows _ x hx) (by have := (mok (hkm x.1 (by omega)).shape (hkm x.1 (by omega)).vok).2; have := psize_drop (l := p.kids) (i := x.1) (by omega); have := hg1.2.2; simp; omega) (by have := (mok (hkm x.1 (by omega)).shape (hkm x.1 (by omega)).vok).2; have := psize_drop (l := p.kids) (i := x.1) (by omega); have := hg1.2.2; simp; omega) ?_
           refine asg ?_
           refine tv ?_
           refine ar ?_
           refine Exists.intro ((x.1 + 1, x.2 ++ (matchV n (nth p.kids x.1) (nth v.kids x.1)).1)) ⟨⟨by dsimp only; omega, by dsimp only; rw [← matchL_next (by omega) (by omega) (by simp_all)]; exact hg1.2.1, by have := (mok (hkm x.1 (by omega)).shape (hkm x.1 (by omega)).vok).2; have := psize_drop (l := p.kids) (i := x.1) (by omega); have := hg1.2.2; dsimp only; rw [List.length_append]; omega⟩, (by dsimp only; omega), Sub.x (by kernel_rfl) (by kernel_rfl) ⟨⟨_, rfl, (LeA.eqi (by first | rfl | omega | (simp; done)))⟩, ⟨⟨_, rfl, (LeA.glg (by first | rfl | omega | (simp; done)))⟩, trivial⟩⟩ (by kernel_rfl) (by kernel_rfl) ⟨beq_nat_eq (by (simp; done)), trivial⟩⟩
         ·try simp only [Q, Pat.cs_len] at h7p
          refine rn0 (r2 rfl rfl) (.tup (.cons (.gld ?_) (.cons (.eqd ?_) .nil)))
          all_goals ((rw [hm4, ← hg1.2.1, matchL_end (by omega)]; all_goals rfl))
  ·have hn4 : p.op = 4 → matchV (n + 1) p v = ([], false) := fun h4 => match_4n h4 (fun hc => c4 ⟨h4, hc⟩)
   refine bd Tryz.f181 105 [] [] fun w0 F0 own kept hk => ?_
   refine Walk.box (id := 3002) .none rfl rfl rfl rfl rfl rfl rfl ?_
   refine Walk.box (id := 3003) .none rfl rfl rfl rfl rfl rfl rfl ?_
   refine ev ?_
   refine sq (fun h1 h1p h1s => ?_) fun h1 h1p h1s => ?_
   ·try simp only [Q, Pat.cs_len] at h1p
    refine rn0 (r2 rfl rfl) (.tup (.cons (.nild ?_) (.cons (.eqd ?_) .nil)))
    all_goals ((rw [match_1 (by omega)]; all_goals rfl))
   ·try simp only [Q, Pat.cs_len] at h1p
    refine sq (fun h2 h2p h2s => ?_) fun h2 h2p h2s => ?_
    ·try simp only [Q, Pat.cs_len] at h2p
     refine Walk.build st177 (ks := [0, 1]) (xs := [_, _]) rfl rfl .none rfl rfl rfl ?_
     refine Walk.sliceLit sl61 tz177 rfl (by decide) (ks := [0]) (xs := [_]) rfl rfl (by decide) (by decide) .none rfl rfl rfl rfl ?_
     refine ev ?_
     refine rn0 (r2 rfl rfl) (.tup (.cons (.eqd ?_) (.cons (.eqd ?_) .nil)))
     all_goals ((rw [match_2 (by omega)]; all_goals rfl))
    ·try simp only [Q, Pat.cs_len] at h2p
     refine sq (fun h3 h3p h3s => ?_) fun h3 h3p h3s => ?_
     ·try simp only [Q, Pat.cs_len] at h3p
      refine Walk.call (cr := []) cal87 (impl_within_fn) rfl .none rfl rfl (LeL.refl _) trivial rfl rfl rfl ?_
      refine ev ?_
      refine rn0 (r2 rfl rfl) (.tup (.cons (.nild ?_) (.cons (.eqd ?_) .nil)))
      all_goals ((rw [match_3 (by omega)]; all_goals rfl))
     ·try simp only [Q, Pat.cs_len] at h3p
      refine sq (fun h4 h4p h4s => ?_) fun h4 h4p h4s => ?_
      ·try simp only [Q, Pat.cs_len] at h4p
       refine Walk.idx (i := 0) sl49 .none rfl rfl rfl rfl (pats_at (by (have := (k5 (by omega)).1; omega))) rfl ?_
       refine evd [] [] ?_
       refine Walk.call (cr := []) cal181 (impl_match_fn n m (k5 (by omega)).2.1) rfl .none rfl rfl (LeL.refl _) trivial rfl rfl rfl ?_
       refine evd [] [] ?_
       refine dr ?_
       refine sq (fun h5 h5p h5s => ?_) fun h5 h5p h5s => ?_
       ·try simp only [Q, Pat.cs_len] at h5p
        refine rn0 (r2 rfl rfl) (.tup (.cons (.eqd ?_) (.cons (.eqd ?_) .nil)))
        all_goals ((rw [match_5a (by omega) (by assumption)]; all_goals rfl))
       ·try simp only [Q, Pat.cs_len] at h5p
        refine Walk.idx (i := 1) sl49 .none rfl rfl rfl rfl (pats_at (by (have := (k5 (by omega)).1; omega))) rfl ?_
        refine evd [] [] ?_
        refine Walk.call (cr := []) cal181 (impl_match_fn n m (k5 (by omega)).2.2) rfl .none rfl rfl (LeL.refl _) trivial rfl rfl rfl ?_
        refine evd [] [] ?_
        refine dr ?_
        refine rn0 (r2 rfl rfl) (.tup (.cons (.eqd ?_) (.cons (.eqd ?_) .nil)))
        all_goals ((rw [match_5b (by omega) (by simp_all)]; all_goals rfl))
      ·try simp only [Q, Pat.cs_len] at h4p
       refine sq (fun h6 h6p h6s => ?_) fun h6 h6p h6s => ?_
       ·try simp only [Q, Pat.cs_len] at h6p
        refine Walk.idx (i := 0) sl49 .none rfl rfl rfl rfl (pats_at (by (have := (k6 (by omega)).1; omega))) rfl ?_
        refine evd [] [] ?_
        refine Walk.call (cr := []) cal181 (impl_match_fn n m (k6 (by omega)).2) rfl .none rfl rfl (LeL.refl _) trivial rfl rfl rfl ?_
        refine evd [] [] ?_
        refine dr ?_
        refine Walk.build st177 (ks := [0, 1]) (xs := [_, _]) rfl rfl .none rfl rfl rfl ?_
        refine Walk.sliceLitG 2 sl61 tz177 rfl (by decide) (ks := [0]) (xs := [_]) rfl rfl (by decide) (by decide) .none rfl rfl rfl rfl rfl ?_
        refine ev ?_
        refine Walk.append sl61 zz177 rfl .none rfl rfl rfl rfl (htokL rfl (by first | rfl | (simp; done) | (simp; omega))) (by intro x hx; exact bd_rows _ x hx) (by have := (mok (k6 (by omega)).2.shape h.vok).2; have := pnth_size (l := p.kids) (i := 0) (by have := (k6 (by omega)).1; omega); simp; omega) (by have := (mok (k6 (by omega)).2.shape h.vok).2; have := pnth_size (l := p.kids) (i := 0) (by have := (k6 (by omega)).1; omega); simp; omega) ?_
        refine ev ?_
        refine rn0 (r2 rfl rfl) (.tup (.cons (.gld ?_) (.cons (.eqd ?_) .nil)))
        all_goals ((rw [match_6 (by omega)]; all_goals rfl))
       ·try simp only [Q, Pat.cs_len] at h6p
        refine sq (fun h7 h7p h7s => ?_) fun h7 h7p h7s => ?_
        ·try simp only [Q, Pat.cs_len] at h7p
         refine rn0 (r2 rfl rfl) (.tup (.cons (.nild ?_) (.cons (.eqd ?_) .nil)))
         all_goals ((rw [hn4 (by omega)]; all_goals rfl))
        ·try simp only [Q, Pat.cs_len] at h7p
         exfalso; apply c4; omega --stop
end Go.Proofs.YtdgknigklgnefaaGreat
