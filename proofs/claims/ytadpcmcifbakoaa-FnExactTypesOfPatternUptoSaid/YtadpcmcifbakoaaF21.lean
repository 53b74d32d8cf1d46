/-
  WALKS: which patterns a type has: the reference's parts.
-/
import Derived.Test.YtadpcmcifbakoaaF20
namespace Go.Proofs.Ytadpcmcifbakoaa
open Go
set_option linter.unusedSimpArgs false
set_option linter.unusedVariables false
set_option maxRecDepth 100000
set_option maxHeartbeats 4000000
theorem vctors_in {w : List Data} {d : Nat} {k : Int} : vctors w ⟨d, k⟩ = ctorsOf w ⟨d, k⟩ := by unfold vctors; rw [if_neg (by simp only; omega)]
theorem vctors_int {w : List Data} {k : Int} : vctors w ⟨-1, k⟩ = [] := by unfold vctors; rw [if_pos rfl]
theorem vctors_len {w : List Data} (hw : WT w) {a k : Int} (ht : TyIn w.length ⟨a, k⟩) : (vctors w ⟨a, k⟩).length ≤ 1000000000000 := by
 rcases ht with ha | ⟨d, hd, hlt⟩
 ·simp only at ha; subst ha; rw [vctors_int]; exact Nat.zero_le _
 ·simp only at hd; subst hd; rw [vctors_in]; exact ctorsOf_len hw
theorem vctors_data {w : List Data} {a k c : Int} (ht : TyIn w.length ⟨a, k⟩) (h : c ∈ vctors w ⟨a, k⟩) : ∃ d : Nat, a = d ∧ d < w.length ∧ PlaceIn w d c := by
 rcases ht with ha | ⟨d, hd, hlt⟩
 ·simp only at ha; subst ha; rw [vctors_int] at h; simp at h
 ·simp only at hd; subst hd; rw [vctors_in] at h; exact ⟨d, rfl, hlt, place_of h⟩
theorem typesP_in {w : List Data} (hw : WT w) {a k : Int} {p : Pat} (ht : TyIn w.length ⟨a, k⟩) (h : ownP w ⟨a, k⟩ p = true) : ∀ t ∈ typesP w ⟨a, k⟩ p, TyIn w.length t := by
 intro t hm
 unfold typesP at hm
 split at hm
 ·rename_i h4
  unfold ownP at h
  have h' := of_decide_eq_true h
  have hc : p.ctor ∈ vctors w ⟨a, k⟩ := by
   rcases h'.2.2.2.2 with h | h | h | h | h | h
   ·omega
   ·omega
   ·omega
   ·omega
   ·omega
   ·exact h.2
  obtain ⟨d, rfl, h1, h2⟩ := vctors_data ht hc
  exact argsOf_in hw h1 h2 hm
 ·split at hm
  ·simp only [List.mem_cons, List.not_mem_nil, or_false] at hm
   rcases hm with rfl | rfl <;> exact ht
  ·split at hm
   ·simp only [List.mem_cons, List.not_mem_nil, or_false] at hm
    subst hm; exact ht
   ·simp at hm
theorem typesP_len {w : List Data} (hw : WT w) {a k : Int} {p : Pat} (ht : TyIn w.length ⟨a, k⟩) (h : p.op = 4 → p.ctor ∈ vctors w ⟨a, k⟩) : (typesP w ⟨a, k⟩ p).length ≤ 1000000000000 := by
 unfold typesP
 split
 ·rename_i h4
  obtain ⟨d, rfl, h1, h2⟩ := vctors_data ht (h h4)
  exact argsOf_len hw h1 h2
 ·split
  ·simp
  ·split <;> simp
def kidsN (op : Int) : Int := if op = 5 then 2 else if op = 6 then 1 else if op = 4 then -1 else 0
theorem spec_l3Kids_fn {op : Int} : FnD Try.prog 149 [.d (.i op)] [] (.d (.i (kidsN op))) [] := by
 refine Fn.body (fn := Try.f149) (n := 10) rfl rfl rfl rfl rfl (fun w0 F0 own kept hk => ?_)
 refine sr ?_
 refine asg ?_
 refine tv ?_
 refine CWp.seq ?_
 refine sr ?_
 refine mv ?_
 refine tv ?_
 refine CWp.block ?_
 refine sr ?_
 refine Walk.eqI .none rfl rfl rfl ?_
 refine asg ?_
 refine tv ?_
 refine cd ?_ ?_
 ·intro h1; have ⟨h1p, h1s⟩ := dup h1; try simp only [Q5] at h1s
  try simp only [Q] at h1p
  refine sr ?_
  refine asg ?_
  refine tv ?_
  refine CWp.ret ?_
  refine ⟨_, _, [], (.cons (.tmp rfl) .nil), (.eqd ?_), ⟨rfl, rfl⟩, HSub.nil, noBox⟩
  all_goals (refine congrArg D.i ?_; simp only [kidsN]; simp_all)
 ·intro h1; have ⟨h1p, h1s⟩ := dup h1; try simp only [Q5] at h1s
  try simp only [Q] at h1p
  refine sr ?_
  refine Walk.eqI .none rfl rfl rfl ?_
  refine asg ?_
  refine tv ?_
  refine cd ?_ ?_
  ·intro h2; have ⟨h2p, h2s⟩ := dup h2; try simp only [Q5] at h2s
   try simp only [Q] at h2p
   refine sr ?_
   refine asg ?_
   refine tv ?_
   refine CWp.ret ?_
   refine ⟨_, _, [], (.cons (.tmp rfl) .nil), (.eqd ?_), ⟨rfl, rfl⟩, HSub.nil, noBox⟩
   all_goals (refine congrArg D.i ?_; simp only [kidsN]; simp_all)
  ·intro h2; have ⟨h2p, h2s⟩ := dup h2; try simp only [Q5] at h2s
   try simp only [Q] at h2p
   refine sr ?_
   refine Walk.eqI .none rfl rfl rfl ?_
   refine asg ?_
   refine tv ?_
   refine cd ?_ ?_
   ·intro h3; have ⟨h3p, h3s⟩ := dup h3; try simp only [Q5] at h3s
    try simp only [Q] at h3p
    refine sr ?_
    refine asg ?_
    refine tv ?_
    refine CWp.ret ?_
    refine ⟨_, _, [], (.cons (.tmp rfl) .nil), (.eqd ?_), ⟨rfl, rfl⟩, HSub.nil, noBox⟩
    all_goals (refine congrArg D.i ?_; simp only [kidsN]; simp_all)
   ·intro h3; have ⟨h3p, h3s⟩ := dup h3; try simp only [Q5] at h3s
    try simp only [Q] at h3p
    refine CWp.skip ?_
    refine sr ?_
    refine asg ?_
    refine tv ?_
    refine CWp.ret ?_
    refine ⟨_, _, [], (.cons (.tmp rfl) .nil), (.eqd ?_), ⟨rfl, rfl⟩, HSub.nil, noBox⟩
    all_goals (refine congrArg D.i ?_; simp only [kidsN]; simp_all)
theorem spec_l1Ctors_v {w : List Data} (hw : WT w) {a k : Int} (ht : TyIn w.length ⟨a, k⟩) : FnD Try.prog 120 [.d (encDatas w), .agg [.d (.i a), .d (.i k)]] [] (.d (encInts (vctors w ⟨a, k⟩))) [] := by
 rcases ht with ha | ⟨d, hd, hlt⟩
 ·simp only at ha; subst ha; rw [vctors_int]; exact spec_l1Ctors_int_fn
 ·simp only at hd; subst hd; rw [vctors_in]; exact spec_l1Ctors_in hw hlt
theorem spec_l1Args_v {w : List Data} (hw : WT w) {a k c : Int} (ht : TyIn w.length ⟨a, k⟩) (hc : c ∈ vctors w ⟨a, k⟩) : FnD Try.prog 121 [.d (encDatas w), .agg [.d (.i a), .d (.i k)], .d (.i c)] [] (.d (encTys (argsOf w ⟨a, k⟩ c))) [] := by
 obtain ⟨d, rfl, h1, h2⟩ := vctors_data ht hc
 exact spec_l1Args_in hw h1 h2
theorem spec_l3Own_fn {w : List Data} (hw : WT w) {a k : Int} {p : Pat} (ht : TyIn w.length ⟨a, k⟩) :
  FnD Try.prog 133 [.d (encDatas w), .agg [.d (.i a), .d (.i k)], .agg [.d (.i p.op), .d (.i p.ctor), .d (.i p.n), .d (.i p.m), .d (.i p.var), .d (encPats p.kids)]] [] (.d (.bool (ownP w ⟨a, k⟩ p))) [] := by
 have hcl := vctors_len hw ht
 refine Fn.body (fn := Try.f133) (n := 96) rfl rfl rfl rfl rfl (fun w0 F0 own kept hk => ?_)
 refine sr ?_
 refine Walk.box (id := 3004) .none rfl rfl rfl rfl rfl rfl rfl ?_
 refine Walk.box (id := 3005) .none rfl rfl rfl rfl rfl rfl rfl ?_
 refine asg ?_
 refine tv ?_
 refine CWp.seq ?_
 refine CWp.regionJ ?_
 refine WRest.join 8 [(15, .d (.bool (decide (p.op = 2 ∨ p.op = 6))))] [8, 9, 10, 11, 12, 13, 14] ?_ ?_
 ·
  refine Walk.fieldB fd70_0 .none rfl rfl ?_
  refine Walk.loadB ty3 .none rfl rfl rfl rfl ?_
  refine Walk.eqI .none rfl rfl rfl ?_
  refine mv ?_
  refine sp 11 ?_ ?_
  ·intro h1; have ⟨h1p, h1s⟩ := dup h1; try simp only [Q5] at h1s
   try simp only [Q] at h1p
   refine ps h1 ?_
   refine ps h1 ?_
   refine ps h1 ?_
   refine Walk.pickT .none rfl rfl h1 rfl ?_
   exact ⟨trivial, Sub.x (by kernel_rfl) (by kernel_rfl) ⟨⟨_, rfl, (LeA.eqb (by first | rfl | (rw [Bool.eq_iff_iff]; (try simp only [BQ]) <;> first | omega | (simp_all; done) | (simp_all; omega))))⟩, trivial⟩ (by kernel_rfl) (by kernel_rfl) trivial⟩
  ·intro h1; have ⟨h1p, h1s⟩ := dup h1; try simp only [Q5] at h1s
   try simp only [Q] at h1p
   refine Walk.fieldB fd70_0 (.some rfl rfl h1) rfl rfl ?_
   refine Walk.loadB ty3 (.some rfl rfl h1) rfl rfl rfl rfl ?_
   refine Walk.eqI (.some rfl rfl h1) rfl rfl rfl ?_
   refine Walk.pickF .none rfl rfl h1 rfl ?_
   exact ⟨trivial, Sub.x (by kernel_rfl) (by kernel_rfl) ⟨⟨_, rfl, (LeA.eqb (by first | rfl | (rw [Bool.eq_iff_iff]; (try simp only [BQ]) <;> first | omega | (simp_all; done) | (simp_all; omega))))⟩, trivial⟩ (by kernel_rfl) (by kernel_rfl) trivial⟩
 refine WRest.done ?_
 refine asg ?_
 refine tv ?_
 refine CWp.seq ?_
 refine CWp.seq ?_
 refine CWp.regionJ ?_
 refine WRest.join 11 [(26, .d (.bool (decide ((p.op = 2 ∨ p.op = 6) ∧ (p.var < 0 ∨ 5 < p.var)))))] [16, 17, 18, 19, 20, 21, 22, 23, 24, 25] ?_ ?_
 ·
  refine mv ?_
  refine mv ?_
  refine sp 17 ?_ ?_
  ·intro h2; have ⟨h2p, h2s⟩ := dup h2; try simp only [Q5] at h2s
   try simp only [Q] at h2p
   refine Walk.fieldB fd70_4 (.some rfl rfl h2) rfl rfl ?_
   refine Walk.loadB ty3 (.some rfl rfl h2) rfl rfl rfl rfl ?_
   refine Walk.ltI (.some rfl rfl h2) rfl rfl rfl ?_
   refine Walk.move (.some rfl rfl h2) rfl rfl ?_
   refine sp 21 ?_ ?_
   ·intro h3; have ⟨h3p, h3s⟩ := dup h3; try simp only [Q5] at h3s
    try simp only [Q] at h3p
    refine ps h3 ?_
    refine ps h3 ?_
    refine ps h3 ?_
    refine Walk.pickT (.some rfl rfl h2) rfl rfl h3 rfl ?_
    refine Walk.pickT .none rfl rfl h2 rfl ?_
    exact ⟨trivial, Sub.x (by kernel_rfl) (by kernel_rfl) ⟨⟨_, rfl, (LeA.eqb (by first | rfl | (rw [Bool.eq_iff_iff]; (try simp only [BQ]) <;> first | omega | (simp_all; done) | (simp_all; omega))))⟩, trivial⟩ (by kernel_rfl) (by kernel_rfl) trivial⟩
   ·intro h3; have ⟨h3p, h3s⟩ := dup h3; try simp only [Q5] at h3s
    try simp only [Q] at h3p
    refine Walk.fieldB fd70_4 (.some rfl rfl h3) rfl rfl ?_
    refine Walk.loadB ty3 (.some rfl rfl h3) rfl rfl rfl rfl ?_
    refine Walk.gtI (.some rfl rfl h3) rfl rfl rfl ?_
    refine Walk.pickF (.some rfl rfl h2) rfl rfl h3 rfl ?_
    refine Walk.pickT .none rfl rfl h2 rfl ?_
    exact ⟨trivial, Sub.x (by kernel_rfl) (by kernel_rfl) ⟨⟨_, rfl, (LeA.eqb (by first | rfl | (rw [Bool.eq_iff_iff]; (try simp only [BQ]) <;> first | omega | (simp_all; done) | (simp_all; omega))))⟩, trivial⟩ (by kernel_rfl) (by kernel_rfl) trivial⟩
  ·intro h2; have ⟨h2p, h2s⟩ := dup h2; try simp only [Q5] at h2s
   try simp only [Q] at h2p
   refine ps h2 ?_
   refine ps h2 ?_
   refine ps h2 ?_
   refine ps h2 ?_
   refine Walk.passU rfl rfl rfl rfl rfl ?_
   refine Walk.passU rfl rfl rfl rfl rfl ?_
   refine Walk.passU rfl rfl rfl rfl rfl ?_
   refine ps h2 ?_
   refine Walk.pickF .none rfl rfl h2 rfl ?_
   exact ⟨trivial, Sub.x (by kernel_rfl) (by kernel_rfl) ⟨⟨_, rfl, (LeA.eqb (by first | rfl | (rw [Bool.eq_iff_iff]; (try simp only [BQ]) <;> first | omega | (simp_all; done) | (simp_all; omega))))⟩, trivial⟩ (by kernel_rfl) (by kernel_rfl) trivial⟩
 refine WRest.join 9 [(35, .d (.bool (decide ((p.op = 2 ∨ p.op = 6) ∧ (p.var < 0 ∨ 5 < p.var) ∨ ¬ (p.op = 2 ∨ p.op = 6) ∧ p.var ≠ 0))))] [27, 28, 29, 30, 31, 32, 33, 34] ?_ ?_
 ·
  refine mv ?_
  refine sp 27 ?_ ?_
  ·intro h4; have ⟨h4p, h4s⟩ := dup h4; try simp only [Q5] at h4s
   try simp only [Q] at h4p
   refine ps h4 ?_
   refine ps h4 ?_
   refine ps h4 ?_
   refine Walk.passU rfl rfl rfl rfl rfl ?_
   refine Walk.passU rfl rfl rfl rfl rfl ?_
   refine Walk.passU rfl rfl rfl rfl rfl ?_
   refine ps h4 ?_
   refine Walk.pickT .none rfl rfl h4 rfl ?_
   exact ⟨trivial, Sub.x (by kernel_rfl) (by kernel_rfl) ⟨⟨_, rfl, (LeA.eqb (by first | rfl | (rw [Bool.eq_iff_iff]; (try simp only [BQ]) <;> first | omega | (simp_all; done) | (simp_all; omega))))⟩, trivial⟩ (by kernel_rfl) (by kernel_rfl) trivial⟩
  ·intro h4; have ⟨h4p, h4s⟩ := dup h4; try simp only [Q5] at h4s
   try simp only [Q] at h4p
   refine Walk.move (.some rfl rfl h4) rfl rfl ?_
   refine Walk.not (.some rfl rfl h4) rfl rfl ?_
   refine Walk.move (.some rfl rfl h4) rfl rfl ?_
   refine sp 30 ?_ ?_
   ·intro h5; have ⟨h5p, h5s⟩ := dup h5; try simp only [Q5] at h5s
    try simp only [Q] at h5p
    refine Walk.fieldB fd70_4 (.some rfl rfl h5) rfl rfl ?_
    refine Walk.loadB ty3 (.some rfl rfl h5) rfl rfl rfl rfl ?_
    refine Walk.neI (.some rfl rfl h5) rfl rfl rfl ?_
    refine Walk.pickT (.some rfl rfl h4) rfl rfl h5 rfl ?_
    refine Walk.pickF .none rfl rfl h4 rfl ?_
    exact ⟨trivial, Sub.x (by kernel_rfl) (by kernel_rfl) ⟨⟨_, rfl, (LeA.eqb (by first | rfl | (rw [Bool.eq_iff_iff]; (try simp only [BQ]) <;> first | omega | (simp_all; done) | (simp_all; omega))))⟩, trivial⟩ (by kernel_rfl) (by kernel_rfl) trivial⟩
   ·intro h5; have ⟨h5p, h5s⟩ := dup h5; try simp only [Q5] at h5s
    try simp only [Q] at h5p
    refine ps h5 ?_
    refine ps h5 ?_
    refine ps h5 ?_
    refine Walk.pickF (.some rfl rfl h4) rfl rfl h5 rfl ?_
    refine Walk.pickF .none rfl rfl h4 rfl ?_
    exact ⟨trivial, Sub.x (by kernel_rfl) (by kernel_rfl) ⟨⟨_, rfl, (LeA.eqb (by first | rfl | (rw [Bool.eq_iff_iff]; (try simp only [BQ]) <;> first | omega | (simp_all; done) | (simp_all; omega))))⟩, trivial⟩ (by kernel_rfl) (by kernel_rfl) trivial⟩
 refine WRest.done ?_
 refine tv ?_
 refine cd ?_ ?_
 ·intro h6; have ⟨h6p, h6s⟩ := dup h6; try simp only [Q5] at h6s
  try simp only [Q] at h6p
  refine sr ?_
  refine asg ?_
  refine tv ?_
  refine CWp.ret ?_
  refine ⟨_, _, [], (.cons (.tmp rfl) .nil), (.eqd ?_), ⟨rfl, rfl⟩, HSub.nil, noBox⟩
  all_goals (refine congrArg D.bool ?_; unfold ownP; rw [Bool.eq_iff_iff]; by_cases hmem : p.ctor ∈ vctors w ⟨a, k⟩ <;> (simp only [hmem, and_true, and_false, or_false, decide_eq_true_eq, Bool.and_eq_true, Bool.false_eq_true, true_iff, false_iff]; simp only [decide_eq_true_eq, decide_eq_false_iff_not] at *; omega))
 ·intro h6; have ⟨h6p, h6s⟩ := dup h6; try simp only [Q5] at h6s
  try simp only [Q] at h6p
  refine CWp.skip ?_
  refine CWp.seq ?_
  refine CWp.seq ?_
  refine CWp.regionJ ?_
  refine WRest.join 13 [(48, .d (.bool (decide (p.op ≠ 3 ∧ (p.n ≠ 0 ∨ p.m ≠ 0)))))] [36, 37, 38, 39, 40, 41, 42, 43, 44, 45, 46, 47] ?_ ?_
  ·
   refine Walk.fieldB fd70_0 .none rfl rfl ?_
   refine Walk.loadB ty3 .none rfl rfl rfl rfl ?_
   refine Walk.neI .none rfl rfl rfl ?_
   refine mv ?_
   refine sp 39 ?_ ?_
   ·intro h7; have ⟨h7p, h7s⟩ := dup h7; try simp only [Q5] at h7s
    try simp only [Q] at h7p
    refine Walk.fieldB fd70_2 (.some rfl rfl h7) rfl rfl ?_
    refine Walk.loadB ty3 (.some rfl rfl h7) rfl rfl rfl rfl ?_
    refine Walk.neI (.some rfl rfl h7) rfl rfl rfl ?_
    refine Walk.move (.some rfl rfl h7) rfl rfl ?_
    refine sp 43 ?_ ?_
    ·intro h8; have ⟨h8p, h8s⟩ := dup h8; try simp only [Q5] at h8s
     try simp only [Q] at h8p
     refine ps h8 ?_
     refine ps h8 ?_
     refine ps h8 ?_
     refine Walk.pickT (.some rfl rfl h7) rfl rfl h8 rfl ?_
     refine Walk.pickT .none rfl rfl h7 rfl ?_
     exact ⟨trivial, Sub.x (by kernel_rfl) (by kernel_rfl) ⟨⟨_, rfl, (LeA.eqb (by first | rfl | (rw [Bool.eq_iff_iff]; (try simp only [BQ]) <;> first | omega | (simp_all; done) | (simp_all; omega))))⟩, trivial⟩ (by kernel_rfl) (by kernel_rfl) trivial⟩
    ·intro h8; have ⟨h8p, h8s⟩ := dup h8; try simp only [Q5] at h8s
     try simp only [Q] at h8p
     refine Walk.fieldB fd70_3 (.some rfl rfl h8) rfl rfl ?_
     refine Walk.loadB ty3 (.some rfl rfl h8) rfl rfl rfl rfl ?_
     refine Walk.neI (.some rfl rfl h8) rfl rfl rfl ?_
     refine Walk.pickF (.some rfl rfl h7) rfl rfl h8 rfl ?_
     refine Walk.pickT .none rfl rfl h7 rfl ?_
     exact ⟨trivial, Sub.x (by kernel_rfl) (by kernel_rfl) ⟨⟨_, rfl, (LeA.eqb (by first | rfl | (rw [Bool.eq_iff_iff]; (try simp only [BQ]) <;> first | omega | (simp_all; done) | (simp_all; omega))))⟩, trivial⟩ (by kernel_rfl) (by kernel_rfl) trivial⟩
   ·intro h7; have ⟨h7p, h7s⟩ := dup h7; try simp only [Q5] at h7s
    try simp only [Q] at h7p
    refine ps h7 ?_
    refine ps h7 ?_
    refine ps h7 ?_
    refine ps h7 ?_
    refine Walk.passU rfl rfl rfl rfl rfl ?_
    refine Walk.passU rfl rfl rfl rfl rfl ?_
    refine Walk.passU rfl rfl rfl rfl rfl ?_
    refine ps h7 ?_
    refine Walk.pickF .none rfl rfl h7 rfl ?_
    exact ⟨trivial, Sub.x (by kernel_rfl) (by kernel_rfl) ⟨⟨_, rfl, (LeA.eqb (by first | rfl | (rw [Bool.eq_iff_iff]; (try simp only [BQ]) <;> first | omega | (simp_all; done) | (simp_all; omega))))⟩, trivial⟩ (by kernel_rfl) (by kernel_rfl) trivial⟩
  refine WRest.join 10 [(58, .d (.bool (decide (p.op ≠ 3 ∧ (p.n ≠ 0 ∨ p.m ≠ 0) ∨ p.op ≠ 4 ∧ p.ctor ≠ 0))))] [49, 50, 51, 52, 53, 54, 55, 56, 57] ?_ ?_
  ·
   refine mv ?_
   refine sp 49 ?_ ?_
   ·intro h9; have ⟨h9p, h9s⟩ := dup h9; try simp only [Q5] at h9s
    try simp only [Q] at h9p
    refine ps h9 ?_
    refine ps h9 ?_
    refine ps h9 ?_
    refine ps h9 ?_
    refine Walk.passU rfl rfl rfl rfl rfl ?_
    refine Walk.passU rfl rfl rfl rfl rfl ?_
    refine Walk.passU rfl rfl rfl rfl rfl ?_
    refine ps h9 ?_
    refine Walk.pickT .none rfl rfl h9 rfl ?_
    exact ⟨trivial, Sub.x (by kernel_rfl) (by kernel_rfl) ⟨⟨_, rfl, (LeA.eqb (by first | rfl | (rw [Bool.eq_iff_iff]; (try simp only [BQ]) <;> first | omega | (simp_all; done) | (simp_all; omega))))⟩, trivial⟩ (by kernel_rfl) (by kernel_rfl) trivial⟩
   ·intro h9; have ⟨h9p, h9s⟩ := dup h9; try simp only [Q5] at h9s
    try simp only [Q] at h9p
    refine Walk.fieldB fd70_0 (.some rfl rfl h9) rfl rfl ?_
    refine Walk.loadB ty3 (.some rfl rfl h9) rfl rfl rfl rfl ?_
    refine Walk.neI (.some rfl rfl h9) rfl rfl rfl ?_
    refine Walk.move (.some rfl rfl h9) rfl rfl ?_
    refine sp 53 ?_ ?_
    ·intro h10; have ⟨h10p, h10s⟩ := dup h10; try simp only [Q5] at h10s
     try simp only [Q] at h10p
     refine Walk.fieldB fd70_1 (.some rfl rfl h10) rfl rfl ?_
     refine Walk.loadB ty3 (.some rfl rfl h10) rfl rfl rfl rfl ?_
     refine Walk.neI (.some rfl rfl h10) rfl rfl rfl ?_
     refine Walk.pickT (.some rfl rfl h9) rfl rfl h10 rfl ?_
     refine Walk.pickF .none rfl rfl h9 rfl ?_
     exact ⟨trivial, Sub.x (by kernel_rfl) (by kernel_rfl) ⟨⟨_, rfl, (LeA.eqb (by first | rfl | (rw [Bool.eq_iff_iff]; (try simp only [BQ]) <;> first | omega | (simp_all; done) | (simp_all; omega))))⟩, trivial⟩ (by kernel_rfl) (by kernel_rfl) trivial⟩
    ·intro h10; have ⟨h10p, h10s⟩ := dup h10; try simp only [Q5] at h10s
     try simp only [Q] at h10p
     refine ps h10 ?_
     refine ps h10 ?_
     refine ps h10 ?_
     refine Walk.pickF (.some rfl rfl h9) rfl rfl h10 rfl ?_
     refine Walk.pickF .none rfl rfl h9 rfl ?_
     exact ⟨trivial, Sub.x (by kernel_rfl) (by kernel_rfl) ⟨⟨_, rfl, (LeA.eqb (by first | rfl | (rw [Bool.eq_iff_iff]; (try simp only [BQ]) <;> first | omega | (simp_all; done) | (simp_all; omega))))⟩, trivial⟩ (by kernel_rfl) (by kernel_rfl) trivial⟩
  refine WRest.done ?_
  refine tv ?_
  refine cd ?_ ?_
  ·intro h11; have ⟨h11p, h11s⟩ := dup h11; try simp only [Q5] at h11s
   try simp only [Q] at h11p
   refine sr ?_
   refine asg ?_
   refine tv ?_
   refine CWp.ret ?_
   refine ⟨_, _, [], (.cons (.tmp rfl) .nil), (.eqd ?_), ⟨rfl, rfl⟩, HSub.nil, noBox⟩
   all_goals (refine congrArg D.bool ?_; unfold ownP; rw [Bool.eq_iff_iff]; by_cases hmem : p.ctor ∈ vctors w ⟨a, k⟩ <;> (simp only [hmem, and_true, and_false, or_false, decide_eq_true_eq, Bool.and_eq_true, Bool.false_eq_true, true_iff, false_iff]; simp only [decide_eq_true_eq, decide_eq_false_iff_not] at *; omega))
  ·intro h11; have ⟨h11p, h11s⟩ := dup h11; try simp only [Q5] at h11s
   try simp only [Q] at h11p
   refine CWp.skip ?_
   refine CWp.seq ?_
   refine sr ?_
   refine Walk.fieldB fd70_0 .none rfl rfl ?_
   refine Walk.loadB ty3 .none rfl rfl rfl rfl ?_
   refine tv ?_
   refine CWp.block ?_
   refine CWp.seq ?_
   refine sr ?_
   refine Walk.eqI .none rfl rfl rfl ?_
   refine asg ?_
   refine tv ?_
   refine cd ?_ ?_
   ·intro h12; have ⟨h12p, h12s⟩ := dup h12; try simp only [Q5] at h12s
    try simp only [Q] at h12p
    refine CWp.skip ?_
    refine cd ?_ ?_
    ·intro h13; have ⟨h13p, h13s⟩ := dup h13; try simp only [Q5] at h13s
     try simp only [Q] at h13p
     refine sr ?_
     refine asg ?_
     refine tv ?_
     refine CWp.ret ?_
     refine ⟨_, _, [], (.cons (.tmp rfl) .nil), (.eqd ?_), ⟨rfl, rfl⟩, HSub.nil, noBox⟩
     all_goals (refine congrArg D.bool ?_; unfold ownP; rw [Bool.eq_iff_iff]; by_cases hmem : p.ctor ∈ vctors w ⟨a, k⟩ <;> (simp only [hmem, and_true, and_false, or_false, decide_eq_true_eq, Bool.and_eq_true, Bool.false_eq_true, true_iff, false_iff]; simp only [decide_eq_true_eq, decide_eq_false_iff_not] at *; omega))
    ·intro h13; have ⟨h13p, h13s⟩ := dup h13; try simp only [Q5] at h13s
     try simp only [Q] at h13p
     refine sr ?_
     refine Walk.eqI .none rfl rfl rfl ?_
     refine asg ?_
     refine tv ?_
     refine cd ?_ ?_
     ·intro h14; have ⟨h14p, h14s⟩ := dup h14; try simp only [Q5] at h14s
      try simp only [Q] at h14p
      refine CWp.seq ?_
      refine CWp.regionJ ?_
      refine WRest.join 8 [(75, .d (.bool (decide (a = -1 ∧ 0 ≤ p.n))))] [68, 69, 70, 71, 72, 73, 74] ?_ ?_
      ·
       refine Walk.fieldB fd38_0 .none rfl rfl ?_
       refine Walk.loadB ty3 .none rfl rfl rfl rfl ?_
       refine Walk.eqI .none rfl rfl rfl ?_
       refine mv ?_
       refine sp 71 ?_ ?_
       ·intro h15; have ⟨h15p, h15s⟩ := dup h15; try simp only [Q5] at h15s
        try simp only [Q] at h15p
        refine Walk.fieldB fd70_2 (.some rfl rfl h15) rfl rfl ?_
        refine Walk.loadB ty3 (.some rfl rfl h15) rfl rfl rfl rfl ?_
        refine Walk.geI (.some rfl rfl h15) rfl rfl rfl ?_
        refine Walk.pickT .none rfl rfl h15 rfl ?_
        exact ⟨trivial, Sub.x (by kernel_rfl) (by kernel_rfl) ⟨⟨_, rfl, (LeA.eqb (by first | rfl | (rw [Bool.eq_iff_iff]; (try simp only [BQ]) <;> first | omega | (simp_all; done) | (simp_all; omega))))⟩, trivial⟩ (by kernel_rfl) (by kernel_rfl) trivial⟩
       ·intro h15; have ⟨h15p, h15s⟩ := dup h15; try simp only [Q5] at h15s
        try simp only [Q] at h15p
        refine ps h15 ?_
        refine ps h15 ?_
        refine ps h15 ?_
        refine Walk.pickF .none rfl rfl h15 rfl ?_
        exact ⟨trivial, Sub.x (by kernel_rfl) (by kernel_rfl) ⟨⟨_, rfl, (LeA.eqb (by first | rfl | (rw [Bool.eq_iff_iff]; (try simp only [BQ]) <;> first | omega | (simp_all; done) | (simp_all; omega))))⟩, trivial⟩ (by kernel_rfl) (by kernel_rfl) trivial⟩
      refine WRest.join 7 [(82, .d (.bool (decide (a = -1 ∧ 0 ≤ p.n ∧ p.n ≤ p.m))))] [76, 77, 78, 79, 80, 81] ?_ ?_
      ·
       refine mv ?_
       refine sp 76 ?_ ?_
       ·intro h16; have ⟨h16p, h16s⟩ := dup h16; try simp only [Q5] at h16s
        try simp only [Q] at h16p
        refine Walk.fieldB fd70_2 (.some rfl rfl h16) rfl rfl ?_
        refine Walk.loadB ty3 (.some rfl rfl h16) rfl rfl rfl rfl ?_
        refine Walk.fieldB fd70_3 (.some rfl rfl h16) rfl rfl ?_
        refine Walk.loadB ty3 (.some rfl rfl h16) rfl rfl rfl rfl ?_
        refine Walk.leI (.some rfl rfl h16) rfl rfl rfl ?_
        refine Walk.pickT .none rfl rfl h16 rfl ?_
        exact ⟨trivial, Sub.x (by kernel_rfl) (by kernel_rfl) ⟨⟨_, rfl, (LeA.eqb (by first | rfl | (rw [Bool.eq_iff_iff]; (try simp only [BQ]) <;> first | omega | (simp_all; done) | (simp_all; omega))))⟩, trivial⟩ (by kernel_rfl) (by kernel_rfl) trivial⟩
       ·intro h16; have ⟨h16p, h16s⟩ := dup h16; try simp only [Q5] at h16s
        try simp only [Q] at h16p
        refine ps h16 ?_
        refine ps h16 ?_
        refine ps h16 ?_
        refine ps h16 ?_
        refine ps h16 ?_
        refine Walk.pickF .none rfl rfl h16 rfl ?_
        exact ⟨trivial, Sub.x (by kernel_rfl) (by kernel_rfl) ⟨⟨_, rfl, (LeA.eqb (by first | rfl | (rw [Bool.eq_iff_iff]; (try simp only [BQ]) <;> first | omega | (simp_all; done) | (simp_all; omega))))⟩, trivial⟩ (by kernel_rfl) (by kernel_rfl) trivial⟩
      refine WRest.join 5 [(87, .d (.bool (decide (a = -1 ∧ 0 ≤ p.n ∧ p.n ≤ p.m ∧ p.m ≤ 9))))] [83, 84, 85, 86] ?_ ?_
      ·
       refine mv ?_
       refine sp 83 ?_ ?_
       ·intro h17; have ⟨h17p, h17s⟩ := dup h17; try simp only [Q5] at h17s
        try simp only [Q] at h17p
        refine Walk.fieldB fd70_3 (.some rfl rfl h17) rfl rfl ?_
        refine Walk.loadB ty3 (.some rfl rfl h17) rfl rfl rfl rfl ?_
        refine Walk.leI (.some rfl rfl h17) rfl rfl rfl ?_
        refine Walk.pickT .none rfl rfl h17 rfl ?_
        exact ⟨trivial, Sub.x (by kernel_rfl) (by kernel_rfl) ⟨⟨_, rfl, (LeA.eqb (by first | rfl | (rw [Bool.eq_iff_iff]; (try simp only [BQ]) <;> first | omega | (simp_all; done) | (simp_all; omega))))⟩, trivial⟩ (by kernel_rfl) (by kernel_rfl) trivial⟩
       ·intro h17; have ⟨h17p, h17s⟩ := dup h17; try simp only [Q5] at h17s
        try simp only [Q] at h17p
        refine ps h17 ?_
        refine ps h17 ?_
        refine ps h17 ?_
        refine Walk.pickF .none rfl rfl h17 rfl ?_
        exact ⟨trivial, Sub.x (by kernel_rfl) (by kernel_rfl) ⟨⟨_, rfl, (LeA.eqb (by first | rfl | (rw [Bool.eq_iff_iff]; (try simp only [BQ]) <;> first | omega | (simp_all; done) | (simp_all; omega))))⟩, trivial⟩ (by kernel_rfl) (by kernel_rfl) trivial⟩
      refine WRest.done ?_
      refine asg ?_
      refine tv ?_
      refine CWp.ret ?_
      refine ⟨_, _, [], (.cons (.tmp rfl) .nil), (.eqd ?_), ⟨rfl, rfl⟩, HSub.nil, noBox⟩
      all_goals (refine congrArg D.bool ?_; unfold ownP; rw [Bool.eq_iff_iff]; by_cases hmem : p.ctor ∈ vctors w ⟨a, k⟩ <;> (simp only [hmem, and_true, and_false, or_false, decide_eq_true_eq, Bool.and_eq_true, Bool.false_eq_true, true_iff, false_iff]; simp only [decide_eq_true_eq, decide_eq_false_iff_not] at *; omega))
     ·intro h14; have ⟨h14p, h14s⟩ := dup h14; try simp only [Q5] at h14s
      try simp only [Q] at h14p
      refine sr ?_
      refine Walk.eqI .none rfl rfl rfl ?_
      refine asg ?_
      refine tv ?_
      refine cd ?_ ?_
      ·intro h18; have ⟨h18p, h18s⟩ := dup h18; try simp only [Q5] at h18s
       try simp only [Q] at h18p
       refine CWp.seq ?_
       refine CWp.drawn mixed rfl ?_
       refine mv ?_
       refine Walk.loadBA ty38 .none rfl rfl rfl rfl ?_
       refine Walk.call (cr := []) cal120 (spec_l1Ctors_v hw ht) rfl .none rfl rfl (LeL.refl _) trivial rfl rfl rfl ?_
       refine Walk.fieldB fd70_1 .none rfl rfl ?_
       refine Walk.loadB ty3 .none rfl rfl rfl rfl ?_
       refine Walk.call (cr := []) cal128 (spec_l1Has_fn hcl) rfl .none rfl rfl (LeL.refl _) trivial rfl rfl rfl ?_
       refine asg ?_
       refine ⟨by show _ = _; kernel_rfl, ?_⟩
       refine CWp.ret ?_
       refine ⟨_, _, [], (.cons (.tmp rfl) .nil), (.eqd ?_), ⟨rfl, rfl⟩, HSub.nil, noBox⟩
       all_goals (refine congrArg D.bool ?_; unfold ownP; rw [Bool.eq_iff_iff]; by_cases hmem : p.ctor ∈ vctors w ⟨a, k⟩ <;> (simp only [hmem, and_true, and_false, or_false, decide_eq_true_eq, Bool.and_eq_true, Bool.false_eq_true, true_iff, false_iff]; simp only [decide_eq_true_eq, decide_eq_false_iff_not] at *; omega))
      ·intro h18; have ⟨h18p, h18s⟩ := dup h18; try simp only [Q5] at h18s
       try simp only [Q] at h18p
       refine CWp.skip ?_
       refine sr ?_
       refine asg ?_
       refine tv ?_
       refine CWp.ret ?_
       refine ⟨_, _, [], (.cons (.tmp rfl) .nil), (.eqd ?_), ⟨rfl, rfl⟩, HSub.nil, noBox⟩
       all_goals (refine congrArg D.bool ?_; unfold ownP; rw [Bool.eq_iff_iff]; by_cases hmem : p.ctor ∈ vctors w ⟨a, k⟩ <;> (simp only [hmem, and_true, and_false, or_false, decide_eq_true_eq, Bool.and_eq_true, Bool.false_eq_true, true_iff, false_iff]; simp only [decide_eq_true_eq, decide_eq_false_iff_not] at *; omega))
   ·intro h12; have ⟨h12p, h12s⟩ := dup h12; try simp only [Q5] at h12s
    try simp only [Q] at h12p
    refine sr ?_
    refine Walk.eqI .none rfl rfl rfl ?_
    refine asg ?_
    refine tv ?_
    refine cd ?_ ?_
    ·intro h19; have ⟨h19p, h19s⟩ := dup h19; try simp only [Q5] at h19s
     try simp only [Q] at h19p
     refine CWp.skip ?_
     refine cd ?_ ?_
     ·intro h20; have ⟨h20p, h20s⟩ := dup h20; try simp only [Q5] at h20s
      try simp only [Q] at h20p
      refine sr ?_
      refine asg ?_
      refine tv ?_
      refine CWp.ret ?_
      refine ⟨_, _, [], (.cons (.tmp rfl) .nil), (.eqd ?_), ⟨rfl, rfl⟩, HSub.nil, noBox⟩
      all_goals (refine congrArg D.bool ?_; unfold ownP; rw [Bool.eq_iff_iff]; by_cases hmem : p.ctor ∈ vctors w ⟨a, k⟩ <;> (simp only [hmem, and_true, and_false, or_false, decide_eq_true_eq, Bool.and_eq_true, Bool.false_eq_true, true_iff, false_iff]; simp only [decide_eq_true_eq, decide_eq_false_iff_not] at *; omega))
     ·intro h20; have ⟨h20p, h20s⟩ := dup h20; try simp only [Q5] at h20s
      try simp only [Q] at h20p
      refine sr ?_
      refine Walk.eqI .none rfl rfl rfl ?_
      refine asg ?_
      refine tv ?_
      refine cd ?_ ?_
      ·intro h21; have ⟨h21p, h21s⟩ := dup h21; try simp only [Q5] at h21s
       try simp only [Q] at h21p
       refine CWp.seq ?_
       refine CWp.regionJ ?_
       refine WRest.join 8 [(75, .d (.bool (decide (a = -1 ∧ 0 ≤ p.n))))] [68, 69, 70, 71, 72, 73, 74] ?_ ?_
       ·
        refine Walk.fieldB fd38_0 .none rfl rfl ?_
        refine Walk.loadB ty3 .none rfl rfl rfl rfl ?_
        refine Walk.eqI .none rfl rfl rfl ?_
        refine mv ?_
        refine sp 71 ?_ ?_
        ·intro h22; have ⟨h22p, h22s⟩ := dup h22; try simp only [Q5] at h22s
         try simp only [Q] at h22p
         refine Walk.fieldB fd70_2 (.some rfl rfl h22) rfl rfl ?_
         refine Walk.loadB ty3 (.some rfl rfl h22) rfl rfl rfl rfl ?_
         refine Walk.geI (.some rfl rfl h22) rfl rfl rfl ?_
         refine Walk.pickT .none rfl rfl h22 rfl ?_
         exact ⟨trivial, Sub.x (by kernel_rfl) (by kernel_rfl) ⟨⟨_, rfl, (LeA.eqb (by first | rfl | (rw [Bool.eq_iff_iff]; (try simp only [BQ]) <;> first | omega | (simp_all; done) | (simp_all; omega))))⟩, trivial⟩ (by kernel_rfl) (by kernel_rfl) trivial⟩
        ·intro h22; have ⟨h22p, h22s⟩ := dup h22; try simp only [Q5] at h22s
         try simp only [Q] at h22p
         refine ps h22 ?_
         refine ps h22 ?_
         refine ps h22 ?_
         refine Walk.pickF .none rfl rfl h22 rfl ?_
         exact ⟨trivial, Sub.x (by kernel_rfl) (by kernel_rfl) ⟨⟨_, rfl, (LeA.eqb (by first | rfl | (rw [Bool.eq_iff_iff]; (try simp only [BQ]) <;> first | omega | (simp_all; done) | (simp_all; omega))))⟩, trivial⟩ (by kernel_rfl) (by kernel_rfl) trivial⟩
       refine WRest.join 7 [(82, .d (.bool (decide (a = -1 ∧ 0 ≤ p.n ∧ p.n ≤ p.m))))] [76, 77, 78, 79, 80, 81] ?_ ?_
       ·
        refine mv ?_
        refine sp 76 ?_ ?_
        ·intro h23; have ⟨h23p, h23s⟩ := dup h23; try simp only [Q5] at h23s
         try simp only [Q] at h23p
         refine Walk.fieldB fd70_2 (.some rfl rfl h23) rfl rfl ?_
         refine Walk.loadB ty3 (.some rfl rfl h23) rfl rfl rfl rfl ?_
         refine Walk.fieldB fd70_3 (.some rfl rfl h23) rfl rfl ?_
         refine Walk.loadB ty3 (.some rfl rfl h23) rfl rfl rfl rfl ?_
         refine Walk.leI (.some rfl rfl h23) rfl rfl rfl ?_
         refine Walk.pickT .none rfl rfl h23 rfl ?_
         exact ⟨trivial, Sub.x (by kernel_rfl) (by kernel_rfl) ⟨⟨_, rfl, (LeA.eqb (by first | rfl | (rw [Bool.eq_iff_iff]; (try simp only [BQ]) <;> first | omega | (simp_all; done) | (simp_all; omega))))⟩, trivial⟩ (by kernel_rfl) (by kernel_rfl) trivial⟩
        ·intro h23; have ⟨h23p, h23s⟩ := dup h23; try simp only [Q5] at h23s
         try simp only [Q] at h23p
         refine ps h23 ?_
         refine ps h23 ?_
         refine ps h23 ?_
         refine ps h23 ?_
         refine ps h23 ?_
         refine Walk.pickF .none rfl rfl h23 rfl ?_
         exact ⟨trivial, Sub.x (by kernel_rfl) (by kernel_rfl) ⟨⟨_, rfl, (LeA.eqb (by first | rfl | (rw [Bool.eq_iff_iff]; (try simp only [BQ]) <;> first | omega | (simp_all; done) | (simp_all; omega))))⟩, trivial⟩ (by kernel_rfl) (by kernel_rfl) trivial⟩
       refine WRest.join 5 [(87, .d (.bool (decide (a = -1 ∧ 0 ≤ p.n ∧ p.n ≤ p.m ∧ p.m ≤ 9))))] [83, 84, 85, 86] ?_ ?_
       ·
        refine mv ?_
        refine sp 83 ?_ ?_
        ·intro h24; have ⟨h24p, h24s⟩ := dup h24; try simp only [Q5] at h24s
         try simp only [Q] at h24p
         refine Walk.fieldB fd70_3 (.some rfl rfl h24) rfl rfl ?_
         refine Walk.loadB ty3 (.some rfl rfl h24) rfl rfl rfl rfl ?_
         refine Walk.leI (.some rfl rfl h24) rfl rfl rfl ?_
         refine Walk.pickT .none rfl rfl h24 rfl ?_
         exact ⟨trivial, Sub.x (by kernel_rfl) (by kernel_rfl) ⟨⟨_, rfl, (LeA.eqb (by first | rfl | (rw [Bool.eq_iff_iff]; (try simp only [BQ]) <;> first | omega | (simp_all; done) | (simp_all; omega))))⟩, trivial⟩ (by kernel_rfl) (by kernel_rfl) trivial⟩
        ·intro h24; have ⟨h24p, h24s⟩ := dup h24; try simp only [Q5] at h24s
         try simp only [Q] at h24p
         refine ps h24 ?_
         refine ps h24 ?_
         refine ps h24 ?_
         refine Walk.pickF .none rfl rfl h24 rfl ?_
         exact ⟨trivial, Sub.x (by kernel_rfl) (by kernel_rfl) ⟨⟨_, rfl, (LeA.eqb (by first | rfl | (rw [Bool.eq_iff_iff]; (try simp only [BQ]) <;> first | omega | (simp_all; done) | (simp_all; omega))))⟩, trivial⟩ (by kernel_rfl) (by kernel_rfl) trivial⟩
       refine WRest.done ?_
       refine asg ?_
       refine tv ?_
       refine CWp.ret ?_
       refine ⟨_, _, [], (.cons (.tmp rfl) .nil), (.eqd ?_), ⟨rfl, rfl⟩, HSub.nil, noBox⟩
       all_goals (refine congrArg D.bool ?_; unfold ownP; rw [Bool.eq_iff_iff]; by_cases hmem : p.ctor ∈ vctors w ⟨a, k⟩ <;> (simp only [hmem, and_true, and_false, or_false, decide_eq_true_eq, Bool.and_eq_true, Bool.false_eq_true, true_iff, false_iff]; simp only [decide_eq_true_eq, decide_eq_false_iff_not] at *; omega))
      ·intro h21; have ⟨h21p, h21s⟩ := dup h21; try simp only [Q5] at h21s
       try simp only [Q] at h21p
       refine sr ?_
       refine Walk.eqI .none rfl rfl rfl ?_
       refine asg ?_
       refine tv ?_
       refine cd ?_ ?_
       ·intro h25; have ⟨h25p, h25s⟩ := dup h25; try simp only [Q5] at h25s
        try simp only [Q] at h25p
        refine CWp.seq ?_
        refine CWp.drawn mixed rfl ?_
        refine mv ?_
        refine Walk.loadBA ty38 .none rfl rfl rfl rfl ?_
        refine Walk.call (cr := []) cal120 (spec_l1Ctors_v hw ht) rfl .none rfl rfl (LeL.refl _) trivial rfl rfl rfl ?_
        refine Walk.fieldB fd70_1 .none rfl rfl ?_
        refine Walk.loadB ty3 .none rfl rfl rfl rfl ?_
        refine Walk.call (cr := []) cal128 (spec_l1Has_fn hcl) rfl .none rfl rfl (LeL.refl _) trivial rfl rfl rfl ?_
        refine asg ?_
        refine ⟨by show _ = _; kernel_rfl, ?_⟩
        refine CWp.ret ?_
        refine ⟨_, _, [], (.cons (.tmp rfl) .nil), (.eqd ?_), ⟨rfl, rfl⟩, HSub.nil, noBox⟩
        all_goals (refine congrArg D.bool ?_; unfold ownP; rw [Bool.eq_iff_iff]; by_cases hmem : p.ctor ∈ vctors w ⟨a, k⟩ <;> (simp only [hmem, and_true, and_false, or_false, decide_eq_true_eq, Bool.and_eq_true, Bool.false_eq_true, true_iff, false_iff]; simp only [decide_eq_true_eq, decide_eq_false_iff_not] at *; omega))
       ·intro h25; have ⟨h25p, h25s⟩ := dup h25; try simp only [Q5] at h25s
        try simp only [Q] at h25p
        refine CWp.skip ?_
        refine sr ?_
        refine asg ?_
        refine tv ?_
        refine CWp.ret ?_
        refine ⟨_, _, [], (.cons (.tmp rfl) .nil), (.eqd ?_), ⟨rfl, rfl⟩, HSub.nil, noBox⟩
        all_goals (refine congrArg D.bool ?_; unfold ownP; rw [Bool.eq_iff_iff]; by_cases hmem : p.ctor ∈ vctors w ⟨a, k⟩ <;> (simp only [hmem, and_true, and_false, or_false, decide_eq_true_eq, Bool.and_eq_true, Bool.false_eq_true, true_iff, false_iff]; simp only [decide_eq_true_eq, decide_eq_false_iff_not] at *; omega))
    ·intro h19; have ⟨h19p, h19s⟩ := dup h19; try simp only [Q5] at h19s
     try simp only [Q] at h19p
     refine sr ?_
     refine Walk.eqI .none rfl rfl rfl ?_
     refine asg ?_
     refine tv ?_
     refine cd ?_ ?_
     ·intro h26; have ⟨h26p, h26s⟩ := dup h26; try simp only [Q5] at h26s
      try simp only [Q] at h26p
      refine CWp.skip ?_
      refine cd ?_ ?_
      ·intro h27; have ⟨h27p, h27s⟩ := dup h27; try simp only [Q5] at h27s
       try simp only [Q] at h27p
       refine sr ?_
       refine asg ?_
       refine tv ?_
       refine CWp.ret ?_
       refine ⟨_, _, [], (.cons (.tmp rfl) .nil), (.eqd ?_), ⟨rfl, rfl⟩, HSub.nil, noBox⟩
       all_goals (refine congrArg D.bool ?_; unfold ownP; rw [Bool.eq_iff_iff]; by_cases hmem : p.ctor ∈ vctors w ⟨a, k⟩ <;> (simp only [hmem, and_true, and_false, or_false, decide_eq_true_eq, Bool.and_eq_true, Bool.false_eq_true, true_iff, false_iff]; simp only [decide_eq_true_eq, decide_eq_false_iff_not] at *; omega))
      ·intro h27; have ⟨h27p, h27s⟩ := dup h27; try simp only [Q5] at h27s
       try simp only [Q] at h27p
       refine sr ?_
       refine Walk.eqI .none rfl rfl rfl ?_
       refine asg ?_
       refine tv ?_
       refine cd ?_ ?_
       ·intro h28; have ⟨h28p, h28s⟩ := dup h28; try simp only [Q5] at h28s
        try simp only [Q] at h28p
        refine CWp.seq ?_
        refine CWp.regionJ ?_
        refine WRest.join 8 [(75, .d (.bool (decide (a = -1 ∧ 0 ≤ p.n))))] [68, 69, 70, 71, 72, 73, 74] ?_ ?_
        ·
         refine Walk.fieldB fd38_0 .none rfl rfl ?_
         refine Walk.loadB ty3 .none rfl rfl rfl rfl ?_
         refine Walk.eqI .none rfl rfl rfl ?_
         refine mv ?_
         refine sp 71 ?_ ?_
         ·intro h29; have ⟨h29p, h29s⟩ := dup h29; try simp only [Q5] at h29s
          try simp only [Q] at h29p
          refine Walk.fieldB fd70_2 (.some rfl rfl h29) rfl rfl ?_
          refine Walk.loadB ty3 (.some rfl rfl h29) rfl rfl rfl rfl ?_
          refine Walk.geI (.some rfl rfl h29) rfl rfl rfl ?_
          refine Walk.pickT .none rfl rfl h29 rfl ?_
          exact ⟨trivial, Sub.x (by kernel_rfl) (by kernel_rfl) ⟨⟨_, rfl, (LeA.eqb (by first | rfl | (rw [Bool.eq_iff_iff]; (try simp only [BQ]) <;> first | omega | (simp_all; done) | (simp_all; omega))))⟩, trivial⟩ (by kernel_rfl) (by kernel_rfl) trivial⟩
         ·intro h29; have ⟨h29p, h29s⟩ := dup h29; try simp only [Q5] at h29s
          try simp only [Q] at h29p
          refine ps h29 ?_
          refine ps h29 ?_
          refine ps h29 ?_
          refine Walk.pickF .none rfl rfl h29 rfl ?_
          exact ⟨trivial, Sub.x (by kernel_rfl) (by kernel_rfl) ⟨⟨_, rfl, (LeA.eqb (by first | rfl | (rw [Bool.eq_iff_iff]; (try simp only [BQ]) <;> first | omega | (simp_all; done) | (simp_all; omega))))⟩, trivial⟩ (by kernel_rfl) (by kernel_rfl) trivial⟩
        refine WRest.join 7 [(82, .d (.bool (decide (a = -1 ∧ 0 ≤ p.n ∧ p.n ≤ p.m))))] [76, 77, 78, 79, 80, 81] ?_ ?_
        ·
         refine mv ?_
         refine sp 76 ?_ ?_
         ·intro h30; have ⟨h30p, h30s⟩ := dup h30; try simp only [Q5] at h30s
          try simp only [Q] at h30p
          refine Walk.fieldB fd70_2 (.some rfl rfl h30) rfl rfl ?_
          refine Walk.loadB ty3 (.some rfl rfl h30) rfl rfl rfl rfl ?_
          refine Walk.fieldB fd70_3 (.some rfl rfl h30) rfl rfl ?_
          refine Walk.loadB ty3 (.some rfl rfl h30) rfl rfl rfl rfl ?_
          refine Walk.leI (.some rfl rfl h30) rfl rfl rfl ?_
          refine Walk.pickT .none rfl rfl h30 rfl ?_
          exact ⟨trivial, Sub.x (by kernel_rfl) (by kernel_rfl) ⟨⟨_, rfl, (LeA.eqb (by first | rfl | (rw [Bool.eq_iff_iff]; (try simp only [BQ]) <;> first | omega | (simp_all; done) | (simp_all; omega))))⟩, trivial⟩ (by kernel_rfl) (by kernel_rfl) trivial⟩
         ·intro h30; have ⟨h30p, h30s⟩ := dup h30; try simp only [Q5] at h30s
          try simp only [Q] at h30p
          refine ps h30 ?_
          refine ps h30 ?_
          refine ps h30 ?_
          refine ps h30 ?_
          refine ps h30 ?_
          refine Walk.pickF .none rfl rfl h30 rfl ?_
          exact ⟨trivial, Sub.x (by kernel_rfl) (by kernel_rfl) ⟨⟨_, rfl, (LeA.eqb (by first | rfl | (rw [Bool.eq_iff_iff]; (try simp only [BQ]) <;> first | omega | (simp_all; done) | (simp_all; omega))))⟩, trivial⟩ (by kernel_rfl) (by kernel_rfl) trivial⟩
        refine WRest.join 5 [(87, .d (.bool (decide (a = -1 ∧ 0 ≤ p.n ∧ p.n ≤ p.m ∧ p.m ≤ 9))))] [83, 84, 85, 86] ?_ ?_
        ·
         refine mv ?_
         refine sp 83 ?_ ?_
         ·intro h31; have ⟨h31p, h31s⟩ := dup h31; try simp only [Q5] at h31s
          try simp only [Q] at h31p
          refine Walk.fieldB fd70_3 (.some rfl rfl h31) rfl rfl ?_
          refine Walk.loadB ty3 (.some rfl rfl h31) rfl rfl rfl rfl ?_
          refine Walk.leI (.some rfl rfl h31) rfl rfl rfl ?_
          refine Walk.pickT .none rfl rfl h31 rfl ?_
          exact ⟨trivial, Sub.x (by kernel_rfl) (by kernel_rfl) ⟨⟨_, rfl, (LeA.eqb (by first | rfl | (rw [Bool.eq_iff_iff]; (try simp only [BQ]) <;> first | omega | (simp_all; done) | (simp_all; omega))))⟩, trivial⟩ (by kernel_rfl) (by kernel_rfl) trivial⟩
         ·intro h31; have ⟨h31p, h31s⟩ := dup h31; try simp only [Q5] at h31s
          try simp only [Q] at h31p
          refine ps h31 ?_
          refine ps h31 ?_
          refine ps h31 ?_
          refine Walk.pickF .none rfl rfl h31 rfl ?_
          exact ⟨trivial, Sub.x (by kernel_rfl) (by kernel_rfl) ⟨⟨_, rfl, (LeA.eqb (by first | rfl | (rw [Bool.eq_iff_iff]; (try simp only [BQ]) <;> first | omega | (simp_all; done) | (simp_all; omega))))⟩, trivial⟩ (by kernel_rfl) (by kernel_rfl) trivial⟩
        refine WRest.done ?_
        refine asg ?_
        refine tv ?_
        refine CWp.ret ?_
        refine ⟨_, _, [], (.cons (.tmp rfl) .nil), (.eqd ?_), ⟨rfl, rfl⟩, HSub.nil, noBox⟩
        all_goals (refine congrArg D.bool ?_; unfold ownP; rw [Bool.eq_iff_iff]; by_cases hmem : p.ctor ∈ vctors w ⟨a, k⟩ <;> (simp only [hmem, and_true, and_false, or_false, decide_eq_true_eq, Bool.and_eq_true, Bool.false_eq_true, true_iff, false_iff]; simp only [decide_eq_true_eq, decide_eq_false_iff_not] at *; omega))
       ·intro h28; have ⟨h28p, h28s⟩ := dup h28; try simp only [Q5] at h28s
        try simp only [Q] at h28p
        refine sr ?_
        refine Walk.eqI .none rfl rfl rfl ?_
        refine asg ?_
        refine tv ?_
        refine cd ?_ ?_
        ·intro h32; have ⟨h32p, h32s⟩ := dup h32; try simp only [Q5] at h32s
         try simp only [Q] at h32p
         refine CWp.seq ?_
         refine CWp.drawn mixed rfl ?_
         refine mv ?_
         refine Walk.loadBA ty38 .none rfl rfl rfl rfl ?_
         refine Walk.call (cr := []) cal120 (spec_l1Ctors_v hw ht) rfl .none rfl rfl (LeL.refl _) trivial rfl rfl rfl ?_
         refine Walk.fieldB fd70_1 .none rfl rfl ?_
         refine Walk.loadB ty3 .none rfl rfl rfl rfl ?_
         refine Walk.call (cr := []) cal128 (spec_l1Has_fn hcl) rfl .none rfl rfl (LeL.refl _) trivial rfl rfl rfl ?_
         refine asg ?_
         refine ⟨by show _ = _; kernel_rfl, ?_⟩
         refine CWp.ret ?_
         refine ⟨_, _, [], (.cons (.tmp rfl) .nil), (.eqd ?_), ⟨rfl, rfl⟩, HSub.nil, noBox⟩
         all_goals (refine congrArg D.bool ?_; unfold ownP; rw [Bool.eq_iff_iff]; by_cases hmem : p.ctor ∈ vctors w ⟨a, k⟩ <;> (simp only [hmem, and_true, and_false, or_false, decide_eq_true_eq, Bool.and_eq_true, Bool.false_eq_true, true_iff, false_iff]; simp only [decide_eq_true_eq, decide_eq_false_iff_not] at *; omega))
        ·intro h32; have ⟨h32p, h32s⟩ := dup h32; try simp only [Q5] at h32s
         try simp only [Q] at h32p
         refine CWp.skip ?_
         refine sr ?_
         refine asg ?_
         refine tv ?_
         refine CWp.ret ?_
         refine ⟨_, _, [], (.cons (.tmp rfl) .nil), (.eqd ?_), ⟨rfl, rfl⟩, HSub.nil, noBox⟩
         all_goals (refine congrArg D.bool ?_; unfold ownP; rw [Bool.eq_iff_iff]; by_cases hmem : p.ctor ∈ vctors w ⟨a, k⟩ <;> (simp only [hmem, and_true, and_false, or_false, decide_eq_true_eq, Bool.and_eq_true, Bool.false_eq_true, true_iff, false_iff]; simp only [decide_eq_true_eq, decide_eq_false_iff_not] at *; omega))
     ·intro h26; have ⟨h26p, h26s⟩ := dup h26; try simp only [Q5] at h26s
      try simp only [Q] at h26p
      refine CWp.region rfl ?_
      refine Walk.eqI .none rfl rfl rfl ?_
      refine asg ?_
      refine tv ?_
      refine cd ?_ ?_
      ·intro h33; have ⟨h33p, h33s⟩ := dup h33; try simp only [Q5] at h33s
       try simp only [Q] at h33p
       refine sr ?_
       refine asg ?_
       refine tv ?_
       refine CWp.ret ?_
       refine ⟨_, _, [], (.cons (.tmp rfl) .nil), (.eqd ?_), ⟨rfl, rfl⟩, HSub.nil, noBox⟩
       all_goals (refine congrArg D.bool ?_; unfold ownP; rw [Bool.eq_iff_iff]; by_cases hmem : p.ctor ∈ vctors w ⟨a, k⟩ <;> (simp only [hmem, and_true, and_false, or_false, decide_eq_true_eq, Bool.and_eq_true, Bool.false_eq_true, true_iff, false_iff]; simp only [decide_eq_true_eq, decide_eq_false_iff_not] at *; omega))
      ·intro h33; have ⟨h33p, h33s⟩ := dup h33; try simp only [Q5] at h33s
       try simp only [Q] at h33p
       refine sr ?_
       refine Walk.eqI .none rfl rfl rfl ?_
       refine asg ?_
       refine tv ?_
       refine cd ?_ ?_
       ·intro h34; have ⟨h34p, h34s⟩ := dup h34; try simp only [Q5] at h34s
        try simp only [Q] at h34p
        refine CWp.seq ?_
        refine CWp.regionJ ?_
        refine WRest.join 8 [(75, .d (.bool (decide (a = -1 ∧ 0 ≤ p.n))))] [68, 69, 70, 71, 72, 73, 74] ?_ ?_
        ·
         refine Walk.fieldB fd38_0 .none rfl rfl ?_
         refine Walk.loadB ty3 .none rfl rfl rfl rfl ?_
         refine Walk.eqI .none rfl rfl rfl ?_
         refine mv ?_
         refine sp 71 ?_ ?_
         ·intro h35; have ⟨h35p, h35s⟩ := dup h35; try simp only [Q5] at h35s
          try simp only [Q] at h35p
          refine Walk.fieldB fd70_2 (.some rfl rfl h35) rfl rfl ?_
          refine Walk.loadB ty3 (.some rfl rfl h35) rfl rfl rfl rfl ?_
          refine Walk.geI (.some rfl rfl h35) rfl rfl rfl ?_
          refine Walk.pickT .none rfl rfl h35 rfl ?_
          exact ⟨trivial, Sub.x (by kernel_rfl) (by kernel_rfl) ⟨⟨_, rfl, (LeA.eqb (by first | rfl | (rw [Bool.eq_iff_iff]; (try simp only [BQ]) <;> first | omega | (simp_all; done) | (simp_all; omega))))⟩, trivial⟩ (by kernel_rfl) (by kernel_rfl) trivial⟩
         ·intro h35; have ⟨h35p, h35s⟩ := dup h35; try simp only [Q5] at h35s
          try simp only [Q] at h35p
          refine ps h35 ?_
          refine ps h35 ?_
          refine ps h35 ?_
          refine Walk.pickF .none rfl rfl h35 rfl ?_
          exact ⟨trivial, Sub.x (by kernel_rfl) (by kernel_rfl) ⟨⟨_, rfl, (LeA.eqb (by first | rfl | (rw [Bool.eq_iff_iff]; (try simp only [BQ]) <;> first | omega | (simp_all; done) | (simp_all; omega))))⟩, trivial⟩ (by kernel_rfl) (by kernel_rfl) trivial⟩
        refine WRest.join 7 [(82, .d (.bool (decide (a = -1 ∧ 0 ≤ p.n ∧ p.n ≤ p.m))))] [76, 77, 78, 79, 80, 81] ?_ ?_
        ·
         refine mv ?_
         refine sp 76 ?_ ?_
         ·intro h36; have ⟨h36p, h36s⟩ := dup h36; try simp only [Q5] at h36s
          try simp only [Q] at h36p
          refine Walk.fieldB fd70_2 (.some rfl rfl h36) rfl rfl ?_
          refine Walk.loadB ty3 (.some rfl rfl h36) rfl rfl rfl rfl ?_
          refine Walk.fieldB fd70_3 (.some rfl rfl h36) rfl rfl ?_
          refine Walk.loadB ty3 (.some rfl rfl h36) rfl rfl rfl rfl ?_
          refine Walk.leI (.some rfl rfl h36) rfl rfl rfl ?_
          refine Walk.pickT .none rfl rfl h36 rfl ?_
          exact ⟨trivial, Sub.x (by kernel_rfl) (by kernel_rfl) ⟨⟨_, rfl, (LeA.eqb (by first | rfl | (rw [Bool.eq_iff_iff]; (try simp only [BQ]) <;> first | omega | (simp_all; done) | (simp_all; omega))))⟩, trivial⟩ (by kernel_rfl) (by kernel_rfl) trivial⟩
         ·intro h36; have ⟨h36p, h36s⟩ := dup h36; try simp only [Q5] at h36s
          try simp only [Q] at h36p
          refine ps h36 ?_
          refine ps h36 ?_
          refine ps h36 ?_
          refine ps h36 ?_
          refine ps h36 ?_
          refine Walk.pickF .none rfl rfl h36 rfl ?_
          exact ⟨trivial, Sub.x (by kernel_rfl) (by kernel_rfl) ⟨⟨_, rfl, (LeA.eqb (by first | rfl | (rw [Bool.eq_iff_iff]; (try simp only [BQ]) <;> first | omega | (simp_all; done) | (simp_all; omega))))⟩, trivial⟩ (by kernel_rfl) (by kernel_rfl) trivial⟩
        refine WRest.join 5 [(87, .d (.bool (decide (a = -1 ∧ 0 ≤ p.n ∧ p.n ≤ p.m ∧ p.m ≤ 9))))] [83, 84, 85, 86] ?_ ?_
        ·
         refine mv ?_
         refine sp 83 ?_ ?_
         ·intro h37; have ⟨h37p, h37s⟩ := dup h37; try simp only [Q5] at h37s
          try simp only [Q] at h37p
          refine Walk.fieldB fd70_3 (.some rfl rfl h37) rfl rfl ?_
          refine Walk.loadB ty3 (.some rfl rfl h37) rfl rfl rfl rfl ?_
          refine Walk.leI (.some rfl rfl h37) rfl rfl rfl ?_
          refine Walk.pickT .none rfl rfl h37 rfl ?_
          exact ⟨trivial, Sub.x (by kernel_rfl) (by kernel_rfl) ⟨⟨_, rfl, (LeA.eqb (by first | rfl | (rw [Bool.eq_iff_iff]; (try simp only [BQ]) <;> first | omega | (simp_all; done) | (simp_all; omega))))⟩, trivial⟩ (by kernel_rfl) (by kernel_rfl) trivial⟩
         ·intro h37; have ⟨h37p, h37s⟩ := dup h37; try simp only [Q5] at h37s
          try simp only [Q] at h37p
          refine ps h37 ?_
          refine ps h37 ?_
          refine ps h37 ?_
          refine Walk.pickF .none rfl rfl h37 rfl ?_
          exact ⟨trivial, Sub.x (by kernel_rfl) (by kernel_rfl) ⟨⟨_, rfl, (LeA.eqb (by first | rfl | (rw [Bool.eq_iff_iff]; (try simp only [BQ]) <;> first | omega | (simp_all; done) | (simp_all; omega))))⟩, trivial⟩ (by kernel_rfl) (by kernel_rfl) trivial⟩
        refine WRest.done ?_
        refine asg ?_
        refine tv ?_
        refine CWp.ret ?_
        refine ⟨_, _, [], (.cons (.tmp rfl) .nil), (.eqd ?_), ⟨rfl, rfl⟩, HSub.nil, noBox⟩
        all_goals (refine congrArg D.bool ?_; unfold ownP; rw [Bool.eq_iff_iff]; by_cases hmem : p.ctor ∈ vctors w ⟨a, k⟩ <;> (simp only [hmem, and_true, and_false, or_false, decide_eq_true_eq, Bool.and_eq_true, Bool.false_eq_true, true_iff, false_iff]; simp only [decide_eq_true_eq, decide_eq_false_iff_not] at *; omega))
       ·intro h34; have ⟨h34p, h34s⟩ := dup h34; try simp only [Q5] at h34s
        try simp only [Q] at h34p
        refine sr ?_
        refine Walk.eqI .none rfl rfl rfl ?_
        refine asg ?_
        refine tv ?_
        refine cd ?_ ?_
        ·intro h38; have ⟨h38p, h38s⟩ := dup h38; try simp only [Q5] at h38s
         try simp only [Q] at h38p
         refine CWp.seq ?_
         refine CWp.drawn mixed rfl ?_
         refine mv ?_
         refine Walk.loadBA ty38 .none rfl rfl rfl rfl ?_
         refine Walk.call (cr := []) cal120 (spec_l1Ctors_v hw ht) rfl .none rfl rfl (LeL.refl _) trivial rfl rfl rfl ?_
         refine Walk.fieldB fd70_1 .none rfl rfl ?_
         refine Walk.loadB ty3 .none rfl rfl rfl rfl ?_
         refine Walk.call (cr := []) cal128 (spec_l1Has_fn hcl) rfl .none rfl rfl (LeL.refl _) trivial rfl rfl rfl ?_
         refine asg ?_
         refine ⟨by show _ = _; kernel_rfl, ?_⟩
         refine CWp.ret ?_
         refine ⟨_, _, [], (.cons (.tmp rfl) .nil), (.eqd ?_), ⟨rfl, rfl⟩, HSub.nil, noBox⟩
         all_goals (refine congrArg D.bool ?_; unfold ownP; rw [Bool.eq_iff_iff]; by_cases hmem : p.ctor ∈ vctors w ⟨a, k⟩ <;> (simp only [hmem, and_true, and_false, or_false, decide_eq_true_eq, Bool.and_eq_true, Bool.false_eq_true, true_iff, false_iff]; simp only [decide_eq_true_eq, decide_eq_false_iff_not] at *; omega))
        ·intro h38; have ⟨h38p, h38s⟩ := dup h38; try simp only [Q5] at h38s
         try simp only [Q] at h38p
         refine CWp.skip ?_
         refine sr ?_
         refine asg ?_
         refine tv ?_
         refine CWp.ret ?_
         refine ⟨_, _, [], (.cons (.tmp rfl) .nil), (.eqd ?_), ⟨rfl, rfl⟩, HSub.nil, noBox⟩
         all_goals (refine congrArg D.bool ?_; unfold ownP; rw [Bool.eq_iff_iff]; by_cases hmem : p.ctor ∈ vctors w ⟨a, k⟩ <;> (simp only [hmem, and_true, and_false, or_false, decide_eq_true_eq, Bool.and_eq_true, Bool.false_eq_true, true_iff, false_iff]; simp only [decide_eq_true_eq, decide_eq_false_iff_not] at *; omega))
theorem spec_l3Types_fn {w : List Data} (hw : WT w) {a k : Int} {p : Pat} (ht : TyIn w.length ⟨a, k⟩) (h : p.op = 4 → p.ctor ∈ vctors w ⟨a, k⟩) :
  FnD Try.prog 134 [.d (encDatas w), .agg [.d (.i a), .d (.i k)], .agg [.d (.i p.op), .d (.i p.ctor), .d (.i p.n), .d (.i p.m), .d (.i p.var), .d (encPats p.kids)]] [] (.d (encTys (typesP w ⟨a, k⟩ p))) [] := by
 by_cases h4 : p.op = 4
 ·have e : typesP w ⟨a, k⟩ p = argsOf w ⟨a, k⟩ p.ctor := by unfold typesP; rw [if_pos h4]
  rw [e]
  refine Fn.body (fn := Try.f134) (n := 30) rfl rfl rfl rfl rfl (fun w0 F0 own kept hk => ?_)
  refine sr ?_
  refine Walk.box (id := 3004) .none rfl rfl rfl rfl rfl rfl rfl ?_
  refine Walk.box (id := 3005) .none rfl rfl rfl rfl rfl rfl rfl ?_
  refine asg ?_
  refine tv ?_
  refine CWp.seq ?_
  refine sr ?_
  refine Walk.fieldB fd70_0 .none rfl rfl ?_
  refine Walk.loadB ty3 .none rfl rfl rfl rfl ?_
  refine Walk.eqI .none rfl rfl rfl ?_
  refine tv ?_
  refine cd ?_ ?_
  ·intro h1; have ⟨h1p, h1s⟩ := dup h1; try simp only [Q5] at h1s
   try simp only [Q] at h1p
   refine sr ?_
   refine mv ?_
   refine Walk.loadBA ty38 .none rfl rfl rfl rfl ?_
   refine Walk.fieldB fd70_1 .none rfl rfl ?_
   refine Walk.loadB ty3 .none rfl rfl rfl rfl ?_
   refine Walk.call (cr := []) cal121 (spec_l1Args_v hw ht (h h4)) rfl .none rfl rfl (LeL.refl _) trivial rfl rfl rfl ?_
   refine asg ?_
   refine tv ?_
   refine CWp.ret ?_
   refine ⟨_, _, [], (.cons (.tmp rfl) .nil), (.eqd ?_), ⟨rfl, rfl⟩, HSub.nil, noBox⟩
   all_goals (rfl)
  ·intro h1; have ⟨h1p, h1s⟩ := dup h1; try simp only [Q5] at h1s
   try simp only [Q] at h1p
   exfalso; simp_all --stop
 ·have e : typesP w ⟨a, k⟩ p = List.replicate (kidsN p.op).toNat ⟨a, k⟩ := by
   unfold typesP kidsN; rw [if_neg h4]
   by_cases h5 : p.op = 5
   ·rw [if_pos h5, if_pos h5]; rfl
   ·rw [if_neg h5, if_neg h5]
    by_cases h6 : p.op = 6
    ·rw [if_pos h6, if_pos h6]; rfl
    ·rw [if_neg h6, if_neg h6, if_neg h4]; rfl
  have hb : 0 ≤ kidsN p.op ∧ kidsN p.op ≤ 2 := by unfold kidsN; split <;> (try split) <;> (try split) <;> omega
  rw [e]
  refine Fn.body (fn := Try.f134) (n := 30) rfl rfl rfl rfl rfl (fun w0 F0 own kept hk => ?_)
  refine sr ?_
  refine Walk.box (id := 3004) .none rfl rfl rfl rfl rfl rfl rfl ?_
  refine Walk.box (id := 3005) .none rfl rfl rfl rfl rfl rfl rfl ?_
  refine asg ?_
  refine tv ?_
  refine CWp.seq ?_
  refine sr ?_
  refine Walk.fieldB fd70_0 .none rfl rfl ?_
  refine Walk.loadB ty3 .none rfl rfl rfl rfl ?_
  refine Walk.eqI .none rfl rfl rfl ?_
  refine tv ?_
  refine cd ?_ ?_
  ·intro h1; have ⟨h1p, h1s⟩ := dup h1; try simp only [Q5] at h1s
   try simp only [Q] at h1p
   exfalso; simp_all --stop
  ·intro h1; have ⟨h1p, h1s⟩ := dup h1; try simp only [Q5] at h1s
   try simp only [Q] at h1p
   refine CWp.skip ?_
   refine sr ?_
   refine Walk.sliceEmptyG 5 sl24 .none rfl rfl ?_
   refine asg ?_
   refine tv ?_
   refine CWp.seq ?_
   refine sr ?_
   refine asg ?_
   refine tv ?_
   refine CWp.block ?_
   refine CWp.loopX (ι := Nat) hk (fun i => [(8, .d (.i (i : Int))), (7, .gl 5 ((List.replicate i (⟨a, k⟩ : Ty)).map Ty.c))]) [18, 19, 20, 21, 22, 23, 24, 25, 26, 27, 28] (fun i => [(5, some (.tok (((List.replicate i (⟨a, k⟩ : Ty)).map Ty.c)).length 2))]) (fun i => (i : Int) ≤ kidsN p.op) (fun i => (kidsN p.op).toNat - i) 0 (by omega) ⟨⟨_, rfl, (LeA.eqi (by first | rfl | (simp; done) | (simp [List.replicate_succ']; done) | omega))⟩, ⟨⟨_, rfl, (LeA.glg (by first | rfl | (simp; done) | (simp [List.replicate_succ']; done) | omega))⟩, trivial⟩⟩ ⟨beq_nat_eq (by first | rfl | (simp; done) | (simp; omega) | (first | rfl | (simp; done) | (simp [List.replicate_succ']; done) | omega)), trivial⟩ (fun x => rfl) (fun i hg1 => ?_)
   refine CWp.seq ?_
   refine sr ?_
   refine mv ?_
   refine Walk.fieldB fd70_0 .none rfl rfl ?_
   refine Walk.loadB ty3 .none rfl rfl rfl rfl ?_
   refine Walk.call (cr := []) cal149 (spec_l3Kids_fn) rfl .none rfl rfl (LeL.refl _) trivial rfl rfl rfl ?_
   refine Walk.ltI .none rfl rfl rfl ?_
   refine tv ?_
   refine cd ?_ ?_
   ·intro h2; have ⟨h2p, h2s⟩ := dup h2; try simp only [Q5] at h2s
    try simp only [Q] at h2p
    refine CWp.skip ?_
    refine CWp.seq ?_
    refine CWp.block ?_
    refine CWp.region rfl ?_
    refine mv ?_
    refine Walk.loadBA ty38 .none rfl rfl rfl rfl ?_
    refine Walk.sliceLit sl24 tz38 rfl (by decide) (ks := [0]) (xs := [_]) rfl rfl (by decide) (by decide) .none rfl rfl rfl rfl ?_
    refine Walk.append sl24 zz38 rfl .none rfl rfl rfl rfl (htokL rfl (by first | rfl | (simp; done) | (simp; omega))) (by simp) (by simp; omega) (by simp; omega) ?_
    refine asg ?_
    refine tv ?_
    refine CWp.region rfl ?_
    refine mv ?_
    refine Walk.addI .none rfl rfl rfl (by first | (constructor <;> omega) | (constructor <;> simp <;> omega)) ?_
    refine asg ?_
    refine tv ?_
    refine ⟨i + 1, (by omega), (by omega), Sub.x (by kernel_rfl) (by kernel_rfl) ⟨⟨_, rfl, (LeA.eqi (by first | rfl | (simp; done) | (simp [List.replicate_succ']; done) | omega))⟩, ⟨⟨_, rfl, (LeA.glg (by first | rfl | (simp; done) | (simp [List.replicate_succ']; done) | omega))⟩, trivial⟩⟩ (by kernel_rfl) (by kernel_rfl) ⟨beq_nat_eq (by first | rfl | (simp; done) | (simp; omega) | (first | rfl | (simp; done) | (simp [List.replicate_succ']; done) | omega)), trivial⟩⟩
   ·intro h2; have ⟨h2p, h2s⟩ := dup h2; try simp only [Q5] at h2s
    try simp only [Q] at h2p
    refine CWp.exit ?_
    refine sr ?_
    refine mv ?_
    refine asg ?_
    refine tv ?_
    refine CWp.ret ?_
    refine ⟨_, _, [], (.cons (.tmp rfl) .nil), (.gld ?_), ⟨rfl, rfl⟩, HSub.nil, noBox⟩
    all_goals ((obtain rfl : i = (kidsN p.op).toNat := by omega); simp)
theorem shapeP_own {w : List Data} {n : Nat} {t : Ty} {p : Pat} (h : shapeP w (n + 1) t p = true) : ownP w t p = true ∧ p.kids.length = (typesP w t p).length := by
 simp only [shapeP, Bool.and_eq_true] at h
 refine ⟨h.1, ?_⟩
 by_cases hl : (typesP w t p).length = p.kids.length
 ·exact hl.symm
 ·rw [all2_len hl] at h; simp at h
theorem ownP_mem {w : List Data} {t : Ty} {p : Pat} (h : ownP w t p = true) : p.op = 4 → p.ctor ∈ vctors w t := by
 intro h4
 unfold ownP at h
 have h' := (of_decide_eq_true h).2.2.2.2
 rcases h' with h | h | h | h | h | h
 ·omega
 ·omega
 ·omega
 ·omega
 ·omega
 ·exact h.2
theorem ownP_var {w : List Data} {t : Ty} {p : Pat} (h : ownP w t p = true) : (p.op = 2 ∨ p.op = 6) → 0 ≤ p.var ∧ p.var ≤ 5 := by
 unfold ownP at h
 exact (of_decide_eq_true h).1
theorem spec_l3Shape_fn {w : List Data} (hw : WT w) : ∀ (n : Nat) {a k m : Int} {p : Pat}, m = n → n ≤ 1000 → TyIn w.length ⟨a, k⟩ → p.ok →
  FnD Try.prog 106 [.d (encDatas w), .agg [.d (.i a), .d (.i k)], .agg [.d (.i p.op), .d (.i p.ctor), .d (.i p.n), .d (.i p.m), .d (.i p.var), .d (encPats p.kids)], .d (.i m)] [] (.d (.bool (shapeP w n ⟨a, k⟩ p))) []
 | 0, a, k, m, p, hm, _, ht, hok => by
  refine Fn.body (fn := Try.f106) (n := 50) rfl rfl rfl rfl rfl (fun w0 F0 own kept hk => ?_)
  refine sr ?_
  refine Walk.box (id := 3005) .none rfl rfl rfl rfl rfl rfl rfl ?_
  refine Walk.box (id := 3006) .none rfl rfl rfl rfl rfl rfl rfl ?_
  refine asg ?_
  refine tv ?_
  refine CWp.seq ?_
  refine CWp.seq ?_
  refine CWp.regionJ ?_
  refine WRest.join 9 [(19, .d (.bool (true)))] [11, 12, 13, 14, 15, 16, 17, 18] ?_ ?_
  ·
   refine mv ?_
   refine Walk.ltI .none rfl rfl rfl ?_
   refine mv ?_
   refine sp 13 ?_ ?_
   ·intro h1; have ⟨h1p, h1s⟩ := dup h1; try simp only [Q5] at h1s
    try simp only [Q] at h1p
    refine ps h1 ?_
    refine ps h1 ?_
    refine ps h1 ?_
    refine ps h1 ?_
    refine ps h1 ?_
    refine Walk.pickT .none rfl rfl h1 rfl ?_
    exact ⟨trivial, Sub.x (by kernel_rfl) (by kernel_rfl) ⟨⟨_, rfl, (LeA.eqb (by first | rfl | (rw [Bool.eq_iff_iff]; (try simp only [BQ]) <;> first | omega | (simp_all; done) | (simp_all; omega))))⟩, trivial⟩ (by kernel_rfl) (by kernel_rfl) trivial⟩
   ·intro h1; have ⟨h1p, h1s⟩ := dup h1; try simp only [Q5] at h1s
    try simp only [Q] at h1p
    refine Walk.move (.some rfl rfl h1) rfl rfl ?_
    refine Walk.loadBA ty38 (.some rfl rfl h1) rfl rfl rfl rfl ?_
    refine Walk.loadBA ty70 (.some rfl rfl h1) rfl rfl rfl rfl ?_
    refine Walk.call (cr := []) cal133 (spec_l3Own_fn hw ht) rfl (.some rfl rfl h1) rfl rfl (LeL.refl _) trivial rfl rfl rfl ?_
    refine Walk.not (.some rfl rfl h1) rfl rfl ?_
    refine Walk.pickF .none rfl rfl h1 rfl ?_
    exact ⟨trivial, Sub.x (by kernel_rfl) (by kernel_rfl) ⟨⟨_, rfl, (LeA.eqb (by first | rfl | (rw [Bool.eq_iff_iff]; (try simp only [BQ]) <;> first | omega | (simp_all; done) | (simp_all; omega))))⟩, trivial⟩ (by kernel_rfl) (by kernel_rfl) trivial⟩
  refine WRest.done ?_
  refine tv ?_
  refine cd ?_ ?_
  ·intro h2; have ⟨h2p, h2s⟩ := dup h2; try simp only [Q5] at h2s
   try simp only [Q] at h2p
   refine sr ?_
   refine asg ?_
   refine tv ?_
   refine CWp.ret ?_
   refine ⟨_, _, [], (.cons (.tmp rfl) .nil), (.eqd ?_), ⟨rfl, rfl⟩, HSub.nil, noBox⟩
   all_goals (rfl)
  ·intro h2; have ⟨h2p, h2s⟩ := dup h2; try simp only [Q5] at h2s
   try simp only [Q] at h2p
   exact absurd h2 (by simp) --stop
 | n + 1, a, k, m, p, hm, hn, ht, hok => by
  rw [Pat.ok_iff] at hok
  by_cases ho : ownP w ⟨a, k⟩ p = true
  ·have hin := typesP_in hw ht ho
   have hlen := typesP_len hw ht (ownP_mem ho)
   refine Fn.body (fn := Try.f106) (n := 50) rfl rfl rfl rfl rfl (fun w0 F0 own kept hk => ?_)
   refine sr ?_
   refine Walk.box (id := 3005) .none rfl rfl rfl rfl rfl rfl rfl ?_
   refine Walk.box (id := 3006) .none rfl rfl rfl rfl rfl rfl rfl ?_
   refine asg ?_
   refine tv ?_
   refine CWp.seq ?_
   refine CWp.seq ?_
   refine CWp.regionJ ?_
   refine WRest.join 9 [(19, .d (.bool (false)))] [11, 12, 13, 14, 15, 16, 17, 18] ?_ ?_
   ·
    refine mv ?_
    refine Walk.ltI .none rfl rfl rfl ?_
    refine mv ?_
    refine sp 13 ?_ ?_
    ·intro h1; have ⟨h1p, h1s⟩ := dup h1; try simp only [Q5] at h1s
     try simp only [Q, Pat.cs_len] at h1p
     refine ps h1 ?_
     refine ps h1 ?_
     refine ps h1 ?_
     refine ps h1 ?_
     refine ps h1 ?_
     refine Walk.pickT .none rfl rfl h1 rfl ?_
     exact ⟨trivial, Sub.x (by kernel_rfl) (by kernel_rfl) ⟨⟨_, rfl, (LeA.eqb (by first | rfl | (rw [Bool.eq_iff_iff]; (try simp only [BQ]) <;> first | omega | (simp_all; done) | (simp_all; omega))))⟩, trivial⟩ (by kernel_rfl) (by kernel_rfl) trivial⟩
    ·intro h1; have ⟨h1p, h1s⟩ := dup h1; try simp only [Q5] at h1s
     try simp only [Q, Pat.cs_len] at h1p
     refine Walk.move (.some rfl rfl h1) rfl rfl ?_
     refine Walk.loadBA ty38 (.some rfl rfl h1) rfl rfl rfl rfl ?_
     refine Walk.loadBA ty70 (.some rfl rfl h1) rfl rfl rfl rfl ?_
     refine Walk.call (cr := []) cal133 (spec_l3Own_fn hw ht) rfl (.some rfl rfl h1) rfl rfl (LeL.refl _) trivial rfl rfl rfl ?_
     refine Walk.not (.some rfl rfl h1) rfl rfl ?_
     refine Walk.pickF .none rfl rfl h1 rfl ?_
     exact ⟨trivial, Sub.x (by kernel_rfl) (by kernel_rfl) ⟨⟨_, rfl, (LeA.eqb (by first | rfl | (rw [Bool.eq_iff_iff]; (try simp only [BQ]) <;> first | omega | (simp_all; done) | (simp_all; omega))))⟩, trivial⟩ (by kernel_rfl) (by kernel_rfl) trivial⟩
   refine WRest.done ?_
   refine tv ?_
   refine cd ?_ ?_
   ·intro h2; have ⟨h2p, h2s⟩ := dup h2; try simp only [Q5] at h2s
    try simp only [Q, Pat.cs_len] at h2p
    exact absurd h2 (by simp) --stop
   ·intro h2; have ⟨h2p, h2s⟩ := dup h2; try simp only [Q5] at h2s
    try simp only [Q, Pat.cs_len] at h2p
    refine CWp.skip ?_
    refine sr ?_
    refine mv ?_
    refine Walk.loadBA ty38 .none rfl rfl rfl rfl ?_
    refine Walk.loadBA ty70 .none rfl rfl rfl rfl ?_
    refine Walk.call (cr := []) cal134 (spec_l3Types_fn hw ht (ownP_mem ho)) rfl .none rfl rfl (LeL.refl _) trivial rfl rfl rfl ?_
    refine asg ?_
    refine tv ?_
    refine CWp.seq ?_
    refine sr ?_
    refine Walk.fieldB fd70_5 .none rfl rfl ?_
    refine Walk.loadB ty68 .none rfl rfl rfl rfl ?_
    refine Walk.len sl68 .none rfl rfl ?_
    refine mv ?_
    refine Walk.len sl24 .none rfl rfl ?_
    refine Walk.neI .none rfl rfl rfl ?_
    refine tv ?_
    refine cd ?_ ?_
    ·intro h3; have ⟨h3p, h3s⟩ := dup h3; try simp only [Q5] at h3s
     try simp only [Q, Pat.cs_len] at h3p
     refine sr ?_
     refine asg ?_
     refine tv ?_
     refine CWp.ret ?_
     refine ⟨_, _, [], (.cons (.tmp rfl) .nil), (.eqd ?_), ⟨rfl, rfl⟩, HSub.nil, noBox⟩
     all_goals (refine congrArg D.bool ?_; unfold shapeP; rw [ho, Bool.true_and]; first | (rw [all2_len (by simp [Pat.cs_len] at *; omega)]) | (rw [all2_nth_true (by simp [Pat.cs_len] at *; omega) (fun x hx => hg1.2 x (by simp [Pat.cs_len] at *; omega))]) | (rw [all2_nth_false (i := i) (by simp [Pat.cs_len] at *; omega) (by simp [Pat.cs_len] at *; omega) (by assumption)]))
    ·intro h3; have ⟨h3p, h3s⟩ := dup h3; try simp only [Q5] at h3s
     try simp only [Q, Pat.cs_len] at h3p
     refine CWp.skip ?_
     refine CWp.seq ?_
     refine sr ?_
     refine asg ?_
     refine tv ?_
     refine CWp.block ?_
     refine CWp.loopX (ι := Nat) hk (fun i => [(10, .d (.i (i : Int)))]) [8, 30, 31, 32, 33, 34, 35, 36, 37, 38, 39, 40, 41, 42, 43, 44, 45, 46, 47, 48, 49] (fun i => []) (fun i => i ≤ (typesP w ⟨a, k⟩ p).length ∧ ∀ i', i' < i → shapeP w n (nth (typesP w ⟨a, k⟩ p) i') (nth p.kids i') = true) (fun i => (typesP w ⟨a, k⟩ p).length - i) 0 ⟨by omega, fun _ h => absurd h (by omega)⟩ ⟨⟨_, rfl, (LeA.eqi (by first | rfl | (simp; done) | (simp_all; done) | omega))⟩, trivial⟩ trivial (fun x => rfl) (fun i hg1 => ?_)
     refine CWp.seq ?_
     refine sr ?_
     refine mv ?_
     refine mv ?_
     refine Walk.len sl24 .none rfl rfl ?_
     refine Walk.ltI .none rfl rfl rfl ?_
     refine tv ?_
     refine cd ?_ ?_
     ·intro h4; have ⟨h4p, h4s⟩ := dup h4; try simp only [Q5] at h4s
      try simp only [Q, Pat.cs_len] at h4p
      refine CWp.skip ?_
      refine CWp.seq ?_
      refine CWp.block ?_
      refine CWp.seq ?_
      refine CWp.drawn mixed rfl ?_
      refine mv ?_
      refine mv ?_
      refine mv ?_
      refine Walk.idx sl24 .none rfl rfl rfl rfl (at_nth (by omega)) rfl ?_
      refine Walk.loadPA ty38 .none rfl rfl rfl rfl ?_
      refine Walk.fieldB fd70_5 .none rfl rfl ?_
      refine Walk.loadB ty68 .none rfl rfl rfl rfl ?_
      refine mv ?_
      refine Walk.idx sl68 .none rfl rfl rfl rfl (pats_at (by omega)) rfl ?_
      refine Walk.loadPA ty70 .none rfl rfl rfl rfl ?_
      refine mv ?_
      refine Walk.subI .none rfl rfl rfl (by first | (constructor <;> omega) | (constructor <;> simp <;> omega)) ?_
      refine Walk.call (cr := []) cal106 (spec_l3Shape_fn hw n (by omega) (by omega) (hin _ (nth_mem (by omega))) (Pats.ok_mem hok.2 _ (nth_mem (by omega)))) rfl .none rfl rfl (LeL.refl _) trivial rfl rfl rfl ?_
      refine Walk.not .none rfl rfl ?_
      refine ⟨by show _ = _; kernel_rfl, ?_⟩
      refine cd ?_ ?_
      ·intro h5; have ⟨h5p, h5s⟩ := dup h5; try simp only [Q5] at h5s
       try simp only [Q, Pat.cs_len] at h5p
       refine sr ?_
       refine asg ?_
       refine tv ?_
       refine CWp.ret ?_
       refine ⟨_, _, [], (.cons (.tmp rfl) .nil), (.eqd ?_), ⟨rfl, rfl⟩, HSub.nil, noBox⟩
       all_goals (refine congrArg D.bool ?_; unfold shapeP; rw [ho, Bool.true_and]; first | (rw [all2_len (by simp [Pat.cs_len] at *; omega)]) | (rw [all2_nth_true (by simp [Pat.cs_len] at *; omega) (fun x hx => hg1.2 x (by simp [Pat.cs_len] at *; omega))]) | (rw [all2_nth_false (i := i) (by simp [Pat.cs_len] at *; omega) (by simp [Pat.cs_len] at *; omega) (by assumption)]))
      ·intro h5; have ⟨h5p, h5s⟩ := dup h5; try simp only [Q5] at h5s
       try simp only [Q, Pat.cs_len] at h5p
       refine CWp.skip ?_
       refine CWp.region rfl ?_
       refine mv ?_
       refine Walk.addI .none rfl rfl rfl (by first | (constructor <;> omega) | (constructor <;> simp <;> omega)) ?_
       refine asg ?_
       refine tv ?_
       refine ⟨i + 1, ⟨by omega, upto_succ hg1.2 (by assumption)⟩, (by omega), Sub.x (by kernel_rfl) (by kernel_rfl) ⟨⟨_, rfl, (LeA.eqi (by first | rfl | (simp; done) | (simp_all; done) | omega))⟩, trivial⟩ (by kernel_rfl) (by kernel_rfl) trivial⟩
     ·intro h4; have ⟨h4p, h4s⟩ := dup h4; try simp only [Q5] at h4s
      try simp only [Q, Pat.cs_len] at h4p
      refine CWp.exit ?_
      refine sr ?_
      refine asg ?_
      refine tv ?_
      refine CWp.ret ?_
      refine ⟨_, _, [], (.cons (.tmp rfl) .nil), (.eqd ?_), ⟨rfl, rfl⟩, HSub.nil, noBox⟩
      all_goals (refine congrArg D.bool ?_; unfold shapeP; rw [ho, Bool.true_and]; first | (rw [all2_len (by simp [Pat.cs_len] at *; omega)]) | (rw [all2_nth_true (by simp [Pat.cs_len] at *; omega) (fun x hx => hg1.2 x (by simp [Pat.cs_len] at *; omega))]) | (rw [all2_nth_false (i := i) (by simp [Pat.cs_len] at *; omega) (by simp [Pat.cs_len] at *; omega) (by assumption)]))
  ·have ho' : ownP w ⟨a, k⟩ p = false := by simpa using ho
   refine Fn.body (fn := Try.f106) (n := 50) rfl rfl rfl rfl rfl (fun w0 F0 own kept hk => ?_)
   refine sr ?_
   refine Walk.box (id := 3005) .none rfl rfl rfl rfl rfl rfl rfl ?_
   refine Walk.box (id := 3006) .none rfl rfl rfl rfl rfl rfl rfl ?_
   refine asg ?_
   refine tv ?_
   refine CWp.seq ?_
   refine CWp.seq ?_
   refine CWp.regionJ ?_
   refine WRest.join 9 [(19, .d (.bool (true)))] [11, 12, 13, 14, 15, 16, 17, 18] ?_ ?_
   ·
    refine mv ?_
    refine Walk.ltI .none rfl rfl rfl ?_
    refine mv ?_
    refine sp 13 ?_ ?_
    ·intro h1; have ⟨h1p, h1s⟩ := dup h1; try simp only [Q5] at h1s
     try simp only [Q] at h1p
     refine ps h1 ?_
     refine ps h1 ?_
     refine ps h1 ?_
     refine ps h1 ?_
     refine ps h1 ?_
     refine Walk.pickT .none rfl rfl h1 rfl ?_
     exact ⟨trivial, Sub.x (by kernel_rfl) (by kernel_rfl) ⟨⟨_, rfl, (LeA.eqb (by first | rfl | (rw [Bool.eq_iff_iff]; (try simp only [BQ]) <;> first | omega | (simp_all; done) | (simp_all; omega))))⟩, trivial⟩ (by kernel_rfl) (by kernel_rfl) trivial⟩
    ·intro h1; have ⟨h1p, h1s⟩ := dup h1; try simp only [Q5] at h1s
     try simp only [Q] at h1p
     refine Walk.move (.some rfl rfl h1) rfl rfl ?_
     refine Walk.loadBA ty38 (.some rfl rfl h1) rfl rfl rfl rfl ?_
     refine Walk.loadBA ty70 (.some rfl rfl h1) rfl rfl rfl rfl ?_
     refine Walk.call (cr := []) cal133 (spec_l3Own_fn hw ht) rfl (.some rfl rfl h1) rfl rfl (LeL.refl _) trivial rfl rfl rfl ?_
     refine Walk.not (.some rfl rfl h1) rfl rfl ?_
     refine Walk.pickF .none rfl rfl h1 rfl ?_
     exact ⟨trivial, Sub.x (by kernel_rfl) (by kernel_rfl) ⟨⟨_, rfl, (LeA.eqb (by first | rfl | (rw [Bool.eq_iff_iff]; (try simp only [BQ]) <;> first | omega | (simp_all; done) | (simp_all; omega))))⟩, trivial⟩ (by kernel_rfl) (by kernel_rfl) trivial⟩
   refine WRest.done ?_
   refine tv ?_
   refine cd ?_ ?_
   ·intro h2; have ⟨h2p, h2s⟩ := dup h2; try simp only [Q5] at h2s
    try simp only [Q] at h2p
    refine sr ?_
    refine asg ?_
    refine tv ?_
    refine CWp.ret ?_
    refine ⟨_, _, [], (.cons (.tmp rfl) .nil), (.eqd ?_), ⟨rfl, rfl⟩, HSub.nil, noBox⟩
    all_goals (refine congrArg D.bool ?_; unfold shapeP; rw [ho']; rfl)
   ·intro h2; have ⟨h2p, h2s⟩ := dup h2; try simp only [Q5] at h2s
    try simp only [Q] at h2p
    exact absurd h2 (by simp) --stop
theorem spec_l3Find_fn {l : List Vt} {n : Int} (h : l.length ≤ 1000000000000) : FnD Try.prog 137 [.d (encVts l), .d (.i n)] [] (.d (.i (findV l n))) [] := by
 refine Fn.body (fn := Try.f137) (n := 20) rfl rfl rfl rfl rfl (fun w0 F0 own kept hk => ?_)
 refine sr ?_
 refine asg ?_
 refine tv ?_
 refine CWp.seq ?_
 refine sr ?_
 refine asg ?_
 refine tv ?_
 refine CWp.block ?_
 refine CWp.loopX (ι := List (Vt) × List (Vt)) hk (fun x => [(5, .d (.i (x.1.length : Int)))]) [4, 6, 7, 8, 9, 10, 11, 12, 13, 14, 15, 16, 17, 18, 19] (fun x => []) (fun x => x.1 ++ x.2 = l ∧ idxF (fun v => decide (v.var = n)) x.2 x.1.length = idxF (fun v => decide (v.var = n)) l 0) (fun x => x.2.length) ([], l) ⟨by simp, rfl⟩ ⟨⟨_, rfl, (LeA.eqi (by first | rfl | (simp; done) | (simp_all; done) | omega))⟩, trivial⟩ trivial (fun x => rfl) (fun x hg1 => ?_)
 obtain ⟨pre, rest⟩ := x
 dsimp only at hg1 ⊢
 refine CWp.seq ?_
 refine sr ?_
 refine mv ?_
 refine mv ?_
 refine Walk.len sl134 .none rfl rfl ?_
 refine Walk.ltI .none rfl rfl rfl ?_
 refine tv ?_
 refine cd ?_ ?_
 ·intro h1; have ⟨h1p, h1s⟩ := dup h1; try simp only [Q5] at h1s
  try simp only [Q] at h1p
  rcases rest with _ | ⟨y, rest⟩
  ·exfalso; simp_all
  refine CWp.skip ?_
  refine CWp.seq ?_
  refine CWp.block ?_
  refine sr ?_
  refine mv ?_
  refine mv ?_
  refine Walk.idx sl134 .none rfl rfl rfl rfl (zip_at hg1.1) rfl ?_
  refine Walk.fieldP fd168_0 .none rfl rfl ?_
  refine Walk.loadP ty3 .none rfl rfl rfl ?_
  refine mv ?_
  refine Walk.eqI .none rfl rfl rfl ?_
  refine tv ?_
  refine cd ?_ ?_
  ·intro h2; have ⟨h2p, h2s⟩ := dup h2; try simp only [Q5] at h2s
   try simp only [Q] at h2p
   refine sr ?_
   refine mv ?_
   refine asg ?_
   refine tv ?_
   refine CWp.ret ?_
   refine ⟨_, _, [], (.cons (.tmp rfl) .nil), (.eqd ?_), ⟨rfl, rfl⟩, HSub.nil, noBox⟩
   all_goals (refine congrArg D.i ?_; unfold findV; rw [← hg1.2]; simp [idxF, h1s, h1p, h2s, h2p])
  ·intro h2; have ⟨h2p, h2s⟩ := dup h2; try simp only [Q5] at h2s
   try simp only [Q] at h2p
   refine CWp.skip ?_
   refine CWp.region rfl ?_
   refine mv ?_
   refine Walk.addI .none rfl rfl rfl (by first | (constructor <;> omega) | (constructor <;> simp <;> omega)) ?_
   refine asg ?_
   refine tv ?_
   refine ⟨(pre ++ [y], rest), ⟨(by have hz := hg1.1; rw [← hz]; simp), (by rw [← hg1.2]; simp_all [idxF])⟩, (by simp), Sub.x (by kernel_rfl) (by kernel_rfl) ⟨⟨_, rfl, (LeA.eqi (by first | rfl | (simp; done) | (simp_all; done) | omega))⟩, trivial⟩ (by kernel_rfl) (by kernel_rfl) trivial⟩
 ·intro h1; have ⟨h1p, h1s⟩ := dup h1; try simp only [Q5] at h1s
  try simp only [Q] at h1p
  have hrest : rest = [] := by
   rcases rest with _ | ⟨a, b⟩
   ·rfl
   ·exfalso; have hz := congrArg List.length (hg1.1); simp only [List.length_append, List.length_cons, List.length_map] at hz; omega
  subst hrest
  refine CWp.exit ?_
  refine sr ?_
  refine asg ?_
  refine tv ?_
  refine CWp.ret ?_
  refine ⟨_, _, [], (.cons (.tmp rfl) .nil), (.eqd ?_), ⟨rfl, rfl⟩, HSub.nil, noBox⟩
  all_goals (refine congrArg D.i ?_; unfold findV; rw [← hg1.2]; simp [idxF, h1s, h1p])
theorem alike_false {a b : List Vt} {i : Nat} (h : i < a.length) (h2 : ¬ (0 ≤ findV b (nth a i).var ∧ (nth b (findV b (nth a i).var).toNat).ty = (nth a i).ty)) : alikeV a b = false := by
 unfold alikeV
 have : (a.all fun v => decide (0 ≤ findV b v.var ∧ (nth b (findV b v.var).toNat).ty = v.ty)) = false := List.all_eq_false.2 ⟨_, nth_mem h, by simpa using h2⟩
 rw [this, Bool.false_and]
theorem alike_true {a b : List Vt} (h : ∀ i, i < a.length → 0 ≤ findV b (nth a i).var ∧ (nth b (findV b (nth a i).var).toNat).ty = (nth a i).ty) : alikeV a b = decide (a.length = b.length) := by
 unfold alikeV
 have : (a.all fun v => decide (0 ≤ findV b v.var ∧ (nth b (findV b v.var).toNat).ty = v.ty)) = true := by
  rw [List.all_eq_true]
  intro v hv
  obtain ⟨j, hj, he⟩ := List.getElem_of_mem hv
  have := h j hj
  rw [nth_eq hj, he] at this
  exact decide_eq_true this
 rw [this, Bool.true_and]
theorem findV_lt {l : List Vt} {n : Int} (h : 0 ≤ findV l n) : (findV l n).toNat < l.length ∧ ((findV l n).toNat : Int) = findV l n := by
 rcases findV_spec l n with ⟨h1, _⟩ | ⟨k, h1, h2, _⟩
 ·omega
 ·rw [h1]; simpa using h2
theorem ty_iff {t u : Ty} : t = u ↔ t.data = u.data ∧ t.index = u.index := by
 cases t; cases u; simp
theorem spec_l3Alike_fn {x y : List Vt} (hx : x.length ≤ 1000000000000) (hy : y.length ≤ 1000000000000) : FnD Try.prog 135 [.d (encVts x), .d (encVts y)] [] (.d (.bool (alikeV x y))) [] := by
 refine Fn.body (fn := Try.f135) (n := 40) rfl rfl rfl rfl rfl (fun w0 F0 own kept hk => ?_)
 refine sr ?_
 refine asg ?_
 refine tv ?_
 refine CWp.seq ?_
 refine sr ?_
 refine asg ?_
 refine tv ?_
 refine CWp.block ?_
 refine CWp.loopX (ι := Nat) hk (fun i => [(5, .d (.i (i : Int)))]) [4, 6, 7, 8, 9, 10, 11, 12, 13, 14, 15, 16, 17, 18, 19, 20, 21, 22, 23, 24, 25, 26, 27, 28, 29, 30, 31, 32, 33, 34] (fun i => []) (fun i => i ≤ x.length ∧ ∀ j, j < i → 0 ≤ findV y (nth x j).var ∧ (nth y (findV y (nth x j).var).toNat).ty = (nth x j).ty) (fun i => x.length - i) 0 ⟨by omega, fun _ h => absurd h (by omega)⟩ ⟨⟨_, rfl, (LeA.eqi (by first | rfl | (simp; done) | (simp_all; done) | omega))⟩, trivial⟩ trivial (fun x => rfl) (fun i hg1 => ?_)
 refine CWp.seq ?_
 refine sr ?_
 refine mv ?_
 refine mv ?_
 refine Walk.len sl134 .none rfl rfl ?_
 refine Walk.ltI .none rfl rfl rfl ?_
 refine tv ?_
 refine cd ?_ ?_
 ·intro h1; have ⟨h1p, h1s⟩ := dup h1; try simp only [Q5] at h1s
  try simp only [Q] at h1p
  refine CWp.skip ?_
  refine CWp.seq ?_
  refine CWp.block ?_
  refine sr ?_
  refine mv ?_
  refine mv ?_
  refine mv ?_
  refine Walk.idx sl134 .none rfl rfl rfl rfl (at_nth (by omega)) rfl ?_
  refine Walk.fieldP fd168_0 .none rfl rfl ?_
  refine Walk.loadP ty3 .none rfl rfl rfl ?_
  refine Walk.call (cr := []) cal137 (spec_l3Find_fn hy) rfl .none rfl rfl (LeL.refl _) trivial rfl rfl rfl ?_
  refine asg ?_
  refine tv ?_
  refine CWp.seq ?_
  refine CWp.drawn mixed rfl ?_
  refine mv ?_
  refine Walk.ltI .none rfl rfl rfl ?_
  refine mv ?_
  refine sp 22 ?_ ?_
  ·intro h2; have ⟨h2p, h2s⟩ := dup h2; try simp only [Q5] at h2s
   try simp only [Q] at h2p
   refine ps h2 ?_
   refine ps h2 ?_
   refine ps h2 ?_
   refine ps h2 ?_
   refine ps h2 ?_
   refine ps h2 ?_
   refine ps h2 ?_
   refine ps h2 ?_
   refine ps h2 ?_
   refine ps h2 ?_
   refine ps h2 ?_
   refine Walk.pickT .none rfl rfl h2 rfl ?_
   refine ⟨by show _ = _; kernel_rfl, ?_⟩
   refine cd ?_ ?_
   ·intro h3; have ⟨h3p, h3s⟩ := dup h3; try simp only [Q5] at h3s
    try simp only [Q] at h3p
    refine sr ?_
    refine asg ?_
    refine tv ?_
    refine CWp.ret ?_
    refine ⟨_, _, [], (.cons (.tmp rfl) .nil), (.eqd ?_), ⟨rfl, rfl⟩, HSub.nil, noBox⟩
    all_goals (refine congrArg D.bool ?_; first | (refine (alike_false (i := i) (by omega) ?_).symm; simp only [ty_iff]; first | omega | (simp at h4; omega)) | (rw [alike_true (fun j hj => hg1.2 j (by simp at h1p; omega))]; exact decide_eq_decide.2 (by simp; omega)))
   ·exact fun h => absurd h (by simp)
  ·intro h2; have ⟨h2p, h2s⟩ := dup h2; try simp only [Q5] at h2s
   try simp only [Q] at h2p
   refine Walk.move (.some rfl rfl h2) rfl rfl ?_
   refine Walk.move (.some rfl rfl h2) rfl rfl ?_
   refine Walk.idx (i := (findV y (nth x i).var).toNat) sl134 (.some rfl rfl h2) rfl rfl rfl (findV_lt (l := y) (n := (nth x i).var) (by omega)).2.symm (at_nth (by first | omega | exact (findV_lt (l := y) (n := (nth x i).var) (by omega)).1)) rfl ?_
   refine Walk.fieldP fd168_1 (.some rfl rfl h2) rfl rfl ?_
   refine Walk.loadPA ty38 (.some rfl rfl h2) rfl rfl rfl rfl ?_
   refine Walk.move (.some rfl rfl h2) rfl rfl ?_
   refine Walk.move (.some rfl rfl h2) rfl rfl ?_
   refine Walk.idx sl134 (.some rfl rfl h2) rfl rfl rfl rfl (at_nth (by first | omega | exact (findV_lt (l := y) (n := (nth x i).var) (by omega)).1)) rfl ?_
   refine Walk.fieldP fd168_1 (.some rfl rfl h2) rfl rfl ?_
   refine Walk.loadPA ty38 (.some rfl rfl h2) rfl rfl rfl rfl ?_
   refine Walk.neV eq38 (.some rfl rfl h2) rfl rfl rfl rfl rfl ?_
   refine Walk.pickF .none rfl rfl h2 rfl ?_
   refine ⟨by show _ = _; kernel_rfl, ?_⟩
   refine cd ?_ ?_
   ·intro h4; have ⟨h4p, h4s⟩ := dup h4; try simp only [Q5] at h4s
    try simp only [Q] at h4p
    refine sr ?_
    refine asg ?_
    refine tv ?_
    refine CWp.ret ?_
    refine ⟨_, _, [], (.cons (.tmp rfl) .nil), (.eqd ?_), ⟨rfl, rfl⟩, HSub.nil, noBox⟩
    all_goals (refine congrArg D.bool ?_; first | (refine (alike_false (i := i) (by omega) ?_).symm; simp only [ty_iff]; first | omega | (simp at h4; omega)) | (rw [alike_true (fun j hj => hg1.2 j (by simp at h1p; omega))]; exact decide_eq_decide.2 (by simp; omega)))
   ·intro h4; have ⟨h4p, h4s⟩ := dup h4; try simp only [Q5] at h4s
    try simp only [Q] at h4p
    refine CWp.skip ?_
    refine CWp.region rfl ?_
    refine mv ?_
    refine Walk.addI .none rfl rfl rfl (by first | (constructor <;> omega) | (constructor <;> simp <;> omega)) ?_
    refine asg ?_
    refine tv ?_
    refine ⟨i + 1, ⟨by omega, upto_succ hg1.2 (by rw [ty_iff]; first | omega | (simp at h4; omega))⟩, (by omega), Sub.x (by kernel_rfl) (by kernel_rfl) ⟨⟨_, rfl, (LeA.eqi (by first | rfl | (simp; done) | (simp_all; done) | omega))⟩, trivial⟩ (by kernel_rfl) (by kernel_rfl) trivial⟩
 ·intro h1; have ⟨h1p, h1s⟩ := dup h1; try simp only [Q5] at h1s
  try simp only [Q] at h1p
  refine CWp.exit ?_
  refine sr ?_
  refine mv ?_
  refine Walk.len sl134 .none rfl rfl ?_
  refine mv ?_
  refine Walk.len sl134 .none rfl rfl ?_
  refine Walk.eqI .none rfl rfl rfl ?_
  refine asg ?_
  refine tv ?_
  refine CWp.ret ?_
  refine ⟨_, _, [], (.cons (.tmp rfl) .nil), (.eqd ?_), ⟨rfl, rfl⟩, HSub.nil, noBox⟩
  all_goals (refine congrArg D.bool ?_; first | (refine (alike_false (i := i) (by omega) ?_).symm; simp only [ty_iff]; first | omega | (simp at h4; omega)) | (rw [alike_true (fun j hj => hg1.2 j (by simp at h1p; omega))]; exact decide_eq_decide.2 (by simp; omega)))
theorem varsL_len {f : Ty → Pat → List Vt} (hf : ∀ t p, (f t p).length ≤ p.size) : ∀ (a : List Ty) (b : List Pat), (varsL f a b).length ≤ Pats.size b
 | [], [] => by simp [varsL]
 | [], _ :: _ => by simp [varsL]
 | _ :: _, [] => by simp [varsL]
 | x :: r, y :: s => by
  have h1 := varsL_len hf r s
  have h2 := hf x y
  simp only [varsL, List.length_append, Pats.size]; omega
theorem varsP_len (w : List Data) : ∀ (n : Nat) (t : Ty) (p : Pat), (varsP w n t p).length ≤ p.size
 | 0, t, p => by simp [varsP]
 | n + 1, t, p => by
  have h1 := varsL_len (varsP_len w n) (vtypes w t p) p.kids
  have h2 : (nameP t p).length ≤ 1 := by unfold nameP; split <;> simp
  rw [Pat.size_eq]
  simp only [varsP, List.length_append]; omega
theorem varsL_next {f : Ty → Pat → List Vt} : ∀ {a : List Ty} {b : List Pat} {i : Nat}, i < a.length → i < b.length → varsL f (a.take (i + 1)) (b.take (i + 1)) = varsL f (a.take i) (b.take i) ++ f (nth a i) (nth b i)
 | x :: r, y :: s, 0, _, _ => by simp [varsL, nth]
 | x :: r, y :: s, i + 1, h1, h2 => by
  have := varsL_next (f := f) (a := r) (b := s) (i := i) (by simpa using h1) (by simpa using h2)
  simp only [List.take_succ_cons, varsL]
  rw [this, List.append_assoc]
  rfl
theorem varsL_take {f : Ty → Pat → List Vt} : ∀ {a : List Ty} {b : List Pat} {i : Nat}, varsL f (a.take i) (b.take i) = varsL f (a.take i) b
 | [], b, i => by simp [varsL]
 | x :: r, [], i => by simp [varsL]
 | x :: r, y :: s, 0 => by simp [varsL]
 | x :: r, y :: s, i + 1 => by simp only [List.take_succ_cons, varsL]; rw [varsL_take]
theorem varsL_le {f : Ty → Pat → List Vt} (hf : ∀ t p, (f t p).length ≤ p.size) {a : List Ty} {b : List Pat} {i : Nat} (h : i < b.length) : (varsL f (a.take i) (b.take i)).length + (nth b i).size ≤ Pats.size b := by
 have h1 := varsL_len hf (a.take i) (b.take i)
 have h2 := Pats.size_split (pre := b.take i) (y := nth b i) (rest := b.drop (i + 1)) (l := b) (by rw [← drop_nth h, List.take_append_drop])
 omega
def vcount (w : List Data) (t : Ty) (p : Pat) : Nat := (vtypes w t p).length
theorem vcount_eq (w : List Data) (t : Ty) (p : Pat) : vcount w t p = if p.op = 5 then 1 else (typesP w t p).length := by
 unfold vcount vtypes
 by_cases h5 : p.op = 5
 ·rw [if_pos h5, if_pos h5]
  have : typesP w t p = [t, t] := by unfold typesP; rw [if_neg (by omega), if_pos h5]
  rw [this]; rfl
 ·rw [if_neg h5, if_neg h5]
theorem varsL_all {w : List Data} {f : Ty → Pat → List Vt} {t : Ty} {p : Pat} (hl : p.kids.length = (typesP w t p).length) {i : Nat} (h : i = vcount w t p) : varsL f ((typesP w t p).take i) (p.kids.take i) = varsL f (vtypes w t p) p.kids := by
 subst h
 rw [varsL_take]
 congr 1
 rw [vcount_eq]
 unfold vtypes
 by_cases h5 : p.op = 5
 ·rw [if_pos h5, if_pos h5]
 ·rw [if_neg h5, if_neg h5, List.take_length]
theorem shapeP_kid {w : List Data} {n : Nat} {t : Ty} {p : Pat} (h : shapeP w (n + 1) t p = true) {i : Nat} (hi : i < p.kids.length) : shapeP w n (nth (typesP w t p) i) (nth p.kids i) = true := by
 have hl := (shapeP_own h).2
 cases hs : shapeP w n (nth (typesP w t p) i) (nth p.kids i) with
 | true => rfl
 | false =>
  have := all2_nth_false (f := shapeP w n) (a := typesP w t p) (b := p.kids) (i := i) (by omega) hl.symm hs
  simp only [shapeP, this, Bool.and_false] at h
  cases h
theorem spec_l3Vars_fn {w : List Data} (hw : WT w) : ∀ (n : Nat) {a k : Int} {p : Pat} {xs : List Vt}, shapeP w n ⟨a, k⟩ p = true → n ≤ 1000 → TyIn w.length ⟨a, k⟩ → p.ok → xs.length + p.size ≤ 2000000000000 →
  FnD Try.prog 136 [.gl 5 (xs.map Vt.c), .d (encDatas w), .agg [.d (.i a), .d (.i k)], .agg [.d (.i p.op), .d (.i p.ctor), .d (.i p.n), .d (.i p.m), .d (.i p.var), .d (encPats p.kids)]] [(5, some (.tok (xs.map Vt.c).length 3))]
   (.gl 5 ((xs ++ varsP w n ⟨a, k⟩ p).map Vt.c)) [(5, some (.tok ((xs ++ varsP w n ⟨a, k⟩ p).map Vt.c).length 3))]
 | 0, a, k, p, xs, hs, _, _, _, _ => by simp [shapeP] at hs
 | n + 1, a, k, p, xs, hs, hn, ht, hok, hb => by
  rw [Pat.ok_iff] at hok
  rw [Pat.size_eq] at hb
  obtain ⟨ho, hl⟩ := shapeP_own hs
  have hin := typesP_in hw ht ho
  have hlen := typesP_len hw ht (ownP_mem ho)
  have hvc5 : p.op = 5 → vcount w ⟨a, k⟩ p = 1 := fun h => by rw [vcount_eq, if_pos h]
  have hvc : ¬ p.op = 5 → vcount w ⟨a, k⟩ p = (typesP w ⟨a, k⟩ p).length := fun h => by rw [vcount_eq, if_neg h]
  have hv2 : vcount w ⟨a, k⟩ p ≤ p.kids.length := by
   unfold vcount vtypes; split
   ·rw [List.length_take]; omega
   ·omega
  have e5 : p.op = 5 → (typesP w ⟨a, k⟩ p).length = 2 := fun h5 => by unfold typesP; rw [if_neg (by omega), if_pos h5]; rfl
  have hnm : (nameP ⟨a, k⟩ p).length ≤ 1 := by unfold nameP; split <;> simp
  refine Fn.body (fn := Try.f136) (n := 58) rfl rfl rfl rfl rfl (fun w0 F0 own kept hk => ?_)
  refine sr ?_
  refine Walk.box (id := 3006) .none rfl rfl rfl rfl rfl rfl rfl ?_
  refine Walk.box (id := 3007) .none rfl rfl rfl rfl rfl rfl rfl ?_
  refine asg ?_
  refine tv ?_
  refine CWp.seq ?_
  refine CWp.seq ?_
  refine CWp.regionJ ?_
  refine WRest.join 8 [(18, .d (.bool (decide (p.op = 2 ∨ p.op = 6))))] [11, 12, 13, 14, 15, 16, 17] ?_ ?_
  ·
   refine Walk.fieldB fd70_0 .none rfl rfl ?_
   refine Walk.loadB ty3 .none rfl rfl rfl rfl ?_
   refine Walk.eqI .none rfl rfl rfl ?_
   refine mv ?_
   refine sp 14 ?_ ?_
   ·intro h1; have ⟨h1p, h1s⟩ := dup h1; try simp only [Q5] at h1s
    try simp only [Q, Pat.cs_len] at h1p
    refine ps h1 ?_
    refine ps h1 ?_
    refine ps h1 ?_
    refine Walk.pickT .none rfl rfl h1 rfl ?_
    exact ⟨trivial, Sub.x (by kernel_rfl) (by kernel_rfl) ⟨⟨_, rfl, (LeA.eqb (by first | rfl | (rw [Bool.eq_iff_iff]; (try simp only [BQ]) <;> first | omega | (simp_all; done) | (simp_all; omega))))⟩, trivial⟩ (by kernel_rfl) (by kernel_rfl) trivial⟩
   ·intro h1; have ⟨h1p, h1s⟩ := dup h1; try simp only [Q5] at h1s
    try simp only [Q, Pat.cs_len] at h1p
    refine Walk.fieldB fd70_0 (.some rfl rfl h1) rfl rfl ?_
    refine Walk.loadB ty3 (.some rfl rfl h1) rfl rfl rfl rfl ?_
    refine Walk.eqI (.some rfl rfl h1) rfl rfl rfl ?_
    refine Walk.pickF .none rfl rfl h1 rfl ?_
    exact ⟨trivial, Sub.x (by kernel_rfl) (by kernel_rfl) ⟨⟨_, rfl, (LeA.eqb (by first | rfl | (rw [Bool.eq_iff_iff]; (try simp only [BQ]) <;> first | omega | (simp_all; done) | (simp_all; omega))))⟩, trivial⟩ (by kernel_rfl) (by kernel_rfl) trivial⟩
  refine WRest.done ?_
  refine tv ?_
  refine cd ?_ ?_
  ·intro h2; have ⟨h2p, h2s⟩ := dup h2; try simp only [Q5] at h2s
   try simp only [Q, Pat.cs_len] at h2p
   refine CWp.region rfl ?_
   refine mv ?_
   refine Walk.fieldB fd70_4 .none rfl rfl ?_
   refine Walk.loadB ty3 .none rfl rfl rfl rfl ?_
   refine Walk.loadBA ty38 .none rfl rfl rfl rfl ?_
   refine Walk.build st168 (ks := [0, 1]) (xs := [_, _]) rfl rfl .none rfl rfl rfl ?_
   refine Walk.sliceLit sl134 tz168 rfl (by decide) (ks := [0]) (xs := [_]) rfl rfl (by decide) (by decide) .none rfl rfl rfl rfl ?_
   refine Walk.append sl134 zz168 rfl .none rfl rfl rfl rfl (htokL rfl (by first | rfl | (simp; done) | (simp; omega))) (by simp) (by simp; omega) (by simp; omega) ?_
   refine asg ?_
   refine tv ?_
   refine sr ?_
   refine mv ?_
   refine Walk.loadBA ty38 .none rfl rfl rfl rfl ?_
   refine Walk.loadBA ty70 .none rfl rfl rfl rfl ?_
   refine Walk.call (cr := []) cal134 (spec_l3Types_fn hw ht (ownP_mem ho)) rfl .none rfl rfl (LeL.refl _) trivial rfl rfl rfl ?_
   refine asg ?_
   refine tv ?_
   refine CWp.seq ?_
   refine sr ?_
   refine asg ?_
   refine tv ?_
   refine CWp.block ?_
   refine CWp.loopT 5 6 (ι := Nat) hk (fun i => [(0, .gl 5 ((xs ++ nameP ⟨a, k⟩ p ++ varsL (varsP w n) ((typesP w ⟨a, k⟩ p).take i) (p.kids.take i)).map Vt.c)), (10, .d (.i (i : Int)))]) [30, 31, 32, 33, 34, 35, 36, 37, 38, 39, 40, 41, 42, 43, 44, 45, 46, 47, 48, 49, 50, 51, 52, 53, 54, 55, 56] (fun i => [(5, some (.tok ((xs ++ nameP ⟨a, k⟩ p ++ varsL (varsP w n) ((typesP w ⟨a, k⟩ p).take i) (p.kids.take i)).map Vt.c).length 3))]) (fun i => i ≤ vcount w ⟨a, k⟩ p) (fun i => vcount w ⟨a, k⟩ p - i) 0 (by omega) ⟨⟨_, rfl, (LeA.glg (by first | rfl | (simp [varsL, nameP, *]; done) | (rw [varsL_next (by omega) (by omega)]; simp [List.append_assoc]; done) | omega))⟩, ⟨⟨_, rfl, (LeA.eqi (by first | rfl | (simp [varsL, nameP, *]; done) | (rw [varsL_next (by omega) (by omega)]; simp [List.append_assoc]; done) | omega))⟩, trivial⟩⟩ ⟨beq_nat_eq (by first | rfl | (simp; done) | (simp; omega) | (first | rfl | (simp [varsL, nameP, *]; done) | (rw [varsL_next (by omega) (by omega)]; simp [List.append_assoc]; done) | omega)), trivial⟩ (fun x => rfl) (fun i hg1 => ?_)
   refine CWp.seq ?_
   refine CWp.seq ?_
   refine CWp.regionJ ?_
   refine WRest.join 13 [(42, .d (.bool (decide (i < vcount w ⟨a, k⟩ p))))] [30, 31, 32, 33, 34, 35, 36, 37, 38, 39, 40, 41] ?_ ?_
   ·
    refine mv ?_
    refine mv ?_
    refine Walk.len sl24 .none rfl rfl ?_
    refine Walk.ltI .none rfl rfl rfl ?_
    refine mv ?_
    refine sp 34 ?_ ?_
    ·intro h3; have ⟨h3p, h3s⟩ := dup h3; try simp only [Q5] at h3s
     try simp only [Q, Pat.cs_len] at h3p
     refine Walk.move (.some rfl rfl h3) rfl rfl ?_
     refine Walk.eqI (.some rfl rfl h3) rfl rfl rfl ?_
     refine Walk.move (.some rfl rfl h3) rfl rfl ?_
     refine sp 37 ?_ ?_
     ·intro h4; have ⟨h4p, h4s⟩ := dup h4; try simp only [Q5] at h4s
      try simp only [Q, Pat.cs_len] at h4p
      refine ps h4 ?_
      refine ps h4 ?_
      refine ps h4 ?_
      refine Walk.pickT (.some rfl rfl h3) rfl rfl h4 rfl ?_
      refine Walk.pickT .none rfl rfl h3 rfl ?_
      exact ⟨trivial, Sub.x (by kernel_rfl) (by kernel_rfl) ⟨⟨_, rfl, (LeA.eqb (by first | rfl | (rw [Bool.eq_iff_iff]; (try simp only [BQ]) <;> first | omega | (simp_all; done) | (simp_all; omega))))⟩, trivial⟩ (by kernel_rfl) (by kernel_rfl) trivial⟩
     ·intro h4; have ⟨h4p, h4s⟩ := dup h4; try simp only [Q5] at h4s
      try simp only [Q, Pat.cs_len] at h4p
      refine Walk.fieldB fd70_0 (.some rfl rfl h4) rfl rfl ?_
      refine Walk.loadB ty3 (.some rfl rfl h4) rfl rfl rfl rfl ?_
      refine Walk.neI (.some rfl rfl h4) rfl rfl rfl ?_
      refine Walk.pickF (.some rfl rfl h3) rfl rfl h4 rfl ?_
      refine Walk.pickT .none rfl rfl h3 rfl ?_
      exact ⟨trivial, Sub.x (by kernel_rfl) (by kernel_rfl) ⟨⟨_, rfl, (LeA.eqb (by first | rfl | (rw [Bool.eq_iff_iff]; (try simp only [BQ]) <;> first | omega | (simp_all; done) | (simp_all; omega))))⟩, trivial⟩ (by kernel_rfl) (by kernel_rfl) trivial⟩
    ·intro h3; have ⟨h3p, h3s⟩ := dup h3; try simp only [Q5] at h3s
     try simp only [Q, Pat.cs_len] at h3p
     refine ps h3 ?_
     refine ps h3 ?_
     refine ps h3 ?_
     refine Walk.passU rfl rfl rfl rfl rfl ?_
     refine Walk.passU rfl rfl rfl rfl rfl ?_
     refine Walk.passU rfl rfl rfl rfl rfl ?_
     refine ps h3 ?_
     refine Walk.pickF .none rfl rfl h3 rfl ?_
     exact ⟨trivial, Sub.x (by kernel_rfl) (by kernel_rfl) ⟨⟨_, rfl, (LeA.eqb (by first | rfl | (rw [Bool.eq_iff_iff]; (try simp only [BQ]) <;> first | omega | (simp_all; done) | (simp_all; omega))))⟩, trivial⟩ (by kernel_rfl) (by kernel_rfl) trivial⟩
   refine WRest.done ?_
   refine tv ?_
   refine cd ?_ ?_
   ·intro h5; have ⟨h5p, h5s⟩ := dup h5; try simp only [Q5] at h5s
    try simp only [Q, Pat.cs_len] at h5p
    refine CWp.skip ?_
    refine CWp.seq ?_
    refine CWp.block ?_
    refine CWp.drawn mixed rfl ?_
    refine mv ?_
    refine mv ?_
    refine mv ?_
    refine mv ?_
    refine Walk.idx sl24 .none rfl rfl rfl rfl (at_nth (by omega)) rfl ?_
    refine Walk.loadPA ty38 .none rfl rfl rfl rfl ?_
    refine Walk.fieldB fd70_5 .none rfl rfl ?_
    refine Walk.loadB ty68 .none rfl rfl rfl rfl ?_
    refine mv ?_
    refine Walk.idx sl68 .none rfl rfl rfl rfl (pats_at (by omega)) rfl ?_
    refine Walk.loadPA ty70 .none rfl rfl rfl rfl ?_
    refine Walk.callT 6 cal136 (spec_l3Vars_fn hw n (a := (nth (typesP w ⟨a, k⟩ p) i).data) (k := (nth (typesP w ⟨a, k⟩ p) i).index) (p := nth p.kids i) (xs := xs ++ nameP ⟨a, k⟩ p ++ varsL (varsP w n) ((typesP w ⟨a, k⟩ p).take i) (p.kids.take i)) (shapeP_kid hs (by omega)) (by omega) (hin _ (nth_mem (by omega))) (Pats.ok_mem hok.2 _ (nth_mem (by omega))) (by have := varsL_le (varsP_len w n) (a := typesP w ⟨a, k⟩ p) (b := p.kids) (i := i) (by omega); simp only [List.length_append]; omega)) rfl .none rfl rfl (.cons (.refl _) (.cons (.refl _) (.cons (.refl _) (.cons (.refl _) .nil)))) rfl (by first | rfl | (simp only [freshB, occH, occE, Res.ids, List.cons_append, List.nil_append, AV.idsL, AV.ids, idsL_append, ownCells_ids, zerosA_idsR, repNil, List.map_cons, List.map_nil, upC]; rfl)) ?_
    refine asg ?_
    refine ⟨by show _ = _; kernel_rfl, ?_⟩
    refine CWp.retok 0 6 5 rfl rfl rfl rfl rfl ?_
    refine CWp.region rfl ?_
    refine mv ?_
    refine Walk.addI .none rfl rfl rfl (by first | (constructor <;> omega) | (constructor <;> simp <;> omega)) ?_
    refine asg ?_
    refine tv ?_
    refine ⟨i + 1, (by omega), (by omega), Sub.x (by kernel_rfl) (by kernel_rfl) ⟨⟨_, rfl, (LeA.glg (by first | rfl | (simp [varsL, nameP, *]; done) | (rw [varsL_next (by omega) (by omega)]; simp [List.append_assoc]; done) | omega))⟩, ⟨⟨_, rfl, (LeA.eqi (by first | rfl | (simp [varsL, nameP, *]; done) | (rw [varsL_next (by omega) (by omega)]; simp [List.append_assoc]; done) | omega))⟩, trivial⟩⟩ (by kernel_rfl) (by kernel_rfl) ⟨beq_nat_eq (by first | rfl | (simp; done) | (simp; omega) | (first | rfl | (simp [varsL, nameP, *]; done) | (rw [varsL_next (by omega) (by omega)]; simp [List.append_assoc]; done) | omega)), trivial⟩⟩
   ·intro h5; have ⟨h5p, h5s⟩ := dup h5; try simp only [Q5] at h5s
    try simp only [Q, Pat.cs_len] at h5p
    refine CWp.exit ?_
    refine sr ?_
    refine mv ?_
    refine asg ?_
    refine tv ?_
    refine CWp.ret ?_
    refine ⟨_, _, [(5, some (.tok ((xs ++ varsP w (n + 1) ⟨a, k⟩ p).map Vt.c).length 3))], (.cons (.tmp rfl) .nil), (.glg ?_), ⟨rfl, rfl⟩, (SubO.get ⟨.inr (by (show some (Res.tok _ _) = some (Res.tok _ _); congr 2; rw [varsP, ← varsL_all (f := varsP w n) hl (i := i) (by omega)]; simp)), ⟨.inl rfl, trivial⟩⟩), (boxOK rfl)⟩
    all_goals (rw [varsP, ← varsL_all (f := varsP w n) hl (i := i) (by omega)]; simp)
  ·intro h2; have ⟨h2p, h2s⟩ := dup h2; try simp only [Q5] at h2s
   try simp only [Q, Pat.cs_len] at h2p
   refine CWp.skip ?_
   refine sr ?_
   refine mv ?_
   refine Walk.loadBA ty38 .none rfl rfl rfl rfl ?_
   refine Walk.loadBA ty70 .none rfl rfl rfl rfl ?_
   refine Walk.call (cr := []) cal134 (spec_l3Types_fn hw ht (ownP_mem ho)) rfl .none rfl rfl (LeL.refl _) trivial rfl rfl rfl ?_
   refine asg ?_
   refine tv ?_
   refine CWp.seq ?_
   refine sr ?_
   refine asg ?_
   refine tv ?_
   refine CWp.block ?_
   refine CWp.loopT 5 6 (ι := Nat) hk (fun i => [(0, .gl 5 ((xs ++ nameP ⟨a, k⟩ p ++ varsL (varsP w n) ((typesP w ⟨a, k⟩ p).take i) (p.kids.take i)).map Vt.c)), (10, .d (.i (i : Int)))]) [30, 31, 32, 33, 34, 35, 36, 37, 38, 39, 40, 41, 42, 43, 44, 45, 46, 47, 48, 49, 50, 51, 52, 53, 54, 55, 56] (fun i => [(5, some (.tok ((xs ++ nameP ⟨a, k⟩ p ++ varsL (varsP w n) ((typesP w ⟨a, k⟩ p).take i) (p.kids.take i)).map Vt.c).length 3))]) (fun i => i ≤ vcount w ⟨a, k⟩ p) (fun i => vcount w ⟨a, k⟩ p - i) 0 (by omega) ⟨⟨_, rfl, (LeA.glg (by first | rfl | (simp [varsL, nameP, *]; done) | (rw [varsL_next (by omega) (by omega)]; simp [List.append_assoc]; done) | omega))⟩, ⟨⟨_, rfl, (LeA.eqi (by first | rfl | (simp [varsL, nameP, *]; done) | (rw [varsL_next (by omega) (by omega)]; simp [List.append_assoc]; done) | omega))⟩, trivial⟩⟩ ⟨beq_nat_eq (by first | rfl | (simp; done) | (simp; omega) | (first | rfl | (simp [varsL, nameP, *]; done) | (rw [varsL_next (by omega) (by omega)]; simp [List.append_assoc]; done) | omega)), trivial⟩ (fun x => rfl) (fun i hg1 => ?_)
   refine CWp.seq ?_
   refine CWp.seq ?_
   refine CWp.regionJ ?_
   refine WRest.join 13 [(42, .d (.bool (decide (i < vcount w ⟨a, k⟩ p))))] [30, 31, 32, 33, 34, 35, 36, 37, 38, 39, 40, 41] ?_ ?_
   ·
    refine mv ?_
    refine mv ?_
    refine Walk.len sl24 .none rfl rfl ?_
    refine Walk.ltI .none rfl rfl rfl ?_
    refine mv ?_
    refine sp 34 ?_ ?_
    ·intro h6; have ⟨h6p, h6s⟩ := dup h6; try simp only [Q5] at h6s
     try simp only [Q, Pat.cs_len] at h6p
     refine Walk.move (.some rfl rfl h6) rfl rfl ?_
     refine Walk.eqI (.some rfl rfl h6) rfl rfl rfl ?_
     refine Walk.move (.some rfl rfl h6) rfl rfl ?_
     refine sp 37 ?_ ?_
     ·intro h7; have ⟨h7p, h7s⟩ := dup h7; try simp only [Q5] at h7s
      try simp only [Q, Pat.cs_len] at h7p
      refine ps h7 ?_
      refine ps h7 ?_
      refine ps h7 ?_
      refine Walk.pickT (.some rfl rfl h6) rfl rfl h7 rfl ?_
      refine Walk.pickT .none rfl rfl h6 rfl ?_
      exact ⟨trivial, Sub.x (by kernel_rfl) (by kernel_rfl) ⟨⟨_, rfl, (LeA.eqb (by first | rfl | (rw [Bool.eq_iff_iff]; (try simp only [BQ]) <;> first | omega | (simp_all; done) | (simp_all; omega))))⟩, trivial⟩ (by kernel_rfl) (by kernel_rfl) trivial⟩
     ·intro h7; have ⟨h7p, h7s⟩ := dup h7; try simp only [Q5] at h7s
      try simp only [Q, Pat.cs_len] at h7p
      refine Walk.fieldB fd70_0 (.some rfl rfl h7) rfl rfl ?_
      refine Walk.loadB ty3 (.some rfl rfl h7) rfl rfl rfl rfl ?_
      refine Walk.neI (.some rfl rfl h7) rfl rfl rfl ?_
      refine Walk.pickF (.some rfl rfl h6) rfl rfl h7 rfl ?_
      refine Walk.pickT .none rfl rfl h6 rfl ?_
      exact ⟨trivial, Sub.x (by kernel_rfl) (by kernel_rfl) ⟨⟨_, rfl, (LeA.eqb (by first | rfl | (rw [Bool.eq_iff_iff]; (try simp only [BQ]) <;> first | omega | (simp_all; done) | (simp_all; omega))))⟩, trivial⟩ (by kernel_rfl) (by kernel_rfl) trivial⟩
    ·intro h6; have ⟨h6p, h6s⟩ := dup h6; try simp only [Q5] at h6s
     try simp only [Q, Pat.cs_len] at h6p
     refine ps h6 ?_
     refine ps h6 ?_
     refine ps h6 ?_
     refine Walk.passU rfl rfl rfl rfl rfl ?_
     refine Walk.passU rfl rfl rfl rfl rfl ?_
     refine Walk.passU rfl rfl rfl rfl rfl ?_
     refine ps h6 ?_
     refine Walk.pickF .none rfl rfl h6 rfl ?_
     exact ⟨trivial, Sub.x (by kernel_rfl) (by kernel_rfl) ⟨⟨_, rfl, (LeA.eqb (by first | rfl | (rw [Bool.eq_iff_iff]; (try simp only [BQ]) <;> first | omega | (simp_all; done) | (simp_all; omega))))⟩, trivial⟩ (by kernel_rfl) (by kernel_rfl) trivial⟩
   refine WRest.done ?_
   refine tv ?_
   refine cd ?_ ?_
   ·intro h8; have ⟨h8p, h8s⟩ := dup h8; try simp only [Q5] at h8s
    try simp only [Q, Pat.cs_len] at h8p
    refine CWp.skip ?_
    refine CWp.seq ?_
    refine CWp.block ?_
    refine CWp.drawn mixed rfl ?_
    refine mv ?_
    refine mv ?_
    refine mv ?_
    refine mv ?_
    refine Walk.idx sl24 .none rfl rfl rfl rfl (at_nth (by omega)) rfl ?_
    refine Walk.loadPA ty38 .none rfl rfl rfl rfl ?_
    refine Walk.fieldB fd70_5 .none rfl rfl ?_
    refine Walk.loadB ty68 .none rfl rfl rfl rfl ?_
    refine mv ?_
    refine Walk.idx sl68 .none rfl rfl rfl rfl (pats_at (by omega)) rfl ?_
    refine Walk.loadPA ty70 .none rfl rfl rfl rfl ?_
    refine Walk.callT 6 cal136 (spec_l3Vars_fn hw n (a := (nth (typesP w ⟨a, k⟩ p) i).data) (k := (nth (typesP w ⟨a, k⟩ p) i).index) (p := nth p.kids i) (xs := xs ++ nameP ⟨a, k⟩ p ++ varsL (varsP w n) ((typesP w ⟨a, k⟩ p).take i) (p.kids.take i)) (shapeP_kid hs (by omega)) (by omega) (hin _ (nth_mem (by omega))) (Pats.ok_mem hok.2 _ (nth_mem (by omega))) (by have := varsL_le (varsP_len w n) (a := typesP w ⟨a, k⟩ p) (b := p.kids) (i := i) (by omega); simp only [List.length_append]; omega)) rfl .none rfl rfl (.cons (.refl _) (.cons (.refl _) (.cons (.refl _) (.cons (.refl _) .nil)))) rfl (by first | rfl | (simp only [freshB, occH, occE, Res.ids, List.cons_append, List.nil_append, AV.idsL, AV.ids, idsL_append, ownCells_ids, zerosA_idsR, repNil, List.map_cons, List.map_nil, upC]; rfl)) ?_
    refine asg ?_
    refine ⟨by show _ = _; kernel_rfl, ?_⟩
    refine CWp.retok 0 6 5 rfl rfl rfl rfl rfl ?_
    refine CWp.region rfl ?_
    refine mv ?_
    refine Walk.addI .none rfl rfl rfl (by first | (constructor <;> omega) | (constructor <;> simp <;> omega)) ?_
    refine asg ?_
    refine tv ?_
    refine ⟨i + 1, (by omega), (by omega), Sub.x (by kernel_rfl) (by kernel_rfl) ⟨⟨_, rfl, (LeA.glg (by first | rfl | (simp [varsL, nameP, *]; done) | (rw [varsL_next (by omega) (by omega)]; simp [List.append_assoc]; done) | omega))⟩, ⟨⟨_, rfl, (LeA.eqi (by first | rfl | (simp [varsL, nameP, *]; done) | (rw [varsL_next (by omega) (by omega)]; simp [List.append_assoc]; done) | omega))⟩, trivial⟩⟩ (by kernel_rfl) (by kernel_rfl) ⟨beq_nat_eq (by first | rfl | (simp; done) | (simp; omega) | (first | rfl | (simp [varsL, nameP, *]; done) | (rw [varsL_next (by omega) (by omega)]; simp [List.append_assoc]; done) | omega)), trivial⟩⟩
   ·intro h8; have ⟨h8p, h8s⟩ := dup h8; try simp only [Q5] at h8s
    try simp only [Q, Pat.cs_len] at h8p
    refine CWp.exit ?_
    refine sr ?_
    refine mv ?_
    refine asg ?_
    refine tv ?_
    refine CWp.ret ?_
    refine ⟨_, _, [(5, some (.tok ((xs ++ varsP w (n + 1) ⟨a, k⟩ p).map Vt.c).length 3))], (.cons (.tmp rfl) .nil), (.glg ?_), ⟨rfl, rfl⟩, (SubO.get ⟨.inr (by (show some (Res.tok _ _) = some (Res.tok _ _); congr 2; rw [varsP, ← varsL_all (f := varsP w n) hl (i := i) (by omega)]; simp)), ⟨.inl rfl, trivial⟩⟩), (boxOK rfl)⟩
    all_goals (rw [varsP, ← varsL_all (f := varsP w n) hl (i := i) (by omega)]; simp)
theorem spec_l3Vars_nil {w : List Data} (hw : WT w) {n : Nat} {a k : Int} {p : Pat} (hs : shapeP w n ⟨a, k⟩ p = true) (hn : n ≤ 1000) (ht : TyIn w.length ⟨a, k⟩) (hok : p.ok) (hb : p.size ≤ 1000000000000) :
  FnD Try.prog 136 [.nils, .d (encDatas w), .agg [.d (.i a), .d (.i k)], .agg [.d (.i p.op), .d (.i p.ctor), .d (.i p.n), .d (.i p.m), .d (.i p.var), .d (encPats p.kids)]] [] (.d (encVts (varsP w n ⟨a, k⟩ p))) [] := by
 have h := spec_l3Vars_fn hw n (xs := []) hs hn ht hok (by simp only [List.length_nil]; omega)
 exact FnD.nilTok (by simp [AV.idsL, AV.ids]) h
theorem distV_false {l : List Vt} {i : Nat} (h : i < l.length) (h2 : ¬ findV l (nth l i).var = i) : distV l = false := all_range_false h (by simpa using h2)
theorem spec_l3Linear_fn {w : List Data} (hw : WT w) : ∀ (n : Nat) {a k : Int} {p : Pat}, shapeP w n ⟨a, k⟩ p = true → n ≤ 1000 → TyIn w.length ⟨a, k⟩ → p.ok → p.size ≤ 1000000000000 →
  FnD Try.prog 108 [.d (encDatas w), .agg [.d (.i a), .d (.i k)], .agg [.d (.i p.op), .d (.i p.ctor), .d (.i p.n), .d (.i p.m), .d (.i p.var), .d (encPats p.kids)]] [] (.d (.bool (linP w n ⟨a, k⟩ p))) []
 | 0, a, k, p, hs, _, _, _, _ => by simp [shapeP] at hs
 | n + 1, a, k, p, hs, hn, ht, hok, hb => by
  have hok' := hok
  rw [Pat.ok_iff] at hok
  have hb' := hb
  rw [Pat.size_eq] at hb'
  obtain ⟨ho, hl⟩ := shapeP_own hs
  have hin := typesP_in hw ht ho
  have hlen := typesP_len hw ht (ownP_mem ho)
  have hvl := varsP_len w (n + 1) ⟨a, k⟩ p
  have hsz : ∀ i, i < p.kids.length → (nth p.kids i).size ≤ 1000000000000 := fun i hi => by have := pnth_size hi; omega
  by_cases hop5 : p.op = 5
  ·have e1 : typesP w ⟨a, k⟩ p = [⟨a, k⟩, ⟨a, k⟩] := by unfold typesP; rw [if_neg (by omega), if_pos hop5]
   have hl2 : p.kids.length = 2 := by rw [hl, e1]; rfl
   have s0 : shapeP w n ⟨a, k⟩ (nth p.kids 0) = true := by have := shapeP_kid hs (i := 0) (by omega); rw [e1] at this; exact this
   have s1 : shapeP w n ⟨a, k⟩ (nth p.kids 1) = true := by have := shapeP_kid hs (i := 1) (by omega); rw [e1] at this; exact this
   have v0 := varsP_len w n ⟨a, k⟩ (nth p.kids 0)
   have v1 := varsP_len w n ⟨a, k⟩ (nth p.kids 1)
   have z0 := hsz 0 (by omega)
   have z1 := hsz 1 (by omega)
   refine Fn.body (fn := Try.f108) (n := 70) rfl rfl rfl rfl rfl (fun w0 F0 own kept hk => ?_)
   refine sr ?_
   refine Walk.box (id := 3004) .none rfl rfl rfl rfl rfl rfl rfl ?_
   refine Walk.box (id := 3005) .none rfl rfl rfl rfl rfl rfl rfl ?_
   refine asg ?_
   refine tv ?_
   refine sr ?_
   refine mv ?_
   refine Walk.loadBA ty38 .none rfl rfl rfl rfl ?_
   refine Walk.loadBA ty70 .none rfl rfl rfl rfl ?_
   refine Walk.call (cr := []) cal134 (spec_l3Types_fn hw ht (ownP_mem ho)) rfl .none rfl rfl (LeL.refl _) trivial rfl rfl rfl ?_
   refine asg ?_
   refine tv ?_
   refine CWp.seq ?_
   refine sr ?_
   refine asg ?_
   refine tv ?_
   refine CWp.block ?_
   refine CWp.loopX (ι := Nat) hk (fun i => [(8, .d (.i (i : Int)))]) [6, 15, 16, 17, 18, 19, 20, 21, 22, 23, 24, 25, 26, 27, 28, 29, 30, 31, 32] (fun i => []) (fun i => i ≤ (typesP w ⟨a, k⟩ p).length ∧ ∀ i', i' < i → linP w n (nth (typesP w ⟨a, k⟩ p) i') (nth p.kids i') = true) (fun i => (typesP w ⟨a, k⟩ p).length - i) 0 ⟨by omega, fun _ h => absurd h (by omega)⟩ ⟨⟨_, rfl, (LeA.eqi (by first | rfl | (simp; done) | (simp_all; done) | omega))⟩, trivial⟩ trivial (fun x => rfl) (fun i hg1 => ?_)
   refine CWp.seq ?_
   refine sr ?_
   refine mv ?_
   refine mv ?_
   refine Walk.len sl24 .none rfl rfl ?_
   refine Walk.ltI .none rfl rfl rfl ?_
   refine tv ?_
   refine cd ?_ ?_
   ·intro h1; have ⟨h1p, h1s⟩ := dup h1; try simp only [Q5] at h1s
    try simp only [Q, Pat.cs_len] at h1p
    refine CWp.skip ?_
    refine CWp.seq ?_
    refine CWp.block ?_
    refine CWp.seq ?_
    refine CWp.drawn mixed rfl ?_
    refine mv ?_
    refine mv ?_
    refine mv ?_
    refine Walk.idx sl24 .none rfl rfl rfl rfl (at_nth (by omega)) rfl ?_
    refine Walk.loadPA ty38 .none rfl rfl rfl rfl ?_
    refine Walk.fieldB fd70_5 .none rfl rfl ?_
    refine Walk.loadB ty68 .none rfl rfl rfl rfl ?_
    refine mv ?_
    refine Walk.idx sl68 .none rfl rfl rfl rfl (pats_at (by omega)) rfl ?_
    refine Walk.loadPA ty70 .none rfl rfl rfl rfl ?_
    refine Walk.call (cr := []) cal108 (spec_l3Linear_fn hw n (shapeP_kid hs (by omega)) (by omega) (hin _ (nth_mem (by omega))) (Pats.ok_mem hok.2 _ (nth_mem (by omega))) (hsz _ (by omega))) rfl .none rfl rfl (LeL.refl _) trivial rfl rfl rfl ?_
    refine Walk.not .none rfl rfl ?_
    refine ⟨by show _ = _; kernel_rfl, ?_⟩
    refine cd ?_ ?_
    ·intro h2; have ⟨h2p, h2s⟩ := dup h2; try simp only [Q5] at h2s
     try simp only [Q, Pat.cs_len] at h2p
     refine sr ?_
     refine asg ?_
     refine tv ?_
     refine CWp.ret ?_
     refine ⟨_, _, [], (.cons (.tmp rfl) .nil), (.eqd ?_), ⟨rfl, rfl⟩, HSub.nil, noBox⟩
     all_goals (refine congrArg D.bool ?_; unfold linP; rw [if_pos hop5]; first | (rw [all2_nth_true (by omega) (fun x hx => hg1.2 x (by omega)), Bool.true_and]) | (rw [all2_nth_false (i := i) (by omega) (by omega) (by assumption), Bool.false_and]))
    ·intro h2; have ⟨h2p, h2s⟩ := dup h2; try simp only [Q5] at h2s
     try simp only [Q, Pat.cs_len] at h2p
     refine CWp.skip ?_
     refine CWp.region rfl ?_
     refine mv ?_
     refine Walk.addI .none rfl rfl rfl (by first | (constructor <;> omega) | (constructor <;> simp <;> omega)) ?_
     refine asg ?_
     refine tv ?_
     refine ⟨i + 1, ⟨by omega, upto_succ hg1.2 (by assumption)⟩, (by omega), Sub.x (by kernel_rfl) (by kernel_rfl) ⟨⟨_, rfl, (LeA.eqi (by first | rfl | (simp; done) | (simp_all; done) | omega))⟩, trivial⟩ (by kernel_rfl) (by kernel_rfl) trivial⟩
   ·intro h1; have ⟨h1p, h1s⟩ := dup h1; try simp only [Q5] at h1s
    try simp only [Q, Pat.cs_len] at h1p
    refine CWp.exit ?_
    refine CWp.seq ?_
    refine sr ?_
    refine Walk.fieldB fd70_0 .none rfl rfl ?_
    refine Walk.loadB ty3 .none rfl rfl rfl rfl ?_
    refine Walk.eqI .none rfl rfl rfl ?_
    refine tv ?_
    refine cd ?_ ?_
    ·intro h3; have ⟨h3p, h3s⟩ := dup h3; try simp only [Q5] at h3s
     try simp only [Q, Pat.cs_len] at h3p
     refine CWp.seq ?_
     refine CWp.drawn mixed rfl ?_
     refine mv ?_
     refine Walk.loadBA ty38 .none rfl rfl rfl rfl ?_
     refine Walk.fieldB fd70_5 .none rfl rfl ?_
     refine Walk.loadB ty68 .none rfl rfl rfl rfl ?_
     refine Walk.idx (i := 0) sl68 .none rfl rfl rfl rfl (pats_at (by omega)) rfl ?_
     refine Walk.loadPA ty70 .none rfl rfl rfl rfl ?_
     refine Walk.call (cr := []) cal136 (spec_l3Vars_nil hw s0 (by omega) ht (Pats.ok_mem hok.2 _ (nth_mem (by omega))) z0) rfl .none rfl rfl (LeL.refl _) trivial rfl rfl rfl ?_
     refine mv ?_
     refine Walk.loadBA ty38 .none rfl rfl rfl rfl ?_
     refine Walk.fieldB fd70_5 .none rfl rfl ?_
     refine Walk.loadB ty68 .none rfl rfl rfl rfl ?_
     refine Walk.idx (i := 1) sl68 .none rfl rfl rfl rfl (pats_at (by omega)) rfl ?_
     refine Walk.loadPA ty70 .none rfl rfl rfl rfl ?_
     refine Walk.call (cr := []) cal136 (spec_l3Vars_nil hw s1 (by omega) ht (Pats.ok_mem hok.2 _ (nth_mem (by omega))) z1) rfl .none rfl rfl (LeL.refl _) trivial rfl rfl rfl ?_
     refine Walk.call (cr := []) cal135 (spec_l3Alike_fn (by omega) (by omega)) rfl .none rfl rfl (LeL.refl _) trivial rfl rfl rfl ?_
     refine asg ?_
     refine ⟨by show _ = _; kernel_rfl, ?_⟩
     refine CWp.ret ?_
     refine ⟨_, _, [], (.cons (.tmp rfl) .nil), (.eqd ?_), ⟨rfl, rfl⟩, HSub.nil, noBox⟩
     all_goals (refine congrArg D.bool ?_; unfold linP; rw [if_pos hop5]; first | (rw [all2_nth_true (by omega) (fun x hx => hg1.2 x (by omega)), Bool.true_and]) | (rw [all2_nth_false (i := i) (by omega) (by omega) (by assumption), Bool.false_and]))
    ·intro h3; have ⟨h3p, h3s⟩ := dup h3; try simp only [Q5] at h3s
     try simp only [Q, Pat.cs_len] at h3p
     exfalso; simp_all --stop
  ·skip
   refine Fn.body (fn := Try.f108) (n := 70) rfl rfl rfl rfl rfl (fun w0 F0 own kept hk => ?_)
   refine sr ?_
   refine Walk.box (id := 3004) .none rfl rfl rfl rfl rfl rfl rfl ?_
   refine Walk.box (id := 3005) .none rfl rfl rfl rfl rfl rfl rfl ?_
   refine asg ?_
   refine tv ?_
   refine sr ?_
   refine mv ?_
   refine Walk.loadBA ty38 .none rfl rfl rfl rfl ?_
   refine Walk.loadBA ty70 .none rfl rfl rfl rfl ?_
   refine Walk.call (cr := []) cal134 (spec_l3Types_fn hw ht (ownP_mem ho)) rfl .none rfl rfl (LeL.refl _) trivial rfl rfl rfl ?_
   refine asg ?_
   refine tv ?_
   refine CWp.seq ?_
   refine sr ?_
   refine asg ?_
   refine tv ?_
   refine CWp.block ?_
   refine CWp.loopX (ι := Nat) hk (fun i => [(8, .d (.i (i : Int)))]) [6, 15, 16, 17, 18, 19, 20, 21, 22, 23, 24, 25, 26, 27, 28, 29, 30, 31, 32] (fun i => []) (fun i => i ≤ (typesP w ⟨a, k⟩ p).length ∧ ∀ i', i' < i → linP w n (nth (typesP w ⟨a, k⟩ p) i') (nth p.kids i') = true) (fun i => (typesP w ⟨a, k⟩ p).length - i) 0 ⟨by omega, fun _ h => absurd h (by omega)⟩ ⟨⟨_, rfl, (LeA.eqi (by first | rfl | (simp; done) | (simp_all; done) | omega))⟩, trivial⟩ trivial (fun x => rfl) (fun i hg1 => ?_)
   refine CWp.seq ?_
   refine sr ?_
   refine mv ?_
   refine mv ?_
   refine Walk.len sl24 .none rfl rfl ?_
   refine Walk.ltI .none rfl rfl rfl ?_
   refine tv ?_
   refine cd ?_ ?_
   ·intro h1; have ⟨h1p, h1s⟩ := dup h1; try simp only [Q5] at h1s
    try simp only [Q, Pat.cs_len] at h1p
    refine CWp.skip ?_
    refine CWp.seq ?_
    refine CWp.block ?_
    refine CWp.seq ?_
    refine CWp.drawn mixed rfl ?_
    refine mv ?_
    refine mv ?_
    refine mv ?_
    refine Walk.idx sl24 .none rfl rfl rfl rfl (at_nth (by omega)) rfl ?_
    refine Walk.loadPA ty38 .none rfl rfl rfl rfl ?_
    refine Walk.fieldB fd70_5 .none rfl rfl ?_
    refine Walk.loadB ty68 .none rfl rfl rfl rfl ?_
    refine mv ?_
    refine Walk.idx sl68 .none rfl rfl rfl rfl (pats_at (by omega)) rfl ?_
    refine Walk.loadPA ty70 .none rfl rfl rfl rfl ?_
    refine Walk.call (cr := []) cal108 (spec_l3Linear_fn hw n (shapeP_kid hs (by omega)) (by omega) (hin _ (nth_mem (by omega))) (Pats.ok_mem hok.2 _ (nth_mem (by omega))) (hsz _ (by omega))) rfl .none rfl rfl (LeL.refl _) trivial rfl rfl rfl ?_
    refine Walk.not .none rfl rfl ?_
    refine ⟨by show _ = _; kernel_rfl, ?_⟩
    refine cd ?_ ?_
    ·intro h2; have ⟨h2p, h2s⟩ := dup h2; try simp only [Q5] at h2s
     try simp only [Q, Pat.cs_len] at h2p
     refine sr ?_
     refine asg ?_
     refine tv ?_
     refine CWp.ret ?_
     refine ⟨_, _, [], (.cons (.tmp rfl) .nil), (.eqd ?_), ⟨rfl, rfl⟩, HSub.nil, noBox⟩
     all_goals (refine congrArg D.bool ?_; unfold linP; rw [if_neg hop5]; first | (rw [all2_nth_false (i := i) (by omega) (by omega) (by assumption), Bool.false_and]; done) | (rw [all2_nth_true (by omega) (fun x hx => hg1.2 x (by omega)), Bool.true_and]; first | (rw [distV_false (i := j) (by omega) (by omega)]; done) | (symm; exact all_range_true (fun x hx => decide_eq_true (hg2.2 x (by omega))))))
    ·intro h2; have ⟨h2p, h2s⟩ := dup h2; try simp only [Q5] at h2s
     try simp only [Q, Pat.cs_len] at h2p
     refine CWp.skip ?_
     refine CWp.region rfl ?_
     refine mv ?_
     refine Walk.addI .none rfl rfl rfl (by first | (constructor <;> omega) | (constructor <;> simp <;> omega)) ?_
     refine asg ?_
     refine tv ?_
     refine ⟨i + 1, ⟨by omega, upto_succ hg1.2 (by assumption)⟩, (by omega), Sub.x (by kernel_rfl) (by kernel_rfl) ⟨⟨_, rfl, (LeA.eqi (by first | rfl | (simp; done) | (simp_all; done) | omega))⟩, trivial⟩ (by kernel_rfl) (by kernel_rfl) trivial⟩
   ·intro h1; have ⟨h1p, h1s⟩ := dup h1; try simp only [Q5] at h1s
    try simp only [Q, Pat.cs_len] at h1p
    refine CWp.exit ?_
    refine CWp.seq ?_
    refine sr ?_
    refine Walk.fieldB fd70_0 .none rfl rfl ?_
    refine Walk.loadB ty3 .none rfl rfl rfl rfl ?_
    refine Walk.eqI .none rfl rfl rfl ?_
    refine tv ?_
    refine cd ?_ ?_
    ·intro h3; have ⟨h3p, h3s⟩ := dup h3; try simp only [Q5] at h3s
     try simp only [Q, Pat.cs_len] at h3p
     exfalso; simp_all --stop
    ·intro h3; have ⟨h3p, h3s⟩ := dup h3; try simp only [Q5] at h3s
     try simp only [Q, Pat.cs_len] at h3p
     refine CWp.skip ?_
     refine sr ?_
     refine mv ?_
     refine Walk.loadBA ty38 .none rfl rfl rfl rfl ?_
     refine Walk.loadBA ty70 .none rfl rfl rfl rfl ?_
     refine Walk.call (cr := []) cal136 (spec_l3Vars_nil hw hs hn ht hok' hb) rfl .none rfl rfl (LeL.refl _) trivial rfl rfl rfl ?_
     refine asg ?_
     refine tv ?_
     refine CWp.seq ?_
     refine sr ?_
     refine asg ?_
     refine tv ?_
     refine CWp.block ?_
     refine CWp.loopX (ι := Nat) hk (fun j => [(10, .d (.i (j : Int)))]) [6, 55, 56, 57, 58, 59, 60, 61, 62, 63, 64, 65, 66, 67, 68, 69] (fun j => []) (fun j => j ≤ (varsP w (n + 1) ⟨a, k⟩ p).length ∧ ∀ j', j' < j → findV (varsP w (n + 1) ⟨a, k⟩ p) (nth (varsP w (n + 1) ⟨a, k⟩ p) j').var = (j' : Int)) (fun j => (varsP w (n + 1) ⟨a, k⟩ p).length - j) 0 ⟨by omega, fun _ h => absurd h (by omega)⟩ ⟨⟨_, rfl, (LeA.eqi (by first | rfl | (simp; done) | (simp_all; done) | omega))⟩, trivial⟩ trivial (fun x => rfl) (fun j hg2 => ?_)
     refine CWp.seq ?_
     refine sr ?_
     refine mv ?_
     refine mv ?_
     refine Walk.len sl134 .none rfl rfl ?_
     refine Walk.ltI .none rfl rfl rfl ?_
     refine tv ?_
     refine cd ?_ ?_
     ·intro h4; have ⟨h4p, h4s⟩ := dup h4; try simp only [Q5] at h4s
      try simp only [Q, Pat.cs_len] at h4p
      refine CWp.skip ?_
      refine CWp.seq ?_
      refine CWp.block ?_
      refine sr ?_
      refine mv ?_
      refine mv ?_
      refine mv ?_
      refine Walk.idx sl134 .none rfl rfl rfl rfl (at_nth (by omega)) rfl ?_
      refine Walk.fieldP fd168_0 .none rfl rfl ?_
      refine Walk.loadP ty3 .none rfl rfl rfl ?_
      refine Walk.call (cr := []) cal137 (spec_l3Find_fn (by omega)) rfl .none rfl rfl (LeL.refl _) trivial rfl rfl rfl ?_
      refine mv ?_
      refine Walk.neI .none rfl rfl rfl ?_
      refine tv ?_
      refine cd ?_ ?_
      ·intro h5; have ⟨h5p, h5s⟩ := dup h5; try simp only [Q5] at h5s
       try simp only [Q, Pat.cs_len] at h5p
       refine sr ?_
       refine asg ?_
       refine tv ?_
       refine CWp.ret ?_
       refine ⟨_, _, [], (.cons (.tmp rfl) .nil), (.eqd ?_), ⟨rfl, rfl⟩, HSub.nil, noBox⟩
       all_goals (refine congrArg D.bool ?_; unfold linP; rw [if_neg hop5]; first | (rw [all2_nth_false (i := i) (by omega) (by omega) (by assumption), Bool.false_and]; done) | (rw [all2_nth_true (by omega) (fun x hx => hg1.2 x (by omega)), Bool.true_and]; first | (rw [distV_false (i := j) (by omega) (by omega)]; done) | (symm; exact all_range_true (fun x hx => decide_eq_true (hg2.2 x (by omega))))))
      ·intro h5; have ⟨h5p, h5s⟩ := dup h5; try simp only [Q5] at h5s
       try simp only [Q, Pat.cs_len] at h5p
       refine CWp.skip ?_
       refine CWp.region rfl ?_
       refine mv ?_
       refine Walk.addI .none rfl rfl rfl (by first | (constructor <;> omega) | (constructor <;> simp <;> omega)) ?_
       refine asg ?_
       refine tv ?_
       refine ⟨j + 1, ⟨by omega, upto_succ hg2.2 (by omega)⟩, (by omega), Sub.x (by kernel_rfl) (by kernel_rfl) ⟨⟨_, rfl, (LeA.eqi (by first | rfl | (simp; done) | (simp_all; done) | omega))⟩, trivial⟩ (by kernel_rfl) (by kernel_rfl) trivial⟩
     ·intro h4; have ⟨h4p, h4s⟩ := dup h4; try simp only [Q5] at h4s
      try simp only [Q, Pat.cs_len] at h4p
      refine CWp.exit ?_
      refine sr ?_
      refine asg ?_
      refine tv ?_
      refine CWp.ret ?_
      refine ⟨_, _, [], (.cons (.tmp rfl) .nil), (.eqd ?_), ⟨rfl, rfl⟩, HSub.nil, noBox⟩
      all_goals (refine congrArg D.bool ?_; unfold linP; rw [if_neg hop5]; first | (rw [all2_nth_false (i := i) (by omega) (by omega) (by assumption), Bool.false_and]; done) | (rw [all2_nth_true (by omega) (fun x hx => hg1.2 x (by omega)), Bool.true_and]; first | (rw [distV_false (i := j) (by omega) (by omega)]; done) | (symm; exact all_range_true (fun x hx => decide_eq_true (hg2.2 x (by omega))))))
def isP (w : List Data) (t : Ty) (p : Pat) : Bool := shapeP w 10 t p && (decide ((p.size : Int) ≤ 60) && linP w 10 t p)
theorem spec_l3Is_fn {w : List Data} (hw : WT w) {a k : Int} {p : Pat} (ht : TyIn w.length ⟨a, k⟩) (hok : p.ok) (hb : p.size ≤ 1000000000000) :
  FnD Try.prog 72 [.d (encDatas w), .agg [.d (.i a), .d (.i k)], .agg [.d (.i p.op), .d (.i p.ctor), .d (.i p.n), .d (.i p.m), .d (.i p.var), .d (encPats p.kids)]] [] (.d (.bool (isP w ⟨a, k⟩ p))) [] := by
 have hc := cntP_iff p 60
 by_cases hs : shapeP w 10 ⟨a, k⟩ p = true
 ·skip
  refine Fn.body (fn := Try.f72) (n := 22) rfl rfl rfl rfl rfl (fun w0 F0 own kept hk => ?_)
  refine sr ?_
  refine Walk.box (id := 3004) .none rfl rfl rfl rfl rfl rfl rfl ?_
  refine Walk.box (id := 3005) .none rfl rfl rfl rfl rfl rfl rfl ?_
  refine asg ?_
  refine tv ?_
  refine CWp.seq ?_
  refine CWp.regionJ ?_
  refine WRest.join 9 [(15, .d (.bool (decide ((p.size : Int) ≤ 60))))] [7, 8, 9, 10, 11, 12, 13, 14] ?_ ?_
  ·
   refine mv ?_
   refine Walk.loadBA ty38 .none rfl rfl rfl rfl ?_
   refine Walk.loadBA ty70 .none rfl rfl rfl rfl ?_
   refine Walk.call (cr := []) cal106 (spec_l3Shape_fn hw 10 (by omega) (by omega) ht hok) rfl .none rfl rfl (LeL.refl _) trivial rfl rfl rfl ?_
   refine mv ?_
   refine sp 11 ?_ ?_
   ·intro h1; have ⟨h1p, h1s⟩ := dup h1; try simp only [Q5] at h1s
    try simp only [Q] at h1p
    refine Walk.loadBA ty70 (.some rfl rfl h1) rfl rfl rfl rfl ?_
    refine Walk.call (cr := []) cal107 (spec_l3Count_fn _ (Nat.le_refl _) hb hok (by omega) (by omega)) rfl (.some rfl rfl h1) rfl rfl (LeL.refl _) trivial rfl rfl rfl ?_
    refine Walk.leI (.some rfl rfl h1) rfl rfl rfl ?_
    refine Walk.pickT .none rfl rfl h1 rfl ?_
    exact ⟨trivial, Sub.x (by kernel_rfl) (by kernel_rfl) ⟨⟨_, rfl, (LeA.eqb (by first | rfl | (rw [Bool.eq_iff_iff]; (try simp only [BQ]) <;> first | omega | (simp_all; done) | (simp_all; omega))))⟩, trivial⟩ (by kernel_rfl) (by kernel_rfl) trivial⟩
   ·intro h1; have ⟨h1p, h1s⟩ := dup h1; try simp only [Q5] at h1s
    try simp only [Q] at h1p
    refine ps h1 ?_
    refine ps h1 ?_
    refine ps h1 ?_
    refine Walk.pickF .none rfl rfl h1 rfl ?_
    exact ⟨trivial, Sub.x (by kernel_rfl) (by kernel_rfl) ⟨⟨_, rfl, (LeA.eqb (by first | rfl | (rw [Bool.eq_iff_iff]; (try simp only [BQ]) <;> first | omega | (simp_all; done) | (simp_all; omega))))⟩, trivial⟩ (by kernel_rfl) (by kernel_rfl) trivial⟩
  refine WRest.done ?_
  refine mv ?_
  refine sp 16 ?_ ?_
  ·intro h2; have ⟨h2p, h2s⟩ := dup h2; try simp only [Q5] at h2s
   try simp only [Q] at h2p
   refine Walk.move (.some rfl rfl h2) rfl rfl ?_
   refine Walk.loadBA ty38 (.some rfl rfl h2) rfl rfl rfl rfl ?_
   refine Walk.loadBA ty70 (.some rfl rfl h2) rfl rfl rfl rfl ?_
   refine Walk.call (cr := []) cal108 (spec_l3Linear_fn hw 10 hs (by omega) ht hok hb) rfl (.some rfl rfl h2) rfl rfl (LeL.refl _) trivial rfl rfl rfl ?_
   refine Walk.pickT .none rfl rfl h2 rfl ?_
   refine asg ?_
   refine tv ?_
   refine CWp.ret ?_
   refine ⟨_, _, [], (.cons (.tmp rfl) .nil), (.eqd ?_), ⟨rfl, rfl⟩, HSub.nil, noBox⟩
   all_goals (refine congrArg D.bool ?_; unfold isP; simp only [hs, Bool.true_and]; first | (simp_all; done) | (simp_all; intro; omega))
  ·intro h2; have ⟨h2p, h2s⟩ := dup h2; try simp only [Q5] at h2s
   try simp only [Q] at h2p
   refine ps h2 ?_
   refine ps h2 ?_
   refine ps h2 ?_
   refine ps h2 ?_
   refine Walk.pickF .none rfl rfl h2 rfl ?_
   refine asg ?_
   refine tv ?_
   refine CWp.ret ?_
   refine ⟨_, _, [], (.cons (.tmp rfl) .nil), (.eqd ?_), ⟨rfl, rfl⟩, HSub.nil, noBox⟩
   all_goals (refine congrArg D.bool ?_; unfold isP; simp only [hs, Bool.true_and]; first | (simp_all; done) | (simp_all; intro; omega))
 ·have hs' : shapeP w 10 ⟨a, k⟩ p = false := by simpa using hs
  refine Fn.body (fn := Try.f72) (n := 22) rfl rfl rfl rfl rfl (fun w0 F0 own kept hk => ?_)
  refine sr ?_
  refine Walk.box (id := 3004) .none rfl rfl rfl rfl rfl rfl rfl ?_
  refine Walk.box (id := 3005) .none rfl rfl rfl rfl rfl rfl rfl ?_
  refine asg ?_
  refine tv ?_
  refine CWp.seq ?_
  refine CWp.regionJ ?_
  refine WRest.join 9 [(15, .d (.bool (false)))] [7, 8, 9, 10, 11, 12, 13, 14] ?_ ?_
  ·
   refine mv ?_
   refine Walk.loadBA ty38 .none rfl rfl rfl rfl ?_
   refine Walk.loadBA ty70 .none rfl rfl rfl rfl ?_
   refine Walk.call (cr := []) cal106 (spec_l3Shape_fn hw 10 (by omega) (by omega) ht hok) rfl .none rfl rfl (LeL.refl _) trivial rfl rfl rfl ?_
   refine mv ?_
   refine sp 11 ?_ ?_
   ·intro h1; have ⟨h1p, h1s⟩ := dup h1; try simp only [Q5] at h1s
    try simp only [Q] at h1p
    refine Walk.loadBA ty70 (.some rfl rfl h1) rfl rfl rfl rfl ?_
    refine Walk.call (cr := []) cal107 (spec_l3Count_fn _ (Nat.le_refl _) hb hok (by omega) (by omega)) rfl (.some rfl rfl h1) rfl rfl (LeL.refl _) trivial rfl rfl rfl ?_
    refine Walk.leI (.some rfl rfl h1) rfl rfl rfl ?_
    refine Walk.pickT .none rfl rfl h1 rfl ?_
    exact ⟨trivial, Sub.x (by kernel_rfl) (by kernel_rfl) ⟨⟨_, rfl, (LeA.eqb (by first | rfl | (rw [Bool.eq_iff_iff]; (try simp only [BQ]) <;> first | omega | (simp_all; done) | (simp_all; omega))))⟩, trivial⟩ (by kernel_rfl) (by kernel_rfl) trivial⟩
   ·intro h1; have ⟨h1p, h1s⟩ := dup h1; try simp only [Q5] at h1s
    try simp only [Q] at h1p
    refine ps h1 ?_
    refine ps h1 ?_
    refine ps h1 ?_
    refine Walk.pickF .none rfl rfl h1 rfl ?_
    exact ⟨trivial, Sub.x (by kernel_rfl) (by kernel_rfl) ⟨⟨_, rfl, (LeA.eqb (by first | rfl | (rw [Bool.eq_iff_iff]; (try simp only [BQ]) <;> first | omega | (simp_all; done) | (simp_all; omega))))⟩, trivial⟩ (by kernel_rfl) (by kernel_rfl) trivial⟩
  refine WRest.done ?_
  refine mv ?_
  refine sp 16 ?_ ?_
  ·intro h2; have ⟨h2p, h2s⟩ := dup h2; try simp only [Q5] at h2s
   try simp only [Q] at h2p
   refine Walk.move (.some rfl rfl h2) rfl rfl ?_
   refine Walk.loadBA ty38 (.some rfl rfl h2) rfl rfl rfl rfl ?_
   refine Walk.loadBA ty70 (.some rfl rfl h2) rfl rfl rfl rfl ?_
   refine Walk.call (cr := []) cal108 (show FnD Try.prog 108 [.d (encDatas w), .agg [.d (.i a), .d (.i k)], .agg [.d (.i p.op), .d (.i p.ctor), .d (.i p.n), .d (.i p.m), .d (.i p.var), .d (encPats p.kids)]] [] (.d (.bool true)) [] from absurd (by assumption : (false : Bool) = true) (by simp)) rfl (.some rfl rfl h2) rfl rfl (LeL.refl _) trivial rfl rfl rfl ?_
   refine Walk.pickT .none rfl rfl h2 rfl ?_
   refine asg ?_
   refine tv ?_
   refine CWp.ret ?_
   refine ⟨_, _, [], (.cons (.tmp rfl) .nil), (.eqd ?_), ⟨rfl, rfl⟩, HSub.nil, noBox⟩
   all_goals (refine congrArg D.bool ?_; unfold isP; simp_all)
  ·intro h2; have ⟨h2p, h2s⟩ := dup h2; try simp only [Q5] at h2s
   try simp only [Q] at h2p
   refine ps h2 ?_
   refine ps h2 ?_
   refine ps h2 ?_
   refine ps h2 ?_
   refine Walk.pickF .none rfl rfl h2 rfl ?_
   refine asg ?_
   refine tv ?_
   refine CWp.ret ?_
   refine ⟨_, _, [], (.cons (.tmp rfl) .nil), (.eqd ?_), ⟨rfl, rfl⟩, HSub.nil, noBox⟩
   all_goals (refine congrArg D.bool ?_; unfold isP; simp_all)
end Go.Proofs.Ytadpcmcifbakoaa
