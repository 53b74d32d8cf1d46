/-
  THE ABSTRACT WALK AND THE WALKS, part 3 of 6: the parts F2, F3, F4, F5, F6, Wv, G1, F19, F31, F32, F33, F34, F12, F15, F20.
-/
import Derived.Test.YtdgknigklgnefaaGreatQ2
namespace Go.Proofs.YtdgknigklgnefaaGreat
open Go
set_option linter.unusedSimpArgs false
set_option linter.unusedVariables false
set_option maxRecDepth 100000
set_option maxHeartbeats 2000000
def upperN (n : Int) : Bool := decide (65 ≤ n) && decide (n ≤ 90)
theorem spec_l1Big_fn {n : Int} : FnD Tryz.prog 206 [.d (.int .u8 n)] [] (.d (.bool (upperN n))) [] := by
 refine bd Tryz.f206 9 [] [] fun w0 F0 own kept hk => ?_
 refine sq (fun h1 h1p h1s => ?_) fun h1 h1p h1s => ?_
 ·try simp only [Q] at h1p
  refine rn0 (r1 rfl) (.eqd ?_)
  all_goals ((simp_all [upperN]; done))
 ·try simp only [Q] at h1p
  refine rn0 (r1 rfl) (.eqd ?_)
  all_goals ((simp_all [upperN]; omega))
theorem spec_NameValid_fn {s : Str} (hs : s.length ≤ 1000000000000) : FnD Tryz.prog 207 [.d (.str s)] [] (.d (.bool (nameValid s))) [] := by
 refine bd Tryz.f207 34 [] [] fun w0 F0 own kept hk => ?_
 refine sq (fun h1 h1p h1s => ?_) fun h1 h1p h1s => ?_
 ·try simp only [Q, upperN] at h1p
  refine sqT ?_
  refine sqT ?_
  refine rn0 (r1 rfl) (.eqd ?_)
  all_goals ((rw [nameValid_len (by omega)]; done))
 ·try simp only [Q, upperN] at h1p
  refine sq (fun h3 h3p h3s => ?_) fun h3 h3p h3s => ?_
  ·try simp only [Q, upperN] at h3p
   refine sqT ?_
   refine rn0 (r1 rfl) (.eqd ?_)
   all_goals ((rw [nameValid_len (by omega)]; done))
  ·try simp only [Q, upperN] at h3p
   refine Walk.idxS (i := 0) un9 (.some rfl rfl h3) rfl rfl rfl rfl (List.getElem?_eq_getElem (by omega)) ?_
   refine Walk.call (cr := []) cal206 (spec_l1Big_fn) rfl (.some rfl rfl h3) rfl rfl (LeL.refl _) trivial rfl rfl rfl ?_
   refine evs [] [(12, false)] ?_ ⟨⟨_, rfl, h3⟩, trivial⟩
   refine sq (fun h5 h5p h5s => ?_) fun h5 h5p h5s => ?_
   ·try simp only [Q, upperN] at h5p
    refine rn0 (r1 rfl) (.eqd ?_)
    all_goals ((rw [nameValid_eq (by omega)]; simp only [upperB, h1s, h1p, h3s, h3p, h5s, h5p]; simp; done))
   ·try simp only [Q, upperN] at h5p
    refine CWp.loopX (ι := Nat) hk (fun i => [(3, .d (.i (i : Int)))]) [2, 18, 19, 20, 21, 22, 23, 24, 25, 26, 27, 28, 29, 30, 31, 32, 33] (fun i => []) (fun i => 1 ≤ i ∧ i ≤ s.length ∧ nameTail (s.drop i) = nameTail (s.drop 1)) (fun i => s.length - i) 1 ⟨by omega, by omega, rfl⟩ ⟨⟨_, rfl, (LeA.eqi (by first | rfl | (simp; done) | (simp_all; done) | omega))⟩, trivial⟩ trivial (fun x => rfl) (fun i hg1 => ?_)
    refine evc [] [] ?_
    refine sq (fun h6 h6p h6s => ?_) fun h6 h6p h6s => ?_
    ·try simp only [Q, upperN] at h6p
     refine Walk.idxS un9 .none rfl rfl rfl rfl (List.getElem?_eq_getElem (by omega)) ?_
     refine ev ?_
     refine sq (fun h7 h7p h7s => ?_) fun h7 h7p h7s => ?_
     ·try simp only [Q, upperN] at h7p
      refine sqT ?_
      refine rn0 (r1 rfl) (.eqd ?_)
      all_goals ((rw [nameValid_eq (by omega), ← hg1.2.2, nameTail_drop (by omega)]; simp [lowerB]; omega))
     ·try simp only [Q, upperN] at h7p
      refine Walk.idxS un9 (.some rfl rfl h7) rfl rfl rfl rfl (List.getElem?_eq_getElem (by omega)) ?_
      refine evs [] [(28, false)] ?_ ⟨⟨_, rfl, h7⟩, trivial⟩
      refine sq (fun h9 h9p h9s => ?_) fun h9 h9p h9s => ?_
      ·try simp only [Q, upperN] at h9p
       refine rn0 (r1 rfl) (.eqd ?_)
       all_goals ((rw [nameValid_eq (by omega), ← hg1.2.2, nameTail_drop (by omega)]; simp [lowerB]; omega))
      ·try simp only [Q, upperN] at h9p
       refine ar ?_
       refine Exists.intro (i + 1) ⟨⟨by omega, by omega, by rw [← hg1.2.2, nameTail_drop (i := i) (by omega)]; simp [lowerB]; omega⟩, ?_, Sub.x (by kernel_rfl) (by kernel_rfl) ⟨⟨_, rfl, (LeA.eqi (by first | rfl | (simp; done) | (simp_all; done) | omega))⟩, trivial⟩ (by kernel_rfl) (by kernel_rfl) trivial⟩
       all_goals first | omega | (simp_all; done) | (simp_all; omega)
    ·try simp only [Q, upperN] at h6p
     refine rn0 (r1 rfl) (.eqd ?_)
     all_goals ((rw [nameValid_eq (by omega), ← hg1.2.2, nameTail_end (by omega)]; simp [within, upperB]; omega))
theorem spec_l1Data_fn {s : Str} (hs : s.length ≤ 1000000000000) : FnD Tryz.prog 128 [.d (.str s)] [] (.d (.bool (dataNameOk s))) [] := by
 refine bd Tryz.f128 15 [] [] fun w0 F0 own kept hk => ?_
 refine sq (fun h1 h1p h1s => ?_) fun h1 h1p h1s => ?_
 ·try simp only [Q] at h1p
  refine Walk.idxS (i := 0) un9 (.some rfl rfl h1) rfl rfl rfl rfl (List.getElem?_eq_getElem (by omega)) ?_
  refine Walk.call (cr := []) cal206 (spec_l1Big_fn) rfl (.some rfl rfl h1) rfl rfl (LeL.refl _) trivial rfl rfl rfl ?_
  refine evs [] [(6, true)] ?_ ⟨⟨_, rfl, h1⟩, trivial⟩
  refine sq (fun h2 h2p h2s => ?_) fun h2 h2p h2s => ?_
  ·try simp only [Q] at h2p
   refine rn0 (r1 rfl) (.eqd ?_)
   all_goals ((simp only [dataNameOk, getD0 (s := s) (by omega), upperB]; simp only [upperN, Bool.and_eq_true, decide_eq_true_eq] at *; simp [*]; done))
  ·try simp only [Q] at h2p
   refine rn0 (r1 rfl) (.eqd ?_)
   all_goals ((simp only [dataNameOk, getD0 (s := s) (by omega), upperB]; simp only [upperN, Bool.and_eq_true, decide_eq_true_eq] at *; simp [*]; done))
 ·try simp only [Q] at h1p
  refine sqF ?_
  refine rn0 (r1 rfl) (.eqd ?_)
  all_goals ((simp [dataNameOk, h1s, h1p]; done))
theorem spec_l1Arg_fn {n : Nat} {a b : Int} : FnD Tryz.prog 208 [.d (.i n), .agg [.d (.i a), .d (.i b)]] [] (.d (.bool (argOk n ⟨a, b⟩))) [] := by
 refine bd Tryz.f208 30 [] [] fun w0 F0 own kept hk => ?_
 refine Walk.box (id := 3003) .none rfl rfl rfl rfl rfl rfl rfl ?_
 refine ev ?_
 refine sq (fun h1 h1p h1s => ?_) fun h1 h1p h1s => ?_
 ·try simp only [Q] at h1p
  refine rn0 (r1 rfl) (.eqd ?_)
  all_goals ((simp [argOk, within, h1s, h1p]; done))
 ·try simp only [Q] at h1p
  refine sq (fun h2 h2p h2s => ?_) fun h2 h2p h2s => ?_
  ·try simp only [Q] at h2p
   refine sq (fun h3 h3p h3s => ?_) fun h3 h3p h3s => ?_
   ·try simp only [Q] at h3p
    refine sq (fun h4 h4p h4s => ?_) fun h4 h4p h4s => ?_
    ·try simp only [Q] at h4p
     refine rn0 (r1 rfl) (.eqd ?_)
     all_goals ((apply congrArg D.bool; rw [Bool.eq_iff_iff]; simp [argOk, within]; omega))
    ·try simp only [Q] at h4p
     refine rn0 (r1 rfl) (.eqd ?_)
     all_goals ((simp [argOk, within, h1s, h1p, h2s, h2p, h3s, h3p, h4s, h4p]; done))
   ·try simp only [Q] at h3p
    refine sqF ?_
    refine rn0 (r1 rfl) (.eqd ?_)
    all_goals ((apply congrArg D.bool; rw [Bool.eq_iff_iff]; simp [argOk, within]; omega))
  ·try simp only [Q] at h2p
   refine sqF ?_
   refine sqF ?_
   refine rn0 (r1 rfl) (.eqd ?_)
   all_goals ((simp [argOk, within, h1s, h1p, h2s, h2p]; done))
theorem spec_l1Ctor_fn {n : Nat} {s : Str} {args : List Ty} {k : Int} (hn : s.length ≤ 1000000000000) (ha : args.length ≤ 1000000000000) : FnD Tryz.prog 129 [.d (.i n), .agg [.d (.str s), .d (encTys args), .d (.i k)]] [] (.d (.bool (ctorOk n ⟨s, args, k⟩))) [] := by
 refine bd Tryz.f129 41 [] [] fun w0 F0 own kept hk => ?_
 refine Walk.box (id := 3003) .none rfl rfl rfl rfl rfl rfl rfl ?_
 refine ev ?_
 refine Walk.call (cr := []) cal207 (spec_NameValid_fn hn) rfl .none rfl rfl (LeL.refl _) trivial rfl rfl rfl ?_
 refine ev ?_
 refine sq (fun h1 h1p h1s => ?_) fun h1 h1p h1s => ?_
 ·try simp only [Q] at h1p
  refine sqT ?_
  refine sqT ?_
  refine sqT ?_
  refine rn0 (r1 rfl) (.eqd ?_)
  all_goals ((simp [ctorOk, h1s, h1p]; done))
 ·try simp only [Q] at h1p
  refine sq (fun h3 h3p h3s => ?_) fun h3 h3p h3s => ?_
  ·try simp only [Q] at h3p
   refine sqT ?_
   refine sqT ?_
   refine rn0 (r1 rfl) (.eqd ?_)
   all_goals ((apply congrArg D.bool; simp [ctorOk, within]; omega))
  ·try simp only [Q] at h3p
   refine sq (fun h5 h5p h5s => ?_) fun h5 h5p h5s => ?_
   ·try simp only [Q] at h5p
    refine sqT ?_
    refine rn0 (r1 rfl) (.eqd ?_)
    all_goals ((apply congrArg D.bool; simp [ctorOk, within]; omega))
   ·try simp only [Q] at h5p
    refine sq (fun h7 h7p h7s => ?_) fun h7 h7p h7s => ?_
    ·try simp only [Q] at h7p
     refine rn0 (r1 rfl) (.eqd ?_)
     all_goals ((apply congrArg D.bool; simp [ctorOk, within]; omega))
    ·try simp only [Q] at h7p
     refine CWp.loopX (ι := List (Ty) × List (Ty)) hk (fun x => [(5, .d (.i (x.1.length : Int)))]) [4, 26, 27, 28, 29, 30, 31, 32, 33, 34, 35, 36, 37, 38, 39, 40] (fun x => []) (fun x => x.1 ++ x.2 = args ∧ (x.2.any fun t => !argOk n t) = args.any fun t => !argOk n t) (fun x => x.2.length) ([], args) ⟨by simp, rfl⟩ ⟨⟨_, rfl, (LeA.eqi (by first | rfl | (simp; done) | (simp_all; done) | omega))⟩, trivial⟩ trivial (fun x => rfl) (fun x hg1 => ?_)
     obtain ⟨pre, rest⟩ := x
     dsimp only at hg1 ⊢
     refine evc [] [] ?_
     refine sq (fun h8 h8p h8s => ?_) fun h8 h8p h8s => ?_
     ·try simp only [Q] at h8p
      rcases rest with _ | ⟨y, rest⟩
      ·exfalso; simp_all
      refine Walk.idx sl182 .none rfl rfl rfl rfl (zip_at hg1.1) rfl ?_
      refine ev ?_
      refine Walk.call (cr := []) cal208 (spec_l1Arg_fn) rfl .none rfl rfl (LeL.refl _) trivial rfl rfl rfl ?_
      refine ev ?_
      refine sq (fun h9 h9p h9s => ?_) fun h9 h9p h9s => ?_
      ·try simp only [Q] at h9p
       refine rn0 (r1 rfl) (.eqd ?_)
       all_goals ((simp only [ctorOk]; rw [← hg1.2]; simp [within, h1s, h1p, h3s, h3p, h5s, h5p, h7s, h7p, h8s, h8p, h9s, h9p]; done))
      ·try simp only [Q] at h9p
       refine ar ?_
       refine Exists.intro ((pre ++ [y], rest)) ⟨⟨(by have hz := hg1.1; rw [← hz]; simp), (by rw [← hg1.2]; simp [Ty.eta, h1s, h1p, h3s, h3p, h5s, h5p, h7s, h7p, h8s, h8p, h9s, h9p])⟩, (by simp), Sub.x (by kernel_rfl) (by kernel_rfl) ⟨⟨_, rfl, (LeA.eqi (by first | rfl | (simp; done) | (simp_all; done) | omega))⟩, trivial⟩ (by kernel_rfl) (by kernel_rfl) trivial⟩
     ·try simp only [Q] at h8p
      have hrest : rest = [] := by
       rcases rest with _ | ⟨a, b⟩
       ·rfl
       ·exfalso; have hz := congrArg List.length (hg1.1); simp only [List.length_append, List.length_cons, List.length_map] at hz; omega
      subst hrest
      refine rn0 (r1 rfl) (.eqd ?_)
      all_goals ((simp only [ctorOk]; rw [← hg1.2]; simp [within, h1s, h1p, h3s, h3p, h5s, h5p, h7s, h7p, h8s, h8p]; omega))
theorem spec_l1Twice_fn {w : List Data} {d k : Nat} (hs : WSmall w) (hd : d < w.length) : FnD Tryz.prog 130 [.d (encDatas w), .d (.i d), .d (.i k)] [] (.d (.bool (twice w d k))) [] := by
 have hw := hs.len
 refine bd Tryz.f130 79 [] [] fun w0 F0 own kept hk => ?_
 refine CWp.loopX (ι := Nat) hk (fun i => [(7, .d (.i (i : Int)))]) [6, 8, 9, 10, 11, 12, 13, 14, 15, 16, 17, 18, 19, 20, 21, 22, 23, 24, 25, 26, 27, 28, 29, 30, 31, 32, 33, 34, 35, 36, 37, 38, 39, 40, 41, 42, 43, 44, 45, 46, 47, 48, 49, 50, 51, 52, 53, 54, 55, 56, 57, 58, 59, 60, 61, 62, 63, 64, 65, 66, 67, 68, 69, 70, 71, 72, 73, 74, 75, 76, 77, 78] (fun i => []) (fun i => i ≤ d + 1 ∧ ∀ i', i' < i → rowTwice w d k i' = false) (fun i => d + 1 - i) 0 ⟨by omega, fun _ h => absurd h (by omega)⟩ ⟨⟨_, rfl, (LeA.eqi (by first | rfl | (simp; done) | (simp_all; done) | omega))⟩, trivial⟩ trivial (fun x => rfl) (fun i hg1 => ?_)
 refine evc [] [] ?_
 refine sq (fun h1 h1p h1s => ?_) fun h1 h1p h1s => ?_
 ·try simp only [Q, Int.ofNat_lt, Int.ofNat_le] at h1p
  refine sq (fun h2 h2p h2s => ?_) fun h2 h2p h2s => ?_
  ·try simp only [Q, Int.ofNat_lt, Int.ofNat_le] at h2p
   refine Walk.idx sl27 (.some rfl rfl h2) rfl rfl rfl rfl (at_nth (by omega)) rfl ?_
   refine evd [] [(17, true)] ?_ ⟨⟨_, rfl, h2⟩, trivial⟩
   refine Walk.idx sl27 (.some rfl rfl h2) rfl rfl rfl rfl (at_nth (by omega)) rfl ?_
   refine evd [] [(17, true)] ?_ ⟨⟨_, rfl, h2⟩, trivial⟩
   refine dr ?_
   refine sq (fun h3 h3p h3s => ?_) fun h3 h3p h3s => ?_
   ·try simp only [Q, Int.ofNat_lt, Int.ofNat_le] at h3p
    refine rn0 (r1 rfl) (.eqd ?_)
    all_goals ((refine congrArg D.bool (any_range_true (i := i) (by omega) ?_).symm; simp [rowTwice, h1s, h1p, h2s, h2p, h3s, h3p]; done))
   ·try simp only [Q, Int.ofNat_lt, Int.ofNat_le] at h3p
    refine CWp.loopX (ι := Nat) hk (fun j => [(8, .d (.i (j : Int)))]) [6, 30, 31, 32, 33, 34, 35, 36, 37, 38, 39, 40, 41, 42, 43, 44, 45, 46, 47, 48, 49, 50, 51, 52, 53, 54, 55, 56, 57, 58, 59, 60, 61, 62, 63, 64, 65, 66, 67, 68, 69, 70, 71, 72, 73, 74, 75, 76, 77, 78] (fun j => []) (fun j => j ≤ (nth w i).ctors.length ∧ ∀ j', j' < j → hitTwice w d k i j' = false) (fun j => (nth w i).ctors.length - j) 0 ⟨by omega, fun _ h => absurd h (by omega)⟩ ⟨⟨_, rfl, (LeA.eqi (by first | rfl | (simp; done) | (simp_all; done) | omega))⟩, trivial⟩ trivial (fun x => rfl) (fun j hg2 => ?_)
    have hb := hs.ctors i
    refine evc [] [] ?_
    refine Walk.idx sl27 .none rfl rfl rfl rfl (at_nth (by omega)) rfl ?_
    refine ev ?_
    refine sq (fun h4 h4p h4s => ?_) fun h4 h4p h4s => ?_
    ·try simp only [Q, Int.ofNat_lt, Int.ofNat_le] at h4p
     refine sq (fun h5 h5p h5s => ?_) fun h5 h5p h5s => ?_
     ·try simp only [Q, Int.ofNat_lt, Int.ofNat_le] at h5p
      refine sqT ?_
      refine Walk.idx sl27 .none rfl rfl rfl rfl (at_nth (by omega)) rfl ?_
      refine evd [] [] ?_
      refine sq (fun h7 h7p h7s => ?_) fun h7 h7p h7s => ?_
      ·try simp only [Q, Int.ofNat_lt, Int.ofNat_le] at h7p
       refine Walk.idx sl27 (.some rfl rfl h7) rfl rfl rfl rfl (at_nth (by omega)) rfl ?_
       refine evd [] [(58, true)] ?_ ⟨⟨_, rfl, h7⟩, trivial⟩
       refine Walk.idx sl119 (.some rfl rfl h7) rfl rfl rfl rfl (at_nth (by omega)) rfl ?_
       refine evd [] [(58, true)] ?_ ⟨⟨_, rfl, h7⟩, trivial⟩
       refine Walk.idx sl27 (.some rfl rfl h7) rfl rfl rfl rfl (at_nth (by omega)) rfl ?_
       refine evd [] [(58, true)] ?_ ⟨⟨_, rfl, h7⟩, trivial⟩
       refine Walk.idx sl119 (.some rfl rfl h7) rfl rfl rfl rfl (at_nth (by omega)) rfl ?_
       refine evd [] [(58, true)] ?_ ⟨⟨_, rfl, h7⟩, trivial⟩
       refine dr ?_
       refine sq (fun h8 h8p h8s => ?_) fun h8 h8p h8s => ?_
       ·try simp only [Q, Int.ofNat_lt, Int.ofNat_le] at h8p
        refine rn0 (r1 rfl) (.eqd ?_)
        all_goals ((refine congrArg D.bool (any_range_true (i := i) (by omega) ?_).symm; unfold rowTwice; rw [any_range_true (i := j) (by omega) (by simp [hitTwice, h1s, h1p, h2s, h2p, h3s, h3p, h4s, h4p, h5s, h5p, h7s, h7p, h8s, h8p])]; simp; done))
       ·try simp only [Q, Int.ofNat_lt, Int.ofNat_le] at h8p
        refine ar ?_
        refine Exists.intro (j + 1) ⟨⟨by omega, upto_succ hg2.2 (by simp [hitTwice, h1s, h1p, h2s, h2p, h3s, h3p, h4s, h4p, h5s, h5p, h7s, h7p, h8s, h8p]; done)⟩, (by omega), Sub.x (by kernel_rfl) (by kernel_rfl) ⟨⟨_, rfl, (LeA.eqi (by first | rfl | (simp; done) | (simp_all; done) | omega))⟩, trivial⟩ (by kernel_rfl) (by kernel_rfl) trivial⟩
      ·try simp only [Q, Int.ofNat_lt, Int.ofNat_le] at h7p
       refine dr ?_
       refine sqF ?_
       refine ar ?_
       refine Exists.intro (j + 1) ⟨⟨by omega, upto_succ hg2.2 (by simp [hitTwice, h1s, h1p, h2s, h2p, h3s, h3p, h4s, h4p, h5s, h5p, h7s, h7p]; done)⟩, (by omega), Sub.x (by kernel_rfl) (by kernel_rfl) ⟨⟨_, rfl, (LeA.eqi (by first | rfl | (simp; done) | (simp_all; done) | omega))⟩, trivial⟩ (by kernel_rfl) (by kernel_rfl) trivial⟩
     ·try simp only [Q, Int.ofNat_lt, Int.ofNat_le] at h5p
      refine sq (fun h10 h10p h10s => ?_) fun h10 h10p h10s => ?_
      ·try simp only [Q, Int.ofNat_lt, Int.ofNat_le] at h10p
       refine Walk.idx sl27 .none rfl rfl rfl rfl (at_nth (by omega)) rfl ?_
       refine evd [] [] ?_
       refine sq (fun h11 h11p h11s => ?_) fun h11 h11p h11s => ?_
       ·try simp only [Q, Int.ofNat_lt, Int.ofNat_le] at h11p
        refine Walk.idx sl27 (.some rfl rfl h11) rfl rfl rfl rfl (at_nth (by omega)) rfl ?_
        refine evd [] [(58, true)] ?_ ⟨⟨_, rfl, h11⟩, trivial⟩
        refine Walk.idx sl119 (.some rfl rfl h11) rfl rfl rfl rfl (at_nth (by omega)) rfl ?_
        refine evd [] [(58, true)] ?_ ⟨⟨_, rfl, h11⟩, trivial⟩
        refine Walk.idx sl27 (.some rfl rfl h11) rfl rfl rfl rfl (at_nth (by omega)) rfl ?_
        refine evd [] [(58, true)] ?_ ⟨⟨_, rfl, h11⟩, trivial⟩
        refine Walk.idx sl119 (.some rfl rfl h11) rfl rfl rfl rfl (at_nth (by omega)) rfl ?_
        refine evd [] [(58, true)] ?_ ⟨⟨_, rfl, h11⟩, trivial⟩
        refine dr ?_
        refine sq (fun h12 h12p h12s => ?_) fun h12 h12p h12s => ?_
        ·try simp only [Q, Int.ofNat_lt, Int.ofNat_le] at h12p
         refine rn0 (r1 rfl) (.eqd ?_)
         all_goals ((exfalso; omega))
        ·try simp only [Q, Int.ofNat_lt, Int.ofNat_le] at h12p
         refine ar ?_
         refine Exists.intro (j + 1) ⟨⟨by omega, upto_succ hg2.2 (by simp [hitTwice, h1s, h1p, h2s, h2p, h3s, h3p, h4s, h4p, h5s, h5p, h10s, h10p, h11s, h11p, h12s, h12p]; done)⟩, (by omega), Sub.x (by kernel_rfl) (by kernel_rfl) ⟨⟨_, rfl, (LeA.eqi (by first | rfl | (simp; done) | (simp_all; done) | omega))⟩, trivial⟩ (by kernel_rfl) (by kernel_rfl) trivial⟩
       ·try simp only [Q, Int.ofNat_lt, Int.ofNat_le] at h11p
        refine dr ?_
        refine sqF ?_
        refine ar ?_
        refine Exists.intro (j + 1) ⟨⟨by omega, upto_succ hg2.2 (by simp [hitTwice, h1s, h1p, h2s, h2p, h3s, h3p, h4s, h4p, h5s, h5p, h10s, h10p, h11s, h11p]; done)⟩, (by omega), Sub.x (by kernel_rfl) (by kernel_rfl) ⟨⟨_, rfl, (LeA.eqi (by first | rfl | (simp; done) | (simp_all; done) | omega))⟩, trivial⟩ (by kernel_rfl) (by kernel_rfl) trivial⟩
      ·try simp only [Q, Int.ofNat_lt, Int.ofNat_le] at h10p
       refine ar ?_
       refine Exists.intro (i + 1) ⟨⟨by omega, upto_succ hg1.2 (row_false (by simp [h1s, h1p, h2s, h2p, h3s, h3p, h4s, h4p, h5s, h5p, h10s, h10p]) hg2.2 (fun hj => by omega))⟩, (by omega), Sub.x (by kernel_rfl) (by kernel_rfl) ⟨⟨_, rfl, (LeA.eqi (by first | rfl | (simp; done) | (simp_all; done) | omega))⟩, trivial⟩ (by kernel_rfl) (by kernel_rfl) trivial⟩
    ·try simp only [Q, Int.ofNat_lt, Int.ofNat_le] at h4p
     refine sqF ?_
     refine ar ?_
     refine Exists.intro (i + 1) ⟨⟨by omega, upto_succ hg1.2 (row_false (by simp [h1s, h1p, h2s, h2p, h3s, h3p, h4s, h4p]) hg2.2 (fun hj => by omega))⟩, (by omega), Sub.x (by kernel_rfl) (by kernel_rfl) ⟨⟨_, rfl, (LeA.eqi (by first | rfl | (simp; done) | (simp_all; done) | omega))⟩, trivial⟩ (by kernel_rfl) (by kernel_rfl) trivial⟩
  ·try simp only [Q, Int.ofNat_lt, Int.ofNat_le] at h2p
   refine dr ?_
   refine sqF ?_
   refine CWp.loopX (ι := Nat) hk (fun j => [(8, .d (.i (j : Int)))]) [6, 30, 31, 32, 33, 34, 35, 36, 37, 38, 39, 40, 41, 42, 43, 44, 45, 46, 47, 48, 49, 50, 51, 52, 53, 54, 55, 56, 57, 58, 59, 60, 61, 62, 63, 64, 65, 66, 67, 68, 69, 70, 71, 72, 73, 74, 75, 76, 77, 78] (fun j => []) (fun j => j ≤ (nth w i).ctors.length ∧ ∀ j', j' < j → hitTwice w d k i j' = false) (fun j => (nth w i).ctors.length - j) 0 ⟨by omega, fun _ h => absurd h (by omega)⟩ ⟨⟨_, rfl, (LeA.eqi (by first | rfl | (simp; done) | (simp_all; done) | omega))⟩, trivial⟩ trivial (fun x => rfl) (fun j hg2 => ?_)
   have hb := hs.ctors i
   refine evc [] [] ?_
   refine Walk.idx sl27 .none rfl rfl rfl rfl (at_nth (by omega)) rfl ?_
   refine ev ?_
   refine sq (fun h16 h16p h16s => ?_) fun h16 h16p h16s => ?_
   ·try simp only [Q, Int.ofNat_lt, Int.ofNat_le] at h16p
    refine sq (fun h17 h17p h17s => ?_) fun h17 h17p h17s => ?_
    ·try simp only [Q, Int.ofNat_lt, Int.ofNat_le] at h17p
     refine sqT ?_
     refine Walk.idx sl27 .none rfl rfl rfl rfl (at_nth (by omega)) rfl ?_
     refine evd [] [] ?_
     refine sq (fun h19 h19p h19s => ?_) fun h19 h19p h19s => ?_
     ·try simp only [Q, Int.ofNat_lt, Int.ofNat_le] at h19p
      refine Walk.idx sl27 (.some rfl rfl h19) rfl rfl rfl rfl (at_nth (by omega)) rfl ?_
      refine evd [] [(58, true)] ?_ ⟨⟨_, rfl, h19⟩, trivial⟩
      refine Walk.idx sl119 (.some rfl rfl h19) rfl rfl rfl rfl (at_nth (by omega)) rfl ?_
      refine evd [] [(58, true)] ?_ ⟨⟨_, rfl, h19⟩, trivial⟩
      refine Walk.idx sl27 (.some rfl rfl h19) rfl rfl rfl rfl (at_nth (by omega)) rfl ?_
      refine evd [] [(58, true)] ?_ ⟨⟨_, rfl, h19⟩, trivial⟩
      refine Walk.idx sl119 (.some rfl rfl h19) rfl rfl rfl rfl (at_nth (by omega)) rfl ?_
      refine evd [] [(58, true)] ?_ ⟨⟨_, rfl, h19⟩, trivial⟩
      refine dr ?_
      refine sq (fun h20 h20p h20s => ?_) fun h20 h20p h20s => ?_
      ·try simp only [Q, Int.ofNat_lt, Int.ofNat_le] at h20p
       refine rn0 (r1 rfl) (.eqd ?_)
       all_goals ((exfalso; omega))
      ·try simp only [Q, Int.ofNat_lt, Int.ofNat_le] at h20p
       refine ar ?_
       refine Exists.intro (j + 1) ⟨⟨by omega, upto_succ hg2.2 (by simp [hitTwice, h1s, h1p, h2s, h2p, h16s, h16p, h17s, h17p, h19s, h19p, h20s, h20p]; done)⟩, (by omega), Sub.x (by kernel_rfl) (by kernel_rfl) ⟨⟨_, rfl, (LeA.eqi (by first | rfl | (simp; done) | (simp_all; done) | omega))⟩, trivial⟩ (by kernel_rfl) (by kernel_rfl) trivial⟩
     ·try simp only [Q, Int.ofNat_lt, Int.ofNat_le] at h19p
      refine dr ?_
      refine sqF ?_
      refine ar ?_
      refine Exists.intro (j + 1) ⟨⟨by omega, upto_succ hg2.2 (by simp [hitTwice, h1s, h1p, h2s, h2p, h16s, h16p, h17s, h17p, h19s, h19p]; done)⟩, (by omega), Sub.x (by kernel_rfl) (by kernel_rfl) ⟨⟨_, rfl, (LeA.eqi (by first | rfl | (simp; done) | (simp_all; done) | omega))⟩, trivial⟩ (by kernel_rfl) (by kernel_rfl) trivial⟩
    ·try simp only [Q, Int.ofNat_lt, Int.ofNat_le] at h17p
     refine sq (fun h22 h22p h22s => ?_) fun h22 h22p h22s => ?_
     ·try simp only [Q, Int.ofNat_lt, Int.ofNat_le] at h22p
      refine Walk.idx sl27 .none rfl rfl rfl rfl (at_nth (by omega)) rfl ?_
      refine evd [] [] ?_
      refine sq (fun h23 h23p h23s => ?_) fun h23 h23p h23s => ?_
      ·try simp only [Q, Int.ofNat_lt, Int.ofNat_le] at h23p
       refine Walk.idx sl27 (.some rfl rfl h23) rfl rfl rfl rfl (at_nth (by omega)) rfl ?_
       refine evd [] [(58, true)] ?_ ⟨⟨_, rfl, h23⟩, trivial⟩
       refine Walk.idx sl119 (.some rfl rfl h23) rfl rfl rfl rfl (at_nth (by omega)) rfl ?_
       refine evd [] [(58, true)] ?_ ⟨⟨_, rfl, h23⟩, trivial⟩
       refine Walk.idx sl27 (.some rfl rfl h23) rfl rfl rfl rfl (at_nth (by omega)) rfl ?_
       refine evd [] [(58, true)] ?_ ⟨⟨_, rfl, h23⟩, trivial⟩
       refine Walk.idx sl119 (.some rfl rfl h23) rfl rfl rfl rfl (at_nth (by omega)) rfl ?_
       refine evd [] [(58, true)] ?_ ⟨⟨_, rfl, h23⟩, trivial⟩
       refine dr ?_
       refine sq (fun h24 h24p h24s => ?_) fun h24 h24p h24s => ?_
       ·try simp only [Q, Int.ofNat_lt, Int.ofNat_le] at h24p
        refine rn0 (r1 rfl) (.eqd ?_)
        all_goals ((refine congrArg D.bool (any_range_true (i := i) (by omega) ?_).symm; unfold rowTwice; rw [any_range_true (i := j) (by omega) (by simp [hitTwice, h1s, h1p, h2s, h2p, h16s, h16p, h17s, h17p, h22s, h22p, h23s, h23p, h24s, h24p])]; simp; done))
       ·try simp only [Q, Int.ofNat_lt, Int.ofNat_le] at h24p
        refine ar ?_
        refine Exists.intro (j + 1) ⟨⟨by omega, upto_succ hg2.2 (by simp [hitTwice, h1s, h1p, h2s, h2p, h16s, h16p, h17s, h17p, h22s, h22p, h23s, h23p, h24s, h24p]; done)⟩, (by omega), Sub.x (by kernel_rfl) (by kernel_rfl) ⟨⟨_, rfl, (LeA.eqi (by first | rfl | (simp; done) | (simp_all; done) | omega))⟩, trivial⟩ (by kernel_rfl) (by kernel_rfl) trivial⟩
      ·try simp only [Q, Int.ofNat_lt, Int.ofNat_le] at h23p
       refine dr ?_
       refine sqF ?_
       refine ar ?_
       refine Exists.intro (j + 1) ⟨⟨by omega, upto_succ hg2.2 (by simp [hitTwice, h1s, h1p, h2s, h2p, h16s, h16p, h17s, h17p, h22s, h22p, h23s, h23p]; done)⟩, (by omega), Sub.x (by kernel_rfl) (by kernel_rfl) ⟨⟨_, rfl, (LeA.eqi (by first | rfl | (simp; done) | (simp_all; done) | omega))⟩, trivial⟩ (by kernel_rfl) (by kernel_rfl) trivial⟩
     ·try simp only [Q, Int.ofNat_lt, Int.ofNat_le] at h22p
      refine ar ?_
      refine Exists.intro (i + 1) ⟨⟨by omega, upto_succ hg1.2 (row_false (by simp [h1s, h1p, h2s, h2p, h16s, h16p, h17s, h17p, h22s, h22p]) hg2.2 (fun hj => by omega))⟩, (by omega), Sub.x (by kernel_rfl) (by kernel_rfl) ⟨⟨_, rfl, (LeA.eqi (by first | rfl | (simp; done) | (simp_all; done) | omega))⟩, trivial⟩ (by kernel_rfl) (by kernel_rfl) trivial⟩
   ·try simp only [Q, Int.ofNat_lt, Int.ofNat_le] at h16p
    refine sqF ?_
    refine ar ?_
    refine Exists.intro (i + 1) ⟨⟨by omega, upto_succ hg1.2 (row_false (by simp [h1s, h1p, h2s, h2p, h16s, h16p]) hg2.2 (fun hj => by omega))⟩, (by omega), Sub.x (by kernel_rfl) (by kernel_rfl) ⟨⟨_, rfl, (LeA.eqi (by first | rfl | (simp; done) | (simp_all; done) | omega))⟩, trivial⟩ (by kernel_rfl) (by kernel_rfl) trivial⟩
 ·try simp only [Q, Int.ofNat_lt, Int.ofNat_le] at h1p
  refine rn0 (r1 rfl) (.eqd ?_)
  all_goals ((refine congrArg D.bool (any_range_false (fun x hx => hg1.2 x (Nat.lt_of_lt_of_le hx ?_))).symm; omega))
theorem wvs_true {w : List Data} (h : w.length ≤ 4) (h2 : ∀ i, i < w.length → specData w i = true) : specWorldValid w = true := by
 unfold specWorldValid; rw [all_range_true h2]; simp [h]
theorem wvs_len {w : List Data} (h : 4 < w.length) : specWorldValid w = false := by
 unfold specWorldValid; rw [decide_eq_false (by omega)]; rfl
theorem wvs_false {w : List Data} {i : Nat} (h : i < w.length) (h2 : specData w i = false) : specWorldValid w = false := by
 unfold specWorldValid; rw [all_range_false h h2]; simp
theorem specData_true {w : List Data} {d : Nat} (h : dataNameOk (nth w d).name = true) (h1 : 1 ≤ (nth w d).ctors.length) (h2 : (nth w d).ctors.length ≤ 4) (h3 : ∀ k, k < (nth w d).ctors.length → specCtors w d k = true) : specData w d = true := by
 unfold specData; rw [h, all_range_true h3]; simp [h1, h2]
theorem spec_WorldValid_fn {w : List Data} (hs : WSmall w) : FnD Tryz.prog 72 [.d (encDatas w)] [] (.d (.bool (specWorldValid w))) [] := by
 have hw := hs.len
 refine bd Tryz.f72 67 [] [] fun w0 F0 own kept hk => ?_
 refine sq (fun h1 h1p h1s => ?_) fun h1 h1p h1s => ?_
 ·try simp only [Q, Int.ofNat_lt, Int.ofNat_le] at h1p
  refine rn0 (r1 rfl) (.eqd ?_)
  all_goals ((refine congrArg D.bool (wvs_len ?_).symm; omega))
 ·try simp only [Q, Int.ofNat_lt, Int.ofNat_le] at h1p
  refine CWp.loopX (ι := Nat) hk (fun i => [(3, .d (.i (i : Int)))]) [2, 4, 8, 9, 10, 11, 12, 13, 14, 15, 16, 17, 18, 19, 20, 21, 22, 23, 24, 25, 26, 27, 28, 29, 30, 31, 32, 33, 34, 35, 36, 37, 38, 39, 40, 41, 42, 43, 44, 45, 46, 47, 48, 49, 50, 51, 52, 53, 54, 55, 56, 57, 58, 59, 60, 61, 62, 63, 64, 65, 66] (fun i => []) (fun i => i ≤ w.length ∧ ∀ i', i' < i → specData w i' = true) (fun i => w.length - i) 0 ⟨by omega, fun _ h => absurd h (by omega)⟩ ⟨⟨_, rfl, (LeA.eqi (by first | rfl | (simp; done) | (simp_all; done) | omega))⟩, trivial⟩ trivial (fun x => rfl) (fun i hg1 => ?_)
  refine evc [] [] ?_
  refine sq (fun h2 h2p h2s => ?_) fun h2 h2p h2s => ?_
  ·try simp only [Q, Int.ofNat_lt, Int.ofNat_le] at h2p
   refine Walk.idx sl27 .none rfl rfl rfl rfl (at_nth (by omega)) rfl ?_
   refine ev ?_
   refine Walk.call (cr := []) cal128 (spec_l1Data_fn (hs.data _ (nth_mem (by omega))).1) rfl .none rfl rfl (LeL.refl _) trivial rfl rfl rfl ?_
   refine ev ?_
   refine sq (fun h3 h3p h3s => ?_) fun h3 h3p h3s => ?_
   ·try simp only [Q, Int.ofNat_lt, Int.ofNat_le] at h3p
    refine sqT ?_
    refine sqT ?_
    refine rn0 (r1 rfl) (.eqd ?_)
    all_goals ((refine congrArg D.bool (wvs_false (i := i) (by omega) ?_).symm; simp [specData, h1s, h1p, h2s, h2p, h3s, h3p]; done))
   ·try simp only [Q, Int.ofNat_lt, Int.ofNat_le] at h3p
    refine Walk.idx sl27 (.some rfl rfl h3) rfl rfl rfl rfl (at_nth (by omega)) rfl ?_
    refine evs [] [(21, false)] ?_ ⟨⟨_, rfl, h3⟩, trivial⟩
    refine sq (fun h5 h5p h5s => ?_) fun h5 h5p h5s => ?_
    ·try simp only [Q, Int.ofNat_lt, Int.ofNat_le] at h5p
     refine sqT ?_
     refine rn0 (r1 rfl) (.eqd ?_)
     all_goals ((refine congrArg D.bool (wvs_false (i := i) (by omega) ?_).symm; unfold specData; rw [decide_eq_false (p := 1 ≤ (nth w i).ctors.length) (by omega)]; simp; done))
    ·try simp only [Q, Int.ofNat_lt, Int.ofNat_le] at h5p
     refine Walk.idx sl27 (.some rfl rfl h5) rfl rfl rfl rfl (at_nth (by omega)) rfl ?_
     refine evs [] [(30, false)] ?_ ⟨⟨_, rfl, h5⟩, trivial⟩
     refine sq (fun h7 h7p h7s => ?_) fun h7 h7p h7s => ?_
     ·try simp only [Q, Int.ofNat_lt, Int.ofNat_le] at h7p
      refine rn0 (r1 rfl) (.eqd ?_)
      all_goals ((refine congrArg D.bool (wvs_false (i := i) (by omega) ?_).symm; unfold specData; rw [decide_eq_false (p := (nth w i).ctors.length ≤ 4) (by omega)]; simp; done))
     ·try simp only [Q, Int.ofNat_lt, Int.ofNat_le] at h7p
      refine CWp.loopX (ι := Nat) hk (fun k => [(4, .d (.i (k : Int)))]) [2, 39, 40, 41, 42, 43, 44, 45, 46, 47, 48, 49, 50, 51, 52, 53, 54, 55, 56, 57, 58, 59, 60, 61, 62, 63, 64, 65, 66] (fun k => []) (fun k => k ≤ (nth w i).ctors.length ∧ ∀ k', k' < k → specCtors w i k' = true) (fun k => (nth w i).ctors.length - k) 0 ⟨by omega, fun _ h => absurd h (by omega)⟩ ⟨⟨_, rfl, (LeA.eqi (by first | rfl | (simp; done) | (simp_all; done) | omega))⟩, trivial⟩ trivial (fun x => rfl) (fun k hg2 => ?_)
      have hb := hs.ctors i
      refine evc [] [] ?_
      refine Walk.idx sl27 .none rfl rfl rfl rfl (at_nth (by omega)) rfl ?_
      refine ev ?_
      refine sq (fun h8 h8p h8s => ?_) fun h8 h8p h8s => ?_
      ·try simp only [Q, Int.ofNat_lt, Int.ofNat_le] at h8p
       refine Walk.idx sl27 .none rfl rfl rfl rfl (at_nth (by omega)) rfl ?_
       refine ev ?_
       refine Walk.idx sl119 .none rfl rfl rfl rfl (at_nth (by omega)) rfl ?_
       refine ev ?_
       refine Walk.call (cr := []) cal129 (spec_l1Ctor_fn (hs.ctor _ (nth_mem (i := i) (by omega)) _ (nth_mem (i := k) (by omega))).1 (hs.ctor _ (nth_mem (i := i) (by omega)) _ (nth_mem (i := k) (by omega))).2) rfl .none rfl rfl (LeL.refl _) trivial rfl rfl rfl ?_
       refine ev ?_
       refine sq (fun h9 h9p h9s => ?_) fun h9 h9p h9s => ?_
       ·try simp only [Q, Int.ofNat_lt, Int.ofNat_le] at h9p
        refine sqT ?_
        refine rn0 (r1 rfl) (.eqd ?_)
        all_goals ((refine congrArg D.bool (wvs_false (i := i) (by omega) ?_).symm; unfold specData; rw [all_range_false (i := k) (by omega) (by simp [specCtors, Ctor.eta, h1s, h1p, h2s, h2p, h3s, h3p, h5s, h5p, h7s, h7p, h8s, h8p, h9s, h9p])]; simp; done))
       ·try simp only [Q, Int.ofNat_lt, Int.ofNat_le] at h9p
        refine Walk.call (cr := []) cal130 (spec_l1Twice_fn hs (by omega)) rfl (.some rfl rfl h9) rfl rfl (LeL.refl _) trivial rfl rfl rfl ?_
        refine evs [] [(61, false)] ?_ ⟨⟨_, rfl, h9⟩, trivial⟩
        refine sq (fun h11 h11p h11s => ?_) fun h11 h11p h11s => ?_
        ·try simp only [Q, Int.ofNat_lt, Int.ofNat_le] at h11p
         refine rn0 (r1 rfl) (.eqd ?_)
         all_goals ((refine congrArg D.bool (wvs_false (i := i) (by omega) ?_).symm; unfold specData; rw [all_range_false (i := k) (by omega) (by simp [specCtors, Ctor.eta, h1s, h1p, h2s, h2p, h3s, h3p, h5s, h5p, h7s, h7p, h8s, h8p, h9s, h9p, h11s, h11p])]; simp; done))
        ·try simp only [Q, Int.ofNat_lt, Int.ofNat_le] at h11p
         refine ar ?_
         refine Exists.intro (k + 1) ⟨⟨by omega, upto_succ hg2.2 (by simp [specCtors, Ctor.eta, h1s, h1p, h2s, h2p, h3s, h3p, h5s, h5p, h7s, h7p, h8s, h8p, h9s, h9p, h11s, h11p]; done)⟩, (by omega), Sub.x (by kernel_rfl) (by kernel_rfl) ⟨⟨_, rfl, (LeA.eqi (by first | rfl | (simp; done) | (simp_all; done) | omega))⟩, trivial⟩ (by kernel_rfl) (by kernel_rfl) trivial⟩
      ·try simp only [Q, Int.ofNat_lt, Int.ofNat_le] at h8p
       refine ar ?_
       refine Exists.intro (i + 1) ⟨⟨by omega, upto_succ hg1.2 (specData_true (by simp [h1s, h1p, h2s, h2p, h3s, h3p, h5s, h5p, h7s, h7p, h8s, h8p]) (by omega) (by omega) (fun x hx => hg2.2 x (by omega)))⟩, (by omega), Sub.x (by kernel_rfl) (by kernel_rfl) ⟨⟨_, rfl, (LeA.eqi (by first | rfl | (simp; done) | (simp_all; done) | omega))⟩, trivial⟩ (by kernel_rfl) (by kernel_rfl) trivial⟩
  ·try simp only [Q, Int.ofNat_lt, Int.ofNat_le] at h2p
   refine rn0 (r1 rfl) (.eqd ?_)
   all_goals ((refine congrArg D.bool (wvs_true ?_ (fun x hx => hg1.2 x (Nat.lt_of_lt_of_le hx ?_))).symm <;> omega))
structure CSmall (l : List Ctor) : Prop where
 len : l.length ≤ 1000000000000
 ctor : ∀ c ∈ l, c.name.length ≤ 1000000000000 ∧ c.args.length ≤ 1000000000000
theorem WSmall.cs {w : List Data} (h : WSmall w) {d : Data} (hd : d ∈ w) : CSmall d.ctors := ⟨(h.data d hd).2, h.ctor d hd⟩
def fits (c : Ctor) (k : Int) : Bool := decide (k = 0) || (decide (c.index = 0) || decide (c.index = k))
def ctorsFrom (k : Int) : Nat → List Ctor → List Int
 | _, [] => []
 | i, c :: r => if fits c k then (i : Int) :: ctorsFrom k (i + 1) r else ctorsFrom k (i + 1) r
def argTy (k : Int) (t : Ty) : Ty := if t.index = -1 then ⟨t.data, k⟩ else t
def resIx (c : Ctor) (k : Int) : Int := if c.index = 0 then k else c.index
theorem ctorsFrom_len (k : Int) : ∀ (l : List Ctor) (i : Nat), (ctorsFrom k i l).length ≤ l.length
 | [], _ => by simp [ctorsFrom]
 | c :: r, i => by
  have := ctorsFrom_len k r (i + 1)
  unfold ctorsFrom; split <;> simp <;> omega
theorem impl_ctorsOf_int_fn {w : List Data} {k : Int} : FnD Tryz.prog 170 [.d (encDatas w), .agg [.d (.i (-1)), .d (.i k)]] [] (.d (encInts [])) [] := by
 refine bd Tryz.f170 44 [5] [] fun w0 F0 own kept hk => ?_
 refine Walk.box (id := 3003) .none rfl rfl rfl rfl rfl rfl rfl ?_
 refine evs [5] [] ?_
 refine Walk.assignNil 1 1 .none rfl rfl ?_
 refine tv ?_
 refine sq (fun h1 h1p h1s => ?_) fun h1 h1p h1s => ?_
 ·try simp only [Q] at h1p
  exact absurd h1 (by simp) --stop
 ·try simp only [Q] at h1p
  --
  refine rn0 (r1 rfl) (.gld ?_)
  all_goals (first | rfl | (simp [h1s, h1p]; done) | (simp_all; done) | (simp_all; omega) | omega)
theorem impl_ctorsOf_fn {w : List Data} {d : Nat} {k : Int} (hs : WSmall w) (hd : d < w.length) : FnD Tryz.prog 170 [.d (encDatas w), .agg [.d (.i d), .d (.i k)]] [] (.d (encInts (ctorsFrom k 0 (nth w d).ctors))) [] := by
 have hb := hs.ctors d
 refine bd Tryz.f170 44 [5] [] fun w0 F0 own kept hk => ?_
 refine Walk.box (id := 3003) .none rfl rfl rfl rfl rfl rfl rfl ?_
 refine evs [5] [] ?_
 refine Walk.assignNil 1 1 .none rfl rfl ?_
 refine tv ?_
 refine sq (fun h1 h1p h1s => ?_) fun h1 h1p h1s => ?_
 ·try simp only [Q] at h1p
  refine Walk.idx sl27 .none rfl rfl rfl rfl (at_nth hd) rfl ?_
  refine evs [5] [] ?_
  refine CWp.loopX (ι := List (Ctor) × List (Ctor) × (List Int)) hk (fun x => [(18, .d (.i (x.1.length : Int))), (5, .gl 1 (x.2.2.map fun n => [D.i n]))]) [6, 7, 19, 20, 21, 22, 23, 24, 25, 26, 27, 28, 29, 30, 31, 32, 33, 34, 35, 36, 37, 38, 39, 40, 41, 42] (fun x => [(1, some (.tok ((x.2.2.map fun n => [D.i n])).length 1))]) (fun x => x.1 ++ x.2.1 = (nth w d).ctors ∧ x.2.2 ++ ctorsFrom k x.1.length x.2.1 = ctorsFrom k 0 (nth w d).ctors ∧ x.2.2.length ≤ x.1.length) (fun x => x.2.1.length) ([], (nth w d).ctors, []) ⟨by simp, by simp, by simp⟩ ⟨⟨_, rfl, (LeA.eqi (by first | rfl | (simp; done) | (simp [fits, hk]; done)))⟩, ⟨⟨_, rfl, (LeA.glg (by first | rfl | (simp; done) | (simp [fits, hk]; done)))⟩, trivial⟩⟩ ⟨beq_nat_eq (by first | rfl | (simp; done) | (simp; omega) | (first | rfl | (simp; done) | (simp [fits, hk]; done))), trivial⟩ (fun x => rfl) (fun x hg1 => ?_)
  obtain ⟨pre, rest, acc⟩ := x
  dsimp only at hg1 ⊢
  refine evc [5] [] ?_
  refine sq (fun h2 h2p h2s => ?_) fun h2 h2p h2s => ?_
  ·try simp only [Q] at h2p
   rcases rest with _ | ⟨y, rest⟩
   ·exfalso; simp_all
   refine Walk.idx sl119 .none rfl rfl rfl rfl (zip_at hg1.1) rfl ?_
   refine evs [5] [] ?_
   refine Walk.alloc (id := 3007) tz184 rfl .none rfl rfl rfl rfl ?_
   refine evs [5] [] ?_
   refine Walk.store ty184 .none rfl rfl rfl rfl rfl rfl (by simp) rfl ?_
   refine tv ?_
   refine sq (fun h3 h3p h3s => ?_) fun h3 h3p h3s => ?_
   ·try simp only [Q] at h3p
    refine sqT ?_
    refine sqT ?_
    refine Walk.sliceLit sl54 tz3 rfl (by decide) (ks := [0]) (xs := [_]) rfl rfl (by decide) (by decide) .none rfl rfl rfl rfl ?_
    refine Walk.append sl54 zz3 rfl .none rfl rfl rfl rfl (htokL rfl (by first | rfl | (simp; done) | (simp; omega))) (by simp) (by have hl := hg1.2.2; simp; omega) (by have hl := hg1.2.2; simp; omega) ?_
    refine asg ?_
    refine tv ?_
    refine ar ?_
    refine Exists.intro ((pre ++ [y], rest, if fits y k then acc ++ [(pre.length : Int)] else acc)) ⟨⟨(by have hz := hg1.1; rw [← hz]; simp), ⟨by rw [← hg1.2.1]; by_cases hf : fits y k = true <;> simp [ctorsFrom, hf], by split <;> simp <;> omega⟩⟩, (by simp), Sub.x (by kernel_rfl) (by kernel_rfl) ⟨⟨_, rfl, (LeA.eqi (by first | rfl | (simp; done) | (simp [fits, h1s, h1p, h2s, h2p, h3s, h3p]; done)))⟩, ⟨⟨_, rfl, (LeA.glg (by first | rfl | (simp; done) | (simp [fits, h1s, h1p, h2s, h2p, h3s, h3p]; done)))⟩, trivial⟩⟩ (by kernel_rfl) (by kernel_rfl) ⟨beq_nat_eq (by first | rfl | (simp; done) | (simp; omega) | (first | rfl | (simp; done) | (simp [fits, h1s, h1p, h2s, h2p, h3s, h3p]; done))), trivial⟩⟩
   ·try simp only [Q] at h3p
    refine sq (fun h5 h5p h5s => ?_) fun h5 h5p h5s => ?_
    ·try simp only [Q] at h5p
     refine sqT ?_
     refine Walk.sliceLit sl54 tz3 rfl (by decide) (ks := [0]) (xs := [_]) rfl rfl (by decide) (by decide) .none rfl rfl rfl rfl ?_
     refine Walk.append sl54 zz3 rfl .none rfl rfl rfl rfl (htokL rfl (by first | rfl | (simp; done) | (simp; omega))) (by simp) (by have hl := hg1.2.2; simp; omega) (by have hl := hg1.2.2; simp; omega) ?_
     refine asg ?_
     refine tv ?_
     refine ar ?_
     refine Exists.intro ((pre ++ [y], rest, if fits y k then acc ++ [(pre.length : Int)] else acc)) ⟨⟨(by have hz := hg1.1; rw [← hz]; simp), ⟨by rw [← hg1.2.1]; by_cases hf : fits y k = true <;> simp [ctorsFrom, hf], by split <;> simp <;> omega⟩⟩, (by simp), Sub.x (by kernel_rfl) (by kernel_rfl) ⟨⟨_, rfl, (LeA.eqi (by first | rfl | (simp; done) | (simp [fits, h1s, h1p, h2s, h2p, h3s, h3p, h5s, h5p]; done)))⟩, ⟨⟨_, rfl, (LeA.glg (by first | rfl | (simp; done) | (simp [fits, h1s, h1p, h2s, h2p, h3s, h3p, h5s, h5p]; done)))⟩, trivial⟩⟩ (by kernel_rfl) (by kernel_rfl) ⟨beq_nat_eq (by first | rfl | (simp; done) | (simp; omega) | (first | rfl | (simp; done) | (simp [fits, h1s, h1p, h2s, h2p, h3s, h3p, h5s, h5p]; done))), trivial⟩⟩
    ·try simp only [Q] at h5p
     refine sq (fun h7 h7p h7s => ?_) fun h7 h7p h7s => ?_
     ·try simp only [Q] at h7p
      refine Walk.sliceLit sl54 tz3 rfl (by decide) (ks := [0]) (xs := [_]) rfl rfl (by decide) (by decide) .none rfl rfl rfl rfl ?_
      refine Walk.append sl54 zz3 rfl .none rfl rfl rfl rfl (htokL rfl (by first | rfl | (simp; done) | (simp; omega))) (by simp) (by have hl := hg1.2.2; simp; omega) (by have hl := hg1.2.2; simp; omega) ?_
      refine asg ?_
      refine tv ?_
      refine ar ?_
      refine Exists.intro ((pre ++ [y], rest, if fits y k then acc ++ [(pre.length : Int)] else acc)) ⟨⟨(by have hz := hg1.1; rw [← hz]; simp), ⟨by rw [← hg1.2.1]; by_cases hf : fits y k = true <;> simp [ctorsFrom, hf], by split <;> simp <;> omega⟩⟩, (by simp), Sub.x (by kernel_rfl) (by kernel_rfl) ⟨⟨_, rfl, (LeA.eqi (by first | rfl | (simp; done) | (simp [fits, h1s, h1p, h2s, h2p, h3s, h3p, h5s, h5p, h7s, h7p]; done)))⟩, ⟨⟨_, rfl, (LeA.glg (by first | rfl | (simp; done) | (simp [fits, h1s, h1p, h2s, h2p, h3s, h3p, h5s, h5p, h7s, h7p]; done)))⟩, trivial⟩⟩ (by kernel_rfl) (by kernel_rfl) ⟨beq_nat_eq (by first | rfl | (simp; done) | (simp; omega) | (first | rfl | (simp; done) | (simp [fits, h1s, h1p, h2s, h2p, h3s, h3p, h5s, h5p, h7s, h7p]; done))), trivial⟩⟩
     ·try simp only [Q] at h7p
      refine ar ?_
      refine Exists.intro ((pre ++ [y], rest, if fits y k then acc ++ [(pre.length : Int)] else acc)) ⟨⟨(by have hz := hg1.1; rw [← hz]; simp), ⟨by rw [← hg1.2.1]; by_cases hf : fits y k = true <;> simp [ctorsFrom, hf], by split <;> simp <;> omega⟩⟩, (by simp), Sub.x (by kernel_rfl) (by kernel_rfl) ⟨⟨_, rfl, (LeA.eqi (by first | rfl | (simp; done) | (simp [fits, h1s, h1p, h2s, h2p, h3s, h3p, h5s, h5p, h7s, h7p]; done)))⟩, ⟨⟨_, rfl, (LeA.glg (by first | rfl | (simp; done) | (simp [fits, h1s, h1p, h2s, h2p, h3s, h3p, h5s, h5p, h7s, h7p]; done)))⟩, trivial⟩⟩ (by kernel_rfl) (by kernel_rfl) ⟨beq_nat_eq (by first | rfl | (simp; done) | (simp; omega) | (first | rfl | (simp; done) | (simp [fits, h1s, h1p, h2s, h2p, h3s, h3p, h5s, h5p, h7s, h7p]; done))), trivial⟩⟩
  ·try simp only [Q] at h2p
   have hrest : rest = [] := by
    rcases rest with _ | ⟨a, b⟩
    ·rfl
    ·exfalso; have hz := congrArg List.length (hg1.1); simp only [List.length_append, List.length_cons, List.length_map] at hz; omega
   subst hrest
   refine rn0 (r1 rfl) (.gld ?_)
   all_goals (have e := hg1.2.1; simp only [ctorsFrom, List.append_nil] at e; rw [e])
 ·try simp only [Q] at h1p
  exfalso; simp at h1 <;> omega --stop
theorem spec_l1Fits_fn {s : Str} {l : List Ty} {i k : Int} : FnD Tryz.prog 236 [.agg [.d (.str s), .d (encTys l), .d (.i i)], .d (.i k)] [] (.d (.bool (fits ⟨s, l, i⟩ k))) [] := by
 refine bd Tryz.f236 18 [] [] fun w0 F0 own kept hk => ?_
 refine Walk.box (id := 3002) .none rfl rfl rfl rfl rfl rfl rfl ?_
 refine ev ?_
 refine sq (fun h1 h1p h1s => ?_) fun h1 h1p h1s => ?_
 ·try simp only [Q] at h1p
  refine sqT ?_
  refine rn0 (r1 rfl) (.eqd ?_)
  all_goals (refine congrArg D.bool ?_; simp [fits, h1s, h1p])
 ·try simp only [Q] at h1p
  refine sq (fun h2 h2p h2s => ?_) fun h2 h2p h2s => ?_
  ·try simp only [Q] at h2p
   refine rn0 (r1 rfl) (.eqd ?_)
   all_goals (refine congrArg D.bool ?_; simp [fits, h1s, h1p, h2s, h2p])
  ·try simp only [Q] at h2p
   refine rn0 (r1 rfl) (.eqd ?_)
   all_goals (refine congrArg D.bool ?_; simp [fits, h1s, h1p, h2s, h2p])
theorem spec_l1Ctors_int_fn {w : List Data} {k : Int} : FnD Tryz.prog 164 [.d (encDatas w), .agg [.d (.i (-1)), .d (.i k)]] [] (.d (encInts [])) [] := by
 refine bd Tryz.f164 40 [] [] fun w0 F0 own kept hk => ?_
 refine Walk.box (id := 3003) .none rfl rfl rfl rfl rfl rfl rfl ?_
 refine ev ?_
 refine Walk.sliceEmptyG 1 sl54 .none rfl rfl ?_
 refine ev ?_
 refine sq (fun h1 h1p h1s => ?_) fun h1 h1p h1s => ?_
 ·try simp only [Q] at h1p
  --
  refine rn0 (r1 rfl) (.gld ?_)
  all_goals (first | rfl | (simp [h1s, h1p]; done) | (simp_all; done) | (simp_all; omega) | omega)
 ·try simp only [Q] at h1p
  exact absurd h1 (by simp) --stop
theorem spec_l1Ctors_fn {w : List Data} {d : Nat} {k : Int} (hs : WSmall w) (hd : d < w.length) : FnD Tryz.prog 164 [.d (encDatas w), .agg [.d (.i d), .d (.i k)]] [] (.d (encInts (ctorsFrom k 0 (nth w d).ctors))) [] := by
 have hb := hs.ctors d
 refine bd Tryz.f164 40 [] [] fun w0 F0 own kept hk => ?_
 refine Walk.box (id := 3003) .none rfl rfl rfl rfl rfl rfl rfl ?_
 refine ev ?_
 refine Walk.sliceEmptyG 1 sl54 .none rfl rfl ?_
 refine ev ?_
 refine sq (fun h1 h1p h1s => ?_) fun h1 h1p h1s => ?_
 ·try simp only [Q] at h1p
  exfalso; simp at h1 <;> omega --stop
 ·try simp only [Q] at h1p
  refine CWp.loopX (ι := List (Ctor) × List (Ctor) × (List Int)) hk (fun x => [(6, .d (.i (x.1.length : Int))), (5, .gl 1 (x.2.2.map fun n => [D.i n]))]) [12, 13, 14, 15, 16, 17, 18, 19, 20, 21, 22, 23, 24, 25, 26, 27, 28, 29, 30, 31, 32, 33, 34, 35, 36, 37, 38] (fun x => [(1, some (.tok ((x.2.2.map fun n => [D.i n])).length 1))]) (fun x => x.1 ++ x.2.1 = (nth w d).ctors ∧ x.2.2 ++ ctorsFrom k x.1.length x.2.1 = ctorsFrom k 0 (nth w d).ctors ∧ x.2.2.length ≤ x.1.length) (fun x => x.2.1.length) ([], (nth w d).ctors, []) ⟨by simp, by simp, by simp⟩ ⟨⟨_, rfl, (LeA.eqi (by first | rfl | (simp; done) | (simp [Ctor.eta, hk]; done) | (simp only [Ctor.eta] at *; simp [*]; done)))⟩, ⟨⟨_, rfl, (LeA.glg (by first | rfl | (simp; done) | (simp [Ctor.eta, hk]; done) | (simp only [Ctor.eta] at *; simp [*]; done)))⟩, trivial⟩⟩ ⟨beq_nat_eq (by first | rfl | (simp; done) | (simp; omega) | (first | rfl | (simp; done) | (simp [Ctor.eta, hk]; done) | (simp only [Ctor.eta] at *; simp [*]; done))), trivial⟩ (fun x => rfl) (fun x hg1 => ?_)
  obtain ⟨pre, rest, acc⟩ := x
  dsimp only at hg1 ⊢
  refine evc [] [] ?_
  refine Walk.idx sl27 .none rfl rfl rfl rfl (at_nth hd) rfl ?_
  refine ev ?_
  refine sq (fun h2 h2p h2s => ?_) fun h2 h2p h2s => ?_
  ·try simp only [Q] at h2p
   rcases rest with _ | ⟨y, rest⟩
   ·exfalso; simp_all
   refine Walk.idx sl27 .none rfl rfl rfl rfl (at_nth hd) rfl ?_
   refine evd [] [] ?_
   refine Walk.idx sl119 .none rfl rfl rfl rfl (zip_at hg1.1) rfl ?_
   refine evd [] [] ?_
   refine Walk.call (cr := []) cal236 (spec_l1Fits_fn) rfl .none rfl rfl (LeL.refl _) trivial rfl rfl rfl ?_
   refine dr ?_
   refine sq (fun h3 h3p h3s => ?_) fun h3 h3p h3s => ?_
   ·try simp only [Q] at h3p
    refine Walk.sliceLit sl54 tz3 rfl (by decide) (ks := [0]) (xs := [_]) rfl rfl (by decide) (by decide) .none rfl rfl rfl rfl ?_
    refine Walk.append sl54 zz3 rfl .none rfl rfl rfl rfl (htokL rfl (by first | rfl | (simp; done) | (simp; omega))) (by simp) (by have hl := hg1.2.2; simp; omega) (by have hl := hg1.2.2; simp; omega) ?_
    refine ev ?_
    refine ar ?_
    refine Exists.intro ((pre ++ [y], rest, if fits y k then acc ++ [(pre.length : Int)] else acc)) ⟨⟨(by have hz := hg1.1; rw [← hz]; simp), ⟨by rw [← hg1.2.1]; by_cases hf : fits y k = true <;> simp [ctorsFrom, hf], by split <;> simp <;> omega⟩⟩, (by simp), Sub.x (by kernel_rfl) (by kernel_rfl) ⟨⟨_, rfl, (LeA.eqi (by first | rfl | (simp; done) | (simp [Ctor.eta, h1s, h1p, h2s, h2p, h3s, h3p]; done) | (simp only [Ctor.eta] at *; simp [*]; done)))⟩, ⟨⟨_, rfl, (LeA.glg (by first | rfl | (simp; done) | (simp [Ctor.eta, h1s, h1p, h2s, h2p, h3s, h3p]; done) | (simp only [Ctor.eta] at *; simp [*]; done)))⟩, trivial⟩⟩ (by kernel_rfl) (by kernel_rfl) ⟨beq_nat_eq (by first | rfl | (simp; done) | (simp; omega) | (first | rfl | (simp; done) | (simp [Ctor.eta, h1s, h1p, h2s, h2p, h3s, h3p]; done) | (simp only [Ctor.eta] at *; simp [*]; done))), trivial⟩⟩
   ·try simp only [Q] at h3p
    refine ar ?_
    refine Exists.intro ((pre ++ [y], rest, if fits y k then acc ++ [(pre.length : Int)] else acc)) ⟨⟨(by have hz := hg1.1; rw [← hz]; simp), ⟨by rw [← hg1.2.1]; by_cases hf : fits y k = true <;> simp [ctorsFrom, hf], by split <;> simp <;> omega⟩⟩, (by simp), Sub.x (by kernel_rfl) (by kernel_rfl) ⟨⟨_, rfl, (LeA.eqi (by first | rfl | (simp; done) | (simp [Ctor.eta, h1s, h1p, h2s, h2p, h3s, h3p]; done) | (simp only [Ctor.eta] at *; simp [*]; done)))⟩, ⟨⟨_, rfl, (LeA.glg (by first | rfl | (simp; done) | (simp [Ctor.eta, h1s, h1p, h2s, h2p, h3s, h3p]; done) | (simp only [Ctor.eta] at *; simp [*]; done)))⟩, trivial⟩⟩ (by kernel_rfl) (by kernel_rfl) ⟨beq_nat_eq (by first | rfl | (simp; done) | (simp; omega) | (first | rfl | (simp; done) | (simp [Ctor.eta, h1s, h1p, h2s, h2p, h3s, h3p]; done) | (simp only [Ctor.eta] at *; simp [*]; done))), trivial⟩⟩
  ·try simp only [Q] at h2p
   have hrest : rest = [] := by
    rcases rest with _ | ⟨a, b⟩
    ·rfl
    ·exfalso; have hz := congrArg List.length (hg1.1); simp only [List.length_append, List.length_cons, List.length_map] at hz; omega
   subst hrest
   refine rn0 (r1 rfl) (.gld ?_)
   all_goals (have e := hg1.2.1; simp only [ctorsFrom, List.append_nil] at e; rw [e])
theorem spec_l1Result_fn {s : Str} {l : List Ty} {i k : Int} : FnD Tryz.prog 225 [.agg [.d (.str s), .d (encTys l), .d (.i i)], .d (.i k)] [] (.d (.i (resIx ⟨s, l, i⟩ k))) [] := by
 refine bd Tryz.f225 11 [] [] fun w0 F0 own kept hk => ?_
 refine Walk.box (id := 3002) .none rfl rfl rfl rfl rfl rfl rfl ?_
 refine ev ?_
 refine sq (fun h1 h1p h1s => ?_) fun h1 h1p h1s => ?_
 ·try simp only [Q] at h1p
  refine rn0 (r1 rfl) (.eqd ?_)
  all_goals (refine congrArg D.i ?_; simp [resIx, h1s, h1p])
 ·try simp only [Q] at h1p
  refine rn0 (r1 rfl) (.eqd ?_)
  all_goals (refine congrArg D.i ?_; simp [resIx, h1s, h1p])
theorem impl_argTypes_fn {w : List Data} {d c : Nat} {k : Int} (hs : WSmall w) (hd : d < w.length) (hc : c < (nth w d).ctors.length) : FnD Tryz.prog 171 [.d (encDatas w), .agg [.d (.i d), .d (.i k)], .d (.i c)] [] (.d (encTys ((nth (nth w d).ctors c).args.map (argTy (resIx (nth (nth w d).ctors c) k))))) [] := by
 have hb := (hs.ctor _ (nth_mem hd) _ (nth_mem hc)).2
 refine bd Tryz.f171 45 [9] [] fun w0 F0 own kept hk => ?_
 refine Walk.box (id := 3004) .none rfl rfl rfl rfl rfl rfl rfl ?_
 refine evs [9] [] ?_
 refine Walk.idx sl27 .none rfl rfl rfl rfl (at_nth hd) rfl ?_
 refine evs [9] [] ?_
 refine Walk.idx sl119 .none rfl rfl rfl rfl (at_nth hc) rfl ?_
 refine evs [9] [] ?_
 refine Walk.alloc (id := 3007) tz184 rfl .none rfl rfl rfl rfl ?_
 refine Walk.store ty184 .none rfl rfl rfl rfl rfl rfl (by simp) rfl ?_
 refine tv ?_
 refine sq (fun h1 h1p h1s => ?_) fun h1 h1p h1s => ?_
 ·try simp only [Q] at h1p
  refine Walk.assignNil 1 2 .none rfl rfl ?_
  refine tv ?_
  refine CWp.loopX (ι := List (Ty) × List (Ty)) hk (fun x => [(30, .d (.i (x.1.length : Int))), (9, .gl 1 ((x.1.map (argTy (resIx (nth (nth w d).ctors c) k))).map Ty.c))]) [11, 31, 32, 33, 34, 35, 36, 37, 38, 39, 40, 41, 42, 43] (fun x => [(1, some (.tok (((x.1.map (argTy (resIx (nth (nth w d).ctors c) k))).map Ty.c)).length 2))]) (fun x => x.1 ++ x.2 = (nth (nth w d).ctors c).args) (fun x => x.2.length) ([], (nth (nth w d).ctors c).args) (by simp) ⟨⟨_, rfl, (LeA.eqi (by first | rfl | (simp; done) | (simp [argTy, resIx, hk]; done)))⟩, ⟨⟨_, rfl, (LeA.glg (by first | rfl | (simp; done) | (simp [argTy, resIx, hk]; done)))⟩, trivial⟩⟩ ⟨beq_nat_eq (by first | rfl | (simp; done) | (simp; omega) | (first | rfl | (simp; done) | (simp [argTy, resIx, hk]; done))), trivial⟩ (fun x => rfl) (fun x hg1 => ?_)
  obtain ⟨pre, rest⟩ := x
  dsimp only at hg1 ⊢
  refine evc [9] [] ?_
  refine sq (fun h2 h2p h2s => ?_) fun h2 h2p h2s => ?_
  ·try simp only [Q] at h2p
   rcases rest with _ | ⟨y, rest⟩
   ·exfalso; simp_all
   refine Walk.idx sl182 .none rfl rfl rfl rfl (zip_at hg1) rfl ?_
   refine evs [9] [] ?_
   refine Walk.alloc (id := 3011) tz42 rfl .none rfl rfl rfl rfl ?_
   refine Walk.store ty42 .none rfl rfl rfl rfl rfl rfl (by simp) rfl ?_
   refine tv ?_
   refine sq (fun h3 h3p h3s => ?_) fun h3 h3p h3s => ?_
   ·try simp only [Q] at h3p
    refine Walk.store ty3 .none rfl rfl rfl rfl rfl rfl (by simp) rfl ?_
    refine tv ?_
    refine Walk.sliceLit sl182 tz42 rfl (by decide) (ks := [0]) (xs := [_]) rfl rfl (by decide) (by decide) .none rfl rfl rfl rfl ?_
    refine Walk.append sl182 zz42 rfl .none rfl rfl rfl rfl (htokL rfl (by first | rfl | (simp; done) | (simp; omega))) (by simp) (by have hl := congrArg List.length hg1; simp at hl; simp; omega) (by have hl := congrArg List.length hg1; simp at hl; simp; omega) ?_
    refine asg ?_
    refine tv ?_
    refine ar ?_
    refine Exists.intro ((pre ++ [y], rest)) ⟨(by have hz := hg1; rw [← hz]; simp), (by simp), Sub.x (by kernel_rfl) (by kernel_rfl) ⟨⟨_, rfl, (LeA.eqi (by first | rfl | (simp; done) | (simp [argTy, resIx, h1s, h1p, h2s, h2p, h3s, h3p]; done)))⟩, ⟨⟨_, rfl, (LeA.glg (by first | rfl | (simp; done) | (simp [argTy, resIx, h1s, h1p, h2s, h2p, h3s, h3p]; done)))⟩, trivial⟩⟩ (by kernel_rfl) (by kernel_rfl) ⟨beq_nat_eq (by first | rfl | (simp; done) | (simp; omega) | (first | rfl | (simp; done) | (simp [argTy, resIx, h1s, h1p, h2s, h2p, h3s, h3p]; done))), trivial⟩⟩
   ·try simp only [Q] at h3p
    refine Walk.sliceLit sl182 tz42 rfl (by decide) (ks := [0]) (xs := [_]) rfl rfl (by decide) (by decide) .none rfl rfl rfl rfl ?_
    refine Walk.append sl182 zz42 rfl .none rfl rfl rfl rfl (htokL rfl (by first | rfl | (simp; done) | (simp; omega))) (by simp) (by have hl := congrArg List.length hg1; simp at hl; simp; omega) (by have hl := congrArg List.length hg1; simp at hl; simp; omega) ?_
    refine asg ?_
    refine tv ?_
    refine ar ?_
    refine Exists.intro ((pre ++ [y], rest)) ⟨(by have hz := hg1; rw [← hz]; simp), (by simp), Sub.x (by kernel_rfl) (by kernel_rfl) ⟨⟨_, rfl, (LeA.eqi (by first | rfl | (simp; done) | (simp [argTy, resIx, h1s, h1p, h2s, h2p, h3s, h3p]; done)))⟩, ⟨⟨_, rfl, (LeA.glg (by first | rfl | (simp; done) | (simp [argTy, resIx, h1s, h1p, h2s, h2p, h3s, h3p]; done)))⟩, trivial⟩⟩ (by kernel_rfl) (by kernel_rfl) ⟨beq_nat_eq (by first | rfl | (simp; done) | (simp; omega) | (first | rfl | (simp; done) | (simp [argTy, resIx, h1s, h1p, h2s, h2p, h3s, h3p]; done))), trivial⟩⟩
  ·try simp only [Q] at h2p
   have hrest : rest = [] := by
    rcases rest with _ | ⟨a, b⟩
    ·rfl
    ·exfalso; have hz := congrArg List.length (hg1); simp only [List.length_append, List.length_cons, List.length_map] at hz; omega
   subst hrest
   refine rn0 (r1 rfl) (.gld ?_)
   all_goals (simp [← hg1, resIx, h1s, h1p, h2s, h2p])
 ·try simp only [Q] at h1p
  refine Walk.assignNil 1 2 .none rfl rfl ?_
  refine tv ?_
  refine CWp.loopX (ι := List (Ty) × List (Ty)) hk (fun x => [(30, .d (.i (x.1.length : Int))), (9, .gl 1 ((x.1.map (argTy (resIx (nth (nth w d).ctors c) k))).map Ty.c))]) [11, 31, 32, 33, 34, 35, 36, 37, 38, 39, 40, 41, 42, 43] (fun x => [(1, some (.tok (((x.1.map (argTy (resIx (nth (nth w d).ctors c) k))).map Ty.c)).length 2))]) (fun x => x.1 ++ x.2 = (nth (nth w d).ctors c).args) (fun x => x.2.length) ([], (nth (nth w d).ctors c).args) (by simp) ⟨⟨_, rfl, (LeA.eqi (by first | rfl | (simp; done) | (simp [argTy, resIx, hk]; done)))⟩, ⟨⟨_, rfl, (LeA.glg (by first | rfl | (simp; done) | (simp [argTy, resIx, hk]; done)))⟩, trivial⟩⟩ ⟨beq_nat_eq (by first | rfl | (simp; done) | (simp; omega) | (first | rfl | (simp; done) | (simp [argTy, resIx, hk]; done))), trivial⟩ (fun x => rfl) (fun x hg1 => ?_)
  obtain ⟨pre, rest⟩ := x
  dsimp only at hg1 ⊢
  refine evc [9] [] ?_
  refine sq (fun h4 h4p h4s => ?_) fun h4 h4p h4s => ?_
  ·try simp only [Q] at h4p
   rcases rest with _ | ⟨y, rest⟩
   ·exfalso; simp_all
   refine Walk.idx sl182 .none rfl rfl rfl rfl (zip_at hg1) rfl ?_
   refine evs [9] [] ?_
   refine Walk.alloc (id := 3011) tz42 rfl .none rfl rfl rfl rfl ?_
   refine Walk.store ty42 .none rfl rfl rfl rfl rfl rfl (by simp) rfl ?_
   refine tv ?_
   refine sq (fun h5 h5p h5s => ?_) fun h5 h5p h5s => ?_
   ·try simp only [Q] at h5p
    refine Walk.store ty3 .none rfl rfl rfl rfl rfl rfl (by simp) rfl ?_
    refine tv ?_
    refine Walk.sliceLit sl182 tz42 rfl (by decide) (ks := [0]) (xs := [_]) rfl rfl (by decide) (by decide) .none rfl rfl rfl rfl ?_
    refine Walk.append sl182 zz42 rfl .none rfl rfl rfl rfl (htokL rfl (by first | rfl | (simp; done) | (simp; omega))) (by simp) (by have hl := congrArg List.length hg1; simp at hl; simp; omega) (by have hl := congrArg List.length hg1; simp at hl; simp; omega) ?_
    refine asg ?_
    refine tv ?_
    refine ar ?_
    refine Exists.intro ((pre ++ [y], rest)) ⟨(by have hz := hg1; rw [← hz]; simp), (by simp), Sub.x (by kernel_rfl) (by kernel_rfl) ⟨⟨_, rfl, (LeA.eqi (by first | rfl | (simp; done) | (simp [argTy, resIx, h1s, h1p, h4s, h4p, h5s, h5p]; done)))⟩, ⟨⟨_, rfl, (LeA.glg (by first | rfl | (simp; done) | (simp [argTy, resIx, h1s, h1p, h4s, h4p, h5s, h5p]; done)))⟩, trivial⟩⟩ (by kernel_rfl) (by kernel_rfl) ⟨beq_nat_eq (by first | rfl | (simp; done) | (simp; omega) | (first | rfl | (simp; done) | (simp [argTy, resIx, h1s, h1p, h4s, h4p, h5s, h5p]; done))), trivial⟩⟩
   ·try simp only [Q] at h5p
    refine Walk.sliceLit sl182 tz42 rfl (by decide) (ks := [0]) (xs := [_]) rfl rfl (by decide) (by decide) .none rfl rfl rfl rfl ?_
    refine Walk.append sl182 zz42 rfl .none rfl rfl rfl rfl (htokL rfl (by first | rfl | (simp; done) | (simp; omega))) (by simp) (by have hl := congrArg List.length hg1; simp at hl; simp; omega) (by have hl := congrArg List.length hg1; simp at hl; simp; omega) ?_
    refine asg ?_
    refine tv ?_
    refine ar ?_
    refine Exists.intro ((pre ++ [y], rest)) ⟨(by have hz := hg1; rw [← hz]; simp), (by simp), Sub.x (by kernel_rfl) (by kernel_rfl) ⟨⟨_, rfl, (LeA.eqi (by first | rfl | (simp; done) | (simp [argTy, resIx, h1s, h1p, h4s, h4p, h5s, h5p]; done)))⟩, ⟨⟨_, rfl, (LeA.glg (by first | rfl | (simp; done) | (simp [argTy, resIx, h1s, h1p, h4s, h4p, h5s, h5p]; done)))⟩, trivial⟩⟩ (by kernel_rfl) (by kernel_rfl) ⟨beq_nat_eq (by first | rfl | (simp; done) | (simp; omega) | (first | rfl | (simp; done) | (simp [argTy, resIx, h1s, h1p, h4s, h4p, h5s, h5p]; done))), trivial⟩⟩
  ·try simp only [Q] at h4p
   have hrest : rest = [] := by
    rcases rest with _ | ⟨a, b⟩
    ·rfl
    ·exfalso; have hz := congrArg List.length (hg1); simp only [List.length_append, List.length_cons, List.length_map] at hz; omega
   subst hrest
   refine rn0 (r1 rfl) (.gld ?_)
   all_goals (simp [← hg1, resIx, h1s, h1p, h4s, h4p])
theorem spec_l1Args_fn {w : List Data} {d c : Nat} {k : Int} (hs : WSmall w) (hd : d < w.length) (hc : c < (nth w d).ctors.length) : FnD Tryz.prog 150 [.d (encDatas w), .agg [.d (.i d), .d (.i k)], .d (.i c)] [] (.d (encTys ((nth (nth w d).ctors c).args.map (argTy (resIx (nth (nth w d).ctors c) k))))) [] := by
 have hb := (hs.ctor _ (nth_mem hd) _ (nth_mem hc)).2
 refine bd Tryz.f150 46 [] [] fun w0 F0 own kept hk => ?_
 refine Walk.box (id := 3004) .none rfl rfl rfl rfl rfl rfl rfl ?_
 refine ev ?_
 refine Walk.sliceEmptyG 1 sl182 .none rfl rfl ?_
 refine ev ?_
 refine Walk.idx sl27 .none rfl rfl rfl rfl (at_nth hd) rfl ?_
 refine ev ?_
 refine Walk.idx sl119 .none rfl rfl rfl rfl (at_nth hc) rfl ?_
 refine ev ?_
 refine Walk.alloc (id := 3008) tz184 rfl .none rfl rfl rfl rfl ?_
 refine Walk.store ty184 .none rfl rfl rfl rfl rfl rfl (by simp) rfl ?_
 refine tv ?_
 refine CWp.loopX (ι := List (Ty) × List (Ty)) hk (fun x => [(9, .d (.i (x.1.length : Int))), (7, .gl 1 ((x.1.map (argTy (resIx (nth (nth w d).ctors c) k))).map Ty.c))]) [10, 21, 22, 23, 24, 25, 26, 27, 28, 29, 30, 31, 32, 33, 34, 35, 36, 37, 38, 39, 40, 41, 42, 43, 44] (fun x => [(1, some (.tok (((x.1.map (argTy (resIx (nth (nth w d).ctors c) k))).map Ty.c)).length 2))]) (fun x => x.1 ++ x.2 = (nth (nth w d).ctors c).args) (fun x => x.2.length) ([], (nth (nth w d).ctors c).args) (by simp) ⟨⟨_, rfl, (LeA.eqi (by first | rfl | (simp; done) | (simp [argTy, Ctor.eta, hk]; done)))⟩, ⟨⟨_, rfl, (LeA.glg (by first | rfl | (simp; done) | (simp [argTy, Ctor.eta, hk]; done)))⟩, trivial⟩⟩ ⟨beq_nat_eq (by first | rfl | (simp; done) | (simp; omega) | (first | rfl | (simp; done) | (simp [argTy, Ctor.eta, hk]; done))), trivial⟩ (fun x => rfl) (fun x hg1 => ?_)
 obtain ⟨pre, rest⟩ := x
 dsimp only at hg1 ⊢
 refine evc [] [] ?_
 refine sq (fun h1 h1p h1s => ?_) fun h1 h1p h1s => ?_
 ·try simp only [Q] at h1p
  rcases rest with _ | ⟨y, rest⟩
  ·exfalso; simp_all
  refine Walk.idx sl182 .none rfl rfl rfl rfl (zip_at hg1) rfl ?_
  refine ev ?_
  refine Walk.alloc (id := 3010) tz42 rfl .none rfl rfl rfl rfl ?_
  refine Walk.store ty42 .none rfl rfl rfl rfl rfl rfl (by simp) rfl ?_
  refine tv ?_
  refine sq (fun h2 h2p h2s => ?_) fun h2 h2p h2s => ?_
  ·try simp only [Q] at h2p
   refine Walk.call (cr := []) cal225 (spec_l1Result_fn) rfl .none rfl rfl (LeL.refl _) trivial rfl rfl rfl ?_
   refine ev ?_
   refine Walk.store ty3 .none rfl rfl rfl rfl rfl rfl (by simp) rfl ?_
   refine tv ?_
   refine Walk.sliceLit sl182 tz42 rfl (by decide) (ks := [0]) (xs := [_]) rfl rfl (by decide) (by decide) .none rfl rfl rfl rfl ?_
   refine Walk.append sl182 zz42 rfl .none rfl rfl rfl rfl (htokL rfl (by first | rfl | (simp; done) | (simp; omega))) (by simp) (by have hl := congrArg List.length hg1; simp at hl; simp; omega) (by have hl := congrArg List.length hg1; simp at hl; simp; omega) ?_
   refine ev ?_
   refine ar ?_
   refine Exists.intro ((pre ++ [y], rest)) ⟨(by have hz := hg1; rw [← hz]; simp), (by simp), Sub.x (by kernel_rfl) (by kernel_rfl) ⟨⟨_, rfl, (LeA.eqi (by first | rfl | (simp; done) | (simp [argTy, Ctor.eta, h1s, h1p, h2s, h2p]; done)))⟩, ⟨⟨_, rfl, (LeA.glg (by first | rfl | (simp; done) | (simp [argTy, Ctor.eta, h1s, h1p, h2s, h2p]; done)))⟩, trivial⟩⟩ (by kernel_rfl) (by kernel_rfl) ⟨beq_nat_eq (by first | rfl | (simp; done) | (simp; omega) | (first | rfl | (simp; done) | (simp [argTy, Ctor.eta, h1s, h1p, h2s, h2p]; done))), trivial⟩⟩
  ·try simp only [Q] at h2p
   refine Walk.sliceLit sl182 tz42 rfl (by decide) (ks := [0]) (xs := [_]) rfl rfl (by decide) (by decide) .none rfl rfl rfl rfl ?_
   refine Walk.append sl182 zz42 rfl .none rfl rfl rfl rfl (htokL rfl (by first | rfl | (simp; done) | (simp; omega))) (by simp) (by have hl := congrArg List.length hg1; simp at hl; simp; omega) (by have hl := congrArg List.length hg1; simp at hl; simp; omega) ?_
   refine ev ?_
   refine ar ?_
   refine Exists.intro ((pre ++ [y], rest)) ⟨(by have hz := hg1; rw [← hz]; simp), (by simp), Sub.x (by kernel_rfl) (by kernel_rfl) ⟨⟨_, rfl, (LeA.eqi (by first | rfl | (simp; done) | (simp [argTy, Ctor.eta, h1s, h1p, h2s, h2p]; done)))⟩, ⟨⟨_, rfl, (LeA.glg (by first | rfl | (simp; done) | (simp [argTy, Ctor.eta, h1s, h1p, h2s, h2p]; done)))⟩, trivial⟩⟩ (by kernel_rfl) (by kernel_rfl) ⟨beq_nat_eq (by first | rfl | (simp; done) | (simp; omega) | (first | rfl | (simp; done) | (simp [argTy, Ctor.eta, h1s, h1p, h2s, h2p]; done))), trivial⟩⟩
 ·try simp only [Q] at h1p
  have hrest : rest = [] := by
   rcases rest with _ | ⟨a, b⟩
   ·rfl
   ·exfalso; have hz := congrArg List.length (hg1); simp only [List.length_append, List.length_cons, List.length_map] at hz; omega
  subst hrest
  refine rn0 (r1 rfl) (.gld ?_)
  all_goals (simp [← hg1, resIx, h1s, h1p])
mutual
def valEq : Val → Val → Bool
 | .mk a n ks, .mk b m ls => decide (a = b) && (decide (n = m) && valsEq ks ls)
def valsEq : List Val → List Val → Bool
 | [], [] => true
 | x :: r, y :: s => valEq x y && valsEq r s
 | _, _ => false
end
mutual
def Val.ok : Val → Prop
 | .mk _ _ ks => ks.length ≤ 1000000000000 ∧ Vals.ok ks
def Vals.ok : List Val → Prop
 | [] => True
 | v :: r => v.ok ∧ Vals.ok r
end
theorem Vals.ok_mem : ∀ {l : List Val}, Vals.ok l → ∀ v, v ∈ l → v.ok
 | x :: r, h, v, hv => by
  simp only [Vals.ok] at h
  rcases List.mem_cons.1 hv with rfl | hv
  ·exact h.1
  ·exact Vals.ok_mem h.2 v hv
mutual
def Val.size : Val → Nat
 | .mk _ _ ks => 1 + Vals.size ks
def Vals.size : List Val → Nat
 | [] => 0
 | v :: r => v.size + Vals.size r
end
theorem Vals.size_mem : ∀ {l : List Val} {v : Val}, v ∈ l → v.size ≤ Vals.size l
 | x :: r, v, hv => by
  simp only [Vals.size]
  rcases List.mem_cons.1 hv with rfl | hv
  ·omega
  ·have := Vals.size_mem hv; omega
theorem vals_at {l : List Val} {i : Nat} (h : i < l.length) : (Val.cs l)[i]? = some (nth l i).cc := by
 rw [Val.cs_eq, ← Val.c_eq]; exact at_nth h
theorem Val.ok_iff (v : Val) : v.ok ↔ v.kids.length ≤ 1000000000000 ∧ Vals.ok v.kids := by cases v; rfl
theorem Val.size_eq (v : Val) : v.size = 1 + Vals.size v.kids := by cases v; rfl
theorem spec_l1Is_fn {w : List Data} {a b : Int} : FnD Tryz.prog 131 [.d (encDatas w), .agg [.d (.i a), .d (.i b)]] [] (.d (.bool (argOk w.length ⟨a, b⟩ && decide (0 ≤ b)))) [] := by
 refine bd Tryz.f131 14 [] [] fun w0 F0 own kept hk => ?_
 refine Walk.box (id := 3003) .none rfl rfl rfl rfl rfl rfl rfl ?_
 refine ev ?_
 refine Walk.call (cr := []) cal208 (spec_l1Arg_fn) rfl .none rfl rfl (LeL.refl _) trivial rfl rfl rfl ?_
 refine ev ?_
 refine sq (fun h1 h1p h1s => ?_) fun h1 h1p h1s => ?_
 ·try simp only [Q] at h1p
  refine rn0 (r1 rfl) (.eqd ?_)
  all_goals (first | rfl | (simp [h1s, h1p]; done) | (simp_all; done) | (simp_all; omega) | omega)
 ·try simp only [Q] at h1p
  refine rn0 (r1 rfl) (.eqd ?_)
  all_goals (first | rfl | (simp [h1s, h1p]; done) | (simp_all; done) | (simp_all; omega) | omega)
theorem spec_TypeValid_fn {w : List Data} {a b : Int} (hs : WSmall w) : FnD Tryz.prog 172 [.d (encDatas w), .agg [.d (.i a), .d (.i b)]] [] (.d (.bool (specWorldValid w && (argOk w.length ⟨a, b⟩ && decide (0 ≤ b))))) [] := by
 refine bd Tryz.f172 12 [] [] fun w0 F0 own kept hk => ?_
 refine Walk.box (id := 3003) .none rfl rfl rfl rfl rfl rfl rfl ?_
 refine ev ?_
 refine Walk.call (cr := []) cal72 (spec_WorldValid_fn hs) rfl .none rfl rfl (LeL.refl _) trivial rfl rfl rfl ?_
 refine ev ?_
 refine sq (fun h1 h1p h1s => ?_) fun h1 h1p h1s => ?_
 ·try simp only [Q] at h1p
  refine Walk.call (cr := []) cal131 (spec_l1Is_fn) rfl (.some rfl rfl h1) rfl rfl (LeL.refl _) trivial rfl rfl rfl ?_
  refine evs [] [(7, true)] ?_ ⟨⟨_, rfl, h1⟩, trivial⟩
  refine rn0 (r1 rfl) (.eqd ?_)
  all_goals (first | rfl | (simp [h1s, h1p]; done) | (simp_all; done) | (simp_all; omega) | omega)
 ·try simp only [Q] at h1p
  refine rn0 (r1 rfl) (.eqd ?_)
  all_goals (first | rfl | (simp [h1s, h1p]; done) | (simp_all; done) | (simp_all; omega) | omega)
theorem impl_number_fn {n : Int} : FnD Tryz.prog 176 [.d (.i n)] [] (.agg [.d (.i (-1)), .d (.i n), .d (encVals [])]) [] := by
 refine bd Tryz.f176 5 [] [] fun w0 F0 own kept hk => ?_
 refine Walk.alloc (id := 3002) tz65 rfl .none rfl rfl rfl rfl ?_
 refine tv ?_
 refine Walk.build st65 (ks := [0, 1]) (xs := [_, _]) rfl rfl .none rfl rfl rfl ?_
 refine Walk.store ty65 .none rfl rfl rfl rfl rfl rfl (by simp) rfl ?_
 refine tv ?_
 refine rn0 (.cons (.cellA ty65 rfl rfl rfl) .nil) (.agg (.cons (.eqd ?_) (.cons (.eqd ?_) (.cons (.nild ?_) .nil))))
 all_goals (first | rfl | (simp []; done) | (simp_all; done) | (simp_all; omega) | omega)
def TyIn (n : Nat) (t : Ty) : Prop := t.data = -1 ∨ ∃ d : Nat, t.data = d ∧ d < n
structure WT (w : List Data) : Prop where
 small : WSmall w
 arg : ∀ d ∈ w, ∀ c ∈ d.ctors, ∀ t ∈ c.args, TyIn w.length t
def argsOf (w : List Data) (t : Ty) (c : Int) : List Ty :=
 let x := nth (nth w t.data.toNat).ctors c.toNat
 x.args.map (argTy (resIx x t.index))
def ctorsOf (w : List Data) (t : Ty) : List Int := ctorsFrom t.index 0 (nth w t.data.toNat).ctors
def cap (x : Int) : Int := if 401 < x then 401 else x
theorem cap_bd {x : Int} (h : 0 ≤ x) : 0 ≤ cap x ∧ cap x ≤ 401 := by unfold cap; split <;> omega
def countArgs (f : Ty → Int) (l : List Ty) : Int := l.foldl (fun n a => cap (n * f a)) 1
def countSum (g : Int → Int) (l : List Int) : Int := l.foldl (fun s c => cap (s + g c)) 0
def countV (w : List Data) : Nat → Ty → Int
 | 0, _ => 0
 | n + 1, t => if t.data = -1 then 10 else countSum (fun c => countArgs (countV w n) (argsOf w t c)) (ctorsOf w t)
theorem countSum_bd {g : Int → Int} (hg : ∀ c, 0 ≤ g c ∧ g c ≤ 401) (l : List Int) : 0 ≤ countSum g l ∧ countSum g l ≤ 401 := by
 have key : ∀ (l : List Int) (s : Int), 0 ≤ s → s ≤ 401 → 0 ≤ l.foldl (fun s c => cap (s + g c)) s ∧ l.foldl (fun s c => cap (s + g c)) s ≤ 401 := by
  intro l
  induction l with
  | nil => intro s h0 h1; exact ⟨h0, h1⟩
  | cons c r ih =>
   intro s h0 h1
   have h2 : 0 ≤ s + g c := by have := hg c; omega
   exact ih _ (cap_bd h2).1 (cap_bd h2).2
 exact key l 0 (by omega) (by omega)
theorem countArgs_bd {f : Ty → Int} (hf : ∀ t, 0 ≤ f t ∧ f t ≤ 401) : ∀ (l : List Ty) (n : Int), 0 ≤ n → n ≤ 401 → 0 ≤ l.foldl (fun n a => cap (n * f a)) n ∧ l.foldl (fun n a => cap (n * f a)) n ≤ 401
 | [], n, h0, h1 => ⟨h0, h1⟩
 | a :: r, n, h0, h1 => by
  have := Int.mul_nonneg h0 (hf a).1
  exact countArgs_bd hf r _ (cap_bd this).1 (cap_bd this).2
theorem countV_bd (w : List Data) : ∀ (n : Nat) (t : Ty), 0 ≤ countV w n t ∧ countV w n t ≤ 401
 | 0, t => by simp [countV]
 | n + 1, t => by
  unfold countV
  split
  ·omega
  ·exact countSum_bd (fun c => countArgs_bd (countV_bd w n) (argsOf w t c) 1 (by omega) (by omega)) _
theorem ctorsFrom_mem (k : Int) : ∀ (l : List Ctor) (i : Nat) (c : Int), c ∈ ctorsFrom k i l → ∃ j : Nat, c = (j : Int) ∧ i ≤ j ∧ j < i + l.length
 | [], i, c, h => by simp [ctorsFrom] at h
 | x :: r, i, c, h => by
  unfold ctorsFrom at h
  have go : c ∈ ctorsFrom k (i + 1) r → ∃ j : Nat, c = (j : Int) ∧ i ≤ j ∧ j < i + (x :: r).length := fun h => by
   obtain ⟨j, h1, h2, h3⟩ := ctorsFrom_mem k r (i + 1) c h
   exact ⟨j, h1, by omega, by simp; omega⟩
  split at h
  ·rcases List.mem_cons.1 h with h | h
   ·exact ⟨i, h, by omega, by simp⟩
   ·exact go h
  ·exact go h
theorem argTy_in {n : Nat} {k : Int} {t : Ty} (h : TyIn n t) : TyIn n (argTy k t) := by
 unfold argTy; split
 ·exact h
 ·exact h
def PlaceIn (w : List Data) (d : Nat) (c : Int) : Prop := ∃ j : Nat, c = j ∧ j < (nth w d).ctors.length
theorem place_of {w : List Data} {d : Nat} {k c : Int} (h : c ∈ ctorsOf w ⟨d, k⟩) : PlaceIn w d c := by
 obtain ⟨j, h1, _, h3⟩ := ctorsFrom_mem _ _ _ _ h
 exact ⟨j, h1, by simpa using h3⟩
theorem argsOf_in {w : List Data} (hw : WT w) {d : Nat} (hd : d < w.length) {k c : Int} (hc : PlaceIn w d c) {t : Ty} (ht : t ∈ argsOf w ⟨d, k⟩ c) : TyIn w.length t := by
 obtain ⟨j, rfl, hj⟩ := hc
 simp only [argsOf, Int.toNat_natCast, List.mem_map] at ht
 obtain ⟨x, hx, rfl⟩ := ht
 exact argTy_in (hw.arg _ (nth_mem hd) _ (nth_mem hj) x hx)
theorem argsOf_len {w : List Data} (hw : WT w) {d : Nat} (hd : d < w.length) {k c : Int} (hc : PlaceIn w d c) : (argsOf w ⟨d, k⟩ c).length ≤ 1000000000000 := by
 obtain ⟨j, rfl, hj⟩ := hc
 simp only [argsOf, Int.toNat_natCast, List.length_map]
 exact (hw.small.ctor _ (nth_mem hd) _ (nth_mem hj)).2
theorem ctorsOf_len {w : List Data} (hw : WT w) {d : Nat} {k : Int} : (ctorsOf w ⟨d, k⟩).length ≤ 1000000000000 := by
 have := ctorsFrom_len k (nth w d).ctors 0
 have := hw.small.ctors d
 simp only [ctorsOf, Int.toNat_natCast]; omega
theorem impl_argTypes_in {w : List Data} (hw : WT w) {d : Nat} (hd : d < w.length) {k c : Int} (hc : PlaceIn w d c) : FnD Tryz.prog 171 [.d (encDatas w), .agg [.d (.i d), .d (.i k)], .d (.i c)] [] (.d (encTys (argsOf w ⟨d, k⟩ c))) [] := by
 obtain ⟨j, rfl, hj⟩ := hc
 exact impl_argTypes_fn hw.small hd hj
theorem impl_ctorsOf_in {w : List Data} (hw : WT w) {d : Nat} (hd : d < w.length) {k : Int} : FnD Tryz.prog 170 [.d (encDatas w), .agg [.d (.i d), .d (.i k)]] [] (.d (encInts (ctorsOf w ⟨d, k⟩))) [] := impl_ctorsOf_fn hw.small hd
theorem spec_l1Args_in {w : List Data} (hw : WT w) {d : Nat} (hd : d < w.length) {k c : Int} (hc : PlaceIn w d c) : FnD Tryz.prog 150 [.d (encDatas w), .agg [.d (.i d), .d (.i k)], .d (.i c)] [] (.d (encTys (argsOf w ⟨d, k⟩ c))) [] := by
 obtain ⟨j, rfl, hj⟩ := hc
 exact spec_l1Args_fn hw.small hd hj
theorem spec_l1Ctors_in {w : List Data} (hw : WT w) {d : Nat} (hd : d < w.length) {k : Int} : FnD Tryz.prog 164 [.d (encDatas w), .agg [.d (.i d), .d (.i k)]] [] (.d (encInts (ctorsOf w ⟨d, k⟩))) [] := spec_l1Ctors_fn hw.small hd
theorem impl_countValues_fn {w : List Data} (hw : WT w) : ∀ (n : Nat) {a k m : Int}, m = n → n ≤ 1000 → TyIn w.length ⟨a, k⟩ → FnD Tryz.prog 100 [.d (encDatas w), .agg [.d (.i a), .d (.i k)], .d (.i m)] [] (.d (.i (countV w n ⟨a, k⟩))) []
 | 0, a, k, m, hm, _, _ => by
  refine bd Tryz.f100 50 [] [] fun w0 F0 own kept hk => ?_
  refine Walk.box (id := 3004) .none rfl rfl rfl rfl rfl rfl rfl ?_
  refine ev ?_
  refine sq (fun h1 h1p h1s => ?_) fun h1 h1p h1s => ?_
  ·try simp only [Q] at h1p
   refine rn0 (r1 rfl) (.eqd ?_)
   all_goals (rfl)
  ·try simp only [Q] at h1p
   exfalso; simp at h1; omega --stop
 | n + 1, a, k, m, hm, hn, ht => by
  rcases ht with ha | ⟨d, hd, hlt⟩
  ·have ha' : a = -1 := ha
   subst ha'
   refine bd Tryz.f100 50 [] [] fun w0 F0 own kept hk => ?_
   refine Walk.box (id := 3004) .none rfl rfl rfl rfl rfl rfl rfl ?_
   refine ev ?_
   refine sq (fun h1 h1p h1s => ?_) fun h1 h1p h1s => ?_
   ·try simp only [Q] at h1p
    exfalso; simp at h1; omega --stop
   ·try simp only [Q] at h1p
    refine sq (fun h2 h2p h2s => ?_) fun h2 h2p h2s => ?_
    ·try simp only [Q] at h2p
     refine rn0 (r1 rfl) (.eqd ?_)
     all_goals (simp [countV])
    ·try simp only [Q] at h2p
     exact absurd h2 (by simp) --stop
  have hd' : a = (d : Int) := hd
  subst hd'
  refine bd Tryz.f100 50 [] [] fun w0 F0 own kept hk => ?_
  refine Walk.box (id := 3004) .none rfl rfl rfl rfl rfl rfl rfl ?_
  refine ev ?_
  refine sq (fun h1 h1p h1s => ?_) fun h1 h1p h1s => ?_
  ·try simp only [Q] at h1p
   exfalso; simp at h1; omega --stop
  ·try simp only [Q] at h1p
   refine sq (fun h2 h2p h2s => ?_) fun h2 h2p h2s => ?_
   ·try simp only [Q] at h2p
    exfalso; simp at h2 <;> omega --stop
   ·try simp only [Q] at h2p
    refine Walk.call (cr := []) cal170 (impl_ctorsOf_in hw hlt) rfl .none rfl rfl (LeL.refl _) trivial rfl rfl rfl ?_
    refine ev ?_
    refine CWp.loopX (ι := List (Int) × List (Int)) hk (fun x => [(22, .d (.i (x.1.length : Int))), (7, .d (.i (countSum (fun c => countArgs (countV w n) (argsOf w ⟨d, k⟩ c)) x.1)))]) [9, 10, 12, 23, 24, 25, 26, 27, 28, 29, 30, 31, 32, 33, 34, 35, 36, 37, 38, 39, 40, 41, 42, 43, 44, 45, 46, 47, 48] (fun x => []) (fun x => x.1 ++ x.2 = ctorsOf w ⟨d, k⟩) (fun x => x.2.length) ([], ctorsOf w ⟨d, k⟩) (by simp) ⟨⟨_, rfl, (LeA.eqi (by first | rfl | (simp; done) | (simp only [countSum, List.foldl_append, List.foldl_cons, List.foldl_nil, countArgs, ← hg2]; rfl)))⟩, ⟨⟨_, rfl, (LeA.eqi (by first | rfl | (simp; done) | (simp only [countSum, List.foldl_append, List.foldl_cons, List.foldl_nil, countArgs, ← hg2]; rfl)))⟩, trivial⟩⟩ trivial (fun x => rfl) (fun x hg1 => ?_)
    obtain ⟨pre, rest⟩ := x
    dsimp only at hg1 ⊢
    have hcl := ctorsOf_len hw (d := d) (k := k)
    refine evc [] [] ?_
    refine sq (fun h3 h3p h3s => ?_) fun h3 h3p h3s => ?_
    ·try simp only [Q] at h3p
     rcases rest with _ | ⟨c, rest⟩
     ·exfalso; simp_all
     refine Walk.idx sl54 .none rfl rfl rfl rfl (zip_at hg1) rfl ?_
     refine ev ?_
     refine Walk.call (cr := []) cal171 (impl_argTypes_in hw hlt (place_of (k := k) (by rw [← hg1]; simp))) rfl .none rfl rfl (LeL.refl _) trivial rfl rfl rfl ?_
     refine ev ?_
     refine CWp.loopX (ι := List (Ty) × List (Ty)) hk (fun x => [(31, .d (.i (x.1.length : Int))), (10, .d (.i (x.1.foldl (fun n' a => cap (n' * countV w n a)) 1)))]) [12, 32, 33, 34, 35, 36, 37, 38, 39, 40, 41, 42, 43] (fun x => []) (fun x => x.1 ++ x.2 = argsOf w ⟨d, k⟩ c) (fun x => x.2.length) ([], argsOf w ⟨d, k⟩ c) (by simp) ⟨⟨_, rfl, (LeA.eqi (by first | rfl | (simp; done) | (simp only [List.foldl_append, List.foldl_cons, List.foldl_nil]; rfl)))⟩, ⟨⟨_, rfl, (LeA.eqi (by first | rfl | (simp; done) | (simp only [List.foldl_append, List.foldl_cons, List.foldl_nil]; rfl)))⟩, trivial⟩⟩ trivial (fun x => rfl) (fun x hg2 => ?_)
     obtain ⟨pre2, rest2⟩ := x
     dsimp only at hg2 ⊢
     have hal := argsOf_len hw hlt (k := k) (place_of (k := k) (c := c) (by rw [← hg1]; simp))
     refine evc [] [] ?_
     refine sq (fun h4 h4p h4s => ?_) fun h4 h4p h4s => ?_
     ·try simp only [Q] at h4p
      rcases rest2 with _ | ⟨y, rest2⟩
      ·exfalso; simp_all
      refine Walk.idx sl182 .none rfl rfl rfl rfl (zip_at hg2) rfl ?_
      refine ev ?_
      refine Walk.alloc (id := 3012) tz42 rfl .none rfl rfl rfl rfl ?_
      refine Walk.store ty42 .none rfl rfl rfl rfl rfl rfl (by simp) rfl ?_
      refine tv ?_
      refine ar ?_ (by first | (constructor <;> omega) | (have b1 := countArgs_bd (countV_bd w n) pre2 1 (by omega) (by omega); have b2 := countV_bd w n y; have b3 := Int.mul_nonneg b1.1 b2.1; have b4 := Int.mul_le_mul b1.2 b2.2 b2.1 (by omega); constructor <;> (try simp only [Ty.eta]) <;> omega) | (constructor <;> simp <;> omega) | (have b1 := countArgs_bd (countV_bd w n) pre2 1 (by omega) (by omega); have b2 := countSum_bd (g := fun c => countArgs (countV w n) (argsOf w ⟨d, k⟩ c)) (fun c => countArgs_bd (countV_bd w n) (argsOf w ⟨d, k⟩ c) 1 (by omega) (by omega)) pre; constructor <;> omega))
      refine Walk.call (cr := []) cal100 (impl_countValues_fn hw n (a := y.data) (k := y.index) (by omega) (by omega) (argsOf_in hw hlt (k := k) (place_of (k := k) (c := c) (by rw [← hg1]; simp)) (t := y) (by rw [← hg2]; simp))) rfl .none rfl rfl (LeL.refl _) trivial rfl rfl rfl ?_
      refine ev ?_
      refine ar ?_ (by first | (constructor <;> omega) | (have b1 := countArgs_bd (countV_bd w n) pre2 1 (by omega) (by omega); have b2 := countV_bd w n y; have b3 := Int.mul_nonneg b1.1 b2.1; have b4 := Int.mul_le_mul b1.2 b2.2 b2.1 (by omega); constructor <;> (try simp only [Ty.eta]) <;> omega) | (constructor <;> simp <;> omega) | (have b1 := countArgs_bd (countV_bd w n) pre2 1 (by omega) (by omega); have b2 := countSum_bd (g := fun c => countArgs (countV w n) (argsOf w ⟨d, k⟩ c)) (fun c => countArgs_bd (countV_bd w n) (argsOf w ⟨d, k⟩ c) 1 (by omega) (by omega)) pre; constructor <;> omega))
      refine Walk.minI .none rfl rfl rfl ?_
      refine ev ?_
      refine ar ?_ (by first | (constructor <;> omega) | (have b1 := countArgs_bd (countV_bd w n) pre2 1 (by omega) (by omega); have b2 := countV_bd w n y; have b3 := Int.mul_nonneg b1.1 b2.1; have b4 := Int.mul_le_mul b1.2 b2.2 b2.1 (by omega); constructor <;> (try simp only [Ty.eta]) <;> omega) | (constructor <;> simp <;> omega) | (have b1 := countArgs_bd (countV_bd w n) pre2 1 (by omega) (by omega); have b2 := countSum_bd (g := fun c => countArgs (countV w n) (argsOf w ⟨d, k⟩ c)) (fun c => countArgs_bd (countV_bd w n) (argsOf w ⟨d, k⟩ c) 1 (by omega) (by omega)) pre; constructor <;> omega))
      refine Exists.intro ((pre2 ++ [y], rest2)) ⟨(by have hz := hg2; rw [← hz]; simp), (by simp), Sub.x (by kernel_rfl) (by kernel_rfl) ⟨⟨_, rfl, (LeA.eqi (by first | rfl | (simp; done) | (simp only [List.foldl_append, List.foldl_cons, List.foldl_nil]; rfl)))⟩, ⟨⟨_, rfl, (LeA.eqi (by first | rfl | (simp; done) | (simp only [List.foldl_append, List.foldl_cons, List.foldl_nil]; rfl)))⟩, trivial⟩⟩ (by kernel_rfl) (by kernel_rfl) trivial⟩
     ·try simp only [Q] at h4p
      have hrest2 : rest2 = [] := by
       rcases rest2 with _ | ⟨a, b⟩
       ·rfl
       ·exfalso; have hz := congrArg List.length (hg2); simp only [List.length_append, List.length_cons, List.length_map] at hz; omega
      subst hrest2
      refine ar ?_ (by first | (constructor <;> omega) | (have b1 := countArgs_bd (countV_bd w n) pre2 1 (by omega) (by omega); have b2 := countV_bd w n y; have b3 := Int.mul_nonneg b1.1 b2.1; have b4 := Int.mul_le_mul b1.2 b2.2 b2.1 (by omega); constructor <;> (try simp only [Ty.eta]) <;> omega) | (constructor <;> simp <;> omega) | (have b1 := countArgs_bd (countV_bd w n) pre2 1 (by omega) (by omega); have b2 := countSum_bd (g := fun c => countArgs (countV w n) (argsOf w ⟨d, k⟩ c)) (fun c => countArgs_bd (countV_bd w n) (argsOf w ⟨d, k⟩ c) 1 (by omega) (by omega)) pre; constructor <;> omega))
      refine Walk.minI .none rfl rfl rfl ?_
      refine ev ?_
      refine ar ?_ (by first | (constructor <;> omega) | (have b1 := countArgs_bd (countV_bd w n) pre2 1 (by omega) (by omega); have b2 := countV_bd w n y; have b3 := Int.mul_nonneg b1.1 b2.1; have b4 := Int.mul_le_mul b1.2 b2.2 b2.1 (by omega); constructor <;> (try simp only [Ty.eta]) <;> omega) | (constructor <;> simp <;> omega) | (have b1 := countArgs_bd (countV_bd w n) pre2 1 (by omega) (by omega); have b2 := countSum_bd (g := fun c => countArgs (countV w n) (argsOf w ⟨d, k⟩ c)) (fun c => countArgs_bd (countV_bd w n) (argsOf w ⟨d, k⟩ c) 1 (by omega) (by omega)) pre; constructor <;> omega))
      first | (rw [List.append_nil] at hg2) | skip
      refine Exists.intro ((pre ++ [c], rest)) ⟨(by have hz := hg1; rw [← hz]; simp), (by simp), Sub.x (by kernel_rfl) (by kernel_rfl) ⟨⟨_, rfl, (LeA.eqi (by first | rfl | (simp; done) | (simp only [countSum, List.foldl_append, List.foldl_cons, List.foldl_nil, countArgs, ← hg2]; rfl)))⟩, ⟨⟨_, rfl, (LeA.eqi (by first | rfl | (simp; done) | (simp only [countSum, List.foldl_append, List.foldl_cons, List.foldl_nil, countArgs, ← hg2]; rfl)))⟩, trivial⟩⟩ (by kernel_rfl) (by kernel_rfl) trivial⟩
    ·try simp only [Q] at h3p
     have hrest : rest = [] := by
      rcases rest with _ | ⟨a, b⟩
      ·rfl
      ·exfalso; have hz := congrArg List.length (hg1); simp only [List.length_append, List.length_cons, List.length_map] at hz; omega
     subst hrest
     refine rn0 (r1 rfl) (.eqd ?_)
     all_goals ((rw [List.append_nil] at hg1); subst hg1; (try simp [countV]) <;> omega)
end Go.Proofs.YtdgknigklgnefaaGreat
namespace Go.Proofs.YtdgknigklgnefaaGreat
open Go
set_option linter.unusedSimpArgs false
set_option linter.unusedVariables false
def ctorNames (w : List Data) : List Str := w.flatMap fun d => d.ctors.map (·.name)
structure WV (w : List Data) : Prop where
 len : w.length ≤ 4
 data : ∀ d ∈ w, dataNameOk d.name = true ∧ 1 ≤ d.ctors.length ∧ d.ctors.length ≤ 4
 ctor : ∀ d ∈ w, ∀ c ∈ d.ctors, ctorOk w.length c = true
 names : (w.map (·.name)).Nodup
 cnames : (ctorNames w).Nodup
theorem ctorsOk_iff (n : Nat) : ∀ (l : List Ctor) (met met' : List Str), ctorsOk n met l = some met' ↔ met' = met ++ l.map (·.name) ∧ (∀ c ∈ l, ctorOk n c = true) ∧ (l.map (·.name)).Nodup ∧ ∀ c ∈ l, c.name ∉ met
 | [], met, met' => by
  unfold ctorsOk
  simp only [Option.some.injEq, List.map_nil, List.append_nil]
  exact ⟨fun h => ⟨h.symm, by simp, by simp, by simp⟩, fun h => h.1.symm⟩
 | c :: r, met, met' => by
  unfold ctorsOk
  by_cases h : (ctorOk n c && !decide (c.name ∈ met)) = true
  ·rw [if_pos h, ctorsOk_iff n r]
   simp only [Bool.and_eq_true, Bool.not_eq_true', decide_eq_false_iff_not] at h
   obtain ⟨h1, h2⟩ := h
   constructor
   ·rintro ⟨rfl, q1, q2, q3⟩
    refine ⟨by simp, fun x hx => ?_, ?_, fun x hx => ?_⟩
    ·rcases List.mem_cons.1 hx with rfl | hx
     ·exact h1
     ·exact q1 x hx
    ·simp only [List.map_cons, List.nodup_cons]
     refine ⟨fun hm => ?_, q2⟩
     obtain ⟨x, hx, he⟩ := List.mem_map.1 hm
     exact q3 x hx (by rw [he]; simp)
    ·rcases List.mem_cons.1 hx with rfl | hx
     ·exact h2
     ·intro hm; exact q3 x hx (by simp [hm])
   ·rintro ⟨rfl, q1, q2, q3⟩
    simp only [List.map_cons, List.nodup_cons] at q2
    refine ⟨by simp, fun x hx => q1 x (List.mem_cons_of_mem _ hx), q2.2, fun x hx hm => ?_⟩
    simp only [List.mem_append, List.mem_singleton] at hm
    rcases hm with hm | hm
    ·exact q3 x (List.mem_cons_of_mem _ hx) hm
    ·exact q2.1 (hm ▸ List.mem_map.2 ⟨x, hx, rfl⟩)
  ·rw [if_neg h]
   constructor
   ·intro h'; cases h'
   ·rintro ⟨_, q1, _, q3⟩
    exfalso; apply h
    simp [q1 c (by simp), q3 c (by simp)]
theorem datasOk_iff (n : Nat) : ∀ (l : List Data) (met datas : List Str), datasOk n met datas l = true ↔
  (∀ d ∈ l, dataNameOk d.name = true ∧ 1 ≤ d.ctors.length ∧ d.ctors.length ≤ 4) ∧ (∀ d ∈ l, ∀ c ∈ d.ctors, ctorOk n c = true) ∧ (l.map (·.name)).Nodup ∧ (∀ d ∈ l, d.name ∉ datas) ∧
   (ctorNames l).Nodup ∧ ∀ s ∈ ctorNames l, s ∉ met
 | [], met, datas => by simp [datasOk, ctorNames]
 | d :: r, met, datas => by
  have hcn : ctorNames (d :: r) = d.ctors.map (·.name) ++ ctorNames r := rfl
  have hw : within d.ctors.length 1 4 = true ↔ 1 ≤ d.ctors.length ∧ d.ctors.length ≤ 4 := by simp [within]; omega
  unfold datasOk
  simp only [Bool.and_eq_true, Bool.not_eq_true', decide_eq_false_iff_not, hw]
  constructor
  ·rintro ⟨⟨⟨h1, h2⟩, h3⟩, h4⟩
   split at h4
   ·rename_i met' hm
    obtain ⟨rfl, c1, c2, c3⟩ := (ctorsOk_iff n _ _ _).1 hm
    obtain ⟨q1, q2, q3, q4, q5, q6⟩ := (datasOk_iff n r _ _).1 h4
    refine ⟨fun x hx => ?_, fun x hx => ?_, ?_, fun x hx => ?_, ?_, fun s hs => ?_⟩
    ·rcases List.mem_cons.1 hx with rfl | hx
     ·exact ⟨h1, h3⟩
     ·exact q1 x hx
    ·rcases List.mem_cons.1 hx with rfl | hx
     ·exact c1
     ·exact q2 x hx
    ·simp only [List.map_cons, List.nodup_cons]
     refine ⟨fun hm => ?_, q3⟩
     obtain ⟨x, hx, he⟩ := List.mem_map.1 hm
     exact q4 x hx (by rw [he]; simp)
    ·rcases List.mem_cons.1 hx with rfl | hx
     ·exact h2
     ·intro hm; exact q4 x hx (by simp [hm])
    ·rw [hcn, List.nodup_append]
     refine ⟨c2, q5, fun a ha b hb he => ?_⟩
     subst he
     exact q6 a hb (by simp only [List.mem_append]; exact .inr ha)
    ·rw [hcn] at hs
     rcases List.mem_append.1 hs with hs | hs
     ·obtain ⟨c, hc, rfl⟩ := List.mem_map.1 hs
      exact c3 c hc
     ·intro hm; exact q6 s hs (by simp [hm])
   ·cases h4
  ·rintro ⟨q1, q2, q3, q4, q5, q6⟩
   rw [hcn] at q5 q6
   rw [List.nodup_append] at q5
   simp only [List.map_cons, List.nodup_cons] at q3
   have hd := q1 d (by simp)
   have hm : ctorsOk n met d.ctors = some (met ++ d.ctors.map (·.name)) := (ctorsOk_iff n _ _ _).2 ⟨rfl, q2 d (by simp), q5.1, fun c hc => q6 _ (List.mem_append.2 (.inl (List.mem_map.2 ⟨c, hc, rfl⟩)))⟩
   refine ⟨⟨⟨hd.1, q4 d (by simp)⟩, hd.2⟩, ?_⟩
   rw [hm]
   refine (datasOk_iff n r _ _).2 ⟨fun x hx => q1 x (List.mem_cons_of_mem _ hx), fun x hx => q2 x (List.mem_cons_of_mem _ hx), q3.2, fun x hx hmem => ?_, q5.2.1, fun s hs hmem => ?_⟩
   ·simp only [List.mem_append, List.mem_singleton] at hmem
    rcases hmem with hmem | hmem
    ·exact q4 x (List.mem_cons_of_mem _ hx) hmem
    ·exact q3.1 (hmem ▸ List.mem_map.2 ⟨x, hx, rfl⟩)
   ·rcases List.mem_append.1 hmem with hmem | hmem
    ·exact q6 s (List.mem_append.2 (.inr hs)) hmem
    ·exact q5.2.2 s hmem s hs rfl
theorem worldValid_iff (w : List Data) : worldValid w = true ↔ WV w := by
 unfold worldValid
 rw [Bool.and_eq_true, datasOk_iff]
 constructor
 ·rintro ⟨h1, q1, q2, q3, _, q5, _⟩
  exact ⟨by have := of_decide_eq_true h1; omega, q1, q2, q3, q5⟩
 ·rintro ⟨h1, q1, q2, q3, q5⟩
  exact ⟨decide_eq_true (by omega), q1, q2, q3, by simp, q5, by simp⟩
theorem nodup_iff_nth {l : List Str} : l.Nodup ↔ ∀ i j, i < j → j < l.length → nth l i ≠ nth l j := by
 unfold List.Nodup
 rw [List.pairwise_iff_getElem]
 constructor
 ·intro h i j hij hj
  have := h i j (by omega) hj hij
  simpa [nth, List.getD, hj, (by omega : i < l.length)] using this
 ·intro h i j hi hj hij
  have := h i j hij hj
  simpa [nth, List.getD, hj, hi] using this
theorem nth_eq {α : Type} [Inhabited α] {l : List α} {i : Nat} (h : i < l.length) : nth l i = l[i] := by simp [nth, List.getD, h]
theorem cnames_iff (w : List Data) : (ctorNames w).Nodup ↔ (∀ d, d < w.length → ∀ j k, j < k → k < (nth w d).ctors.length → (nth (nth w d).ctors j).name ≠ (nth (nth w d).ctors k).name) ∧
  ∀ i d, i < d → d < w.length → ∀ j k, j < (nth w i).ctors.length → k < (nth w d).ctors.length → (nth (nth w i).ctors j).name ≠ (nth (nth w d).ctors k).name := by
 unfold ctorNames List.Nodup
 rw [List.pairwise_flatMap]
 constructor
 ·rintro ⟨h1, h2⟩
  refine ⟨fun d hd j k hjk hk => ?_, fun i d hid hd j k hj hk => ?_⟩
  ·have := h1 (nth w d) (nth_mem hd)
   rw [List.pairwise_iff_getElem] at this
   have := this j k (by simp; omega) (by simpa using hk) hjk
   simpa [nth_eq hk, nth_eq (show j < (nth w d).ctors.length by omega)] using this
  ·rw [List.pairwise_iff_getElem] at h2
   have := h2 i d (by omega) hd hid
   rw [← nth_eq hd, ← nth_eq (show i < w.length by omega)] at this
   exact this _ (List.mem_map.2 ⟨_, nth_mem hj, rfl⟩) _ (List.mem_map.2 ⟨_, nth_mem hk, rfl⟩)
 ·rintro ⟨h1, h2⟩
  refine ⟨fun x hx => ?_, ?_⟩
  ·obtain ⟨d, hd, rfl⟩ := List.getElem_of_mem hx
   rw [List.pairwise_iff_getElem]
   intro j k hj hk hjk
   have hk' : k < (nth w d).ctors.length := by rw [nth_eq hd]; simpa using hk
   have := h1 d hd j k hjk hk'
   rw [nth_eq hk', nth_eq (show j < (nth w d).ctors.length by omega)] at this
   simp only [nth_eq hd] at this
   simpa using this
  ·rw [List.pairwise_iff_getElem]
   intro i d hi hd hid x hx y hy
   obtain ⟨a, ha, rfl⟩ := List.mem_map.1 hx
   obtain ⟨b, hb, rfl⟩ := List.mem_map.1 hy
   obtain ⟨j, hj, rfl⟩ := List.getElem_of_mem ha
   obtain ⟨k, hk, rfl⟩ := List.getElem_of_mem hb
   have hj' : j < (nth w i).ctors.length := by rw [nth_eq hi]; exact hj
   have hk' : k < (nth w d).ctors.length := by rw [nth_eq hd]; exact hk
   have := h2 i d hid hd j k hj' hk'
   rw [nth_eq hj', nth_eq hk'] at this
   simpa only [nth_eq hi, nth_eq hd] using this
theorem names_iff (w : List Data) : (w.map (·.name)).Nodup ↔ ∀ i d, i < d → d < w.length → (nth w i).name ≠ (nth w d).name := by
 rw [nodup_iff_nth]
 have e : ∀ i, i < w.length → nth (w.map (·.name)) i = (nth w i).name := fun i hi => by simp [nth, List.getD, hi]
 constructor
 ·intro h i d hid hd
  have := h i d hid (by simpa using hd)
  rwa [e i (by omega), e d hd] at this
 ·intro h i d hid hd
  have hd' : d < w.length := by simpa using hd
  rw [e i (by omega), e d hd']
  exact h i d hid hd'
theorem twice_iff (w : List Data) (d k : Nat) : twice w d k = false ↔ (∀ i, i < d → (nth w i).name ≠ (nth w d).name) ∧
  ∀ i j, i ≤ d → j < (nth w i).ctors.length → (i < d ∨ j < k) → k < (nth w d).ctors.length → (nth (nth w i).ctors j).name ≠ (nth (nth w d).ctors k).name := by
 unfold twice
 rw [List.any_eq_false]
 constructor
 ·intro h
  refine ⟨fun i hi he => ?_, fun i j hi hj hij hk he => ?_⟩
  ·apply h i (List.mem_range.2 (by omega))
   unfold rowTwice; simp [hi, he]
  ·apply h i (List.mem_range.2 (by omega))
   unfold rowTwice
   rw [any_range_true hj (by unfold hitTwice; simp [hk, he]; omega)]
   simp
 ·rintro ⟨h1, h2⟩ i hi
  have hi' := List.mem_range.1 hi
  unfold rowTwice
  simp only [Bool.or_eq_true, Bool.and_eq_true, decide_eq_true_eq, not_or, not_and]
  refine ⟨fun hid => h1 i hid, ?_⟩
  rw [any_range_false (fun j hj => ?_)]
  ·simp
  ·unfold hitTwice
   cases hc : ((decide (i < d) || decide (j < k)) && (decide (k < (nth w d).ctors.length) && decide ((nth (nth w i).ctors j).name = (nth (nth w d).ctors k).name))) with
   | false => rfl
   | true =>
    simp only [Bool.and_eq_true, Bool.or_eq_true, decide_eq_true_eq] at hc
    exact absurd hc.2.2 (h2 i j (by omega) hj hc.1 hc.2.1)
theorem specWorldValid_iff (w : List Data) : specWorldValid w = true ↔ WV w := by
 unfold specWorldValid
 rw [Bool.and_eq_true, decide_eq_true_eq, List.all_eq_true]
 have hs : ∀ d, specData w d = true ↔ dataNameOk (nth w d).name = true ∧ 1 ≤ (nth w d).ctors.length ∧ (nth w d).ctors.length ≤ 4 ∧ ∀ k, k < (nth w d).ctors.length → ctorOk w.length (nth (nth w d).ctors k) = true ∧ twice w d k = false := fun d => by
  unfold specData
  simp only [Bool.and_eq_true, decide_eq_true_eq, List.all_eq_true, List.mem_range, specCtors, Bool.not_eq_true']
 constructor
 ·rintro ⟨h1, h2⟩
  have h3 : ∀ d, d < w.length → _ := fun d hd => (hs d).1 (h2 d (List.mem_range.2 hd))
  have h4 : ∀ d, d < w.length → ∀ k, k < (nth w d).ctors.length → _ := fun d hd k hk => (twice_iff w d k).1 ((h3 d hd).2.2.2 k hk).2
  refine ⟨h1, fun d hd => ?_, fun d hd c hc => ?_, (names_iff w).2 (fun i d hid hd => ?_), (cnames_iff w).2 ⟨fun d hd j k hjk hk => ?_, fun i d hid hd j k hj hk => ?_⟩⟩
  ·obtain ⟨i, hi, rfl⟩ := List.getElem_of_mem hd
   have := h3 i hi
   rw [nth_eq hi] at this
   exact ⟨this.1, this.2.1, this.2.2.1⟩
  ·obtain ⟨i, hi, rfl⟩ := List.getElem_of_mem hd
   obtain ⟨k, hk, rfl⟩ := List.getElem_of_mem hc
   have hk' : k < (nth w i).ctors.length := by rw [nth_eq hi]; exact hk
   have := ((h3 i hi).2.2.2 k hk').1
   rw [nth_eq hk'] at this
   simpa only [nth_eq hi] using this
  ·exact (h4 d hd 0 (by have := (h3 d hd).2.1; omega)).1 i hid
  ·exact (h4 d hd k hk).2 d j (Nat.le_refl _) (by omega) (.inr hjk) hk
  ·exact (h4 d hd k hk).2 i j (by omega) hj (.inl hid) hk
 ·intro h
  refine ⟨h.len, fun d hd => ?_⟩
  have hd' := List.mem_range.1 hd
  have hm := nth_mem hd'
  have hn := (names_iff w).1 h.names
  have hc := (cnames_iff w).1 h.cnames
  refine (hs d).2 ⟨(h.data _ hm).1, (h.data _ hm).2.1, (h.data _ hm).2.2, fun k hk => ⟨h.ctor _ hm _ (nth_mem hk), (twice_iff w d k).2 ⟨fun i hi => hn i d hi hd', fun i j hi hj hij hk' => ?_⟩⟩⟩
  by_cases hid : i < d
  ·exact hc.2 i d hid hd' j k hj hk'
  ·have : i = d := by omega
   subst this
   exact hc.1 i hd' j k (by omega) hk'
theorem specWorldValid_eq (w : List Data) : specWorldValid w = worldValid w := by
 rw [Bool.eq_iff_iff, specWorldValid_iff, worldValid_iff]
theorem argOk_in {n : Nat} {t : Ty} (h : argOk n t = true) : TyIn n t := by
 unfold argOk at h
 simp only [Bool.or_eq_true, Bool.and_eq_true, decide_eq_true_eq, within] at h
 rcases h with h | h
 ·exact .inl h.1
 ·exact .inr ⟨t.data.toNat, by omega, by omega⟩
theorem typeOk_in {n : Nat} {t : Ty} (h : typeOk n t = true) : TyIn n t := by
 unfold typeOk at h
 simp only [Bool.or_eq_true, Bool.and_eq_true, decide_eq_true_eq, within] at h
 rcases h with h | h
 ·exact .inl h.1
 ·exact .inr ⟨t.data.toNat, by omega, by omega⟩
theorem WV.wt {w : List Data} (hs : WSmall w) (h : WV w) : WT w := ⟨hs, fun d hd c hc t ht => by
 have := h.ctor d hd c hc
 unfold ctorOk at this
 simp only [Bool.and_eq_true, Bool.not_eq_true', List.any_eq_false, Bool.not_eq_true, Bool.not_eq_false] at this
 exact argOk_in (by have := this.2.2.2 t ht; simpa using this)⟩
theorem tv_wt {w : List Data} {t : Ty} (hs : WSmall w) (h : typeValid w t = true) : WT w := by
 unfold typeValid at h
 rw [Bool.and_eq_true] at h
 exact WV.wt hs ((worldValid_iff w).1 h.1)
theorem tv_in {w : List Data} {t : Ty} (h : typeValid w t = true) : TyIn w.length t := by
 unfold typeValid at h
 rw [Bool.and_eq_true] at h
 exact typeOk_in h.2
theorem spec_tv (w : List Data) (t : Ty) : (specWorldValid w && (argOk w.length t && decide (0 ≤ t.index))) = typeValid w t := by
 rw [specWorldValid_eq]
 unfold typeValid
 congr 1
 rw [Bool.eq_iff_iff]
 unfold argOk typeOk within
 simp
 omega
end Go.Proofs.YtdgknigklgnefaaGreat
namespace Go.Proofs.YtdgknigklgnefaaGreat
open Go
set_option linter.unusedSimpArgs false
set_option linter.unusedVariables false
set_option maxRecDepth 100000
set_option maxHeartbeats 2000000
theorem drop_nth {α : Type} [Inhabited α] {l : List α} {i : Nat} (h : i < l.length) : l.drop i = nth l i :: l.drop (i + 1) := by
 rw [nth_eq h]; exact List.drop_eq_getElem_cons h
def all2 {α β : Type} (f : α → β → Bool) : List α → List β → Bool
 | [], [] => true
 | a :: r, b :: s => f a b && all2 f r s
 | _, _ => false
theorem all2_len {α β : Type} {f : α → β → Bool} : ∀ {a : List α} {b : List β}, a.length ≠ b.length → all2 f a b = false
 | [], [], h => by simp at h
 | [], _ :: _, _ => rfl
 | _ :: _, [], _ => rfl
 | x :: r, y :: s, h => by simp [all2, all2_len (a := r) (b := s) (by simpa using h)]
theorem all2_nth_false {α β : Type} [Inhabited α] [Inhabited β] {f : α → β → Bool} {a : List α} {b : List β} {i : Nat} (h : i < a.length) (hl : a.length = b.length) (h2 : f (nth a i) (nth b i) = false) : all2 f a b = false := by
 induction i generalizing a b with
 | zero =>
  cases a with
  | nil => simp at h
  | cons x r =>
   cases b with
   | nil => simp [all2]
   | cons y s => simp [nth] at h2; simp [all2, h2]
 | succ i ih =>
  cases a with
  | nil => simp at h
  | cons x r =>
   cases b with
   | nil => simp [all2]
   | cons y s => simp only [all2]; rw [ih (a := r) (b := s) (by simpa using h) (by simpa using hl) (by simpa [nth] using h2)]; simp
theorem all2_nth_true {α β : Type} [Inhabited α] [Inhabited β] {f : α → β → Bool} {a : List α} {b : List β} (hl : a.length = b.length) (h : ∀ i, i < a.length → f (nth a i) (nth b i) = true) : all2 f a b = true := by
 induction a generalizing b with
 | nil => cases b with
  | nil => simp [all2]
  | cons y s => simp at hl
 | cons x r ih => cases b with
  | nil => simp at hl
  | cons y s =>
   have h0 := h 0 (by simp)
   simp only [all2]
   rw [ih (by simpa using hl) (fun i hi => by simpa [nth] using h (i + 1) (by simpa using hi))]
   simpa [nth] using h0
def idxI (l : List Int) (v : Int) : Int := idxF (fun x => decide (v = x)) l 0
theorem slices_Index_int_fn {l : List Int} {v : Int} (h : l.length ≤ 1000000000000) : FnD Tryz.prog 238 [.d (encInts l), .d (.i v)] [] (.d (.i (idxI l v))) [] := by
 refine bd Tryz.f238 19 [] [] fun w0 F0 own kept hk => ?_
 refine CWp.loopX (ι := List (Int) × List (Int)) hk (fun x => [(8, .d (.i (x.1.length : Int)))]) [4, 5, 9, 10, 11, 12, 13, 14, 15, 16, 17, 18] (fun x => []) (fun x => x.1 ++ x.2 = l ∧ idxF (fun x => decide (v = x)) x.2 x.1.length = idxF (fun x => decide (v = x)) l 0) (fun x => x.2.length) ([], l) ⟨by simp, rfl⟩ ⟨⟨_, rfl, (LeA.eqi (by first | rfl | (simp; done) | (simp_all; done) | omega))⟩, trivial⟩ trivial (fun x => rfl) (fun x hg1 => ?_)
 obtain ⟨pre, rest⟩ := x
 dsimp only at hg1 ⊢
 refine evc [] [] ?_
 refine sq (fun h1 h1p h1s => ?_) fun h1 h1p h1s => ?_
 ·try simp only [Q] at h1p
  rcases rest with _ | ⟨y, rest⟩
  ·exfalso; simp_all
  refine Walk.idx sl54 .none rfl rfl rfl rfl (zip_at hg1.1) rfl ?_
  refine ev ?_
  refine sq (fun h2 h2p h2s => ?_) fun h2 h2p h2s => ?_
  ·try simp only [Q] at h2p
   refine rn0 (r1 rfl) (.eqd ?_)
   all_goals (unfold idxI; rw [← hg1.2]; simp [idxF, h1s, h1p, h2s, h2p])
  ·try simp only [Q] at h2p
   refine ar ?_
   refine Exists.intro ((pre ++ [y], rest)) ⟨⟨(by have hz := hg1.1; rw [← hz]; simp), (by rw [← hg1.2]; simp [idxF, h2p])⟩, (by simp), Sub.x (by kernel_rfl) (by kernel_rfl) ⟨⟨_, rfl, (LeA.eqi (by first | rfl | (simp; done) | (simp_all; done) | omega))⟩, trivial⟩ (by kernel_rfl) (by kernel_rfl) trivial⟩
 ·try simp only [Q] at h1p
  have hrest : rest = [] := by
   rcases rest with _ | ⟨a, b⟩
   ·rfl
   ·exfalso; have hz := congrArg List.length (hg1.1); simp only [List.length_append, List.length_cons, List.length_map] at hz; omega
  subst hrest
  refine rn0 (r1 rfl) (.eqd ?_)
  all_goals (unfold idxI; rw [← hg1.2]; simp [idxF, h1s, h1p])
theorem slices_Contains_int_fn {l : List Int} {v : Int} (h : l.length ≤ 1000000000000) : FnD Tryz.prog 169 [.d (encInts l), .d (.i v)] [] (.d (.bool (decide (v ∈ l)))) [] := by
 refine bd Tryz.f169 9 [] [] fun w0 F0 own kept hk => ?_
 refine Walk.call (cr := []) cal238 (slices_Index_int_fn h) rfl .none rfl rfl (LeL.refl _) trivial rfl rfl rfl ?_
 refine ev ?_
 refine rn0 (r1 rfl) (.eqd ?_)
 all_goals (refine congrArg D.bool ?_; rw [show idxI l v = idxF (fun x => decide (v = x)) l 0 from rfl, idxF_any]; simp [List.any_eq, eq_comm])
theorem spec_l1Has_fn {l : List Int} {v : Int} (h : l.length ≤ 1000000000000) : FnD Tryz.prog 149 [.d (encInts l), .d (.i v)] [] (.d (.bool (decide (v ∈ l)))) [] := by
 refine bd Tryz.f149 18 [] [] fun w0 F0 own kept hk => ?_
 refine CWp.loopX (ι := List (Int) × List (Int)) hk (fun x => [(5, .d (.i (x.1.length : Int)))]) [4, 6, 7, 8, 9, 10, 11, 12, 13, 14, 15, 16, 17] (fun x => []) (fun x => x.1 ++ x.2 = l ∧ v ∉ x.1) (fun x => x.2.length) ([], l) ⟨by simp, by simp⟩ ⟨⟨_, rfl, (LeA.eqi (by first | rfl | (simp; done) | (simp_all; done) | omega))⟩, trivial⟩ trivial (fun x => rfl) (fun x hg1 => ?_)
 obtain ⟨pre, rest⟩ := x
 dsimp only at hg1 ⊢
 refine evc [] [] ?_
 refine sq (fun h1 h1p h1s => ?_) fun h1 h1p h1s => ?_
 ·try simp only [Q] at h1p
  rcases rest with _ | ⟨y, rest⟩
  ·exfalso; simp_all
  refine Walk.idx sl54 .none rfl rfl rfl rfl (zip_at hg1.1) rfl ?_
  refine ev ?_
  refine sq (fun h2 h2p h2s => ?_) fun h2 h2p h2s => ?_
  ·try simp only [Q] at h2p
   refine rn0 (r1 rfl) (.eqd ?_)
   all_goals (refine congrArg D.bool ?_; first | (symm; rw [decide_eq_true_eq, ← hg1.1]; simp [h1s, h1p, h2s, h2p]; done) | (symm; rw [decide_eq_false_iff_not, ← hg1.1]; intro hm; simp at hm; exact absurd hm (by simpa using hg1.2)))
  ·try simp only [Q] at h2p
   refine ar ?_
   refine Exists.intro ((pre ++ [y], rest)) ⟨⟨(by have hz := hg1.1; rw [← hz]; simp), (by have := hg1.2; simp [this, eq_comm]; omega)⟩, (by simp), Sub.x (by kernel_rfl) (by kernel_rfl) ⟨⟨_, rfl, (LeA.eqi (by first | rfl | (simp; done) | (simp_all; done) | omega))⟩, trivial⟩ (by kernel_rfl) (by kernel_rfl) trivial⟩
 ·try simp only [Q] at h1p
  have hrest : rest = [] := by
   rcases rest with _ | ⟨a, b⟩
   ·rfl
   ·exfalso; have hz := congrArg List.length (hg1.1); simp only [List.length_append, List.length_cons, List.length_map] at hz; omega
  subst hrest
  refine rn0 (r1 rfl) (.eqd ?_)
  all_goals (refine congrArg D.bool ?_; first | (symm; rw [decide_eq_true_eq, ← hg1.1]; simp [h1s, h1p]; done) | (symm; rw [decide_eq_false_iff_not, ← hg1.1]; intro hm; simp at hm; exact absurd hm (by simpa using hg1.2)))
def cutL (c : UInt8) : Str → Str → List Str
 | cur, [] => [cur]
 | cur, x :: r => if x = c then cur :: cutL c [] r else cutL c (cur ++ [x]) r
theorem cutL_len (c : UInt8) : ∀ (s cur : Str), (cutL c cur s).length ≤ s.length + 1
 | [], cur => by simp [cutL]
 | x :: r, cur => by
  simp only [cutL]
  split
  ·have := cutL_len c r []; simp only [List.length_cons]; omega
  ·have := cutL_len c r (cur ++ [x]); simp only [List.length_cons]; omega
theorem cutL_pos (c : UInt8) : ∀ (s cur : Str), 1 ≤ (cutL c cur s).length
 | [], cur => by simp [cutL]
 | x :: r, cur => by
  simp only [cutL]
  split
  ·simp
  ·exact cutL_pos c r (cur ++ [x])
theorem cutL_mem (c : UInt8) : ∀ (s cur : Str) (t : Str), t ∈ cutL c cur s → t.length ≤ cur.length + s.length
 | [], cur, t, h => by simp only [cutL, List.mem_singleton] at h; subst h; simp
 | x :: r, cur, t, h => by
  simp only [cutL] at h
  split at h
  ·rcases List.mem_cons.1 h with rfl | h
   ·simp
   ·have := cutL_mem c r [] t h; simp only [List.length_cons, List.length_nil] at this ⊢; omega
  ·have := cutL_mem c r (cur ++ [x]) t h; simp only [List.length_append, List.length_cons, List.length_nil] at this ⊢; omega
theorem str_at {s : Str} {i : Nat} (h : i < s.length) : s[i]? = some (nth s i) := by rw [nth_eq h]; exact List.getElem?_eq_getElem h
theorem cur_next {s : Str} {f i : Nat} (hf : f ≤ i) (h : i < s.length) : (s.take (i + 1)).drop f = (s.take i).drop f ++ [nth s i] := by
 rw [List.take_add_one, List.getElem?_eq_getElem h, List.drop_append_of_le_length (by simp; omega), nth_eq h]
 rfl
theorem cut_take {s : Str} {f i : Nat} : (s.drop f).take (i - f) = (s.take i).drop f := by rw [List.drop_take]
theorem spec_l17Cut_fn {s : Str} {c : UInt8} (hs : s.length ≤ 1000000000000) : FnD Tryz.prog 231 [.d (.str s), .d (.int .u8 (c.toNat : Int))] [] (.d (encStrs (cutL c [] s))) [] := by
 have hu : ∀ a : UInt8, ((a.toNat : Int) = (c.toNat : Int)) ↔ a = c := fun a => by rw [Int.natCast_inj]; exact UInt8.toNat_inj
 refine bd Tryz.f231 36 [] [] fun w0 F0 own kept hk => ?_
 refine Walk.sliceEmptyG 1 sl222 .none rfl rfl ?_
 refine ev ?_
 refine CWp.loopX (ι := Nat × Nat × List Str) hk (fun x => [(7, .d (.i (x.1 : Int))), (6, .d (.i (x.2.1 : Int))), (5, .gl 1 (x.2.2.map fun n => [D.str n]))]) [9, 10, 11, 12, 13, 14, 15, 16, 17, 18, 19, 20, 21, 22, 23, 24, 25, 26, 27, 28, 29, 30, 31, 32, 33, 34] (fun x => [(1, some (.tok ((x.2.2.map fun n => [D.str n])).length 1))]) (fun x => x.1 ≤ s.length + 1 ∧ x.2.2.length ≤ x.1 ∧ if x.1 = s.length + 1 then x.2.2 = cutL c [] s else x.2.1 ≤ x.1 ∧ x.2.2 ++ cutL c ((s.take x.1).drop x.2.1) (s.drop x.1) = cutL c [] s) (fun x => s.length + 1 - x.1) (0, 0, []) ⟨by simp, by simp, by rw [if_neg (by simp)]; simp⟩ ⟨⟨_, rfl, (LeA.eqi (by first | rfl | (split <;> first | rfl | (exfalso; simp_all; done) | (exfalso; simp_all; omega)) | (split <;> first | (simp [cut_take]; done) | (simp; done) | (exfalso; simp_all; done) | (exfalso; simp_all; omega))))⟩, ⟨⟨_, rfl, (LeA.eqi (by first | rfl | (split <;> first | rfl | (exfalso; simp_all; done) | (exfalso; simp_all; omega)) | (split <;> first | (simp [cut_take]; done) | (simp; done) | (exfalso; simp_all; done) | (exfalso; simp_all; omega))))⟩, ⟨⟨_, rfl, (LeA.glg (by first | rfl | (split <;> first | rfl | (exfalso; simp_all; done) | (exfalso; simp_all; omega)) | (split <;> first | (simp [cut_take]; done) | (simp; done) | (exfalso; simp_all; done) | (exfalso; simp_all; omega))))⟩, trivial⟩⟩⟩ ⟨beq_nat_eq (by first | rfl | (simp; done) | (simp; omega) | (first | rfl | (split <;> first | rfl | (exfalso; simp_all; done) | (exfalso; simp_all; omega)) | (split <;> first | (simp [cut_take]; done) | (simp; done) | (exfalso; simp_all; done) | (exfalso; simp_all; omega)))), trivial⟩ (fun x => rfl) (fun x hg1 => ?_)
 refine evc [] [] ?_
 refine sq (fun h1 h1p h1s => ?_) fun h1 h1p h1s => ?_
 ·try simp only [Q, hu] at h1p
  have hne : ¬ x.1 = s.length + 1 := (by omega)
  have hcond := hg1.2.2
  rw [if_neg hne] at hcond
  have hle := hcond.1
  refine sq (fun h2 h2p h2s => ?_) fun h2 h2p h2s => ?_
  ·try simp only [Q, hu] at h2p
   refine sqT ?_
   refine Walk.cutS_lh un9 .none rfl rfl rfl rfl rfl rfl (by omega) (by omega) ?_
   refine Walk.sliceLit sl222 tz9 rfl (by decide) (ks := [0]) (xs := [_]) rfl rfl (by decide) (by decide) .none rfl rfl rfl rfl ?_
   refine Walk.append sl222 zz9 rfl .none rfl rfl rfl rfl (htokL rfl (by first | rfl | (simp; done) | (simp; omega))) (by simp) (by simp; omega) (by simp; omega) ?_
   refine ev ?_
   refine ar ?_
   refine ar ?_
   refine Exists.intro (if x.1 = s.length ∨ nth s x.1 = c then (x.1 + 1, x.1 + 1, x.2.2 ++ [(s.take x.1).drop x.2.1]) else (x.1 + 1, x.2.1, x.2.2)) ⟨(by
      have hne : ¬ x.1 = s.length + 1 := by omega
      rw [if_neg hne] at hg1
      obtain ⟨g1, g2, g3, g4⟩ := hg1
      by_cases he : x.1 = s.length
      ·rw [if_pos (.inl he)]
       refine ⟨by dsimp only; omega, by simp; omega, ?_⟩
       dsimp only
       rw [if_pos (by omega), ← g4, he, List.drop_length]
       rfl
      ·have hlt : x.1 < s.length := by omega
       rw [drop_nth hlt] at g4
       by_cases hc : nth s x.1 = c
       ·rw [if_pos (.inr hc)]
        refine ⟨by dsimp only; omega, by simp; omega, ?_⟩
        dsimp only
        rw [if_neg (by omega)]
        refine ⟨by omega, ?_⟩
        rw [← g4, cutL, if_pos hc, List.append_assoc]
        simp
       ·rw [if_neg (by simp [he, hc])]
        refine ⟨by dsimp only; omega, by dsimp only; omega, ?_⟩
        dsimp only
        rw [if_neg (by omega)]
        refine ⟨by omega, ?_⟩
        rw [← g4, cutL, if_neg hc, cur_next g3 hlt]), (by split <;> (dsimp only; omega)), Sub.x (by kernel_rfl) (by kernel_rfl) ⟨⟨_, rfl, (LeA.eqi (by first | rfl | (split <;> first | rfl | (exfalso; simp_all; done) | (exfalso; simp_all; omega)) | (split <;> first | (simp [cut_take]; done) | (simp; done) | (exfalso; simp_all; done) | (exfalso; simp_all; omega))))⟩, ⟨⟨_, rfl, (LeA.eqi (by first | rfl | (split <;> first | rfl | (exfalso; simp_all; done) | (exfalso; simp_all; omega)) | (split <;> first | (simp [cut_take]; done) | (simp; done) | (exfalso; simp_all; done) | (exfalso; simp_all; omega))))⟩, ⟨⟨_, rfl, (LeA.glg (by first | rfl | (split <;> first | rfl | (exfalso; simp_all; done) | (exfalso; simp_all; omega)) | (split <;> first | (simp [cut_take]; done) | (simp; done) | (exfalso; simp_all; done) | (exfalso; simp_all; omega))))⟩, trivial⟩⟩⟩ (by kernel_rfl) (by kernel_rfl) ⟨beq_nat_eq (by first | rfl | (simp; done) | (simp; omega) | (first | rfl | (split <;> first | rfl | (exfalso; simp_all; done) | (exfalso; simp_all; omega)) | (split <;> first | (simp [cut_take]; done) | (simp; done) | (exfalso; simp_all; done) | (exfalso; simp_all; omega)))), trivial⟩⟩
  ·try simp only [Q, hu] at h2p
   refine Walk.idxS un9 (.some rfl rfl h2) rfl rfl rfl rfl (str_at (by omega)) ?_
   refine evs [] [(19, false)] ?_ ⟨⟨_, rfl, h2⟩, trivial⟩
   refine sq (fun h4 h4p h4s => ?_) fun h4 h4p h4s => ?_
   ·try simp only [Q, hu] at h4p
    refine Walk.cutS_lh un9 .none rfl rfl rfl rfl rfl rfl (by omega) (by omega) ?_
    refine Walk.sliceLit sl222 tz9 rfl (by decide) (ks := [0]) (xs := [_]) rfl rfl (by decide) (by decide) .none rfl rfl rfl rfl ?_
    refine Walk.append sl222 zz9 rfl .none rfl rfl rfl rfl (htokL rfl (by first | rfl | (simp; done) | (simp; omega))) (by simp) (by simp; omega) (by simp; omega) ?_
    refine ev ?_
    refine ar ?_
    refine ar ?_
    refine Exists.intro (if x.1 = s.length ∨ nth s x.1 = c then (x.1 + 1, x.1 + 1, x.2.2 ++ [(s.take x.1).drop x.2.1]) else (x.1 + 1, x.2.1, x.2.2)) ⟨(by
       have hne : ¬ x.1 = s.length + 1 := by omega
       rw [if_neg hne] at hg1
       obtain ⟨g1, g2, g3, g4⟩ := hg1
       by_cases he : x.1 = s.length
       ·rw [if_pos (.inl he)]
        refine ⟨by dsimp only; omega, by simp; omega, ?_⟩
        dsimp only
        rw [if_pos (by omega), ← g4, he, List.drop_length]
        rfl
       ·have hlt : x.1 < s.length := by omega
        rw [drop_nth hlt] at g4
        by_cases hc : nth s x.1 = c
        ·rw [if_pos (.inr hc)]
         refine ⟨by dsimp only; omega, by simp; omega, ?_⟩
         dsimp only
         rw [if_neg (by omega)]
         refine ⟨by omega, ?_⟩
         rw [← g4, cutL, if_pos hc, List.append_assoc]
         simp
        ·rw [if_neg (by simp [he, hc])]
         refine ⟨by dsimp only; omega, by dsimp only; omega, ?_⟩
         dsimp only
         rw [if_neg (by omega)]
         refine ⟨by omega, ?_⟩
         rw [← g4, cutL, if_neg hc, cur_next g3 hlt]), (by split <;> (dsimp only; omega)), Sub.x (by kernel_rfl) (by kernel_rfl) ⟨⟨_, rfl, (LeA.eqi (by first | rfl | (split <;> first | rfl | (exfalso; simp_all; done) | (exfalso; simp_all; omega)) | (split <;> first | (simp [cut_take]; done) | (simp; done) | (exfalso; simp_all; done) | (exfalso; simp_all; omega))))⟩, ⟨⟨_, rfl, (LeA.eqi (by first | rfl | (split <;> first | rfl | (exfalso; simp_all; done) | (exfalso; simp_all; omega)) | (split <;> first | (simp [cut_take]; done) | (simp; done) | (exfalso; simp_all; done) | (exfalso; simp_all; omega))))⟩, ⟨⟨_, rfl, (LeA.glg (by first | rfl | (split <;> first | rfl | (exfalso; simp_all; done) | (exfalso; simp_all; omega)) | (split <;> first | (simp [cut_take]; done) | (simp; done) | (exfalso; simp_all; done) | (exfalso; simp_all; omega))))⟩, trivial⟩⟩⟩ (by kernel_rfl) (by kernel_rfl) ⟨beq_nat_eq (by first | rfl | (simp; done) | (simp; omega) | (first | rfl | (split <;> first | rfl | (exfalso; simp_all; done) | (exfalso; simp_all; omega)) | (split <;> first | (simp [cut_take]; done) | (simp; done) | (exfalso; simp_all; done) | (exfalso; simp_all; omega)))), trivial⟩⟩
   ·try simp only [Q, hu] at h4p
    refine ar ?_
    refine Exists.intro (if x.1 = s.length ∨ nth s x.1 = c then (x.1 + 1, x.1 + 1, x.2.2 ++ [(s.take x.1).drop x.2.1]) else (x.1 + 1, x.2.1, x.2.2)) ⟨(by
       have hne : ¬ x.1 = s.length + 1 := by omega
       rw [if_neg hne] at hg1
       obtain ⟨g1, g2, g3, g4⟩ := hg1
       by_cases he : x.1 = s.length
       ·rw [if_pos (.inl he)]
        refine ⟨by dsimp only; omega, by simp; omega, ?_⟩
        dsimp only
        rw [if_pos (by omega), ← g4, he, List.drop_length]
        rfl
       ·have hlt : x.1 < s.length := by omega
        rw [drop_nth hlt] at g4
        by_cases hc : nth s x.1 = c
        ·rw [if_pos (.inr hc)]
         refine ⟨by dsimp only; omega, by simp; omega, ?_⟩
         dsimp only
         rw [if_neg (by omega)]
         refine ⟨by omega, ?_⟩
         rw [← g4, cutL, if_pos hc, List.append_assoc]
         simp
        ·rw [if_neg (by simp [he, hc])]
         refine ⟨by dsimp only; omega, by dsimp only; omega, ?_⟩
         dsimp only
         rw [if_neg (by omega)]
         refine ⟨by omega, ?_⟩
         rw [← g4, cutL, if_neg hc, cur_next g3 hlt]), (by split <;> (dsimp only; omega)), Sub.x (by kernel_rfl) (by kernel_rfl) ⟨⟨_, rfl, (LeA.eqi (by first | rfl | (split <;> first | rfl | (exfalso; simp_all; done) | (exfalso; simp_all; omega)) | (split <;> first | (simp [cut_take]; done) | (simp; done) | (exfalso; simp_all; done) | (exfalso; simp_all; omega))))⟩, ⟨⟨_, rfl, (LeA.eqi (by first | rfl | (split <;> first | rfl | (exfalso; simp_all; done) | (exfalso; simp_all; omega)) | (split <;> first | (simp [cut_take]; done) | (simp; done) | (exfalso; simp_all; done) | (exfalso; simp_all; omega))))⟩, ⟨⟨_, rfl, (LeA.glg (by first | rfl | (split <;> first | rfl | (exfalso; simp_all; done) | (exfalso; simp_all; omega)) | (split <;> first | (simp [cut_take]; done) | (simp; done) | (exfalso; simp_all; done) | (exfalso; simp_all; omega))))⟩, trivial⟩⟩⟩ (by kernel_rfl) (by kernel_rfl) ⟨beq_nat_eq (by first | rfl | (simp; done) | (simp; omega) | (first | rfl | (split <;> first | rfl | (exfalso; simp_all; done) | (exfalso; simp_all; omega)) | (split <;> first | (simp [cut_take]; done) | (simp; done) | (exfalso; simp_all; done) | (exfalso; simp_all; omega)))), trivial⟩⟩
 ·try simp only [Q, hu] at h1p
  refine rn0 (r1 rfl) (.gld ?_)
  all_goals (have e : x.1 = s.length + 1 := (by omega); rw [if_pos e] at hg1; rw [hg1.2.2])
def findN (names : List Str) (s : Str) : Int := if s = [73] then -1 else if s ∈ names then idxF (fun n => decide (n = s)) names 0 else -2
theorem spec_l1Find_fn {names : List Str} {s : Str} (hn : names.length ≤ 1000000000000) : FnD Tryz.prog 307 [.d (encStrs names), .d (.str s)] [] (.d (.i (findN names s))) [] := by
 refine bd Tryz.f307 21 [] [] fun w0 F0 own kept hk => ?_
 refine sq (fun h1 h1p h1s => ?_) fun h1 h1p h1s => ?_
 ·try simp only [Q] at h1p
  refine rn0 (r1 rfl) (.eqd ?_)
  all_goals (refine congrArg D.i ?_; unfold findN; by_cases hz : s = [73] <;> by_cases hm : s ∈ names <;> simp only [hz, hm, if_true, if_false]; all_goals first | rfl | omega | (exfalso; simp_all; done) | (exfalso; apply hm; subst h3p; rw [← hg1.1]; simp; done) | (exfalso; apply hg1.2.1; rw [← hg1.1, List.append_nil] at hm; exact hm) | (rw [← hg1.2.2]; simp_all [idxF]; done) | (exfalso; rw [← hg1.1] at hm; simp_all; done))
 ·try simp only [Q] at h1p
  refine CWp.loopX (ι := List (Str) × List (Str)) hk (fun x => [(5, .d (.i (x.1.length : Int)))]) [4, 8, 9, 10, 11, 12, 13, 14, 15, 16, 17, 18, 19, 20] (fun x => []) (fun x => x.1 ++ x.2 = names ∧ s ∉ x.1 ∧ idxF (fun n => decide (n = s)) x.2 x.1.length = idxF (fun n => decide (n = s)) names 0) (fun x => x.2.length) ([], names) ⟨by simp, by simp, rfl⟩ ⟨⟨_, rfl, (LeA.eqi (by first | rfl | (simp; done) | (simp_all; done) | omega))⟩, trivial⟩ trivial (fun x => rfl) (fun x hg1 => ?_)
  obtain ⟨pre, rest⟩ := x
  dsimp only at hg1 ⊢
  refine evc [] [] ?_
  refine sq (fun h2 h2p h2s => ?_) fun h2 h2p h2s => ?_
  ·try simp only [Q] at h2p
   rcases rest with _ | ⟨y, rest⟩
   ·exfalso; simp_all
   refine Walk.idx sl222 .none rfl rfl rfl rfl (zip_at hg1.1) rfl ?_
   refine ev ?_
   refine sq (fun h3 h3p h3s => ?_) fun h3 h3p h3s => ?_
   ·try simp only [Q] at h3p
    refine rn0 (r1 rfl) (.eqd ?_)
    all_goals (refine congrArg D.i ?_; unfold findN; by_cases hz : s = [73] <;> by_cases hm : s ∈ names <;> simp only [hz, hm, if_true, if_false]; all_goals first | rfl | omega | (exfalso; simp_all; done) | (exfalso; apply hm; subst h3p; rw [← hg1.1]; simp; done) | (exfalso; apply hg1.2.1; rw [← hg1.1, List.append_nil] at hm; exact hm) | (rw [← hg1.2.2]; simp_all [idxF]; done) | (exfalso; rw [← hg1.1] at hm; simp_all; done))
   ·try simp only [Q] at h3p
    refine ar ?_
    refine Exists.intro ((pre ++ [y], rest)) ⟨⟨(by have hz := hg1.1; rw [← hz]; simp), ⟨(by have h1 := hg1.2.1; simp_all [eq_comm]), (by rw [← hg1.2.2]; simp_all [idxF])⟩⟩, (by simp), Sub.x (by kernel_rfl) (by kernel_rfl) ⟨⟨_, rfl, (LeA.eqi (by first | rfl | (simp; done) | (simp_all; done) | omega))⟩, trivial⟩ (by kernel_rfl) (by kernel_rfl) trivial⟩
  ·try simp only [Q] at h2p
   have hrest : rest = [] := by
    rcases rest with _ | ⟨a, b⟩
    ·rfl
    ·exfalso; have hz := congrArg List.length (hg1.1); simp only [List.length_append, List.length_cons, List.length_map] at hz; omega
   subst hrest
   refine rn0 (r1 rfl) (.eqd ?_)
   all_goals (refine congrArg D.i ?_; unfold findN; by_cases hz : s = [73] <;> by_cases hm : s ∈ names <;> simp only [hz, hm, if_true, if_false]; all_goals first | rfl | omega | (exfalso; simp_all; done) | (exfalso; apply hm; subst h3p; rw [← hg1.1]; simp; done) | (exfalso; apply hg1.2.1; rw [← hg1.1, List.append_nil] at hm; exact hm) | (rw [← hg1.2.2]; simp_all [idxF]; done) | (exfalso; rw [← hg1.1] at hm; simp_all; done))
def parseTy (names : List Str) (s : Str) : Ty :=
 if s = [] then ⟨-2, 0⟩
 else ⟨findN names (s.take 1), if s.drop 1 = [42] then -1 else if s.length = 2 ∧ 48 ≤ (nth s 1).toNat ∧ (nth s 1).toNat ≤ 57 then ((nth s 1).toNat : Int) - 48 else 0⟩
theorem digit_wrap {b : UInt8} (h1 : 48 ≤ b.toNat) (h2 : b.toNat ≤ 57) : IntKind.i64.wrap (IntKind.u8.wrap ((b.toNat : Int) - 48)) = (b.toNat : Int) - 48 := by
 rw [wrap_u8, wrap_i64 (by omega)]; omega
theorem spec_l1ParseType_fn {names : List Str} {s : Str} (hn : names.length ≤ 1000000000000) (hs : s.length ≤ 1000000000000) :
  FnD Tryz.prog 278 [.d (encStrs names), .d (.str s)] [] (.agg [.d (.i (parseTy names s).data), .d (.i (parseTy names s).index)]) [] := by
 have hlen : s ≠ [] → 1 ≤ s.length := fun h => by rcases s with _ | ⟨a, r⟩; exact absurd rfl h; simp
 refine bd Tryz.f278 39 [35] [] fun w0 F0 own kept hk => ?_
 refine Walk.alloc (id := 3004) tz42 rfl .none rfl rfl rfl rfl ?_
 refine tv ?_
 refine sq (fun h1 h1p h1s => ?_) fun h1 h1p h1s => ?_
 ·try simp only [Q] at h1p
  refine Walk.build st42 (ks := [0]) (xs := [_]) rfl rfl .none rfl rfl rfl ?_
  refine Walk.store ty42 .none rfl rfl rfl rfl rfl rfl (by simp) rfl ?_
  refine tv ?_
  refine rn0 (.cons (.cellA ty42 rfl rfl rfl) .nil) (.agg (.cons (.eqd ?_) (.cons (.eqd ?_) .nil)))
  all_goals (unfold parseTy; first | rfl | (rw [digit_wrap (b := nth s 1) (by omega) (by omega), if_neg h1p]; dsimp only; rw [if_neg h2p, if_pos ⟨by omega, by omega, by omega⟩]; done) | (rw [if_pos h1p]; done) | (rw [if_neg h1p]; done) | (rw [if_neg h1p]; dsimp only; rw [if_pos h2p]; done) | (rw [if_neg h1p]; dsimp only; rw [if_neg h2p, if_neg (fun hh => by omega)]; done) | (simp_all; done))
 ·try simp only [Q] at h1p
  refine Walk.cutS_h (b := 1) un9 .none rfl rfl rfl rfl (by have := hlen (by simp_all); omega) ?_
  refine Walk.call (cr := []) cal307 (spec_l1Find_fn (names := names) (s := s.take 1) hn) rfl .none rfl rfl (LeL.refl _) trivial rfl rfl rfl ?_
  refine Walk.build st42 (ks := [0]) (xs := [_]) rfl rfl .none rfl rfl rfl ?_
  refine Walk.alloc (id := 3005) tz42 rfl .none rfl rfl rfl rfl ?_
  refine Walk.store ty42 .none rfl rfl rfl rfl rfl rfl (by simp) rfl ?_
  refine tv ?_
  refine Walk.cutS_l (b := 1) un9 .none rfl rfl rfl rfl (by have := hlen (by simp_all); omega) ?_
  refine evs [35] [] ?_
  refine sq (fun h2 h2p h2s => ?_) fun h2 h2p h2s => ?_
  ·try simp only [Q] at h2p
   refine Walk.store ty3 .none rfl rfl rfl rfl rfl rfl (by simp) rfl ?_
   refine tv ?_
   refine Walk.store ty42 .none rfl rfl rfl rfl rfl rfl (by simp) rfl ?_
   refine tv ?_
   refine rn0 (.cons (.cellA ty42 rfl rfl rfl) .nil) (.agg (.cons (.eqd ?_) (.cons (.eqd ?_) .nil)))
   all_goals (unfold parseTy; first | rfl | (rw [digit_wrap (b := nth s 1) (by omega) (by omega), if_neg h1p]; dsimp only; rw [if_neg h2p, if_pos ⟨by omega, by omega, by omega⟩]; done) | (rw [if_pos h1p]; done) | (rw [if_neg h1p]; done) | (rw [if_neg h1p]; dsimp only; rw [if_pos h2p]; done) | (rw [if_neg h1p]; dsimp only; rw [if_neg h2p, if_neg (fun hh => by omega)]; done) | (simp_all; done))
  ·try simp only [Q] at h2p
   refine sq (fun h3 h3p h3s => ?_) fun h3 h3p h3s => ?_
   ·try simp only [Q] at h3p
    refine Walk.idxS (i := 1) un9 (.some rfl rfl h3) rfl rfl rfl rfl (str_at (by simp_all; omega)) ?_
    refine evs [35] [(23, true)] ?_ ⟨⟨_, rfl, h3⟩, trivial⟩
    refine sq (fun h4 h4p h4s => ?_) fun h4 h4p h4s => ?_
    ·try simp only [Q] at h4p
     refine Walk.idxS (i := 1) un9 (.some rfl rfl h4) rfl rfl rfl rfl (str_at (by simp_all; omega)) ?_
     refine evs [35] [(28, true)] ?_ ⟨⟨_, rfl, h4⟩, trivial⟩
     refine sq (fun h5 h5p h5s => ?_) fun h5 h5p h5s => ?_
     ·try simp only [Q] at h5p
      refine Walk.idxS (i := 1) un9 .none rfl rfl rfl rfl (str_at (by simp_all; omega)) ?_
      refine Walk.subW .none rfl rfl rfl ?_
      refine Walk.conv (by rw [un5]; rfl) un3 .none rfl rfl ?_
      refine evs [35] [] ?_
      refine Walk.store ty3 .none rfl rfl rfl rfl rfl rfl (by simp) rfl ?_
      refine tv ?_
      refine Walk.store ty42 .none rfl rfl rfl rfl rfl rfl (by simp) rfl ?_
      refine tv ?_
      refine rn0 (.cons (.cellA ty42 rfl rfl rfl) .nil) (.agg (.cons (.eqd ?_) (.cons (.eqd ?_) .nil)))
      all_goals (unfold parseTy; first | rfl | (rw [digit_wrap (b := nth s 1) (by omega) (by omega), if_neg h1p]; dsimp only; rw [if_neg h2p, if_pos ⟨by omega, by omega, by omega⟩]; done) | (rw [if_pos h1p]; done) | (rw [if_neg h1p]; done) | (rw [if_neg h1p]; dsimp only; rw [if_pos h2p]; done) | (rw [if_neg h1p]; dsimp only; rw [if_neg h2p, if_neg (fun hh => by omega)]; done) | (simp_all; done))
     ·try simp only [Q] at h5p
      refine Walk.store ty42 .none rfl rfl rfl rfl rfl rfl (by simp) rfl ?_
      refine tv ?_
      refine rn0 (.cons (.cellA ty42 rfl rfl rfl) .nil) (.agg (.cons (.eqd ?_) (.cons (.eqd ?_) .nil)))
      all_goals (unfold parseTy; first | rfl | (rw [digit_wrap (b := nth s 1) (by omega) (by omega), if_neg h1p]; dsimp only; rw [if_neg h2p, if_pos ⟨by omega, by omega, by omega⟩]; done) | (rw [if_pos h1p]; done) | (rw [if_neg h1p]; done) | (rw [if_neg h1p]; dsimp only; rw [if_pos h2p]; done) | (rw [if_neg h1p]; dsimp only; rw [if_neg h2p, if_neg (fun hh => by omega)]; done) | (simp_all; done))
    ·try simp only [Q] at h4p
     refine sqF ?_
     refine Walk.store ty42 .none rfl rfl rfl rfl rfl rfl (by simp) rfl ?_
     refine tv ?_
     refine rn0 (.cons (.cellA ty42 rfl rfl rfl) .nil) (.agg (.cons (.eqd ?_) (.cons (.eqd ?_) .nil)))
     all_goals (unfold parseTy; first | rfl | (rw [digit_wrap (b := nth s 1) (by omega) (by omega), if_neg h1p]; dsimp only; rw [if_neg h2p, if_pos ⟨by omega, by omega, by omega⟩]; done) | (rw [if_pos h1p]; done) | (rw [if_neg h1p]; done) | (rw [if_neg h1p]; dsimp only; rw [if_pos h2p]; done) | (rw [if_neg h1p]; dsimp only; rw [if_neg h2p, if_neg (fun hh => by omega)]; done) | (simp_all; done))
   ·try simp only [Q] at h3p
    refine sqF ?_
    refine sqF ?_
    refine Walk.store ty42 .none rfl rfl rfl rfl rfl rfl (by simp) rfl ?_
    refine tv ?_
    refine rn0 (.cons (.cellA ty42 rfl rfl rfl) .nil) (.agg (.cons (.eqd ?_) (.cons (.eqd ?_) .nil)))
    all_goals (unfold parseTy; first | rfl | (rw [digit_wrap (b := nth s 1) (by omega) (by omega), if_neg h1p]; dsimp only; rw [if_neg h2p, if_pos ⟨by omega, by omega, by omega⟩]; done) | (rw [if_pos h1p]; done) | (rw [if_neg h1p]; done) | (rw [if_neg h1p]; dsimp only; rw [if_pos h2p]; done) | (rw [if_neg h1p]; dsimp only; rw [if_neg h2p, if_neg (fun hh => by omega)]; done) | (simp_all; done))
def endsIx (s : Str) : Prop := 2 < s.length ∧ nth s (s.length - 2) = 58
instance (s : Str) : Decidable (endsIx s) := inferInstanceAs (Decidable (_ ∧ _))
def ctorOf (names : List Str) (ix : Int) (s : Str) : Ctor :=
 let parts := cutL 40 [] s
 ⟨nth parts 0, if parts.length < 2 ∨ (nth parts 1).length = 0 then [] else ((cutL 44 [] ((nth parts 1).take ((nth parts 1).length - 1))).take 4).map (parseTy names), ix⟩
def parseCtor (names : List Str) (s : Str) : Ctor :=
 if endsIx s then ctorOf names (((nth s (s.length - 1)).toNat : Int) - 48) (s.take (s.length - 2)) else ctorOf names 0 s
theorem map_take_next {α β : Type} [Inhabited α] {f : α → β} {l : List α} {i : Nat} (h : i < l.length) : (l.map f).take (i + 1) = (l.map f).take i ++ [f (nth l i)] := by
 rw [List.take_add_one, List.getElem?_map, List.getElem?_eq_getElem h]
 simp [nth, List.getD, h]
theorem take_four {α : Type} {l : List α} {i : Nat} (h : i = 4 ∨ (i ≤ 4 ∧ l.length ≤ i)) : l.take i = l.take 4 := by
 rcases h with rfl | ⟨h1, h2⟩
 ·rfl
 ·rw [List.take_of_length_le h2, List.take_of_length_le (by omega)]
theorem u8_eq {a b : UInt8} : ((a.toNat : Int) = (b.toNat : Int)) ↔ a = b := by rw [Int.natCast_inj]; exact UInt8.toNat_inj
theorem wrap_byte (a : UInt8) : IntKind.i64.wrap (a.toNat : Int) = (a.toNat : Int) := by have := a.toNat_lt; exact wrap_i64 (by omega)
theorem cutL_nth {c : UInt8} {s : Str} {i : Nat} (h : i < (cutL c [] s).length) : (nth (cutL c [] s) i).length ≤ s.length := by
 have := cutL_mem c s [] _ (nth_mem h); simpa using this
theorem spec_l1ParseCtor_fn {names : List Str} {s : Str} (hn : names.length ≤ 1000000000000) (hs : s.length ≤ 1000000) :
  FnD Tryz.prog 232 [.d (encStrs names), .d (.str s)] [] (.agg [.d (.str (parseCtor names s).name), .d (encTys (parseCtor names s).args), .d (.i (parseCtor names s).index)]) [] := by
 have hwb := wrap_byte (nth s (s.length - 1))
 have hwl := (nth s (s.length - 1)).toNat_lt
 by_cases hc : endsIx s
 ·have hc1 := hc.1
  have hct : (s.take (s.length - 2)).length = s.length - 2 := by rw [List.length_take]; omega
  have hcl := cutL_len 40 (s.take (s.length - 2)) []
  have hcp := cutL_pos 40 (s.take (s.length - 2)) []
  have hn1 := fun h => cutL_nth (c := 40) (s := s.take (s.length - 2)) (i := 1) h
  have hal := cutL_len 44 ((nth (cutL 40 [] (s.take (s.length - 2))) 1).take ((nth (cutL 40 [] (s.take (s.length - 2))) 1).length - 1)) []
  refine bd Tryz.f232 83 [] [2, 7] fun w0 F0 own kept hk => ?_
  refine Walk.alloc (id := 3004) tz184 rfl .none rfl rfl rfl rfl ?_
  refine tv ?_
  refine Walk.build st184 (ks := []) (xs := []) rfl rfl .none rfl rfl rfl ?_
  refine Walk.alloc (id := 3005) tz184 rfl .none rfl rfl rfl rfl ?_
  refine Walk.store ty184 .none rfl rfl rfl rfl rfl rfl (by simp) rfl ?_
  refine tv ?_
  refine CWp.regionJ ?_
  refine WRest.join 11 [(20, .d (.bool (true)))] [10, 11, 12, 13, 14, 15, 16, 17, 18, 19] ?_ ?_
  ·
   refine ev ?_
   refine sq (fun h1 h1p h1s => ?_) fun h1 h1p h1s => ?_
   ·try simp only [Q, List.length_take] at h1p
    refine ar ?_
    refine Walk.idxS (i := s.length - 2) un9 (.some rfl rfl h1) rfl rfl rfl (by omega) (str_at (by omega)) ?_
    refine evs [] [(13, true)] ?_ ⟨⟨_, rfl, h1⟩, trivial⟩
    exact jn rfl (LeA.eqb (by first | rfl | (exfalso; omega) | (exact decide_eq_true (congrArg (fun z : UInt8 => (z.toNat : Int)) hc.2)) | (exact decide_eq_false (fun hh => hc ⟨by omega, (u8_eq (b := 58)).1 hh⟩)) | (refine (decide_eq_true ?_).symm; omega) | (refine decide_eq_decide.2 ?_; omega)))
   ·try simp only [Q, List.length_take] at h1p
    exact jn rfl (LeA.eqb (by first | rfl | (exfalso; omega) | (exact decide_eq_true (congrArg (fun z : UInt8 => (z.toNat : Int)) hc.2)) | (exact decide_eq_false (fun hh => hc ⟨by omega, (u8_eq (b := 58)).1 hh⟩)) | (refine (decide_eq_true ?_).symm; omega) | (refine decide_eq_decide.2 ?_; omega)))
  refine WRest.done ?_
  refine tv ?_
  refine sq (fun h2 h2p h2s => ?_) fun h2 h2p h2s => ?_
  ·try simp only [Q, List.length_take] at h2p
   refine ar ?_
   refine Walk.idxS (i := s.length - 1) un9 .none rfl rfl rfl (by omega) (str_at (by omega)) ?_
   refine Walk.conv (by rw [un5]; rfl) un3 .none rfl rfl ?_
   refine ev ?_
   refine ar ?_
   refine Walk.store ty3 .none rfl rfl rfl rfl rfl rfl (by simp) rfl ?_
   refine tv ?_
   refine ar ?_
   refine Walk.cutS_h (b := s.length - 2) un9 .none rfl rfl rfl (by omega) (by omega) ?_
   refine ev ?_
   refine Walk.call (cr := []) cal231 (spec_l17Cut_fn (s := s.take (s.length - 2)) (c := 40) (by first | omega | (simp; omega))) rfl .none rfl rfl (LeL.refl _) trivial rfl rfl rfl ?_
   refine ev ?_
   refine Walk.idx (i := 0) sl222 .none rfl rfl rfl rfl (at_nth (by omega)) rfl ?_
   refine ev ?_
   refine Walk.store ty9 .none rfl rfl rfl rfl rfl rfl (by simp) rfl ?_
   refine tv ?_
   refine CWp.regionJ ?_
   refine WRest.join 10 [(49, .d (.bool (decide ((cutL 40 [] (s.take (s.length - 2))).length < 2 ∨ (nth (cutL 40 [] (s.take (s.length - 2))) 1).length = 0))))] [40, 41, 42, 43, 44, 45, 46, 47, 48] ?_ ?_
   ·
    refine ev ?_
    refine sq (fun h3 h3p h3s => ?_) fun h3 h3p h3s => ?_
    ·try simp only [Q, List.length_take] at h3p
     exact jn rfl (LeA.eqb (by first | rfl | (exfalso; omega) | (exact decide_eq_true (congrArg (fun z : UInt8 => (z.toNat : Int)) hc.2)) | (exact decide_eq_false (fun hh => hc ⟨by omega, (u8_eq (b := 58)).1 hh⟩)) | (refine (decide_eq_true ?_).symm; omega) | (refine decide_eq_decide.2 ?_; omega)))
    ·try simp only [Q, List.length_take] at h3p
     refine Walk.idx (i := 1) sl222 (.some rfl rfl h3) rfl rfl rfl rfl (at_nth (by omega)) rfl ?_
     refine evs [] [(43, false)] ?_ ⟨⟨_, rfl, h3⟩, trivial⟩
     exact jn rfl (LeA.eqb (by first | rfl | (exfalso; omega) | (exact decide_eq_true (congrArg (fun z : UInt8 => (z.toNat : Int)) hc.2)) | (exact decide_eq_false (fun hh => hc ⟨by omega, (u8_eq (b := 58)).1 hh⟩)) | (refine (decide_eq_true ?_).symm; omega) | (refine decide_eq_decide.2 ?_; omega)))
   refine WRest.done ?_
   refine tv ?_
   refine sq (fun h4 h4p h4s => ?_) fun h4 h4p h4s => ?_
   ·try simp only [Q, List.length_take] at h4p
    refine Walk.store ty184 .none rfl rfl rfl rfl rfl rfl (by simp) rfl ?_
    refine tv ?_
    refine rn0 (.cons (.cellA ty184 rfl rfl rfl) .nil) (.agg (.cons (.eqd ?_) (.cons (.nild ?_) (.cons (.eqd ?_) .nil))))
    all_goals (unfold parseCtor; rw [if_pos hc]; first | rfl | (rw [hwb]; done) | (rw [hwb]; rfl) | (unfold ctorOf; dsimp only; by_cases hq : (cutL 40 [] (s.take (s.length - 2))).length < 2 ∨ (nth (cutL 40 [] (s.take (s.length - 2))) 1).length = 0; all_goals first | (exfalso; exact (of_decide_eq_false h4) hq) | (exfalso; exact hq (of_decide_eq_true h4)) | (rw [if_pos hq]; done) | (rw [if_pos hq]; rfl) | (rw [if_neg hq, ← List.map_take, take_four (by omega)]; done)))
   ·try simp only [Q, List.length_take] at h4p
    refine Walk.idx (i := 1) sl222 .none rfl rfl rfl rfl (at_nth (by omega)) rfl ?_
    refine evd [] [] ?_
    refine Walk.idx (i := 1) sl222 .none rfl rfl rfl rfl (at_nth (by omega)) rfl ?_
    refine evd [] [] ?_
    refine ar ?_
    refine Walk.cutS_h (b := (nth (cutL 40 [] (s.take (s.length - 2))) 1).length - 1) un9 .none rfl rfl rfl (by omega) (by omega) ?_
    refine Walk.call (cr := []) cal231 (spec_l17Cut_fn (s := (nth (cutL 40 [] (s.take (s.length - 2))) 1).take ((nth (cutL 40 [] (s.take (s.length - 2))) 1).length - 1)) (c := 44) (by simp; omega)) rfl .none rfl rfl (LeL.refl _) trivial rfl rfl rfl ?_
    refine evd [] [] ?_
    refine dr ?_
    refine CWp.tokB 3005 1 1 2 rfl rfl rfl rfl ?_
    refine CWp.loopX (ι := Nat) hk (fun i => [(8, .d (.i (i : Int)))]) [61, 62, 63, 64, 65, 66, 67, 68, 69, 70, 71, 72, 73, 74, 75, 76, 77, 78, 79, 80, 81] (fun i => [(3005, some (.box [.d (.str (nth (cutL 40 [] (s.take (s.length - 2))) 0)), .gl 1 (((((cutL 44 [] ((nth (cutL 40 [] (s.take (s.length - 2))) 1).take ((nth (cutL 40 [] (s.take (s.length - 2))) 1).length - 1))).map (parseTy names)).take i)).map Ty.c), .d (.i (((nth s (s.length - 1)).toNat : Int) - 48))])), (1, some (.tok (((((cutL 44 [] ((nth (cutL 40 [] (s.take (s.length - 2))) 1).take ((nth (cutL 40 [] (s.take (s.length - 2))) 1).length - 1))).map (parseTy names)).take i)).map Ty.c).length 2))]) (fun i => i ≤ 4 ∧ i ≤ (cutL 44 [] ((nth (cutL 40 [] (s.take (s.length - 2))) 1).take ((nth (cutL 40 [] (s.take (s.length - 2))) 1).length - 1))).length) (fun i => 4 - i) 0 ⟨by omega, by omega⟩ ⟨⟨_, rfl, (LeA.eqi (by first | rfl | (simp; done) | (simp_all; done) | omega))⟩, trivial⟩ ⟨(by first | rfl | (simp [getH]; done) | (show some (Res.box _) = some (Res.box _); rw [hwb]; rfl) | (show some (Res.box _) = some (Res.box _); rw [map_take_next (by omega)]; simp; done)), ⟨beq_nat_eq (by first | rfl | (simp; done) | (simp; omega) | (first | rfl | (simp; done) | (simp_all; done) | omega)), trivial⟩⟩ (fun x => rfl) (fun i hg1 => ?_)
    refine evc [] [2, 7] ?_
    refine sq (fun h5 h5p h5s => ?_) fun h5 h5p h5s => ?_
    ·try simp only [Q, List.length_take] at h5p
     refine sq (fun h6 h6p h6s => ?_) fun h6 h6p h6s => ?_
     ·try simp only [Q, List.length_take] at h6p
      refine Walk.idx sl222 .none rfl rfl rfl rfl (at_nth (by omega)) rfl ?_
      refine evd [] [] ?_
      refine Walk.call (cr := []) cal278 (spec_l1ParseType_fn (names := names) (s := nth (cutL 44 [] ((nth (cutL 40 [] (s.take (s.length - 2))) 1).take ((nth (cutL 40 [] (s.take (s.length - 2))) 1).length - 1))) i) hn (by have := cutL_nth (c := 44) (s := (nth (cutL 40 [] (s.take (s.length - 2))) 1).take ((nth (cutL 40 [] (s.take (s.length - 2))) 1).length - 1)) (i := i) (by omega); simp at this; omega)) rfl .none rfl rfl (LeL.refl _) trivial rfl rfl rfl ?_
      refine Walk.sliceLit sl182 tz42 rfl (by decide) (ks := [0]) (xs := [_]) rfl rfl (by decide) (by decide) .none rfl rfl rfl rfl ?_
      refine Walk.append sl182 zz42 rfl .none rfl rfl rfl rfl (htokL rfl (by first | rfl | (simp; done) | (simp; omega))) (by simp) (by simp; omega) (by simp; omega) ?_
      refine evd [] [] ?_
      refine Walk.store ty182 .none rfl rfl rfl rfl rfl rfl (by simp) rfl ?_
      refine dr ?_
      refine ar ?_
      refine Exists.intro (i + 1) ⟨⟨by omega, by omega⟩, (by omega), Sub.x (by kernel_rfl) (by kernel_rfl) ⟨⟨_, rfl, (LeA.eqi (by first | rfl | (simp; done) | (simp_all; done) | omega))⟩, trivial⟩ (by kernel_rfl) (by kernel_rfl) ⟨(by first | rfl | (simp [getH]; done) | (show some (Res.box _) = some (Res.box _); rw [hwb]; rfl) | (show some (Res.box _) = some (Res.box _); rw [map_take_next (by omega)]; simp; done)), ⟨beq_nat_eq (by first | rfl | (simp; done) | (simp; omega) | (first | rfl | (simp; done) | (simp_all; done) | omega)), trivial⟩⟩⟩
     ·try simp only [Q, List.length_take] at h6p
      refine Walk.store ty184 .none rfl rfl rfl rfl rfl rfl (by simp) rfl ?_
      refine tv ?_
      refine rn0 (.cons (.cellA ty184 rfl rfl rfl) .nil) (.agg (.cons (.eqd ?_) (.cons (.gld ?_) (.cons (.eqd ?_) .nil))))
      all_goals (unfold parseCtor; rw [if_pos hc]; first | rfl | (rw [hwb]; done) | (rw [hwb]; rfl) | (unfold ctorOf; dsimp only; by_cases hq : (cutL 40 [] (s.take (s.length - 2))).length < 2 ∨ (nth (cutL 40 [] (s.take (s.length - 2))) 1).length = 0; all_goals first | (exfalso; exact (of_decide_eq_false h4) hq) | (exfalso; exact hq (of_decide_eq_true h4)) | (rw [if_pos hq]; done) | (rw [if_pos hq]; rfl) | (rw [if_neg hq, ← List.map_take, take_four (by omega)]; done)))
    ·try simp only [Q, List.length_take] at h5p
     refine sqF ?_
     refine Walk.store ty184 .none rfl rfl rfl rfl rfl rfl (by simp) rfl ?_
     refine tv ?_
     refine rn0 (.cons (.cellA ty184 rfl rfl rfl) .nil) (.agg (.cons (.eqd ?_) (.cons (.gld ?_) (.cons (.eqd ?_) .nil))))
     all_goals (unfold parseCtor; rw [if_pos hc]; first | rfl | (rw [hwb]; done) | (rw [hwb]; rfl) | (unfold ctorOf; dsimp only; by_cases hq : (cutL 40 [] (s.take (s.length - 2))).length < 2 ∨ (nth (cutL 40 [] (s.take (s.length - 2))) 1).length = 0; all_goals first | (exfalso; exact (of_decide_eq_false h4) hq) | (exfalso; exact hq (of_decide_eq_true h4)) | (rw [if_pos hq]; done) | (rw [if_pos hq]; rfl) | (rw [if_neg hq, ← List.map_take, take_four (by omega)]; done)))
  ·try simp only [Q, List.length_take] at h2p
   exact absurd h2 (by simp) --stop
 ·skip
  have hcl := cutL_len 40 (s) []
  have hcp := cutL_pos 40 (s) []
  have hn1 := fun h => cutL_nth (c := 40) (s := s) (i := 1) h
  have hal := cutL_len 44 ((nth (cutL 40 [] (s)) 1).take ((nth (cutL 40 [] (s)) 1).length - 1)) []
  refine bd Tryz.f232 83 [] [2, 7] fun w0 F0 own kept hk => ?_
  refine Walk.alloc (id := 3004) tz184 rfl .none rfl rfl rfl rfl ?_
  refine tv ?_
  refine Walk.build st184 (ks := []) (xs := []) rfl rfl .none rfl rfl rfl ?_
  refine Walk.alloc (id := 3005) tz184 rfl .none rfl rfl rfl rfl ?_
  refine Walk.store ty184 .none rfl rfl rfl rfl rfl rfl (by simp) rfl ?_
  refine tv ?_
  refine CWp.regionJ ?_
  refine WRest.join 11 [(20, .d (.bool (false)))] [10, 11, 12, 13, 14, 15, 16, 17, 18, 19] ?_ ?_
  ·
   refine ev ?_
   refine sq (fun h1 h1p h1s => ?_) fun h1 h1p h1s => ?_
   ·try simp only [Q, List.length_take] at h1p
    refine ar ?_
    refine Walk.idxS (i := s.length - 2) un9 (.some rfl rfl h1) rfl rfl rfl (by omega) (str_at (by omega)) ?_
    refine evs [] [(13, true)] ?_ ⟨⟨_, rfl, h1⟩, trivial⟩
    exact jn rfl (LeA.eqb (by first | rfl | (exfalso; omega) | (exact decide_eq_true (congrArg (fun z : UInt8 => (z.toNat : Int)) hc.2)) | (exact decide_eq_false (fun hh => hc ⟨by omega, (u8_eq (b := 58)).1 hh⟩)) | (refine (decide_eq_true ?_).symm; omega) | (refine decide_eq_decide.2 ?_; omega)))
   ·try simp only [Q, List.length_take] at h1p
    exact jn rfl (LeA.eqb (by first | rfl | (exfalso; omega) | (exact decide_eq_true (congrArg (fun z : UInt8 => (z.toNat : Int)) hc.2)) | (exact decide_eq_false (fun hh => hc ⟨by omega, (u8_eq (b := 58)).1 hh⟩)) | (refine (decide_eq_true ?_).symm; omega) | (refine decide_eq_decide.2 ?_; omega)))
  refine WRest.done ?_
  refine tv ?_
  refine sq (fun h2 h2p h2s => ?_) fun h2 h2p h2s => ?_
  ·try simp only [Q, List.length_take] at h2p
   exact absurd h2 (by simp) --stop
  ·try simp only [Q, List.length_take] at h2p
   refine Walk.call (cr := []) cal231 (spec_l17Cut_fn (s := s) (c := 40) (by first | omega | (simp; omega))) rfl .none rfl rfl (LeL.refl _) trivial rfl rfl rfl ?_
   refine ev ?_
   refine Walk.idx (i := 0) sl222 .none rfl rfl rfl rfl (at_nth (by omega)) rfl ?_
   refine ev ?_
   refine Walk.store ty9 .none rfl rfl rfl rfl rfl rfl (by simp) rfl ?_
   refine tv ?_
   refine CWp.regionJ ?_
   refine WRest.join 10 [(49, .d (.bool (decide ((cutL 40 [] (s)).length < 2 ∨ (nth (cutL 40 [] (s)) 1).length = 0))))] [40, 41, 42, 43, 44, 45, 46, 47, 48] ?_ ?_
   ·
    refine ev ?_
    refine sq (fun h3 h3p h3s => ?_) fun h3 h3p h3s => ?_
    ·try simp only [Q, List.length_take] at h3p
     exact jn rfl (LeA.eqb (by first | rfl | (exfalso; omega) | (exact decide_eq_true (congrArg (fun z : UInt8 => (z.toNat : Int)) hc.2)) | (exact decide_eq_false (fun hh => hc ⟨by omega, (u8_eq (b := 58)).1 hh⟩)) | (refine (decide_eq_true ?_).symm; omega) | (refine decide_eq_decide.2 ?_; omega)))
    ·try simp only [Q, List.length_take] at h3p
     refine Walk.idx (i := 1) sl222 (.some rfl rfl h3) rfl rfl rfl rfl (at_nth (by omega)) rfl ?_
     refine evs [] [(43, false)] ?_ ⟨⟨_, rfl, h3⟩, trivial⟩
     exact jn rfl (LeA.eqb (by first | rfl | (exfalso; omega) | (exact decide_eq_true (congrArg (fun z : UInt8 => (z.toNat : Int)) hc.2)) | (exact decide_eq_false (fun hh => hc ⟨by omega, (u8_eq (b := 58)).1 hh⟩)) | (refine (decide_eq_true ?_).symm; omega) | (refine decide_eq_decide.2 ?_; omega)))
   refine WRest.done ?_
   refine tv ?_
   refine sq (fun h4 h4p h4s => ?_) fun h4 h4p h4s => ?_
   ·try simp only [Q, List.length_take] at h4p
    refine Walk.store ty184 .none rfl rfl rfl rfl rfl rfl (by simp) rfl ?_
    refine tv ?_
    refine rn0 (.cons (.cellA ty184 rfl rfl rfl) .nil) (.agg (.cons (.eqd ?_) (.cons (.nild ?_) (.cons (.eqd ?_) .nil))))
    all_goals (unfold parseCtor; rw [if_neg hc]; first | rfl | (rw [hwb]; done) | (rw [hwb]; rfl) | (unfold ctorOf; dsimp only; by_cases hq : (cutL 40 [] (s)).length < 2 ∨ (nth (cutL 40 [] (s)) 1).length = 0; all_goals first | (exfalso; exact (of_decide_eq_false h4) hq) | (exfalso; exact hq (of_decide_eq_true h4)) | (rw [if_pos hq]; done) | (rw [if_pos hq]; rfl) | (rw [if_neg hq, ← List.map_take, take_four (by omega)]; done)))
   ·try simp only [Q, List.length_take] at h4p
    refine Walk.idx (i := 1) sl222 .none rfl rfl rfl rfl (at_nth (by omega)) rfl ?_
    refine evd [] [] ?_
    refine Walk.idx (i := 1) sl222 .none rfl rfl rfl rfl (at_nth (by omega)) rfl ?_
    refine evd [] [] ?_
    refine ar ?_
    refine Walk.cutS_h (b := (nth (cutL 40 [] (s)) 1).length - 1) un9 .none rfl rfl rfl (by omega) (by omega) ?_
    refine Walk.call (cr := []) cal231 (spec_l17Cut_fn (s := (nth (cutL 40 [] (s)) 1).take ((nth (cutL 40 [] (s)) 1).length - 1)) (c := 44) (by simp; omega)) rfl .none rfl rfl (LeL.refl _) trivial rfl rfl rfl ?_
    refine evd [] [] ?_
    refine dr ?_
    refine CWp.tokB 3005 1 1 2 rfl rfl rfl rfl ?_
    refine CWp.loopX (ι := Nat) hk (fun i => [(8, .d (.i (i : Int)))]) [61, 62, 63, 64, 65, 66, 67, 68, 69, 70, 71, 72, 73, 74, 75, 76, 77, 78, 79, 80, 81] (fun i => [(3005, some (.box [.d (.str (nth (cutL 40 [] (s)) 0)), .gl 1 (((((cutL 44 [] ((nth (cutL 40 [] (s)) 1).take ((nth (cutL 40 [] (s)) 1).length - 1))).map (parseTy names)).take i)).map Ty.c), .d (.i (0))])), (1, some (.tok (((((cutL 44 [] ((nth (cutL 40 [] (s)) 1).take ((nth (cutL 40 [] (s)) 1).length - 1))).map (parseTy names)).take i)).map Ty.c).length 2))]) (fun i => i ≤ 4 ∧ i ≤ (cutL 44 [] ((nth (cutL 40 [] (s)) 1).take ((nth (cutL 40 [] (s)) 1).length - 1))).length) (fun i => 4 - i) 0 ⟨by omega, by omega⟩ ⟨⟨_, rfl, (LeA.eqi (by first | rfl | (simp; done) | (simp_all; done) | omega))⟩, trivial⟩ ⟨(by first | rfl | (simp [getH]; done) | (show some (Res.box _) = some (Res.box _); rw [hwb]; rfl) | (show some (Res.box _) = some (Res.box _); rw [map_take_next (by omega)]; simp; done)), ⟨beq_nat_eq (by first | rfl | (simp; done) | (simp; omega) | (first | rfl | (simp; done) | (simp_all; done) | omega)), trivial⟩⟩ (fun x => rfl) (fun i hg1 => ?_)
    refine evc [] [2, 7] ?_
    refine sq (fun h5 h5p h5s => ?_) fun h5 h5p h5s => ?_
    ·try simp only [Q, List.length_take] at h5p
     refine sq (fun h6 h6p h6s => ?_) fun h6 h6p h6s => ?_
     ·try simp only [Q, List.length_take] at h6p
      refine Walk.idx sl222 .none rfl rfl rfl rfl (at_nth (by omega)) rfl ?_
      refine evd [] [] ?_
      refine Walk.call (cr := []) cal278 (spec_l1ParseType_fn (names := names) (s := nth (cutL 44 [] ((nth (cutL 40 [] (s)) 1).take ((nth (cutL 40 [] (s)) 1).length - 1))) i) hn (by have := cutL_nth (c := 44) (s := (nth (cutL 40 [] (s)) 1).take ((nth (cutL 40 [] (s)) 1).length - 1)) (i := i) (by omega); simp at this; omega)) rfl .none rfl rfl (LeL.refl _) trivial rfl rfl rfl ?_
      refine Walk.sliceLit sl182 tz42 rfl (by decide) (ks := [0]) (xs := [_]) rfl rfl (by decide) (by decide) .none rfl rfl rfl rfl ?_
      refine Walk.append sl182 zz42 rfl .none rfl rfl rfl rfl (htokL rfl (by first | rfl | (simp; done) | (simp; omega))) (by simp) (by simp; omega) (by simp; omega) ?_
      refine evd [] [] ?_
      refine Walk.store ty182 .none rfl rfl rfl rfl rfl rfl (by simp) rfl ?_
      refine dr ?_
      refine ar ?_
      refine Exists.intro (i + 1) ⟨⟨by omega, by omega⟩, (by omega), Sub.x (by kernel_rfl) (by kernel_rfl) ⟨⟨_, rfl, (LeA.eqi (by first | rfl | (simp; done) | (simp_all; done) | omega))⟩, trivial⟩ (by kernel_rfl) (by kernel_rfl) ⟨(by first | rfl | (simp [getH]; done) | (show some (Res.box _) = some (Res.box _); rw [hwb]; rfl) | (show some (Res.box _) = some (Res.box _); rw [map_take_next (by omega)]; simp; done)), ⟨beq_nat_eq (by first | rfl | (simp; done) | (simp; omega) | (first | rfl | (simp; done) | (simp_all; done) | omega)), trivial⟩⟩⟩
     ·try simp only [Q, List.length_take] at h6p
      refine Walk.store ty184 .none rfl rfl rfl rfl rfl rfl (by simp) rfl ?_
      refine tv ?_
      refine rn0 (.cons (.cellA ty184 rfl rfl rfl) .nil) (.agg (.cons (.eqd ?_) (.cons (.gld ?_) (.cons (.eqd ?_) .nil))))
      all_goals (unfold parseCtor; rw [if_neg hc]; first | rfl | (rw [hwb]; done) | (rw [hwb]; rfl) | (unfold ctorOf; dsimp only; by_cases hq : (cutL 40 [] (s)).length < 2 ∨ (nth (cutL 40 [] (s)) 1).length = 0; all_goals first | (exfalso; exact (of_decide_eq_false h4) hq) | (exfalso; exact hq (of_decide_eq_true h4)) | (rw [if_pos hq]; done) | (rw [if_pos hq]; rfl) | (rw [if_neg hq, ← List.map_take, take_four (by omega)]; done)))
    ·try simp only [Q, List.length_take] at h5p
     refine sqF ?_
     refine Walk.store ty184 .none rfl rfl rfl rfl rfl rfl (by simp) rfl ?_
     refine tv ?_
     refine rn0 (.cons (.cellA ty184 rfl rfl rfl) .nil) (.agg (.cons (.eqd ?_) (.cons (.gld ?_) (.cons (.eqd ?_) .nil))))
     all_goals (unfold parseCtor; rw [if_neg hc]; first | rfl | (rw [hwb]; done) | (rw [hwb]; rfl) | (unfold ctorOf; dsimp only; by_cases hq : (cutL 40 [] (s)).length < 2 ∨ (nth (cutL 40 [] (s)) 1).length = 0; all_goals first | (exfalso; exact (of_decide_eq_false h4) hq) | (exfalso; exact hq (of_decide_eq_true h4)) | (rw [if_pos hq]; done) | (rw [if_pos hq]; rfl) | (rw [if_neg hq, ← List.map_take, take_four (by omega)]; done)))
def decV (n : Int) : Str := strN [IntKind.u8.wrap (48 + n)]
theorem decV_len (n : Int) : (decV n).length = 1 := rfl
def ixText (n : Int) : Str := if n = 0 then [] else if n = -1 then [42] else decV n
theorem ixText_len (n : Int) : (ixText n).length ≤ 1 := by unfold ixText; split; simp; split; simp; rw [decV_len]; omega
def tyText (w : List Data) (t : Ty) : Str := if t.data = -1 then [73] else (nth w t.data.toNat).name ++ ixText t.index
def argsFrom (w : List Data) : Bool → List Ty → Str
 | _, [] => []
 | b, t :: r => ((if b then [40] else [44]) ++ tyText w t) ++ argsFrom w false r
def ctorText (w : List Data) (c : Ctor) : Str :=
 let o := c.name ++ argsFrom w true c.args
 let p := if 0 < c.args.length then o ++ [41] else o
 if 0 < c.index then (p ++ [58]) ++ decV c.index else p
def ctsFrom (w : List Data) : Bool → List Ctor → Str
 | _, [] => []
 | b, c :: r => ((if b then [] else [124]) ++ ctorText w c) ++ ctsFrom w false r
def dsFrom (w : List Data) : Bool → List Data → Str
 | _, [] => []
 | b, d :: r => ((if b then [] else [59]) ++ (d.name ++ [61]) ++ ctsFrom w true d.ctors) ++ dsFrom w false r
def worldText (w : List Data) : Str := dsFrom w true w
structure TB (w : List Data) : Prop where
 len : w.length ≤ 4
 dn : ∀ d ∈ w, d.name.length ≤ 1 ∧ d.ctors.length ≤ 4
 cn : ∀ d ∈ w, ∀ c ∈ d.ctors, c.name.length ≤ 5 ∧ c.args.length ≤ 3 ∧ 0 ≤ c.index ∧ c.index ≤ 3
 ar : ∀ d ∈ w, ∀ c ∈ d.ctors, ∀ t ∈ c.args, (t.data = -1 ∨ (0 ≤ t.data ∧ t.data.toNat < w.length)) ∧ -1 ≤ t.index ∧ t.index ≤ 3
theorem valid_tb {w : List Data} (hv : worldValid w = true) : TB w := by
 have hW := (worldValid_iff w).1 hv
 refine ⟨hW.len, fun d hd => ?_, fun d hd c hc => ?_, fun d hd c hc t ht => ?_⟩
 ·have h := hW.data d hd
  have h1 := h.1
  simp only [dataNameOk, Bool.and_eq_true, decide_eq_true_eq] at h1
  omega
 ·have h := hW.ctor d hd c hc
  simp only [ctorOk, nameValid, within, Bool.and_eq_true, decide_eq_true_eq] at h
  omega
 ·have h := hW.ctor d hd c hc
  simp only [ctorOk, Bool.and_eq_true, Bool.not_eq_true', List.any_eq_false] at h
  have hax : argOk w.length t = true := by
   have := h.2.2.2 t ht
   cases h : argOk w.length t with
   | true => rfl
   | false => rw [h] at this; exact absurd rfl this
  simp only [argOk, within, Bool.or_eq_true, Bool.and_eq_true, decide_eq_true_eq, and_true] at hax
  omega
theorem tyText_len {w : List Data} (hb : TB w) {t : Ty} (ht : t.data = -1 ∨ (0 ≤ t.data ∧ t.data.toNat < w.length)) : (tyText w t).length ≤ 2 := by
 unfold tyText
 split
 ·simp
 ·rename_i h
  have h1 := (hb.dn _ (nth_mem (l := w) (i := t.data.toNat) (by omega))).1
  have h2 := ixText_len t.index
  simp only [List.length_append]; omega
theorem argsFrom_len {w : List Data} (hb : TB w) : ∀ (l : List Ty) (b : Bool), (∀ t ∈ l, t.data = -1 ∨ (0 ≤ t.data ∧ t.data.toNat < w.length)) → (argsFrom w b l).length ≤ 3 * l.length
 | [], _, _ => by simp [argsFrom]
 | t :: r, b, h => by
  have h1 := tyText_len hb (h t (by simp))
  have h2 := argsFrom_len hb r false (fun x hx => h x (by simp [hx]))
  simp only [argsFrom, List.length_append, List.length_cons]
  have h3 : (if b = true then [(40 : UInt8)] else [44]).length = 1 := by split <;> rfl
  omega
theorem ctorText_len {w : List Data} (hb : TB w) {c : Ctor} (h1 : c.name.length ≤ 5 ∧ c.args.length ≤ 3) (h2 : ∀ t ∈ c.args, t.data = -1 ∨ (0 ≤ t.data ∧ t.data.toNat < w.length)) : (ctorText w c).length ≤ 20 := by
 have h3 := argsFrom_len hb c.args true h2
 unfold ctorText
 dsimp only
 have h4 := decV_len c.index
 split <;> split <;> simp only [List.length_append, List.length_cons, List.length_nil] <;> omega
theorem ctsFrom_len {w : List Data} : ∀ (l : List Ctor) (b : Bool), (∀ c ∈ l, (ctorText w c).length ≤ 20) → (ctsFrom w b l).length ≤ 21 * l.length
 | [], _, _ => by simp [ctsFrom]
 | c :: r, b, h => by
  have h1 := h c (by simp)
  have h2 := ctsFrom_len r false (fun x hx => h x (by simp [hx]))
  simp only [ctsFrom, List.length_append, List.length_cons]
  have h3 : (if b = true then ([] : Str) else [124]).length ≤ 1 := by split <;> simp
  omega
theorem spec_l17Dec_fn {n : Int} (h0 : 0 ≤ n) (h9 : n ≤ 9) : FnD Tryz.prog 309 [.d (.i n)] [] (.d (.str (decV n))) [] := by
 refine bd Tryz.f309 31 [30] [] fun w0 F0 own kept hk => ?_
 refine sq (fun h1 h1p h1s => ?_) fun h1 h1p h1s => ?_
 ·try simp only [Q] at h1p
  exfalso; omega --stop
 ·try simp only [Q] at h1p
  refine sq (fun h2 h2p h2s => ?_) fun h2 h2p h2s => ?_
  ·try simp only [Q] at h2p
   exfalso; omega --stop
  ·try simp only [Q] at h2p
   refine CWp.loopX (ι := Unit) hk (fun x => [(0, .d (.i n)), (3, .d (.str []))]) [12, 13, 14, 15, 16, 17, 18, 19, 20, 21, 22, 23] (fun x => []) (fun x => True) (fun x => 0) () trivial ⟨⟨_, rfl, (LeA.eqi (by first | rfl | (simp; done) | (simp_all; done) | omega))⟩, ⟨⟨_, rfl, (LeA.eqs (by first | rfl | (simp; done) | (simp_all; done) | omega))⟩, trivial⟩⟩ trivial (fun x => rfl) (fun x hg1 => ?_)
   refine evc [30] [] ?_
   refine sq (fun h3 h3p h3s => ?_) fun h3 h3p h3s => ?_
   ·try simp only [Q] at h3p
    exfalso; omega --stop
   ·try simp only [Q] at h3p
    refine ar ?_
    refine Walk.conv (by rw [un3]; rfl) un5 .none rfl rfl ?_
    refine Walk.sliceLit sl48 tz5 rfl (by decide) (ks := [0]) (xs := [_]) rfl rfl (by decide) (by decide) .none rfl rfl rfl rfl ?_
    refine Walk.bytesStr sl48 un9 (by kernel_rfl) .none rfl rfl rfl (by first | rfl | exact numsD_enc _) ?_
    refine evs [30] [] ?_
    refine Walk.catS .none rfl rfl rfl (by simp [strN]) ?_
    refine evs [30] [] ?_
    refine rn0 (r1 rfl) (.eqd ?_)
    all_goals (first | rfl | (refine congrArg D.str ?_; unfold decV; rw [List.append_nil]; done) | (simp [decV]; done))
theorem spec_l1Index_fn {n : Int} (h0 : -1 ≤ n) (h9 : n ≤ 9) : FnD Tryz.prog 317 [.d (.i n)] [] (.d (.str (ixText n))) [] := by
 refine bd Tryz.f317 10 [] [] fun w0 F0 own kept hk => ?_
 refine sq (fun h1 h1p h1s => ?_) fun h1 h1p h1s => ?_
 ·try simp only [Q] at h1p
  refine rn0 (r1 rfl) (.eqd ?_)
  all_goals (refine congrArg D.str ?_; unfold ixText; first | (rw [if_pos (by omega)]; done) | (rw [if_neg (by omega), if_pos (by omega)]; done) | (rw [if_neg (by omega), if_neg (by omega)]; done) | (rw [if_pos (by omega)]; rfl) | (rw [if_neg (by omega), if_pos (by omega)]; rfl))
 ·try simp only [Q] at h1p
  refine sq (fun h2 h2p h2s => ?_) fun h2 h2p h2s => ?_
  ·try simp only [Q] at h2p
   refine rn0 (r1 rfl) (.eqd ?_)
   all_goals (refine congrArg D.str ?_; unfold ixText; first | (rw [if_pos (by omega)]; done) | (rw [if_neg (by omega), if_pos (by omega)]; done) | (rw [if_neg (by omega), if_neg (by omega)]; done) | (rw [if_pos (by omega)]; rfl) | (rw [if_neg (by omega), if_pos (by omega)]; rfl))
  ·try simp only [Q] at h2p
   refine Walk.call (cr := []) cal309 (spec_l17Dec_fn (by omega) (by omega)) rfl .none rfl rfl (LeL.refl _) trivial rfl rfl rfl ?_
   refine ev ?_
   refine rn0 (r1 rfl) (.eqd ?_)
   all_goals (refine congrArg D.str ?_; unfold ixText; first | (rw [if_pos (by omega)]; done) | (rw [if_neg (by omega), if_pos (by omega)]; done) | (rw [if_neg (by omega), if_neg (by omega)]; done) | (rw [if_pos (by omega)]; rfl) | (rw [if_neg (by omega), if_pos (by omega)]; rfl))
theorem spec_l1Type_fn {w : List Data} (hb : TB w) {a k : Int} (ha : a = -1 ∨ (0 ≤ a ∧ a.toNat < w.length)) (hk : -1 ≤ k ∧ k ≤ 3) : FnD Tryz.prog 308 [.d (encDatas w), .agg [.d (.i a), .d (.i k)]] [] (.d (.str (tyText w ⟨a, k⟩))) [] := by
 have hl := ixText_len k
 have hdn : a ≠ -1 → (nth w a.toNat).name.length ≤ 1 := fun h => (hb.dn _ (nth_mem (l := w) (i := a.toNat) (by omega))).1
 refine bd Tryz.f308 18 [17] [] fun w0 F0 own kept hk => ?_
 refine Walk.box (id := 3003) .none rfl rfl rfl rfl rfl rfl rfl ?_
 refine evs [17] [] ?_
 refine sq (fun h1 h1p h1s => ?_) fun h1 h1p h1s => ?_
 ·try simp only [Q] at h1p
  refine rn0 (r1 rfl) (.eqd ?_)
  all_goals (refine congrArg D.str ?_; unfold tyText; first | (rw [if_pos (by assumption)]; done) | (rw [if_neg (by assumption)]; done) | (rw [if_pos (by assumption)]; rfl))
 ·try simp only [Q] at h1p
  refine Walk.idx (i := a.toNat) sl27 .none rfl rfl rfl (by omega) (at_nth (by omega)) rfl ?_
  refine evd [17] [] ?_
  refine Walk.call (cr := []) cal317 (spec_l1Index_fn (by omega) (by omega)) rfl .none rfl rfl (LeL.refl _) trivial rfl rfl rfl ?_
  refine Walk.catS .none rfl rfl rfl (by have := hdn h1p; omega) ?_
  refine evd [17] [] ?_
  refine dr ?_
  refine rn0 (r1 rfl) (.eqd ?_)
  all_goals (refine congrArg D.str ?_; unfold tyText; first | (rw [if_pos (by assumption)]; done) | (rw [if_neg (by assumption)]; done) | (rw [if_pos (by assumption)]; rfl))
theorem spec_l1CtorText_fn {w : List Data} (hb : TB w) {s : Str} {l : List Ty} {k : Int} (hs : s.length ≤ 5) (hl : l.length ≤ 3) (hk : 0 ≤ k ∧ k ≤ 3)
  (hl2 : ∀ t ∈ l, (t.data = -1 ∨ (0 ≤ t.data ∧ t.data.toNat < w.length)) ∧ -1 ≤ t.index ∧ t.index ≤ 3) :
  FnD Tryz.prog 279 [.d (encDatas w), .agg [.d (.str s), .d (encTys l), .d (.i k)]] [] (.d (.str (ctorText w ⟨s, l, k⟩))) [] := by
 have hall := argsFrom_len hb l true (fun t ht => (hl2 t ht).1)
 have hdl := decV_len k
 refine bd Tryz.f279 47 [19, 21, 30, 36, 41, 45] [] fun w0 F0 own kept hk => ?_
 refine Walk.box (id := 3003) .none rfl rfl rfl rfl rfl rfl rfl ?_
 refine evs [19, 21, 30, 36, 41, 45] [] ?_
 refine CWp.loopX (ι := List (Ty) × List (Ty) × (Str)) hk (fun x => [(6, .d (.i (x.1.length : Int))), (5, .d (.str x.2.2))]) [9, 10, 11, 12, 13, 14, 15, 16, 17, 18, 19, 20, 21, 22, 23, 24, 25, 26, 27, 28, 29, 30] (fun x => []) (fun x => x.1 ++ x.2.1 = l ∧ x.2.2.length ≤ 5 + 3 * x.1.length ∧ x.2.2 ++ argsFrom w (decide (x.1.length = 0)) x.2.1 = s ++ argsFrom w true l) (fun x => x.2.1.length) ([], l, s) ⟨by simp, by simp; omega, by simp⟩ ⟨⟨_, rfl, (LeA.eqi (by first | rfl | (simp; done) | omega | (dsimp only; rw [if_pos (by omega), List.append_assoc]; done) | (dsimp only; rw [if_neg (by omega), List.append_assoc]; done)))⟩, ⟨⟨_, rfl, (LeA.eqs (by first | rfl | (simp; done) | omega | (dsimp only; rw [if_pos (by omega), List.append_assoc]; done) | (dsimp only; rw [if_neg (by omega), List.append_assoc]; done)))⟩, trivial⟩⟩ trivial (fun x => rfl) (fun x hg1 => ?_)
 obtain ⟨pre, rest, o⟩ := x
 dsimp only at hg1 ⊢
 refine evc [19, 21, 30, 36, 41, 45] [] ?_
 refine sq (fun h1 h1p h1s => ?_) fun h1 h1p h1s => ?_
 ·try simp only [Q] at h1p
  rcases rest with _ | ⟨y, rest⟩
  ·exfalso; simp_all
  have hq : (tyText w ⟨y.data, y.index⟩).length ≤ 2 := tyText_len hb (hl2 y (by rw [← hg1.1]; simp)).1
  refine sq (fun h2 h2p h2s => ?_) fun h2 h2p h2s => ?_
  ·try simp only [Q] at h2p
   refine Walk.catS .none rfl rfl rfl (by have hz := congrArg List.length hg1.1; simp only [List.length_append, List.length_cons, List.length_nil] at hz ⊢; omega) ?_
   refine evs [19, 21, 30, 36, 41, 45] [] ?_
   refine Walk.idx sl182 .none rfl rfl rfl rfl (zip_at hg1.1) rfl ?_
   refine evs [19, 21, 30, 36, 41, 45] [] ?_
   refine Walk.call (cr := []) cal308 (spec_l1Type_fn hb (a := y.data) (k := y.index) (hl2 y (by rw [← hg1.1]; simp)).1 (hl2 y (by rw [← hg1.1]; simp)).2) rfl .none rfl rfl (LeL.refl _) trivial rfl rfl rfl ?_
   refine Walk.catS .none rfl rfl rfl (by have hz := congrArg List.length hg1.1; simp only [List.length_append, List.length_cons, List.length_nil] at hz ⊢; omega) ?_
   refine evs [19, 21, 30, 36, 41, 45] [] ?_
   refine ar ?_
   refine Exists.intro ((pre ++ [y], rest, o ++ ((if pre.length = 0 then [40] else [44]) ++ tyText w y))) ⟨⟨(by have hz := hg1.1; rw [← hz]; simp), ⟨(by have hq := tyText_len hb (hl2 y (by rw [← hg1.1]; simp)).1; have h3 : (if pre.length = 0 then [(40 : UInt8)] else [44]).length = 1 := (by split <;> rfl); simp only [List.length_append, List.length_cons, List.length_nil]; omega), (by rw [← hg1.2.2]; simp [argsFrom])⟩⟩, (by simp), Sub.x (by kernel_rfl) (by kernel_rfl) ⟨⟨_, rfl, (LeA.eqi (by first | rfl | (simp; done) | omega | (dsimp only; rw [if_pos (by omega), List.append_assoc]; done) | (dsimp only; rw [if_neg (by omega), List.append_assoc]; done)))⟩, ⟨⟨_, rfl, (LeA.eqs (by first | rfl | (simp; done) | omega | (dsimp only; rw [if_pos (by omega), List.append_assoc]; done) | (dsimp only; rw [if_neg (by omega), List.append_assoc]; done)))⟩, trivial⟩⟩ (by kernel_rfl) (by kernel_rfl) trivial⟩
  ·try simp only [Q] at h2p
   refine Walk.catS .none rfl rfl rfl (by have hz := congrArg List.length hg1.1; simp only [List.length_append, List.length_cons, List.length_nil] at hz ⊢; omega) ?_
   refine evs [19, 21, 30, 36, 41, 45] [] ?_
   refine Walk.idx sl182 .none rfl rfl rfl rfl (zip_at hg1.1) rfl ?_
   refine evs [19, 21, 30, 36, 41, 45] [] ?_
   refine Walk.call (cr := []) cal308 (spec_l1Type_fn hb (a := y.data) (k := y.index) (hl2 y (by rw [← hg1.1]; simp)).1 (hl2 y (by rw [← hg1.1]; simp)).2) rfl .none rfl rfl (LeL.refl _) trivial rfl rfl rfl ?_
   refine Walk.catS .none rfl rfl rfl (by have hz := congrArg List.length hg1.1; simp only [List.length_append, List.length_cons, List.length_nil] at hz ⊢; omega) ?_
   refine evs [19, 21, 30, 36, 41, 45] [] ?_
   refine ar ?_
   refine Exists.intro ((pre ++ [y], rest, o ++ ((if pre.length = 0 then [40] else [44]) ++ tyText w y))) ⟨⟨(by have hz := hg1.1; rw [← hz]; simp), ⟨(by have hq := tyText_len hb (hl2 y (by rw [← hg1.1]; simp)).1; have h3 : (if pre.length = 0 then [(40 : UInt8)] else [44]).length = 1 := (by split <;> rfl); simp only [List.length_append, List.length_cons, List.length_nil]; omega), (by rw [← hg1.2.2]; simp [argsFrom])⟩⟩, (by simp), Sub.x (by kernel_rfl) (by kernel_rfl) ⟨⟨_, rfl, (LeA.eqi (by first | rfl | (simp; done) | omega | (dsimp only; rw [if_pos (by omega), List.append_assoc]; done) | (dsimp only; rw [if_neg (by omega), List.append_assoc]; done)))⟩, ⟨⟨_, rfl, (LeA.eqs (by first | rfl | (simp; done) | omega | (dsimp only; rw [if_pos (by omega), List.append_assoc]; done) | (dsimp only; rw [if_neg (by omega), List.append_assoc]; done)))⟩, trivial⟩⟩ (by kernel_rfl) (by kernel_rfl) trivial⟩
 ·try simp only [Q] at h1p
  have hrest : rest = [] := by
   rcases rest with _ | ⟨a, b⟩
   ·rfl
   ·exfalso; have hz := congrArg List.length (hg1.1); simp only [List.length_append, List.length_cons, List.length_map] at hz; omega
  subst hrest
  refine sq (fun h3 h3p h3s => ?_) fun h3 h3p h3s => ?_
  ·try simp only [Q] at h3p
   refine Walk.catS .none rfl rfl rfl (by have hz := congrArg List.length hg1.1; simp only [List.length_append, List.length_cons, List.length_nil] at hz ⊢; omega) ?_
   refine evs [19, 21, 30, 36, 41, 45] [] ?_
   refine sq (fun h4 h4p h4s => ?_) fun h4 h4p h4s => ?_
   ·try simp only [Q] at h4p
    refine Walk.catS .none rfl rfl rfl (by have hz := congrArg List.length hg1.1; simp only [List.length_append, List.length_cons, List.length_nil] at hz ⊢; omega) ?_
    refine evs [19, 21, 30, 36, 41, 45] [] ?_
    refine Walk.call (cr := []) cal309 (spec_l17Dec_fn (by omega) (by omega)) rfl .none rfl rfl (LeL.refl _) trivial rfl rfl rfl ?_
    refine Walk.catS .none rfl rfl rfl (by have hz := congrArg List.length hg1.1; simp only [List.length_append, List.length_cons, List.length_nil] at hz ⊢; omega) ?_
    refine evs [19, 21, 30, 36, 41, 45] [] ?_
    refine rn0 (r1 rfl) (.eqd ?_)
    all_goals (refine congrArg D.str ?_; have hfin := hg1.2.2; simp only [argsFrom, List.append_nil] at hfin; unfold ctorText; dsimp only; rw [← hfin]; first | (rw [if_pos (by omega), if_pos (by simp at *; omega)]; done) | (rw [if_pos (by omega), if_neg (by simp at *; omega)]; done) | (rw [if_neg (by omega), if_pos (by simp at *; omega)]; done) | (rw [if_neg (by omega), if_neg (by simp at *; omega)]; done))
   ·try simp only [Q] at h4p
    refine rn0 (r1 rfl) (.eqd ?_)
    all_goals (refine congrArg D.str ?_; have hfin := hg1.2.2; simp only [argsFrom, List.append_nil] at hfin; unfold ctorText; dsimp only; rw [← hfin]; first | (rw [if_pos (by omega), if_pos (by simp at *; omega)]; done) | (rw [if_pos (by omega), if_neg (by simp at *; omega)]; done) | (rw [if_neg (by omega), if_pos (by simp at *; omega)]; done) | (rw [if_neg (by omega), if_neg (by simp at *; omega)]; done))
  ·try simp only [Q] at h3p
   refine sq (fun h5 h5p h5s => ?_) fun h5 h5p h5s => ?_
   ·try simp only [Q] at h5p
    refine Walk.catS .none rfl rfl rfl (by have hz := congrArg List.length hg1.1; simp only [List.length_append, List.length_cons, List.length_nil] at hz ⊢; omega) ?_
    refine evs [19, 21, 30, 36, 41, 45] [] ?_
    refine Walk.call (cr := []) cal309 (spec_l17Dec_fn (by omega) (by omega)) rfl .none rfl rfl (LeL.refl _) trivial rfl rfl rfl ?_
    refine Walk.catS .none rfl rfl rfl (by have hz := congrArg List.length hg1.1; simp only [List.length_append, List.length_cons, List.length_nil] at hz ⊢; omega) ?_
    refine evs [19, 21, 30, 36, 41, 45] [] ?_
    refine rn0 (r1 rfl) (.eqd ?_)
    all_goals (refine congrArg D.str ?_; have hfin := hg1.2.2; simp only [argsFrom, List.append_nil] at hfin; unfold ctorText; dsimp only; rw [← hfin]; first | (rw [if_pos (by omega), if_pos (by simp at *; omega)]; done) | (rw [if_pos (by omega), if_neg (by simp at *; omega)]; done) | (rw [if_neg (by omega), if_pos (by simp at *; omega)]; done) | (rw [if_neg (by omega), if_neg (by simp at *; omega)]; done))
   ·try simp only [Q] at h5p
    refine rn0 (r1 rfl) (.eqd ?_)
    all_goals (refine congrArg D.str ?_; have hfin := hg1.2.2; simp only [argsFrom, List.append_nil] at hfin; unfold ctorText; dsimp only; rw [← hfin]; first | (rw [if_pos (by omega), if_pos (by simp at *; omega)]; done) | (rw [if_pos (by omega), if_neg (by simp at *; omega)]; done) | (rw [if_neg (by omega), if_pos (by simp at *; omega)]; done) | (rw [if_neg (by omega), if_neg (by simp at *; omega)]; done))
theorem spec_l1Text_fn {w : List Data} (hb : TB w) : FnD Tryz.prog 233 [.d (encDatas w)] [] (.d (.str (worldText w))) [] := by
 have hwl := hb.len
 have hct : ∀ d ∈ w, ∀ c ∈ d.ctors, (ctorText w c).length ≤ 20 := fun d hd c hc => ctorText_len hb ⟨(hb.cn d hd c hc).1, (hb.cn d hd c hc).2.1⟩ (fun t ht => (hb.ar d hd c hc t ht).1)
 refine bd Tryz.f233 51 [15, 22, 23, 37, 49] [] fun w0 F0 own kept hk => ?_
 refine CWp.loopX (ι := List (Data) × List (Data) × (Str)) hk (fun x => [(4, .d (.i (x.1.length : Int))), (3, .d (.str x.2.2))]) [5, 6, 7, 8, 9, 10, 11, 12, 13, 14, 15, 16, 17, 18, 19, 20, 21, 22, 23, 24, 25, 26, 27, 28, 29, 30, 31, 32, 33, 34, 35, 36, 37, 38, 39, 40, 41, 42, 43, 44, 45, 46, 47, 48, 49] (fun x => []) (fun x => x.1 ++ x.2.1 = w ∧ x.2.2.length ≤ 100 * x.1.length ∧ x.2.2 ++ dsFrom w (decide (x.1.length = 0)) x.2.1 = worldText w) (fun x => x.2.1.length) ([], w, []) ⟨by simp, by simp, by simp [worldText]⟩ ⟨⟨_, rfl, (LeA.eqi (by first | rfl | (simp; done) | omega | (rw [hfin]; simp; done)))⟩, ⟨⟨_, rfl, (LeA.eqs (by first | rfl | (simp; done) | omega | (rw [hfin]; simp; done)))⟩, trivial⟩⟩ trivial (fun x => rfl) (fun x hg1 => ?_)
 obtain ⟨pre, rest, o⟩ := x
 dsimp only at hg1 ⊢
 refine evc [15, 22, 23, 37, 49] [] ?_
 refine sq (fun h1 h1p h1s => ?_) fun h1 h1p h1s => ?_
 ·try simp only [Q] at h1p
  rcases rest with _ | ⟨y, rest⟩
  ·exfalso; simp_all
  have hym : y ∈ w := (by rw [← hg1.1]; simp); have hyd := hb.dn y hym; have hpl : pre.length < 4 := (by omega); have hcl := ctsFrom_len (w := w) y.ctors true (hct y hym)
  refine sq (fun h2 h2p h2s => ?_) fun h2 h2p h2s => ?_
  ·try simp only [Q] at h2p
   refine Walk.catS .none rfl rfl rfl (by (try simp only [List.length_append, List.length_cons, List.length_nil]); omega) ?_
   refine evs [15, 22, 23, 37, 49] [] ?_
   refine Walk.idx sl27 .none rfl rfl rfl rfl (zip_at hg1.1) rfl ?_
   refine evs [15, 22, 23, 37, 49] [] ?_
   refine Walk.catS .none rfl rfl rfl (by (try simp only [List.length_append, List.length_cons, List.length_nil]); omega) ?_
   refine Walk.catS .none rfl rfl rfl (by (try simp only [List.length_append, List.length_cons, List.length_nil]); omega) ?_
   refine evs [15, 22, 23, 37, 49] [] ?_
   refine CWp.loopX (ι := List (Ctor) × List (Ctor) × (Str)) hk (fun x => [(5, .d (.i (x.1.length : Int))), (3, .d (.str x.2.2))]) [24, 25, 26, 27, 28, 29, 30, 31, 32, 33, 34, 35, 36, 37, 38, 39, 40, 41, 42, 43, 44, 45, 46, 47, 48, 49] (fun x => []) (fun x => x.1 ++ x.2.1 = y.ctors ∧ x.2.2.length ≤ 100 * pre.length + 4 + 21 * x.1.length ∧ x.2.2 ++ ctsFrom w (decide (x.1.length = 0)) x.2.1 = (o ++ ((if pre.length = 0 then [] else [59]) ++ (y.name ++ [61]))) ++ ctsFrom w true y.ctors) (fun x => x.2.1.length) ([], y.ctors, o ++ ((if pre.length = 0 then [] else [59]) ++ (y.name ++ [61]))) ⟨by simp, (by have h3 : (if pre.length = 0 then ([] : Str) else [59]).length ≤ 1 := (by split <;> simp); simp only [List.length_append, List.length_cons, List.length_nil]; omega), by simp⟩ ⟨⟨_, rfl, (LeA.eqi (by first | rfl | (simp; done) | omega | (rw [if_neg (by omega)]; simp; done) | (rw [if_pos (by omega)]; simp; done) | (dsimp only; rw [if_neg (by omega)]; simp; done) | (dsimp only; rw [if_pos (by omega)]; simp; done)))⟩, ⟨⟨_, rfl, (LeA.eqs (by first | rfl | (simp; done) | omega | (rw [if_neg (by omega)]; simp; done) | (rw [if_pos (by omega)]; simp; done) | (dsimp only; rw [if_neg (by omega)]; simp; done) | (dsimp only; rw [if_pos (by omega)]; simp; done)))⟩, trivial⟩⟩ trivial (fun x => rfl) (fun x hg2 => ?_)
   obtain ⟨pre2, rest2, q⟩ := x
   dsimp only at hg2 ⊢
   refine evc [15, 22, 23, 37, 49] [] ?_
   refine Walk.idx sl27 .none rfl rfl rfl rfl (zip_at hg1.1) rfl ?_
   refine evs [15, 22, 23, 37, 49] [] ?_
   refine sq (fun h3 h3p h3s => ?_) fun h3 h3p h3s => ?_
   ·try simp only [Q] at h3p
    rcases rest2 with _ | ⟨c, rest2⟩
    ·exfalso; simp_all
    have hcm := hct y hym c (by rw [← hg2.1]; simp); have hce : (ctorText w ⟨c.name, c.args, c.index⟩).length ≤ 20 := hcm; have hp2 := congrArg List.length hg2.1; simp only [List.length_append, List.length_cons] at hp2
    refine sq (fun h4 h4p h4s => ?_) fun h4 h4p h4s => ?_
    ·try simp only [Q] at h4p
     refine Walk.catS .none rfl rfl rfl (by (try simp only [List.length_append, List.length_cons, List.length_nil]); omega) ?_
     refine evs [15, 22, 23, 37, 49] [] ?_
     refine Walk.idx sl27 .none rfl rfl rfl rfl (zip_at hg1.1) rfl ?_
     refine evs [15, 22, 23, 37, 49] [] ?_
     refine Walk.idx sl119 .none rfl rfl rfl rfl (zip_at hg2.1) rfl ?_
     refine evs [15, 22, 23, 37, 49] [] ?_
     refine Walk.call (cr := []) cal279 (spec_l1CtorText_fn hb (s := c.name) (l := c.args) (k := c.index) (hb.cn y hym c (by rw [← hg2.1]; simp)).1 (hb.cn y hym c (by rw [← hg2.1]; simp)).2.1 (hb.cn y hym c (by rw [← hg2.1]; simp)).2.2 (hb.ar y hym c (by rw [← hg2.1]; simp))) rfl .none rfl rfl (LeL.refl _) trivial rfl rfl rfl ?_
     refine Walk.catS .none rfl rfl rfl (by (try simp only [List.length_append, List.length_cons, List.length_nil]); omega) ?_
     refine evs [15, 22, 23, 37, 49] [] ?_
     refine ar ?_
     refine Exists.intro ((pre2 ++ [c], rest2, q ++ ((if pre2.length = 0 then [] else [124]) ++ ctorText w c))) ⟨⟨(by have hz := hg2.1; rw [← hz]; simp), ⟨(by have h3 : (if pre2.length = 0 then ([] : Str) else [124]).length ≤ 1 := (by split <;> simp); simp only [List.length_append, List.length_cons, List.length_nil]; omega), (by rw [← hg2.2.2]; simp [ctsFrom])⟩⟩, (by simp), Sub.x (by kernel_rfl) (by kernel_rfl) ⟨⟨_, rfl, (LeA.eqi (by first | rfl | (simp; done) | omega | (rw [if_neg (by omega)]; simp; done) | (rw [if_pos (by omega)]; simp; done) | (dsimp only; rw [if_neg (by omega)]; simp; done) | (dsimp only; rw [if_pos (by omega)]; simp; done)))⟩, ⟨⟨_, rfl, (LeA.eqs (by first | rfl | (simp; done) | omega | (rw [if_neg (by omega)]; simp; done) | (rw [if_pos (by omega)]; simp; done) | (dsimp only; rw [if_neg (by omega)]; simp; done) | (dsimp only; rw [if_pos (by omega)]; simp; done)))⟩, trivial⟩⟩ (by kernel_rfl) (by kernel_rfl) trivial⟩
    ·try simp only [Q] at h4p
     refine Walk.idx sl27 .none rfl rfl rfl rfl (zip_at hg1.1) rfl ?_
     refine evs [15, 22, 23, 37, 49] [] ?_
     refine Walk.idx sl119 .none rfl rfl rfl rfl (zip_at hg2.1) rfl ?_
     refine evs [15, 22, 23, 37, 49] [] ?_
     refine Walk.call (cr := []) cal279 (spec_l1CtorText_fn hb (s := c.name) (l := c.args) (k := c.index) (hb.cn y hym c (by rw [← hg2.1]; simp)).1 (hb.cn y hym c (by rw [← hg2.1]; simp)).2.1 (hb.cn y hym c (by rw [← hg2.1]; simp)).2.2 (hb.ar y hym c (by rw [← hg2.1]; simp))) rfl .none rfl rfl (LeL.refl _) trivial rfl rfl rfl ?_
     refine Walk.catS .none rfl rfl rfl (by (try simp only [List.length_append, List.length_cons, List.length_nil]); omega) ?_
     refine evs [15, 22, 23, 37, 49] [] ?_
     refine ar ?_
     refine Exists.intro ((pre2 ++ [c], rest2, q ++ ((if pre2.length = 0 then [] else [124]) ++ ctorText w c))) ⟨⟨(by have hz := hg2.1; rw [← hz]; simp), ⟨(by have h3 : (if pre2.length = 0 then ([] : Str) else [124]).length ≤ 1 := (by split <;> simp); simp only [List.length_append, List.length_cons, List.length_nil]; omega), (by rw [← hg2.2.2]; simp [ctsFrom])⟩⟩, (by simp), Sub.x (by kernel_rfl) (by kernel_rfl) ⟨⟨_, rfl, (LeA.eqi (by first | rfl | (simp; done) | omega | (rw [if_neg (by omega)]; simp; done) | (rw [if_pos (by omega)]; simp; done) | (dsimp only; rw [if_neg (by omega)]; simp; done) | (dsimp only; rw [if_pos (by omega)]; simp; done)))⟩, ⟨⟨_, rfl, (LeA.eqs (by first | rfl | (simp; done) | omega | (rw [if_neg (by omega)]; simp; done) | (rw [if_pos (by omega)]; simp; done) | (dsimp only; rw [if_neg (by omega)]; simp; done) | (dsimp only; rw [if_pos (by omega)]; simp; done)))⟩, trivial⟩⟩ (by kernel_rfl) (by kernel_rfl) trivial⟩
   ·try simp only [Q] at h3p
    have hrest2 : rest2 = [] := by
     rcases rest2 with _ | ⟨a, b⟩
     ·rfl
     ·exfalso; have hz := congrArg List.length (hg2.1); simp only [List.length_append, List.length_cons, List.length_map] at hz; omega
    subst hrest2
    refine ar ?_
    have hfin := hg2.2.2; simp only [ctsFrom, List.append_nil] at hfin
    refine Exists.intro ((pre ++ [y], rest, o ++ ((if pre.length = 0 then [] else [59]) ++ (y.name ++ [61]) ++ ctsFrom w true y.ctors))) ⟨⟨(by have hz := hg1.1; rw [← hz]; simp), ⟨(by have h3 : (if pre.length = 0 then ([] : Str) else [59]).length ≤ 1 := (by split <;> simp); simp only [List.length_append, List.length_cons, List.length_nil]; omega), (by rw [← hg1.2.2]; simp [dsFrom])⟩⟩, (by simp), Sub.x (by kernel_rfl) (by kernel_rfl) ⟨⟨_, rfl, (LeA.eqi (by first | rfl | (simp; done) | omega | (rw [hfin]; simp; done)))⟩, ⟨⟨_, rfl, (LeA.eqs (by first | rfl | (simp; done) | omega | (rw [hfin]; simp; done)))⟩, trivial⟩⟩ (by kernel_rfl) (by kernel_rfl) trivial⟩
  ·try simp only [Q] at h2p
   refine Walk.idx sl27 .none rfl rfl rfl rfl (zip_at hg1.1) rfl ?_
   refine evs [15, 22, 23, 37, 49] [] ?_
   refine Walk.catS .none rfl rfl rfl (by (try simp only [List.length_append, List.length_cons, List.length_nil]); omega) ?_
   refine Walk.catS .none rfl rfl rfl (by (try simp only [List.length_append, List.length_cons, List.length_nil]); omega) ?_
   refine evs [15, 22, 23, 37, 49] [] ?_
   refine CWp.loopX (ι := List (Ctor) × List (Ctor) × (Str)) hk (fun x => [(5, .d (.i (x.1.length : Int))), (3, .d (.str x.2.2))]) [24, 25, 26, 27, 28, 29, 30, 31, 32, 33, 34, 35, 36, 37, 38, 39, 40, 41, 42, 43, 44, 45, 46, 47, 48, 49] (fun x => []) (fun x => x.1 ++ x.2.1 = y.ctors ∧ x.2.2.length ≤ 100 * pre.length + 4 + 21 * x.1.length ∧ x.2.2 ++ ctsFrom w (decide (x.1.length = 0)) x.2.1 = (o ++ ((if pre.length = 0 then [] else [59]) ++ (y.name ++ [61]))) ++ ctsFrom w true y.ctors) (fun x => x.2.1.length) ([], y.ctors, o ++ ((if pre.length = 0 then [] else [59]) ++ (y.name ++ [61]))) ⟨by simp, (by have h3 : (if pre.length = 0 then ([] : Str) else [59]).length ≤ 1 := (by split <;> simp); simp only [List.length_append, List.length_cons, List.length_nil]; omega), by simp⟩ ⟨⟨_, rfl, (LeA.eqi (by first | rfl | (simp; done) | omega | (rw [if_neg (by omega)]; simp; done) | (rw [if_pos (by omega)]; simp; done) | (dsimp only; rw [if_neg (by omega)]; simp; done) | (dsimp only; rw [if_pos (by omega)]; simp; done)))⟩, ⟨⟨_, rfl, (LeA.eqs (by first | rfl | (simp; done) | omega | (rw [if_neg (by omega)]; simp; done) | (rw [if_pos (by omega)]; simp; done) | (dsimp only; rw [if_neg (by omega)]; simp; done) | (dsimp only; rw [if_pos (by omega)]; simp; done)))⟩, trivial⟩⟩ trivial (fun x => rfl) (fun x hg2 => ?_)
   obtain ⟨pre2, rest2, q⟩ := x
   dsimp only at hg2 ⊢
   refine evc [15, 22, 23, 37, 49] [] ?_
   refine Walk.idx sl27 .none rfl rfl rfl rfl (zip_at hg1.1) rfl ?_
   refine evs [15, 22, 23, 37, 49] [] ?_
   refine sq (fun h5 h5p h5s => ?_) fun h5 h5p h5s => ?_
   ·try simp only [Q] at h5p
    rcases rest2 with _ | ⟨c, rest2⟩
    ·exfalso; simp_all
    have hcm := hct y hym c (by rw [← hg2.1]; simp); have hce : (ctorText w ⟨c.name, c.args, c.index⟩).length ≤ 20 := hcm; have hp2 := congrArg List.length hg2.1; simp only [List.length_append, List.length_cons] at hp2
    refine sq (fun h6 h6p h6s => ?_) fun h6 h6p h6s => ?_
    ·try simp only [Q] at h6p
     refine Walk.catS .none rfl rfl rfl (by (try simp only [List.length_append, List.length_cons, List.length_nil]); omega) ?_
     refine evs [15, 22, 23, 37, 49] [] ?_
     refine Walk.idx sl27 .none rfl rfl rfl rfl (zip_at hg1.1) rfl ?_
     refine evs [15, 22, 23, 37, 49] [] ?_
     refine Walk.idx sl119 .none rfl rfl rfl rfl (zip_at hg2.1) rfl ?_
     refine evs [15, 22, 23, 37, 49] [] ?_
     refine Walk.call (cr := []) cal279 (spec_l1CtorText_fn hb (s := c.name) (l := c.args) (k := c.index) (hb.cn y hym c (by rw [← hg2.1]; simp)).1 (hb.cn y hym c (by rw [← hg2.1]; simp)).2.1 (hb.cn y hym c (by rw [← hg2.1]; simp)).2.2 (hb.ar y hym c (by rw [← hg2.1]; simp))) rfl .none rfl rfl (LeL.refl _) trivial rfl rfl rfl ?_
     refine Walk.catS .none rfl rfl rfl (by (try simp only [List.length_append, List.length_cons, List.length_nil]); omega) ?_
     refine evs [15, 22, 23, 37, 49] [] ?_
     refine ar ?_
     refine Exists.intro ((pre2 ++ [c], rest2, q ++ ((if pre2.length = 0 then [] else [124]) ++ ctorText w c))) ⟨⟨(by have hz := hg2.1; rw [← hz]; simp), ⟨(by have h3 : (if pre2.length = 0 then ([] : Str) else [124]).length ≤ 1 := (by split <;> simp); simp only [List.length_append, List.length_cons, List.length_nil]; omega), (by rw [← hg2.2.2]; simp [ctsFrom])⟩⟩, (by simp), Sub.x (by kernel_rfl) (by kernel_rfl) ⟨⟨_, rfl, (LeA.eqi (by first | rfl | (simp; done) | omega | (rw [if_neg (by omega)]; simp; done) | (rw [if_pos (by omega)]; simp; done) | (dsimp only; rw [if_neg (by omega)]; simp; done) | (dsimp only; rw [if_pos (by omega)]; simp; done)))⟩, ⟨⟨_, rfl, (LeA.eqs (by first | rfl | (simp; done) | omega | (rw [if_neg (by omega)]; simp; done) | (rw [if_pos (by omega)]; simp; done) | (dsimp only; rw [if_neg (by omega)]; simp; done) | (dsimp only; rw [if_pos (by omega)]; simp; done)))⟩, trivial⟩⟩ (by kernel_rfl) (by kernel_rfl) trivial⟩
    ·try simp only [Q] at h6p
     refine Walk.idx sl27 .none rfl rfl rfl rfl (zip_at hg1.1) rfl ?_
     refine evs [15, 22, 23, 37, 49] [] ?_
     refine Walk.idx sl119 .none rfl rfl rfl rfl (zip_at hg2.1) rfl ?_
     refine evs [15, 22, 23, 37, 49] [] ?_
     refine Walk.call (cr := []) cal279 (spec_l1CtorText_fn hb (s := c.name) (l := c.args) (k := c.index) (hb.cn y hym c (by rw [← hg2.1]; simp)).1 (hb.cn y hym c (by rw [← hg2.1]; simp)).2.1 (hb.cn y hym c (by rw [← hg2.1]; simp)).2.2 (hb.ar y hym c (by rw [← hg2.1]; simp))) rfl .none rfl rfl (LeL.refl _) trivial rfl rfl rfl ?_
     refine Walk.catS .none rfl rfl rfl (by (try simp only [List.length_append, List.length_cons, List.length_nil]); omega) ?_
     refine evs [15, 22, 23, 37, 49] [] ?_
     refine ar ?_
     refine Exists.intro ((pre2 ++ [c], rest2, q ++ ((if pre2.length = 0 then [] else [124]) ++ ctorText w c))) ⟨⟨(by have hz := hg2.1; rw [← hz]; simp), ⟨(by have h3 : (if pre2.length = 0 then ([] : Str) else [124]).length ≤ 1 := (by split <;> simp); simp only [List.length_append, List.length_cons, List.length_nil]; omega), (by rw [← hg2.2.2]; simp [ctsFrom])⟩⟩, (by simp), Sub.x (by kernel_rfl) (by kernel_rfl) ⟨⟨_, rfl, (LeA.eqi (by first | rfl | (simp; done) | omega | (rw [if_neg (by omega)]; simp; done) | (rw [if_pos (by omega)]; simp; done) | (dsimp only; rw [if_neg (by omega)]; simp; done) | (dsimp only; rw [if_pos (by omega)]; simp; done)))⟩, ⟨⟨_, rfl, (LeA.eqs (by first | rfl | (simp; done) | omega | (rw [if_neg (by omega)]; simp; done) | (rw [if_pos (by omega)]; simp; done) | (dsimp only; rw [if_neg (by omega)]; simp; done) | (dsimp only; rw [if_pos (by omega)]; simp; done)))⟩, trivial⟩⟩ (by kernel_rfl) (by kernel_rfl) trivial⟩
   ·try simp only [Q] at h5p
    have hrest2 : rest2 = [] := by
     rcases rest2 with _ | ⟨a, b⟩
     ·rfl
     ·exfalso; have hz := congrArg List.length (hg2.1); simp only [List.length_append, List.length_cons, List.length_map] at hz; omega
    subst hrest2
    refine ar ?_
    have hfin := hg2.2.2; simp only [ctsFrom, List.append_nil] at hfin
    refine Exists.intro ((pre ++ [y], rest, o ++ ((if pre.length = 0 then [] else [59]) ++ (y.name ++ [61]) ++ ctsFrom w true y.ctors))) ⟨⟨(by have hz := hg1.1; rw [← hz]; simp), ⟨(by have h3 : (if pre.length = 0 then ([] : Str) else [59]).length ≤ 1 := (by split <;> simp); simp only [List.length_append, List.length_cons, List.length_nil]; omega), (by rw [← hg1.2.2]; simp [dsFrom])⟩⟩, (by simp), Sub.x (by kernel_rfl) (by kernel_rfl) ⟨⟨_, rfl, (LeA.eqi (by first | rfl | (simp; done) | omega | (rw [hfin]; simp; done)))⟩, ⟨⟨_, rfl, (LeA.eqs (by first | rfl | (simp; done) | omega | (rw [hfin]; simp; done)))⟩, trivial⟩⟩ (by kernel_rfl) (by kernel_rfl) trivial⟩
 ·try simp only [Q] at h1p
  have hrest : rest = [] := by
   rcases rest with _ | ⟨a, b⟩
   ·rfl
   ·exfalso; have hz := congrArg List.length (hg1.1); simp only [List.length_append, List.length_cons, List.length_map] at hz; omega
  subst hrest
  refine rn0 (r1 rfl) (.eqd ?_)
  all_goals (refine congrArg D.str ?_; have hfin := hg1.2.2; simp only [dsFrom, List.append_nil] at hfin; exact hfin)
def pwL (s : Str) : List Str := cutL 59 [] s
def pwP (s : Str) (i : Nat) : List Str := cutL 61 [] (nth (pwL s) i)
def pwC (s : Str) (i : Nat) : List Str := cutL 124 [] (nth (pwP s i) 1)
def pwLim (s : Str) : Nat := if s = [] then 0 else min (pwL s).length 5
def pwNames (s : Str) (n : Nat) : List Str := (List.range n).map fun i => nth (pwP s i) 0
def pwData (s : Str) (i : Nat) : Data := ⟨nth (pwP s i) 0, ((pwC s i).take 5).map (parseCtor (pwNames s (pwLim s)))⟩
def pwRaw (s : Str) (n : Nat) : List Data := (List.range n).map (pwData s)
def pwGood (s : Str) : Bool := (List.range (pwLim s)).all (fun i => decide ((pwP s i).length = 2)) && (worldValid (pwRaw s (pwLim s)) && decide (worldText (pwRaw s (pwLim s)) = s))
def parseW (s : Str) : List Data × Bool := if pwGood s then (pwRaw s (pwLim s), true) else ([], false)
theorem pwLim_le (s : Str) : pwLim s ≤ (pwL s).length ∧ pwLim s ≤ 5 := by unfold pwLim; split <;> omega
theorem pwLim_iff {s : Str} {i : Nat} : i < pwLim s ↔ (i < (pwL s).length ∧ i ≤ 4) ∧ s ≠ [] := by
 unfold pwLim
 split
 ·rename_i h; simp [h]
 ·rename_i h; simp only [h, ne_eq, not_false_eq_true, and_true]; omega
theorem pwNames_len (s : Str) (n : Nat) : (pwNames s n).length = n := by simp [pwNames]
theorem pwNames_next (s : Str) (n : Nat) : pwNames s (n + 1) = pwNames s n ++ [nth (pwP s n) 0] := by unfold pwNames; rw [List.range_succ, List.map_append]; rfl
theorem pwRaw_next (s : Str) (n : Nat) : pwRaw s (n + 1) = pwRaw s n ++ [pwData s n] := by unfold pwRaw; rw [List.range_succ, List.map_append]; rfl
theorem name_at {s : Str} {n m : Nat} (h : m < n) : ((pwNames s n).map fun n => [D.str n])[m]? = some [D.str (nth (pwP s m) 0)] := by
 simp [pwNames, h]
theorem pwL_len {s : Str} {i : Nat} (h : i < (pwL s).length) : (nth (pwL s) i).length ≤ s.length := cutL_nth h
theorem pwP_len {s : Str} {i j : Nat} (h : i < (pwL s).length) (hj : j < (pwP s i).length) : (nth (pwP s i) j).length ≤ s.length := Nat.le_trans (cutL_nth hj) (pwL_len h)
theorem pwC_len {s : Str} {i k : Nat} (h : k < (pwC s i).length) : (nth (pwC s i) k).length ≤ (nth (pwP s i) 1).length := cutL_nth h
theorem take_five {α : Type} {l : List α} {i : Nat} (h : i = 5 ∨ (i ≤ 5 ∧ l.length ≤ i)) : l.take i = l.take 5 := by
 rcases h with rfl | ⟨h1, h2⟩
 ·rfl
 ·rw [List.take_of_length_le h2, List.take_of_length_le (by omega)]
theorem nth_cut_le {c : UInt8} {s : Str} : (nth (cutL c [] s) 0).length ≤ s.length := cutL_nth (cutL_pos c s [])
theorem parseCtor_bd {names : List Str} {s : Str} : (parseCtor names s).name.length ≤ s.length ∧ (parseCtor names s).args.length ≤ 4 := by
 have key : ∀ (ix : Int) (t : Str), (ctorOf names ix t).name.length ≤ t.length ∧ (ctorOf names ix t).args.length ≤ 4 := by
  intro ix t
  refine ⟨nth_cut_le, ?_⟩
  unfold ctorOf
  dsimp only
  split
  ·simp
  ·simp only [List.length_map, List.length_take]; omega
 unfold parseCtor
 split
 ·have := key (((nth s (s.length - 1)).toNat : Int) - 48) (s.take (s.length - 2))
  rw [List.length_take] at this
  omega
 ·exact key 0 s
theorem raw_small {s : Str} (hs : s.length ≤ 1000000) (h2 : ∀ j, j < pwLim s → (pwP s j).length = 2) : WSmall (pwRaw s (pwLim s)) := by
 have hl := pwLim_le s
 have hd : ∀ d ∈ pwRaw s (pwLim s), ∃ i, i < pwLim s ∧ d = pwData s i := fun d hd => by
  obtain ⟨i, hi, rfl⟩ := List.mem_map.1 hd
  exact ⟨i, List.mem_range.1 hi, rfl⟩
 refine ⟨by simp only [pwRaw, List.length_map, List.length_range]; omega, fun d hd' => ?_, fun d hd' c hc => ?_⟩
 ·obtain ⟨i, hi, rfl⟩ := hd d hd'
  have := pwP_len (s := s) (i := i) (j := 0) (by omega) (by rw [h2 i hi]; omega)
  refine ⟨?_, ?_⟩
  ·show (nth (pwP s i) 0).length ≤ _; omega
  ·simp only [pwData, List.length_map, List.length_take]; omega
 ·obtain ⟨i, hi, rfl⟩ := hd d hd'
  obtain ⟨t, ht, rfl⟩ := List.mem_map.1 hc
  have h3 := pwP_len (s := s) (i := i) (j := 1) (by omega) (by rw [h2 i hi]; omega)
  have h4 : t.length ≤ (nth (pwP s i) 1).length := by simpa using cutL_mem 124 (nth (pwP s i) 1) [] t (List.mem_of_mem_take ht)
  have h5 := parseCtor_bd (names := pwNames s (pwLim s)) (s := t)
  omega
theorem cut_L {s : Str} (hs : s.length ≤ 1000000) : FnD Tryz.prog 231 [.d (.str s), .d (.int .u8 59)] [] (.d (encStrs (pwL s))) [] := spec_l17Cut_fn (s := s) (c := 59) (by omega)
theorem cut_P {s : Str} {i : Nat} (hs : s.length ≤ 1000000) (h : i < (pwL s).length) : FnD Tryz.prog 231 [.d (.str (nth (pwL s) i)), .d (.int .u8 61)] [] (.d (encStrs (pwP s i))) [] := spec_l17Cut_fn (s := nth (pwL s) i) (c := 61) (by have := pwL_len h; omega)
theorem cut_C {s : Str} {i : Nat} (hs : s.length ≤ 1000000) (h : i < (pwL s).length) (h2 : (pwP s i).length = 2) : FnD Tryz.prog 231 [.d (.str (nth (pwP s i) 1)), .d (.int .u8 124)] [] (.d (encStrs (pwC s i))) [] :=
 spec_l17Cut_fn (s := nth (pwP s i) 1) (c := 124) (by have := pwP_len (j := 1) h (by omega); omega)
theorem spec_WorldValid_v {w : List Data} (hs : WSmall w) : FnD Tryz.prog 72 [.d (encDatas w)] [] (.d (.bool (worldValid w))) [] := by
 rw [← specWorldValid_eq]; exact spec_WorldValid_fn hs
theorem good_no {s : Str} (h : pwGood s = false) : parseW s = ([], false) := by unfold parseW; rw [if_neg (by rw [h]; simp)]
theorem good_yes {s : Str} (h : pwGood s = true) : parseW s = (pwRaw s (pwLim s), true) := by unfold parseW; rw [if_pos h]
theorem good_bad {s : Str} {i : Nat} (h : i < pwLim s) (h2 : ¬ (pwP s i).length = 2) : pwGood s = false := by
 unfold pwGood
 rw [all_range_false h (by simpa using h2), Bool.false_and]
theorem good_rest {s : Str} (h : ∀ j, j < pwLim s → (pwP s j).length = 2) : pwGood s = (worldValid (pwRaw s (pwLim s)) && decide (worldText (pwRaw s (pwLim s)) = s)) := by
 unfold pwGood
 rw [all_range_true (fun i hi => by simpa using h i hi), Bool.true_and]
theorem spec_ParseWorld_fn {s : Str} (hs : s.length ≤ 100000) : FnD Tryz.prog 160 [.d (.str s)] [] (.tup [.d (encDatas (parseW s).1), .d (.bool (parseW s).2)]) [] := by
 have hl := pwLim_le s
 have hcl : (pwL s).length ≤ s.length + 1 := cutL_len 59 s []
 have hccl : ∀ i, (pwC s i).length ≤ (nth (pwP s i) 1).length + 1 := fun i => cutL_len 124 _ []
 have hnl := pwNames_len s
 refine bd Tryz.f160 101 [] [5, 17, 21] fun w0 F0 own kept hk => ?_
 refine Walk.sliceEmptyG 1 sl27 .none rfl rfl ?_
 refine ev ?_
 refine Walk.sliceEmptyG 2 sl222 .none rfl rfl ?_
 refine ev ?_
 refine Walk.call (cr := []) cal231 (cut_L (s := s) (by omega)) rfl .none rfl rfl (LeL.refl _) trivial rfl rfl rfl ?_
 refine ev ?_
 refine CWp.loopX (ι := Nat) hk (fun i => [(7, .d (.i (i : Int))), (5, .gl 2 ((pwNames s i).map fun n => [D.str n]))]) [2, 3, 8, 17, 18, 19, 20, 21, 22, 23, 24, 25, 26, 27, 28, 29, 30, 31, 32, 33, 34, 35, 36, 37, 38, 39, 40, 41, 42, 43, 44, 45] (fun i => [(2, some (.tok (((pwNames s i).map fun n => [D.str n])).length 1))]) (fun i => i ≤ pwLim s ∧ ∀ j, j < i → (pwP s j).length = 2) (fun i => pwLim s - i) 0 ⟨by omega, fun j h => absurd h (by omega)⟩ ⟨⟨_, rfl, (LeA.eqi (by first | rfl | (rw [pwNames_next]; simp; done) | (simp; done) | omega))⟩, ⟨⟨_, rfl, (LeA.glg (by first | rfl | (rw [pwNames_next]; simp; done) | (simp; done) | omega))⟩, trivial⟩⟩ ⟨beq_nat_eq (by first | rfl | (simp; done) | (simp; omega) | (first | rfl | (rw [pwNames_next]; simp; done) | (simp; done) | omega)), trivial⟩ (fun x => rfl) (fun i hg1 => ?_)
 refine evc [] [5, 17, 21] ?_
 refine CWp.regionJ ?_
 refine WRest.join 12 [(28, .d (.bool (decide (i < pwLim s))))] [17, 18, 19, 20, 21, 22, 23, 24, 25, 26, 27] ?_ ?_
 ·
  refine ev ?_
  refine sq (fun h1 h1p h1s => ?_) fun h1 h1p h1s => ?_
  ·try simp only [Q, pwNames_len] at h1p
   refine sq (fun h2 h2p h2s => ?_) fun h2 h2p h2s => ?_
   ·try simp only [Q, pwNames_len] at h2p
    exact jn rfl (LeA.eqb (by first | rfl | (rw [Bool.eq_iff_iff]; simp_all [pwLim_iff]; done) | (rw [Bool.eq_iff_iff]; simp_all [pwLim_iff]; omega)))
   ·try simp only [Q, pwNames_len] at h2p
    exact jn rfl (LeA.eqb (by first | rfl | (rw [Bool.eq_iff_iff]; simp_all [pwLim_iff]; done) | (rw [Bool.eq_iff_iff]; simp_all [pwLim_iff]; omega)))
  ·try simp only [Q, pwNames_len] at h1p
   refine sqF ?_
   exact jn rfl (LeA.eqb (by first | rfl | (rw [Bool.eq_iff_iff]; simp_all [pwLim_iff]; done) | (rw [Bool.eq_iff_iff]; simp_all [pwLim_iff]; omega)))
 refine WRest.done ?_
 refine tv ?_
 refine sq (fun h3 h3p h3s => ?_) fun h3 h3p h3s => ?_
 ·try simp only [Q, pwNames_len] at h3p
  refine Walk.idx sl222 .none rfl rfl rfl rfl (at_nth (by omega)) rfl ?_
  refine ev ?_
  refine Walk.call (cr := []) cal231 (cut_P (s := s) (i := i) (by omega) (by omega)) rfl .none rfl rfl (LeL.refl _) trivial rfl rfl rfl ?_
  refine ev ?_
  refine sq (fun h4 h4p h4s => ?_) fun h4 h4p h4s => ?_
  ·try simp only [Q, pwNames_len] at h4p
   refine Walk.sliceEmpty sl27 .none rfl ?_
   refine ev ?_
   refine rn0 (r2 rfl rfl) (.tup (.cons (.eqd ?_) (.cons (.eqd ?_) .nil)))
   all_goals (first | (have hq := good_bad (s := s) (i := i) h3p (fun h => h4p (by omega)); rw [good_no hq]; all_goals rfl) | (have hr := good_rest hg1.2; rw [h9s] at hr; rw [good_no hr]; all_goals rfl) | (have hr := good_rest hg1.2; rw [h9s] at hr; rw [good_yes hr]; all_goals rfl))
  ·try simp only [Q, pwNames_len] at h4p
   refine Walk.idx (i := 0) sl222 .none rfl rfl rfl rfl (at_nth (by omega)) rfl ?_
   refine ev ?_
   refine Walk.sliceLit sl222 tz9 rfl (by decide) (ks := [0]) (xs := [_]) rfl rfl (by decide) (by decide) .none rfl rfl rfl rfl ?_
   refine Walk.append sl222 zz9 rfl .none rfl rfl rfl rfl (htokL rfl (by first | rfl | (simp; done) | (simp; omega))) (by simp) (by simp [pwNames_len, pwRaw]; omega) (by simp [pwNames_len, pwRaw]; omega) ?_
   refine ev ?_
   refine ar ?_
   refine Exists.intro (i + 1) ⟨⟨by omega, upto_succ hg1.2 (by omega)⟩, (by omega), Sub.x (by kernel_rfl) (by kernel_rfl) ⟨⟨_, rfl, (LeA.eqi (by first | rfl | (rw [pwNames_next]; simp; done) | (simp; done) | omega))⟩, ⟨⟨_, rfl, (LeA.glg (by first | rfl | (rw [pwNames_next]; simp; done) | (simp; done) | omega))⟩, trivial⟩⟩ (by kernel_rfl) (by kernel_rfl) ⟨beq_nat_eq (by first | rfl | (simp; done) | (simp; omega) | (first | rfl | (rw [pwNames_next]; simp; done) | (simp; done) | omega)), trivial⟩⟩
 ·try simp only [Q, pwNames_len] at h3p
  obtain rfl : i = pwLim s := (by omega)
  refine CWp.loopX (ι := Nat) hk (fun m => [(9, .d (.i (m : Int))), (4, .gl 1 ((pwRaw s m).map Data.c))]) [10, 11, 12, 46, 47, 48, 49, 50, 51, 52, 53, 54, 55, 56, 57, 58, 59, 60, 61, 62, 63, 64, 65, 66, 67, 68, 69, 70, 71, 72, 73, 74, 75, 76, 77, 78, 79, 80, 81, 82, 83, 84, 85, 86, 87, 88, 89] (fun m => [(1, some (.tok (((pwRaw s m).map Data.c)).length 2))]) (fun m => m ≤ pwLim s) (fun m => pwLim s - m) 0 (by omega) ⟨⟨_, rfl, (LeA.eqi (by first | rfl | (simp; done) | omega | (rw [pwRaw_next]; simp; done) | (rw [pwRaw_next, List.map_append]; simp only [List.map_cons, List.map_nil, pwData, Data.c]; rw [← List.map_take, take_five (by omega)]; done) | (rw [pwRaw_next, List.map_append]; simp only [List.map_cons, List.map_nil, pwData, Data.c]; rw [← List.map_take, take_five (by omega)]; rfl)))⟩, ⟨⟨_, rfl, (LeA.glg (by first | rfl | (simp; done) | omega | (rw [pwRaw_next]; simp; done) | (rw [pwRaw_next, List.map_append]; simp only [List.map_cons, List.map_nil, pwData, Data.c]; rw [← List.map_take, take_five (by omega)]; done) | (rw [pwRaw_next, List.map_append]; simp only [List.map_cons, List.map_nil, pwData, Data.c]; rw [← List.map_take, take_five (by omega)]; rfl)))⟩, trivial⟩⟩ ⟨beq_nat_eq (by first | rfl | (simp; done) | (simp; omega) | (first | rfl | (simp; done) | omega | (rw [pwRaw_next]; simp; done) | (rw [pwRaw_next, List.map_append]; simp only [List.map_cons, List.map_nil, pwData, Data.c]; rw [← List.map_take, take_five (by omega)]; done) | (rw [pwRaw_next, List.map_append]; simp only [List.map_cons, List.map_nil, pwData, Data.c]; rw [← List.map_take, take_five (by omega)]; rfl))), trivial⟩ (fun x => rfl) (fun m hg2 => ?_)
  refine evc [] [5, 17, 21] ?_
  refine sq (fun h5 h5p h5s => ?_) fun h5 h5p h5s => ?_
  ·try simp only [Q, pwNames_len] at h5p
   refine Walk.idx sl222 .none rfl rfl rfl rfl (at_nth (by first | omega | (rw [hg1.2 m (by omega)]; omega))) rfl ?_
   refine ev ?_
   refine Walk.call (cr := []) cal231 (cut_P (s := s) (i := m) (by omega) (by omega)) rfl .none rfl rfl (LeL.refl _) trivial rfl rfl rfl ?_
   refine Walk.idx (i := 1) sl222 .none rfl rfl rfl rfl (at_nth (by first | omega | (rw [hg1.2 m (by omega)]; omega))) rfl ?_
   refine ev ?_
   refine Walk.call (cr := []) cal231 (cut_C (s := s) (i := m) (by omega) (by omega) (hg1.2 m (by omega))) rfl .none rfl rfl (LeL.refl _) trivial rfl rfl rfl ?_
   refine ev ?_
   refine Walk.idxG sl222 .none rfl rfl rfl rfl (name_at (by omega)) rfl ?_
   refine ev ?_
   refine Walk.build st121 (ks := [0]) (xs := [_]) rfl rfl .none rfl rfl rfl ?_
   refine Walk.alloc (id := 3011) tz121 rfl .none rfl rfl rfl rfl ?_
   refine Walk.store ty121 .none rfl rfl rfl rfl rfl rfl (by simp) rfl ?_
   refine tv ?_
   refine CWp.tokB 3011 1 3 3 rfl rfl rfl rfl ?_
   refine CWp.loopX (ι := Nat) hk (fun k => [(12, .d (.i (k : Int)))]) [65, 66, 67, 68, 69, 70, 71, 72, 73, 74, 75, 76, 77, 78, 79, 80, 81, 82, 83, 84, 85] (fun k => [(3011, some (.box [.d (.str (nth (pwP s m) 0)), .gl 3 ((((pwC s m).map (parseCtor (pwNames s (pwLim s)))).take k).map Ctor.c)])), (3, some (.tok ((((pwC s m).map (parseCtor (pwNames s (pwLim s)))).take k).map Ctor.c).length 3))]) (fun k => k ≤ 5 ∧ k ≤ (pwC s m).length) (fun k => 5 - k) 0 ⟨by omega, by omega⟩ ⟨⟨_, rfl, (LeA.eqi (by first | rfl | (simp; done) | (simp_all; done) | omega))⟩, trivial⟩ ⟨(by first | rfl | (simp [getH]; done) | (show some (Res.box _) = some (Res.box _); rw [map_take_next (by omega)]; simp; done)), ⟨beq_nat_eq (by first | rfl | (simp; done) | (simp; omega) | (first | rfl | (simp; done) | (simp_all; done) | omega)), trivial⟩⟩ (fun x => rfl) (fun k hg3 => ?_)
   refine evc [] [5, 17, 21] ?_
   refine CWp.regionJ ?_
   refine WRest.join 8 [(72, .d (.bool (decide (k < (pwC s m).length ∧ k ≤ 4))))] [65, 66, 67, 68, 69, 70, 71] ?_ ?_
   ·
    refine ev ?_
    refine sq (fun h6 h6p h6s => ?_) fun h6 h6p h6s => ?_
    ·try simp only [Q, pwNames_len] at h6p
     exact jn rfl (LeA.eqb (by first | rfl | (rw [Bool.eq_iff_iff]; simp_all [pwLim_iff]; done) | (rw [Bool.eq_iff_iff]; simp_all [pwLim_iff]; omega)))
    ·try simp only [Q, pwNames_len] at h6p
     exact jn rfl (LeA.eqb (by first | rfl | (rw [Bool.eq_iff_iff]; simp_all [pwLim_iff]; done) | (rw [Bool.eq_iff_iff]; simp_all [pwLim_iff]; omega)))
   refine WRest.done ?_
   refine tv ?_
   refine sq (fun h7 h7p h7s => ?_) fun h7 h7p h7s => ?_
   ·try simp only [Q, pwNames_len] at h7p
    refine Walk.idx sl222 .none rfl rfl rfl rfl (at_nth (by omega)) rfl ?_
    refine evd [] [] ?_
    refine Walk.call (cr := []) cal232 (spec_l1ParseCtor_fn (names := pwNames s (pwLim s)) (s := nth (pwC s m) k) (by rw [hnl]; omega) (by have h1 := pwP_len (s := s) (i := m) (j := 1) (by omega) (by rw [hg1.2 m (by omega)]; omega); have h2 := pwC_len (s := s) (i := m) (k := k) (by omega); omega)) rfl .none rfl rfl (.cons (.gl _ _) (.cons (.refl _) .nil)) trivial rfl rfl rfl ?_
    refine Walk.sliceLit sl119 tz184 rfl (by decide) (ks := [0]) (xs := [_]) rfl rfl (by decide) (by decide) .none rfl rfl rfl rfl ?_
    refine Walk.append sl119 zz184 rfl .none rfl rfl rfl rfl (htokL rfl (by first | rfl | (simp; done) | (simp; omega))) (by simp) (by simp [pwNames_len, pwRaw]; omega) (by simp [pwNames_len, pwRaw]; omega) ?_
    refine evd [] [] ?_
    refine Walk.store ty119 .none rfl rfl rfl rfl rfl rfl (by simp) rfl ?_
    refine dr ?_
    refine ar ?_
    refine Exists.intro (k + 1) ⟨⟨by omega, by omega⟩, (by omega), Sub.x (by kernel_rfl) (by kernel_rfl) ⟨⟨_, rfl, (LeA.eqi (by first | rfl | (simp; done) | (simp_all; done) | omega))⟩, trivial⟩ (by kernel_rfl) (by kernel_rfl) ⟨(by first | rfl | (simp [getH]; done) | (show some (Res.box _) = some (Res.box _); rw [map_take_next (by omega)]; simp; done)), ⟨beq_nat_eq (by first | rfl | (simp; done) | (simp; omega) | (first | rfl | (simp; done) | (simp_all; done) | omega)), trivial⟩⟩⟩
   ·try simp only [Q, pwNames_len] at h7p
    refine Walk.sliceLit sl27 tz121 rfl (by decide) (ks := [0]) (xs := [_]) rfl rfl (by decide) (by decide) .none rfl rfl rfl rfl ?_
    refine Walk.append sl27 zz121 rfl .none rfl rfl rfl rfl (htokL rfl (by first | rfl | (simp; done) | (simp; omega))) (by simp) (by simp [pwNames_len, pwRaw]; omega) (by simp [pwNames_len, pwRaw]; omega) ?_
    refine ev ?_
    refine ar ?_
    refine Exists.intro (m + 1) ⟨(by omega), (by omega), Sub.x (by kernel_rfl) (by kernel_rfl) ⟨⟨_, rfl, (LeA.eqi (by first | rfl | (simp; done) | omega | (rw [pwRaw_next]; simp; done) | (rw [pwRaw_next, List.map_append]; simp only [List.map_cons, List.map_nil, pwData, Data.c]; rw [← List.map_take, take_five (by omega)]; done) | (rw [pwRaw_next, List.map_append]; simp only [List.map_cons, List.map_nil, pwData, Data.c]; rw [← List.map_take, take_five (by omega)]; rfl)))⟩, ⟨⟨_, rfl, (LeA.glg (by first | rfl | (simp; done) | omega | (rw [pwRaw_next]; simp; done) | (rw [pwRaw_next, List.map_append]; simp only [List.map_cons, List.map_nil, pwData, Data.c]; rw [← List.map_take, take_five (by omega)]; done) | (rw [pwRaw_next, List.map_append]; simp only [List.map_cons, List.map_nil, pwData, Data.c]; rw [← List.map_take, take_five (by omega)]; rfl)))⟩, trivial⟩⟩ (by kernel_rfl) (by kernel_rfl) ⟨beq_nat_eq (by first | rfl | (simp; done) | (simp; omega) | (first | rfl | (simp; done) | omega | (rw [pwRaw_next]; simp; done) | (rw [pwRaw_next, List.map_append]; simp only [List.map_cons, List.map_nil, pwData, Data.c]; rw [← List.map_take, take_five (by omega)]; done) | (rw [pwRaw_next, List.map_append]; simp only [List.map_cons, List.map_nil, pwData, Data.c]; rw [← List.map_take, take_five (by omega)]; rfl))), trivial⟩⟩
  ·try simp only [Q, pwNames_len] at h5p
   obtain rfl : m = pwLim s := (by omega)
   refine CWp.regionJ ?_
   refine WRest.join 9 [(98, .d (.bool (!(worldValid (pwRaw s (pwLim s)) && decide (worldText (pwRaw s (pwLim s)) = s)))))] [90, 91, 92, 93, 94, 95, 96, 97] ?_ ?_
   ·
    refine ev ?_
    refine Walk.call (cr := []) cal72 (spec_WorldValid_v (raw_small (by omega) hg1.2)) rfl .none rfl rfl (.cons (.gl _ _) .nil) trivial rfl rfl rfl ?_
    refine ev ?_
    refine sq (fun h8 h8p h8s => ?_) fun h8 h8p h8s => ?_
    ·try simp only [Q, pwNames_len] at h8p
     exact jn rfl (LeA.eqb (by first | rfl | (rw [Bool.eq_iff_iff]; simp_all [pwLim_iff]; done) | (rw [Bool.eq_iff_iff]; simp_all [pwLim_iff]; omega)))
    ·try simp only [Q, pwNames_len] at h8p
     refine Walk.call (cr := []) cal233 (spec_l1Text_fn (valid_tb (by assumption))) rfl (.some rfl rfl h8) rfl rfl (.cons (.gl _ _) .nil) trivial rfl rfl rfl ?_
     refine evs [] [(93, false)] ?_ ⟨⟨_, rfl, h8⟩, trivial⟩
     exact jn rfl (LeA.eqb (by first | rfl | (rw [Bool.eq_iff_iff]; simp_all [pwLim_iff]; done) | (rw [Bool.eq_iff_iff]; simp_all [pwLim_iff]; omega)))
   refine WRest.done ?_
   refine tv ?_
   refine sq (fun h9 h9p h9s => ?_) fun h9 h9p h9s => ?_
   ·try simp only [Q, pwNames_len] at h9p
    refine Walk.sliceEmpty sl27 .none rfl ?_
    refine ev ?_
    refine rn0 (r2 rfl rfl) (.tup (.cons (.eqd ?_) (.cons (.eqd ?_) .nil)))
    all_goals (first | (have hq := good_bad (s := s) (i := i) h3p (fun h => h4p (by omega)); rw [good_no hq]; all_goals rfl) | (have hr := good_rest hg1.2; rw [h9s] at hr; rw [good_no hr]; all_goals rfl) | (have hr := good_rest hg1.2; rw [h9s] at hr; rw [good_yes hr]; all_goals rfl))
   ·try simp only [Q, pwNames_len] at h9p
    refine rn0 (r2 rfl rfl) (.tup (.cons (.gld ?_) (.cons (.eqd ?_) .nil)))
    all_goals (first | (have hq := good_bad (s := s) (i := i) h3p (fun h => h4p (by omega)); rw [good_no hq]; all_goals rfl) | (have hr := good_rest hg1.2; rw [h9s] at hr; rw [good_no hr]; all_goals rfl) | (have hr := good_rest hg1.2; rw [h9s] at hr; rw [good_yes hr]; all_goals rfl))
def texts8 : List Str := [[76, 61, 78, 105, 108, 124, 67, 111, 110, 115, 40, 73, 44, 76, 41],
 [66, 61, 84, 114, 117, 124, 70, 108, 115, 59, 84, 61, 76, 101, 97, 102, 124, 78, 111, 100, 101, 40, 84, 44, 66, 44, 84, 41],
 [69, 61, 78, 117, 109, 40, 73, 41, 58, 49, 124, 66, 111, 108, 40, 66, 41, 58, 50, 124, 65, 100, 100, 40, 69, 49, 44, 69, 49, 41, 58, 49, 124, 73, 102, 40, 69, 50, 44, 69, 42, 44, 69, 42, 41, 59, 66, 61, 84, 114, 117, 124, 70, 108, 115],
 [79, 61, 78, 111, 110, 124, 83, 111, 109, 40, 73, 41, 59, 80, 61, 80, 97, 105, 114, 40, 79, 44, 79, 41],
 [86, 61, 69, 110, 100, 58, 49, 124, 83, 111, 109, 101, 40, 73, 44, 86, 49, 41, 58, 50, 124, 84, 119, 111, 40, 86, 42, 41],
 [78, 61, 78, 101, 118, 101, 114, 40, 78, 41, 59, 66, 61, 84, 114, 117, 124, 70, 108, 115, 124, 77, 97, 121, 40, 78, 41],
 [83, 61, 82, 101, 100, 124, 71, 114, 101, 101, 110, 124, 66, 108, 117, 101, 124, 77, 105, 120, 40, 83, 44, 83, 41],
 []]
theorem texts8_len : texts8.length = 8 := rfl
theorem texts8_small : ∀ t ∈ texts8, t.length ≤ 100 := by decide
theorem text_small {i : Nat} (h : i < 8) : (nth texts8 i).length ≤ 100 := texts8_small _ (nth_mem h)
theorem parseW_small {s : Str} (hs : s.length ≤ 100000) : WSmall (parseW s).1 := by
 unfold parseW
 split
 ·rename_i h
  refine raw_small (by omega) (fun j hj => ?_)
  unfold pwGood at h
  rw [Bool.and_eq_true, List.all_eq_true] at h
  simpa using h.1 j (List.mem_range.2 hj)
 ·exact ⟨by simp, fun d hd => by simp at hd, fun d hd => by simp at hd⟩
theorem spec_l1Texts_fn : FnD Tryz.prog 161 [] [] (.d (encStrs texts8)) [] := by
 refine bd Tryz.f161 2 [] [] fun w0 F0 own kept hk => ?_
 refine Walk.sliceLit sl222 tz9 rfl (by decide) (ks := [0, 1, 2, 3, 4, 5, 6, 7]) (xs := [_, _, _, _, _, _, _, _]) rfl rfl (by decide) (by decide) .none rfl rfl rfl rfl ?_
 refine ev ?_
 refine rn0 (r1 rfl) (.eqd ?_)
 all_goals (rfl)
def digit (n : Nat) : UInt8 := UInt8.ofNat (IntKind.u8.wrap (48 + (n : Int) % 10)).toNat
def digs (n : Nat) : Str := if n = 0 then [] else digs (n / 10) ++ [digit n]
def markStr (n : Nat) : Str := 109 :: digs n
def Ty.one (k : Int) (_ : Ty) : Ty := ⟨k, k + 1⟩
def Ty.sz (_ : Ty) : Int := 2
def Ctor.one (k : Int) (x : Ctor) : Ctor := ⟨markStr k.toNat, mkL Ty.one Ty.sz (k + 1) x.args, k + 1 + szL Ty.sz x.args⟩
def Ctor.sz (x : Ctor) : Int := 2 + szL Ty.sz x.args
def Data.one (k : Int) (x : Data) : Data := ⟨markStr k.toNat, mkL Ctor.one Ctor.sz (k + 1) x.ctors⟩
def Data.sz (x : Data) : Int := 1 + szL Ctor.sz x.ctors
theorem Ty.sz_nn (x : Ty) : 0 ≤ x.sz := by simp [Ty.sz]
theorem Ctor.sz_nn (x : Ctor) : 0 ≤ x.sz := by have := szL_nonneg (l := x.args) Ty.sz_nn; unfold Ctor.sz; omega
theorem Data.sz_nn (x : Data) : 0 ≤ x.sz := by have := szL_nonneg (l := x.ctors) Ctor.sz_nn; unfold Data.sz; omega
def ren (i j : Nat) : AV → AV
 | .ms a n => if a = i then .ms j n else .ms a n
 | x => x
def Pat.op : Pat → Int | .mk a0 _ _ _ _ _ => a0
def Pat.ctor : Pat → Int | .mk _ a1 _ _ _ _ => a1
def Pat.n : Pat → Int | .mk _ _ a2 _ _ _ => a2
def Pat.m : Pat → Int | .mk _ _ _ a3 _ _ => a3
def Pat.var : Pat → Int | .mk _ _ _ _ a4 _ => a4
def Pat.kids : Pat → List Pat | .mk _ _ _ _ _ k => k
abbrev Pat.cc (v : Pat) : List D := [.i v.op, .i v.ctor, .i v.n, .i v.m, .i v.var, .sl (Pat.cs v.kids)]
theorem Pat.c_eq (v : Pat) : v.c = v.cc := by cases v; rfl
theorem Pat.eta (v : Pat) : Pat.mk v.op v.ctor v.n v.m v.var v.kids = v := by cases v; rfl
theorem Pat.cs_at' {pre : List Pat} {x : Pat} {rest xs : List Pat} (h : pre ++ x :: rest = xs) : (Pat.cs xs)[pre.length]? = some x.cc := by rw [Pat.cs_eq, ← Pat.c_eq]; exact zip_at h
mutual
def patEq : Pat → Pat → Bool
 | .mk a0 a1 a2 a3 a4 ks, .mk b0 b1 b2 b3 b4 ls => decide (a0 = b0) && (decide (a1 = b1) && (decide (a2 = b2) && (decide (a3 = b3) && (decide (a4 = b4) && patsEq ks ls))))
def patsEq : List Pat → List Pat → Bool
 | [], [] => true
 | x :: r, y :: s => patEq x y && patsEq r s
 | _, _ => false
end
mutual
def Pat.ok : Pat → Prop
 | .mk _ _ _ _ _ ks => ks.length ≤ 1000000000000 ∧ Pats.ok ks
def Pats.ok : List Pat → Prop
 | [] => True
 | v :: r => v.ok ∧ Pats.ok r
end
theorem Pats.ok_mem : ∀ {l : List Pat}, Pats.ok l → ∀ v, v ∈ l → v.ok
 | x :: r, h, v, hv => by
  simp only [Pats.ok] at h
  rcases List.mem_cons.1 hv with rfl | hv
  ·exact h.1
  ·exact Pats.ok_mem h.2 v hv
mutual
def Pat.size : Pat → Nat
 | .mk _ _ _ _ _ ks => 1 + Pats.size ks
def Pats.size : List Pat → Nat
 | [] => 0
 | v :: r => v.size + Pats.size r
end
theorem Pats.size_mem : ∀ {l : List Pat} {v : Pat}, v ∈ l → v.size ≤ Pats.size l
 | x :: r, v, hv => by
  simp only [Pats.size]
  rcases List.mem_cons.1 hv with rfl | hv
  ·omega
  ·have := Pats.size_mem hv; omega
theorem pats_at {l : List Pat} {i : Nat} (h : i < l.length) : (Pat.cs l)[i]? = some (nth l i).cc := by
 rw [Pat.cs_eq, ← Pat.c_eq]; exact at_nth h
theorem Pat.ok_iff (v : Pat) : v.ok ↔ v.kids.length ≤ 1000000000000 ∧ Pats.ok v.kids := by cases v; rfl
theorem Pat.size_eq (v : Pat) : v.size = 1 + Pats.size v.kids := by cases v; rfl
mutual
theorem patEq_refl : ∀ v : Pat, patEq v v = true
 | .mk _ _ _ _ _ ks => by simp [patEq, patsEq_refl ks]
theorem patsEq_refl : ∀ l : List Pat, patsEq l l = true
 | [] => rfl
 | v :: r => by simp [patsEq, patEq_refl v, patsEq_refl r]
end
theorem Pat.c_len (v : Pat) : v.c.length = 6 := by cases v; rfl
theorem Pat.cs_rows {l : List Pat} : ∀ x, x ∈ Pat.cs l → x.length = 6 := by
 intro x hx
 rw [Pat.cs_eq] at hx
 obtain ⟨y, _, rfl⟩ := List.mem_map.1 hx
 exact y.c_len
theorem Pat.cs_nil (l : List Pat) : Pat.cs l = [] ↔ l = [] := by rw [Pat.cs_eq]; simp
mutual
def mPat : Pat → Nat
 | .mk _ _ _ _ _ ks => mPats ks
def mPats : List Pat → Nat
 | [] => 0
 | v :: r => 1 + mPat v + mPats r
end
mutual
def Pat.szM : Pat → Int
 | .mk _ _ _ _ _ ks => 5 + Pats.szM ks
def Pats.szM : List Pat → Int
 | [] => 0
 | v :: r => v.szM + Pats.szM r
end
mutual
def Pat.one (k : Int) : Pat → Pat
 | .mk _ _ _ _ _ ks => .mk k (k + 1) (k + 1 + 1) (k + 1 + 1 + 1) (k + 1 + 1 + 1 + 1) (Pats.one (k + 1 + 1 + 1 + 1 + 1) ks)
def Pats.one (k : Int) : List Pat → List Pat
 | [] => []
 | v :: r => v.one k :: Pats.one (k + v.szM) r
end
theorem Pats.szM_eq : ∀ l : List Pat, Pats.szM l = szL Pat.szM l
 | [] => rfl
 | v :: r => by simp only [Pats.szM, szL, Pats.szM_eq r]
theorem Pats.one_eq : ∀ (l : List Pat) (k : Int), Pats.one k l = mkL Pat.one Pat.szM k l
 | [], _ => rfl
 | v :: r, k => by simp only [Pats.one, mkL, Pats.one_eq r]
theorem Pat.szM_kids (v : Pat) : v.szM = 5 + szL Pat.szM v.kids := by cases v; simp only [Pat.szM, Pat.kids, Pats.szM_eq]
theorem Pat.one_kids (v : Pat) (k : Int) : (v.one k).kids = mkL Pat.one Pat.szM (k + 1 + 1 + 1 + 1 + 1) v.kids := by cases v; simp only [Pat.one, Pat.kids, Pats.one_eq]
theorem Pat.one_sc (v : Pat) (k : Int) : (Pat.one k v).op = k ∧ (Pat.one k v).ctor = k + 1 ∧ (Pat.one k v).n = k + 1 + 1 ∧ (Pat.one k v).m = k + 1 + 1 + 1 ∧ (Pat.one k v).var = k + 1 + 1 + 1 + 1 := by cases v; exact ⟨rfl, rfl, rfl, rfl, rfl⟩
mutual
theorem Pat.szM_nn : ∀ v : Pat, 0 ≤ v.szM
 | .mk _ _ _ _ _ ks => by have := Pats.szM_nn ks; simp only [Pat.szM]; omega
theorem Pats.szM_nn : ∀ l : List Pat, 0 ≤ Pats.szM l
 | [] => by simp [Pats.szM]
 | v :: r => by have := Pat.szM_nn v; have := Pats.szM_nn r; simp only [Pats.szM]; omega
end
mutual
theorem Pat.szM_le : ∀ v : Pat, v.szM ≤ 5 + 5 * (mPat v : Int)
 | .mk _ _ _ _ _ ks => by have := Pats.szM_le ks; simp only [Pat.szM, mPat]; omega
theorem Pats.szM_le : ∀ l : List Pat, Pats.szM l ≤ 5 * (mPats l : Int)
 | [] => by simp [Pats.szM, mPats]
 | v :: r => by have := Pat.szM_le v; have := Pats.szM_le r; simp only [Pats.szM, mPats]; omega
end
structure Vt where
 var : Int
 ty : Ty
 deriving DecidableEq, Inhabited
abbrev Vt.c (t : Vt) : List D := [.i t.var, .i t.ty.data, .i t.ty.index]
abbrev encVts (l : List Vt) : D := .sl (l.map Vt.c)
def vctors (w : List Data) (t : Ty) : List Int := if t.data = -1 then [] else ctorsOf w t
def typesP (w : List Data) (t : Ty) (p : Pat) : List Ty := if p.op = 4 then argsOf w t p.ctor else if p.op = 5 then [t, t] else if p.op = 6 then [t] else []
def ownP (w : List Data) (t : Ty) (p : Pat) : Bool := decide (((p.op = 2 ∨ p.op = 6) → 0 ≤ p.var ∧ p.var ≤ 5) ∧ (¬ (p.op = 2 ∨ p.op = 6) → p.var = 0) ∧ (p.op ≠ 3 → p.n = 0 ∧ p.m = 0) ∧ (p.op ≠ 4 → p.ctor = 0) ∧
 (p.op = 1 ∨ p.op = 2 ∨ p.op = 5 ∨ p.op = 6 ∨ (p.op = 3 ∧ t.data = -1 ∧ 0 ≤ p.n ∧ p.n ≤ p.m ∧ p.m ≤ 9) ∨ (p.op = 4 ∧ p.ctor ∈ vctors w t)))
def okP (w : List Data) (t : Ty) (p : Pat) : Bool := ownP w t p && decide (p.kids.length = (typesP w t p).length)
def shapeT (w : List Data) (t : Ty) (p : Pat) : List Ty := if p.op = 4 ∧ p.ctor ∉ vctors w t then [] else typesP w t p
def shapeP (w : List Data) : Nat → Ty → Pat → Bool
 | 0, _, _ => false
 | n + 1, t, p => ownP w t p && all2 (shapeP w n) (typesP w t p) p.kids
def nameP (t : Ty) (p : Pat) : List Vt := if p.op = 2 ∨ p.op = 6 then [⟨p.var, t⟩] else []
def varsL (f : Ty → Pat → List Vt) : List Ty → List Pat → List Vt
 | a :: r, b :: s => f a b ++ varsL f r s
 | _, _ => []
def vtypes (w : List Data) (t : Ty) (p : Pat) : List Ty := if p.op = 5 then (typesP w t p).take 1 else typesP w t p
def varsP (w : List Data) : Nat → Ty → Pat → List Vt
 | 0, _, _ => []
 | n + 1, t, p => nameP t p ++ varsL (varsP w n) (vtypes w t p) p.kids
def findV (l : List Vt) (n : Int) : Int := idxF (fun v => decide (v.var = n)) l 0
def alikeV (a b : List Vt) : Bool := a.all (fun v => decide (0 ≤ findV b v.var ∧ (nth b (findV b v.var).toNat).ty = v.ty)) && decide (a.length = b.length)
def distV (l : List Vt) : Bool := (List.range l.length).all fun (i : Nat) => decide (findV l (nth l i).var = (i : Int))
def sameV2 (a b : List Vt) : Bool := decide (a.length = b.length) && !a.any fun v => !decide (v ∈ b)
def nodupV (l : List Vt) : Bool := decide (l.map Vt.var).Nodup
def linP (w : List Data) : Nat → Ty → Pat → Bool
 | 0, _, _ => true
 | n + 1, t, p => all2 (linP w n) (typesP w t p) p.kids && (if p.op = 5 then alikeV (varsP w n t (nth p.kids 0)) (varsP w n t (nth p.kids 1)) else distV (varsP w (n + 1) t p))
theorem findV_spec (l : List Vt) (n : Int) : (findV l n = -1 ∧ ∀ v ∈ l, v.var ≠ n) ∨ ∃ k : Nat, findV l n = k ∧ k < l.length ∧ (nth l k).var = n ∧ ∀ j, j < k → (nth l j).var ≠ n := by
 have key : ∀ (l : List Vt) (i : Nat), (idxF (fun v => decide (v.var = n)) l i = -1 ∧ ∀ v ∈ l, v.var ≠ n) ∨ ∃ k : Nat, idxF (fun v => decide (v.var = n)) l i = ((i + k : Nat) : Int) ∧ k < l.length ∧ (nth l k).var = n ∧ ∀ j, j < k → (nth l j).var ≠ n := by
  intro l
  induction l with
  | nil => intro i; exact .inl ⟨rfl, by simp⟩
  | cons x r ih =>
   intro i
   unfold idxF
   by_cases h : x.var = n
   ·exact .inr ⟨0, by simp [h], by simp, by simpa [nth] using h, fun j hj => absurd hj (by omega)⟩
   ·rcases ih (i + 1) with ⟨h1, h2⟩ | ⟨k, h1, h2, h3, h4⟩
    ·exact .inl ⟨by simpa [h] using h1, fun v hv => by rcases List.mem_cons.1 hv with rfl | hv; exact h; exact h2 v hv⟩
    ·refine .inr ⟨k + 1, ?_, by simpa using h2, by simpa [nth] using h3, fun j hj => ?_⟩
     ·simp only [h, decide_false, Bool.false_eq_true, if_false]; rw [h1]; congr 1; omega
     ·cases j with
      | zero => simpa [nth] using h
      | succ j => simpa [nth] using h4 j (by omega)
 rcases key l 0 with h | ⟨k, h1, h2⟩
 ·exact .inl h
 ·exact .inr ⟨k, by unfold findV; simpa using h1, h2⟩
theorem nodup_iff {l : List Vt} : (l.map Vt.var).Nodup ↔ ∀ i j, i < j → j < l.length → (nth l i).var ≠ (nth l j).var := by
 unfold List.Nodup
 rw [List.pairwise_iff_getElem]
 constructor
 ·intro h i j hij hj
  have := h i j (by simp; omega) (by simpa using hj) hij
  simp only [List.getElem_map] at this
  rw [nth_eq (by omega), nth_eq hj]; exact this
 ·intro h i j hi hj hij
  simp only [List.length_map] at hi hj
  simp only [List.getElem_map]
  rw [← nth_eq hi, ← nth_eq hj]; exact h i j hij hj
theorem nodup_nth {l : List Vt} (h : (l.map Vt.var).Nodup) {i j : Nat} (hi : i < l.length) (hj : j < l.length) (he : (nth l i).var = (nth l j).var) : i = j := by
 have h1 := nodup_iff.1 h
 rcases Nat.lt_trichotomy i j with h2 | h2 | h2
 ·exact absurd he (h1 i j h2 hj)
 ·exact h2
 ·exact absurd he.symm (h1 j i h2 hi)
theorem distV_eq (l : List Vt) : distV l = nodupV l := by
 unfold nodupV
 by_cases h : (l.map Vt.var).Nodup
 ·rw [decide_eq_true h]
  refine all_range_true (fun i hi => decide_eq_true ?_)
  rcases findV_spec l (nth l i).var with ⟨_, h2⟩ | ⟨k, h1, h2, h3, h4⟩
  ·exact absurd rfl (h2 _ (nth_mem hi))
  ·rw [h1, nodup_nth h h2 hi h3]
 ·rw [decide_eq_false h]
  cases hd : distV l with
  | false => rfl
  | true =>
   refine absurd ?_ h
   rw [nodup_iff]
   intro i j hij hj he
   have h1 := List.all_eq_true.1 hd i (List.mem_range.2 (by omega))
   have h2 := List.all_eq_true.1 hd j (List.mem_range.2 hj)
   simp only [decide_eq_true_eq] at h1 h2
   rw [he, h2] at h1
   omega
theorem alike_same {a b : List Vt} (hb : nodupV b = true) : alikeV a b = sameV2 a b := by
 unfold nodupV at hb
 simp only [decide_eq_true_eq] at hb
 unfold alikeV sameV2
 rw [Bool.and_comm]
 congr 1
 rw [Bool.eq_iff_iff]
 simp only [List.all_eq_true, Bool.not_eq_true', List.any_eq_false, decide_eq_true_eq, Bool.not_eq_true, decide_eq_false_iff_not, Decidable.not_not]
 refine forall_congr' fun v => forall_congr' fun hv => ?_
 rcases findV_spec b v.var with ⟨h1, h2⟩ | ⟨k, h1, h2, h3, h4⟩
 ·rw [h1]
  exact ⟨fun h => absurd h.1 (by omega), fun h => absurd rfl (h2 v h)⟩
 ·rw [h1]
  simp only [Int.toNat_natCast]
  constructor
  ·rintro ⟨_, h⟩
   have : nth b k = v := by
    have e : ∀ x y : Vt, x.var = y.var → x.ty = y.ty → x = y := fun x y h1 h2 => by cases x; cases y; simp_all
    exact e _ _ h3 h
   rw [← this]; exact nth_mem h2
  ·intro h
   refine ⟨by omega, ?_⟩
   obtain ⟨j, hj, he⟩ := List.getElem_of_mem h
   have h5 : nth b j = v := by rw [nth_eq hj]; exact he
   have := nodup_nth hb h2 hj (by rw [h3, h5])
   rw [this, h5]
def scanK (g : Ty → Pat → Int → Option (List Vt) × Int) (or : Bool) : List Ty → List Pat → Nat → List Vt → Int → Option (List Vt) × Int
 | a :: r, b :: s, i, acc, c => match (g a b c).1 with
  | none => (none, (g a b c).2)
  | some l => if or = true ∧ i = 1 then (if sameV2 acc l = true then scanK g or r s (i + 1) acc (g a b c).2 else (none, (g a b c).2)) else scanK g or r s (i + 1) (acc ++ l) (g a b c).2
 | _, _, _, acc, c => (some acc, c)
def finV (r : Option (List Vt) × Int) : Option (List Vt) × Int := match r.1 with
 | none => r
 | some l => if nodupV l = true then r else (none, r.2)
def scanP (w : List Data) : Nat → Ty → Pat → Int → Option (List Vt) × Int
 | 0, _, _, c => (none, c + 1)
 | n + 1, t, p, c => if 60 < c + 1 then (none, c + 1) else if okP w t p = true then finV (scanK (scanP w n) (decide (p.op = 5)) (typesP w t p) p.kids 0 (nameP t p) (c + 1)) else (none, c + 1)
def wantP (w : List Data) (n : Nat) (t : Ty) (p : Pat) (c : Int) : Bool := shapeP w n t p && (decide (c + (p.size : Int) ≤ 60) && linP w n t p)
theorem lin_nodup (w : List Data) : ∀ (n : Nat) (t : Ty) (p : Pat), shapeP w n t p = true → linP w n t p = true → nodupV (varsP w n t p) = true
 | 0, t, p, h, _ => by simp [shapeP] at h
 | n + 1, t, p, h, hl => by
  by_cases h5 : p.op = 5
  ·simp only [shapeP, linP, Bool.and_eq_true, if_pos h5] at h hl
   have e1 : typesP w t p = [t, t] := by unfold typesP; rw [if_neg (by omega), if_pos h5]
   rw [e1] at h hl
   rcases hk : p.kids with _ | ⟨x, _ | ⟨y, _ | ⟨z, r⟩⟩⟩
   ·rw [hk] at h; simp [all2] at h
   ·rw [hk] at h; simp [all2] at h
   ·rw [hk] at h hl
    simp only [all2, Bool.and_eq_true, and_true] at h hl
    have := lin_nodup w n t x h.2.1 hl.1.1
    have e2 : varsP w (n + 1) t p = varsP w n t x := by
     simp only [varsP, nameP, vtypes, e1, hk, if_pos h5]
     rw [if_neg (by omega)]
     simp [varsL]
    rw [e2]; exact this
   ·rw [hk] at h; simp [all2] at h
  ·simp only [linP, if_neg h5, Bool.and_eq_true] at hl
   rw [← distV_eq]; exact hl.2
theorem scanK_eq {w : List Data} {n : Nat} (ih : ∀ t p c, ((scanP w n t p c).1 = if wantP w n t p c = true then some (varsP w n t p) else none) ∧ (wantP w n t p c = true → (scanP w n t p c).2 = c + p.size)) :
  ∀ (a : List Ty) (b : List Pat) (i : Nat) (acc : List Vt) (c : Int), a.length = b.length → c ≤ 60 →
   ((scanK (scanP w n) false a b i acc c).1 = if (all2 (shapeP w n) a b && (decide (c + (Pats.size b : Int) ≤ 60) && all2 (linP w n) a b)) = true then some (acc ++ varsL (varsP w n) a b) else none) ∧
   ((all2 (shapeP w n) a b && (decide (c + (Pats.size b : Int) ≤ 60) && all2 (linP w n) a b)) = true → (scanK (scanP w n) false a b i acc c).2 = c + Pats.size b)
 | [], [], i, acc, c, _, hc => by simp [scanK, all2, Pats.size, varsL, hc]
 | x :: r, y :: s, i, acc, c, hl, hc => by
  obtain ⟨h1, h2⟩ := ih x y c
  have hps : Pats.size (y :: s) = y.size + Pats.size s := rfl
  simp only [scanK, varsL]
  by_cases hw : wantP w n x y c = true
  ·have h3 := h2 hw
   rw [if_pos hw] at h1
   rw [h1]
   simp only [Bool.false_eq_true, false_and, if_false]
   have h4 := hw
   simp only [wantP, Bool.and_eq_true, decide_eq_true_eq] at h4
   obtain ⟨h5, h6⟩ := scanK_eq ih r s (i + 1) (acc ++ varsP w n x y) (scanP w n x y c).2 (by simpa using hl) (by omega)
   have e : (all2 (shapeP w n) (x :: r) (y :: s) && (decide (c + (Pats.size (y :: s) : Int) ≤ 60) && all2 (linP w n) (x :: r) (y :: s))) = (all2 (shapeP w n) r s && (decide ((scanP w n x y c).2 + (Pats.size s : Int) ≤ 60) && all2 (linP w n) r s)) := by
    rw [all2, all2, h4.1, h4.2.2, h3]
    simp only [Bool.true_and]
    congr 2
    exact decide_eq_decide.2 (by omega)
   rw [e]
   refine ⟨?_, fun hx => ?_⟩
   ·rw [h5, List.append_assoc]
   ·rw [h6 hx, h3]; omega
  ·rw [if_neg hw] at h1
   rw [h1]
   simp only
   have hf : ¬ (all2 (shapeP w n) (x :: r) (y :: s) && (decide (c + (Pats.size (y :: s) : Int) ≤ 60) && all2 (linP w n) (x :: r) (y :: s))) = true := fun h => by
    simp only [all2, Bool.and_eq_true, decide_eq_true_eq] at h
    refine hw ?_
    simp only [wantP, Bool.and_eq_true, decide_eq_true_eq]
    refine ⟨h.1.1, ?_, h.2.2.1⟩
    have := h.2.1
    omega
   rw [if_neg hf]
   exact ⟨rfl, fun h => absurd h hf⟩
 | [], _ :: _, _, _, _, hl, _ => by simp at hl
 | _ :: _, [], _, _, _, hl, _ => by simp at hl
theorem scanP_eq (w : List Data) : ∀ (n : Nat) (t : Ty) (p : Pat) (c : Int), ((scanP w n t p c).1 = if wantP w n t p c = true then some (varsP w n t p) else none) ∧ (wantP w n t p c = true → (scanP w n t p c).2 = c + p.size)
 | 0, t, p, c => by simp [scanP, wantP, shapeP]
 | n + 1, t, p, c => by
  have hsz := Pat.size_eq p
  unfold scanP
  by_cases h1 : 60 < c + 1
  ·have hf : ¬ wantP w (n + 1) t p c = true := fun h => by
    simp only [wantP, Bool.and_eq_true, decide_eq_true_eq] at h; omega
   rw [if_pos h1, if_neg hf]
   exact ⟨rfl, fun h => absurd h hf⟩
  rw [if_neg h1]
  by_cases h2 : okP w t p = true
  ·rw [if_pos h2]
   have h2' := h2
   simp only [okP, Bool.and_eq_true, decide_eq_true_eq] at h2'
   by_cases h5 : p.op = 5
   ·have e1 : typesP w t p = [t, t] := by unfold typesP; rw [if_neg (by omega), if_pos h5]
    have e3 : nameP t p = [] := by unfold nameP; rw [if_neg (by omega)]
    rw [e1] at h2'
    rcases hk : p.kids with _ | ⟨x, _ | ⟨y, _ | ⟨z, r⟩⟩⟩
    ·rw [hk] at h2'; simp at h2'
    ·rw [hk] at h2'; simp at h2'
    ·have e4 : varsP w (n + 1) t p = varsP w n t x := by
      simp only [varsP, vtypes, e1, hk, if_pos h5, e3]
      simp [varsL]
     have e5 : wantP w (n + 1) t p c = ((shapeP w n t x && shapeP w n t y) && (decide (c + 1 + (x.size : Int) + y.size ≤ 60) && ((linP w n t x && linP w n t y) && alikeV (varsP w n t x) (varsP w n t y)))) := by
      simp only [wantP, shapeP, linP, h2'.1, e1, hk, all2, if_pos h5, Bool.and_true, Bool.true_and, nth, List.getD_cons_zero, List.getD_cons_succ]
      congr 2
      refine decide_eq_decide.2 ?_
      rw [hsz, hk]; simp only [Pats.size]; push_cast; omega
     rw [e4, e5, e1, e3]
     obtain ⟨a1, a2⟩ := scanP_eq w n t x (c + 1)
     simp only [scanK, h5, decide_true]
     by_cases w1 : wantP w n t x (c + 1) = true
     ·have a3 := a2 w1
      rw [if_pos w1] at a1
      have b1 := w1
      simp only [wantP, Bool.and_eq_true, decide_eq_true_eq] at b1
      obtain ⟨d1, d2⟩ := scanP_eq w n t y (scanP w n t x (c + 1)).2
      rw [a1]
      simp only [true_and, Nat.zero_ne_one, if_false, List.nil_append]
      by_cases w2 : wantP w n t y (scanP w n t x (c + 1)).2 = true
      ·have d3 := d2 w2
       rw [if_pos w2] at d1
       have b2 := w2
       simp only [wantP, Bool.and_eq_true, decide_eq_true_eq] at b2
       rw [d1]
       simp only [Nat.zero_add, if_true]
       have n1 := lin_nodup w n t x b1.1 b1.2.2
       have n2 := lin_nodup w n t y b2.1 b2.2.2
       have e6 : ((shapeP w n t x && shapeP w n t y) && (decide (c + 1 + (x.size : Int) + y.size ≤ 60) && ((linP w n t x && linP w n t y) && alikeV (varsP w n t x) (varsP w n t y)))) = sameV2 (varsP w n t x) (varsP w n t y) := by
        rw [b1.1, b2.1, b1.2.2, b2.2.2, alike_same n2, decide_eq_true (by omega)]; simp
       rw [e6]
       by_cases hs : sameV2 (varsP w n t x) (varsP w n t y) = true
       ·rw [if_pos hs, if_pos hs]
        simp only [finV, n1, if_true]
        refine ⟨trivial, fun _ => ?_⟩
        rw [d3, a3, hsz, hk]; simp only [Pats.size]; push_cast; omega
       ·rw [if_neg hs, if_neg hs]
        simp only [finV]
        exact ⟨trivial, fun h => absurd h hs⟩
      ·rw [if_neg w2] at d1
       rw [d1]
       simp only [finV]
       have hf : ¬ ((shapeP w n t x && shapeP w n t y) && (decide (c + 1 + (x.size : Int) + y.size ≤ 60) && ((linP w n t x && linP w n t y) && alikeV (varsP w n t x) (varsP w n t y)))) = true := fun h => by
        simp only [Bool.and_eq_true, decide_eq_true_eq] at h
        refine w2 ?_
        simp only [wantP, Bool.and_eq_true, decide_eq_true_eq]
        exact ⟨h.1.2, by omega, h.2.2.1.2⟩
       rw [if_neg hf]
       exact ⟨rfl, fun h => absurd h hf⟩
     ·rw [if_neg w1] at a1
      rw [a1]
      simp only [finV]
      have hf : ¬ ((shapeP w n t x && shapeP w n t y) && (decide (c + 1 + (x.size : Int) + y.size ≤ 60) && ((linP w n t x && linP w n t y) && alikeV (varsP w n t x) (varsP w n t y)))) = true := fun h => by
       simp only [Bool.and_eq_true, decide_eq_true_eq] at h
       refine w1 ?_
       simp only [wantP, Bool.and_eq_true, decide_eq_true_eq]
       exact ⟨h.1.1, by omega, h.2.2.1.1⟩
      rw [if_neg hf]
      exact ⟨rfl, fun h => absurd h hf⟩
    ·rw [hk] at h2'; simp at h2'
   ·have e0 : (decide (p.op = 5)) = false := decide_eq_false h5
    rw [e0]
    obtain ⟨a1, a2⟩ := scanK_eq (fun t p c => scanP_eq w n t p c) (typesP w t p) p.kids 0 (nameP t p) (c + 1) h2'.2.symm (by omega)
    have e4 : varsP w (n + 1) t p = nameP t p ++ varsL (varsP w n) (typesP w t p) p.kids := by simp only [varsP, vtypes, if_neg h5]
    have e5 : wantP w (n + 1) t p c = ((all2 (shapeP w n) (typesP w t p) p.kids && (decide (c + 1 + (Pats.size p.kids : Int) ≤ 60) && all2 (linP w n) (typesP w t p) p.kids)) && nodupV (varsP w (n + 1) t p)) := by
     have : decide (c + (p.size : Int) ≤ 60) = decide (c + 1 + (Pats.size p.kids : Int) ≤ 60) := decide_eq_decide.2 (by omega)
     simp only [wantP, shapeP, linP, h2'.1, if_neg h5, Bool.true_and, distV_eq, this, Bool.and_assoc]
    rw [e5]
    by_cases hw : (all2 (shapeP w n) (typesP w t p) p.kids && (decide (c + 1 + (Pats.size p.kids : Int) ≤ 60) && all2 (linP w n) (typesP w t p) p.kids)) = true
    ·rw [if_pos hw, ← e4] at a1
     have a3 := a2 hw
     rw [hw, Bool.true_and]
     unfold finV
     rw [a1]
     by_cases hn : nodupV (varsP w (n + 1) t p) = true
     ·simp only [hn, if_true]
      exact ⟨a1, fun _ => by rw [a3]; omega⟩
     ·simp only [hn, Bool.false_eq_true, if_false]
      exact ⟨trivial, fun h => absurd h (by simp)⟩
    ·rw [if_neg hw] at a1
     have hw' : (all2 (shapeP w n) (typesP w t p) p.kids && (decide (c + 1 + (Pats.size p.kids : Int) ≤ 60) && all2 (linP w n) (typesP w t p) p.kids)) = false := by simpa using hw
     rw [hw', Bool.false_and]
     unfold finV
     rw [a1]
     simp [a1]
  ·have hf : ¬ wantP w (n + 1) t p c = true := fun h => by
    simp only [wantP, shapeP, Bool.and_eq_true, decide_eq_true_eq] at h
    refine h2 ?_
    simp only [okP, Bool.and_eq_true, decide_eq_true_eq]
    refine ⟨h.1.1, ?_⟩
    by_cases hl : (typesP w t p).length = p.kids.length
    ·exact hl.symm
    ·have := all2_len (f := shapeP w n) hl
     rw [this] at h; simp at h
   rw [if_neg h2, if_neg hf]
   exact ⟨rfl, fun h => absurd h hf⟩
mutual
def cntP (m : Int) : Pat → Int
 | .mk _ _ _ _ _ ks => cntPL m 1 ks
def cntPL (m n : Int) : List Pat → Int
 | [] => n
 | k :: r => if n ≤ m then cntPL m (n + cntP (m - n) k) r else n
end
theorem cntP_eq (m : Int) (v : Pat) : cntP m v = cntPL m 1 v.kids := by cases v; rfl
theorem cntPL_stop {m n : Int} {l : List Pat} (h : ¬ n ≤ m) : cntPL m n l = n := by cases l <;> simp [cntPL, h]
mutual
theorem cntP_le : ∀ (v : Pat) (m : Int), 1 ≤ cntP m v ∧ cntP m v ≤ v.size
 | .mk _ _ _ _ _ ks, m => by
  have := cntPL_le ks m 1 (by omega)
  simp only [cntP, Pat.size]; push_cast; omega
theorem cntPL_le : ∀ (l : List Pat) (m n : Int), 1 ≤ n → 1 ≤ cntPL m n l ∧ cntPL m n l ≤ n + Pats.size l
 | [], m, n, h => by simp [cntPL, Pats.size]; omega
 | k :: r, m, n, h => by
  have h1 := cntP_le k (m - n)
  have h2 := cntPL_le r m (n + cntP (m - n) k) (by omega)
  simp only [cntPL, Pats.size]
  split
  ·push_cast; omega
  ·push_cast; omega
end
mutual
theorem cntP_iff : ∀ (v : Pat) (m : Int), (cntP m v ≤ m ↔ (v.size : Int) ≤ m) ∧ (cntP m v ≤ m → cntP m v = v.size)
 | .mk _ _ _ _ _ ks, m => by
  have := cntPL_iff ks m 1
  simp only [cntP, Pat.size]; push_cast; exact this
theorem cntPL_iff : ∀ (l : List Pat) (m n : Int), (cntPL m n l ≤ m ↔ n + (Pats.size l : Int) ≤ m) ∧ (cntPL m n l ≤ m → cntPL m n l = n + Pats.size l)
 | [], m, n => by simp [cntPL, Pats.size]
 | k :: r, m, n => by
  have h1 := cntP_iff k (m - n)
  have h2 := cntPL_iff r m (n + cntP (m - n) k)
  have h3 := cntPL_le r m (n + cntP (m - n) k)
  have h4 := cntP_le k (m - n)
  simp only [cntPL, Pats.size]
  push_cast
  by_cases hn : n ≤ m
  ·rw [if_pos hn]
   by_cases h5 : cntP (m - n) k ≤ m - n
   ·have h6 := h1.2 h5
    rw [h6] at h2 ⊢
    constructor
    ·rw [h2.1]; constructor <;> intro h <;> omega
    ·intro h; rw [h2.2 h]; omega
   ·have h7 : ¬ (k.size : Int) ≤ m - n := fun h => h5 (h1.1.2 h)
    have h8 : ¬ n + cntP (m - n) k ≤ m := by omega
    rw [cntPL_stop h8]
    constructor
    ·constructor <;> intro h <;> omega
    ·intro h; omega
  ·rw [if_neg hn]
   constructor
   ·constructor <;> intro h <;> omega
   ·intro h; omega
end
theorem Pats.size_split {pre rest l : List Pat} {y : Pat} (h : pre ++ y :: rest = l) : Pats.size l = Pats.size pre + y.size + Pats.size rest := by
 subst h
 induction pre with
 | nil => simp [Pats.size]
 | cons x r ih => simp only [List.cons_append, Pats.size, ih]; omega
theorem pnth_size {l : List Pat} {i : Nat} (h : i < l.length) : (nth l i).size ≤ Pats.size l := Pats.size_mem (nth_mem h)
theorem psize_drop {l : List Pat} {i : Nat} (h : i < l.length) : Pats.size (l.drop i) = (nth l i).size + Pats.size (l.drop (i + 1)) := by
 rw [drop_nth h]; rfl
theorem spec_l3Count_fn : ∀ (n : Nat) {v : Pat} {m : Int}, v.size ≤ n → v.size ≤ 1000000000000 → v.ok → 0 ≤ m → m ≤ 1000000000000 → FnD Tryz.prog 240 [.agg [.d (.i v.op), .d (.i v.ctor), .d (.i v.n), .d (.i v.m), .d (.i v.var), .d (encPats v.kids)], .d (.i m)] [] (.d (.i (cntP m v))) []
 | 0, v, m, h, _, _, _, _ => by rw [Pat.size_eq] at h; omega
 | n + 1, v, m, h, hb, hok, m0, m1 => by
  rw [Pat.size_eq] at h hb
  rw [Pat.ok_iff] at hok
  rw [cntP_eq]
  refine bd Tryz.f240 31 [] [] fun w0 F0 own kept hk => ?_
  refine Walk.box (id := 3002) .none rfl rfl rfl rfl rfl rfl rfl ?_
  refine ev ?_
  refine CWp.loopX (ι := Nat × Int) hk (fun x => [(6, .d (.i (x.1 : Int))), (5, .d (.i x.2))]) [7, 8, 9, 10, 11, 12, 13, 14, 15, 16, 17, 18, 19, 20, 21, 22, 23, 24, 25, 26, 27, 28, 29] (fun x => []) (fun x => x.1 ≤ v.kids.length ∧ cntPL m x.2 (v.kids.drop x.1) = cntPL m 1 v.kids ∧ 1 ≤ x.2 ∧ x.2 + Pats.size (v.kids.drop x.1) ≤ 1 + Pats.size v.kids) (fun x => v.kids.length - x.1) (0, 1) ⟨by simp, by simp, by simp, by simp⟩ ⟨⟨_, rfl, (LeA.eqi (by first | rfl | (simp; done) | (dsimp only; omega)))⟩, ⟨⟨_, rfl, (LeA.eqi (by first | rfl | (simp; done) | (dsimp only; omega)))⟩, trivial⟩⟩ trivial (fun x => rfl) (fun x hg1 => ?_)
  refine evc [] [] ?_
  refine sq (fun h1 h1p h1s => ?_) fun h1 h1p h1s => ?_
  ·try simp only [Q, Pat.cs_len] at h1p
   refine sq (fun h2 h2p h2s => ?_) fun h2 h2p h2s => ?_
   ·try simp only [Q, Pat.cs_len] at h2p
    refine Walk.idx sl49 .none rfl rfl rfl rfl (pats_at (by omega)) rfl ?_
    refine ev ?_
    refine ar ?_ (by first | (constructor <;> omega) | (have hz := cntP_le (nth v.kids x.1) (m - x.2); have hs := psize_drop (l := v.kids) (i := x.1) (by omega); constructor <;> omega) | (constructor <;> simp [Pat.cs_len] <;> omega))
    refine Walk.call (cr := []) cal240 (spec_l3Count_fn n (v := nth v.kids x.1) (by have := pnth_size (l := v.kids) (i := x.1) (by omega); omega) (by have := pnth_size (l := v.kids) (i := x.1) (by omega); omega) (Pats.ok_mem hok.2 _ (nth_mem (by omega))) (by omega) (by omega)) rfl .none rfl rfl (LeL.refl _) trivial rfl rfl rfl ?_
    refine ev ?_
    refine ar ?_ (by first | (constructor <;> omega) | (have hz := cntP_le (nth v.kids x.1) (m - x.2); have hs := psize_drop (l := v.kids) (i := x.1) (by omega); constructor <;> omega) | (constructor <;> simp [Pat.cs_len] <;> omega))
    refine ar ?_ (by first | (constructor <;> omega) | (have hz := cntP_le (nth v.kids x.1) (m - x.2); have hs := psize_drop (l := v.kids) (i := x.1) (by omega); constructor <;> omega) | (constructor <;> simp [Pat.cs_len] <;> omega))
    refine Exists.intro ((x.1 + 1, x.2 + cntP (m - x.2) (nth v.kids x.1))) ⟨(by
        have hz := cntP_le (nth v.kids x.1) (m - x.2)
        have hs := psize_drop (l := v.kids) (i := x.1) (by omega)
        refine ⟨by dsimp only; omega, ?_, by dsimp only; omega, by dsimp only; omega⟩
        rw [← hg1.2.1, drop_nth (l := v.kids) (i := x.1) (by omega), cntPL, if_pos (by omega)]), (by dsimp only; omega), Sub.x (by kernel_rfl) (by kernel_rfl) ⟨⟨_, rfl, (LeA.eqi (by first | rfl | (simp; done) | (dsimp only; omega)))⟩, ⟨⟨_, rfl, (LeA.eqi (by first | rfl | (simp; done) | (dsimp only; omega)))⟩, trivial⟩⟩ (by kernel_rfl) (by kernel_rfl) trivial⟩
   ·try simp only [Q, Pat.cs_len] at h2p
    refine rn0 (r1 rfl) (.eqd ?_)
    all_goals (refine congrArg D.i ?_; rw [← hg1.2.1]; first | (rw [List.drop_eq_nil_of_le (by omega)]; rfl) | (rw [cntPL_stop (by omega)]))
  ·try simp only [Q, Pat.cs_len] at h1p
   refine sqF ?_
   refine rn0 (r1 rfl) (.eqd ?_)
   all_goals (refine congrArg D.i ?_; rw [← hg1.2.1]; first | (rw [List.drop_eq_nil_of_le (by omega)]; rfl) | (rw [cntPL_stop (by omega)]))
end Go.Proofs.YtdgknigklgnefaaGreat
