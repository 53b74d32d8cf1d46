/-
  THE ABSTRACT WALK AND THE WALKS, part 3 of 4: the parts F4, F5, F6, Wv, G1, F19, F31, F32, F33, F34, Val, F7, F8, Wu, F9, F10.
-/
import Derived.Test.YtpimgoacljakgaaJ2
namespace Go.Proofs.Ytpimgoacljakgaa
open Go
set_option linter.unusedSimpArgs false
set_option linter.unusedVariables false
set_option maxRecDepth 100000
set_option maxHeartbeats 2000000
def fits (c : Ctor) (k : Int) : Bool := decide (k = 0) || (decide (c.index = 0) || decide (c.index = k))
def ctorsFrom (k : Int) : Nat → List Ctor → List Int
 | _, [] => []
 | i, c :: r => if fits c k then (i : Int) :: ctorsFrom k (i + 1) r else ctorsFrom k (i + 1) r
def argTy (k : Int) (t : Ty) : Ty := if t.index = -1 then ⟨t.data, k⟩ else t
def resIx (c : Ctor) (k : Int) : Int := if c.index = 0 then k else c.index
theorem ctorsFrom_len (k : Int) : ∀ (l : List Ctor) (i : Nat), (ctorsFrom k i l).length ≤ l.length
 | [], _ => by simp [ctorsFrom]
 | c :: r, i => by
  have := ctorsFrom_len k r (i + 1)
  unfold ctorsFrom; split <;> simp <;> omega
theorem impl_ctorsOf_fn {w : List Data} {d : Nat} {k : Int} (hs : WSmall w) (hd : d < w.length) : FnD Try.prog 128 [.d (encDatas w), .agg [.d (.i d), .d (.i k)]] [] (.d (encInts (ctorsFrom k 0 (nth w d).ctors))) [] := by
 have hb := hs.ctors d
 refine bd Try.f128 44 [5] [] fun w0 F0 own kept hk => ?_
 refine Walk.box (id := 3003) .none rfl rfl rfl rfl rfl rfl rfl ?_
 refine evs [5] [] ?_
 refine Walk.assignNil 1 1 .none rfl rfl ?_
 refine tv ?_
 refine sq (fun h1 h1p h1s => ?_) fun h1 h1p h1s => ?_
 ·try simp only [Q] at h1p
  refine Walk.idx sl23 .none rfl rfl rfl rfl (at_nth hd) rfl ?_
  refine evs [5] [] ?_
  refine CWp.loopX (ι := List (Ctor) × List (Ctor) × (List Int)) hk (fun x => [(18, .d (.i (x.1.length : Int))), (5, .gl 1 (x.2.2.map fun n => [D.i n]))]) [6, 7, 19, 20, 21, 22, 23, 24, 25, 26, 27, 28, 29, 30, 31, 32, 33, 34, 35, 36, 37, 38, 39, 40, 41, 42] (fun x => [(1, some (.tok ((x.2.2.map fun n => [D.i n])).length 1))]) (fun x => x.1 ++ x.2.1 = (nth w d).ctors ∧ x.2.2 ++ ctorsFrom k x.1.length x.2.1 = ctorsFrom k 0 (nth w d).ctors ∧ x.2.2.length ≤ x.1.length) (fun x => x.2.1.length) ([], (nth w d).ctors, []) ⟨by simp, by simp, by simp⟩ ⟨⟨_, rfl, (LeA.eqi (by first | rfl | (simp; done) | (simp [fits, hk]; done)))⟩, ⟨⟨_, rfl, (LeA.glg (by first | rfl | (simp; done) | (simp [fits, hk]; done)))⟩, trivial⟩⟩ ⟨beq_nat_eq (by first | rfl | (simp; done) | (simp; omega) | (first | rfl | (simp; done) | (simp [fits, hk]; done))), trivial⟩ (fun x => rfl) (fun x hg1 => ?_)
  obtain ⟨pre, rest, acc⟩ := x
  dsimp only at hg1 ⊢
  refine evc [5] [] ?_
  refine sq (fun h2 h2p h2s => ?_) fun h2 h2p h2s => ?_
  ·try simp only [Q] at h2p
   rcases rest with _ | ⟨y, rest⟩
   ·exfalso; simp_all
   refine Walk.idx sl77 .none rfl rfl rfl rfl (zip_at hg1.1) rfl ?_
   refine evs [5] [] ?_
   refine Walk.alloc (id := 3007) tz82 rfl .none rfl rfl rfl rfl ?_
   refine evs [5] [] ?_
   refine Walk.store ty82 .none rfl rfl rfl rfl rfl rfl (by simp) rfl ?_
   refine tv ?_
   refine sq (fun h3 h3p h3s => ?_) fun h3 h3p h3s => ?_
   ·try simp only [Q] at h3p
    refine sqT ?_
    refine sqT ?_
    refine Walk.sliceLit sl66 tz3 rfl (by decide) (ks := [0]) (xs := [_]) rfl rfl (by decide) (by decide) .none rfl rfl rfl rfl ?_
    refine Walk.append sl66 zz3 rfl .none rfl rfl rfl rfl (htokL rfl (by first | rfl | (simp; done) | (simp; omega))) (by simp) (by have hl := hg1.2.2; simp; omega) (by have hl := hg1.2.2; simp; omega) ?_
    refine asg ?_
    refine tv ?_
    refine ar ?_
    refine Exists.intro ((pre ++ [y], rest, if fits y k then acc ++ [(pre.length : Int)] else acc)) ⟨⟨(by have hz := hg1.1; rw [← hz]; simp), ⟨by rw [← hg1.2.1]; by_cases hf : fits y k = true <;> simp [ctorsFrom, hf], by split <;> simp <;> omega⟩⟩, (by simp), Sub.x (by kernel_rfl) (by kernel_rfl) ⟨⟨_, rfl, (LeA.eqi (by first | rfl | (simp; done) | (simp [fits, h1s, h1p, h2s, h2p, h3s, h3p]; done)))⟩, ⟨⟨_, rfl, (LeA.glg (by first | rfl | (simp; done) | (simp [fits, h1s, h1p, h2s, h2p, h3s, h3p]; done)))⟩, trivial⟩⟩ (by kernel_rfl) (by kernel_rfl) ⟨beq_nat_eq (by first | rfl | (simp; done) | (simp; omega) | (first | rfl | (simp; done) | (simp [fits, h1s, h1p, h2s, h2p, h3s, h3p]; done))), trivial⟩⟩
   ·try simp only [Q] at h3p
    refine sq (fun h5 h5p h5s => ?_) fun h5 h5p h5s => ?_
    ·try simp only [Q] at h5p
     refine sqT ?_
     refine Walk.sliceLit sl66 tz3 rfl (by decide) (ks := [0]) (xs := [_]) rfl rfl (by decide) (by decide) .none rfl rfl rfl rfl ?_
     refine Walk.append sl66 zz3 rfl .none rfl rfl rfl rfl (htokL rfl (by first | rfl | (simp; done) | (simp; omega))) (by simp) (by have hl := hg1.2.2; simp; omega) (by have hl := hg1.2.2; simp; omega) ?_
     refine asg ?_
     refine tv ?_
     refine ar ?_
     refine Exists.intro ((pre ++ [y], rest, if fits y k then acc ++ [(pre.length : Int)] else acc)) ⟨⟨(by have hz := hg1.1; rw [← hz]; simp), ⟨by rw [← hg1.2.1]; by_cases hf : fits y k = true <;> simp [ctorsFrom, hf], by split <;> simp <;> omega⟩⟩, (by simp), Sub.x (by kernel_rfl) (by kernel_rfl) ⟨⟨_, rfl, (LeA.eqi (by first | rfl | (simp; done) | (simp [fits, h1s, h1p, h2s, h2p, h3s, h3p, h5s, h5p]; done)))⟩, ⟨⟨_, rfl, (LeA.glg (by first | rfl | (simp; done) | (simp [fits, h1s, h1p, h2s, h2p, h3s, h3p, h5s, h5p]; done)))⟩, trivial⟩⟩ (by kernel_rfl) (by kernel_rfl) ⟨beq_nat_eq (by first | rfl | (simp; done) | (simp; omega) | (first | rfl | (simp; done) | (simp [fits, h1s, h1p, h2s, h2p, h3s, h3p, h5s, h5p]; done))), trivial⟩⟩
    ·try simp only [Q] at h5p
     refine sq (fun h7 h7p h7s => ?_) fun h7 h7p h7s => ?_
     ·try simp only [Q] at h7p
      refine Walk.sliceLit sl66 tz3 rfl (by decide) (ks := [0]) (xs := [_]) rfl rfl (by decide) (by decide) .none rfl rfl rfl rfl ?_
      refine Walk.append sl66 zz3 rfl .none rfl rfl rfl rfl (htokL rfl (by first | rfl | (simp; done) | (simp; omega))) (by simp) (by have hl := hg1.2.2; simp; omega) (by have hl := hg1.2.2; simp; omega) ?_
      refine asg ?_
      refine tv ?_
      refine ar ?_
      refine Exists.intro ((pre ++ [y], rest, if fits y k then acc ++ [(pre.length : Int)] else acc)) ⟨⟨(by have hz := hg1.1; rw [← hz]; simp), ⟨by rw [← hg1.2.1]; by_cases hf : fits y k = true <;> simp [ctorsFrom, hf], by split <;> simp <;> omega⟩⟩, (by simp), Sub.x (by kernel_rfl) (by kernel_rfl) ⟨⟨_, rfl, (LeA.eqi (by first | rfl | (simp; done) | (simp [fits, h1s, h1p, h2s, h2p, h3s, h3p, h5s, h5p, h7s, h7p]; done)))⟩, ⟨⟨_, rfl, (LeA.glg (by first | rfl | (simp; done) | (simp [fits, h1s, h1p, h2s, h2p, h3s, h3p, h5s, h5p, h7s, h7p]; done)))⟩, trivial⟩⟩ (by kernel_rfl) (by kernel_rfl) ⟨beq_nat_eq (by first | rfl | (simp; done) | (simp; omega) | (first | rfl | (simp; done) | (simp [fits, h1s, h1p, h2s, h2p, h3s, h3p, h5s, h5p, h7s, h7p]; done))), trivial⟩⟩
     ·try simp only [Q] at h7p
      refine ar ?_
      refine Exists.intro ((pre ++ [y], rest, if fits y k then acc ++ [(pre.length : Int)] else acc)) ⟨⟨(by have hz := hg1.1; rw [← hz]; simp), ⟨by rw [← hg1.2.1]; by_cases hf : fits y k = true <;> simp [ctorsFrom, hf], by split <;> simp <;> omega⟩⟩, (by simp), Sub.x (by kernel_rfl) (by kernel_rfl) ⟨⟨_, rfl, (LeA.eqi (by first | rfl | (simp; done) | (simp [fits, h1s, h1p, h2s, h2p, h3s, h3p, h5s, h5p, h7s, h7p]; done)))⟩, ⟨⟨_, rfl, (LeA.glg (by first | rfl | (simp; done) | (simp [fits, h1s, h1p, h2s, h2p, h3s, h3p, h5s, h5p, h7s, h7p]; done)))⟩, trivial⟩⟩ (by kernel_rfl) (by kernel_rfl) ⟨beq_nat_eq (by first | rfl | (simp; done) | (simp; omega) | (first | rfl | (simp; done) | (simp [fits, h1s, h1p, h2s, h2p, h3s, h3p, h5s, h5p, h7s, h7p]; done))), trivial⟩⟩
  ·try simp only [Q] at h2p
   have hrest : rest = [] := by
    rcases rest with _ | ⟨a, b⟩
    ·rfl
    ·exfalso; have hz := congrArg List.length (hg1.1); simp only [List.length_append, List.length_cons, List.length_map] at hz; omega
   subst hrest
   refine rn0 (r1 rfl) (.gld ?_)
   all_goals (have e := hg1.2.1; simp only [ctorsFrom, List.append_nil] at e; rw [e])
 ·try simp only [Q] at h1p
  exfalso; simp at h1 <;> omega --stop
theorem spec_l1Fits_fn {s : Str} {l : List Ty} {i k : Int} : FnD Try.prog 159 [.agg [.d (.str s), .d (encTys l), .d (.i i)], .d (.i k)] [] (.d (.bool (fits ⟨s, l, i⟩ k))) [] := by
 refine bd Try.f159 18 [] [] fun w0 F0 own kept hk => ?_
 refine Walk.box (id := 3002) .none rfl rfl rfl rfl rfl rfl rfl ?_
 refine ev ?_
 refine sq (fun h1 h1p h1s => ?_) fun h1 h1p h1s => ?_
 ·try simp only [Q] at h1p
  refine sqT ?_
  refine rn0 (r1 rfl) (.eqd ?_)
  all_goals (refine congrArg D.bool ?_; simp [fits, h1s, h1p])
 ·try simp only [Q] at h1p
  refine sq (fun h2 h2p h2s => ?_) fun h2 h2p h2s => ?_
  ·try simp only [Q] at h2p
   refine rn0 (r1 rfl) (.eqd ?_)
   all_goals (refine congrArg D.bool ?_; simp [fits, h1s, h1p, h2s, h2p])
  ·try simp only [Q] at h2p
   refine rn0 (r1 rfl) (.eqd ?_)
   all_goals (refine congrArg D.bool ?_; simp [fits, h1s, h1p, h2s, h2p])
theorem spec_l1Ctors_fn {w : List Data} {d : Nat} {k : Int} (hs : WSmall w) (hd : d < w.length) : FnD Try.prog 122 [.d (encDatas w), .agg [.d (.i d), .d (.i k)]] [] (.d (encInts (ctorsFrom k 0 (nth w d).ctors))) [] := by
 have hb := hs.ctors d
 refine bd Try.f122 40 [] [] fun w0 F0 own kept hk => ?_
 refine Walk.box (id := 3003) .none rfl rfl rfl rfl rfl rfl rfl ?_
 refine ev ?_
 refine Walk.sliceEmptyG 1 sl66 .none rfl rfl ?_
 refine ev ?_
 refine sq (fun h1 h1p h1s => ?_) fun h1 h1p h1s => ?_
 ·try simp only [Q] at h1p
  exfalso; simp at h1 <;> omega --stop
 ·try simp only [Q] at h1p
  refine CWp.loopX (ι := List (Ctor) × List (Ctor) × (List Int)) hk (fun x => [(6, .d (.i (x.1.length : Int))), (5, .gl 1 (x.2.2.map fun n => [D.i n]))]) [12, 13, 14, 15, 16, 17, 18, 19, 20, 21, 22, 23, 24, 25, 26, 27, 28, 29, 30, 31, 32, 33, 34, 35, 36, 37, 38] (fun x => [(1, some (.tok ((x.2.2.map fun n => [D.i n])).length 1))]) (fun x => x.1 ++ x.2.1 = (nth w d).ctors ∧ x.2.2 ++ ctorsFrom k x.1.length x.2.1 = ctorsFrom k 0 (nth w d).ctors ∧ x.2.2.length ≤ x.1.length) (fun x => x.2.1.length) ([], (nth w d).ctors, []) ⟨by simp, by simp, by simp⟩ ⟨⟨_, rfl, (LeA.eqi (by first | rfl | (simp; done) | (simp [Ctor.eta, hk]; done) | (simp only [Ctor.eta] at *; simp [*]; done)))⟩, ⟨⟨_, rfl, (LeA.glg (by first | rfl | (simp; done) | (simp [Ctor.eta, hk]; done) | (simp only [Ctor.eta] at *; simp [*]; done)))⟩, trivial⟩⟩ ⟨beq_nat_eq (by first | rfl | (simp; done) | (simp; omega) | (first | rfl | (simp; done) | (simp [Ctor.eta, hk]; done) | (simp only [Ctor.eta] at *; simp [*]; done))), trivial⟩ (fun x => rfl) (fun x hg1 => ?_)
  obtain ⟨pre, rest, acc⟩ := x
  dsimp only at hg1 ⊢
  refine evc [] [] ?_
  refine Walk.idx sl23 .none rfl rfl rfl rfl (at_nth hd) rfl ?_
  refine ev ?_
  refine sq (fun h2 h2p h2s => ?_) fun h2 h2p h2s => ?_
  ·try simp only [Q] at h2p
   rcases rest with _ | ⟨y, rest⟩
   ·exfalso; simp_all
   refine Walk.idx sl23 .none rfl rfl rfl rfl (at_nth hd) rfl ?_
   refine evd [] [] ?_
   refine Walk.idx sl77 .none rfl rfl rfl rfl (zip_at hg1.1) rfl ?_
   refine evd [] [] ?_
   refine Walk.call (cr := []) cal159 (spec_l1Fits_fn) rfl .none rfl rfl (LeL.refl _) trivial rfl rfl rfl ?_
   refine dr ?_
   refine sq (fun h3 h3p h3s => ?_) fun h3 h3p h3s => ?_
   ·try simp only [Q] at h3p
    refine Walk.sliceLit sl66 tz3 rfl (by decide) (ks := [0]) (xs := [_]) rfl rfl (by decide) (by decide) .none rfl rfl rfl rfl ?_
    refine Walk.append sl66 zz3 rfl .none rfl rfl rfl rfl (htokL rfl (by first | rfl | (simp; done) | (simp; omega))) (by simp) (by have hl := hg1.2.2; simp; omega) (by have hl := hg1.2.2; simp; omega) ?_
    refine ev ?_
    refine ar ?_
    refine Exists.intro ((pre ++ [y], rest, if fits y k then acc ++ [(pre.length : Int)] else acc)) ⟨⟨(by have hz := hg1.1; rw [← hz]; simp), ⟨by rw [← hg1.2.1]; by_cases hf : fits y k = true <;> simp [ctorsFrom, hf], by split <;> simp <;> omega⟩⟩, (by simp), Sub.x (by kernel_rfl) (by kernel_rfl) ⟨⟨_, rfl, (LeA.eqi (by first | rfl | (simp; done) | (simp [Ctor.eta, h1s, h1p, h2s, h2p, h3s, h3p]; done) | (simp only [Ctor.eta] at *; simp [*]; done)))⟩, ⟨⟨_, rfl, (LeA.glg (by first | rfl | (simp; done) | (simp [Ctor.eta, h1s, h1p, h2s, h2p, h3s, h3p]; done) | (simp only [Ctor.eta] at *; simp [*]; done)))⟩, trivial⟩⟩ (by kernel_rfl) (by kernel_rfl) ⟨beq_nat_eq (by first | rfl | (simp; done) | (simp; omega) | (first | rfl | (simp; done) | (simp [Ctor.eta, h1s, h1p, h2s, h2p, h3s, h3p]; done) | (simp only [Ctor.eta] at *; simp [*]; done))), trivial⟩⟩
   ·try simp only [Q] at h3p
    refine ar ?_
    refine Exists.intro ((pre ++ [y], rest, if fits y k then acc ++ [(pre.length : Int)] else acc)) ⟨⟨(by have hz := hg1.1; rw [← hz]; simp), ⟨by rw [← hg1.2.1]; by_cases hf : fits y k = true <;> simp [ctorsFrom, hf], by split <;> simp <;> omega⟩⟩, (by simp), Sub.x (by kernel_rfl) (by kernel_rfl) ⟨⟨_, rfl, (LeA.eqi (by first | rfl | (simp; done) | (simp [Ctor.eta, h1s, h1p, h2s, h2p, h3s, h3p]; done) | (simp only [Ctor.eta] at *; simp [*]; done)))⟩, ⟨⟨_, rfl, (LeA.glg (by first | rfl | (simp; done) | (simp [Ctor.eta, h1s, h1p, h2s, h2p, h3s, h3p]; done) | (simp only [Ctor.eta] at *; simp [*]; done)))⟩, trivial⟩⟩ (by kernel_rfl) (by kernel_rfl) ⟨beq_nat_eq (by first | rfl | (simp; done) | (simp; omega) | (first | rfl | (simp; done) | (simp [Ctor.eta, h1s, h1p, h2s, h2p, h3s, h3p]; done) | (simp only [Ctor.eta] at *; simp [*]; done))), trivial⟩⟩
  ·try simp only [Q] at h2p
   have hrest : rest = [] := by
    rcases rest with _ | ⟨a, b⟩
    ·rfl
    ·exfalso; have hz := congrArg List.length (hg1.1); simp only [List.length_append, List.length_cons, List.length_map] at hz; omega
   subst hrest
   refine rn0 (r1 rfl) (.gld ?_)
   all_goals (have e := hg1.2.1; simp only [ctorsFrom, List.append_nil] at e; rw [e])
theorem spec_l1Result_fn {s : Str} {l : List Ty} {i k : Int} : FnD Try.prog 164 [.agg [.d (.str s), .d (encTys l), .d (.i i)], .d (.i k)] [] (.d (.i (resIx ⟨s, l, i⟩ k))) [] := by
 refine bd Try.f164 11 [] [] fun w0 F0 own kept hk => ?_
 refine Walk.box (id := 3002) .none rfl rfl rfl rfl rfl rfl rfl ?_
 refine ev ?_
 refine sq (fun h1 h1p h1s => ?_) fun h1 h1p h1s => ?_
 ·try simp only [Q] at h1p
  refine rn0 (r1 rfl) (.eqd ?_)
  all_goals (refine congrArg D.i ?_; simp [resIx, h1s, h1p])
 ·try simp only [Q] at h1p
  refine rn0 (r1 rfl) (.eqd ?_)
  all_goals (refine congrArg D.i ?_; simp [resIx, h1s, h1p])
theorem impl_argTypes_fn {w : List Data} {d c : Nat} {k : Int} (hs : WSmall w) (hd : d < w.length) (hc : c < (nth w d).ctors.length) : FnD Try.prog 129 [.d (encDatas w), .agg [.d (.i d), .d (.i k)], .d (.i c)] [] (.d (encTys ((nth (nth w d).ctors c).args.map (argTy (resIx (nth (nth w d).ctors c) k))))) [] := by
 have hb := (hs.ctor _ (nth_mem hd) _ (nth_mem hc)).2
 refine bd Try.f129 45 [9] [] fun w0 F0 own kept hk => ?_
 refine Walk.box (id := 3004) .none rfl rfl rfl rfl rfl rfl rfl ?_
 refine evs [9] [] ?_
 refine Walk.idx sl23 .none rfl rfl rfl rfl (at_nth hd) rfl ?_
 refine evs [9] [] ?_
 refine Walk.idx sl77 .none rfl rfl rfl rfl (at_nth hc) rfl ?_
 refine evs [9] [] ?_
 refine Walk.alloc (id := 3007) tz82 rfl .none rfl rfl rfl rfl ?_
 refine Walk.store ty82 .none rfl rfl rfl rfl rfl rfl (by simp) rfl ?_
 refine tv ?_
 refine sq (fun h1 h1p h1s => ?_) fun h1 h1p h1s => ?_
 ·try simp only [Q] at h1p
  refine Walk.assignNil 1 2 .none rfl rfl ?_
  refine tv ?_
  refine CWp.loopX (ι := List (Ty) × List (Ty)) hk (fun x => [(30, .d (.i (x.1.length : Int))), (9, .gl 1 ((x.1.map (argTy (resIx (nth (nth w d).ctors c) k))).map Ty.c))]) [11, 31, 32, 33, 34, 35, 36, 37, 38, 39, 40, 41, 42, 43] (fun x => [(1, some (.tok (((x.1.map (argTy (resIx (nth (nth w d).ctors c) k))).map Ty.c)).length 2))]) (fun x => x.1 ++ x.2 = (nth (nth w d).ctors c).args) (fun x => x.2.length) ([], (nth (nth w d).ctors c).args) (by simp) ⟨⟨_, rfl, (LeA.eqi (by first | rfl | (simp; done) | (simp [argTy, resIx, hk]; done)))⟩, ⟨⟨_, rfl, (LeA.glg (by first | rfl | (simp; done) | (simp [argTy, resIx, hk]; done)))⟩, trivial⟩⟩ ⟨beq_nat_eq (by first | rfl | (simp; done) | (simp; omega) | (first | rfl | (simp; done) | (simp [argTy, resIx, hk]; done))), trivial⟩ (fun x => rfl) (fun x hg1 => ?_)
  obtain ⟨pre, rest⟩ := x
  dsimp only at hg1 ⊢
  refine evc [9] [] ?_
  refine sq (fun h2 h2p h2s => ?_) fun h2 h2p h2s => ?_
  ·try simp only [Q] at h2p
   rcases rest with _ | ⟨y, rest⟩
   ·exfalso; simp_all
   refine Walk.idx sl25 .none rfl rfl rfl rfl (zip_at hg1) rfl ?_
   refine evs [9] [] ?_
   refine Walk.alloc (id := 3011) tz31 rfl .none rfl rfl rfl rfl ?_
   refine Walk.store ty31 .none rfl rfl rfl rfl rfl rfl (by simp) rfl ?_
   refine tv ?_
   refine sq (fun h3 h3p h3s => ?_) fun h3 h3p h3s => ?_
   ·try simp only [Q] at h3p
    refine Walk.store ty3 .none rfl rfl rfl rfl rfl rfl (by simp) rfl ?_
    refine tv ?_
    refine Walk.sliceLit sl25 tz31 rfl (by decide) (ks := [0]) (xs := [_]) rfl rfl (by decide) (by decide) .none rfl rfl rfl rfl ?_
    refine Walk.append sl25 zz31 rfl .none rfl rfl rfl rfl (htokL rfl (by first | rfl | (simp; done) | (simp; omega))) (by simp) (by have hl := congrArg List.length hg1; simp at hl; simp; omega) (by have hl := congrArg List.length hg1; simp at hl; simp; omega) ?_
    refine asg ?_
    refine tv ?_
    refine ar ?_
    refine Exists.intro ((pre ++ [y], rest)) ⟨(by have hz := hg1; rw [← hz]; simp), (by simp), Sub.x (by kernel_rfl) (by kernel_rfl) ⟨⟨_, rfl, (LeA.eqi (by first | rfl | (simp; done) | (simp [argTy, resIx, h1s, h1p, h2s, h2p, h3s, h3p]; done)))⟩, ⟨⟨_, rfl, (LeA.glg (by first | rfl | (simp; done) | (simp [argTy, resIx, h1s, h1p, h2s, h2p, h3s, h3p]; done)))⟩, trivial⟩⟩ (by kernel_rfl) (by kernel_rfl) ⟨beq_nat_eq (by first | rfl | (simp; done) | (simp; omega) | (first | rfl | (simp; done) | (simp [argTy, resIx, h1s, h1p, h2s, h2p, h3s, h3p]; done))), trivial⟩⟩
   ·try simp only [Q] at h3p
    refine Walk.sliceLit sl25 tz31 rfl (by decide) (ks := [0]) (xs := [_]) rfl rfl (by decide) (by decide) .none rfl rfl rfl rfl ?_
    refine Walk.append sl25 zz31 rfl .none rfl rfl rfl rfl (htokL rfl (by first | rfl | (simp; done) | (simp; omega))) (by simp) (by have hl := congrArg List.length hg1; simp at hl; simp; omega) (by have hl := congrArg List.length hg1; simp at hl; simp; omega) ?_
    refine asg ?_
    refine tv ?_
    refine ar ?_
    refine Exists.intro ((pre ++ [y], rest)) ⟨(by have hz := hg1; rw [← hz]; simp), (by simp), Sub.x (by kernel_rfl) (by kernel_rfl) ⟨⟨_, rfl, (LeA.eqi (by first | rfl | (simp; done) | (simp [argTy, resIx, h1s, h1p, h2s, h2p, h3s, h3p]; done)))⟩, ⟨⟨_, rfl, (LeA.glg (by first | rfl | (simp; done) | (simp [argTy, resIx, h1s, h1p, h2s, h2p, h3s, h3p]; done)))⟩, trivial⟩⟩ (by kernel_rfl) (by kernel_rfl) ⟨beq_nat_eq (by first | rfl | (simp; done) | (simp; omega) | (first | rfl | (simp; done) | (simp [argTy, resIx, h1s, h1p, h2s, h2p, h3s, h3p]; done))), trivial⟩⟩
  ·try simp only [Q] at h2p
   have hrest : rest = [] := by
    rcases rest with _ | ⟨a, b⟩
    ·rfl
    ·exfalso; have hz := congrArg List.length (hg1); simp only [List.length_append, List.length_cons, List.length_map] at hz; omega
   subst hrest
   refine rn0 (r1 rfl) (.gld ?_)
   all_goals (simp [← hg1, resIx, h1s, h1p, h2s, h2p])
 ·try simp only [Q] at h1p
  refine Walk.assignNil 1 2 .none rfl rfl ?_
  refine tv ?_
  refine CWp.loopX (ι := List (Ty) × List (Ty)) hk (fun x => [(30, .d (.i (x.1.length : Int))), (9, .gl 1 ((x.1.map (argTy (resIx (nth (nth w d).ctors c) k))).map Ty.c))]) [11, 31, 32, 33, 34, 35, 36, 37, 38, 39, 40, 41, 42, 43] (fun x => [(1, some (.tok (((x.1.map (argTy (resIx (nth (nth w d).ctors c) k))).map Ty.c)).length 2))]) (fun x => x.1 ++ x.2 = (nth (nth w d).ctors c).args) (fun x => x.2.length) ([], (nth (nth w d).ctors c).args) (by simp) ⟨⟨_, rfl, (LeA.eqi (by first | rfl | (simp; done) | (simp [argTy, resIx, hk]; done)))⟩, ⟨⟨_, rfl, (LeA.glg (by first | rfl | (simp; done) | (simp [argTy, resIx, hk]; done)))⟩, trivial⟩⟩ ⟨beq_nat_eq (by first | rfl | (simp; done) | (simp; omega) | (first | rfl | (simp; done) | (simp [argTy, resIx, hk]; done))), trivial⟩ (fun x => rfl) (fun x hg1 => ?_)
  obtain ⟨pre, rest⟩ := x
  dsimp only at hg1 ⊢
  refine evc [9] [] ?_
  refine sq (fun h4 h4p h4s => ?_) fun h4 h4p h4s => ?_
  ·try simp only [Q] at h4p
   rcases rest with _ | ⟨y, rest⟩
   ·exfalso; simp_all
   refine Walk.idx sl25 .none rfl rfl rfl rfl (zip_at hg1) rfl ?_
   refine evs [9] [] ?_
   refine Walk.alloc (id := 3011) tz31 rfl .none rfl rfl rfl rfl ?_
   refine Walk.store ty31 .none rfl rfl rfl rfl rfl rfl (by simp) rfl ?_
   refine tv ?_
   refine sq (fun h5 h5p h5s => ?_) fun h5 h5p h5s => ?_
   ·try simp only [Q] at h5p
    refine Walk.store ty3 .none rfl rfl rfl rfl rfl rfl (by simp) rfl ?_
    refine tv ?_
    refine Walk.sliceLit sl25 tz31 rfl (by decide) (ks := [0]) (xs := [_]) rfl rfl (by decide) (by decide) .none rfl rfl rfl rfl ?_
    refine Walk.append sl25 zz31 rfl .none rfl rfl rfl rfl (htokL rfl (by first | rfl | (simp; done) | (simp; omega))) (by simp) (by have hl := congrArg List.length hg1; simp at hl; simp; omega) (by have hl := congrArg List.length hg1; simp at hl; simp; omega) ?_
    refine asg ?_
    refine tv ?_
    refine ar ?_
    refine Exists.intro ((pre ++ [y], rest)) ⟨(by have hz := hg1; rw [← hz]; simp), (by simp), Sub.x (by kernel_rfl) (by kernel_rfl) ⟨⟨_, rfl, (LeA.eqi (by first | rfl | (simp; done) | (simp [argTy, resIx, h1s, h1p, h4s, h4p, h5s, h5p]; done)))⟩, ⟨⟨_, rfl, (LeA.glg (by first | rfl | (simp; done) | (simp [argTy, resIx, h1s, h1p, h4s, h4p, h5s, h5p]; done)))⟩, trivial⟩⟩ (by kernel_rfl) (by kernel_rfl) ⟨beq_nat_eq (by first | rfl | (simp; done) | (simp; omega) | (first | rfl | (simp; done) | (simp [argTy, resIx, h1s, h1p, h4s, h4p, h5s, h5p]; done))), trivial⟩⟩
   ·try simp only [Q] at h5p
    refine Walk.sliceLit sl25 tz31 rfl (by decide) (ks := [0]) (xs := [_]) rfl rfl (by decide) (by decide) .none rfl rfl rfl rfl ?_
    refine Walk.append sl25 zz31 rfl .none rfl rfl rfl rfl (htokL rfl (by first | rfl | (simp; done) | (simp; omega))) (by simp) (by have hl := congrArg List.length hg1; simp at hl; simp; omega) (by have hl := congrArg List.length hg1; simp at hl; simp; omega) ?_
    refine asg ?_
    refine tv ?_
    refine ar ?_
    refine Exists.intro ((pre ++ [y], rest)) ⟨(by have hz := hg1; rw [← hz]; simp), (by simp), Sub.x (by kernel_rfl) (by kernel_rfl) ⟨⟨_, rfl, (LeA.eqi (by first | rfl | (simp; done) | (simp [argTy, resIx, h1s, h1p, h4s, h4p, h5s, h5p]; done)))⟩, ⟨⟨_, rfl, (LeA.glg (by first | rfl | (simp; done) | (simp [argTy, resIx, h1s, h1p, h4s, h4p, h5s, h5p]; done)))⟩, trivial⟩⟩ (by kernel_rfl) (by kernel_rfl) ⟨beq_nat_eq (by first | rfl | (simp; done) | (simp; omega) | (first | rfl | (simp; done) | (simp [argTy, resIx, h1s, h1p, h4s, h4p, h5s, h5p]; done))), trivial⟩⟩
  ·try simp only [Q] at h4p
   have hrest : rest = [] := by
    rcases rest with _ | ⟨a, b⟩
    ·rfl
    ·exfalso; have hz := congrArg List.length (hg1); simp only [List.length_append, List.length_cons, List.length_map] at hz; omega
   subst hrest
   refine rn0 (r1 rfl) (.gld ?_)
   all_goals (simp [← hg1, resIx, h1s, h1p, h4s, h4p])
theorem spec_l1Args_fn {w : List Data} {d c : Nat} {k : Int} (hs : WSmall w) (hd : d < w.length) (hc : c < (nth w d).ctors.length) : FnD Try.prog 133 [.d (encDatas w), .agg [.d (.i d), .d (.i k)], .d (.i c)] [] (.d (encTys ((nth (nth w d).ctors c).args.map (argTy (resIx (nth (nth w d).ctors c) k))))) [] := by
 have hb := (hs.ctor _ (nth_mem hd) _ (nth_mem hc)).2
 refine bd Try.f133 46 [] [] fun w0 F0 own kept hk => ?_
 refine Walk.box (id := 3004) .none rfl rfl rfl rfl rfl rfl rfl ?_
 refine ev ?_
 refine Walk.sliceEmptyG 1 sl25 .none rfl rfl ?_
 refine ev ?_
 refine Walk.idx sl23 .none rfl rfl rfl rfl (at_nth hd) rfl ?_
 refine ev ?_
 refine Walk.idx sl77 .none rfl rfl rfl rfl (at_nth hc) rfl ?_
 refine ev ?_
 refine Walk.alloc (id := 3008) tz82 rfl .none rfl rfl rfl rfl ?_
 refine Walk.store ty82 .none rfl rfl rfl rfl rfl rfl (by simp) rfl ?_
 refine tv ?_
 refine CWp.loopX (ι := List (Ty) × List (Ty)) hk (fun x => [(9, .d (.i (x.1.length : Int))), (7, .gl 1 ((x.1.map (argTy (resIx (nth (nth w d).ctors c) k))).map Ty.c))]) [10, 21, 22, 23, 24, 25, 26, 27, 28, 29, 30, 31, 32, 33, 34, 35, 36, 37, 38, 39, 40, 41, 42, 43, 44] (fun x => [(1, some (.tok (((x.1.map (argTy (resIx (nth (nth w d).ctors c) k))).map Ty.c)).length 2))]) (fun x => x.1 ++ x.2 = (nth (nth w d).ctors c).args) (fun x => x.2.length) ([], (nth (nth w d).ctors c).args) (by simp) ⟨⟨_, rfl, (LeA.eqi (by first | rfl | (simp; done) | (simp [argTy, Ctor.eta, hk]; done)))⟩, ⟨⟨_, rfl, (LeA.glg (by first | rfl | (simp; done) | (simp [argTy, Ctor.eta, hk]; done)))⟩, trivial⟩⟩ ⟨beq_nat_eq (by first | rfl | (simp; done) | (simp; omega) | (first | rfl | (simp; done) | (simp [argTy, Ctor.eta, hk]; done))), trivial⟩ (fun x => rfl) (fun x hg1 => ?_)
 obtain ⟨pre, rest⟩ := x
 dsimp only at hg1 ⊢
 refine evc [] [] ?_
 refine sq (fun h1 h1p h1s => ?_) fun h1 h1p h1s => ?_
 ·try simp only [Q] at h1p
  rcases rest with _ | ⟨y, rest⟩
  ·exfalso; simp_all
  refine Walk.idx sl25 .none rfl rfl rfl rfl (zip_at hg1) rfl ?_
  refine ev ?_
  refine Walk.alloc (id := 3010) tz31 rfl .none rfl rfl rfl rfl ?_
  refine Walk.store ty31 .none rfl rfl rfl rfl rfl rfl (by simp) rfl ?_
  refine tv ?_
  refine sq (fun h2 h2p h2s => ?_) fun h2 h2p h2s => ?_
  ·try simp only [Q] at h2p
   refine Walk.call (cr := []) cal164 (spec_l1Result_fn) rfl .none rfl rfl (LeL.refl _) trivial rfl rfl rfl ?_
   refine ev ?_
   refine Walk.store ty3 .none rfl rfl rfl rfl rfl rfl (by simp) rfl ?_
   refine tv ?_
   refine Walk.sliceLit sl25 tz31 rfl (by decide) (ks := [0]) (xs := [_]) rfl rfl (by decide) (by decide) .none rfl rfl rfl rfl ?_
   refine Walk.append sl25 zz31 rfl .none rfl rfl rfl rfl (htokL rfl (by first | rfl | (simp; done) | (simp; omega))) (by simp) (by have hl := congrArg List.length hg1; simp at hl; simp; omega) (by have hl := congrArg List.length hg1; simp at hl; simp; omega) ?_
   refine ev ?_
   refine ar ?_
   refine Exists.intro ((pre ++ [y], rest)) ⟨(by have hz := hg1; rw [← hz]; simp), (by simp), Sub.x (by kernel_rfl) (by kernel_rfl) ⟨⟨_, rfl, (LeA.eqi (by first | rfl | (simp; done) | (simp [argTy, Ctor.eta, h1s, h1p, h2s, h2p]; done)))⟩, ⟨⟨_, rfl, (LeA.glg (by first | rfl | (simp; done) | (simp [argTy, Ctor.eta, h1s, h1p, h2s, h2p]; done)))⟩, trivial⟩⟩ (by kernel_rfl) (by kernel_rfl) ⟨beq_nat_eq (by first | rfl | (simp; done) | (simp; omega) | (first | rfl | (simp; done) | (simp [argTy, Ctor.eta, h1s, h1p, h2s, h2p]; done))), trivial⟩⟩
  ·try simp only [Q] at h2p
   refine Walk.sliceLit sl25 tz31 rfl (by decide) (ks := [0]) (xs := [_]) rfl rfl (by decide) (by decide) .none rfl rfl rfl rfl ?_
   refine Walk.append sl25 zz31 rfl .none rfl rfl rfl rfl (htokL rfl (by first | rfl | (simp; done) | (simp; omega))) (by simp) (by have hl := congrArg List.length hg1; simp at hl; simp; omega) (by have hl := congrArg List.length hg1; simp at hl; simp; omega) ?_
   refine ev ?_
   refine ar ?_
   refine Exists.intro ((pre ++ [y], rest)) ⟨(by have hz := hg1; rw [← hz]; simp), (by simp), Sub.x (by kernel_rfl) (by kernel_rfl) ⟨⟨_, rfl, (LeA.eqi (by first | rfl | (simp; done) | (simp [argTy, Ctor.eta, h1s, h1p, h2s, h2p]; done)))⟩, ⟨⟨_, rfl, (LeA.glg (by first | rfl | (simp; done) | (simp [argTy, Ctor.eta, h1s, h1p, h2s, h2p]; done)))⟩, trivial⟩⟩ (by kernel_rfl) (by kernel_rfl) ⟨beq_nat_eq (by first | rfl | (simp; done) | (simp; omega) | (first | rfl | (simp; done) | (simp [argTy, Ctor.eta, h1s, h1p, h2s, h2p]; done))), trivial⟩⟩
 ·try simp only [Q] at h1p
  have hrest : rest = [] := by
   rcases rest with _ | ⟨a, b⟩
   ·rfl
   ·exfalso; have hz := congrArg List.length (hg1); simp only [List.length_append, List.length_cons, List.length_map] at hz; omega
  subst hrest
  refine rn0 (r1 rfl) (.gld ?_)
  all_goals (simp [← hg1, resIx, h1s, h1p])
mutual
def valEq : Val → Val → Bool
 | .mk a n ks, .mk b m ls => decide (a = b) && (decide (n = m) && valsEq ks ls)
def valsEq : List Val → List Val → Bool
 | [], [] => true
 | x :: r, y :: s => valEq x y && valsEq r s
 | _, _ => false
end
mutual
def Val.ok : Val → Prop
 | .mk _ _ ks => ks.length ≤ 1000000000000 ∧ Vals.ok ks
def Vals.ok : List Val → Prop
 | [] => True
 | v :: r => v.ok ∧ Vals.ok r
end
theorem Vals.ok_mem : ∀ {l : List Val}, Vals.ok l → ∀ v, v ∈ l → v.ok
 | x :: r, h, v, hv => by
  simp only [Vals.ok] at h
  rcases List.mem_cons.1 hv with rfl | hv
  ·exact h.1
  ·exact Vals.ok_mem h.2 v hv
mutual
def Val.size : Val → Nat
 | .mk _ _ ks => 1 + Vals.size ks
def Vals.size : List Val → Nat
 | [] => 0
 | v :: r => v.size + Vals.size r
end
theorem Vals.size_mem : ∀ {l : List Val} {v : Val}, v ∈ l → v.size ≤ Vals.size l
 | x :: r, v, hv => by
  simp only [Vals.size]
  rcases List.mem_cons.1 hv with rfl | hv
  ·omega
  ·have := Vals.size_mem hv; omega
theorem valsEq_len : ∀ {a b : List Val}, a.length ≠ b.length → valsEq a b = false
 | [], [], h => by simp at h
 | [], _ :: _, _ => by simp [valsEq]
 | _ :: _, [], _ => by simp [valsEq]
 | x :: r, y :: s, h => by simp [valsEq, valsEq_len (a := r) (b := s) (by simpa using h)]
theorem valsEq_split : ∀ {p q : List Val} {a b : List Val}, p.length = q.length → valsEq (p ++ a) (q ++ b) = (valsEq p q && valsEq a b)
 | [], [], a, b, _ => by simp [valsEq]
 | x :: r, y :: s, a, b, h => by simp [valsEq, valsEq_split (p := r) (q := s) (by simpa using h), Bool.and_assoc]
 | [], _ :: _, _, _, h => by simp at h
 | _ :: _, [], _, _, h => by simp at h
theorem vals_at {l : List Val} {i : Nat} (h : i < l.length) : (Val.cs l)[i]? = some (nth l i).cc := by
 rw [Val.cs_eq, ← Val.c_eq]; exact at_nth h
theorem Val.ok_iff (v : Val) : v.ok ↔ v.kids.length ≤ 1000000000000 ∧ Vals.ok v.kids := by cases v; rfl
theorem Val.size_eq (v : Val) : v.size = 1 + Vals.size v.kids := by cases v; rfl
theorem valEq_eq (v w : Val) : valEq v w = (decide (v.ctor = w.ctor) && (decide (v.num = w.num) && valsEq v.kids w.kids)) := by cases v; cases w; rfl
theorem valsEq_nth_false {a b : List Val} {i : Nat} (h : i < a.length) (h2 : valEq (nth a i) (nth b i) = false) : valsEq a b = false := by
 induction i generalizing a b with
 | zero =>
  cases a with
  | nil => simp at h
  | cons x r =>
   cases b with
   | nil => simp [valsEq]
   | cons y s => simp [nth] at h2; simp [valsEq, h2]
 | succ i ih =>
  cases a with
  | nil => simp at h
  | cons x r =>
   cases b with
   | nil => simp [valsEq]
   | cons y s => simp only [valsEq]; rw [ih (a := r) (b := s) (by simpa using h) (by simpa [nth] using h2)]; simp
theorem valsEq_nth_true {a b : List Val} (hl : a.length = b.length) (h : ∀ i, i < a.length → valEq (nth a i) (nth b i) = true) : valsEq a b = true := by
 induction a generalizing b with
 | nil => cases b with
  | nil => simp [valsEq]
  | cons y s => simp at hl
 | cons x r ih => cases b with
  | nil => simp at hl
  | cons y s =>
   have h0 := h 0 (by simp)
   simp only [valsEq]
   rw [ih (by simpa using hl) (fun i hi => by simpa [nth] using h (i + 1) (by simpa using hi))]
   simpa [nth] using h0
theorem slices_EqualFunc_Val_fn {xs ys : List Val} {f : Nat} (hs : xs.length ≤ 1000000000000) (hcal : Callee Try.prog f)
  (hf : ∀ x ∈ xs, ∀ y : Val, FnD Try.prog f [.agg [.d (.i x.ctor), .d (.i x.num), .d (encVals x.kids)], .agg [.d (.i y.ctor), .d (.i y.num), .d (encVals y.kids)]] [] (.d (.bool (valEq x y))) []) :
  FnD Try.prog 59 [.d (encVals xs), .d (encVals ys), .fn f []] [] (.d (.bool (valsEq xs ys))) [] := by
 refine bd Try.f59 32 [] [] fun w0 F0 own kept hk => ?_
 refine sq (fun h1 h1p h1s => ?_) fun h1 h1p h1s => ?_
 ·try simp only [Q, Int.natCast_inj, Val.cs_len] at h1p
  refine rn0 (r1 rfl) (.eqd ?_)
  all_goals (refine congrArg D.bool ?_; first | (refine (valsEq_len ?_).symm; omega) | (refine (valsEq_nth_true (by omega) (fun x hx => hg1.2 x (by omega))).symm) | (refine (valsEq_nth_false (i := i) (by omega) ?_).symm; assumption))
 ·try simp only [Q, Int.natCast_inj, Val.cs_len] at h1p
  refine CWp.loopX (ι := Nat) hk (fun i => [(17, .d (.i (i : Int)))]) [6, 7, 8, 9, 18, 19, 20, 21, 22, 23, 24, 25, 26, 27, 28, 29, 30, 31] (fun i => []) (fun i => i ≤ xs.length ∧ ∀ i', i' < i → valEq (nth xs i') (nth ys i') = true) (fun i => xs.length - i) 0 ⟨by omega, fun _ h => absurd h (by omega)⟩ ⟨⟨_, rfl, (LeA.eqi (by first | rfl | (simp; done) | (simp_all; done) | omega))⟩, trivial⟩ trivial (fun x => rfl) (fun i hg1 => ?_)
  refine evc [] [] ?_
  refine sq (fun h2 h2p h2s => ?_) fun h2 h2p h2s => ?_
  ·try simp only [Q, Int.natCast_inj, Val.cs_len] at h2p
   refine Walk.idx sl37 .none rfl rfl rfl rfl (vals_at (by omega)) rfl ?_
   refine ev ?_
   refine Walk.alloc (id := 3008) tz39 rfl .none rfl rfl rfl rfl ?_
   refine ev ?_
   refine Walk.store ty39 .none rfl rfl rfl rfl rfl rfl (by simp) rfl ?_
   refine tv ?_
   refine Walk.idx sl37 .none rfl rfl rfl rfl (vals_at (by omega)) rfl ?_
   refine ev ?_
   refine Walk.alloc (id := 3009) tz39 rfl .none rfl rfl rfl rfl ?_
   refine Walk.store ty39 .none rfl rfl rfl rfl rfl rfl (by simp) rfl ?_
   refine tv ?_
   refine Walk.callV (cr := []) hcal (hf _ (nth_mem (by omega)) _) rfl .none rfl rfl rfl (LeL.refl _) trivial rfl rfl rfl ?_
   refine ev ?_
   refine sq (fun h3 h3p h3s => ?_) fun h3 h3p h3s => ?_
   ·try simp only [Q, Int.natCast_inj, Val.cs_len] at h3p
    refine rn0 (r1 rfl) (.eqd ?_)
    all_goals (refine congrArg D.bool ?_; first | (refine (valsEq_len ?_).symm; omega) | (refine (valsEq_nth_true (by omega) (fun x hx => hg1.2 x (by omega))).symm) | (refine (valsEq_nth_false (i := i) (by omega) ?_).symm; assumption))
   ·try simp only [Q, Int.natCast_inj, Val.cs_len] at h3p
    refine ar ?_
    refine Exists.intro (i + 1) ⟨⟨by omega, upto_succ hg1.2 (by assumption)⟩, (by omega), Sub.x (by kernel_rfl) (by kernel_rfl) ⟨⟨_, rfl, (LeA.eqi (by first | rfl | (simp; done) | (simp_all; done) | omega))⟩, trivial⟩ (by kernel_rfl) (by kernel_rfl) trivial⟩
  ·try simp only [Q, Int.natCast_inj, Val.cs_len] at h2p
   refine rn0 (r1 rfl) (.eqd ?_)
   all_goals (refine congrArg D.bool ?_; first | (refine (valsEq_len ?_).symm; omega) | (refine (valsEq_nth_true (by omega) (fun x hx => hg1.2 x (by omega))).symm) | (refine (valsEq_nth_false (i := i) (by omega) ?_).symm; assumption))
theorem spec_l1Is_fn {w : List Data} {a b : Int} : FnD Try.prog 107 [.d (encDatas w), .agg [.d (.i a), .d (.i b)]] [] (.d (.bool (argOk w.length ⟨a, b⟩ && decide (0 ≤ b)))) [] := by
 refine bd Try.f107 14 [] [] fun w0 F0 own kept hk => ?_
 refine Walk.box (id := 3003) .none rfl rfl rfl rfl rfl rfl rfl ?_
 refine ev ?_
 refine Walk.call (cr := []) cal145 (spec_l1Arg_fn) rfl .none rfl rfl (LeL.refl _) trivial rfl rfl rfl ?_
 refine ev ?_
 refine sq (fun h1 h1p h1s => ?_) fun h1 h1p h1s => ?_
 ·try simp only [Q] at h1p
  refine rn0 (r1 rfl) (.eqd ?_)
  all_goals (first | rfl | (simp [h1s, h1p]; done) | (simp_all; done) | (simp_all; omega) | omega)
 ·try simp only [Q] at h1p
  refine rn0 (r1 rfl) (.eqd ?_)
  all_goals (first | rfl | (simp [h1s, h1p]; done) | (simp_all; done) | (simp_all; omega) | omega)
theorem spec_TypeValid_fn {w : List Data} {a b : Int} (hs : WSmall w) : FnD Try.prog 61 [.d (encDatas w), .agg [.d (.i a), .d (.i b)]] [] (.d (.bool (specWorldValid w && (argOk w.length ⟨a, b⟩ && decide (0 ≤ b))))) [] := by
 refine bd Try.f61 12 [] [] fun w0 F0 own kept hk => ?_
 refine Walk.box (id := 3003) .none rfl rfl rfl rfl rfl rfl rfl ?_
 refine ev ?_
 refine Walk.call (cr := []) cal52 (spec_WorldValid_fn hs) rfl .none rfl rfl (LeL.refl _) trivial rfl rfl rfl ?_
 refine ev ?_
 refine sq (fun h1 h1p h1s => ?_) fun h1 h1p h1s => ?_
 ·try simp only [Q] at h1p
  refine Walk.call (cr := []) cal107 (spec_l1Is_fn) rfl (.some rfl rfl h1) rfl rfl (LeL.refl _) trivial rfl rfl rfl ?_
  refine evs [] [(7, true)] ?_ ⟨⟨_, rfl, h1⟩, trivial⟩
  refine rn0 (r1 rfl) (.eqd ?_)
  all_goals (first | rfl | (simp [h1s, h1p]; done) | (simp_all; done) | (simp_all; omega) | omega)
 ·try simp only [Q] at h1p
  refine rn0 (r1 rfl) (.eqd ?_)
  all_goals (first | rfl | (simp [h1s, h1p]; done) | (simp_all; done) | (simp_all; omega) | omega)
theorem impl_ValueSame_fn : ∀ (n : Nat) {a b : Val}, a.size ≤ n → a.ok → FnD Try.prog 60 [.agg [.d (.i a.ctor), .d (.i a.num), .d (encVals a.kids)], .agg [.d (.i b.ctor), .d (.i b.num), .d (encVals b.kids)]] [] (.d (.bool (valEq a b))) []
 | 0, a, b, h, _ => by rw [Val.size_eq] at h; omega
 | n + 1, a, b, h, hok => by
  rw [Val.size_eq] at h
  rw [Val.ok_iff] at hok
  rw [valEq_eq]
  refine bd Try.f60 24 [] [] fun w0 F0 own kept hk => ?_
  refine Walk.box (id := 3002) .none rfl rfl rfl rfl rfl rfl rfl ?_
  refine Walk.box (id := 3003) .none rfl rfl rfl rfl rfl rfl rfl ?_
  refine ev ?_
  refine sq (fun h1 h1p h1s => ?_) fun h1 h1p h1s => ?_
  ·try simp only [Q] at h1p
   refine sq (fun h2 h2p h2s => ?_) fun h2 h2p h2s => ?_
   ·try simp only [Q] at h2p
    refine Walk.call (cr := []) cal59 (slices_EqualFunc_Val_fn hok.1 cal60 (fun x hx y => impl_ValueSame_fn n (by have := Vals.size_mem hx; omega) (Vals.ok_mem hok.2 x hx))) rfl (.some rfl rfl h2) rfl rfl (LeL.refl _) trivial rfl rfl rfl ?_
    refine evs [] [(17, true)] ?_ ⟨⟨_, rfl, h2⟩, trivial⟩
    refine rn0 (r1 rfl) (.eqd ?_)
    all_goals (first | rfl | (simp [h1s, h1p, h2s, h2p]; done) | (simp_all; done) | (simp_all; omega) | omega)
   ·try simp only [Q] at h2p
    refine rn0 (r1 rfl) (.eqd ?_)
    all_goals (first | rfl | (simp [h1s, h1p, h2s, h2p]; done) | (simp_all; done) | (simp_all; omega) | omega)
  ·try simp only [Q] at h1p
   refine sqF ?_
   refine rn0 (r1 rfl) (.eqd ?_)
   all_goals (first | rfl | (simp [h1s, h1p]; done) | (simp_all; done) | (simp_all; omega) | omega)
theorem spec_ValueSame_fn : ∀ (n : Nat) {a b : Val}, a.size ≤ n → a.ok → FnD Try.prog 63 [.agg [.d (.i a.ctor), .d (.i a.num), .d (encVals a.kids)], .agg [.d (.i b.ctor), .d (.i b.num), .d (encVals b.kids)]] [] (.d (.bool (valEq a b))) []
 | 0, a, b, h, _ => by rw [Val.size_eq] at h; omega
 | n + 1, a, b, h, hok => by
  rw [Val.size_eq] at h
  rw [Val.ok_iff] at hok
  rw [valEq_eq]
  have hok1 := hok.1
  refine bd Try.f63 46 [] [] fun w0 F0 own kept hk => ?_
  refine Walk.box (id := 3002) .none rfl rfl rfl rfl rfl rfl rfl ?_
  refine Walk.box (id := 3003) .none rfl rfl rfl rfl rfl rfl rfl ?_
  refine ev ?_
  refine sq (fun h1 h1p h1s => ?_) fun h1 h1p h1s => ?_
  ·try simp only [Q, Int.natCast_inj, Val.cs_len] at h1p
   refine sqT ?_
   refine sqT ?_
   refine rn0 (r1 rfl) (.eqd ?_)
   all_goals (refine congrArg D.bool ?_; first | (simp [h1s, h1p]; done) | (rw [valsEq_len (by omega)]; simp; done) | (rw [valsEq_nth_true (a := a.kids) (b := b.kids) (by omega) (fun x hx => hg1.2 x (by omega))]; simp [h1s, h1p]; done) | (rw [valsEq_nth_false (i := i) (by omega) (by assumption)]; simp; done))
  ·try simp only [Q, Int.natCast_inj, Val.cs_len] at h1p
   refine sq (fun h3 h3p h3s => ?_) fun h3 h3p h3s => ?_
   ·try simp only [Q, Int.natCast_inj, Val.cs_len] at h3p
    refine sqT ?_
    refine rn0 (r1 rfl) (.eqd ?_)
    all_goals (refine congrArg D.bool ?_; first | (simp [h1s, h1p, h3s, h3p]; done) | (rw [valsEq_len (by omega)]; simp; done) | (rw [valsEq_nth_true (a := a.kids) (b := b.kids) (by omega) (fun x hx => hg1.2 x (by omega))]; simp [h1s, h1p, h3s, h3p]; done) | (rw [valsEq_nth_false (i := i) (by omega) (by assumption)]; simp; done))
   ·try simp only [Q, Int.natCast_inj, Val.cs_len] at h3p
    refine sq (fun h5 h5p h5s => ?_) fun h5 h5p h5s => ?_
    ·try simp only [Q, Int.natCast_inj, Val.cs_len] at h5p
     refine rn0 (r1 rfl) (.eqd ?_)
     all_goals (refine congrArg D.bool ?_; first | (simp [h1s, h1p, h3s, h3p, h5s, h5p]; done) | (rw [valsEq_len (by omega)]; simp; done) | (rw [valsEq_nth_true (a := a.kids) (b := b.kids) (by omega) (fun x hx => hg1.2 x (by omega))]; simp [h1s, h1p, h3s, h3p, h5s, h5p]; done) | (rw [valsEq_nth_false (i := i) (by omega) (by assumption)]; simp; done))
    ·try simp only [Q, Int.natCast_inj, Val.cs_len] at h5p
     refine CWp.loopX (ι := Nat) hk (fun i => [(5, .d (.i (i : Int)))]) [4, 27, 28, 29, 30, 31, 32, 33, 34, 35, 36, 37, 38, 39, 40, 41, 42, 43, 44, 45] (fun i => []) (fun i => i ≤ a.kids.length ∧ ∀ i', i' < i → valEq (nth a.kids i') (nth b.kids i') = true) (fun i => a.kids.length - i) 0 ⟨by omega, fun _ h => absurd h (by omega)⟩ ⟨⟨_, rfl, (LeA.eqi (by first | rfl | (simp; done) | (simp_all; done) | omega))⟩, trivial⟩ trivial (fun x => rfl) (fun i hg1 => ?_)
     refine evc [] [] ?_
     refine sq (fun h6 h6p h6s => ?_) fun h6 h6p h6s => ?_
     ·try simp only [Q, Int.natCast_inj, Val.cs_len] at h6p
      refine Walk.idx sl37 .none rfl rfl rfl rfl (vals_at (by omega)) rfl ?_
      refine evd [] [] ?_
      refine Walk.idx sl37 .none rfl rfl rfl rfl (vals_at (by omega)) rfl ?_
      refine evd [] [] ?_
      refine Walk.call (cr := []) cal63 (spec_ValueSame_fn n (by have := Vals.size_mem (nth_mem (l := a.kids) (i := i) (by omega)); omega) (Vals.ok_mem hok.2 _ (nth_mem (by omega)))) rfl .none rfl rfl (LeL.refl _) trivial rfl rfl rfl ?_
      refine evd [] [] ?_
      refine dr ?_
      refine sq (fun h7 h7p h7s => ?_) fun h7 h7p h7s => ?_
      ·try simp only [Q, Int.natCast_inj, Val.cs_len] at h7p
       refine rn0 (r1 rfl) (.eqd ?_)
       all_goals (refine congrArg D.bool ?_; first | (simp [h1s, h1p, h3s, h3p, h5s, h5p, h6s, h6p, h7s, h7p]; done) | (rw [valsEq_len (by omega)]; simp; done) | (rw [valsEq_nth_true (a := a.kids) (b := b.kids) (by omega) (fun x hx => hg1.2 x (by omega))]; simp [h1s, h1p, h3s, h3p, h5s, h5p, h6s, h6p, h7s, h7p]; done) | (rw [valsEq_nth_false (i := i) (by omega) (by assumption)]; simp; done))
      ·try simp only [Q, Int.natCast_inj, Val.cs_len] at h7p
       refine ar ?_
       refine Exists.intro (i + 1) ⟨⟨by omega, upto_succ hg1.2 (by assumption)⟩, (by omega), Sub.x (by kernel_rfl) (by kernel_rfl) ⟨⟨_, rfl, (LeA.eqi (by first | rfl | (simp; done) | (simp_all; done) | omega))⟩, trivial⟩ (by kernel_rfl) (by kernel_rfl) trivial⟩
     ·try simp only [Q, Int.natCast_inj, Val.cs_len] at h6p
      refine rn0 (r1 rfl) (.eqd ?_)
      all_goals (refine congrArg D.bool ?_; first | (simp [h1s, h1p, h3s, h3p, h5s, h5p, h6s, h6p]; done) | (rw [valsEq_len (by omega)]; simp; done) | (rw [valsEq_nth_true (a := a.kids) (b := b.kids) (by omega) (fun x hx => hg1.2 x (by omega))]; simp [h1s, h1p, h3s, h3p, h5s, h5p, h6s, h6p]; done) | (rw [valsEq_nth_false (i := i) (by omega) (by assumption)]; simp; done))
theorem impl_number_fn {n : Int} : FnD Try.prog 146 [.d (.i n)] [] (.agg [.d (.i (-1)), .d (.i n), .d (encVals [])]) [] := by
 refine bd Try.f146 5 [] [] fun w0 F0 own kept hk => ?_
 refine Walk.alloc (id := 3002) tz39 rfl .none rfl rfl rfl rfl ?_
 refine tv ?_
 refine Walk.build st39 (ks := [0, 1]) (xs := [_, _]) rfl rfl .none rfl rfl rfl ?_
 refine Walk.store ty39 .none rfl rfl rfl rfl rfl rfl (by simp) rfl ?_
 refine tv ?_
 refine rn0 (.cons (.cellA ty39 rfl rfl rfl) .nil) (.agg (.cons (.eqd ?_) (.cons (.eqd ?_) (.cons (.nild ?_) .nil))))
 all_goals (first | rfl | (simp []; done) | (simp_all; done) | (simp_all; omega) | omega)
def TyIn (n : Nat) (t : Ty) : Prop := t.data = -1 ∨ ∃ d : Nat, t.data = d ∧ d < n
structure WT (w : List Data) : Prop where
 small : WSmall w
 arg : ∀ d ∈ w, ∀ c ∈ d.ctors, ∀ t ∈ c.args, TyIn w.length t
def argsOf (w : List Data) (t : Ty) (c : Int) : List Ty :=
 let x := nth (nth w t.data.toNat).ctors c.toNat
 x.args.map (argTy (resIx x t.index))
def ctorsOf (w : List Data) (t : Ty) : List Int := ctorsFrom t.index 0 (nth w t.data.toNat).ctors
def cap (x : Int) : Int := if 401 < x then 401 else x
theorem cap_bd {x : Int} (h : 0 ≤ x) : 0 ≤ cap x ∧ cap x ≤ 401 := by unfold cap; split <;> omega
def countArgs (f : Ty → Int) (l : List Ty) : Int := l.foldl (fun n a => cap (n * f a)) 1
def countSum (g : Int → Int) (l : List Int) : Int := l.foldl (fun s c => cap (s + g c)) 0
def countV (w : List Data) : Nat → Ty → Int
 | 0, _ => 0
 | n + 1, t => if t.data = -1 then 10 else countSum (fun c => countArgs (countV w n) (argsOf w t c)) (ctorsOf w t)
theorem countSum_bd {g : Int → Int} (hg : ∀ c, 0 ≤ g c ∧ g c ≤ 401) (l : List Int) : 0 ≤ countSum g l ∧ countSum g l ≤ 401 := by
 have key : ∀ (l : List Int) (s : Int), 0 ≤ s → s ≤ 401 → 0 ≤ l.foldl (fun s c => cap (s + g c)) s ∧ l.foldl (fun s c => cap (s + g c)) s ≤ 401 := by
  intro l
  induction l with
  | nil => intro s h0 h1; exact ⟨h0, h1⟩
  | cons c r ih =>
   intro s h0 h1
   have h2 : 0 ≤ s + g c := by have := hg c; omega
   exact ih _ (cap_bd h2).1 (cap_bd h2).2
 exact key l 0 (by omega) (by omega)
theorem countArgs_bd {f : Ty → Int} (hf : ∀ t, 0 ≤ f t ∧ f t ≤ 401) : ∀ (l : List Ty) (n : Int), 0 ≤ n → n ≤ 401 → 0 ≤ l.foldl (fun n a => cap (n * f a)) n ∧ l.foldl (fun n a => cap (n * f a)) n ≤ 401
 | [], n, h0, h1 => ⟨h0, h1⟩
 | a :: r, n, h0, h1 => by
  have := Int.mul_nonneg h0 (hf a).1
  exact countArgs_bd hf r _ (cap_bd this).1 (cap_bd this).2
theorem countV_bd (w : List Data) : ∀ (n : Nat) (t : Ty), 0 ≤ countV w n t ∧ countV w n t ≤ 401
 | 0, t => by simp [countV]
 | n + 1, t => by
  unfold countV
  split
  ·omega
  ·exact countSum_bd (fun c => countArgs_bd (countV_bd w n) (argsOf w t c) 1 (by omega) (by omega)) _
theorem ctorsFrom_mem (k : Int) : ∀ (l : List Ctor) (i : Nat) (c : Int), c ∈ ctorsFrom k i l → ∃ j : Nat, c = (j : Int) ∧ i ≤ j ∧ j < i + l.length
 | [], i, c, h => by simp [ctorsFrom] at h
 | x :: r, i, c, h => by
  unfold ctorsFrom at h
  have go : c ∈ ctorsFrom k (i + 1) r → ∃ j : Nat, c = (j : Int) ∧ i ≤ j ∧ j < i + (x :: r).length := fun h => by
   obtain ⟨j, h1, h2, h3⟩ := ctorsFrom_mem k r (i + 1) c h
   exact ⟨j, h1, by omega, by simp; omega⟩
  split at h
  ·rcases List.mem_cons.1 h with h | h
   ·exact ⟨i, h, by omega, by simp⟩
   ·exact go h
  ·exact go h
theorem argTy_in {n : Nat} {k : Int} {t : Ty} (h : TyIn n t) : TyIn n (argTy k t) := by
 unfold argTy; split
 ·exact h
 ·exact h
def PlaceIn (w : List Data) (d : Nat) (c : Int) : Prop := ∃ j : Nat, c = j ∧ j < (nth w d).ctors.length
theorem place_of {w : List Data} {d : Nat} {k c : Int} (h : c ∈ ctorsOf w ⟨d, k⟩) : PlaceIn w d c := by
 obtain ⟨j, h1, _, h3⟩ := ctorsFrom_mem _ _ _ _ h
 exact ⟨j, h1, by simpa using h3⟩
theorem argsOf_in {w : List Data} (hw : WT w) {d : Nat} (hd : d < w.length) {k c : Int} (hc : PlaceIn w d c) {t : Ty} (ht : t ∈ argsOf w ⟨d, k⟩ c) : TyIn w.length t := by
 obtain ⟨j, rfl, hj⟩ := hc
 simp only [argsOf, Int.toNat_natCast, List.mem_map] at ht
 obtain ⟨x, hx, rfl⟩ := ht
 exact argTy_in (hw.arg _ (nth_mem hd) _ (nth_mem hj) x hx)
theorem argsOf_len {w : List Data} (hw : WT w) {d : Nat} (hd : d < w.length) {k c : Int} (hc : PlaceIn w d c) : (argsOf w ⟨d, k⟩ c).length ≤ 1000000000000 := by
 obtain ⟨j, rfl, hj⟩ := hc
 simp only [argsOf, Int.toNat_natCast, List.length_map]
 exact (hw.small.ctor _ (nth_mem hd) _ (nth_mem hj)).2
theorem ctorsOf_len {w : List Data} (hw : WT w) {d : Nat} {k : Int} : (ctorsOf w ⟨d, k⟩).length ≤ 1000000000000 := by
 have := ctorsFrom_len k (nth w d).ctors 0
 have := hw.small.ctors d
 simp only [ctorsOf, Int.toNat_natCast]; omega
theorem impl_argTypes_in {w : List Data} (hw : WT w) {d : Nat} (hd : d < w.length) {k c : Int} (hc : PlaceIn w d c) : FnD Try.prog 129 [.d (encDatas w), .agg [.d (.i d), .d (.i k)], .d (.i c)] [] (.d (encTys (argsOf w ⟨d, k⟩ c))) [] := by
 obtain ⟨j, rfl, hj⟩ := hc
 exact impl_argTypes_fn hw.small hd hj
theorem impl_ctorsOf_in {w : List Data} (hw : WT w) {d : Nat} (hd : d < w.length) {k : Int} : FnD Try.prog 128 [.d (encDatas w), .agg [.d (.i d), .d (.i k)]] [] (.d (encInts (ctorsOf w ⟨d, k⟩))) [] := impl_ctorsOf_fn hw.small hd
theorem spec_l1Args_in {w : List Data} (hw : WT w) {d : Nat} (hd : d < w.length) {k c : Int} (hc : PlaceIn w d c) : FnD Try.prog 133 [.d (encDatas w), .agg [.d (.i d), .d (.i k)], .d (.i c)] [] (.d (encTys (argsOf w ⟨d, k⟩ c))) [] := by
 obtain ⟨j, rfl, hj⟩ := hc
 exact spec_l1Args_fn hw.small hd hj
theorem spec_l1Ctors_in {w : List Data} (hw : WT w) {d : Nat} (hd : d < w.length) {k : Int} : FnD Try.prog 122 [.d (encDatas w), .agg [.d (.i d), .d (.i k)]] [] (.d (encInts (ctorsOf w ⟨d, k⟩))) [] := spec_l1Ctors_fn hw.small hd
theorem impl_countValues_fn {w : List Data} (hw : WT w) : ∀ (n : Nat) {a k m : Int}, m = n → n ≤ 1000 → TyIn w.length ⟨a, k⟩ → FnD Try.prog 104 [.d (encDatas w), .agg [.d (.i a), .d (.i k)], .d (.i m)] [] (.d (.i (countV w n ⟨a, k⟩))) []
 | 0, a, k, m, hm, _, _ => by
  refine bd Try.f104 50 [] [] fun w0 F0 own kept hk => ?_
  refine Walk.box (id := 3004) .none rfl rfl rfl rfl rfl rfl rfl ?_
  refine ev ?_
  refine sq (fun h1 h1p h1s => ?_) fun h1 h1p h1s => ?_
  ·try simp only [Q] at h1p
   refine rn0 (r1 rfl) (.eqd ?_)
   all_goals (rfl)
  ·try simp only [Q] at h1p
   exfalso; simp at h1; omega --stop
 | n + 1, a, k, m, hm, hn, ht => by
  rcases ht with ha | ⟨d, hd, hlt⟩
  ·have ha' : a = -1 := ha
   subst ha'
   refine bd Try.f104 50 [] [] fun w0 F0 own kept hk => ?_
   refine Walk.box (id := 3004) .none rfl rfl rfl rfl rfl rfl rfl ?_
   refine ev ?_
   refine sq (fun h1 h1p h1s => ?_) fun h1 h1p h1s => ?_
   ·try simp only [Q] at h1p
    exfalso; simp at h1; omega --stop
   ·try simp only [Q] at h1p
    refine sq (fun h2 h2p h2s => ?_) fun h2 h2p h2s => ?_
    ·try simp only [Q] at h2p
     refine rn0 (r1 rfl) (.eqd ?_)
     all_goals (simp [countV])
    ·try simp only [Q] at h2p
     exact absurd h2 (by simp) --stop
  have hd' : a = (d : Int) := hd
  subst hd'
  refine bd Try.f104 50 [] [] fun w0 F0 own kept hk => ?_
  refine Walk.box (id := 3004) .none rfl rfl rfl rfl rfl rfl rfl ?_
  refine ev ?_
  refine sq (fun h1 h1p h1s => ?_) fun h1 h1p h1s => ?_
  ·try simp only [Q] at h1p
   exfalso; simp at h1; omega --stop
  ·try simp only [Q] at h1p
   refine sq (fun h2 h2p h2s => ?_) fun h2 h2p h2s => ?_
   ·try simp only [Q] at h2p
    exfalso; simp at h2 <;> omega --stop
   ·try simp only [Q] at h2p
    refine Walk.call (cr := []) cal128 (impl_ctorsOf_in hw hlt) rfl .none rfl rfl (LeL.refl _) trivial rfl rfl rfl ?_
    refine ev ?_
    refine CWp.loopX (ι := List (Int) × List (Int)) hk (fun x => [(22, .d (.i (x.1.length : Int))), (7, .d (.i (countSum (fun c => countArgs (countV w n) (argsOf w ⟨d, k⟩ c)) x.1)))]) [9, 10, 12, 23, 24, 25, 26, 27, 28, 29, 30, 31, 32, 33, 34, 35, 36, 37, 38, 39, 40, 41, 42, 43, 44, 45, 46, 47, 48] (fun x => []) (fun x => x.1 ++ x.2 = ctorsOf w ⟨d, k⟩) (fun x => x.2.length) ([], ctorsOf w ⟨d, k⟩) (by simp) ⟨⟨_, rfl, (LeA.eqi (by first | rfl | (simp; done) | (simp only [countSum, List.foldl_append, List.foldl_cons, List.foldl_nil, countArgs, ← hg2]; rfl)))⟩, ⟨⟨_, rfl, (LeA.eqi (by first | rfl | (simp; done) | (simp only [countSum, List.foldl_append, List.foldl_cons, List.foldl_nil, countArgs, ← hg2]; rfl)))⟩, trivial⟩⟩ trivial (fun x => rfl) (fun x hg1 => ?_)
    obtain ⟨pre, rest⟩ := x
    dsimp only at hg1 ⊢
    have hcl := ctorsOf_len hw (d := d) (k := k)
    refine evc [] [] ?_
    refine sq (fun h3 h3p h3s => ?_) fun h3 h3p h3s => ?_
    ·try simp only [Q] at h3p
     rcases rest with _ | ⟨c, rest⟩
     ·exfalso; simp_all
     refine Walk.idx sl66 .none rfl rfl rfl rfl (zip_at hg1) rfl ?_
     refine ev ?_
     refine Walk.call (cr := []) cal129 (impl_argTypes_in hw hlt (place_of (k := k) (by rw [← hg1]; simp))) rfl .none rfl rfl (LeL.refl _) trivial rfl rfl rfl ?_
     refine ev ?_
     refine CWp.loopX (ι := List (Ty) × List (Ty)) hk (fun x => [(31, .d (.i (x.1.length : Int))), (10, .d (.i (x.1.foldl (fun n' a => cap (n' * countV w n a)) 1)))]) [12, 32, 33, 34, 35, 36, 37, 38, 39, 40, 41, 42, 43] (fun x => []) (fun x => x.1 ++ x.2 = argsOf w ⟨d, k⟩ c) (fun x => x.2.length) ([], argsOf w ⟨d, k⟩ c) (by simp) ⟨⟨_, rfl, (LeA.eqi (by first | rfl | (simp; done) | (simp only [List.foldl_append, List.foldl_cons, List.foldl_nil]; rfl)))⟩, ⟨⟨_, rfl, (LeA.eqi (by first | rfl | (simp; done) | (simp only [List.foldl_append, List.foldl_cons, List.foldl_nil]; rfl)))⟩, trivial⟩⟩ trivial (fun x => rfl) (fun x hg2 => ?_)
     obtain ⟨pre2, rest2⟩ := x
     dsimp only at hg2 ⊢
     have hal := argsOf_len hw hlt (k := k) (place_of (k := k) (c := c) (by rw [← hg1]; simp))
     refine evc [] [] ?_
     refine sq (fun h4 h4p h4s => ?_) fun h4 h4p h4s => ?_
     ·try simp only [Q] at h4p
      rcases rest2 with _ | ⟨y, rest2⟩
      ·exfalso; simp_all
      refine Walk.idx sl25 .none rfl rfl rfl rfl (zip_at hg2) rfl ?_
      refine ev ?_
      refine Walk.alloc (id := 3012) tz31 rfl .none rfl rfl rfl rfl ?_
      refine Walk.store ty31 .none rfl rfl rfl rfl rfl rfl (by simp) rfl ?_
      refine tv ?_
      refine ar ?_ (by first | (constructor <;> omega) | (have b1 := countArgs_bd (countV_bd w n) pre2 1 (by omega) (by omega); have b2 := countV_bd w n y; have b3 := Int.mul_nonneg b1.1 b2.1; have b4 := Int.mul_le_mul b1.2 b2.2 b2.1 (by omega); constructor <;> (try simp only [Ty.eta]) <;> omega) | (constructor <;> simp <;> omega) | (have b1 := countArgs_bd (countV_bd w n) pre2 1 (by omega) (by omega); have b2 := countSum_bd (g := fun c => countArgs (countV w n) (argsOf w ⟨d, k⟩ c)) (fun c => countArgs_bd (countV_bd w n) (argsOf w ⟨d, k⟩ c) 1 (by omega) (by omega)) pre; constructor <;> omega))
      refine Walk.call (cr := []) cal104 (impl_countValues_fn hw n (a := y.data) (k := y.index) (by omega) (by omega) (argsOf_in hw hlt (k := k) (place_of (k := k) (c := c) (by rw [← hg1]; simp)) (t := y) (by rw [← hg2]; simp))) rfl .none rfl rfl (LeL.refl _) trivial rfl rfl rfl ?_
      refine ev ?_
      refine ar ?_ (by first | (constructor <;> omega) | (have b1 := countArgs_bd (countV_bd w n) pre2 1 (by omega) (by omega); have b2 := countV_bd w n y; have b3 := Int.mul_nonneg b1.1 b2.1; have b4 := Int.mul_le_mul b1.2 b2.2 b2.1 (by omega); constructor <;> (try simp only [Ty.eta]) <;> omega) | (constructor <;> simp <;> omega) | (have b1 := countArgs_bd (countV_bd w n) pre2 1 (by omega) (by omega); have b2 := countSum_bd (g := fun c => countArgs (countV w n) (argsOf w ⟨d, k⟩ c)) (fun c => countArgs_bd (countV_bd w n) (argsOf w ⟨d, k⟩ c) 1 (by omega) (by omega)) pre; constructor <;> omega))
      refine Walk.minI .none rfl rfl rfl ?_
      refine ev ?_
      refine ar ?_ (by first | (constructor <;> omega) | (have b1 := countArgs_bd (countV_bd w n) pre2 1 (by omega) (by omega); have b2 := countV_bd w n y; have b3 := Int.mul_nonneg b1.1 b2.1; have b4 := Int.mul_le_mul b1.2 b2.2 b2.1 (by omega); constructor <;> (try simp only [Ty.eta]) <;> omega) | (constructor <;> simp <;> omega) | (have b1 := countArgs_bd (countV_bd w n) pre2 1 (by omega) (by omega); have b2 := countSum_bd (g := fun c => countArgs (countV w n) (argsOf w ⟨d, k⟩ c)) (fun c => countArgs_bd (countV_bd w n) (argsOf w ⟨d, k⟩ c) 1 (by omega) (by omega)) pre; constructor <;> omega))
      refine Exists.intro ((pre2 ++ [y], rest2)) ⟨(by have hz := hg2; rw [← hz]; simp), (by simp), Sub.x (by kernel_rfl) (by kernel_rfl) ⟨⟨_, rfl, (LeA.eqi (by first | rfl | (simp; done) | (simp only [List.foldl_append, List.foldl_cons, List.foldl_nil]; rfl)))⟩, ⟨⟨_, rfl, (LeA.eqi (by first | rfl | (simp; done) | (simp only [List.foldl_append, List.foldl_cons, List.foldl_nil]; rfl)))⟩, trivial⟩⟩ (by kernel_rfl) (by kernel_rfl) trivial⟩
     ·try simp only [Q] at h4p
      have hrest2 : rest2 = [] := by
       rcases rest2 with _ | ⟨a, b⟩
       ·rfl
       ·exfalso; have hz := congrArg List.length (hg2); simp only [List.length_append, List.length_cons, List.length_map] at hz; omega
      subst hrest2
      refine ar ?_ (by first | (constructor <;> omega) | (have b1 := countArgs_bd (countV_bd w n) pre2 1 (by omega) (by omega); have b2 := countV_bd w n y; have b3 := Int.mul_nonneg b1.1 b2.1; have b4 := Int.mul_le_mul b1.2 b2.2 b2.1 (by omega); constructor <;> (try simp only [Ty.eta]) <;> omega) | (constructor <;> simp <;> omega) | (have b1 := countArgs_bd (countV_bd w n) pre2 1 (by omega) (by omega); have b2 := countSum_bd (g := fun c => countArgs (countV w n) (argsOf w ⟨d, k⟩ c)) (fun c => countArgs_bd (countV_bd w n) (argsOf w ⟨d, k⟩ c) 1 (by omega) (by omega)) pre; constructor <;> omega))
      refine Walk.minI .none rfl rfl rfl ?_
      refine ev ?_
      refine ar ?_ (by first | (constructor <;> omega) | (have b1 := countArgs_bd (countV_bd w n) pre2 1 (by omega) (by omega); have b2 := countV_bd w n y; have b3 := Int.mul_nonneg b1.1 b2.1; have b4 := Int.mul_le_mul b1.2 b2.2 b2.1 (by omega); constructor <;> (try simp only [Ty.eta]) <;> omega) | (constructor <;> simp <;> omega) | (have b1 := countArgs_bd (countV_bd w n) pre2 1 (by omega) (by omega); have b2 := countSum_bd (g := fun c => countArgs (countV w n) (argsOf w ⟨d, k⟩ c)) (fun c => countArgs_bd (countV_bd w n) (argsOf w ⟨d, k⟩ c) 1 (by omega) (by omega)) pre; constructor <;> omega))
      first | (rw [List.append_nil] at hg2) | skip
      refine Exists.intro ((pre ++ [c], rest)) ⟨(by have hz := hg1; rw [← hz]; simp), (by simp), Sub.x (by kernel_rfl) (by kernel_rfl) ⟨⟨_, rfl, (LeA.eqi (by first | rfl | (simp; done) | (simp only [countSum, List.foldl_append, List.foldl_cons, List.foldl_nil, countArgs, ← hg2]; rfl)))⟩, ⟨⟨_, rfl, (LeA.eqi (by first | rfl | (simp; done) | (simp only [countSum, List.foldl_append, List.foldl_cons, List.foldl_nil, countArgs, ← hg2]; rfl)))⟩, trivial⟩⟩ (by kernel_rfl) (by kernel_rfl) trivial⟩
    ·try simp only [Q] at h3p
     have hrest : rest = [] := by
      rcases rest with _ | ⟨a, b⟩
      ·rfl
      ·exfalso; have hz := congrArg List.length (hg1); simp only [List.length_append, List.length_cons, List.length_map] at hz; omega
     subst hrest
     refine rn0 (r1 rfl) (.eqd ?_)
     all_goals ((rw [List.append_nil] at hg1); subst hg1; (try simp [countV]) <;> omega)
end Go.Proofs.Ytpimgoacljakgaa
namespace Go.Proofs.Ytpimgoacljakgaa
open Go
set_option linter.unusedSimpArgs false
set_option linter.unusedVariables false
def ctorNames (w : List Data) : List Str := w.flatMap fun d => d.ctors.map (·.name)
structure WV (w : List Data) : Prop where
 len : w.length ≤ 4
 data : ∀ d ∈ w, dataNameOk d.name = true ∧ 1 ≤ d.ctors.length ∧ d.ctors.length ≤ 4
 ctor : ∀ d ∈ w, ∀ c ∈ d.ctors, ctorOk w.length c = true
 names : (w.map (·.name)).Nodup
 cnames : (ctorNames w).Nodup
theorem ctorsOk_iff (n : Nat) : ∀ (l : List Ctor) (met met' : List Str), ctorsOk n met l = some met' ↔ met' = met ++ l.map (·.name) ∧ (∀ c ∈ l, ctorOk n c = true) ∧ (l.map (·.name)).Nodup ∧ ∀ c ∈ l, c.name ∉ met
 | [], met, met' => by
  unfold ctorsOk
  simp only [Option.some.injEq, List.map_nil, List.append_nil]
  exact ⟨fun h => ⟨h.symm, by simp, by simp, by simp⟩, fun h => h.1.symm⟩
 | c :: r, met, met' => by
  unfold ctorsOk
  by_cases h : (ctorOk n c && !decide (c.name ∈ met)) = true
  ·rw [if_pos h, ctorsOk_iff n r]
   simp only [Bool.and_eq_true, Bool.not_eq_true', decide_eq_false_iff_not] at h
   obtain ⟨h1, h2⟩ := h
   constructor
   ·rintro ⟨rfl, q1, q2, q3⟩
    refine ⟨by simp, fun x hx => ?_, ?_, fun x hx => ?_⟩
    ·rcases List.mem_cons.1 hx with rfl | hx
     ·exact h1
     ·exact q1 x hx
    ·simp only [List.map_cons, List.nodup_cons]
     refine ⟨fun hm => ?_, q2⟩
     obtain ⟨x, hx, he⟩ := List.mem_map.1 hm
     exact q3 x hx (by rw [he]; simp)
    ·rcases List.mem_cons.1 hx with rfl | hx
     ·exact h2
     ·intro hm; exact q3 x hx (by simp [hm])
   ·rintro ⟨rfl, q1, q2, q3⟩
    simp only [List.map_cons, List.nodup_cons] at q2
    refine ⟨by simp, fun x hx => q1 x (List.mem_cons_of_mem _ hx), q2.2, fun x hx hm => ?_⟩
    simp only [List.mem_append, List.mem_singleton] at hm
    rcases hm with hm | hm
    ·exact q3 x (List.mem_cons_of_mem _ hx) hm
    ·exact q2.1 (hm ▸ List.mem_map.2 ⟨x, hx, rfl⟩)
  ·rw [if_neg h]
   constructor
   ·intro h'; cases h'
   ·rintro ⟨_, q1, _, q3⟩
    exfalso; apply h
    simp [q1 c (by simp), q3 c (by simp)]
theorem datasOk_iff (n : Nat) : ∀ (l : List Data) (met datas : List Str), datasOk n met datas l = true ↔
  (∀ d ∈ l, dataNameOk d.name = true ∧ 1 ≤ d.ctors.length ∧ d.ctors.length ≤ 4) ∧ (∀ d ∈ l, ∀ c ∈ d.ctors, ctorOk n c = true) ∧ (l.map (·.name)).Nodup ∧ (∀ d ∈ l, d.name ∉ datas) ∧
   (ctorNames l).Nodup ∧ ∀ s ∈ ctorNames l, s ∉ met
 | [], met, datas => by simp [datasOk, ctorNames]
 | d :: r, met, datas => by
  have hcn : ctorNames (d :: r) = d.ctors.map (·.name) ++ ctorNames r := rfl
  have hw : within d.ctors.length 1 4 = true ↔ 1 ≤ d.ctors.length ∧ d.ctors.length ≤ 4 := by simp [within]; omega
  unfold datasOk
  simp only [Bool.and_eq_true, Bool.not_eq_true', decide_eq_false_iff_not, hw]
  constructor
  ·rintro ⟨⟨⟨h1, h2⟩, h3⟩, h4⟩
   split at h4
   ·rename_i met' hm
    obtain ⟨rfl, c1, c2, c3⟩ := (ctorsOk_iff n _ _ _).1 hm
    obtain ⟨q1, q2, q3, q4, q5, q6⟩ := (datasOk_iff n r _ _).1 h4
    refine ⟨fun x hx => ?_, fun x hx => ?_, ?_, fun x hx => ?_, ?_, fun s hs => ?_⟩
    ·rcases List.mem_cons.1 hx with rfl | hx
     ·exact ⟨h1, h3⟩
     ·exact q1 x hx
    ·rcases List.mem_cons.1 hx with rfl | hx
     ·exact c1
     ·exact q2 x hx
    ·simp only [List.map_cons, List.nodup_cons]
     refine ⟨fun hm => ?_, q3⟩
     obtain ⟨x, hx, he⟩ := List.mem_map.1 hm
     exact q4 x hx (by rw [he]; simp)
    ·rcases List.mem_cons.1 hx with rfl | hx
     ·exact h2
     ·intro hm; exact q4 x hx (by simp [hm])
    ·rw [hcn, List.nodup_append]
     refine ⟨c2, q5, fun a ha b hb he => ?_⟩
     subst he
     exact q6 a hb (by simp only [List.mem_append]; exact .inr ha)
    ·rw [hcn] at hs
     rcases List.mem_append.1 hs with hs | hs
     ·obtain ⟨c, hc, rfl⟩ := List.mem_map.1 hs
      exact c3 c hc
     ·intro hm; exact q6 s hs (by simp [hm])
   ·cases h4
  ·rintro ⟨q1, q2, q3, q4, q5, q6⟩
   rw [hcn] at q5 q6
   rw [List.nodup_append] at q5
   simp only [List.map_cons, List.nodup_cons] at q3
   have hd := q1 d (by simp)
   have hm : ctorsOk n met d.ctors = some (met ++ d.ctors.map (·.name)) := (ctorsOk_iff n _ _ _).2 ⟨rfl, q2 d (by simp), q5.1, fun c hc => q6 _ (List.mem_append.2 (.inl (List.mem_map.2 ⟨c, hc, rfl⟩)))⟩
   refine ⟨⟨⟨hd.1, q4 d (by simp)⟩, hd.2⟩, ?_⟩
   rw [hm]
   refine (datasOk_iff n r _ _).2 ⟨fun x hx => q1 x (List.mem_cons_of_mem _ hx), fun x hx => q2 x (List.mem_cons_of_mem _ hx), q3.2, fun x hx hmem => ?_, q5.2.1, fun s hs hmem => ?_⟩
   ·simp only [List.mem_append, List.mem_singleton] at hmem
    rcases hmem with hmem | hmem
    ·exact q4 x (List.mem_cons_of_mem _ hx) hmem
    ·exact q3.1 (hmem ▸ List.mem_map.2 ⟨x, hx, rfl⟩)
   ·rcases List.mem_append.1 hmem with hmem | hmem
    ·exact q6 s (List.mem_append.2 (.inr hs)) hmem
    ·exact q5.2.2 s hmem s hs rfl
theorem worldValid_iff (w : List Data) : worldValid w = true ↔ WV w := by
 unfold worldValid
 rw [Bool.and_eq_true, datasOk_iff]
 constructor
 ·rintro ⟨h1, q1, q2, q3, _, q5, _⟩
  exact ⟨by have := of_decide_eq_true h1; omega, q1, q2, q3, q5⟩
 ·rintro ⟨h1, q1, q2, q3, q5⟩
  exact ⟨decide_eq_true (by omega), q1, q2, q3, by simp, q5, by simp⟩
theorem nodup_iff_nth {l : List Str} : l.Nodup ↔ ∀ i j, i < j → j < l.length → nth l i ≠ nth l j := by
 unfold List.Nodup
 rw [List.pairwise_iff_getElem]
 constructor
 ·intro h i j hij hj
  have := h i j (by omega) hj hij
  simpa [nth, List.getD, hj, (by omega : i < l.length)] using this
 ·intro h i j hi hj hij
  have := h i j hij hj
  simpa [nth, List.getD, hj, hi] using this
theorem nth_eq {α : Type} [Inhabited α] {l : List α} {i : Nat} (h : i < l.length) : nth l i = l[i] := by simp [nth, List.getD, h]
theorem cnames_iff (w : List Data) : (ctorNames w).Nodup ↔ (∀ d, d < w.length → ∀ j k, j < k → k < (nth w d).ctors.length → (nth (nth w d).ctors j).name ≠ (nth (nth w d).ctors k).name) ∧
  ∀ i d, i < d → d < w.length → ∀ j k, j < (nth w i).ctors.length → k < (nth w d).ctors.length → (nth (nth w i).ctors j).name ≠ (nth (nth w d).ctors k).name := by
 unfold ctorNames List.Nodup
 rw [List.pairwise_flatMap]
 constructor
 ·rintro ⟨h1, h2⟩
  refine ⟨fun d hd j k hjk hk => ?_, fun i d hid hd j k hj hk => ?_⟩
  ·have := h1 (nth w d) (nth_mem hd)
   rw [List.pairwise_iff_getElem] at this
   have := this j k (by simp; omega) (by simpa using hk) hjk
   simpa [nth_eq hk, nth_eq (show j < (nth w d).ctors.length by omega)] using this
  ·rw [List.pairwise_iff_getElem] at h2
   have := h2 i d (by omega) hd hid
   rw [← nth_eq hd, ← nth_eq (show i < w.length by omega)] at this
   exact this _ (List.mem_map.2 ⟨_, nth_mem hj, rfl⟩) _ (List.mem_map.2 ⟨_, nth_mem hk, rfl⟩)
 ·rintro ⟨h1, h2⟩
  refine ⟨fun x hx => ?_, ?_⟩
  ·obtain ⟨d, hd, rfl⟩ := List.getElem_of_mem hx
   rw [List.pairwise_iff_getElem]
   intro j k hj hk hjk
   have hk' : k < (nth w d).ctors.length := by rw [nth_eq hd]; simpa using hk
   have := h1 d hd j k hjk hk'
   rw [nth_eq hk', nth_eq (show j < (nth w d).ctors.length by omega)] at this
   simp only [nth_eq hd] at this
   simpa using this
  ·rw [List.pairwise_iff_getElem]
   intro i d hi hd hid x hx y hy
   obtain ⟨a, ha, rfl⟩ := List.mem_map.1 hx
   obtain ⟨b, hb, rfl⟩ := List.mem_map.1 hy
   obtain ⟨j, hj, rfl⟩ := List.getElem_of_mem ha
   obtain ⟨k, hk, rfl⟩ := List.getElem_of_mem hb
   have hj' : j < (nth w i).ctors.length := by rw [nth_eq hi]; exact hj
   have hk' : k < (nth w d).ctors.length := by rw [nth_eq hd]; exact hk
   have := h2 i d hid hd j k hj' hk'
   rw [nth_eq hj', nth_eq hk'] at this
   simpa only [nth_eq hi, nth_eq hd] using this
theorem names_iff (w : List Data) : (w.map (·.name)).Nodup ↔ ∀ i d, i < d → d < w.length → (nth w i).name ≠ (nth w d).name := by
 rw [nodup_iff_nth]
 have e : ∀ i, i < w.length → nth (w.map (·.name)) i = (nth w i).name := fun i hi => by simp [nth, List.getD, hi]
 constructor
 ·intro h i d hid hd
  have := h i d hid (by simpa using hd)
  rwa [e i (by omega), e d hd] at this
 ·intro h i d hid hd
  have hd' : d < w.length := by simpa using hd
  rw [e i (by omega), e d hd']
  exact h i d hid hd'
theorem twice_iff (w : List Data) (d k : Nat) : twice w d k = false ↔ (∀ i, i < d → (nth w i).name ≠ (nth w d).name) ∧
  ∀ i j, i ≤ d → j < (nth w i).ctors.length → (i < d ∨ j < k) → k < (nth w d).ctors.length → (nth (nth w i).ctors j).name ≠ (nth (nth w d).ctors k).name := by
 unfold twice
 rw [List.any_eq_false]
 constructor
 ·intro h
  refine ⟨fun i hi he => ?_, fun i j hi hj hij hk he => ?_⟩
  ·apply h i (List.mem_range.2 (by omega))
   unfold rowTwice; simp [hi, he]
  ·apply h i (List.mem_range.2 (by omega))
   unfold rowTwice
   rw [any_range_true hj (by unfold hitTwice; simp [hk, he]; omega)]
   simp
 ·rintro ⟨h1, h2⟩ i hi
  have hi' := List.mem_range.1 hi
  unfold rowTwice
  simp only [Bool.or_eq_true, Bool.and_eq_true, decide_eq_true_eq, not_or, not_and]
  refine ⟨fun hid => h1 i hid, ?_⟩
  rw [any_range_false (fun j hj => ?_)]
  ·simp
  ·unfold hitTwice
   cases hc : ((decide (i < d) || decide (j < k)) && (decide (k < (nth w d).ctors.length) && decide ((nth (nth w i).ctors j).name = (nth (nth w d).ctors k).name))) with
   | false => rfl
   | true =>
    simp only [Bool.and_eq_true, Bool.or_eq_true, decide_eq_true_eq] at hc
    exact absurd hc.2.2 (h2 i j (by omega) hj hc.1 hc.2.1)
theorem specWorldValid_iff (w : List Data) : specWorldValid w = true ↔ WV w := by
 unfold specWorldValid
 rw [Bool.and_eq_true, decide_eq_true_eq, List.all_eq_true]
 have hs : ∀ d, specData w d = true ↔ dataNameOk (nth w d).name = true ∧ 1 ≤ (nth w d).ctors.length ∧ (nth w d).ctors.length ≤ 4 ∧ ∀ k, k < (nth w d).ctors.length → ctorOk w.length (nth (nth w d).ctors k) = true ∧ twice w d k = false := fun d => by
  unfold specData
  simp only [Bool.and_eq_true, decide_eq_true_eq, List.all_eq_true, List.mem_range, specCtors, Bool.not_eq_true']
 constructor
 ·rintro ⟨h1, h2⟩
  have h3 : ∀ d, d < w.length → _ := fun d hd => (hs d).1 (h2 d (List.mem_range.2 hd))
  have h4 : ∀ d, d < w.length → ∀ k, k < (nth w d).ctors.length → _ := fun d hd k hk => (twice_iff w d k).1 ((h3 d hd).2.2.2 k hk).2
  refine ⟨h1, fun d hd => ?_, fun d hd c hc => ?_, (names_iff w).2 (fun i d hid hd => ?_), (cnames_iff w).2 ⟨fun d hd j k hjk hk => ?_, fun i d hid hd j k hj hk => ?_⟩⟩
  ·obtain ⟨i, hi, rfl⟩ := List.getElem_of_mem hd
   have := h3 i hi
   rw [nth_eq hi] at this
   exact ⟨this.1, this.2.1, this.2.2.1⟩
  ·obtain ⟨i, hi, rfl⟩ := List.getElem_of_mem hd
   obtain ⟨k, hk, rfl⟩ := List.getElem_of_mem hc
   have hk' : k < (nth w i).ctors.length := by rw [nth_eq hi]; exact hk
   have := ((h3 i hi).2.2.2 k hk').1
   rw [nth_eq hk'] at this
   simpa only [nth_eq hi] using this
  ·exact (h4 d hd 0 (by have := (h3 d hd).2.1; omega)).1 i hid
  ·exact (h4 d hd k hk).2 d j (Nat.le_refl _) (by omega) (.inr hjk) hk
  ·exact (h4 d hd k hk).2 i j (by omega) hj (.inl hid) hk
 ·intro h
  refine ⟨h.len, fun d hd => ?_⟩
  have hd' := List.mem_range.1 hd
  have hm := nth_mem hd'
  have hn := (names_iff w).1 h.names
  have hc := (cnames_iff w).1 h.cnames
  refine (hs d).2 ⟨(h.data _ hm).1, (h.data _ hm).2.1, (h.data _ hm).2.2, fun k hk => ⟨h.ctor _ hm _ (nth_mem hk), (twice_iff w d k).2 ⟨fun i hi => hn i d hi hd', fun i j hi hj hij hk' => ?_⟩⟩⟩
  by_cases hid : i < d
  ·exact hc.2 i d hid hd' j k hj hk'
  ·have : i = d := by omega
   subst this
   exact hc.1 i hd' j k (by omega) hk'
theorem specWorldValid_eq (w : List Data) : specWorldValid w = worldValid w := by
 rw [Bool.eq_iff_iff, specWorldValid_iff, worldValid_iff]
theorem argOk_in {n : Nat} {t : Ty} (h : argOk n t = true) : TyIn n t := by
 unfold argOk at h
 simp only [Bool.or_eq_true, Bool.and_eq_true, decide_eq_true_eq, within] at h
 rcases h with h | h
 ·exact .inl h.1
 ·exact .inr ⟨t.data.toNat, by omega, by omega⟩
theorem typeOk_in {n : Nat} {t : Ty} (h : typeOk n t = true) : TyIn n t := by
 unfold typeOk at h
 simp only [Bool.or_eq_true, Bool.and_eq_true, decide_eq_true_eq, within] at h
 rcases h with h | h
 ·exact .inl h.1
 ·exact .inr ⟨t.data.toNat, by omega, by omega⟩
theorem WV.wt {w : List Data} (hs : WSmall w) (h : WV w) : WT w := ⟨hs, fun d hd c hc t ht => by
 have := h.ctor d hd c hc
 unfold ctorOk at this
 simp only [Bool.and_eq_true, Bool.not_eq_true', List.any_eq_false, Bool.not_eq_true, Bool.not_eq_false] at this
 exact argOk_in (by have := this.2.2.2 t ht; simpa using this)⟩
theorem tv_wt {w : List Data} {t : Ty} (hs : WSmall w) (h : typeValid w t = true) : WT w := by
 unfold typeValid at h
 rw [Bool.and_eq_true] at h
 exact WV.wt hs ((worldValid_iff w).1 h.1)
theorem tv_in {w : List Data} {t : Ty} (h : typeValid w t = true) : TyIn w.length t := by
 unfold typeValid at h
 rw [Bool.and_eq_true] at h
 exact typeOk_in h.2
theorem spec_tv (w : List Data) (t : Ty) : (specWorldValid w && (argOk w.length t && decide (0 ≤ t.index))) = typeValid w t := by
 rw [specWorldValid_eq]
 unfold typeValid
 congr 1
 rw [Bool.eq_iff_iff]
 unfold argOk typeOk within
 simp
 omega
end Go.Proofs.Ytpimgoacljakgaa
namespace Go.Proofs.Ytpimgoacljakgaa
open Go
set_option linter.unusedSimpArgs false
set_option linter.unusedVariables false
set_option maxRecDepth 100000
set_option maxHeartbeats 2000000
theorem drop_nth {α : Type} [Inhabited α] {l : List α} {i : Nat} (h : i < l.length) : l.drop i = nth l i :: l.drop (i + 1) := by
 rw [nth_eq h]; exact List.drop_eq_getElem_cons h
def cutL (c : UInt8) : Str → Str → List Str
 | cur, [] => [cur]
 | cur, x :: r => if x = c then cur :: cutL c [] r else cutL c (cur ++ [x]) r
theorem cutL_len (c : UInt8) : ∀ (s cur : Str), (cutL c cur s).length ≤ s.length + 1
 | [], cur => by simp [cutL]
 | x :: r, cur => by
  simp only [cutL]
  split
  ·have := cutL_len c r []; simp only [List.length_cons]; omega
  ·have := cutL_len c r (cur ++ [x]); simp only [List.length_cons]; omega
theorem cutL_pos (c : UInt8) : ∀ (s cur : Str), 1 ≤ (cutL c cur s).length
 | [], cur => by simp [cutL]
 | x :: r, cur => by
  simp only [cutL]
  split
  ·simp
  ·exact cutL_pos c r (cur ++ [x])
theorem cutL_mem (c : UInt8) : ∀ (s cur : Str) (t : Str), t ∈ cutL c cur s → t.length ≤ cur.length + s.length
 | [], cur, t, h => by simp only [cutL, List.mem_singleton] at h; subst h; simp
 | x :: r, cur, t, h => by
  simp only [cutL] at h
  split at h
  ·rcases List.mem_cons.1 h with rfl | h
   ·simp
   ·have := cutL_mem c r [] t h; simp only [List.length_cons, List.length_nil] at this ⊢; omega
  ·have := cutL_mem c r (cur ++ [x]) t h; simp only [List.length_append, List.length_cons, List.length_nil] at this ⊢; omega
theorem str_at {s : Str} {i : Nat} (h : i < s.length) : s[i]? = some (nth s i) := by rw [nth_eq h]; exact List.getElem?_eq_getElem h
theorem cur_next {s : Str} {f i : Nat} (hf : f ≤ i) (h : i < s.length) : (s.take (i + 1)).drop f = (s.take i).drop f ++ [nth s i] := by
 rw [List.take_add_one, List.getElem?_eq_getElem h, List.drop_append_of_le_length (by simp; omega), nth_eq h]
 rfl
theorem cut_take {s : Str} {f i : Nat} : (s.drop f).take (i - f) = (s.take i).drop f := by rw [List.drop_take]
theorem spec_l17Cut_fn {s : Str} {c : UInt8} (hs : s.length ≤ 1000000000000) : FnD Try.prog 154 [.d (.str s), .d (.int .u8 (c.toNat : Int))] [] (.d (encStrs (cutL c [] s))) [] := by
 have hu : ∀ a : UInt8, ((a.toNat : Int) = (c.toNat : Int)) ↔ a = c := fun a => by rw [Int.natCast_inj]; exact UInt8.toNat_inj
 refine bd Try.f154 36 [] [] fun w0 F0 own kept hk => ?_
 refine Walk.sliceEmptyG 1 sl136 .none rfl rfl ?_
 refine ev ?_
 refine CWp.loopX (ι := Nat × Nat × List Str) hk (fun x => [(7, .d (.i (x.1 : Int))), (6, .d (.i (x.2.1 : Int))), (5, .gl 1 (x.2.2.map fun n => [D.str n]))]) [9, 10, 11, 12, 13, 14, 15, 16, 17, 18, 19, 20, 21, 22, 23, 24, 25, 26, 27, 28, 29, 30, 31, 32, 33, 34] (fun x => [(1, some (.tok ((x.2.2.map fun n => [D.str n])).length 1))]) (fun x => x.1 ≤ s.length + 1 ∧ x.2.2.length ≤ x.1 ∧ if x.1 = s.length + 1 then x.2.2 = cutL c [] s else x.2.1 ≤ x.1 ∧ x.2.2 ++ cutL c ((s.take x.1).drop x.2.1) (s.drop x.1) = cutL c [] s) (fun x => s.length + 1 - x.1) (0, 0, []) ⟨by simp, by simp, by rw [if_neg (by simp)]; simp⟩ ⟨⟨_, rfl, (LeA.eqi (by first | rfl | (split <;> first | rfl | (exfalso; simp_all; done) | (exfalso; simp_all; omega)) | (split <;> first | (simp [cut_take]; done) | (simp; done) | (exfalso; simp_all; done) | (exfalso; simp_all; omega))))⟩, ⟨⟨_, rfl, (LeA.eqi (by first | rfl | (split <;> first | rfl | (exfalso; simp_all; done) | (exfalso; simp_all; omega)) | (split <;> first | (simp [cut_take]; done) | (simp; done) | (exfalso; simp_all; done) | (exfalso; simp_all; omega))))⟩, ⟨⟨_, rfl, (LeA.glg (by first | rfl | (split <;> first | rfl | (exfalso; simp_all; done) | (exfalso; simp_all; omega)) | (split <;> first | (simp [cut_take]; done) | (simp; done) | (exfalso; simp_all; done) | (exfalso; simp_all; omega))))⟩, trivial⟩⟩⟩ ⟨beq_nat_eq (by first | rfl | (simp; done) | (simp; omega) | (first | rfl | (split <;> first | rfl | (exfalso; simp_all; done) | (exfalso; simp_all; omega)) | (split <;> first | (simp [cut_take]; done) | (simp; done) | (exfalso; simp_all; done) | (exfalso; simp_all; omega)))), trivial⟩ (fun x => rfl) (fun x hg1 => ?_)
 refine evc [] [] ?_
 refine sq (fun h1 h1p h1s => ?_) fun h1 h1p h1s => ?_
 ·try simp only [Q, hu] at h1p
  have hne : ¬ x.1 = s.length + 1 := (by omega)
  have hcond := hg1.2.2
  rw [if_neg hne] at hcond
  have hle := hcond.1
  refine sq (fun h2 h2p h2s => ?_) fun h2 h2p h2s => ?_
  ·try simp only [Q, hu] at h2p
   refine sqT ?_
   refine Walk.cutS_lh un9 .none rfl rfl rfl rfl rfl rfl (by omega) (by omega) ?_
   refine Walk.sliceLit sl136 tz9 rfl (by decide) (ks := [0]) (xs := [_]) rfl rfl (by decide) (by decide) .none rfl rfl rfl rfl ?_
   refine Walk.append sl136 zz9 rfl .none rfl rfl rfl rfl (htokL rfl (by first | rfl | (simp; done) | (simp; omega))) (by simp) (by simp; omega) (by simp; omega) ?_
   refine ev ?_
   refine ar ?_
   refine ar ?_
   refine Exists.intro (if x.1 = s.length ∨ nth s x.1 = c then (x.1 + 1, x.1 + 1, x.2.2 ++ [(s.take x.1).drop x.2.1]) else (x.1 + 1, x.2.1, x.2.2)) ⟨(by
      have hne : ¬ x.1 = s.length + 1 := by omega
      rw [if_neg hne] at hg1
      obtain ⟨g1, g2, g3, g4⟩ := hg1
      by_cases he : x.1 = s.length
      ·rw [if_pos (.inl he)]
       refine ⟨by dsimp only; omega, by simp; omega, ?_⟩
       dsimp only
       rw [if_pos (by omega), ← g4, he, List.drop_length]
       rfl
      ·have hlt : x.1 < s.length := by omega
       rw [drop_nth hlt] at g4
       by_cases hc : nth s x.1 = c
       ·rw [if_pos (.inr hc)]
        refine ⟨by dsimp only; omega, by simp; omega, ?_⟩
        dsimp only
        rw [if_neg (by omega)]
        refine ⟨by omega, ?_⟩
        rw [← g4, cutL, if_pos hc, List.append_assoc]
        simp
       ·rw [if_neg (by simp [he, hc])]
        refine ⟨by dsimp only; omega, by dsimp only; omega, ?_⟩
        dsimp only
        rw [if_neg (by omega)]
        refine ⟨by omega, ?_⟩
        rw [← g4, cutL, if_neg hc, cur_next g3 hlt]), (by split <;> (dsimp only; omega)), Sub.x (by kernel_rfl) (by kernel_rfl) ⟨⟨_, rfl, (LeA.eqi (by first | rfl | (split <;> first | rfl | (exfalso; simp_all; done) | (exfalso; simp_all; omega)) | (split <;> first | (simp [cut_take]; done) | (simp; done) | (exfalso; simp_all; done) | (exfalso; simp_all; omega))))⟩, ⟨⟨_, rfl, (LeA.eqi (by first | rfl | (split <;> first | rfl | (exfalso; simp_all; done) | (exfalso; simp_all; omega)) | (split <;> first | (simp [cut_take]; done) | (simp; done) | (exfalso; simp_all; done) | (exfalso; simp_all; omega))))⟩, ⟨⟨_, rfl, (LeA.glg (by first | rfl | (split <;> first | rfl | (exfalso; simp_all; done) | (exfalso; simp_all; omega)) | (split <;> first | (simp [cut_take]; done) | (simp; done) | (exfalso; simp_all; done) | (exfalso; simp_all; omega))))⟩, trivial⟩⟩⟩ (by kernel_rfl) (by kernel_rfl) ⟨beq_nat_eq (by first | rfl | (simp; done) | (simp; omega) | (first | rfl | (split <;> first | rfl | (exfalso; simp_all; done) | (exfalso; simp_all; omega)) | (split <;> first | (simp [cut_take]; done) | (simp; done) | (exfalso; simp_all; done) | (exfalso; simp_all; omega)))), trivial⟩⟩
  ·try simp only [Q, hu] at h2p
   refine Walk.idxS un9 (.some rfl rfl h2) rfl rfl rfl rfl (str_at (by omega)) ?_
   refine evs [] [(19, false)] ?_ ⟨⟨_, rfl, h2⟩, trivial⟩
   refine sq (fun h4 h4p h4s => ?_) fun h4 h4p h4s => ?_
   ·try simp only [Q, hu] at h4p
    refine Walk.cutS_lh un9 .none rfl rfl rfl rfl rfl rfl (by omega) (by omega) ?_
    refine Walk.sliceLit sl136 tz9 rfl (by decide) (ks := [0]) (xs := [_]) rfl rfl (by decide) (by decide) .none rfl rfl rfl rfl ?_
    refine Walk.append sl136 zz9 rfl .none rfl rfl rfl rfl (htokL rfl (by first | rfl | (simp; done) | (simp; omega))) (by simp) (by simp; omega) (by simp; omega) ?_
    refine ev ?_
    refine ar ?_
    refine ar ?_
    refine Exists.intro (if x.1 = s.length ∨ nth s x.1 = c then (x.1 + 1, x.1 + 1, x.2.2 ++ [(s.take x.1).drop x.2.1]) else (x.1 + 1, x.2.1, x.2.2)) ⟨(by
       have hne : ¬ x.1 = s.length + 1 := by omega
       rw [if_neg hne] at hg1
       obtain ⟨g1, g2, g3, g4⟩ := hg1
       by_cases he : x.1 = s.length
       ·rw [if_pos (.inl he)]
        refine ⟨by dsimp only; omega, by simp; omega, ?_⟩
        dsimp only
        rw [if_pos (by omega), ← g4, he, List.drop_length]
        rfl
       ·have hlt : x.1 < s.length := by omega
        rw [drop_nth hlt] at g4
        by_cases hc : nth s x.1 = c
        ·rw [if_pos (.inr hc)]
         refine ⟨by dsimp only; omega, by simp; omega, ?_⟩
         dsimp only
         rw [if_neg (by omega)]
         refine ⟨by omega, ?_⟩
         rw [← g4, cutL, if_pos hc, List.append_assoc]
         simp
        ·rw [if_neg (by simp [he, hc])]
         refine ⟨by dsimp only; omega, by dsimp only; omega, ?_⟩
         dsimp only
         rw [if_neg (by omega)]
         refine ⟨by omega, ?_⟩
         rw [← g4, cutL, if_neg hc, cur_next g3 hlt]), (by split <;> (dsimp only; omega)), Sub.x (by kernel_rfl) (by kernel_rfl) ⟨⟨_, rfl, (LeA.eqi (by first | rfl | (split <;> first | rfl | (exfalso; simp_all; done) | (exfalso; simp_all; omega)) | (split <;> first | (simp [cut_take]; done) | (simp; done) | (exfalso; simp_all; done) | (exfalso; simp_all; omega))))⟩, ⟨⟨_, rfl, (LeA.eqi (by first | rfl | (split <;> first | rfl | (exfalso; simp_all; done) | (exfalso; simp_all; omega)) | (split <;> first | (simp [cut_take]; done) | (simp; done) | (exfalso; simp_all; done) | (exfalso; simp_all; omega))))⟩, ⟨⟨_, rfl, (LeA.glg (by first | rfl | (split <;> first | rfl | (exfalso; simp_all; done) | (exfalso; simp_all; omega)) | (split <;> first | (simp [cut_take]; done) | (simp; done) | (exfalso; simp_all; done) | (exfalso; simp_all; omega))))⟩, trivial⟩⟩⟩ (by kernel_rfl) (by kernel_rfl) ⟨beq_nat_eq (by first | rfl | (simp; done) | (simp; omega) | (first | rfl | (split <;> first | rfl | (exfalso; simp_all; done) | (exfalso; simp_all; omega)) | (split <;> first | (simp [cut_take]; done) | (simp; done) | (exfalso; simp_all; done) | (exfalso; simp_all; omega)))), trivial⟩⟩
   ·try simp only [Q, hu] at h4p
    refine ar ?_
    refine Exists.intro (if x.1 = s.length ∨ nth s x.1 = c then (x.1 + 1, x.1 + 1, x.2.2 ++ [(s.take x.1).drop x.2.1]) else (x.1 + 1, x.2.1, x.2.2)) ⟨(by
       have hne : ¬ x.1 = s.length + 1 := by omega
       rw [if_neg hne] at hg1
       obtain ⟨g1, g2, g3, g4⟩ := hg1
       by_cases he : x.1 = s.length
       ·rw [if_pos (.inl he)]
        refine ⟨by dsimp only; omega, by simp; omega, ?_⟩
        dsimp only
        rw [if_pos (by omega), ← g4, he, List.drop_length]
        rfl
       ·have hlt : x.1 < s.length := by omega
        rw [drop_nth hlt] at g4
        by_cases hc : nth s x.1 = c
        ·rw [if_pos (.inr hc)]
         refine ⟨by dsimp only; omega, by simp; omega, ?_⟩
         dsimp only
         rw [if_neg (by omega)]
         refine ⟨by omega, ?_⟩
         rw [← g4, cutL, if_pos hc, List.append_assoc]
         simp
        ·rw [if_neg (by simp [he, hc])]
         refine ⟨by dsimp only; omega, by dsimp only; omega, ?_⟩
         dsimp only
         rw [if_neg (by omega)]
         refine ⟨by omega, ?_⟩
         rw [← g4, cutL, if_neg hc, cur_next g3 hlt]), (by split <;> (dsimp only; omega)), Sub.x (by kernel_rfl) (by kernel_rfl) ⟨⟨_, rfl, (LeA.eqi (by first | rfl | (split <;> first | rfl | (exfalso; simp_all; done) | (exfalso; simp_all; omega)) | (split <;> first | (simp [cut_take]; done) | (simp; done) | (exfalso; simp_all; done) | (exfalso; simp_all; omega))))⟩, ⟨⟨_, rfl, (LeA.eqi (by first | rfl | (split <;> first | rfl | (exfalso; simp_all; done) | (exfalso; simp_all; omega)) | (split <;> first | (simp [cut_take]; done) | (simp; done) | (exfalso; simp_all; done) | (exfalso; simp_all; omega))))⟩, ⟨⟨_, rfl, (LeA.glg (by first | rfl | (split <;> first | rfl | (exfalso; simp_all; done) | (exfalso; simp_all; omega)) | (split <;> first | (simp [cut_take]; done) | (simp; done) | (exfalso; simp_all; done) | (exfalso; simp_all; omega))))⟩, trivial⟩⟩⟩ (by kernel_rfl) (by kernel_rfl) ⟨beq_nat_eq (by first | rfl | (simp; done) | (simp; omega) | (first | rfl | (split <;> first | rfl | (exfalso; simp_all; done) | (exfalso; simp_all; omega)) | (split <;> first | (simp [cut_take]; done) | (simp; done) | (exfalso; simp_all; done) | (exfalso; simp_all; omega)))), trivial⟩⟩
 ·try simp only [Q, hu] at h1p
  refine rn0 (r1 rfl) (.gld ?_)
  all_goals (have e : x.1 = s.length + 1 := (by omega); rw [if_pos e] at hg1; rw [hg1.2.2])
def findN (names : List Str) (s : Str) : Int := if s = [73] then -1 else if s ∈ names then idxF (fun n => decide (n = s)) names 0 else -2
theorem spec_l1Find_fn {names : List Str} {s : Str} (hn : names.length ≤ 1000000000000) : FnD Try.prog 181 [.d (encStrs names), .d (.str s)] [] (.d (.i (findN names s))) [] := by
 refine bd Try.f181 21 [] [] fun w0 F0 own kept hk => ?_
 refine sq (fun h1 h1p h1s => ?_) fun h1 h1p h1s => ?_
 ·try simp only [Q] at h1p
  refine rn0 (r1 rfl) (.eqd ?_)
  all_goals (refine congrArg D.i ?_; unfold findN; by_cases hz : s = [73] <;> by_cases hm : s ∈ names <;> simp only [hz, hm, if_true, if_false]; all_goals first | rfl | omega | (exfalso; simp_all; done) | (exfalso; apply hm; subst h3p; rw [← hg1.1]; simp; done) | (exfalso; apply hg1.2.1; rw [← hg1.1, List.append_nil] at hm; exact hm) | (rw [← hg1.2.2]; simp_all [idxF]; done) | (exfalso; rw [← hg1.1] at hm; simp_all; done))
 ·try simp only [Q] at h1p
  refine CWp.loopX (ι := List (Str) × List (Str)) hk (fun x => [(5, .d (.i (x.1.length : Int)))]) [4, 8, 9, 10, 11, 12, 13, 14, 15, 16, 17, 18, 19, 20] (fun x => []) (fun x => x.1 ++ x.2 = names ∧ s ∉ x.1 ∧ idxF (fun n => decide (n = s)) x.2 x.1.length = idxF (fun n => decide (n = s)) names 0) (fun x => x.2.length) ([], names) ⟨by simp, by simp, rfl⟩ ⟨⟨_, rfl, (LeA.eqi (by first | rfl | (simp; done) | (simp_all; done) | omega))⟩, trivial⟩ trivial (fun x => rfl) (fun x hg1 => ?_)
  obtain ⟨pre, rest⟩ := x
  dsimp only at hg1 ⊢
  refine evc [] [] ?_
  refine sq (fun h2 h2p h2s => ?_) fun h2 h2p h2s => ?_
  ·try simp only [Q] at h2p
   rcases rest with _ | ⟨y, rest⟩
   ·exfalso; simp_all
   refine Walk.idx sl136 .none rfl rfl rfl rfl (zip_at hg1.1) rfl ?_
   refine ev ?_
   refine sq (fun h3 h3p h3s => ?_) fun h3 h3p h3s => ?_
   ·try simp only [Q] at h3p
    refine rn0 (r1 rfl) (.eqd ?_)
    all_goals (refine congrArg D.i ?_; unfold findN; by_cases hz : s = [73] <;> by_cases hm : s ∈ names <;> simp only [hz, hm, if_true, if_false]; all_goals first | rfl | omega | (exfalso; simp_all; done) | (exfalso; apply hm; subst h3p; rw [← hg1.1]; simp; done) | (exfalso; apply hg1.2.1; rw [← hg1.1, List.append_nil] at hm; exact hm) | (rw [← hg1.2.2]; simp_all [idxF]; done) | (exfalso; rw [← hg1.1] at hm; simp_all; done))
   ·try simp only [Q] at h3p
    refine ar ?_
    refine Exists.intro ((pre ++ [y], rest)) ⟨⟨(by have hz := hg1.1; rw [← hz]; simp), ⟨(by have h1 := hg1.2.1; simp_all [eq_comm]), (by rw [← hg1.2.2]; simp_all [idxF])⟩⟩, (by simp), Sub.x (by kernel_rfl) (by kernel_rfl) ⟨⟨_, rfl, (LeA.eqi (by first | rfl | (simp; done) | (simp_all; done) | omega))⟩, trivial⟩ (by kernel_rfl) (by kernel_rfl) trivial⟩
  ·try simp only [Q] at h2p
   have hrest : rest = [] := by
    rcases rest with _ | ⟨a, b⟩
    ·rfl
    ·exfalso; have hz := congrArg List.length (hg1.1); simp only [List.length_append, List.length_cons, List.length_map] at hz; omega
   subst hrest
   refine rn0 (r1 rfl) (.eqd ?_)
   all_goals (refine congrArg D.i ?_; unfold findN; by_cases hz : s = [73] <;> by_cases hm : s ∈ names <;> simp only [hz, hm, if_true, if_false]; all_goals first | rfl | omega | (exfalso; simp_all; done) | (exfalso; apply hm; subst h3p; rw [← hg1.1]; simp; done) | (exfalso; apply hg1.2.1; rw [← hg1.1, List.append_nil] at hm; exact hm) | (rw [← hg1.2.2]; simp_all [idxF]; done) | (exfalso; rw [← hg1.1] at hm; simp_all; done))
def parseTy (names : List Str) (s : Str) : Ty :=
 if s = [] then ⟨-2, 0⟩
 else ⟨findN names (s.take 1), if s.drop 1 = [42] then -1 else if s.length = 2 ∧ 48 ≤ (nth s 1).toNat ∧ (nth s 1).toNat ≤ 57 then ((nth s 1).toNat : Int) - 48 else 0⟩
theorem digit_wrap {b : UInt8} (h1 : 48 ≤ b.toNat) (h2 : b.toNat ≤ 57) : IntKind.i64.wrap (IntKind.u8.wrap ((b.toNat : Int) - 48)) = (b.toNat : Int) - 48 := by
 rw [wrap_u8, wrap_i64 (by omega)]; omega
theorem spec_l1ParseType_fn {names : List Str} {s : Str} (hn : names.length ≤ 1000000000000) (hs : s.length ≤ 1000000000000) :
  FnD Try.prog 175 [.d (encStrs names), .d (.str s)] [] (.agg [.d (.i (parseTy names s).data), .d (.i (parseTy names s).index)]) [] := by
 have hlen : s ≠ [] → 1 ≤ s.length := fun h => by rcases s with _ | ⟨a, r⟩; exact absurd rfl h; simp
 refine bd Try.f175 39 [35] [] fun w0 F0 own kept hk => ?_
 refine Walk.alloc (id := 3004) tz31 rfl .none rfl rfl rfl rfl ?_
 refine tv ?_
 refine sq (fun h1 h1p h1s => ?_) fun h1 h1p h1s => ?_
 ·try simp only [Q] at h1p
  refine Walk.build st31 (ks := [0]) (xs := [_]) rfl rfl .none rfl rfl rfl ?_
  refine Walk.store ty31 .none rfl rfl rfl rfl rfl rfl (by simp) rfl ?_
  refine tv ?_
  refine rn0 (.cons (.cellA ty31 rfl rfl rfl) .nil) (.agg (.cons (.eqd ?_) (.cons (.eqd ?_) .nil)))
  all_goals (unfold parseTy; first | rfl | (rw [digit_wrap (b := nth s 1) (by omega) (by omega), if_neg h1p]; dsimp only; rw [if_neg h2p, if_pos ⟨by omega, by omega, by omega⟩]; done) | (rw [if_pos h1p]; done) | (rw [if_neg h1p]; done) | (rw [if_neg h1p]; dsimp only; rw [if_pos h2p]; done) | (rw [if_neg h1p]; dsimp only; rw [if_neg h2p, if_neg (fun hh => by omega)]; done) | (simp_all; done))
 ·try simp only [Q] at h1p
  refine Walk.cutS_h (b := 1) un9 .none rfl rfl rfl rfl (by have := hlen (by simp_all); omega) ?_
  refine Walk.call (cr := []) cal181 (spec_l1Find_fn (names := names) (s := s.take 1) hn) rfl .none rfl rfl (LeL.refl _) trivial rfl rfl rfl ?_
  refine Walk.build st31 (ks := [0]) (xs := [_]) rfl rfl .none rfl rfl rfl ?_
  refine Walk.alloc (id := 3005) tz31 rfl .none rfl rfl rfl rfl ?_
  refine Walk.store ty31 .none rfl rfl rfl rfl rfl rfl (by simp) rfl ?_
  refine tv ?_
  refine Walk.cutS_l (b := 1) un9 .none rfl rfl rfl rfl (by have := hlen (by simp_all); omega) ?_
  refine evs [35] [] ?_
  refine sq (fun h2 h2p h2s => ?_) fun h2 h2p h2s => ?_
  ·try simp only [Q] at h2p
   refine Walk.store ty3 .none rfl rfl rfl rfl rfl rfl (by simp) rfl ?_
   refine tv ?_
   refine Walk.store ty31 .none rfl rfl rfl rfl rfl rfl (by simp) rfl ?_
   refine tv ?_
   refine rn0 (.cons (.cellA ty31 rfl rfl rfl) .nil) (.agg (.cons (.eqd ?_) (.cons (.eqd ?_) .nil)))
   all_goals (unfold parseTy; first | rfl | (rw [digit_wrap (b := nth s 1) (by omega) (by omega), if_neg h1p]; dsimp only; rw [if_neg h2p, if_pos ⟨by omega, by omega, by omega⟩]; done) | (rw [if_pos h1p]; done) | (rw [if_neg h1p]; done) | (rw [if_neg h1p]; dsimp only; rw [if_pos h2p]; done) | (rw [if_neg h1p]; dsimp only; rw [if_neg h2p, if_neg (fun hh => by omega)]; done) | (simp_all; done))
  ·try simp only [Q] at h2p
   refine sq (fun h3 h3p h3s => ?_) fun h3 h3p h3s => ?_
   ·try simp only [Q] at h3p
    refine Walk.idxS (i := 1) un9 (.some rfl rfl h3) rfl rfl rfl rfl (str_at (by simp_all; omega)) ?_
    refine evs [35] [(23, true)] ?_ ⟨⟨_, rfl, h3⟩, trivial⟩
    refine sq (fun h4 h4p h4s => ?_) fun h4 h4p h4s => ?_
    ·try simp only [Q] at h4p
     refine Walk.idxS (i := 1) un9 (.some rfl rfl h4) rfl rfl rfl rfl (str_at (by simp_all; omega)) ?_
     refine evs [35] [(28, true)] ?_ ⟨⟨_, rfl, h4⟩, trivial⟩
     refine sq (fun h5 h5p h5s => ?_) fun h5 h5p h5s => ?_
     ·try simp only [Q] at h5p
      refine Walk.idxS (i := 1) un9 .none rfl rfl rfl rfl (str_at (by simp_all; omega)) ?_
      refine Walk.subW .none rfl rfl rfl ?_
      refine Walk.conv (by rw [un5]; rfl) un3 .none rfl rfl ?_
      refine evs [35] [] ?_
      refine Walk.store ty3 .none rfl rfl rfl rfl rfl rfl (by simp) rfl ?_
      refine tv ?_
      refine Walk.store ty31 .none rfl rfl rfl rfl rfl rfl (by simp) rfl ?_
      refine tv ?_
      refine rn0 (.cons (.cellA ty31 rfl rfl rfl) .nil) (.agg (.cons (.eqd ?_) (.cons (.eqd ?_) .nil)))
      all_goals (unfold parseTy; first | rfl | (rw [digit_wrap (b := nth s 1) (by omega) (by omega), if_neg h1p]; dsimp only; rw [if_neg h2p, if_pos ⟨by omega, by omega, by omega⟩]; done) | (rw [if_pos h1p]; done) | (rw [if_neg h1p]; done) | (rw [if_neg h1p]; dsimp only; rw [if_pos h2p]; done) | (rw [if_neg h1p]; dsimp only; rw [if_neg h2p, if_neg (fun hh => by omega)]; done) | (simp_all; done))
     ·try simp only [Q] at h5p
      refine Walk.store ty31 .none rfl rfl rfl rfl rfl rfl (by simp) rfl ?_
      refine tv ?_
      refine rn0 (.cons (.cellA ty31 rfl rfl rfl) .nil) (.agg (.cons (.eqd ?_) (.cons (.eqd ?_) .nil)))
      all_goals (unfold parseTy; first | rfl | (rw [digit_wrap (b := nth s 1) (by omega) (by omega), if_neg h1p]; dsimp only; rw [if_neg h2p, if_pos ⟨by omega, by omega, by omega⟩]; done) | (rw [if_pos h1p]; done) | (rw [if_neg h1p]; done) | (rw [if_neg h1p]; dsimp only; rw [if_pos h2p]; done) | (rw [if_neg h1p]; dsimp only; rw [if_neg h2p, if_neg (fun hh => by omega)]; done) | (simp_all; done))
    ·try simp only [Q] at h4p
     refine sqF ?_
     refine Walk.store ty31 .none rfl rfl rfl rfl rfl rfl (by simp) rfl ?_
     refine tv ?_
     refine rn0 (.cons (.cellA ty31 rfl rfl rfl) .nil) (.agg (.cons (.eqd ?_) (.cons (.eqd ?_) .nil)))
     all_goals (unfold parseTy; first | rfl | (rw [digit_wrap (b := nth s 1) (by omega) (by omega), if_neg h1p]; dsimp only; rw [if_neg h2p, if_pos ⟨by omega, by omega, by omega⟩]; done) | (rw [if_pos h1p]; done) | (rw [if_neg h1p]; done) | (rw [if_neg h1p]; dsimp only; rw [if_pos h2p]; done) | (rw [if_neg h1p]; dsimp only; rw [if_neg h2p, if_neg (fun hh => by omega)]; done) | (simp_all; done))
   ·try simp only [Q] at h3p
    refine sqF ?_
    refine sqF ?_
    refine Walk.store ty31 .none rfl rfl rfl rfl rfl rfl (by simp) rfl ?_
    refine tv ?_
    refine rn0 (.cons (.cellA ty31 rfl rfl rfl) .nil) (.agg (.cons (.eqd ?_) (.cons (.eqd ?_) .nil)))
    all_goals (unfold parseTy; first | rfl | (rw [digit_wrap (b := nth s 1) (by omega) (by omega), if_neg h1p]; dsimp only; rw [if_neg h2p, if_pos ⟨by omega, by omega, by omega⟩]; done) | (rw [if_pos h1p]; done) | (rw [if_neg h1p]; done) | (rw [if_neg h1p]; dsimp only; rw [if_pos h2p]; done) | (rw [if_neg h1p]; dsimp only; rw [if_neg h2p, if_neg (fun hh => by omega)]; done) | (simp_all; done))
def endsIx (s : Str) : Prop := 2 < s.length ∧ nth s (s.length - 2) = 58
instance (s : Str) : Decidable (endsIx s) := inferInstanceAs (Decidable (_ ∧ _))
def ctorOf (names : List Str) (ix : Int) (s : Str) : Ctor :=
 let parts := cutL 40 [] s
 ⟨nth parts 0, if parts.length < 2 ∨ (nth parts 1).length = 0 then [] else ((cutL 44 [] ((nth parts 1).take ((nth parts 1).length - 1))).take 4).map (parseTy names), ix⟩
def parseCtor (names : List Str) (s : Str) : Ctor :=
 if endsIx s then ctorOf names (((nth s (s.length - 1)).toNat : Int) - 48) (s.take (s.length - 2)) else ctorOf names 0 s
theorem map_take_next {α β : Type} [Inhabited α] {f : α → β} {l : List α} {i : Nat} (h : i < l.length) : (l.map f).take (i + 1) = (l.map f).take i ++ [f (nth l i)] := by
 rw [List.take_add_one, List.getElem?_map, List.getElem?_eq_getElem h]
 simp [nth, List.getD, h]
theorem take_four {α : Type} {l : List α} {i : Nat} (h : i = 4 ∨ (i ≤ 4 ∧ l.length ≤ i)) : l.take i = l.take 4 := by
 rcases h with rfl | ⟨h1, h2⟩
 ·rfl
 ·rw [List.take_of_length_le h2, List.take_of_length_le (by omega)]
theorem u8_eq {a b : UInt8} : ((a.toNat : Int) = (b.toNat : Int)) ↔ a = b := by rw [Int.natCast_inj]; exact UInt8.toNat_inj
theorem wrap_byte (a : UInt8) : IntKind.i64.wrap (a.toNat : Int) = (a.toNat : Int) := by have := a.toNat_lt; exact wrap_i64 (by omega)
theorem cutL_nth {c : UInt8} {s : Str} {i : Nat} (h : i < (cutL c [] s).length) : (nth (cutL c [] s) i).length ≤ s.length := by
 have := cutL_mem c s [] _ (nth_mem h); simpa using this
theorem spec_l1ParseCtor_fn {names : List Str} {s : Str} (hn : names.length ≤ 1000000000000) (hs : s.length ≤ 1000000) :
  FnD Try.prog 155 [.d (encStrs names), .d (.str s)] [] (.agg [.d (.str (parseCtor names s).name), .d (encTys (parseCtor names s).args), .d (.i (parseCtor names s).index)]) [] := by
 have hwb := wrap_byte (nth s (s.length - 1))
 have hwl := (nth s (s.length - 1)).toNat_lt
 by_cases hc : endsIx s
 ·have hc1 := hc.1
  have hct : (s.take (s.length - 2)).length = s.length - 2 := by rw [List.length_take]; omega
  have hcl := cutL_len 40 (s.take (s.length - 2)) []
  have hcp := cutL_pos 40 (s.take (s.length - 2)) []
  have hn1 := fun h => cutL_nth (c := 40) (s := s.take (s.length - 2)) (i := 1) h
  have hal := cutL_len 44 ((nth (cutL 40 [] (s.take (s.length - 2))) 1).take ((nth (cutL 40 [] (s.take (s.length - 2))) 1).length - 1)) []
  refine bd Try.f155 83 [] [2, 7] fun w0 F0 own kept hk => ?_
  refine Walk.alloc (id := 3004) tz82 rfl .none rfl rfl rfl rfl ?_
  refine tv ?_
  refine Walk.build st82 (ks := []) (xs := []) rfl rfl .none rfl rfl rfl ?_
  refine Walk.alloc (id := 3005) tz82 rfl .none rfl rfl rfl rfl ?_
  refine Walk.store ty82 .none rfl rfl rfl rfl rfl rfl (by simp) rfl ?_
  refine tv ?_
  refine CWp.regionJ ?_
  refine WRest.join 11 [(20, .d (.bool (true)))] [10, 11, 12, 13, 14, 15, 16, 17, 18, 19] ?_ ?_
  ·
   refine ev ?_
   refine sq (fun h1 h1p h1s => ?_) fun h1 h1p h1s => ?_
   ·try simp only [Q, List.length_take] at h1p
    refine ar ?_
    refine Walk.idxS (i := s.length - 2) un9 (.some rfl rfl h1) rfl rfl rfl (by omega) (str_at (by omega)) ?_
    refine evs [] [(13, true)] ?_ ⟨⟨_, rfl, h1⟩, trivial⟩
    exact jn rfl (LeA.eqb (by first | rfl | (exfalso; omega) | (exact decide_eq_true (congrArg (fun z : UInt8 => (z.toNat : Int)) hc.2)) | (exact decide_eq_false (fun hh => hc ⟨by omega, (u8_eq (b := 58)).1 hh⟩)) | (refine (decide_eq_true ?_).symm; omega) | (refine decide_eq_decide.2 ?_; omega)))
   ·try simp only [Q, List.length_take] at h1p
    exact jn rfl (LeA.eqb (by first | rfl | (exfalso; omega) | (exact decide_eq_true (congrArg (fun z : UInt8 => (z.toNat : Int)) hc.2)) | (exact decide_eq_false (fun hh => hc ⟨by omega, (u8_eq (b := 58)).1 hh⟩)) | (refine (decide_eq_true ?_).symm; omega) | (refine decide_eq_decide.2 ?_; omega)))
  refine WRest.done ?_
  refine tv ?_
  refine sq (fun h2 h2p h2s => ?_) fun h2 h2p h2s => ?_
  ·try simp only [Q, List.length_take] at h2p
   refine ar ?_
   refine Walk.idxS (i := s.length - 1) un9 .none rfl rfl rfl (by omega) (str_at (by omega)) ?_
   refine Walk.conv (by rw [un5]; rfl) un3 .none rfl rfl ?_
   refine ev ?_
   refine ar ?_
   refine Walk.store ty3 .none rfl rfl rfl rfl rfl rfl (by simp) rfl ?_
   refine tv ?_
   refine ar ?_
   refine Walk.cutS_h (b := s.length - 2) un9 .none rfl rfl rfl (by omega) (by omega) ?_
   refine ev ?_
   refine Walk.call (cr := []) cal154 (spec_l17Cut_fn (s := s.take (s.length - 2)) (c := 40) (by first | omega | (simp; omega))) rfl .none rfl rfl (LeL.refl _) trivial rfl rfl rfl ?_
   refine ev ?_
   refine Walk.idx (i := 0) sl136 .none rfl rfl rfl rfl (at_nth (by omega)) rfl ?_
   refine ev ?_
   refine Walk.store ty9 .none rfl rfl rfl rfl rfl rfl (by simp) rfl ?_
   refine tv ?_
   refine CWp.regionJ ?_
   refine WRest.join 10 [(49, .d (.bool (decide ((cutL 40 [] (s.take (s.length - 2))).length < 2 ∨ (nth (cutL 40 [] (s.take (s.length - 2))) 1).length = 0))))] [40, 41, 42, 43, 44, 45, 46, 47, 48] ?_ ?_
   ·
    refine ev ?_
    refine sq (fun h3 h3p h3s => ?_) fun h3 h3p h3s => ?_
    ·try simp only [Q, List.length_take] at h3p
     exact jn rfl (LeA.eqb (by first | rfl | (exfalso; omega) | (exact decide_eq_true (congrArg (fun z : UInt8 => (z.toNat : Int)) hc.2)) | (exact decide_eq_false (fun hh => hc ⟨by omega, (u8_eq (b := 58)).1 hh⟩)) | (refine (decide_eq_true ?_).symm; omega) | (refine decide_eq_decide.2 ?_; omega)))
    ·try simp only [Q, List.length_take] at h3p
     refine Walk.idx (i := 1) sl136 (.some rfl rfl h3) rfl rfl rfl rfl (at_nth (by omega)) rfl ?_
     refine evs [] [(43, false)] ?_ ⟨⟨_, rfl, h3⟩, trivial⟩
     exact jn rfl (LeA.eqb (by first | rfl | (exfalso; omega) | (exact decide_eq_true (congrArg (fun z : UInt8 => (z.toNat : Int)) hc.2)) | (exact decide_eq_false (fun hh => hc ⟨by omega, (u8_eq (b := 58)).1 hh⟩)) | (refine (decide_eq_true ?_).symm; omega) | (refine decide_eq_decide.2 ?_; omega)))
   refine WRest.done ?_
   refine tv ?_
   refine sq (fun h4 h4p h4s => ?_) fun h4 h4p h4s => ?_
   ·try simp only [Q, List.length_take] at h4p
    refine Walk.store ty82 .none rfl rfl rfl rfl rfl rfl (by simp) rfl ?_
    refine tv ?_
    refine rn0 (.cons (.cellA ty82 rfl rfl rfl) .nil) (.agg (.cons (.eqd ?_) (.cons (.nild ?_) (.cons (.eqd ?_) .nil))))
    all_goals (unfold parseCtor; rw [if_pos hc]; first | rfl | (rw [hwb]; done) | (rw [hwb]; rfl) | (unfold ctorOf; dsimp only; by_cases hq : (cutL 40 [] (s.take (s.length - 2))).length < 2 ∨ (nth (cutL 40 [] (s.take (s.length - 2))) 1).length = 0; all_goals first | (exfalso; exact (of_decide_eq_false h4) hq) | (exfalso; exact hq (of_decide_eq_true h4)) | (rw [if_pos hq]; done) | (rw [if_pos hq]; rfl) | (rw [if_neg hq, ← List.map_take, take_four (by omega)]; done)))
   ·try simp only [Q, List.length_take] at h4p
    refine Walk.idx (i := 1) sl136 .none rfl rfl rfl rfl (at_nth (by omega)) rfl ?_
    refine evd [] [] ?_
    refine Walk.idx (i := 1) sl136 .none rfl rfl rfl rfl (at_nth (by omega)) rfl ?_
    refine evd [] [] ?_
    refine ar ?_
    refine Walk.cutS_h (b := (nth (cutL 40 [] (s.take (s.length - 2))) 1).length - 1) un9 .none rfl rfl rfl (by omega) (by omega) ?_
    refine Walk.call (cr := []) cal154 (spec_l17Cut_fn (s := (nth (cutL 40 [] (s.take (s.length - 2))) 1).take ((nth (cutL 40 [] (s.take (s.length - 2))) 1).length - 1)) (c := 44) (by simp; omega)) rfl .none rfl rfl (LeL.refl _) trivial rfl rfl rfl ?_
    refine evd [] [] ?_
    refine dr ?_
    refine CWp.tokB 3005 1 1 2 rfl rfl rfl rfl ?_
    refine CWp.loopX (ι := Nat) hk (fun i => [(8, .d (.i (i : Int)))]) [61, 62, 63, 64, 65, 66, 67, 68, 69, 70, 71, 72, 73, 74, 75, 76, 77, 78, 79, 80, 81] (fun i => [(3005, some (.box [.d (.str (nth (cutL 40 [] (s.take (s.length - 2))) 0)), .gl 1 (((((cutL 44 [] ((nth (cutL 40 [] (s.take (s.length - 2))) 1).take ((nth (cutL 40 [] (s.take (s.length - 2))) 1).length - 1))).map (parseTy names)).take i)).map Ty.c), .d (.i (((nth s (s.length - 1)).toNat : Int) - 48))])), (1, some (.tok (((((cutL 44 [] ((nth (cutL 40 [] (s.take (s.length - 2))) 1).take ((nth (cutL 40 [] (s.take (s.length - 2))) 1).length - 1))).map (parseTy names)).take i)).map Ty.c).length 2))]) (fun i => i ≤ 4 ∧ i ≤ (cutL 44 [] ((nth (cutL 40 [] (s.take (s.length - 2))) 1).take ((nth (cutL 40 [] (s.take (s.length - 2))) 1).length - 1))).length) (fun i => 4 - i) 0 ⟨by omega, by omega⟩ ⟨⟨_, rfl, (LeA.eqi (by first | rfl | (simp; done) | (simp_all; done) | omega))⟩, trivial⟩ ⟨(by first | rfl | (simp [getH]; done) | (show some (Res.box _) = some (Res.box _); rw [hwb]; rfl) | (show some (Res.box _) = some (Res.box _); rw [map_take_next (by omega)]; simp; done)), ⟨beq_nat_eq (by first | rfl | (simp; done) | (simp; omega) | (first | rfl | (simp; done) | (simp_all; done) | omega)), trivial⟩⟩ (fun x => rfl) (fun i hg1 => ?_)
    refine evc [] [2, 7] ?_
    refine sq (fun h5 h5p h5s => ?_) fun h5 h5p h5s => ?_
    ·try simp only [Q, List.length_take] at h5p
     refine sq (fun h6 h6p h6s => ?_) fun h6 h6p h6s => ?_
     ·try simp only [Q, List.length_take] at h6p
      refine Walk.idx sl136 .none rfl rfl rfl rfl (at_nth (by omega)) rfl ?_
      refine evd [] [] ?_
      refine Walk.call (cr := []) cal175 (spec_l1ParseType_fn (names := names) (s := nth (cutL 44 [] ((nth (cutL 40 [] (s.take (s.length - 2))) 1).take ((nth (cutL 40 [] (s.take (s.length - 2))) 1).length - 1))) i) hn (by have := cutL_nth (c := 44) (s := (nth (cutL 40 [] (s.take (s.length - 2))) 1).take ((nth (cutL 40 [] (s.take (s.length - 2))) 1).length - 1)) (i := i) (by omega); simp at this; omega)) rfl .none rfl rfl (LeL.refl _) trivial rfl rfl rfl ?_
      refine Walk.sliceLit sl25 tz31 rfl (by decide) (ks := [0]) (xs := [_]) rfl rfl (by decide) (by decide) .none rfl rfl rfl rfl ?_
      refine Walk.append sl25 zz31 rfl .none rfl rfl rfl rfl (htokL rfl (by first | rfl | (simp; done) | (simp; omega))) (by simp) (by simp; omega) (by simp; omega) ?_
      refine evd [] [] ?_
      refine Walk.store ty25 .none rfl rfl rfl rfl rfl rfl (by simp) rfl ?_
      refine dr ?_
      refine ar ?_
      refine Exists.intro (i + 1) ⟨⟨by omega, by omega⟩, (by omega), Sub.x (by kernel_rfl) (by kernel_rfl) ⟨⟨_, rfl, (LeA.eqi (by first | rfl | (simp; done) | (simp_all; done) | omega))⟩, trivial⟩ (by kernel_rfl) (by kernel_rfl) ⟨(by first | rfl | (simp [getH]; done) | (show some (Res.box _) = some (Res.box _); rw [hwb]; rfl) | (show some (Res.box _) = some (Res.box _); rw [map_take_next (by omega)]; simp; done)), ⟨beq_nat_eq (by first | rfl | (simp; done) | (simp; omega) | (first | rfl | (simp; done) | (simp_all; done) | omega)), trivial⟩⟩⟩
     ·try simp only [Q, List.length_take] at h6p
      refine Walk.store ty82 .none rfl rfl rfl rfl rfl rfl (by simp) rfl ?_
      refine tv ?_
      refine rn0 (.cons (.cellA ty82 rfl rfl rfl) .nil) (.agg (.cons (.eqd ?_) (.cons (.gld ?_) (.cons (.eqd ?_) .nil))))
      all_goals (unfold parseCtor; rw [if_pos hc]; first | rfl | (rw [hwb]; done) | (rw [hwb]; rfl) | (unfold ctorOf; dsimp only; by_cases hq : (cutL 40 [] (s.take (s.length - 2))).length < 2 ∨ (nth (cutL 40 [] (s.take (s.length - 2))) 1).length = 0; all_goals first | (exfalso; exact (of_decide_eq_false h4) hq) | (exfalso; exact hq (of_decide_eq_true h4)) | (rw [if_pos hq]; done) | (rw [if_pos hq]; rfl) | (rw [if_neg hq, ← List.map_take, take_four (by omega)]; done)))
    ·try simp only [Q, List.length_take] at h5p
     refine sqF ?_
     refine Walk.store ty82 .none rfl rfl rfl rfl rfl rfl (by simp) rfl ?_
     refine tv ?_
     refine rn0 (.cons (.cellA ty82 rfl rfl rfl) .nil) (.agg (.cons (.eqd ?_) (.cons (.gld ?_) (.cons (.eqd ?_) .nil))))
     all_goals (unfold parseCtor; rw [if_pos hc]; first | rfl | (rw [hwb]; done) | (rw [hwb]; rfl) | (unfold ctorOf; dsimp only; by_cases hq : (cutL 40 [] (s.take (s.length - 2))).length < 2 ∨ (nth (cutL 40 [] (s.take (s.length - 2))) 1).length = 0; all_goals first | (exfalso; exact (of_decide_eq_false h4) hq) | (exfalso; exact hq (of_decide_eq_true h4)) | (rw [if_pos hq]; done) | (rw [if_pos hq]; rfl) | (rw [if_neg hq, ← List.map_take, take_four (by omega)]; done)))
  ·try simp only [Q, List.length_take] at h2p
   exact absurd h2 (by simp) --stop
 ·skip
  have hcl := cutL_len 40 (s) []
  have hcp := cutL_pos 40 (s) []
  have hn1 := fun h => cutL_nth (c := 40) (s := s) (i := 1) h
  have hal := cutL_len 44 ((nth (cutL 40 [] (s)) 1).take ((nth (cutL 40 [] (s)) 1).length - 1)) []
  refine bd Try.f155 83 [] [2, 7] fun w0 F0 own kept hk => ?_
  refine Walk.alloc (id := 3004) tz82 rfl .none rfl rfl rfl rfl ?_
  refine tv ?_
  refine Walk.build st82 (ks := []) (xs := []) rfl rfl .none rfl rfl rfl ?_
  refine Walk.alloc (id := 3005) tz82 rfl .none rfl rfl rfl rfl ?_
  refine Walk.store ty82 .none rfl rfl rfl rfl rfl rfl (by simp) rfl ?_
  refine tv ?_
  refine CWp.regionJ ?_
  refine WRest.join 11 [(20, .d (.bool (false)))] [10, 11, 12, 13, 14, 15, 16, 17, 18, 19] ?_ ?_
  ·
   refine ev ?_
   refine sq (fun h1 h1p h1s => ?_) fun h1 h1p h1s => ?_
   ·try simp only [Q, List.length_take] at h1p
    refine ar ?_
    refine Walk.idxS (i := s.length - 2) un9 (.some rfl rfl h1) rfl rfl rfl (by omega) (str_at (by omega)) ?_
    refine evs [] [(13, true)] ?_ ⟨⟨_, rfl, h1⟩, trivial⟩
    exact jn rfl (LeA.eqb (by first | rfl | (exfalso; omega) | (exact decide_eq_true (congrArg (fun z : UInt8 => (z.toNat : Int)) hc.2)) | (exact decide_eq_false (fun hh => hc ⟨by omega, (u8_eq (b := 58)).1 hh⟩)) | (refine (decide_eq_true ?_).symm; omega) | (refine decide_eq_decide.2 ?_; omega)))
   ·try simp only [Q, List.length_take] at h1p
    exact jn rfl (LeA.eqb (by first | rfl | (exfalso; omega) | (exact decide_eq_true (congrArg (fun z : UInt8 => (z.toNat : Int)) hc.2)) | (exact decide_eq_false (fun hh => hc ⟨by omega, (u8_eq (b := 58)).1 hh⟩)) | (refine (decide_eq_true ?_).symm; omega) | (refine decide_eq_decide.2 ?_; omega)))
  refine WRest.done ?_
  refine tv ?_
  refine sq (fun h2 h2p h2s => ?_) fun h2 h2p h2s => ?_
  ·try simp only [Q, List.length_take] at h2p
   exact absurd h2 (by simp) --stop
  ·try simp only [Q, List.length_take] at h2p
   refine Walk.call (cr := []) cal154 (spec_l17Cut_fn (s := s) (c := 40) (by first | omega | (simp; omega))) rfl .none rfl rfl (LeL.refl _) trivial rfl rfl rfl ?_
   refine ev ?_
   refine Walk.idx (i := 0) sl136 .none rfl rfl rfl rfl (at_nth (by omega)) rfl ?_
   refine ev ?_
   refine Walk.store ty9 .none rfl rfl rfl rfl rfl rfl (by simp) rfl ?_
   refine tv ?_
   refine CWp.regionJ ?_
   refine WRest.join 10 [(49, .d (.bool (decide ((cutL 40 [] (s)).length < 2 ∨ (nth (cutL 40 [] (s)) 1).length = 0))))] [40, 41, 42, 43, 44, 45, 46, 47, 48] ?_ ?_
   ·
    refine ev ?_
    refine sq (fun h3 h3p h3s => ?_) fun h3 h3p h3s => ?_
    ·try simp only [Q, List.length_take] at h3p
     exact jn rfl (LeA.eqb (by first | rfl | (exfalso; omega) | (exact decide_eq_true (congrArg (fun z : UInt8 => (z.toNat : Int)) hc.2)) | (exact decide_eq_false (fun hh => hc ⟨by omega, (u8_eq (b := 58)).1 hh⟩)) | (refine (decide_eq_true ?_).symm; omega) | (refine decide_eq_decide.2 ?_; omega)))
    ·try simp only [Q, List.length_take] at h3p
     refine Walk.idx (i := 1) sl136 (.some rfl rfl h3) rfl rfl rfl rfl (at_nth (by omega)) rfl ?_
     refine evs [] [(43, false)] ?_ ⟨⟨_, rfl, h3⟩, trivial⟩
     exact jn rfl (LeA.eqb (by first | rfl | (exfalso; omega) | (exact decide_eq_true (congrArg (fun z : UInt8 => (z.toNat : Int)) hc.2)) | (exact decide_eq_false (fun hh => hc ⟨by omega, (u8_eq (b := 58)).1 hh⟩)) | (refine (decide_eq_true ?_).symm; omega) | (refine decide_eq_decide.2 ?_; omega)))
   refine WRest.done ?_
   refine tv ?_
   refine sq (fun h4 h4p h4s => ?_) fun h4 h4p h4s => ?_
   ·try simp only [Q, List.length_take] at h4p
    refine Walk.store ty82 .none rfl rfl rfl rfl rfl rfl (by simp) rfl ?_
    refine tv ?_
    refine rn0 (.cons (.cellA ty82 rfl rfl rfl) .nil) (.agg (.cons (.eqd ?_) (.cons (.nild ?_) (.cons (.eqd ?_) .nil))))
    all_goals (unfold parseCtor; rw [if_neg hc]; first | rfl | (rw [hwb]; done) | (rw [hwb]; rfl) | (unfold ctorOf; dsimp only; by_cases hq : (cutL 40 [] (s)).length < 2 ∨ (nth (cutL 40 [] (s)) 1).length = 0; all_goals first | (exfalso; exact (of_decide_eq_false h4) hq) | (exfalso; exact hq (of_decide_eq_true h4)) | (rw [if_pos hq]; done) | (rw [if_pos hq]; rfl) | (rw [if_neg hq, ← List.map_take, take_four (by omega)]; done)))
   ·try simp only [Q, List.length_take] at h4p
    refine Walk.idx (i := 1) sl136 .none rfl rfl rfl rfl (at_nth (by omega)) rfl ?_
    refine evd [] [] ?_
    refine Walk.idx (i := 1) sl136 .none rfl rfl rfl rfl (at_nth (by omega)) rfl ?_
    refine evd [] [] ?_
    refine ar ?_
    refine Walk.cutS_h (b := (nth (cutL 40 [] (s)) 1).length - 1) un9 .none rfl rfl rfl (by omega) (by omega) ?_
    refine Walk.call (cr := []) cal154 (spec_l17Cut_fn (s := (nth (cutL 40 [] (s)) 1).take ((nth (cutL 40 [] (s)) 1).length - 1)) (c := 44) (by simp; omega)) rfl .none rfl rfl (LeL.refl _) trivial rfl rfl rfl ?_
    refine evd [] [] ?_
    refine dr ?_
    refine CWp.tokB 3005 1 1 2 rfl rfl rfl rfl ?_
    refine CWp.loopX (ι := Nat) hk (fun i => [(8, .d (.i (i : Int)))]) [61, 62, 63, 64, 65, 66, 67, 68, 69, 70, 71, 72, 73, 74, 75, 76, 77, 78, 79, 80, 81] (fun i => [(3005, some (.box [.d (.str (nth (cutL 40 [] (s)) 0)), .gl 1 (((((cutL 44 [] ((nth (cutL 40 [] (s)) 1).take ((nth (cutL 40 [] (s)) 1).length - 1))).map (parseTy names)).take i)).map Ty.c), .d (.i (0))])), (1, some (.tok (((((cutL 44 [] ((nth (cutL 40 [] (s)) 1).take ((nth (cutL 40 [] (s)) 1).length - 1))).map (parseTy names)).take i)).map Ty.c).length 2))]) (fun i => i ≤ 4 ∧ i ≤ (cutL 44 [] ((nth (cutL 40 [] (s)) 1).take ((nth (cutL 40 [] (s)) 1).length - 1))).length) (fun i => 4 - i) 0 ⟨by omega, by omega⟩ ⟨⟨_, rfl, (LeA.eqi (by first | rfl | (simp; done) | (simp_all; done) | omega))⟩, trivial⟩ ⟨(by first | rfl | (simp [getH]; done) | (show some (Res.box _) = some (Res.box _); rw [hwb]; rfl) | (show some (Res.box _) = some (Res.box _); rw [map_take_next (by omega)]; simp; done)), ⟨beq_nat_eq (by first | rfl | (simp; done) | (simp; omega) | (first | rfl | (simp; done) | (simp_all; done) | omega)), trivial⟩⟩ (fun x => rfl) (fun i hg1 => ?_)
    refine evc [] [2, 7] ?_
    refine sq (fun h5 h5p h5s => ?_) fun h5 h5p h5s => ?_
    ·try simp only [Q, List.length_take] at h5p
     refine sq (fun h6 h6p h6s => ?_) fun h6 h6p h6s => ?_
     ·try simp only [Q, List.length_take] at h6p
      refine Walk.idx sl136 .none rfl rfl rfl rfl (at_nth (by omega)) rfl ?_
      refine evd [] [] ?_
      refine Walk.call (cr := []) cal175 (spec_l1ParseType_fn (names := names) (s := nth (cutL 44 [] ((nth (cutL 40 [] (s)) 1).take ((nth (cutL 40 [] (s)) 1).length - 1))) i) hn (by have := cutL_nth (c := 44) (s := (nth (cutL 40 [] (s)) 1).take ((nth (cutL 40 [] (s)) 1).length - 1)) (i := i) (by omega); simp at this; omega)) rfl .none rfl rfl (LeL.refl _) trivial rfl rfl rfl ?_
      refine Walk.sliceLit sl25 tz31 rfl (by decide) (ks := [0]) (xs := [_]) rfl rfl (by decide) (by decide) .none rfl rfl rfl rfl ?_
      refine Walk.append sl25 zz31 rfl .none rfl rfl rfl rfl (htokL rfl (by first | rfl | (simp; done) | (simp; omega))) (by simp) (by simp; omega) (by simp; omega) ?_
      refine evd [] [] ?_
      refine Walk.store ty25 .none rfl rfl rfl rfl rfl rfl (by simp) rfl ?_
      refine dr ?_
      refine ar ?_
      refine Exists.intro (i + 1) ⟨⟨by omega, by omega⟩, (by omega), Sub.x (by kernel_rfl) (by kernel_rfl) ⟨⟨_, rfl, (LeA.eqi (by first | rfl | (simp; done) | (simp_all; done) | omega))⟩, trivial⟩ (by kernel_rfl) (by kernel_rfl) ⟨(by first | rfl | (simp [getH]; done) | (show some (Res.box _) = some (Res.box _); rw [hwb]; rfl) | (show some (Res.box _) = some (Res.box _); rw [map_take_next (by omega)]; simp; done)), ⟨beq_nat_eq (by first | rfl | (simp; done) | (simp; omega) | (first | rfl | (simp; done) | (simp_all; done) | omega)), trivial⟩⟩⟩
     ·try simp only [Q, List.length_take] at h6p
      refine Walk.store ty82 .none rfl rfl rfl rfl rfl rfl (by simp) rfl ?_
      refine tv ?_
      refine rn0 (.cons (.cellA ty82 rfl rfl rfl) .nil) (.agg (.cons (.eqd ?_) (.cons (.gld ?_) (.cons (.eqd ?_) .nil))))
      all_goals (unfold parseCtor; rw [if_neg hc]; first | rfl | (rw [hwb]; done) | (rw [hwb]; rfl) | (unfold ctorOf; dsimp only; by_cases hq : (cutL 40 [] (s)).length < 2 ∨ (nth (cutL 40 [] (s)) 1).length = 0; all_goals first | (exfalso; exact (of_decide_eq_false h4) hq) | (exfalso; exact hq (of_decide_eq_true h4)) | (rw [if_pos hq]; done) | (rw [if_pos hq]; rfl) | (rw [if_neg hq, ← List.map_take, take_four (by omega)]; done)))
    ·try simp only [Q, List.length_take] at h5p
     refine sqF ?_
     refine Walk.store ty82 .none rfl rfl rfl rfl rfl rfl (by simp) rfl ?_
     refine tv ?_
     refine rn0 (.cons (.cellA ty82 rfl rfl rfl) .nil) (.agg (.cons (.eqd ?_) (.cons (.gld ?_) (.cons (.eqd ?_) .nil))))
     all_goals (unfold parseCtor; rw [if_neg hc]; first | rfl | (rw [hwb]; done) | (rw [hwb]; rfl) | (unfold ctorOf; dsimp only; by_cases hq : (cutL 40 [] (s)).length < 2 ∨ (nth (cutL 40 [] (s)) 1).length = 0; all_goals first | (exfalso; exact (of_decide_eq_false h4) hq) | (exfalso; exact hq (of_decide_eq_true h4)) | (rw [if_pos hq]; done) | (rw [if_pos hq]; rfl) | (rw [if_neg hq, ← List.map_take, take_four (by omega)]; done)))
def decV (n : Int) : Str := strN [IntKind.u8.wrap (48 + n)]
theorem decV_len (n : Int) : (decV n).length = 1 := rfl
def ixText (n : Int) : Str := if n = 0 then [] else if n = -1 then [42] else decV n
theorem ixText_len (n : Int) : (ixText n).length ≤ 1 := by unfold ixText; split; simp; split; simp; rw [decV_len]; omega
def tyText (w : List Data) (t : Ty) : Str := if t.data = -1 then [73] else (nth w t.data.toNat).name ++ ixText t.index
def argsFrom (w : List Data) : Bool → List Ty → Str
 | _, [] => []
 | b, t :: r => ((if b then [40] else [44]) ++ tyText w t) ++ argsFrom w false r
def ctorText (w : List Data) (c : Ctor) : Str :=
 let o := c.name ++ argsFrom w true c.args
 let p := if 0 < c.args.length then o ++ [41] else o
 if 0 < c.index then (p ++ [58]) ++ decV c.index else p
def ctsFrom (w : List Data) : Bool → List Ctor → Str
 | _, [] => []
 | b, c :: r => ((if b then [] else [124]) ++ ctorText w c) ++ ctsFrom w false r
def dsFrom (w : List Data) : Bool → List Data → Str
 | _, [] => []
 | b, d :: r => ((if b then [] else [59]) ++ (d.name ++ [61]) ++ ctsFrom w true d.ctors) ++ dsFrom w false r
def worldText (w : List Data) : Str := dsFrom w true w
structure TB (w : List Data) : Prop where
 len : w.length ≤ 4
 dn : ∀ d ∈ w, d.name.length ≤ 1 ∧ d.ctors.length ≤ 4
 cn : ∀ d ∈ w, ∀ c ∈ d.ctors, c.name.length ≤ 5 ∧ c.args.length ≤ 3 ∧ 0 ≤ c.index ∧ c.index ≤ 3
 ar : ∀ d ∈ w, ∀ c ∈ d.ctors, ∀ t ∈ c.args, (t.data = -1 ∨ (0 ≤ t.data ∧ t.data.toNat < w.length)) ∧ -1 ≤ t.index ∧ t.index ≤ 3
theorem valid_tb {w : List Data} (hv : worldValid w = true) : TB w := by
 have hW := (worldValid_iff w).1 hv
 refine ⟨hW.len, fun d hd => ?_, fun d hd c hc => ?_, fun d hd c hc t ht => ?_⟩
 ·have h := hW.data d hd
  have h1 := h.1
  simp only [dataNameOk, Bool.and_eq_true, decide_eq_true_eq] at h1
  omega
 ·have h := hW.ctor d hd c hc
  simp only [ctorOk, nameValid, within, Bool.and_eq_true, decide_eq_true_eq] at h
  omega
 ·have h := hW.ctor d hd c hc
  simp only [ctorOk, Bool.and_eq_true, Bool.not_eq_true', List.any_eq_false] at h
  have hax : argOk w.length t = true := by
   have := h.2.2.2 t ht
   cases h : argOk w.length t with
   | true => rfl
   | false => rw [h] at this; exact absurd rfl this
  simp only [argOk, within, Bool.or_eq_true, Bool.and_eq_true, decide_eq_true_eq, and_true] at hax
  omega
theorem tyText_len {w : List Data} (hb : TB w) {t : Ty} (ht : t.data = -1 ∨ (0 ≤ t.data ∧ t.data.toNat < w.length)) : (tyText w t).length ≤ 2 := by
 unfold tyText
 split
 ·simp
 ·rename_i h
  have h1 := (hb.dn _ (nth_mem (l := w) (i := t.data.toNat) (by omega))).1
  have h2 := ixText_len t.index
  simp only [List.length_append]; omega
theorem argsFrom_len {w : List Data} (hb : TB w) : ∀ (l : List Ty) (b : Bool), (∀ t ∈ l, t.data = -1 ∨ (0 ≤ t.data ∧ t.data.toNat < w.length)) → (argsFrom w b l).length ≤ 3 * l.length
 | [], _, _ => by simp [argsFrom]
 | t :: r, b, h => by
  have h1 := tyText_len hb (h t (by simp))
  have h2 := argsFrom_len hb r false (fun x hx => h x (by simp [hx]))
  simp only [argsFrom, List.length_append, List.length_cons]
  have h3 : (if b = true then [(40 : UInt8)] else [44]).length = 1 := by split <;> rfl
  omega
theorem ctorText_len {w : List Data} (hb : TB w) {c : Ctor} (h1 : c.name.length ≤ 5 ∧ c.args.length ≤ 3) (h2 : ∀ t ∈ c.args, t.data = -1 ∨ (0 ≤ t.data ∧ t.data.toNat < w.length)) : (ctorText w c).length ≤ 20 := by
 have h3 := argsFrom_len hb c.args true h2
 unfold ctorText
 dsimp only
 have h4 := decV_len c.index
 split <;> split <;> simp only [List.length_append, List.length_cons, List.length_nil] <;> omega
theorem ctsFrom_len {w : List Data} : ∀ (l : List Ctor) (b : Bool), (∀ c ∈ l, (ctorText w c).length ≤ 20) → (ctsFrom w b l).length ≤ 21 * l.length
 | [], _, _ => by simp [ctsFrom]
 | c :: r, b, h => by
  have h1 := h c (by simp)
  have h2 := ctsFrom_len r false (fun x hx => h x (by simp [hx]))
  simp only [ctsFrom, List.length_append, List.length_cons]
  have h3 : (if b = true then ([] : Str) else [124]).length ≤ 1 := by split <;> simp
  omega
theorem spec_l17Dec_fn {n : Int} (h0 : 0 ≤ n) (h9 : n ≤ 9) : FnD Try.prog 183 [.d (.i n)] [] (.d (.str (decV n))) [] := by
 refine bd Try.f183 31 [30] [] fun w0 F0 own kept hk => ?_
 refine sq (fun h1 h1p h1s => ?_) fun h1 h1p h1s => ?_
 ·try simp only [Q] at h1p
  exfalso; omega --stop
 ·try simp only [Q] at h1p
  refine sq (fun h2 h2p h2s => ?_) fun h2 h2p h2s => ?_
  ·try simp only [Q] at h2p
   exfalso; omega --stop
  ·try simp only [Q] at h2p
   refine CWp.loopX (ι := Unit) hk (fun x => [(0, .d (.i n)), (3, .d (.str []))]) [12, 13, 14, 15, 16, 17, 18, 19, 20, 21, 22, 23] (fun x => []) (fun x => True) (fun x => 0) () trivial ⟨⟨_, rfl, (LeA.eqi (by first | rfl | (simp; done) | (simp_all; done) | omega))⟩, ⟨⟨_, rfl, (LeA.eqs (by first | rfl | (simp; done) | (simp_all; done) | omega))⟩, trivial⟩⟩ trivial (fun x => rfl) (fun x hg1 => ?_)
   refine evc [30] [] ?_
   refine sq (fun h3 h3p h3s => ?_) fun h3 h3p h3s => ?_
   ·try simp only [Q] at h3p
    exfalso; omega --stop
   ·try simp only [Q] at h3p
    refine ar ?_
    refine Walk.conv (by rw [un3]; rfl) un5 .none rfl rfl ?_
    refine Walk.sliceLit sl22 tz5 rfl (by decide) (ks := [0]) (xs := [_]) rfl rfl (by decide) (by decide) .none rfl rfl rfl rfl ?_
    refine Walk.bytesStr sl22 un9 (by kernel_rfl) .none rfl rfl rfl (by first | rfl | exact numsD_enc _) ?_
    refine evs [30] [] ?_
    refine Walk.catS .none rfl rfl rfl (by simp [strN]) ?_
    refine evs [30] [] ?_
    refine rn0 (r1 rfl) (.eqd ?_)
    all_goals (first | rfl | (refine congrArg D.str ?_; unfold decV; rw [List.append_nil]; done) | (simp [decV]; done))
theorem spec_l1Index_fn {n : Int} (h0 : -1 ≤ n) (h9 : n ≤ 9) : FnD Try.prog 187 [.d (.i n)] [] (.d (.str (ixText n))) [] := by
 refine bd Try.f187 10 [] [] fun w0 F0 own kept hk => ?_
 refine sq (fun h1 h1p h1s => ?_) fun h1 h1p h1s => ?_
 ·try simp only [Q] at h1p
  refine rn0 (r1 rfl) (.eqd ?_)
  all_goals (refine congrArg D.str ?_; unfold ixText; first | (rw [if_pos (by omega)]; done) | (rw [if_neg (by omega), if_pos (by omega)]; done) | (rw [if_neg (by omega), if_neg (by omega)]; done) | (rw [if_pos (by omega)]; rfl) | (rw [if_neg (by omega), if_pos (by omega)]; rfl))
 ·try simp only [Q] at h1p
  refine sq (fun h2 h2p h2s => ?_) fun h2 h2p h2s => ?_
  ·try simp only [Q] at h2p
   refine rn0 (r1 rfl) (.eqd ?_)
   all_goals (refine congrArg D.str ?_; unfold ixText; first | (rw [if_pos (by omega)]; done) | (rw [if_neg (by omega), if_pos (by omega)]; done) | (rw [if_neg (by omega), if_neg (by omega)]; done) | (rw [if_pos (by omega)]; rfl) | (rw [if_neg (by omega), if_pos (by omega)]; rfl))
  ·try simp only [Q] at h2p
   refine Walk.call (cr := []) cal183 (spec_l17Dec_fn (by omega) (by omega)) rfl .none rfl rfl (LeL.refl _) trivial rfl rfl rfl ?_
   refine ev ?_
   refine rn0 (r1 rfl) (.eqd ?_)
   all_goals (refine congrArg D.str ?_; unfold ixText; first | (rw [if_pos (by omega)]; done) | (rw [if_neg (by omega), if_pos (by omega)]; done) | (rw [if_neg (by omega), if_neg (by omega)]; done) | (rw [if_pos (by omega)]; rfl) | (rw [if_neg (by omega), if_pos (by omega)]; rfl))
theorem spec_l1Type_fn {w : List Data} (hb : TB w) {a k : Int} (ha : a = -1 ∨ (0 ≤ a ∧ a.toNat < w.length)) (hk : -1 ≤ k ∧ k ≤ 3) : FnD Try.prog 182 [.d (encDatas w), .agg [.d (.i a), .d (.i k)]] [] (.d (.str (tyText w ⟨a, k⟩))) [] := by
 have hl := ixText_len k
 have hdn : a ≠ -1 → (nth w a.toNat).name.length ≤ 1 := fun h => (hb.dn _ (nth_mem (l := w) (i := a.toNat) (by omega))).1
 refine bd Try.f182 18 [17] [] fun w0 F0 own kept hk => ?_
 refine Walk.box (id := 3003) .none rfl rfl rfl rfl rfl rfl rfl ?_
 refine evs [17] [] ?_
 refine sq (fun h1 h1p h1s => ?_) fun h1 h1p h1s => ?_
 ·try simp only [Q] at h1p
  refine rn0 (r1 rfl) (.eqd ?_)
  all_goals (refine congrArg D.str ?_; unfold tyText; first | (rw [if_pos (by assumption)]; done) | (rw [if_neg (by assumption)]; done) | (rw [if_pos (by assumption)]; rfl))
 ·try simp only [Q] at h1p
  refine Walk.idx (i := a.toNat) sl23 .none rfl rfl rfl (by omega) (at_nth (by omega)) rfl ?_
  refine evd [17] [] ?_
  refine Walk.call (cr := []) cal187 (spec_l1Index_fn (by omega) (by omega)) rfl .none rfl rfl (LeL.refl _) trivial rfl rfl rfl ?_
  refine Walk.catS .none rfl rfl rfl (by have := hdn h1p; omega) ?_
  refine evd [17] [] ?_
  refine dr ?_
  refine rn0 (r1 rfl) (.eqd ?_)
  all_goals (refine congrArg D.str ?_; unfold tyText; first | (rw [if_pos (by assumption)]; done) | (rw [if_neg (by assumption)]; done) | (rw [if_pos (by assumption)]; rfl))
theorem spec_l1CtorText_fn {w : List Data} (hb : TB w) {s : Str} {l : List Ty} {k : Int} (hs : s.length ≤ 5) (hl : l.length ≤ 3) (hk : 0 ≤ k ∧ k ≤ 3)
  (hl2 : ∀ t ∈ l, (t.data = -1 ∨ (0 ≤ t.data ∧ t.data.toNat < w.length)) ∧ -1 ≤ t.index ∧ t.index ≤ 3) :
  FnD Try.prog 176 [.d (encDatas w), .agg [.d (.str s), .d (encTys l), .d (.i k)]] [] (.d (.str (ctorText w ⟨s, l, k⟩))) [] := by
 have hall := argsFrom_len hb l true (fun t ht => (hl2 t ht).1)
 have hdl := decV_len k
 refine bd Try.f176 47 [19, 21, 30, 36, 41, 45] [] fun w0 F0 own kept hk => ?_
 refine Walk.box (id := 3003) .none rfl rfl rfl rfl rfl rfl rfl ?_
 refine evs [19, 21, 30, 36, 41, 45] [] ?_
 refine CWp.loopX (ι := List (Ty) × List (Ty) × (Str)) hk (fun x => [(6, .d (.i (x.1.length : Int))), (5, .d (.str x.2.2))]) [9, 10, 11, 12, 13, 14, 15, 16, 17, 18, 19, 20, 21, 22, 23, 24, 25, 26, 27, 28, 29, 30] (fun x => []) (fun x => x.1 ++ x.2.1 = l ∧ x.2.2.length ≤ 5 + 3 * x.1.length ∧ x.2.2 ++ argsFrom w (decide (x.1.length = 0)) x.2.1 = s ++ argsFrom w true l) (fun x => x.2.1.length) ([], l, s) ⟨by simp, by simp; omega, by simp⟩ ⟨⟨_, rfl, (LeA.eqi (by first | rfl | (simp; done) | omega | (dsimp only; rw [if_pos (by omega), List.append_assoc]; done) | (dsimp only; rw [if_neg (by omega), List.append_assoc]; done)))⟩, ⟨⟨_, rfl, (LeA.eqs (by first | rfl | (simp; done) | omega | (dsimp only; rw [if_pos (by omega), List.append_assoc]; done) | (dsimp only; rw [if_neg (by omega), List.append_assoc]; done)))⟩, trivial⟩⟩ trivial (fun x => rfl) (fun x hg1 => ?_)
 obtain ⟨pre, rest, o⟩ := x
 dsimp only at hg1 ⊢
 refine evc [19, 21, 30, 36, 41, 45] [] ?_
 refine sq (fun h1 h1p h1s => ?_) fun h1 h1p h1s => ?_
 ·try simp only [Q] at h1p
  rcases rest with _ | ⟨y, rest⟩
  ·exfalso; simp_all
  have hq : (tyText w ⟨y.data, y.index⟩).length ≤ 2 := tyText_len hb (hl2 y (by rw [← hg1.1]; simp)).1
  refine sq (fun h2 h2p h2s => ?_) fun h2 h2p h2s => ?_
  ·try simp only [Q] at h2p
   refine Walk.catS .none rfl rfl rfl (by have hz := congrArg List.length hg1.1; simp only [List.length_append, List.length_cons, List.length_nil] at hz ⊢; omega) ?_
   refine evs [19, 21, 30, 36, 41, 45] [] ?_
   refine Walk.idx sl25 .none rfl rfl rfl rfl (zip_at hg1.1) rfl ?_
   refine evs [19, 21, 30, 36, 41, 45] [] ?_
   refine Walk.call (cr := []) cal182 (spec_l1Type_fn hb (a := y.data) (k := y.index) (hl2 y (by rw [← hg1.1]; simp)).1 (hl2 y (by rw [← hg1.1]; simp)).2) rfl .none rfl rfl (LeL.refl _) trivial rfl rfl rfl ?_
   refine Walk.catS .none rfl rfl rfl (by have hz := congrArg List.length hg1.1; simp only [List.length_append, List.length_cons, List.length_nil] at hz ⊢; omega) ?_
   refine evs [19, 21, 30, 36, 41, 45] [] ?_
   refine ar ?_
   refine Exists.intro ((pre ++ [y], rest, o ++ ((if pre.length = 0 then [40] else [44]) ++ tyText w y))) ⟨⟨(by have hz := hg1.1; rw [← hz]; simp), ⟨(by have hq := tyText_len hb (hl2 y (by rw [← hg1.1]; simp)).1; have h3 : (if pre.length = 0 then [(40 : UInt8)] else [44]).length = 1 := (by split <;> rfl); simp only [List.length_append, List.length_cons, List.length_nil]; omega), (by rw [← hg1.2.2]; simp [argsFrom])⟩⟩, (by simp), Sub.x (by kernel_rfl) (by kernel_rfl) ⟨⟨_, rfl, (LeA.eqi (by first | rfl | (simp; done) | omega | (dsimp only; rw [if_pos (by omega), List.append_assoc]; done) | (dsimp only; rw [if_neg (by omega), List.append_assoc]; done)))⟩, ⟨⟨_, rfl, (LeA.eqs (by first | rfl | (simp; done) | omega | (dsimp only; rw [if_pos (by omega), List.append_assoc]; done) | (dsimp only; rw [if_neg (by omega), List.append_assoc]; done)))⟩, trivial⟩⟩ (by kernel_rfl) (by kernel_rfl) trivial⟩
  ·try simp only [Q] at h2p
   refine Walk.catS .none rfl rfl rfl (by have hz := congrArg List.length hg1.1; simp only [List.length_append, List.length_cons, List.length_nil] at hz ⊢; omega) ?_
   refine evs [19, 21, 30, 36, 41, 45] [] ?_
   refine Walk.idx sl25 .none rfl rfl rfl rfl (zip_at hg1.1) rfl ?_
   refine evs [19, 21, 30, 36, 41, 45] [] ?_
   refine Walk.call (cr := []) cal182 (spec_l1Type_fn hb (a := y.data) (k := y.index) (hl2 y (by rw [← hg1.1]; simp)).1 (hl2 y (by rw [← hg1.1]; simp)).2) rfl .none rfl rfl (LeL.refl _) trivial rfl rfl rfl ?_
   refine Walk.catS .none rfl rfl rfl (by have hz := congrArg List.length hg1.1; simp only [List.length_append, List.length_cons, List.length_nil] at hz ⊢; omega) ?_
   refine evs [19, 21, 30, 36, 41, 45] [] ?_
   refine ar ?_
   refine Exists.intro ((pre ++ [y], rest, o ++ ((if pre.length = 0 then [40] else [44]) ++ tyText w y))) ⟨⟨(by have hz := hg1.1; rw [← hz]; simp), ⟨(by have hq := tyText_len hb (hl2 y (by rw [← hg1.1]; simp)).1; have h3 : (if pre.length = 0 then [(40 : UInt8)] else [44]).length = 1 := (by split <;> rfl); simp only [List.length_append, List.length_cons, List.length_nil]; omega), (by rw [← hg1.2.2]; simp [argsFrom])⟩⟩, (by simp), Sub.x (by kernel_rfl) (by kernel_rfl) ⟨⟨_, rfl, (LeA.eqi (by first | rfl | (simp; done) | omega | (dsimp only; rw [if_pos (by omega), List.append_assoc]; done) | (dsimp only; rw [if_neg (by omega), List.append_assoc]; done)))⟩, ⟨⟨_, rfl, (LeA.eqs (by first | rfl | (simp; done) | omega | (dsimp only; rw [if_pos (by omega), List.append_assoc]; done) | (dsimp only; rw [if_neg (by omega), List.append_assoc]; done)))⟩, trivial⟩⟩ (by kernel_rfl) (by kernel_rfl) trivial⟩
 ·try simp only [Q] at h1p
  have hrest : rest = [] := by
   rcases rest with _ | ⟨a, b⟩
   ·rfl
   ·exfalso; have hz := congrArg List.length (hg1.1); simp only [List.length_append, List.length_cons, List.length_map] at hz; omega
  subst hrest
  refine sq (fun h3 h3p h3s => ?_) fun h3 h3p h3s => ?_
  ·try simp only [Q] at h3p
   refine Walk.catS .none rfl rfl rfl (by have hz := congrArg List.length hg1.1; simp only [List.length_append, List.length_cons, List.length_nil] at hz ⊢; omega) ?_
   refine evs [19, 21, 30, 36, 41, 45] [] ?_
   refine sq (fun h4 h4p h4s => ?_) fun h4 h4p h4s => ?_
   ·try simp only [Q] at h4p
    refine Walk.catS .none rfl rfl rfl (by have hz := congrArg List.length hg1.1; simp only [List.length_append, List.length_cons, List.length_nil] at hz ⊢; omega) ?_
    refine evs [19, 21, 30, 36, 41, 45] [] ?_
    refine Walk.call (cr := []) cal183 (spec_l17Dec_fn (by omega) (by omega)) rfl .none rfl rfl (LeL.refl _) trivial rfl rfl rfl ?_
    refine Walk.catS .none rfl rfl rfl (by have hz := congrArg List.length hg1.1; simp only [List.length_append, List.length_cons, List.length_nil] at hz ⊢; omega) ?_
    refine evs [19, 21, 30, 36, 41, 45] [] ?_
    refine rn0 (r1 rfl) (.eqd ?_)
    all_goals (refine congrArg D.str ?_; have hfin := hg1.2.2; simp only [argsFrom, List.append_nil] at hfin; unfold ctorText; dsimp only; rw [← hfin]; first | (rw [if_pos (by omega), if_pos (by simp at *; omega)]; done) | (rw [if_pos (by omega), if_neg (by simp at *; omega)]; done) | (rw [if_neg (by omega), if_pos (by simp at *; omega)]; done) | (rw [if_neg (by omega), if_neg (by simp at *; omega)]; done))
   ·try simp only [Q] at h4p
    refine rn0 (r1 rfl) (.eqd ?_)
    all_goals (refine congrArg D.str ?_; have hfin := hg1.2.2; simp only [argsFrom, List.append_nil] at hfin; unfold ctorText; dsimp only; rw [← hfin]; first | (rw [if_pos (by omega), if_pos (by simp at *; omega)]; done) | (rw [if_pos (by omega), if_neg (by simp at *; omega)]; done) | (rw [if_neg (by omega), if_pos (by simp at *; omega)]; done) | (rw [if_neg (by omega), if_neg (by simp at *; omega)]; done))
  ·try simp only [Q] at h3p
   refine sq (fun h5 h5p h5s => ?_) fun h5 h5p h5s => ?_
   ·try simp only [Q] at h5p
    refine Walk.catS .none rfl rfl rfl (by have hz := congrArg List.length hg1.1; simp only [List.length_append, List.length_cons, List.length_nil] at hz ⊢; omega) ?_
    refine evs [19, 21, 30, 36, 41, 45] [] ?_
    refine Walk.call (cr := []) cal183 (spec_l17Dec_fn (by omega) (by omega)) rfl .none rfl rfl (LeL.refl _) trivial rfl rfl rfl ?_
    refine Walk.catS .none rfl rfl rfl (by have hz := congrArg List.length hg1.1; simp only [List.length_append, List.length_cons, List.length_nil] at hz ⊢; omega) ?_
    refine evs [19, 21, 30, 36, 41, 45] [] ?_
    refine rn0 (r1 rfl) (.eqd ?_)
    all_goals (refine congrArg D.str ?_; have hfin := hg1.2.2; simp only [argsFrom, List.append_nil] at hfin; unfold ctorText; dsimp only; rw [← hfin]; first | (rw [if_pos (by omega), if_pos (by simp at *; omega)]; done) | (rw [if_pos (by omega), if_neg (by simp at *; omega)]; done) | (rw [if_neg (by omega), if_pos (by simp at *; omega)]; done) | (rw [if_neg (by omega), if_neg (by simp at *; omega)]; done))
   ·try simp only [Q] at h5p
    refine rn0 (r1 rfl) (.eqd ?_)
    all_goals (refine congrArg D.str ?_; have hfin := hg1.2.2; simp only [argsFrom, List.append_nil] at hfin; unfold ctorText; dsimp only; rw [← hfin]; first | (rw [if_pos (by omega), if_pos (by simp at *; omega)]; done) | (rw [if_pos (by omega), if_neg (by simp at *; omega)]; done) | (rw [if_neg (by omega), if_pos (by simp at *; omega)]; done) | (rw [if_neg (by omega), if_neg (by simp at *; omega)]; done))
theorem spec_l1Text_fn {w : List Data} (hb : TB w) : FnD Try.prog 156 [.d (encDatas w)] [] (.d (.str (worldText w))) [] := by
 have hwl := hb.len
 have hct : ∀ d ∈ w, ∀ c ∈ d.ctors, (ctorText w c).length ≤ 20 := fun d hd c hc => ctorText_len hb ⟨(hb.cn d hd c hc).1, (hb.cn d hd c hc).2.1⟩ (fun t ht => (hb.ar d hd c hc t ht).1)
 refine bd Try.f156 51 [15, 22, 23, 37, 49] [] fun w0 F0 own kept hk => ?_
 refine CWp.loopX (ι := List (Data) × List (Data) × (Str)) hk (fun x => [(4, .d (.i (x.1.length : Int))), (3, .d (.str x.2.2))]) [5, 6, 7, 8, 9, 10, 11, 12, 13, 14, 15, 16, 17, 18, 19, 20, 21, 22, 23, 24, 25, 26, 27, 28, 29, 30, 31, 32, 33, 34, 35, 36, 37, 38, 39, 40, 41, 42, 43, 44, 45, 46, 47, 48, 49] (fun x => []) (fun x => x.1 ++ x.2.1 = w ∧ x.2.2.length ≤ 100 * x.1.length ∧ x.2.2 ++ dsFrom w (decide (x.1.length = 0)) x.2.1 = worldText w) (fun x => x.2.1.length) ([], w, []) ⟨by simp, by simp, by simp [worldText]⟩ ⟨⟨_, rfl, (LeA.eqi (by first | rfl | (simp; done) | omega | (rw [hfin]; simp; done)))⟩, ⟨⟨_, rfl, (LeA.eqs (by first | rfl | (simp; done) | omega | (rw [hfin]; simp; done)))⟩, trivial⟩⟩ trivial (fun x => rfl) (fun x hg1 => ?_)
 obtain ⟨pre, rest, o⟩ := x
 dsimp only at hg1 ⊢
 refine evc [15, 22, 23, 37, 49] [] ?_
 refine sq (fun h1 h1p h1s => ?_) fun h1 h1p h1s => ?_
 ·try simp only [Q] at h1p
  rcases rest with _ | ⟨y, rest⟩
  ·exfalso; simp_all
  have hym : y ∈ w := (by rw [← hg1.1]; simp); have hyd := hb.dn y hym; have hpl : pre.length < 4 := (by omega); have hcl := ctsFrom_len (w := w) y.ctors true (hct y hym)
  refine sq (fun h2 h2p h2s => ?_) fun h2 h2p h2s => ?_
  ·try simp only [Q] at h2p
   refine Walk.catS .none rfl rfl rfl (by (try simp only [List.length_append, List.length_cons, List.length_nil]); omega) ?_
   refine evs [15, 22, 23, 37, 49] [] ?_
   refine Walk.idx sl23 .none rfl rfl rfl rfl (zip_at hg1.1) rfl ?_
   refine evs [15, 22, 23, 37, 49] [] ?_
   refine Walk.catS .none rfl rfl rfl (by (try simp only [List.length_append, List.length_cons, List.length_nil]); omega) ?_
   refine Walk.catS .none rfl rfl rfl (by (try simp only [List.length_append, List.length_cons, List.length_nil]); omega) ?_
   refine evs [15, 22, 23, 37, 49] [] ?_
   refine CWp.loopX (ι := List (Ctor) × List (Ctor) × (Str)) hk (fun x => [(5, .d (.i (x.1.length : Int))), (3, .d (.str x.2.2))]) [24, 25, 26, 27, 28, 29, 30, 31, 32, 33, 34, 35, 36, 37, 38, 39, 40, 41, 42, 43, 44, 45, 46, 47, 48, 49] (fun x => []) (fun x => x.1 ++ x.2.1 = y.ctors ∧ x.2.2.length ≤ 100 * pre.length + 4 + 21 * x.1.length ∧ x.2.2 ++ ctsFrom w (decide (x.1.length = 0)) x.2.1 = (o ++ ((if pre.length = 0 then [] else [59]) ++ (y.name ++ [61]))) ++ ctsFrom w true y.ctors) (fun x => x.2.1.length) ([], y.ctors, o ++ ((if pre.length = 0 then [] else [59]) ++ (y.name ++ [61]))) ⟨by simp, (by have h3 : (if pre.length = 0 then ([] : Str) else [59]).length ≤ 1 := (by split <;> simp); simp only [List.length_append, List.length_cons, List.length_nil]; omega), by simp⟩ ⟨⟨_, rfl, (LeA.eqi (by first | rfl | (simp; done) | omega | (rw [if_neg (by omega)]; simp; done) | (rw [if_pos (by omega)]; simp; done) | (dsimp only; rw [if_neg (by omega)]; simp; done) | (dsimp only; rw [if_pos (by omega)]; simp; done)))⟩, ⟨⟨_, rfl, (LeA.eqs (by first | rfl | (simp; done) | omega | (rw [if_neg (by omega)]; simp; done) | (rw [if_pos (by omega)]; simp; done) | (dsimp only; rw [if_neg (by omega)]; simp; done) | (dsimp only; rw [if_pos (by omega)]; simp; done)))⟩, trivial⟩⟩ trivial (fun x => rfl) (fun x hg2 => ?_)
   obtain ⟨pre2, rest2, q⟩ := x
   dsimp only at hg2 ⊢
   refine evc [15, 22, 23, 37, 49] [] ?_
   refine Walk.idx sl23 .none rfl rfl rfl rfl (zip_at hg1.1) rfl ?_
   refine evs [15, 22, 23, 37, 49] [] ?_
   refine sq (fun h3 h3p h3s => ?_) fun h3 h3p h3s => ?_
   ·try simp only [Q] at h3p
    rcases rest2 with _ | ⟨c, rest2⟩
    ·exfalso; simp_all
    have hcm := hct y hym c (by rw [← hg2.1]; simp); have hce : (ctorText w ⟨c.name, c.args, c.index⟩).length ≤ 20 := hcm; have hp2 := congrArg List.length hg2.1; simp only [List.length_append, List.length_cons] at hp2
    refine sq (fun h4 h4p h4s => ?_) fun h4 h4p h4s => ?_
    ·try simp only [Q] at h4p
     refine Walk.catS .none rfl rfl rfl (by (try simp only [List.length_append, List.length_cons, List.length_nil]); omega) ?_
     refine evs [15, 22, 23, 37, 49] [] ?_
     refine Walk.idx sl23 .none rfl rfl rfl rfl (zip_at hg1.1) rfl ?_
     refine evs [15, 22, 23, 37, 49] [] ?_
     refine Walk.idx sl77 .none rfl rfl rfl rfl (zip_at hg2.1) rfl ?_
     refine evs [15, 22, 23, 37, 49] [] ?_
     refine Walk.call (cr := []) cal176 (spec_l1CtorText_fn hb (s := c.name) (l := c.args) (k := c.index) (hb.cn y hym c (by rw [← hg2.1]; simp)).1 (hb.cn y hym c (by rw [← hg2.1]; simp)).2.1 (hb.cn y hym c (by rw [← hg2.1]; simp)).2.2 (hb.ar y hym c (by rw [← hg2.1]; simp))) rfl .none rfl rfl (LeL.refl _) trivial rfl rfl rfl ?_
     refine Walk.catS .none rfl rfl rfl (by (try simp only [List.length_append, List.length_cons, List.length_nil]); omega) ?_
     refine evs [15, 22, 23, 37, 49] [] ?_
     refine ar ?_
     refine Exists.intro ((pre2 ++ [c], rest2, q ++ ((if pre2.length = 0 then [] else [124]) ++ ctorText w c))) ⟨⟨(by have hz := hg2.1; rw [← hz]; simp), ⟨(by have h3 : (if pre2.length = 0 then ([] : Str) else [124]).length ≤ 1 := (by split <;> simp); simp only [List.length_append, List.length_cons, List.length_nil]; omega), (by rw [← hg2.2.2]; simp [ctsFrom])⟩⟩, (by simp), Sub.x (by kernel_rfl) (by kernel_rfl) ⟨⟨_, rfl, (LeA.eqi (by first | rfl | (simp; done) | omega | (rw [if_neg (by omega)]; simp; done) | (rw [if_pos (by omega)]; simp; done) | (dsimp only; rw [if_neg (by omega)]; simp; done) | (dsimp only; rw [if_pos (by omega)]; simp; done)))⟩, ⟨⟨_, rfl, (LeA.eqs (by first | rfl | (simp; done) | omega | (rw [if_neg (by omega)]; simp; done) | (rw [if_pos (by omega)]; simp; done) | (dsimp only; rw [if_neg (by omega)]; simp; done) | (dsimp only; rw [if_pos (by omega)]; simp; done)))⟩, trivial⟩⟩ (by kernel_rfl) (by kernel_rfl) trivial⟩
    ·try simp only [Q] at h4p
     refine Walk.idx sl23 .none rfl rfl rfl rfl (zip_at hg1.1) rfl ?_
     refine evs [15, 22, 23, 37, 49] [] ?_
     refine Walk.idx sl77 .none rfl rfl rfl rfl (zip_at hg2.1) rfl ?_
     refine evs [15, 22, 23, 37, 49] [] ?_
     refine Walk.call (cr := []) cal176 (spec_l1CtorText_fn hb (s := c.name) (l := c.args) (k := c.index) (hb.cn y hym c (by rw [← hg2.1]; simp)).1 (hb.cn y hym c (by rw [← hg2.1]; simp)).2.1 (hb.cn y hym c (by rw [← hg2.1]; simp)).2.2 (hb.ar y hym c (by rw [← hg2.1]; simp))) rfl .none rfl rfl (LeL.refl _) trivial rfl rfl rfl ?_
     refine Walk.catS .none rfl rfl rfl (by (try simp only [List.length_append, List.length_cons, List.length_nil]); omega) ?_
     refine evs [15, 22, 23, 37, 49] [] ?_
     refine ar ?_
     refine Exists.intro ((pre2 ++ [c], rest2, q ++ ((if pre2.length = 0 then [] else [124]) ++ ctorText w c))) ⟨⟨(by have hz := hg2.1; rw [← hz]; simp), ⟨(by have h3 : (if pre2.length = 0 then ([] : Str) else [124]).length ≤ 1 := (by split <;> simp); simp only [List.length_append, List.length_cons, List.length_nil]; omega), (by rw [← hg2.2.2]; simp [ctsFrom])⟩⟩, (by simp), Sub.x (by kernel_rfl) (by kernel_rfl) ⟨⟨_, rfl, (LeA.eqi (by first | rfl | (simp; done) | omega | (rw [if_neg (by omega)]; simp; done) | (rw [if_pos (by omega)]; simp; done) | (dsimp only; rw [if_neg (by omega)]; simp; done) | (dsimp only; rw [if_pos (by omega)]; simp; done)))⟩, ⟨⟨_, rfl, (LeA.eqs (by first | rfl | (simp; done) | omega | (rw [if_neg (by omega)]; simp; done) | (rw [if_pos (by omega)]; simp; done) | (dsimp only; rw [if_neg (by omega)]; simp; done) | (dsimp only; rw [if_pos (by omega)]; simp; done)))⟩, trivial⟩⟩ (by kernel_rfl) (by kernel_rfl) trivial⟩
   ·try simp only [Q] at h3p
    have hrest2 : rest2 = [] := by
     rcases rest2 with _ | ⟨a, b⟩
     ·rfl
     ·exfalso; have hz := congrArg List.length (hg2.1); simp only [List.length_append, List.length_cons, List.length_map] at hz; omega
    subst hrest2
    refine ar ?_
    have hfin := hg2.2.2; simp only [ctsFrom, List.append_nil] at hfin
    refine Exists.intro ((pre ++ [y], rest, o ++ ((if pre.length = 0 then [] else [59]) ++ (y.name ++ [61]) ++ ctsFrom w true y.ctors))) ⟨⟨(by have hz := hg1.1; rw [← hz]; simp), ⟨(by have h3 : (if pre.length = 0 then ([] : Str) else [59]).length ≤ 1 := (by split <;> simp); simp only [List.length_append, List.length_cons, List.length_nil]; omega), (by rw [← hg1.2.2]; simp [dsFrom])⟩⟩, (by simp), Sub.x (by kernel_rfl) (by kernel_rfl) ⟨⟨_, rfl, (LeA.eqi (by first | rfl | (simp; done) | omega | (rw [hfin]; simp; done)))⟩, ⟨⟨_, rfl, (LeA.eqs (by first | rfl | (simp; done) | omega | (rw [hfin]; simp; done)))⟩, trivial⟩⟩ (by kernel_rfl) (by kernel_rfl) trivial⟩
  ·try simp only [Q] at h2p
   refine Walk.idx sl23 .none rfl rfl rfl rfl (zip_at hg1.1) rfl ?_
   refine evs [15, 22, 23, 37, 49] [] ?_
   refine Walk.catS .none rfl rfl rfl (by (try simp only [List.length_append, List.length_cons, List.length_nil]); omega) ?_
   refine Walk.catS .none rfl rfl rfl (by (try simp only [List.length_append, List.length_cons, List.length_nil]); omega) ?_
   refine evs [15, 22, 23, 37, 49] [] ?_
   refine CWp.loopX (ι := List (Ctor) × List (Ctor) × (Str)) hk (fun x => [(5, .d (.i (x.1.length : Int))), (3, .d (.str x.2.2))]) [24, 25, 26, 27, 28, 29, 30, 31, 32, 33, 34, 35, 36, 37, 38, 39, 40, 41, 42, 43, 44, 45, 46, 47, 48, 49] (fun x => []) (fun x => x.1 ++ x.2.1 = y.ctors ∧ x.2.2.length ≤ 100 * pre.length + 4 + 21 * x.1.length ∧ x.2.2 ++ ctsFrom w (decide (x.1.length = 0)) x.2.1 = (o ++ ((if pre.length = 0 then [] else [59]) ++ (y.name ++ [61]))) ++ ctsFrom w true y.ctors) (fun x => x.2.1.length) ([], y.ctors, o ++ ((if pre.length = 0 then [] else [59]) ++ (y.name ++ [61]))) ⟨by simp, (by have h3 : (if pre.length = 0 then ([] : Str) else [59]).length ≤ 1 := (by split <;> simp); simp only [List.length_append, List.length_cons, List.length_nil]; omega), by simp⟩ ⟨⟨_, rfl, (LeA.eqi (by first | rfl | (simp; done) | omega | (rw [if_neg (by omega)]; simp; done) | (rw [if_pos (by omega)]; simp; done) | (dsimp only; rw [if_neg (by omega)]; simp; done) | (dsimp only; rw [if_pos (by omega)]; simp; done)))⟩, ⟨⟨_, rfl, (LeA.eqs (by first | rfl | (simp; done) | omega | (rw [if_neg (by omega)]; simp; done) | (rw [if_pos (by omega)]; simp; done) | (dsimp only; rw [if_neg (by omega)]; simp; done) | (dsimp only; rw [if_pos (by omega)]; simp; done)))⟩, trivial⟩⟩ trivial (fun x => rfl) (fun x hg2 => ?_)
   obtain ⟨pre2, rest2, q⟩ := x
   dsimp only at hg2 ⊢
   refine evc [15, 22, 23, 37, 49] [] ?_
   refine Walk.idx sl23 .none rfl rfl rfl rfl (zip_at hg1.1) rfl ?_
   refine evs [15, 22, 23, 37, 49] [] ?_
   refine sq (fun h5 h5p h5s => ?_) fun h5 h5p h5s => ?_
   ·try simp only [Q] at h5p
    rcases rest2 with _ | ⟨c, rest2⟩
    ·exfalso; simp_all
    have hcm := hct y hym c (by rw [← hg2.1]; simp); have hce : (ctorText w ⟨c.name, c.args, c.index⟩).length ≤ 20 := hcm; have hp2 := congrArg List.length hg2.1; simp only [List.length_append, List.length_cons] at hp2
    refine sq (fun h6 h6p h6s => ?_) fun h6 h6p h6s => ?_
    ·try simp only [Q] at h6p
     refine Walk.catS .none rfl rfl rfl (by (try simp only [List.length_append, List.length_cons, List.length_nil]); omega) ?_
     refine evs [15, 22, 23, 37, 49] [] ?_
     refine Walk.idx sl23 .none rfl rfl rfl rfl (zip_at hg1.1) rfl ?_
     refine evs [15, 22, 23, 37, 49] [] ?_
     refine Walk.idx sl77 .none rfl rfl rfl rfl (zip_at hg2.1) rfl ?_
     refine evs [15, 22, 23, 37, 49] [] ?_
     refine Walk.call (cr := []) cal176 (spec_l1CtorText_fn hb (s := c.name) (l := c.args) (k := c.index) (hb.cn y hym c (by rw [← hg2.1]; simp)).1 (hb.cn y hym c (by rw [← hg2.1]; simp)).2.1 (hb.cn y hym c (by rw [← hg2.1]; simp)).2.2 (hb.ar y hym c (by rw [← hg2.1]; simp))) rfl .none rfl rfl (LeL.refl _) trivial rfl rfl rfl ?_
     refine Walk.catS .none rfl rfl rfl (by (try simp only [List.length_append, List.length_cons, List.length_nil]); omega) ?_
     refine evs [15, 22, 23, 37, 49] [] ?_
     refine ar ?_
     refine Exists.intro ((pre2 ++ [c], rest2, q ++ ((if pre2.length = 0 then [] else [124]) ++ ctorText w c))) ⟨⟨(by have hz := hg2.1; rw [← hz]; simp), ⟨(by have h3 : (if pre2.length = 0 then ([] : Str) else [124]).length ≤ 1 := (by split <;> simp); simp only [List.length_append, List.length_cons, List.length_nil]; omega), (by rw [← hg2.2.2]; simp [ctsFrom])⟩⟩, (by simp), Sub.x (by kernel_rfl) (by kernel_rfl) ⟨⟨_, rfl, (LeA.eqi (by first | rfl | (simp; done) | omega | (rw [if_neg (by omega)]; simp; done) | (rw [if_pos (by omega)]; simp; done) | (dsimp only; rw [if_neg (by omega)]; simp; done) | (dsimp only; rw [if_pos (by omega)]; simp; done)))⟩, ⟨⟨_, rfl, (LeA.eqs (by first | rfl | (simp; done) | omega | (rw [if_neg (by omega)]; simp; done) | (rw [if_pos (by omega)]; simp; done) | (dsimp only; rw [if_neg (by omega)]; simp; done) | (dsimp only; rw [if_pos (by omega)]; simp; done)))⟩, trivial⟩⟩ (by kernel_rfl) (by kernel_rfl) trivial⟩
    ·try simp only [Q] at h6p
     refine Walk.idx sl23 .none rfl rfl rfl rfl (zip_at hg1.1) rfl ?_
     refine evs [15, 22, 23, 37, 49] [] ?_
     refine Walk.idx sl77 .none rfl rfl rfl rfl (zip_at hg2.1) rfl ?_
     refine evs [15, 22, 23, 37, 49] [] ?_
     refine Walk.call (cr := []) cal176 (spec_l1CtorText_fn hb (s := c.name) (l := c.args) (k := c.index) (hb.cn y hym c (by rw [← hg2.1]; simp)).1 (hb.cn y hym c (by rw [← hg2.1]; simp)).2.1 (hb.cn y hym c (by rw [← hg2.1]; simp)).2.2 (hb.ar y hym c (by rw [← hg2.1]; simp))) rfl .none rfl rfl (LeL.refl _) trivial rfl rfl rfl ?_
     refine Walk.catS .none rfl rfl rfl (by (try simp only [List.length_append, List.length_cons, List.length_nil]); omega) ?_
     refine evs [15, 22, 23, 37, 49] [] ?_
     refine ar ?_
     refine Exists.intro ((pre2 ++ [c], rest2, q ++ ((if pre2.length = 0 then [] else [124]) ++ ctorText w c))) ⟨⟨(by have hz := hg2.1; rw [← hz]; simp), ⟨(by have h3 : (if pre2.length = 0 then ([] : Str) else [124]).length ≤ 1 := (by split <;> simp); simp only [List.length_append, List.length_cons, List.length_nil]; omega), (by rw [← hg2.2.2]; simp [ctsFrom])⟩⟩, (by simp), Sub.x (by kernel_rfl) (by kernel_rfl) ⟨⟨_, rfl, (LeA.eqi (by first | rfl | (simp; done) | omega | (rw [if_neg (by omega)]; simp; done) | (rw [if_pos (by omega)]; simp; done) | (dsimp only; rw [if_neg (by omega)]; simp; done) | (dsimp only; rw [if_pos (by omega)]; simp; done)))⟩, ⟨⟨_, rfl, (LeA.eqs (by first | rfl | (simp; done) | omega | (rw [if_neg (by omega)]; simp; done) | (rw [if_pos (by omega)]; simp; done) | (dsimp only; rw [if_neg (by omega)]; simp; done) | (dsimp only; rw [if_pos (by omega)]; simp; done)))⟩, trivial⟩⟩ (by kernel_rfl) (by kernel_rfl) trivial⟩
   ·try simp only [Q] at h5p
    have hrest2 : rest2 = [] := by
     rcases rest2 with _ | ⟨a, b⟩
     ·rfl
     ·exfalso; have hz := congrArg List.length (hg2.1); simp only [List.length_append, List.length_cons, List.length_map] at hz; omega
    subst hrest2
    refine ar ?_
    have hfin := hg2.2.2; simp only [ctsFrom, List.append_nil] at hfin
    refine Exists.intro ((pre ++ [y], rest, o ++ ((if pre.length = 0 then [] else [59]) ++ (y.name ++ [61]) ++ ctsFrom w true y.ctors))) ⟨⟨(by have hz := hg1.1; rw [← hz]; simp), ⟨(by have h3 : (if pre.length = 0 then ([] : Str) else [59]).length ≤ 1 := (by split <;> simp); simp only [List.length_append, List.length_cons, List.length_nil]; omega), (by rw [← hg1.2.2]; simp [dsFrom])⟩⟩, (by simp), Sub.x (by kernel_rfl) (by kernel_rfl) ⟨⟨_, rfl, (LeA.eqi (by first | rfl | (simp; done) | omega | (rw [hfin]; simp; done)))⟩, ⟨⟨_, rfl, (LeA.eqs (by first | rfl | (simp; done) | omega | (rw [hfin]; simp; done)))⟩, trivial⟩⟩ (by kernel_rfl) (by kernel_rfl) trivial⟩
 ·try simp only [Q] at h1p
  have hrest : rest = [] := by
   rcases rest with _ | ⟨a, b⟩
   ·rfl
   ·exfalso; have hz := congrArg List.length (hg1.1); simp only [List.length_append, List.length_cons, List.length_map] at hz; omega
  subst hrest
  refine rn0 (r1 rfl) (.eqd ?_)
  all_goals (refine congrArg D.str ?_; have hfin := hg1.2.2; simp only [dsFrom, List.append_nil] at hfin; exact hfin)
def pwL (s : Str) : List Str := cutL 59 [] s
def pwP (s : Str) (i : Nat) : List Str := cutL 61 [] (nth (pwL s) i)
def pwC (s : Str) (i : Nat) : List Str := cutL 124 [] (nth (pwP s i) 1)
def pwLim (s : Str) : Nat := if s = [] then 0 else min (pwL s).length 5
def pwNames (s : Str) (n : Nat) : List Str := (List.range n).map fun i => nth (pwP s i) 0
def pwData (s : Str) (i : Nat) : Data := ⟨nth (pwP s i) 0, ((pwC s i).take 5).map (parseCtor (pwNames s (pwLim s)))⟩
def pwRaw (s : Str) (n : Nat) : List Data := (List.range n).map (pwData s)
def pwGood (s : Str) : Bool := (List.range (pwLim s)).all (fun i => decide ((pwP s i).length = 2)) && (worldValid (pwRaw s (pwLim s)) && decide (worldText (pwRaw s (pwLim s)) = s))
def parseW (s : Str) : List Data × Bool := if pwGood s then (pwRaw s (pwLim s), true) else ([], false)
theorem pwLim_le (s : Str) : pwLim s ≤ (pwL s).length ∧ pwLim s ≤ 5 := by unfold pwLim; split <;> omega
theorem pwLim_iff {s : Str} {i : Nat} : i < pwLim s ↔ (i < (pwL s).length ∧ i ≤ 4) ∧ s ≠ [] := by
 unfold pwLim
 split
 ·rename_i h; simp [h]
 ·rename_i h; simp only [h, ne_eq, not_false_eq_true, and_true]; omega
theorem pwNames_len (s : Str) (n : Nat) : (pwNames s n).length = n := by simp [pwNames]
theorem pwNames_next (s : Str) (n : Nat) : pwNames s (n + 1) = pwNames s n ++ [nth (pwP s n) 0] := by unfold pwNames; rw [List.range_succ, List.map_append]; rfl
theorem pwRaw_next (s : Str) (n : Nat) : pwRaw s (n + 1) = pwRaw s n ++ [pwData s n] := by unfold pwRaw; rw [List.range_succ, List.map_append]; rfl
theorem name_at {s : Str} {n m : Nat} (h : m < n) : ((pwNames s n).map fun n => [D.str n])[m]? = some [D.str (nth (pwP s m) 0)] := by
 simp [pwNames, h]
theorem pwL_len {s : Str} {i : Nat} (h : i < (pwL s).length) : (nth (pwL s) i).length ≤ s.length := cutL_nth h
theorem pwP_len {s : Str} {i j : Nat} (h : i < (pwL s).length) (hj : j < (pwP s i).length) : (nth (pwP s i) j).length ≤ s.length := Nat.le_trans (cutL_nth hj) (pwL_len h)
theorem pwC_len {s : Str} {i k : Nat} (h : k < (pwC s i).length) : (nth (pwC s i) k).length ≤ (nth (pwP s i) 1).length := cutL_nth h
theorem take_five {α : Type} {l : List α} {i : Nat} (h : i = 5 ∨ (i ≤ 5 ∧ l.length ≤ i)) : l.take i = l.take 5 := by
 rcases h with rfl | ⟨h1, h2⟩
 ·rfl
 ·rw [List.take_of_length_le h2, List.take_of_length_le (by omega)]
theorem nth_cut_le {c : UInt8} {s : Str} : (nth (cutL c [] s) 0).length ≤ s.length := cutL_nth (cutL_pos c s [])
theorem parseCtor_bd {names : List Str} {s : Str} : (parseCtor names s).name.length ≤ s.length ∧ (parseCtor names s).args.length ≤ 4 := by
 have key : ∀ (ix : Int) (t : Str), (ctorOf names ix t).name.length ≤ t.length ∧ (ctorOf names ix t).args.length ≤ 4 := by
  intro ix t
  refine ⟨nth_cut_le, ?_⟩
  unfold ctorOf
  dsimp only
  split
  ·simp
  ·simp only [List.length_map, List.length_take]; omega
 unfold parseCtor
 split
 ·have := key (((nth s (s.length - 1)).toNat : Int) - 48) (s.take (s.length - 2))
  rw [List.length_take] at this
  omega
 ·exact key 0 s
theorem raw_small {s : Str} (hs : s.length ≤ 1000000) (h2 : ∀ j, j < pwLim s → (pwP s j).length = 2) : WSmall (pwRaw s (pwLim s)) := by
 have hl := pwLim_le s
 have hd : ∀ d ∈ pwRaw s (pwLim s), ∃ i, i < pwLim s ∧ d = pwData s i := fun d hd => by
  obtain ⟨i, hi, rfl⟩ := List.mem_map.1 hd
  exact ⟨i, List.mem_range.1 hi, rfl⟩
 refine ⟨by simp only [pwRaw, List.length_map, List.length_range]; omega, fun d hd' => ?_, fun d hd' c hc => ?_⟩
 ·obtain ⟨i, hi, rfl⟩ := hd d hd'
  have := pwP_len (s := s) (i := i) (j := 0) (by omega) (by rw [h2 i hi]; omega)
  refine ⟨?_, ?_⟩
  ·show (nth (pwP s i) 0).length ≤ _; omega
  ·simp only [pwData, List.length_map, List.length_take]; omega
 ·obtain ⟨i, hi, rfl⟩ := hd d hd'
  obtain ⟨t, ht, rfl⟩ := List.mem_map.1 hc
  have h3 := pwP_len (s := s) (i := i) (j := 1) (by omega) (by rw [h2 i hi]; omega)
  have h4 : t.length ≤ (nth (pwP s i) 1).length := by simpa using cutL_mem 124 (nth (pwP s i) 1) [] t (List.mem_of_mem_take ht)
  have h5 := parseCtor_bd (names := pwNames s (pwLim s)) (s := t)
  omega
theorem cut_L {s : Str} (hs : s.length ≤ 1000000) : FnD Try.prog 154 [.d (.str s), .d (.int .u8 59)] [] (.d (encStrs (pwL s))) [] := spec_l17Cut_fn (s := s) (c := 59) (by omega)
theorem cut_P {s : Str} {i : Nat} (hs : s.length ≤ 1000000) (h : i < (pwL s).length) : FnD Try.prog 154 [.d (.str (nth (pwL s) i)), .d (.int .u8 61)] [] (.d (encStrs (pwP s i))) [] := spec_l17Cut_fn (s := nth (pwL s) i) (c := 61) (by have := pwL_len h; omega)
theorem cut_C {s : Str} {i : Nat} (hs : s.length ≤ 1000000) (h : i < (pwL s).length) (h2 : (pwP s i).length = 2) : FnD Try.prog 154 [.d (.str (nth (pwP s i) 1)), .d (.int .u8 124)] [] (.d (encStrs (pwC s i))) [] :=
 spec_l17Cut_fn (s := nth (pwP s i) 1) (c := 124) (by have := pwP_len (j := 1) h (by omega); omega)
theorem spec_WorldValid_v {w : List Data} (hs : WSmall w) : FnD Try.prog 52 [.d (encDatas w)] [] (.d (.bool (worldValid w))) [] := by
 rw [← specWorldValid_eq]; exact spec_WorldValid_fn hs
theorem good_no {s : Str} (h : pwGood s = false) : parseW s = ([], false) := by unfold parseW; rw [if_neg (by rw [h]; simp)]
theorem good_yes {s : Str} (h : pwGood s = true) : parseW s = (pwRaw s (pwLim s), true) := by unfold parseW; rw [if_pos h]
theorem good_bad {s : Str} {i : Nat} (h : i < pwLim s) (h2 : ¬ (pwP s i).length = 2) : pwGood s = false := by
 unfold pwGood
 rw [all_range_false h (by simpa using h2), Bool.false_and]
theorem good_rest {s : Str} (h : ∀ j, j < pwLim s → (pwP s j).length = 2) : pwGood s = (worldValid (pwRaw s (pwLim s)) && decide (worldText (pwRaw s (pwLim s)) = s)) := by
 unfold pwGood
 rw [all_range_true (fun i hi => by simpa using h i hi), Bool.true_and]
theorem spec_ParseWorld_fn {s : Str} (hs : s.length ≤ 100000) : FnD Try.prog 119 [.d (.str s)] [] (.tup [.d (encDatas (parseW s).1), .d (.bool (parseW s).2)]) [] := by
 have hl := pwLim_le s
 have hcl : (pwL s).length ≤ s.length + 1 := cutL_len 59 s []
 have hccl : ∀ i, (pwC s i).length ≤ (nth (pwP s i) 1).length + 1 := fun i => cutL_len 124 _ []
 have hnl := pwNames_len s
 refine bd Try.f119 101 [] [5, 17, 21] fun w0 F0 own kept hk => ?_
 refine Walk.sliceEmptyG 1 sl23 .none rfl rfl ?_
 refine ev ?_
 refine Walk.sliceEmptyG 2 sl136 .none rfl rfl ?_
 refine ev ?_
 refine Walk.call (cr := []) cal154 (cut_L (s := s) (by omega)) rfl .none rfl rfl (LeL.refl _) trivial rfl rfl rfl ?_
 refine ev ?_
 refine CWp.loopX (ι := Nat) hk (fun i => [(7, .d (.i (i : Int))), (5, .gl 2 ((pwNames s i).map fun n => [D.str n]))]) [2, 3, 8, 17, 18, 19, 20, 21, 22, 23, 24, 25, 26, 27, 28, 29, 30, 31, 32, 33, 34, 35, 36, 37, 38, 39, 40, 41, 42, 43, 44, 45] (fun i => [(2, some (.tok (((pwNames s i).map fun n => [D.str n])).length 1))]) (fun i => i ≤ pwLim s ∧ ∀ j, j < i → (pwP s j).length = 2) (fun i => pwLim s - i) 0 ⟨by omega, fun j h => absurd h (by omega)⟩ ⟨⟨_, rfl, (LeA.eqi (by first | rfl | (rw [pwNames_next]; simp; done) | (simp; done) | omega))⟩, ⟨⟨_, rfl, (LeA.glg (by first | rfl | (rw [pwNames_next]; simp; done) | (simp; done) | omega))⟩, trivial⟩⟩ ⟨beq_nat_eq (by first | rfl | (simp; done) | (simp; omega) | (first | rfl | (rw [pwNames_next]; simp; done) | (simp; done) | omega)), trivial⟩ (fun x => rfl) (fun i hg1 => ?_)
 refine evc [] [5, 17, 21] ?_
 refine CWp.regionJ ?_
 refine WRest.join 12 [(28, .d (.bool (decide (i < pwLim s))))] [17, 18, 19, 20, 21, 22, 23, 24, 25, 26, 27] ?_ ?_
 ·
  refine ev ?_
  refine sq (fun h1 h1p h1s => ?_) fun h1 h1p h1s => ?_
  ·try simp only [Q, pwNames_len] at h1p
   refine sq (fun h2 h2p h2s => ?_) fun h2 h2p h2s => ?_
   ·try simp only [Q, pwNames_len] at h2p
    exact jn rfl (LeA.eqb (by first | rfl | (rw [Bool.eq_iff_iff]; simp_all [pwLim_iff]; done) | (rw [Bool.eq_iff_iff]; simp_all [pwLim_iff]; omega)))
   ·try simp only [Q, pwNames_len] at h2p
    exact jn rfl (LeA.eqb (by first | rfl | (rw [Bool.eq_iff_iff]; simp_all [pwLim_iff]; done) | (rw [Bool.eq_iff_iff]; simp_all [pwLim_iff]; omega)))
  ·try simp only [Q, pwNames_len] at h1p
   refine sqF ?_
   exact jn rfl (LeA.eqb (by first | rfl | (rw [Bool.eq_iff_iff]; simp_all [pwLim_iff]; done) | (rw [Bool.eq_iff_iff]; simp_all [pwLim_iff]; omega)))
 refine WRest.done ?_
 refine tv ?_
 refine sq (fun h3 h3p h3s => ?_) fun h3 h3p h3s => ?_
 ·try simp only [Q, pwNames_len] at h3p
  refine Walk.idx sl136 .none rfl rfl rfl rfl (at_nth (by omega)) rfl ?_
  refine ev ?_
  refine Walk.call (cr := []) cal154 (cut_P (s := s) (i := i) (by omega) (by omega)) rfl .none rfl rfl (LeL.refl _) trivial rfl rfl rfl ?_
  refine ev ?_
  refine sq (fun h4 h4p h4s => ?_) fun h4 h4p h4s => ?_
  ·try simp only [Q, pwNames_len] at h4p
   refine Walk.sliceEmpty sl23 .none rfl ?_
   refine ev ?_
   refine rn0 (r2 rfl rfl) (.tup (.cons (.eqd ?_) (.cons (.eqd ?_) .nil)))
   all_goals (first | (have hq := good_bad (s := s) (i := i) h3p (fun h => h4p (by omega)); rw [good_no hq]; all_goals rfl) | (have hr := good_rest hg1.2; rw [h9s] at hr; rw [good_no hr]; all_goals rfl) | (have hr := good_rest hg1.2; rw [h9s] at hr; rw [good_yes hr]; all_goals rfl))
  ·try simp only [Q, pwNames_len] at h4p
   refine Walk.idx (i := 0) sl136 .none rfl rfl rfl rfl (at_nth (by omega)) rfl ?_
   refine ev ?_
   refine Walk.sliceLit sl136 tz9 rfl (by decide) (ks := [0]) (xs := [_]) rfl rfl (by decide) (by decide) .none rfl rfl rfl rfl ?_
   refine Walk.append sl136 zz9 rfl .none rfl rfl rfl rfl (htokL rfl (by first | rfl | (simp; done) | (simp; omega))) (by simp) (by simp [pwNames_len, pwRaw]; omega) (by simp [pwNames_len, pwRaw]; omega) ?_
   refine ev ?_
   refine ar ?_
   refine Exists.intro (i + 1) ⟨⟨by omega, upto_succ hg1.2 (by omega)⟩, (by omega), Sub.x (by kernel_rfl) (by kernel_rfl) ⟨⟨_, rfl, (LeA.eqi (by first | rfl | (rw [pwNames_next]; simp; done) | (simp; done) | omega))⟩, ⟨⟨_, rfl, (LeA.glg (by first | rfl | (rw [pwNames_next]; simp; done) | (simp; done) | omega))⟩, trivial⟩⟩ (by kernel_rfl) (by kernel_rfl) ⟨beq_nat_eq (by first | rfl | (simp; done) | (simp; omega) | (first | rfl | (rw [pwNames_next]; simp; done) | (simp; done) | omega)), trivial⟩⟩
 ·try simp only [Q, pwNames_len] at h3p
  obtain rfl : i = pwLim s := (by omega)
  refine CWp.loopX (ι := Nat) hk (fun m => [(9, .d (.i (m : Int))), (4, .gl 1 ((pwRaw s m).map Data.c))]) [10, 11, 12, 46, 47, 48, 49, 50, 51, 52, 53, 54, 55, 56, 57, 58, 59, 60, 61, 62, 63, 64, 65, 66, 67, 68, 69, 70, 71, 72, 73, 74, 75, 76, 77, 78, 79, 80, 81, 82, 83, 84, 85, 86, 87, 88, 89] (fun m => [(1, some (.tok (((pwRaw s m).map Data.c)).length 2))]) (fun m => m ≤ pwLim s) (fun m => pwLim s - m) 0 (by omega) ⟨⟨_, rfl, (LeA.eqi (by first | rfl | (simp; done) | omega | (rw [pwRaw_next]; simp; done) | (rw [pwRaw_next, List.map_append]; simp only [List.map_cons, List.map_nil, pwData, Data.c]; rw [← List.map_take, take_five (by omega)]; done) | (rw [pwRaw_next, List.map_append]; simp only [List.map_cons, List.map_nil, pwData, Data.c]; rw [← List.map_take, take_five (by omega)]; rfl)))⟩, ⟨⟨_, rfl, (LeA.glg (by first | rfl | (simp; done) | omega | (rw [pwRaw_next]; simp; done) | (rw [pwRaw_next, List.map_append]; simp only [List.map_cons, List.map_nil, pwData, Data.c]; rw [← List.map_take, take_five (by omega)]; done) | (rw [pwRaw_next, List.map_append]; simp only [List.map_cons, List.map_nil, pwData, Data.c]; rw [← List.map_take, take_five (by omega)]; rfl)))⟩, trivial⟩⟩ ⟨beq_nat_eq (by first | rfl | (simp; done) | (simp; omega) | (first | rfl | (simp; done) | omega | (rw [pwRaw_next]; simp; done) | (rw [pwRaw_next, List.map_append]; simp only [List.map_cons, List.map_nil, pwData, Data.c]; rw [← List.map_take, take_five (by omega)]; done) | (rw [pwRaw_next, List.map_append]; simp only [List.map_cons, List.map_nil, pwData, Data.c]; rw [← List.map_take, take_five (by omega)]; rfl))), trivial⟩ (fun x => rfl) (fun m hg2 => ?_)
  refine evc [] [5, 17, 21] ?_
  refine sq (fun h5 h5p h5s => ?_) fun h5 h5p h5s => ?_
  ·try simp only [Q, pwNames_len] at h5p
   refine Walk.idx sl136 .none rfl rfl rfl rfl (at_nth (by first | omega | (rw [hg1.2 m (by omega)]; omega))) rfl ?_
   refine ev ?_
   refine Walk.call (cr := []) cal154 (cut_P (s := s) (i := m) (by omega) (by omega)) rfl .none rfl rfl (LeL.refl _) trivial rfl rfl rfl ?_
   refine Walk.idx (i := 1) sl136 .none rfl rfl rfl rfl (at_nth (by first | omega | (rw [hg1.2 m (by omega)]; omega))) rfl ?_
   refine ev ?_
   refine Walk.call (cr := []) cal154 (cut_C (s := s) (i := m) (by omega) (by omega) (hg1.2 m (by omega))) rfl .none rfl rfl (LeL.refl _) trivial rfl rfl rfl ?_
   refine ev ?_
   refine Walk.idxG sl136 .none rfl rfl rfl rfl (name_at (by omega)) rfl ?_
   refine ev ?_
   refine Walk.build st79 (ks := [0]) (xs := [_]) rfl rfl .none rfl rfl rfl ?_
   refine Walk.alloc (id := 3011) tz79 rfl .none rfl rfl rfl rfl ?_
   refine Walk.store ty79 .none rfl rfl rfl rfl rfl rfl (by simp) rfl ?_
   refine tv ?_
   refine CWp.tokB 3011 1 3 3 rfl rfl rfl rfl ?_
   refine CWp.loopX (ι := Nat) hk (fun k => [(12, .d (.i (k : Int)))]) [65, 66, 67, 68, 69, 70, 71, 72, 73, 74, 75, 76, 77, 78, 79, 80, 81, 82, 83, 84, 85] (fun k => [(3011, some (.box [.d (.str (nth (pwP s m) 0)), .gl 3 ((((pwC s m).map (parseCtor (pwNames s (pwLim s)))).take k).map Ctor.c)])), (3, some (.tok ((((pwC s m).map (parseCtor (pwNames s (pwLim s)))).take k).map Ctor.c).length 3))]) (fun k => k ≤ 5 ∧ k ≤ (pwC s m).length) (fun k => 5 - k) 0 ⟨by omega, by omega⟩ ⟨⟨_, rfl, (LeA.eqi (by first | rfl | (simp; done) | (simp_all; done) | omega))⟩, trivial⟩ ⟨(by first | rfl | (simp [getH]; done) | (show some (Res.box _) = some (Res.box _); rw [map_take_next (by omega)]; simp; done)), ⟨beq_nat_eq (by first | rfl | (simp; done) | (simp; omega) | (first | rfl | (simp; done) | (simp_all; done) | omega)), trivial⟩⟩ (fun x => rfl) (fun k hg3 => ?_)
   refine evc [] [5, 17, 21] ?_
   refine CWp.regionJ ?_
   refine WRest.join 8 [(72, .d (.bool (decide (k < (pwC s m).length ∧ k ≤ 4))))] [65, 66, 67, 68, 69, 70, 71] ?_ ?_
   ·
    refine ev ?_
    refine sq (fun h6 h6p h6s => ?_) fun h6 h6p h6s => ?_
    ·try simp only [Q, pwNames_len] at h6p
     exact jn rfl (LeA.eqb (by first | rfl | (rw [Bool.eq_iff_iff]; simp_all [pwLim_iff]; done) | (rw [Bool.eq_iff_iff]; simp_all [pwLim_iff]; omega)))
    ·try simp only [Q, pwNames_len] at h6p
     exact jn rfl (LeA.eqb (by first | rfl | (rw [Bool.eq_iff_iff]; simp_all [pwLim_iff]; done) | (rw [Bool.eq_iff_iff]; simp_all [pwLim_iff]; omega)))
   refine WRest.done ?_
   refine tv ?_
   refine sq (fun h7 h7p h7s => ?_) fun h7 h7p h7s => ?_
   ·try simp only [Q, pwNames_len] at h7p
    refine Walk.idx sl136 .none rfl rfl rfl rfl (at_nth (by omega)) rfl ?_
    refine evd [] [] ?_
    refine Walk.call (cr := []) cal155 (spec_l1ParseCtor_fn (names := pwNames s (pwLim s)) (s := nth (pwC s m) k) (by rw [hnl]; omega) (by have h1 := pwP_len (s := s) (i := m) (j := 1) (by omega) (by rw [hg1.2 m (by omega)]; omega); have h2 := pwC_len (s := s) (i := m) (k := k) (by omega); omega)) rfl .none rfl rfl (.cons (.gl _ _) (.cons (.refl _) .nil)) trivial rfl rfl rfl ?_
    refine Walk.sliceLit sl77 tz82 rfl (by decide) (ks := [0]) (xs := [_]) rfl rfl (by decide) (by decide) .none rfl rfl rfl rfl ?_
    refine Walk.append sl77 zz82 rfl .none rfl rfl rfl rfl (htokL rfl (by first | rfl | (simp; done) | (simp; omega))) (by simp) (by simp [pwNames_len, pwRaw]; omega) (by simp [pwNames_len, pwRaw]; omega) ?_
    refine evd [] [] ?_
    refine Walk.store ty77 .none rfl rfl rfl rfl rfl rfl (by simp) rfl ?_
    refine dr ?_
    refine ar ?_
    refine Exists.intro (k + 1) ⟨⟨by omega, by omega⟩, (by omega), Sub.x (by kernel_rfl) (by kernel_rfl) ⟨⟨_, rfl, (LeA.eqi (by first | rfl | (simp; done) | (simp_all; done) | omega))⟩, trivial⟩ (by kernel_rfl) (by kernel_rfl) ⟨(by first | rfl | (simp [getH]; done) | (show some (Res.box _) = some (Res.box _); rw [map_take_next (by omega)]; simp; done)), ⟨beq_nat_eq (by first | rfl | (simp; done) | (simp; omega) | (first | rfl | (simp; done) | (simp_all; done) | omega)), trivial⟩⟩⟩
   ·try simp only [Q, pwNames_len] at h7p
    refine Walk.sliceLit sl23 tz79 rfl (by decide) (ks := [0]) (xs := [_]) rfl rfl (by decide) (by decide) .none rfl rfl rfl rfl ?_
    refine Walk.append sl23 zz79 rfl .none rfl rfl rfl rfl (htokL rfl (by first | rfl | (simp; done) | (simp; omega))) (by simp) (by simp [pwNames_len, pwRaw]; omega) (by simp [pwNames_len, pwRaw]; omega) ?_
    refine ev ?_
    refine ar ?_
    refine Exists.intro (m + 1) ⟨(by omega), (by omega), Sub.x (by kernel_rfl) (by kernel_rfl) ⟨⟨_, rfl, (LeA.eqi (by first | rfl | (simp; done) | omega | (rw [pwRaw_next]; simp; done) | (rw [pwRaw_next, List.map_append]; simp only [List.map_cons, List.map_nil, pwData, Data.c]; rw [← List.map_take, take_five (by omega)]; done) | (rw [pwRaw_next, List.map_append]; simp only [List.map_cons, List.map_nil, pwData, Data.c]; rw [← List.map_take, take_five (by omega)]; rfl)))⟩, ⟨⟨_, rfl, (LeA.glg (by first | rfl | (simp; done) | omega | (rw [pwRaw_next]; simp; done) | (rw [pwRaw_next, List.map_append]; simp only [List.map_cons, List.map_nil, pwData, Data.c]; rw [← List.map_take, take_five (by omega)]; done) | (rw [pwRaw_next, List.map_append]; simp only [List.map_cons, List.map_nil, pwData, Data.c]; rw [← List.map_take, take_five (by omega)]; rfl)))⟩, trivial⟩⟩ (by kernel_rfl) (by kernel_rfl) ⟨beq_nat_eq (by first | rfl | (simp; done) | (simp; omega) | (first | rfl | (simp; done) | omega | (rw [pwRaw_next]; simp; done) | (rw [pwRaw_next, List.map_append]; simp only [List.map_cons, List.map_nil, pwData, Data.c]; rw [← List.map_take, take_five (by omega)]; done) | (rw [pwRaw_next, List.map_append]; simp only [List.map_cons, List.map_nil, pwData, Data.c]; rw [← List.map_take, take_five (by omega)]; rfl))), trivial⟩⟩
  ·try simp only [Q, pwNames_len] at h5p
   obtain rfl : m = pwLim s := (by omega)
   refine CWp.regionJ ?_
   refine WRest.join 9 [(98, .d (.bool (!(worldValid (pwRaw s (pwLim s)) && decide (worldText (pwRaw s (pwLim s)) = s)))))] [90, 91, 92, 93, 94, 95, 96, 97] ?_ ?_
   ·
    refine ev ?_
    refine Walk.call (cr := []) cal52 (spec_WorldValid_v (raw_small (by omega) hg1.2)) rfl .none rfl rfl (.cons (.gl _ _) .nil) trivial rfl rfl rfl ?_
    refine ev ?_
    refine sq (fun h8 h8p h8s => ?_) fun h8 h8p h8s => ?_
    ·try simp only [Q, pwNames_len] at h8p
     exact jn rfl (LeA.eqb (by first | rfl | (rw [Bool.eq_iff_iff]; simp_all [pwLim_iff]; done) | (rw [Bool.eq_iff_iff]; simp_all [pwLim_iff]; omega)))
    ·try simp only [Q, pwNames_len] at h8p
     refine Walk.call (cr := []) cal156 (spec_l1Text_fn (valid_tb (by assumption))) rfl (.some rfl rfl h8) rfl rfl (.cons (.gl _ _) .nil) trivial rfl rfl rfl ?_
     refine evs [] [(93, false)] ?_ ⟨⟨_, rfl, h8⟩, trivial⟩
     exact jn rfl (LeA.eqb (by first | rfl | (rw [Bool.eq_iff_iff]; simp_all [pwLim_iff]; done) | (rw [Bool.eq_iff_iff]; simp_all [pwLim_iff]; omega)))
   refine WRest.done ?_
   refine tv ?_
   refine sq (fun h9 h9p h9s => ?_) fun h9 h9p h9s => ?_
   ·try simp only [Q, pwNames_len] at h9p
    refine Walk.sliceEmpty sl23 .none rfl ?_
    refine ev ?_
    refine rn0 (r2 rfl rfl) (.tup (.cons (.eqd ?_) (.cons (.eqd ?_) .nil)))
    all_goals (first | (have hq := good_bad (s := s) (i := i) h3p (fun h => h4p (by omega)); rw [good_no hq]; all_goals rfl) | (have hr := good_rest hg1.2; rw [h9s] at hr; rw [good_no hr]; all_goals rfl) | (have hr := good_rest hg1.2; rw [h9s] at hr; rw [good_yes hr]; all_goals rfl))
   ·try simp only [Q, pwNames_len] at h9p
    refine rn0 (r2 rfl rfl) (.tup (.cons (.gld ?_) (.cons (.eqd ?_) .nil)))
    all_goals (first | (have hq := good_bad (s := s) (i := i) h3p (fun h => h4p (by omega)); rw [good_no hq]; all_goals rfl) | (have hr := good_rest hg1.2; rw [h9s] at hr; rw [good_no hr]; all_goals rfl) | (have hr := good_rest hg1.2; rw [h9s] at hr; rw [good_yes hr]; all_goals rfl))
def texts8 : List Str := [[76, 61, 78, 105, 108, 124, 67, 111, 110, 115, 40, 73, 44, 76, 41],
 [66, 61, 84, 114, 117, 124, 70, 108, 115, 59, 84, 61, 76, 101, 97, 102, 124, 78, 111, 100, 101, 40, 84, 44, 66, 44, 84, 41],
 [69, 61, 78, 117, 109, 40, 73, 41, 58, 49, 124, 66, 111, 108, 40, 66, 41, 58, 50, 124, 65, 100, 100, 40, 69, 49, 44, 69, 49, 41, 58, 49, 124, 73, 102, 40, 69, 50, 44, 69, 42, 44, 69, 42, 41, 59, 66, 61, 84, 114, 117, 124, 70, 108, 115],
 [79, 61, 78, 111, 110, 124, 83, 111, 109, 40, 73, 41, 59, 80, 61, 80, 97, 105, 114, 40, 79, 44, 79, 41],
 [86, 61, 69, 110, 100, 58, 49, 124, 83, 111, 109, 101, 40, 73, 44, 86, 49, 41, 58, 50, 124, 84, 119, 111, 40, 86, 42, 41],
 [78, 61, 78, 101, 118, 101, 114, 40, 78, 41, 59, 66, 61, 84, 114, 117, 124, 70, 108, 115, 124, 77, 97, 121, 40, 78, 41],
 [83, 61, 82, 101, 100, 124, 71, 114, 101, 101, 110, 124, 66, 108, 117, 101, 124, 77, 105, 120, 40, 83, 44, 83, 41],
 []]
theorem texts8_len : texts8.length = 8 := rfl
theorem texts8_small : ∀ t ∈ texts8, t.length ≤ 100 := by decide
theorem text_small {i : Nat} (h : i < 8) : (nth texts8 i).length ≤ 100 := texts8_small _ (nth_mem h)
theorem parseW_small {s : Str} (hs : s.length ≤ 100000) : WSmall (parseW s).1 := by
 unfold parseW
 split
 ·rename_i h
  refine raw_small (by omega) (fun j hj => ?_)
  unfold pwGood at h
  rw [Bool.and_eq_true, List.all_eq_true] at h
  simpa using h.1 j (List.mem_range.2 hj)
 ·exact ⟨by simp, fun d hd => by simp at hd, fun d hd => by simp at hd⟩
def worldD (b : Str) (p : Nat) : List Data := (parseW (nth texts8 (pickV b p 7).toNat)).1
theorem pick7 (b : Str) (p : Nat) : (pickV b p 7).toNat < 7 := by have := pickV_bd (b := b) (p := p) (n := 7) (by omega); omega
theorem worldD_small {b : Str} {p : Nat} : WSmall (worldD b p) := parseW_small (by have h := pick7 b p; have := text_small (i := (pickV b p 7).toNat) (by omega); omega)
def someT (b : Str) (p : Nat) (n : Int) : Ty × Nat :=
 if pickV b p 16 = 0 then (⟨numV b (p + 1) [-1, -2, 9, 0], numV b (p + 2) [0, 1, -1, 4]⟩, p + 3)
 else if pickV b (p + 1) 8 = 0 then (⟨-1, 0⟩, p + 2)
 else (⟨pickV b (p + 2) n, numV b (p + 3) [0, 0, 1, 2, 0, 3]⟩, p + 4)
theorem someT_bd (b : Str) (p : Nat) (n : Int) : (someT b p n).2 ≤ p + 4 := by
 unfold someT; split
 ·dsimp only; omega
 ·split <;> dsimp only <;> omega
def drawT (b : Str) : List Data × Ty × Ty :=
 let w := worldD b 0
 let a := someT b 1 w.length
 (w, a.1, if pickV b a.2 2 = 0 then ⟨a.1.data, numV b (a.2 + 1) [0, 1, 2]⟩ else (someT b (a.2 + 1) w.length).1)
theorem spec_l1Texts_fn : FnD Try.prog 120 [] [] (.d (encStrs texts8)) [] := by
 refine bd Try.f120 2 [] [] fun w0 F0 own kept hk => ?_
 refine Walk.sliceLit sl136 tz9 rfl (by decide) (ks := [0, 1, 2, 3, 4, 5, 6, 7]) (xs := [_, _, _, _, _, _, _, _]) rfl rfl (by decide) (by decide) .none rfl rfl rfl rfl ?_
 refine ev ?_
 refine rn0 (r1 rfl) (.eqd ?_)
 all_goals (rfl)
theorem spec_l1World_fn {b : Str} {p : Nat} (hb : b.length ≤ 2000) (hp : p ≤ 1000000) :
  FnD Try.prog 93 [.ref 900 0] [(900, some (rdB b p))] (.d (encDatas (worldD b p))) [(900, some (rdB b (p + 1)))] := by
 have h7 := pick7 b p
 have ht8 := texts8_len
 have hv := pickV_bd (b := b) (p := p) (n := 7) (by omega)
 have hts := text_small (i := (pickV b p 7).toNat) (by omega)
 refine bd Try.f93 20 [] [] fun w0 F0 own kept hk => ?_
 refine Walk.call (cr := []) cal120 (spec_l1Texts_fn) rfl .none rfl rfl (LeL.refl _) trivial rfl rfl rfl ?_
 refine ev ?_
 refine ar ?_
 refine Walk.call (cr := []) cal102 (spec_pick_fn (n := 7) hb (by omega) (by omega)) rfl .none rfl rfl (LeL.refl _) ⟨rfl, trivial⟩ rfl rfl rfl ?_
 refine Walk.idx (i := (pickV b p 7).toNat) sl136 .none rfl rfl rfl (by omega) (at_nth (by rw [texts8_len]; omega)) rfl ?_
 refine ev ?_
 refine Walk.call (cr := []) cal119 (spec_ParseWorld_fn (s := nth texts8 (pickV b p 7).toNat) (by omega)) rfl .none rfl rfl (LeL.refl _) trivial rfl rfl rfl ?_
 refine ev ?_
 refine rn [(900, some (rdB b (p + 1)))] (r1 rfl) (.eqd ?_) ⟨rfl, rfl⟩ (SubO.get ⟨.inr (by rfl), ⟨.inl rfl, trivial⟩⟩) (boxOK rfl)
 all_goals (rfl)
theorem spec_l1Some_fn {b : Str} {p : Nat} {w : List Data} (hb : b.length ≤ 2000) (hp : p ≤ 1000000) (hw : w.length ≤ 1000000000000) :
  FnD Try.prog 101 [.ref 900 0, .d (encDatas w)] [(900, some (rdB b p))] (.agg [.d (.i (someT b p w.length).1.data), .d (.i (someT b p w.length).1.index)]) [(900, some (rdB b (someT b p w.length).2))] := by
 have hlw : ((w.map Data.c).length : Int) = w.length := by simp
 refine bd Try.f101 27 [] [] fun w0 F0 own kept hk => ?_
 refine Walk.alloc (id := 3004) tz31 rfl .none rfl rfl rfl rfl ?_
 refine tv ?_
 refine Walk.call (cr := []) cal102 (spec_pick_fn (p := p) (n := 16) hb (by omega) (by omega)) rfl .none rfl rfl (LeL.refl _) ⟨rfl, trivial⟩ rfl rfl rfl ?_
 refine ev ?_
 refine sq (fun h1 h1p h1s => ?_) fun h1 h1p h1s => ?_
 ·try simp only [Q] at h1p
  refine Walk.sliceLit sl66 tz3 rfl (by decide) (ks := [0, 1, 2, 3]) (xs := [_, _, _, _]) rfl rfl (by decide) (by decide) .none rfl rfl rfl rfl ?_
  refine Walk.call (cr := []) cal103 (spec_num_fn (p := p + 1) (l := [-1, -2, 9, 0]) hb (by omega) (by simp) (by simp)) rfl .none rfl rfl (LeL.refl _) ⟨rfl, trivial⟩ rfl rfl rfl ?_
  refine ev ?_
  refine Walk.sliceLit sl66 tz3 rfl (by decide) (ks := [0, 1, 2, 3]) (xs := [_, _, _, _]) rfl rfl (by decide) (by decide) .none rfl rfl rfl rfl ?_
  refine Walk.call (cr := []) cal103 (spec_num_fn (p := p + 2) (l := [0, 1, -1, 4]) hb (by omega) (by simp) (by simp)) rfl .none rfl rfl (LeL.refl _) ⟨rfl, trivial⟩ rfl rfl rfl ?_
  refine Walk.build st31 (ks := [0, 1]) (xs := [_, _]) rfl rfl .none rfl rfl rfl ?_
  refine Walk.store ty31 .none rfl rfl rfl rfl rfl rfl (by simp) rfl ?_
  refine tv ?_
  refine rn [(900, some (rdB b (someT b p w.length).2))] (.cons (.cellA ty31 rfl rfl rfl) .nil) (.agg (.cons (.eqd ?_) (.cons (.eqd ?_) .nil))) ⟨rfl, rfl⟩ (SubO.get ⟨.inr (by unfold someT; first | (rw [if_pos h1p]; done) | (rw [if_pos h1p]; rfl) | (rw [if_neg h1p, if_pos h2p]; done) | (rw [if_neg h1p, if_pos h2p]; rfl) | (rw [if_neg h1p, if_neg h2p]; done) | (rw [if_neg h1p, if_neg h2p]; rfl)), ⟨.inl rfl, trivial⟩⟩) (boxOK rfl)
  all_goals (unfold someT; first | (rw [if_pos h1p]; all_goals rfl) | (rw [if_neg h1p, if_pos h2p]; all_goals rfl) | (rw [if_neg h1p, if_neg h2p, ← hlw]; all_goals rfl) | (rw [if_neg h1p, if_neg h2p]; all_goals rfl))
 ·try simp only [Q] at h1p
  refine Walk.call (cr := []) cal102 (spec_pick_fn (p := p + 1) (n := 8) hb (by omega) (by omega)) rfl .none rfl rfl (LeL.refl _) ⟨rfl, trivial⟩ rfl rfl rfl ?_
  refine ev ?_
  refine sq (fun h2 h2p h2s => ?_) fun h2 h2p h2s => ?_
  ·try simp only [Q] at h2p
   refine Walk.build st31 (ks := [0]) (xs := [_]) rfl rfl .none rfl rfl rfl ?_
   refine Walk.store ty31 .none rfl rfl rfl rfl rfl rfl (by simp) rfl ?_
   refine tv ?_
   refine rn [(900, some (rdB b (someT b p w.length).2))] (.cons (.cellA ty31 rfl rfl rfl) .nil) (.agg (.cons (.eqd ?_) (.cons (.eqd ?_) .nil))) ⟨rfl, rfl⟩ (SubO.get ⟨.inr (by unfold someT; first | (rw [if_pos h1p]; done) | (rw [if_pos h1p]; rfl) | (rw [if_neg h1p, if_pos h2p]; done) | (rw [if_neg h1p, if_pos h2p]; rfl) | (rw [if_neg h1p, if_neg h2p]; done) | (rw [if_neg h1p, if_neg h2p]; rfl)), ⟨.inl rfl, trivial⟩⟩) (boxOK rfl)
   all_goals (unfold someT; first | (rw [if_pos h1p]; all_goals rfl) | (rw [if_neg h1p, if_pos h2p]; all_goals rfl) | (rw [if_neg h1p, if_neg h2p, ← hlw]; all_goals rfl) | (rw [if_neg h1p, if_neg h2p]; all_goals rfl))
  ·try simp only [Q] at h2p
   refine Walk.call (cr := []) cal102 (spec_pick_fn (p := p + 2) (n := ((w.map Data.c).length : Int)) hb (by omega) (by omega)) rfl .none rfl rfl (LeL.refl _) ⟨rfl, trivial⟩ rfl rfl rfl ?_
   refine ev ?_
   refine Walk.sliceLit sl66 tz3 rfl (by decide) (ks := [0, 1, 2, 3, 4, 5]) (xs := [_, _, _, _, _, _]) rfl rfl (by decide) (by decide) .none rfl rfl rfl rfl ?_
   refine Walk.call (cr := []) cal103 (spec_num_fn (p := p + 3) (l := [0, 0, 1, 2, 0, 3]) hb (by omega) (by simp) (by simp)) rfl .none rfl rfl (LeL.refl _) ⟨rfl, trivial⟩ rfl rfl rfl ?_
   refine Walk.build st31 (ks := [0, 1]) (xs := [_, _]) rfl rfl .none rfl rfl rfl ?_
   refine Walk.store ty31 .none rfl rfl rfl rfl rfl rfl (by simp) rfl ?_
   refine tv ?_
   refine rn [(900, some (rdB b (someT b p w.length).2))] (.cons (.cellA ty31 rfl rfl rfl) .nil) (.agg (.cons (.eqd ?_) (.cons (.eqd ?_) .nil))) ⟨rfl, rfl⟩ (SubO.get ⟨.inr (by unfold someT; first | (rw [if_pos h1p]; done) | (rw [if_pos h1p]; rfl) | (rw [if_neg h1p, if_pos h2p]; done) | (rw [if_neg h1p, if_pos h2p]; rfl) | (rw [if_neg h1p, if_neg h2p]; done) | (rw [if_neg h1p, if_neg h2p]; rfl)), ⟨.inl rfl, trivial⟩⟩) (boxOK rfl)
   all_goals (unfold someT; first | (rw [if_pos h1p]; all_goals rfl) | (rw [if_neg h1p, if_pos h2p]; all_goals rfl) | (rw [if_neg h1p, if_neg h2p, ← hlw]; all_goals rfl) | (rw [if_neg h1p, if_neg h2p]; all_goals rfl))
theorem spec_DrawTypeFits_fn {b : Str} (hb : b.length ≤ 1000000000000) :
  FnD Try.prog 57 [.d (encBytes b)] [] (.tup [.d (encDatas (drawT (b.take 2000)).1), .agg [.d (.i (drawT (b.take 2000)).2.1.data), .d (.i (drawT (b.take 2000)).2.1.index)], .agg [.d (.i (drawT (b.take 2000)).2.2.data), .d (.i (drawT (b.take 2000)).2.2.index)]]) [] := by
 have hop := spec_l17Open_fn hb
 have hb2 : (b.take 2000).length ≤ 2000 := by rw [List.length_take]; omega
 generalize b.take 2000 = e at *
 have hw := (worldD_small (b := e) (p := 0)).len
 have hs1 := someT_bd e 1 (worldD e 0).length
 refine bd Try.f57 31 [] [] fun w0 F0 own kept hk => ?_
 refine Walk.alloc (id := 3003) tz31 rfl .none rfl rfl rfl rfl ?_
 refine Walk.alloc (id := 3004) tz31 rfl .none rfl rfl rfl rfl ?_
 refine tv ?_
 refine Walk.call (cr := [900]) cal91 (hop) rfl .none rfl rfl (LeL.refl _) trivial rfl (by first | rfl | (simp only [okCall, List.all_cons, List.all_nil, entOK, entOK', AV.idsL, AV.ids, idsL_append, ownCells_ids, List.map_cons, List.map_nil]; rfl)) (by first | rfl | (simp only [freshB, occH, occE, Res.ids, List.cons_append, List.nil_append, AV.idsL, AV.ids, idsL_append, ownCells_ids, zerosA_idsR, repNil, List.map_cons, List.map_nil, upC]; rfl)) ?_
 refine ev ?_
 refine Walk.call (cr := []) cal93 (spec_l1World_fn (p := 0) hb2 (by omega)) rfl .none rfl rfl (LeL.refl _) ⟨rfl, trivial⟩ rfl rfl rfl ?_
 refine ev ?_
 refine Walk.call (cr := []) cal101 (spec_l1Some_fn (p := 1) (w := worldD e 0) hb2 (by omega) hw) rfl .none rfl rfl (LeL.refl _) ⟨rfl, trivial⟩ rfl rfl rfl ?_
 refine Walk.alloc (id := 3007) tz31 rfl .none rfl rfl rfl rfl ?_
 refine Walk.store ty31 .none rfl rfl rfl rfl rfl rfl (by simp) rfl ?_
 refine tv ?_
 refine Walk.call (cr := []) cal102 (spec_pick_fn (p := (someT e 1 (worldD e 0).length).2) (n := 2) hb2 (by omega) (by omega)) rfl .none rfl rfl (LeL.refl _) ⟨rfl, trivial⟩ rfl rfl rfl ?_
 refine ev ?_
 refine sq (fun h1 h1p h1s => ?_) fun h1 h1p h1s => ?_
 ·try simp only [Q] at h1p
  refine Walk.sliceLit sl66 tz3 rfl (by decide) (ks := [0, 1, 2]) (xs := [_, _, _]) rfl rfl (by decide) (by decide) .none rfl rfl rfl rfl ?_
  refine Walk.call (cr := []) cal103 (spec_num_fn (p := (someT e 1 (worldD e 0).length).2 + 1) (l := [0, 1, 2]) hb2 (by omega) (by simp) (by simp)) rfl .none rfl rfl (LeL.refl _) ⟨rfl, trivial⟩ rfl rfl rfl ?_
  refine Walk.build st31 (ks := [0, 1]) (xs := [_, _]) rfl rfl .none rfl rfl rfl ?_
  refine evd [] [] ?_
  refine Walk.store ty31 .none rfl rfl rfl rfl rfl rfl (by simp) rfl ?_
  refine Walk.store ty31 .none rfl rfl rfl rfl rfl rfl (by simp) rfl ?_
  refine dr ?_
  refine rn0 (.cons (.tmp rfl) (.cons (.cellA ty31 rfl rfl rfl) (.cons (.cellA ty31 rfl rfl rfl) .nil))) (.tup (.cons (.eqd ?_) (.cons (.agg (.cons (.eqd ?_) (.cons (.eqd ?_) .nil))) (.cons (.agg (.cons (.eqd ?_) (.cons (.eqd ?_) .nil))) .nil))))
  all_goals (unfold drawT; first | rfl | (dsimp only; rw [if_pos h1p]; all_goals rfl) | (dsimp only; rw [if_neg h1p]; all_goals rfl))
 ·try simp only [Q] at h1p
  refine Walk.call (cr := []) cal101 (spec_l1Some_fn (p := (someT e 1 (worldD e 0).length).2 + 1) (w := worldD e 0) hb2 (by omega) hw) rfl .none rfl rfl (LeL.refl _) ⟨rfl, trivial⟩ rfl rfl rfl ?_
  refine evd [] [] ?_
  refine Walk.store ty31 .none rfl rfl rfl rfl rfl rfl (by simp) rfl ?_
  refine Walk.store ty31 .none rfl rfl rfl rfl rfl rfl (by simp) rfl ?_
  refine dr ?_
  refine rn0 (.cons (.tmp rfl) (.cons (.cellA ty31 rfl rfl rfl) (.cons (.cellA ty31 rfl rfl rfl) .nil))) (.tup (.cons (.eqd ?_) (.cons (.agg (.cons (.eqd ?_) (.cons (.eqd ?_) .nil))) (.cons (.agg (.cons (.eqd ?_) (.cons (.eqd ?_) .nil))) .nil))))
  all_goals (unfold drawT; first | rfl | (dsimp only; rw [if_pos h1p]; all_goals rfl) | (dsimp only; rw [if_neg h1p]; all_goals rfl))
theorem spec_DrawSameValues_fn {b : Str} (hb : b.length ≤ 1000000000000) :
  FnD Try.prog 17 [.d (encBytes b)] [] (.tup [.d (encDatas (drawT (b.take 2000)).1), .agg [.d (.i (drawT (b.take 2000)).2.1.data), .d (.i (drawT (b.take 2000)).2.1.index)], .agg [.d (.i (drawT (b.take 2000)).2.2.data), .d (.i (drawT (b.take 2000)).2.2.index)]]) [] := by
 refine bd Try.f17 10 [] [] fun w0 F0 own kept hk => ?_
 refine Walk.alloc (id := 3003) tz31 rfl .none rfl rfl rfl rfl ?_
 refine Walk.alloc (id := 3004) tz31 rfl .none rfl rfl rfl rfl ?_
 refine tv ?_
 refine Walk.call (cr := []) cal57 (spec_DrawTypeFits_fn hb) rfl .none rfl rfl (LeL.refl _) trivial rfl rfl rfl ?_
 refine ev ?_
 refine Walk.store ty31 .none rfl rfl rfl rfl rfl rfl (by simp) rfl ?_
 refine Walk.store ty31 .none rfl rfl rfl rfl rfl rfl (by simp) rfl ?_
 refine tv ?_
 refine rn0 (.cons (.tmp rfl) (.cons (.cellA ty31 rfl rfl rfl) (.cons (.cellA ty31 rfl rfl rfl) .nil))) (.tup (.cons (.eqd ?_) (.cons (.agg (.cons (.eqd ?_) (.cons (.eqd ?_) .nil))) (.cons (.agg (.cons (.eqd ?_) (.cons (.eqd ?_) .nil))) .nil))))
 all_goals (first | rfl | (simp []; done) | (simp_all; done) | (simp_all; omega) | omega)
end Go.Proofs.Ytpimgoacljakgaa
namespace Go.Proofs.Ytpimgoacljakgaa
open Go
set_option linter.unusedSimpArgs false
set_option linter.unusedVariables false
def prodL (ls : List (List Val)) : List (List Val) := ls.foldl (fun acc l => acc.flatMap fun o => l.map fun y => o ++ [y]) [[]]
def digits : List Val := (List.range 10).map fun (n : Nat) => Val.mk (-1) n []
def fullV (w : List Data) : Nat → Ty → List Val
 | 0, _ => []
 | n + 1, t => if t.data = -1 then digits else (ctorsOf w t).flatMap fun c => (prodL ((argsOf w t c).map (fullV w n))).map (Val.mk c 0)
def tupV (most : Nat) (ls : List (List Val)) : List (List Val) := ls.foldl (fun acc l => (acc.flatMap fun o => l.map fun y => o ++ [y]).take (most + 1)) [[]]
def allV (w : List Data) (most : Nat) : Nat → Ty → List Val
 | 0, _ => []
 | n + 1, t => if t.data = -1 then digits else ((ctorsOf w t).flatMap fun c => (tupV most ((argsOf w t c).map (allV w most n))).map (Val.mk c 0)).take (most + 1)
def prodN : List Nat → Nat
 | [] => 1
 | a :: r => a * prodN r
theorem step_len (acc : List (List Val)) (l : List Val) : (acc.flatMap fun o => l.map fun y => o ++ [y]).length = acc.length * l.length := by
 induction acc with
 | nil => simp
 | cons a r ih => simp only [List.flatMap_cons, List.length_append, List.length_map, ih, List.length_cons, Nat.add_mul]; omega
theorem foldl_len (ls : List (List Val)) : ∀ acc : List (List Val), (ls.foldl (fun acc l => acc.flatMap fun o => l.map fun y => o ++ [y]) acc).length = acc.length * prodN (ls.map List.length) := by
 induction ls with
 | nil => intro acc; simp [prodN]
 | cons l r ih => intro acc; simp only [List.foldl_cons, ih, step_len, List.map_cons, prodN, Nat.mul_assoc]
theorem prodL_len (ls : List (List Val)) : (prodL ls).length = prodN (ls.map List.length) := by unfold prodL; rw [foldl_len]; simp
theorem prodN_append (a b : List Nat) : prodN (a ++ b) = prodN a * prodN b := by
 induction a with
 | nil => simp [prodN]
 | cons x r ih => simp only [List.cons_append, prodN, ih, Nat.mul_assoc]
theorem prodN_zero {l : List Nat} (h : 0 ∈ l) : prodN l = 0 := by
 induction l with
 | nil => simp at h
 | cons x r ih =>
  rcases List.mem_cons.1 h with h | h
  ·simp [prodN, ← h]
  ·simp [prodN, ih h]
theorem prodN_pos {l : List Nat} (h : ∀ x, x ∈ l → 0 < x) : 0 < prodN l := by
 induction l with
 | nil => simp [prodN]
 | cons x r ih => exact Nat.mul_pos (h x (by simp)) (ih (fun y hy => h y (List.mem_cons_of_mem _ hy)))
def capN (n : Nat) : Nat := if 401 < n then 401 else n
theorem capN_mul (a b : Nat) : capN (capN a * capN b) = capN (a * b) := by
 have key : ∀ x y : Nat, 401 < x → capN (401 * capN y) = capN (x * y) := fun x y hx => by
  rcases Nat.eq_zero_or_pos y with h | h
  ·subst h; simp [capN]
  ·have h1 : 401 * 1 ≤ x * y := Nat.mul_le_mul (by omega) h
   have h2 : 1 ≤ capN y := by unfold capN; split <;> omega
   have h3 : 401 * 1 ≤ 401 * capN y := Nat.mul_le_mul_left _ h2
   have e1 : capN (401 * capN y) = 401 := by
    generalize capN y = z at *
    unfold capN
    split
    ·rfl
    ·rename_i h4; omega
   have e2 : capN (x * y) = 401 := by
    unfold capN
    split
    ·rfl
    ·rename_i h4; omega
   rw [e1, e2]
 by_cases ha : 401 < a
 ·have : capN a = 401 := by simp [capN, ha]
  rw [this]; exact key a b ha
 ·have e1 : capN a = a := by simp [capN, ha]
  by_cases hb : 401 < b
  ·have : capN b = 401 := by simp [capN, hb]
   rw [this, e1, Nat.mul_comm, Nat.mul_comm a b]
   have := key b a hb
   rw [e1] at this
   exact this
  ·have e2 : capN b = b := by simp [capN, hb]
   rw [e1, e2]
theorem capN_or (a : Nat) : (401 < a ∧ capN a = 401) ∨ (a ≤ 401 ∧ capN a = a) := by unfold capN; split <;> omega
theorem capN_add (a b : Nat) : capN (capN a + capN b) = capN (a + b) := by
 have h1 := capN_or a
 have h2 := capN_or b
 have h3 := capN_or (a + b)
 have h4 := capN_or (capN a + capN b)
 omega
theorem cap_nat (n : Nat) : cap (n : Int) = (capN n : Int) := by unfold cap capN; split <;> split <;> omega
theorem countArgs_eq {f : Ty → Int} {g : Ty → Nat} (h : ∀ t, f t = (capN (g t) : Int)) (l : List Ty) : countArgs f l = (capN (prodN (l.map g)) : Int) := by
 have key : ∀ (l : List Ty) (m : Nat), l.foldl (fun n a => cap (n * f a)) (capN m : Int) = (capN (m * prodN (l.map g)) : Int) := by
  intro l
  induction l with
  | nil => intro m; simp [prodN]
  | cons a r ih =>
   intro m
   simp only [List.foldl_cons, List.map_cons, prodN]
   rw [h a]
   have : cap ((capN m : Int) * (capN (g a) : Int)) = (capN (m * g a) : Int) := by
    rw [← Int.natCast_mul, cap_nat, capN_mul]
   rw [this, ih, Nat.mul_assoc]
 have := key l 1
 simpa [countArgs, capN] using this
theorem countSum_eq {f : Int → Int} {g : Int → Nat} (h : ∀ c, f c = (capN (g c) : Int)) (l : List Int) : countSum f l = (capN ((l.map g).sum) : Int) := by
 have key : ∀ (l : List Int) (m : Nat), l.foldl (fun s c => cap (s + f c)) (capN m : Int) = (capN (m + (l.map g).sum) : Int) := by
  intro l
  induction l with
  | nil => intro m; simp
  | cons a r ih =>
   intro m
   simp only [List.foldl_cons, List.map_cons, List.sum_cons]
   rw [h a]
   have : cap ((capN m : Int) + (capN (g a) : Int)) = (capN (m + g a) : Int) := by
    rw [← Int.natCast_add, cap_nat, capN_add]
   rw [this, ih, Nat.add_assoc]
 have := key l 0
 simpa [countSum, capN] using this
theorem flatMap_len {α β : Type} (f : α → List β) (l : List α) : (l.flatMap f).length = (l.map fun a => (f a).length).sum := by
 induction l with
 | nil => rfl
 | cons a r ih => simp [ih]
theorem countV_eq (w : List Data) : ∀ (n : Nat) (t : Ty), countV w n t = (capN (fullV w n t).length : Int)
 | 0, t => by simp [countV, fullV, capN]
 | n + 1, t => by
  unfold countV fullV
  split
  ·simp [digits, capN]
  ·rw [countSum_eq (g := fun c => ((prodL ((argsOf w t c).map (fullV w n))).map (Val.mk c 0)).length) (fun c => ?_), flatMap_len]
   rw [countArgs_eq (g := fun t => (fullV w n t).length) (fun t => countV_eq w n t), List.length_map, prodL_len, List.map_map]
   rfl
theorem len_of_count {w : List Data} {n : Nat} {t : Ty} (h : countV w n t ≤ 400) : ((fullV w n t).length : Int) = countV w n t := by
 rw [countV_eq] at h ⊢
 unfold capN at *
 split at h
 ·omega
 ·rename_i h1; simp [h1]
theorem count_zero {w : List Data} {n : Nat} {t : Ty} : countV w n t = 0 ↔ fullV w n t = [] := by
 rw [countV_eq, ← List.length_eq_zero_iff]
 unfold capN
 split <;> omega
theorem prod_none {w : List Data} {n : Nat} {l : List Ty} (h : (l.any fun a => decide (countV w n a = 0)) = true) : prodL (l.map (fullV w n)) = [] := by
 rw [← List.length_eq_zero_iff, prodL_len]
 obtain ⟨a, ha, h0⟩ := List.any_eq_true.1 h
 refine prodN_zero ?_
 simp only [List.map_map, List.mem_map]
 refine ⟨a, ha, ?_⟩
 have := count_zero.1 (of_decide_eq_true h0)
 simp [this]
theorem part_len {w : List Data} {n : Nat} {t : Ty} (ht : t.data ≠ -1) (hc : countV w (n + 1) t ≤ 400) {c : Int} (hm : c ∈ ctorsOf w t) {pre rest : List Ty} {y : Ty} (he : pre ++ y :: rest = argsOf w t c)
  (h0 : ((argsOf w t c).any fun a => decide (countV w n a = 0)) = false) : (prodL ((pre ++ [y]).map (fullV w n))).length ≤ 400 ∧ (fullV w n y).length ≤ 400 ∧ (prodL (pre.map (fullV w n))).length ≤ 400 := by
 have h1 := len_of_count hc
 have h2 : (prodL ((argsOf w t c).map (fullV w n))).length ≤ (fullV w (n + 1) t).length := by
  have e : fullV w (n + 1) t = (ctorsOf w t).flatMap fun c => (prodL ((argsOf w t c).map (fullV w n))).map (Val.mk c 0) := by rw [fullV, if_neg ht]
  obtain ⟨l1, l2, hl⟩ := List.append_of_mem hm
  rw [e, hl]
  simp
  omega
 have hpos : ∀ a, a ∈ argsOf w t c → 0 < (fullV w n a).length := fun a ha => by
  have := (List.any_eq_false.1 h0) a ha
  simp only [decide_eq_true_eq] at this
  have h3 : fullV w n a ≠ [] := fun h => this (count_zero.2 h)
  exact List.length_pos_iff.2 h3
 have h3 : (prodL ((argsOf w t c).map (fullV w n))).length = prodN ((pre.map fun a => (fullV w n a).length)) * ((fullV w n y).length * prodN (rest.map fun a => (fullV w n a).length)) := by
  rw [prodL_len, ← he]
  simp only [List.map_append, List.map_cons, List.map_map, prodN_append, prodN]
  rfl
 have h4 : (prodL ((pre ++ [y]).map (fullV w n))).length = prodN (pre.map fun a => (fullV w n a).length) * (fullV w n y).length := by
  rw [prodL_len]
  simp only [List.map_append, List.map_cons, List.map_nil, List.map_map, prodN_append, prodN, Nat.mul_one]
  rfl
 have p1 : 0 < prodN (rest.map fun a => (fullV w n a).length) := prodN_pos (fun x hx => by
  obtain ⟨a, ha, rfl⟩ := List.mem_map.1 hx
  exact hpos a (by rw [← he]; simp [ha]))
 have p2 : 0 < prodN (pre.map fun a => (fullV w n a).length) := prodN_pos (fun x hx => by
  obtain ⟨a, ha, rfl⟩ := List.mem_map.1 hx
  exact hpos a (by rw [← he]; simp [ha]))
 have h5 : prodN (pre.map fun a => (fullV w n a).length) * (fullV w n y).length ≤ prodN ((pre.map fun a => (fullV w n a).length)) * ((fullV w n y).length * prodN (rest.map fun a => (fullV w n a).length)) := by
  rw [← Nat.mul_assoc]; exact Nat.le_mul_of_pos_right _ p1
 have h6 : (fullV w n y).length ≤ prodN (pre.map fun a => (fullV w n a).length) * (fullV w n y).length := Nat.le_mul_of_pos_left _ p2
 have h7 : prodN (pre.map fun a => (fullV w n a).length) ≤ prodN (pre.map fun a => (fullV w n a).length) * (fullV w n y).length := Nat.le_mul_of_pos_right _ (hpos y (by rw [← he]; simp))
 have h8 : (prodL (pre.map (fullV w n))).length = prodN (pre.map fun a => (fullV w n a).length) := by rw [prodL_len, List.map_map]; rfl
 omega
theorem take_flatMap {α β : Type} (m : Nat) (f : α → List β) : ∀ l : List α, (l.flatMap fun a => (f a).take m).take m = (l.flatMap f).take m
 | [] => rfl
 | a :: r => by
  simp only [List.flatMap_cons, List.take_append, List.take_take, Nat.min_self, List.length_take]
  by_cases h : m ≤ (f a).length
  ·have e1 : m - min m (f a).length = 0 := by omega
   have e2 : m - (f a).length = 0 := by omega
   rw [e1, e2]; simp
  ·have e1 : min m (f a).length = (f a).length := by omega
   rw [e1]
   congr 1
   -- the rest: fewer are wanted
   have key : ∀ (m' : Nat), m' ≤ m → (r.flatMap fun a => (f a).take m).take m' = (r.flatMap f).take m' := fun m' hm' => by
    have := congrArg (List.take m') (take_flatMap m f r)
    rwa [List.take_take, List.take_take, Nat.min_eq_left hm'] at this
   exact key _ (by omega)
theorem take_flatMap_l {α β : Type} (m : Nat) (f : α → List β) (hf : ∀ a, 0 < (f a).length) : ∀ (l : List α), ((l.take m).flatMap f).take m = (l.flatMap f).take m
 | [] => by simp
 | a :: r => by
  cases m with
  | zero => simp
  | succ m =>
   simp only [List.take_succ_cons, List.flatMap_cons, List.take_append]
   congr 1
   have key : ∀ (m' : Nat), m' ≤ m → ((r.take m).flatMap f).take m' = (r.flatMap f).take m' := fun m' hm' => by
    have := congrArg (List.take m') (take_flatMap_l m f hf r)
    rwa [List.take_take, List.take_take, Nat.min_eq_left hm'] at this
   exact key _ (by have := hf a; omega)
theorem step_take (m : Nat) (acc : List (List Val)) (l : List Val) : (((acc.take m).flatMap fun o => (l.take m).map fun y => o ++ [y])).take m = (acc.flatMap fun o => l.map fun y => o ++ [y]).take m := by
 have h1 : ∀ a : List (List Val), ((a.flatMap fun o => (l.take m).map fun y => o ++ [y])).take m = (a.flatMap fun o => l.map fun y => o ++ [y]).take m := fun a => by
  have := take_flatMap m (fun o : List Val => l.map fun y => o ++ [y]) a
  simpa [List.map_take] using this
 rw [h1]
 by_cases hl : l = []
 ·subst hl; simp only [List.map_nil]; have e : ∀ a : List (List Val), (a.flatMap fun _ => ([] : List (List Val))) = [] := fun a => by simp
  rw [e, e]
 ·exact take_flatMap_l m _ (fun o => by simpa using List.length_pos_iff.2 hl) acc
theorem tupV_eq (m : Nat) (ls : List (List Val)) : tupV m (ls.map (List.take (m + 1))) = (prodL ls).take (m + 1) := by
 unfold tupV prodL
 have key : ∀ (ls acc : List (List Val)), (ls.map (List.take (m + 1))).foldl (fun acc l => (acc.flatMap fun o => l.map fun y => o ++ [y]).take (m + 1)) (acc.take (m + 1)) = (ls.foldl (fun acc l => acc.flatMap fun o => l.map fun y => o ++ [y]) acc).take (m + 1) := by
  intro ls
  induction ls with
  | nil => intro acc; rfl
  | cons l r ih => intro acc; simp only [List.map_cons, List.foldl_cons, step_take]; exact ih _
 have := key ls [[]]
 simpa using this
theorem allV_eq (w : List Data) (m : Nat) (hm : 9 ≤ m) : ∀ (n : Nat) (t : Ty), allV w m n t = (fullV w n t).take (m + 1)
 | 0, t => by simp [allV, fullV]
 | n + 1, t => by
  unfold allV fullV
  split
  ·rw [List.take_of_length_le (by simp [digits]; omega)]
  ·have e : ∀ c, tupV m ((argsOf w t c).map (allV w m n)) = (prodL ((argsOf w t c).map (fullV w n))).take (m + 1) := fun c => by
    rw [← tupV_eq, List.map_map]
    congr 1
    exact List.map_congr_left (fun a _ => allV_eq w m hm n a)
   simp only [e, List.map_take]
   exact take_flatMap (m + 1) (fun c => (prodL ((argsOf w t c).map (fullV w n))).map (Val.mk c 0)) _
theorem tup_le (m : Nat) (ls : List (List Val)) (acc : List (List Val)) (h : acc.length ≤ m + 1) : (ls.foldl (fun acc l => (acc.flatMap fun o => l.map fun y => o ++ [y]).take (m + 1)) acc).length ≤ m + 1 := by
 induction ls generalizing acc with
 | nil => exact h
 | cons l r ih => exact ih _ (by simp; omega)
theorem allV_len (w : List Data) (m : Nat) (hm : 9 ≤ m) (n : Nat) (t : Ty) : (allV w m n t).length ≤ m + 1 := by
 rw [allV_eq w m hm]; simp; omega
end Go.Proofs.Ytpimgoacljakgaa
namespace Go.Proofs.Ytpimgoacljakgaa
open Go
set_option linter.unusedSimpArgs false
set_option linter.unusedVariables false
set_option maxRecDepth 100000
set_option maxHeartbeats 2000000
theorem Val.cs_cc (l : List Val) : Val.cs l = l.map Val.cc := by
 rw [Val.cs_eq]; exact List.map_congr_left (fun v _ => Val.c_eq v)
theorem slices_Clone_Val_fn {xs : List Val} (hs : xs.length ≤ 1000000000000) : FnD Try.prog 148 [.d (encVals xs)] [] (.gl 77 (Val.cs xs)) [(77, some (.tok (Val.cs xs).length 3))] := by
 refine Fn.body (fn := Try.f148) (n := 8) rfl rfl rfl rfl rfl (fun w0 F0 own kept hk => ?_)
 refine CWp.splitNil 0 rfl (fun hx0 => ?_) ?_
 ·
  refine evc [2, 4] [] ?_
  refine asg ?_
  refine tv ?_
  refine Walk.eqNilT sl37 .none rfl rfl ?_
  refine tv ?_
  refine sqT ?_
  refine Walk.assignNil 77 3 .none rfl rfl ?_
  refine tv ?_
  refine rn [(77, some (.tok (Val.cs xs).length 3))] (r1 rfl) (.glg ?_) ⟨rfl, rfl⟩ (SubH.get ⟨(by first | rfl | (simp [hx0]; rfl) | (simp; rfl)), trivial⟩) (boxOK rfl)
  all_goals (first | rfl | exact hx0.symm | (simp; done))
 ·
  refine evc [2, 4] [] ?_
  refine asg ?_
  refine tv ?_
  refine Walk.eqNilF sl37 .none rfl rfl ?_
  refine tv ?_
  refine sqF ?_
  refine Walk.sliceEmptyG 77 sl37 .none rfl rfl ?_
  refine evs [2, 4] [] ?_
  refine Walk.append sl37 zz39 rfl .none rfl rfl rfl rfl (htokL rfl (by first | rfl | (simp; done) | (simp; omega))) (by intro y hy; rw [Val.cs_cc] at hy; obtain ⟨z, _, rfl⟩ := List.mem_map.1 hy; rfl) (by simp [Val.cs_len]; omega) (by simp [Val.cs_len]; omega) ?_
  refine asg ?_
  refine tv ?_
  refine rn [(77, some (.tok (Val.cs xs).length 3))] (r1 rfl) (.glg ?_) ⟨rfl, rfl⟩ (SubH.get ⟨(by first | rfl | (simp [hx0]; rfl) | (simp; rfl)), trivial⟩) (boxOK rfl)
  all_goals (first | rfl | exact hx0.symm | (simp; done))
theorem impl_ownValue_fn : ∀ (n : Nat) {v : Val}, v.size ≤ n → v.ok → FnD Try.prog 106 [.agg [.d (.i v.ctor), .d (.i v.num), .d (encVals v.kids)]] [] (.agg [.d (.i v.ctor), .d (.i v.num), .d (encVals v.kids)]) []
 | 0, v, h, _ => by rw [Val.size_eq] at h; omega
 | n + 1, v, h, hok => by
  rw [Val.size_eq] at h
  rw [Val.ok_iff] at hok
  have hok1 := hok.1
  refine bd Try.f106 27 [] [] fun w0 F0 own kept hk => ?_
  refine Walk.box (id := 3001) .none rfl rfl rfl rfl rfl rfl rfl ?_
  refine Walk.alloc (id := 3002) tz39 rfl .none rfl rfl rfl rfl ?_
  refine tv ?_
  refine Walk.build st39 (ks := [0, 1]) (xs := [_, _]) rfl rfl .none rfl rfl rfl ?_
  refine Walk.alloc (id := 3003) tz39 rfl .none rfl rfl rfl rfl ?_
  refine Walk.store ty39 .none rfl rfl rfl rfl rfl rfl (by simp) rfl ?_
  refine tv ?_
  refine CWp.tokB 3003 2 7 3 rfl rfl rfl rfl ?_
  refine CWp.loopX (ι := List (Val) × List (Val)) hk (fun x => [(14, .d (.i (x.1.length : Int)))]) [5, 15, 16, 17, 18, 19, 20, 21, 22, 23, 24, 25] (fun x => [(3003, some (.box [.d (.i v.ctor), .d (.i v.num), .gl 7 (x.1.map Val.cc)])), (7, some (.tok (x.1.map Val.cc).length 3))]) (fun x => x.1 ++ x.2 = v.kids) (fun x => x.2.length) ([], v.kids) (by simp) ⟨⟨_, rfl, (LeA.eqi (by first | rfl | (simp; done) | (simp_all; done) | omega))⟩, trivial⟩ ⟨(by first | rfl | (simp [getH]; done)), ⟨beq_nat_eq (by first | rfl | (simp; done) | (simp; omega) | (first | rfl | (simp; done) | (simp_all; done) | omega)), trivial⟩⟩ (fun x => rfl) (fun x hg1 => ?_)
  obtain ⟨pre, rest⟩ := x
  dsimp only at hg1 ⊢
  refine evc [] [] ?_
  refine sq (fun h1 h1p h1s => ?_) fun h1 h1p h1s => ?_
  ·try simp only [Q, Val.cs_len] at h1p
   rcases rest with _ | ⟨y, rest⟩
   ·exfalso; simp_all
   refine Walk.idx sl37 .none rfl rfl rfl rfl (Val.cs_at hg1) rfl ?_
   refine ev ?_
   refine Walk.alloc (id := 3005) tz39 rfl .none rfl rfl rfl rfl ?_
   refine Walk.store ty39 .none rfl rfl rfl rfl rfl rfl (by simp) rfl ?_
   refine tv ?_
   refine Walk.call (cr := []) cal106 (impl_ownValue_fn n (v := y) (by have := Vals.size_mem (l := v.kids) (v := y) (by rw [← hg1]; simp); omega) (Vals.ok_mem hok.2 y (by rw [← hg1]; simp))) rfl .none rfl rfl (LeL.refl _) trivial rfl rfl rfl ?_
   refine Walk.sliceLit sl37 tz39 rfl (by decide) (ks := [0]) (xs := [_]) rfl rfl (by decide) (by decide) .none rfl rfl rfl rfl ?_
   refine Walk.append sl37 zz39 rfl .none rfl rfl rfl rfl (htokL rfl (by first | rfl | (simp; done) | (simp; omega))) (by simp) (by have := congrArg List.length hg1; simp at this; simp; omega) (by have := congrArg List.length hg1; simp at this; simp; omega) ?_
   refine evd [] [] ?_
   refine Walk.store ty37 .none rfl rfl rfl rfl rfl rfl (by simp) rfl ?_
   refine dr ?_
   refine ar ?_
   refine Exists.intro ((pre ++ [y], rest)) ⟨(by have hz := hg1; rw [← hz]; simp), (by simp), Sub.x (by kernel_rfl) (by kernel_rfl) ⟨⟨_, rfl, (LeA.eqi (by first | rfl | (simp; done) | (simp_all; done) | omega))⟩, trivial⟩ (by kernel_rfl) (by kernel_rfl) ⟨(by first | rfl | (simp [getH]; done)), ⟨beq_nat_eq (by first | rfl | (simp; done) | (simp; omega) | (first | rfl | (simp; done) | (simp_all; done) | omega)), trivial⟩⟩⟩
  ·try simp only [Q, Val.cs_len] at h1p
   have hrest : rest = [] := by
    rcases rest with _ | ⟨a, b⟩
    ·rfl
    ·exfalso; have hz := congrArg List.length (hg1); simp only [List.length_append, List.length_cons, List.length_map] at hz; omega
   subst hrest
   refine Walk.store ty39 .none rfl rfl rfl rfl rfl rfl (by simp) rfl ?_
   refine tv ?_
   refine rn0 (.cons (.cellA ty39 rfl rfl rfl) .nil) (.agg (.cons (.eqd ?_) (.cons (.eqd ?_) (.cons (.gld ?_) .nil))))
   all_goals (first | rfl | (rw [List.append_nil] at hg1; rw [← hg1, Val.cs_cc]; done))
theorem spec_l2Copy_fn : ∀ (n : Nat) {v : Val}, v.size ≤ n → v.ok → FnD Try.prog 109 [.agg [.d (.i v.ctor), .d (.i v.num), .d (encVals v.kids)]] [] (.agg [.d (.i v.ctor), .d (.i v.num), .d (encVals v.kids)]) []
 | 0, v, h, _ => by rw [Val.size_eq] at h; omega
 | n + 1, v, h, hok => by
  rw [Val.size_eq] at h
  rw [Val.ok_iff] at hok
  have hok1 := hok.1
  refine bd Try.f109 29 [] [] fun w0 F0 own kept hk => ?_
  refine Walk.box (id := 3001) .none rfl rfl rfl rfl rfl rfl rfl ?_
  refine Walk.alloc (id := 3002) tz39 rfl .none rfl rfl rfl rfl ?_
  refine tv ?_
  refine Walk.build st39 (ks := [0, 1]) (xs := [_, _]) rfl rfl .none rfl rfl rfl ?_
  refine Walk.alloc (id := 3003) tz39 rfl .none rfl rfl rfl rfl ?_
  refine Walk.store ty39 .none rfl rfl rfl rfl rfl rfl (by simp) rfl ?_
  refine tv ?_
  refine CWp.tokB 3003 2 7 3 rfl rfl rfl rfl ?_
  refine CWp.loopX (ι := List (Val) × List (Val)) hk (fun x => [(4, .d (.i (x.1.length : Int)))]) [10, 11, 12, 13, 14, 15, 16, 17, 18, 19, 20, 21, 22, 23, 24, 25, 26, 27] (fun x => [(3003, some (.box [.d (.i v.ctor), .d (.i v.num), .gl 7 (x.1.map Val.cc)])), (7, some (.tok (x.1.map Val.cc).length 3))]) (fun x => x.1 ++ x.2 = v.kids) (fun x => x.2.length) ([], v.kids) (by simp) ⟨⟨_, rfl, (LeA.eqi (by first | rfl | (simp; done) | (simp_all; done) | omega))⟩, trivial⟩ ⟨(by first | rfl | (simp [getH]; done)), ⟨beq_nat_eq (by first | rfl | (simp; done) | (simp; omega) | (first | rfl | (simp; done) | (simp_all; done) | omega)), trivial⟩⟩ (fun x => rfl) (fun x hg1 => ?_)
  obtain ⟨pre, rest⟩ := x
  dsimp only at hg1 ⊢
  refine evc [] [] ?_
  refine sq (fun h1 h1p h1s => ?_) fun h1 h1p h1s => ?_
  ·try simp only [Q, Val.cs_len] at h1p
   rcases rest with _ | ⟨y, rest⟩
   ·exfalso; simp_all
   refine Walk.idx sl37 .none rfl rfl rfl rfl (Val.cs_at hg1) rfl ?_
   refine evd [] [] ?_
   refine Walk.call (cr := []) cal109 (spec_l2Copy_fn n (v := y) (by have := Vals.size_mem (l := v.kids) (v := y) (by rw [← hg1]; simp); omega) (Vals.ok_mem hok.2 y (by rw [← hg1]; simp))) rfl .none rfl rfl (LeL.refl _) trivial rfl rfl rfl ?_
   refine Walk.sliceLit sl37 tz39 rfl (by decide) (ks := [0]) (xs := [_]) rfl rfl (by decide) (by decide) .none rfl rfl rfl rfl ?_
   refine Walk.append sl37 zz39 rfl .none rfl rfl rfl rfl (htokL rfl (by first | rfl | (simp; done) | (simp; omega))) (by simp) (by have := congrArg List.length hg1; simp at this; simp; omega) (by have := congrArg List.length hg1; simp at this; simp; omega) ?_
   refine evd [] [] ?_
   refine Walk.store ty37 .none rfl rfl rfl rfl rfl rfl (by simp) rfl ?_
   refine dr ?_
   refine ar ?_
   refine Exists.intro ((pre ++ [y], rest)) ⟨(by have hz := hg1; rw [← hz]; simp), (by simp), Sub.x (by kernel_rfl) (by kernel_rfl) ⟨⟨_, rfl, (LeA.eqi (by first | rfl | (simp; done) | (simp_all; done) | omega))⟩, trivial⟩ (by kernel_rfl) (by kernel_rfl) ⟨(by first | rfl | (simp [getH]; done)), ⟨beq_nat_eq (by first | rfl | (simp; done) | (simp; omega) | (first | rfl | (simp; done) | (simp_all; done) | omega)), trivial⟩⟩⟩
  ·try simp only [Q, Val.cs_len] at h1p
   have hrest : rest = [] := by
    rcases rest with _ | ⟨a, b⟩
    ·rfl
    ·exfalso; have hz := congrArg List.length (hg1); simp only [List.length_append, List.length_cons, List.length_map] at hz; omega
   subst hrest
   refine Walk.store ty39 .none rfl rfl rfl rfl rfl rfl (by simp) rfl ?_
   refine tv ?_
   refine rn0 (.cons (.cellA ty39 rfl rfl rfl) .nil) (.agg (.cons (.eqd ?_) (.cons (.eqd ?_) (.cons (.gld ?_) .nil))))
   all_goals (first | rfl | (rw [List.append_nil] at hg1; rw [← hg1, Val.cs_cc]; done))
def ctorV (w : List Data) (n : Nat) (t : Ty) (c : Int) : List Val := (prodL ((argsOf w t c).map (fullV w n))).map (Val.mk c 0)
theorem ctorV_len (w : List Data) (n : Nat) (t : Ty) (c : Int) : (prodL ((argsOf w t c).map (fullV w n))).length = (ctorV w n t c).length := by unfold ctorV; simp
theorem fullV_ctors {w : List Data} {n : Nat} {t : Ty} (ht : t.data ≠ -1) : fullV w (n + 1) t = (ctorsOf w t).flatMap (ctorV w n t) := by rw [fullV, if_neg ht]; rfl
theorem ctorV_none {w : List Data} {n : Nat} {t : Ty} {c : Int} (h : ((argsOf w t c).any fun a => decide (countV w n a = 0)) = true) : ctorV w n t c = [] := by
 unfold ctorV; rw [prod_none h]; rfl
theorem pre_len {w : List Data} {n : Nat} {t : Ty} (ht : t.data ≠ -1) (hc : countV w (n + 1) t ≤ 400) {pre rest : List Int} {c : Int} (he : pre ++ c :: rest = ctorsOf w t) :
  (pre.flatMap (ctorV w n t)).length + (ctorV w n t c).length ≤ 400 := by
 have h := len_of_count hc
 rw [fullV_ctors ht, ← he] at h
 simp at h
 have h2 : (pre.flatMap (ctorV w n t)).length = (pre.map fun a => (ctorV w n t a).length).sum := flatMap_len _ _
 omega
theorem prodL_mem : ∀ {ls : List (List Val)} {o : List Val}, o ∈ prodL ls → o.length = ls.length := by
 intro ls
 have key : ∀ (ls acc : List (List Val)) (m : Nat), (∀ o ∈ acc, o.length = m) → ∀ o ∈ ls.foldl (fun acc l => acc.flatMap fun o => l.map fun y => o ++ [y]) acc, o.length = m + ls.length := by
  intro ls
  induction ls with
  | nil => intro acc m h o ho; exact h o ho
  | cons l r ih =>
   intro acc m h o ho
   have := ih _ (m + 1) (fun o' ho' => by
    simp only [List.mem_flatMap, List.mem_map] at ho'
    obtain ⟨p, hp, q, _, rfl⟩ := ho'
    simp [h p hp]) o ho
   simp only [List.length_cons]; omega
 intro o ho
 have := key ls [[]] 0 (by simp) o ho
 simpa using this
theorem kids_len {c : Int} {ls : List (List Val)} {v : Val} (h : v ∈ (prodL ls).map (Val.mk c 0)) : v.kids.length = ls.length := by
 obtain ⟨o, ho, rfl⟩ := List.mem_map.1 h
 exact prodL_mem ho
def grow1 (c : Int) (kids : List Val) (v : Val) : List Val := kids.map fun q => Val.mk c 0 (v.kids ++ [q])
theorem grow_prod (c : Int) (ls : List (List Val)) (l : List Val) : ((prodL ls).map (Val.mk c 0)).flatMap (grow1 c l) = (prodL (ls ++ [l])).map (Val.mk c 0) := by
 unfold prodL
 rw [List.foldl_append]
 generalize ls.foldl (fun acc l => acc.flatMap fun o => l.map fun y => o ++ [y]) [[]] = acc
 simp only [List.foldl_cons, List.foldl_nil, List.flatMap_map, List.map_flatMap, List.map_map]
 rfl
theorem more_len {c : Int} {L K pre3 rest3 pre4 rest4 : List Val} {v q : Val} {N : Nat} (h3 : pre3 ++ v :: rest3 = L) (h4 : pre4 ++ q :: rest4 = K) (hN : (L.flatMap (grow1 c K)).length ≤ N) :
  (pre3.flatMap (grow1 c K) ++ pre4.map fun q => Val.mk c 0 (v.kids ++ [q])).length + 1 ≤ N := by
 subst h3
 have e : ((pre3 ++ v :: rest3).flatMap (grow1 c K)).length = (pre3.flatMap (grow1 c K)).length + (K.length + (rest3.flatMap (grow1 c K)).length) := by simp [grow1]
 have e2 : K.length = pre4.length + (rest4.length + 1) := by rw [← h4]; simp
 simp only [List.length_append, List.length_map] at *
 omega
theorem impl_values_1_fn {w : List Data} (hw : WT w) {n : Nat} {m : Int} (hm : m = n + 1) (hn : n ≤ 1000) {a k : Int} (ht : TyIn w.length ⟨a, k⟩) :
  FnD Try.prog 147 [.agg [.d (.i a), .d (.i k)], .ref 3003 0, .ref 3005 0] [(3003, some (.box [.d (encDatas w)])), (3005, some (.box [.d (.i m)]))] (.d (.bool (decide (countV w n ⟨a, k⟩ = 0)))) [] := by
 refine bd Try.f147 11 [] [] fun w0 F0 own kept hk => ?_
 refine Walk.box (id := 3103) .none rfl rfl rfl rfl rfl rfl rfl ?_
 refine ev ?_
 refine ar ?_
 refine Walk.call (cr := []) cal104 (impl_countValues_fn hw n (by omega) hn ht) rfl .none rfl rfl (LeL.refl _) trivial rfl rfl rfl ?_
 refine ev ?_
 refine rn [] (r1 rfl) (.eqd ?_) ⟨rfl, rfl⟩ (SubH.get ⟨rfl, ⟨rfl, trivial⟩⟩) (fun _ h => h)
 all_goals (first | rfl | (simp []; done) | (simp_all; done) | (simp_all; omega) | omega)
theorem impl_values_fn {w : List Data} (hw : WT w) : ∀ (n : Nat) {a k m : Int}, m = n → n ≤ 1000 → TyIn w.length ⟨a, k⟩ → countV w n ⟨a, k⟩ ≤ 400 →
  FnD Try.prog 105 [.d (encDatas w), .agg [.d (.i a), .d (.i k)], .d (.i m)] [] (.d (encVals (fullV w n ⟨a, k⟩))) []
 | 0, a, k, m, hm, _, _, _ => by
  refine bd Try.f105 97 [7] [] fun w0 F0 own kept hk => ?_
  refine Walk.box (id := 3003) .none rfl rfl rfl rfl rfl rfl rfl ?_
  refine Walk.box (id := 3004) .none rfl rfl rfl rfl rfl rfl rfl ?_
  refine Walk.box (id := 3005) .none rfl rfl rfl rfl rfl rfl rfl ?_
  refine evs [7] [] ?_
  refine Walk.assignNil 1 3 .none rfl rfl ?_
  refine tv ?_
  refine sq (fun h1 h1p h1s => ?_) fun h1 h1p h1s => ?_
  ·try simp only [Q] at h1p
   refine rn0 (r1 rfl) (.nild ?_)
   all_goals (rfl)
  ·try simp only [Q] at h1p
   exfalso; simp at h1; omega --stop
 | n + 1, a, k, m, hm, hn, ht, hc => by
  rcases ht with ha | ⟨d, hd, hlt⟩
  ·have ha' : a = -1 := ha
   subst ha'
   refine bd Try.f105 97 [7] [] fun w0 F0 own kept hk => ?_
   refine Walk.box (id := 3003) .none rfl rfl rfl rfl rfl rfl rfl ?_
   refine Walk.box (id := 3004) .none rfl rfl rfl rfl rfl rfl rfl ?_
   refine Walk.box (id := 3005) .none rfl rfl rfl rfl rfl rfl rfl ?_
   refine evs [7] [] ?_
   refine Walk.assignNil 1 3 .none rfl rfl ?_
   refine tv ?_
   refine sq (fun h1 h1p h1s => ?_) fun h1 h1p h1s => ?_
   ·try simp only [Q] at h1p
    exfalso; simp at h1; omega --stop
   ·try simp only [Q] at h1p
    refine sq (fun h2 h2p h2s => ?_) fun h2 h2p h2s => ?_
    ·try simp only [Q] at h2p
     refine CWp.loopX (ι := Nat) hk (fun i => [(26, .d (.i (i : Int))), (7, .gl 1 (((List.range i).map fun (n : Nat) => Val.mk (-1) n []).map Val.cc))]) [8, 27, 28, 29, 30, 31, 32, 33, 34] (fun i => [(1, some (.tok ((((List.range i).map fun (n : Nat) => Val.mk (-1) n []).map Val.cc)).length 3))]) (fun i => i ≤ 10) (fun i => 10 - i) 0 (by simp) ⟨⟨_, rfl, (LeA.eqi (by first | rfl | (simp [List.range_succ, Val.ctor, Val.num, Val.kids]; done)))⟩, ⟨⟨_, rfl, (LeA.glg (by first | rfl | (simp [List.range_succ, Val.ctor, Val.num, Val.kids]; done)))⟩, trivial⟩⟩ ⟨beq_nat_eq (by first | rfl | (simp; done) | (simp; omega) | (first | rfl | (simp [List.range_succ, Val.ctor, Val.num, Val.kids]; done))), trivial⟩ (fun x => rfl) (fun i hg1 => ?_)
     refine evc [7] [] ?_
     refine sq (fun h3 h3p h3s => ?_) fun h3 h3p h3s => ?_
     ·try simp only [Q] at h3p
      refine Walk.call (cr := []) cal146 (impl_number_fn) rfl .none rfl rfl (LeL.refl _) trivial rfl rfl rfl ?_
      refine Walk.sliceLit sl37 tz39 rfl (by decide) (ks := [0]) (xs := [_]) rfl rfl (by decide) (by decide) .none rfl rfl rfl rfl ?_
      refine Walk.append sl37 zz39 rfl .none rfl rfl rfl rfl (htokL rfl (by first | rfl | (simp; done) | (simp; omega))) (by simp) (by simp; omega) (by simp; omega) ?_
      refine asg ?_
      refine tv ?_
      refine ar ?_
      refine Exists.intro (i + 1) ⟨?_, ?_, Sub.x (by kernel_rfl) (by kernel_rfl) ⟨⟨_, rfl, (LeA.eqi (by first | rfl | (simp [List.range_succ, Val.ctor, Val.num, Val.kids]; done)))⟩, ⟨⟨_, rfl, (LeA.glg (by first | rfl | (simp [List.range_succ, Val.ctor, Val.num, Val.kids]; done)))⟩, trivial⟩⟩ (by kernel_rfl) (by kernel_rfl) ⟨beq_nat_eq (by first | rfl | (simp; done) | (simp; omega) | (first | rfl | (simp [List.range_succ, Val.ctor, Val.num, Val.kids]; done))), trivial⟩⟩
      all_goals first | omega | (simp_all; done) | (simp_all; omega)
     ·try simp only [Q] at h3p
      refine rn0 (r1 rfl) (.gld ?_)
      all_goals (have e : i = 10 := (by omega); subst e; rw [fullV, if_pos rfl, Val.cs_cc]; rfl)
    ·try simp only [Q] at h2p
     exact absurd h2 (by simp) --stop
  have hd' : a = (d : Int) := hd
  subst hd'
  have hne : (⟨d, k⟩ : Ty).data ≠ -1 := by show (d : Int) ≠ -1; omega
  have hcl := ctorsOf_len hw (d := d) (k := k)
  refine bd Try.f105 97 [7, 16] [] fun w0 F0 own kept hk => ?_
  refine Walk.box (id := 3003) .none rfl rfl rfl rfl rfl rfl rfl ?_
  refine Walk.box (id := 3004) .none rfl rfl rfl rfl rfl rfl rfl ?_
  refine Walk.box (id := 3005) .none rfl rfl rfl rfl rfl rfl rfl ?_
  refine evs [7, 16] [] ?_
  refine Walk.assignNil 1 3 .none rfl rfl ?_
  refine tv ?_
  refine sq (fun h1 h1p h1s => ?_) fun h1 h1p h1s => ?_
  ·try simp only [Q, Val.cs_len, Ty.eta] at h1p
   exfalso; simp at h1; omega --stop
  ·try simp only [Q, Val.cs_len, Ty.eta] at h1p
   refine sq (fun h2 h2p h2s => ?_) fun h2 h2p h2s => ?_
   ·try simp only [Q, Val.cs_len, Ty.eta] at h2p
    exfalso; simp at h2 <;> omega --stop
   ·try simp only [Q, Val.cs_len, Ty.eta] at h2p
    refine Walk.call (cr := []) cal128 (impl_ctorsOf_in hw hlt) rfl .none rfl rfl (LeL.refl _) trivial rfl rfl rfl ?_
    refine evs [7, 16] [] ?_
    refine CWp.loopX (ι := List (Int) × List (Int)) hk (fun x => [(40, .d (.i (x.1.length : Int))), (7, .gl 1 ((x.1.flatMap (ctorV w n ⟨d, k⟩)).map Val.cc))]) [10, 11, 12, 14, 15, 16, 18, 20, 41, 42, 43, 44, 45, 46, 47, 48, 49, 50, 51, 52, 53, 54, 55, 56, 57, 58, 59, 60, 61, 62, 63, 64, 65, 66, 67, 68, 69, 70, 71, 72, 73, 74, 75, 76, 77, 78, 79, 80, 81, 82, 83, 84, 85, 86, 87, 88, 89, 90, 91, 92, 93, 94, 95] (fun x => [(1, some (.tok (((x.1.flatMap (ctorV w n ⟨d, k⟩)).map Val.cc)).length 3))]) (fun x => x.1 ++ x.2 = ctorsOf w ⟨d, k⟩) (fun x => x.2.length) ([], ctorsOf w ⟨d, k⟩) (by simp) ⟨⟨_, rfl, (LeA.eqi (by first | rfl | (simp; done) | (rw [List.flatMap_append, List.map_append]; simp [ctorV_none, hk]; done) | (rw [List.append_nil] at hg3; rw [List.flatMap_append, List.map_append, hg3]; simp [ctorV]; done)))⟩, ⟨⟨_, rfl, (LeA.glg (by first | rfl | (simp; done) | (rw [List.flatMap_append, List.map_append]; simp [ctorV_none, hk]; done) | (rw [List.append_nil] at hg3; rw [List.flatMap_append, List.map_append, hg3]; simp [ctorV]; done)))⟩, trivial⟩⟩ ⟨beq_nat_eq (by first | rfl | (simp; done) | (simp; omega) | (first | rfl | (simp; done) | (rw [List.flatMap_append, List.map_append]; simp [ctorV_none, hk]; done) | (rw [List.append_nil] at hg3; rw [List.flatMap_append, List.map_append, hg3]; simp [ctorV]; done))), trivial⟩ (fun x => rfl) (fun x hg2 => ?_)
    obtain ⟨pre, rest⟩ := x
    dsimp only at hg2 ⊢
    refine evc [7, 16] [] ?_
    refine sq (fun h3 h3p h3s => ?_) fun h3 h3p h3s => ?_
    ·try simp only [Q, Val.cs_len, Ty.eta] at h3p
     rcases rest with _ | ⟨c, rest⟩
     ·exfalso; simp_all
     have hal := argsOf_len hw hlt (k := k) (place_of (k := k) (c := c) (by rw [← hg2]; simp)); have hpre := pre_len hne hc hg2
     refine Walk.idx sl66 .none rfl rfl rfl rfl (zip_at hg2) rfl ?_
     refine evs [7, 16] [] ?_
     refine Walk.call (cr := []) cal129 (impl_argTypes_in hw hlt (place_of (k := k) (c := c) (by rw [← hg2]; simp))) rfl .none rfl rfl (LeL.refl _) trivial rfl rfl rfl ?_
     refine evs [7, 16] [] ?_
     refine Walk.closure (xs := [_, _]) rfl .none rfl rfl ?_
     refine Walk.call (cr := []) cal98 (slices_ContainsFunc_Ty_fn (p := fun t => decide (countV w n t = 0)) hal cal147 (fun t ht => impl_values_1_fn hw (n := n) (by omega) (by omega) (argsOf_in hw hlt (k := k) (place_of (k := k) (c := c) (by rw [← hg2]; simp)) ht)) ⟨rfl, rfl, trivial⟩ rfl rfl) rfl .none rfl rfl (LeL.refl _) ⟨rfl, rfl, trivial⟩ rfl rfl rfl ?_
     refine tv ?_
     refine sq (fun h4 h4p h4s => ?_) fun h4 h4p h4s => ?_
     ·try simp only [Q, Val.cs_len, Ty.eta] at h4p
      refine ar ?_
      refine Exists.intro ((pre ++ [c], rest)) ⟨(by have hz := hg2; rw [← hz]; simp), (by simp), Sub.x (by kernel_rfl) (by kernel_rfl) ⟨⟨_, rfl, (LeA.eqi (by first | rfl | (simp; done) | (rw [List.flatMap_append, List.map_append]; simp [ctorV_none, h1s, h1p, h2s, h2p, h3s, h3p, h4s, h4p]; done) | (rw [List.append_nil] at hg3; rw [List.flatMap_append, List.map_append, hg3]; simp [ctorV]; done)))⟩, ⟨⟨_, rfl, (LeA.glg (by first | rfl | (simp; done) | (rw [List.flatMap_append, List.map_append]; simp [ctorV_none, h1s, h1p, h2s, h2p, h3s, h3p, h4s, h4p]; done) | (rw [List.append_nil] at hg3; rw [List.flatMap_append, List.map_append, hg3]; simp [ctorV]; done)))⟩, trivial⟩⟩ (by kernel_rfl) (by kernel_rfl) ⟨beq_nat_eq (by first | rfl | (simp; done) | (simp; omega) | (first | rfl | (simp; done) | (rw [List.flatMap_append, List.map_append]; simp [ctorV_none, h1s, h1p, h2s, h2p, h3s, h3p, h4s, h4p]; done) | (rw [List.append_nil] at hg3; rw [List.flatMap_append, List.map_append, hg3]; simp [ctorV]; done))), trivial⟩⟩
     ·try simp only [Q, Val.cs_len, Ty.eta] at h4p
      refine Walk.build st39 (ks := [0]) (xs := [_]) rfl rfl .none rfl rfl rfl ?_
      refine Walk.sliceLitG 2 sl37 tz39 rfl (by decide) (ks := [0]) (xs := [_]) rfl rfl (by decide) (by decide) .none rfl rfl rfl rfl rfl ?_
      refine evs [7, 16] [] ?_
      refine CWp.loopX (ι := List (Ty) × List (Ty)) hk (fun x => [(56, .d (.i (x.1.length : Int))), (12, .d (.sl (((prodL (x.1.map (fullV w n))).map (Val.mk c 0)).map Val.cc)))]) [14, 15, 16, 18, 20, 57, 58, 59, 60, 61, 62, 63, 64, 65, 66, 67, 68, 69, 70, 71, 72, 73, 74, 75, 76, 77, 78, 79, 80, 81, 82, 83, 84, 85, 86, 87, 88, 89, 90, 91] (fun x => []) (fun x => x.1 ++ x.2 = argsOf w ⟨d, k⟩ c) (fun x => x.2.length) ([], argsOf w ⟨d, k⟩ c) (by simp) ⟨⟨_, rfl, (LeA.eqi (by first | rfl | (simp; done) | (rw [List.append_nil] at hg4; rw [hg4, grow_prod, List.map_append]; rfl)))⟩, ⟨⟨_, rfl, (by first | exact LeA.refl _ | exact LeA.gld (by first | rfl | (simp; done) | (rw [List.append_nil] at hg4; rw [hg4, grow_prod, List.map_append]; rfl)) | exact LeA.nild (by first | rfl | (simp; done) | (rw [List.append_nil] at hg4; rw [hg4, grow_prod, List.map_append]; rfl)) | exact LeA.eqsl (by first | rfl | (simp; done) | (rw [List.append_nil] at hg4; rw [hg4, grow_prod, List.map_append]; rfl)) | exact LeA.eqd (by first | rfl | (simp; done) | (rw [List.append_nil] at hg4; rw [hg4, grow_prod, List.map_append]; rfl)))⟩, trivial⟩⟩ trivial (fun x => rfl) (fun x hg3 => ?_)
      obtain ⟨pre2, rest2⟩ := x
      dsimp only at hg3 ⊢
      refine evc [7, 16] [] ?_
      refine sq (fun h5 h5p h5s => ?_) fun h5 h5p h5s => ?_
      ·try simp only [Q, Val.cs_len, Ty.eta] at h5p
       rcases rest2 with _ | ⟨y, rest2⟩
       ·exfalso; simp_all
       have hpl := part_len hne hc (c := c) (by rw [← hg2]; simp) hg3 (by assumption)
       refine Walk.idx sl25 .none rfl rfl rfl rfl (zip_at hg3) rfl ?_
       refine evs [7, 16] [] ?_
       refine Walk.alloc (id := 3014) tz31 rfl .none rfl rfl rfl rfl ?_
       refine Walk.store ty31 .none rfl rfl rfl rfl rfl rfl (by simp) rfl ?_
       refine tv ?_
       refine ar ?_
       refine Walk.call (cr := []) cal105 (impl_values_fn hw n (a := y.data) (k := y.index) (by omega) (by omega) (argsOf_in hw hlt (k := k) (place_of (k := k) (c := c) (by rw [← hg2]; simp)) (t := y) (by rw [← hg3]; simp)) (by have e := len_of_count (w := w) (n := n) (t := y); have e2 := countV_eq w n y; have h3 := hpl.2.1; unfold capN at e2; split at e2 <;> simp only [Ty.eta] at * <;> omega)) rfl .none rfl rfl (LeL.refl _) trivial rfl rfl rfl ?_
       refine evs [7, 16] [] ?_
       refine Walk.assignNil 3 3 .none rfl rfl ?_
       refine tv ?_
       refine CWp.loopX (ι := List (Val) × List (Val)) hk (fun x => [(67, .d (.i (x.1.length : Int))), (16, .gl 3 ((x.1.flatMap (grow1 c (fullV w n y))).map Val.cc))]) [18, 20, 68, 69, 70, 71, 72, 73, 74, 75, 76, 77, 78, 79, 80, 81, 82, 83, 84, 85, 86, 87, 88, 89] (fun x => [(3, some (.tok (((x.1.flatMap (grow1 c (fullV w n y))).map Val.cc)).length 3))]) (fun x => x.1 ++ x.2 = (prodL (pre2.map (fullV w n))).map (Val.mk c 0)) (fun x => x.2.length) ([], (prodL (pre2.map (fullV w n))).map (Val.mk c 0)) (by simp) ⟨⟨_, rfl, (LeA.eqi (by first | rfl | (simp; done) | (rw [List.append_nil] at hg5; rw [← hg5]; simp [grow1]; done)))⟩, ⟨⟨_, rfl, (LeA.glg (by first | rfl | (simp; done) | (rw [List.append_nil] at hg5; rw [← hg5]; simp [grow1]; done)))⟩, trivial⟩⟩ ⟨beq_nat_eq (by first | rfl | (simp; done) | (simp; omega) | (first | rfl | (simp; done) | (rw [List.append_nil] at hg5; rw [← hg5]; simp [grow1]; done))), trivial⟩ (fun x => rfl) (fun x hg4 => ?_)
       obtain ⟨pre3, rest3⟩ := x
       dsimp only at hg4 ⊢
       refine evc [7, 16] [] ?_
       refine sq (fun h6 h6p h6s => ?_) fun h6 h6p h6s => ?_
       ·try simp only [Q, Val.cs_len, Ty.eta] at h6p
        rcases rest3 with _ | ⟨v, rest3⟩
        ·exfalso; simp_all
        have hvk := kids_len (v := v) (by rw [← hg4]; simp); rw [List.length_map] at hvk
        refine Walk.idx sl37 .none rfl rfl rfl rfl (zip_at hg4) rfl ?_
        refine evs [7, 16] [] ?_
        refine Walk.alloc (id := 3018) tz39 rfl .none rfl rfl rfl rfl ?_
        refine Walk.store ty39 .none rfl rfl rfl rfl rfl rfl (by simp) rfl ?_
        refine tv ?_
        refine CWp.loopX (ι := List (Val) × List (Val)) hk (fun x => [(73, .d (.i (x.1.length : Int))), (16, .gl 3 ((pre3.flatMap (grow1 c (fullV w n y)) ++ x.1.map fun q => Val.mk c 0 (v.kids ++ [q])).map Val.cc))]) [20, 74, 75, 76, 77, 78, 79, 80, 81, 82, 83, 84, 85, 86, 87, 88] (fun x => [(3, some (.tok (((pre3.flatMap (grow1 c (fullV w n y)) ++ x.1.map fun q => Val.mk c 0 (v.kids ++ [q])).map Val.cc)).length 3))]) (fun x => x.1 ++ x.2 = fullV w n y) (fun x => x.2.length) ([], fullV w n y) (by simp) ⟨⟨_, rfl, (LeA.eqi (by first | rfl | (simp; done) | (simp [Val.ctor, Val.num, Val.kids, Val.cs_cc]; done)))⟩, ⟨⟨_, rfl, (LeA.glg (by first | rfl | (simp; done) | (simp [Val.ctor, Val.num, Val.kids, Val.cs_cc]; done)))⟩, trivial⟩⟩ ⟨beq_nat_eq (by first | rfl | (simp; done) | (simp; omega) | (first | rfl | (simp; done) | (simp [Val.ctor, Val.num, Val.kids, Val.cs_cc]; done))), trivial⟩ (fun x => rfl) (fun x hg5 => ?_)
        obtain ⟨pre4, rest4⟩ := x
        dsimp only at hg5 ⊢
        refine evc [7, 16] [] ?_
        refine sq (fun h7 h7p h7s => ?_) fun h7 h7p h7s => ?_
        ·try simp only [Q, Val.cs_len, Ty.eta] at h7p
         rcases rest4 with _ | ⟨q, rest4⟩
         ·exfalso; simp_all
         have hml := more_len hg4 hg5 (N := 400) (by rw [grow_prod, List.length_map]; have := hpl.1; rwa [List.map_append] at this)
         refine Walk.idx sl37 .none rfl rfl rfl rfl (Val.cs_at hg5) rfl ?_
         refine evs [7, 16] [] ?_
         refine Walk.alloc (id := 3020) tz39 rfl .none rfl rfl rfl rfl ?_
         refine Walk.store ty39 .none rfl rfl rfl rfl rfl rfl (by simp) rfl ?_
         refine tv ?_
         refine Walk.call (cr := [77]) cal148 (slices_Clone_Val_fn (xs := v.kids) (by omega)) rfl .none rfl rfl (LeL.refl _) trivial rfl rfl rfl ?_
         refine evd [7, 16] [] ?_
         refine Walk.sliceLit sl37 tz39 rfl (by decide) (ks := [0]) (xs := [_]) rfl rfl (by decide) (by decide) .none rfl rfl rfl rfl ?_
         refine Walk.append sl37 zz39 rfl .none rfl rfl rfl rfl (htokL rfl (by first | rfl | (simp; done) | (simp; omega))) (by intro z hz; first | (obtain ⟨_, _, rfl⟩ := List.mem_map.1 hz; rfl) | (simp at hz; rw [hz]; rfl) | (rw [Val.cs_cc] at hz; obtain ⟨_, _, rfl⟩ := List.mem_map.1 hz; rfl)) (by first | (simp only [List.length_map, List.length_append, List.length_cons, List.length_nil, Val.cs_len] at *; omega) | (rw [List.append_nil] at hg3; rw [hg3]; have h10 := ctorV_len w n ⟨d, k⟩ c; simp only [List.length_map]; omega)) (by first | (simp only [List.length_map, List.length_append, List.length_cons, List.length_nil, Val.cs_len] at *; omega) | (rw [List.append_nil] at hg3; rw [hg3]; have h10 := ctorV_len w n ⟨d, k⟩ c; simp only [List.length_map]; omega)) ?_
         refine Walk.build st39 (ks := [0, 2]) (xs := [_, _]) rfl rfl .none rfl rfl rfl ?_
         refine Walk.sliceLit sl37 tz39 rfl (by decide) (ks := [0]) (xs := [_]) rfl rfl (by decide) (by decide) .none rfl rfl rfl rfl ?_
         refine Walk.append sl37 zz39 rfl .none rfl rfl rfl rfl (htokL rfl (by first | rfl | (simp; done) | (simp; omega))) (by intro z hz; first | (obtain ⟨_, _, rfl⟩ := List.mem_map.1 hz; rfl) | (simp at hz; rw [hz]; rfl) | (rw [Val.cs_cc] at hz; obtain ⟨_, _, rfl⟩ := List.mem_map.1 hz; rfl)) (by first | (simp only [List.length_map, List.length_append, List.length_cons, List.length_nil, Val.cs_len] at *; omega) | (rw [List.append_nil] at hg3; rw [hg3]; have h10 := ctorV_len w n ⟨d, k⟩ c; simp only [List.length_map]; omega)) (by first | (simp only [List.length_map, List.length_append, List.length_cons, List.length_nil, Val.cs_len] at *; omega) | (rw [List.append_nil] at hg3; rw [hg3]; have h10 := ctorV_len w n ⟨d, k⟩ c; simp only [List.length_map]; omega)) ?_
         refine asg ?_
         refine dr ?_
         refine ar ?_
         refine Exists.intro ((pre4 ++ [q], rest4)) ⟨(by have hz := hg5; rw [← hz]; simp), (by simp), Sub.x (by kernel_rfl) (by kernel_rfl) ⟨⟨_, rfl, (LeA.eqi (by first | rfl | (simp; done) | (simp [Val.ctor, Val.num, Val.kids, Val.cs_cc]; done)))⟩, ⟨⟨_, rfl, (LeA.glg (by first | rfl | (simp; done) | (simp [Val.ctor, Val.num, Val.kids, Val.cs_cc]; done)))⟩, trivial⟩⟩ (by kernel_rfl) (by kernel_rfl) ⟨beq_nat_eq (by first | rfl | (simp; done) | (simp; omega) | (first | rfl | (simp; done) | (simp [Val.ctor, Val.num, Val.kids, Val.cs_cc]; done))), trivial⟩⟩
        ·try simp only [Q, Val.cs_len, Ty.eta] at h7p
         have hrest4 : rest4 = [] := by
          rcases rest4 with _ | ⟨a, b⟩
          ·rfl
          ·exfalso; have hz := congrArg List.length (hg5); simp only [List.length_append, List.length_cons, List.length_map] at hz; omega
         subst hrest4
         refine ar ?_
         refine Exists.intro ((pre3 ++ [v], rest3)) ⟨(by have hz := hg4; rw [← hz]; simp), (by simp), Sub.x (by kernel_rfl) (by kernel_rfl) ⟨⟨_, rfl, (LeA.eqi (by first | rfl | (simp; done) | (rw [List.append_nil] at hg5; rw [← hg5]; simp [grow1]; done)))⟩, ⟨⟨_, rfl, (LeA.glg (by first | rfl | (simp; done) | (rw [List.append_nil] at hg5; rw [← hg5]; simp [grow1]; done)))⟩, trivial⟩⟩ (by kernel_rfl) (by kernel_rfl) ⟨beq_nat_eq (by first | rfl | (simp; done) | (simp; omega) | (first | rfl | (simp; done) | (rw [List.append_nil] at hg5; rw [← hg5]; simp [grow1]; done))), trivial⟩⟩
       ·try simp only [Q, Val.cs_len, Ty.eta] at h6p
        have hrest3 : rest3 = [] := by
         rcases rest3 with _ | ⟨a, b⟩
         ·rfl
         ·exfalso; have hz := congrArg List.length (hg4); simp only [List.length_append, List.length_cons, List.length_map] at hz; omega
        subst hrest3
        refine ar ?_
        refine Exists.intro ((pre2 ++ [y], rest2)) ⟨(by have hz := hg3; rw [← hz]; simp), (by simp), Sub.x (by kernel_rfl) (by kernel_rfl) ⟨⟨_, rfl, (LeA.eqi (by first | rfl | (simp; done) | (rw [List.append_nil] at hg4; rw [hg4, grow_prod, List.map_append]; rfl)))⟩, ⟨⟨_, rfl, (by first | exact LeA.refl _ | exact LeA.gld (by first | rfl | (simp; done) | (rw [List.append_nil] at hg4; rw [hg4, grow_prod, List.map_append]; rfl)) | exact LeA.nild (by first | rfl | (simp; done) | (rw [List.append_nil] at hg4; rw [hg4, grow_prod, List.map_append]; rfl)) | exact LeA.eqsl (by first | rfl | (simp; done) | (rw [List.append_nil] at hg4; rw [hg4, grow_prod, List.map_append]; rfl)) | exact LeA.eqd (by first | rfl | (simp; done) | (rw [List.append_nil] at hg4; rw [hg4, grow_prod, List.map_append]; rfl)))⟩, trivial⟩⟩ (by kernel_rfl) (by kernel_rfl) trivial⟩
      ·try simp only [Q, Val.cs_len, Ty.eta] at h5p
       have hrest2 : rest2 = [] := by
        rcases rest2 with _ | ⟨a, b⟩
        ·rfl
        ·exfalso; have hz := congrArg List.length (hg3); simp only [List.length_append, List.length_cons, List.length_map] at hz; omega
       subst hrest2
       refine Walk.append sl37 zz39 rfl .none rfl rfl rfl rfl (htokL rfl (by first | rfl | (simp; done) | (simp; omega))) (by intro z hz; first | (obtain ⟨_, _, rfl⟩ := List.mem_map.1 hz; rfl) | (simp at hz; rw [hz]; rfl) | (rw [Val.cs_cc] at hz; obtain ⟨_, _, rfl⟩ := List.mem_map.1 hz; rfl)) (by first | (simp only [List.length_map, List.length_append, List.length_cons, List.length_nil, Val.cs_len] at *; omega) | (rw [List.append_nil] at hg3; rw [hg3]; have h10 := ctorV_len w n ⟨d, k⟩ c; simp only [List.length_map]; omega)) (by first | (simp only [List.length_map, List.length_append, List.length_cons, List.length_nil, Val.cs_len] at *; omega) | (rw [List.append_nil] at hg3; rw [hg3]; have h10 := ctorV_len w n ⟨d, k⟩ c; simp only [List.length_map]; omega)) ?_
       refine asg ?_
       refine tv ?_
       refine ar ?_
       refine Exists.intro ((pre ++ [c], rest)) ⟨(by have hz := hg2; rw [← hz]; simp), (by simp), Sub.x (by kernel_rfl) (by kernel_rfl) ⟨⟨_, rfl, (LeA.eqi (by first | rfl | (simp; done) | (rw [List.flatMap_append, List.map_append]; simp [ctorV_none, h1s, h1p, h2s, h2p, h3s, h3p, h4s, h4p, h5s, h5p]; done) | (rw [List.append_nil] at hg3; rw [List.flatMap_append, List.map_append, hg3]; simp [ctorV]; done)))⟩, ⟨⟨_, rfl, (LeA.glg (by first | rfl | (simp; done) | (rw [List.flatMap_append, List.map_append]; simp [ctorV_none, h1s, h1p, h2s, h2p, h3s, h3p, h4s, h4p, h5s, h5p]; done) | (rw [List.append_nil] at hg3; rw [List.flatMap_append, List.map_append, hg3]; simp [ctorV]; done)))⟩, trivial⟩⟩ (by kernel_rfl) (by kernel_rfl) ⟨beq_nat_eq (by first | rfl | (simp; done) | (simp; omega) | (first | rfl | (simp; done) | (rw [List.flatMap_append, List.map_append]; simp [ctorV_none, h1s, h1p, h2s, h2p, h3s, h3p, h4s, h4p, h5s, h5p]; done) | (rw [List.append_nil] at hg3; rw [List.flatMap_append, List.map_append, hg3]; simp [ctorV]; done))), trivial⟩⟩
    ·try simp only [Q, Val.cs_len, Ty.eta] at h3p
     have hrest : rest = [] := by
      rcases rest with _ | ⟨a, b⟩
      ·rfl
      ·exfalso; have hz := congrArg List.length (hg2); simp only [List.length_append, List.length_cons, List.length_map] at hz; omega
     subst hrest
     refine rn0 (r1 rfl) (.gld ?_)
     all_goals (rw [List.append_nil] at hg2; subst hg2; rw [fullV_ctors hne, Val.cs_cc])
end Go.Proofs.Ytpimgoacljakgaa
namespace Go.Proofs.Ytpimgoacljakgaa
open Go
set_option linter.unusedSimpArgs false
set_option linter.unusedVariables false
theorem prodL_in : ∀ {ls : List (List Val)} {o : List Val}, o ∈ prodL ls → ∀ x ∈ o, ∃ l ∈ ls, x ∈ l := by
 intro ls
 have key : ∀ (ls acc : List (List Val)) (Q : Val → Prop), (∀ o ∈ acc, ∀ x ∈ o, Q x) → (∀ l ∈ ls, ∀ x ∈ l, Q x) → ∀ o ∈ ls.foldl (fun acc l => acc.flatMap fun o => l.map fun y => o ++ [y]) acc, ∀ x ∈ o, Q x := by
  intro ls
  induction ls with
  | nil => intro acc Q h _ o ho; exact h o ho
  | cons l r ih =>
   intro acc Q h h2 o ho
   refine ih _ Q (fun o' ho' x hx => ?_) (fun l' hl' => h2 l' (List.mem_cons_of_mem _ hl')) o ho
   simp only [List.mem_flatMap, List.mem_map] at ho'
   obtain ⟨p, hp, q, hq, rfl⟩ := ho'
   simp only [List.mem_append, List.mem_singleton] at hx
   rcases hx with hx | hx
   ·exact h p hp x hx
   ·subst hx; exact h2 l (by simp) x hq
 intro o ho
 exact key ls [[]] (fun x => ∃ l ∈ ls, x ∈ l) (by simp) (fun l hl x hx => ⟨l, hl, hx⟩) o ho
theorem Vals.ok_of : ∀ {l : List Val}, (∀ v ∈ l, v.ok) → Vals.ok l
 | [], _ => trivial
 | v :: r, h => ⟨h v (by simp), Vals.ok_of (fun x hx => h x (List.mem_cons_of_mem _ hx))⟩
theorem fullV_ok {w : List Data} (hw : WT w) : ∀ (n : Nat) {t : Ty}, TyIn w.length t → ∀ v ∈ fullV w n t, v.ok
 | 0, t, _, v, h => by simp [fullV] at h
 | n + 1, t, ht, v, h => by
  unfold fullV at h
  split at h
  ·simp only [digits, List.mem_map] at h
   obtain ⟨i, _, rfl⟩ := h
   exact ⟨by simp, trivial⟩
  ·rename_i hne
   obtain ⟨c, hc, hv⟩ := List.mem_flatMap.1 h
   obtain ⟨o, ho, rfl⟩ := List.mem_map.1 hv
   rcases ht with h0 | ⟨d, hd, hlt⟩
   ·exact absurd h0 hne
   obtain ⟨a, k⟩ := t
   have hd' : a = (d : Int) := hd
   subst hd'
   have hp := place_of hc
   refine ⟨?_, Vals.ok_of (fun x hx => ?_)⟩
   ·rw [prodL_mem ho, List.length_map]; exact argsOf_len hw hlt hp
   ·obtain ⟨l, hl, hxl⟩ := prodL_in ho x hx
    obtain ⟨y, hy, rfl⟩ := List.mem_map.1 hl
    exact fullV_ok hw n (argsOf_in hw hlt hp hy) x hxl
end Go.Proofs.Ytpimgoacljakgaa
namespace Go.Proofs.Ytpimgoacljakgaa
open Go
set_option linter.unusedSimpArgs false
set_option linter.unusedVariables false
set_option maxRecDepth 100000
set_option maxHeartbeats 2000000
def vut (w : List Data) (t : Ty) (m : Int) : List Val × Bool := if typeValid w t && (within m 0 4 && decide (countV w m.toNat t ≤ 400)) then (fullV w m.toNat t, true) else ([], false)
theorem vut_len (w : List Data) (t : Ty) (m : Int) : (vut w t m).1.length ≤ 400 := by
 unfold vut
 split
 ·rename_i h
  simp only [Bool.and_eq_true, decide_eq_true_eq] at h
  have := len_of_count h.2.2
  simp only; omega
 ·simp
theorem vut_ok {w : List Data} (hs : WSmall w) (t : Ty) (m : Int) : ∀ v ∈ (vut w t m).1, v.ok := by
 unfold vut
 split
 ·rename_i h
  rw [Bool.and_eq_true] at h
  exact fullV_ok (tv_wt hs h.1) _ (tv_in h.1)
 ·simp
def sameV (w : List Data) (a b : Ty) : Bool × Bool := if (vut w a 2).2 && ((vut w b 2).2 && decide (a.data = b.data)) then (valsEq (vut w a 2).1 (vut w b 2).1, true) else (false, false)
theorem impl_ValuesUpTo_fn {w : List Data} (hs : WSmall w) {a k m : Int} : FnD Try.prog 58 [.d (encDatas w), .agg [.d (.i a), .d (.i k)], .d (.i m)] [] (.tup [.d (encVals (vut w ⟨a, k⟩ m).1), .d (.bool (vut w ⟨a, k⟩ m).2)]) [] := by
 refine bd Try.f58 43 [8] [] fun w0 F0 own kept hk => ?_
 refine Walk.box (id := 3004) .none rfl rfl rfl rfl rfl rfl rfl ?_
 refine evs [8] [] ?_
 refine Walk.call (cr := []) cal16 (impl_TypeValid_fn hs) rfl .none rfl rfl (LeL.refl _) trivial rfl rfl rfl ?_
 refine evs [8] [] ?_
 refine sq (fun h1 h1p h1s => ?_) fun h1 h1p h1s => ?_
 ·try simp only [Q, within, Val.cs_len] at h1p
  refine sqT ?_
  refine sqT ?_
  refine rn0 (r2 rfl rfl) (.tup (.cons (.nild ?_) (.cons (.eqd ?_) .nil)))
  all_goals (first | (simp [vut, Val.cs, h1s, h1p]; done) | (simp only [vut]; rw [if_neg (by intro hh; simp [within] at hh; omega)]; rfl) | (simp only [vut]; rw [if_neg (by intro hh; simp [within] at hh; omega)]; done) | (rw [List.append_nil] at hg1; subst hg1; simp only [vut]; rw [if_pos (by simp [within, h1s, h1p]; omega), Val.cs_cc]; done) | (simp only [vut]; rw [if_pos (by simp [within, h1s, h1p]; omega)]; done))
 ·try simp only [Q, within, Val.cs_len] at h1p
  refine Walk.call (cr := []) cal54 (impl_within_fn) rfl (.some rfl rfl h1) rfl rfl (LeL.refl _) trivial rfl rfl rfl ?_
  refine evs [8] [(15, false)] ?_ ⟨⟨_, rfl, h1⟩, trivial⟩
  refine sq (fun h3 h3p h3s => ?_) fun h3 h3p h3s => ?_
  ·try simp only [Q, within, Val.cs_len] at h3p
   refine sqT ?_
   refine rn0 (r2 rfl rfl) (.tup (.cons (.nild ?_) (.cons (.eqd ?_) .nil)))
   all_goals (first | (simp [vut, Val.cs, h1s, h1p, h3s, h3p]; done) | (simp only [vut]; rw [if_neg (by intro hh; simp [within] at hh; omega)]; rfl) | (simp only [vut]; rw [if_neg (by intro hh; simp [within] at hh; omega)]; done) | (rw [List.append_nil] at hg1; subst hg1; simp only [vut]; rw [if_pos (by simp [within, h1s, h1p, h3s, h3p]; omega), Val.cs_cc]; done) | (simp only [vut]; rw [if_pos (by simp [within, h1s, h1p, h3s, h3p]; omega)]; done))
  ·try simp only [Q, within, Val.cs_len] at h3p
   refine Walk.call (cr := []) cal104 (impl_countValues_fn (tv_wt hs (by assumption)) m.toNat (by omega) (by omega) (tv_in (by assumption))) rfl (.some rfl rfl h3) rfl rfl (LeL.refl _) trivial rfl rfl rfl ?_
   refine evs [8] [(20, false)] ?_ ⟨⟨_, rfl, h3⟩, trivial⟩
   refine sq (fun h5 h5p h5s => ?_) fun h5 h5p h5s => ?_
   ·try simp only [Q, within, Val.cs_len] at h5p
    refine rn0 (r2 rfl rfl) (.tup (.cons (.nild ?_) (.cons (.eqd ?_) .nil)))
    all_goals (first | (simp [vut, Val.cs, h1s, h1p, h3s, h3p, h5s, h5p]; done) | (simp only [vut]; rw [if_neg (by intro hh; simp [within] at hh; omega)]; rfl) | (simp only [vut]; rw [if_neg (by intro hh; simp [within] at hh; omega)]; done) | (rw [List.append_nil] at hg1; subst hg1; simp only [vut]; rw [if_pos (by simp [within, h1s, h1p, h3s, h3p, h5s, h5p]; omega), Val.cs_cc]; done) | (simp only [vut]; rw [if_pos (by simp [within, h1s, h1p, h3s, h3p, h5s, h5p]; omega)]; done))
   ·try simp only [Q, within, Val.cs_len] at h5p
    refine Walk.assignNil 1 3 .none rfl rfl ?_
    refine tv ?_
    refine Walk.call (cr := []) cal105 (impl_values_fn (tv_wt hs (by assumption)) m.toNat (by omega) (by omega) (tv_in (by assumption)) (by omega)) rfl .none rfl rfl (LeL.refl _) trivial rfl rfl rfl ?_
    refine evs [8] [] ?_
    refine CWp.loopX (ι := List (Val) × List (Val)) hk (fun x => [(32, .d (.i (x.1.length : Int))), (8, .gl 1 (x.1.map Val.cc))]) [10, 33, 34, 35, 36, 37, 38, 39, 40, 41] (fun x => [(1, some (.tok ((x.1.map Val.cc)).length 3))]) (fun x => x.1 ++ x.2 = fullV w m.toNat ⟨a, k⟩) (fun x => x.2.length) ([], fullV w m.toNat ⟨a, k⟩) (by simp) ⟨⟨_, rfl, (LeA.eqi (by first | rfl | (simp; done)))⟩, ⟨⟨_, rfl, (LeA.glg (by first | rfl | (simp; done)))⟩, trivial⟩⟩ ⟨beq_nat_eq (by first | rfl | (simp; done) | (simp; omega) | (first | rfl | (simp; done))), trivial⟩ (fun x => rfl) (fun x hg1 => ?_)
    obtain ⟨pre, rest⟩ := x
    dsimp only at hg1 ⊢
    have hlen := len_of_count (w := w) (n := m.toNat) (t := ⟨a, k⟩) (by omega)
    refine evc [8] [] ?_
    refine sq (fun h6 h6p h6s => ?_) fun h6 h6p h6s => ?_
    ·try simp only [Q, within, Val.cs_len] at h6p
     rcases rest with _ | ⟨y, rest⟩
     ·exfalso; simp_all
     refine Walk.idx sl37 .none rfl rfl rfl rfl (Val.cs_at hg1) rfl ?_
     refine evs [8] [] ?_
     refine Walk.alloc (id := 3010) tz39 rfl .none rfl rfl rfl rfl ?_
     refine Walk.store ty39 .none rfl rfl rfl rfl rfl rfl (by simp) rfl ?_
     refine tv ?_
     refine Walk.call (cr := []) cal106 (impl_ownValue_fn y.size (Nat.le_refl _) (fullV_ok (tv_wt hs (by assumption)) m.toNat (tv_in (t := ⟨a, k⟩) (by assumption)) y (by rw [← hg1]; simp))) rfl .none rfl rfl (LeL.refl _) trivial rfl rfl rfl ?_
     refine Walk.sliceLit sl37 tz39 rfl (by decide) (ks := [0]) (xs := [_]) rfl rfl (by decide) (by decide) .none rfl rfl rfl rfl ?_
     refine Walk.append sl37 zz39 rfl .none rfl rfl rfl rfl (htokL rfl (by first | rfl | (simp; done) | (simp; omega))) (by simp) (by have h9 := congrArg List.length hg1; simp at h9; simp; omega) (by have h9 := congrArg List.length hg1; simp at h9; simp; omega) ?_
     refine asg ?_
     refine tv ?_
     refine ar ?_
     refine Exists.intro ((pre ++ [y], rest)) ⟨(by have hz := hg1; rw [← hz]; simp), (by simp), Sub.x (by kernel_rfl) (by kernel_rfl) ⟨⟨_, rfl, (LeA.eqi (by first | rfl | (simp; done)))⟩, ⟨⟨_, rfl, (LeA.glg (by first | rfl | (simp; done)))⟩, trivial⟩⟩ (by kernel_rfl) (by kernel_rfl) ⟨beq_nat_eq (by first | rfl | (simp; done) | (simp; omega) | (first | rfl | (simp; done))), trivial⟩⟩
    ·try simp only [Q, within, Val.cs_len] at h6p
     have hrest : rest = [] := by
      rcases rest with _ | ⟨a, b⟩
      ·rfl
      ·exfalso; have hz := congrArg List.length (hg1); simp only [List.length_append, List.length_cons, List.length_map] at hz; omega
     subst hrest
     refine rn0 (r2 rfl rfl) (.tup (.cons (.gld ?_) (.cons (.eqd ?_) .nil)))
     all_goals (first | (simp [vut, Val.cs, h1s, h1p, h3s, h3p, h5s, h5p, h6s, h6p]; done) | (simp only [vut]; rw [if_neg (by intro hh; simp [within] at hh; omega)]; rfl) | (simp only [vut]; rw [if_neg (by intro hh; simp [within] at hh; omega)]; done) | (rw [List.append_nil] at hg1; subst hg1; simp only [vut]; rw [if_pos (by simp [within, h1s, h1p, h3s, h3p, h5s, h5p, h6s, h6p]; omega), Val.cs_cc]; done) | (simp only [vut]; rw [if_pos (by simp [within, h1s, h1p, h3s, h3p, h5s, h5p, h6s, h6p]; omega)]; done))
theorem impl_SameValues_fn {w : List Data} (hs : WSmall w) {a k a' k' : Int} : FnD Try.prog 18 [.d (encDatas w), .agg [.d (.i a), .d (.i k)], .agg [.d (.i a'), .d (.i k')]] [] (.tup [.d (.bool (sameV w ⟨a, k⟩ ⟨a', k'⟩).1), .d (.bool (sameV w ⟨a, k⟩ ⟨a', k'⟩).2)]) [] := by
 refine bd Try.f18 40 [] [] fun w0 F0 own kept hk => ?_
 refine Walk.box (id := 3004) .none rfl rfl rfl rfl rfl rfl rfl ?_
 refine Walk.box (id := 3005) .none rfl rfl rfl rfl rfl rfl rfl ?_
 refine ev ?_
 refine Walk.call (cr := []) cal58 (impl_ValuesUpTo_fn hs) rfl .none rfl rfl (LeL.refl _) trivial rfl rfl rfl ?_
 refine ev ?_
 refine Walk.call (cr := []) cal58 (impl_ValuesUpTo_fn hs) rfl .none rfl rfl (LeL.refl _) trivial rfl rfl rfl ?_
 refine ev ?_
 refine sq (fun h1 h1p h1s => ?_) fun h1 h1p h1s => ?_
 ·try simp only [Q] at h1p
  refine sqT ?_
  refine sqT ?_
  refine rn0 (r2 rfl rfl) (.tup (.cons (.eqd ?_) (.cons (.eqd ?_) .nil)))
  all_goals (first | (simp [sameV, h1s, h1p]; done) | (have e : a = a' := (by omega); subst e; simp [sameV, h1s, h1p]; done))
 ·try simp only [Q] at h1p
  refine sq (fun h3 h3p h3s => ?_) fun h3 h3p h3s => ?_
  ·try simp only [Q] at h3p
   refine sqT ?_
   refine rn0 (r2 rfl rfl) (.tup (.cons (.eqd ?_) (.cons (.eqd ?_) .nil)))
   all_goals (first | (simp [sameV, h1s, h1p, h3s, h3p]; done) | (have e : a = a' := (by omega); subst e; simp [sameV, h1s, h1p, h3s, h3p]; done))
  ·try simp only [Q] at h3p
   refine sq (fun h5 h5p h5s => ?_) fun h5 h5p h5s => ?_
   ·try simp only [Q] at h5p
    refine rn0 (r2 rfl rfl) (.tup (.cons (.eqd ?_) (.cons (.eqd ?_) .nil)))
    all_goals (first | (simp [sameV, h1s, h1p, h3s, h3p, h5s, h5p]; done) | (have e : a = a' := (by omega); subst e; simp [sameV, h1s, h1p, h3s, h3p, h5s, h5p]; done))
   ·try simp only [Q] at h5p
    refine Walk.call (cr := []) cal59 (slices_EqualFunc_Val_fn (by have := vut_len w ⟨a, k⟩ 2; omega) cal60 (fun x hx y => impl_ValueSame_fn x.size (Nat.le_refl _) (vut_ok hs _ _ x hx))) rfl .none rfl rfl (LeL.refl _) trivial rfl rfl rfl ?_
    refine ev ?_
    refine rn0 (r2 rfl rfl) (.tup (.cons (.eqd ?_) (.cons (.eqd ?_) .nil)))
    all_goals (first | (simp [sameV, h1s, h1p, h3s, h3p, h5s, h5p]; done) | (have e : a = a' := (by omega); subst e; simp [sameV, h1s, h1p, h3s, h3p, h5s, h5p]; done))
abbrev enc1 (o : List Val) : List D := [.sl (Val.cs o)]
abbrev encValss (ls : List (List Val)) : D := .sl (ls.map enc1)
def stepV (l : List Val) (o : List Val) : List (List Val) := l.map fun y => o ++ [y]
theorem take_more {α : Type} {N : Nat} {X Y : List α} (h : N ≤ X.length) : (X ++ Y).take N = X.take N := by
 rw [List.take_append, (by omega : N - X.length = 0)]; simp
theorem tk_step {α β : Type} [Inhabited β] {X : List α} {l : List β} {h : β → α} {j m : Nat} (hj : j < l.length) (hl : ((X ++ (l.take j).map h).take (m + 1)).length ≤ m) :
  (X ++ (l.take (j + 1)).map h).take (m + 1) = (X ++ (l.take j).map h).take (m + 1) ++ [h (nth l j)] := by
 have e1 : l.take (j + 1) = l.take j ++ [nth l j] := by rw [List.take_succ_eq_append_getElem hj, nth_eq hj]
 rw [List.length_take] at hl
 have h2 : (X ++ (l.take j).map h).length ≤ m := by omega
 rw [e1, List.map_append, ← List.append_assoc, List.take_of_length_le (by simp at h2 ⊢; omega), List.take_of_length_le (l := X ++ (l.take j).map h) (by omega)]
 rfl
theorem tk_exit {α β : Type} {X : List α} {l : List β} {h : β → α} {j m : Nat} (hc : ¬ j < l.length ∨ ¬ ((X ++ (l.take j).map h).take (m + 1)).length ≤ m) :
  (X ++ (l.take j).map h).take (m + 1) = (X ++ l.map h).take (m + 1) := by
 rcases hc with hc | hc
 ·rw [List.take_of_length_le (l := l) (by omega)]
 ·rw [List.length_take] at hc
  have e : l.map h = (l.take j).map h ++ (l.drop j).map h := by rw [← List.map_append, List.take_append_drop]
  rw [e, ← List.append_assoc, take_more (X := X ++ (l.take j).map h) (by omega)]
theorem fm_step {α β : Type} [Inhabited β] {l : List β} {g : β → List α} {j : Nat} (hj : j < l.length) : (l.take (j + 1)).flatMap g = (l.take j).flatMap g ++ g (nth l j) := by
 rw [List.take_succ_eq_append_getElem hj, List.flatMap_append, nth_eq hj]; simp
theorem fm_exit {α β : Type} {l : List β} {g : β → List α} {j m : Nat} (hc : ¬ j < l.length ∨ ¬ (((l.take j).flatMap g).take (m + 1)).length ≤ m) :
  ((l.take j).flatMap g).take (m + 1) = (l.flatMap g).take (m + 1) := by
 rcases hc with hc | hc
 ·rw [List.take_of_length_le (l := l) (by omega)]
 ·rw [List.length_take] at hc
  have e : l.flatMap g = (l.take j).flatMap g ++ (l.drop j).flatMap g := by rw [← List.flatMap_append, List.take_append_drop]
  rw [e, take_more (X := (l.take j).flatMap g) (by omega)]
theorem tkV_exit {X : List (List Val)} {l : List Val} {o : List Val} {j m : Nat} (hc : ¬ j < l.length ∨ ¬ ((X ++ (l.take j).map fun y => o ++ [y]).take (m + 1)).length ≤ m) :
  (X ++ (l.take j).map fun y => o ++ [y]).take (m + 1) = (X ++ stepV l o).take (m + 1) := tk_exit hc
theorem tupV_snoc (m : Nat) (ls : List (List Val)) (l : List Val) : tupV m (ls ++ [l]) = ((tupV m ls).flatMap (stepV l)).take (m + 1) := by
 unfold tupV; rw [List.foldl_append]; rfl
theorem tupV_len (m : Nat) (ls : List (List Val)) : (tupV m ls).length ≤ m + 1 := tup_le m ls [[]] (by simp)
theorem tupV_mem (m : Nat) : ∀ {ls : List (List Val)} {o : List Val}, o ∈ tupV m ls → o.length = ls.length := by
 intro ls
 have key : ∀ (ls acc : List (List Val)) (n : Nat), (∀ o ∈ acc, o.length = n) → ∀ o ∈ ls.foldl (fun acc l => (acc.flatMap fun o => l.map fun y => o ++ [y]).take (m + 1)) acc, o.length = n + ls.length := by
  intro ls
  induction ls with
  | nil => intro acc n h o ho; exact h o ho
  | cons l r ih =>
   intro acc n h o ho
   have := ih _ (n + 1) (fun o' ho' => by
    have ho' := List.mem_of_mem_take ho'
    simp only [List.mem_flatMap, List.mem_map] at ho'
    obtain ⟨p, hp, q, _, rfl⟩ := ho'
    simp [h p hp]) o ho
   simp only [List.length_cons]; omega
 intro o ho
 have := key ls [[]] 0 (by simp) o ho
 simpa using this
theorem spec_l2Lists_fn {ls : List (List Val)} {most : Nat} (hm : most ≤ 1000) (hl : ls.length ≤ 1000000000000) (hls : ∀ l ∈ ls, l.length ≤ 1000000000000) : FnD Try.prog 149 [.d (encValss ls), .d (.i most)] [] (.d (encValss (tupV most ls))) [] := by
 refine bd Try.f149 66 [] [] fun w0 F0 own kept hk => ?_
 refine Walk.sliceEmpty sl37 .none rfl ?_
 refine Walk.sliceLit sl167 tz37 rfl (by decide) (ks := [0]) (xs := [_]) rfl rfl (by decide) (by decide) .none rfl rfl rfl rfl ?_
 refine ev ?_
 refine CWp.loopX (ι := List (List Val) × List (List Val)) hk (fun x => [(6, .d (.i (x.1.length : Int))), (5, .d (.sl ((tupV most x.1).map enc1)))]) [7, 8, 9, 12, 13, 14, 15, 16, 17, 18, 19, 20, 21, 22, 23, 24, 25, 26, 27, 28, 29, 30, 31, 32, 33, 34, 35, 36, 37, 38, 39, 40, 41, 42, 43, 44, 45, 46, 47, 48, 49, 50, 51, 52, 53, 54, 55, 56, 57, 58, 59, 60, 61, 62, 63, 64] (fun x => []) (fun x => x.1 ++ x.2 = ls) (fun x => x.2.length) ([], ls) (by simp) ⟨⟨_, rfl, (LeA.eqi (by first | rfl | (simp; done) | (rw [tupV_snoc, fm_exit (by omega)])))⟩, ⟨⟨_, rfl, (by first | exact LeA.refl _ | exact LeA.gld (by first | rfl | (simp; done) | (rw [tupV_snoc, fm_exit (by omega)])) | exact LeA.nild (by first | rfl | (simp; done) | (rw [tupV_snoc, fm_exit (by omega)])) | exact LeA.eqsl (by first | rfl | (simp; done) | (rw [tupV_snoc, fm_exit (by omega)])) | exact LeA.eqd (by first | rfl | (simp; done) | (rw [tupV_snoc, fm_exit (by omega)])))⟩, trivial⟩⟩ trivial (fun x => rfl) (fun x hg1 => ?_)
 obtain ⟨pre, rest⟩ := x
 dsimp only at hg1 ⊢
 refine evc [] [] ?_
 refine sq (fun h1 h1p h1s => ?_) fun h1 h1p h1s => ?_
 ·try simp only [Q, Val.cs_len, Int.ofNat_lt, Int.ofNat_le] at h1p
  rcases rest with _ | ⟨l, rest⟩
  ·exfalso; simp_all
  have hll := hls l (by rw [← hg1]; simp); have htl := tupV_len most pre
  refine Walk.sliceEmptyG 3 sl167 .none rfl rfl ?_
  refine ev ?_
  refine CWp.loopX (ι := Nat) hk (fun k => [(8, .d (.i (k : Int))), (7, .gl 3 (((((tupV most pre).take k).flatMap (stepV l)).take (most + 1)).map enc1))]) [9, 19, 20, 21, 22, 23, 24, 25, 26, 27, 28, 29, 30, 31, 32, 33, 34, 35, 36, 37, 38, 39, 40, 41, 42, 43, 44, 45, 46, 47, 48, 49, 50, 51, 52, 53, 54, 55, 56, 57, 58, 59, 60, 61, 62, 63] (fun k => [(3, some (.tok ((((((tupV most pre).take k).flatMap (stepV l)).take (most + 1)).map enc1)).length 1))]) (fun k => k ≤ (tupV most pre).length) (fun k => (tupV most pre).length - k) 0 (by simp) ⟨⟨_, rfl, (LeA.eqi (by first | rfl | (simp; done) | (rw [fm_step (by omega), tkV_exit (by omega)])))⟩, ⟨⟨_, rfl, (LeA.glg (by first | rfl | (simp; done) | (rw [fm_step (by omega), tkV_exit (by omega)])))⟩, trivial⟩⟩ ⟨beq_nat_eq (by first | rfl | (simp; done) | (simp; omega) | (first | rfl | (simp; done) | (rw [fm_step (by omega), tkV_exit (by omega)]))), trivial⟩ (fun x => rfl) (fun k hg2 => ?_)
  refine evc [] [] ?_
  refine sq (fun h2 h2p h2s => ?_) fun h2 h2p h2s => ?_
  ·try simp only [Q, Val.cs_len, Int.ofNat_lt, Int.ofNat_le] at h2p
   refine sq (fun h3 h3p h3s => ?_) fun h3 h3p h3s => ?_
   ·try simp only [Q, Val.cs_len, Int.ofNat_lt, Int.ofNat_le] at h3p
    refine CWp.loopX (ι := Nat) hk (fun j => [(9, .d (.i (j : Int))), (7, .gl 3 (((((tupV most pre).take k).flatMap (stepV l) ++ (l.take j).map (fun y => nth (tupV most pre) k ++ [y])).take (most + 1)).map enc1))]) [31, 32, 33, 34, 35, 36, 37, 38, 39, 40, 41, 42, 43, 44, 45, 46, 47, 48, 49, 50, 51, 52, 53, 54, 55, 56, 57, 58, 59, 60, 61, 62, 63] (fun j => [(3, some (.tok ((((((tupV most pre).take k).flatMap (stepV l) ++ (l.take j).map (fun y => nth (tupV most pre) k ++ [y])).take (most + 1)).map enc1)).length 1))]) (fun j => j ≤ l.length) (fun j => l.length - j) 0 (by simp) ⟨⟨_, rfl, (LeA.eqi (by first | rfl | (simp; done) | (rw [tk_step (by omega) (by omega), List.map_append]; simp [Val.cs_cc]; done)))⟩, ⟨⟨_, rfl, (LeA.glg (by first | rfl | (simp; done) | (rw [tk_step (by omega) (by omega), List.map_append]; simp [Val.cs_cc]; done)))⟩, trivial⟩⟩ ⟨beq_nat_eq (by first | rfl | (simp; done) | (simp; omega) | (first | rfl | (simp; done) | (rw [tk_step (by omega) (by omega), List.map_append]; simp [Val.cs_cc]; done))), trivial⟩ (fun x => rfl) (fun j hg3 => ?_)
    have hol := tupV_mem most (nth_mem (l := tupV most pre) (i := k) (by omega))
    refine evc [] [] ?_
    refine Walk.idx sl167 .none rfl rfl rfl rfl (by first | exact zip_at hg1 | exact at_nth (by omega)) rfl ?_
    refine ev ?_
    refine sq (fun h4 h4p h4s => ?_) fun h4 h4p h4s => ?_
    ·try simp only [Q, Val.cs_len, Int.ofNat_lt, Int.ofNat_le] at h4p
     refine sq (fun h5 h5p h5s => ?_) fun h5 h5p h5s => ?_
     ·try simp only [Q, Val.cs_len, Int.ofNat_lt, Int.ofNat_le] at h5p
      refine Walk.sliceEmptyG 5 sl37 .none rfl rfl ?_
      refine evd [] [] ?_
      refine Walk.idx sl167 .none rfl rfl rfl rfl (by first | exact zip_at hg1 | exact at_nth (by omega)) rfl ?_
      refine evd [] [] ?_
      refine Walk.append sl37 zz39 rfl .none rfl rfl rfl rfl (htokL rfl (by first | rfl | (simp; done) | (simp; omega))) (by intro z hz; first | (rw [Val.cs_cc] at hz; obtain ⟨_, _, rfl⟩ := List.mem_map.1 hz; rfl) | (simp at hz; rw [hz]; rfl)) (by first | (simp only [List.length_map, List.length_append, List.length_cons, List.length_nil, Val.cs_len] at *; omega)) (by first | (simp only [List.length_map, List.length_append, List.length_cons, List.length_nil, Val.cs_len] at *; omega)) ?_
      refine evd [] [] ?_
      refine Walk.idx sl167 .none rfl rfl rfl rfl (by first | exact zip_at hg1 | exact at_nth (by omega)) rfl ?_
      refine evd [] [] ?_
      refine Walk.idx sl37 .none rfl rfl rfl rfl (vals_at (by omega)) rfl ?_
      refine evd [] [] ?_
      refine Walk.sliceLit sl37 tz39 rfl (by decide) (ks := [0]) (xs := [_]) rfl rfl (by decide) (by decide) .none rfl rfl rfl rfl ?_
      refine Walk.append sl37 zz39 rfl .none rfl rfl rfl rfl (htokL rfl (by first | rfl | (simp; done) | (simp; omega))) (by intro z hz; first | (rw [Val.cs_cc] at hz; obtain ⟨_, _, rfl⟩ := List.mem_map.1 hz; rfl) | (simp at hz; rw [hz]; rfl)) (by first | (simp only [List.length_map, List.length_append, List.length_cons, List.length_nil, Val.cs_len] at *; omega)) (by first | (simp only [List.length_map, List.length_append, List.length_cons, List.length_nil, Val.cs_len] at *; omega)) ?_
      refine Walk.sliceLit sl167 tz37 rfl (by decide) (ks := [0]) (xs := [_]) rfl rfl (by decide) (by decide) .none rfl rfl rfl rfl ?_
      refine Walk.append sl167 zz37 rfl .none rfl rfl rfl rfl (htokL rfl (by first | rfl | (simp; done) | (simp; omega))) (by intro z hz; first | (rw [Val.cs_cc] at hz; obtain ⟨_, _, rfl⟩ := List.mem_map.1 hz; rfl) | (simp at hz; rw [hz]; rfl)) (by first | (simp only [List.length_map, List.length_append, List.length_cons, List.length_nil, Val.cs_len] at *; omega)) (by first | (simp only [List.length_map, List.length_append, List.length_cons, List.length_nil, Val.cs_len] at *; omega)) ?_
      refine evd [] [] ?_
      refine dr ?_
      refine ar ?_
      refine Exists.intro (j + 1) ⟨?_, ?_, Sub.x (by kernel_rfl) (by kernel_rfl) ⟨⟨_, rfl, (LeA.eqi (by first | rfl | (simp; done) | (rw [tk_step (by omega) (by omega), List.map_append]; simp [Val.cs_cc]; done)))⟩, ⟨⟨_, rfl, (LeA.glg (by first | rfl | (simp; done) | (rw [tk_step (by omega) (by omega), List.map_append]; simp [Val.cs_cc]; done)))⟩, trivial⟩⟩ (by kernel_rfl) (by kernel_rfl) ⟨beq_nat_eq (by first | rfl | (simp; done) | (simp; omega) | (first | rfl | (simp; done) | (rw [tk_step (by omega) (by omega), List.map_append]; simp [Val.cs_cc]; done))), trivial⟩⟩
      all_goals first | omega | (simp_all; done) | (simp_all; omega)
     ·try simp only [Q, Val.cs_len, Int.ofNat_lt, Int.ofNat_le] at h5p
      refine ar ?_
      refine Exists.intro (k + 1) ⟨?_, ?_, Sub.x (by kernel_rfl) (by kernel_rfl) ⟨⟨_, rfl, (LeA.eqi (by first | rfl | (simp; done) | (rw [fm_step (by omega), tkV_exit (by omega)])))⟩, ⟨⟨_, rfl, (LeA.glg (by first | rfl | (simp; done) | (rw [fm_step (by omega), tkV_exit (by omega)])))⟩, trivial⟩⟩ (by kernel_rfl) (by kernel_rfl) ⟨beq_nat_eq (by first | rfl | (simp; done) | (simp; omega) | (first | rfl | (simp; done) | (rw [fm_step (by omega), tkV_exit (by omega)]))), trivial⟩⟩
      all_goals first | omega | (simp_all; done) | (simp_all; omega)
    ·try simp only [Q, Val.cs_len, Int.ofNat_lt, Int.ofNat_le] at h4p
     refine sqF ?_
     refine ar ?_
     refine Exists.intro (k + 1) ⟨?_, ?_, Sub.x (by kernel_rfl) (by kernel_rfl) ⟨⟨_, rfl, (LeA.eqi (by first | rfl | (simp; done) | (rw [fm_step (by omega), tkV_exit (by omega)])))⟩, ⟨⟨_, rfl, (LeA.glg (by first | rfl | (simp; done) | (rw [fm_step (by omega), tkV_exit (by omega)])))⟩, trivial⟩⟩ (by kernel_rfl) (by kernel_rfl) ⟨beq_nat_eq (by first | rfl | (simp; done) | (simp; omega) | (first | rfl | (simp; done) | (rw [fm_step (by omega), tkV_exit (by omega)]))), trivial⟩⟩
     all_goals first | omega | (simp_all; done) | (simp_all; omega)
   ·try simp only [Q, Val.cs_len, Int.ofNat_lt, Int.ofNat_le] at h3p
    refine ar ?_
    refine Exists.intro ((pre ++ [l], rest)) ⟨(by have hz := hg1; rw [← hz]; simp), (by simp), Sub.x (by kernel_rfl) (by kernel_rfl) ⟨⟨_, rfl, (LeA.eqi (by first | rfl | (simp; done) | (rw [tupV_snoc, fm_exit (by omega)])))⟩, ⟨⟨_, rfl, (by first | exact LeA.refl _ | exact LeA.gld (by first | rfl | (simp; done) | (rw [tupV_snoc, fm_exit (by omega)])) | exact LeA.nild (by first | rfl | (simp; done) | (rw [tupV_snoc, fm_exit (by omega)])) | exact LeA.eqsl (by first | rfl | (simp; done) | (rw [tupV_snoc, fm_exit (by omega)])) | exact LeA.eqd (by first | rfl | (simp; done) | (rw [tupV_snoc, fm_exit (by omega)])))⟩, trivial⟩⟩ (by kernel_rfl) (by kernel_rfl) trivial⟩
  ·try simp only [Q, Val.cs_len, Int.ofNat_lt, Int.ofNat_le] at h2p
   refine sqF ?_
   refine ar ?_
   refine Exists.intro ((pre ++ [l], rest)) ⟨(by have hz := hg1; rw [← hz]; simp), (by simp), Sub.x (by kernel_rfl) (by kernel_rfl) ⟨⟨_, rfl, (LeA.eqi (by first | rfl | (simp; done) | (rw [tupV_snoc, fm_exit (by omega)])))⟩, ⟨⟨_, rfl, (by first | exact LeA.refl _ | exact LeA.gld (by first | rfl | (simp; done) | (rw [tupV_snoc, fm_exit (by omega)])) | exact LeA.nild (by first | rfl | (simp; done) | (rw [tupV_snoc, fm_exit (by omega)])) | exact LeA.eqsl (by first | rfl | (simp; done) | (rw [tupV_snoc, fm_exit (by omega)])) | exact LeA.eqd (by first | rfl | (simp; done) | (rw [tupV_snoc, fm_exit (by omega)])))⟩, trivial⟩⟩ (by kernel_rfl) (by kernel_rfl) trivial⟩
 ·try simp only [Q, Val.cs_len, Int.ofNat_lt, Int.ofNat_le] at h1p
  have hrest : rest = [] := by
   rcases rest with _ | ⟨a, b⟩
   ·rfl
   ·exfalso; have hz := congrArg List.length (hg1); simp only [List.length_append, List.length_cons, List.length_map] at hz; omega
  subst hrest
  refine rn0 (r1 rfl) (.eqd ?_)
  all_goals ((rw [List.append_nil] at hg1); subst hg1; rfl)
end Go.Proofs.Ytpimgoacljakgaa
