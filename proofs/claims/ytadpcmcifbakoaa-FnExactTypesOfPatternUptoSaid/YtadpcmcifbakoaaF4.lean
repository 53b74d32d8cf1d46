/-
  WALKS: constructors of a type and types of their arguments.
-/
import Derived.Test.YtadpcmcifbakoaaF3
namespace Go.Proofs.Ytadpcmcifbakoaa
open Go
set_option linter.unusedSimpArgs false
set_option linter.unusedVariables false
set_option maxRecDepth 100000
set_option maxHeartbeats 2000000
def fits (c : Ctor) (k : Int) : Bool := decide (k = 0) || (decide (c.index = 0) || decide (c.index = k))
def ctorsFrom (k : Int) : Nat → List Ctor → List Int
 | _, [] => []
 | i, c :: r => if fits c k then (i : Int) :: ctorsFrom k (i + 1) r else ctorsFrom k (i + 1) r
def argTy (k : Int) (t : Ty) : Ty := if t.index = -1 then ⟨t.data, k⟩ else t
def resIx (c : Ctor) (k : Int) : Int := if c.index = 0 then k else c.index
theorem ctorsFrom_len (k : Int) : ∀ (l : List Ctor) (i : Nat), (ctorsFrom k i l).length ≤ l.length
 | [], _ => by simp [ctorsFrom]
 | c :: r, i => by
  have := ctorsFrom_len k r (i + 1)
  unfold ctorsFrom; split <;> simp <;> omega
theorem impl_ctorsOf_int_fn {w : List Data} {k : Int} : FnD Try.prog 123 [.d (encDatas w), .agg [.d (.i (-1)), .d (.i k)]] [] (.d (encInts [])) [] := by
 refine Fn.body (fn := Try.f123) (n := 44) rfl rfl rfl rfl rfl (fun w0 F0 own kept hk => ?_)
 refine sr ?_
 refine Walk.box (id := 3003) .none rfl rfl rfl rfl rfl rfl rfl ?_
 refine asg ?_
 refine tv ?_
 refine sr ?_
 refine Walk.assignNil 1 1 .none rfl rfl ?_
 refine tv ?_
 refine CWp.seq ?_
 refine sr ?_
 refine Walk.fieldB fd38_0 .none rfl rfl ?_
 refine Walk.loadB ty3 .none rfl rfl rfl rfl ?_
 refine Walk.neI .none rfl rfl rfl ?_
 refine tv ?_
 refine cd ?_ ?_
 ·intro h1; have ⟨h1p, h1s⟩ := dup h1; try simp only [Q5] at h1s
  try simp only [Q] at h1p
  exact absurd h1 (by simp) --stop
 ·intro h1; have ⟨h1p, h1s⟩ := dup h1; try simp only [Q5] at h1s
  try simp only [Q] at h1p
  --
  refine CWp.skip ?_
  refine sr ?_
  refine mv ?_
  refine asg ?_
  refine tv ?_
  refine CWp.ret ?_
  refine ⟨_, _, [], (.cons (.tmp rfl) .nil), (.gld ?_), ⟨rfl, rfl⟩, HSub.nil, noBox⟩
  all_goals (first | rfl | (simp [h1s, h1p]; done) | (simp_all; done) | (simp_all; omega) | omega)
theorem impl_ctorsOf_fn {w : List Data} {d : Nat} {k : Int} (hs : WSmall w) (hd : d < w.length) : FnD Try.prog 123 [.d (encDatas w), .agg [.d (.i d), .d (.i k)]] [] (.d (encInts (ctorsFrom k 0 (nth w d).ctors))) [] := by
 have hb := hs.ctors d
 refine Fn.body (fn := Try.f123) (n := 44) rfl rfl rfl rfl rfl (fun w0 F0 own kept hk => ?_)
 refine sr ?_
 refine Walk.box (id := 3003) .none rfl rfl rfl rfl rfl rfl rfl ?_
 refine asg ?_
 refine tv ?_
 refine sr ?_
 refine Walk.assignNil 1 1 .none rfl rfl ?_
 refine tv ?_
 refine CWp.seq ?_
 refine sr ?_
 refine Walk.fieldB fd38_0 .none rfl rfl ?_
 refine Walk.loadB ty3 .none rfl rfl rfl rfl ?_
 refine Walk.neI .none rfl rfl rfl ?_
 refine tv ?_
 refine cd ?_ ?_
 ·intro h1; have ⟨h1p, h1s⟩ := dup h1; try simp only [Q5] at h1s
  try simp only [Q] at h1p
  refine sr ?_
  refine mv ?_
  refine Walk.fieldB fd38_0 .none rfl rfl ?_
  refine Walk.loadB ty3 .none rfl rfl rfl rfl ?_
  refine Walk.idx sl26 .none rfl rfl rfl rfl (at_nth hd) rfl ?_
  refine Walk.fieldP fd81_1 .none rfl rfl ?_
  refine Walk.loadP ty79 .none rfl rfl rfl ?_
  refine Walk.len sl79 .none rfl rfl ?_
  refine mv ?_
  refine tv ?_
  refine CWp.block ?_
  refine CWp.loopX (ι := List (Ctor) × List (Ctor) × (List Int)) hk (fun x => [(18, .d (.i (x.1.length : Int))), (5, .gl 1 (x.2.2.map fun n => [D.i n]))]) [6, 7, 19, 20, 21, 22, 23, 24, 25, 26, 27, 28, 29, 30, 31, 32, 33, 34, 35, 36, 37, 38, 39, 40, 41, 42] (fun x => [(1, some (.tok ((x.2.2.map fun n => [D.i n])).length 1))]) (fun x => x.1 ++ x.2.1 = (nth w d).ctors ∧ x.2.2 ++ ctorsFrom k x.1.length x.2.1 = ctorsFrom k 0 (nth w d).ctors ∧ x.2.2.length ≤ x.1.length) (fun x => x.2.1.length) ([], (nth w d).ctors, []) ⟨by simp, by simp, by simp⟩ ⟨⟨_, rfl, (LeA.eqi (by first | rfl | (simp; done) | (simp [fits, hk]; done)))⟩, ⟨⟨_, rfl, (LeA.glg (by first | rfl | (simp; done) | (simp [fits, hk]; done)))⟩, trivial⟩⟩ ⟨beq_nat_eq (by first | rfl | (simp; done) | (simp; omega) | (first | rfl | (simp; done) | (simp [fits, hk]; done))), trivial⟩ (fun x => rfl) (fun x hg1 => ?_)
  obtain ⟨pre, rest, acc⟩ := x
  dsimp only at hg1 ⊢
  refine sr ?_
  refine Walk.ltI .none rfl rfl rfl ?_
  refine tv ?_
  refine CWp.seq ?_
  refine cd ?_ ?_
  ·intro h2; have ⟨h2p, h2s⟩ := dup h2; try simp only [Q5] at h2s
   try simp only [Q] at h2p
   rcases rest with _ | ⟨y, rest⟩
   ·exfalso; simp_all
   refine CWp.skip ?_
   refine CWp.seq ?_
   refine CWp.block ?_
   refine sr ?_
   refine mv ?_
   refine Walk.idx sl79 .none rfl rfl rfl rfl (zip_at hg1.1) rfl ?_
   refine Walk.loadPA ty90 .none rfl rfl rfl rfl ?_
   refine Walk.alloc (id := 3007) tz90 rfl .none rfl rfl rfl rfl ?_
   refine asg ?_
   refine Walk.store ty90 .none rfl rfl rfl rfl rfl rfl (by simp) rfl ?_
   refine tv ?_
   refine sr ?_
   refine Walk.fieldB fd38_1 .none rfl rfl ?_
   refine Walk.loadB ty3 .none rfl rfl rfl rfl ?_
   refine Walk.eqI .none rfl rfl rfl ?_
   refine mv ?_
   refine sp 26 ?_ ?_
   ·intro h3; have ⟨h3p, h3s⟩ := dup h3; try simp only [Q5] at h3s
    try simp only [Q] at h3p
    refine ps h3 ?_
    refine ps h3 ?_
    refine ps h3 ?_
    refine Walk.pickT .none rfl rfl h3 rfl ?_
    refine mv ?_
    refine ps rfl ?_
    refine ps rfl ?_
    refine ps rfl ?_
    refine ps rfl ?_
    refine ps rfl ?_
    refine Walk.pickT .none rfl rfl rfl rfl ?_
    refine tv ?_
    refine cd ?_ ?_
    ·intro h4; have ⟨h4p, h4s⟩ := dup h4; try simp only [Q5] at h4s
     try simp only [Q] at h4p
     refine CWp.region rfl ?_
     refine mv ?_
     refine mv ?_
     refine Walk.sliceLit sl126 tz3 rfl (by decide) (ks := [0]) (xs := [_]) rfl rfl (by decide) (by decide) .none rfl rfl rfl rfl ?_
     refine Walk.append sl126 zz3 rfl .none rfl rfl rfl rfl (htokL rfl (by first | rfl | (simp; done) | (simp; omega))) (by simp) (by have hl := hg1.2.2; simp; omega) (by have hl := hg1.2.2; simp; omega) ?_
     refine asg ?_
     refine tv ?_
     refine CWp.region rfl ?_
     refine Walk.addI .none rfl rfl rfl (by first | (constructor <;> omega) | (constructor <;> simp <;> omega)) ?_
     refine mv ?_
     refine tv ?_
     refine ⟨(pre ++ [y], rest, if fits y k then acc ++ [(pre.length : Int)] else acc), ⟨(by have hz := hg1.1; rw [← hz]; simp), ⟨by rw [← hg1.2.1]; by_cases hf : fits y k = true <;> simp [ctorsFrom, hf], by split <;> simp <;> omega⟩⟩, (by simp), Sub.x (by kernel_rfl) (by kernel_rfl) ⟨⟨_, rfl, (LeA.eqi (by first | rfl | (simp; done) | (simp [fits, h1s, h1p, h2s, h2p, h3s, h3p, h4s, h4p]; done)))⟩, ⟨⟨_, rfl, (LeA.glg (by first | rfl | (simp; done) | (simp [fits, h1s, h1p, h2s, h2p, h3s, h3p, h4s, h4p]; done)))⟩, trivial⟩⟩ (by kernel_rfl) (by kernel_rfl) ⟨beq_nat_eq (by first | rfl | (simp; done) | (simp; omega) | (first | rfl | (simp; done) | (simp [fits, h1s, h1p, h2s, h2p, h3s, h3p, h4s, h4p]; done))), trivial⟩⟩
    ·exact fun h => absurd h (by simp)
   ·intro h3; have ⟨h3p, h3s⟩ := dup h3; try simp only [Q5] at h3s
    try simp only [Q] at h3p
    refine Walk.fieldB fd90_2 (.some rfl rfl h3) rfl rfl ?_
    refine Walk.loadB ty3 (.some rfl rfl h3) rfl rfl rfl rfl ?_
    refine Walk.eqI (.some rfl rfl h3) rfl rfl rfl ?_
    refine Walk.pickF .none rfl rfl h3 rfl ?_
    refine mv ?_
    refine sp 31 ?_ ?_
    ·intro h5; have ⟨h5p, h5s⟩ := dup h5; try simp only [Q5] at h5s
     try simp only [Q] at h5p
     refine ps h5 ?_
     refine ps h5 ?_
     refine ps h5 ?_
     refine ps h5 ?_
     refine ps h5 ?_
     refine Walk.pickT .none rfl rfl h5 rfl ?_
     refine tv ?_
     refine cd ?_ ?_
     ·intro h6; have ⟨h6p, h6s⟩ := dup h6; try simp only [Q5] at h6s
      try simp only [Q] at h6p
      refine CWp.region rfl ?_
      refine mv ?_
      refine mv ?_
      refine Walk.sliceLit sl126 tz3 rfl (by decide) (ks := [0]) (xs := [_]) rfl rfl (by decide) (by decide) .none rfl rfl rfl rfl ?_
      refine Walk.append sl126 zz3 rfl .none rfl rfl rfl rfl (htokL rfl (by first | rfl | (simp; done) | (simp; omega))) (by simp) (by have hl := hg1.2.2; simp; omega) (by have hl := hg1.2.2; simp; omega) ?_
      refine asg ?_
      refine tv ?_
      refine CWp.region rfl ?_
      refine Walk.addI .none rfl rfl rfl (by first | (constructor <;> omega) | (constructor <;> simp <;> omega)) ?_
      refine mv ?_
      refine tv ?_
      refine ⟨(pre ++ [y], rest, if fits y k then acc ++ [(pre.length : Int)] else acc), ⟨(by have hz := hg1.1; rw [← hz]; simp), ⟨by rw [← hg1.2.1]; by_cases hf : fits y k = true <;> simp [ctorsFrom, hf], by split <;> simp <;> omega⟩⟩, (by simp), Sub.x (by kernel_rfl) (by kernel_rfl) ⟨⟨_, rfl, (LeA.eqi (by first | rfl | (simp; done) | (simp [fits, h1s, h1p, h2s, h2p, h3s, h3p, h5s, h5p, h6s, h6p]; done)))⟩, ⟨⟨_, rfl, (LeA.glg (by first | rfl | (simp; done) | (simp [fits, h1s, h1p, h2s, h2p, h3s, h3p, h5s, h5p, h6s, h6p]; done)))⟩, trivial⟩⟩ (by kernel_rfl) (by kernel_rfl) ⟨beq_nat_eq (by first | rfl | (simp; done) | (simp; omega) | (first | rfl | (simp; done) | (simp [fits, h1s, h1p, h2s, h2p, h3s, h3p, h5s, h5p, h6s, h6p]; done))), trivial⟩⟩
     ·exact fun h => absurd h (by simp)
    ·intro h5; have ⟨h5p, h5s⟩ := dup h5; try simp only [Q5] at h5s
     try simp only [Q] at h5p
     refine Walk.fieldB fd90_2 (.some rfl rfl h5) rfl rfl ?_
     refine Walk.loadB ty3 (.some rfl rfl h5) rfl rfl rfl rfl ?_
     refine Walk.fieldB fd38_1 (.some rfl rfl h5) rfl rfl ?_
     refine Walk.loadB ty3 (.some rfl rfl h5) rfl rfl rfl rfl ?_
     refine Walk.eqI (.some rfl rfl h5) rfl rfl rfl ?_
     refine Walk.pickF .none rfl rfl h5 rfl ?_
     refine tv ?_
     refine cd ?_ ?_
     ·intro h7; have ⟨h7p, h7s⟩ := dup h7; try simp only [Q5] at h7s
      try simp only [Q] at h7p
      refine CWp.region rfl ?_
      refine mv ?_
      refine mv ?_
      refine Walk.sliceLit sl126 tz3 rfl (by decide) (ks := [0]) (xs := [_]) rfl rfl (by decide) (by decide) .none rfl rfl rfl rfl ?_
      refine Walk.append sl126 zz3 rfl .none rfl rfl rfl rfl (htokL rfl (by first | rfl | (simp; done) | (simp; omega))) (by simp) (by have hl := hg1.2.2; simp; omega) (by have hl := hg1.2.2; simp; omega) ?_
      refine asg ?_
      refine tv ?_
      refine CWp.region rfl ?_
      refine Walk.addI .none rfl rfl rfl (by first | (constructor <;> omega) | (constructor <;> simp <;> omega)) ?_
      refine mv ?_
      refine tv ?_
      refine ⟨(pre ++ [y], rest, if fits y k then acc ++ [(pre.length : Int)] else acc), ⟨(by have hz := hg1.1; rw [← hz]; simp), ⟨by rw [← hg1.2.1]; by_cases hf : fits y k = true <;> simp [ctorsFrom, hf], by split <;> simp <;> omega⟩⟩, (by simp), Sub.x (by kernel_rfl) (by kernel_rfl) ⟨⟨_, rfl, (LeA.eqi (by first | rfl | (simp; done) | (simp [fits, h1s, h1p, h2s, h2p, h3s, h3p, h5s, h5p, h7s, h7p]; done)))⟩, ⟨⟨_, rfl, (LeA.glg (by first | rfl | (simp; done) | (simp [fits, h1s, h1p, h2s, h2p, h3s, h3p, h5s, h5p, h7s, h7p]; done)))⟩, trivial⟩⟩ (by kernel_rfl) (by kernel_rfl) ⟨beq_nat_eq (by first | rfl | (simp; done) | (simp; omega) | (first | rfl | (simp; done) | (simp [fits, h1s, h1p, h2s, h2p, h3s, h3p, h5s, h5p, h7s, h7p]; done))), trivial⟩⟩
     ·intro h7; have ⟨h7p, h7s⟩ := dup h7; try simp only [Q5] at h7s
      try simp only [Q] at h7p
      refine CWp.skip ?_
      refine CWp.region rfl ?_
      refine Walk.addI .none rfl rfl rfl (by first | (constructor <;> omega) | (constructor <;> simp <;> omega)) ?_
      refine mv ?_
      refine tv ?_
      refine ⟨(pre ++ [y], rest, if fits y k then acc ++ [(pre.length : Int)] else acc), ⟨(by have hz := hg1.1; rw [← hz]; simp), ⟨by rw [← hg1.2.1]; by_cases hf : fits y k = true <;> simp [ctorsFrom, hf], by split <;> simp <;> omega⟩⟩, (by simp), Sub.x (by kernel_rfl) (by kernel_rfl) ⟨⟨_, rfl, (LeA.eqi (by first | rfl | (simp; done) | (simp [fits, h1s, h1p, h2s, h2p, h3s, h3p, h5s, h5p, h7s, h7p]; done)))⟩, ⟨⟨_, rfl, (LeA.glg (by first | rfl | (simp; done) | (simp [fits, h1s, h1p, h2s, h2p, h3s, h3p, h5s, h5p, h7s, h7p]; done)))⟩, trivial⟩⟩ (by kernel_rfl) (by kernel_rfl) ⟨beq_nat_eq (by first | rfl | (simp; done) | (simp; omega) | (first | rfl | (simp; done) | (simp [fits, h1s, h1p, h2s, h2p, h3s, h3p, h5s, h5p, h7s, h7p]; done))), trivial⟩⟩
  ·intro h2; have ⟨h2p, h2s⟩ := dup h2; try simp only [Q5] at h2s
   try simp only [Q] at h2p
   have hrest : rest = [] := by
    rcases rest with _ | ⟨a, b⟩
    ·rfl
    ·exfalso; have hz := congrArg List.length (hg1.1); simp only [List.length_append, List.length_cons, List.length_map] at hz; omega
   subst hrest
   refine CWp.exit ?_
   refine sr ?_
   refine mv ?_
   refine asg ?_
   refine tv ?_
   refine CWp.ret ?_
   refine ⟨_, _, [], (.cons (.tmp rfl) .nil), (.gld ?_), ⟨rfl, rfl⟩, HSub.nil, noBox⟩
   all_goals (have e := hg1.2.1; simp only [ctorsFrom, List.append_nil] at e; rw [e])
 ·intro h1; have ⟨h1p, h1s⟩ := dup h1; try simp only [Q5] at h1s
  try simp only [Q] at h1p
  exfalso; simp at h1 <;> omega --stop
theorem spec_l1Fits_fn {s : Str} {l : List Ty} {i k : Int} : FnD Try.prog 144 [.agg [.d (.str s), .d (encTys l), .d (.i i)], .d (.i k)] [] (.d (.bool (fits ⟨s, l, i⟩ k))) [] := by
 refine Fn.body (fn := Try.f144) (n := 18) rfl rfl rfl rfl rfl (fun w0 F0 own kept hk => ?_)
 refine sr ?_
 refine Walk.box (id := 3002) .none rfl rfl rfl rfl rfl rfl rfl ?_
 refine asg ?_
 refine tv ?_
 refine sr ?_
 refine Walk.fieldB fd90_2 .none rfl rfl ?_
 refine Walk.loadB ty3 .none rfl rfl rfl rfl ?_
 refine Walk.eqI .none rfl rfl rfl ?_
 refine mv ?_
 refine sp 8 ?_ ?_
 ·intro h1; have ⟨h1p, h1s⟩ := dup h1; try simp only [Q5] at h1s
  try simp only [Q] at h1p
  refine ps h1 ?_
  refine ps h1 ?_
  refine Walk.pickT .none rfl rfl h1 rfl ?_
  refine mv ?_
  refine ps rfl ?_
  refine ps rfl ?_
  refine ps rfl ?_
  refine ps rfl ?_
  refine Walk.pickT .none rfl rfl rfl rfl ?_
  refine asg ?_
  refine tv ?_
  refine CWp.ret ?_
  refine ⟨_, _, [], (.cons (.tmp rfl) .nil), (.eqd ?_), ⟨rfl, rfl⟩, HSub.nil, noBox⟩
  all_goals (refine congrArg D.bool ?_; simp [fits, h1s, h1p])
 ·intro h1; have ⟨h1p, h1s⟩ := dup h1; try simp only [Q5] at h1s
  try simp only [Q] at h1p
  refine Walk.move (.some rfl rfl h1) rfl rfl ?_
  refine Walk.eqI (.some rfl rfl h1) rfl rfl rfl ?_
  refine Walk.pickF .none rfl rfl h1 rfl ?_
  refine mv ?_
  refine sp 12 ?_ ?_
  ·intro h2; have ⟨h2p, h2s⟩ := dup h2; try simp only [Q5] at h2s
   try simp only [Q] at h2p
   refine ps h2 ?_
   refine ps h2 ?_
   refine ps h2 ?_
   refine ps h2 ?_
   refine Walk.pickT .none rfl rfl h2 rfl ?_
   refine asg ?_
   refine tv ?_
   refine CWp.ret ?_
   refine ⟨_, _, [], (.cons (.tmp rfl) .nil), (.eqd ?_), ⟨rfl, rfl⟩, HSub.nil, noBox⟩
   all_goals (refine congrArg D.bool ?_; simp [fits, h1s, h1p, h2s, h2p])
  ·intro h2; have ⟨h2p, h2s⟩ := dup h2; try simp only [Q5] at h2s
   try simp only [Q] at h2p
   refine Walk.fieldB fd90_2 (.some rfl rfl h2) rfl rfl ?_
   refine Walk.loadB ty3 (.some rfl rfl h2) rfl rfl rfl rfl ?_
   refine Walk.move (.some rfl rfl h2) rfl rfl ?_
   refine Walk.eqI (.some rfl rfl h2) rfl rfl rfl ?_
   refine Walk.pickF .none rfl rfl h2 rfl ?_
   refine asg ?_
   refine tv ?_
   refine CWp.ret ?_
   refine ⟨_, _, [], (.cons (.tmp rfl) .nil), (.eqd ?_), ⟨rfl, rfl⟩, HSub.nil, noBox⟩
   all_goals (refine congrArg D.bool ?_; simp [fits, h1s, h1p, h2s, h2p])
theorem spec_l1Ctors_int_fn {w : List Data} {k : Int} : FnD Try.prog 120 [.d (encDatas w), .agg [.d (.i (-1)), .d (.i k)]] [] (.d (encInts [])) [] := by
 refine Fn.body (fn := Try.f120) (n := 40) rfl rfl rfl rfl rfl (fun w0 F0 own kept hk => ?_)
 refine sr ?_
 refine Walk.box (id := 3003) .none rfl rfl rfl rfl rfl rfl rfl ?_
 refine asg ?_
 refine tv ?_
 refine sr ?_
 refine Walk.sliceEmptyG 1 sl126 .none rfl rfl ?_
 refine asg ?_
 refine tv ?_
 refine CWp.seq ?_
 refine sr ?_
 refine Walk.fieldB fd38_0 .none rfl rfl ?_
 refine Walk.loadB ty3 .none rfl rfl rfl rfl ?_
 refine Walk.eqI .none rfl rfl rfl ?_
 refine tv ?_
 refine cd ?_ ?_
 ·intro h1; have ⟨h1p, h1s⟩ := dup h1; try simp only [Q5] at h1s
  try simp only [Q] at h1p
  --
  refine sr ?_
  refine mv ?_
  refine asg ?_
  refine tv ?_
  refine CWp.ret ?_
  refine ⟨_, _, [], (.cons (.tmp rfl) .nil), (.gld ?_), ⟨rfl, rfl⟩, HSub.nil, noBox⟩
  all_goals (first | rfl | (simp [h1s, h1p]; done) | (simp_all; done) | (simp_all; omega) | omega)
 ·intro h1; have ⟨h1p, h1s⟩ := dup h1; try simp only [Q5] at h1s
  try simp only [Q] at h1p
  exact absurd h1 (by simp) --stop
theorem spec_l1Ctors_fn {w : List Data} {d : Nat} {k : Int} (hs : WSmall w) (hd : d < w.length) : FnD Try.prog 120 [.d (encDatas w), .agg [.d (.i d), .d (.i k)]] [] (.d (encInts (ctorsFrom k 0 (nth w d).ctors))) [] := by
 have hb := hs.ctors d
 refine Fn.body (fn := Try.f120) (n := 40) rfl rfl rfl rfl rfl (fun w0 F0 own kept hk => ?_)
 refine sr ?_
 refine Walk.box (id := 3003) .none rfl rfl rfl rfl rfl rfl rfl ?_
 refine asg ?_
 refine tv ?_
 refine sr ?_
 refine Walk.sliceEmptyG 1 sl126 .none rfl rfl ?_
 refine asg ?_
 refine tv ?_
 refine CWp.seq ?_
 refine sr ?_
 refine Walk.fieldB fd38_0 .none rfl rfl ?_
 refine Walk.loadB ty3 .none rfl rfl rfl rfl ?_
 refine Walk.eqI .none rfl rfl rfl ?_
 refine tv ?_
 refine cd ?_ ?_
 ·intro h1; have ⟨h1p, h1s⟩ := dup h1; try simp only [Q5] at h1s
  try simp only [Q] at h1p
  exfalso; simp at h1 <;> omega --stop
 ·intro h1; have ⟨h1p, h1s⟩ := dup h1; try simp only [Q5] at h1s
  try simp only [Q] at h1p
  refine CWp.skip ?_
  refine CWp.seq ?_
  refine sr ?_
  refine asg ?_
  refine tv ?_
  refine CWp.block ?_
  refine CWp.loopX (ι := List (Ctor) × List (Ctor) × (List Int)) hk (fun x => [(6, .d (.i (x.1.length : Int))), (5, .gl 1 (x.2.2.map fun n => [D.i n]))]) [12, 13, 14, 15, 16, 17, 18, 19, 20, 21, 22, 23, 24, 25, 26, 27, 28, 29, 30, 31, 32, 33, 34, 35, 36, 37, 38] (fun x => [(1, some (.tok ((x.2.2.map fun n => [D.i n])).length 1))]) (fun x => x.1 ++ x.2.1 = (nth w d).ctors ∧ x.2.2 ++ ctorsFrom k x.1.length x.2.1 = ctorsFrom k 0 (nth w d).ctors ∧ x.2.2.length ≤ x.1.length) (fun x => x.2.1.length) ([], (nth w d).ctors, []) ⟨by simp, by simp, by simp⟩ ⟨⟨_, rfl, (LeA.eqi (by first | rfl | (simp; done) | (simp [Ctor.eta, hk]; done) | (simp only [Ctor.eta] at *; simp [*]; done)))⟩, ⟨⟨_, rfl, (LeA.glg (by first | rfl | (simp; done) | (simp [Ctor.eta, hk]; done) | (simp only [Ctor.eta] at *; simp [*]; done)))⟩, trivial⟩⟩ ⟨beq_nat_eq (by first | rfl | (simp; done) | (simp; omega) | (first | rfl | (simp; done) | (simp [Ctor.eta, hk]; done) | (simp only [Ctor.eta] at *; simp [*]; done))), trivial⟩ (fun x => rfl) (fun x hg1 => ?_)
  obtain ⟨pre, rest, acc⟩ := x
  dsimp only at hg1 ⊢
  refine CWp.seq ?_
  refine sr ?_
  refine mv ?_
  refine mv ?_
  refine Walk.fieldB fd38_0 .none rfl rfl ?_
  refine Walk.loadB ty3 .none rfl rfl rfl rfl ?_
  refine Walk.idx sl26 .none rfl rfl rfl rfl (at_nth hd) rfl ?_
  refine Walk.fieldP fd81_1 .none rfl rfl ?_
  refine Walk.loadP ty79 .none rfl rfl rfl ?_
  refine Walk.len sl79 .none rfl rfl ?_
  refine Walk.ltI .none rfl rfl rfl ?_
  refine tv ?_
  refine cd ?_ ?_
  ·intro h2; have ⟨h2p, h2s⟩ := dup h2; try simp only [Q5] at h2s
   try simp only [Q] at h2p
   rcases rest with _ | ⟨y, rest⟩
   ·exfalso; simp_all
   refine CWp.skip ?_
   refine CWp.seq ?_
   refine CWp.block ?_
   refine CWp.seq ?_
   refine CWp.drawn mixed rfl ?_
   refine mv ?_
   refine Walk.fieldB fd38_0 .none rfl rfl ?_
   refine Walk.loadB ty3 .none rfl rfl rfl rfl ?_
   refine Walk.idx sl26 .none rfl rfl rfl rfl (at_nth hd) rfl ?_
   refine Walk.fieldP fd81_1 .none rfl rfl ?_
   refine Walk.loadP ty79 .none rfl rfl rfl ?_
   refine mv ?_
   refine Walk.idx sl79 .none rfl rfl rfl rfl (zip_at hg1.1) rfl ?_
   refine Walk.loadPA ty90 .none rfl rfl rfl rfl ?_
   refine Walk.fieldB fd38_1 .none rfl rfl ?_
   refine Walk.loadB ty3 .none rfl rfl rfl rfl ?_
   refine Walk.call (cr := []) cal144 (spec_l1Fits_fn) rfl .none rfl rfl (LeL.refl _) trivial rfl rfl rfl ?_
   refine ⟨by show _ = _; kernel_rfl, ?_⟩
   refine cd ?_ ?_
   ·intro h3; have ⟨h3p, h3s⟩ := dup h3; try simp only [Q5] at h3s
    try simp only [Q] at h3p
    refine CWp.region rfl ?_
    refine mv ?_
    refine mv ?_
    refine Walk.sliceLit sl126 tz3 rfl (by decide) (ks := [0]) (xs := [_]) rfl rfl (by decide) (by decide) .none rfl rfl rfl rfl ?_
    refine Walk.append sl126 zz3 rfl .none rfl rfl rfl rfl (htokL rfl (by first | rfl | (simp; done) | (simp; omega))) (by simp) (by have hl := hg1.2.2; simp; omega) (by have hl := hg1.2.2; simp; omega) ?_
    refine asg ?_
    refine tv ?_
    refine CWp.region rfl ?_
    refine mv ?_
    refine Walk.addI .none rfl rfl rfl (by first | (constructor <;> omega) | (constructor <;> simp <;> omega)) ?_
    refine asg ?_
    refine tv ?_
    refine ⟨(pre ++ [y], rest, if fits y k then acc ++ [(pre.length : Int)] else acc), ⟨(by have hz := hg1.1; rw [← hz]; simp), ⟨by rw [← hg1.2.1]; by_cases hf : fits y k = true <;> simp [ctorsFrom, hf], by split <;> simp <;> omega⟩⟩, (by simp), Sub.x (by kernel_rfl) (by kernel_rfl) ⟨⟨_, rfl, (LeA.eqi (by first | rfl | (simp; done) | (simp [Ctor.eta, h1s, h1p, h2s, h2p, h3s, h3p]; done) | (simp only [Ctor.eta] at *; simp [*]; done)))⟩, ⟨⟨_, rfl, (LeA.glg (by first | rfl | (simp; done) | (simp [Ctor.eta, h1s, h1p, h2s, h2p, h3s, h3p]; done) | (simp only [Ctor.eta] at *; simp [*]; done)))⟩, trivial⟩⟩ (by kernel_rfl) (by kernel_rfl) ⟨beq_nat_eq (by first | rfl | (simp; done) | (simp; omega) | (first | rfl | (simp; done) | (simp [Ctor.eta, h1s, h1p, h2s, h2p, h3s, h3p]; done) | (simp only [Ctor.eta] at *; simp [*]; done))), trivial⟩⟩
   ·intro h3; have ⟨h3p, h3s⟩ := dup h3; try simp only [Q5] at h3s
    try simp only [Q] at h3p
    refine CWp.skip ?_
    refine CWp.region rfl ?_
    refine mv ?_
    refine Walk.addI .none rfl rfl rfl (by first | (constructor <;> omega) | (constructor <;> simp <;> omega)) ?_
    refine asg ?_
    refine tv ?_
    refine ⟨(pre ++ [y], rest, if fits y k then acc ++ [(pre.length : Int)] else acc), ⟨(by have hz := hg1.1; rw [← hz]; simp), ⟨by rw [← hg1.2.1]; by_cases hf : fits y k = true <;> simp [ctorsFrom, hf], by split <;> simp <;> omega⟩⟩, (by simp), Sub.x (by kernel_rfl) (by kernel_rfl) ⟨⟨_, rfl, (LeA.eqi (by first | rfl | (simp; done) | (simp [Ctor.eta, h1s, h1p, h2s, h2p, h3s, h3p]; done) | (simp only [Ctor.eta] at *; simp [*]; done)))⟩, ⟨⟨_, rfl, (LeA.glg (by first | rfl | (simp; done) | (simp [Ctor.eta, h1s, h1p, h2s, h2p, h3s, h3p]; done) | (simp only [Ctor.eta] at *; simp [*]; done)))⟩, trivial⟩⟩ (by kernel_rfl) (by kernel_rfl) ⟨beq_nat_eq (by first | rfl | (simp; done) | (simp; omega) | (first | rfl | (simp; done) | (simp [Ctor.eta, h1s, h1p, h2s, h2p, h3s, h3p]; done) | (simp only [Ctor.eta] at *; simp [*]; done))), trivial⟩⟩
  ·intro h2; have ⟨h2p, h2s⟩ := dup h2; try simp only [Q5] at h2s
   try simp only [Q] at h2p
   have hrest : rest = [] := by
    rcases rest with _ | ⟨a, b⟩
    ·rfl
    ·exfalso; have hz := congrArg List.length (hg1.1); simp only [List.length_append, List.length_cons, List.length_map] at hz; omega
   subst hrest
   refine CWp.exit ?_
   refine sr ?_
   refine mv ?_
   refine asg ?_
   refine tv ?_
   refine CWp.ret ?_
   refine ⟨_, _, [], (.cons (.tmp rfl) .nil), (.gld ?_), ⟨rfl, rfl⟩, HSub.nil, noBox⟩
   all_goals (have e := hg1.2.1; simp only [ctorsFrom, List.append_nil] at e; rw [e])
theorem spec_l1Result_fn {s : Str} {l : List Ty} {i k : Int} : FnD Try.prog 145 [.agg [.d (.str s), .d (encTys l), .d (.i i)], .d (.i k)] [] (.d (.i (resIx ⟨s, l, i⟩ k))) [] := by
 refine Fn.body (fn := Try.f145) (n := 11) rfl rfl rfl rfl rfl (fun w0 F0 own kept hk => ?_)
 refine sr ?_
 refine Walk.box (id := 3002) .none rfl rfl rfl rfl rfl rfl rfl ?_
 refine asg ?_
 refine tv ?_
 refine CWp.seq ?_
 refine sr ?_
 refine Walk.fieldB fd90_2 .none rfl rfl ?_
 refine Walk.loadB ty3 .none rfl rfl rfl rfl ?_
 refine Walk.eqI .none rfl rfl rfl ?_
 refine tv ?_
 refine cd ?_ ?_
 ·intro h1; have ⟨h1p, h1s⟩ := dup h1; try simp only [Q5] at h1s
  try simp only [Q] at h1p
  refine sr ?_
  refine mv ?_
  refine asg ?_
  refine tv ?_
  refine CWp.ret ?_
  refine ⟨_, _, [], (.cons (.tmp rfl) .nil), (.eqd ?_), ⟨rfl, rfl⟩, HSub.nil, noBox⟩
  all_goals (refine congrArg D.i ?_; simp [resIx, h1s, h1p])
 ·intro h1; have ⟨h1p, h1s⟩ := dup h1; try simp only [Q5] at h1s
  try simp only [Q] at h1p
  refine CWp.skip ?_
  refine sr ?_
  refine Walk.fieldB fd90_2 .none rfl rfl ?_
  refine Walk.loadB ty3 .none rfl rfl rfl rfl ?_
  refine asg ?_
  refine tv ?_
  refine CWp.ret ?_
  refine ⟨_, _, [], (.cons (.tmp rfl) .nil), (.eqd ?_), ⟨rfl, rfl⟩, HSub.nil, noBox⟩
  all_goals (refine congrArg D.i ?_; simp [resIx, h1s, h1p])
theorem impl_argTypes_fn {w : List Data} {d c : Nat} {k : Int} (hs : WSmall w) (hd : d < w.length) (hc : c < (nth w d).ctors.length) : FnD Try.prog 124 [.d (encDatas w), .agg [.d (.i d), .d (.i k)], .d (.i c)] [] (.d (encTys ((nth (nth w d).ctors c).args.map (argTy (resIx (nth (nth w d).ctors c) k))))) [] := by
 have hb := (hs.ctor _ (nth_mem hd) _ (nth_mem hc)).2
 refine Fn.body (fn := Try.f124) (n := 45) rfl rfl rfl rfl rfl (fun w0 F0 own kept hk => ?_)
 refine sr ?_
 refine Walk.box (id := 3004) .none rfl rfl rfl rfl rfl rfl rfl ?_
 refine asg ?_
 refine tv ?_
 refine sr ?_
 refine mv ?_
 refine Walk.fieldB fd38_0 .none rfl rfl ?_
 refine Walk.loadB ty3 .none rfl rfl rfl rfl ?_
 refine Walk.idx sl26 .none rfl rfl rfl rfl (at_nth hd) rfl ?_
 refine Walk.fieldP fd81_1 .none rfl rfl ?_
 refine Walk.loadP ty79 .none rfl rfl rfl ?_
 refine mv ?_
 refine Walk.idx sl79 .none rfl rfl rfl rfl (at_nth hc) rfl ?_
 refine Walk.loadPA ty90 .none rfl rfl rfl rfl ?_
 refine Walk.alloc (id := 3007) tz90 rfl .none rfl rfl rfl rfl ?_
 refine Walk.store ty90 .none rfl rfl rfl rfl rfl rfl (by simp) rfl ?_
 refine tv ?_
 refine sr ?_
 refine Walk.fieldB fd90_2 .none rfl rfl ?_
 refine Walk.loadB ty3 .none rfl rfl rfl rfl ?_
 refine asg ?_
 refine tv ?_
 refine CWp.seq ?_
 refine sr ?_
 refine mv ?_
 refine Walk.eqI .none rfl rfl rfl ?_
 refine tv ?_
 refine cd ?_ ?_
 ·intro h1; have ⟨h1p, h1s⟩ := dup h1; try simp only [Q5] at h1s
  try simp only [Q] at h1p
  refine CWp.region rfl ?_
  refine Walk.fieldB fd38_1 .none rfl rfl ?_
  refine Walk.loadB ty3 .none rfl rfl rfl rfl ?_
  refine asg ?_
  refine tv ?_
  refine sr ?_
  refine Walk.assignNil 1 2 .none rfl rfl ?_
  refine tv ?_
  refine CWp.seq ?_
  refine sr ?_
  refine Walk.fieldB fd90_1 .none rfl rfl ?_
  refine Walk.loadB ty24 .none rfl rfl rfl rfl ?_
  refine Walk.len sl24 .none rfl rfl ?_
  refine mv ?_
  refine tv ?_
  refine CWp.block ?_
  refine CWp.loopX (ι := List (Ty) × List (Ty)) hk (fun x => [(30, .d (.i (x.1.length : Int))), (9, .gl 1 ((x.1.map (argTy (resIx (nth (nth w d).ctors c) k))).map Ty.c))]) [11, 31, 32, 33, 34, 35, 36, 37, 38, 39, 40, 41, 42, 43] (fun x => [(1, some (.tok (((x.1.map (argTy (resIx (nth (nth w d).ctors c) k))).map Ty.c)).length 2))]) (fun x => x.1 ++ x.2 = (nth (nth w d).ctors c).args) (fun x => x.2.length) ([], (nth (nth w d).ctors c).args) (by simp) ⟨⟨_, rfl, (LeA.eqi (by first | rfl | (simp; done) | (simp [argTy, resIx, hk]; done)))⟩, ⟨⟨_, rfl, (LeA.glg (by first | rfl | (simp; done) | (simp [argTy, resIx, hk]; done)))⟩, trivial⟩⟩ ⟨beq_nat_eq (by first | rfl | (simp; done) | (simp; omega) | (first | rfl | (simp; done) | (simp [argTy, resIx, hk]; done))), trivial⟩ (fun x => rfl) (fun x hg1 => ?_)
  obtain ⟨pre, rest⟩ := x
  dsimp only at hg1 ⊢
  refine sr ?_
  refine Walk.ltI .none rfl rfl rfl ?_
  refine tv ?_
  refine CWp.seq ?_
  refine cd ?_ ?_
  ·intro h2; have ⟨h2p, h2s⟩ := dup h2; try simp only [Q5] at h2s
   try simp only [Q] at h2p
   rcases rest with _ | ⟨y, rest⟩
   ·exfalso; simp_all
   refine CWp.skip ?_
   refine CWp.seq ?_
   refine CWp.block ?_
   refine sr ?_
   refine Walk.idx sl24 .none rfl rfl rfl rfl (zip_at hg1) rfl ?_
   refine Walk.loadPA ty38 .none rfl rfl rfl rfl ?_
   refine Walk.alloc (id := 3011) tz38 rfl .none rfl rfl rfl rfl ?_
   refine Walk.store ty38 .none rfl rfl rfl rfl rfl rfl (by simp) rfl ?_
   refine tv ?_
   refine CWp.seq ?_
   refine sr ?_
   refine Walk.fieldB fd38_1 .none rfl rfl ?_
   refine Walk.loadB ty3 .none rfl rfl rfl rfl ?_
   refine Walk.eqI .none rfl rfl rfl ?_
   refine tv ?_
   refine cd ?_ ?_
   ·intro h3; have ⟨h3p, h3s⟩ := dup h3; try simp only [Q5] at h3s
    try simp only [Q] at h3p
    refine CWp.region rfl ?_
    refine mv ?_
    refine Walk.fieldB fd38_1 .none rfl rfl ?_
    refine Walk.store ty3 .none rfl rfl rfl rfl rfl rfl (by simp) rfl ?_
    refine tv ?_
    refine CWp.region rfl ?_
    refine mv ?_
    refine Walk.loadBA ty38 .none rfl rfl rfl rfl ?_
    refine Walk.sliceLit sl24 tz38 rfl (by decide) (ks := [0]) (xs := [_]) rfl rfl (by decide) (by decide) .none rfl rfl rfl rfl ?_
    refine Walk.append sl24 zz38 rfl .none rfl rfl rfl rfl (htokL rfl (by first | rfl | (simp; done) | (simp; omega))) (by simp) (by have hl := congrArg List.length hg1; simp at hl; simp; omega) (by have hl := congrArg List.length hg1; simp at hl; simp; omega) ?_
    refine asg ?_
    refine tv ?_
    refine CWp.region rfl ?_
    refine Walk.addI .none rfl rfl rfl (by first | (constructor <;> omega) | (constructor <;> simp <;> omega)) ?_
    refine mv ?_
    refine tv ?_
    refine ⟨(pre ++ [y], rest), (by have hz := hg1; rw [← hz]; simp), (by simp), Sub.x (by kernel_rfl) (by kernel_rfl) ⟨⟨_, rfl, (LeA.eqi (by first | rfl | (simp; done) | (simp [argTy, resIx, h1s, h1p, h2s, h2p, h3s, h3p]; done)))⟩, ⟨⟨_, rfl, (LeA.glg (by first | rfl | (simp; done) | (simp [argTy, resIx, h1s, h1p, h2s, h2p, h3s, h3p]; done)))⟩, trivial⟩⟩ (by kernel_rfl) (by kernel_rfl) ⟨beq_nat_eq (by first | rfl | (simp; done) | (simp; omega) | (first | rfl | (simp; done) | (simp [argTy, resIx, h1s, h1p, h2s, h2p, h3s, h3p]; done))), trivial⟩⟩
   ·intro h3; have ⟨h3p, h3s⟩ := dup h3; try simp only [Q5] at h3s
    try simp only [Q] at h3p
    refine CWp.skip ?_
    refine CWp.region rfl ?_
    refine mv ?_
    refine Walk.loadBA ty38 .none rfl rfl rfl rfl ?_
    refine Walk.sliceLit sl24 tz38 rfl (by decide) (ks := [0]) (xs := [_]) rfl rfl (by decide) (by decide) .none rfl rfl rfl rfl ?_
    refine Walk.append sl24 zz38 rfl .none rfl rfl rfl rfl (htokL rfl (by first | rfl | (simp; done) | (simp; omega))) (by simp) (by have hl := congrArg List.length hg1; simp at hl; simp; omega) (by have hl := congrArg List.length hg1; simp at hl; simp; omega) ?_
    refine asg ?_
    refine tv ?_
    refine CWp.region rfl ?_
    refine Walk.addI .none rfl rfl rfl (by first | (constructor <;> omega) | (constructor <;> simp <;> omega)) ?_
    refine mv ?_
    refine tv ?_
    refine ⟨(pre ++ [y], rest), (by have hz := hg1; rw [← hz]; simp), (by simp), Sub.x (by kernel_rfl) (by kernel_rfl) ⟨⟨_, rfl, (LeA.eqi (by first | rfl | (simp; done) | (simp [argTy, resIx, h1s, h1p, h2s, h2p, h3s, h3p]; done)))⟩, ⟨⟨_, rfl, (LeA.glg (by first | rfl | (simp; done) | (simp [argTy, resIx, h1s, h1p, h2s, h2p, h3s, h3p]; done)))⟩, trivial⟩⟩ (by kernel_rfl) (by kernel_rfl) ⟨beq_nat_eq (by first | rfl | (simp; done) | (simp; omega) | (first | rfl | (simp; done) | (simp [argTy, resIx, h1s, h1p, h2s, h2p, h3s, h3p]; done))), trivial⟩⟩
  ·intro h2; have ⟨h2p, h2s⟩ := dup h2; try simp only [Q5] at h2s
   try simp only [Q] at h2p
   have hrest : rest = [] := by
    rcases rest with _ | ⟨a, b⟩
    ·rfl
    ·exfalso; have hz := congrArg List.length (hg1); simp only [List.length_append, List.length_cons, List.length_map] at hz; omega
   subst hrest
   refine CWp.exit ?_
   refine sr ?_
   refine mv ?_
   refine asg ?_
   refine tv ?_
   refine CWp.ret ?_
   refine ⟨_, _, [], (.cons (.tmp rfl) .nil), (.gld ?_), ⟨rfl, rfl⟩, HSub.nil, noBox⟩
   all_goals (simp [← hg1, resIx, h1s, h1p, h2s, h2p])
 ·intro h1; have ⟨h1p, h1s⟩ := dup h1; try simp only [Q5] at h1s
  try simp only [Q] at h1p
  refine CWp.skip ?_
  refine sr ?_
  refine Walk.assignNil 1 2 .none rfl rfl ?_
  refine tv ?_
  refine CWp.seq ?_
  refine sr ?_
  refine Walk.fieldB fd90_1 .none rfl rfl ?_
  refine Walk.loadB ty24 .none rfl rfl rfl rfl ?_
  refine Walk.len sl24 .none rfl rfl ?_
  refine mv ?_
  refine tv ?_
  refine CWp.block ?_
  refine CWp.loopX (ι := List (Ty) × List (Ty)) hk (fun x => [(30, .d (.i (x.1.length : Int))), (9, .gl 1 ((x.1.map (argTy (resIx (nth (nth w d).ctors c) k))).map Ty.c))]) [11, 31, 32, 33, 34, 35, 36, 37, 38, 39, 40, 41, 42, 43] (fun x => [(1, some (.tok (((x.1.map (argTy (resIx (nth (nth w d).ctors c) k))).map Ty.c)).length 2))]) (fun x => x.1 ++ x.2 = (nth (nth w d).ctors c).args) (fun x => x.2.length) ([], (nth (nth w d).ctors c).args) (by simp) ⟨⟨_, rfl, (LeA.eqi (by first | rfl | (simp; done) | (simp [argTy, resIx, hk]; done)))⟩, ⟨⟨_, rfl, (LeA.glg (by first | rfl | (simp; done) | (simp [argTy, resIx, hk]; done)))⟩, trivial⟩⟩ ⟨beq_nat_eq (by first | rfl | (simp; done) | (simp; omega) | (first | rfl | (simp; done) | (simp [argTy, resIx, hk]; done))), trivial⟩ (fun x => rfl) (fun x hg1 => ?_)
  obtain ⟨pre, rest⟩ := x
  dsimp only at hg1 ⊢
  refine sr ?_
  refine Walk.ltI .none rfl rfl rfl ?_
  refine tv ?_
  refine CWp.seq ?_
  refine cd ?_ ?_
  ·intro h4; have ⟨h4p, h4s⟩ := dup h4; try simp only [Q5] at h4s
   try simp only [Q] at h4p
   rcases rest with _ | ⟨y, rest⟩
   ·exfalso; simp_all
   refine CWp.skip ?_
   refine CWp.seq ?_
   refine CWp.block ?_
   refine sr ?_
   refine Walk.idx sl24 .none rfl rfl rfl rfl (zip_at hg1) rfl ?_
   refine Walk.loadPA ty38 .none rfl rfl rfl rfl ?_
   refine Walk.alloc (id := 3011) tz38 rfl .none rfl rfl rfl rfl ?_
   refine Walk.store ty38 .none rfl rfl rfl rfl rfl rfl (by simp) rfl ?_
   refine tv ?_
   refine CWp.seq ?_
   refine sr ?_
   refine Walk.fieldB fd38_1 .none rfl rfl ?_
   refine Walk.loadB ty3 .none rfl rfl rfl rfl ?_
   refine Walk.eqI .none rfl rfl rfl ?_
   refine tv ?_
   refine cd ?_ ?_
   ·intro h5; have ⟨h5p, h5s⟩ := dup h5; try simp only [Q5] at h5s
    try simp only [Q] at h5p
    refine CWp.region rfl ?_
    refine mv ?_
    refine Walk.fieldB fd38_1 .none rfl rfl ?_
    refine Walk.store ty3 .none rfl rfl rfl rfl rfl rfl (by simp) rfl ?_
    refine tv ?_
    refine CWp.region rfl ?_
    refine mv ?_
    refine Walk.loadBA ty38 .none rfl rfl rfl rfl ?_
    refine Walk.sliceLit sl24 tz38 rfl (by decide) (ks := [0]) (xs := [_]) rfl rfl (by decide) (by decide) .none rfl rfl rfl rfl ?_
    refine Walk.append sl24 zz38 rfl .none rfl rfl rfl rfl (htokL rfl (by first | rfl | (simp; done) | (simp; omega))) (by simp) (by have hl := congrArg List.length hg1; simp at hl; simp; omega) (by have hl := congrArg List.length hg1; simp at hl; simp; omega) ?_
    refine asg ?_
    refine tv ?_
    refine CWp.region rfl ?_
    refine Walk.addI .none rfl rfl rfl (by first | (constructor <;> omega) | (constructor <;> simp <;> omega)) ?_
    refine mv ?_
    refine tv ?_
    refine ⟨(pre ++ [y], rest), (by have hz := hg1; rw [← hz]; simp), (by simp), Sub.x (by kernel_rfl) (by kernel_rfl) ⟨⟨_, rfl, (LeA.eqi (by first | rfl | (simp; done) | (simp [argTy, resIx, h1s, h1p, h4s, h4p, h5s, h5p]; done)))⟩, ⟨⟨_, rfl, (LeA.glg (by first | rfl | (simp; done) | (simp [argTy, resIx, h1s, h1p, h4s, h4p, h5s, h5p]; done)))⟩, trivial⟩⟩ (by kernel_rfl) (by kernel_rfl) ⟨beq_nat_eq (by first | rfl | (simp; done) | (simp; omega) | (first | rfl | (simp; done) | (simp [argTy, resIx, h1s, h1p, h4s, h4p, h5s, h5p]; done))), trivial⟩⟩
   ·intro h5; have ⟨h5p, h5s⟩ := dup h5; try simp only [Q5] at h5s
    try simp only [Q] at h5p
    refine CWp.skip ?_
    refine CWp.region rfl ?_
    refine mv ?_
    refine Walk.loadBA ty38 .none rfl rfl rfl rfl ?_
    refine Walk.sliceLit sl24 tz38 rfl (by decide) (ks := [0]) (xs := [_]) rfl rfl (by decide) (by decide) .none rfl rfl rfl rfl ?_
    refine Walk.append sl24 zz38 rfl .none rfl rfl rfl rfl (htokL rfl (by first | rfl | (simp; done) | (simp; omega))) (by simp) (by have hl := congrArg List.length hg1; simp at hl; simp; omega) (by have hl := congrArg List.length hg1; simp at hl; simp; omega) ?_
    refine asg ?_
    refine tv ?_
    refine CWp.region rfl ?_
    refine Walk.addI .none rfl rfl rfl (by first | (constructor <;> omega) | (constructor <;> simp <;> omega)) ?_
    refine mv ?_
    refine tv ?_
    refine ⟨(pre ++ [y], rest), (by have hz := hg1; rw [← hz]; simp), (by simp), Sub.x (by kernel_rfl) (by kernel_rfl) ⟨⟨_, rfl, (LeA.eqi (by first | rfl | (simp; done) | (simp [argTy, resIx, h1s, h1p, h4s, h4p, h5s, h5p]; done)))⟩, ⟨⟨_, rfl, (LeA.glg (by first | rfl | (simp; done) | (simp [argTy, resIx, h1s, h1p, h4s, h4p, h5s, h5p]; done)))⟩, trivial⟩⟩ (by kernel_rfl) (by kernel_rfl) ⟨beq_nat_eq (by first | rfl | (simp; done) | (simp; omega) | (first | rfl | (simp; done) | (simp [argTy, resIx, h1s, h1p, h4s, h4p, h5s, h5p]; done))), trivial⟩⟩
  ·intro h4; have ⟨h4p, h4s⟩ := dup h4; try simp only [Q5] at h4s
   try simp only [Q] at h4p
   have hrest : rest = [] := by
    rcases rest with _ | ⟨a, b⟩
    ·rfl
    ·exfalso; have hz := congrArg List.length (hg1); simp only [List.length_append, List.length_cons, List.length_map] at hz; omega
   subst hrest
   refine CWp.exit ?_
   refine sr ?_
   refine mv ?_
   refine asg ?_
   refine tv ?_
   refine CWp.ret ?_
   refine ⟨_, _, [], (.cons (.tmp rfl) .nil), (.gld ?_), ⟨rfl, rfl⟩, HSub.nil, noBox⟩
   all_goals (simp [← hg1, resIx, h1s, h1p, h4s, h4p])
theorem spec_l1Args_fn {w : List Data} {d c : Nat} {k : Int} (hs : WSmall w) (hd : d < w.length) (hc : c < (nth w d).ctors.length) : FnD Try.prog 121 [.d (encDatas w), .agg [.d (.i d), .d (.i k)], .d (.i c)] [] (.d (encTys ((nth (nth w d).ctors c).args.map (argTy (resIx (nth (nth w d).ctors c) k))))) [] := by
 have hb := (hs.ctor _ (nth_mem hd) _ (nth_mem hc)).2
 refine Fn.body (fn := Try.f121) (n := 46) rfl rfl rfl rfl rfl (fun w0 F0 own kept hk => ?_)
 refine sr ?_
 refine Walk.box (id := 3004) .none rfl rfl rfl rfl rfl rfl rfl ?_
 refine asg ?_
 refine tv ?_
 refine sr ?_
 refine Walk.sliceEmptyG 1 sl24 .none rfl rfl ?_
 refine asg ?_
 refine tv ?_
 refine sr ?_
 refine mv ?_
 refine Walk.fieldB fd38_0 .none rfl rfl ?_
 refine Walk.loadB ty3 .none rfl rfl rfl rfl ?_
 refine Walk.idx sl26 .none rfl rfl rfl rfl (at_nth hd) rfl ?_
 refine Walk.fieldP fd81_1 .none rfl rfl ?_
 refine Walk.loadP ty79 .none rfl rfl rfl ?_
 refine mv ?_
 refine Walk.idx sl79 .none rfl rfl rfl rfl (at_nth hc) rfl ?_
 refine Walk.loadPA ty90 .none rfl rfl rfl rfl ?_
 refine Walk.alloc (id := 3008) tz90 rfl .none rfl rfl rfl rfl ?_
 refine Walk.store ty90 .none rfl rfl rfl rfl rfl rfl (by simp) rfl ?_
 refine tv ?_
 refine CWp.seq ?_
 refine sr ?_
 refine asg ?_
 refine tv ?_
 refine CWp.block ?_
 refine CWp.loopX (ι := List (Ty) × List (Ty)) hk (fun x => [(9, .d (.i (x.1.length : Int))), (7, .gl 1 ((x.1.map (argTy (resIx (nth (nth w d).ctors c) k))).map Ty.c))]) [10, 21, 22, 23, 24, 25, 26, 27, 28, 29, 30, 31, 32, 33, 34, 35, 36, 37, 38, 39, 40, 41, 42, 43, 44] (fun x => [(1, some (.tok (((x.1.map (argTy (resIx (nth (nth w d).ctors c) k))).map Ty.c)).length 2))]) (fun x => x.1 ++ x.2 = (nth (nth w d).ctors c).args) (fun x => x.2.length) ([], (nth (nth w d).ctors c).args) (by simp) ⟨⟨_, rfl, (LeA.eqi (by first | rfl | (simp; done) | (simp [argTy, Ctor.eta, hk]; done)))⟩, ⟨⟨_, rfl, (LeA.glg (by first | rfl | (simp; done) | (simp [argTy, Ctor.eta, hk]; done)))⟩, trivial⟩⟩ ⟨beq_nat_eq (by first | rfl | (simp; done) | (simp; omega) | (first | rfl | (simp; done) | (simp [argTy, Ctor.eta, hk]; done))), trivial⟩ (fun x => rfl) (fun x hg1 => ?_)
 obtain ⟨pre, rest⟩ := x
 dsimp only at hg1 ⊢
 refine CWp.seq ?_
 refine sr ?_
 refine mv ?_
 refine Walk.fieldB fd90_1 .none rfl rfl ?_
 refine Walk.loadB ty24 .none rfl rfl rfl rfl ?_
 refine Walk.len sl24 .none rfl rfl ?_
 refine Walk.ltI .none rfl rfl rfl ?_
 refine tv ?_
 refine cd ?_ ?_
 ·intro h1; have ⟨h1p, h1s⟩ := dup h1; try simp only [Q5] at h1s
  try simp only [Q] at h1p
  rcases rest with _ | ⟨y, rest⟩
  ·exfalso; simp_all
  refine CWp.skip ?_
  refine CWp.seq ?_
  refine CWp.block ?_
  refine sr ?_
  refine Walk.fieldB fd90_1 .none rfl rfl ?_
  refine Walk.loadB ty24 .none rfl rfl rfl rfl ?_
  refine mv ?_
  refine Walk.idx sl24 .none rfl rfl rfl rfl (zip_at hg1) rfl ?_
  refine Walk.loadPA ty38 .none rfl rfl rfl rfl ?_
  refine Walk.alloc (id := 3010) tz38 rfl .none rfl rfl rfl rfl ?_
  refine Walk.store ty38 .none rfl rfl rfl rfl rfl rfl (by simp) rfl ?_
  refine tv ?_
  refine CWp.seq ?_
  refine sr ?_
  refine Walk.fieldB fd38_1 .none rfl rfl ?_
  refine Walk.loadB ty3 .none rfl rfl rfl rfl ?_
  refine Walk.eqI .none rfl rfl rfl ?_
  refine tv ?_
  refine cd ?_ ?_
  ·intro h2; have ⟨h2p, h2s⟩ := dup h2; try simp only [Q5] at h2s
   try simp only [Q] at h2p
   refine CWp.region rfl ?_
   refine Walk.loadBA ty90 .none rfl rfl rfl rfl ?_
   refine Walk.fieldB fd38_1 .none rfl rfl ?_
   refine Walk.loadB ty3 .none rfl rfl rfl rfl ?_
   refine Walk.call (cr := []) cal145 (spec_l1Result_fn) rfl .none rfl rfl (LeL.refl _) trivial rfl rfl rfl ?_
   refine Walk.fieldB fd38_1 .none rfl rfl ?_
   refine Walk.store ty3 .none rfl rfl rfl rfl rfl rfl (by simp) rfl ?_
   refine tv ?_
   refine CWp.region rfl ?_
   refine mv ?_
   refine Walk.loadBA ty38 .none rfl rfl rfl rfl ?_
   refine Walk.sliceLit sl24 tz38 rfl (by decide) (ks := [0]) (xs := [_]) rfl rfl (by decide) (by decide) .none rfl rfl rfl rfl ?_
   refine Walk.append sl24 zz38 rfl .none rfl rfl rfl rfl (htokL rfl (by first | rfl | (simp; done) | (simp; omega))) (by simp) (by have hl := congrArg List.length hg1; simp at hl; simp; omega) (by have hl := congrArg List.length hg1; simp at hl; simp; omega) ?_
   refine asg ?_
   refine tv ?_
   refine CWp.region rfl ?_
   refine mv ?_
   refine Walk.addI .none rfl rfl rfl (by first | (constructor <;> omega) | (constructor <;> simp <;> omega)) ?_
   refine asg ?_
   refine tv ?_
   refine ⟨(pre ++ [y], rest), (by have hz := hg1; rw [← hz]; simp), (by simp), Sub.x (by kernel_rfl) (by kernel_rfl) ⟨⟨_, rfl, (LeA.eqi (by first | rfl | (simp; done) | (simp [argTy, Ctor.eta, h1s, h1p, h2s, h2p]; done)))⟩, ⟨⟨_, rfl, (LeA.glg (by first | rfl | (simp; done) | (simp [argTy, Ctor.eta, h1s, h1p, h2s, h2p]; done)))⟩, trivial⟩⟩ (by kernel_rfl) (by kernel_rfl) ⟨beq_nat_eq (by first | rfl | (simp; done) | (simp; omega) | (first | rfl | (simp; done) | (simp [argTy, Ctor.eta, h1s, h1p, h2s, h2p]; done))), trivial⟩⟩
  ·intro h2; have ⟨h2p, h2s⟩ := dup h2; try simp only [Q5] at h2s
   try simp only [Q] at h2p
   refine CWp.skip ?_
   refine CWp.region rfl ?_
   refine mv ?_
   refine Walk.loadBA ty38 .none rfl rfl rfl rfl ?_
   refine Walk.sliceLit sl24 tz38 rfl (by decide) (ks := [0]) (xs := [_]) rfl rfl (by decide) (by decide) .none rfl rfl rfl rfl ?_
   refine Walk.append sl24 zz38 rfl .none rfl rfl rfl rfl (htokL rfl (by first | rfl | (simp; done) | (simp; omega))) (by simp) (by have hl := congrArg List.length hg1; simp at hl; simp; omega) (by have hl := congrArg List.length hg1; simp at hl; simp; omega) ?_
   refine asg ?_
   refine tv ?_
   refine CWp.region rfl ?_
   refine mv ?_
   refine Walk.addI .none rfl rfl rfl (by first | (constructor <;> omega) | (constructor <;> simp <;> omega)) ?_
   refine asg ?_
   refine tv ?_
   refine ⟨(pre ++ [y], rest), (by have hz := hg1; rw [← hz]; simp), (by simp), Sub.x (by kernel_rfl) (by kernel_rfl) ⟨⟨_, rfl, (LeA.eqi (by first | rfl | (simp; done) | (simp [argTy, Ctor.eta, h1s, h1p, h2s, h2p]; done)))⟩, ⟨⟨_, rfl, (LeA.glg (by first | rfl | (simp; done) | (simp [argTy, Ctor.eta, h1s, h1p, h2s, h2p]; done)))⟩, trivial⟩⟩ (by kernel_rfl) (by kernel_rfl) ⟨beq_nat_eq (by first | rfl | (simp; done) | (simp; omega) | (first | rfl | (simp; done) | (simp [argTy, Ctor.eta, h1s, h1p, h2s, h2p]; done))), trivial⟩⟩
 ·intro h1; have ⟨h1p, h1s⟩ := dup h1; try simp only [Q5] at h1s
  try simp only [Q] at h1p
  have hrest : rest = [] := by
   rcases rest with _ | ⟨a, b⟩
   ·rfl
   ·exfalso; have hz := congrArg List.length (hg1); simp only [List.length_append, List.length_cons, List.length_map] at hz; omega
  subst hrest
  refine CWp.exit ?_
  refine sr ?_
  refine mv ?_
  refine asg ?_
  refine tv ?_
  refine CWp.ret ?_
  refine ⟨_, _, [], (.cons (.tmp rfl) .nil), (.gld ?_), ⟨rfl, rfl⟩, HSub.nil, noBox⟩
  all_goals (simp [← hg1, resIx, h1s, h1p])
end Go.Proofs.Ytadpcmcifbakoaa
