/-
  WALKS: values.
-/
import Derived.Test.YtadpcmcifbakoaaF4
namespace Go.Proofs.Ytadpcmcifbakoaa
open Go
set_option linter.unusedSimpArgs false
set_option linter.unusedVariables false
set_option maxRecDepth 100000
set_option maxHeartbeats 2000000
mutual
def valEq : Val → Val → Bool
 | .mk a n ks, .mk b m ls => decide (a = b) && (decide (n = m) && valsEq ks ls)
def valsEq : List Val → List Val → Bool
 | [], [] => true
 | x :: r, y :: s => valEq x y && valsEq r s
 | _, _ => false
end
mutual
def Val.ok : Val → Prop
 | .mk _ _ ks => ks.length ≤ 1000000000000 ∧ Vals.ok ks
def Vals.ok : List Val → Prop
 | [] => True
 | v :: r => v.ok ∧ Vals.ok r
end
theorem Vals.ok_mem : ∀ {l : List Val}, Vals.ok l → ∀ v, v ∈ l → v.ok
 | x :: r, h, v, hv => by
  simp only [Vals.ok] at h
  rcases List.mem_cons.1 hv with rfl | hv
  ·exact h.1
  ·exact Vals.ok_mem h.2 v hv
mutual
def Val.size : Val → Nat
 | .mk _ _ ks => 1 + Vals.size ks
def Vals.size : List Val → Nat
 | [] => 0
 | v :: r => v.size + Vals.size r
end
theorem Vals.size_mem : ∀ {l : List Val} {v : Val}, v ∈ l → v.size ≤ Vals.size l
 | x :: r, v, hv => by
  simp only [Vals.size]
  rcases List.mem_cons.1 hv with rfl | hv
  ·omega
  ·have := Vals.size_mem hv; omega
theorem valsEq_len : ∀ {a b : List Val}, a.length ≠ b.length → valsEq a b = false
 | [], [], h => by simp at h
 | [], _ :: _, _ => by simp [valsEq]
 | _ :: _, [], _ => by simp [valsEq]
 | x :: r, y :: s, h => by simp [valsEq, valsEq_len (a := r) (b := s) (by simpa using h)]
theorem valsEq_split : ∀ {p q : List Val} {a b : List Val}, p.length = q.length → valsEq (p ++ a) (q ++ b) = (valsEq p q && valsEq a b)
 | [], [], a, b, _ => by simp [valsEq]
 | x :: r, y :: s, a, b, h => by simp [valsEq, valsEq_split (p := r) (q := s) (by simpa using h), Bool.and_assoc]
 | [], _ :: _, _, _, h => by simp at h
 | _ :: _, [], _, _, h => by simp at h
theorem vals_at {l : List Val} {i : Nat} (h : i < l.length) : (Val.cs l)[i]? = some (nth l i).cc := by
 rw [Val.cs_eq, ← Val.c_eq]; exact at_nth h
theorem Val.ok_iff (v : Val) : v.ok ↔ v.kids.length ≤ 1000000000000 ∧ Vals.ok v.kids := by cases v; rfl
theorem Val.size_eq (v : Val) : v.size = 1 + Vals.size v.kids := by cases v; rfl
theorem valEq_eq (v w : Val) : valEq v w = (decide (v.ctor = w.ctor) && (decide (v.num = w.num) && valsEq v.kids w.kids)) := by cases v; cases w; rfl
theorem valsEq_nth_false {a b : List Val} {i : Nat} (h : i < a.length) (h2 : valEq (nth a i) (nth b i) = false) : valsEq a b = false := by
 induction i generalizing a b with
 | zero =>
  cases a with
  | nil => simp at h
  | cons x r =>
   cases b with
   | nil => simp [valsEq]
   | cons y s => simp [nth] at h2; simp [valsEq, h2]
 | succ i ih =>
  cases a with
  | nil => simp at h
  | cons x r =>
   cases b with
   | nil => simp [valsEq]
   | cons y s => simp only [valsEq]; rw [ih (a := r) (b := s) (by simpa using h) (by simpa [nth] using h2)]; simp
theorem valsEq_nth_true {a b : List Val} (hl : a.length = b.length) (h : ∀ i, i < a.length → valEq (nth a i) (nth b i) = true) : valsEq a b = true := by
 induction a generalizing b with
 | nil => cases b with
  | nil => simp [valsEq]
  | cons y s => simp at hl
 | cons x r ih => cases b with
  | nil => simp at hl
  | cons y s =>
   have h0 := h 0 (by simp)
   simp only [valsEq]
   rw [ih (by simpa using hl) (fun i hi => by simpa [nth] using h (i + 1) (by simpa using hi))]
   simpa [nth] using h0
theorem slices_EqualFunc_Val_fn {xs ys : List Val} {f : Nat} (hs : xs.length ≤ 1000000000000) (hcal : Callee Try.prog f)
  (hf : ∀ x ∈ xs, ∀ y : Val, FnD Try.prog f [.agg [.d (.i x.ctor), .d (.i x.num), .d (encVals x.kids)], .agg [.d (.i y.ctor), .d (.i y.num), .d (encVals y.kids)]] [] (.d (.bool (valEq x y))) []) :
  FnD Try.prog 59 [.d (encVals xs), .d (encVals ys), .fn f []] [] (.d (.bool (valsEq xs ys))) [] := by
 refine Fn.body (fn := Try.f59) (n := 32) rfl rfl rfl rfl rfl (fun w0 F0 own kept hk => ?_)
 refine sr ?_
 refine asg ?_
 refine tv ?_
 refine CWp.seq ?_
 refine sr ?_
 refine mv ?_
 refine Walk.len sl52 .none rfl rfl ?_
 refine mv ?_
 refine Walk.len sl52 .none rfl rfl ?_
 refine Walk.neI .none rfl rfl rfl ?_
 refine tv ?_
 refine cd ?_ ?_
 ·intro h1; have ⟨h1p, h1s⟩ := dup h1; try simp only [Q5] at h1s
  try simp only [Q, Int.natCast_inj, Val.cs_len] at h1p
  refine sr ?_
  refine asg ?_
  refine tv ?_
  refine CWp.ret ?_
  refine ⟨_, _, [], (.cons (.tmp rfl) .nil), (.eqd ?_), ⟨rfl, rfl⟩, HSub.nil, noBox⟩
  all_goals (refine congrArg D.bool ?_; first | (refine (valsEq_len ?_).symm; omega) | (refine (valsEq_nth_true (by omega) (fun x hx => hg1.2 x (by omega))).symm) | (refine (valsEq_nth_false (i := i) (by omega) ?_).symm; assumption))
 ·intro h1; have ⟨h1p, h1s⟩ := dup h1; try simp only [Q5] at h1s
  try simp only [Q, Int.natCast_inj, Val.cs_len] at h1p
  refine CWp.skip ?_
  refine CWp.seq ?_
  refine sr ?_
  refine mv ?_
  refine Walk.len sl52 .none rfl rfl ?_
  refine mv ?_
  refine tv ?_
  refine CWp.block ?_
  refine CWp.loopX (ι := Nat) hk (fun i => [(17, .d (.i (i : Int)))]) [6, 7, 8, 9, 18, 19, 20, 21, 22, 23, 24, 25, 26, 27, 28, 29, 30, 31] (fun i => []) (fun i => i ≤ xs.length ∧ ∀ i', i' < i → valEq (nth xs i') (nth ys i') = true) (fun i => xs.length - i) 0 ⟨by omega, fun _ h => absurd h (by omega)⟩ ⟨⟨_, rfl, (LeA.eqi (by first | rfl | (simp; done) | (simp_all; done) | omega))⟩, trivial⟩ trivial (fun x => rfl) (fun i hg1 => ?_)
  refine sr ?_
  refine Walk.ltI .none rfl rfl rfl ?_
  refine tv ?_
  refine CWp.seq ?_
  refine cd ?_ ?_
  ·intro h2; have ⟨h2p, h2s⟩ := dup h2; try simp only [Q5] at h2s
   try simp only [Q, Int.natCast_inj, Val.cs_len] at h2p
   refine CWp.skip ?_
   refine CWp.seq ?_
   refine CWp.block ?_
   refine sr ?_
   refine mv ?_
   refine Walk.idx sl52 .none rfl rfl rfl rfl (vals_at (by omega)) rfl ?_
   refine Walk.loadPA ty54 .none rfl rfl rfl rfl ?_
   refine Walk.alloc (id := 3008) tz54 rfl .none rfl rfl rfl rfl ?_
   refine asg ?_
   refine Walk.store ty54 .none rfl rfl rfl rfl rfl rfl (by simp) rfl ?_
   refine tv ?_
   refine sr ?_
   refine mv ?_
   refine mv ?_
   refine Walk.idx sl52 .none rfl rfl rfl rfl (vals_at (by omega)) rfl ?_
   refine Walk.loadPA ty54 .none rfl rfl rfl rfl ?_
   refine Walk.alloc (id := 3009) tz54 rfl .none rfl rfl rfl rfl ?_
   refine Walk.store ty54 .none rfl rfl rfl rfl rfl rfl (by simp) rfl ?_
   refine tv ?_
   refine sr ?_
   refine mv ?_
   refine Walk.loadBA ty54 .none rfl rfl rfl rfl ?_
   refine Walk.loadBA ty54 .none rfl rfl rfl rfl ?_
   refine Walk.callV (cr := []) hcal (hf _ (nth_mem (by omega)) _) rfl .none rfl rfl rfl (LeL.refl _) trivial rfl rfl rfl ?_
   refine Walk.not .none rfl rfl ?_
   refine tv ?_
   refine cd ?_ ?_
   ·intro h3; have ⟨h3p, h3s⟩ := dup h3; try simp only [Q5] at h3s
    try simp only [Q, Int.natCast_inj, Val.cs_len] at h3p
    refine sr ?_
    refine asg ?_
    refine tv ?_
    refine CWp.ret ?_
    refine ⟨_, _, [], (.cons (.tmp rfl) .nil), (.eqd ?_), ⟨rfl, rfl⟩, HSub.nil, noBox⟩
    all_goals (refine congrArg D.bool ?_; first | (refine (valsEq_len ?_).symm; omega) | (refine (valsEq_nth_true (by omega) (fun x hx => hg1.2 x (by omega))).symm) | (refine (valsEq_nth_false (i := i) (by omega) ?_).symm; assumption))
   ·intro h3; have ⟨h3p, h3s⟩ := dup h3; try simp only [Q5] at h3s
    try simp only [Q, Int.natCast_inj, Val.cs_len] at h3p
    refine CWp.skip ?_
    refine CWp.region rfl ?_
    refine Walk.addI .none rfl rfl rfl (by first | (constructor <;> omega) | (constructor <;> simp <;> omega)) ?_
    refine mv ?_
    refine tv ?_
    refine ⟨i + 1, ⟨by omega, upto_succ hg1.2 (by assumption)⟩, (by omega), Sub.x (by kernel_rfl) (by kernel_rfl) ⟨⟨_, rfl, (LeA.eqi (by first | rfl | (simp; done) | (simp_all; done) | omega))⟩, trivial⟩ (by kernel_rfl) (by kernel_rfl) trivial⟩
  ·intro h2; have ⟨h2p, h2s⟩ := dup h2; try simp only [Q5] at h2s
   try simp only [Q, Int.natCast_inj, Val.cs_len] at h2p
   refine CWp.exit ?_
   refine sr ?_
   refine asg ?_
   refine tv ?_
   refine CWp.ret ?_
   refine ⟨_, _, [], (.cons (.tmp rfl) .nil), (.eqd ?_), ⟨rfl, rfl⟩, HSub.nil, noBox⟩
   all_goals (refine congrArg D.bool ?_; first | (refine (valsEq_len ?_).symm; omega) | (refine (valsEq_nth_true (by omega) (fun x hx => hg1.2 x (by omega))).symm) | (refine (valsEq_nth_false (i := i) (by omega) ?_).symm; assumption))
theorem spec_l1Is_fn {w : List Data} {a b : Int} : FnD Try.prog 91 [.d (encDatas w), .agg [.d (.i a), .d (.i b)]] [] (.d (.bool (argOk w.length ⟨a, b⟩ && decide (0 ≤ b)))) [] := by
 refine Fn.body (fn := Try.f91) (n := 14) rfl rfl rfl rfl rfl (fun w0 F0 own kept hk => ?_)
 refine sr ?_
 refine Walk.box (id := 3003) .none rfl rfl rfl rfl rfl rfl rfl ?_
 refine asg ?_
 refine tv ?_
 refine sr ?_
 refine mv ?_
 refine Walk.len sl26 .none rfl rfl ?_
 refine Walk.loadBA ty38 .none rfl rfl rfl rfl ?_
 refine Walk.call (cr := []) cal113 (spec_l1Arg_fn) rfl .none rfl rfl (LeL.refl _) trivial rfl rfl rfl ?_
 refine mv ?_
 refine sp 9 ?_ ?_
 ·intro h1; have ⟨h1p, h1s⟩ := dup h1; try simp only [Q5] at h1s
  try simp only [Q] at h1p
  refine Walk.fieldB fd38_1 (.some rfl rfl h1) rfl rfl ?_
  refine Walk.loadB ty3 (.some rfl rfl h1) rfl rfl rfl rfl ?_
  refine Walk.geI (.some rfl rfl h1) rfl rfl rfl ?_
  refine Walk.pickT .none rfl rfl h1 rfl ?_
  refine asg ?_
  refine tv ?_
  refine CWp.ret ?_
  refine ⟨_, _, [], (.cons (.tmp rfl) .nil), (.eqd ?_), ⟨rfl, rfl⟩, HSub.nil, noBox⟩
  all_goals (first | rfl | (simp [h1s, h1p]; done) | (simp_all; done) | (simp_all; omega) | omega)
 ·intro h1; have ⟨h1p, h1s⟩ := dup h1; try simp only [Q5] at h1s
  try simp only [Q] at h1p
  refine ps h1 ?_
  refine ps h1 ?_
  refine ps h1 ?_
  refine Walk.pickF .none rfl rfl h1 rfl ?_
  refine asg ?_
  refine tv ?_
  refine CWp.ret ?_
  refine ⟨_, _, [], (.cons (.tmp rfl) .nil), (.eqd ?_), ⟨rfl, rfl⟩, HSub.nil, noBox⟩
  all_goals (first | rfl | (simp [h1s, h1p]; done) | (simp_all; done) | (simp_all; omega) | omega)
theorem spec_TypeValid_fn {w : List Data} {a b : Int} (hs : WSmall w) : FnD Try.prog 55 [.d (encDatas w), .agg [.d (.i a), .d (.i b)]] [] (.d (.bool (specWorldValid w && (argOk w.length ⟨a, b⟩ && decide (0 ≤ b))))) [] := by
 refine Fn.body (fn := Try.f55) (n := 12) rfl rfl rfl rfl rfl (fun w0 F0 own kept hk => ?_)
 refine sr ?_
 refine Walk.box (id := 3003) .none rfl rfl rfl rfl rfl rfl rfl ?_
 refine asg ?_
 refine tv ?_
 refine sr ?_
 refine mv ?_
 refine Walk.call (cr := []) cal43 (spec_WorldValid_fn hs) rfl .none rfl rfl (LeL.refl _) trivial rfl rfl rfl ?_
 refine mv ?_
 refine sp 7 ?_ ?_
 ·intro h1; have ⟨h1p, h1s⟩ := dup h1; try simp only [Q5] at h1s
  try simp only [Q] at h1p
  refine Walk.move (.some rfl rfl h1) rfl rfl ?_
  refine Walk.loadBA ty38 (.some rfl rfl h1) rfl rfl rfl rfl ?_
  refine Walk.call (cr := []) cal91 (spec_l1Is_fn) rfl (.some rfl rfl h1) rfl rfl (LeL.refl _) trivial rfl rfl rfl ?_
  refine Walk.pickT .none rfl rfl h1 rfl ?_
  refine asg ?_
  refine tv ?_
  refine CWp.ret ?_
  refine ⟨_, _, [], (.cons (.tmp rfl) .nil), (.eqd ?_), ⟨rfl, rfl⟩, HSub.nil, noBox⟩
  all_goals (first | rfl | (simp [h1s, h1p]; done) | (simp_all; done) | (simp_all; omega) | omega)
 ·intro h1; have ⟨h1p, h1s⟩ := dup h1; try simp only [Q5] at h1s
  try simp only [Q] at h1p
  refine ps h1 ?_
  refine ps h1 ?_
  refine ps h1 ?_
  refine Walk.pickF .none rfl rfl h1 rfl ?_
  refine asg ?_
  refine tv ?_
  refine CWp.ret ?_
  refine ⟨_, _, [], (.cons (.tmp rfl) .nil), (.eqd ?_), ⟨rfl, rfl⟩, HSub.nil, noBox⟩
  all_goals (first | rfl | (simp [h1s, h1p]; done) | (simp_all; done) | (simp_all; omega) | omega)
theorem impl_ValueSame_fn : ∀ (n : Nat) {a b : Val}, a.size ≤ n → a.ok → FnD Try.prog 60 [.agg [.d (.i a.ctor), .d (.i a.num), .d (encVals a.kids)], .agg [.d (.i b.ctor), .d (.i b.num), .d (encVals b.kids)]] [] (.d (.bool (valEq a b))) []
 | 0, a, b, h, _ => by rw [Val.size_eq] at h; omega
 | n + 1, a, b, h, hok => by
  rw [Val.size_eq] at h
  rw [Val.ok_iff] at hok
  rw [valEq_eq]
  refine Fn.body (fn := Try.f60) (n := 24) rfl rfl rfl rfl rfl (fun w0 F0 own kept hk => ?_)
  refine sr ?_
  refine Walk.box (id := 3002) .none rfl rfl rfl rfl rfl rfl rfl ?_
  refine Walk.box (id := 3003) .none rfl rfl rfl rfl rfl rfl rfl ?_
  refine asg ?_
  refine tv ?_
  refine sr ?_
  refine Walk.fieldB fd54_0 .none rfl rfl ?_
  refine Walk.loadB ty3 .none rfl rfl rfl rfl ?_
  refine Walk.fieldB fd54_0 .none rfl rfl ?_
  refine Walk.loadB ty3 .none rfl rfl rfl rfl ?_
  refine Walk.eqI .none rfl rfl rfl ?_
  refine mv ?_
  refine sp 10 ?_ ?_
  ·intro h1; have ⟨h1p, h1s⟩ := dup h1; try simp only [Q5] at h1s
   try simp only [Q] at h1p
   refine Walk.fieldB fd54_1 (.some rfl rfl h1) rfl rfl ?_
   refine Walk.loadB ty3 (.some rfl rfl h1) rfl rfl rfl rfl ?_
   refine Walk.fieldB fd54_1 (.some rfl rfl h1) rfl rfl ?_
   refine Walk.loadB ty3 (.some rfl rfl h1) rfl rfl rfl rfl ?_
   refine Walk.eqI (.some rfl rfl h1) rfl rfl rfl ?_
   refine Walk.pickT .none rfl rfl h1 rfl ?_
   refine mv ?_
   refine sp 17 ?_ ?_
   ·intro h2; have ⟨h2p, h2s⟩ := dup h2; try simp only [Q5] at h2s
    try simp only [Q] at h2p
    refine Walk.fieldB fd54_2 (.some rfl rfl h2) rfl rfl ?_
    refine Walk.loadB ty52 (.some rfl rfl h2) rfl rfl rfl rfl ?_
    refine Walk.fieldB fd54_2 (.some rfl rfl h2) rfl rfl ?_
    refine Walk.loadB ty52 (.some rfl rfl h2) rfl rfl rfl rfl ?_
    refine Walk.call (cr := []) cal59 (slices_EqualFunc_Val_fn hok.1 cal60 (fun x hx y => impl_ValueSame_fn n (by have := Vals.size_mem hx; omega) (Vals.ok_mem hok.2 x hx))) rfl (.some rfl rfl h2) rfl rfl (LeL.refl _) trivial rfl rfl rfl ?_
    refine Walk.pickT .none rfl rfl h2 rfl ?_
    refine asg ?_
    refine tv ?_
    refine CWp.ret ?_
    refine ⟨_, _, [], (.cons (.tmp rfl) .nil), (.eqd ?_), ⟨rfl, rfl⟩, HSub.nil, noBox⟩
    all_goals (first | rfl | (simp [h1s, h1p, h2s, h2p]; done) | (simp_all; done) | (simp_all; omega) | omega)
   ·intro h2; have ⟨h2p, h2s⟩ := dup h2; try simp only [Q5] at h2s
    try simp only [Q] at h2p
    refine ps h2 ?_
    refine ps h2 ?_
    refine ps h2 ?_
    refine ps h2 ?_
    refine ps h2 ?_
    refine Walk.pickF .none rfl rfl h2 rfl ?_
    refine asg ?_
    refine tv ?_
    refine CWp.ret ?_
    refine ⟨_, _, [], (.cons (.tmp rfl) .nil), (.eqd ?_), ⟨rfl, rfl⟩, HSub.nil, noBox⟩
    all_goals (first | rfl | (simp [h1s, h1p, h2s, h2p]; done) | (simp_all; done) | (simp_all; omega) | omega)
  ·intro h1; have ⟨h1p, h1s⟩ := dup h1; try simp only [Q5] at h1s
   try simp only [Q] at h1p
   refine ps h1 ?_
   refine ps h1 ?_
   refine ps h1 ?_
   refine ps h1 ?_
   refine ps h1 ?_
   refine Walk.pickF .none rfl rfl h1 rfl ?_
   refine mv ?_
   refine ps rfl ?_
   refine ps rfl ?_
   refine ps rfl ?_
   refine ps rfl ?_
   refine ps rfl ?_
   refine Walk.pickF .none rfl rfl rfl rfl ?_
   refine asg ?_
   refine tv ?_
   refine CWp.ret ?_
   refine ⟨_, _, [], (.cons (.tmp rfl) .nil), (.eqd ?_), ⟨rfl, rfl⟩, HSub.nil, noBox⟩
   all_goals (first | rfl | (simp [h1s, h1p]; done) | (simp_all; done) | (simp_all; omega) | omega)
theorem spec_ValueSame_fn : ∀ (n : Nat) {a b : Val}, a.size ≤ n → a.ok → FnD Try.prog 57 [.agg [.d (.i a.ctor), .d (.i a.num), .d (encVals a.kids)], .agg [.d (.i b.ctor), .d (.i b.num), .d (encVals b.kids)]] [] (.d (.bool (valEq a b))) []
 | 0, a, b, h, _ => by rw [Val.size_eq] at h; omega
 | n + 1, a, b, h, hok => by
  rw [Val.size_eq] at h
  rw [Val.ok_iff] at hok
  rw [valEq_eq]
  have hok1 := hok.1
  refine Fn.body (fn := Try.f57) (n := 46) rfl rfl rfl rfl rfl (fun w0 F0 own kept hk => ?_)
  refine sr ?_
  refine Walk.box (id := 3002) .none rfl rfl rfl rfl rfl rfl rfl ?_
  refine Walk.box (id := 3003) .none rfl rfl rfl rfl rfl rfl rfl ?_
  refine asg ?_
  refine tv ?_
  refine CWp.seq ?_
  refine sr ?_
  refine Walk.fieldB fd54_0 .none rfl rfl ?_
  refine Walk.loadB ty3 .none rfl rfl rfl rfl ?_
  refine Walk.fieldB fd54_0 .none rfl rfl ?_
  refine Walk.loadB ty3 .none rfl rfl rfl rfl ?_
  refine Walk.neI .none rfl rfl rfl ?_
  refine mv ?_
  refine sp 11 ?_ ?_
  ·intro h1; have ⟨h1p, h1s⟩ := dup h1; try simp only [Q5] at h1s
   try simp only [Q, Int.natCast_inj, Val.cs_len] at h1p
   refine ps h1 ?_
   refine ps h1 ?_
   refine ps h1 ?_
   refine ps h1 ?_
   refine ps h1 ?_
   refine Walk.pickT .none rfl rfl h1 rfl ?_
   refine mv ?_
   refine ps rfl ?_
   refine ps rfl ?_
   refine ps rfl ?_
   refine ps rfl ?_
   refine ps rfl ?_
   refine ps rfl ?_
   refine ps rfl ?_
   refine Walk.pickT .none rfl rfl rfl rfl ?_
   refine tv ?_
   refine cd ?_ ?_
   ·intro h2; have ⟨h2p, h2s⟩ := dup h2; try simp only [Q5] at h2s
    try simp only [Q, Int.natCast_inj, Val.cs_len] at h2p
    refine sr ?_
    refine asg ?_
    refine tv ?_
    refine CWp.ret ?_
    refine ⟨_, _, [], (.cons (.tmp rfl) .nil), (.eqd ?_), ⟨rfl, rfl⟩, HSub.nil, noBox⟩
    all_goals (refine congrArg D.bool ?_; first | (simp [h1s, h1p, h2s, h2p]; done) | (rw [valsEq_len (by omega)]; simp; done) | (rw [valsEq_nth_true (a := a.kids) (b := b.kids) (by omega) (fun x hx => hg1.2 x (by omega))]; simp [h1s, h1p, h2s, h2p]; done) | (rw [valsEq_nth_false (i := i) (by omega) (by assumption)]; simp; done))
   ·exact fun h => absurd h (by simp)
  ·intro h1; have ⟨h1p, h1s⟩ := dup h1; try simp only [Q5] at h1s
   try simp only [Q, Int.natCast_inj, Val.cs_len] at h1p
   refine Walk.fieldB fd54_1 (.some rfl rfl h1) rfl rfl ?_
   refine Walk.loadB ty3 (.some rfl rfl h1) rfl rfl rfl rfl ?_
   refine Walk.fieldB fd54_1 (.some rfl rfl h1) rfl rfl ?_
   refine Walk.loadB ty3 (.some rfl rfl h1) rfl rfl rfl rfl ?_
   refine Walk.neI (.some rfl rfl h1) rfl rfl rfl ?_
   refine Walk.pickF .none rfl rfl h1 rfl ?_
   refine mv ?_
   refine sp 18 ?_ ?_
   ·intro h3; have ⟨h3p, h3s⟩ := dup h3; try simp only [Q5] at h3s
    try simp only [Q, Int.natCast_inj, Val.cs_len] at h3p
    refine ps h3 ?_
    refine ps h3 ?_
    refine ps h3 ?_
    refine ps h3 ?_
    refine ps h3 ?_
    refine ps h3 ?_
    refine ps h3 ?_
    refine Walk.pickT .none rfl rfl h3 rfl ?_
    refine tv ?_
    refine cd ?_ ?_
    ·intro h4; have ⟨h4p, h4s⟩ := dup h4; try simp only [Q5] at h4s
     try simp only [Q, Int.natCast_inj, Val.cs_len] at h4p
     refine sr ?_
     refine asg ?_
     refine tv ?_
     refine CWp.ret ?_
     refine ⟨_, _, [], (.cons (.tmp rfl) .nil), (.eqd ?_), ⟨rfl, rfl⟩, HSub.nil, noBox⟩
     all_goals (refine congrArg D.bool ?_; first | (simp [h1s, h1p, h3s, h3p, h4s, h4p]; done) | (rw [valsEq_len (by omega)]; simp; done) | (rw [valsEq_nth_true (a := a.kids) (b := b.kids) (by omega) (fun x hx => hg1.2 x (by omega))]; simp [h1s, h1p, h3s, h3p, h4s, h4p]; done) | (rw [valsEq_nth_false (i := i) (by omega) (by assumption)]; simp; done))
    ·exact fun h => absurd h (by simp)
   ·intro h3; have ⟨h3p, h3s⟩ := dup h3; try simp only [Q5] at h3s
    try simp only [Q, Int.natCast_inj, Val.cs_len] at h3p
    refine Walk.fieldB fd54_2 (.some rfl rfl h3) rfl rfl ?_
    refine Walk.loadB ty52 (.some rfl rfl h3) rfl rfl rfl rfl ?_
    refine Walk.len sl52 (.some rfl rfl h3) rfl rfl ?_
    refine Walk.fieldB fd54_2 (.some rfl rfl h3) rfl rfl ?_
    refine Walk.loadB ty52 (.some rfl rfl h3) rfl rfl rfl rfl ?_
    refine Walk.len sl52 (.some rfl rfl h3) rfl rfl ?_
    refine Walk.neI (.some rfl rfl h3) rfl rfl rfl ?_
    refine Walk.pickF .none rfl rfl h3 rfl ?_
    refine tv ?_
    refine cd ?_ ?_
    ·intro h5; have ⟨h5p, h5s⟩ := dup h5; try simp only [Q5] at h5s
     try simp only [Q, Int.natCast_inj, Val.cs_len] at h5p
     refine sr ?_
     refine asg ?_
     refine tv ?_
     refine CWp.ret ?_
     refine ⟨_, _, [], (.cons (.tmp rfl) .nil), (.eqd ?_), ⟨rfl, rfl⟩, HSub.nil, noBox⟩
     all_goals (refine congrArg D.bool ?_; first | (simp [h1s, h1p, h3s, h3p, h5s, h5p]; done) | (rw [valsEq_len (by omega)]; simp; done) | (rw [valsEq_nth_true (a := a.kids) (b := b.kids) (by omega) (fun x hx => hg1.2 x (by omega))]; simp [h1s, h1p, h3s, h3p, h5s, h5p]; done) | (rw [valsEq_nth_false (i := i) (by omega) (by assumption)]; simp; done))
    ·intro h5; have ⟨h5p, h5s⟩ := dup h5; try simp only [Q5] at h5s
     try simp only [Q, Int.natCast_inj, Val.cs_len] at h5p
     refine CWp.skip ?_
     refine CWp.seq ?_
     refine sr ?_
     refine asg ?_
     refine tv ?_
     refine CWp.block ?_
     refine CWp.loopX (ι := Nat) hk (fun i => [(5, .d (.i (i : Int)))]) [4, 27, 28, 29, 30, 31, 32, 33, 34, 35, 36, 37, 38, 39, 40, 41, 42, 43, 44, 45] (fun i => []) (fun i => i ≤ a.kids.length ∧ ∀ i', i' < i → valEq (nth a.kids i') (nth b.kids i') = true) (fun i => a.kids.length - i) 0 ⟨by omega, fun _ h => absurd h (by omega)⟩ ⟨⟨_, rfl, (LeA.eqi (by first | rfl | (simp; done) | (simp_all; done) | omega))⟩, trivial⟩ trivial (fun x => rfl) (fun i hg1 => ?_)
     refine CWp.seq ?_
     refine sr ?_
     refine mv ?_
     refine Walk.fieldB fd54_2 .none rfl rfl ?_
     refine Walk.loadB ty52 .none rfl rfl rfl rfl ?_
     refine Walk.len sl52 .none rfl rfl ?_
     refine Walk.ltI .none rfl rfl rfl ?_
     refine tv ?_
     refine cd ?_ ?_
     ·intro h6; have ⟨h6p, h6s⟩ := dup h6; try simp only [Q5] at h6s
      try simp only [Q, Int.natCast_inj, Val.cs_len] at h6p
      refine CWp.skip ?_
      refine CWp.seq ?_
      refine CWp.block ?_
      refine CWp.seq ?_
      refine CWp.drawn mixed rfl ?_
      refine Walk.fieldB fd54_2 .none rfl rfl ?_
      refine Walk.loadB ty52 .none rfl rfl rfl rfl ?_
      refine mv ?_
      refine Walk.idx sl52 .none rfl rfl rfl rfl (vals_at (by omega)) rfl ?_
      refine Walk.loadPA ty54 .none rfl rfl rfl rfl ?_
      refine Walk.fieldB fd54_2 .none rfl rfl ?_
      refine Walk.loadB ty52 .none rfl rfl rfl rfl ?_
      refine mv ?_
      refine Walk.idx sl52 .none rfl rfl rfl rfl (vals_at (by omega)) rfl ?_
      refine Walk.loadPA ty54 .none rfl rfl rfl rfl ?_
      refine Walk.call (cr := []) cal57 (spec_ValueSame_fn n (by have := Vals.size_mem (nth_mem (l := a.kids) (i := i) (by omega)); omega) (Vals.ok_mem hok.2 _ (nth_mem (by omega)))) rfl .none rfl rfl (LeL.refl _) trivial rfl rfl rfl ?_
      refine Walk.not .none rfl rfl ?_
      refine ⟨by show _ = _; kernel_rfl, ?_⟩
      refine cd ?_ ?_
      ·intro h7; have ⟨h7p, h7s⟩ := dup h7; try simp only [Q5] at h7s
       try simp only [Q, Int.natCast_inj, Val.cs_len] at h7p
       refine sr ?_
       refine asg ?_
       refine tv ?_
       refine CWp.ret ?_
       refine ⟨_, _, [], (.cons (.tmp rfl) .nil), (.eqd ?_), ⟨rfl, rfl⟩, HSub.nil, noBox⟩
       all_goals (refine congrArg D.bool ?_; first | (simp [h1s, h1p, h3s, h3p, h5s, h5p, h6s, h6p, h7s, h7p]; done) | (rw [valsEq_len (by omega)]; simp; done) | (rw [valsEq_nth_true (a := a.kids) (b := b.kids) (by omega) (fun x hx => hg1.2 x (by omega))]; simp [h1s, h1p, h3s, h3p, h5s, h5p, h6s, h6p, h7s, h7p]; done) | (rw [valsEq_nth_false (i := i) (by omega) (by assumption)]; simp; done))
      ·intro h7; have ⟨h7p, h7s⟩ := dup h7; try simp only [Q5] at h7s
       try simp only [Q, Int.natCast_inj, Val.cs_len] at h7p
       refine CWp.skip ?_
       refine CWp.region rfl ?_
       refine mv ?_
       refine Walk.addI .none rfl rfl rfl (by first | (constructor <;> omega) | (constructor <;> simp <;> omega)) ?_
       refine asg ?_
       refine tv ?_
       refine ⟨i + 1, ⟨by omega, upto_succ hg1.2 (by assumption)⟩, (by omega), Sub.x (by kernel_rfl) (by kernel_rfl) ⟨⟨_, rfl, (LeA.eqi (by first | rfl | (simp; done) | (simp_all; done) | omega))⟩, trivial⟩ (by kernel_rfl) (by kernel_rfl) trivial⟩
     ·intro h6; have ⟨h6p, h6s⟩ := dup h6; try simp only [Q5] at h6s
      try simp only [Q, Int.natCast_inj, Val.cs_len] at h6p
      refine CWp.exit ?_
      refine sr ?_
      refine asg ?_
      refine tv ?_
      refine CWp.ret ?_
      refine ⟨_, _, [], (.cons (.tmp rfl) .nil), (.eqd ?_), ⟨rfl, rfl⟩, HSub.nil, noBox⟩
      all_goals (refine congrArg D.bool ?_; first | (simp [h1s, h1p, h3s, h3p, h5s, h5p, h6s, h6p]; done) | (rw [valsEq_len (by omega)]; simp; done) | (rw [valsEq_nth_true (a := a.kids) (b := b.kids) (by omega) (fun x hx => hg1.2 x (by omega))]; simp [h1s, h1p, h3s, h3p, h5s, h5p, h6s, h6p]; done) | (rw [valsEq_nth_false (i := i) (by omega) (by assumption)]; simp; done))
theorem impl_number_fn {n : Int} : FnD Try.prog 125 [.d (.i n)] [] (.agg [.d (.i (-1)), .d (.i n), .d (encVals [])]) [] := by
 refine Fn.body (fn := Try.f125) (n := 5) rfl rfl rfl rfl rfl (fun w0 F0 own kept hk => ?_)
 refine sr ?_
 refine Walk.alloc (id := 3002) tz54 rfl .none rfl rfl rfl rfl ?_
 refine tv ?_
 refine sr ?_
 refine mv ?_
 refine Walk.build st54 (ks := [0, 1]) (xs := [_, _]) rfl rfl .none rfl rfl rfl ?_
 refine Walk.store ty54 .none rfl rfl rfl rfl rfl rfl (by simp) rfl ?_
 refine tv ?_
 refine CWp.ret ?_
 refine ⟨_, _, [], (.cons (.cellA ty54 rfl rfl rfl) .nil), (.agg (.cons (.eqd ?_) (.cons (.eqd ?_) (.cons (.nild ?_) .nil)))), ⟨rfl, rfl⟩, HSub.nil, noBox⟩
 all_goals (first | rfl | (simp []; done) | (simp_all; done) | (simp_all; omega) | omega)
end Go.Proofs.Ytadpcmcifbakoaa
