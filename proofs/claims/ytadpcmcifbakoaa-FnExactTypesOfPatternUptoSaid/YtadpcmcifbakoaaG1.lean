/-
  WALKS: what a row of numbers holds; rows side by side.
-/
import Derived.Test.YtadpcmcifbakoaaF6
import Derived.Test.YtadpcmcifbakoaaWv
namespace Go.Proofs.Ytadpcmcifbakoaa
open Go
set_option linter.unusedSimpArgs false
set_option linter.unusedVariables false
set_option maxRecDepth 100000
set_option maxHeartbeats 2000000
theorem drop_nth {α : Type} [Inhabited α] {l : List α} {i : Nat} (h : i < l.length) : l.drop i = nth l i :: l.drop (i + 1) := by
 rw [nth_eq h]; exact List.drop_eq_getElem_cons h
def all2 {α β : Type} (f : α → β → Bool) : List α → List β → Bool
 | [], [] => true
 | a :: r, b :: s => f a b && all2 f r s
 | _, _ => false
theorem all2_len {α β : Type} {f : α → β → Bool} : ∀ {a : List α} {b : List β}, a.length ≠ b.length → all2 f a b = false
 | [], [], h => by simp at h
 | [], _ :: _, _ => rfl
 | _ :: _, [], _ => rfl
 | x :: r, y :: s, h => by simp [all2, all2_len (a := r) (b := s) (by simpa using h)]
theorem all2_nth_false {α β : Type} [Inhabited α] [Inhabited β] {f : α → β → Bool} {a : List α} {b : List β} {i : Nat} (h : i < a.length) (hl : a.length = b.length) (h2 : f (nth a i) (nth b i) = false) : all2 f a b = false := by
 induction i generalizing a b with
 | zero =>
  cases a with
  | nil => simp at h
  | cons x r =>
   cases b with
   | nil => simp [all2]
   | cons y s => simp [nth] at h2; simp [all2, h2]
 | succ i ih =>
  cases a with
  | nil => simp at h
  | cons x r =>
   cases b with
   | nil => simp [all2]
   | cons y s => simp only [all2]; rw [ih (a := r) (b := s) (by simpa using h) (by simpa using hl) (by simpa [nth] using h2)]; simp
theorem all2_nth_true {α β : Type} [Inhabited α] [Inhabited β] {f : α → β → Bool} {a : List α} {b : List β} (hl : a.length = b.length) (h : ∀ i, i < a.length → f (nth a i) (nth b i) = true) : all2 f a b = true := by
 induction a generalizing b with
 | nil => cases b with
  | nil => simp [all2]
  | cons y s => simp at hl
 | cons x r ih => cases b with
  | nil => simp at hl
  | cons y s =>
   have h0 := h 0 (by simp)
   simp only [all2]
   rw [ih (by simpa using hl) (fun i hi => by simpa [nth] using h (i + 1) (by simpa using hi))]
   simpa [nth] using h0
def idxI (l : List Int) (v : Int) : Int := idxF (fun x => decide (v = x)) l 0
theorem slices_Index_int_fn {l : List Int} {v : Int} (h : l.length ≤ 1000000000000) : FnD Try.prog 146 [.d (encInts l), .d (.i v)] [] (.d (.i (idxI l v))) [] := by
 refine Fn.body (fn := Try.f146) (n := 19) rfl rfl rfl rfl rfl (fun w0 F0 own kept hk => ?_)
 refine sr ?_
 refine asg ?_
 refine tv ?_
 refine CWp.seq ?_
 refine sr ?_
 refine mv ?_
 refine Walk.len sl126 .none rfl rfl ?_
 refine mv ?_
 refine tv ?_
 refine CWp.block ?_
 refine CWp.loopX (ι := List (Int) × List (Int)) hk (fun x => [(8, .d (.i (x.1.length : Int)))]) [4, 5, 9, 10, 11, 12, 13, 14, 15, 16, 17, 18] (fun x => []) (fun x => x.1 ++ x.2 = l ∧ idxF (fun x => decide (v = x)) x.2 x.1.length = idxF (fun x => decide (v = x)) l 0) (fun x => x.2.length) ([], l) ⟨by simp, rfl⟩ ⟨⟨_, rfl, (LeA.eqi (by first | rfl | (simp; done) | (simp_all; done) | omega))⟩, trivial⟩ trivial (fun x => rfl) (fun x hg1 => ?_)
 obtain ⟨pre, rest⟩ := x
 dsimp only at hg1 ⊢
 refine sr ?_
 refine Walk.ltI .none rfl rfl rfl ?_
 refine tv ?_
 refine CWp.seq ?_
 refine cd ?_ ?_
 ·intro h1; have ⟨h1p, h1s⟩ := dup h1; try simp only [Q5] at h1s
  try simp only [Q] at h1p
  rcases rest with _ | ⟨y, rest⟩
  ·exfalso; simp_all
  refine CWp.skip ?_
  refine CWp.seq ?_
  refine CWp.block ?_
  refine sr ?_
  refine mv ?_
  refine asg ?_
  refine tv ?_
  refine sr ?_
  refine mv ?_
  refine mv ?_
  refine mv ?_
  refine Walk.idx sl126 .none rfl rfl rfl rfl (zip_at hg1.1) rfl ?_
  refine Walk.loadP ty3 .none rfl rfl rfl ?_
  refine Walk.eqI .none rfl rfl rfl ?_
  refine tv ?_
  refine cd ?_ ?_
  ·intro h2; have ⟨h2p, h2s⟩ := dup h2; try simp only [Q5] at h2s
   try simp only [Q] at h2p
   refine sr ?_
   refine mv ?_
   refine asg ?_
   refine tv ?_
   refine CWp.ret ?_
   refine ⟨_, _, [], (.cons (.tmp rfl) .nil), (.eqd ?_), ⟨rfl, rfl⟩, HSub.nil, noBox⟩
   all_goals (unfold idxI; rw [← hg1.2]; simp [idxF, h1s, h1p, h2s, h2p])
  ·intro h2; have ⟨h2p, h2s⟩ := dup h2; try simp only [Q5] at h2s
   try simp only [Q] at h2p
   refine CWp.skip ?_
   refine CWp.region rfl ?_
   refine Walk.addI .none rfl rfl rfl (by first | (constructor <;> omega) | (constructor <;> simp <;> omega)) ?_
   refine mv ?_
   refine tv ?_
   refine ⟨(pre ++ [y], rest), ⟨(by have hz := hg1.1; rw [← hz]; simp), (by rw [← hg1.2]; simp [idxF, h2p])⟩, (by simp), Sub.x (by kernel_rfl) (by kernel_rfl) ⟨⟨_, rfl, (LeA.eqi (by first | rfl | (simp; done) | (simp_all; done) | omega))⟩, trivial⟩ (by kernel_rfl) (by kernel_rfl) trivial⟩
 ·intro h1; have ⟨h1p, h1s⟩ := dup h1; try simp only [Q5] at h1s
  try simp only [Q] at h1p
  have hrest : rest = [] := by
   rcases rest with _ | ⟨a, b⟩
   ·rfl
   ·exfalso; have hz := congrArg List.length (hg1.1); simp only [List.length_append, List.length_cons, List.length_map] at hz; omega
  subst hrest
  refine CWp.exit ?_
  refine sr ?_
  refine asg ?_
  refine tv ?_
  refine CWp.ret ?_
  refine ⟨_, _, [], (.cons (.tmp rfl) .nil), (.eqd ?_), ⟨rfl, rfl⟩, HSub.nil, noBox⟩
  all_goals (unfold idxI; rw [← hg1.2]; simp [idxF, h1s, h1p])
theorem slices_Contains_int_fn {l : List Int} {v : Int} (h : l.length ≤ 1000000000000) : FnD Try.prog 129 [.d (encInts l), .d (.i v)] [] (.d (.bool (decide (v ∈ l)))) [] := by
 refine Fn.body (fn := Try.f129) (n := 9) rfl rfl rfl rfl rfl (fun w0 F0 own kept hk => ?_)
 refine sr ?_
 refine asg ?_
 refine tv ?_
 refine sr ?_
 refine mv ?_
 refine mv ?_
 refine Walk.call (cr := []) cal146 (slices_Index_int_fn h) rfl .none rfl rfl (LeL.refl _) trivial rfl rfl rfl ?_
 refine Walk.geI .none rfl rfl rfl ?_
 refine asg ?_
 refine tv ?_
 refine CWp.ret ?_
 refine ⟨_, _, [], (.cons (.tmp rfl) .nil), (.eqd ?_), ⟨rfl, rfl⟩, HSub.nil, noBox⟩
 all_goals (refine congrArg D.bool ?_; rw [show idxI l v = idxF (fun x => decide (v = x)) l 0 from rfl, idxF_any]; simp [List.any_eq, eq_comm])
theorem spec_l1Has_fn {l : List Int} {v : Int} (h : l.length ≤ 1000000000000) : FnD Try.prog 128 [.d (encInts l), .d (.i v)] [] (.d (.bool (decide (v ∈ l)))) [] := by
 refine Fn.body (fn := Try.f128) (n := 18) rfl rfl rfl rfl rfl (fun w0 F0 own kept hk => ?_)
 refine sr ?_
 refine asg ?_
 refine tv ?_
 refine CWp.seq ?_
 refine sr ?_
 refine asg ?_
 refine tv ?_
 refine CWp.block ?_
 refine CWp.loopX (ι := List (Int) × List (Int)) hk (fun x => [(5, .d (.i (x.1.length : Int)))]) [4, 6, 7, 8, 9, 10, 11, 12, 13, 14, 15, 16, 17] (fun x => []) (fun x => x.1 ++ x.2 = l ∧ v ∉ x.1) (fun x => x.2.length) ([], l) ⟨by simp, by simp⟩ ⟨⟨_, rfl, (LeA.eqi (by first | rfl | (simp; done) | (simp_all; done) | omega))⟩, trivial⟩ trivial (fun x => rfl) (fun x hg1 => ?_)
 obtain ⟨pre, rest⟩ := x
 dsimp only at hg1 ⊢
 refine CWp.seq ?_
 refine sr ?_
 refine mv ?_
 refine mv ?_
 refine Walk.len sl126 .none rfl rfl ?_
 refine Walk.ltI .none rfl rfl rfl ?_
 refine tv ?_
 refine cd ?_ ?_
 ·intro h1; have ⟨h1p, h1s⟩ := dup h1; try simp only [Q5] at h1s
  try simp only [Q] at h1p
  rcases rest with _ | ⟨y, rest⟩
  ·exfalso; simp_all
  refine CWp.skip ?_
  refine CWp.seq ?_
  refine CWp.block ?_
  refine sr ?_
  refine mv ?_
  refine mv ?_
  refine Walk.idx sl126 .none rfl rfl rfl rfl (zip_at hg1.1) rfl ?_
  refine Walk.loadP ty3 .none rfl rfl rfl ?_
  refine mv ?_
  refine Walk.eqI .none rfl rfl rfl ?_
  refine tv ?_
  refine cd ?_ ?_
  ·intro h2; have ⟨h2p, h2s⟩ := dup h2; try simp only [Q5] at h2s
   try simp only [Q] at h2p
   refine sr ?_
   refine asg ?_
   refine tv ?_
   refine CWp.ret ?_
   refine ⟨_, _, [], (.cons (.tmp rfl) .nil), (.eqd ?_), ⟨rfl, rfl⟩, HSub.nil, noBox⟩
   all_goals (refine congrArg D.bool ?_; first | (symm; rw [decide_eq_true_eq, ← hg1.1]; simp [h1s, h1p, h2s, h2p]; done) | (symm; rw [decide_eq_false_iff_not, ← hg1.1]; intro hm; simp at hm; exact absurd hm (by simpa using hg1.2)))
  ·intro h2; have ⟨h2p, h2s⟩ := dup h2; try simp only [Q5] at h2s
   try simp only [Q] at h2p
   refine CWp.skip ?_
   refine CWp.region rfl ?_
   refine mv ?_
   refine Walk.addI .none rfl rfl rfl (by first | (constructor <;> omega) | (constructor <;> simp <;> omega)) ?_
   refine asg ?_
   refine tv ?_
   refine ⟨(pre ++ [y], rest), ⟨(by have hz := hg1.1; rw [← hz]; simp), (by have := hg1.2; simp [this, eq_comm]; omega)⟩, (by simp), Sub.x (by kernel_rfl) (by kernel_rfl) ⟨⟨_, rfl, (LeA.eqi (by first | rfl | (simp; done) | (simp_all; done) | omega))⟩, trivial⟩ (by kernel_rfl) (by kernel_rfl) trivial⟩
 ·intro h1; have ⟨h1p, h1s⟩ := dup h1; try simp only [Q5] at h1s
  try simp only [Q] at h1p
  have hrest : rest = [] := by
   rcases rest with _ | ⟨a, b⟩
   ·rfl
   ·exfalso; have hz := congrArg List.length (hg1.1); simp only [List.length_append, List.length_cons, List.length_map] at hz; omega
  subst hrest
  refine CWp.exit ?_
  refine sr ?_
  refine asg ?_
  refine tv ?_
  refine CWp.ret ?_
  refine ⟨_, _, [], (.cons (.tmp rfl) .nil), (.eqd ?_), ⟨rfl, rfl⟩, HSub.nil, noBox⟩
  all_goals (refine congrArg D.bool ?_; first | (symm; rw [decide_eq_true_eq, ← hg1.1]; simp [h1s, h1p]; done) | (symm; rw [decide_eq_false_iff_not, ← hg1.1]; intro hm; simp at hm; exact absurd hm (by simpa using hg1.2)))
end Go.Proofs.Ytadpcmcifbakoaa
