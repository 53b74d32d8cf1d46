/-
  WALKS: which values a type has: the program's scan, the reference's look.
-/
import Derived.Test.YtadpcmcifbakoaaF14
import Derived.Test.YtadpcmcifbakoaaF6
import Derived.Test.YtadpcmcifbakoaaWv
namespace Go.Proofs.Ytadpcmcifbakoaa
open Go
set_option linter.unusedSimpArgs false
set_option linter.unusedVariables false
set_option maxRecDepth 100000
set_option maxHeartbeats 2000000

theorem drop_nth {α : Type} [Inhabited α] {l : List α} {i : Nat} (h : i < l.length) : l.drop i = nth l i :: l.drop (i + 1) := by
  rw [nth_eq h]; exact List.drop_eq_getElem_cons h
def all2 {α β : Type} (f : α → β → Bool) : List α → List β → Bool
  | [], [] => true
  | a :: r, b :: s => f a b && all2 f r s
  | _, _ => false
theorem all2_len {α β : Type} {f : α → β → Bool} : ∀ {a : List α} {b : List β}, a.length ≠ b.length → all2 f a b = false
  | [], [], h => by simp at h
  | [], _ :: _, _ => rfl
  | _ :: _, [], _ => rfl
  | x :: r, y :: s, h => by simp [all2, all2_len (a := r) (b := s) (by simpa using h)]
theorem all2_nth_false {α β : Type} [Inhabited α] [Inhabited β] {f : α → β → Bool} {a : List α} {b : List β} {i : Nat} (h : i < a.length) (hl : a.length = b.length) (h2 : f (nth a i) (nth b i) = false) : all2 f a b = false := by
  induction i generalizing a b with
  | zero =>
    cases a with
    | nil => simp at h
    | cons x r =>
      cases b with
      | nil => simp [all2]
      | cons y s => simp [nth] at h2; simp [all2, h2]
  | succ i ih =>
    cases a with
    | nil => simp at h
    | cons x r =>
      cases b with
      | nil => simp [all2]
      | cons y s => simp only [all2]; rw [ih (a := r) (b := s) (by simpa using h) (by simpa using hl) (by simpa [nth] using h2)]; simp
theorem all2_nth_true {α β : Type} [Inhabited α] [Inhabited β] {f : α → β → Bool} {a : List α} {b : List β} (hl : a.length = b.length) (h : ∀ i, i < a.length → f (nth a i) (nth b i) = true) : all2 f a b = true := by
  induction a generalizing b with
  | nil => cases b with
    | nil => simp [all2]
    | cons y s => simp at hl
  | cons x r ih => cases b with
    | nil => simp at hl
    | cons y s =>
      have h0 := h 0 (by simp)
      simp only [all2]
      rw [ih (by simpa using hl) (fun i hi => by simpa [nth] using h (i + 1) (by simpa using hi))]
      simpa [nth] using h0

/-- the value is one of the type, down to a depth -/
def fitsV (w : List Data) : Nat → Ty → Val → Bool
  | 0, _, _ => false
  | n + 1, t, v => if t.data = -1 then decide (v.ctor = -1) && (decide (0 ≤ v.num) && (decide (v.num ≤ 9) && decide (v.kids.length = 0)))
      else if v.num = 0 ∧ v.ctor ∈ ctorsOf w t then all2 (fitsV w n) (argsOf w t v.ctor) v.kids else false
def scanL (g : Ty → Val → Int → Bool × Int) : List Ty → List Val → Int → Bool × Int
  | a :: r, b :: s, c => if (g a b c).1 then scanL g r s (g a b c).2 else (false, (g a b c).2)
  | _, _, c => (true, c)
/-- the program's scan: what it says and what it has counted -/
def scanV (w : List Data) : Nat → Ty → Val → Int → Bool × Int
  | 0, _, _, c => (false, c + 1)
  | n + 1, t, v, c => if 60 < c + 1 then (false, c + 1)
      else if t.data = -1 then (decide (v.ctor = -1) && (decide (0 ≤ v.num) && (decide (v.num ≤ 9) && decide (v.kids.length = 0))), c + 1)
      else if v.num = 0 ∧ v.ctor ∈ ctorsOf w t then (if (argsOf w t v.ctor).length = v.kids.length then scanL (scanV w n) (argsOf w t v.ctor) v.kids (c + 1) else (false, c + 1))
      else (false, c + 1)

theorem scanL_eq {w : List Data} {n : Nat} (ih : ∀ t v c, (scanV w n t v c).1 = (fitsV w n t v && decide (c + (v.size : Int) ≤ 60)) ∧ ((scanV w n t v c).1 = true → (scanV w n t v c).2 = c + v.size)) :
    ∀ (a : List Ty) (b : List Val) (c : Int), a.length = b.length → c ≤ 60 → (scanL (scanV w n) a b c).1 = (all2 (fitsV w n) a b && decide (c + (Vals.size b : Int) ≤ 60)) ∧ ((scanL (scanV w n) a b c).1 = true → (scanL (scanV w n) a b c).2 = c + Vals.size b)
  | [], [], c, _, hc => by simp [scanL, all2, Vals.size, hc]
  | x :: r, y :: s, c, hl, hc => by
    obtain ⟨h1, h2⟩ := ih x y c
    simp only [scanL, all2, Vals.size]
    cases hh : (scanV w n x y c).1 with
    | true =>
      have h3 := h2 hh
      rw [hh] at h1
      have h4 := h1.symm
      simp only [Bool.and_eq_true, decide_eq_true_eq] at h4
      obtain ⟨h5, h6⟩ := scanL_eq ih r s (scanV w n x y c).2 (by simpa using hl) (by omega)
      simp only [if_true]
      rw [h5]
      refine ⟨?_, fun hx => ?_⟩
      · rw [h4.1, h3, Bool.true_and]
        congr 1
        exact decide_eq_decide.2 (by push_cast; omega)
      · rw [← h5] at hx
        rw [h6 hx, h3]; push_cast; omega
    | false =>
      rw [hh] at h1
      simp only [Bool.false_eq_true, if_false, false_implies, and_true]
      have h4 := h1.symm
      simp only [Bool.and_eq_false_imp, decide_eq_false_iff_not] at h4
      symm
      cases hf : fitsV w n x y with
      | false => simp
      | true =>
        have := h4 hf
        have h7 : ¬ (c + ((y.size + Vals.size s : Nat) : Int) ≤ 60) := by push_cast; omega
        simp only [Bool.and_eq_false_imp]
        intro _; exact decide_eq_false h7
  | [], _ :: _, _, hl, _ => by simp at hl
  | _ :: _, [], _, hl, _ => by simp at hl

theorem Vals.size_nil {l : List Val} (h : l.length = 0) : Vals.size l = 0 := by
  cases l with
  | nil => rfl
  | cons x r => simp at h

theorem scanV_eq (w : List Data) : ∀ (n : Nat) (t : Ty) (v : Val) (c : Int), (scanV w n t v c).1 = (fitsV w n t v && decide (c + (v.size : Int) ≤ 60)) ∧ ((scanV w n t v c).1 = true → (scanV w n t v c).2 = c + v.size)
  | 0, t, v, c => by simp [scanV, fitsV]
  | n + 1, t, v, c => by
    have hsz := Val.size_eq v
    unfold scanV fitsV
    by_cases h1 : 60 < c + 1
    · rw [if_pos h1]
      simp only [Bool.false_eq_true, false_implies, and_true]
      symm
      simp only [Bool.and_eq_false_imp, decide_eq_false_iff_not]
      intro _; omega
    · rw [if_neg h1]
      by_cases h2 : t.data = -1
      · rw [if_pos h2, if_pos h2]
        refine ⟨?_, fun hx => ?_⟩
        · by_cases hk : v.kids.length = 0
          · have := Vals.size_nil hk
            have h3 : decide (c + (v.size : Int) ≤ 60) = true := decide_eq_true (by omega)
            rw [h3, Bool.and_true]
          · simp [hk]
        · simp only [Bool.and_eq_true, decide_eq_true_eq] at hx
          have := Vals.size_nil hx.2.2.2
          simp only; omega
      · rw [if_neg h2, if_neg h2]
        by_cases h3 : v.num = 0 ∧ v.ctor ∈ ctorsOf w t
        · rw [if_pos h3, if_pos h3]
          by_cases h4 : (argsOf w t v.ctor).length = v.kids.length
          · rw [if_pos h4]
            obtain ⟨h5, h6⟩ := scanL_eq (fun t v c => scanV_eq w n t v c) (argsOf w t v.ctor) v.kids (c + 1) h4 (by omega)
            refine ⟨?_, fun hx => ?_⟩
            · rw [h5]
              congr 1
              exact decide_eq_decide.2 (by omega)
            · rw [h6 hx]; omega
          · rw [if_neg h4, all2_len h4]
            simp
        · rw [if_neg h3, if_neg h3]
          simp

/-! ### how many parts -/
mutual
def cntV (m : Int) : Val → Int
  | .mk _ _ ks => cntL m 1 ks
def cntL (m n : Int) : List Val → Int
  | [] => n
  | k :: r => if n ≤ m then cntL m (n + cntV (m - n) k) r else n
end
theorem cntV_eq (m : Int) (v : Val) : cntV m v = cntL m 1 v.kids := by cases v; rfl
theorem cntL_stop {m n : Int} {l : List Val} (h : ¬ n ≤ m) : cntL m n l = n := by cases l <;> simp [cntL, h]
mutual
theorem cntV_le : ∀ (v : Val) (m : Int), 1 ≤ cntV m v ∧ cntV m v ≤ v.size
  | .mk _ _ ks, m => by
    have := cntL_le ks m 1 (by omega)
    simp only [cntV, Val.size]; push_cast; omega
theorem cntL_le : ∀ (l : List Val) (m n : Int), 1 ≤ n → 1 ≤ cntL m n l ∧ cntL m n l ≤ n + Vals.size l
  | [], m, n, h => by simp [cntL, Vals.size]; omega
  | k :: r, m, n, h => by
    have h1 := cntV_le k (m - n)
    have h2 := cntL_le r m (n + cntV (m - n) k) (by omega)
    simp only [cntL, Vals.size]
    split
    · push_cast; omega
    · push_cast; omega
end
mutual
theorem cntV_iff : ∀ (v : Val) (m : Int), (cntV m v ≤ m ↔ (v.size : Int) ≤ m) ∧ (cntV m v ≤ m → cntV m v = v.size)
  | .mk _ _ ks, m => by
    have := cntL_iff ks m 1
    simp only [cntV, Val.size]; push_cast; exact this
theorem cntL_iff : ∀ (l : List Val) (m n : Int), (cntL m n l ≤ m ↔ n + (Vals.size l : Int) ≤ m) ∧ (cntL m n l ≤ m → cntL m n l = n + Vals.size l)
  | [], m, n => by simp [cntL, Vals.size]
  | k :: r, m, n => by
    have h1 := cntV_iff k (m - n)
    have h2 := cntL_iff r m (n + cntV (m - n) k)
    have h3 := cntL_le r m (n + cntV (m - n) k)
    have h4 := cntV_le k (m - n)
    simp only [cntL, Vals.size]
    push_cast
    by_cases hn : n ≤ m
    · rw [if_pos hn]
      by_cases h5 : cntV (m - n) k ≤ m - n
      · have h6 := h1.2 h5
        rw [h6] at h2 ⊢
        constructor
        · rw [h2.1]; constructor <;> intro h <;> omega
        · intro h; rw [h2.2 h]; omega
      · have h7 : ¬ (k.size : Int) ≤ m - n := fun h => h5 (h1.1.2 h)
        have h8 : ¬ n + cntV (m - n) k ≤ m := by omega
        rw [cntL_stop h8]
        constructor
        · constructor <;> intro h <;> omega
        · intro h; omega
    · rw [if_neg hn]
      constructor
      · constructor <;> intro h <;> omega
      · intro h; omega
end

def idxI (l : List Int) (v : Int) : Int := idxF (fun x => decide (v = x)) l 0
theorem slices_Index_int_fn {l : List Int} {v : Int} (h : l.length ≤ 1000000000000) : FnD Try.prog 146 [.d (encInts l), .d (.i v)] [] (.d (.i (idxI l v))) [] := by
  refine Fn.body (fn := Try.f146) (n := 19) rfl rfl rfl rfl rfl (fun w0 F0 own kept hk => ?_)
  refine CWp.seq ?_
  refine CWp.region rfl ?_
  refine Walk.assign .none rfl rfl ?_
  refine ⟨trivial, ?_⟩
  refine CWp.seq ?_
  refine CWp.seq ?_
  refine CWp.region rfl ?_
  refine Walk.move .none rfl rfl ?_
  refine Walk.len sl126 .none rfl rfl ?_
  refine Walk.move .none rfl rfl ?_
  refine ⟨trivial, ?_⟩
  refine CWp.block ?_
  refine CWp.loopX (ι := List (Int) × List (Int)) hk (fun x => [(8, .d (.i (x.1.length : Int)))]) [4, 5, 9, 10, 11, 12, 13, 14, 15, 16, 17, 18] (fun x => []) (fun x => x.1 ++ x.2 = l ∧ idxF (fun x => decide (v = x)) x.2 x.1.length = idxF (fun x => decide (v = x)) l 0) (fun x => x.2.length) ([], l) ⟨by simp, rfl⟩ ⟨⟨_, rfl, (LeA.eqi (by first | rfl | (simp; done) | (simp_all; done) | omega))⟩, trivial⟩ trivial (fun x => rfl) (fun x hg1 => ?_)
  obtain ⟨pre, rest⟩ := x
  dsimp only at hg1 ⊢
  refine CWp.seq ?_
  refine CWp.region rfl ?_
  refine Walk.ltI .none rfl rfl rfl ?_
  refine ⟨trivial, ?_⟩
  refine CWp.seq ?_
  refine CWp.cond rfl (fun h1 => ?_) (fun h1 => ?_)
  · have h1p := h1; have h1s := h1; try simp only [q1, q2, q5] at h1s
    try simp only [q1, q2, q3, q4, q5, q6, q7, q8] at h1p
    rcases rest with _ | ⟨y, rest⟩
    · exfalso; simp_all
    refine CWp.skip ?_
    refine CWp.seq ?_
    refine CWp.block ?_
    refine CWp.seq ?_
    refine CWp.region rfl ?_
    refine Walk.move .none rfl rfl ?_
    refine Walk.assign .none rfl rfl ?_
    refine ⟨trivial, ?_⟩
    refine CWp.seq ?_
    refine CWp.region rfl ?_
    refine Walk.move .none rfl rfl ?_
    refine Walk.move .none rfl rfl ?_
    refine Walk.move .none rfl rfl ?_
    refine Walk.idx sl126 .none rfl rfl rfl rfl (zip_at hg1.1) rfl ?_
    refine Walk.loadP ty3 .none rfl rfl rfl ?_
    refine Walk.eqI .none rfl rfl rfl ?_
    refine ⟨trivial, ?_⟩
    refine CWp.cond rfl (fun h2 => ?_) (fun h2 => ?_)
    · have h2p := h2; have h2s := h2; try simp only [q1, q2, q5] at h2s
      try simp only [q1, q2, q3, q4, q5, q6, q7, q8] at h2p
      refine CWp.seq ?_
      refine CWp.region rfl ?_
      refine Walk.move .none rfl rfl ?_
      refine Walk.assign .none rfl rfl ?_
      refine ⟨trivial, ?_⟩
      refine CWp.ret ?_
      refine ⟨_, _, [], (.cons (.tmp rfl) .nil), (.eqd ?_), ⟨rfl, rfl⟩, HSub.nil, noBox⟩
      all_goals (unfold idxI; rw [← hg1.2]; simp [idxF, h1s, h1p, h2s, h2p])
    · have h2p := h2; have h2s := h2; try simp only [q1, q2, q5] at h2s
      try simp only [q1, q2, q3, q4, q5, q6, q7, q8] at h2p
      refine CWp.skip ?_
      refine CWp.region rfl ?_
      refine Walk.addI .none rfl rfl rfl (by first | (constructor <;> omega) | (constructor <;> simp <;> omega)) ?_
      refine Walk.move .none rfl rfl ?_
      refine ⟨trivial, ?_⟩
      refine ⟨(pre ++ [y], rest), ⟨(by have hz := hg1.1; rw [← hz]; simp), (by rw [← hg1.2]; simp [idxF, h2p])⟩, (by simp), Sub.x (by kernel_rfl) (by kernel_rfl) ⟨⟨_, rfl, (LeA.eqi (by first | rfl | (simp; done) | (simp_all; done) | omega))⟩, trivial⟩ (by kernel_rfl) (by kernel_rfl) trivial⟩
  · have h1p := h1; have h1s := h1; try simp only [q1, q2, q5] at h1s
    try simp only [q1, q2, q3, q4, q5, q6, q7, q8] at h1p
    have hrest : rest = [] := by
      rcases rest with _ | ⟨a, b⟩
      · rfl
      · exfalso; have hz := congrArg List.length (hg1.1); simp only [List.length_append, List.length_cons, List.length_map] at hz; omega
    subst hrest
    refine CWp.exit ?_
    refine CWp.seq ?_
    refine CWp.region rfl ?_
    refine Walk.assign .none rfl rfl ?_
    refine ⟨trivial, ?_⟩
    refine CWp.ret ?_
    refine ⟨_, _, [], (.cons (.tmp rfl) .nil), (.eqd ?_), ⟨rfl, rfl⟩, HSub.nil, noBox⟩
    all_goals (unfold idxI; rw [← hg1.2]; simp [idxF, h1s, h1p])

theorem slices_Contains_int_fn {l : List Int} {v : Int} (h : l.length ≤ 1000000000000) : FnD Try.prog 129 [.d (encInts l), .d (.i v)] [] (.d (.bool (decide (v ∈ l)))) [] := by
  refine Fn.body (fn := Try.f129) (n := 9) rfl rfl rfl rfl rfl (fun w0 F0 own kept hk => ?_)
  refine CWp.seq ?_
  refine CWp.region rfl ?_
  refine Walk.assign .none rfl rfl ?_
  refine ⟨trivial, ?_⟩
  refine CWp.seq ?_
  refine CWp.region rfl ?_
  refine Walk.move .none rfl rfl ?_
  refine Walk.move .none rfl rfl ?_
  refine Walk.call (cr := []) cal146 (slices_Index_int_fn h) rfl .none rfl rfl (LeL.refl _) trivial rfl rfl rfl ?_
  refine Walk.geI .none rfl rfl rfl ?_
  refine Walk.assign .none rfl rfl ?_
  refine ⟨trivial, ?_⟩
  refine CWp.ret ?_
  refine ⟨_, _, [], (.cons (.tmp rfl) .nil), (.eqd ?_), ⟨rfl, rfl⟩, HSub.nil, noBox⟩
  all_goals (refine congrArg D.bool ?_; rw [show idxI l v = idxF (fun x => decide (v = x)) l 0 from rfl, idxF_any]; simp [List.any_eq, eq_comm])

theorem spec_l1Has_fn {l : List Int} {v : Int} (h : l.length ≤ 1000000000000) : FnD Try.prog 128 [.d (encInts l), .d (.i v)] [] (.d (.bool (decide (v ∈ l)))) [] := by
  refine Fn.body (fn := Try.f128) (n := 18) rfl rfl rfl rfl rfl (fun w0 F0 own kept hk => ?_)
  refine CWp.seq ?_
  refine CWp.region rfl ?_
  refine Walk.assign .none rfl rfl ?_
  refine ⟨trivial, ?_⟩
  refine CWp.seq ?_
  refine CWp.seq ?_
  refine CWp.region rfl ?_
  refine Walk.assign .none rfl rfl ?_
  refine ⟨trivial, ?_⟩
  refine CWp.block ?_
  refine CWp.loopX (ι := List (Int) × List (Int)) hk (fun x => [(5, .d (.i (x.1.length : Int)))]) [4, 6, 7, 8, 9, 10, 11, 12, 13, 14, 15, 16, 17] (fun x => []) (fun x => x.1 ++ x.2 = l ∧ v ∉ x.1) (fun x => x.2.length) ([], l) ⟨by simp, by simp⟩ ⟨⟨_, rfl, (LeA.eqi (by first | rfl | (simp; done) | (simp_all; done) | omega))⟩, trivial⟩ trivial (fun x => rfl) (fun x hg1 => ?_)
  obtain ⟨pre, rest⟩ := x
  dsimp only at hg1 ⊢
  refine CWp.seq ?_
  refine CWp.seq ?_
  refine CWp.region rfl ?_
  refine Walk.move .none rfl rfl ?_
  refine Walk.move .none rfl rfl ?_
  refine Walk.len sl126 .none rfl rfl ?_
  refine Walk.ltI .none rfl rfl rfl ?_
  refine ⟨trivial, ?_⟩
  refine CWp.cond rfl (fun h1 => ?_) (fun h1 => ?_)
  · have h1p := h1; have h1s := h1; try simp only [q1, q2, q5] at h1s
    try simp only [q1, q2, q3, q4, q5, q6, q7, q8] at h1p
    rcases rest with _ | ⟨y, rest⟩
    · exfalso; simp_all
    refine CWp.skip ?_
    refine CWp.seq ?_
    refine CWp.block ?_
    refine CWp.seq ?_
    refine CWp.region rfl ?_
    refine Walk.move .none rfl rfl ?_
    refine Walk.move .none rfl rfl ?_
    refine Walk.idx sl126 .none rfl rfl rfl rfl (zip_at hg1.1) rfl ?_
    refine Walk.loadP ty3 .none rfl rfl rfl ?_
    refine Walk.move .none rfl rfl ?_
    refine Walk.eqI .none rfl rfl rfl ?_
    refine ⟨trivial, ?_⟩
    refine CWp.cond rfl (fun h2 => ?_) (fun h2 => ?_)
    · have h2p := h2; have h2s := h2; try simp only [q1, q2, q5] at h2s
      try simp only [q1, q2, q3, q4, q5, q6, q7, q8] at h2p
      refine CWp.seq ?_
      refine CWp.region rfl ?_
      refine Walk.assign .none rfl rfl ?_
      refine ⟨trivial, ?_⟩
      refine CWp.ret ?_
      refine ⟨_, _, [], (.cons (.tmp rfl) .nil), (.eqd ?_), ⟨rfl, rfl⟩, HSub.nil, noBox⟩
      all_goals (refine congrArg D.bool ?_; first | (symm; rw [decide_eq_true_eq, ← hg1.1]; simp [h1s, h1p, h2s, h2p]; done) | (symm; rw [decide_eq_false_iff_not, ← hg1.1]; intro hm; simp at hm; exact absurd hm (by simpa using hg1.2)))
    · have h2p := h2; have h2s := h2; try simp only [q1, q2, q5] at h2s
      try simp only [q1, q2, q3, q4, q5, q6, q7, q8] at h2p
      refine CWp.skip ?_
      refine CWp.region rfl ?_
      refine Walk.move .none rfl rfl ?_
      refine Walk.addI .none rfl rfl rfl (by first | (constructor <;> omega) | (constructor <;> simp <;> omega)) ?_
      refine Walk.assign .none rfl rfl ?_
      refine ⟨trivial, ?_⟩
      refine ⟨(pre ++ [y], rest), ⟨(by have hz := hg1.1; rw [← hz]; simp), (by have := hg1.2; simp [this, eq_comm]; omega)⟩, (by simp), Sub.x (by kernel_rfl) (by kernel_rfl) ⟨⟨_, rfl, (LeA.eqi (by first | rfl | (simp; done) | (simp_all; done) | omega))⟩, trivial⟩ (by kernel_rfl) (by kernel_rfl) trivial⟩
  · have h1p := h1; have h1s := h1; try simp only [q1, q2, q5] at h1s
    try simp only [q1, q2, q3, q4, q5, q6, q7, q8] at h1p
    have hrest : rest = [] := by
      rcases rest with _ | ⟨a, b⟩
      · rfl
      · exfalso; have hz := congrArg List.length (hg1.1); simp only [List.length_append, List.length_cons, List.length_map] at hz; omega
    subst hrest
    refine CWp.exit ?_
    refine CWp.seq ?_
    refine CWp.region rfl ?_
    refine Walk.assign .none rfl rfl ?_
    refine ⟨trivial, ?_⟩
    refine CWp.ret ?_
    refine ⟨_, _, [], (.cons (.tmp rfl) .nil), (.eqd ?_), ⟨rfl, rfl⟩, HSub.nil, noBox⟩
    all_goals (refine congrArg D.bool ?_; first | (symm; rw [decide_eq_true_eq, ← hg1.1]; simp [h1s, h1p]; done) | (symm; rw [decide_eq_false_iff_not, ← hg1.1]; intro hm; simp at hm; exact absurd hm (by simpa using hg1.2)))


theorem Vals.size_split {pre rest l : List Val} {y : Val} (h : pre ++ y :: rest = l) : Vals.size l = Vals.size pre + y.size + Vals.size rest := by
  subst h
  induction pre with
  | nil => simp [Vals.size]
  | cons x r ih => simp only [List.cons_append, Vals.size, ih]; omega
theorem nth_size {l : List Val} {i : Nat} (h : i < l.length) : (nth l i).size ≤ Vals.size l := Vals.size_mem (nth_mem h)
theorem size_drop {l : List Val} {i : Nat} (h : i < l.length) : Vals.size (l.drop i) = (nth l i).size + Vals.size (l.drop (i + 1)) := by
  rw [drop_nth h]; rfl

theorem spec_l2Count_fn : ∀ (n : Nat) {v : Val} {m : Int}, v.size ≤ n → v.size ≤ 1000000000000 → v.ok → 0 ≤ m → m ≤ 1000000000000 → FnD Try.prog 101 [.agg [.d (.i v.ctor), .d (.i v.num), .d (encVals v.kids)], .d (.i m)] [] (.d (.i (cntV m v))) []
  | 0, v, m, h, _, _, _, _ => by rw [Val.size_eq] at h; omega
  | n + 1, v, m, h, hb, hok, m0, m1 => by
    rw [Val.size_eq] at h hb
    rw [Val.ok_iff] at hok
    rw [cntV_eq]
    refine Fn.body (fn := Try.f101) (n := 31) rfl rfl rfl rfl rfl (fun w0 F0 own kept hk => ?_)
    refine CWp.seq ?_
    refine CWp.region rfl ?_
    refine Walk.box (id := 3002) .none rfl rfl rfl rfl rfl rfl rfl ?_
    refine Walk.assign .none rfl rfl ?_
    refine ⟨trivial, ?_⟩
    refine CWp.seq ?_
    refine CWp.region rfl ?_
    refine Walk.assign .none rfl rfl ?_
    refine ⟨trivial, ?_⟩
    refine CWp.seq ?_
    refine CWp.seq ?_
    refine CWp.region rfl ?_
    refine Walk.assign .none rfl rfl ?_
    refine ⟨trivial, ?_⟩
    refine CWp.block ?_
    refine CWp.loopX (ι := Nat × Int) hk (fun x => [(6, .d (.i (x.1 : Int))), (5, .d (.i x.2))]) [7, 8, 9, 10, 11, 12, 13, 14, 15, 16, 17, 18, 19, 20, 21, 22, 23, 24, 25, 26, 27, 28, 29] (fun x => []) (fun x => x.1 ≤ v.kids.length ∧ cntL m x.2 (v.kids.drop x.1) = cntL m 1 v.kids ∧ 1 ≤ x.2 ∧ x.2 + Vals.size (v.kids.drop x.1) ≤ 1 + Vals.size v.kids) (fun x => v.kids.length - x.1) (0, 1) ⟨by simp, by simp, by simp, by simp⟩ ⟨⟨_, rfl, (LeA.eqi (by first | rfl | (simp; done) | (dsimp only; omega)))⟩, ⟨⟨_, rfl, (LeA.eqi (by first | rfl | (simp; done) | (dsimp only; omega)))⟩, trivial⟩⟩ trivial (fun x => rfl) (fun x hg1 => ?_)
    refine CWp.seq ?_
    refine CWp.seq ?_
    refine CWp.region rfl ?_
    refine Walk.move .none rfl rfl ?_
    refine Walk.fieldB fd54_2 .none rfl rfl ?_
    refine Walk.loadB ty52 .none rfl rfl rfl rfl ?_
    refine Walk.len sl52 .none rfl rfl ?_
    refine Walk.ltI .none rfl rfl rfl ?_
    refine Walk.move .none rfl rfl ?_
    refine Walk.split (e := 12) rfl (fun h1 => ?_) (fun h1 => ?_)
    · have h1p := h1; have h1s := h1; try simp only [q1, q2, q5] at h1s
      try simp only [q1, q2, q3, q4, q5, q6, q7, q8, Val.cs_len] at h1p
      refine Walk.move (.some rfl rfl h1) rfl rfl ?_
      refine Walk.move (.some rfl rfl h1) rfl rfl ?_
      refine Walk.leI (.some rfl rfl h1) rfl rfl rfl ?_
      refine Walk.pickT .none rfl rfl h1 rfl ?_
      refine ⟨trivial, ?_⟩
      refine CWp.cond rfl (fun h2 => ?_) (fun h2 => ?_)
      · have h2p := h2; have h2s := h2; try simp only [q1, q2, q5] at h2s
        try simp only [q1, q2, q3, q4, q5, q6, q7, q8, Val.cs_len] at h2p
        refine CWp.skip ?_
        refine CWp.seq ?_
        refine CWp.block ?_
        refine CWp.region rfl ?_
        refine Walk.move .none rfl rfl ?_
        refine Walk.fieldB fd54_2 .none rfl rfl ?_
        refine Walk.loadB ty52 .none rfl rfl rfl rfl ?_
        refine Walk.move .none rfl rfl ?_
        refine Walk.idx sl52 .none rfl rfl rfl rfl (vals_at (by omega)) rfl ?_
        refine Walk.loadPA ty54 .none rfl rfl rfl rfl ?_
        refine Walk.move .none rfl rfl ?_
        refine Walk.move .none rfl rfl ?_
        refine Walk.subI .none rfl rfl rfl (by first | (constructor <;> omega) | (have hz := cntV_le (nth v.kids x.1) (m - x.2); have hs := size_drop (l := v.kids) (i := x.1) (by omega); constructor <;> omega) | (constructor <;> simp [Val.cs_len] <;> omega)) ?_
        refine Walk.call (cr := []) cal101 (spec_l2Count_fn n (v := nth v.kids x.1) (by have := nth_size (l := v.kids) (i := x.1) (by omega); omega) (by have := nth_size (l := v.kids) (i := x.1) (by omega); omega) (Vals.ok_mem hok.2 _ (nth_mem (by omega))) (by omega) (by omega)) rfl .none rfl rfl (LeL.refl _) trivial rfl rfl rfl ?_
        refine Walk.addI .none rfl rfl rfl (by first | (constructor <;> omega) | (have hz := cntV_le (nth v.kids x.1) (m - x.2); have hs := size_drop (l := v.kids) (i := x.1) (by omega); constructor <;> omega) | (constructor <;> simp [Val.cs_len] <;> omega)) ?_
        refine Walk.assign .none rfl rfl ?_
        refine ⟨trivial, ?_⟩
        refine CWp.region rfl ?_
        refine Walk.move .none rfl rfl ?_
        refine Walk.addI .none rfl rfl rfl (by first | (constructor <;> omega) | (have hz := cntV_le (nth v.kids x.1) (m - x.2); have hs := size_drop (l := v.kids) (i := x.1) (by omega); constructor <;> omega) | (constructor <;> simp [Val.cs_len] <;> omega)) ?_
        refine Walk.assign .none rfl rfl ?_
        refine ⟨trivial, ?_⟩
        refine ⟨(x.1 + 1, x.2 + cntV (m - x.2) (nth v.kids x.1)), (by
                have hz := cntV_le (nth v.kids x.1) (m - x.2)
                have hs := size_drop (l := v.kids) (i := x.1) (by omega)
                refine ⟨by dsimp only; omega, ?_, by dsimp only; omega, by dsimp only; omega⟩
                rw [← hg1.2.1, drop_nth (l := v.kids) (i := x.1) (by omega), cntL, if_pos (by omega)]), (by dsimp only; omega), Sub.x (by kernel_rfl) (by kernel_rfl) ⟨⟨_, rfl, (LeA.eqi (by first | rfl | (simp; done) | (dsimp only; omega)))⟩, ⟨⟨_, rfl, (LeA.eqi (by first | rfl | (simp; done) | (dsimp only; omega)))⟩, trivial⟩⟩ (by kernel_rfl) (by kernel_rfl) trivial⟩
      · have h2p := h2; have h2s := h2; try simp only [q1, q2, q5] at h2s
        try simp only [q1, q2, q3, q4, q5, q6, q7, q8, Val.cs_len] at h2p
        refine CWp.exit ?_
        refine CWp.seq ?_
        refine CWp.region rfl ?_
        refine Walk.move .none rfl rfl ?_
        refine Walk.assign .none rfl rfl ?_
        refine ⟨trivial, ?_⟩
        refine CWp.ret ?_
        refine ⟨_, _, [], (.cons (.tmp rfl) .nil), (.eqd ?_), ⟨rfl, rfl⟩, HSub.nil, noBox⟩
        all_goals (refine congrArg D.i ?_; rw [← hg1.2.1]; first | (rw [List.drop_eq_nil_of_le (by omega)]; rfl) | (rw [cntL_stop (by omega)]))
    · have h1p := h1; have h1s := h1; try simp only [q1, q2, q5] at h1s
      try simp only [q1, q2, q3, q4, q5, q6, q7, q8, Val.cs_len] at h1p
      refine Walk.pass rfl rfl rfl h1 rfl rfl ?_
      refine Walk.pass rfl rfl rfl h1 rfl rfl ?_
      refine Walk.pass rfl rfl rfl h1 rfl rfl ?_
      refine Walk.pickF .none rfl rfl h1 rfl ?_
      refine ⟨trivial, ?_⟩
      refine CWp.cond rfl (fun h3 => ?_) (fun h3 => ?_)
      · exact absurd h3 (by simp)
      · have h3p := h3; have h3s := h3; try simp only [q1, q2, q5] at h3s
        try simp only [q1, q2, q3, q4, q5, q6, q7, q8, Val.cs_len] at h3p
        refine CWp.exit ?_
        refine CWp.seq ?_
        refine CWp.region rfl ?_
        refine Walk.move .none rfl rfl ?_
        refine Walk.assign .none rfl rfl ?_
        refine ⟨trivial, ?_⟩
        refine CWp.ret ?_
        refine ⟨_, _, [], (.cons (.tmp rfl) .nil), (.eqd ?_), ⟨rfl, rfl⟩, HSub.nil, noBox⟩
        all_goals (refine congrArg D.i ?_; rw [← hg1.2.1]; first | (rw [List.drop_eq_nil_of_le (by omega)]; rfl) | (rw [cntL_stop (by omega)]))

theorem spec_l2Fits_fn {w : List Data} (hw : WT w) : ∀ (n : Nat) {a k m : Int} {v : Val}, m = n → n ≤ 1000 → TyIn w.length ⟨a, k⟩ → v.ok →
    FnD Try.prog 100 [.d (encDatas w), .agg [.d (.i a), .d (.i k)], .agg [.d (.i v.ctor), .d (.i v.num), .d (encVals v.kids)], .d (.i m)] [] (.d (.bool (fitsV w n ⟨a, k⟩ v))) []
  | 0, a, k, m, v, hm, _, _, _ => by
    refine Fn.body (fn := Try.f100) (n := 78) rfl rfl rfl rfl rfl (fun w0 F0 own kept hk => ?_)
    refine CWp.seq ?_
    refine CWp.region rfl ?_
    refine Walk.box (id := 3005) .none rfl rfl rfl rfl rfl rfl rfl ?_
    refine Walk.box (id := 3006) .none rfl rfl rfl rfl rfl rfl rfl ?_
    refine Walk.assign .none rfl rfl ?_
    refine ⟨trivial, ?_⟩
    refine CWp.seq ?_
    refine CWp.seq ?_
    refine CWp.region rfl ?_
    refine Walk.move .none rfl rfl ?_
    refine Walk.ltI .none rfl rfl rfl ?_
    refine ⟨trivial, ?_⟩
    refine CWp.cond rfl (fun h1 => ?_) (fun h1 => ?_)
    · have h1p := h1; have h1s := h1; try simp only [q1, q2, q5] at h1s
      try simp only [q1, q2, q3, q4, q5, q6, q7, q8] at h1p
      refine CWp.seq ?_
      refine CWp.region rfl ?_
      refine Walk.assign .none rfl rfl ?_
      refine ⟨trivial, ?_⟩
      refine CWp.ret ?_
      refine ⟨_, _, [], (.cons (.tmp rfl) .nil), (.eqd ?_), ⟨rfl, rfl⟩, HSub.nil, noBox⟩
      all_goals (rfl)
    · have h1p := h1; have h1s := h1; try simp only [q1, q2, q5] at h1s
      try simp only [q1, q2, q3, q4, q5, q6, q7, q8] at h1p
      exfalso; simp at h1; omega --stop
  | n + 1, a, k, m, v, hm, hn, ht, hok => by
    rcases ht with ha | ⟨d, hd, hlt⟩
    · have ha' : a = -1 := ha
      subst ha'
      refine Fn.body (fn := Try.f100) (n := 78) rfl rfl rfl rfl rfl (fun w0 F0 own kept hk => ?_)
      refine CWp.seq ?_
      refine CWp.region rfl ?_
      refine Walk.box (id := 3005) .none rfl rfl rfl rfl rfl rfl rfl ?_
      refine Walk.box (id := 3006) .none rfl rfl rfl rfl rfl rfl rfl ?_
      refine Walk.assign .none rfl rfl ?_
      refine ⟨trivial, ?_⟩
      refine CWp.seq ?_
      refine CWp.seq ?_
      refine CWp.region rfl ?_
      refine Walk.move .none rfl rfl ?_
      refine Walk.ltI .none rfl rfl rfl ?_
      refine ⟨trivial, ?_⟩
      refine CWp.cond rfl (fun h1 => ?_) (fun h1 => ?_)
      · have h1p := h1; have h1s := h1; try simp only [q1, q2, q5] at h1s
        try simp only [q1, q2, q3, q4, q5, q6, q7, q8] at h1p
        exfalso; simp at h1; omega --stop
      · have h1p := h1; have h1s := h1; try simp only [q1, q2, q5] at h1s
        try simp only [q1, q2, q3, q4, q5, q6, q7, q8] at h1p
        refine CWp.skip ?_
        refine CWp.seq ?_
        refine CWp.seq ?_
        refine CWp.region rfl ?_
        refine Walk.fieldB fd38_0 .none rfl rfl ?_
        refine Walk.loadB ty3 .none rfl rfl rfl rfl ?_
        refine Walk.eqI .none rfl rfl rfl ?_
        refine ⟨trivial, ?_⟩
        refine CWp.cond rfl (fun h2 => ?_) (fun h2 => ?_)
        · have h2p := h2; have h2s := h2; try simp only [q1, q2, q5] at h2s
          try simp only [q1, q2, q3, q4, q5, q6, q7, q8] at h2p
          refine CWp.seq ?_
          refine CWp.region rfl ?_
          refine Walk.fieldB fd54_0 .none rfl rfl ?_
          refine Walk.loadB ty3 .none rfl rfl rfl rfl ?_
          refine Walk.eqI .none rfl rfl rfl ?_
          refine Walk.move .none rfl rfl ?_
          refine Walk.split (e := 19) rfl (fun h3 => ?_) (fun h3 => ?_)
          · have h3p := h3; have h3s := h3; try simp only [q1, q2, q5] at h3s
            try simp only [q1, q2, q3, q4, q5, q6, q7, q8] at h3p
            refine Walk.fieldB fd54_1 (.some rfl rfl h3) rfl rfl ?_
            refine Walk.loadB ty3 (.some rfl rfl h3) rfl rfl rfl rfl ?_
            refine Walk.geI (.some rfl rfl h3) rfl rfl rfl ?_
            refine Walk.pickT .none rfl rfl h3 rfl ?_
            refine Walk.move .none rfl rfl ?_
            refine Walk.split (e := 24) rfl (fun h4 => ?_) (fun h4 => ?_)
            · have h4p := h4; have h4s := h4; try simp only [q1, q2, q5] at h4s
              try simp only [q1, q2, q3, q4, q5, q6, q7, q8] at h4p
              refine Walk.fieldB fd54_1 (.some rfl rfl h4) rfl rfl ?_
              refine Walk.loadB ty3 (.some rfl rfl h4) rfl rfl rfl rfl ?_
              refine Walk.leI (.some rfl rfl h4) rfl rfl rfl ?_
              refine Walk.pickT .none rfl rfl h4 rfl ?_
              refine Walk.move .none rfl rfl ?_
              refine Walk.split (e := 29) rfl (fun h5 => ?_) (fun h5 => ?_)
              · have h5p := h5; have h5s := h5; try simp only [q1, q2, q5] at h5s
                try simp only [q1, q2, q3, q4, q5, q6, q7, q8] at h5p
                refine Walk.fieldB fd54_2 (.some rfl rfl h5) rfl rfl ?_
                refine Walk.loadB ty52 (.some rfl rfl h5) rfl rfl rfl rfl ?_
                refine Walk.len sl52 (.some rfl rfl h5) rfl rfl ?_
                refine Walk.eqI (.some rfl rfl h5) rfl rfl rfl ?_
                refine Walk.pickT .none rfl rfl h5 rfl ?_
                refine Walk.assign .none rfl rfl ?_
                refine ⟨trivial, ?_⟩
                refine CWp.ret ?_
                refine ⟨_, _, [], (.cons (.tmp rfl) .nil), (.eqd ?_), ⟨rfl, rfl⟩, HSub.nil, noBox⟩
                all_goals (refine congrArg D.bool ?_; simp [fitsV, Val.cs_len, h1s, h1p, h2s, h2p, h3s, h3p, h4s, h4p, h5s, h5p])
              · have h5p := h5; have h5s := h5; try simp only [q1, q2, q5] at h5s
                try simp only [q1, q2, q3, q4, q5, q6, q7, q8] at h5p
                refine Walk.pass rfl rfl rfl h5 rfl rfl ?_
                refine Walk.pass rfl rfl rfl h5 rfl rfl ?_
                refine Walk.pass rfl rfl rfl h5 rfl rfl ?_
                refine Walk.pass rfl rfl rfl h5 rfl rfl ?_
                refine Walk.pickF .none rfl rfl h5 rfl ?_
                refine Walk.assign .none rfl rfl ?_
                refine ⟨trivial, ?_⟩
                refine CWp.ret ?_
                refine ⟨_, _, [], (.cons (.tmp rfl) .nil), (.eqd ?_), ⟨rfl, rfl⟩, HSub.nil, noBox⟩
                all_goals (refine congrArg D.bool ?_; simp [fitsV, Val.cs_len, h1s, h1p, h2s, h2p, h3s, h3p, h4s, h4p, h5s, h5p])
            · have h4p := h4; have h4s := h4; try simp only [q1, q2, q5] at h4s
              try simp only [q1, q2, q3, q4, q5, q6, q7, q8] at h4p
              refine Walk.pass rfl rfl rfl h4 rfl rfl ?_
              refine Walk.pass rfl rfl rfl h4 rfl rfl ?_
              refine Walk.pass rfl rfl rfl h4 rfl rfl ?_
              refine Walk.pickF .none rfl rfl h4 rfl ?_
              refine Walk.move .none rfl rfl ?_
              refine Walk.pass rfl rfl rfl rfl rfl rfl ?_
              refine Walk.pass rfl rfl rfl rfl rfl rfl ?_
              refine Walk.pass rfl rfl rfl rfl rfl rfl ?_
              refine Walk.pass rfl rfl rfl rfl rfl rfl ?_
              refine Walk.pickF .none rfl rfl rfl rfl ?_
              refine Walk.assign .none rfl rfl ?_
              refine ⟨trivial, ?_⟩
              refine CWp.ret ?_
              refine ⟨_, _, [], (.cons (.tmp rfl) .nil), (.eqd ?_), ⟨rfl, rfl⟩, HSub.nil, noBox⟩
              all_goals (refine congrArg D.bool ?_; simp [fitsV, Val.cs_len, h1s, h1p, h2s, h2p, h3s, h3p, h4s, h4p])
          · have h3p := h3; have h3s := h3; try simp only [q1, q2, q5] at h3s
            try simp only [q1, q2, q3, q4, q5, q6, q7, q8] at h3p
            refine Walk.pass rfl rfl rfl h3 rfl rfl ?_
            refine Walk.pass rfl rfl rfl h3 rfl rfl ?_
            refine Walk.pass rfl rfl rfl h3 rfl rfl ?_
            refine Walk.pickF .none rfl rfl h3 rfl ?_
            refine Walk.move .none rfl rfl ?_
            refine Walk.pass rfl rfl rfl rfl rfl rfl ?_
            refine Walk.pass rfl rfl rfl rfl rfl rfl ?_
            refine Walk.pass rfl rfl rfl rfl rfl rfl ?_
            refine Walk.pickF .none rfl rfl rfl rfl ?_
            refine Walk.move .none rfl rfl ?_
            refine Walk.pass rfl rfl rfl rfl rfl rfl ?_
            refine Walk.pass rfl rfl rfl rfl rfl rfl ?_
            refine Walk.pass rfl rfl rfl rfl rfl rfl ?_
            refine Walk.pass rfl rfl rfl rfl rfl rfl ?_
            refine Walk.pickF .none rfl rfl rfl rfl ?_
            refine Walk.assign .none rfl rfl ?_
            refine ⟨trivial, ?_⟩
            refine CWp.ret ?_
            refine ⟨_, _, [], (.cons (.tmp rfl) .nil), (.eqd ?_), ⟨rfl, rfl⟩, HSub.nil, noBox⟩
            all_goals (refine congrArg D.bool ?_; simp [fitsV, Val.cs_len, h1s, h1p, h2s, h2p, h3s, h3p])
        · have h2p := h2; have h2s := h2; try simp only [q1, q2, q5] at h2s
          try simp only [q1, q2, q3, q4, q5, q6, q7, q8] at h2p
          exact absurd h2 (by simp) --stop
    have hd' : a = (d : Int) := hd
    subst hd'
    have hok' := hok
    rw [Val.ok_iff] at hok
    have hcl := ctorsOf_len hw (d := d) (k := k)
    have hdn : ¬ (d : Int) = -1 := by omega
    by_cases hv : v.num = 0 ∧ v.ctor ∈ ctorsOf w ⟨d, k⟩
    · have hal := argsOf_len hw hlt (k := k) (place_of (k := k) (c := v.ctor) hv.2)
      refine Fn.body (fn := Try.f100) (n := 78) rfl rfl rfl rfl rfl (fun w0 F0 own kept hk => ?_)
      refine CWp.seq ?_
      refine CWp.region rfl ?_
      refine Walk.box (id := 3005) .none rfl rfl rfl rfl rfl rfl rfl ?_
      refine Walk.box (id := 3006) .none rfl rfl rfl rfl rfl rfl rfl ?_
      refine Walk.assign .none rfl rfl ?_
      refine ⟨trivial, ?_⟩
      refine CWp.seq ?_
      refine CWp.seq ?_
      refine CWp.region rfl ?_
      refine Walk.move .none rfl rfl ?_
      refine Walk.ltI .none rfl rfl rfl ?_
      refine ⟨trivial, ?_⟩
      refine CWp.cond rfl (fun h1 => ?_) (fun h1 => ?_)
      · have h1p := h1; have h1s := h1; try simp only [q1, q2, q5] at h1s
        try simp only [q1, q2, q3, q4, q5, q6, q7, q8, Val.cs_len] at h1p
        exfalso; simp at h1; omega --stop
      · have h1p := h1; have h1s := h1; try simp only [q1, q2, q5] at h1s
        try simp only [q1, q2, q3, q4, q5, q6, q7, q8, Val.cs_len] at h1p
        refine CWp.skip ?_
        refine CWp.seq ?_
        refine CWp.seq ?_
        refine CWp.region rfl ?_
        refine Walk.fieldB fd38_0 .none rfl rfl ?_
        refine Walk.loadB ty3 .none rfl rfl rfl rfl ?_
        refine Walk.eqI .none rfl rfl rfl ?_
        refine ⟨trivial, ?_⟩
        refine CWp.cond rfl (fun h2 => ?_) (fun h2 => ?_)
        · have h2p := h2; have h2s := h2; try simp only [q1, q2, q5] at h2s
          try simp only [q1, q2, q3, q4, q5, q6, q7, q8, Val.cs_len] at h2p
          exfalso; simp at h2 <;> omega --stop
        · have h2p := h2; have h2s := h2; try simp only [q1, q2, q5] at h2s
          try simp only [q1, q2, q3, q4, q5, q6, q7, q8, Val.cs_len] at h2p
          refine CWp.skip ?_
          refine CWp.seq ?_
          refine CWp.seq ?_
          refine CWp.drawn mixed rfl ?_
          refine Walk.fieldB fd54_1 .none rfl rfl ?_
          refine Walk.loadB ty3 .none rfl rfl rfl rfl ?_
          refine Walk.neI .none rfl rfl rfl ?_
          refine Walk.move .none rfl rfl ?_
          refine Walk.split (e := 38) rfl (fun h3 => ?_) (fun h3 => ?_)
          · have h3p := h3; have h3s := h3; try simp only [q1, q2, q5] at h3s
            try simp only [q1, q2, q3, q4, q5, q6, q7, q8, Val.cs_len] at h3p
            refine Walk.pass rfl rfl rfl h3 rfl rfl ?_
            refine Walk.pass rfl rfl rfl h3 rfl rfl ?_
            refine Walk.pass rfl rfl rfl h3 rfl rfl ?_
            refine Walk.pass rfl rfl rfl h3 rfl rfl ?_
            refine Walk.pass rfl rfl rfl h3 rfl rfl ?_
            refine Walk.pass rfl rfl rfl h3 rfl rfl ?_
            refine Walk.pass rfl rfl rfl h3 rfl rfl ?_
            refine Walk.pickT .none rfl rfl h3 rfl ?_
            refine ⟨by show _ = _; kernel_rfl, ?_⟩
            refine CWp.cond rfl (fun h4 => ?_) (fun h4 => ?_)
            · have h4p := h4; have h4s := h4; try simp only [q1, q2, q5] at h4s
              try simp only [q1, q2, q3, q4, q5, q6, q7, q8, Val.cs_len] at h4p
              exfalso; have e1 := hv.1; have e2 := hv.2; simp_all --stop
            · exact absurd h4 (by simp)
          · have h3p := h3; have h3s := h3; try simp only [q1, q2, q5] at h3s
            try simp only [q1, q2, q3, q4, q5, q6, q7, q8, Val.cs_len] at h3p
            refine Walk.move (.some rfl rfl h3) rfl rfl ?_
            refine Walk.loadBA ty38 (.some rfl rfl h3) rfl rfl rfl rfl ?_
            refine Walk.call (cr := []) cal120 (spec_l1Ctors_in hw hlt) rfl (.some rfl rfl h3) rfl rfl (LeL.refl _) trivial rfl rfl rfl ?_
            refine Walk.fieldB fd54_0 (.some rfl rfl h3) rfl rfl ?_
            refine Walk.loadB ty3 (.some rfl rfl h3) rfl rfl rfl rfl ?_
            refine Walk.call (cr := []) cal128 (spec_l1Has_fn hcl) rfl (.some rfl rfl h3) rfl rfl (LeL.refl _) trivial rfl rfl rfl ?_
            refine Walk.not (.some rfl rfl h3) rfl rfl ?_
            refine Walk.pickF .none rfl rfl h3 rfl ?_
            refine ⟨by show _ = _; kernel_rfl, ?_⟩
            refine CWp.cond rfl (fun h5 => ?_) (fun h5 => ?_)
            · have h5p := h5; have h5s := h5; try simp only [q1, q2, q5] at h5s
              try simp only [q1, q2, q3, q4, q5, q6, q7, q8, Val.cs_len] at h5p
              exfalso; have e1 := hv.1; have e2 := hv.2; simp_all --stop
            · have h5p := h5; have h5s := h5; try simp only [q1, q2, q5] at h5s
              try simp only [q1, q2, q3, q4, q5, q6, q7, q8, Val.cs_len] at h5p
              refine CWp.skip ?_
              refine CWp.seq ?_
              refine CWp.region rfl ?_
              refine Walk.move .none rfl rfl ?_
              refine Walk.loadBA ty38 .none rfl rfl rfl rfl ?_
              refine Walk.fieldB fd54_0 .none rfl rfl ?_
              refine Walk.loadB ty3 .none rfl rfl rfl rfl ?_
              refine Walk.call (cr := []) cal121 (spec_l1Args_in hw hlt (place_of (k := k) (c := v.ctor) hv.2)) rfl .none rfl rfl (LeL.refl _) trivial rfl rfl rfl ?_
              refine Walk.assign .none rfl rfl ?_
              refine ⟨trivial, ?_⟩
              refine CWp.seq ?_
              refine CWp.seq ?_
              refine CWp.region rfl ?_
              refine Walk.fieldB fd54_2 .none rfl rfl ?_
              refine Walk.loadB ty52 .none rfl rfl rfl rfl ?_
              refine Walk.len sl52 .none rfl rfl ?_
              refine Walk.move .none rfl rfl ?_
              refine Walk.len sl24 .none rfl rfl ?_
              refine Walk.neI .none rfl rfl rfl ?_
              refine ⟨trivial, ?_⟩
              refine CWp.cond rfl (fun h6 => ?_) (fun h6 => ?_)
              · have h6p := h6; have h6s := h6; try simp only [q1, q2, q5] at h6s
                try simp only [q1, q2, q3, q4, q5, q6, q7, q8, Val.cs_len] at h6p
                refine CWp.seq ?_
                refine CWp.region rfl ?_
                refine Walk.assign .none rfl rfl ?_
                refine ⟨trivial, ?_⟩
                refine CWp.ret ?_
                refine ⟨_, _, [], (.cons (.tmp rfl) .nil), (.eqd ?_), ⟨rfl, rfl⟩, HSub.nil, noBox⟩
                all_goals (refine congrArg D.bool ?_; unfold fitsV; rw [if_neg hdn, if_pos hv]; first | (rw [all2_len (by simp [Val.cs_len] at *; omega)]) | (rw [all2_nth_true (by simp [Val.cs_len] at *; omega) (fun x hx => hg1.2 x (by simp [Val.cs_len] at *; omega))]) | (rw [all2_nth_false (i := i) (by simp [Val.cs_len] at *; omega) (by simp [Val.cs_len] at *; omega) (by assumption)]))
              · have h6p := h6; have h6s := h6; try simp only [q1, q2, q5] at h6s
                try simp only [q1, q2, q3, q4, q5, q6, q7, q8, Val.cs_len] at h6p
                refine CWp.skip ?_
                refine CWp.seq ?_
                refine CWp.seq ?_
                refine CWp.region rfl ?_
                refine Walk.assign .none rfl rfl ?_
                refine ⟨trivial, ?_⟩
                refine CWp.block ?_
                refine CWp.loopX (ι := Nat) hk (fun i => [(10, .d (.i (i : Int)))]) [8, 58, 59, 60, 61, 62, 63, 64, 65, 66, 67, 68, 69, 70, 71, 72, 73, 74, 75, 76, 77] (fun i => []) (fun i => i ≤ (argsOf w ⟨d, k⟩ v.ctor).length ∧ ∀ i', i' < i → fitsV w n (nth (argsOf w ⟨d, k⟩ v.ctor) i') (nth v.kids i') = true) (fun i => (argsOf w ⟨d, k⟩ v.ctor).length - i) 0 ⟨by omega, fun _ h => absurd h (by omega)⟩ ⟨⟨_, rfl, (LeA.eqi (by first | rfl | (simp; done) | (simp_all; done) | omega))⟩, trivial⟩ trivial (fun x => rfl) (fun i hg1 => ?_)
                refine CWp.seq ?_
                refine CWp.seq ?_
                refine CWp.region rfl ?_
                refine Walk.move .none rfl rfl ?_
                refine Walk.move .none rfl rfl ?_
                refine Walk.len sl24 .none rfl rfl ?_
                refine Walk.ltI .none rfl rfl rfl ?_
                refine ⟨trivial, ?_⟩
                refine CWp.cond rfl (fun h7 => ?_) (fun h7 => ?_)
                · have h7p := h7; have h7s := h7; try simp only [q1, q2, q5] at h7s
                  try simp only [q1, q2, q3, q4, q5, q6, q7, q8, Val.cs_len] at h7p
                  refine CWp.skip ?_
                  refine CWp.seq ?_
                  refine CWp.block ?_
                  refine CWp.seq ?_
                  refine CWp.drawn mixed rfl ?_
                  refine Walk.move .none rfl rfl ?_
                  refine Walk.move .none rfl rfl ?_
                  refine Walk.move .none rfl rfl ?_
                  refine Walk.idx sl24 .none rfl rfl rfl rfl (at_nth (by omega)) rfl ?_
                  refine Walk.loadPA ty38 .none rfl rfl rfl rfl ?_
                  refine Walk.fieldB fd54_2 .none rfl rfl ?_
                  refine Walk.loadB ty52 .none rfl rfl rfl rfl ?_
                  refine Walk.move .none rfl rfl ?_
                  refine Walk.idx sl52 .none rfl rfl rfl rfl (vals_at (by omega)) rfl ?_
                  refine Walk.loadPA ty54 .none rfl rfl rfl rfl ?_
                  refine Walk.move .none rfl rfl ?_
                  refine Walk.subI .none rfl rfl rfl (by first | (constructor <;> omega) | (constructor <;> simp [Val.cs_len] <;> omega)) ?_
                  refine Walk.call (cr := []) cal100 (spec_l2Fits_fn hw n (by omega) (by omega) (argsOf_in hw hlt (k := k) (place_of (k := k) (c := v.ctor) hv.2) (nth_mem (by omega))) (Vals.ok_mem hok.2 _ (nth_mem (by omega)))) rfl .none rfl rfl (LeL.refl _) trivial rfl rfl rfl ?_
                  refine Walk.not .none rfl rfl ?_
                  refine ⟨by show _ = _; kernel_rfl, ?_⟩
                  refine CWp.cond rfl (fun h8 => ?_) (fun h8 => ?_)
                  · have h8p := h8; have h8s := h8; try simp only [q1, q2, q5] at h8s
                    try simp only [q1, q2, q3, q4, q5, q6, q7, q8, Val.cs_len] at h8p
                    refine CWp.seq ?_
                    refine CWp.region rfl ?_
                    refine Walk.assign .none rfl rfl ?_
                    refine ⟨trivial, ?_⟩
                    refine CWp.ret ?_
                    refine ⟨_, _, [], (.cons (.tmp rfl) .nil), (.eqd ?_), ⟨rfl, rfl⟩, HSub.nil, noBox⟩
                    all_goals (refine congrArg D.bool ?_; unfold fitsV; rw [if_neg hdn, if_pos hv]; first | (rw [all2_len (by simp [Val.cs_len] at *; omega)]) | (rw [all2_nth_true (by simp [Val.cs_len] at *; omega) (fun x hx => hg1.2 x (by simp [Val.cs_len] at *; omega))]) | (rw [all2_nth_false (i := i) (by simp [Val.cs_len] at *; omega) (by simp [Val.cs_len] at *; omega) (by assumption)]))
                  · have h8p := h8; have h8s := h8; try simp only [q1, q2, q5] at h8s
                    try simp only [q1, q2, q3, q4, q5, q6, q7, q8, Val.cs_len] at h8p
                    refine CWp.skip ?_
                    refine CWp.region rfl ?_
                    refine Walk.move .none rfl rfl ?_
                    refine Walk.addI .none rfl rfl rfl (by first | (constructor <;> omega) | (constructor <;> simp [Val.cs_len] <;> omega)) ?_
                    refine Walk.assign .none rfl rfl ?_
                    refine ⟨trivial, ?_⟩
                    refine ⟨i + 1, ⟨by omega, upto_succ hg1.2 (by assumption)⟩, (by omega), Sub.x (by kernel_rfl) (by kernel_rfl) ⟨⟨_, rfl, (LeA.eqi (by first | rfl | (simp; done) | (simp_all; done) | omega))⟩, trivial⟩ (by kernel_rfl) (by kernel_rfl) trivial⟩
                · have h7p := h7; have h7s := h7; try simp only [q1, q2, q5] at h7s
                  try simp only [q1, q2, q3, q4, q5, q6, q7, q8, Val.cs_len] at h7p
                  refine CWp.exit ?_
                  refine CWp.seq ?_
                  refine CWp.region rfl ?_
                  refine Walk.assign .none rfl rfl ?_
                  refine ⟨trivial, ?_⟩
                  refine CWp.ret ?_
                  refine ⟨_, _, [], (.cons (.tmp rfl) .nil), (.eqd ?_), ⟨rfl, rfl⟩, HSub.nil, noBox⟩
                  all_goals (refine congrArg D.bool ?_; unfold fitsV; rw [if_neg hdn, if_pos hv]; first | (rw [all2_len (by simp [Val.cs_len] at *; omega)]) | (rw [all2_nth_true (by simp [Val.cs_len] at *; omega) (fun x hx => hg1.2 x (by simp [Val.cs_len] at *; omega))]) | (rw [all2_nth_false (i := i) (by simp [Val.cs_len] at *; omega) (by simp [Val.cs_len] at *; omega) (by assumption)]))
    · skip
      refine Fn.body (fn := Try.f100) (n := 78) rfl rfl rfl rfl rfl (fun w0 F0 own kept hk => ?_)
      refine CWp.seq ?_
      refine CWp.region rfl ?_
      refine Walk.box (id := 3005) .none rfl rfl rfl rfl rfl rfl rfl ?_
      refine Walk.box (id := 3006) .none rfl rfl rfl rfl rfl rfl rfl ?_
      refine Walk.assign .none rfl rfl ?_
      refine ⟨trivial, ?_⟩
      refine CWp.seq ?_
      refine CWp.seq ?_
      refine CWp.region rfl ?_
      refine Walk.move .none rfl rfl ?_
      refine Walk.ltI .none rfl rfl rfl ?_
      refine ⟨trivial, ?_⟩
      refine CWp.cond rfl (fun h1 => ?_) (fun h1 => ?_)
      · have h1p := h1; have h1s := h1; try simp only [q1, q2, q5] at h1s
        try simp only [q1, q2, q3, q4, q5, q6, q7, q8] at h1p
        exfalso; simp at h1; omega --stop
      · have h1p := h1; have h1s := h1; try simp only [q1, q2, q5] at h1s
        try simp only [q1, q2, q3, q4, q5, q6, q7, q8] at h1p
        refine CWp.skip ?_
        refine CWp.seq ?_
        refine CWp.seq ?_
        refine CWp.region rfl ?_
        refine Walk.fieldB fd38_0 .none rfl rfl ?_
        refine Walk.loadB ty3 .none rfl rfl rfl rfl ?_
        refine Walk.eqI .none rfl rfl rfl ?_
        refine ⟨trivial, ?_⟩
        refine CWp.cond rfl (fun h2 => ?_) (fun h2 => ?_)
        · have h2p := h2; have h2s := h2; try simp only [q1, q2, q5] at h2s
          try simp only [q1, q2, q3, q4, q5, q6, q7, q8] at h2p
          exfalso; simp at h2 <;> omega --stop
        · have h2p := h2; have h2s := h2; try simp only [q1, q2, q5] at h2s
          try simp only [q1, q2, q3, q4, q5, q6, q7, q8] at h2p
          refine CWp.skip ?_
          refine CWp.seq ?_
          refine CWp.seq ?_
          refine CWp.drawn mixed rfl ?_
          refine Walk.fieldB fd54_1 .none rfl rfl ?_
          refine Walk.loadB ty3 .none rfl rfl rfl rfl ?_
          refine Walk.neI .none rfl rfl rfl ?_
          refine Walk.move .none rfl rfl ?_
          refine Walk.split (e := 38) rfl (fun h3 => ?_) (fun h3 => ?_)
          · have h3p := h3; have h3s := h3; try simp only [q1, q2, q5] at h3s
            try simp only [q1, q2, q3, q4, q5, q6, q7, q8] at h3p
            refine Walk.pass rfl rfl rfl h3 rfl rfl ?_
            refine Walk.pass rfl rfl rfl h3 rfl rfl ?_
            refine Walk.pass rfl rfl rfl h3 rfl rfl ?_
            refine Walk.pass rfl rfl rfl h3 rfl rfl ?_
            refine Walk.pass rfl rfl rfl h3 rfl rfl ?_
            refine Walk.pass rfl rfl rfl h3 rfl rfl ?_
            refine Walk.pass rfl rfl rfl h3 rfl rfl ?_
            refine Walk.pickT .none rfl rfl h3 rfl ?_
            refine ⟨by show _ = _; kernel_rfl, ?_⟩
            refine CWp.cond rfl (fun h4 => ?_) (fun h4 => ?_)
            · have h4p := h4; have h4s := h4; try simp only [q1, q2, q5] at h4s
              try simp only [q1, q2, q3, q4, q5, q6, q7, q8] at h4p
              refine CWp.seq ?_
              refine CWp.region rfl ?_
              refine Walk.assign .none rfl rfl ?_
              refine ⟨trivial, ?_⟩
              refine CWp.ret ?_
              refine ⟨_, _, [], (.cons (.tmp rfl) .nil), (.eqd ?_), ⟨rfl, rfl⟩, HSub.nil, noBox⟩
              all_goals (refine congrArg D.bool ?_; unfold fitsV; rw [if_neg hdn, if_neg hv])
            · exact absurd h4 (by simp)
          · have h3p := h3; have h3s := h3; try simp only [q1, q2, q5] at h3s
            try simp only [q1, q2, q3, q4, q5, q6, q7, q8] at h3p
            refine Walk.move (.some rfl rfl h3) rfl rfl ?_
            refine Walk.loadBA ty38 (.some rfl rfl h3) rfl rfl rfl rfl ?_
            refine Walk.call (cr := []) cal120 (spec_l1Ctors_in hw hlt) rfl (.some rfl rfl h3) rfl rfl (LeL.refl _) trivial rfl rfl rfl ?_
            refine Walk.fieldB fd54_0 (.some rfl rfl h3) rfl rfl ?_
            refine Walk.loadB ty3 (.some rfl rfl h3) rfl rfl rfl rfl ?_
            refine Walk.call (cr := []) cal128 (spec_l1Has_fn hcl) rfl (.some rfl rfl h3) rfl rfl (LeL.refl _) trivial rfl rfl rfl ?_
            refine Walk.not (.some rfl rfl h3) rfl rfl ?_
            refine Walk.pickF .none rfl rfl h3 rfl ?_
            refine ⟨by show _ = _; kernel_rfl, ?_⟩
            refine CWp.cond rfl (fun h5 => ?_) (fun h5 => ?_)
            · have h5p := h5; have h5s := h5; try simp only [q1, q2, q5] at h5s
              try simp only [q1, q2, q3, q4, q5, q6, q7, q8] at h5p
              refine CWp.seq ?_
              refine CWp.region rfl ?_
              refine Walk.assign .none rfl rfl ?_
              refine ⟨trivial, ?_⟩
              refine CWp.ret ?_
              refine ⟨_, _, [], (.cons (.tmp rfl) .nil), (.eqd ?_), ⟨rfl, rfl⟩, HSub.nil, noBox⟩
              all_goals (refine congrArg D.bool ?_; unfold fitsV; rw [if_neg hdn, if_neg hv])
            · have h5p := h5; have h5s := h5; try simp only [q1, q2, q5] at h5s
              try simp only [q1, q2, q3, q4, q5, q6, q7, q8] at h5p
              exfalso; simp_all --stop


def isV (w : List Data) (t : Ty) (v : Val) : Bool := fitsV w 10 t v && decide ((v.size : Int) ≤ 60)
theorem spec_l2Is_fn {w : List Data} (hw : WT w) {a k : Int} {v : Val} (ht : TyIn w.length ⟨a, k⟩) (hok : v.ok) (hb : v.size ≤ 1000000000000) :
    FnD Try.prog 63 [.d (encDatas w), .agg [.d (.i a), .d (.i k)], .agg [.d (.i v.ctor), .d (.i v.num), .d (encVals v.kids)]] [] (.d (.bool (isV w ⟨a, k⟩ v))) [] := by
  have hc := cntV_iff v 60
  refine Fn.body (fn := Try.f63) (n := 16) rfl rfl rfl rfl rfl (fun w0 F0 own kept hk => ?_)
  refine CWp.seq ?_
  refine CWp.region rfl ?_
  refine Walk.box (id := 3004) .none rfl rfl rfl rfl rfl rfl rfl ?_
  refine Walk.box (id := 3005) .none rfl rfl rfl rfl rfl rfl rfl ?_
  refine Walk.assign .none rfl rfl ?_
  refine ⟨trivial, ?_⟩
  refine CWp.seq ?_
  refine CWp.region rfl ?_
  refine Walk.move .none rfl rfl ?_
  refine Walk.loadBA ty38 .none rfl rfl rfl rfl ?_
  refine Walk.loadBA ty54 .none rfl rfl rfl rfl ?_
  refine Walk.call (cr := []) cal100 (spec_l2Fits_fn hw 10 (by omega) (by omega) ht hok) rfl .none rfl rfl (LeL.refl _) trivial rfl rfl rfl ?_
  refine Walk.move .none rfl rfl ?_
  refine Walk.split (e := 11) rfl (fun h1 => ?_) (fun h1 => ?_)
  · have h1p := h1; have h1s := h1; try simp only [q1, q2, q5] at h1s
    try simp only [q1, q2, q3, q4, q5, q6, q7, q8] at h1p
    refine Walk.loadBA ty54 (.some rfl rfl h1) rfl rfl rfl rfl ?_
    refine Walk.call (cr := []) cal101 (spec_l2Count_fn _ (Nat.le_refl _) hb hok (by omega) (by omega)) rfl (.some rfl rfl h1) rfl rfl (LeL.refl _) trivial rfl rfl rfl ?_
    refine Walk.leI (.some rfl rfl h1) rfl rfl rfl ?_
    refine Walk.pickT .none rfl rfl h1 rfl ?_
    refine Walk.assign .none rfl rfl ?_
    refine ⟨trivial, ?_⟩
    refine CWp.ret ?_
    refine ⟨_, _, [], (.cons (.tmp rfl) .nil), (.eqd ?_), ⟨rfl, rfl⟩, HSub.nil, noBox⟩
    all_goals (refine congrArg D.bool ?_; unfold isV; simp only [h1s, h1p]; first | rfl | (simp only [Bool.true_and]; exact decide_eq_decide.2 hc.1) | (simp; done))
  · have h1p := h1; have h1s := h1; try simp only [q1, q2, q5] at h1s
    try simp only [q1, q2, q3, q4, q5, q6, q7, q8] at h1p
    refine Walk.pass rfl rfl rfl h1 rfl rfl ?_
    refine Walk.pass rfl rfl rfl h1 rfl rfl ?_
    refine Walk.pass rfl rfl rfl h1 rfl rfl ?_
    refine Walk.pickF .none rfl rfl h1 rfl ?_
    refine Walk.assign .none rfl rfl ?_
    refine ⟨trivial, ?_⟩
    refine CWp.ret ?_
    refine ⟨_, _, [], (.cons (.tmp rfl) .nil), (.eqd ?_), ⟨rfl, rfl⟩, HSub.nil, noBox⟩
    all_goals (refine congrArg D.bool ?_; unfold isV; simp only [h1s, h1p]; first | rfl | (simp only [Bool.true_and]; exact decide_eq_decide.2 hc.1) | (simp; done))

theorem scanL_stop {w : List Data} {n : Nat} {a : List Ty} {b : List Val} {i : Nat} {c : Int} (ha : i < a.length) (hl : a.length = b.length) (h : (scanV w n (nth a i) (nth b i) c).1 = false) :
    scanL (scanV w n) (a.drop i) (b.drop i) c = (false, (scanV w n (nth a i) (nth b i) c).2) := by
  rw [drop_nth ha, drop_nth (l := b) (by omega), scanL, if_neg (by rw [h]; simp)]
theorem scanL_next {w : List Data} {n : Nat} {a : List Ty} {b : List Val} {i : Nat} {c : Int} (ha : i < a.length) (hl : a.length = b.length) (h : (scanV w n (nth a i) (nth b i) c).1 = true) :
    scanL (scanV w n) (a.drop i) (b.drop i) c = scanL (scanV w n) (a.drop (i + 1)) (b.drop (i + 1)) (scanV w n (nth a i) (nth b i) c).2 := by
  rw [drop_nth ha, drop_nth (l := b) (by omega), scanL, if_pos h]
theorem scanL_end {w : List Data} {n : Nat} {a : List Ty} {b : List Val} {i : Nat} {c : Int} (ha : a.length ≤ i) : scanL (scanV w n) (a.drop i) (b.drop i) c = (true, c) := by
  rw [List.drop_eq_nil_of_le ha, scanL]
  simp
theorem scanV_bd (w : List Data) (n : Nat) (t : Ty) (v : Val) (c : Int) (h : (scanV w n t v c).1 = true) : c ≤ (scanV w n t v c).2 ∧ (scanV w n t v c).2 ≤ 60 := by
  have h1 := (scanV_eq w n t v c)
  have h2 := h1.2 h
  rw [h1.1] at h
  simp only [Bool.and_eq_true, decide_eq_true_eq] at h
  omega
theorem impl_valueScan_fn {w : List Data} (hw : WT w) : ∀ (n : Nat) {a k d c : Int} {v : Val}, d + n = 11 → n ≤ 10 → TyIn w.length ⟨a, k⟩ → v.ok → 0 ≤ c → c ≤ 1000000000000 →
    FnD Try.prog 103 [.d (encDatas w), .agg [.d (.i a), .d (.i k)], .agg [.d (.i v.ctor), .d (.i v.num), .d (encVals v.kids)], .d (.i d), .d (.bool false), .ref 950 0] [(950, some (.box [.d (.i c)]))]
      (.d (.bool (scanV w n ⟨a, k⟩ v c).1)) [(950, some (.box [.d (.i (scanV w n ⟨a, k⟩ v c).2)]))]
  | 0, a, k, d, c, v, hd, _, _, _, c0, c1 => by
    refine Fn.body (fn := Try.f103) (n := 108) rfl rfl rfl rfl rfl (fun w0 F0 own kept hk => ?_)
    refine CWp.seq ?_
    refine CWp.region rfl ?_
    refine Walk.box (id := 3007) .none rfl rfl rfl rfl rfl rfl rfl ?_
    refine Walk.box (id := 3008) .none rfl rfl rfl rfl rfl rfl rfl ?_
    refine Walk.assign .none rfl rfl ?_
    refine ⟨trivial, ?_⟩
    refine CWp.seq ?_
    refine CWp.region rfl ?_
    refine Walk.move .none rfl rfl ?_
    refine Walk.nilCheck (.inl ⟨_, _, rfl⟩) .none rfl rfl ?_
    refine Walk.loadB ty3 .none rfl rfl rfl rfl ?_
    refine Walk.addI .none rfl rfl rfl (by first | (constructor <;> omega) | (constructor <;> simp <;> omega)) ?_
    refine Walk.nilCheck (.inl ⟨_, _, rfl⟩) .none rfl rfl ?_
    refine Walk.store ty3 .none rfl rfl rfl rfl rfl rfl (by simp) rfl ?_
    refine ⟨trivial, ?_⟩
    refine CWp.seq ?_
    refine CWp.seq ?_
    refine CWp.region rfl ?_
    refine Walk.move .none rfl rfl ?_
    refine Walk.nilCheck (.inl ⟨_, _, rfl⟩) .none rfl rfl ?_
    refine Walk.loadB ty3 .none rfl rfl rfl rfl ?_
    refine Walk.gtI .none rfl rfl rfl ?_
    refine Walk.move .none rfl rfl ?_
    refine Walk.split (e := 25) rfl (fun h1 => ?_) (fun h1 => ?_)
    · have h1p := h1; have h1s := h1; try simp only [q1, q2, q5] at h1s
      try simp only [q1, q2, q3, q4, q5, q6, q7, q8] at h1p
      refine Walk.pass rfl rfl rfl h1 rfl rfl ?_
      refine Walk.pass rfl rfl rfl h1 rfl rfl ?_
      refine Walk.pickT .none rfl rfl h1 rfl ?_
      refine ⟨trivial, ?_⟩
      refine CWp.cond rfl (fun h2 => ?_) (fun h2 => ?_)
      · have h2p := h2; have h2s := h2; try simp only [q1, q2, q5] at h2s
        try simp only [q1, q2, q3, q4, q5, q6, q7, q8] at h2p
        refine CWp.seq ?_
        refine CWp.region rfl ?_
        refine Walk.assign .none rfl rfl ?_
        refine ⟨trivial, ?_⟩
        refine CWp.ret ?_
        refine ⟨_, _, [(950, some (.box [.d (.i (scanV w 0 ⟨a, k⟩ v c).2)]))], (.cons (.tmp rfl) .nil), (.eqd ?_), ⟨rfl, rfl⟩, (SubO.get ⟨.inr (by rfl), ⟨.inl rfl, trivial⟩⟩), (boxOK rfl)⟩
        all_goals (rfl)
      · exact absurd h2 (by simp)
    · have h1p := h1; have h1s := h1; try simp only [q1, q2, q5] at h1s
      try simp only [q1, q2, q3, q4, q5, q6, q7, q8] at h1p
      refine Walk.move (.some rfl rfl h1) rfl rfl ?_
      refine Walk.gtI (.some rfl rfl h1) rfl rfl rfl ?_
      refine Walk.pickF .none rfl rfl h1 rfl ?_
      refine ⟨trivial, ?_⟩
      refine CWp.cond rfl (fun h3 => ?_) (fun h3 => ?_)
      · have h3p := h3; have h3s := h3; try simp only [q1, q2, q5] at h3s
        try simp only [q1, q2, q3, q4, q5, q6, q7, q8] at h3p
        refine CWp.seq ?_
        refine CWp.region rfl ?_
        refine Walk.assign .none rfl rfl ?_
        refine ⟨trivial, ?_⟩
        refine CWp.ret ?_
        refine ⟨_, _, [(950, some (.box [.d (.i (scanV w 0 ⟨a, k⟩ v c).2)]))], (.cons (.tmp rfl) .nil), (.eqd ?_), ⟨rfl, rfl⟩, (SubO.get ⟨.inr (by rfl), ⟨.inl rfl, trivial⟩⟩), (boxOK rfl)⟩
        all_goals (rfl)
      · have h3p := h3; have h3s := h3; try simp only [q1, q2, q5] at h3s
        try simp only [q1, q2, q3, q4, q5, q6, q7, q8] at h3p
        exfalso; simp at *; omega --stop
  | n + 1, a, k, d, c, v, hd, hn, ht, hok, c0, c1 => by
    by_cases h60 : 60 < c + 1
    · skip
      refine Fn.body (fn := Try.f103) (n := 108) rfl rfl rfl rfl rfl (fun w0 F0 own kept hk => ?_)
      refine CWp.seq ?_
      refine CWp.region rfl ?_
      refine Walk.box (id := 3007) .none rfl rfl rfl rfl rfl rfl rfl ?_
      refine Walk.box (id := 3008) .none rfl rfl rfl rfl rfl rfl rfl ?_
      refine Walk.assign .none rfl rfl ?_
      refine ⟨trivial, ?_⟩
      refine CWp.seq ?_
      refine CWp.region rfl ?_
      refine Walk.move .none rfl rfl ?_
      refine Walk.nilCheck (.inl ⟨_, _, rfl⟩) .none rfl rfl ?_
      refine Walk.loadB ty3 .none rfl rfl rfl rfl ?_
      refine Walk.addI .none rfl rfl rfl (by first | (constructor <;> omega) | (constructor <;> simp <;> omega)) ?_
      refine Walk.nilCheck (.inl ⟨_, _, rfl⟩) .none rfl rfl ?_
      refine Walk.store ty3 .none rfl rfl rfl rfl rfl rfl (by simp) rfl ?_
      refine ⟨trivial, ?_⟩
      refine CWp.seq ?_
      refine CWp.seq ?_
      refine CWp.region rfl ?_
      refine Walk.move .none rfl rfl ?_
      refine Walk.nilCheck (.inl ⟨_, _, rfl⟩) .none rfl rfl ?_
      refine Walk.loadB ty3 .none rfl rfl rfl rfl ?_
      refine Walk.gtI .none rfl rfl rfl ?_
      refine Walk.move .none rfl rfl ?_
      refine Walk.split (e := 25) rfl (fun h1 => ?_) (fun h1 => ?_)
      · have h1p := h1; have h1s := h1; try simp only [q1, q2, q5] at h1s
        try simp only [q1, q2, q3, q4, q5, q6, q7, q8] at h1p
        refine Walk.pass rfl rfl rfl h1 rfl rfl ?_
        refine Walk.pass rfl rfl rfl h1 rfl rfl ?_
        refine Walk.pickT .none rfl rfl h1 rfl ?_
        refine ⟨trivial, ?_⟩
        refine CWp.cond rfl (fun h2 => ?_) (fun h2 => ?_)
        · have h2p := h2; have h2s := h2; try simp only [q1, q2, q5] at h2s
          try simp only [q1, q2, q3, q4, q5, q6, q7, q8] at h2p
          refine CWp.seq ?_
          refine CWp.region rfl ?_
          refine Walk.assign .none rfl rfl ?_
          refine ⟨trivial, ?_⟩
          refine CWp.ret ?_
          refine ⟨_, _, [(950, some (.box [.d (.i (scanV w (n + 1) ⟨a, k⟩ v c).2)]))], (.cons (.tmp rfl) .nil), (.eqd ?_), ⟨rfl, rfl⟩, (SubO.get ⟨.inr (by (unfold scanV; rw [if_pos h60]; rfl)), ⟨.inl rfl, trivial⟩⟩), (boxOK rfl)⟩
          all_goals (unfold scanV; rw [if_pos h60])
        · exact absurd h2 (by simp)
      · have h1p := h1; have h1s := h1; try simp only [q1, q2, q5] at h1s
        try simp only [q1, q2, q3, q4, q5, q6, q7, q8] at h1p
        refine Walk.move (.some rfl rfl h1) rfl rfl ?_
        refine Walk.gtI (.some rfl rfl h1) rfl rfl rfl ?_
        refine Walk.pickF .none rfl rfl h1 rfl ?_
        refine ⟨trivial, ?_⟩
        refine CWp.cond rfl (fun h3 => ?_) (fun h3 => ?_)
        · have h3p := h3; have h3s := h3; try simp only [q1, q2, q5] at h3s
          try simp only [q1, q2, q3, q4, q5, q6, q7, q8] at h3p
          refine CWp.seq ?_
          refine CWp.region rfl ?_
          refine Walk.assign .none rfl rfl ?_
          refine ⟨trivial, ?_⟩
          refine CWp.ret ?_
          refine ⟨_, _, [(950, some (.box [.d (.i (scanV w (n + 1) ⟨a, k⟩ v c).2)]))], (.cons (.tmp rfl) .nil), (.eqd ?_), ⟨rfl, rfl⟩, (SubO.get ⟨.inr (by (unfold scanV; rw [if_pos h60]; rfl)), ⟨.inl rfl, trivial⟩⟩), (boxOK rfl)⟩
          all_goals (unfold scanV; rw [if_pos h60])
        · have h3p := h3; have h3s := h3; try simp only [q1, q2, q5] at h3s
          try simp only [q1, q2, q3, q4, q5, q6, q7, q8] at h3p
          exfalso; simp at *; omega --stop
    rcases ht with ha | ⟨e, he, hlt⟩
    · have ha' : a = -1 := ha
      subst ha'
      refine Fn.body (fn := Try.f103) (n := 108) rfl rfl rfl rfl rfl (fun w0 F0 own kept hk => ?_)
      refine CWp.seq ?_
      refine CWp.region rfl ?_
      refine Walk.box (id := 3007) .none rfl rfl rfl rfl rfl rfl rfl ?_
      refine Walk.box (id := 3008) .none rfl rfl rfl rfl rfl rfl rfl ?_
      refine Walk.assign .none rfl rfl ?_
      refine ⟨trivial, ?_⟩
      refine CWp.seq ?_
      refine CWp.region rfl ?_
      refine Walk.move .none rfl rfl ?_
      refine Walk.nilCheck (.inl ⟨_, _, rfl⟩) .none rfl rfl ?_
      refine Walk.loadB ty3 .none rfl rfl rfl rfl ?_
      refine Walk.addI .none rfl rfl rfl (by first | (constructor <;> omega) | (constructor <;> simp <;> omega)) ?_
      refine Walk.nilCheck (.inl ⟨_, _, rfl⟩) .none rfl rfl ?_
      refine Walk.store ty3 .none rfl rfl rfl rfl rfl rfl (by simp) rfl ?_
      refine ⟨trivial, ?_⟩
      refine CWp.seq ?_
      refine CWp.seq ?_
      refine CWp.region rfl ?_
      refine Walk.move .none rfl rfl ?_
      refine Walk.nilCheck (.inl ⟨_, _, rfl⟩) .none rfl rfl ?_
      refine Walk.loadB ty3 .none rfl rfl rfl rfl ?_
      refine Walk.gtI .none rfl rfl rfl ?_
      refine Walk.move .none rfl rfl ?_
      refine Walk.split (e := 25) rfl (fun h1 => ?_) (fun h1 => ?_)
      · have h1p := h1; have h1s := h1; try simp only [q1, q2, q5] at h1s
        try simp only [q1, q2, q3, q4, q5, q6, q7, q8] at h1p
        refine Walk.pass rfl rfl rfl h1 rfl rfl ?_
        refine Walk.pass rfl rfl rfl h1 rfl rfl ?_
        refine Walk.pickT .none rfl rfl h1 rfl ?_
        refine ⟨trivial, ?_⟩
        refine CWp.cond rfl (fun h2 => ?_) (fun h2 => ?_)
        · have h2p := h2; have h2s := h2; try simp only [q1, q2, q5] at h2s
          try simp only [q1, q2, q3, q4, q5, q6, q7, q8] at h2p
          exfalso; simp at *; omega --stop
        · exact absurd h2 (by simp)
      · have h1p := h1; have h1s := h1; try simp only [q1, q2, q5] at h1s
        try simp only [q1, q2, q3, q4, q5, q6, q7, q8] at h1p
        refine Walk.move (.some rfl rfl h1) rfl rfl ?_
        refine Walk.gtI (.some rfl rfl h1) rfl rfl rfl ?_
        refine Walk.pickF .none rfl rfl h1 rfl ?_
        refine ⟨trivial, ?_⟩
        refine CWp.cond rfl (fun h3 => ?_) (fun h3 => ?_)
        · have h3p := h3; have h3s := h3; try simp only [q1, q2, q5] at h3s
          try simp only [q1, q2, q3, q4, q5, q6, q7, q8] at h3p
          exfalso; simp at *; omega --stop
        · have h3p := h3; have h3s := h3; try simp only [q1, q2, q5] at h3s
          try simp only [q1, q2, q3, q4, q5, q6, q7, q8] at h3p
          refine CWp.skip ?_
          refine CWp.seq ?_
          refine CWp.block ?_
          refine CWp.seq ?_
          refine CWp.region rfl ?_
          refine Walk.move .none rfl rfl ?_
          refine Walk.move .none rfl rfl ?_
          refine Walk.pass rfl rfl rfl rfl rfl rfl ?_
          refine Walk.pass rfl rfl rfl rfl rfl rfl ?_
          refine Walk.pass rfl rfl rfl rfl rfl rfl ?_
          refine Walk.pickF .none rfl rfl rfl rfl ?_
          refine Walk.assign .none rfl rfl ?_
          refine ⟨trivial, ?_⟩
          refine CWp.cond rfl (fun h4 => ?_) (fun h4 => ?_)
          · exact absurd h4 (by simp)
          · have h4p := h4; have h4s := h4; try simp only [q1, q2, q5] at h4s
            try simp only [q1, q2, q3, q4, q5, q6, q7, q8] at h4p
            refine CWp.seq ?_
            refine CWp.region rfl ?_
            refine Walk.fieldB fd38_0 .none rfl rfl ?_
            refine Walk.loadB ty3 .none rfl rfl rfl rfl ?_
            refine Walk.eqI .none rfl rfl rfl ?_
            refine Walk.assign .none rfl rfl ?_
            refine ⟨trivial, ?_⟩
            refine CWp.cond rfl (fun h5 => ?_) (fun h5 => ?_)
            · have h5p := h5; have h5s := h5; try simp only [q1, q2, q5] at h5s
              try simp only [q1, q2, q3, q4, q5, q6, q7, q8] at h5p
              refine CWp.seq ?_
              refine CWp.region rfl ?_
              refine Walk.fieldB fd54_0 .none rfl rfl ?_
              refine Walk.loadB ty3 .none rfl rfl rfl rfl ?_
              refine Walk.eqI .none rfl rfl rfl ?_
              refine Walk.move .none rfl rfl ?_
              refine Walk.split (e := 52) rfl (fun h6 => ?_) (fun h6 => ?_)
              · have h6p := h6; have h6s := h6; try simp only [q1, q2, q5] at h6s
                try simp only [q1, q2, q3, q4, q5, q6, q7, q8] at h6p
                refine Walk.fieldB fd54_1 (.some rfl rfl h6) rfl rfl ?_
                refine Walk.loadB ty3 (.some rfl rfl h6) rfl rfl rfl rfl ?_
                refine Walk.call (cr := []) cal52 (impl_within_fn) rfl (.some rfl rfl h6) rfl rfl (LeL.refl _) trivial rfl rfl rfl ?_
                refine Walk.pickT .none rfl rfl h6 rfl ?_
                refine Walk.move .none rfl rfl ?_
                refine Walk.split (e := 57) rfl (fun h7 => ?_) (fun h7 => ?_)
                · have h7p := h7; have h7s := h7; try simp only [q1, q2, q5] at h7s
                  try simp only [q1, q2, q3, q4, q5, q6, q7, q8] at h7p
                  refine Walk.fieldB fd54_2 (.some rfl rfl h7) rfl rfl ?_
                  refine Walk.loadB ty52 (.some rfl rfl h7) rfl rfl rfl rfl ?_
                  refine Walk.len sl52 (.some rfl rfl h7) rfl rfl ?_
                  refine Walk.eqI (.some rfl rfl h7) rfl rfl rfl ?_
                  refine Walk.pickT .none rfl rfl h7 rfl ?_
                  refine Walk.assign .none rfl rfl ?_
                  refine ⟨trivial, ?_⟩
                  refine CWp.ret ?_
                  refine ⟨_, _, [(950, some (.box [.d (.i (scanV w (n + 1) ⟨-1, k⟩ v c).2)]))], (.cons (.tmp rfl) .nil), (.eqd ?_), ⟨rfl, rfl⟩, (SubO.get ⟨.inr (by (unfold scanV; rw [if_neg h60, if_pos rfl]; rfl)), ⟨.inl rfl, trivial⟩⟩), (boxOK rfl)⟩
                  all_goals (refine congrArg D.bool ?_; unfold scanV; rw [if_neg h60, if_pos rfl]; simp only [within] at *; first | (simp_all [Val.cs_len]; done) | (simp_all [Val.cs_len]; intro h1 h2; omega))
                · have h7p := h7; have h7s := h7; try simp only [q1, q2, q5] at h7s
                  try simp only [q1, q2, q3, q4, q5, q6, q7, q8] at h7p
                  refine Walk.pass rfl rfl rfl h7 rfl rfl ?_
                  refine Walk.pass rfl rfl rfl h7 rfl rfl ?_
                  refine Walk.pass rfl rfl rfl h7 rfl rfl ?_
                  refine Walk.pass rfl rfl rfl h7 rfl rfl ?_
                  refine Walk.pickF .none rfl rfl h7 rfl ?_
                  refine Walk.assign .none rfl rfl ?_
                  refine ⟨trivial, ?_⟩
                  refine CWp.ret ?_
                  refine ⟨_, _, [(950, some (.box [.d (.i (scanV w (n + 1) ⟨-1, k⟩ v c).2)]))], (.cons (.tmp rfl) .nil), (.eqd ?_), ⟨rfl, rfl⟩, (SubO.get ⟨.inr (by (unfold scanV; rw [if_neg h60, if_pos rfl]; rfl)), ⟨.inl rfl, trivial⟩⟩), (boxOK rfl)⟩
                  all_goals (refine congrArg D.bool ?_; unfold scanV; rw [if_neg h60, if_pos rfl]; simp only [within] at *; first | (simp_all [Val.cs_len]; done) | (simp_all [Val.cs_len]; intro h1 h2; omega))
              · have h6p := h6; have h6s := h6; try simp only [q1, q2, q5] at h6s
                try simp only [q1, q2, q3, q4, q5, q6, q7, q8] at h6p
                refine Walk.pass rfl rfl rfl h6 rfl rfl ?_
                refine Walk.pass rfl rfl rfl h6 rfl rfl ?_
                refine Walk.pass rfl rfl rfl h6 rfl rfl ?_
                refine Walk.pickF .none rfl rfl h6 rfl ?_
                refine Walk.move .none rfl rfl ?_
                refine Walk.pass rfl rfl rfl rfl rfl rfl ?_
                refine Walk.pass rfl rfl rfl rfl rfl rfl ?_
                refine Walk.pass rfl rfl rfl rfl rfl rfl ?_
                refine Walk.pass rfl rfl rfl rfl rfl rfl ?_
                refine Walk.pickF .none rfl rfl rfl rfl ?_
                refine Walk.assign .none rfl rfl ?_
                refine ⟨trivial, ?_⟩
                refine CWp.ret ?_
                refine ⟨_, _, [(950, some (.box [.d (.i (scanV w (n + 1) ⟨-1, k⟩ v c).2)]))], (.cons (.tmp rfl) .nil), (.eqd ?_), ⟨rfl, rfl⟩, (SubO.get ⟨.inr (by (unfold scanV; rw [if_neg h60, if_pos rfl]; rfl)), ⟨.inl rfl, trivial⟩⟩), (boxOK rfl)⟩
                all_goals (refine congrArg D.bool ?_; unfold scanV; rw [if_neg h60, if_pos rfl]; simp only [within] at *; first | (simp_all [Val.cs_len]; done) | (simp_all [Val.cs_len]; intro h1 h2; omega))
            · have h5p := h5; have h5s := h5; try simp only [q1, q2, q5] at h5s
              try simp only [q1, q2, q3, q4, q5, q6, q7, q8] at h5p
              exact absurd h5 (by simp) --stop
    have he' : a = (e : Int) := he
    subst he'
    have hok' := hok
    rw [Val.ok_iff] at hok
    have hcl := ctorsOf_len hw (d := e) (k := k)
    have hdn : ¬ (e : Int) = -1 := by omega
    by_cases hv : v.num = 0 ∧ v.ctor ∈ ctorsOf w ⟨e, k⟩
    · have hal := argsOf_len hw hlt (k := k) (place_of (k := k) (c := v.ctor) hv.2)
      by_cases hlen : (argsOf w ⟨e, k⟩ v.ctor).length = v.kids.length
      · have hsc : scanV w (n + 1) ⟨e, k⟩ v c = scanL (scanV w n) (argsOf w ⟨e, k⟩ v.ctor) v.kids (c + 1) := by
          conv => lhs; unfold scanV
          rw [if_neg h60, if_neg hdn, if_pos hv, if_pos hlen]
        rw [hsc]
        refine Fn.body (fn := Try.f103) (n := 108) rfl rfl rfl rfl rfl (fun w0 F0 own kept hk => ?_)
        refine CWp.seq ?_
        refine CWp.region rfl ?_
        refine Walk.box (id := 3007) .none rfl rfl rfl rfl rfl rfl rfl ?_
        refine Walk.box (id := 3008) .none rfl rfl rfl rfl rfl rfl rfl ?_
        refine Walk.assign .none rfl rfl ?_
        refine ⟨trivial, ?_⟩
        refine CWp.seq ?_
        refine CWp.region rfl ?_
        refine Walk.move .none rfl rfl ?_
        refine Walk.nilCheck (.inl ⟨_, _, rfl⟩) .none rfl rfl ?_
        refine Walk.loadB ty3 .none rfl rfl rfl rfl ?_
        refine Walk.addI .none rfl rfl rfl (by first | (constructor <;> omega) | (constructor <;> simp [Val.cs_len] <;> omega)) ?_
        refine Walk.nilCheck (.inl ⟨_, _, rfl⟩) .none rfl rfl ?_
        refine Walk.store ty3 .none rfl rfl rfl rfl rfl rfl (by simp) rfl ?_
        refine ⟨trivial, ?_⟩
        refine CWp.seq ?_
        refine CWp.seq ?_
        refine CWp.region rfl ?_
        refine Walk.move .none rfl rfl ?_
        refine Walk.nilCheck (.inl ⟨_, _, rfl⟩) .none rfl rfl ?_
        refine Walk.loadB ty3 .none rfl rfl rfl rfl ?_
        refine Walk.gtI .none rfl rfl rfl ?_
        refine Walk.move .none rfl rfl ?_
        refine Walk.split (e := 25) rfl (fun h1 => ?_) (fun h1 => ?_)
        · have h1p := h1; have h1s := h1; try simp only [q1, q2, q5] at h1s
          try simp only [q1, q2, q3, q4, q5, q6, q7, q8, Val.cs_len, Ty.eta] at h1p
          refine Walk.pass rfl rfl rfl h1 rfl rfl ?_
          refine Walk.pass rfl rfl rfl h1 rfl rfl ?_
          refine Walk.pickT .none rfl rfl h1 rfl ?_
          refine ⟨trivial, ?_⟩
          refine CWp.cond rfl (fun h2 => ?_) (fun h2 => ?_)
          · have h2p := h2; have h2s := h2; try simp only [q1, q2, q5] at h2s
            try simp only [q1, q2, q3, q4, q5, q6, q7, q8, Val.cs_len, Ty.eta] at h2p
            exfalso; simp at *; omega --stop
          · exact absurd h2 (by simp)
        · have h1p := h1; have h1s := h1; try simp only [q1, q2, q5] at h1s
          try simp only [q1, q2, q3, q4, q5, q6, q7, q8, Val.cs_len, Ty.eta] at h1p
          refine Walk.move (.some rfl rfl h1) rfl rfl ?_
          refine Walk.gtI (.some rfl rfl h1) rfl rfl rfl ?_
          refine Walk.pickF .none rfl rfl h1 rfl ?_
          refine ⟨trivial, ?_⟩
          refine CWp.cond rfl (fun h3 => ?_) (fun h3 => ?_)
          · have h3p := h3; have h3s := h3; try simp only [q1, q2, q5] at h3s
            try simp only [q1, q2, q3, q4, q5, q6, q7, q8, Val.cs_len, Ty.eta] at h3p
            exfalso; simp at *; omega --stop
          · have h3p := h3; have h3s := h3; try simp only [q1, q2, q5] at h3s
            try simp only [q1, q2, q3, q4, q5, q6, q7, q8, Val.cs_len, Ty.eta] at h3p
            refine CWp.skip ?_
            refine CWp.seq ?_
            refine CWp.block ?_
            refine CWp.seq ?_
            refine CWp.region rfl ?_
            refine Walk.move .none rfl rfl ?_
            refine Walk.move .none rfl rfl ?_
            refine Walk.pass rfl rfl rfl rfl rfl rfl ?_
            refine Walk.pass rfl rfl rfl rfl rfl rfl ?_
            refine Walk.pass rfl rfl rfl rfl rfl rfl ?_
            refine Walk.pickF .none rfl rfl rfl rfl ?_
            refine Walk.assign .none rfl rfl ?_
            refine ⟨trivial, ?_⟩
            refine CWp.cond rfl (fun h4 => ?_) (fun h4 => ?_)
            · exact absurd h4 (by simp)
            · have h4p := h4; have h4s := h4; try simp only [q1, q2, q5] at h4s
              try simp only [q1, q2, q3, q4, q5, q6, q7, q8, Val.cs_len, Ty.eta] at h4p
              refine CWp.seq ?_
              refine CWp.region rfl ?_
              refine Walk.fieldB fd38_0 .none rfl rfl ?_
              refine Walk.loadB ty3 .none rfl rfl rfl rfl ?_
              refine Walk.eqI .none rfl rfl rfl ?_
              refine Walk.assign .none rfl rfl ?_
              refine ⟨trivial, ?_⟩
              refine CWp.cond rfl (fun h5 => ?_) (fun h5 => ?_)
              · have h5p := h5; have h5s := h5; try simp only [q1, q2, q5] at h5s
                try simp only [q1, q2, q3, q4, q5, q6, q7, q8, Val.cs_len, Ty.eta] at h5p
                exfalso; simp at * <;> omega --stop
              · have h5p := h5; have h5s := h5; try simp only [q1, q2, q5] at h5s
                try simp only [q1, q2, q3, q4, q5, q6, q7, q8, Val.cs_len, Ty.eta] at h5p
                refine CWp.seq ?_
                refine CWp.drawn mixed rfl ?_
                refine Walk.fieldB fd54_1 .none rfl rfl ?_
                refine Walk.loadB ty3 .none rfl rfl rfl rfl ?_
                refine Walk.neI .none rfl rfl rfl ?_
                refine Walk.move .none rfl rfl ?_
                refine Walk.split (e := 67) rfl (fun h6 => ?_) (fun h6 => ?_)
                · have h6p := h6; have h6s := h6; try simp only [q1, q2, q5] at h6s
                  try simp only [q1, q2, q3, q4, q5, q6, q7, q8, Val.cs_len, Ty.eta] at h6p
                  refine Walk.pass rfl rfl rfl h6 rfl rfl ?_
                  refine Walk.pass rfl rfl rfl h6 rfl rfl ?_
                  refine Walk.pass rfl rfl rfl h6 rfl rfl ?_
                  refine Walk.pass rfl rfl rfl h6 rfl rfl ?_
                  refine Walk.pass rfl rfl rfl h6 rfl rfl ?_
                  refine Walk.pass rfl rfl rfl h6 rfl rfl ?_
                  refine Walk.pass rfl rfl rfl h6 rfl rfl ?_
                  refine Walk.pickT .none rfl rfl h6 rfl ?_
                  refine Walk.assign .none rfl rfl ?_
                  refine ⟨by show _ = _; kernel_rfl, ?_⟩
                  refine CWp.cond rfl (fun h7 => ?_) (fun h7 => ?_)
                  · have h7p := h7; have h7s := h7; try simp only [q1, q2, q5] at h7s
                    try simp only [q1, q2, q3, q4, q5, q6, q7, q8, Val.cs_len, Ty.eta] at h7p
                    exfalso; have e1 := hv.1; have e2 := hv.2; simp_all --stop
                  · exact absurd h7 (by simp)
                · have h6p := h6; have h6s := h6; try simp only [q1, q2, q5] at h6s
                  try simp only [q1, q2, q3, q4, q5, q6, q7, q8, Val.cs_len, Ty.eta] at h6p
                  refine Walk.move (.some rfl rfl h6) rfl rfl ?_
                  refine Walk.loadBA ty38 (.some rfl rfl h6) rfl rfl rfl rfl ?_
                  refine Walk.call (cr := []) cal123 (impl_ctorsOf_in hw hlt) rfl (.some rfl rfl h6) rfl rfl (LeL.refl _) trivial rfl rfl rfl ?_
                  refine Walk.fieldB fd54_0 (.some rfl rfl h6) rfl rfl ?_
                  refine Walk.loadB ty3 (.some rfl rfl h6) rfl rfl rfl rfl ?_
                  refine Walk.call (cr := []) cal129 (slices_Contains_int_fn hcl) rfl (.some rfl rfl h6) rfl rfl (LeL.refl _) trivial rfl rfl rfl ?_
                  refine Walk.not (.some rfl rfl h6) rfl rfl ?_
                  refine Walk.pickF .none rfl rfl h6 rfl ?_
                  refine Walk.assign .none rfl rfl ?_
                  refine ⟨by show _ = _; kernel_rfl, ?_⟩
                  refine CWp.cond rfl (fun h8 => ?_) (fun h8 => ?_)
                  · have h8p := h8; have h8s := h8; try simp only [q1, q2, q5] at h8s
                    try simp only [q1, q2, q3, q4, q5, q6, q7, q8, Val.cs_len, Ty.eta] at h8p
                    exfalso; have e1 := hv.1; have e2 := hv.2; simp_all --stop
                  · have h8p := h8; have h8s := h8; try simp only [q1, q2, q5] at h8s
                    try simp only [q1, q2, q3, q4, q5, q6, q7, q8, Val.cs_len, Ty.eta] at h8p
                    refine CWp.skip ?_
                    refine CWp.seq ?_
                    refine CWp.region rfl ?_
                    refine Walk.move .none rfl rfl ?_
                    refine Walk.loadBA ty38 .none rfl rfl rfl rfl ?_
                    refine Walk.fieldB fd54_0 .none rfl rfl ?_
                    refine Walk.loadB ty3 .none rfl rfl rfl rfl ?_
                    refine Walk.call (cr := []) cal124 (impl_argTypes_in hw hlt (place_of (k := k) (c := v.ctor) hv.2)) rfl .none rfl rfl (LeL.refl _) trivial rfl rfl rfl ?_
                    refine Walk.assign .none rfl rfl ?_
                    refine ⟨trivial, ?_⟩
                    refine CWp.seq ?_
                    refine CWp.seq ?_
                    refine CWp.region rfl ?_
                    refine Walk.move .none rfl rfl ?_
                    refine Walk.len sl24 .none rfl rfl ?_
                    refine Walk.fieldB fd54_2 .none rfl rfl ?_
                    refine Walk.loadB ty52 .none rfl rfl rfl rfl ?_
                    refine Walk.len sl52 .none rfl rfl ?_
                    refine Walk.neI .none rfl rfl rfl ?_
                    refine ⟨trivial, ?_⟩
                    refine CWp.cond rfl (fun h9 => ?_) (fun h9 => ?_)
                    · have h9p := h9; have h9s := h9; try simp only [q1, q2, q5] at h9s
                      try simp only [q1, q2, q3, q4, q5, q6, q7, q8, Val.cs_len, Ty.eta] at h9p
                      exfalso; simp [Val.cs_len, hlen] at h9 --stop
                    · have h9p := h9; have h9s := h9; try simp only [q1, q2, q5] at h9s
                      try simp only [q1, q2, q3, q4, q5, q6, q7, q8, Val.cs_len, Ty.eta] at h9p
                      refine CWp.skip ?_
                      refine CWp.seq ?_
                      refine CWp.seq ?_
                      refine CWp.region rfl ?_
                      refine Walk.fieldB fd54_2 .none rfl rfl ?_
                      refine Walk.loadB ty52 .none rfl rfl rfl rfl ?_
                      refine Walk.len sl52 .none rfl rfl ?_
                      refine Walk.move .none rfl rfl ?_
                      refine ⟨trivial, ?_⟩
                      refine CWp.block ?_
                      refine CWp.loopX (ι := Nat × Int) hk (fun x => [(90, .d (.i (x.1 : Int)))]) [12, 14, 15, 91, 92, 93, 94, 95, 96, 97, 98, 99, 100, 101, 102, 103, 104, 105, 106, 107] (fun x => [(950, some (.box [.d (.i x.2)]))]) (fun x => x.1 ≤ v.kids.length ∧ scanL (scanV w n) ((argsOf w ⟨e, k⟩ v.ctor).drop x.1) (v.kids.drop x.1) x.2 = scanL (scanV w n) (argsOf w ⟨e, k⟩ v.ctor) v.kids (c + 1) ∧ 0 ≤ x.2 ∧ x.2 ≤ 60) (fun x => v.kids.length - x.1) (0, c + 1) ⟨by simp, by simp, by dsimp only; omega, by dsimp only; omega⟩ ⟨⟨_, rfl, (LeA.eqi (by first | rfl | (simp; done) | (dsimp only; omega)))⟩, trivial⟩ ⟨(by first | rfl | (simp [getH]; done)), trivial⟩ (fun x => rfl) (fun x hg1 => ?_)
                      refine CWp.seq ?_
                      refine CWp.region rfl ?_
                      refine Walk.ltI .none rfl rfl rfl ?_
                      refine ⟨trivial, ?_⟩
                      refine CWp.seq ?_
                      refine CWp.cond rfl (fun h10 => ?_) (fun h10 => ?_)
                      · have h10p := h10; have h10s := h10; try simp only [q1, q2, q5] at h10s
                        try simp only [q1, q2, q3, q4, q5, q6, q7, q8, Val.cs_len, Ty.eta] at h10p
                        refine CWp.skip ?_
                        refine CWp.seq ?_
                        refine CWp.block ?_
                        refine CWp.seq ?_
                        refine CWp.region rfl ?_
                        refine Walk.move .none rfl rfl ?_
                        refine Walk.idx sl52 .none rfl rfl rfl rfl (vals_at (by omega)) rfl ?_
                        refine Walk.loadPA ty54 .none rfl rfl rfl rfl ?_
                        refine Walk.alloc (id := 3015) tz54 rfl .none rfl rfl rfl rfl ?_
                        refine Walk.assign .none rfl rfl ?_
                        refine Walk.store ty54 .none rfl rfl rfl rfl rfl rfl (by simp) rfl ?_
                        refine ⟨trivial, ?_⟩
                        refine CWp.seq ?_
                        refine CWp.drawn mixed rfl ?_
                        refine Walk.move .none rfl rfl ?_
                        refine Walk.move .none rfl rfl ?_
                        refine Walk.move .none rfl rfl ?_
                        refine Walk.idx sl24 .none rfl rfl rfl rfl (at_nth (by omega)) rfl ?_
                        refine Walk.loadPA ty38 .none rfl rfl rfl rfl ?_
                        refine Walk.loadBA ty54 .none rfl rfl rfl rfl ?_
                        refine Walk.move .none rfl rfl ?_
                        refine Walk.addI .none rfl rfl rfl (by first | (constructor <;> omega) | (constructor <;> simp [Val.cs_len] <;> omega)) ?_
                        refine Walk.move .none rfl rfl ?_
                        refine Walk.move .none rfl rfl ?_
                        refine Walk.call (cr := []) cal103 (impl_valueScan_fn hw n (a := (nth (argsOf w ⟨e, k⟩ v.ctor) x.1).data) (k := (nth (argsOf w ⟨e, k⟩ v.ctor) x.1).index) (c := x.2) (by omega) (by omega) (argsOf_in hw hlt (k := k) (place_of (k := k) (c := v.ctor) hv.2) (nth_mem (by omega))) (Vals.ok_mem hok.2 _ (nth_mem (by omega))) (by omega) (by omega)) rfl .none rfl rfl (LeL.refl _) ⟨rfl, trivial⟩ rfl rfl rfl ?_
                        refine Walk.not .none rfl rfl ?_
                        refine ⟨by show _ = _; kernel_rfl, ?_⟩
                        refine CWp.cond rfl (fun h11 => ?_) (fun h11 => ?_)
                        · have h11p := h11; have h11s := h11; try simp only [q1, q2, q5] at h11s
                          try simp only [q1, q2, q3, q4, q5, q6, q7, q8, Val.cs_len, Ty.eta] at h11p
                          refine CWp.seq ?_
                          refine CWp.region rfl ?_
                          refine Walk.assign .none rfl rfl ?_
                          refine ⟨trivial, ?_⟩
                          refine CWp.ret ?_
                          refine ⟨_, _, [(950, some (.box [.d (.i (scanL (scanV w n) (argsOf w ⟨e, k⟩ v.ctor) v.kids (c + 1)).2)]))], (.cons (.tmp rfl) .nil), (.eqd ?_), ⟨rfl, rfl⟩, (SubO.get ⟨.inr (by first | (obtain ⟨h1, h2, h3, h4⟩ := hg1; show some (Res.box _) = some (Res.box _); rw [← h2, scanL_end (by simp [Val.cs_len] at *; omega)]) | (obtain ⟨h1, h2, h3, h4⟩ := hg1; show some (Res.box _) = some (Res.box _); rw [← h2, scanL_stop (by simp [Val.cs_len] at *; omega) hlen (by simp_all)])), ⟨.inl rfl, trivial⟩⟩), (boxOK rfl)⟩
                          all_goals (refine congrArg D.bool ?_; first | (obtain ⟨h1, h2, h3, h4⟩ := hg1; rw [← h2, scanL_end (by simp [Val.cs_len] at *; omega)]) | (obtain ⟨h1, h2, h3, h4⟩ := hg1; rw [← h2, scanL_stop (by simp [Val.cs_len] at *; omega) hlen (by simp_all)]))
                        · have h11p := h11; have h11s := h11; try simp only [q1, q2, q5] at h11s
                          try simp only [q1, q2, q3, q4, q5, q6, q7, q8, Val.cs_len, Ty.eta] at h11p
                          refine CWp.skip ?_
                          refine CWp.region rfl ?_
                          refine Walk.addI .none rfl rfl rfl (by first | (constructor <;> omega) | (constructor <;> simp [Val.cs_len] <;> omega)) ?_
                          refine Walk.move .none rfl rfl ?_
                          refine ⟨trivial, ?_⟩
                          refine ⟨(x.1 + 1, (scanV w n (nth (argsOf w ⟨e, k⟩ v.ctor) x.1) (nth v.kids x.1) x.2).2), (by
                                     have hz : (scanV w n (nth (argsOf w ⟨e, k⟩ v.ctor) x.1) (nth v.kids x.1) x.2).1 = true := by simp_all
                                     have hb := scanV_bd w n _ _ _ hz
                                     obtain ⟨h1, h2, h3, h4⟩ := hg1
                                     refine ⟨by dsimp only; omega, ?_, by dsimp only; omega, by dsimp only; omega⟩
                                     rw [← h2, scanL_next (i := x.1) (by omega) hlen hz]), (by dsimp only; omega), Sub.x (by kernel_rfl) (by kernel_rfl) ⟨⟨_, rfl, (LeA.eqi (by first | rfl | (simp; done) | (dsimp only; omega)))⟩, trivial⟩ (by kernel_rfl) (by kernel_rfl) ⟨(by first | rfl | (simp [getH]; done)), trivial⟩⟩
                      · have h10p := h10; have h10s := h10; try simp only [q1, q2, q5] at h10s
                        try simp only [q1, q2, q3, q4, q5, q6, q7, q8, Val.cs_len, Ty.eta] at h10p
                        refine CWp.exit ?_
                        refine CWp.seq ?_
                        refine CWp.region rfl ?_
                        refine Walk.assign .none rfl rfl ?_
                        refine ⟨trivial, ?_⟩
                        refine CWp.ret ?_
                        refine ⟨_, _, [(950, some (.box [.d (.i (scanL (scanV w n) (argsOf w ⟨e, k⟩ v.ctor) v.kids (c + 1)).2)]))], (.cons (.tmp rfl) .nil), (.eqd ?_), ⟨rfl, rfl⟩, (SubO.get ⟨.inr (by first | (obtain ⟨h1, h2, h3, h4⟩ := hg1; show some (Res.box _) = some (Res.box _); rw [← h2, scanL_end (by simp [Val.cs_len] at *; omega)]) | (obtain ⟨h1, h2, h3, h4⟩ := hg1; show some (Res.box _) = some (Res.box _); rw [← h2, scanL_stop (by simp [Val.cs_len] at *; omega) hlen (by simp_all)])), ⟨.inl rfl, trivial⟩⟩), (boxOK rfl)⟩
                        all_goals (refine congrArg D.bool ?_; first | (obtain ⟨h1, h2, h3, h4⟩ := hg1; rw [← h2, scanL_end (by simp [Val.cs_len] at *; omega)]) | (obtain ⟨h1, h2, h3, h4⟩ := hg1; rw [← h2, scanL_stop (by simp [Val.cs_len] at *; omega) hlen (by simp_all)]))
      · have hsc : scanV w (n + 1) ⟨e, k⟩ v c = (false, c + 1) := by
          conv => lhs; unfold scanV
          rw [if_neg h60, if_neg hdn, if_pos hv, if_neg hlen]
        rw [hsc]
        refine Fn.body (fn := Try.f103) (n := 108) rfl rfl rfl rfl rfl (fun w0 F0 own kept hk => ?_)
        refine CWp.seq ?_
        refine CWp.region rfl ?_
        refine Walk.box (id := 3007) .none rfl rfl rfl rfl rfl rfl rfl ?_
        refine Walk.box (id := 3008) .none rfl rfl rfl rfl rfl rfl rfl ?_
        refine Walk.assign .none rfl rfl ?_
        refine ⟨trivial, ?_⟩
        refine CWp.seq ?_
        refine CWp.region rfl ?_
        refine Walk.move .none rfl rfl ?_
        refine Walk.nilCheck (.inl ⟨_, _, rfl⟩) .none rfl rfl ?_
        refine Walk.loadB ty3 .none rfl rfl rfl rfl ?_
        refine Walk.addI .none rfl rfl rfl (by first | (constructor <;> omega) | (constructor <;> simp <;> omega)) ?_
        refine Walk.nilCheck (.inl ⟨_, _, rfl⟩) .none rfl rfl ?_
        refine Walk.store ty3 .none rfl rfl rfl rfl rfl rfl (by simp) rfl ?_
        refine ⟨trivial, ?_⟩
        refine CWp.seq ?_
        refine CWp.seq ?_
        refine CWp.region rfl ?_
        refine Walk.move .none rfl rfl ?_
        refine Walk.nilCheck (.inl ⟨_, _, rfl⟩) .none rfl rfl ?_
        refine Walk.loadB ty3 .none rfl rfl rfl rfl ?_
        refine Walk.gtI .none rfl rfl rfl ?_
        refine Walk.move .none rfl rfl ?_
        refine Walk.split (e := 25) rfl (fun h1 => ?_) (fun h1 => ?_)
        · have h1p := h1; have h1s := h1; try simp only [q1, q2, q5] at h1s
          try simp only [q1, q2, q3, q4, q5, q6, q7, q8, Val.cs_len] at h1p
          refine Walk.pass rfl rfl rfl h1 rfl rfl ?_
          refine Walk.pass rfl rfl rfl h1 rfl rfl ?_
          refine Walk.pickT .none rfl rfl h1 rfl ?_
          refine ⟨trivial, ?_⟩
          refine CWp.cond rfl (fun h2 => ?_) (fun h2 => ?_)
          · have h2p := h2; have h2s := h2; try simp only [q1, q2, q5] at h2s
            try simp only [q1, q2, q3, q4, q5, q6, q7, q8, Val.cs_len] at h2p
            exfalso; simp at *; omega --stop
          · exact absurd h2 (by simp)
        · have h1p := h1; have h1s := h1; try simp only [q1, q2, q5] at h1s
          try simp only [q1, q2, q3, q4, q5, q6, q7, q8, Val.cs_len] at h1p
          refine Walk.move (.some rfl rfl h1) rfl rfl ?_
          refine Walk.gtI (.some rfl rfl h1) rfl rfl rfl ?_
          refine Walk.pickF .none rfl rfl h1 rfl ?_
          refine ⟨trivial, ?_⟩
          refine CWp.cond rfl (fun h3 => ?_) (fun h3 => ?_)
          · have h3p := h3; have h3s := h3; try simp only [q1, q2, q5] at h3s
            try simp only [q1, q2, q3, q4, q5, q6, q7, q8, Val.cs_len] at h3p
            exfalso; simp at *; omega --stop
          · have h3p := h3; have h3s := h3; try simp only [q1, q2, q5] at h3s
            try simp only [q1, q2, q3, q4, q5, q6, q7, q8, Val.cs_len] at h3p
            refine CWp.skip ?_
            refine CWp.seq ?_
            refine CWp.block ?_
            refine CWp.seq ?_
            refine CWp.region rfl ?_
            refine Walk.move .none rfl rfl ?_
            refine Walk.move .none rfl rfl ?_
            refine Walk.pass rfl rfl rfl rfl rfl rfl ?_
            refine Walk.pass rfl rfl rfl rfl rfl rfl ?_
            refine Walk.pass rfl rfl rfl rfl rfl rfl ?_
            refine Walk.pickF .none rfl rfl rfl rfl ?_
            refine Walk.assign .none rfl rfl ?_
            refine ⟨trivial, ?_⟩
            refine CWp.cond rfl (fun h4 => ?_) (fun h4 => ?_)
            · exact absurd h4 (by simp)
            · have h4p := h4; have h4s := h4; try simp only [q1, q2, q5] at h4s
              try simp only [q1, q2, q3, q4, q5, q6, q7, q8, Val.cs_len] at h4p
              refine CWp.seq ?_
              refine CWp.region rfl ?_
              refine Walk.fieldB fd38_0 .none rfl rfl ?_
              refine Walk.loadB ty3 .none rfl rfl rfl rfl ?_
              refine Walk.eqI .none rfl rfl rfl ?_
              refine Walk.assign .none rfl rfl ?_
              refine ⟨trivial, ?_⟩
              refine CWp.cond rfl (fun h5 => ?_) (fun h5 => ?_)
              · have h5p := h5; have h5s := h5; try simp only [q1, q2, q5] at h5s
                try simp only [q1, q2, q3, q4, q5, q6, q7, q8, Val.cs_len] at h5p
                exfalso; simp at * <;> omega --stop
              · have h5p := h5; have h5s := h5; try simp only [q1, q2, q5] at h5s
                try simp only [q1, q2, q3, q4, q5, q6, q7, q8, Val.cs_len] at h5p
                refine CWp.seq ?_
                refine CWp.drawn mixed rfl ?_
                refine Walk.fieldB fd54_1 .none rfl rfl ?_
                refine Walk.loadB ty3 .none rfl rfl rfl rfl ?_
                refine Walk.neI .none rfl rfl rfl ?_
                refine Walk.move .none rfl rfl ?_
                refine Walk.split (e := 67) rfl (fun h6 => ?_) (fun h6 => ?_)
                · have h6p := h6; have h6s := h6; try simp only [q1, q2, q5] at h6s
                  try simp only [q1, q2, q3, q4, q5, q6, q7, q8, Val.cs_len] at h6p
                  refine Walk.pass rfl rfl rfl h6 rfl rfl ?_
                  refine Walk.pass rfl rfl rfl h6 rfl rfl ?_
                  refine Walk.pass rfl rfl rfl h6 rfl rfl ?_
                  refine Walk.pass rfl rfl rfl h6 rfl rfl ?_
                  refine Walk.pass rfl rfl rfl h6 rfl rfl ?_
                  refine Walk.pass rfl rfl rfl h6 rfl rfl ?_
                  refine Walk.pass rfl rfl rfl h6 rfl rfl ?_
                  refine Walk.pickT .none rfl rfl h6 rfl ?_
                  refine Walk.assign .none rfl rfl ?_
                  refine ⟨by show _ = _; kernel_rfl, ?_⟩
                  refine CWp.cond rfl (fun h7 => ?_) (fun h7 => ?_)
                  · have h7p := h7; have h7s := h7; try simp only [q1, q2, q5] at h7s
                    try simp only [q1, q2, q3, q4, q5, q6, q7, q8, Val.cs_len] at h7p
                    exfalso; have e1 := hv.1; have e2 := hv.2; simp_all --stop
                  · exact absurd h7 (by simp)
                · have h6p := h6; have h6s := h6; try simp only [q1, q2, q5] at h6s
                  try simp only [q1, q2, q3, q4, q5, q6, q7, q8, Val.cs_len] at h6p
                  refine Walk.move (.some rfl rfl h6) rfl rfl ?_
                  refine Walk.loadBA ty38 (.some rfl rfl h6) rfl rfl rfl rfl ?_
                  refine Walk.call (cr := []) cal123 (impl_ctorsOf_in hw hlt) rfl (.some rfl rfl h6) rfl rfl (LeL.refl _) trivial rfl rfl rfl ?_
                  refine Walk.fieldB fd54_0 (.some rfl rfl h6) rfl rfl ?_
                  refine Walk.loadB ty3 (.some rfl rfl h6) rfl rfl rfl rfl ?_
                  refine Walk.call (cr := []) cal129 (slices_Contains_int_fn hcl) rfl (.some rfl rfl h6) rfl rfl (LeL.refl _) trivial rfl rfl rfl ?_
                  refine Walk.not (.some rfl rfl h6) rfl rfl ?_
                  refine Walk.pickF .none rfl rfl h6 rfl ?_
                  refine Walk.assign .none rfl rfl ?_
                  refine ⟨by show _ = _; kernel_rfl, ?_⟩
                  refine CWp.cond rfl (fun h8 => ?_) (fun h8 => ?_)
                  · have h8p := h8; have h8s := h8; try simp only [q1, q2, q5] at h8s
                    try simp only [q1, q2, q3, q4, q5, q6, q7, q8, Val.cs_len] at h8p
                    exfalso; have e1 := hv.1; have e2 := hv.2; simp_all --stop
                  · have h8p := h8; have h8s := h8; try simp only [q1, q2, q5] at h8s
                    try simp only [q1, q2, q3, q4, q5, q6, q7, q8, Val.cs_len] at h8p
                    refine CWp.skip ?_
                    refine CWp.seq ?_
                    refine CWp.region rfl ?_
                    refine Walk.move .none rfl rfl ?_
                    refine Walk.loadBA ty38 .none rfl rfl rfl rfl ?_
                    refine Walk.fieldB fd54_0 .none rfl rfl ?_
                    refine Walk.loadB ty3 .none rfl rfl rfl rfl ?_
                    refine Walk.call (cr := []) cal124 (impl_argTypes_in hw hlt (place_of (k := k) (c := v.ctor) hv.2)) rfl .none rfl rfl (LeL.refl _) trivial rfl rfl rfl ?_
                    refine Walk.assign .none rfl rfl ?_
                    refine ⟨trivial, ?_⟩
                    refine CWp.seq ?_
                    refine CWp.seq ?_
                    refine CWp.region rfl ?_
                    refine Walk.move .none rfl rfl ?_
                    refine Walk.len sl24 .none rfl rfl ?_
                    refine Walk.fieldB fd54_2 .none rfl rfl ?_
                    refine Walk.loadB ty52 .none rfl rfl rfl rfl ?_
                    refine Walk.len sl52 .none rfl rfl ?_
                    refine Walk.neI .none rfl rfl rfl ?_
                    refine ⟨trivial, ?_⟩
                    refine CWp.cond rfl (fun h9 => ?_) (fun h9 => ?_)
                    · have h9p := h9; have h9s := h9; try simp only [q1, q2, q5] at h9s
                      try simp only [q1, q2, q3, q4, q5, q6, q7, q8, Val.cs_len] at h9p
                      refine CWp.seq ?_
                      refine CWp.region rfl ?_
                      refine Walk.assign .none rfl rfl ?_
                      refine ⟨trivial, ?_⟩
                      refine CWp.ret ?_
                      refine ⟨_, _, [(950, some (.box [.d (.i (c + 1))]))], (.cons (.tmp rfl) .nil), (.eqd ?_), ⟨rfl, rfl⟩, (SubO.get ⟨.inr (by rfl), ⟨.inl rfl, trivial⟩⟩), (boxOK rfl)⟩
                      all_goals (rfl)
                    · have h9p := h9; have h9s := h9; try simp only [q1, q2, q5] at h9s
                      try simp only [q1, q2, q3, q4, q5, q6, q7, q8, Val.cs_len] at h9p
                      exfalso; simp [Val.cs_len] at h9; omega --stop
    · have hsc : scanV w (n + 1) ⟨e, k⟩ v c = (false, c + 1) := by
        conv => lhs; unfold scanV
        rw [if_neg h60, if_neg hdn, if_neg hv]
      rw [hsc]
      refine Fn.body (fn := Try.f103) (n := 108) rfl rfl rfl rfl rfl (fun w0 F0 own kept hk => ?_)
      refine CWp.seq ?_
      refine CWp.region rfl ?_
      refine Walk.box (id := 3007) .none rfl rfl rfl rfl rfl rfl rfl ?_
      refine Walk.box (id := 3008) .none rfl rfl rfl rfl rfl rfl rfl ?_
      refine Walk.assign .none rfl rfl ?_
      refine ⟨trivial, ?_⟩
      refine CWp.seq ?_
      refine CWp.region rfl ?_
      refine Walk.move .none rfl rfl ?_
      refine Walk.nilCheck (.inl ⟨_, _, rfl⟩) .none rfl rfl ?_
      refine Walk.loadB ty3 .none rfl rfl rfl rfl ?_
      refine Walk.addI .none rfl rfl rfl (by first | (constructor <;> omega) | (constructor <;> simp <;> omega)) ?_
      refine Walk.nilCheck (.inl ⟨_, _, rfl⟩) .none rfl rfl ?_
      refine Walk.store ty3 .none rfl rfl rfl rfl rfl rfl (by simp) rfl ?_
      refine ⟨trivial, ?_⟩
      refine CWp.seq ?_
      refine CWp.seq ?_
      refine CWp.region rfl ?_
      refine Walk.move .none rfl rfl ?_
      refine Walk.nilCheck (.inl ⟨_, _, rfl⟩) .none rfl rfl ?_
      refine Walk.loadB ty3 .none rfl rfl rfl rfl ?_
      refine Walk.gtI .none rfl rfl rfl ?_
      refine Walk.move .none rfl rfl ?_
      refine Walk.split (e := 25) rfl (fun h1 => ?_) (fun h1 => ?_)
      · have h1p := h1; have h1s := h1; try simp only [q1, q2, q5] at h1s
        try simp only [q1, q2, q3, q4, q5, q6, q7, q8] at h1p
        refine Walk.pass rfl rfl rfl h1 rfl rfl ?_
        refine Walk.pass rfl rfl rfl h1 rfl rfl ?_
        refine Walk.pickT .none rfl rfl h1 rfl ?_
        refine ⟨trivial, ?_⟩
        refine CWp.cond rfl (fun h2 => ?_) (fun h2 => ?_)
        · have h2p := h2; have h2s := h2; try simp only [q1, q2, q5] at h2s
          try simp only [q1, q2, q3, q4, q5, q6, q7, q8] at h2p
          exfalso; simp at *; omega --stop
        · exact absurd h2 (by simp)
      · have h1p := h1; have h1s := h1; try simp only [q1, q2, q5] at h1s
        try simp only [q1, q2, q3, q4, q5, q6, q7, q8] at h1p
        refine Walk.move (.some rfl rfl h1) rfl rfl ?_
        refine Walk.gtI (.some rfl rfl h1) rfl rfl rfl ?_
        refine Walk.pickF .none rfl rfl h1 rfl ?_
        refine ⟨trivial, ?_⟩
        refine CWp.cond rfl (fun h3 => ?_) (fun h3 => ?_)
        · have h3p := h3; have h3s := h3; try simp only [q1, q2, q5] at h3s
          try simp only [q1, q2, q3, q4, q5, q6, q7, q8] at h3p
          exfalso; simp at *; omega --stop
        · have h3p := h3; have h3s := h3; try simp only [q1, q2, q5] at h3s
          try simp only [q1, q2, q3, q4, q5, q6, q7, q8] at h3p
          refine CWp.skip ?_
          refine CWp.seq ?_
          refine CWp.block ?_
          refine CWp.seq ?_
          refine CWp.region rfl ?_
          refine Walk.move .none rfl rfl ?_
          refine Walk.move .none rfl rfl ?_
          refine Walk.pass rfl rfl rfl rfl rfl rfl ?_
          refine Walk.pass rfl rfl rfl rfl rfl rfl ?_
          refine Walk.pass rfl rfl rfl rfl rfl rfl ?_
          refine Walk.pickF .none rfl rfl rfl rfl ?_
          refine Walk.assign .none rfl rfl ?_
          refine ⟨trivial, ?_⟩
          refine CWp.cond rfl (fun h4 => ?_) (fun h4 => ?_)
          · exact absurd h4 (by simp)
          · have h4p := h4; have h4s := h4; try simp only [q1, q2, q5] at h4s
            try simp only [q1, q2, q3, q4, q5, q6, q7, q8] at h4p
            refine CWp.seq ?_
            refine CWp.region rfl ?_
            refine Walk.fieldB fd38_0 .none rfl rfl ?_
            refine Walk.loadB ty3 .none rfl rfl rfl rfl ?_
            refine Walk.eqI .none rfl rfl rfl ?_
            refine Walk.assign .none rfl rfl ?_
            refine ⟨trivial, ?_⟩
            refine CWp.cond rfl (fun h5 => ?_) (fun h5 => ?_)
            · have h5p := h5; have h5s := h5; try simp only [q1, q2, q5] at h5s
              try simp only [q1, q2, q3, q4, q5, q6, q7, q8] at h5p
              exfalso; simp at * <;> omega --stop
            · have h5p := h5; have h5s := h5; try simp only [q1, q2, q5] at h5s
              try simp only [q1, q2, q3, q4, q5, q6, q7, q8] at h5p
              refine CWp.seq ?_
              refine CWp.drawn mixed rfl ?_
              refine Walk.fieldB fd54_1 .none rfl rfl ?_
              refine Walk.loadB ty3 .none rfl rfl rfl rfl ?_
              refine Walk.neI .none rfl rfl rfl ?_
              refine Walk.move .none rfl rfl ?_
              refine Walk.split (e := 67) rfl (fun h6 => ?_) (fun h6 => ?_)
              · have h6p := h6; have h6s := h6; try simp only [q1, q2, q5] at h6s
                try simp only [q1, q2, q3, q4, q5, q6, q7, q8] at h6p
                refine Walk.pass rfl rfl rfl h6 rfl rfl ?_
                refine Walk.pass rfl rfl rfl h6 rfl rfl ?_
                refine Walk.pass rfl rfl rfl h6 rfl rfl ?_
                refine Walk.pass rfl rfl rfl h6 rfl rfl ?_
                refine Walk.pass rfl rfl rfl h6 rfl rfl ?_
                refine Walk.pass rfl rfl rfl h6 rfl rfl ?_
                refine Walk.pass rfl rfl rfl h6 rfl rfl ?_
                refine Walk.pickT .none rfl rfl h6 rfl ?_
                refine Walk.assign .none rfl rfl ?_
                refine ⟨by show _ = _; kernel_rfl, ?_⟩
                refine CWp.cond rfl (fun h7 => ?_) (fun h7 => ?_)
                · have h7p := h7; have h7s := h7; try simp only [q1, q2, q5] at h7s
                  try simp only [q1, q2, q3, q4, q5, q6, q7, q8] at h7p
                  refine CWp.seq ?_
                  refine CWp.region rfl ?_
                  refine Walk.assign .none rfl rfl ?_
                  refine ⟨trivial, ?_⟩
                  refine CWp.ret ?_
                  refine ⟨_, _, [(950, some (.box [.d (.i (c + 1))]))], (.cons (.tmp rfl) .nil), (.eqd ?_), ⟨rfl, rfl⟩, (SubO.get ⟨.inr (by rfl), ⟨.inl rfl, trivial⟩⟩), (boxOK rfl)⟩
                  all_goals (rfl)
                · exact absurd h7 (by simp)
              · have h6p := h6; have h6s := h6; try simp only [q1, q2, q5] at h6s
                try simp only [q1, q2, q3, q4, q5, q6, q7, q8] at h6p
                refine Walk.move (.some rfl rfl h6) rfl rfl ?_
                refine Walk.loadBA ty38 (.some rfl rfl h6) rfl rfl rfl rfl ?_
                refine Walk.call (cr := []) cal123 (impl_ctorsOf_in hw hlt) rfl (.some rfl rfl h6) rfl rfl (LeL.refl _) trivial rfl rfl rfl ?_
                refine Walk.fieldB fd54_0 (.some rfl rfl h6) rfl rfl ?_
                refine Walk.loadB ty3 (.some rfl rfl h6) rfl rfl rfl rfl ?_
                refine Walk.call (cr := []) cal129 (slices_Contains_int_fn hcl) rfl (.some rfl rfl h6) rfl rfl (LeL.refl _) trivial rfl rfl rfl ?_
                refine Walk.not (.some rfl rfl h6) rfl rfl ?_
                refine Walk.pickF .none rfl rfl h6 rfl ?_
                refine Walk.assign .none rfl rfl ?_
                refine ⟨by show _ = _; kernel_rfl, ?_⟩
                refine CWp.cond rfl (fun h8 => ?_) (fun h8 => ?_)
                · have h8p := h8; have h8s := h8; try simp only [q1, q2, q5] at h8s
                  try simp only [q1, q2, q3, q4, q5, q6, q7, q8] at h8p
                  refine CWp.seq ?_
                  refine CWp.region rfl ?_
                  refine Walk.assign .none rfl rfl ?_
                  refine ⟨trivial, ?_⟩
                  refine CWp.ret ?_
                  refine ⟨_, _, [(950, some (.box [.d (.i (c + 1))]))], (.cons (.tmp rfl) .nil), (.eqd ?_), ⟨rfl, rfl⟩, (SubO.get ⟨.inr (by rfl), ⟨.inl rfl, trivial⟩⟩), (boxOK rfl)⟩
                  all_goals (rfl)
                · have h8p := h8; have h8s := h8; try simp only [q1, q2, q5] at h8s
                  try simp only [q1, q2, q3, q4, q5, q6, q7, q8] at h8p
                  exfalso; simp_all --stop

theorem impl_valueOk_fn {w : List Data} (hw : WT w) {a k : Int} {v : Val} (ht : TyIn w.length ⟨a, k⟩) (hok : v.ok) :
    FnD Try.prog 67 [.d (encDatas w), .agg [.d (.i a), .d (.i k)], .agg [.d (.i v.ctor), .d (.i v.num), .d (encVals v.kids)]] [] (.d (.bool (isV w ⟨a, k⟩ v))) [] := by
  have hz := (scanV_eq w 10 ⟨a, k⟩ v 0).1
  rw [Int.zero_add] at hz
  refine Fn.body (fn := Try.f67) (n := 12) rfl rfl rfl rfl rfl (fun w0 F0 own kept hk => ?_)
  refine CWp.seq ?_
  refine CWp.region rfl ?_
  refine Walk.box (id := 3004) .none rfl rfl rfl rfl rfl rfl rfl ?_
  refine Walk.box (id := 3005) .none rfl rfl rfl rfl rfl rfl rfl ?_
  refine Walk.assign .none rfl rfl ?_
  refine ⟨trivial, ?_⟩
  refine CWp.seq ?_
  refine CWp.region rfl ?_
  refine Walk.alloc (id := 950) tz3 rfl .none rfl rfl rfl rfl ?_
  refine Walk.store ty3 .none rfl rfl rfl rfl rfl rfl (by simp) rfl ?_
  refine ⟨trivial, ?_⟩
  refine CWp.seq ?_
  refine CWp.region rfl ?_
  refine Walk.move .none rfl rfl ?_
  refine Walk.loadBA ty38 .none rfl rfl rfl rfl ?_
  refine Walk.loadBA ty54 .none rfl rfl rfl rfl ?_
  refine Walk.call (cr := []) cal103 (impl_valueScan_fn hw 10 (c := 0) (by omega) (by omega) ht hok (by omega) (by omega)) rfl .none rfl rfl (LeL.refl _) ⟨rfl, trivial⟩ rfl rfl rfl ?_
  refine Walk.assign .none rfl rfl ?_
  refine ⟨trivial, ?_⟩
  refine CWp.ret ?_
  refine ⟨_, _, [], (.cons (.tmp rfl) .nil), (.eqd ?_), ⟨rfl, rfl⟩, HSub.nil, noBox⟩
  all_goals (rw [hz]; rfl)

end Go.Proofs.Ytadpcmcifbakoaa
