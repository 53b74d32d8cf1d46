/-
  WALKS: the laws' measures, copies, comparisons and marks of a recursive type: Pat.
-/
import Derived.Test.YtadpcmcifbakoaaF12
import Derived.Test.YtadpcmcifbakoaaF5
import Derived.Test.YtadpcmcifbakoaaAmY
namespace Go.Proofs.Ytadpcmcifbakoaa
open Go
set_option linter.unusedSimpArgs false
set_option linter.unusedVariables false
set_option maxRecDepth 100000
set_option maxHeartbeats 2000000
def Pat.op : Pat → Int | .mk a0 _ _ _ _ _ => a0
def Pat.ctor : Pat → Int | .mk _ a1 _ _ _ _ => a1
def Pat.n : Pat → Int | .mk _ _ a2 _ _ _ => a2
def Pat.m : Pat → Int | .mk _ _ _ a3 _ _ => a3
def Pat.var : Pat → Int | .mk _ _ _ _ a4 _ => a4
def Pat.kids : Pat → List Pat | .mk _ _ _ _ _ k => k
abbrev Pat.cc (v : Pat) : List D := [.i v.op, .i v.ctor, .i v.n, .i v.m, .i v.var, .sl (Pat.cs v.kids)]
theorem Pat.c_eq (v : Pat) : v.c = v.cc := by cases v; rfl
theorem Pat.eta (v : Pat) : Pat.mk v.op v.ctor v.n v.m v.var v.kids = v := by cases v; rfl
theorem Pat.cs_at' {pre : List Pat} {x : Pat} {rest xs : List Pat} (h : pre ++ x :: rest = xs) : (Pat.cs xs)[pre.length]? = some x.cc := by rw [Pat.cs_eq, ← Pat.c_eq]; exact zip_at h
mutual
def patEq : Pat → Pat → Bool
 | .mk a0 a1 a2 a3 a4 ks, .mk b0 b1 b2 b3 b4 ls => decide (a0 = b0) && (decide (a1 = b1) && (decide (a2 = b2) && (decide (a3 = b3) && (decide (a4 = b4) && patsEq ks ls))))
def patsEq : List Pat → List Pat → Bool
 | [], [] => true
 | x :: r, y :: s => patEq x y && patsEq r s
 | _, _ => false
end
mutual
def Pat.ok : Pat → Prop
 | .mk _ _ _ _ _ ks => ks.length ≤ 1000000000000 ∧ Pats.ok ks
def Pats.ok : List Pat → Prop
 | [] => True
 | v :: r => v.ok ∧ Pats.ok r
end
theorem Pats.ok_mem : ∀ {l : List Pat}, Pats.ok l → ∀ v, v ∈ l → v.ok
 | x :: r, h, v, hv => by
  simp only [Pats.ok] at h
  rcases List.mem_cons.1 hv with rfl | hv
  ·exact h.1
  ·exact Pats.ok_mem h.2 v hv
mutual
def Pat.size : Pat → Nat
 | .mk _ _ _ _ _ ks => 1 + Pats.size ks
def Pats.size : List Pat → Nat
 | [] => 0
 | v :: r => v.size + Pats.size r
end
theorem Pats.size_mem : ∀ {l : List Pat} {v : Pat}, v ∈ l → v.size ≤ Pats.size l
 | x :: r, v, hv => by
  simp only [Pats.size]
  rcases List.mem_cons.1 hv with rfl | hv
  ·omega
  ·have := Pats.size_mem hv; omega
theorem patsEq_len : ∀ {a b : List Pat}, a.length ≠ b.length → patsEq a b = false
 | [], [], h => by simp at h
 | [], _ :: _, _ => by simp [patsEq]
 | _ :: _, [], _ => by simp [patsEq]
 | x :: r, y :: s, h => by simp [patsEq, patsEq_len (a := r) (b := s) (by simpa using h)]
theorem pats_at {l : List Pat} {i : Nat} (h : i < l.length) : (Pat.cs l)[i]? = some (nth l i).cc := by
 rw [Pat.cs_eq, ← Pat.c_eq]; exact at_nth h
theorem Pat.ok_iff (v : Pat) : v.ok ↔ v.kids.length ≤ 1000000000000 ∧ Pats.ok v.kids := by cases v; rfl
theorem Pat.size_eq (v : Pat) : v.size = 1 + Pats.size v.kids := by cases v; rfl
theorem patEq_eq (v w : Pat) : patEq v w = (decide (v.op = w.op) && (decide (v.ctor = w.ctor) && (decide (v.n = w.n) && (decide (v.m = w.m) && (decide (v.var = w.var) && patsEq v.kids w.kids))))) := by cases v; cases w; rfl
theorem patsEq_nth_false {a b : List Pat} {i : Nat} (h : i < a.length) (h2 : patEq (nth a i) (nth b i) = false) : patsEq a b = false := by
 induction i generalizing a b with
 | zero =>
  cases a with
  | nil => simp at h
  | cons x r =>
   cases b with
   | nil => simp [patsEq]
   | cons y s => simp [nth] at h2; simp [patsEq, h2]
 | succ i ih =>
  cases a with
  | nil => simp at h
  | cons x r =>
   cases b with
   | nil => simp [patsEq]
   | cons y s => simp only [patsEq]; rw [ih (a := r) (b := s) (by simpa using h) (by simpa [nth] using h2)]; simp
theorem patsEq_nth_true {a b : List Pat} (hl : a.length = b.length) (h : ∀ i, i < a.length → patEq (nth a i) (nth b i) = true) : patsEq a b = true := by
 induction a generalizing b with
 | nil => cases b with
  | nil => simp [patsEq]
  | cons y s => simp at hl
 | cons x r ih => cases b with
  | nil => simp at hl
  | cons y s =>
   have h0 := h 0 (by simp)
   simp only [patsEq]
   rw [ih (by simpa using hl) (fun i hi => by simpa [nth] using h (i + 1) (by simpa using hi))]
   simpa [nth] using h0
mutual
theorem patEq_refl : ∀ v : Pat, patEq v v = true
 | .mk _ _ _ _ _ ks => by simp [patEq, patsEq_refl ks]
theorem patsEq_refl : ∀ l : List Pat, patsEq l l = true
 | [] => rfl
 | v :: r => by simp [patsEq, patEq_refl v, patsEq_refl r]
end
theorem own_pats_cons (m : Bool) (y : Pat) (rest : List Pat) : ownCells m (Pat.cs (y :: rest)) = .d (.i y.op) :: .d (.i y.ctor) :: .d (.i y.n) :: .d (.i y.m) :: .d (.i y.var) :: .own m (encPats y.kids) :: ownCells m (Pat.cs rest) := by
 cases y; rfl
theorem own_pats_snoc (m : Bool) (l : List Pat) (y : Pat) : ownCells m (Pat.cs (l ++ [y])) = ownCells m (Pat.cs l) ++ [.d (.i y.op), .d (.i y.ctor), .d (.i y.n), .d (.i y.m), .d (.i y.var), .own m (encPats y.kids)] := by
 rw [Pat.cs_eq, List.map_append, ← Pat.cs_eq, ownCells_append]
 congr 1
 cases y; rfl
theorem Pat.c_len (v : Pat) : v.c.length = 6 := by cases v; rfl
theorem Pat.cs_rows {l : List Pat} : ∀ x, x ∈ Pat.cs l → x.length = 6 := by
 intro x hx
 rw [Pat.cs_eq] at hx
 obtain ⟨y, _, rfl⟩ := List.mem_map.1 hx
 exact y.c_len
theorem Pat.cs_nil (l : List Pat) : Pat.cs l = [] ↔ l = [] := by rw [Pat.cs_eq]; simp
theorem own_pats_len (m : Bool) (l : List Pat) : (ownCells m (Pat.cs l)).length = l.length * 6 := by
 rw [ownCells_len (k := 6) Pat.cs_rows, Pat.cs_len]
mutual
def mPat : Pat → Nat
 | .mk _ _ _ _ _ ks => mPats ks
def mPats : List Pat → Nat
 | [] => 0
 | v :: r => 1 + mPat v + mPats r
end
theorem mPat_eq (v : Pat) : mPat v = mPats v.kids := by cases v; rfl
theorem mPats_eq : ∀ l : List Pat, mPats l = l.length + (l.map mPat).sum
 | [] => rfl
 | v :: r => by simp only [mPats, mPats_eq r, List.length_cons, List.map_cons, List.sum_cons]; omega
theorem laws_szPatternS_of {l : List Pat} {left : Int} (h : l.length ≤ 1000000000000) (k0 : 0 ≤ left) (k1 : left ≤ 1000000000000)
  (hf : ∀ v ∈ l, ∀ q : Int, 0 ≤ q → q ≤ 1000000000000 → FnD Try.prog 36 [.agg [.d (.i v.op), .d (.i v.ctor), .d (.i v.n), .d (.i v.m), .d (.i v.var), .d (encPats v.kids)], .d (.i q)] [] (.d (.i (szr q (mPat v)))) []) :
  FnD Try.prog 71 [.d (encPats l), .d (.i left)] [] (.d (.i (szr left (mPats l)))) [] := by
 have z := szr_or (left := left) (mPats l)
 rw [mPats_eq] at z ⊢
 refine Fn.body (fn := Try.f71) (n := 27) rfl rfl rfl rfl rfl (fun w0 F0 own kept hk => ?_)
 refine sr ?_
 refine asg ?_
 refine tv ?_
 refine sr ?_
 refine mv ?_
 refine mv ?_
 refine Walk.len sl63 .none rfl rfl ?_
 refine Walk.subI .none rfl rfl rfl (by first | (constructor <;> omega) | (constructor <;> simp [Pat.cs_len] <;> omega)) ?_
 refine asg ?_
 refine tv ?_
 refine CWp.seq ?_
 refine sr ?_
 refine mv ?_
 refine Walk.ltI .none rfl rfl rfl ?_
 refine tv ?_
 refine cd ?_ ?_
 ·intro h1; have ⟨h1p, h1s⟩ := dup h1; try simp only [Q5] at h1s
  try simp only [Q, Pat.cs_len] at h1p
  refine sr ?_
  refine asg ?_
  refine tv ?_
  refine CWp.ret ?_
  refine ⟨_, _, [], (.cons (.tmp rfl) .nil), (.eqd ?_), ⟨rfl, rfl⟩, HSub.nil, noBox⟩
  all_goals (refine congrArg D.i ?_; first | omega | (have e := sum_split (f := mPat) hg1.1; have z3 := szr_or (left := v) (mPat y); simp only [Pat.cs_len] at *; omega) | (rw [List.append_nil] at hg1; rw [hg1.1] at hg1; simp only [Pat.cs_len] at *; omega) | (simp only [Pat.cs_len] at *; omega))
 ·intro h1; have ⟨h1p, h1s⟩ := dup h1; try simp only [Q5] at h1s
  try simp only [Q, Pat.cs_len] at h1p
  refine CWp.skip ?_
  refine CWp.seq ?_
  refine sr ?_
  refine asg ?_
  refine tv ?_
  refine CWp.block ?_
  refine CWp.loopX (ι := List (Pat) × List (Pat) × (Int)) hk (fun x => [(5, .d (.i (x.1.length : Int))), (1, .d (.i x.2.2))]) [4, 12, 13, 14, 15, 16, 17, 18, 19, 20, 21, 22, 23, 24, 25] (fun x => []) (fun x => x.1 ++ x.2.1 = l ∧ x.2.2 = left - l.length - (x.1.map mPat).sum ∧ 0 ≤ x.2.2) (fun x => x.2.1.length) ([], l, left - l.length) ⟨by simp, by simp, by simp [Pat.cs_len] at *; omega⟩ ⟨⟨_, rfl, (LeA.eqi (by first | rfl | (simp; done) | (simp [Pat.cs_len]; done)))⟩, ⟨⟨_, rfl, (LeA.eqi (by first | rfl | (simp; done) | (simp [Pat.cs_len]; done)))⟩, trivial⟩⟩ trivial (fun x => rfl) (fun x hg1 => ?_)
  obtain ⟨pre, rest, v⟩ := x
  dsimp only at hg1 ⊢
  refine CWp.seq ?_
  refine sr ?_
  refine mv ?_
  refine mv ?_
  refine Walk.len sl63 .none rfl rfl ?_
  refine Walk.ltI .none rfl rfl rfl ?_
  refine tv ?_
  refine cd ?_ ?_
  ·intro h2; have ⟨h2p, h2s⟩ := dup h2; try simp only [Q5] at h2s
   try simp only [Q, Pat.cs_len] at h2p
   rcases rest with _ | ⟨y, rest⟩
   ·exfalso; simp_all
   refine CWp.skip ?_
   refine CWp.seq ?_
   refine CWp.block ?_
   refine sr ?_
   refine mv ?_
   refine mv ?_
   refine Walk.idx sl63 .none rfl rfl rfl rfl (Pat.cs_at' hg1.1) rfl ?_
   refine Walk.loadPA ty65 .none rfl rfl rfl rfl ?_
   refine mv ?_
   refine Walk.call (cr := []) cal36 (hf y (by rw [← hg1.1]; simp) _ (by omega) (by omega)) rfl .none rfl rfl (LeL.refl _) trivial rfl rfl rfl ?_
   refine asg ?_
   refine tv ?_
   refine sr ?_
   refine mv ?_
   refine Walk.ltI .none rfl rfl rfl ?_
   refine tv ?_
   refine cd ?_ ?_
   ·intro h3; have ⟨h3p, h3s⟩ := dup h3; try simp only [Q5] at h3s
    try simp only [Q, Pat.cs_len] at h3p
    refine sr ?_
    refine asg ?_
    refine tv ?_
    refine CWp.ret ?_
    refine ⟨_, _, [], (.cons (.tmp rfl) .nil), (.eqd ?_), ⟨rfl, rfl⟩, HSub.nil, noBox⟩
    all_goals (refine congrArg D.i ?_; first | omega | (have e := sum_split (f := mPat) hg1.1; have z3 := szr_or (left := v) (mPat y); simp only [Pat.cs_len] at *; omega) | (rw [List.append_nil] at hg1; rw [hg1.1] at hg1; simp only [Pat.cs_len] at *; omega) | (simp only [Pat.cs_len] at *; omega))
   ·intro h3; have ⟨h3p, h3s⟩ := dup h3; try simp only [Q5] at h3s
    try simp only [Q, Pat.cs_len] at h3p
    refine CWp.skip ?_
    refine CWp.region rfl ?_
    refine mv ?_
    refine Walk.addI .none rfl rfl rfl (by first | (constructor <;> omega) | (constructor <;> simp [Pat.cs_len] <;> omega)) ?_
    refine asg ?_
    refine tv ?_
    refine ⟨(pre ++ [y], rest, szr v (mPat y)), ⟨(by have hz := hg1.1; rw [← hz]; simp), (by have e := sum_split (f := mPat) hg1.1; have z3 := szr_or (left := v) (mPat y); simp; omega)⟩, (by simp), Sub.x (by kernel_rfl) (by kernel_rfl) ⟨⟨_, rfl, (LeA.eqi (by first | rfl | (simp; done) | (simp [Pat.cs_len]; done)))⟩, ⟨⟨_, rfl, (LeA.eqi (by first | rfl | (simp; done) | (simp [Pat.cs_len]; done)))⟩, trivial⟩⟩ (by kernel_rfl) (by kernel_rfl) trivial⟩
  ·intro h2; have ⟨h2p, h2s⟩ := dup h2; try simp only [Q5] at h2s
   try simp only [Q, Pat.cs_len] at h2p
   have hrest : rest = [] := by
    rcases rest with _ | ⟨a, b⟩
    ·rfl
    ·exfalso; have hz := congrArg List.length (hg1.1); simp only [List.length_append, List.length_cons, List.length_map] at hz; omega
   subst hrest
   refine CWp.exit ?_
   refine sr ?_
   refine mv ?_
   refine asg ?_
   refine tv ?_
   refine CWp.ret ?_
   refine ⟨_, _, [], (.cons (.tmp rfl) .nil), (.eqd ?_), ⟨rfl, rfl⟩, HSub.nil, noBox⟩
   all_goals (refine congrArg D.i ?_; first | omega | (have e := sum_split (f := mPat) hg1.1; have z3 := szr_or (left := v) (mPat y); simp only [Pat.cs_len] at *; omega) | (rw [List.append_nil] at hg1; rw [hg1.1] at hg1; simp only [Pat.cs_len] at *; omega) | (simp only [Pat.cs_len] at *; omega))
theorem laws_szPattern_fn : ∀ (n : Nat) {v : Pat} {left : Int}, v.size ≤ n → v.ok → 0 ≤ left → left ≤ 1000000000000 → FnD Try.prog 36 [.agg [.d (.i v.op), .d (.i v.ctor), .d (.i v.n), .d (.i v.m), .d (.i v.var), .d (encPats v.kids)], .d (.i left)] [] (.d (.i (szr left (mPat v)))) []
 | 0, v, left, h, _, _, _ => by rw [Pat.size_eq] at h; omega
 | n + 1, v, left, h, hok, k0, k1 => by
  rw [Pat.size_eq] at h
  rw [Pat.ok_iff] at hok
  rw [mPat_eq]
  have z := szr_or (left := left) (mPats v.kids)
  refine Fn.body (fn := Try.f36) (n := 12) rfl rfl rfl rfl rfl (fun w0 F0 own kept hk => ?_)
  refine sr ?_
  refine Walk.box (id := 3002) .none rfl rfl rfl rfl rfl rfl rfl ?_
  refine asg ?_
  refine tv ?_
  refine sr ?_
  refine Walk.fieldB fd65_5 .none rfl rfl ?_
  refine Walk.loadB ty63 .none rfl rfl rfl rfl ?_
  refine mv ?_
  refine Walk.call (cr := []) cal71 (laws_szPatternS_of hok.1 k0 k1 (fun x hx q q0 q1 => laws_szPattern_fn n (by have := Pats.size_mem hx; omega) (Pats.ok_mem hok.2 x hx) q0 q1)) rfl .none rfl rfl (LeL.refl _) trivial rfl rfl rfl ?_
  refine asg ?_
  refine tv ?_
  refine CWp.seq ?_
  refine sr ?_
  refine mv ?_
  refine Walk.ltI .none rfl rfl rfl ?_
  refine tv ?_
  refine cd ?_ ?_
  ·intro h1; have ⟨h1p, h1s⟩ := dup h1; try simp only [Q5] at h1s
   try simp only [Q] at h1p
   refine sr ?_
   refine asg ?_
   refine tv ?_
   refine CWp.ret ?_
   refine ⟨_, _, [], (.cons (.tmp rfl) .nil), (.eqd ?_), ⟨rfl, rfl⟩, HSub.nil, noBox⟩
   all_goals (refine congrArg D.i ?_; omega)
  ·intro h1; have ⟨h1p, h1s⟩ := dup h1; try simp only [Q5] at h1s
   try simp only [Q] at h1p
   refine CWp.skip ?_
   refine sr ?_
   refine mv ?_
   refine asg ?_
   refine tv ?_
   refine CWp.ret ?_
   refine ⟨_, _, [], (.cons (.tmp rfl) .nil), (.eqd ?_), ⟨rfl, rfl⟩, HSub.nil, noBox⟩
   all_goals (refine congrArg D.i ?_; omega)
theorem laws_szPatternS_fn {l : List Pat} {left : Int} (h : l.length ≤ 1000000000000) (hok : Pats.ok l) (k0 : 0 ≤ left) (k1 : left ≤ 1000000000000) :
  FnD Try.prog 71 [.d (encPats l), .d (.i left)] [] (.d (.i (szr left (mPats l)))) [] :=
 laws_szPatternS_of h k0 k1 (fun x hx q q0 q1 => laws_szPattern_fn _ (Nat.le_refl _) (Pats.ok_mem hok x hx) q0 q1)
theorem laws_toPatternS_of {l : List Pat} (h : l.length ≤ 1000000000000)
  (hf : ∀ v ∈ l, FnD Try.prog 38 [.agg [.d (.i v.op), .d (.i v.ctor), .d (.i v.n), .d (.i v.m), .d (.i v.var), .d (encPats v.kids)]] [] (.agg [.d (.i v.op), .d (.i v.ctor), .d (.i v.n), .d (.i v.m), .d (.i v.var), .ms 66 v.kids.length]) [(66, some (.tree (ownCells false (Pat.cs v.kids))))]) :
  FnD Try.prog 73 [.d (encPats l)] [] (.ms 66 l.length) [(66, some (.tree (ownCells false (Pat.cs l))))] := by
 have hf2 : ∀ v ∈ l, FnD Try.prog 38 [.agg [.d (.i v.op), .d (.i v.ctor), .d (.i v.n), .d (.i v.m), .d (.i v.var), .d (encPats v.kids)]] [] (.agg [.d (.i v.op), .d (.i v.ctor), .d (.i v.n), .d (.i v.m), .d (.i v.var), .ms 67 v.kids.length]) [(67, some (.tree (ownCells false (Pat.cs v.kids))))] := fun v hv => FnD.out_ren (ownCells_ids _ _) rfl (hf v hv) 67
 refine Fn.body (fn := Try.f73) (n := 23) rfl rfl rfl rfl rfl (fun w0 F0 own kept hk => ?_)
 refine sr ?_
 refine asg ?_
 refine tv ?_
 refine sr ?_
 refine mv ?_
 refine Walk.len sl63 .none rfl rfl ?_
 refine Walk.make (id := 66) sl68 tz70 rfl (by decide) (zerosA_ids rfl) .none rfl rfl rfl (by simp [Pat.cs_len]; omega) (by simp [Pat.cs_len]; omega) rfl rfl rfl ?_
 refine asg ?_
 refine tv ?_
 refine CWp.seq ?_
 refine CWp.seq ?_
 refine CWp.boxTree 66 false rfl (zerosA_map _ _ _) ?_
 refine CWp.region rfl ?_
 refine asg ?_
 refine tv ?_
 refine CWp.block ?_
 refine CWp.loopX (ι := List (Pat) × List (Pat)) hk (fun x => [(4, .d (.i (x.1.length : Int)))]) [8, 9, 10, 11, 12, 13, 14, 15, 16, 17, 18, 19, 20, 21] (fun x => [(66, some (.tree (ownCells false (Pat.cs x.1) ++ zerosA x.2.length [.d (.i 0), .d (.i 0), .d (.i 0), .d (.i 0), .d (.i 0), .own false (.sl [])])))]) (fun x => x.1 ++ x.2 = l) (fun x => x.2.length) ([], l) (by simp) ⟨⟨_, rfl, (LeA.eqi (by first | rfl | (simp; done) | (simp_all; done) | omega))⟩, trivial⟩ ⟨(by first | rfl | (show some (Res.tree _) = some (Res.tree _); rw [own_pats_snoc, List.append_assoc]; rfl) | (show some (Res.tree _) = some (Res.tree _); simp [ownCells_nil, Pat.cs_len]; rfl)), trivial⟩ (fun x => rfl) (fun x hg1 => ?_)
 obtain ⟨pre, rest⟩ := x
 dsimp only at hg1 ⊢
 refine CWp.seq ?_
 refine sr ?_
 refine mv ?_
 refine mv ?_
 refine Walk.len sl63 .none rfl rfl ?_
 refine Walk.ltI .none rfl rfl rfl ?_
 refine tv ?_
 refine cd ?_ ?_
 ·intro h1; have ⟨h1p, h1s⟩ := dup h1; try simp only [Q5] at h1s
  try simp only [Q, Pat.cs_len] at h1p
  rcases rest with _ | ⟨y, rest⟩
  ·exfalso; simp_all
  refine CWp.skip ?_
  refine CWp.seq ?_
  refine CWp.block ?_
  refine CWp.region rfl ?_
  refine mv ?_
  refine mv ?_
  refine mv ?_
  refine mv ?_
  refine Walk.idx sl63 .none rfl rfl rfl rfl (Pat.cs_at' hg1) rfl ?_
  refine Walk.loadPA ty65 .none rfl rfl rfl rfl ?_
  refine Walk.call (cr := [67]) cal38 (hf2 y (by rw [← hg1]; simp)) rfl .none rfl rfl (LeL.refl _) trivial rfl (by first | rfl | (simp only [okCall, List.all_cons, List.all_nil, entOK, entOK', AV.idsL, AV.ids, idsL_append, ownCells_ids, List.map_cons, List.map_nil]; rfl)) (by first | rfl | (simp only [freshB, occH, occE, Res.ids, List.cons_append, List.nil_append, AV.idsL, AV.ids, idsL_append, ownCells_ids, zerosA_idsR, repNil, List.map_cons, List.map_nil, upC]; rfl)) ?_
  refine Walk.idxM sl68 .none rfl rfl rfl rfl (by first | omega | (simp [Pat.cs_len]; omega)) ?_
  refine Walk.storeT ty70 .none rfl rfl rfl rfl rfl rfl (by simp) ((putC_fill (own_pats_len false _) rfl)) ?_
  refine tv ?_
  refine CWp.merge hk 66 (pre.length * 6 + 5) 67 6 _ rfl (cell_off (own_pats_len false _) rfl) (by simp [mkL_len, Pat.cs_len]) rfl Pat.cs_rows rfl rfl (putC_off (own_pats_len false _) (putC_set rfl)) ?_
  refine CWp.region rfl ?_
  refine mv ?_
  refine Walk.addI .none rfl rfl rfl (by first | (constructor <;> omega) | (constructor <;> simp <;> omega)) ?_
  refine asg ?_
  refine tv ?_
  refine ⟨(pre ++ [y], rest), (by have hz := hg1; rw [← hz]; simp), (by simp), Sub.x (by kernel_rfl) (by kernel_rfl) ⟨⟨_, rfl, (LeA.eqi (by first | rfl | (simp; done) | (simp_all; done) | omega))⟩, trivial⟩ (by kernel_rfl) (by kernel_rfl) ⟨(by first | rfl | (show some (Res.tree _) = some (Res.tree _); rw [own_pats_snoc, List.append_assoc]; rfl) | (show some (Res.tree _) = some (Res.tree _); simp [ownCells_nil, Pat.cs_len]; rfl)), trivial⟩⟩
 ·intro h1; have ⟨h1p, h1s⟩ := dup h1; try simp only [Q5] at h1s
  try simp only [Q, Pat.cs_len] at h1p
  have hrest : rest = [] := by
   rcases rest with _ | ⟨a, b⟩
   ·rfl
   ·exfalso; have hz := congrArg List.length (hg1); simp only [List.length_append, List.length_cons, List.length_map] at hz; omega
  subst hrest
  refine CWp.exit ?_
  refine sr ?_
  refine mv ?_
  refine asg ?_
  refine tv ?_
  refine CWp.ret ?_
  refine ⟨_, _, [(66, some (.tree (ownCells false (Pat.cs l))))], (.cons (.tmp rfl) .nil), (LeA.msn ?_), ⟨rfl, rfl⟩, (SubH.get ⟨(by first | rfl | (rw [List.append_nil] at hg1; subst hg1; show some (Res.tree _) = some (Res.tree _); simp [zerosA]; done)), trivial⟩), (boxOK rfl)⟩
  all_goals (first | rfl | (simp [Pat.cs_len]; done))
theorem laws_toPattern_tr : ∀ (n : Nat) {v : Pat}, v.size ≤ n → v.ok → FnD Try.prog 38 [.agg [.d (.i v.op), .d (.i v.ctor), .d (.i v.n), .d (.i v.m), .d (.i v.var), .d (encPats v.kids)]] [] (.agg [.d (.i v.op), .d (.i v.ctor), .d (.i v.n), .d (.i v.m), .d (.i v.var), .ms 66 v.kids.length]) [(66, some (.tree (ownCells false (Pat.cs v.kids))))]
 | 0, v, h, _ => by rw [Pat.size_eq] at h; omega
 | n + 1, v, h, hok => by
  rw [Pat.size_eq] at h
  rw [Pat.ok_iff] at hok
  refine Fn.body (fn := Try.f38) (n := 24) rfl rfl rfl rfl rfl (fun w0 F0 own kept hk => ?_)
  refine sr ?_
  refine Walk.box (id := 3001) .none rfl rfl rfl rfl rfl rfl rfl ?_
  refine Walk.alloc (id := 3002) tz70 rfl .none rfl rfl rfl rfl ?_
  refine tv ?_
  refine sr ?_
  refine Walk.alloc (id := 3003) tz70 rfl .none rfl rfl rfl rfl ?_
  refine tv ?_
  refine sr ?_
  refine Walk.fieldB fd65_0 .none rfl rfl ?_
  refine Walk.loadB ty3 .none rfl rfl rfl rfl ?_
  refine Walk.fieldB fd70_0 .none rfl rfl ?_
  refine Walk.store ty3 .none rfl rfl rfl rfl rfl rfl (by simp) rfl ?_
  refine tv ?_
  refine sr ?_
  refine Walk.fieldB fd65_1 .none rfl rfl ?_
  refine Walk.loadB ty3 .none rfl rfl rfl rfl ?_
  refine Walk.fieldB fd70_1 .none rfl rfl ?_
  refine Walk.store ty3 .none rfl rfl rfl rfl rfl rfl (by simp) rfl ?_
  refine tv ?_
  refine sr ?_
  refine Walk.fieldB fd65_2 .none rfl rfl ?_
  refine Walk.loadB ty3 .none rfl rfl rfl rfl ?_
  refine Walk.fieldB fd70_2 .none rfl rfl ?_
  refine Walk.store ty3 .none rfl rfl rfl rfl rfl rfl (by simp) rfl ?_
  refine tv ?_
  refine sr ?_
  refine Walk.fieldB fd65_3 .none rfl rfl ?_
  refine Walk.loadB ty3 .none rfl rfl rfl rfl ?_
  refine Walk.fieldB fd70_3 .none rfl rfl ?_
  refine Walk.store ty3 .none rfl rfl rfl rfl rfl rfl (by simp) rfl ?_
  refine tv ?_
  refine sr ?_
  refine Walk.fieldB fd65_4 .none rfl rfl ?_
  refine Walk.loadB ty3 .none rfl rfl rfl rfl ?_
  refine Walk.fieldB fd70_4 .none rfl rfl ?_
  refine Walk.store ty3 .none rfl rfl rfl rfl rfl rfl (by simp) rfl ?_
  refine tv ?_
  refine sr ?_
  refine Walk.fieldB fd65_5 .none rfl rfl ?_
  refine Walk.loadB ty63 .none rfl rfl rfl rfl ?_
  refine Walk.call (cr := [66]) cal73 (laws_toPatternS_of hok.1 (fun x hx => laws_toPattern_tr n (by have := Pats.size_mem hx; omega) (Pats.ok_mem hok.2 x hx))) rfl .none rfl rfl (LeL.refl _) trivial rfl (by first | rfl | (simp only [okCall, List.all_cons, List.all_nil, entOK, entOK', AV.idsL, AV.ids, idsL_append, ownCells_ids, List.map_cons, List.map_nil]; rfl)) (by first | rfl | (simp only [freshB, occH, occE, Res.ids, List.cons_append, List.nil_append, AV.idsL, AV.ids, idsL_append, ownCells_ids, zerosA_idsR, repNil, List.map_cons, List.map_nil, upC]; rfl)) ?_
  refine Walk.fieldB fd70_5 .none rfl rfl ?_
  refine Walk.store ty68 .none rfl rfl rfl rfl rfl rfl (by simp) rfl ?_
  refine tv ?_
  refine sr ?_
  refine Walk.loadBA ty70 .none rfl rfl rfl rfl ?_
  refine Walk.store ty70 .none rfl rfl rfl rfl rfl rfl (by simp) rfl ?_
  refine tv ?_
  refine CWp.ret ?_
  refine ⟨_, _, [(66, some (.tree (ownCells false (Pat.cs v.kids))))], (.cons (.cellA ty70 rfl rfl rfl) .nil), (.agg (.cons (.eqd ?_) (.cons (.eqd ?_) (.cons (.eqd ?_) (.cons (.eqd ?_) (.cons (.eqd ?_) (.cons (LeA.msn ?_) .nil))))))), ⟨rfl, rfl⟩, (SubH.get ⟨rfl, trivial⟩), (boxOK rfl)⟩
  all_goals (first | rfl | (simp []; done) | (simp_all; done) | (simp_all; omega) | omega)
theorem laws_toPattern_fn {v : Pat} (hok : v.ok) : FnD Try.prog 38 [.agg [.d (.i v.op), .d (.i v.ctor), .d (.i v.n), .d (.i v.m), .d (.i v.var), .d (encPats v.kids)]] [] (.agg [.d (.i v.op), .d (.i v.ctor), .d (.i v.n), .d (.i v.m), .d (.i v.var), .d (encPats v.kids)]) [] :=
 FnD.out_frz (k := 6) Pat.cs_rows (by simp [soleN, soleN.soleNL, Pat.cs_len]) (laws_toPattern_tr _ (Nat.le_refl _) hok)
theorem laws_toPatternS_tr {l : List Pat} (h : l.length ≤ 1000000000000) (hok : Pats.ok l) : FnD Try.prog 73 [.d (encPats l)] [] (.ms 66 l.length) [(66, some (.tree (ownCells false (Pat.cs l))))] :=
 laws_toPatternS_of h (fun x hx => laws_toPattern_tr _ (Nat.le_refl _) (Pats.ok_mem hok x hx))
theorem laws_toPatternS_fn {l : List Pat} (h : l.length ≤ 1000000000000) (hok : Pats.ok l) : FnD Try.prog 73 [.d (encPats l)] [] (.d (encPats l)) [] :=
 FnD.out_frz (k := 6) Pat.cs_rows (by simp [soleN, Pat.cs_len]) (laws_toPatternS_tr h hok)
theorem laws_eqPatternS_of {l m : List Pat} (h : l.length ≤ 1000000000000)
  (hf : ∀ a ∈ l, ∀ b : Pat, FnD Try.prog 40 [.agg [.d (.i a.op), .d (.i a.ctor), .d (.i a.n), .d (.i a.m), .d (.i a.var), .d (encPats a.kids)], .agg [.d (.i b.op), .d (.i b.ctor), .d (.i b.n), .d (.i b.m), .d (.i b.var), .d (encPats b.kids)]] [] (.d (.bool (patEq a b))) []) :
  FnD Try.prog 76 [.d (encPats l), .d (encPats m)] [] (.d (.bool (patsEq l m))) [] := by
 refine Fn.body (fn := Try.f76) (n := 27) rfl rfl rfl rfl rfl (fun w0 F0 own kept hk => ?_)
 refine sr ?_
 refine asg ?_
 refine tv ?_
 refine CWp.seq ?_
 refine sr ?_
 refine mv ?_
 refine Walk.len sl68 .none rfl rfl ?_
 refine mv ?_
 refine Walk.len sl68 .none rfl rfl ?_
 refine Walk.neI .none rfl rfl rfl ?_
 refine tv ?_
 refine cd ?_ ?_
 ·intro h1; have ⟨h1p, h1s⟩ := dup h1; try simp only [Q5] at h1s
  try simp only [Q, Int.natCast_inj, Pat.cs_len] at h1p
  refine sr ?_
  refine asg ?_
  refine tv ?_
  refine CWp.ret ?_
  refine ⟨_, _, [], (.cons (.tmp rfl) .nil), (.eqd ?_), ⟨rfl, rfl⟩, HSub.nil, noBox⟩
  all_goals (refine congrArg D.bool ?_; first | (refine (patsEq_len ?_).symm; omega) | (refine (patsEq_nth_true (by omega) (fun x hx => hg1.2 x (by omega))).symm) | (refine (patsEq_nth_false (i := i) (by omega) ?_).symm; assumption))
 ·intro h1; have ⟨h1p, h1s⟩ := dup h1; try simp only [Q5] at h1s
  try simp only [Q, Int.natCast_inj, Pat.cs_len] at h1p
  refine CWp.skip ?_
  refine CWp.seq ?_
  refine sr ?_
  refine asg ?_
  refine tv ?_
  refine CWp.block ?_
  refine CWp.loopX (ι := Nat) hk (fun i => [(5, .d (.i (i : Int)))]) [4, 11, 12, 13, 14, 15, 16, 17, 18, 19, 20, 21, 22, 23, 24, 25, 26] (fun i => []) (fun i => i ≤ l.length ∧ ∀ i', i' < i → patEq (nth l i') (nth m i') = true) (fun i => l.length - i) 0 ⟨by omega, fun _ h => absurd h (by omega)⟩ ⟨⟨_, rfl, (LeA.eqi (by first | rfl | (simp; done) | (simp_all; done) | omega))⟩, trivial⟩ trivial (fun x => rfl) (fun i hg1 => ?_)
  refine CWp.seq ?_
  refine sr ?_
  refine mv ?_
  refine mv ?_
  refine Walk.len sl68 .none rfl rfl ?_
  refine Walk.ltI .none rfl rfl rfl ?_
  refine tv ?_
  refine cd ?_ ?_
  ·intro h2; have ⟨h2p, h2s⟩ := dup h2; try simp only [Q5] at h2s
   try simp only [Q, Int.natCast_inj, Pat.cs_len] at h2p
   refine CWp.skip ?_
   refine CWp.seq ?_
   refine CWp.block ?_
   refine CWp.seq ?_
   refine CWp.drawn mixed rfl ?_
   refine mv ?_
   refine mv ?_
   refine Walk.idx sl68 .none rfl rfl rfl rfl (pats_at (by omega)) rfl ?_
   refine Walk.loadPA ty70 .none rfl rfl rfl rfl ?_
   refine mv ?_
   refine mv ?_
   refine Walk.idx sl68 .none rfl rfl rfl rfl (pats_at (by omega)) rfl ?_
   refine Walk.loadPA ty70 .none rfl rfl rfl rfl ?_
   refine Walk.call (cr := []) cal40 (hf _ (nth_mem (by omega)) _) rfl .none rfl rfl (LeL.refl _) trivial rfl rfl rfl ?_
   refine Walk.not .none rfl rfl ?_
   refine ⟨by show _ = _; kernel_rfl, ?_⟩
   refine cd ?_ ?_
   ·intro h3; have ⟨h3p, h3s⟩ := dup h3; try simp only [Q5] at h3s
    try simp only [Q, Int.natCast_inj, Pat.cs_len] at h3p
    refine sr ?_
    refine asg ?_
    refine tv ?_
    refine CWp.ret ?_
    refine ⟨_, _, [], (.cons (.tmp rfl) .nil), (.eqd ?_), ⟨rfl, rfl⟩, HSub.nil, noBox⟩
    all_goals (refine congrArg D.bool ?_; first | (refine (patsEq_len ?_).symm; omega) | (refine (patsEq_nth_true (by omega) (fun x hx => hg1.2 x (by omega))).symm) | (refine (patsEq_nth_false (i := i) (by omega) ?_).symm; assumption))
   ·intro h3; have ⟨h3p, h3s⟩ := dup h3; try simp only [Q5] at h3s
    try simp only [Q, Int.natCast_inj, Pat.cs_len] at h3p
    refine CWp.skip ?_
    refine CWp.region rfl ?_
    refine mv ?_
    refine Walk.addI .none rfl rfl rfl (by first | (constructor <;> omega) | (constructor <;> simp <;> omega)) ?_
    refine asg ?_
    refine tv ?_
    refine ⟨i + 1, ⟨by omega, upto_succ hg1.2 (by assumption)⟩, (by omega), Sub.x (by kernel_rfl) (by kernel_rfl) ⟨⟨_, rfl, (LeA.eqi (by first | rfl | (simp; done) | (simp_all; done) | omega))⟩, trivial⟩ (by kernel_rfl) (by kernel_rfl) trivial⟩
  ·intro h2; have ⟨h2p, h2s⟩ := dup h2; try simp only [Q5] at h2s
   try simp only [Q, Int.natCast_inj, Pat.cs_len] at h2p
   refine CWp.exit ?_
   refine sr ?_
   refine asg ?_
   refine tv ?_
   refine CWp.ret ?_
   refine ⟨_, _, [], (.cons (.tmp rfl) .nil), (.eqd ?_), ⟨rfl, rfl⟩, HSub.nil, noBox⟩
   all_goals (refine congrArg D.bool ?_; first | (refine (patsEq_len ?_).symm; omega) | (refine (patsEq_nth_true (by omega) (fun x hx => hg1.2 x (by omega))).symm) | (refine (patsEq_nth_false (i := i) (by omega) ?_).symm; assumption))
theorem laws_eqPattern_fn : ∀ (n : Nat) {a b : Pat}, a.size ≤ n → a.ok → FnD Try.prog 40 [.agg [.d (.i a.op), .d (.i a.ctor), .d (.i a.n), .d (.i a.m), .d (.i a.var), .d (encPats a.kids)], .agg [.d (.i b.op), .d (.i b.ctor), .d (.i b.n), .d (.i b.m), .d (.i b.var), .d (encPats b.kids)]] [] (.d (.bool (patEq a b))) []
 | 0, a, b, h, _ => by rw [Pat.size_eq] at h; omega
 | n + 1, a, b, h, hok => by
  rw [Pat.size_eq] at h
  rw [Pat.ok_iff] at hok
  rw [patEq_eq]
  refine Fn.body (fn := Try.f40) (n := 36) rfl rfl rfl rfl rfl (fun w0 F0 own kept hk => ?_)
  refine sr ?_
  refine Walk.box (id := 3002) .none rfl rfl rfl rfl rfl rfl rfl ?_
  refine Walk.box (id := 3003) .none rfl rfl rfl rfl rfl rfl rfl ?_
  refine asg ?_
  refine tv ?_
  refine CWp.seq ?_
  refine sr ?_
  refine Walk.fieldB fd70_0 .none rfl rfl ?_
  refine Walk.loadB ty3 .none rfl rfl rfl rfl ?_
  refine Walk.fieldB fd70_0 .none rfl rfl ?_
  refine Walk.loadB ty3 .none rfl rfl rfl rfl ?_
  refine Walk.neI .none rfl rfl rfl ?_
  refine tv ?_
  refine cd ?_ ?_
  ·intro h1; have ⟨h1p, h1s⟩ := dup h1; try simp only [Q5] at h1s
   try simp only [Q] at h1p
   refine sr ?_
   refine asg ?_
   refine tv ?_
   refine CWp.ret ?_
   refine ⟨_, _, [], (.cons (.tmp rfl) .nil), (.eqd ?_), ⟨rfl, rfl⟩, HSub.nil, noBox⟩
   all_goals (refine congrArg D.bool ?_; simp [h1s, h1p])
  ·intro h1; have ⟨h1p, h1s⟩ := dup h1; try simp only [Q5] at h1s
   try simp only [Q] at h1p
   refine CWp.skip ?_
   refine CWp.seq ?_
   refine sr ?_
   refine Walk.fieldB fd70_1 .none rfl rfl ?_
   refine Walk.loadB ty3 .none rfl rfl rfl rfl ?_
   refine Walk.fieldB fd70_1 .none rfl rfl ?_
   refine Walk.loadB ty3 .none rfl rfl rfl rfl ?_
   refine Walk.neI .none rfl rfl rfl ?_
   refine tv ?_
   refine cd ?_ ?_
   ·intro h2; have ⟨h2p, h2s⟩ := dup h2; try simp only [Q5] at h2s
    try simp only [Q] at h2p
    refine sr ?_
    refine asg ?_
    refine tv ?_
    refine CWp.ret ?_
    refine ⟨_, _, [], (.cons (.tmp rfl) .nil), (.eqd ?_), ⟨rfl, rfl⟩, HSub.nil, noBox⟩
    all_goals (refine congrArg D.bool ?_; simp [h1s, h1p, h2s, h2p])
   ·intro h2; have ⟨h2p, h2s⟩ := dup h2; try simp only [Q5] at h2s
    try simp only [Q] at h2p
    refine CWp.skip ?_
    refine CWp.seq ?_
    refine sr ?_
    refine Walk.fieldB fd70_2 .none rfl rfl ?_
    refine Walk.loadB ty3 .none rfl rfl rfl rfl ?_
    refine Walk.fieldB fd70_2 .none rfl rfl ?_
    refine Walk.loadB ty3 .none rfl rfl rfl rfl ?_
    refine Walk.neI .none rfl rfl rfl ?_
    refine tv ?_
    refine cd ?_ ?_
    ·intro h3; have ⟨h3p, h3s⟩ := dup h3; try simp only [Q5] at h3s
     try simp only [Q] at h3p
     refine sr ?_
     refine asg ?_
     refine tv ?_
     refine CWp.ret ?_
     refine ⟨_, _, [], (.cons (.tmp rfl) .nil), (.eqd ?_), ⟨rfl, rfl⟩, HSub.nil, noBox⟩
     all_goals (refine congrArg D.bool ?_; simp [h1s, h1p, h2s, h2p, h3s, h3p])
    ·intro h3; have ⟨h3p, h3s⟩ := dup h3; try simp only [Q5] at h3s
     try simp only [Q] at h3p
     refine CWp.skip ?_
     refine CWp.seq ?_
     refine sr ?_
     refine Walk.fieldB fd70_3 .none rfl rfl ?_
     refine Walk.loadB ty3 .none rfl rfl rfl rfl ?_
     refine Walk.fieldB fd70_3 .none rfl rfl ?_
     refine Walk.loadB ty3 .none rfl rfl rfl rfl ?_
     refine Walk.neI .none rfl rfl rfl ?_
     refine tv ?_
     refine cd ?_ ?_
     ·intro h4; have ⟨h4p, h4s⟩ := dup h4; try simp only [Q5] at h4s
      try simp only [Q] at h4p
      refine sr ?_
      refine asg ?_
      refine tv ?_
      refine CWp.ret ?_
      refine ⟨_, _, [], (.cons (.tmp rfl) .nil), (.eqd ?_), ⟨rfl, rfl⟩, HSub.nil, noBox⟩
      all_goals (refine congrArg D.bool ?_; simp [h1s, h1p, h2s, h2p, h3s, h3p, h4s, h4p])
     ·intro h4; have ⟨h4p, h4s⟩ := dup h4; try simp only [Q5] at h4s
      try simp only [Q] at h4p
      refine CWp.skip ?_
      refine CWp.seq ?_
      refine sr ?_
      refine Walk.fieldB fd70_4 .none rfl rfl ?_
      refine Walk.loadB ty3 .none rfl rfl rfl rfl ?_
      refine Walk.fieldB fd70_4 .none rfl rfl ?_
      refine Walk.loadB ty3 .none rfl rfl rfl rfl ?_
      refine Walk.neI .none rfl rfl rfl ?_
      refine tv ?_
      refine cd ?_ ?_
      ·intro h5; have ⟨h5p, h5s⟩ := dup h5; try simp only [Q5] at h5s
       try simp only [Q] at h5p
       refine sr ?_
       refine asg ?_
       refine tv ?_
       refine CWp.ret ?_
       refine ⟨_, _, [], (.cons (.tmp rfl) .nil), (.eqd ?_), ⟨rfl, rfl⟩, HSub.nil, noBox⟩
       all_goals (refine congrArg D.bool ?_; simp [h1s, h1p, h2s, h2p, h3s, h3p, h4s, h4p, h5s, h5p])
      ·intro h5; have ⟨h5p, h5s⟩ := dup h5; try simp only [Q5] at h5s
       try simp only [Q] at h5p
       refine CWp.skip ?_
       refine CWp.seq ?_
       refine sr ?_
       refine Walk.fieldB fd70_5 .none rfl rfl ?_
       refine Walk.loadB ty68 .none rfl rfl rfl rfl ?_
       refine Walk.fieldB fd70_5 .none rfl rfl ?_
       refine Walk.loadB ty68 .none rfl rfl rfl rfl ?_
       refine Walk.call (cr := []) cal76 (laws_eqPatternS_of hok.1 (fun x hx y => laws_eqPattern_fn n (by have := Pats.size_mem hx; omega) (Pats.ok_mem hok.2 x hx))) rfl .none rfl rfl (LeL.refl _) trivial rfl rfl rfl ?_
       refine Walk.not .none rfl rfl ?_
       refine tv ?_
       refine cd ?_ ?_
       ·intro h6; have ⟨h6p, h6s⟩ := dup h6; try simp only [Q5] at h6s
        try simp only [Q] at h6p
        refine sr ?_
        refine asg ?_
        refine tv ?_
        refine CWp.ret ?_
        refine ⟨_, _, [], (.cons (.tmp rfl) .nil), (.eqd ?_), ⟨rfl, rfl⟩, HSub.nil, noBox⟩
        all_goals (refine congrArg D.bool ?_; simp [h1s, h1p, h2s, h2p, h3s, h3p, h4s, h4p, h5s, h5p, h6s, h6p])
       ·intro h6; have ⟨h6p, h6s⟩ := dup h6; try simp only [Q5] at h6s
        try simp only [Q] at h6p
        refine CWp.skip ?_
        refine sr ?_
        refine asg ?_
        refine tv ?_
        refine CWp.ret ?_
        refine ⟨_, _, [], (.cons (.tmp rfl) .nil), (.eqd ?_), ⟨rfl, rfl⟩, HSub.nil, noBox⟩
        all_goals (refine congrArg D.bool ?_; simp [h1s, h1p, h2s, h2p, h3s, h3p, h4s, h4p, h5s, h5p, h6s, h6p])
mutual
def Pat.szM : Pat → Int
 | .mk _ _ _ _ _ ks => 5 + Pats.szM ks
def Pats.szM : List Pat → Int
 | [] => 0
 | v :: r => v.szM + Pats.szM r
end
mutual
def Pat.one (k : Int) : Pat → Pat
 | .mk _ _ _ _ _ ks => .mk k (k + 1) (k + 1 + 1) (k + 1 + 1 + 1) (k + 1 + 1 + 1 + 1) (Pats.one (k + 1 + 1 + 1 + 1 + 1) ks)
def Pats.one (k : Int) : List Pat → List Pat
 | [] => []
 | v :: r => v.one k :: Pats.one (k + v.szM) r
end
theorem Pats.szM_eq : ∀ l : List Pat, Pats.szM l = szL Pat.szM l
 | [] => rfl
 | v :: r => by simp only [Pats.szM, szL, Pats.szM_eq r]
theorem Pats.one_eq : ∀ (l : List Pat) (k : Int), Pats.one k l = mkL Pat.one Pat.szM k l
 | [], _ => rfl
 | v :: r, k => by simp only [Pats.one, mkL, Pats.one_eq r]
theorem Pat.szM_kids (v : Pat) : v.szM = 5 + szL Pat.szM v.kids := by cases v; simp only [Pat.szM, Pat.kids, Pats.szM_eq]
theorem Pat.one_kids (v : Pat) (k : Int) : (v.one k).kids = mkL Pat.one Pat.szM (k + 1 + 1 + 1 + 1 + 1) v.kids := by cases v; simp only [Pat.one, Pat.kids, Pats.one_eq]
theorem Pat.one_sc (v : Pat) (k : Int) : (Pat.one k v).op = k ∧ (Pat.one k v).ctor = k + 1 ∧ (Pat.one k v).n = k + 1 + 1 ∧ (Pat.one k v).m = k + 1 + 1 + 1 ∧ (Pat.one k v).var = k + 1 + 1 + 1 + 1 := by cases v; exact ⟨rfl, rfl, rfl, rfl, rfl⟩
mutual
theorem Pat.szM_nn : ∀ v : Pat, 0 ≤ v.szM
 | .mk _ _ _ _ _ ks => by have := Pats.szM_nn ks; simp only [Pat.szM]; omega
theorem Pats.szM_nn : ∀ l : List Pat, 0 ≤ Pats.szM l
 | [] => by simp [Pats.szM]
 | v :: r => by have := Pat.szM_nn v; have := Pats.szM_nn r; simp only [Pats.szM]; omega
end
mutual
theorem Pat.szM_le : ∀ v : Pat, v.szM ≤ 5 + 5 * (mPat v : Int)
 | .mk _ _ _ _ _ ks => by have := Pats.szM_le ks; simp only [Pat.szM, mPat]; omega
theorem Pats.szM_le : ∀ l : List Pat, Pats.szM l ≤ 5 * (mPats l : Int)
 | [] => by simp [Pats.szM, mPats]
 | v :: r => by have := Pat.szM_le v; have := Pats.szM_le r; simp only [Pats.szM, mPats]; omega
end
theorem laws_markPatternS_nil {l : List Pat} {k : Int} (hl : l = []) : FnD Try.prog 77 [.d (.sl []), .d (.i k)] [] (.d (.i (k + szL Pat.szM l))) [] := by
 subst hl
 refine Fn.body (fn := Try.f77) (n := 55) rfl rfl rfl rfl rfl (fun w0 F0 own kept hk => ?_)
 refine sr ?_
 refine asg ?_
 refine tv ?_
 refine CWp.seq ?_
 refine sr ?_
 refine asg ?_
 refine tv ?_
 refine CWp.block ?_
 refine CWp.loopX (ι := Unit) hk (fun x => [(5, .d (.i 0)), (1, .d (.i k))]) [6, 7, 8, 9, 10, 11, 12, 13, 14, 15, 16, 17, 18, 19, 20, 21, 22, 23, 24, 25, 26, 27, 28, 29, 30, 31, 32, 33, 34, 35, 36, 37, 38, 39, 40, 41, 42, 43, 44, 45, 46, 47, 48, 49, 50, 51, 52, 53] (fun x => []) (fun x => True) (fun x => 0) () trivial ⟨⟨_, rfl, (LeA.eqi (by first | rfl | (simp; done) | (simp_all; done) | omega))⟩, ⟨⟨_, rfl, (LeA.eqi (by first | rfl | (simp; done) | (simp_all; done) | omega))⟩, trivial⟩⟩ trivial (fun x => rfl) (fun x hg1 => ?_)
 refine CWp.seq ?_
 refine sr ?_
 refine mv ?_
 refine mv ?_
 refine Walk.len sl68 .none rfl rfl ?_
 refine Walk.ltI .none rfl rfl rfl ?_
 refine tv ?_
 refine cd ?_ ?_
 ·intro h1; have ⟨h1p, h1s⟩ := dup h1; try simp only [Q5] at h1s
  try simp only [Q] at h1p
  exfalso; revert h1; simp --stop
 ·intro h1; have ⟨h1p, h1s⟩ := dup h1; try simp only [Q5] at h1s
  try simp only [Q] at h1p
  refine CWp.exit ?_
  refine sr ?_
  refine mv ?_
  refine asg ?_
  refine tv ?_
  refine CWp.ret ?_
  refine ⟨_, _, [], (.cons (.tmp rfl) .nil), (.eqd ?_), ⟨rfl, rfl⟩, HSub.nil, noBox⟩
  all_goals (first | rfl | (simp [szL]; done))
theorem markPatternS_ren {n : Nat} {k : Int} {r : D} {xs ys : List (List D)} (h : FnD Try.prog 77 [.ms 46 n, .d (.i k)] [(46, some (.tree (ownCells false xs)))] (.d r) [(46, some (.tree (ownCells false ys)))]) :
  FnD Try.prog 77 [.ms 47 n, .d (.i k)] [(47, some (.tree (ownCells false xs)))] (.d r) [(47, some (.tree (ownCells false ys)))] := FnD.ren rfl (ownCells_ids _ _) (ownCells_ids _ _) h 47
theorem laws_markPatternS_tr : ∀ (n : Nat) {l : List Pat} {k : Int}, Pats.size l ≤ n → 0 < k → k + szL Pat.szM l ≤ 1000000000000 → l.length ≤ 1000000000000 → Pats.ok l → FnD Try.prog 77 [.ms 46 l.length, .d (.i k)] [(46, some (.tree (ownCells false (Pat.cs l))))]
  (.d (.i (k + szL Pat.szM l))) [(46, some (.tree (ownCells false (Pat.cs (mkL Pat.one Pat.szM k l)))))] := by
 intro n
 induction n with
 | zero =>
  intro l k h h0 h1 hl hok
  have hl0 : l = [] := by
   cases l with
   | nil => rfl
   | cons v r => simp only [Pats.size, Pat.size_eq] at h; omega
  subst hl0
  refine Fn.body (fn := Try.f77) (n := 55) rfl rfl rfl rfl rfl (fun w0 F0 own kept hk => ?_)
  refine sr ?_
  refine asg ?_
  refine tv ?_
  refine CWp.seq ?_
  refine sr ?_
  refine asg ?_
  refine tv ?_
  refine CWp.block ?_
  refine CWp.loopX (ι := Unit) hk (fun x => [(5, .d (.i 0)), (1, .d (.i k))]) [6, 7, 8, 9, 10, 11, 12, 13, 14, 15, 16, 17, 18, 19, 20, 21, 22, 23, 24, 25, 26, 27, 28, 29, 30, 31, 32, 33, 34, 35, 36, 37, 38, 39, 40, 41, 42, 43, 44, 45, 46, 47, 48, 49, 50, 51, 52, 53] (fun x => []) (fun x => True) (fun x => 0) () trivial ⟨⟨_, rfl, (LeA.eqi (by first | rfl | (simp; done) | (simp_all; done) | omega))⟩, ⟨⟨_, rfl, (LeA.eqi (by first | rfl | (simp; done) | (simp_all; done) | omega))⟩, trivial⟩⟩ trivial (fun x => rfl) (fun x hg1 => ?_)
  refine CWp.seq ?_
  refine sr ?_
  refine mv ?_
  refine mv ?_
  refine Walk.lenM sl68 .none rfl rfl ?_
  refine Walk.ltI .none rfl rfl rfl ?_
  refine tv ?_
  refine cd ?_ ?_
  ·intro h1; have ⟨h1p, h1s⟩ := dup h1; try simp only [Q5] at h1s
   try simp only [Q] at h1p
   exfalso; revert h1; simp --stop
  ·intro h1; have ⟨h1p, h1s⟩ := dup h1; try simp only [Q5] at h1s
   try simp only [Q] at h1p
   refine CWp.exit ?_
   refine sr ?_
   refine mv ?_
   refine asg ?_
   refine tv ?_
   refine CWp.ret ?_
   refine ⟨_, _, [(46, some (.tree (ownCells false (Pat.cs (mkL Pat.one Pat.szM k []))))) ], (.cons (.tmp rfl) .nil), (.eqd ?_), ⟨rfl, rfl⟩, (SubO.get ⟨.inr (by rfl), ⟨.inl rfl, trivial⟩⟩), (boxOK rfl)⟩
   all_goals (first | rfl | (simp [szL]; done))
 | succ n ih =>
  intro l k h h0 h1 hl hok
  refine Fn.body (fn := Try.f77) (n := 55) rfl rfl rfl rfl rfl (fun w0 F0 own kept hk => ?_)
  refine sr ?_
  refine asg ?_
  refine tv ?_
  refine CWp.seq ?_
  refine sr ?_
  refine asg ?_
  refine tv ?_
  refine CWp.block ?_
  refine CWp.loopX (ι := List (Pat) × List (Pat) × (Int)) hk (fun x => [(5, .d (.i (x.1.length : Int))), (1, .d (.i x.2.2))]) [6, 7, 8, 9, 10, 11, 12, 13, 14, 15, 16, 17, 18, 19, 20, 21, 22, 23, 24, 25, 26, 27, 28, 29, 30, 31, 32, 33, 34, 35, 36, 37, 38, 39, 40, 41, 42, 43, 44, 45, 46, 47, 48, 49, 50, 51, 52, 53] (fun x => [(46, some (.tree (ownCells false (Pat.cs (mkL Pat.one Pat.szM k x.1)) ++ ownCells false (Pat.cs x.2.1))))]) (fun x => x.1 ++ x.2.1 = l ∧ x.2.2 = k + szL Pat.szM x.1) (fun x => x.2.1.length) ([], l, k) ⟨by simp, by simp [szL]⟩ ⟨⟨_, rfl, (LeA.eqi (by first | rfl | (simp; done) | omega | (refine Eq.trans (b := v + Pat.szM y) ?_ rfl; omega)))⟩, ⟨⟨_, rfl, (LeA.eqi (by first | rfl | (simp; done) | omega | (refine Eq.trans (b := v + Pat.szM y) ?_ rfl; omega)))⟩, trivial⟩⟩ ⟨(by first | rfl | (show some (Res.tree _) = some (Res.tree _); rw [mkL_snoc, own_pats_snoc, ← hg1.2, Pat.one_kids]; simp only [Pat.one_sc y v, List.append_assoc, List.cons_append, List.nil_append])), trivial⟩ (fun x => rfl) (fun x hg1 => ?_)
  obtain ⟨pre, rest, v⟩ := x
  dsimp only at hg1 ⊢
  refine CWp.seq ?_
  refine sr ?_
  refine mv ?_
  refine mv ?_
  refine Walk.lenM sl68 .none rfl rfl ?_
  refine Walk.ltI .none rfl rfl rfl ?_
  refine tv ?_
  refine cd ?_ ?_
  ·intro h1; have ⟨h1p, h1s⟩ := dup h1; try simp only [Q5] at h1s
   try simp only [Q] at h1p
   rcases rest with _ | ⟨y, rest⟩
   ·exfalso; simp_all
   have hsp := szL_split (sz := Pat.szM) hg1.1; have hnn := szL_nonneg (l := rest) Pat.szM_nn; have hnp := szL_nonneg (l := pre) Pat.szM_nn; have hys := Pat.szM_kids y; have hya := szL_nonneg (l := y.kids) Pat.szM_nn; have hv := hg1.2
   refine CWp.reTree 46 (ownCells false (Pat.cs (mkL Pat.one Pat.szM k pre)) ++ (.d (.i y.op) :: .d (.i y.ctor) :: .d (.i y.n) :: .d (.i y.m) :: .d (.i y.var) :: .own false (encPats y.kids) :: ownCells false (Pat.cs rest))) rfl (by rw [own_pats_cons]) ?_
   refine CWp.skip ?_
   refine CWp.seq ?_
   refine CWp.block ?_
   refine sr ?_
   refine mv ?_
   refine mv ?_
   refine mv ?_
   refine Walk.idxM sl68 .none rfl rfl rfl rfl (by first | omega | (simp [Pat.cs_nil, Pat.cs_len, Pat.cs]; omega)) ?_
   refine Walk.fieldB fd70_0 .none rfl rfl ?_
   refine Walk.storeT ty3 .none rfl rfl rfl rfl rfl rfl (by simp) ((putC_off ((own_pats_len false _).trans (by rw [mkL_len])) putC_c0)) ?_
   refine tv ?_
   refine sr ?_
   refine mv ?_
   refine Walk.addI .none rfl rfl rfl (by first | (constructor <;> omega) | (constructor <;> simp <;> omega)) ?_
   refine asg ?_
   refine tv ?_
   refine sr ?_
   refine mv ?_
   refine mv ?_
   refine mv ?_
   refine Walk.idxM sl68 .none rfl rfl rfl rfl (by first | omega | (simp [Pat.cs_nil, Pat.cs_len, Pat.cs]; omega)) ?_
   refine Walk.fieldB fd70_1 .none rfl rfl ?_
   refine Walk.storeT ty3 .none rfl rfl rfl rfl rfl rfl (by simp) ((putC_off ((own_pats_len false _).trans (by rw [mkL_len])) putC_c1)) ?_
   refine tv ?_
   refine sr ?_
   refine mv ?_
   refine Walk.addI .none rfl rfl rfl (by first | (constructor <;> omega) | (constructor <;> simp <;> omega)) ?_
   refine asg ?_
   refine tv ?_
   refine sr ?_
   refine mv ?_
   refine mv ?_
   refine mv ?_
   refine Walk.idxM sl68 .none rfl rfl rfl rfl (by first | omega | (simp [Pat.cs_nil, Pat.cs_len, Pat.cs]; omega)) ?_
   refine Walk.fieldB fd70_2 .none rfl rfl ?_
   refine Walk.storeT ty3 .none rfl rfl rfl rfl rfl rfl (by simp) ((putC_off ((own_pats_len false _).trans (by rw [mkL_len])) putC_c2)) ?_
   refine tv ?_
   refine sr ?_
   refine mv ?_
   refine Walk.addI .none rfl rfl rfl (by first | (constructor <;> omega) | (constructor <;> simp <;> omega)) ?_
   refine asg ?_
   refine tv ?_
   refine sr ?_
   refine mv ?_
   refine mv ?_
   refine mv ?_
   refine Walk.idxM sl68 .none rfl rfl rfl rfl (by first | omega | (simp [Pat.cs_nil, Pat.cs_len, Pat.cs]; omega)) ?_
   refine Walk.fieldB fd70_3 .none rfl rfl ?_
   refine Walk.storeT ty3 .none rfl rfl rfl rfl rfl rfl (by simp) ((putC_off ((own_pats_len false _).trans (by rw [mkL_len])) putC_c3)) ?_
   refine tv ?_
   refine sr ?_
   refine mv ?_
   refine Walk.addI .none rfl rfl rfl (by first | (constructor <;> omega) | (constructor <;> simp <;> omega)) ?_
   refine asg ?_
   refine tv ?_
   refine sr ?_
   refine mv ?_
   refine mv ?_
   refine mv ?_
   refine Walk.idxM sl68 .none rfl rfl rfl rfl (by first | omega | (simp [Pat.cs_nil, Pat.cs_len, Pat.cs]; omega)) ?_
   refine Walk.fieldB fd70_4 .none rfl rfl ?_
   refine Walk.storeT ty3 .none rfl rfl rfl rfl rfl rfl (by simp) ((putC_off ((own_pats_len false _).trans (by rw [mkL_len])) putC_c4)) ?_
   refine tv ?_
   refine sr ?_
   refine mv ?_
   refine Walk.addI .none rfl rfl rfl (by first | (constructor <;> omega) | (constructor <;> simp <;> omega)) ?_
   refine asg ?_
   refine tv ?_
   by_cases hs2 : y.kids = []
   ·refine CWp.emptyCell 46 (pre.length * 6 + 5) rfl (cell_off ((own_pats_len false _).trans (by rw [mkL_len])) rfl) (by simp [hs2, Pat.cs_nil, Pat.cs_len, Pat.cs]) (putC_off ((own_pats_len false _).trans (by rw [mkL_len])) putC_c5) ?_
    refine CWp.region rfl ?_
    refine mv ?_
    refine mv ?_
    refine Walk.idxM sl68 .none rfl rfl rfl rfl (by first | omega | (simp [Pat.cs_nil, Pat.cs_len, Pat.cs]; omega)) ?_
    refine Walk.fieldB fd70_5 .none rfl rfl ?_
    refine Walk.loadT ty68 .none rfl rfl rfl ((by rw [cell_off ((own_pats_len false _).trans (by rw [mkL_len])) rfl]; rfl)) ?_
    refine mv ?_
    refine Walk.call (cr := []) cal77 (laws_markPatternS_nil hs2) rfl .none rfl rfl (LeL.refl _) trivial rfl (by first | rfl | (simp only [okCall, List.all_cons, List.all_nil, entOK, entOK', AV.idsL, AV.ids, idsL_append, ownCells_ids, List.map_cons, List.map_nil]; rfl)) (by first | rfl | (simp only [freshB, occH, occE, Res.ids, List.cons_append, List.nil_append, AV.idsL, AV.ids, idsL_append, ownCells_ids, zerosA_idsR, repNil, List.map_cons, List.map_nil, upC]; rfl)) ?_
    refine asg ?_
    refine tv ?_
    refine CWp.fullCell 46 (pre.length * 6 + 5) false (xs := Pat.cs (mkL Pat.one Pat.szM (v + 1 + 1 + 1 + 1 + 1) y.kids)) rfl (cell_off ((own_pats_len false _).trans (by rw [mkL_len])) rfl) (by simp [hs2, mkL, Pat.cs]) (putC_off ((own_pats_len false _).trans (by rw [mkL_len])) putC_c5) ?_
    refine CWp.region rfl ?_
    refine mv ?_
    refine Walk.addI .none rfl rfl rfl (by first | (constructor <;> omega) | (constructor <;> simp <;> omega)) ?_
    refine asg ?_
    refine tv ?_
    refine ⟨(pre ++ [y], rest, v + Pat.szM y), ⟨(by have hz := hg1.1; rw [← hz]; simp), (by show v + Pat.szM y = _; rw [szL_snoc, hg1.2]; omega)⟩, (by simp), Sub.x (by kernel_rfl) (by kernel_rfl) ⟨⟨_, rfl, (LeA.eqi (by first | rfl | (simp; done) | omega | (refine Eq.trans (b := v + Pat.szM y) ?_ rfl; omega)))⟩, ⟨⟨_, rfl, (LeA.eqi (by first | rfl | (simp; done) | omega | (refine Eq.trans (b := v + Pat.szM y) ?_ rfl; omega)))⟩, trivial⟩⟩ (by kernel_rfl) (by kernel_rfl) ⟨(by first | rfl | (show some (Res.tree _) = some (Res.tree _); rw [mkL_snoc, own_pats_snoc, ← hg1.2, Pat.one_kids]; simp only [Pat.one_sc y v, List.append_assoc, List.cons_append, List.nil_append])), trivial⟩⟩
   ·refine CWp.split 46 (pre.length * 6 + 5) 47 rfl (cell_off ((own_pats_len false _).trans (by rw [mkL_len])) rfl) (by simp [hs2, Pat.cs_nil, Pat.cs_len, Pat.cs]) (by first | rfl | (simp only [freshB, occH, occE, Res.ids, List.cons_append, List.nil_append, AV.idsL, AV.ids, idsL_append, ownCells_ids, zerosA_idsR, repNil, List.map_cons, List.map_nil, upC]; rfl)) (putC_off ((own_pats_len false _).trans (by rw [mkL_len])) putC_c5) ?_
    refine CWp.region rfl ?_
    refine mv ?_
    refine mv ?_
    refine Walk.idxM sl68 .none rfl rfl rfl rfl (by first | omega | (simp [Pat.cs_nil, Pat.cs_len, Pat.cs]; omega)) ?_
    refine Walk.fieldB fd70_5 .none rfl rfl ?_
    refine Walk.loadT ty68 .none rfl rfl rfl ((by rw [cell_off ((own_pats_len false _).trans (by rw [mkL_len])) rfl]; rfl)) ?_
    refine mv ?_
    refine Walk.call (cr := []) cal77 (markPatternS_ren (ih (l := y.kids) (k := v + 1 + 1 + 1 + 1 + 1) (by have hm := Pats.size_mem (v := y) (l := l) (by rw [← hg1.1]; simp); rw [Pat.size_eq] at hm; omega) (by omega) (by omega) ((Pat.ok_iff y).1 (Pats.ok_mem hok y (by rw [← hg1.1]; simp))).1 ((Pat.ok_iff y).1 (Pats.ok_mem hok y (by rw [← hg1.1]; simp))).2)) rfl .none rfl rfl (.cons (LeA.msn (by first | rfl | (simp [Pat.cs_nil, Pat.cs_len, Pat.cs]; done))) (.cons (.refl _) .nil)) ⟨by first | rfl | (simp; rfl), trivial⟩ rfl (by first | rfl | (simp only [okCall, List.all_cons, List.all_nil, entOK, entOK', AV.idsL, AV.ids, idsL_append, ownCells_ids, List.map_cons, List.map_nil]; rfl)) (by first | rfl | (simp only [freshB, occH, occE, Res.ids, List.cons_append, List.nil_append, AV.idsL, AV.ids, idsL_append, ownCells_ids, zerosA_idsR, repNil, List.map_cons, List.map_nil, upC]; rfl)) ?_
    refine asg ?_
    refine tv ?_
    refine CWp.merge hk 46 (pre.length * 6 + 5) 47 6 _ rfl (cell_off ((own_pats_len false _).trans (by rw [mkL_len])) rfl) (by simp [mkL_len, Pat.cs_nil, Pat.cs_len, Pat.cs]) rfl Pat.cs_rows rfl rfl (putC_off ((own_pats_len false _).trans (by rw [mkL_len])) putC_c5) ?_
    refine CWp.region rfl ?_
    refine mv ?_
    refine Walk.addI .none rfl rfl rfl (by first | (constructor <;> omega) | (constructor <;> simp <;> omega)) ?_
    refine asg ?_
    refine tv ?_
    refine ⟨(pre ++ [y], rest, v + Pat.szM y), ⟨(by have hz := hg1.1; rw [← hz]; simp), (by show v + Pat.szM y = _; rw [szL_snoc, hg1.2]; omega)⟩, (by simp), Sub.x (by kernel_rfl) (by kernel_rfl) ⟨⟨_, rfl, (LeA.eqi (by first | rfl | (simp; done) | omega | (refine Eq.trans (b := v + Pat.szM y) ?_ rfl; omega)))⟩, ⟨⟨_, rfl, (LeA.eqi (by first | rfl | (simp; done) | omega | (refine Eq.trans (b := v + Pat.szM y) ?_ rfl; omega)))⟩, trivial⟩⟩ (by kernel_rfl) (by kernel_rfl) ⟨(by first | rfl | (show some (Res.tree _) = some (Res.tree _); rw [mkL_snoc, own_pats_snoc, ← hg1.2, Pat.one_kids]; simp only [Pat.one_sc y v, List.append_assoc, List.cons_append, List.nil_append])), trivial⟩⟩
  ·intro h1; have ⟨h1p, h1s⟩ := dup h1; try simp only [Q5] at h1s
   try simp only [Q] at h1p
   have hrest : rest = [] := by
    rcases rest with _ | ⟨a, b⟩
    ·rfl
    ·exfalso; have hz := congrArg List.length (hg1.1); simp only [List.length_append, List.length_cons, List.length_map] at hz; omega
   subst hrest
   refine CWp.exit ?_
   refine sr ?_
   refine mv ?_
   refine asg ?_
   refine tv ?_
   refine CWp.ret ?_
   refine ⟨_, _, [(46, some (.tree (ownCells false (Pat.cs (mkL Pat.one Pat.szM k l)))))], (.cons (.tmp rfl) .nil), (.eqd ?_), ⟨rfl, rfl⟩, (SubO.get ⟨.inr (by first | rfl | (obtain ⟨hg1, _⟩ := hg1; rw [List.append_nil] at hg1; subst hg1; show some (Res.tree _) = some (Res.tree _); simp [ownCells_nil, Pat.cs]; done)), ⟨.inl rfl, trivial⟩⟩), (boxOK rfl)⟩
   all_goals (first | rfl | (obtain ⟨hg1, hv⟩ := hg1; rw [List.append_nil] at hg1; subst hg1; rw [hv]))
theorem laws_markPattern_tr {v : Pat} {k : Int} (h0 : 0 < k) (h1 : k + szL Pat.szM v.kids ≤ 1000000000000) (hok : v.ok) : FnD Try.prog 41 [.agg [.d (.i v.op), .d (.i v.ctor), .d (.i v.n), .d (.i v.m), .d (.i v.var), .ms 46 v.kids.length], .d (.i k)] [(46, some (.tree (ownCells false (Pat.cs v.kids))))]
  (.d (.i (k + szL Pat.szM v.kids))) [(46, some (.tree (ownCells false (Pat.cs (mkL Pat.one Pat.szM k v.kids)))))] := by
 rw [Pat.ok_iff] at hok
 refine Fn.body (fn := Try.f41) (n := 10) rfl rfl rfl rfl rfl (fun w0 F0 own kept hk => ?_)
 refine sr ?_
 refine Walk.box (id := 3002) .none rfl rfl rfl (by first | rfl | (simp only [freshB, occH, occE, Res.ids, List.cons_append, List.nil_append, AV.idsL, AV.ids, idsL_append, ownCells_ids, zerosA_idsR, repNil, List.map_cons, List.map_nil, upC]; rfl)) (by first | rfl | (simp only [freshB, occH, occE, Res.ids, List.cons_append, List.nil_append, AV.idsL, AV.ids, idsL_append, ownCells_ids, zerosA_idsR, repNil, List.map_cons, List.map_nil, upC]; rfl)) (by first | rfl | (simp only [freshB, occH, occE, Res.ids, List.cons_append, List.nil_append, AV.idsL, AV.ids, idsL_append, ownCells_ids, zerosA_idsR, repNil, List.map_cons, List.map_nil, upC]; rfl)) (by first | rfl | (simp only [freshB, occH, occE, Res.ids, List.cons_append, List.nil_append, AV.idsL, AV.ids, idsL_append, ownCells_ids, zerosA_idsR, repNil, List.map_cons, List.map_nil, upC]; rfl)) ?_
 refine asg ?_
 refine tv ?_
 refine sr ?_
 refine Walk.fieldB fd70_5 .none rfl rfl ?_
 refine Walk.loadB ty68 .none rfl rfl rfl rfl ?_
 refine mv ?_
 refine Walk.call (cr := []) cal77 (laws_markPatternS_tr _ (Nat.le_refl _) h0 h1 hok.1 hok.2) rfl .none rfl rfl (.cons (LeA.msn (by first | rfl | (simp; done))) (.cons (.refl _) .nil)) ⟨rfl, trivial⟩ rfl (by first | rfl | (simp only [okCall, List.all_cons, List.all_nil, entOK, entOK', AV.idsL, AV.ids, idsL_append, ownCells_ids, List.map_cons, List.map_nil]; rfl)) (by first | rfl | (simp only [freshB, occH, occE, Res.ids, List.cons_append, List.nil_append, AV.idsL, AV.ids, idsL_append, ownCells_ids, zerosA_idsR, repNil, List.map_cons, List.map_nil, upC]; rfl)) ?_
 refine asg ?_
 refine tv ?_
 refine sr ?_
 refine mv ?_
 refine asg ?_
 refine tv ?_
 refine CWp.ret ?_
 refine ⟨_, _, [(46, some (.tree (ownCells false (Pat.cs (mkL Pat.one Pat.szM k v.kids)))))], (.cons (.tmp rfl) .nil), (.eqd ?_), ⟨rfl, rfl⟩, (SubO.get ⟨.inr (by rfl), ⟨.inl rfl, trivial⟩⟩), (boxOK rfl)⟩
 all_goals (first | rfl | (simp []; done) | (simp_all; done) | (simp_all; omega) | omega)
end Go.Proofs.Ytadpcmcifbakoaa
