/-
  WALKS: the laws' measures, copies, comparisons and marks of a recursive type: Val.
-/
import Derived.Test.YtadpcmcifbakoaaF12
import Derived.Test.YtadpcmcifbakoaaF5
import Derived.Test.YtadpcmcifbakoaaAmY
namespace Go.Proofs.Ytadpcmcifbakoaa
open Go
set_option linter.unusedSimpArgs false
set_option linter.unusedVariables false
set_option maxRecDepth 100000
set_option maxHeartbeats 2000000

/-! ### equal to itself -/
mutual
theorem valEq_refl : ∀ v : Val, valEq v v = true
  | .mk _ _ ks => by simp [valEq, valsEq_refl ks]
theorem valsEq_refl : ∀ l : List Val, valsEq l l = true
  | [] => rfl
  | v :: r => by simp [valsEq, valEq_refl v, valsEq_refl r]
end
/-! ### cells -/
theorem own_vals_cons (m : Bool) (y : Val) (rest : List Val) : ownCells m (Val.cs (y :: rest)) = .d (.i y.ctor) :: .d (.i y.num) :: .own m (encVals y.kids) :: ownCells m (Val.cs rest) := by
  cases y; rfl
theorem own_vals_snoc (m : Bool) (l : List Val) (y : Val) : ownCells m (Val.cs (l ++ [y])) = ownCells m (Val.cs l) ++ [.d (.i y.ctor), .d (.i y.num), .own m (encVals y.kids)] := by
  rw [Val.cs_eq, List.map_append, ← Val.cs_eq, ownCells_append]
  congr 1
  cases y; rfl
theorem Val.c_len (v : Val) : v.c.length = 3 := by cases v; rfl
theorem Val.cs_rows {l : List Val} : ∀ x, x ∈ Val.cs l → x.length = 3 := by
  intro x hx
  rw [Val.cs_eq] at hx
  obtain ⟨y, _, rfl⟩ := List.mem_map.1 hx
  exact y.c_len
theorem Val.cs_nil (l : List Val) : Val.cs l = [] ↔ l = [] := by rw [Val.cs_eq]; simp
theorem own_vals_len (m : Bool) (l : List Val) : (ownCells m (Val.cs l)).length = l.length * 3 := by
  rw [ownCells_len (k := 3) Val.cs_rows, Val.cs_len]

/-! ### the measure -/
mutual
def mVal : Val → Nat
  | .mk _ _ ks => mVals ks
def mVals : List Val → Nat
  | [] => 0
  | v :: r => 1 + mVal v + mVals r
end
theorem mVal_eq (v : Val) : mVal v = mVals v.kids := by cases v; rfl
theorem mVals_eq : ∀ l : List Val, mVals l = l.length + (l.map mVal).sum
  | [] => rfl
  | v :: r => by simp only [mVals, mVals_eq r, List.length_cons, List.map_cons, List.sum_cons]; omega

theorem laws_szValueS_of {l : List Val} {left : Int} (h : l.length ≤ 1000000000000) (k0 : 0 ≤ left) (k1 : left ≤ 1000000000000)
    (hf : ∀ v ∈ l, ∀ q : Int, 0 ≤ q → q ≤ 1000000000000 → FnD Try.prog 27 [.agg [.d (.i v.ctor), .d (.i v.num), .d (encVals v.kids)], .d (.i q)] [] (.d (.i (szr q (mVal v)))) []) :
    FnD Try.prog 62 [.d (encVals l), .d (.i left)] [] (.d (.i (szr left (mVals l)))) [] := by
  have z := szr_or (left := left) (mVals l)
  rw [mVals_eq] at z ⊢
  refine Fn.body (fn := Try.f62) (n := 27) rfl rfl rfl rfl rfl (fun w0 F0 own kept hk => ?_)
  refine CWp.seq ?_
  refine CWp.region rfl ?_
  refine Walk.assign .none rfl rfl ?_
  refine ⟨trivial, ?_⟩
  refine CWp.seq ?_
  refine CWp.region rfl ?_
  refine Walk.move .none rfl rfl ?_
  refine Walk.move .none rfl rfl ?_
  refine Walk.len sl47 .none rfl rfl ?_
  refine Walk.subI .none rfl rfl rfl (by first | (constructor <;> omega) | (constructor <;> simp [Val.cs_len] <;> omega)) ?_
  refine Walk.assign .none rfl rfl ?_
  refine ⟨trivial, ?_⟩
  refine CWp.seq ?_
  refine CWp.seq ?_
  refine CWp.region rfl ?_
  refine Walk.move .none rfl rfl ?_
  refine Walk.ltI .none rfl rfl rfl ?_
  refine ⟨trivial, ?_⟩
  refine CWp.cond rfl (fun h1 => ?_) (fun h1 => ?_)
  · have h1p := h1; have h1s := h1; try simp only [q1, q2, q5] at h1s
    try simp only [q1, q2, q3, q4, q5, q6, q7, q8, Val.cs_len] at h1p
    refine CWp.seq ?_
    refine CWp.region rfl ?_
    refine Walk.assign .none rfl rfl ?_
    refine ⟨trivial, ?_⟩
    refine CWp.ret ?_
    refine ⟨_, _, [], (.cons (.tmp rfl) .nil), (.eqd ?_), ⟨rfl, rfl⟩, HSub.nil, noBox⟩
    all_goals (refine congrArg D.i ?_; first | omega | (have e := sum_split (f := mVal) hg1.1; have z3 := szr_or (left := v) (mVal y); simp only [Val.cs_len] at *; omega) | (rw [List.append_nil] at hg1; rw [hg1.1] at hg1; simp only [Val.cs_len] at *; omega) | (simp only [Val.cs_len] at *; omega))
  · have h1p := h1; have h1s := h1; try simp only [q1, q2, q5] at h1s
    try simp only [q1, q2, q3, q4, q5, q6, q7, q8, Val.cs_len] at h1p
    refine CWp.skip ?_
    refine CWp.seq ?_
    refine CWp.seq ?_
    refine CWp.region rfl ?_
    refine Walk.assign .none rfl rfl ?_
    refine ⟨trivial, ?_⟩
    refine CWp.block ?_
    refine CWp.loopX (ι := List (Val) × List (Val) × (Int)) hk (fun x => [(5, .d (.i (x.1.length : Int))), (1, .d (.i x.2.2))]) [4, 12, 13, 14, 15, 16, 17, 18, 19, 20, 21, 22, 23, 24, 25] (fun x => []) (fun x => x.1 ++ x.2.1 = l ∧ x.2.2 = left - l.length - (x.1.map mVal).sum ∧ 0 ≤ x.2.2) (fun x => x.2.1.length) ([], l, left - l.length) ⟨by simp, by simp, by simp [Val.cs_len] at *; omega⟩ ⟨⟨_, rfl, (LeA.eqi (by first | rfl | (simp; done) | (simp [Val.cs_len]; done)))⟩, ⟨⟨_, rfl, (LeA.eqi (by first | rfl | (simp; done) | (simp [Val.cs_len]; done)))⟩, trivial⟩⟩ trivial (fun x => rfl) (fun x hg1 => ?_)
    obtain ⟨pre, rest, v⟩ := x
    dsimp only at hg1 ⊢
    refine CWp.seq ?_
    refine CWp.seq ?_
    refine CWp.region rfl ?_
    refine Walk.move .none rfl rfl ?_
    refine Walk.move .none rfl rfl ?_
    refine Walk.len sl47 .none rfl rfl ?_
    refine Walk.ltI .none rfl rfl rfl ?_
    refine ⟨trivial, ?_⟩
    refine CWp.cond rfl (fun h2 => ?_) (fun h2 => ?_)
    · have h2p := h2; have h2s := h2; try simp only [q1, q2, q5] at h2s
      try simp only [q1, q2, q3, q4, q5, q6, q7, q8, Val.cs_len] at h2p
      rcases rest with _ | ⟨y, rest⟩
      · exfalso; simp_all
      refine CWp.skip ?_
      refine CWp.seq ?_
      refine CWp.block ?_
      refine CWp.seq ?_
      refine CWp.region rfl ?_
      refine Walk.move .none rfl rfl ?_
      refine Walk.move .none rfl rfl ?_
      refine Walk.idx sl47 .none rfl rfl rfl rfl (Val.cs_at hg1.1) rfl ?_
      refine Walk.loadPA ty49 .none rfl rfl rfl rfl ?_
      refine Walk.move .none rfl rfl ?_
      refine Walk.call (cr := []) cal27 (hf y (by rw [← hg1.1]; simp) _ (by omega) (by omega)) rfl .none rfl rfl (LeL.refl _) trivial rfl rfl rfl ?_
      refine Walk.assign .none rfl rfl ?_
      refine ⟨trivial, ?_⟩
      refine CWp.seq ?_
      refine CWp.region rfl ?_
      refine Walk.move .none rfl rfl ?_
      refine Walk.ltI .none rfl rfl rfl ?_
      refine ⟨trivial, ?_⟩
      refine CWp.cond rfl (fun h3 => ?_) (fun h3 => ?_)
      · have h3p := h3; have h3s := h3; try simp only [q1, q2, q5] at h3s
        try simp only [q1, q2, q3, q4, q5, q6, q7, q8, Val.cs_len] at h3p
        refine CWp.seq ?_
        refine CWp.region rfl ?_
        refine Walk.assign .none rfl rfl ?_
        refine ⟨trivial, ?_⟩
        refine CWp.ret ?_
        refine ⟨_, _, [], (.cons (.tmp rfl) .nil), (.eqd ?_), ⟨rfl, rfl⟩, HSub.nil, noBox⟩
        all_goals (refine congrArg D.i ?_; first | omega | (have e := sum_split (f := mVal) hg1.1; have z3 := szr_or (left := v) (mVal y); simp only [Val.cs_len] at *; omega) | (rw [List.append_nil] at hg1; rw [hg1.1] at hg1; simp only [Val.cs_len] at *; omega) | (simp only [Val.cs_len] at *; omega))
      · have h3p := h3; have h3s := h3; try simp only [q1, q2, q5] at h3s
        try simp only [q1, q2, q3, q4, q5, q6, q7, q8, Val.cs_len] at h3p
        refine CWp.skip ?_
        refine CWp.region rfl ?_
        refine Walk.move .none rfl rfl ?_
        refine Walk.addI .none rfl rfl rfl (by first | (constructor <;> omega) | (constructor <;> simp [Val.cs_len] <;> omega)) ?_
        refine Walk.assign .none rfl rfl ?_
        refine ⟨trivial, ?_⟩
        refine ⟨(pre ++ [y], rest, szr v (mVal y)), ⟨(by have hz := hg1.1; rw [← hz]; simp), (by have e := sum_split (f := mVal) hg1.1; have z3 := szr_or (left := v) (mVal y); simp; omega)⟩, (by simp), Sub.x (by kernel_rfl) (by kernel_rfl) ⟨⟨_, rfl, (LeA.eqi (by first | rfl | (simp; done) | (simp [Val.cs_len]; done)))⟩, ⟨⟨_, rfl, (LeA.eqi (by first | rfl | (simp; done) | (simp [Val.cs_len]; done)))⟩, trivial⟩⟩ (by kernel_rfl) (by kernel_rfl) trivial⟩
    · have h2p := h2; have h2s := h2; try simp only [q1, q2, q5] at h2s
      try simp only [q1, q2, q3, q4, q5, q6, q7, q8, Val.cs_len] at h2p
      have hrest : rest = [] := by
        rcases rest with _ | ⟨a, b⟩
        · rfl
        · exfalso; have hz := congrArg List.length (hg1.1); simp only [List.length_append, List.length_cons, List.length_map] at hz; omega
      subst hrest
      refine CWp.exit ?_
      refine CWp.seq ?_
      refine CWp.region rfl ?_
      refine Walk.move .none rfl rfl ?_
      refine Walk.assign .none rfl rfl ?_
      refine ⟨trivial, ?_⟩
      refine CWp.ret ?_
      refine ⟨_, _, [], (.cons (.tmp rfl) .nil), (.eqd ?_), ⟨rfl, rfl⟩, HSub.nil, noBox⟩
      all_goals (refine congrArg D.i ?_; first | omega | (have e := sum_split (f := mVal) hg1.1; have z3 := szr_or (left := v) (mVal y); simp only [Val.cs_len] at *; omega) | (rw [List.append_nil] at hg1; rw [hg1.1] at hg1; simp only [Val.cs_len] at *; omega) | (simp only [Val.cs_len] at *; omega))

theorem laws_szValue_fn : ∀ (n : Nat) {v : Val} {left : Int}, v.size ≤ n → v.ok → 0 ≤ left → left ≤ 1000000000000 → FnD Try.prog 27 [.agg [.d (.i v.ctor), .d (.i v.num), .d (encVals v.kids)], .d (.i left)] [] (.d (.i (szr left (mVal v)))) []
  | 0, v, left, h, _, _, _ => by rw [Val.size_eq] at h; omega
  | n + 1, v, left, h, hok, k0, k1 => by
    rw [Val.size_eq] at h
    rw [Val.ok_iff] at hok
    rw [mVal_eq]
    have z := szr_or (left := left) (mVals v.kids)
    refine Fn.body (fn := Try.f27) (n := 12) rfl rfl rfl rfl rfl (fun w0 F0 own kept hk => ?_)
    refine CWp.seq ?_
    refine CWp.region rfl ?_
    refine Walk.box (id := 3002) .none rfl rfl rfl rfl rfl rfl rfl ?_
    refine Walk.assign .none rfl rfl ?_
    refine ⟨trivial, ?_⟩
    refine CWp.seq ?_
    refine CWp.region rfl ?_
    refine Walk.fieldB fd49_2 .none rfl rfl ?_
    refine Walk.loadB ty47 .none rfl rfl rfl rfl ?_
    refine Walk.move .none rfl rfl ?_
    refine Walk.call (cr := []) cal62 (laws_szValueS_of hok.1 k0 k1 (fun x hx q q0 q1 => laws_szValue_fn n (by have := Vals.size_mem hx; omega) (Vals.ok_mem hok.2 x hx) q0 q1)) rfl .none rfl rfl (LeL.refl _) trivial rfl rfl rfl ?_
    refine Walk.assign .none rfl rfl ?_
    refine ⟨trivial, ?_⟩
    refine CWp.seq ?_
    refine CWp.seq ?_
    refine CWp.region rfl ?_
    refine Walk.move .none rfl rfl ?_
    refine Walk.ltI .none rfl rfl rfl ?_
    refine ⟨trivial, ?_⟩
    refine CWp.cond rfl (fun h1 => ?_) (fun h1 => ?_)
    · have h1p := h1; have h1s := h1; try simp only [q1, q2, q5] at h1s
      try simp only [q1, q2, q3, q4, q5, q6, q7, q8] at h1p
      refine CWp.seq ?_
      refine CWp.region rfl ?_
      refine Walk.assign .none rfl rfl ?_
      refine ⟨trivial, ?_⟩
      refine CWp.ret ?_
      refine ⟨_, _, [], (.cons (.tmp rfl) .nil), (.eqd ?_), ⟨rfl, rfl⟩, HSub.nil, noBox⟩
      all_goals (refine congrArg D.i ?_; omega)
    · have h1p := h1; have h1s := h1; try simp only [q1, q2, q5] at h1s
      try simp only [q1, q2, q3, q4, q5, q6, q7, q8] at h1p
      refine CWp.skip ?_
      refine CWp.seq ?_
      refine CWp.region rfl ?_
      refine Walk.move .none rfl rfl ?_
      refine Walk.assign .none rfl rfl ?_
      refine ⟨trivial, ?_⟩
      refine CWp.ret ?_
      refine ⟨_, _, [], (.cons (.tmp rfl) .nil), (.eqd ?_), ⟨rfl, rfl⟩, HSub.nil, noBox⟩
      all_goals (refine congrArg D.i ?_; omega)

theorem laws_szValueS_fn {l : List Val} {left : Int} (h : l.length ≤ 1000000000000) (hok : Vals.ok l) (k0 : 0 ≤ left) (k1 : left ≤ 1000000000000) :
    FnD Try.prog 62 [.d (encVals l), .d (.i left)] [] (.d (.i (szr left (mVals l)))) [] :=
  laws_szValueS_of h k0 k1 (fun x hx q q0 q1 => laws_szValue_fn _ (Nat.le_refl _) (Vals.ok_mem hok x hx) q0 q1)

/-! ### copies -/
theorem laws_toValueS_of {l : List Val} (h : l.length ≤ 1000000000000)
    (hf : ∀ v ∈ l, FnD Try.prog 29 [.agg [.d (.i v.ctor), .d (.i v.num), .d (encVals v.kids)]] [] (.agg [.d (.i v.ctor), .d (.i v.num), .ms 64 v.kids.length]) [(64, some (.tree (ownCells false (Val.cs v.kids))))]) :
    FnD Try.prog 64 [.d (encVals l)] [] (.ms 64 l.length) [(64, some (.tree (ownCells false (Val.cs l))))] := by
  have hf2 : ∀ v ∈ l, FnD Try.prog 29 [.agg [.d (.i v.ctor), .d (.i v.num), .d (encVals v.kids)]] [] (.agg [.d (.i v.ctor), .d (.i v.num), .ms 65 v.kids.length]) [(65, some (.tree (ownCells false (Val.cs v.kids))))] := fun v hv => FnD.out_ren (ownCells_ids _ _) rfl (hf v hv) 65
  refine Fn.body (fn := Try.f64) (n := 23) rfl rfl rfl rfl rfl (fun w0 F0 own kept hk => ?_)
  refine CWp.seq ?_
  refine CWp.region rfl ?_
  refine Walk.assign .none rfl rfl ?_
  refine ⟨trivial, ?_⟩
  refine CWp.seq ?_
  refine CWp.region rfl ?_
  refine Walk.move .none rfl rfl ?_
  refine Walk.len sl47 .none rfl rfl ?_
  refine Walk.make (id := 64) sl52 tz54 rfl (by decide) (zerosA_ids rfl) .none rfl rfl rfl (by simp [Val.cs_len]; omega) (by simp [Val.cs_len]; omega) rfl rfl rfl ?_
  refine Walk.assign .none rfl rfl ?_
  refine ⟨trivial, ?_⟩
  refine CWp.seq ?_
  refine CWp.seq ?_
  refine CWp.boxTree 64 false rfl (zerosA_map _ _ _) ?_
  refine CWp.region rfl ?_
  refine Walk.assign .none rfl rfl ?_
  refine ⟨trivial, ?_⟩
  refine CWp.block ?_
  refine CWp.loopX (ι := List (Val) × List (Val)) hk (fun x => [(4, .d (.i (x.1.length : Int)))]) [8, 9, 10, 11, 12, 13, 14, 15, 16, 17, 18, 19, 20, 21] (fun x => [(64, some (.tree (ownCells false (Val.cs x.1) ++ zerosA x.2.length [.d (.i 0), .d (.i 0), .own false (.sl [])])))]) (fun x => x.1 ++ x.2 = l) (fun x => x.2.length) ([], l) (by simp) ⟨⟨_, rfl, (LeA.eqi (by first | rfl | (simp; done) | (simp_all; done) | omega))⟩, trivial⟩ ⟨(by first | rfl | (show some (Res.tree _) = some (Res.tree _); rw [own_vals_snoc, List.append_assoc]; rfl) | (show some (Res.tree _) = some (Res.tree _); simp [ownCells_nil, Val.cs_len]; rfl)), trivial⟩ (fun x => rfl) (fun x hg1 => ?_)
  obtain ⟨pre, rest⟩ := x
  dsimp only at hg1 ⊢
  refine CWp.seq ?_
  refine CWp.seq ?_
  refine CWp.region rfl ?_
  refine Walk.move .none rfl rfl ?_
  refine Walk.move .none rfl rfl ?_
  refine Walk.len sl47 .none rfl rfl ?_
  refine Walk.ltI .none rfl rfl rfl ?_
  refine ⟨trivial, ?_⟩
  refine CWp.cond rfl (fun h1 => ?_) (fun h1 => ?_)
  · have h1p := h1; have h1s := h1; try simp only [q1, q2, q5] at h1s
    try simp only [q1, q2, q3, q4, q5, q6, q7, q8, Val.cs_len] at h1p
    rcases rest with _ | ⟨y, rest⟩
    · exfalso; simp_all
    refine CWp.skip ?_
    refine CWp.seq ?_
    refine CWp.block ?_
    refine CWp.region rfl ?_
    refine Walk.move .none rfl rfl ?_
    refine Walk.move .none rfl rfl ?_
    refine Walk.move .none rfl rfl ?_
    refine Walk.move .none rfl rfl ?_
    refine Walk.idx sl47 .none rfl rfl rfl rfl (Val.cs_at hg1) rfl ?_
    refine Walk.loadPA ty49 .none rfl rfl rfl rfl ?_
    refine Walk.call (cr := [65]) cal29 (hf2 y (by rw [← hg1]; simp)) rfl .none rfl rfl (LeL.refl _) trivial rfl (by first | rfl | (simp only [okCall, List.all_cons, List.all_nil, entOK, entOK', AV.idsL, AV.ids, idsL_append, ownCells_ids, List.map_cons, List.map_nil]; rfl)) (by first | rfl | (simp only [freshB, occH, occE, Res.ids, List.cons_append, List.nil_append, AV.idsL, AV.ids, idsL_append, ownCells_ids, zerosA_idsR, repNil, List.map_cons, List.map_nil, upC]; rfl)) ?_
    refine Walk.idxM sl52 .none rfl rfl rfl rfl (by first | omega | (simp [Val.cs_len]; omega)) ?_
    refine Walk.storeT ty54 .none rfl rfl rfl rfl rfl rfl (by simp) ((putC_fill (own_vals_len false _) rfl)) ?_
    refine ⟨trivial, ?_⟩
    refine CWp.merge hk 64 (pre.length * 3 + 2) 65 3 _ rfl (cell_off (own_vals_len false _) rfl) (by simp [mkL_len, Val.cs_len]) rfl Val.cs_rows rfl rfl (putC_off (own_vals_len false _) (putC_set rfl)) ?_
    refine CWp.region rfl ?_
    refine Walk.move .none rfl rfl ?_
    refine Walk.addI .none rfl rfl rfl (by first | (constructor <;> omega) | (constructor <;> simp <;> omega)) ?_
    refine Walk.assign .none rfl rfl ?_
    refine ⟨trivial, ?_⟩
    refine ⟨(pre ++ [y], rest), (by have hz := hg1; rw [← hz]; simp), (by simp), Sub.x (by kernel_rfl) (by kernel_rfl) ⟨⟨_, rfl, (LeA.eqi (by first | rfl | (simp; done) | (simp_all; done) | omega))⟩, trivial⟩ (by kernel_rfl) (by kernel_rfl) ⟨(by first | rfl | (show some (Res.tree _) = some (Res.tree _); rw [own_vals_snoc, List.append_assoc]; rfl) | (show some (Res.tree _) = some (Res.tree _); simp [ownCells_nil, Val.cs_len]; rfl)), trivial⟩⟩
  · have h1p := h1; have h1s := h1; try simp only [q1, q2, q5] at h1s
    try simp only [q1, q2, q3, q4, q5, q6, q7, q8, Val.cs_len] at h1p
    have hrest : rest = [] := by
      rcases rest with _ | ⟨a, b⟩
      · rfl
      · exfalso; have hz := congrArg List.length (hg1); simp only [List.length_append, List.length_cons, List.length_map] at hz; omega
    subst hrest
    refine CWp.exit ?_
    refine CWp.seq ?_
    refine CWp.region rfl ?_
    refine Walk.move .none rfl rfl ?_
    refine Walk.assign .none rfl rfl ?_
    refine ⟨trivial, ?_⟩
    refine CWp.ret ?_
    refine ⟨_, _, [(64, some (.tree (ownCells false (Val.cs l))))], (.cons (.tmp rfl) .nil), (LeA.msn ?_), ⟨rfl, rfl⟩, (SubH.get ⟨(by first | rfl | (rw [List.append_nil] at hg1; subst hg1; show some (Res.tree _) = some (Res.tree _); simp [zerosA]; done)), trivial⟩), (boxOK rfl)⟩
    all_goals (first | rfl | (simp [Val.cs_len]; done))

theorem laws_toValue_tr : ∀ (n : Nat) {v : Val}, v.size ≤ n → v.ok → FnD Try.prog 29 [.agg [.d (.i v.ctor), .d (.i v.num), .d (encVals v.kids)]] [] (.agg [.d (.i v.ctor), .d (.i v.num), .ms 64 v.kids.length]) [(64, some (.tree (ownCells false (Val.cs v.kids))))]
  | 0, v, h, _ => by rw [Val.size_eq] at h; omega
  | n + 1, v, h, hok => by
    rw [Val.size_eq] at h
    rw [Val.ok_iff] at hok
    refine Fn.body (fn := Try.f29) (n := 15) rfl rfl rfl rfl rfl (fun w0 F0 own kept hk => ?_)
    refine CWp.seq ?_
    refine CWp.region rfl ?_
    refine Walk.box (id := 3001) .none rfl rfl rfl rfl rfl rfl rfl ?_
    refine Walk.alloc (id := 3002) tz54 rfl .none rfl rfl rfl rfl ?_
    refine ⟨trivial, ?_⟩
    refine CWp.seq ?_
    refine CWp.region rfl ?_
    refine Walk.alloc (id := 3003) tz54 rfl .none rfl rfl rfl rfl ?_
    refine ⟨trivial, ?_⟩
    refine CWp.seq ?_
    refine CWp.region rfl ?_
    refine Walk.fieldB fd49_0 .none rfl rfl ?_
    refine Walk.loadB ty3 .none rfl rfl rfl rfl ?_
    refine Walk.fieldB fd54_0 .none rfl rfl ?_
    refine Walk.store ty3 .none rfl rfl rfl rfl rfl rfl (by simp) rfl ?_
    refine ⟨trivial, ?_⟩
    refine CWp.seq ?_
    refine CWp.region rfl ?_
    refine Walk.fieldB fd49_1 .none rfl rfl ?_
    refine Walk.loadB ty3 .none rfl rfl rfl rfl ?_
    refine Walk.fieldB fd54_1 .none rfl rfl ?_
    refine Walk.store ty3 .none rfl rfl rfl rfl rfl rfl (by simp) rfl ?_
    refine ⟨trivial, ?_⟩
    refine CWp.seq ?_
    refine CWp.region rfl ?_
    refine Walk.fieldB fd49_2 .none rfl rfl ?_
    refine Walk.loadB ty47 .none rfl rfl rfl rfl ?_
    refine Walk.call (cr := [64]) cal64 (laws_toValueS_of hok.1 (fun x hx => laws_toValue_tr n (by have := Vals.size_mem hx; omega) (Vals.ok_mem hok.2 x hx))) rfl .none rfl rfl (LeL.refl _) trivial rfl (by first | rfl | (simp only [okCall, List.all_cons, List.all_nil, entOK, entOK', AV.idsL, AV.ids, idsL_append, ownCells_ids, List.map_cons, List.map_nil]; rfl)) (by first | rfl | (simp only [freshB, occH, occE, Res.ids, List.cons_append, List.nil_append, AV.idsL, AV.ids, idsL_append, ownCells_ids, zerosA_idsR, repNil, List.map_cons, List.map_nil, upC]; rfl)) ?_
    refine Walk.fieldB fd54_2 .none rfl rfl ?_
    refine Walk.store ty52 .none rfl rfl rfl rfl rfl rfl (by simp) rfl ?_
    refine ⟨trivial, ?_⟩
    refine CWp.seq ?_
    refine CWp.region rfl ?_
    refine Walk.loadBA ty54 .none rfl rfl rfl rfl ?_
    refine Walk.store ty54 .none rfl rfl rfl rfl rfl rfl (by simp) rfl ?_
    refine ⟨trivial, ?_⟩
    refine CWp.ret ?_
    refine ⟨_, _, [(64, some (.tree (ownCells false (Val.cs v.kids))))], (.cons (.cellA ty54 rfl rfl rfl) .nil), (.agg (.cons (.eqd ?_) (.cons (.eqd ?_) (.cons (LeA.msn ?_) .nil)))), ⟨rfl, rfl⟩, (SubH.get ⟨rfl, trivial⟩), (boxOK rfl)⟩
    all_goals (first | rfl | (simp []; done) | (simp_all; done) | (simp_all; omega) | omega)

theorem laws_toValue_fn {v : Val} (hok : v.ok) : FnD Try.prog 29 [.agg [.d (.i v.ctor), .d (.i v.num), .d (encVals v.kids)]] [] (.agg [.d (.i v.ctor), .d (.i v.num), .d (encVals v.kids)]) [] :=
  FnD.out_frz (k := 3) Val.cs_rows (by simp [soleN, soleN.soleNL, Val.cs_len]) (laws_toValue_tr _ (Nat.le_refl _) hok)
theorem laws_toValueS_tr {l : List Val} (h : l.length ≤ 1000000000000) (hok : Vals.ok l) : FnD Try.prog 64 [.d (encVals l)] [] (.ms 64 l.length) [(64, some (.tree (ownCells false (Val.cs l))))] :=
  laws_toValueS_of h (fun x hx => laws_toValue_tr _ (Nat.le_refl _) (Vals.ok_mem hok x hx))
theorem laws_toValueS_fn {l : List Val} (h : l.length ≤ 1000000000000) (hok : Vals.ok l) : FnD Try.prog 64 [.d (encVals l)] [] (.d (encVals l)) [] :=
  FnD.out_frz (k := 3) Val.cs_rows (by simp [soleN, Val.cs_len]) (laws_toValueS_tr h hok)

/-! ### comparisons -/
theorem laws_eqValueS_of {l m : List Val} (h : l.length ≤ 1000000000000)
    (hf : ∀ a ∈ l, ∀ b : Val, FnD Try.prog 31 [.agg [.d (.i a.ctor), .d (.i a.num), .d (encVals a.kids)], .agg [.d (.i b.ctor), .d (.i b.num), .d (encVals b.kids)]] [] (.d (.bool (valEq a b))) []) :
    FnD Try.prog 68 [.d (encVals l), .d (encVals m)] [] (.d (.bool (valsEq l m))) [] := by
  refine Fn.body (fn := Try.f68) (n := 27) rfl rfl rfl rfl rfl (fun w0 F0 own kept hk => ?_)
  refine CWp.seq ?_
  refine CWp.region rfl ?_
  refine Walk.assign .none rfl rfl ?_
  refine ⟨trivial, ?_⟩
  refine CWp.seq ?_
  refine CWp.seq ?_
  refine CWp.region rfl ?_
  refine Walk.move .none rfl rfl ?_
  refine Walk.len sl52 .none rfl rfl ?_
  refine Walk.move .none rfl rfl ?_
  refine Walk.len sl52 .none rfl rfl ?_
  refine Walk.neI .none rfl rfl rfl ?_
  refine ⟨trivial, ?_⟩
  refine CWp.cond rfl (fun h1 => ?_) (fun h1 => ?_)
  · have h1p := h1; have h1s := h1; try simp only [q1, q2, q5] at h1s
    try simp only [q1, q2, q3, q4, q5, q6, q7, q8, Int.natCast_inj, Val.cs_len] at h1p
    refine CWp.seq ?_
    refine CWp.region rfl ?_
    refine Walk.assign .none rfl rfl ?_
    refine ⟨trivial, ?_⟩
    refine CWp.ret ?_
    refine ⟨_, _, [], (.cons (.tmp rfl) .nil), (.eqd ?_), ⟨rfl, rfl⟩, HSub.nil, noBox⟩
    all_goals (refine congrArg D.bool ?_; first | (refine (valsEq_len ?_).symm; omega) | (refine (valsEq_nth_true (by omega) (fun x hx => hg1.2 x (by omega))).symm) | (refine (valsEq_nth_false (i := i) (by omega) ?_).symm; assumption))
  · have h1p := h1; have h1s := h1; try simp only [q1, q2, q5] at h1s
    try simp only [q1, q2, q3, q4, q5, q6, q7, q8, Int.natCast_inj, Val.cs_len] at h1p
    refine CWp.skip ?_
    refine CWp.seq ?_
    refine CWp.seq ?_
    refine CWp.region rfl ?_
    refine Walk.assign .none rfl rfl ?_
    refine ⟨trivial, ?_⟩
    refine CWp.block ?_
    refine CWp.loopX (ι := Nat) hk (fun i => [(5, .d (.i (i : Int)))]) [4, 11, 12, 13, 14, 15, 16, 17, 18, 19, 20, 21, 22, 23, 24, 25, 26] (fun i => []) (fun i => i ≤ l.length ∧ ∀ i', i' < i → valEq (nth l i') (nth m i') = true) (fun i => l.length - i) 0 ⟨by omega, fun _ h => absurd h (by omega)⟩ ⟨⟨_, rfl, (LeA.eqi (by first | rfl | (simp; done) | (simp_all; done) | omega))⟩, trivial⟩ trivial (fun x => rfl) (fun i hg1 => ?_)
    refine CWp.seq ?_
    refine CWp.seq ?_
    refine CWp.region rfl ?_
    refine Walk.move .none rfl rfl ?_
    refine Walk.move .none rfl rfl ?_
    refine Walk.len sl52 .none rfl rfl ?_
    refine Walk.ltI .none rfl rfl rfl ?_
    refine ⟨trivial, ?_⟩
    refine CWp.cond rfl (fun h2 => ?_) (fun h2 => ?_)
    · have h2p := h2; have h2s := h2; try simp only [q1, q2, q5] at h2s
      try simp only [q1, q2, q3, q4, q5, q6, q7, q8, Int.natCast_inj, Val.cs_len] at h2p
      refine CWp.skip ?_
      refine CWp.seq ?_
      refine CWp.block ?_
      refine CWp.seq ?_
      refine CWp.drawn mixed rfl ?_
      refine Walk.move .none rfl rfl ?_
      refine Walk.move .none rfl rfl ?_
      refine Walk.idx sl52 .none rfl rfl rfl rfl (vals_at (by omega)) rfl ?_
      refine Walk.loadPA ty54 .none rfl rfl rfl rfl ?_
      refine Walk.move .none rfl rfl ?_
      refine Walk.move .none rfl rfl ?_
      refine Walk.idx sl52 .none rfl rfl rfl rfl (vals_at (by omega)) rfl ?_
      refine Walk.loadPA ty54 .none rfl rfl rfl rfl ?_
      refine Walk.call (cr := []) cal31 (hf _ (nth_mem (by omega)) _) rfl .none rfl rfl (LeL.refl _) trivial rfl rfl rfl ?_
      refine Walk.not .none rfl rfl ?_
      refine ⟨by show _ = _; kernel_rfl, ?_⟩
      refine CWp.cond rfl (fun h3 => ?_) (fun h3 => ?_)
      · have h3p := h3; have h3s := h3; try simp only [q1, q2, q5] at h3s
        try simp only [q1, q2, q3, q4, q5, q6, q7, q8, Int.natCast_inj, Val.cs_len] at h3p
        refine CWp.seq ?_
        refine CWp.region rfl ?_
        refine Walk.assign .none rfl rfl ?_
        refine ⟨trivial, ?_⟩
        refine CWp.ret ?_
        refine ⟨_, _, [], (.cons (.tmp rfl) .nil), (.eqd ?_), ⟨rfl, rfl⟩, HSub.nil, noBox⟩
        all_goals (refine congrArg D.bool ?_; first | (refine (valsEq_len ?_).symm; omega) | (refine (valsEq_nth_true (by omega) (fun x hx => hg1.2 x (by omega))).symm) | (refine (valsEq_nth_false (i := i) (by omega) ?_).symm; assumption))
      · have h3p := h3; have h3s := h3; try simp only [q1, q2, q5] at h3s
        try simp only [q1, q2, q3, q4, q5, q6, q7, q8, Int.natCast_inj, Val.cs_len] at h3p
        refine CWp.skip ?_
        refine CWp.region rfl ?_
        refine Walk.move .none rfl rfl ?_
        refine Walk.addI .none rfl rfl rfl (by first | (constructor <;> omega) | (constructor <;> simp <;> omega)) ?_
        refine Walk.assign .none rfl rfl ?_
        refine ⟨trivial, ?_⟩
        refine ⟨i + 1, ⟨by omega, upto_succ hg1.2 (by assumption)⟩, (by omega), Sub.x (by kernel_rfl) (by kernel_rfl) ⟨⟨_, rfl, (LeA.eqi (by first | rfl | (simp; done) | (simp_all; done) | omega))⟩, trivial⟩ (by kernel_rfl) (by kernel_rfl) trivial⟩
    · have h2p := h2; have h2s := h2; try simp only [q1, q2, q5] at h2s
      try simp only [q1, q2, q3, q4, q5, q6, q7, q8, Int.natCast_inj, Val.cs_len] at h2p
      refine CWp.exit ?_
      refine CWp.seq ?_
      refine CWp.region rfl ?_
      refine Walk.assign .none rfl rfl ?_
      refine ⟨trivial, ?_⟩
      refine CWp.ret ?_
      refine ⟨_, _, [], (.cons (.tmp rfl) .nil), (.eqd ?_), ⟨rfl, rfl⟩, HSub.nil, noBox⟩
      all_goals (refine congrArg D.bool ?_; first | (refine (valsEq_len ?_).symm; omega) | (refine (valsEq_nth_true (by omega) (fun x hx => hg1.2 x (by omega))).symm) | (refine (valsEq_nth_false (i := i) (by omega) ?_).symm; assumption))

theorem laws_eqValue_fn : ∀ (n : Nat) {a b : Val}, a.size ≤ n → a.ok → FnD Try.prog 31 [.agg [.d (.i a.ctor), .d (.i a.num), .d (encVals a.kids)], .agg [.d (.i b.ctor), .d (.i b.num), .d (encVals b.kids)]] [] (.d (.bool (valEq a b))) []
  | 0, a, b, h, _ => by rw [Val.size_eq] at h; omega
  | n + 1, a, b, h, hok => by
    rw [Val.size_eq] at h
    rw [Val.ok_iff] at hok
    rw [valEq_eq]
    refine Fn.body (fn := Try.f31) (n := 21) rfl rfl rfl rfl rfl (fun w0 F0 own kept hk => ?_)
    refine CWp.seq ?_
    refine CWp.region rfl ?_
    refine Walk.box (id := 3002) .none rfl rfl rfl rfl rfl rfl rfl ?_
    refine Walk.box (id := 3003) .none rfl rfl rfl rfl rfl rfl rfl ?_
    refine Walk.assign .none rfl rfl ?_
    refine ⟨trivial, ?_⟩
    refine CWp.seq ?_
    refine CWp.seq ?_
    refine CWp.region rfl ?_
    refine Walk.fieldB fd54_0 .none rfl rfl ?_
    refine Walk.loadB ty3 .none rfl rfl rfl rfl ?_
    refine Walk.fieldB fd54_0 .none rfl rfl ?_
    refine Walk.loadB ty3 .none rfl rfl rfl rfl ?_
    refine Walk.neI .none rfl rfl rfl ?_
    refine ⟨trivial, ?_⟩
    refine CWp.cond rfl (fun h1 => ?_) (fun h1 => ?_)
    · have h1p := h1; have h1s := h1; try simp only [q1, q2, q5] at h1s
      try simp only [q1, q2, q3, q4, q5, q6, q7, q8] at h1p
      refine CWp.seq ?_
      refine CWp.region rfl ?_
      refine Walk.assign .none rfl rfl ?_
      refine ⟨trivial, ?_⟩
      refine CWp.ret ?_
      refine ⟨_, _, [], (.cons (.tmp rfl) .nil), (.eqd ?_), ⟨rfl, rfl⟩, HSub.nil, noBox⟩
      all_goals (refine congrArg D.bool ?_; simp [h1s, h1p])
    · have h1p := h1; have h1s := h1; try simp only [q1, q2, q5] at h1s
      try simp only [q1, q2, q3, q4, q5, q6, q7, q8] at h1p
      refine CWp.skip ?_
      refine CWp.seq ?_
      refine CWp.seq ?_
      refine CWp.region rfl ?_
      refine Walk.fieldB fd54_1 .none rfl rfl ?_
      refine Walk.loadB ty3 .none rfl rfl rfl rfl ?_
      refine Walk.fieldB fd54_1 .none rfl rfl ?_
      refine Walk.loadB ty3 .none rfl rfl rfl rfl ?_
      refine Walk.neI .none rfl rfl rfl ?_
      refine ⟨trivial, ?_⟩
      refine CWp.cond rfl (fun h2 => ?_) (fun h2 => ?_)
      · have h2p := h2; have h2s := h2; try simp only [q1, q2, q5] at h2s
        try simp only [q1, q2, q3, q4, q5, q6, q7, q8] at h2p
        refine CWp.seq ?_
        refine CWp.region rfl ?_
        refine Walk.assign .none rfl rfl ?_
        refine ⟨trivial, ?_⟩
        refine CWp.ret ?_
        refine ⟨_, _, [], (.cons (.tmp rfl) .nil), (.eqd ?_), ⟨rfl, rfl⟩, HSub.nil, noBox⟩
        all_goals (refine congrArg D.bool ?_; simp [h1s, h1p, h2s, h2p])
      · have h2p := h2; have h2s := h2; try simp only [q1, q2, q5] at h2s
        try simp only [q1, q2, q3, q4, q5, q6, q7, q8] at h2p
        refine CWp.skip ?_
        refine CWp.seq ?_
        refine CWp.seq ?_
        refine CWp.region rfl ?_
        refine Walk.fieldB fd54_2 .none rfl rfl ?_
        refine Walk.loadB ty52 .none rfl rfl rfl rfl ?_
        refine Walk.fieldB fd54_2 .none rfl rfl ?_
        refine Walk.loadB ty52 .none rfl rfl rfl rfl ?_
        refine Walk.call (cr := []) cal68 (laws_eqValueS_of hok.1 (fun x hx y => laws_eqValue_fn n (by have := Vals.size_mem hx; omega) (Vals.ok_mem hok.2 x hx))) rfl .none rfl rfl (LeL.refl _) trivial rfl rfl rfl ?_
        refine Walk.not .none rfl rfl ?_
        refine ⟨trivial, ?_⟩
        refine CWp.cond rfl (fun h3 => ?_) (fun h3 => ?_)
        · have h3p := h3; have h3s := h3; try simp only [q1, q2, q5] at h3s
          try simp only [q1, q2, q3, q4, q5, q6, q7, q8] at h3p
          refine CWp.seq ?_
          refine CWp.region rfl ?_
          refine Walk.assign .none rfl rfl ?_
          refine ⟨trivial, ?_⟩
          refine CWp.ret ?_
          refine ⟨_, _, [], (.cons (.tmp rfl) .nil), (.eqd ?_), ⟨rfl, rfl⟩, HSub.nil, noBox⟩
          all_goals (refine congrArg D.bool ?_; simp [h1s, h1p, h2s, h2p, h3s, h3p])
        · have h3p := h3; have h3s := h3; try simp only [q1, q2, q5] at h3s
          try simp only [q1, q2, q3, q4, q5, q6, q7, q8] at h3p
          refine CWp.skip ?_
          refine CWp.seq ?_
          refine CWp.region rfl ?_
          refine Walk.assign .none rfl rfl ?_
          refine ⟨trivial, ?_⟩
          refine CWp.ret ?_
          refine ⟨_, _, [], (.cons (.tmp rfl) .nil), (.eqd ?_), ⟨rfl, rfl⟩, HSub.nil, noBox⟩
          all_goals (refine congrArg D.bool ?_; simp [h1s, h1p, h2s, h2p, h3s, h3p])

/-! ### marks -/
mutual
def Val.szM : Val → Int
  | .mk _ _ ks => 2 + Vals.szM ks
def Vals.szM : List Val → Int
  | [] => 0
  | v :: r => v.szM + Vals.szM r
end
mutual
def Val.one (k : Int) : Val → Val
  | .mk _ _ ks => .mk k (k + 1) (Vals.one (k + 1 + 1) ks)
def Vals.one (k : Int) : List Val → List Val
  | [] => []
  | v :: r => v.one k :: Vals.one (k + v.szM) r
end
theorem Vals.szM_eq : ∀ l : List Val, Vals.szM l = szL Val.szM l
  | [] => rfl
  | v :: r => by simp only [Vals.szM, szL, Vals.szM_eq r]
theorem Vals.one_eq : ∀ (l : List Val) (k : Int), Vals.one k l = mkL Val.one Val.szM k l
  | [], _ => rfl
  | v :: r, k => by simp only [Vals.one, mkL, Vals.one_eq r]
theorem Val.szM_kids (v : Val) : v.szM = 2 + szL Val.szM v.kids := by cases v; simp only [Val.szM, Val.kids, Vals.szM_eq]
theorem Val.one_kids (v : Val) (k : Int) : (v.one k).kids = mkL Val.one Val.szM (k + 1 + 1) v.kids := by cases v; simp only [Val.one, Val.kids, Vals.one_eq]
theorem Val.one_sc (v : Val) (k : Int) : (Val.one k v).ctor = k ∧ (Val.one k v).num = k + 1 := by cases v; exact ⟨rfl, rfl⟩
mutual
theorem Val.szM_nn : ∀ v : Val, 0 ≤ v.szM
  | .mk _ _ ks => by have := Vals.szM_nn ks; simp only [Val.szM]; omega
theorem Vals.szM_nn : ∀ l : List Val, 0 ≤ Vals.szM l
  | [] => by simp [Vals.szM]
  | v :: r => by have := Val.szM_nn v; have := Vals.szM_nn r; simp only [Vals.szM]; omega
end
mutual
theorem Val.szM_le : ∀ v : Val, v.szM ≤ 2 + 2 * (mVal v : Int)
  | .mk _ _ ks => by have := Vals.szM_le ks; simp only [Val.szM, mVal]; omega
theorem Vals.szM_le : ∀ l : List Val, Vals.szM l ≤ 2 * (mVals l : Int)
  | [] => by simp [Vals.szM, mVals]
  | v :: r => by have := Val.szM_le v; have := Vals.szM_le r; simp only [Vals.szM, mVals]; omega
end

theorem laws_markValueS_nil {l : List Val} {k : Int} (hl : l = []) : FnD Try.prog 69 [.d (.sl []), .d (.i k)] [] (.d (.i (k + szL Val.szM l))) [] := by
  subst hl
  refine Fn.body (fn := Try.f69) (n := 34) rfl rfl rfl rfl rfl (fun w0 F0 own kept hk => ?_)
  refine CWp.seq ?_
  refine CWp.region rfl ?_
  refine Walk.assign .none rfl rfl ?_
  refine ⟨trivial, ?_⟩
  refine CWp.seq ?_
  refine CWp.seq ?_
  refine CWp.region rfl ?_
  refine Walk.assign .none rfl rfl ?_
  refine ⟨trivial, ?_⟩
  refine CWp.block ?_
  refine CWp.loopX (ι := Unit) hk (fun x => [(5, .d (.i 0)), (1, .d (.i k))]) [6, 7, 8, 9, 10, 11, 12, 13, 14, 15, 16, 17, 18, 19, 20, 21, 22, 23, 24, 25, 26, 27, 28, 29, 30, 31, 32] (fun x => []) (fun x => True) (fun x => 0) () trivial ⟨⟨_, rfl, (LeA.eqi (by first | rfl | (simp; done) | (simp_all; done) | omega))⟩, ⟨⟨_, rfl, (LeA.eqi (by first | rfl | (simp; done) | (simp_all; done) | omega))⟩, trivial⟩⟩ trivial (fun x => rfl) (fun x hg1 => ?_)
  refine CWp.seq ?_
  refine CWp.seq ?_
  refine CWp.region rfl ?_
  refine Walk.move .none rfl rfl ?_
  refine Walk.move .none rfl rfl ?_
  refine Walk.len sl52 .none rfl rfl ?_
  refine Walk.ltI .none rfl rfl rfl ?_
  refine ⟨trivial, ?_⟩
  refine CWp.cond rfl (fun h1 => ?_) (fun h1 => ?_)
  · have h1p := h1; have h1s := h1; try simp only [q1, q2, q5] at h1s
    try simp only [q1, q2, q3, q4, q5, q6, q7, q8] at h1p
    exfalso; revert h1; simp --stop
  · have h1p := h1; have h1s := h1; try simp only [q1, q2, q5] at h1s
    try simp only [q1, q2, q3, q4, q5, q6, q7, q8] at h1p
    refine CWp.exit ?_
    refine CWp.seq ?_
    refine CWp.region rfl ?_
    refine Walk.move .none rfl rfl ?_
    refine Walk.assign .none rfl rfl ?_
    refine ⟨trivial, ?_⟩
    refine CWp.ret ?_
    refine ⟨_, _, [], (.cons (.tmp rfl) .nil), (.eqd ?_), ⟨rfl, rfl⟩, HSub.nil, noBox⟩
    all_goals (first | rfl | (simp [szL]; done))

theorem markValueS_ren {n : Nat} {k : Int} {r : D} {xs ys : List (List D)} (h : FnD Try.prog 69 [.ms 44 n, .d (.i k)] [(44, some (.tree (ownCells false xs)))] (.d r) [(44, some (.tree (ownCells false ys)))]) :
    FnD Try.prog 69 [.ms 45 n, .d (.i k)] [(45, some (.tree (ownCells false xs)))] (.d r) [(45, some (.tree (ownCells false ys)))] := FnD.ren rfl (ownCells_ids _ _) (ownCells_ids _ _) h 45
theorem laws_markValueS_tr : ∀ (n : Nat) {l : List Val} {k : Int}, Vals.size l ≤ n → 0 < k → k + szL Val.szM l ≤ 1000000000000 → l.length ≤ 1000000000000 → Vals.ok l → FnD Try.prog 69 [.ms 44 l.length, .d (.i k)] [(44, some (.tree (ownCells false (Val.cs l))))]
    (.d (.i (k + szL Val.szM l))) [(44, some (.tree (ownCells false (Val.cs (mkL Val.one Val.szM k l)))))] := by
  intro n
  induction n with
  | zero =>
    intro l k h h0 h1 hl hok
    have hl0 : l = [] := by
      cases l with
      | nil => rfl
      | cons v r => simp only [Vals.size, Val.size_eq] at h; omega
    subst hl0
    refine Fn.body (fn := Try.f69) (n := 34) rfl rfl rfl rfl rfl (fun w0 F0 own kept hk => ?_)
    refine CWp.seq ?_
    refine CWp.region rfl ?_
    refine Walk.assign .none rfl rfl ?_
    refine ⟨trivial, ?_⟩
    refine CWp.seq ?_
    refine CWp.seq ?_
    refine CWp.region rfl ?_
    refine Walk.assign .none rfl rfl ?_
    refine ⟨trivial, ?_⟩
    refine CWp.block ?_
    refine CWp.loopX (ι := Unit) hk (fun x => [(5, .d (.i 0)), (1, .d (.i k))]) [6, 7, 8, 9, 10, 11, 12, 13, 14, 15, 16, 17, 18, 19, 20, 21, 22, 23, 24, 25, 26, 27, 28, 29, 30, 31, 32] (fun x => []) (fun x => True) (fun x => 0) () trivial ⟨⟨_, rfl, (LeA.eqi (by first | rfl | (simp; done) | (simp_all; done) | omega))⟩, ⟨⟨_, rfl, (LeA.eqi (by first | rfl | (simp; done) | (simp_all; done) | omega))⟩, trivial⟩⟩ trivial (fun x => rfl) (fun x hg1 => ?_)
    refine CWp.seq ?_
    refine CWp.seq ?_
    refine CWp.region rfl ?_
    refine Walk.move .none rfl rfl ?_
    refine Walk.move .none rfl rfl ?_
    refine Walk.lenM sl52 .none rfl rfl ?_
    refine Walk.ltI .none rfl rfl rfl ?_
    refine ⟨trivial, ?_⟩
    refine CWp.cond rfl (fun h1 => ?_) (fun h1 => ?_)
    · have h1p := h1; have h1s := h1; try simp only [q1, q2, q5] at h1s
      try simp only [q1, q2, q3, q4, q5, q6, q7, q8] at h1p
      exfalso; revert h1; simp --stop
    · have h1p := h1; have h1s := h1; try simp only [q1, q2, q5] at h1s
      try simp only [q1, q2, q3, q4, q5, q6, q7, q8] at h1p
      refine CWp.exit ?_
      refine CWp.seq ?_
      refine CWp.region rfl ?_
      refine Walk.move .none rfl rfl ?_
      refine Walk.assign .none rfl rfl ?_
      refine ⟨trivial, ?_⟩
      refine CWp.ret ?_
      refine ⟨_, _, [(44, some (.tree (ownCells false (Val.cs (mkL Val.one Val.szM k []))))) ], (.cons (.tmp rfl) .nil), (.eqd ?_), ⟨rfl, rfl⟩, (SubO.get ⟨.inr (by rfl), ⟨.inl rfl, trivial⟩⟩), (boxOK rfl)⟩
      all_goals (first | rfl | (simp [szL]; done))
  | succ n ih =>
    intro l k h h0 h1 hl hok
    refine Fn.body (fn := Try.f69) (n := 34) rfl rfl rfl rfl rfl (fun w0 F0 own kept hk => ?_)
    refine CWp.seq ?_
    refine CWp.region rfl ?_
    refine Walk.assign .none rfl rfl ?_
    refine ⟨trivial, ?_⟩
    refine CWp.seq ?_
    refine CWp.seq ?_
    refine CWp.region rfl ?_
    refine Walk.assign .none rfl rfl ?_
    refine ⟨trivial, ?_⟩
    refine CWp.block ?_
    refine CWp.loopX (ι := List (Val) × List (Val) × (Int)) hk (fun x => [(5, .d (.i (x.1.length : Int))), (1, .d (.i x.2.2))]) [6, 7, 8, 9, 10, 11, 12, 13, 14, 15, 16, 17, 18, 19, 20, 21, 22, 23, 24, 25, 26, 27, 28, 29, 30, 31, 32] (fun x => [(44, some (.tree (ownCells false (Val.cs (mkL Val.one Val.szM k x.1)) ++ ownCells false (Val.cs x.2.1))))]) (fun x => x.1 ++ x.2.1 = l ∧ x.2.2 = k + szL Val.szM x.1) (fun x => x.2.1.length) ([], l, k) ⟨by simp, by simp [szL]⟩ ⟨⟨_, rfl, (LeA.eqi (by first | rfl | (simp; done) | omega | (refine Eq.trans (b := v + Val.szM y) ?_ rfl; omega)))⟩, ⟨⟨_, rfl, (LeA.eqi (by first | rfl | (simp; done) | omega | (refine Eq.trans (b := v + Val.szM y) ?_ rfl; omega)))⟩, trivial⟩⟩ ⟨(by first | rfl | (show some (Res.tree _) = some (Res.tree _); rw [mkL_snoc, own_vals_snoc, ← hg1.2, Val.one_kids]; simp only [Val.one_sc y v, List.append_assoc, List.cons_append, List.nil_append])), trivial⟩ (fun x => rfl) (fun x hg1 => ?_)
    obtain ⟨pre, rest, v⟩ := x
    dsimp only at hg1 ⊢
    refine CWp.seq ?_
    refine CWp.seq ?_
    refine CWp.region rfl ?_
    refine Walk.move .none rfl rfl ?_
    refine Walk.move .none rfl rfl ?_
    refine Walk.lenM sl52 .none rfl rfl ?_
    refine Walk.ltI .none rfl rfl rfl ?_
    refine ⟨trivial, ?_⟩
    refine CWp.cond rfl (fun h1 => ?_) (fun h1 => ?_)
    · have h1p := h1; have h1s := h1; try simp only [q1, q2, q5] at h1s
      try simp only [q1, q2, q3, q4, q5, q6, q7, q8] at h1p
      rcases rest with _ | ⟨y, rest⟩
      · exfalso; simp_all
      have hsp := szL_split (sz := Val.szM) hg1.1; have hnn := szL_nonneg (l := rest) Val.szM_nn; have hnp := szL_nonneg (l := pre) Val.szM_nn; have hys := Val.szM_kids y; have hya := szL_nonneg (l := y.kids) Val.szM_nn; have hv := hg1.2
      refine CWp.reTree 44 (ownCells false (Val.cs (mkL Val.one Val.szM k pre)) ++ (.d (.i y.ctor) :: .d (.i y.num) :: .own false (encVals y.kids) :: ownCells false (Val.cs rest))) rfl (by rw [own_vals_cons]) ?_
      refine CWp.skip ?_
      refine CWp.seq ?_
      refine CWp.block ?_
      refine CWp.seq ?_
      refine CWp.region rfl ?_
      refine Walk.move .none rfl rfl ?_
      refine Walk.move .none rfl rfl ?_
      refine Walk.move .none rfl rfl ?_
      refine Walk.idxM sl52 .none rfl rfl rfl rfl (by first | omega | (simp [Val.cs_nil, Val.cs_len, Val.cs]; omega)) ?_
      refine Walk.fieldB fd54_0 .none rfl rfl ?_
      refine Walk.storeT ty3 .none rfl rfl rfl rfl rfl rfl (by simp) ((putC_off ((own_vals_len false _).trans (by rw [mkL_len])) putC_c0)) ?_
      refine ⟨trivial, ?_⟩
      refine CWp.seq ?_
      refine CWp.region rfl ?_
      refine Walk.move .none rfl rfl ?_
      refine Walk.addI .none rfl rfl rfl (by first | (constructor <;> omega) | (constructor <;> simp <;> omega)) ?_
      refine Walk.assign .none rfl rfl ?_
      refine ⟨trivial, ?_⟩
      refine CWp.seq ?_
      refine CWp.region rfl ?_
      refine Walk.move .none rfl rfl ?_
      refine Walk.move .none rfl rfl ?_
      refine Walk.move .none rfl rfl ?_
      refine Walk.idxM sl52 .none rfl rfl rfl rfl (by first | omega | (simp [Val.cs_nil, Val.cs_len, Val.cs]; omega)) ?_
      refine Walk.fieldB fd54_1 .none rfl rfl ?_
      refine Walk.storeT ty3 .none rfl rfl rfl rfl rfl rfl (by simp) ((putC_off ((own_vals_len false _).trans (by rw [mkL_len])) putC_c1)) ?_
      refine ⟨trivial, ?_⟩
      refine CWp.seq ?_
      refine CWp.region rfl ?_
      refine Walk.move .none rfl rfl ?_
      refine Walk.addI .none rfl rfl rfl (by first | (constructor <;> omega) | (constructor <;> simp <;> omega)) ?_
      refine Walk.assign .none rfl rfl ?_
      refine ⟨trivial, ?_⟩
      by_cases hs2 : y.kids = []
      · refine CWp.emptyCell 44 (pre.length * 3 + 2) rfl (cell_off ((own_vals_len false _).trans (by rw [mkL_len])) rfl) (by simp [hs2, Val.cs_nil, Val.cs_len, Val.cs]) (putC_off ((own_vals_len false _).trans (by rw [mkL_len])) putC_c2) ?_
        refine CWp.region rfl ?_
        refine Walk.move .none rfl rfl ?_
        refine Walk.move .none rfl rfl ?_
        refine Walk.idxM sl52 .none rfl rfl rfl rfl (by first | omega | (simp [Val.cs_nil, Val.cs_len, Val.cs]; omega)) ?_
        refine Walk.fieldB fd54_2 .none rfl rfl ?_
        refine Walk.loadT ty52 .none rfl rfl rfl ((by rw [cell_off ((own_vals_len false _).trans (by rw [mkL_len])) rfl]; rfl)) ?_
        refine Walk.move .none rfl rfl ?_
        refine Walk.call (cr := []) cal69 (laws_markValueS_nil hs2) rfl .none rfl rfl (LeL.refl _) trivial rfl (by first | rfl | (simp only [okCall, List.all_cons, List.all_nil, entOK, entOK', AV.idsL, AV.ids, idsL_append, ownCells_ids, List.map_cons, List.map_nil]; rfl)) (by first | rfl | (simp only [freshB, occH, occE, Res.ids, List.cons_append, List.nil_append, AV.idsL, AV.ids, idsL_append, ownCells_ids, zerosA_idsR, repNil, List.map_cons, List.map_nil, upC]; rfl)) ?_
        refine Walk.assign .none rfl rfl ?_
        refine ⟨trivial, ?_⟩
        refine CWp.fullCell 44 (pre.length * 3 + 2) false (xs := Val.cs (mkL Val.one Val.szM (v + 1 + 1) y.kids)) rfl (cell_off ((own_vals_len false _).trans (by rw [mkL_len])) rfl) (by simp [hs2, mkL, Val.cs]) (putC_off ((own_vals_len false _).trans (by rw [mkL_len])) putC_c2) ?_
        refine CWp.region rfl ?_
        refine Walk.move .none rfl rfl ?_
        refine Walk.addI .none rfl rfl rfl (by first | (constructor <;> omega) | (constructor <;> simp <;> omega)) ?_
        refine Walk.assign .none rfl rfl ?_
        refine ⟨trivial, ?_⟩
        refine ⟨(pre ++ [y], rest, v + Val.szM y), ⟨(by have hz := hg1.1; rw [← hz]; simp), (by show v + Val.szM y = _; rw [szL_snoc, hg1.2]; omega)⟩, (by simp), Sub.x (by kernel_rfl) (by kernel_rfl) ⟨⟨_, rfl, (LeA.eqi (by first | rfl | (simp; done) | omega | (refine Eq.trans (b := v + Val.szM y) ?_ rfl; omega)))⟩, ⟨⟨_, rfl, (LeA.eqi (by first | rfl | (simp; done) | omega | (refine Eq.trans (b := v + Val.szM y) ?_ rfl; omega)))⟩, trivial⟩⟩ (by kernel_rfl) (by kernel_rfl) ⟨(by first | rfl | (show some (Res.tree _) = some (Res.tree _); rw [mkL_snoc, own_vals_snoc, ← hg1.2, Val.one_kids]; simp only [Val.one_sc y v, List.append_assoc, List.cons_append, List.nil_append])), trivial⟩⟩
      · refine CWp.split 44 (pre.length * 3 + 2) 45 rfl (cell_off ((own_vals_len false _).trans (by rw [mkL_len])) rfl) (by simp [hs2, Val.cs_nil, Val.cs_len, Val.cs]) (by first | rfl | (simp only [freshB, occH, occE, Res.ids, List.cons_append, List.nil_append, AV.idsL, AV.ids, idsL_append, ownCells_ids, zerosA_idsR, repNil, List.map_cons, List.map_nil, upC]; rfl)) (putC_off ((own_vals_len false _).trans (by rw [mkL_len])) putC_c2) ?_
        refine CWp.region rfl ?_
        refine Walk.move .none rfl rfl ?_
        refine Walk.move .none rfl rfl ?_
        refine Walk.idxM sl52 .none rfl rfl rfl rfl (by first | omega | (simp [Val.cs_nil, Val.cs_len, Val.cs]; omega)) ?_
        refine Walk.fieldB fd54_2 .none rfl rfl ?_
        refine Walk.loadT ty52 .none rfl rfl rfl ((by rw [cell_off ((own_vals_len false _).trans (by rw [mkL_len])) rfl]; rfl)) ?_
        refine Walk.move .none rfl rfl ?_
        refine Walk.call (cr := []) cal69 (markValueS_ren (ih (l := y.kids) (k := v + 1 + 1) (by have hm := Vals.size_mem (v := y) (l := l) (by rw [← hg1.1]; simp); rw [Val.size_eq] at hm; omega) (by omega) (by omega) ((Val.ok_iff y).1 (Vals.ok_mem hok y (by rw [← hg1.1]; simp))).1 ((Val.ok_iff y).1 (Vals.ok_mem hok y (by rw [← hg1.1]; simp))).2)) rfl .none rfl rfl (.cons (LeA.msn (by first | rfl | (simp [Val.cs_nil, Val.cs_len, Val.cs]; done))) (.cons (.refl _) .nil)) ⟨by first | rfl | (simp; rfl), trivial⟩ rfl (by first | rfl | (simp only [okCall, List.all_cons, List.all_nil, entOK, entOK', AV.idsL, AV.ids, idsL_append, ownCells_ids, List.map_cons, List.map_nil]; rfl)) (by first | rfl | (simp only [freshB, occH, occE, Res.ids, List.cons_append, List.nil_append, AV.idsL, AV.ids, idsL_append, ownCells_ids, zerosA_idsR, repNil, List.map_cons, List.map_nil, upC]; rfl)) ?_
        refine Walk.assign .none rfl rfl ?_
        refine ⟨trivial, ?_⟩
        refine CWp.merge hk 44 (pre.length * 3 + 2) 45 3 _ rfl (cell_off ((own_vals_len false _).trans (by rw [mkL_len])) rfl) (by simp [mkL_len, Val.cs_nil, Val.cs_len, Val.cs]) rfl Val.cs_rows rfl rfl (putC_off ((own_vals_len false _).trans (by rw [mkL_len])) putC_c2) ?_
        refine CWp.region rfl ?_
        refine Walk.move .none rfl rfl ?_
        refine Walk.addI .none rfl rfl rfl (by first | (constructor <;> omega) | (constructor <;> simp <;> omega)) ?_
        refine Walk.assign .none rfl rfl ?_
        refine ⟨trivial, ?_⟩
        refine ⟨(pre ++ [y], rest, v + Val.szM y), ⟨(by have hz := hg1.1; rw [← hz]; simp), (by show v + Val.szM y = _; rw [szL_snoc, hg1.2]; omega)⟩, (by simp), Sub.x (by kernel_rfl) (by kernel_rfl) ⟨⟨_, rfl, (LeA.eqi (by first | rfl | (simp; done) | omega | (refine Eq.trans (b := v + Val.szM y) ?_ rfl; omega)))⟩, ⟨⟨_, rfl, (LeA.eqi (by first | rfl | (simp; done) | omega | (refine Eq.trans (b := v + Val.szM y) ?_ rfl; omega)))⟩, trivial⟩⟩ (by kernel_rfl) (by kernel_rfl) ⟨(by first | rfl | (show some (Res.tree _) = some (Res.tree _); rw [mkL_snoc, own_vals_snoc, ← hg1.2, Val.one_kids]; simp only [Val.one_sc y v, List.append_assoc, List.cons_append, List.nil_append])), trivial⟩⟩
    · have h1p := h1; have h1s := h1; try simp only [q1, q2, q5] at h1s
      try simp only [q1, q2, q3, q4, q5, q6, q7, q8] at h1p
      have hrest : rest = [] := by
        rcases rest with _ | ⟨a, b⟩
        · rfl
        · exfalso; have hz := congrArg List.length (hg1.1); simp only [List.length_append, List.length_cons, List.length_map] at hz; omega
      subst hrest
      refine CWp.exit ?_
      refine CWp.seq ?_
      refine CWp.region rfl ?_
      refine Walk.move .none rfl rfl ?_
      refine Walk.assign .none rfl rfl ?_
      refine ⟨trivial, ?_⟩
      refine CWp.ret ?_
      refine ⟨_, _, [(44, some (.tree (ownCells false (Val.cs (mkL Val.one Val.szM k l)))))], (.cons (.tmp rfl) .nil), (.eqd ?_), ⟨rfl, rfl⟩, (SubO.get ⟨.inr (by first | rfl | (obtain ⟨hg1, _⟩ := hg1; rw [List.append_nil] at hg1; subst hg1; show some (Res.tree _) = some (Res.tree _); simp [ownCells_nil, Val.cs]; done)), ⟨.inl rfl, trivial⟩⟩), (boxOK rfl)⟩
      all_goals (first | rfl | (obtain ⟨hg1, hv⟩ := hg1; rw [List.append_nil] at hg1; subst hg1; rw [hv]))

theorem laws_markValue_tr {v : Val} {k : Int} (h0 : 0 < k) (h1 : k + szL Val.szM v.kids ≤ 1000000000000) (hok : v.ok) : FnD Try.prog 32 [.agg [.d (.i v.ctor), .d (.i v.num), .ms 44 v.kids.length], .d (.i k)] [(44, some (.tree (ownCells false (Val.cs v.kids))))]
    (.d (.i (k + szL Val.szM v.kids))) [(44, some (.tree (ownCells false (Val.cs (mkL Val.one Val.szM k v.kids)))))] := by
  rw [Val.ok_iff] at hok
  refine Fn.body (fn := Try.f32) (n := 10) rfl rfl rfl rfl rfl (fun w0 F0 own kept hk => ?_)
  refine CWp.seq ?_
  refine CWp.region rfl ?_
  refine Walk.box (id := 3002) .none rfl rfl rfl (by first | rfl | (simp only [freshB, occH, occE, Res.ids, List.cons_append, List.nil_append, AV.idsL, AV.ids, idsL_append, ownCells_ids, zerosA_idsR, repNil, List.map_cons, List.map_nil, upC]; rfl)) (by first | rfl | (simp only [freshB, occH, occE, Res.ids, List.cons_append, List.nil_append, AV.idsL, AV.ids, idsL_append, ownCells_ids, zerosA_idsR, repNil, List.map_cons, List.map_nil, upC]; rfl)) (by first | rfl | (simp only [freshB, occH, occE, Res.ids, List.cons_append, List.nil_append, AV.idsL, AV.ids, idsL_append, ownCells_ids, zerosA_idsR, repNil, List.map_cons, List.map_nil, upC]; rfl)) (by first | rfl | (simp only [freshB, occH, occE, Res.ids, List.cons_append, List.nil_append, AV.idsL, AV.ids, idsL_append, ownCells_ids, zerosA_idsR, repNil, List.map_cons, List.map_nil, upC]; rfl)) ?_
  refine Walk.assign .none rfl rfl ?_
  refine ⟨trivial, ?_⟩
  refine CWp.seq ?_
  refine CWp.region rfl ?_
  refine Walk.fieldB fd54_2 .none rfl rfl ?_
  refine Walk.loadB ty52 .none rfl rfl rfl rfl ?_
  refine Walk.move .none rfl rfl ?_
  refine Walk.call (cr := []) cal69 (laws_markValueS_tr _ (Nat.le_refl _) h0 h1 hok.1 hok.2) rfl .none rfl rfl (.cons (LeA.msn (by first | rfl | (simp; done))) (.cons (.refl _) .nil)) ⟨rfl, trivial⟩ rfl (by first | rfl | (simp only [okCall, List.all_cons, List.all_nil, entOK, entOK', AV.idsL, AV.ids, idsL_append, ownCells_ids, List.map_cons, List.map_nil]; rfl)) (by first | rfl | (simp only [freshB, occH, occE, Res.ids, List.cons_append, List.nil_append, AV.idsL, AV.ids, idsL_append, ownCells_ids, zerosA_idsR, repNil, List.map_cons, List.map_nil, upC]; rfl)) ?_
  refine Walk.assign .none rfl rfl ?_
  refine ⟨trivial, ?_⟩
  refine CWp.seq ?_
  refine CWp.region rfl ?_
  refine Walk.move .none rfl rfl ?_
  refine Walk.assign .none rfl rfl ?_
  refine ⟨trivial, ?_⟩
  refine CWp.ret ?_
  refine ⟨_, _, [(44, some (.tree (ownCells false (Val.cs (mkL Val.one Val.szM k v.kids)))))], (.cons (.tmp rfl) .nil), (.eqd ?_), ⟨rfl, rfl⟩, (SubO.get ⟨.inr (by rfl), ⟨.inl rfl, trivial⟩⟩), (boxOK rfl)⟩
  all_goals (first | rfl | (simp []; done) | (simp_all; done) | (simp_all; omega) | omega)

end Go.Proofs.Ytadpcmcifbakoaa

