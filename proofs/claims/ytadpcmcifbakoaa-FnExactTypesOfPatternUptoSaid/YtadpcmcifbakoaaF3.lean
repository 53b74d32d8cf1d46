/-
  WALKS: the laws' measures, copies and comparisons of types and worlds.
-/
import Derived.Test.YtadpcmcifbakoaaF2
namespace Go.Proofs.Ytadpcmcifbakoaa
open Go
set_option linter.unusedSimpArgs false
set_option linter.unusedVariables false
set_option maxRecDepth 100000
set_option maxHeartbeats 2000000
def szr (left : Int) (m : Nat) : Int := if left < m then -1 else left - m
theorem szr_or {left : Int} (m : Nat) : (left < m ∧ szr left m = -1) ∨ ((m : Int) ≤ left ∧ szr left m = left - m) := by
 unfold szr; split <;> omega
def mTys (l : List Ty) : Nat := l.length
def mCtor (c : Ctor) : Nat := c.name.length + mTys c.args
def mCtors (l : List Ctor) : Nat := l.length + (l.map mCtor).sum
def mData (c : Data) : Nat := c.name.length + mCtors c.ctors
def mDatas (l : List Data) : Nat := l.length + (l.map mData).sum
structure CSmall (l : List Ctor) : Prop where
 len : l.length ≤ 1000000000000
 ctor : ∀ c ∈ l, c.name.length ≤ 1000000000000 ∧ c.args.length ≤ 1000000000000
theorem WSmall.cs {w : List Data} (h : WSmall w) {d : Data} (hd : d ∈ w) : CSmall d.ctors := ⟨(h.data d hd).2, h.ctor d hd⟩
theorem laws_szTypeS_fn {l : List Ty} {left : Int} (h : l.length ≤ 1000000000000) (k0 : 0 ≤ left) (k1 : left ≤ 1000000000000) : FnD Try.prog 139 [.d (encTys l), .d (.i left)] [] (.d (.i (szr left (mTys l)))) [] := by
 have z := szr_or (left := left) (mTys l)
 refine Fn.body (fn := Try.f139) (n := 12) rfl rfl rfl rfl rfl (fun w0 F0 own kept hk => ?_)
 refine sr ?_
 refine asg ?_
 refine tv ?_
 refine sr ?_
 refine mv ?_
 refine mv ?_
 refine Walk.len sl138 .none rfl rfl ?_
 refine Walk.subI .none rfl rfl rfl (by first | (constructor <;> omega) | (constructor <;> simp <;> omega)) ?_
 refine asg ?_
 refine tv ?_
 refine CWp.seq ?_
 refine sr ?_
 refine mv ?_
 refine Walk.ltI .none rfl rfl rfl ?_
 refine tv ?_
 refine cd ?_ ?_
 ·intro h1; have ⟨h1p, h1s⟩ := dup h1; try simp only [Q5] at h1s
  try simp only [Q] at h1p
  refine sr ?_
  refine asg ?_
  refine tv ?_
  refine CWp.ret ?_
  refine ⟨_, _, [], (.cons (.tmp rfl) .nil), (.eqd ?_), ⟨rfl, rfl⟩, HSub.nil, noBox⟩
  all_goals (refine congrArg D.i ?_; simp only [mTys, List.length_map] at *; omega)
 ·intro h1; have ⟨h1p, h1s⟩ := dup h1; try simp only [Q5] at h1s
  try simp only [Q] at h1p
  refine CWp.skip ?_
  refine sr ?_
  refine mv ?_
  refine asg ?_
  refine tv ?_
  refine CWp.ret ?_
  refine ⟨_, _, [], (.cons (.tmp rfl) .nil), (.eqd ?_), ⟨rfl, rfl⟩, HSub.nil, noBox⟩
  all_goals (refine congrArg D.i ?_; simp only [mTys, List.length_map] at *; omega)
theorem laws_szCtor_fn {s : Str} {args : List Ty} {k left : Int} (h : s.length ≤ 1000000000000) (h' : args.length ≤ 1000000000000) (k0 : 0 ≤ left) (k1 : left ≤ 1000000000000) : FnD Try.prog 110 [.agg [.d (.str s), .d (encTys args), .d (.i k)], .d (.i left)] [] (.d (.i (szr left (mCtor ⟨s, args, k⟩)))) [] := by
 have z := szr_or (left := left) (mCtor ⟨s, args, k⟩)
 have z2 := szr_or (left := left - s.length) (mTys args)
 simp only [mCtor] at z z2 ⊢
 refine Fn.body (fn := Try.f110) (n := 19) rfl rfl rfl rfl rfl (fun w0 F0 own kept hk => ?_)
 refine sr ?_
 refine Walk.box (id := 3002) .none rfl rfl rfl rfl rfl rfl rfl ?_
 refine asg ?_
 refine tv ?_
 refine sr ?_
 refine mv ?_
 refine Walk.fieldB fd140_0 .none rfl rfl ?_
 refine Walk.loadB ty9 .none rfl rfl rfl rfl ?_
 refine Walk.lenS un9 .none rfl rfl ?_
 refine Walk.subI .none rfl rfl rfl (by first | (constructor <;> omega) | (constructor <;> simp <;> omega)) ?_
 refine asg ?_
 refine tv ?_
 refine CWp.seq ?_
 refine sr ?_
 refine mv ?_
 refine Walk.ltI .none rfl rfl rfl ?_
 refine tv ?_
 refine cd ?_ ?_
 ·intro h1; have ⟨h1p, h1s⟩ := dup h1; try simp only [Q5] at h1s
  try simp only [Q] at h1p
  refine sr ?_
  refine asg ?_
  refine tv ?_
  refine CWp.ret ?_
  refine ⟨_, _, [], (.cons (.tmp rfl) .nil), (.eqd ?_), ⟨rfl, rfl⟩, HSub.nil, noBox⟩
  all_goals (refine congrArg D.i ?_; omega)
 ·intro h1; have ⟨h1p, h1s⟩ := dup h1; try simp only [Q5] at h1s
  try simp only [Q] at h1p
  refine CWp.skip ?_
  refine sr ?_
  refine Walk.fieldB fd140_1 .none rfl rfl ?_
  refine Walk.loadB ty138 .none rfl rfl rfl rfl ?_
  refine mv ?_
  refine Walk.call (cr := []) cal139 (laws_szTypeS_fn h' (by omega) (by omega)) rfl .none rfl rfl (LeL.refl _) trivial rfl rfl rfl ?_
  refine asg ?_
  refine tv ?_
  refine CWp.seq ?_
  refine sr ?_
  refine mv ?_
  refine Walk.ltI .none rfl rfl rfl ?_
  refine tv ?_
  refine cd ?_ ?_
  ·intro h2; have ⟨h2p, h2s⟩ := dup h2; try simp only [Q5] at h2s
   try simp only [Q] at h2p
   refine sr ?_
   refine asg ?_
   refine tv ?_
   refine CWp.ret ?_
   refine ⟨_, _, [], (.cons (.tmp rfl) .nil), (.eqd ?_), ⟨rfl, rfl⟩, HSub.nil, noBox⟩
   all_goals (refine congrArg D.i ?_; omega)
  ·intro h2; have ⟨h2p, h2s⟩ := dup h2; try simp only [Q5] at h2s
   try simp only [Q] at h2p
   refine CWp.skip ?_
   refine sr ?_
   refine mv ?_
   refine asg ?_
   refine tv ?_
   refine CWp.ret ?_
   refine ⟨_, _, [], (.cons (.tmp rfl) .nil), (.eqd ?_), ⟨rfl, rfl⟩, HSub.nil, noBox⟩
   all_goals (refine congrArg D.i ?_; omega)
theorem sum_split {α : Type} {f : α → Nat} {pre rest l : List α} {y : α} (h : pre ++ y :: rest = l) : (l.map f).sum = (pre.map f).sum + f y + (rest.map f).sum := by
 subst h; simp; omega
theorem laws_szCtorS_fn {l : List Ctor} {left : Int} (hs : CSmall l) (k0 : 0 ≤ left) (k1 : left ≤ 1000000000000) : FnD Try.prog 78 [.d (encCtors l), .d (.i left)] [] (.d (.i (szr left (mCtors l)))) [] := by
 have h := hs.len
 have z := szr_or (left := left) (mCtors l)
 simp only [mCtors] at z ⊢
 refine Fn.body (fn := Try.f78) (n := 27) rfl rfl rfl rfl rfl (fun w0 F0 own kept hk => ?_)
 refine sr ?_
 refine asg ?_
 refine tv ?_
 refine sr ?_
 refine mv ?_
 refine mv ?_
 refine Walk.len sl76 .none rfl rfl ?_
 refine Walk.subI .none rfl rfl rfl (by first | (constructor <;> omega) | (constructor <;> simp <;> omega)) ?_
 refine asg ?_
 refine tv ?_
 refine CWp.seq ?_
 refine sr ?_
 refine mv ?_
 refine Walk.ltI .none rfl rfl rfl ?_
 refine tv ?_
 refine cd ?_ ?_
 ·intro h1; have ⟨h1p, h1s⟩ := dup h1; try simp only [Q5] at h1s
  try simp only [Q] at h1p
  refine sr ?_
  refine asg ?_
  refine tv ?_
  refine CWp.ret ?_
  refine ⟨_, _, [], (.cons (.tmp rfl) .nil), (.eqd ?_), ⟨rfl, rfl⟩, HSub.nil, noBox⟩
  all_goals (refine congrArg D.i ?_; first | omega | (have e := sum_split (f := mCtor) hg1.1; have z3 := szr_or (left := v) (mCtor y); simp only [Ctor.eta] at *; omega) | (rw [List.append_nil] at hg1; rw [hg1.1] at hg1; omega))
 ·intro h1; have ⟨h1p, h1s⟩ := dup h1; try simp only [Q5] at h1s
  try simp only [Q] at h1p
  refine CWp.skip ?_
  refine CWp.seq ?_
  refine sr ?_
  refine asg ?_
  refine tv ?_
  refine CWp.block ?_
  refine CWp.loopX (ι := List (Ctor) × List (Ctor) × (Int)) hk (fun x => [(5, .d (.i (x.1.length : Int))), (1, .d (.i x.2.2))]) [4, 12, 13, 14, 15, 16, 17, 18, 19, 20, 21, 22, 23, 24, 25] (fun x => []) (fun x => x.1 ++ x.2.1 = l ∧ x.2.2 = left - l.length - (x.1.map mCtor).sum ∧ 0 ≤ x.2.2) (fun x => x.2.1.length) ([], l, left - l.length) ⟨by simp, by simp, by simp at *; omega⟩ ⟨⟨_, rfl, (LeA.eqi (by first | rfl | (simp; done)))⟩, ⟨⟨_, rfl, (LeA.eqi (by first | rfl | (simp; done)))⟩, trivial⟩⟩ trivial (fun x => rfl) (fun x hg1 => ?_)
  obtain ⟨pre, rest, v⟩ := x
  dsimp only at hg1 ⊢
  refine CWp.seq ?_
  refine sr ?_
  refine mv ?_
  refine mv ?_
  refine Walk.len sl76 .none rfl rfl ?_
  refine Walk.ltI .none rfl rfl rfl ?_
  refine tv ?_
  refine cd ?_ ?_
  ·intro h2; have ⟨h2p, h2s⟩ := dup h2; try simp only [Q5] at h2s
   try simp only [Q] at h2p
   rcases rest with _ | ⟨y, rest⟩
   ·exfalso; simp_all
   refine CWp.skip ?_
   refine CWp.seq ?_
   refine CWp.block ?_
   refine sr ?_
   refine mv ?_
   refine mv ?_
   refine Walk.idx sl76 .none rfl rfl rfl rfl (zip_at hg1.1) rfl ?_
   refine Walk.loadPA ty140 .none rfl rfl rfl rfl ?_
   refine mv ?_
   refine Walk.call (cr := []) cal110 (laws_szCtor_fn (hs.ctor y (by rw [← hg1.1]; simp)).1 (hs.ctor y (by rw [← hg1.1]; simp)).2 (by omega) (by omega)) rfl .none rfl rfl (LeL.refl _) trivial rfl rfl rfl ?_
   refine asg ?_
   refine tv ?_
   refine sr ?_
   refine mv ?_
   refine Walk.ltI .none rfl rfl rfl ?_
   refine tv ?_
   refine cd ?_ ?_
   ·intro h3; have ⟨h3p, h3s⟩ := dup h3; try simp only [Q5] at h3s
    try simp only [Q] at h3p
    refine sr ?_
    refine asg ?_
    refine tv ?_
    refine CWp.ret ?_
    refine ⟨_, _, [], (.cons (.tmp rfl) .nil), (.eqd ?_), ⟨rfl, rfl⟩, HSub.nil, noBox⟩
    all_goals (refine congrArg D.i ?_; first | omega | (have e := sum_split (f := mCtor) hg1.1; have z3 := szr_or (left := v) (mCtor y); simp only [Ctor.eta] at *; omega) | (rw [List.append_nil] at hg1; rw [hg1.1] at hg1; omega))
   ·intro h3; have ⟨h3p, h3s⟩ := dup h3; try simp only [Q5] at h3s
    try simp only [Q] at h3p
    refine CWp.skip ?_
    refine CWp.region rfl ?_
    refine mv ?_
    refine Walk.addI .none rfl rfl rfl (by first | (constructor <;> omega) | (constructor <;> simp <;> omega)) ?_
    refine asg ?_
    refine tv ?_
    refine ⟨(pre ++ [y], rest, szr v (mCtor y)), ⟨(by have hz := hg1.1; rw [← hz]; simp), (by have e := sum_split (f := mCtor) hg1.1; have z3 := szr_or (left := v) (mCtor y); simp only [Ctor.eta] at *; simp; omega)⟩, (by simp), Sub.x (by kernel_rfl) (by kernel_rfl) ⟨⟨_, rfl, (LeA.eqi (by first | rfl | (simp; done)))⟩, ⟨⟨_, rfl, (LeA.eqi (by first | rfl | (simp; done)))⟩, trivial⟩⟩ (by kernel_rfl) (by kernel_rfl) trivial⟩
  ·intro h2; have ⟨h2p, h2s⟩ := dup h2; try simp only [Q5] at h2s
   try simp only [Q] at h2p
   have hrest : rest = [] := by
    rcases rest with _ | ⟨a, b⟩
    ·rfl
    ·exfalso; have hz := congrArg List.length (hg1.1); simp only [List.length_append, List.length_cons, List.length_map] at hz; omega
   subst hrest
   refine CWp.exit ?_
   refine sr ?_
   refine mv ?_
   refine asg ?_
   refine tv ?_
   refine CWp.ret ?_
   refine ⟨_, _, [], (.cons (.tmp rfl) .nil), (.eqd ?_), ⟨rfl, rfl⟩, HSub.nil, noBox⟩
   all_goals (refine congrArg D.i ?_; first | omega | (have e := sum_split (f := mCtor) hg1.1; have z3 := szr_or (left := v) (mCtor y); simp only [Ctor.eta] at *; omega) | (rw [List.append_nil] at hg1; rw [hg1.1] at hg1; omega))
theorem laws_toType_fn {a b : Int} : FnD Try.prog 24 [.agg [.d (.i a), .d (.i b)]] [] (.agg [.d (.i a), .d (.i b)]) [] := by
 refine Fn.body (fn := Try.f24) (n := 11) rfl rfl rfl rfl rfl (fun w0 F0 own kept hk => ?_)
 refine sr ?_
 refine Walk.box (id := 3001) .none rfl rfl rfl rfl rfl rfl rfl ?_
 refine Walk.alloc (id := 3002) tz38 rfl .none rfl rfl rfl rfl ?_
 refine tv ?_
 refine sr ?_
 refine Walk.alloc (id := 3003) tz38 rfl .none rfl rfl rfl rfl ?_
 refine tv ?_
 refine sr ?_
 refine Walk.fieldB fd40_0 .none rfl rfl ?_
 refine Walk.loadB ty3 .none rfl rfl rfl rfl ?_
 refine Walk.fieldB fd38_0 .none rfl rfl ?_
 refine Walk.store ty3 .none rfl rfl rfl rfl rfl rfl (by simp) rfl ?_
 refine tv ?_
 refine sr ?_
 refine Walk.fieldB fd40_1 .none rfl rfl ?_
 refine Walk.loadB ty3 .none rfl rfl rfl rfl ?_
 refine Walk.fieldB fd38_1 .none rfl rfl ?_
 refine Walk.store ty3 .none rfl rfl rfl rfl rfl rfl (by simp) rfl ?_
 refine tv ?_
 refine sr ?_
 refine Walk.loadBA ty38 .none rfl rfl rfl rfl ?_
 refine Walk.store ty38 .none rfl rfl rfl rfl rfl rfl (by simp) rfl ?_
 refine tv ?_
 refine CWp.ret ?_
 refine ⟨_, _, [], (.cons (.cellA ty38 rfl rfl rfl) .nil), (.agg (.cons (.eqd ?_) (.cons (.eqd ?_) .nil))), ⟨rfl, rfl⟩, HSub.nil, noBox⟩
 all_goals (first | rfl | (simp []; done) | (simp_all; done) | (simp_all; omega) | omega)
theorem laws_toTypeS_fn {l : List Ty} (h : l.length ≤ 1000000000000) : FnD Try.prog 140 [.d (encTys l)] [] (.d (encTys l)) [] := by
 refine Fn.body (fn := Try.f140) (n := 23) rfl rfl rfl rfl rfl (fun w0 F0 own kept hk => ?_)
 refine sr ?_
 refine asg ?_
 refine tv ?_
 refine sr ?_
 refine mv ?_
 refine Walk.len sl138 .none rfl rfl ?_
 refine Walk.make (id := 3007) sl24 tz38 rfl (by decide) (zerosA_ids rfl) .none rfl rfl rfl (by simp; omega) (by simp; omega) rfl rfl rfl ?_
 refine asg ?_
 refine tv ?_
 refine CWp.seq ?_
 refine sr ?_
 refine asg ?_
 refine tv ?_
 refine CWp.block ?_
 refine CWp.loopX (ι := List (Ty) × List (Ty)) hk (fun x => [(4, .d (.i (x.1.length : Int)))]) [8, 9, 10, 11, 12, 13, 14, 15, 16, 17, 18, 19, 20, 21] (fun x => [(3007, some (.box ((x.1.flatMap fun x => (Ty.c x).map AV.d) ++ zerosA x.2.length [.d (.i 0), .d (.i 0)])))]) (fun x => x.1 ++ x.2 = l) (fun x => x.2.length) ([], l) (by simp) ⟨⟨_, rfl, (LeA.eqi (by first | rfl | (simp; done) | (simp_all; done) | omega))⟩, trivial⟩ ⟨(by first | rfl | (show some (Res.box _) = some (Res.box _); simp; done)), trivial⟩ (fun x => rfl) (fun x hg1 => ?_)
 obtain ⟨pre, rest⟩ := x
 dsimp only at hg1 ⊢
 refine CWp.seq ?_
 refine sr ?_
 refine mv ?_
 refine mv ?_
 refine Walk.len sl138 .none rfl rfl ?_
 refine Walk.ltI .none rfl rfl rfl ?_
 refine tv ?_
 refine cd ?_ ?_
 ·intro h1; have ⟨h1p, h1s⟩ := dup h1; try simp only [Q5] at h1s
  try simp only [Q] at h1p
  rcases rest with _ | ⟨y, rest⟩
  ·exfalso; simp_all
  refine CWp.skip ?_
  refine CWp.seq ?_
  refine CWp.block ?_
  refine CWp.region rfl ?_
  refine mv ?_
  refine mv ?_
  refine mv ?_
  refine mv ?_
  refine Walk.idx sl138 .none rfl rfl rfl rfl (zip_at hg1) rfl ?_
  refine Walk.loadPA ty40 .none rfl rfl rfl rfl ?_
  refine Walk.call (cr := []) cal24 (laws_toType_fn) rfl .none rfl rfl (LeL.refl _) trivial rfl rfl rfl ?_
  refine Walk.idxM sl24 .none rfl rfl rfl rfl (by first | omega | (simp ; omega)) ?_
  refine Walk.store ty38 .none rfl rfl rfl rfl rfl rfl (by simp) ((putC_next (k := 2) (by intro x _; rfl) (by first | rfl | simp) rfl)) ?_
  refine tv ?_
  refine CWp.region rfl ?_
  refine mv ?_
  refine Walk.addI .none rfl rfl rfl (by first | (constructor <;> omega) | (constructor <;> simp <;> omega)) ?_
  refine asg ?_
  refine tv ?_
  refine ⟨(pre ++ [y], rest), (by have hz := hg1; rw [← hz]; simp), (by simp), Sub.x (by kernel_rfl) (by kernel_rfl) ⟨⟨_, rfl, (LeA.eqi (by first | rfl | (simp; done) | (simp_all; done) | omega))⟩, trivial⟩ (by kernel_rfl) (by kernel_rfl) ⟨(by first | rfl | (show some (Res.box _) = some (Res.box _); simp; done)), trivial⟩⟩
 ·intro h1; have ⟨h1p, h1s⟩ := dup h1; try simp only [Q5] at h1s
  try simp only [Q] at h1p
  have hrest : rest = [] := by
   rcases rest with _ | ⟨a, b⟩
   ·rfl
   ·exfalso; have hz := congrArg List.length (hg1); simp only [List.length_append, List.length_cons, List.length_map] at hz; omega
  subst hrest
  refine CWp.exit ?_
  refine sr ?_
  refine mv ?_
  refine asg ?_
  refine tv ?_
  refine CWp.frz hk 2 3007 _ _ rfl rfl (chunkD_done (f := Ty.c) (k := 2) hg1 (by simp) (by intro x _; rfl)) rfl ?_
  refine CWp.ret ?_
  refine ⟨_, _, [], (.cons (.tmp rfl) .nil), (.eqd ?_), ⟨rfl, rfl⟩, HSub.nil, noBox⟩
  all_goals (first | rfl | (simp [h1s, h1p]; done) | (simp_all; done) | (simp_all; omega) | omega)
theorem laws_toCtor_fn {s : Str} {args : List Ty} {k : Int} (h : args.length ≤ 1000000000000) : FnD Try.prog 114 [.agg [.d (.str s), .d (encTys args), .d (.i k)]] [] (.agg [.d (.str s), .d (encTys args), .d (.i k)]) [] := by
 refine Fn.body (fn := Try.f114) (n := 15) rfl rfl rfl rfl rfl (fun w0 F0 own kept hk => ?_)
 refine sr ?_
 refine Walk.box (id := 3001) .none rfl rfl rfl rfl rfl rfl rfl ?_
 refine Walk.alloc (id := 3002) tz90 rfl .none rfl rfl rfl rfl ?_
 refine tv ?_
 refine sr ?_
 refine Walk.alloc (id := 3003) tz90 rfl .none rfl rfl rfl rfl ?_
 refine tv ?_
 refine sr ?_
 refine Walk.fieldB fd140_0 .none rfl rfl ?_
 refine Walk.loadB ty9 .none rfl rfl rfl rfl ?_
 refine Walk.fieldB fd90_0 .none rfl rfl ?_
 refine Walk.store ty9 .none rfl rfl rfl rfl rfl rfl (by simp) rfl ?_
 refine tv ?_
 refine sr ?_
 refine Walk.fieldB fd140_1 .none rfl rfl ?_
 refine Walk.loadB ty138 .none rfl rfl rfl rfl ?_
 refine Walk.call (cr := []) cal140 (laws_toTypeS_fn h) rfl .none rfl rfl (LeL.refl _) trivial rfl rfl rfl ?_
 refine Walk.fieldB fd90_1 .none rfl rfl ?_
 refine Walk.store ty24 .none rfl rfl rfl rfl rfl rfl (by simp) rfl ?_
 refine tv ?_
 refine sr ?_
 refine Walk.fieldB fd140_2 .none rfl rfl ?_
 refine Walk.loadB ty3 .none rfl rfl rfl rfl ?_
 refine Walk.fieldB fd90_2 .none rfl rfl ?_
 refine Walk.store ty3 .none rfl rfl rfl rfl rfl rfl (by simp) rfl ?_
 refine tv ?_
 refine sr ?_
 refine Walk.loadBA ty90 .none rfl rfl rfl rfl ?_
 refine Walk.store ty90 .none rfl rfl rfl rfl rfl rfl (by simp) rfl ?_
 refine tv ?_
 refine CWp.ret ?_
 refine ⟨_, _, [], (.cons (.cellA ty90 rfl rfl rfl) .nil), (.agg (.cons (.eqd ?_) (.cons (.eqd ?_) (.cons (.eqd ?_) .nil)))), ⟨rfl, rfl⟩, HSub.nil, noBox⟩
 all_goals (first | rfl | (simp []; done) | (simp_all; done) | (simp_all; omega) | omega)
theorem laws_toCtorS_fn {l : List Ctor} (hs : CSmall l) : FnD Try.prog 82 [.d (encCtors l)] [] (.d (encCtors l)) [] := by
 have h := hs.len
 refine Fn.body (fn := Try.f82) (n := 23) rfl rfl rfl rfl rfl (fun w0 F0 own kept hk => ?_)
 refine sr ?_
 refine asg ?_
 refine tv ?_
 refine sr ?_
 refine mv ?_
 refine Walk.len sl76 .none rfl rfl ?_
 refine Walk.make (id := 3007) sl79 tz90 rfl (by decide) (zerosA_ids rfl) .none rfl rfl rfl (by simp; omega) (by simp; omega) rfl rfl rfl ?_
 refine asg ?_
 refine tv ?_
 refine CWp.seq ?_
 refine sr ?_
 refine asg ?_
 refine tv ?_
 refine CWp.block ?_
 refine CWp.loopX (ι := List (Ctor) × List (Ctor)) hk (fun x => [(4, .d (.i (x.1.length : Int)))]) [8, 9, 10, 11, 12, 13, 14, 15, 16, 17, 18, 19, 20, 21] (fun x => [(3007, some (.box ((x.1.flatMap fun x => (Ctor.c x).map AV.d) ++ zerosA x.2.length [.d (.str []), .nils, .d (.i 0)])))]) (fun x => x.1 ++ x.2 = l) (fun x => x.2.length) ([], l) (by simp) ⟨⟨_, rfl, (LeA.eqi (by first | rfl | (simp; done) | (simp_all; done) | omega))⟩, trivial⟩ ⟨(by first | rfl | (show some (Res.box _) = some (Res.box _); simp; done)), trivial⟩ (fun x => rfl) (fun x hg1 => ?_)
 obtain ⟨pre, rest⟩ := x
 dsimp only at hg1 ⊢
 refine CWp.seq ?_
 refine sr ?_
 refine mv ?_
 refine mv ?_
 refine Walk.len sl76 .none rfl rfl ?_
 refine Walk.ltI .none rfl rfl rfl ?_
 refine tv ?_
 refine cd ?_ ?_
 ·intro h1; have ⟨h1p, h1s⟩ := dup h1; try simp only [Q5] at h1s
  try simp only [Q] at h1p
  rcases rest with _ | ⟨y, rest⟩
  ·exfalso; simp_all
  refine CWp.skip ?_
  refine CWp.seq ?_
  refine CWp.block ?_
  refine CWp.region rfl ?_
  refine mv ?_
  refine mv ?_
  refine mv ?_
  refine mv ?_
  refine Walk.idx sl76 .none rfl rfl rfl rfl (zip_at hg1) rfl ?_
  refine Walk.loadPA ty140 .none rfl rfl rfl rfl ?_
  refine Walk.call (cr := []) cal114 (laws_toCtor_fn (hs.ctor y (by rw [← hg1]; simp)).2) rfl .none rfl rfl (LeL.refl _) trivial rfl rfl rfl ?_
  refine Walk.idxM sl79 .none rfl rfl rfl rfl (by first | omega | (simp ; omega)) ?_
  refine Walk.store ty90 .none rfl rfl rfl rfl rfl rfl (by simp) ((putC_next (k := 3) (by intro x _; rfl) (by first | rfl | simp) rfl)) ?_
  refine tv ?_
  refine CWp.region rfl ?_
  refine mv ?_
  refine Walk.addI .none rfl rfl rfl (by first | (constructor <;> omega) | (constructor <;> simp <;> omega)) ?_
  refine asg ?_
  refine tv ?_
  refine ⟨(pre ++ [y], rest), (by have hz := hg1; rw [← hz]; simp), (by simp), Sub.x (by kernel_rfl) (by kernel_rfl) ⟨⟨_, rfl, (LeA.eqi (by first | rfl | (simp; done) | (simp_all; done) | omega))⟩, trivial⟩ (by kernel_rfl) (by kernel_rfl) ⟨(by first | rfl | (show some (Res.box _) = some (Res.box _); simp; done)), trivial⟩⟩
 ·intro h1; have ⟨h1p, h1s⟩ := dup h1; try simp only [Q5] at h1s
  try simp only [Q] at h1p
  have hrest : rest = [] := by
   rcases rest with _ | ⟨a, b⟩
   ·rfl
   ·exfalso; have hz := congrArg List.length (hg1); simp only [List.length_append, List.length_cons, List.length_map] at hz; omega
  subst hrest
  refine CWp.exit ?_
  refine sr ?_
  refine mv ?_
  refine asg ?_
  refine tv ?_
  refine CWp.frz hk 2 3007 _ _ rfl rfl (chunkD_done (f := Ctor.c) (k := 3) hg1 (by simp) (by intro x _; rfl)) rfl ?_
  refine CWp.ret ?_
  refine ⟨_, _, [], (.cons (.tmp rfl) .nil), (.eqd ?_), ⟨rfl, rfl⟩, HSub.nil, noBox⟩
  all_goals (first | rfl | (simp [h1s, h1p]; done) | (simp_all; done) | (simp_all; omega) | omega)
theorem laws_toData_fn {s : Str} {cs : List Ctor} (h : CSmall cs) : FnD Try.prog 45 [.agg [.d (.str s), .d (encCtors cs)]] [] (.agg [.d (.str s), .d (encCtors cs)]) [] := by
 refine Fn.body (fn := Try.f45) (n := 12) rfl rfl rfl rfl rfl (fun w0 F0 own kept hk => ?_)
 refine sr ?_
 refine Walk.box (id := 3001) .none rfl rfl rfl rfl rfl rfl rfl ?_
 refine Walk.alloc (id := 3002) tz81 rfl .none rfl rfl rfl rfl ?_
 refine tv ?_
 refine sr ?_
 refine Walk.alloc (id := 3003) tz81 rfl .none rfl rfl rfl rfl ?_
 refine tv ?_
 refine sr ?_
 refine Walk.fieldB fd78_0 .none rfl rfl ?_
 refine Walk.loadB ty9 .none rfl rfl rfl rfl ?_
 refine Walk.fieldB fd81_0 .none rfl rfl ?_
 refine Walk.store ty9 .none rfl rfl rfl rfl rfl rfl (by simp) rfl ?_
 refine tv ?_
 refine sr ?_
 refine Walk.fieldB fd78_1 .none rfl rfl ?_
 refine Walk.loadB ty76 .none rfl rfl rfl rfl ?_
 refine Walk.call (cr := []) cal82 (laws_toCtorS_fn h) rfl .none rfl rfl (LeL.refl _) trivial rfl rfl rfl ?_
 refine Walk.fieldB fd81_1 .none rfl rfl ?_
 refine Walk.store ty79 .none rfl rfl rfl rfl rfl rfl (by simp) rfl ?_
 refine tv ?_
 refine sr ?_
 refine Walk.loadBA ty81 .none rfl rfl rfl rfl ?_
 refine Walk.store ty81 .none rfl rfl rfl rfl rfl rfl (by simp) rfl ?_
 refine tv ?_
 refine CWp.ret ?_
 refine ⟨_, _, [], (.cons (.cellA ty81 rfl rfl rfl) .nil), (.agg (.cons (.eqd ?_) (.cons (.eqd ?_) .nil))), ⟨rfl, rfl⟩, HSub.nil, noBox⟩
 all_goals (first | rfl | (simp []; done) | (simp_all; done) | (simp_all; omega) | omega)
theorem laws_toDataS_fn {l : List Data} (hs : WSmall l) : FnD Try.prog 12 [.d (encDatas l)] [] (.d (encDatas l)) [] := by
 have h := hs.len
 refine Fn.body (fn := Try.f12) (n := 23) rfl rfl rfl rfl rfl (fun w0 F0 own kept hk => ?_)
 refine sr ?_
 refine asg ?_
 refine tv ?_
 refine sr ?_
 refine mv ?_
 refine Walk.len sl22 .none rfl rfl ?_
 refine Walk.make (id := 3007) sl26 tz81 rfl (by decide) (zerosA_ids rfl) .none rfl rfl rfl (by simp; omega) (by simp; omega) rfl rfl rfl ?_
 refine asg ?_
 refine tv ?_
 refine CWp.seq ?_
 refine sr ?_
 refine asg ?_
 refine tv ?_
 refine CWp.block ?_
 refine CWp.loopX (ι := List (Data) × List (Data)) hk (fun x => [(4, .d (.i (x.1.length : Int)))]) [8, 9, 10, 11, 12, 13, 14, 15, 16, 17, 18, 19, 20, 21] (fun x => [(3007, some (.box ((x.1.flatMap fun x => (Data.c x).map AV.d) ++ zerosA x.2.length [.d (.str []), .nils])))]) (fun x => x.1 ++ x.2 = l) (fun x => x.2.length) ([], l) (by simp) ⟨⟨_, rfl, (LeA.eqi (by first | rfl | (simp; done) | (simp_all; done) | omega))⟩, trivial⟩ ⟨(by first | rfl | (show some (Res.box _) = some (Res.box _); simp; done)), trivial⟩ (fun x => rfl) (fun x hg1 => ?_)
 obtain ⟨pre, rest⟩ := x
 dsimp only at hg1 ⊢
 refine CWp.seq ?_
 refine sr ?_
 refine mv ?_
 refine mv ?_
 refine Walk.len sl22 .none rfl rfl ?_
 refine Walk.ltI .none rfl rfl rfl ?_
 refine tv ?_
 refine cd ?_ ?_
 ·intro h1; have ⟨h1p, h1s⟩ := dup h1; try simp only [Q5] at h1s
  try simp only [Q] at h1p
  rcases rest with _ | ⟨y, rest⟩
  ·exfalso; simp_all
  refine CWp.skip ?_
  refine CWp.seq ?_
  refine CWp.block ?_
  refine CWp.region rfl ?_
  refine mv ?_
  refine mv ?_
  refine mv ?_
  refine mv ?_
  refine Walk.idx sl22 .none rfl rfl rfl rfl (zip_at hg1) rfl ?_
  refine Walk.loadPA ty78 .none rfl rfl rfl rfl ?_
  refine Walk.call (cr := []) cal45 (laws_toData_fn (hs.cs (d := y) (by rw [← hg1]; simp))) rfl .none rfl rfl (LeL.refl _) trivial rfl rfl rfl ?_
  refine Walk.idxM sl26 .none rfl rfl rfl rfl (by first | omega | (simp ; omega)) ?_
  refine Walk.store ty81 .none rfl rfl rfl rfl rfl rfl (by simp) ((putC_next (k := 2) (by intro x _; rfl) (by first | rfl | simp) rfl)) ?_
  refine tv ?_
  refine CWp.region rfl ?_
  refine mv ?_
  refine Walk.addI .none rfl rfl rfl (by first | (constructor <;> omega) | (constructor <;> simp <;> omega)) ?_
  refine asg ?_
  refine tv ?_
  refine ⟨(pre ++ [y], rest), (by have hz := hg1; rw [← hz]; simp), (by simp), Sub.x (by kernel_rfl) (by kernel_rfl) ⟨⟨_, rfl, (LeA.eqi (by first | rfl | (simp; done) | (simp_all; done) | omega))⟩, trivial⟩ (by kernel_rfl) (by kernel_rfl) ⟨(by first | rfl | (show some (Res.box _) = some (Res.box _); simp; done)), trivial⟩⟩
 ·intro h1; have ⟨h1p, h1s⟩ := dup h1; try simp only [Q5] at h1s
  try simp only [Q] at h1p
  have hrest : rest = [] := by
   rcases rest with _ | ⟨a, b⟩
   ·rfl
   ·exfalso; have hz := congrArg List.length (hg1); simp only [List.length_append, List.length_cons, List.length_map] at hz; omega
  subst hrest
  refine CWp.exit ?_
  refine sr ?_
  refine mv ?_
  refine asg ?_
  refine tv ?_
  refine CWp.frz hk 2 3007 _ _ rfl rfl (chunkD_done (f := Data.c) (k := 2) hg1 (by simp) (by intro x _; rfl)) rfl ?_
  refine CWp.ret ?_
  refine ⟨_, _, [], (.cons (.tmp rfl) .nil), (.eqd ?_), ⟨rfl, rfl⟩, HSub.nil, noBox⟩
  all_goals (first | rfl | (simp [h1s, h1p]; done) | (simp_all; done) | (simp_all; omega) | omega)
theorem laws_szData_fn {s : Str} {cs : List Ctor} {left : Int} (h : s.length ≤ 1000000000000) (hc : CSmall cs) (k0 : 0 ≤ left) (k1 : left ≤ 1000000000000) : FnD Try.prog 42 [.agg [.d (.str s), .d (encCtors cs)], .d (.i left)] [] (.d (.i (szr left (mData ⟨s, cs⟩)))) [] := by
 have z := szr_or (left := left) (mData ⟨s, cs⟩)
 have z2 := szr_or (left := left - s.length) (mCtors cs)
 simp only [mData] at z z2 ⊢
 refine Fn.body (fn := Try.f42) (n := 19) rfl rfl rfl rfl rfl (fun w0 F0 own kept hk => ?_)
 refine sr ?_
 refine Walk.box (id := 3002) .none rfl rfl rfl rfl rfl rfl rfl ?_
 refine asg ?_
 refine tv ?_
 refine sr ?_
 refine mv ?_
 refine Walk.fieldB fd78_0 .none rfl rfl ?_
 refine Walk.loadB ty9 .none rfl rfl rfl rfl ?_
 refine Walk.lenS un9 .none rfl rfl ?_
 refine Walk.subI .none rfl rfl rfl (by first | (constructor <;> omega) | (constructor <;> simp <;> omega)) ?_
 refine asg ?_
 refine tv ?_
 refine CWp.seq ?_
 refine sr ?_
 refine mv ?_
 refine Walk.ltI .none rfl rfl rfl ?_
 refine tv ?_
 refine cd ?_ ?_
 ·intro h1; have ⟨h1p, h1s⟩ := dup h1; try simp only [Q5] at h1s
  try simp only [Q] at h1p
  refine sr ?_
  refine asg ?_
  refine tv ?_
  refine CWp.ret ?_
  refine ⟨_, _, [], (.cons (.tmp rfl) .nil), (.eqd ?_), ⟨rfl, rfl⟩, HSub.nil, noBox⟩
  all_goals (refine congrArg D.i ?_; omega)
 ·intro h1; have ⟨h1p, h1s⟩ := dup h1; try simp only [Q5] at h1s
  try simp only [Q] at h1p
  refine CWp.skip ?_
  refine sr ?_
  refine Walk.fieldB fd78_1 .none rfl rfl ?_
  refine Walk.loadB ty76 .none rfl rfl rfl rfl ?_
  refine mv ?_
  refine Walk.call (cr := []) cal78 (laws_szCtorS_fn hc (by omega) (by omega)) rfl .none rfl rfl (LeL.refl _) trivial rfl rfl rfl ?_
  refine asg ?_
  refine tv ?_
  refine CWp.seq ?_
  refine sr ?_
  refine mv ?_
  refine Walk.ltI .none rfl rfl rfl ?_
  refine tv ?_
  refine cd ?_ ?_
  ·intro h2; have ⟨h2p, h2s⟩ := dup h2; try simp only [Q5] at h2s
   try simp only [Q] at h2p
   refine sr ?_
   refine asg ?_
   refine tv ?_
   refine CWp.ret ?_
   refine ⟨_, _, [], (.cons (.tmp rfl) .nil), (.eqd ?_), ⟨rfl, rfl⟩, HSub.nil, noBox⟩
   all_goals (refine congrArg D.i ?_; omega)
  ·intro h2; have ⟨h2p, h2s⟩ := dup h2; try simp only [Q5] at h2s
   try simp only [Q] at h2p
   refine CWp.skip ?_
   refine sr ?_
   refine mv ?_
   refine asg ?_
   refine tv ?_
   refine CWp.ret ?_
   refine ⟨_, _, [], (.cons (.tmp rfl) .nil), (.eqd ?_), ⟨rfl, rfl⟩, HSub.nil, noBox⟩
   all_goals (refine congrArg D.i ?_; omega)
theorem laws_szDataS_fn {l : List Data} {left : Int} (hs : WSmall l) (k0 : 0 ≤ left) (k1 : left ≤ 1000000000000) : FnD Try.prog 10 [.d (encDatas l), .d (.i left)] [] (.d (.i (szr left (mDatas l)))) [] := by
 have h := hs.len
 have z := szr_or (left := left) (mDatas l)
 simp only [mDatas] at z ⊢
 refine Fn.body (fn := Try.f10) (n := 27) rfl rfl rfl rfl rfl (fun w0 F0 own kept hk => ?_)
 refine sr ?_
 refine asg ?_
 refine tv ?_
 refine sr ?_
 refine mv ?_
 refine mv ?_
 refine Walk.len sl22 .none rfl rfl ?_
 refine Walk.subI .none rfl rfl rfl (by first | (constructor <;> omega) | (constructor <;> simp <;> omega)) ?_
 refine asg ?_
 refine tv ?_
 refine CWp.seq ?_
 refine sr ?_
 refine mv ?_
 refine Walk.ltI .none rfl rfl rfl ?_
 refine tv ?_
 refine cd ?_ ?_
 ·intro h1; have ⟨h1p, h1s⟩ := dup h1; try simp only [Q5] at h1s
  try simp only [Q] at h1p
  refine sr ?_
  refine asg ?_
  refine tv ?_
  refine CWp.ret ?_
  refine ⟨_, _, [], (.cons (.tmp rfl) .nil), (.eqd ?_), ⟨rfl, rfl⟩, HSub.nil, noBox⟩
  all_goals (refine congrArg D.i ?_; first | omega | (have e := sum_split (f := mData) hg1.1; have z3 := szr_or (left := v) (mData y); simp only [Data.eta] at *; omega) | (rw [List.append_nil] at hg1; rw [hg1.1] at hg1; omega))
 ·intro h1; have ⟨h1p, h1s⟩ := dup h1; try simp only [Q5] at h1s
  try simp only [Q] at h1p
  refine CWp.skip ?_
  refine CWp.seq ?_
  refine sr ?_
  refine asg ?_
  refine tv ?_
  refine CWp.block ?_
  refine CWp.loopX (ι := List (Data) × List (Data) × (Int)) hk (fun x => [(5, .d (.i (x.1.length : Int))), (1, .d (.i x.2.2))]) [4, 12, 13, 14, 15, 16, 17, 18, 19, 20, 21, 22, 23, 24, 25] (fun x => []) (fun x => x.1 ++ x.2.1 = l ∧ x.2.2 = left - l.length - (x.1.map mData).sum ∧ 0 ≤ x.2.2) (fun x => x.2.1.length) ([], l, left - l.length) ⟨by simp, by simp, by simp at *; omega⟩ ⟨⟨_, rfl, (LeA.eqi (by first | rfl | (simp; done)))⟩, ⟨⟨_, rfl, (LeA.eqi (by first | rfl | (simp; done)))⟩, trivial⟩⟩ trivial (fun x => rfl) (fun x hg1 => ?_)
  obtain ⟨pre, rest, v⟩ := x
  dsimp only at hg1 ⊢
  refine CWp.seq ?_
  refine sr ?_
  refine mv ?_
  refine mv ?_
  refine Walk.len sl22 .none rfl rfl ?_
  refine Walk.ltI .none rfl rfl rfl ?_
  refine tv ?_
  refine cd ?_ ?_
  ·intro h2; have ⟨h2p, h2s⟩ := dup h2; try simp only [Q5] at h2s
   try simp only [Q] at h2p
   rcases rest with _ | ⟨y, rest⟩
   ·exfalso; simp_all
   refine CWp.skip ?_
   refine CWp.seq ?_
   refine CWp.block ?_
   refine sr ?_
   refine mv ?_
   refine mv ?_
   refine Walk.idx sl22 .none rfl rfl rfl rfl (zip_at hg1.1) rfl ?_
   refine Walk.loadPA ty78 .none rfl rfl rfl rfl ?_
   refine mv ?_
   refine Walk.call (cr := []) cal42 (laws_szData_fn (hs.data y (by rw [← hg1.1]; simp)).1 (hs.cs (d := y) (by rw [← hg1.1]; simp)) (by omega) (by omega)) rfl .none rfl rfl (LeL.refl _) trivial rfl rfl rfl ?_
   refine asg ?_
   refine tv ?_
   refine sr ?_
   refine mv ?_
   refine Walk.ltI .none rfl rfl rfl ?_
   refine tv ?_
   refine cd ?_ ?_
   ·intro h3; have ⟨h3p, h3s⟩ := dup h3; try simp only [Q5] at h3s
    try simp only [Q] at h3p
    refine sr ?_
    refine asg ?_
    refine tv ?_
    refine CWp.ret ?_
    refine ⟨_, _, [], (.cons (.tmp rfl) .nil), (.eqd ?_), ⟨rfl, rfl⟩, HSub.nil, noBox⟩
    all_goals (refine congrArg D.i ?_; first | omega | (have e := sum_split (f := mData) hg1.1; have z3 := szr_or (left := v) (mData y); simp only [Data.eta] at *; omega) | (rw [List.append_nil] at hg1; rw [hg1.1] at hg1; omega))
   ·intro h3; have ⟨h3p, h3s⟩ := dup h3; try simp only [Q5] at h3s
    try simp only [Q] at h3p
    refine CWp.skip ?_
    refine CWp.region rfl ?_
    refine mv ?_
    refine Walk.addI .none rfl rfl rfl (by first | (constructor <;> omega) | (constructor <;> simp <;> omega)) ?_
    refine asg ?_
    refine tv ?_
    refine ⟨(pre ++ [y], rest, szr v (mData y)), ⟨(by have hz := hg1.1; rw [← hz]; simp), (by have e := sum_split (f := mData) hg1.1; have z3 := szr_or (left := v) (mData y); simp only [Data.eta] at *; simp; omega)⟩, (by simp), Sub.x (by kernel_rfl) (by kernel_rfl) ⟨⟨_, rfl, (LeA.eqi (by first | rfl | (simp; done)))⟩, ⟨⟨_, rfl, (LeA.eqi (by first | rfl | (simp; done)))⟩, trivial⟩⟩ (by kernel_rfl) (by kernel_rfl) trivial⟩
  ·intro h2; have ⟨h2p, h2s⟩ := dup h2; try simp only [Q5] at h2s
   try simp only [Q] at h2p
   have hrest : rest = [] := by
    rcases rest with _ | ⟨a, b⟩
    ·rfl
    ·exfalso; have hz := congrArg List.length (hg1.1); simp only [List.length_append, List.length_cons, List.length_map] at hz; omega
   subst hrest
   refine CWp.exit ?_
   refine sr ?_
   refine mv ?_
   refine asg ?_
   refine tv ?_
   refine CWp.ret ?_
   refine ⟨_, _, [], (.cons (.tmp rfl) .nil), (.eqd ?_), ⟨rfl, rfl⟩, HSub.nil, noBox⟩
   all_goals (refine congrArg D.i ?_; first | omega | (have e := sum_split (f := mData) hg1.1; have z3 := szr_or (left := v) (mData y); simp only [Data.eta] at *; omega) | (rw [List.append_nil] at hg1; rw [hg1.1] at hg1; omega))
theorem ext_nth {α : Type} [Inhabited α] {l m : List α} (h : l.length = m.length) (h2 : ∀ i, i < l.length → nth l i = nth m i) : l = m := by
 refine List.ext_getElem h (fun i h3 h4 => ?_)
 have := h2 i h3
 simpa [nth, List.getD, h3, h4] using this
theorem laws_eqType_fn {a b a' b' : Int} : FnD Try.prog 47 [.agg [.d (.i a), .d (.i b)], .agg [.d (.i a'), .d (.i b')]] [] (.d (.bool (decide ((⟨a, b⟩ : Ty) = ⟨a', b'⟩)))) [] := by
 refine Fn.body (fn := Try.f47) (n := 15) rfl rfl rfl rfl rfl (fun w0 F0 own kept hk => ?_)
 refine sr ?_
 refine Walk.box (id := 3002) .none rfl rfl rfl rfl rfl rfl rfl ?_
 refine Walk.box (id := 3003) .none rfl rfl rfl rfl rfl rfl rfl ?_
 refine asg ?_
 refine tv ?_
 refine CWp.seq ?_
 refine sr ?_
 refine Walk.fieldB fd38_0 .none rfl rfl ?_
 refine Walk.loadB ty3 .none rfl rfl rfl rfl ?_
 refine Walk.fieldB fd38_0 .none rfl rfl ?_
 refine Walk.loadB ty3 .none rfl rfl rfl rfl ?_
 refine Walk.neI .none rfl rfl rfl ?_
 refine tv ?_
 refine cd ?_ ?_
 ·intro h1; have ⟨h1p, h1s⟩ := dup h1; try simp only [Q5] at h1s
  try simp only [Q] at h1p
  refine sr ?_
  refine asg ?_
  refine tv ?_
  refine CWp.ret ?_
  refine ⟨_, _, [], (.cons (.tmp rfl) .nil), (.eqd ?_), ⟨rfl, rfl⟩, HSub.nil, noBox⟩
  all_goals (refine congrArg D.bool ?_; simp [h1s, h1p])
 ·intro h1; have ⟨h1p, h1s⟩ := dup h1; try simp only [Q5] at h1s
  try simp only [Q] at h1p
  refine CWp.skip ?_
  refine CWp.seq ?_
  refine sr ?_
  refine Walk.fieldB fd38_1 .none rfl rfl ?_
  refine Walk.loadB ty3 .none rfl rfl rfl rfl ?_
  refine Walk.fieldB fd38_1 .none rfl rfl ?_
  refine Walk.loadB ty3 .none rfl rfl rfl rfl ?_
  refine Walk.neI .none rfl rfl rfl ?_
  refine tv ?_
  refine cd ?_ ?_
  ·intro h2; have ⟨h2p, h2s⟩ := dup h2; try simp only [Q5] at h2s
   try simp only [Q] at h2p
   refine sr ?_
   refine asg ?_
   refine tv ?_
   refine CWp.ret ?_
   refine ⟨_, _, [], (.cons (.tmp rfl) .nil), (.eqd ?_), ⟨rfl, rfl⟩, HSub.nil, noBox⟩
   all_goals (refine congrArg D.bool ?_; simp [h1s, h1p, h2s, h2p])
  ·intro h2; have ⟨h2p, h2s⟩ := dup h2; try simp only [Q5] at h2s
   try simp only [Q] at h2p
   refine CWp.skip ?_
   refine sr ?_
   refine asg ?_
   refine tv ?_
   refine CWp.ret ?_
   refine ⟨_, _, [], (.cons (.tmp rfl) .nil), (.eqd ?_), ⟨rfl, rfl⟩, HSub.nil, noBox⟩
   all_goals (refine congrArg D.bool ?_; simp [h1s, h1p, h2s, h2p])
theorem laws_eqTypeS_fn {l m : List Ty} (h : l.length ≤ 1000000000000) : FnD Try.prog 14 [.d (encTys l), .d (encTys m)] [] (.d (.bool (decide (l = m)))) [] := by
 refine Fn.body (fn := Try.f14) (n := 27) rfl rfl rfl rfl rfl (fun w0 F0 own kept hk => ?_)
 refine sr ?_
 refine asg ?_
 refine tv ?_
 refine CWp.seq ?_
 refine sr ?_
 refine mv ?_
 refine Walk.len sl24 .none rfl rfl ?_
 refine mv ?_
 refine Walk.len sl24 .none rfl rfl ?_
 refine Walk.neI .none rfl rfl rfl ?_
 refine tv ?_
 refine cd ?_ ?_
 ·intro h1; have ⟨h1p, h1s⟩ := dup h1; try simp only [Q5] at h1s
  try simp only [Q, Int.natCast_inj] at h1p
  refine sr ?_
  refine asg ?_
  refine tv ?_
  refine CWp.ret ?_
  refine ⟨_, _, [], (.cons (.tmp rfl) .nil), (.eqd ?_), ⟨rfl, rfl⟩, HSub.nil, noBox⟩
  all_goals (refine congrArg D.bool ?_; first | (refine (decide_eq_false (fun e => ?_)).symm; subst e; omega) | (refine (decide_eq_false (fun e => ?_)).symm; subst e; simp_all; done) | (refine (decide_eq_true (ext_nth (by omega) (fun x hx => hg1.2 x (by omega)))).symm))
 ·intro h1; have ⟨h1p, h1s⟩ := dup h1; try simp only [Q5] at h1s
  try simp only [Q, Int.natCast_inj] at h1p
  refine CWp.skip ?_
  refine CWp.seq ?_
  refine sr ?_
  refine asg ?_
  refine tv ?_
  refine CWp.block ?_
  refine CWp.loopX (ι := Nat) hk (fun i => [(5, .d (.i (i : Int)))]) [4, 11, 12, 13, 14, 15, 16, 17, 18, 19, 20, 21, 22, 23, 24, 25, 26] (fun i => []) (fun i => i ≤ l.length ∧ ∀ i', i' < i → nth l i' = nth m i') (fun i => l.length - i) 0 ⟨by omega, fun _ h => absurd h (by omega)⟩ ⟨⟨_, rfl, (LeA.eqi (by first | rfl | (simp; done) | (simp_all; done) | omega))⟩, trivial⟩ trivial (fun x => rfl) (fun i hg1 => ?_)
  refine CWp.seq ?_
  refine sr ?_
  refine mv ?_
  refine mv ?_
  refine Walk.len sl24 .none rfl rfl ?_
  refine Walk.ltI .none rfl rfl rfl ?_
  refine tv ?_
  refine cd ?_ ?_
  ·intro h2; have ⟨h2p, h2s⟩ := dup h2; try simp only [Q5] at h2s
   try simp only [Q, Int.natCast_inj] at h2p
   refine CWp.skip ?_
   refine CWp.seq ?_
   refine CWp.block ?_
   refine CWp.seq ?_
   refine CWp.drawn mixed rfl ?_
   refine mv ?_
   refine mv ?_
   refine Walk.idx sl24 .none rfl rfl rfl rfl (at_nth (by omega)) rfl ?_
   refine Walk.loadPA ty38 .none rfl rfl rfl rfl ?_
   refine mv ?_
   refine mv ?_
   refine Walk.idx sl24 .none rfl rfl rfl rfl (at_nth (by omega)) rfl ?_
   refine Walk.loadPA ty38 .none rfl rfl rfl rfl ?_
   refine Walk.call (cr := []) cal47 (laws_eqType_fn) rfl .none rfl rfl (LeL.refl _) trivial rfl rfl rfl ?_
   refine Walk.not .none rfl rfl ?_
   refine ⟨by show _ = _; kernel_rfl, ?_⟩
   refine cd ?_ ?_
   ·intro h3; have ⟨h3p, h3s⟩ := dup h3; try simp only [Q5] at h3s
    try simp only [Q, Int.natCast_inj] at h3p
    refine sr ?_
    refine asg ?_
    refine tv ?_
    refine CWp.ret ?_
    refine ⟨_, _, [], (.cons (.tmp rfl) .nil), (.eqd ?_), ⟨rfl, rfl⟩, HSub.nil, noBox⟩
    all_goals (refine congrArg D.bool ?_; first | (refine (decide_eq_false (fun e => ?_)).symm; subst e; omega) | (refine (decide_eq_false (fun e => ?_)).symm; subst e; simp_all; done) | (refine (decide_eq_true (ext_nth (by omega) (fun x hx => hg1.2 x (by omega)))).symm))
   ·intro h3; have ⟨h3p, h3s⟩ := dup h3; try simp only [Q5] at h3s
    try simp only [Q, Int.natCast_inj] at h3p
    refine CWp.skip ?_
    refine CWp.region rfl ?_
    refine mv ?_
    refine Walk.addI .none rfl rfl rfl (by first | (constructor <;> omega) | (constructor <;> simp <;> omega)) ?_
    refine asg ?_
    refine tv ?_
    refine ⟨i + 1, ⟨by omega, upto_succ hg1.2 (by simp only [Ty.eta] at *; assumption)⟩, (by omega), Sub.x (by kernel_rfl) (by kernel_rfl) ⟨⟨_, rfl, (LeA.eqi (by first | rfl | (simp; done) | (simp_all; done) | omega))⟩, trivial⟩ (by kernel_rfl) (by kernel_rfl) trivial⟩
  ·intro h2; have ⟨h2p, h2s⟩ := dup h2; try simp only [Q5] at h2s
   try simp only [Q, Int.natCast_inj] at h2p
   refine CWp.exit ?_
   refine sr ?_
   refine asg ?_
   refine tv ?_
   refine CWp.ret ?_
   refine ⟨_, _, [], (.cons (.tmp rfl) .nil), (.eqd ?_), ⟨rfl, rfl⟩, HSub.nil, noBox⟩
   all_goals (refine congrArg D.bool ?_; first | (refine (decide_eq_false (fun e => ?_)).symm; subst e; omega) | (refine (decide_eq_false (fun e => ?_)).symm; subst e; simp_all; done) | (refine (decide_eq_true (ext_nth (by omega) (fun x hx => hg1.2 x (by omega)))).symm))
theorem laws_eqCtor_fn {s s' : Str} {l l' : List Ty} {k k' : Int} (h : l.length ≤ 1000000000000) : FnD Try.prog 115 [.agg [.d (.str s), .d (encTys l), .d (.i k)], .agg [.d (.str s'), .d (encTys l'), .d (.i k')]] [] (.d (.bool (decide ((⟨s, l, k⟩ : Ctor) = ⟨s', l', k'⟩)))) [] := by
 refine Fn.body (fn := Try.f115) (n := 21) rfl rfl rfl rfl rfl (fun w0 F0 own kept hk => ?_)
 refine sr ?_
 refine Walk.box (id := 3002) .none rfl rfl rfl rfl rfl rfl rfl ?_
 refine Walk.box (id := 3003) .none rfl rfl rfl rfl rfl rfl rfl ?_
 refine asg ?_
 refine tv ?_
 refine CWp.seq ?_
 refine sr ?_
 refine Walk.fieldB fd90_0 .none rfl rfl ?_
 refine Walk.loadB ty9 .none rfl rfl rfl rfl ?_
 refine Walk.fieldB fd90_0 .none rfl rfl ?_
 refine Walk.loadB ty9 .none rfl rfl rfl rfl ?_
 refine Walk.neS .none rfl rfl rfl ?_
 refine tv ?_
 refine cd ?_ ?_
 ·intro h1; have ⟨h1p, h1s⟩ := dup h1; try simp only [Q5] at h1s
  try simp only [Q] at h1p
  refine sr ?_
  refine asg ?_
  refine tv ?_
  refine CWp.ret ?_
  refine ⟨_, _, [], (.cons (.tmp rfl) .nil), (.eqd ?_), ⟨rfl, rfl⟩, HSub.nil, noBox⟩
  all_goals (refine congrArg D.bool ?_; simp [h1s, h1p])
 ·intro h1; have ⟨h1p, h1s⟩ := dup h1; try simp only [Q5] at h1s
  try simp only [Q] at h1p
  refine CWp.skip ?_
  refine CWp.seq ?_
  refine sr ?_
  refine Walk.fieldB fd90_1 .none rfl rfl ?_
  refine Walk.loadB ty24 .none rfl rfl rfl rfl ?_
  refine Walk.fieldB fd90_1 .none rfl rfl ?_
  refine Walk.loadB ty24 .none rfl rfl rfl rfl ?_
  refine Walk.call (cr := []) cal14 (laws_eqTypeS_fn h) rfl .none rfl rfl (LeL.refl _) trivial rfl rfl rfl ?_
  refine Walk.not .none rfl rfl ?_
  refine tv ?_
  refine cd ?_ ?_
  ·intro h2; have ⟨h2p, h2s⟩ := dup h2; try simp only [Q5] at h2s
   try simp only [Q] at h2p
   refine sr ?_
   refine asg ?_
   refine tv ?_
   refine CWp.ret ?_
   refine ⟨_, _, [], (.cons (.tmp rfl) .nil), (.eqd ?_), ⟨rfl, rfl⟩, HSub.nil, noBox⟩
   all_goals (refine congrArg D.bool ?_; simp [h1s, h1p, h2s, h2p])
  ·intro h2; have ⟨h2p, h2s⟩ := dup h2; try simp only [Q5] at h2s
   try simp only [Q] at h2p
   refine CWp.skip ?_
   refine CWp.seq ?_
   refine sr ?_
   refine Walk.fieldB fd90_2 .none rfl rfl ?_
   refine Walk.loadB ty3 .none rfl rfl rfl rfl ?_
   refine Walk.fieldB fd90_2 .none rfl rfl ?_
   refine Walk.loadB ty3 .none rfl rfl rfl rfl ?_
   refine Walk.neI .none rfl rfl rfl ?_
   refine tv ?_
   refine cd ?_ ?_
   ·intro h3; have ⟨h3p, h3s⟩ := dup h3; try simp only [Q5] at h3s
    try simp only [Q] at h3p
    refine sr ?_
    refine asg ?_
    refine tv ?_
    refine CWp.ret ?_
    refine ⟨_, _, [], (.cons (.tmp rfl) .nil), (.eqd ?_), ⟨rfl, rfl⟩, HSub.nil, noBox⟩
    all_goals (refine congrArg D.bool ?_; simp [h1s, h1p, h2s, h2p, h3s, h3p])
   ·intro h3; have ⟨h3p, h3s⟩ := dup h3; try simp only [Q5] at h3s
    try simp only [Q] at h3p
    refine CWp.skip ?_
    refine sr ?_
    refine asg ?_
    refine tv ?_
    refine CWp.ret ?_
    refine ⟨_, _, [], (.cons (.tmp rfl) .nil), (.eqd ?_), ⟨rfl, rfl⟩, HSub.nil, noBox⟩
    all_goals (refine congrArg D.bool ?_; simp [h1s, h1p, h2s, h2p, h3s, h3p])
theorem laws_eqCtorS_fn {l m : List Ctor} (hs : CSmall l) : FnD Try.prog 83 [.d (encCtors l), .d (encCtors m)] [] (.d (.bool (decide (l = m)))) [] := by
 have h := hs.len
 refine Fn.body (fn := Try.f83) (n := 27) rfl rfl rfl rfl rfl (fun w0 F0 own kept hk => ?_)
 refine sr ?_
 refine asg ?_
 refine tv ?_
 refine CWp.seq ?_
 refine sr ?_
 refine mv ?_
 refine Walk.len sl79 .none rfl rfl ?_
 refine mv ?_
 refine Walk.len sl79 .none rfl rfl ?_
 refine Walk.neI .none rfl rfl rfl ?_
 refine tv ?_
 refine cd ?_ ?_
 ·intro h1; have ⟨h1p, h1s⟩ := dup h1; try simp only [Q5] at h1s
  try simp only [Q, Int.natCast_inj] at h1p
  refine sr ?_
  refine asg ?_
  refine tv ?_
  refine CWp.ret ?_
  refine ⟨_, _, [], (.cons (.tmp rfl) .nil), (.eqd ?_), ⟨rfl, rfl⟩, HSub.nil, noBox⟩
  all_goals (refine congrArg D.bool ?_; first | (refine (decide_eq_false (fun e => ?_)).symm; subst e; omega) | (refine (decide_eq_false (fun e => ?_)).symm; subst e; simp_all; done) | (refine (decide_eq_true (ext_nth (by omega) (fun x hx => hg1.2 x (by omega)))).symm))
 ·intro h1; have ⟨h1p, h1s⟩ := dup h1; try simp only [Q5] at h1s
  try simp only [Q, Int.natCast_inj] at h1p
  refine CWp.skip ?_
  refine CWp.seq ?_
  refine sr ?_
  refine asg ?_
  refine tv ?_
  refine CWp.block ?_
  refine CWp.loopX (ι := Nat) hk (fun i => [(5, .d (.i (i : Int)))]) [4, 11, 12, 13, 14, 15, 16, 17, 18, 19, 20, 21, 22, 23, 24, 25, 26] (fun i => []) (fun i => i ≤ l.length ∧ ∀ i', i' < i → nth l i' = nth m i') (fun i => l.length - i) 0 ⟨by omega, fun _ h => absurd h (by omega)⟩ ⟨⟨_, rfl, (LeA.eqi (by first | rfl | (simp; done) | (simp_all; done) | omega))⟩, trivial⟩ trivial (fun x => rfl) (fun i hg1 => ?_)
  refine CWp.seq ?_
  refine sr ?_
  refine mv ?_
  refine mv ?_
  refine Walk.len sl79 .none rfl rfl ?_
  refine Walk.ltI .none rfl rfl rfl ?_
  refine tv ?_
  refine cd ?_ ?_
  ·intro h2; have ⟨h2p, h2s⟩ := dup h2; try simp only [Q5] at h2s
   try simp only [Q, Int.natCast_inj] at h2p
   refine CWp.skip ?_
   refine CWp.seq ?_
   refine CWp.block ?_
   refine CWp.seq ?_
   refine CWp.drawn mixed rfl ?_
   refine mv ?_
   refine mv ?_
   refine Walk.idx sl79 .none rfl rfl rfl rfl (at_nth (by omega)) rfl ?_
   refine Walk.loadPA ty90 .none rfl rfl rfl rfl ?_
   refine mv ?_
   refine mv ?_
   refine Walk.idx sl79 .none rfl rfl rfl rfl (at_nth (by omega)) rfl ?_
   refine Walk.loadPA ty90 .none rfl rfl rfl rfl ?_
   refine Walk.call (cr := []) cal115 (laws_eqCtor_fn (hs.ctor _ (nth_mem (i := i) (by omega))).2) rfl .none rfl rfl (LeL.refl _) trivial rfl rfl rfl ?_
   refine Walk.not .none rfl rfl ?_
   refine ⟨by show _ = _; kernel_rfl, ?_⟩
   refine cd ?_ ?_
   ·intro h3; have ⟨h3p, h3s⟩ := dup h3; try simp only [Q5] at h3s
    try simp only [Q, Int.natCast_inj] at h3p
    refine sr ?_
    refine asg ?_
    refine tv ?_
    refine CWp.ret ?_
    refine ⟨_, _, [], (.cons (.tmp rfl) .nil), (.eqd ?_), ⟨rfl, rfl⟩, HSub.nil, noBox⟩
    all_goals (refine congrArg D.bool ?_; first | (refine (decide_eq_false (fun e => ?_)).symm; subst e; omega) | (refine (decide_eq_false (fun e => ?_)).symm; subst e; simp_all; done) | (refine (decide_eq_true (ext_nth (by omega) (fun x hx => hg1.2 x (by omega)))).symm))
   ·intro h3; have ⟨h3p, h3s⟩ := dup h3; try simp only [Q5] at h3s
    try simp only [Q, Int.natCast_inj] at h3p
    refine CWp.skip ?_
    refine CWp.region rfl ?_
    refine mv ?_
    refine Walk.addI .none rfl rfl rfl (by first | (constructor <;> omega) | (constructor <;> simp <;> omega)) ?_
    refine asg ?_
    refine tv ?_
    refine ⟨i + 1, ⟨by omega, upto_succ hg1.2 (by simp only [Ctor.eta] at *; assumption)⟩, (by omega), Sub.x (by kernel_rfl) (by kernel_rfl) ⟨⟨_, rfl, (LeA.eqi (by first | rfl | (simp; done) | (simp_all; done) | omega))⟩, trivial⟩ (by kernel_rfl) (by kernel_rfl) trivial⟩
  ·intro h2; have ⟨h2p, h2s⟩ := dup h2; try simp only [Q5] at h2s
   try simp only [Q, Int.natCast_inj] at h2p
   refine CWp.exit ?_
   refine sr ?_
   refine asg ?_
   refine tv ?_
   refine CWp.ret ?_
   refine ⟨_, _, [], (.cons (.tmp rfl) .nil), (.eqd ?_), ⟨rfl, rfl⟩, HSub.nil, noBox⟩
   all_goals (refine congrArg D.bool ?_; first | (refine (decide_eq_false (fun e => ?_)).symm; subst e; omega) | (refine (decide_eq_false (fun e => ?_)).symm; subst e; simp_all; done) | (refine (decide_eq_true (ext_nth (by omega) (fun x hx => hg1.2 x (by omega)))).symm))
theorem laws_eqData_fn {s s' : Str} {l l' : List Ctor} (h : CSmall l) : FnD Try.prog 48 [.agg [.d (.str s), .d (encCtors l)], .agg [.d (.str s'), .d (encCtors l')]] [] (.d (.bool (decide ((⟨s, l⟩ : Data) = ⟨s', l'⟩)))) [] := by
 refine Fn.body (fn := Try.f48) (n := 16) rfl rfl rfl rfl rfl (fun w0 F0 own kept hk => ?_)
 refine sr ?_
 refine Walk.box (id := 3002) .none rfl rfl rfl rfl rfl rfl rfl ?_
 refine Walk.box (id := 3003) .none rfl rfl rfl rfl rfl rfl rfl ?_
 refine asg ?_
 refine tv ?_
 refine CWp.seq ?_
 refine sr ?_
 refine Walk.fieldB fd81_0 .none rfl rfl ?_
 refine Walk.loadB ty9 .none rfl rfl rfl rfl ?_
 refine Walk.fieldB fd81_0 .none rfl rfl ?_
 refine Walk.loadB ty9 .none rfl rfl rfl rfl ?_
 refine Walk.neS .none rfl rfl rfl ?_
 refine tv ?_
 refine cd ?_ ?_
 ·intro h1; have ⟨h1p, h1s⟩ := dup h1; try simp only [Q5] at h1s
  try simp only [Q] at h1p
  refine sr ?_
  refine asg ?_
  refine tv ?_
  refine CWp.ret ?_
  refine ⟨_, _, [], (.cons (.tmp rfl) .nil), (.eqd ?_), ⟨rfl, rfl⟩, HSub.nil, noBox⟩
  all_goals (refine congrArg D.bool ?_; simp [h1s, h1p])
 ·intro h1; have ⟨h1p, h1s⟩ := dup h1; try simp only [Q5] at h1s
  try simp only [Q] at h1p
  refine CWp.skip ?_
  refine CWp.seq ?_
  refine sr ?_
  refine Walk.fieldB fd81_1 .none rfl rfl ?_
  refine Walk.loadB ty79 .none rfl rfl rfl rfl ?_
  refine Walk.fieldB fd81_1 .none rfl rfl ?_
  refine Walk.loadB ty79 .none rfl rfl rfl rfl ?_
  refine Walk.call (cr := []) cal83 (laws_eqCtorS_fn h) rfl .none rfl rfl (LeL.refl _) trivial rfl rfl rfl ?_
  refine Walk.not .none rfl rfl ?_
  refine tv ?_
  refine cd ?_ ?_
  ·intro h2; have ⟨h2p, h2s⟩ := dup h2; try simp only [Q5] at h2s
   try simp only [Q] at h2p
   refine sr ?_
   refine asg ?_
   refine tv ?_
   refine CWp.ret ?_
   refine ⟨_, _, [], (.cons (.tmp rfl) .nil), (.eqd ?_), ⟨rfl, rfl⟩, HSub.nil, noBox⟩
   all_goals (refine congrArg D.bool ?_; simp [h1s, h1p, h2s, h2p])
  ·intro h2; have ⟨h2p, h2s⟩ := dup h2; try simp only [Q5] at h2s
   try simp only [Q] at h2p
   refine CWp.skip ?_
   refine sr ?_
   refine asg ?_
   refine tv ?_
   refine CWp.ret ?_
   refine ⟨_, _, [], (.cons (.tmp rfl) .nil), (.eqd ?_), ⟨rfl, rfl⟩, HSub.nil, noBox⟩
   all_goals (refine congrArg D.bool ?_; simp [h1s, h1p, h2s, h2p])
theorem laws_eqDataS_fn {l m : List Data} (hs : WSmall l) : FnD Try.prog 15 [.d (encDatas l), .d (encDatas m)] [] (.d (.bool (decide (l = m)))) [] := by
 have h := hs.len
 refine Fn.body (fn := Try.f15) (n := 27) rfl rfl rfl rfl rfl (fun w0 F0 own kept hk => ?_)
 refine sr ?_
 refine asg ?_
 refine tv ?_
 refine CWp.seq ?_
 refine sr ?_
 refine mv ?_
 refine Walk.len sl26 .none rfl rfl ?_
 refine mv ?_
 refine Walk.len sl26 .none rfl rfl ?_
 refine Walk.neI .none rfl rfl rfl ?_
 refine tv ?_
 refine cd ?_ ?_
 ·intro h1; have ⟨h1p, h1s⟩ := dup h1; try simp only [Q5] at h1s
  try simp only [Q, Int.natCast_inj] at h1p
  refine sr ?_
  refine asg ?_
  refine tv ?_
  refine CWp.ret ?_
  refine ⟨_, _, [], (.cons (.tmp rfl) .nil), (.eqd ?_), ⟨rfl, rfl⟩, HSub.nil, noBox⟩
  all_goals (refine congrArg D.bool ?_; first | (refine (decide_eq_false (fun e => ?_)).symm; subst e; omega) | (refine (decide_eq_false (fun e => ?_)).symm; subst e; simp_all; done) | (refine (decide_eq_true (ext_nth (by omega) (fun x hx => hg1.2 x (by omega)))).symm))
 ·intro h1; have ⟨h1p, h1s⟩ := dup h1; try simp only [Q5] at h1s
  try simp only [Q, Int.natCast_inj] at h1p
  refine CWp.skip ?_
  refine CWp.seq ?_
  refine sr ?_
  refine asg ?_
  refine tv ?_
  refine CWp.block ?_
  refine CWp.loopX (ι := Nat) hk (fun i => [(5, .d (.i (i : Int)))]) [4, 11, 12, 13, 14, 15, 16, 17, 18, 19, 20, 21, 22, 23, 24, 25, 26] (fun i => []) (fun i => i ≤ l.length ∧ ∀ i', i' < i → nth l i' = nth m i') (fun i => l.length - i) 0 ⟨by omega, fun _ h => absurd h (by omega)⟩ ⟨⟨_, rfl, (LeA.eqi (by first | rfl | (simp; done) | (simp_all; done) | omega))⟩, trivial⟩ trivial (fun x => rfl) (fun i hg1 => ?_)
  refine CWp.seq ?_
  refine sr ?_
  refine mv ?_
  refine mv ?_
  refine Walk.len sl26 .none rfl rfl ?_
  refine Walk.ltI .none rfl rfl rfl ?_
  refine tv ?_
  refine cd ?_ ?_
  ·intro h2; have ⟨h2p, h2s⟩ := dup h2; try simp only [Q5] at h2s
   try simp only [Q, Int.natCast_inj] at h2p
   refine CWp.skip ?_
   refine CWp.seq ?_
   refine CWp.block ?_
   refine CWp.seq ?_
   refine CWp.drawn mixed rfl ?_
   refine mv ?_
   refine mv ?_
   refine Walk.idx sl26 .none rfl rfl rfl rfl (at_nth (by omega)) rfl ?_
   refine Walk.loadPA ty81 .none rfl rfl rfl rfl ?_
   refine mv ?_
   refine mv ?_
   refine Walk.idx sl26 .none rfl rfl rfl rfl (at_nth (by omega)) rfl ?_
   refine Walk.loadPA ty81 .none rfl rfl rfl rfl ?_
   refine Walk.call (cr := []) cal48 (laws_eqData_fn (hs.cs (nth_mem (i := i) (by omega)))) rfl .none rfl rfl (LeL.refl _) trivial rfl rfl rfl ?_
   refine Walk.not .none rfl rfl ?_
   refine ⟨by show _ = _; kernel_rfl, ?_⟩
   refine cd ?_ ?_
   ·intro h3; have ⟨h3p, h3s⟩ := dup h3; try simp only [Q5] at h3s
    try simp only [Q, Int.natCast_inj] at h3p
    refine sr ?_
    refine asg ?_
    refine tv ?_
    refine CWp.ret ?_
    refine ⟨_, _, [], (.cons (.tmp rfl) .nil), (.eqd ?_), ⟨rfl, rfl⟩, HSub.nil, noBox⟩
    all_goals (refine congrArg D.bool ?_; first | (refine (decide_eq_false (fun e => ?_)).symm; subst e; omega) | (refine (decide_eq_false (fun e => ?_)).symm; subst e; simp_all; done) | (refine (decide_eq_true (ext_nth (by omega) (fun x hx => hg1.2 x (by omega)))).symm))
   ·intro h3; have ⟨h3p, h3s⟩ := dup h3; try simp only [Q5] at h3s
    try simp only [Q, Int.natCast_inj] at h3p
    refine CWp.skip ?_
    refine CWp.region rfl ?_
    refine mv ?_
    refine Walk.addI .none rfl rfl rfl (by first | (constructor <;> omega) | (constructor <;> simp <;> omega)) ?_
    refine asg ?_
    refine tv ?_
    refine ⟨i + 1, ⟨by omega, upto_succ hg1.2 (by simp only [Data.eta] at *; assumption)⟩, (by omega), Sub.x (by kernel_rfl) (by kernel_rfl) ⟨⟨_, rfl, (LeA.eqi (by first | rfl | (simp; done) | (simp_all; done) | omega))⟩, trivial⟩ (by kernel_rfl) (by kernel_rfl) trivial⟩
  ·intro h2; have ⟨h2p, h2s⟩ := dup h2; try simp only [Q5] at h2s
   try simp only [Q, Int.natCast_inj] at h2p
   refine CWp.exit ?_
   refine sr ?_
   refine asg ?_
   refine tv ?_
   refine CWp.ret ?_
   refine ⟨_, _, [], (.cons (.tmp rfl) .nil), (.eqd ?_), ⟨rfl, rfl⟩, HSub.nil, noBox⟩
   all_goals (refine congrArg D.bool ?_; first | (refine (decide_eq_false (fun e => ?_)).symm; subst e; omega) | (refine (decide_eq_false (fun e => ?_)).symm; subst e; simp_all; done) | (refine (decide_eq_true (ext_nth (by omega) (fun x hx => hg1.2 x (by omega)))).symm))
end Go.Proofs.Ytadpcmcifbakoaa
