/-
  WALKS: how many values there are; all values up to a depth.
-/
import Derived.Test.YtadpcmcifbakoaaF5
namespace Go.Proofs.Ytadpcmcifbakoaa
open Go
set_option linter.unusedSimpArgs false
set_option linter.unusedVariables false
set_option maxRecDepth 100000
set_option maxHeartbeats 2000000
def TyIn (n : Nat) (t : Ty) : Prop := t.data = -1 ∨ ∃ d : Nat, t.data = d ∧ d < n
structure WT (w : List Data) : Prop where
 small : WSmall w
 arg : ∀ d ∈ w, ∀ c ∈ d.ctors, ∀ t ∈ c.args, TyIn w.length t
def argsOf (w : List Data) (t : Ty) (c : Int) : List Ty :=
 let x := nth (nth w t.data.toNat).ctors c.toNat
 x.args.map (argTy (resIx x t.index))
def ctorsOf (w : List Data) (t : Ty) : List Int := ctorsFrom t.index 0 (nth w t.data.toNat).ctors
def cap (x : Int) : Int := if 401 < x then 401 else x
theorem cap_bd {x : Int} (h : 0 ≤ x) : 0 ≤ cap x ∧ cap x ≤ 401 := by unfold cap; split <;> omega
def countArgs (f : Ty → Int) (l : List Ty) : Int := l.foldl (fun n a => cap (n * f a)) 1
def countSum (g : Int → Int) (l : List Int) : Int := l.foldl (fun s c => cap (s + g c)) 0
def countV (w : List Data) : Nat → Ty → Int
 | 0, _ => 0
 | n + 1, t => if t.data = -1 then 10 else countSum (fun c => countArgs (countV w n) (argsOf w t c)) (ctorsOf w t)
theorem countSum_bd {g : Int → Int} (hg : ∀ c, 0 ≤ g c ∧ g c ≤ 401) (l : List Int) : 0 ≤ countSum g l ∧ countSum g l ≤ 401 := by
 have key : ∀ (l : List Int) (s : Int), 0 ≤ s → s ≤ 401 → 0 ≤ l.foldl (fun s c => cap (s + g c)) s ∧ l.foldl (fun s c => cap (s + g c)) s ≤ 401 := by
  intro l
  induction l with
  | nil => intro s h0 h1; exact ⟨h0, h1⟩
  | cons c r ih =>
   intro s h0 h1
   have h2 : 0 ≤ s + g c := by have := hg c; omega
   exact ih _ (cap_bd h2).1 (cap_bd h2).2
 exact key l 0 (by omega) (by omega)
theorem countArgs_bd {f : Ty → Int} (hf : ∀ t, 0 ≤ f t ∧ f t ≤ 401) : ∀ (l : List Ty) (n : Int), 0 ≤ n → n ≤ 401 → 0 ≤ l.foldl (fun n a => cap (n * f a)) n ∧ l.foldl (fun n a => cap (n * f a)) n ≤ 401
 | [], n, h0, h1 => ⟨h0, h1⟩
 | a :: r, n, h0, h1 => by
  have := Int.mul_nonneg h0 (hf a).1
  exact countArgs_bd hf r _ (cap_bd this).1 (cap_bd this).2
theorem countV_bd (w : List Data) : ∀ (n : Nat) (t : Ty), 0 ≤ countV w n t ∧ countV w n t ≤ 401
 | 0, t => by simp [countV]
 | n + 1, t => by
  unfold countV
  split
  ·omega
  ·exact countSum_bd (fun c => countArgs_bd (countV_bd w n) (argsOf w t c) 1 (by omega) (by omega)) _
theorem ctorsFrom_mem (k : Int) : ∀ (l : List Ctor) (i : Nat) (c : Int), c ∈ ctorsFrom k i l → ∃ j : Nat, c = (j : Int) ∧ i ≤ j ∧ j < i + l.length
 | [], i, c, h => by simp [ctorsFrom] at h
 | x :: r, i, c, h => by
  unfold ctorsFrom at h
  have go : c ∈ ctorsFrom k (i + 1) r → ∃ j : Nat, c = (j : Int) ∧ i ≤ j ∧ j < i + (x :: r).length := fun h => by
   obtain ⟨j, h1, h2, h3⟩ := ctorsFrom_mem k r (i + 1) c h
   exact ⟨j, h1, by omega, by simp; omega⟩
  split at h
  ·rcases List.mem_cons.1 h with h | h
   ·exact ⟨i, h, by omega, by simp⟩
   ·exact go h
  ·exact go h
theorem argTy_in {n : Nat} {k : Int} {t : Ty} (h : TyIn n t) : TyIn n (argTy k t) := by
 unfold argTy; split
 ·exact h
 ·exact h
theorem foldl_split {α β : Type} {f : β → α → β} {pre rest l : List α} {y : α} {b : β} (h : pre ++ y :: rest = l) : (pre ++ [y]).foldl f b = f (pre.foldl f b) y := by simp
def PlaceIn (w : List Data) (d : Nat) (c : Int) : Prop := ∃ j : Nat, c = j ∧ j < (nth w d).ctors.length
theorem place_of {w : List Data} {d : Nat} {k c : Int} (h : c ∈ ctorsOf w ⟨d, k⟩) : PlaceIn w d c := by
 obtain ⟨j, h1, _, h3⟩ := ctorsFrom_mem _ _ _ _ h
 exact ⟨j, h1, by simpa using h3⟩
theorem argsOf_in {w : List Data} (hw : WT w) {d : Nat} (hd : d < w.length) {k c : Int} (hc : PlaceIn w d c) {t : Ty} (ht : t ∈ argsOf w ⟨d, k⟩ c) : TyIn w.length t := by
 obtain ⟨j, rfl, hj⟩ := hc
 simp only [argsOf, Int.toNat_natCast, List.mem_map] at ht
 obtain ⟨x, hx, rfl⟩ := ht
 exact argTy_in (hw.arg _ (nth_mem hd) _ (nth_mem hj) x hx)
theorem argsOf_len {w : List Data} (hw : WT w) {d : Nat} (hd : d < w.length) {k c : Int} (hc : PlaceIn w d c) : (argsOf w ⟨d, k⟩ c).length ≤ 1000000000000 := by
 obtain ⟨j, rfl, hj⟩ := hc
 simp only [argsOf, Int.toNat_natCast, List.length_map]
 exact (hw.small.ctor _ (nth_mem hd) _ (nth_mem hj)).2
theorem ctorsOf_len {w : List Data} (hw : WT w) {d : Nat} {k : Int} : (ctorsOf w ⟨d, k⟩).length ≤ 1000000000000 := by
 have := ctorsFrom_len k (nth w d).ctors 0
 have := hw.small.ctors d
 simp only [ctorsOf, Int.toNat_natCast]; omega
theorem impl_argTypes_in {w : List Data} (hw : WT w) {d : Nat} (hd : d < w.length) {k c : Int} (hc : PlaceIn w d c) : FnD Try.prog 124 [.d (encDatas w), .agg [.d (.i d), .d (.i k)], .d (.i c)] [] (.d (encTys (argsOf w ⟨d, k⟩ c))) [] := by
 obtain ⟨j, rfl, hj⟩ := hc
 exact impl_argTypes_fn hw.small hd hj
theorem impl_ctorsOf_in {w : List Data} (hw : WT w) {d : Nat} (hd : d < w.length) {k : Int} : FnD Try.prog 123 [.d (encDatas w), .agg [.d (.i d), .d (.i k)]] [] (.d (encInts (ctorsOf w ⟨d, k⟩))) [] := impl_ctorsOf_fn hw.small hd
theorem spec_l1Args_in {w : List Data} (hw : WT w) {d : Nat} (hd : d < w.length) {k c : Int} (hc : PlaceIn w d c) : FnD Try.prog 121 [.d (encDatas w), .agg [.d (.i d), .d (.i k)], .d (.i c)] [] (.d (encTys (argsOf w ⟨d, k⟩ c))) [] := by
 obtain ⟨j, rfl, hj⟩ := hc
 exact spec_l1Args_fn hw.small hd hj
theorem spec_l1Ctors_in {w : List Data} (hw : WT w) {d : Nat} (hd : d < w.length) {k : Int} : FnD Try.prog 120 [.d (encDatas w), .agg [.d (.i d), .d (.i k)]] [] (.d (encInts (ctorsOf w ⟨d, k⟩))) [] := spec_l1Ctors_fn hw.small hd
theorem impl_countValues_fn {w : List Data} (hw : WT w) : ∀ (n : Nat) {a k m : Int}, m = n → n ≤ 1000 → TyIn w.length ⟨a, k⟩ → FnD Try.prog 94 [.d (encDatas w), .agg [.d (.i a), .d (.i k)], .d (.i m)] [] (.d (.i (countV w n ⟨a, k⟩))) []
 | 0, a, k, m, hm, _, _ => by
  refine Fn.body (fn := Try.f94) (n := 50) rfl rfl rfl rfl rfl (fun w0 F0 own kept hk => ?_)
  refine sr ?_
  refine Walk.box (id := 3004) .none rfl rfl rfl rfl rfl rfl rfl ?_
  refine asg ?_
  refine tv ?_
  refine CWp.seq ?_
  refine sr ?_
  refine mv ?_
  refine Walk.eqI .none rfl rfl rfl ?_
  refine tv ?_
  refine cd ?_ ?_
  ·intro h1; have ⟨h1p, h1s⟩ := dup h1; try simp only [Q5] at h1s
   try simp only [Q] at h1p
   refine sr ?_
   refine asg ?_
   refine tv ?_
   refine CWp.ret ?_
   refine ⟨_, _, [], (.cons (.tmp rfl) .nil), (.eqd ?_), ⟨rfl, rfl⟩, HSub.nil, noBox⟩
   all_goals (rfl)
  ·intro h1; have ⟨h1p, h1s⟩ := dup h1; try simp only [Q5] at h1s
   try simp only [Q] at h1p
   exfalso; simp at h1; omega --stop
 | n + 1, a, k, m, hm, hn, ht => by
  rcases ht with ha | ⟨d, hd, hlt⟩
  ·have ha' : a = -1 := ha
   subst ha'
   refine Fn.body (fn := Try.f94) (n := 50) rfl rfl rfl rfl rfl (fun w0 F0 own kept hk => ?_)
   refine sr ?_
   refine Walk.box (id := 3004) .none rfl rfl rfl rfl rfl rfl rfl ?_
   refine asg ?_
   refine tv ?_
   refine CWp.seq ?_
   refine sr ?_
   refine mv ?_
   refine Walk.eqI .none rfl rfl rfl ?_
   refine tv ?_
   refine cd ?_ ?_
   ·intro h1; have ⟨h1p, h1s⟩ := dup h1; try simp only [Q5] at h1s
    try simp only [Q] at h1p
    exfalso; simp at h1; omega --stop
   ·intro h1; have ⟨h1p, h1s⟩ := dup h1; try simp only [Q5] at h1s
    try simp only [Q] at h1p
    refine CWp.skip ?_
    refine CWp.seq ?_
    refine sr ?_
    refine Walk.fieldB fd38_0 .none rfl rfl ?_
    refine Walk.loadB ty3 .none rfl rfl rfl rfl ?_
    refine Walk.eqI .none rfl rfl rfl ?_
    refine tv ?_
    refine cd ?_ ?_
    ·intro h2; have ⟨h2p, h2s⟩ := dup h2; try simp only [Q5] at h2s
     try simp only [Q] at h2p
     refine sr ?_
     refine asg ?_
     refine tv ?_
     refine CWp.ret ?_
     refine ⟨_, _, [], (.cons (.tmp rfl) .nil), (.eqd ?_), ⟨rfl, rfl⟩, HSub.nil, noBox⟩
     all_goals (simp [countV])
    ·intro h2; have ⟨h2p, h2s⟩ := dup h2; try simp only [Q5] at h2s
     try simp only [Q] at h2p
     exact absurd h2 (by simp) --stop
  have hd' : a = (d : Int) := hd
  subst hd'
  refine Fn.body (fn := Try.f94) (n := 50) rfl rfl rfl rfl rfl (fun w0 F0 own kept hk => ?_)
  refine sr ?_
  refine Walk.box (id := 3004) .none rfl rfl rfl rfl rfl rfl rfl ?_
  refine asg ?_
  refine tv ?_
  refine CWp.seq ?_
  refine sr ?_
  refine mv ?_
  refine Walk.eqI .none rfl rfl rfl ?_
  refine tv ?_
  refine cd ?_ ?_
  ·intro h1; have ⟨h1p, h1s⟩ := dup h1; try simp only [Q5] at h1s
   try simp only [Q] at h1p
   exfalso; simp at h1; omega --stop
  ·intro h1; have ⟨h1p, h1s⟩ := dup h1; try simp only [Q5] at h1s
   try simp only [Q] at h1p
   refine CWp.skip ?_
   refine CWp.seq ?_
   refine sr ?_
   refine Walk.fieldB fd38_0 .none rfl rfl ?_
   refine Walk.loadB ty3 .none rfl rfl rfl rfl ?_
   refine Walk.eqI .none rfl rfl rfl ?_
   refine tv ?_
   refine cd ?_ ?_
   ·intro h2; have ⟨h2p, h2s⟩ := dup h2; try simp only [Q5] at h2s
    try simp only [Q] at h2p
    exfalso; simp at h2 <;> omega --stop
   ·intro h2; have ⟨h2p, h2s⟩ := dup h2; try simp only [Q5] at h2s
    try simp only [Q] at h2p
    refine CWp.skip ?_
    refine sr ?_
    refine asg ?_
    refine tv ?_
    refine CWp.seq ?_
    refine sr ?_
    refine mv ?_
    refine Walk.loadBA ty38 .none rfl rfl rfl rfl ?_
    refine Walk.call (cr := []) cal123 (impl_ctorsOf_in hw hlt) rfl .none rfl rfl (LeL.refl _) trivial rfl rfl rfl ?_
    refine Walk.len sl126 .none rfl rfl ?_
    refine mv ?_
    refine tv ?_
    refine CWp.block ?_
    refine CWp.loopX (ι := List (Int) × List (Int)) hk (fun x => [(22, .d (.i (x.1.length : Int))), (7, .d (.i (countSum (fun c => countArgs (countV w n) (argsOf w ⟨d, k⟩ c)) x.1)))]) [9, 10, 12, 23, 24, 25, 26, 27, 28, 29, 30, 31, 32, 33, 34, 35, 36, 37, 38, 39, 40, 41, 42, 43, 44, 45, 46, 47, 48] (fun x => []) (fun x => x.1 ++ x.2 = ctorsOf w ⟨d, k⟩) (fun x => x.2.length) ([], ctorsOf w ⟨d, k⟩) (by simp) ⟨⟨_, rfl, (LeA.eqi (by first | rfl | (simp; done) | (simp only [countSum, List.foldl_append, List.foldl_cons, List.foldl_nil, countArgs, ← hg2]; rfl)))⟩, ⟨⟨_, rfl, (LeA.eqi (by first | rfl | (simp; done) | (simp only [countSum, List.foldl_append, List.foldl_cons, List.foldl_nil, countArgs, ← hg2]; rfl)))⟩, trivial⟩⟩ trivial (fun x => rfl) (fun x hg1 => ?_)
    obtain ⟨pre, rest⟩ := x
    dsimp only at hg1 ⊢
    have hcl := ctorsOf_len hw (d := d) (k := k)
    refine sr ?_
    refine Walk.ltI .none rfl rfl rfl ?_
    refine tv ?_
    refine CWp.seq ?_
    refine cd ?_ ?_
    ·intro h3; have ⟨h3p, h3s⟩ := dup h3; try simp only [Q5] at h3s
     try simp only [Q] at h3p
     rcases rest with _ | ⟨c, rest⟩
     ·exfalso; simp_all
     refine CWp.skip ?_
     refine CWp.seq ?_
     refine CWp.block ?_
     refine sr ?_
     refine Walk.idx sl126 .none rfl rfl rfl rfl (zip_at hg1) rfl ?_
     refine Walk.loadP ty3 .none rfl rfl rfl ?_
     refine asg ?_
     refine tv ?_
     refine sr ?_
     refine asg ?_
     refine tv ?_
     refine CWp.seq ?_
     refine sr ?_
     refine mv ?_
     refine Walk.loadBA ty38 .none rfl rfl rfl rfl ?_
     refine mv ?_
     refine Walk.call (cr := []) cal124 (impl_argTypes_in hw hlt (place_of (k := k) (by rw [← hg1]; simp))) rfl .none rfl rfl (LeL.refl _) trivial rfl rfl rfl ?_
     refine Walk.len sl24 .none rfl rfl ?_
     refine mv ?_
     refine tv ?_
     refine CWp.block ?_
     refine CWp.loopX (ι := List (Ty) × List (Ty)) hk (fun x => [(31, .d (.i (x.1.length : Int))), (10, .d (.i (x.1.foldl (fun n' a => cap (n' * countV w n a)) 1)))]) [12, 32, 33, 34, 35, 36, 37, 38, 39, 40, 41, 42, 43] (fun x => []) (fun x => x.1 ++ x.2 = argsOf w ⟨d, k⟩ c) (fun x => x.2.length) ([], argsOf w ⟨d, k⟩ c) (by simp) ⟨⟨_, rfl, (LeA.eqi (by first | rfl | (simp; done) | (simp only [List.foldl_append, List.foldl_cons, List.foldl_nil]; rfl)))⟩, ⟨⟨_, rfl, (LeA.eqi (by first | rfl | (simp; done) | (simp only [List.foldl_append, List.foldl_cons, List.foldl_nil]; rfl)))⟩, trivial⟩⟩ trivial (fun x => rfl) (fun x hg2 => ?_)
     obtain ⟨pre2, rest2⟩ := x
     dsimp only at hg2 ⊢
     have hal := argsOf_len hw hlt (k := k) (place_of (k := k) (c := c) (by rw [← hg1]; simp))
     refine sr ?_
     refine Walk.ltI .none rfl rfl rfl ?_
     refine tv ?_
     refine CWp.seq ?_
     refine cd ?_ ?_
     ·intro h4; have ⟨h4p, h4s⟩ := dup h4; try simp only [Q5] at h4s
      try simp only [Q] at h4p
      rcases rest2 with _ | ⟨y, rest2⟩
      ·exfalso; simp_all
      refine CWp.skip ?_
      refine CWp.seq ?_
      refine CWp.block ?_
      refine sr ?_
      refine Walk.idx sl24 .none rfl rfl rfl rfl (zip_at hg2) rfl ?_
      refine Walk.loadPA ty38 .none rfl rfl rfl rfl ?_
      refine Walk.alloc (id := 3012) tz38 rfl .none rfl rfl rfl rfl ?_
      refine Walk.store ty38 .none rfl rfl rfl rfl rfl rfl (by simp) rfl ?_
      refine tv ?_
      refine CWp.region rfl ?_
      refine mv ?_
      refine mv ?_
      refine Walk.loadBA ty38 .none rfl rfl rfl rfl ?_
      refine mv ?_
      refine Walk.subI .none rfl rfl rfl (by first | (constructor <;> omega) | (have b1 := countArgs_bd (countV_bd w n) pre2 1 (by omega) (by omega); have b2 := countV_bd w n y; have b3 := Int.mul_nonneg b1.1 b2.1; have b4 := Int.mul_le_mul b1.2 b2.2 b2.1 (by omega); constructor <;> (try simp only [Ty.eta]) <;> omega) | (constructor <;> simp <;> omega) | (have b1 := countArgs_bd (countV_bd w n) pre2 1 (by omega) (by omega); have b2 := countSum_bd (g := fun c => countArgs (countV w n) (argsOf w ⟨d, k⟩ c)) (fun c => countArgs_bd (countV_bd w n) (argsOf w ⟨d, k⟩ c) 1 (by omega) (by omega)) pre; constructor <;> omega)) ?_
      refine Walk.call (cr := []) cal94 (impl_countValues_fn hw n (a := y.data) (k := y.index) (by omega) (by omega) (argsOf_in hw hlt (k := k) (place_of (k := k) (c := c) (by rw [← hg1]; simp)) (t := y) (by rw [← hg2]; simp))) rfl .none rfl rfl (LeL.refl _) trivial rfl rfl rfl ?_
      refine Walk.mulI .none rfl rfl rfl (by first | (constructor <;> omega) | (have b1 := countArgs_bd (countV_bd w n) pre2 1 (by omega) (by omega); have b2 := countV_bd w n y; have b3 := Int.mul_nonneg b1.1 b2.1; have b4 := Int.mul_le_mul b1.2 b2.2 b2.1 (by omega); constructor <;> (try simp only [Ty.eta]) <;> omega) | (constructor <;> simp <;> omega) | (have b1 := countArgs_bd (countV_bd w n) pre2 1 (by omega) (by omega); have b2 := countSum_bd (g := fun c => countArgs (countV w n) (argsOf w ⟨d, k⟩ c)) (fun c => countArgs_bd (countV_bd w n) (argsOf w ⟨d, k⟩ c) 1 (by omega) (by omega)) pre; constructor <;> omega)) ?_
      refine Walk.minI .none rfl rfl rfl ?_
      refine asg ?_
      refine tv ?_
      refine CWp.region rfl ?_
      refine Walk.addI .none rfl rfl rfl (by first | (constructor <;> omega) | (have b1 := countArgs_bd (countV_bd w n) pre2 1 (by omega) (by omega); have b2 := countV_bd w n y; have b3 := Int.mul_nonneg b1.1 b2.1; have b4 := Int.mul_le_mul b1.2 b2.2 b2.1 (by omega); constructor <;> (try simp only [Ty.eta]) <;> omega) | (constructor <;> simp <;> omega) | (have b1 := countArgs_bd (countV_bd w n) pre2 1 (by omega) (by omega); have b2 := countSum_bd (g := fun c => countArgs (countV w n) (argsOf w ⟨d, k⟩ c)) (fun c => countArgs_bd (countV_bd w n) (argsOf w ⟨d, k⟩ c) 1 (by omega) (by omega)) pre; constructor <;> omega)) ?_
      refine mv ?_
      refine tv ?_
      refine ⟨(pre2 ++ [y], rest2), (by have hz := hg2; rw [← hz]; simp), (by simp), Sub.x (by kernel_rfl) (by kernel_rfl) ⟨⟨_, rfl, (LeA.eqi (by first | rfl | (simp; done) | (simp only [List.foldl_append, List.foldl_cons, List.foldl_nil]; rfl)))⟩, ⟨⟨_, rfl, (LeA.eqi (by first | rfl | (simp; done) | (simp only [List.foldl_append, List.foldl_cons, List.foldl_nil]; rfl)))⟩, trivial⟩⟩ (by kernel_rfl) (by kernel_rfl) trivial⟩
     ·intro h4; have ⟨h4p, h4s⟩ := dup h4; try simp only [Q5] at h4s
      try simp only [Q] at h4p
      have hrest2 : rest2 = [] := by
       rcases rest2 with _ | ⟨a, b⟩
       ·rfl
       ·exfalso; have hz := congrArg List.length (hg2); simp only [List.length_append, List.length_cons, List.length_map] at hz; omega
      subst hrest2
      refine CWp.exit ?_
      refine CWp.region rfl ?_
      refine mv ?_
      refine mv ?_
      refine Walk.addI .none rfl rfl rfl (by first | (constructor <;> omega) | (have b1 := countArgs_bd (countV_bd w n) pre2 1 (by omega) (by omega); have b2 := countV_bd w n y; have b3 := Int.mul_nonneg b1.1 b2.1; have b4 := Int.mul_le_mul b1.2 b2.2 b2.1 (by omega); constructor <;> (try simp only [Ty.eta]) <;> omega) | (constructor <;> simp <;> omega) | (have b1 := countArgs_bd (countV_bd w n) pre2 1 (by omega) (by omega); have b2 := countSum_bd (g := fun c => countArgs (countV w n) (argsOf w ⟨d, k⟩ c)) (fun c => countArgs_bd (countV_bd w n) (argsOf w ⟨d, k⟩ c) 1 (by omega) (by omega)) pre; constructor <;> omega)) ?_
      refine Walk.minI .none rfl rfl rfl ?_
      refine asg ?_
      refine tv ?_
      refine CWp.region rfl ?_
      refine Walk.addI .none rfl rfl rfl (by first | (constructor <;> omega) | (have b1 := countArgs_bd (countV_bd w n) pre2 1 (by omega) (by omega); have b2 := countV_bd w n y; have b3 := Int.mul_nonneg b1.1 b2.1; have b4 := Int.mul_le_mul b1.2 b2.2 b2.1 (by omega); constructor <;> (try simp only [Ty.eta]) <;> omega) | (constructor <;> simp <;> omega) | (have b1 := countArgs_bd (countV_bd w n) pre2 1 (by omega) (by omega); have b2 := countSum_bd (g := fun c => countArgs (countV w n) (argsOf w ⟨d, k⟩ c)) (fun c => countArgs_bd (countV_bd w n) (argsOf w ⟨d, k⟩ c) 1 (by omega) (by omega)) pre; constructor <;> omega)) ?_
      refine mv ?_
      refine tv ?_
      first | (rw [List.append_nil] at hg2) | skip
      refine ⟨(pre ++ [c], rest), (by have hz := hg1; rw [← hz]; simp), (by simp), Sub.x (by kernel_rfl) (by kernel_rfl) ⟨⟨_, rfl, (LeA.eqi (by first | rfl | (simp; done) | (simp only [countSum, List.foldl_append, List.foldl_cons, List.foldl_nil, countArgs, ← hg2]; rfl)))⟩, ⟨⟨_, rfl, (LeA.eqi (by first | rfl | (simp; done) | (simp only [countSum, List.foldl_append, List.foldl_cons, List.foldl_nil, countArgs, ← hg2]; rfl)))⟩, trivial⟩⟩ (by kernel_rfl) (by kernel_rfl) trivial⟩
    ·intro h3; have ⟨h3p, h3s⟩ := dup h3; try simp only [Q5] at h3s
     try simp only [Q] at h3p
     have hrest : rest = [] := by
      rcases rest with _ | ⟨a, b⟩
      ·rfl
      ·exfalso; have hz := congrArg List.length (hg1); simp only [List.length_append, List.length_cons, List.length_map] at hz; omega
     subst hrest
     refine CWp.exit ?_
     refine sr ?_
     refine mv ?_
     refine asg ?_
     refine tv ?_
     refine CWp.ret ?_
     refine ⟨_, _, [], (.cons (.tmp rfl) .nil), (.eqd ?_), ⟨rfl, rfl⟩, HSub.nil, noBox⟩
     all_goals ((rw [List.append_nil] at hg1); subst hg1; (try simp [countV]) <;> omega)
end Go.Proofs.Ytadpcmcifbakoaa
