/-
  WALKS: the laws' copies as trees, their marks, and the look at the marks: types, worlds.
-/
import Derived.Test.YtadpcmcifbakoaaF3
import Derived.Test.YtadpcmcifbakoaaAmX
namespace Go.Proofs.Ytadpcmcifbakoaa
open Go
set_option linter.unusedSimpArgs false
set_option linter.unusedVariables false
set_option maxRecDepth 100000
set_option maxHeartbeats 2000000
def digit (n : Nat) : UInt8 := UInt8.ofNat (IntKind.u8.wrap (48 + (n : Int) % 10)).toNat
def digs (n : Nat) : Str := if n = 0 then [] else digs (n / 10) ++ [digit n]
theorem digs_zero : digs 0 = [] := by unfold digs; rfl
theorem digs_pos {n : Nat} (h : 0 < n) : digs n = digs (n / 10) ++ [digit n] := by
 conv => lhs; unfold digs
 rw [if_neg (by omega)]
theorem digs_len : ∀ n : Nat, (digs n).length ≤ n
 | 0 => by rw [digs_zero]; simp
 | n + 1 => by
  rw [digs_pos (by omega)]
  have := digs_len ((n + 1) / 10)
  simp only [List.length_append, List.length_cons, List.length_nil]
  omega
termination_by n => n
decreasing_by omega
def markStr (n : Nat) : Str := 109 :: digs n
def Ty.one (k : Int) (_ : Ty) : Ty := ⟨k, k + 1⟩
def Ty.sz (_ : Ty) : Int := 2
def Ctor.one (k : Int) (x : Ctor) : Ctor := ⟨markStr k.toNat, mkL Ty.one Ty.sz (k + 1) x.args, k + 1 + szL Ty.sz x.args⟩
def Ctor.sz (x : Ctor) : Int := 2 + szL Ty.sz x.args
def Data.one (k : Int) (x : Data) : Data := ⟨markStr k.toNat, mkL Ctor.one Ctor.sz (k + 1) x.ctors⟩
def Data.sz (x : Data) : Int := 1 + szL Ctor.sz x.ctors
theorem Ty.sz_nn (x : Ty) : 0 ≤ x.sz := by simp [Ty.sz]
theorem Ctor.sz_nn (x : Ctor) : 0 ≤ x.sz := by have := szL_nonneg (l := x.args) Ty.sz_nn; unfold Ctor.sz; omega
theorem Data.sz_nn (x : Data) : 0 ≤ x.sz := by have := szL_nonneg (l := x.ctors) Ctor.sz_nn; unfold Data.sz; omega
theorem szL_tys : ∀ l : List Ty, szL Ty.sz l = 2 * l.length
 | [] => rfl
 | x :: r => by simp only [szL, szL_tys r, Ty.sz, List.length_cons]; omega
theorem szL_split {α : Type} {sz : α → Int} {pre rest l : List α} {y : α} (h : pre ++ y :: rest = l) : szL sz l = szL sz pre + sz y + szL sz rest := by
 subst h; rw [szL_append]; simp only [szL]; omega
theorem laws_markText_fn {n : Nat} (hn : 0 < n) (hb : (n : Int) ≤ 1000000000000) : FnD Try.prog 49 [.d (.i (n : Int))] [] (.d (.str (markStr n))) [] := by
 have hl := digs_len n
 refine Fn.body (fn := Try.f49) (n := 20) rfl rfl rfl rfl rfl (fun w0 F0 own kept hk => ?_)
 refine sr ?_
 refine asg ?_
 refine tv ?_
 refine CWp.seq ?_
 refine sr ?_
 refine mv ?_
 refine Walk.leI .none rfl rfl rfl ?_
 refine tv ?_
 refine cd ?_ ?_
 ·intro h1; have ⟨h1p, h1s⟩ := dup h1; try simp only [Q5] at h1s
  try simp only [Q] at h1p
  exfalso; omega --stop
 ·intro h1; have ⟨h1p, h1s⟩ := dup h1; try simp only [Q5] at h1s
  try simp only [Q] at h1p
  refine CWp.skip ?_
  refine sr ?_
  refine asg ?_
  refine tv ?_
  refine CWp.seq ?_
  refine CWp.block ?_
  refine CWp.loopX (ι := Nat × Str) hk (fun x => [(0, .d (.i (x.1 : Int))), (3, .d (.str x.2))]) [6, 7, 8, 9, 10, 11, 12, 13, 14, 15, 16, 17] (fun x => []) (fun x => digs x.1 ++ x.2 = digs n ∧ x.1 ≤ n) (fun x => x.1) (n, []) (by simp) ⟨⟨_, rfl, (LeA.eqi (by first | rfl | (dsimp only; omega) | (simp [strN, digit]; done)))⟩, ⟨⟨_, rfl, (LeA.eqs (by first | rfl | (dsimp only; omega) | (simp [strN, digit]; done)))⟩, trivial⟩⟩ trivial (fun x => rfl) (fun x hg1 => ?_)
  refine CWp.seq ?_
  refine sr ?_
  refine mv ?_
  refine Walk.gtI .none rfl rfl rfl ?_
  refine tv ?_
  refine cd ?_ ?_
  ·intro h2; have ⟨h2p, h2s⟩ := dup h2; try simp only [Q5] at h2s
   try simp only [Q] at h2p
   refine CWp.skip ?_
   refine CWp.block ?_
   refine sr ?_
   refine mv ?_
   refine Walk.remI .none rfl rfl rfl (by omega) ?_
   refine Walk.addI .none rfl rfl rfl (by first | (constructor <;> omega) | (constructor <;> simp <;> omega)) ?_
   refine Walk.conv (by rw [un3]; rfl) un5 .none rfl rfl ?_
   refine Walk.sliceLit sl33 tz5 rfl (by decide) (ks := [0]) (xs := [_]) rfl rfl (by decide) (by decide) .none rfl rfl rfl rfl ?_
   refine Walk.bytesStr sl33 un9 (by kernel_rfl) .none rfl rfl rfl (by first | rfl | exact numsD_enc _) ?_
   refine mv ?_
   refine Walk.catS .none rfl rfl rfl (by have hz := congrArg List.length hg1.1; simp [strN] at hz ⊢; omega) ?_
   refine asg ?_
   refine tv ?_
   refine CWp.region rfl ?_
   refine mv ?_
   refine Walk.quoI .none rfl rfl rfl (by omega) ?_
   refine asg ?_
   refine tv ?_
   refine ⟨(x.1 / 10, digit x.1 :: x.2), ⟨(by rw [← hg1.1, digs_pos (n := x.1) (by omega)]; simp), (by have := hg1.2; dsimp only; omega)⟩, (by dsimp only; omega), Sub.x (by kernel_rfl) (by kernel_rfl) ⟨⟨_, rfl, (LeA.eqi (by first | rfl | (dsimp only; omega) | (simp [strN, digit]; done)))⟩, ⟨⟨_, rfl, (LeA.eqs (by first | rfl | (dsimp only; omega) | (simp [strN, digit]; done)))⟩, trivial⟩⟩ (by kernel_rfl) (by kernel_rfl) trivial⟩
  ·intro h2; have ⟨h2p, h2s⟩ := dup h2; try simp only [Q5] at h2s
   try simp only [Q] at h2p
   refine CWp.exit ?_
   refine sr ?_
   refine mv ?_
   refine Walk.catS .none rfl rfl rfl (by have hz := congrArg List.length hg1.1; simp [strN] at hz ⊢; omega) ?_
   refine asg ?_
   refine tv ?_
   refine CWp.ret ?_
   refine ⟨_, _, [], (.cons (.tmp rfl) .nil), (.eqd ?_), ⟨rfl, rfl⟩, HSub.nil, noBox⟩
   all_goals (first | (exfalso; omega) | rfl | (refine congrArg D.str ?_; have hz : x.1 = 0 := (by omega); have hy := hg1.1; rw [hz, digs_zero, List.nil_append] at hy; rw [hy]; rfl))
theorem laws_markText_k {k : Int} (h0 : 0 < k) (hb : k ≤ 1000000000000) : FnD Try.prog 49 [.d (.i k)] [] (.d (.str (markStr k.toNat))) [] := by
 have hz := laws_markText_fn (n := k.toNat) (by omega) (by omega)
 rw [show ((k.toNat : Nat) : Int) = k by omega] at hz
 exact hz
theorem laws_toTypeS_tr {l : List Ty} (h : l.length ≤ 1000000000000) : FnD Try.prog 140 [.d (encTys l)] [] (.ms 61 l.length) [(61, some (.tree (ownCells false (l.map Ty.c))))] := by
 refine Fn.body (fn := Try.f140) (n := 23) rfl rfl rfl rfl rfl (fun w0 F0 own kept hk => ?_)
 refine sr ?_
 refine asg ?_
 refine tv ?_
 refine sr ?_
 refine mv ?_
 refine Walk.len sl138 .none rfl rfl ?_
 refine Walk.make (id := 61) sl24 tz38 rfl (by decide) (zerosA_ids rfl) .none rfl rfl rfl (by simp; omega) (by simp; omega) rfl rfl rfl ?_
 refine asg ?_
 refine tv ?_
 refine CWp.seq ?_
 refine CWp.seq ?_
 refine CWp.boxTree 61 false rfl (zerosA_map _ _ _) ?_
 refine CWp.region rfl ?_
 refine asg ?_
 refine tv ?_
 refine CWp.block ?_
 refine CWp.loopX (ι := List (Ty) × List (Ty)) hk (fun x => [(4, .d (.i (x.1.length : Int)))]) [8, 9, 10, 11, 12, 13, 14, 15, 16, 17, 18, 19, 20, 21] (fun x => [(61, some (.tree (ownCells false (x.1.map Ty.c) ++ zerosA x.2.length [.d (.i 0), .d (.i 0)])))]) (fun x => x.1 ++ x.2 = l) (fun x => x.2.length) ([], l) (by simp) ⟨⟨_, rfl, (LeA.eqi (by first | rfl | (simp; done) | (simp_all; done) | omega))⟩, trivial⟩ ⟨(by first | rfl | (show some (Res.tree _) = some (Res.tree _); rw [List.map_append, List.map_singleton, ← own_next]; rfl) | (show some (Res.tree _) = some (Res.tree _); simp [ownCells_nil]; rfl)), trivial⟩ (fun x => rfl) (fun x hg1 => ?_)
 obtain ⟨pre, rest⟩ := x
 dsimp only at hg1 ⊢
 refine CWp.seq ?_
 refine sr ?_
 refine mv ?_
 refine mv ?_
 refine Walk.len sl138 .none rfl rfl ?_
 refine Walk.ltI .none rfl rfl rfl ?_
 refine tv ?_
 refine cd ?_ ?_
 ·intro h1; have ⟨h1p, h1s⟩ := dup h1; try simp only [Q5] at h1s
  try simp only [Q] at h1p
  rcases rest with _ | ⟨y, rest⟩
  ·exfalso; simp_all
  refine CWp.skip ?_
  refine CWp.seq ?_
  refine CWp.block ?_
  refine CWp.region rfl ?_
  refine mv ?_
  refine mv ?_
  refine mv ?_
  refine mv ?_
  refine Walk.idx sl138 .none rfl rfl rfl rfl (zip_at hg1) rfl ?_
  refine Walk.loadPA ty40 .none rfl rfl rfl rfl ?_
  refine Walk.call (cr := []) cal24 (laws_toType_fn) rfl .none rfl rfl (LeL.refl _) trivial rfl (by first | rfl | (simp only [okCall, List.all_cons, List.all_nil, entOK, entOK', AV.idsL, AV.ids, idsL_append, ownCells_ids, List.map_cons, List.map_nil]; rfl)) (by first | rfl | (simp only [freshB, occH, occE, Res.ids, List.cons_append, List.nil_append, AV.idsL, AV.ids, idsL_append, ownCells_ids, zerosA_idsR, repNil, List.map_cons, List.map_nil, upC]; rfl)) ?_
  refine Walk.idxM sl24 .none rfl rfl rfl rfl (by first | omega | (simp ; omega)) ?_
  refine Walk.storeT ty38 .none rfl rfl rfl rfl rfl rfl (by simp) ((putC_fill (own_len false (by intro x _; rfl)) rfl)) ?_
  refine tv ?_
  refine CWp.region rfl ?_
  refine mv ?_
  refine Walk.addI .none rfl rfl rfl (by first | (constructor <;> omega) | (constructor <;> simp <;> omega)) ?_
  refine asg ?_
  refine tv ?_
  refine ⟨(pre ++ [y], rest), (by have hz := hg1; rw [← hz]; simp), (by simp), Sub.x (by kernel_rfl) (by kernel_rfl) ⟨⟨_, rfl, (LeA.eqi (by first | rfl | (simp; done) | (simp_all; done) | omega))⟩, trivial⟩ (by kernel_rfl) (by kernel_rfl) ⟨(by first | rfl | (show some (Res.tree _) = some (Res.tree _); rw [List.map_append, List.map_singleton, ← own_next]; rfl) | (show some (Res.tree _) = some (Res.tree _); simp [ownCells_nil]; rfl)), trivial⟩⟩
 ·intro h1; have ⟨h1p, h1s⟩ := dup h1; try simp only [Q5] at h1s
  try simp only [Q] at h1p
  have hrest : rest = [] := by
   rcases rest with _ | ⟨a, b⟩
   ·rfl
   ·exfalso; have hz := congrArg List.length (hg1); simp only [List.length_append, List.length_cons, List.length_map] at hz; omega
  subst hrest
  refine CWp.exit ?_
  refine sr ?_
  refine mv ?_
  refine asg ?_
  refine tv ?_
  refine CWp.ret ?_
  refine ⟨_, _, [(61, some (.tree (ownCells false (l.map Ty.c))))], (.cons (.tmp rfl) .nil), (LeA.msn ?_), ⟨rfl, rfl⟩, (SubH.get ⟨(by first | rfl | (rw [List.append_nil] at hg1; subst hg1; show some (Res.tree _) = some (Res.tree _); simp [zerosA]; done)), trivial⟩), (boxOK rfl)⟩
  all_goals (first | rfl | (simp; done))
theorem laws_toCtor_tr {s : Str} {args : List Ty} {k : Int} (h : args.length ≤ 1000000000000) : FnD Try.prog 114 [.agg [.d (.str s), .d (encTys args), .d (.i k)]] [] (.agg [.d (.str s), .ms 61 args.length, .d (.i k)]) [(61, some (.tree (ownCells false (args.map Ty.c))))] := by
 refine Fn.body (fn := Try.f114) (n := 15) rfl rfl rfl rfl rfl (fun w0 F0 own kept hk => ?_)
 refine sr ?_
 refine Walk.box (id := 3001) .none rfl rfl rfl rfl rfl rfl rfl ?_
 refine Walk.alloc (id := 3002) tz90 rfl .none rfl rfl rfl rfl ?_
 refine tv ?_
 refine sr ?_
 refine Walk.alloc (id := 3003) tz90 rfl .none rfl rfl rfl rfl ?_
 refine tv ?_
 refine sr ?_
 refine Walk.fieldB fd140_0 .none rfl rfl ?_
 refine Walk.loadB ty9 .none rfl rfl rfl rfl ?_
 refine Walk.fieldB fd90_0 .none rfl rfl ?_
 refine Walk.store ty9 .none rfl rfl rfl rfl rfl rfl (by simp) rfl ?_
 refine tv ?_
 refine sr ?_
 refine Walk.fieldB fd140_1 .none rfl rfl ?_
 refine Walk.loadB ty138 .none rfl rfl rfl rfl ?_
 refine Walk.call (cr := [61]) cal140 (laws_toTypeS_tr h) rfl .none rfl rfl (LeL.refl _) trivial rfl (by first | rfl | (simp only [okCall, List.all_cons, List.all_nil, entOK, entOK', AV.idsL, AV.ids, idsL_append, ownCells_ids, List.map_cons, List.map_nil]; rfl)) (by first | rfl | (simp only [freshB, occH, occE, Res.ids, List.cons_append, List.nil_append, AV.idsL, AV.ids, idsL_append, ownCells_ids, zerosA_idsR, repNil, List.map_cons, List.map_nil, upC]; rfl)) ?_
 refine Walk.fieldB fd90_1 .none rfl rfl ?_
 refine Walk.store ty24 .none rfl rfl rfl rfl rfl rfl (by simp) rfl ?_
 refine tv ?_
 refine sr ?_
 refine Walk.fieldB fd140_2 .none rfl rfl ?_
 refine Walk.loadB ty3 .none rfl rfl rfl rfl ?_
 refine Walk.fieldB fd90_2 .none rfl rfl ?_
 refine Walk.store ty3 .none rfl rfl rfl rfl rfl rfl (by simp) rfl ?_
 refine tv ?_
 refine sr ?_
 refine Walk.loadBA ty90 .none rfl rfl rfl rfl ?_
 refine Walk.store ty90 .none rfl rfl rfl rfl rfl rfl (by simp) rfl ?_
 refine tv ?_
 refine CWp.ret ?_
 refine ⟨_, _, [(61, some (.tree (ownCells false (args.map Ty.c))))], (.cons (.cellA ty90 rfl rfl rfl) .nil), (.agg (.cons (.eqd ?_) (.cons (LeA.msn ?_) (.cons (.eqd ?_) .nil)))), ⟨rfl, rfl⟩, (SubH.get ⟨rfl, trivial⟩), (boxOK rfl)⟩
 all_goals (first | rfl | (simp []; done) | (simp_all; done) | (simp_all; omega) | omega)
theorem laws_toCtorS_tr {l : List Ctor} (hs : CSmall l) : FnD Try.prog 82 [.d (encCtors l)] [] (.ms 62 l.length) [(62, some (.tree (ownCells false (l.map Ctor.c))))] := by
 have h := hs.len
 refine Fn.body (fn := Try.f82) (n := 23) rfl rfl rfl rfl rfl (fun w0 F0 own kept hk => ?_)
 refine sr ?_
 refine asg ?_
 refine tv ?_
 refine sr ?_
 refine mv ?_
 refine Walk.len sl76 .none rfl rfl ?_
 refine Walk.make (id := 62) sl79 tz90 rfl (by decide) (zerosA_ids rfl) .none rfl rfl rfl (by simp; omega) (by simp; omega) rfl rfl rfl ?_
 refine asg ?_
 refine tv ?_
 refine CWp.seq ?_
 refine CWp.seq ?_
 refine CWp.boxTree 62 false rfl (zerosA_map _ _ _) ?_
 refine CWp.region rfl ?_
 refine asg ?_
 refine tv ?_
 refine CWp.block ?_
 refine CWp.loopX (ι := List (Ctor) × List (Ctor)) hk (fun x => [(4, .d (.i (x.1.length : Int)))]) [8, 9, 10, 11, 12, 13, 14, 15, 16, 17, 18, 19, 20, 21] (fun x => [(62, some (.tree (ownCells false (x.1.map Ctor.c) ++ zerosA x.2.length [.d (.str []), .own false (.sl []), .d (.i 0)])))]) (fun x => x.1 ++ x.2 = l) (fun x => x.2.length) ([], l) (by simp) ⟨⟨_, rfl, (LeA.eqi (by first | rfl | (simp; done) | (simp_all; done) | omega))⟩, trivial⟩ ⟨(by first | rfl | (show some (Res.tree _) = some (Res.tree _); rw [List.map_append, List.map_singleton, ← own_next]; rfl) | (show some (Res.tree _) = some (Res.tree _); simp [ownCells_nil]; rfl)), trivial⟩ (fun x => rfl) (fun x hg1 => ?_)
 obtain ⟨pre, rest⟩ := x
 dsimp only at hg1 ⊢
 refine CWp.seq ?_
 refine sr ?_
 refine mv ?_
 refine mv ?_
 refine Walk.len sl76 .none rfl rfl ?_
 refine Walk.ltI .none rfl rfl rfl ?_
 refine tv ?_
 refine cd ?_ ?_
 ·intro h1; have ⟨h1p, h1s⟩ := dup h1; try simp only [Q5] at h1s
  try simp only [Q] at h1p
  rcases rest with _ | ⟨y, rest⟩
  ·exfalso; simp_all
  refine CWp.skip ?_
  refine CWp.seq ?_
  refine CWp.block ?_
  refine CWp.region rfl ?_
  refine mv ?_
  refine mv ?_
  refine mv ?_
  refine mv ?_
  refine Walk.idx sl76 .none rfl rfl rfl rfl (zip_at hg1) rfl ?_
  refine Walk.loadPA ty140 .none rfl rfl rfl rfl ?_
  refine Walk.call (cr := [61]) cal114 (laws_toCtor_tr (hs.ctor y (by rw [← hg1]; simp)).2) rfl .none rfl rfl (LeL.refl _) trivial rfl (by first | rfl | (simp only [okCall, List.all_cons, List.all_nil, entOK, entOK', AV.idsL, AV.ids, idsL_append, ownCells_ids, List.map_cons, List.map_nil]; rfl)) (by first | rfl | (simp only [freshB, occH, occE, Res.ids, List.cons_append, List.nil_append, AV.idsL, AV.ids, idsL_append, ownCells_ids, zerosA_idsR, repNil, List.map_cons, List.map_nil, upC]; rfl)) ?_
  refine Walk.idxM sl79 .none rfl rfl rfl rfl (by first | omega | (simp ; omega)) ?_
  refine Walk.storeT ty90 .none rfl rfl rfl rfl rfl rfl (by simp) ((putC_fill (own_len (k := 3) false (by intro x _; rfl)) rfl)) ?_
  refine tv ?_
  refine CWp.merge hk 62 (pre.length * 3 + 1) 61 2 _ rfl (cell_off (own_len (k := 3) false (by intro x _; rfl)) rfl) (by simp [mkL_len]) rfl (by first | (intro x hx; simp at hx; obtain ⟨y, _, rfl⟩ := hx; rfl) | (intro x hx; obtain ⟨y, _, rfl⟩ := List.mem_map.1 hx; rfl)) rfl rfl (putC_off (own_len (k := 3) false (by intro x _; rfl)) (putC_set rfl)) ?_
  refine CWp.region rfl ?_
  refine mv ?_
  refine Walk.addI .none rfl rfl rfl (by first | (constructor <;> omega) | (constructor <;> simp <;> omega)) ?_
  refine asg ?_
  refine tv ?_
  refine ⟨(pre ++ [y], rest), (by have hz := hg1; rw [← hz]; simp), (by simp), Sub.x (by kernel_rfl) (by kernel_rfl) ⟨⟨_, rfl, (LeA.eqi (by first | rfl | (simp; done) | (simp_all; done) | omega))⟩, trivial⟩ (by kernel_rfl) (by kernel_rfl) ⟨(by first | rfl | (show some (Res.tree _) = some (Res.tree _); rw [List.map_append, List.map_singleton, ← own_next]; rfl) | (show some (Res.tree _) = some (Res.tree _); simp [ownCells_nil]; rfl)), trivial⟩⟩
 ·intro h1; have ⟨h1p, h1s⟩ := dup h1; try simp only [Q5] at h1s
  try simp only [Q] at h1p
  have hrest : rest = [] := by
   rcases rest with _ | ⟨a, b⟩
   ·rfl
   ·exfalso; have hz := congrArg List.length (hg1); simp only [List.length_append, List.length_cons, List.length_map] at hz; omega
  subst hrest
  refine CWp.exit ?_
  refine sr ?_
  refine mv ?_
  refine asg ?_
  refine tv ?_
  refine CWp.ret ?_
  refine ⟨_, _, [(62, some (.tree (ownCells false (l.map Ctor.c))))], (.cons (.tmp rfl) .nil), (LeA.msn ?_), ⟨rfl, rfl⟩, (SubH.get ⟨(by first | rfl | (rw [List.append_nil] at hg1; subst hg1; show some (Res.tree _) = some (Res.tree _); simp [zerosA]; done)), trivial⟩), (boxOK rfl)⟩
  all_goals (first | rfl | (simp; done))
theorem laws_toData_tr {s : Str} {cs : List Ctor} (h : CSmall cs) : FnD Try.prog 45 [.agg [.d (.str s), .d (encCtors cs)]] [] (.agg [.d (.str s), .ms 62 cs.length]) [(62, some (.tree (ownCells false (cs.map Ctor.c))))] := by
 refine Fn.body (fn := Try.f45) (n := 12) rfl rfl rfl rfl rfl (fun w0 F0 own kept hk => ?_)
 refine sr ?_
 refine Walk.box (id := 3001) .none rfl rfl rfl rfl rfl rfl rfl ?_
 refine Walk.alloc (id := 3002) tz81 rfl .none rfl rfl rfl rfl ?_
 refine tv ?_
 refine sr ?_
 refine Walk.alloc (id := 3003) tz81 rfl .none rfl rfl rfl rfl ?_
 refine tv ?_
 refine sr ?_
 refine Walk.fieldB fd78_0 .none rfl rfl ?_
 refine Walk.loadB ty9 .none rfl rfl rfl rfl ?_
 refine Walk.fieldB fd81_0 .none rfl rfl ?_
 refine Walk.store ty9 .none rfl rfl rfl rfl rfl rfl (by simp) rfl ?_
 refine tv ?_
 refine sr ?_
 refine Walk.fieldB fd78_1 .none rfl rfl ?_
 refine Walk.loadB ty76 .none rfl rfl rfl rfl ?_
 refine Walk.call (cr := [62]) cal82 (laws_toCtorS_tr h) rfl .none rfl rfl (LeL.refl _) trivial rfl (by first | rfl | (simp only [okCall, List.all_cons, List.all_nil, entOK, entOK', AV.idsL, AV.ids, idsL_append, ownCells_ids, List.map_cons, List.map_nil]; rfl)) (by first | rfl | (simp only [freshB, occH, occE, Res.ids, List.cons_append, List.nil_append, AV.idsL, AV.ids, idsL_append, ownCells_ids, zerosA_idsR, repNil, List.map_cons, List.map_nil, upC]; rfl)) ?_
 refine Walk.fieldB fd81_1 .none rfl rfl ?_
 refine Walk.store ty79 .none rfl rfl rfl rfl rfl rfl (by simp) rfl ?_
 refine tv ?_
 refine sr ?_
 refine Walk.loadBA ty81 .none rfl rfl rfl rfl ?_
 refine Walk.store ty81 .none rfl rfl rfl rfl rfl rfl (by simp) rfl ?_
 refine tv ?_
 refine CWp.ret ?_
 refine ⟨_, _, [(62, some (.tree (ownCells false (cs.map Ctor.c))))], (.cons (.cellA ty81 rfl rfl rfl) .nil), (.agg (.cons (.eqd ?_) (.cons (LeA.msn ?_) .nil))), ⟨rfl, rfl⟩, (SubH.get ⟨rfl, trivial⟩), (boxOK rfl)⟩
 all_goals (first | rfl | (simp []; done) | (simp_all; done) | (simp_all; omega) | omega)
theorem laws_toDataS_tr {l : List Data} (hs : WSmall l) : FnD Try.prog 12 [.d (encDatas l)] [] (.ms 63 l.length) [(63, some (.tree (ownCells false (l.map Data.c))))] := by
 have h := hs.len
 refine Fn.body (fn := Try.f12) (n := 23) rfl rfl rfl rfl rfl (fun w0 F0 own kept hk => ?_)
 refine sr ?_
 refine asg ?_
 refine tv ?_
 refine sr ?_
 refine mv ?_
 refine Walk.len sl22 .none rfl rfl ?_
 refine Walk.make (id := 63) sl26 tz81 rfl (by decide) (zerosA_ids rfl) .none rfl rfl rfl (by simp; omega) (by simp; omega) rfl rfl rfl ?_
 refine asg ?_
 refine tv ?_
 refine CWp.seq ?_
 refine CWp.seq ?_
 refine CWp.boxTree 63 false rfl (zerosA_map _ _ _) ?_
 refine CWp.region rfl ?_
 refine asg ?_
 refine tv ?_
 refine CWp.block ?_
 refine CWp.loopX (ι := List (Data) × List (Data)) hk (fun x => [(4, .d (.i (x.1.length : Int)))]) [8, 9, 10, 11, 12, 13, 14, 15, 16, 17, 18, 19, 20, 21] (fun x => [(63, some (.tree (ownCells false (x.1.map Data.c) ++ zerosA x.2.length [.d (.str []), .own false (.sl [])])))]) (fun x => x.1 ++ x.2 = l) (fun x => x.2.length) ([], l) (by simp) ⟨⟨_, rfl, (LeA.eqi (by first | rfl | (simp; done) | (simp_all; done) | omega))⟩, trivial⟩ ⟨(by first | rfl | (show some (Res.tree _) = some (Res.tree _); rw [List.map_append, List.map_singleton, ← own_next]; rfl) | (show some (Res.tree _) = some (Res.tree _); simp [ownCells_nil]; rfl)), trivial⟩ (fun x => rfl) (fun x hg1 => ?_)
 obtain ⟨pre, rest⟩ := x
 dsimp only at hg1 ⊢
 refine CWp.seq ?_
 refine sr ?_
 refine mv ?_
 refine mv ?_
 refine Walk.len sl22 .none rfl rfl ?_
 refine Walk.ltI .none rfl rfl rfl ?_
 refine tv ?_
 refine cd ?_ ?_
 ·intro h1; have ⟨h1p, h1s⟩ := dup h1; try simp only [Q5] at h1s
  try simp only [Q] at h1p
  rcases rest with _ | ⟨y, rest⟩
  ·exfalso; simp_all
  refine CWp.skip ?_
  refine CWp.seq ?_
  refine CWp.block ?_
  refine CWp.region rfl ?_
  refine mv ?_
  refine mv ?_
  refine mv ?_
  refine mv ?_
  refine Walk.idx sl22 .none rfl rfl rfl rfl (zip_at hg1) rfl ?_
  refine Walk.loadPA ty78 .none rfl rfl rfl rfl ?_
  refine Walk.call (cr := [62]) cal45 (laws_toData_tr (hs.cs (d := y) (by rw [← hg1]; simp))) rfl .none rfl rfl (LeL.refl _) trivial rfl (by first | rfl | (simp only [okCall, List.all_cons, List.all_nil, entOK, entOK', AV.idsL, AV.ids, idsL_append, ownCells_ids, List.map_cons, List.map_nil]; rfl)) (by first | rfl | (simp only [freshB, occH, occE, Res.ids, List.cons_append, List.nil_append, AV.idsL, AV.ids, idsL_append, ownCells_ids, zerosA_idsR, repNil, List.map_cons, List.map_nil, upC]; rfl)) ?_
  refine Walk.idxM sl26 .none rfl rfl rfl rfl (by first | omega | (simp ; omega)) ?_
  refine Walk.storeT ty81 .none rfl rfl rfl rfl rfl rfl (by simp) ((putC_fill (own_len (k := 2) false (by intro x _; rfl)) rfl)) ?_
  refine tv ?_
  refine CWp.merge hk 63 (pre.length * 2 + 1) 62 3 _ rfl (cell_off (own_len (k := 2) false (by intro x _; rfl)) rfl) (by simp [mkL_len]) rfl (by first | (intro x hx; simp at hx; obtain ⟨y, _, rfl⟩ := hx; rfl) | (intro x hx; obtain ⟨y, _, rfl⟩ := List.mem_map.1 hx; rfl)) rfl rfl (putC_off (own_len (k := 2) false (by intro x _; rfl)) (putC_set rfl)) ?_
  refine CWp.region rfl ?_
  refine mv ?_
  refine Walk.addI .none rfl rfl rfl (by first | (constructor <;> omega) | (constructor <;> simp <;> omega)) ?_
  refine asg ?_
  refine tv ?_
  refine ⟨(pre ++ [y], rest), (by have hz := hg1; rw [← hz]; simp), (by simp), Sub.x (by kernel_rfl) (by kernel_rfl) ⟨⟨_, rfl, (LeA.eqi (by first | rfl | (simp; done) | (simp_all; done) | omega))⟩, trivial⟩ (by kernel_rfl) (by kernel_rfl) ⟨(by first | rfl | (show some (Res.tree _) = some (Res.tree _); rw [List.map_append, List.map_singleton, ← own_next]; rfl) | (show some (Res.tree _) = some (Res.tree _); simp [ownCells_nil]; rfl)), trivial⟩⟩
 ·intro h1; have ⟨h1p, h1s⟩ := dup h1; try simp only [Q5] at h1s
  try simp only [Q] at h1p
  have hrest : rest = [] := by
   rcases rest with _ | ⟨a, b⟩
   ·rfl
   ·exfalso; have hz := congrArg List.length (hg1); simp only [List.length_append, List.length_cons, List.length_map] at hz; omega
  subst hrest
  refine CWp.exit ?_
  refine sr ?_
  refine mv ?_
  refine asg ?_
  refine tv ?_
  refine CWp.ret ?_
  refine ⟨_, _, [(63, some (.tree (ownCells false (l.map Data.c))))], (.cons (.tmp rfl) .nil), (LeA.msn ?_), ⟨rfl, rfl⟩, (SubH.get ⟨(by first | rfl | (rw [List.append_nil] at hg1; subst hg1; show some (Res.tree _) = some (Res.tree _); simp [zerosA]; done)), trivial⟩), (boxOK rfl)⟩
  all_goals (first | rfl | (simp; done))
theorem laws_markTypeS_tr {m : Bool} {l : List Ty} {k : Int} (h0 : 0 ≤ k) (h1 : k + szL Ty.sz l ≤ 1000000000000) (hl : l.length ≤ 1000000000000) : FnD Try.prog 17 [.ms 41 l.length, .d (.i k)] [(41, some (.tree (ownCells m (l.map Ty.c))))]
  (.d (.i (k + szL Ty.sz l))) [(41, some (.tree (ownCells m ((mkL Ty.one Ty.sz k l).map Ty.c))))] := by
 refine Fn.body (fn := Try.f17) (n := 27) rfl rfl rfl rfl rfl (fun w0 F0 own kept hk => ?_)
 refine sr ?_
 refine asg ?_
 refine tv ?_
 refine CWp.seq ?_
 refine sr ?_
 refine asg ?_
 refine tv ?_
 refine CWp.block ?_
 refine CWp.loopX (ι := List (Ty) × List (Ty) × (Int)) hk (fun x => [(5, .d (.i (x.1.length : Int))), (1, .d (.i x.2.2))]) [6, 7, 8, 9, 10, 11, 12, 13, 14, 15, 16, 17, 18, 19, 20, 21, 22, 23, 24, 25] (fun x => [(41, some (.tree (ownCells m ((mkL Ty.one Ty.sz k x.1).map Ty.c) ++ ownCells m (x.2.1.map Ty.c))))]) (fun x => x.1 ++ x.2.1 = l ∧ x.2.2 = k + szL Ty.sz x.1) (fun x => x.2.1.length) ([], l, k) ⟨by simp, by simp [szL]⟩ ⟨⟨_, rfl, (LeA.eqi (by first | rfl | (simp; done) | omega | (refine Eq.trans (b := v + 2) ?_ rfl; omega)))⟩, ⟨⟨_, rfl, (LeA.eqi (by first | rfl | (simp; done) | omega | (refine Eq.trans (b := v + 2) ?_ rfl; omega)))⟩, trivial⟩⟩ ⟨(by first | rfl | (show some (Res.tree _) = some (Res.tree _); rw [mkL_snoc, List.map_append, List.map_singleton, ← own_next, hg1.2]; rfl)), trivial⟩ (fun x => rfl) (fun x hg1 => ?_)
 obtain ⟨pre, rest, v⟩ := x
 dsimp only at hg1 ⊢
 refine CWp.seq ?_
 refine sr ?_
 refine mv ?_
 refine mv ?_
 refine Walk.lenM sl24 .none rfl rfl ?_
 refine Walk.ltI .none rfl rfl rfl ?_
 refine tv ?_
 refine cd ?_ ?_
 ·intro h1; have ⟨h1p, h1s⟩ := dup h1; try simp only [Q5] at h1s
  try simp only [Q] at h1p
  rcases rest with _ | ⟨y, rest⟩
  ·exfalso; simp_all
  have hsp := szL_split (sz := Ty.sz) hg1.1; have hnn := szL_nonneg (l := rest) Ty.sz_nn; have hnp := szL_nonneg (l := pre) Ty.sz_nn; have hys : Ty.sz y = 2 := rfl; have hv := hg1.2
  refine CWp.skip ?_
  refine CWp.seq ?_
  refine CWp.block ?_
  refine sr ?_
  refine mv ?_
  refine mv ?_
  refine mv ?_
  refine Walk.idxM sl24 .none rfl rfl rfl rfl (by first | omega | (simp ; omega)) ?_
  refine Walk.fieldB fd38_0 .none rfl rfl ?_
  refine Walk.storeT ty3 .none rfl rfl rfl rfl rfl rfl (by simp) ((putC_off (mkL_own_len (kk := 2) m (by intro x; rfl)) putC_c0)) ?_
  refine tv ?_
  refine sr ?_
  refine mv ?_
  refine Walk.addI .none rfl rfl rfl (by first | (constructor <;> omega) | (constructor <;> simp <;> omega)) ?_
  refine asg ?_
  refine tv ?_
  refine sr ?_
  refine mv ?_
  refine mv ?_
  refine mv ?_
  refine Walk.idxM sl24 .none rfl rfl rfl rfl (by first | omega | (simp ; omega)) ?_
  refine Walk.fieldB fd38_1 .none rfl rfl ?_
  refine Walk.storeT ty3 .none rfl rfl rfl rfl rfl rfl (by simp) ((putC_off (mkL_own_len (kk := 2) m (by intro x; rfl)) putC_c1)) ?_
  refine tv ?_
  refine CWp.region rfl ?_
  refine mv ?_
  refine Walk.addI .none rfl rfl rfl (by first | (constructor <;> omega) | (constructor <;> simp <;> omega)) ?_
  refine asg ?_
  refine tv ?_
  refine CWp.region rfl ?_
  refine mv ?_
  refine Walk.addI .none rfl rfl rfl (by first | (constructor <;> omega) | (constructor <;> simp <;> omega)) ?_
  refine asg ?_
  refine tv ?_
  refine ⟨(pre ++ [y], rest, v + Ty.sz y), ⟨(by have hz := hg1.1; rw [← hz]; simp), (by show v + Ty.sz y = _; rw [szL_snoc, hg1.2]; omega)⟩, (by simp), Sub.x (by kernel_rfl) (by kernel_rfl) ⟨⟨_, rfl, (LeA.eqi (by first | rfl | (simp; done) | omega | (refine Eq.trans (b := v + 2) ?_ rfl; omega)))⟩, ⟨⟨_, rfl, (LeA.eqi (by first | rfl | (simp; done) | omega | (refine Eq.trans (b := v + 2) ?_ rfl; omega)))⟩, trivial⟩⟩ (by kernel_rfl) (by kernel_rfl) ⟨(by first | rfl | (show some (Res.tree _) = some (Res.tree _); rw [mkL_snoc, List.map_append, List.map_singleton, ← own_next, hg1.2]; rfl)), trivial⟩⟩
 ·intro h1; have ⟨h1p, h1s⟩ := dup h1; try simp only [Q5] at h1s
  try simp only [Q] at h1p
  have hrest : rest = [] := by
   rcases rest with _ | ⟨a, b⟩
   ·rfl
   ·exfalso; have hz := congrArg List.length (hg1.1); simp only [List.length_append, List.length_cons, List.length_map] at hz; omega
  subst hrest
  refine CWp.exit ?_
  refine sr ?_
  refine mv ?_
  refine asg ?_
  refine tv ?_
  refine CWp.ret ?_
  refine ⟨_, _, [(41, some (.tree (ownCells m ((mkL Ty.one Ty.sz k l).map Ty.c))))], (.cons (.tmp rfl) .nil), (.eqd ?_), ⟨rfl, rfl⟩, (SubO.get ⟨.inr (by first | rfl | (obtain ⟨hg1, _⟩ := hg1; rw [List.append_nil] at hg1; subst hg1; show some (Res.tree _) = some (Res.tree _); simp [ownCells_nil]; done)), ⟨.inl rfl, trivial⟩⟩), (boxOK rfl)⟩
  all_goals (first | rfl | (obtain ⟨hg1, hv⟩ := hg1; rw [List.append_nil] at hg1; subst hg1; rw [hv]))
theorem laws_heldTypeS_fn {l : List Ty} {k : Int} (h0 : 0 ≤ k) (h1 : k + szL Ty.sz l ≤ 1000000000000) (hl : l.length ≤ 1000000000000) : FnD Try.prog 18 [.d (encTys (mkL Ty.one Ty.sz k l)), .d (.i k)] [] (.d (.i (k + szL Ty.sz l))) [] := by
 refine Fn.body (fn := Try.f18) (n := 31) rfl rfl rfl rfl rfl (fun w0 F0 own kept hk => ?_)
 refine sr ?_
 refine asg ?_
 refine tv ?_
 refine CWp.seq ?_
 refine sr ?_
 refine asg ?_
 refine tv ?_
 refine CWp.block ?_
 refine CWp.loopX (ι := List (Ty) × List (Ty) × (Int)) hk (fun x => [(5, .d (.i (x.1.length : Int))), (1, .d (.i x.2.2))]) [4, 6, 7, 8, 9, 10, 11, 12, 13, 14, 15, 16, 17, 18, 19, 20, 21, 22, 23, 24, 25, 26, 27, 28, 29] (fun x => []) (fun x => x.1 ++ x.2.1 = l ∧ x.2.2 = k + szL Ty.sz x.1) (fun x => x.2.1.length) ([], l, k) ⟨by simp, by simp [szL]⟩ ⟨⟨_, rfl, (LeA.eqi (by first | rfl | (simp; done) | omega | (refine Eq.trans (b := v + 2) ?_ rfl; omega)))⟩, ⟨⟨_, rfl, (LeA.eqi (by first | rfl | (simp; done) | omega | (refine Eq.trans (b := v + 2) ?_ rfl; omega)))⟩, trivial⟩⟩ trivial (fun x => rfl) (fun x hg1 => ?_)
 obtain ⟨pre, rest, v⟩ := x
 dsimp only at hg1 ⊢
 refine CWp.seq ?_
 refine sr ?_
 refine mv ?_
 refine mv ?_
 refine Walk.len sl24 .none rfl rfl ?_
 refine Walk.ltI .none rfl rfl rfl ?_
 refine tv ?_
 refine cd ?_ ?_
 ·intro h1; have ⟨h1p, h1s⟩ := dup h1; try simp only [Q5] at h1s
  try simp only [Q, mkL_len] at h1p
  rcases rest with _ | ⟨y, rest⟩
  ·exfalso; simp_all
  have hsp := szL_split (sz := Ty.sz) hg1.1; have hnn := szL_nonneg (l := rest) Ty.sz_nn; have hnp := szL_nonneg (l := pre) Ty.sz_nn; have hys : Ty.sz y = 2 := rfl; have hv := hg1.2
  refine CWp.skip ?_
  refine CWp.seq ?_
  refine CWp.block ?_
  refine CWp.seq ?_
  refine sr ?_
  refine mv ?_
  refine mv ?_
  refine Walk.idx sl24 .none rfl rfl rfl rfl (mkL_at hg1.1) rfl ?_
  refine Walk.fieldP fd38_0 .none rfl rfl ?_
  refine Walk.loadP ty3 .none rfl rfl rfl ?_
  refine mv ?_
  refine Walk.neI .none rfl rfl rfl ?_
  refine tv ?_
  refine cd ?_ ?_
  ·intro h2; have ⟨h2p, h2s⟩ := dup h2; try simp only [Q5] at h2s
   try simp only [Q, mkL_len] at h2p
   exfalso; have hv := hg1.2; revert h2; simp [Ty.one, hv] --stop
  ·intro h2; have ⟨h2p, h2s⟩ := dup h2; try simp only [Q5] at h2s
   try simp only [Q, mkL_len] at h2p
   refine CWp.skip ?_
   refine sr ?_
   refine mv ?_
   refine Walk.addI .none rfl rfl rfl (by first | (constructor <;> omega) | (constructor <;> simp <;> omega)) ?_
   refine asg ?_
   refine tv ?_
   refine CWp.seq ?_
   refine sr ?_
   refine mv ?_
   refine mv ?_
   refine Walk.idx sl24 .none rfl rfl rfl rfl (mkL_at hg1.1) rfl ?_
   refine Walk.fieldP fd38_1 .none rfl rfl ?_
   refine Walk.loadP ty3 .none rfl rfl rfl ?_
   refine mv ?_
   refine Walk.neI .none rfl rfl rfl ?_
   refine tv ?_
   refine cd ?_ ?_
   ·intro h3; have ⟨h3p, h3s⟩ := dup h3; try simp only [Q5] at h3s
    try simp only [Q, mkL_len] at h3p
    exfalso; have hv := hg1.2; revert h3; simp [Ty.one, hv] --stop
   ·intro h3; have ⟨h3p, h3s⟩ := dup h3; try simp only [Q5] at h3s
    try simp only [Q, mkL_len] at h3p
    refine CWp.skip ?_
    refine CWp.region rfl ?_
    refine mv ?_
    refine Walk.addI .none rfl rfl rfl (by first | (constructor <;> omega) | (constructor <;> simp <;> omega)) ?_
    refine asg ?_
    refine tv ?_
    refine CWp.region rfl ?_
    refine mv ?_
    refine Walk.addI .none rfl rfl rfl (by first | (constructor <;> omega) | (constructor <;> simp <;> omega)) ?_
    refine asg ?_
    refine tv ?_
    refine ⟨(pre ++ [y], rest, v + Ty.sz y), ⟨(by have hz := hg1.1; rw [← hz]; simp), (by show v + Ty.sz y = _; rw [szL_snoc, hg1.2]; omega)⟩, (by simp), Sub.x (by kernel_rfl) (by kernel_rfl) ⟨⟨_, rfl, (LeA.eqi (by first | rfl | (simp; done) | omega | (refine Eq.trans (b := v + 2) ?_ rfl; omega)))⟩, ⟨⟨_, rfl, (LeA.eqi (by first | rfl | (simp; done) | omega | (refine Eq.trans (b := v + 2) ?_ rfl; omega)))⟩, trivial⟩⟩ (by kernel_rfl) (by kernel_rfl) trivial⟩
 ·intro h1; have ⟨h1p, h1s⟩ := dup h1; try simp only [Q5] at h1s
  try simp only [Q, mkL_len] at h1p
  have hrest : rest = [] := by
   rcases rest with _ | ⟨a, b⟩
   ·rfl
   ·exfalso; have hz := congrArg List.length (hg1.1); simp only [List.length_append, List.length_cons, List.length_map] at hz; omega
  subst hrest
  refine CWp.exit ?_
  refine sr ?_
  refine mv ?_
  refine asg ?_
  refine tv ?_
  refine CWp.ret ?_
  refine ⟨_, _, [], (.cons (.tmp rfl) .nil), (.eqd ?_), ⟨rfl, rfl⟩, HSub.nil, noBox⟩
  all_goals (first | rfl | (obtain ⟨hg1, hv⟩ := hg1; rw [List.append_nil] at hg1; subst hg1; rw [hv]))
theorem laws_markTypeS_nil {l : List Ty} {k : Int} (hl : l = []) : FnD Try.prog 17 [.d (.sl []), .d (.i k)] [] (.d (.i (k + szL Ty.sz l))) [] := by
 subst hl
 refine Fn.body (fn := Try.f17) (n := 27) rfl rfl rfl rfl rfl (fun w0 F0 own kept hk => ?_)
 refine sr ?_
 refine asg ?_
 refine tv ?_
 refine CWp.seq ?_
 refine sr ?_
 refine asg ?_
 refine tv ?_
 refine CWp.block ?_
 refine CWp.loopX (ι := Unit) hk (fun x => [(5, .d (.i 0)), (1, .d (.i k))]) [6, 7, 8, 9, 10, 11, 12, 13, 14, 15, 16, 17, 18, 19, 20, 21, 22, 23, 24, 25] (fun x => []) (fun x => True) (fun x => 0) () trivial ⟨⟨_, rfl, (LeA.eqi (by first | rfl | (simp; done) | (simp_all; done) | omega))⟩, ⟨⟨_, rfl, (LeA.eqi (by first | rfl | (simp; done) | (simp_all; done) | omega))⟩, trivial⟩⟩ trivial (fun x => rfl) (fun x hg1 => ?_)
 refine CWp.seq ?_
 refine sr ?_
 refine mv ?_
 refine mv ?_
 refine Walk.len sl24 .none rfl rfl ?_
 refine Walk.ltI .none rfl rfl rfl ?_
 refine tv ?_
 refine cd ?_ ?_
 ·intro h1; have ⟨h1p, h1s⟩ := dup h1; try simp only [Q5] at h1s
  try simp only [Q] at h1p
  exfalso; revert h1; simp --stop
 ·intro h1; have ⟨h1p, h1s⟩ := dup h1; try simp only [Q5] at h1s
  try simp only [Q] at h1p
  refine CWp.exit ?_
  refine sr ?_
  refine mv ?_
  refine asg ?_
  refine tv ?_
  refine CWp.ret ?_
  refine ⟨_, _, [], (.cons (.tmp rfl) .nil), (.eqd ?_), ⟨rfl, rfl⟩, HSub.nil, noBox⟩
  all_goals (first | rfl | (simp [szL]; done))
def ren (i j : Nat) : AV → AV
 | .ms a n => if a = i then .ms j n else .ms a n
 | x => x
theorem FnD.tree_ren {P : Program} {f : FuncId} {i n : Nat} {k : Int} {r : D} {cs cs' : List AV} (hc : AV.idsL cs = []) (hc' : AV.idsL cs' = []) (h : FnD P f [.ms i n, .d (.i k)] [(i, some (.tree cs))] (.d r) [(i, some (.tree cs'))]) (j : Nat) :
  FnD P f [.ms j n, .d (.i k)] [(j, some (.tree cs))] (.d r) [(j, some (.tree cs'))] := by
 intro G w vals hok
 -- the name i stands where j stands
 let G1 : Gh := { G with loc := fun x => G.loc j }
 have gj : ∀ (x : Res), getH [(j, some x)] j = some x := fun x => by simp [getH]
 have gi : ∀ (x : Res), getH [(i, some x)] i = some x := fun x => by simp [getH]
 have only : ∀ {a id : Nat} {x y : Res}, getH [(a, some x)] id = some y → id = a ∧ y = x := fun {a id x y} h => by
  rw [getH_cons] at h
  split at h
  ·rename_i e; cases h; exact ⟨e, rfl⟩
  ·cases h
 have conv : ∀ {G0 G2 : Gh} {w0 : World} {a b : Nat} {cs : List AV} {T T' : TokF}, G2.F = G0.F → G2.loc b = G0.loc a → AV.idsL cs = [] → RelR G0 T w0 a (.tree cs) → RelR G2 T' w0 b (.tree cs) := by
  intro G0 G2 w0 a b cs T T' hF hl hcs h
  obtain ⟨bl, vs, e, Ss, h1, h2, h3, h4, h5, h6⟩ := h
  refine ⟨bl, vs, e, Ss, hl.trans h1, h2, h3, by rw [hl]; exact h4, fun x hx => ?_, fun q hq hv => (h6 q hq hv).map (fun hx => ?_) (fun _ _ => rfl)⟩
  ·rw [hl] at hx; rw [hF]; exact h5 x hx
  ·have hn : ∀ id, id ∉ (cs[q]).ids := fun id hid => by
    have := AV.mem_idsL (List.getElem_mem hq) hid
    rw [hcs] at this; simp at this
   exact hx.mono (fun _ _ ho => ⟨by rw [hF]; exact ho, rfl⟩) (fun id hid => (hn id hid).elim) (fun id hid => (hn id hid).elim)
 have hok1 : HOK G1 w [(i, some (.tree cs))] [.ms i n, .d (.i k)] vals := by
  refine ⟨⟨hok.args.size, fun q hq hv => ?_⟩, fun id x hx => ?_, fun id id' h1 h2 hne => ?_, hok.top⟩
  ·have := hok.args.rel q hq hv
   match q, hq with
   | 0, _ =>
    simp only [List.getElem_cons_zero] at this ⊢
    revert this
    generalize vals[0] = v
    intro this
    cases this with | ms h hT hcap => exact .ms h (by unfold tokf; rw [gi]) hcap
   | 1, _ =>
    simp only [List.getElem_cons_succ, List.getElem_cons_zero] at this ⊢
    exact .d this.d_inv
  ·obtain ⟨rfl, rfl⟩ := only hx
   exact conv (G0 := G) (G2 := G1) (a := j) rfl rfl hc (hok.heap j _ (gj _))
  ·obtain ⟨x, hx⟩ := Option.isSome_iff_exists.1 h1
   obtain ⟨y, hy⟩ := Option.isSome_iff_exists.1 h2
   exact absurd ((only hx).1.trans (only hy).1.symm) hne
 have own1 : ∀ b, b ∈ ownedL G1 [(i, some (.tree cs))] ↔ b ∈ ownedL G [(j, some (.tree cs))] := fun b => by
  rw [ownedL_iff, ownedL_iff]
  constructor
  ·rintro ⟨id, _, hb⟩; exact ⟨j, by rw [gj]; rfl, hb⟩
  ·rintro ⟨id, h1, hb⟩
   obtain ⟨x, hx⟩ := Option.isSome_iff_exists.1 h1
   rw [(only hx).1] at hb
   exact ⟨i, by rw [gi]; rfl, hb⟩
 refine (h G1 w vals hok1).mono ?_
 rintro e w' ⟨v, r', hp', G', rfl, ⟨rfl, rfl⟩, hret⟩
 have gi2 : getH ([(i, some (Res.tree cs'))] ++ [(i, some (.tree cs))]) i = some (.tree cs') := by simp [getH]
 have gj2 : getH ([(j, some (Res.tree cs'))] ++ [(j, some (.tree cs))]) j = some (.tree cs') := by simp [getH]
 have only2 : ∀ {a id : Nat} {x y z : Res}, getH ([(a, some x)] ++ [(a, some y)]) id = some z → id = a ∧ z = x := fun {a id x y z} h => by
  have h' : getH ((a, some x) :: [(a, some y)]) id = some z := h
  rw [getH_cons] at h'
  split at h'
  ·rename_i e; cases h'; exact ⟨e, rfl⟩
  ·rename_i hne; rw [getH_cons, if_neg hne] at h'; cases h'
 let G2 : Gh := { G' with loc := fun x => G'.loc i }
 refine ⟨v, _, _, G2, rfl, ⟨rfl, rfl⟩, .d hret.res.d_inv, fun id x hx => ?_, fun id id' h1 h2 hne => ?_, fun id h1 b hb => ?_, ?_, hret.top, fun id hi => ?_⟩
 ·obtain ⟨rfl, rfl⟩ := only2 hx
  exact conv (G0 := G') (a := i) rfl rfl hc' (hret.heap i _ gi2)
 ·obtain ⟨x, hx⟩ := Option.isSome_iff_exists.1 h1
  obtain ⟨y, hy⟩ := Option.isSome_iff_exists.1 h2
  exact absurd ((only2 hx).1.trans (only2 hy).1.symm) hne
 ·exact (hret.new i (by rw [gi2]; rfl) b hb).imp_left (own1 b).1
 ·have hf := hret.frm
  exact ⟨hf.os, hf.tape, hf.output, hf.size, fun b hb hn => hf.block b hb (fun hm => hn ((own1 b).1 hm)), hf.cell⟩
 ·have hib : isBox [(i, some (Res.tree cs))] i = true := by unfold isBox; rw [gi]
  have hk := hret.kept i hib
  unfold isBox at hi
  cases hg : getH [(j, some (Res.tree cs))] id with
  | none => rw [hg] at hi; cases hi
  | some x =>
   obtain ⟨rfl, _⟩ := only hg
   exact ⟨hk.1, by rw [gj2]; rfl, by unfold tokf; rw [gj2]⟩
theorem laws_markCtorS_tr {l : List Ctor} {k : Int} (h0 : 0 < k) (h1 : k + szL Ctor.sz l ≤ 1000000000000) (hl : CSmall l) : FnD Try.prog 50 [.ms 42 l.length, .d (.i k)] [(42, some (.tree (ownCells false (l.map Ctor.c))))]
  (.d (.i (k + szL Ctor.sz l))) [(42, some (.tree (ownCells false ((mkL Ctor.one Ctor.sz k l).map Ctor.c))))] := by
 have hl0 := hl.len
 refine Fn.body (fn := Try.f50) (n := 35) rfl rfl rfl rfl rfl (fun w0 F0 own kept hk => ?_)
 refine sr ?_
 refine asg ?_
 refine tv ?_
 refine CWp.seq ?_
 refine sr ?_
 refine asg ?_
 refine tv ?_
 refine CWp.block ?_
 refine CWp.loopX (ι := List (Ctor) × List (Ctor) × (Int)) hk (fun x => [(5, .d (.i (x.1.length : Int))), (1, .d (.i x.2.2))]) [6, 7, 8, 9, 10, 11, 12, 13, 14, 15, 16, 17, 18, 19, 20, 21, 22, 23, 24, 25, 26, 27, 28, 29, 30, 31, 32, 33] (fun x => [(42, some (.tree (ownCells false ((mkL Ctor.one Ctor.sz k x.1).map Ctor.c) ++ ownCells false (x.2.1.map Ctor.c))))]) (fun x => x.1 ++ x.2.1 = l ∧ x.2.2 = k + szL Ctor.sz x.1) (fun x => x.2.1.length) ([], l, k) ⟨by simp, by simp [szL]⟩ ⟨⟨_, rfl, (LeA.eqi (by first | rfl | (simp; done) | omega | (refine Eq.trans (b := v + Ctor.sz y) ?_ rfl; omega)))⟩, ⟨⟨_, rfl, (LeA.eqi (by first | rfl | (simp; done) | omega | (refine Eq.trans (b := v + Ctor.sz y) ?_ rfl; omega)))⟩, trivial⟩⟩ ⟨(by first | rfl | (show some (Res.tree _) = some (Res.tree _); rw [mkL_snoc, List.map_append, List.map_singleton, ← own_next, ← hg1.2]; rfl)), trivial⟩ (fun x => rfl) (fun x hg1 => ?_)
 obtain ⟨pre, rest, v⟩ := x
 dsimp only at hg1 ⊢
 refine CWp.seq ?_
 refine sr ?_
 refine mv ?_
 refine mv ?_
 refine Walk.lenM sl79 .none rfl rfl ?_
 refine Walk.ltI .none rfl rfl rfl ?_
 refine tv ?_
 refine cd ?_ ?_
 ·intro h1; have ⟨h1p, h1s⟩ := dup h1; try simp only [Q5] at h1s
  try simp only [Q] at h1p
  rcases rest with _ | ⟨y, rest⟩
  ·exfalso; simp_all
  have hsp := szL_split (sz := Ctor.sz) hg1.1; have hnn := szL_nonneg (l := rest) Ctor.sz_nn; have hnp := szL_nonneg (l := pre) Ctor.sz_nn; have hys : Ctor.sz y = 2 + szL Ty.sz y.args := rfl; have hya := szL_nonneg (l := y.args) Ty.sz_nn; have hv := hg1.2
  refine CWp.reTree 42 (ownCells false ((mkL Ctor.one Ctor.sz k pre).map Ctor.c) ++ (.d (.str y.name) :: .own false (encTys y.args) :: .d (.i y.index) :: ownCells false (rest.map Ctor.c))) rfl rfl ?_
  refine CWp.skip ?_
  refine CWp.seq ?_
  refine CWp.block ?_
  refine sr ?_
  refine mv ?_
  refine mv ?_
  refine mv ?_
  refine Walk.call (cr := []) cal49 (laws_markText_k (by omega) (by omega)) rfl .none rfl rfl (LeL.refl _) trivial rfl (by first | rfl | (simp only [okCall, List.all_cons, List.all_nil, entOK, entOK', AV.idsL, AV.ids, idsL_append, ownCells_ids, List.map_cons, List.map_nil]; rfl)) (by first | rfl | (simp only [freshB, occH, occE, Res.ids, List.cons_append, List.nil_append, AV.idsL, AV.ids, idsL_append, ownCells_ids, zerosA_idsR, repNil, List.map_cons, List.map_nil, upC]; rfl)) ?_
  refine Walk.idxM sl79 .none rfl rfl rfl rfl (by first | omega | (simp ; omega)) ?_
  refine Walk.fieldB fd90_0 .none rfl rfl ?_
  refine Walk.storeT ty9 .none rfl rfl rfl rfl rfl rfl (by simp) ((putC_off (mkL_own_len (kk := 3) false (by intro x; rfl)) putC_c0)) ?_
  refine tv ?_
  refine sr ?_
  refine mv ?_
  refine Walk.addI .none rfl rfl rfl (by first | (constructor <;> omega) | (constructor <;> simp <;> omega)) ?_
  refine asg ?_
  refine tv ?_
  refine CWp.seq ?_
  by_cases hs2 : y.args = []
  ·refine CWp.emptyCell 42 (pre.length * 3 + 1) rfl (cell_off (mkL_own_len (kk := 3) false (by intro x; rfl)) rfl) (by simp [hs2]) (putC_off (mkL_own_len (kk := 3) false (by intro x; rfl)) putC_c1) ?_
   refine CWp.region rfl ?_
   refine mv ?_
   refine mv ?_
   refine Walk.idxM sl79 .none rfl rfl rfl rfl (by first | omega | (simp ; omega)) ?_
   refine Walk.fieldB fd90_1 .none rfl rfl ?_
   refine Walk.loadT ty24 .none rfl rfl rfl ((by rw [cell_off (mkL_own_len (kk := 3) false (by intro x; rfl)) rfl]; rfl)) ?_
   refine mv ?_
   refine Walk.call (cr := []) cal17 (laws_markTypeS_nil hs2) rfl .none rfl rfl (LeL.refl _) trivial rfl (by first | rfl | (simp only [okCall, List.all_cons, List.all_nil, entOK, entOK', AV.idsL, AV.ids, idsL_append, ownCells_ids, List.map_cons, List.map_nil]; rfl)) (by first | rfl | (simp only [freshB, occH, occE, Res.ids, List.cons_append, List.nil_append, AV.idsL, AV.ids, idsL_append, ownCells_ids, zerosA_idsR, repNil, List.map_cons, List.map_nil, upC]; rfl)) ?_
   refine asg ?_
   refine tv ?_
   refine CWp.seq ?_
   refine CWp.fullCell 42 (pre.length * 3 + 1) false (xs := (mkL Ty.one Ty.sz (v + 1) y.args).map Ty.c) rfl (cell_off (mkL_own_len (kk := 3) false (by intro x; rfl)) rfl) (by simp [hs2, mkL]) (putC_off (mkL_own_len (kk := 3) false (by intro x; rfl)) putC_c1) ?_
   refine CWp.region rfl ?_
   refine mv ?_
   refine mv ?_
   refine mv ?_
   refine Walk.idxM sl79 .none rfl rfl rfl rfl (by first | omega | (simp ; omega)) ?_
   refine Walk.fieldB fd90_2 .none rfl rfl ?_
   refine Walk.storeT ty3 .none rfl rfl rfl rfl rfl rfl (by simp) ((putC_off (mkL_own_len (kk := 3) false (by intro x; rfl)) putC_c2)) ?_
   refine tv ?_
   refine CWp.region rfl ?_
   refine mv ?_
   refine Walk.addI .none rfl rfl rfl (by first | (constructor <;> omega) | (constructor <;> simp <;> omega)) ?_
   refine asg ?_
   refine tv ?_
   refine CWp.region rfl ?_
   refine mv ?_
   refine Walk.addI .none rfl rfl rfl (by first | (constructor <;> omega) | (constructor <;> simp <;> omega)) ?_
   refine asg ?_
   refine tv ?_
   refine ⟨(pre ++ [y], rest, v + Ctor.sz y), ⟨(by have hz := hg1.1; rw [← hz]; simp), (by show v + Ctor.sz y = _; rw [szL_snoc, hg1.2]; omega)⟩, (by simp), Sub.x (by kernel_rfl) (by kernel_rfl) ⟨⟨_, rfl, (LeA.eqi (by first | rfl | (simp; done) | omega | (refine Eq.trans (b := v + Ctor.sz y) ?_ rfl; omega)))⟩, ⟨⟨_, rfl, (LeA.eqi (by first | rfl | (simp; done) | omega | (refine Eq.trans (b := v + Ctor.sz y) ?_ rfl; omega)))⟩, trivial⟩⟩ (by kernel_rfl) (by kernel_rfl) ⟨(by first | rfl | (show some (Res.tree _) = some (Res.tree _); rw [mkL_snoc, List.map_append, List.map_singleton, ← own_next, ← hg1.2]; rfl)), trivial⟩⟩
  ·refine CWp.split 42 (pre.length * 3 + 1) 41 rfl (cell_off (mkL_own_len (kk := 3) false (by intro x; rfl)) rfl) (by simp [hs2]) (by first | rfl | (simp only [freshB, occH, occE, Res.ids, List.cons_append, List.nil_append, AV.idsL, AV.ids, idsL_append, ownCells_ids, zerosA_idsR, repNil, List.map_cons, List.map_nil, upC]; rfl)) (putC_off (mkL_own_len (kk := 3) false (by intro x; rfl)) putC_c1) ?_
   refine CWp.region rfl ?_
   refine mv ?_
   refine mv ?_
   refine Walk.idxM sl79 .none rfl rfl rfl rfl (by first | omega | (simp ; omega)) ?_
   refine Walk.fieldB fd90_1 .none rfl rfl ?_
   refine Walk.loadT ty24 .none rfl rfl rfl ((by rw [cell_off (mkL_own_len (kk := 3) false (by intro x; rfl)) rfl]; rfl)) ?_
   refine mv ?_
   refine Walk.call (cr := []) cal17 (laws_markTypeS_tr (m := false) (l := y.args) (k := v + 1) (by omega) (by omega) (hl.ctor y (by rw [← hg1.1]; simp)).2) rfl .none rfl rfl (.cons (LeA.msn (by first | rfl | (simp; done))) (.cons (.refl _) .nil)) ⟨by first | rfl | (simp; rfl), trivial⟩ rfl (by first | rfl | (simp only [okCall, List.all_cons, List.all_nil, entOK, entOK', AV.idsL, AV.ids, idsL_append, ownCells_ids, List.map_cons, List.map_nil]; rfl)) (by first | rfl | (simp only [freshB, occH, occE, Res.ids, List.cons_append, List.nil_append, AV.idsL, AV.ids, idsL_append, ownCells_ids, zerosA_idsR, repNil, List.map_cons, List.map_nil, upC]; rfl)) ?_
   refine asg ?_
   refine tv ?_
   refine CWp.seq ?_
   refine CWp.merge hk 42 (pre.length * 3 + 1) 41 2 _ rfl (cell_off (mkL_own_len (kk := 3) false (by intro x; rfl)) rfl) (by simp [mkL_len]) rfl (by first | (intro x hx; simp at hx; obtain ⟨y, _, rfl⟩ := hx; rfl) | (intro x hx; obtain ⟨y, _, rfl⟩ := List.mem_map.1 hx; rfl)) rfl rfl (putC_off (mkL_own_len (kk := 3) false (by intro x; rfl)) putC_c1) ?_
   refine CWp.region rfl ?_
   refine mv ?_
   refine mv ?_
   refine mv ?_
   refine Walk.idxM sl79 .none rfl rfl rfl rfl (by first | omega | (simp ; omega)) ?_
   refine Walk.fieldB fd90_2 .none rfl rfl ?_
   refine Walk.storeT ty3 .none rfl rfl rfl rfl rfl rfl (by simp) ((putC_off (mkL_own_len (kk := 3) false (by intro x; rfl)) putC_c2)) ?_
   refine tv ?_
   refine CWp.region rfl ?_
   refine mv ?_
   refine Walk.addI .none rfl rfl rfl (by first | (constructor <;> omega) | (constructor <;> simp <;> omega)) ?_
   refine asg ?_
   refine tv ?_
   refine CWp.region rfl ?_
   refine mv ?_
   refine Walk.addI .none rfl rfl rfl (by first | (constructor <;> omega) | (constructor <;> simp <;> omega)) ?_
   refine asg ?_
   refine tv ?_
   refine ⟨(pre ++ [y], rest, v + Ctor.sz y), ⟨(by have hz := hg1.1; rw [← hz]; simp), (by show v + Ctor.sz y = _; rw [szL_snoc, hg1.2]; omega)⟩, (by simp), Sub.x (by kernel_rfl) (by kernel_rfl) ⟨⟨_, rfl, (LeA.eqi (by first | rfl | (simp; done) | omega | (refine Eq.trans (b := v + Ctor.sz y) ?_ rfl; omega)))⟩, ⟨⟨_, rfl, (LeA.eqi (by first | rfl | (simp; done) | omega | (refine Eq.trans (b := v + Ctor.sz y) ?_ rfl; omega)))⟩, trivial⟩⟩ (by kernel_rfl) (by kernel_rfl) ⟨(by first | rfl | (show some (Res.tree _) = some (Res.tree _); rw [mkL_snoc, List.map_append, List.map_singleton, ← own_next, ← hg1.2]; rfl)), trivial⟩⟩
 ·intro h1; have ⟨h1p, h1s⟩ := dup h1; try simp only [Q5] at h1s
  try simp only [Q] at h1p
  have hrest : rest = [] := by
   rcases rest with _ | ⟨a, b⟩
   ·rfl
   ·exfalso; have hz := congrArg List.length (hg1.1); simp only [List.length_append, List.length_cons, List.length_map] at hz; omega
  subst hrest
  refine CWp.exit ?_
  refine sr ?_
  refine mv ?_
  refine asg ?_
  refine tv ?_
  refine CWp.ret ?_
  refine ⟨_, _, [(42, some (.tree (ownCells false ((mkL Ctor.one Ctor.sz k l).map Ctor.c))))], (.cons (.tmp rfl) .nil), (.eqd ?_), ⟨rfl, rfl⟩, (SubO.get ⟨.inr (by first | rfl | (obtain ⟨hg1, _⟩ := hg1; rw [List.append_nil] at hg1; subst hg1; show some (Res.tree _) = some (Res.tree _); simp [ownCells_nil]; done)), ⟨.inl rfl, trivial⟩⟩), (boxOK rfl)⟩
  all_goals (first | rfl | (obtain ⟨hg1, hv⟩ := hg1; rw [List.append_nil] at hg1; subst hg1; rw [hv]))
theorem laws_markCtorS_nil {l : List Ctor} {k : Int} (hl : l = []) : FnD Try.prog 50 [.d (.sl []), .d (.i k)] [] (.d (.i (k + szL Ctor.sz l))) [] := by
 subst hl
 refine Fn.body (fn := Try.f50) (n := 35) rfl rfl rfl rfl rfl (fun w0 F0 own kept hk => ?_)
 refine sr ?_
 refine asg ?_
 refine tv ?_
 refine CWp.seq ?_
 refine sr ?_
 refine asg ?_
 refine tv ?_
 refine CWp.block ?_
 refine CWp.loopX (ι := Unit) hk (fun x => [(5, .d (.i 0)), (1, .d (.i k))]) [6, 7, 8, 9, 10, 11, 12, 13, 14, 15, 16, 17, 18, 19, 20, 21, 22, 23, 24, 25, 26, 27, 28, 29, 30, 31, 32, 33] (fun x => []) (fun x => True) (fun x => 0) () trivial ⟨⟨_, rfl, (LeA.eqi (by first | rfl | (simp; done) | (simp_all; done) | omega))⟩, ⟨⟨_, rfl, (LeA.eqi (by first | rfl | (simp; done) | (simp_all; done) | omega))⟩, trivial⟩⟩ trivial (fun x => rfl) (fun x hg1 => ?_)
 refine CWp.seq ?_
 refine sr ?_
 refine mv ?_
 refine mv ?_
 refine Walk.len sl79 .none rfl rfl ?_
 refine Walk.ltI .none rfl rfl rfl ?_
 refine tv ?_
 refine cd ?_ ?_
 ·intro h1; have ⟨h1p, h1s⟩ := dup h1; try simp only [Q5] at h1s
  try simp only [Q] at h1p
  exfalso; revert h1; simp --stop
 ·intro h1; have ⟨h1p, h1s⟩ := dup h1; try simp only [Q5] at h1s
  try simp only [Q] at h1p
  refine CWp.exit ?_
  refine sr ?_
  refine mv ?_
  refine asg ?_
  refine tv ?_
  refine CWp.ret ?_
  refine ⟨_, _, [], (.cons (.tmp rfl) .nil), (.eqd ?_), ⟨rfl, rfl⟩, HSub.nil, noBox⟩
  all_goals (first | rfl | (simp [szL]; done))
theorem laws_markDataS_tr {l : List Data} {k : Int} (h0 : 0 < k) (h1 : k + szL Data.sz l ≤ 1000000000000) (hl : WSmall l) : FnD Try.prog 16 [.ms 43 l.length, .d (.i k)] [(43, some (.tree (ownCells false (l.map Data.c))))]
  (.d (.i (k + szL Data.sz l))) [(43, some (.tree (ownCells false ((mkL Data.one Data.sz k l).map Data.c))))] := by
 have hl0 := hl.len
 refine Fn.body (fn := Try.f16) (n := 28) rfl rfl rfl rfl rfl (fun w0 F0 own kept hk => ?_)
 refine sr ?_
 refine asg ?_
 refine tv ?_
 refine CWp.seq ?_
 refine sr ?_
 refine asg ?_
 refine tv ?_
 refine CWp.block ?_
 refine CWp.loopX (ι := List (Data) × List (Data) × (Int)) hk (fun x => [(5, .d (.i (x.1.length : Int))), (1, .d (.i x.2.2))]) [6, 7, 8, 9, 10, 11, 12, 13, 14, 15, 16, 17, 18, 19, 20, 21, 22, 23, 24, 25, 26] (fun x => [(43, some (.tree (ownCells false ((mkL Data.one Data.sz k x.1).map Data.c) ++ ownCells false (x.2.1.map Data.c))))]) (fun x => x.1 ++ x.2.1 = l ∧ x.2.2 = k + szL Data.sz x.1) (fun x => x.2.1.length) ([], l, k) ⟨by simp, by simp [szL]⟩ ⟨⟨_, rfl, (LeA.eqi (by first | rfl | (simp; done) | omega | (refine Eq.trans (b := v + Data.sz y) ?_ rfl; omega)))⟩, ⟨⟨_, rfl, (LeA.eqi (by first | rfl | (simp; done) | omega | (refine Eq.trans (b := v + Data.sz y) ?_ rfl; omega)))⟩, trivial⟩⟩ ⟨(by first | rfl | (show some (Res.tree _) = some (Res.tree _); rw [mkL_snoc, List.map_append, List.map_singleton, ← own_next, ← hg1.2]; rfl)), trivial⟩ (fun x => rfl) (fun x hg1 => ?_)
 obtain ⟨pre, rest, v⟩ := x
 dsimp only at hg1 ⊢
 refine CWp.seq ?_
 refine sr ?_
 refine mv ?_
 refine mv ?_
 refine Walk.lenM sl26 .none rfl rfl ?_
 refine Walk.ltI .none rfl rfl rfl ?_
 refine tv ?_
 refine cd ?_ ?_
 ·intro h1; have ⟨h1p, h1s⟩ := dup h1; try simp only [Q5] at h1s
  try simp only [Q] at h1p
  rcases rest with _ | ⟨y, rest⟩
  ·exfalso; simp_all
  have hsp := szL_split (sz := Data.sz) hg1.1; have hnn := szL_nonneg (l := rest) Data.sz_nn; have hnp := szL_nonneg (l := pre) Data.sz_nn; have hys : Data.sz y = 1 + szL Ctor.sz y.ctors := rfl; have hya := szL_nonneg (l := y.ctors) Ctor.sz_nn; have hv := hg1.2
  refine CWp.reTree 43 (ownCells false ((mkL Data.one Data.sz k pre).map Data.c) ++ (.d (.str y.name) :: .own false (encCtors y.ctors) :: ownCells false (rest.map Data.c))) rfl rfl ?_
  refine CWp.skip ?_
  refine CWp.seq ?_
  refine CWp.block ?_
  refine sr ?_
  refine mv ?_
  refine mv ?_
  refine mv ?_
  refine Walk.call (cr := []) cal49 (laws_markText_k (by omega) (by omega)) rfl .none rfl rfl (LeL.refl _) trivial rfl (by first | rfl | (simp only [okCall, List.all_cons, List.all_nil, entOK, entOK', AV.idsL, AV.ids, idsL_append, ownCells_ids, List.map_cons, List.map_nil]; rfl)) (by first | rfl | (simp only [freshB, occH, occE, Res.ids, List.cons_append, List.nil_append, AV.idsL, AV.ids, idsL_append, ownCells_ids, zerosA_idsR, repNil, List.map_cons, List.map_nil, upC]; rfl)) ?_
  refine Walk.idxM sl26 .none rfl rfl rfl rfl (by first | omega | (simp ; omega)) ?_
  refine Walk.fieldB fd81_0 .none rfl rfl ?_
  refine Walk.storeT ty9 .none rfl rfl rfl rfl rfl rfl (by simp) ((putC_off (mkL_own_len (kk := 2) false (by intro x; rfl)) putC_c0)) ?_
  refine tv ?_
  refine sr ?_
  refine mv ?_
  refine Walk.addI .none rfl rfl rfl (by first | (constructor <;> omega) | (constructor <;> simp <;> omega)) ?_
  refine asg ?_
  refine tv ?_
  by_cases hs2 : y.ctors = []
  ·refine CWp.emptyCell 43 (pre.length * 2 + 1) rfl (cell_off (mkL_own_len (kk := 2) false (by intro x; rfl)) rfl) (by simp [hs2]) (putC_off (mkL_own_len (kk := 2) false (by intro x; rfl)) putC_c1) ?_
   refine CWp.region rfl ?_
   refine mv ?_
   refine mv ?_
   refine Walk.idxM sl26 .none rfl rfl rfl rfl (by first | omega | (simp ; omega)) ?_
   refine Walk.fieldB fd81_1 .none rfl rfl ?_
   refine Walk.loadT ty79 .none rfl rfl rfl ((by rw [cell_off (mkL_own_len (kk := 2) false (by intro x; rfl)) rfl]; rfl)) ?_
   refine mv ?_
   refine Walk.call (cr := []) cal50 (laws_markCtorS_nil hs2) rfl .none rfl rfl (LeL.refl _) trivial rfl (by first | rfl | (simp only [okCall, List.all_cons, List.all_nil, entOK, entOK', AV.idsL, AV.ids, idsL_append, ownCells_ids, List.map_cons, List.map_nil]; rfl)) (by first | rfl | (simp only [freshB, occH, occE, Res.ids, List.cons_append, List.nil_append, AV.idsL, AV.ids, idsL_append, ownCells_ids, zerosA_idsR, repNil, List.map_cons, List.map_nil, upC]; rfl)) ?_
   refine asg ?_
   refine tv ?_
   refine CWp.fullCell 43 (pre.length * 2 + 1) false (xs := (mkL Ctor.one Ctor.sz (v + 1) y.ctors).map Ctor.c) rfl (cell_off (mkL_own_len (kk := 2) false (by intro x; rfl)) rfl) (by simp [hs2, mkL]) (putC_off (mkL_own_len (kk := 2) false (by intro x; rfl)) putC_c1) ?_
   refine CWp.region rfl ?_
   refine mv ?_
   refine Walk.addI .none rfl rfl rfl (by first | (constructor <;> omega) | (constructor <;> simp <;> omega)) ?_
   refine asg ?_
   refine tv ?_
   refine ⟨(pre ++ [y], rest, v + Data.sz y), ⟨(by have hz := hg1.1; rw [← hz]; simp), (by show v + Data.sz y = _; rw [szL_snoc, hg1.2]; omega)⟩, (by simp), Sub.x (by kernel_rfl) (by kernel_rfl) ⟨⟨_, rfl, (LeA.eqi (by first | rfl | (simp; done) | omega | (refine Eq.trans (b := v + Data.sz y) ?_ rfl; omega)))⟩, ⟨⟨_, rfl, (LeA.eqi (by first | rfl | (simp; done) | omega | (refine Eq.trans (b := v + Data.sz y) ?_ rfl; omega)))⟩, trivial⟩⟩ (by kernel_rfl) (by kernel_rfl) ⟨(by first | rfl | (show some (Res.tree _) = some (Res.tree _); rw [mkL_snoc, List.map_append, List.map_singleton, ← own_next, ← hg1.2]; rfl)), trivial⟩⟩
  ·refine CWp.split 43 (pre.length * 2 + 1) 42 rfl (cell_off (mkL_own_len (kk := 2) false (by intro x; rfl)) rfl) (by simp [hs2]) (by first | rfl | (simp only [freshB, occH, occE, Res.ids, List.cons_append, List.nil_append, AV.idsL, AV.ids, idsL_append, ownCells_ids, zerosA_idsR, repNil, List.map_cons, List.map_nil, upC]; rfl)) (putC_off (mkL_own_len (kk := 2) false (by intro x; rfl)) putC_c1) ?_
   refine CWp.region rfl ?_
   refine mv ?_
   refine mv ?_
   refine Walk.idxM sl26 .none rfl rfl rfl rfl (by first | omega | (simp ; omega)) ?_
   refine Walk.fieldB fd81_1 .none rfl rfl ?_
   refine Walk.loadT ty79 .none rfl rfl rfl ((by rw [cell_off (mkL_own_len (kk := 2) false (by intro x; rfl)) rfl]; rfl)) ?_
   refine mv ?_
   refine Walk.call (cr := []) cal50 (laws_markCtorS_tr (l := y.ctors) (k := v + 1) (by omega) (by omega) (hl.cs (d := y) (by rw [← hg1.1]; simp))) rfl .none rfl rfl (.cons (LeA.msn (by first | rfl | (simp; done))) (.cons (.refl _) .nil)) ⟨by first | rfl | (simp; rfl), trivial⟩ rfl (by first | rfl | (simp only [okCall, List.all_cons, List.all_nil, entOK, entOK', AV.idsL, AV.ids, idsL_append, ownCells_ids, List.map_cons, List.map_nil]; rfl)) (by first | rfl | (simp only [freshB, occH, occE, Res.ids, List.cons_append, List.nil_append, AV.idsL, AV.ids, idsL_append, ownCells_ids, zerosA_idsR, repNil, List.map_cons, List.map_nil, upC]; rfl)) ?_
   refine asg ?_
   refine tv ?_
   refine CWp.merge hk 43 (pre.length * 2 + 1) 42 3 _ rfl (cell_off (mkL_own_len (kk := 2) false (by intro x; rfl)) rfl) (by simp [mkL_len]) rfl (by first | (intro x hx; simp at hx; obtain ⟨y, _, rfl⟩ := hx; rfl) | (intro x hx; obtain ⟨y, _, rfl⟩ := List.mem_map.1 hx; rfl)) rfl rfl (putC_off (mkL_own_len (kk := 2) false (by intro x; rfl)) putC_c1) ?_
   refine CWp.region rfl ?_
   refine mv ?_
   refine Walk.addI .none rfl rfl rfl (by first | (constructor <;> omega) | (constructor <;> simp <;> omega)) ?_
   refine asg ?_
   refine tv ?_
   refine ⟨(pre ++ [y], rest, v + Data.sz y), ⟨(by have hz := hg1.1; rw [← hz]; simp), (by show v + Data.sz y = _; rw [szL_snoc, hg1.2]; omega)⟩, (by simp), Sub.x (by kernel_rfl) (by kernel_rfl) ⟨⟨_, rfl, (LeA.eqi (by first | rfl | (simp; done) | omega | (refine Eq.trans (b := v + Data.sz y) ?_ rfl; omega)))⟩, ⟨⟨_, rfl, (LeA.eqi (by first | rfl | (simp; done) | omega | (refine Eq.trans (b := v + Data.sz y) ?_ rfl; omega)))⟩, trivial⟩⟩ (by kernel_rfl) (by kernel_rfl) ⟨(by first | rfl | (show some (Res.tree _) = some (Res.tree _); rw [mkL_snoc, List.map_append, List.map_singleton, ← own_next, ← hg1.2]; rfl)), trivial⟩⟩
 ·intro h1; have ⟨h1p, h1s⟩ := dup h1; try simp only [Q5] at h1s
  try simp only [Q] at h1p
  have hrest : rest = [] := by
   rcases rest with _ | ⟨a, b⟩
   ·rfl
   ·exfalso; have hz := congrArg List.length (hg1.1); simp only [List.length_append, List.length_cons, List.length_map] at hz; omega
  subst hrest
  refine CWp.exit ?_
  refine sr ?_
  refine mv ?_
  refine asg ?_
  refine tv ?_
  refine CWp.ret ?_
  refine ⟨_, _, [(43, some (.tree (ownCells false ((mkL Data.one Data.sz k l).map Data.c))))], (.cons (.tmp rfl) .nil), (.eqd ?_), ⟨rfl, rfl⟩, (SubO.get ⟨.inr (by first | rfl | (obtain ⟨hg1, _⟩ := hg1; rw [List.append_nil] at hg1; subst hg1; show some (Res.tree _) = some (Res.tree _); simp [ownCells_nil]; done)), ⟨.inl rfl, trivial⟩⟩), (boxOK rfl)⟩
  all_goals (first | rfl | (obtain ⟨hg1, hv⟩ := hg1; rw [List.append_nil] at hg1; subst hg1; rw [hv]))
end Go.Proofs.Ytadpcmcifbakoaa
