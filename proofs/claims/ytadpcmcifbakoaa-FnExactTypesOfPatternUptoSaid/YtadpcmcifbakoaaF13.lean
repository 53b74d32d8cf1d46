/-
  WALKS: AllTypes, whose list is the caller's own.
-/
import Derived.Test.YtadpcmcifbakoaaF12
import Derived.Test.YtadpcmcifbakoaaF1
namespace Go.Proofs.Ytadpcmcifbakoaa
open Go
set_option linter.unusedSimpArgs false
set_option linter.unusedVariables false
set_option maxRecDepth 100000
set_option maxHeartbeats 2000000
theorem flatR_tys (l : List Ty) : FlatR (l.map Ty.c) := by
 intro x hx y hy
 obtain ⟨t, _, rfl⟩ := List.mem_map.1 hx
 simp only [Ty.c, List.mem_cons, List.not_mem_nil, or_false] at hy
 rcases hy with rfl | rfl <;> rfl
theorem szL_ctors_le : ∀ l : List Ctor, szL Ctor.sz l ≤ 2 * (mCtors l : Int)
 | [] => by simp [szL, mCtors]
 | x :: r => by
  have ih := szL_ctors_le r
  simp only [szL, Ctor.sz, szL_tys, mCtors, mCtor, mTys, List.length_cons, List.map_cons, List.sum_cons] at ih ⊢
  omega
theorem szL_datas_le : ∀ l : List Data, szL Data.sz l ≤ 2 * (mDatas l : Int)
 | [] => by simp [szL, mDatas]
 | x :: r => by
  have ih := szL_datas_le r
  have h2 := szL_ctors_le x.ctors
  simp only [szL, Data.sz, mDatas, mData, List.length_cons, List.map_cons, List.sum_cons] at ih ⊢
  omega
theorem impl_allTypes_own {w : List Data} (hw : w.length ≤ 1000000000000) : FnD Try.prog 46 [.d (encDatas w)] [] (.gt 1 ((allTypesOf w.length).map Ty.c)) [(1, some (.tok ((allTypesOf w.length).map Ty.c).length 2))] := by
 refine Fn.body (fn := Try.f46) (n := 25) rfl rfl rfl rfl rfl (fun w0 F0 own kept hk => ?_)
 refine sr ?_
 refine asg ?_
 refine tv ?_
 refine sr ?_
 refine Walk.build st38 (ks := [0]) (xs := [_]) rfl rfl .none rfl rfl rfl ?_
 refine Walk.sliceLitGV 1 sl24 tz38 rfl (by decide) (ks := [0]) (xs := [_]) rfl rfl (by decide) (by decide) .none rfl rfl rfl rfl rfl ?_
 refine asg ?_
 refine tv ?_
 refine CWp.seq ?_
 refine sr ?_
 refine mv ?_
 refine Walk.len sl26 .none rfl rfl ?_
 refine mv ?_
 refine tv ?_
 refine CWp.block ?_
 refine CWp.loopX (ι := Nat) hk (fun i => [(10, .d (.i (i : Int))), (3, .gv 1 ((⟨-1, 0⟩ :: (List.range i).flatMap fun (i : Nat) => (List.range 4).map fun (k : Nat) => (⟨i, k⟩ : Ty)).map Ty.c))]) [4, 5, 11, 12, 13, 14, 15, 16, 17, 18, 19, 20, 21, 22, 23] (fun i => [(1, some (.tok (((⟨-1, 0⟩ :: (List.range i).flatMap fun (i : Nat) => (List.range 4).map fun (k : Nat) => (⟨i, k⟩ : Ty)).map Ty.c)).length 2))]) (fun i => i ≤ w.length) (fun i => w.length - i) 0 (by simp) ⟨⟨_, rfl, (LeA.eqi (by first | rfl | (simp [List.range_succ]; done)))⟩, ⟨⟨_, rfl, (LeA.gvg (by first | rfl | (simp [List.range_succ]; done)))⟩, trivial⟩⟩ ⟨beq_nat_eq (by first | rfl | (simp; done) | (simp; omega) | (first | rfl | (simp [List.range_succ]; done))), trivial⟩ (fun x => rfl) (fun i hg1 => ?_)
 refine sr ?_
 refine Walk.ltI .none rfl rfl rfl ?_
 refine tv ?_
 refine CWp.seq ?_
 refine cd ?_ ?_
 ·intro h1; have ⟨h1p, h1s⟩ := dup h1; try simp only [Q5] at h1s
  try simp only [Q] at h1p
  refine CWp.skip ?_
  refine CWp.seq ?_
  refine CWp.block ?_
  refine sr ?_
  refine mv ?_
  refine asg ?_
  refine tv ?_
  refine sr ?_
  refine asg ?_
  refine tv ?_
  refine CWp.block ?_
  refine CWp.loopX (ι := Nat) hk (fun k => [(5, .d (.i (k : Int))), (3, .gv 1 ((⟨-1, 0⟩ :: ((List.range i).flatMap fun (i : Nat) => (List.range 4).map fun (k : Nat) => (⟨i, k⟩ : Ty)) ++ (List.range k).map fun (k : Nat) => (⟨i, k⟩ : Ty)).map Ty.c))]) [13, 14, 15, 16, 17, 18, 19, 20, 21, 22] (fun k => [(1, some (.tok (((⟨-1, 0⟩ :: ((List.range i).flatMap fun (i : Nat) => (List.range 4).map fun (k : Nat) => (⟨i, k⟩ : Ty)) ++ (List.range k).map fun (k : Nat) => (⟨i, k⟩ : Ty)).map Ty.c)).length 2))]) (fun k => k ≤ 4) (fun k => 4 - k) 0 (by simp) ⟨⟨_, rfl, (LeA.eqi (by first | rfl | (simp [List.range_succ]; done)))⟩, ⟨⟨_, rfl, (LeA.gvg (by first | rfl | (simp [List.range_succ]; done)))⟩, trivial⟩⟩ ⟨beq_nat_eq (by first | rfl | (simp; done) | (simp; omega) | (first | rfl | (simp [List.range_succ]; done))), trivial⟩ (fun x => rfl) (fun k hg2 => ?_)
  refine CWp.seq ?_
  refine sr ?_
  refine mv ?_
  refine Walk.leI .none rfl rfl rfl ?_
  refine tv ?_
  refine cd ?_ ?_
  ·intro h2; have ⟨h2p, h2s⟩ := dup h2; try simp only [Q5] at h2s
   try simp only [Q] at h2p
   refine CWp.skip ?_
   refine CWp.seq ?_
   refine CWp.block ?_
   refine CWp.region rfl ?_
   refine mv ?_
   refine mv ?_
   refine mv ?_
   refine Walk.build st38 (ks := [0, 1]) (xs := [_, _]) rfl rfl .none rfl rfl rfl ?_
   refine Walk.sliceLit sl24 tz38 rfl (by decide) (ks := [0]) (xs := [_]) rfl rfl (by decide) (by decide) .none rfl rfl rfl rfl ?_
   refine Walk.appendV sl24 zz38 .none rfl rfl rfl rfl (htokL rfl (by first | rfl | (simp; done) | (simp; omega))) (by simp) (by simp [List.map_const', List.sum_replicate_nat]; omega) (by simp [List.map_const', List.sum_replicate_nat]; omega) ?_
   refine asg ?_
   refine tv ?_
   refine CWp.region rfl ?_
   refine mv ?_
   refine Walk.addI .none rfl rfl rfl (by first | (constructor <;> omega) | (constructor <;> simp <;> omega)) ?_
   refine asg ?_
   refine tv ?_
   refine ⟨k + 1, ?_, ?_, Sub.x (by kernel_rfl) (by kernel_rfl) ⟨⟨_, rfl, (LeA.eqi (by first | rfl | (simp [List.range_succ]; done)))⟩, ⟨⟨_, rfl, (LeA.gvg (by first | rfl | (simp [List.range_succ]; done)))⟩, trivial⟩⟩ (by kernel_rfl) (by kernel_rfl) ⟨beq_nat_eq (by first | rfl | (simp; done) | (simp; omega) | (first | rfl | (simp [List.range_succ]; done))), trivial⟩⟩
   all_goals first | omega | (simp_all; done) | (simp_all; omega)
  ·intro h2; have ⟨h2p, h2s⟩ := dup h2; try simp only [Q5] at h2s
   try simp only [Q] at h2p
   refine CWp.exit ?_
   refine CWp.region rfl ?_
   refine Walk.addI .none rfl rfl rfl (by first | (constructor <;> omega) | (constructor <;> simp <;> omega)) ?_
   refine mv ?_
   refine tv ?_
   obtain rfl : k = 4 := by omega
   refine ⟨i + 1, ?_, ?_, Sub.x (by kernel_rfl) (by kernel_rfl) ⟨⟨_, rfl, (LeA.eqi (by first | rfl | (simp [List.range_succ]; done)))⟩, ⟨⟨_, rfl, (LeA.gvg (by first | rfl | (simp [List.range_succ]; done)))⟩, trivial⟩⟩ (by kernel_rfl) (by kernel_rfl) ⟨beq_nat_eq (by first | rfl | (simp; done) | (simp; omega) | (first | rfl | (simp [List.range_succ]; done))), trivial⟩⟩
   all_goals first | omega | (simp_all; done) | (simp_all; omega)
 ·intro h1; have ⟨h1p, h1s⟩ := dup h1; try simp only [Q5] at h1s
  try simp only [Q] at h1p
  refine CWp.exit ?_
  refine CWp.seq ?_
  refine CWp.gvGt 3 rfl (flatR_tys _) ?_
  refine CWp.region rfl ?_
  refine mv ?_
  refine asg ?_
  refine tv ?_
  refine CWp.ret ?_
  refine ⟨_, _, [(1, some (.tok ((allTypesOf w.length).map Ty.c).length 2))], (.cons (.tmp rfl) .nil), (.gtg ?_), ⟨rfl, rfl⟩, (SubH.get ⟨(by obtain rfl : i = w.length := (by omega); first | rfl | (refine beq_nat_eq ?_; simp [allTypesOf]; done) | (simp [allTypesOf]; done)), trivial⟩), (boxOK rfl)⟩
  all_goals (obtain rfl : i = w.length := (by omega); simp [allTypesOf])
theorem impl_AllTypes_own {w : List Data} (hs : WSmall w) (hv : worldValid w = true) : FnD Try.prog 13 [.d (encDatas w)] [] (.gt 1 ((allTypesOf w.length).map Ty.c)) [(1, some (.tok ((allTypesOf w.length).map Ty.c).length 2))] := by
 refine Fn.body (fn := Try.f13) (n := 8) rfl rfl rfl rfl rfl (fun w0 F0 own kept hk => ?_)
 refine sr ?_
 refine asg ?_
 refine tv ?_
 refine CWp.seq ?_
 refine sr ?_
 refine mv ?_
 refine Walk.call (cr := []) cal21 (impl_WorldValid_fn hs) rfl .none rfl rfl (LeL.refl _) trivial rfl rfl rfl ?_
 refine Walk.not .none rfl rfl ?_
 refine tv ?_
 refine cd ?_ ?_
 ·intro h1; have ⟨h1p, h1s⟩ := dup h1; try simp only [Q5] at h1s
  try simp only [Q] at h1p
  exfalso; revert h1; simp [hv] --stop
 ·intro h1; have ⟨h1p, h1s⟩ := dup h1; try simp only [Q5] at h1s
  try simp only [Q] at h1p
  refine CWp.skip ?_
  refine sr ?_
  refine mv ?_
  refine Walk.call (cr := [1]) cal46 (impl_allTypes_own hs.len) rfl .none rfl rfl (LeL.refl _) trivial rfl (by first | rfl | (simp only [okCall, List.all_cons, List.all_nil, entOK, entOK', AV.idsL, AV.ids, idsL_append, ownCells_ids, List.map_cons, List.map_nil]; rfl)) (by first | rfl | (simp only [freshB, occH, occE, Res.ids, List.cons_append, List.nil_append, AV.idsL, AV.ids, idsL_append, ownCells_ids, zerosA_idsR, repNil, List.map_cons, List.map_nil, upC]; rfl)) ?_
  refine asg ?_
  refine tv ?_
  refine CWp.ret ?_
  refine ⟨_, _, [(1, some (.tok ((allTypesOf w.length).map Ty.c).length 2))], (.cons (.tmp rfl) .nil), (.gtg ?_), ⟨rfl, rfl⟩, (SubH.get ⟨(by rfl), trivial⟩), (boxOK rfl)⟩
  all_goals (rfl)
end Go.Proofs.Ytadpcmcifbakoaa
