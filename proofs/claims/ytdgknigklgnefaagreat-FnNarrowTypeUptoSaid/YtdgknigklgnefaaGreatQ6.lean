/-
  THE LAW FnNarrowType: whatever the arguments of bulk at most 1048576 are, the call returns true, and the arguments read as before.
  Conditions: the bulk alone.
-/
import Derived.Test.YtdgknigklgnefaaGreatQ5
namespace Go.Proofs.YtdgknigklgnefaaGreat
open Go
set_option linter.unusedSimpArgs false
set_option linter.unusedVariables false
set_option maxRecDepth 100000
set_option maxHeartbeats 2000000
abbrev bdA (b : Bd) : List AV := [.d (.i b.var), .d (.i b.val.ctor), .d (.i b.val.num), .d (encVals b.val.kids)]
def bdC (L : List Bd) : List AV := ((L.map Bd.c).flatten).map AV.d
theorem cut_bd : ∀ {L : List Bd} {i : Nat}, i < L.length → cutC (bdC L) (i * 4) 4 = some (bdA (nth L i))
 | x :: r, 0, _ => by simp [cutC, nth, bdC, Bd.c]
 | x :: r, i + 1, h => by
  have := cut_bd (L := r) (i := i) (by simpa using h)
  rw [show (i + 1) * 4 = i * 4 + 1 + 1 + 1 + 1 by omega]
  exact this
theorem put_bd : ∀ {L : List Bd} {i : Nat} {e : Bd}, i < L.length → putC (bdC L) (i * 4) (bdA e) = some (bdC (L.set i e))
 | x :: r, 0, e, _ => by simp [putC, bdC, Bd.c]
 | x :: r, i + 1, e, h => by
  have := put_bd (L := r) (i := i) (e := e) (by simpa using h)
  rw [show (i + 1) * 4 = i * 4 + 1 + 1 + 1 + 1 by omega]
  show putC (.d _ :: .d _ :: .d _ :: .d _ :: bdC r) (i * 4 + 1 + 1 + 1 + 1) (bdA e) = _
  simp only [putC, this]
  rfl
theorem put_bv : ∀ {L : List Bd} {i : Nat}, i < L.length → putC (bdC L) (i * 4 + 1) [.d (.i (nth L i).val.ctor), .d (.i (nth L i).val.num), .d (encVals (nth L i).val.kids)] = some (bdC L)
 | x :: r, 0, _ => by simp [putC, nth, bdC, Bd.c]
 | x :: r, i + 1, h => by
  have := put_bv (L := r) (i := i) (by simpa using h)
  rw [show (i + 1) * 4 + 1 = i * 4 + 1 + 1 + 1 + 1 + 1 by omega]
  show putC (.d _ :: .d _ :: .d _ :: .d _ :: bdC r) (i * 4 + 1 + 1 + 1 + 1 + 1) [.d (.i (nth r i).val.ctor), .d (.i (nth r i).val.num), .d (encVals (nth r i).val.kids)] = _
  simp only [putC, this]
  rfl
theorem chunk_bd (L : List Bd) : chunkD (L.map Bd.c).length 4 (bdC L) = some (L.map Bd.c) := by
 have := chunkD_flat (f := Bd.c) (k := 4) (l := L) (fun _ _ => rfl)
 rw [List.length_map, ← this]
 congr 1
 unfold bdC
 rw [List.map_flatten, List.flatMap_def, List.map_map]
 rfl
def swapL (L : List Bd) (j : Nat) : List Bd := (L.set (j + 1) (nth L j)).set j (nth L (j + 1))
theorem swapL_len {L : List Bd} {j : Nat} : (swapL L j).length = L.length := by simp [swapL]
def sinkL : Nat → List Bd → List Bd
 | 0, L => L
 | j + 1, L => if (nth L (j + 1)).var < (nth L j).var then sinkL j (swapL L j) else L
theorem sink_go {j : Nat} {L : List Bd} (h : (nth L (j + 1)).var < (nth L j).var) : sinkL (j + 1) L = sinkL j (swapL L j) := by
 conv => lhs; unfold sinkL
 rw [if_pos h]
theorem sink_stop {j : Nat} {L : List Bd} (h : ¬ (nth L (j + 1)).var < (nth L j).var) : sinkL (j + 1) L = L := by
 unfold sinkL; rw [if_neg h]
theorem sinkL_len : ∀ (j : Nat) (L : List Bd), (sinkL j L).length = L.length
 | 0, _ => rfl
 | j + 1, L => by
  unfold sinkL; split
  ·rw [sinkL_len j, swapL_len]
  ·rfl
def sortL : Nat → Nat → List Bd → List Bd
 | 0, _, L => L
 | k + 1, i, L => sortL k (i + 1) (sinkL i L)
theorem sortL_next {n i : Nat} {L : List Bd} (h : i < n) : sortL (n - i) i L = sortL (n - (i + 1)) (i + 1) (sinkL i L) := by
 obtain ⟨k, rfl⟩ : ∃ k, n = i + 1 + k := ⟨n - (i + 1), by omega⟩
 rw [show i + 1 + k - i = k + 1 by omega, show i + 1 + k - (i + 1) = k by omega]
 rfl
theorem sortL_end {n i : Nat} {L : List Bd} (h : n ≤ i) : sortL (n - i) i L = L := by
 rw [show n - i = 0 by omega]; rfl
theorem bdC_ids (L : List Bd) : AV.idsL (bdC L) = [] := by
 unfold bdC
 generalize (L.map Bd.c).flatten = l
 induction l with
 | nil => rfl
 | cons x r ih => simpa [AV.idsL, AV.ids] using ih
theorem conv8 (b : UInt8) : 0 ≤ IntKind.i64.wrap (b.toNat : Int) ∧ IntKind.i64.wrap (b.toNat : Int) ≤ 255 := by
 have h : b.toNat < 256 := b.toNat_lt
 rw [wrap_i64 ⟨by omega, by omega⟩]
 omega
theorem ar8 (b : UInt8) : I64 (0 + IntKind.i64.wrap (b.toNat : Int)) := by
 have := conv8 b
 constructor <;> omega
theorem sink_done {j : Nat} {L : List Bd} (h : j = 0 ∨ ¬ (nth L j).var < (nth L (j - 1)).var) : sinkL j L = L := by
 cases j with
 | zero => rfl
 | succ j => exact sink_stop (h.resolve_left (by omega))
theorem okCall_bd {L L' : List Bd} : okCall [(9, some (.box (bdC L)))] [(9, some (.box (bdC L')))] (AV.tup []) [] = true := by
 simp only [okCall, List.all_cons, List.all_nil, entOK, entOK', AV.idsL, AV.ids, idsL_append, bdC_ids, List.map_cons, List.map_nil]; rfl
section
variable {c : Ctx} {env : Env} {hp : Hp} {K : Kt}
theorem CWp.condF {x y : Code} (hn : CWp c y ⟨env, hp⟩ K) : CWp c (.cond (.const (.bool false)) x y) ⟨env, hp⟩ K := by
 intro a w hr
 have he : a.eval (.const (.bool false)) = .bool false := rfl
 exact wp_cond_split he (fun h => by cases h) (fun _ => hn a w hr)
end
def cmpV (x y : Int) : Int := if x < y then -1 else if y < x then 1 else 0
theorem cmpV_neg {x y : Int} : cmpV x y < 0 ↔ x < y := by
 unfold cmpV; split
 ·omega
 ·split <;> omega
theorem u64_small {n : Int} (h : 0 ≤ n) (h2 : n ≤ 12) : IntKind.u64.wrap n = n := by
 obtain ⟨k, rfl⟩ := Int.eq_ofNat_of_zero_le h
 have : k ≤ 12 := by omega
 have h3 : k = 0 ∨ k = 1 ∨ k = 2 ∨ k = 3 ∨ k = 4 ∨ k = 5 ∨ k = 6 ∨ k = 7 ∨ k = 8 ∨ k = 9 ∨ k = 10 ∨ k = 11 ∨ k = 12 := by omega
 rcases h3 with rfl | rfl | rfl | rfl | rfl | rfl | rfl | rfl | rfl | rfl | rfl | rfl | rfl <;> rfl
theorem u8_small {n : Int} (h : 0 ≤ n) (h2 : n ≤ 12) : IntKind.u8.wrap n = n := by
 obtain ⟨k, rfl⟩ := Int.eq_ofNat_of_zero_le h
 have : k ≤ 12 := by omega
 have h3 : k = 0 ∨ k = 1 ∨ k = 2 ∨ k = 3 ∨ k = 4 ∨ k = 5 ∨ k = 6 ∨ k = 7 ∨ k = 8 ∨ k = 9 ∨ k = 10 ∨ k = 11 ∨ k = 12 := by omega
 rcases h3 with rfl | rfl | rfl | rfl | rfl | rfl | rfl | rfl | rfl | rfl | rfl | rfl | rfl <;> rfl
theorem cmp_isNaN_fn {x : Int} : FnD Tryz.prog 246 [.d (.i x)] [] (.d (.bool false)) [] := by
 refine bd Tryz.f246 6 [] [] fun w0 F0 own kept hk => ?_
 refine rn0 (r1 rfl) (.eqd ?_)
 all_goals (first | rfl | (refine congrArg D.bool ?_; simp; done))
theorem cmp_Compare_fn {x y : Int} : FnD Tryz.prog 184 [.d (.i x), .d (.i y)] [] (.d (.i (cmpV x y))) [] := by
 refine bd Tryz.f184 20 [] [] fun w0 F0 own kept hk => ?_
 refine Walk.call (cr := []) cal246 (cmp_isNaN_fn) rfl .none rfl rfl (LeL.refl _) trivial rfl rfl rfl ?_
 refine ev ?_
 refine Walk.call (cr := []) cal246 (cmp_isNaN_fn) rfl .none rfl rfl (LeL.refl _) trivial rfl rfl rfl ?_
 refine ev ?_
 refine sq (fun h1 h1p h1s => ?_) fun h1 h1p h1s => ?_
 ·try simp only [Q] at h1p
  refine sq (fun h2 h2p h2s => ?_) fun h2 h2p h2s => ?_
  ·try simp only [Q] at h2p
   refine rn0 (r1 rfl) (.eqd ?_)
   all_goals (refine congrArg D.i ?_; unfold cmpV; first | (simp_all; done) | (rw [if_pos (by omega)]; done) | (rw [if_neg (by omega), if_pos (by omega)]; done) | (rw [if_neg (by omega), if_neg (by omega)]; done))
  ·try simp only [Q] at h2p
   refine rn0 (r1 rfl) (.eqd ?_)
   all_goals (refine congrArg D.i ?_; unfold cmpV; first | (simp_all; done) | (rw [if_pos (by omega)]; done) | (rw [if_neg (by omega), if_pos (by omega)]; done) | (rw [if_neg (by omega), if_neg (by omega)]; done))
 ·try simp only [Q] at h1p
  refine sq (fun h3 h3p h3s => ?_) fun h3 h3p h3s => ?_
  ·try simp only [Q] at h3p
   refine rn0 (r1 rfl) (.eqd ?_)
   all_goals (refine congrArg D.i ?_; unfold cmpV; first | (simp_all; done) | (rw [if_pos (by omega)]; done) | (rw [if_neg (by omega), if_pos (by omega)]; done) | (rw [if_neg (by omega), if_neg (by omega)]; done))
  ·try simp only [Q] at h3p
   refine sq (fun h4 h4p h4s => ?_) fun h4 h4p h4s => ?_
   ·try simp only [Q] at h4p
    refine rn0 (r1 rfl) (.eqd ?_)
    all_goals (refine congrArg D.i ?_; unfold cmpV; first | (simp_all; done) | (rw [if_pos (by omega)]; done) | (rw [if_neg (by omega), if_pos (by omega)]; done) | (rw [if_neg (by omega), if_neg (by omega)]; done))
   ·try simp only [Q] at h4p
    refine sq (fun h5 h5p h5s => ?_) fun h5 h5p h5s => ?_
    ·try simp only [Q] at h5p
     refine rn0 (r1 rfl) (.eqd ?_)
     all_goals (refine congrArg D.i ?_; unfold cmpV; first | (simp_all; done) | (rw [if_pos (by omega)]; done) | (rw [if_neg (by omega), if_pos (by omega)]; done) | (rw [if_neg (by omega), if_neg (by omega)]; done))
    ·try simp only [Q] at h5p
     refine rn0 (r1 rfl) (.eqd ?_)
     all_goals (refine congrArg D.i ?_; unfold cmpV; first | (simp_all; done) | (rw [if_pos (by omega)]; done) | (rw [if_neg (by omega), if_pos (by omega)]; done) | (rw [if_neg (by omega), if_neg (by omega)]; done))
theorem impl_matched_1_fn {a b : Bd} : FnD Tryz.prog 183 [.agg (bdA a), .agg (bdA b)] [] (.d (.i (cmpV a.var b.var))) [] := by
 refine bd Tryz.f183 10 [] [] fun w0 F0 own kept hk => ?_
 refine Walk.box (id := 3002) .none rfl rfl rfl rfl rfl rfl rfl ?_
 refine Walk.box (id := 3003) .none rfl rfl rfl rfl rfl rfl rfl ?_
 refine ev ?_
 refine Walk.call (cr := []) cal184 (cmp_Compare_fn) rfl .none rfl rfl (LeL.refl _) trivial rfl rfl rfl ?_
 refine ev ?_
 refine rn0 (r1 rfl) (.eqd ?_)
 all_goals (rfl)
theorem bits_Len64_fn {m : Int} (h0 : 0 ≤ m) (h12 : m ≤ 12) : FnD Tryz.prog 292 [.d (.int .u64 m)] [] .any [] := by
 have hu := u8_small h0 h12
 refine bd Tryz.f292 25 [4, 8, 14] [] fun w0 F0 own kept hk => ?_
 refine Walk.geI .none rfl rfl rfl ?_
 refine tv ?_
 refine sq (fun h1 h1p h1s => ?_) fun h1 h1p h1s => ?_
 ·try simp only [Q] at h1p
  exfalso; omega --stop
 ·try simp only [Q] at h1p
  refine Walk.geI .none rfl rfl rfl ?_
  refine tv ?_
  refine sq (fun h2 h2p h2s => ?_) fun h2 h2p h2s => ?_
  ·try simp only [Q] at h2p
   exfalso; omega --stop
  ·try simp only [Q] at h2p
   refine Walk.geI .none rfl rfl rfl ?_
   refine tv ?_
   refine sq (fun h3 h3p h3s => ?_) fun h3 h3p h3s => ?_
   ·try simp only [Q] at h3p
    exfalso; omega --stop
   ·try simp only [Q] at h3p
    refine Walk.conv (k' := .u8) (by kernel_rfl) (by kernel_rfl) .none rfl rfl ?_
    refine Walk.idxS (i := m.toNat) un9 .none rfl rfl rfl (by rw [hu]; omega) (List.getElem?_eq_getElem (by first | omega | (simp; omega))) ?_
    refine Walk.conv (by rw [un5]; rfl) un3 .none rfl rfl ?_
    refine evs [4, 8, 14] [] ?_
    refine ar ?_ (ar8 _)
    refine rn0 (r1 rfl) (.any _)
    all_goals (rfl)
theorem cal292 : Callee Tryz.prog 292 := ⟨fun args w => hasBody (fn := Tryz.f292) rfl rfl (by decide) args w⟩
theorem bits_Len_fn {m : Int} (h0 : 0 ≤ m) (h12 : m ≤ 12) : FnD Tryz.prog 245 [.d (.int .u64 m)] [] .any [] := by
 refine Fn.body (fn := Tryz.f245) (n := 8) rfl rfl rfl rfl rfl (fun w0 F0 own kept hk => ?_)
 refine sr ?_
 refine asg ?_
 refine tv ?_
 refine CWp.seq ?_
 refine CWp.condF ?_
 refine CWp.skip ?_
 refine sr ?_
 refine mv ?_
 refine Walk.call (cr := []) cal292 (bits_Len64_fn h0 h12) rfl .none rfl rfl (LeL.refl _) trivial rfl rfl rfl ?_
 refine asg ?_
 refine tv ?_
 refine CWp.ret ?_
 refine ⟨_, _, [], (.cons (.tmp rfl) .nil), (.any _), ⟨rfl, rfl⟩, HSub.nil, noBox⟩
 all_goals (rfl)
theorem slices_insertionSort_fn {L : List Bd} {f : Nat} (hn : L.length ≤ 12) (hcal : Callee Tryz.prog f) (hf : ∀ a b : Bd, FnD Tryz.prog f ([.agg (bdA a), .agg (bdA b)] ++ []) [] (.d (.i (cmpV a.var b.var))) []) :
  FnD Tryz.prog 283 [.ms 9 L.length, .d (.i 0), .d (.i L.length), .fn f []] [(9, some (.box (bdC L)))] (.tup []) [(9, some (.box (bdC (sortL (L.length - 1) 1 L))))] := by
 refine bd Tryz.f283 53 [26, 31, 46, 50] [] fun w0 F0 own kept hk => ?_
 refine ar ?_
 refine CWp.loopX (ι := Nat × List Bd) hk (fun x => [(8, .d (.i (x.1 : Int)))]) [9, 12, 13, 14, 15, 16, 17, 18, 19, 20, 21, 22, 23, 24, 25, 26, 27, 28, 29, 30, 31, 32, 33, 34, 35, 36, 37, 38, 39, 40, 41, 42, 43, 44, 45, 46, 47, 48, 49, 50, 51, 52] (fun x => [(9, some (.box (bdC x.2)))]) (fun x => 1 ≤ x.1 ∧ x.1 ≤ L.length + 1 ∧ x.2.length = L.length ∧ sortL (L.length - x.1) x.1 x.2 = sortL (L.length - 1) 1 L) (fun x => L.length - x.1) (1, L) ⟨by simp, by simp, rfl, rfl⟩ ⟨⟨_, rfl, (LeA.eqi (by first | rfl | omega | (dsimp only; omega)))⟩, trivial⟩ ⟨(by first | rfl | (show some (Res.box _) = some (Res.box _); rw [← hg2.2.2, sink_done (by first | (left; omega) | (right; rw [← cmpV_neg]; assumption))])), trivial⟩ (fun x => rfl) (fun x hg1 => ?_)
 refine evc [26, 31, 46, 50] [] ?_
 refine sq (fun h1 h1p h1s => ?_) fun h1 h1p h1s => ?_
 ·try simp only [Q] at h1p
  refine CWp.loopX (ι := Nat × List Bd) hk (fun y => [(9, .d (.i (y.1 : Int)))]) [18, 19, 20, 21, 22, 23, 24, 25, 26, 27, 28, 29, 30, 31, 32, 33, 34, 35, 36, 37, 38, 39, 40, 41, 42, 43, 44, 45, 46, 47, 48, 49, 50, 51, 52] (fun y => [(9, some (.box (bdC y.2)))]) (fun y => y.1 ≤ x.1 ∧ y.2.length = L.length ∧ sinkL y.1 y.2 = sinkL x.1 x.2) (fun y => y.1) (x.1, x.2) ⟨Nat.le_refl _, hg1.2.2.1, rfl⟩ ⟨⟨_, rfl, (LeA.eqi (by first | rfl | omega | (dsimp only; omega)))⟩, trivial⟩ ⟨(by first | rfl | (show some (Res.box _) = some (Res.box _); unfold swapL; rw [show y.1 - 1 + 1 = y.1 by omega])), trivial⟩ (fun x => rfl) (fun y hg2 => ?_)
  refine evc [26, 31, 46, 50] [] ?_
  refine sq (fun h2 h2p h2s => ?_) fun h2 h2p h2s => ?_
  ·try simp only [Q] at h2p
   refine Walk.idxM sl61 (.some rfl rfl h2) rfl rfl rfl rfl (by omega) ?_
   refine Walk.loadBA ty177 (.some rfl rfl h2) rfl rfl rfl ((cut_bd (by omega))) ?_
   refine evd [26, 31, 46, 50] [(21, true)] ?_ ⟨⟨_, rfl, h2⟩, trivial⟩
   refine ar ?_
   refine Walk.idxM (i := y.1 - 1) sl61 (.some rfl rfl h2) rfl rfl rfl (by omega) (by omega) ?_
   refine Walk.loadBA ty177 (.some rfl rfl h2) rfl rfl rfl ((cut_bd (by omega))) ?_
   refine Walk.callV (cr := []) hcal (hf _ _) rfl (.some rfl rfl h2) rfl rfl rfl (LeL.refl _) trivial rfl (by first | rfl | (simp only [okCall, List.all_cons, List.all_nil, entOK, entOK', AV.idsL, AV.ids, idsL_append, ownCells_ids, List.map_cons, List.map_nil, bdC_ids]; rfl)) (by first | rfl | (simp only [freshB, occH, occE, Res.ids, List.cons_append, List.nil_append, AV.idsL, AV.ids, idsL_append, ownCells_ids, zerosA_idsR, repNil, List.map_cons, List.map_nil, upC, bdC_ids]; rfl)) ?_
   refine evd [26, 31, 46, 50] [(21, true)] ?_ ⟨⟨_, rfl, h2⟩, trivial⟩
   refine dr ?_
   refine sq (fun h3 h3p h3s => ?_) fun h3 h3p h3s => ?_
   ·try simp only [Q] at h3p
    refine ar ?_
    refine ar ?_
    refine Walk.idxM (i := y.1 - 1) sl61 .none rfl rfl rfl (by omega) (by omega) ?_
    refine Walk.loadBA ty177 .none rfl rfl rfl ((cut_bd (by omega))) ?_
    refine evd [26, 31, 46, 50] [] ?_
    refine Walk.idxM sl61 .none rfl rfl rfl rfl (by omega) ?_
    refine Walk.loadBA ty177 .none rfl rfl rfl ((cut_bd (by omega))) ?_
    refine Walk.idxM sl61 .none rfl rfl rfl rfl (by omega) ?_
    refine Walk.store ty177 .none rfl rfl rfl rfl rfl rfl (by simp) ((put_bd (by first | omega | (simp; omega)))) ?_
    refine Walk.idxM (i := y.1 - 1) sl61 .none rfl rfl rfl (by omega) (by omega) ?_
    refine Walk.store ty177 .none rfl rfl rfl rfl rfl rfl (by simp) ((put_bd (by first | omega | (simp; omega)))) ?_
    refine dr ?_
    refine ar ?_
    refine Exists.intro ((y.1 - 1, swapL y.2 (y.1 - 1))) ⟨⟨by dsimp only; omega, by dsimp only; rw [swapL_len]; exact hg2.2.1, by have hlt : (nth y.2 (y.1 - 1 + 1)).var < (nth y.2 (y.1 - 1)).var := (by rw [show y.1 - 1 + 1 = y.1 by omega]; exact cmpV_neg.1 (by assumption)); have hk := sink_go hlt; rw [show y.1 - 1 + 1 = y.1 by omega] at hk; dsimp only; rw [← hk]; exact hg2.2.2⟩, (by dsimp only; omega), Sub.x (by kernel_rfl) (by kernel_rfl) ⟨⟨_, rfl, (LeA.eqi (by first | rfl | omega | (dsimp only; omega)))⟩, trivial⟩ (by kernel_rfl) (by kernel_rfl) ⟨(by first | rfl | (show some (Res.box _) = some (Res.box _); unfold swapL; rw [show y.1 - 1 + 1 = y.1 by omega])), trivial⟩⟩
   ·try simp only [Q] at h3p
    refine ar ?_
    refine Exists.intro ((x.1 + 1, sinkL x.1 x.2)) ⟨⟨by dsimp only; omega, by dsimp only; omega, by dsimp only; rw [sinkL_len]; exact hg1.2.2.1, by dsimp only; rw [← sortL_next (by omega)]; exact hg1.2.2.2⟩, (by dsimp only; omega), Sub.x (by kernel_rfl) (by kernel_rfl) ⟨⟨_, rfl, (LeA.eqi (by first | rfl | omega | (dsimp only; omega)))⟩, trivial⟩ (by kernel_rfl) (by kernel_rfl) ⟨(by first | rfl | (show some (Res.box _) = some (Res.box _); rw [← hg2.2.2, sink_done (by first | (left; omega) | (right; rw [← cmpV_neg]; assumption))])), trivial⟩⟩
  ·try simp only [Q] at h2p
   refine dr ?_
   refine sqF ?_
   refine ar ?_
   refine Exists.intro ((x.1 + 1, sinkL x.1 x.2)) ⟨⟨by dsimp only; omega, by dsimp only; omega, by dsimp only; rw [sinkL_len]; exact hg1.2.2.1, by dsimp only; rw [← sortL_next (by omega)]; exact hg1.2.2.2⟩, (by dsimp only; omega), Sub.x (by kernel_rfl) (by kernel_rfl) ⟨⟨_, rfl, (LeA.eqi (by first | rfl | omega | (dsimp only; omega)))⟩, trivial⟩ (by kernel_rfl) (by kernel_rfl) ⟨(by first | rfl | (show some (Res.box _) = some (Res.box _); rw [← hg2.2.2, sink_done (by first | (left; omega) | (right; rw [← cmpV_neg]; assumption))])), trivial⟩⟩
 ·try simp only [Q] at h1p
  refine rn [(9, some (.box (bdC (sortL (L.length - 1) 1 L))))] .nil (.refl _) ⟨rfl, rfl⟩ (SubO.get ⟨.inr (by show some (Res.box _) = some (Res.box _); rw [← hg1.2.2.2, sortL_end (by omega)]), ⟨.inl rfl, trivial⟩⟩) (boxOK rfl)
  all_goals (rfl)
theorem slices_insertionSort_nil {f : Nat} : FnD Tryz.prog 283 [.d (.sl []), .d (.i 0), .d (.i 0), .fn f []] [] (.tup []) [] := by
 refine bd Tryz.f283 53 [] [] fun w0 F0 own kept hk => ?_
 refine ar ?_
 refine CWp.loopX (ι := Unit) hk (fun u => [(8, .d (.i 1))]) [9, 12, 13, 14, 15, 16, 17, 18, 19, 20, 21, 22, 23, 24, 25, 26, 27, 28, 29, 30, 31, 32, 33, 34, 35, 36, 37, 38, 39, 40, 41, 42, 43, 44, 45, 46, 47, 48, 49, 50, 51, 52] (fun u => []) (fun u => True) (fun u => 0) () trivial ⟨⟨_, rfl, (LeA.eqi (by first | rfl | (simp; done) | (simp_all; done) | omega))⟩, trivial⟩ trivial (fun x => rfl) (fun u hg1 => ?_)
 refine evc [] [] ?_
 refine sq (fun h1 h1p h1s => ?_) fun h1 h1p h1s => ?_
 ·try simp only [Q] at h1p
  exfalso; simp at h1 --stop
 ·try simp only [Q] at h1p
  refine rn0 .nil (.refl _)
  all_goals (rfl)
theorem slices_pdqsort_fn {L : List Bd} {f : Nat} (hn : L.length ≤ 12) (hcal : Callee Tryz.prog f) (hf : ∀ a b : Bd, FnD Tryz.prog f ([.agg (bdA a), .agg (bdA b)] ++ []) [] (.d (.i (cmpV a.var b.var))) []) :
  FnD Tryz.prog 244 [.ms 9 L.length, .d (.i 0), .d (.i L.length), .any, .fn f []] [(9, some (.box (bdC L)))] (.tup []) [(9, some (.box (bdC (sortL (L.length - 1) 1 L))))] := by
 refine bd Tryz.f244 148 [] [] fun w0 F0 own kept hk => ?_
 refine CWp.loopX (ι := Unit) hk (fun u => [(1, .d (.i 0)), (2, .d (.i (L.length : Int)))]) [3, 10, 11, 12, 13, 14, 15, 16, 17, 18, 19, 20, 21, 22, 23, 24, 25, 26, 27, 28, 29, 30, 31, 32, 33, 34, 35, 36, 37, 38, 39, 40, 41, 42, 43, 44, 45, 46, 47, 48, 49, 50, 51, 52, 53, 54, 55, 56, 57, 58, 59, 60, 61, 62, 63, 64, 65, 66, 67, 68, 69, 70, 71, 72, 73, 74, 75, 76, 77, 78, 79, 80, 81, 82, 83, 84, 85, 86, 87, 88, 89, 90, 91, 92, 93, 94, 95, 96, 97, 98, 99, 100, 101, 102, 103, 104, 105, 106, 107, 108, 109, 110, 111, 112, 113, 114, 115, 116, 117, 118, 119, 120, 121, 122, 123, 124, 125, 126, 127, 128, 129, 130, 131, 132, 133, 134, 135, 136, 137, 138, 139, 140, 141, 142, 143, 144, 145, 146, 147] (fun u => [(9, some (.box (bdC L)))]) (fun u => True) (fun u => 0) () trivial ⟨⟨_, rfl, (LeA.eqi (by first | rfl | (simp; done) | (simp_all; done) | omega))⟩, ⟨⟨_, rfl, (LeA.eqi (by first | rfl | (simp; done) | (simp_all; done) | omega))⟩, trivial⟩⟩ ⟨(by first | rfl | (simp [getH]; done)), trivial⟩ (fun x => rfl) (fun u hg1 => ?_)
 refine evc [] [] ?_
 refine ar ?_
 refine sq (fun h1 h1p h1s => ?_) fun h1 h1p h1s => ?_
 ·try simp only [Q] at h1p
  refine Walk.call (cr := []) cal283 (slices_insertionSort_fn hn hcal hf) rfl .none rfl rfl (.cons (LeA.msn (by first | rfl | (simp; done))) (.cons (.refl _) (.cons (.refl _) (.cons (.refl _) .nil)))) ⟨rfl, trivial⟩ rfl okCall_bd rfl ?_
  refine tv ?_
  refine rn [(9, some (.box (bdC (sortL (L.length - 1) 1 L))))] .nil (.refl _) ⟨rfl, rfl⟩ (SubO.get ⟨.inr (by rfl), ⟨.inl rfl, trivial⟩⟩) (boxOK rfl)
  all_goals (rfl)
 ·try simp only [Q] at h1p
  exfalso; omega --stop
theorem slices_pdqsort_nil {f : Nat} : FnD Tryz.prog 244 [.d (.sl []), .d (.i 0), .d (.i 0), .any, .fn f []] [] (.tup []) [] := by
 refine bd Tryz.f244 148 [] [] fun w0 F0 own kept hk => ?_
 refine CWp.loopX (ι := Unit) hk (fun u => [(1, .d (.i 0)), (2, .d (.i 0))]) [3, 10, 11, 12, 13, 14, 15, 16, 17, 18, 19, 20, 21, 22, 23, 24, 25, 26, 27, 28, 29, 30, 31, 32, 33, 34, 35, 36, 37, 38, 39, 40, 41, 42, 43, 44, 45, 46, 47, 48, 49, 50, 51, 52, 53, 54, 55, 56, 57, 58, 59, 60, 61, 62, 63, 64, 65, 66, 67, 68, 69, 70, 71, 72, 73, 74, 75, 76, 77, 78, 79, 80, 81, 82, 83, 84, 85, 86, 87, 88, 89, 90, 91, 92, 93, 94, 95, 96, 97, 98, 99, 100, 101, 102, 103, 104, 105, 106, 107, 108, 109, 110, 111, 112, 113, 114, 115, 116, 117, 118, 119, 120, 121, 122, 123, 124, 125, 126, 127, 128, 129, 130, 131, 132, 133, 134, 135, 136, 137, 138, 139, 140, 141, 142, 143, 144, 145, 146, 147] (fun u => []) (fun u => True) (fun u => 0) () trivial ⟨⟨_, rfl, (LeA.eqi (by first | rfl | (simp; done) | (simp_all; done) | omega))⟩, ⟨⟨_, rfl, (LeA.eqi (by first | rfl | (simp; done) | (simp_all; done) | omega))⟩, trivial⟩⟩ trivial (fun x => rfl) (fun u hg1 => ?_)
 refine evc [] [] ?_
 refine ar ?_
 refine sq (fun h1 h1p h1s => ?_) fun h1 h1p h1s => ?_
 ·try simp only [Q] at h1p
  refine Walk.call (cr := []) cal283 (slices_insertionSort_nil) rfl .none rfl rfl (LeL.refl _) trivial rfl rfl rfl ?_
  refine tv ?_
  refine rn0 .nil (.refl _)
  all_goals (rfl)
 ·try simp only [Q] at h1p
  exfalso; simp at h1 --stop
theorem slices_SortFunc_fn {L : List Bd} {f : Nat} (hn : L.length ≤ 12) (hcal : Callee Tryz.prog f) (hf : ∀ a b : Bd, FnD Tryz.prog f ([.agg (bdA a), .agg (bdA b)] ++ []) [] (.d (.i (cmpV a.var b.var))) []) :
  FnD Tryz.prog 182 [.ms 9 L.length, .fn f []] [(9, some (.box (bdC L)))] (.tup []) [(9, some (.box (bdC (sortL (L.length - 1) 1 L))))] := by
 have hu := u64_small (n := (L.length : Int)) (by omega) (by omega)
 refine bd Tryz.f182 14 [] [] fun w0 F0 own kept hk => ?_
 refine Walk.conv (k' := .u64) (by kernel_rfl) (by kernel_rfl) .none rfl rfl ?_
 refine Walk.call (cr := []) cal245 (bits_Len_fn (by rw [hu]; omega) (by rw [hu]; omega)) rfl .none rfl rfl (LeL.refl _) trivial rfl (by first | rfl | (simp only [okCall, List.all_cons, List.all_nil, entOK, entOK', AV.idsL, AV.ids, idsL_append, ownCells_ids, List.map_cons, List.map_nil, bdC_ids]; rfl)) (by first | rfl | (simp only [freshB, occH, occE, Res.ids, List.cons_append, List.nil_append, AV.idsL, AV.ids, idsL_append, ownCells_ids, zerosA_idsR, repNil, List.map_cons, List.map_nil, upC, bdC_ids]; rfl)) ?_
 refine ev ?_
 refine Walk.call (cr := []) cal244 (slices_pdqsort_fn hn hcal hf) rfl .none rfl rfl (.cons (LeA.msn (by first | rfl | (simp; done))) (.cons (.refl _) (.cons (.refl _) (.cons (.refl _) (.cons (.refl _) .nil))))) ⟨rfl, trivial⟩ rfl okCall_bd rfl ?_
 refine tv ?_
 refine rn [(9, some (.box (bdC (sortL (L.length - 1) 1 L))))] .nil (.refl _) ⟨rfl, rfl⟩ (SubO.get ⟨.inr (by rfl), ⟨.inl rfl, trivial⟩⟩) (boxOK rfl)
 all_goals (rfl)
theorem slices_SortFunc_nil {f : Nat} : FnD Tryz.prog 182 [.d (.sl []), .fn f []] [] (.tup []) [] := by
 refine bd Tryz.f182 14 [] [] fun w0 F0 own kept hk => ?_
 refine Walk.conv (k' := .u64) (by kernel_rfl) (by kernel_rfl) .none rfl rfl ?_
 refine Walk.call (cr := []) cal245 (bits_Len_fn (m := IntKind.u64.wrap 0) (by decide) (by decide)) rfl .none rfl rfl (LeL.refl _) trivial rfl rfl rfl ?_
 refine ev ?_
 refine Walk.call (cr := []) cal244 (slices_pdqsort_nil) rfl .none rfl rfl (LeL.refl _) trivial rfl rfl rfl ?_
 refine tv ?_
 refine rn0 .nil (.refl _)
 all_goals (rfl)
theorem swapL_perm {L : List Bd} {j : Nat} (h : j + 1 < L.length) : (swapL L j).Perm L := by
 have e : L = L.take j ++ nth L j :: nth L (j + 1) :: L.drop (j + 2) := by
  have h1 : L.drop j = nth L j :: L.drop (j + 1) := drop_nth (by omega)
  have h2 : L.drop (j + 1) = nth L (j + 1) :: L.drop (j + 2) := drop_nth (by omega)
  conv => lhs; rw [← List.take_append_drop j L, h1, h2]
 have hl : (L.take j).length = j := by rw [List.length_take]; omega
 generalize nth L j = x at e
 generalize nth L (j + 1) = y at e
 generalize L.take j = A at *
 generalize L.drop (j + 2) = B at *
 subst e
 have n1 : nth (A ++ x :: y :: B) j = x := by rw [← hl]; simp [nth, List.getD]
 have n2 : nth (A ++ x :: y :: B) (j + 1) = y := by rw [← hl]; simp [nth, List.getD]
 unfold swapL
 rw [n1, n2]
 have s1 : ((A ++ x :: y :: B).set (j + 1) x).set j y = A ++ y :: x :: B := by
  rw [← hl]; simp
 rw [s1]
 exact (List.Perm.swap x y B).append_left A
theorem sinkL_perm : ∀ (j : Nat) (L : List Bd), j < L.length → (sinkL j L).Perm L
 | 0, L, _ => List.Perm.refl _
 | j + 1, L, h => by
  unfold sinkL; split
  ·exact (sinkL_perm j (swapL L j) (by rw [swapL_len]; omega)).trans (swapL_perm h)
  ·exact List.Perm.refl _
theorem sortL_perm : ∀ (k i : Nat) (L : List Bd), i + k ≤ L.length → (sortL k i L).Perm L
 | 0, _, _, _ => List.Perm.refl _
 | k + 1, i, L, h => by
  unfold sortL
  exact (sortL_perm k (i + 1) (sinkL i L) (by rw [sinkL_len]; omega)).trans (sinkL_perm i L (by omega))
def sortB (L : List Bd) : List Bd := sortL (L.length - 1) 1 L
theorem sortB_perm (L : List Bd) : (sortB L).Perm L := by
 cases L with
 | nil => exact List.Perm.refl _
 | cons x r => exact sortL_perm _ _ _ (by simp; omega)
theorem sortB_len (L : List Bd) : (sortB L).length = L.length := (sortB_perm L).length_eq
theorem sortB_ok {m : Nat} {L : List Bd} (h : BdOk m L) : BdOk m (sortB L) := fun x hx => h x ((sortB_perm L).mem_iff.1 hx)
def matchedV (n : Nat) (p : Pat) (v : Val) : List Bd × Bool := if (matchV n p v).2 = true then (sortB (matchV n p v).1, true) else ([], false)
theorem matchedV_ok (n : Nat) (p : Pat) (v : Val) : (matchedV n p v).2 = (matchV n p v).2 := by
 unfold matchedV; split <;> simp_all
structure MatchOk (w : List Data) (n m : Nat) (t : Ty) (p : Pat) (v : Val) : Prop where
 shape : shapeP w n t p = true
 fits : fitsV w m t v = true
 pok : p.ok
 vok : v.ok
 psz : p.size ≤ 100
 vsz : v.size ≤ 100
theorem MatchOk.kid {w : List Data} {n m : Nat} {t : Ty} {p : Pat} {v : Val} (h : MatchOk w (n + 1) m t p v) (h4 : p.op = 4) (hc : p.ctor = v.ctor) :
  p.kids.length = v.kids.length ∧ ∃ k, ∀ i, i < p.kids.length → MatchOk w n k (nth (typesP w t p) i) (nth p.kids i) (nth v.kids i) := by
 obtain ⟨ho, hlen⟩ := shapeP_own h.shape
 have hct := ownP_mem ho h4
 have hdt : t.data ≠ -1 := fun e => by unfold vctors at hct; rw [if_pos e] at hct; simp at hct
 have hk := fun i (hi : i < p.kids.length) => shapeP_kid h.shape hi
 have hpk := (Pat.ok_iff p).1 h.pok
 have hvk := (Val.ok_iff v).1 h.vok
 have hps := Pat.size_eq p
 have hvs := Val.size_eq v
 cases m with
 | zero => have := h.fits; simp [fitsV] at this
 | succ m =>
  obtain ⟨f1, f2, f3⟩ := fits_ctor h.fits hdt
  have ht4 := types4 (w := w) (t := t) h4
  rw [ht4] at hlen
  rw [← hc] at f2 f3
  refine ⟨by omega, m, fun i hi => ?_⟩
  have z1 := pnth_size (l := p.kids) hi
  have z2 := nth_size (l := v.kids) (i := i) (by omega)
  refine ⟨hk i hi, by rw [ht4]; exact f3 i (by omega), Pats.ok_mem hpk.2 _ (nth_mem hi), Vals.ok_mem hvk.2 _ (nth_mem (by omega)), ?_, ?_⟩
  ·have := h.psz; omega
  ·have := h.vsz; omega
theorem MatchOk.two {w : List Data} {n m : Nat} {t : Ty} {p : Pat} {v : Val} (h : MatchOk w (n + 1) m t p v) (h5 : p.op = 5) :
  p.kids.length = 2 ∧ MatchOk w n m t (nth p.kids 0) v ∧ MatchOk w n m t (nth p.kids 1) v := by
 obtain ⟨hl, s0, s1⟩ := shape_two h.shape h5
 have hpk := (Pat.ok_iff p).1 h.pok
 have hps := Pat.size_eq p
 have z0 := pnth_size (l := p.kids) (i := 0) (by omega)
 have z1 := pnth_size (l := p.kids) (i := 1) (by omega)
 have hs := h.psz
 exact ⟨hl, ⟨s0, h.fits, Pats.ok_mem hpk.2 _ (nth_mem (by omega)), h.vok, by omega, h.vsz⟩, ⟨s1, h.fits, Pats.ok_mem hpk.2 _ (nth_mem (by omega)), h.vok, by omega, h.vsz⟩⟩
theorem MatchOk.one {w : List Data} {n m : Nat} {t : Ty} {p : Pat} {v : Val} (h : MatchOk w (n + 1) m t p v) (h6 : p.op = 6) :
  p.kids.length = 1 ∧ MatchOk w n m t (nth p.kids 0) v := by
 obtain ⟨hl, s0⟩ := shape_one h.shape h6
 have hpk := (Pat.ok_iff p).1 h.pok
 have hps := Pat.size_eq p
 have z0 := pnth_size (l := p.kids) (i := 0) (by omega)
 have hs := h.psz
 exact ⟨hl, ⟨s0, h.fits, Pats.ok_mem hpk.2 _ (nth_mem (by omega)), h.vok, by omega, h.vsz⟩⟩
theorem bd_rows (l : List Bd) : ∀ x ∈ l.map Bd.c, x.length = 4 := fun x hx => by
 obtain ⟨y, _, rfl⟩ := List.mem_map.1 hx; rfl
theorem impl_match_fn {w : List Data} : ∀ (n m : Nat) {t : Ty} {p : Pat} {v : Val}, MatchOk w n m t p v →
  FnD Tryz.prog 181 [.agg [.d (.i p.op), .d (.i p.ctor), .d (.i p.n), .d (.i p.m), .d (.i p.var), .d (encPats p.kids)], .agg [.d (.i v.ctor), .d (.i v.num), .d (encVals v.kids)]] [] (.tup [.d (encBds (matchV n p v).1), .d (.bool (matchV n p v).2)]) []
 | 0, m, t, p, v, h => by have := h.shape; simp [shapeP] at this
 | n + 1, m, t, p, v, h => by
  have hop := shape_op h.shape
  have k4 := h.kid
  have k5 := h.two
  have k6 := h.one
  have hsz := h.psz
  have hps := Pat.size_eq p
  have hkl := ((Pat.ok_iff p).1 h.pok).1
  have mok := fun {t : Ty} {q : Pat} {u : Val} (hs : shapeP w n t q = true) (hu : u.ok) => matchV_ok n hs hu
  by_cases c4 : p.op = 4 ∧ p.ctor = v.ctor
  ·obtain ⟨hl, k, hkm⟩ := k4 c4.1 c4.2
   have hm4 := match_4 (n := n) c4.1 c4.2
   refine bd Tryz.f181 105 [10] [] fun w0 F0 own kept hk => ?_
   refine Walk.box (id := 3002) .none rfl rfl rfl rfl rfl rfl rfl ?_
   refine Walk.box (id := 3003) .none rfl rfl rfl rfl rfl rfl rfl ?_
   refine evs [10] [] ?_
   refine sq (fun h1 h1p h1s => ?_) fun h1 h1p h1s => ?_
   ·try simp only [Q, Pat.cs_len] at h1p
    exfalso; omega --stop
   ·try simp only [Q, Pat.cs_len] at h1p
    refine sq (fun h2 h2p h2s => ?_) fun h2 h2p h2s => ?_
    ·try simp only [Q, Pat.cs_len] at h2p
     exfalso; omega --stop
    ·try simp only [Q, Pat.cs_len] at h2p
     refine sq (fun h3 h3p h3s => ?_) fun h3 h3p h3s => ?_
     ·try simp only [Q, Pat.cs_len] at h3p
      exfalso; omega --stop
     ·try simp only [Q, Pat.cs_len] at h3p
      refine sq (fun h4 h4p h4s => ?_) fun h4 h4p h4s => ?_
      ·try simp only [Q, Pat.cs_len] at h4p
       exfalso; omega --stop
      ·try simp only [Q, Pat.cs_len] at h4p
       refine sq (fun h5 h5p h5s => ?_) fun h5 h5p h5s => ?_
       ·try simp only [Q, Pat.cs_len] at h5p
        exfalso; omega --stop
       ·try simp only [Q, Pat.cs_len] at h5p
        refine sq (fun h6 h6p h6s => ?_) fun h6 h6p h6s => ?_
        ·try simp only [Q, Pat.cs_len] at h6p
         exfalso; omega --stop
        ·try simp only [Q, Pat.cs_len] at h6p
         refine Walk.assignNil 1 4 .none rfl rfl ?_
         refine tv ?_
         refine CWp.loopX (ι := Nat × List Bd) hk (fun x => [(83, .d (.i (x.1 : Int))), (10, .gl 1 (x.2.map Bd.c))]) [4, 5, 11, 12, 13, 14, 84, 85, 86, 87, 88, 89, 90, 91, 92, 93, 94, 95, 96, 97, 98, 99, 100, 101, 102, 103] (fun x => [(1, some (.tok ((x.2.map Bd.c)).length 4))]) (fun x => x.1 ≤ p.kids.length ∧ matchL (matchV n) (p.kids.drop x.1) (v.kids.drop x.1) x.2 = matchL (matchV n) p.kids v.kids [] ∧ x.2.length + Pats.size (p.kids.drop x.1) ≤ Pats.size p.kids) (fun x => p.kids.length - x.1) (0, []) ⟨by simp, rfl, by simp⟩ ⟨⟨_, rfl, (LeA.eqi (by first | rfl | omega | (simp; done)))⟩, ⟨⟨_, rfl, (LeA.glg (by first | rfl | omega | (simp; done)))⟩, trivial⟩⟩ ⟨beq_nat_eq (by rfl), trivial⟩ (fun x => rfl) (fun x hg1 => ?_)
         refine evc [10] [] ?_
         refine sq (fun h7 h7p h7s => ?_) fun h7 h7p h7s => ?_
         ·try simp only [Q, Pat.cs_len] at h7p
          refine Walk.idx sl49 .none rfl rfl rfl rfl (pats_at (by omega)) rfl ?_
          refine evs [10] [] ?_
          refine Walk.alloc (id := 3012) tz51 rfl .none rfl rfl rfl rfl ?_
          refine evs [10] [] ?_
          refine Walk.store ty51 .none rfl rfl rfl rfl rfl rfl (by simp) rfl ?_
          refine tv ?_
          refine Walk.idx sl58 .none rfl rfl rfl rfl (vals_at (by omega)) rfl ?_
          refine evd [10] [] ?_
          refine Walk.call (cr := []) cal181 (impl_match_fn n k (hkm x.1 (by omega))) rfl .none rfl rfl (LeL.refl _) trivial rfl rfl rfl ?_
          refine evd [10] [] ?_
          refine dr ?_
          refine sq (fun h8 h8p h8s => ?_) fun h8 h8p h8s => ?_
          ·try simp only [Q, Pat.cs_len] at h8p
           refine rn0 (r2 rfl rfl) (.tup (.cons (.nild ?_) (.cons (.eqd ?_) .nil)))
           all_goals ((rw [hm4, ← hg1.2.1, matchL_bad (by omega) (by omega) (by simp_all)]; all_goals rfl))
          ·try simp only [Q, Pat.cs_len] at h8p
           refine Walk.append sl61 zz177 rfl .none rfl rfl rfl rfl (htokL rfl (by first | rfl | (simp; done) | (simp; omega))) (by intro x hx; exact bd_rows _ x hx) (by have := (mok (hkm x.1 (by omega)).shape (hkm x.1 (by omega)).vok).2; have := psize_drop (l := p.kids) (i := x.1) (by omega); have := hg1.2.2; simp; omega) (by have := (mok (hkm x.1 (by omega)).shape (hkm x.1 (by omega)).vok).2; have := psize_drop (l := p.kids) (i := x.1) (by omega); have := hg1.2.2; simp; omega) ?_
           refine asg ?_
           refine tv ?_
           refine ar ?_
           refine Exists.intro ((x.1 + 1, x.2 ++ (matchV n (nth p.kids x.1) (nth v.kids x.1)).1)) ⟨⟨by dsimp only; omega, by dsimp only; rw [← matchL_next (by omega) (by omega) (by simp_all)]; exact hg1.2.1, by have := (mok (hkm x.1 (by omega)).shape (hkm x.1 (by omega)).vok).2; have := psize_drop (l := p.kids) (i := x.1) (by omega); have := hg1.2.2; dsimp only; rw [List.length_append]; omega⟩, (by dsimp only; omega), Sub.x (by kernel_rfl) (by kernel_rfl) ⟨⟨_, rfl, (LeA.eqi (by first | rfl | omega | (simp; done)))⟩, ⟨⟨_, rfl, (LeA.glg (by first | rfl | omega | (simp; done)))⟩, trivial⟩⟩ (by kernel_rfl) (by kernel_rfl) ⟨beq_nat_eq (by (simp; done)), trivial⟩⟩
         ·try simp only [Q, Pat.cs_len] at h7p
          refine rn0 (r2 rfl rfl) (.tup (.cons (.gld ?_) (.cons (.eqd ?_) .nil)))
          all_goals ((rw [hm4, ← hg1.2.1, matchL_end (by omega)]; all_goals rfl))
  ·have hn4 : p.op = 4 → matchV (n + 1) p v = ([], false) := fun h4 => match_4n h4 (fun hc => c4 ⟨h4, hc⟩)
   refine bd Tryz.f181 105 [] [] fun w0 F0 own kept hk => ?_
   refine Walk.box (id := 3002) .none rfl rfl rfl rfl rfl rfl rfl ?_
   refine Walk.box (id := 3003) .none rfl rfl rfl rfl rfl rfl rfl ?_
   refine ev ?_
   refine sq (fun h1 h1p h1s => ?_) fun h1 h1p h1s => ?_
   ·try simp only [Q, Pat.cs_len] at h1p
    refine rn0 (r2 rfl rfl) (.tup (.cons (.nild ?_) (.cons (.eqd ?_) .nil)))
    all_goals ((rw [match_1 (by omega)]; all_goals rfl))
   ·try simp only [Q, Pat.cs_len] at h1p
    refine sq (fun h2 h2p h2s => ?_) fun h2 h2p h2s => ?_
    ·try simp only [Q, Pat.cs_len] at h2p
     refine Walk.build st177 (ks := [0, 1]) (xs := [_, _]) rfl rfl .none rfl rfl rfl ?_
     refine Walk.sliceLit sl61 tz177 rfl (by decide) (ks := [0]) (xs := [_]) rfl rfl (by decide) (by decide) .none rfl rfl rfl rfl ?_
     refine ev ?_
     refine rn0 (r2 rfl rfl) (.tup (.cons (.eqd ?_) (.cons (.eqd ?_) .nil)))
     all_goals ((rw [match_2 (by omega)]; all_goals rfl))
    ·try simp only [Q, Pat.cs_len] at h2p
     refine sq (fun h3 h3p h3s => ?_) fun h3 h3p h3s => ?_
     ·try simp only [Q, Pat.cs_len] at h3p
      refine Walk.call (cr := []) cal87 (impl_within_fn) rfl .none rfl rfl (LeL.refl _) trivial rfl rfl rfl ?_
      refine ev ?_
      refine rn0 (r2 rfl rfl) (.tup (.cons (.nild ?_) (.cons (.eqd ?_) .nil)))
      all_goals ((rw [match_3 (by omega)]; all_goals rfl))
     ·try simp only [Q, Pat.cs_len] at h3p
      refine sq (fun h4 h4p h4s => ?_) fun h4 h4p h4s => ?_
      ·try simp only [Q, Pat.cs_len] at h4p
       refine Walk.idx (i := 0) sl49 .none rfl rfl rfl rfl (pats_at (by (have := (k5 (by omega)).1; omega))) rfl ?_
       refine evd [] [] ?_
       refine Walk.call (cr := []) cal181 (impl_match_fn n m (k5 (by omega)).2.1) rfl .none rfl rfl (LeL.refl _) trivial rfl rfl rfl ?_
       refine evd [] [] ?_
       refine dr ?_
       refine sq (fun h5 h5p h5s => ?_) fun h5 h5p h5s => ?_
       ·try simp only [Q, Pat.cs_len] at h5p
        refine rn0 (r2 rfl rfl) (.tup (.cons (.eqd ?_) (.cons (.eqd ?_) .nil)))
        all_goals ((rw [match_5a (by omega) (by assumption)]; all_goals rfl))
       ·try simp only [Q, Pat.cs_len] at h5p
        refine Walk.idx (i := 1) sl49 .none rfl rfl rfl rfl (pats_at (by (have := (k5 (by omega)).1; omega))) rfl ?_
        refine evd [] [] ?_
        refine Walk.call (cr := []) cal181 (impl_match_fn n m (k5 (by omega)).2.2) rfl .none rfl rfl (LeL.refl _) trivial rfl rfl rfl ?_
        refine evd [] [] ?_
        refine dr ?_
        refine rn0 (r2 rfl rfl) (.tup (.cons (.eqd ?_) (.cons (.eqd ?_) .nil)))
        all_goals ((rw [match_5b (by omega) (by simp_all)]; all_goals rfl))
      ·try simp only [Q, Pat.cs_len] at h4p
       refine sq (fun h6 h6p h6s => ?_) fun h6 h6p h6s => ?_
       ·try simp only [Q, Pat.cs_len] at h6p
        refine Walk.idx (i := 0) sl49 .none rfl rfl rfl rfl (pats_at (by (have := (k6 (by omega)).1; omega))) rfl ?_
        refine evd [] [] ?_
        refine Walk.call (cr := []) cal181 (impl_match_fn n m (k6 (by omega)).2) rfl .none rfl rfl (LeL.refl _) trivial rfl rfl rfl ?_
        refine evd [] [] ?_
        refine dr ?_
        refine Walk.build st177 (ks := [0, 1]) (xs := [_, _]) rfl rfl .none rfl rfl rfl ?_
        refine Walk.sliceLitG 2 sl61 tz177 rfl (by decide) (ks := [0]) (xs := [_]) rfl rfl (by decide) (by decide) .none rfl rfl rfl rfl rfl ?_
        refine ev ?_
        refine Walk.append sl61 zz177 rfl .none rfl rfl rfl rfl (htokL rfl (by first | rfl | (simp; done) | (simp; omega))) (by intro x hx; exact bd_rows _ x hx) (by have := (mok (k6 (by omega)).2.shape h.vok).2; have := pnth_size (l := p.kids) (i := 0) (by have := (k6 (by omega)).1; omega); simp; omega) (by have := (mok (k6 (by omega)).2.shape h.vok).2; have := pnth_size (l := p.kids) (i := 0) (by have := (k6 (by omega)).1; omega); simp; omega) ?_
        refine ev ?_
        refine rn0 (r2 rfl rfl) (.tup (.cons (.gld ?_) (.cons (.eqd ?_) .nil)))
        all_goals ((rw [match_6 (by omega)]; all_goals rfl))
       ·try simp only [Q, Pat.cs_len] at h6p
        refine sq (fun h7 h7p h7s => ?_) fun h7 h7p h7s => ?_
        ·try simp only [Q, Pat.cs_len] at h7p
         refine rn0 (r2 rfl rfl) (.tup (.cons (.nild ?_) (.cons (.eqd ?_) .nil)))
         all_goals ((rw [hn4 (by omega)]; all_goals rfl))
        ·try simp only [Q, Pat.cs_len] at h7p
         exfalso; apply c4; omega --stop
structure VarsOk (l : List Bd) (vs : List Vt) : Prop where
 len : l.length = vs.length
 nod : (l.map Bd.var).Nodup
 sub : ∀ x ∈ l.map Bd.var, x ∈ vs.map Vt.var
theorem matchL_vars {f : Pat → Val → List Bd × Bool} {g : Ty → Pat → List Vt} : ∀ {a : List Ty} {b : List Pat} {c : List Val} {acc : List Bd}, a.length = b.length → b.length = c.length →
  (∀ i, i < b.length → (f (nth b i) (nth c i)).2 = true → nodupV (g (nth a i) (nth b i)) = true → VarsOk (f (nth b i) (nth c i)).1 (g (nth a i) (nth b i))) → ((varsL g a b).map Vt.var).Nodup →
  (matchL f b c acc).2 = true → ∃ X, (matchL f b c acc).1 = acc ++ X ∧ VarsOk X (varsL g a b)
 | [], [], [], acc, _, _, _, _, _ => ⟨[], by simp [matchL], ⟨rfl, by simp, by simp⟩⟩
 | t :: a, p :: b, v :: c, acc, h1, h2, h3, h4, h5 => by
  unfold matchL at h5 ⊢
  split at h5
  ·rename_i hok
   rw [if_pos hok]
   simp only [varsL, List.map_append] at h4 ⊢
   obtain ⟨n1, n2, n3⟩ := List.nodup_append.1 h4
   have k0 := h3 0 (by simp) hok (decide_eq_true n1)
   obtain ⟨X, e, k⟩ := matchL_vars (f := f) (g := g) (a := a) (b := b) (c := c) (acc := acc ++ (f p v).1) (by simpa using h1) (by simpa using h2) (fun i hi => h3 (i + 1) (by simpa using hi)) n2 h5
   refine ⟨(f p v).1 ++ X, by rw [e, List.append_assoc], ⟨?_, ?_, ?_⟩⟩
   ·have := k0.len
    have e0 : (f p v).1.length = (g t p).length := this
    rw [List.length_append, List.length_append, e0, k.len]
   ·rw [List.map_append]
    exact List.nodup_append.2 ⟨k0.nod, k.nod, fun x hx y hy => n3 x (k0.sub x hx) y (k.sub y hy)⟩
   ·intro x hx
    rw [List.map_append] at hx ⊢
    rcases List.mem_append.1 hx with h | h
    ·exact List.mem_append_left _ (k0.sub x h)
    ·exact List.mem_append_right _ (k.sub x h)
  ·exact absurd h5 (by simp)
 | [], _ :: _, _, _, h, _, _, _, _ => by simp at h
 | _ :: _, [], _, _, h, _, _, _, _ => by simp at h
 | [], [], _ :: _, _, _, h, _, _, _ => by simp at h
 | _ :: _, _ :: _, [], _, _, h, _, _, _ => by simp at h
theorem alike_sub {a b : List Vt} (ha : nodupV a = true) (hb : nodupV b = true) (h : alikeV a b = true) : a.length = b.length ∧ ∀ x ∈ b.map Vt.var, x ∈ a.map Vt.var := by
 rw [alike_same hb] at h
 unfold sameV2 at h
 simp only [Bool.and_eq_true, decide_eq_true_eq, Bool.not_eq_true', List.any_eq_false, Bool.not_eq_true, decide_eq_false_iff_not, Classical.not_not] at h
 have na := of_decide_eq_true ha
 refine ⟨h.1, fun x hx => ?_⟩
 by_cases hm : x ∈ a.map Vt.var
 ·exact hm
 ·have := nodup_sub (a := x :: a.map Vt.var) (b := b.map Vt.var) (List.nodup_cons.2 ⟨hm, na⟩) (fun y hy => by
   rcases List.mem_cons.1 hy with rfl | hy
   ·exact hx
   ·obtain ⟨z, hz, rfl⟩ := List.mem_map.1 hy
    exact List.mem_map.2 ⟨z, h.2 z hz, rfl⟩)
  simp only [List.length_cons, List.length_map] at this
  omega
theorem match_vars {w : List Data} : ∀ (n m : Nat) {t : Ty} {p : Pat} {v : Val}, MatchOk w n m t p v → linP w n t p = true → (matchV n p v).2 = true → VarsOk (matchV n p v).1 (varsP w n t p)
 | 0, m, t, p, v, h, _, _ => by have := h.shape; simp [shapeP] at this
 | n + 1, m, t, p, v, h, hl, hm => by
  have hop := shape_op h.shape
  have hnod := of_decide_eq_true (lin_nodup w (n + 1) t p h.shape hl)
  by_cases h5 : p.op = 5
  ·obtain ⟨hk, k0, k1⟩ := h.two h5
   have e1 := types5 (w := w) (t := t) h5
   obtain ⟨x, y, hxy⟩ : ∃ x y, p.kids = [x, y] := by
    match hp : p.kids, hk with
    | [x, y], _ => exact ⟨x, y, rfl⟩
   have ex : nth p.kids 0 = x := by rw [hxy]; rfl
   have ey : nth p.kids 1 = y := by rw [hxy]; rfl
   simp only [linP, Bool.and_eq_true, if_pos h5, e1, hxy] at hl
   rw [ex] at k0
   rw [ey] at k1
   have e2 : varsP w (n + 1) t p = varsP w n t x := by
    simp only [varsP, nameP, vtypes, e1, hxy, if_pos h5]
    rw [if_neg (by omega)]
    simp [varsL]
   simp only [all2, Bool.and_eq_true, and_true] at hl
   rw [e2]
   cases hm0 : (matchV n (nth p.kids 0) v).2 with
   | true =>
    rw [match_5a h5 hm0]
    rw [ex] at hm0 ⊢
    exact match_vars n m k0 hl.1.1 hm0
   | false =>
    rw [match_5b h5 hm0] at hm ⊢
    rw [ey] at hm ⊢
    have k := match_vars n m k1 hl.1.2 hm
    obtain ⟨s1, s2⟩ := alike_sub (lin_nodup w n t x k0.shape hl.1.1) (lin_nodup w n t y k1.shape hl.1.2) hl.2
    exact ⟨by rw [k.len]; exact s1.symm, k.nod, fun z hz => s2 z (k.sub z hz)⟩
  have hv : vtypes w t p = typesP w t p := by unfold vtypes; rw [if_neg h5]
  by_cases h1 : p.op = 1
  ·rw [match_1 h1]
   have : varsP w (n + 1) t p = [] := by
    simp only [varsP, nameP, hv]
    rw [if_neg (by omega)]
    unfold typesP; rw [if_neg (by omega), if_neg (by omega), if_neg (by omega)]; simp [varsL]
   rw [this]; exact ⟨rfl, by simp, by simp⟩
  by_cases h2 : p.op = 2
  ·rw [match_2 h2]
   have : varsP w (n + 1) t p = [⟨p.var, t⟩] := by
    simp only [varsP, nameP, hv]
    rw [if_pos (by omega)]
    unfold typesP; rw [if_neg (by omega), if_neg (by omega), if_neg (by omega)]; simp [varsL]
   rw [this]; exact ⟨rfl, by simp, by simp⟩
  by_cases h3 : p.op = 3
  ·rw [match_3 h3]
   have : varsP w (n + 1) t p = [] := by
    simp only [varsP, nameP, hv]
    rw [if_neg (by omega)]
    unfold typesP; rw [if_neg (by omega), if_neg (by omega), if_neg (by omega)]; simp [varsL]
   rw [this]; exact ⟨rfl, by simp, by simp⟩
  simp only [linP, if_neg h5, Bool.and_eq_true] at hl
  by_cases h6 : p.op = 6
  ·obtain ⟨hk, k0⟩ := h.one h6
   have e1 := types6 (w := w) (t := t) h6
   obtain ⟨x, hx⟩ : ∃ x, p.kids = [x] := by
    match hp : p.kids, hk with
    | [x], _ => exact ⟨x, rfl⟩
   have ex : nth p.kids 0 = x := by rw [hx]; rfl
   have e2 : varsP w (n + 1) t p = ⟨p.var, t⟩ :: varsP w n t x := by
    simp only [varsP, nameP, hv, e1, hx]
    rw [if_pos (by omega)]
    simp [varsL]
   rw [match_6 h6] at hm ⊢
   rw [e1, hx] at hl
   simp only [all2, Bool.and_eq_true, and_true] at hl
   rw [ex] at k0 hm ⊢
   rw [e2] at hnod ⊢
   have k := match_vars n m k0 hl.1 hm
   rw [List.map_cons] at hnod
   have hnod' := List.nodup_cons.1 hnod
   refine ⟨by simp [k.len], ?_, fun z hz => ?_⟩
   ·rw [List.map_cons]
    exact List.nodup_cons.2 ⟨fun hh => hnod'.1 (k.sub _ hh), k.nod⟩
   ·rw [List.map_cons] at hz ⊢
    rcases List.mem_cons.1 hz with h | h
    ·rw [h]; exact List.mem_cons_self
    ·exact List.mem_cons_of_mem _ (k.sub z h)
  have h4 : p.op = 4 := by omega
  by_cases hc : p.ctor = v.ctor
  ·obtain ⟨hlen, k, hk⟩ := h.kid h4 hc
   rw [match_4 h4 hc] at hm ⊢
   have e2 : varsP w (n + 1) t p = varsL (varsP w n) (typesP w t p) p.kids := by
    simp only [varsP, nameP, hv]
    rw [if_neg (by omega), List.nil_append]
   rw [e2] at hnod ⊢
   have hl2 := (shapeP_own h.shape).2
   obtain ⟨X, e, kx⟩ := matchL_vars (f := matchV n) (g := varsP w n) (a := typesP w t p) (acc := []) hl2.symm hlen (fun i hi hmi hni => match_vars n k (hk i hi) (all2_mem hl2.symm hl.1 i (by omega)) hmi) hnod hm
   rw [e, List.nil_append]; exact kx
  ·rw [match_4n h4 hc] at hm; exact absurd hm (by simp)
theorem match_six {w : List Data} {m : Nat} {t : Ty} {p : Pat} {v : Val} (h : MatchOk w 10 m t p v) (hp : isP w t p = true) (hm : (matchV 10 p v).2 = true) : (matchV 10 p v).1.length ≤ 6 := by
 unfold isP at hp
 simp only [Bool.and_eq_true] at hp
 have k := match_vars 10 m h hp.2.2 hm
 rw [k.len]
 have e := (scanP_eq w 10 t p 0).1
 have hw : wantP w 10 t p 0 = true := by
  unfold wantP; rw [hp.1, hp.2.2]; have := of_decide_eq_true hp.2.1; simp; omega
 rw [if_pos hw] at e
 have := scanP_in w 10 t p 0 _ e
 exact nodup_len this.1 this.2
theorem impl_match_gv {w : List Data} : ∀ (n m : Nat) {t : Ty} {p : Pat} {v : Val}, MatchOk w n m t p v → (matchV n p v).2 = true →
  FnD Tryz.prog 181 [.agg [.d (.i p.op), .d (.i p.ctor), .d (.i p.n), .d (.i p.m), .d (.i p.var), .d (encPats p.kids)], .agg [.d (.i v.ctor), .d (.i v.num), .d (encVals v.kids)]] [] (.tup [.gv 9 ((matchV n p v).1.map Bd.c), .d (.bool true)]) [(9, some (.tok ((matchV n p v).1.map Bd.c).length 4))]
 | 0, m, t, p, v, h, _ => by have := h.shape; simp [shapeP] at this
 | n + 1, m, t, p, v, h, hm => by
  have hop := shape_op h.shape
  have k4 := h.kid
  have k5 := h.two
  have k6 := h.one
  have hsz := h.psz
  have hps := Pat.size_eq p
  have hkl := ((Pat.ok_iff p).1 h.pok).1
  have mok := fun {t : Ty} {q : Pat} {u : Val} (hs : shapeP w n t q = true) (hu : u.ok) => matchV_ok n hs hu
  by_cases h4 : p.op = 4
  ·have hc : p.ctor = v.ctor := by
    by_cases hc : p.ctor = v.ctor
    ·exact hc
    ·rw [match_4n h4 hc] at hm; exact absurd hm (by simp)
   obtain ⟨hl, k, hkm⟩ := k4 h4 hc
   have hm4 := match_4 (n := n) h4 hc
   have hall := fun (i : Nat) (hi : i < p.kids.length) => matchL_all (f := matchV n) (a := p.kids) (b := v.kids) (acc := []) (by rw [← hm4]; exact hm) i hi (by omega)
   refine bd Tryz.f181 105 [10] [] fun w0 F0 own kept hk => ?_
   refine Walk.box (id := 3002) .none rfl rfl rfl rfl rfl rfl rfl ?_
   refine Walk.box (id := 3003) .none rfl rfl rfl rfl rfl rfl rfl ?_
   refine evs [10] [] ?_
   refine sq (fun h1 h1p h1s => ?_) fun h1 h1p h1s => ?_
   ·try simp only [Q, Pat.cs_len] at h1p
    exfalso; omega --stop
   ·try simp only [Q, Pat.cs_len] at h1p
    refine sq (fun h2 h2p h2s => ?_) fun h2 h2p h2s => ?_
    ·try simp only [Q, Pat.cs_len] at h2p
     exfalso; omega --stop
    ·try simp only [Q, Pat.cs_len] at h2p
     refine sq (fun h3 h3p h3s => ?_) fun h3 h3p h3s => ?_
     ·try simp only [Q, Pat.cs_len] at h3p
      exfalso; omega --stop
     ·try simp only [Q, Pat.cs_len] at h3p
      refine sq (fun h4 h4p h4s => ?_) fun h4 h4p h4s => ?_
      ·try simp only [Q, Pat.cs_len] at h4p
       exfalso; omega --stop
      ·try simp only [Q, Pat.cs_len] at h4p
       refine sq (fun h5 h5p h5s => ?_) fun h5 h5p h5s => ?_
       ·try simp only [Q, Pat.cs_len] at h5p
        exfalso; omega --stop
       ·try simp only [Q, Pat.cs_len] at h5p
        refine sq (fun h6 h6p h6s => ?_) fun h6 h6p h6s => ?_
        ·try simp only [Q, Pat.cs_len] at h6p
         exfalso; omega --stop
        ·try simp only [Q, Pat.cs_len] at h6p
         refine Walk.assignNilV 9 4 .none rfl rfl ?_
         refine tv ?_
         refine CWp.loopX (ι := Nat × List Bd) hk (fun x => [(83, .d (.i (x.1 : Int))), (10, .gv 9 (x.2.map Bd.c))]) [4, 5, 11, 12, 13, 14, 84, 85, 86, 87, 88, 89, 90, 91, 92, 93, 94, 95, 96, 97, 98, 99, 100, 101, 102, 103] (fun x => [(9, some (.tok ((x.2.map Bd.c)).length 4))]) (fun x => x.1 ≤ p.kids.length ∧ matchL (matchV n) (p.kids.drop x.1) (v.kids.drop x.1) x.2 = matchL (matchV n) p.kids v.kids [] ∧ x.2.length + Pats.size (p.kids.drop x.1) ≤ Pats.size p.kids) (fun x => p.kids.length - x.1) (0, []) ⟨by simp, rfl, by simp⟩ ⟨⟨_, rfl, (LeA.eqi (by first | rfl | omega | (simp; done)))⟩, ⟨⟨_, rfl, (LeA.gvg (by first | rfl | omega | (simp; done)))⟩, trivial⟩⟩ ⟨beq_nat_eq (by rfl), trivial⟩ (fun x => rfl) (fun x hg1 => ?_)
         refine evc [10] [] ?_
         refine sq (fun h7 h7p h7s => ?_) fun h7 h7p h7s => ?_
         ·try simp only [Q, Pat.cs_len] at h7p
          refine Walk.idx sl49 .none rfl rfl rfl rfl (pats_at (by omega)) rfl ?_
          refine evs [10] [] ?_
          refine Walk.alloc (id := 3012) tz51 rfl .none rfl rfl rfl rfl ?_
          refine evs [10] [] ?_
          refine Walk.store ty51 .none rfl rfl rfl rfl rfl rfl (by simp) rfl ?_
          refine tv ?_
          refine Walk.idx sl58 .none rfl rfl rfl rfl (vals_at (by omega)) rfl ?_
          refine evd [10] [] ?_
          refine Walk.call (cr := []) cal181 (impl_match_fn n k (hkm x.1 (by omega))) rfl .none rfl rfl (LeL.refl _) trivial rfl rfl rfl ?_
          refine evd [10] [] ?_
          refine dr ?_
          refine sq (fun h8 h8p h8s => ?_) fun h8 h8p h8s => ?_
          ·try simp only [Q, Pat.cs_len] at h8p
           exfalso; have := hall x.1 (by omega); simp_all --stop
          ·try simp only [Q, Pat.cs_len] at h8p
           refine Walk.appendV sl61 zz177 .none rfl rfl rfl rfl (htokL rfl (by first | rfl | (simp; done) | (simp; omega))) (by intro x hx; exact bd_rows _ x hx) (by have := (mok (hkm x.1 (by omega)).shape (hkm x.1 (by omega)).vok).2; have := psize_drop (l := p.kids) (i := x.1) (by omega); have := hg1.2.2; simp; omega) (by have := (mok (hkm x.1 (by omega)).shape (hkm x.1 (by omega)).vok).2; have := psize_drop (l := p.kids) (i := x.1) (by omega); have := hg1.2.2; simp; omega) ?_
           refine asg ?_
           refine tv ?_
           refine ar ?_
           refine Exists.intro ((x.1 + 1, x.2 ++ (matchV n (nth p.kids x.1) (nth v.kids x.1)).1)) ⟨⟨by dsimp only; omega, by dsimp only; rw [← matchL_next (by omega) (by omega) (hall x.1 (by omega))]; exact hg1.2.1, by have := (mok (hkm x.1 (by omega)).shape (hkm x.1 (by omega)).vok).2; have := psize_drop (l := p.kids) (i := x.1) (by omega); have := hg1.2.2; dsimp only; rw [List.length_append]; omega⟩, (by dsimp only; omega), Sub.x (by kernel_rfl) (by kernel_rfl) ⟨⟨_, rfl, (LeA.eqi (by first | rfl | omega | (simp; done)))⟩, ⟨⟨_, rfl, (LeA.gvg (by first | rfl | omega | (simp; done)))⟩, trivial⟩⟩ (by kernel_rfl) (by kernel_rfl) ⟨beq_nat_eq (by (simp; done)), trivial⟩⟩
         ·try simp only [Q, Pat.cs_len] at h7p
          refine rn [(9, some (.tok ((matchV (n + 1) p v).1.map Bd.c).length 4))] (r2 rfl rfl) (.tup (.cons (.gvg ?_) (.cons (.eqd ?_) .nil))) ⟨rfl, rfl⟩ (SubH.get ⟨(by rw [hm4, ← hg1.2.1, matchL_end (by omega)]; all_goals rfl), trivial⟩) (boxOK rfl)
          all_goals (first | rfl | (rw [hm4, ← hg1.2.1, matchL_end (by omega)]; all_goals rfl))
  by_cases h5 : p.op = 5
  ·obtain ⟨hl, k0, k1⟩ := k5 h5
   cases hm0 : (matchV n (nth p.kids 0) v).2 with
   | true =>
    have e := match_5a (n := n) h5 hm0
    rw [e]
    refine bd Tryz.f181 105 [] [] fun w0 F0 own kept hk => ?_
    refine Walk.box (id := 3002) .none rfl rfl rfl rfl rfl rfl rfl ?_
    refine Walk.box (id := 3003) .none rfl rfl rfl rfl rfl rfl rfl ?_
    refine ev ?_
    refine sq (fun h1 h1p h1s => ?_) fun h1 h1p h1s => ?_
    ·try simp only [Q, Pat.cs_len] at h1p
     exfalso; omega --stop
    ·try simp only [Q, Pat.cs_len] at h1p
     refine sq (fun h2 h2p h2s => ?_) fun h2 h2p h2s => ?_
     ·try simp only [Q, Pat.cs_len] at h2p
      exfalso; omega --stop
     ·try simp only [Q, Pat.cs_len] at h2p
      refine sq (fun h3 h3p h3s => ?_) fun h3 h3p h3s => ?_
      ·try simp only [Q, Pat.cs_len] at h3p
       exfalso; omega --stop
      ·try simp only [Q, Pat.cs_len] at h3p
       refine sq (fun h4 h4p h4s => ?_) fun h4 h4p h4s => ?_
       ·try simp only [Q, Pat.cs_len] at h4p
        refine Walk.idx (i := 0) sl49 .none rfl rfl rfl rfl (pats_at (by omega)) rfl ?_
        refine evd [] [] ?_
        refine Walk.call (cr := [9]) cal181 (impl_match_gv n m k0 hm0) rfl .none rfl rfl (LeL.refl _) trivial rfl rfl rfl ?_
        refine evd [] [] ?_
        refine dr ?_
        refine sq (fun h5 h5p h5s => ?_) fun h5 h5p h5s => ?_
        ·try simp only [Q, Pat.cs_len] at h5p
         refine rn [(9, some (.tok ((matchV n (nth p.kids 0) v).1.map Bd.c).length 4))] (r2 rfl rfl) (.tup (.cons (.gvg ?_) (.cons (.eqd ?_) .nil))) ⟨rfl, rfl⟩ (SubH.get ⟨(by rfl), trivial⟩) (boxOK rfl)
         all_goals (rfl)
        ·try simp only [Q, Pat.cs_len] at h5p
         exfalso; simp_all --stop
       ·try simp only [Q, Pat.cs_len] at h4p
        exfalso; omega --stop
   | false =>
    have e := match_5b (n := n) h5 hm0
    rw [e] at hm ⊢
    have hf0 := impl_match_fn n m k0
    rw [hm0] at hf0
    refine bd Tryz.f181 105 [] [] fun w0 F0 own kept hk => ?_
    refine Walk.box (id := 3002) .none rfl rfl rfl rfl rfl rfl rfl ?_
    refine Walk.box (id := 3003) .none rfl rfl rfl rfl rfl rfl rfl ?_
    refine ev ?_
    refine sq (fun h1 h1p h1s => ?_) fun h1 h1p h1s => ?_
    ·try simp only [Q, Pat.cs_len] at h1p
     exfalso; omega --stop
    ·try simp only [Q, Pat.cs_len] at h1p
     refine sq (fun h2 h2p h2s => ?_) fun h2 h2p h2s => ?_
     ·try simp only [Q, Pat.cs_len] at h2p
      exfalso; omega --stop
     ·try simp only [Q, Pat.cs_len] at h2p
      refine sq (fun h3 h3p h3s => ?_) fun h3 h3p h3s => ?_
      ·try simp only [Q, Pat.cs_len] at h3p
       exfalso; omega --stop
      ·try simp only [Q, Pat.cs_len] at h3p
       refine sq (fun h4 h4p h4s => ?_) fun h4 h4p h4s => ?_
       ·try simp only [Q, Pat.cs_len] at h4p
        refine Walk.idx (i := 0) sl49 .none rfl rfl rfl rfl (pats_at (by omega)) rfl ?_
        refine evd [] [] ?_
        refine Walk.call (cr := []) cal181 (hf0) rfl .none rfl rfl (LeL.refl _) trivial rfl rfl rfl ?_
        refine evd [] [] ?_
        refine dr ?_
        refine sq (fun h5 h5p h5s => ?_) fun h5 h5p h5s => ?_
        ·try simp only [Q, Pat.cs_len] at h5p
         exfalso; simp_all --stop
        ·try simp only [Q, Pat.cs_len] at h5p
         refine Walk.idx (i := 1) sl49 .none rfl rfl rfl rfl (pats_at (by omega)) rfl ?_
         refine evd [] [] ?_
         refine Walk.call (cr := [9]) cal181 (impl_match_gv n m k1 hm) rfl .none rfl rfl (LeL.refl _) trivial rfl rfl rfl ?_
         refine evd [] [] ?_
         refine dr ?_
         refine rn [(9, some (.tok ((matchV n (nth p.kids 1) v).1.map Bd.c).length 4))] (r2 rfl rfl) (.tup (.cons (.gvg ?_) (.cons (.eqd ?_) .nil))) ⟨rfl, rfl⟩ (SubH.get ⟨(by rfl), trivial⟩) (boxOK rfl)
         all_goals (rfl)
       ·try simp only [Q, Pat.cs_len] at h4p
        exfalso; omega --stop
  ·have hw : p.op = 3 → within v.num p.n p.m = true := fun h3 => by rw [match_3 h3] at hm; exact hm
   have h6m : p.op = 6 → (matchV n (nth p.kids 0) v).2 = true := fun h6 => by rw [match_6 h6] at hm; exact hm
   refine bd Tryz.f181 105 [4] [] fun w0 F0 own kept hk => ?_
   refine Walk.box (id := 3002) .none rfl rfl rfl rfl rfl rfl rfl ?_
   refine Walk.box (id := 3003) .none rfl rfl rfl rfl rfl rfl rfl ?_
   refine asg ?_
   refine evs [4] [] ?_
   refine sq (fun h1 h1p h1s => ?_) fun h1 h1p h1s => ?_
   ·try simp only [Q, Pat.cs_len] at h1p
    refine Walk.assignNilV 9 4 .none rfl rfl ?_
    refine evs [4] [] ?_
    refine rn [(9, some (.tok ((matchV (n + 1) p v).1.map Bd.c).length 4))] (r2 rfl rfl) (.tup (.cons (.gvg ?_) (.cons (.eqd ?_) .nil))) ⟨rfl, rfl⟩ (SubH.get ⟨(by (rw [match_1 (by omega)]; all_goals rfl)), trivial⟩) (boxOK rfl)
    all_goals (first | rfl | (rw [match_1 (by omega)]; all_goals rfl) | (rw [match_2 (by omega)]; all_goals rfl) | (rw [match_3 (by omega)]; all_goals first | rfl | (rw [hw (by omega)]; done)) | (rw [match_6 (by omega)]; all_goals first | rfl | (rw [h6m (by omega)]; done)) | (rw [hw (by omega)]; done) | (rw [h6m (by omega)]; done))
   ·try simp only [Q, Pat.cs_len] at h1p
    refine sq (fun h2 h2p h2s => ?_) fun h2 h2p h2s => ?_
    ·try simp only [Q, Pat.cs_len] at h2p
     refine Walk.build st177 (ks := [0, 1]) (xs := [_, _]) rfl rfl .none rfl rfl rfl ?_
     refine Walk.sliceLitGV 9 sl61 tz177 rfl (by decide) (ks := [0]) (xs := [_]) rfl rfl (by decide) (by decide) .none rfl rfl rfl rfl rfl ?_
     refine asg ?_
     refine evs [4] [] ?_
     refine rn [(9, some (.tok ((matchV (n + 1) p v).1.map Bd.c).length 4))] (r2 rfl rfl) (.tup (.cons (.gvg ?_) (.cons (.eqd ?_) .nil))) ⟨rfl, rfl⟩ (SubH.get ⟨(by (rw [match_2 (by omega)]; all_goals rfl)), trivial⟩) (boxOK rfl)
     all_goals (first | rfl | (rw [match_1 (by omega)]; all_goals rfl) | (rw [match_2 (by omega)]; all_goals rfl) | (rw [match_3 (by omega)]; all_goals first | rfl | (rw [hw (by omega)]; done)) | (rw [match_6 (by omega)]; all_goals first | rfl | (rw [h6m (by omega)]; done)) | (rw [hw (by omega)]; done) | (rw [h6m (by omega)]; done))
    ·try simp only [Q, Pat.cs_len] at h2p
     refine sq (fun h3 h3p h3s => ?_) fun h3 h3p h3s => ?_
     ·try simp only [Q, Pat.cs_len] at h3p
      refine Walk.call (cr := []) cal87 (impl_within_fn) rfl .none rfl rfl (LeL.refl _) trivial rfl rfl rfl ?_
      refine Walk.assignNilV 9 4 .none rfl rfl ?_
      refine evs [4] [] ?_
      refine rn [(9, some (.tok ((matchV (n + 1) p v).1.map Bd.c).length 4))] (r2 rfl rfl) (.tup (.cons (.gvg ?_) (.cons (.eqd ?_) .nil))) ⟨rfl, rfl⟩ (SubH.get ⟨(by (rw [match_3 (by omega)]; all_goals rfl)), trivial⟩) (boxOK rfl)
      all_goals (first | rfl | (rw [match_1 (by omega)]; all_goals rfl) | (rw [match_2 (by omega)]; all_goals rfl) | (rw [match_3 (by omega)]; all_goals first | rfl | (rw [hw (by omega)]; done)) | (rw [match_6 (by omega)]; all_goals first | rfl | (rw [h6m (by omega)]; done)) | (rw [hw (by omega)]; done) | (rw [h6m (by omega)]; done))
     ·try simp only [Q, Pat.cs_len] at h3p
      refine sq (fun h4 h4p h4s => ?_) fun h4 h4p h4s => ?_
      ·try simp only [Q, Pat.cs_len] at h4p
       exfalso; omega --stop
      ·try simp only [Q, Pat.cs_len] at h4p
       refine sq (fun h5 h5p h5s => ?_) fun h5 h5p h5s => ?_
       ·try simp only [Q, Pat.cs_len] at h5p
        refine Walk.idx (i := 0) sl49 .none rfl rfl rfl rfl (pats_at (by have := (k6 (by omega)).1; omega)) rfl ?_
        refine evd [4] [] ?_
        refine Walk.call (cr := []) cal181 (impl_match_fn n m (k6 (by omega)).2) rfl .none rfl rfl (LeL.refl _) trivial rfl rfl rfl ?_
        refine evd [4] [] ?_
        refine dr ?_
        refine Walk.build st177 (ks := [0, 1]) (xs := [_, _]) rfl rfl .none rfl rfl rfl ?_
        refine Walk.sliceLitGV 9 sl61 tz177 rfl (by decide) (ks := [0]) (xs := [_]) rfl rfl (by decide) (by decide) .none rfl rfl rfl rfl rfl ?_
        refine evs [4] [] ?_
        refine Walk.appendV sl61 zz177 .none rfl rfl rfl rfl (htokL rfl (by first | rfl | (simp; done) | (simp; omega))) (by intro x hx; exact bd_rows _ x hx) (by have := (mok (k6 (by omega)).2.shape h.vok).2; have := pnth_size (l := p.kids) (i := 0) (by have := (k6 (by omega)).1; omega); simp; omega) (by have := (mok (k6 (by omega)).2.shape h.vok).2; have := pnth_size (l := p.kids) (i := 0) (by have := (k6 (by omega)).1; omega); simp; omega) ?_
        refine evs [4] [] ?_
        refine asg ?_
        refine evs [4] [] ?_
        refine rn [(9, some (.tok ((matchV (n + 1) p v).1.map Bd.c).length 4))] (r2 rfl rfl) (.tup (.cons (.gvg ?_) (.cons (.eqd ?_) .nil))) ⟨rfl, rfl⟩ (SubH.get ⟨(by (rw [match_6 (by omega)]; show some (Res.tok _ _) = some (Res.tok _ _); simp; omega)), trivial⟩) (boxOK rfl)
        all_goals (first | rfl | (rw [match_1 (by omega)]; all_goals rfl) | (rw [match_2 (by omega)]; all_goals rfl) | (rw [match_3 (by omega)]; all_goals first | rfl | (rw [hw (by omega)]; done)) | (rw [match_6 (by omega)]; all_goals first | rfl | (rw [h6m (by omega)]; done)) | (rw [hw (by omega)]; done) | (rw [h6m (by omega)]; done))
       ·try simp only [Q, Pat.cs_len] at h5p
        exfalso; omega --stop
theorem chunk_bd' {n : Nat} {S : List Bd} (h : n = S.length) : chunkD n 4 (bdC S) = some (S.map Bd.c) := by
 rw [h, ← List.length_map (f := Bd.c)]; exact chunk_bd S
theorem idsD (l : List D) : AV.idsL (l.map AV.d) = [] := by
 induction l with
 | nil => rfl
 | cons x r ih => simpa [AV.idsL, AV.ids] using ih
theorem impl_matched_fn {w : List Data} {m : Nat} {t : Ty} {p : Pat} {v : Val} (h : MatchOk w 10 m t p v) (hp : isP w t p = true) :
  FnD Tryz.prog 104 [.agg [.d (.i p.op), .d (.i p.ctor), .d (.i p.n), .d (.i p.m), .d (.i p.var), .d (encPats p.kids)], .agg [.d (.i v.ctor), .d (.i v.num), .d (encVals v.kids)]] [] (.tup [.d (encBds (matchedV 10 p v).1), .d (.bool (matchedV 10 p v).2)]) [] := by
 unfold matchedV
 cases hm : (matchV 10 p v).2 with
 | false =>
  have hf := impl_match_fn 10 m h
  rw [hm] at hf
  rw [if_neg (by simp)]
  refine bd Tryz.f104 36 [] [] fun w0 F0 own kept hk => ?_
  refine Walk.box (id := 3002) .none rfl rfl rfl rfl rfl rfl rfl ?_
  refine Walk.box (id := 3003) .none rfl rfl rfl rfl rfl rfl rfl ?_
  refine ev ?_
  refine Walk.call (cr := []) cal181 (hf) rfl .none rfl rfl (LeL.refl _) trivial rfl rfl rfl ?_
  refine ev ?_
  refine sq (fun h1 h1p h1s => ?_) fun h1 h1p h1s => ?_
  ·try simp only [Q] at h1p
   refine rn0 (r2 rfl rfl) (.tup (.cons (.nild ?_) (.cons (.eqd ?_) .nil)))
   all_goals (rfl)
  ·try simp only [Q] at h1p
   exfalso; simp_all --stop
 | true =>
  have hf := impl_match_gv 10 m h hm
  have h6 := match_six h hp hm
  have hbo := sortB_ok (matchV_ok 10 h.shape h.vok).1
  have hsl := sortB_len (matchV 10 p v).1
  have hvs := h.vsz
  rw [if_pos rfl]
  have hLm : ∀ L : List Bd, (L.map Bd.c).length = L.length := fun L => by simp
  have hLm := hLm (matchV 10 p v).1
  have hso : sortL ((matchV 10 p v).1.length - 1) 1 (matchV 10 p v).1 = sortB (matchV 10 p v).1 := rfl
  generalize (matchV 10 p v).1 = L at *
  generalize hS : sortB L = S at *
  have hrow : ∀ {i : Nat}, i < L.length → (nth S i).val.ok ∧ (nth S i).val.size ≤ v.size := fun hi => hbo _ (nth_mem (by omega))
  refine bd Tryz.f104 36 [26] [4, 999999] fun w0 F0 own kept hk => ?_
  refine Walk.box (id := 3002) .none rfl rfl rfl (by rfl) (by rfl) (by rfl) (by rfl) ?_
  refine Walk.box (id := 3003) .none rfl rfl rfl (by rfl) (by rfl) (by rfl) (by rfl) ?_
  refine evs [26] [] ?_
  refine Walk.call (cr := [9]) cal181 (hf) rfl .none rfl rfl (LeL.refl _) trivial rfl rfl rfl ?_
  refine evs [26] [] ?_
  refine sq (fun h1 h1p h1s => ?_) fun h1 h1p h1s => ?_
  ·try simp only [Q, List.length_map] at h1p
   exfalso; simp_all --stop
  ·try simp only [Q, List.length_map] at h1p
   refine CWp.fixV hk 6 9 4 rfl rfl rfl (fun hx2 => ?_) (fun hx2 => ?_)
   ·
    refine evc [26] [] ?_
    refine Walk.call (cr := []) cal182 (slices_SortFunc_nil) rfl .none rfl rfl (LeL.refl _) trivial rfl (by rfl) (by rfl) ?_
    refine tv ?_
    refine CWp.loopX (ι := Unit) hk (fun u => [(22, .d (.i 0))]) [8, 9, 23, 24, 25, 26, 27, 28, 29, 30, 31, 32, 33, 34] (fun u => []) (fun u => True) (fun u => 0) () trivial ⟨⟨_, rfl, (LeA.eqi (by first | rfl | (simp; done) | (simp_all; done) | omega))⟩, trivial⟩ trivial (fun x => rfl) (fun u hg1 => ?_)
    refine evc [26] [4, 999999] ?_
    refine sq (fun h3 h3p h3s => ?_) fun h3 h3p h3s => ?_
    ·try simp only [Q, List.length_map] at h3p
     exfalso; simp at h3 --stop
    ·try simp only [Q, List.length_map] at h3p
     refine CWp.ret ?_
     refine rn0 (r2 rfl rfl) (.tup (.cons (.eqd ?_) (.cons (.eqd ?_) .nil)))
     all_goals (first | rfl | (rw [show S = [] from List.eq_nil_of_length_eq_zero (by have hz : L.map Bd.c = [] := (by assumption); have hz2 := congrArg List.length hz; simp only [List.length_nil] at hz2; omega)]; rfl))
   ·
    refine evc [26] [] ?_
    refine Walk.call (cr := []) cal182 (slices_SortFunc_fn (L := L) (by omega) cal183 (fun a b => impl_matched_1_fn)) rfl .none rfl rfl (.cons (LeA.msn (by first | rfl | (simp [List.length_map]; done))) (.cons (.refl _) .nil)) ⟨rfl, trivial⟩ rfl okCall_bd rfl ?_
    refine tv ?_
    refine CWp.loopX (ι := Nat) hk (fun i => [(22, .d (.i (i : Int)))]) [8, 9, 23, 24, 25, 26, 27, 28, 29, 30, 31, 32, 33, 34] (fun i => [(9, some (.box (bdC S)))]) (fun i => i ≤ L.length) (fun i => L.length - i) 0 (by omega) ⟨⟨_, rfl, (LeA.eqi (by first | rfl | (simp; done) | (simp_all; done) | omega))⟩, trivial⟩ ⟨(by (show some (Res.box _) = some (Res.box _); rw [hso])), trivial⟩ (fun x => rfl) (fun i hg1 => ?_)
    refine evc [26] [4, 999999] ?_
    refine sq (fun h4 h4p h4s => ?_) fun h4 h4p h4s => ?_
    ·try simp only [Q, List.length_map] at h4p
     refine Walk.idxM sl61 .none rfl rfl rfl rfl (by omega) ?_
     refine Walk.loadBA ty177 .none rfl rfl rfl ((cut_bd (by omega))) ?_
     refine Walk.alloc (id := 3009) tz177 rfl .none rfl (by rfl) (by rfl) (by (simp only [freshB, occH, occE, Res.ids, List.cons_append, List.nil_append, AV.idsL, AV.ids, idsL_append, ownCells_ids, zerosA_idsR, repNil, List.map_cons, List.map_nil, upC, idsD, bdC_ids]; rfl)) ?_
     refine evs [26] [] ?_
     refine Walk.store ty177 .none rfl rfl rfl rfl rfl rfl (by simp) rfl ?_
     refine tv ?_
     refine Walk.call (cr := []) cal102 (impl_ownValue_fn (nth S i).val.size (Nat.le_refl _) (hrow (by omega)).1) rfl .none rfl rfl (LeL.refl _) trivial rfl (by rfl) (by rfl) ?_
     refine Walk.idxM sl61 .none rfl rfl rfl rfl (by omega) ?_
     refine evs [26] [] ?_
     refine Walk.store ty65 .none rfl rfl rfl rfl rfl rfl (by simp) ((put_bv (by omega))) ?_
     refine tv ?_
     refine ar ?_
     refine Exists.intro (i + 1) ⟨(by omega), (by omega), Sub.x (by kernel_rfl) (by kernel_rfl) ⟨⟨_, rfl, (LeA.eqi (by first | rfl | (simp; done) | (simp_all; done) | omega))⟩, trivial⟩ (by kernel_rfl) (by kernel_rfl) ⟨(by rfl), trivial⟩⟩
    ·try simp only [Q, List.length_map] at h4p
     refine CWp.frz hk 4 9 _ _ rfl rfl (chunk_bd' (by simp; omega)) rfl ?_
     refine CWp.ret ?_
     refine rn0 (r2 rfl rfl) (.tup (.cons (.eqd ?_) (.cons (.eqd ?_) .nil)))
     all_goals (rfl)
def matchPV (w : List Data) (a k : Int) (p : Pat) (v : Val) : List Bd × Bool := if patValid w a k p = true ∧ isV w ⟨a, k⟩ v = true then matchedV 10 p v else ([], false)
theorem matchPV_ok {w : List Data} {a k : Int} {p : Pat} {v : Val} (h : (matchPV w a k p v).2 = true) : patValid w a k p = true ∧ isV w ⟨a, k⟩ v = true ∧ (matchV 10 p v).2 = true := by
 unfold matchPV at h
 split at h
 ·rename_i hh; rw [matchedV_ok] at h; exact ⟨hh.1, hh.2, h⟩
 ·exact absurd h (by simp)
theorem match_ok {w : List Data} {a k : Int} {p : Pat} {v : Val} (h1 : isP w ⟨a, k⟩ p = true) (h2 : isV w ⟨a, k⟩ v = true) (hp : p.ok) (hv : v.ok) : MatchOk w 10 10 ⟨a, k⟩ p v := by
 unfold isP at h1
 unfold isV at h2
 simp only [Bool.and_eq_true, decide_eq_true_eq] at h1 h2
 exact ⟨h1.1, h2.1, hp, hv, by omega, by omega⟩
theorem impl_MatchPattern_fn {w : List Data} (hs : WSmall w) {a k : Int} {p : Pat} {v : Val} (hp : p.ok) (hv : v.ok) :
  FnD Tryz.prog 34 [.d (encDatas w), .agg [.d (.i a), .d (.i k)], .agg [.d (.i p.op), .d (.i p.ctor), .d (.i p.n), .d (.i p.m), .d (.i p.var), .d (encPats p.kids)], .agg [.d (.i v.ctor), .d (.i v.num), .d (encVals v.kids)]] [] (.tup [.d (encBds (matchPV w a k p v).1), .d (.bool (matchPV w a k p v).2)]) [] := by
 have hpv := impl_PatternValid_fn hs (a := a) (k := k) hp
 have pv := pval hs (a := a) (k := k) (p := p)
 have hpi : patValid w a k p = true → isP w ⟨a, k⟩ p = true := fun h => by unfold patValid at h; rw [Bool.and_eq_true] at h; exact h.2
 refine bd Tryz.f34 27 [] [] fun w0 F0 own kept hk => ?_
 refine Walk.box (id := 3005) .none rfl rfl rfl rfl rfl rfl rfl ?_
 refine Walk.box (id := 3006) .none rfl rfl rfl rfl rfl rfl rfl ?_
 refine Walk.box (id := 3007) .none rfl rfl rfl rfl rfl rfl rfl ?_
 refine ev ?_
 refine Walk.call (cr := []) cal32 (hpv) rfl .none rfl rfl (LeL.refl _) trivial rfl rfl rfl ?_
 refine ev ?_
 refine sq (fun h1 h1p h1s => ?_) fun h1 h1p h1s => ?_
 ·try simp only [Q] at h1p
  refine sqT ?_
  refine rn0 (r2 rfl rfl) (.tup (.cons (.nild ?_) (.cons (.eqd ?_) .nil)))
  all_goals (unfold matchPV; (rw [if_neg (by intro hh; simp_all)]; all_goals rfl))
 ·try simp only [Q] at h1p
  refine Walk.call (cr := []) cal103 (impl_valueOk_fn (pv (by assumption)).dp.wt (pv (by assumption)).tin hv) rfl (.some rfl rfl h1) rfl rfl (LeL.refl _) trivial rfl rfl rfl ?_
  refine evs [] [(15, false)] ?_ ⟨⟨_, rfl, h1⟩, trivial⟩
  refine sq (fun h3 h3p h3s => ?_) fun h3 h3p h3s => ?_
  ·try simp only [Q] at h3p
   refine rn0 (r2 rfl rfl) (.tup (.cons (.nild ?_) (.cons (.eqd ?_) .nil)))
   all_goals (unfold matchPV; (rw [if_neg (by intro hh; simp_all)]; all_goals rfl))
  ·try simp only [Q] at h3p
   refine Walk.call (cr := []) cal104 (impl_matched_fn (match_ok (hpi (by simp_all)) (by simp_all) hp hv) (hpi (by simp_all))) rfl .none rfl rfl (LeL.refl _) trivial rfl rfl rfl ?_
   refine ev ?_
   refine rn0 (r2 rfl rfl) (.tup (.cons (.eqd ?_) (.cons (.eqd ?_) .nil)))
   all_goals (unfold matchPV; (rw [if_pos ⟨by simp_all, by simp_all⟩]; all_goals rfl))
theorem impl_ValueValid_fn {w : List Data} (hs : WSmall w) {a k : Int} {v : Val} (hv : v.ok) :
  FnD Tryz.prog 35 [.d (encDatas w), .agg [.d (.i a), .d (.i k)], .agg [.d (.i v.ctor), .d (.i v.num), .d (encVals v.kids)]] [] (.d (.bool (valValid w a k v))) [] := by
 refine bd Tryz.f35 16 [] [] fun w0 F0 own kept hk => ?_
 refine Walk.box (id := 3004) .none rfl rfl rfl rfl rfl rfl rfl ?_
 refine Walk.box (id := 3005) .none rfl rfl rfl rfl rfl rfl rfl ?_
 refine ev ?_
 refine Walk.call (cr := []) cal98 (impl_TypeValid_fn hs) rfl .none rfl rfl (LeL.refl _) trivial rfl rfl rfl ?_
 refine ev ?_
 refine sq (fun h1 h1p h1s => ?_) fun h1 h1p h1s => ?_
 ·try simp only [Q] at h1p
  refine Walk.call (cr := []) cal103 (impl_valueOk_fn (valid_wt hs (tv_facts (by assumption)).1) (tv_facts (by assumption)).2.1 hv) rfl (.some rfl rfl h1) rfl rfl (LeL.refl _) trivial rfl rfl rfl ?_
  refine evs [] [(10, true)] ?_ ⟨⟨_, rfl, h1⟩, trivial⟩
  refine rn0 (r1 rfl) (.eqd ?_)
  all_goals (refine congrArg D.bool ?_; unfold valValid; simp_all)
 ·try simp only [Q] at h1p
  refine rn0 (r1 rfl) (.eqd ?_)
  all_goals (refine congrArg D.bool ?_; unfold valValid; simp_all)
theorem impl_fits_fn {a b : Ty} : FnD Tryz.prog 108 [.agg [.d (.i a.data), .d (.i a.index)], .agg [.d (.i b.data), .d (.i b.index)]] [] (.d (.bool (decide (a.data = b.data ∧ (b.index = 0 ∨ a.index = b.index))))) [] := by
 refine bd Tryz.f108 22 [] [] fun w0 F0 own kept hk => ?_
 refine Walk.box (id := 3002) .none rfl rfl rfl rfl rfl rfl rfl ?_
 refine Walk.box (id := 3003) .none rfl rfl rfl rfl rfl rfl rfl ?_
 refine ev ?_
 refine sq (fun h1 h1p h1s => ?_) fun h1 h1p h1s => ?_
 ·try simp only [Q] at h1p
  refine sq (fun h2 h2p h2s => ?_) fun h2 h2p h2s => ?_
  ·try simp only [Q] at h2p
   refine rn0 (r1 rfl) (.eqd ?_)
   all_goals (refine congrArg D.bool ?_; simp_all)
  ·try simp only [Q] at h2p
   refine rn0 (r1 rfl) (.eqd ?_)
   all_goals (refine congrArg D.bool ?_; simp_all)
 ·try simp only [Q] at h1p
  refine rn0 (r1 rfl) (.eqd ?_)
  all_goals (refine congrArg D.bool ?_; simp_all)
theorem impl_TypeFits_fn {w : List Data} (hs : WSmall w) {a b : Ty} : FnD Tryz.prog 40 [.d (encDatas w), .agg [.d (.i a.data), .d (.i a.index)], .agg [.d (.i b.data), .d (.i b.index)]] [] (.d (.bool (typeValid w a && (typeOk w.length b && decide (a.data = b.data ∧ (b.index = 0 ∨ a.index = b.index)))))) [] := by
 refine bd Tryz.f40 20 [] [] fun w0 F0 own kept hk => ?_
 refine Walk.box (id := 3004) .none rfl rfl rfl rfl rfl rfl rfl ?_
 refine Walk.box (id := 3005) .none rfl rfl rfl rfl rfl rfl rfl ?_
 refine ev ?_
 refine Walk.call (cr := []) cal98 (impl_TypeValid_fn hs) rfl .none rfl rfl (LeL.refl _) trivial rfl rfl rfl ?_
 refine ev ?_
 refine sq (fun h1 h1p h1s => ?_) fun h1 h1p h1s => ?_
 ·try simp only [Q] at h1p
  refine Walk.call (cr := []) cal107 (impl_typeOk_fn hs.len) rfl (.some rfl rfl h1) rfl rfl (LeL.refl _) trivial rfl rfl rfl ?_
  refine evs [] [(10, true)] ?_ ⟨⟨_, rfl, h1⟩, trivial⟩
  refine sq (fun h2 h2p h2s => ?_) fun h2 h2p h2s => ?_
  ·try simp only [Q] at h2p
   refine Walk.call (cr := []) cal108 (impl_fits_fn) rfl (.some rfl rfl h2) rfl rfl (LeL.refl _) trivial rfl rfl rfl ?_
   refine evs [] [(15, true)] ?_ ⟨⟨_, rfl, h2⟩, trivial⟩
   refine rn0 (r1 rfl) (.eqd ?_)
   all_goals (refine congrArg D.bool ?_; simp_all)
  ·try simp only [Q] at h2p
   refine rn0 (r1 rfl) (.eqd ?_)
   all_goals (refine congrArg D.bool ?_; simp_all)
 ·try simp only [Q] at h1p
  refine sqF ?_
  refine rn0 (r1 rfl) (.eqd ?_)
  all_goals (refine congrArg D.bool ?_; simp_all)
theorem spec_DrawNarrowType_f {b : Str} (hb : b.length ≤ 1000000000000) :
  FnD Tryz.prog 37 [.d (encBytes b)] [] (.tup [.d (encDatas (drawC (b.take 2000)).1), .agg [.d (.i (drawC (b.take 2000)).2.1.data), .d (.i (drawC (b.take 2000)).2.1.index)], .agg [.d (.i (drawC (b.take 2000)).2.2.op), .d (.i (drawC (b.take 2000)).2.2.ctor), .d (.i (drawC (b.take 2000)).2.2.n), .d (.i (drawC (b.take 2000)).2.2.m), .d (.i (drawC (b.take 2000)).2.2.var), .d (encPats (drawC (b.take 2000)).2.2.kids)]]) [] := by
 refine bd Tryz.f37 10 [] [] fun w0 F0 own kept hk => ?_
 refine Walk.alloc (id := 3003) tz42 rfl .none rfl rfl rfl rfl ?_
 refine Walk.alloc (id := 3004) tz51 rfl .none rfl rfl rfl rfl ?_
 refine tv ?_
 refine Walk.call (cr := []) cal92 (spec_l15Case_fn hb) rfl .none rfl rfl (LeL.refl _) trivial rfl rfl rfl ?_
 refine ev ?_
 refine Walk.store ty42 .none rfl rfl rfl rfl rfl rfl (by simp) rfl ?_
 refine Walk.store ty51 .none rfl rfl rfl rfl rfl rfl (by simp) rfl ?_
 refine tv ?_
 refine rn0 (.cons (.tmp rfl) (.cons (.cellA ty42 rfl rfl rfl) (.cons (.cellA ty51 rfl rfl rfl) .nil))) (.tup (.cons (.eqd ?_) (.cons (.agg (.cons (.eqd ?_) (.cons (.eqd ?_) .nil))) (.cons (.agg (.cons (.eqd ?_) (.cons (.eqd ?_) (.cons (.eqd ?_) (.cons (.eqd ?_) (.cons (.eqd ?_) (.cons (.eqd ?_) .nil))))))) .nil))))
 all_goals (first | rfl | (simp []; done) | (simp_all; done) | (simp_all; omega) | omega)
theorem laws_FnNarrowType_fn {b c : Str} (hb : b.length ≤ 1000000000000) (hc : c.length ≤ 1000000000000) : FnD Tryz.prog 7 [.d (encBytes b), .d (encBytes c)] [] (.d (.bool true)) [] := by
 have hdr := spec_DrawNarrowType_f hb
 have hs := drawC_ok (b.take 2000)
 generalize drawC (b.take 2000) = q at *
 obtain ⟨w, ⟨a, k⟩, p⟩ := q
 dsimp only at hdr hs
 obtain ⟨hs, hsz, hok⟩ := hs
 have himp := impl_NarrowType_fn hs (a := a) (k := k) hok
 have hspec := spec_NarrowType_fn hs (a := a) (k := k) hok hsz
 have hlaw := narrow_law hs (a := a) (k := k) (p := p)
 have hmp := fun (v : Val) (hv : v.ok) => impl_MatchPattern_fn hs (a := a) (k := k) hok hv
 have hmok := fun (v : Val) => matchPV_ok (w := w) (a := a) (k := k) (p := p) (v := v)
 generalize narrowV w a k p = u at *
 obtain ⟨⟨ua, uk⟩, u2⟩ := u
 dsimp only at himp hspec hlaw
 cases u2 with
 | false =>
  refine bd Tryz.f7 114 [47, 51, 59, 63] [] fun w0 F0 own kept hk => ?_
  refine sq (fun h1 h1p h1s => ?_) fun h1 h1p h1s => ?_
  ·try simp only [Q] at h1p
   refine sqT ?_
   refine rn0 (r1 rfl) (.eqd ?_)
   all_goals (first | rfl | (refine congrArg D.bool ?_; simp; done) | (exfalso; simp_all; done))
  ·try simp only [Q] at h1p
   refine sq (fun h3 h3p h3s => ?_) fun h3 h3p h3s => ?_
   ·try simp only [Q] at h3p
    refine rn0 (r1 rfl) (.eqd ?_)
    all_goals (first | rfl | (refine congrArg D.bool ?_; simp; done) | (exfalso; simp_all; done))
   ·try simp only [Q] at h3p
    refine Walk.call (cr := []) cal37 (hdr) rfl .none rfl rfl (LeL.refl _) trivial rfl rfl rfl ?_
    refine evs [47, 51, 59, 63] [] ?_
    refine Walk.alloc (id := 3006) tz42 rfl .none rfl rfl rfl rfl ?_
    refine Walk.alloc (id := 3007) tz51 rfl .none rfl rfl rfl rfl ?_
    refine evs [47, 51, 59, 63] [] ?_
    refine Walk.store ty42 .none rfl rfl rfl rfl rfl rfl (by simp) rfl ?_
    refine Walk.store ty51 .none rfl rfl rfl rfl rfl rfl (by simp) rfl ?_
    refine tv ?_
    refine Walk.call (cr := []) cal38 (himp) rfl .none rfl rfl (LeL.refl _) trivial rfl rfl rfl ?_
    refine evs [47, 51, 59, 63] [] ?_
    refine Walk.alloc (id := 3008) tz42 rfl .none rfl rfl rfl rfl ?_
    refine Walk.store ty42 .none rfl rfl rfl rfl rfl rfl (by simp) rfl ?_
    refine evs [47, 51, 59, 63] [] ?_
    refine Walk.call (cr := []) cal39 (hspec) rfl .none rfl rfl (LeL.refl _) trivial rfl rfl rfl ?_
    refine evs [47, 51, 59, 63] [] ?_
    refine Walk.alloc (id := 3010) tz42 rfl .none rfl rfl rfl rfl ?_
    refine Walk.store ty42 .none rfl rfl rfl rfl rfl rfl (by simp) rfl ?_
    refine evs [47, 51, 59, 63] [] ?_
    refine Walk.neB un4 .none rfl rfl rfl ?_
    refine evs [47, 51, 59, 63] [] ?_
    refine sq (fun h4 h4p h4s => ?_) fun h4 h4p h4s => ?_
    ·try simp only [Q] at h4p
     refine sqT ?_
     refine sqT ?_
     refine Walk.eqB un4 .none rfl rfl rfl ?_
     refine evs [47, 51, 59, 63] [] ?_
     refine sq (fun h6 h6p h6s => ?_) fun h6 h6p h6s => ?_
     ·try simp only [Q] at h6p
      refine Walk.eqV eq42 (.some rfl rfl h6) rfl rfl rfl rfl rfl ?_
      refine evs [47, 51, 59, 63] [(60, true)] ?_ ⟨⟨_, rfl, h6⟩, trivial⟩
      refine rn0 (r1 rfl) (.eqd ?_)
      all_goals (first | rfl | (refine congrArg D.bool ?_; simp; done) | (exfalso; simp_all; done))
     ·try simp only [Q] at h6p
      refine rn0 (r1 rfl) (.eqd ?_)
      all_goals (first | rfl | (refine congrArg D.bool ?_; simp; done) | (exfalso; simp_all; done))
    ·try simp only [Q] at h4p
     refine Walk.neV eq42 (.some rfl rfl h4) rfl rfl rfl rfl rfl ?_
     refine evs [47, 51, 59, 63] [(48, false)] ?_ ⟨⟨_, rfl, h4⟩, trivial⟩
     refine sq (fun h7 h7p h7s => ?_) fun h7 h7p h7s => ?_
     ·try simp only [Q] at h7p
      refine sqT ?_
      refine Walk.eqB un4 .none rfl rfl rfl ?_
      refine evs [47, 51, 59, 63] [] ?_
      refine sq (fun h9 h9p h9s => ?_) fun h9 h9p h9s => ?_
      ·try simp only [Q] at h9p
       refine Walk.eqV eq42 (.some rfl rfl h9) rfl rfl rfl rfl rfl ?_
       refine evs [47, 51, 59, 63] [(60, true)] ?_ ⟨⟨_, rfl, h9⟩, trivial⟩
       refine rn0 (r1 rfl) (.eqd ?_)
       all_goals (first | rfl | (refine congrArg D.bool ?_; simp; done) | (exfalso; simp_all; done))
      ·try simp only [Q] at h9p
       refine rn0 (r1 rfl) (.eqd ?_)
       all_goals (first | rfl | (refine congrArg D.bool ?_; simp; done) | (exfalso; simp_all; done))
     ·try simp only [Q] at h7p
      refine sq (fun h10 h10p h10s => ?_) fun h10 h10p h10s => ?_
      ·try simp only [Q] at h10p
       refine Walk.eqB un4 .none rfl rfl rfl ?_
       refine evs [47, 51, 59, 63] [] ?_
       refine sq (fun h11 h11p h11s => ?_) fun h11 h11p h11s => ?_
       ·try simp only [Q] at h11p
        refine Walk.eqV eq42 (.some rfl rfl h11) rfl rfl rfl rfl rfl ?_
        refine evs [47, 51, 59, 63] [(60, true)] ?_ ⟨⟨_, rfl, h11⟩, trivial⟩
        refine rn0 (r1 rfl) (.eqd ?_)
        all_goals (first | rfl | (refine congrArg D.bool ?_; simp; done) | (exfalso; simp_all; done))
       ·try simp only [Q] at h11p
        refine rn0 (r1 rfl) (.eqd ?_)
        all_goals (first | rfl | (refine congrArg D.bool ?_; simp; done) | (exfalso; simp_all; done))
      ·try simp only [Q] at h10p
       exfalso; simp_all --stop
 | true =>
  obtain ⟨e1, e2, e3, e4, e5, e6⟩ := hlaw rfl
  have e1' : ua = a := e1
  subst e1'
  have hvo := vut_ok hs ⟨ua, k⟩ (1 + ((c.map byteC).length : Int) % 3)
  have hvl := vut_len w ⟨ua, k⟩ (1 + ((c.map byteC).length : Int) % 3)
  have hvu := impl_ValuesUpTo_fn hs (a := ua) (k := k) (m := 1 + ((c.map byteC).length : Int) % 3)
  generalize vut w ⟨ua, k⟩ (1 + ((c.map byteC).length : Int) % 3) = V at *
  obtain ⟨V, b2⟩ := V
  dsimp only at hvu hvo hvl
  have htf := impl_TypeFits_fn hs (a := ⟨ua, uk⟩) (b := ⟨ua, 0⟩)
  have htok : typeOk w.length ⟨ua, 0⟩ = true := by
   have := e4; unfold typeValid at this; rw [Bool.and_eq_true] at this; exact this.2
  rw [e3, htok, decide_eq_true ⟨rfl, .inl rfl⟩] at htf
  have htf' : FnD Tryz.prog 40 [.d (encDatas w), .agg [.d (.i ua), .d (.i uk)], .agg [.d (.i ua), .d (.i 0)]] [] (.d (.bool true)) [] := htf
  have hvv := fun (v : Val) (hv : v.ok) (h1 : (matchPV w ua k p v).2 = true) => e6 v (hmok v h1).2.2 (hmok v h1).2.1
  have e2' : 0 < uk := e2
  refine bd Tryz.f7 114 [47, 51, 70] [] fun w0 F0 own kept hk => ?_
  refine sq (fun h1 h1p h1s => ?_) fun h1 h1p h1s => ?_
  ·try simp only [Q, Val.cs_len] at h1p
   refine sqT ?_
   refine rn0 (r1 rfl) (.eqd ?_)
   all_goals (first | rfl | (refine congrArg D.bool ?_; simp_all; done) | (exfalso; have hM := hvv (nth V i) (hvo _ (nth_mem (by omega))) (by assumption); simp_all; done) | (exfalso; simp_all; done) | (exfalso; omega))
  ·try simp only [Q, Val.cs_len] at h1p
   refine sq (fun h3 h3p h3s => ?_) fun h3 h3p h3s => ?_
   ·try simp only [Q, Val.cs_len] at h3p
    refine rn0 (r1 rfl) (.eqd ?_)
    all_goals (first | rfl | (refine congrArg D.bool ?_; simp_all; done) | (exfalso; have hM := hvv (nth V i) (hvo _ (nth_mem (by omega))) (by assumption); simp_all; done) | (exfalso; simp_all; done) | (exfalso; omega))
   ·try simp only [Q, Val.cs_len] at h3p
    refine Walk.call (cr := []) cal37 (hdr) rfl .none rfl rfl (LeL.refl _) trivial rfl rfl rfl ?_
    refine evs [47, 51, 70] [] ?_
    refine Walk.alloc (id := 3006) tz42 rfl .none rfl rfl rfl rfl ?_
    refine Walk.alloc (id := 3007) tz51 rfl .none rfl rfl rfl rfl ?_
    refine evs [47, 51, 70] [] ?_
    refine Walk.store ty42 .none rfl rfl rfl rfl rfl rfl (by simp) rfl ?_
    refine Walk.store ty51 .none rfl rfl rfl rfl rfl rfl (by simp) rfl ?_
    refine tv ?_
    refine Walk.call (cr := []) cal38 (himp) rfl .none rfl rfl (LeL.refl _) trivial rfl rfl rfl ?_
    refine evs [47, 51, 70] [] ?_
    refine Walk.alloc (id := 3008) tz42 rfl .none rfl rfl rfl rfl ?_
    refine Walk.store ty42 .none rfl rfl rfl rfl rfl rfl (by simp) rfl ?_
    refine evs [47, 51, 70] [] ?_
    refine Walk.call (cr := []) cal39 (hspec) rfl .none rfl rfl (LeL.refl _) trivial rfl rfl rfl ?_
    refine evs [47, 51, 70] [] ?_
    refine Walk.alloc (id := 3010) tz42 rfl .none rfl rfl rfl rfl ?_
    refine Walk.store ty42 .none rfl rfl rfl rfl rfl rfl (by simp) rfl ?_
    refine evs [47, 51, 70] [] ?_
    refine Walk.neB un4 .none rfl rfl rfl ?_
    refine evs [47, 51, 70] [] ?_
    refine sq (fun h4 h4p h4s => ?_) fun h4 h4p h4s => ?_
    ·try simp only [Q, Val.cs_len] at h4p
     refine sqT ?_
     refine sqT ?_
     exfalso; simp_all --stop
    ·try simp only [Q, Val.cs_len] at h4p
     refine Walk.neV eq42 (.some rfl rfl h4) rfl rfl rfl rfl rfl ?_
     refine evs [47, 51, 70] [(48, false)] ?_ ⟨⟨_, rfl, h4⟩, trivial⟩
     refine sq (fun h6 h6p h6s => ?_) fun h6 h6p h6s => ?_
     ·try simp only [Q, Val.cs_len] at h6p
      refine sqT ?_
      exfalso; simp_all --stop
     ·try simp only [Q, Val.cs_len] at h6p
      refine sq (fun h8 h8p h8s => ?_) fun h8 h8p h8s => ?_
      ·try simp only [Q, Val.cs_len] at h8p
       exfalso; simp_all --stop
      ·try simp only [Q, Val.cs_len] at h8p
       refine Walk.remI .none rfl rfl rfl (by omega) ?_
       refine evs [47, 51, 70] [] ?_
       refine ar ?_
       refine Walk.call (cr := []) cal33 (hvu) rfl .none rfl rfl (LeL.refl _) trivial rfl rfl rfl ?_
       refine evs [47, 51, 70] [] ?_
       refine CWp.loopX (ι := Nat) hk (fun i => [(14, .d (.i (i : Int)))]) [4, 15, 16, 75, 76, 77, 78, 79, 80, 81, 82, 83, 84, 85, 86, 87, 88, 89, 90, 91, 92, 93, 94, 95, 96, 97, 98, 99, 100, 101, 102] (fun i => []) (fun i => i ≤ V.length) (fun i => V.length - i) 0 (by omega) ⟨⟨_, rfl, (LeA.eqi (by first | rfl | (simp; done) | (simp_all; done) | omega))⟩, trivial⟩ trivial (fun x => rfl) (fun i hg1 => ?_)
       refine evc [47, 51, 70] [] ?_
       refine sq (fun h9 h9p h9s => ?_) fun h9 h9p h9s => ?_
       ·try simp only [Q, Val.cs_len] at h9p
        refine Walk.idx sl58 .none rfl rfl rfl rfl (vals_at (by omega)) rfl ?_
        refine evd [47, 51, 70] [] ?_
        refine Walk.call (cr := []) cal34 (hmp (nth V i) (hvo _ (nth_mem (by omega)))) rfl .none rfl rfl (LeL.refl _) trivial rfl rfl rfl ?_
        refine evd [47, 51, 70] [] ?_
        refine dr ?_
        refine sq (fun h10 h10p h10s => ?_) fun h10 h10p h10s => ?_
        ·try simp only [Q, Val.cs_len] at h10p
         refine Walk.idx sl58 (.some rfl rfl h10) rfl rfl rfl rfl (vals_at (by omega)) rfl ?_
         refine evd [47, 51, 70] [(93, true)] ?_ ⟨⟨_, rfl, h10⟩, trivial⟩
         refine Walk.call (cr := []) cal35 (impl_ValueValid_fn hs (a := ua) (k := uk) (hvo _ (nth_mem (by omega)))) rfl (.some rfl rfl h10) rfl rfl (LeL.refl _) trivial rfl rfl rfl ?_
         refine evd [47, 51, 70] [(93, true)] ?_ ⟨⟨_, rfl, h10⟩, trivial⟩
         refine dr ?_
         refine sq (fun h11 h11p h11s => ?_) fun h11 h11p h11s => ?_
         ·try simp only [Q, Val.cs_len] at h11p
          refine rn0 (r1 rfl) (.eqd ?_)
          all_goals (first | rfl | (refine congrArg D.bool ?_; simp_all; done) | (exfalso; have hM := hvv (nth V i) (hvo _ (nth_mem (by omega))) (by assumption); simp_all; done) | (exfalso; simp_all; done) | (exfalso; omega))
         ·try simp only [Q, Val.cs_len] at h11p
          refine ar ?_
          refine Exists.intro (i + 1) ⟨(by omega), (by omega), Sub.x (by kernel_rfl) (by kernel_rfl) ⟨⟨_, rfl, (LeA.eqi (by first | rfl | (simp; done) | (simp_all; done) | omega))⟩, trivial⟩ (by kernel_rfl) (by kernel_rfl) trivial⟩
        ·try simp only [Q, Val.cs_len] at h10p
         refine dr ?_
         refine sqF ?_
         refine ar ?_
         refine Exists.intro (i + 1) ⟨(by omega), (by omega), Sub.x (by kernel_rfl) (by kernel_rfl) ⟨⟨_, rfl, (LeA.eqi (by first | rfl | (simp; done) | (simp_all; done) | omega))⟩, trivial⟩ (by kernel_rfl) (by kernel_rfl) trivial⟩
       ·try simp only [Q, Val.cs_len] at h9p
        refine Walk.build st42 (ks := [0]) (xs := [_]) rfl rfl .none rfl rfl rfl ?_
        refine Walk.call (cr := []) cal40 (htf') rfl .none rfl rfl (LeL.refl _) trivial rfl rfl rfl ?_
        refine evs [47, 51, 70] [] ?_
        refine sq (fun h13 h13p h13s => ?_) fun h13 h13p h13s => ?_
        ·try simp only [Q, Val.cs_len] at h13p
         refine rn0 (r1 rfl) (.eqd ?_)
         all_goals (first | rfl | (refine congrArg D.bool ?_; simp_all; done) | (exfalso; have hM := hvv (nth V i) (hvo _ (nth_mem (by omega))) (by assumption); simp_all; done) | (exfalso; simp_all; done) | (exfalso; omega))
        ·try simp only [Q, Val.cs_len] at h13p
         refine rn0 (r1 rfl) (.eqd ?_)
         all_goals (first | rfl | (refine congrArg D.bool ?_; simp_all; done) | (exfalso; have hM := hvv (nth V i) (hvo _ (nth_mem (by omega))) (by assumption); simp_all; done) | (exfalso; simp_all; done) | (exfalso; omega))
end Go.Proofs.YtdgknigklgnefaaGreat
namespace Go.Proofs.YtdgknigklgnefaaGreat
open Go Go.ChangeShapes Go.WideShapes Go.ChangeAt Go.RowKit
set_option linter.unusedSimpArgs false
set_option linter.unusedVariables false
set_option linter.unusedVariables false
def FW (W : World) (b : Nat) : Nat := match W.heap[b]? with
 | some (.cells cs _ _) => cs.size
 | _ => 0
theorem FW_cell {W : World} {b o : Nat} {v : Value} (h : W.cell? ⟨b, o, none⟩ = some v) : o < FW W b := by
 unfold World.cell? at h
 unfold FW
 simp only at h
 split at h
 ·rename_i c t fr hb
  simp only [hb]
  simp only [Option.isSome_none, Bool.false_eq_true, if_false] at h
  exact (Array.getElem?_eq_some_iff.1 h).1
 ·cases h
theorem FW_top {W : World} {b : Nat} (h : W.heap.size ≤ b) : FW W b = 0 := by
 unfold FW
 rw [Array.getElem?_eq_none h]
structure RelL (W : World) (xs : List D) (cs : List Value) : Prop where
 len : xs.length = cs.length
 rel : ∀ i (h1 : i < xs.length) (h2 : i < cs.length), RelD (FW W) W xs[i] cs[i]
theorem RelL.append {W : World} {xs ys : List D} {cs ds : List Value} (h : RelL W xs cs) (k : RelL W ys ds) : RelL W (xs ++ ys) (cs ++ ds) := by
 refine ⟨by simp [h.len, k.len], fun i h1 h2 => ?_⟩
 by_cases hi : i < xs.length
 ·rw [List.getElem_append_left hi, List.getElem_append_left (by rw [← h.len]; exact hi)]
  exact h.rel i hi (by rw [← h.len]; exact hi)
 ·have hl := h.len
  rw [List.getElem_append_right (by omega), List.getElem_append_right (by omega)]
  have e : i - xs.length = i - cs.length := by omega
  have h1' : i - xs.length < ys.length := by simp only [List.length_append] at h1; omega
  have h2' : i - cs.length < ds.length := by simp only [List.length_append] at h2; omega
  have := k.rel (i - xs.length) h1' (by omega)
  simp only [e] at this ⊢
  exact this
def Dec (P : Program) (W : World) (n : Nat) (t : TypeId) {α : Type} (f : α → List D) (m : α → Nat) (R : α → Prop) : Prop :=
 ∀ (H : Type) (enc : TypeId × Value → H) (cs : List Value) (x : DataW H × List MemPlace), DataW.trod enc P W 0 (fun _ => true) true n t cs = some x →
  ∃ a, RelL W (f a) cs ∧ m a + 1 ≤ Rows.uptoBulk x.1 ∧ R a
section
variable {P : Program} {W : World} {n : Nat} {t : TypeId}
theorem Dec.zero {α : Type} {f : α → List D} {m : α → Nat} {R : α → Prop} : Dec P W 0 t f m R := fun H enc cs x h => by simp [DataW.trod] at h
theorem Dec.map {α β : Type} {f : α → List D} {m : α → Nat} {R : α → Prop} {f' : β → List D} {m' : β → Nat} {R' : β → Prop} (g : α → β) (h : Dec P W n t f m R)
  (h1 : ∀ a, f' (g a) = f a) (h2 : ∀ a, m' (g a) ≤ m a) (h3 : ∀ a, R a → R' (g a)) : Dec P W n t f' m' R' := fun H enc cs x hx => by
 obtain ⟨a, q1, q2, q3⟩ := h H enc cs x hx
 exact ⟨g a, by rw [h1]; exact q1, by have := h2 a; omega, h3 a q3⟩
theorem RelL.one {x : D} {v : Value} (h : RelD (FW W) W x v) : RelL W [x] [v] :=
 ⟨rfl, fun i h1 h2 => by
  have : i = 0 := by simp at h1; omega
  subst this
  exact h⟩
theorem Dec.int {k : IntKind} (ht : P.underlying t = some (.int k)) : Dec P W n t (fun z : Int => [.int k z]) (fun _ => 0) (fun z => (Lit.int k z).wf = true) := fun H enc cs x h => by
 obtain ⟨z, rfl, rfl, hw⟩ := DataW.trod_int ht h
 exact ⟨z, .one (.int k z), by simp [Rows.uptoBulk], hw⟩
theorem Dec.bool (ht : P.underlying t = some .bool) : Dec P W n t (fun z : Bool => [.bool z]) (fun _ => 0) (fun _ => True) := fun H enc cs x h => by
 obtain ⟨z, rfl, rfl⟩ := DataW.trod_bool ht h
 exact ⟨z, .one (.bool z), by simp [Rows.uptoBulk], trivial⟩
theorem Dec.str (ht : P.underlying t = some .string) : Dec P W n t (fun s : Str => [.str s]) (fun s => s.length) (fun _ => True) := fun H enc cs x h => by
 obtain ⟨s, rfl, rfl, hw⟩ := DataW.trod_string ht h
 exact ⟨s.data.toList, .one (by have := RelD.str (F := FW W) (w := W) s.data.toList; simpa using this), by simp [Rows.uptoBulk], trivial⟩
def sumM {α : Type} (m : α → Nat) : List α → Nat
 | [] => 0
 | a :: r => m a + 1 + sumM m r
theorem sumM_len {α : Type} (m : α → Nat) : ∀ l : List α, l.length ≤ sumM m l
 | [] => by simp [sumM]
 | a :: r => by have := sumM_len m r; simp only [sumM, List.length_cons]; omega
theorem choose_list {α β : Type} {Q : Nat → α → β → Prop} : ∀ (l : List β) (o : Nat), (∀ i (h : i < l.length), ∃ a, Q (o + i) a l[i]) → ∃ zs : List α, zs.length = l.length ∧ ∀ i (h : i < l.length) (h' : i < zs.length), Q (o + i) zs[i] l[i]
 | [], o, _ => ⟨[], rfl, fun i h => by simp at h⟩
 | b :: r, o, h => by
  obtain ⟨a, ha⟩ := h 0 (by simp)
  obtain ⟨zs, h1, h2⟩ := choose_list (Q := Q) r (o + 1) (fun i hi => by
   have := h (i + 1) (by simp; omega)
   rw [show o + 1 + i = o + (i + 1) by omega]
   simpa using this)
  refine ⟨a :: zs, by simp [h1], fun i hi hi' => ?_⟩
  cases i with
  | zero => exact ha
  | succ i =>
   have := h2 i (by simpa using hi) (by simpa using hi')
   rw [show o + 1 + i = o + (i + 1) by omega] at this
   simpa using this
theorem bulk_sum {H α : Type} {m : α → Nat} : ∀ {zs : List α} {xs : List (DataW H)}, zs.length = xs.length → (∀ i (h : i < zs.length) (h' : i < xs.length), m zs[i] + 1 ≤ Rows.uptoBulk xs[i]) → sumM m zs ≤ Rows.uptoBulkAll xs
 | [], [], _, _ => by simp [sumM, Rows.uptoBulkAll]
 | a :: zs, x :: xs, hl, h => by
  have h0 := h 0 (by simp) (by simp)
  have ih := bulk_sum (m := m) (zs := zs) (xs := xs) (by simpa using hl) (fun i h1 h2 => by
   have := h (i + 1) (by simp; omega) (by simp; omega)
   simpa using this)
  simp only [sumM, Rows.uptoBulkAll]
  simp only [List.getElem_cons_zero] at h0
  omega
 | [], _ :: _, hl, _ => by simp at hl
 | _ :: _, [], hl, _ => by simp at hl
theorem Dec.sl {α : Type} {f : α → List D} {m : α → Nat} {R : α → Prop} {e : TypeId} {k : Nat} (ht : P.underlying t = some (.slice e)) (hc : P.cellsOf e = k + 1) (hk : ∀ a, (f a).length = k + 1) (he : Dec P W n e f m R) :
  Dec P W (n + 1) t (fun l : List α => [.sl (l.map f)]) (fun l => sumM m l) (fun l => ∀ a ∈ l, R a) := fun H enc cs x h => by
 rcases DataW.trod_slice ht h with ⟨rfl, rfl⟩ | ⟨a, len, cap, elems, rest, n', hn, rfl, rfl, _, hcap, _, hlen, hel, _, _⟩
 ·exact ⟨[], .one .nil, by simp [sumM, Rows.uptoBulk], fun a h => by simp at h⟩
 obtain rfl : n = n' := by omega
 have each : ∀ i (hi : i < elems.length), ∃ y, (∃ cs, W.cells? 0 (a.add (i * (k + 1))) (k + 1) = some cs ∧ RelL W (f y) cs) ∧ m y + 1 ≤ Rows.uptoBulk (elems[i]).1 ∧ R y := by
  intro i hi
  have := hel i (by omega)
  rw [hc, List.getElem?_eq_getElem hi, Option.bind_eq_some_iff] at this
  obtain ⟨cs, h1, h2⟩ := this
  obtain ⟨y, h3, h4, h5⟩ := he H enc cs _ h2
  exact ⟨y, ⟨cs, h1, h3⟩, h4, h5⟩
 obtain ⟨zs, hal, has⟩ := choose_list (Q := fun i y (el : DataW H × List MemPlace) => (∃ cs, W.cells? 0 (a.add (i * (k + 1))) (k + 1) = some cs ∧ RelL W (f y) cs) ∧ m y + 1 ≤ Rows.uptoBulk el.1 ∧ R y) elems 0 (fun i hi => by simpa using each i hi)
 refine ⟨zs, .one ?_, ?_, fun y hy => ?_⟩
 ·by_cases h0 : zs = []
  ·subst h0
   have hz : len = 0 := by simp at hal; omega
   subst hz
   obtain ⟨b, o, s⟩ := a
   cases s with
   | none => exact .sl [] 0 b o cap (fun _ => undef) (by simp) (by simp) (fun n hn => by simp at hn) (fun i hi => by simp at hi)
   | some s => exact .emp b o s cap
  ·have hpos : 0 < zs.length := List.length_pos_iff.2 h0
   obtain ⟨⟨cs0, hc0, hr0⟩, _⟩ := has 0 (by omega) hpos
   have hspot : a.spot = none := by
    have h1 := (World.cells?_some hc0).2.2 0 (by omega)
    have h2 : 0 < cs0.length := by have := (World.cells?_some hc0).2.1; omega
    simp only [Nat.add_zero, Nat.zero_mul, Addr.add, if_true, List.getElem?_eq_getElem h2] at h1
    unfold World.cell? at h1
    split at h1
    ·cases hs : a.spot with
     | none => rfl
     | some s => simp [hs] at h1
    ·cases h1
   obtain ⟨b, o, s⟩ := a
   simp only at hspot
   subst hspot
   have hlen' : (zs.map f).length = len := by simp; omega
   have hmulk : ∀ i j, i < zs.length → j < k + 1 → i * (k + 1) + j < zs.length * (k + 1) := fun i j hi hj => by
    have : (i + 1) * (k + 1) ≤ zs.length * (k + 1) := Nat.mul_le_mul_right _ (by omega)
    rw [Nat.add_mul, Nat.one_mul] at this
    omega
   have cellAt : ∀ i (hi : i < zs.length) j (hj : j < (f zs[i]).length), ∃ v, W.cell? ⟨b, o + (i * (k + 1) + j), none⟩ = some v ∧ RelD (FW W) W ((f zs[i])[j]) v := fun i hi j hj => by
    obtain ⟨⟨cs, hc1, hr1⟩, _⟩ := has i (by omega) hi
    have hjk : j < k + 1 := by have := hk zs[i]; omega
    obtain ⟨_, q1, q2⟩ := World.cells?_some hc1
    have q3 := q2 j hjk
    rw [List.getElem?_eq_getElem (by omega)] at q3
    refine ⟨cs[j], ?_, hr1.rel j hj (by omega)⟩
    rw [← q3]
    congr 1
    simp only [Nat.zero_add, Addr.add]
    split <;> split <;> simp_all <;> omega
   have hv : ((zs.map f).length, cap) = (len, cap) := by rw [hlen']
   have goal : RelD (FW W) W (.sl (zs.map f)) (.slice (some ⟨b, o, none⟩) (zs.map f).length cap) := by
    refine .sl _ (k + 1) b o cap (fun q => (W.cell? ⟨b, o + q, none⟩).getD undef) (fun y hy => ?_) (by omega) (fun q hq => ?_) (fun i hi j hj => ?_)
    ·obtain ⟨y', _, rfl⟩ := List.mem_map.1 hy; exact hk y'
    ·have hq' : q < zs.length * (k + 1) := by simpa using hq
     have hi : q / (k + 1) < zs.length := Nat.div_lt_of_lt_mul (by rw [Nat.mul_comm]; exact hq')
     have hj : q % (k + 1) < k + 1 := Nat.mod_lt _ (by omega)
     obtain ⟨v, h1, _⟩ := cellAt _ hi (q % (k + 1)) (by rw [hk]; exact hj)
     rw [Nat.div_add_mod'] at h1
     exact ⟨FW_cell h1, by rw [h1]; rfl⟩
    ·have hi' : i < zs.length := by simpa using hi
     simp only [List.getElem_map] at hj ⊢
     obtain ⟨v, h1, h2⟩ := cellAt i hi' j hj
     show RelD (FW W) W _ ((W.cell? ⟨b, o + (i * (k + 1) + j), none⟩).getD undef)
     rw [h1]
     exact h2
   rw [hlen'] at goal
   exact goal
 ·have := bulk_sum (m := m) (zs := zs) (xs := elems.map (·.1)) (by simp [hal]) (fun i h1 h2 => by
   have := (has i (by simpa using h2) h1).2.1
   simpa using this)
  simp only [Rows.uptoBulk]
  omega
 ·obtain ⟨i, hi, rfl⟩ := List.getElem_of_mem hy
  exact (has i (by omega) hi).2.2
def DecF (P : Program) (W : World) (n o K : Nat) (fs : List Field) {α : Type} (f : α → List D) (m : α → Nat) (R : α → Prop) : Prop :=
 ∀ (H : Type) (enc : TypeId × Value → H) (cs : List Value) (xs : List (DataW H × List MemPlace)), cs.length = K → xs.length = fs.length →
  (∀ (i : Nat) (fd : Field), fs[i]? = some fd → DataW.trod enc P W 0 (fun _ => true) true n fd.type ((cs.drop fd.offset).take (P.cellsOf fd.type)) = xs[i]?) →
  ∃ a, RelL W (f a) (cs.drop o) ∧ m a ≤ Rows.uptoBulkAll (xs.map (·.1)) ∧ R a
theorem DecF.nil {K : Nat} : DecF P W n K K [] (fun _ : Unit => []) (fun _ => 0) (fun _ => True) := fun H enc cs xs h1 h2 _ =>
 ⟨(), by rw [List.drop_of_length_le (by omega)]; exact ⟨rfl, fun i h => by simp at h⟩, by simp, trivial⟩
theorem DecF.cons {α β : Type} {f : α → List D} {m : α → Nat} {R : α → Prop} {f2 : β → List D} {m2 : β → Nat} {R2 : β → Prop} {o K k : Nat} {fd : Field} {fs : List Field}
  (h1 : Dec P W n fd.type f m R) (ho : fd.offset = o) (hc : P.cellsOf fd.type = k) (h2 : DecF P W n (o + k) K fs f2 m2 R2) :
  DecF P W n o K (fd :: fs) (fun p : α × β => f p.1 ++ f2 p.2) (fun p => m p.1 + 1 + m2 p.2) (fun p => R p.1 ∧ R2 p.2) := fun H enc cs xs hK hl hx => by
 cases xs with
 | nil => simp at hl
 | cons y ys =>
  have h0 := hx 0 fd (by simp)
  simp only [List.getElem?_cons_zero] at h0
  rw [ho, hc] at h0
  obtain ⟨a, q1, q2, q3⟩ := h1 H enc _ _ h0
  obtain ⟨b, r1, r2, r3⟩ := h2 H enc cs ys hK (by simpa using hl) (fun i fd' hi => by
   have := hx (i + 1) fd' (by simpa using hi)
   simpa using this)
  refine ⟨(a, b), ?_, ?_, q3, r3⟩
  ·have : cs.drop o = (cs.drop o).take k ++ cs.drop (o + k) := by
    rw [← List.drop_drop, List.take_append_drop]
   rw [this]
   exact q1.append r1
  ·simp only [List.map_cons, Rows.uptoBulkAll]
   omega
theorem Dec.struct {α : Type} {f : α → List D} {m : α → Nat} {R : α → Prop} {fs : Array Field} (ht : P.underlying t = some (.struct fs)) {K : Nat} (hK : P.cellsOf t = K) (h : DecF P W n 0 K fs.toList f m R) :
  Dec P W (n + 1) t f m R := fun H enc cs x hx => by
 obtain ⟨xs, n', hn, rfl, hl, hxl, hf⟩ := DataW.trod_struct ht hx
 obtain rfl : n = n' := by omega
 obtain ⟨a, q1, q2, q3⟩ := h H enc cs xs (by omega) (by simpa using hxl) (fun i fd hi => hf i fd (by simpa using hi))
 refine ⟨a, by simpa using q1, ?_, q3⟩
 simp only [Rows.uptoBulk]
 omega
end
section
variable {P : Program} {W : World} {base : Nat} {t : TypeId} {v : Value} {H : Type} {enc : TypeId × Value → H} {d : DataW H} {ps : List MemPlace}
theorem arg_sl {α : Type} {e : TypeId} {f : α → List D} {m : α → Nat} {R : α → Prop} {k : Nat} (ht : P.underlying t = some (.slice e)) (hc : P.cellsOf e = k + 1) (hk : ∀ a, (f a).length = k + 1) (hd : ∀ n, Dec P W n e f m R)
  (hval : Value.okWide P W .any base t v) (h : DataW.Trod enc P W 0 (fun _ => true) true t v d ps) :
  ∃ l : List α, (∀ G T, G.F = FW W → RelA G T W (.d (.sl (l.map f))) v) ∧ sumM m l + 1 ≤ Rows.uptoBulk d ∧ ∀ a ∈ l, R a := by
 obtain ⟨n, hn⟩ := h
 cases n with
 | zero => simp [DataW.trod] at hn
 | succ n =>
  obtain ⟨l, h1, h2, h3⟩ := Dec.sl ht hc hk (hd n) H enc _ _ hn
  have hcells : v.cells.toList = [v] := by
   cases v with
   | agg cs => simp only [Value.okWide, ht, Cell.okWide, Cell.ok] at hval
   | _ => rfl
  rw [hcells] at h1
  exact ⟨l, fun G T hG => .d (by rw [hG]; simpa using h1.rel 0 (by simp) (by simp)), h2, h3⟩
end
section
variable {P : Program} {H : Type} {enc : TypeId × Value → H}
theorem trodAll_below (hl : laidOutB P = true) {W W' : World} (hb : Below W.heap.size W W') : ∀ {ts : List TypeId} {vs : List Value} {ds : List (DataW H)} {ps : List MemPlace},
  (∀ t ∈ ts, P.readableRec t = true ∧ t < P.types.size) → DataW.TrodAll enc P W 0 (fun _ => true) true ts vs ds ps → (∀ x ∈ ps, x.block < W.heap.size) →
  DataW.TrodAll enc P W' 0 (fun b => decide (b < W.heap.size)) true ts vs ds ps
 | [], [], [], ps, _, h, _ => h
 | t :: ts, v :: vs, d :: ds, ps, hr, h, hlt => by
  obtain ⟨p, q, h1, h2, rfl⟩ := h
  exact ⟨p, q, Below.trod hl (hr t (by simp)).1 (hr t (by simp)).2 h1 hb (fun x hx => hlt x (by simp [hx])),
   trodAll_below hl hb (fun t ht => hr t (by simp [ht])) h2 (fun x hx => hlt x (by simp [hx])), rfl⟩
theorem law_post {f : Func} {s : ChangeSpec} {W W' : World} {args : Array Value} {ds gs : List (DataW H)} {before : List MemPlace} {tb : TypeId}
  (hW : DataW.Whole enc P f.params.toList s.vars false W args.toList ds gs before) (hvars : s.vars = []) (hrt : f.resultTypes = #[tb]) (htb : P.underlying tb = some .bool)
  (hs : s.fn H (ds ++ gs) = { results := [.lit (.bool true)], args := ds }) (hl : laidOutB P = true) (hr : ∀ t ∈ f.params.toList, P.readableRec t = true ∧ t < P.types.size)
  (hb : Below W.heap.size W W') : s.post enc P f false true false false W args (.bool true) W' := by
 have hlt : ∀ p ∈ before, p.block < W.heap.size := fun p hp => hW.lt p hp
 have hW0 := hW
 obtain ⟨p, q, hA, hV, rfl, hfz, _⟩ := hW
 rw [hvars] at hV
 cases gs with
 | cons g gs => exact hV.elim
 | nil =>
  have hq : q = [] := hV
  subst hq
  simp only [List.append_nil] at *
  refine ⟨ds, [], p, [], p, [], by simpa [hvars] using hW0, ?_, ?_, ?_, World.keptBut_mono (fun x hx => ⟨hx, .inr (.inl hx)⟩) (hb.frame (· ∈ p)), fun h => by cases h⟩
  ·simp only [List.append_nil, hs, hrt]
   exact trodAll_cons_mk (shut_bool htb _) trodAll_mk0
  ·simp only [List.append_nil, hs]
   exact trodAll_below hl hb hr hA hlt
  ·simp only [hvars, List.append_nil, hs]
   rfl
theorem law_calls {f : FuncId} {avs : List AV} {W : World} {args : Array Value} {r : AV} (hf : FnD P f avs [] r [])
  (hargs : ∀ G T, G.F = FW W → AllR G T W avs args) : Calls P f args W fun e W' => ∃ v G', e = .returned v ∧ RelA G' (fun _ => none) W' r v ∧ Below W.heap.size W W' := by
 let G : Gh := { F := FW W, loc := fun _ => [] }
 refine (hf G W args ⟨hargs G _ rfl, fun id r h => (by simp [getH] at h), fun id id' h => (by simp [getH] at h), fun b hb => FW_top hb⟩).mono ?_
 rintro e W' ⟨v, r', hp', G', rfl, ⟨rfl, rfl⟩, h⟩
 exact ⟨v, G', rfl, h.res, ⟨h.frm.os, h.frm.tape, h.frm.output, h.frm.size, fun b hb => (h.frm.block b hb (by simp [ownedL])).1⟩⟩
theorem RelA.bool_true {G : Gh} {T : TokF} {w : World} {v : Value} (h : RelA G T w (.d (.bool true)) v) : v = .bool true := by
 cases h with | d h => cases h; rfl
theorem bound_of {H : Type} {l : List (DataW H)} (hk : Rows.uptoSmall H l = true) : Rows.uptoBulkAll l ≤ 1048576 := of_decide_eq_true hk
end
end Go.Proofs.YtdgknigklgnefaaGreat
namespace Go.Proofs.YtdgknigklgnefaaGreat
open Go Go.ChangeShapes Go.WideShapes Go.ChangeAt Go.RowKit
set_option linter.unusedSimpArgs false
set_option linter.unusedVariables false
set_option maxRecDepth 100000
theorem decByte (W : World) (n : Nat) : Dec Tryz.prog W n 5 (fun x : UInt8 => [D.int .u8 (x.toNat : Int)]) (fun _ => 0) (fun _ => True) := fun H enc cs x hx => by
 obtain ⟨z, q1, q2, q3⟩ := Dec.int (k := .u8) Tryz.underlying5 H enc cs x hx
 have h : 0 ≤ z ∧ z ≤ 255 := by
  simp [Lit.wf, IntKind.wrap, IntKind.signed, IntKind.bits, IntKind.min, IntKind.max] at q3
  omega
 refine ⟨UInt8.ofNat z.toNat, ?_, q2, trivial⟩
 have e : (((UInt8.ofNat z.toNat).toNat : Nat) : Int) = z := by
  rw [UInt8.toNat_ofNat', Nat.mod_eq_of_lt (by omega)]; omega
 show RelL W [D.int .u8 (((UInt8.ofNat z.toNat).toNat : Nat) : Int)] cs
 rw [e]; exact q1
end Go.Proofs.YtdgknigklgnefaaGreat
namespace Go.Proofs.YtdgknigklgnefaaGreat.fnNarrowType
open Go Go.ChangeShapes Go.WideShapes Go.ChangeAt Go.RowKit
set_option linter.unusedSimpArgs false
set_option linter.unusedVariables false
theorem own : ownKnob Tryz.prog.godebug = none := by kernel_rfl
theorem laidOut : laidOutB Tryz.prog = true := by kernel_rfl
set_option maxRecDepth 100000 in
theorem contract (H : Type) (enc : TypeId × Value → H) (W : World) (base : Nat) (args : Array Value) (ds gs : List (DataW H)) (before : List MemPlace)
  (hval : ∀ (j : Nat) t v, Tryz.f7.params[j]? = some t → args[j]? = some v → Value.okWide Tryz.prog W .any base t v)
  (hW : DataW.Whole enc Tryz.prog Tryz.f7.params.toList Rows.fnNarrowTypeSpec.vars false W args.toList ds gs before) (hk : Rows.uptoSmall H (ds ++ gs) = true) :
  Calls Tryz.prog 7 args W fun e W' => ∃ v, e = .returned v ∧ Rows.fnNarrowTypeSpec.post enc Tryz.prog Tryz.f7 false true false false W args v W' := by
 have hb := bound_of hk
 have hW' := hW
 obtain ⟨p, q, hA0, hV, rfl, hfz, hnd⟩ := hW
 have hA : DataW.TrodAll enc Tryz.prog W 0 (fun _ => true) true Tryz.f7.params.toList args.toList ds p := hA0
 rw [Tryz.params7] at hA hval
 obtain ⟨v0, vs0, d0, ds0, p0, q0, hargs, rfl, rfl, h0, r0⟩ := trodAll_cons hA
 obtain ⟨v1, vs1, d1, ds1, p1, q1, rfl, rfl, rfl, h1, r1⟩ := trodAll_cons r0
 obtain ⟨rfl, rfl, rfl⟩ := trodAll_nil r1
 obtain rfl : args = #[v0, v1] := by cases args; simp_all
 obtain ⟨rfl, rfl⟩ := trodVars_none hV
 simp only [List.append_nil, Rows.uptoBulkAll] at hb
 obtain ⟨b, a0, b0, _⟩ := arg_sl (k := 0) Tryz.underlying48 (by kernel_rfl) (fun _ => rfl) (decByte W) (hval 0 _ v0 rfl rfl) h0
 obtain ⟨c, a1, b1, _⟩ := arg_sl (k := 0) Tryz.underlying48 (by kernel_rfl) (fun _ => rfl) (decByte W) (hval 1 _ v1 rfl rfl) h1
 have ln_b : b.length ≤ 1000000000000 := by have := sumM_len (fun _ : UInt8 => 0) b; omega
 have ln_c : c.length ≤ 1000000000000 := by have := sumM_len (fun _ : UInt8 => 0) c; omega
 refine (law_calls (laws_FnNarrowType_fn ln_b ln_c) (W := W) (args := #[v0, v1]) (fun G T hG => ⟨rfl, fun i hi hv => ?_⟩)).mono ?_
 ·match i, hi with
  | 0, _ => exact a0 G T hG
  | 1, _ => exact a1 G T hG
 ·rintro e W' ⟨v, G', rfl, hr, hbelow⟩
  obtain rfl := hr.bool_true
  exact ⟨_, rfl, law_post hW' rfl rfl Tryz.underlying4 rfl laidOut (fun t ht => by
   simp only [Tryz.params7, List.mem_cons, List.not_mem_nil, or_false] at ht
   rcases ht with rfl | rfl <;> exact ⟨by kernel_rfl, of_decide_eq_true (by kernel_rfl)⟩) hbelow⟩
set_option maxRecDepth 100000 in
theorem lifted (os : Os) (started : os.Started) (H : Type) (enc : TypeId × Value → H) (F : Stop.Interp) :
  ReturnsInHanded {} Tryz.checked os 7 .any ((Rows.OpenSpec.upto Rows.fnNarrowTypeSpec).pre6 enc Tryz.prog Tryz.f7 Rows.fnNarrowTypeUptoRow.domain false) (((Rows.OpenSpec.upto Rows.fnNarrowTypeSpec).at F).post enc Tryz.prog Tryz.f7 false true false false) := by
 refine returnsInHanded_of_cond (C := Tryz.checked) (s := Rows.OpenSpec.upto Rows.fnNarrowTypeSpec) (k := Rows.uptoSmall) rfl own started (by kernel_rfl) Tryz.func7
  (OpenSpec.witness (enc := enc) (C := Tryz.checked) (s := Rows.OpenSpec.upto Rows.fnNarrowTypeSpec) (k := Rows.uptoSmall) rfl false ⟨#[], #[.slice none 0 0, .slice none 0 0], []⟩ 8 (by kernel_rfl) (by kernel_rfl) (by kernel_rfl)
   (x := ([.nil, .nil], [], [])) (by kernel_rfl) rfl (by kernel_rfl)) ?_
 intro W base args ds gs before hval hW _ hk _
 exact contract H enc W base args ds gs before hval hW hk
theorem kf1 : (Rows.fnNarrowTypeUptoRow.inPlace == Tryz.pinned.checked.prog.inPlace 7) = true := by kernel_rfl
theorem kf2 : (Rows.fnNarrowTypeUptoRow.unfollowed == Tryz.pinned.checked.prog.unfollowed 7) = true := by kernel_rfl
theorem kf3 : (Rows.fnNarrowTypeUptoRow.recurses == Tryz.pinned.checked.prog.recurses 7) = true := by kernel_rfl
theorem kf4 : (Rows.fnNarrowTypeUptoRow.named == Tryz.pinned.checked.prog.varsNamed 7) = true := by kernel_rfl
theorem kf5 : laidOutB Tryz.pinned.checked.prog = true := by kernel_rfl
theorem kf6 : mapsRowed Tryz.pinned.checked.prog = true := by kernel_rfl
theorem kf7 : Tryz.pinned.checked.prog.stopsHeard = true := by kernel_rfl
theorem kf8 : Tryz.pinned.checked.prog.mayEnter = true := by kernel_rfl
theorem kf9 : (Rows.fnNarrowTypeUptoRow.lifted == Tryz.pinned.checked.prog.liftsFinal) = true := by kernel_rfl
theorem kf0 : (Rows.fnNarrowTypeUptoRow.plainKeys == Tryz.pinned.checked.prog.plainKeys) = true := by kernel_rfl
theorem facts : joinedFacts Tryz.pinned.checked.prog 7 Tryz.f7 (Rows.OpenSpec.upto Rows.fnNarrowTypeSpec).bare Rows.fnNarrowTypeUptoRow = true := by
 unfold joinedFacts
 rw [kf1, kf2, kf3, kf4, kf5, kf6, kf7, kf8, kf9, kf0]
 kernel_rfl
theorem named : Tryz.pinned.checked.prog.funcNamed Rows.fnNarrowTypeUptoRow.func = some 7 := by kernel_rfl
theorem over : Rows.fnNarrowTypeUptoRow.holds Tryz.pinned (Rows.OpenSpec.upto Rows.fnNarrowTypeSpec) :=
 OpenClaim.holds_of_cond 7 Tryz.f7 rfl rfl rfl rfl rfl rfl rfl ⟨rfl, rfl, rfl, rfl, rfl⟩ rfl rfl rfl rfl rfl named Tryz.func7 facts
  (of_decide_eq_true (by as_aux_lemma => kernel_rfl)) (by as_aux_lemma => unfold Func.isWrapper; first | (rw [if_pos (by decide +kernel)]; kernel_rfl) | (rw [if_neg (by decide +kernel)]; exact ⟨rfl, rfl⟩))
  (fun os started H enc _ F => lifted os started H enc F)
theorem proved : Rows.FnNarrowTypeUptoSaid := over
end Go.Proofs.YtdgknigklgnefaaGreat.fnNarrowType
