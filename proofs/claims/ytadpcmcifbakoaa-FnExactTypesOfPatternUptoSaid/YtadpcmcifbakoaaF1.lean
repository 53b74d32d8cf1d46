/-
  WALKS: the program's types and worlds.
-/
import Derived.Test.YtadpcmcifbakoaaAmFacts
import Derived.Test.YtadpcmcifbakoaaMdl
namespace Go.Proofs.Ytadpcmcifbakoaa
open Go
set_option linter.unusedSimpArgs false
set_option linter.unusedVariables false
set_option maxRecDepth 100000
set_option maxHeartbeats 2000000
theorem impl_within_fn {n lo hi : Int} : FnD Try.prog 52 [.d (.i n), .d (.i lo), .d (.i hi)] [] (.d (.bool (within n lo hi))) [] := by
 refine Fn.body (fn := Try.f52) (n := 15) rfl rfl rfl rfl rfl (fun w0 F0 own kept hk => ?_)
 refine sr ?_
 refine asg ?_
 refine tv ?_
 refine sr ?_
 refine mv ?_
 refine mv ?_
 refine Walk.leI .none rfl rfl rfl ?_
 refine mv ?_
 refine sp 10 ?_ ?_
 ·intro h1; have ⟨h1p, h1s⟩ := dup h1; try simp only [Q5] at h1s
  try simp only [Q] at h1p
  refine Walk.move (.some rfl rfl h1) rfl rfl ?_
  refine Walk.move (.some rfl rfl h1) rfl rfl ?_
  refine Walk.leI (.some rfl rfl h1) rfl rfl rfl ?_
  refine Walk.pickT .none rfl rfl h1 rfl ?_
  refine asg ?_
  refine tv ?_
  refine CWp.ret ?_
  refine ⟨_, _, [], (.cons (.tmp rfl) .nil), (.eqd ?_), ⟨rfl, rfl⟩, HSub.nil, noBox⟩
  all_goals (first | rfl | (simp [within, h1s, h1p]; done))
 ·intro h1; have ⟨h1p, h1s⟩ := dup h1; try simp only [Q5] at h1s
  try simp only [Q] at h1p
  refine ps h1 ?_
  refine ps h1 ?_
  refine ps h1 ?_
  refine Walk.pickF .none rfl rfl h1 rfl ?_
  refine asg ?_
  refine tv ?_
  refine CWp.ret ?_
  refine ⟨_, _, [], (.cons (.tmp rfl) .nil), (.eqd ?_), ⟨rfl, rfl⟩, HSub.nil, noBox⟩
  all_goals (first | rfl | (simp [within, h1s, h1p]; done))
theorem nameValid_eq {s : Str} (h : 0 < s.length) : nameValid s = (within s.length 1 5 && (upperB s[0] && nameTail (s.drop 1))) := by
 rcases s with _ | ⟨b, r⟩
 ·simp at h
 ·simp [nameValid]
theorem nameValid_len {s : Str} (h : s.length = 0 ∨ 5 < s.length) : nameValid s = false := by
 have : within s.length 1 5 = false := by
  simp only [within, Bool.and_eq_false_iff, decide_eq_false_iff_not]
  omega
 simp [nameValid, this]
theorem nameTail_drop {s : Str} {i : Nat} (h : i < s.length) : nameTail (s.drop i) = (lowerB s[i] && nameTail (s.drop (i + 1))) := by
 unfold nameTail; rw [List.drop_eq_getElem_cons h, List.all_cons]
theorem nameTail_end {s : Str} {i : Nat} (h : s.length ≤ i) : nameTail (s.drop i) = true := by
 rw [List.drop_eq_nil_of_le h]; rfl
theorem impl_NameValid_fn {s : Str} (hs : s.length ≤ 1000000000000) : FnD Try.prog 87 [.d (.str s)] [] (.d (.bool (nameValid s))) [] := by
 refine Fn.body (fn := Try.f87) (n := 34) rfl rfl rfl rfl rfl (fun w0 F0 own kept hk => ?_)
 refine sr ?_
 refine asg ?_
 refine tv ?_
 refine CWp.seq ?_
 refine sr ?_
 refine mv ?_
 refine Walk.lenS un9 .none rfl rfl ?_
 refine Walk.call (cr := []) cal52 (impl_within_fn) rfl .none rfl rfl (LeL.refl _) trivial rfl rfl rfl ?_
 refine Walk.not .none rfl rfl ?_
 refine mv ?_
 refine sp 8 ?_ ?_
 ·intro h1; have ⟨h1p, h1s⟩ := dup h1; try simp only [Q5] at h1s
  try simp only [Q, within] at h1p
  refine ps h1 ?_
  refine ps h1 ?_
  refine ps h1 ?_
  refine Walk.pickT .none rfl rfl h1 rfl ?_
  refine mv ?_
  refine ps rfl ?_
  refine ps rfl ?_
  refine ps rfl ?_
  refine Walk.pickT .none rfl rfl rfl rfl ?_
  refine tv ?_
  refine cd ?_ ?_
  ·intro h2; have ⟨h2p, h2s⟩ := dup h2; try simp only [Q5] at h2s
   try simp only [Q, within] at h2p
   refine sr ?_
   refine asg ?_
   refine tv ?_
   refine CWp.ret ?_
   refine ⟨_, _, [], (.cons (.tmp rfl) .nil), (.eqd ?_), ⟨rfl, rfl⟩, HSub.nil, noBox⟩
   all_goals (first | (simp [nameValid, h1s, h1p, h2s, h2p]; done) | (rw [nameValid_eq (by omega)]; simp [upperB]; omega) | (rw [nameValid_eq (by omega), ← hg1.2.2, nameTail_drop (by omega)]; simp [lowerB]; omega) | (rw [nameValid_eq (by omega), ← hg1.2.2, nameTail_end (by omega)]; simp [within, upperB]; omega))
  ·exact fun h => absurd h (by simp)
 ·intro h1; have ⟨h1p, h1s⟩ := dup h1; try simp only [Q5] at h1s
  try simp only [Q, within] at h1p
  refine Walk.move (.some rfl rfl h1) rfl rfl ?_
  refine Walk.idxS (i := 0) un9 (.some rfl rfl h1) rfl rfl rfl rfl (List.getElem?_eq_getElem (by omega)) ?_
  refine Walk.ltI (.some rfl rfl h1) rfl rfl rfl ?_
  refine Walk.pickF .none rfl rfl h1 rfl ?_
  refine mv ?_
  refine sp 13 ?_ ?_
  ·intro h3; have ⟨h3p, h3s⟩ := dup h3; try simp only [Q5] at h3s
   try simp only [Q, within] at h3p
   refine ps h3 ?_
   refine ps h3 ?_
   refine ps h3 ?_
   refine Walk.pickT .none rfl rfl h3 rfl ?_
   refine tv ?_
   refine cd ?_ ?_
   ·intro h4; have ⟨h4p, h4s⟩ := dup h4; try simp only [Q5] at h4s
    try simp only [Q, within] at h4p
    refine sr ?_
    refine asg ?_
    refine tv ?_
    refine CWp.ret ?_
    refine ⟨_, _, [], (.cons (.tmp rfl) .nil), (.eqd ?_), ⟨rfl, rfl⟩, HSub.nil, noBox⟩
    all_goals (first | (simp [nameValid, h1s, h1p, h3s, h3p, h4s, h4p]; done) | (rw [nameValid_eq (by omega)]; simp [upperB]; omega) | (rw [nameValid_eq (by omega), ← hg1.2.2, nameTail_drop (by omega)]; simp [lowerB]; omega) | (rw [nameValid_eq (by omega), ← hg1.2.2, nameTail_end (by omega)]; simp [within, upperB]; omega))
   ·exact fun h => absurd h (by simp)
  ·intro h3; have ⟨h3p, h3s⟩ := dup h3; try simp only [Q5] at h3s
   try simp only [Q, within] at h3p
   refine Walk.move (.some rfl rfl h3) rfl rfl ?_
   refine Walk.idxS (i := 0) un9 (.some rfl rfl h3) rfl rfl rfl rfl (List.getElem?_eq_getElem (by omega)) ?_
   refine Walk.gtI (.some rfl rfl h3) rfl rfl rfl ?_
   refine Walk.pickF .none rfl rfl h3 rfl ?_
   refine tv ?_
   refine cd ?_ ?_
   ·intro h5; have ⟨h5p, h5s⟩ := dup h5; try simp only [Q5] at h5s
    try simp only [Q, within] at h5p
    refine sr ?_
    refine asg ?_
    refine tv ?_
    refine CWp.ret ?_
    refine ⟨_, _, [], (.cons (.tmp rfl) .nil), (.eqd ?_), ⟨rfl, rfl⟩, HSub.nil, noBox⟩
    all_goals (first | (simp [nameValid, h1s, h1p, h3s, h3p, h5s, h5p]; done) | (rw [nameValid_eq (by omega)]; simp [upperB]; omega) | (rw [nameValid_eq (by omega), ← hg1.2.2, nameTail_drop (by omega)]; simp [lowerB]; omega) | (rw [nameValid_eq (by omega), ← hg1.2.2, nameTail_end (by omega)]; simp [within, upperB]; omega))
   ·intro h5; have ⟨h5p, h5s⟩ := dup h5; try simp only [Q5] at h5s
    try simp only [Q, within] at h5p
    refine CWp.skip ?_
    refine CWp.seq ?_
    refine sr ?_
    refine asg ?_
    refine tv ?_
    refine CWp.block ?_
    refine CWp.loopX (ι := Nat) hk (fun i => [(3, .d (.i (i : Int)))]) [2, 18, 19, 20, 21, 22, 23, 24, 25, 26, 27, 28, 29, 30, 31, 32, 33] (fun i => []) (fun i => 1 ≤ i ∧ i ≤ s.length ∧ nameTail (s.drop i) = nameTail (s.drop 1)) (fun i => s.length - i) 1 ⟨by omega, by omega, rfl⟩ ⟨⟨_, rfl, (LeA.eqi (by first | rfl | (simp; done) | (simp_all; done) | omega))⟩, trivial⟩ trivial (fun x => rfl) (fun i hg1 => ?_)
    refine CWp.seq ?_
    refine sr ?_
    refine mv ?_
    refine mv ?_
    refine Walk.lenS un9 .none rfl rfl ?_
    refine Walk.ltI .none rfl rfl rfl ?_
    refine tv ?_
    refine cd ?_ ?_
    ·intro h6; have ⟨h6p, h6s⟩ := dup h6; try simp only [Q5] at h6s
     try simp only [Q, within] at h6p
     refine CWp.skip ?_
     refine CWp.seq ?_
     refine CWp.block ?_
     refine sr ?_
     refine mv ?_
     refine mv ?_
     refine Walk.idxS un9 .none rfl rfl rfl rfl (List.getElem?_eq_getElem (by omega)) ?_
     refine Walk.ltI .none rfl rfl rfl ?_
     refine mv ?_
     refine sp 28 ?_ ?_
     ·intro h7; have ⟨h7p, h7s⟩ := dup h7; try simp only [Q5] at h7s
      try simp only [Q, within] at h7p
      refine ps h7 ?_
      refine ps h7 ?_
      refine ps h7 ?_
      refine ps h7 ?_
      refine Walk.pickT .none rfl rfl h7 rfl ?_
      refine tv ?_
      refine cd ?_ ?_
      ·intro h8; have ⟨h8p, h8s⟩ := dup h8; try simp only [Q5] at h8s
       try simp only [Q, within] at h8p
       refine sr ?_
       refine asg ?_
       refine tv ?_
       refine CWp.ret ?_
       refine ⟨_, _, [], (.cons (.tmp rfl) .nil), (.eqd ?_), ⟨rfl, rfl⟩, HSub.nil, noBox⟩
       all_goals (first | (simp [nameValid, h1s, h1p, h3s, h3p, h5s, h5p, h6s, h6p, h7s, h7p, h8s, h8p]; done) | (rw [nameValid_eq (by omega)]; simp [upperB]; omega) | (rw [nameValid_eq (by omega), ← hg1.2.2, nameTail_drop (by omega)]; simp [lowerB]; omega) | (rw [nameValid_eq (by omega), ← hg1.2.2, nameTail_end (by omega)]; simp [within, upperB]; omega))
      ·exact fun h => absurd h (by simp)
     ·intro h7; have ⟨h7p, h7s⟩ := dup h7; try simp only [Q5] at h7s
      try simp only [Q, within] at h7p
      refine Walk.move (.some rfl rfl h7) rfl rfl ?_
      refine Walk.move (.some rfl rfl h7) rfl rfl ?_
      refine Walk.idxS un9 (.some rfl rfl h7) rfl rfl rfl rfl (List.getElem?_eq_getElem (by omega)) ?_
      refine Walk.gtI (.some rfl rfl h7) rfl rfl rfl ?_
      refine Walk.pickF .none rfl rfl h7 rfl ?_
      refine tv ?_
      refine cd ?_ ?_
      ·intro h9; have ⟨h9p, h9s⟩ := dup h9; try simp only [Q5] at h9s
       try simp only [Q, within] at h9p
       refine sr ?_
       refine asg ?_
       refine tv ?_
       refine CWp.ret ?_
       refine ⟨_, _, [], (.cons (.tmp rfl) .nil), (.eqd ?_), ⟨rfl, rfl⟩, HSub.nil, noBox⟩
       all_goals (first | (simp [nameValid, h1s, h1p, h3s, h3p, h5s, h5p, h6s, h6p, h7s, h7p, h9s, h9p]; done) | (rw [nameValid_eq (by omega)]; simp [upperB]; omega) | (rw [nameValid_eq (by omega), ← hg1.2.2, nameTail_drop (by omega)]; simp [lowerB]; omega) | (rw [nameValid_eq (by omega), ← hg1.2.2, nameTail_end (by omega)]; simp [within, upperB]; omega))
      ·intro h9; have ⟨h9p, h9s⟩ := dup h9; try simp only [Q5] at h9s
       try simp only [Q, within] at h9p
       refine CWp.skip ?_
       refine CWp.region rfl ?_
       refine mv ?_
       refine Walk.addI .none rfl rfl rfl (by first | (constructor <;> omega) | (constructor <;> simp <;> omega)) ?_
       refine asg ?_
       refine tv ?_
       refine ⟨i + 1, ⟨by omega, by omega, by rw [← hg1.2.2, nameTail_drop (i := i) (by omega)]; simp [lowerB]; omega⟩, ?_, Sub.x (by kernel_rfl) (by kernel_rfl) ⟨⟨_, rfl, (LeA.eqi (by first | rfl | (simp; done) | (simp_all; done) | omega))⟩, trivial⟩ (by kernel_rfl) (by kernel_rfl) trivial⟩
       all_goals first | omega | (simp_all; done) | (simp_all; omega)
    ·intro h6; have ⟨h6p, h6s⟩ := dup h6; try simp only [Q5] at h6s
     try simp only [Q, within] at h6p
     refine CWp.exit ?_
     refine sr ?_
     refine asg ?_
     refine tv ?_
     refine CWp.ret ?_
     refine ⟨_, _, [], (.cons (.tmp rfl) .nil), (.eqd ?_), ⟨rfl, rfl⟩, HSub.nil, noBox⟩
     all_goals (first | (simp [nameValid, h1s, h1p, h3s, h3p, h5s, h5p, h6s, h6p]; done) | (rw [nameValid_eq (by omega)]; simp [upperB]; omega) | (rw [nameValid_eq (by omega), ← hg1.2.2, nameTail_drop (by omega)]; simp [lowerB]; omega) | (rw [nameValid_eq (by omega), ← hg1.2.2, nameTail_end (by omega)]; simp [within, upperB]; omega))
theorem boxIds_all (hp : Hp) : (boxIds hp).all (fun id => (getH ([] ++ hp) id).isSome) = true := by
 rw [List.all_eq_true]
 intro id h
 simp only [boxIds, List.mem_filter] at h
 exact (isBox_some h.2).1
def idxF {α : Type} (p : α → Bool) : List α → Nat → Int
 | [], _ => -1
 | x :: r, i => if p x then (i : Int) else idxF p r (i + 1)
theorem idxF_any {α : Type} (p : α → Bool) : ∀ (l : List α) (i : Nat), decide (0 ≤ idxF p l i) = l.any p
 | [], _ => by simp [idxF]
 | x :: r, i => by
  unfold idxF
  cases h : p x with
  | true => simp [h]
  | false => simp [h, idxF_any p r (i + 1)]
theorem okCall_d {hp : Hp} (h : okCall hp [] (.d .nilp) [] = true) (x : D) : okCall hp [] (.d x) [] = true := h
theorem slices_IndexFunc_Ty_fn {xs : List Ty} {f : Nat} {caps : List AV} {hp : Hp} {p : Ty → Bool} (hs : xs.length ≤ 1000000000000) (hcal : Callee Try.prog f)
  (hf : ∀ t ∈ xs, FnD Try.prog f ([.agg [.d (.i t.data), .d (.i t.index)]] ++ caps) hp (.d (.bool (p t))) []) (k1 : subH hp hp) (k2 : noTok hp = true) (k3 : okCall hp [] (.d .nilp) [] = true) :
  FnD Try.prog 102 [.d (encTys xs), .fn f caps] hp (.d (.i (idxF p xs 0))) [] := by
 refine Fn.body (fn := Try.f102) (n := 19) rfl rfl rfl rfl rfl (fun w0 F0 own kept hk => ?_)
 refine sr ?_
 refine asg ?_
 refine tv ?_
 refine CWp.seq ?_
 refine sr ?_
 refine mv ?_
 refine Walk.len sl24 .none rfl rfl ?_
 refine mv ?_
 refine tv ?_
 refine CWp.block ?_
 refine CWp.loopX (ι := List (Ty) × List (Ty)) hk (fun x => [(8, .d (.i (x.1.length : Int)))]) [4, 5, 9, 10, 11, 12, 13, 14, 15, 16, 17, 18] (fun x => []) (fun x => x.1 ++ x.2 = xs ∧ idxF p x.2 x.1.length = idxF p xs 0) (fun x => x.2.length) ([], xs) ⟨by simp, rfl⟩ ⟨⟨_, rfl, (LeA.eqi (by first | rfl | (simp; done) | (simp_all; done) | omega))⟩, trivial⟩ trivial (fun x => boxIds_all hp) (fun x hg1 => ?_)
 obtain ⟨pre, rest⟩ := x
 dsimp only at hg1 ⊢
 refine sr ?_
 refine Walk.ltI .none rfl rfl rfl ?_
 refine tv ?_
 refine CWp.seq ?_
 refine cd ?_ ?_
 ·intro h1; have ⟨h1p, h1s⟩ := dup h1; try simp only [Q5] at h1s
  try simp only [Q] at h1p
  rcases rest with _ | ⟨y, rest⟩
  ·exfalso; simp_all
  refine CWp.skip ?_
  refine CWp.seq ?_
  refine CWp.block ?_
  refine sr ?_
  refine mv ?_
  refine asg ?_
  refine tv ?_
  refine sr ?_
  refine mv ?_
  refine mv ?_
  refine mv ?_
  refine Walk.idx sl24 .none rfl rfl rfl rfl (zip_at hg1.1) rfl ?_
  refine Walk.loadPA ty38 .none rfl rfl rfl rfl ?_
  refine Walk.callV (cr := []) hcal (hf y (by rw [← hg1.1]; simp)) rfl .none rfl rfl rfl (LeL.refl _) k1 k2 (okCall_d k3 _) rfl ?_
  refine tv ?_
  refine cd ?_ ?_
  ·intro h2; have ⟨h2p, h2s⟩ := dup h2; try simp only [Q5] at h2s
   try simp only [Q] at h2p
   refine sr ?_
   refine mv ?_
   refine asg ?_
   refine tv ?_
   refine CWp.ret ?_
   refine ⟨_, _, [], (.cons (.tmp rfl) .nil), (.eqd ?_), ⟨rfl, rfl⟩, (fun _ _ h => h), (fun _ h => h)⟩
   all_goals (rw [← hg1.2]; simp [idxF, h1s, h1p, h2s, h2p])
  ·intro h2; have ⟨h2p, h2s⟩ := dup h2; try simp only [Q5] at h2s
   try simp only [Q] at h2p
   refine CWp.skip ?_
   refine CWp.region rfl ?_
   refine Walk.addI .none rfl rfl rfl (by first | (constructor <;> omega) | (constructor <;> simp <;> omega)) ?_
   refine mv ?_
   refine tv ?_
   refine ⟨(pre ++ [y], rest), ⟨(by have hz := hg1.1; rw [← hz]; simp), (by rw [← hg1.2]; simp [idxF, h2s])⟩, (by simp), Sub.x (by kernel_rfl) (by kernel_rfl) ⟨⟨_, rfl, (LeA.eqi (by first | rfl | (simp; done) | (simp_all; done) | omega))⟩, trivial⟩ (by simp) (by simp [coverH]) trivial⟩
 ·intro h1; have ⟨h1p, h1s⟩ := dup h1; try simp only [Q5] at h1s
  try simp only [Q] at h1p
  have hrest : rest = [] := by
   rcases rest with _ | ⟨a, b⟩
   ·rfl
   ·exfalso; have hz := congrArg List.length (hg1.1); simp only [List.length_append, List.length_cons, List.length_map] at hz; omega
  subst hrest
  refine CWp.exit ?_
  refine sr ?_
  refine asg ?_
  refine tv ?_
  refine CWp.ret ?_
  refine ⟨_, _, [], (.cons (.tmp rfl) .nil), (.eqd ?_), ⟨rfl, rfl⟩, (fun _ _ h => h), (fun _ h => h)⟩
  all_goals (rw [← hg1.2]; simp [idxF, h1s, h1p])
theorem slices_ContainsFunc_Ty_fn {xs : List Ty} {f : Nat} {caps : List AV} {hp : Hp} {p : Ty → Bool} (hs : xs.length ≤ 1000000000000) (hcal : Callee Try.prog f)
  (hf : ∀ t ∈ xs, FnD Try.prog f ([.agg [.d (.i t.data), .d (.i t.index)]] ++ caps) hp (.d (.bool (p t))) []) (k1 : subH hp hp) (k2 : noTok hp = true) (k3 : okCall hp [] (.d .nilp) [] = true) :
  FnD Try.prog 88 [.d (encTys xs), .fn f caps] hp (.d (.bool (xs.any p))) [] := by
 refine Fn.body (fn := Try.f88) (n := 9) rfl rfl rfl rfl rfl (fun w0 F0 own kept hk => ?_)
 refine sr ?_
 refine asg ?_
 refine tv ?_
 refine sr ?_
 refine mv ?_
 refine mv ?_
 refine Walk.call (cr := []) cal102 (slices_IndexFunc_Ty_fn hs hcal hf k1 k2 k3) rfl .none rfl rfl (LeL.refl _) k1 k2 (okCall_d k3 _) rfl ?_
 refine Walk.geI .none rfl rfl rfl ?_
 refine asg ?_
 refine tv ?_
 refine CWp.ret ?_
 refine ⟨_, _, [], (.cons (.tmp rfl) .nil), (.eqd ?_), ⟨rfl, rfl⟩, (fun _ _ h => h), (fun _ h => h)⟩
 all_goals (exact congrArg D.bool (idxF_any p xs 0))
theorem impl_argOk_fn {w : List Data} {a b : Int} (hs : w.length ≤ 1000000000000) : FnD Try.prog 90 [.d (encDatas w), .agg [.d (.i a), .d (.i b)]] [] (.d (.bool (argOk w.length ⟨a, b⟩))) [] := by
 refine Fn.body (fn := Try.f90) (n := 21) rfl rfl rfl rfl rfl (fun w0 F0 own kept hk => ?_)
 refine sr ?_
 refine Walk.box (id := 3003) .none rfl rfl rfl rfl rfl rfl rfl ?_
 refine asg ?_
 refine tv ?_
 refine sr ?_
 refine Walk.loadBA ty38 .none rfl rfl rfl rfl ?_
 refine Walk.build st38 (ks := [0]) (xs := [_]) rfl rfl .none rfl rfl rfl ?_
 refine Walk.eqV eq38 .none rfl rfl rfl rfl rfl ?_
 refine mv ?_
 refine sp 8 ?_ ?_
 ·intro h1; have ⟨h1p, h1s⟩ := dup h1; try simp only [Q5] at h1s
  try simp only [Q] at h1p
  refine ps h1 ?_
  refine ps h1 ?_
  refine ps h1 ?_
  refine ps h1 ?_
  refine ps h1 ?_
  refine ps h1 ?_
  refine ps h1 ?_
  refine Walk.passU rfl rfl rfl rfl rfl ?_
  refine Walk.passU rfl rfl rfl rfl rfl ?_
  refine Walk.passU rfl rfl rfl rfl rfl ?_
  refine ps h1 ?_
  refine Walk.pickT .none rfl rfl h1 rfl ?_
  refine asg ?_
  refine tv ?_
  refine CWp.ret ?_
  refine ⟨_, _, [], (.cons (.tmp rfl) .nil), (.eqd ?_), ⟨rfl, rfl⟩, HSub.nil, noBox⟩
  all_goals (first | rfl | (simp [argOk, h1s, h1p]; done) | (simp_all [argOk]; done) | (simp_all [argOk]; omega) | omega)
 ·intro h1; have ⟨h1p, h1s⟩ := dup h1; try simp only [Q5] at h1s
  try simp only [Q] at h1p
  refine Walk.fieldB fd38_0 (.some rfl rfl h1) rfl rfl ?_
  refine Walk.loadB ty3 (.some rfl rfl h1) rfl rfl rfl rfl ?_
  refine Walk.move (.some rfl rfl h1) rfl rfl ?_
  refine Walk.len sl26 (.some rfl rfl h1) rfl rfl ?_
  refine Walk.subI (.some rfl rfl h1) rfl rfl rfl (by constructor <;> simp <;> omega) ?_
  refine Walk.call (cr := []) cal52 (impl_within_fn) rfl (.some rfl rfl h1) rfl rfl (LeL.refl _) trivial rfl rfl rfl ?_
  refine Walk.move (.some rfl rfl h1) rfl rfl ?_
  refine sp 15 ?_ ?_
  ·intro h2; have ⟨h2p, h2s⟩ := dup h2; try simp only [Q5] at h2s
   try simp only [Q] at h2p
   refine Walk.fieldB fd38_1 (.some rfl rfl h2) rfl rfl ?_
   refine Walk.loadB ty3 (.some rfl rfl h2) rfl rfl rfl rfl ?_
   refine Walk.call (cr := []) cal52 (impl_within_fn) rfl (.some rfl rfl h2) rfl rfl (LeL.refl _) trivial rfl rfl rfl ?_
   refine Walk.pickT (.some rfl rfl h1) rfl rfl h2 rfl ?_
   refine Walk.pickF .none rfl rfl h1 rfl ?_
   refine asg ?_
   refine tv ?_
   refine CWp.ret ?_
   refine ⟨_, _, [], (.cons (.tmp rfl) .nil), (.eqd ?_), ⟨rfl, rfl⟩, HSub.nil, noBox⟩
   all_goals (first | rfl | (simp [argOk, h1s, h1p, h2s, h2p]; done) | (simp_all [argOk]; done) | (simp_all [argOk]; omega) | omega)
  ·intro h2; have ⟨h2p, h2s⟩ := dup h2; try simp only [Q5] at h2s
   try simp only [Q] at h2p
   refine ps h2 ?_
   refine ps h2 ?_
   refine ps h2 ?_
   refine Walk.pickF (.some rfl rfl h1) rfl rfl h2 rfl ?_
   refine Walk.pickF .none rfl rfl h1 rfl ?_
   refine asg ?_
   refine tv ?_
   refine CWp.ret ?_
   refine ⟨_, _, [], (.cons (.tmp rfl) .nil), (.eqd ?_), ⟨rfl, rfl⟩, HSub.nil, noBox⟩
   all_goals (first | rfl | (simp [argOk, h1s, h1p, h2s, h2p]; done) | (simp_all [argOk]; done) | (simp_all [argOk]; omega) | omega)
theorem impl_typeOk_fn {w : List Data} {a b : Int} (hs : w.length ≤ 1000000000000) : FnD Try.prog 54 [.d (encDatas w), .agg [.d (.i a), .d (.i b)]] [] (.d (.bool (typeOk w.length ⟨a, b⟩))) [] := by
 refine Fn.body (fn := Try.f54) (n := 21) rfl rfl rfl rfl rfl (fun w0 F0 own kept hk => ?_)
 refine sr ?_
 refine Walk.box (id := 3003) .none rfl rfl rfl rfl rfl rfl rfl ?_
 refine asg ?_
 refine tv ?_
 refine sr ?_
 refine Walk.loadBA ty38 .none rfl rfl rfl rfl ?_
 refine Walk.build st38 (ks := [0]) (xs := [_]) rfl rfl .none rfl rfl rfl ?_
 refine Walk.eqV eq38 .none rfl rfl rfl rfl rfl ?_
 refine mv ?_
 refine sp 8 ?_ ?_
 ·intro h1; have ⟨h1p, h1s⟩ := dup h1; try simp only [Q5] at h1s
  try simp only [Q] at h1p
  refine ps h1 ?_
  refine ps h1 ?_
  refine ps h1 ?_
  refine ps h1 ?_
  refine ps h1 ?_
  refine ps h1 ?_
  refine ps h1 ?_
  refine Walk.passU rfl rfl rfl rfl rfl ?_
  refine Walk.passU rfl rfl rfl rfl rfl ?_
  refine Walk.passU rfl rfl rfl rfl rfl ?_
  refine ps h1 ?_
  refine Walk.pickT .none rfl rfl h1 rfl ?_
  refine asg ?_
  refine tv ?_
  refine CWp.ret ?_
  refine ⟨_, _, [], (.cons (.tmp rfl) .nil), (.eqd ?_), ⟨rfl, rfl⟩, HSub.nil, noBox⟩
  all_goals (first | rfl | (simp [typeOk, h1s, h1p]; done) | (simp_all [typeOk]; done) | (simp_all [typeOk]; omega) | omega)
 ·intro h1; have ⟨h1p, h1s⟩ := dup h1; try simp only [Q5] at h1s
  try simp only [Q] at h1p
  refine Walk.fieldB fd38_0 (.some rfl rfl h1) rfl rfl ?_
  refine Walk.loadB ty3 (.some rfl rfl h1) rfl rfl rfl rfl ?_
  refine Walk.move (.some rfl rfl h1) rfl rfl ?_
  refine Walk.len sl26 (.some rfl rfl h1) rfl rfl ?_
  refine Walk.subI (.some rfl rfl h1) rfl rfl rfl (by constructor <;> simp <;> omega) ?_
  refine Walk.call (cr := []) cal52 (impl_within_fn) rfl (.some rfl rfl h1) rfl rfl (LeL.refl _) trivial rfl rfl rfl ?_
  refine Walk.move (.some rfl rfl h1) rfl rfl ?_
  refine sp 15 ?_ ?_
  ·intro h2; have ⟨h2p, h2s⟩ := dup h2; try simp only [Q5] at h2s
   try simp only [Q] at h2p
   refine Walk.fieldB fd38_1 (.some rfl rfl h2) rfl rfl ?_
   refine Walk.loadB ty3 (.some rfl rfl h2) rfl rfl rfl rfl ?_
   refine Walk.call (cr := []) cal52 (impl_within_fn) rfl (.some rfl rfl h2) rfl rfl (LeL.refl _) trivial rfl rfl rfl ?_
   refine Walk.pickT (.some rfl rfl h1) rfl rfl h2 rfl ?_
   refine Walk.pickF .none rfl rfl h1 rfl ?_
   refine asg ?_
   refine tv ?_
   refine CWp.ret ?_
   refine ⟨_, _, [], (.cons (.tmp rfl) .nil), (.eqd ?_), ⟨rfl, rfl⟩, HSub.nil, noBox⟩
   all_goals (first | rfl | (simp [typeOk, h1s, h1p, h2s, h2p]; done) | (simp_all [typeOk]; done) | (simp_all [typeOk]; omega) | omega)
  ·intro h2; have ⟨h2p, h2s⟩ := dup h2; try simp only [Q5] at h2s
   try simp only [Q] at h2p
   refine ps h2 ?_
   refine ps h2 ?_
   refine ps h2 ?_
   refine Walk.pickF (.some rfl rfl h1) rfl rfl h2 rfl ?_
   refine Walk.pickF .none rfl rfl h1 rfl ?_
   refine asg ?_
   refine tv ?_
   refine CWp.ret ?_
   refine ⟨_, _, [], (.cons (.tmp rfl) .nil), (.eqd ?_), ⟨rfl, rfl⟩, HSub.nil, noBox⟩
   all_goals (first | rfl | (simp [typeOk, h1s, h1p, h2s, h2p]; done) | (simp_all [typeOk]; done) | (simp_all [typeOk]; omega) | omega)
theorem impl_ctorOk_1_fn {w : List Data} {a b : Int} (hs : w.length ≤ 1000000000000) : FnD Try.prog 89 [.agg [.d (.i a), .d (.i b)], .ref 1002 0] [(1002, some (.box [.d (encDatas w)]))] (.d (.bool (!argOk w.length ⟨a, b⟩))) [] := by
 refine Fn.body (fn := Try.f89) (n := 8) rfl rfl rfl rfl rfl (fun w0 F0 own kept hk => ?_)
 refine sr ?_
 refine Walk.box (id := 3002) .none rfl rfl rfl rfl rfl rfl rfl ?_
 refine asg ?_
 refine tv ?_
 refine sr ?_
 refine Walk.loadB ty26 .none rfl rfl rfl rfl ?_
 refine Walk.loadBA ty38 .none rfl rfl rfl rfl ?_
 refine Walk.call (cr := []) cal90 (impl_argOk_fn hs) rfl .none rfl rfl (LeL.refl _) trivial rfl rfl rfl ?_
 refine Walk.not .none rfl rfl ?_
 refine asg ?_
 refine tv ?_
 refine CWp.ret ?_
 refine ⟨_, _, [], (.cons (.tmp rfl) .nil), (.eqd ?_), ⟨rfl, rfl⟩, (SubH.get ⟨rfl, trivial⟩), (fun _ h => h)⟩
 all_goals (first | rfl | (simp []; done) | (simp_all; done) | (simp_all; omega) | omega)
theorem impl_ctorOk_fn {w : List Data} {s : Str} {args : List Ty} {k : Int} (hs : w.length ≤ 1000000000000) (hn : s.length ≤ 1000000000000) (ha : args.length ≤ 1000000000000) : FnD Try.prog 53 [.d (encDatas w), .agg [.d (.str s), .d (encTys args), .d (.i k)]] [] (.d (.bool (ctorOk w.length ⟨s, args, k⟩))) [] := by
 refine Fn.body (fn := Try.f53) (n := 26) rfl rfl rfl rfl rfl (fun w0 F0 own kept hk => ?_)
 refine sr ?_
 refine Walk.box (id := 1002) .none rfl rfl rfl rfl rfl rfl rfl ?_
 refine Walk.box (id := 3003) .none rfl rfl rfl rfl rfl rfl rfl ?_
 refine asg ?_
 refine tv ?_
 refine sr ?_
 refine Walk.fieldB fd90_0 .none rfl rfl ?_
 refine Walk.loadB ty9 .none rfl rfl rfl rfl ?_
 refine Walk.call (cr := []) cal87 (impl_NameValid_fn hn) rfl .none rfl rfl (LeL.refl _) trivial rfl rfl rfl ?_
 refine mv ?_
 refine sp 8 ?_ ?_
 ·intro h1; have ⟨h1p, h1s⟩ := dup h1; try simp only [Q5] at h1s
  try simp only [Q] at h1p
  refine Walk.fieldB fd90_1 (.some rfl rfl h1) rfl rfl ?_
  refine Walk.loadB ty24 (.some rfl rfl h1) rfl rfl rfl rfl ?_
  refine Walk.len sl24 (.some rfl rfl h1) rfl rfl ?_
  refine Walk.leI (.some rfl rfl h1) rfl rfl rfl ?_
  refine Walk.pickT .none rfl rfl h1 rfl ?_
  refine mv ?_
  refine sp 14 ?_ ?_
  ·intro h2; have ⟨h2p, h2s⟩ := dup h2; try simp only [Q5] at h2s
   try simp only [Q] at h2p
   refine Walk.fieldB fd90_2 (.some rfl rfl h2) rfl rfl ?_
   refine Walk.loadB ty3 (.some rfl rfl h2) rfl rfl rfl rfl ?_
   refine Walk.call (cr := []) cal52 (impl_within_fn) rfl (.some rfl rfl h2) rfl rfl (LeL.refl _) trivial rfl rfl rfl ?_
   refine Walk.pickT .none rfl rfl h2 rfl ?_
   refine mv ?_
   refine sp 19 ?_ ?_
   ·intro h3; have ⟨h3p, h3s⟩ := dup h3; try simp only [Q5] at h3s
    try simp only [Q] at h3p
    refine Walk.fieldB fd90_1 (.some rfl rfl h3) rfl rfl ?_
    refine Walk.loadB ty24 (.some rfl rfl h3) rfl rfl rfl rfl ?_
    refine Walk.closure (xs := [_]) rfl (.some rfl rfl h3) rfl rfl ?_
    refine Walk.call (cr := []) cal88 (slices_ContainsFunc_Ty_fn (p := fun t => !argOk w.length t) ha cal89 (fun t _ => impl_ctorOk_1_fn hs) ⟨rfl, trivial⟩ rfl rfl) rfl (.some rfl rfl h3) rfl rfl (LeL.refl _) ⟨rfl, trivial⟩ rfl rfl rfl ?_
    refine Walk.not (.some rfl rfl h3) rfl rfl ?_
    refine Walk.pickT .none rfl rfl h3 rfl ?_
    refine asg ?_
    refine tv ?_
    refine CWp.ret ?_
    refine ⟨_, _, [], (.cons (.tmp rfl) .nil), (.eqd ?_), ⟨rfl, rfl⟩, HSub.nil, noBox⟩
    all_goals (first | rfl | (simp [ctorOk, h1s, h1p, h2s, h2p, h3s, h3p]; done) | (simp_all [ctorOk]; done) | (simp_all [ctorOk]; omega) | omega)
   ·intro h3; have ⟨h3p, h3s⟩ := dup h3; try simp only [Q5] at h3s
    try simp only [Q] at h3p
    refine ps h3 ?_
    refine ps h3 ?_
    refine ps h3 ?_
    refine ps h3 ?_
    refine ps h3 ?_
    refine Walk.pickF .none rfl rfl h3 rfl ?_
    refine asg ?_
    refine tv ?_
    refine CWp.ret ?_
    refine ⟨_, _, [], (.cons (.tmp rfl) .nil), (.eqd ?_), ⟨rfl, rfl⟩, HSub.nil, noBox⟩
    all_goals (first | rfl | (simp [ctorOk, h1s, h1p, h2s, h2p, h3s, h3p]; done) | (simp_all [ctorOk]; done) | (simp_all [ctorOk]; omega) | omega)
  ·intro h2; have ⟨h2p, h2s⟩ := dup h2; try simp only [Q5] at h2s
   try simp only [Q] at h2p
   refine ps h2 ?_
   refine ps h2 ?_
   refine ps h2 ?_
   refine Walk.pickF .none rfl rfl h2 rfl ?_
   refine mv ?_
   refine ps rfl ?_
   refine ps rfl ?_
   refine ps rfl ?_
   refine ps rfl ?_
   refine ps rfl ?_
   refine Walk.pickF .none rfl rfl rfl rfl ?_
   refine asg ?_
   refine tv ?_
   refine CWp.ret ?_
   refine ⟨_, _, [], (.cons (.tmp rfl) .nil), (.eqd ?_), ⟨rfl, rfl⟩, HSub.nil, noBox⟩
   all_goals (first | rfl | (simp [ctorOk, h1s, h1p, h2s, h2p]; done) | (simp_all [ctorOk]; done) | (simp_all [ctorOk]; omega) | omega)
 ·intro h1; have ⟨h1p, h1s⟩ := dup h1; try simp only [Q5] at h1s
  try simp only [Q] at h1p
  refine ps h1 ?_
  refine ps h1 ?_
  refine ps h1 ?_
  refine ps h1 ?_
  refine Walk.pickF .none rfl rfl h1 rfl ?_
  refine mv ?_
  refine ps rfl ?_
  refine ps rfl ?_
  refine ps rfl ?_
  refine Walk.pickF .none rfl rfl rfl rfl ?_
  refine mv ?_
  refine ps rfl ?_
  refine ps rfl ?_
  refine ps rfl ?_
  refine ps rfl ?_
  refine ps rfl ?_
  refine Walk.pickF .none rfl rfl rfl rfl ?_
  refine asg ?_
  refine tv ?_
  refine CWp.ret ?_
  refine ⟨_, _, [], (.cons (.tmp rfl) .nil), (.eqd ?_), ⟨rfl, rfl⟩, HSub.nil, noBox⟩
  all_goals (first | rfl | (simp [ctorOk, h1s, h1p]; done) | (simp_all [ctorOk]; done) | (simp_all [ctorOk]; omega) | omega)
theorem getD0 {s : Str} (h : 0 < s.length) : s.getD 0 0 = s[0] := by
 rcases s with _ | ⟨b, r⟩
 ·simp at h
 ·rfl
theorem Ctor.eta (c : Ctor) : Ctor.mk c.name c.args c.index = c := rfl
theorem Ty.eta (c : Ty) : Ty.mk c.data c.index = c := rfl
theorem Data.eta (c : Data) : Data.mk c.name c.ctors = c := rfl
theorem wv_true {w : List Data} {met datas : List Str} (h4 : (w.length : Int) ≤ 4) (h : datasOk w.length met datas [] = datasOk w.length [] [] w) : D.bool true = D.bool (worldValid w) := by
 unfold worldValid
 rw [← h, decide_eq_true h4]
 rfl
theorem wv_false {w rest : List Data} {met datas : List Str} (h : datasOk w.length met datas rest = datasOk w.length [] [] w) (h2 : datasOk w.length met datas rest = false) : D.bool false = D.bool (worldValid w) := by
 unfold worldValid
 rw [← h, h2, Bool.and_false]
theorem impl_WorldValid_fn {w : List Data} (hs : WSmall w) : FnD Try.prog 21 [.d (encDatas w)] [] (.d (.bool (worldValid w))) [] := by
 have hs1 := hs.len
 refine Fn.body (fn := Try.f21) (n := 79) rfl rfl rfl rfl rfl (fun w0 F0 own kept hk => ?_)
 refine sr ?_
 refine asg ?_
 refine tv ?_
 refine CWp.seq ?_
 refine sr ?_
 refine mv ?_
 refine Walk.len sl26 .none rfl rfl ?_
 refine Walk.gtI .none rfl rfl rfl ?_
 refine tv ?_
 refine cd ?_ ?_
 ·intro h1; have ⟨h1p, h1s⟩ := dup h1; try simp only [Q5] at h1s
  try simp only [Q] at h1p
  refine sr ?_
  refine asg ?_
  refine tv ?_
  refine CWp.ret ?_
  refine ⟨_, _, [], (.cons (.tmp rfl) .nil), (.eqd ?_), ⟨rfl, rfl⟩, HSub.nil, noBox⟩
  all_goals (first | (simp [worldValid]; omega) | (exact wv_true (by omega) hg1.2) | (refine wv_false hg1.2 ?_; simp [datasOk, dataNameOk, h1s, h1p]; done) | (refine wv_false hg1.2 ?_; rw [datasOk, ← hg2.2]; simp [ctorsOk, h1s, h1p]; done) | (refine wv_false hg1.2 ?_; simp only [datasOk, dataNameOk, getD0 (s := d.name) (by omega), upperB]; simp [h1s, h1p]; omega))
 ·intro h1; have ⟨h1p, h1s⟩ := dup h1; try simp only [Q5] at h1s
  try simp only [Q] at h1p
  refine CWp.skip ?_
  refine sr ?_
  refine Walk.makeMap (id := 3012) .none rfl rfl ?_
  refine asg ?_
  refine tv ?_
  refine sr ?_
  refine Walk.makeMap (id := 3013) .none rfl rfl ?_
  refine asg ?_
  refine tv ?_
  refine CWp.seq ?_
  refine sr ?_
  refine mv ?_
  refine Walk.len sl26 .none rfl rfl ?_
  refine mv ?_
  refine tv ?_
  refine CWp.block ?_
  refine CWp.loopX (ι := List (Data) × List (Data) × (List Str) × (List Str)) hk (fun x => [(16, .d (.i (x.1.length : Int))), (3, .mapr 3012), (4, .mapr 3013)]) [2, 6, 8, 17, 18, 19, 20, 21, 22, 23, 24, 25, 26, 27, 28, 29, 30, 31, 32, 33, 34, 35, 36, 37, 38, 39, 40, 41, 42, 43, 44, 45, 46, 47, 48, 49, 50, 51, 52, 53, 54, 55, 56, 57, 58, 59, 60, 61, 62, 63, 64, 65, 66, 67, 68, 69, 70, 71, 72, 73, 74, 75, 76, 77, 78] (fun x => [(3012, some (.map x.2.2.1)), (3013, some (.map x.2.2.2))]) (fun x => x.1 ++ x.2.1 = w ∧ datasOk w.length x.2.2.1 x.2.2.2 x.2.1 = datasOk w.length [] [] w) (fun x => x.2.1.length) ([], w, [], []) ⟨by simp, rfl⟩ ⟨⟨_, rfl, (LeA.eqi (by first | rfl | (simp; done) | (simp_all; done) | omega))⟩, ⟨⟨_, rfl, (by first | exact LeA.refl _ | exact LeA.gld (by first | rfl | (simp; done) | (simp_all; done) | omega) | exact LeA.nild (by first | rfl | (simp; done) | (simp_all; done) | omega) | exact LeA.eqsl (by first | rfl | (simp; done) | (simp_all; done) | omega) | exact LeA.eqd (by first | rfl | (simp; done) | (simp_all; done) | omega))⟩, ⟨⟨_, rfl, (by first | exact LeA.refl _ | exact LeA.gld (by first | rfl | (simp; done) | (simp_all; done) | omega) | exact LeA.nild (by first | rfl | (simp; done) | (simp_all; done) | omega) | exact LeA.eqsl (by first | rfl | (simp; done) | (simp_all; done) | omega) | exact LeA.eqd (by first | rfl | (simp; done) | (simp_all; done) | omega))⟩, trivial⟩⟩⟩ ⟨(by first | rfl | (simp [getH]; done)), ⟨(by first | rfl | (simp [getH]; done)), trivial⟩⟩ (fun x => rfl) (fun x hg1 => ?_)
  obtain ⟨pre, rest, met, datas⟩ := x
  dsimp only at hg1 ⊢
  refine sr ?_
  refine Walk.ltI .none rfl rfl rfl ?_
  refine tv ?_
  refine CWp.seq ?_
  refine cd ?_ ?_
  ·intro h2; have ⟨h2p, h2s⟩ := dup h2; try simp only [Q5] at h2s
   try simp only [Q] at h2p
   rcases rest with _ | ⟨d, rest⟩
   ·exfalso; simp_all
   refine CWp.skip ?_
   refine CWp.seq ?_
   refine CWp.block ?_
   refine sr ?_
   refine Walk.idx sl26 .none rfl rfl rfl rfl (zip_at hg1.1) rfl ?_
   refine Walk.loadPA ty81 .none rfl rfl rfl rfl ?_
   refine Walk.alloc (id := 3006) tz81 rfl .none rfl rfl rfl rfl ?_
   refine Walk.store ty81 .none rfl rfl rfl rfl rfl rfl (by simp) rfl ?_
   refine tv ?_
   refine CWp.seq ?_
   refine sr ?_
   refine Walk.fieldB fd81_0 .none rfl rfl ?_
   refine Walk.loadB ty9 .none rfl rfl rfl rfl ?_
   refine Walk.lenS un9 .none rfl rfl ?_
   refine Walk.neI .none rfl rfl rfl ?_
   refine mv ?_
   refine sp 24 ?_ ?_
   ·intro h3; have ⟨h3p, h3s⟩ := dup h3; try simp only [Q5] at h3s
    try simp only [Q] at h3p
    refine ps h3 ?_
    refine ps h3 ?_
    refine ps h3 ?_
    refine ps h3 ?_
    refine Walk.pickT .none rfl rfl h3 rfl ?_
    refine mv ?_
    refine ps rfl ?_
    refine ps rfl ?_
    refine ps rfl ?_
    refine ps rfl ?_
    refine Walk.pickT .none rfl rfl rfl rfl ?_
    refine mv ?_
    refine ps rfl ?_
    refine ps rfl ?_
    refine ps rfl ?_
    refine Walk.pickT .none rfl rfl rfl rfl ?_
    refine mv ?_
    refine ps rfl ?_
    refine ps rfl ?_
    refine ps rfl ?_
    refine ps rfl ?_
    refine Walk.pickT .none rfl rfl rfl rfl ?_
    refine mv ?_
    refine ps rfl ?_
    refine ps rfl ?_
    refine ps rfl ?_
    refine ps rfl ?_
    refine ps rfl ?_
    refine Walk.pickT .none rfl rfl rfl rfl ?_
    refine tv ?_
    refine cd ?_ ?_
    ·intro h4; have ⟨h4p, h4s⟩ := dup h4; try simp only [Q5] at h4s
     try simp only [Q] at h4p
     refine sr ?_
     refine asg ?_
     refine tv ?_
     refine CWp.ret ?_
     refine ⟨_, _, [], (.cons (.tmp rfl) .nil), (.eqd ?_), ⟨rfl, rfl⟩, HSub.nil, noBox⟩
     all_goals (first | (simp [worldValid]; omega) | (exact wv_true (by omega) hg1.2) | (refine wv_false hg1.2 ?_; simp [datasOk, dataNameOk, h1s, h1p, h2s, h2p, h3s, h3p, h4s, h4p]; done) | (refine wv_false hg1.2 ?_; rw [datasOk, ← hg2.2]; simp [ctorsOk, h1s, h1p, h2s, h2p, h3s, h3p, h4s, h4p]; done) | (refine wv_false hg1.2 ?_; simp only [datasOk, dataNameOk, getD0 (s := d.name) (by omega), upperB]; simp [h1s, h1p, h2s, h2p, h3s, h3p, h4s, h4p]; omega))
    ·exact fun h => absurd h (by simp)
   ·intro h3; have ⟨h3p, h3s⟩ := dup h3; try simp only [Q5] at h3s
    try simp only [Q] at h3p
    refine Walk.fieldB fd81_0 (.some rfl rfl h3) rfl rfl ?_
    refine Walk.loadB ty9 (.some rfl rfl h3) rfl rfl rfl rfl ?_
    refine Walk.idxS (i := 0) un9 (.some rfl rfl h3) rfl rfl rfl rfl (List.getElem?_eq_getElem (by omega)) ?_
    refine Walk.ltI (.some rfl rfl h3) rfl rfl rfl ?_
    refine Walk.pickF .none rfl rfl h3 rfl ?_
    refine mv ?_
    refine sp 30 ?_ ?_
    ·intro h5; have ⟨h5p, h5s⟩ := dup h5; try simp only [Q5] at h5s
     try simp only [Q] at h5p
     refine ps h5 ?_
     refine ps h5 ?_
     refine ps h5 ?_
     refine ps h5 ?_
     refine Walk.pickT .none rfl rfl h5 rfl ?_
     refine mv ?_
     refine ps rfl ?_
     refine ps rfl ?_
     refine ps rfl ?_
     refine Walk.pickT .none rfl rfl rfl rfl ?_
     refine mv ?_
     refine ps rfl ?_
     refine ps rfl ?_
     refine ps rfl ?_
     refine ps rfl ?_
     refine Walk.pickT .none rfl rfl rfl rfl ?_
     refine mv ?_
     refine ps rfl ?_
     refine ps rfl ?_
     refine ps rfl ?_
     refine ps rfl ?_
     refine ps rfl ?_
     refine Walk.pickT .none rfl rfl rfl rfl ?_
     refine tv ?_
     refine cd ?_ ?_
     ·intro h6; have ⟨h6p, h6s⟩ := dup h6; try simp only [Q5] at h6s
      try simp only [Q] at h6p
      refine sr ?_
      refine asg ?_
      refine tv ?_
      refine CWp.ret ?_
      refine ⟨_, _, [], (.cons (.tmp rfl) .nil), (.eqd ?_), ⟨rfl, rfl⟩, HSub.nil, noBox⟩
      all_goals (first | (simp [worldValid]; omega) | (exact wv_true (by omega) hg1.2) | (refine wv_false hg1.2 ?_; simp [datasOk, dataNameOk, h1s, h1p, h2s, h2p, h3s, h3p, h5s, h5p, h6s, h6p]; done) | (refine wv_false hg1.2 ?_; rw [datasOk, ← hg2.2]; simp [ctorsOk, h1s, h1p, h2s, h2p, h3s, h3p, h5s, h5p, h6s, h6p]; done) | (refine wv_false hg1.2 ?_; simp only [datasOk, dataNameOk, getD0 (s := d.name) (by omega), upperB]; simp [h1s, h1p, h2s, h2p, h3s, h3p, h5s, h5p, h6s, h6p]; omega))
     ·exact fun h => absurd h (by simp)
    ·intro h5; have ⟨h5p, h5s⟩ := dup h5; try simp only [Q5] at h5s
     try simp only [Q] at h5p
     refine Walk.fieldB fd81_0 (.some rfl rfl h5) rfl rfl ?_
     refine Walk.loadB ty9 (.some rfl rfl h5) rfl rfl rfl rfl ?_
     refine Walk.idxS (i := 0) un9 (.some rfl rfl h5) rfl rfl rfl rfl (List.getElem?_eq_getElem (by omega)) ?_
     refine Walk.gtI (.some rfl rfl h5) rfl rfl rfl ?_
     refine Walk.pickF .none rfl rfl h5 rfl ?_
     refine mv ?_
     refine sp 36 ?_ ?_
     ·intro h7; have ⟨h7p, h7s⟩ := dup h7; try simp only [Q5] at h7s
      try simp only [Q] at h7p
      refine ps h7 ?_
      refine ps h7 ?_
      refine ps h7 ?_
      refine Walk.pickT .none rfl rfl h7 rfl ?_
      refine mv ?_
      refine ps rfl ?_
      refine ps rfl ?_
      refine ps rfl ?_
      refine ps rfl ?_
      refine Walk.pickT .none rfl rfl rfl rfl ?_
      refine mv ?_
      refine ps rfl ?_
      refine ps rfl ?_
      refine ps rfl ?_
      refine ps rfl ?_
      refine ps rfl ?_
      refine Walk.pickT .none rfl rfl rfl rfl ?_
      refine tv ?_
      refine cd ?_ ?_
      ·intro h8; have ⟨h8p, h8s⟩ := dup h8; try simp only [Q5] at h8s
       try simp only [Q] at h8p
       refine sr ?_
       refine asg ?_
       refine tv ?_
       refine CWp.ret ?_
       refine ⟨_, _, [], (.cons (.tmp rfl) .nil), (.eqd ?_), ⟨rfl, rfl⟩, HSub.nil, noBox⟩
       all_goals (first | (simp [worldValid]; omega) | (exact wv_true (by omega) hg1.2) | (refine wv_false hg1.2 ?_; simp [datasOk, dataNameOk, h1s, h1p, h2s, h2p, h3s, h3p, h5s, h5p, h7s, h7p, h8s, h8p]; done) | (refine wv_false hg1.2 ?_; rw [datasOk, ← hg2.2]; simp [ctorsOk, h1s, h1p, h2s, h2p, h3s, h3p, h5s, h5p, h7s, h7p, h8s, h8p]; done) | (refine wv_false hg1.2 ?_; simp only [datasOk, dataNameOk, getD0 (s := d.name) (by omega), upperB]; simp [h1s, h1p, h2s, h2p, h3s, h3p, h5s, h5p, h7s, h7p, h8s, h8p]; omega))
      ·exact fun h => absurd h (by simp)
     ·intro h7; have ⟨h7p, h7s⟩ := dup h7; try simp only [Q5] at h7s
      try simp only [Q] at h7p
      refine Walk.fieldB fd81_0 (.some rfl rfl h7) rfl rfl ?_
      refine Walk.loadB ty9 (.some rfl rfl h7) rfl rfl rfl rfl ?_
      refine Walk.eqS (.some rfl rfl h7) rfl rfl rfl ?_
      refine Walk.pickF .none rfl rfl h7 rfl ?_
      refine mv ?_
      refine sp 41 ?_ ?_
      ·intro h9; have ⟨h9p, h9s⟩ := dup h9; try simp only [Q5] at h9s
       try simp only [Q] at h9p
       refine ps h9 ?_
       refine ps h9 ?_
       refine ps h9 ?_
       refine ps h9 ?_
       refine Walk.pickT .none rfl rfl h9 rfl ?_
       refine mv ?_
       refine ps rfl ?_
       refine ps rfl ?_
       refine ps rfl ?_
       refine ps rfl ?_
       refine ps rfl ?_
       refine Walk.pickT .none rfl rfl rfl rfl ?_
       refine tv ?_
       refine cd ?_ ?_
       ·intro h10; have ⟨h10p, h10s⟩ := dup h10; try simp only [Q5] at h10s
        try simp only [Q] at h10p
        refine sr ?_
        refine asg ?_
        refine tv ?_
        refine CWp.ret ?_
        refine ⟨_, _, [], (.cons (.tmp rfl) .nil), (.eqd ?_), ⟨rfl, rfl⟩, HSub.nil, noBox⟩
        all_goals (first | (simp [worldValid]; omega) | (exact wv_true (by omega) hg1.2) | (refine wv_false hg1.2 ?_; simp [datasOk, dataNameOk, h1s, h1p, h2s, h2p, h3s, h3p, h5s, h5p, h7s, h7p, h9s, h9p, h10s, h10p]; done) | (refine wv_false hg1.2 ?_; rw [datasOk, ← hg2.2]; simp [ctorsOk, h1s, h1p, h2s, h2p, h3s, h3p, h5s, h5p, h7s, h7p, h9s, h9p, h10s, h10p]; done) | (refine wv_false hg1.2 ?_; simp only [datasOk, dataNameOk, getD0 (s := d.name) (by omega), upperB]; simp [h1s, h1p, h2s, h2p, h3s, h3p, h5s, h5p, h7s, h7p, h9s, h9p, h10s, h10p]; omega))
       ·exact fun h => absurd h (by simp)
      ·intro h9; have ⟨h9p, h9s⟩ := dup h9; try simp only [Q5] at h9s
       try simp only [Q] at h9p
       refine Walk.move (.some rfl rfl h9) rfl rfl ?_
       refine Walk.fieldB fd81_0 (.some rfl rfl h9) rfl rfl ?_
       refine Walk.loadB ty9 (.some rfl rfl h9) rfl rfl rfl rfl ?_
       refine Walk.lookup mp87 (.some rfl rfl h9) rfl rfl rfl rfl ?_
       refine Walk.pickF .none rfl rfl h9 rfl ?_
       refine mv ?_
       refine sp 47 ?_ ?_
       ·intro h11; have ⟨h11p, h11s⟩ := dup h11; try simp only [Q5] at h11s
        try simp only [Q] at h11p
        refine ps h11 ?_
        refine ps h11 ?_
        refine ps h11 ?_
        refine ps h11 ?_
        refine ps h11 ?_
        refine Walk.pickT .none rfl rfl h11 rfl ?_
        refine tv ?_
        refine cd ?_ ?_
        ·intro h12; have ⟨h12p, h12s⟩ := dup h12; try simp only [Q5] at h12s
         try simp only [Q] at h12p
         refine sr ?_
         refine asg ?_
         refine tv ?_
         refine CWp.ret ?_
         refine ⟨_, _, [], (.cons (.tmp rfl) .nil), (.eqd ?_), ⟨rfl, rfl⟩, HSub.nil, noBox⟩
         all_goals (first | (simp [worldValid]; omega) | (exact wv_true (by omega) hg1.2) | (refine wv_false hg1.2 ?_; simp [datasOk, dataNameOk, h1s, h1p, h2s, h2p, h3s, h3p, h5s, h5p, h7s, h7p, h9s, h9p, h11s, h11p, h12s, h12p]; done) | (refine wv_false hg1.2 ?_; rw [datasOk, ← hg2.2]; simp [ctorsOk, h1s, h1p, h2s, h2p, h3s, h3p, h5s, h5p, h7s, h7p, h9s, h9p, h11s, h11p, h12s, h12p]; done) | (refine wv_false hg1.2 ?_; simp only [datasOk, dataNameOk, getD0 (s := d.name) (by omega), upperB]; simp [h1s, h1p, h2s, h2p, h3s, h3p, h5s, h5p, h7s, h7p, h9s, h9p, h11s, h11p, h12s, h12p]; omega))
        ·exact fun h => absurd h (by simp)
       ·intro h11; have ⟨h11p, h11s⟩ := dup h11; try simp only [Q5] at h11s
        try simp only [Q] at h11p
        refine Walk.fieldB fd81_1 (.some rfl rfl h11) rfl rfl ?_
        refine Walk.loadB ty79 (.some rfl rfl h11) rfl rfl rfl rfl ?_
        refine Walk.len sl79 (.some rfl rfl h11) rfl rfl ?_
        refine Walk.call (cr := []) cal52 (impl_within_fn) rfl (.some rfl rfl h11) rfl rfl (LeL.refl _) trivial rfl rfl rfl ?_
        refine Walk.not (.some rfl rfl h11) rfl rfl ?_
        refine Walk.pickF .none rfl rfl h11 rfl ?_
        refine tv ?_
        refine cd ?_ ?_
        ·intro h13; have ⟨h13p, h13s⟩ := dup h13; try simp only [Q5] at h13s
         try simp only [Q] at h13p
         refine sr ?_
         refine asg ?_
         refine tv ?_
         refine CWp.ret ?_
         refine ⟨_, _, [], (.cons (.tmp rfl) .nil), (.eqd ?_), ⟨rfl, rfl⟩, HSub.nil, noBox⟩
         all_goals (first | (simp [worldValid]; omega) | (exact wv_true (by omega) hg1.2) | (refine wv_false hg1.2 ?_; simp [datasOk, dataNameOk, h1s, h1p, h2s, h2p, h3s, h3p, h5s, h5p, h7s, h7p, h9s, h9p, h11s, h11p, h13s, h13p]; done) | (refine wv_false hg1.2 ?_; rw [datasOk, ← hg2.2]; simp [ctorsOk, h1s, h1p, h2s, h2p, h3s, h3p, h5s, h5p, h7s, h7p, h9s, h9p, h11s, h11p, h13s, h13p]; done) | (refine wv_false hg1.2 ?_; simp only [datasOk, dataNameOk, getD0 (s := d.name) (by omega), upperB]; simp [h1s, h1p, h2s, h2p, h3s, h3p, h5s, h5p, h7s, h7p, h9s, h9p, h11s, h11p, h13s, h13p]; omega))
        ·intro h13; have ⟨h13p, h13s⟩ := dup h13; try simp only [Q5] at h13s
         try simp only [Q] at h13p
         refine CWp.skip ?_
         refine sr ?_
         refine mv ?_
         refine Walk.fieldB fd81_0 .none rfl rfl ?_
         refine Walk.loadB ty9 .none rfl rfl rfl rfl ?_
         refine Walk.mapUpdate mp87 .none rfl rfl rfl rfl (by simp_all) ?_
         refine tv ?_
         refine sr ?_
         refine Walk.fieldB fd81_1 .none rfl rfl ?_
         refine Walk.loadB ty79 .none rfl rfl rfl rfl ?_
         refine Walk.len sl79 .none rfl rfl ?_
         refine mv ?_
         refine tv ?_
         refine CWp.block ?_
         refine CWp.loopX (ι := List (Ctor) × List (Ctor) × (List Str)) hk (fun x => [(60, .d (.i (x.1.length : Int)))]) [2, 8, 61, 62, 63, 64, 65, 66, 67, 68, 69, 70, 71, 72, 73, 74, 75, 76, 77] (fun x => [(3012, some (.map x.2.2))]) (fun x => x.1 ++ x.2.1 = d.ctors ∧ ctorsOk w.length x.2.2 x.2.1 = ctorsOk w.length met d.ctors) (fun x => x.2.1.length) ([], d.ctors, met) ⟨by simp, rfl⟩ ⟨⟨_, rfl, (LeA.eqi (by first | rfl | (simp; done) | (simp_all; done) | omega))⟩, trivial⟩ ⟨(by first | rfl | (simp [getH]; done)), trivial⟩ (fun x => rfl) (fun x hg2 => ?_)
         obtain ⟨pre2, rest2, met2⟩ := x
         dsimp only at hg2 ⊢
         have hb := (hs.data d (by rw [← hg1.1]; simp)).2
         refine sr ?_
         refine Walk.ltI .none rfl rfl rfl ?_
         refine tv ?_
         refine CWp.seq ?_
         refine cd ?_ ?_
         ·intro h14; have ⟨h14p, h14s⟩ := dup h14; try simp only [Q5] at h14s
          try simp only [Q] at h14p
          rcases rest2 with _ | ⟨y, rest2⟩
          ·exfalso; simp_all
          refine CWp.skip ?_
          refine CWp.seq ?_
          refine CWp.block ?_
          refine sr ?_
          refine Walk.idx sl79 .none rfl rfl rfl rfl (zip_at hg2.1) rfl ?_
          refine Walk.loadPA ty90 .none rfl rfl rfl rfl ?_
          refine Walk.alloc (id := 3008) tz90 rfl .none rfl rfl rfl rfl ?_
          refine Walk.store ty90 .none rfl rfl rfl rfl rfl rfl (by simp) rfl ?_
          refine tv ?_
          refine CWp.seq ?_
          refine sr ?_
          refine mv ?_
          refine Walk.loadBA ty90 .none rfl rfl rfl rfl ?_
          refine Walk.call (cr := []) cal53 (impl_ctorOk_fn hs1 (hs.ctor d (by rw [← hg1.1]; simp) y (by rw [← hg2.1]; simp)).1 (hs.ctor d (by rw [← hg1.1]; simp) y (by rw [← hg2.1]; simp)).2) rfl .none rfl rfl (LeL.refl _) trivial rfl rfl rfl ?_
          refine Walk.not .none rfl rfl ?_
          refine mv ?_
          refine sp 68 ?_ ?_
          ·intro h15; have ⟨h15p, h15s⟩ := dup h15; try simp only [Q5] at h15s
           try simp only [Q] at h15p
           refine ps h15 ?_
           refine ps h15 ?_
           refine ps h15 ?_
           refine ps h15 ?_
           refine Walk.pickT .none rfl rfl h15 rfl ?_
           refine tv ?_
           refine cd ?_ ?_
           ·intro h16; have ⟨h16p, h16s⟩ := dup h16; try simp only [Q5] at h16s
            try simp only [Q] at h16p
            refine sr ?_
            refine asg ?_
            refine tv ?_
            refine CWp.ret ?_
            refine ⟨_, _, [], (.cons (.tmp rfl) .nil), (.eqd ?_), ⟨rfl, rfl⟩, HSub.nil, noBox⟩
            all_goals (first | (simp [worldValid]; omega) | (exact wv_true (by omega) hg1.2) | (refine wv_false hg1.2 ?_; simp [datasOk, dataNameOk, h1s, h1p, h2s, h2p, h3s, h3p, h5s, h5p, h7s, h7p, h9s, h9p, h11s, h11p, h13s, h13p, h14s, h14p, h15s, h15p, h16s, h16p]; done) | (refine wv_false hg1.2 ?_; rw [datasOk, ← hg2.2]; simp [ctorsOk, h1s, h1p, h2s, h2p, h3s, h3p, h5s, h5p, h7s, h7p, h9s, h9p, h11s, h11p, h13s, h13p, h14s, h14p, h15s, h15p, h16s, h16p]; done) | (refine wv_false hg1.2 ?_; simp only [datasOk, dataNameOk, getD0 (s := d.name) (by omega), upperB]; simp [h1s, h1p, h2s, h2p, h3s, h3p, h5s, h5p, h7s, h7p, h9s, h9p, h11s, h11p, h13s, h13p, h14s, h14p, h15s, h15p, h16s, h16p]; omega))
           ·exact fun h => absurd h (by simp)
          ·intro h15; have ⟨h15p, h15s⟩ := dup h15; try simp only [Q5] at h15s
           try simp only [Q] at h15p
           refine Walk.move (.some rfl rfl h15) rfl rfl ?_
           refine Walk.fieldB fd90_0 (.some rfl rfl h15) rfl rfl ?_
           refine Walk.loadB ty9 (.some rfl rfl h15) rfl rfl rfl rfl ?_
           refine Walk.lookup mp87 (.some rfl rfl h15) rfl rfl rfl rfl ?_
           refine Walk.pickF .none rfl rfl h15 rfl ?_
           refine tv ?_
           refine cd ?_ ?_
           ·intro h17; have ⟨h17p, h17s⟩ := dup h17; try simp only [Q5] at h17s
            try simp only [Q] at h17p
            refine sr ?_
            refine asg ?_
            refine tv ?_
            refine CWp.ret ?_
            refine ⟨_, _, [], (.cons (.tmp rfl) .nil), (.eqd ?_), ⟨rfl, rfl⟩, HSub.nil, noBox⟩
            all_goals (first | (simp [worldValid]; omega) | (exact wv_true (by omega) hg1.2) | (refine wv_false hg1.2 ?_; simp [datasOk, dataNameOk, h1s, h1p, h2s, h2p, h3s, h3p, h5s, h5p, h7s, h7p, h9s, h9p, h11s, h11p, h13s, h13p, h14s, h14p, h15s, h15p, h17s, h17p]; done) | (refine wv_false hg1.2 ?_; rw [datasOk, ← hg2.2]; simp [ctorsOk, h1s, h1p, h2s, h2p, h3s, h3p, h5s, h5p, h7s, h7p, h9s, h9p, h11s, h11p, h13s, h13p, h14s, h14p, h15s, h15p, h17s, h17p]; done) | (refine wv_false hg1.2 ?_; simp only [datasOk, dataNameOk, getD0 (s := d.name) (by omega), upperB]; simp [h1s, h1p, h2s, h2p, h3s, h3p, h5s, h5p, h7s, h7p, h9s, h9p, h11s, h11p, h13s, h13p, h14s, h14p, h15s, h15p, h17s, h17p]; omega))
           ·intro h17; have ⟨h17p, h17s⟩ := dup h17; try simp only [Q5] at h17s
            try simp only [Q] at h17p
            refine CWp.skip ?_
            refine CWp.region rfl ?_
            refine mv ?_
            refine Walk.fieldB fd90_0 .none rfl rfl ?_
            refine Walk.loadB ty9 .none rfl rfl rfl rfl ?_
            refine Walk.mapUpdate mp87 .none rfl rfl rfl rfl (by simp_all) ?_
            refine tv ?_
            refine CWp.region rfl ?_
            refine Walk.addI .none rfl rfl rfl (by first | (constructor <;> omega) | (constructor <;> simp <;> omega)) ?_
            refine mv ?_
            refine tv ?_
            refine ⟨(pre2 ++ [y], rest2, met2 ++ [y.name]), ⟨(by have hz := hg2.1; rw [← hz]; simp), (by rw [← hg2.2]; simp [ctorsOk, h1s, h1p, h2s, h2p, h3s, h3p, h5s, h5p, h7s, h7p, h9s, h9p, h11s, h11p, h13s, h13p, h14s, h14p, h15s, h15p, h17s, h17p])⟩, (by simp), Sub.x (by kernel_rfl) (by kernel_rfl) ⟨⟨_, rfl, (LeA.eqi (by first | rfl | (simp; done) | (simp_all; done) | omega))⟩, trivial⟩ (by kernel_rfl) (by kernel_rfl) ⟨(by first | rfl | (simp [getH]; done)), trivial⟩⟩
         ·intro h14; have ⟨h14p, h14s⟩ := dup h14; try simp only [Q5] at h14s
          try simp only [Q] at h14p
          have hrest2 : rest2 = [] := by
           rcases rest2 with _ | ⟨a, b⟩
           ·rfl
           ·exfalso; have hz := congrArg List.length (hg2.1); simp only [List.length_append, List.length_cons, List.length_map] at hz; omega
          subst hrest2
          refine CWp.exit ?_
          refine CWp.region rfl ?_
          refine Walk.addI .none rfl rfl rfl (by first | (constructor <;> omega) | (constructor <;> simp <;> omega)) ?_
          refine mv ?_
          refine tv ?_
          refine ⟨(pre ++ [d], rest, met2, datas ++ [d.name]), ⟨(by have hz := hg1.1; rw [← hz]; simp), (by rw [← hg1.2, datasOk, ← hg2.2]; simp only [dataNameOk, getD0 (s := d.name) (by omega), upperB]; simp [ctorsOk, h1s, h1p, h2s, h2p, h3s, h3p, h5s, h5p, h7s, h7p, h9s, h9p, h11s, h11p, h13s, h13p, h14s, h14p]; omega)⟩, (by simp), Sub.x (by kernel_rfl) (by kernel_rfl) ⟨⟨_, rfl, (LeA.eqi (by first | rfl | (simp; done) | (simp_all; done) | omega))⟩, ⟨⟨_, rfl, (by first | exact LeA.refl _ | exact LeA.gld (by first | rfl | (simp; done) | (simp_all; done) | omega) | exact LeA.nild (by first | rfl | (simp; done) | (simp_all; done) | omega) | exact LeA.eqsl (by first | rfl | (simp; done) | (simp_all; done) | omega) | exact LeA.eqd (by first | rfl | (simp; done) | (simp_all; done) | omega))⟩, ⟨⟨_, rfl, (by first | exact LeA.refl _ | exact LeA.gld (by first | rfl | (simp; done) | (simp_all; done) | omega) | exact LeA.nild (by first | rfl | (simp; done) | (simp_all; done) | omega) | exact LeA.eqsl (by first | rfl | (simp; done) | (simp_all; done) | omega) | exact LeA.eqd (by first | rfl | (simp; done) | (simp_all; done) | omega))⟩, trivial⟩⟩⟩ (by kernel_rfl) (by kernel_rfl) ⟨(by first | rfl | (simp [getH]; done)), ⟨(by first | rfl | (simp [getH]; done)), trivial⟩⟩⟩
  ·intro h2; have ⟨h2p, h2s⟩ := dup h2; try simp only [Q5] at h2s
   try simp only [Q] at h2p
   have hrest : rest = [] := by
    rcases rest with _ | ⟨a, b⟩
    ·rfl
    ·exfalso; have hz := congrArg List.length (hg1.1); simp only [List.length_append, List.length_cons, List.length_map] at hz; omega
   subst hrest
   refine CWp.exit ?_
   refine sr ?_
   refine asg ?_
   refine tv ?_
   refine CWp.ret ?_
   refine ⟨_, _, [], (.cons (.tmp rfl) .nil), (.eqd ?_), ⟨rfl, rfl⟩, HSub.nil, noBox⟩
   all_goals (first | (simp [worldValid]; omega) | (exact wv_true (by omega) hg1.2) | (refine wv_false hg1.2 ?_; simp [datasOk, dataNameOk, h1s, h1p, h2s, h2p]; done) | (refine wv_false hg1.2 ?_; rw [datasOk, ← hg2.2]; simp [ctorsOk, h1s, h1p, h2s, h2p]; done) | (refine wv_false hg1.2 ?_; simp only [datasOk, dataNameOk, getD0 (s := d.name) (by omega), upperB]; simp [h1s, h1p, h2s, h2p]; omega))
theorem impl_TypeValid_fn {w : List Data} {a b : Int} (hs : WSmall w) : FnD Try.prog 22 [.d (encDatas w), .agg [.d (.i a), .d (.i b)]] [] (.d (.bool (typeValid w ⟨a, b⟩))) [] := by
 refine Fn.body (fn := Try.f22) (n := 12) rfl rfl rfl rfl rfl (fun w0 F0 own kept hk => ?_)
 refine sr ?_
 refine Walk.box (id := 3003) .none rfl rfl rfl rfl rfl rfl rfl ?_
 refine asg ?_
 refine tv ?_
 refine sr ?_
 refine mv ?_
 refine Walk.call (cr := []) cal21 (impl_WorldValid_fn hs) rfl .none rfl rfl (LeL.refl _) trivial rfl rfl rfl ?_
 refine mv ?_
 refine sp 7 ?_ ?_
 ·intro h1; have ⟨h1p, h1s⟩ := dup h1; try simp only [Q5] at h1s
  try simp only [Q] at h1p
  refine Walk.move (.some rfl rfl h1) rfl rfl ?_
  refine Walk.loadBA ty38 (.some rfl rfl h1) rfl rfl rfl rfl ?_
  refine Walk.call (cr := []) cal54 (impl_typeOk_fn hs.len) rfl (.some rfl rfl h1) rfl rfl (LeL.refl _) trivial rfl rfl rfl ?_
  refine Walk.pickT .none rfl rfl h1 rfl ?_
  refine asg ?_
  refine tv ?_
  refine CWp.ret ?_
  refine ⟨_, _, [], (.cons (.tmp rfl) .nil), (.eqd ?_), ⟨rfl, rfl⟩, HSub.nil, noBox⟩
  all_goals (first | rfl | (simp [typeValid, h1s, h1p]; done) | (simp_all [typeValid]; done) | (simp_all [typeValid]; omega) | omega)
 ·intro h1; have ⟨h1p, h1s⟩ := dup h1; try simp only [Q5] at h1s
  try simp only [Q] at h1p
  refine ps h1 ?_
  refine ps h1 ?_
  refine ps h1 ?_
  refine Walk.pickF .none rfl rfl h1 rfl ?_
  refine asg ?_
  refine tv ?_
  refine CWp.ret ?_
  refine ⟨_, _, [], (.cons (.tmp rfl) .nil), (.eqd ?_), ⟨rfl, rfl⟩, HSub.nil, noBox⟩
  all_goals (first | rfl | (simp [typeValid, h1s, h1p]; done) | (simp_all [typeValid]; done) | (simp_all [typeValid]; omega) | omega)
theorem impl_allTypes_fn {w : List Data} (hw : w.length ≤ 1000000000000) : FnD Try.prog 46 [.d (encDatas w)] [] (.d (encTys (allTypesOf w.length))) [] := by
 refine Fn.body (fn := Try.f46) (n := 25) rfl rfl rfl rfl rfl (fun w0 F0 own kept hk => ?_)
 refine sr ?_
 refine asg ?_
 refine tv ?_
 refine sr ?_
 refine Walk.build st38 (ks := [0]) (xs := [_]) rfl rfl .none rfl rfl rfl ?_
 refine Walk.sliceLitG 1 sl24 tz38 rfl (by decide) (ks := [0]) (xs := [_]) rfl rfl (by decide) (by decide) .none rfl rfl rfl rfl rfl ?_
 refine asg ?_
 refine tv ?_
 refine CWp.seq ?_
 refine sr ?_
 refine mv ?_
 refine Walk.len sl26 .none rfl rfl ?_
 refine mv ?_
 refine tv ?_
 refine CWp.block ?_
 refine CWp.loopX (ι := Nat) hk (fun i => [(10, .d (.i (i : Int))), (3, .gl 1 ((⟨-1, 0⟩ :: (List.range i).flatMap fun (i : Nat) => (List.range 4).map fun (k : Nat) => (⟨i, k⟩ : Ty)).map Ty.c))]) [4, 5, 11, 12, 13, 14, 15, 16, 17, 18, 19, 20, 21, 22, 23] (fun i => [(1, some (.tok (((⟨-1, 0⟩ :: (List.range i).flatMap fun (i : Nat) => (List.range 4).map fun (k : Nat) => (⟨i, k⟩ : Ty)).map Ty.c)).length 2))]) (fun i => i ≤ w.length) (fun i => w.length - i) 0 (by simp) ⟨⟨_, rfl, (LeA.eqi (by first | rfl | (simp [List.range_succ]; done)))⟩, ⟨⟨_, rfl, (LeA.glg (by first | rfl | (simp [List.range_succ]; done)))⟩, trivial⟩⟩ ⟨beq_nat_eq (by first | rfl | (simp; done) | (simp; omega) | (first | rfl | (simp [List.range_succ]; done))), trivial⟩ (fun x => rfl) (fun i hg1 => ?_)
 refine sr ?_
 refine Walk.ltI .none rfl rfl rfl ?_
 refine tv ?_
 refine CWp.seq ?_
 refine cd ?_ ?_
 ·intro h1; have ⟨h1p, h1s⟩ := dup h1; try simp only [Q5] at h1s
  try simp only [Q] at h1p
  refine CWp.skip ?_
  refine CWp.seq ?_
  refine CWp.block ?_
  refine sr ?_
  refine mv ?_
  refine asg ?_
  refine tv ?_
  refine sr ?_
  refine asg ?_
  refine tv ?_
  refine CWp.block ?_
  refine CWp.loopX (ι := Nat) hk (fun k => [(5, .d (.i (k : Int))), (3, .gl 1 ((⟨-1, 0⟩ :: ((List.range i).flatMap fun (i : Nat) => (List.range 4).map fun (k : Nat) => (⟨i, k⟩ : Ty)) ++ (List.range k).map fun (k : Nat) => (⟨i, k⟩ : Ty)).map Ty.c))]) [13, 14, 15, 16, 17, 18, 19, 20, 21, 22] (fun k => [(1, some (.tok (((⟨-1, 0⟩ :: ((List.range i).flatMap fun (i : Nat) => (List.range 4).map fun (k : Nat) => (⟨i, k⟩ : Ty)) ++ (List.range k).map fun (k : Nat) => (⟨i, k⟩ : Ty)).map Ty.c)).length 2))]) (fun k => k ≤ 4) (fun k => 4 - k) 0 (by simp) ⟨⟨_, rfl, (LeA.eqi (by first | rfl | (simp [List.range_succ]; done)))⟩, ⟨⟨_, rfl, (LeA.glg (by first | rfl | (simp [List.range_succ]; done)))⟩, trivial⟩⟩ ⟨beq_nat_eq (by first | rfl | (simp; done) | (simp; omega) | (first | rfl | (simp [List.range_succ]; done))), trivial⟩ (fun x => rfl) (fun k hg2 => ?_)
  refine CWp.seq ?_
  refine sr ?_
  refine mv ?_
  refine Walk.leI .none rfl rfl rfl ?_
  refine tv ?_
  refine cd ?_ ?_
  ·intro h2; have ⟨h2p, h2s⟩ := dup h2; try simp only [Q5] at h2s
   try simp only [Q] at h2p
   refine CWp.skip ?_
   refine CWp.seq ?_
   refine CWp.block ?_
   refine CWp.region rfl ?_
   refine mv ?_
   refine mv ?_
   refine mv ?_
   refine Walk.build st38 (ks := [0, 1]) (xs := [_, _]) rfl rfl .none rfl rfl rfl ?_
   refine Walk.sliceLit sl24 tz38 rfl (by decide) (ks := [0]) (xs := [_]) rfl rfl (by decide) (by decide) .none rfl rfl rfl rfl ?_
   refine Walk.append sl24 zz38 rfl .none rfl rfl rfl rfl (htokL rfl (by first | rfl | (simp; done) | (simp; omega))) (by simp) (by simp [List.map_const', List.sum_replicate_nat]; omega) (by simp [List.map_const', List.sum_replicate_nat]; omega) ?_
   refine asg ?_
   refine tv ?_
   refine CWp.region rfl ?_
   refine mv ?_
   refine Walk.addI .none rfl rfl rfl (by first | (constructor <;> omega) | (constructor <;> simp <;> omega)) ?_
   refine asg ?_
   refine tv ?_
   refine ⟨k + 1, ?_, ?_, Sub.x (by kernel_rfl) (by kernel_rfl) ⟨⟨_, rfl, (LeA.eqi (by first | rfl | (simp [List.range_succ]; done)))⟩, ⟨⟨_, rfl, (LeA.glg (by first | rfl | (simp [List.range_succ]; done)))⟩, trivial⟩⟩ (by kernel_rfl) (by kernel_rfl) ⟨beq_nat_eq (by first | rfl | (simp; done) | (simp; omega) | (first | rfl | (simp [List.range_succ]; done))), trivial⟩⟩
   all_goals first | omega | (simp_all; done) | (simp_all; omega)
  ·intro h2; have ⟨h2p, h2s⟩ := dup h2; try simp only [Q5] at h2s
   try simp only [Q] at h2p
   refine CWp.exit ?_
   refine CWp.region rfl ?_
   refine Walk.addI .none rfl rfl rfl (by first | (constructor <;> omega) | (constructor <;> simp <;> omega)) ?_
   refine mv ?_
   refine tv ?_
   obtain rfl : k = 4 := by omega
   refine ⟨i + 1, ?_, ?_, Sub.x (by kernel_rfl) (by kernel_rfl) ⟨⟨_, rfl, (LeA.eqi (by first | rfl | (simp [List.range_succ]; done)))⟩, ⟨⟨_, rfl, (LeA.glg (by first | rfl | (simp [List.range_succ]; done)))⟩, trivial⟩⟩ (by kernel_rfl) (by kernel_rfl) ⟨beq_nat_eq (by first | rfl | (simp; done) | (simp; omega) | (first | rfl | (simp [List.range_succ]; done))), trivial⟩⟩
   all_goals first | omega | (simp_all; done) | (simp_all; omega)
 ·intro h1; have ⟨h1p, h1s⟩ := dup h1; try simp only [Q5] at h1s
  try simp only [Q] at h1p
  refine CWp.exit ?_
  refine sr ?_
  refine mv ?_
  refine asg ?_
  refine tv ?_
  refine CWp.ret ?_
  refine ⟨_, _, [], (.cons (.tmp rfl) .nil), (.gld ?_), ⟨rfl, rfl⟩, HSub.nil, noBox⟩
  all_goals (obtain rfl : i = w.length := (by omega); simp [allTypesOf])
theorem impl_AllTypes_fn {w : List Data} (hs : WSmall w) : FnD Try.prog 13 [.d (encDatas w)] [] (.d (encTys (allTypes w))) [] := by
 refine Fn.body (fn := Try.f13) (n := 8) rfl rfl rfl rfl rfl (fun w0 F0 own kept hk => ?_)
 refine sr ?_
 refine asg ?_
 refine tv ?_
 refine CWp.seq ?_
 refine sr ?_
 refine mv ?_
 refine Walk.call (cr := []) cal21 (impl_WorldValid_fn hs) rfl .none rfl rfl (LeL.refl _) trivial rfl rfl rfl ?_
 refine Walk.not .none rfl rfl ?_
 refine tv ?_
 refine cd ?_ ?_
 ·intro h1; have ⟨h1p, h1s⟩ := dup h1; try simp only [Q5] at h1s
  try simp only [Q] at h1p
  refine sr ?_
  refine asg ?_
  refine tv ?_
  refine CWp.ret ?_
  refine ⟨_, _, [], (.cons (.tmp rfl) .nil), (.nild ?_), ⟨rfl, rfl⟩, HSub.nil, noBox⟩
  all_goals (first | rfl | (simp [allTypes, h1s, h1p]; done) | (simp_all [allTypes]; done) | (simp_all [allTypes]; omega) | omega)
 ·intro h1; have ⟨h1p, h1s⟩ := dup h1; try simp only [Q5] at h1s
  try simp only [Q] at h1p
  refine CWp.skip ?_
  refine sr ?_
  refine mv ?_
  refine Walk.call (cr := []) cal46 (impl_allTypes_fn hs.len) rfl .none rfl rfl (LeL.refl _) trivial rfl rfl rfl ?_
  refine asg ?_
  refine tv ?_
  refine CWp.ret ?_
  refine ⟨_, _, [], (.cons (.tmp rfl) .nil), (.eqd ?_), ⟨rfl, rfl⟩, HSub.nil, noBox⟩
  all_goals (first | rfl | (simp [allTypes, h1s, h1p]; done) | (simp_all [allTypes]; done) | (simp_all [allTypes]; omega) | omega)
end Go.Proofs.Ytadpcmcifbakoaa
