/-
  THE ABSTRACT WALK AND THE WALKS, part 3 of 6: the parts F1, F2, F3, F4, F5, F6, Wv, G1, F12, F13, G2, G3, G4, F15, F20.
-/
import Derived.Test.YtdgknigklgnefaaGreatExh2
namespace Go.Proofs.YtdgknigklgnefaaGreat
open Go
set_option linter.unusedSimpArgs false
set_option linter.unusedVariables false
set_option maxRecDepth 100000
set_option maxHeartbeats 2000000
theorem impl_within_fn {n lo hi : Int} : FnD Tryz.prog 87 [.d (.i n), .d (.i lo), .d (.i hi)] [] (.d (.bool (within n lo hi))) [] := by
 refine bd Tryz.f87 15 [] [] fun w0 F0 own kept hk => ?_
 refine sq (fun h1 h1p h1s => ?_) fun h1 h1p h1s => ?_
 ·try simp only [Q] at h1p
  refine rn0 (r1 rfl) (.eqd ?_)
  all_goals (first | rfl | (simp [within, h1s, h1p]; done))
 ·try simp only [Q] at h1p
  refine rn0 (r1 rfl) (.eqd ?_)
  all_goals (first | rfl | (simp [within, h1s, h1p]; done))
theorem nameValid_eq {s : Str} (h : 0 < s.length) : nameValid s = (within s.length 1 5 && (upperB s[0] && nameTail (s.drop 1))) := by
 rcases s with _ | ⟨b, r⟩
 ·simp at h
 ·simp [nameValid]
theorem nameValid_len {s : Str} (h : s.length = 0 ∨ 5 < s.length) : nameValid s = false := by
 have : within s.length 1 5 = false := by
  simp only [within, Bool.and_eq_false_iff, decide_eq_false_iff_not]
  omega
 simp [nameValid, this]
theorem nameTail_drop {s : Str} {i : Nat} (h : i < s.length) : nameTail (s.drop i) = (lowerB s[i] && nameTail (s.drop (i + 1))) := by
 unfold nameTail; rw [List.drop_eq_getElem_cons h, List.all_cons]
theorem nameTail_end {s : Str} {i : Nat} (h : s.length ≤ i) : nameTail (s.drop i) = true := by
 rw [List.drop_eq_nil_of_le h]; rfl
theorem impl_NameValid_fn {s : Str} (hs : s.length ≤ 1000000000000) : FnD Tryz.prog 214 [.d (.str s)] [] (.d (.bool (nameValid s))) [] := by
 refine bd Tryz.f214 34 [] [] fun w0 F0 own kept hk => ?_
 refine Walk.call (cr := []) cal87 (impl_within_fn) rfl .none rfl rfl (LeL.refl _) trivial rfl rfl rfl ?_
 refine ev ?_
 refine sq (fun h1 h1p h1s => ?_) fun h1 h1p h1s => ?_
 ·try simp only [Q, within] at h1p
  refine sqT ?_
  refine sqT ?_
  refine rn0 (r1 rfl) (.eqd ?_)
  all_goals (first | (simp [nameValid, h1s, h1p]; done) | (rw [nameValid_eq (by omega)]; simp [upperB]; omega) | (rw [nameValid_eq (by omega), ← hg1.2.2, nameTail_drop (by omega)]; simp [lowerB]; omega) | (rw [nameValid_eq (by omega), ← hg1.2.2, nameTail_end (by omega)]; simp [within, upperB]; omega))
 ·try simp only [Q, within] at h1p
  refine Walk.idxS (i := 0) un9 (.some rfl rfl h1) rfl rfl rfl rfl (List.getElem?_eq_getElem (by omega)) ?_
  refine evs [] [(8, false)] ?_ ⟨⟨_, rfl, h1⟩, trivial⟩
  refine sq (fun h3 h3p h3s => ?_) fun h3 h3p h3s => ?_
  ·try simp only [Q, within] at h3p
   refine sqT ?_
   refine rn0 (r1 rfl) (.eqd ?_)
   all_goals (first | (simp [nameValid, h1s, h1p, h3s, h3p]; done) | (rw [nameValid_eq (by omega)]; simp [upperB]; omega) | (rw [nameValid_eq (by omega), ← hg1.2.2, nameTail_drop (by omega)]; simp [lowerB]; omega) | (rw [nameValid_eq (by omega), ← hg1.2.2, nameTail_end (by omega)]; simp [within, upperB]; omega))
  ·try simp only [Q, within] at h3p
   refine Walk.idxS (i := 0) un9 (.some rfl rfl h3) rfl rfl rfl rfl (List.getElem?_eq_getElem (by omega)) ?_
   refine evs [] [(13, false)] ?_ ⟨⟨_, rfl, h3⟩, trivial⟩
   refine sq (fun h5 h5p h5s => ?_) fun h5 h5p h5s => ?_
   ·try simp only [Q, within] at h5p
    refine rn0 (r1 rfl) (.eqd ?_)
    all_goals (first | (simp [nameValid, h1s, h1p, h3s, h3p, h5s, h5p]; done) | (rw [nameValid_eq (by omega)]; simp [upperB]; omega) | (rw [nameValid_eq (by omega), ← hg1.2.2, nameTail_drop (by omega)]; simp [lowerB]; omega) | (rw [nameValid_eq (by omega), ← hg1.2.2, nameTail_end (by omega)]; simp [within, upperB]; omega))
   ·try simp only [Q, within] at h5p
    refine CWp.loopX (ι := Nat) hk (fun i => [(3, .d (.i (i : Int)))]) [2, 18, 19, 20, 21, 22, 23, 24, 25, 26, 27, 28, 29, 30, 31, 32, 33] (fun i => []) (fun i => 1 ≤ i ∧ i ≤ s.length ∧ nameTail (s.drop i) = nameTail (s.drop 1)) (fun i => s.length - i) 1 ⟨by omega, by omega, rfl⟩ ⟨⟨_, rfl, (LeA.eqi (by first | rfl | (simp; done) | (simp_all; done) | omega))⟩, trivial⟩ trivial (fun x => rfl) (fun i hg1 => ?_)
    refine evc [] [] ?_
    refine sq (fun h6 h6p h6s => ?_) fun h6 h6p h6s => ?_
    ·try simp only [Q, within] at h6p
     refine Walk.idxS un9 .none rfl rfl rfl rfl (List.getElem?_eq_getElem (by omega)) ?_
     refine ev ?_
     refine sq (fun h7 h7p h7s => ?_) fun h7 h7p h7s => ?_
     ·try simp only [Q, within] at h7p
      refine sqT ?_
      refine rn0 (r1 rfl) (.eqd ?_)
      all_goals (first | (simp [nameValid, h1s, h1p, h3s, h3p, h5s, h5p, h6s, h6p, h7s, h7p]; done) | (rw [nameValid_eq (by omega)]; simp [upperB]; omega) | (rw [nameValid_eq (by omega), ← hg1.2.2, nameTail_drop (by omega)]; simp [lowerB]; omega) | (rw [nameValid_eq (by omega), ← hg1.2.2, nameTail_end (by omega)]; simp [within, upperB]; omega))
     ·try simp only [Q, within] at h7p
      refine Walk.idxS un9 (.some rfl rfl h7) rfl rfl rfl rfl (List.getElem?_eq_getElem (by omega)) ?_
      refine evs [] [(28, false)] ?_ ⟨⟨_, rfl, h7⟩, trivial⟩
      refine sq (fun h9 h9p h9s => ?_) fun h9 h9p h9s => ?_
      ·try simp only [Q, within] at h9p
       refine rn0 (r1 rfl) (.eqd ?_)
       all_goals (first | (simp [nameValid, h1s, h1p, h3s, h3p, h5s, h5p, h6s, h6p, h7s, h7p, h9s, h9p]; done) | (rw [nameValid_eq (by omega)]; simp [upperB]; omega) | (rw [nameValid_eq (by omega), ← hg1.2.2, nameTail_drop (by omega)]; simp [lowerB]; omega) | (rw [nameValid_eq (by omega), ← hg1.2.2, nameTail_end (by omega)]; simp [within, upperB]; omega))
      ·try simp only [Q, within] at h9p
       refine ar ?_
       refine Exists.intro (i + 1) ⟨⟨by omega, by omega, by rw [← hg1.2.2, nameTail_drop (i := i) (by omega)]; simp [lowerB]; omega⟩, ?_, Sub.x (by kernel_rfl) (by kernel_rfl) ⟨⟨_, rfl, (LeA.eqi (by first | rfl | (simp; done) | (simp_all; done) | omega))⟩, trivial⟩ (by kernel_rfl) (by kernel_rfl) trivial⟩
       all_goals first | omega | (simp_all; done) | (simp_all; omega)
    ·try simp only [Q, within] at h6p
     refine rn0 (r1 rfl) (.eqd ?_)
     all_goals (first | (simp [nameValid, h1s, h1p, h3s, h3p, h5s, h5p, h6s, h6p]; done) | (rw [nameValid_eq (by omega)]; simp [upperB]; omega) | (rw [nameValid_eq (by omega), ← hg1.2.2, nameTail_drop (by omega)]; simp [lowerB]; omega) | (rw [nameValid_eq (by omega), ← hg1.2.2, nameTail_end (by omega)]; simp [within, upperB]; omega))
theorem boxIds_all (hp : Hp) : (boxIds hp).all (fun id => (getH ([] ++ hp) id).isSome) = true := by
 rw [List.all_eq_true]
 intro id h
 simp only [boxIds, List.mem_filter] at h
 exact (isBox_some h.2).1
def idxF {α : Type} (p : α → Bool) : List α → Nat → Int
 | [], _ => -1
 | x :: r, i => if p x then (i : Int) else idxF p r (i + 1)
theorem idxF_any {α : Type} (p : α → Bool) : ∀ (l : List α) (i : Nat), decide (0 ≤ idxF p l i) = l.any p
 | [], _ => by simp [idxF]
 | x :: r, i => by
  unfold idxF
  cases h : p x with
  | true => simp [h]
  | false => simp [h, idxF_any p r (i + 1)]
theorem okCall_d {hp : Hp} (h : okCall hp [] (.d .nilp) [] = true) (x : D) : okCall hp [] (.d x) [] = true := h
theorem slices_IndexFunc_Ty_fn {xs : List Ty} {f : Nat} {caps : List AV} {hp : Hp} {p : Ty → Bool} (hs : xs.length ≤ 1000000000000) (hcal : Callee Tryz.prog f)
  (hf : ∀ t ∈ xs, FnD Tryz.prog f ([.agg [.d (.i t.data), .d (.i t.index)]] ++ caps) hp (.d (.bool (p t))) []) (k1 : subH hp hp) (k2 : noTok hp = true) (k3 : okCall hp [] (.d .nilp) [] = true) :
  FnD Tryz.prog 243 [.d (encTys xs), .fn f caps] hp (.d (.i (idxF p xs 0))) [] := by
 refine bd Tryz.f243 19 [] [] fun w0 F0 own kept hk => ?_
 refine CWp.loopX (ι := List (Ty) × List (Ty)) hk (fun x => [(8, .d (.i (x.1.length : Int)))]) [4, 5, 9, 10, 11, 12, 13, 14, 15, 16, 17, 18] (fun x => []) (fun x => x.1 ++ x.2 = xs ∧ idxF p x.2 x.1.length = idxF p xs 0) (fun x => x.2.length) ([], xs) ⟨by simp, rfl⟩ ⟨⟨_, rfl, (LeA.eqi (by first | rfl | (simp; done) | (simp_all; done) | omega))⟩, trivial⟩ trivial (fun x => boxIds_all hp) (fun x hg1 => ?_)
 obtain ⟨pre, rest⟩ := x
 dsimp only at hg1 ⊢
 refine evc [] [] ?_
 refine sq (fun h1 h1p h1s => ?_) fun h1 h1p h1s => ?_
 ·try simp only [Q] at h1p
  rcases rest with _ | ⟨y, rest⟩
  ·exfalso; simp_all
  refine Walk.idx sl182 .none rfl rfl rfl rfl (zip_at hg1.1) rfl ?_
  refine ev ?_
  refine Walk.callV (cr := []) hcal (hf y (by rw [← hg1.1]; simp)) rfl .none rfl rfl rfl (LeL.refl _) k1 k2 (okCall_d k3 _) rfl ?_
  refine tv ?_
  refine sq (fun h2 h2p h2s => ?_) fun h2 h2p h2s => ?_
  ·try simp only [Q] at h2p
   refine rn [] (r1 rfl) (.eqd ?_) ⟨rfl, rfl⟩ (fun _ _ h => h) (fun _ h => h)
   all_goals (rw [← hg1.2]; simp [idxF, h1s, h1p, h2s, h2p])
  ·try simp only [Q] at h2p
   refine ar ?_
   refine Exists.intro ((pre ++ [y], rest)) ⟨⟨(by have hz := hg1.1; rw [← hz]; simp), (by rw [← hg1.2]; simp [idxF, h2s])⟩, (by simp), Sub.x (by kernel_rfl) (by kernel_rfl) ⟨⟨_, rfl, (LeA.eqi (by first | rfl | (simp; done) | (simp_all; done) | omega))⟩, trivial⟩ (by simp) (by simp [coverH]) trivial⟩
 ·try simp only [Q] at h1p
  have hrest : rest = [] := by
   rcases rest with _ | ⟨a, b⟩
   ·rfl
   ·exfalso; have hz := congrArg List.length (hg1.1); simp only [List.length_append, List.length_cons, List.length_map] at hz; omega
  subst hrest
  refine rn [] (r1 rfl) (.eqd ?_) ⟨rfl, rfl⟩ (fun _ _ h => h) (fun _ h => h)
  all_goals (rw [← hg1.2]; simp [idxF, h1s, h1p])
theorem slices_ContainsFunc_Ty_fn {xs : List Ty} {f : Nat} {caps : List AV} {hp : Hp} {p : Ty → Bool} (hs : xs.length ≤ 1000000000000) (hcal : Callee Tryz.prog f)
  (hf : ∀ t ∈ xs, FnD Tryz.prog f ([.agg [.d (.i t.data), .d (.i t.index)]] ++ caps) hp (.d (.bool (p t))) []) (k1 : subH hp hp) (k2 : noTok hp = true) (k3 : okCall hp [] (.d .nilp) [] = true) :
  FnD Tryz.prog 177 [.d (encTys xs), .fn f caps] hp (.d (.bool (xs.any p))) [] := by
 refine bd Tryz.f177 9 [] [] fun w0 F0 own kept hk => ?_
 refine Walk.call (cr := []) cal243 (slices_IndexFunc_Ty_fn hs hcal hf k1 k2 k3) rfl .none rfl rfl (LeL.refl _) k1 k2 (okCall_d k3 _) rfl ?_
 refine ev ?_
 refine rn [] (r1 rfl) (.eqd ?_) ⟨rfl, rfl⟩ (fun _ _ h => h) (fun _ h => h)
 all_goals (exact congrArg D.bool (idxF_any p xs 0))
theorem impl_argOk_fn {w : List Data} {a b : Int} (hs : w.length ≤ 1000000000000) : FnD Tryz.prog 216 [.d (encDatas w), .agg [.d (.i a), .d (.i b)]] [] (.d (.bool (argOk w.length ⟨a, b⟩))) [] := by
 refine bd Tryz.f216 21 [7] [] fun w0 F0 own kept hk => ?_
 refine Walk.box (id := 3003) .none rfl rfl rfl rfl rfl rfl rfl ?_
 refine evs [7] [] ?_
 refine Walk.build st42 (ks := [0]) (xs := [_]) rfl rfl .none rfl rfl rfl ?_
 refine Walk.eqV eq42 .none rfl rfl rfl rfl rfl ?_
 refine evs [7] [] ?_
 refine sq (fun h1 h1p h1s => ?_) fun h1 h1p h1s => ?_
 ·try simp only [Q] at h1p
  refine rn0 (r1 rfl) (.eqd ?_)
  all_goals (first | rfl | (simp [argOk, h1s, h1p]; done) | (simp_all [argOk]; done) | (simp_all [argOk]; omega) | omega)
 ·try simp only [Q] at h1p
  refine ar ?_ (by constructor <;> simp <;> omega)
  refine Walk.call (cr := []) cal87 (impl_within_fn) rfl (.some rfl rfl h1) rfl rfl (LeL.refl _) trivial rfl rfl rfl ?_
  refine evs [7] [(8, false)] ?_ ⟨⟨_, rfl, h1⟩, trivial⟩
  refine sq (fun h2 h2p h2s => ?_) fun h2 h2p h2s => ?_
  ·try simp only [Q] at h2p
   refine Walk.call (cr := []) cal87 (impl_within_fn) rfl (.some rfl rfl h2) rfl rfl (LeL.refl _) trivial rfl rfl rfl ?_
   refine evs [7] [(8, false), (15, true)] ?_ ⟨⟨_, rfl, h1⟩, ⟨_, rfl, h2⟩, trivial⟩
   refine rn0 (r1 rfl) (.eqd ?_)
   all_goals (first | rfl | (simp [argOk, h1s, h1p, h2s, h2p]; done) | (simp_all [argOk]; done) | (simp_all [argOk]; omega) | omega)
  ·try simp only [Q] at h2p
   refine rn0 (r1 rfl) (.eqd ?_)
   all_goals (first | rfl | (simp [argOk, h1s, h1p, h2s, h2p]; done) | (simp_all [argOk]; done) | (simp_all [argOk]; omega) | omega)
theorem impl_typeOk_fn {w : List Data} {a b : Int} (hs : w.length ≤ 1000000000000) : FnD Tryz.prog 107 [.d (encDatas w), .agg [.d (.i a), .d (.i b)]] [] (.d (.bool (typeOk w.length ⟨a, b⟩))) [] := by
 refine bd Tryz.f107 21 [7] [] fun w0 F0 own kept hk => ?_
 refine Walk.box (id := 3003) .none rfl rfl rfl rfl rfl rfl rfl ?_
 refine evs [7] [] ?_
 refine Walk.build st42 (ks := [0]) (xs := [_]) rfl rfl .none rfl rfl rfl ?_
 refine Walk.eqV eq42 .none rfl rfl rfl rfl rfl ?_
 refine evs [7] [] ?_
 refine sq (fun h1 h1p h1s => ?_) fun h1 h1p h1s => ?_
 ·try simp only [Q] at h1p
  refine rn0 (r1 rfl) (.eqd ?_)
  all_goals (first | rfl | (simp [typeOk, h1s, h1p]; done) | (simp_all [typeOk]; done) | (simp_all [typeOk]; omega) | omega)
 ·try simp only [Q] at h1p
  refine ar ?_ (by constructor <;> simp <;> omega)
  refine Walk.call (cr := []) cal87 (impl_within_fn) rfl (.some rfl rfl h1) rfl rfl (LeL.refl _) trivial rfl rfl rfl ?_
  refine evs [7] [(8, false)] ?_ ⟨⟨_, rfl, h1⟩, trivial⟩
  refine sq (fun h2 h2p h2s => ?_) fun h2 h2p h2s => ?_
  ·try simp only [Q] at h2p
   refine Walk.call (cr := []) cal87 (impl_within_fn) rfl (.some rfl rfl h2) rfl rfl (LeL.refl _) trivial rfl rfl rfl ?_
   refine evs [7] [(8, false), (15, true)] ?_ ⟨⟨_, rfl, h1⟩, ⟨_, rfl, h2⟩, trivial⟩
   refine rn0 (r1 rfl) (.eqd ?_)
   all_goals (first | rfl | (simp [typeOk, h1s, h1p, h2s, h2p]; done) | (simp_all [typeOk]; done) | (simp_all [typeOk]; omega) | omega)
  ·try simp only [Q] at h2p
   refine rn0 (r1 rfl) (.eqd ?_)
   all_goals (first | rfl | (simp [typeOk, h1s, h1p, h2s, h2p]; done) | (simp_all [typeOk]; done) | (simp_all [typeOk]; omega) | omega)
theorem impl_ctorOk_1_fn {w : List Data} {a b : Int} (hs : w.length ≤ 1000000000000) : FnD Tryz.prog 215 [.agg [.d (.i a), .d (.i b)], .ref 1002 0] [(1002, some (.box [.d (encDatas w)]))] (.d (.bool (!argOk w.length ⟨a, b⟩))) [] := by
 refine bd Tryz.f215 8 [] [] fun w0 F0 own kept hk => ?_
 refine Walk.box (id := 3002) .none rfl rfl rfl rfl rfl rfl rfl ?_
 refine ev ?_
 refine Walk.call (cr := []) cal216 (impl_argOk_fn hs) rfl .none rfl rfl (LeL.refl _) trivial rfl rfl rfl ?_
 refine ev ?_
 refine rn [] (r1 rfl) (.eqd ?_) ⟨rfl, rfl⟩ (SubH.get ⟨rfl, trivial⟩) (fun _ h => h)
 all_goals (first | rfl | (simp []; done) | (simp_all; done) | (simp_all; omega) | omega)
theorem impl_ctorOk_fn {w : List Data} {s : Str} {args : List Ty} {k : Int} (hs : w.length ≤ 1000000000000) (hn : s.length ≤ 1000000000000) (ha : args.length ≤ 1000000000000) : FnD Tryz.prog 137 [.d (encDatas w), .agg [.d (.str s), .d (encTys args), .d (.i k)]] [] (.d (.bool (ctorOk w.length ⟨s, args, k⟩))) [] := by
 refine bd Tryz.f137 26 [] [] fun w0 F0 own kept hk => ?_
 refine Walk.box (id := 1002) .none rfl rfl rfl rfl rfl rfl rfl ?_
 refine Walk.box (id := 3003) .none rfl rfl rfl rfl rfl rfl rfl ?_
 refine ev ?_
 refine Walk.call (cr := []) cal214 (impl_NameValid_fn hn) rfl .none rfl rfl (LeL.refl _) trivial rfl rfl rfl ?_
 refine ev ?_
 refine sq (fun h1 h1p h1s => ?_) fun h1 h1p h1s => ?_
 ·try simp only [Q] at h1p
  refine sq (fun h2 h2p h2s => ?_) fun h2 h2p h2s => ?_
  ·try simp only [Q] at h2p
   refine Walk.call (cr := []) cal87 (impl_within_fn) rfl (.some rfl rfl h2) rfl rfl (LeL.refl _) trivial rfl rfl rfl ?_
   refine evs [] [(14, true)] ?_ ⟨⟨_, rfl, h2⟩, trivial⟩
   refine sq (fun h3 h3p h3s => ?_) fun h3 h3p h3s => ?_
   ·try simp only [Q] at h3p
    refine Walk.closure (xs := [_]) rfl (.some rfl rfl h3) rfl rfl ?_
    refine Walk.call (cr := []) cal177 (slices_ContainsFunc_Ty_fn (p := fun t => !argOk w.length t) ha cal215 (fun t _ => impl_ctorOk_1_fn hs) ⟨rfl, trivial⟩ rfl rfl) rfl (.some rfl rfl h3) rfl rfl (LeL.refl _) ⟨rfl, trivial⟩ rfl rfl rfl ?_
    refine evs [] [(19, true)] ?_ ⟨⟨_, rfl, h3⟩, trivial⟩
    refine rn0 (r1 rfl) (.eqd ?_)
    all_goals (first | rfl | (simp [ctorOk, h1s, h1p, h2s, h2p, h3s, h3p]; done) | (simp_all [ctorOk]; done) | (simp_all [ctorOk]; omega) | omega)
   ·try simp only [Q] at h3p
    refine rn0 (r1 rfl) (.eqd ?_)
    all_goals (first | rfl | (simp [ctorOk, h1s, h1p, h2s, h2p, h3s, h3p]; done) | (simp_all [ctorOk]; done) | (simp_all [ctorOk]; omega) | omega)
  ·try simp only [Q] at h2p
   refine sqF ?_
   refine rn0 (r1 rfl) (.eqd ?_)
   all_goals (first | rfl | (simp [ctorOk, h1s, h1p, h2s, h2p]; done) | (simp_all [ctorOk]; done) | (simp_all [ctorOk]; omega) | omega)
 ·try simp only [Q] at h1p
  refine sqF ?_
  refine sqF ?_
  refine rn0 (r1 rfl) (.eqd ?_)
  all_goals (first | rfl | (simp [ctorOk, h1s, h1p]; done) | (simp_all [ctorOk]; done) | (simp_all [ctorOk]; omega) | omega)
theorem getD0 {s : Str} (h : 0 < s.length) : s.getD 0 0 = s[0] := by
 rcases s with _ | ⟨b, r⟩
 ·simp at h
 ·rfl
theorem Ctor.eta (c : Ctor) : Ctor.mk c.name c.args c.index = c := rfl
theorem Ty.eta (c : Ty) : Ty.mk c.data c.index = c := rfl
theorem Data.eta (c : Data) : Data.mk c.name c.ctors = c := rfl
theorem wv_true {w : List Data} {met datas : List Str} (h4 : (w.length : Int) ≤ 4) (h : datasOk w.length met datas [] = datasOk w.length [] [] w) : D.bool true = D.bool (worldValid w) := by
 unfold worldValid
 rw [← h, decide_eq_true h4]
 rfl
theorem wv_false {w rest : List Data} {met datas : List Str} (h : datasOk w.length met datas rest = datasOk w.length [] [] w) (h2 : datasOk w.length met datas rest = false) : D.bool false = D.bool (worldValid w) := by
 unfold worldValid
 rw [← h, h2, Bool.and_false]
theorem impl_WorldValid_fn {w : List Data} (hs : WSmall w) : FnD Tryz.prog 78 [.d (encDatas w)] [] (.d (.bool (worldValid w))) [] := by
 have hs1 := hs.len
 refine bd Tryz.f78 79 [] [] fun w0 F0 own kept hk => ?_
 refine sq (fun h1 h1p h1s => ?_) fun h1 h1p h1s => ?_
 ·try simp only [Q] at h1p
  refine rn0 (r1 rfl) (.eqd ?_)
  all_goals (first | (simp [worldValid]; omega) | (exact wv_true (by omega) hg1.2) | (refine wv_false hg1.2 ?_; simp [datasOk, dataNameOk, h1s, h1p]; done) | (refine wv_false hg1.2 ?_; rw [datasOk, ← hg2.2]; simp [ctorsOk, h1s, h1p]; done) | (refine wv_false hg1.2 ?_; simp only [datasOk, dataNameOk, getD0 (s := d.name) (by omega), upperB]; simp [h1s, h1p]; omega))
 ·try simp only [Q] at h1p
  refine Walk.makeMap (id := 3012) .none rfl rfl ?_
  refine ev ?_
  refine Walk.makeMap (id := 3013) .none rfl rfl ?_
  refine ev ?_
  refine CWp.loopX (ι := List (Data) × List (Data) × (List Str) × (List Str)) hk (fun x => [(16, .d (.i (x.1.length : Int))), (3, .mapr 3012), (4, .mapr 3013)]) [2, 6, 8, 17, 18, 19, 20, 21, 22, 23, 24, 25, 26, 27, 28, 29, 30, 31, 32, 33, 34, 35, 36, 37, 38, 39, 40, 41, 42, 43, 44, 45, 46, 47, 48, 49, 50, 51, 52, 53, 54, 55, 56, 57, 58, 59, 60, 61, 62, 63, 64, 65, 66, 67, 68, 69, 70, 71, 72, 73, 74, 75, 76, 77, 78] (fun x => [(3012, some (.map x.2.2.1)), (3013, some (.map x.2.2.2))]) (fun x => x.1 ++ x.2.1 = w ∧ datasOk w.length x.2.2.1 x.2.2.2 x.2.1 = datasOk w.length [] [] w) (fun x => x.2.1.length) ([], w, [], []) ⟨by simp, rfl⟩ ⟨⟨_, rfl, (LeA.eqi (by first | rfl | (simp; done) | (simp_all; done) | omega))⟩, ⟨⟨_, rfl, (by first | exact LeA.refl _ | exact LeA.gld (by first | rfl | (simp; done) | (simp_all; done) | omega) | exact LeA.nild (by first | rfl | (simp; done) | (simp_all; done) | omega) | exact LeA.eqsl (by first | rfl | (simp; done) | (simp_all; done) | omega) | exact LeA.eqd (by first | rfl | (simp; done) | (simp_all; done) | omega))⟩, ⟨⟨_, rfl, (by first | exact LeA.refl _ | exact LeA.gld (by first | rfl | (simp; done) | (simp_all; done) | omega) | exact LeA.nild (by first | rfl | (simp; done) | (simp_all; done) | omega) | exact LeA.eqsl (by first | rfl | (simp; done) | (simp_all; done) | omega) | exact LeA.eqd (by first | rfl | (simp; done) | (simp_all; done) | omega))⟩, trivial⟩⟩⟩ ⟨(by first | rfl | (simp [getH]; done)), ⟨(by first | rfl | (simp [getH]; done)), trivial⟩⟩ (fun x => rfl) (fun x hg1 => ?_)
  obtain ⟨pre, rest, met, datas⟩ := x
  dsimp only at hg1 ⊢
  refine evc [] [] ?_
  refine sq (fun h2 h2p h2s => ?_) fun h2 h2p h2s => ?_
  ·try simp only [Q] at h2p
   rcases rest with _ | ⟨d, rest⟩
   ·exfalso; simp_all
   refine Walk.idx sl27 .none rfl rfl rfl rfl (zip_at hg1.1) rfl ?_
   refine ev ?_
   refine Walk.alloc (id := 3006) tz121 rfl .none rfl rfl rfl rfl ?_
   refine Walk.store ty121 .none rfl rfl rfl rfl rfl rfl (by simp) rfl ?_
   refine tv ?_
   refine sq (fun h3 h3p h3s => ?_) fun h3 h3p h3s => ?_
   ·try simp only [Q] at h3p
    refine sqT ?_
    refine sqT ?_
    refine sqT ?_
    refine sqT ?_
    refine sqT ?_
    refine rn0 (r1 rfl) (.eqd ?_)
    all_goals (first | (simp [worldValid]; omega) | (exact wv_true (by omega) hg1.2) | (refine wv_false hg1.2 ?_; simp [datasOk, dataNameOk, h1s, h1p, h2s, h2p, h3s, h3p]; done) | (refine wv_false hg1.2 ?_; rw [datasOk, ← hg2.2]; simp [ctorsOk, h1s, h1p, h2s, h2p, h3s, h3p]; done) | (refine wv_false hg1.2 ?_; simp only [datasOk, dataNameOk, getD0 (s := d.name) (by omega), upperB]; simp [h1s, h1p, h2s, h2p, h3s, h3p]; omega))
   ·try simp only [Q] at h3p
    refine Walk.idxS (i := 0) un9 (.some rfl rfl h3) rfl rfl rfl rfl (List.getElem?_eq_getElem (by omega)) ?_
    refine evs [] [(24, false)] ?_ ⟨⟨_, rfl, h3⟩, trivial⟩
    refine sq (fun h5 h5p h5s => ?_) fun h5 h5p h5s => ?_
    ·try simp only [Q] at h5p
     refine sqT ?_
     refine sqT ?_
     refine sqT ?_
     refine sqT ?_
     refine rn0 (r1 rfl) (.eqd ?_)
     all_goals (first | (simp [worldValid]; omega) | (exact wv_true (by omega) hg1.2) | (refine wv_false hg1.2 ?_; simp [datasOk, dataNameOk, h1s, h1p, h2s, h2p, h3s, h3p, h5s, h5p]; done) | (refine wv_false hg1.2 ?_; rw [datasOk, ← hg2.2]; simp [ctorsOk, h1s, h1p, h2s, h2p, h3s, h3p, h5s, h5p]; done) | (refine wv_false hg1.2 ?_; simp only [datasOk, dataNameOk, getD0 (s := d.name) (by omega), upperB]; simp [h1s, h1p, h2s, h2p, h3s, h3p, h5s, h5p]; omega))
    ·try simp only [Q] at h5p
     refine Walk.idxS (i := 0) un9 (.some rfl rfl h5) rfl rfl rfl rfl (List.getElem?_eq_getElem (by omega)) ?_
     refine evs [] [(30, false)] ?_ ⟨⟨_, rfl, h5⟩, trivial⟩
     refine sq (fun h7 h7p h7s => ?_) fun h7 h7p h7s => ?_
     ·try simp only [Q] at h7p
      refine sqT ?_
      refine sqT ?_
      refine sqT ?_
      refine rn0 (r1 rfl) (.eqd ?_)
      all_goals (first | (simp [worldValid]; omega) | (exact wv_true (by omega) hg1.2) | (refine wv_false hg1.2 ?_; simp [datasOk, dataNameOk, h1s, h1p, h2s, h2p, h3s, h3p, h5s, h5p, h7s, h7p]; done) | (refine wv_false hg1.2 ?_; rw [datasOk, ← hg2.2]; simp [ctorsOk, h1s, h1p, h2s, h2p, h3s, h3p, h5s, h5p, h7s, h7p]; done) | (refine wv_false hg1.2 ?_; simp only [datasOk, dataNameOk, getD0 (s := d.name) (by omega), upperB]; simp [h1s, h1p, h2s, h2p, h3s, h3p, h5s, h5p, h7s, h7p]; omega))
     ·try simp only [Q] at h7p
      refine sq (fun h9 h9p h9s => ?_) fun h9 h9p h9s => ?_
      ·try simp only [Q] at h9p
       refine sqT ?_
       refine sqT ?_
       refine rn0 (r1 rfl) (.eqd ?_)
       all_goals (first | (simp [worldValid]; omega) | (exact wv_true (by omega) hg1.2) | (refine wv_false hg1.2 ?_; simp [datasOk, dataNameOk, h1s, h1p, h2s, h2p, h3s, h3p, h5s, h5p, h7s, h7p, h9s, h9p]; done) | (refine wv_false hg1.2 ?_; rw [datasOk, ← hg2.2]; simp [ctorsOk, h1s, h1p, h2s, h2p, h3s, h3p, h5s, h5p, h7s, h7p, h9s, h9p]; done) | (refine wv_false hg1.2 ?_; simp only [datasOk, dataNameOk, getD0 (s := d.name) (by omega), upperB]; simp [h1s, h1p, h2s, h2p, h3s, h3p, h5s, h5p, h7s, h7p, h9s, h9p]; omega))
      ·try simp only [Q] at h9p
       refine Walk.lookup mp191 (.some rfl rfl h9) rfl rfl rfl rfl ?_
       refine evs [] [(41, false)] ?_ ⟨⟨_, rfl, h9⟩, trivial⟩
       refine sq (fun h11 h11p h11s => ?_) fun h11 h11p h11s => ?_
       ·try simp only [Q] at h11p
        refine sqT ?_
        refine rn0 (r1 rfl) (.eqd ?_)
        all_goals (first | (simp [worldValid]; omega) | (exact wv_true (by omega) hg1.2) | (refine wv_false hg1.2 ?_; simp [datasOk, dataNameOk, h1s, h1p, h2s, h2p, h3s, h3p, h5s, h5p, h7s, h7p, h9s, h9p, h11s, h11p]; done) | (refine wv_false hg1.2 ?_; rw [datasOk, ← hg2.2]; simp [ctorsOk, h1s, h1p, h2s, h2p, h3s, h3p, h5s, h5p, h7s, h7p, h9s, h9p, h11s, h11p]; done) | (refine wv_false hg1.2 ?_; simp only [datasOk, dataNameOk, getD0 (s := d.name) (by omega), upperB]; simp [h1s, h1p, h2s, h2p, h3s, h3p, h5s, h5p, h7s, h7p, h9s, h9p, h11s, h11p]; omega))
       ·try simp only [Q] at h11p
        refine Walk.call (cr := []) cal87 (impl_within_fn) rfl (.some rfl rfl h11) rfl rfl (LeL.refl _) trivial rfl rfl rfl ?_
        refine evs [] [(47, false)] ?_ ⟨⟨_, rfl, h11⟩, trivial⟩
        refine sq (fun h13 h13p h13s => ?_) fun h13 h13p h13s => ?_
        ·try simp only [Q] at h13p
         refine rn0 (r1 rfl) (.eqd ?_)
         all_goals (first | (simp [worldValid]; omega) | (exact wv_true (by omega) hg1.2) | (refine wv_false hg1.2 ?_; simp [datasOk, dataNameOk, h1s, h1p, h2s, h2p, h3s, h3p, h5s, h5p, h7s, h7p, h9s, h9p, h11s, h11p, h13s, h13p]; done) | (refine wv_false hg1.2 ?_; rw [datasOk, ← hg2.2]; simp [ctorsOk, h1s, h1p, h2s, h2p, h3s, h3p, h5s, h5p, h7s, h7p, h9s, h9p, h11s, h11p, h13s, h13p]; done) | (refine wv_false hg1.2 ?_; simp only [datasOk, dataNameOk, getD0 (s := d.name) (by omega), upperB]; simp [h1s, h1p, h2s, h2p, h3s, h3p, h5s, h5p, h7s, h7p, h9s, h9p, h11s, h11p, h13s, h13p]; omega))
        ·try simp only [Q] at h13p
         refine Walk.mapUpdate mp191 .none rfl rfl rfl rfl (by simp_all) ?_
         refine tv ?_
         refine CWp.loopX (ι := List (Ctor) × List (Ctor) × (List Str)) hk (fun x => [(60, .d (.i (x.1.length : Int)))]) [2, 8, 61, 62, 63, 64, 65, 66, 67, 68, 69, 70, 71, 72, 73, 74, 75, 76, 77] (fun x => [(3012, some (.map x.2.2))]) (fun x => x.1 ++ x.2.1 = d.ctors ∧ ctorsOk w.length x.2.2 x.2.1 = ctorsOk w.length met d.ctors) (fun x => x.2.1.length) ([], d.ctors, met) ⟨by simp, rfl⟩ ⟨⟨_, rfl, (LeA.eqi (by first | rfl | (simp; done) | (simp_all; done) | omega))⟩, trivial⟩ ⟨(by first | rfl | (simp [getH]; done)), trivial⟩ (fun x => rfl) (fun x hg2 => ?_)
         obtain ⟨pre2, rest2, met2⟩ := x
         dsimp only at hg2 ⊢
         have hb := (hs.data d (by rw [← hg1.1]; simp)).2
         refine evc [] [] ?_
         refine sq (fun h14 h14p h14s => ?_) fun h14 h14p h14s => ?_
         ·try simp only [Q] at h14p
          rcases rest2 with _ | ⟨y, rest2⟩
          ·exfalso; simp_all
          refine Walk.idx sl119 .none rfl rfl rfl rfl (zip_at hg2.1) rfl ?_
          refine ev ?_
          refine Walk.alloc (id := 3008) tz184 rfl .none rfl rfl rfl rfl ?_
          refine Walk.store ty184 .none rfl rfl rfl rfl rfl rfl (by simp) rfl ?_
          refine tv ?_
          refine Walk.call (cr := []) cal137 (impl_ctorOk_fn hs1 (hs.ctor d (by rw [← hg1.1]; simp) y (by rw [← hg2.1]; simp)).1 (hs.ctor d (by rw [← hg1.1]; simp) y (by rw [← hg2.1]; simp)).2) rfl .none rfl rfl (LeL.refl _) trivial rfl rfl rfl ?_
          refine ev ?_
          refine sq (fun h15 h15p h15s => ?_) fun h15 h15p h15s => ?_
          ·try simp only [Q] at h15p
           refine sqT ?_
           refine rn0 (r1 rfl) (.eqd ?_)
           all_goals (first | (simp [worldValid]; omega) | (exact wv_true (by omega) hg1.2) | (refine wv_false hg1.2 ?_; simp [datasOk, dataNameOk, h1s, h1p, h2s, h2p, h3s, h3p, h5s, h5p, h7s, h7p, h9s, h9p, h11s, h11p, h13s, h13p, h14s, h14p, h15s, h15p]; done) | (refine wv_false hg1.2 ?_; rw [datasOk, ← hg2.2]; simp [ctorsOk, h1s, h1p, h2s, h2p, h3s, h3p, h5s, h5p, h7s, h7p, h9s, h9p, h11s, h11p, h13s, h13p, h14s, h14p, h15s, h15p]; done) | (refine wv_false hg1.2 ?_; simp only [datasOk, dataNameOk, getD0 (s := d.name) (by omega), upperB]; simp [h1s, h1p, h2s, h2p, h3s, h3p, h5s, h5p, h7s, h7p, h9s, h9p, h11s, h11p, h13s, h13p, h14s, h14p, h15s, h15p]; omega))
          ·try simp only [Q] at h15p
           refine Walk.lookup mp191 (.some rfl rfl h15) rfl rfl rfl rfl ?_
           refine evs [] [(68, false)] ?_ ⟨⟨_, rfl, h15⟩, trivial⟩
           refine sq (fun h17 h17p h17s => ?_) fun h17 h17p h17s => ?_
           ·try simp only [Q] at h17p
            refine rn0 (r1 rfl) (.eqd ?_)
            all_goals (first | (simp [worldValid]; omega) | (exact wv_true (by omega) hg1.2) | (refine wv_false hg1.2 ?_; simp [datasOk, dataNameOk, h1s, h1p, h2s, h2p, h3s, h3p, h5s, h5p, h7s, h7p, h9s, h9p, h11s, h11p, h13s, h13p, h14s, h14p, h15s, h15p, h17s, h17p]; done) | (refine wv_false hg1.2 ?_; rw [datasOk, ← hg2.2]; simp [ctorsOk, h1s, h1p, h2s, h2p, h3s, h3p, h5s, h5p, h7s, h7p, h9s, h9p, h11s, h11p, h13s, h13p, h14s, h14p, h15s, h15p, h17s, h17p]; done) | (refine wv_false hg1.2 ?_; simp only [datasOk, dataNameOk, getD0 (s := d.name) (by omega), upperB]; simp [h1s, h1p, h2s, h2p, h3s, h3p, h5s, h5p, h7s, h7p, h9s, h9p, h11s, h11p, h13s, h13p, h14s, h14p, h15s, h15p, h17s, h17p]; omega))
           ·try simp only [Q] at h17p
            refine Walk.mapUpdate mp191 .none rfl rfl rfl rfl (by simp_all) ?_
            refine tv ?_
            refine ar ?_
            refine Exists.intro ((pre2 ++ [y], rest2, met2 ++ [y.name])) ⟨⟨(by have hz := hg2.1; rw [← hz]; simp), (by rw [← hg2.2]; simp [ctorsOk, h1s, h1p, h2s, h2p, h3s, h3p, h5s, h5p, h7s, h7p, h9s, h9p, h11s, h11p, h13s, h13p, h14s, h14p, h15s, h15p, h17s, h17p])⟩, (by simp), Sub.x (by kernel_rfl) (by kernel_rfl) ⟨⟨_, rfl, (LeA.eqi (by first | rfl | (simp; done) | (simp_all; done) | omega))⟩, trivial⟩ (by kernel_rfl) (by kernel_rfl) ⟨(by first | rfl | (simp [getH]; done)), trivial⟩⟩
         ·try simp only [Q] at h14p
          have hrest2 : rest2 = [] := by
           rcases rest2 with _ | ⟨a, b⟩
           ·rfl
           ·exfalso; have hz := congrArg List.length (hg2.1); simp only [List.length_append, List.length_cons, List.length_map] at hz; omega
          subst hrest2
          refine ar ?_
          refine Exists.intro ((pre ++ [d], rest, met2, datas ++ [d.name])) ⟨⟨(by have hz := hg1.1; rw [← hz]; simp), (by rw [← hg1.2, datasOk, ← hg2.2]; simp only [dataNameOk, getD0 (s := d.name) (by omega), upperB]; simp [ctorsOk, h1s, h1p, h2s, h2p, h3s, h3p, h5s, h5p, h7s, h7p, h9s, h9p, h11s, h11p, h13s, h13p, h14s, h14p]; omega)⟩, (by simp), Sub.x (by kernel_rfl) (by kernel_rfl) ⟨⟨_, rfl, (LeA.eqi (by first | rfl | (simp; done) | (simp_all; done) | omega))⟩, ⟨⟨_, rfl, (by first | exact LeA.refl _ | exact LeA.gld (by first | rfl | (simp; done) | (simp_all; done) | omega) | exact LeA.nild (by first | rfl | (simp; done) | (simp_all; done) | omega) | exact LeA.eqsl (by first | rfl | (simp; done) | (simp_all; done) | omega) | exact LeA.eqd (by first | rfl | (simp; done) | (simp_all; done) | omega))⟩, ⟨⟨_, rfl, (by first | exact LeA.refl _ | exact LeA.gld (by first | rfl | (simp; done) | (simp_all; done) | omega) | exact LeA.nild (by first | rfl | (simp; done) | (simp_all; done) | omega) | exact LeA.eqsl (by first | rfl | (simp; done) | (simp_all; done) | omega) | exact LeA.eqd (by first | rfl | (simp; done) | (simp_all; done) | omega))⟩, trivial⟩⟩⟩ (by kernel_rfl) (by kernel_rfl) ⟨(by first | rfl | (simp [getH]; done)), ⟨(by first | rfl | (simp [getH]; done)), trivial⟩⟩⟩
  ·try simp only [Q] at h2p
   have hrest : rest = [] := by
    rcases rest with _ | ⟨a, b⟩
    ·rfl
    ·exfalso; have hz := congrArg List.length (hg1.1); simp only [List.length_append, List.length_cons, List.length_map] at hz; omega
   subst hrest
   refine rn0 (r1 rfl) (.eqd ?_)
   all_goals (first | (simp [worldValid]; omega) | (exact wv_true (by omega) hg1.2) | (refine wv_false hg1.2 ?_; simp [datasOk, dataNameOk, h1s, h1p, h2s, h2p]; done) | (refine wv_false hg1.2 ?_; rw [datasOk, ← hg2.2]; simp [ctorsOk, h1s, h1p, h2s, h2p]; done) | (refine wv_false hg1.2 ?_; simp only [datasOk, dataNameOk, getD0 (s := d.name) (by omega), upperB]; simp [h1s, h1p, h2s, h2p]; omega))
theorem impl_TypeValid_fn {w : List Data} {a b : Int} (hs : WSmall w) : FnD Tryz.prog 98 [.d (encDatas w), .agg [.d (.i a), .d (.i b)]] [] (.d (.bool (typeValid w ⟨a, b⟩))) [] := by
 refine bd Tryz.f98 12 [] [] fun w0 F0 own kept hk => ?_
 refine Walk.box (id := 3003) .none rfl rfl rfl rfl rfl rfl rfl ?_
 refine ev ?_
 refine Walk.call (cr := []) cal78 (impl_WorldValid_fn hs) rfl .none rfl rfl (LeL.refl _) trivial rfl rfl rfl ?_
 refine ev ?_
 refine sq (fun h1 h1p h1s => ?_) fun h1 h1p h1s => ?_
 ·try simp only [Q] at h1p
  refine Walk.call (cr := []) cal107 (impl_typeOk_fn hs.len) rfl (.some rfl rfl h1) rfl rfl (LeL.refl _) trivial rfl rfl rfl ?_
  refine evs [] [(7, true)] ?_ ⟨⟨_, rfl, h1⟩, trivial⟩
  refine rn0 (r1 rfl) (.eqd ?_)
  all_goals (first | rfl | (simp [typeValid, h1s, h1p]; done) | (simp_all [typeValid]; done) | (simp_all [typeValid]; omega) | omega)
 ·try simp only [Q] at h1p
  refine rn0 (r1 rfl) (.eqd ?_)
  all_goals (first | rfl | (simp [typeValid, h1s, h1p]; done) | (simp_all [typeValid]; done) | (simp_all [typeValid]; omega) | omega)
def upperN (n : Int) : Bool := decide (65 ≤ n) && decide (n ≤ 90)
theorem spec_l1Big_fn {n : Int} : FnD Tryz.prog 206 [.d (.int .u8 n)] [] (.d (.bool (upperN n))) [] := by
 refine bd Tryz.f206 9 [] [] fun w0 F0 own kept hk => ?_
 refine sq (fun h1 h1p h1s => ?_) fun h1 h1p h1s => ?_
 ·try simp only [Q] at h1p
  refine rn0 (r1 rfl) (.eqd ?_)
  all_goals ((simp_all [upperN]; done))
 ·try simp only [Q] at h1p
  refine rn0 (r1 rfl) (.eqd ?_)
  all_goals ((simp_all [upperN]; omega))
theorem spec_NameValid_fn {s : Str} (hs : s.length ≤ 1000000000000) : FnD Tryz.prog 207 [.d (.str s)] [] (.d (.bool (nameValid s))) [] := by
 refine bd Tryz.f207 34 [] [] fun w0 F0 own kept hk => ?_
 refine sq (fun h1 h1p h1s => ?_) fun h1 h1p h1s => ?_
 ·try simp only [Q, upperN] at h1p
  refine sqT ?_
  refine sqT ?_
  refine rn0 (r1 rfl) (.eqd ?_)
  all_goals ((rw [nameValid_len (by omega)]; done))
 ·try simp only [Q, upperN] at h1p
  refine sq (fun h3 h3p h3s => ?_) fun h3 h3p h3s => ?_
  ·try simp only [Q, upperN] at h3p
   refine sqT ?_
   refine rn0 (r1 rfl) (.eqd ?_)
   all_goals ((rw [nameValid_len (by omega)]; done))
  ·try simp only [Q, upperN] at h3p
   refine Walk.idxS (i := 0) un9 (.some rfl rfl h3) rfl rfl rfl rfl (List.getElem?_eq_getElem (by omega)) ?_
   refine Walk.call (cr := []) cal206 (spec_l1Big_fn) rfl (.some rfl rfl h3) rfl rfl (LeL.refl _) trivial rfl rfl rfl ?_
   refine evs [] [(12, false)] ?_ ⟨⟨_, rfl, h3⟩, trivial⟩
   refine sq (fun h5 h5p h5s => ?_) fun h5 h5p h5s => ?_
   ·try simp only [Q, upperN] at h5p
    refine rn0 (r1 rfl) (.eqd ?_)
    all_goals ((rw [nameValid_eq (by omega)]; simp only [upperB, h1s, h1p, h3s, h3p, h5s, h5p]; simp; done))
   ·try simp only [Q, upperN] at h5p
    refine CWp.loopX (ι := Nat) hk (fun i => [(3, .d (.i (i : Int)))]) [2, 18, 19, 20, 21, 22, 23, 24, 25, 26, 27, 28, 29, 30, 31, 32, 33] (fun i => []) (fun i => 1 ≤ i ∧ i ≤ s.length ∧ nameTail (s.drop i) = nameTail (s.drop 1)) (fun i => s.length - i) 1 ⟨by omega, by omega, rfl⟩ ⟨⟨_, rfl, (LeA.eqi (by first | rfl | (simp; done) | (simp_all; done) | omega))⟩, trivial⟩ trivial (fun x => rfl) (fun i hg1 => ?_)
    refine evc [] [] ?_
    refine sq (fun h6 h6p h6s => ?_) fun h6 h6p h6s => ?_
    ·try simp only [Q, upperN] at h6p
     refine Walk.idxS un9 .none rfl rfl rfl rfl (List.getElem?_eq_getElem (by omega)) ?_
     refine ev ?_
     refine sq (fun h7 h7p h7s => ?_) fun h7 h7p h7s => ?_
     ·try simp only [Q, upperN] at h7p
      refine sqT ?_
      refine rn0 (r1 rfl) (.eqd ?_)
      all_goals ((rw [nameValid_eq (by omega), ← hg1.2.2, nameTail_drop (by omega)]; simp [lowerB]; omega))
     ·try simp only [Q, upperN] at h7p
      refine Walk.idxS un9 (.some rfl rfl h7) rfl rfl rfl rfl (List.getElem?_eq_getElem (by omega)) ?_
      refine evs [] [(28, false)] ?_ ⟨⟨_, rfl, h7⟩, trivial⟩
      refine sq (fun h9 h9p h9s => ?_) fun h9 h9p h9s => ?_
      ·try simp only [Q, upperN] at h9p
       refine rn0 (r1 rfl) (.eqd ?_)
       all_goals ((rw [nameValid_eq (by omega), ← hg1.2.2, nameTail_drop (by omega)]; simp [lowerB]; omega))
      ·try simp only [Q, upperN] at h9p
       refine ar ?_
       refine Exists.intro (i + 1) ⟨⟨by omega, by omega, by rw [← hg1.2.2, nameTail_drop (i := i) (by omega)]; simp [lowerB]; omega⟩, ?_, Sub.x (by kernel_rfl) (by kernel_rfl) ⟨⟨_, rfl, (LeA.eqi (by first | rfl | (simp; done) | (simp_all; done) | omega))⟩, trivial⟩ (by kernel_rfl) (by kernel_rfl) trivial⟩
       all_goals first | omega | (simp_all; done) | (simp_all; omega)
    ·try simp only [Q, upperN] at h6p
     refine rn0 (r1 rfl) (.eqd ?_)
     all_goals ((rw [nameValid_eq (by omega), ← hg1.2.2, nameTail_end (by omega)]; simp [within, upperB]; omega))
theorem spec_l1Data_fn {s : Str} (hs : s.length ≤ 1000000000000) : FnD Tryz.prog 128 [.d (.str s)] [] (.d (.bool (dataNameOk s))) [] := by
 refine bd Tryz.f128 15 [] [] fun w0 F0 own kept hk => ?_
 refine sq (fun h1 h1p h1s => ?_) fun h1 h1p h1s => ?_
 ·try simp only [Q] at h1p
  refine Walk.idxS (i := 0) un9 (.some rfl rfl h1) rfl rfl rfl rfl (List.getElem?_eq_getElem (by omega)) ?_
  refine Walk.call (cr := []) cal206 (spec_l1Big_fn) rfl (.some rfl rfl h1) rfl rfl (LeL.refl _) trivial rfl rfl rfl ?_
  refine evs [] [(6, true)] ?_ ⟨⟨_, rfl, h1⟩, trivial⟩
  refine sq (fun h2 h2p h2s => ?_) fun h2 h2p h2s => ?_
  ·try simp only [Q] at h2p
   refine rn0 (r1 rfl) (.eqd ?_)
   all_goals ((simp only [dataNameOk, getD0 (s := s) (by omega), upperB]; simp only [upperN, Bool.and_eq_true, decide_eq_true_eq] at *; simp [*]; done))
  ·try simp only [Q] at h2p
   refine rn0 (r1 rfl) (.eqd ?_)
   all_goals ((simp only [dataNameOk, getD0 (s := s) (by omega), upperB]; simp only [upperN, Bool.and_eq_true, decide_eq_true_eq] at *; simp [*]; done))
 ·try simp only [Q] at h1p
  refine sqF ?_
  refine rn0 (r1 rfl) (.eqd ?_)
  all_goals ((simp [dataNameOk, h1s, h1p]; done))
theorem spec_l1Arg_fn {n : Nat} {a b : Int} : FnD Tryz.prog 208 [.d (.i n), .agg [.d (.i a), .d (.i b)]] [] (.d (.bool (argOk n ⟨a, b⟩))) [] := by
 refine bd Tryz.f208 30 [] [] fun w0 F0 own kept hk => ?_
 refine Walk.box (id := 3003) .none rfl rfl rfl rfl rfl rfl rfl ?_
 refine ev ?_
 refine sq (fun h1 h1p h1s => ?_) fun h1 h1p h1s => ?_
 ·try simp only [Q] at h1p
  refine rn0 (r1 rfl) (.eqd ?_)
  all_goals ((simp [argOk, within, h1s, h1p]; done))
 ·try simp only [Q] at h1p
  refine sq (fun h2 h2p h2s => ?_) fun h2 h2p h2s => ?_
  ·try simp only [Q] at h2p
   refine sq (fun h3 h3p h3s => ?_) fun h3 h3p h3s => ?_
   ·try simp only [Q] at h3p
    refine sq (fun h4 h4p h4s => ?_) fun h4 h4p h4s => ?_
    ·try simp only [Q] at h4p
     refine rn0 (r1 rfl) (.eqd ?_)
     all_goals ((apply congrArg D.bool; rw [Bool.eq_iff_iff]; simp [argOk, within]; omega))
    ·try simp only [Q] at h4p
     refine rn0 (r1 rfl) (.eqd ?_)
     all_goals ((simp [argOk, within, h1s, h1p, h2s, h2p, h3s, h3p, h4s, h4p]; done))
   ·try simp only [Q] at h3p
    refine sqF ?_
    refine rn0 (r1 rfl) (.eqd ?_)
    all_goals ((apply congrArg D.bool; rw [Bool.eq_iff_iff]; simp [argOk, within]; omega))
  ·try simp only [Q] at h2p
   refine sqF ?_
   refine sqF ?_
   refine rn0 (r1 rfl) (.eqd ?_)
   all_goals ((simp [argOk, within, h1s, h1p, h2s, h2p]; done))
theorem spec_l1Ctor_fn {n : Nat} {s : Str} {args : List Ty} {k : Int} (hn : s.length ≤ 1000000000000) (ha : args.length ≤ 1000000000000) : FnD Tryz.prog 129 [.d (.i n), .agg [.d (.str s), .d (encTys args), .d (.i k)]] [] (.d (.bool (ctorOk n ⟨s, args, k⟩))) [] := by
 refine bd Tryz.f129 41 [] [] fun w0 F0 own kept hk => ?_
 refine Walk.box (id := 3003) .none rfl rfl rfl rfl rfl rfl rfl ?_
 refine ev ?_
 refine Walk.call (cr := []) cal207 (spec_NameValid_fn hn) rfl .none rfl rfl (LeL.refl _) trivial rfl rfl rfl ?_
 refine ev ?_
 refine sq (fun h1 h1p h1s => ?_) fun h1 h1p h1s => ?_
 ·try simp only [Q] at h1p
  refine sqT ?_
  refine sqT ?_
  refine sqT ?_
  refine rn0 (r1 rfl) (.eqd ?_)
  all_goals ((simp [ctorOk, h1s, h1p]; done))
 ·try simp only [Q] at h1p
  refine sq (fun h3 h3p h3s => ?_) fun h3 h3p h3s => ?_
  ·try simp only [Q] at h3p
   refine sqT ?_
   refine sqT ?_
   refine rn0 (r1 rfl) (.eqd ?_)
   all_goals ((apply congrArg D.bool; simp [ctorOk, within]; omega))
  ·try simp only [Q] at h3p
   refine sq (fun h5 h5p h5s => ?_) fun h5 h5p h5s => ?_
   ·try simp only [Q] at h5p
    refine sqT ?_
    refine rn0 (r1 rfl) (.eqd ?_)
    all_goals ((apply congrArg D.bool; simp [ctorOk, within]; omega))
   ·try simp only [Q] at h5p
    refine sq (fun h7 h7p h7s => ?_) fun h7 h7p h7s => ?_
    ·try simp only [Q] at h7p
     refine rn0 (r1 rfl) (.eqd ?_)
     all_goals ((apply congrArg D.bool; simp [ctorOk, within]; omega))
    ·try simp only [Q] at h7p
     refine CWp.loopX (ι := List (Ty) × List (Ty)) hk (fun x => [(5, .d (.i (x.1.length : Int)))]) [4, 26, 27, 28, 29, 30, 31, 32, 33, 34, 35, 36, 37, 38, 39, 40] (fun x => []) (fun x => x.1 ++ x.2 = args ∧ (x.2.any fun t => !argOk n t) = args.any fun t => !argOk n t) (fun x => x.2.length) ([], args) ⟨by simp, rfl⟩ ⟨⟨_, rfl, (LeA.eqi (by first | rfl | (simp; done) | (simp_all; done) | omega))⟩, trivial⟩ trivial (fun x => rfl) (fun x hg1 => ?_)
     obtain ⟨pre, rest⟩ := x
     dsimp only at hg1 ⊢
     refine evc [] [] ?_
     refine sq (fun h8 h8p h8s => ?_) fun h8 h8p h8s => ?_
     ·try simp only [Q] at h8p
      rcases rest with _ | ⟨y, rest⟩
      ·exfalso; simp_all
      refine Walk.idx sl182 .none rfl rfl rfl rfl (zip_at hg1.1) rfl ?_
      refine ev ?_
      refine Walk.call (cr := []) cal208 (spec_l1Arg_fn) rfl .none rfl rfl (LeL.refl _) trivial rfl rfl rfl ?_
      refine ev ?_
      refine sq (fun h9 h9p h9s => ?_) fun h9 h9p h9s => ?_
      ·try simp only [Q] at h9p
       refine rn0 (r1 rfl) (.eqd ?_)
       all_goals ((simp only [ctorOk]; rw [← hg1.2]; simp [within, h1s, h1p, h3s, h3p, h5s, h5p, h7s, h7p, h8s, h8p, h9s, h9p]; done))
      ·try simp only [Q] at h9p
       refine ar ?_
       refine Exists.intro ((pre ++ [y], rest)) ⟨⟨(by have hz := hg1.1; rw [← hz]; simp), (by rw [← hg1.2]; simp [Ty.eta, h1s, h1p, h3s, h3p, h5s, h5p, h7s, h7p, h8s, h8p, h9s, h9p])⟩, (by simp), Sub.x (by kernel_rfl) (by kernel_rfl) ⟨⟨_, rfl, (LeA.eqi (by first | rfl | (simp; done) | (simp_all; done) | omega))⟩, trivial⟩ (by kernel_rfl) (by kernel_rfl) trivial⟩
     ·try simp only [Q] at h8p
      have hrest : rest = [] := by
       rcases rest with _ | ⟨a, b⟩
       ·rfl
       ·exfalso; have hz := congrArg List.length (hg1.1); simp only [List.length_append, List.length_cons, List.length_map] at hz; omega
      subst hrest
      refine rn0 (r1 rfl) (.eqd ?_)
      all_goals ((simp only [ctorOk]; rw [← hg1.2]; simp [within, h1s, h1p, h3s, h3p, h5s, h5p, h7s, h7p, h8s, h8p]; omega))
theorem spec_l1Twice_fn {w : List Data} {d k : Nat} (hs : WSmall w) (hd : d < w.length) : FnD Tryz.prog 130 [.d (encDatas w), .d (.i d), .d (.i k)] [] (.d (.bool (twice w d k))) [] := by
 have hw := hs.len
 refine bd Tryz.f130 79 [] [] fun w0 F0 own kept hk => ?_
 refine CWp.loopX (ι := Nat) hk (fun i => [(7, .d (.i (i : Int)))]) [6, 8, 9, 10, 11, 12, 13, 14, 15, 16, 17, 18, 19, 20, 21, 22, 23, 24, 25, 26, 27, 28, 29, 30, 31, 32, 33, 34, 35, 36, 37, 38, 39, 40, 41, 42, 43, 44, 45, 46, 47, 48, 49, 50, 51, 52, 53, 54, 55, 56, 57, 58, 59, 60, 61, 62, 63, 64, 65, 66, 67, 68, 69, 70, 71, 72, 73, 74, 75, 76, 77, 78] (fun i => []) (fun i => i ≤ d + 1 ∧ ∀ i', i' < i → rowTwice w d k i' = false) (fun i => d + 1 - i) 0 ⟨by omega, fun _ h => absurd h (by omega)⟩ ⟨⟨_, rfl, (LeA.eqi (by first | rfl | (simp; done) | (simp_all; done) | omega))⟩, trivial⟩ trivial (fun x => rfl) (fun i hg1 => ?_)
 refine evc [] [] ?_
 refine sq (fun h1 h1p h1s => ?_) fun h1 h1p h1s => ?_
 ·try simp only [Q, Int.ofNat_lt, Int.ofNat_le] at h1p
  refine sq (fun h2 h2p h2s => ?_) fun h2 h2p h2s => ?_
  ·try simp only [Q, Int.ofNat_lt, Int.ofNat_le] at h2p
   refine Walk.idx sl27 (.some rfl rfl h2) rfl rfl rfl rfl (at_nth (by omega)) rfl ?_
   refine evd [] [(17, true)] ?_ ⟨⟨_, rfl, h2⟩, trivial⟩
   refine Walk.idx sl27 (.some rfl rfl h2) rfl rfl rfl rfl (at_nth (by omega)) rfl ?_
   refine evd [] [(17, true)] ?_ ⟨⟨_, rfl, h2⟩, trivial⟩
   refine dr ?_
   refine sq (fun h3 h3p h3s => ?_) fun h3 h3p h3s => ?_
   ·try simp only [Q, Int.ofNat_lt, Int.ofNat_le] at h3p
    refine rn0 (r1 rfl) (.eqd ?_)
    all_goals ((refine congrArg D.bool (any_range_true (i := i) (by omega) ?_).symm; simp [rowTwice, h1s, h1p, h2s, h2p, h3s, h3p]; done))
   ·try simp only [Q, Int.ofNat_lt, Int.ofNat_le] at h3p
    refine CWp.loopX (ι := Nat) hk (fun j => [(8, .d (.i (j : Int)))]) [6, 30, 31, 32, 33, 34, 35, 36, 37, 38, 39, 40, 41, 42, 43, 44, 45, 46, 47, 48, 49, 50, 51, 52, 53, 54, 55, 56, 57, 58, 59, 60, 61, 62, 63, 64, 65, 66, 67, 68, 69, 70, 71, 72, 73, 74, 75, 76, 77, 78] (fun j => []) (fun j => j ≤ (nth w i).ctors.length ∧ ∀ j', j' < j → hitTwice w d k i j' = false) (fun j => (nth w i).ctors.length - j) 0 ⟨by omega, fun _ h => absurd h (by omega)⟩ ⟨⟨_, rfl, (LeA.eqi (by first | rfl | (simp; done) | (simp_all; done) | omega))⟩, trivial⟩ trivial (fun x => rfl) (fun j hg2 => ?_)
    have hb := hs.ctors i
    refine evc [] [] ?_
    refine Walk.idx sl27 .none rfl rfl rfl rfl (at_nth (by omega)) rfl ?_
    refine ev ?_
    refine sq (fun h4 h4p h4s => ?_) fun h4 h4p h4s => ?_
    ·try simp only [Q, Int.ofNat_lt, Int.ofNat_le] at h4p
     refine sq (fun h5 h5p h5s => ?_) fun h5 h5p h5s => ?_
     ·try simp only [Q, Int.ofNat_lt, Int.ofNat_le] at h5p
      refine sqT ?_
      refine Walk.idx sl27 .none rfl rfl rfl rfl (at_nth (by omega)) rfl ?_
      refine evd [] [] ?_
      refine sq (fun h7 h7p h7s => ?_) fun h7 h7p h7s => ?_
      ·try simp only [Q, Int.ofNat_lt, Int.ofNat_le] at h7p
       refine Walk.idx sl27 (.some rfl rfl h7) rfl rfl rfl rfl (at_nth (by omega)) rfl ?_
       refine evd [] [(58, true)] ?_ ⟨⟨_, rfl, h7⟩, trivial⟩
       refine Walk.idx sl119 (.some rfl rfl h7) rfl rfl rfl rfl (at_nth (by omega)) rfl ?_
       refine evd [] [(58, true)] ?_ ⟨⟨_, rfl, h7⟩, trivial⟩
       refine Walk.idx sl27 (.some rfl rfl h7) rfl rfl rfl rfl (at_nth (by omega)) rfl ?_
       refine evd [] [(58, true)] ?_ ⟨⟨_, rfl, h7⟩, trivial⟩
       refine Walk.idx sl119 (.some rfl rfl h7) rfl rfl rfl rfl (at_nth (by omega)) rfl ?_
       refine evd [] [(58, true)] ?_ ⟨⟨_, rfl, h7⟩, trivial⟩
       refine dr ?_
       refine sq (fun h8 h8p h8s => ?_) fun h8 h8p h8s => ?_
       ·try simp only [Q, Int.ofNat_lt, Int.ofNat_le] at h8p
        refine rn0 (r1 rfl) (.eqd ?_)
        all_goals ((refine congrArg D.bool (any_range_true (i := i) (by omega) ?_).symm; unfold rowTwice; rw [any_range_true (i := j) (by omega) (by simp [hitTwice, h1s, h1p, h2s, h2p, h3s, h3p, h4s, h4p, h5s, h5p, h7s, h7p, h8s, h8p])]; simp; done))
       ·try simp only [Q, Int.ofNat_lt, Int.ofNat_le] at h8p
        refine ar ?_
        refine Exists.intro (j + 1) ⟨⟨by omega, upto_succ hg2.2 (by simp [hitTwice, h1s, h1p, h2s, h2p, h3s, h3p, h4s, h4p, h5s, h5p, h7s, h7p, h8s, h8p]; done)⟩, (by omega), Sub.x (by kernel_rfl) (by kernel_rfl) ⟨⟨_, rfl, (LeA.eqi (by first | rfl | (simp; done) | (simp_all; done) | omega))⟩, trivial⟩ (by kernel_rfl) (by kernel_rfl) trivial⟩
      ·try simp only [Q, Int.ofNat_lt, Int.ofNat_le] at h7p
       refine dr ?_
       refine sqF ?_
       refine ar ?_
       refine Exists.intro (j + 1) ⟨⟨by omega, upto_succ hg2.2 (by simp [hitTwice, h1s, h1p, h2s, h2p, h3s, h3p, h4s, h4p, h5s, h5p, h7s, h7p]; done)⟩, (by omega), Sub.x (by kernel_rfl) (by kernel_rfl) ⟨⟨_, rfl, (LeA.eqi (by first | rfl | (simp; done) | (simp_all; done) | omega))⟩, trivial⟩ (by kernel_rfl) (by kernel_rfl) trivial⟩
     ·try simp only [Q, Int.ofNat_lt, Int.ofNat_le] at h5p
      refine sq (fun h10 h10p h10s => ?_) fun h10 h10p h10s => ?_
      ·try simp only [Q, Int.ofNat_lt, Int.ofNat_le] at h10p
       refine Walk.idx sl27 .none rfl rfl rfl rfl (at_nth (by omega)) rfl ?_
       refine evd [] [] ?_
       refine sq (fun h11 h11p h11s => ?_) fun h11 h11p h11s => ?_
       ·try simp only [Q, Int.ofNat_lt, Int.ofNat_le] at h11p
        refine Walk.idx sl27 (.some rfl rfl h11) rfl rfl rfl rfl (at_nth (by omega)) rfl ?_
        refine evd [] [(58, true)] ?_ ⟨⟨_, rfl, h11⟩, trivial⟩
        refine Walk.idx sl119 (.some rfl rfl h11) rfl rfl rfl rfl (at_nth (by omega)) rfl ?_
        refine evd [] [(58, true)] ?_ ⟨⟨_, rfl, h11⟩, trivial⟩
        refine Walk.idx sl27 (.some rfl rfl h11) rfl rfl rfl rfl (at_nth (by omega)) rfl ?_
        refine evd [] [(58, true)] ?_ ⟨⟨_, rfl, h11⟩, trivial⟩
        refine Walk.idx sl119 (.some rfl rfl h11) rfl rfl rfl rfl (at_nth (by omega)) rfl ?_
        refine evd [] [(58, true)] ?_ ⟨⟨_, rfl, h11⟩, trivial⟩
        refine dr ?_
        refine sq (fun h12 h12p h12s => ?_) fun h12 h12p h12s => ?_
        ·try simp only [Q, Int.ofNat_lt, Int.ofNat_le] at h12p
         refine rn0 (r1 rfl) (.eqd ?_)
         all_goals ((exfalso; omega))
        ·try simp only [Q, Int.ofNat_lt, Int.ofNat_le] at h12p
         refine ar ?_
         refine Exists.intro (j + 1) ⟨⟨by omega, upto_succ hg2.2 (by simp [hitTwice, h1s, h1p, h2s, h2p, h3s, h3p, h4s, h4p, h5s, h5p, h10s, h10p, h11s, h11p, h12s, h12p]; done)⟩, (by omega), Sub.x (by kernel_rfl) (by kernel_rfl) ⟨⟨_, rfl, (LeA.eqi (by first | rfl | (simp; done) | (simp_all; done) | omega))⟩, trivial⟩ (by kernel_rfl) (by kernel_rfl) trivial⟩
       ·try simp only [Q, Int.ofNat_lt, Int.ofNat_le] at h11p
        refine dr ?_
        refine sqF ?_
        refine ar ?_
        refine Exists.intro (j + 1) ⟨⟨by omega, upto_succ hg2.2 (by simp [hitTwice, h1s, h1p, h2s, h2p, h3s, h3p, h4s, h4p, h5s, h5p, h10s, h10p, h11s, h11p]; done)⟩, (by omega), Sub.x (by kernel_rfl) (by kernel_rfl) ⟨⟨_, rfl, (LeA.eqi (by first | rfl | (simp; done) | (simp_all; done) | omega))⟩, trivial⟩ (by kernel_rfl) (by kernel_rfl) trivial⟩
      ·try simp only [Q, Int.ofNat_lt, Int.ofNat_le] at h10p
       refine ar ?_
       refine Exists.intro (i + 1) ⟨⟨by omega, upto_succ hg1.2 (row_false (by simp [h1s, h1p, h2s, h2p, h3s, h3p, h4s, h4p, h5s, h5p, h10s, h10p]) hg2.2 (fun hj => by omega))⟩, (by omega), Sub.x (by kernel_rfl) (by kernel_rfl) ⟨⟨_, rfl, (LeA.eqi (by first | rfl | (simp; done) | (simp_all; done) | omega))⟩, trivial⟩ (by kernel_rfl) (by kernel_rfl) trivial⟩
    ·try simp only [Q, Int.ofNat_lt, Int.ofNat_le] at h4p
     refine sqF ?_
     refine ar ?_
     refine Exists.intro (i + 1) ⟨⟨by omega, upto_succ hg1.2 (row_false (by simp [h1s, h1p, h2s, h2p, h3s, h3p, h4s, h4p]) hg2.2 (fun hj => by omega))⟩, (by omega), Sub.x (by kernel_rfl) (by kernel_rfl) ⟨⟨_, rfl, (LeA.eqi (by first | rfl | (simp; done) | (simp_all; done) | omega))⟩, trivial⟩ (by kernel_rfl) (by kernel_rfl) trivial⟩
  ·try simp only [Q, Int.ofNat_lt, Int.ofNat_le] at h2p
   refine dr ?_
   refine sqF ?_
   refine CWp.loopX (ι := Nat) hk (fun j => [(8, .d (.i (j : Int)))]) [6, 30, 31, 32, 33, 34, 35, 36, 37, 38, 39, 40, 41, 42, 43, 44, 45, 46, 47, 48, 49, 50, 51, 52, 53, 54, 55, 56, 57, 58, 59, 60, 61, 62, 63, 64, 65, 66, 67, 68, 69, 70, 71, 72, 73, 74, 75, 76, 77, 78] (fun j => []) (fun j => j ≤ (nth w i).ctors.length ∧ ∀ j', j' < j → hitTwice w d k i j' = false) (fun j => (nth w i).ctors.length - j) 0 ⟨by omega, fun _ h => absurd h (by omega)⟩ ⟨⟨_, rfl, (LeA.eqi (by first | rfl | (simp; done) | (simp_all; done) | omega))⟩, trivial⟩ trivial (fun x => rfl) (fun j hg2 => ?_)
   have hb := hs.ctors i
   refine evc [] [] ?_
   refine Walk.idx sl27 .none rfl rfl rfl rfl (at_nth (by omega)) rfl ?_
   refine ev ?_
   refine sq (fun h16 h16p h16s => ?_) fun h16 h16p h16s => ?_
   ·try simp only [Q, Int.ofNat_lt, Int.ofNat_le] at h16p
    refine sq (fun h17 h17p h17s => ?_) fun h17 h17p h17s => ?_
    ·try simp only [Q, Int.ofNat_lt, Int.ofNat_le] at h17p
     refine sqT ?_
     refine Walk.idx sl27 .none rfl rfl rfl rfl (at_nth (by omega)) rfl ?_
     refine evd [] [] ?_
     refine sq (fun h19 h19p h19s => ?_) fun h19 h19p h19s => ?_
     ·try simp only [Q, Int.ofNat_lt, Int.ofNat_le] at h19p
      refine Walk.idx sl27 (.some rfl rfl h19) rfl rfl rfl rfl (at_nth (by omega)) rfl ?_
      refine evd [] [(58, true)] ?_ ⟨⟨_, rfl, h19⟩, trivial⟩
      refine Walk.idx sl119 (.some rfl rfl h19) rfl rfl rfl rfl (at_nth (by omega)) rfl ?_
      refine evd [] [(58, true)] ?_ ⟨⟨_, rfl, h19⟩, trivial⟩
      refine Walk.idx sl27 (.some rfl rfl h19) rfl rfl rfl rfl (at_nth (by omega)) rfl ?_
      refine evd [] [(58, true)] ?_ ⟨⟨_, rfl, h19⟩, trivial⟩
      refine Walk.idx sl119 (.some rfl rfl h19) rfl rfl rfl rfl (at_nth (by omega)) rfl ?_
      refine evd [] [(58, true)] ?_ ⟨⟨_, rfl, h19⟩, trivial⟩
      refine dr ?_
      refine sq (fun h20 h20p h20s => ?_) fun h20 h20p h20s => ?_
      ·try simp only [Q, Int.ofNat_lt, Int.ofNat_le] at h20p
       refine rn0 (r1 rfl) (.eqd ?_)
       all_goals ((exfalso; omega))
      ·try simp only [Q, Int.ofNat_lt, Int.ofNat_le] at h20p
       refine ar ?_
       refine Exists.intro (j + 1) ⟨⟨by omega, upto_succ hg2.2 (by simp [hitTwice, h1s, h1p, h2s, h2p, h16s, h16p, h17s, h17p, h19s, h19p, h20s, h20p]; done)⟩, (by omega), Sub.x (by kernel_rfl) (by kernel_rfl) ⟨⟨_, rfl, (LeA.eqi (by first | rfl | (simp; done) | (simp_all; done) | omega))⟩, trivial⟩ (by kernel_rfl) (by kernel_rfl) trivial⟩
     ·try simp only [Q, Int.ofNat_lt, Int.ofNat_le] at h19p
      refine dr ?_
      refine sqF ?_
      refine ar ?_
      refine Exists.intro (j + 1) ⟨⟨by omega, upto_succ hg2.2 (by simp [hitTwice, h1s, h1p, h2s, h2p, h16s, h16p, h17s, h17p, h19s, h19p]; done)⟩, (by omega), Sub.x (by kernel_rfl) (by kernel_rfl) ⟨⟨_, rfl, (LeA.eqi (by first | rfl | (simp; done) | (simp_all; done) | omega))⟩, trivial⟩ (by kernel_rfl) (by kernel_rfl) trivial⟩
    ·try simp only [Q, Int.ofNat_lt, Int.ofNat_le] at h17p
     refine sq (fun h22 h22p h22s => ?_) fun h22 h22p h22s => ?_
     ·try simp only [Q, Int.ofNat_lt, Int.ofNat_le] at h22p
      refine Walk.idx sl27 .none rfl rfl rfl rfl (at_nth (by omega)) rfl ?_
      refine evd [] [] ?_
      refine sq (fun h23 h23p h23s => ?_) fun h23 h23p h23s => ?_
      ·try simp only [Q, Int.ofNat_lt, Int.ofNat_le] at h23p
       refine Walk.idx sl27 (.some rfl rfl h23) rfl rfl rfl rfl (at_nth (by omega)) rfl ?_
       refine evd [] [(58, true)] ?_ ⟨⟨_, rfl, h23⟩, trivial⟩
       refine Walk.idx sl119 (.some rfl rfl h23) rfl rfl rfl rfl (at_nth (by omega)) rfl ?_
       refine evd [] [(58, true)] ?_ ⟨⟨_, rfl, h23⟩, trivial⟩
       refine Walk.idx sl27 (.some rfl rfl h23) rfl rfl rfl rfl (at_nth (by omega)) rfl ?_
       refine evd [] [(58, true)] ?_ ⟨⟨_, rfl, h23⟩, trivial⟩
       refine Walk.idx sl119 (.some rfl rfl h23) rfl rfl rfl rfl (at_nth (by omega)) rfl ?_
       refine evd [] [(58, true)] ?_ ⟨⟨_, rfl, h23⟩, trivial⟩
       refine dr ?_
       refine sq (fun h24 h24p h24s => ?_) fun h24 h24p h24s => ?_
       ·try simp only [Q, Int.ofNat_lt, Int.ofNat_le] at h24p
        refine rn0 (r1 rfl) (.eqd ?_)
        all_goals ((refine congrArg D.bool (any_range_true (i := i) (by omega) ?_).symm; unfold rowTwice; rw [any_range_true (i := j) (by omega) (by simp [hitTwice, h1s, h1p, h2s, h2p, h16s, h16p, h17s, h17p, h22s, h22p, h23s, h23p, h24s, h24p])]; simp; done))
       ·try simp only [Q, Int.ofNat_lt, Int.ofNat_le] at h24p
        refine ar ?_
        refine Exists.intro (j + 1) ⟨⟨by omega, upto_succ hg2.2 (by simp [hitTwice, h1s, h1p, h2s, h2p, h16s, h16p, h17s, h17p, h22s, h22p, h23s, h23p, h24s, h24p]; done)⟩, (by omega), Sub.x (by kernel_rfl) (by kernel_rfl) ⟨⟨_, rfl, (LeA.eqi (by first | rfl | (simp; done) | (simp_all; done) | omega))⟩, trivial⟩ (by kernel_rfl) (by kernel_rfl) trivial⟩
      ·try simp only [Q, Int.ofNat_lt, Int.ofNat_le] at h23p
       refine dr ?_
       refine sqF ?_
       refine ar ?_
       refine Exists.intro (j + 1) ⟨⟨by omega, upto_succ hg2.2 (by simp [hitTwice, h1s, h1p, h2s, h2p, h16s, h16p, h17s, h17p, h22s, h22p, h23s, h23p]; done)⟩, (by omega), Sub.x (by kernel_rfl) (by kernel_rfl) ⟨⟨_, rfl, (LeA.eqi (by first | rfl | (simp; done) | (simp_all; done) | omega))⟩, trivial⟩ (by kernel_rfl) (by kernel_rfl) trivial⟩
     ·try simp only [Q, Int.ofNat_lt, Int.ofNat_le] at h22p
      refine ar ?_
      refine Exists.intro (i + 1) ⟨⟨by omega, upto_succ hg1.2 (row_false (by simp [h1s, h1p, h2s, h2p, h16s, h16p, h17s, h17p, h22s, h22p]) hg2.2 (fun hj => by omega))⟩, (by omega), Sub.x (by kernel_rfl) (by kernel_rfl) ⟨⟨_, rfl, (LeA.eqi (by first | rfl | (simp; done) | (simp_all; done) | omega))⟩, trivial⟩ (by kernel_rfl) (by kernel_rfl) trivial⟩
   ·try simp only [Q, Int.ofNat_lt, Int.ofNat_le] at h16p
    refine sqF ?_
    refine ar ?_
    refine Exists.intro (i + 1) ⟨⟨by omega, upto_succ hg1.2 (row_false (by simp [h1s, h1p, h2s, h2p, h16s, h16p]) hg2.2 (fun hj => by omega))⟩, (by omega), Sub.x (by kernel_rfl) (by kernel_rfl) ⟨⟨_, rfl, (LeA.eqi (by first | rfl | (simp; done) | (simp_all; done) | omega))⟩, trivial⟩ (by kernel_rfl) (by kernel_rfl) trivial⟩
 ·try simp only [Q, Int.ofNat_lt, Int.ofNat_le] at h1p
  refine rn0 (r1 rfl) (.eqd ?_)
  all_goals ((refine congrArg D.bool (any_range_false (fun x hx => hg1.2 x (Nat.lt_of_lt_of_le hx ?_))).symm; omega))
theorem wvs_true {w : List Data} (h : w.length ≤ 4) (h2 : ∀ i, i < w.length → specData w i = true) : specWorldValid w = true := by
 unfold specWorldValid; rw [all_range_true h2]; simp [h]
theorem wvs_len {w : List Data} (h : 4 < w.length) : specWorldValid w = false := by
 unfold specWorldValid; rw [decide_eq_false (by omega)]; rfl
theorem wvs_false {w : List Data} {i : Nat} (h : i < w.length) (h2 : specData w i = false) : specWorldValid w = false := by
 unfold specWorldValid; rw [all_range_false h h2]; simp
theorem specData_true {w : List Data} {d : Nat} (h : dataNameOk (nth w d).name = true) (h1 : 1 ≤ (nth w d).ctors.length) (h2 : (nth w d).ctors.length ≤ 4) (h3 : ∀ k, k < (nth w d).ctors.length → specCtors w d k = true) : specData w d = true := by
 unfold specData; rw [h, all_range_true h3]; simp [h1, h2]
theorem spec_WorldValid_fn {w : List Data} (hs : WSmall w) : FnD Tryz.prog 72 [.d (encDatas w)] [] (.d (.bool (specWorldValid w))) [] := by
 have hw := hs.len
 refine bd Tryz.f72 67 [] [] fun w0 F0 own kept hk => ?_
 refine sq (fun h1 h1p h1s => ?_) fun h1 h1p h1s => ?_
 ·try simp only [Q, Int.ofNat_lt, Int.ofNat_le] at h1p
  refine rn0 (r1 rfl) (.eqd ?_)
  all_goals ((refine congrArg D.bool (wvs_len ?_).symm; omega))
 ·try simp only [Q, Int.ofNat_lt, Int.ofNat_le] at h1p
  refine CWp.loopX (ι := Nat) hk (fun i => [(3, .d (.i (i : Int)))]) [2, 4, 8, 9, 10, 11, 12, 13, 14, 15, 16, 17, 18, 19, 20, 21, 22, 23, 24, 25, 26, 27, 28, 29, 30, 31, 32, 33, 34, 35, 36, 37, 38, 39, 40, 41, 42, 43, 44, 45, 46, 47, 48, 49, 50, 51, 52, 53, 54, 55, 56, 57, 58, 59, 60, 61, 62, 63, 64, 65, 66] (fun i => []) (fun i => i ≤ w.length ∧ ∀ i', i' < i → specData w i' = true) (fun i => w.length - i) 0 ⟨by omega, fun _ h => absurd h (by omega)⟩ ⟨⟨_, rfl, (LeA.eqi (by first | rfl | (simp; done) | (simp_all; done) | omega))⟩, trivial⟩ trivial (fun x => rfl) (fun i hg1 => ?_)
  refine evc [] [] ?_
  refine sq (fun h2 h2p h2s => ?_) fun h2 h2p h2s => ?_
  ·try simp only [Q, Int.ofNat_lt, Int.ofNat_le] at h2p
   refine Walk.idx sl27 .none rfl rfl rfl rfl (at_nth (by omega)) rfl ?_
   refine ev ?_
   refine Walk.call (cr := []) cal128 (spec_l1Data_fn (hs.data _ (nth_mem (by omega))).1) rfl .none rfl rfl (LeL.refl _) trivial rfl rfl rfl ?_
   refine ev ?_
   refine sq (fun h3 h3p h3s => ?_) fun h3 h3p h3s => ?_
   ·try simp only [Q, Int.ofNat_lt, Int.ofNat_le] at h3p
    refine sqT ?_
    refine sqT ?_
    refine rn0 (r1 rfl) (.eqd ?_)
    all_goals ((refine congrArg D.bool (wvs_false (i := i) (by omega) ?_).symm; simp [specData, h1s, h1p, h2s, h2p, h3s, h3p]; done))
   ·try simp only [Q, Int.ofNat_lt, Int.ofNat_le] at h3p
    refine Walk.idx sl27 (.some rfl rfl h3) rfl rfl rfl rfl (at_nth (by omega)) rfl ?_
    refine evs [] [(21, false)] ?_ ⟨⟨_, rfl, h3⟩, trivial⟩
    refine sq (fun h5 h5p h5s => ?_) fun h5 h5p h5s => ?_
    ·try simp only [Q, Int.ofNat_lt, Int.ofNat_le] at h5p
     refine sqT ?_
     refine rn0 (r1 rfl) (.eqd ?_)
     all_goals ((refine congrArg D.bool (wvs_false (i := i) (by omega) ?_).symm; unfold specData; rw [decide_eq_false (p := 1 ≤ (nth w i).ctors.length) (by omega)]; simp; done))
    ·try simp only [Q, Int.ofNat_lt, Int.ofNat_le] at h5p
     refine Walk.idx sl27 (.some rfl rfl h5) rfl rfl rfl rfl (at_nth (by omega)) rfl ?_
     refine evs [] [(30, false)] ?_ ⟨⟨_, rfl, h5⟩, trivial⟩
     refine sq (fun h7 h7p h7s => ?_) fun h7 h7p h7s => ?_
     ·try simp only [Q, Int.ofNat_lt, Int.ofNat_le] at h7p
      refine rn0 (r1 rfl) (.eqd ?_)
      all_goals ((refine congrArg D.bool (wvs_false (i := i) (by omega) ?_).symm; unfold specData; rw [decide_eq_false (p := (nth w i).ctors.length ≤ 4) (by omega)]; simp; done))
     ·try simp only [Q, Int.ofNat_lt, Int.ofNat_le] at h7p
      refine CWp.loopX (ι := Nat) hk (fun k => [(4, .d (.i (k : Int)))]) [2, 39, 40, 41, 42, 43, 44, 45, 46, 47, 48, 49, 50, 51, 52, 53, 54, 55, 56, 57, 58, 59, 60, 61, 62, 63, 64, 65, 66] (fun k => []) (fun k => k ≤ (nth w i).ctors.length ∧ ∀ k', k' < k → specCtors w i k' = true) (fun k => (nth w i).ctors.length - k) 0 ⟨by omega, fun _ h => absurd h (by omega)⟩ ⟨⟨_, rfl, (LeA.eqi (by first | rfl | (simp; done) | (simp_all; done) | omega))⟩, trivial⟩ trivial (fun x => rfl) (fun k hg2 => ?_)
      have hb := hs.ctors i
      refine evc [] [] ?_
      refine Walk.idx sl27 .none rfl rfl rfl rfl (at_nth (by omega)) rfl ?_
      refine ev ?_
      refine sq (fun h8 h8p h8s => ?_) fun h8 h8p h8s => ?_
      ·try simp only [Q, Int.ofNat_lt, Int.ofNat_le] at h8p
       refine Walk.idx sl27 .none rfl rfl rfl rfl (at_nth (by omega)) rfl ?_
       refine ev ?_
       refine Walk.idx sl119 .none rfl rfl rfl rfl (at_nth (by omega)) rfl ?_
       refine ev ?_
       refine Walk.call (cr := []) cal129 (spec_l1Ctor_fn (hs.ctor _ (nth_mem (i := i) (by omega)) _ (nth_mem (i := k) (by omega))).1 (hs.ctor _ (nth_mem (i := i) (by omega)) _ (nth_mem (i := k) (by omega))).2) rfl .none rfl rfl (LeL.refl _) trivial rfl rfl rfl ?_
       refine ev ?_
       refine sq (fun h9 h9p h9s => ?_) fun h9 h9p h9s => ?_
       ·try simp only [Q, Int.ofNat_lt, Int.ofNat_le] at h9p
        refine sqT ?_
        refine rn0 (r1 rfl) (.eqd ?_)
        all_goals ((refine congrArg D.bool (wvs_false (i := i) (by omega) ?_).symm; unfold specData; rw [all_range_false (i := k) (by omega) (by simp [specCtors, Ctor.eta, h1s, h1p, h2s, h2p, h3s, h3p, h5s, h5p, h7s, h7p, h8s, h8p, h9s, h9p])]; simp; done))
       ·try simp only [Q, Int.ofNat_lt, Int.ofNat_le] at h9p
        refine Walk.call (cr := []) cal130 (spec_l1Twice_fn hs (by omega)) rfl (.some rfl rfl h9) rfl rfl (LeL.refl _) trivial rfl rfl rfl ?_
        refine evs [] [(61, false)] ?_ ⟨⟨_, rfl, h9⟩, trivial⟩
        refine sq (fun h11 h11p h11s => ?_) fun h11 h11p h11s => ?_
        ·try simp only [Q, Int.ofNat_lt, Int.ofNat_le] at h11p
         refine rn0 (r1 rfl) (.eqd ?_)
         all_goals ((refine congrArg D.bool (wvs_false (i := i) (by omega) ?_).symm; unfold specData; rw [all_range_false (i := k) (by omega) (by simp [specCtors, Ctor.eta, h1s, h1p, h2s, h2p, h3s, h3p, h5s, h5p, h7s, h7p, h8s, h8p, h9s, h9p, h11s, h11p])]; simp; done))
        ·try simp only [Q, Int.ofNat_lt, Int.ofNat_le] at h11p
         refine ar ?_
         refine Exists.intro (k + 1) ⟨⟨by omega, upto_succ hg2.2 (by simp [specCtors, Ctor.eta, h1s, h1p, h2s, h2p, h3s, h3p, h5s, h5p, h7s, h7p, h8s, h8p, h9s, h9p, h11s, h11p]; done)⟩, (by omega), Sub.x (by kernel_rfl) (by kernel_rfl) ⟨⟨_, rfl, (LeA.eqi (by first | rfl | (simp; done) | (simp_all; done) | omega))⟩, trivial⟩ (by kernel_rfl) (by kernel_rfl) trivial⟩
      ·try simp only [Q, Int.ofNat_lt, Int.ofNat_le] at h8p
       refine ar ?_
       refine Exists.intro (i + 1) ⟨⟨by omega, upto_succ hg1.2 (specData_true (by simp [h1s, h1p, h2s, h2p, h3s, h3p, h5s, h5p, h7s, h7p, h8s, h8p]) (by omega) (by omega) (fun x hx => hg2.2 x (by omega)))⟩, (by omega), Sub.x (by kernel_rfl) (by kernel_rfl) ⟨⟨_, rfl, (LeA.eqi (by first | rfl | (simp; done) | (simp_all; done) | omega))⟩, trivial⟩ (by kernel_rfl) (by kernel_rfl) trivial⟩
  ·try simp only [Q, Int.ofNat_lt, Int.ofNat_le] at h2p
   refine rn0 (r1 rfl) (.eqd ?_)
   all_goals ((refine congrArg D.bool (wvs_true ?_ (fun x hx => hg1.2 x (Nat.lt_of_lt_of_le hx ?_))).symm <;> omega))
def szr (left : Int) (m : Nat) : Int := if left < m then -1 else left - m
theorem szr_or {left : Int} (m : Nat) : (left < m ∧ szr left m = -1) ∨ ((m : Int) ≤ left ∧ szr left m = left - m) := by
 unfold szr; split <;> omega
def mTys (l : List Ty) : Nat := l.length
def mCtor (c : Ctor) : Nat := c.name.length + mTys c.args
def mCtors (l : List Ctor) : Nat := l.length + (l.map mCtor).sum
def mData (c : Data) : Nat := c.name.length + mCtors c.ctors
def mDatas (l : List Data) : Nat := l.length + (l.map mData).sum
structure CSmall (l : List Ctor) : Prop where
 len : l.length ≤ 1000000000000
 ctor : ∀ c ∈ l, c.name.length ≤ 1000000000000 ∧ c.args.length ≤ 1000000000000
theorem WSmall.cs {w : List Data} (h : WSmall w) {d : Data} (hd : d ∈ w) : CSmall d.ctors := ⟨(h.data d hd).2, h.ctor d hd⟩
theorem laws_szTypeS_fn {l : List Ty} {left : Int} (h : l.length ≤ 1000000000000) (k0 : 0 ≤ left) (k1 : left ≤ 1000000000000) : FnD Tryz.prog 268 [.d (encTys l), .d (.i left)] [] (.d (.i (szr left (mTys l)))) [] := by
 have z := szr_or (left := left) (mTys l)
 refine bd Tryz.f268 12 [] [] fun w0 F0 own kept hk => ?_
 refine ar ?_
 refine sq (fun h1 h1p h1s => ?_) fun h1 h1p h1s => ?_
 ·try simp only [Q] at h1p
  refine rn0 (r1 rfl) (.eqd ?_)
  all_goals (refine congrArg D.i ?_; simp only [mTys, List.length_map] at *; omega)
 ·try simp only [Q] at h1p
  refine rn0 (r1 rfl) (.eqd ?_)
  all_goals (refine congrArg D.i ?_; simp only [mTys, List.length_map] at *; omega)
theorem laws_szCtor_fn {s : Str} {args : List Ty} {k left : Int} (h : s.length ≤ 1000000000000) (h' : args.length ≤ 1000000000000) (k0 : 0 ≤ left) (k1 : left ≤ 1000000000000) : FnD Tryz.prog 204 [.agg [.d (.str s), .d (encTys args), .d (.i k)], .d (.i left)] [] (.d (.i (szr left (mCtor ⟨s, args, k⟩)))) [] := by
 have z := szr_or (left := left) (mCtor ⟨s, args, k⟩)
 have z2 := szr_or (left := left - s.length) (mTys args)
 simp only [mCtor] at z z2 ⊢
 refine bd Tryz.f204 19 [] [] fun w0 F0 own kept hk => ?_
 refine Walk.box (id := 3002) .none rfl rfl rfl rfl rfl rfl rfl ?_
 refine ev ?_
 refine ar ?_
 refine sq (fun h1 h1p h1s => ?_) fun h1 h1p h1s => ?_
 ·try simp only [Q] at h1p
  refine rn0 (r1 rfl) (.eqd ?_)
  all_goals (refine congrArg D.i ?_; omega)
 ·try simp only [Q] at h1p
  refine Walk.call (cr := []) cal268 (laws_szTypeS_fn h' (by omega) (by omega)) rfl .none rfl rfl (LeL.refl _) trivial rfl rfl rfl ?_
  refine ev ?_
  refine sq (fun h2 h2p h2s => ?_) fun h2 h2p h2s => ?_
  ·try simp only [Q] at h2p
   refine rn0 (r1 rfl) (.eqd ?_)
   all_goals (refine congrArg D.i ?_; omega)
  ·try simp only [Q] at h2p
   refine rn0 (r1 rfl) (.eqd ?_)
   all_goals (refine congrArg D.i ?_; omega)
theorem sum_split {α : Type} {f : α → Nat} {pre rest l : List α} {y : α} (h : pre ++ y :: rest = l) : (l.map f).sum = (pre.map f).sum + f y + (rest.map f).sum := by
 subst h; simp; omega
theorem laws_szCtorS_fn {l : List Ctor} {left : Int} (hs : CSmall l) (k0 : 0 ≤ left) (k1 : left ≤ 1000000000000) : FnD Tryz.prog 126 [.d (encCtors l), .d (.i left)] [] (.d (.i (szr left (mCtors l)))) [] := by
 have h := hs.len
 have z := szr_or (left := left) (mCtors l)
 simp only [mCtors] at z ⊢
 refine bd Tryz.f126 27 [] [] fun w0 F0 own kept hk => ?_
 refine ar ?_
 refine sq (fun h1 h1p h1s => ?_) fun h1 h1p h1s => ?_
 ·try simp only [Q] at h1p
  refine rn0 (r1 rfl) (.eqd ?_)
  all_goals (refine congrArg D.i ?_; first | omega | (have e := sum_split (f := mCtor) hg1.1; have z3 := szr_or (left := v) (mCtor y); simp only [Ctor.eta] at *; omega) | (rw [List.append_nil] at hg1; rw [hg1.1] at hg1; omega))
 ·try simp only [Q] at h1p
  refine CWp.loopX (ι := List (Ctor) × List (Ctor) × (Int)) hk (fun x => [(5, .d (.i (x.1.length : Int))), (1, .d (.i x.2.2))]) [4, 12, 13, 14, 15, 16, 17, 18, 19, 20, 21, 22, 23, 24, 25] (fun x => []) (fun x => x.1 ++ x.2.1 = l ∧ x.2.2 = left - l.length - (x.1.map mCtor).sum ∧ 0 ≤ x.2.2) (fun x => x.2.1.length) ([], l, left - l.length) ⟨by simp, by simp, by simp at *; omega⟩ ⟨⟨_, rfl, (LeA.eqi (by first | rfl | (simp; done)))⟩, ⟨⟨_, rfl, (LeA.eqi (by first | rfl | (simp; done)))⟩, trivial⟩⟩ trivial (fun x => rfl) (fun x hg1 => ?_)
  obtain ⟨pre, rest, v⟩ := x
  dsimp only at hg1 ⊢
  refine evc [] [] ?_
  refine sq (fun h2 h2p h2s => ?_) fun h2 h2p h2s => ?_
  ·try simp only [Q] at h2p
   rcases rest with _ | ⟨y, rest⟩
   ·exfalso; simp_all
   refine Walk.idx sl100 .none rfl rfl rfl rfl (zip_at hg1.1) rfl ?_
   refine ev ?_
   refine Walk.call (cr := []) cal204 (laws_szCtor_fn (hs.ctor y (by rw [← hg1.1]; simp)).1 (hs.ctor y (by rw [← hg1.1]; simp)).2 (by omega) (by omega)) rfl .none rfl rfl (LeL.refl _) trivial rfl rfl rfl ?_
   refine ev ?_
   refine sq (fun h3 h3p h3s => ?_) fun h3 h3p h3s => ?_
   ·try simp only [Q] at h3p
    refine rn0 (r1 rfl) (.eqd ?_)
    all_goals (refine congrArg D.i ?_; first | omega | (have e := sum_split (f := mCtor) hg1.1; have z3 := szr_or (left := v) (mCtor y); simp only [Ctor.eta] at *; omega) | (rw [List.append_nil] at hg1; rw [hg1.1] at hg1; omega))
   ·try simp only [Q] at h3p
    refine ar ?_
    refine Exists.intro ((pre ++ [y], rest, szr v (mCtor y))) ⟨⟨(by have hz := hg1.1; rw [← hz]; simp), (by have e := sum_split (f := mCtor) hg1.1; have z3 := szr_or (left := v) (mCtor y); simp only [Ctor.eta] at *; simp; omega)⟩, (by simp), Sub.x (by kernel_rfl) (by kernel_rfl) ⟨⟨_, rfl, (LeA.eqi (by first | rfl | (simp; done)))⟩, ⟨⟨_, rfl, (LeA.eqi (by first | rfl | (simp; done)))⟩, trivial⟩⟩ (by kernel_rfl) (by kernel_rfl) trivial⟩
  ·try simp only [Q] at h2p
   have hrest : rest = [] := by
    rcases rest with _ | ⟨a, b⟩
    ·rfl
    ·exfalso; have hz := congrArg List.length (hg1.1); simp only [List.length_append, List.length_cons, List.length_map] at hz; omega
   subst hrest
   refine rn0 (r1 rfl) (.eqd ?_)
   all_goals (refine congrArg D.i ?_; first | omega | (have e := sum_split (f := mCtor) hg1.1; have z3 := szr_or (left := v) (mCtor y); simp only [Ctor.eta] at *; omega) | (rw [List.append_nil] at hg1; rw [hg1.1] at hg1; omega))
theorem laws_toType_fn {a b : Int} : FnD Tryz.prog 24 [.agg [.d (.i a), .d (.i b)]] [] (.agg [.d (.i a), .d (.i b)]) [] := by
 refine bd Tryz.f24 11 [] [] fun w0 F0 own kept hk => ?_
 refine Walk.box (id := 3001) .none rfl rfl rfl rfl rfl rfl rfl ?_
 refine Walk.alloc (id := 3002) tz42 rfl .none rfl rfl rfl rfl ?_
 refine tv ?_
 refine Walk.alloc (id := 3003) tz42 rfl .none rfl rfl rfl rfl ?_
 refine tv ?_
 refine Walk.store ty3 .none rfl rfl rfl rfl rfl rfl (by simp) rfl ?_
 refine tv ?_
 refine Walk.store ty3 .none rfl rfl rfl rfl rfl rfl (by simp) rfl ?_
 refine tv ?_
 refine Walk.store ty42 .none rfl rfl rfl rfl rfl rfl (by simp) rfl ?_
 refine tv ?_
 refine rn0 (.cons (.cellA ty42 rfl rfl rfl) .nil) (.agg (.cons (.eqd ?_) (.cons (.eqd ?_) .nil)))
 all_goals (first | rfl | (simp []; done) | (simp_all; done) | (simp_all; omega) | omega)
theorem laws_toTypeS_fn {l : List Ty} (h : l.length ≤ 1000000000000) : FnD Tryz.prog 271 [.d (encTys l)] [] (.d (encTys l)) [] := by
 refine bd Tryz.f271 23 [] [999999] fun w0 F0 own kept hk => ?_
 refine Walk.make (id := 3007) sl182 tz42 rfl (by decide) (zerosA_ids rfl) .none rfl rfl rfl (by simp; omega) (by simp; omega) rfl rfl rfl ?_
 refine ev ?_
 refine CWp.loopX (ι := List (Ty) × List (Ty)) hk (fun x => [(4, .d (.i (x.1.length : Int)))]) [8, 9, 10, 11, 12, 13, 14, 15, 16, 17, 18, 19, 20, 21] (fun x => [(3007, some (.box ((x.1.flatMap fun x => (Ty.c x).map AV.d) ++ zerosA x.2.length [.d (.i 0), .d (.i 0)])))]) (fun x => x.1 ++ x.2 = l) (fun x => x.2.length) ([], l) (by simp) ⟨⟨_, rfl, (LeA.eqi (by first | rfl | (simp; done) | (simp_all; done) | omega))⟩, trivial⟩ ⟨(by first | rfl | (show some (Res.box _) = some (Res.box _); simp; done)), trivial⟩ (fun x => rfl) (fun x hg1 => ?_)
 obtain ⟨pre, rest⟩ := x
 dsimp only at hg1 ⊢
 refine evc [] [999999] ?_
 refine sq (fun h1 h1p h1s => ?_) fun h1 h1p h1s => ?_
 ·try simp only [Q] at h1p
  rcases rest with _ | ⟨y, rest⟩
  ·exfalso; simp_all
  refine Walk.idx sl260 .none rfl rfl rfl rfl (zip_at hg1) rfl ?_
  refine ev ?_
  refine Walk.call (cr := []) cal24 (laws_toType_fn) rfl .none rfl rfl (LeL.refl _) trivial rfl rfl rfl ?_
  refine Walk.idxM sl182 .none rfl rfl rfl rfl (by first | omega | (simp ; omega)) ?_
  refine Walk.store ty42 .none rfl rfl rfl rfl rfl rfl (by simp) ((putC_next (k := 2) (by intro x _; rfl) (by first | rfl | simp) rfl)) ?_
  refine tv ?_
  refine ar ?_
  refine Exists.intro ((pre ++ [y], rest)) ⟨(by have hz := hg1; rw [← hz]; simp), (by simp), Sub.x (by kernel_rfl) (by kernel_rfl) ⟨⟨_, rfl, (LeA.eqi (by first | rfl | (simp; done) | (simp_all; done) | omega))⟩, trivial⟩ (by kernel_rfl) (by kernel_rfl) ⟨(by first | rfl | (show some (Res.box _) = some (Res.box _); simp; done)), trivial⟩⟩
 ·try simp only [Q] at h1p
  have hrest : rest = [] := by
   rcases rest with _ | ⟨a, b⟩
   ·rfl
   ·exfalso; have hz := congrArg List.length (hg1); simp only [List.length_append, List.length_cons, List.length_map] at hz; omega
  subst hrest
  refine CWp.frz hk 2 3007 _ _ rfl rfl (chunkD_done (f := Ty.c) (k := 2) hg1 (by simp) (by intro x _; rfl)) rfl ?_
  refine CWp.ret ?_
  refine rn0 (r1 rfl) (.eqd ?_)
  all_goals (first | rfl | (simp [h1s, h1p]; done) | (simp_all; done) | (simp_all; omega) | omega)
theorem laws_toCtor_fn {s : Str} {args : List Ty} {k : Int} (h : args.length ≤ 1000000000000) : FnD Tryz.prog 212 [.agg [.d (.str s), .d (encTys args), .d (.i k)]] [] (.agg [.d (.str s), .d (encTys args), .d (.i k)]) [] := by
 refine bd Tryz.f212 15 [] [] fun w0 F0 own kept hk => ?_
 refine Walk.box (id := 3001) .none rfl rfl rfl rfl rfl rfl rfl ?_
 refine Walk.alloc (id := 3002) tz184 rfl .none rfl rfl rfl rfl ?_
 refine tv ?_
 refine Walk.alloc (id := 3003) tz184 rfl .none rfl rfl rfl rfl ?_
 refine tv ?_
 refine Walk.store ty9 .none rfl rfl rfl rfl rfl rfl (by simp) rfl ?_
 refine tv ?_
 refine Walk.call (cr := []) cal271 (laws_toTypeS_fn h) rfl .none rfl rfl (LeL.refl _) trivial rfl rfl rfl ?_
 refine ev ?_
 refine Walk.store ty182 .none rfl rfl rfl rfl rfl rfl (by simp) rfl ?_
 refine tv ?_
 refine Walk.store ty3 .none rfl rfl rfl rfl rfl rfl (by simp) rfl ?_
 refine tv ?_
 refine Walk.store ty184 .none rfl rfl rfl rfl rfl rfl (by simp) rfl ?_
 refine tv ?_
 refine rn0 (.cons (.cellA ty184 rfl rfl rfl) .nil) (.agg (.cons (.eqd ?_) (.cons (.eqd ?_) (.cons (.eqd ?_) .nil))))
 all_goals (first | rfl | (simp []; done) | (simp_all; done) | (simp_all; omega) | omega)
theorem laws_toCtorS_fn {l : List Ctor} (hs : CSmall l) : FnD Tryz.prog 134 [.d (encCtors l)] [] (.d (encCtors l)) [] := by
 have h := hs.len
 refine bd Tryz.f134 23 [] [999999] fun w0 F0 own kept hk => ?_
 refine Walk.make (id := 3007) sl119 tz184 rfl (by decide) (zerosA_ids rfl) .none rfl rfl rfl (by simp; omega) (by simp; omega) rfl rfl rfl ?_
 refine ev ?_
 refine CWp.loopX (ι := List (Ctor) × List (Ctor)) hk (fun x => [(4, .d (.i (x.1.length : Int)))]) [8, 9, 10, 11, 12, 13, 14, 15, 16, 17, 18, 19, 20, 21] (fun x => [(3007, some (.box ((x.1.flatMap fun x => (Ctor.c x).map AV.d) ++ zerosA x.2.length [.d (.str []), .nils, .d (.i 0)])))]) (fun x => x.1 ++ x.2 = l) (fun x => x.2.length) ([], l) (by simp) ⟨⟨_, rfl, (LeA.eqi (by first | rfl | (simp; done) | (simp_all; done) | omega))⟩, trivial⟩ ⟨(by first | rfl | (show some (Res.box _) = some (Res.box _); simp; done)), trivial⟩ (fun x => rfl) (fun x hg1 => ?_)
 obtain ⟨pre, rest⟩ := x
 dsimp only at hg1 ⊢
 refine evc [] [999999] ?_
 refine sq (fun h1 h1p h1s => ?_) fun h1 h1p h1s => ?_
 ·try simp only [Q] at h1p
  rcases rest with _ | ⟨y, rest⟩
  ·exfalso; simp_all
  refine Walk.idx sl100 .none rfl rfl rfl rfl (zip_at hg1) rfl ?_
  refine ev ?_
  refine Walk.call (cr := []) cal212 (laws_toCtor_fn (hs.ctor y (by rw [← hg1]; simp)).2) rfl .none rfl rfl (LeL.refl _) trivial rfl rfl rfl ?_
  refine Walk.idxM sl119 .none rfl rfl rfl rfl (by first | omega | (simp ; omega)) ?_
  refine Walk.store ty184 .none rfl rfl rfl rfl rfl rfl (by simp) ((putC_next (k := 3) (by intro x _; rfl) (by first | rfl | simp) rfl)) ?_
  refine tv ?_
  refine ar ?_
  refine Exists.intro ((pre ++ [y], rest)) ⟨(by have hz := hg1; rw [← hz]; simp), (by simp), Sub.x (by kernel_rfl) (by kernel_rfl) ⟨⟨_, rfl, (LeA.eqi (by first | rfl | (simp; done) | (simp_all; done) | omega))⟩, trivial⟩ (by kernel_rfl) (by kernel_rfl) ⟨(by first | rfl | (show some (Res.box _) = some (Res.box _); simp; done)), trivial⟩⟩
 ·try simp only [Q] at h1p
  have hrest : rest = [] := by
   rcases rest with _ | ⟨a, b⟩
   ·rfl
   ·exfalso; have hz := congrArg List.length (hg1); simp only [List.length_append, List.length_cons, List.length_map] at hz; omega
  subst hrest
  refine CWp.frz hk 2 3007 _ _ rfl rfl (chunkD_done (f := Ctor.c) (k := 3) hg1 (by simp) (by intro x _; rfl)) rfl ?_
  refine CWp.ret ?_
  refine rn0 (r1 rfl) (.eqd ?_)
  all_goals (first | rfl | (simp [h1s, h1p]; done) | (simp_all; done) | (simp_all; omega) | omega)
theorem laws_toData_fn {s : Str} {cs : List Ctor} (h : CSmall cs) : FnD Tryz.prog 75 [.agg [.d (.str s), .d (encCtors cs)]] [] (.agg [.d (.str s), .d (encCtors cs)]) [] := by
 refine bd Tryz.f75 12 [] [] fun w0 F0 own kept hk => ?_
 refine Walk.box (id := 3001) .none rfl rfl rfl rfl rfl rfl rfl ?_
 refine Walk.alloc (id := 3002) tz121 rfl .none rfl rfl rfl rfl ?_
 refine tv ?_
 refine Walk.alloc (id := 3003) tz121 rfl .none rfl rfl rfl rfl ?_
 refine tv ?_
 refine Walk.store ty9 .none rfl rfl rfl rfl rfl rfl (by simp) rfl ?_
 refine tv ?_
 refine Walk.call (cr := []) cal134 (laws_toCtorS_fn h) rfl .none rfl rfl (LeL.refl _) trivial rfl rfl rfl ?_
 refine ev ?_
 refine Walk.store ty119 .none rfl rfl rfl rfl rfl rfl (by simp) rfl ?_
 refine tv ?_
 refine Walk.store ty121 .none rfl rfl rfl rfl rfl rfl (by simp) rfl ?_
 refine tv ?_
 refine rn0 (.cons (.cellA ty121 rfl rfl rfl) .nil) (.agg (.cons (.eqd ?_) (.cons (.eqd ?_) .nil)))
 all_goals (first | rfl | (simp []; done) | (simp_all; done) | (simp_all; omega) | omega)
theorem laws_toDataS_fn {l : List Data} (hs : WSmall l) : FnD Tryz.prog 15 [.d (encDatas l)] [] (.d (encDatas l)) [] := by
 have h := hs.len
 refine bd Tryz.f15 23 [] [999999] fun w0 F0 own kept hk => ?_
 refine Walk.make (id := 3007) sl27 tz121 rfl (by decide) (zerosA_ids rfl) .none rfl rfl rfl (by simp; omega) (by simp; omega) rfl rfl rfl ?_
 refine ev ?_
 refine CWp.loopX (ι := List (Data) × List (Data)) hk (fun x => [(4, .d (.i (x.1.length : Int)))]) [8, 9, 10, 11, 12, 13, 14, 15, 16, 17, 18, 19, 20, 21] (fun x => [(3007, some (.box ((x.1.flatMap fun x => (Data.c x).map AV.d) ++ zerosA x.2.length [.d (.str []), .nils])))]) (fun x => x.1 ++ x.2 = l) (fun x => x.2.length) ([], l) (by simp) ⟨⟨_, rfl, (LeA.eqi (by first | rfl | (simp; done) | (simp_all; done) | omega))⟩, trivial⟩ ⟨(by first | rfl | (show some (Res.box _) = some (Res.box _); simp; done)), trivial⟩ (fun x => rfl) (fun x hg1 => ?_)
 obtain ⟨pre, rest⟩ := x
 dsimp only at hg1 ⊢
 refine evc [] [999999] ?_
 refine sq (fun h1 h1p h1s => ?_) fun h1 h1p h1s => ?_
 ·try simp only [Q] at h1p
  rcases rest with _ | ⟨y, rest⟩
  ·exfalso; simp_all
  refine Walk.idx sl22 .none rfl rfl rfl rfl (zip_at hg1) rfl ?_
  refine ev ?_
  refine Walk.call (cr := []) cal75 (laws_toData_fn (hs.cs (d := y) (by rw [← hg1]; simp))) rfl .none rfl rfl (LeL.refl _) trivial rfl rfl rfl ?_
  refine Walk.idxM sl27 .none rfl rfl rfl rfl (by first | omega | (simp ; omega)) ?_
  refine Walk.store ty121 .none rfl rfl rfl rfl rfl rfl (by simp) ((putC_next (k := 2) (by intro x _; rfl) (by first | rfl | simp) rfl)) ?_
  refine tv ?_
  refine ar ?_
  refine Exists.intro ((pre ++ [y], rest)) ⟨(by have hz := hg1; rw [← hz]; simp), (by simp), Sub.x (by kernel_rfl) (by kernel_rfl) ⟨⟨_, rfl, (LeA.eqi (by first | rfl | (simp; done) | (simp_all; done) | omega))⟩, trivial⟩ (by kernel_rfl) (by kernel_rfl) ⟨(by first | rfl | (show some (Res.box _) = some (Res.box _); simp; done)), trivial⟩⟩
 ·try simp only [Q] at h1p
  have hrest : rest = [] := by
   rcases rest with _ | ⟨a, b⟩
   ·rfl
   ·exfalso; have hz := congrArg List.length (hg1); simp only [List.length_append, List.length_cons, List.length_map] at hz; omega
  subst hrest
  refine CWp.frz hk 2 3007 _ _ rfl rfl (chunkD_done (f := Data.c) (k := 2) hg1 (by simp) (by intro x _; rfl)) rfl ?_
  refine CWp.ret ?_
  refine rn0 (r1 rfl) (.eqd ?_)
  all_goals (first | rfl | (simp [h1s, h1p]; done) | (simp_all; done) | (simp_all; omega) | omega)
theorem laws_szData_fn {s : Str} {cs : List Ctor} {left : Int} (h : s.length ≤ 1000000000000) (hc : CSmall cs) (k0 : 0 ≤ left) (k1 : left ≤ 1000000000000) : FnD Tryz.prog 69 [.agg [.d (.str s), .d (encCtors cs)], .d (.i left)] [] (.d (.i (szr left (mData ⟨s, cs⟩)))) [] := by
 have z := szr_or (left := left) (mData ⟨s, cs⟩)
 have z2 := szr_or (left := left - s.length) (mCtors cs)
 simp only [mData] at z z2 ⊢
 refine bd Tryz.f69 19 [] [] fun w0 F0 own kept hk => ?_
 refine Walk.box (id := 3002) .none rfl rfl rfl rfl rfl rfl rfl ?_
 refine ev ?_
 refine ar ?_
 refine sq (fun h1 h1p h1s => ?_) fun h1 h1p h1s => ?_
 ·try simp only [Q] at h1p
  refine rn0 (r1 rfl) (.eqd ?_)
  all_goals (refine congrArg D.i ?_; omega)
 ·try simp only [Q] at h1p
  refine Walk.call (cr := []) cal126 (laws_szCtorS_fn hc (by omega) (by omega)) rfl .none rfl rfl (LeL.refl _) trivial rfl rfl rfl ?_
  refine ev ?_
  refine sq (fun h2 h2p h2s => ?_) fun h2 h2p h2s => ?_
  ·try simp only [Q] at h2p
   refine rn0 (r1 rfl) (.eqd ?_)
   all_goals (refine congrArg D.i ?_; omega)
  ·try simp only [Q] at h2p
   refine rn0 (r1 rfl) (.eqd ?_)
   all_goals (refine congrArg D.i ?_; omega)
theorem laws_szDataS_fn {l : List Data} {left : Int} (hs : WSmall l) (k0 : 0 ≤ left) (k1 : left ≤ 1000000000000) : FnD Tryz.prog 12 [.d (encDatas l), .d (.i left)] [] (.d (.i (szr left (mDatas l)))) [] := by
 have h := hs.len
 have z := szr_or (left := left) (mDatas l)
 simp only [mDatas] at z ⊢
 refine bd Tryz.f12 27 [] [] fun w0 F0 own kept hk => ?_
 refine ar ?_
 refine sq (fun h1 h1p h1s => ?_) fun h1 h1p h1s => ?_
 ·try simp only [Q] at h1p
  refine rn0 (r1 rfl) (.eqd ?_)
  all_goals (refine congrArg D.i ?_; first | omega | (have e := sum_split (f := mData) hg1.1; have z3 := szr_or (left := v) (mData y); simp only [Data.eta] at *; omega) | (rw [List.append_nil] at hg1; rw [hg1.1] at hg1; omega))
 ·try simp only [Q] at h1p
  refine CWp.loopX (ι := List (Data) × List (Data) × (Int)) hk (fun x => [(5, .d (.i (x.1.length : Int))), (1, .d (.i x.2.2))]) [4, 12, 13, 14, 15, 16, 17, 18, 19, 20, 21, 22, 23, 24, 25] (fun x => []) (fun x => x.1 ++ x.2.1 = l ∧ x.2.2 = left - l.length - (x.1.map mData).sum ∧ 0 ≤ x.2.2) (fun x => x.2.1.length) ([], l, left - l.length) ⟨by simp, by simp, by simp at *; omega⟩ ⟨⟨_, rfl, (LeA.eqi (by first | rfl | (simp; done)))⟩, ⟨⟨_, rfl, (LeA.eqi (by first | rfl | (simp; done)))⟩, trivial⟩⟩ trivial (fun x => rfl) (fun x hg1 => ?_)
  obtain ⟨pre, rest, v⟩ := x
  dsimp only at hg1 ⊢
  refine evc [] [] ?_
  refine sq (fun h2 h2p h2s => ?_) fun h2 h2p h2s => ?_
  ·try simp only [Q] at h2p
   rcases rest with _ | ⟨y, rest⟩
   ·exfalso; simp_all
   refine Walk.idx sl22 .none rfl rfl rfl rfl (zip_at hg1.1) rfl ?_
   refine ev ?_
   refine Walk.call (cr := []) cal69 (laws_szData_fn (hs.data y (by rw [← hg1.1]; simp)).1 (hs.cs (d := y) (by rw [← hg1.1]; simp)) (by omega) (by omega)) rfl .none rfl rfl (LeL.refl _) trivial rfl rfl rfl ?_
   refine ev ?_
   refine sq (fun h3 h3p h3s => ?_) fun h3 h3p h3s => ?_
   ·try simp only [Q] at h3p
    refine rn0 (r1 rfl) (.eqd ?_)
    all_goals (refine congrArg D.i ?_; first | omega | (have e := sum_split (f := mData) hg1.1; have z3 := szr_or (left := v) (mData y); simp only [Data.eta] at *; omega) | (rw [List.append_nil] at hg1; rw [hg1.1] at hg1; omega))
   ·try simp only [Q] at h3p
    refine ar ?_
    refine Exists.intro ((pre ++ [y], rest, szr v (mData y))) ⟨⟨(by have hz := hg1.1; rw [← hz]; simp), (by have e := sum_split (f := mData) hg1.1; have z3 := szr_or (left := v) (mData y); simp only [Data.eta] at *; simp; omega)⟩, (by simp), Sub.x (by kernel_rfl) (by kernel_rfl) ⟨⟨_, rfl, (LeA.eqi (by first | rfl | (simp; done)))⟩, ⟨⟨_, rfl, (LeA.eqi (by first | rfl | (simp; done)))⟩, trivial⟩⟩ (by kernel_rfl) (by kernel_rfl) trivial⟩
  ·try simp only [Q] at h2p
   have hrest : rest = [] := by
    rcases rest with _ | ⟨a, b⟩
    ·rfl
    ·exfalso; have hz := congrArg List.length (hg1.1); simp only [List.length_append, List.length_cons, List.length_map] at hz; omega
   subst hrest
   refine rn0 (r1 rfl) (.eqd ?_)
   all_goals (refine congrArg D.i ?_; first | omega | (have e := sum_split (f := mData) hg1.1; have z3 := szr_or (left := v) (mData y); simp only [Data.eta] at *; omega) | (rw [List.append_nil] at hg1; rw [hg1.1] at hg1; omega))
theorem ext_nth {α : Type} [Inhabited α] {l m : List α} (h : l.length = m.length) (h2 : ∀ i, i < l.length → nth l i = nth m i) : l = m := by
 refine List.ext_getElem h (fun i h3 h4 => ?_)
 have := h2 i h3
 simpa [nth, List.getD, h3, h4] using this
theorem laws_eqType_fn {a b a' b' : Int} : FnD Tryz.prog 223 [.agg [.d (.i a), .d (.i b)], .agg [.d (.i a'), .d (.i b')]] [] (.d (.bool (decide ((⟨a, b⟩ : Ty) = ⟨a', b'⟩)))) [] := by
 refine bd Tryz.f223 15 [] [] fun w0 F0 own kept hk => ?_
 refine Walk.box (id := 3002) .none rfl rfl rfl rfl rfl rfl rfl ?_
 refine Walk.box (id := 3003) .none rfl rfl rfl rfl rfl rfl rfl ?_
 refine ev ?_
 refine sq (fun h1 h1p h1s => ?_) fun h1 h1p h1s => ?_
 ·try simp only [Q] at h1p
  refine rn0 (r1 rfl) (.eqd ?_)
  all_goals (refine congrArg D.bool ?_; simp [h1s, h1p])
 ·try simp only [Q] at h1p
  refine sq (fun h2 h2p h2s => ?_) fun h2 h2p h2s => ?_
  ·try simp only [Q] at h2p
   refine rn0 (r1 rfl) (.eqd ?_)
   all_goals (refine congrArg D.bool ?_; simp [h1s, h1p, h2s, h2p])
  ·try simp only [Q] at h2p
   refine rn0 (r1 rfl) (.eqd ?_)
   all_goals (refine congrArg D.bool ?_; simp [h1s, h1p, h2s, h2p])
theorem laws_eqTypeS_fn {l m : List Ty} (h : l.length ≤ 1000000000000) : FnD Tryz.prog 276 [.d (encTys l), .d (encTys m)] [] (.d (.bool (decide (l = m)))) [] := by
 refine bd Tryz.f276 27 [] [] fun w0 F0 own kept hk => ?_
 refine sq (fun h1 h1p h1s => ?_) fun h1 h1p h1s => ?_
 ·try simp only [Q, Int.natCast_inj] at h1p
  refine rn0 (r1 rfl) (.eqd ?_)
  all_goals (refine congrArg D.bool ?_; first | (refine (decide_eq_false (fun e => ?_)).symm; subst e; omega) | (refine (decide_eq_false (fun e => ?_)).symm; subst e; simp_all; done) | (refine (decide_eq_true (ext_nth (by omega) (fun x hx => hg1.2 x (by omega)))).symm))
 ·try simp only [Q, Int.natCast_inj] at h1p
  refine CWp.loopX (ι := Nat) hk (fun i => [(5, .d (.i (i : Int)))]) [4, 11, 12, 13, 14, 15, 16, 17, 18, 19, 20, 21, 22, 23, 24, 25, 26] (fun i => []) (fun i => i ≤ l.length ∧ ∀ i', i' < i → nth l i' = nth m i') (fun i => l.length - i) 0 ⟨by omega, fun _ h => absurd h (by omega)⟩ ⟨⟨_, rfl, (LeA.eqi (by first | rfl | (simp; done) | (simp_all; done) | omega))⟩, trivial⟩ trivial (fun x => rfl) (fun i hg1 => ?_)
  refine evc [] [] ?_
  refine sq (fun h2 h2p h2s => ?_) fun h2 h2p h2s => ?_
  ·try simp only [Q, Int.natCast_inj] at h2p
   refine Walk.idx sl182 .none rfl rfl rfl rfl (at_nth (by omega)) rfl ?_
   refine evd [] [] ?_
   refine Walk.idx sl182 .none rfl rfl rfl rfl (at_nth (by omega)) rfl ?_
   refine evd [] [] ?_
   refine Walk.call (cr := []) cal223 (laws_eqType_fn) rfl .none rfl rfl (LeL.refl _) trivial rfl rfl rfl ?_
   refine evd [] [] ?_
   refine dr ?_
   refine sq (fun h3 h3p h3s => ?_) fun h3 h3p h3s => ?_
   ·try simp only [Q, Int.natCast_inj] at h3p
    refine rn0 (r1 rfl) (.eqd ?_)
    all_goals (refine congrArg D.bool ?_; first | (refine (decide_eq_false (fun e => ?_)).symm; subst e; omega) | (refine (decide_eq_false (fun e => ?_)).symm; subst e; simp_all; done) | (refine (decide_eq_true (ext_nth (by omega) (fun x hx => hg1.2 x (by omega)))).symm))
   ·try simp only [Q, Int.natCast_inj] at h3p
    refine ar ?_
    refine Exists.intro (i + 1) ⟨⟨by omega, upto_succ hg1.2 (by simp only [Ty.eta] at *; assumption)⟩, (by omega), Sub.x (by kernel_rfl) (by kernel_rfl) ⟨⟨_, rfl, (LeA.eqi (by first | rfl | (simp; done) | (simp_all; done) | omega))⟩, trivial⟩ (by kernel_rfl) (by kernel_rfl) trivial⟩
  ·try simp only [Q, Int.natCast_inj] at h2p
   refine rn0 (r1 rfl) (.eqd ?_)
   all_goals (refine congrArg D.bool ?_; first | (refine (decide_eq_false (fun e => ?_)).symm; subst e; omega) | (refine (decide_eq_false (fun e => ?_)).symm; subst e; simp_all; done) | (refine (decide_eq_true (ext_nth (by omega) (fun x hx => hg1.2 x (by omega)))).symm))
theorem laws_eqCtor_fn {s s' : Str} {l l' : List Ty} {k k' : Int} (h : l.length ≤ 1000000000000) : FnD Tryz.prog 222 [.agg [.d (.str s), .d (encTys l), .d (.i k)], .agg [.d (.str s'), .d (encTys l'), .d (.i k')]] [] (.d (.bool (decide ((⟨s, l, k⟩ : Ctor) = ⟨s', l', k'⟩)))) [] := by
 refine bd Tryz.f222 21 [] [] fun w0 F0 own kept hk => ?_
 refine Walk.box (id := 3002) .none rfl rfl rfl rfl rfl rfl rfl ?_
 refine Walk.box (id := 3003) .none rfl rfl rfl rfl rfl rfl rfl ?_
 refine ev ?_
 refine sq (fun h1 h1p h1s => ?_) fun h1 h1p h1s => ?_
 ·try simp only [Q] at h1p
  refine rn0 (r1 rfl) (.eqd ?_)
  all_goals (refine congrArg D.bool ?_; simp [h1s, h1p])
 ·try simp only [Q] at h1p
  refine Walk.call (cr := []) cal276 (laws_eqTypeS_fn h) rfl .none rfl rfl (LeL.refl _) trivial rfl rfl rfl ?_
  refine ev ?_
  refine sq (fun h2 h2p h2s => ?_) fun h2 h2p h2s => ?_
  ·try simp only [Q] at h2p
   refine rn0 (r1 rfl) (.eqd ?_)
   all_goals (refine congrArg D.bool ?_; simp [h1s, h1p, h2s, h2p])
  ·try simp only [Q] at h2p
   refine sq (fun h3 h3p h3s => ?_) fun h3 h3p h3s => ?_
   ·try simp only [Q] at h3p
    refine rn0 (r1 rfl) (.eqd ?_)
    all_goals (refine congrArg D.bool ?_; simp [h1s, h1p, h2s, h2p, h3s, h3p])
   ·try simp only [Q] at h3p
    refine rn0 (r1 rfl) (.eqd ?_)
    all_goals (refine congrArg D.bool ?_; simp [h1s, h1p, h2s, h2p, h3s, h3p])
theorem laws_eqCtorS_fn {l m : List Ctor} (hs : CSmall l) : FnD Tryz.prog 146 [.d (encCtors l), .d (encCtors m)] [] (.d (.bool (decide (l = m)))) [] := by
 have h := hs.len
 refine bd Tryz.f146 27 [] [] fun w0 F0 own kept hk => ?_
 refine sq (fun h1 h1p h1s => ?_) fun h1 h1p h1s => ?_
 ·try simp only [Q, Int.natCast_inj] at h1p
  refine rn0 (r1 rfl) (.eqd ?_)
  all_goals (refine congrArg D.bool ?_; first | (refine (decide_eq_false (fun e => ?_)).symm; subst e; omega) | (refine (decide_eq_false (fun e => ?_)).symm; subst e; simp_all; done) | (refine (decide_eq_true (ext_nth (by omega) (fun x hx => hg1.2 x (by omega)))).symm))
 ·try simp only [Q, Int.natCast_inj] at h1p
  refine CWp.loopX (ι := Nat) hk (fun i => [(5, .d (.i (i : Int)))]) [4, 11, 12, 13, 14, 15, 16, 17, 18, 19, 20, 21, 22, 23, 24, 25, 26] (fun i => []) (fun i => i ≤ l.length ∧ ∀ i', i' < i → nth l i' = nth m i') (fun i => l.length - i) 0 ⟨by omega, fun _ h => absurd h (by omega)⟩ ⟨⟨_, rfl, (LeA.eqi (by first | rfl | (simp; done) | (simp_all; done) | omega))⟩, trivial⟩ trivial (fun x => rfl) (fun i hg1 => ?_)
  refine evc [] [] ?_
  refine sq (fun h2 h2p h2s => ?_) fun h2 h2p h2s => ?_
  ·try simp only [Q, Int.natCast_inj] at h2p
   refine Walk.idx sl119 .none rfl rfl rfl rfl (at_nth (by omega)) rfl ?_
   refine evd [] [] ?_
   refine Walk.idx sl119 .none rfl rfl rfl rfl (at_nth (by omega)) rfl ?_
   refine evd [] [] ?_
   refine Walk.call (cr := []) cal222 (laws_eqCtor_fn (hs.ctor _ (nth_mem (i := i) (by omega))).2) rfl .none rfl rfl (LeL.refl _) trivial rfl rfl rfl ?_
   refine evd [] [] ?_
   refine dr ?_
   refine sq (fun h3 h3p h3s => ?_) fun h3 h3p h3s => ?_
   ·try simp only [Q, Int.natCast_inj] at h3p
    refine rn0 (r1 rfl) (.eqd ?_)
    all_goals (refine congrArg D.bool ?_; first | (refine (decide_eq_false (fun e => ?_)).symm; subst e; omega) | (refine (decide_eq_false (fun e => ?_)).symm; subst e; simp_all; done) | (refine (decide_eq_true (ext_nth (by omega) (fun x hx => hg1.2 x (by omega)))).symm))
   ·try simp only [Q, Int.natCast_inj] at h3p
    refine ar ?_
    refine Exists.intro (i + 1) ⟨⟨by omega, upto_succ hg1.2 (by simp only [Ctor.eta] at *; assumption)⟩, (by omega), Sub.x (by kernel_rfl) (by kernel_rfl) ⟨⟨_, rfl, (LeA.eqi (by first | rfl | (simp; done) | (simp_all; done) | omega))⟩, trivial⟩ (by kernel_rfl) (by kernel_rfl) trivial⟩
  ·try simp only [Q, Int.natCast_inj] at h2p
   refine rn0 (r1 rfl) (.eqd ?_)
   all_goals (refine congrArg D.bool ?_; first | (refine (decide_eq_false (fun e => ?_)).symm; subst e; omega) | (refine (decide_eq_false (fun e => ?_)).symm; subst e; simp_all; done) | (refine (decide_eq_true (ext_nth (by omega) (fun x hx => hg1.2 x (by omega)))).symm))
theorem laws_eqData_fn {s s' : Str} {l l' : List Ctor} (h : CSmall l) : FnD Tryz.prog 83 [.agg [.d (.str s), .d (encCtors l)], .agg [.d (.str s'), .d (encCtors l')]] [] (.d (.bool (decide ((⟨s, l⟩ : Data) = ⟨s', l'⟩)))) [] := by
 refine bd Tryz.f83 16 [] [] fun w0 F0 own kept hk => ?_
 refine Walk.box (id := 3002) .none rfl rfl rfl rfl rfl rfl rfl ?_
 refine Walk.box (id := 3003) .none rfl rfl rfl rfl rfl rfl rfl ?_
 refine ev ?_
 refine sq (fun h1 h1p h1s => ?_) fun h1 h1p h1s => ?_
 ·try simp only [Q] at h1p
  refine rn0 (r1 rfl) (.eqd ?_)
  all_goals (refine congrArg D.bool ?_; simp [h1s, h1p])
 ·try simp only [Q] at h1p
  refine Walk.call (cr := []) cal146 (laws_eqCtorS_fn h) rfl .none rfl rfl (LeL.refl _) trivial rfl rfl rfl ?_
  refine ev ?_
  refine sq (fun h2 h2p h2s => ?_) fun h2 h2p h2s => ?_
  ·try simp only [Q] at h2p
   refine rn0 (r1 rfl) (.eqd ?_)
   all_goals (refine congrArg D.bool ?_; simp [h1s, h1p, h2s, h2p])
  ·try simp only [Q] at h2p
   refine rn0 (r1 rfl) (.eqd ?_)
   all_goals (refine congrArg D.bool ?_; simp [h1s, h1p, h2s, h2p])
theorem laws_eqDataS_fn {l m : List Data} (hs : WSmall l) : FnD Tryz.prog 18 [.d (encDatas l), .d (encDatas m)] [] (.d (.bool (decide (l = m)))) [] := by
 have h := hs.len
 refine bd Tryz.f18 27 [] [] fun w0 F0 own kept hk => ?_
 refine sq (fun h1 h1p h1s => ?_) fun h1 h1p h1s => ?_
 ·try simp only [Q, Int.natCast_inj] at h1p
  refine rn0 (r1 rfl) (.eqd ?_)
  all_goals (refine congrArg D.bool ?_; first | (refine (decide_eq_false (fun e => ?_)).symm; subst e; omega) | (refine (decide_eq_false (fun e => ?_)).symm; subst e; simp_all; done) | (refine (decide_eq_true (ext_nth (by omega) (fun x hx => hg1.2 x (by omega)))).symm))
 ·try simp only [Q, Int.natCast_inj] at h1p
  refine CWp.loopX (ι := Nat) hk (fun i => [(5, .d (.i (i : Int)))]) [4, 11, 12, 13, 14, 15, 16, 17, 18, 19, 20, 21, 22, 23, 24, 25, 26] (fun i => []) (fun i => i ≤ l.length ∧ ∀ i', i' < i → nth l i' = nth m i') (fun i => l.length - i) 0 ⟨by omega, fun _ h => absurd h (by omega)⟩ ⟨⟨_, rfl, (LeA.eqi (by first | rfl | (simp; done) | (simp_all; done) | omega))⟩, trivial⟩ trivial (fun x => rfl) (fun i hg1 => ?_)
  refine evc [] [] ?_
  refine sq (fun h2 h2p h2s => ?_) fun h2 h2p h2s => ?_
  ·try simp only [Q, Int.natCast_inj] at h2p
   refine Walk.idx sl27 .none rfl rfl rfl rfl (at_nth (by omega)) rfl ?_
   refine evd [] [] ?_
   refine Walk.idx sl27 .none rfl rfl rfl rfl (at_nth (by omega)) rfl ?_
   refine evd [] [] ?_
   refine Walk.call (cr := []) cal83 (laws_eqData_fn (hs.cs (nth_mem (i := i) (by omega)))) rfl .none rfl rfl (LeL.refl _) trivial rfl rfl rfl ?_
   refine evd [] [] ?_
   refine dr ?_
   refine sq (fun h3 h3p h3s => ?_) fun h3 h3p h3s => ?_
   ·try simp only [Q, Int.natCast_inj] at h3p
    refine rn0 (r1 rfl) (.eqd ?_)
    all_goals (refine congrArg D.bool ?_; first | (refine (decide_eq_false (fun e => ?_)).symm; subst e; omega) | (refine (decide_eq_false (fun e => ?_)).symm; subst e; simp_all; done) | (refine (decide_eq_true (ext_nth (by omega) (fun x hx => hg1.2 x (by omega)))).symm))
   ·try simp only [Q, Int.natCast_inj] at h3p
    refine ar ?_
    refine Exists.intro (i + 1) ⟨⟨by omega, upto_succ hg1.2 (by simp only [Data.eta] at *; assumption)⟩, (by omega), Sub.x (by kernel_rfl) (by kernel_rfl) ⟨⟨_, rfl, (LeA.eqi (by first | rfl | (simp; done) | (simp_all; done) | omega))⟩, trivial⟩ (by kernel_rfl) (by kernel_rfl) trivial⟩
  ·try simp only [Q, Int.natCast_inj] at h2p
   refine rn0 (r1 rfl) (.eqd ?_)
   all_goals (refine congrArg D.bool ?_; first | (refine (decide_eq_false (fun e => ?_)).symm; subst e; omega) | (refine (decide_eq_false (fun e => ?_)).symm; subst e; simp_all; done) | (refine (decide_eq_true (ext_nth (by omega) (fun x hx => hg1.2 x (by omega)))).symm))
def fits (c : Ctor) (k : Int) : Bool := decide (k = 0) || (decide (c.index = 0) || decide (c.index = k))
def ctorsFrom (k : Int) : Nat → List Ctor → List Int
 | _, [] => []
 | i, c :: r => if fits c k then (i : Int) :: ctorsFrom k (i + 1) r else ctorsFrom k (i + 1) r
def argTy (k : Int) (t : Ty) : Ty := if t.index = -1 then ⟨t.data, k⟩ else t
def resIx (c : Ctor) (k : Int) : Int := if c.index = 0 then k else c.index
theorem ctorsFrom_len (k : Int) : ∀ (l : List Ctor) (i : Nat), (ctorsFrom k i l).length ≤ l.length
 | [], _ => by simp [ctorsFrom]
 | c :: r, i => by
  have := ctorsFrom_len k r (i + 1)
  unfold ctorsFrom; split <;> simp <;> omega
theorem impl_ctorsOf_int_fn {w : List Data} {k : Int} : FnD Tryz.prog 170 [.d (encDatas w), .agg [.d (.i (-1)), .d (.i k)]] [] (.d (encInts [])) [] := by
 refine bd Tryz.f170 44 [5] [] fun w0 F0 own kept hk => ?_
 refine Walk.box (id := 3003) .none rfl rfl rfl rfl rfl rfl rfl ?_
 refine evs [5] [] ?_
 refine Walk.assignNil 1 1 .none rfl rfl ?_
 refine tv ?_
 refine sq (fun h1 h1p h1s => ?_) fun h1 h1p h1s => ?_
 ·try simp only [Q] at h1p
  exact absurd h1 (by simp) --stop
 ·try simp only [Q] at h1p
  --
  refine rn0 (r1 rfl) (.gld ?_)
  all_goals (first | rfl | (simp [h1s, h1p]; done) | (simp_all; done) | (simp_all; omega) | omega)
theorem impl_ctorsOf_fn {w : List Data} {d : Nat} {k : Int} (hs : WSmall w) (hd : d < w.length) : FnD Tryz.prog 170 [.d (encDatas w), .agg [.d (.i d), .d (.i k)]] [] (.d (encInts (ctorsFrom k 0 (nth w d).ctors))) [] := by
 have hb := hs.ctors d
 refine bd Tryz.f170 44 [5] [] fun w0 F0 own kept hk => ?_
 refine Walk.box (id := 3003) .none rfl rfl rfl rfl rfl rfl rfl ?_
 refine evs [5] [] ?_
 refine Walk.assignNil 1 1 .none rfl rfl ?_
 refine tv ?_
 refine sq (fun h1 h1p h1s => ?_) fun h1 h1p h1s => ?_
 ·try simp only [Q] at h1p
  refine Walk.idx sl27 .none rfl rfl rfl rfl (at_nth hd) rfl ?_
  refine evs [5] [] ?_
  refine CWp.loopX (ι := List (Ctor) × List (Ctor) × (List Int)) hk (fun x => [(18, .d (.i (x.1.length : Int))), (5, .gl 1 (x.2.2.map fun n => [D.i n]))]) [6, 7, 19, 20, 21, 22, 23, 24, 25, 26, 27, 28, 29, 30, 31, 32, 33, 34, 35, 36, 37, 38, 39, 40, 41, 42] (fun x => [(1, some (.tok ((x.2.2.map fun n => [D.i n])).length 1))]) (fun x => x.1 ++ x.2.1 = (nth w d).ctors ∧ x.2.2 ++ ctorsFrom k x.1.length x.2.1 = ctorsFrom k 0 (nth w d).ctors ∧ x.2.2.length ≤ x.1.length) (fun x => x.2.1.length) ([], (nth w d).ctors, []) ⟨by simp, by simp, by simp⟩ ⟨⟨_, rfl, (LeA.eqi (by first | rfl | (simp; done) | (simp [fits, hk]; done)))⟩, ⟨⟨_, rfl, (LeA.glg (by first | rfl | (simp; done) | (simp [fits, hk]; done)))⟩, trivial⟩⟩ ⟨beq_nat_eq (by first | rfl | (simp; done) | (simp; omega) | (first | rfl | (simp; done) | (simp [fits, hk]; done))), trivial⟩ (fun x => rfl) (fun x hg1 => ?_)
  obtain ⟨pre, rest, acc⟩ := x
  dsimp only at hg1 ⊢
  refine evc [5] [] ?_
  refine sq (fun h2 h2p h2s => ?_) fun h2 h2p h2s => ?_
  ·try simp only [Q] at h2p
   rcases rest with _ | ⟨y, rest⟩
   ·exfalso; simp_all
   refine Walk.idx sl119 .none rfl rfl rfl rfl (zip_at hg1.1) rfl ?_
   refine evs [5] [] ?_
   refine Walk.alloc (id := 3007) tz184 rfl .none rfl rfl rfl rfl ?_
   refine evs [5] [] ?_
   refine Walk.store ty184 .none rfl rfl rfl rfl rfl rfl (by simp) rfl ?_
   refine tv ?_
   refine sq (fun h3 h3p h3s => ?_) fun h3 h3p h3s => ?_
   ·try simp only [Q] at h3p
    refine sqT ?_
    refine sqT ?_
    refine Walk.sliceLit sl54 tz3 rfl (by decide) (ks := [0]) (xs := [_]) rfl rfl (by decide) (by decide) .none rfl rfl rfl rfl ?_
    refine Walk.append sl54 zz3 rfl .none rfl rfl rfl rfl (htokL rfl (by first | rfl | (simp; done) | (simp; omega))) (by simp) (by have hl := hg1.2.2; simp; omega) (by have hl := hg1.2.2; simp; omega) ?_
    refine asg ?_
    refine tv ?_
    refine ar ?_
    refine Exists.intro ((pre ++ [y], rest, if fits y k then acc ++ [(pre.length : Int)] else acc)) ⟨⟨(by have hz := hg1.1; rw [← hz]; simp), ⟨by rw [← hg1.2.1]; by_cases hf : fits y k = true <;> simp [ctorsFrom, hf], by split <;> simp <;> omega⟩⟩, (by simp), Sub.x (by kernel_rfl) (by kernel_rfl) ⟨⟨_, rfl, (LeA.eqi (by first | rfl | (simp; done) | (simp [fits, h1s, h1p, h2s, h2p, h3s, h3p]; done)))⟩, ⟨⟨_, rfl, (LeA.glg (by first | rfl | (simp; done) | (simp [fits, h1s, h1p, h2s, h2p, h3s, h3p]; done)))⟩, trivial⟩⟩ (by kernel_rfl) (by kernel_rfl) ⟨beq_nat_eq (by first | rfl | (simp; done) | (simp; omega) | (first | rfl | (simp; done) | (simp [fits, h1s, h1p, h2s, h2p, h3s, h3p]; done))), trivial⟩⟩
   ·try simp only [Q] at h3p
    refine sq (fun h5 h5p h5s => ?_) fun h5 h5p h5s => ?_
    ·try simp only [Q] at h5p
     refine sqT ?_
     refine Walk.sliceLit sl54 tz3 rfl (by decide) (ks := [0]) (xs := [_]) rfl rfl (by decide) (by decide) .none rfl rfl rfl rfl ?_
     refine Walk.append sl54 zz3 rfl .none rfl rfl rfl rfl (htokL rfl (by first | rfl | (simp; done) | (simp; omega))) (by simp) (by have hl := hg1.2.2; simp; omega) (by have hl := hg1.2.2; simp; omega) ?_
     refine asg ?_
     refine tv ?_
     refine ar ?_
     refine Exists.intro ((pre ++ [y], rest, if fits y k then acc ++ [(pre.length : Int)] else acc)) ⟨⟨(by have hz := hg1.1; rw [← hz]; simp), ⟨by rw [← hg1.2.1]; by_cases hf : fits y k = true <;> simp [ctorsFrom, hf], by split <;> simp <;> omega⟩⟩, (by simp), Sub.x (by kernel_rfl) (by kernel_rfl) ⟨⟨_, rfl, (LeA.eqi (by first | rfl | (simp; done) | (simp [fits, h1s, h1p, h2s, h2p, h3s, h3p, h5s, h5p]; done)))⟩, ⟨⟨_, rfl, (LeA.glg (by first | rfl | (simp; done) | (simp [fits, h1s, h1p, h2s, h2p, h3s, h3p, h5s, h5p]; done)))⟩, trivial⟩⟩ (by kernel_rfl) (by kernel_rfl) ⟨beq_nat_eq (by first | rfl | (simp; done) | (simp; omega) | (first | rfl | (simp; done) | (simp [fits, h1s, h1p, h2s, h2p, h3s, h3p, h5s, h5p]; done))), trivial⟩⟩
    ·try simp only [Q] at h5p
     refine sq (fun h7 h7p h7s => ?_) fun h7 h7p h7s => ?_
     ·try simp only [Q] at h7p
      refine Walk.sliceLit sl54 tz3 rfl (by decide) (ks := [0]) (xs := [_]) rfl rfl (by decide) (by decide) .none rfl rfl rfl rfl ?_
      refine Walk.append sl54 zz3 rfl .none rfl rfl rfl rfl (htokL rfl (by first | rfl | (simp; done) | (simp; omega))) (by simp) (by have hl := hg1.2.2; simp; omega) (by have hl := hg1.2.2; simp; omega) ?_
      refine asg ?_
      refine tv ?_
      refine ar ?_
      refine Exists.intro ((pre ++ [y], rest, if fits y k then acc ++ [(pre.length : Int)] else acc)) ⟨⟨(by have hz := hg1.1; rw [← hz]; simp), ⟨by rw [← hg1.2.1]; by_cases hf : fits y k = true <;> simp [ctorsFrom, hf], by split <;> simp <;> omega⟩⟩, (by simp), Sub.x (by kernel_rfl) (by kernel_rfl) ⟨⟨_, rfl, (LeA.eqi (by first | rfl | (simp; done) | (simp [fits, h1s, h1p, h2s, h2p, h3s, h3p, h5s, h5p, h7s, h7p]; done)))⟩, ⟨⟨_, rfl, (LeA.glg (by first | rfl | (simp; done) | (simp [fits, h1s, h1p, h2s, h2p, h3s, h3p, h5s, h5p, h7s, h7p]; done)))⟩, trivial⟩⟩ (by kernel_rfl) (by kernel_rfl) ⟨beq_nat_eq (by first | rfl | (simp; done) | (simp; omega) | (first | rfl | (simp; done) | (simp [fits, h1s, h1p, h2s, h2p, h3s, h3p, h5s, h5p, h7s, h7p]; done))), trivial⟩⟩
     ·try simp only [Q] at h7p
      refine ar ?_
      refine Exists.intro ((pre ++ [y], rest, if fits y k then acc ++ [(pre.length : Int)] else acc)) ⟨⟨(by have hz := hg1.1; rw [← hz]; simp), ⟨by rw [← hg1.2.1]; by_cases hf : fits y k = true <;> simp [ctorsFrom, hf], by split <;> simp <;> omega⟩⟩, (by simp), Sub.x (by kernel_rfl) (by kernel_rfl) ⟨⟨_, rfl, (LeA.eqi (by first | rfl | (simp; done) | (simp [fits, h1s, h1p, h2s, h2p, h3s, h3p, h5s, h5p, h7s, h7p]; done)))⟩, ⟨⟨_, rfl, (LeA.glg (by first | rfl | (simp; done) | (simp [fits, h1s, h1p, h2s, h2p, h3s, h3p, h5s, h5p, h7s, h7p]; done)))⟩, trivial⟩⟩ (by kernel_rfl) (by kernel_rfl) ⟨beq_nat_eq (by first | rfl | (simp; done) | (simp; omega) | (first | rfl | (simp; done) | (simp [fits, h1s, h1p, h2s, h2p, h3s, h3p, h5s, h5p, h7s, h7p]; done))), trivial⟩⟩
  ·try simp only [Q] at h2p
   have hrest : rest = [] := by
    rcases rest with _ | ⟨a, b⟩
    ·rfl
    ·exfalso; have hz := congrArg List.length (hg1.1); simp only [List.length_append, List.length_cons, List.length_map] at hz; omega
   subst hrest
   refine rn0 (r1 rfl) (.gld ?_)
   all_goals (have e := hg1.2.1; simp only [ctorsFrom, List.append_nil] at e; rw [e])
 ·try simp only [Q] at h1p
  exfalso; simp at h1 <;> omega --stop
theorem spec_l1Fits_fn {s : Str} {l : List Ty} {i k : Int} : FnD Tryz.prog 236 [.agg [.d (.str s), .d (encTys l), .d (.i i)], .d (.i k)] [] (.d (.bool (fits ⟨s, l, i⟩ k))) [] := by
 refine bd Tryz.f236 18 [] [] fun w0 F0 own kept hk => ?_
 refine Walk.box (id := 3002) .none rfl rfl rfl rfl rfl rfl rfl ?_
 refine ev ?_
 refine sq (fun h1 h1p h1s => ?_) fun h1 h1p h1s => ?_
 ·try simp only [Q] at h1p
  refine sqT ?_
  refine rn0 (r1 rfl) (.eqd ?_)
  all_goals (refine congrArg D.bool ?_; simp [fits, h1s, h1p])
 ·try simp only [Q] at h1p
  refine sq (fun h2 h2p h2s => ?_) fun h2 h2p h2s => ?_
  ·try simp only [Q] at h2p
   refine rn0 (r1 rfl) (.eqd ?_)
   all_goals (refine congrArg D.bool ?_; simp [fits, h1s, h1p, h2s, h2p])
  ·try simp only [Q] at h2p
   refine rn0 (r1 rfl) (.eqd ?_)
   all_goals (refine congrArg D.bool ?_; simp [fits, h1s, h1p, h2s, h2p])
theorem spec_l1Ctors_int_fn {w : List Data} {k : Int} : FnD Tryz.prog 164 [.d (encDatas w), .agg [.d (.i (-1)), .d (.i k)]] [] (.d (encInts [])) [] := by
 refine bd Tryz.f164 40 [] [] fun w0 F0 own kept hk => ?_
 refine Walk.box (id := 3003) .none rfl rfl rfl rfl rfl rfl rfl ?_
 refine ev ?_
 refine Walk.sliceEmptyG 1 sl54 .none rfl rfl ?_
 refine ev ?_
 refine sq (fun h1 h1p h1s => ?_) fun h1 h1p h1s => ?_
 ·try simp only [Q] at h1p
  --
  refine rn0 (r1 rfl) (.gld ?_)
  all_goals (first | rfl | (simp [h1s, h1p]; done) | (simp_all; done) | (simp_all; omega) | omega)
 ·try simp only [Q] at h1p
  exact absurd h1 (by simp) --stop
theorem spec_l1Ctors_fn {w : List Data} {d : Nat} {k : Int} (hs : WSmall w) (hd : d < w.length) : FnD Tryz.prog 164 [.d (encDatas w), .agg [.d (.i d), .d (.i k)]] [] (.d (encInts (ctorsFrom k 0 (nth w d).ctors))) [] := by
 have hb := hs.ctors d
 refine bd Tryz.f164 40 [] [] fun w0 F0 own kept hk => ?_
 refine Walk.box (id := 3003) .none rfl rfl rfl rfl rfl rfl rfl ?_
 refine ev ?_
 refine Walk.sliceEmptyG 1 sl54 .none rfl rfl ?_
 refine ev ?_
 refine sq (fun h1 h1p h1s => ?_) fun h1 h1p h1s => ?_
 ·try simp only [Q] at h1p
  exfalso; simp at h1 <;> omega --stop
 ·try simp only [Q] at h1p
  refine CWp.loopX (ι := List (Ctor) × List (Ctor) × (List Int)) hk (fun x => [(6, .d (.i (x.1.length : Int))), (5, .gl 1 (x.2.2.map fun n => [D.i n]))]) [12, 13, 14, 15, 16, 17, 18, 19, 20, 21, 22, 23, 24, 25, 26, 27, 28, 29, 30, 31, 32, 33, 34, 35, 36, 37, 38] (fun x => [(1, some (.tok ((x.2.2.map fun n => [D.i n])).length 1))]) (fun x => x.1 ++ x.2.1 = (nth w d).ctors ∧ x.2.2 ++ ctorsFrom k x.1.length x.2.1 = ctorsFrom k 0 (nth w d).ctors ∧ x.2.2.length ≤ x.1.length) (fun x => x.2.1.length) ([], (nth w d).ctors, []) ⟨by simp, by simp, by simp⟩ ⟨⟨_, rfl, (LeA.eqi (by first | rfl | (simp; done) | (simp [Ctor.eta, hk]; done) | (simp only [Ctor.eta] at *; simp [*]; done)))⟩, ⟨⟨_, rfl, (LeA.glg (by first | rfl | (simp; done) | (simp [Ctor.eta, hk]; done) | (simp only [Ctor.eta] at *; simp [*]; done)))⟩, trivial⟩⟩ ⟨beq_nat_eq (by first | rfl | (simp; done) | (simp; omega) | (first | rfl | (simp; done) | (simp [Ctor.eta, hk]; done) | (simp only [Ctor.eta] at *; simp [*]; done))), trivial⟩ (fun x => rfl) (fun x hg1 => ?_)
  obtain ⟨pre, rest, acc⟩ := x
  dsimp only at hg1 ⊢
  refine evc [] [] ?_
  refine Walk.idx sl27 .none rfl rfl rfl rfl (at_nth hd) rfl ?_
  refine ev ?_
  refine sq (fun h2 h2p h2s => ?_) fun h2 h2p h2s => ?_
  ·try simp only [Q] at h2p
   rcases rest with _ | ⟨y, rest⟩
   ·exfalso; simp_all
   refine Walk.idx sl27 .none rfl rfl rfl rfl (at_nth hd) rfl ?_
   refine evd [] [] ?_
   refine Walk.idx sl119 .none rfl rfl rfl rfl (zip_at hg1.1) rfl ?_
   refine evd [] [] ?_
   refine Walk.call (cr := []) cal236 (spec_l1Fits_fn) rfl .none rfl rfl (LeL.refl _) trivial rfl rfl rfl ?_
   refine dr ?_
   refine sq (fun h3 h3p h3s => ?_) fun h3 h3p h3s => ?_
   ·try simp only [Q] at h3p
    refine Walk.sliceLit sl54 tz3 rfl (by decide) (ks := [0]) (xs := [_]) rfl rfl (by decide) (by decide) .none rfl rfl rfl rfl ?_
    refine Walk.append sl54 zz3 rfl .none rfl rfl rfl rfl (htokL rfl (by first | rfl | (simp; done) | (simp; omega))) (by simp) (by have hl := hg1.2.2; simp; omega) (by have hl := hg1.2.2; simp; omega) ?_
    refine ev ?_
    refine ar ?_
    refine Exists.intro ((pre ++ [y], rest, if fits y k then acc ++ [(pre.length : Int)] else acc)) ⟨⟨(by have hz := hg1.1; rw [← hz]; simp), ⟨by rw [← hg1.2.1]; by_cases hf : fits y k = true <;> simp [ctorsFrom, hf], by split <;> simp <;> omega⟩⟩, (by simp), Sub.x (by kernel_rfl) (by kernel_rfl) ⟨⟨_, rfl, (LeA.eqi (by first | rfl | (simp; done) | (simp [Ctor.eta, h1s, h1p, h2s, h2p, h3s, h3p]; done) | (simp only [Ctor.eta] at *; simp [*]; done)))⟩, ⟨⟨_, rfl, (LeA.glg (by first | rfl | (simp; done) | (simp [Ctor.eta, h1s, h1p, h2s, h2p, h3s, h3p]; done) | (simp only [Ctor.eta] at *; simp [*]; done)))⟩, trivial⟩⟩ (by kernel_rfl) (by kernel_rfl) ⟨beq_nat_eq (by first | rfl | (simp; done) | (simp; omega) | (first | rfl | (simp; done) | (simp [Ctor.eta, h1s, h1p, h2s, h2p, h3s, h3p]; done) | (simp only [Ctor.eta] at *; simp [*]; done))), trivial⟩⟩
   ·try simp only [Q] at h3p
    refine ar ?_
    refine Exists.intro ((pre ++ [y], rest, if fits y k then acc ++ [(pre.length : Int)] else acc)) ⟨⟨(by have hz := hg1.1; rw [← hz]; simp), ⟨by rw [← hg1.2.1]; by_cases hf : fits y k = true <;> simp [ctorsFrom, hf], by split <;> simp <;> omega⟩⟩, (by simp), Sub.x (by kernel_rfl) (by kernel_rfl) ⟨⟨_, rfl, (LeA.eqi (by first | rfl | (simp; done) | (simp [Ctor.eta, h1s, h1p, h2s, h2p, h3s, h3p]; done) | (simp only [Ctor.eta] at *; simp [*]; done)))⟩, ⟨⟨_, rfl, (LeA.glg (by first | rfl | (simp; done) | (simp [Ctor.eta, h1s, h1p, h2s, h2p, h3s, h3p]; done) | (simp only [Ctor.eta] at *; simp [*]; done)))⟩, trivial⟩⟩ (by kernel_rfl) (by kernel_rfl) ⟨beq_nat_eq (by first | rfl | (simp; done) | (simp; omega) | (first | rfl | (simp; done) | (simp [Ctor.eta, h1s, h1p, h2s, h2p, h3s, h3p]; done) | (simp only [Ctor.eta] at *; simp [*]; done))), trivial⟩⟩
  ·try simp only [Q] at h2p
   have hrest : rest = [] := by
    rcases rest with _ | ⟨a, b⟩
    ·rfl
    ·exfalso; have hz := congrArg List.length (hg1.1); simp only [List.length_append, List.length_cons, List.length_map] at hz; omega
   subst hrest
   refine rn0 (r1 rfl) (.gld ?_)
   all_goals (have e := hg1.2.1; simp only [ctorsFrom, List.append_nil] at e; rw [e])
theorem spec_l1Result_fn {s : Str} {l : List Ty} {i k : Int} : FnD Tryz.prog 225 [.agg [.d (.str s), .d (encTys l), .d (.i i)], .d (.i k)] [] (.d (.i (resIx ⟨s, l, i⟩ k))) [] := by
 refine bd Tryz.f225 11 [] [] fun w0 F0 own kept hk => ?_
 refine Walk.box (id := 3002) .none rfl rfl rfl rfl rfl rfl rfl ?_
 refine ev ?_
 refine sq (fun h1 h1p h1s => ?_) fun h1 h1p h1s => ?_
 ·try simp only [Q] at h1p
  refine rn0 (r1 rfl) (.eqd ?_)
  all_goals (refine congrArg D.i ?_; simp [resIx, h1s, h1p])
 ·try simp only [Q] at h1p
  refine rn0 (r1 rfl) (.eqd ?_)
  all_goals (refine congrArg D.i ?_; simp [resIx, h1s, h1p])
theorem impl_argTypes_fn {w : List Data} {d c : Nat} {k : Int} (hs : WSmall w) (hd : d < w.length) (hc : c < (nth w d).ctors.length) : FnD Tryz.prog 171 [.d (encDatas w), .agg [.d (.i d), .d (.i k)], .d (.i c)] [] (.d (encTys ((nth (nth w d).ctors c).args.map (argTy (resIx (nth (nth w d).ctors c) k))))) [] := by
 have hb := (hs.ctor _ (nth_mem hd) _ (nth_mem hc)).2
 refine bd Tryz.f171 45 [9] [] fun w0 F0 own kept hk => ?_
 refine Walk.box (id := 3004) .none rfl rfl rfl rfl rfl rfl rfl ?_
 refine evs [9] [] ?_
 refine Walk.idx sl27 .none rfl rfl rfl rfl (at_nth hd) rfl ?_
 refine evs [9] [] ?_
 refine Walk.idx sl119 .none rfl rfl rfl rfl (at_nth hc) rfl ?_
 refine evs [9] [] ?_
 refine Walk.alloc (id := 3007) tz184 rfl .none rfl rfl rfl rfl ?_
 refine Walk.store ty184 .none rfl rfl rfl rfl rfl rfl (by simp) rfl ?_
 refine tv ?_
 refine sq (fun h1 h1p h1s => ?_) fun h1 h1p h1s => ?_
 ·try simp only [Q] at h1p
  refine Walk.assignNil 1 2 .none rfl rfl ?_
  refine tv ?_
  refine CWp.loopX (ι := List (Ty) × List (Ty)) hk (fun x => [(30, .d (.i (x.1.length : Int))), (9, .gl 1 ((x.1.map (argTy (resIx (nth (nth w d).ctors c) k))).map Ty.c))]) [11, 31, 32, 33, 34, 35, 36, 37, 38, 39, 40, 41, 42, 43] (fun x => [(1, some (.tok (((x.1.map (argTy (resIx (nth (nth w d).ctors c) k))).map Ty.c)).length 2))]) (fun x => x.1 ++ x.2 = (nth (nth w d).ctors c).args) (fun x => x.2.length) ([], (nth (nth w d).ctors c).args) (by simp) ⟨⟨_, rfl, (LeA.eqi (by first | rfl | (simp; done) | (simp [argTy, resIx, hk]; done)))⟩, ⟨⟨_, rfl, (LeA.glg (by first | rfl | (simp; done) | (simp [argTy, resIx, hk]; done)))⟩, trivial⟩⟩ ⟨beq_nat_eq (by first | rfl | (simp; done) | (simp; omega) | (first | rfl | (simp; done) | (simp [argTy, resIx, hk]; done))), trivial⟩ (fun x => rfl) (fun x hg1 => ?_)
  obtain ⟨pre, rest⟩ := x
  dsimp only at hg1 ⊢
  refine evc [9] [] ?_
  refine sq (fun h2 h2p h2s => ?_) fun h2 h2p h2s => ?_
  ·try simp only [Q] at h2p
   rcases rest with _ | ⟨y, rest⟩
   ·exfalso; simp_all
   refine Walk.idx sl182 .none rfl rfl rfl rfl (zip_at hg1) rfl ?_
   refine evs [9] [] ?_
   refine Walk.alloc (id := 3011) tz42 rfl .none rfl rfl rfl rfl ?_
   refine Walk.store ty42 .none rfl rfl rfl rfl rfl rfl (by simp) rfl ?_
   refine tv ?_
   refine sq (fun h3 h3p h3s => ?_) fun h3 h3p h3s => ?_
   ·try simp only [Q] at h3p
    refine Walk.store ty3 .none rfl rfl rfl rfl rfl rfl (by simp) rfl ?_
    refine tv ?_
    refine Walk.sliceLit sl182 tz42 rfl (by decide) (ks := [0]) (xs := [_]) rfl rfl (by decide) (by decide) .none rfl rfl rfl rfl ?_
    refine Walk.append sl182 zz42 rfl .none rfl rfl rfl rfl (htokL rfl (by first | rfl | (simp; done) | (simp; omega))) (by simp) (by have hl := congrArg List.length hg1; simp at hl; simp; omega) (by have hl := congrArg List.length hg1; simp at hl; simp; omega) ?_
    refine asg ?_
    refine tv ?_
    refine ar ?_
    refine Exists.intro ((pre ++ [y], rest)) ⟨(by have hz := hg1; rw [← hz]; simp), (by simp), Sub.x (by kernel_rfl) (by kernel_rfl) ⟨⟨_, rfl, (LeA.eqi (by first | rfl | (simp; done) | (simp [argTy, resIx, h1s, h1p, h2s, h2p, h3s, h3p]; done)))⟩, ⟨⟨_, rfl, (LeA.glg (by first | rfl | (simp; done) | (simp [argTy, resIx, h1s, h1p, h2s, h2p, h3s, h3p]; done)))⟩, trivial⟩⟩ (by kernel_rfl) (by kernel_rfl) ⟨beq_nat_eq (by first | rfl | (simp; done) | (simp; omega) | (first | rfl | (simp; done) | (simp [argTy, resIx, h1s, h1p, h2s, h2p, h3s, h3p]; done))), trivial⟩⟩
   ·try simp only [Q] at h3p
    refine Walk.sliceLit sl182 tz42 rfl (by decide) (ks := [0]) (xs := [_]) rfl rfl (by decide) (by decide) .none rfl rfl rfl rfl ?_
    refine Walk.append sl182 zz42 rfl .none rfl rfl rfl rfl (htokL rfl (by first | rfl | (simp; done) | (simp; omega))) (by simp) (by have hl := congrArg List.length hg1; simp at hl; simp; omega) (by have hl := congrArg List.length hg1; simp at hl; simp; omega) ?_
    refine asg ?_
    refine tv ?_
    refine ar ?_
    refine Exists.intro ((pre ++ [y], rest)) ⟨(by have hz := hg1; rw [← hz]; simp), (by simp), Sub.x (by kernel_rfl) (by kernel_rfl) ⟨⟨_, rfl, (LeA.eqi (by first | rfl | (simp; done) | (simp [argTy, resIx, h1s, h1p, h2s, h2p, h3s, h3p]; done)))⟩, ⟨⟨_, rfl, (LeA.glg (by first | rfl | (simp; done) | (simp [argTy, resIx, h1s, h1p, h2s, h2p, h3s, h3p]; done)))⟩, trivial⟩⟩ (by kernel_rfl) (by kernel_rfl) ⟨beq_nat_eq (by first | rfl | (simp; done) | (simp; omega) | (first | rfl | (simp; done) | (simp [argTy, resIx, h1s, h1p, h2s, h2p, h3s, h3p]; done))), trivial⟩⟩
  ·try simp only [Q] at h2p
   have hrest : rest = [] := by
    rcases rest with _ | ⟨a, b⟩
    ·rfl
    ·exfalso; have hz := congrArg List.length (hg1); simp only [List.length_append, List.length_cons, List.length_map] at hz; omega
   subst hrest
   refine rn0 (r1 rfl) (.gld ?_)
   all_goals (simp [← hg1, resIx, h1s, h1p, h2s, h2p])
 ·try simp only [Q] at h1p
  refine Walk.assignNil 1 2 .none rfl rfl ?_
  refine tv ?_
  refine CWp.loopX (ι := List (Ty) × List (Ty)) hk (fun x => [(30, .d (.i (x.1.length : Int))), (9, .gl 1 ((x.1.map (argTy (resIx (nth (nth w d).ctors c) k))).map Ty.c))]) [11, 31, 32, 33, 34, 35, 36, 37, 38, 39, 40, 41, 42, 43] (fun x => [(1, some (.tok (((x.1.map (argTy (resIx (nth (nth w d).ctors c) k))).map Ty.c)).length 2))]) (fun x => x.1 ++ x.2 = (nth (nth w d).ctors c).args) (fun x => x.2.length) ([], (nth (nth w d).ctors c).args) (by simp) ⟨⟨_, rfl, (LeA.eqi (by first | rfl | (simp; done) | (simp [argTy, resIx, hk]; done)))⟩, ⟨⟨_, rfl, (LeA.glg (by first | rfl | (simp; done) | (simp [argTy, resIx, hk]; done)))⟩, trivial⟩⟩ ⟨beq_nat_eq (by first | rfl | (simp; done) | (simp; omega) | (first | rfl | (simp; done) | (simp [argTy, resIx, hk]; done))), trivial⟩ (fun x => rfl) (fun x hg1 => ?_)
  obtain ⟨pre, rest⟩ := x
  dsimp only at hg1 ⊢
  refine evc [9] [] ?_
  refine sq (fun h4 h4p h4s => ?_) fun h4 h4p h4s => ?_
  ·try simp only [Q] at h4p
   rcases rest with _ | ⟨y, rest⟩
   ·exfalso; simp_all
   refine Walk.idx sl182 .none rfl rfl rfl rfl (zip_at hg1) rfl ?_
   refine evs [9] [] ?_
   refine Walk.alloc (id := 3011) tz42 rfl .none rfl rfl rfl rfl ?_
   refine Walk.store ty42 .none rfl rfl rfl rfl rfl rfl (by simp) rfl ?_
   refine tv ?_
   refine sq (fun h5 h5p h5s => ?_) fun h5 h5p h5s => ?_
   ·try simp only [Q] at h5p
    refine Walk.store ty3 .none rfl rfl rfl rfl rfl rfl (by simp) rfl ?_
    refine tv ?_
    refine Walk.sliceLit sl182 tz42 rfl (by decide) (ks := [0]) (xs := [_]) rfl rfl (by decide) (by decide) .none rfl rfl rfl rfl ?_
    refine Walk.append sl182 zz42 rfl .none rfl rfl rfl rfl (htokL rfl (by first | rfl | (simp; done) | (simp; omega))) (by simp) (by have hl := congrArg List.length hg1; simp at hl; simp; omega) (by have hl := congrArg List.length hg1; simp at hl; simp; omega) ?_
    refine asg ?_
    refine tv ?_
    refine ar ?_
    refine Exists.intro ((pre ++ [y], rest)) ⟨(by have hz := hg1; rw [← hz]; simp), (by simp), Sub.x (by kernel_rfl) (by kernel_rfl) ⟨⟨_, rfl, (LeA.eqi (by first | rfl | (simp; done) | (simp [argTy, resIx, h1s, h1p, h4s, h4p, h5s, h5p]; done)))⟩, ⟨⟨_, rfl, (LeA.glg (by first | rfl | (simp; done) | (simp [argTy, resIx, h1s, h1p, h4s, h4p, h5s, h5p]; done)))⟩, trivial⟩⟩ (by kernel_rfl) (by kernel_rfl) ⟨beq_nat_eq (by first | rfl | (simp; done) | (simp; omega) | (first | rfl | (simp; done) | (simp [argTy, resIx, h1s, h1p, h4s, h4p, h5s, h5p]; done))), trivial⟩⟩
   ·try simp only [Q] at h5p
    refine Walk.sliceLit sl182 tz42 rfl (by decide) (ks := [0]) (xs := [_]) rfl rfl (by decide) (by decide) .none rfl rfl rfl rfl ?_
    refine Walk.append sl182 zz42 rfl .none rfl rfl rfl rfl (htokL rfl (by first | rfl | (simp; done) | (simp; omega))) (by simp) (by have hl := congrArg List.length hg1; simp at hl; simp; omega) (by have hl := congrArg List.length hg1; simp at hl; simp; omega) ?_
    refine asg ?_
    refine tv ?_
    refine ar ?_
    refine Exists.intro ((pre ++ [y], rest)) ⟨(by have hz := hg1; rw [← hz]; simp), (by simp), Sub.x (by kernel_rfl) (by kernel_rfl) ⟨⟨_, rfl, (LeA.eqi (by first | rfl | (simp; done) | (simp [argTy, resIx, h1s, h1p, h4s, h4p, h5s, h5p]; done)))⟩, ⟨⟨_, rfl, (LeA.glg (by first | rfl | (simp; done) | (simp [argTy, resIx, h1s, h1p, h4s, h4p, h5s, h5p]; done)))⟩, trivial⟩⟩ (by kernel_rfl) (by kernel_rfl) ⟨beq_nat_eq (by first | rfl | (simp; done) | (simp; omega) | (first | rfl | (simp; done) | (simp [argTy, resIx, h1s, h1p, h4s, h4p, h5s, h5p]; done))), trivial⟩⟩
  ·try simp only [Q] at h4p
   have hrest : rest = [] := by
    rcases rest with _ | ⟨a, b⟩
    ·rfl
    ·exfalso; have hz := congrArg List.length (hg1); simp only [List.length_append, List.length_cons, List.length_map] at hz; omega
   subst hrest
   refine rn0 (r1 rfl) (.gld ?_)
   all_goals (simp [← hg1, resIx, h1s, h1p, h4s, h4p])
theorem spec_l1Args_fn {w : List Data} {d c : Nat} {k : Int} (hs : WSmall w) (hd : d < w.length) (hc : c < (nth w d).ctors.length) : FnD Tryz.prog 150 [.d (encDatas w), .agg [.d (.i d), .d (.i k)], .d (.i c)] [] (.d (encTys ((nth (nth w d).ctors c).args.map (argTy (resIx (nth (nth w d).ctors c) k))))) [] := by
 have hb := (hs.ctor _ (nth_mem hd) _ (nth_mem hc)).2
 refine bd Tryz.f150 46 [] [] fun w0 F0 own kept hk => ?_
 refine Walk.box (id := 3004) .none rfl rfl rfl rfl rfl rfl rfl ?_
 refine ev ?_
 refine Walk.sliceEmptyG 1 sl182 .none rfl rfl ?_
 refine ev ?_
 refine Walk.idx sl27 .none rfl rfl rfl rfl (at_nth hd) rfl ?_
 refine ev ?_
 refine Walk.idx sl119 .none rfl rfl rfl rfl (at_nth hc) rfl ?_
 refine ev ?_
 refine Walk.alloc (id := 3008) tz184 rfl .none rfl rfl rfl rfl ?_
 refine Walk.store ty184 .none rfl rfl rfl rfl rfl rfl (by simp) rfl ?_
 refine tv ?_
 refine CWp.loopX (ι := List (Ty) × List (Ty)) hk (fun x => [(9, .d (.i (x.1.length : Int))), (7, .gl 1 ((x.1.map (argTy (resIx (nth (nth w d).ctors c) k))).map Ty.c))]) [10, 21, 22, 23, 24, 25, 26, 27, 28, 29, 30, 31, 32, 33, 34, 35, 36, 37, 38, 39, 40, 41, 42, 43, 44] (fun x => [(1, some (.tok (((x.1.map (argTy (resIx (nth (nth w d).ctors c) k))).map Ty.c)).length 2))]) (fun x => x.1 ++ x.2 = (nth (nth w d).ctors c).args) (fun x => x.2.length) ([], (nth (nth w d).ctors c).args) (by simp) ⟨⟨_, rfl, (LeA.eqi (by first | rfl | (simp; done) | (simp [argTy, Ctor.eta, hk]; done)))⟩, ⟨⟨_, rfl, (LeA.glg (by first | rfl | (simp; done) | (simp [argTy, Ctor.eta, hk]; done)))⟩, trivial⟩⟩ ⟨beq_nat_eq (by first | rfl | (simp; done) | (simp; omega) | (first | rfl | (simp; done) | (simp [argTy, Ctor.eta, hk]; done))), trivial⟩ (fun x => rfl) (fun x hg1 => ?_)
 obtain ⟨pre, rest⟩ := x
 dsimp only at hg1 ⊢
 refine evc [] [] ?_
 refine sq (fun h1 h1p h1s => ?_) fun h1 h1p h1s => ?_
 ·try simp only [Q] at h1p
  rcases rest with _ | ⟨y, rest⟩
  ·exfalso; simp_all
  refine Walk.idx sl182 .none rfl rfl rfl rfl (zip_at hg1) rfl ?_
  refine ev ?_
  refine Walk.alloc (id := 3010) tz42 rfl .none rfl rfl rfl rfl ?_
  refine Walk.store ty42 .none rfl rfl rfl rfl rfl rfl (by simp) rfl ?_
  refine tv ?_
  refine sq (fun h2 h2p h2s => ?_) fun h2 h2p h2s => ?_
  ·try simp only [Q] at h2p
   refine Walk.call (cr := []) cal225 (spec_l1Result_fn) rfl .none rfl rfl (LeL.refl _) trivial rfl rfl rfl ?_
   refine ev ?_
   refine Walk.store ty3 .none rfl rfl rfl rfl rfl rfl (by simp) rfl ?_
   refine tv ?_
   refine Walk.sliceLit sl182 tz42 rfl (by decide) (ks := [0]) (xs := [_]) rfl rfl (by decide) (by decide) .none rfl rfl rfl rfl ?_
   refine Walk.append sl182 zz42 rfl .none rfl rfl rfl rfl (htokL rfl (by first | rfl | (simp; done) | (simp; omega))) (by simp) (by have hl := congrArg List.length hg1; simp at hl; simp; omega) (by have hl := congrArg List.length hg1; simp at hl; simp; omega) ?_
   refine ev ?_
   refine ar ?_
   refine Exists.intro ((pre ++ [y], rest)) ⟨(by have hz := hg1; rw [← hz]; simp), (by simp), Sub.x (by kernel_rfl) (by kernel_rfl) ⟨⟨_, rfl, (LeA.eqi (by first | rfl | (simp; done) | (simp [argTy, Ctor.eta, h1s, h1p, h2s, h2p]; done)))⟩, ⟨⟨_, rfl, (LeA.glg (by first | rfl | (simp; done) | (simp [argTy, Ctor.eta, h1s, h1p, h2s, h2p]; done)))⟩, trivial⟩⟩ (by kernel_rfl) (by kernel_rfl) ⟨beq_nat_eq (by first | rfl | (simp; done) | (simp; omega) | (first | rfl | (simp; done) | (simp [argTy, Ctor.eta, h1s, h1p, h2s, h2p]; done))), trivial⟩⟩
  ·try simp only [Q] at h2p
   refine Walk.sliceLit sl182 tz42 rfl (by decide) (ks := [0]) (xs := [_]) rfl rfl (by decide) (by decide) .none rfl rfl rfl rfl ?_
   refine Walk.append sl182 zz42 rfl .none rfl rfl rfl rfl (htokL rfl (by first | rfl | (simp; done) | (simp; omega))) (by simp) (by have hl := congrArg List.length hg1; simp at hl; simp; omega) (by have hl := congrArg List.length hg1; simp at hl; simp; omega) ?_
   refine ev ?_
   refine ar ?_
   refine Exists.intro ((pre ++ [y], rest)) ⟨(by have hz := hg1; rw [← hz]; simp), (by simp), Sub.x (by kernel_rfl) (by kernel_rfl) ⟨⟨_, rfl, (LeA.eqi (by first | rfl | (simp; done) | (simp [argTy, Ctor.eta, h1s, h1p, h2s, h2p]; done)))⟩, ⟨⟨_, rfl, (LeA.glg (by first | rfl | (simp; done) | (simp [argTy, Ctor.eta, h1s, h1p, h2s, h2p]; done)))⟩, trivial⟩⟩ (by kernel_rfl) (by kernel_rfl) ⟨beq_nat_eq (by first | rfl | (simp; done) | (simp; omega) | (first | rfl | (simp; done) | (simp [argTy, Ctor.eta, h1s, h1p, h2s, h2p]; done))), trivial⟩⟩
 ·try simp only [Q] at h1p
  have hrest : rest = [] := by
   rcases rest with _ | ⟨a, b⟩
   ·rfl
   ·exfalso; have hz := congrArg List.length (hg1); simp only [List.length_append, List.length_cons, List.length_map] at hz; omega
  subst hrest
  refine rn0 (r1 rfl) (.gld ?_)
  all_goals (simp [← hg1, resIx, h1s, h1p])
mutual
def valEq : Val → Val → Bool
 | .mk a n ks, .mk b m ls => decide (a = b) && (decide (n = m) && valsEq ks ls)
def valsEq : List Val → List Val → Bool
 | [], [] => true
 | x :: r, y :: s => valEq x y && valsEq r s
 | _, _ => false
end
mutual
def Val.ok : Val → Prop
 | .mk _ _ ks => ks.length ≤ 1000000000000 ∧ Vals.ok ks
def Vals.ok : List Val → Prop
 | [] => True
 | v :: r => v.ok ∧ Vals.ok r
end
theorem Vals.ok_mem : ∀ {l : List Val}, Vals.ok l → ∀ v, v ∈ l → v.ok
 | x :: r, h, v, hv => by
  simp only [Vals.ok] at h
  rcases List.mem_cons.1 hv with rfl | hv
  ·exact h.1
  ·exact Vals.ok_mem h.2 v hv
mutual
def Val.size : Val → Nat
 | .mk _ _ ks => 1 + Vals.size ks
def Vals.size : List Val → Nat
 | [] => 0
 | v :: r => v.size + Vals.size r
end
theorem Vals.size_mem : ∀ {l : List Val} {v : Val}, v ∈ l → v.size ≤ Vals.size l
 | x :: r, v, hv => by
  simp only [Vals.size]
  rcases List.mem_cons.1 hv with rfl | hv
  ·omega
  ·have := Vals.size_mem hv; omega
theorem Val.ok_iff (v : Val) : v.ok ↔ v.kids.length ≤ 1000000000000 ∧ Vals.ok v.kids := by cases v; rfl
theorem Val.size_eq (v : Val) : v.size = 1 + Vals.size v.kids := by cases v; rfl
theorem spec_l1Is_fn {w : List Data} {a b : Int} : FnD Tryz.prog 131 [.d (encDatas w), .agg [.d (.i a), .d (.i b)]] [] (.d (.bool (argOk w.length ⟨a, b⟩ && decide (0 ≤ b)))) [] := by
 refine bd Tryz.f131 14 [] [] fun w0 F0 own kept hk => ?_
 refine Walk.box (id := 3003) .none rfl rfl rfl rfl rfl rfl rfl ?_
 refine ev ?_
 refine Walk.call (cr := []) cal208 (spec_l1Arg_fn) rfl .none rfl rfl (LeL.refl _) trivial rfl rfl rfl ?_
 refine ev ?_
 refine sq (fun h1 h1p h1s => ?_) fun h1 h1p h1s => ?_
 ·try simp only [Q] at h1p
  refine rn0 (r1 rfl) (.eqd ?_)
  all_goals (first | rfl | (simp [h1s, h1p]; done) | (simp_all; done) | (simp_all; omega) | omega)
 ·try simp only [Q] at h1p
  refine rn0 (r1 rfl) (.eqd ?_)
  all_goals (first | rfl | (simp [h1s, h1p]; done) | (simp_all; done) | (simp_all; omega) | omega)
theorem spec_TypeValid_fn {w : List Data} {a b : Int} (hs : WSmall w) : FnD Tryz.prog 172 [.d (encDatas w), .agg [.d (.i a), .d (.i b)]] [] (.d (.bool (specWorldValid w && (argOk w.length ⟨a, b⟩ && decide (0 ≤ b))))) [] := by
 refine bd Tryz.f172 12 [] [] fun w0 F0 own kept hk => ?_
 refine Walk.box (id := 3003) .none rfl rfl rfl rfl rfl rfl rfl ?_
 refine ev ?_
 refine Walk.call (cr := []) cal72 (spec_WorldValid_fn hs) rfl .none rfl rfl (LeL.refl _) trivial rfl rfl rfl ?_
 refine ev ?_
 refine sq (fun h1 h1p h1s => ?_) fun h1 h1p h1s => ?_
 ·try simp only [Q] at h1p
  refine Walk.call (cr := []) cal131 (spec_l1Is_fn) rfl (.some rfl rfl h1) rfl rfl (LeL.refl _) trivial rfl rfl rfl ?_
  refine evs [] [(7, true)] ?_ ⟨⟨_, rfl, h1⟩, trivial⟩
  refine rn0 (r1 rfl) (.eqd ?_)
  all_goals (first | rfl | (simp [h1s, h1p]; done) | (simp_all; done) | (simp_all; omega) | omega)
 ·try simp only [Q] at h1p
  refine rn0 (r1 rfl) (.eqd ?_)
  all_goals (first | rfl | (simp [h1s, h1p]; done) | (simp_all; done) | (simp_all; omega) | omega)
def TyIn (n : Nat) (t : Ty) : Prop := t.data = -1 ∨ ∃ d : Nat, t.data = d ∧ d < n
structure WT (w : List Data) : Prop where
 small : WSmall w
 arg : ∀ d ∈ w, ∀ c ∈ d.ctors, ∀ t ∈ c.args, TyIn w.length t
def argsOf (w : List Data) (t : Ty) (c : Int) : List Ty :=
 let x := nth (nth w t.data.toNat).ctors c.toNat
 x.args.map (argTy (resIx x t.index))
def ctorsOf (w : List Data) (t : Ty) : List Int := ctorsFrom t.index 0 (nth w t.data.toNat).ctors
def cap (x : Int) : Int := if 401 < x then 401 else x
theorem cap_bd {x : Int} (h : 0 ≤ x) : 0 ≤ cap x ∧ cap x ≤ 401 := by unfold cap; split <;> omega
theorem ctorsFrom_mem (k : Int) : ∀ (l : List Ctor) (i : Nat) (c : Int), c ∈ ctorsFrom k i l → ∃ j : Nat, c = (j : Int) ∧ i ≤ j ∧ j < i + l.length
 | [], i, c, h => by simp [ctorsFrom] at h
 | x :: r, i, c, h => by
  unfold ctorsFrom at h
  have go : c ∈ ctorsFrom k (i + 1) r → ∃ j : Nat, c = (j : Int) ∧ i ≤ j ∧ j < i + (x :: r).length := fun h => by
   obtain ⟨j, h1, h2, h3⟩ := ctorsFrom_mem k r (i + 1) c h
   exact ⟨j, h1, by omega, by simp; omega⟩
  split at h
  ·rcases List.mem_cons.1 h with h | h
   ·exact ⟨i, h, by omega, by simp⟩
   ·exact go h
  ·exact go h
theorem argTy_in {n : Nat} {k : Int} {t : Ty} (h : TyIn n t) : TyIn n (argTy k t) := by
 unfold argTy; split
 ·exact h
 ·exact h
def PlaceIn (w : List Data) (d : Nat) (c : Int) : Prop := ∃ j : Nat, c = j ∧ j < (nth w d).ctors.length
theorem place_of {w : List Data} {d : Nat} {k c : Int} (h : c ∈ ctorsOf w ⟨d, k⟩) : PlaceIn w d c := by
 obtain ⟨j, h1, _, h3⟩ := ctorsFrom_mem _ _ _ _ h
 exact ⟨j, h1, by simpa using h3⟩
theorem argsOf_in {w : List Data} (hw : WT w) {d : Nat} (hd : d < w.length) {k c : Int} (hc : PlaceIn w d c) {t : Ty} (ht : t ∈ argsOf w ⟨d, k⟩ c) : TyIn w.length t := by
 obtain ⟨j, rfl, hj⟩ := hc
 simp only [argsOf, Int.toNat_natCast, List.mem_map] at ht
 obtain ⟨x, hx, rfl⟩ := ht
 exact argTy_in (hw.arg _ (nth_mem hd) _ (nth_mem hj) x hx)
theorem argsOf_len {w : List Data} (hw : WT w) {d : Nat} (hd : d < w.length) {k c : Int} (hc : PlaceIn w d c) : (argsOf w ⟨d, k⟩ c).length ≤ 1000000000000 := by
 obtain ⟨j, rfl, hj⟩ := hc
 simp only [argsOf, Int.toNat_natCast, List.length_map]
 exact (hw.small.ctor _ (nth_mem hd) _ (nth_mem hj)).2
theorem ctorsOf_len {w : List Data} (hw : WT w) {d : Nat} {k : Int} : (ctorsOf w ⟨d, k⟩).length ≤ 1000000000000 := by
 have := ctorsFrom_len k (nth w d).ctors 0
 have := hw.small.ctors d
 simp only [ctorsOf, Int.toNat_natCast]; omega
theorem impl_argTypes_in {w : List Data} (hw : WT w) {d : Nat} (hd : d < w.length) {k c : Int} (hc : PlaceIn w d c) : FnD Tryz.prog 171 [.d (encDatas w), .agg [.d (.i d), .d (.i k)], .d (.i c)] [] (.d (encTys (argsOf w ⟨d, k⟩ c))) [] := by
 obtain ⟨j, rfl, hj⟩ := hc
 exact impl_argTypes_fn hw.small hd hj
theorem impl_ctorsOf_in {w : List Data} (hw : WT w) {d : Nat} (hd : d < w.length) {k : Int} : FnD Tryz.prog 170 [.d (encDatas w), .agg [.d (.i d), .d (.i k)]] [] (.d (encInts (ctorsOf w ⟨d, k⟩))) [] := impl_ctorsOf_fn hw.small hd
theorem spec_l1Args_in {w : List Data} (hw : WT w) {d : Nat} (hd : d < w.length) {k c : Int} (hc : PlaceIn w d c) : FnD Tryz.prog 150 [.d (encDatas w), .agg [.d (.i d), .d (.i k)], .d (.i c)] [] (.d (encTys (argsOf w ⟨d, k⟩ c))) [] := by
 obtain ⟨j, rfl, hj⟩ := hc
 exact spec_l1Args_fn hw.small hd hj
theorem spec_l1Ctors_in {w : List Data} (hw : WT w) {d : Nat} (hd : d < w.length) {k : Int} : FnD Tryz.prog 164 [.d (encDatas w), .agg [.d (.i d), .d (.i k)]] [] (.d (encInts (ctorsOf w ⟨d, k⟩))) [] := spec_l1Ctors_fn hw.small hd
end Go.Proofs.YtdgknigklgnefaaGreat
namespace Go.Proofs.YtdgknigklgnefaaGreat
open Go
set_option linter.unusedSimpArgs false
set_option linter.unusedVariables false
def ctorNames (w : List Data) : List Str := w.flatMap fun d => d.ctors.map (·.name)
structure WV (w : List Data) : Prop where
 len : w.length ≤ 4
 data : ∀ d ∈ w, dataNameOk d.name = true ∧ 1 ≤ d.ctors.length ∧ d.ctors.length ≤ 4
 ctor : ∀ d ∈ w, ∀ c ∈ d.ctors, ctorOk w.length c = true
 names : (w.map (·.name)).Nodup
 cnames : (ctorNames w).Nodup
theorem ctorsOk_iff (n : Nat) : ∀ (l : List Ctor) (met met' : List Str), ctorsOk n met l = some met' ↔ met' = met ++ l.map (·.name) ∧ (∀ c ∈ l, ctorOk n c = true) ∧ (l.map (·.name)).Nodup ∧ ∀ c ∈ l, c.name ∉ met
 | [], met, met' => by
  unfold ctorsOk
  simp only [Option.some.injEq, List.map_nil, List.append_nil]
  exact ⟨fun h => ⟨h.symm, by simp, by simp, by simp⟩, fun h => h.1.symm⟩
 | c :: r, met, met' => by
  unfold ctorsOk
  by_cases h : (ctorOk n c && !decide (c.name ∈ met)) = true
  ·rw [if_pos h, ctorsOk_iff n r]
   simp only [Bool.and_eq_true, Bool.not_eq_true', decide_eq_false_iff_not] at h
   obtain ⟨h1, h2⟩ := h
   constructor
   ·rintro ⟨rfl, q1, q2, q3⟩
    refine ⟨by simp, fun x hx => ?_, ?_, fun x hx => ?_⟩
    ·rcases List.mem_cons.1 hx with rfl | hx
     ·exact h1
     ·exact q1 x hx
    ·simp only [List.map_cons, List.nodup_cons]
     refine ⟨fun hm => ?_, q2⟩
     obtain ⟨x, hx, he⟩ := List.mem_map.1 hm
     exact q3 x hx (by rw [he]; simp)
    ·rcases List.mem_cons.1 hx with rfl | hx
     ·exact h2
     ·intro hm; exact q3 x hx (by simp [hm])
   ·rintro ⟨rfl, q1, q2, q3⟩
    simp only [List.map_cons, List.nodup_cons] at q2
    refine ⟨by simp, fun x hx => q1 x (List.mem_cons_of_mem _ hx), q2.2, fun x hx hm => ?_⟩
    simp only [List.mem_append, List.mem_singleton] at hm
    rcases hm with hm | hm
    ·exact q3 x (List.mem_cons_of_mem _ hx) hm
    ·exact q2.1 (hm ▸ List.mem_map.2 ⟨x, hx, rfl⟩)
  ·rw [if_neg h]
   constructor
   ·intro h'; cases h'
   ·rintro ⟨_, q1, _, q3⟩
    exfalso; apply h
    simp [q1 c (by simp), q3 c (by simp)]
theorem datasOk_iff (n : Nat) : ∀ (l : List Data) (met datas : List Str), datasOk n met datas l = true ↔
  (∀ d ∈ l, dataNameOk d.name = true ∧ 1 ≤ d.ctors.length ∧ d.ctors.length ≤ 4) ∧ (∀ d ∈ l, ∀ c ∈ d.ctors, ctorOk n c = true) ∧ (l.map (·.name)).Nodup ∧ (∀ d ∈ l, d.name ∉ datas) ∧
   (ctorNames l).Nodup ∧ ∀ s ∈ ctorNames l, s ∉ met
 | [], met, datas => by simp [datasOk, ctorNames]
 | d :: r, met, datas => by
  have hcn : ctorNames (d :: r) = d.ctors.map (·.name) ++ ctorNames r := rfl
  have hw : within d.ctors.length 1 4 = true ↔ 1 ≤ d.ctors.length ∧ d.ctors.length ≤ 4 := by simp [within]; omega
  unfold datasOk
  simp only [Bool.and_eq_true, Bool.not_eq_true', decide_eq_false_iff_not, hw]
  constructor
  ·rintro ⟨⟨⟨h1, h2⟩, h3⟩, h4⟩
   split at h4
   ·rename_i met' hm
    obtain ⟨rfl, c1, c2, c3⟩ := (ctorsOk_iff n _ _ _).1 hm
    obtain ⟨q1, q2, q3, q4, q5, q6⟩ := (datasOk_iff n r _ _).1 h4
    refine ⟨fun x hx => ?_, fun x hx => ?_, ?_, fun x hx => ?_, ?_, fun s hs => ?_⟩
    ·rcases List.mem_cons.1 hx with rfl | hx
     ·exact ⟨h1, h3⟩
     ·exact q1 x hx
    ·rcases List.mem_cons.1 hx with rfl | hx
     ·exact c1
     ·exact q2 x hx
    ·simp only [List.map_cons, List.nodup_cons]
     refine ⟨fun hm => ?_, q3⟩
     obtain ⟨x, hx, he⟩ := List.mem_map.1 hm
     exact q4 x hx (by rw [he]; simp)
    ·rcases List.mem_cons.1 hx with rfl | hx
     ·exact h2
     ·intro hm; exact q4 x hx (by simp [hm])
    ·rw [hcn, List.nodup_append]
     refine ⟨c2, q5, fun a ha b hb he => ?_⟩
     subst he
     exact q6 a hb (by simp only [List.mem_append]; exact .inr ha)
    ·rw [hcn] at hs
     rcases List.mem_append.1 hs with hs | hs
     ·obtain ⟨c, hc, rfl⟩ := List.mem_map.1 hs
      exact c3 c hc
     ·intro hm; exact q6 s hs (by simp [hm])
   ·cases h4
  ·rintro ⟨q1, q2, q3, q4, q5, q6⟩
   rw [hcn] at q5 q6
   rw [List.nodup_append] at q5
   simp only [List.map_cons, List.nodup_cons] at q3
   have hd := q1 d (by simp)
   have hm : ctorsOk n met d.ctors = some (met ++ d.ctors.map (·.name)) := (ctorsOk_iff n _ _ _).2 ⟨rfl, q2 d (by simp), q5.1, fun c hc => q6 _ (List.mem_append.2 (.inl (List.mem_map.2 ⟨c, hc, rfl⟩)))⟩
   refine ⟨⟨⟨hd.1, q4 d (by simp)⟩, hd.2⟩, ?_⟩
   rw [hm]
   refine (datasOk_iff n r _ _).2 ⟨fun x hx => q1 x (List.mem_cons_of_mem _ hx), fun x hx => q2 x (List.mem_cons_of_mem _ hx), q3.2, fun x hx hmem => ?_, q5.2.1, fun s hs hmem => ?_⟩
   ·simp only [List.mem_append, List.mem_singleton] at hmem
    rcases hmem with hmem | hmem
    ·exact q4 x (List.mem_cons_of_mem _ hx) hmem
    ·exact q3.1 (hmem ▸ List.mem_map.2 ⟨x, hx, rfl⟩)
   ·rcases List.mem_append.1 hmem with hmem | hmem
    ·exact q6 s (List.mem_append.2 (.inr hs)) hmem
    ·exact q5.2.2 s hmem s hs rfl
theorem worldValid_iff (w : List Data) : worldValid w = true ↔ WV w := by
 unfold worldValid
 rw [Bool.and_eq_true, datasOk_iff]
 constructor
 ·rintro ⟨h1, q1, q2, q3, _, q5, _⟩
  exact ⟨by have := of_decide_eq_true h1; omega, q1, q2, q3, q5⟩
 ·rintro ⟨h1, q1, q2, q3, q5⟩
  exact ⟨decide_eq_true (by omega), q1, q2, q3, by simp, q5, by simp⟩
theorem nodup_iff_nth {l : List Str} : l.Nodup ↔ ∀ i j, i < j → j < l.length → nth l i ≠ nth l j := by
 unfold List.Nodup
 rw [List.pairwise_iff_getElem]
 constructor
 ·intro h i j hij hj
  have := h i j (by omega) hj hij
  simpa [nth, List.getD, hj, (by omega : i < l.length)] using this
 ·intro h i j hi hj hij
  have := h i j hij hj
  simpa [nth, List.getD, hj, hi] using this
theorem nth_eq {α : Type} [Inhabited α] {l : List α} {i : Nat} (h : i < l.length) : nth l i = l[i] := by simp [nth, List.getD, h]
theorem cnames_iff (w : List Data) : (ctorNames w).Nodup ↔ (∀ d, d < w.length → ∀ j k, j < k → k < (nth w d).ctors.length → (nth (nth w d).ctors j).name ≠ (nth (nth w d).ctors k).name) ∧
  ∀ i d, i < d → d < w.length → ∀ j k, j < (nth w i).ctors.length → k < (nth w d).ctors.length → (nth (nth w i).ctors j).name ≠ (nth (nth w d).ctors k).name := by
 unfold ctorNames List.Nodup
 rw [List.pairwise_flatMap]
 constructor
 ·rintro ⟨h1, h2⟩
  refine ⟨fun d hd j k hjk hk => ?_, fun i d hid hd j k hj hk => ?_⟩
  ·have := h1 (nth w d) (nth_mem hd)
   rw [List.pairwise_iff_getElem] at this
   have := this j k (by simp; omega) (by simpa using hk) hjk
   simpa [nth_eq hk, nth_eq (show j < (nth w d).ctors.length by omega)] using this
  ·rw [List.pairwise_iff_getElem] at h2
   have := h2 i d (by omega) hd hid
   rw [← nth_eq hd, ← nth_eq (show i < w.length by omega)] at this
   exact this _ (List.mem_map.2 ⟨_, nth_mem hj, rfl⟩) _ (List.mem_map.2 ⟨_, nth_mem hk, rfl⟩)
 ·rintro ⟨h1, h2⟩
  refine ⟨fun x hx => ?_, ?_⟩
  ·obtain ⟨d, hd, rfl⟩ := List.getElem_of_mem hx
   rw [List.pairwise_iff_getElem]
   intro j k hj hk hjk
   have hk' : k < (nth w d).ctors.length := by rw [nth_eq hd]; simpa using hk
   have := h1 d hd j k hjk hk'
   rw [nth_eq hk', nth_eq (show j < (nth w d).ctors.length by omega)] at this
   simp only [nth_eq hd] at this
   simpa using this
  ·rw [List.pairwise_iff_getElem]
   intro i d hi hd hid x hx y hy
   obtain ⟨a, ha, rfl⟩ := List.mem_map.1 hx
   obtain ⟨b, hb, rfl⟩ := List.mem_map.1 hy
   obtain ⟨j, hj, rfl⟩ := List.getElem_of_mem ha
   obtain ⟨k, hk, rfl⟩ := List.getElem_of_mem hb
   have hj' : j < (nth w i).ctors.length := by rw [nth_eq hi]; exact hj
   have hk' : k < (nth w d).ctors.length := by rw [nth_eq hd]; exact hk
   have := h2 i d hid hd j k hj' hk'
   rw [nth_eq hj', nth_eq hk'] at this
   simpa only [nth_eq hi, nth_eq hd] using this
theorem names_iff (w : List Data) : (w.map (·.name)).Nodup ↔ ∀ i d, i < d → d < w.length → (nth w i).name ≠ (nth w d).name := by
 rw [nodup_iff_nth]
 have e : ∀ i, i < w.length → nth (w.map (·.name)) i = (nth w i).name := fun i hi => by simp [nth, List.getD, hi]
 constructor
 ·intro h i d hid hd
  have := h i d hid (by simpa using hd)
  rwa [e i (by omega), e d hd] at this
 ·intro h i d hid hd
  have hd' : d < w.length := by simpa using hd
  rw [e i (by omega), e d hd']
  exact h i d hid hd'
theorem twice_iff (w : List Data) (d k : Nat) : twice w d k = false ↔ (∀ i, i < d → (nth w i).name ≠ (nth w d).name) ∧
  ∀ i j, i ≤ d → j < (nth w i).ctors.length → (i < d ∨ j < k) → k < (nth w d).ctors.length → (nth (nth w i).ctors j).name ≠ (nth (nth w d).ctors k).name := by
 unfold twice
 rw [List.any_eq_false]
 constructor
 ·intro h
  refine ⟨fun i hi he => ?_, fun i j hi hj hij hk he => ?_⟩
  ·apply h i (List.mem_range.2 (by omega))
   unfold rowTwice; simp [hi, he]
  ·apply h i (List.mem_range.2 (by omega))
   unfold rowTwice
   rw [any_range_true hj (by unfold hitTwice; simp [hk, he]; omega)]
   simp
 ·rintro ⟨h1, h2⟩ i hi
  have hi' := List.mem_range.1 hi
  unfold rowTwice
  simp only [Bool.or_eq_true, Bool.and_eq_true, decide_eq_true_eq, not_or, not_and]
  refine ⟨fun hid => h1 i hid, ?_⟩
  rw [any_range_false (fun j hj => ?_)]
  ·simp
  ·unfold hitTwice
   cases hc : ((decide (i < d) || decide (j < k)) && (decide (k < (nth w d).ctors.length) && decide ((nth (nth w i).ctors j).name = (nth (nth w d).ctors k).name))) with
   | false => rfl
   | true =>
    simp only [Bool.and_eq_true, Bool.or_eq_true, decide_eq_true_eq] at hc
    exact absurd hc.2.2 (h2 i j (by omega) hj hc.1 hc.2.1)
theorem specWorldValid_iff (w : List Data) : specWorldValid w = true ↔ WV w := by
 unfold specWorldValid
 rw [Bool.and_eq_true, decide_eq_true_eq, List.all_eq_true]
 have hs : ∀ d, specData w d = true ↔ dataNameOk (nth w d).name = true ∧ 1 ≤ (nth w d).ctors.length ∧ (nth w d).ctors.length ≤ 4 ∧ ∀ k, k < (nth w d).ctors.length → ctorOk w.length (nth (nth w d).ctors k) = true ∧ twice w d k = false := fun d => by
  unfold specData
  simp only [Bool.and_eq_true, decide_eq_true_eq, List.all_eq_true, List.mem_range, specCtors, Bool.not_eq_true']
 constructor
 ·rintro ⟨h1, h2⟩
  have h3 : ∀ d, d < w.length → _ := fun d hd => (hs d).1 (h2 d (List.mem_range.2 hd))
  have h4 : ∀ d, d < w.length → ∀ k, k < (nth w d).ctors.length → _ := fun d hd k hk => (twice_iff w d k).1 ((h3 d hd).2.2.2 k hk).2
  refine ⟨h1, fun d hd => ?_, fun d hd c hc => ?_, (names_iff w).2 (fun i d hid hd => ?_), (cnames_iff w).2 ⟨fun d hd j k hjk hk => ?_, fun i d hid hd j k hj hk => ?_⟩⟩
  ·obtain ⟨i, hi, rfl⟩ := List.getElem_of_mem hd
   have := h3 i hi
   rw [nth_eq hi] at this
   exact ⟨this.1, this.2.1, this.2.2.1⟩
  ·obtain ⟨i, hi, rfl⟩ := List.getElem_of_mem hd
   obtain ⟨k, hk, rfl⟩ := List.getElem_of_mem hc
   have hk' : k < (nth w i).ctors.length := by rw [nth_eq hi]; exact hk
   have := ((h3 i hi).2.2.2 k hk').1
   rw [nth_eq hk'] at this
   simpa only [nth_eq hi] using this
  ·exact (h4 d hd 0 (by have := (h3 d hd).2.1; omega)).1 i hid
  ·exact (h4 d hd k hk).2 d j (Nat.le_refl _) (by omega) (.inr hjk) hk
  ·exact (h4 d hd k hk).2 i j (by omega) hj (.inl hid) hk
 ·intro h
  refine ⟨h.len, fun d hd => ?_⟩
  have hd' := List.mem_range.1 hd
  have hm := nth_mem hd'
  have hn := (names_iff w).1 h.names
  have hc := (cnames_iff w).1 h.cnames
  refine (hs d).2 ⟨(h.data _ hm).1, (h.data _ hm).2.1, (h.data _ hm).2.2, fun k hk => ⟨h.ctor _ hm _ (nth_mem hk), (twice_iff w d k).2 ⟨fun i hi => hn i d hi hd', fun i j hi hj hij hk' => ?_⟩⟩⟩
  by_cases hid : i < d
  ·exact hc.2 i d hid hd' j k hj hk'
  ·have : i = d := by omega
   subst this
   exact hc.1 i hd' j k (by omega) hk'
theorem specWorldValid_eq (w : List Data) : specWorldValid w = worldValid w := by
 rw [Bool.eq_iff_iff, specWorldValid_iff, worldValid_iff]
theorem argOk_in {n : Nat} {t : Ty} (h : argOk n t = true) : TyIn n t := by
 unfold argOk at h
 simp only [Bool.or_eq_true, Bool.and_eq_true, decide_eq_true_eq, within] at h
 rcases h with h | h
 ·exact .inl h.1
 ·exact .inr ⟨t.data.toNat, by omega, by omega⟩
theorem typeOk_in {n : Nat} {t : Ty} (h : typeOk n t = true) : TyIn n t := by
 unfold typeOk at h
 simp only [Bool.or_eq_true, Bool.and_eq_true, decide_eq_true_eq, within] at h
 rcases h with h | h
 ·exact .inl h.1
 ·exact .inr ⟨t.data.toNat, by omega, by omega⟩
theorem WV.wt {w : List Data} (hs : WSmall w) (h : WV w) : WT w := ⟨hs, fun d hd c hc t ht => by
 have := h.ctor d hd c hc
 unfold ctorOk at this
 simp only [Bool.and_eq_true, Bool.not_eq_true', List.any_eq_false, Bool.not_eq_true, Bool.not_eq_false] at this
 exact argOk_in (by have := this.2.2.2 t ht; simpa using this)⟩
theorem spec_tv (w : List Data) (t : Ty) : (specWorldValid w && (argOk w.length t && decide (0 ≤ t.index))) = typeValid w t := by
 rw [specWorldValid_eq]
 unfold typeValid
 congr 1
 rw [Bool.eq_iff_iff]
 unfold argOk typeOk within
 simp
 omega
end Go.Proofs.YtdgknigklgnefaaGreat
namespace Go.Proofs.YtdgknigklgnefaaGreat
open Go
set_option linter.unusedSimpArgs false
set_option linter.unusedVariables false
set_option maxRecDepth 100000
set_option maxHeartbeats 2000000
theorem drop_nth {α : Type} [Inhabited α] {l : List α} {i : Nat} (h : i < l.length) : l.drop i = nth l i :: l.drop (i + 1) := by
 rw [nth_eq h]; exact List.drop_eq_getElem_cons h
def all2 {α β : Type} (f : α → β → Bool) : List α → List β → Bool
 | [], [] => true
 | a :: r, b :: s => f a b && all2 f r s
 | _, _ => false
theorem all2_len {α β : Type} {f : α → β → Bool} : ∀ {a : List α} {b : List β}, a.length ≠ b.length → all2 f a b = false
 | [], [], h => by simp at h
 | [], _ :: _, _ => rfl
 | _ :: _, [], _ => rfl
 | x :: r, y :: s, h => by simp [all2, all2_len (a := r) (b := s) (by simpa using h)]
theorem all2_nth_false {α β : Type} [Inhabited α] [Inhabited β] {f : α → β → Bool} {a : List α} {b : List β} {i : Nat} (h : i < a.length) (hl : a.length = b.length) (h2 : f (nth a i) (nth b i) = false) : all2 f a b = false := by
 induction i generalizing a b with
 | zero =>
  cases a with
  | nil => simp at h
  | cons x r =>
   cases b with
   | nil => simp [all2]
   | cons y s => simp [nth] at h2; simp [all2, h2]
 | succ i ih =>
  cases a with
  | nil => simp at h
  | cons x r =>
   cases b with
   | nil => simp [all2]
   | cons y s => simp only [all2]; rw [ih (a := r) (b := s) (by simpa using h) (by simpa using hl) (by simpa [nth] using h2)]; simp
theorem all2_nth_true {α β : Type} [Inhabited α] [Inhabited β] {f : α → β → Bool} {a : List α} {b : List β} (hl : a.length = b.length) (h : ∀ i, i < a.length → f (nth a i) (nth b i) = true) : all2 f a b = true := by
 induction a generalizing b with
 | nil => cases b with
  | nil => simp [all2]
  | cons y s => simp at hl
 | cons x r ih => cases b with
  | nil => simp at hl
  | cons y s =>
   have h0 := h 0 (by simp)
   simp only [all2]
   rw [ih (by simpa using hl) (fun i hi => by simpa [nth] using h (i + 1) (by simpa using hi))]
   simpa [nth] using h0
def idxI (l : List Int) (v : Int) : Int := idxF (fun x => decide (v = x)) l 0
theorem slices_Index_int_fn {l : List Int} {v : Int} (h : l.length ≤ 1000000000000) : FnD Tryz.prog 238 [.d (encInts l), .d (.i v)] [] (.d (.i (idxI l v))) [] := by
 refine bd Tryz.f238 19 [] [] fun w0 F0 own kept hk => ?_
 refine CWp.loopX (ι := List (Int) × List (Int)) hk (fun x => [(8, .d (.i (x.1.length : Int)))]) [4, 5, 9, 10, 11, 12, 13, 14, 15, 16, 17, 18] (fun x => []) (fun x => x.1 ++ x.2 = l ∧ idxF (fun x => decide (v = x)) x.2 x.1.length = idxF (fun x => decide (v = x)) l 0) (fun x => x.2.length) ([], l) ⟨by simp, rfl⟩ ⟨⟨_, rfl, (LeA.eqi (by first | rfl | (simp; done) | (simp_all; done) | omega))⟩, trivial⟩ trivial (fun x => rfl) (fun x hg1 => ?_)
 obtain ⟨pre, rest⟩ := x
 dsimp only at hg1 ⊢
 refine evc [] [] ?_
 refine sq (fun h1 h1p h1s => ?_) fun h1 h1p h1s => ?_
 ·try simp only [Q] at h1p
  rcases rest with _ | ⟨y, rest⟩
  ·exfalso; simp_all
  refine Walk.idx sl54 .none rfl rfl rfl rfl (zip_at hg1.1) rfl ?_
  refine ev ?_
  refine sq (fun h2 h2p h2s => ?_) fun h2 h2p h2s => ?_
  ·try simp only [Q] at h2p
   refine rn0 (r1 rfl) (.eqd ?_)
   all_goals (unfold idxI; rw [← hg1.2]; simp [idxF, h1s, h1p, h2s, h2p])
  ·try simp only [Q] at h2p
   refine ar ?_
   refine Exists.intro ((pre ++ [y], rest)) ⟨⟨(by have hz := hg1.1; rw [← hz]; simp), (by rw [← hg1.2]; simp [idxF, h2p])⟩, (by simp), Sub.x (by kernel_rfl) (by kernel_rfl) ⟨⟨_, rfl, (LeA.eqi (by first | rfl | (simp; done) | (simp_all; done) | omega))⟩, trivial⟩ (by kernel_rfl) (by kernel_rfl) trivial⟩
 ·try simp only [Q] at h1p
  have hrest : rest = [] := by
   rcases rest with _ | ⟨a, b⟩
   ·rfl
   ·exfalso; have hz := congrArg List.length (hg1.1); simp only [List.length_append, List.length_cons, List.length_map] at hz; omega
  subst hrest
  refine rn0 (r1 rfl) (.eqd ?_)
  all_goals (unfold idxI; rw [← hg1.2]; simp [idxF, h1s, h1p])
theorem slices_Contains_int_fn {l : List Int} {v : Int} (h : l.length ≤ 1000000000000) : FnD Tryz.prog 169 [.d (encInts l), .d (.i v)] [] (.d (.bool (decide (v ∈ l)))) [] := by
 refine bd Tryz.f169 9 [] [] fun w0 F0 own kept hk => ?_
 refine Walk.call (cr := []) cal238 (slices_Index_int_fn h) rfl .none rfl rfl (LeL.refl _) trivial rfl rfl rfl ?_
 refine ev ?_
 refine rn0 (r1 rfl) (.eqd ?_)
 all_goals (refine congrArg D.bool ?_; rw [show idxI l v = idxF (fun x => decide (v = x)) l 0 from rfl, idxF_any]; simp [List.any_eq, eq_comm])
theorem spec_l1Has_fn {l : List Int} {v : Int} (h : l.length ≤ 1000000000000) : FnD Tryz.prog 149 [.d (encInts l), .d (.i v)] [] (.d (.bool (decide (v ∈ l)))) [] := by
 refine bd Tryz.f149 18 [] [] fun w0 F0 own kept hk => ?_
 refine CWp.loopX (ι := List (Int) × List (Int)) hk (fun x => [(5, .d (.i (x.1.length : Int)))]) [4, 6, 7, 8, 9, 10, 11, 12, 13, 14, 15, 16, 17] (fun x => []) (fun x => x.1 ++ x.2 = l ∧ v ∉ x.1) (fun x => x.2.length) ([], l) ⟨by simp, by simp⟩ ⟨⟨_, rfl, (LeA.eqi (by first | rfl | (simp; done) | (simp_all; done) | omega))⟩, trivial⟩ trivial (fun x => rfl) (fun x hg1 => ?_)
 obtain ⟨pre, rest⟩ := x
 dsimp only at hg1 ⊢
 refine evc [] [] ?_
 refine sq (fun h1 h1p h1s => ?_) fun h1 h1p h1s => ?_
 ·try simp only [Q] at h1p
  rcases rest with _ | ⟨y, rest⟩
  ·exfalso; simp_all
  refine Walk.idx sl54 .none rfl rfl rfl rfl (zip_at hg1.1) rfl ?_
  refine ev ?_
  refine sq (fun h2 h2p h2s => ?_) fun h2 h2p h2s => ?_
  ·try simp only [Q] at h2p
   refine rn0 (r1 rfl) (.eqd ?_)
   all_goals (refine congrArg D.bool ?_; first | (symm; rw [decide_eq_true_eq, ← hg1.1]; simp [h1s, h1p, h2s, h2p]; done) | (symm; rw [decide_eq_false_iff_not, ← hg1.1]; intro hm; simp at hm; exact absurd hm (by simpa using hg1.2)))
  ·try simp only [Q] at h2p
   refine ar ?_
   refine Exists.intro ((pre ++ [y], rest)) ⟨⟨(by have hz := hg1.1; rw [← hz]; simp), (by have := hg1.2; simp [this, eq_comm]; omega)⟩, (by simp), Sub.x (by kernel_rfl) (by kernel_rfl) ⟨⟨_, rfl, (LeA.eqi (by first | rfl | (simp; done) | (simp_all; done) | omega))⟩, trivial⟩ (by kernel_rfl) (by kernel_rfl) trivial⟩
 ·try simp only [Q] at h1p
  have hrest : rest = [] := by
   rcases rest with _ | ⟨a, b⟩
   ·rfl
   ·exfalso; have hz := congrArg List.length (hg1.1); simp only [List.length_append, List.length_cons, List.length_map] at hz; omega
  subst hrest
  refine rn0 (r1 rfl) (.eqd ?_)
  all_goals (refine congrArg D.bool ?_; first | (symm; rw [decide_eq_true_eq, ← hg1.1]; simp [h1s, h1p]; done) | (symm; rw [decide_eq_false_iff_not, ← hg1.1]; intro hm; simp at hm; exact absurd hm (by simpa using hg1.2)))
def digit (n : Nat) : UInt8 := UInt8.ofNat (IntKind.u8.wrap (48 + (n : Int) % 10)).toNat
def digs (n : Nat) : Str := if n = 0 then [] else digs (n / 10) ++ [digit n]
def markStr (n : Nat) : Str := 109 :: digs n
def Ty.one (k : Int) (_ : Ty) : Ty := ⟨k, k + 1⟩
def Ty.sz (_ : Ty) : Int := 2
def Ctor.one (k : Int) (x : Ctor) : Ctor := ⟨markStr k.toNat, mkL Ty.one Ty.sz (k + 1) x.args, k + 1 + szL Ty.sz x.args⟩
def Ctor.sz (x : Ctor) : Int := 2 + szL Ty.sz x.args
def Data.one (k : Int) (x : Data) : Data := ⟨markStr k.toNat, mkL Ctor.one Ctor.sz (k + 1) x.ctors⟩
def Data.sz (x : Data) : Int := 1 + szL Ctor.sz x.ctors
theorem Ty.sz_nn (x : Ty) : 0 ≤ x.sz := by simp [Ty.sz]
theorem Ctor.sz_nn (x : Ctor) : 0 ≤ x.sz := by have := szL_nonneg (l := x.args) Ty.sz_nn; unfold Ctor.sz; omega
theorem Data.sz_nn (x : Data) : 0 ≤ x.sz := by have := szL_nonneg (l := x.ctors) Ctor.sz_nn; unfold Data.sz; omega
def ren (i j : Nat) : AV → AV
 | .ms a n => if a = i then .ms j n else .ms a n
 | x => x
theorem idxF_spec {α : Type} [Inhabited α] (p : α → Bool) : ∀ (l : List α) (i : Nat), (idxF p l i = -1 ∧ ∀ x ∈ l, p x = false) ∨ ∃ k : Nat, idxF p l i = ((i + k : Nat) : Int) ∧ k < l.length ∧ (l.take (k + 1)).filter (fun x => !p x) = l.take k
 | [], i => .inl ⟨rfl, by simp⟩
 | x :: r, i => by
  unfold idxF
  cases h : p x with
  | true => exact .inr ⟨0, by simp, by simp, by simp [h]⟩
  | false =>
   rcases idxF_spec p r (i + 1) with ⟨h1, h2⟩ | ⟨k, h1, h2, h3⟩
   ·exact .inl ⟨by simpa using h1, fun y hy => by rcases List.mem_cons.1 hy with rfl | hy; exact h; exact h2 y hy⟩
   ·refine .inr ⟨k + 1, by simp only [Bool.false_eq_true, if_false]; rw [h1]; congr 1; omega, by simpa using h2, ?_⟩
    simp only [List.take_succ_cons, List.filter_cons, h, Bool.not_false, if_true, List.cons.injEq, true_and]
    simpa using h3
theorem take_set_next {α : Type} [Inhabited α] {s : List α} {i : Nat} {t : α} (h : i < s.length) : (s.set i t).take (i + 1) = s.take i ++ [t] := by
 rw [List.set_eq_take_append_cons_drop, if_pos h, List.take_append, List.take_take]
 have : (s.take i).length = i := by simp; omega
 simp [this, Nat.min_eq_right]
theorem drop_set_next {α : Type} {s : List α} {i j : Nat} {t : α} (h : i ≤ j) : (s.set i t).drop (j + 1) = s.drop (j + 1) := by
 rw [List.drop_set, if_pos (by omega)]
theorem filter_take_next {α : Type} [Inhabited α] {p : α → Bool} {l : List α} {j : Nat} (h : j < l.length) : (l.take (j + 1)).filter p = (l.take j).filter p ++ (if p (nth l j) then [nth l j] else []) := by
 rw [List.take_add_one, List.getElem?_eq_getElem h, List.filter_append, nth_eq h]
 simp [List.filter_cons]
theorem nth_of_drop {α : Type} [Inhabited α] {s l : List α} {j : Nat} (h : s.drop j = l.drop j) (hl : s.length = l.length) (hj : j < l.length) : nth s j = nth l j := by
 have h1 := drop_nth (l := s) (i := j) (by omega)
 have h2 := drop_nth (l := l) (i := j) hj
 rw [h1, h2] at h
 exact (List.cons.inj h).1
theorem drop_more {α : Type} {s l : List α} {j : Nat} (h : s.drop j = l.drop j) : s.drop (j + 1) = l.drop (j + 1) := by
 have := congrArg (List.drop 1) h
 simpa [List.drop_drop, Nat.add_comm] using this
theorem valid_wt {w : List Data} (hs : WSmall w) (hv : worldValid w = true) : WT w := WV.wt hs ((worldValid_iff w).1 hv)
end Go.Proofs.YtdgknigklgnefaaGreat
namespace Go.Proofs.YtdgknigklgnefaaGreat
open Go
set_option linter.unusedSimpArgs false
set_option linter.unusedVariables false
section
variable {c : Ctx} {all : Array Oper} {chk : List Rec → Prop} {os : List Oper} {recs : List Rec} {env : Env} {hp : Hp} {Q : St → Prop}
variable {ty : Nat} {pos : String} {af : Array Edge} {g : Option (Nat × Bool)} {pg : List (Nat × AV)} {t : TypeId} {x : Operand}
theorem Walk.clearB {id off n k e yb : Nat} {cs cs' zs : List AV} (ht : SlT c.P t e k yb) (hz : TyZ c.P e k zs) (hzk : zs.length = k) (hk : 0 < k) (h1 : allOne zs = true) (hg : GH all env g pg) (hx : opd env x = some (.mo id off n))
  (hb : getH hp id = some (.box cs)) (hput : putC cs off (zerosA n zs) = some cs')
  (hn : Walk c all chk os (mkRec (pg ++ opF x (.mo id off n)) [(id, .box cs)] [] ⟨none, [(id, some (.box cs'))]⟩ :: recs) ⟨env, (id, some (.box cs')) :: hp⟩ Q) :
  Walk c all chk (⟨none, .call ⟨.builtin .clear, #[x], #[t]⟩, ty, pos, af, g⟩ :: os) recs ⟨env, hp⟩ Q := by
 refine ⟨pg ++ opF x (.mo id off n), [(id, .box cs)], [], _, ?_, facts_append hg.facts (opF_holds hx), hh1 hb, by simp, hn⟩
 intro s a w hrel hp' hh _ K Q' hK
 obtain ⟨G, hr⟩ := hrel
 have hbx := hh1' hh
 have e1 := hr.opd (opd_facts hx (fun p hm => hp' p (by simp [hm])))
 obtain ⟨bl, o, cap, hl, he, hcap, ho⟩ := e1.mo_eq
 obtain ⟨b', us, et, h2, h3, h4, h5, h6⟩ := hr.heap id _ hbx
 obtain rfl := head_one hl.1 h2
 have hall : PreR G (tokf s.hp) w cs us := ⟨h4, h6⟩
 unfold wpO
 rw [if_pos (hg.gf.wanted hr (fun p hm => hp' p (by simp [hm])))]
 unfold Oper.wp
 rcases Nat.eq_zero_or_pos n with hn0 | hn0
 ·subst hn0
  have hcs : cs' = cs := by
   simp only [zerosA] at hput
   cases cs <;> simp only [putC, Option.some.injEq] at hput <;> exact hput.symm
  subst hcs
  have hrun : (execOp a.eval ⟨none, .call ⟨.builtin .clear, #[x], #[t]⟩, ty, pos, af, g⟩).run c.P w = .ok (.value (.tuple #[])) w := by
   simp [execOp, resolve, invoke, builtin, he, Builtin.clear_, run_underlying ht.und]
  rw [hrun, Oper.upon_value]
  refine hK _ _ ⟨G, ?_⟩
  have hsame : ∀ i, getH ((id, some (Res.box cs')) :: s.hp) i = getH s.hp i := fun i => by
   rw [getH_cons]
   split
   ·rename_i e; subst e; exact hbx.symm
   ·rfl
  have htk : tokf ((id, some (Res.box cs')) :: s.hp) = tokf s.hp := by funext i; unfold tokf; rw [hsame]
  have : R c G ⟨s.env, (id, some (Res.box cs')) :: s.hp⟩ a w :=
   ⟨hr.size, hr.defers, fun i v h => by rw [htk]; exact hr.slots i v h, fun i r h => by rw [htk]; exact hr.heap i r (by rw [← hsame]; exact h),
   fun i j h1 h2 => hr.disj i j (by rw [← hsame]; exact h1) (by rw [← hsame]; exact h2), fun i h => hr.new i (by rw [← hsame]; exact h), hr.frm, hr.top,
   fun i l h' => by
    show (G.loc i).head? = l.head? ∧ (getH ((id, some (Res.box cs')) :: s.hp) i).isSome ∧ tokf ((id, some (Res.box cs')) :: s.hp) i = none
    rw [hsame, htk]; exact hr.kept i l h'⟩
  exact this.putNone
 ·obtain rfl : o = off := ho.resolve_left (by omega)
  obtain ⟨ie, z, z1, z2, z3, z4⟩ := hz.inf
  have hz0 := constAVs_rel (G := G) (T := tokf s.hp) (w := w) z4
  have hzr := zeros_rel (by simpa using hz0) n (by omega)
  have hzs : z.cells.size = k := by have := hz0.size; simp at this; omega
  let vl : List Value := (Builtin.zeroCells z.cells n).toList
  have hvl : vl.toArray = (Array.range (n * zs.length)).map (z.cells[· % z.cells.size]!) := by
   simp only [vl, Builtin.zeroCells, Array.toArray_toList]
   rw [hzs, hzk]
  have hvr : AllR G (tokf s.hp) w (zerosA n zs) vl.toArray := by rw [hvl]; exact hzr
  have hne : zerosA n zs ≠ [] := fun h => by
   have := congrArg List.length h
   rw [zerosA_len] at this
   have h2 : 0 < n * zs.length := Nat.mul_pos hn0 (by omega)
   simp only [List.length_nil] at this
   omega
  obtain ⟨p1, p2, p3⟩ := putC_spec hput
  have p2' := p2.resolve_left hne
  have hsz := hvr.size
  have hsv : vl.toArray.size = vl.length := by simp only [List.size_toArray]
  simp only [List.size_toArray] at hsz
  have hzone : ∀ i (hi : i < zs.length) (hv : i < z.cells.size), z.cells[i].oneCell' = true := fun i hi hv => by
   have := hz0.rel i hi (by simpa using hv)
   simp only [List.getElem_toArray, Array.getElem_toList] at this
   exact this.one (allOne_iff h1 _ (List.getElem_mem hi))
  have hst := run_storeCells_at c.P bl o et vl 0 us w h3 (by omega) (fun u hu => by
   simp only [vl, Builtin.zeroCells, Array.toList_map, List.mem_map] at hu
   obtain ⟨i, _, rfl⟩ := hu
   have hm : i % z.cells.size < z.cells.size := Nat.mod_lt _ (by omega)
   rw [getElem!_pos z.cells _ hm]
   exact hzone _ (by omega) hm)
  simp only [Nat.add_zero] at hst
  have hrow : PreR G (tokf s.hp) w cs' (us.toList.take o ++ vl ++ us.toList.drop (o + vl.length)).toArray := by
   refine hall.put hvr hput ?_ (fun i => ?_)
   ·simp only [List.size_toArray, List.length_append, List.length_take, List.length_drop, Array.length_toList]; omega
   ·simp only [List.getElem?_toArray]
    rw [List.append_assoc, List.getElem?_append]
    simp only [List.length_take, Array.length_toList]
    by_cases hi : i < o
    ·rw [if_pos (by omega), if_neg (by omega)]
     simp [hi]
    ·rw [if_neg (by omega), List.getElem?_append]
     have hm : min o us.size = o := by omega
     rw [hm]
     by_cases hi2 : i < o + vl.length
     ·rw [if_pos (by omega), if_pos (by omega)]
     ·rw [if_neg (by omega), if_neg (by omega)]
      rw [List.getElem?_drop, show o + vl.length + (i - o - vl.length) = i by omega]
      simp
  have hrun : (execOp a.eval ⟨none, .call ⟨.builtin .clear, #[x], #[t]⟩, ty, pos, af, g⟩).run c.P w = .ok (.value (.tuple #[])) (w.setRow bl (us.toList.take o ++ vl ++ us.toList.drop (o + vl.length)).toArray) := by
   obtain ⟨m, rfl⟩ : ∃ m, n = m + 1 := ⟨n - 1, by omega⟩
   have hzv : (zeroValue e).run c.P w = .ok z w := run_zero z1 z3
   simp only [vl] at hst
   simp [execOp, resolve, invoke, builtin, he, Builtin.clear_, run_underlying ht.und, hzv, hst, vl]
  rw [hrun, Oper.upon_value]
  exact hK _ _ ⟨G, (hr.setBox hbx h2 h3 h5 hrow).putNone⟩
end
theorem frz_slX {G G' : Gh} {T T' : TokF} {w : World} {id n k b : Nat} {us : Array Value} {e : TypeId} {x : Value} {cs : List AV} {es : List (List D)} (hx : RelA G T w (.ms id n) x) (h1 : G.loc id = [b]) (h2 : w.heap[b]? = some (.cells us e (0, 0))) (h3 : cs.length ≤ us.size)
  (h5 : ∀ i (hi : i < cs.length) (hv : i < us.size), RelA G T w cs[i] us[i]) (hFb : G'.F b = us.size) (hcell : ∀ y o, o < G.F y → o < G'.F y ∧ w.cell? ⟨y, o, none⟩ = w.cell? ⟨y, o, none⟩) (hc : chunkD n k (cs.take (n * k)) = some es) : RelA G' T' w (.d (.sl es)) x := by
 obtain ⟨c1, c2, c3, c4⟩ := chunkD_spec hc
 have c3' : n * k ≤ cs.length := by rw [List.length_take] at c3; omega
 obtain ⟨b', cap, hl, he, hcap⟩ := hx.ms_eq
 obtain rfl := (head_one hl.1 h1).symm
 rw [he]
 refine .d ?_
 have hn' : n = es.length := c1.symm
 rw [hn']
 refine .sl es k b 0 cap (fun x => us.getD x undef) c2 (by omega) (fun x hx => ?_) (fun i hi j hj => ?_)
 ·have h3' : x < cs.length := by rw [← c1] at c3'; omega
  have hxs : x < us.size := Nat.lt_of_lt_of_le h3' h3
  refine ⟨by rw [hFb]; omega, ?_⟩
  simp [World.cell?, h2, hxs]
 ·have hjk : j < k := by rw [← c2 _ (List.getElem_mem hi)]; exact hj
  have hltn : i * k + j < n * k := by
   rw [← c1]
   have : (i + 1) * k ≤ es.length * k := Nat.mul_le_mul_right _ (by omega)
   rw [Nat.add_mul] at this
   omega
  have hlt : i * k + j < cs.length := by omega
  have hlu : i * k + j < us.size := by omega
  have h8 := c4 i hi j hj (by rw [List.length_take]; omega)
  rw [List.getElem_take] at h8
  have h6 := (h5 _ hlt hlu).toD h8
  have h7 : us.getD (i * k + j) undef = us[i * k + j] := by simp [Array.getD, hlu]
  rw [h7]
  exact h6.mono hcell
def freshS (env : Env) (hp : Hp) (j : Nat) : Bool :=
 (match getH hp j with | none => true | some _ => false) && (env.all fun x => match getE env x.1 with | some v => !elemB j v.ids | none => true) && (hp.all fun x => match getH hp x.1 with | some r => !elemB j r.ids | none => true)
theorem getE_key : ∀ {env : Env} {i : Nat} {v : AV}, getE env i = some v → ∃ u, (i, u) ∈ env
 | (k, x) :: r, i, v, h => by
  simp only [getE] at h
  cases hb : Nat.beq k i with
  | true => obtain rfl := Nat.eq_of_beq_eq_true hb; exact ⟨x, by simp⟩
  | false =>
   simp only [hb, cond_false] at h
   obtain ⟨u, hu⟩ := getE_key h
   exact ⟨u, List.mem_cons_of_mem _ hu⟩
theorem freshS_spec {env : Env} {hp : Hp} {j : Nat} (h : freshS env hp j = true) : getH hp j = none ∧ noOcc j ⟨env, hp⟩ := by
 simp only [freshS, Bool.and_eq_true, List.all_eq_true] at h
 obtain ⟨⟨h1, h2⟩, h3⟩ := h
 refine ⟨?_, fun i v hv hm => ?_, fun i r hr hm => ?_⟩
 ·cases hg : getH hp j with
  | none => rfl
  | some x => simp [hg] at h1
 ·obtain ⟨u, hu⟩ := getE_key hv
  have := h2 _ hu
  rw [show getE env (i, u).1 = some v from hv] at this
  change (!elemB j v.ids) = true at this
  rw [elemB_iff.2 hm] at this
  cases this
 ·obtain ⟨u, hu⟩ := getH_key hr
  have := h3 _ hu
  rw [show getH hp (i, u).1 = some r from hr] at this
  change (!elemB j r.ids) = true at this
  rw [elemB_iff.2 hm] at this
  cases this
theorem CWp.tokDrop {c : Ctx} {env : Env} {hp : Hp} {K : Kt} {code : Code} (t i : Nat) {n k : Nat} {xs : List (List D)} (ht : getE env t = some (.gl i xs)) (hi : getH hp i = some (.tok n k))
  (hn : CWp c code ⟨(t, .d (.sl xs)) :: env, (i, none) :: hp⟩ K) : CWp c code ⟨env, hp⟩ K := by
 rintro a w ⟨G, hr⟩
 have g1 : ∀ x, x ≠ i → getH ((i, none) :: hp) x = getH hp x := fun x h1 => by rw [getH_cons, if_neg h1]
 have gi : getH ((i, none) :: hp) i = none := by rw [getH_cons, if_pos rfl]
 have Ti : tokf hp i = some (n, k) := tokf_some.2 hi
 have Ti' : tokf ((i, none) :: hp) i = none := by unfold tokf; rw [gi]
 have hT : Turn c G ⟨env, hp⟩ w G ((i, none) :: hp) [i] := by
  refine ⟨fun x hx => ?_, fun x hx => rfl, fun b _ => rfl, fun b o ho => ho, hr.top, fun x hx => ?_, fun x hx hs b hb => ?_, fun x hx y hy hxy h1 h2 b hb => ?_, fun x hx l hl => ?_⟩
  ·simp only [List.mem_cons, List.not_mem_nil, or_false] at hx
   exact g1 x hx
  ·simp only [List.mem_cons, List.not_mem_nil, or_false] at hx
   subst hx
   exact .inr ⟨.inl rfl, fun p hp' => by rw [Ti'] at hp'; cases hp'⟩
  ·simp only [List.mem_cons, List.not_mem_nil, or_false] at hx
   subst hx
   rw [gi] at hs; cases hs
  ·simp only [List.mem_cons, List.not_mem_nil, or_false] at hx hy
   exact absurd (hx.trans hy.symm) hxy
  ·have hk := hr.kept x l hl
   simp only [List.mem_cons, List.not_mem_nil, or_false] at hx
   subst hx
   have := hk.2.2
   rw [show tokf (St.mk env hp).hp x = some (n, k) from Ti] at this; cases this
 have hR := hT.fin hr (fun x hx r hxr => by
  simp only [List.mem_cons, List.not_mem_nil, or_false] at hx
  subst hx
  rw [gi] at hxr; cases hxr)
 refine hn a w ⟨G, hR.slot ?_⟩
 have hs := hr.slots t _ ht
 cases hs with
 | gl h h2 => exact .d h
theorem R.tokMove {c : Ctx} {G : Gh} {s : St} {a : Act} {w : World} (hr : R c G s a w) (i j : Nat) {n k : Nat} (m : Nat) (hi : getH s.hp i = some (.tok n k)) (h0 : getH s.hp j = none) (hocc : noOcc j s) :
  ∃ G' : Gh, R c G' ⟨s.env, (j, some (.tok m k)) :: (i, none) :: s.hp⟩ a w ∧ G'.F = G.F ∧ G'.loc j = G.loc i ∧ tokf ((j, some (Res.tok m k)) :: (i, none) :: s.hp) j = some (m, k) := by
 have hji : j ≠ i := fun e => by subst e; rw [h0] at hi; cases hi
 have g1 : ∀ x, x ≠ j → x ≠ i → getH ((j, some (Res.tok m k)) :: (i, none) :: s.hp) x = getH s.hp x := fun x h1 h2 => by
  rw [getH_cons, if_neg h1, getH_cons, if_neg h2]
 have gj : getH ((j, some (Res.tok m k)) :: (i, none) :: s.hp) j = some (.tok m k) := by rw [getH_cons, if_pos rfl]
 have gi : getH ((j, some (Res.tok m k)) :: (i, none) :: s.hp) i = none := by rw [getH_cons, if_neg (fun e => hji e.symm), getH_cons, if_pos rfl]
 have Ti : tokf s.hp i = some (n, k) := tokf_some.2 hi
 have Tj : tokf ((j, some (Res.tok m k)) :: (i, none) :: s.hp) j = some (m, k) := tokf_some.2 gj
 have Ti' : tokf ((j, some (Res.tok m k)) :: (i, none) :: s.hp) i = none := by unfold tokf; rw [gi]
 let G' : Gh := { G with loc := fun x => bif Nat.beq x j then G.loc i else G.loc x }
 have lj : G'.loc j = G.loc i := by simp [G']
 have lo : ∀ x, x ≠ j → G'.loc x = G.loc x := fun x h => by simp [G', beq_ne h]
 have hsi : (getH s.hp i).isSome := by rw [hi]; rfl
 have hT : Turn c G s w G' ((j, some (Res.tok m k)) :: (i, none) :: s.hp) [i, j] := by
  refine ⟨fun x hx => ?_, fun x hx => ?_, fun b _ => rfl, fun b o ho => ho, hr.top, fun x hx => ?_, fun x hx hs b hb => ?_, fun x hx y hy hxy h1 h2 b hb => ?_, fun x hx l hl => ?_⟩
  ·simp only [List.mem_cons, List.not_mem_nil, or_false, not_or] at hx
   exact g1 x hx.2 hx.1
  ·simp only [List.mem_cons, List.not_mem_nil, or_false, not_or] at hx
   exact lo x hx.2
  ·simp only [List.mem_cons, List.not_mem_nil, or_false] at hx
   rcases hx with rfl | rfl
   ·exact .inr ⟨.inl (lo _ (fun e => hji e.symm)), fun p hp' => by rw [Ti'] at hp'; cases hp'⟩
   ·exact .inl hocc
  ·simp only [List.mem_cons, List.not_mem_nil, or_false] at hx
   rcases hx with rfl | rfl
   ·rw [gi] at hs; cases hs
   ·exact ⟨i, by simp, hsi, by rw [lj] at hb; exact hb⟩
  ·simp only [List.mem_cons, List.not_mem_nil, or_false] at hx hy
   rcases hx with rfl | rfl
   ·rw [gi] at h1; cases h1
   ·rcases hy with rfl | rfl
    ·rw [gi] at h2; cases h2
    ·exact absurd rfl hxy
  ·have hk := hr.kept x l hl
   simp only [List.mem_cons, List.not_mem_nil, or_false] at hx
   rcases hx with rfl | rfl
   ·have := hk.2.2
    rw [Ti] at this; cases this
   ·have := hk.2.1
    rw [h0] at this; cases this
 have hR := hT.fin hr (fun x hx r hxr => by
  simp only [List.mem_cons, List.not_mem_nil, or_false] at hx
  rcases hx with rfl | rfl
  ·rw [gi] at hxr; cases hxr
  ·rw [gj] at hxr; cases hxr
   intro b hb
   rw [lj] at hb
   exact hr.heap i _ hi b hb)
 exact ⟨G', hR, rfl, lj, Tj⟩
theorem CWp.tokRen {c : Ctx} {env : Env} {hp : Hp} {K : Kt} {code : Code} (t i j : Nat) {n k : Nat} {xs : List (List D)} (ht : getE env t = some (.gl i xs)) (hi : getH hp i = some (.tok n k)) (hf : freshS env hp j = true)
  (hn : CWp c code ⟨(t, .gl j xs) :: env, (j, some (.tok n k)) :: (i, none) :: hp⟩ K) : CWp c code ⟨env, hp⟩ K := by
 rintro a w ⟨G, hr⟩
 obtain ⟨h0, hocc⟩ := freshS_spec hf
 have Ti : tokf hp i = some (n, k) := tokf_some.2 hi
 obtain ⟨G', hR, hF, lj, Tj⟩ := hr.tokMove i j n hi h0 hocc
 refine hn a w ⟨G', hR.slot ?_⟩
 have hs := hr.slots t _ ht
 cases hs with
 | gl h h2 =>
  refine .gl (by rw [hF]; exact h) (fun n' k' hT' => ?_)
  have hT2 : tokf ((j, some (Res.tok n k)) :: (i, none) :: hp) j = some (n', k') := hT'
  rw [Tj] at hT2
  cases hT2
  obtain ⟨q1, q2⟩ := h2 n k Ti
  refine ⟨q1, fun hn' => ⟨(q2 hn').1, ?_⟩⟩
  have := (q2 hn').2
  unfold Tip at this ⊢
  rw [lj, hF]
  exact this
section
variable {c : Ctx} {all : Array Oper} {chk : List Rec → Prop} {os : List Oper} {recs : List Rec} {env : Env} {hp : Hp} {Q : St → Prop}
variable {d ty : Nat} {pos : String} {af : Array Edge} {g : Option (Nat × Bool)} {pg : List (Nat × AV)} {t : TypeId} {x : Operand}
theorem Walk.cutV_h {id e k yb : Nat} (j : Nat) {xs : List (List D)} {o : Operand} {kd : IntKind} {n : Int} {b : Nat} (ht : SlT c.P t e k yb) (hg : GH all env g pg) (hd : Nat.blt d c.n = true)
  (hx : opd env x = some (.gv id xs)) (htok : getH hp id = some (.tok xs.length k)) (ho : opd env o = some (.d (.int kd n))) (hi : n = ↑b) (hb : b ≤ xs.length) (hpos : 0 < xs.length) (hf : freshB env hp [j] = true)
  (hn : Walk c all chk os (mkRec (pg ++ (opF x (.gv id xs) ++ opF o (.d (.int kd n)))) [(id, .tok xs.length k)] [j] ⟨some (d, .gv j (xs.take b)), [(j, some (.tok b k)), (id, none)]⟩ :: recs)
   ⟨(d, .gv j (xs.take b)) :: env, (j, some (.tok b k)) :: (id, none) :: hp⟩ Q) :
  Walk c all chk (⟨some d, .slice t x none (some o) none, ty, pos, af, g⟩ :: os) recs ⟨env, hp⟩ Q := by
 refine ⟨pg ++ (opF x (.gv id xs) ++ opF o (.d (.int kd n))), [(id, .tok xs.length k)], [j], _, ?_, facts_append hg.facts (facts_append (opF_holds hx) (opF_holds ho)), hh1 htok, freshB_spec hf, hn⟩
 intro s a w hrel hp' hh hcr K Q' hK
 obtain ⟨G, hr⟩ := hrel
 have e1 := hr.opd (opd_facts hx (fun p hm => hp' p (by simp [hm])))
 have e2 := hr.opd (opd_facts ho (fun p hm => hp' p (by simp [hm])))
 have htk := hh1' hh
 obtain ⟨h0, hocc⟩ := hcr j (by simp)
 obtain ⟨⟨ad, cap0, hv0⟩, hcl⟩ := e1.gv_inv
 have Ti : tokf s.hp id = some (xs.length, k) := tokf_some.2 htk
 obtain ⟨hkx, htip⟩ := (hcl _ _ Ti).2 rfl
 rcases htip with ⟨_, q2, _⟩ | ⟨bl, cap, cs, et, q1, q2, q3, q4, q5, q6, q7⟩
 ·omega
 obtain ⟨G', hR, hF, lj, Tj⟩ := hr.tokMove id j b htk h0 hocc
 unfold wpO
 rw [if_pos (hg.gf.wanted hr (fun p hm => hp' p (by simp [hm])))]
 unfold Oper.wp
 have hbd := run_bounds (P := c.P) (w := w) true xs.length cap (lo := none) (hi := some (.int kd b)) (a := 0) (b := b) (.inl ⟨rfl, rfl⟩) (.inr ⟨kd, rfl⟩) (Nat.zero_le _) (by omega)
 have hrun : (execOp a.eval ⟨some d, .slice t x none (some o) none, ty, pos, af, g⟩).run c.P w = .ok (.value (.slice (some ⟨bl, 0, none⟩) b cap)) w := by
  simp only [execOp, e2.int_eq, hi, q2, Option.map_none, Option.map_some, Instr.sliceAt, Sem.run_bind, run_underlying ht.und, Result.andThen_ok, Instr.slice, hbd, ht.run_size, Sem.run_pure, Nat.zero_mul, Nat.sub_zero, add_off, Nat.zero_add, ite_self]
 rw [hrun, Oper.upon_value]
 have hl : (xs.take b).length = b := by rw [List.length_take]; omega
 have hA : RelA G' (tokf ((j, some (Res.tok b k)) :: (id, none) :: s.hp)) w (.gv j (xs.take b)) (.slice (some ⟨bl, 0, none⟩) b cap) := by
  refine .gv ⟨some ⟨bl, 0, none⟩, cap, by rw [hl]⟩ (fun n' k' hT' => ?_)
  rw [Tj] at hT'
  cases hT'
  refine ⟨by omega, fun _ => ⟨fun y hy => hkx y (List.mem_of_mem_take hy), .inr ⟨bl, cap, cs, et, by rw [lj]; exact q1, rfl, by rw [hF]; exact q3, q4, q5, by omega, fun i hi' jj hj' => ?_⟩⟩⟩
  have hix : i < xs.length := by rw [hl] at hi'; omega
  have h9 := q7 i hix jj (by simpa [List.getElem_take] using hj')
  rw [hF]
  simpa [List.getElem_take] using h9
 exact hK _ _ ⟨G', hR.put hA hd⟩
end
theorem FnD.glD {P : Program} {f : FuncId} {i n k : Nat} {args : List AV} {xs : List (List D)} (h : FnD P f args [] (.gl i xs) [(i, some (.tok n k))]) : FnD P f args [] (.d (.sl xs)) [] := by
 intro G w vals hok
 refine (h G w vals hok).mono ?_
 rintro e w' ⟨v, r', hp', G', rfl, ⟨rfl, rfl⟩, hret⟩
 refine ⟨v, _, _, G', rfl, ⟨rfl, rfl⟩, ?_, fun id x hx => (by cases hx), fun id id' h1 => (by cases h1), fun id h1 => (by cases h1), hret.frm, hret.top, fun id hi => (by simp [isBox, getH] at hi)⟩
 have := hret.res
 cases this with
 | gl h1 h2 => exact .d h1
theorem FnD.gvRen {P : Program} {f : FuncId} {i k : Nat} (j : Nat) {args : List AV} {xs : List (List D)} (h : FnD P f args [] (.gv i xs) [(i, some (.tok xs.length k))]) : FnD P f args [] (.gv j xs) [(j, some (.tok xs.length k))] := by
 intro G w vals hok
 refine (h G w vals hok).mono ?_
 rintro e w' ⟨v, r', hp', G', rfl, ⟨rfl, rfl⟩, hret⟩
 have gi : getH ([(i, some (Res.tok xs.length k))] ++ []) i = some (.tok xs.length k) := by simp [getH]
 have gj : ∀ x, (getH ([(j, some (Res.tok xs.length k))] ++ []) x).isSome → x = j := fun x hx => by
  by_cases e : j = x
  ·exact e.symm
  ·simp [getH, beq_ne e] at hx
 have Ti : tokf ([(i, some (Res.tok xs.length k))] ++ []) i = some (xs.length, k) := tokf_some.2 gi
 let G2 : Gh := { G' with loc := fun x => G'.loc i }
 refine ⟨v, _, _, G2, rfl, ⟨rfl, rfl⟩, ?_, fun id x hx => ?_, fun id id' h1 h2 hne => absurd ((gj id h1).trans (gj id' h2).symm) hne, fun id h1 b hb => hret.new i (by rw [gi]; rfl) b hb, hret.frm, hret.top, fun id hi => (by simp [isBox, getH] at hi)⟩
 ·have := hret.res
  cases this with
  | gv hv h2 =>
   refine .gv hv (fun n' k' hT' => ?_)
   have hT2 := tokf_some.1 hT'
   have e1 : Res.tok xs.length k = Res.tok n' k' := by simp [getH] at hT2; rw [hT2.1, hT2.2]
   cases e1
   obtain ⟨q1, q2⟩ := h2 _ _ Ti
   refine ⟨q1, fun hn' => ⟨(q2 hn').1, ?_⟩⟩
   have := (q2 hn').2
   unfold TipV at this ⊢
   exact this
 ·have e1 := gj id (by rw [hx]; rfl)
  subst e1
  have e2 : x = Res.tok xs.length k := by simp [getH] at hx; exact hx.symm
  subst e2
  intro b hb
  exact hret.heap i _ gi b hb
theorem FnD.gvD {P : Program} {f : FuncId} {i k : Nat} {args : List AV} {xs : List (List D)} (h : FnD P f args [] (.gv i xs) [(i, some (.tok xs.length k))]) : FnD P f args [] (.d (.sl xs)) [] := by
 intro G w vals hok
 refine (h G w vals hok).mono ?_
 rintro e w' ⟨v, r', hp', G', rfl, ⟨rfl, rfl⟩, hret⟩
 have gi : getH ([(i, some (Res.tok xs.length k))] ++ []) i = some (.tok xs.length k) := by simp [getH]
 have Ti : tokf ([(i, some (Res.tok xs.length k))] ++ []) i = some (xs.length, k) := tokf_some.2 gi
 have hown : ∀ b, b ∉ ownedL G [] := fun b hb => by simp [ownedL] at hb
 have hnew : ∀ b, b ∈ G'.loc i → w.heap.size ≤ b := fun b hb => (hret.new i (by rw [gi]; rfl) b hb).resolve_left (hown b)
 have hlt : ∀ b, b ∈ G'.loc i → b < w'.heap.size := hret.heap i _ gi
 have hres := hret.res
 obtain ⟨hv, hcl⟩ := hres.gv_inv
 obtain ⟨hkx, htip⟩ := (hcl _ _ Ti).2 rfl
 rcases htip with ⟨_, q2, q3⟩ | ⟨bl, cap, cs, et, q1, q2, q3, q4, q5, q6, q7⟩
 ·have hxs : xs = [] := List.eq_nil_of_length_eq_zero q2
  subst hxs
  refine ⟨v, _, _, G', rfl, ⟨rfl, rfl⟩, ?_, fun id x hx => (by cases hx), fun id id' h1 => (by cases h1), fun id h1 => (by cases h1), hret.frm, hret.top, fun id hi => (by simp [isBox, getH] at hi)⟩
  rw [q3]; exact .d .nil
 ·let G2 : Gh := { G' with F := fun x => bif Nat.beq x bl then cs.size else G'.F x }
  have hin : G2.F bl = cs.size := by simp [G2]
  have hout : ∀ x, x ≠ bl → G2.F x = G'.F x := fun x hx => by simp [G2, beq_ne hx]
  have hbl : bl ∈ G'.loc i := by rw [q1]; simp
  have hle : ∀ b o, o < G'.F b → o < G2.F b := fun x o ho => by
   by_cases hx : x = bl
   ·subst hx; rw [q3] at ho; omega
   ·rw [hout x hx]; exact ho
  refine ⟨v, _, _, G2, rfl, ⟨rfl, rfl⟩, ?_, fun id x hx => (by cases hx), fun id id' h1 => (by cases h1), fun id h1 => (by cases h1), ?_, fun x hx => ?_, fun id hi => (by simp [isBox, getH] at hi)⟩
  ·rw [q2]
   have hsz : xs.length * k ≤ cs.size := Nat.le_trans (Nat.mul_le_mul_right _ q6) q5
   refine .d (.sl xs k bl 0 cap (fun n => cs.getD n undef) hkx q6 (fun q hq => ⟨by rw [hin]; omega, ?_⟩) (fun q hq jj hj => ?_))
   ·have : q < cs.size := by omega
    simp [World.cell?, q4, this]
   ·exact (q7 q hq jj hj).mono (fun b o ho => ⟨hle b o ho, rfl⟩)
  ·have hf := hret.frm
   exact ⟨hf.os, hf.tape, hf.output, hf.size, fun x hx hn => ⟨(hf.block x hx hn).1, by
    rw [hout x (fun e => by subst e; have := hnew x hbl; omega)]; exact (hf.block x hx hn).2⟩, fun x o ho => ⟨hle x o (hf.cell x o ho).1, (hf.cell x o ho).2⟩⟩
  ·by_cases hx' : x = bl
   ·subst hx'; have := hlt x hbl; omega
   ·rw [hout x hx']; exact hret.top x hx
theorem zerosA_at {zs : List AV} : ∀ {n i j : Nat}, i < n → j < zs.length → (zerosA n zs)[i * zs.length + j]? = zs[j]?
 | n + 1, 0, j, _, hj => by
  simp only [zerosA, Nat.zero_mul, Nat.zero_add]
  rw [List.getElem?_append_left hj]
 | n + 1, i + 1, j, hi, hj => by
  simp only [zerosA]
  rw [List.getElem?_append_right (by rw [Nat.add_mul]; omega), show (i + 1) * zs.length + j - zs.length = i * zs.length + j by rw [Nat.add_mul]; omega]
  exact zerosA_at (by omega) hj
section
variable {c : Ctx}
theorem R.freshV {G : Gh} {s : St} {a : Act} {w : World} (hr : R c G s a w) {id k nc : Nat} {es : List (List D)} {cells : Array Value} {e : TypeId} (htok : getH s.hp id = some (.tok 0 k)) (hpos : 0 < es.length)
  (hk : ∀ x, x ∈ es → x.length = k) (hcs : cells.size = nc * k) (hn : es.length ≤ nc)
  (hrow : ∀ i (hi : i < es.length) j (hj : j < es[i].length), RelD G.F w es[i][j] (cells.getD (i * k + j) undef)) :
  ∃ G', R c G' { s with hp := (id, some (.tok es.length k)) :: s.hp } a (w.drew.alloc (.cells cells e)) ∧
   RelA G' (tokf ((id, some (.tok es.length k)) :: s.hp)) (w.drew.alloc (.cells cells e)) (.gv id es) (.slice (some ⟨w.heap.size, 0, none⟩) es.length nc) := by
 let G' : Gh := { F := G.F, loc := fun j => bif Nat.beq j id then [w.heap.size] else G.loc j }
 have hlt : ∀ b o, o < G.F b → b < w.heap.size := fun b o ho => by
  rcases Nat.lt_or_ge b w.heap.size with h | h
  ·exact h
  ·rw [hr.top b h] at ho; omega
 have hcell : ∀ b o, o < G.F b → o < G'.F b ∧ (w.drew.alloc (.cells cells e)).cell? ⟨b, o, none⟩ = w.cell? ⟨b, o, none⟩ := fun b o ho => by
  have hb := hlt b o ho
  exact ⟨ho, by rw [World.cell?_alloc_lt w.drew _ _ hb]; rfl⟩
 have hlocne : ∀ j, j ≠ id → G'.loc j = G.loc j := fun j hj => by
  have : Nat.beq j id = false := by
   cases h : Nat.beq j id with
   | true => exact absurd (Nat.eq_of_beq_eq_true h) hj
   | false => rfl
  simp [G', this]
 have hlocid : G'.loc id = [w.heap.size] := by simp [G']
 have hT' : tokf ((id, some (.tok es.length k)) :: s.hp) id = some (es.length, k) := tokf_some.2 (by rw [getH_cons, if_pos rfl])
 refine ⟨G', hr.retok (G' := G') htok hpos hcell hlocne (fun b hb _ => ⟨alloc_block (w := w.drew) hb, rfl⟩) (fun b hb => by rw [hlocid] at hb; simp at hb; subst hb; simp)
  (fun b hb => by rw [hlocid] at hb; simp at hb; exact .inr (by omega)) rfl rfl rfl (by simp) (fun b hb => ?_), ?_⟩
 ·have hb' : w.heap.size + 1 ≤ b := by simpa using hb
  exact hr.top b (by omega)
 refine .gv ⟨_, _, rfl⟩ (fun n' k' hm' => ?_)
 rw [hT'] at hm'
 cases hm'
 exact ⟨Nat.le_refl _, fun _ => ⟨hk, .inr ⟨w.heap.size, nc, cells, e, hlocid, rfl, hr.top _ (Nat.le_refl _), alloc_at (w := w.drew), by rw [hcs]; exact Nat.le_refl _, hn, fun i hi j hj => (hrow i hi j hj).mono hcell⟩⟩⟩
end
section
variable {c : Ctx} {all : Array Oper} {chk : List Rec → Prop} {os : List Oper} {recs : List Rec} {env : Env} {hp : Hp} {Q : St → Prop}
variable {d ty : Nat} {pos : String} {af : Array Edge} {g : Option (Nat × Bool)} {pg : List (Nat × AV)} {t : TypeId} {x y : Operand}
theorem RelA.nils_eq {G : Gh} {T : TokF} {w : World} {v : Value} (h : RelA G T w .nils v) : v = .slice none 0 0 := by cases h; rfl
theorem Walk.capN {at_ e k yb : Nat} (ht : SlT c.P at_ e k yb) (hg : GH all env g pg) (hd : Nat.blt d c.n = true) (hx : opd env x = some .nils)
  (hn : Walk c all chk os (mkRec (pg ++ opF x .nils) [] [] ⟨some (d, .d (.i 0)), []⟩ :: recs) ⟨(d, .d (.i 0)) :: env, hp⟩ Q) :
  Walk c all chk (⟨some d, .call ⟨.builtin .cap, #[x], #[at_]⟩, ty, pos, af, g⟩ :: os) recs ⟨env, hp⟩ Q :=
 Walk.pure1 hg hd hx (fun a G T w h => ⟨.int .i64 (0 : Nat), by
  simp [execOp, resolve, invoke, builtin, h.nils_eq, Builtin.cap_, run_underlying ht.und, goInt], .d (.int _ _)⟩) hn
theorem Walk.cutN_h {e k yb : Nat} {o : Operand} {kd : IntKind} (ht : SlT c.P t e k yb) (hg : GH all env g pg) (hd : Nat.blt d c.n = true)
  (hx : opd env x = some .nils) (ho : opd env o = some (.d (.int kd 0)))
  (hn : Walk c all chk os (mkRec (pg ++ (opF x .nils ++ opF o (.d (.int kd 0)))) [] [] ⟨some (d, .nils), []⟩ :: recs) ⟨(d, .nils) :: env, hp⟩ Q) :
  Walk c all chk (⟨some d, .slice t x none (some o) none, ty, pos, af, g⟩ :: os) recs ⟨env, hp⟩ Q := by
 refine Walk.pure2 hg hd hx ho (fun a G T w h1 h2 => ⟨.slice none 0 0, ?_, .nils⟩) hn
 have hbd := run_bounds (P := c.P) (w := w) true 0 0 (lo := none) (hi := some (.int kd (0 : Nat))) (a := 0) (b := 0) (.inl ⟨rfl, rfl⟩) (.inr ⟨kd, rfl⟩) (Nat.le_refl _) (Nat.le_refl _)
 have e2 : a.eval o = .int kd ((0 : Nat) : Int) := h2.int_eq
 simp only [execOp, e2, h1.nils_eq, Option.map_none, Option.map_some, Instr.sliceAt, Sem.run_bind, run_underlying ht.und, Result.andThen_ok, Instr.slice, hbd, ht.run_size, Sem.run_pure, Nat.zero_mul, Nat.sub_zero, ite_self]
theorem Walk.growZ {e k yb n : Nat} (id : Nat) {zs : List AV} {zr : List D} {tn : TypeId} {kn : IntKind} {m : Int} (ht : SlT c.P t e k yb) (htn : c.P.underlying tn = some (.int kn)) (hz : TyZ c.P e k zs) (hzk : zs.length = k) (hk : 0 < k) (hzr : toDL zs = some zr)
  (hg : GH all env g pg) (hd : Nat.blt d c.n = true) (hx : opd env x = some .nils) (hy : opd env y = some (.d (.i m))) (hm : m = ↑n) (hn0 : 0 < n) (hb : n * yb ≤ 281474976710656) (h63 : (n : Int) ≤ 9223372036854775807) (hf : freshB env hp [id] = true)
  (hn : Walk c all chk os (mkRec (pg ++ (opF x .nils ++ opF y (.d (.i m)))) [] [id] ⟨some (d, .gv id (List.replicate n zr)), [(id, some (.tok n k)), (id, some (.tok 0 k))]⟩ :: recs)
   ⟨(d, .gv id (List.replicate n zr)) :: env, (id, some (.tok n k)) :: (id, some (.tok 0 k)) :: hp⟩ Q) :
  Walk c all chk (⟨some d, .call ⟨.builtin .append, #[x, y], #[t, tn]⟩, ty, pos, af, g⟩ :: os) recs ⟨env, hp⟩ Q := by
 refine ⟨pg ++ (opF x .nils ++ opF y (.d (.i m))), [], [id], _, ?_, facts_append hg.facts (facts_append (opF_holds hx) (opF_holds hy)), by simp, freshB_spec hf, hn⟩
 intro s a w hrel hp' hh hcr K Q' hK
 obtain ⟨G, hr⟩ := hrel
 have e1 := (hr.opd (opd_facts hx (fun p hm => hp' p (by simp [hm])))).nils_eq
 have e2 := (hr.opd (opd_facts hy (fun p hm => hp' p (by simp [hm])))).int_eq
 obtain ⟨h0, hocc⟩ := hcr id (by simp)
 obtain ⟨G1, hr1, _⟩ := hr.mkTokV k h0 hocc
 obtain ⟨ie, hi1, hi2, hi3⟩ := ht.inf
 obtain ⟨i', z, z1, z2, z3, z4⟩ := hz.inf
 rw [hi1] at z1
 cases z1
 have hrun := Go.Lib.run_append_nil_zeros (P := c.P) w t tn ty e ie z .i64 kn ht.und htn hi1 z3 n hn0 (by omega) h63 (by rw [hi3]; exact hb)
 have hz0 := constAVs_rel (G := G1) (T := tokf ((id, some (.tok 0 k)) :: s.hp)) (w := w) z4
 have hzz := zeros_rel (by simpa using hz0) n (by omega)
 obtain ⟨c1, c2⟩ := toDL_spec hzr
 have hsz : z.cells.size = k := by have := hz0.1; simp at this; omega
 have hle : n ≤ grownCap w n 0 e := by have := grownCap_ge w n 0 e; omega
 have ez : Builtin.zeroCells z.cells n = (Array.range (n * zs.length)).map (z.cells[· % z.cells.size]!) := by
  unfold Builtin.zeroCells; rw [hsz, hzk]
 rw [← ez] at hzz
 have hl : (List.replicate n zr).length = n := List.length_replicate
 have hcs : (Builtin.zeroCells z.cells n ++ Builtin.zeroCells z.cells (grownCap w n 0 e - n)).size = grownCap w n 0 e * k := by
  simp only [Array.size_append, size_zeroCells, hsz, ← Nat.add_mul]
  congr 1; omega
 have key : ∀ i (hi : i < (List.replicate n zr).length) j (hj : j < (List.replicate n zr)[i].length), RelD G1.F w (List.replicate n zr)[i][j] ((Builtin.zeroCells z.cells n ++ Builtin.zeroCells z.cells (grownCap w n 0 e - n)).getD (i * k + j) undef) := by
  intro i hi j hj
  have hi2 : i < n := by simpa using hi
  have hj2 : j < zr.length := by simpa using hj
  have hj3 : j < zs.length := by omega
  have hlt : i * k + j < (Builtin.zeroCells z.cells n).size := by
   rw [size_zeroCells, hsz]
   have : (i + 1) * k ≤ n * k := Nat.mul_le_mul_right _ (by omega)
   rw [Nat.add_mul] at this
   omega
  have hlz : i * k + j < (zerosA n zs).length := by have := hzz.1; rw [← this]; exact hlt
  have h5 := hzz.2 (i * k + j) hlz hlt
  have h6 := zerosA_at (zs := zs) hi2 hj3
  rw [hzk, List.getElem?_eq_getElem hlz, List.getElem?_eq_getElem hj3] at h6
  rw [Option.some.inj h6] at h5
  have h7 := h5.toD (c2 j hj3 hj2)
  have e5 : (Builtin.zeroCells z.cells n ++ Builtin.zeroCells z.cells (grownCap w n 0 e - n)).getD (i * k + j) undef = (Builtin.zeroCells z.cells n)[i * k + j] := by
   rw [Array.getD_eq_getD_getElem?, Array.getElem?_append_left hlt, Array.getElem?_eq_getElem hlt]; rfl
  rw [e5]
  simp only [List.getElem_replicate]
  exact h7
 obtain ⟨G', hR, hA⟩ := hr1.freshV (nc := grownCap w n 0 e) (e := e) (es := List.replicate n zr) (by rw [getH_cons, if_pos rfl]) (by rw [hl]; exact hn0) (fun y hy => by obtain ⟨_, rfl⟩ := List.mem_replicate.1 hy; omega) hcs (by rw [hl]; exact hle) key
 rw [hl] at hR hA
 unfold wpO
 rw [if_pos (hg.gf.wanted hr (fun p hm => hp' p (by simp [hm])))]
 unfold Oper.wp
 have : (execOp a.eval ⟨some d, .call ⟨.builtin .append, #[x, y], #[t, tn]⟩, ty, pos, af, g⟩).run c.P w = .ok (.value (.slice (some ⟨w.heap.size, 0, none⟩) n (grownCap w n 0 e))) (w.drew.alloc (.cells (Builtin.zeroCells z.cells n ++ Builtin.zeroCells z.cells (grownCap w n 0 e - n)) e)) := by
  simp only [execOp, resolve, invoke, builtin, Sem.run_bind, Sem.run_pure, Result.andThen_ok, List.map_toArray, List.map_cons, List.map_nil, e1, e2, hm, hrun]
 rw [this, Oper.upon_value]
 exact hK _ _ ⟨G', hR.put hA hd⟩
end
end Go.Proofs.YtdgknigklgnefaaGreat
namespace Go.Proofs.YtdgknigklgnefaaGreat
open Go
set_option linter.unusedSimpArgs false
set_option linter.unusedVariables false
set_option maxRecDepth 100000
set_option maxHeartbeats 2000000
def Pat.op : Pat → Int | .mk a0 _ _ _ _ _ => a0
def Pat.ctor : Pat → Int | .mk _ a1 _ _ _ _ => a1
def Pat.n : Pat → Int | .mk _ _ a2 _ _ _ => a2
def Pat.m : Pat → Int | .mk _ _ _ a3 _ _ => a3
def Pat.var : Pat → Int | .mk _ _ _ _ a4 _ => a4
def Pat.kids : Pat → List Pat | .mk _ _ _ _ _ k => k
abbrev Pat.cc (v : Pat) : List D := [.i v.op, .i v.ctor, .i v.n, .i v.m, .i v.var, .sl (Pat.cs v.kids)]
theorem Pat.c_eq (v : Pat) : v.c = v.cc := by cases v; rfl
theorem Pat.eta (v : Pat) : Pat.mk v.op v.ctor v.n v.m v.var v.kids = v := by cases v; rfl
theorem Pat.cs_at' {pre : List Pat} {x : Pat} {rest xs : List Pat} (h : pre ++ x :: rest = xs) : (Pat.cs xs)[pre.length]? = some x.cc := by rw [Pat.cs_eq, ← Pat.c_eq]; exact zip_at h
mutual
def patEq : Pat → Pat → Bool
 | .mk a0 a1 a2 a3 a4 ks, .mk b0 b1 b2 b3 b4 ls => decide (a0 = b0) && (decide (a1 = b1) && (decide (a2 = b2) && (decide (a3 = b3) && (decide (a4 = b4) && patsEq ks ls))))
def patsEq : List Pat → List Pat → Bool
 | [], [] => true
 | x :: r, y :: s => patEq x y && patsEq r s
 | _, _ => false
end
mutual
def Pat.ok : Pat → Prop
 | .mk _ _ _ _ _ ks => ks.length ≤ 1000000000000 ∧ Pats.ok ks
def Pats.ok : List Pat → Prop
 | [] => True
 | v :: r => v.ok ∧ Pats.ok r
end
theorem Pats.ok_mem : ∀ {l : List Pat}, Pats.ok l → ∀ v, v ∈ l → v.ok
 | x :: r, h, v, hv => by
  simp only [Pats.ok] at h
  rcases List.mem_cons.1 hv with rfl | hv
  ·exact h.1
  ·exact Pats.ok_mem h.2 v hv
mutual
def Pat.size : Pat → Nat
 | .mk _ _ _ _ _ ks => 1 + Pats.size ks
def Pats.size : List Pat → Nat
 | [] => 0
 | v :: r => v.size + Pats.size r
end
theorem Pats.size_mem : ∀ {l : List Pat} {v : Pat}, v ∈ l → v.size ≤ Pats.size l
 | x :: r, v, hv => by
  simp only [Pats.size]
  rcases List.mem_cons.1 hv with rfl | hv
  ·omega
  ·have := Pats.size_mem hv; omega
theorem patsEq_len : ∀ {a b : List Pat}, a.length ≠ b.length → patsEq a b = false
 | [], [], h => by simp at h
 | [], _ :: _, _ => by simp [patsEq]
 | _ :: _, [], _ => by simp [patsEq]
 | x :: r, y :: s, h => by simp [patsEq, patsEq_len (a := r) (b := s) (by simpa using h)]
theorem pats_at {l : List Pat} {i : Nat} (h : i < l.length) : (Pat.cs l)[i]? = some (nth l i).cc := by
 rw [Pat.cs_eq, ← Pat.c_eq]; exact at_nth h
theorem Pat.ok_iff (v : Pat) : v.ok ↔ v.kids.length ≤ 1000000000000 ∧ Pats.ok v.kids := by cases v; rfl
theorem Pat.size_eq (v : Pat) : v.size = 1 + Pats.size v.kids := by cases v; rfl
theorem patEq_eq (v w : Pat) : patEq v w = (decide (v.op = w.op) && (decide (v.ctor = w.ctor) && (decide (v.n = w.n) && (decide (v.m = w.m) && (decide (v.var = w.var) && patsEq v.kids w.kids))))) := by cases v; cases w; rfl
theorem patsEq_nth_false {a b : List Pat} {i : Nat} (h : i < a.length) (h2 : patEq (nth a i) (nth b i) = false) : patsEq a b = false := by
 induction i generalizing a b with
 | zero =>
  cases a with
  | nil => simp at h
  | cons x r =>
   cases b with
   | nil => simp [patsEq]
   | cons y s => simp [nth] at h2; simp [patsEq, h2]
 | succ i ih =>
  cases a with
  | nil => simp at h
  | cons x r =>
   cases b with
   | nil => simp [patsEq]
   | cons y s => simp only [patsEq]; rw [ih (a := r) (b := s) (by simpa using h) (by simpa [nth] using h2)]; simp
theorem patsEq_nth_true {a b : List Pat} (hl : a.length = b.length) (h : ∀ i, i < a.length → patEq (nth a i) (nth b i) = true) : patsEq a b = true := by
 induction a generalizing b with
 | nil => cases b with
  | nil => simp [patsEq]
  | cons y s => simp at hl
 | cons x r ih => cases b with
  | nil => simp at hl
  | cons y s =>
   have h0 := h 0 (by simp)
   simp only [patsEq]
   rw [ih (by simpa using hl) (fun i hi => by simpa [nth] using h (i + 1) (by simpa using hi))]
   simpa [nth] using h0
mutual
theorem patEq_refl : ∀ v : Pat, patEq v v = true
 | .mk _ _ _ _ _ ks => by simp [patEq, patsEq_refl ks]
theorem patsEq_refl : ∀ l : List Pat, patsEq l l = true
 | [] => rfl
 | v :: r => by simp [patsEq, patEq_refl v, patsEq_refl r]
end
theorem own_pats_snoc (m : Bool) (l : List Pat) (y : Pat) : ownCells m (Pat.cs (l ++ [y])) = ownCells m (Pat.cs l) ++ [.d (.i y.op), .d (.i y.ctor), .d (.i y.n), .d (.i y.m), .d (.i y.var), .own m (encPats y.kids)] := by
 rw [Pat.cs_eq, List.map_append, ← Pat.cs_eq, ownCells_append]
 congr 1
 cases y; rfl
theorem Pat.c_len (v : Pat) : v.c.length = 6 := by cases v; rfl
theorem Pat.cs_rows {l : List Pat} : ∀ x, x ∈ Pat.cs l → x.length = 6 := by
 intro x hx
 rw [Pat.cs_eq] at hx
 obtain ⟨y, _, rfl⟩ := List.mem_map.1 hx
 exact y.c_len
theorem Pat.cs_nil (l : List Pat) : Pat.cs l = [] ↔ l = [] := by rw [Pat.cs_eq]; simp
theorem own_pats_len (m : Bool) (l : List Pat) : (ownCells m (Pat.cs l)).length = l.length * 6 := by
 rw [ownCells_len (k := 6) Pat.cs_rows, Pat.cs_len]
mutual
def mPat : Pat → Nat
 | .mk _ _ _ _ _ ks => mPats ks
def mPats : List Pat → Nat
 | [] => 0
 | v :: r => 1 + mPat v + mPats r
end
theorem mPat_eq (v : Pat) : mPat v = mPats v.kids := by cases v; rfl
theorem mPats_eq : ∀ l : List Pat, mPats l = l.length + (l.map mPat).sum
 | [] => rfl
 | v :: r => by simp only [mPats, mPats_eq r, List.length_cons, List.map_cons, List.sum_cons]; omega
theorem laws_szPatternS_of {l : List Pat} {left : Int} (h : l.length ≤ 1000000000000) (k0 : 0 ≤ left) (k1 : left ≤ 1000000000000)
  (hf : ∀ v ∈ l, ∀ q : Int, 0 ≤ q → q ≤ 1000000000000 → FnD Tryz.prog 154 [.agg [.d (.i v.op), .d (.i v.ctor), .d (.i v.n), .d (.i v.m), .d (.i v.var), .d (encPats v.kids)], .d (.i q)] [] (.d (.i (szr q (mPat v)))) []) :
  FnD Tryz.prog 229 [.d (encPats l), .d (.i left)] [] (.d (.i (szr left (mPats l)))) [] := by
 have z := szr_or (left := left) (mPats l)
 rw [mPats_eq] at z ⊢
 refine bd Tryz.f229 27 [] [] fun w0 F0 own kept hk => ?_
 refine ar ?_ (by first | (constructor <;> omega) | (constructor <;> simp [Pat.cs_len] <;> omega))
 refine sq (fun h1 h1p h1s => ?_) fun h1 h1p h1s => ?_
 ·try simp only [Q, Pat.cs_len] at h1p
  refine rn0 (r1 rfl) (.eqd ?_)
  all_goals (refine congrArg D.i ?_; first | omega | (have e := sum_split (f := mPat) hg1.1; have z3 := szr_or (left := v) (mPat y); simp only [Pat.cs_len] at *; omega) | (rw [List.append_nil] at hg1; rw [hg1.1] at hg1; simp only [Pat.cs_len] at *; omega) | (simp only [Pat.cs_len] at *; omega))
 ·try simp only [Q, Pat.cs_len] at h1p
  refine CWp.loopX (ι := List (Pat) × List (Pat) × (Int)) hk (fun x => [(5, .d (.i (x.1.length : Int))), (1, .d (.i x.2.2))]) [4, 12, 13, 14, 15, 16, 17, 18, 19, 20, 21, 22, 23, 24, 25] (fun x => []) (fun x => x.1 ++ x.2.1 = l ∧ x.2.2 = left - l.length - (x.1.map mPat).sum ∧ 0 ≤ x.2.2) (fun x => x.2.1.length) ([], l, left - l.length) ⟨by simp, by simp, by simp [Pat.cs_len] at *; omega⟩ ⟨⟨_, rfl, (LeA.eqi (by first | rfl | (simp; done) | (simp [Pat.cs_len]; done)))⟩, ⟨⟨_, rfl, (LeA.eqi (by first | rfl | (simp; done) | (simp [Pat.cs_len]; done)))⟩, trivial⟩⟩ trivial (fun x => rfl) (fun x hg1 => ?_)
  obtain ⟨pre, rest, v⟩ := x
  dsimp only at hg1 ⊢
  refine evc [] [] ?_
  refine sq (fun h2 h2p h2s => ?_) fun h2 h2p h2s => ?_
  ·try simp only [Q, Pat.cs_len] at h2p
   rcases rest with _ | ⟨y, rest⟩
   ·exfalso; simp_all
   refine Walk.idx sl143 .none rfl rfl rfl rfl (Pat.cs_at' hg1.1) rfl ?_
   refine ev ?_
   refine Walk.call (cr := []) cal154 (hf y (by rw [← hg1.1]; simp) _ (by omega) (by omega)) rfl .none rfl rfl (LeL.refl _) trivial rfl rfl rfl ?_
   refine ev ?_
   refine sq (fun h3 h3p h3s => ?_) fun h3 h3p h3s => ?_
   ·try simp only [Q, Pat.cs_len] at h3p
    refine rn0 (r1 rfl) (.eqd ?_)
    all_goals (refine congrArg D.i ?_; first | omega | (have e := sum_split (f := mPat) hg1.1; have z3 := szr_or (left := v) (mPat y); simp only [Pat.cs_len] at *; omega) | (rw [List.append_nil] at hg1; rw [hg1.1] at hg1; simp only [Pat.cs_len] at *; omega) | (simp only [Pat.cs_len] at *; omega))
   ·try simp only [Q, Pat.cs_len] at h3p
    refine ar ?_ (by first | (constructor <;> omega) | (constructor <;> simp [Pat.cs_len] <;> omega))
    refine Exists.intro ((pre ++ [y], rest, szr v (mPat y))) ⟨⟨(by have hz := hg1.1; rw [← hz]; simp), (by have e := sum_split (f := mPat) hg1.1; have z3 := szr_or (left := v) (mPat y); simp; omega)⟩, (by simp), Sub.x (by kernel_rfl) (by kernel_rfl) ⟨⟨_, rfl, (LeA.eqi (by first | rfl | (simp; done) | (simp [Pat.cs_len]; done)))⟩, ⟨⟨_, rfl, (LeA.eqi (by first | rfl | (simp; done) | (simp [Pat.cs_len]; done)))⟩, trivial⟩⟩ (by kernel_rfl) (by kernel_rfl) trivial⟩
  ·try simp only [Q, Pat.cs_len] at h2p
   have hrest : rest = [] := by
    rcases rest with _ | ⟨a, b⟩
    ·rfl
    ·exfalso; have hz := congrArg List.length (hg1.1); simp only [List.length_append, List.length_cons, List.length_map] at hz; omega
   subst hrest
   refine rn0 (r1 rfl) (.eqd ?_)
   all_goals (refine congrArg D.i ?_; first | omega | (have e := sum_split (f := mPat) hg1.1; have z3 := szr_or (left := v) (mPat y); simp only [Pat.cs_len] at *; omega) | (rw [List.append_nil] at hg1; rw [hg1.1] at hg1; simp only [Pat.cs_len] at *; omega) | (simp only [Pat.cs_len] at *; omega))
theorem laws_szPattern_fn : ∀ (n : Nat) {v : Pat} {left : Int}, v.size ≤ n → v.ok → 0 ≤ left → left ≤ 1000000000000 → FnD Tryz.prog 154 [.agg [.d (.i v.op), .d (.i v.ctor), .d (.i v.n), .d (.i v.m), .d (.i v.var), .d (encPats v.kids)], .d (.i left)] [] (.d (.i (szr left (mPat v)))) []
 | 0, v, left, h, _, _, _ => by rw [Pat.size_eq] at h; omega
 | n + 1, v, left, h, hok, k0, k1 => by
  rw [Pat.size_eq] at h
  rw [Pat.ok_iff] at hok
  rw [mPat_eq]
  have z := szr_or (left := left) (mPats v.kids)
  refine bd Tryz.f154 12 [] [] fun w0 F0 own kept hk => ?_
  refine Walk.box (id := 3002) .none rfl rfl rfl rfl rfl rfl rfl ?_
  refine ev ?_
  refine Walk.call (cr := []) cal229 (laws_szPatternS_of hok.1 k0 k1 (fun x hx q q0 q1 => laws_szPattern_fn n (by have := Pats.size_mem hx; omega) (Pats.ok_mem hok.2 x hx) q0 q1)) rfl .none rfl rfl (LeL.refl _) trivial rfl rfl rfl ?_
  refine ev ?_
  refine sq (fun h1 h1p h1s => ?_) fun h1 h1p h1s => ?_
  ·try simp only [Q] at h1p
   refine rn0 (r1 rfl) (.eqd ?_)
   all_goals (refine congrArg D.i ?_; omega)
  ·try simp only [Q] at h1p
   refine rn0 (r1 rfl) (.eqd ?_)
   all_goals (refine congrArg D.i ?_; omega)
theorem laws_toPatternS_of {l : List Pat} (h : l.length ≤ 1000000000000)
  (hf : ∀ v ∈ l, FnD Tryz.prog 155 [.agg [.d (.i v.op), .d (.i v.ctor), .d (.i v.n), .d (.i v.m), .d (.i v.var), .d (encPats v.kids)]] [] (.agg [.d (.i v.op), .d (.i v.ctor), .d (.i v.n), .d (.i v.m), .d (.i v.var), .ms 66 v.kids.length]) [(66, some (.tree (ownCells false (Pat.cs v.kids))))]) :
  FnD Tryz.prog 230 [.d (encPats l)] [] (.ms 66 l.length) [(66, some (.tree (ownCells false (Pat.cs l))))] := by
 have hf2 : ∀ v ∈ l, FnD Tryz.prog 155 [.agg [.d (.i v.op), .d (.i v.ctor), .d (.i v.n), .d (.i v.m), .d (.i v.var), .d (encPats v.kids)]] [] (.agg [.d (.i v.op), .d (.i v.ctor), .d (.i v.n), .d (.i v.m), .d (.i v.var), .ms 67 v.kids.length]) [(67, some (.tree (ownCells false (Pat.cs v.kids))))] := fun v hv => FnD.out_ren (ownCells_ids _ _) rfl (hf v hv) 67
 refine bd Tryz.f230 23 [] [2, 4] fun w0 F0 own kept hk => ?_
 refine Walk.make (id := 66) sl49 tz51 rfl (by decide) (zerosA_ids rfl) .none rfl rfl rfl (by simp [Pat.cs_len]; omega) (by simp [Pat.cs_len]; omega) rfl rfl rfl ?_
 refine ev ?_
 refine CWp.boxTree 66 false rfl rfl (zerosA_map _ _ _) ?_
 refine evc [] [] ?_
 refine CWp.loopX (ι := List (Pat) × List (Pat)) hk (fun x => [(4, .d (.i (x.1.length : Int)))]) [8, 9, 10, 11, 12, 13, 14, 15, 16, 17, 18, 19, 20, 21] (fun x => [(66, some (.tree (ownCells false (Pat.cs x.1) ++ zerosA x.2.length [.d (.i 0), .d (.i 0), .d (.i 0), .d (.i 0), .d (.i 0), .own false (.sl [])])))]) (fun x => x.1 ++ x.2 = l) (fun x => x.2.length) ([], l) (by simp) ⟨⟨_, rfl, (LeA.eqi (by first | rfl | (simp; done) | (simp_all; done) | omega))⟩, trivial⟩ ⟨(by first | rfl | (show some (Res.tree _) = some (Res.tree _); rw [own_pats_snoc, List.append_assoc]; rfl) | (show some (Res.tree _) = some (Res.tree _); simp [ownCells_nil, Pat.cs_len]; rfl)), trivial⟩ (fun x => rfl) (fun x hg1 => ?_)
 obtain ⟨pre, rest⟩ := x
 dsimp only at hg1 ⊢
 refine evc [] [2, 4] ?_
 refine sq (fun h1 h1p h1s => ?_) fun h1 h1p h1s => ?_
 ·try simp only [Q, Pat.cs_len] at h1p
  rcases rest with _ | ⟨y, rest⟩
  ·exfalso; simp_all
  refine Walk.idx sl143 .none rfl rfl rfl rfl (Pat.cs_at' hg1) rfl ?_
  refine ev ?_
  refine Walk.call (cr := [67]) cal155 (hf2 y (by rw [← hg1]; simp)) rfl .none rfl rfl (LeL.refl _) trivial rfl (by first | rfl | (simp only [okCall, List.all_cons, List.all_nil, entOK, entOK', AV.idsL, AV.ids, idsL_append, ownCells_ids, List.map_cons, List.map_nil]; rfl)) (by first | rfl | (simp only [freshB, occH, occE, Res.ids, List.cons_append, List.nil_append, AV.idsL, AV.ids, idsL_append, ownCells_ids, zerosA_idsR, repNil, List.map_cons, List.map_nil, upC]; rfl)) ?_
  refine Walk.idxM sl49 .none rfl rfl rfl rfl (by first | omega | (simp [Pat.cs_len]; omega)) ?_
  refine Walk.storeT ty51 .none rfl rfl rfl rfl rfl rfl (by simp) ((putC_fill (own_pats_len false _) rfl)) ?_
  refine tv ?_
  refine CWp.merge hk 66 (pre.length * 6 + 5) 67 6 _ rfl (cell_off (own_pats_len false _) rfl) (by simp [mkL_len, Pat.cs_len]) rfl Pat.cs_rows rfl rfl (putC_off (own_pats_len false _) (putC_set rfl)) ?_
  refine evc [] [] ?_
  refine ar ?_
  refine Exists.intro ((pre ++ [y], rest)) ⟨(by have hz := hg1; rw [← hz]; simp), (by simp), Sub.x (by kernel_rfl) (by kernel_rfl) ⟨⟨_, rfl, (LeA.eqi (by first | rfl | (simp; done) | (simp_all; done) | omega))⟩, trivial⟩ (by kernel_rfl) (by kernel_rfl) ⟨(by first | rfl | (show some (Res.tree _) = some (Res.tree _); rw [own_pats_snoc, List.append_assoc]; rfl) | (show some (Res.tree _) = some (Res.tree _); simp [ownCells_nil, Pat.cs_len]; rfl)), trivial⟩⟩
 ·try simp only [Q, Pat.cs_len] at h1p
  have hrest : rest = [] := by
   rcases rest with _ | ⟨a, b⟩
   ·rfl
   ·exfalso; have hz := congrArg List.length (hg1); simp only [List.length_append, List.length_cons, List.length_map] at hz; omega
  subst hrest
  refine rn [(66, some (.tree (ownCells false (Pat.cs l))))] (r1 rfl) (LeA.msn ?_) ⟨rfl, rfl⟩ (SubH.get ⟨(by first | rfl | (rw [List.append_nil] at hg1; subst hg1; show some (Res.tree _) = some (Res.tree _); simp [zerosA]; done)), trivial⟩) (boxOK rfl)
  all_goals (first | rfl | (simp [Pat.cs_len]; done))
theorem laws_toPattern_tr : ∀ (n : Nat) {v : Pat}, v.size ≤ n → v.ok → FnD Tryz.prog 155 [.agg [.d (.i v.op), .d (.i v.ctor), .d (.i v.n), .d (.i v.m), .d (.i v.var), .d (encPats v.kids)]] [] (.agg [.d (.i v.op), .d (.i v.ctor), .d (.i v.n), .d (.i v.m), .d (.i v.var), .ms 66 v.kids.length]) [(66, some (.tree (ownCells false (Pat.cs v.kids))))]
 | 0, v, h, _ => by rw [Pat.size_eq] at h; omega
 | n + 1, v, h, hok => by
  rw [Pat.size_eq] at h
  rw [Pat.ok_iff] at hok
  refine bd Tryz.f155 24 [] [] fun w0 F0 own kept hk => ?_
  refine Walk.box (id := 3001) .none rfl rfl rfl rfl rfl rfl rfl ?_
  refine Walk.alloc (id := 3002) tz51 rfl .none rfl rfl rfl rfl ?_
  refine tv ?_
  refine Walk.alloc (id := 3003) tz51 rfl .none rfl rfl rfl rfl ?_
  refine tv ?_
  refine Walk.store ty3 .none rfl rfl rfl rfl rfl rfl (by simp) rfl ?_
  refine tv ?_
  refine Walk.store ty3 .none rfl rfl rfl rfl rfl rfl (by simp) rfl ?_
  refine tv ?_
  refine Walk.store ty3 .none rfl rfl rfl rfl rfl rfl (by simp) rfl ?_
  refine tv ?_
  refine Walk.store ty3 .none rfl rfl rfl rfl rfl rfl (by simp) rfl ?_
  refine tv ?_
  refine Walk.store ty3 .none rfl rfl rfl rfl rfl rfl (by simp) rfl ?_
  refine tv ?_
  refine Walk.call (cr := [66]) cal230 (laws_toPatternS_of hok.1 (fun x hx => laws_toPattern_tr n (by have := Pats.size_mem hx; omega) (Pats.ok_mem hok.2 x hx))) rfl .none rfl rfl (LeL.refl _) trivial rfl (by first | rfl | (simp only [okCall, List.all_cons, List.all_nil, entOK, entOK', AV.idsL, AV.ids, idsL_append, ownCells_ids, List.map_cons, List.map_nil]; rfl)) (by first | rfl | (simp only [freshB, occH, occE, Res.ids, List.cons_append, List.nil_append, AV.idsL, AV.ids, idsL_append, ownCells_ids, zerosA_idsR, repNil, List.map_cons, List.map_nil, upC]; rfl)) ?_
  refine ev ?_
  refine Walk.store ty49 .none rfl rfl rfl rfl rfl rfl (by simp) rfl ?_
  refine tv ?_
  refine Walk.store ty51 .none rfl rfl rfl rfl rfl rfl (by simp) rfl ?_
  refine tv ?_
  refine rn [(66, some (.tree (ownCells false (Pat.cs v.kids))))] (.cons (.cellA ty51 rfl rfl rfl) .nil) (.agg (.cons (.eqd ?_) (.cons (.eqd ?_) (.cons (.eqd ?_) (.cons (.eqd ?_) (.cons (.eqd ?_) (.cons (LeA.msn ?_) .nil))))))) ⟨rfl, rfl⟩ (SubH.get ⟨rfl, trivial⟩) (boxOK rfl)
  all_goals (first | rfl | (simp []; done) | (simp_all; done) | (simp_all; omega) | omega)
theorem laws_toPattern_fn {v : Pat} (hok : v.ok) : FnD Tryz.prog 155 [.agg [.d (.i v.op), .d (.i v.ctor), .d (.i v.n), .d (.i v.m), .d (.i v.var), .d (encPats v.kids)]] [] (.agg [.d (.i v.op), .d (.i v.ctor), .d (.i v.n), .d (.i v.m), .d (.i v.var), .d (encPats v.kids)]) [] :=
 FnD.out_frz (k := 6) Pat.cs_rows (by simp [soleN, soleN.soleNL, Pat.cs_len]) (laws_toPattern_tr _ (Nat.le_refl _) hok)
theorem laws_eqPatternS_of {l m : List Pat} (h : l.length ≤ 1000000000000)
  (hf : ∀ a ∈ l, ∀ b : Pat, FnD Tryz.prog 116 [.agg [.d (.i a.op), .d (.i a.ctor), .d (.i a.n), .d (.i a.m), .d (.i a.var), .d (encPats a.kids)], .agg [.d (.i b.op), .d (.i b.ctor), .d (.i b.n), .d (.i b.m), .d (.i b.var), .d (encPats b.kids)]] [] (.d (.bool (patEq a b))) []) :
  FnD Tryz.prog 43 [.d (encPats l), .d (encPats m)] [] (.d (.bool (patsEq l m))) [] := by
 refine bd Tryz.f43 27 [] [] fun w0 F0 own kept hk => ?_
 refine sq (fun h1 h1p h1s => ?_) fun h1 h1p h1s => ?_
 ·try simp only [Q, Int.natCast_inj, Pat.cs_len] at h1p
  refine rn0 (r1 rfl) (.eqd ?_)
  all_goals (refine congrArg D.bool ?_; first | (refine (patsEq_len ?_).symm; omega) | (refine (patsEq_nth_true (by omega) (fun x hx => hg1.2 x (by omega))).symm) | (refine (patsEq_nth_false (i := i) (by omega) ?_).symm; assumption))
 ·try simp only [Q, Int.natCast_inj, Pat.cs_len] at h1p
  refine CWp.loopX (ι := Nat) hk (fun i => [(5, .d (.i (i : Int)))]) [4, 11, 12, 13, 14, 15, 16, 17, 18, 19, 20, 21, 22, 23, 24, 25, 26] (fun i => []) (fun i => i ≤ l.length ∧ ∀ i', i' < i → patEq (nth l i') (nth m i') = true) (fun i => l.length - i) 0 ⟨by omega, fun _ h => absurd h (by omega)⟩ ⟨⟨_, rfl, (LeA.eqi (by first | rfl | (simp; done) | (simp_all; done) | omega))⟩, trivial⟩ trivial (fun x => rfl) (fun i hg1 => ?_)
  refine evc [] [] ?_
  refine sq (fun h2 h2p h2s => ?_) fun h2 h2p h2s => ?_
  ·try simp only [Q, Int.natCast_inj, Pat.cs_len] at h2p
   refine Walk.idx sl49 .none rfl rfl rfl rfl (pats_at (by omega)) rfl ?_
   refine evd [] [] ?_
   refine Walk.idx sl49 .none rfl rfl rfl rfl (pats_at (by omega)) rfl ?_
   refine evd [] [] ?_
   refine Walk.call (cr := []) cal116 (hf _ (nth_mem (by omega)) _) rfl .none rfl rfl (LeL.refl _) trivial rfl rfl rfl ?_
   refine evd [] [] ?_
   refine dr ?_
   refine sq (fun h3 h3p h3s => ?_) fun h3 h3p h3s => ?_
   ·try simp only [Q, Int.natCast_inj, Pat.cs_len] at h3p
    refine rn0 (r1 rfl) (.eqd ?_)
    all_goals (refine congrArg D.bool ?_; first | (refine (patsEq_len ?_).symm; omega) | (refine (patsEq_nth_true (by omega) (fun x hx => hg1.2 x (by omega))).symm) | (refine (patsEq_nth_false (i := i) (by omega) ?_).symm; assumption))
   ·try simp only [Q, Int.natCast_inj, Pat.cs_len] at h3p
    refine ar ?_
    refine Exists.intro (i + 1) ⟨⟨by omega, upto_succ hg1.2 (by assumption)⟩, (by omega), Sub.x (by kernel_rfl) (by kernel_rfl) ⟨⟨_, rfl, (LeA.eqi (by first | rfl | (simp; done) | (simp_all; done) | omega))⟩, trivial⟩ (by kernel_rfl) (by kernel_rfl) trivial⟩
  ·try simp only [Q, Int.natCast_inj, Pat.cs_len] at h2p
   refine rn0 (r1 rfl) (.eqd ?_)
   all_goals (refine congrArg D.bool ?_; first | (refine (patsEq_len ?_).symm; omega) | (refine (patsEq_nth_true (by omega) (fun x hx => hg1.2 x (by omega))).symm) | (refine (patsEq_nth_false (i := i) (by omega) ?_).symm; assumption))
theorem laws_eqPattern_fn : ∀ (n : Nat) {a b : Pat}, a.size ≤ n → a.ok → FnD Tryz.prog 116 [.agg [.d (.i a.op), .d (.i a.ctor), .d (.i a.n), .d (.i a.m), .d (.i a.var), .d (encPats a.kids)], .agg [.d (.i b.op), .d (.i b.ctor), .d (.i b.n), .d (.i b.m), .d (.i b.var), .d (encPats b.kids)]] [] (.d (.bool (patEq a b))) []
 | 0, a, b, h, _ => by rw [Pat.size_eq] at h; omega
 | n + 1, a, b, h, hok => by
  rw [Pat.size_eq] at h
  rw [Pat.ok_iff] at hok
  rw [patEq_eq]
  refine bd Tryz.f116 36 [] [] fun w0 F0 own kept hk => ?_
  refine Walk.box (id := 3002) .none rfl rfl rfl rfl rfl rfl rfl ?_
  refine Walk.box (id := 3003) .none rfl rfl rfl rfl rfl rfl rfl ?_
  refine ev ?_
  refine sq (fun h1 h1p h1s => ?_) fun h1 h1p h1s => ?_
  ·try simp only [Q] at h1p
   refine rn0 (r1 rfl) (.eqd ?_)
   all_goals (refine congrArg D.bool ?_; simp [h1s, h1p])
  ·try simp only [Q] at h1p
   refine sq (fun h2 h2p h2s => ?_) fun h2 h2p h2s => ?_
   ·try simp only [Q] at h2p
    refine rn0 (r1 rfl) (.eqd ?_)
    all_goals (refine congrArg D.bool ?_; simp [h1s, h1p, h2s, h2p])
   ·try simp only [Q] at h2p
    refine sq (fun h3 h3p h3s => ?_) fun h3 h3p h3s => ?_
    ·try simp only [Q] at h3p
     refine rn0 (r1 rfl) (.eqd ?_)
     all_goals (refine congrArg D.bool ?_; simp [h1s, h1p, h2s, h2p, h3s, h3p])
    ·try simp only [Q] at h3p
     refine sq (fun h4 h4p h4s => ?_) fun h4 h4p h4s => ?_
     ·try simp only [Q] at h4p
      refine rn0 (r1 rfl) (.eqd ?_)
      all_goals (refine congrArg D.bool ?_; simp [h1s, h1p, h2s, h2p, h3s, h3p, h4s, h4p])
     ·try simp only [Q] at h4p
      refine sq (fun h5 h5p h5s => ?_) fun h5 h5p h5s => ?_
      ·try simp only [Q] at h5p
       refine rn0 (r1 rfl) (.eqd ?_)
       all_goals (refine congrArg D.bool ?_; simp [h1s, h1p, h2s, h2p, h3s, h3p, h4s, h4p, h5s, h5p])
      ·try simp only [Q] at h5p
       refine Walk.call (cr := []) cal43 (laws_eqPatternS_of hok.1 (fun x hx y => laws_eqPattern_fn n (by have := Pats.size_mem hx; omega) (Pats.ok_mem hok.2 x hx))) rfl .none rfl rfl (LeL.refl _) trivial rfl rfl rfl ?_
       refine ev ?_
       refine sq (fun h6 h6p h6s => ?_) fun h6 h6p h6s => ?_
       ·try simp only [Q] at h6p
        refine rn0 (r1 rfl) (.eqd ?_)
        all_goals (refine congrArg D.bool ?_; simp [h1s, h1p, h2s, h2p, h3s, h3p, h4s, h4p, h5s, h5p, h6s, h6p])
       ·try simp only [Q] at h6p
        refine rn0 (r1 rfl) (.eqd ?_)
        all_goals (refine congrArg D.bool ?_; simp [h1s, h1p, h2s, h2p, h3s, h3p, h4s, h4p, h5s, h5p, h6s, h6p])
mutual
def Pat.szM : Pat → Int
 | .mk _ _ _ _ _ ks => 5 + Pats.szM ks
def Pats.szM : List Pat → Int
 | [] => 0
 | v :: r => v.szM + Pats.szM r
end
mutual
def Pat.one (k : Int) : Pat → Pat
 | .mk _ _ _ _ _ ks => .mk k (k + 1) (k + 1 + 1) (k + 1 + 1 + 1) (k + 1 + 1 + 1 + 1) (Pats.one (k + 1 + 1 + 1 + 1 + 1) ks)
def Pats.one (k : Int) : List Pat → List Pat
 | [] => []
 | v :: r => v.one k :: Pats.one (k + v.szM) r
end
theorem Pats.szM_eq : ∀ l : List Pat, Pats.szM l = szL Pat.szM l
 | [] => rfl
 | v :: r => by simp only [Pats.szM, szL, Pats.szM_eq r]
theorem Pats.one_eq : ∀ (l : List Pat) (k : Int), Pats.one k l = mkL Pat.one Pat.szM k l
 | [], _ => rfl
 | v :: r, k => by simp only [Pats.one, mkL, Pats.one_eq r]
theorem Pat.szM_kids (v : Pat) : v.szM = 5 + szL Pat.szM v.kids := by cases v; simp only [Pat.szM, Pat.kids, Pats.szM_eq]
theorem Pat.one_kids (v : Pat) (k : Int) : (v.one k).kids = mkL Pat.one Pat.szM (k + 1 + 1 + 1 + 1 + 1) v.kids := by cases v; simp only [Pat.one, Pat.kids, Pats.one_eq]
theorem Pat.one_sc (v : Pat) (k : Int) : (Pat.one k v).op = k ∧ (Pat.one k v).ctor = k + 1 ∧ (Pat.one k v).n = k + 1 + 1 ∧ (Pat.one k v).m = k + 1 + 1 + 1 ∧ (Pat.one k v).var = k + 1 + 1 + 1 + 1 := by cases v; exact ⟨rfl, rfl, rfl, rfl, rfl⟩
mutual
theorem Pat.szM_nn : ∀ v : Pat, 0 ≤ v.szM
 | .mk _ _ _ _ _ ks => by have := Pats.szM_nn ks; simp only [Pat.szM]; omega
theorem Pats.szM_nn : ∀ l : List Pat, 0 ≤ Pats.szM l
 | [] => by simp [Pats.szM]
 | v :: r => by have := Pat.szM_nn v; have := Pats.szM_nn r; simp only [Pats.szM]; omega
end
mutual
theorem Pat.szM_le : ∀ v : Pat, v.szM ≤ 5 + 5 * (mPat v : Int)
 | .mk _ _ _ _ _ ks => by have := Pats.szM_le ks; simp only [Pat.szM, mPat]; omega
theorem Pats.szM_le : ∀ l : List Pat, Pats.szM l ≤ 5 * (mPats l : Int)
 | [] => by simp [Pats.szM, mPats]
 | v :: r => by have := Pat.szM_le v; have := Pats.szM_le r; simp only [Pats.szM, mPats]; omega
end
structure Vt where
 var : Int
 ty : Ty
 deriving DecidableEq, Inhabited
abbrev Vt.c (t : Vt) : List D := [.i t.var, .i t.ty.data, .i t.ty.index]
abbrev encVts (l : List Vt) : D := .sl (l.map Vt.c)
def vctors (w : List Data) (t : Ty) : List Int := if t.data = -1 then [] else ctorsOf w t
def typesP (w : List Data) (t : Ty) (p : Pat) : List Ty := if p.op = 4 then argsOf w t p.ctor else if p.op = 5 then [t, t] else if p.op = 6 then [t] else []
def ownP (w : List Data) (t : Ty) (p : Pat) : Bool := decide (((p.op = 2 ∨ p.op = 6) → 0 ≤ p.var ∧ p.var ≤ 5) ∧ (¬ (p.op = 2 ∨ p.op = 6) → p.var = 0) ∧ (p.op ≠ 3 → p.n = 0 ∧ p.m = 0) ∧ (p.op ≠ 4 → p.ctor = 0) ∧
 (p.op = 1 ∨ p.op = 2 ∨ p.op = 5 ∨ p.op = 6 ∨ (p.op = 3 ∧ t.data = -1 ∧ 0 ≤ p.n ∧ p.n ≤ p.m ∧ p.m ≤ 9) ∨ (p.op = 4 ∧ p.ctor ∈ vctors w t)))
def okP (w : List Data) (t : Ty) (p : Pat) : Bool := ownP w t p && decide (p.kids.length = (typesP w t p).length)
def shapeT (w : List Data) (t : Ty) (p : Pat) : List Ty := if p.op = 4 ∧ p.ctor ∉ vctors w t then [] else typesP w t p
def shapeP (w : List Data) : Nat → Ty → Pat → Bool
 | 0, _, _ => false
 | n + 1, t, p => ownP w t p && all2 (shapeP w n) (typesP w t p) p.kids
def nameP (t : Ty) (p : Pat) : List Vt := if p.op = 2 ∨ p.op = 6 then [⟨p.var, t⟩] else []
def varsL (f : Ty → Pat → List Vt) : List Ty → List Pat → List Vt
 | a :: r, b :: s => f a b ++ varsL f r s
 | _, _ => []
def vtypes (w : List Data) (t : Ty) (p : Pat) : List Ty := if p.op = 5 then (typesP w t p).take 1 else typesP w t p
def varsP (w : List Data) : Nat → Ty → Pat → List Vt
 | 0, _, _ => []
 | n + 1, t, p => nameP t p ++ varsL (varsP w n) (vtypes w t p) p.kids
def findV (l : List Vt) (n : Int) : Int := idxF (fun v => decide (v.var = n)) l 0
def alikeV (a b : List Vt) : Bool := a.all (fun v => decide (0 ≤ findV b v.var ∧ (nth b (findV b v.var).toNat).ty = v.ty)) && decide (a.length = b.length)
def distV (l : List Vt) : Bool := (List.range l.length).all fun (i : Nat) => decide (findV l (nth l i).var = (i : Int))
def sameV2 (a b : List Vt) : Bool := decide (a.length = b.length) && !a.any fun v => !decide (v ∈ b)
def nodupV (l : List Vt) : Bool := decide (l.map Vt.var).Nodup
def linP (w : List Data) : Nat → Ty → Pat → Bool
 | 0, _, _ => true
 | n + 1, t, p => all2 (linP w n) (typesP w t p) p.kids && (if p.op = 5 then alikeV (varsP w n t (nth p.kids 0)) (varsP w n t (nth p.kids 1)) else distV (varsP w (n + 1) t p))
theorem findV_spec (l : List Vt) (n : Int) : (findV l n = -1 ∧ ∀ v ∈ l, v.var ≠ n) ∨ ∃ k : Nat, findV l n = k ∧ k < l.length ∧ (nth l k).var = n ∧ ∀ j, j < k → (nth l j).var ≠ n := by
 have key : ∀ (l : List Vt) (i : Nat), (idxF (fun v => decide (v.var = n)) l i = -1 ∧ ∀ v ∈ l, v.var ≠ n) ∨ ∃ k : Nat, idxF (fun v => decide (v.var = n)) l i = ((i + k : Nat) : Int) ∧ k < l.length ∧ (nth l k).var = n ∧ ∀ j, j < k → (nth l j).var ≠ n := by
  intro l
  induction l with
  | nil => intro i; exact .inl ⟨rfl, by simp⟩
  | cons x r ih =>
   intro i
   unfold idxF
   by_cases h : x.var = n
   ·exact .inr ⟨0, by simp [h], by simp, by simpa [nth] using h, fun j hj => absurd hj (by omega)⟩
   ·rcases ih (i + 1) with ⟨h1, h2⟩ | ⟨k, h1, h2, h3, h4⟩
    ·exact .inl ⟨by simpa [h] using h1, fun v hv => by rcases List.mem_cons.1 hv with rfl | hv; exact h; exact h2 v hv⟩
    ·refine .inr ⟨k + 1, ?_, by simpa using h2, by simpa [nth] using h3, fun j hj => ?_⟩
     ·simp only [h, decide_false, Bool.false_eq_true, if_false]; rw [h1]; congr 1; omega
     ·cases j with
      | zero => simpa [nth] using h
      | succ j => simpa [nth] using h4 j (by omega)
 rcases key l 0 with h | ⟨k, h1, h2⟩
 ·exact .inl h
 ·exact .inr ⟨k, by unfold findV; simpa using h1, h2⟩
theorem nodup_iff {l : List Vt} : (l.map Vt.var).Nodup ↔ ∀ i j, i < j → j < l.length → (nth l i).var ≠ (nth l j).var := by
 unfold List.Nodup
 rw [List.pairwise_iff_getElem]
 constructor
 ·intro h i j hij hj
  have := h i j (by simp; omega) (by simpa using hj) hij
  simp only [List.getElem_map] at this
  rw [nth_eq (by omega), nth_eq hj]; exact this
 ·intro h i j hi hj hij
  simp only [List.length_map] at hi hj
  simp only [List.getElem_map]
  rw [← nth_eq hi, ← nth_eq hj]; exact h i j hij hj
theorem nodup_nth {l : List Vt} (h : (l.map Vt.var).Nodup) {i j : Nat} (hi : i < l.length) (hj : j < l.length) (he : (nth l i).var = (nth l j).var) : i = j := by
 have h1 := nodup_iff.1 h
 rcases Nat.lt_trichotomy i j with h2 | h2 | h2
 ·exact absurd he (h1 i j h2 hj)
 ·exact h2
 ·exact absurd he.symm (h1 j i h2 hi)
theorem distV_eq (l : List Vt) : distV l = nodupV l := by
 unfold nodupV
 by_cases h : (l.map Vt.var).Nodup
 ·rw [decide_eq_true h]
  refine all_range_true (fun i hi => decide_eq_true ?_)
  rcases findV_spec l (nth l i).var with ⟨_, h2⟩ | ⟨k, h1, h2, h3, h4⟩
  ·exact absurd rfl (h2 _ (nth_mem hi))
  ·rw [h1, nodup_nth h h2 hi h3]
 ·rw [decide_eq_false h]
  cases hd : distV l with
  | false => rfl
  | true =>
   refine absurd ?_ h
   rw [nodup_iff]
   intro i j hij hj he
   have h1 := List.all_eq_true.1 hd i (List.mem_range.2 (by omega))
   have h2 := List.all_eq_true.1 hd j (List.mem_range.2 hj)
   simp only [decide_eq_true_eq] at h1 h2
   rw [he, h2] at h1
   omega
theorem alike_same {a b : List Vt} (hb : nodupV b = true) : alikeV a b = sameV2 a b := by
 unfold nodupV at hb
 simp only [decide_eq_true_eq] at hb
 unfold alikeV sameV2
 rw [Bool.and_comm]
 congr 1
 rw [Bool.eq_iff_iff]
 simp only [List.all_eq_true, Bool.not_eq_true', List.any_eq_false, decide_eq_true_eq, Bool.not_eq_true, decide_eq_false_iff_not, Decidable.not_not]
 refine forall_congr' fun v => forall_congr' fun hv => ?_
 rcases findV_spec b v.var with ⟨h1, h2⟩ | ⟨k, h1, h2, h3, h4⟩
 ·rw [h1]
  exact ⟨fun h => absurd h.1 (by omega), fun h => absurd rfl (h2 v h)⟩
 ·rw [h1]
  simp only [Int.toNat_natCast]
  constructor
  ·rintro ⟨_, h⟩
   have : nth b k = v := by
    have e : ∀ x y : Vt, x.var = y.var → x.ty = y.ty → x = y := fun x y h1 h2 => by cases x; cases y; simp_all
    exact e _ _ h3 h
   rw [← this]; exact nth_mem h2
  ·intro h
   refine ⟨by omega, ?_⟩
   obtain ⟨j, hj, he⟩ := List.getElem_of_mem h
   have h5 : nth b j = v := by rw [nth_eq hj]; exact he
   have := nodup_nth hb h2 hj (by rw [h3, h5])
   rw [this, h5]
def scanK (g : Ty → Pat → Int → Option (List Vt) × Int) (or : Bool) : List Ty → List Pat → Nat → List Vt → Int → Option (List Vt) × Int
 | a :: r, b :: s, i, acc, c => match (g a b c).1 with
  | none => (none, (g a b c).2)
  | some l => if or = true ∧ i = 1 then (if sameV2 acc l = true then scanK g or r s (i + 1) acc (g a b c).2 else (none, (g a b c).2)) else scanK g or r s (i + 1) (acc ++ l) (g a b c).2
 | _, _, _, acc, c => (some acc, c)
def finV (r : Option (List Vt) × Int) : Option (List Vt) × Int := match r.1 with
 | none => r
 | some l => if nodupV l = true then r else (none, r.2)
def scanP (w : List Data) : Nat → Ty → Pat → Int → Option (List Vt) × Int
 | 0, _, _, c => (none, c + 1)
 | n + 1, t, p, c => if 60 < c + 1 then (none, c + 1) else if okP w t p = true then finV (scanK (scanP w n) (decide (p.op = 5)) (typesP w t p) p.kids 0 (nameP t p) (c + 1)) else (none, c + 1)
def wantP (w : List Data) (n : Nat) (t : Ty) (p : Pat) (c : Int) : Bool := shapeP w n t p && (decide (c + (p.size : Int) ≤ 60) && linP w n t p)
theorem lin_nodup (w : List Data) : ∀ (n : Nat) (t : Ty) (p : Pat), shapeP w n t p = true → linP w n t p = true → nodupV (varsP w n t p) = true
 | 0, t, p, h, _ => by simp [shapeP] at h
 | n + 1, t, p, h, hl => by
  by_cases h5 : p.op = 5
  ·simp only [shapeP, linP, Bool.and_eq_true, if_pos h5] at h hl
   have e1 : typesP w t p = [t, t] := by unfold typesP; rw [if_neg (by omega), if_pos h5]
   rw [e1] at h hl
   rcases hk : p.kids with _ | ⟨x, _ | ⟨y, _ | ⟨z, r⟩⟩⟩
   ·rw [hk] at h; simp [all2] at h
   ·rw [hk] at h; simp [all2] at h
   ·rw [hk] at h hl
    simp only [all2, Bool.and_eq_true, and_true] at h hl
    have := lin_nodup w n t x h.2.1 hl.1.1
    have e2 : varsP w (n + 1) t p = varsP w n t x := by
     simp only [varsP, nameP, vtypes, e1, hk, if_pos h5]
     rw [if_neg (by omega)]
     simp [varsL]
    rw [e2]; exact this
   ·rw [hk] at h; simp [all2] at h
  ·simp only [linP, if_neg h5, Bool.and_eq_true] at hl
   rw [← distV_eq]; exact hl.2
theorem scanK_eq {w : List Data} {n : Nat} (ih : ∀ t p c, ((scanP w n t p c).1 = if wantP w n t p c = true then some (varsP w n t p) else none) ∧ (wantP w n t p c = true → (scanP w n t p c).2 = c + p.size)) :
  ∀ (a : List Ty) (b : List Pat) (i : Nat) (acc : List Vt) (c : Int), a.length = b.length → c ≤ 60 →
   ((scanK (scanP w n) false a b i acc c).1 = if (all2 (shapeP w n) a b && (decide (c + (Pats.size b : Int) ≤ 60) && all2 (linP w n) a b)) = true then some (acc ++ varsL (varsP w n) a b) else none) ∧
   ((all2 (shapeP w n) a b && (decide (c + (Pats.size b : Int) ≤ 60) && all2 (linP w n) a b)) = true → (scanK (scanP w n) false a b i acc c).2 = c + Pats.size b)
 | [], [], i, acc, c, _, hc => by simp [scanK, all2, Pats.size, varsL, hc]
 | x :: r, y :: s, i, acc, c, hl, hc => by
  obtain ⟨h1, h2⟩ := ih x y c
  have hps : Pats.size (y :: s) = y.size + Pats.size s := rfl
  simp only [scanK, varsL]
  by_cases hw : wantP w n x y c = true
  ·have h3 := h2 hw
   rw [if_pos hw] at h1
   rw [h1]
   simp only [Bool.false_eq_true, false_and, if_false]
   have h4 := hw
   simp only [wantP, Bool.and_eq_true, decide_eq_true_eq] at h4
   obtain ⟨h5, h6⟩ := scanK_eq ih r s (i + 1) (acc ++ varsP w n x y) (scanP w n x y c).2 (by simpa using hl) (by omega)
   have e : (all2 (shapeP w n) (x :: r) (y :: s) && (decide (c + (Pats.size (y :: s) : Int) ≤ 60) && all2 (linP w n) (x :: r) (y :: s))) = (all2 (shapeP w n) r s && (decide ((scanP w n x y c).2 + (Pats.size s : Int) ≤ 60) && all2 (linP w n) r s)) := by
    rw [all2, all2, h4.1, h4.2.2, h3]
    simp only [Bool.true_and]
    congr 2
    exact decide_eq_decide.2 (by omega)
   rw [e]
   refine ⟨?_, fun hx => ?_⟩
   ·rw [h5, List.append_assoc]
   ·rw [h6 hx, h3]; omega
  ·rw [if_neg hw] at h1
   rw [h1]
   simp only
   have hf : ¬ (all2 (shapeP w n) (x :: r) (y :: s) && (decide (c + (Pats.size (y :: s) : Int) ≤ 60) && all2 (linP w n) (x :: r) (y :: s))) = true := fun h => by
    simp only [all2, Bool.and_eq_true, decide_eq_true_eq] at h
    refine hw ?_
    simp only [wantP, Bool.and_eq_true, decide_eq_true_eq]
    refine ⟨h.1.1, ?_, h.2.2.1⟩
    have := h.2.1
    omega
   rw [if_neg hf]
   exact ⟨rfl, fun h => absurd h hf⟩
 | [], _ :: _, _, _, _, hl, _ => by simp at hl
 | _ :: _, [], _, _, _, hl, _ => by simp at hl
theorem scanP_eq (w : List Data) : ∀ (n : Nat) (t : Ty) (p : Pat) (c : Int), ((scanP w n t p c).1 = if wantP w n t p c = true then some (varsP w n t p) else none) ∧ (wantP w n t p c = true → (scanP w n t p c).2 = c + p.size)
 | 0, t, p, c => by simp [scanP, wantP, shapeP]
 | n + 1, t, p, c => by
  have hsz := Pat.size_eq p
  unfold scanP
  by_cases h1 : 60 < c + 1
  ·have hf : ¬ wantP w (n + 1) t p c = true := fun h => by
    simp only [wantP, Bool.and_eq_true, decide_eq_true_eq] at h; omega
   rw [if_pos h1, if_neg hf]
   exact ⟨rfl, fun h => absurd h hf⟩
  rw [if_neg h1]
  by_cases h2 : okP w t p = true
  ·rw [if_pos h2]
   have h2' := h2
   simp only [okP, Bool.and_eq_true, decide_eq_true_eq] at h2'
   by_cases h5 : p.op = 5
   ·have e1 : typesP w t p = [t, t] := by unfold typesP; rw [if_neg (by omega), if_pos h5]
    have e3 : nameP t p = [] := by unfold nameP; rw [if_neg (by omega)]
    rw [e1] at h2'
    rcases hk : p.kids with _ | ⟨x, _ | ⟨y, _ | ⟨z, r⟩⟩⟩
    ·rw [hk] at h2'; simp at h2'
    ·rw [hk] at h2'; simp at h2'
    ·have e4 : varsP w (n + 1) t p = varsP w n t x := by
      simp only [varsP, vtypes, e1, hk, if_pos h5, e3]
      simp [varsL]
     have e5 : wantP w (n + 1) t p c = ((shapeP w n t x && shapeP w n t y) && (decide (c + 1 + (x.size : Int) + y.size ≤ 60) && ((linP w n t x && linP w n t y) && alikeV (varsP w n t x) (varsP w n t y)))) := by
      simp only [wantP, shapeP, linP, h2'.1, e1, hk, all2, if_pos h5, Bool.and_true, Bool.true_and, nth, List.getD_cons_zero, List.getD_cons_succ]
      congr 2
      refine decide_eq_decide.2 ?_
      rw [hsz, hk]; simp only [Pats.size]; push_cast; omega
     rw [e4, e5, e1, e3]
     obtain ⟨a1, a2⟩ := scanP_eq w n t x (c + 1)
     simp only [scanK, h5, decide_true]
     by_cases w1 : wantP w n t x (c + 1) = true
     ·have a3 := a2 w1
      rw [if_pos w1] at a1
      have b1 := w1
      simp only [wantP, Bool.and_eq_true, decide_eq_true_eq] at b1
      obtain ⟨d1, d2⟩ := scanP_eq w n t y (scanP w n t x (c + 1)).2
      rw [a1]
      simp only [true_and, Nat.zero_ne_one, if_false, List.nil_append]
      by_cases w2 : wantP w n t y (scanP w n t x (c + 1)).2 = true
      ·have d3 := d2 w2
       rw [if_pos w2] at d1
       have b2 := w2
       simp only [wantP, Bool.and_eq_true, decide_eq_true_eq] at b2
       rw [d1]
       simp only [Nat.zero_add, if_true]
       have n1 := lin_nodup w n t x b1.1 b1.2.2
       have n2 := lin_nodup w n t y b2.1 b2.2.2
       have e6 : ((shapeP w n t x && shapeP w n t y) && (decide (c + 1 + (x.size : Int) + y.size ≤ 60) && ((linP w n t x && linP w n t y) && alikeV (varsP w n t x) (varsP w n t y)))) = sameV2 (varsP w n t x) (varsP w n t y) := by
        rw [b1.1, b2.1, b1.2.2, b2.2.2, alike_same n2, decide_eq_true (by omega)]; simp
       rw [e6]
       by_cases hs : sameV2 (varsP w n t x) (varsP w n t y) = true
       ·rw [if_pos hs, if_pos hs]
        simp only [finV, n1, if_true]
        refine ⟨trivial, fun _ => ?_⟩
        rw [d3, a3, hsz, hk]; simp only [Pats.size]; push_cast; omega
       ·rw [if_neg hs, if_neg hs]
        simp only [finV]
        exact ⟨trivial, fun h => absurd h hs⟩
      ·rw [if_neg w2] at d1
       rw [d1]
       simp only [finV]
       have hf : ¬ ((shapeP w n t x && shapeP w n t y) && (decide (c + 1 + (x.size : Int) + y.size ≤ 60) && ((linP w n t x && linP w n t y) && alikeV (varsP w n t x) (varsP w n t y)))) = true := fun h => by
        simp only [Bool.and_eq_true, decide_eq_true_eq] at h
        refine w2 ?_
        simp only [wantP, Bool.and_eq_true, decide_eq_true_eq]
        exact ⟨h.1.2, by omega, h.2.2.1.2⟩
       rw [if_neg hf]
       exact ⟨rfl, fun h => absurd h hf⟩
     ·rw [if_neg w1] at a1
      rw [a1]
      simp only [finV]
      have hf : ¬ ((shapeP w n t x && shapeP w n t y) && (decide (c + 1 + (x.size : Int) + y.size ≤ 60) && ((linP w n t x && linP w n t y) && alikeV (varsP w n t x) (varsP w n t y)))) = true := fun h => by
       simp only [Bool.and_eq_true, decide_eq_true_eq] at h
       refine w1 ?_
       simp only [wantP, Bool.and_eq_true, decide_eq_true_eq]
       exact ⟨h.1.1, by omega, h.2.2.1.1⟩
      rw [if_neg hf]
      exact ⟨rfl, fun h => absurd h hf⟩
    ·rw [hk] at h2'; simp at h2'
   ·have e0 : (decide (p.op = 5)) = false := decide_eq_false h5
    rw [e0]
    obtain ⟨a1, a2⟩ := scanK_eq (fun t p c => scanP_eq w n t p c) (typesP w t p) p.kids 0 (nameP t p) (c + 1) h2'.2.symm (by omega)
    have e4 : varsP w (n + 1) t p = nameP t p ++ varsL (varsP w n) (typesP w t p) p.kids := by simp only [varsP, vtypes, if_neg h5]
    have e5 : wantP w (n + 1) t p c = ((all2 (shapeP w n) (typesP w t p) p.kids && (decide (c + 1 + (Pats.size p.kids : Int) ≤ 60) && all2 (linP w n) (typesP w t p) p.kids)) && nodupV (varsP w (n + 1) t p)) := by
     have : decide (c + (p.size : Int) ≤ 60) = decide (c + 1 + (Pats.size p.kids : Int) ≤ 60) := decide_eq_decide.2 (by omega)
     simp only [wantP, shapeP, linP, h2'.1, if_neg h5, Bool.true_and, distV_eq, this, Bool.and_assoc]
    rw [e5]
    by_cases hw : (all2 (shapeP w n) (typesP w t p) p.kids && (decide (c + 1 + (Pats.size p.kids : Int) ≤ 60) && all2 (linP w n) (typesP w t p) p.kids)) = true
    ·rw [if_pos hw, ← e4] at a1
     have a3 := a2 hw
     rw [hw, Bool.true_and]
     unfold finV
     rw [a1]
     by_cases hn : nodupV (varsP w (n + 1) t p) = true
     ·simp only [hn, if_true]
      exact ⟨a1, fun _ => by rw [a3]; omega⟩
     ·simp only [hn, Bool.false_eq_true, if_false]
      exact ⟨trivial, fun h => absurd h (by simp)⟩
    ·rw [if_neg hw] at a1
     have hw' : (all2 (shapeP w n) (typesP w t p) p.kids && (decide (c + 1 + (Pats.size p.kids : Int) ≤ 60) && all2 (linP w n) (typesP w t p) p.kids)) = false := by simpa using hw
     rw [hw', Bool.false_and]
     unfold finV
     rw [a1]
     simp [a1]
  ·have hf : ¬ wantP w (n + 1) t p c = true := fun h => by
    simp only [wantP, shapeP, Bool.and_eq_true, decide_eq_true_eq] at h
    refine h2 ?_
    simp only [okP, Bool.and_eq_true, decide_eq_true_eq]
    refine ⟨h.1.1, ?_⟩
    by_cases hl : (typesP w t p).length = p.kids.length
    ·exact hl.symm
    ·have := all2_len (f := shapeP w n) hl
     rw [this] at h; simp at h
   rw [if_neg h2, if_neg hf]
   exact ⟨rfl, fun h => absurd h hf⟩
mutual
def cntP (m : Int) : Pat → Int
 | .mk _ _ _ _ _ ks => cntPL m 1 ks
def cntPL (m n : Int) : List Pat → Int
 | [] => n
 | k :: r => if n ≤ m then cntPL m (n + cntP (m - n) k) r else n
end
theorem cntP_eq (m : Int) (v : Pat) : cntP m v = cntPL m 1 v.kids := by cases v; rfl
theorem cntPL_stop {m n : Int} {l : List Pat} (h : ¬ n ≤ m) : cntPL m n l = n := by cases l <;> simp [cntPL, h]
mutual
theorem cntP_le : ∀ (v : Pat) (m : Int), 1 ≤ cntP m v ∧ cntP m v ≤ v.size
 | .mk _ _ _ _ _ ks, m => by
  have := cntPL_le ks m 1 (by omega)
  simp only [cntP, Pat.size]; push_cast; omega
theorem cntPL_le : ∀ (l : List Pat) (m n : Int), 1 ≤ n → 1 ≤ cntPL m n l ∧ cntPL m n l ≤ n + Pats.size l
 | [], m, n, h => by simp [cntPL, Pats.size]; omega
 | k :: r, m, n, h => by
  have h1 := cntP_le k (m - n)
  have h2 := cntPL_le r m (n + cntP (m - n) k) (by omega)
  simp only [cntPL, Pats.size]
  split
  ·push_cast; omega
  ·push_cast; omega
end
mutual
theorem cntP_iff : ∀ (v : Pat) (m : Int), (cntP m v ≤ m ↔ (v.size : Int) ≤ m) ∧ (cntP m v ≤ m → cntP m v = v.size)
 | .mk _ _ _ _ _ ks, m => by
  have := cntPL_iff ks m 1
  simp only [cntP, Pat.size]; push_cast; exact this
theorem cntPL_iff : ∀ (l : List Pat) (m n : Int), (cntPL m n l ≤ m ↔ n + (Pats.size l : Int) ≤ m) ∧ (cntPL m n l ≤ m → cntPL m n l = n + Pats.size l)
 | [], m, n => by simp [cntPL, Pats.size]
 | k :: r, m, n => by
  have h1 := cntP_iff k (m - n)
  have h2 := cntPL_iff r m (n + cntP (m - n) k)
  have h3 := cntPL_le r m (n + cntP (m - n) k)
  have h4 := cntP_le k (m - n)
  simp only [cntPL, Pats.size]
  push_cast
  by_cases hn : n ≤ m
  ·rw [if_pos hn]
   by_cases h5 : cntP (m - n) k ≤ m - n
   ·have h6 := h1.2 h5
    rw [h6] at h2 ⊢
    constructor
    ·rw [h2.1]; constructor <;> intro h <;> omega
    ·intro h; rw [h2.2 h]; omega
   ·have h7 : ¬ (k.size : Int) ≤ m - n := fun h => h5 (h1.1.2 h)
    have h8 : ¬ n + cntP (m - n) k ≤ m := by omega
    rw [cntPL_stop h8]
    constructor
    ·constructor <;> intro h <;> omega
    ·intro h; omega
  ·rw [if_neg hn]
   constructor
   ·constructor <;> intro h <;> omega
   ·intro h; omega
end
theorem Pats.size_split {pre rest l : List Pat} {y : Pat} (h : pre ++ y :: rest = l) : Pats.size l = Pats.size pre + y.size + Pats.size rest := by
 subst h
 induction pre with
 | nil => simp [Pats.size]
 | cons x r ih => simp only [List.cons_append, Pats.size, ih]; omega
theorem pnth_size {l : List Pat} {i : Nat} (h : i < l.length) : (nth l i).size ≤ Pats.size l := Pats.size_mem (nth_mem h)
theorem psize_drop {l : List Pat} {i : Nat} (h : i < l.length) : Pats.size (l.drop i) = (nth l i).size + Pats.size (l.drop (i + 1)) := by
 rw [drop_nth h]; rfl
theorem spec_l3Count_fn : ∀ (n : Nat) {v : Pat} {m : Int}, v.size ≤ n → v.size ≤ 1000000000000 → v.ok → 0 ≤ m → m ≤ 1000000000000 → FnD Tryz.prog 240 [.agg [.d (.i v.op), .d (.i v.ctor), .d (.i v.n), .d (.i v.m), .d (.i v.var), .d (encPats v.kids)], .d (.i m)] [] (.d (.i (cntP m v))) []
 | 0, v, m, h, _, _, _, _ => by rw [Pat.size_eq] at h; omega
 | n + 1, v, m, h, hb, hok, m0, m1 => by
  rw [Pat.size_eq] at h hb
  rw [Pat.ok_iff] at hok
  rw [cntP_eq]
  refine bd Tryz.f240 31 [] [] fun w0 F0 own kept hk => ?_
  refine Walk.box (id := 3002) .none rfl rfl rfl rfl rfl rfl rfl ?_
  refine ev ?_
  refine CWp.loopX (ι := Nat × Int) hk (fun x => [(6, .d (.i (x.1 : Int))), (5, .d (.i x.2))]) [7, 8, 9, 10, 11, 12, 13, 14, 15, 16, 17, 18, 19, 20, 21, 22, 23, 24, 25, 26, 27, 28, 29] (fun x => []) (fun x => x.1 ≤ v.kids.length ∧ cntPL m x.2 (v.kids.drop x.1) = cntPL m 1 v.kids ∧ 1 ≤ x.2 ∧ x.2 + Pats.size (v.kids.drop x.1) ≤ 1 + Pats.size v.kids) (fun x => v.kids.length - x.1) (0, 1) ⟨by simp, by simp, by simp, by simp⟩ ⟨⟨_, rfl, (LeA.eqi (by first | rfl | (simp; done) | (dsimp only; omega)))⟩, ⟨⟨_, rfl, (LeA.eqi (by first | rfl | (simp; done) | (dsimp only; omega)))⟩, trivial⟩⟩ trivial (fun x => rfl) (fun x hg1 => ?_)
  refine evc [] [] ?_
  refine sq (fun h1 h1p h1s => ?_) fun h1 h1p h1s => ?_
  ·try simp only [Q, Pat.cs_len] at h1p
   refine sq (fun h2 h2p h2s => ?_) fun h2 h2p h2s => ?_
   ·try simp only [Q, Pat.cs_len] at h2p
    refine Walk.idx sl49 .none rfl rfl rfl rfl (pats_at (by omega)) rfl ?_
    refine ev ?_
    refine ar ?_ (by first | (constructor <;> omega) | (have hz := cntP_le (nth v.kids x.1) (m - x.2); have hs := psize_drop (l := v.kids) (i := x.1) (by omega); constructor <;> omega) | (constructor <;> simp [Pat.cs_len] <;> omega))
    refine Walk.call (cr := []) cal240 (spec_l3Count_fn n (v := nth v.kids x.1) (by have := pnth_size (l := v.kids) (i := x.1) (by omega); omega) (by have := pnth_size (l := v.kids) (i := x.1) (by omega); omega) (Pats.ok_mem hok.2 _ (nth_mem (by omega))) (by omega) (by omega)) rfl .none rfl rfl (LeL.refl _) trivial rfl rfl rfl ?_
    refine ev ?_
    refine ar ?_ (by first | (constructor <;> omega) | (have hz := cntP_le (nth v.kids x.1) (m - x.2); have hs := psize_drop (l := v.kids) (i := x.1) (by omega); constructor <;> omega) | (constructor <;> simp [Pat.cs_len] <;> omega))
    refine ar ?_ (by first | (constructor <;> omega) | (have hz := cntP_le (nth v.kids x.1) (m - x.2); have hs := psize_drop (l := v.kids) (i := x.1) (by omega); constructor <;> omega) | (constructor <;> simp [Pat.cs_len] <;> omega))
    refine Exists.intro ((x.1 + 1, x.2 + cntP (m - x.2) (nth v.kids x.1))) ⟨(by
        have hz := cntP_le (nth v.kids x.1) (m - x.2)
        have hs := psize_drop (l := v.kids) (i := x.1) (by omega)
        refine ⟨by dsimp only; omega, ?_, by dsimp only; omega, by dsimp only; omega⟩
        rw [← hg1.2.1, drop_nth (l := v.kids) (i := x.1) (by omega), cntPL, if_pos (by omega)]), (by dsimp only; omega), Sub.x (by kernel_rfl) (by kernel_rfl) ⟨⟨_, rfl, (LeA.eqi (by first | rfl | (simp; done) | (dsimp only; omega)))⟩, ⟨⟨_, rfl, (LeA.eqi (by first | rfl | (simp; done) | (dsimp only; omega)))⟩, trivial⟩⟩ (by kernel_rfl) (by kernel_rfl) trivial⟩
   ·try simp only [Q, Pat.cs_len] at h2p
    refine rn0 (r1 rfl) (.eqd ?_)
    all_goals (refine congrArg D.i ?_; rw [← hg1.2.1]; first | (rw [List.drop_eq_nil_of_le (by omega)]; rfl) | (rw [cntPL_stop (by omega)]))
  ·try simp only [Q, Pat.cs_len] at h1p
   refine sqF ?_
   refine rn0 (r1 rfl) (.eqd ?_)
   all_goals (refine congrArg D.i ?_; rw [← hg1.2.1]; first | (rw [List.drop_eq_nil_of_le (by omega)]; rfl) | (rw [cntPL_stop (by omega)]))
end Go.Proofs.YtdgknigklgnefaaGreat
