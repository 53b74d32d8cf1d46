/-
  WALKS: SameValues, in the program.
-/
import Derived.Test.YtadpcmcifbakoaaWv
namespace Go.Proofs.Ytadpcmcifbakoaa
open Go
set_option linter.unusedSimpArgs false
set_option linter.unusedVariables false
set_option maxRecDepth 100000
set_option maxHeartbeats 2000000

def vut (w : List Data) (t : Ty) (m : Int) : List Val × Bool := if typeValid w t && (within m 0 4 && decide (countV w m.toNat t ≤ 400)) then (fullV w m.toNat t, true) else ([], false)
theorem vut_len (w : List Data) (t : Ty) (m : Int) : (vut w t m).1.length ≤ 400 := by
  unfold vut
  split
  · rename_i h
    simp only [Bool.and_eq_true, decide_eq_true_eq] at h
    have := len_of_count h.2.2
    simp only; omega
  · simp
theorem vut_ok {w : List Data} (hs : WSmall w) (t : Ty) (m : Int) : ∀ v ∈ (vut w t m).1, v.ok := by
  unfold vut
  split
  · rename_i h
    rw [Bool.and_eq_true] at h
    exact fullV_ok (tv_wt hs h.1) _ (tv_in h.1)
  · simp
def sameV (w : List Data) (a b : Ty) : Bool × Bool := if (vut w a 2).2 && ((vut w b 2).2 && decide (a.data = b.data)) then (valsEq (vut w a 2).1 (vut w b 2).1, true) else (false, false)

theorem impl_ValuesUpTo_fn {w : List Data} (hs : WSmall w) {a k m : Int} : FnD Try.prog 58 [.d (encDatas w), .agg [.d (.i a), .d (.i k)], .d (.i m)] [] (.tup [.d (encVals (vut w ⟨a, k⟩ m).1), .d (.bool (vut w ⟨a, k⟩ m).2)]) [] := by
  refine Fn.body (fn := Try.f58) (n := 43) rfl rfl rfl rfl rfl (fun w0 F0 own kept hk => ?_)
  refine CWp.seq ?_
  refine CWp.region rfl ?_
  refine Walk.box (id := 3004) .none rfl rfl rfl rfl rfl rfl rfl ?_
  refine Walk.assign .none rfl rfl ?_
  refine Walk.assign .none rfl rfl ?_
  refine ⟨trivial, ?_⟩
  refine CWp.seq ?_
  refine CWp.seq ?_
  refine CWp.region rfl ?_
  refine Walk.move .none rfl rfl ?_
  refine Walk.loadBA ty38 .none rfl rfl rfl rfl ?_
  refine Walk.call (cr := []) cal22 (impl_TypeValid_fn hs) rfl .none rfl rfl (LeL.refl _) trivial rfl rfl rfl ?_
  refine Walk.not .none rfl rfl ?_
  refine Walk.move .none rfl rfl ?_
  refine Walk.split (e := 15) rfl (fun h1 => ?_) (fun h1 => ?_)
  · have h1p := h1; have h1s := h1; try simp only [Bool.not_eq_true', Bool.not_eq_false', Bool.not_not] at h1s
    try simp only [Bool.not_eq_true', Bool.not_eq_false', decide_eq_true_eq, decide_eq_false_iff_not, Bool.not_not, List.length_map, Bool.and_eq_true, Bool.or_eq_false_iff, within, Val.cs_len] at h1p
    refine Walk.pass rfl rfl rfl h1 rfl rfl ?_
    refine Walk.pass rfl rfl rfl h1 rfl rfl ?_
    refine Walk.pass rfl rfl rfl h1 rfl rfl ?_
    refine Walk.pickT .none rfl rfl h1 rfl ?_
    refine Walk.move .none rfl rfl ?_
    refine Walk.pass rfl rfl rfl rfl rfl rfl ?_
    refine Walk.pass rfl rfl rfl rfl rfl rfl ?_
    refine Walk.pass rfl rfl rfl rfl rfl rfl ?_
    refine Walk.pass rfl rfl rfl rfl rfl rfl ?_
    refine Walk.pass rfl rfl rfl rfl rfl rfl ?_
    refine Walk.pickT .none rfl rfl rfl rfl ?_
    refine ⟨trivial, ?_⟩
    refine CWp.cond rfl (fun h2 => ?_) (fun h2 => ?_)
    · have h2p := h2; have h2s := h2; try simp only [Bool.not_eq_true', Bool.not_eq_false', Bool.not_not] at h2s
      try simp only [Bool.not_eq_true', Bool.not_eq_false', decide_eq_true_eq, decide_eq_false_iff_not, Bool.not_not, List.length_map, Bool.and_eq_true, Bool.or_eq_false_iff, within, Val.cs_len] at h2p
      refine CWp.seq ?_
      refine CWp.region rfl ?_
      refine Walk.assign .none rfl rfl ?_
      refine Walk.assign .none rfl rfl ?_
      refine ⟨trivial, ?_⟩
      refine CWp.ret ?_
      refine ⟨_, _, [], (.cons (.tmp rfl) (.cons (.tmp rfl) .nil)), (.tup (.cons (.nild ?_) (.cons (.eqd ?_) .nil))), ⟨rfl, rfl⟩, HSub.nil, noBox⟩
      all_goals (first | (simp [vut, Val.cs, h1s, h1p, h2s, h2p]; done) | (simp only [vut]; rw [if_neg (by intro hh; simp [within] at hh; omega)]; rfl) | (simp only [vut]; rw [if_neg (by intro hh; simp [within] at hh; omega)]; done) | (rw [List.append_nil] at hg1; subst hg1; simp only [vut]; rw [if_pos (by simp [within, h1s, h1p, h2s, h2p]; omega), Val.cs_cc]; done) | (simp only [vut]; rw [if_pos (by simp [within, h1s, h1p, h2s, h2p]; omega)]; done))
    · exact absurd h2 (by simp)
  · have h1p := h1; have h1s := h1; try simp only [Bool.not_eq_true', Bool.not_eq_false', Bool.not_not] at h1s
    try simp only [Bool.not_eq_true', Bool.not_eq_false', decide_eq_true_eq, decide_eq_false_iff_not, Bool.not_not, List.length_map, Bool.and_eq_true, Bool.or_eq_false_iff, within, Val.cs_len] at h1p
    refine Walk.move (.some rfl rfl h1) rfl rfl ?_
    refine Walk.call (cr := []) cal52 (impl_within_fn) rfl (.some rfl rfl h1) rfl rfl (LeL.refl _) trivial rfl rfl rfl ?_
    refine Walk.not (.some rfl rfl h1) rfl rfl ?_
    refine Walk.pickF .none rfl rfl h1 rfl ?_
    refine Walk.move .none rfl rfl ?_
    refine Walk.split (e := 20) rfl (fun h3 => ?_) (fun h3 => ?_)
    · have h3p := h3; have h3s := h3; try simp only [Bool.not_eq_true', Bool.not_eq_false', Bool.not_not] at h3s
      try simp only [Bool.not_eq_true', Bool.not_eq_false', decide_eq_true_eq, decide_eq_false_iff_not, Bool.not_not, List.length_map, Bool.and_eq_true, Bool.or_eq_false_iff, within, Val.cs_len] at h3p
      refine Walk.pass rfl rfl rfl h3 rfl rfl ?_
      refine Walk.pass rfl rfl rfl h3 rfl rfl ?_
      refine Walk.pass rfl rfl rfl h3 rfl rfl ?_
      refine Walk.pass rfl rfl rfl h3 rfl rfl ?_
      refine Walk.pass rfl rfl rfl h3 rfl rfl ?_
      refine Walk.pickT .none rfl rfl h3 rfl ?_
      refine ⟨trivial, ?_⟩
      refine CWp.cond rfl (fun h4 => ?_) (fun h4 => ?_)
      · have h4p := h4; have h4s := h4; try simp only [Bool.not_eq_true', Bool.not_eq_false', Bool.not_not] at h4s
        try simp only [Bool.not_eq_true', Bool.not_eq_false', decide_eq_true_eq, decide_eq_false_iff_not, Bool.not_not, List.length_map, Bool.and_eq_true, Bool.or_eq_false_iff, within, Val.cs_len] at h4p
        refine CWp.seq ?_
        refine CWp.region rfl ?_
        refine Walk.assign .none rfl rfl ?_
        refine Walk.assign .none rfl rfl ?_
        refine ⟨trivial, ?_⟩
        refine CWp.ret ?_
        refine ⟨_, _, [], (.cons (.tmp rfl) (.cons (.tmp rfl) .nil)), (.tup (.cons (.nild ?_) (.cons (.eqd ?_) .nil))), ⟨rfl, rfl⟩, HSub.nil, noBox⟩
        all_goals (first | (simp [vut, Val.cs, h1s, h1p, h3s, h3p, h4s, h4p]; done) | (simp only [vut]; rw [if_neg (by intro hh; simp [within] at hh; omega)]; rfl) | (simp only [vut]; rw [if_neg (by intro hh; simp [within] at hh; omega)]; done) | (rw [List.append_nil] at hg1; subst hg1; simp only [vut]; rw [if_pos (by simp [within, h1s, h1p, h3s, h3p, h4s, h4p]; omega), Val.cs_cc]; done) | (simp only [vut]; rw [if_pos (by simp [within, h1s, h1p, h3s, h3p, h4s, h4p]; omega)]; done))
      · exact absurd h4 (by simp)
    · have h3p := h3; have h3s := h3; try simp only [Bool.not_eq_true', Bool.not_eq_false', Bool.not_not] at h3s
      try simp only [Bool.not_eq_true', Bool.not_eq_false', decide_eq_true_eq, decide_eq_false_iff_not, Bool.not_not, List.length_map, Bool.and_eq_true, Bool.or_eq_false_iff, within, Val.cs_len] at h3p
      refine Walk.move (.some rfl rfl h3) rfl rfl ?_
      refine Walk.loadBA ty38 (.some rfl rfl h3) rfl rfl rfl rfl ?_
      refine Walk.move (.some rfl rfl h3) rfl rfl ?_
      refine Walk.call (cr := []) cal94 (impl_countValues_fn (tv_wt hs (by assumption)) m.toNat (by omega) (by omega) (tv_in (by assumption))) rfl (.some rfl rfl h3) rfl rfl (LeL.refl _) trivial rfl rfl rfl ?_
      refine Walk.gtI (.some rfl rfl h3) rfl rfl rfl ?_
      refine Walk.pickF .none rfl rfl h3 rfl ?_
      refine ⟨trivial, ?_⟩
      refine CWp.cond rfl (fun h5 => ?_) (fun h5 => ?_)
      · have h5p := h5; have h5s := h5; try simp only [Bool.not_eq_true', Bool.not_eq_false', Bool.not_not] at h5s
        try simp only [Bool.not_eq_true', Bool.not_eq_false', decide_eq_true_eq, decide_eq_false_iff_not, Bool.not_not, List.length_map, Bool.and_eq_true, Bool.or_eq_false_iff, within, Val.cs_len] at h5p
        refine CWp.seq ?_
        refine CWp.region rfl ?_
        refine Walk.assign .none rfl rfl ?_
        refine Walk.assign .none rfl rfl ?_
        refine ⟨trivial, ?_⟩
        refine CWp.ret ?_
        refine ⟨_, _, [], (.cons (.tmp rfl) (.cons (.tmp rfl) .nil)), (.tup (.cons (.nild ?_) (.cons (.eqd ?_) .nil))), ⟨rfl, rfl⟩, HSub.nil, noBox⟩
        all_goals (first | (simp [vut, Val.cs, h1s, h1p, h3s, h3p, h5s, h5p]; done) | (simp only [vut]; rw [if_neg (by intro hh; simp [within] at hh; omega)]; rfl) | (simp only [vut]; rw [if_neg (by intro hh; simp [within] at hh; omega)]; done) | (rw [List.append_nil] at hg1; subst hg1; simp only [vut]; rw [if_pos (by simp [within, h1s, h1p, h3s, h3p, h5s, h5p]; omega), Val.cs_cc]; done) | (simp only [vut]; rw [if_pos (by simp [within, h1s, h1p, h3s, h3p, h5s, h5p]; omega)]; done))
      · have h5p := h5; have h5s := h5; try simp only [Bool.not_eq_true', Bool.not_eq_false', Bool.not_not] at h5s
        try simp only [Bool.not_eq_true', Bool.not_eq_false', decide_eq_true_eq, decide_eq_false_iff_not, Bool.not_not, List.length_map, Bool.and_eq_true, Bool.or_eq_false_iff, within, Val.cs_len] at h5p
        refine CWp.skip ?_
        refine CWp.seq ?_
        refine CWp.region rfl ?_
        refine Walk.assignNil 1 3 .none rfl rfl ?_
        refine ⟨trivial, ?_⟩
        refine CWp.seq ?_
        refine CWp.seq ?_
        refine CWp.region rfl ?_
        refine Walk.move .none rfl rfl ?_
        refine Walk.loadBA ty38 .none rfl rfl rfl rfl ?_
        refine Walk.move .none rfl rfl ?_
        refine Walk.call (cr := []) cal95 (impl_values_fn (tv_wt hs (by assumption)) m.toNat (by omega) (by omega) (tv_in (by assumption)) (by omega)) rfl .none rfl rfl (LeL.refl _) trivial rfl rfl rfl ?_
        refine Walk.len sl52 .none rfl rfl ?_
        refine Walk.move .none rfl rfl ?_
        refine ⟨trivial, ?_⟩
        refine CWp.block ?_
        refine CWp.loopX (ι := List (Val) × List (Val)) hk (fun x => [(32, .d (.i (x.1.length : Int))), (8, .gl 1 (x.1.map Val.cc))]) [10, 33, 34, 35, 36, 37, 38, 39, 40, 41] (fun x => [(1, some (.tok ((x.1.map Val.cc)).length 3))]) (fun x => x.1 ++ x.2 = fullV w m.toNat ⟨a, k⟩) (fun x => x.2.length) ([], fullV w m.toNat ⟨a, k⟩) (by simp) ⟨⟨_, rfl, (LeA.eqi (by first | rfl | (simp; done)))⟩, ⟨⟨_, rfl, (LeA.glg (by first | rfl | (simp; done)))⟩, trivial⟩⟩ ⟨beq_nat_eq (by first | rfl | (simp; done) | (simp; omega) | (first | rfl | (simp; done))), trivial⟩ (fun x => rfl) (fun x hg1 => ?_)
        obtain ⟨pre, rest⟩ := x
        dsimp only at hg1 ⊢
        have hlen := len_of_count (w := w) (n := m.toNat) (t := ⟨a, k⟩) (by omega)
        refine CWp.seq ?_
        refine CWp.region rfl ?_
        refine Walk.ltI .none rfl rfl rfl ?_
        refine ⟨trivial, ?_⟩
        refine CWp.seq ?_
        refine CWp.cond rfl (fun h6 => ?_) (fun h6 => ?_)
        · have h6p := h6; have h6s := h6; try simp only [Bool.not_eq_true', Bool.not_eq_false', Bool.not_not] at h6s
          try simp only [Bool.not_eq_true', Bool.not_eq_false', decide_eq_true_eq, decide_eq_false_iff_not, Bool.not_not, List.length_map, Bool.and_eq_true, Bool.or_eq_false_iff, within, Val.cs_len] at h6p
          rcases rest with _ | ⟨y, rest⟩
          · exfalso; simp_all
          refine CWp.skip ?_
          refine CWp.seq ?_
          refine CWp.block ?_
          refine CWp.seq ?_
          refine CWp.region rfl ?_
          refine Walk.idx sl52 .none rfl rfl rfl rfl (Val.cs_at hg1) rfl ?_
          refine Walk.loadPA ty54 .none rfl rfl rfl rfl ?_
          refine Walk.alloc (id := 3010) tz54 rfl .none rfl rfl rfl rfl ?_
          refine Walk.store ty54 .none rfl rfl rfl rfl rfl rfl (by simp) rfl ?_
          refine ⟨trivial, ?_⟩
          refine CWp.region rfl ?_
          refine Walk.move .none rfl rfl ?_
          refine Walk.loadBA ty54 .none rfl rfl rfl rfl ?_
          refine Walk.call (cr := []) cal96 (impl_ownValue_fn y.size (Nat.le_refl _) (fullV_ok (tv_wt hs (by assumption)) m.toNat (tv_in (t := ⟨a, k⟩) (by assumption)) y (by rw [← hg1]; simp))) rfl .none rfl rfl (LeL.refl _) trivial rfl rfl rfl ?_
          refine Walk.sliceLit sl52 tz54 rfl (by decide) (ks := [0]) (xs := [_]) rfl rfl (by decide) (by decide) .none rfl rfl rfl rfl ?_
          refine Walk.append sl52 zz54 rfl .none rfl rfl rfl rfl (htokL rfl (by first | rfl | (simp; done) | (simp; omega))) (by simp) (by have h9 := congrArg List.length hg1; simp at h9; simp; omega) (by have h9 := congrArg List.length hg1; simp at h9; simp; omega) ?_
          refine Walk.assign .none rfl rfl ?_
          refine ⟨trivial, ?_⟩
          refine CWp.region rfl ?_
          refine Walk.addI .none rfl rfl rfl (by first | (constructor <;> omega) | (constructor <;> simp <;> omega)) ?_
          refine Walk.move .none rfl rfl ?_
          refine ⟨trivial, ?_⟩
          refine ⟨(pre ++ [y], rest), (by have hz := hg1; rw [← hz]; simp), (by simp), Sub.x (by kernel_rfl) (by kernel_rfl) ⟨⟨_, rfl, (LeA.eqi (by first | rfl | (simp; done)))⟩, ⟨⟨_, rfl, (LeA.glg (by first | rfl | (simp; done)))⟩, trivial⟩⟩ (by kernel_rfl) (by kernel_rfl) ⟨beq_nat_eq (by first | rfl | (simp; done) | (simp; omega) | (first | rfl | (simp; done))), trivial⟩⟩
        · have h6p := h6; have h6s := h6; try simp only [Bool.not_eq_true', Bool.not_eq_false', Bool.not_not] at h6s
          try simp only [Bool.not_eq_true', Bool.not_eq_false', decide_eq_true_eq, decide_eq_false_iff_not, Bool.not_not, List.length_map, Bool.and_eq_true, Bool.or_eq_false_iff, within, Val.cs_len] at h6p
          have hrest : rest = [] := by
            rcases rest with _ | ⟨a, b⟩
            · rfl
            · exfalso; have hz := congrArg List.length (hg1); simp only [List.length_append, List.length_cons, List.length_map] at hz; omega
          subst hrest
          refine CWp.exit ?_
          refine CWp.seq ?_
          refine CWp.region rfl ?_
          refine Walk.move .none rfl rfl ?_
          refine Walk.assign .none rfl rfl ?_
          refine Walk.assign .none rfl rfl ?_
          refine ⟨trivial, ?_⟩
          refine CWp.ret ?_
          refine ⟨_, _, [], (.cons (.tmp rfl) (.cons (.tmp rfl) .nil)), (.tup (.cons (.gld ?_) (.cons (.eqd ?_) .nil))), ⟨rfl, rfl⟩, HSub.nil, noBox⟩
          all_goals (first | (simp [vut, Val.cs, h1s, h1p, h3s, h3p, h5s, h5p, h6s, h6p]; done) | (simp only [vut]; rw [if_neg (by intro hh; simp [within] at hh; omega)]; rfl) | (simp only [vut]; rw [if_neg (by intro hh; simp [within] at hh; omega)]; done) | (rw [List.append_nil] at hg1; subst hg1; simp only [vut]; rw [if_pos (by simp [within, h1s, h1p, h3s, h3p, h5s, h5p, h6s, h6p]; omega), Val.cs_cc]; done) | (simp only [vut]; rw [if_pos (by simp [within, h1s, h1p, h3s, h3p, h5s, h5p, h6s, h6p]; omega)]; done))

theorem impl_SameValues_fn {w : List Data} (hs : WSmall w) {a k a' k' : Int} : FnD Try.prog 25 [.d (encDatas w), .agg [.d (.i a), .d (.i k)], .agg [.d (.i a'), .d (.i k')]] [] (.tup [.d (.bool (sameV w ⟨a, k⟩ ⟨a', k'⟩).1), .d (.bool (sameV w ⟨a, k⟩ ⟨a', k'⟩).2)]) [] := by
  refine Fn.body (fn := Try.f25) (n := 40) rfl rfl rfl rfl rfl (fun w0 F0 own kept hk => ?_)
  refine CWp.seq ?_
  refine CWp.region rfl ?_
  refine Walk.box (id := 3004) .none rfl rfl rfl rfl rfl rfl rfl ?_
  refine Walk.box (id := 3005) .none rfl rfl rfl rfl rfl rfl rfl ?_
  refine Walk.assign .none rfl rfl ?_
  refine Walk.assign .none rfl rfl ?_
  refine ⟨trivial, ?_⟩
  refine CWp.seq ?_
  refine CWp.region rfl ?_
  refine Walk.move .none rfl rfl ?_
  refine Walk.loadBA ty38 .none rfl rfl rfl rfl ?_
  refine Walk.call (cr := []) cal58 (impl_ValuesUpTo_fn hs) rfl .none rfl rfl (LeL.refl _) trivial rfl rfl rfl ?_
  refine Walk.move .none rfl rfl ?_
  refine Walk.extract .none rfl rfl rfl ?_
  refine Walk.extract .none rfl rfl rfl ?_
  refine Walk.assign .none rfl rfl ?_
  refine Walk.assign .none rfl rfl ?_
  refine ⟨trivial, ?_⟩
  refine CWp.seq ?_
  refine CWp.region rfl ?_
  refine Walk.move .none rfl rfl ?_
  refine Walk.loadBA ty38 .none rfl rfl rfl rfl ?_
  refine Walk.call (cr := []) cal58 (impl_ValuesUpTo_fn hs) rfl .none rfl rfl (LeL.refl _) trivial rfl rfl rfl ?_
  refine Walk.move .none rfl rfl ?_
  refine Walk.extract .none rfl rfl rfl ?_
  refine Walk.extract .none rfl rfl rfl ?_
  refine Walk.assign .none rfl rfl ?_
  refine Walk.assign .none rfl rfl ?_
  refine ⟨trivial, ?_⟩
  refine CWp.seq ?_
  refine CWp.seq ?_
  refine CWp.region rfl ?_
  refine Walk.move .none rfl rfl ?_
  refine Walk.not .none rfl rfl ?_
  refine Walk.move .none rfl rfl ?_
  refine Walk.split (e := 26) rfl (fun h1 => ?_) (fun h1 => ?_)
  · have h1p := h1; have h1s := h1; try simp only [Bool.not_eq_true', Bool.not_eq_false', Bool.not_not] at h1s
    try simp only [Bool.not_eq_true', Bool.not_eq_false', decide_eq_true_eq, decide_eq_false_iff_not, Bool.not_not, List.length_map, Bool.and_eq_true, Bool.or_eq_false_iff] at h1p
    refine Walk.pass rfl rfl rfl h1 rfl rfl ?_
    refine Walk.pass rfl rfl rfl h1 rfl rfl ?_
    refine Walk.pickT .none rfl rfl h1 rfl ?_
    refine Walk.move .none rfl rfl ?_
    refine Walk.pass rfl rfl rfl rfl rfl rfl ?_
    refine Walk.pass rfl rfl rfl rfl rfl rfl ?_
    refine Walk.pass rfl rfl rfl rfl rfl rfl ?_
    refine Walk.pass rfl rfl rfl rfl rfl rfl ?_
    refine Walk.pass rfl rfl rfl rfl rfl rfl ?_
    refine Walk.pickT .none rfl rfl rfl rfl ?_
    refine ⟨trivial, ?_⟩
    refine CWp.cond rfl (fun h2 => ?_) (fun h2 => ?_)
    · have h2p := h2; have h2s := h2; try simp only [Bool.not_eq_true', Bool.not_eq_false', Bool.not_not] at h2s
      try simp only [Bool.not_eq_true', Bool.not_eq_false', decide_eq_true_eq, decide_eq_false_iff_not, Bool.not_not, List.length_map, Bool.and_eq_true, Bool.or_eq_false_iff] at h2p
      refine CWp.seq ?_
      refine CWp.region rfl ?_
      refine Walk.assign .none rfl rfl ?_
      refine Walk.assign .none rfl rfl ?_
      refine ⟨trivial, ?_⟩
      refine CWp.ret ?_
      refine ⟨_, _, [], (.cons (.tmp rfl) (.cons (.tmp rfl) .nil)), (.tup (.cons (.eqd ?_) (.cons (.eqd ?_) .nil))), ⟨rfl, rfl⟩, HSub.nil, noBox⟩
      all_goals (first | (simp [sameV, h1s, h1p, h2s, h2p]; done) | (have e : a = a' := (by omega); subst e; simp [sameV, h1s, h1p, h2s, h2p]; done))
    · exact absurd h2 (by simp)
  · have h1p := h1; have h1s := h1; try simp only [Bool.not_eq_true', Bool.not_eq_false', Bool.not_not] at h1s
    try simp only [Bool.not_eq_true', Bool.not_eq_false', decide_eq_true_eq, decide_eq_false_iff_not, Bool.not_not, List.length_map, Bool.and_eq_true, Bool.or_eq_false_iff] at h1p
    refine Walk.move (.some rfl rfl h1) rfl rfl ?_
    refine Walk.not (.some rfl rfl h1) rfl rfl ?_
    refine Walk.pickF .none rfl rfl h1 rfl ?_
    refine Walk.move .none rfl rfl ?_
    refine Walk.split (e := 30) rfl (fun h3 => ?_) (fun h3 => ?_)
    · have h3p := h3; have h3s := h3; try simp only [Bool.not_eq_true', Bool.not_eq_false', Bool.not_not] at h3s
      try simp only [Bool.not_eq_true', Bool.not_eq_false', decide_eq_true_eq, decide_eq_false_iff_not, Bool.not_not, List.length_map, Bool.and_eq_true, Bool.or_eq_false_iff] at h3p
      refine Walk.pass rfl rfl rfl h3 rfl rfl ?_
      refine Walk.pass rfl rfl rfl h3 rfl rfl ?_
      refine Walk.pass rfl rfl rfl h3 rfl rfl ?_
      refine Walk.pass rfl rfl rfl h3 rfl rfl ?_
      refine Walk.pass rfl rfl rfl h3 rfl rfl ?_
      refine Walk.pickT .none rfl rfl h3 rfl ?_
      refine ⟨trivial, ?_⟩
      refine CWp.cond rfl (fun h4 => ?_) (fun h4 => ?_)
      · have h4p := h4; have h4s := h4; try simp only [Bool.not_eq_true', Bool.not_eq_false', Bool.not_not] at h4s
        try simp only [Bool.not_eq_true', Bool.not_eq_false', decide_eq_true_eq, decide_eq_false_iff_not, Bool.not_not, List.length_map, Bool.and_eq_true, Bool.or_eq_false_iff] at h4p
        refine CWp.seq ?_
        refine CWp.region rfl ?_
        refine Walk.assign .none rfl rfl ?_
        refine Walk.assign .none rfl rfl ?_
        refine ⟨trivial, ?_⟩
        refine CWp.ret ?_
        refine ⟨_, _, [], (.cons (.tmp rfl) (.cons (.tmp rfl) .nil)), (.tup (.cons (.eqd ?_) (.cons (.eqd ?_) .nil))), ⟨rfl, rfl⟩, HSub.nil, noBox⟩
        all_goals (first | (simp [sameV, h1s, h1p, h3s, h3p, h4s, h4p]; done) | (have e : a = a' := (by omega); subst e; simp [sameV, h1s, h1p, h3s, h3p, h4s, h4p]; done))
      · exact absurd h4 (by simp)
    · have h3p := h3; have h3s := h3; try simp only [Bool.not_eq_true', Bool.not_eq_false', Bool.not_not] at h3s
      try simp only [Bool.not_eq_true', Bool.not_eq_false', decide_eq_true_eq, decide_eq_false_iff_not, Bool.not_not, List.length_map, Bool.and_eq_true, Bool.or_eq_false_iff] at h3p
      refine Walk.fieldB fd38_0 (.some rfl rfl h3) rfl rfl ?_
      refine Walk.loadB ty3 (.some rfl rfl h3) rfl rfl rfl rfl ?_
      refine Walk.fieldB fd38_0 (.some rfl rfl h3) rfl rfl ?_
      refine Walk.loadB ty3 (.some rfl rfl h3) rfl rfl rfl rfl ?_
      refine Walk.neI (.some rfl rfl h3) rfl rfl rfl ?_
      refine Walk.pickF .none rfl rfl h3 rfl ?_
      refine ⟨trivial, ?_⟩
      refine CWp.cond rfl (fun h5 => ?_) (fun h5 => ?_)
      · have h5p := h5; have h5s := h5; try simp only [Bool.not_eq_true', Bool.not_eq_false', Bool.not_not] at h5s
        try simp only [Bool.not_eq_true', Bool.not_eq_false', decide_eq_true_eq, decide_eq_false_iff_not, Bool.not_not, List.length_map, Bool.and_eq_true, Bool.or_eq_false_iff] at h5p
        refine CWp.seq ?_
        refine CWp.region rfl ?_
        refine Walk.assign .none rfl rfl ?_
        refine Walk.assign .none rfl rfl ?_
        refine ⟨trivial, ?_⟩
        refine CWp.ret ?_
        refine ⟨_, _, [], (.cons (.tmp rfl) (.cons (.tmp rfl) .nil)), (.tup (.cons (.eqd ?_) (.cons (.eqd ?_) .nil))), ⟨rfl, rfl⟩, HSub.nil, noBox⟩
        all_goals (first | (simp [sameV, h1s, h1p, h3s, h3p, h5s, h5p]; done) | (have e : a = a' := (by omega); subst e; simp [sameV, h1s, h1p, h3s, h3p, h5s, h5p]; done))
      · have h5p := h5; have h5s := h5; try simp only [Bool.not_eq_true', Bool.not_eq_false', Bool.not_not] at h5s
        try simp only [Bool.not_eq_true', Bool.not_eq_false', decide_eq_true_eq, decide_eq_false_iff_not, Bool.not_not, List.length_map, Bool.and_eq_true, Bool.or_eq_false_iff] at h5p
        refine CWp.skip ?_
        refine CWp.seq ?_
        refine CWp.region rfl ?_
        refine Walk.move .none rfl rfl ?_
        refine Walk.move .none rfl rfl ?_
        refine Walk.call (cr := []) cal59 (slices_EqualFunc_Val_fn (by have := vut_len w ⟨a, k⟩ 2; omega) cal60 (fun x hx y => impl_ValueSame_fn x.size (Nat.le_refl _) (vut_ok hs _ _ x hx))) rfl .none rfl rfl (LeL.refl _) trivial rfl rfl rfl ?_
        refine Walk.assign .none rfl rfl ?_
        refine Walk.assign .none rfl rfl ?_
        refine ⟨trivial, ?_⟩
        refine CWp.ret ?_
        refine ⟨_, _, [], (.cons (.tmp rfl) (.cons (.tmp rfl) .nil)), (.tup (.cons (.eqd ?_) (.cons (.eqd ?_) .nil))), ⟨rfl, rfl⟩, HSub.nil, noBox⟩
        all_goals (first | (simp [sameV, h1s, h1p, h3s, h3p, h5s, h5p]; done) | (have e : a = a' := (by omega); subst e; simp [sameV, h1s, h1p, h3s, h3p, h5s, h5p]; done))

end Go.Proofs.Ytadpcmcifbakoaa
