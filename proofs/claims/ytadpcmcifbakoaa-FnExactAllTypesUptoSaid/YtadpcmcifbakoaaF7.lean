/-
  WALKS: values up to a depth, in the program.
-/
import Derived.Test.YtadpcmcifbakoaaVal
namespace Go.Proofs.Ytadpcmcifbakoaa
open Go
set_option linter.unusedSimpArgs false
set_option linter.unusedVariables false
set_option maxRecDepth 100000
set_option maxHeartbeats 2000000

theorem Val.cs_cc (l : List Val) : Val.cs l = l.map Val.cc := by
  rw [Val.cs_eq]; exact List.map_congr_left (fun v _ => Val.c_eq v)
theorem Val.cc_mk (a n : Int) (k : List Val) : Val.cc (Val.mk a n k) = [.i a, .i n, .sl (Val.cs k)] := rfl

theorem slices_Clone_Val_fn {xs : List Val} (hs : xs.length ≤ 1000000000000) : FnD Try.prog 127 [.d (encVals xs)] [] (.gl 77 (Val.cs xs)) [(77, some (.tok (Val.cs xs).length 3))] := by
  refine Fn.body (fn := Try.f127) (n := 8) rfl rfl rfl rfl rfl (fun w0 F0 own kept hk => ?_)
  refine CWp.splitNil 0 rfl (fun hx0 => ?_) ?_
  ·
    refine CWp.seq ?_
    refine CWp.region rfl ?_
    refine Walk.assign .none rfl rfl ?_
    refine ⟨trivial, ?_⟩
    refine CWp.seq ?_
    refine CWp.seq ?_
    refine CWp.region rfl ?_
    refine Walk.move .none rfl rfl ?_
    refine Walk.eqNilT sl52 .none rfl rfl ?_
    refine ⟨trivial, ?_⟩
    refine CWp.cond rfl (fun h1 => ?_) (fun h1 => ?_)
    · have h1p := h1; have h1s := h1; try simp only [Bool.not_eq_true', Bool.not_eq_false', Bool.not_not] at h1s
      try simp only [Bool.not_eq_true', Bool.not_eq_false', decide_eq_true_eq, decide_eq_false_iff_not, Bool.not_not, List.length_map, Bool.and_eq_true, Bool.or_eq_false_iff] at h1p
      refine CWp.seq ?_
      refine CWp.region rfl ?_
      refine Walk.assignNil 77 3 .none rfl rfl ?_
      refine ⟨trivial, ?_⟩
      refine CWp.ret ?_
      refine ⟨_, _, [(77, some (.tok (Val.cs xs).length 3))], (.cons (.tmp rfl) .nil), (.glg ?_), ⟨rfl, rfl⟩, (SubH.get ⟨(by first | rfl | (simp [hx0]; rfl) | (simp; rfl)), trivial⟩), (boxOK rfl)⟩
      all_goals (first | rfl | exact hx0.symm | (simp; done))
    · exact absurd h1 (by simp)
  ·
    refine CWp.seq ?_
    refine CWp.region rfl ?_
    refine Walk.assign .none rfl rfl ?_
    refine ⟨trivial, ?_⟩
    refine CWp.seq ?_
    refine CWp.seq ?_
    refine CWp.region rfl ?_
    refine Walk.move .none rfl rfl ?_
    refine Walk.eqNilF sl52 .none rfl rfl ?_
    refine ⟨trivial, ?_⟩
    refine CWp.cond rfl (fun h2 => ?_) (fun h2 => ?_)
    · exact absurd h2 (by simp)
    · have h2p := h2; have h2s := h2; try simp only [Bool.not_eq_true', Bool.not_eq_false', Bool.not_not] at h2s
      try simp only [Bool.not_eq_true', Bool.not_eq_false', decide_eq_true_eq, decide_eq_false_iff_not, Bool.not_not, List.length_map, Bool.and_eq_true, Bool.or_eq_false_iff] at h2p
      refine CWp.skip ?_
      refine CWp.seq ?_
      refine CWp.region rfl ?_
      refine Walk.sliceEmptyG 77 sl52 .none rfl rfl ?_
      refine Walk.move .none rfl rfl ?_
      refine Walk.append sl52 zz54 rfl .none rfl rfl rfl rfl (htokL rfl (by first | rfl | (simp; done) | (simp; omega))) (by intro y hy; rw [Val.cs_cc] at hy; obtain ⟨z, _, rfl⟩ := List.mem_map.1 hy; rfl) (by simp [Val.cs_len]; omega) (by simp [Val.cs_len]; omega) ?_
      refine Walk.assign .none rfl rfl ?_
      refine ⟨trivial, ?_⟩
      refine CWp.ret ?_
      refine ⟨_, _, [(77, some (.tok (Val.cs xs).length 3))], (.cons (.tmp rfl) .nil), (.glg ?_), ⟨rfl, rfl⟩, (SubH.get ⟨(by first | rfl | (simp [hx0]; rfl) | (simp; rfl)), trivial⟩), (boxOK rfl)⟩
      all_goals (first | rfl | exact hx0.symm | (simp; done))

theorem impl_ownValue_fn : ∀ (n : Nat) {v : Val}, v.size ≤ n → v.ok → FnD Try.prog 96 [.agg [.d (.i v.ctor), .d (.i v.num), .d (encVals v.kids)]] [] (.agg [.d (.i v.ctor), .d (.i v.num), .d (encVals v.kids)]) []
  | 0, v, h, _ => by rw [Val.size_eq] at h; omega
  | n + 1, v, h, hok => by
    rw [Val.size_eq] at h
    rw [Val.ok_iff] at hok
    have hok1 := hok.1
    refine Fn.body (fn := Try.f96) (n := 27) rfl rfl rfl rfl rfl (fun w0 F0 own kept hk => ?_)
    refine CWp.seq ?_
    refine CWp.region rfl ?_
    refine Walk.box (id := 3001) .none rfl rfl rfl rfl rfl rfl rfl ?_
    refine Walk.alloc (id := 3002) tz54 rfl .none rfl rfl rfl rfl ?_
    refine ⟨trivial, ?_⟩
    refine CWp.seq ?_
    refine CWp.region rfl ?_
    refine Walk.fieldB fd54_0 .none rfl rfl ?_
    refine Walk.loadB ty3 .none rfl rfl rfl rfl ?_
    refine Walk.fieldB fd54_1 .none rfl rfl ?_
    refine Walk.loadB ty3 .none rfl rfl rfl rfl ?_
    refine Walk.build st54 (ks := [0, 1]) (xs := [_, _]) rfl rfl .none rfl rfl rfl ?_
    refine Walk.alloc (id := 3003) tz54 rfl .none rfl rfl rfl rfl ?_
    refine Walk.store ty54 .none rfl rfl rfl rfl rfl rfl (by simp) rfl ?_
    refine ⟨trivial, ?_⟩
    refine CWp.seq ?_
    refine CWp.seq ?_
    refine CWp.region rfl ?_
    refine Walk.fieldB fd54_2 .none rfl rfl ?_
    refine Walk.loadB ty52 .none rfl rfl rfl rfl ?_
    refine Walk.len sl52 .none rfl rfl ?_
    refine Walk.move .none rfl rfl ?_
    refine ⟨trivial, ?_⟩
    refine CWp.block ?_
    refine CWp.tokB 3003 2 7 3 rfl rfl rfl rfl ?_
    refine CWp.loopX (ι := List (Val) × List (Val)) hk (fun x => [(14, .d (.i (x.1.length : Int)))]) [5, 15, 16, 17, 18, 19, 20, 21, 22, 23, 24, 25] (fun x => [(3003, some (.box [.d (.i v.ctor), .d (.i v.num), .gl 7 (x.1.map Val.cc)])), (7, some (.tok (x.1.map Val.cc).length 3))]) (fun x => x.1 ++ x.2 = v.kids) (fun x => x.2.length) ([], v.kids) (by simp) ⟨⟨_, rfl, (LeA.eqi (by first | rfl | (simp; done) | (simp_all; done) | omega))⟩, trivial⟩ ⟨(by first | rfl | (simp [getH]; done)), ⟨beq_nat_eq (by first | rfl | (simp; done) | (simp; omega) | (first | rfl | (simp; done) | (simp_all; done) | omega)), trivial⟩⟩ (fun x => rfl) (fun x hg1 => ?_)
    obtain ⟨pre, rest⟩ := x
    dsimp only at hg1 ⊢
    refine CWp.seq ?_
    refine CWp.region rfl ?_
    refine Walk.ltI .none rfl rfl rfl ?_
    refine ⟨trivial, ?_⟩
    refine CWp.seq ?_
    refine CWp.cond rfl (fun h1 => ?_) (fun h1 => ?_)
    · have h1p := h1; have h1s := h1; try simp only [Bool.not_eq_true', Bool.not_eq_false', Bool.not_not] at h1s
      try simp only [Bool.not_eq_true', Bool.not_eq_false', decide_eq_true_eq, decide_eq_false_iff_not, Bool.not_not, List.length_map, Bool.and_eq_true, Bool.or_eq_false_iff, Val.cs_len] at h1p
      rcases rest with _ | ⟨y, rest⟩
      · exfalso; simp_all
      refine CWp.skip ?_
      refine CWp.seq ?_
      refine CWp.block ?_
      refine CWp.seq ?_
      refine CWp.region rfl ?_
      refine Walk.idx sl52 .none rfl rfl rfl rfl (Val.cs_at hg1) rfl ?_
      refine Walk.loadPA ty54 .none rfl rfl rfl rfl ?_
      refine Walk.alloc (id := 3005) tz54 rfl .none rfl rfl rfl rfl ?_
      refine Walk.store ty54 .none rfl rfl rfl rfl rfl rfl (by simp) rfl ?_
      refine ⟨trivial, ?_⟩
      refine CWp.drawn mixed rfl ?_
      refine Walk.fieldB fd54_2 .none rfl rfl ?_
      refine Walk.loadB ty52 .none rfl rfl rfl rfl ?_
      refine Walk.loadBA ty54 .none rfl rfl rfl rfl ?_
      refine Walk.call (cr := []) cal96 (impl_ownValue_fn n (v := y) (by have := Vals.size_mem (l := v.kids) (v := y) (by rw [← hg1]; simp); omega) (Vals.ok_mem hok.2 y (by rw [← hg1]; simp))) rfl .none rfl rfl (LeL.refl _) trivial rfl rfl rfl ?_
      refine Walk.sliceLit sl52 tz54 rfl (by decide) (ks := [0]) (xs := [_]) rfl rfl (by decide) (by decide) .none rfl rfl rfl rfl ?_
      refine Walk.append sl52 zz54 rfl .none rfl rfl rfl rfl (htokL rfl (by first | rfl | (simp; done) | (simp; omega))) (by simp) (by have := congrArg List.length hg1; simp at this; simp; omega) (by have := congrArg List.length hg1; simp at this; simp; omega) ?_
      refine Walk.fieldB fd54_2 .none rfl rfl ?_
      refine Walk.store ty52 .none rfl rfl rfl rfl rfl rfl (by simp) rfl ?_
      refine ⟨by show _ = _; kernel_rfl, ?_⟩
      refine CWp.region rfl ?_
      refine Walk.addI .none rfl rfl rfl (by first | (constructor <;> omega) | (constructor <;> simp <;> omega)) ?_
      refine Walk.move .none rfl rfl ?_
      refine ⟨trivial, ?_⟩
      refine ⟨(pre ++ [y], rest), (by have hz := hg1; rw [← hz]; simp), (by simp), Sub.x (by kernel_rfl) (by kernel_rfl) ⟨⟨_, rfl, (LeA.eqi (by first | rfl | (simp; done) | (simp_all; done) | omega))⟩, trivial⟩ (by kernel_rfl) (by kernel_rfl) ⟨(by first | rfl | (simp [getH]; done)), ⟨beq_nat_eq (by first | rfl | (simp; done) | (simp; omega) | (first | rfl | (simp; done) | (simp_all; done) | omega)), trivial⟩⟩⟩
    · have h1p := h1; have h1s := h1; try simp only [Bool.not_eq_true', Bool.not_eq_false', Bool.not_not] at h1s
      try simp only [Bool.not_eq_true', Bool.not_eq_false', decide_eq_true_eq, decide_eq_false_iff_not, Bool.not_not, List.length_map, Bool.and_eq_true, Bool.or_eq_false_iff, Val.cs_len] at h1p
      have hrest : rest = [] := by
        rcases rest with _ | ⟨a, b⟩
        · rfl
        · exfalso; have hz := congrArg List.length (hg1); simp only [List.length_append, List.length_cons, List.length_map] at hz; omega
      subst hrest
      refine CWp.exit ?_
      refine CWp.seq ?_
      refine CWp.region rfl ?_
      refine Walk.loadBA ty54 .none rfl rfl rfl rfl ?_
      refine Walk.store ty54 .none rfl rfl rfl rfl rfl rfl (by simp) rfl ?_
      refine ⟨trivial, ?_⟩
      refine CWp.ret ?_
      refine ⟨_, _, [], (.cons (.cellA ty54 rfl rfl rfl) .nil), (.agg (.cons (.eqd ?_) (.cons (.eqd ?_) (.cons (.gld ?_) .nil)))), ⟨rfl, rfl⟩, HSub.nil, noBox⟩
      all_goals (first | rfl | (rw [List.append_nil] at hg1; rw [← hg1, Val.cs_cc]; done))

theorem spec_l2Copy_fn : ∀ (n : Nat) {v : Val}, v.size ≤ n → v.ok → FnD Try.prog 93 [.agg [.d (.i v.ctor), .d (.i v.num), .d (encVals v.kids)]] [] (.agg [.d (.i v.ctor), .d (.i v.num), .d (encVals v.kids)]) []
  | 0, v, h, _ => by rw [Val.size_eq] at h; omega
  | n + 1, v, h, hok => by
    rw [Val.size_eq] at h
    rw [Val.ok_iff] at hok
    have hok1 := hok.1
    refine Fn.body (fn := Try.f93) (n := 29) rfl rfl rfl rfl rfl (fun w0 F0 own kept hk => ?_)
    refine CWp.seq ?_
    refine CWp.region rfl ?_
    refine Walk.box (id := 3001) .none rfl rfl rfl rfl rfl rfl rfl ?_
    refine Walk.alloc (id := 3002) tz54 rfl .none rfl rfl rfl rfl ?_
    refine ⟨trivial, ?_⟩
    refine CWp.seq ?_
    refine CWp.region rfl ?_
    refine Walk.fieldB fd54_0 .none rfl rfl ?_
    refine Walk.loadB ty3 .none rfl rfl rfl rfl ?_
    refine Walk.fieldB fd54_1 .none rfl rfl ?_
    refine Walk.loadB ty3 .none rfl rfl rfl rfl ?_
    refine Walk.build st54 (ks := [0, 1]) (xs := [_, _]) rfl rfl .none rfl rfl rfl ?_
    refine Walk.alloc (id := 3003) tz54 rfl .none rfl rfl rfl rfl ?_
    refine Walk.store ty54 .none rfl rfl rfl rfl rfl rfl (by simp) rfl ?_
    refine ⟨trivial, ?_⟩
    refine CWp.seq ?_
    refine CWp.seq ?_
    refine CWp.region rfl ?_
    refine Walk.assign .none rfl rfl ?_
    refine ⟨trivial, ?_⟩
    refine CWp.block ?_
    refine CWp.tokB 3003 2 7 3 rfl rfl rfl rfl ?_
    refine CWp.loopX (ι := List (Val) × List (Val)) hk (fun x => [(4, .d (.i (x.1.length : Int)))]) [10, 11, 12, 13, 14, 15, 16, 17, 18, 19, 20, 21, 22, 23, 24, 25, 26, 27] (fun x => [(3003, some (.box [.d (.i v.ctor), .d (.i v.num), .gl 7 (x.1.map Val.cc)])), (7, some (.tok (x.1.map Val.cc).length 3))]) (fun x => x.1 ++ x.2 = v.kids) (fun x => x.2.length) ([], v.kids) (by simp) ⟨⟨_, rfl, (LeA.eqi (by first | rfl | (simp; done) | (simp_all; done) | omega))⟩, trivial⟩ ⟨(by first | rfl | (simp [getH]; done)), ⟨beq_nat_eq (by first | rfl | (simp; done) | (simp; omega) | (first | rfl | (simp; done) | (simp_all; done) | omega)), trivial⟩⟩ (fun x => rfl) (fun x hg1 => ?_)
    obtain ⟨pre, rest⟩ := x
    dsimp only at hg1 ⊢
    refine CWp.seq ?_
    refine CWp.seq ?_
    refine CWp.region rfl ?_
    refine Walk.move .none rfl rfl ?_
    refine Walk.fieldB fd54_2 .none rfl rfl ?_
    refine Walk.loadB ty52 .none rfl rfl rfl rfl ?_
    refine Walk.len sl52 .none rfl rfl ?_
    refine Walk.ltI .none rfl rfl rfl ?_
    refine ⟨trivial, ?_⟩
    refine CWp.cond rfl (fun h1 => ?_) (fun h1 => ?_)
    · have h1p := h1; have h1s := h1; try simp only [Bool.not_eq_true', Bool.not_eq_false', Bool.not_not] at h1s
      try simp only [Bool.not_eq_true', Bool.not_eq_false', decide_eq_true_eq, decide_eq_false_iff_not, Bool.not_not, List.length_map, Bool.and_eq_true, Bool.or_eq_false_iff, Val.cs_len] at h1p
      rcases rest with _ | ⟨y, rest⟩
      · exfalso; simp_all
      refine CWp.skip ?_
      refine CWp.seq ?_
      refine CWp.block ?_
      refine CWp.drawn mixed rfl ?_
      refine Walk.fieldB fd54_2 .none rfl rfl ?_
      refine Walk.loadB ty52 .none rfl rfl rfl rfl ?_
      refine Walk.fieldB fd54_2 .none rfl rfl ?_
      refine Walk.loadB ty52 .none rfl rfl rfl rfl ?_
      refine Walk.move .none rfl rfl ?_
      refine Walk.idx sl52 .none rfl rfl rfl rfl (Val.cs_at hg1) rfl ?_
      refine Walk.loadPA ty54 .none rfl rfl rfl rfl ?_
      refine Walk.call (cr := []) cal93 (spec_l2Copy_fn n (v := y) (by have := Vals.size_mem (l := v.kids) (v := y) (by rw [← hg1]; simp); omega) (Vals.ok_mem hok.2 y (by rw [← hg1]; simp))) rfl .none rfl rfl (LeL.refl _) trivial rfl rfl rfl ?_
      refine Walk.sliceLit sl52 tz54 rfl (by decide) (ks := [0]) (xs := [_]) rfl rfl (by decide) (by decide) .none rfl rfl rfl rfl ?_
      refine Walk.append sl52 zz54 rfl .none rfl rfl rfl rfl (htokL rfl (by first | rfl | (simp; done) | (simp; omega))) (by simp) (by have := congrArg List.length hg1; simp at this; simp; omega) (by have := congrArg List.length hg1; simp at this; simp; omega) ?_
      refine Walk.fieldB fd54_2 .none rfl rfl ?_
      refine Walk.store ty52 .none rfl rfl rfl rfl rfl rfl (by simp) rfl ?_
      refine ⟨by show _ = _; kernel_rfl, ?_⟩
      refine CWp.region rfl ?_
      refine Walk.move .none rfl rfl ?_
      refine Walk.addI .none rfl rfl rfl (by first | (constructor <;> omega) | (constructor <;> simp <;> omega)) ?_
      refine Walk.assign .none rfl rfl ?_
      refine ⟨trivial, ?_⟩
      refine ⟨(pre ++ [y], rest), (by have hz := hg1; rw [← hz]; simp), (by simp), Sub.x (by kernel_rfl) (by kernel_rfl) ⟨⟨_, rfl, (LeA.eqi (by first | rfl | (simp; done) | (simp_all; done) | omega))⟩, trivial⟩ (by kernel_rfl) (by kernel_rfl) ⟨(by first | rfl | (simp [getH]; done)), ⟨beq_nat_eq (by first | rfl | (simp; done) | (simp; omega) | (first | rfl | (simp; done) | (simp_all; done) | omega)), trivial⟩⟩⟩
    · have h1p := h1; have h1s := h1; try simp only [Bool.not_eq_true', Bool.not_eq_false', Bool.not_not] at h1s
      try simp only [Bool.not_eq_true', Bool.not_eq_false', decide_eq_true_eq, decide_eq_false_iff_not, Bool.not_not, List.length_map, Bool.and_eq_true, Bool.or_eq_false_iff, Val.cs_len] at h1p
      have hrest : rest = [] := by
        rcases rest with _ | ⟨a, b⟩
        · rfl
        · exfalso; have hz := congrArg List.length (hg1); simp only [List.length_append, List.length_cons, List.length_map] at hz; omega
      subst hrest
      refine CWp.exit ?_
      refine CWp.seq ?_
      refine CWp.region rfl ?_
      refine Walk.loadBA ty54 .none rfl rfl rfl rfl ?_
      refine Walk.store ty54 .none rfl rfl rfl rfl rfl rfl (by simp) rfl ?_
      refine ⟨trivial, ?_⟩
      refine CWp.ret ?_
      refine ⟨_, _, [], (.cons (.cellA ty54 rfl rfl rfl) .nil), (.agg (.cons (.eqd ?_) (.cons (.eqd ?_) (.cons (.gld ?_) .nil)))), ⟨rfl, rfl⟩, HSub.nil, noBox⟩
      all_goals (first | rfl | (rw [List.append_nil] at hg1; rw [← hg1, Val.cs_cc]; done))

end Go.Proofs.Ytadpcmcifbakoaa
