/-
  WALKS: all values up to a depth, in the program.
-/
import Derived.Test.YtadpcmcifbakoaaF7
namespace Go.Proofs.Ytadpcmcifbakoaa
open Go
set_option linter.unusedSimpArgs false
set_option linter.unusedVariables false
set_option maxRecDepth 100000
set_option maxHeartbeats 2000000

def ctorV (w : List Data) (n : Nat) (t : Ty) (c : Int) : List Val := (prodL ((argsOf w t c).map (fullV w n))).map (Val.mk c 0)
theorem ctorV_len (w : List Data) (n : Nat) (t : Ty) (c : Int) : (prodL ((argsOf w t c).map (fullV w n))).length = (ctorV w n t c).length := by unfold ctorV; simp
theorem fullV_ctors {w : List Data} {n : Nat} {t : Ty} (ht : t.data ≠ -1) : fullV w (n + 1) t = (ctorsOf w t).flatMap (ctorV w n t) := by rw [fullV, if_neg ht]; rfl
theorem ctorV_none {w : List Data} {n : Nat} {t : Ty} {c : Int} (h : ((argsOf w t c).any fun a => decide (countV w n a = 0)) = true) : ctorV w n t c = [] := by
  unfold ctorV; rw [prod_none h]; rfl
theorem pre_len {w : List Data} {n : Nat} {t : Ty} (ht : t.data ≠ -1) (hc : countV w (n + 1) t ≤ 400) {pre rest : List Int} {c : Int} (he : pre ++ c :: rest = ctorsOf w t) :
    (pre.flatMap (ctorV w n t)).length + (ctorV w n t c).length ≤ 400 := by
  have h := len_of_count hc
  rw [fullV_ctors ht, ← he] at h
  simp at h
  have h2 : (pre.flatMap (ctorV w n t)).length = (pre.map fun a => (ctorV w n t a).length).sum := flatMap_len _ _
  omega
theorem prodL_mem : ∀ {ls : List (List Val)} {o : List Val}, o ∈ prodL ls → o.length = ls.length := by
  intro ls
  have key : ∀ (ls acc : List (List Val)) (m : Nat), (∀ o ∈ acc, o.length = m) → ∀ o ∈ ls.foldl (fun acc l => acc.flatMap fun o => l.map fun y => o ++ [y]) acc, o.length = m + ls.length := by
    intro ls
    induction ls with
    | nil => intro acc m h o ho; exact h o ho
    | cons l r ih =>
      intro acc m h o ho
      have := ih _ (m + 1) (fun o' ho' => by
        simp only [List.mem_flatMap, List.mem_map] at ho'
        obtain ⟨p, hp, q, _, rfl⟩ := ho'
        simp [h p hp]) o ho
      simp only [List.length_cons]; omega
  intro o ho
  have := key ls [[]] 0 (by simp) o ho
  simpa using this
theorem kids_len {c : Int} {ls : List (List Val)} {v : Val} (h : v ∈ (prodL ls).map (Val.mk c 0)) : v.kids.length = ls.length := by
  obtain ⟨o, ho, rfl⟩ := List.mem_map.1 h
  exact prodL_mem ho
def grow1 (c : Int) (kids : List Val) (v : Val) : List Val := kids.map fun q => Val.mk c 0 (v.kids ++ [q])
theorem grow_prod (c : Int) (ls : List (List Val)) (l : List Val) : ((prodL ls).map (Val.mk c 0)).flatMap (grow1 c l) = (prodL (ls ++ [l])).map (Val.mk c 0) := by
  unfold prodL
  rw [List.foldl_append]
  generalize ls.foldl (fun acc l => acc.flatMap fun o => l.map fun y => o ++ [y]) [[]] = acc
  simp only [List.foldl_cons, List.foldl_nil, List.flatMap_map, List.map_flatMap, List.map_map]
  rfl
theorem more_len {c : Int} {L K pre3 rest3 pre4 rest4 : List Val} {v q : Val} {N : Nat} (h3 : pre3 ++ v :: rest3 = L) (h4 : pre4 ++ q :: rest4 = K) (hN : (L.flatMap (grow1 c K)).length ≤ N) :
    (pre3.flatMap (grow1 c K) ++ pre4.map fun q => Val.mk c 0 (v.kids ++ [q])).length + 1 ≤ N := by
  subst h3
  have e : ((pre3 ++ v :: rest3).flatMap (grow1 c K)).length = (pre3.flatMap (grow1 c K)).length + (K.length + (rest3.flatMap (grow1 c K)).length) := by simp [grow1]
  have e2 : K.length = pre4.length + (rest4.length + 1) := by rw [← h4]; simp
  simp only [List.length_append, List.length_map] at *
  omega

theorem impl_values_1_fn {w : List Data} (hw : WT w) {n : Nat} {m : Int} (hm : m = n + 1) (hn : n ≤ 1000) {a k : Int} (ht : TyIn w.length ⟨a, k⟩) :
    FnD Try.prog 126 [.agg [.d (.i a), .d (.i k)], .ref 3003 0, .ref 3005 0] [(3003, some (.box [.d (encDatas w)])), (3005, some (.box [.d (.i m)]))] (.d (.bool (decide (countV w n ⟨a, k⟩ = 0)))) [] := by
  refine Fn.body (fn := Try.f126) (n := 11) rfl rfl rfl rfl rfl (fun w0 F0 own kept hk => ?_)
  refine CWp.seq ?_
  refine CWp.region rfl ?_
  refine Walk.box (id := 3103) .none rfl rfl rfl rfl rfl rfl rfl ?_
  refine Walk.assign .none rfl rfl ?_
  refine ⟨trivial, ?_⟩
  refine CWp.seq ?_
  refine CWp.region rfl ?_
  refine Walk.loadB ty26 .none rfl rfl rfl rfl ?_
  refine Walk.loadBA ty38 .none rfl rfl rfl rfl ?_
  refine Walk.loadB ty3 .none rfl rfl rfl rfl ?_
  refine Walk.subI .none rfl rfl rfl (by first | (constructor <;> omega) | (constructor <;> simp <;> omega)) ?_
  refine Walk.call (cr := []) cal94 (impl_countValues_fn hw n (by omega) hn ht) rfl .none rfl rfl (LeL.refl _) trivial rfl rfl rfl ?_
  refine Walk.eqI .none rfl rfl rfl ?_
  refine Walk.assign .none rfl rfl ?_
  refine ⟨trivial, ?_⟩
  refine CWp.ret ?_
  refine ⟨_, _, [], (.cons (.tmp rfl) .nil), (.eqd ?_), ⟨rfl, rfl⟩, (SubH.get ⟨rfl, ⟨rfl, trivial⟩⟩), (fun _ h => h)⟩
  all_goals (first | rfl | (simp []; done) | (simp_all; done) | (simp_all; omega) | omega)

theorem impl_values_fn {w : List Data} (hw : WT w) : ∀ (n : Nat) {a k m : Int}, m = n → n ≤ 1000 → TyIn w.length ⟨a, k⟩ → countV w n ⟨a, k⟩ ≤ 400 →
    FnD Try.prog 95 [.d (encDatas w), .agg [.d (.i a), .d (.i k)], .d (.i m)] [] (.d (encVals (fullV w n ⟨a, k⟩))) []
  | 0, a, k, m, hm, _, _, _ => by
    refine Fn.body (fn := Try.f95) (n := 97) rfl rfl rfl rfl rfl (fun w0 F0 own kept hk => ?_)
    refine CWp.seq ?_
    refine CWp.region rfl ?_
    refine Walk.box (id := 3003) .none rfl rfl rfl rfl rfl rfl rfl ?_
    refine Walk.box (id := 3004) .none rfl rfl rfl rfl rfl rfl rfl ?_
    refine Walk.box (id := 3005) .none rfl rfl rfl rfl rfl rfl rfl ?_
    refine Walk.assign .none rfl rfl ?_
    refine ⟨trivial, ?_⟩
    refine CWp.seq ?_
    refine CWp.region rfl ?_
    refine Walk.assignNil 1 3 .none rfl rfl ?_
    refine ⟨trivial, ?_⟩
    refine CWp.seq ?_
    refine CWp.seq ?_
    refine CWp.region rfl ?_
    refine Walk.loadB ty3 .none rfl rfl rfl rfl ?_
    refine Walk.eqI .none rfl rfl rfl ?_
    refine ⟨trivial, ?_⟩
    refine CWp.cond rfl (fun h1 => ?_) (fun h1 => ?_)
    · have h1p := h1; have h1s := h1; try simp only [Bool.not_eq_true', Bool.not_eq_false', Bool.not_not] at h1s
      try simp only [Bool.not_eq_true', Bool.not_eq_false', decide_eq_true_eq, decide_eq_false_iff_not, Bool.not_not, List.length_map, Bool.and_eq_true, Bool.or_eq_false_iff] at h1p
      refine CWp.seq ?_
      refine CWp.region rfl ?_
      refine Walk.assign .none rfl rfl ?_
      refine ⟨trivial, ?_⟩
      refine CWp.ret ?_
      refine ⟨_, _, [], (.cons (.tmp rfl) .nil), (.nild ?_), ⟨rfl, rfl⟩, HSub.nil, noBox⟩
      all_goals (rfl)
    · have h1p := h1; have h1s := h1; try simp only [Bool.not_eq_true', Bool.not_eq_false', Bool.not_not] at h1s
      try simp only [Bool.not_eq_true', Bool.not_eq_false', decide_eq_true_eq, decide_eq_false_iff_not, Bool.not_not, List.length_map, Bool.and_eq_true, Bool.or_eq_false_iff] at h1p
      exfalso; simp at h1; omega --stop
  | n + 1, a, k, m, hm, hn, ht, hc => by
    rcases ht with ha | ⟨d, hd, hlt⟩
    · have ha' : a = -1 := ha
      subst ha'
      refine Fn.body (fn := Try.f95) (n := 97) rfl rfl rfl rfl rfl (fun w0 F0 own kept hk => ?_)
      refine CWp.seq ?_
      refine CWp.region rfl ?_
      refine Walk.box (id := 3003) .none rfl rfl rfl rfl rfl rfl rfl ?_
      refine Walk.box (id := 3004) .none rfl rfl rfl rfl rfl rfl rfl ?_
      refine Walk.box (id := 3005) .none rfl rfl rfl rfl rfl rfl rfl ?_
      refine Walk.assign .none rfl rfl ?_
      refine ⟨trivial, ?_⟩
      refine CWp.seq ?_
      refine CWp.region rfl ?_
      refine Walk.assignNil 1 3 .none rfl rfl ?_
      refine ⟨trivial, ?_⟩
      refine CWp.seq ?_
      refine CWp.seq ?_
      refine CWp.region rfl ?_
      refine Walk.loadB ty3 .none rfl rfl rfl rfl ?_
      refine Walk.eqI .none rfl rfl rfl ?_
      refine ⟨trivial, ?_⟩
      refine CWp.cond rfl (fun h1 => ?_) (fun h1 => ?_)
      · have h1p := h1; have h1s := h1; try simp only [Bool.not_eq_true', Bool.not_eq_false', Bool.not_not] at h1s
        try simp only [Bool.not_eq_true', Bool.not_eq_false', decide_eq_true_eq, decide_eq_false_iff_not, Bool.not_not, List.length_map, Bool.and_eq_true, Bool.or_eq_false_iff] at h1p
        exfalso; simp at h1; omega --stop
      · have h1p := h1; have h1s := h1; try simp only [Bool.not_eq_true', Bool.not_eq_false', Bool.not_not] at h1s
        try simp only [Bool.not_eq_true', Bool.not_eq_false', decide_eq_true_eq, decide_eq_false_iff_not, Bool.not_not, List.length_map, Bool.and_eq_true, Bool.or_eq_false_iff] at h1p
        refine CWp.skip ?_
        refine CWp.seq ?_
        refine CWp.seq ?_
        refine CWp.region rfl ?_
        refine Walk.fieldB fd38_0 .none rfl rfl ?_
        refine Walk.loadB ty3 .none rfl rfl rfl rfl ?_
        refine Walk.eqI .none rfl rfl rfl ?_
        refine ⟨trivial, ?_⟩
        refine CWp.cond rfl (fun h2 => ?_) (fun h2 => ?_)
        · have h2p := h2; have h2s := h2; try simp only [Bool.not_eq_true', Bool.not_eq_false', Bool.not_not] at h2s
          try simp only [Bool.not_eq_true', Bool.not_eq_false', decide_eq_true_eq, decide_eq_false_iff_not, Bool.not_not, List.length_map, Bool.and_eq_true, Bool.or_eq_false_iff] at h2p
          refine CWp.seq ?_
          refine CWp.seq ?_
          refine CWp.region rfl ?_
          refine Walk.move .none rfl rfl ?_
          refine ⟨trivial, ?_⟩
          refine CWp.block ?_
          refine CWp.loopX (ι := Nat) hk (fun i => [(26, .d (.i (i : Int))), (7, .gl 1 (((List.range i).map fun (n : Nat) => Val.mk (-1) n []).map Val.cc))]) [8, 27, 28, 29, 30, 31, 32, 33, 34] (fun i => [(1, some (.tok ((((List.range i).map fun (n : Nat) => Val.mk (-1) n []).map Val.cc)).length 3))]) (fun i => i ≤ 10) (fun i => 10 - i) 0 (by simp) ⟨⟨_, rfl, (LeA.eqi (by first | rfl | (simp [List.range_succ, Val.ctor, Val.num, Val.kids]; done)))⟩, ⟨⟨_, rfl, (LeA.glg (by first | rfl | (simp [List.range_succ, Val.ctor, Val.num, Val.kids]; done)))⟩, trivial⟩⟩ ⟨beq_nat_eq (by first | rfl | (simp; done) | (simp; omega) | (first | rfl | (simp [List.range_succ, Val.ctor, Val.num, Val.kids]; done))), trivial⟩ (fun x => rfl) (fun i hg1 => ?_)
          refine CWp.seq ?_
          refine CWp.region rfl ?_
          refine Walk.ltI .none rfl rfl rfl ?_
          refine ⟨trivial, ?_⟩
          refine CWp.seq ?_
          refine CWp.cond rfl (fun h3 => ?_) (fun h3 => ?_)
          · have h3p := h3; have h3s := h3; try simp only [Bool.not_eq_true', Bool.not_eq_false', Bool.not_not] at h3s
            try simp only [Bool.not_eq_true', Bool.not_eq_false', decide_eq_true_eq, decide_eq_false_iff_not, Bool.not_not, List.length_map, Bool.and_eq_true, Bool.or_eq_false_iff] at h3p
            refine CWp.skip ?_
            refine CWp.seq ?_
            refine CWp.block ?_
            refine CWp.seq ?_
            refine CWp.region rfl ?_
            refine Walk.move .none rfl rfl ?_
            refine Walk.assign .none rfl rfl ?_
            refine ⟨trivial, ?_⟩
            refine CWp.region rfl ?_
            refine Walk.move .none rfl rfl ?_
            refine Walk.move .none rfl rfl ?_
            refine Walk.call (cr := []) cal125 (impl_number_fn) rfl .none rfl rfl (LeL.refl _) trivial rfl rfl rfl ?_
            refine Walk.sliceLit sl52 tz54 rfl (by decide) (ks := [0]) (xs := [_]) rfl rfl (by decide) (by decide) .none rfl rfl rfl rfl ?_
            refine Walk.append sl52 zz54 rfl .none rfl rfl rfl rfl (htokL rfl (by first | rfl | (simp; done) | (simp; omega))) (by simp) (by simp; omega) (by simp; omega) ?_
            refine Walk.assign .none rfl rfl ?_
            refine ⟨trivial, ?_⟩
            refine CWp.region rfl ?_
            refine Walk.addI .none rfl rfl rfl (by first | (constructor <;> omega) | (constructor <;> simp <;> omega)) ?_
            refine Walk.move .none rfl rfl ?_
            refine ⟨trivial, ?_⟩
            refine ⟨i + 1, ?_, ?_, Sub.x (by kernel_rfl) (by kernel_rfl) ⟨⟨_, rfl, (LeA.eqi (by first | rfl | (simp [List.range_succ, Val.ctor, Val.num, Val.kids]; done)))⟩, ⟨⟨_, rfl, (LeA.glg (by first | rfl | (simp [List.range_succ, Val.ctor, Val.num, Val.kids]; done)))⟩, trivial⟩⟩ (by kernel_rfl) (by kernel_rfl) ⟨beq_nat_eq (by first | rfl | (simp; done) | (simp; omega) | (first | rfl | (simp [List.range_succ, Val.ctor, Val.num, Val.kids]; done))), trivial⟩⟩
            all_goals first | omega | (simp_all; done) | (simp_all; omega)
          · have h3p := h3; have h3s := h3; try simp only [Bool.not_eq_true', Bool.not_eq_false', Bool.not_not] at h3s
            try simp only [Bool.not_eq_true', Bool.not_eq_false', decide_eq_true_eq, decide_eq_false_iff_not, Bool.not_not, List.length_map, Bool.and_eq_true, Bool.or_eq_false_iff] at h3p
            refine CWp.exit ?_
            refine CWp.seq ?_
            refine CWp.region rfl ?_
            refine Walk.move .none rfl rfl ?_
            refine Walk.assign .none rfl rfl ?_
            refine ⟨trivial, ?_⟩
            refine CWp.ret ?_
            refine ⟨_, _, [], (.cons (.tmp rfl) .nil), (.gld ?_), ⟨rfl, rfl⟩, HSub.nil, noBox⟩
            all_goals (have e : i = 10 := (by omega); subst e; rw [fullV, if_pos rfl, Val.cs_cc]; rfl)
        · have h2p := h2; have h2s := h2; try simp only [Bool.not_eq_true', Bool.not_eq_false', Bool.not_not] at h2s
          try simp only [Bool.not_eq_true', Bool.not_eq_false', decide_eq_true_eq, decide_eq_false_iff_not, Bool.not_not, List.length_map, Bool.and_eq_true, Bool.or_eq_false_iff] at h2p
          exact absurd h2 (by simp) --stop
    have hd' : a = (d : Int) := hd
    subst hd'
    have hne : (⟨d, k⟩ : Ty).data ≠ -1 := by show (d : Int) ≠ -1; omega
    have hcl := ctorsOf_len hw (d := d) (k := k)
    refine Fn.body (fn := Try.f95) (n := 97) rfl rfl rfl rfl rfl (fun w0 F0 own kept hk => ?_)
    refine CWp.seq ?_
    refine CWp.region rfl ?_
    refine Walk.box (id := 3003) .none rfl rfl rfl rfl rfl rfl rfl ?_
    refine Walk.box (id := 3004) .none rfl rfl rfl rfl rfl rfl rfl ?_
    refine Walk.box (id := 3005) .none rfl rfl rfl rfl rfl rfl rfl ?_
    refine Walk.assign .none rfl rfl ?_
    refine ⟨trivial, ?_⟩
    refine CWp.seq ?_
    refine CWp.region rfl ?_
    refine Walk.assignNil 1 3 .none rfl rfl ?_
    refine ⟨trivial, ?_⟩
    refine CWp.seq ?_
    refine CWp.seq ?_
    refine CWp.region rfl ?_
    refine Walk.loadB ty3 .none rfl rfl rfl rfl ?_
    refine Walk.eqI .none rfl rfl rfl ?_
    refine ⟨trivial, ?_⟩
    refine CWp.cond rfl (fun h1 => ?_) (fun h1 => ?_)
    · have h1p := h1; have h1s := h1; try simp only [Bool.not_eq_true', Bool.not_eq_false', Bool.not_not] at h1s
      try simp only [Bool.not_eq_true', Bool.not_eq_false', decide_eq_true_eq, decide_eq_false_iff_not, Bool.not_not, List.length_map, Bool.and_eq_true, Bool.or_eq_false_iff, Val.cs_len, Ty.eta] at h1p
      exfalso; simp at h1; omega --stop
    · have h1p := h1; have h1s := h1; try simp only [Bool.not_eq_true', Bool.not_eq_false', Bool.not_not] at h1s
      try simp only [Bool.not_eq_true', Bool.not_eq_false', decide_eq_true_eq, decide_eq_false_iff_not, Bool.not_not, List.length_map, Bool.and_eq_true, Bool.or_eq_false_iff, Val.cs_len, Ty.eta] at h1p
      refine CWp.skip ?_
      refine CWp.seq ?_
      refine CWp.seq ?_
      refine CWp.region rfl ?_
      refine Walk.fieldB fd38_0 .none rfl rfl ?_
      refine Walk.loadB ty3 .none rfl rfl rfl rfl ?_
      refine Walk.eqI .none rfl rfl rfl ?_
      refine ⟨trivial, ?_⟩
      refine CWp.cond rfl (fun h2 => ?_) (fun h2 => ?_)
      · have h2p := h2; have h2s := h2; try simp only [Bool.not_eq_true', Bool.not_eq_false', Bool.not_not] at h2s
        try simp only [Bool.not_eq_true', Bool.not_eq_false', decide_eq_true_eq, decide_eq_false_iff_not, Bool.not_not, List.length_map, Bool.and_eq_true, Bool.or_eq_false_iff, Val.cs_len, Ty.eta] at h2p
        exfalso; simp at h2 <;> omega --stop
      · have h2p := h2; have h2s := h2; try simp only [Bool.not_eq_true', Bool.not_eq_false', Bool.not_not] at h2s
        try simp only [Bool.not_eq_true', Bool.not_eq_false', decide_eq_true_eq, decide_eq_false_iff_not, Bool.not_not, List.length_map, Bool.and_eq_true, Bool.or_eq_false_iff, Val.cs_len, Ty.eta] at h2p
        refine CWp.skip ?_
        refine CWp.seq ?_
        refine CWp.seq ?_
        refine CWp.region rfl ?_
        refine Walk.loadB ty26 .none rfl rfl rfl rfl ?_
        refine Walk.loadBA ty38 .none rfl rfl rfl rfl ?_
        refine Walk.call (cr := []) cal123 (impl_ctorsOf_in hw hlt) rfl .none rfl rfl (LeL.refl _) trivial rfl rfl rfl ?_
        refine Walk.len sl126 .none rfl rfl ?_
        refine Walk.move .none rfl rfl ?_
        refine ⟨trivial, ?_⟩
        refine CWp.block ?_
        refine CWp.loopX (ι := List (Int) × List (Int)) hk (fun x => [(40, .d (.i (x.1.length : Int))), (7, .gl 1 ((x.1.flatMap (ctorV w n ⟨d, k⟩)).map Val.cc))]) [10, 11, 12, 14, 15, 16, 18, 20, 41, 42, 43, 44, 45, 46, 47, 48, 49, 50, 51, 52, 53, 54, 55, 56, 57, 58, 59, 60, 61, 62, 63, 64, 65, 66, 67, 68, 69, 70, 71, 72, 73, 74, 75, 76, 77, 78, 79, 80, 81, 82, 83, 84, 85, 86, 87, 88, 89, 90, 91, 92, 93, 94, 95] (fun x => [(1, some (.tok (((x.1.flatMap (ctorV w n ⟨d, k⟩)).map Val.cc)).length 3))]) (fun x => x.1 ++ x.2 = ctorsOf w ⟨d, k⟩) (fun x => x.2.length) ([], ctorsOf w ⟨d, k⟩) (by simp) ⟨⟨_, rfl, (LeA.eqi (by first | rfl | (simp; done) | (rw [List.flatMap_append, List.map_append]; simp [ctorV_none, hk]; done) | (rw [List.append_nil] at hg3; rw [List.flatMap_append, List.map_append, hg3]; simp [ctorV]; done)))⟩, ⟨⟨_, rfl, (LeA.glg (by first | rfl | (simp; done) | (rw [List.flatMap_append, List.map_append]; simp [ctorV_none, hk]; done) | (rw [List.append_nil] at hg3; rw [List.flatMap_append, List.map_append, hg3]; simp [ctorV]; done)))⟩, trivial⟩⟩ ⟨beq_nat_eq (by first | rfl | (simp; done) | (simp; omega) | (first | rfl | (simp; done) | (rw [List.flatMap_append, List.map_append]; simp [ctorV_none, hk]; done) | (rw [List.append_nil] at hg3; rw [List.flatMap_append, List.map_append, hg3]; simp [ctorV]; done))), trivial⟩ (fun x => rfl) (fun x hg2 => ?_)
        obtain ⟨pre, rest⟩ := x
        dsimp only at hg2 ⊢
        refine CWp.seq ?_
        refine CWp.region rfl ?_
        refine Walk.ltI .none rfl rfl rfl ?_
        refine ⟨trivial, ?_⟩
        refine CWp.seq ?_
        refine CWp.cond rfl (fun h3 => ?_) (fun h3 => ?_)
        · have h3p := h3; have h3s := h3; try simp only [Bool.not_eq_true', Bool.not_eq_false', Bool.not_not] at h3s
          try simp only [Bool.not_eq_true', Bool.not_eq_false', decide_eq_true_eq, decide_eq_false_iff_not, Bool.not_not, List.length_map, Bool.and_eq_true, Bool.or_eq_false_iff, Val.cs_len, Ty.eta] at h3p
          rcases rest with _ | ⟨c, rest⟩
          · exfalso; simp_all
          have hal := argsOf_len hw hlt (k := k) (place_of (k := k) (c := c) (by rw [← hg2]; simp)); have hpre := pre_len hne hc hg2
          refine CWp.skip ?_
          refine CWp.seq ?_
          refine CWp.block ?_
          refine CWp.seq ?_
          refine CWp.region rfl ?_
          refine Walk.idx sl126 .none rfl rfl rfl rfl (zip_at hg2) rfl ?_
          refine Walk.loadP ty3 .none rfl rfl rfl ?_
          refine Walk.assign .none rfl rfl ?_
          refine ⟨trivial, ?_⟩
          refine CWp.seq ?_
          refine CWp.region rfl ?_
          refine Walk.loadB ty26 .none rfl rfl rfl rfl ?_
          refine Walk.loadBA ty38 .none rfl rfl rfl rfl ?_
          refine Walk.move .none rfl rfl ?_
          refine Walk.call (cr := []) cal124 (impl_argTypes_in hw hlt (place_of (k := k) (c := c) (by rw [← hg2]; simp))) rfl .none rfl rfl (LeL.refl _) trivial rfl rfl rfl ?_
          refine Walk.assign .none rfl rfl ?_
          refine ⟨trivial, ?_⟩
          refine CWp.seq ?_
          refine CWp.seq ?_
          refine CWp.region rfl ?_
          refine Walk.move .none rfl rfl ?_
          refine Walk.closure (xs := [_, _]) rfl .none rfl rfl ?_
          refine Walk.call (cr := []) cal88 (slices_ContainsFunc_Ty_fn (p := fun t => decide (countV w n t = 0)) hal cal126 (fun t ht => impl_values_1_fn hw (n := n) (by omega) (by omega) (argsOf_in hw hlt (k := k) (place_of (k := k) (c := c) (by rw [← hg2]; simp)) ht)) ⟨rfl, rfl, trivial⟩ rfl rfl) rfl .none rfl rfl (LeL.refl _) ⟨rfl, rfl, trivial⟩ rfl rfl rfl ?_
          refine ⟨trivial, ?_⟩
          refine CWp.cond rfl (fun h4 => ?_) (fun h4 => ?_)
          · have h4p := h4; have h4s := h4; try simp only [Bool.not_eq_true', Bool.not_eq_false', Bool.not_not] at h4s
            try simp only [Bool.not_eq_true', Bool.not_eq_false', decide_eq_true_eq, decide_eq_false_iff_not, Bool.not_not, List.length_map, Bool.and_eq_true, Bool.or_eq_false_iff, Val.cs_len, Ty.eta] at h4p
            refine CWp.exit ?_
            refine CWp.region rfl ?_
            refine Walk.addI .none rfl rfl rfl (by first | (constructor <;> omega) | (constructor <;> simp <;> omega)) ?_
            refine Walk.move .none rfl rfl ?_
            refine ⟨trivial, ?_⟩
            refine ⟨(pre ++ [c], rest), (by have hz := hg2; rw [← hz]; simp), (by simp), Sub.x (by kernel_rfl) (by kernel_rfl) ⟨⟨_, rfl, (LeA.eqi (by first | rfl | (simp; done) | (rw [List.flatMap_append, List.map_append]; simp [ctorV_none, h1s, h1p, h2s, h2p, h3s, h3p, h4s, h4p]; done) | (rw [List.append_nil] at hg3; rw [List.flatMap_append, List.map_append, hg3]; simp [ctorV]; done)))⟩, ⟨⟨_, rfl, (LeA.glg (by first | rfl | (simp; done) | (rw [List.flatMap_append, List.map_append]; simp [ctorV_none, h1s, h1p, h2s, h2p, h3s, h3p, h4s, h4p]; done) | (rw [List.append_nil] at hg3; rw [List.flatMap_append, List.map_append, hg3]; simp [ctorV]; done)))⟩, trivial⟩⟩ (by kernel_rfl) (by kernel_rfl) ⟨beq_nat_eq (by first | rfl | (simp; done) | (simp; omega) | (first | rfl | (simp; done) | (rw [List.flatMap_append, List.map_append]; simp [ctorV_none, h1s, h1p, h2s, h2p, h3s, h3p, h4s, h4p]; done) | (rw [List.append_nil] at hg3; rw [List.flatMap_append, List.map_append, hg3]; simp [ctorV]; done))), trivial⟩⟩
          · have h4p := h4; have h4s := h4; try simp only [Bool.not_eq_true', Bool.not_eq_false', Bool.not_not] at h4s
            try simp only [Bool.not_eq_true', Bool.not_eq_false', decide_eq_true_eq, decide_eq_false_iff_not, Bool.not_not, List.length_map, Bool.and_eq_true, Bool.or_eq_false_iff, Val.cs_len, Ty.eta] at h4p
            refine CWp.skip ?_
            refine CWp.seq ?_
            refine CWp.region rfl ?_
            refine Walk.move .none rfl rfl ?_
            refine Walk.build st54 (ks := [0]) (xs := [_]) rfl rfl .none rfl rfl rfl ?_
            refine Walk.sliceLitG 2 sl52 tz54 rfl (by decide) (ks := [0]) (xs := [_]) rfl rfl (by decide) (by decide) .none rfl rfl rfl rfl rfl ?_
            refine Walk.assign .none rfl rfl ?_
            refine ⟨trivial, ?_⟩
            refine CWp.seq ?_
            refine CWp.seq ?_
            refine CWp.region rfl ?_
            refine Walk.move .none rfl rfl ?_
            refine Walk.len sl24 .none rfl rfl ?_
            refine Walk.move .none rfl rfl ?_
            refine ⟨trivial, ?_⟩
            refine CWp.block ?_
            refine CWp.loopX (ι := List (Ty) × List (Ty)) hk (fun x => [(56, .d (.i (x.1.length : Int))), (12, .d (.sl (((prodL (x.1.map (fullV w n))).map (Val.mk c 0)).map Val.cc)))]) [14, 15, 16, 18, 20, 57, 58, 59, 60, 61, 62, 63, 64, 65, 66, 67, 68, 69, 70, 71, 72, 73, 74, 75, 76, 77, 78, 79, 80, 81, 82, 83, 84, 85, 86, 87, 88, 89, 90, 91] (fun x => []) (fun x => x.1 ++ x.2 = argsOf w ⟨d, k⟩ c) (fun x => x.2.length) ([], argsOf w ⟨d, k⟩ c) (by simp) ⟨⟨_, rfl, (LeA.eqi (by first | rfl | (simp; done) | (rw [List.append_nil] at hg4; rw [hg4, grow_prod, List.map_append]; rfl)))⟩, ⟨⟨_, rfl, (by first | exact LeA.refl _ | exact LeA.gld (by first | rfl | (simp; done) | (rw [List.append_nil] at hg4; rw [hg4, grow_prod, List.map_append]; rfl)) | exact LeA.nild (by first | rfl | (simp; done) | (rw [List.append_nil] at hg4; rw [hg4, grow_prod, List.map_append]; rfl)) | exact LeA.eqsl (by first | rfl | (simp; done) | (rw [List.append_nil] at hg4; rw [hg4, grow_prod, List.map_append]; rfl)) | exact LeA.eqd (by first | rfl | (simp; done) | (rw [List.append_nil] at hg4; rw [hg4, grow_prod, List.map_append]; rfl)))⟩, trivial⟩⟩ trivial (fun x => rfl) (fun x hg3 => ?_)
            obtain ⟨pre2, rest2⟩ := x
            dsimp only at hg3 ⊢
            refine CWp.seq ?_
            refine CWp.region rfl ?_
            refine Walk.ltI .none rfl rfl rfl ?_
            refine ⟨trivial, ?_⟩
            refine CWp.seq ?_
            refine CWp.cond rfl (fun h5 => ?_) (fun h5 => ?_)
            · have h5p := h5; have h5s := h5; try simp only [Bool.not_eq_true', Bool.not_eq_false', Bool.not_not] at h5s
              try simp only [Bool.not_eq_true', Bool.not_eq_false', decide_eq_true_eq, decide_eq_false_iff_not, Bool.not_not, List.length_map, Bool.and_eq_true, Bool.or_eq_false_iff, Val.cs_len, Ty.eta] at h5p
              rcases rest2 with _ | ⟨y, rest2⟩
              · exfalso; simp_all
              have hpl := part_len hne hc (c := c) (by rw [← hg2]; simp) hg3 (by assumption)
              refine CWp.skip ?_
              refine CWp.seq ?_
              refine CWp.block ?_
              refine CWp.seq ?_
              refine CWp.region rfl ?_
              refine Walk.idx sl24 .none rfl rfl rfl rfl (zip_at hg3) rfl ?_
              refine Walk.loadPA ty38 .none rfl rfl rfl rfl ?_
              refine Walk.alloc (id := 3014) tz38 rfl .none rfl rfl rfl rfl ?_
              refine Walk.store ty38 .none rfl rfl rfl rfl rfl rfl (by simp) rfl ?_
              refine ⟨trivial, ?_⟩
              refine CWp.seq ?_
              refine CWp.region rfl ?_
              refine Walk.loadB ty26 .none rfl rfl rfl rfl ?_
              refine Walk.loadBA ty38 .none rfl rfl rfl rfl ?_
              refine Walk.loadB ty3 .none rfl rfl rfl rfl ?_
              refine Walk.subI .none rfl rfl rfl (by first | (constructor <;> omega) | (constructor <;> simp <;> omega)) ?_
              refine Walk.call (cr := []) cal95 (impl_values_fn hw n (a := y.data) (k := y.index) (by omega) (by omega) (argsOf_in hw hlt (k := k) (place_of (k := k) (c := c) (by rw [← hg2]; simp)) (t := y) (by rw [← hg3]; simp)) (by have e := len_of_count (w := w) (n := n) (t := y); have e2 := countV_eq w n y; have h3 := hpl.2.1; unfold capN at e2; split at e2 <;> simp only [Ty.eta] at * <;> omega)) rfl .none rfl rfl (LeL.refl _) trivial rfl rfl rfl ?_
              refine Walk.assign .none rfl rfl ?_
              refine ⟨trivial, ?_⟩
              refine CWp.seq ?_
              refine CWp.region rfl ?_
              refine Walk.assignNil 3 3 .none rfl rfl ?_
              refine ⟨trivial, ?_⟩
              refine CWp.seq ?_
              refine CWp.seq ?_
              refine CWp.region rfl ?_
              refine Walk.move .none rfl rfl ?_
              refine Walk.len sl52 .none rfl rfl ?_
              refine Walk.move .none rfl rfl ?_
              refine ⟨trivial, ?_⟩
              refine CWp.block ?_
              refine CWp.loopX (ι := List (Val) × List (Val)) hk (fun x => [(67, .d (.i (x.1.length : Int))), (16, .gl 3 ((x.1.flatMap (grow1 c (fullV w n y))).map Val.cc))]) [18, 20, 68, 69, 70, 71, 72, 73, 74, 75, 76, 77, 78, 79, 80, 81, 82, 83, 84, 85, 86, 87, 88, 89] (fun x => [(3, some (.tok (((x.1.flatMap (grow1 c (fullV w n y))).map Val.cc)).length 3))]) (fun x => x.1 ++ x.2 = (prodL (pre2.map (fullV w n))).map (Val.mk c 0)) (fun x => x.2.length) ([], (prodL (pre2.map (fullV w n))).map (Val.mk c 0)) (by simp) ⟨⟨_, rfl, (LeA.eqi (by first | rfl | (simp; done) | (rw [List.append_nil] at hg5; rw [← hg5]; simp [grow1]; done)))⟩, ⟨⟨_, rfl, (LeA.glg (by first | rfl | (simp; done) | (rw [List.append_nil] at hg5; rw [← hg5]; simp [grow1]; done)))⟩, trivial⟩⟩ ⟨beq_nat_eq (by first | rfl | (simp; done) | (simp; omega) | (first | rfl | (simp; done) | (rw [List.append_nil] at hg5; rw [← hg5]; simp [grow1]; done))), trivial⟩ (fun x => rfl) (fun x hg4 => ?_)
              obtain ⟨pre3, rest3⟩ := x
              dsimp only at hg4 ⊢
              refine CWp.seq ?_
              refine CWp.region rfl ?_
              refine Walk.ltI .none rfl rfl rfl ?_
              refine ⟨trivial, ?_⟩
              refine CWp.seq ?_
              refine CWp.cond rfl (fun h6 => ?_) (fun h6 => ?_)
              · have h6p := h6; have h6s := h6; try simp only [Bool.not_eq_true', Bool.not_eq_false', Bool.not_not] at h6s
                try simp only [Bool.not_eq_true', Bool.not_eq_false', decide_eq_true_eq, decide_eq_false_iff_not, Bool.not_not, List.length_map, Bool.and_eq_true, Bool.or_eq_false_iff, Val.cs_len, Ty.eta] at h6p
                rcases rest3 with _ | ⟨v, rest3⟩
                · exfalso; simp_all
                have hvk := kids_len (v := v) (by rw [← hg4]; simp); rw [List.length_map] at hvk
                refine CWp.skip ?_
                refine CWp.seq ?_
                refine CWp.block ?_
                refine CWp.seq ?_
                refine CWp.region rfl ?_
                refine Walk.idx sl52 .none rfl rfl rfl rfl (zip_at hg4) rfl ?_
                refine Walk.loadPA ty54 .none rfl rfl rfl rfl ?_
                refine Walk.alloc (id := 3018) tz54 rfl .none rfl rfl rfl rfl ?_
                refine Walk.store ty54 .none rfl rfl rfl rfl rfl rfl (by simp) rfl ?_
                refine ⟨trivial, ?_⟩
                refine CWp.seq ?_
                refine CWp.region rfl ?_
                refine Walk.move .none rfl rfl ?_
                refine Walk.len sl52 .none rfl rfl ?_
                refine Walk.move .none rfl rfl ?_
                refine ⟨trivial, ?_⟩
                refine CWp.block ?_
                refine CWp.loopX (ι := List (Val) × List (Val)) hk (fun x => [(73, .d (.i (x.1.length : Int))), (16, .gl 3 ((pre3.flatMap (grow1 c (fullV w n y)) ++ x.1.map fun q => Val.mk c 0 (v.kids ++ [q])).map Val.cc))]) [20, 74, 75, 76, 77, 78, 79, 80, 81, 82, 83, 84, 85, 86, 87, 88] (fun x => [(3, some (.tok (((pre3.flatMap (grow1 c (fullV w n y)) ++ x.1.map fun q => Val.mk c 0 (v.kids ++ [q])).map Val.cc)).length 3))]) (fun x => x.1 ++ x.2 = fullV w n y) (fun x => x.2.length) ([], fullV w n y) (by simp) ⟨⟨_, rfl, (LeA.eqi (by first | rfl | (simp; done) | (simp [Val.ctor, Val.num, Val.kids, Val.cs_cc]; done)))⟩, ⟨⟨_, rfl, (LeA.glg (by first | rfl | (simp; done) | (simp [Val.ctor, Val.num, Val.kids, Val.cs_cc]; done)))⟩, trivial⟩⟩ ⟨beq_nat_eq (by first | rfl | (simp; done) | (simp; omega) | (first | rfl | (simp; done) | (simp [Val.ctor, Val.num, Val.kids, Val.cs_cc]; done))), trivial⟩ (fun x => rfl) (fun x hg5 => ?_)
                obtain ⟨pre4, rest4⟩ := x
                dsimp only at hg5 ⊢
                refine CWp.seq ?_
                refine CWp.region rfl ?_
                refine Walk.ltI .none rfl rfl rfl ?_
                refine ⟨trivial, ?_⟩
                refine CWp.seq ?_
                refine CWp.cond rfl (fun h7 => ?_) (fun h7 => ?_)
                · have h7p := h7; have h7s := h7; try simp only [Bool.not_eq_true', Bool.not_eq_false', Bool.not_not] at h7s
                  try simp only [Bool.not_eq_true', Bool.not_eq_false', decide_eq_true_eq, decide_eq_false_iff_not, Bool.not_not, List.length_map, Bool.and_eq_true, Bool.or_eq_false_iff, Val.cs_len, Ty.eta] at h7p
                  rcases rest4 with _ | ⟨q, rest4⟩
                  · exfalso; simp_all
                  have hml := more_len hg4 hg5 (N := 400) (by rw [grow_prod, List.length_map]; have := hpl.1; rwa [List.map_append] at this)
                  refine CWp.skip ?_
                  refine CWp.seq ?_
                  refine CWp.block ?_
                  refine CWp.seq ?_
                  refine CWp.region rfl ?_
                  refine Walk.idx sl52 .none rfl rfl rfl rfl (Val.cs_at hg5) rfl ?_
                  refine Walk.loadPA ty54 .none rfl rfl rfl rfl ?_
                  refine Walk.alloc (id := 3020) tz54 rfl .none rfl rfl rfl rfl ?_
                  refine Walk.store ty54 .none rfl rfl rfl rfl rfl rfl (by simp) rfl ?_
                  refine ⟨trivial, ?_⟩
                  refine CWp.drawn mixed rfl ?_
                  refine Walk.move .none rfl rfl ?_
                  refine Walk.move .none rfl rfl ?_
                  refine Walk.fieldB fd54_2 .none rfl rfl ?_
                  refine Walk.loadB ty52 .none rfl rfl rfl rfl ?_
                  refine Walk.call (cr := [77]) cal127 (slices_Clone_Val_fn (xs := v.kids) (by omega)) rfl .none rfl rfl (LeL.refl _) trivial rfl rfl rfl ?_
                  refine Walk.loadBA ty54 .none rfl rfl rfl rfl ?_
                  refine Walk.sliceLit sl52 tz54 rfl (by decide) (ks := [0]) (xs := [_]) rfl rfl (by decide) (by decide) .none rfl rfl rfl rfl ?_
                  refine Walk.append sl52 zz54 rfl .none rfl rfl rfl rfl (htokL rfl (by first | rfl | (simp; done) | (simp; omega))) (by intro z hz; first | (obtain ⟨_, _, rfl⟩ := List.mem_map.1 hz; rfl) | (simp at hz; rw [hz]; rfl) | (rw [Val.cs_cc] at hz; obtain ⟨_, _, rfl⟩ := List.mem_map.1 hz; rfl)) (by first | (simp only [List.length_map, List.length_append, List.length_cons, List.length_nil, Val.cs_len] at *; omega) | (rw [List.append_nil] at hg3; rw [hg3]; have h10 := ctorV_len w n ⟨d, k⟩ c; simp only [List.length_map]; omega)) (by first | (simp only [List.length_map, List.length_append, List.length_cons, List.length_nil, Val.cs_len] at *; omega) | (rw [List.append_nil] at hg3; rw [hg3]; have h10 := ctorV_len w n ⟨d, k⟩ c; simp only [List.length_map]; omega)) ?_
                  refine Walk.build st54 (ks := [0, 2]) (xs := [_, _]) rfl rfl .none rfl rfl rfl ?_
                  refine Walk.sliceLit sl52 tz54 rfl (by decide) (ks := [0]) (xs := [_]) rfl rfl (by decide) (by decide) .none rfl rfl rfl rfl ?_
                  refine Walk.append sl52 zz54 rfl .none rfl rfl rfl rfl (htokL rfl (by first | rfl | (simp; done) | (simp; omega))) (by intro z hz; first | (obtain ⟨_, _, rfl⟩ := List.mem_map.1 hz; rfl) | (simp at hz; rw [hz]; rfl) | (rw [Val.cs_cc] at hz; obtain ⟨_, _, rfl⟩ := List.mem_map.1 hz; rfl)) (by first | (simp only [List.length_map, List.length_append, List.length_cons, List.length_nil, Val.cs_len] at *; omega) | (rw [List.append_nil] at hg3; rw [hg3]; have h10 := ctorV_len w n ⟨d, k⟩ c; simp only [List.length_map]; omega)) (by first | (simp only [List.length_map, List.length_append, List.length_cons, List.length_nil, Val.cs_len] at *; omega) | (rw [List.append_nil] at hg3; rw [hg3]; have h10 := ctorV_len w n ⟨d, k⟩ c; simp only [List.length_map]; omega)) ?_
                  refine Walk.assign .none rfl rfl ?_
                  refine ⟨by show _ = _; kernel_rfl, ?_⟩
                  refine CWp.region rfl ?_
                  refine Walk.addI .none rfl rfl rfl (by first | (constructor <;> omega) | (constructor <;> simp <;> omega)) ?_
                  refine Walk.move .none rfl rfl ?_
                  refine ⟨trivial, ?_⟩
                  refine ⟨(pre4 ++ [q], rest4), (by have hz := hg5; rw [← hz]; simp), (by simp), Sub.x (by kernel_rfl) (by kernel_rfl) ⟨⟨_, rfl, (LeA.eqi (by first | rfl | (simp; done) | (simp [Val.ctor, Val.num, Val.kids, Val.cs_cc]; done)))⟩, ⟨⟨_, rfl, (LeA.glg (by first | rfl | (simp; done) | (simp [Val.ctor, Val.num, Val.kids, Val.cs_cc]; done)))⟩, trivial⟩⟩ (by kernel_rfl) (by kernel_rfl) ⟨beq_nat_eq (by first | rfl | (simp; done) | (simp; omega) | (first | rfl | (simp; done) | (simp [Val.ctor, Val.num, Val.kids, Val.cs_cc]; done))), trivial⟩⟩
                · have h7p := h7; have h7s := h7; try simp only [Bool.not_eq_true', Bool.not_eq_false', Bool.not_not] at h7s
                  try simp only [Bool.not_eq_true', Bool.not_eq_false', decide_eq_true_eq, decide_eq_false_iff_not, Bool.not_not, List.length_map, Bool.and_eq_true, Bool.or_eq_false_iff, Val.cs_len, Ty.eta] at h7p
                  have hrest4 : rest4 = [] := by
                    rcases rest4 with _ | ⟨a, b⟩
                    · rfl
                    · exfalso; have hz := congrArg List.length (hg5); simp only [List.length_append, List.length_cons, List.length_map] at hz; omega
                  subst hrest4
                  refine CWp.exit ?_
                  refine CWp.region rfl ?_
                  refine Walk.addI .none rfl rfl rfl (by first | (constructor <;> omega) | (constructor <;> simp <;> omega)) ?_
                  refine Walk.move .none rfl rfl ?_
                  refine ⟨trivial, ?_⟩
                  refine ⟨(pre3 ++ [v], rest3), (by have hz := hg4; rw [← hz]; simp), (by simp), Sub.x (by kernel_rfl) (by kernel_rfl) ⟨⟨_, rfl, (LeA.eqi (by first | rfl | (simp; done) | (rw [List.append_nil] at hg5; rw [← hg5]; simp [grow1]; done)))⟩, ⟨⟨_, rfl, (LeA.glg (by first | rfl | (simp; done) | (rw [List.append_nil] at hg5; rw [← hg5]; simp [grow1]; done)))⟩, trivial⟩⟩ (by kernel_rfl) (by kernel_rfl) ⟨beq_nat_eq (by first | rfl | (simp; done) | (simp; omega) | (first | rfl | (simp; done) | (rw [List.append_nil] at hg5; rw [← hg5]; simp [grow1]; done))), trivial⟩⟩
              · have h6p := h6; have h6s := h6; try simp only [Bool.not_eq_true', Bool.not_eq_false', Bool.not_not] at h6s
                try simp only [Bool.not_eq_true', Bool.not_eq_false', decide_eq_true_eq, decide_eq_false_iff_not, Bool.not_not, List.length_map, Bool.and_eq_true, Bool.or_eq_false_iff, Val.cs_len, Ty.eta] at h6p
                have hrest3 : rest3 = [] := by
                  rcases rest3 with _ | ⟨a, b⟩
                  · rfl
                  · exfalso; have hz := congrArg List.length (hg4); simp only [List.length_append, List.length_cons, List.length_map] at hz; omega
                subst hrest3
                refine CWp.exit ?_
                refine CWp.region rfl ?_
                refine Walk.move .none rfl rfl ?_
                refine Walk.assign .none rfl rfl ?_
                refine ⟨trivial, ?_⟩
                refine CWp.region rfl ?_
                refine Walk.addI .none rfl rfl rfl (by first | (constructor <;> omega) | (constructor <;> simp <;> omega)) ?_
                refine Walk.move .none rfl rfl ?_
                refine ⟨trivial, ?_⟩
                refine ⟨(pre2 ++ [y], rest2), (by have hz := hg3; rw [← hz]; simp), (by simp), Sub.x (by kernel_rfl) (by kernel_rfl) ⟨⟨_, rfl, (LeA.eqi (by first | rfl | (simp; done) | (rw [List.append_nil] at hg4; rw [hg4, grow_prod, List.map_append]; rfl)))⟩, ⟨⟨_, rfl, (by first | exact LeA.refl _ | exact LeA.gld (by first | rfl | (simp; done) | (rw [List.append_nil] at hg4; rw [hg4, grow_prod, List.map_append]; rfl)) | exact LeA.nild (by first | rfl | (simp; done) | (rw [List.append_nil] at hg4; rw [hg4, grow_prod, List.map_append]; rfl)) | exact LeA.eqsl (by first | rfl | (simp; done) | (rw [List.append_nil] at hg4; rw [hg4, grow_prod, List.map_append]; rfl)) | exact LeA.eqd (by first | rfl | (simp; done) | (rw [List.append_nil] at hg4; rw [hg4, grow_prod, List.map_append]; rfl)))⟩, trivial⟩⟩ (by kernel_rfl) (by kernel_rfl) trivial⟩
            · have h5p := h5; have h5s := h5; try simp only [Bool.not_eq_true', Bool.not_eq_false', Bool.not_not] at h5s
              try simp only [Bool.not_eq_true', Bool.not_eq_false', decide_eq_true_eq, decide_eq_false_iff_not, Bool.not_not, List.length_map, Bool.and_eq_true, Bool.or_eq_false_iff, Val.cs_len, Ty.eta] at h5p
              have hrest2 : rest2 = [] := by
                rcases rest2 with _ | ⟨a, b⟩
                · rfl
                · exfalso; have hz := congrArg List.length (hg3); simp only [List.length_append, List.length_cons, List.length_map] at hz; omega
              subst hrest2
              refine CWp.exit ?_
              refine CWp.region rfl ?_
              refine Walk.move .none rfl rfl ?_
              refine Walk.move .none rfl rfl ?_
              refine Walk.append sl52 zz54 rfl .none rfl rfl rfl rfl (htokL rfl (by first | rfl | (simp; done) | (simp; omega))) (by intro z hz; first | (obtain ⟨_, _, rfl⟩ := List.mem_map.1 hz; rfl) | (simp at hz; rw [hz]; rfl) | (rw [Val.cs_cc] at hz; obtain ⟨_, _, rfl⟩ := List.mem_map.1 hz; rfl)) (by first | (simp only [List.length_map, List.length_append, List.length_cons, List.length_nil, Val.cs_len] at *; omega) | (rw [List.append_nil] at hg3; rw [hg3]; have h10 := ctorV_len w n ⟨d, k⟩ c; simp only [List.length_map]; omega)) (by first | (simp only [List.length_map, List.length_append, List.length_cons, List.length_nil, Val.cs_len] at *; omega) | (rw [List.append_nil] at hg3; rw [hg3]; have h10 := ctorV_len w n ⟨d, k⟩ c; simp only [List.length_map]; omega)) ?_
              refine Walk.assign .none rfl rfl ?_
              refine ⟨trivial, ?_⟩
              refine CWp.region rfl ?_
              refine Walk.addI .none rfl rfl rfl (by first | (constructor <;> omega) | (constructor <;> simp <;> omega)) ?_
              refine Walk.move .none rfl rfl ?_
              refine ⟨trivial, ?_⟩
              refine ⟨(pre ++ [c], rest), (by have hz := hg2; rw [← hz]; simp), (by simp), Sub.x (by kernel_rfl) (by kernel_rfl) ⟨⟨_, rfl, (LeA.eqi (by first | rfl | (simp; done) | (rw [List.flatMap_append, List.map_append]; simp [ctorV_none, h1s, h1p, h2s, h2p, h3s, h3p, h4s, h4p, h5s, h5p]; done) | (rw [List.append_nil] at hg3; rw [List.flatMap_append, List.map_append, hg3]; simp [ctorV]; done)))⟩, ⟨⟨_, rfl, (LeA.glg (by first | rfl | (simp; done) | (rw [List.flatMap_append, List.map_append]; simp [ctorV_none, h1s, h1p, h2s, h2p, h3s, h3p, h4s, h4p, h5s, h5p]; done) | (rw [List.append_nil] at hg3; rw [List.flatMap_append, List.map_append, hg3]; simp [ctorV]; done)))⟩, trivial⟩⟩ (by kernel_rfl) (by kernel_rfl) ⟨beq_nat_eq (by first | rfl | (simp; done) | (simp; omega) | (first | rfl | (simp; done) | (rw [List.flatMap_append, List.map_append]; simp [ctorV_none, h1s, h1p, h2s, h2p, h3s, h3p, h4s, h4p, h5s, h5p]; done) | (rw [List.append_nil] at hg3; rw [List.flatMap_append, List.map_append, hg3]; simp [ctorV]; done))), trivial⟩⟩
        · have h3p := h3; have h3s := h3; try simp only [Bool.not_eq_true', Bool.not_eq_false', Bool.not_not] at h3s
          try simp only [Bool.not_eq_true', Bool.not_eq_false', decide_eq_true_eq, decide_eq_false_iff_not, Bool.not_not, List.length_map, Bool.and_eq_true, Bool.or_eq_false_iff, Val.cs_len, Ty.eta] at h3p
          have hrest : rest = [] := by
            rcases rest with _ | ⟨a, b⟩
            · rfl
            · exfalso; have hz := congrArg List.length (hg2); simp only [List.length_append, List.length_cons, List.length_map] at hz; omega
          subst hrest
          refine CWp.exit ?_
          refine CWp.seq ?_
          refine CWp.region rfl ?_
          refine Walk.move .none rfl rfl ?_
          refine Walk.assign .none rfl rfl ?_
          refine ⟨trivial, ?_⟩
          refine CWp.ret ?_
          refine ⟨_, _, [], (.cons (.tmp rfl) .nil), (.gld ?_), ⟨rfl, rfl⟩, HSub.nil, noBox⟩
          all_goals (rw [List.append_nil] at hg2; subst hg2; rw [fullV_ctors hne, Val.cs_cc])

end Go.Proofs.Ytadpcmcifbakoaa
