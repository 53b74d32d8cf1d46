/-
  THE ABSTRACT WALK AND THE WALKS, part 4 of 5: the parts F90, F91, F12, F15, F20, F21, F24, F25, F13, G2, F22, F26, F23, F27, F35, F28, F29, F36, F37, F92, L20, F93, F38, Val, F7, F94, F97, F98, F99, F95, F39, F96, F14, F100, F16.
-/
import Derived.Test.YtflgpdjbgfkhoaaTv3
namespace Go.Proofs.Ytflgpdjbgfkhoaa
open Go
set_option linter.unusedSimpArgs false
set_option linter.unusedVariables false
set_option maxRecDepth 100000
set_option maxHeartbeats 2000000
theorem flatTys (l : List Ty) : FlatR (l.map Ty.c) := by
 intro x hx y hy
 obtain ⟨t, _, rfl⟩ := List.mem_map.1 hx
 simp only [Ty.c, List.mem_cons, List.not_mem_nil, or_false] at hy
 rcases hy with rfl | rfl <;> rfl
theorem spec_l1Copy_fn {w : List Data} (hs : WSmall w) : FnD Try.prog 61 [.d (encDatas w)] [] (.gt 61 (w.map Data.c)) [(61, some (.tok (w.map Data.c).length 2))] := by
 have hl := hs.len
 refine bd Try.f61 55 [] [12] fun w0 F0 own kept hk => ?_
 refine Walk.sliceEmptyGT 61 sl23 .none rfl rfl ?_
 refine ev ?_
 refine CWp.loopX (ι := List (Data) × List (Data)) hk (fun x => [(4, .d (.i (x.1.length : Int))), (3, .gt 61 (x.1.map Data.c))]) [5, 6, 7, 9, 10, 11, 12, 13, 14, 15, 16, 17, 18, 19, 20, 21, 22, 23, 24, 25, 26, 27, 28, 29, 30, 31, 32, 33, 34, 35, 36, 37, 38, 39, 40, 41, 42, 43, 44, 45, 46, 47, 48, 49, 50, 51, 52, 53] (fun x => [(61, some (.tok ((x.1.map Data.c)).length 2))]) (fun x => x.1 ++ x.2 = w) (fun x => x.2.length) ([], w) (by simp) ⟨⟨_, rfl, (LeA.eqi (by first | rfl | (simp; done)))⟩, ⟨⟨_, rfl, (LeA.gtg (by first | rfl | (simp; done)))⟩, trivial⟩⟩ ⟨beq_nat_eq (by first | rfl | (simp; done) | (simp; omega) | (first | rfl | (simp; done))), trivial⟩ (fun x => rfl) (fun x hg1 => ?_)
 obtain ⟨pre, rest⟩ := x
 dsimp only at hg1 ⊢
 refine evc [] [12] ?_
 refine sq (fun h1 h1p h1s => ?_) fun h1 h1p h1s => ?_
 ·try simp only [Q] at h1p
  rcases rest with _ | ⟨y, rest⟩
  ·exfalso; simp_all
  have hcl := (hs.cs (d := y) (by rw [← hg1]; simp)).len; have hyn := (hs.data y (by rw [← hg1]; simp)).1
  refine Walk.idx sl23 .none rfl rfl rfl rfl (zip_at hg1) rfl ?_
  refine ev ?_
  refine Walk.build st51 (ks := [0]) (xs := [_]) rfl rfl .none rfl rfl rfl ?_
  refine Walk.alloc (id := 3005) tz51 rfl .none rfl rfl rfl rfl ?_
  refine Walk.store ty51 .none rfl rfl rfl rfl rfl rfl (by simp) rfl ?_
  refine tv ?_
  refine CWp.tokBT 3005 1 62 3 rfl rfl rfl rfl ?_
  refine CWp.loopX (ι := List (Ctor) × List (Ctor)) hk (fun x => [(6, .d (.i (x.1.length : Int)))]) [7, 21, 22, 23, 24, 25, 26, 27, 28, 29, 30, 31, 32, 33, 34, 35, 36, 37, 38, 39, 40, 41, 42, 43, 44, 45, 46, 47, 48, 49] (fun x => [(3005, some (.box [.d (.str y.name), .gt 62 (x.1.map Ctor.c)])), (62, some (.tok (x.1.map Ctor.c).length 3))]) (fun x => x.1 ++ x.2 = y.ctors) (fun x => x.2.length) ([], y.ctors) (by simp) ⟨⟨_, rfl, (LeA.eqi (by first | rfl | (simp; done)))⟩, trivial⟩ ⟨(by first | rfl | (simp [getH]; done)), ⟨beq_nat_eq (by first | rfl | (simp; done) | (simp; omega) | (first | rfl | (simp; done))), trivial⟩⟩ (fun x => rfl) (fun x hg2 => ?_)
  obtain ⟨pre2, rest2⟩ := x
  dsimp only at hg2 ⊢
  refine evc [] [12] ?_
  refine Walk.idx sl23 .none rfl rfl rfl rfl (zip_at hg1) rfl ?_
  refine ev ?_
  refine sq (fun h2 h2p h2s => ?_) fun h2 h2p h2s => ?_
  ·try simp only [Q] at h2p
   rcases rest2 with _ | ⟨z, rest2⟩
   ·exfalso; simp_all
   have hza := ((hs.cs (d := y) (by rw [← hg1]; simp)).ctor z (by rw [← hg2]; simp)).2
   refine Walk.idx sl23 .none rfl rfl rfl rfl (zip_at hg1) rfl ?_
   refine ev ?_
   refine Walk.idx sl49 .none rfl rfl rfl rfl (zip_at hg2) rfl ?_
   refine ev ?_
   refine Walk.alloc (id := 3007) tz54 rfl .none rfl rfl rfl rfl ?_
   refine Walk.store ty54 .none rfl rfl rfl rfl rfl rfl (by simp) rfl ?_
   refine tv ?_
   refine Walk.sliceEmptyGT 63 sl25 .none rfl rfl ?_
   refine ev ?_
   refine Walk.appendTV sl25 zz31 .none rfl rfl rfl rfl (htokL rfl (by first | rfl | (simp; done) | (simp; omega))) (by simp) (flatTys _) (by simp; omega) (by simp; omega) ?_
   refine ev ?_
   refine Walk.store ty25 .none rfl rfl rfl rfl rfl rfl (by simp) rfl ?_
   refine tv ?_
   refine Walk.sliceLitB (id := 3047) sl49 tz54 rfl (by decide) (ks := [0]) (xs := [_]) rfl rfl (by decide) (by decide) .none rfl rfl rfl rfl rfl rfl rfl ?_
   refine Walk.appendT hk rfl sl49 zz54 .none rfl rfl rfl rfl (htokL rfl (by first | rfl | (simp; done) | (simp; omega))) rfl (.sc rfl (.gt rfl (by first | rfl | (simp; done)) (.sc rfl .nil))) rfl rfl (by simp; omega) (by simp; omega) ?_
   refine ev ?_
   refine Walk.store ty49 .none rfl rfl rfl rfl rfl rfl (by simp) rfl ?_
   refine tv ?_
   refine ar ?_
   refine Exists.intro ((pre2 ++ [z], rest2)) ⟨(by have hz := hg2; rw [← hz]; simp), (by simp), Sub.x (by kernel_rfl) (by kernel_rfl) ⟨⟨_, rfl, (LeA.eqi (by first | rfl | (simp; done)))⟩, trivial⟩ (by kernel_rfl) (by kernel_rfl) ⟨(by first | rfl | (simp [getH]; done)), ⟨beq_nat_eq (by first | rfl | (simp; done) | (simp; omega) | (first | rfl | (simp; done))), trivial⟩⟩⟩
  ·try simp only [Q] at h2p
   have hrest2 : rest2 = [] := by
    rcases rest2 with _ | ⟨a, b⟩
    ·rfl
    ·exfalso; have hz := congrArg List.length (hg2); simp only [List.length_append, List.length_cons, List.length_map] at hz; omega
   subst hrest2
   rw [List.append_nil] at hg2; subst hg2
   refine evc [] [] ?_
   refine Walk.sliceLitB (id := 3052) sl23 tz51 rfl (by decide) (ks := [0]) (xs := [_]) rfl rfl (by decide) (by decide) .none rfl rfl rfl rfl rfl rfl rfl ?_
   refine Walk.appendT hk rfl sl23 zz51 .none rfl rfl rfl rfl (htokL rfl (by first | rfl | (simp; done) | (simp; omega))) rfl (.sc rfl (.gt rfl (by first | rfl | (simp; done)) .nil)) rfl rfl (by simp; omega) (by simp; omega) ?_
   refine ev ?_
   refine ar ?_
   refine Exists.intro ((pre ++ [y], rest)) ⟨(by have hz := hg1; rw [← hz]; simp), (by simp), Sub.x (by kernel_rfl) (by kernel_rfl) ⟨⟨_, rfl, (LeA.eqi (by first | rfl | (simp; done)))⟩, ⟨⟨_, rfl, (LeA.gtg (by first | rfl | (simp; done)))⟩, trivial⟩⟩ (by kernel_rfl) (by kernel_rfl) ⟨beq_nat_eq (by first | rfl | (simp; done) | (simp; omega) | (first | rfl | (simp; done))), trivial⟩⟩
 ·try simp only [Q] at h1p
  have hrest : rest = [] := by
   rcases rest with _ | ⟨a, b⟩
   ·rfl
   ·exfalso; have hz := congrArg List.length (hg1); simp only [List.length_append, List.length_cons, List.length_map] at hz; omega
  subst hrest
  refine rn [(61, some (.tok (w.map Data.c).length 2))] (r1 rfl) (.gtg ?_) ⟨rfl, rfl⟩ (SubH.get ⟨(by rw [List.append_nil] at hg1; subst hg1; rfl), trivial⟩) (boxOK rfl)
  all_goals (rw [List.append_nil] at hg1; subst hg1; rfl)
def nmsD : List Str := [[73], [], [97], [76, 76], [90]]
def nmsC : List Str := [[], [110, 105, 108], [84, 111, 111, 108, 111, 110, 103], [88]]
def mutY (b : Str) (p : Nat) (c : Int) (nm : Str) (c0 : Ctor) (cr : List Ctor) : Data × Nat :=
 if c = 0 then (⟨ofV b p nmsD, c0 :: cr⟩, p + 1)
 else if c = 1 then (⟨nm, []⟩, p)
 else if c = 2 then (⟨nm, ⟨ofV b p nmsC, c0.args, c0.index⟩ :: cr⟩, p + 1)
 else if c = 3 then (⟨nm, ⟨c0.name, c0.args ++ [⟨numV b p [9, -2, 0, -1], numV b (p + 1) [0, 4, -1, -2]⟩], c0.index⟩ :: cr⟩, p + 2)
 else if c = 4 then (⟨nm, ⟨c0.name, c0.args, numV b p [4, -1, 1]⟩ :: cr⟩, p + 1)
 else (⟨nm, c0 :: cr⟩, p)
def mutW (b : Str) (p : Nat) (w : List Data) : List Data × Nat :=
 match (nth w (pickV b p w.length).toNat).ctors with
 | [] => (w, p + 1)
 | c0 :: cr =>
  if pickV b (p + 1) 30 = 5 then (w ++ [nth w (pickV b p w.length).toNat], p + 2)
  else (w.set (pickV b p w.length).toNat (mutY b (p + 2) (pickV b (p + 1) 30) (nth w (pickV b p w.length).toNat).name c0 cr).1, (mutY b (p + 2) (pickV b (p + 1) 30) (nth w (pickV b p w.length).toNat).name c0 cr).2)
section
variable {b : Str} {p : Nat} {c : Int} {nm : Str} {c0 : Ctor} {cr : List Ctor}
theorem mutY_0 (h : c = 0) : mutY b p c nm c0 cr = (⟨ofV b p nmsD, c0 :: cr⟩, p + 1) := by unfold mutY; rw [if_pos h]
theorem mutY_1 (h0 : ¬ c = 0) (h : c = 1) : mutY b p c nm c0 cr = (⟨nm, []⟩, p) := by unfold mutY; rw [if_neg h0, if_pos h]
theorem mutY_2 (h0 : ¬ c = 0) (h1 : ¬ c = 1) (h : c = 2) : mutY b p c nm c0 cr = (⟨nm, ⟨ofV b p nmsC, c0.args, c0.index⟩ :: cr⟩, p + 1) := by unfold mutY; rw [if_neg h0, if_neg h1, if_pos h]
theorem mutY_3 (h0 : ¬ c = 0) (h1 : ¬ c = 1) (h2 : ¬ c = 2) (h : c = 3) : mutY b p c nm c0 cr = (⟨nm, ⟨c0.name, c0.args ++ [⟨numV b p [9, -2, 0, -1], numV b (p + 1) [0, 4, -1, -2]⟩], c0.index⟩ :: cr⟩, p + 2) := by unfold mutY; rw [if_neg h0, if_neg h1, if_neg h2, if_pos h]
theorem mutY_4 (h0 : ¬ c = 0) (h1 : ¬ c = 1) (h2 : ¬ c = 2) (h3 : ¬ c = 3) (h : c = 4) : mutY b p c nm c0 cr = (⟨nm, ⟨c0.name, c0.args, numV b p [4, -1, 1]⟩ :: cr⟩, p + 1) := by unfold mutY; rw [if_neg h0, if_neg h1, if_neg h2, if_neg h3, if_pos h]
theorem mutY_5 (h0 : ¬ c = 0) (h1 : ¬ c = 1) (h2 : ¬ c = 2) (h3 : ¬ c = 3) (h : ¬ c = 4) : mutY b p c nm c0 cr = (⟨nm, c0 :: cr⟩, p) := by unfold mutY; rw [if_neg h0, if_neg h1, if_neg h2, if_neg h3, if_neg h]
end
theorem mutW_bd (b : Str) (p : Nat) (w : List Data) : p + 1 ≤ (mutW b p w).2 ∧ (mutW b p w).2 ≤ p + 4 := by
 unfold mutW
 split
 ·dsimp only; omega
 ·split
  ·dsimp only; omega
  ·unfold mutY
   repeat' split
   all_goals dsimp only; omega
theorem nth_mid {α : Type} [Inhabited α] {pre rest : List α} {y : α} : nth (pre ++ y :: rest) pre.length = y := nth_at rfl
theorem set_mid {α : Type} {pre rest : List α} {y z : α} : (pre ++ y :: rest).set pre.length z = pre ++ z :: rest := by
 rw [List.set_append_right _ _ (Nat.le_refl _)]; simp
theorem mutW_mid {b : Str} {p : Nat} {pre rest : List Data} {nm : Str} {c0 : Ctor} {cr : List Ctor} (h : pickV b p (pre ++ ⟨nm, c0 :: cr⟩ :: rest).length = pre.length) (h5 : ¬ pickV b (p + 1) 30 = 5) :
  mutW b p (pre ++ ⟨nm, c0 :: cr⟩ :: rest) = (pre ++ (mutY b (p + 2) (pickV b (p + 1) 30) nm c0 cr).1 :: rest, (mutY b (p + 2) (pickV b (p + 1) 30) nm c0 cr).2) := by
 unfold mutW
 rw [h, Int.toNat_natCast, nth_mid]
 dsimp only
 rw [if_neg h5, set_mid]
theorem own_flat {α : Type} {f : α → List D} (m : Bool) : ∀ l : List α, (ownCells m (l.map f)).map ownToD = l.flatMap fun x => (f x).map .d
 | [] => rfl
 | x :: r => by
  rw [List.map_cons, ownCells_cons, List.map_append, own_flat m r, List.flatMap_cons]
  congr 1
  rw [List.map_map]
  refine List.map_congr_left (fun y _ => ?_)
  cases y <;> rfl
theorem own_chunk {α : Type} {f : α → List D} {k : Nat} {m1 m2 : Bool} {pre rest : List α} {z : α} {mid : List AV} {n : Nat} (hk : ∀ x, (f x).length = k) (hm : mid.map ownToD = (f z).map .d) (hn : n = (pre ++ z :: rest).length) :
  chunkD n k ((ownCells m1 (pre.map f) ++ (mid ++ ownCells m2 (rest.map f))).map ownToD) = some ((pre ++ z :: rest).map f) := by
 rw [List.map_append, List.map_append, own_flat, own_flat, hm, hn]
 have := chunkD_flat (f := f) (k := k) (l := pre ++ z :: rest) (fun x _ => hk x)
 rw [List.flatMap_append, List.flatMap_cons] at this
 exact this
theorem own_cons (m : Bool) (x : List D) (r : List (List D)) {l : List AV} (h : x.map (ownD m) ++ ownCells m r = l) : ownCells m (x :: r) = l := by rw [ownCells_cons]; exact h
theorem own_split {α : Type} {f : α → List D} (m : Bool) {pre rest : List α} {y : α} {l : List AV} (h : (f y).map (ownD m) ++ ownCells m (rest.map f) = l) : ownCells m ((pre ++ y :: rest).map f) = ownCells m (pre.map f) ++ l := by
 rw [List.map_append, ownCells_append, List.map_cons, ownCells_cons, h]
theorem spec_l1Mutate_a {b : Str} {p : Nat} {pre rest : List Data} {y : Data} (hb : b.length ≤ 2000) (hp : p ≤ 1000000) (hs : WSmall (pre ++ y :: rest)) (hd : pickV b p (pre ++ y :: rest).length = pre.length) (h5 : y.ctors = [] ∨ pickV b (p + 1) 30 = 5) :
  FnD Try.prog 38 [.ref 900 0, .d (encDatas (pre ++ y :: rest))] [(900, some (rdB b p))] (.d (encDatas (if y.ctors = [] then pre ++ y :: rest else (pre ++ y :: rest) ++ [y]))) [(900, some (rdB b (if y.ctors = [] then p + 1 else p + 2)))] := by
 have hl := hs.len
 have hpk := spec_pick_fn (p := p) (n := (((pre ++ y :: rest).map Data.c).length : Int)) hb (by omega) (by simp at hl ⊢; omega)
 have hpk2 := spec_pick_fn (p := p + 1) (n := 30) hb (by omega) (by omega)
 have hpv : pickV b p (((pre ++ y :: rest).map Data.c).length : Int) = pre.length := by rw [List.length_map]; exact hd
 rw [hpv] at hpk
 have hat : ((pre ++ y :: rest).map Data.c)[pre.length]? = some (Data.c y) := by simp
 generalize hw : pre ++ y :: rest = w at *
 generalize hc : pickV b (p + 1) 30 = c at *
 have hlm : ((w.map Data.c).length : Int) = w.length := by simp
 refine bd Try.f38 99 [] [2] fun w0 F0 own kept hk => ?_
 refine Walk.call (cr := [61]) cal61 (spec_l1Copy_fn hs) rfl .none rfl rfl (LeL.refl _) trivial rfl (by first | rfl | (simp only [okCall, List.all_cons, List.all_nil, entOK, entOK', AV.idsL, AV.ids, idsL_append, ownCells_ids, List.map_cons, List.map_nil]; rfl)) (by first | rfl | (simp only [freshB, occH, occE, Res.ids, List.cons_append, List.nil_append, AV.idsL, AV.ids, idsL_append, ownCells_ids, zerosA_idsR, repNil, List.map_cons, List.map_nil, upC]; rfl)) ?_
 refine ev ?_
 refine CWp.gtGl 5 61 64 2 rfl rfl (by simp) rfl ?_
 refine evc [] [] ?_
 refine Walk.call (cr := []) cal48 (hpk) rfl .none rfl rfl (LeL.refl _) ⟨rfl, trivial⟩ rfl rfl rfl ?_
 refine ev ?_
 refine Walk.idxG sl23 .none rfl rfl rfl rfl (hat) rfl ?_
 refine ev ?_
 refine sq (fun h1 h1p h1s => ?_) fun h1 h1p h1s => ?_
 ·try simp only [Q] at h1p
  refine rn [(900, some (rdB b (if y.ctors = [] then p + 1 else p + 2)))] (r1 rfl) (.gld ?_) ⟨rfl, rfl⟩ (SubO.get ⟨.inr (by first | (rw [if_pos (by assumption)]; done) | (rw [if_neg (by assumption)]; done) | (rw [if_pos (by simpa using h1p)]; all_goals rfl) | (rw [if_neg (by simpa using h1p)]; all_goals rfl)), ⟨.inl rfl, trivial⟩⟩) (boxOK rfl)
  all_goals (first | (rw [if_pos (by simpa using h1p)]; all_goals rfl) | (rw [if_neg (by simpa using h1p)]; all_goals first | rfl | (show _ = (w ++ [y]).map Data.c; rw [List.map_append]; rfl) | (show D.sl _ = D.sl ((w ++ [y]).map Data.c); rw [List.map_append]; rfl)))
 ·try simp only [Q] at h1p
  have hc5 : c = 5 := h5.resolve_left (by simpa using h1p)
  refine Walk.call (cr := []) cal48 (hpk2) rfl .none rfl rfl (LeL.refl _) ⟨rfl, trivial⟩ rfl rfl rfl ?_
  refine tv ?_
  refine sq (fun h2 h2p h2s => ?_) fun h2 h2p h2s => ?_
  ·try simp only [Q] at h2p
   exfalso; omega --stop
  ·try simp only [Q] at h2p
   refine sq (fun h3 h3p h3s => ?_) fun h3 h3p h3s => ?_
   ·try simp only [Q] at h3p
    exfalso; omega --stop
   ·try simp only [Q] at h3p
    refine sq (fun h4 h4p h4s => ?_) fun h4 h4p h4s => ?_
    ·try simp only [Q] at h4p
     exfalso; omega --stop
    ·try simp only [Q] at h4p
     refine sq (fun h5 h5p h5s => ?_) fun h5 h5p h5s => ?_
     ·try simp only [Q] at h5p
      exfalso; omega --stop
     ·try simp only [Q] at h5p
      refine sq (fun h6 h6p h6s => ?_) fun h6 h6p h6s => ?_
      ·try simp only [Q] at h6p
       exfalso; omega --stop
      ·try simp only [Q] at h6p
       refine sq (fun h7 h7p h7s => ?_) fun h7 h7p h7s => ?_
       ·try simp only [Q] at h7p
        refine Walk.idxG sl23 .none rfl rfl rfl rfl (hat) rfl ?_
        refine ev ?_
        refine Walk.sliceLit sl23 tz51 rfl (by decide) (ks := [0]) (xs := [_]) rfl rfl (by decide) (by decide) .none rfl rfl rfl rfl ?_
        refine Walk.append sl23 zz51 rfl .none rfl rfl rfl rfl (htokL rfl (by first | rfl | (simp; done) | (simp; omega))) (by intro x hx; simp only [List.mem_singleton] at hx; subst hx; rfl) (by simp at hl ⊢; omega) (by simp at hl ⊢; omega) ?_
        refine ev ?_
        refine rn [(900, some (rdB b (if y.ctors = [] then p + 1 else p + 2)))] (r1 rfl) (.gld ?_) ⟨rfl, rfl⟩ (SubO.get ⟨.inr (by first | (rw [if_pos (by assumption)]; done) | (rw [if_neg (by assumption)]; done) | (rw [if_pos (by simpa using h1p)]; all_goals rfl) | (rw [if_neg (by simpa using h1p)]; all_goals rfl)), ⟨.inl rfl, trivial⟩⟩) (boxOK rfl)
        all_goals (first | (rw [if_pos (by simpa using h1p)]; all_goals rfl) | (rw [if_neg (by simpa using h1p)]; all_goals first | rfl | (show _ = (w ++ [y]).map Data.c; rw [List.map_append]; rfl) | (show D.sl _ = D.sl ((w ++ [y]).map Data.c); rw [List.map_append]; rfl)))
       ·try simp only [Q] at h7p
        exfalso; omega --stop
theorem spec_l1Mutate_t {b : Str} {p : Nat} {pre rest : List Data} {nm : Str} {c0 : Ctor} {cr : List Ctor} (hb : b.length ≤ 2000) (hp : p ≤ 1000000) (hs : WSmall (pre ++ ⟨nm, c0 :: cr⟩ :: rest)) (hd : pickV b p (pre ++ ⟨nm, c0 :: cr⟩ :: rest).length = pre.length) (h5 : ¬ pickV b (p + 1) 30 = 5) :
  FnD Try.prog 38 [.ref 900 0, .d (encDatas (pre ++ ⟨nm, c0 :: cr⟩ :: rest))] [(900, some (rdB b p))] (.d (encDatas (pre ++ (mutY b (p + 2) (pickV b (p + 1) 30) nm c0 cr).1 :: rest))) [(900, some (rdB b (mutY b (p + 2) (pickV b (p + 1) 30) nm c0 cr).2))] := by
 have hl := hs.len
 have hpk := spec_pick_fn (p := p) (n := (((pre ++ ⟨nm, c0 :: cr⟩ :: rest).map Data.c).length : Int)) hb (by omega) (by simp at hl ⊢; omega)
 have hpk2 := spec_pick_fn (p := p + 1) (n := 30) hb (by omega) (by omega)
 have hpv : pickV b p (((pre ++ ⟨nm, c0 :: cr⟩ :: rest).map Data.c).length : Int) = pre.length := by rw [List.length_map]; exact hd
 rw [hpv] at hpk
 have hal : c0.args.length ≤ 1000000000000 := ((hs.ctor ⟨nm, c0 :: cr⟩ (by simp)) c0 (by simp)).2
 generalize hc : pickV b (p + 1) 30 = c at *
 have hlw : pre.length < ((pre ++ ⟨nm, c0 :: cr⟩ :: rest).map Data.c).length := by simp
 refine bd Try.f38 99 [17, 45, 57, 62, 65, 83] [2, 3, 7, 9, 11, 13, 15, 18] fun w0 F0 own kept hk => ?_
 refine Walk.call (cr := [61]) cal61 (spec_l1Copy_fn hs) rfl .none rfl rfl (LeL.refl _) trivial rfl (by first | rfl | (simp only [okCall, List.all_cons, List.all_nil, entOK, entOK', AV.idsL, AV.ids, idsL_append, ownCells_ids, List.map_cons, List.map_nil, ownCells_ids]; rfl)) (by first | rfl | (simp only [freshB, occH, occE, Res.ids, List.cons_append, List.nil_append, AV.idsL, AV.ids, idsL_append, ownCells_ids, zerosA_idsR, repNil, List.map_cons, List.map_nil, upC, ownCells_ids]; rfl)) ?_
 refine evs [17, 45, 57, 62, 65, 83] [] ?_
 refine CWp.fixT hk 5 61 2 rfl rfl rfl (fun hx => absurd hx (by simp)) (fun hx => ?_)
 refine evc [17, 45, 57, 62, 65, 83] [] ?_
 refine Walk.call (cr := []) cal48 (hpk) rfl .none rfl rfl (LeL.refl _) ⟨rfl, trivial⟩ rfl (by first | rfl | (simp only [okCall, List.all_cons, List.all_nil, entOK, entOK', AV.idsL, AV.ids, idsL_append, ownCells_ids, List.map_cons, List.map_nil, ownCells_ids]; rfl)) (by first | rfl | (simp only [freshB, occH, occE, Res.ids, List.cons_append, List.nil_append, AV.idsL, AV.ids, idsL_append, ownCells_ids, zerosA_idsR, repNil, List.map_cons, List.map_nil, upC, ownCells_ids]; rfl)) ?_
 refine evs [17, 45, 57, 62, 65, 83] [] ?_
 refine CWp.reTree 61 (ownCells true (pre.map Data.c) ++ (.d (.str nm) :: .own true (.sl ((c0 :: cr).map Ctor.c)) :: ownCells true (rest.map Data.c))) rfl (own_split true rfl) ?_
 refine CWp.split 61 (pre.length * 2 + 1) 62 rfl (cell_off (own_len (k := 2) true (by intro x _; rfl)) rfl) (by simp) (by first | rfl | (simp only [freshB, occH, occE, Res.ids, List.cons_append, List.nil_append, AV.idsL, AV.ids, idsL_append, ownCells_ids, zerosA_idsR, repNil, List.map_cons, List.map_nil, upC]; rfl)) (putC_off (own_len (k := 2) true (by intro x _; rfl)) putC_c1) ?_
 refine CWp.reTree 62 (.d (.str c0.name) :: .own true (.sl (c0.args.map Ty.c)) :: .d (.i c0.index) :: ownCells true (cr.map Ctor.c)) rfl (own_cons true _ _ rfl) ?_
 refine evc [17, 45, 57, 62, 65, 83] [] ?_
 refine Walk.idxM sl23 .none rfl rfl rfl rfl (by first | omega | (simp; done) | (simp; omega)) ?_
 refine evs [17, 45, 57, 62, 65, 83] [] ?_
 refine Walk.loadT ty49 .none rfl rfl rfl ((by rw [cell_off (own_len (k := 2) true (by intro x _; rfl)) rfl]; rfl)) ?_
 refine evs [17, 45, 57, 62, 65, 83] [] ?_
 refine sq (fun h1 h1p h1s => ?_) fun h1 h1p h1s => ?_
 ·try simp only [Q] at h1p
  exfalso; simp at h1; omega --stop
 ·try simp only [Q] at h1p
  refine Walk.call (cr := []) cal48 (hpk2) rfl .none rfl rfl (LeL.refl _) ⟨rfl, trivial⟩ rfl (by first | rfl | (simp only [okCall, List.all_cons, List.all_nil, entOK, entOK', AV.idsL, AV.ids, idsL_append, ownCells_ids, List.map_cons, List.map_nil, ownCells_ids]; rfl)) (by first | rfl | (simp only [freshB, occH, occE, Res.ids, List.cons_append, List.nil_append, AV.idsL, AV.ids, idsL_append, ownCells_ids, zerosA_idsR, repNil, List.map_cons, List.map_nil, upC, ownCells_ids]; rfl)) ?_
  refine tv ?_
  refine sq (fun h2 h2p h2s => ?_) fun h2 h2p h2s => ?_
  ·try simp only [Q] at h2p
   try rfl
   refine evc [17, 45, 57, 62, 65, 83] [] ?_
   refine Walk.sliceLit sl91 tz9 rfl (by decide) (ks := [0, 1, 2, 3, 4]) (xs := [_, _, _, _, _]) rfl rfl (by decide) (by decide) .none rfl rfl rfl rfl ?_
   refine Walk.call (cr := []) cal62 (spec_of_fn (p := p + 2) (l := nmsD) hb (by omega) (by simp [nmsD]) (by simp [nmsD])) rfl .none rfl rfl (LeL.refl _) ⟨rfl, trivial⟩ rfl (by first | rfl | (simp only [okCall, List.all_cons, List.all_nil, entOK, entOK', AV.idsL, AV.ids, idsL_append, ownCells_ids, List.map_cons, List.map_nil, ownCells_ids]; rfl)) (by first | rfl | (simp only [freshB, occH, occE, Res.ids, List.cons_append, List.nil_append, AV.idsL, AV.ids, idsL_append, ownCells_ids, zerosA_idsR, repNil, List.map_cons, List.map_nil, upC, ownCells_ids]; rfl)) ?_
   refine Walk.idxM sl23 .none rfl rfl rfl rfl (by first | omega | (simp; done) | (simp; omega)) ?_
   refine evs [17, 45, 57, 62, 65, 83] [] ?_
   refine Walk.storeT ty9 .none rfl rfl rfl rfl rfl rfl (by simp) ((putC_off (own_len (k := 2) true (by intro x _; rfl)) putC_c0)) ?_
   refine tv ?_
   try rfl
   refine CWp.reTree 62 (ownCells true ((c0 :: cr).map Ctor.c)) rfl (by rw [List.map_cons, ownCells_cons]; rfl) ?_
   refine CWp.merge hk 61 (pre.length * 2 + 1) 62 3 _ rfl (cell_off (own_len (k := 2) true (by intro x _; rfl)) rfl) (by simp) rfl (by intro x hx; obtain ⟨y, _, rfl⟩ := List.mem_map.1 hx; rfl) rfl rfl (putC_off (own_len (k := 2) true (by intro x _; rfl)) putC_c1) ?_
   refine CWp.frzTree hk 5 61 _ 2 (es := (pre ++ (⟨(ofV b (p + 2) nmsD), c0 :: cr⟩ : Data) :: rest).map Data.c) rfl rfl (own_chunk (z := (⟨(ofV b (p + 2) nmsD), c0 :: cr⟩ : Data)) (mid := [.d (.str (ofV b (p + 2) nmsD)), .own false (.sl ((c0 :: cr).map Ctor.c))]) (fun _ => rfl) rfl (by simp)) rfl ?_
   refine evc [17, 45, 57, 62, 65, 83] [] ?_
   refine rn [(900, some (rdB b (mutY b (p + 2) c nm c0 cr).2))] (r1 rfl) (.eqd ?_) ⟨rfl, rfl⟩ (SubO.get ⟨.inr (by first | (rw [mutY_0 (by omega)]; all_goals rfl) | (rw [mutY_1 (by omega) (by omega)]; all_goals rfl) | (rw [mutY_2 (by omega) (by omega) (by omega)]; all_goals rfl) | (rw [mutY_3 (by omega) (by omega) (by omega) (by omega)]; all_goals rfl) | (rw [mutY_4 (by omega) (by omega) (by omega) (by omega) (by omega)]; all_goals rfl) | (rw [mutY_5 (by omega) (by omega) (by omega) (by omega) (by omega)]; all_goals rfl)), ⟨.inl rfl, trivial⟩⟩) (boxOK rfl)
   all_goals (first | (rw [mutY_0 (by omega)]; all_goals rfl) | (rw [mutY_1 (by omega) (by omega)]; all_goals rfl) | (rw [mutY_2 (by omega) (by omega) (by omega)]; all_goals rfl) | (rw [mutY_3 (by omega) (by omega) (by omega) (by omega)]; all_goals rfl) | (rw [mutY_4 (by omega) (by omega) (by omega) (by omega) (by omega)]; all_goals rfl) | (rw [mutY_5 (by omega) (by omega) (by omega) (by omega) (by omega)]; all_goals rfl))
  ·try simp only [Q] at h2p
   refine sq (fun h3 h3p h3s => ?_) fun h3 h3p h3s => ?_
   ·try simp only [Q] at h3p
    try rfl
    refine evc [17, 45, 57, 62, 65, 83] [] ?_
    refine Walk.sliceEmpty sl49 .none rfl ?_
    refine Walk.idxM sl23 .none rfl rfl rfl rfl (by first | omega | (simp; done) | (simp; omega)) ?_
    refine evs [17, 45, 57, 62, 65, 83] [] ?_
    refine Walk.storeT ty49 .none rfl rfl rfl rfl rfl rfl (by simp) ((putC_off (own_len (k := 2) true (by intro x _; rfl)) putC_c1)) ?_
    refine tv ?_
    try rfl
    refine CWp.frzTree hk 5 61 _ 2 (es := (pre ++ (⟨nm, []⟩ : Data) :: rest).map Data.c) rfl rfl (own_chunk (z := (⟨nm, []⟩ : Data)) (mid := [.d (.str nm), .d (.sl [])]) (fun _ => rfl) rfl (by simp)) rfl ?_
    refine evc [17, 45, 57, 62, 65, 83] [] ?_
    refine rn [(900, some (rdB b (mutY b (p + 2) c nm c0 cr).2))] (r1 rfl) (.eqd ?_) ⟨rfl, rfl⟩ (SubO.get ⟨.inr (by first | (rw [mutY_0 (by omega)]; all_goals rfl) | (rw [mutY_1 (by omega) (by omega)]; all_goals rfl) | (rw [mutY_2 (by omega) (by omega) (by omega)]; all_goals rfl) | (rw [mutY_3 (by omega) (by omega) (by omega) (by omega)]; all_goals rfl) | (rw [mutY_4 (by omega) (by omega) (by omega) (by omega) (by omega)]; all_goals rfl) | (rw [mutY_5 (by omega) (by omega) (by omega) (by omega) (by omega)]; all_goals rfl)), ⟨.inl rfl, trivial⟩⟩) (boxOK rfl)
    all_goals (first | (rw [mutY_0 (by omega)]; all_goals rfl) | (rw [mutY_1 (by omega) (by omega)]; all_goals rfl) | (rw [mutY_2 (by omega) (by omega) (by omega)]; all_goals rfl) | (rw [mutY_3 (by omega) (by omega) (by omega) (by omega)]; all_goals rfl) | (rw [mutY_4 (by omega) (by omega) (by omega) (by omega) (by omega)]; all_goals rfl) | (rw [mutY_5 (by omega) (by omega) (by omega) (by omega) (by omega)]; all_goals rfl))
   ·try simp only [Q] at h3p
    refine sq (fun h4 h4p h4s => ?_) fun h4 h4p h4s => ?_
    ·try simp only [Q] at h4p
     try rfl
     refine evc [17, 45, 57, 62, 65, 83] [] ?_
     refine Walk.idxM sl23 .none rfl rfl rfl rfl (by first | omega | (simp; done) | (simp; omega)) ?_
     refine evd [17, 45, 57, 62, 65, 83] [] ?_
     refine Walk.loadT ty49 .none rfl rfl rfl ((by rw [cell_off (own_len (k := 2) true (by intro x _; rfl)) rfl]; rfl)) ?_
     refine evd [17, 45, 57, 62, 65, 83] [] ?_
     refine Walk.sliceLit sl91 tz9 rfl (by decide) (ks := [0, 1, 2, 3]) (xs := [_, _, _, _]) rfl rfl (by decide) (by decide) .none rfl rfl rfl rfl ?_
     refine Walk.call (cr := []) cal62 (spec_of_fn (p := p + 2) (l := nmsC) hb (by omega) (by simp [nmsC]) (by simp [nmsC])) rfl .none rfl rfl (LeL.refl _) ⟨rfl, trivial⟩ rfl (by first | rfl | (simp only [okCall, List.all_cons, List.all_nil, entOK, entOK', AV.idsL, AV.ids, idsL_append, ownCells_ids, List.map_cons, List.map_nil, ownCells_ids]; rfl)) (by first | rfl | (simp only [freshB, occH, occE, Res.ids, List.cons_append, List.nil_append, AV.idsL, AV.ids, idsL_append, ownCells_ids, zerosA_idsR, repNil, List.map_cons, List.map_nil, upC, ownCells_ids]; rfl)) ?_
     refine Walk.idxM (i := 0) sl49 .none rfl rfl rfl rfl (by first | omega | (simp; done) | (simp; omega)) ?_
     refine evd [17, 45, 57, 62, 65, 83] [] ?_
     refine Walk.storeT ty9 .none rfl rfl rfl rfl rfl rfl (by simp) ((putC_c0)) ?_
     refine dr ?_
     try rfl
     refine CWp.reTree 62 (ownCells true (((⟨ofV b (p + 2) nmsC, c0.args, c0.index⟩ : Ctor) :: cr).map Ctor.c)) rfl (by rw [List.map_cons, ownCells_cons]; rfl) ?_
     refine CWp.merge hk 61 (pre.length * 2 + 1) 62 3 _ rfl (cell_off (own_len (k := 2) true (by intro x _; rfl)) rfl) (by simp) rfl (by intro x hx; obtain ⟨y, _, rfl⟩ := List.mem_map.1 hx; rfl) rfl rfl (putC_off (own_len (k := 2) true (by intro x _; rfl)) putC_c1) ?_
     refine CWp.frzTree hk 5 61 _ 2 (es := (pre ++ (⟨nm, (⟨ofV b (p + 2) nmsC, c0.args, c0.index⟩ : Ctor) :: cr⟩ : Data) :: rest).map Data.c) rfl rfl (own_chunk (z := (⟨nm, (⟨ofV b (p + 2) nmsC, c0.args, c0.index⟩ : Ctor) :: cr⟩ : Data)) (mid := [.d (.str nm), .own false (.sl (((⟨ofV b (p + 2) nmsC, c0.args, c0.index⟩ : Ctor) :: cr).map Ctor.c))]) (fun _ => rfl) rfl (by simp)) rfl ?_
     refine evc [17, 45, 57, 62, 65, 83] [] ?_
     refine rn [(900, some (rdB b (mutY b (p + 2) c nm c0 cr).2))] (r1 rfl) (.eqd ?_) ⟨rfl, rfl⟩ (SubO.get ⟨.inr (by first | (rw [mutY_0 (by omega)]; all_goals rfl) | (rw [mutY_1 (by omega) (by omega)]; all_goals rfl) | (rw [mutY_2 (by omega) (by omega) (by omega)]; all_goals rfl) | (rw [mutY_3 (by omega) (by omega) (by omega) (by omega)]; all_goals rfl) | (rw [mutY_4 (by omega) (by omega) (by omega) (by omega) (by omega)]; all_goals rfl) | (rw [mutY_5 (by omega) (by omega) (by omega) (by omega) (by omega)]; all_goals rfl)), ⟨.inl rfl, trivial⟩⟩) (boxOK rfl)
     all_goals (first | (rw [mutY_0 (by omega)]; all_goals rfl) | (rw [mutY_1 (by omega) (by omega)]; all_goals rfl) | (rw [mutY_2 (by omega) (by omega) (by omega)]; all_goals rfl) | (rw [mutY_3 (by omega) (by omega) (by omega) (by omega)]; all_goals rfl) | (rw [mutY_4 (by omega) (by omega) (by omega) (by omega) (by omega)]; all_goals rfl) | (rw [mutY_5 (by omega) (by omega) (by omega) (by omega) (by omega)]; all_goals rfl))
    ·try simp only [Q] at h4p
     refine sq (fun h5 h5p h5s => ?_) fun h5 h5p h5s => ?_
     ·try simp only [Q] at h5p
      refine CWp.splitT 62 1 63 2 rfl rfl (by intro x hx; obtain ⟨y, _, rfl⟩ := List.mem_map.1 hx; rfl) (by first | rfl | (simp only [freshB, occH, occE, Res.ids, List.cons_append, List.nil_append, AV.idsL, AV.ids, idsL_append, ownCells_ids, zerosA_idsR, repNil, List.map_cons, List.map_nil, upC]; rfl)) rfl ?_
      refine evc [17, 45, 57, 62, 65, 83] [] ?_
      refine Walk.idxM sl23 .none rfl rfl rfl rfl (by first | omega | (simp; done) | (simp; omega)) ?_
      refine evd [17, 45, 57, 62, 65, 83] [] ?_
      refine Walk.loadT ty49 .none rfl rfl rfl ((by rw [cell_off (own_len (k := 2) true (by intro x _; rfl)) rfl]; rfl)) ?_
      refine evd [17, 45, 57, 62, 65, 83] [] ?_
      refine Walk.idxM sl23 .none rfl rfl rfl rfl (by first | omega | (simp; done) | (simp; omega)) ?_
      refine evd [17, 45, 57, 62, 65, 83] [] ?_
      refine Walk.loadT ty49 .none rfl rfl rfl ((by rw [cell_off (own_len (k := 2) true (by intro x _; rfl)) rfl]; rfl)) ?_
      refine Walk.idxM (i := 0) sl49 .none rfl rfl rfl rfl (by first | omega | (simp; done) | (simp; omega)) ?_
      refine evd [17, 45, 57, 62, 65, 83] [] ?_
      refine Walk.loadT ty25 .none rfl rfl rfl ((rfl)) ?_
      refine evd [17, 45, 57, 62, 65, 83] [] ?_
      refine Walk.sliceLit sl93 tz3 rfl (by decide) (ks := [0, 1, 2, 3]) (xs := [_, _, _, _]) rfl rfl (by decide) (by decide) .none rfl rfl rfl rfl ?_
      refine Walk.call (cr := []) cal63 (spec_num_fn (p := p + 2) (l := [9, -2, 0, -1]) hb (by omega) (by simp) (by simp)) rfl .none rfl rfl (LeL.refl _) ⟨rfl, trivial⟩ rfl (by first | rfl | (simp only [okCall, List.all_cons, List.all_nil, entOK, entOK', AV.idsL, AV.ids, idsL_append, ownCells_ids, List.map_cons, List.map_nil, ownCells_ids]; rfl)) (by first | rfl | (simp only [freshB, occH, occE, Res.ids, List.cons_append, List.nil_append, AV.idsL, AV.ids, idsL_append, ownCells_ids, zerosA_idsR, repNil, List.map_cons, List.map_nil, upC, ownCells_ids]; rfl)) ?_
      refine evd [17, 45, 57, 62, 65, 83] [] ?_
      refine Walk.sliceLit sl93 tz3 rfl (by decide) (ks := [0, 1, 2, 3]) (xs := [_, _, _, _]) rfl rfl (by decide) (by decide) .none rfl rfl rfl rfl ?_
      refine Walk.call (cr := []) cal63 (spec_num_fn (p := p + 3) (l := [0, 4, -1, -2]) hb (by omega) (by simp) (by simp)) rfl .none rfl rfl (LeL.refl _) ⟨rfl, trivial⟩ rfl (by first | rfl | (simp only [okCall, List.all_cons, List.all_nil, entOK, entOK', AV.idsL, AV.ids, idsL_append, ownCells_ids, List.map_cons, List.map_nil, ownCells_ids]; rfl)) (by first | rfl | (simp only [freshB, occH, occE, Res.ids, List.cons_append, List.nil_append, AV.idsL, AV.ids, idsL_append, ownCells_ids, zerosA_idsR, repNil, List.map_cons, List.map_nil, upC, ownCells_ids]; rfl)) ?_
      refine Walk.build st31 (ks := [0, 1]) (xs := [_, _]) rfl rfl .none rfl rfl rfl ?_
      refine Walk.sliceLit sl25 tz31 rfl (by decide) (ks := [0]) (xs := [_]) rfl rfl (by decide) (by decide) .none rfl rfl rfl rfl ?_
      refine Walk.appendTV sl25 zz31 .none rfl rfl rfl rfl (htokL rfl (by first | rfl | (simp; done) | (simp; omega))) (by intro x hx; simp only [List.mem_singleton] at hx; subst hx; rfl) (by intro x hx y hy; simp only [List.mem_singleton] at hx; subst hx; simp only [List.mem_cons, List.not_mem_nil, or_false] at hy; rcases hy with rfl | rfl <;> rfl) (by simp; omega) (by simp; omega) ?_
      refine Walk.idxM (i := 0) sl49 .none rfl rfl rfl rfl (by first | omega | (simp; done) | (simp; omega)) ?_
      refine evd [17, 45, 57, 62, 65, 83] [] ?_
      refine Walk.storeT ty25 .none rfl rfl rfl rfl rfl rfl (by simp) ((putC_c1)) ?_
      refine dr ?_
      try rfl
      refine CWp.mergeT 62 1 63 2 rfl rfl rfl (by simp) rfl ?_
      refine CWp.reTree 62 (.d (.str c0.name) :: .own true (.sl ((c0.args ++ [(⟨numV b (p + 2) [9, -2, 0, -1], numV b (p + 3) [0, 4, -1, -2]⟩ : Ty)]).map Ty.c)) :: .d (.i c0.index) :: ownCells true (cr.map Ctor.c)) rfl (by rw [List.map_append]; rfl) ?_
      refine CWp.reTree 62 (ownCells true (((⟨c0.name, c0.args ++ [(⟨numV b (p + 2) [9, -2, 0, -1], numV b (p + 3) [0, 4, -1, -2]⟩ : Ty)], c0.index⟩ : Ctor) :: cr).map Ctor.c)) rfl (by rw [List.map_cons, ownCells_cons]; rfl) ?_
      refine CWp.merge hk 61 (pre.length * 2 + 1) 62 3 _ rfl (cell_off (own_len (k := 2) true (by intro x _; rfl)) rfl) (by simp) rfl (by intro x hx; obtain ⟨y, _, rfl⟩ := List.mem_map.1 hx; rfl) rfl rfl (putC_off (own_len (k := 2) true (by intro x _; rfl)) putC_c1) ?_
      refine CWp.frzTree hk 5 61 _ 2 (es := (pre ++ (⟨nm, (⟨c0.name, c0.args ++ [(⟨numV b (p + 2) [9, -2, 0, -1], numV b (p + 3) [0, 4, -1, -2]⟩ : Ty)], c0.index⟩ : Ctor) :: cr⟩ : Data) :: rest).map Data.c) rfl rfl (own_chunk (z := (⟨nm, (⟨c0.name, c0.args ++ [(⟨numV b (p + 2) [9, -2, 0, -1], numV b (p + 3) [0, 4, -1, -2]⟩ : Ty)], c0.index⟩ : Ctor) :: cr⟩ : Data)) (mid := [.d (.str nm), .own false (.sl (((⟨c0.name, c0.args ++ [(⟨numV b (p + 2) [9, -2, 0, -1], numV b (p + 3) [0, 4, -1, -2]⟩ : Ty)], c0.index⟩ : Ctor) :: cr).map Ctor.c))]) (fun _ => rfl) rfl (by simp)) rfl ?_
      refine evc [17, 45, 57, 62, 65, 83] [] ?_
      refine rn [(900, some (rdB b (mutY b (p + 2) c nm c0 cr).2))] (r1 rfl) (.eqd ?_) ⟨rfl, rfl⟩ (SubO.get ⟨.inr (by first | (rw [mutY_0 (by omega)]; all_goals rfl) | (rw [mutY_1 (by omega) (by omega)]; all_goals rfl) | (rw [mutY_2 (by omega) (by omega) (by omega)]; all_goals rfl) | (rw [mutY_3 (by omega) (by omega) (by omega) (by omega)]; all_goals rfl) | (rw [mutY_4 (by omega) (by omega) (by omega) (by omega) (by omega)]; all_goals rfl) | (rw [mutY_5 (by omega) (by omega) (by omega) (by omega) (by omega)]; all_goals rfl)), ⟨.inl rfl, trivial⟩⟩) (boxOK rfl)
      all_goals (first | (rw [mutY_0 (by omega)]; all_goals rfl) | (rw [mutY_1 (by omega) (by omega)]; all_goals rfl) | (rw [mutY_2 (by omega) (by omega) (by omega)]; all_goals rfl) | (rw [mutY_3 (by omega) (by omega) (by omega) (by omega)]; all_goals rfl) | (rw [mutY_4 (by omega) (by omega) (by omega) (by omega) (by omega)]; all_goals rfl) | (rw [mutY_5 (by omega) (by omega) (by omega) (by omega) (by omega)]; all_goals rfl))
     ·try simp only [Q] at h5p
      refine sq (fun h6 h6p h6s => ?_) fun h6 h6p h6s => ?_
      ·try simp only [Q] at h6p
       try rfl
       refine evc [17, 45, 57, 62, 65, 83] [] ?_
       refine Walk.idxM sl23 .none rfl rfl rfl rfl (by first | omega | (simp; done) | (simp; omega)) ?_
       refine evd [17, 45, 57, 62, 65, 83] [] ?_
       refine Walk.loadT ty49 .none rfl rfl rfl ((by rw [cell_off (own_len (k := 2) true (by intro x _; rfl)) rfl]; rfl)) ?_
       refine evd [17, 45, 57, 62, 65, 83] [] ?_
       refine Walk.sliceLit sl93 tz3 rfl (by decide) (ks := [0, 1, 2]) (xs := [_, _, _]) rfl rfl (by decide) (by decide) .none rfl rfl rfl rfl ?_
       refine Walk.call (cr := []) cal63 (spec_num_fn (p := p + 2) (l := [4, -1, 1]) hb (by omega) (by simp) (by simp)) rfl .none rfl rfl (LeL.refl _) ⟨rfl, trivial⟩ rfl (by first | rfl | (simp only [okCall, List.all_cons, List.all_nil, entOK, entOK', AV.idsL, AV.ids, idsL_append, ownCells_ids, List.map_cons, List.map_nil, ownCells_ids]; rfl)) (by first | rfl | (simp only [freshB, occH, occE, Res.ids, List.cons_append, List.nil_append, AV.idsL, AV.ids, idsL_append, ownCells_ids, zerosA_idsR, repNil, List.map_cons, List.map_nil, upC, ownCells_ids]; rfl)) ?_
       refine Walk.idxM (i := 0) sl49 .none rfl rfl rfl rfl (by first | omega | (simp; done) | (simp; omega)) ?_
       refine evd [17, 45, 57, 62, 65, 83] [] ?_
       refine Walk.storeT ty3 .none rfl rfl rfl rfl rfl rfl (by simp) ((putC_c2)) ?_
       refine dr ?_
       try rfl
       refine CWp.reTree 62 (ownCells true (((⟨c0.name, c0.args, numV b (p + 2) [4, -1, 1]⟩ : Ctor) :: cr).map Ctor.c)) rfl (by rw [List.map_cons, ownCells_cons]; rfl) ?_
       refine CWp.merge hk 61 (pre.length * 2 + 1) 62 3 _ rfl (cell_off (own_len (k := 2) true (by intro x _; rfl)) rfl) (by simp) rfl (by intro x hx; obtain ⟨y, _, rfl⟩ := List.mem_map.1 hx; rfl) rfl rfl (putC_off (own_len (k := 2) true (by intro x _; rfl)) putC_c1) ?_
       refine CWp.frzTree hk 5 61 _ 2 (es := (pre ++ (⟨nm, (⟨c0.name, c0.args, numV b (p + 2) [4, -1, 1]⟩ : Ctor) :: cr⟩ : Data) :: rest).map Data.c) rfl rfl (own_chunk (z := (⟨nm, (⟨c0.name, c0.args, numV b (p + 2) [4, -1, 1]⟩ : Ctor) :: cr⟩ : Data)) (mid := [.d (.str nm), .own false (.sl (((⟨c0.name, c0.args, numV b (p + 2) [4, -1, 1]⟩ : Ctor) :: cr).map Ctor.c))]) (fun _ => rfl) rfl (by simp)) rfl ?_
       refine evc [17, 45, 57, 62, 65, 83] [] ?_
       refine rn [(900, some (rdB b (mutY b (p + 2) c nm c0 cr).2))] (r1 rfl) (.eqd ?_) ⟨rfl, rfl⟩ (SubO.get ⟨.inr (by first | (rw [mutY_0 (by omega)]; all_goals rfl) | (rw [mutY_1 (by omega) (by omega)]; all_goals rfl) | (rw [mutY_2 (by omega) (by omega) (by omega)]; all_goals rfl) | (rw [mutY_3 (by omega) (by omega) (by omega) (by omega)]; all_goals rfl) | (rw [mutY_4 (by omega) (by omega) (by omega) (by omega) (by omega)]; all_goals rfl) | (rw [mutY_5 (by omega) (by omega) (by omega) (by omega) (by omega)]; all_goals rfl)), ⟨.inl rfl, trivial⟩⟩) (boxOK rfl)
       all_goals (first | (rw [mutY_0 (by omega)]; all_goals rfl) | (rw [mutY_1 (by omega) (by omega)]; all_goals rfl) | (rw [mutY_2 (by omega) (by omega) (by omega)]; all_goals rfl) | (rw [mutY_3 (by omega) (by omega) (by omega) (by omega)]; all_goals rfl) | (rw [mutY_4 (by omega) (by omega) (by omega) (by omega) (by omega)]; all_goals rfl) | (rw [mutY_5 (by omega) (by omega) (by omega) (by omega) (by omega)]; all_goals rfl))
      ·try simp only [Q] at h6p
       refine sq (fun h7 h7p h7s => ?_) fun h7 h7p h7s => ?_
       ·try simp only [Q] at h7p
        exfalso; omega --stop
       ·try simp only [Q] at h7p
        try rfl
        refine CWp.reTree 62 (ownCells true ((c0 :: cr).map Ctor.c)) rfl (by rw [List.map_cons, ownCells_cons]; rfl) ?_
        refine CWp.merge hk 61 (pre.length * 2 + 1) 62 3 _ rfl (cell_off (own_len (k := 2) true (by intro x _; rfl)) rfl) (by simp) rfl (by intro x hx; obtain ⟨y, _, rfl⟩ := List.mem_map.1 hx; rfl) rfl rfl (putC_off (own_len (k := 2) true (by intro x _; rfl)) putC_c1) ?_
        refine CWp.frzTree hk 5 61 _ 2 (es := (pre ++ (⟨nm, c0 :: cr⟩ : Data) :: rest).map Data.c) rfl rfl (own_chunk (z := (⟨nm, c0 :: cr⟩ : Data)) (mid := [.d (.str nm), .own false (.sl ((c0 :: cr).map Ctor.c))]) (fun _ => rfl) rfl (by simp)) rfl ?_
        refine evc [17, 45, 57, 62, 65, 83] [] ?_
        refine rn [(900, some (rdB b (mutY b (p + 2) c nm c0 cr).2))] (r1 rfl) (.eqd ?_) ⟨rfl, rfl⟩ (SubO.get ⟨.inr (by first | (rw [mutY_0 (by omega)]; all_goals rfl) | (rw [mutY_1 (by omega) (by omega)]; all_goals rfl) | (rw [mutY_2 (by omega) (by omega) (by omega)]; all_goals rfl) | (rw [mutY_3 (by omega) (by omega) (by omega) (by omega)]; all_goals rfl) | (rw [mutY_4 (by omega) (by omega) (by omega) (by omega) (by omega)]; all_goals rfl) | (rw [mutY_5 (by omega) (by omega) (by omega) (by omega) (by omega)]; all_goals rfl)), ⟨.inl rfl, trivial⟩⟩) (boxOK rfl)
        all_goals (first | (rw [mutY_0 (by omega)]; all_goals rfl) | (rw [mutY_1 (by omega) (by omega)]; all_goals rfl) | (rw [mutY_2 (by omega) (by omega) (by omega)]; all_goals rfl) | (rw [mutY_3 (by omega) (by omega) (by omega) (by omega)]; all_goals rfl) | (rw [mutY_4 (by omega) (by omega) (by omega) (by omega) (by omega)]; all_goals rfl) | (rw [mutY_5 (by omega) (by omega) (by omega) (by omega) (by omega)]; all_goals rfl))
def digit (n : Nat) : UInt8 := UInt8.ofNat (IntKind.u8.wrap (48 + (n : Int) % 10)).toNat
def digs (n : Nat) : Str := if n = 0 then [] else digs (n / 10) ++ [digit n]
def markStr (n : Nat) : Str := 109 :: digs n
def Ty.one (k : Int) (_ : Ty) : Ty := ⟨k, k + 1⟩
def Ty.sz (_ : Ty) : Int := 2
def Ctor.one (k : Int) (x : Ctor) : Ctor := ⟨markStr k.toNat, mkL Ty.one Ty.sz (k + 1) x.args, k + 1 + szL Ty.sz x.args⟩
def Ctor.sz (x : Ctor) : Int := 2 + szL Ty.sz x.args
def Data.one (k : Int) (x : Data) : Data := ⟨markStr k.toNat, mkL Ctor.one Ctor.sz (k + 1) x.ctors⟩
def Data.sz (x : Data) : Int := 1 + szL Ctor.sz x.ctors
theorem Ty.sz_nn (x : Ty) : 0 ≤ x.sz := by simp [Ty.sz]
theorem Ctor.sz_nn (x : Ctor) : 0 ≤ x.sz := by have := szL_nonneg (l := x.args) Ty.sz_nn; unfold Ctor.sz; omega
theorem Data.sz_nn (x : Data) : 0 ≤ x.sz := by have := szL_nonneg (l := x.ctors) Ctor.sz_nn; unfold Data.sz; omega
def ren (i j : Nat) : AV → AV
 | .ms a n => if a = i then .ms j n else .ms a n
 | x => x
def Pat.op : Pat → Int | .mk a0 _ _ _ _ _ => a0
def Pat.ctor : Pat → Int | .mk _ a1 _ _ _ _ => a1
def Pat.n : Pat → Int | .mk _ _ a2 _ _ _ => a2
def Pat.m : Pat → Int | .mk _ _ _ a3 _ _ => a3
def Pat.var : Pat → Int | .mk _ _ _ _ a4 _ => a4
def Pat.kids : Pat → List Pat | .mk _ _ _ _ _ k => k
abbrev Pat.cc (v : Pat) : List D := [.i v.op, .i v.ctor, .i v.n, .i v.m, .i v.var, .sl (Pat.cs v.kids)]
theorem Pat.c_eq (v : Pat) : v.c = v.cc := by cases v; rfl
theorem Pat.eta (v : Pat) : Pat.mk v.op v.ctor v.n v.m v.var v.kids = v := by cases v; rfl
mutual
def patEq : Pat → Pat → Bool
 | .mk a0 a1 a2 a3 a4 ks, .mk b0 b1 b2 b3 b4 ls => decide (a0 = b0) && (decide (a1 = b1) && (decide (a2 = b2) && (decide (a3 = b3) && (decide (a4 = b4) && patsEq ks ls))))
def patsEq : List Pat → List Pat → Bool
 | [], [] => true
 | x :: r, y :: s => patEq x y && patsEq r s
 | _, _ => false
end
mutual
def Pat.ok : Pat → Prop
 | .mk _ _ _ _ _ ks => ks.length ≤ 1000000000000 ∧ Pats.ok ks
def Pats.ok : List Pat → Prop
 | [] => True
 | v :: r => v.ok ∧ Pats.ok r
end
theorem Pats.ok_mem : ∀ {l : List Pat}, Pats.ok l → ∀ v, v ∈ l → v.ok
 | x :: r, h, v, hv => by
  simp only [Pats.ok] at h
  rcases List.mem_cons.1 hv with rfl | hv
  ·exact h.1
  ·exact Pats.ok_mem h.2 v hv
mutual
def Pat.size : Pat → Nat
 | .mk _ _ _ _ _ ks => 1 + Pats.size ks
def Pats.size : List Pat → Nat
 | [] => 0
 | v :: r => v.size + Pats.size r
end
theorem Pats.size_mem : ∀ {l : List Pat} {v : Pat}, v ∈ l → v.size ≤ Pats.size l
 | x :: r, v, hv => by
  simp only [Pats.size]
  rcases List.mem_cons.1 hv with rfl | hv
  ·omega
  ·have := Pats.size_mem hv; omega
theorem Pat.ok_iff (v : Pat) : v.ok ↔ v.kids.length ≤ 1000000000000 ∧ Pats.ok v.kids := by cases v; rfl
theorem Pat.size_eq (v : Pat) : v.size = 1 + Pats.size v.kids := by cases v; rfl
mutual
theorem patEq_refl : ∀ v : Pat, patEq v v = true
 | .mk _ _ _ _ _ ks => by simp [patEq, patsEq_refl ks]
theorem patsEq_refl : ∀ l : List Pat, patsEq l l = true
 | [] => rfl
 | v :: r => by simp [patsEq, patEq_refl v, patsEq_refl r]
end
theorem Pat.c_len (v : Pat) : v.c.length = 6 := by cases v; rfl
theorem Pat.cs_rows {l : List Pat} : ∀ x, x ∈ Pat.cs l → x.length = 6 := by
 intro x hx
 rw [Pat.cs_eq] at hx
 obtain ⟨y, _, rfl⟩ := List.mem_map.1 hx
 exact y.c_len
theorem Pat.cs_nil (l : List Pat) : Pat.cs l = [] ↔ l = [] := by rw [Pat.cs_eq]; simp
mutual
def mPat : Pat → Nat
 | .mk _ _ _ _ _ ks => mPats ks
def mPats : List Pat → Nat
 | [] => 0
 | v :: r => 1 + mPat v + mPats r
end
mutual
def Pat.szM : Pat → Int
 | .mk _ _ _ _ _ ks => 5 + Pats.szM ks
def Pats.szM : List Pat → Int
 | [] => 0
 | v :: r => v.szM + Pats.szM r
end
mutual
def Pat.one (k : Int) : Pat → Pat
 | .mk _ _ _ _ _ ks => .mk k (k + 1) (k + 1 + 1) (k + 1 + 1 + 1) (k + 1 + 1 + 1 + 1) (Pats.one (k + 1 + 1 + 1 + 1 + 1) ks)
def Pats.one (k : Int) : List Pat → List Pat
 | [] => []
 | v :: r => v.one k :: Pats.one (k + v.szM) r
end
theorem Pats.szM_eq : ∀ l : List Pat, Pats.szM l = szL Pat.szM l
 | [] => rfl
 | v :: r => by simp only [Pats.szM, szL, Pats.szM_eq r]
theorem Pats.one_eq : ∀ (l : List Pat) (k : Int), Pats.one k l = mkL Pat.one Pat.szM k l
 | [], _ => rfl
 | v :: r, k => by simp only [Pats.one, mkL, Pats.one_eq r]
theorem Pat.szM_kids (v : Pat) : v.szM = 5 + szL Pat.szM v.kids := by cases v; simp only [Pat.szM, Pat.kids, Pats.szM_eq]
theorem Pat.one_kids (v : Pat) (k : Int) : (v.one k).kids = mkL Pat.one Pat.szM (k + 1 + 1 + 1 + 1 + 1) v.kids := by cases v; simp only [Pat.one, Pat.kids, Pats.one_eq]
theorem Pat.one_sc (v : Pat) (k : Int) : (Pat.one k v).op = k ∧ (Pat.one k v).ctor = k + 1 ∧ (Pat.one k v).n = k + 1 + 1 ∧ (Pat.one k v).m = k + 1 + 1 + 1 ∧ (Pat.one k v).var = k + 1 + 1 + 1 + 1 := by cases v; exact ⟨rfl, rfl, rfl, rfl, rfl⟩
mutual
theorem Pat.szM_nn : ∀ v : Pat, 0 ≤ v.szM
 | .mk _ _ _ _ _ ks => by have := Pats.szM_nn ks; simp only [Pat.szM]; omega
theorem Pats.szM_nn : ∀ l : List Pat, 0 ≤ Pats.szM l
 | [] => by simp [Pats.szM]
 | v :: r => by have := Pat.szM_nn v; have := Pats.szM_nn r; simp only [Pats.szM]; omega
end
mutual
theorem Pat.szM_le : ∀ v : Pat, v.szM ≤ 5 + 5 * (mPat v : Int)
 | .mk _ _ _ _ _ ks => by have := Pats.szM_le ks; simp only [Pat.szM, mPat]; omega
theorem Pats.szM_le : ∀ l : List Pat, Pats.szM l ≤ 5 * (mPats l : Int)
 | [] => by simp [Pats.szM, mPats]
 | v :: r => by have := Pat.szM_le v; have := Pats.szM_le r; simp only [Pats.szM, mPats]; omega
end
structure Vt where
 var : Int
 ty : Ty
 deriving DecidableEq, Inhabited
abbrev Vt.c (t : Vt) : List D := [.i t.var, .i t.ty.data, .i t.ty.index]
def vctors (w : List Data) (t : Ty) : List Int := if t.data = -1 then [] else ctorsOf w t
def typesP (w : List Data) (t : Ty) (p : Pat) : List Ty := if p.op = 4 then argsOf w t p.ctor else if p.op = 5 then [t, t] else if p.op = 6 then [t] else []
def ownP (w : List Data) (t : Ty) (p : Pat) : Bool := decide (((p.op = 2 ∨ p.op = 6) → 0 ≤ p.var ∧ p.var ≤ 5) ∧ (¬ (p.op = 2 ∨ p.op = 6) → p.var = 0) ∧ (p.op ≠ 3 → p.n = 0 ∧ p.m = 0) ∧ (p.op ≠ 4 → p.ctor = 0) ∧
 (p.op = 1 ∨ p.op = 2 ∨ p.op = 5 ∨ p.op = 6 ∨ (p.op = 3 ∧ t.data = -1 ∧ 0 ≤ p.n ∧ p.n ≤ p.m ∧ p.m ≤ 9) ∨ (p.op = 4 ∧ p.ctor ∈ vctors w t)))
def okP (w : List Data) (t : Ty) (p : Pat) : Bool := ownP w t p && decide (p.kids.length = (typesP w t p).length)
def shapeP (w : List Data) : Nat → Ty → Pat → Bool
 | 0, _, _ => false
 | n + 1, t, p => ownP w t p && all2 (shapeP w n) (typesP w t p) p.kids
def nameP (t : Ty) (p : Pat) : List Vt := if p.op = 2 ∨ p.op = 6 then [⟨p.var, t⟩] else []
def sameV2 (a b : List Vt) : Bool := decide (a.length = b.length) && !a.any fun v => !decide (v ∈ b)
def nodupV (l : List Vt) : Bool := decide (l.map Vt.var).Nodup
def scanK (g : Ty → Pat → Int → Option (List Vt) × Int) (or : Bool) : List Ty → List Pat → Nat → List Vt → Int → Option (List Vt) × Int
 | a :: r, b :: s, i, acc, c => match (g a b c).1 with
  | none => (none, (g a b c).2)
  | some l => if or = true ∧ i = 1 then (if sameV2 acc l = true then scanK g or r s (i + 1) acc (g a b c).2 else (none, (g a b c).2)) else scanK g or r s (i + 1) (acc ++ l) (g a b c).2
 | _, _, _, acc, c => (some acc, c)
def finV (r : Option (List Vt) × Int) : Option (List Vt) × Int := match r.1 with
 | none => r
 | some l => if nodupV l = true then r else (none, r.2)
def scanP (w : List Data) : Nat → Ty → Pat → Int → Option (List Vt) × Int
 | 0, _, _, c => (none, c + 1)
 | n + 1, t, p, c => if 60 < c + 1 then (none, c + 1) else if okP w t p = true then finV (scanK (scanP w n) (decide (p.op = 5)) (typesP w t p) p.kids 0 (nameP t p) (c + 1)) else (none, c + 1)
mutual
def cntP (m : Int) : Pat → Int
 | .mk _ _ _ _ _ ks => cntPL m 1 ks
def cntPL (m n : Int) : List Pat → Int
 | [] => n
 | k :: r => if n ≤ m then cntPL m (n + cntP (m - n) k) r else n
end
theorem cntPL_stop {m n : Int} {l : List Pat} (h : ¬ n ≤ m) : cntPL m n l = n := by cases l <;> simp [cntPL, h]
mutual
theorem cntP_le : ∀ (v : Pat) (m : Int), 1 ≤ cntP m v ∧ cntP m v ≤ v.size
 | .mk _ _ _ _ _ ks, m => by
  have := cntPL_le ks m 1 (by omega)
  simp only [cntP, Pat.size]; push_cast; omega
theorem cntPL_le : ∀ (l : List Pat) (m n : Int), 1 ≤ n → 1 ≤ cntPL m n l ∧ cntPL m n l ≤ n + Pats.size l
 | [], m, n, h => by simp [cntPL, Pats.size]; omega
 | k :: r, m, n, h => by
  have h1 := cntP_le k (m - n)
  have h2 := cntPL_le r m (n + cntP (m - n) k) (by omega)
  simp only [cntPL, Pats.size]
  split
  ·push_cast; omega
  ·push_cast; omega
end
mutual
theorem cntP_iff : ∀ (v : Pat) (m : Int), (cntP m v ≤ m ↔ (v.size : Int) ≤ m) ∧ (cntP m v ≤ m → cntP m v = v.size)
 | .mk _ _ _ _ _ ks, m => by
  have := cntPL_iff ks m 1
  simp only [cntP, Pat.size]; push_cast; exact this
theorem cntPL_iff : ∀ (l : List Pat) (m n : Int), (cntPL m n l ≤ m ↔ n + (Pats.size l : Int) ≤ m) ∧ (cntPL m n l ≤ m → cntPL m n l = n + Pats.size l)
 | [], m, n => by simp [cntPL, Pats.size]
 | k :: r, m, n => by
  have h1 := cntP_iff k (m - n)
  have h2 := cntPL_iff r m (n + cntP (m - n) k)
  have h3 := cntPL_le r m (n + cntP (m - n) k)
  have h4 := cntP_le k (m - n)
  simp only [cntPL, Pats.size]
  push_cast
  by_cases hn : n ≤ m
  ·rw [if_pos hn]
   by_cases h5 : cntP (m - n) k ≤ m - n
   ·have h6 := h1.2 h5
    rw [h6] at h2 ⊢
    constructor
    ·rw [h2.1]; constructor <;> intro h <;> omega
    ·intro h; rw [h2.2 h]; omega
   ·have h7 : ¬ (k.size : Int) ≤ m - n := fun h => h5 (h1.1.2 h)
    have h8 : ¬ n + cntP (m - n) k ≤ m := by omega
    rw [cntPL_stop h8]
    constructor
    ·constructor <;> intro h <;> omega
    ·intro h; omega
  ·rw [if_neg hn]
   constructor
   ·constructor <;> intro h <;> omega
   ·intro h; omega
end
theorem Pats.size_split {pre rest l : List Pat} {y : Pat} (h : pre ++ y :: rest = l) : Pats.size l = Pats.size pre + y.size + Pats.size rest := by
 subst h
 induction pre with
 | nil => simp [Pats.size]
 | cons x r ih => simp only [List.cons_append, Pats.size, ih]; omega
end Go.Proofs.Ytflgpdjbgfkhoaa
namespace Go.Proofs.Ytflgpdjbgfkhoaa
open Go
set_option linter.unusedSimpArgs false
set_option linter.unusedVariables false
set_option maxRecDepth 100000
set_option maxHeartbeats 4000000
theorem vctors_in {w : List Data} {d : Nat} {k : Int} : vctors w ⟨d, k⟩ = ctorsOf w ⟨d, k⟩ := by unfold vctors; rw [if_neg (by simp only; omega)]
theorem vctors_int {w : List Data} {k : Int} : vctors w ⟨-1, k⟩ = [] := by unfold vctors; rw [if_pos rfl]
theorem vctors_len {w : List Data} (hw : WT w) {a k : Int} (ht : TyIn w.length ⟨a, k⟩) : (vctors w ⟨a, k⟩).length ≤ 1000000000000 := by
 rcases ht with ha | ⟨d, hd, hlt⟩
 ·simp only at ha; subst ha; rw [vctors_int]; exact Nat.zero_le _
 ·simp only at hd; subst hd; rw [vctors_in]; exact ctorsOf_len hw
theorem vctors_data {w : List Data} {a k c : Int} (ht : TyIn w.length ⟨a, k⟩) (h : c ∈ vctors w ⟨a, k⟩) : ∃ d : Nat, a = d ∧ d < w.length ∧ PlaceIn w d c := by
 rcases ht with ha | ⟨d, hd, hlt⟩
 ·simp only at ha; subst ha; rw [vctors_int] at h; simp at h
 ·simp only at hd; subst hd; rw [vctors_in] at h; exact ⟨d, rfl, hlt, place_of h⟩
theorem spec_l1Ctors_v {w : List Data} (hw : WT w) {a k : Int} (ht : TyIn w.length ⟨a, k⟩) : FnD Try.prog 76 [.d (encDatas w), .agg [.d (.i a), .d (.i k)]] [] (.d (encInts (vctors w ⟨a, k⟩))) [] := by
 rcases ht with ha | ⟨d, hd, hlt⟩
 ·simp only at ha; subst ha; rw [vctors_int]; exact spec_l1Ctors_int_fn
 ·simp only at hd; subst hd; rw [vctors_in]; exact spec_l1Ctors_in hw hlt
theorem spec_l1Args_v {w : List Data} (hw : WT w) {a k c : Int} (ht : TyIn w.length ⟨a, k⟩) (hc : c ∈ vctors w ⟨a, k⟩) : FnD Try.prog 77 [.d (encDatas w), .agg [.d (.i a), .d (.i k)], .d (.i c)] [] (.d (encTys (argsOf w ⟨a, k⟩ c))) [] := by
 obtain ⟨d, rfl, h1, h2⟩ := vctors_data ht hc
 exact spec_l1Args_in hw h1 h2
end Go.Proofs.Ytflgpdjbgfkhoaa
namespace Go.Proofs.Ytflgpdjbgfkhoaa
open Go
set_option linter.unusedSimpArgs false
set_option linter.unusedVariables false
def tyS (s : Nat) : Ty := ⟨((s / 4 : Nat) : Int), ((s % 4 : Nat) : Int)⟩
def slotT (t : Ty) : Nat := t.data.toNat * 4 + t.index.toNat
def dv (f : Nat → Nat) (t : Ty) : Nat := if t.data = -1 then 1 else f (slotT t)
def mostL (f : Nat → Nat) : Nat → List Ty → Nat
 | m, [] => m + 1
 | m, t :: r => if dv f t = 0 then 0 else mostL f (max m (dv f t)) r
def most (w : List Data) (f : Nat → Nat) (t : Ty) (c : Int) : Nat := mostL f 0 (argsOf w t c)
def updF (f : Nat → Nat) (s n : Nat) : Nat → Nat := fun i => if i = s then n else f i
def relax (w : List Data) (s : Nat) (f : Nat → Nat) (c : Int) : Nat → Nat :=
 if 0 < most w f (tyS s) c ∧ (f s = 0 ∨ most w f (tyS s) c < f s) then updF f s (most w f (tyS s) c) else f
def stepS (w : List Data) (f : Nat → Nat) (s : Nat) : Nat → Nat := (ctorsOf w (tyS s)).foldl (relax w s) f
def sweep (w : List Data) (f : Nat → Nat) : Nat → Nat := (List.range (w.length * 4)).foldl (stepS w) f
def iterT (w : List Data) : Nat → Nat → Nat
 | 0 => fun _ => 0
 | k + 1 => sweep w (iterT w k)
def depthT (w : List Data) : Nat → Nat := iterT w (w.length * 4 + 1)
def Hd (w : List Data) : Nat → Ty → Prop
 | 0, _ => False
 | d + 1, t => t.data = -1 ∨ ∃ c ∈ ctorsOf w t, t.data ≠ -1 ∧ ∀ u ∈ argsOf w t c, Hd w d u
def InS (n : Nat) (u : Ty) : Prop := u.data = -1 ∨ (slotT u < n ∧ tyS (slotT u) = u)
def ClosedT (w : List Data) : Prop := ∀ s, s < w.length * 4 → ∀ c ∈ ctorsOf w (tyS s), ∀ u ∈ argsOf w (tyS s) c, InS (w.length * 4) u
theorem tyS_data (s : Nat) : (tyS s).data ≠ -1 := by simp only [tyS]; omega
theorem Hd_mono (w : List Data) : ∀ (d : Nat) (t : Ty), Hd w d t → Hd w (d + 1) t
 | 0, _, h => h.elim
 | d + 1, t, h => by
  rcases h with h | ⟨c, hc, h1, h⟩
  ·exact .inl h
  ·exact .inr ⟨c, hc, h1, fun u hu => Hd_mono w d u (h u hu)⟩
theorem Hd_le {w : List Data} {d e : Nat} {t : Ty} (h : d ≤ e) (hd : Hd w d t) : Hd w e t := by
 induction h with
 | refl => exact hd
 | step _ ih => exact Hd_mono w _ t ih
section
variable {w : List Data}
def Bet (f g : Nat → Nat) : Prop := ∀ s, 0 < f s → 0 < g s ∧ g s ≤ f s
def Snd (w : List Data) (f : Nat → Nat) : Prop := ∀ s, s < w.length * 4 → 0 < f s → Hd w (f s) (tyS s)
def Cmp (w : List Data) (k : Nat) (f : Nat → Nat) : Prop := ∀ s, s < w.length * 4 → ∀ d, d ≤ k → Hd w d (tyS s) → 0 < f s ∧ f s ≤ d
theorem Bet.refl (f : Nat → Nat) : Bet f f := fun s h => ⟨h, Nat.le_refl _⟩
theorem Bet.trans {f g h : Nat → Nat} (a : Bet f g) (b : Bet g h) : Bet f h := fun s hs => ⟨(b s (a s hs).1).1, Nat.le_trans (b s (a s hs).1).2 (a s hs).2⟩
theorem Cmp.bet {k : Nat} {f g : Nat → Nat} (h : Cmp w k f) (b : Bet f g) : Cmp w k g := fun s hs d hd hh =>
 ⟨(b s (h s hs d hd hh).1).1, Nat.le_trans (b s (h s hs d hd hh).1).2 (h s hs d hd hh).2⟩
theorem mostL_pos {f : Nat → Nat} : ∀ {l : List Ty} {m k : Nat}, m ≤ k → (∀ u ∈ l, 0 < dv f u ∧ dv f u ≤ k) → 0 < mostL f m l ∧ mostL f m l ≤ k + 1
 | [], m, k, hm, _ => by simp only [mostL]; omega
 | t :: r, m, k, hm, h => by
  have h1 := h t (by simp)
  simp only [mostL]
  rw [if_neg (by omega)]
  exact mostL_pos (by omega) (fun u hu => h u (by simp [hu]))
theorem mostL_snd {f : Nat → Nat} : ∀ {l : List Ty} {m : Nat}, 0 < mostL f m l → m < mostL f m l ∧ ∀ u ∈ l, 0 < dv f u ∧ dv f u < mostL f m l
 | [], m, _ => ⟨by simp only [mostL]; omega, fun u hu => by simp at hu⟩
 | t :: r, m, h => by
  simp only [mostL] at h ⊢
  by_cases h0 : dv f t = 0
  ·rw [if_pos h0] at h; omega
  ·rw [if_neg h0] at h ⊢
   obtain ⟨h1, h2⟩ := mostL_snd h
   refine ⟨by omega, fun u hu => ?_⟩
   rcases List.mem_cons.1 hu with rfl | hu
   ·omega
   ·exact h2 u hu
theorem dv_hd {f : Nat → Nat} (hs : Snd w f) {u : Ty} (hu : InS (w.length * 4) u) (h : 0 < dv f u) : Hd w (dv f u) u := by
 unfold dv at h ⊢
 split
 ·rename_i he; exact .inl he
 ·rename_i he
  rw [if_neg he] at h
  rcases hu with hu | ⟨h1, h2⟩
  ·exact absurd hu he
  ·have := hs _ h1 h
   rwa [h2] at this
theorem dv_cmp {k : Nat} {f : Nat → Nat} (hc : Cmp w k f) {u : Ty} (hu : InS (w.length * 4) u) (h : Hd w k u) : 0 < dv f u ∧ dv f u ≤ k := by
 unfold dv
 split
 ·cases k with
  | zero => exact h.elim
  | succ k => omega
 ·rename_i he
  rcases hu with hu | ⟨h1, h2⟩
  ·exact absurd hu he
  ·exact hc _ h1 k (Nat.le_refl _) (by rw [h2]; exact h)
theorem relax_bet {s : Nat} {f : Nat → Nat} {c : Int} : Bet f (relax w s f c) := by
 intro i hi
 unfold relax
 split
 ·rename_i h
  unfold updF
  split
  ·subst i; omega
  ·omega
 ·omega
theorem relax_snd (hcl : ClosedT w) {s : Nat} {f : Nat → Nat} {c : Int} (hs : s < w.length * 4) (hc : c ∈ ctorsOf w (tyS s)) (h : Snd w f) : Snd w (relax w s f c) := by
 unfold relax
 split
 ·rename_i hn
  intro i hi h0
  unfold updF at h0 ⊢
  by_cases he : i = s
  ·subst he
   rw [if_pos rfl] at h0 ⊢
   obtain ⟨h1, h2⟩ := mostL_snd (m := 0) hn.1
   obtain ⟨n, hn'⟩ : ∃ n, most w f (tyS i) c = n + 1 := ⟨most w f (tyS i) c - 1, by omega⟩
   rw [hn']
   refine .inr ⟨c, hc, tyS_data _, fun u hu => ?_⟩
   have h3 := h2 u hu
   have h4 : mostL f 0 (argsOf w (tyS i) c) = n + 1 := hn'
   exact Hd_le (by omega) (dv_hd h (hcl i hi c hc u hu) h3.1)
  ·rw [if_neg he] at h0 ⊢
   exact h i hi h0
 ·exact h
theorem relax_cmp (hcl : ClosedT w) {s k : Nat} {f : Nat → Nat} {c : Int} (hs : s < w.length * 4) (hc : c ∈ ctorsOf w (tyS s)) (h : Cmp w k f) (hh : ∀ u ∈ argsOf w (tyS s) c, Hd w k u) :
  0 < relax w s f c s ∧ relax w s f c s ≤ k + 1 := by
 have hm := mostL_pos (f := f) (m := 0) (k := k) (by omega) (fun u hu => dv_cmp h (hcl s hs c hc u hu) (hh u hu))
 have hm' : 0 < most w f (tyS s) c ∧ most w f (tyS s) c ≤ k + 1 := hm
 unfold relax
 split
 ·unfold updF; rw [if_pos rfl]; exact hm'
 ·rename_i hn
  have : ¬ (f s = 0 ∨ most w f (tyS s) c < f s) := fun h2 => hn ⟨hm'.1, h2⟩
  omega
theorem row_all (hcl : ClosedT w) {s k : Nat} (hs : s < w.length * 4) : ∀ (C : List Int) (f : Nat → Nat), (∀ c ∈ C, c ∈ ctorsOf w (tyS s)) → Snd w f → Cmp w k f →
  Bet f (C.foldl (relax w s) f) ∧ Snd w (C.foldl (relax w s) f) ∧ ∀ c ∈ C, (∀ u ∈ argsOf w (tyS s) c, Hd w k u) → 0 < C.foldl (relax w s) f s ∧ C.foldl (relax w s) f s ≤ k + 1
 | [], f, _, h1, _ => ⟨Bet.refl f, h1, fun c hc => by simp at hc⟩
 | c :: r, f, hC, h1, h2 => by
  have hc := hC c (by simp)
  obtain ⟨g1, g2, g3⟩ := row_all hcl hs r (relax w s f c) (fun x hx => hC x (by simp [hx])) (relax_snd hcl hs hc h1) (h2.bet relax_bet)
  refine ⟨relax_bet.trans g1, g2, fun x hx hh => ?_⟩
  rcases List.mem_cons.1 hx with rfl | hx
  ·obtain ⟨q1, q2⟩ := relax_cmp hcl hs hc h2 hh
   exact ⟨(g1 s q1).1, Nat.le_trans (g1 s q1).2 q2⟩
  ·exact g3 x hx hh
theorem step_all (hcl : ClosedT w) {s k : Nat} (hs : s < w.length * 4) {f : Nat → Nat} (h1 : Snd w f) (h2 : Cmp w k f) :
  Bet f (stepS w f s) ∧ Snd w (stepS w f s) ∧ ∀ d, d ≤ k + 1 → Hd w d (tyS s) → 0 < stepS w f s s ∧ stepS w f s s ≤ d := by
 obtain ⟨g1, g2, g3⟩ := row_all hcl hs (ctorsOf w (tyS s)) f (fun c hc => hc) h1 h2
 refine ⟨g1, g2, fun d hd hh => ?_⟩
 rcases Nat.lt_or_ge d (k + 1) with h | h
 ·have := h2 s hs d (by omega) hh
  exact ⟨(g1 s this.1).1, Nat.le_trans (g1 s this.1).2 this.2⟩
 ·obtain rfl : d = k + 1 := by omega
  rcases hh with hh | ⟨c, hc, _, hh⟩
  ·exact absurd hh (tyS_data s)
  ·exact g3 c hc hh
theorem steps_all (hcl : ClosedT w) {k : Nat} : ∀ (L : List Nat) (f : Nat → Nat), (∀ s ∈ L, s < w.length * 4) → Snd w f → Cmp w k f →
  Bet f (L.foldl (stepS w) f) ∧ Snd w (L.foldl (stepS w) f) ∧ ∀ s ∈ L, ∀ d, d ≤ k + 1 → Hd w d (tyS s) → 0 < L.foldl (stepS w) f s ∧ L.foldl (stepS w) f s ≤ d
 | [], f, _, h1, _ => ⟨Bet.refl f, h1, fun s hs => by simp at hs⟩
 | s :: r, f, hL, h1, h2 => by
  obtain ⟨p1, p2, p3⟩ := step_all hcl (hL s (by simp)) h1 h2
  obtain ⟨g1, g2, g3⟩ := steps_all hcl r (stepS w f s) (fun x hx => hL x (by simp [hx])) p2 (h2.bet p1)
  refine ⟨p1.trans g1, g2, fun x hx d hd hh => ?_⟩
  rcases List.mem_cons.1 hx with rfl | hx
  ·have := p3 d hd hh
   exact ⟨(g1 x this.1).1, Nat.le_trans (g1 x this.1).2 this.2⟩
  ·exact g3 x hx d hd hh
theorem sweep_all (hcl : ClosedT w) {k : Nat} {f : Nat → Nat} (h1 : Snd w f) (h2 : Cmp w k f) : Bet f (sweep w f) ∧ Snd w (sweep w f) ∧ Cmp w (k + 1) (sweep w f) := by
 obtain ⟨g1, g2, g3⟩ := steps_all hcl (List.range (w.length * 4)) f (fun s hs => List.mem_range.1 hs) h1 h2
 exact ⟨g1, g2, fun s hs d hd hh => g3 s (List.mem_range.2 hs) d hd hh⟩
theorem iter_all (hcl : ClosedT w) : ∀ k, Snd w (iterT w k) ∧ Cmp w k (iterT w k)
 | 0 => ⟨fun s _ h => absurd h (by simp [iterT]), fun s _ d hd hh => by
   obtain rfl : d = 0 := by omega
   exact hh.elim⟩
 | k + 1 => (sweep_all hcl (iter_all hcl k).1 (iter_all hcl k).2).2
theorem hd_stable (hcl : ClosedT w) {d : Nat} (h1 : 1 ≤ d) (h : ∀ s, s < w.length * 4 → Hd w (d + 1) (tyS s) → Hd w d (tyS s)) : ∀ e s, s < w.length * 4 → Hd w e (tyS s) → Hd w d (tyS s)
 | 0, s, _, hh => hh.elim
 | e + 1, s, hs, hh => by
  refine h s hs ?_
  rcases hh with hh | ⟨c, hc, h2, hh⟩
  ·exact .inl hh
  ·refine .inr ⟨c, hc, h2, fun u hu => ?_⟩
   rcases hcl s hs c hc u hu with hi | ⟨q1, q2⟩
   ·cases d with
    | zero => omega
    | succ d => exact .inl hi
   ·have := hd_stable hcl h1 h e _ q1 (by rw [q2]; exact hh u hu)
    rwa [q2] at this
open Classical in
noncomputable def cntH (w : List Data) (d : Nat) : Nat := (List.range (w.length * 4)).countP (fun s => decide (Hd w d (tyS s)))
theorem countP_lt {p q : Nat → Bool} : ∀ {l : List Nat}, (∀ x ∈ l, p x = true → q x = true) → (∃ x ∈ l, p x = false ∧ q x = true) → l.countP p < l.countP q
 | [], _, h => by obtain ⟨x, hx, _⟩ := h; simp at hx
 | y :: r, hpq, h => by
  have hle : r.countP p ≤ r.countP q := List.countP_mono_left (fun x hx hp => hpq x (by simp [hx]) hp)
  rw [List.countP_cons, List.countP_cons]
  obtain ⟨x, hx, h1, h2⟩ := h
  rcases List.mem_cons.1 hx with rfl | hx
  ·rw [h1, h2]; simp only [Bool.false_eq_true, if_false, if_true]; omega
  ·have := countP_lt (fun x hx hp => hpq x (by simp [hx]) hp) ⟨x, hx, h1, h2⟩
   have h3 := hpq y (by simp)
   cases hp : p y with
   | false => simp only [Bool.false_eq_true, if_false]; omega
   | true => rw [h3 hp]; simp only [if_true]; omega
open Classical in
theorem cnt_lt {d : Nat} (h : ¬ ∀ s, s < w.length * 4 → Hd w (d + 1) (tyS s) → Hd w d (tyS s)) : cntH w d < cntH w (d + 1) := by
 have h2 : ∃ s, s < w.length * 4 ∧ Hd w (d + 1) (tyS s) ∧ ¬ Hd w d (tyS s) := by
  refine Classical.byContradiction fun hn => h fun s hs hh => Classical.byContradiction fun hd => hn ⟨s, hs, hh, hd⟩
 obtain ⟨s, hs, h3, h4⟩ := h2
 unfold cntH
 exact countP_lt (fun x _ hx => by rw [decide_eq_true_eq] at hx ⊢; exact Hd_mono w d _ hx) ⟨s, List.mem_range.2 hs, by simp [h4], by simp [h3]⟩
theorem cnt_ge : ∀ m, (∀ d, 1 ≤ d → d ≤ m → ¬ ∀ s, s < w.length * 4 → Hd w (d + 1) (tyS s) → Hd w d (tyS s)) → m ≤ cntH w (m + 1)
 | 0, _ => Nat.zero_le _
 | m + 1, h => by
  have := cnt_ge m (fun d h1 h2 => h d h1 (by omega))
  have := cnt_lt (w := w) (d := m + 1) (h (m + 1) (by omega) (by omega))
  omega
theorem hd_fix (hcl : ClosedT w) {e s : Nat} (hs : s < w.length * 4) (h : Hd w e (tyS s)) : Hd w (w.length * 4 + 1) (tyS s) := by
 have hex : ∃ d, 1 ≤ d ∧ d ≤ w.length * 4 + 1 ∧ ∀ s, s < w.length * 4 → Hd w (d + 1) (tyS s) → Hd w d (tyS s) := by
  refine Classical.byContradiction fun hn => ?_
  have h1 := cnt_ge (w := w) (w.length * 4 + 1) (fun d h1 h2 h3 => hn ⟨d, h1, h2, h3⟩)
  have h2 : cntH w (w.length * 4 + 1 + 1) ≤ (List.range (w.length * 4)).length := List.countP_le_length
  rw [List.length_range] at h2
  omega
 obtain ⟨d, h1, h2, h3⟩ := hex
 exact Hd_le h2 (hd_stable hcl h1 h3 e s hs h)
theorem relax_out {s i : Nat} {f : Nat → Nat} {c : Int} (h : i ≠ s) : relax w s f c i = f i := by
 unfold relax; split
 ·unfold updF; rw [if_neg h]
 ·rfl
theorem row_out {s i : Nat} (h : i ≠ s) : ∀ (C : List Int) (f : Nat → Nat), C.foldl (relax w s) f i = f i
 | [], _ => rfl
 | c :: r, f => by rw [List.foldl_cons, row_out h r, relax_out h]
theorem steps_out {i : Nat} : ∀ (L : List Nat) (f : Nat → Nat), i ∉ L → L.foldl (stepS w) f i = f i
 | [], _, _ => rfl
 | s :: r, f, h => by
  simp only [List.mem_cons, not_or] at h
  rw [List.foldl_cons, steps_out r _ h.2]
  exact row_out h.1 _ _
theorem iter_out {i : Nat} (h : w.length * 4 ≤ i) : ∀ k, iterT w k i = 0
 | 0 => rfl
 | k + 1 => by
  show sweep w (iterT w k) i = 0
  unfold sweep
  rw [steps_out _ _ (by simp; omega), iter_out h k]
theorem iter_eq (hcl : ClosedT w) {k : Nat} (hk : w.length * 4 + 1 ≤ k) : iterT w k = depthT w := by
 have key : ∀ a b, w.length * 4 + 1 ≤ a → w.length * 4 + 1 ≤ b → ∀ s, s < w.length * 4 → 0 < iterT w a s → 0 < iterT w b s ∧ iterT w b s ≤ iterT w a s := by
  intro a b ha hb s hs h0
  have h1 := (iter_all hcl a).1 s hs h0
  have h2 := hd_fix hcl hs h1
  have h3 := (iter_all hcl a).2 s hs _ ha h2
  exact (iter_all hcl b).2 s hs _ (by omega) h1
 funext s
 rcases Nat.lt_or_ge s (w.length * 4) with hs | hs
 ·have h1 := key k (w.length * 4 + 1) hk (Nat.le_refl _) s hs
  have h2 := key (w.length * 4 + 1) k (Nat.le_refl _) hk s hs
  show iterT w k s = iterT w (w.length * 4 + 1) s
  omega
 ·show iterT w k s = iterT w (w.length * 4 + 1) s
  rw [iter_out hs, iter_out hs]
def Strict (f g : Nat → Nat) : Prop := ∃ s, 0 < g s ∧ (f s = 0 ∨ g s < f s)
theorem Strict.bet {f g h : Nat → Nat} (a : Strict f g) (b : Bet g h) : Strict f h := by
 obtain ⟨s, h1, h2⟩ := a
 have := b s h1
 exact ⟨s, this.1, by omega⟩
theorem mostL_bd {f : Nat → Nat} {b : Nat} (hb : ∀ s, f s ≤ b) (h1 : 1 ≤ b) : ∀ {l : List Ty} {m : Nat}, m ≤ b → mostL f m l ≤ b + 1
 | [], m, hm => by simp only [mostL]; omega
 | t :: r, m, hm => by
  simp only [mostL]
  split
  ·omega
  ·refine mostL_bd hb h1 ?_
   have : dv f t ≤ b := by
    unfold dv; split
    ·exact h1
    ·exact hb _
   omega
theorem relax_bd {s : Nat} {f : Nat → Nat} {c : Int} {b : Nat} (hb : ∀ s, f s ≤ b) (h1 : 1 ≤ b) : ∀ i, relax w s f c i ≤ b + 1 := by
 intro i
 unfold relax
 split
 ·unfold updF
  split
  ·exact mostL_bd hb h1 (Nat.zero_le _)
  ·have := hb i; omega
 ·have := hb i; omega
theorem row_bd {s : Nat} : ∀ (C : List Int) (f : Nat → Nat) (b : Nat), (∀ s, f s ≤ b) → 1 ≤ b → ∀ i, C.foldl (relax w s) f i ≤ b + C.length
 | [], f, b, hb, _, i => by have := hb i; simpa using this
 | c :: r, f, b, hb, h1, i => by
  have := row_bd (s := s) r (relax w s f c) (b + 1) (relax_bd hb h1) (by omega) i
  rw [List.foldl_cons, List.length_cons]; omega
theorem steps_bd {m : Nat} : ∀ (L : List Nat) (f : Nat → Nat) (b : Nat), (∀ s ∈ L, (ctorsOf w (tyS s)).length ≤ m) → (∀ s, f s ≤ b) → 1 ≤ b → ∀ i, L.foldl (stepS w) f i ≤ b + L.length * m
 | [], f, b, _, hb, _, i => by have := hb i; simpa using this
 | s :: r, f, b, hm, hb, h1, i => by
  have h2 := row_bd (w := w) (s := s) (ctorsOf w (tyS s)) f b hb h1
  have h3 := hm s (by simp)
  have := steps_bd r (stepS w f s) (b + m) (fun x hx => hm x (by simp [hx])) (fun j => by have := h2 j; show _ ≤ _; unfold stepS; omega) (by omega) i
  rw [List.foldl_cons, List.length_cons, Nat.add_mul]
  omega
theorem iter_bd {m : Nat} (hm : ∀ s, s < w.length * 4 → (ctorsOf w (tyS s)).length ≤ m) : ∀ k i, iterT w k i ≤ 1 + k * (w.length * 4 * m)
 | 0, i => by simp [iterT]
 | k + 1, i => by
  have := steps_bd (w := w) (m := m) (List.range (w.length * 4)) (iterT w k) (1 + k * (w.length * 4 * m)) (fun s hs => hm s (List.mem_range.1 hs)) (iter_bd hm k) (by omega) i
  show sweep w (iterT w k) i ≤ _
  unfold sweep
  rw [List.length_range] at this
  rw [Nat.add_mul]
  omega
end
end Go.Proofs.Ytflgpdjbgfkhoaa
namespace Go.Proofs.Ytflgpdjbgfkhoaa
open Go
set_option linter.unusedSimpArgs false
set_option linter.unusedVariables false
set_option maxRecDepth 100000
set_option maxHeartbeats 2000000
def tabC (n : Nat) (f : Nat → Nat) : List AV := (List.range n).map fun s => .d (.i (f s : Int))
abbrev encTab (n : Nat) (f : Nat → Nat) : D := .sl ((List.range n).map fun s => [D.i (f s : Int)])
theorem tab_get {n i s : Nat} {f : Nat → Nat} (h : s < n) (e : i = s) : (tabC n f)[i]? = some (.d (.i (f s : Int))) := by
 subst e; simp [tabC, h]
theorem tab_ids {n : Nat} {f : Nat → Nat} : AV.idsL (tabC n f) = [] := by
 unfold tabC
 induction List.range n with
 | nil => rfl
 | cons x r ih => rw [List.map_cons, AV.idsL, ih]; rfl
theorem chunk_tab {n : Nat} {f : Nat → Nat} : chunkD n 1 (tabC n f) = some ((List.range n).map fun s => [D.i (f s : Int)]) := by
 have := chunkD_flat (f := fun s => [D.i (f s : Int)]) (k := 1) (l := List.range n) (fun _ _ => rfl)
 rw [List.length_range] at this
 rw [← this]
 congr 1
 unfold tabC
 induction List.range n with
 | nil => rfl
 | cons x r ih => rw [List.map_cons, List.flatMap_cons, ih]; rfl
theorem putC_at {v : AV} : ∀ {cs : List AV} {i : Nat}, i < cs.length → putC cs i [v] = some (cs.set i v)
 | x :: r, 0, _ => by cases r <;> rfl
 | x :: r, i + 1, h => by
  have := putC_at (v := v) (cs := r) (i := i) (by simpa using h)
  simp only [putC, this, List.set_cons_succ]
theorem tab_put {n i s v : Nat} {f : Nat → Nat} {x : Int} (h : s < n) (e : i = s) (ex : x = (v : Int)) : putC (tabC n f) i [.d (.i x)] = some (tabC n (updF f s v)) := by
 subst e ex
 rw [putC_at (by simp [tabC, h])]
 congr 1
 refine List.ext_getElem (by simp [tabC]) (fun j h1 h2 => ?_)
 simp only [tabC, List.length_map, List.length_range] at h2
 rw [List.getElem_set]
 simp only [tabC, List.getElem_map, List.getElem_range, updF]
 by_cases hj : i = j
 ·subst hj; simp
 ·rw [if_neg hj, if_neg (fun h => hj h.symm)]
theorem InS.facts {n : Nat} {a k : Int} (h : InS n ⟨a, k⟩) (ha : ¬ a = -1) : slotT ⟨a, k⟩ < n ∧ a * 4 + k = (slotT ⟨a, k⟩ : Int) ∧ 0 ≤ a ∧ 0 ≤ k ∧ k ≤ 3 ∧ a ≤ n := by
 rcases h with h | ⟨h1, h2⟩
 ·exact absurd h ha
 ·have e1 := congrArg Ty.data h2
  have e2 := congrArg Ty.index h2
  simp only [tyS] at e1 e2
  omega
theorem dv_in {f : Nat → Nat} {a k : Int} (ha : ¬ a = -1) : dv f ⟨a, k⟩ = f (slotT ⟨a, k⟩) := by unfold dv; rw [if_neg ha]
theorem dv_int {f : Nat → Nat} {a k : Int} (ha : a = -1) : dv f ⟨a, k⟩ = 1 := by unfold dv; rw [if_pos ha]
theorem dv_bd {f : Nat → Nat} {b : Nat} (hb : ∀ s, f s ≤ b) (h1 : 1 ≤ b) (t : Ty) : dv f t ≤ b := by
 unfold dv; split
 ·exact h1
 ·exact hb _
theorem spec_l1Slot_fn {a k : Int} (ha : 0 ≤ a ∧ a ≤ 1000) (hk : 0 ≤ k ∧ k ≤ 1000) : FnD Try.prog 89 [.agg [.d (.i a), .d (.i k)]] [] (.d (.i (a * 4 + k))) [] := by
 refine bd Try.f89 9 [] [] fun w0 F0 own kept hk => ?_
 refine Walk.box (id := 3001) .none rfl rfl rfl rfl rfl rfl rfl ?_
 refine ev ?_
 refine ar ?_
 refine ar ?_
 refine rn0 (r1 rfl) (.eqd ?_)
 all_goals (first | rfl | (simp []; done) | (simp_all; done) | (simp_all; omega) | omega)
theorem spec_l1Depth_ms {n : Nat} {f : Nat → Nat} {a k : Int} (h : InS n ⟨a, k⟩) (hn : n ≤ 100) :
  FnD Try.prog 70 [.ms 70 n, .agg [.d (.i a), .d (.i k)]] [(70, some (.box (tabC n f)))] (.d (.i (dv f ⟨a, k⟩))) [] := by
 have hs := h.facts
 refine bd Try.f70 13 [12] [] fun w0 F0 own kept hk => ?_
 refine Walk.box (id := 3003) .none rfl rfl rfl (by first | rfl | (simp only [freshB, occH, occE, Res.ids, List.cons_append, List.nil_append, AV.idsL, AV.ids, idsL_append, ownCells_ids, zerosA_idsR, repNil, List.map_cons, List.map_nil, upC, tab_ids]; rfl)) (by first | rfl | (simp only [freshB, occH, occE, Res.ids, List.cons_append, List.nil_append, AV.idsL, AV.ids, idsL_append, ownCells_ids, zerosA_idsR, repNil, List.map_cons, List.map_nil, upC, tab_ids]; rfl)) (by first | rfl | (simp only [freshB, occH, occE, Res.ids, List.cons_append, List.nil_append, AV.idsL, AV.ids, idsL_append, ownCells_ids, zerosA_idsR, repNil, List.map_cons, List.map_nil, upC, tab_ids]; rfl)) (by first | rfl | (simp only [freshB, occH, occE, Res.ids, List.cons_append, List.nil_append, AV.idsL, AV.ids, idsL_append, ownCells_ids, zerosA_idsR, repNil, List.map_cons, List.map_nil, upC, tab_ids]; rfl)) ?_
 refine evs [12] [] ?_
 refine sq (fun h1 h1p h1s => ?_) fun h1 h1p h1s => ?_
 ·try simp only [Q] at h1p
  refine rn [] (r1 rfl) (.eqd ?_) ⟨rfl, rfl⟩ (SubH.get ⟨rfl, trivial⟩) (fun _ h => h)
  all_goals (first | (rw [dv_int (by assumption)]; rfl) | (rw [dv_in (by assumption)]))
 ·try simp only [Q] at h1p
  refine Walk.call (cr := []) cal89 (spec_l1Slot_fn (by have := hs h1p; omega) (by have := hs h1p; omega)) rfl .none rfl rfl (LeL.refl _) trivial rfl (by first | rfl | (simp only [okCall, List.all_cons, List.all_nil, entOK, entOK', AV.idsL, AV.ids, idsL_append, ownCells_ids, List.map_cons, List.map_nil, tab_ids]; rfl)) (by first | rfl | (simp only [freshB, occH, occE, Res.ids, List.cons_append, List.nil_append, AV.idsL, AV.ids, idsL_append, ownCells_ids, zerosA_idsR, repNil, List.map_cons, List.map_nil, upC, tab_ids]; rfl)) ?_
  refine Walk.idxM (i := slotT ⟨a, k⟩) sl93 .none rfl rfl rfl (hs h1p).2.1 ((hs h1p).1) ?_
  refine Walk.loadB ty3 .none rfl rfl rfl ((tab_get (hs h1p).1 (by omega))) ?_
  refine evs [12] [] ?_
  refine rn [] (r1 rfl) (.eqd ?_) ⟨rfl, rfl⟩ (SubH.get ⟨rfl, trivial⟩) (fun _ h => h)
  all_goals (first | (rw [dv_int (by assumption)]; rfl) | (rw [dv_in (by assumption)]))
theorem spec_l1Depth_fn {n : Nat} {f : Nat → Nat} {a k : Int} (h : InS n ⟨a, k⟩) (hn : n ≤ 100) :
  FnD Try.prog 70 [.d (encTab n f), .agg [.d (.i a), .d (.i k)]] [] (.d (.i (dv f ⟨a, k⟩))) [] := by
 have hs := h.facts
 refine bd Try.f70 13 [] [] fun w0 F0 own kept hk => ?_
 refine Walk.box (id := 3003) .none rfl rfl rfl rfl rfl rfl rfl ?_
 refine ev ?_
 refine sq (fun h1 h1p h1s => ?_) fun h1 h1p h1s => ?_
 ·try simp only [Q] at h1p
  refine rn0 (r1 rfl) (.eqd ?_)
  all_goals (first | (rw [dv_int (by assumption)]; rfl) | (rw [dv_in (by assumption)]))
 ·try simp only [Q] at h1p
  refine Walk.call (cr := []) cal89 (spec_l1Slot_fn (by have := hs h1p; omega) (by have := hs h1p; omega)) rfl .none rfl rfl (LeL.refl _) trivial rfl rfl rfl ?_
  refine Walk.idx (i := slotT ⟨a, k⟩) sl93 .none rfl rfl rfl (hs h1p).2.1 (by simp [(hs h1p).1]; rfl) rfl ?_
  refine ev ?_
  refine rn0 (r1 rfl) (.eqd ?_)
  all_goals (first | (rw [dv_int (by assumption)]; rfl) | (rw [dv_in (by assumption)]))
theorem argsOf_small {w : List Data} (hw : WT w) {a k c : Int} (ht : TyIn w.length ⟨a, k⟩) (hc : c ∈ vctors w ⟨a, k⟩) : (argsOf w ⟨a, k⟩ c).length ≤ 1000000000000 := by
 obtain ⟨d, rfl, h1, h2⟩ := vctors_data ht hc
 exact argsOf_len hw h1 h2
theorem spec_l1Most_ms {w : List Data} (hw : WT w) {n : Nat} {f : Nat → Nat} {a k c : Int} (ht : TyIn w.length ⟨a, k⟩) (hc : c ∈ vctors w ⟨a, k⟩) (hn : n ≤ 100) (hb : ∀ s, f s ≤ 100000) (hin : ∀ u ∈ argsOf w ⟨a, k⟩ c, InS n u) :
  FnD Try.prog 88 [.d (encDatas w), .ms 70 n, .agg [.d (.i a), .d (.i k)], .d (.i c)] [(70, some (.box (tabC n f)))] (.d (.i (most w f ⟨a, k⟩ c))) [] := by
 have hl := argsOf_small hw ht hc
 have hd := dv_bd hb (by omega)
 refine bd Try.f88 37 [] [] fun w0 F0 own kept hk => ?_
 refine Walk.box (id := 3006) .none rfl rfl rfl (by first | rfl | (simp only [freshB, occH, occE, Res.ids, List.cons_append, List.nil_append, AV.idsL, AV.ids, idsL_append, ownCells_ids, zerosA_idsR, repNil, List.map_cons, List.map_nil, upC, tab_ids]; rfl)) (by first | rfl | (simp only [freshB, occH, occE, Res.ids, List.cons_append, List.nil_append, AV.idsL, AV.ids, idsL_append, ownCells_ids, zerosA_idsR, repNil, List.map_cons, List.map_nil, upC, tab_ids]; rfl)) (by first | rfl | (simp only [freshB, occH, occE, Res.ids, List.cons_append, List.nil_append, AV.idsL, AV.ids, idsL_append, ownCells_ids, zerosA_idsR, repNil, List.map_cons, List.map_nil, upC, tab_ids]; rfl)) (by first | rfl | (simp only [freshB, occH, occE, Res.ids, List.cons_append, List.nil_append, AV.idsL, AV.ids, idsL_append, ownCells_ids, zerosA_idsR, repNil, List.map_cons, List.map_nil, upC, tab_ids]; rfl)) ?_
 refine ev ?_
 refine Walk.call (cr := []) cal77 (spec_l1Args_v hw ht hc) rfl .none rfl rfl (LeL.refl _) trivial rfl (by first | rfl | (simp only [okCall, List.all_cons, List.all_nil, entOK, entOK', AV.idsL, AV.ids, idsL_append, ownCells_ids, List.map_cons, List.map_nil, tab_ids]; rfl)) (by first | rfl | (simp only [freshB, occH, occE, Res.ids, List.cons_append, List.nil_append, AV.idsL, AV.ids, idsL_append, ownCells_ids, zerosA_idsR, repNil, List.map_cons, List.map_nil, upC, tab_ids]; rfl)) ?_
 refine ev ?_
 refine CWp.loopX (ι := List (Ty) × List (Ty) × (Nat)) hk (fun x => [(11, .d (.i (x.1.length : Int))), (10, .d (.i (x.2.2 : Int)))]) [8, 12, 17, 18, 19, 20, 21, 22, 23, 24, 25, 26, 27, 28, 29, 30, 31, 32, 33, 34] (fun x => []) (fun x => x.1 ++ x.2.1 = argsOf w ⟨a, k⟩ c ∧ x.2.2 ≤ 100000 ∧ mostL f x.2.2 x.2.1 = mostL f 0 (argsOf w ⟨a, k⟩ c)) (fun x => x.2.1.length) ([], argsOf w ⟨a, k⟩ c, 0) ⟨by simp, by simp, rfl⟩ ⟨⟨_, rfl, (LeA.eqi (by first | rfl | (simp; done) | omega | (dsimp only; omega)))⟩, ⟨⟨_, rfl, (LeA.eqi (by first | rfl | (simp; done) | omega | (dsimp only; omega)))⟩, trivial⟩⟩ trivial (fun x => rfl) (fun x hg1 => ?_)
 obtain ⟨pre, rest, m⟩ := x
 dsimp only at hg1 ⊢
 refine evc [] [] ?_
 refine sq (fun h1 h1p h1s => ?_) fun h1 h1p h1s => ?_
 ·try simp only [Q] at h1p
  rcases rest with _ | ⟨y, rest⟩
  ·exfalso; simp_all
  have hdy := hd y; have hye : dv f ⟨y.data, y.index⟩ = dv f y := rfl
  refine Walk.idx sl25 .none rfl rfl rfl rfl (zip_at hg1.1) rfl ?_
  refine ev ?_
  refine Walk.call (cr := []) cal70 (spec_l1Depth_ms (f := f) (a := y.data) (k := y.index) (hin y (by rw [← hg1.1]; simp)) hn) rfl .none rfl rfl (.cons (LeA.msn (by first | rfl | (simp; done))) (.cons (.refl _) .nil)) ⟨rfl, trivial⟩ rfl (by first | rfl | (simp only [okCall, List.all_cons, List.all_nil, entOK, entOK', AV.idsL, AV.ids, idsL_append, ownCells_ids, List.map_cons, List.map_nil, tab_ids]; rfl)) (by first | rfl | (simp only [freshB, occH, occE, Res.ids, List.cons_append, List.nil_append, AV.idsL, AV.ids, idsL_append, ownCells_ids, zerosA_idsR, repNil, List.map_cons, List.map_nil, upC, tab_ids]; rfl)) ?_
  refine ev ?_
  refine sq (fun h2 h2p h2s => ?_) fun h2 h2p h2s => ?_
  ·try simp only [Q] at h2p
   refine rn [] (r1 rfl) (.eqd ?_) ⟨rfl, rfl⟩ (SubH.get ⟨rfl, trivial⟩) (fun _ h => h)
   all_goals (refine congrArg D.i ?_; unfold most; rw [← hg1.2.2]; first | (simp only [mostL]; rw [if_pos (by omega)]; rfl) | (simp only [mostL]; omega))
  ·try simp only [Q] at h2p
   refine sq (fun h3 h3p h3s => ?_) fun h3 h3p h3s => ?_
   ·try simp only [Q] at h3p
    refine ar ?_
    refine Exists.intro ((pre ++ [y], rest, max m (dv f y))) ⟨⟨(by have hz := hg1.1; rw [← hz]; simp), ⟨(by have := hd y; dsimp only; omega), (by rw [← hg1.2.2]; simp only [mostL]; rw [if_neg (by have := hd y; omega)])⟩⟩, (by simp), Sub.x (by kernel_rfl) (by kernel_rfl) ⟨⟨_, rfl, (LeA.eqi (by first | rfl | (simp; done) | omega | (dsimp only; omega)))⟩, ⟨⟨_, rfl, (LeA.eqi (by first | rfl | (simp; done) | omega | (dsimp only; omega)))⟩, trivial⟩⟩ (by kernel_rfl) (by kernel_rfl) trivial⟩
   ·try simp only [Q] at h3p
    refine ar ?_
    refine Exists.intro ((pre ++ [y], rest, max m (dv f y))) ⟨⟨(by have hz := hg1.1; rw [← hz]; simp), ⟨(by have := hd y; dsimp only; omega), (by rw [← hg1.2.2]; simp only [mostL]; rw [if_neg (by have := hd y; omega)])⟩⟩, (by simp), Sub.x (by kernel_rfl) (by kernel_rfl) ⟨⟨_, rfl, (LeA.eqi (by first | rfl | (simp; done) | omega | (dsimp only; omega)))⟩, ⟨⟨_, rfl, (LeA.eqi (by first | rfl | (simp; done) | omega | (dsimp only; omega)))⟩, trivial⟩⟩ (by kernel_rfl) (by kernel_rfl) trivial⟩
 ·try simp only [Q] at h1p
  have hrest : rest = [] := by
   rcases rest with _ | ⟨a, b⟩
   ·rfl
   ·exfalso; have hz := congrArg List.length (hg1.1); simp only [List.length_append, List.length_cons, List.length_map] at hz; omega
  subst hrest
  refine ar ?_
  refine rn [] (r1 rfl) (.eqd ?_) ⟨rfl, rfl⟩ (SubH.get ⟨rfl, trivial⟩) (fun _ h => h)
  all_goals (refine congrArg D.i ?_; unfold most; rw [← hg1.2.2]; first | (simp only [mostL]; rw [if_pos (by omega)]; rfl) | (simp only [mostL]; omega))
structure Dp (w : List Data) : Prop where
 wt : WT w
 cl : ClosedT w
 four : w.length ≤ 4
 ct : ∀ s, s < w.length * 4 → (ctorsOf w (tyS s)).length ≤ 4
def midT (w : List Data) (k s : Nat) : Nat → Nat := (List.range s).foldl (stepS w) (iterT w k)
def rowT (w : List Data) (k s : Nat) (pre : List Int) : Nat → Nat := pre.foldl (relax w s) (midT w k s)
theorem midT_next {w : List Data} {k s : Nat} : rowT w k s (ctorsOf w (tyS s)) = midT w k (s + 1) := by
 unfold rowT midT; rw [List.range_succ, List.foldl_append]; rfl
theorem rowT_next {w : List Data} {k s : Nat} {pre : List Int} {c : Int} : rowT w k s (pre ++ [c]) = relax w s (rowT w k s pre) c := by
 unfold rowT; rw [List.foldl_append]; rfl
theorem rowT_bd {w : List Data} (hd : Dp w) {k s : Nat} (hk : k ≤ 20) (hs : s ≤ w.length * 4) {pre : List Int} (hp : pre.length ≤ 4) (i : Nat) : rowT w k s pre i ≤ 100000 := by
 have h4 := hd.four
 have h1 := iter_bd (w := w) (m := 4) hd.ct k
 have h2 := steps_bd (w := w) (m := 4) (List.range s) (iterT w k) _ (fun x hx => hd.ct x (by have := List.mem_range.1 hx; omega)) h1 (by omega)
 have h3 := row_bd (w := w) (s := s) pre (midT w k s) _ h2 (by omega) i
 have e1 : k * (w.length * 4 * 4) ≤ 20 * (4 * 4 * 4) := Nat.mul_le_mul hk (by omega)
 rw [List.length_range] at h3
 show pre.foldl (relax w s) (midT w k s) i ≤ 100000
 omega
theorem tyS_in {w : List Data} {s : Nat} (h : s < w.length * 4) : TyIn w.length (tyS s) := .inr ⟨s / 4, rfl, by omega⟩
theorem vctors_S {w : List Data} {s : Nat} : vctors w (tyS s) = ctorsOf w (tyS s) := by unfold vctors; rw [if_neg (tyS_data s)]
theorem zerosA_snoc (m : Nat) : zerosA (m + 1) [.d (.i 0)] = zerosA m [.d (.i 0)] ++ [AV.d (.i 0)] := by
 induction m with
 | zero => rfl
 | succ m ihm =>
  show [AV.d (.i 0)] ++ zerosA (m + 1) [.d (.i 0)] = ([AV.d (.i 0)] ++ zerosA m [.d (.i 0)]) ++ [AV.d (.i 0)]
  rw [ihm, List.append_assoc]
theorem zeros_tab (n : Nat) : zerosA n [.d (.i 0)] = tabC n (fun _ => 0) := by
 unfold tabC
 induction n with
 | zero => rfl
 | succ n ih => rw [zerosA_snoc, ih, List.range_succ, List.map_append]; rfl
theorem relax_pos {w : List Data} {s : Nat} {f : Nat → Nat} {c : Int} (h : decide ((0 : Int) < (most w f (tyS s) c : Int) ∧ ((f s : Int) = 0 ∨ (most w f (tyS s) c : Int) < (f s : Int))) = true) : relax w s f c = updF f s (most w f (tyS s) c) := by
 rw [decide_eq_true_eq] at h
 unfold relax; rw [if_pos (by omega)]
theorem relax_neg {w : List Data} {s : Nat} {f : Nat → Nat} {c : Int} (h : decide ((0 : Int) < (most w f (tyS s) c : Int) ∧ ((f s : Int) = 0 ∨ (most w f (tyS s) c : Int) < (f s : Int))) = false) : relax w s f c = f := by
 rw [decide_eq_false_iff_not] at h
 unfold relax; rw [if_neg (by omega)]
theorem spec_l1Ctors_s {w : List Data} (hw : WT w) {s : Nat} (hs : s < w.length * 4) : FnD Try.prog 76 [.d (encDatas w), .agg [.d (.i ((s : Int) / 4)), .d (.i ((s : Int) % 4))]] [] (.d (encInts (ctorsOf w (tyS s)))) [] := by
 rw [← vctors_S]; exact spec_l1Ctors_v hw (tyS_in hs)
theorem spec_l1Most_s {w : List Data} (hd : Dp w) {f : Nat → Nat} {s : Nat} {c : Int} (hs : s < w.length * 4) (hc : c ∈ ctorsOf w (tyS s)) (hb : ∀ s, f s ≤ 100000) :
  FnD Try.prog 88 [.d (encDatas w), .ms 70 (w.length * 4), .agg [.d (.i ((s : Int) / 4)), .d (.i ((s : Int) % 4))], .d (.i c)] [(70, some (.box (tabC (w.length * 4) f)))] (.d (.i (most w f (tyS s) c))) [] :=
 have h4 := hd.four
 spec_l1Most_ms (a := (tyS s).data) (k := (tyS s).index) hd.wt (tyS_in hs) (by rw [← vctors_S] at hc; exact hc) (by omega) hb (fun u hu => hd.cl s hs c hc u hu)
theorem spec_l1Table_fn {w : List Data} (hd : Dp w) : FnD Try.prog 69 [.d (encDatas w)] [] (.d (encTab (w.length * 4) (depthT w))) [] := by
 have hw := hd.wt
 have h4 := hd.four
 refine bd Try.f69 70 [27, 29, 54, 61] [14, 999999] fun w0 F0 own kept hk => ?_
 refine ar ?_
 refine Walk.make (id := 70) (m := w.length * 4) sl93 tz3 rfl (by decide) (zerosA_ids rfl) .none rfl (congrArg (fun z : Int => some (AV.d (D.i z))) (by simp : ((w.map Data.c).length : Int) * 4 = ((w.length * 4 : Nat) : Int))) (congrArg (fun z : Int => some (AV.d (D.i z))) (by simp : ((w.map Data.c).length : Int) * 4 = ((w.length * 4 : Nat) : Int))) (by omega) (by omega) (by first | rfl | (simp only [freshB, occH, occE, Res.ids, List.cons_append, List.nil_append, AV.idsL, AV.ids, idsL_append, ownCells_ids, zerosA_idsR, repNil, List.map_cons, List.map_nil, upC, tab_ids]; rfl)) (by first | rfl | (simp only [freshB, occH, occE, Res.ids, List.cons_append, List.nil_append, AV.idsL, AV.ids, idsL_append, ownCells_ids, zerosA_idsR, repNil, List.map_cons, List.map_nil, upC, tab_ids]; rfl)) (by first | rfl | (simp only [freshB, occH, occE, Res.ids, List.cons_append, List.nil_append, AV.idsL, AV.ids, idsL_append, ownCells_ids, zerosA_idsR, repNil, List.map_cons, List.map_nil, upC, tab_ids]; rfl)) ?_
 refine evs [27, 29, 54, 61] [] ?_
 refine CWp.loopX (ι := Nat) hk (fun n => [(4, .d (.i (n : Int)))]) [5, 6, 7, 8, 9, 14, 15, 16, 17, 18, 19, 20, 21, 22, 23, 24, 25, 26, 27, 28, 29, 30, 31, 32, 33, 34, 35, 36, 37, 38, 39, 40, 41, 42, 43, 44, 45, 46, 47, 48, 49, 50, 51, 52, 53, 54, 55, 56, 57, 58, 59, 60, 61, 62, 63, 64, 65, 66, 67, 68] (fun n => [(70, some (.box (tabC (w.length * 4) (iterT w n))))]) (fun n => n ≤ w.length * 4 + 1) (fun n => w.length * 4 + 1 - n) 0 (by simp) ⟨⟨_, rfl, (LeA.eqi (by first | rfl | (simp; done) | (simp_all; done) | omega))⟩, trivial⟩ ⟨(by first | rfl | (show some (Res.box _) = some (Res.box _); rw [zeros_tab]; rfl) | (have e : s = w.length * 4 := (by omega); rw [e]; rfl)), trivial⟩ (fun x => rfl) (fun n hg1 => ?_)
 refine evc [27, 29, 54, 61] [14, 999999] ?_
 refine sq (fun h1 h1p h1s => ?_) fun h1 h1p h1s => ?_
 ·try simp only [Q] at h1p
  refine CWp.loopX (ι := Nat) hk (fun s => [(5, .d (.i (s : Int)))]) [6, 7, 8, 9, 20, 21, 22, 23, 24, 25, 26, 27, 28, 29, 30, 31, 32, 33, 34, 35, 36, 37, 38, 39, 40, 41, 42, 43, 44, 45, 46, 47, 48, 49, 50, 51, 52, 53, 54, 55, 56, 57, 58, 59, 60, 61, 62, 63, 64, 65, 66, 67, 68] (fun s => [(70, some (.box (tabC (w.length * 4) (midT w n s))))]) (fun s => s ≤ w.length * 4) (fun s => w.length * 4 - s) 0 (by simp) ⟨⟨_, rfl, (LeA.eqi (by first | rfl | (simp; done) | (simp_all; done) | omega))⟩, trivial⟩ ⟨(by first | rfl | (show some (Res.box _) = some (Res.box _); rw [← midT_next, ← hg3, List.append_nil])), trivial⟩ (fun x => rfl) (fun s hg2 => ?_)
  refine evc [27, 29, 54, 61] [14, 999999] ?_
  refine sq (fun h2 h2p h2s => ?_) fun h2 h2p h2s => ?_
  ·try simp only [Q] at h2p
   refine Walk.quoI .none rfl rfl rfl (by omega) ?_
   refine evs [27, 29, 54, 61] [] ?_
   refine Walk.remI .none rfl rfl rfl (by omega) ?_
   refine Walk.build st31 (ks := [0, 1]) (xs := [_, _]) rfl rfl .none rfl rfl rfl ?_
   refine Walk.alloc (id := 3006) tz31 rfl .none rfl (by first | rfl | (simp only [freshB, occH, occE, Res.ids, List.cons_append, List.nil_append, AV.idsL, AV.ids, idsL_append, ownCells_ids, zerosA_idsR, repNil, List.map_cons, List.map_nil, upC, tab_ids]; rfl)) (by first | rfl | (simp only [freshB, occH, occE, Res.ids, List.cons_append, List.nil_append, AV.idsL, AV.ids, idsL_append, ownCells_ids, zerosA_idsR, repNil, List.map_cons, List.map_nil, upC, tab_ids]; rfl)) (by first | rfl | (simp only [freshB, occH, occE, Res.ids, List.cons_append, List.nil_append, AV.idsL, AV.ids, idsL_append, ownCells_ids, zerosA_idsR, repNil, List.map_cons, List.map_nil, upC, tab_ids]; rfl)) ?_
   refine Walk.store ty31 .none rfl rfl rfl rfl rfl rfl (by simp) rfl ?_
   refine tv ?_
   refine Walk.call (cr := []) cal76 (spec_l1Ctors_s hw (s := s) (by omega)) rfl .none rfl rfl (LeL.refl _) trivial rfl (by first | rfl | (simp only [okCall, List.all_cons, List.all_nil, entOK, entOK', AV.idsL, AV.ids, idsL_append, ownCells_ids, List.map_cons, List.map_nil, tab_ids]; rfl)) (by first | rfl | (simp only [freshB, occH, occE, Res.ids, List.cons_append, List.nil_append, AV.idsL, AV.ids, idsL_append, ownCells_ids, zerosA_idsR, repNil, List.map_cons, List.map_nil, upC, tab_ids]; rfl)) ?_
   refine evs [27, 29, 54, 61] [] ?_
   refine CWp.loopX (ι := List (Int) × List (Int)) hk (fun x => [(8, .d (.i (x.1.length : Int)))]) [9, 34, 35, 36, 37, 38, 39, 40, 41, 42, 43, 44, 45, 46, 47, 48, 49, 50, 51, 52, 53, 54, 55, 56, 57, 58, 59, 60, 61, 62, 63, 64, 65, 66, 67, 68] (fun x => [(70, some (.box (tabC (w.length * 4) (rowT w n s x.1))))]) (fun x => x.1 ++ x.2 = ctorsOf w (tyS s)) (fun x => x.2.length) ([], ctorsOf w (tyS s)) (by simp) ⟨⟨_, rfl, (LeA.eqi (by first | rfl | (simp; done) | (simp_all; done) | omega))⟩, trivial⟩ ⟨(by first | rfl | (show some (Res.box _) = some (Res.box _); rw [rowT_next]; first | (rw [relax_pos (by assumption)]; done) | (rw [relax_neg (by assumption)]; done))), trivial⟩ (fun x => rfl) (fun x hg3 => ?_)
   obtain ⟨pre, rest⟩ := x
   dsimp only at hg3 ⊢
   have hct := hd.ct s (by omega)
   refine evc [27, 29, 54, 61] [14, 999999] ?_
   refine sq (fun h3 h3p h3s => ?_) fun h3 h3p h3s => ?_
   ·try simp only [Q] at h3p
    rcases rest with _ | ⟨c, rest⟩
    ·exfalso; simp_all
    refine Walk.idx sl93 .none rfl rfl rfl rfl (zip_at hg3) rfl ?_
    refine evd [27, 29, 54, 61] [] ?_
    refine Walk.call (cr := []) cal88 (spec_l1Most_s hd (f := rowT w n s pre) (s := s) (c := c) (by omega) (by rw [← hg3]; simp) (rowT_bd hd (by omega) (by omega) (by have := hd.ct s (by omega); have hz := congrArg List.length hg3; simp at hz; omega))) rfl .none rfl rfl (.cons (.refl _) (.cons (LeA.msn (by first | rfl | (simp; done))) (.cons (.refl _) (.cons (.refl _) .nil)))) ⟨rfl, trivial⟩ rfl (by first | rfl | (simp only [okCall, List.all_cons, List.all_nil, entOK, entOK', AV.idsL, AV.ids, idsL_append, ownCells_ids, List.map_cons, List.map_nil, tab_ids]; rfl)) (by first | rfl | (simp only [freshB, occH, occE, Res.ids, List.cons_append, List.nil_append, AV.idsL, AV.ids, idsL_append, ownCells_ids, zerosA_idsR, repNil, List.map_cons, List.map_nil, upC, tab_ids]; rfl)) ?_
    refine evd [27, 29, 54, 61] [] ?_
    refine dr ?_
    refine CWp.regionJ ?_
    refine WRest.join 17 [(64, .d (.bool (decide ((0 : Int) < (most w (rowT w n s pre) (tyS s) c : Int) ∧ ((rowT w n s pre s : Int) = 0 ∨ (most w (rowT w n s pre) (tyS s) c : Int) < (rowT w n s pre s : Int))))))] [48, 49, 50, 51, 52, 53, 54, 55, 56, 57, 58, 59, 60, 61, 62, 63] ?_ ?_
    ·
     refine evs [27, 29, 54, 61] [] ?_
     refine sq (fun h4 h4p h4s => ?_) fun h4 h4p h4s => ?_
     ·try simp only [Q] at h4p
      refine Walk.idxM (i := s) sl93 (.some rfl rfl h4) rfl rfl rfl rfl (by omega) ?_
      refine Walk.loadB ty3 (.some rfl rfl h4) rfl rfl rfl ((tab_get (s := s) (by omega) (by omega))) ?_
      refine evs [27, 29, 54, 61] [(50, true)] ?_ ⟨⟨_, rfl, h4⟩, trivial⟩
      refine sq (fun h5 h5p h5s => ?_) fun h5 h5p h5s => ?_
      ·try simp only [Q] at h5p
       exact jnb rfl
      ·try simp only [Q] at h5p
       refine Walk.idxM (i := s) sl93 (.some rfl rfl h5) rfl rfl rfl rfl (by omega) ?_
       refine Walk.loadB ty3 (.some rfl rfl h5) rfl rfl rfl ((tab_get (s := s) (by omega) (by omega))) ?_
       refine evs [27, 29, 54, 61] [(50, true), (56, false)] ?_ ⟨⟨_, rfl, h4⟩, ⟨_, rfl, h5⟩, trivial⟩
       exact jnb rfl
     ·try simp only [Q] at h4p
      exact jnb rfl
    refine WRest.done ?_
    refine tv ?_
    refine sq (fun h6 h6p h6s => ?_) fun h6 h6p h6s => ?_
    ·try simp only [Q] at h6p
     refine Walk.idxM (i := s) sl93 .none rfl rfl rfl rfl (by omega) ?_
     refine Walk.store ty3 .none rfl rfl rfl rfl rfl rfl (by simp) ((tab_put (s := s) (v := most w (rowT w n s pre) (tyS s) c) (by omega) (by omega) rfl)) ?_
     refine tv ?_
     refine ar ?_
     refine Exists.intro ((pre ++ [c], rest)) ⟨(by have hz := hg3; rw [← hz]; simp), (by simp), Sub.x (by kernel_rfl) (by kernel_rfl) ⟨⟨_, rfl, (LeA.eqi (by first | rfl | (simp; done) | (simp_all; done) | omega))⟩, trivial⟩ (by kernel_rfl) (by kernel_rfl) ⟨(by first | rfl | (show some (Res.box _) = some (Res.box _); rw [rowT_next]; first | (rw [relax_pos (by assumption)]; done) | (rw [relax_neg (by assumption)]; done))), trivial⟩⟩
    ·try simp only [Q] at h6p
     refine ar ?_
     refine Exists.intro ((pre ++ [c], rest)) ⟨(by have hz := hg3; rw [← hz]; simp), (by simp), Sub.x (by kernel_rfl) (by kernel_rfl) ⟨⟨_, rfl, (LeA.eqi (by first | rfl | (simp; done) | (simp_all; done) | omega))⟩, trivial⟩ (by kernel_rfl) (by kernel_rfl) ⟨(by first | rfl | (show some (Res.box _) = some (Res.box _); rw [rowT_next]; first | (rw [relax_pos (by assumption)]; done) | (rw [relax_neg (by assumption)]; done))), trivial⟩⟩
   ·try simp only [Q] at h3p
    have hrest : rest = [] := by
     rcases rest with _ | ⟨a, b⟩
     ·rfl
     ·exfalso; have hz := congrArg List.length (hg3); simp only [List.length_append, List.length_cons, List.length_map] at hz; omega
    subst hrest
    refine ar ?_
    refine Exists.intro (s + 1) ⟨(by omega), (by omega), Sub.x (by kernel_rfl) (by kernel_rfl) ⟨⟨_, rfl, (LeA.eqi (by first | rfl | (simp; done) | (simp_all; done) | omega))⟩, trivial⟩ (by kernel_rfl) (by kernel_rfl) ⟨(by first | rfl | (show some (Res.box _) = some (Res.box _); rw [← midT_next, ← hg3, List.append_nil])), trivial⟩⟩
  ·try simp only [Q] at h2p
   refine ar ?_
   refine Exists.intro (n + 1) ⟨(by omega), (by omega), Sub.x (by kernel_rfl) (by kernel_rfl) ⟨⟨_, rfl, (LeA.eqi (by first | rfl | (simp; done) | (simp_all; done) | omega))⟩, trivial⟩ (by kernel_rfl) (by kernel_rfl) ⟨(by first | rfl | (show some (Res.box _) = some (Res.box _); rw [zeros_tab]; rfl) | (have e : s = w.length * 4 := (by omega); rw [e]; rfl)), trivial⟩⟩
 ·try simp only [Q] at h1p
  refine CWp.frz hk 2 70 _ _ rfl rfl chunk_tab rfl ?_
  refine CWp.ret ?_
  refine rn0 (r1 rfl) (.eqd ?_)
  all_goals (first | rfl | (have e : n = w.length * 4 + 1 := (by omega); rw [e]; rfl))
theorem flatR_tys (l : List Ty) : FlatR (l.map Ty.c) := by
 intro x hx y hy
 obtain ⟨t, _, rfl⟩ := List.mem_map.1 hx
 simp only [Ty.c, List.mem_cons, List.not_mem_nil, or_false] at hy
 rcases hy with rfl | rfl <;> rfl
theorem ty_split {xs : List Ty} {i : Nat} (h : i < xs.length) (m : Bool) : ownCells m (xs.map Ty.c) = ownCells m ((xs.take i).map Ty.c) ++ (.d (.i (nth xs i).data) :: .d (.i (nth xs i).index) :: ownCells m ((xs.drop (i + 1)).map Ty.c)) := by
 conv => lhs; rw [← List.take_append_drop i xs, drop_nth h, List.map_append, ownCells_append]
 rfl
theorem ty_len {xs : List Ty} {i : Nat} (h : i ≤ xs.length) (m : Bool) : (ownCells m ((xs.take i).map Ty.c)).length = i * 2 := by
 rw [own_len (k := 2) m (by intro x _; rfl), List.length_take, Nat.min_eq_left h]
theorem own_cutTy {xs : List Ty} {i : Nat} (h : i < xs.length) {m : Bool} : (cutC (ownCells m (xs.map Ty.c)) (i * 2) 2).map (·.map seeC) = some [.d (.i (nth xs i).data), .d (.i (nth xs i).index)] := by
 rw [ty_split h, cutC_off0 (ty_len (by omega) m) cutC_k2]
 rfl
theorem own_putTy {xs : List Ty} {i : Nat} (h : i < xs.length) {m : Bool} {t : Ty} : putC (ownCells m (xs.map Ty.c)) (i * 2) [.d (.i t.data), .d (.i t.index)] = some (ownCells m ((xs.set i t).map Ty.c)) := by
 rw [ty_split h, putC_off0 (ty_len (by omega) m) (B' := .d (.i t.data) :: .d (.i t.index) :: ownCells m ((xs.drop (i + 1)).map Ty.c)) (by simp [putC])]
 rw [List.set_eq_take_append_cons_drop, if_pos h, List.map_append, ownCells_append]
 rfl
theorem own_zeroTy {xs : List Ty} {i n : Nat} (hn : xs.length = n) (h : i ≤ n) {m : Bool} : putC (ownCells m (xs.map Ty.c)) (i * 2) (zerosA (n - i) [.d (.i 0), .d (.i 0)]) = some (ownCells m ((xs.take i).map Ty.c) ++ zerosA (n - i) [.d (.i 0), .d (.i 0)]) := by
 subst hn
 have e : ownCells m (xs.map Ty.c) = ownCells m ((xs.take i).map Ty.c) ++ (ownCells m ((xs.drop i).map Ty.c) ++ []) := by
  conv => lhs; rw [← List.take_append_drop i xs, List.map_append, ownCells_append]
  simp
 rw [e, putC_mid (ty_len h m) ?_]
 ·simp
 ·rw [own_len (k := 2) m (by intro x _; rfl), List.length_drop, zerosA_len]; rfl
theorem idxF_spec {α : Type} [Inhabited α] (p : α → Bool) : ∀ (l : List α) (i : Nat), (idxF p l i = -1 ∧ ∀ x ∈ l, p x = false) ∨ ∃ k : Nat, idxF p l i = ((i + k : Nat) : Int) ∧ k < l.length ∧ (l.take (k + 1)).filter (fun x => !p x) = l.take k
 | [], i => .inl ⟨rfl, by simp⟩
 | x :: r, i => by
  unfold idxF
  cases h : p x with
  | true => exact .inr ⟨0, by simp, by simp, by simp [h]⟩
  | false =>
   rcases idxF_spec p r (i + 1) with ⟨h1, h2⟩ | ⟨k, h1, h2, h3⟩
   ·exact .inl ⟨by simpa using h1, fun y hy => by rcases List.mem_cons.1 hy with rfl | hy; exact h; exact h2 y hy⟩
   ·refine .inr ⟨k + 1, by simp only [Bool.false_eq_true, if_false]; rw [h1]; congr 1; omega, by simpa using h2, ?_⟩
    simp only [List.take_succ_cons, List.filter_cons, h, Bool.not_false, if_true, List.cons.injEq, true_and]
    simpa using h3
theorem take_set_next {α : Type} [Inhabited α] {s : List α} {i : Nat} {t : α} (h : i < s.length) : (s.set i t).take (i + 1) = s.take i ++ [t] := by
 rw [List.set_eq_take_append_cons_drop, if_pos h, List.take_append, List.take_take]
 have : (s.take i).length = i := by simp; omega
 simp [this, Nat.min_eq_right]
theorem drop_set_next {α : Type} {s : List α} {i j : Nat} {t : α} (h : i ≤ j) : (s.set i t).drop (j + 1) = s.drop (j + 1) := by
 rw [List.drop_set, if_pos (by omega)]
theorem filter_take_next {α : Type} [Inhabited α] {p : α → Bool} {l : List α} {j : Nat} (h : j < l.length) : (l.take (j + 1)).filter p = (l.take j).filter p ++ (if p (nth l j) then [nth l j] else []) := by
 rw [List.take_add_one, List.getElem?_eq_getElem h, List.filter_append, nth_eq h]
 simp [List.filter_cons]
theorem nth_of_drop {α : Type} [Inhabited α] {s l : List α} {j : Nat} (h : s.drop j = l.drop j) (hl : s.length = l.length) (hj : j < l.length) : nth s j = nth l j := by
 have h1 := drop_nth (l := s) (i := j) (by omega)
 have h2 := drop_nth (l := l) (i := j) hj
 rw [h1, h2] at h
 exact (List.cons.inj h).1
theorem drop_more {α : Type} {s l : List α} {j : Nat} (h : s.drop j = l.drop j) : s.drop (j + 1) = l.drop (j + 1) := by
 have := congrArg (List.drop 1) h
 simpa [List.drop_drop, Nat.add_comm] using this
theorem slices_IndexFunc_Ty_tr {xs : List Ty} {f : Nat} {B2 B3 : List AV} {p : Ty → Bool} (hs : xs.length ≤ 1000000000000) (hcal : Callee Try.prog f) (hB2 : AV.idsL B2 = []) (hB3 : AV.idsL B3 = [])
  (hf : ∀ t ∈ xs, FnD Try.prog f [.agg [.d (.i t.data), .d (.i t.index)], .ref 3002 0, .ref 3003 0] [(3002, some (.box B2)), (3003, some (.box B3))] (.d (.bool (p t))) []) :
  FnD Try.prog 51 [.ms 1 xs.length, .fn f [.ref 3002 0, .ref 3003 0]] [(1, some (.tree (ownCells true (xs.map Ty.c)))), (3002, some (.box B2)), (3003, some (.box B3))] (.d (.i (idxF p xs 0))) [] := by
 refine bd Try.f51 19 [15] [] fun w0 F0 own kept hk => ?_
 refine CWp.loopX (ι := Nat) hk (fun i => [(8, .d (.i (i : Int)))]) [4, 5, 9, 10, 11, 12, 13, 14, 15, 16, 17, 18] (fun i => []) (fun i => i ≤ xs.length ∧ idxF p (xs.drop i) i = idxF p xs 0) (fun i => xs.length - i) 0 ⟨by omega, rfl⟩ ⟨⟨_, rfl, (LeA.eqi (by first | rfl | (simp; done) | (simp_all; done) | omega))⟩, trivial⟩ trivial (fun x => rfl) (fun i hg1 => ?_)
 refine evc [15] [] ?_
 refine sq (fun h1 h1p h1s => ?_) fun h1 h1p h1s => ?_
 ·try simp only [Q] at h1p
  refine Walk.idxM sl25 .none rfl rfl rfl rfl (by first | omega | (simp ; omega)) ?_
  refine Walk.loadTA ty31 .none rfl rfl rfl ((own_cutTy (by omega))) ?_
  refine Walk.callV (cr := []) hcal (hf (nth xs i) (nth_mem (by omega))) rfl .none rfl rfl rfl (LeL.refl _) ⟨rfl, rfl, trivial⟩ rfl (by simp only [okCall, List.all_cons, List.all_nil, entOK, entOK', AV.idsL, AV.ids, hB2, hB3, List.map_cons, List.map_nil]; rfl) rfl ?_
  refine tv ?_
  refine sq (fun h2 h2p h2s => ?_) fun h2 h2p h2s => ?_
  ·try simp only [Q] at h2p
   refine rn [] (r1 rfl) (.eqd ?_) ⟨rfl, rfl⟩ (SubH.get ⟨rfl, ⟨rfl, ⟨rfl, trivial⟩⟩⟩) (fun _ h => h)
   all_goals (first | (rw [← hg1.2, drop_nth (by omega)]; simp [idxF, h1s, h1p, h2s, h2p]; done) | (rw [← hg1.2, List.drop_eq_nil_of_le (by omega)]; rfl))
  ·try simp only [Q] at h2p
   refine ar ?_
   refine Exists.intro (i + 1) ⟨⟨by omega, (by rw [← hg1.2, drop_nth (l := xs) (i := i) (by omega)]; simp_all [idxF])⟩, (by omega), Sub.x (by kernel_rfl) (by kernel_rfl) ⟨⟨_, rfl, (LeA.eqi (by first | rfl | (simp; done) | (simp_all; done) | omega))⟩, trivial⟩ (by kernel_rfl) (by kernel_rfl) trivial⟩
 ·try simp only [Q] at h1p
  refine rn [] (r1 rfl) (.eqd ?_) ⟨rfl, rfl⟩ (SubH.get ⟨rfl, ⟨rfl, ⟨rfl, trivial⟩⟩⟩) (fun _ h => h)
  all_goals (first | (rw [← hg1.2, drop_nth (by omega)]; simp [idxF, h1s, h1p]; done) | (rw [← hg1.2, List.drop_eq_nil_of_le (by omega)]; rfl))
theorem slices_DeleteFunc_Ty_tr {xs : List Ty} {f : Nat} {B2 B3 : List AV} {p : Ty → Bool} (hs : xs.length ≤ 1000000000000) (hcal : Callee Try.prog f) (hB2 : AV.idsL B2 = []) (hB3 : AV.idsL B3 = [])
  (hf : ∀ t ∈ xs, FnD Try.prog f [.agg [.d (.i t.data), .d (.i t.index)], .ref 3002 0, .ref 3003 0] [(3002, some (.box B2)), (3003, some (.box B3))] (.d (.bool (p t))) []) :
  FnD Try.prog 29 [.ms 1 xs.length, .fn f [.ref 3002 0, .ref 3003 0]] [(1, some (.tree (ownCells true (xs.map Ty.c)))), (3002, some (.box B2)), (3003, some (.box B3))]
   (.ms 1 (xs.filter fun t => !p t).length) [(1, some (.tree (ownCells true ((xs.filter fun t => !p t).map Ty.c))))] := by
 have hok3 : okCall [(1, some (.tree (ownCells true (xs.map Ty.c)))), (3002, some (.box B2)), (3003, some (.box B3))] [] (.d .nilp) [] = true := by
  simp only [okCall, List.all_cons, List.all_nil, entOK, entOK', AV.idsL, AV.ids, ownCells_ids, hB2, hB3, List.map_cons, List.map_nil]; rfl
 rcases idxF_spec p xs 0 with ⟨hi, hall⟩ | ⟨k, hi, hk1, hk2⟩
 ·have hfil : (xs.filter fun t => !p t) = xs := List.filter_eq_self.2 (fun x hx => by simp [hall x hx])
  rw [hfil]
  refine bd Try.f29 42 [] [] fun w0 F0 own kept hk => ?_
  refine Walk.call (cr := []) cal51 (slices_IndexFunc_Ty_tr hs hcal hB2 hB3 hf) rfl .none rfl rfl (.cons (LeA.msn (by first | rfl | (simp; done))) (.cons (.refl _) .nil)) ⟨rfl, rfl, rfl, trivial⟩ rfl (okCall_d hok3 _) rfl ?_
  refine ev ?_
  refine sq (fun h1 h1p h1s => ?_) fun h1 h1p h1s => ?_
  ·try simp only [Q] at h1p
   refine rn [(1, some (.tree (ownCells true (xs.map Ty.c))))] (r1 rfl) (LeA.msn ?_) ⟨rfl, rfl⟩ (SubO.get ⟨.inr (by rfl), ⟨.inl rfl, ⟨.inr rfl, ⟨.inr rfl, trivial⟩⟩⟩⟩) (boxOK rfl)
   all_goals (first | rfl | (simp; done))
  ·try simp only [Q] at h1p
   exfalso; simp [hi] at h1 --stop
 ·skip
  refine bd Try.f29 42 [25] [12] fun w0 F0 own kept hk => ?_
  refine Walk.call (cr := []) cal51 (slices_IndexFunc_Ty_tr hs hcal hB2 hB3 hf) rfl .none rfl rfl (.cons (LeA.msn (by first | rfl | (simp; done))) (.cons (.refl _) .nil)) ⟨rfl, rfl, rfl, trivial⟩ rfl (okCall_d hok3 _) rfl ?_
  refine evs [25] [] ?_
  refine sq (fun h1 h1p h1s => ?_) fun h1 h1p h1s => ?_
  ·try simp only [Q] at h1p
   exfalso; simp [hi] at h1 <;> omega --stop
  ·try simp only [Q] at h1p
   refine ar ?_
   refine CWp.loopX (ι := List Ty × Nat × Nat) hk (fun x => [(6, .d (.i (x.2.1 : Int))), (5, .d (.i (x.2.2 : Int)))]) [7, 16, 17, 18, 19, 20, 21, 22, 23, 24, 25, 26, 27, 28, 29, 30, 31, 32, 33, 34, 35] (fun x => [(1, some (.tree (ownCells true (x.1.map Ty.c))))]) (fun x => x.1.length = xs.length ∧ x.2.1 ≤ xs.length ∧ x.2.2 ≤ x.2.1 ∧ x.1.take x.2.2 = (xs.take x.2.1).filter (fun t => !p t) ∧ x.1.drop x.2.1 = xs.drop x.2.1) (fun x => xs.length - x.2.1) (xs, k + 1, k) ⟨rfl, by dsimp only; omega, by dsimp only; omega, hk2.symm, rfl⟩ ⟨⟨_, rfl, (LeA.eqi (by first | rfl | (simp; done) | (dsimp only; simp [hi]; omega) | (simp_all; done)))⟩, ⟨⟨_, rfl, (LeA.eqi (by first | rfl | (simp; done) | (dsimp only; simp [hi]; omega) | (simp_all; done)))⟩, trivial⟩⟩ ⟨(by first | rfl | (show some (Res.tree _) = some (Res.tree _); dsimp only; split <;> first | rfl | (exfalso; simp_all; done))), trivial⟩ (fun x => rfl) (fun x hg1 => ?_)
   refine evc [25] [12] ?_
   refine sq (fun h2 h2p h2s => ?_) fun h2 h2p h2s => ?_
   ·try simp only [Q] at h2p
    refine Walk.idxM sl25 .none rfl rfl rfl rfl (by first | omega | (simp ; omega)) ?_
    refine Walk.loadTA ty31 .none rfl rfl rfl (((own_cutTy (xs := x.1) (by omega)).trans (by rw [nth_of_drop hg1.2.2.2.2 hg1.1 (by omega)]))) ?_
    refine Walk.alloc (id := 3007) tz31 rfl .none rfl (by first | rfl | (simp only [freshB, occH, occE, Res.ids, List.cons_append, List.nil_append, AV.idsL, AV.ids, idsL_append, ownCells_ids, zerosA_idsR, repNil, List.map_cons, List.map_nil, upC, hB2, hB3]; rfl)) (by first | rfl | (simp only [freshB, occH, occE, Res.ids, List.cons_append, List.nil_append, AV.idsL, AV.ids, idsL_append, ownCells_ids, zerosA_idsR, repNil, List.map_cons, List.map_nil, upC, hB2, hB3]; rfl)) (by first | rfl | (simp only [freshB, occH, occE, Res.ids, List.cons_append, List.nil_append, AV.idsL, AV.ids, idsL_append, ownCells_ids, zerosA_idsR, repNil, List.map_cons, List.map_nil, upC, hB2, hB3]; rfl)) ?_
    refine Walk.store ty31 .none rfl rfl rfl rfl rfl rfl (by simp) rfl ?_
    refine tv ?_
    refine Walk.callV (cr := []) hcal (hf (nth xs x.2.1) (nth_mem (by omega))) rfl .none rfl rfl rfl (LeL.refl _) ⟨rfl, rfl, trivial⟩ rfl (by simp only [okCall, List.all_cons, List.all_nil, entOK, entOK', AV.idsL, AV.ids, hB2, hB3, List.map_cons, List.map_nil]; rfl) rfl ?_
    refine evs [25] [] ?_
    refine sq (fun h3 h3p h3s => ?_) fun h3 h3p h3s => ?_
    ·try simp only [Q] at h3p
     refine Walk.idxM sl25 .none rfl rfl rfl rfl (by first | omega | (simp ; omega)) ?_
     refine Walk.storeT ty31 .none rfl rfl rfl rfl rfl rfl (by simp) ((own_putTy (by omega))) ?_
     refine tv ?_
     refine ar ?_
     refine ar ?_
     refine Exists.intro ((if p (nth xs x.2.1) then x.1 else x.1.set x.2.2 (nth xs x.2.1), x.2.1 + 1, if p (nth xs x.2.1) then x.2.2 else x.2.2 + 1)) ⟨(by
         obtain ⟨g1, g2, g3, g4, g5⟩ := hg1
         have hlt : x.2.1 < xs.length := by omega
         have h7 := filter_take_next (p := fun t => !p t) hlt
         refine ⟨by dsimp only; split <;> simp [g1], by dsimp only; omega, by dsimp only; split <;> omega, ?_, ?_⟩
         ·dsimp only
          rw [h7, ← g4]
          cases hp : p (nth xs x.2.1) with
          | true => simp
          | false => simp only [Bool.false_eq_true, if_false, Bool.not_false, if_true]; rw [take_set_next (by omega)]
         ·dsimp only
          split
          ·exact drop_more g5
          ·first | (rw [drop_set_next g3]; exact drop_more g5) | exact drop_more g5), (by dsimp only; omega), Sub.x (by kernel_rfl) (by kernel_rfl) ⟨⟨_, rfl, (LeA.eqi (by first | rfl | (simp; done) | (dsimp only; simp [hi]; omega) | (simp_all; done)))⟩, ⟨⟨_, rfl, (LeA.eqi (by first | rfl | (simp; done) | (dsimp only; simp [hi]; omega) | (simp_all; done)))⟩, trivial⟩⟩ (by kernel_rfl) (by kernel_rfl) ⟨(by first | rfl | (show some (Res.tree _) = some (Res.tree _); dsimp only; split <;> first | rfl | (exfalso; simp_all; done))), trivial⟩⟩
    ·try simp only [Q] at h3p
     refine ar ?_
     refine Exists.intro ((if p (nth xs x.2.1) then x.1 else x.1.set x.2.2 (nth xs x.2.1), x.2.1 + 1, if p (nth xs x.2.1) then x.2.2 else x.2.2 + 1)) ⟨(by
         obtain ⟨g1, g2, g3, g4, g5⟩ := hg1
         have hlt : x.2.1 < xs.length := by omega
         have h7 := filter_take_next (p := fun t => !p t) hlt
         refine ⟨by dsimp only; split <;> simp [g1], by dsimp only; omega, by dsimp only; split <;> omega, ?_, ?_⟩
         ·dsimp only
          rw [h7, ← g4]
          cases hp : p (nth xs x.2.1) with
          | true => simp
          | false => simp only [Bool.false_eq_true, if_false, Bool.not_false, if_true]; rw [take_set_next (by omega)]
         ·dsimp only
          split
          ·exact drop_more g5
          ·first | (rw [drop_set_next g3]; exact drop_more g5) | exact drop_more g5), (by dsimp only; omega), Sub.x (by kernel_rfl) (by kernel_rfl) ⟨⟨_, rfl, (LeA.eqi (by first | rfl | (simp; done) | (dsimp only; simp [hi]; omega) | (simp_all; done)))⟩, ⟨⟨_, rfl, (LeA.eqi (by first | rfl | (simp; done) | (dsimp only; simp [hi]; omega) | (simp_all; done)))⟩, trivial⟩⟩ (by kernel_rfl) (by kernel_rfl) ⟨(by first | rfl | (show some (Res.tree _) = some (Res.tree _); dsimp only; split <;> first | rfl | (exfalso; simp_all; done))), trivial⟩⟩
   ·try simp only [Q] at h2p
    refine Walk.cutM_l sl25 .none rfl rfl rfl rfl (by omega) ?_
    refine Walk.clearT sl25 tz31 rfl (by decide) rfl .none rfl rfl (own_zeroTy hg1.1 (by omega)) ?_
    refine tv ?_
    refine CWp.takeTree 1 (ownCells true ((x.1.take x.2.2).map Ty.c)) _ rfl rfl ?_
    refine evc [25] [] ?_
    refine Walk.cutM_h sl25 .none rfl rfl rfl rfl (by omega) ?_
    refine evs [25] [] ?_
    refine rn [(1, some (.tree (ownCells true ((xs.filter fun t => !p t).map Ty.c))))] (r1 rfl) (LeA.msn ?_) ⟨rfl, rfl⟩ (SubO.get ⟨.inr (by (obtain ⟨g1, g2, g3, g4, g5⟩ := hg1; have e : x.2.1 = xs.length := (by omega); rw [e, List.take_length] at g4; rw [← g4]; rfl)), ⟨.inl rfl, ⟨.inr rfl, ⟨.inr rfl, trivial⟩⟩⟩⟩) (boxOK rfl)
    all_goals (first | rfl | (obtain ⟨g1, g2, g3, g4, g5⟩ := hg1; have e : x.2.1 = xs.length := (by omega); rw [e, List.take_length] at g4; rw [← g4, List.length_take]; omega))
theorem allTypesOf_in {n : Nat} {t : Ty} (h : t ∈ allTypesOf n) : TyIn n t := by
 simp only [allTypesOf, List.mem_cons, List.mem_flatMap, List.mem_map, List.mem_range] at h
 rcases h with rfl | ⟨i, hi, k, _, rfl⟩
 ·exact .inl rfl
 ·exact .inr ⟨i, rfl, hi⟩
theorem valid_wt {w : List Data} (hs : WSmall w) (hv : worldValid w = true) : WT w := WV.wt hs ((worldValid_iff w).1 hv)
theorem valid_four {w : List Data} (hv : worldValid w = true) : w.length ≤ 4 := by
 unfold worldValid at hv
 simp only [Bool.and_eq_true, decide_eq_true_eq] at hv
 omega
theorem allTypesOf_len (n : Nat) : (allTypesOf n).length = 1 + n * 4 := by
 simp only [allTypesOf, List.length_cons, List.length_flatMap, List.length_map, List.length_range]
 rw [List.map_const', List.sum_replicate_nat]
 simp; omega
theorem impl_allTypes_ms {w : List Data} (hw : w.length ≤ 1000000000000) : FnD Try.prog 22 [.d (encDatas w)] [] (.ms 1 (allTypesOf w.length).length) [(1, some (.tree (ownCells true ((allTypesOf w.length).map Ty.c))))] := by
 refine bd Try.f22 25 [] [10] fun w0 F0 own kept hk => ?_
 refine Walk.build st31 (ks := [0]) (xs := [_]) rfl rfl .none rfl rfl rfl ?_
 refine Walk.sliceLitGV 1 sl25 tz31 rfl (by decide) (ks := [0]) (xs := [_]) rfl rfl (by decide) (by decide) .none rfl rfl rfl rfl rfl ?_
 refine ev ?_
 refine CWp.loopX (ι := Nat) hk (fun i => [(10, .d (.i (i : Int))), (3, .gv 1 ((⟨-1, 0⟩ :: (List.range i).flatMap fun (i : Nat) => (List.range 4).map fun (k : Nat) => (⟨i, k⟩ : Ty)).map Ty.c))]) [4, 5, 11, 12, 13, 14, 15, 16, 17, 18, 19, 20, 21, 22, 23] (fun i => [(1, some (.tok (((⟨-1, 0⟩ :: (List.range i).flatMap fun (i : Nat) => (List.range 4).map fun (k : Nat) => (⟨i, k⟩ : Ty)).map Ty.c)).length 2))]) (fun i => i ≤ w.length) (fun i => w.length - i) 0 (by simp) ⟨⟨_, rfl, (LeA.eqi (by first | rfl | (simp [List.range_succ]; done)))⟩, ⟨⟨_, rfl, (LeA.gvg (by first | rfl | (simp [List.range_succ]; done)))⟩, trivial⟩⟩ ⟨beq_nat_eq (by first | rfl | (simp; done) | (simp; omega) | (first | rfl | (simp [List.range_succ]; done))), trivial⟩ (fun x => rfl) (fun i hg1 => ?_)
 refine evc [] [10] ?_
 refine sq (fun h1 h1p h1s => ?_) fun h1 h1p h1s => ?_
 ·try simp only [Q] at h1p
  refine CWp.loopX (ι := Nat) hk (fun k => [(5, .d (.i (k : Int))), (3, .gv 1 ((⟨-1, 0⟩ :: ((List.range i).flatMap fun (i : Nat) => (List.range 4).map fun (k : Nat) => (⟨i, k⟩ : Ty)) ++ (List.range k).map fun (k : Nat) => (⟨i, k⟩ : Ty)).map Ty.c))]) [13, 14, 15, 16, 17, 18, 19, 20, 21, 22] (fun k => [(1, some (.tok (((⟨-1, 0⟩ :: ((List.range i).flatMap fun (i : Nat) => (List.range 4).map fun (k : Nat) => (⟨i, k⟩ : Ty)) ++ (List.range k).map fun (k : Nat) => (⟨i, k⟩ : Ty)).map Ty.c)).length 2))]) (fun k => k ≤ 4) (fun k => 4 - k) 0 (by simp) ⟨⟨_, rfl, (LeA.eqi (by first | rfl | (simp [List.range_succ]; done)))⟩, ⟨⟨_, rfl, (LeA.gvg (by first | rfl | (simp [List.range_succ]; done)))⟩, trivial⟩⟩ ⟨beq_nat_eq (by first | rfl | (simp; done) | (simp; omega) | (first | rfl | (simp [List.range_succ]; done))), trivial⟩ (fun x => rfl) (fun k hg2 => ?_)
  refine evc [] [10] ?_
  refine sq (fun h2 h2p h2s => ?_) fun h2 h2p h2s => ?_
  ·try simp only [Q] at h2p
   refine Walk.build st31 (ks := [0, 1]) (xs := [_, _]) rfl rfl .none rfl rfl rfl ?_
   refine Walk.sliceLit sl25 tz31 rfl (by decide) (ks := [0]) (xs := [_]) rfl rfl (by decide) (by decide) .none rfl rfl rfl rfl ?_
   refine Walk.appendV sl25 zz31 .none rfl rfl rfl rfl (htokL rfl (by first | rfl | (simp; done) | (simp; omega))) (by simp) (by simp [List.map_const', List.sum_replicate_nat]; omega) (by simp [List.map_const', List.sum_replicate_nat]; omega) ?_
   refine ev ?_
   refine ar ?_
   refine Exists.intro (k + 1) ⟨?_, ?_, Sub.x (by kernel_rfl) (by kernel_rfl) ⟨⟨_, rfl, (LeA.eqi (by first | rfl | (simp [List.range_succ]; done)))⟩, ⟨⟨_, rfl, (LeA.gvg (by first | rfl | (simp [List.range_succ]; done)))⟩, trivial⟩⟩ (by kernel_rfl) (by kernel_rfl) ⟨beq_nat_eq (by first | rfl | (simp; done) | (simp; omega) | (first | rfl | (simp [List.range_succ]; done))), trivial⟩⟩
   all_goals first | omega | (simp_all; done) | (simp_all; omega)
  ·try simp only [Q] at h2p
   refine ar ?_
   obtain rfl : k = 4 := by omega
   refine Exists.intro (i + 1) ⟨?_, ?_, Sub.x (by kernel_rfl) (by kernel_rfl) ⟨⟨_, rfl, (LeA.eqi (by first | rfl | (simp [List.range_succ]; done)))⟩, ⟨⟨_, rfl, (LeA.gvg (by first | rfl | (simp [List.range_succ]; done)))⟩, trivial⟩⟩ (by kernel_rfl) (by kernel_rfl) ⟨beq_nat_eq (by first | rfl | (simp; done) | (simp; omega) | (first | rfl | (simp [List.range_succ]; done))), trivial⟩⟩
   all_goals first | omega | (simp_all; done) | (simp_all; omega)
 ·try simp only [Q] at h1p
  obtain rfl : i = w.length := (by omega)
  refine CWp.gvGt 3 rfl (flatR_tys _) (by simp) ?_
  refine CWp.fixT hk 3 1 2 rfl rfl rfl (fun hx => absurd hx (by simp)) (fun hx => ?_)
  refine evc [] [] ?_
  refine rn [(1, some (.tree (ownCells true ((allTypesOf w.length).map Ty.c))))] (r1 rfl) (LeA.msn ?_) ⟨rfl, rfl⟩ (SubH.get ⟨(by rfl), trivial⟩) (boxOK rfl)
  all_goals (simp [allTypesOf])
theorem impl_AllTypes_ms {w : List Data} (hs : WSmall w) (hv : worldValid w = true) : FnD Try.prog 7 [.d (encDatas w)] [] (.ms 1 (allTypesOf w.length).length) [(1, some (.tree (ownCells true ((allTypesOf w.length).map Ty.c))))] := by
 refine bd Try.f7 8 [] [] fun w0 F0 own kept hk => ?_
 refine Walk.call (cr := []) cal10 (impl_WorldValid_fn hs) rfl .none rfl rfl (LeL.refl _) trivial rfl rfl rfl ?_
 refine ev ?_
 refine sq (fun h1 h1p h1s => ?_) fun h1 h1p h1s => ?_
 ·try simp only [Q] at h1p
  exfalso; revert h1; simp [hv] --stop
 ·try simp only [Q] at h1p
  refine Walk.call (cr := [1]) cal22 (impl_allTypes_ms hs.len) rfl .none rfl rfl (LeL.refl _) trivial rfl (by first | rfl | (simp only [okCall, List.all_cons, List.all_nil, entOK, entOK', AV.idsL, AV.ids, idsL_append, ownCells_ids, List.map_cons, List.map_nil]; rfl)) (by first | rfl | (simp only [freshB, occH, occE, Res.ids, List.cons_append, List.nil_append, AV.idsL, AV.ids, idsL_append, ownCells_ids, zerosA_idsR, repNil, List.map_cons, List.map_nil, upC]; rfl)) ?_
  refine ev ?_
  refine rn [(1, some (.tree (ownCells true ((allTypesOf w.length).map Ty.c))))] (r1 rfl) (LeA.msn ?_) ⟨rfl, rfl⟩ (SubH.get ⟨(by rfl), trivial⟩) (boxOK rfl)
  all_goals (rfl)
theorem slices_DeleteFunc_Ty_nil {f : Nat} {caps : List AV} {hp : Hp} (hcal : Callee Try.prog f) (k1 : subH hp hp) (k2 : noTok hp = true) (k3 : okCall hp [] (.d .nilp) [] = true) :
  FnD Try.prog 29 [.d (.sl []), .fn f caps] hp (.d (.sl [])) [] := by
 have hz := slices_IndexFunc_Ty_fn (xs := []) (p := fun _ => false) (f := f) (caps := caps) (hp := hp) (by simp) hcal (fun t ht => by simp at ht) k1 k2 k3
 refine bd Try.f29 42 [] [] fun w0 F0 own kept hk => ?_
 refine Walk.call (cr := []) cal51 (hz) rfl .none rfl rfl (LeL.refl _) k1 k2 (okCall_d k3 _) rfl ?_
 refine ev ?_
 refine sq (fun h1 h1p h1s => ?_) fun h1 h1p h1s => ?_
 ·try simp only [Q] at h1p
  refine rn [] (r1 rfl) (.eqd ?_) ⟨rfl, rfl⟩ (fun _ _ h => h) (fun _ h => h)
  all_goals (first | rfl | (simp [h1s, h1p]; done) | (simp_all; done) | (simp_all; omega) | omega)
 ·try simp only [Q] at h1p
  exfalso; simp [idxF] at h1 --stop
end Go.Proofs.Ytflgpdjbgfkhoaa
namespace Go.Proofs.Ytflgpdjbgfkhoaa
open Go
set_option linter.unusedSimpArgs false
set_option linter.unusedVariables false
set_option maxRecDepth 100000
set_option maxHeartbeats 4000000
def InR (l : List Vt) : Prop := ∀ v ∈ l, 0 ≤ v.var ∧ v.var ≤ 5
theorem scanK_none {g : Ty → Pat → Int → Option (List Vt) × Int} {or : Bool} {a : List Ty} {b : List Pat} {i : Nat} {acc : List Vt} {c : Int} (ha : i < a.length) (hl : b.length = a.length) (h : (g (nth a i) (nth b i) c).1.isSome = false) :
  scanK g or (a.drop i) (b.drop i) i acc c = (none, (g (nth a i) (nth b i) c).2) := by
 rw [drop_nth ha, drop_nth (l := b) (by omega), scanK]
 cases hh : (g (nth a i) (nth b i) c).1 with
 | none => rfl
 | some l => rw [hh] at h; cases h
theorem scanK_end {g : Ty → Pat → Int → Option (List Vt) × Int} {or : Bool} {a : List Ty} {b : List Pat} {i : Nat} {acc : List Vt} {c : Int} (ha : a.length ≤ i) : scanK g or (a.drop i) (b.drop i) i acc c = (some acc, c) := by
 rw [List.drop_eq_nil_of_le ha, scanK]
 intro a r b s h; cases h
structure GoodS (w : List Data) (n : Nat) (t : Ty) (p : Pat) (c : Int) (x : Nat × List Vt × Int) : Prop where
 le : x.1 ≤ p.kids.length
 eq : scanK (scanP w n) (decide (p.op = 5)) ((typesP w t p).drop x.1) (p.kids.drop x.1) x.1 x.2.1 x.2.2 = scanK (scanP w n) (decide (p.op = 5)) (typesP w t p) p.kids 0 (nameP t p) (c + 1)
 lc : (x.1 : Int) ≤ x.2.2
 c0 : 0 ≤ x.2.2
 c1 : x.2.2 ≤ 60
 len : x.2.1.length ≤ 1 + 6 * x.1
 inr : InR x.2.1
theorem GoodS.none {w : List Data} {n : Nat} {t : Ty} {p : Pat} {c : Int} {x : Nat × List Vt × Int} (hl : p.kids.length = (typesP w t p).length) (hg : GoodS w n t p c x) (hlt : x.1 < p.kids.length)
  (hz : (scanP w n (nth (typesP w t p) x.1) (nth p.kids x.1) x.2.2).1.isSome = false) :
  finV (scanK (scanP w n) (decide (p.op = 5)) (typesP w t p) p.kids 0 (nameP t p) (c + 1)) = (none, (scanP w n (nth (typesP w t p) x.1) (nth p.kids x.1) x.2.2).2) := by
 rw [← hg.eq, scanK_none (by omega) hl hz]; rfl
theorem GoodS.fin {w : List Data} {n : Nat} {t : Ty} {p : Pat} {c : Int} {x : Nat × List Vt × Int} (hl : p.kids.length = (typesP w t p).length) (hg : GoodS w n t p c x) (hge : p.kids.length ≤ x.1) :
  finV (scanK (scanP w n) (decide (p.op = 5)) (typesP w t p) p.kids 0 (nameP t p) (c + 1)) = (if nodupV x.2.1 = true then some x.2.1 else Option.none, x.2.2) := by
 rw [← hg.eq, scanK_end (by omega)]
 unfold finV
 simp only
 split <;> rfl
end Go.Proofs.Ytflgpdjbgfkhoaa
namespace Go.Proofs.Ytflgpdjbgfkhoaa
open Go
set_option linter.unusedSimpArgs false
set_option linter.unusedVariables false
set_option maxRecDepth 100000
set_option maxHeartbeats 2000000
theorem tyS_ij {i j : Nat} (h : j < 4) : tyS (i * 4 + j) = ⟨(i : Int), (j : Int)⟩ := by
 unfold tyS
 rw [show (i * 4 + j) / 4 = i by omega, show (i * 4 + j) % 4 = j by omega]
end Go.Proofs.Ytflgpdjbgfkhoaa
namespace Go.Proofs.Ytflgpdjbgfkhoaa
open Go
set_option linter.unusedSimpArgs false
set_option linter.unusedVariables false
set_option maxRecDepth 100000
set_option maxHeartbeats 4000000
end Go.Proofs.Ytflgpdjbgfkhoaa
namespace Go.Proofs.Ytflgpdjbgfkhoaa
open Go
set_option linter.unusedSimpArgs false
set_option linter.unusedVariables false
set_option maxRecDepth 100000
set_option maxHeartbeats 2000000
theorem valid_dp {w : List Data} (hs : WSmall w) (hv : worldValid w = true) : Dp w := by
 have hw := valid_wt hs hv
 have hW := (worldValid_iff w).1 hv
 refine ⟨hw, fun s hs c hc u hu => ?_, hW.len, fun s hs => ?_⟩
 ·obtain ⟨j, rfl, hj⟩ := place_of (d := s / 4) (k := ((s % 4 : Nat) : Int)) hc
  have hu' : u ∈ argsOf w ⟨((s / 4 : Nat) : Int), ((s % 4 : Nat) : Int)⟩ (j : Int) := hu
  simp only [argsOf, Int.toNat_natCast, List.mem_map] at hu'
  obtain ⟨x, hx, rfl⟩ := hu'
  have hco := hW.ctor _ (nth_mem (l := w) (i := s / 4) (by omega)) _ (nth_mem hj)
  simp only [ctorOk, Bool.and_eq_true, Bool.not_eq_true', List.any_eq_false] at hco
  have hax : argOk w.length x = true := by
   have := hco.2.2.2 x hx
   cases h : argOk w.length x with
   | true => rfl
   | false => rw [h] at this; exact absurd rfl this
  have hci := hco.2.2.1
  simp only [argOk, within, Bool.or_eq_true, Bool.and_eq_true, decide_eq_true_eq, and_true] at hax hci
  have key : ∀ y : Ty, (y.data = -1 ∨ (0 ≤ y.data ∧ y.data < w.length ∧ 0 ≤ y.index ∧ y.index ≤ 3)) → InS (w.length * 4) y := by
   rintro ⟨a, k⟩ h
   rcases h with h | ⟨h1, h2, h3, h4⟩
   ·exact .inl h
   ·refine .inr ⟨?_, ?_⟩
    ·simp only [slotT] at *; omega
    ·obtain ⟨i, rfl⟩ := Int.eq_ofNat_of_zero_le h1
     obtain ⟨m, rfl⟩ := Int.eq_ofNat_of_zero_le h3
     simp only [slotT, Int.toNat_natCast]
     exact tyS_ij (by simp only at h4; omega)
  refine key _ ?_
  unfold argTy resIx
  split
  ·dsimp only
   rcases hax with h | h
   ·omega
   ·right
    refine ⟨by omega, by omega, ?_⟩
    split <;> omega
  ·rcases hax with h | h
   ·exact .inl h.1
   ·right; omega
 ·have h1 := ctorsFrom_len (tyS s).index (nth w (tyS s).data.toNat).ctors 0
  have h2 := (hW.data _ (nth_mem (l := w) (i := s / 4) (by omega))).2.2
  show (ctorsFrom (tyS s).index 0 (nth w (tyS s).data.toNat).ctors).length ≤ 4
  have e : (tyS s).data.toNat = s / 4 := by simp only [tyS, Int.toNat_natCast]
  rw [e] at h1 ⊢
  omega
theorem ins_tyin {n : Nat} {t : Ty} (h : InS (n * 4) t) : TyIn n t := by
 rcases h with h | ⟨h1, h2⟩
 ·exact .inl h
 ·refine .inr ⟨slotT t / 4, ?_, by omega⟩
  have := congrArg Ty.data h2
  exact this.symm
theorem args_ins {w : List Data} (hd : Dp w) {t : Ty} {c : Int} (ht : InS (w.length * 4) t) (hc : c ∈ vctors w t) : ∀ u ∈ argsOf w t c, InS (w.length * 4) u := by
 rcases ht with h | ⟨h1, h2⟩
 ·unfold vctors at hc; rw [if_pos h] at hc; simp at hc
 ·have hx := hd.cl _ h1
  rw [h2] at hx
  have : c ∈ ctorsOf w t := by
   unfold vctors at hc
   split at hc
   ·simp at hc
   ·exact hc
  exact hx c this
structure PKids (w : List Data) (n : Nat) (a k k' : Int) (p : Pat) : Prop where
 len5 : p.op = 5 → p.kids.length = 2
 len6 : p.op = 6 → p.kids.length = 1
 len4 : p.op = 4 → p.kids.length = (argsOf w ⟨a, k⟩ p.ctor).length
 one : p.op = 5 ∨ p.op = 6 → shapeP w n ⟨a, k'⟩ (nth p.kids 0) = true
 two : p.op = 5 → shapeP w n ⟨a, k'⟩ (nth p.kids 1) = true
 arg : p.op = 4 → ∀ i, i < (argsOf w ⟨a, k⟩ p.ctor).length → shapeP w n ⟨(nth (argsOf w ⟨a, k⟩ p.ctor) i).data, (nth (argsOf w ⟨a, k'⟩ p.ctor) i).index⟩ (nth p.kids i) = true
 mem : p.op = 4 → p.ctor ∈ vctors w ⟨a, k'⟩
 ops : p.op = 1 ∨ p.op = 2 ∨ (p.op = 3 ∧ a = -1) ∨ p.op = 4 ∨ p.op = 5 ∨ p.op = 6
def Few (w : List Data) : Prop := ∀ t c, c ∈ vctors w t → TyIn w.length t → (argsOf w t c).length ≤ 3 ∧ ∀ u ∈ argsOf w t c, TyIn w.length u
theorem nth_pick {l : List Int} {b : Str} {p : Nat} (h : ¬ l.length = 0) : nth l (pickV b p l.length).toNat ∈ l := by
 have := pickV_bd (b := b) (p := p) (n := (l.length : Int)) (by omega)
 exact nth_mem (by omega)
theorem valid_few {w : List Data} (hs : WSmall w) (hv : worldValid w = true) : Few w := by
 have hw := valid_wt hs hv
 have hW := (worldValid_iff w).1 hv
 rintro ⟨a, k⟩ c hc ht
 obtain ⟨d, rfl, h1, j, rfl, h3⟩ := vctors_data ht hc
 refine ⟨?_, fun u hu => argsOf_in hw h1 ⟨j, rfl, h3⟩ hu⟩
 have hco := hW.ctor _ (nth_mem h1) _ (nth_mem h3)
 simp only [ctorOk, Bool.and_eq_true, decide_eq_true_eq] at hco
 simp only [argsOf, Int.toNat_natCast, List.length_map]
 omega
theorem Pat.cs_cc (l : List Pat) : Pat.cs l = l.map Pat.cc := by
 rw [Pat.cs_eq]; exact List.map_congr_left (fun v _ => Pat.c_eq v)
structure PVal (w : List Data) (a k : Int) (p : Pat) : Prop where
 dp : Dp w
 tin : TyIn w.length ⟨a, k⟩
 shape : shapeP w 10 ⟨a, k⟩ p = true
 rng : a ≠ -1 → 0 ≤ a ∧ a.toNat < w.length ∧ 0 ≤ k ∧ k ≤ 3
theorem numV_mem {b : Str} {p : Nat} {l : List Int} (h : 1 ≤ l.length) : numV b p l ∈ l := by
 have := pickV_bd (b := b) (p := p) (n := (l.length : Int)) (by omega)
 exact nth_mem (by omega)
theorem num4 (b : Str) (p : Nat) : 1 ≤ numV b p [3, 2, 4, 1] ∧ numV b p [3, 2, 4, 1] ≤ 4 := by
 have := numV_mem (b := b) (p := p) (l := [3, 2, 4, 1]) (by simp)
 simp only [List.mem_cons, List.not_mem_nil, or_false] at this
 omega
def smB (n : Nat) (w : List Data) : Bool := decide (w.length ≤ n) && w.all fun d => decide (d.name.length ≤ n) && (decide (d.ctors.length ≤ n) && d.ctors.all fun c => decide (c.name.length ≤ n) && decide (c.args.length ≤ n))
structure Sm (n : Nat) (w : List Data) : Prop where
 len : w.length ≤ n
 data : ∀ d ∈ w, d.name.length ≤ n ∧ d.ctors.length ≤ n
 ctor : ∀ d ∈ w, ∀ c ∈ d.ctors, c.name.length ≤ n ∧ c.args.length ≤ n
theorem smB_sm {n : Nat} {w : List Data} (h : smB n w = true) : Sm n w := by
 simp only [smB, Bool.and_eq_true, decide_eq_true_eq, List.all_eq_true] at h
 exact ⟨h.1, fun d hd => ⟨(h.2 d hd).1, (h.2 d hd).2.1⟩, fun d hd c hc => (h.2 d hd).2.2 c hc⟩
theorem Sm.small {n : Nat} {w : List Data} (h : Sm n w) (hn : n ≤ 1000000000000) : WSmall w :=
 ⟨Nat.le_trans h.len hn, fun d hd => ⟨Nat.le_trans (h.data d hd).1 hn, Nat.le_trans (h.data d hd).2 hn⟩, fun d hd c hc => ⟨Nat.le_trans (h.ctor d hd c hc).1 hn, Nat.le_trans (h.ctor d hd c hc).2 hn⟩⟩
theorem of_small {b : Str} {p : Nat} {l : List Str} {n : Nat} (h : ∀ s ∈ l, s.length ≤ n) (hl : 1 ≤ l.length) : (ofV b p l).length ≤ n := by
 have := pickV_bd (b := b) (p := p) (n := (l.length : Int)) (by omega)
 exact h _ (nth_mem (by omega))
theorem Sm.mut {n : Nat} {w : List Data} (h : Sm n w) (b : Str) (p : Nat) : Sm (n + 10) (mutW b p w).1 := by
 have up : Sm (n + 10) w := ⟨by have := h.len; omega, fun d hd => by have := h.data d hd; omega, fun d hd c hc => by have := h.ctor d hd c hc; omega⟩
 unfold mutW
 split
 ·exact up
 rename_i c0 cr hc
 by_cases hi : (pickV b p w.length).toNat < w.length
 ·have hy : nth w (pickV b p w.length).toNat ∈ w := nth_mem hi
  generalize nth w (pickV b p w.length).toNat = y at hc hy ⊢
  have hyc := h.ctor y hy
  have hyd := h.data y hy
  rw [hc] at hyc hyd
  have hy0 := hyc c0 (by simp)
  split
  ·refine ⟨by simp only [List.length_append, List.length_cons, List.length_nil]; have := h.len; omega, fun d hd => ?_, fun d hd c hc' => ?_⟩
   ·rcases List.mem_append.1 hd with h1 | h1
    ·exact up.data d h1
    ·simp only [List.mem_singleton] at h1; subst h1; exact up.data d hy
   ·rcases List.mem_append.1 hd with h1 | h1
    ·exact up.ctor d h1 c hc'
    ·simp only [List.mem_singleton] at h1; subst h1; exact up.ctor d hy c hc'
  ·have hz : ∀ z : Data, z.name.length ≤ n + 10 → z.ctors.length ≤ n + 10 → (∀ c ∈ z.ctors, c.name.length ≤ n + 10 ∧ c.args.length ≤ n + 10) → Sm (n + 10) (w.set (pickV b p w.length).toNat z) := fun z z1 z2 z3 => by
    refine ⟨by rw [List.length_set]; exact up.len, fun d hd => ?_, fun d hd c hc' => ?_⟩
    ·rcases List.mem_or_eq_of_mem_set hd with h1 | rfl
     ·exact up.data d h1
     ·exact ⟨z1, z2⟩
    ·rcases List.mem_or_eq_of_mem_set hd with h1 | rfl
     ·exact up.ctor d h1 c hc'
     ·exact z3 c hc'
   have n1 : (ofV b (p + 2) nmsD).length ≤ 10 := of_small (by decide) (by decide)
   have n2 : (ofV b (p + 2) nmsC).length ≤ 10 := of_small (by decide) (by decide)
   have hl2 : (c0 :: cr).length ≤ n + 10 := by omega
   have hcr : ∀ c ∈ cr, c.name.length ≤ n + 10 ∧ c.args.length ≤ n + 10 := fun c hc => by have := hyc c (by simp [hc]); omega
   have hc0 : c0.name.length ≤ n + 10 ∧ c0.args.length ≤ n + 10 := by omega
   have cons : ∀ c : Ctor, c.name.length ≤ n + 10 ∧ c.args.length ≤ n + 10 → ∀ x ∈ c :: cr, x.name.length ≤ n + 10 ∧ x.args.length ≤ n + 10 := fun c h1 x hx => by
    rcases List.mem_cons.1 hx with rfl | hx
    ·exact h1
    ·exact hcr x hx
   unfold mutY
   repeat' split
   ·exact hz _ (by dsimp only; omega) hl2 (cons _ hc0)
   ·exact hz _ (by dsimp only; omega) (by simp) (by simp)
   ·exact hz _ (by dsimp only; omega) (by simpa using hl2) (cons _ ⟨by dsimp only; omega, hc0.2⟩)
   ·exact hz _ (by dsimp only; omega) (by simpa using hl2) (cons _ ⟨hc0.1, by simp only [List.length_append, List.length_cons, List.length_nil]; omega⟩)
   ·exact hz _ (by dsimp only; omega) (by simpa using hl2) (cons _ ⟨hc0.1, hc0.2⟩)
   ·exact hz _ (by dsimp only; omega) hl2 (cons _ hc0)
 ·have hn : nth w (pickV b p w.length).toNat = default := by simp [nth, List.getD, List.getElem?_eq_none (Nat.le_of_not_lt hi)]
  rw [hn] at hc; cases hc
theorem spec_l1Mutate_fn {b : Str} {p : Nat} {w : List Data} (hb : b.length ≤ 2000) (hp : p ≤ 1000000) (hs : WSmall w) (hne : 1 ≤ w.length) :
  FnD Try.prog 38 [.ref 900 0, .d (encDatas w)] [(900, some (rdB b p))] (.d (encDatas (mutW b p w).1)) [(900, some (rdB b (mutW b p w).2))] := by
 have hv := pickV_bd (b := b) (p := p) (n := (w.length : Int)) (by omega)
 have hlt : (pickV b p w.length).toNat < w.length := by omega
 obtain ⟨pre, y, rest, hw, hpl⟩ : ∃ pre y rest, w = pre ++ y :: rest ∧ pre.length = (pickV b p w.length).toNat :=
  ⟨w.take (pickV b p w.length).toNat, w[(pickV b p w.length).toNat], w.drop ((pickV b p w.length).toNat + 1), by rw [List.getElem_cons_drop, List.take_append_drop], by rw [List.length_take]; omega⟩
 have hd : pickV b p w.length = pre.length := by omega
 subst hw
 obtain ⟨nm, cs⟩ := y
 by_cases h5 : cs = [] ∨ pickV b (p + 1) 30 = 5
 ·have h := spec_l1Mutate_a (b := b) (p := p) hb hp hs hd h5
  have hm : mutW b p (pre ++ ⟨nm, cs⟩ :: rest) = (if cs = [] then pre ++ ⟨nm, cs⟩ :: rest else (pre ++ ⟨nm, cs⟩ :: rest) ++ [⟨nm, cs⟩], if cs = [] then p + 1 else p + 2) := by
   unfold mutW
   rw [hd, Int.toNat_natCast, nth_mid]
   dsimp only
   cases cs with
   | nil => rfl
   | cons c0 cr =>
    have := h5.resolve_left (by simp)
    simp only
    rw [if_pos this, if_neg (by simp), if_neg (by simp)]
  rw [hm]
  exact h
 ·rw [not_or] at h5
  cases cs with
  | nil => exact absurd rfl h5.1
  | cons c0 cr =>
   rw [mutW_mid hd h5.2]
   exact spec_l1Mutate_t hb hp hs hd h5.2
theorem worlds_all : ((List.range 7).all fun i => smB 10 (parseW (nth texts8 i)).1 && (worldValid (parseW (nth texts8 i)).1 && decide (1 ≤ (parseW (nth texts8 i)).1.length))) = true := by kernel_rfl
structure WorldD (w : List Data) : Prop where
 sm : Sm 10 w
 small : WSmall w
 valid : worldValid w = true
 one : 1 ≤ w.length
theorem worldD_ok (b : Str) (p : Nat) : WorldD (worldD b p) := by
 have h := List.all_eq_true.1 worlds_all (pickV b p 7).toNat (List.mem_range.2 (pick7 b p))
 simp only [Bool.and_eq_true, decide_eq_true_eq] at h
 exact ⟨smB_sm h.1, (smB_sm h.1).small (by omega), h.2.1, h.2.2⟩
theorem mutD_small (b : Str) (p q : Nat) : WSmall (mutW b q (worldD b p)).1 := ((worldD_ok b p).sm.mut b q).small (by omega)
theorem laws_ptTypes_same {l : List Ty} (hl : l.length ≤ 1000000000000) : FnD Try.prog 8 [.d (encTys l), .d (encTys l)] [] (.d (.bool true)) [] := by
 refine bd Try.f8 26 [25] [] fun w0 F0 own kept hk => ?_
 refine sq (fun h1 h1p h1s => ?_) fun h1 h1p h1s => ?_
 ·try simp only [Q] at h1p
  exfalso; simp at h1 --stop
 ·try simp only [Q] at h1p
  refine CWp.loopX (ι := List (Ty) × List (Ty)) hk (fun x => [(5, .d (.i (x.1.length : Int)))]) [4, 11, 12, 13, 14, 15, 16, 17, 18, 19, 20, 21, 22, 23, 24, 25] (fun x => []) (fun x => x.1 ++ x.2 = l) (fun x => x.2.length) ([], l) (by simp) ⟨⟨_, rfl, (LeA.eqi (by first | rfl | (simp; done) | (simp_all; done) | omega))⟩, trivial⟩ trivial (fun x => rfl) (fun x hg1 => ?_)
  obtain ⟨pre, rest⟩ := x
  dsimp only at hg1 ⊢
  refine evc [25] [] ?_
  refine sq (fun h2 h2p h2s => ?_) fun h2 h2p h2s => ?_
  ·try simp only [Q] at h2p
   rcases rest with _ | ⟨y, rest⟩
   ·exfalso; simp_all
   refine Walk.idx sl25 .none rfl rfl rfl rfl (zip_at hg1) rfl ?_
   refine evd [25] [] ?_
   refine Walk.idx sl25 .none rfl rfl rfl rfl (zip_at hg1) rfl ?_
   refine evd [25] [] ?_
   refine Walk.neV eq31 .none rfl rfl rfl rfl rfl ?_
   refine dr ?_
   refine sq (fun h3 h3p h3s => ?_) fun h3 h3p h3s => ?_
   ·try simp only [Q] at h3p
    exfalso; simp at h3 --stop
   ·try simp only [Q] at h3p
    refine ar ?_
    refine Exists.intro ((pre ++ [y], rest)) ⟨(by have hz := hg1; rw [← hz]; simp), (by simp), Sub.x (by kernel_rfl) (by kernel_rfl) ⟨⟨_, rfl, (LeA.eqi (by first | rfl | (simp; done) | (simp_all; done) | omega))⟩, trivial⟩ (by kernel_rfl) (by kernel_rfl) trivial⟩
  ·try simp only [Q] at h2p
   have hrest : rest = [] := by
    rcases rest with _ | ⟨a, b⟩
    ·rfl
    ·exfalso; have hz := congrArg List.length (hg1); simp only [List.length_append, List.length_cons, List.length_map] at hz; omega
   subst hrest
   refine rn0 (r1 rfl) (.eqd ?_)
   all_goals (first | rfl | (simp [h1s, h1p, h2s, h2p]; done) | (simp_all; done) | (simp_all; omega) | omega)
theorem allTypesOf_ok {n : Nat} {t : Ty} (h : t ∈ allTypesOf n) : typeOk n t = true := by
 simp only [allTypesOf, List.mem_cons, List.mem_flatMap, List.mem_map, List.mem_range] at h
 rcases h with rfl | ⟨i, hi, k, hk, rfl⟩
 ·rfl
 ·simp only [typeOk, within, Bool.or_eq_true, Bool.and_eq_true, decide_eq_true_eq]
  right; omega
theorem spec_l1Most_fn {w : List Data} (hw : WT w) {n : Nat} {f : Nat → Nat} {a k c : Int} (ht : TyIn w.length ⟨a, k⟩) (hc : c ∈ vctors w ⟨a, k⟩) (hn : n ≤ 100) (hb : ∀ s, f s ≤ 100000) (hin : ∀ u ∈ argsOf w ⟨a, k⟩ c, InS n u) :
  FnD Try.prog 88 [.d (encDatas w), .d (encTab n f), .agg [.d (.i a), .d (.i k)], .d (.i c)] [] (.d (.i (most w f ⟨a, k⟩ c))) [] := by
 have hl := argsOf_small hw ht hc
 have hd := dv_bd hb (by omega)
 refine bd Try.f88 37 [] [] fun w0 F0 own kept hk => ?_
 refine Walk.box (id := 3006) .none rfl rfl rfl rfl rfl rfl rfl ?_
 refine ev ?_
 refine Walk.call (cr := []) cal77 (spec_l1Args_v hw ht hc) rfl .none rfl rfl (LeL.refl _) trivial rfl rfl rfl ?_
 refine ev ?_
 refine CWp.loopX (ι := List (Ty) × List (Ty) × (Nat)) hk (fun x => [(11, .d (.i (x.1.length : Int))), (10, .d (.i (x.2.2 : Int)))]) [8, 12, 17, 18, 19, 20, 21, 22, 23, 24, 25, 26, 27, 28, 29, 30, 31, 32, 33, 34] (fun x => []) (fun x => x.1 ++ x.2.1 = argsOf w ⟨a, k⟩ c ∧ x.2.2 ≤ 100000 ∧ mostL f x.2.2 x.2.1 = mostL f 0 (argsOf w ⟨a, k⟩ c)) (fun x => x.2.1.length) ([], argsOf w ⟨a, k⟩ c, 0) ⟨by simp, by simp, rfl⟩ ⟨⟨_, rfl, (LeA.eqi (by first | rfl | (simp; done) | omega | (dsimp only; omega)))⟩, ⟨⟨_, rfl, (LeA.eqi (by first | rfl | (simp; done) | omega | (dsimp only; omega)))⟩, trivial⟩⟩ trivial (fun x => rfl) (fun x hg1 => ?_)
 obtain ⟨pre, rest, m⟩ := x
 dsimp only at hg1 ⊢
 refine evc [] [] ?_
 refine sq (fun h1 h1p h1s => ?_) fun h1 h1p h1s => ?_
 ·try simp only [Q] at h1p
  rcases rest with _ | ⟨y, rest⟩
  ·exfalso; simp_all
  have hdy := hd y; have hye : dv f ⟨y.data, y.index⟩ = dv f y := rfl
  refine Walk.idx sl25 .none rfl rfl rfl rfl (zip_at hg1.1) rfl ?_
  refine ev ?_
  refine Walk.call (cr := []) cal70 (spec_l1Depth_fn (f := f) (a := y.data) (k := y.index) (hin y (by rw [← hg1.1]; simp)) hn) rfl .none rfl rfl (LeL.refl _) trivial rfl rfl rfl ?_
  refine ev ?_
  refine sq (fun h2 h2p h2s => ?_) fun h2 h2p h2s => ?_
  ·try simp only [Q] at h2p
   refine rn0 (r1 rfl) (.eqd ?_)
   all_goals (refine congrArg D.i ?_; unfold most; rw [← hg1.2.2]; first | (simp only [mostL]; rw [if_pos (by omega)]; rfl) | (simp only [mostL]; omega))
  ·try simp only [Q] at h2p
   refine sq (fun h3 h3p h3s => ?_) fun h3 h3p h3s => ?_
   ·try simp only [Q] at h3p
    refine ar ?_
    refine Exists.intro ((pre ++ [y], rest, max m (dv f y))) ⟨⟨(by have hz := hg1.1; rw [← hz]; simp), ⟨(by have := hd y; dsimp only; omega), (by rw [← hg1.2.2]; simp only [mostL]; rw [if_neg (by have := hd y; omega)])⟩⟩, (by simp), Sub.x (by kernel_rfl) (by kernel_rfl) ⟨⟨_, rfl, (LeA.eqi (by first | rfl | (simp; done) | omega | (dsimp only; omega)))⟩, ⟨⟨_, rfl, (LeA.eqi (by first | rfl | (simp; done) | omega | (dsimp only; omega)))⟩, trivial⟩⟩ (by kernel_rfl) (by kernel_rfl) trivial⟩
   ·try simp only [Q] at h3p
    refine ar ?_
    refine Exists.intro ((pre ++ [y], rest, max m (dv f y))) ⟨⟨(by have hz := hg1.1; rw [← hz]; simp), ⟨(by have := hd y; dsimp only; omega), (by rw [← hg1.2.2]; simp only [mostL]; rw [if_neg (by have := hd y; omega)])⟩⟩, (by simp), Sub.x (by kernel_rfl) (by kernel_rfl) ⟨⟨_, rfl, (LeA.eqi (by first | rfl | (simp; done) | omega | (dsimp only; omega)))⟩, ⟨⟨_, rfl, (LeA.eqi (by first | rfl | (simp; done) | omega | (dsimp only; omega)))⟩, trivial⟩⟩ (by kernel_rfl) (by kernel_rfl) trivial⟩
 ·try simp only [Q] at h1p
  have hrest : rest = [] := by
   rcases rest with _ | ⟨a, b⟩
   ·rfl
   ·exfalso; have hz := congrArg List.length (hg1.1); simp only [List.length_append, List.length_cons, List.length_map] at hz; omega
  subst hrest
  refine ar ?_
  refine rn0 (r1 rfl) (.eqd ?_)
  all_goals (refine congrArg D.i ?_; unfold most; rw [← hg1.2.2]; first | (simp only [mostL]; rw [if_pos (by omega)]; rfl) | (simp only [mostL]; omega))
def hdB (w : List Data) : Nat → Ty → Bool
 | 0, _ => false
 | d + 1, t => decide (t.data = -1) || (ctorsOf w t).any fun c => decide (t.data ≠ -1) && (argsOf w t c).all (hdB w d)
theorem hdB_iff (w : List Data) : ∀ (d : Nat) (t : Ty), hdB w d t = true ↔ Hd w d t
 | 0, t => by simp [hdB, Hd]
 | d + 1, t => by
  simp only [hdB, Hd, Bool.or_eq_true, decide_eq_true_eq, List.any_eq_true, Bool.and_eq_true, List.all_eq_true, hdB_iff w d]
def Low (w : List Data) : Prop := ∀ s, depthT w s ≤ 3
theorem low_of {w : List Data} (hd : Dp w) (h : (List.range (w.length * 4)).all (fun s => !hdB w 4 (tyS s) || hdB w 3 (tyS s)) = true) : Low w := by
 intro s
 by_cases hs : s < w.length * 4
 ·obtain ⟨h1, h2⟩ := iter_all hd.cl (w.length * 4 + 1)
  by_cases h0 : depthT w s = 0
  ·omega
  ·have hh := h1 s hs (Nat.pos_of_ne_zero h0)
   have h3 := hd_stable hd.cl (d := 3) (by omega) (fun s hs hh => by
    have := List.all_eq_true.1 h s (List.mem_range.2 hs)
    rw [(hdB_iff w 4 (tyS s)).2 hh] at this
    exact (hdB_iff w 3 _).1 (by simpa using this)) _ s hs hh
   by_cases h4 : 3 ≤ w.length * 4 + 1
   ·exact (h2 s hs 3 h4 h3).2
   ·omega
 ·have h0 := iter_out (w := w) (i := s) (by omega) (w.length * 4 + 1)
  show iterT w (w.length * 4 + 1) s ≤ 3
  omega
theorem worlds_low : ((List.range 7).all fun i => (List.range ((parseW (nth texts8 i)).1.length * 4)).all fun s => !hdB (parseW (nth texts8 i)).1 4 (tyS s) || hdB (parseW (nth texts8 i)).1 3 (tyS s)) = true := by kernel_rfl
structure WorldL (w : List Data) : Prop where
 dp : Dp w
 low : Low w
 few : Few w
theorem worldD_low (b : Str) (p : Nat) : WorldL (worldD b p) := by
 have ho := worldD_ok b p
 have hd := valid_dp ho.small ho.valid
 exact ⟨hd, low_of hd (List.all_eq_true.1 worlds_low (pickV b p 7).toNat (List.mem_range.2 (pick7 b p))), valid_few ho.small ho.valid⟩
theorem most_hits {w : List Data} (hd : Dp w) {t : Ty} (ht : InS (w.length * 4) t) (hne : ¬ t.data = -1) (h : 0 < dv (depthT w) t) : ∃ c ∈ vctors w t, 0 < most w (depthT w) t c ∧ most w (depthT w) t c = dv (depthT w) t := by
 obtain ⟨h1, h2⟩ : Snd w (depthT w) ∧ Cmp w (w.length * 4 + 1) (depthT w) := iter_all hd.cl (w.length * 4 + 1)
 have hcmp : ∀ k, Cmp w k (depthT w) := fun k => by
  have h3 := (iter_all hd.cl (max k (w.length * 4 + 1))).2
  rw [iter_eq hd.cl (Nat.le_max_right _ _)] at h3
  exact fun s hs d hdk hh => h3 s hs d (by omega) hh
 have hv : vctors w t = ctorsOf w t := by unfold vctors; rw [if_neg hne]
 have hh : Hd w (dv (depthT w) t) t := dv_hd h1 ht h
 rcases hd0 : dv (depthT w) t with _ | e
 ·omega
 rw [hd0] at hh
 rcases hh with hh | ⟨c, hc, _, hu⟩
 ·exact absurd hh hne
 have hin := args_ins hd ht (c := c) (by rw [hv]; exact hc)
 have hp := mostL_pos (f := depthT w) (l := argsOf w t c) (m := 0) (k := e) (Nat.zero_le _) (fun u hu' => dv_cmp (hcmp e) (hin u hu') (hu u hu'))
 refine ⟨c, by rw [hv]; exact hc, hp.1, ?_⟩
 have hle : most w (depthT w) t c ≤ e + 1 := hp.2
 have hpos : 0 < most w (depthT w) t c := hp.1
 -- not less deep than the type
 have hsn := mostL_snd (f := depthT w) (l := argsOf w t c) (m := 0) hp.1
 have hH : Hd w (most w (depthT w) t c) t := by
  obtain ⟨q, hq⟩ : ∃ q, most w (depthT w) t c = q + 1 := ⟨most w (depthT w) t c - 1, by omega⟩
  rw [hq]
  refine .inr ⟨c, hc, hne, fun u hu' => ?_⟩
  have hx := hsn.2 u hu'
  have hlt : dv (depthT w) u < most w (depthT w) t c := hx.2
  exact Hd_le (by omega) (dv_hd h1 (hin u hu') hx.1)
 have hge := (dv_cmp (hcmp _) ht hH).2
 omega
def fineB (w : List Data) (f : Nat → Nat) (t : Ty) (m c : Int) : Bool := decide (0 < most w f t c) && decide ((most w f t c : Int) ≤ m ∨ most w f t c = dv f t)
def fineL (w : List Data) (f : Nat → Nat) (t : Ty) (m : Int) : List Int := (vctors w t).filter (fineB w f t m)
theorem fine_yes {P : Int → Bool} {pre : List Int} {y : Int} (h : P y = true) : ((pre ++ [y]).filter P).map (fun n => [D.i n]) = (pre.filter P).map (fun n => [D.i n]) ++ [[D.i y]] := by simp [List.filter_append, h]
theorem fine_no {P : Int → Bool} {pre : List Int} {y : Int} (h : P y = false) : ((pre ++ [y]).filter P).map (fun n => [D.i n]) = (pre.filter P).map (fun n => [D.i n]) := by simp [List.filter_append, h]
def dV (f : Ty → Nat → Val × Nat) : List Ty → Nat → List Val × Nat
 | [], q => ([], q)
 | t :: r, q => ((f t q).1 :: (dV f r (f t q).2).1, (dV f r (f t q).2).2)
def drawV (b : Str) (w : List Data) (f : Nat → Nat) : Nat → Ty → Int → Nat → Val × Nat
 | 0, _, _, p => (.mk 0 0 [], p)
 | n + 1, t, m, p =>
  if t.data = -1 then (.mk (-1) (pickV b p 10) [], p + 1)
  else (.mk (nth (fineL w f t m) (pickV b p (fineL w f t m).length).toNat) 0 (dV (fun u q => drawV b w f n u (m - 1) q) (argsOf w t (nth (fineL w f t m) (pickV b p (fineL w f t m).length).toNat)) (p + 1)).1,
   (dV (fun u q => drawV b w f n u (m - 1) q) (argsOf w t (nth (fineL w f t m) (pickV b p (fineL w f t m).length).toNat)) (p + 1)).2)
abbrev dW (b : Str) (w : List Data) (n : Nat) (m : Int) : Ty → Nat → Val × Nat := fun u x => drawV b w (depthT w) n u (m - 1) x
def bdV : Nat → Nat
 | 0 => 0
 | d + 1 => 1 + 3 * bdV d
def szV : Nat → Nat
 | 0 => 1
 | d + 1 => 1 + 3 * szV d
theorem dV_bd {f : Ty → Nat → Val × Nat} {k : Nat} : ∀ (l : List Ty) (q : Nat), (∀ t ∈ l, ∀ q, (f t q).2 ≤ q + k) → (dV f l q).2 ≤ q + l.length * k
 | [], q, _ => by simp [dV]
 | t :: r, q, h => by
  have h1 := h t (by simp) q
  have h2 := dV_bd r (f t q).2 (fun x hx => h x (by simp [hx]))
  simp only [dV, List.length_cons, Nat.add_mul]; omega
theorem dV_len {f : Ty → Nat → Val × Nat} : ∀ (l : List Ty) (q : Nat), (dV f l q).1.length = l.length
 | [], q => rfl
 | t :: r, q => by simp only [dV, List.length_cons, dV_len r]
theorem dV_sz {f : Ty → Nat → Val × Nat} {k : Nat} : ∀ (l : List Ty) (q : Nat), (∀ t ∈ l, ∀ q, (f t q).1.size ≤ k ∧ (f t q).1.ok) → Vals.size (dV f l q).1 ≤ l.length * k ∧ Vals.ok (dV f l q).1
 | [], q, _ => by simp [dV, Vals.size, Vals.ok]
 | t :: r, q, h => by
  have h1 := h t (by simp) q
  have h2 := dV_sz r (f t q).2 (fun x hx => h x (by simp [hx]))
  simp only [dV, List.length_cons, Nat.add_mul, Vals.size, Vals.ok]
  exact ⟨by omega, h1.2, h2.2⟩
theorem fineL_mem {w : List Data} {f : Nat → Nat} {t : Ty} {m c : Int} (h : c ∈ fineL w f t m) : c ∈ vctors w t ∧ 0 < most w f t c ∧ ((most w f t c : Int) ≤ m ∨ most w f t c = dv f t) := by
 have := List.mem_filter.1 h
 simpa [fineB] using this
structure Deep (w : List Data) (n : Nat) (t : Ty) (m : Int) : Prop where
 ins : InS (w.length * 4) t
 pos : 0 < dv (depthT w) t
 le : dv (depthT w) t ≤ n
 ml : m ≤ n
theorem fine_pos {w : List Data} (hd : Dp w) {n : Nat} {t : Ty} {m : Int} (h : Deep w n t m) (hne : ¬ t.data = -1) : 1 ≤ (fineL w (depthT w) t m).length := by
 obtain ⟨c, hc, h1, h2⟩ := most_hits hd h.ins hne h.pos
 exact List.length_pos_of_mem (a := c) (List.mem_filter.2 ⟨hc, by have := h.pos; simp [fineB, h2, this]⟩)
theorem deep_kid {w : List Data} (hd : Dp w) {n : Nat} {t : Ty} {m c : Int} (h : Deep w (n + 1) t m) (hc : c ∈ fineL w (depthT w) t m) : ∀ u ∈ argsOf w t c, Deep w n u (m - 1) := by
 intro u hu
 obtain ⟨h1, h2, h3⟩ := fineL_mem hc
 have hin := args_ins hd h.ins h1 u hu
 have hs := (mostL_snd (f := depthT w) (l := argsOf w t c) (m := 0) h2).2 u hu
 have hlt : dv (depthT w) u < most w (depthT w) t c := hs.2
 have := h.le; have := h.ml
 exact ⟨hin, hs.1, by rcases h3 with h3 | h3 <;> omega, by omega⟩
theorem pick_fine {w : List Data} (hd : Dp w) {n : Nat} {t : Ty} {m : Int} (h : Deep w n t m) (hne : ¬ t.data = -1) (b : Str) (p : Nat) : nth (fineL w (depthT w) t m) (pickV b p (fineL w (depthT w) t m).length).toNat ∈ fineL w (depthT w) t m :=
 nth_pick (by have := fine_pos hd h hne; omega)
theorem drawV_ok {b : Str} {w : List Data} (hd : Dp w) (hf : Few w) : ∀ (n : Nat) (t : Ty) (m : Int) (p : Nat), Deep w n t m → (drawV b w (depthT w) n t m p).2 ≤ p + bdV n ∧ (drawV b w (depthT w) n t m p).1.size ≤ szV n ∧ (drawV b w (depthT w) n t m p).1.ok
 | 0, t, m, p, h => by have := h.pos; have := h.le; omega
 | n + 1, t, m, p, h => by
  simp only [drawV, bdV, szV]
  split
  ·refine ⟨by dsimp only; omega, ?_, ?_⟩
   ·simp only [Val.size, Vals.size]; omega
   ·simp [Val.ok, Vals.ok]
  ·rename_i hne
   have hm := pick_fine hd h hne b p
   generalize nth (fineL w (depthT w) t m) (pickV b p (fineL w (depthT w) t m).length).toNat = c at *
   have hk := deep_kid hd h hm
   have h3 := (hf t c (fineL_mem hm).1 (ins_tyin h.ins)).1
   have h1 := dV_bd (f := fun u q => drawV b w (depthT w) n u (m - 1) q) (k := bdV n) (argsOf w t c) (p + 1) (fun u hu q => (drawV_ok hd hf n u (m - 1) q (hk u hu)).1)
   have h2 := dV_sz (f := fun u q => drawV b w (depthT w) n u (m - 1) q) (k := szV n) (argsOf w t c) (p + 1) (fun u hu q => (drawV_ok hd hf n u (m - 1) q (hk u hu)).2)
   have h4 : (argsOf w t c).length * bdV n ≤ 3 * bdV n := Nat.mul_le_mul_right _ h3
   have h5 : (argsOf w t c).length * szV n ≤ 3 * szV n := Nat.mul_le_mul_right _ h3
   have h6 := dV_len (f := fun u q => drawV b w (depthT w) n u (m - 1) q) (argsOf w t c) (p + 1)
   refine ⟨by dsimp only; omega, ?_, ?_⟩
   ·simp only [Val.size]; omega
   ·simp only [Val.ok]; exact ⟨by omega, h2.2⟩
section
variable {b : Str} {w : List Data} {f : Nat → Nat} {n p : Nat} {t : Ty} {m : Int}
theorem drawV_1 (h : t.data = -1) : drawV b w f (n + 1) t m p = (.mk (-1) (pickV b p 10) [], p + 1) := by simp only [drawV]; rw [if_pos h]
theorem drawV_2 (h : ¬ t.data = -1) {c : Int} (hc : nth (fineL w f t m) (pickV b p (fineL w f t m).length).toNat = c) : drawV b w f (n + 1) t m p =
  (.mk c 0 (dV (fun u q => drawV b w f n u (m - 1) q) (argsOf w t c) (p + 1)).1, (dV (fun u q => drawV b w f n u (m - 1) q) (argsOf w t c) (p + 1)).2) := by
 simp only [drawV]; rw [if_neg h, hc]
end
theorem put0 {l : List (List D)} {x : List D} {r : List (List D)} {v : List AV} (h : l = x :: r) (hx : x.length = v.length) : putC (l.flatten.map .d) 0 v = some (v ++ r.flatten.map .d) := by
 subst h
 rw [List.flatten_cons, List.map_append]
 have key : ∀ (a b : List AV), a.length = b.length → ∀ (c : List AV), putC (a ++ c) 0 b = some (b ++ c) := by
  intro a
  induction a with
  | nil => intro b h c; cases b with
   | nil => cases c <;> rfl
   | cons => simp at h
  | cons y a ih => intro b h c; cases b with
   | nil => simp at h
   | cons z b =>
    have := ih b (by simpa using h) c
    simp only [List.cons_append, putC, this]
 exact key _ _ (by simpa using hx) _
theorem chunk0 {k : Nat} {v : List AV} {vd : List D} {r : List (List D)} (hv : toDL v = some vd) (hk : v.length = k) (hr : ∀ x ∈ r, x.length = k) : chunkD (r.length + 1) k (v ++ r.flatten.map .d) = some (vd :: r) := by
 have h1 : cutC (v ++ r.flatten.map .d) 0 k = some v := cutC_zero hk
 have h2 : (v ++ r.flatten.map AV.d).drop k = r.flatten.map .d := by rw [← hk]; simp
 have h3 := chunkD_flat (f := fun x : List D => x) (k := k) (l := r) hr
 have h4 : (r.flatMap fun x => x.map AV.d) = r.flatten.map .d := by rw [List.map_flatten]; rfl
 rw [h4, List.map_id'] at h3
 simp only [chunkD, h1, hv, h2, h3]
theorem Pat.cs_app (a b : List Pat) : Pat.cs (a ++ b) = Pat.cs a ++ Pat.cs b := by
 rw [Pat.cs_cc, Pat.cs_cc, Pat.cs_cc, List.map_append]
end Go.Proofs.Ytflgpdjbgfkhoaa
namespace Go.Proofs.Ytflgpdjbgfkhoaa
open Go
set_option linter.unusedSimpArgs false
set_option linter.unusedVariables false
end Go.Proofs.Ytflgpdjbgfkhoaa
namespace Go.Proofs.Ytflgpdjbgfkhoaa
open Go
set_option linter.unusedSimpArgs false
set_option linter.unusedVariables false
set_option maxRecDepth 100000
set_option maxHeartbeats 2000000
theorem Val.cs_cc (l : List Val) : Val.cs l = l.map Val.cc := by
 rw [Val.cs_eq]; exact List.map_congr_left (fun v _ => Val.c_eq v)
theorem spec_l2Draw_fn {b : Str} {w : List Data} (hb : b.length ≤ 2000) (hd : Dp w) (hf : Few w) : ∀ (n : Nat) {a k m : Int} {p : Nat}, Deep w n ⟨a, k⟩ m → (n : Int) - 10 ≤ m → n ≤ 5 → p + bdV n ≤ 1000000 →
  FnD Try.prog 71 [.ref 900 0, .d (encDatas w), .d (encTab (w.length * 4) (depthT w)), .agg [.d (.i a), .d (.i k)], .d (.i m)] [(900, some (rdB b p))]
   (.agg [.d (.i (drawV b w (depthT w) n ⟨a, k⟩ m p).1.ctor), .d (.i (drawV b w (depthT w) n ⟨a, k⟩ m p).1.num), .d (encVals (drawV b w (depthT w) n ⟨a, k⟩ m p).1.kids)]) [(900, some (rdB b (drawV b w (depthT w) n ⟨a, k⟩ m p).2))]
 | 0, a, k, m, p, h, _, _, _ => by have := h.pos; have := h.le; omega
 | n + 1, a, k, m, p, h, hm, hn5, hp => by
  have ht := ins_tyin h.ins
  have hml := h.ml
  have h4 := hd.four
  have hbd : bdV (n + 1) = 1 + 3 * bdV n := rfl
  have hfb : ∀ s, depthT w s ≤ 100000 := rowT_bd hd (k := w.length * 4 + 1) (s := 0) (by omega) (by omega) (pre := []) (by simp)
  have hcl := vctors_len hd.wt ht
  have hfl : (fineL w (depthT w) ⟨a, k⟩ m).length ≤ (vctors w ⟨a, k⟩).length := List.length_filter_le _ _
  have hflm : ((((vctors w ⟨a, k⟩).filter (fineB w (depthT w) ⟨a, k⟩ m)).map fun n => [D.i n]).length : Int) = (fineL w (depthT w) ⟨a, k⟩ m).length := by rw [List.length_map]; rfl
  have hfp := fun hne => fine_pos hd h hne
  have v14 := fun hh => pickV_bd (b := b) (p := p) (n := ((fineL w (depthT w) ⟨a, k⟩ m).length : Int)) hh
  have hmem := fun hne => pick_fine hd h hne b p
  have hdm := drawV_1 (b := b) (w := w) (f := depthT w) (n := n) (p := p) (t := ⟨a, k⟩) (m := m)
  have hdm2 := fun hne => drawV_2 (b := b) (w := w) (f := depthT w) (n := n) (p := p) (t := ⟨a, k⟩) (m := m) hne rfl
  generalize hcc : nth (fineL w (depthT w) ⟨a, k⟩ m) (pickV b p (fineL w (depthT w) ⟨a, k⟩ m).length).toNat = cc at *
  have hfm := fun hne => fineL_mem (hmem hne)
  have hkid := fun hne => deep_kid hd h (hmem hne)
  have hfw := fun hne => (hf ⟨a, k⟩ cc (hfm hne).1 ht).1
  have hok := fun u q hu => drawV_ok (b := b) hd hf n u (m - 1) q hu
  have hat : ¬ a = -1 → (((vctors w ⟨a, k⟩).filter (fineB w (depthT w) ⟨a, k⟩ m)).map fun n => [D.i n])[(pickV b p (fineL w (depthT w) ⟨a, k⟩ m).length).toNat]? = some [D.i cc] := fun hne => by
   rw [← hcc]; exact at_nth (l := fineL w (depthT w) ⟨a, k⟩ m) (by have := v14 (by have := hfp hne; omega); omega)
  refine bd Try.f71 98 [] [9, 11] fun w0 F0 own kept hk => ?_
  refine Walk.box (id := 3008) .none rfl rfl rfl rfl rfl rfl rfl ?_
  refine Walk.alloc (id := 3010) tz35 rfl .none rfl rfl rfl rfl ?_
  refine tv ?_
  refine sq (fun h1 h1p h1s => ?_) fun h1 h1p h1s => ?_
  ·try simp only [Q] at h1p
   refine Walk.call (cr := []) cal48 (spec_pick_fn (p := p) (n := 10) hb (by omega) (by omega)) rfl .none rfl rfl (LeL.refl _) ⟨rfl, trivial⟩ rfl rfl rfl ?_
   refine Walk.build st35 (ks := [0, 1]) (xs := [_, _]) rfl rfl .none rfl rfl rfl ?_
   refine Walk.store ty35 .none rfl rfl rfl rfl rfl rfl (by simp) rfl ?_
   refine tv ?_
   refine rn [(900, some (rdB b (drawV b w (depthT w) (n + 1) ⟨a, k⟩ m p).2))] (.cons (.cellA ty35 rfl rfl rfl) .nil) (.agg (.cons (.eqd ?_) (.cons (.eqd ?_) (.cons (.nild ?_) .nil)))) ⟨rfl, rfl⟩ (SubO.get ⟨.inr (by first | (rw [hdm (by omega)]; all_goals rfl) | (rw [hdm2 (by omega)]; have hfin := hg2.2.2.2; simp only [dV, List.append_nil] at hfin; rw [← hfin]; all_goals rfl)), ⟨.inl rfl, trivial⟩⟩) (boxOK rfl)
   all_goals (first | (rw [hdm (by omega)]; all_goals rfl) | (rw [hdm2 (by omega)]; have hfin := hg2.2.2.2; simp only [dV, List.append_nil] at hfin; rw [← hfin]; all_goals first | rfl | (show _ = D.sl (Val.cs _); rw [Val.cs_cc]; all_goals rfl) | (show _ = Val.cs _; rw [Val.cs_cc]; all_goals rfl)))
  ·try simp only [Q] at h1p
   refine Walk.call (cr := []) cal76 (spec_l1Ctors_v hd.wt ht) rfl .none rfl rfl (LeL.refl _) trivial rfl rfl rfl ?_
   refine ev ?_
   refine Walk.sliceEmptyG 5 sl93 .none rfl rfl ?_
   refine ev ?_
   refine CWp.loopX (ι := List (Int) × List (Int)) hk (fun x => [(13, .d (.i (x.1.length : Int))), (12, .gl 5 ((x.1.filter (fineB w (depthT w) ⟨a, k⟩ m)).map fun n => [D.i n]))]) [14, 28, 29, 30, 31, 32, 33, 34, 35, 36, 37, 38, 39, 40, 41, 42, 43, 44, 45, 46, 47, 48, 49, 50, 51, 52, 53, 54, 55, 56, 57, 58, 59, 60, 61, 62] (fun x => [(5, some (.tok (((x.1.filter (fineB w (depthT w) ⟨a, k⟩ m)).map fun n => [D.i n])).length 1))]) (fun x => x.1 ++ x.2 = vctors w ⟨a, k⟩) (fun x => x.2.length) ([], vctors w ⟨a, k⟩) (by simp) ⟨⟨_, rfl, (LeA.eqi (by first | rfl | (simp; done) | omega | (rw [fine_yes (by assumption)]; all_goals rfl) | (rw [fine_no (by assumption)]; all_goals rfl) | (rw [fine_yes (by assumption)]; simp; done)))⟩, ⟨⟨_, rfl, (LeA.glg (by first | rfl | (simp; done) | omega | (rw [fine_yes (by assumption)]; all_goals rfl) | (rw [fine_no (by assumption)]; all_goals rfl) | (rw [fine_yes (by assumption)]; simp; done)))⟩, trivial⟩⟩ ⟨beq_nat_eq (by first | rfl | (simp; done) | (simp; omega) | (first | rfl | (simp; done) | omega | (rw [fine_yes (by assumption)]; all_goals rfl) | (rw [fine_no (by assumption)]; all_goals rfl) | (rw [fine_yes (by assumption)]; simp; done))), trivial⟩ (fun x => rfl) (fun x hg1 => ?_)
   obtain ⟨pre, rest⟩ := x
   dsimp only at hg1 ⊢
   refine evc [] [9, 11] ?_
   refine sq (fun h2 h2p h2s => ?_) fun h2 h2p h2s => ?_
   ·try simp only [Q] at h2p
    rcases rest with _ | ⟨y, rest⟩
    ·exfalso; simp_all
    refine Walk.idx sl93 .none rfl rfl rfl rfl (zip_at hg1) rfl ?_
    refine evd [] [] ?_
    refine Walk.call (cr := []) cal88 (spec_l1Most_fn hd.wt ht (c := y) (by rw [← hg1]; simp) (by omega) hfb (args_ins hd h.ins (by rw [← hg1]; simp))) rfl .none rfl rfl (LeL.refl _) trivial rfl rfl rfl ?_
    refine evd [] [] ?_
    refine dr ?_
    refine CWp.regionJ ?_
    refine WRest.join 14 [(55, .d (.bool (fineB w (depthT w) ⟨a, k⟩ m y)))] [42, 43, 44, 45, 46, 47, 48, 49, 50, 51, 52, 53, 54] ?_ ?_
    ·
     refine ev ?_
     refine sq (fun h3 h3p h3s => ?_) fun h3 h3p h3s => ?_
     ·try simp only [Q] at h3p
      refine sq (fun h4 h4p h4s => ?_) fun h4 h4p h4s => ?_
      ·try simp only [Q] at h4p
       exact jn rfl (LeA.eqb (by first | rfl | (unfold fineB; rw [Bool.eq_iff_iff]; simp_all; done) | (unfold fineB; rw [Bool.eq_iff_iff]; simp_all; omega)))
      ·try simp only [Q] at h4p
       refine Walk.call (cr := []) cal70 (spec_l1Depth_fn h.ins (by omega)) rfl (.some rfl rfl h4) rfl rfl (LeL.refl _) trivial rfl rfl rfl ?_
       refine evs [] [(44, true), (48, false)] ?_ ⟨⟨_, rfl, h3⟩, ⟨_, rfl, h4⟩, trivial⟩
       exact jn rfl (LeA.eqb (by first | rfl | (unfold fineB; rw [Bool.eq_iff_iff]; simp_all; done) | (unfold fineB; rw [Bool.eq_iff_iff]; simp_all; omega)))
     ·try simp only [Q] at h3p
      exact jn rfl (LeA.eqb (by first | rfl | (unfold fineB; rw [Bool.eq_iff_iff]; simp_all; done) | (unfold fineB; rw [Bool.eq_iff_iff]; simp_all; omega)))
    refine WRest.done ?_
    refine tv ?_
    refine sq (fun h5 h5p h5s => ?_) fun h5 h5p h5s => ?_
    ·try simp only [Q] at h5p
     refine Walk.idx sl93 .none rfl rfl rfl rfl (zip_at hg1) rfl ?_
     refine ev ?_
     refine Walk.sliceLit sl93 tz3 rfl (by decide) (ks := [0]) (xs := [_]) rfl rfl (by decide) (by decide) .none rfl rfl rfl rfl ?_
     refine Walk.append sl93 zz3 rfl .none rfl rfl rfl rfl (htokL rfl (by first | rfl | (simp; done) | (simp; omega))) (by simp) (by first | (have hz := congrArg List.length hg2.1; have := hfw (by omega); simp at hz ⊢; omega) | (have hz := congrArg List.length hg1; have hq := List.length_filter_le (fineB w (depthT w) ⟨a, k⟩ m) pre; simp at hz ⊢; omega)) (by first | (have hz := congrArg List.length hg2.1; have := hfw (by omega); simp at hz ⊢; omega) | (have hz := congrArg List.length hg1; have hq := List.length_filter_le (fineB w (depthT w) ⟨a, k⟩ m) pre; simp at hz ⊢; omega)) ?_
     refine ev ?_
     refine ar ?_
     refine Exists.intro ((pre ++ [y], rest)) ⟨(by have hz := hg1; rw [← hz]; simp), (by simp), Sub.x (by kernel_rfl) (by kernel_rfl) ⟨⟨_, rfl, (LeA.eqi (by first | rfl | (simp; done) | omega | (rw [fine_yes (by assumption)]; all_goals rfl) | (rw [fine_no (by assumption)]; all_goals rfl) | (rw [fine_yes (by assumption)]; simp; done)))⟩, ⟨⟨_, rfl, (LeA.glg (by first | rfl | (simp; done) | omega | (rw [fine_yes (by assumption)]; all_goals rfl) | (rw [fine_no (by assumption)]; all_goals rfl) | (rw [fine_yes (by assumption)]; simp; done)))⟩, trivial⟩⟩ (by kernel_rfl) (by kernel_rfl) ⟨beq_nat_eq (by first | rfl | (simp; done) | (simp; omega) | (first | rfl | (simp; done) | omega | (rw [fine_yes (by assumption)]; all_goals rfl) | (rw [fine_no (by assumption)]; all_goals rfl) | (rw [fine_yes (by assumption)]; simp; done))), trivial⟩⟩
    ·try simp only [Q] at h5p
     refine ar ?_
     refine Exists.intro ((pre ++ [y], rest)) ⟨(by have hz := hg1; rw [← hz]; simp), (by simp), Sub.x (by kernel_rfl) (by kernel_rfl) ⟨⟨_, rfl, (LeA.eqi (by first | rfl | (simp; done) | omega | (rw [fine_yes (by assumption)]; all_goals rfl) | (rw [fine_no (by assumption)]; all_goals rfl) | (rw [fine_yes (by assumption)]; simp; done)))⟩, ⟨⟨_, rfl, (LeA.glg (by first | rfl | (simp; done) | omega | (rw [fine_yes (by assumption)]; all_goals rfl) | (rw [fine_no (by assumption)]; all_goals rfl) | (rw [fine_yes (by assumption)]; simp; done)))⟩, trivial⟩⟩ (by kernel_rfl) (by kernel_rfl) ⟨beq_nat_eq (by first | rfl | (simp; done) | (simp; omega) | (first | rfl | (simp; done) | omega | (rw [fine_yes (by assumption)]; all_goals rfl) | (rw [fine_no (by assumption)]; all_goals rfl) | (rw [fine_yes (by assumption)]; simp; done))), trivial⟩⟩
   ·try simp only [Q] at h2p
    have hrest : rest = [] := by
     rcases rest with _ | ⟨a, b⟩
     ·rfl
     ·exfalso; have hz := congrArg List.length (hg1); simp only [List.length_append, List.length_cons, List.length_map] at hz; omega
    subst hrest
    rw [List.append_nil] at hg1; subst hg1
    refine evc [] [] ?_
    refine Walk.call (cr := []) cal48 (spec_pick_fn (p := p) (n := ((((vctors w ⟨a, k⟩).filter (fineB w (depthT w) ⟨a, k⟩ m)).map fun n => [D.i n]).length : Int)) hb (by omega) (by omega)) rfl .none rfl rfl (LeL.refl _) ⟨rfl, trivial⟩ rfl rfl rfl ?_
    refine Walk.idxG (i := (pickV b p (fineL w (depthT w) ⟨a, k⟩ m).length).toNat) sl93 .none rfl rfl rfl (by rw [hflm]; have := v14 (by have := hfp (by omega); omega); omega) (hat (by omega)) rfl ?_
    refine ev ?_
    refine Walk.build st35 (ks := [0]) (xs := [_]) rfl rfl .none rfl rfl rfl ?_
    refine Walk.alloc (id := 3015) tz35 rfl .none rfl rfl rfl rfl ?_
    refine Walk.store ty35 .none rfl rfl rfl rfl rfl rfl (by simp) rfl ?_
    refine tv ?_
    refine Walk.call (cr := []) cal77 (spec_l1Args_v hd.wt ht (hfm (by omega)).1) rfl .none rfl rfl (LeL.refl _) trivial rfl rfl rfl ?_
    refine ev ?_
    refine CWp.tokB 3015 2 1 3 rfl rfl rfl rfl ?_
    refine CWp.loopX (ι := List (Ty) × List (Ty) × (Nat) × (List Val)) hk (fun x => [(17, .d (.i (x.1.length : Int)))]) [76, 77, 78, 79, 80, 81, 82, 83, 84, 85, 86, 87, 88, 89, 90, 91, 92, 93, 94, 95, 96] (fun x => [(900, some (.box [.d (encBytes b), .d (.i (x.2.2.1 : Int))])), (3015, some (.box [.d (.i cc), .d (.i 0), .gl 1 (x.2.2.2.map Val.cc)])), (1, some (.tok (x.2.2.2.map Val.cc).length 3))]) (fun x => x.1 ++ x.2.1 = argsOf w ⟨a, k⟩ cc ∧ x.2.2.1 ≤ p + 1 + x.1.length * bdV n ∧ x.2.2.2.length = x.1.length ∧ (x.2.2.2 ++ (dV (dW b w n m) x.2.1 x.2.2.1).1, (dV (dW b w n m) x.2.1 x.2.2.1).2) = dV (dW b w n m) (argsOf w ⟨a, k⟩ cc) (p + 1)) (fun x => x.2.1.length) ([], argsOf w ⟨a, k⟩ cc, p + 1, []) ⟨by simp, by simp, by simp, by simp⟩ ⟨⟨_, rfl, (LeA.eqi (by first | rfl | (simp; done) | omega))⟩, trivial⟩ ⟨(by first | rfl | (simp [getH]; done)), ⟨(by first | rfl | (simp [getH]; done)), ⟨beq_nat_eq (by first | rfl | (simp; done) | (simp; omega) | (first | rfl | (simp; done) | omega)), trivial⟩⟩⟩ (fun x => rfl) (fun x hg2 => ?_)
    obtain ⟨pre, rest, q, ks⟩ := x
    dsimp only at hg2 ⊢
    refine evc [] [9, 11] ?_
    refine sq (fun h6 h6p h6s => ?_) fun h6 h6p h6s => ?_
    ·try simp only [Q] at h6p
     rcases rest with _ | ⟨y, rest⟩
     ·exfalso; simp_all
     have hfw3 := hfw (by omega); have hpm : pre.length * bdV n ≤ 2 * bdV n := Nat.mul_le_mul_right _ (by have hz := congrArg List.length hg2.1; have := hfw (by omega); simp at hz; omega)
     refine Walk.idx sl25 .none rfl rfl rfl rfl (zip_at hg2.1) rfl ?_
     refine evd [] [] ?_
     refine ar ?_
     refine Walk.call (cr := []) cal71 (spec_l2Draw_fn hb hd hf n (a := y.data) (k := y.index) (m := m - 1) (p := q) (hkid (by omega) y (by rw [← hg2.1]; simp)) (by omega) (by omega) (by omega)) rfl .none rfl rfl (LeL.refl _) ⟨rfl, trivial⟩ rfl rfl rfl ?_
     refine Walk.sliceLit sl33 tz35 rfl (by decide) (ks := [0]) (xs := [_]) rfl rfl (by decide) (by decide) .none rfl rfl rfl rfl ?_
     refine Walk.append sl33 zz35 rfl .none rfl rfl rfl rfl (htokL rfl (by first | rfl | (simp; done) | (simp; omega))) (by simp) (by first | (have hz := congrArg List.length hg2.1; have := hfw (by omega); simp at hz ⊢; omega) | (have hz := congrArg List.length hg1; have hq := List.length_filter_le (fineB w (depthT w) ⟨a, k⟩ m) pre; simp at hz ⊢; omega)) (by first | (have hz := congrArg List.length hg2.1; have := hfw (by omega); simp at hz ⊢; omega) | (have hz := congrArg List.length hg1; have hq := List.length_filter_le (fineB w (depthT w) ⟨a, k⟩ m) pre; simp at hz ⊢; omega)) ?_
     refine evd [] [] ?_
     refine Walk.store ty33 .none rfl rfl rfl rfl rfl rfl (by simp) rfl ?_
     refine dr ?_
     refine ar ?_
     refine Exists.intro ((pre ++ [y], rest, (drawV b w (depthT w) n y (m - 1) q).2, ks ++ [(drawV b w (depthT w) n y (m - 1) q).1])) ⟨⟨(by have hz := hg2.1; rw [← hz]; simp), ⟨(by have := (hok y q (hkid (by omega) y (by rw [← hg2.1]; simp))).1; simp only [List.length_append, List.length_cons, List.length_nil, Nat.add_mul]; omega), (by simp [hg2.2.2.1]), (by rw [← hg2.2.2.2]; simp [dV])⟩⟩, (by simp), Sub.x (by kernel_rfl) (by kernel_rfl) ⟨⟨_, rfl, (LeA.eqi (by first | rfl | (simp; done) | omega))⟩, trivial⟩ (by kernel_rfl) (by kernel_rfl) ⟨(by first | rfl | (simp [getH]; done)), ⟨(by first | rfl | (simp [getH]; done)), ⟨beq_nat_eq (by first | rfl | (simp; done) | (simp; omega) | (first | rfl | (simp; done) | omega)), trivial⟩⟩⟩⟩
    ·try simp only [Q] at h6p
     have hrest : rest = [] := by
      rcases rest with _ | ⟨a, b⟩
      ·rfl
      ·exfalso; have hz := congrArg List.length (hg2.1); simp only [List.length_append, List.length_cons, List.length_map] at hz; omega
     subst hrest
     refine Walk.store ty35 .none rfl rfl rfl rfl rfl rfl (by simp) rfl ?_
     refine tv ?_
     refine rn [(900, some (rdB b (drawV b w (depthT w) (n + 1) ⟨a, k⟩ m p).2))] (.cons (.cellA ty35 rfl rfl rfl) .nil) (.agg (.cons (.eqd ?_) (.cons (.eqd ?_) (.cons (.gld ?_) .nil)))) ⟨rfl, rfl⟩ (SubO.get ⟨.inr (by first | (rw [hdm (by omega)]; all_goals rfl) | (rw [hdm2 (by omega)]; have hfin := hg2.2.2.2; simp only [dV, List.append_nil] at hfin; rw [← hfin]; all_goals rfl)), ⟨.inl rfl, trivial⟩⟩) (boxOK rfl)
     all_goals (first | (rw [hdm (by omega)]; all_goals rfl) | (rw [hdm2 (by omega)]; have hfin := hg2.2.2.2; simp only [dV, List.append_nil] at hfin; rw [← hfin]; all_goals first | rfl | (show _ = D.sl (Val.cs _); rw [Val.cs_cc]; all_goals rfl) | (show _ = Val.cs _; rw [Val.cs_cc]; all_goals rfl)))
end Go.Proofs.Ytflgpdjbgfkhoaa
namespace Go.Proofs.Ytflgpdjbgfkhoaa
open Go
set_option linter.unusedSimpArgs false
set_option linter.unusedVariables false
set_option maxRecDepth 1000000
def indT (m S r h : Nat) : Nat := bif (Nat.beq (Nat.mod (Nat.add (Nat.xor S r) h) 3) 0 && (Nat.beq m 3 || Nat.beq (Nat.mod (Nat.xor S r) 2) 0)) then 1 else 0
def ind (m S q : Nat) : Nat := indT m S (q % 64) ((q ^^^ (q / 64)) % 3)
def cnt (m S e : Nat) : Nat → Nat → Nat
 | 0, _ => 0
 | n + 1, q => ind m S q + cnt m S e n (q + e)
theorem cnt_snoc (m S e : Nat) : ∀ n q, cnt m S e (n + 1) q = cnt m S e n q + ind m S (q + n * e)
 | 0, q => by simp only [cnt, Nat.zero_mul, Nat.add_zero, Nat.zero_add]
 | n + 1, q => by
  have := cnt_snoc m S e n (q + e)
  simp only [cnt] at this ⊢
  have h : q + e + n * e = q + (n + 1) * e := by rw [Nat.add_mul]; omega
  rw [h] at this
  omega
theorem ind_le (m S q : Nat) : ind m S q ≤ 1 := by unfold ind indT; cases (Nat.beq _ _ && _) <;> simp
theorem cnt_le (m S e : Nat) : ∀ n q, cnt m S e n q ≤ n
 | 0, _ => Nat.le_refl _
 | n + 1, q => by have := cnt_le m S e n (q + e); have := ind_le m S q; simp only [cnt]; omega
noncomputable def lan (f : Nat → Nat) (s n : Nat) : Nat := Nat.rec (motive := fun _ => Nat → Nat) (fun _ => 0) (fun _ ih s => Nat.add (f s) (Nat.mul 65536 (ih (Nat.succ s)))) n s
theorem lan_add (f g : Nat → Nat) : ∀ n s, lan (fun S => f S + g S) s n = lan f s n + lan g s n
 | 0, s => rfl
 | n + 1, s => by
  show f s + g s + 65536 * lan (fun S => f S + g S) (s + 1) n = f s + 65536 * lan f (s + 1) n + (g s + 65536 * lan g (s + 1) n)
  rw [lan_add f g n (s + 1)]; omega
theorem lan_and {f : Nat → Nat} (h : ∀ s, f s < 65536) : ∀ n s, lan f s n &&& lan (fun _ => 32768) s n = 0 → ∀ S, s ≤ S → S < s + n → f S < 32768
 | 0, s, _, S, h1, h2 => by omega
 | n + 1, s, hz, S, h1, h2 => by
  have hz' : (f s + 65536 * lan f (s + 1) n) &&& (32768 + 65536 * lan (fun _ => 32768) (s + 1) n) = 0 := hz
  have hf := h s
  by_cases hS : S = s
  ·subst hS
   have e := congrArg (fun x => x % 2 ^ 16 / 2 ^ 15) hz'
   simp only [Nat.and_mod_two_pow, Nat.and_div_two_pow] at e
   rw [show (f S + 65536 * lan f (S + 1) n) % 2 ^ 16 = f S by omega, show (32768 + 65536 * lan (fun _ => 32768) (S + 1) n) % 2 ^ 16 = 32768 by omega] at e
   rcases Nat.lt_or_ge (f S) 32768 with hlt | hge
   ·exact hlt
   ·rw [show f S / 2 ^ 15 = 1 by omega] at e
    exact absurd e (by decide)
  ·have e := congrArg (fun x => x / 2 ^ 16) hz'
   simp only [Nat.and_div_two_pow] at e
   rw [show (f s + 65536 * lan f (s + 1) n) / 2 ^ 16 = lan f (s + 1) n by omega, show (32768 + 65536 * lan (fun _ => 32768) (s + 1) n) / 2 ^ 16 = lan (fun _ => 32768) (s + 1) n by omega] at e
   exact lan_and h n (s + 1) (by rw [e]) S (by omega) (by omega)
noncomputable def laneT (m r h : Nat) : Nat := lan (fun S => indT m S r h) 0 64
noncomputable def tre (f : Nat → Nat) (d x base : Nat) : Nat := Nat.rec (motive := fun _ => Nat → Nat) (fun base => f base) (fun d ih base => Bool.rec (ih base) (ih (Nat.add base (Nat.pow 2 d))) (Nat.beq (Nat.mod (Nat.div x (Nat.pow 2 d)) 2) 1)) d base
theorem tre_ok (f : Nat → Nat) (x : Nat) : ∀ d base, tre f d x base = f (base + x % 2 ^ d)
 | 0, base => by show f base = _; rw [Nat.pow_zero, Nat.mod_one, Nat.add_zero]
 | d + 1, base => by
  have h2 : x / 2 ^ d % 2 < 2 := Nat.mod_lt _ (by omega)
  show (Bool.rec (tre f d x base) (tre f d x (base + 2 ^ d)) (Nat.beq (x / 2 ^ d % 2) 1) : Nat) = _
  rw [Nat.mod_pow_succ, tre_ok f x d, tre_ok f x d]
  rcases (show x / 2 ^ d % 2 = 0 ∨ x / 2 ^ d % 2 = 1 by omega) with h | h
  ·rw [h]; show f (base + x % 2 ^ d) = _; rw [Nat.mul_zero, Nat.add_zero]
  ·rw [h]; show f (base + 2 ^ d + x % 2 ^ d) = _; rw [Nat.mul_one, show base + 2 ^ d + x % 2 ^ d = base + (x % 2 ^ d + 2 ^ d) by omega]
noncomputable def lkH (m q h : Nat) : Nat := bif Nat.beq h 0 then tre (fun b => laneT m b 0) 6 q 0 else bif Nat.beq h 1 then tre (fun b => laneT m b 1) 6 q 0 else tre (fun b => laneT m b 2) 6 q 0
noncomputable def lkq (m q : Nat) : Nat := lkH m q (Nat.mod (Nat.xor q (Nat.div q 64)) 3)
theorem lkq_ok (m q : Nat) : lkq m q = lan (fun S => ind m S q) 0 64 := by
 show lkH m q ((q ^^^ (q / 64)) % 3) = laneT m (q % 64) ((q ^^^ (q / 64)) % 3)
 have h2 : (q ^^^ (q / 64)) % 3 < 3 := Nat.mod_lt _ (by omega)
 generalize (q ^^^ (q / 64)) % 3 = h at *
 rcases (show h = 0 ∨ h = 1 ∨ h = 2 by omega) with rfl | rfl | rfl
 ·show tre (fun b => laneT m b 0) 6 q 0 = _; rw [tre_ok, Nat.zero_add]
 ·show tre (fun b => laneT m b 1) 6 q 0 = _; rw [tre_ok, Nat.zero_add]
 ·show tre (fun b => laneT m b 2) 6 q 0 = _; rw [tre_ok, Nat.zero_add]
noncomputable def cwL (t e n q acc : Nat) : Nat := Nat.rec (motive := fun _ => Nat → Nat → Nat) (fun _ acc => acc) (fun _ ih q acc => ih (Nat.add q e) (Nat.add acc (lkq t q))) n q acc
noncomputable def slide (t e w K M k q acc : Nat) : Bool := Nat.rec (motive := fun _ => Nat → Nat → Bool) (fun _ acc => Nat.beq (Nat.land (Nat.add acc K) M) 0) (fun _ ih q acc => Bool.rec false (ih (Nat.add q e) (Nat.sub (Nat.add acc (lkq t (Nat.add q w))) (lkq t q))) (Nat.beq (Nat.land (Nat.add acc K) M) 0)) k q acc
theorem slide_succ (t e w K M k q acc : Nat) : slide t e w K M (k + 1) q acc = (Nat.beq (Nat.land (Nat.add acc K) M) 0 && slide t e w K M k (Nat.add q e) (Nat.sub (Nat.add acc (lkq t (Nat.add q w))) (lkq t q))) := by
 show (Bool.rec false (slide t e w K M k (Nat.add q e) (Nat.sub (Nat.add acc (lkq t (Nat.add q w))) (lkq t q))) (Nat.beq (Nat.land (Nat.add acc K) M) 0) : Bool) = _
 cases Nat.beq (Nat.land (Nat.add acc K) M) 0 <;> rfl
noncomputable def chains (t e n K M k r : Nat) : Bool := Nat.rec (motive := fun _ => Bool) true (fun q ih => Bool.rec false ih (slide t e (Nat.mul n e) K M k q (cwL t e n q 0))) r
theorem chains_succ (t e n K M k q : Nat) : chains t e n K M k (q + 1) = (slide t e (Nat.mul n e) K M k q (cwL t e n q 0) && chains t e n K M k q) := by
 show (Bool.rec false (chains t e n K M k q) (slide t e (Nat.mul n e) K M k q (cwL t e n q 0)) : Bool) = _
 cases slide t e (Nat.mul n e) K M k q (cwL t e n q 0) <;> rfl
theorem cwL_ok (m e : Nat) : ∀ n q acc, cwL m e n q acc = acc + lan (fun S => cnt m S e n q) 0 64
 | 0, q, acc => by
  have : ∀ n s, lan (fun S => cnt m S e 0 q) s n = 0 := by
   intro n
   induction n with
   | zero => intro s; rfl
   | succ n ih => intro s; show 0 + 65536 * lan (fun S => cnt m S e 0 q) (s + 1) n = 0; rw [ih]
  rw [this]; rfl
 | n + 1, q, acc => by
  show cwL m e n (q + e) (acc + lkq m q) = _
  rw [cwL_ok m e n (q + e), lkq_ok]
  have := lan_add (fun S => ind m S q) (fun S => cnt m S e n (q + e)) 64 0
  show _ = acc + lan (fun S => ind m S q + cnt m S e n (q + e)) 0 64
  omega
theorem chk_ok {m e n c q : Nat} (hc : c ≤ 32767) (hn : n ≤ 32768) (h : Nat.beq (Nat.land (Nat.add (lan (fun S => cnt m S e n q) 0 64) (lan (fun _ => 32767 - c) 0 64)) (lan (fun _ => 32768) 0 64)) 0 = true) : ∀ S, S < 64 → cnt m S e n q ≤ c := by
 intro S hS
 have h1 := Nat.eq_of_beq_eq_true h
 have h2 : lan (fun S => cnt m S e n q + (32767 - c)) 0 64 &&& lan (fun _ => 32768) 0 64 = 0 := by rw [lan_add]; exact h1
 have := lan_and (fun s => by have := cnt_le m s e n q; omega) 64 0 h2 S (by omega) (by omega)
 have h3 : cnt m S e n q + (32767 - c) < 32768 := this
 omega
theorem slide_ok {m e n c : Nat} (hc : c ≤ 32767) (hn : n ≤ 32768) : ∀ k q, slide m e (n * e) (lan (fun _ => 32767 - c) 0 64) (lan (fun _ => 32768) 0 64) k q (lan (fun S => cnt m S e n q) 0 64) = true → ∀ i, i ≤ k → ∀ S, S < 64 → cnt m S e n (q + i * e) ≤ c
 | 0, q, h, i, hi => by
  obtain rfl : i = 0 := by omega
  rw [Nat.zero_mul, Nat.add_zero]
  exact chk_ok hc hn h
 | k + 1, q, h, i, hi => by
  rw [slide_succ, Bool.and_eq_true] at h
  cases i with
  | zero => rw [Nat.zero_mul, Nat.add_zero]; exact chk_ok hc hn h.1
  | succ i =>
   have e1 : Nat.sub (Nat.add (lan (fun S => cnt m S e n q) 0 64) (lkq m (Nat.add q (n * e)))) (lkq m q) = lan (fun S => cnt m S e n (q + e)) 0 64 := by
    show lan (fun S => cnt m S e n q) 0 64 + lkq m (q + n * e) - lkq m q = _
    rw [lkq_ok, lkq_ok, ← lan_add]
    have h1 : (fun S => cnt m S e n q + ind m S (q + n * e)) = fun S => ind m S q + cnt m S e n (q + e) := by
     funext S; rw [← cnt_snoc]; rfl
    rw [h1, lan_add]; omega
   have h3 := h.2
   rw [e1] at h3
   rw [show q + (i + 1) * e = q + e + i * e by rw [Nat.add_mul]; omega]
   exact slide_ok hc hn k (q + e) h3 i (by omega)
theorem chains_ok {m e n c k : Nat} (he : 0 < e) (hc : c ≤ 32767) (hn : n ≤ 32768) (h : chains m e n (lan (fun _ => 32767 - c) 0 64) (lan (fun _ => 32768) 0 64) k e = true) {S q : Nat} (hS : S < 64) (hq : q < e * (k + 1)) : cnt m S e n q ≤ c := by
 have key : ∀ r, chains m e n (lan (fun _ => 32767 - c) 0 64) (lan (fun _ => 32768) 0 64) k r = true → ∀ q, q < r → ∀ i, i ≤ k → ∀ S, S < 64 → cnt m S e n (q + i * e) ≤ c := by
  intro r
  induction r with
  | zero => intro _ q hq; omega
  | succ r ih =>
   intro h q hq i hi
   rw [chains_succ, Bool.and_eq_true] at h
   by_cases hr : q = r
   ·subst hr
    have h1 := h.1
    rw [cwL_ok, Nat.zero_add] at h1
    exact slide_ok hc hn k q h1 i hi
   ·exact ih h.2 q (by omega) i hi
 have hd : q / e < k + 1 := Nat.div_lt_of_lt_mul hq
 have := key e h (q % e) (Nat.mod_lt _ he) (q / e) (by omega) S hS
 rwa [Nat.mul_comm (q / e) e, Nat.mod_add_div] at this
noncomputable def Mk : Nat := lan (fun _ => 32768) 0 64
noncomputable def K7 : Nat := lan (fun _ => 32767 - 80) 0 64
theorem ck7 : chains 6 1 192 K7 Mk 3200 1 = true := by kernel_rfl
theorem win7 {S q : Nat} (hS : S < 64) (hq : q < 3201) : cnt 6 S 1 192 q ≤ 80 := chains_ok (m := 6) (e := 1) (n := 192) (c := 80) (k := 3200) (by omega) (by omega) (by omega) ck7 hS hq
noncomputable def K263 : Nat := lan (fun _ => 32767 - 94) 0 64
theorem ck263 : chains 3 15 192 K263 Mk 107 15 = true := by kernel_rfl
theorem win263 {S q : Nat} (hS : S < 64) (hq : q < 1620) : cnt 3 S 15 192 q ≤ 94 := chains_ok (m := 3) (e := 15) (n := 192) (c := 94) (k := 107) (by omega) (by omega) (by omega) ck263 hS hq
noncomputable def K519 : Nat := lan (fun _ => 32767 - 13) 0 64
theorem ck519 : chains 6 59 32 K519 Mk 55 59 = true := by kernel_rfl
theorem win519 {S q : Nat} (hS : S < 64) (hq : q < 3304) : cnt 6 S 59 32 q ≤ 13 := chains_ok (m := 6) (e := 59) (n := 32) (c := 13) (k := 55) (by omega) (by omega) (by omega) ck519 hS hq
noncomputable def K775 : Nat := lan (fun _ => 32767 - 63) 0 64
theorem ck775 : chains 3 44 128 K775 Mk 37 44 = true := by kernel_rfl
theorem win775 {S q : Nat} (hS : S < 64) (hq : q < 1672) : cnt 3 S 44 128 q ≤ 63 := chains_ok (m := 3) (e := 44) (n := 128) (c := 63) (k := 37) (by omega) (by omega) (by omega) ck775 hS hq
noncomputable def K1031 : Nat := lan (fun _ => 32767 - 13) 0 64
theorem ck1031 : chains 6 117 32 K1031 Mk 28 117 = true := by kernel_rfl
theorem win1031 {S q : Nat} (hS : S < 64) (hq : q < 3393) : cnt 6 S 117 32 q ≤ 13 := chains_ok (m := 6) (e := 117) (n := 32) (c := 13) (k := 28) (by omega) (by omega) (by omega) ck1031 hS hq
noncomputable def K1287 : Nat := lan (fun _ => 32767 - 126) 0 64
theorem ck1287 : chains 3 73 256 K1287 Mk 22 73 = true := by kernel_rfl
theorem win1287 {S q : Nat} (hS : S < 64) (hq : q < 1679) : cnt 3 S 73 256 q ≤ 126 := chains_ok (m := 3) (e := 73) (n := 256) (c := 126) (k := 22) (by omega) (by omega) (by omega) ck1287 hS hq
noncomputable def K1543 : Nat := lan (fun _ => 32767 - 14) 0 64
theorem ck1543 : chains 6 175 32 K1543 Mk 19 175 = true := by kernel_rfl
theorem win1543 {S q : Nat} (hS : S < 64) (hq : q < 3500) : cnt 6 S 175 32 q ≤ 14 := chains_ok (m := 6) (e := 175) (n := 32) (c := 14) (k := 19) (by omega) (by omega) (by omega) ck1543 hS hq
noncomputable def K1799 : Nat := lan (fun _ => 32767 - 120) 0 64
theorem ck1799 : chains 3 102 256 K1799 Mk 16 102 = true := by kernel_rfl
theorem win1799 {S q : Nat} (hS : S < 64) (hq : q < 1734) : cnt 3 S 102 256 q ≤ 120 := chains_ok (m := 3) (e := 102) (n := 256) (c := 120) (k := 16) (by omega) (by omega) (by omega) ck1799 hS hq
end Go.Proofs.Ytflgpdjbgfkhoaa
namespace Go.Proofs.Ytflgpdjbgfkhoaa
open Go
set_option linter.unusedSimpArgs false
set_option linter.unusedVariables false
set_option maxRecDepth 100000
def uv (x : Int) : Int := if x = 3 then 1 else if x = 0 ∨ x = 1 then 0 else -1
def sU (u : Nat → Int) : Nat → Nat → Int
 | _, 0 => 0
 | p, n + 1 => u p + sU u (p + 1) n
theorem sU_add (u : Nat → Int) : ∀ m n p, sU u p (m + n) = sU u p m + sU u (p + m) n
 | 0, n, p => by simp [sU]
 | m + 1, n, p => by
  rw [show m + 1 + n = (m + n) + 1 by omega]
  simp only [sU]
  rw [sU_add u m n (p + 1), show p + 1 + m = p + (m + 1) by omega]; omega
theorem uv_bd (x : Int) : -1 ≤ uv x ∧ uv x ≤ 1 := by unfold uv; split <;> (try split) <;> omega
theorem sU_le {u : Nat → Int} (h : ∀ k, u k ≤ 1) : ∀ n p, sU u p n ≤ n
 | 0, p => by simp [sU]
 | n + 1, p => by have := sU_le h n (p + 1); have := h p; simp only [sU]; omega
def fN (y : Nat) : Nat := (y ^^^ (y / 64)) % 24
def uN (y : Nat) : Int := uv (fN y : Int)
def wS (D : Nat) : Nat → Nat → Int
 | 0, _ => 0
 | n + 1, y => uN y + wS D n (y + D)
theorem wS_add (D : Nat) : ∀ m n y, wS D (m + n) y = wS D m y + wS D n (y + m * D)
 | 0, n, y => by simp [wS]
 | m + 1, n, y => by
  rw [show m + 1 + n = (m + n) + 1 by omega]
  simp only [wS]
  rw [wS_add D m n (y + D), show y + D + m * D = y + (m + 1) * D by rw [Nat.add_mul]; omega]; omega
def g8 (r : Nat) : Nat := (r % 8) ^^^ (r / 64 % 8)
theorem fN_mod (y : Nat) : fN y % 8 = g8 (y % 512) := by
 unfold fN g8
 rw [Nat.mod_mod_of_dvd _ (by decide), show (8 : Nat) = 2 ^ 3 from rfl, Nat.xor_mod_two_pow]
 congr 1
 ·omega
 ·omega
def um (r : Nat) : Int := if r = 3 then 1 else if r = 0 ∨ r = 1 then 0 else -1
theorem uN_le (y : Nat) : uN y ≤ um (g8 (y % 512)) := by
 rw [← fN_mod]
 have h : fN y < 24 := Nat.mod_lt _ (by omega)
 unfold uN
 generalize fN y = x at *
 have key : ∀ x : Nat, x < 24 → uv (x : Int) ≤ um (x % 8) := by decide
 exact key x h
def quadB : Bool := (List.range 512).all fun r => [128, 384].all fun E => decide (um (g8 r) + um (g8 ((r + E) % 512)) + um (g8 ((r + 2 * E) % 512)) + um (g8 ((r + 3 * E) % 512)) ≤ -1)
theorem quadB_ok : quadB = true := by kernel_rfl
theorem quad {E : Nat} (hE : E % 512 = 128 ∨ E % 512 = 384) (y : Nat) : uN y + uN (y + E) + uN (y + 2 * E) + uN (y + 3 * E) ≤ -1 := by
 have h := List.all_eq_true.1 quadB_ok (y % 512) (List.mem_range.2 (Nat.mod_lt _ (by omega)))
 have h2 := List.all_eq_true.1 h (E % 512) (by rcases hE with e | e <;> rw [e] <;> simp)
 have h3 := of_decide_eq_true h2
 have a0 := uN_le y
 have a1 := uN_le (y + E)
 have a2 := uN_le (y + 2 * E)
 have a3 := uN_le (y + 3 * E)
 rw [show (y + E) % 512 = (y % 512 + E % 512) % 512 by omega] at a1
 rw [show (y + 2 * E) % 512 = (y % 512 + 2 * (E % 512)) % 512 by omega] at a2
 rw [show (y + 3 * E) % 512 = (y % 512 + 3 * (E % 512)) % 512 by omega] at a3
 omega
theorem quads {D E : Nat} (hE : E % 512 = 128 ∨ E % 512 = 384) : ∀ n y, wS D n y + wS D n (y + E) + wS D n (y + 2 * E) + wS D n (y + 3 * E) ≤ -n
 | 0, y => by simp [wS]
 | n + 1, y => by
  have h1 := quad hE y
  have h2 := quads (D := D) hE n (y + D)
  simp only [wS]
  rw [show y + E + D = y + D + E by omega, show y + 2 * E + D = y + D + 2 * E by omega, show y + 3 * E + D = y + D + 3 * E by omega]
  omega
theorem four {D h : Nat} (hE : h * D % 512 = 128 ∨ h * D % 512 = 384) (y : Nat) : wS D (h + (h + (h + h))) y ≤ -h := by
 have := quads (D := D) hE h y
 rw [wS_add, wS_add, wS_add, show y + h * D + h * D = y + 2 * (h * D) by omega, show y + 2 * (h * D) + h * D = y + 3 * (h * D) by omega]
 omega
theorem x_low {S q : Nat} (hS : S < 64) : ((S + 64 * q) ^^^ q) % 64 = S ^^^ (q % 64) ∧ ((S + 64 * q) ^^^ q) / 64 = q ^^^ (q / 64) := by
 have e : (64 : Nat) = 2 ^ 6 := rfl
 constructor
 ·have := Nat.xor_mod_two_pow (a := S + 64 * q) (b := q) (n := 6)
  rw [← e] at this
  rw [this]; congr 1; omega
 ·have := Nat.xor_div_two_pow (a := S + 64 * q) (b := q) (n := 6)
  rw [← e] at this
  rw [this]; congr 1; omega
theorem ind3 {S q : Nat} (hS : S < 64) (h : ind 3 S q = 0) : ((S + 64 * q) ^^^ q) % 3 ≠ 0 := by
 obtain ⟨h1, h2⟩ := x_low (q := q) hS
 intro h0
 unfold ind indT at h
 have e : Nat.beq (Nat.mod (Nat.add (Nat.xor S (q % 64)) ((q ^^^ q / 64) % 3)) 3) 0 = true := by
  have : ((S ^^^ (q % 64)) + (q ^^^ (q / 64)) % 3) % 3 = 0 := by rw [← h1, ← h2]; omega
  rw [show Nat.mod (Nat.add (Nat.xor S (q % 64)) ((q ^^^ q / 64) % 3)) 3 = ((S ^^^ (q % 64)) + (q ^^^ (q / 64)) % 3) % 3 from rfl, this]; rfl
 rw [e] at h
 have h3 : (1 : Nat) = 0 := h
 omega
theorem ind6 {S q : Nat} (hS : S < 64) (h : ind 6 S q = 0) : ((S + 64 * q) ^^^ q) % 6 ≠ 0 := by
 obtain ⟨h1, h2⟩ := x_low (q := q) hS
 intro h0
 unfold ind indT at h
 have e : Nat.beq (Nat.mod (Nat.add (Nat.xor S (q % 64)) ((q ^^^ q / 64) % 3)) 3) 0 = true := by
  have : ((S ^^^ (q % 64)) + (q ^^^ (q / 64)) % 3) % 3 = 0 := by rw [← h1, ← h2]; omega
  rw [show Nat.mod (Nat.add (Nat.xor S (q % 64)) ((q ^^^ q / 64) % 3)) 3 = ((S ^^^ (q % 64)) + (q ^^^ (q / 64)) % 3) % 3 from rfl, this]; rfl
 have e2 : Nat.beq (Nat.mod (Nat.xor S (q % 64)) 2) 0 = true := by
  have : (S ^^^ (q % 64)) % 2 = 0 := by rw [← h1]; omega
  rw [show Nat.mod (Nat.xor S (q % 64)) 2 = (S ^^^ (q % 64)) % 2 from rfl, this]; rfl
 rw [e, e2] at h
 exact absurd h (by decide)
theorem uN_512 {s q : Nat} (hs : s < 512) : uN (s + 512 * q) ≤ 2 * (ind 3 (s / 8) q : Int) - 1 := by
 have hi := ind_le 3 (s / 8) q
 by_cases h : ind 3 (s / 8) q = 0
 ·have hx := ind3 (by omega) h
  rw [h]
  have hz : ((s + 512 * q) ^^^ ((s + 512 * q) / 64)) / 8 = (s / 8 + 64 * q) ^^^ q := by
   have := Nat.xor_div_two_pow (a := s + 512 * q) (b := (s + 512 * q) / 64) (n := 3)
   rw [show (2 : Nat) ^ 3 = 8 from rfl] at this
   rw [this]; congr 1 <;> omega
  rw [← hz] at hx
  unfold uN fN
  generalize (s + 512 * q) ^^^ ((s + 512 * q) / 64) = z at *
  have h24 : z % 24 ≠ 0 ∧ z % 24 ≠ 1 ∧ z % 24 ≠ 3 := by omega
  unfold uv
  rw [if_neg (by omega), if_neg (by omega)]; omega
 ·have := (uv_bd (fN (s + 512 * q) : Int)).2
  unfold uN; omega
theorem uN_256 {s q : Nat} (hs : s < 256) : uN (s + 256 * q) ≤ 2 * (ind 6 (s / 4) q : Int) - 1 := by
 have hi := ind_le 6 (s / 4) q
 by_cases h : ind 6 (s / 4) q = 0
 ·have hx := ind6 (by omega) h
  rw [h]
  have hz : ((s + 256 * q) ^^^ ((s + 256 * q) / 64)) / 4 = (s / 4 + 64 * q) ^^^ q := by
   have := Nat.xor_div_two_pow (a := s + 256 * q) (b := (s + 256 * q) / 64) (n := 2)
   rw [show (2 : Nat) ^ 2 = 4 from rfl] at this
   rw [this]; congr 1 <;> omega
  rw [← hz] at hx
  unfold uN fN
  generalize (s + 256 * q) ^^^ ((s + 256 * q) / 64) = z at *
  have h24 : z % 24 ≠ 0 ∧ z % 24 ≠ 1 ∧ z % 24 ≠ 3 := by omega
  unfold uv
  rw [if_neg (by omega), if_neg (by omega)]; omega
 ·have := (uv_bd (fN (s + 256 * q) : Int)).2
  unfold uN; omega
theorem wS_512 {s e : Nat} (hs : s < 512) : ∀ n q, wS (512 * e) n (s + 512 * q) ≤ 2 * (cnt 3 (s / 8) e n q : Int) - n
 | 0, q => by simp [wS, cnt]
 | n + 1, q => by
  have h1 := uN_512 (q := q) hs
  have h2 := wS_512 (e := e) hs n (q + e)
  simp only [wS, cnt]
  rw [show s + 512 * q + 512 * e = s + 512 * (q + e) by omega]
  omega
theorem wS_256 {s e : Nat} (hs : s < 256) : ∀ n q, wS (256 * e) n (s + 256 * q) ≤ 2 * (cnt 6 (s / 4) e n q : Int) - n
 | 0, q => by simp [wS, cnt]
 | n + 1, q => by
  have h1 := uN_256 (q := q) hs
  have h2 := wS_256 (e := e) hs n (q + e)
  simp only [wS, cnt]
  rw [show s + 256 * q + 256 * e = s + 256 * (q + e) by omega]
  omega
def Less (L : Nat) : Prop := ∃ N, 1 ≤ N ∧ N ≤ 1024 ∧ ∀ A, A ≤ 818000 → wS (29 * L + 53) N A ≤ -2
def goodB (L : Nat) : Bool := [1, 2, 4, 8, 16, 32, 64, 128].any fun h => decide (h * (29 * L + 53) % 512 = 128 ∨ h * (29 * L + 53) % 512 = 384)
theorem less_good {L : Nat} (h : goodB L = true) : Less L := by
 obtain ⟨h, hm, hd⟩ := List.any_eq_true.1 h
 have hE := of_decide_eq_true hd
 have hb : 1 ≤ h ∧ h ≤ 128 := by
  simp only [List.mem_cons, List.not_mem_nil, or_false] at hm; omega
 refine ⟨(h + (h + (h + h))) + (h + (h + (h + h))), by omega, by omega, fun A _ => ?_⟩
 have h1 := four hE A
 have h2 := four hE (A + (h + (h + (h + h))) * (29 * L + 53))
 rw [wS_add]; omega
theorem less_512 {L e N c K : Nat} (hL : 29 * L + 53 = 512 * e) (hN : 1 ≤ N ∧ N ≤ 1024) (hc : 2 * c + 2 ≤ N) (hK : 1598 ≤ K) (h : ∀ {S q : Nat}, S < 64 → q < K → cnt 3 S e N q ≤ c) : Less L := by
 refine ⟨N, hN.1, hN.2, fun A hA => ?_⟩
 have h1 := wS_512 (s := A % 512) (e := e) (by omega) N (A / 512)
 have h2 := h (S := A % 512 / 8) (q := A / 512) (by omega) (by omega)
 rw [hL]
 rw [show A % 512 + 512 * (A / 512) = A by omega] at h1
 omega
theorem less_256 {L e N c K : Nat} (hL : 29 * L + 53 = 256 * e) (hN : 1 ≤ N ∧ N ≤ 1024) (hc : 2 * c + 2 ≤ N) (hK : 3196 ≤ K) (h : ∀ {S q : Nat}, S < 64 → q < K → cnt 6 S e N q ≤ c) : Less L := by
 refine ⟨N, hN.1, hN.2, fun A hA => ?_⟩
 have h1 := wS_256 (s := A % 256) (e := e) (by omega) N (A / 256)
 have h2 := h (S := A % 256 / 4) (q := A / 256) (by omega) (by omega)
 rw [hL]
 rw [show A % 256 + 256 * (A / 256) = A by omega] at h1
 omega
theorem lens_ok : ((List.range 2001).all fun L => goodB L || (decide (L = 7) || decide (L = 263) || decide (L = 519) || decide (L = 775) || decide (L = 1031) || decide (L = 1287) || decide (L = 1543) || decide (L = 1799))) = true := by kernel_rfl
theorem less_all {L : Nat} (hL : L ≤ 2000) : Less L := by
 have h := List.all_eq_true.1 lens_ok L (List.mem_range.2 (by omega))
 simp only [Bool.or_eq_true, decide_eq_true_eq] at h
 rcases h with h | (((((((h | h) | h) | h) | h) | h) | h) | h)
 ·exact less_good h
 ·subst h; exact less_256 (e := 1) (N := 192) (c := 80) rfl (by omega) (by omega) (by omega) win7
 ·subst h; exact less_512 (e := 15) (N := 192) (c := 94) rfl (by omega) (by omega) (by omega) win263
 ·subst h; exact less_256 (e := 59) (N := 32) (c := 13) rfl (by omega) (by omega) (by omega) win519
 ·subst h; exact less_512 (e := 44) (N := 128) (c := 63) rfl (by omega) (by omega) (by omega) win775
 ·subst h; exact less_256 (e := 117) (N := 32) (c := 13) rfl (by omega) (by omega) (by omega) win1031
 ·subst h; exact less_512 (e := 73) (N := 256) (c := 126) rfl (by omega) (by omega) (by omega) win1287
 ·subst h; exact less_256 (e := 175) (N := 32) (c := 14) rfl (by omega) (by omega) (by omega) win1543
 ·subst h; exact less_512 (e := 102) (N := 256) (c := 120) rfl (by omega) (by omega) (by omega) win1799
end Go.Proofs.Ytflgpdjbgfkhoaa
namespace Go.Proofs.Ytflgpdjbgfkhoaa
open Go
set_option linter.unusedSimpArgs false
set_option linter.unusedVariables false
set_option maxRecDepth 100000
set_option maxHeartbeats 2000000
theorem xorV_nat {a b : Nat} (ha : a < 2 ^ 62) (hb : b < 2 ^ 62) : xorV (a : Int) (b : Int) = ((a ^^^ b : Nat) : Int) := by
 have h1 : (BitVec.ofInt 64 (a : Int) ^^^ BitVec.ofInt 64 (b : Int)).toNat = a ^^^ b := by
  rw [BitVec.toNat_xor, BitVec.toNat_ofInt, BitVec.toNat_ofInt]
  have e1 : ((a : Int) % ((2 ^ 64 : Nat) : Int)).toNat = a := by
   have : (a : Int) % ((2 ^ 64 : Nat) : Int) = a := Int.emod_eq_of_lt (by omega) (by omega)
   rw [this]; simp
  have e2 : ((b : Int) % ((2 ^ 64 : Nat) : Int)).toNat = b := by
   have : (b : Int) % ((2 ^ 64 : Nat) : Int) = b := Int.emod_eq_of_lt (by omega) (by omega)
   rw [this]; simp
  rw [e1, e2]
 have h2 := Nat.xor_lt_two_pow (n := 62) ha hb
 unfold xorV
 rw [h1, wrap_i64 (by omega)]
def yN (b : Str) (k : Nat) : Nat := (nth b (k % b.length)).toNat * 131 + (nth b ((k * 7 + 3) % b.length)).toNat * 1117 + k * 29 + k / b.length * 53
theorem pickX_nat (b : Str) (k : Nat) : pickX b k = (yN b k : Int) := by
 have h1 : (nth b (k % b.length)).toNat < 256 := (nth b (k % b.length)).toNat_lt
 have h2 : (nth b ((k * 7 + 3) % b.length)).toNat < 256 := (nth b ((k * 7 + 3) % b.length)).toNat_lt
 unfold pickX yN
 rw [wrap_i64 (by omega), wrap_i64 (by omega), List.length_map, show (k : Int) + 1 - 1 = (k : Int) by omega]
 simp only [Int.natCast_add, Int.natCast_mul, Int.natCast_ediv]
 rfl
theorem pick_fN {b : Str} {k : Nat} (h0 : 1 ≤ b.length) (hk : b.length ≤ k) (hb : k ≤ 1000000000000) : pickV b k 24 = (fN (yN b k) : Int) := by
 have h1 : (nth b (k % b.length)).toNat < 256 := (nth b (k % b.length)).toNat_lt
 have h2 : (nth b ((k * 7 + 3) % b.length)).toNat < 256 := (nth b ((k * 7 + 3) % b.length)).toNat_lt
 have h3 : k / b.length ≤ k := Nat.div_le_self _ _
 have hy : yN b k < 2 ^ 62 := by unfold yN; omega
 unfold pickV
 rw [if_neg (by omega), if_neg (by omega), pickX_nat]
 rw [show ((yN b k : Nat) : Int) / 64 = ((yN b k / 64 : Nat) : Int) by omega, xorV_nat hy (by omega)]
 unfold fN
 omega
def aN (b : Str) (i : Nat) : Nat := (nth b i).toNat * 131 + (nth b ((7 * i + 3) % b.length)).toNat * 1117 + i * 29
theorem yN_round {b : Str} {j i : Nat} (hi : i < b.length) : yN b (j * b.length + i) = aN b i + j * (29 * b.length + 53) := by
 have e1 : (j * b.length + i) % b.length = i := by rw [Nat.mul_add_mod_self_right]; exact Nat.mod_eq_of_lt hi
 have e2 : (j * b.length + i) / b.length = j := by rw [Nat.mul_comm, Nat.mul_add_div (by omega), Nat.div_eq_of_lt hi, Nat.add_zero]
 have e3 : ((j * b.length + i) * 7 + 3) % b.length = (7 * i + 3) % b.length := by
  rw [show (j * b.length + i) * 7 + 3 = j * 7 * b.length + (7 * i + 3) by rw [Nat.add_mul, Nat.mul_right_comm]; omega, Nat.mul_add_mod_self_right]
 unfold yN aN
 rw [e1, e2, e3, Nat.add_mul, Nat.mul_add, Nat.mul_assoc j b.length 29, Nat.mul_comm b.length 29]
 omega
theorem aN_bd (b : Str) (i : Nat) (hi : i ≤ 2000) : aN b i ≤ 376240 := by
 have h1 : (nth b i).toNat < 256 := (nth b i).toNat_lt
 have h2 : (nth b ((7 * i + 3) % b.length)).toNat < 256 := (nth b ((7 * i + 3) % b.length)).toNat_lt
 unfold aN; omega
def rowS (f : Nat → Nat → Int) (j : Nat) : Nat → Int
 | 0 => 0
 | l + 1 => rowS f j l + f j l
def colS (f : Nat → Nat → Int) (l : Nat) : Nat → Nat → Int
 | _, 0 => 0
 | j, n + 1 => f j l + colS f l (j + 1) n
def matS (f : Nat → Nat → Int) (l : Nat) : Nat → Nat → Int
 | _, 0 => 0
 | j, n + 1 => rowS f j l + matS f l (j + 1) n
theorem matS_succ (f : Nat → Nat → Int) (l : Nat) : ∀ n j, matS f (l + 1) j n = matS f l j n + colS f l j n
 | 0, j => rfl
 | n + 1, j => by simp only [matS, colS, rowS]; rw [matS_succ f l n (j + 1)]; omega
theorem matS_zero (f : Nat → Nat → Int) : ∀ n j, matS f 0 j n = 0
 | 0, j => rfl
 | n + 1, j => by simp only [matS, rowS]; rw [matS_zero f n (j + 1)]; omega
theorem matS_le {f : Nat → Nat → Int} {n j : Nat} {c : Int} : ∀ l, (∀ i, i < l → colS f i j n ≤ c) → matS f l j n ≤ l * c
 | 0, _ => by rw [matS_zero]; simp
 | l + 1, h => by
  have h1 := matS_le l (fun i hi => h i (by omega))
  have h2 := h l (by omega)
  rw [matS_succ, Int.natCast_add, Int.add_mul]; omega
theorem sU_snoc (u : Nat → Int) (p n : Nat) : sU u p (n + 1) = sU u p n + u (p + n) := by
 rw [sU_add]; simp [sU]
theorem sU_row (u : Nat → Int) (L j : Nat) : ∀ l, sU u (j * L) l = rowS (fun j i => u (j * L + i)) j l
 | 0 => rfl
 | l + 1 => by rw [sU_snoc, sU_row u L j l]; rfl
theorem sU_mat (u : Nat → Int) (L : Nat) : ∀ n j, sU u (j * L) (n * L) = matS (fun j i => u (j * L + i)) L j n
 | 0, j => by rw [Nat.zero_mul]; rfl
 | n + 1, j => by
  rw [show (n + 1) * L = L + n * L by rw [Nat.add_mul]; omega, sU_add, sU_row, show j * L + L = (j + 1) * L by rw [Nat.add_mul]; omega, sU_mat u L n (j + 1)]
  rfl
abbrev uP (b : Str) (k : Nat) : Int := uv (pickV b k 24)
theorem col_wS {b : Str} (h0 : 1 ≤ b.length) {i : Nat} (hi : i < b.length) : ∀ n j, 1 ≤ j → (j + n) * b.length ≤ 100000000 → colS (fun j i => uP b (j * b.length + i)) i j n = wS (29 * b.length + 53) n (aN b i + j * (29 * b.length + 53))
 | 0, j, _, _ => rfl
 | n + 1, j, hj, hb => by
  have h1 := col_wS h0 hi n (j + 1) (by omega) (by rw [show j + 1 + n = j + (n + 1) by omega]; exact hb)
  have h2 : b.length ≤ j * b.length := Nat.le_mul_of_pos_left _ hj
  have h3 : j * b.length ≤ (j + (n + 1)) * b.length := Nat.mul_le_mul_right _ (by omega)
  simp only [colS, wS]
  rw [h1, show aN b i + j * (29 * b.length + 53) + (29 * b.length + 53) = aN b i + (j + 1) * (29 * b.length + 53) by rw [Nat.add_mul]; omega]
  congr 1
  show uv (pickV b (j * b.length + i) 24) = uN _
  rw [pick_fN h0 (by omega) (by omega), yN_round hi]
  rfl
theorem sU_less {b : Str} (h0 : 1 ≤ b.length) (hb : b.length ≤ 2000) {p : Nat} (hp : p ≤ 4000) : ∃ m, m ≤ 3000000 ∧ sU (uP b) p m ≤ -1 := by
 obtain ⟨N, n1, n2, hA⟩ := less_all hb
 obtain ⟨j, j1, j2, j3⟩ : ∃ j, 1 ≤ j ∧ p ≤ j * b.length ∧ j * b.length ≤ p + b.length := by
  refine ⟨p / b.length + 1, Nat.le_add_left 1 _, ?_, ?_⟩
  ·have h1 := Nat.div_add_mod p b.length
   have h2 := Nat.mod_lt p (show 0 < b.length by omega)
   rw [Nat.add_mul, Nat.mul_comm (p / b.length)]; omega
  ·have h1 := Nat.div_mul_le_self p b.length
   rw [Nat.add_mul]; omega
 have hNL : N * b.length ≤ 1024 * 2000 := Nat.mul_le_mul n2 hb
 refine ⟨(j * b.length - p) + N * b.length, by omega, ?_⟩
 rw [sU_add, show p + (j * b.length - p) = j * b.length by omega, sU_mat]
 have h1 := sU_le (u := uP b) (fun k => (uv_bd _).2) (j * b.length - p) p
 have hj : j * (29 * b.length + 53) ≤ 441000 := by
  have e : j * (29 * b.length + 53) = 29 * (j * b.length) + 53 * j := by rw [Nat.mul_add, Nat.mul_left_comm, Nat.mul_comm j 53]
  by_cases hL : 7 ≤ b.length
  ·have : j * 7 ≤ j * b.length := Nat.mul_le_mul_left _ hL
   omega
  ·have : j ≤ 4007 := by
    have h2 : j * 1 ≤ j * b.length := Nat.mul_le_mul_left _ h0
    omega
   exact Nat.le_trans (Nat.le_of_eq e) (by omega)
 have h2 := matS_le (f := fun j i => uP b (j * b.length + i)) (n := N) (j := j) (c := -2) b.length (fun i hi => by
  rw [col_wS h0 hi N j j1 (by rw [Nat.add_mul]; omega)]
  exact hA _ (by have := aN_bd b i (by omega); omega))
 omega
def mutV (b : Str) : Nat → Nat → Val → Option (Val × Nat)
 | 0, _, _ => none
 | n + 1, p, v =>
  if pickV b p 24 = 0 then some (.mk (numV b (p + 1) [0, 1, -1, 9, -2]) v.num v.kids, p + 2)
  else if pickV b p 24 = 1 then some (.mk v.ctor (numV b (p + 1) [10, -1, 1]) v.kids, p + 2)
  else if pickV b p 24 = 2 then some (.mk v.ctor v.num (v.kids ++ [.mk (-1) 0 []]), p + 1)
  else if pickV b p 24 = 3 then
   match v.kids with
   | [] => some (.mk v.ctor v.num v.kids, p + 1)
   | k :: r =>
    match mutV b n (p + 1) k with
    | none => none
    | some (k1, p1) =>
     match mutV b n p1 k1 with
     | none => none
     | some (k2, p2) => some (.mk v.ctor v.num (k2 :: r), p2)
  else some (.mk v.ctor v.num v.kids, p + 1)
theorem Vals.size_app : ∀ a b : List Val, Vals.size (a ++ b) = Vals.size a + Vals.size b
 | [], b => by simp [Vals.size]
 | x :: r, b => by simp only [List.cons_append, Vals.size, Vals.size_app r b]; omega
theorem Val.size_mk (a n : Int) (k : List Val) : (Val.mk a n k).size = 1 + Vals.size k := rfl
theorem mutV_3 {b : Str} {n p : Nat} {v : Val} {k : Val} {r : List Val} (h : pickV b p 24 = 3) (hk : v.kids = k :: r) {k1 k2 : Val} {p1 p2 : Nat} (h1 : mutV b n (p + 1) k = some (k1, p1)) (h2 : mutV b n p1 k1 = some (k2, p2)) :
  mutV b (n + 1) p v = some (.mk v.ctor v.num (k2 :: r), p2) := by
 simp only [mutV]
 rw [if_neg (by omega), if_neg (by omega), if_neg (by omega), if_pos h, hk]
 simp only [h1, h2]
theorem mutV_3' {b : Str} {n p : Nat} {v : Val} {k : Val} {r : List Val} (h : pickV b p 24 = 3) (hk : v.kids = k :: r) {v' : Val} {q : Nat} (hm : mutV b (n + 1) p v = some (v', q)) :
  ∃ k1 p1 k2, mutV b n (p + 1) k = some (k1, p1) ∧ mutV b n p1 k1 = some (k2, q) ∧ v' = .mk v.ctor v.num (k2 :: r) := by
 simp only [mutV] at hm
 rw [if_neg (by omega), if_neg (by omega), if_neg (by omega), if_pos h, hk] at hm
 cases h1 : mutV b n (p + 1) k with
 | none => simp [h1] at hm
 | some x =>
  obtain ⟨k1, p1⟩ := x
  cases h2 : mutV b n p1 k1 with
  | none => simp [h1, h2] at hm
  | some y =>
   obtain ⟨k2, p2⟩ := y
   simp only [h1, h2, Option.some.injEq, Prod.mk.injEq] at hm
   obtain ⟨rfl, rfl⟩ := hm
   exact ⟨k1, p1, k2, rfl, h2, rfl⟩
theorem mutV_mono {b : Str} : ∀ {n : Nat} {p : Nat} {v : Val} {x : Val × Nat}, mutV b n p v = some x → ∀ m, n ≤ m → mutV b m p v = some x
 | 0, p, v, x, h, m, _ => by simp [mutV] at h
 | n + 1, p, v, x, h, 0, hm => by omega
 | n + 1, p, v, x, h, m + 1, hm => by
  by_cases h3 : pickV b p 24 = 3
  ·cases hk : v.kids with
   | nil => simp only [mutV] at h ⊢; rw [if_neg (by omega), if_neg (by omega), if_neg (by omega), if_pos h3, hk] at h ⊢; exact h
   | cons k r =>
    obtain ⟨v', q⟩ := x
    obtain ⟨k1, p1, k2, h1, h2, rfl⟩ := mutV_3' h3 hk h
    exact mutV_3 h3 hk (mutV_mono h1 m (by omega)) (mutV_mono h2 m (by omega))
  ·simp only [mutV] at h ⊢
   split at h
   ·rename_i c; rw [if_pos c]; exact h
   ·rename_i c; rw [if_neg c]
    split at h
    ·rename_i c; rw [if_pos c]; exact h
    ·rename_i c; rw [if_neg c]
     split at h
     ·rename_i c; rw [if_pos c]; exact h
     ·rename_i c; rw [if_neg c, if_neg h3]; exact h
theorem mutV_sz {b : Str} : ∀ {n : Nat} {p : Nat} {v v' : Val} {q : Nat}, mutV b n p v = some (v', q) → p < q ∧ v'.size ≤ v.size + (q - p)
 | 0, p, v, v', q, h => by simp [mutV] at h
 | n + 1, p, v, v', q, h => by
  have hv := Val.size_eq v
  by_cases h3 : pickV b p 24 = 3
  ·cases hk : v.kids with
   | nil =>
    simp only [mutV] at h
    rw [if_neg (by omega), if_neg (by omega), if_neg (by omega), if_pos h3, hk] at h
    simp only [Option.some.injEq, Prod.mk.injEq] at h
    obtain ⟨rfl, rfl⟩ := h
    rw [Val.size_mk]; simp only [Vals.size]; omega
   | cons k r =>
    obtain ⟨k1, p1, k2, h1, h2, rfl⟩ := mutV_3' h3 hk h
    have a1 := mutV_sz h1
    have a2 := mutV_sz h2
    rw [hk] at hv
    rw [Val.size_mk]
    simp only [Vals.size] at hv ⊢
    omega
  ·simp only [mutV] at h
   split at h
   ·simp only [Option.some.injEq, Prod.mk.injEq] at h; obtain ⟨rfl, rfl⟩ := h; rw [Val.size_mk]; omega
   split at h
   ·simp only [Option.some.injEq, Prod.mk.injEq] at h; obtain ⟨rfl, rfl⟩ := h; rw [Val.size_mk]; omega
   split at h
   ·simp only [Option.some.injEq, Prod.mk.injEq] at h; obtain ⟨rfl, rfl⟩ := h; rw [Val.size_mk, Vals.size_app]; simp only [Vals.size, Val.size]; omega
   ·simp only [Option.some.injEq, Prod.mk.injEq] at h; obtain ⟨rfl, rfl⟩ := h; rw [Val.size_mk]; omega
theorem mutV_ends {b : Str} : ∀ (m : Nat) (p : Nat) (v : Val), sU (uP b) p m ≤ -1 → ∃ n v' q, mutV b n p v = some (v', q) ∧ q ≤ p + m ∧ -1 ≤ sU (uP b) p (q - p) := by
 intro m
 induction m using Nat.strongRecOn with
 | _ m ih =>
  intro p v hm
  cases m with
  | zero => simp [sU] at hm
  | succ m =>
   simp only [sU] at hm
   have hu : uP b p = uv (pickV b p 24) := rfl
   have hub := uv_bd (pickV b (p + 1) 24)
   by_cases h0 : pickV b p 24 = 0 ∨ pickV b p 24 = 1
   ·have hu0 : uP b p = 0 := by rw [hu]; unfold uv; rw [if_neg (by omega), if_pos h0]
    cases m with
    | zero => simp only [sU] at hm; omega
    | succ m =>
     have hs : -1 ≤ sU (uP b) p (p + 2 - p) := by
      rw [show p + 2 - p = 2 by omega]
      show -1 ≤ uP b p + (uP b (p + 1) + 0)
      have : uP b (p + 1) = uv (pickV b (p + 1) 24) := rfl
      omega
     rcases h0 with h0 | h0
     ·exact ⟨1, _, p + 2, by simp only [mutV]; rw [if_pos h0], by omega, hs⟩
     ·exact ⟨1, _, p + 2, by simp only [mutV]; rw [if_neg (by omega), if_pos h0], by omega, hs⟩
   ·rw [not_or] at h0
    by_cases h3 : pickV b p 24 = 3
    ·have hu3 : uP b p = 1 := by rw [hu]; unfold uv; rw [if_pos h3]
     cases hk : v.kids with
     | nil =>
      refine ⟨1, _, p + 1, by simp only [mutV]; rw [if_neg (by omega), if_neg (by omega), if_neg (by omega), if_pos h3, hk], by omega, ?_⟩
      rw [show p + 1 - p = 1 by omega]
      show -1 ≤ uP b p + 0
      omega
     | cons k r =>
      obtain ⟨n1, k1, p1, a1, a2, a3⟩ := ih m (by omega) (p + 1) k (by omega)
      have a4 := (mutV_sz a1).1
      have e1 := sU_add (uP b) (p1 - (p + 1)) (p + 1 + m - p1) (p + 1)
      rw [show p1 - (p + 1) + (p + 1 + m - p1) = m by omega, show p + 1 + (p1 - (p + 1)) = p1 by omega] at e1
      obtain ⟨n2, k2, p2, b1, b2, b3⟩ := ih (p + 1 + m - p1) (by omega) p1 k1 (by omega)
      have b4 := (mutV_sz b1).1
      refine ⟨max n1 n2 + 1, _, p2, mutV_3 h3 hk (mutV_mono a1 _ (Nat.le_max_left _ _)) (mutV_mono b1 _ (Nat.le_max_right _ _)), by omega, ?_⟩
      have e2 := sU_add (uP b) (p1 - (p + 1)) (p2 - p1) (p + 1)
      rw [show p + 1 + (p1 - (p + 1)) = p1 by omega] at e2
      rw [show p2 - p = (p1 - (p + 1) + (p2 - p1)) + 1 by omega]
      simp only [sU]
      omega
    ·have hs : -1 ≤ sU (uP b) p (p + 1 - p) := by
      rw [show p + 1 - p = 1 by omega]
      show -1 ≤ uP b p + 0
      have := (uv_bd (pickV b p 24)).1
      omega
     by_cases h2 : pickV b p 24 = 2
     ·exact ⟨1, _, p + 1, by simp only [mutV]; rw [if_neg h0.1, if_neg h0.2, if_pos h2], by omega, hs⟩
     ·exact ⟨1, _, p + 1, by simp only [mutV]; rw [if_neg h0.1, if_neg h0.2, if_neg h2, if_neg h3], by omega, hs⟩
theorem mutV_some {b : Str} (hb : b.length ≤ 2000) {p : Nat} (hp : p ≤ 4000) (v : Val) : ∃ n v' q, mutV b n p v = some (v', q) ∧ q ≤ 3010000 := by
 by_cases h0 : 1 ≤ b.length
 ·obtain ⟨m, m1, m2⟩ := sU_less h0 hb hp
  obtain ⟨n, v', q, h1, h2, _⟩ := mutV_ends m p v m2
  exact ⟨n, v', q, h1, by omega⟩
 ·have hz : pickV b p 24 = 0 := by unfold pickV; rw [if_pos (.inr (by omega))]
  exact ⟨1, _, p + 2, by simp only [mutV]; rw [if_pos hz], by omega⟩
def typT0 (b : Str) (p : Nat) : Ty := ⟨pickV b (p + 1) (worldD b p).length, numV b (p + 2) [0, 0, 1, 2]⟩
def typT (b : Str) (p : Nat) : Ty := if dv (depthT (worldD b p)) (typT0 b p) = 0 then ⟨-1, 0⟩ else typT0 b p
def typV (b : Str) (p : Nat) : Val × Nat := drawV b (worldD b p) (depthT (worldD b p)) 4 (typT b p) (numV b (p + 3) [3, 2, 4, 1]) (p + 4)
theorem inS_of {n : Nat} {a k : Int} (h1 : 0 ≤ a) (h2 : a < n) (h3 : 0 ≤ k) (h4 : k ≤ 3) : InS (n * 4) ⟨a, k⟩ := by
 refine .inr ⟨?_, ?_⟩
 ·simp only [slotT]; omega
 ·obtain ⟨i, rfl⟩ := Int.eq_ofNat_of_zero_le h1
  obtain ⟨m, rfl⟩ := Int.eq_ofNat_of_zero_le h3
  simp only [slotT, Int.toNat_natCast]
  exact tyS_ij (by omega)
theorem num0012 (b : Str) (p : Nat) : 0 ≤ numV b p [0, 0, 1, 2] ∧ numV b p [0, 0, 1, 2] ≤ 3 := by
 have := numV_mem (b := b) (p := p) (l := [0, 0, 1, 2]) (by simp)
 simp only [List.mem_cons, List.not_mem_nil, or_false] at this
 omega
theorem typT0_in (b : Str) (p : Nat) : InS ((worldD b p).length * 4) (typT0 b p) := by
 have h1 := pickV_bd (b := b) (p := p + 1) (n := ((worldD b p).length : Int)) (by have := (worldD_ok b p).one; omega)
 have h2 := num0012 b (p + 2)
 exact inS_of h1.1 h1.2 h2.1 h2.2
theorem typT_deep (b : Str) (p : Nat) : Deep (worldD b p) 4 (typT b p) (numV b (p + 3) [3, 2, 4, 1]) := by
 have hl := worldD_low b p
 have h4 := num4 b (p + 3)
 unfold typT
 split
 ·exact ⟨.inl rfl, by simp [dv], by simp [dv], by omega⟩
 ·rename_i h
  have := dv_bd (f := depthT (worldD b p)) (b := 3) hl.low (by omega) (typT0 b p)
  exact ⟨typT0_in b p, by omega, by omega, by omega⟩
theorem typV_ok (b : Str) (p : Nat) : (typV b p).2 ≤ p + 44 ∧ (typV b p).1.size ≤ 121 ∧ (typV b p).1.ok := by
 have hl := worldD_low b p
 have h := drawV_ok (b := b) hl.dp hl.few 4 (typT b p) (numV b (p + 3) [3, 2, 4, 1]) (p + 4) (typT_deep b p)
 have e1 : bdV 4 = 40 := by decide
 have e2 : szV 4 = 121 := by decide
 unfold typV
 exact ⟨by omega, by omega, h.2.2⟩
theorem spec_l2Typed_fn {b : Str} {p : Nat} (hb : b.length ≤ 2000) (hp : p ≤ 100000) :
  FnD Try.prog 47 [.ref 900 0] [(900, some (rdB b p))] (.tup [.d (encDatas (worldD b p)), .agg [.d (.i (typT b p).data), .d (.i (typT b p).index)], .agg [.d (.i (typV b p).1.ctor), .d (.i (typV b p).1.num), .d (encVals (typV b p).1.kids)]]) [(900, some (rdB b (typV b p).2))] := by
 have ho := worldD_ok b p
 have hl := worldD_low b p
 have h4 := num4 b (p + 3)
 have hin := typT0_in b p
 have hdeep := typT_deep b p
 have hT : typT b p = if dv (depthT (worldD b p)) (typT0 b p) = 0 then ⟨-1, 0⟩ else typT0 b p := rfl
 have hV : typV b p = drawV b (worldD b p) (depthT (worldD b p)) 4 (typT b p) (numV b (p + 3) [3, 2, 4, 1]) (p + 4) := rfl
 have e1 : bdV 4 = 40 := by decide
 have hwd := spec_l1World_fn (p := p) hb (by omega)
 have hpk := spec_pick_fn (b := b) (p := p + 1) (n := (((worldD b p).map Data.c).length : Int)) hb (by omega) (by have := ho.small.len; simp; omega)
 rw [show pickV b (p + 1) (((worldD b p).map Data.c).length : Int) = (typT0 b p).data by rw [List.length_map]; rfl] at hpk
 have hnu := spec_num_fn (b := b) (p := p + 2) (l := [0, 0, 1, 2]) hb (by omega) (by simp) (by simp)
 rw [show numV b (p + 2) [0, 0, 1, 2] = (typT0 b p).index from rfl] at hnu
 have hdr := fun (t : Ty) (h : Deep (worldD b p) 4 t (numV b (p + 3) [3, 2, 4, 1])) => spec_l2Draw_fn hb hl.dp hl.few 4 (a := t.data) (k := t.index) (p := p + 4) h (by omega) (by omega) (by omega)
 have hdp := spec_l1Depth_fn (f := depthT (worldD b p)) (a := (typT0 b p).data) (k := (typT0 b p).index) hin (by have := hl.dp.four; omega)
 have htb := spec_l1Table_fn hl.dp
 generalize worldD b p = w at *
 generalize typT0 b p = t0 at *
 obtain ⟨a0, k0⟩ := t0
 have hdr2 := hdr ⟨-1, 0⟩
 have hdr3 := hdr ⟨a0, k0⟩
 clear hdr
 dsimp only at hT hV hdr2 hdr3
 refine bd Try.f47 35 [] [] fun w0 F0 own kept hk => ?_
 refine Walk.alloc (id := 3003) tz31 rfl .none rfl rfl rfl rfl ?_
 refine Walk.alloc (id := 3004) tz35 rfl .none rfl rfl rfl rfl ?_
 refine tv ?_
 refine Walk.call (cr := []) cal39 (hwd) rfl .none rfl rfl (LeL.refl _) ⟨rfl, trivial⟩ rfl rfl rfl ?_
 refine ev ?_
 refine Walk.call (cr := []) cal69 (htb) rfl .none rfl rfl (LeL.refl _) trivial rfl rfl rfl ?_
 refine ev ?_
 refine Walk.call (cr := []) cal48 (hpk) rfl .none rfl rfl (LeL.refl _) ⟨rfl, trivial⟩ rfl rfl rfl ?_
 refine ev ?_
 refine Walk.sliceLit sl93 tz3 rfl (by decide) (ks := [0, 1, 2, 3]) (xs := [_, _, _, _]) rfl rfl (by decide) (by decide) .none rfl rfl rfl rfl ?_
 refine Walk.call (cr := []) cal63 (hnu) rfl .none rfl rfl (LeL.refl _) ⟨rfl, trivial⟩ rfl rfl rfl ?_
 refine Walk.build st31 (ks := [0, 1]) (xs := [_, _]) rfl rfl .none rfl rfl rfl ?_
 refine Walk.alloc (id := 3007) tz31 rfl .none rfl rfl rfl rfl ?_
 refine Walk.store ty31 .none rfl rfl rfl rfl rfl rfl (by simp) rfl ?_
 refine tv ?_
 refine Walk.call (cr := []) cal70 (hdp) rfl .none rfl rfl (LeL.refl _) trivial rfl rfl rfl ?_
 refine ev ?_
 refine sq (fun h1 h1p h1s => ?_) fun h1 h1p h1s => ?_
 ·try simp only [Q] at h1p
  have HDR := hdr2 (by rw [if_pos (by omega)] at hT; rw [← hT]; exact hdeep)
  refine Walk.build st31 (ks := [0]) (xs := [_]) rfl rfl .none rfl rfl rfl ?_
  refine Walk.store ty31 .none rfl rfl rfl rfl rfl rfl (by simp) rfl ?_
  refine tv ?_
  refine Walk.sliceLit sl93 tz3 rfl (by decide) (ks := [0, 1, 2, 3]) (xs := [_, _, _, _]) rfl rfl (by decide) (by decide) .none rfl rfl rfl rfl ?_
  refine Walk.call (cr := []) cal63 (spec_num_fn (b := b) (p := p + 3) (l := [3, 2, 4, 1]) hb (by omega) (by simp) (by simp)) rfl .none rfl rfl (LeL.refl _) ⟨rfl, trivial⟩ rfl rfl rfl ?_
  refine Walk.call (cr := []) cal71 (HDR) rfl .none rfl rfl (LeL.refl _) ⟨rfl, trivial⟩ rfl rfl rfl ?_
  refine evd [] [] ?_
  refine Walk.store ty31 .none rfl rfl rfl rfl rfl rfl (by simp) rfl ?_
  refine Walk.store ty35 .none rfl rfl rfl rfl rfl rfl (by simp) rfl ?_
  refine dr ?_
  refine rn [(900, some (rdB b (typV b p).2))] (.cons (.tmp rfl) (.cons (.cellA ty31 rfl rfl rfl) (.cons (.cellA ty35 rfl rfl rfl) .nil))) (.tup (.cons (.eqd ?_) (.cons (.agg (.cons (.eqd ?_) (.cons (.eqd ?_) .nil))) (.cons (.agg (.cons (.eqd ?_) (.cons (.eqd ?_) (.cons (.eqd ?_) .nil)))) .nil)))) ⟨rfl, rfl⟩ (SubO.get ⟨.inr (by first | (rw [if_pos (by omega)] at hT; rw [hV, hT]; all_goals rfl) | (rw [if_neg (by omega)] at hT; rw [hV, hT]; all_goals rfl)), ⟨.inl rfl, trivial⟩⟩) (boxOK rfl)
  all_goals (first | (rw [if_pos (by omega)] at hT; rw [hV, hT]; all_goals rfl) | (rw [if_neg (by omega)] at hT; rw [hV, hT]; all_goals rfl) | (rw [if_pos (by omega)] at hT; rw [hT]; all_goals rfl) | (rw [if_neg (by omega)] at hT; rw [hT]; all_goals rfl) | rfl)
 ·try simp only [Q] at h1p
  have HDR := hdr3 (by rw [if_neg (by omega)] at hT; rw [← hT]; exact hdeep)
  refine Walk.sliceLit sl93 tz3 rfl (by decide) (ks := [0, 1, 2, 3]) (xs := [_, _, _, _]) rfl rfl (by decide) (by decide) .none rfl rfl rfl rfl ?_
  refine Walk.call (cr := []) cal63 (spec_num_fn (b := b) (p := p + 3) (l := [3, 2, 4, 1]) hb (by omega) (by simp) (by simp)) rfl .none rfl rfl (LeL.refl _) ⟨rfl, trivial⟩ rfl rfl rfl ?_
  refine Walk.call (cr := []) cal71 (HDR) rfl .none rfl rfl (LeL.refl _) ⟨rfl, trivial⟩ rfl rfl rfl ?_
  refine evd [] [] ?_
  refine Walk.store ty31 .none rfl rfl rfl rfl rfl rfl (by simp) rfl ?_
  refine Walk.store ty35 .none rfl rfl rfl rfl rfl rfl (by simp) rfl ?_
  refine dr ?_
  refine rn [(900, some (rdB b (typV b p).2))] (.cons (.tmp rfl) (.cons (.cellA ty31 rfl rfl rfl) (.cons (.cellA ty35 rfl rfl rfl) .nil))) (.tup (.cons (.eqd ?_) (.cons (.agg (.cons (.eqd ?_) (.cons (.eqd ?_) .nil))) (.cons (.agg (.cons (.eqd ?_) (.cons (.eqd ?_) (.cons (.eqd ?_) .nil)))) .nil)))) ⟨rfl, rfl⟩ (SubO.get ⟨.inr (by first | (rw [if_pos (by omega)] at hT; rw [hV, hT]; all_goals rfl) | (rw [if_neg (by omega)] at hT; rw [hV, hT]; all_goals rfl)), ⟨.inl rfl, trivial⟩⟩) (boxOK rfl)
  all_goals (first | (rw [if_pos (by omega)] at hT; rw [hV, hT]; all_goals rfl) | (rw [if_neg (by omega)] at hT; rw [hV, hT]; all_goals rfl) | (rw [if_pos (by omega)] at hT; rw [hT]; all_goals rfl) | (rw [if_neg (by omega)] at hT; rw [hT]; all_goals rfl) | rfl)
structure CaseW (w : List Data) : Prop where
 small : WSmall w
 valid : worldValid w = true
 one : 1 ≤ w.length
 ct : ∀ k : Int, k = 0 ∨ k = 1 ∨ k = 2 → 1 ≤ (vctors w ⟨0, k⟩).length
mutual
theorem valEq_refl : ∀ v : Val, valEq v v = true
 | .mk _ _ ks => by simp [valEq, valsEq_refl ks]
theorem valsEq_refl : ∀ l : List Val, valsEq l l = true
 | [] => rfl
 | v :: r => by simp [valsEq, valEq_refl v, valsEq_refl r]
end
theorem Val.c_len (v : Val) : v.c.length = 3 := by cases v; rfl
theorem Val.cs_rows {l : List Val} : ∀ x, x ∈ Val.cs l → x.length = 3 := by
 intro x hx
 rw [Val.cs_eq] at hx
 obtain ⟨y, _, rfl⟩ := List.mem_map.1 hx
 exact y.c_len
theorem Val.cs_nil (l : List Val) : Val.cs l = [] ↔ l = [] := by rw [Val.cs_eq]; simp
mutual
def mVal : Val → Nat
 | .mk _ _ ks => mVals ks
def mVals : List Val → Nat
 | [] => 0
 | v :: r => 1 + mVal v + mVals r
end
mutual
def Val.szM : Val → Int
 | .mk _ _ ks => 2 + Vals.szM ks
def Vals.szM : List Val → Int
 | [] => 0
 | v :: r => v.szM + Vals.szM r
end
mutual
def Val.one (k : Int) : Val → Val
 | .mk _ _ ks => .mk k (k + 1) (Vals.one (k + 1 + 1) ks)
def Vals.one (k : Int) : List Val → List Val
 | [] => []
 | v :: r => v.one k :: Vals.one (k + v.szM) r
end
theorem Vals.szM_eq : ∀ l : List Val, Vals.szM l = szL Val.szM l
 | [] => rfl
 | v :: r => by simp only [Vals.szM, szL, Vals.szM_eq r]
theorem Vals.one_eq : ∀ (l : List Val) (k : Int), Vals.one k l = mkL Val.one Val.szM k l
 | [], _ => rfl
 | v :: r, k => by simp only [Vals.one, mkL, Vals.one_eq r]
theorem Val.szM_kids (v : Val) : v.szM = 2 + szL Val.szM v.kids := by cases v; simp only [Val.szM, Val.kids, Vals.szM_eq]
theorem Val.one_kids (v : Val) (k : Int) : (v.one k).kids = mkL Val.one Val.szM (k + 1 + 1) v.kids := by cases v; simp only [Val.one, Val.kids, Vals.one_eq]
theorem Val.one_sc (v : Val) (k : Int) : (Val.one k v).ctor = k ∧ (Val.one k v).num = k + 1 := by cases v; exact ⟨rfl, rfl⟩
mutual
theorem Val.szM_nn : ∀ v : Val, 0 ≤ v.szM
 | .mk _ _ ks => by have := Vals.szM_nn ks; simp only [Val.szM]; omega
theorem Vals.szM_nn : ∀ l : List Val, 0 ≤ Vals.szM l
 | [] => by simp [Vals.szM]
 | v :: r => by have := Val.szM_nn v; have := Vals.szM_nn r; simp only [Vals.szM]; omega
end
mutual
theorem Val.szM_le : ∀ v : Val, v.szM ≤ 2 + 2 * (mVal v : Int)
 | .mk _ _ ks => by have := Vals.szM_le ks; simp only [Val.szM, mVal]; omega
theorem Vals.szM_le : ∀ l : List Val, Vals.szM l ≤ 2 * (mVals l : Int)
 | [] => by simp [Vals.szM, mVals]
 | v :: r => by have := Val.szM_le v; have := Vals.szM_le r; simp only [Vals.szM, mVals]; omega
end
section
variable {c : Ctx} {env : Env} {hp : Hp} {K : Kt} {code : Code} {ids : List Nat}
theorem CWp.fixVB (b off id k : Nat) {n : Nat} {xs : List (List D)} {cs cs' : List AV} (hb : getH hp b = some (.box cs)) (hc : cs[off]? = some (.gv id xs)) (hput : putC cs off [.ms id xs.length] = some cs') (ht : getH hp id = some (.tok n k)) (hn : n = xs.length) (hx0 : xs ≠ [])
  (hnx : CWp c code ⟨env, (b, some (.box cs')) :: (id, some (.box (xs.flatten.map .d))) :: hp⟩ K) : CWp c code ⟨env, hp⟩ K := by
 rintro a w ⟨G, hr⟩
 subst hn
 have hne : b ≠ id := fun e => by subst e; rw [hb] at ht; cases ht
 obtain ⟨bl, vs, e, e1, e2, e3, e4, e5⟩ := hr.heap b _ hb
 obtain ⟨hlt, hcv⟩ := List.getElem?_eq_some_iff.1 hc
 have hlv : off < vs.size := by omega
 have h0 := e5 off hlt hlv
 rw [hcv] at h0
 obtain ⟨hv0, hcl⟩ := h0.gv_inv
 obtain ⟨hkx, htip⟩ := (hcl _ _ (tokf_some.2 ht)).2 rfl
 rcases htip with ⟨_, h2, _⟩ | ⟨b1, cap, us, et, h1, h2, h3, h4, h5, h6, h7⟩
 ·exact absurd (List.eq_nil_of_length_eq_zero h2) hx0
 obtain ⟨p1, p2, p3⟩ := putC_spec hput
 have s1 : (getH hp b).isSome := by rw [hb]; rfl
 have s2 : (getH hp id).isSome := by rw [ht]; rfl
 have g1 : getH ((b, some (Res.box cs')) :: (id, some (.box (xs.flatten.map .d))) :: hp) b = some (.box cs') := by rw [getH_cons, if_pos rfl]
 have g2 : getH ((b, some (Res.box cs')) :: (id, some (.box (xs.flatten.map .d))) :: hp) id = some (.box (xs.flatten.map .d)) := by rw [getH_cons, if_neg (Ne.symm hne), getH_cons, if_pos rfl]
 have t1 : tokf ((b, some (Res.box cs')) :: (id, some (.box (xs.flatten.map .d))) :: hp) b = none := by unfold tokf; rw [g1]
 have t2 : tokf ((b, some (Res.box cs')) :: (id, some (.box (xs.flatten.map .d))) :: hp) id = none := by unfold tokf; rw [g2]
 have hturn : Turn c G ⟨env, hp⟩ w G ((b, some (.box cs')) :: (id, some (.box (xs.flatten.map .d))) :: hp) [b, id] := by
  refine ⟨fun i hi => ?_, fun _ _ => rfl, fun _ _ => rfl, fun _ _ h => h, hr.top, fun i hi => .inr ⟨.inl rfl, ?_⟩, fun i hi _ x hx => ?_, fun i hi j hj hij _ _ x hx => ?_, fun i hi l hl => ?_⟩
  ·simp only [List.mem_cons, List.not_mem_nil, or_false, not_or] at hi
   rw [getH_cons, if_neg hi.1, getH_cons, if_neg hi.2]
  ·simp only [List.mem_cons, List.not_mem_nil, or_false] at hi
   rcases hi with rfl | rfl
   ·intro p hp; rw [t1] at hp; cases hp
   ·intro p hp; rw [t2] at hp; cases hp
  ·simp only [List.mem_cons, List.not_mem_nil, or_false] at hi
   rcases hi with rfl | rfl
   ·exact ⟨i, by simp, s1, hx⟩
   ·exact ⟨i, by simp, s2, hx⟩
  ·simp only [List.mem_cons, List.not_mem_nil, or_false] at hi hj
   rcases hi with rfl | rfl <;> rcases hj with rfl | rfl
   ·exact absurd rfl hij
   ·exact hr.disj _ _ s1 s2 hij x hx
   ·exact hr.disj _ _ s2 s1 hij x hx
   ·exact absurd rfl hij
  ·simp only [List.mem_cons, List.not_mem_nil, or_false] at hi
   have hk0 := hr.kept i l hl
   rcases hi with rfl | rfl
   ·exact ⟨hk0.1, by rw [g1]; rfl, t1⟩
   ·have := hk0.2.2
    rw [show (⟨env, hp⟩ : St).hp = hp from rfl, tokf_some.2 ht] at this; cases this
 refine hnx a w ⟨G, hturn.fin hr (fun i hi r hri => ?_)⟩
 simp only [List.mem_cons, List.not_mem_nil, or_false] at hi
 rcases hi with rfl | rfl
 ·rw [g1] at hri
  cases hri
  refine ⟨bl, vs, e, e1, e2, by omega, e4, fun j hj hjv => ?_⟩
  have h8 := p3 j
  rw [List.getElem?_eq_getElem hj] at h8
  by_cases hjo : j = off
  ·subst hjo
   rw [if_pos (by simp)] at h8
   simp only [Nat.sub_self, List.getElem?_cons_zero, Option.some.injEq] at h8
   rw [h8, h2]
   exact .ms (by rw [h1]; rfl) t2 h6
  ·rw [if_neg (by simp only [List.length_cons, List.length_nil]; omega)] at h8
   have hjc : j < cs.length := by omega
   rw [List.getElem?_eq_getElem hjc] at h8
   rw [Option.some.inj h8]
   exact hturn.cell hr hb (List.getElem_mem hjc) (e5 j hjc hjv)
 ·rw [g2] at hri
  cases hri
  have hfl : (xs.flatten.map AV.d).length = xs.length * k := by rw [List.length_map, flat_len hkx]
  refine ⟨b1, us, et, h1, h4, by rw [hfl]; exact Nat.le_trans (Nat.mul_le_mul_right _ h6) h5, h3, fun j hj hjv => ?_⟩
  rw [hfl] at hj
  obtain ⟨d1, d2, d3⟩ := divmod_lt hj
  have h8 := flat_getD hkx d1 d2
  rw [d3, List.getElem?_eq_getElem (by rw [hfl]; exact hj)] at h8
  rw [Option.some.inj h8]
  have h9 := h7 _ d1 (j % k) (by rw [hkx _ (List.getElem_mem d1)]; exact d2)
  rw [d3, getD_eq hjv] at h9
  exact .d h9
end
mutual
theorem Val.ok_sz : ∀ v : Val, v.size ≤ 1000000000000 → v.ok
 | .mk a n ks, h => by
  have h1 : 1 + Vals.size ks ≤ 1000000000000 := h
  exact ⟨by have := Vals.len_sz ks; omega, Vals.ok_sz ks (by omega)⟩
theorem Vals.ok_sz : ∀ l : List Val, Vals.size l ≤ 1000000000000 → Vals.ok l
 | [], _ => trivial
 | v :: r, h => by
  have h1 : v.size + Vals.size r ≤ 1000000000000 := h
  exact ⟨Val.ok_sz v (by omega), Vals.ok_sz r (by omega)⟩
theorem Vals.len_sz : ∀ l : List Val, l.length ≤ Vals.size l
 | [] => Nat.zero_le _
 | v :: r => by
  have h1 := Vals.len_sz r
  have h2 := Val.size_eq v
  show r.length + 1 ≤ v.size + Vals.size r
  omega
end
theorem Val.cs_app (a b : List Val) : Val.cs (a ++ b) = Val.cs a ++ Val.cs b := by rw [Val.cs_eq, Val.cs_eq, Val.cs_eq, List.map_append]
theorem cut0 {l : List (List D)} {x : List D} {r : List (List D)} {k : Nat} (h : l = x :: r) (hx : x.length = k) : cutC (l.flatten.map AV.d) 0 k = some (x.map .d) := by
 subst h
 rw [List.flatten_cons, List.map_append]
 exact cutC_zero (by simpa using hx)
theorem spec_l2Mutate_fn {b : Str} (hb : b.length ≤ 2000) : ∀ (n : Nat) {p : Nat} {v v' : Val} {q : Nat}, mutV b n p v = some (v', q) → v.size + (q - p) ≤ 1000000000 → q ≤ 1000000000 →
  FnD Try.prog 50 [.ref 900 0, .agg [.d (.i v.ctor), .d (.i v.num), .d (encVals v.kids)]] [(900, some (rdB b p))] (.agg [.d (.i v'.ctor), .d (.i v'.num), .d (encVals v'.kids)]) [(900, some (rdB b q))]
 | 0, p, v, v', q, h, _, _ => by simp [mutV] at h
 | n + 1, p, v, v', q, hm, hsz, hq => by
  have hpq := mutV_sz hm
  have hvs := Val.size_eq v
  have hkl := Vals.len_sz v.kids
  have hcl := Val.cs_len v.kids
  by_cases hn3 : pickV b p 24 = 3 ∧ v.kids ≠ []
  ·cases hk : v.kids with
   | nil => exact absurd hk hn3.2
   | cons y r =>
    obtain ⟨k1, p1, k2, h1, h2, rfl⟩ := mutV_3' hn3.1 hk hm
    have a1 := mutV_sz h1
    have a2 := mutV_sz h2
    have hc3 := hn3.1
    rw [hk] at hvs hkl hcl
    simp only [Vals.size, List.length_cons] at hvs hkl hcl
    have i1 := spec_l2Mutate_fn hb n h1 (by omega) (by omega)
    have i2 := spec_l2Mutate_fn hb n h2 (by omega) (by omega)
    have hcs : Val.cs (y :: r) = y.cc :: Val.cs r := by show y.c :: Val.cs r = _; rw [Val.c_eq]
    have hrl : (Val.cs (y :: r)).length = (Val.cs r).length + 1 := by rw [hcs]; rfl
    clear hm
    refine bd Try.f50 55 [50] [10, 12] fun w0 F0 own kept hk => ?_
    refine Walk.box (id := 3003) .none rfl rfl rfl rfl rfl rfl rfl ?_
    refine Walk.alloc (id := 3004) tz35 rfl .none rfl rfl rfl rfl ?_
    refine tv ?_
    refine Walk.sliceEmptyGV 1 sl33 .none rfl rfl ?_
    refine evd [50] [] ?_
    refine Walk.appendV sl33 zz35 .none rfl rfl rfl rfl (htokL rfl (by first | rfl | (simp; done) | (simp; omega))) (by intro x hx; exact Val.cs_rows x hx) (by simp [Val.cs_len]; omega) (by simp [Val.cs_len]; omega) ?_
    refine Walk.build st35 (ks := [0, 1, 2]) (xs := [_, _, _]) rfl rfl .none rfl rfl rfl ?_
    refine Walk.alloc (id := 3005) tz35 rfl .none rfl rfl rfl rfl ?_
    refine Walk.store ty35 .none rfl rfl rfl rfl rfl rfl (by simp) rfl ?_
    refine dr ?_
    refine Walk.call (cr := []) cal48 (spec_pick_fn (p := p) (n := 24) hb (by omega) (by omega)) rfl .none rfl rfl (LeL.refl _) ⟨rfl, trivial⟩ rfl rfl rfl ?_
    refine tv ?_
    refine sq (fun h1 h1p h1s => ?_) fun h1 h1p h1s => ?_
    ·try simp only [Q, Val.cs_len] at h1p
     exfalso; omega --stop
    ·try simp only [Q, Val.cs_len] at h1p
     refine sq (fun h2 h2p h2s => ?_) fun h2 h2p h2s => ?_
     ·try simp only [Q, Val.cs_len] at h2p
      exfalso; omega --stop
     ·try simp only [Q, Val.cs_len] at h2p
      refine sq (fun h3 h3p h3s => ?_) fun h3 h3p h3s => ?_
      ·try simp only [Q, Val.cs_len] at h3p
       exfalso; omega --stop
      ·try simp only [Q, Val.cs_len] at h3p
       refine sq (fun h4 h4p h4s => ?_) fun h4 h4p h4s => ?_
       ·try simp only [Q, Val.cs_len] at h4p
        refine CWp.fixVB 3005 2 1 3 rfl rfl rfl rfl (by first | rfl | (simp; done)) (by rw [hcs]; simp) ?_
        refine evc [50] [] ?_
        refine sq (fun h5 h5p h5s => ?_) fun h5 h5p h5s => ?_
        ·try simp only [Q, Val.cs_len] at h5p
         refine Walk.idxM (i := 0) sl33 .none rfl rfl rfl rfl (by simp; omega) ?_
         refine Walk.loadBA ty35 .none rfl rfl rfl ((cut0 hcs rfl)) ?_
         refine Walk.call (cr := []) cal50 (i1) rfl .none rfl rfl (LeL.refl _) ⟨rfl, trivial⟩ rfl rfl rfl ?_
         refine Walk.call (cr := []) cal50 (i2) rfl .none rfl rfl (LeL.refl _) ⟨rfl, trivial⟩ rfl rfl rfl ?_
         refine Walk.idxM (i := 0) sl33 .none rfl rfl rfl rfl (by simp; omega) ?_
         refine Walk.store ty35 .none rfl rfl rfl rfl rfl rfl (by simp) ((put0 hcs rfl)) ?_
         refine dr ?_
         refine CWp.frzC hk 3005 2 1 _ 3 rfl rfl rfl rfl rfl (by rw [List.nil_append, hrl]; exact chunk0 rfl rfl (fun x hx => Val.cs_rows x hx)) rfl ?_
         refine evc [50] [] ?_
         refine Walk.store ty35 .none rfl rfl rfl rfl rfl rfl (by simp) rfl ?_
         refine tv ?_
         refine rn [(900, some (rdB b q))] (.cons (.cellA ty35 rfl rfl rfl) .nil) (.agg (.cons (.eqd ?_) (.cons (.eqd ?_) (.cons (.eqd ?_) .nil)))) ⟨rfl, rfl⟩ (SubO.get ⟨.inr (by rfl), ⟨.inl rfl, trivial⟩⟩) (boxOK rfl)
         all_goals (first | rfl | (show D.sl _ = D.sl (Val.cs (k2 :: r)); rw [show Val.cs (k2 :: r) = k2.cc :: Val.cs r by show k2.c :: Val.cs r = _; rw [Val.c_eq]]))
        ·try simp only [Q, Val.cs_len] at h5p
         exfalso; rw [List.nil_append, hrl] at h5p; omega --stop
       ·try simp only [Q, Val.cs_len] at h4p
        exfalso; omega --stop
  ·simp only [mutV] at hm
   refine bd Try.f50 55 [] [] fun w0 F0 own kept hk => ?_
   refine Walk.box (id := 3003) .none rfl rfl rfl rfl rfl rfl rfl ?_
   refine Walk.alloc (id := 3004) tz35 rfl .none rfl rfl rfl rfl ?_
   refine tv ?_
   refine Walk.sliceEmptyG 1 sl33 .none rfl rfl ?_
   refine evd [] [] ?_
   refine Walk.append sl33 zz35 rfl .none rfl rfl rfl rfl (htokL rfl (by first | rfl | (simp; done) | (simp; omega))) (by first | (intro x hx; exact Val.cs_rows x hx) | (intro x hx; simp only [List.mem_singleton] at hx; subst hx; rfl)) (by simp [Val.cs_len]; omega) (by simp [Val.cs_len]; omega) ?_
   refine Walk.build st35 (ks := [0, 1, 2]) (xs := [_, _, _]) rfl rfl .none rfl rfl rfl ?_
   refine Walk.alloc (id := 3005) tz35 rfl .none rfl rfl rfl rfl ?_
   refine Walk.store ty35 .none rfl rfl rfl rfl rfl rfl (by simp) rfl ?_
   refine dr ?_
   refine Walk.call (cr := []) cal48 (spec_pick_fn (p := p) (n := 24) hb (by omega) (by omega)) rfl .none rfl rfl (LeL.refl _) ⟨rfl, trivial⟩ rfl rfl rfl ?_
   refine tv ?_
   refine sq (fun h1 h1p h1s => ?_) fun h1 h1p h1s => ?_
   ·try simp only [Q, Val.cs_len] at h1p
    rw [if_pos (by omega)] at hm; simp only [Option.some.injEq, Prod.mk.injEq] at hm; obtain ⟨hv', hq'⟩ := hm
    refine Walk.sliceLit sl93 tz3 rfl (by decide) (ks := [0, 1, 2, 3, 4]) (xs := [_, _, _, _, _]) rfl rfl (by decide) (by decide) .none rfl rfl rfl rfl ?_
    refine Walk.call (cr := []) cal63 (spec_num_fn (p := p + 1) (l := [0, 1, -1, 9, -2]) hb (by omega) (by simp) (by simp)) rfl .none rfl rfl (LeL.refl _) ⟨rfl, trivial⟩ rfl rfl rfl ?_
    refine ev ?_
    refine Walk.store ty3 .none rfl rfl rfl rfl rfl rfl (by simp) rfl ?_
    refine tv ?_
    refine Walk.store ty35 .none rfl rfl rfl rfl rfl rfl (by simp) rfl ?_
    refine tv ?_
    refine rn [(900, some (rdB b q))] (.cons (.cellA ty35 rfl rfl rfl) .nil) (.agg (.cons (.eqd ?_) (.cons (.eqd ?_) (.cons (.gld ?_) .nil)))) ⟨rfl, rfl⟩ (SubO.get ⟨.inr (by subst hq'; rfl), ⟨.inl rfl, trivial⟩⟩) (boxOK rfl)
    all_goals (subst hv'; first | rfl | (show D.sl _ = D.sl (Val.cs (v.kids ++ [.mk (-1) 0 []])); rw [Val.cs_app]; rfl) | (show _ = Val.cs (v.kids ++ [.mk (-1) 0 []]); rw [Val.cs_app]; rfl) | (rw [hk0]; rfl))
   ·try simp only [Q, Val.cs_len] at h1p
    refine sq (fun h2 h2p h2s => ?_) fun h2 h2p h2s => ?_
    ·try simp only [Q, Val.cs_len] at h2p
     rw [if_neg (by omega), if_pos (by omega)] at hm; simp only [Option.some.injEq, Prod.mk.injEq] at hm; obtain ⟨hv', hq'⟩ := hm
     refine Walk.sliceLit sl93 tz3 rfl (by decide) (ks := [0, 1, 2]) (xs := [_, _, _]) rfl rfl (by decide) (by decide) .none rfl rfl rfl rfl ?_
     refine Walk.call (cr := []) cal63 (spec_num_fn (p := p + 1) (l := [10, -1, 1]) hb (by omega) (by simp) (by simp)) rfl .none rfl rfl (LeL.refl _) ⟨rfl, trivial⟩ rfl rfl rfl ?_
     refine ev ?_
     refine Walk.store ty3 .none rfl rfl rfl rfl rfl rfl (by simp) rfl ?_
     refine tv ?_
     refine Walk.store ty35 .none rfl rfl rfl rfl rfl rfl (by simp) rfl ?_
     refine tv ?_
     refine rn [(900, some (rdB b q))] (.cons (.cellA ty35 rfl rfl rfl) .nil) (.agg (.cons (.eqd ?_) (.cons (.eqd ?_) (.cons (.gld ?_) .nil)))) ⟨rfl, rfl⟩ (SubO.get ⟨.inr (by subst hq'; rfl), ⟨.inl rfl, trivial⟩⟩) (boxOK rfl)
     all_goals (subst hv'; first | rfl | (show D.sl _ = D.sl (Val.cs (v.kids ++ [.mk (-1) 0 []])); rw [Val.cs_app]; rfl) | (show _ = Val.cs (v.kids ++ [.mk (-1) 0 []]); rw [Val.cs_app]; rfl) | (rw [hk0]; rfl))
    ·try simp only [Q, Val.cs_len] at h2p
     refine sq (fun h3 h3p h3s => ?_) fun h3 h3p h3s => ?_
     ·try simp only [Q, Val.cs_len] at h3p
      rw [if_neg (by omega), if_neg (by omega), if_pos (by omega)] at hm; simp only [Option.some.injEq, Prod.mk.injEq] at hm; obtain ⟨hv', hq'⟩ := hm
      refine Walk.build st35 (ks := [0]) (xs := [_]) rfl rfl .none rfl rfl rfl ?_
      refine Walk.sliceLit sl33 tz35 rfl (by decide) (ks := [0]) (xs := [_]) rfl rfl (by decide) (by decide) .none rfl rfl rfl rfl ?_
      refine Walk.append sl33 zz35 rfl .none rfl rfl rfl rfl (htokL rfl (by first | rfl | (simp; done) | (simp; omega))) (by first | (intro x hx; exact Val.cs_rows x hx) | (intro x hx; simp only [List.mem_singleton] at hx; subst hx; rfl)) (by simp [Val.cs_len]; omega) (by simp [Val.cs_len]; omega) ?_
      refine ev ?_
      refine Walk.store ty33 .none rfl rfl rfl rfl rfl rfl (by simp) rfl ?_
      refine tv ?_
      refine Walk.store ty35 .none rfl rfl rfl rfl rfl rfl (by simp) rfl ?_
      refine tv ?_
      refine rn [(900, some (rdB b q))] (.cons (.cellA ty35 rfl rfl rfl) .nil) (.agg (.cons (.eqd ?_) (.cons (.eqd ?_) (.cons (.gld ?_) .nil)))) ⟨rfl, rfl⟩ (SubO.get ⟨.inr (by subst hq'; rfl), ⟨.inl rfl, trivial⟩⟩) (boxOK rfl)
      all_goals (subst hv'; first | rfl | (show D.sl _ = D.sl (Val.cs (v.kids ++ [.mk (-1) 0 []])); rw [Val.cs_app]; rfl) | (show _ = Val.cs (v.kids ++ [.mk (-1) 0 []]); rw [Val.cs_app]; rfl) | (rw [hk0]; rfl))
     ·try simp only [Q, Val.cs_len] at h3p
      refine sq (fun h4 h4p h4s => ?_) fun h4 h4p h4s => ?_
      ·try simp only [Q, Val.cs_len] at h4p
       refine sq (fun h5 h5p h5s => ?_) fun h5 h5p h5s => ?_
       ·try simp only [Q, Val.cs_len] at h5p
        exfalso; apply hn3; refine ⟨by omega, fun hh => ?_⟩; rw [hh] at h5p; exact absurd h5p (by decide) --stop
       ·try simp only [Q, Val.cs_len] at h5p
        have hk0 : v.kids = [] := by cases hk : v.kids with | nil => rfl | cons y r => exact absurd ⟨by omega, by rw [hk]; simp⟩ hn3
        rw [if_neg (by omega), if_neg (by omega), if_neg (by omega), if_pos (by omega), hk0] at hm; simp only [Option.some.injEq, Prod.mk.injEq] at hm; obtain ⟨hv', hq'⟩ := hm
        refine Walk.store ty35 .none rfl rfl rfl rfl rfl rfl (by simp) rfl ?_
        refine tv ?_
        refine rn [(900, some (rdB b q))] (.cons (.cellA ty35 rfl rfl rfl) .nil) (.agg (.cons (.eqd ?_) (.cons (.eqd ?_) (.cons (.gld ?_) .nil)))) ⟨rfl, rfl⟩ (SubO.get ⟨.inr (by subst hq'; rfl), ⟨.inl rfl, trivial⟩⟩) (boxOK rfl)
        all_goals (subst hv'; first | rfl | (show D.sl _ = D.sl (Val.cs (v.kids ++ [.mk (-1) 0 []])); rw [Val.cs_app]; rfl) | (show _ = Val.cs (v.kids ++ [.mk (-1) 0 []]); rw [Val.cs_app]; rfl) | (rw [hk0]; rfl))
      ·try simp only [Q, Val.cs_len] at h4p
       rw [if_neg (by omega), if_neg (by omega), if_neg (by omega), if_neg (by omega)] at hm; simp only [Option.some.injEq, Prod.mk.injEq] at hm; obtain ⟨hv', hq'⟩ := hm
       refine Walk.store ty35 .none rfl rfl rfl rfl rfl rfl (by simp) rfl ?_
       refine tv ?_
       refine rn [(900, some (rdB b q))] (.cons (.cellA ty35 rfl rfl rfl) .nil) (.agg (.cons (.eqd ?_) (.cons (.eqd ?_) (.cons (.gld ?_) .nil)))) ⟨rfl, rfl⟩ (SubO.get ⟨.inr (by subst hq'; rfl), ⟨.inl rfl, trivial⟩⟩) (boxOK rfl)
       all_goals (subst hv'; first | rfl | (show D.sl _ = D.sl (Val.cs (v.kids ++ [.mk (-1) 0 []])); rw [Val.cs_app]; rfl) | (show _ = Val.cs (v.kids ++ [.mk (-1) 0 []]); rw [Val.cs_app]; rfl) | (rw [hk0]; rfl))
def fitsV (w : List Data) : Nat → Ty → Val → Bool
 | 0, _, _ => false
 | n + 1, t, v => if t.data = -1 then decide (v.ctor = -1) && (decide (0 ≤ v.num) && (decide (v.num ≤ 9) && decide (v.kids.length = 0)))
   else if v.num = 0 ∧ v.ctor ∈ ctorsOf w t then all2 (fitsV w n) (argsOf w t v.ctor) v.kids else false
def scanL (g : Ty → Val → Int → Bool × Int) : List Ty → List Val → Int → Bool × Int
 | a :: r, b :: s, c => if (g a b c).1 then scanL g r s (g a b c).2 else (false, (g a b c).2)
 | _, _, c => (true, c)
def scanV (w : List Data) : Nat → Ty → Val → Int → Bool × Int
 | 0, _, _, c => (false, c + 1)
 | n + 1, t, v, c => if 60 < c + 1 then (false, c + 1)
   else if t.data = -1 then (decide (v.ctor = -1) && (decide (0 ≤ v.num) && (decide (v.num ≤ 9) && decide (v.kids.length = 0))), c + 1)
   else if v.num = 0 ∧ v.ctor ∈ ctorsOf w t then (if (argsOf w t v.ctor).length = v.kids.length then scanL (scanV w n) (argsOf w t v.ctor) v.kids (c + 1) else (false, c + 1))
   else (false, c + 1)
theorem scanL_eq {w : List Data} {n : Nat} (ih : ∀ t v c, (scanV w n t v c).1 = (fitsV w n t v && decide (c + (v.size : Int) ≤ 60)) ∧ ((scanV w n t v c).1 = true → (scanV w n t v c).2 = c + v.size)) :
  ∀ (a : List Ty) (b : List Val) (c : Int), a.length = b.length → c ≤ 60 → (scanL (scanV w n) a b c).1 = (all2 (fitsV w n) a b && decide (c + (Vals.size b : Int) ≤ 60)) ∧ ((scanL (scanV w n) a b c).1 = true → (scanL (scanV w n) a b c).2 = c + Vals.size b)
 | [], [], c, _, hc => by simp [scanL, all2, Vals.size, hc]
 | x :: r, y :: s, c, hl, hc => by
  obtain ⟨h1, h2⟩ := ih x y c
  simp only [scanL, all2, Vals.size]
  cases hh : (scanV w n x y c).1 with
  | true =>
   have h3 := h2 hh
   rw [hh] at h1
   have h4 := h1.symm
   simp only [Bool.and_eq_true, decide_eq_true_eq] at h4
   obtain ⟨h5, h6⟩ := scanL_eq ih r s (scanV w n x y c).2 (by simpa using hl) (by omega)
   simp only [if_true]
   rw [h5]
   refine ⟨?_, fun hx => ?_⟩
   ·rw [h4.1, h3, Bool.true_and]
    congr 1
    exact decide_eq_decide.2 (by push_cast; omega)
   ·rw [← h5] at hx
    rw [h6 hx, h3]; push_cast; omega
  | false =>
   rw [hh] at h1
   simp only [Bool.false_eq_true, if_false, false_implies, and_true]
   have h4 := h1.symm
   simp only [Bool.and_eq_false_imp, decide_eq_false_iff_not] at h4
   symm
   cases hf : fitsV w n x y with
   | false => simp
   | true =>
    have := h4 hf
    have h7 : ¬ (c + ((y.size + Vals.size s : Nat) : Int) ≤ 60) := by push_cast; omega
    simp only [Bool.and_eq_false_imp]
    intro _; exact decide_eq_false h7
 | [], _ :: _, _, hl, _ => by simp at hl
 | _ :: _, [], _, hl, _ => by simp at hl
theorem Vals.size_nil {l : List Val} (h : l.length = 0) : Vals.size l = 0 := by
 cases l with
 | nil => rfl
 | cons x r => simp at h
theorem scanV_eq (w : List Data) : ∀ (n : Nat) (t : Ty) (v : Val) (c : Int), (scanV w n t v c).1 = (fitsV w n t v && decide (c + (v.size : Int) ≤ 60)) ∧ ((scanV w n t v c).1 = true → (scanV w n t v c).2 = c + v.size)
 | 0, t, v, c => by simp [scanV, fitsV]
 | n + 1, t, v, c => by
  have hsz := Val.size_eq v
  unfold scanV fitsV
  by_cases h1 : 60 < c + 1
  ·rw [if_pos h1]
   simp only [Bool.false_eq_true, false_implies, and_true]
   symm
   simp only [Bool.and_eq_false_imp, decide_eq_false_iff_not]
   intro _; omega
  ·rw [if_neg h1]
   by_cases h2 : t.data = -1
   ·rw [if_pos h2, if_pos h2]
    refine ⟨?_, fun hx => ?_⟩
    ·by_cases hk : v.kids.length = 0
     ·have := Vals.size_nil hk
      have h3 : decide (c + (v.size : Int) ≤ 60) = true := decide_eq_true (by omega)
      rw [h3, Bool.and_true]
     ·simp [hk]
    ·simp only [Bool.and_eq_true, decide_eq_true_eq] at hx
     have := Vals.size_nil hx.2.2.2
     simp only; omega
   ·rw [if_neg h2, if_neg h2]
    by_cases h3 : v.num = 0 ∧ v.ctor ∈ ctorsOf w t
    ·rw [if_pos h3, if_pos h3]
     by_cases h4 : (argsOf w t v.ctor).length = v.kids.length
     ·rw [if_pos h4]
      obtain ⟨h5, h6⟩ := scanL_eq (fun t v c => scanV_eq w n t v c) (argsOf w t v.ctor) v.kids (c + 1) h4 (by omega)
      refine ⟨?_, fun hx => ?_⟩
      ·rw [h5]
       congr 1
       exact decide_eq_decide.2 (by omega)
      ·rw [h6 hx]; omega
     ·rw [if_neg h4, all2_len h4]
      simp
    ·rw [if_neg h3, if_neg h3]
     simp
mutual
def cntV (m : Int) : Val → Int
 | .mk _ _ ks => cntL m 1 ks
def cntL (m n : Int) : List Val → Int
 | [] => n
 | k :: r => if n ≤ m then cntL m (n + cntV (m - n) k) r else n
end
theorem cntV_eq (m : Int) (v : Val) : cntV m v = cntL m 1 v.kids := by cases v; rfl
theorem cntL_stop {m n : Int} {l : List Val} (h : ¬ n ≤ m) : cntL m n l = n := by cases l <;> simp [cntL, h]
mutual
theorem cntV_le : ∀ (v : Val) (m : Int), 1 ≤ cntV m v ∧ cntV m v ≤ v.size
 | .mk _ _ ks, m => by
  have := cntL_le ks m 1 (by omega)
  simp only [cntV, Val.size]; push_cast; omega
theorem cntL_le : ∀ (l : List Val) (m n : Int), 1 ≤ n → 1 ≤ cntL m n l ∧ cntL m n l ≤ n + Vals.size l
 | [], m, n, h => by simp [cntL, Vals.size]; omega
 | k :: r, m, n, h => by
  have h1 := cntV_le k (m - n)
  have h2 := cntL_le r m (n + cntV (m - n) k) (by omega)
  simp only [cntL, Vals.size]
  split
  ·push_cast; omega
  ·push_cast; omega
end
mutual
theorem cntV_iff : ∀ (v : Val) (m : Int), (cntV m v ≤ m ↔ (v.size : Int) ≤ m) ∧ (cntV m v ≤ m → cntV m v = v.size)
 | .mk _ _ ks, m => by
  have := cntL_iff ks m 1
  simp only [cntV, Val.size]; push_cast; exact this
theorem cntL_iff : ∀ (l : List Val) (m n : Int), (cntL m n l ≤ m ↔ n + (Vals.size l : Int) ≤ m) ∧ (cntL m n l ≤ m → cntL m n l = n + Vals.size l)
 | [], m, n => by simp [cntL, Vals.size]
 | k :: r, m, n => by
  have h1 := cntV_iff k (m - n)
  have h2 := cntL_iff r m (n + cntV (m - n) k)
  have h3 := cntL_le r m (n + cntV (m - n) k)
  have h4 := cntV_le k (m - n)
  simp only [cntL, Vals.size]
  push_cast
  by_cases hn : n ≤ m
  ·rw [if_pos hn]
   by_cases h5 : cntV (m - n) k ≤ m - n
   ·have h6 := h1.2 h5
    rw [h6] at h2 ⊢
    constructor
    ·rw [h2.1]; constructor <;> intro h <;> omega
    ·intro h; rw [h2.2 h]; omega
   ·have h7 : ¬ (k.size : Int) ≤ m - n := fun h => h5 (h1.1.2 h)
    have h8 : ¬ n + cntV (m - n) k ≤ m := by omega
    rw [cntL_stop h8]
    constructor
    ·constructor <;> intro h <;> omega
    ·intro h; omega
  ·rw [if_neg hn]
   constructor
   ·constructor <;> intro h <;> omega
   ·intro h; omega
end
theorem Vals.size_split {pre rest l : List Val} {y : Val} (h : pre ++ y :: rest = l) : Vals.size l = Vals.size pre + y.size + Vals.size rest := by
 subst h
 induction pre with
 | nil => simp [Vals.size]
 | cons x r ih => simp only [List.cons_append, Vals.size, ih]; omega
theorem nth_size {l : List Val} {i : Nat} (h : i < l.length) : (nth l i).size ≤ Vals.size l := Vals.size_mem (nth_mem h)
theorem size_drop {l : List Val} {i : Nat} (h : i < l.length) : Vals.size (l.drop i) = (nth l i).size + Vals.size (l.drop (i + 1)) := by
 rw [drop_nth h]; rfl
theorem spec_l2Count_fn : ∀ (n : Nat) {v : Val} {m : Int}, v.size ≤ n → v.size ≤ 1000000000000 → v.ok → 0 ≤ m → m ≤ 1000000000000 → FnD Try.prog 54 [.agg [.d (.i v.ctor), .d (.i v.num), .d (encVals v.kids)], .d (.i m)] [] (.d (.i (cntV m v))) []
 | 0, v, m, h, _, _, _, _ => by rw [Val.size_eq] at h; omega
 | n + 1, v, m, h, hb, hok, m0, m1 => by
  rw [Val.size_eq] at h hb
  rw [Val.ok_iff] at hok
  rw [cntV_eq]
  refine bd Try.f54 31 [] [] fun w0 F0 own kept hk => ?_
  refine Walk.box (id := 3002) .none rfl rfl rfl rfl rfl rfl rfl ?_
  refine ev ?_
  refine CWp.loopX (ι := Nat × Int) hk (fun x => [(6, .d (.i (x.1 : Int))), (5, .d (.i x.2))]) [7, 8, 9, 10, 11, 12, 13, 14, 15, 16, 17, 18, 19, 20, 21, 22, 23, 24, 25, 26, 27, 28, 29] (fun x => []) (fun x => x.1 ≤ v.kids.length ∧ cntL m x.2 (v.kids.drop x.1) = cntL m 1 v.kids ∧ 1 ≤ x.2 ∧ x.2 + Vals.size (v.kids.drop x.1) ≤ 1 + Vals.size v.kids) (fun x => v.kids.length - x.1) (0, 1) ⟨by simp, by simp, by simp, by simp⟩ ⟨⟨_, rfl, (LeA.eqi (by first | rfl | (simp; done) | (dsimp only; omega)))⟩, ⟨⟨_, rfl, (LeA.eqi (by first | rfl | (simp; done) | (dsimp only; omega)))⟩, trivial⟩⟩ trivial (fun x => rfl) (fun x hg1 => ?_)
  refine evc [] [] ?_
  refine sq (fun h1 h1p h1s => ?_) fun h1 h1p h1s => ?_
  ·try simp only [Q, Val.cs_len] at h1p
   refine sq (fun h2 h2p h2s => ?_) fun h2 h2p h2s => ?_
   ·try simp only [Q, Val.cs_len] at h2p
    refine Walk.idx sl33 .none rfl rfl rfl rfl (vals_at (by omega)) rfl ?_
    refine ev ?_
    refine ar ?_ (by first | (constructor <;> omega) | (have hz := cntV_le (nth v.kids x.1) (m - x.2); have hs := size_drop (l := v.kids) (i := x.1) (by omega); constructor <;> omega) | (constructor <;> simp [Val.cs_len] <;> omega))
    refine Walk.call (cr := []) cal54 (spec_l2Count_fn n (v := nth v.kids x.1) (by have := nth_size (l := v.kids) (i := x.1) (by omega); omega) (by have := nth_size (l := v.kids) (i := x.1) (by omega); omega) (Vals.ok_mem hok.2 _ (nth_mem (by omega))) (by omega) (by omega)) rfl .none rfl rfl (LeL.refl _) trivial rfl rfl rfl ?_
    refine ev ?_
    refine ar ?_ (by first | (constructor <;> omega) | (have hz := cntV_le (nth v.kids x.1) (m - x.2); have hs := size_drop (l := v.kids) (i := x.1) (by omega); constructor <;> omega) | (constructor <;> simp [Val.cs_len] <;> omega))
    refine ar ?_ (by first | (constructor <;> omega) | (have hz := cntV_le (nth v.kids x.1) (m - x.2); have hs := size_drop (l := v.kids) (i := x.1) (by omega); constructor <;> omega) | (constructor <;> simp [Val.cs_len] <;> omega))
    refine Exists.intro ((x.1 + 1, x.2 + cntV (m - x.2) (nth v.kids x.1))) ⟨(by
        have hz := cntV_le (nth v.kids x.1) (m - x.2)
        have hs := size_drop (l := v.kids) (i := x.1) (by omega)
        refine ⟨by dsimp only; omega, ?_, by dsimp only; omega, by dsimp only; omega⟩
        rw [← hg1.2.1, drop_nth (l := v.kids) (i := x.1) (by omega), cntL, if_pos (by omega)]), (by dsimp only; omega), Sub.x (by kernel_rfl) (by kernel_rfl) ⟨⟨_, rfl, (LeA.eqi (by first | rfl | (simp; done) | (dsimp only; omega)))⟩, ⟨⟨_, rfl, (LeA.eqi (by first | rfl | (simp; done) | (dsimp only; omega)))⟩, trivial⟩⟩ (by kernel_rfl) (by kernel_rfl) trivial⟩
   ·try simp only [Q, Val.cs_len] at h2p
    refine rn0 (r1 rfl) (.eqd ?_)
    all_goals (refine congrArg D.i ?_; rw [← hg1.2.1]; first | (rw [List.drop_eq_nil_of_le (by omega)]; rfl) | (rw [cntL_stop (by omega)]))
  ·try simp only [Q, Val.cs_len] at h1p
   refine sqF ?_
   refine rn0 (r1 rfl) (.eqd ?_)
   all_goals (refine congrArg D.i ?_; rw [← hg1.2.1]; first | (rw [List.drop_eq_nil_of_le (by omega)]; rfl) | (rw [cntL_stop (by omega)]))
theorem spec_l2Fits_fn {w : List Data} (hw : WT w) : ∀ (n : Nat) {a k m : Int} {v : Val}, m = n → n ≤ 1000 → TyIn w.length ⟨a, k⟩ → v.ok →
  FnD Try.prog 53 [.d (encDatas w), .agg [.d (.i a), .d (.i k)], .agg [.d (.i v.ctor), .d (.i v.num), .d (encVals v.kids)], .d (.i m)] [] (.d (.bool (fitsV w n ⟨a, k⟩ v))) []
 | 0, a, k, m, v, hm, _, _, _ => by
  refine bd Try.f53 78 [] [] fun w0 F0 own kept hk => ?_
  refine Walk.box (id := 3005) .none rfl rfl rfl rfl rfl rfl rfl ?_
  refine Walk.box (id := 3006) .none rfl rfl rfl rfl rfl rfl rfl ?_
  refine ev ?_
  refine sq (fun h1 h1p h1s => ?_) fun h1 h1p h1s => ?_
  ·try simp only [Q] at h1p
   refine rn0 (r1 rfl) (.eqd ?_)
   all_goals (rfl)
  ·try simp only [Q] at h1p
   exfalso; simp at h1; omega --stop
 | n + 1, a, k, m, v, hm, hn, ht, hok => by
  rcases ht with ha | ⟨d, hd, hlt⟩
  ·have ha' : a = -1 := ha
   subst ha'
   refine bd Try.f53 78 [] [] fun w0 F0 own kept hk => ?_
   refine Walk.box (id := 3005) .none rfl rfl rfl rfl rfl rfl rfl ?_
   refine Walk.box (id := 3006) .none rfl rfl rfl rfl rfl rfl rfl ?_
   refine ev ?_
   refine sq (fun h1 h1p h1s => ?_) fun h1 h1p h1s => ?_
   ·try simp only [Q] at h1p
    exfalso; simp at h1; omega --stop
   ·try simp only [Q] at h1p
    refine sq (fun h2 h2p h2s => ?_) fun h2 h2p h2s => ?_
    ·try simp only [Q] at h2p
     refine sq (fun h3 h3p h3s => ?_) fun h3 h3p h3s => ?_
     ·try simp only [Q] at h3p
      refine sq (fun h4 h4p h4s => ?_) fun h4 h4p h4s => ?_
      ·try simp only [Q] at h4p
       refine sq (fun h5 h5p h5s => ?_) fun h5 h5p h5s => ?_
       ·try simp only [Q] at h5p
        refine rn0 (r1 rfl) (.eqd ?_)
        all_goals (refine congrArg D.bool ?_; simp [fitsV, Val.cs_len, h1s, h1p, h2s, h2p, h3s, h3p, h4s, h4p, h5s, h5p])
       ·try simp only [Q] at h5p
        refine rn0 (r1 rfl) (.eqd ?_)
        all_goals (refine congrArg D.bool ?_; simp [fitsV, Val.cs_len, h1s, h1p, h2s, h2p, h3s, h3p, h4s, h4p, h5s, h5p])
      ·try simp only [Q] at h4p
       refine sqF ?_
       refine rn0 (r1 rfl) (.eqd ?_)
       all_goals (refine congrArg D.bool ?_; simp [fitsV, Val.cs_len, h1s, h1p, h2s, h2p, h3s, h3p, h4s, h4p])
     ·try simp only [Q] at h3p
      refine sqF ?_
      refine sqF ?_
      refine rn0 (r1 rfl) (.eqd ?_)
      all_goals (refine congrArg D.bool ?_; simp [fitsV, Val.cs_len, h1s, h1p, h2s, h2p, h3s, h3p])
    ·try simp only [Q] at h2p
     exact absurd h2 (by simp) --stop
  have hd' : a = (d : Int) := hd
  subst hd'
  have hok' := hok
  rw [Val.ok_iff] at hok
  have hcl := ctorsOf_len hw (d := d) (k := k)
  have hdn : ¬ (d : Int) = -1 := by omega
  by_cases hv : v.num = 0 ∧ v.ctor ∈ ctorsOf w ⟨d, k⟩
  ·have hal := argsOf_len hw hlt (k := k) (place_of (k := k) (c := v.ctor) hv.2)
   refine bd Try.f53 78 [] [] fun w0 F0 own kept hk => ?_
   refine Walk.box (id := 3005) .none rfl rfl rfl rfl rfl rfl rfl ?_
   refine Walk.box (id := 3006) .none rfl rfl rfl rfl rfl rfl rfl ?_
   refine ev ?_
   refine sq (fun h1 h1p h1s => ?_) fun h1 h1p h1s => ?_
   ·try simp only [Q, Val.cs_len] at h1p
    exfalso; simp at h1; omega --stop
   ·try simp only [Q, Val.cs_len] at h1p
    refine sq (fun h2 h2p h2s => ?_) fun h2 h2p h2s => ?_
    ·try simp only [Q, Val.cs_len] at h2p
     exfalso; simp at h2 <;> omega --stop
    ·try simp only [Q, Val.cs_len] at h2p
     refine sq (fun h3 h3p h3s => ?_) fun h3 h3p h3s => ?_
     ·try simp only [Q, Val.cs_len] at h3p
      refine dr ?_
      refine sqT ?_
      exfalso; have e1 := hv.1; have e2 := hv.2; simp_all --stop
     ·try simp only [Q, Val.cs_len] at h3p
      refine Walk.call (cr := []) cal76 (spec_l1Ctors_in hw hlt) rfl (.some rfl rfl h3) rfl rfl (LeL.refl _) trivial rfl rfl rfl ?_
      refine evd [] [(38, false)] ?_ ⟨⟨_, rfl, h3⟩, trivial⟩
      refine Walk.call (cr := []) cal75 (spec_l1Has_fn hcl) rfl (.some rfl rfl h3) rfl rfl (LeL.refl _) trivial rfl rfl rfl ?_
      refine evd [] [(38, false)] ?_ ⟨⟨_, rfl, h3⟩, trivial⟩
      refine dr ?_
      refine sq (fun h5 h5p h5s => ?_) fun h5 h5p h5s => ?_
      ·try simp only [Q, Val.cs_len] at h5p
       exfalso; have e1 := hv.1; have e2 := hv.2; simp_all --stop
      ·try simp only [Q, Val.cs_len] at h5p
       refine Walk.call (cr := []) cal77 (spec_l1Args_in hw hlt (place_of (k := k) (c := v.ctor) hv.2)) rfl .none rfl rfl (LeL.refl _) trivial rfl rfl rfl ?_
       refine ev ?_
       refine sq (fun h6 h6p h6s => ?_) fun h6 h6p h6s => ?_
       ·try simp only [Q, Val.cs_len] at h6p
        refine rn0 (r1 rfl) (.eqd ?_)
        all_goals (refine congrArg D.bool ?_; unfold fitsV; rw [if_neg hdn, if_pos hv]; first | (rw [all2_len (by simp [Val.cs_len] at *; omega)]) | (rw [all2_nth_true (by simp [Val.cs_len] at *; omega) (fun x hx => hg1.2 x (by simp [Val.cs_len] at *; omega))]) | (rw [all2_nth_false (i := i) (by simp [Val.cs_len] at *; omega) (by simp [Val.cs_len] at *; omega) (by assumption)]))
       ·try simp only [Q, Val.cs_len] at h6p
        refine CWp.loopX (ι := Nat) hk (fun i => [(10, .d (.i (i : Int)))]) [8, 58, 59, 60, 61, 62, 63, 64, 65, 66, 67, 68, 69, 70, 71, 72, 73, 74, 75, 76, 77] (fun i => []) (fun i => i ≤ (argsOf w ⟨d, k⟩ v.ctor).length ∧ ∀ i', i' < i → fitsV w n (nth (argsOf w ⟨d, k⟩ v.ctor) i') (nth v.kids i') = true) (fun i => (argsOf w ⟨d, k⟩ v.ctor).length - i) 0 ⟨by omega, fun _ h => absurd h (by omega)⟩ ⟨⟨_, rfl, (LeA.eqi (by first | rfl | (simp; done) | (simp_all; done) | omega))⟩, trivial⟩ trivial (fun x => rfl) (fun i hg1 => ?_)
        refine evc [] [] ?_
        refine sq (fun h7 h7p h7s => ?_) fun h7 h7p h7s => ?_
        ·try simp only [Q, Val.cs_len] at h7p
         refine Walk.idx sl25 .none rfl rfl rfl rfl (at_nth (by omega)) rfl ?_
         refine evd [] [] ?_
         refine Walk.idx sl33 .none rfl rfl rfl rfl (vals_at (by omega)) rfl ?_
         refine evd [] [] ?_
         refine ar ?_ (by first | (constructor <;> omega) | (constructor <;> simp [Val.cs_len] <;> omega))
         refine Walk.call (cr := []) cal53 (spec_l2Fits_fn hw n (by omega) (by omega) (argsOf_in hw hlt (k := k) (place_of (k := k) (c := v.ctor) hv.2) (nth_mem (by omega))) (Vals.ok_mem hok.2 _ (nth_mem (by omega)))) rfl .none rfl rfl (LeL.refl _) trivial rfl rfl rfl ?_
         refine evd [] [] ?_
         refine dr ?_
         refine sq (fun h8 h8p h8s => ?_) fun h8 h8p h8s => ?_
         ·try simp only [Q, Val.cs_len] at h8p
          refine rn0 (r1 rfl) (.eqd ?_)
          all_goals (refine congrArg D.bool ?_; unfold fitsV; rw [if_neg hdn, if_pos hv]; first | (rw [all2_len (by simp [Val.cs_len] at *; omega)]) | (rw [all2_nth_true (by simp [Val.cs_len] at *; omega) (fun x hx => hg1.2 x (by simp [Val.cs_len] at *; omega))]) | (rw [all2_nth_false (i := i) (by simp [Val.cs_len] at *; omega) (by simp [Val.cs_len] at *; omega) (by assumption)]))
         ·try simp only [Q, Val.cs_len] at h8p
          refine ar ?_ (by first | (constructor <;> omega) | (constructor <;> simp [Val.cs_len] <;> omega))
          refine Exists.intro (i + 1) ⟨⟨by omega, upto_succ hg1.2 (by assumption)⟩, (by omega), Sub.x (by kernel_rfl) (by kernel_rfl) ⟨⟨_, rfl, (LeA.eqi (by first | rfl | (simp; done) | (simp_all; done) | omega))⟩, trivial⟩ (by kernel_rfl) (by kernel_rfl) trivial⟩
        ·try simp only [Q, Val.cs_len] at h7p
         refine rn0 (r1 rfl) (.eqd ?_)
         all_goals (refine congrArg D.bool ?_; unfold fitsV; rw [if_neg hdn, if_pos hv]; first | (rw [all2_len (by simp [Val.cs_len] at *; omega)]) | (rw [all2_nth_true (by simp [Val.cs_len] at *; omega) (fun x hx => hg1.2 x (by simp [Val.cs_len] at *; omega))]) | (rw [all2_nth_false (i := i) (by simp [Val.cs_len] at *; omega) (by simp [Val.cs_len] at *; omega) (by assumption)]))
  ·skip
   refine bd Try.f53 78 [] [] fun w0 F0 own kept hk => ?_
   refine Walk.box (id := 3005) .none rfl rfl rfl rfl rfl rfl rfl ?_
   refine Walk.box (id := 3006) .none rfl rfl rfl rfl rfl rfl rfl ?_
   refine ev ?_
   refine sq (fun h1 h1p h1s => ?_) fun h1 h1p h1s => ?_
   ·try simp only [Q] at h1p
    exfalso; simp at h1; omega --stop
   ·try simp only [Q] at h1p
    refine sq (fun h2 h2p h2s => ?_) fun h2 h2p h2s => ?_
    ·try simp only [Q] at h2p
     exfalso; simp at h2 <;> omega --stop
    ·try simp only [Q] at h2p
     refine sq (fun h3 h3p h3s => ?_) fun h3 h3p h3s => ?_
     ·try simp only [Q] at h3p
      refine dr ?_
      refine sqT ?_
      refine rn0 (r1 rfl) (.eqd ?_)
      all_goals (refine congrArg D.bool ?_; unfold fitsV; rw [if_neg hdn, if_neg hv])
     ·try simp only [Q] at h3p
      refine Walk.call (cr := []) cal76 (spec_l1Ctors_in hw hlt) rfl (.some rfl rfl h3) rfl rfl (LeL.refl _) trivial rfl rfl rfl ?_
      refine evd [] [(38, false)] ?_ ⟨⟨_, rfl, h3⟩, trivial⟩
      refine Walk.call (cr := []) cal75 (spec_l1Has_fn hcl) rfl (.some rfl rfl h3) rfl rfl (LeL.refl _) trivial rfl rfl rfl ?_
      refine evd [] [(38, false)] ?_ ⟨⟨_, rfl, h3⟩, trivial⟩
      refine dr ?_
      refine sq (fun h5 h5p h5s => ?_) fun h5 h5p h5s => ?_
      ·try simp only [Q] at h5p
       refine rn0 (r1 rfl) (.eqd ?_)
       all_goals (refine congrArg D.bool ?_; unfold fitsV; rw [if_neg hdn, if_neg hv])
      ·try simp only [Q] at h5p
       exfalso; simp_all --stop
def isV (w : List Data) (t : Ty) (v : Val) : Bool := fitsV w 10 t v && decide ((v.size : Int) ≤ 60)
theorem spec_l2Is_fn {w : List Data} (hw : WT w) {a k : Int} {v : Val} (ht : TyIn w.length ⟨a, k⟩) (hok : v.ok) (hb : v.size ≤ 1000000000000) :
  FnD Try.prog 32 [.d (encDatas w), .agg [.d (.i a), .d (.i k)], .agg [.d (.i v.ctor), .d (.i v.num), .d (encVals v.kids)]] [] (.d (.bool (isV w ⟨a, k⟩ v))) [] := by
 have hc := cntV_iff v 60
 refine bd Try.f32 16 [] [] fun w0 F0 own kept hk => ?_
 refine Walk.box (id := 3004) .none rfl rfl rfl rfl rfl rfl rfl ?_
 refine Walk.box (id := 3005) .none rfl rfl rfl rfl rfl rfl rfl ?_
 refine ev ?_
 refine Walk.call (cr := []) cal53 (spec_l2Fits_fn hw 10 (by omega) (by omega) ht hok) rfl .none rfl rfl (LeL.refl _) trivial rfl rfl rfl ?_
 refine ev ?_
 refine sq (fun h1 h1p h1s => ?_) fun h1 h1p h1s => ?_
 ·try simp only [Q] at h1p
  refine Walk.call (cr := []) cal54 (spec_l2Count_fn _ (Nat.le_refl _) hb hok (by omega) (by omega)) rfl (.some rfl rfl h1) rfl rfl (LeL.refl _) trivial rfl rfl rfl ?_
  refine evs [] [(11, true)] ?_ ⟨⟨_, rfl, h1⟩, trivial⟩
  refine rn0 (r1 rfl) (.eqd ?_)
  all_goals (refine congrArg D.bool ?_; unfold isV; simp only [h1s, h1p]; first | rfl | (simp only [Bool.true_and]; exact decide_eq_decide.2 hc.1) | (simp; done))
 ·try simp only [Q] at h1p
  refine rn0 (r1 rfl) (.eqd ?_)
  all_goals (refine congrArg D.bool ?_; unfold isV; simp only [h1s, h1p]; first | rfl | (simp only [Bool.true_and]; exact decide_eq_decide.2 hc.1) | (simp; done))
theorem scanL_stop {w : List Data} {n : Nat} {a : List Ty} {b : List Val} {i : Nat} {c : Int} (ha : i < a.length) (hl : a.length = b.length) (h : (scanV w n (nth a i) (nth b i) c).1 = false) :
  scanL (scanV w n) (a.drop i) (b.drop i) c = (false, (scanV w n (nth a i) (nth b i) c).2) := by
 rw [drop_nth ha, drop_nth (l := b) (by omega), scanL, if_neg (by rw [h]; simp)]
theorem scanL_next {w : List Data} {n : Nat} {a : List Ty} {b : List Val} {i : Nat} {c : Int} (ha : i < a.length) (hl : a.length = b.length) (h : (scanV w n (nth a i) (nth b i) c).1 = true) :
  scanL (scanV w n) (a.drop i) (b.drop i) c = scanL (scanV w n) (a.drop (i + 1)) (b.drop (i + 1)) (scanV w n (nth a i) (nth b i) c).2 := by
 rw [drop_nth ha, drop_nth (l := b) (by omega), scanL, if_pos h]
theorem scanL_end {w : List Data} {n : Nat} {a : List Ty} {b : List Val} {i : Nat} {c : Int} (ha : a.length ≤ i) : scanL (scanV w n) (a.drop i) (b.drop i) c = (true, c) := by
 rw [List.drop_eq_nil_of_le ha, scanL]
 simp
theorem scanV_bd (w : List Data) (n : Nat) (t : Ty) (v : Val) (c : Int) (h : (scanV w n t v c).1 = true) : c ≤ (scanV w n t v c).2 ∧ (scanV w n t v c).2 ≤ 60 := by
 have h1 := (scanV_eq w n t v c)
 have h2 := h1.2 h
 rw [h1.1] at h
 simp only [Bool.and_eq_true, decide_eq_true_eq] at h
 omega
theorem impl_valueScan_fn {w : List Data} (hw : WT w) : ∀ (n : Nat) {a k d c : Int} {v : Val}, d + n = 11 → n ≤ 10 → TyIn w.length ⟨a, k⟩ → v.ok → 0 ≤ c → c ≤ 1000000000000 →
  FnD Try.prog 52 [.d (encDatas w), .agg [.d (.i a), .d (.i k)], .agg [.d (.i v.ctor), .d (.i v.num), .d (encVals v.kids)], .d (.i d), .d (.bool false), .ref 950 0] [(950, some (.box [.d (.i c)]))]
   (.d (.bool (scanV w n ⟨a, k⟩ v c).1)) [(950, some (.box [.d (.i (scanV w n ⟨a, k⟩ v c).2)]))]
 | 0, a, k, d, c, v, hd, _, _, _, c0, c1 => by
  refine bd Try.f52 108 [] [] fun w0 F0 own kept hk => ?_
  refine Walk.box (id := 3007) .none rfl rfl rfl rfl rfl rfl rfl ?_
  refine Walk.box (id := 3008) .none rfl rfl rfl rfl rfl rfl rfl ?_
  refine ev ?_
  refine ar ?_
  refine Walk.store ty3 .none rfl rfl rfl rfl rfl rfl (by simp) rfl ?_
  refine tv ?_
  refine sq (fun h1 h1p h1s => ?_) fun h1 h1p h1s => ?_
  ·try simp only [Q] at h1p
   refine sqT ?_
   refine rn [(950, some (.box [.d (.i (scanV w 0 ⟨a, k⟩ v c).2)]))] (r1 rfl) (.eqd ?_) ⟨rfl, rfl⟩ (SubO.get ⟨.inr (by rfl), ⟨.inl rfl, trivial⟩⟩) (boxOK rfl)
   all_goals (rfl)
  ·try simp only [Q] at h1p
   refine sq (fun h3 h3p h3s => ?_) fun h3 h3p h3s => ?_
   ·try simp only [Q] at h3p
    refine rn [(950, some (.box [.d (.i (scanV w 0 ⟨a, k⟩ v c).2)]))] (r1 rfl) (.eqd ?_) ⟨rfl, rfl⟩ (SubO.get ⟨.inr (by rfl), ⟨.inl rfl, trivial⟩⟩) (boxOK rfl)
    all_goals (rfl)
   ·try simp only [Q] at h3p
    exfalso; simp at *; omega --stop
 | n + 1, a, k, d, c, v, hd, hn, ht, hok, c0, c1 => by
  by_cases h60 : 60 < c + 1
  ·skip
   refine bd Try.f52 108 [] [] fun w0 F0 own kept hk => ?_
   refine Walk.box (id := 3007) .none rfl rfl rfl rfl rfl rfl rfl ?_
   refine Walk.box (id := 3008) .none rfl rfl rfl rfl rfl rfl rfl ?_
   refine ev ?_
   refine ar ?_
   refine Walk.store ty3 .none rfl rfl rfl rfl rfl rfl (by simp) rfl ?_
   refine tv ?_
   refine sq (fun h1 h1p h1s => ?_) fun h1 h1p h1s => ?_
   ·try simp only [Q] at h1p
    refine sqT ?_
    refine rn [(950, some (.box [.d (.i (scanV w (n + 1) ⟨a, k⟩ v c).2)]))] (r1 rfl) (.eqd ?_) ⟨rfl, rfl⟩ (SubO.get ⟨.inr (by (unfold scanV; rw [if_pos h60]; rfl)), ⟨.inl rfl, trivial⟩⟩) (boxOK rfl)
    all_goals (unfold scanV; rw [if_pos h60])
   ·try simp only [Q] at h1p
    refine sq (fun h3 h3p h3s => ?_) fun h3 h3p h3s => ?_
    ·try simp only [Q] at h3p
     refine rn [(950, some (.box [.d (.i (scanV w (n + 1) ⟨a, k⟩ v c).2)]))] (r1 rfl) (.eqd ?_) ⟨rfl, rfl⟩ (SubO.get ⟨.inr (by (unfold scanV; rw [if_pos h60]; rfl)), ⟨.inl rfl, trivial⟩⟩) (boxOK rfl)
     all_goals (unfold scanV; rw [if_pos h60])
    ·try simp only [Q] at h3p
     exfalso; simp at *; omega --stop
  rcases ht with ha | ⟨e, he, hlt⟩
  ·have ha' : a = -1 := ha
   subst ha'
   refine bd Try.f52 108 [] [] fun w0 F0 own kept hk => ?_
   refine Walk.box (id := 3007) .none rfl rfl rfl rfl rfl rfl rfl ?_
   refine Walk.box (id := 3008) .none rfl rfl rfl rfl rfl rfl rfl ?_
   refine ev ?_
   refine ar ?_
   refine Walk.store ty3 .none rfl rfl rfl rfl rfl rfl (by simp) rfl ?_
   refine tv ?_
   refine sq (fun h1 h1p h1s => ?_) fun h1 h1p h1s => ?_
   ·try simp only [Q] at h1p
    refine sqT ?_
    exfalso; simp at *; omega --stop
   ·try simp only [Q] at h1p
    refine sq (fun h3 h3p h3s => ?_) fun h3 h3p h3s => ?_
    ·try simp only [Q] at h3p
     exfalso; simp at *; omega --stop
    ·try simp only [Q] at h3p
     refine sqF ?_
     refine sqF ?_
     refine sq (fun h5 h5p h5s => ?_) fun h5 h5p h5s => ?_
     ·try simp only [Q] at h5p
      refine sq (fun h6 h6p h6s => ?_) fun h6 h6p h6s => ?_
      ·try simp only [Q] at h6p
       refine Walk.call (cr := []) cal25 (impl_within_fn) rfl (.some rfl rfl h6) rfl rfl (LeL.refl _) trivial rfl rfl rfl ?_
       refine evs [] [(52, true)] ?_ ⟨⟨_, rfl, h6⟩, trivial⟩
       refine sq (fun h7 h7p h7s => ?_) fun h7 h7p h7s => ?_
       ·try simp only [Q] at h7p
        refine rn [(950, some (.box [.d (.i (scanV w (n + 1) ⟨-1, k⟩ v c).2)]))] (r1 rfl) (.eqd ?_) ⟨rfl, rfl⟩ (SubO.get ⟨.inr (by (unfold scanV; rw [if_neg h60, if_pos rfl]; rfl)), ⟨.inl rfl, trivial⟩⟩) (boxOK rfl)
        all_goals (refine congrArg D.bool ?_; unfold scanV; rw [if_neg h60, if_pos rfl]; simp only [within] at *; first | (simp_all [Val.cs_len]; done) | (simp_all [Val.cs_len]; intro h1 h2; omega))
       ·try simp only [Q] at h7p
        refine rn [(950, some (.box [.d (.i (scanV w (n + 1) ⟨-1, k⟩ v c).2)]))] (r1 rfl) (.eqd ?_) ⟨rfl, rfl⟩ (SubO.get ⟨.inr (by (unfold scanV; rw [if_neg h60, if_pos rfl]; rfl)), ⟨.inl rfl, trivial⟩⟩) (boxOK rfl)
        all_goals (refine congrArg D.bool ?_; unfold scanV; rw [if_neg h60, if_pos rfl]; simp only [within] at *; first | (simp_all [Val.cs_len]; done) | (simp_all [Val.cs_len]; intro h1 h2; omega))
      ·try simp only [Q] at h6p
       refine sqF ?_
       refine rn [(950, some (.box [.d (.i (scanV w (n + 1) ⟨-1, k⟩ v c).2)]))] (r1 rfl) (.eqd ?_) ⟨rfl, rfl⟩ (SubO.get ⟨.inr (by (unfold scanV; rw [if_neg h60, if_pos rfl]; rfl)), ⟨.inl rfl, trivial⟩⟩) (boxOK rfl)
       all_goals (refine congrArg D.bool ?_; unfold scanV; rw [if_neg h60, if_pos rfl]; simp only [within] at *; first | (simp_all [Val.cs_len]; done) | (simp_all [Val.cs_len]; intro h1 h2; omega))
     ·try simp only [Q] at h5p
      exact absurd h5 (by simp) --stop
  have he' : a = (e : Int) := he
  subst he'
  have hok' := hok
  rw [Val.ok_iff] at hok
  have hcl := ctorsOf_len hw (d := e) (k := k)
  have hdn : ¬ (e : Int) = -1 := by omega
  by_cases hv : v.num = 0 ∧ v.ctor ∈ ctorsOf w ⟨e, k⟩
  ·have hal := argsOf_len hw hlt (k := k) (place_of (k := k) (c := v.ctor) hv.2)
   by_cases hlen : (argsOf w ⟨e, k⟩ v.ctor).length = v.kids.length
   ·have hsc : scanV w (n + 1) ⟨e, k⟩ v c = scanL (scanV w n) (argsOf w ⟨e, k⟩ v.ctor) v.kids (c + 1) := by
     conv => lhs; unfold scanV
     rw [if_neg h60, if_neg hdn, if_pos hv, if_pos hlen]
    rw [hsc]
    refine bd Try.f52 108 [] [] fun w0 F0 own kept hk => ?_
    refine Walk.box (id := 3007) .none rfl rfl rfl rfl rfl rfl rfl ?_
    refine Walk.box (id := 3008) .none rfl rfl rfl rfl rfl rfl rfl ?_
    refine ev ?_
    refine ar ?_ (by first | (constructor <;> omega) | (constructor <;> simp [Val.cs_len] <;> omega))
    refine Walk.store ty3 .none rfl rfl rfl rfl rfl rfl (by simp) rfl ?_
    refine tv ?_
    refine sq (fun h1 h1p h1s => ?_) fun h1 h1p h1s => ?_
    ·try simp only [Q, Val.cs_len, Ty.eta] at h1p
     refine sqT ?_
     exfalso; simp at *; omega --stop
    ·try simp only [Q, Val.cs_len, Ty.eta] at h1p
     refine sq (fun h3 h3p h3s => ?_) fun h3 h3p h3s => ?_
     ·try simp only [Q, Val.cs_len, Ty.eta] at h3p
      exfalso; simp at *; omega --stop
     ·try simp only [Q, Val.cs_len, Ty.eta] at h3p
      refine sqF ?_
      refine sqF ?_
      refine sq (fun h5 h5p h5s => ?_) fun h5 h5p h5s => ?_
      ·try simp only [Q, Val.cs_len, Ty.eta] at h5p
       exfalso; simp at * <;> omega --stop
      ·try simp only [Q, Val.cs_len, Ty.eta] at h5p
       refine sq (fun h6 h6p h6s => ?_) fun h6 h6p h6s => ?_
       ·try simp only [Q, Val.cs_len, Ty.eta] at h6p
        refine dr ?_
        refine sqT ?_
        exfalso; have e1 := hv.1; have e2 := hv.2; simp_all --stop
       ·try simp only [Q, Val.cs_len, Ty.eta] at h6p
        refine Walk.call (cr := []) cal73 (impl_ctorsOf_in hw hlt) rfl (.some rfl rfl h6) rfl rfl (LeL.refl _) trivial rfl rfl rfl ?_
        refine evd [] [(67, false)] ?_ ⟨⟨_, rfl, h6⟩, trivial⟩
        refine Walk.call (cr := []) cal72 (slices_Contains_int_fn hcl) rfl (.some rfl rfl h6) rfl rfl (LeL.refl _) trivial rfl rfl rfl ?_
        refine evd [] [(67, false)] ?_ ⟨⟨_, rfl, h6⟩, trivial⟩
        refine dr ?_
        refine sq (fun h8 h8p h8s => ?_) fun h8 h8p h8s => ?_
        ·try simp only [Q, Val.cs_len, Ty.eta] at h8p
         exfalso; have e1 := hv.1; have e2 := hv.2; simp_all --stop
        ·try simp only [Q, Val.cs_len, Ty.eta] at h8p
         refine Walk.call (cr := []) cal74 (impl_argTypes_in hw hlt (place_of (k := k) (c := v.ctor) hv.2)) rfl .none rfl rfl (LeL.refl _) trivial rfl rfl rfl ?_
         refine ev ?_
         refine sq (fun h9 h9p h9s => ?_) fun h9 h9p h9s => ?_
         ·try simp only [Q, Val.cs_len, Ty.eta] at h9p
          exfalso; simp [Val.cs_len, hlen] at h9 --stop
         ·try simp only [Q, Val.cs_len, Ty.eta] at h9p
          refine CWp.loopX (ι := Nat × Int) hk (fun x => [(90, .d (.i (x.1 : Int)))]) [12, 14, 15, 91, 92, 93, 94, 95, 96, 97, 98, 99, 100, 101, 102, 103, 104, 105, 106, 107] (fun x => [(950, some (.box [.d (.i x.2)]))]) (fun x => x.1 ≤ v.kids.length ∧ scanL (scanV w n) ((argsOf w ⟨e, k⟩ v.ctor).drop x.1) (v.kids.drop x.1) x.2 = scanL (scanV w n) (argsOf w ⟨e, k⟩ v.ctor) v.kids (c + 1) ∧ 0 ≤ x.2 ∧ x.2 ≤ 60) (fun x => v.kids.length - x.1) (0, c + 1) ⟨by simp, by simp, by dsimp only; omega, by dsimp only; omega⟩ ⟨⟨_, rfl, (LeA.eqi (by first | rfl | (simp; done) | (dsimp only; omega)))⟩, trivial⟩ ⟨(by first | rfl | (simp [getH]; done)), trivial⟩ (fun x => rfl) (fun x hg1 => ?_)
          refine evc [] [] ?_
          refine sq (fun h10 h10p h10s => ?_) fun h10 h10p h10s => ?_
          ·try simp only [Q, Val.cs_len, Ty.eta] at h10p
           refine Walk.idx sl33 .none rfl rfl rfl rfl (vals_at (by omega)) rfl ?_
           refine ev ?_
           refine Walk.alloc (id := 3015) tz35 rfl .none rfl rfl rfl rfl ?_
           refine ev ?_
           refine Walk.store ty35 .none rfl rfl rfl rfl rfl rfl (by simp) rfl ?_
           refine tv ?_
           refine Walk.idx sl25 .none rfl rfl rfl rfl (at_nth (by omega)) rfl ?_
           refine evd [] [] ?_
           refine ar ?_ (by first | (constructor <;> omega) | (constructor <;> simp [Val.cs_len] <;> omega))
           refine Walk.call (cr := []) cal52 (impl_valueScan_fn hw n (a := (nth (argsOf w ⟨e, k⟩ v.ctor) x.1).data) (k := (nth (argsOf w ⟨e, k⟩ v.ctor) x.1).index) (c := x.2) (by omega) (by omega) (argsOf_in hw hlt (k := k) (place_of (k := k) (c := v.ctor) hv.2) (nth_mem (by omega))) (Vals.ok_mem hok.2 _ (nth_mem (by omega))) (by omega) (by omega)) rfl .none rfl rfl (LeL.refl _) ⟨rfl, trivial⟩ rfl rfl rfl ?_
           refine evd [] [] ?_
           refine dr ?_
           refine sq (fun h11 h11p h11s => ?_) fun h11 h11p h11s => ?_
           ·try simp only [Q, Val.cs_len, Ty.eta] at h11p
            refine rn [(950, some (.box [.d (.i (scanL (scanV w n) (argsOf w ⟨e, k⟩ v.ctor) v.kids (c + 1)).2)]))] (r1 rfl) (.eqd ?_) ⟨rfl, rfl⟩ (SubO.get ⟨.inr (by first | (obtain ⟨h1, h2, h3, h4⟩ := hg1; show some (Res.box _) = some (Res.box _); rw [← h2, scanL_end (by simp [Val.cs_len] at *; omega)]) | (obtain ⟨h1, h2, h3, h4⟩ := hg1; show some (Res.box _) = some (Res.box _); rw [← h2, scanL_stop (by simp [Val.cs_len] at *; omega) hlen (by simp_all)])), ⟨.inl rfl, trivial⟩⟩) (boxOK rfl)
            all_goals (refine congrArg D.bool ?_; first | (obtain ⟨h1, h2, h3, h4⟩ := hg1; rw [← h2, scanL_end (by simp [Val.cs_len] at *; omega)]) | (obtain ⟨h1, h2, h3, h4⟩ := hg1; rw [← h2, scanL_stop (by simp [Val.cs_len] at *; omega) hlen (by simp_all)]))
           ·try simp only [Q, Val.cs_len, Ty.eta] at h11p
            refine ar ?_ (by first | (constructor <;> omega) | (constructor <;> simp [Val.cs_len] <;> omega))
            refine Exists.intro ((x.1 + 1, (scanV w n (nth (argsOf w ⟨e, k⟩ v.ctor) x.1) (nth v.kids x.1) x.2).2)) ⟨(by
                  have hz : (scanV w n (nth (argsOf w ⟨e, k⟩ v.ctor) x.1) (nth v.kids x.1) x.2).1 = true := by simp_all
                  have hb := scanV_bd w n _ _ _ hz
                  obtain ⟨h1, h2, h3, h4⟩ := hg1
                  refine ⟨by dsimp only; omega, ?_, by dsimp only; omega, by dsimp only; omega⟩
                  rw [← h2, scanL_next (i := x.1) (by omega) hlen hz]), (by dsimp only; omega), Sub.x (by kernel_rfl) (by kernel_rfl) ⟨⟨_, rfl, (LeA.eqi (by first | rfl | (simp; done) | (dsimp only; omega)))⟩, trivial⟩ (by kernel_rfl) (by kernel_rfl) ⟨(by first | rfl | (simp [getH]; done)), trivial⟩⟩
          ·try simp only [Q, Val.cs_len, Ty.eta] at h10p
           refine rn [(950, some (.box [.d (.i (scanL (scanV w n) (argsOf w ⟨e, k⟩ v.ctor) v.kids (c + 1)).2)]))] (r1 rfl) (.eqd ?_) ⟨rfl, rfl⟩ (SubO.get ⟨.inr (by first | (obtain ⟨h1, h2, h3, h4⟩ := hg1; show some (Res.box _) = some (Res.box _); rw [← h2, scanL_end (by simp [Val.cs_len] at *; omega)]) | (obtain ⟨h1, h2, h3, h4⟩ := hg1; show some (Res.box _) = some (Res.box _); rw [← h2, scanL_stop (by simp [Val.cs_len] at *; omega) hlen (by simp_all)])), ⟨.inl rfl, trivial⟩⟩) (boxOK rfl)
           all_goals (refine congrArg D.bool ?_; first | (obtain ⟨h1, h2, h3, h4⟩ := hg1; rw [← h2, scanL_end (by simp [Val.cs_len] at *; omega)]) | (obtain ⟨h1, h2, h3, h4⟩ := hg1; rw [← h2, scanL_stop (by simp [Val.cs_len] at *; omega) hlen (by simp_all)]))
   ·have hsc : scanV w (n + 1) ⟨e, k⟩ v c = (false, c + 1) := by
     conv => lhs; unfold scanV
     rw [if_neg h60, if_neg hdn, if_pos hv, if_neg hlen]
    rw [hsc]
    refine bd Try.f52 108 [] [] fun w0 F0 own kept hk => ?_
    refine Walk.box (id := 3007) .none rfl rfl rfl rfl rfl rfl rfl ?_
    refine Walk.box (id := 3008) .none rfl rfl rfl rfl rfl rfl rfl ?_
    refine ev ?_
    refine ar ?_
    refine Walk.store ty3 .none rfl rfl rfl rfl rfl rfl (by simp) rfl ?_
    refine tv ?_
    refine sq (fun h1 h1p h1s => ?_) fun h1 h1p h1s => ?_
    ·try simp only [Q, Val.cs_len] at h1p
     refine sqT ?_
     exfalso; simp at *; omega --stop
    ·try simp only [Q, Val.cs_len] at h1p
     refine sq (fun h3 h3p h3s => ?_) fun h3 h3p h3s => ?_
     ·try simp only [Q, Val.cs_len] at h3p
      exfalso; simp at *; omega --stop
     ·try simp only [Q, Val.cs_len] at h3p
      refine sqF ?_
      refine sqF ?_
      refine sq (fun h5 h5p h5s => ?_) fun h5 h5p h5s => ?_
      ·try simp only [Q, Val.cs_len] at h5p
       exfalso; simp at * <;> omega --stop
      ·try simp only [Q, Val.cs_len] at h5p
       refine sq (fun h6 h6p h6s => ?_) fun h6 h6p h6s => ?_
       ·try simp only [Q, Val.cs_len] at h6p
        refine dr ?_
        refine sqT ?_
        exfalso; have e1 := hv.1; have e2 := hv.2; simp_all --stop
       ·try simp only [Q, Val.cs_len] at h6p
        refine Walk.call (cr := []) cal73 (impl_ctorsOf_in hw hlt) rfl (.some rfl rfl h6) rfl rfl (LeL.refl _) trivial rfl rfl rfl ?_
        refine evd [] [(67, false)] ?_ ⟨⟨_, rfl, h6⟩, trivial⟩
        refine Walk.call (cr := []) cal72 (slices_Contains_int_fn hcl) rfl (.some rfl rfl h6) rfl rfl (LeL.refl _) trivial rfl rfl rfl ?_
        refine evd [] [(67, false)] ?_ ⟨⟨_, rfl, h6⟩, trivial⟩
        refine dr ?_
        refine sq (fun h8 h8p h8s => ?_) fun h8 h8p h8s => ?_
        ·try simp only [Q, Val.cs_len] at h8p
         exfalso; have e1 := hv.1; have e2 := hv.2; simp_all --stop
        ·try simp only [Q, Val.cs_len] at h8p
         refine Walk.call (cr := []) cal74 (impl_argTypes_in hw hlt (place_of (k := k) (c := v.ctor) hv.2)) rfl .none rfl rfl (LeL.refl _) trivial rfl rfl rfl ?_
         refine ev ?_
         refine sq (fun h9 h9p h9s => ?_) fun h9 h9p h9s => ?_
         ·try simp only [Q, Val.cs_len] at h9p
          refine rn [(950, some (.box [.d (.i (c + 1))]))] (r1 rfl) (.eqd ?_) ⟨rfl, rfl⟩ (SubO.get ⟨.inr (by rfl), ⟨.inl rfl, trivial⟩⟩) (boxOK rfl)
          all_goals (rfl)
         ·try simp only [Q, Val.cs_len] at h9p
          exfalso; simp [Val.cs_len] at h9; omega --stop
  ·have hsc : scanV w (n + 1) ⟨e, k⟩ v c = (false, c + 1) := by
    conv => lhs; unfold scanV
    rw [if_neg h60, if_neg hdn, if_neg hv]
   rw [hsc]
   refine bd Try.f52 108 [] [] fun w0 F0 own kept hk => ?_
   refine Walk.box (id := 3007) .none rfl rfl rfl rfl rfl rfl rfl ?_
   refine Walk.box (id := 3008) .none rfl rfl rfl rfl rfl rfl rfl ?_
   refine ev ?_
   refine ar ?_
   refine Walk.store ty3 .none rfl rfl rfl rfl rfl rfl (by simp) rfl ?_
   refine tv ?_
   refine sq (fun h1 h1p h1s => ?_) fun h1 h1p h1s => ?_
   ·try simp only [Q] at h1p
    refine sqT ?_
    exfalso; simp at *; omega --stop
   ·try simp only [Q] at h1p
    refine sq (fun h3 h3p h3s => ?_) fun h3 h3p h3s => ?_
    ·try simp only [Q] at h3p
     exfalso; simp at *; omega --stop
    ·try simp only [Q] at h3p
     refine sqF ?_
     refine sqF ?_
     refine sq (fun h5 h5p h5s => ?_) fun h5 h5p h5s => ?_
     ·try simp only [Q] at h5p
      exfalso; simp at * <;> omega --stop
     ·try simp only [Q] at h5p
      refine sq (fun h6 h6p h6s => ?_) fun h6 h6p h6s => ?_
      ·try simp only [Q] at h6p
       refine dr ?_
       refine sqT ?_
       refine rn [(950, some (.box [.d (.i (c + 1))]))] (r1 rfl) (.eqd ?_) ⟨rfl, rfl⟩ (SubO.get ⟨.inr (by rfl), ⟨.inl rfl, trivial⟩⟩) (boxOK rfl)
       all_goals (rfl)
      ·try simp only [Q] at h6p
       refine Walk.call (cr := []) cal73 (impl_ctorsOf_in hw hlt) rfl (.some rfl rfl h6) rfl rfl (LeL.refl _) trivial rfl rfl rfl ?_
       refine evd [] [(67, false)] ?_ ⟨⟨_, rfl, h6⟩, trivial⟩
       refine Walk.call (cr := []) cal72 (slices_Contains_int_fn hcl) rfl (.some rfl rfl h6) rfl rfl (LeL.refl _) trivial rfl rfl rfl ?_
       refine evd [] [(67, false)] ?_ ⟨⟨_, rfl, h6⟩, trivial⟩
       refine dr ?_
       refine sq (fun h8 h8p h8s => ?_) fun h8 h8p h8s => ?_
       ·try simp only [Q] at h8p
        refine rn [(950, some (.box [.d (.i (c + 1))]))] (r1 rfl) (.eqd ?_) ⟨rfl, rfl⟩ (SubO.get ⟨.inr (by rfl), ⟨.inl rfl, trivial⟩⟩) (boxOK rfl)
        all_goals (rfl)
       ·try simp only [Q] at h8p
        exfalso; simp_all --stop
theorem impl_valueOk_fn {w : List Data} (hw : WT w) {a k : Int} {v : Val} (ht : TyIn w.length ⟨a, k⟩) (hok : v.ok) :
  FnD Try.prog 31 [.d (encDatas w), .agg [.d (.i a), .d (.i k)], .agg [.d (.i v.ctor), .d (.i v.num), .d (encVals v.kids)]] [] (.d (.bool (isV w ⟨a, k⟩ v))) [] := by
 have hz := (scanV_eq w 10 ⟨a, k⟩ v 0).1
 rw [Int.zero_add] at hz
 refine bd Try.f31 12 [] [] fun w0 F0 own kept hk => ?_
 refine Walk.box (id := 3004) .none rfl rfl rfl rfl rfl rfl rfl ?_
 refine Walk.box (id := 3005) .none rfl rfl rfl rfl rfl rfl rfl ?_
 refine ev ?_
 refine Walk.alloc (id := 950) tz3 rfl .none rfl rfl rfl rfl ?_
 refine Walk.store ty3 .none rfl rfl rfl rfl rfl rfl (by simp) rfl ?_
 refine tv ?_
 refine Walk.call (cr := []) cal52 (impl_valueScan_fn hw 10 (c := 0) (by omega) (by omega) ht hok (by omega) (by omega)) rfl .none rfl rfl (LeL.refl _) ⟨rfl, trivial⟩ rfl rfl rfl ?_
 refine ev ?_
 refine rn0 (r1 rfl) (.eqd ?_)
 all_goals (rw [hz]; rfl)
end Go.Proofs.Ytflgpdjbgfkhoaa
