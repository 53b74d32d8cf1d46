/-
  THE ABSTRACT WALK, part A: data without memory, abstract values, what they stand for in a world, and how that lasts when the world grows.
-/
import Derived.Orders
import Derived.Laws.World
import Derived.Laws.Sem
import Derived.Laws.NewBlocks
namespace Go.Proofs.Ytadpcmcifbakoaa
open Go
set_option linter.unusedSimpArgs false
set_option linter.unusedVariables false
inductive D where
 | int (k : IntKind) (n : Int)
 | bool (b : Bool)
 | str (s : List UInt8)
 | sl (xs : List (List D))
 | ptr (cs : List D) (off : Nat)
 | nilp
 deriving Inhabited
abbrev D.i (n : Int) : D := .int .i64 n
inductive RelD (F : Nat → Nat) (w : World) : D → Value → Prop
 | int (k n) : RelD F w (.int k n) (.int k n)
 | bool (b) : RelD F w (.bool b) (.bool b)
 | str (s : List UInt8) : RelD F w (.str s) (.string ⟨s.toArray⟩)
 | nil : RelD F w (.sl []) (.slice none 0 0)
 | sl (xs : List (List D)) (k b off cap : Nat) (c : Nat → Value)
   (hk : ∀ x, x ∈ xs → x.length = k) (hcap : xs.length ≤ cap)
   (hc : ∀ n, n < xs.length * k → off + n < F b ∧ w.cell? ⟨b, off + n, none⟩ = some (c n))
   (hr : ∀ i (hi : i < xs.length) j (hj : j < xs[i].length), RelD F w (xs[i][j]) (c (i * k + j))) :
   RelD F w (.sl xs) (.slice (some ⟨b, off, none⟩) xs.length cap)
 | emp (b off s cap : Nat) : RelD F w (.sl []) (.slice (some ⟨b, off, some s⟩) 0 cap)
 | ptr (cs : List D) (b o off : Nat) (c : Nat → Value)
   (hc : ∀ n, n < cs.length → o + n < F b ∧ w.cell? ⟨b, o + n, none⟩ = some (c n))
   (hr : ∀ n (hn : n < cs.length), RelD F w cs[n] (c n)) :
   RelD F w (.ptr cs off) (.pointer (some ⟨b, o + off, none⟩))
 | nilp : RelD F w .nilp (.pointer none)
theorem RelD.mono {F F' : Nat → Nat} {w w' : World} (hF : ∀ b o, o < F b → o < F' b ∧ w'.cell? ⟨b, o, none⟩ = w.cell? ⟨b, o, none⟩)
  {x : D} {v : Value} (h : RelD F w x v) : RelD F' w' x v := by
 induction h with
 | int k n => exact .int k n
 | bool b => exact .bool b
 | str s => exact .str s
 | nil => exact .nil
 | emp b off s cap => exact .emp b off s cap
 | sl xs k b off cap c hk hcap hc hr ih =>
  refine .sl xs k b off cap c hk hcap (fun n hn => ?_) ih
  obtain ⟨h1, h2⟩ := hc n hn
  obtain ⟨h3, h4⟩ := hF b _ h1
  exact ⟨h3, by rw [h4, h2]⟩
 | ptr cs b o off c hc hr ih =>
  refine .ptr cs b o off c (fun n hn => ?_) ih
  obtain ⟨h1, h2⟩ := hc n hn
  obtain ⟨h3, h4⟩ := hF b _ h1
  exact ⟨h3, by rw [h4, h2]⟩
 | nilp => exact .nilp
inductive AV where
 | d (x : D)
 | nils
 | sn (xs : List (List D))
 | gl (id : Nat) (xs : List (List D))
 | gv (id : Nat) (xs : List (List D))
 | gt (id : Nat) (xs : List (List D))
 | ref (id off : Nat)
 | ms (id n : Nat)
 | mo (id off n : Nat)
 | mapr (id : Nat)
 | fn (f : FuncId) (caps : List AV)
 | agg (cs : List AV)
 | tup (vs : List AV)
 | own (m : Bool) (x : D)
 | any
 deriving Inhabited
mutual
def AV.ids : AV → List Nat
 | .gl id _ => [id]
 | .gv id _ => [id]
 | .gt id _ => [id]
 | .ref id _ => [id]
 | .ms id _ => [id]
 | .mapr id => [id]
 | .mo id _ _ => [id]
 | .fn _ caps => AV.idsL caps
 | .agg cs => AV.idsL cs
 | .tup vs => AV.idsL vs
 | .d _ => []
 | .nils => []
 | .sn _ => []
 | .own _ _ => []
 | .any => []
def AV.idsL : List AV → List Nat
 | [] => []
 | v :: r => v.ids ++ AV.idsL r
end
theorem AV.mem_idsL {id : Nat} {v : AV} : ∀ {l : List AV}, v ∈ l → id ∈ v.ids → id ∈ AV.idsL l
 | x :: r, hm, hi => by
  simp only [AV.idsL, List.mem_append]
  rcases List.mem_cons.1 hm with h | h
  ·exact .inl (h ▸ hi)
  ·exact .inr (AV.mem_idsL h hi)
structure Gh where
 F : Nat → Nat
 loc : Nat → List Nat
def Tip (G : Gh) (w : World) (id n k : Nat) (v : Value) : Prop :=
 (G.loc id = [] ∧ n = 0 ∧ v = .slice none 0 0) ∨
 ∃ b cap cs e, G.loc id = [b] ∧ v = .slice (some ⟨b, 0, none⟩) n cap ∧ G.F b = n * k ∧
  w.heap[b]? = some (.cells cs e (0, 0)) ∧ cap * k ≤ cs.size ∧ n ≤ cap
def TipV (G : Gh) (w : World) (id n k : Nat) (v : Value) (xs : List (List D)) : Prop :=
 (G.loc id = [] ∧ n = 0 ∧ v = .slice none 0 0) ∨
 ∃ b cap cs e, G.loc id = [b] ∧ v = .slice (some ⟨b, 0, none⟩) n cap ∧ G.F b = 0 ∧
  w.heap[b]? = some (.cells cs e (0, 0)) ∧ cap * k ≤ cs.size ∧ n ≤ cap ∧ ∀ i (hi : i < xs.length) j (hj : j < xs[i].length), RelD G.F w xs[i][j] (cs.getD (i * k + j) undef)
abbrev TokF := Nat → Option (Nat × Nat)
def LocEq (T' : TokF) (G' G : Gh) (id : Nat) : Prop := G'.loc id = G.loc id ∨ (T' id = none ∧ (G'.loc id).head? = (G.loc id).head?)
theorem LocEq.head {T' : TokF} {G' G : Gh} {id : Nat} (h : LocEq T' G' G id) : (G'.loc id).head? = (G.loc id).head? := by
 rcases h with h | h
 ·rw [h]
 ·exact h.2
theorem LocEq.full {T' : TokF} {G' G : Gh} {id : Nat} {p : Nat × Nat} (h : LocEq T' G' G id) (hT : T' id = some p) : G'.loc id = G.loc id := by
 rcases h with h | h
 ·exact h
 ·rw [hT] at h; cases h.1
theorem head_one {l : List Nat} {b b' : Nat} (h : l.head? = some b) (h2 : l = [b']) : b = b' := by
 subst h2; exact Option.some.inj (h.symm.trans rfl)
theorem one_head {l : List Nat} {b : Nat} (h : l = [b]) : l.head? = some b := by rw [h]; rfl
inductive TreeD (m : Bool) (w : World) : D → Value → List Nat → Prop
 | int (k n) : TreeD m w (.int k n) (.int k n) []
 | bool (b) : TreeD m w (.bool b) (.bool b) []
 | str (s : List UInt8) : TreeD m w (.str s) (.string ⟨s.toArray⟩) []
 | nil : TreeD m w (.sl []) (.slice none 0 0) []
 | emp (b off s cap : Nat) : TreeD m w (.sl []) (.slice (some ⟨b, off, some s⟩) 0 cap) []
 | em0 (b off cap : Nat) : TreeD m w (.sl []) (.slice (some ⟨b, off, none⟩) 0 cap) []
 | sl (xs : List (List D)) (k b cap : Nat) (cs : Array Value) (e : TypeId) (Ss : Nat → List Nat)
   (hk : ∀ x, x ∈ xs → x.length = k) (hcap : xs.length ≤ cap) (hb : w.heap[b]? = some (.cells cs e (0, 0))) (hc : (bif m then cap else xs.length) * k ≤ cs.size)
   (hr : ∀ i (hi : i < xs.length) j (hj : j < xs[i].length), TreeD m w (xs[i][j]) (cs.getD (i * k + j) undef) (Ss (i * k + j))) :
   TreeD m w (.sl xs) (.slice (some ⟨b, 0, none⟩) xs.length cap) (b :: (List.range (xs.length * k)).flatMap Ss)
theorem cell_lt {i j n k : Nat} (hi : i < n) (hj : j < k) : i * k + j < n * k := by
 have : (i + 1) * k ≤ n * k := Nat.mul_le_mul_right _ (by omega)
 rw [Nat.add_mul] at this
 omega
theorem TreeD.mono {m : Bool} {w w' : World} {x : D} {v : Value} {S : List Nat} (h : TreeD m w x v S) (hS : ∀ b, b ∈ S → w'.heap[b]? = w.heap[b]?) : TreeD m w' x v S := by
 induction h with
 | int k n => exact .int k n
 | bool b => exact .bool b
 | str s => exact .str s
 | nil => exact .nil
 | emp b off s cap => exact .emp b off s cap
 | em0 b off cap => exact .em0 b off cap
 | sl xs k b cap cs e Ss hk hcap hb hc hr ih =>
  refine .sl xs k b cap cs e Ss hk hcap (by rw [hS b (by simp)]; exact hb) hc (fun i hi j hj => ih i hi j hj (fun b' hb' => hS b' ?_))
  refine List.mem_cons_of_mem _ (List.mem_flatMap.2 ⟨i * k + j, ?_, hb'⟩)
  have := hk _ (List.getElem_mem hi)
  exact List.mem_range.2 (cell_lt hi (by omega))
def szB (w : World) (b : Nat) : Nat := match w.heap[b]? with
 | some (.cells cs _ _) => cs.size
 | _ => 0
theorem TreeD.toD {m : Bool} {F : Nat → Nat} {w : World} {x : D} {v : Value} {S : List Nat} (h : TreeD m w x v S) (hS : ∀ b, b ∈ S → szB w b ≤ F b) : RelD F w x v := by
 induction h with
 | int k n => exact .int k n
 | bool b => exact .bool b
 | str s => exact .str s
 | nil => exact .nil
 | emp b off s cap => exact .emp b off s cap
 | em0 b off cap => exact .sl [] 0 b off cap (fun _ => undef) (by simp) (by simp) (fun n hn => by simp at hn) (fun i hi => by simp at hi)
 | sl xs k b cap cs e Ss hk hcap hb hc hr ih =>
  have hsz : szB w b = cs.size := by simp [szB, hb]
  have hF := hS b (by simp)
  have hcap' : xs.length * k ≤ cs.size := by
   refine Nat.le_trans (Nat.mul_le_mul_right _ ?_) hc
   cases m
   ·exact Nat.le_refl _
   ·exact hcap
  refine .sl xs k b 0 cap (fun n => cs.getD n undef) hk hcap (fun n hn => ⟨by omega, ?_⟩) (fun i hi j hj => ih i hi j hj (fun b' hb' => hS b' ?_))
  ·have : n < cs.size := by omega
   simp [World.cell?, hb, this]
  ·refine List.mem_cons_of_mem _ (List.mem_flatMap.2 ⟨i * k + j, ?_, hb'⟩)
   have := hk _ (List.getElem_mem hi)
   exact List.mem_range.2 (cell_lt hi (by omega))
def TipT (G : Gh) (w : World) (id n k : Nat) (v : Value) (xs : List (List D)) : Prop :=
 (G.loc id = [] ∧ n = 0 ∧ v = .slice none 0 0) ∨
 ∃ b cap cs e Ss, G.loc id = b :: (List.range (n * k)).flatMap Ss ∧ v = .slice (some ⟨b, 0, none⟩) n cap ∧
  w.heap[b]? = some (.cells cs e (0, 0)) ∧ cap * k ≤ cs.size ∧ n ≤ cap ∧ (G.loc id).Nodup ∧ (∀ b', b' ∈ G.loc id → G.F b' = 0) ∧
  ∀ i (hi : i < xs.length) j (hj : j < xs[i].length), TreeD true w xs[i][j] (cs.getD (i * k + j) undef) (Ss (i * k + j))
theorem TipT.mono {G G' : Gh} {w w' : World} {id n k : Nat} {v : Value} {xs : List (List D)} (h : TipT G w id n k v xs) (hn : n = xs.length) (hk : ∀ x, x ∈ xs → x.length = k) (hl : G'.loc id = G.loc id)
  (hB : ∀ b, b ∈ G.loc id → w'.heap[b]? = w.heap[b]? ∧ G'.F b = G.F b) : TipT G' w' id n k v xs := by
 rcases h with ⟨h1, h2, h3⟩ | ⟨b, cap, cs, e, Ss, h1, h2, h3, h4, h5, h6, h7, h8⟩
 ·exact .inl ⟨hl.trans h1, h2, h3⟩
 ·refine .inr ⟨b, cap, cs, e, Ss, hl.trans h1, h2, (hB b (by simp [h1])).1.trans h3, h4, h5, by rw [hl]; exact h6, fun b' hb' => ?_, fun i hi j hj => (h8 i hi j hj).mono (fun b' hb' => (hB b' ?_).1)⟩
  ·rw [hl] at hb'
   exact (hB b' hb').2.trans (h7 b' hb')
  ·rw [h1]
   have := hk _ (List.getElem_mem hi)
   exact List.mem_cons_of_mem _ (List.mem_flatMap.2 ⟨i * k + j, List.mem_range.2 (by subst hn; exact cell_lt hi (by omega)), hb'⟩)
inductive RelA (G : Gh) (T : TokF) (w : World) : AV → Value → Prop
 | d {x v} (h : RelD G.F w x v) : RelA G T w (.d x) v
 | gl {id xs v} (h : RelD G.F w (.sl xs) v) (ht : ∀ n k, T id = some (n, k) → xs.length ≤ n ∧ (n = xs.length → (∀ x, x ∈ xs → x.length = k) ∧ Tip G w id n k v)) : RelA G T w (.gl id xs) v
 | gv {id xs v} (hv : ∃ a cap, v = .slice a xs.length cap) (ht : ∀ n k, T id = some (n, k) → xs.length ≤ n ∧ (n = xs.length → (∀ x, x ∈ xs → x.length = k) ∧ TipV G w id n k v xs)) : RelA G T w (.gv id xs) v
 | gt {id xs v} (hv : ∃ a cap, v = .slice a xs.length cap) (ht : ∀ n k, T id = some (n, k) → xs.length ≤ n ∧ (n = xs.length → (∀ x, x ∈ xs → x.length = k) ∧ TipT G w id n k v xs)) : RelA G T w (.gt id xs) v
 | ref {id off b} (h : (G.loc id).head? = some b) (hT : T id = none) : RelA G T w (.ref id off) (.pointer (some ⟨b, off, none⟩))
 | ms {id n b cap} (h : (G.loc id).head? = some b) (hT : T id = none) (hcap : n ≤ cap) : RelA G T w (.ms id n) (.slice (some ⟨b, 0, none⟩) n cap)
 | mo {id off o n b cap} (h : (G.loc id).head? = some b) (hT : T id = none) (hcap : n ≤ cap) (ho : n = 0 ∨ o = off) : RelA G T w (.mo id off n) (.slice (some ⟨b, o, none⟩) n cap)
 | mapr {id b} (h : (G.loc id).head? = some b) (hT : T id = none) : RelA G T w (.mapr id) (.map (some b))
 | fn {f caps vs} (hn : vs.size = caps.length) (h : ∀ i (hi : i < caps.length) (hv : i < vs.size), RelA G T w caps[i] vs[i]) : RelA G T w (.fn f caps) (.func (.func f) #[] vs)
 | agg {cs vs} (hn : vs.size = cs.length) (h : ∀ i (hi : i < cs.length) (hv : i < vs.size), RelA G T w cs[i] vs[i]) : RelA G T w (.agg cs) (.agg vs)
 | tup {cs vs} (hn : vs.size = cs.length) (h : ∀ i (hi : i < cs.length) (hv : i < vs.size), RelA G T w cs[i] vs[i]) : RelA G T w (.tup cs) (.tuple vs)
 | nils : RelA G T w .nils (.slice none 0 0)
 | sn {xs v} (h : RelD G.F w (.sl xs) v) (hn : ∃ a n c, v = .slice (some a) n c) : RelA G T w (.sn xs) v
 | any (v) : RelA G T w .any v
theorem RelA.mono {G G' : Gh} {T T' : TokF} {w w' : World} {x : AV} {v : Value} (h : RelA G T w x v)
  (hF : ∀ b o, o < G.F b → o < G'.F b ∧ w'.cell? ⟨b, o, none⟩ = w.cell? ⟨b, o, none⟩)
  (hloc : ∀ id, id ∈ x.ids → LocEq T' G' G id)
  (htok : ∀ id, id ∈ x.ids → ∀ p, T' id = some p → T id = some p ∧ ∀ b, b ∈ G.loc id → w'.heap[b]? = w.heap[b]? ∧ G'.F b = G.F b) :
  RelA G' T' w' x v := by
 have hnone : ∀ id, id ∈ x.ids → T id = none → T' id = none := fun id hm h0 => by
  cases hT : T' id with
  | none => rfl
  | some p => rw [(htok id hm p hT).1] at h0; cases h0
 induction h with
 | d h => exact .d (h.mono hF)
 | @gl id xs v h ht =>
  refine .gl (h.mono hF) (fun n k hT => ?_)
  obtain ⟨hT0, hb⟩ := htok id (by simp [AV.ids]) _ hT
  have hl := (hloc id (by simp [AV.ids])).full hT
  refine ⟨(ht n k hT0).1, fun hn => ?_⟩
  obtain ⟨hkx, ht⟩ := (ht n k hT0).2 hn
  refine ⟨hkx, ?_⟩
  rcases ht with ⟨h1, h2, h3⟩ | ⟨b, cap, cs, e, h1, h2, h3, h4, h5, h6⟩
  ·exact .inl ⟨hl.trans h1, h2, h3⟩
  ·obtain ⟨hb1, hb2⟩ := hb b (by simp [h1])
   exact .inr ⟨b, cap, cs, e, hl.trans h1, h2, hb2.trans h3, hb1.trans h4, h5, h6⟩
 | @gv id xs v hv ht =>
  refine .gv hv (fun n k hT => ?_)
  obtain ⟨hT0, hb⟩ := htok id (by simp [AV.ids]) _ hT
  have hl := (hloc id (by simp [AV.ids])).full hT
  refine ⟨(ht n k hT0).1, fun hn => ?_⟩
  obtain ⟨hkx, ht⟩ := (ht n k hT0).2 hn
  refine ⟨hkx, ?_⟩
  rcases ht with ⟨h1, h2, h3⟩ | ⟨b, cap, cs, e, h1, h2, h3, h4, h5, h6, h7⟩
  ·exact .inl ⟨hl.trans h1, h2, h3⟩
  ·obtain ⟨hb1, hb2⟩ := hb b (by simp [h1])
   exact .inr ⟨b, cap, cs, e, hl.trans h1, h2, hb2.trans h3, hb1.trans h4, h5, h6, fun i hi j hj => (h7 i hi j hj).mono hF⟩
 | @gt id xs v hv ht =>
  refine .gt hv (fun n k hT => ?_)
  obtain ⟨hT0, hb⟩ := htok id (by simp [AV.ids]) _ hT
  have hl := (hloc id (by simp [AV.ids])).full hT
  refine ⟨(ht n k hT0).1, fun hn => ?_⟩
  obtain ⟨hkx, ht⟩ := (ht n k hT0).2 hn
  exact ⟨hkx, ht.mono hn hkx hl hb⟩
 | ref h hT => exact .ref ((hloc _ (by simp [AV.ids])).head.trans h) (hnone _ (by simp [AV.ids]) hT)
 | ms h hT hcap => exact .ms ((hloc _ (by simp [AV.ids])).head.trans h) (hnone _ (by simp [AV.ids]) hT) hcap
 | mo h hT hcap ho => exact .mo ((hloc _ (by simp [AV.ids])).head.trans h) (hnone _ (by simp [AV.ids]) hT) hcap ho
 | mapr h hT => exact .mapr ((hloc _ (by simp [AV.ids])).head.trans h) (hnone _ (by simp [AV.ids]) hT)
 | @fn f caps vs hn h ih =>
  exact .fn hn (fun i hi hv => ih i hi hv (fun id hm => hloc id (by simp only [AV.ids]; exact AV.mem_idsL (List.getElem_mem hi) hm))
   (fun id hm => htok id (by simp only [AV.ids]; exact AV.mem_idsL (List.getElem_mem hi) hm))
   (fun id hm => hnone id (by simp only [AV.ids]; exact AV.mem_idsL (List.getElem_mem hi) hm)))
 | @agg caps vs hn h ih =>
  exact .agg hn (fun i hi hv => ih i hi hv (fun id hm => hloc id (by simp only [AV.ids]; exact AV.mem_idsL (List.getElem_mem hi) hm))
   (fun id hm => htok id (by simp only [AV.ids]; exact AV.mem_idsL (List.getElem_mem hi) hm))
   (fun id hm => hnone id (by simp only [AV.ids]; exact AV.mem_idsL (List.getElem_mem hi) hm)))
 | @tup caps vs hn h ih =>
  exact .tup hn (fun i hi hv => ih i hi hv (fun id hm => hloc id (by simp only [AV.ids]; exact AV.mem_idsL (List.getElem_mem hi) hm))
   (fun id hm => htok id (by simp only [AV.ids]; exact AV.mem_idsL (List.getElem_mem hi) hm))
   (fun id hm => hnone id (by simp only [AV.ids]; exact AV.mem_idsL (List.getElem_mem hi) hm)))
 | nils => exact .nils
 | sn h hn => exact .sn (h.mono hF) hn
 | any v => exact .any v
mutual
inductive LeA : AV → AV → Prop
 | refl (v) : LeA v v
 | any (v) : LeA v .any
 | nil : LeA .nils (.d (.sl []))
 | sn (xs) : LeA (.sn xs) (.d (.sl xs))
 | gl (id xs) : LeA (.gl id xs) (.d (.sl xs))
 | agg {cs ds} (h : LeL cs ds) : LeA (.agg cs) (.agg ds)
 | tup {cs ds} (h : LeL cs ds) : LeA (.tup cs) (.tup ds)
inductive LeL : List AV → List AV → Prop
 | nil : LeL [] []
 | cons {x y l m} (h : LeA x y) (t : LeL l m) : LeL (x :: l) (y :: m)
end
theorem LeL.len : ∀ {cs ds : List AV}, LeL cs ds → cs.length = ds.length
 | [], _, h => by cases h; rfl
 | x :: r, _, h => by cases h with | cons h t => simp [t.len]
theorem RelA.le {G : Gh} {T : TokF} {w : World} {x : AV} {v : Value} (h : RelA G T w x v) : ∀ {y : AV}, LeA x y → RelA G T w y v := by
 induction h with
 | d h => intro y hy; cases hy with | refl => exact .d h | any => exact .any _
 | gl h ht => intro y hy; cases hy with | refl => exact .gl h ht | any => exact .any _ | gl => exact .d h
 | gv hv ht => intro y hy; cases hy with | refl => exact .gv hv ht | any => exact .any _
 | gt hv ht => intro y hy; cases hy with | refl => exact .gt hv ht | any => exact .any _
 | ref h hT => intro y hy; cases hy with | refl => exact .ref h hT | any => exact .any _
 | ms h hT hc => intro y hy; cases hy with | refl => exact .ms h hT hc | any => exact .any _
 | mo h hT hc ho => intro y hy; cases hy with | refl => exact .mo h hT hc ho | any => exact .any _
 | mapr h hT => intro y hy; cases hy with | refl => exact .mapr h hT | any => exact .any _
 | fn hn h ih => intro y hy; cases hy with | refl => exact .fn hn h | any => exact .any _
 | @agg cs vs hn h ih =>
  intro y hy
  cases hy with
  | refl => exact .agg hn h
  | any => exact .any _
  | agg hl =>
   refine .agg (by rw [hn, hl.len]) (fun i hi hv => ?_)
   have hc : i < cs.length := by rw [hl.len]; exact hi
   have key : ∀ {cs ds : List AV}, LeL cs ds → ∀ i (hc : i < cs.length) (hi : i < ds.length), LeA cs[i] ds[i] := by
    intro cs
    induction cs with
    | nil => intro ds _ i hc; simp at hc
    | cons x r ihr =>
     intro ds h i hc hi
     cases h with
     | cons h t =>
      cases i with
      | zero => exact h
      | succ i => exact ihr t i (by simpa using hc) (by simpa using hi)
   exact ih i hc hv (key hl i hc hi)
 | @tup cs vs hn h ih =>
  intro y hy
  cases hy with
  | refl => exact .tup hn h
  | any => exact .any _
  | tup hl =>
   refine .tup (by rw [hn, hl.len]) (fun i hi hv => ?_)
   have hc : i < cs.length := by rw [hl.len]; exact hi
   have key : ∀ {cs ds : List AV}, LeL cs ds → ∀ i (hc : i < cs.length) (hi : i < ds.length), LeA cs[i] ds[i] := by
    intro cs
    induction cs with
    | nil => intro ds _ i hc; simp at hc
    | cons x r ihr =>
     intro ds h i hc hi
     cases h with
     | cons h t =>
      cases i with
      | zero => exact h
      | succ i => exact ihr t i (by simpa using hc) (by simpa using hi)
   exact ih i hc hv (key hl i hc hi)
 | nils => intro y hy; cases hy with | refl => exact .nils | any => exact .any _ | nil => exact .d .nil
 | sn h hn => intro y hy; cases hy with | refl => exact .sn h hn | any => exact .any _ | sn => exact .d h
 | any v => intro y hy; cases hy with | refl => exact .any _ | any => exact .any _
inductive Res where
 | box (cs : List AV)
 | tok (n k : Nat)
 | map (ks : List (List UInt8))
 | tree (cs : List AV)
 deriving Inhabited
def Res.ids : Res → List Nat
 | .box cs => AV.idsL cs
 | .tree cs => AV.idsL cs
 | _ => []
abbrev Env := List (Nat × AV)
abbrev Hp := List (Nat × Option Res)
def getE : Env → Nat → Option AV
 | [], _ => none
 | (k, v) :: r, i => bif Nat.beq k i then some v else getE r i
def getH : Hp → Nat → Option Res
 | [], _ => none
 | (k, v) :: r, i => bif Nat.beq k i then v else getH r i
structure St where
 env : Env
 hp : Hp
def tokf (hp : Hp) : TokF := fun id => match getH hp id with
 | some (.tok n k) => some (n, k)
 | _ => none
theorem tokf_some {hp : Hp} {id n k : Nat} : tokf hp id = some (n, k) ↔ getH hp id = some (.tok n k) := by
 unfold tokf
 split
 ·rename_i h; simp [h]
 ·rename_i h; exact ⟨fun h' => by simp at h', fun h' => absurd h' (by intro h2; exact h _ _ h2)⟩
def mapEntries (ks : List (List UInt8)) (es : Array MapEntry) : Prop :=
 es.toList.map (fun e => (e.key, e.val)) = ks.map (fun s => (.string ⟨s.toArray⟩, .bool true))
def CellR (G : Gh) (T : TokF) (w : World) : AV → Value → List Nat → Prop
 | .own m y, v, S => TreeD m w y v S
 | x, v, S => S = [] ∧ RelA G T w x v
theorem CellR.map {G G' : Gh} {T T' : TokF} {w w' : World} {x : AV} {v : Value} {S : List Nat} (h : CellR G T w x v S) (hA : RelA G T w x v → RelA G' T' w' x v)
  (hS : ∀ b, b ∈ S → w'.heap[b]? = w.heap[b]?) : CellR G' T' w' x v S := by
 cases x with
 | own m y => exact TreeD.mono h hS
 | _ => exact ⟨h.1, hA h.2⟩
structure TreeR (G : Gh) (T : TokF) (w : World) (id : Nat) (cs : List AV) (b : Nat) (vs : Array Value) (e : TypeId) (Ss : Nat → List Nat) : Prop where
 loc : G.loc id = b :: (List.range cs.length).flatMap Ss
 at_ : w.heap[b]? = some (.cells vs e (0, 0))
 len : cs.length ≤ vs.size
 nodup : (G.loc id).Nodup
 mine : ∀ b', b' ∈ G.loc id → G.F b' = 0 ∧ b' < w.heap.size
 cell : ∀ i (hi : i < cs.length) (hv : i < vs.size), CellR G T w cs[i] vs[i] (Ss i)
def RelR (G : Gh) (T : TokF) (w : World) (id : Nat) : Res → Prop
 | .box cs => ∃ b vs e, G.loc id = [b] ∧ w.heap[b]? = some (.cells vs e (0, 0)) ∧ cs.length ≤ vs.size ∧ G.F b = 0 ∧
   ∀ i (hi : i < cs.length) (hv : i < vs.size), RelA G T w cs[i] vs[i]
 | .tok _ _ => ∀ b, b ∈ G.loc id → b < w.heap.size
 | .map ks => ∃ b es clock, G.loc id = [b] ∧ w.heap[b]? = some (.map es clock) ∧ G.F b = 0 ∧ mapEntries ks es
 | .tree cs => ∃ b vs e Ss, TreeR G T w id cs b vs e Ss
theorem tree_mono {G G' : Gh} {T T' : TokF} {w w' : World} {id : Nat} {cs : List AV} (h : RelR G T w id (.tree cs)) (hl : G'.loc id = G.loc id)
  (hB : ∀ b, b ∈ G.loc id → w'.heap[b]? = w.heap[b]? ∧ G'.F b = G.F b) (hsz : w.heap.size ≤ w'.heap.size) (hm : ∀ x, x ∈ cs → ∀ v, RelA G T w x v → RelA G' T' w' x v) : RelR G' T' w' id (.tree cs) := by
 obtain ⟨b, vs, e, Ss, h1, h2, h3, h4, h5, h6⟩ := h
 refine ⟨b, vs, e, Ss, hl.trans h1, (hB b (by simp [h1])).1.trans h2, h3, by rw [hl]; exact h4, fun b' hb' => ?_, fun i hi hv => (h6 i hi hv).map (hm _ (List.getElem_mem hi) _) (fun b' hb' => (hB b' ?_).1)⟩
 ·rw [hl] at hb'
  exact ⟨(hB b' hb').2.trans (h5 b' hb').1, Nat.lt_of_lt_of_le (h5 b' hb').2 hsz⟩
 ·rw [h1]
  exact List.mem_cons_of_mem _ (List.mem_flatMap.2 ⟨i, List.mem_range.2 hi, hb'⟩)
structure Frm (w0 : World) (F0 : Nat → Nat) (own : List Nat) (w : World) (F : Nat → Nat) : Prop where
 os : w.os = w0.os
 tape : w.tape = w0.tape
 output : w.output = w0.output
 size : w0.heap.size ≤ w.heap.size
 block : ∀ b, b < w0.heap.size → b ∉ own → w.heap[b]? = w0.heap[b]? ∧ F b = F0 b
 cell : ∀ b o, o < F0 b → o < F b ∧ w.cell? ⟨b, o, none⟩ = w0.cell? ⟨b, o, none⟩
theorem Frm.refl (w : World) (F : Nat → Nat) (own : List Nat) : Frm w F own w F :=
 ⟨rfl, rfl, rfl, Nat.le_refl _, fun _ _ _ => ⟨rfl, rfl⟩, fun _ _ h => ⟨h, rfl⟩⟩
theorem Frm.trans {w0 w1 w2 : World} {F0 F1 F2 : Nat → Nat} {own own1 : List Nat} (h : Frm w0 F0 own w1 F1) (k : Frm w1 F1 own1 w2 F2)
  (ho : ∀ b, b ∈ own1 → b ∈ own ∨ w0.heap.size ≤ b) : Frm w0 F0 own w2 F2 where
 os := k.os.trans h.os
 tape := k.tape.trans h.tape
 output := k.output.trans h.output
 size := Nat.le_trans h.size k.size
 block b hb hn := by
  have h1 := h.block b hb hn
  have h2 := k.block b (Nat.lt_of_lt_of_le hb h.size) (fun hm => by rcases ho b hm with h' | h'; exact hn h'; omega)
  exact ⟨h2.1.trans h1.1, h2.2.trans h1.2⟩
 cell b o hlt := by
  have h1 := h.cell b o hlt
  have h2 := k.cell b o h1.1
  exact ⟨h2.1, h2.2.trans h1.2⟩
structure Ctx where
 P : Program
 n : Nat
 w0 : World
 F0 : Nat → Nat
 own : List Nat
 kept : Nat → Option (List Nat)
structure R (c : Ctx) (G : Gh) (s : St) (a : Act) (w : World) : Prop where
 size : a.tmps.size = c.n
 defers : a.defers = []
 slots : ∀ i v, getE s.env i = some v → RelA G (tokf s.hp) w v (a.tmps.getD i undef)
 heap : ∀ id r, getH s.hp id = some r → RelR G (tokf s.hp) w id r
 disj : ∀ id id', (getH s.hp id).isSome → (getH s.hp id').isSome → id ≠ id' → ∀ b, b ∈ G.loc id → b ∉ G.loc id'
 new : ∀ id, (getH s.hp id).isSome → ∀ b, b ∈ G.loc id → b ∈ c.own ∨ c.w0.heap.size ≤ b
 frm : Frm c.w0 c.F0 c.own w G.F
 top : ∀ b, w.heap.size ≤ b → G.F b = 0
 kept : ∀ id l, c.kept id = some l → (G.loc id).head? = l.head? ∧ (getH s.hp id).isSome ∧ tokf s.hp id = none
def Rel (c : Ctx) (s : St) (a : Act) (w : World) : Prop := ∃ G, R c G s a w
def noOcc (id : Nat) (s : St) : Prop :=
 (∀ i v, getE s.env i = some v → id ∉ v.ids) ∧ (∀ j r, getH s.hp j = some r → id ∉ r.ids)
theorem getE_mem : ∀ {l : Env} {i : Nat} {v : AV}, getE l i = some v → (i, v) ∈ l
 | (k, x) :: r, i, v, h => by
  simp only [getE] at h
  cases hb : Nat.beq k i with
  | true =>
   simp only [hb, cond_true, Option.some.injEq] at h
   have : k = i := Nat.eq_of_beq_eq_true hb
   simp [h, this]
  | false =>
   simp only [hb, cond_false] at h
   exact List.mem_cons_of_mem _ (getE_mem h)
theorem getH_mem : ∀ {l : Hp} {i : Nat} {v : Res}, getH l i = some v → (i, some v) ∈ l
 | (k, x) :: r, i, v, h => by
  simp only [getH] at h
  cases hb : Nat.beq k i with
  | true =>
   simp only [hb, cond_true] at h
   have : k = i := Nat.eq_of_beq_eq_true hb
   simp [h, this]
  | false =>
   simp only [hb, cond_false] at h
   exact List.mem_cons_of_mem _ (getH_mem h)
def elemB (n : Nat) : List Nat → Bool
 | [] => false
 | x :: r => bif Nat.beq x n then true else elemB n r
theorem elemB_iff {n : Nat} : ∀ {l : List Nat}, elemB n l = true ↔ n ∈ l
 | [] => by simp [elemB]
 | x :: r => by
  simp only [elemB, List.mem_cons]
  cases hb : Nat.beq x n with
  | true => simp [Nat.eq_of_beq_eq_true hb]
  | false =>
   simp only [cond_false, elemB_iff]
   exact ⟨.inr, fun h => h.resolve_left (fun h' => by subst h'; simp at hb)⟩
def occE (id : Nat) : Env → Bool
 | [] => false
 | (_, v) :: r => bif elemB id v.ids then true else occE id r
def occH (id : Nat) : Hp → Bool
 | [] => false
 | (_, some v) :: r => bif elemB id v.ids then true else occH id r
 | (_, none) :: r => occH id r
theorem occE_false {id : Nat} : ∀ {l : Env}, occE id l = false → ∀ p, p ∈ l → id ∉ p.2.ids
 | (k, v) :: r, h, p, hp => by
  simp only [occE] at h
  cases hb : elemB id v.ids with
  | true => simp [hb] at h
  | false =>
   simp only [hb, cond_false] at h
   rcases List.mem_cons.1 hp with rfl | hp
   ·intro hm; rw [elemB_iff.2 hm] at hb; cases hb
   ·exact occE_false h p hp
theorem occH_false {id : Nat} : ∀ {l : Hp}, occH id l = false → ∀ j r, (j, some r) ∈ l → id ∉ r.ids
 | (k, some v) :: t, h, j, r, hp => by
  simp only [occH] at h
  cases hb : elemB id v.ids with
  | true => simp [hb] at h
  | false =>
   simp only [hb, cond_false] at h
   rcases List.mem_cons.1 hp with hp | hp
   ·cases hp; intro hm; rw [elemB_iff.2 hm] at hb; cases hb
   ·exact occH_false h j r hp
 | (k, none) :: t, h, j, r, hp => by
  simp only [occH] at h
  rcases List.mem_cons.1 hp with hp | hp
  ·cases hp
  ·exact occH_false h j r hp
theorem noOcc_of {id : Nat} {s : St} (h1 : occE id s.env = false) (h2 : occH id s.hp = false) : noOcc id s :=
 ⟨fun _ _ h => occE_false h1 _ (getE_mem h), fun _ _ h => occH_false h2 _ _ (getH_mem h)⟩
end Go.Proofs.Ytadpcmcifbakoaa
