/-
  PLAIN LAWS: all values of a type up to a depth: how many there are; what is left of them when a number of them is enough.
-/
import Derived.Test.YtadpcmcifbakoaaF6
namespace Go.Proofs.Ytadpcmcifbakoaa
open Go
set_option linter.unusedSimpArgs false
set_option linter.unusedVariables false

def prodL (ls : List (List Val)) : List (List Val) := ls.foldl (fun acc l => acc.flatMap fun o => l.map fun y => o ++ [y]) [[]]
def digits : List Val := (List.range 10).map fun (n : Nat) => Val.mk (-1) n []
def fullV (w : List Data) : Nat → Ty → List Val
  | 0, _ => []
  | n + 1, t => if t.data = -1 then digits else (ctorsOf w t).flatMap fun c => (prodL ((argsOf w t c).map (fullV w n))).map (Val.mk c 0)
def tupV (most : Nat) (ls : List (List Val)) : List (List Val) := ls.foldl (fun acc l => (acc.flatMap fun o => l.map fun y => o ++ [y]).take (most + 1)) [[]]
def allV (w : List Data) (most : Nat) : Nat → Ty → List Val
  | 0, _ => []
  | n + 1, t => if t.data = -1 then digits else ((ctorsOf w t).flatMap fun c => (tupV most ((argsOf w t c).map (allV w most n))).map (Val.mk c 0)).take (most + 1)

def prodN : List Nat → Nat
  | [] => 1
  | a :: r => a * prodN r
theorem step_len (acc : List (List Val)) (l : List Val) : (acc.flatMap fun o => l.map fun y => o ++ [y]).length = acc.length * l.length := by
  induction acc with
  | nil => simp
  | cons a r ih => simp only [List.flatMap_cons, List.length_append, List.length_map, ih, List.length_cons, Nat.add_mul]; omega
theorem foldl_len (ls : List (List Val)) : ∀ acc : List (List Val), (ls.foldl (fun acc l => acc.flatMap fun o => l.map fun y => o ++ [y]) acc).length = acc.length * prodN (ls.map List.length) := by
  induction ls with
  | nil => intro acc; simp [prodN]
  | cons l r ih => intro acc; simp only [List.foldl_cons, ih, step_len, List.map_cons, prodN, Nat.mul_assoc]
theorem prodL_len (ls : List (List Val)) : (prodL ls).length = prodN (ls.map List.length) := by unfold prodL; rw [foldl_len]; simp
theorem prodN_append (a b : List Nat) : prodN (a ++ b) = prodN a * prodN b := by
  induction a with
  | nil => simp [prodN]
  | cons x r ih => simp only [List.cons_append, prodN, ih, Nat.mul_assoc]
theorem prodN_zero {l : List Nat} (h : 0 ∈ l) : prodN l = 0 := by
  induction l with
  | nil => simp at h
  | cons x r ih =>
    rcases List.mem_cons.1 h with h | h
    · simp [prodN, ← h]
    · simp [prodN, ih h]
theorem prodN_pos {l : List Nat} (h : ∀ x, x ∈ l → 0 < x) : 0 < prodN l := by
  induction l with
  | nil => simp [prodN]
  | cons x r ih => exact Nat.mul_pos (h x (by simp)) (ih (fun y hy => h y (List.mem_cons_of_mem _ hy)))

def capN (n : Nat) : Nat := if 401 < n then 401 else n
theorem capN_mul (a b : Nat) : capN (capN a * capN b) = capN (a * b) := by
  have key : ∀ x y : Nat, 401 < x → capN (401 * capN y) = capN (x * y) := fun x y hx => by
    rcases Nat.eq_zero_or_pos y with h | h
    · subst h; simp [capN]
    · have h1 : 401 * 1 ≤ x * y := Nat.mul_le_mul (by omega) h
      have h2 : 1 ≤ capN y := by unfold capN; split <;> omega
      have h3 : 401 * 1 ≤ 401 * capN y := Nat.mul_le_mul_left _ h2
      have e1 : capN (401 * capN y) = 401 := by
        generalize capN y = z at *
        unfold capN
        split
        · rfl
        · rename_i h4; omega
      have e2 : capN (x * y) = 401 := by
        unfold capN
        split
        · rfl
        · rename_i h4; omega
      rw [e1, e2]
  by_cases ha : 401 < a
  · have : capN a = 401 := by simp [capN, ha]
    rw [this]; exact key a b ha
  · have e1 : capN a = a := by simp [capN, ha]
    by_cases hb : 401 < b
    · have : capN b = 401 := by simp [capN, hb]
      rw [this, e1, Nat.mul_comm, Nat.mul_comm a b]
      have := key b a hb
      rw [e1] at this
      exact this
    · have e2 : capN b = b := by simp [capN, hb]
      rw [e1, e2]
theorem capN_or (a : Nat) : (401 < a ∧ capN a = 401) ∨ (a ≤ 401 ∧ capN a = a) := by unfold capN; split <;> omega
theorem capN_add (a b : Nat) : capN (capN a + capN b) = capN (a + b) := by
  have h1 := capN_or a
  have h2 := capN_or b
  have h3 := capN_or (a + b)
  have h4 := capN_or (capN a + capN b)
  omega
theorem cap_nat (n : Nat) : cap (n : Int) = (capN n : Int) := by unfold cap capN; split <;> split <;> omega
theorem countArgs_eq {f : Ty → Int} {g : Ty → Nat} (h : ∀ t, f t = (capN (g t) : Int)) (l : List Ty) : countArgs f l = (capN (prodN (l.map g)) : Int) := by
  have key : ∀ (l : List Ty) (m : Nat), l.foldl (fun n a => cap (n * f a)) (capN m : Int) = (capN (m * prodN (l.map g)) : Int) := by
    intro l
    induction l with
    | nil => intro m; simp [prodN]
    | cons a r ih =>
      intro m
      simp only [List.foldl_cons, List.map_cons, prodN]
      rw [h a]
      have : cap ((capN m : Int) * (capN (g a) : Int)) = (capN (m * g a) : Int) := by
        rw [← Int.natCast_mul, cap_nat, capN_mul]
      rw [this, ih, Nat.mul_assoc]
  have := key l 1
  simpa [countArgs, capN] using this
theorem countSum_eq {f : Int → Int} {g : Int → Nat} (h : ∀ c, f c = (capN (g c) : Int)) (l : List Int) : countSum f l = (capN ((l.map g).sum) : Int) := by
  have key : ∀ (l : List Int) (m : Nat), l.foldl (fun s c => cap (s + f c)) (capN m : Int) = (capN (m + (l.map g).sum) : Int) := by
    intro l
    induction l with
    | nil => intro m; simp
    | cons a r ih =>
      intro m
      simp only [List.foldl_cons, List.map_cons, List.sum_cons]
      rw [h a]
      have : cap ((capN m : Int) + (capN (g a) : Int)) = (capN (m + g a) : Int) := by
        rw [← Int.natCast_add, cap_nat, capN_add]
      rw [this, ih, Nat.add_assoc]
  have := key l 0
  simpa [countSum, capN] using this
theorem flatMap_len {α β : Type} (f : α → List β) (l : List α) : (l.flatMap f).length = (l.map fun a => (f a).length).sum := by
  induction l with
  | nil => rfl
  | cons a r ih => simp [ih]
theorem countV_eq (w : List Data) : ∀ (n : Nat) (t : Ty), countV w n t = (capN (fullV w n t).length : Int)
  | 0, t => by simp [countV, fullV, capN]
  | n + 1, t => by
    unfold countV fullV
    split
    · simp [digits, capN]
    · rw [countSum_eq (g := fun c => ((prodL ((argsOf w t c).map (fullV w n))).map (Val.mk c 0)).length) (fun c => ?_), flatMap_len]
      rw [countArgs_eq (g := fun t => (fullV w n t).length) (fun t => countV_eq w n t), List.length_map, prodL_len, List.map_map]
      rfl
theorem len_of_count {w : List Data} {n : Nat} {t : Ty} (h : countV w n t ≤ 400) : ((fullV w n t).length : Int) = countV w n t := by
  rw [countV_eq] at h ⊢
  unfold capN at *
  split at h
  · omega
  · rename_i h1; simp [h1]
theorem count_zero {w : List Data} {n : Nat} {t : Ty} : countV w n t = 0 ↔ fullV w n t = [] := by
  rw [countV_eq, ← List.length_eq_zero_iff]
  unfold capN
  split <;> omega
theorem prod_none {w : List Data} {n : Nat} {l : List Ty} (h : (l.any fun a => decide (countV w n a = 0)) = true) : prodL (l.map (fullV w n)) = [] := by
  rw [← List.length_eq_zero_iff, prodL_len]
  obtain ⟨a, ha, h0⟩ := List.any_eq_true.1 h
  refine prodN_zero ?_
  simp only [List.map_map, List.mem_map]
  refine ⟨a, ha, ?_⟩
  have := count_zero.1 (of_decide_eq_true h0)
  simp [this]
/-- what is made on the way is not more than what is made in the end -/
theorem part_len {w : List Data} {n : Nat} {t : Ty} (ht : t.data ≠ -1) (hc : countV w (n + 1) t ≤ 400) {c : Int} (hm : c ∈ ctorsOf w t) {pre rest : List Ty} {y : Ty} (he : pre ++ y :: rest = argsOf w t c)
    (h0 : ((argsOf w t c).any fun a => decide (countV w n a = 0)) = false) : (prodL ((pre ++ [y]).map (fullV w n))).length ≤ 400 ∧ (fullV w n y).length ≤ 400 ∧ (prodL (pre.map (fullV w n))).length ≤ 400 := by
  have h1 := len_of_count hc
  have h2 : (prodL ((argsOf w t c).map (fullV w n))).length ≤ (fullV w (n + 1) t).length := by
    have e : fullV w (n + 1) t = (ctorsOf w t).flatMap fun c => (prodL ((argsOf w t c).map (fullV w n))).map (Val.mk c 0) := by rw [fullV, if_neg ht]
    obtain ⟨l1, l2, hl⟩ := List.append_of_mem hm
    rw [e, hl]
    simp
    omega
  have hpos : ∀ a, a ∈ argsOf w t c → 0 < (fullV w n a).length := fun a ha => by
    have := (List.any_eq_false.1 h0) a ha
    simp only [decide_eq_true_eq] at this
    have h3 : fullV w n a ≠ [] := fun h => this (count_zero.2 h)
    exact List.length_pos_iff.2 h3
  have h3 : (prodL ((argsOf w t c).map (fullV w n))).length = prodN ((pre.map fun a => (fullV w n a).length)) * ((fullV w n y).length * prodN (rest.map fun a => (fullV w n a).length)) := by
    rw [prodL_len, ← he]
    simp only [List.map_append, List.map_cons, List.map_map, prodN_append, prodN]
    rfl
  have h4 : (prodL ((pre ++ [y]).map (fullV w n))).length = prodN (pre.map fun a => (fullV w n a).length) * (fullV w n y).length := by
    rw [prodL_len]
    simp only [List.map_append, List.map_cons, List.map_nil, List.map_map, prodN_append, prodN, Nat.mul_one]
    rfl
  have p1 : 0 < prodN (rest.map fun a => (fullV w n a).length) := prodN_pos (fun x hx => by
    obtain ⟨a, ha, rfl⟩ := List.mem_map.1 hx
    exact hpos a (by rw [← he]; simp [ha]))
  have p2 : 0 < prodN (pre.map fun a => (fullV w n a).length) := prodN_pos (fun x hx => by
    obtain ⟨a, ha, rfl⟩ := List.mem_map.1 hx
    exact hpos a (by rw [← he]; simp [ha]))
  have h5 : prodN (pre.map fun a => (fullV w n a).length) * (fullV w n y).length ≤ prodN ((pre.map fun a => (fullV w n a).length)) * ((fullV w n y).length * prodN (rest.map fun a => (fullV w n a).length)) := by
    rw [← Nat.mul_assoc]; exact Nat.le_mul_of_pos_right _ p1
  have h6 : (fullV w n y).length ≤ prodN (pre.map fun a => (fullV w n a).length) * (fullV w n y).length := Nat.le_mul_of_pos_left _ p2
  have h7 : prodN (pre.map fun a => (fullV w n a).length) ≤ prodN (pre.map fun a => (fullV w n a).length) * (fullV w n y).length := Nat.le_mul_of_pos_right _ (hpos y (by rw [← he]; simp))
  have h8 : (prodL (pre.map (fullV w n))).length = prodN (pre.map fun a => (fullV w n a).length) := by rw [prodL_len, List.map_map]; rfl
  omega

/-! ### some are enough -/
theorem take_flatMap {α β : Type} (m : Nat) (f : α → List β) : ∀ l : List α, (l.flatMap fun a => (f a).take m).take m = (l.flatMap f).take m
  | [] => rfl
  | a :: r => by
    simp only [List.flatMap_cons, List.take_append, List.take_take, Nat.min_self, List.length_take]
    by_cases h : m ≤ (f a).length
    · have e1 : m - min m (f a).length = 0 := by omega
      have e2 : m - (f a).length = 0 := by omega
      rw [e1, e2]; simp
    · have e1 : min m (f a).length = (f a).length := by omega
      rw [e1]
      congr 1
      -- the rest: fewer are wanted
      have key : ∀ (m' : Nat), m' ≤ m → (r.flatMap fun a => (f a).take m).take m' = (r.flatMap f).take m' := fun m' hm' => by
        have := congrArg (List.take m') (take_flatMap m f r)
        rwa [List.take_take, List.take_take, Nat.min_eq_left hm'] at this
      exact key _ (by omega)
theorem take_flatMap_l {α β : Type} (m : Nat) (f : α → List β) (hf : ∀ a, 0 < (f a).length) : ∀ (l : List α), ((l.take m).flatMap f).take m = (l.flatMap f).take m
  | [] => by simp
  | a :: r => by
    cases m with
    | zero => simp
    | succ m =>
      simp only [List.take_succ_cons, List.flatMap_cons, List.take_append]
      congr 1
      have key : ∀ (m' : Nat), m' ≤ m → ((r.take m).flatMap f).take m' = (r.flatMap f).take m' := fun m' hm' => by
        have := congrArg (List.take m') (take_flatMap_l m f hf r)
        rwa [List.take_take, List.take_take, Nat.min_eq_left hm'] at this
      exact key _ (by have := hf a; omega)
theorem step_take (m : Nat) (acc : List (List Val)) (l : List Val) : (((acc.take m).flatMap fun o => (l.take m).map fun y => o ++ [y])).take m = (acc.flatMap fun o => l.map fun y => o ++ [y]).take m := by
  have h1 : ∀ a : List (List Val), ((a.flatMap fun o => (l.take m).map fun y => o ++ [y])).take m = (a.flatMap fun o => l.map fun y => o ++ [y]).take m := fun a => by
    have := take_flatMap m (fun o : List Val => l.map fun y => o ++ [y]) a
    simpa [List.map_take] using this
  rw [h1]
  by_cases hl : l = []
  · subst hl; simp only [List.map_nil]; have e : ∀ a : List (List Val), (a.flatMap fun _ => ([] : List (List Val))) = [] := fun a => by simp
    rw [e, e]
  · exact take_flatMap_l m _ (fun o => by simpa using List.length_pos_iff.2 hl) acc
theorem tupV_eq (m : Nat) (ls : List (List Val)) : tupV m (ls.map (List.take (m + 1))) = (prodL ls).take (m + 1) := by
  unfold tupV prodL
  have key : ∀ (ls acc : List (List Val)), (ls.map (List.take (m + 1))).foldl (fun acc l => (acc.flatMap fun o => l.map fun y => o ++ [y]).take (m + 1)) (acc.take (m + 1)) = (ls.foldl (fun acc l => acc.flatMap fun o => l.map fun y => o ++ [y]) acc).take (m + 1) := by
    intro ls
    induction ls with
    | nil => intro acc; rfl
    | cons l r ih => intro acc; simp only [List.map_cons, List.foldl_cons, step_take]; exact ih _
  have := key ls [[]]
  simpa using this
theorem allV_eq (w : List Data) (m : Nat) (hm : 9 ≤ m) : ∀ (n : Nat) (t : Ty), allV w m n t = (fullV w n t).take (m + 1)
  | 0, t => by simp [allV, fullV]
  | n + 1, t => by
    unfold allV fullV
    split
    · rw [List.take_of_length_le (by simp [digits]; omega)]
    · have e : ∀ c, tupV m ((argsOf w t c).map (allV w m n)) = (prodL ((argsOf w t c).map (fullV w n))).take (m + 1) := fun c => by
        rw [← tupV_eq, List.map_map]
        congr 1
        exact List.map_congr_left (fun a _ => allV_eq w m hm n a)
      simp only [e, List.map_take]
      exact take_flatMap (m + 1) (fun c => (prodL ((argsOf w t c).map (fullV w n))).map (Val.mk c 0)) _
theorem tup_le (m : Nat) (ls : List (List Val)) (acc : List (List Val)) (h : acc.length ≤ m + 1) : (ls.foldl (fun acc l => (acc.flatMap fun o => l.map fun y => o ++ [y]).take (m + 1)) acc).length ≤ m + 1 := by
  induction ls generalizing acc with
  | nil => exact h
  | cons l r ih => exact ih _ (by simp; omega)
theorem allV_len (w : List Data) (m : Nat) (hm : 9 ≤ m) (n : Nat) (t : Ty) : (allV w m n t).length ≤ m + 1 := by
  rw [allV_eq w m hm]; simp; omega
end Go.Proofs.Ytadpcmcifbakoaa
