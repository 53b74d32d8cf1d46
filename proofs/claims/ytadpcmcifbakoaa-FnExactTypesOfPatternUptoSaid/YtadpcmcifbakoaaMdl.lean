/-
  WHAT THE PROGRAM'S FUNCTIONS COMPUTE, as plain functions on plain data: types of data, names, worlds.
-/
import Derived.Test.YtadpcmcifbakoaaEnc
namespace Go.Proofs.Ytadpcmcifbakoaa
open Go
set_option linter.unusedSimpArgs false
set_option linter.unusedVariables false
def within (n lo hi : Int) : Bool := decide (lo ≤ n) && decide (n ≤ hi)
def upperB (b : UInt8) : Bool := decide (65 ≤ (b.toNat : Int)) && decide ((b.toNat : Int) ≤ 90)
def lowerB (b : UInt8) : Bool := decide (97 ≤ (b.toNat : Int)) && decide ((b.toNat : Int) ≤ 122)
def nameTail (s : Str) : Bool := s.all lowerB
def nameValid (s : Str) : Bool := within s.length 1 5 && (match s with | [] => false | b :: r => upperB b && nameTail r)
def argOk (n : Nat) (t : Ty) : Bool := (decide (t.data = -1) && (decide (t.index = 0) && true)) || (within t.data 0 (n - 1) && within t.index (-1) 3)
def ctorOk (n : Nat) (c : Ctor) : Bool := nameValid c.name && (decide ((c.args.length : Int) ≤ 3) && (within c.index 0 3 && !(c.args.any fun t => !argOk n t)))
def typeOk (n : Nat) (t : Ty) : Bool := (decide (t.data = -1) && (decide (t.index = 0) && true)) || (within t.data 0 (n - 1) && within t.index 0 3)
def dataNameOk (s : Str) : Bool := decide ((s.length : Int) = 1) && (upperB (s.getD 0 0) && !decide (s = [73]))
def ctorsOk (n : Nat) (met : List Str) : List Ctor → Option (List Str)
 | [] => some met
 | c :: r => if ctorOk n c && !decide (c.name ∈ met) then ctorsOk n (met ++ [c.name]) r else none
def datasOk (n : Nat) (met datas : List Str) : List Data → Bool
 | [] => true
 | d :: r => dataNameOk d.name && !decide (d.name ∈ datas) && within d.ctors.length 1 4 &&
  (match ctorsOk n met d.ctors with
   | some met' => datasOk n met' (datas ++ [d.name]) r
   | none => false)
def worldValid (w : List Data) : Bool := decide ((w.length : Int) ≤ 4) && datasOk w.length [] [] w
def typeValid (w : List Data) (t : Ty) : Bool := worldValid w && typeOk w.length t
def allTypesOf (n : Nat) : List Ty := ⟨-1, 0⟩ :: (List.range n).flatMap fun (i : Nat) => (List.range 4).map fun (k : Nat) => ⟨i, k⟩
def allTypes (w : List Data) : List Ty := if worldValid w then allTypesOf w.length else []
structure WSmall (w : List Data) : Prop where
 len : w.length ≤ 1000000000000
 data : ∀ d ∈ w, d.name.length ≤ 1000000000000 ∧ d.ctors.length ≤ 1000000000000
 ctor : ∀ d ∈ w, ∀ c ∈ d.ctors, c.name.length ≤ 1000000000000 ∧ c.args.length ≤ 1000000000000
def nth {α : Type} [Inhabited α] (l : List α) (i : Nat) : α := l.getD i default
theorem at_nth {α β : Type} [Inhabited α] {f : α → β} {l : List α} {i : Nat} (h : i < l.length) : (l.map f)[i]? = some (f (nth l i)) := by
 simp [nth, List.getD, h]
theorem nth_mem {α : Type} [Inhabited α] {l : List α} {i : Nat} (h : i < l.length) : nth l i ∈ l := by
 simp [nth, List.getD, h]
theorem nth_at {α : Type} [Inhabited α] {pre rest l : List α} {x : α} (h : pre ++ x :: rest = l) : nth l pre.length = x := by
 subst h; simp [nth, List.getD]
theorem WSmall.ctors {w : List Data} (h : WSmall w) (i : Nat) : (nth w i).ctors.length ≤ 1000000000000 := by
 by_cases hi : i < w.length
 ·exact (h.data _ (nth_mem hi)).2
 ·have : nth w i = default := by simp [nth, List.getD, List.getElem?_eq_none (Nat.le_of_not_lt hi)]
  rw [this]; exact Nat.zero_le _
def hitTwice (w : List Data) (d k i j : Nat) : Bool := (decide (i < d) || decide (j < k)) && (decide (k < (nth w d).ctors.length) && decide ((nth (nth w i).ctors j).name = (nth (nth w d).ctors k).name))
def rowTwice (w : List Data) (d k i : Nat) : Bool := (decide (i < d) && decide ((nth w i).name = (nth w d).name)) || (List.range (nth w i).ctors.length).any (hitTwice w d k i)
def twice (w : List Data) (d k : Nat) : Bool := (List.range (d + 1)).any (rowTwice w d k)
def specCtors (w : List Data) (d k : Nat) : Bool := ctorOk w.length (nth (nth w d).ctors k) && !twice w d k
def specData (w : List Data) (d : Nat) : Bool := dataNameOk (nth w d).name && (decide (1 ≤ (nth w d).ctors.length) && (decide ((nth w d).ctors.length ≤ 4) && (List.range (nth w d).ctors.length).all (specCtors w d)))
def specWorldValid (w : List Data) : Bool := decide (w.length ≤ 4) && (List.range w.length).all (specData w)
theorem any_range_false {n : Nat} {p : Nat → Bool} (h : ∀ i, i < n → p i = false) : (List.range n).any p = false := by
 rw [List.any_eq_false]; intro i hi; rw [h i (List.mem_range.1 hi)]; simp
theorem any_range_true {n : Nat} {p : Nat → Bool} {i : Nat} (hi : i < n) (h : p i = true) : (List.range n).any p = true :=
 List.any_eq_true.2 ⟨i, List.mem_range.2 hi, h⟩
theorem all_range_false {n : Nat} {p : Nat → Bool} {i : Nat} (hi : i < n) (h : p i = false) : (List.range n).all p = false :=
 List.all_eq_false.2 ⟨i, List.mem_range.2 hi, by simp [h]⟩
theorem all_range_true {n : Nat} {p : Nat → Bool} (h : ∀ i, i < n → p i = true) : (List.range n).all p = true := by
 rw [List.all_eq_true]; intro i hi; exact h i (List.mem_range.1 hi)
theorem upto_succ {P : Nat → Prop} {i : Nat} (h : ∀ j, j < i → P j) (hi : P i) : ∀ j, j < i + 1 → P j := fun j hj => by
 rcases Nat.lt_or_eq_of_le (Nat.le_of_lt_succ hj) with h1 | h1
 ·exact h j h1
 ·exact h1 ▸ hi
theorem row_false {w : List Data} {d k i j : Nat} (h1 : (decide (i < d) && decide ((nth w i).name = (nth w d).name)) = false) (h2 : ∀ j', j' < j → hitTwice w d k i j' = false)
  (h3 : j < (nth w i).ctors.length → d ≤ i ∧ k ≤ j) : rowTwice w d k i = false := by
 unfold rowTwice
 rw [h1, Bool.false_or]
 refine any_range_false (fun j' hj' => ?_)
 by_cases h : j' < j
 ·exact h2 j' h
 ·have := h3 (by omega)
  have e1 : decide (i < d) = false := decide_eq_false (by omega)
  have e2 : decide (j' < k) = false := decide_eq_false (by omega)
  simp only [hitTwice, e1, e2, Bool.or_self, Bool.false_and]
end Go.Proofs.Ytadpcmcifbakoaa
