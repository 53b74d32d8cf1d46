/-
  THE ARGUMENTS OF THE LAWS as data of the abstract walk.
-/
import Derived.Test.YtadpcmcifbakoaaWrap
import Derived.Test.YtadpcmcifbakoaaF5
namespace Go.Proofs.Ytadpcmcifbakoaa
open Go Go.ChangeShapes Go.WideShapes Go.ChangeAt Go.RowKit
set_option linter.unusedSimpArgs false
set_option linter.unusedVariables false
set_option maxRecDepth 100000
theorem decInt (W : World) (n : Nat) : Dec Try.prog W n 3 (fun z : Int => [.i z]) (fun _ => 0) (fun _ => True) := Dec.map (f := fun z : Int => [D.i z]) (R := fun z => (Lit.int .i64 z).wf = true) id (Dec.int Try.underlying3) (fun _ => rfl) (fun _ => Nat.le_refl _) (fun _ _ => trivial)
theorem decStr (W : World) (n : Nat) : Dec Try.prog W n 9 (fun s : Str => [.str s]) (fun s => s.length) (fun _ => True) := Dec.str Try.underlying9
theorem decTy (W : World) : ∀ n, Dec Try.prog W n 40 Ty.c (fun _ => 0) (fun _ => True)
 | 0 => Dec.zero
 | n + 1 => Dec.map (fun p : Int × Int × Unit => (⟨p.1, p.2.1⟩ : Ty)) (Dec.struct Try.underlying40 (by kernel_rfl) (DecF.cons (k := 1) (decInt W n) rfl (by kernel_rfl) (DecF.cons (k := 1) (decInt W n) rfl (by kernel_rfl) DecF.nil))) (fun _ => rfl) (fun _ => Nat.zero_le _) (fun _ _ => trivial)
theorem decTys (W : World) : ∀ n, Dec Try.prog W n 138 (fun l : List Ty => [encTys l]) (fun l => l.length) (fun _ => True)
 | 0 => Dec.zero
 | n + 1 => Dec.map id (Dec.sl (k := 1) Try.underlying138 (by kernel_rfl) (fun _ => rfl) (decTy W n)) (fun _ => rfl) (fun l => sumM_len _ l) (fun _ _ => trivial)
def bCtor (c : Ctor) : Nat := c.name.length + c.args.length
theorem decCtor (W : World) : ∀ n, Dec Try.prog W n 140 Ctor.c bCtor (fun _ => True)
 | 0 => Dec.zero
 | n + 1 => Dec.map (fun p : Str × List Ty × Int × Unit => (⟨p.1, p.2.1, p.2.2.1⟩ : Ctor)) (Dec.struct Try.underlying140 (by kernel_rfl) (DecF.cons (k := 1) (decStr W n) rfl (by kernel_rfl) (DecF.cons (k := 1) (decTys W n) rfl (by kernel_rfl) (DecF.cons (k := 1) (decInt W n) rfl (by kernel_rfl) DecF.nil))))
   (fun _ => rfl) (fun p => by simp only [bCtor]; omega) (fun _ _ => trivial)
theorem decCtors (W : World) : ∀ n, Dec Try.prog W n 76 (fun l : List Ctor => [encCtors l]) (fun l => sumM bCtor l) (fun _ => True)
 | 0 => Dec.zero
 | n + 1 => Dec.map id (Dec.sl (k := 2) Try.underlying76 (by kernel_rfl) (fun _ => rfl) (decCtor W n)) (fun _ => rfl) (fun l => Nat.le_refl _) (fun _ _ => trivial)
def bData (d : Data) : Nat := d.name.length + sumM bCtor d.ctors
theorem decData (W : World) : ∀ n, Dec Try.prog W n 78 Data.c bData (fun _ => True)
 | 0 => Dec.zero
 | n + 1 => Dec.map (fun p : Str × List Ctor × Unit => (⟨p.1, p.2.1⟩ : Data)) (Dec.struct Try.underlying78 (by kernel_rfl) (DecF.cons (k := 1) (decStr W n) rfl (by kernel_rfl) (DecF.cons (k := 1) (decCtors W n) rfl (by kernel_rfl) DecF.nil)))
   (fun _ => rfl) (fun p => by simp only [bData]; omega) (fun _ _ => trivial)
theorem wsmall_of {w : List Data} {N : Nat} (h : sumM bData w + 1 ≤ N) (hN : N ≤ 1048576) : WSmall w := by
 refine ⟨by have := sumM_len bData w; omega, fun d hd => ?_, fun d hd c hc => ?_⟩
 ·have h1 := sumM_mem (m := bData) hd
  have h2 := sumM_len bCtor d.ctors
  simp only [bData] at h1
  omega
 ·have h1 := sumM_mem (m := bData) hd
  have h2 := sumM_mem (m := bCtor) hc
  simp only [bData] at h1
  simp only [bCtor] at h2
  omega
theorem decVal (W : World) : ∀ n, Dec Try.prog W n 49 Val.cc (fun v => Vals.size v.kids) (fun _ => True) := by
 intro n
 induction n using Nat.strongRecOn with
 | _ n ih =>
  cases n with
  | zero => exact Dec.zero
  | succ n =>
   have hk : Dec Try.prog W n 47 (fun l : List Val => [.sl (l.map Val.cc)]) (fun l => Vals.size l) (fun _ => True) := by
    cases n with
    | zero => exact Dec.zero
    | succ n =>
     refine Dec.map id (Dec.sl (k := 2) Try.underlying47 (by kernel_rfl) (fun _ => rfl) (ih n (by omega))) (fun _ => rfl) (fun l => ?_) (fun _ _ => trivial)
     have : ∀ l : List Val, Vals.size l ≤ sumM (fun v => Vals.size v.kids) l := by
      intro l
      induction l with
      | nil => simp [Vals.size, sumM]
      | cons a r ih2 => simp only [Vals.size, sumM, Val.size_eq]; omega
     exact this l
   refine Dec.map (fun p : Int × Int × List Val × Unit => Val.mk p.1 p.2.1 p.2.2.1) (Dec.struct Try.underlying49 (by kernel_rfl) (DecF.cons (k := 1) (decInt W n) rfl (by kernel_rfl) (DecF.cons (k := 1) (decInt W n) rfl (by kernel_rfl) (DecF.cons (k := 1) hk rfl (by kernel_rfl) DecF.nil)))) (fun p => ?_) (fun p => ?_) (fun _ _ => trivial)
   ·show [D.i _, D.i _, D.sl (Val.cs _)] = _
    rw [show Val.cs (Val.mk p.1 p.2.1 p.2.2.1).kids = p.2.2.1.map Val.cc by rw [Val.cs_eq]; exact List.map_congr_left (fun v _ => Val.c_eq v)]
    rfl
   ·show Vals.size p.2.2.1 ≤ 0 + 1 + (0 + 1 + (Vals.size p.2.2.1 + 1 + 0))
    omega
theorem Vals.ok_size : ∀ (n : Nat) (l : List Val), Vals.size l ≤ n → n ≤ 1048576 → l.length ≤ 1048576 ∧ Vals.ok l := by
 intro n
 induction n with
 | zero =>
  intro l h hn
  cases l with
  | nil => exact ⟨by simp, trivial⟩
  | cons x r => simp only [Vals.size, Val.size_eq] at h; omega
 | succ n ih =>
  intro l
  induction l with
  | nil => intro _ _; exact ⟨by simp, trivial⟩
  | cons x r ihr =>
   intro h hn
   simp only [Vals.size] at h
   have hx := Val.size_eq x
   have h1 := ih x.kids (by omega) (by omega)
   have h2 := ih r (by omega) (by omega)
   refine ⟨?_, (Val.ok_iff x).2 ⟨by have := h1.1; omega, h1.2⟩, h2.2⟩
   have : ∀ l : List Val, l.length ≤ Vals.size l := by
    intro l
    induction l with
    | nil => simp
    | cons y s ihs => simp only [Vals.size, List.length_cons, Val.size_eq]; omega
   have := this r
   simp only [List.length_cons]; omega
theorem val_ok_of {v : Val} (h : Vals.size v.kids ≤ 1048576) : v.ok := by
 have := Vals.ok_size _ _ (Nat.le_refl _) h
 exact (Val.ok_iff v).2 ⟨by omega, this.2⟩
end Go.Proofs.Ytadpcmcifbakoaa
