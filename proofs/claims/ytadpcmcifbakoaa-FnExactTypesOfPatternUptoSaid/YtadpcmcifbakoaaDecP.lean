/-
  THE ARGUMENTS OF THE LAWS as data of the abstract walk: patterns.
-/
import Derived.Test.YtadpcmcifbakoaaDec
import Derived.Test.YtadpcmcifbakoaaF15
namespace Go.Proofs.Ytadpcmcifbakoaa
open Go Go.ChangeShapes Go.WideShapes Go.ChangeAt Go.RowKit
set_option linter.unusedSimpArgs false
set_option linter.unusedVariables false
set_option maxRecDepth 100000
theorem decPat (W : World) : ∀ n, Dec Try.prog W n 65 Pat.cc (fun v => Pats.size v.kids) (fun _ => True) := by
 intro n
 induction n using Nat.strongRecOn with
 | _ n ih =>
  cases n with
  | zero => exact Dec.zero
  | succ n =>
   have hk : Dec Try.prog W n 63 (fun l : List Pat => [.sl (l.map Pat.cc)]) (fun l => Pats.size l) (fun _ => True) := by
    cases n with
    | zero => exact Dec.zero
    | succ n =>
     refine Dec.map id (Dec.sl (k := 5) Try.underlying63 (by kernel_rfl) (fun _ => rfl) (ih n (by omega))) (fun _ => rfl) (fun l => ?_) (fun _ _ => trivial)
     have : ∀ l : List Pat, Pats.size l ≤ sumM (fun v => Pats.size v.kids) l := by
      intro l
      induction l with
      | nil => simp [Pats.size, sumM]
      | cons a r ih2 => simp only [Pats.size, sumM, Pat.size_eq]; omega
     exact this l
   refine Dec.map (fun p : Int × Int × Int × Int × Int × List Pat × Unit => Pat.mk p.1 p.2.1 p.2.2.1 p.2.2.2.1 p.2.2.2.2.1 p.2.2.2.2.2.1) (Dec.struct Try.underlying65 (by kernel_rfl) (DecF.cons (k := 1) (decInt W n) rfl (by kernel_rfl) (DecF.cons (k := 1) (decInt W n) rfl (by kernel_rfl) (DecF.cons (k := 1) (decInt W n) rfl (by kernel_rfl) (DecF.cons (k := 1) (decInt W n) rfl (by kernel_rfl) (DecF.cons (k := 1) (decInt W n) rfl (by kernel_rfl) (DecF.cons (k := 1) hk rfl (by kernel_rfl) DecF.nil))))))) (fun p => ?_) (fun p => ?_) (fun _ _ => trivial)
   ·show [D.i _, D.i _, D.i _, D.i _, D.i _, D.sl (Pat.cs _)] = _
    rw [show Pat.cs (Pat.mk p.1 p.2.1 p.2.2.1 p.2.2.2.1 p.2.2.2.2.1 p.2.2.2.2.2.1).kids = p.2.2.2.2.2.1.map Pat.cc by rw [Pat.cs_eq]; exact List.map_congr_left (fun v _ => Pat.c_eq v)]
    rfl
   ·show Pats.size p.2.2.2.2.2.1 ≤ 0 + 1 + (0 + 1 + (0 + 1 + (0 + 1 + (0 + 1 + (Pats.size p.2.2.2.2.2.1 + 1 + 0)))))
    omega
theorem Pats.ok_size : ∀ (n : Nat) (l : List Pat), Pats.size l ≤ n → n ≤ 1048576 → l.length ≤ 1048576 ∧ Pats.ok l := by
 intro n
 induction n with
 | zero =>
  intro l h hn
  cases l with
  | nil => exact ⟨by simp, trivial⟩
  | cons x r => simp only [Pats.size, Pat.size_eq] at h; omega
 | succ n ih =>
  intro l
  induction l with
  | nil => intro _ _; exact ⟨by simp, trivial⟩
  | cons x r ihr =>
   intro h hn
   simp only [Pats.size] at h
   have hx := Pat.size_eq x
   have h1 := ih x.kids (by omega) (by omega)
   have h2 := ih r (by omega) (by omega)
   refine ⟨?_, (Pat.ok_iff x).2 ⟨by have := h1.1; omega, h1.2⟩, h2.2⟩
   have : ∀ l : List Pat, l.length ≤ Pats.size l := by
    intro l
    induction l with
    | nil => simp
    | cons y s ihs => simp only [Pats.size, List.length_cons, Pat.size_eq]; omega
   have := this r
   simp only [List.length_cons]; omega
theorem pat_ok_of {v : Pat} (h : Pats.size v.kids ≤ 1048576) : v.ok := by
 have := Pats.ok_size _ _ (Nat.le_refl _) h
 exact (Pat.ok_iff v).2 ⟨by omega, this.2⟩
end Go.Proofs.Ytadpcmcifbakoaa
