/-
  THE DATA OF THE PROGRAM as plain types, and how each lies in cells.
-/
import Derived.Test.YtadpcmcifbakoaaAmQ
namespace Go.Proofs.Ytadpcmcifbakoaa
set_option linter.unusedSimpArgs false
set_option linter.unusedVariables false
abbrev Str := List UInt8
structure Ty where
 data : Int
 index : Int
 deriving DecidableEq, Inhabited
structure Ctor where
 name : Str
 args : List Ty
 index : Int
 deriving DecidableEq, Inhabited
structure Data where
 name : Str
 ctors : List Ctor
 deriving DecidableEq, Inhabited
inductive Val where
 | mk (ctor n : Int) (kids : List Val)
 deriving Inhabited
inductive Pat where
 | mk (op ctor n m var : Int) (kids : List Pat)
 deriving Inhabited
abbrev Ty.c (t : Ty) : List D := [.i t.data, .i t.index]
abbrev encTys (l : List Ty) : D := .sl (l.map Ty.c)
abbrev Ctor.c (x : Ctor) : List D := [.str x.name, encTys x.args, .i x.index]
abbrev encCtors (l : List Ctor) : D := .sl (l.map Ctor.c)
abbrev Data.c (x : Data) : List D := [.str x.name, encCtors x.ctors]
abbrev encDatas (l : List Data) : D := .sl (l.map Data.c)
abbrev encInts (l : List Int) : D := .sl (l.map fun n => [.i n])
abbrev encStrs (l : List Str) : D := .sl (l.map fun n => [.str n])
mutual
def Val.c : Val → List D
 | .mk ctor n kids => [.i ctor, .i n, .sl (Val.cs kids)]
def Val.cs : List Val → List (List D)
 | [] => []
 | v :: r => v.c :: Val.cs r
end
abbrev encVals (l : List Val) : D := .sl (Val.cs l)
mutual
def Pat.c : Pat → List D
 | .mk op ctor n m var kids => [.i op, .i ctor, .i n, .i m, .i var, .sl (Pat.cs kids)]
def Pat.cs : List Pat → List (List D)
 | [] => []
 | v :: r => v.c :: Pat.cs r
end
abbrev encPats (l : List Pat) : D := .sl (Pat.cs l)
theorem Val.cs_eq : ∀ l : List Val, Val.cs l = l.map Val.c
 | [] => rfl
 | v :: r => by simp [Val.cs, Val.cs_eq r]
theorem Pat.cs_eq : ∀ l : List Pat, Pat.cs l = l.map Pat.c
 | [] => rfl
 | v :: r => by simp [Pat.cs, Pat.cs_eq r]
theorem zip_get {α β : Type} (f : α → β) (pre : List α) (x : α) (rest : List α) : ((pre ++ x :: rest).map f)[pre.length]? = some (f x) := by
 simp
theorem zip_at {α β : Type} {f : α → β} {pre : List α} {x : α} {rest xs : List α} (h : pre ++ x :: rest = xs) : (xs.map f)[pre.length]? = some (f x) := by
 subst h; simp
def Val.ctor : Val → Int | .mk a _ _ => a
def Val.num : Val → Int | .mk _ n _ => n
def Val.kids : Val → List Val | .mk _ _ k => k
abbrev Val.cc (v : Val) : List D := [.i v.ctor, .i v.num, .sl (Val.cs v.kids)]
theorem Val.c_eq (v : Val) : v.c = v.cc := by cases v; rfl
theorem Val.eta (v : Val) : Val.mk v.ctor v.num v.kids = v := by cases v; rfl
theorem zip_len {α : Type} (pre : List α) (x : α) (rest : List α) : (pre ++ x :: rest).length = pre.length + (rest.length + 1) := by simp
theorem Val.cs_len (l : List Val) : (Val.cs l).length = l.length := by simp [Val.cs_eq]
theorem Pat.cs_len (l : List Pat) : (Pat.cs l).length = l.length := by simp [Pat.cs_eq]
theorem Pat.cs_get (pre : List Pat) (x : Pat) (rest : List Pat) : (Pat.cs (pre ++ x :: rest))[pre.length]? = some x.c := by rw [Pat.cs_eq, zip_get]
theorem Val.cs_at {pre : List Val} {x : Val} {rest xs : List Val} (h : pre ++ x :: rest = xs) : (Val.cs xs)[pre.length]? = some x.cc := by rw [Val.cs_eq, ← Val.c_eq]; exact zip_at h
theorem Pat.cs_at {pre : List Pat} {x : Pat} {rest xs : List Pat} (h : pre ++ x :: rest = xs) : (Pat.cs xs)[pre.length]? = some x.c := by rw [Pat.cs_eq]; exact zip_at h
end Go.Proofs.Ytadpcmcifbakoaa
