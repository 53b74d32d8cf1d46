/-
  THE ABSTRACT WALK, part Q: closed facts on types, by one computation each.
-/
import Derived.Test.YtadpcmcifbakoaaAmP
namespace Go.Proofs.Ytadpcmcifbakoaa
open Go
set_option linter.unusedSimpArgs false
set_option linter.unusedVariables false
section
variable {P : Program} {t : Nat}
def tyGet (P : Program) (t : Nat) : Option (Nat × Bool) := match P.info? t, P.underlying t with
 | some i, some u => some (i.size, aggB u)
 | _, _ => none
theorem TyS.of {k : Nat} {b : Bool} (h : tyGet P t = some (k, b)) : TyS P t k b := by
 unfold tyGet at h
 split at h
 ·rename_i i u h1 h2
  simp only [Option.some.injEq, Prod.mk.injEq] at h
  exact ⟨⟨i, h1, h.1⟩, ⟨u, h2, h.2⟩⟩
 ·cases h
def slGet (P : Program) (t : Nat) : Option (Nat × Nat × Nat) := match P.underlying t with
 | some (.slice e) => match P.info? e with
  | some i => some (e, i.size, i.bytes)
  | none => none
 | _ => none
theorem SlT.of {e k y : Nat} (h : slGet P t = some (e, k, y)) : SlT P t e k y := by
 unfold slGet at h
 split at h
 ·rename_i e' h1
  split at h
  ·rename_i i h2
   simp only [Option.some.injEq, Prod.mk.injEq] at h
   obtain ⟨rfl, h3, h4⟩ := h
   exact ⟨h1, ⟨i, h2, h3, h4⟩⟩
  ·cases h
 ·cases h
def tzGet (P : Program) (t : Nat) : Option (Nat × Option (List AV)) := match P.info? t with
 | some i => match i.zero with
  | some z => some (i.size, constAVs z.cells.toList)
  | none => none
 | none => none
theorem TyZ.of {k : Nat} {zs : List AV} (h : tzGet P t = some (k, some zs)) : TyZ P t k zs := by
 unfold tzGet at h
 split at h
 ·rename_i i h1
  split at h
  ·rename_i z h2
   simp only [Option.some.injEq, Prod.mk.injEq] at h
   exact ⟨⟨i, z, h1, h.1, h2, h.2⟩⟩
  ·cases h
 ·cases h
def zzGet (P : Program) (t : Nat) : Option Nat := match P.info? t with
 | some i => match i.zero with
  | some z => some z.cells.size
  | none => none
 | none => none
theorem ZeroT.of {k : Nat} (h : zzGet P t = some k) : ZeroT P t k := by
 unfold zzGet at h
 split at h
 ·rename_i i h1
  split at h
  ·rename_i z h2
   simp only [Option.some.injEq] at h
   exact ⟨⟨i, z, h1, h2, h⟩⟩
  ·cases h
 ·cases h
def stGet (P : Program) (t : Nat) : Option (Option (List AV) × Option (List (Nat × Nat))) := match P.info? t, P.underlying t with
 | some i, some (.struct fs) => match i.zero with
  | some z => some (constAVs z.cells.toList, fs.toList.mapM (fun f => (P.info? f.type).map fun i => (f.offset, i.size)))
  | none => none
 | _, _ => none
theorem StT.of {pl : List (Nat × Nat)} {zs : List AV} (h : stGet P t = some (some zs, some pl)) : StT P t pl zs := by
 unfold stGet at h
 split at h
 ·rename_i i fs h1 h2
  split at h
  ·rename_i z h3
   simp only [Option.some.injEq, Prod.mk.injEq] at h
   exact ⟨⟨i, z, fs, h1, h3, h.1, h2, h.2⟩⟩
  ·cases h
 ·cases h
def fdGet (P : Program) (t f : Nat) : Option (Nat × Bool) := match P.underlying t with
 | some (.struct fs) => match fs[f]? with
  | some fd => match P.info? fd.type with
   | some i => some (fd.offset, Nat.beq i.size 0)
   | none => none
  | none => none
 | _ => none
theorem Fd.of {f o : Nat} (h : fdGet P t f = some (o, false)) : Fd P t f o := by
 unfold fdGet at h
 split at h
 ·rename_i fs h1
  split at h
  ·rename_i fd h2
   split at h
   ·rename_i i h3
    simp only [Option.some.injEq, Prod.mk.injEq] at h
    refine ⟨⟨fs, fd, h1, h2, h.1, i, h3, fun h0 => ?_⟩⟩
    rw [h0] at h
    simp at h
   ·cases h
  ·cases h
 ·cases h
def arGet (P : Program) (t : Nat) : Option (Nat × Nat × Nat) := match P.underlying t with
 | some (.array n e) => match P.info? e with
  | some i => some (n, e, i.size)
  | none => none
 | _ => none
theorem ArT.of {n e k : Nat} (h : arGet P t = some (n, e, k)) : ArT P t n e k := by
 unfold arGet at h
 split at h
 ·rename_i n' e' h1
  split at h
  ·rename_i i h2
   simp only [Option.some.injEq, Prod.mk.injEq] at h
   obtain ⟨rfl, rfl, h3⟩ := h
   exact ⟨h1, ⟨i, h2, h3⟩⟩
  ·cases h
 ·cases h
end
theorem LeL.refl : ∀ l : List AV, LeL l l
 | [] => .nil
 | x :: r => .cons (.refl x) (LeL.refl r)
theorem LeA.eqd {x y : D} (h : x = y) : LeA (.d x) (.d y) := h ▸ .refl _
theorem LeA.eqi {n m : Int} (h : n = m) : LeA (.d (.i n)) (.d (.i m)) := h ▸ .refl _
theorem LeA.eqb {n m : Bool} (h : n = m) : LeA (.d (.bool n)) (.d (.bool m)) := h ▸ .refl _
theorem LeA.eqs {n m : List UInt8} (h : n = m) : LeA (.d (.str n)) (.d (.str m)) := h ▸ .refl _
theorem LeA.eqsl {xs ys : List (List D)} (h : xs = ys) : LeA (.d (.sl xs)) (.d (.sl ys)) := h ▸ .refl _
theorem LeA.gld {id : Nat} {xs ys : List (List D)} (h : xs = ys) : LeA (.gl id xs) (.d (.sl ys)) := h ▸ .gl _ _
theorem LeA.glg {id : Nat} {xs ys : List (List D)} (h : xs = ys) : LeA (.gl id xs) (.gl id ys) := h ▸ .refl _
theorem LeA.nild {ys : List (List D)} (h : [] = ys) : LeA .nils (.d (.sl ys)) := h ▸ .nil
theorem HSub.nil {hp : Hp} : HSub ([] ++ []) hp := fun _ _ h => by cases h
theorem noBox : ∀ id, isBox [] id = true → isBox ([] ++ []) id = true := fun _ h => h
theorem boxOK {hp hp' : Hp} (h : (boxIds hp).all (isBox (hp' ++ hp)) = true) : ∀ id, isBox hp id = true → isBox (hp' ++ hp) id = true := fun id hi => by
 have hs := (isBox_some hi).1
 obtain ⟨r, hr⟩ := Option.isSome_iff_exists.1 hs
 obtain ⟨x, hx⟩ := getH_key hr
 exact List.all_eq_true.1 h id (by simp only [boxIds, List.mem_filter, List.mem_map]; exact ⟨⟨(id, x), hx, rfl⟩, hi⟩)
theorem beq_nat_eq {n m : Nat} (h : n = m) {k : Nat} : (some (Res.tok n k) : Option Res) = some (.tok m k) := by rw [h]
theorem q1 {b : Bool} : ((!b) = true) = (b = false) := by cases b <;> simp
theorem q2 {b : Bool} : ((!b) = false) = (b = true) := by cases b <;> simp
theorem q3 {p : Prop} [Decidable p] : (decide p = true) = p := decide_eq_true_eq
theorem q4 {p : Prop} [Decidable p] : decide p = false ↔ ¬p := decide_eq_false_iff_not
theorem q5 {b : Bool} : (!!b) = b := Bool.not_not b
theorem q6 {α β : Type} {l : List α} {f : α → β} : (l.map f).length = l.length := List.length_map f
theorem q7 {a b : Bool} : ((a && b) = true) = (a = true ∧ b = true) := Bool.and_eq_true a b
theorem q8 {a b : Bool} : (a || b) = false ↔ a = false ∧ b = false := Bool.or_eq_false_iff
theorem Q5 : (∀ b : Bool, ((!b) = true) = (b = false)) ∧ (∀ b : Bool, ((!b) = false) = (b = true)) ∧ (∀ b : Bool, (!!b) = b) := ⟨fun _ => q1, fun _ => q2, fun _ => q5⟩
theorem Q : (∀ b : Bool, ((!b) = true) = (b = false)) ∧ (∀ b : Bool, ((!b) = false) = (b = true)) ∧ (∀ (p : Prop) [Decidable p], (decide p = true) = p) ∧ (∀ (p : Prop) [Decidable p], decide p = false ↔ ¬p) ∧ (∀ b : Bool, (!!b) = b) ∧
 (∀ (α β : Type) (l : List α) (f : α → β), (l.map f).length = l.length) ∧ (∀ a b : Bool, ((a && b) = true) = (a = true ∧ b = true)) ∧ (∀ a b : Bool, (a || b) = false ↔ a = false ∧ b = false) :=
 ⟨fun _ => q1, fun _ => q2, fun _ _ => q3, fun _ _ => q4, fun _ => q5, fun _ _ _ _ => q6, fun _ _ => q7, fun _ _ => q8⟩
theorem BQ : (∀ (p : Prop) [Decidable p], (decide p = true) = p) ∧ (∀ a b : Bool, ((a && b) = true) = (a = true ∧ b = true)) ∧ (∀ a b : Bool, ((a || b) = true) = (a = true ∨ b = true)) ∧ (∀ b : Bool, ((!b) = true) = (b = false)) ∧
 (∀ (p : Prop) [Decidable p], decide p = false ↔ ¬p) ∧ ((false = true) = False) ∧ (∀ p : Prop, (True ↔ p) = p) ∧ (∀ p : Prop, (False ↔ p) = ¬p) :=
 ⟨fun _ _ => q3, fun _ _ => q7, fun a b => Bool.or_eq_true a b, fun _ => q1, fun _ _ => q4, by simp, fun p => by simp, fun p => by simp⟩
theorem dup {p : Prop} (h : p) : p ∧ p := ⟨h, h⟩
section
variable {c : Ctx} {all : Array Oper} {chk : List Rec → Prop} {os : List Oper} {recs : List Rec} {env : Env} {hp : Hp} {Q : St → Prop}
variable {d ty : Nat} {pos : String} {af : Array Edge} {v : AV} {x : Operand} {K : Kt} {s : St}
theorem sr {id : Nat} {y : Code} (h : Walk c all (fun _ => True) all.toList [] s (K.with fun s' => CWp c y s' K).n) : CWp c (.seq (.region id all false) y) s K := CWp.seq (CWp.region rfl h)
theorem tv (h : Q s) : Walk c all (fun _ => True) [] recs s Q := ⟨trivial, h⟩
theorem mv (hn : Walk c all chk os (mkRec ([] ++ opF x v) [] [] ⟨some (d, v), []⟩ :: recs) ⟨(d, v) :: env, hp⟩ Q) (hd : Nat.blt d c.n = true := by exact rfl) (hx : opd env x = some v := by exact rfl) :
  Walk c all chk (⟨some d, .move x, ty, pos, af, none⟩ :: os) recs ⟨env, hp⟩ Q := Walk.move .none hd hx hn
theorem asg (hn : Walk c all chk os (mkRec ([] ++ opF x v) [] [] ⟨some (d, v), []⟩ :: recs) ⟨(d, v) :: env, hp⟩ Q) (hd : Nat.blt d c.n = true := by exact rfl) (hx : opd env x = some v := by exact rfl) :
  Walk c all chk (⟨some d, .assign x, ty, pos, af, none⟩ :: os) recs ⟨env, hp⟩ Q := Walk.assign .none hd hx hn
theorem ps {o : Oper} {j e : Nat} {b want : Bool} (h2 : b = !want) (h : Walk c all chk os (mkRec [(e, .d (.bool b))] [] [] ⟨some (d, .tup []), []⟩ :: recs) ⟨(d, .tup []) :: env, hp⟩ Q)
  (hg : o.guard = some (j, want) := by exact rfl) (h1 : (all[j]?).bind (·.dst) = some e := by exact rfl) (h4 : getE env e = some (.d (.bool b)) := by exact rfl) (hdst : o.dst = some d := by exact rfl) (hd : Nat.blt d c.n = true := by exact rfl) :
  Walk c all chk (o :: os) recs ⟨env, hp⟩ Q := Walk.pass hg h1 h4 h2 hdst hd h
theorem cd {t : Nat} {b : Bool} {x y : Code} (ht : b = true → CWp c x s K) (hf : b = false → CWp c y s K) (hc : getE s.env t = some (.d (.bool b)) := by exact rfl) : CWp c (.cond (.tmp t) x y) s K := CWp.cond hc ht hf
theorem sp (e : Nat) {b : Bool} (ht : b = true → Walk c all chk os recs ⟨env, hp⟩ Q) (hf : b = false → Walk c all chk os recs ⟨env, hp⟩ Q) (hc : getE env e = some (.d (.bool b)) := by exact rfl) : Walk c all chk os recs ⟨env, hp⟩ Q := Walk.split hc ht hf
end
end Go.Proofs.Ytadpcmcifbakoaa
