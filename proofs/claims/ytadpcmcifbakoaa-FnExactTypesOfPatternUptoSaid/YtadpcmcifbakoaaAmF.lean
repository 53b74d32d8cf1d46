/-
  THE ABSTRACT WALK, part F: strings, lengths, pieces of slices, structs by value.
-/
import Derived.Test.YtadpcmcifbakoaaAmE
namespace Go.Proofs.Ytadpcmcifbakoaa
open Go
set_option linter.unusedSimpArgs false
set_option linter.unusedVariables false
section
variable {c : Ctx} {all : Array Oper} {chk : List Rec → Prop} {os : List Oper} {recs : List Rec} {env : Env} {hp : Hp} {Q : St → Prop}
variable {d ty : Nat} {pos : String} {af : Array Edge} {g : Option (Nat × Bool)} {pg : List (Nat × AV)}
variable {t yt : TypeId} {x y : Operand}
theorem Walk.eqS {l m : List UInt8} (hg : GH all env g pg) (hd : Nat.blt d c.n = true) (hx : opd env x = some (.d (.str l))) (hy : opd env y = some (.d (.str m)))
  (hn : Walk c all chk os (mkRec (pg ++ (opF x (.d (.str l)) ++ opF y (.d (.str m)))) [] [] ⟨some (d, .d (.bool (decide (l = m)))), []⟩ :: recs) ⟨(d, .d (.bool (decide (l = m)))) :: env, hp⟩ Q) :
  Walk c all chk (⟨some d, .binOp .eql t x y yt, ty, pos, af, g⟩ :: os) recs ⟨env, hp⟩ Q :=
 Walk.bin_str hg hd hx hy (fun w => ⟨.bool (decide (l = m)), by
  have : (l == m) = decide (l = m) := by by_cases h : l = m <;> simp [h]
  simp only [binOp_string_eql, toList_mk, this, Sem.run_pure], fun _ => .bool _⟩) hn
theorem Walk.neS {l m : List UInt8} (hg : GH all env g pg) (hd : Nat.blt d c.n = true) (hx : opd env x = some (.d (.str l))) (hy : opd env y = some (.d (.str m)))
  (hn : Walk c all chk os (mkRec (pg ++ (opF x (.d (.str l)) ++ opF y (.d (.str m)))) [] [] ⟨some (d, .d (.bool (!decide (l = m)))), []⟩ :: recs) ⟨(d, .d (.bool (!decide (l = m)))) :: env, hp⟩ Q) :
  Walk c all chk (⟨some d, .binOp .neq t x y yt, ty, pos, af, g⟩ :: os) recs ⟨env, hp⟩ Q :=
 Walk.bin_str hg hd hx hy (fun w => ⟨.bool (!decide (l = m)), by
  have : (l == m) = decide (l = m) := by by_cases h : l = m <;> simp [h]
  simp only [binOp_string_neq, toList_mk, this, Sem.run_pure], fun _ => .bool _⟩) hn
theorem Walk.catS {l m : List UInt8} (hg : GH all env g pg) (hd : Nat.blt d c.n = true) (hx : opd env x = some (.d (.str l))) (hy : opd env y = some (.d (.str m))) (hb : l.length + m.length ≤ 9223372036854775807)
  (hn : Walk c all chk os (mkRec (pg ++ (opF x (.d (.str l)) ++ opF y (.d (.str m)))) [] [] ⟨some (d, .d (.str (l ++ m))), []⟩ :: recs) ⟨(d, .d (.str (l ++ m))) :: env, hp⟩ Q) :
  Walk c all chk (⟨some d, .binOp .add t x y yt, ty, pos, af, g⟩ :: os) recs ⟨env, hp⟩ Q :=
 Walk.bin_str hg hd hx hy (fun w => ⟨.string ⟨(l ++ m).toArray⟩, by
  have h1 : (ByteArray.mk l.toArray).size = l.length := by simp [ByteArray.size]
  have h2 : (ByteArray.mk m.toArray).size = m.length := by simp [ByteArray.size]
  have h3 : ByteArray.mk l.toArray ++ ByteArray.mk m.toArray = ByteArray.mk (l ++ m).toArray := by
   apply ByteArray.ext
   simp
  simp only [binOp_string_add, Op.stringOp, h1, h2]
  have : ¬ ((l.length + m.length : Nat) : Int) > IntKind.i64.max := by simp [IntKind.max, IntKind.signed, IntKind.bits]; omega
  rw [if_neg this, h3]
  rfl, fun _ => .str _⟩) hn
theorem Walk.idxS {l : List UInt8} {kd : IntKind} {n : Int} {i : Nat} {b : UInt8} (ht : c.P.underlying t = some .string) (hg : GH all env g pg) (hd : Nat.blt d c.n = true)
  (hx : opd env x = some (.d (.str l))) (hy : opd env y = some (.d (.int kd n))) (hi : n = ↑i) (hb : l[i]? = some b)
  (hn : Walk c all chk os (mkRec (pg ++ (opF x (.d (.str l)) ++ opF y (.d (.int kd n)))) [] [] ⟨some (d, .d (.int .u8 b.toNat)), []⟩ :: recs) ⟨(d, .d (.int .u8 b.toNat)) :: env, hp⟩ Q) :
  Walk c all chk (⟨some d, .index t x y, ty, pos, af, g⟩ :: os) recs ⟨env, hp⟩ Q :=
 Walk.pure2 hg hd hx hy (fun a G T w h1 h2 => ⟨.int .u8 b.toNat, by
  obtain ⟨hlt, hv⟩ := List.getElem?_eq_some_iff.1 hb
  have hs : (ByteArray.mk l.toArray)[i]? = some b := by
   have h1 : i < (ByteArray.mk l.toArray).size := by simpa [ByteArray.size] using hlt
   rw [getElem?_pos (ByteArray.mk l.toArray) i h1]
   have : (ByteArray.mk l.toArray)[i] = l[i] := by simp [ByteArray.getElem_eq_getElem_data]
   rw [this, hv]
  have h0 : (0 : Int) ≤ (i : Int) := by omega
  simp only [execOp, h1.str_eq, h2.int_eq, hi, Instr.index, asIntOf, Sem.run_bind, Sem.run_pure, Result.andThen_ok, run_underlying ht, h0, if_true, Int.toNat_natCast, hs], .d (.int _ _)⟩) hn
theorem Walk.lenS {l : List UInt8} {at_ : Nat} (ht : c.P.underlying at_ = some .string) (hg : GH all env g pg) (hd : Nat.blt d c.n = true) (hx : opd env x = some (.d (.str l)))
  (hn : Walk c all chk os (mkRec (pg ++ opF x (.d (.str l))) [] [] ⟨some (d, .d (.i l.length)), []⟩ :: recs) ⟨(d, .d (.i l.length)) :: env, hp⟩ Q) :
  Walk c all chk (⟨some d, .call ⟨.builtin .len, #[x], #[at_]⟩, ty, pos, af, g⟩ :: os) recs ⟨env, hp⟩ Q :=
 Walk.pure1 hg hd hx (fun a G T w h => ⟨.int .i64 l.length, by
  have h1 : (ByteArray.mk l.toArray).size = l.length := by simp [ByteArray.size]
  simp [execOp, resolve, invoke, builtin, Builtin.len_, h.str_eq, run_underlying ht, goInt, h1], .d (.int _ _)⟩) hn
theorem RelD.sl_len {F : Nat → Nat} {w : World} {xs : List (List D)} {v : Value} (h : RelD F w (.sl xs) v) : ∃ a cap, v = .slice a xs.length cap := by
 cases h with
 | nil => exact ⟨none, 0, rfl⟩
 | emp => exact ⟨_, _, rfl⟩
 | sl _ k b off cap cf hk hcap hc hr => exact ⟨_, _, rfl⟩
theorem run_len_sl {P : Program} {w : World} {at_ e k yb ty : Nat} (ht : SlT P at_ e k yb) (a : Option Addr) (n cap : Nat) :
  (Builtin.len_ #[at_] ty #[.slice a n cap]).run P w = .ok (.int .i64 n) w := by
 simp [Builtin.len_, run_underlying ht.und, goInt]
theorem Walk.len {xs : List (List D)} {at_ e k yb : Nat} (ht : SlT c.P at_ e k yb) (hg : GH all env g pg) (hd : Nat.blt d c.n = true) (hx : opd env x = some (.d (.sl xs)))
  (hn : Walk c all chk os (mkRec (pg ++ opF x (.d (.sl xs))) [] [] ⟨some (d, .d (.i xs.length)), []⟩ :: recs) ⟨(d, .d (.i xs.length)) :: env, hp⟩ Q) :
  Walk c all chk (⟨some d, .call ⟨.builtin .len, #[x], #[at_]⟩, ty, pos, af, g⟩ :: os) recs ⟨env, hp⟩ Q :=
 Walk.pure1 hg hd hx (fun a G T w h => ⟨.int .i64 xs.length, by
  obtain ⟨ad, cap, he⟩ := h.d_inv.sl_len
  simp [execOp, resolve, invoke, builtin, he, run_len_sl ht], .d (.int _ _)⟩) hn
theorem Walk.lenG {xs : List (List D)} {at_ e k yb id : Nat} (ht : SlT c.P at_ e k yb) (hg : GH all env g pg) (hd : Nat.blt d c.n = true) (hx : opd env x = some (.gl id xs))
  (hn : Walk c all chk os (mkRec (pg ++ opF x (.gl id xs)) [] [] ⟨some (d, .d (.i xs.length)), []⟩ :: recs) ⟨(d, .d (.i xs.length)) :: env, hp⟩ Q) :
  Walk c all chk (⟨some d, .call ⟨.builtin .len, #[x], #[at_]⟩, ty, pos, af, g⟩ :: os) recs ⟨env, hp⟩ Q :=
 Walk.pure1 hg hd hx (fun a G T w h => ⟨.int .i64 xs.length, by
  have hh : RelD G.F w (.sl xs) (a.eval x) := by
   generalize a.eval x = v at *
   cases h with | gl h _ => exact h
  obtain ⟨ad, cap, he⟩ := hh.sl_len
  simp [execOp, resolve, invoke, builtin, he, run_len_sl ht], .d (.int _ _)⟩) hn
theorem Walk.lenM {at_ e k yb id n : Nat} (ht : SlT c.P at_ e k yb) (hg : GH all env g pg) (hd : Nat.blt d c.n = true) (hx : opd env x = some (.ms id n))
  (hn : Walk c all chk os (mkRec (pg ++ opF x (.ms id n)) [] [] ⟨some (d, .d (.i n)), []⟩ :: recs) ⟨(d, .d (.i n)) :: env, hp⟩ Q) :
  Walk c all chk (⟨some d, .call ⟨.builtin .len, #[x], #[at_]⟩, ty, pos, af, g⟩ :: os) recs ⟨env, hp⟩ Q :=
 Walk.pure1 hg hd hx (fun a G T w h => ⟨.int .i64 n, by
  obtain ⟨b, cap, hl, he, hc⟩ := h.ms_eq
  simp [execOp, resolve, invoke, builtin, he, run_len_sl ht], .d (.int _ _)⟩) hn
theorem Walk.minI {m n : Int} {ats : Array TypeId} (hg : GH all env g pg) (hd : Nat.blt d c.n = true) (hx : opd env x = some (.d (.i m))) (hy : opd env y = some (.d (.i n)))
  (hn : Walk c all chk os (mkRec (pg ++ (opF x (.d (.i m)) ++ opF y (.d (.i n)))) [] [] ⟨some (d, .d (.i (if n < m then n else m))), []⟩ :: recs) ⟨(d, .d (.i (if n < m then n else m))) :: env, hp⟩ Q) :
  Walk c all chk (⟨some d, .call ⟨.builtin .min, #[x, y], ats⟩, ty, pos, af, g⟩ :: os) recs ⟨env, hp⟩ Q :=
 Walk.pure2 hg hd hx hy (fun a G T w h1 h2 => ⟨.int .i64 (if n < m then n else m), by
  simp [execOp, resolve, invoke, builtin, h1.int_eq, h2.int_eq, run_min_int2], .d (.int _ _)⟩) hn
theorem Walk.maxI {m n : Int} {ats : Array TypeId} (hg : GH all env g pg) (hd : Nat.blt d c.n = true) (hx : opd env x = some (.d (.i m))) (hy : opd env y = some (.d (.i n)))
  (hn : Walk c all chk os (mkRec (pg ++ (opF x (.d (.i m)) ++ opF y (.d (.i n)))) [] [] ⟨some (d, .d (.i (if m < n then n else m))), []⟩ :: recs) ⟨(d, .d (.i (if m < n then n else m))) :: env, hp⟩ Q) :
  Walk c all chk (⟨some d, .call ⟨.builtin .max, #[x, y], ats⟩, ty, pos, af, g⟩ :: os) recs ⟨env, hp⟩ Q :=
 Walk.pure2 hg hd hx hy (fun a G T w h1 h2 => ⟨.int .i64 (if m < n then n else m), by
  simp [execOp, resolve, invoke, builtin, h1.int_eq, h2.int_eq, run_max_int2], .d (.int _ _)⟩) hn
theorem Walk.func {f : FuncId} (hg : GH all env g pg) (hd : Nat.blt d c.n = true)
  (hn : Walk c all chk os (mkRec (pg ++ []) [] [] ⟨some (d, .fn f []), []⟩ :: recs) ⟨(d, .fn f []) :: env, hp⟩ Q) :
  Walk c all chk (⟨some d, .makeFunc (.func f) #[] #[], ty, pos, af, g⟩ :: os) recs ⟨env, hp⟩ Q :=
 Walk.pure0 hg hd (fun a G T w => ⟨.func (.func f) #[] #[], by simp [execOp, Instr.makeFunc], .fn (by simp) (fun i hi => by simp at hi)⟩) hn
def opdL (env : Env) : List Operand → Option (List AV)
 | [] => some []
 | x :: r => match opd env x with
  | some v => match opdL env r with | some l => some (v :: l) | none => none
  | none => none
def opFL : List Operand → List AV → List (Nat × AV)
 | x :: r, v :: l => opF x v ++ opFL r l
 | _, _ => []
theorem opdL_facts {env env' : Env} : ∀ {xs : List Operand} {vs : List AV}, opdL env xs = some vs → (∀ p, p ∈ opFL xs vs → getE env' p.1 = some p.2) → opdL env' xs = some vs
 | [], vs, h, _ => h
 | x :: r, vs, h, hf => by
  simp only [opdL] at h
  cases hx : opd env x with
  | none => simp [hx] at h
  | some v =>
   simp only [hx] at h
   cases hr : opdL env r with
   | none => simp [hr] at h
   | some l =>
    simp only [hr, Option.some.injEq] at h
    subst h
    have h1 := opd_facts hx (env' := env') (fun p hp => hf p (by simp [opFL, hp]))
    have h2 := opdL_facts hr (env' := env') (fun p hp => hf p (by simp [opFL, hp]))
    simp only [opdL, h1, h2]
theorem opFL_holds {env : Env} : ∀ {xs : List Operand} {vs : List AV}, opdL env xs = some vs → ∀ p, p ∈ opFL xs vs → getE env p.1 = some p.2
 | [], vs, h, p, hp => by cases vs <;> simp [opFL] at hp
 | x :: r, vs, h, p, hp => by
  simp only [opdL] at h
  cases hx : opd env x with
  | none => simp [hx] at h
  | some v =>
   simp only [hx] at h
   cases hr : opdL env r with
   | none => simp [hr] at h
   | some l =>
    simp only [hr, Option.some.injEq] at h
    subst h
    simp only [opFL, List.mem_append] at hp
    rcases hp with hp | hp
    ·exact opF_holds hx p hp
    ·exact opFL_holds hr p hp
theorem opdL_rel {G : Gh} {s : St} {a : Act} {w : World} (hr : R c G s a w) : ∀ {xs : List Operand} {vs : List AV}, opdL s.env xs = some vs →
  vs.length = xs.length ∧ ∀ i (hi : i < vs.length) (hx : i < xs.length), RelA G (tokf s.hp) w vs[i] (a.eval xs[i])
 | [], vs, h => by simp only [opdL, Option.some.injEq] at h; subst h; exact ⟨rfl, fun i hi => by simp at hi⟩
 | x :: r, vs, h => by
  simp only [opdL] at h
  cases hx : opd s.env x with
  | none => simp [hx] at h
  | some v =>
   simp only [hx] at h
   cases hr' : opdL s.env r with
   | none => simp [hr'] at h
   | some l =>
    simp only [hr', Option.some.injEq] at h
    subst h
    obtain ⟨h1, h2⟩ := opdL_rel hr hr'
    refine ⟨by simp [h1], fun i hi hxi => ?_⟩
    cases i with
    | zero => simpa using hr.opd hx
    | succ i => simpa using h2 i (by simpa using hi) (by simpa using hxi)
theorem Walk.pureL {op : Op} {xs : List Operand} {vs : List AV} {v : AV} (hg : GH all env g pg) (hd : Nat.blt d c.n = true) (hx : opdL env xs = some vs)
  (h : ∀ (a : Act) (G : Gh) (T : TokF) (w : World), (vs.length = xs.length ∧ ∀ i (hi : i < vs.length) (hx : i < xs.length), RelA G T w vs[i] (a.eval xs[i])) →
   ∃ z, (execOp a.eval ⟨some d, op, ty, pos, af, g⟩).run c.P w = .ok (.value z) w ∧ RelA G T w v z)
  (hn : Walk c all chk os (mkRec (pg ++ opFL xs vs) [] [] ⟨some (d, v), []⟩ :: recs) ⟨(d, v) :: env, hp⟩ Q) :
  Walk c all chk (⟨some d, op, ty, pos, af, g⟩ :: os) recs ⟨env, hp⟩ Q := by
 refine ⟨pg ++ opFL xs vs, [], [], _, LRule.pure rfl hg.gf hd (fun G s' a w hr hp _ => ?_), facts_append hg.facts (opFL_holds hx), by simp, by simp, hn⟩
 exact h a G _ w (opdL_rel hr (opdL_facts hx hp))
theorem Walk.closure {f : FuncId} {caps : Array Operand} {xs : List Operand} {vs : List AV} (hcaps : caps = xs.toArray) (hg : GH all env g pg) (hd : Nat.blt d c.n = true) (hx : opdL env xs = some vs)
  (hn : Walk c all chk os (mkRec (pg ++ opFL xs vs) [] [] ⟨some (d, .fn f vs), []⟩ :: recs) ⟨(d, .fn f vs) :: env, hp⟩ Q) :
  Walk c all chk (⟨some d, .makeFunc (.func f) #[] caps, ty, pos, af, g⟩ :: os) recs ⟨env, hp⟩ Q := by
 subst hcaps
 refine Walk.pureL hg hd hx (fun a G T w h => ?_) hn
 refine ⟨.func (.func f) #[] (xs.toArray.map a.eval), by simp [execOp, Instr.makeFunc], .fn (by simp [h.1]) (fun i hi hv => ?_)⟩
 have := h.2 i hi (by rw [← h.1]; exact hi)
 simpa using this
theorem RelD.sub {F : Nat → Nat} {w : World} {xs : List (List D)} {b off cap k : Nat} (h : RelD F w (.sl xs) (.slice (some ⟨b, off, none⟩) xs.length cap))
  (hk : ∀ x, x ∈ xs → x.length = k) {lo hi : Nat} (h1 : lo ≤ hi) (h2 : hi ≤ xs.length) :
  RelD F w (.sl ((xs.drop lo).take (hi - lo))) (.slice (some ⟨b, off + lo * k, none⟩) (hi - lo) (cap - lo)) := by
 generalize hv : Value.slice (some ⟨b, off, none⟩) xs.length cap = v at h
 cases h with
 | nil => cases hv
 | emp => simp at hv
 | sl _ k' b' off' cap' cf hk' hcap hc hr =>
  simp only [Value.slice.injEq, Option.some.injEq, Addr.mk.injEq] at hv
  obtain ⟨⟨rfl, rfl, _⟩, _, rfl⟩ := hv
  have hlen : ((xs.drop lo).take (hi - lo)).length = hi - lo := by simp; omega
  have hkk : xs ≠ [] → k' = k := fun hne => by
   obtain ⟨x, hx⟩ := List.exists_mem_of_ne_nil _ hne
   rw [← hk x hx, hk' x hx]
  by_cases hne : hi - lo = 0
  ·have h0 : (xs.drop lo).take (hi - lo) = [] := List.length_eq_zero_iff.1 (by omega)
   rw [h0, hne]
   exact .sl [] k b _ _ (fun _ => undef) (by simp) (by simp) (fun n hn => by simp at hn) (fun i hi => by simp at hi)
  have hxs : xs ≠ [] := fun h0 => by subst h0; simp at h2; omega
  have := hkk hxs
  subst this
  have hg : RelD F w (.sl ((xs.drop lo).take (hi - lo))) (.slice (some ⟨b, off + lo * k', none⟩) ((xs.drop lo).take (hi - lo)).length (cap - lo)) := by
   refine .sl _ k' b _ _ (fun n => cf (lo * k' + n)) (fun x hx => hk' x (List.mem_of_mem_drop (List.mem_of_mem_take hx))) (by omega) (fun n hn => ?_) (fun i hi' j hj => ?_)
   ·rw [hlen] at hn
    have hlt : lo * k' + n < xs.length * k' := by
     have h3 : hi * k' ≤ xs.length * k' := Nat.mul_le_mul_right _ h2
     have h4 : (hi - lo) * k' = hi * k' - lo * k' := Nat.sub_mul _ _ _
     have h5 : lo * k' ≤ hi * k' := Nat.mul_le_mul_right _ h1
     omega
    rw [Nat.add_assoc]
    exact hc _ hlt
   ·rw [hlen] at hi'
    have hli : lo + i < xs.length := by omega
    have he : ((xs.drop lo).take (hi - lo))[i] = xs[lo + i] := by simp
    have hj' : j < xs[lo + i].length := by rw [← he]; exact hj
    have := hr (lo + i) hli j hj'
    have e2 : lo * k' + (i * k' + j) = (lo + i) * k' + j := by rw [Nat.add_mul]; omega
    simp only [he, e2]
    exact this
  rw [hlen] at hg
  exact hg
end
end Go.Proofs.Ytadpcmcifbakoaa
