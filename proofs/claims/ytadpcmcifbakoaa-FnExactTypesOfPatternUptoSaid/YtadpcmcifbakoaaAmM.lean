/-
  THE ABSTRACT WALK, part M: the operation append, pieces, a nil slice that is to grow; functions and calls.
-/
import Derived.Test.YtadpcmcifbakoaaAmL
namespace Go.Proofs.Ytadpcmcifbakoaa
open Go
set_option linter.unusedSimpArgs false
set_option linter.unusedVariables false
section
variable {c : Ctx} {all : Array Oper} {chk : List Rec → Prop} {os : List Oper} {recs : List Rec} {env : Env} {hp : Hp} {Q : St → Prop}
variable {d ty : Nat} {pos : String} {af : Array Edge} {g : Option (Nat × Bool)} {pg : List (Nat × AV)}
variable {t yt : TypeId} {x y : Operand}
structure ZeroT (P : Program) (e k : Nat) : Prop where
 out : ∃ i z, P.info? e = some i ∧ i.zero = some z ∧ z.cells.size = k
theorem Walk.append {id k e yb : Nat} {xs ys : List (List D)} {vy : AV} (ht : SlT c.P t e k yb) (hz : ZeroT c.P e k) (hk : Nat.blt 0 k = true) (hg : GH all env g pg) (hd : Nat.blt d c.n = true)
  (hx : opd env x = some (.gl id xs)) (hy : opd env y = some vy) (hyd : vy.toD = some (.sl ys)) (htok : getH hp id = some (.tok xs.length k)) (hky : ∀ y, y ∈ ys → y.length = k)
  (hb : (xs.length + ys.length) * yb ≤ 140737488355328) (hm : xs.length + ys.length ≤ 9223372036854775807)
  (hn : Walk c all chk os (mkRec (pg ++ (opF x (.gl id xs) ++ opF y vy)) [(id, .tok xs.length k)] [] ⟨some (d, .gl id (xs ++ ys)), [(id, some (.tok (xs.length + ys.length) k))]⟩ :: recs)
   ⟨(d, .gl id (xs ++ ys)) :: env, (id, some (.tok (xs.length + ys.length) k)) :: hp⟩ Q) :
  Walk c all chk (⟨some d, .call ⟨.builtin .append, #[x, y], #[t, t]⟩, ty, pos, af, g⟩ :: os) recs ⟨env, hp⟩ Q := by
 refine ⟨pg ++ (opF x (.gl id xs) ++ opF y vy), [(id, .tok xs.length k)], [], _, ?_, facts_append hg.facts (facts_append (opF_holds hx) (opF_holds hy)), hh1 htok, by simp, hn⟩
 intro s a w hrel hp' hh _ K Q' hK
 obtain ⟨G, hr⟩ := hrel
 have e1 := hr.opd (opd_facts hx (fun p hm => hp' p (by simp [hm])))
 have e2 := hr.opd (opd_facts hy (fun p hm => hp' p (by simp [hm])))
 obtain ⟨i, z, z1, z2, z3⟩ := hz.out
 obtain ⟨v', w', G', hrun, hR, hA⟩ := append_step hr ht ⟨i, z1, z2, z3⟩ (by simpa [Nat.blt_eq] using hk) (hh1' hh) e1 (e2.toD hyd) hky hb hm ty
 unfold wpO
 rw [if_pos (hg.gf.wanted hr (fun p hm => hp' p (by simp [hm])))]
 unfold Oper.wp
 have : (execOp a.eval ⟨some d, .call ⟨.builtin .append, #[x, y], #[t, t]⟩, ty, pos, af, g⟩).run c.P w = .ok (.value v') w' := by
  simp only [execOp, resolve, invoke, builtin, Sem.run_bind, Sem.run_pure, Result.andThen_ok, List.map_toArray, List.map_cons, List.map_nil, hrun]
 rw [this, Oper.upon_value]
 exact hK _ _ ⟨G', hR.put hA hd⟩
theorem run_bounds {P : Program} {w : World} (isl : Bool) (len cap : Nat) {lo hi : Option Value} {a b : Nat} (hlo : (lo = none ∧ a = 0) ∨ ∃ kd, lo = some (.int kd a))
  (hhi : (hi = none ∧ b = len) ∨ ∃ kd, hi = some (.int kd b)) (hab : a ≤ b) (hb : b ≤ cap) : (Instr.sliceBounds isl len cap lo hi none).run P w = .ok (a, b, cap) w := by
 have h1 : (0 : Int) ≤ (a : Int) ∧ (a : Int) ≤ (b : Int) := by omega
 have h2 : (0 : Int) ≤ (b : Int) ∧ (b : Int) ≤ (cap : Int) := by omega
 rcases hlo with ⟨rfl, rfl⟩ | ⟨k1, rfl⟩ <;> rcases hhi with ⟨rfl, rfl⟩ | ⟨k2, rfl⟩
 ·simp [Instr.sliceBounds]
 ·simp only [Instr.sliceBounds, Instr.sliceBound, asIntOf, Sem.run_bind, Sem.run_pure, Result.andThen_ok, h2, and_self, if_true, Int.toNat_natCast]
 ·simp only [Instr.sliceBounds, Instr.sliceBound, asIntOf, Sem.run_bind, Sem.run_pure, Result.andThen_ok, h1, and_self, if_true, Int.toNat_natCast]
 ·simp only [Instr.sliceBounds, Instr.sliceBound, asIntOf, Sem.run_bind, Sem.run_pure, Result.andThen_ok, h1, h2, and_self, if_true, Int.toNat_natCast]
theorem run_cut_str {P : Program} {w : World} (ht : P.underlying t = some .string) {l : List UInt8} {lo hi : Option Value} {a b : Nat} (hlo : (lo = none ∧ a = 0) ∨ ∃ kd, lo = some (.int kd a))
  (hhi : (hi = none ∧ b = l.length) ∨ ∃ kd, hi = some (.int kd b)) (hab : a ≤ b) (hb : b ≤ l.length) :
  (Instr.sliceAt t (.string ⟨l.toArray⟩) lo hi none).run P w = .ok (.string ⟨((l.drop a).take (b - a)).toArray⟩) w := by
 have hsz : (ByteArray.mk l.toArray).size = l.length := by simp [ByteArray.size]
 have hext : (ByteArray.mk l.toArray).extract a b = ⟨((l.drop a).take (b - a)).toArray⟩ := by
  apply ByteArray.ext
  simp [ByteArray.data_extract, List.extract_eq_take_drop]
 have hbd := run_bounds (P := P) (w := w) false l.length l.length hlo hhi hab hb
 simp only [Instr.sliceAt, Sem.run_bind, run_underlying ht, Result.andThen_ok, Instr.slice, hsz, Option.isSome_none, Bool.false_eq_true, if_false, Sem.run_pure, hbd, hext]
theorem Walk.cutS_h {l : List UInt8} {o : Operand} {kd : IntKind} {n : Int} {b : Nat} (ht : c.P.underlying t = some .string) (hg : GH all env g pg) (hd : Nat.blt d c.n = true)
  (hx : opd env x = some (.d (.str l))) (ho : opd env o = some (.d (.int kd n))) (hi : n = ↑b) (hb : b ≤ l.length)
  (hn : Walk c all chk os (mkRec (pg ++ (opF x (.d (.str l)) ++ opF o (.d (.int kd n)))) [] [] ⟨some (d, .d (.str (l.take b))), []⟩ :: recs) ⟨(d, .d (.str (l.take b))) :: env, hp⟩ Q) :
  Walk c all chk (⟨some d, .slice t x none (some o) none, ty, pos, af, g⟩ :: os) recs ⟨env, hp⟩ Q :=
 Walk.pure2 hg hd hx ho (fun a G T w h1 h2 => ⟨.string ⟨(l.take b).toArray⟩, by
  have := run_cut_str (P := c.P) (w := w) ht (l := l) (lo := none) (hi := some (.int kd b)) (a := 0) (b := b) (.inl ⟨rfl, rfl⟩) (.inr ⟨kd, rfl⟩) (Nat.zero_le _) hb
  simp only [Nat.sub_zero, List.drop_zero] at this
  simp only [execOp, h1.str_eq, h2.int_eq, hi, Option.map_none, Option.map_some, Sem.run_bind, this, Result.andThen_ok, Sem.run_pure], .d (.str _)⟩) hn
theorem Walk.cutS_l {l : List UInt8} {o : Operand} {kd : IntKind} {n : Int} {b : Nat} (ht : c.P.underlying t = some .string) (hg : GH all env g pg) (hd : Nat.blt d c.n = true)
  (hx : opd env x = some (.d (.str l))) (ho : opd env o = some (.d (.int kd n))) (hi : n = ↑b) (hb : b ≤ l.length)
  (hn : Walk c all chk os (mkRec (pg ++ (opF x (.d (.str l)) ++ opF o (.d (.int kd n)))) [] [] ⟨some (d, .d (.str (l.drop b))), []⟩ :: recs) ⟨(d, .d (.str (l.drop b))) :: env, hp⟩ Q) :
  Walk c all chk (⟨some d, .slice t x (some o) none none, ty, pos, af, g⟩ :: os) recs ⟨env, hp⟩ Q :=
 Walk.pure2 hg hd hx ho (fun a G T w h1 h2 => ⟨.string ⟨(l.drop b).toArray⟩, by
  have := run_cut_str (P := c.P) (w := w) ht (l := l) (lo := some (.int kd b)) (hi := none) (a := b) (b := l.length) (.inr ⟨kd, rfl⟩) (.inl ⟨rfl, rfl⟩) hb (Nat.le_refl _)
  have e : (l.drop b).take (l.length - b) = l.drop b := List.take_of_length_le (by simp)
  rw [e] at this
  simp only [execOp, h1.str_eq, h2.int_eq, hi, Option.map_none, Option.map_some, Sem.run_bind, this, Result.andThen_ok, Sem.run_pure], .d (.str _)⟩) hn
theorem Walk.cutS_lh {l : List UInt8} {o o2 : Operand} {kd kd2 : IntKind} {n n2 : Int} {a b : Nat} (ht : c.P.underlying t = some .string) (hg : GH all env g pg) (hd : Nat.blt d c.n = true)
  (hx : opd env x = some (.d (.str l))) (ho : opd env o = some (.d (.int kd n))) (ho2 : opd env o2 = some (.d (.int kd2 n2))) (hi : n = ↑a) (hi2 : n2 = ↑b) (hab : a ≤ b) (hb : b ≤ l.length)
  (hn : Walk c all chk os (mkRec (pg ++ opFL [x, o, o2] [.d (.str l), .d (.int kd n), .d (.int kd2 n2)]) [] [] ⟨some (d, .d (.str ((l.drop a).take (b - a)))), []⟩ :: recs) ⟨(d, .d (.str ((l.drop a).take (b - a)))) :: env, hp⟩ Q) :
  Walk c all chk (⟨some d, .slice t x (some o) (some o2) none, ty, pos, af, g⟩ :: os) recs ⟨env, hp⟩ Q :=
 Walk.pureL hg hd (by simp [opdL, hx, ho, ho2]) (fun ac G T w h => ⟨.string ⟨((l.drop a).take (b - a)).toArray⟩, by
  have h0 := h.2 0 (by simp) (by simp)
  have h1 := h.2 1 (by simp) (by simp)
  have h2 := h.2 2 (by simp) (by simp)
  simp only [List.getElem_cons_zero, List.getElem_cons_succ] at h0 h1 h2
  have := run_cut_str (P := c.P) (w := w) ht (l := l) (lo := some (.int kd a)) (hi := some (.int kd2 b)) (a := a) (b := b) (.inr ⟨kd, rfl⟩) (.inr ⟨kd2, rfl⟩) hab hb
  simp only [execOp, h0.str_eq, h1.int_eq, h2.int_eq, hi, hi2, Option.map_none, Option.map_some, Sem.run_bind, this, Result.andThen_ok, Sem.run_pure], .d (.str _)⟩) hn
theorem run_cut_sl {P : Program} {w : World} {F : Nat → Nat} {e k yb : Nat} (ht : SlT P t e k yb) {xs : List (List D)} {v : Value} (hv : RelD F w (.sl xs) v) (hk : ∀ x, x ∈ xs → x.length = k)
  {lo hi : Option Value} {a b : Nat} (hlo : (lo = none ∧ a = 0) ∨ ∃ kd, lo = some (.int kd a))
  (hhi : (hi = none ∧ b = xs.length) ∨ ∃ kd, hi = some (.int kd b)) (hab : a ≤ b) (hb : b ≤ xs.length) :
  ∃ u, (Instr.sliceAt t v lo hi none).run P w = .ok u w ∧ RelD F w (.sl ((xs.drop a).take (b - a))) u := by
 obtain ⟨ie, hi1, hi2, hi3⟩ := ht.inf
 have h0 : ∀ (ad : Option Addr) (cap : Nat), v = .slice ad xs.length cap → xs.length ≤ cap →
   (Instr.sliceAt t v lo hi none).run P w = .ok (.slice (if cap = a then ad else ad.map (·.add (a * k))) (b - a) (cap - a)) w := by
  intro ad cap hvv hcap
  subst hvv
  have hbd := run_bounds (P := P) (w := w) true xs.length cap hlo hhi hab (by omega)
  simp only [Instr.sliceAt, Sem.run_bind, run_underlying ht.und, Result.andThen_ok, Instr.slice, hbd, ht.run_size, Sem.run_pure]
 cases hv with
 | nil =>
  have hb0 : b = 0 := by simpa using hb
  subst hb0
  have ha0 : a = 0 := by omega
  subst ha0
  refine ⟨_, h0 none 0 rfl (by simp), ?_⟩
  simp
  exact .nil
 | emp bl off s cap =>
  have hb0 : b = 0 := by simpa using hb
  subst hb0
  have ha0 : a = 0 := by omega
  subst ha0
  refine ⟨_, h0 _ cap rfl (by simp), ?_⟩
  simp only [List.drop_nil, List.take_nil, Nat.zero_mul, Option.map_some, Nat.sub_zero]
  by_cases hz : cap = 0
  ·rw [if_pos hz]; exact .emp _ _ _ _
  ·rw [if_neg hz]; exact .emp _ _ _ _
 | sl _ k' bl off cap cf hk' hcap hc hr =>
  refine ⟨_, h0 _ cap rfl hcap, ?_⟩
  have := RelD.sub (RelD.sl (F := F) (w := w) xs k' bl off cap cf hk' hcap hc hr) hk hab hb
  by_cases hca : cap = a
  ·rw [if_pos hca]
   have e0 : b - a = 0 := by omega
   rw [e0]
   exact .sl [] k bl off _ (fun _ => undef) (by simp) (by simp) (fun n hn => by simp at hn) (fun i hi => by simp at hi)
  ·rw [if_neg hca]
   simp only [Option.map_some, add_off]
   exact this
theorem Walk.cut_h {e k yb : Nat} {xs : List (List D)} {vx : AV} {o : Operand} {kd : IntKind} {n : Int} {b : Nat} (ht : SlT c.P t e k yb) (hg : GH all env g pg) (hd : Nat.blt d c.n = true)
  (hx : opd env x = some vx) (hxd : vx.toD = some (.sl xs)) (hk : ∀ x, x ∈ xs → x.length = k) (ho : opd env o = some (.d (.int kd n))) (hi : n = ↑b) (hb : b ≤ xs.length)
  (hn : Walk c all chk os (mkRec (pg ++ (opF x vx ++ opF o (.d (.int kd n)))) [] [] ⟨some (d, .d (.sl (xs.take b))), []⟩ :: recs) ⟨(d, .d (.sl (xs.take b))) :: env, hp⟩ Q) :
  Walk c all chk (⟨some d, .slice t x none (some o) none, ty, pos, af, g⟩ :: os) recs ⟨env, hp⟩ Q :=
 Walk.pure2 hg hd hx ho (fun a G T w h1 h2 => by
  obtain ⟨u, h3, h4⟩ := run_cut_sl (P := c.P) (w := w) ht (h1.toD hxd) hk (lo := none) (hi := some (.int kd b)) (a := 0) (b := b) (.inl ⟨rfl, rfl⟩) (.inr ⟨kd, rfl⟩) (Nat.zero_le _) hb
  simp only [Nat.sub_zero, List.drop_zero] at h4
  exact ⟨u, by simp only [execOp, h2.int_eq, hi, Option.map_none, Option.map_some, Sem.run_bind, h3, Result.andThen_ok, Sem.run_pure], .d h4⟩) hn
theorem Walk.cut_l {e k yb : Nat} {xs : List (List D)} {vx : AV} {o : Operand} {kd : IntKind} {n : Int} {b : Nat} (ht : SlT c.P t e k yb) (hg : GH all env g pg) (hd : Nat.blt d c.n = true)
  (hx : opd env x = some vx) (hxd : vx.toD = some (.sl xs)) (hk : ∀ x, x ∈ xs → x.length = k) (ho : opd env o = some (.d (.int kd n))) (hi : n = ↑b) (hb : b ≤ xs.length)
  (hn : Walk c all chk os (mkRec (pg ++ (opF x vx ++ opF o (.d (.int kd n)))) [] [] ⟨some (d, .d (.sl (xs.drop b))), []⟩ :: recs) ⟨(d, .d (.sl (xs.drop b))) :: env, hp⟩ Q) :
  Walk c all chk (⟨some d, .slice t x (some o) none none, ty, pos, af, g⟩ :: os) recs ⟨env, hp⟩ Q :=
 Walk.pure2 hg hd hx ho (fun a G T w h1 h2 => by
  obtain ⟨u, h3, h4⟩ := run_cut_sl (P := c.P) (w := w) ht (h1.toD hxd) hk (lo := some (.int kd b)) (hi := none) (a := b) (b := xs.length) (.inr ⟨kd, rfl⟩) (.inl ⟨rfl, rfl⟩) hb (Nat.le_refl _)
  have e : (xs.drop b).take (xs.length - b) = xs.drop b := List.take_of_length_le (by simp)
  rw [e] at h4
  exact ⟨u, by simp only [execOp, h2.int_eq, hi, Option.map_none, Option.map_some, Sem.run_bind, h3, Result.andThen_ok, Sem.run_pure], .d h4⟩) hn
end
end Go.Proofs.Ytadpcmcifbakoaa
