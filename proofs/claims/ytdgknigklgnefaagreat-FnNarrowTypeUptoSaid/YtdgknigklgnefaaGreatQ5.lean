/-
  THE ABSTRACT WALK AND THE WALKS, part 5 of 6: the parts F28, F29, F36, F37, F38, F39, F40, L9, F14, F16, F42, Val, F7, F8, Wu, F9, F10, F11, F17.
-/
import Derived.Test.YtdgknigklgnefaaGreatQ4
namespace Go.Proofs.YtdgknigklgnefaaGreat
open Go
set_option linter.unusedSimpArgs false
set_option linter.unusedVariables false
set_option maxRecDepth 100000
set_option maxHeartbeats 2000000
theorem impl_newSpaces_fn {w : List Data} (hd : Dp w) : FnD Tryz.prog 93 [.d (encDatas w)] [] (.d (sPtr w (depthT w))) [] := by
 refine bd Tryz.f93 8 [] [999999] fun w0 F0 own kept hk => ?_
 refine Walk.call (cr := []) cal167 (impl_depthsOf_fn hd) rfl .none rfl rfl (LeL.refl _) trivial rfl rfl rfl ?_
 refine Walk.build st232 (ks := [0, 1]) (xs := [_, _]) rfl rfl .none rfl rfl rfl ?_
 refine Walk.box (id := 3007) .none rfl rfl rfl rfl rfl rfl rfl ?_
 refine ev ?_
 refine CWp.frzB hk 2 3007 0 rfl rfl rfl rfl ?_
 refine CWp.ret ?_
 refine rn0 (r1 rfl) (.refl _)
 all_goals (first | rfl | (simp []; done) | (simp_all; done) | (simp_all; omega) | omega)
theorem impl_matches_fn {w : List Data} (hd : Dp w) {f : Nat → Nat} : ∀ (n : Nat) {a k k' : Int} {p : Pat}, shapeP w n ⟨a, k'⟩ p = true → InS (w.length * 4) ⟨a, k⟩ → p.ok →
  FnD Tryz.prog 94 [.d (sPtr w f), .agg [.d (.i a), .d (.i k)], .agg [.d (.i p.op), .d (.i p.ctor), .d (.i p.n), .d (.i p.m), .d (.i p.var), .d (encPats p.kids)]] [] (.d (.bool (someP w f n ⟨a, k⟩ p))) []
 | 0, a, k, k', p, h, _, _ => by simp [shapeP] at h
 | n + 1, a, k, k', p, h, hi, hok => by
  rw [Pat.ok_iff] at hok
  have hw := hd.wt
  have hw4 := hd.four
  have ht := ins_tyin hi
  have pk := pkids (k := k) h
  have hcl := vctors_len hw ht
  have hops := pk.ops
  have hal := fun hm => args_ins hd hi (c := p.ctor) hm
  have hasm := fun hm => argsOf_small hw ht (c := p.ctor) hm
  have l5 := pk.len5
  have l6 := pk.len6
  have l4 := pk.len4
  refine bd Tryz.f94 84 [] [] fun w0 F0 own kept hk => ?_
  refine Walk.box (id := 3004) .none rfl rfl rfl rfl rfl rfl rfl ?_
  refine Walk.box (id := 3005) .none rfl rfl rfl rfl rfl rfl rfl ?_
  refine ev ?_
  refine sq (fun h1 h1p h1s => ?_) fun h1 h1p h1s => ?_
  ·try simp only [Q, Pat.cs_len, Bool.not_eq_true', Bool.not_eq_false', decide_eq_false_iff_not] at h1p
   refine sq (fun h2 h2p h2s => ?_) fun h2 h2p h2s => ?_
   ·try simp only [Q, Pat.cs_len, Bool.not_eq_true', Bool.not_eq_false', decide_eq_false_iff_not] at h2p
    refine Walk.call (cr := []) cal168 (impl_of_fn (n := w.length * 4) (f := f) hi (by omega)) rfl .none rfl rfl (LeL.refl _) trivial rfl rfl rfl ?_
    refine evd [] [] ?_
    refine dr ?_
    refine rn0 (r1 rfl) (.eqd ?_)
    all_goals (refine congrArg D.bool ?_; rw [someP_succ]; first | (rw [if_pos (by omega), dec_pos]; done) | (rw [if_neg (by omega), if_pos (by omega)]; done) | (rw [if_neg (by omega), if_neg (by omega), if_pos (by omega)]; first | rfl | (simp_all; done)) | (rw [if_neg (by omega), if_neg (by omega), if_neg (by omega), if_pos (by omega)]; done) | (rw [if_neg (by omega), if_neg (by omega), if_neg (by omega), if_neg (by omega)]; first | (rw [all2_nth_false (i := i) (by omega) (by omega) (by assumption), Bool.and_false]; done) | (rw [all2_nth_true (by omega) (fun x hx => hg1.2 x (by omega))]; simp_all; done) | (rw [decide_eq_false (by simp_all)]; rfl)))
   ·try simp only [Q, Pat.cs_len, Bool.not_eq_true', Bool.not_eq_false', decide_eq_false_iff_not] at h2p
    refine sq (fun h3 h3p h3s => ?_) fun h3 h3p h3s => ?_
    ·try simp only [Q, Pat.cs_len, Bool.not_eq_true', Bool.not_eq_false', decide_eq_false_iff_not] at h3p
     refine rn0 (r1 rfl) (.eqd ?_)
     all_goals (refine congrArg D.bool ?_; rw [someP_succ]; first | (rw [if_pos (by omega), dec_pos]; done) | (rw [if_neg (by omega), if_pos (by omega)]; done) | (rw [if_neg (by omega), if_neg (by omega), if_pos (by omega)]; first | rfl | (simp_all; done)) | (rw [if_neg (by omega), if_neg (by omega), if_neg (by omega), if_pos (by omega)]; done) | (rw [if_neg (by omega), if_neg (by omega), if_neg (by omega), if_neg (by omega)]; first | (rw [all2_nth_false (i := i) (by omega) (by omega) (by assumption), Bool.and_false]; done) | (rw [all2_nth_true (by omega) (fun x hx => hg1.2 x (by omega))]; simp_all; done) | (rw [decide_eq_false (by simp_all)]; rfl)))
    ·try simp only [Q, Pat.cs_len, Bool.not_eq_true', Bool.not_eq_false', decide_eq_false_iff_not] at h3p
     refine sq (fun h4 h4p h4s => ?_) fun h4 h4p h4s => ?_
     ·try simp only [Q, Pat.cs_len, Bool.not_eq_true', Bool.not_eq_false', decide_eq_false_iff_not] at h4p
      refine Walk.idx (i := 0) sl49 .none rfl rfl rfl rfl (pats_at (by omega)) rfl ?_
      refine evd [] [] ?_
      refine Walk.call (cr := []) cal94 (impl_matches_fn hd n (k' := k') (pk.one (by omega)) hi (Pats.ok_mem hok.2 _ (nth_mem (i := 0) (by omega)))) rfl .none rfl rfl (LeL.refl _) trivial rfl rfl rfl ?_
      refine evd [] [] ?_
      refine dr ?_
      refine rn0 (r1 rfl) (.eqd ?_)
      all_goals (refine congrArg D.bool ?_; rw [someP_succ]; first | (rw [if_pos (by omega), dec_pos]; done) | (rw [if_neg (by omega), if_pos (by omega)]; done) | (rw [if_neg (by omega), if_neg (by omega), if_pos (by omega)]; first | rfl | (simp_all; done)) | (rw [if_neg (by omega), if_neg (by omega), if_neg (by omega), if_pos (by omega)]; done) | (rw [if_neg (by omega), if_neg (by omega), if_neg (by omega), if_neg (by omega)]; first | (rw [all2_nth_false (i := i) (by omega) (by omega) (by assumption), Bool.and_false]; done) | (rw [all2_nth_true (by omega) (fun x hx => hg1.2 x (by omega))]; simp_all; done) | (rw [decide_eq_false (by simp_all)]; rfl)))
     ·try simp only [Q, Pat.cs_len, Bool.not_eq_true', Bool.not_eq_false', decide_eq_false_iff_not] at h4p
      refine sq (fun h5 h5p h5s => ?_) fun h5 h5p h5s => ?_
      ·try simp only [Q, Pat.cs_len, Bool.not_eq_true', Bool.not_eq_false', decide_eq_false_iff_not] at h5p
       refine Walk.idx (i := 0) sl49 .none rfl rfl rfl rfl (pats_at (by omega)) rfl ?_
       refine evd [] [] ?_
       refine Walk.call (cr := []) cal94 (impl_matches_fn hd n (k' := k') (pk.one (by omega)) hi (Pats.ok_mem hok.2 _ (nth_mem (i := 0) (by omega)))) rfl .none rfl rfl (LeL.refl _) trivial rfl rfl rfl ?_
       refine evd [] [] ?_
       refine sq (fun h6 h6p h6s => ?_) fun h6 h6p h6s => ?_
       ·try simp only [Q, Pat.cs_len, Bool.not_eq_true', Bool.not_eq_false', decide_eq_false_iff_not] at h6p
        refine dr ?_
        refine rn0 (r1 rfl) (.eqd ?_)
        all_goals (refine congrArg D.bool ?_; rw [someP_succ]; first | (rw [if_pos (by omega), dec_pos]; done) | (rw [if_neg (by omega), if_pos (by omega)]; done) | (rw [if_neg (by omega), if_neg (by omega), if_pos (by omega)]; first | rfl | (simp_all; done)) | (rw [if_neg (by omega), if_neg (by omega), if_neg (by omega), if_pos (by omega)]; done) | (rw [if_neg (by omega), if_neg (by omega), if_neg (by omega), if_neg (by omega)]; first | (rw [all2_nth_false (i := i) (by omega) (by omega) (by assumption), Bool.and_false]; done) | (rw [all2_nth_true (by omega) (fun x hx => hg1.2 x (by omega))]; simp_all; done) | (rw [decide_eq_false (by simp_all)]; rfl)))
       ·try simp only [Q, Pat.cs_len, Bool.not_eq_true', Bool.not_eq_false', decide_eq_false_iff_not] at h6p
        refine Walk.idx (i := 1) sl49 (.some rfl rfl h6) rfl rfl rfl rfl (pats_at (by omega)) rfl ?_
        refine evd [] [(41, false)] ?_ ⟨⟨_, rfl, h6⟩, trivial⟩
        refine Walk.call (cr := []) cal94 (impl_matches_fn hd n (k' := k') (pk.two (by omega)) hi (Pats.ok_mem hok.2 _ (nth_mem (i := 1) (by omega)))) rfl (.some rfl rfl h6) rfl rfl (LeL.refl _) trivial rfl rfl rfl ?_
        refine evd [] [(41, false)] ?_ ⟨⟨_, rfl, h6⟩, trivial⟩
        refine dr ?_
        refine rn0 (r1 rfl) (.eqd ?_)
        all_goals (refine congrArg D.bool ?_; rw [someP_succ]; first | (rw [if_pos (by omega), dec_pos]; done) | (rw [if_neg (by omega), if_pos (by omega)]; done) | (rw [if_neg (by omega), if_neg (by omega), if_pos (by omega)]; first | rfl | (simp_all; done)) | (rw [if_neg (by omega), if_neg (by omega), if_neg (by omega), if_pos (by omega)]; done) | (rw [if_neg (by omega), if_neg (by omega), if_neg (by omega), if_neg (by omega)]; first | (rw [all2_nth_false (i := i) (by omega) (by omega) (by assumption), Bool.and_false]; done) | (rw [all2_nth_true (by omega) (fun x hx => hg1.2 x (by omega))]; simp_all; done) | (rw [decide_eq_false (by simp_all)]; rfl)))
      ·try simp only [Q, Pat.cs_len, Bool.not_eq_true', Bool.not_eq_false', decide_eq_false_iff_not] at h5p
       refine Walk.call (cr := []) cal170 (impl_ctorsOf_v hw ht) rfl .none rfl rfl (LeL.refl _) trivial rfl rfl rfl ?_
       refine evd [] [] ?_
       refine Walk.call (cr := []) cal169 (slices_Contains_int_fn hcl) rfl .none rfl rfl (LeL.refl _) trivial rfl rfl rfl ?_
       refine evd [] [] ?_
       refine dr ?_
       refine sq (fun h7 h7p h7s => ?_) fun h7 h7p h7s => ?_
       ·try simp only [Q, Pat.cs_len, Bool.not_eq_true', Bool.not_eq_false', decide_eq_false_iff_not] at h7p
        refine rn0 (r1 rfl) (.eqd ?_)
        all_goals (refine congrArg D.bool ?_; rw [someP_succ]; first | (rw [if_pos (by omega), dec_pos]; done) | (rw [if_neg (by omega), if_pos (by omega)]; done) | (rw [if_neg (by omega), if_neg (by omega), if_pos (by omega)]; first | rfl | (simp_all; done)) | (rw [if_neg (by omega), if_neg (by omega), if_neg (by omega), if_pos (by omega)]; done) | (rw [if_neg (by omega), if_neg (by omega), if_neg (by omega), if_neg (by omega)]; first | (rw [all2_nth_false (i := i) (by omega) (by omega) (by assumption), Bool.and_false]; done) | (rw [all2_nth_true (by omega) (fun x hx => hg1.2 x (by omega))]; simp_all; done) | (rw [decide_eq_false (by simp_all)]; rfl)))
       ·try simp only [Q, Pat.cs_len, Bool.not_eq_true', Bool.not_eq_false', decide_eq_false_iff_not] at h7p
        refine Walk.call (cr := []) cal171 (impl_argTypes_v hw ht (by simp_all)) rfl .none rfl rfl (LeL.refl _) trivial rfl rfl rfl ?_
        refine evd [] [] ?_
        refine dr ?_
        refine CWp.loopX (ι := Nat) hk (fun i => [(69, .d (.i (i : Int)))]) [6, 7, 8, 70, 71, 72, 73, 74, 75, 76, 77, 78, 79, 80, 81, 82, 83] (fun i => []) (fun i => i ≤ (argsOf w ⟨a, k⟩ p.ctor).length ∧ ∀ i', i' < i → someP w f n (nth (argsOf w ⟨a, k⟩ p.ctor) i') (nth p.kids i') = true) (fun i => (argsOf w ⟨a, k⟩ p.ctor).length - i) 0 ⟨by omega, fun _ h => absurd h (by omega)⟩ ⟨⟨_, rfl, (LeA.eqi (by first | rfl | (simp; done) | (simp_all; done) | omega))⟩, trivial⟩ trivial (fun x => rfl) (fun i hg1 => ?_)
        refine evc [] [] ?_
        refine sq (fun h8 h8p h8s => ?_) fun h8 h8p h8s => ?_
        ·try simp only [Q, Pat.cs_len, Bool.not_eq_true', Bool.not_eq_false', decide_eq_false_iff_not] at h8p
         refine Walk.idx sl182 .none rfl rfl rfl rfl (at_nth (by omega)) rfl ?_
         refine ev ?_
         refine Walk.alloc (id := 3008) tz42 rfl .none rfl rfl rfl rfl ?_
         refine ev ?_
         refine Walk.store ty42 .none rfl rfl rfl rfl rfl rfl (by simp) rfl ?_
         refine tv ?_
         refine Walk.idx sl49 .none rfl rfl rfl rfl (pats_at (by omega)) rfl ?_
         refine evd [] [] ?_
         refine Walk.call (cr := []) cal94 (impl_matches_fn hd n (pk.arg (by omega) i (by omega)) (hal (by assumption) _ (nth_mem (by omega))) (Pats.ok_mem hok.2 _ (nth_mem (by omega)))) rfl .none rfl rfl (LeL.refl _) trivial rfl rfl rfl ?_
         refine evd [] [] ?_
         refine dr ?_
         refine sq (fun h9 h9p h9s => ?_) fun h9 h9p h9s => ?_
         ·try simp only [Q, Pat.cs_len, Bool.not_eq_true', Bool.not_eq_false', decide_eq_false_iff_not] at h9p
          refine rn0 (r1 rfl) (.eqd ?_)
          all_goals (refine congrArg D.bool ?_; rw [someP_succ]; first | (rw [if_pos (by omega), dec_pos]; done) | (rw [if_neg (by omega), if_pos (by omega)]; done) | (rw [if_neg (by omega), if_neg (by omega), if_pos (by omega)]; first | rfl | (simp_all; done)) | (rw [if_neg (by omega), if_neg (by omega), if_neg (by omega), if_pos (by omega)]; done) | (rw [if_neg (by omega), if_neg (by omega), if_neg (by omega), if_neg (by omega)]; first | (rw [all2_nth_false (i := i) (by omega) (by omega) (by assumption), Bool.and_false]; done) | (rw [all2_nth_true (by omega) (fun x hx => hg1.2 x (by omega))]; simp_all; done) | (rw [decide_eq_false (by simp_all)]; rfl)))
         ·try simp only [Q, Pat.cs_len, Bool.not_eq_true', Bool.not_eq_false', decide_eq_false_iff_not] at h9p
          refine ar ?_
          refine Exists.intro (i + 1) ⟨⟨by omega, upto_succ hg1.2 (by assumption)⟩, (by omega), Sub.x (by kernel_rfl) (by kernel_rfl) ⟨⟨_, rfl, (LeA.eqi (by first | rfl | (simp; done) | (simp_all; done) | omega))⟩, trivial⟩ (by kernel_rfl) (by kernel_rfl) trivial⟩
        ·try simp only [Q, Pat.cs_len, Bool.not_eq_true', Bool.not_eq_false', decide_eq_false_iff_not] at h8p
         refine rn0 (r1 rfl) (.eqd ?_)
         all_goals (refine congrArg D.bool ?_; rw [someP_succ]; first | (rw [if_pos (by omega), dec_pos]; done) | (rw [if_neg (by omega), if_pos (by omega)]; done) | (rw [if_neg (by omega), if_neg (by omega), if_pos (by omega)]; first | rfl | (simp_all; done)) | (rw [if_neg (by omega), if_neg (by omega), if_neg (by omega), if_pos (by omega)]; done) | (rw [if_neg (by omega), if_neg (by omega), if_neg (by omega), if_neg (by omega)]; first | (rw [all2_nth_false (i := i) (by omega) (by omega) (by assumption), Bool.and_false]; done) | (rw [all2_nth_true (by omega) (fun x hx => hg1.2 x (by omega))]; simp_all; done) | (rw [decide_eq_false (by simp_all)]; rfl)))
  ·try simp only [Q, Pat.cs_len, Bool.not_eq_true', Bool.not_eq_false', decide_eq_false_iff_not] at h1p
   refine sq (fun h10 h10p h10s => ?_) fun h10 h10p h10s => ?_
   ·try simp only [Q, Pat.cs_len, Bool.not_eq_true', Bool.not_eq_false', decide_eq_false_iff_not] at h10p
    refine Walk.call (cr := []) cal168 (impl_of_fn (n := w.length * 4) (f := f) hi (by omega)) rfl .none rfl rfl (LeL.refl _) trivial rfl rfl rfl ?_
    refine evd [] [] ?_
    refine dr ?_
    refine rn0 (r1 rfl) (.eqd ?_)
    all_goals (refine congrArg D.bool ?_; rw [someP_succ]; first | (rw [if_pos (by omega), dec_pos]; done) | (rw [if_neg (by omega), if_pos (by omega)]; done) | (rw [if_neg (by omega), if_neg (by omega), if_pos (by omega)]; first | rfl | (simp_all; done)) | (rw [if_neg (by omega), if_neg (by omega), if_neg (by omega), if_pos (by omega)]; done) | (rw [if_neg (by omega), if_neg (by omega), if_neg (by omega), if_neg (by omega)]; first | (rw [all2_nth_false (i := i) (by omega) (by omega) (by assumption), Bool.and_false]; done) | (rw [all2_nth_true (by omega) (fun x hx => hg1.2 x (by omega))]; simp_all; done) | (rw [decide_eq_false (by simp_all)]; rfl)))
   ·try simp only [Q, Pat.cs_len, Bool.not_eq_true', Bool.not_eq_false', decide_eq_false_iff_not] at h10p
    refine sq (fun h11 h11p h11s => ?_) fun h11 h11p h11s => ?_
    ·try simp only [Q, Pat.cs_len, Bool.not_eq_true', Bool.not_eq_false', decide_eq_false_iff_not] at h11p
     refine rn0 (r1 rfl) (.eqd ?_)
     all_goals (refine congrArg D.bool ?_; rw [someP_succ]; first | (rw [if_pos (by omega), dec_pos]; done) | (rw [if_neg (by omega), if_pos (by omega)]; done) | (rw [if_neg (by omega), if_neg (by omega), if_pos (by omega)]; first | rfl | (simp_all; done)) | (rw [if_neg (by omega), if_neg (by omega), if_neg (by omega), if_pos (by omega)]; done) | (rw [if_neg (by omega), if_neg (by omega), if_neg (by omega), if_neg (by omega)]; first | (rw [all2_nth_false (i := i) (by omega) (by omega) (by assumption), Bool.and_false]; done) | (rw [all2_nth_true (by omega) (fun x hx => hg1.2 x (by omega))]; simp_all; done) | (rw [decide_eq_false (by simp_all)]; rfl)))
    ·try simp only [Q, Pat.cs_len, Bool.not_eq_true', Bool.not_eq_false', decide_eq_false_iff_not] at h11p
     refine sq (fun h12 h12p h12s => ?_) fun h12 h12p h12s => ?_
     ·try simp only [Q, Pat.cs_len, Bool.not_eq_true', Bool.not_eq_false', decide_eq_false_iff_not] at h12p
      refine Walk.idx (i := 0) sl49 .none rfl rfl rfl rfl (pats_at (by omega)) rfl ?_
      refine evd [] [] ?_
      refine Walk.call (cr := []) cal94 (impl_matches_fn hd n (k' := k') (pk.one (by omega)) hi (Pats.ok_mem hok.2 _ (nth_mem (i := 0) (by omega)))) rfl .none rfl rfl (LeL.refl _) trivial rfl rfl rfl ?_
      refine evd [] [] ?_
      refine dr ?_
      refine rn0 (r1 rfl) (.eqd ?_)
      all_goals (refine congrArg D.bool ?_; rw [someP_succ]; first | (rw [if_pos (by omega), dec_pos]; done) | (rw [if_neg (by omega), if_pos (by omega)]; done) | (rw [if_neg (by omega), if_neg (by omega), if_pos (by omega)]; first | rfl | (simp_all; done)) | (rw [if_neg (by omega), if_neg (by omega), if_neg (by omega), if_pos (by omega)]; done) | (rw [if_neg (by omega), if_neg (by omega), if_neg (by omega), if_neg (by omega)]; first | (rw [all2_nth_false (i := i) (by omega) (by omega) (by assumption), Bool.and_false]; done) | (rw [all2_nth_true (by omega) (fun x hx => hg1.2 x (by omega))]; simp_all; done) | (rw [decide_eq_false (by simp_all)]; rfl)))
     ·try simp only [Q, Pat.cs_len, Bool.not_eq_true', Bool.not_eq_false', decide_eq_false_iff_not] at h12p
      refine sq (fun h13 h13p h13s => ?_) fun h13 h13p h13s => ?_
      ·try simp only [Q, Pat.cs_len, Bool.not_eq_true', Bool.not_eq_false', decide_eq_false_iff_not] at h13p
       refine Walk.idx (i := 0) sl49 .none rfl rfl rfl rfl (pats_at (by omega)) rfl ?_
       refine evd [] [] ?_
       refine Walk.call (cr := []) cal94 (impl_matches_fn hd n (k' := k') (pk.one (by omega)) hi (Pats.ok_mem hok.2 _ (nth_mem (i := 0) (by omega)))) rfl .none rfl rfl (LeL.refl _) trivial rfl rfl rfl ?_
       refine evd [] [] ?_
       refine sq (fun h14 h14p h14s => ?_) fun h14 h14p h14s => ?_
       ·try simp only [Q, Pat.cs_len, Bool.not_eq_true', Bool.not_eq_false', decide_eq_false_iff_not] at h14p
        refine dr ?_
        refine rn0 (r1 rfl) (.eqd ?_)
        all_goals (refine congrArg D.bool ?_; rw [someP_succ]; first | (rw [if_pos (by omega), dec_pos]; done) | (rw [if_neg (by omega), if_pos (by omega)]; done) | (rw [if_neg (by omega), if_neg (by omega), if_pos (by omega)]; first | rfl | (simp_all; done)) | (rw [if_neg (by omega), if_neg (by omega), if_neg (by omega), if_pos (by omega)]; done) | (rw [if_neg (by omega), if_neg (by omega), if_neg (by omega), if_neg (by omega)]; first | (rw [all2_nth_false (i := i) (by omega) (by omega) (by assumption), Bool.and_false]; done) | (rw [all2_nth_true (by omega) (fun x hx => hg1.2 x (by omega))]; simp_all; done) | (rw [decide_eq_false (by simp_all)]; rfl)))
       ·try simp only [Q, Pat.cs_len, Bool.not_eq_true', Bool.not_eq_false', decide_eq_false_iff_not] at h14p
        refine Walk.idx (i := 1) sl49 (.some rfl rfl h14) rfl rfl rfl rfl (pats_at (by omega)) rfl ?_
        refine evd [] [(41, false)] ?_ ⟨⟨_, rfl, h14⟩, trivial⟩
        refine Walk.call (cr := []) cal94 (impl_matches_fn hd n (k' := k') (pk.two (by omega)) hi (Pats.ok_mem hok.2 _ (nth_mem (i := 1) (by omega)))) rfl (.some rfl rfl h14) rfl rfl (LeL.refl _) trivial rfl rfl rfl ?_
        refine evd [] [(41, false)] ?_ ⟨⟨_, rfl, h14⟩, trivial⟩
        refine dr ?_
        refine rn0 (r1 rfl) (.eqd ?_)
        all_goals (refine congrArg D.bool ?_; rw [someP_succ]; first | (rw [if_pos (by omega), dec_pos]; done) | (rw [if_neg (by omega), if_pos (by omega)]; done) | (rw [if_neg (by omega), if_neg (by omega), if_pos (by omega)]; first | rfl | (simp_all; done)) | (rw [if_neg (by omega), if_neg (by omega), if_neg (by omega), if_pos (by omega)]; done) | (rw [if_neg (by omega), if_neg (by omega), if_neg (by omega), if_neg (by omega)]; first | (rw [all2_nth_false (i := i) (by omega) (by omega) (by assumption), Bool.and_false]; done) | (rw [all2_nth_true (by omega) (fun x hx => hg1.2 x (by omega))]; simp_all; done) | (rw [decide_eq_false (by simp_all)]; rfl)))
      ·try simp only [Q, Pat.cs_len, Bool.not_eq_true', Bool.not_eq_false', decide_eq_false_iff_not] at h13p
       refine Walk.call (cr := []) cal170 (impl_ctorsOf_v hw ht) rfl .none rfl rfl (LeL.refl _) trivial rfl rfl rfl ?_
       refine evd [] [] ?_
       refine Walk.call (cr := []) cal169 (slices_Contains_int_fn hcl) rfl .none rfl rfl (LeL.refl _) trivial rfl rfl rfl ?_
       refine evd [] [] ?_
       refine dr ?_
       refine sq (fun h15 h15p h15s => ?_) fun h15 h15p h15s => ?_
       ·try simp only [Q, Pat.cs_len, Bool.not_eq_true', Bool.not_eq_false', decide_eq_false_iff_not] at h15p
        refine rn0 (r1 rfl) (.eqd ?_)
        all_goals (refine congrArg D.bool ?_; rw [someP_succ]; first | (rw [if_pos (by omega), dec_pos]; done) | (rw [if_neg (by omega), if_pos (by omega)]; done) | (rw [if_neg (by omega), if_neg (by omega), if_pos (by omega)]; first | rfl | (simp_all; done)) | (rw [if_neg (by omega), if_neg (by omega), if_neg (by omega), if_pos (by omega)]; done) | (rw [if_neg (by omega), if_neg (by omega), if_neg (by omega), if_neg (by omega)]; first | (rw [all2_nth_false (i := i) (by omega) (by omega) (by assumption), Bool.and_false]; done) | (rw [all2_nth_true (by omega) (fun x hx => hg1.2 x (by omega))]; simp_all; done) | (rw [decide_eq_false (by simp_all)]; rfl)))
       ·try simp only [Q, Pat.cs_len, Bool.not_eq_true', Bool.not_eq_false', decide_eq_false_iff_not] at h15p
        refine Walk.call (cr := []) cal171 (impl_argTypes_v hw ht (by simp_all)) rfl .none rfl rfl (LeL.refl _) trivial rfl rfl rfl ?_
        refine evd [] [] ?_
        refine dr ?_
        refine CWp.loopX (ι := Nat) hk (fun i => [(69, .d (.i (i : Int)))]) [6, 7, 8, 70, 71, 72, 73, 74, 75, 76, 77, 78, 79, 80, 81, 82, 83] (fun i => []) (fun i => i ≤ (argsOf w ⟨a, k⟩ p.ctor).length ∧ ∀ i', i' < i → someP w f n (nth (argsOf w ⟨a, k⟩ p.ctor) i') (nth p.kids i') = true) (fun i => (argsOf w ⟨a, k⟩ p.ctor).length - i) 0 ⟨by omega, fun _ h => absurd h (by omega)⟩ ⟨⟨_, rfl, (LeA.eqi (by first | rfl | (simp; done) | (simp_all; done) | omega))⟩, trivial⟩ trivial (fun x => rfl) (fun i hg1 => ?_)
        refine evc [] [] ?_
        refine sq (fun h16 h16p h16s => ?_) fun h16 h16p h16s => ?_
        ·try simp only [Q, Pat.cs_len, Bool.not_eq_true', Bool.not_eq_false', decide_eq_false_iff_not] at h16p
         refine Walk.idx sl182 .none rfl rfl rfl rfl (at_nth (by omega)) rfl ?_
         refine ev ?_
         refine Walk.alloc (id := 3008) tz42 rfl .none rfl rfl rfl rfl ?_
         refine ev ?_
         refine Walk.store ty42 .none rfl rfl rfl rfl rfl rfl (by simp) rfl ?_
         refine tv ?_
         refine Walk.idx sl49 .none rfl rfl rfl rfl (pats_at (by omega)) rfl ?_
         refine evd [] [] ?_
         refine Walk.call (cr := []) cal94 (impl_matches_fn hd n (pk.arg (by omega) i (by omega)) (hal (by assumption) _ (nth_mem (by omega))) (Pats.ok_mem hok.2 _ (nth_mem (by omega)))) rfl .none rfl rfl (LeL.refl _) trivial rfl rfl rfl ?_
         refine evd [] [] ?_
         refine dr ?_
         refine sq (fun h17 h17p h17s => ?_) fun h17 h17p h17s => ?_
         ·try simp only [Q, Pat.cs_len, Bool.not_eq_true', Bool.not_eq_false', decide_eq_false_iff_not] at h17p
          refine rn0 (r1 rfl) (.eqd ?_)
          all_goals (refine congrArg D.bool ?_; rw [someP_succ]; first | (rw [if_pos (by omega), dec_pos]; done) | (rw [if_neg (by omega), if_pos (by omega)]; done) | (rw [if_neg (by omega), if_neg (by omega), if_pos (by omega)]; first | rfl | (simp_all; done)) | (rw [if_neg (by omega), if_neg (by omega), if_neg (by omega), if_pos (by omega)]; done) | (rw [if_neg (by omega), if_neg (by omega), if_neg (by omega), if_neg (by omega)]; first | (rw [all2_nth_false (i := i) (by omega) (by omega) (by assumption), Bool.and_false]; done) | (rw [all2_nth_true (by omega) (fun x hx => hg1.2 x (by omega))]; simp_all; done) | (rw [decide_eq_false (by simp_all)]; rfl)))
         ·try simp only [Q, Pat.cs_len, Bool.not_eq_true', Bool.not_eq_false', decide_eq_false_iff_not] at h17p
          refine ar ?_
          refine Exists.intro (i + 1) ⟨⟨by omega, upto_succ hg1.2 (by assumption)⟩, (by omega), Sub.x (by kernel_rfl) (by kernel_rfl) ⟨⟨_, rfl, (LeA.eqi (by first | rfl | (simp; done) | (simp_all; done) | omega))⟩, trivial⟩ (by kernel_rfl) (by kernel_rfl) trivial⟩
        ·try simp only [Q, Pat.cs_len, Bool.not_eq_true', Bool.not_eq_false', decide_eq_false_iff_not] at h16p
         refine rn0 (r1 rfl) (.eqd ?_)
         all_goals (refine congrArg D.bool ?_; rw [someP_succ]; first | (rw [if_pos (by omega), dec_pos]; done) | (rw [if_neg (by omega), if_pos (by omega)]; done) | (rw [if_neg (by omega), if_neg (by omega), if_pos (by omega)]; first | rfl | (simp_all; done)) | (rw [if_neg (by omega), if_neg (by omega), if_neg (by omega), if_pos (by omega)]; done) | (rw [if_neg (by omega), if_neg (by omega), if_neg (by omega), if_neg (by omega)]; first | (rw [all2_nth_false (i := i) (by omega) (by omega) (by assumption), Bool.and_false]; done) | (rw [all2_nth_true (by omega) (fun x hx => hg1.2 x (by omega))]; simp_all; done) | (rw [decide_eq_false (by simp_all)]; rfl)))
theorem impl_fixes_fn {w : List Data} (hw : WT w) : ∀ (n : Nat) {a k : Int} {p : Pat}, shapeP w n ⟨a, k⟩ p = true → TyIn w.length ⟨a, k⟩ → p.ok →
  FnD Tryz.prog 105 [.d (encDatas w), .agg [.d (.i a), .d (.i k)], .agg [.d (.i p.op), .d (.i p.ctor), .d (.i p.n), .d (.i p.m), .d (.i p.var), .d (encPats p.kids)]] [] (.d (.bool (rootP w n ⟨a, k⟩ p))) []
 | 0, a, k, p, h, _, _ => by simp [shapeP] at h
 | n + 1, a, k, p, h, ht, hok => by
  rw [Pat.ok_iff] at hok
  have pk := pkids (k := k) h
  have hops := pk.ops
  have l5 := pk.len5
  have l6 := pk.len6
  have hpl : p.op = 4 → 0 ≤ a ∧ a.toNat < w.length ∧ 0 ≤ p.ctor ∧ p.ctor.toNat < (nth w a.toNat).ctors.length := fun h4 => by
   obtain ⟨d, rfl, h1, j, h2, h3⟩ := vctors_data ht (pk.mem h4)
   rw [h2]; simp only [Int.toNat_natCast]; omega
  refine bd Tryz.f105 53 [] [] fun w0 F0 own kept hk => ?_
  refine Walk.box (id := 3004) .none rfl rfl rfl rfl rfl rfl rfl ?_
  refine Walk.box (id := 3005) .none rfl rfl rfl rfl rfl rfl rfl ?_
  refine ev ?_
  refine sq (fun h1 h1p h1s => ?_) fun h1 h1p h1s => ?_
  ·try simp only [Q, Pat.cs_len] at h1p
   refine Walk.idx (i := 0) sl49 .none rfl rfl rfl rfl (pats_at (by omega)) rfl ?_
   refine evd [] [] ?_
   refine Walk.call (cr := []) cal105 (impl_fixes_fn hw n (pk.one (by omega)) ht (Pats.ok_mem hok.2 _ (nth_mem (i := 0) (by omega)))) rfl .none rfl rfl (LeL.refl _) trivial rfl rfl rfl ?_
   refine evd [] [] ?_
   refine dr ?_
   refine rn0 (r1 rfl) (.eqd ?_)
   all_goals (refine congrArg D.bool ?_; rw [rootP_succ]; first | (rw [if_pos (by omega)]; done) | (rw [if_neg (by omega), if_pos (by omega)]; first | rfl | (simp_all; done)) | (rw [if_neg (by omega), if_neg (by omega), if_pos (by omega)]; done) | (rw [if_neg (by omega), if_neg (by omega), if_neg (by omega)]; done))
  ·try simp only [Q, Pat.cs_len] at h1p
   refine sq (fun h2 h2p h2s => ?_) fun h2 h2p h2s => ?_
   ·try simp only [Q, Pat.cs_len] at h2p
    refine Walk.idx (i := 0) sl49 .none rfl rfl rfl rfl (pats_at (by omega)) rfl ?_
    refine evd [] [] ?_
    refine Walk.call (cr := []) cal105 (impl_fixes_fn hw n (pk.one (by omega)) ht (Pats.ok_mem hok.2 _ (nth_mem (i := 0) (by omega)))) rfl .none rfl rfl (LeL.refl _) trivial rfl rfl rfl ?_
    refine evd [] [] ?_
    refine sq (fun h3 h3p h3s => ?_) fun h3 h3p h3s => ?_
    ·try simp only [Q, Pat.cs_len] at h3p
     refine Walk.idx (i := 1) sl49 (.some rfl rfl h3) rfl rfl rfl rfl (pats_at (by omega)) rfl ?_
     refine evd [] [(27, true)] ?_ ⟨⟨_, rfl, h3⟩, trivial⟩
     refine Walk.call (cr := []) cal105 (impl_fixes_fn hw n (pk.two (by omega)) ht (Pats.ok_mem hok.2 _ (nth_mem (i := 1) (by omega)))) rfl (.some rfl rfl h3) rfl rfl (LeL.refl _) trivial rfl rfl rfl ?_
     refine evd [] [(27, true)] ?_ ⟨⟨_, rfl, h3⟩, trivial⟩
     refine dr ?_
     refine rn0 (r1 rfl) (.eqd ?_)
     all_goals (refine congrArg D.bool ?_; rw [rootP_succ]; first | (rw [if_pos (by omega)]; done) | (rw [if_neg (by omega), if_pos (by omega)]; first | rfl | (simp_all; done)) | (rw [if_neg (by omega), if_neg (by omega), if_pos (by omega)]; done) | (rw [if_neg (by omega), if_neg (by omega), if_neg (by omega)]; done))
    ·try simp only [Q, Pat.cs_len] at h3p
     refine dr ?_
     refine rn0 (r1 rfl) (.eqd ?_)
     all_goals (refine congrArg D.bool ?_; rw [rootP_succ]; first | (rw [if_pos (by omega)]; done) | (rw [if_neg (by omega), if_pos (by omega)]; first | rfl | (simp_all; done)) | (rw [if_neg (by omega), if_neg (by omega), if_pos (by omega)]; done) | (rw [if_neg (by omega), if_neg (by omega), if_neg (by omega)]; done))
   ·try simp only [Q, Pat.cs_len] at h2p
    refine sq (fun h4 h4p h4s => ?_) fun h4 h4p h4s => ?_
    ·try simp only [Q, Pat.cs_len] at h4p
     refine Walk.idx (i := a.toNat) sl27 (.some rfl rfl h4) rfl rfl rfl (by have := hpl (by omega); omega) (at_nth (by have := hpl (by omega); omega)) rfl ?_
     refine evd [] [(39, true)] ?_ ⟨⟨_, rfl, h4⟩, trivial⟩
     refine Walk.idx (i := p.ctor.toNat) sl119 (.some rfl rfl h4) rfl rfl rfl (by have := hpl (by omega); omega) (at_nth (by have := hpl (by omega); omega)) rfl ?_
     refine evd [] [(39, true)] ?_ ⟨⟨_, rfl, h4⟩, trivial⟩
     refine dr ?_
     refine rn0 (r1 rfl) (.eqd ?_)
     all_goals (refine congrArg D.bool ?_; rw [rootP_succ]; first | (rw [if_pos (by omega)]; done) | (rw [if_neg (by omega), if_pos (by omega)]; first | rfl | (simp_all; done)) | (rw [if_neg (by omega), if_neg (by omega), if_pos (by omega)]; done) | (rw [if_neg (by omega), if_neg (by omega), if_neg (by omega)]; done))
    ·try simp only [Q, Pat.cs_len] at h4p
     refine dr ?_
     refine rn0 (r1 rfl) (.eqd ?_)
     all_goals (refine congrArg D.bool ?_; rw [rootP_succ]; first | (rw [if_pos (by omega)]; done) | (rw [if_neg (by omega), if_pos (by omega)]; first | rfl | (simp_all; done)) | (rw [if_neg (by omega), if_neg (by omega), if_pos (by omega)]; done) | (rw [if_neg (by omega), if_neg (by omega), if_neg (by omega)]; done))
theorem spec_l15Root_fn {w : List Data} (hw : WT w) : ∀ (n : Nat) {a k : Int} {p : Pat}, shapeP w n ⟨a, k⟩ p = true → TyIn w.length ⟨a, k⟩ → p.ok →
  FnD Tryz.prog 106 [.d (encDatas w), .agg [.d (.i a), .d (.i k)], .agg [.d (.i p.op), .d (.i p.ctor), .d (.i p.n), .d (.i p.m), .d (.i p.var), .d (encPats p.kids)]] [] (.d (.bool (rootP w n ⟨a, k⟩ p))) []
 | 0, a, k, p, h, _, _ => by simp [shapeP] at h
 | n + 1, a, k, p, h, ht, hok => by
  rw [Pat.ok_iff] at hok
  have pk := pkids (k := k) h
  have hops := pk.ops
  have l5 := pk.len5
  have l6 := pk.len6
  have hpl : p.op = 4 → 0 ≤ a ∧ a.toNat < w.length ∧ 0 ≤ p.ctor ∧ p.ctor.toNat < (nth w a.toNat).ctors.length := fun h4 => by
   obtain ⟨d, rfl, h1, j, h2, h3⟩ := vctors_data ht (pk.mem h4)
   rw [h2]; simp only [Int.toNat_natCast]; omega
  refine bd Tryz.f106 50 [] [] fun w0 F0 own kept hk => ?_
  refine Walk.box (id := 3004) .none rfl rfl rfl rfl rfl rfl rfl ?_
  refine Walk.box (id := 3005) .none rfl rfl rfl rfl rfl rfl rfl ?_
  refine ev ?_
  refine sq (fun h1 h1p h1s => ?_) fun h1 h1p h1s => ?_
  ·try simp only [Q, Pat.cs_len] at h1p
   refine Walk.idx (i := 0) sl49 .none rfl rfl rfl rfl (pats_at (by omega)) rfl ?_
   refine evd [] [] ?_
   refine Walk.call (cr := []) cal106 (spec_l15Root_fn hw n (pk.one (by omega)) ht (Pats.ok_mem hok.2 _ (nth_mem (i := 0) (by omega)))) rfl .none rfl rfl (LeL.refl _) trivial rfl rfl rfl ?_
   refine evd [] [] ?_
   refine dr ?_
   refine rn0 (r1 rfl) (.eqd ?_)
   all_goals (refine congrArg D.bool ?_; rw [rootP_succ]; first | (rw [if_pos (by omega)]; done) | (rw [if_neg (by omega), if_pos (by omega)]; first | rfl | (simp_all; done)) | (rw [if_neg (by omega), if_neg (by omega), if_pos (by omega)]; done) | (rw [if_neg (by omega), if_neg (by omega), if_neg (by omega)]; done))
  ·try simp only [Q, Pat.cs_len] at h1p
   refine sq (fun h2 h2p h2s => ?_) fun h2 h2p h2s => ?_
   ·try simp only [Q, Pat.cs_len] at h2p
    refine Walk.idx (i := 0) sl49 .none rfl rfl rfl rfl (pats_at (by omega)) rfl ?_
    refine evd [] [] ?_
    refine Walk.call (cr := []) cal106 (spec_l15Root_fn hw n (pk.one (by omega)) ht (Pats.ok_mem hok.2 _ (nth_mem (i := 0) (by omega)))) rfl .none rfl rfl (LeL.refl _) trivial rfl rfl rfl ?_
    refine evd [] [] ?_
    refine sq (fun h3 h3p h3s => ?_) fun h3 h3p h3s => ?_
    ·try simp only [Q, Pat.cs_len] at h3p
     refine Walk.idx (i := 1) sl49 (.some rfl rfl h3) rfl rfl rfl rfl (pats_at (by omega)) rfl ?_
     refine evd [] [(27, true)] ?_ ⟨⟨_, rfl, h3⟩, trivial⟩
     refine Walk.call (cr := []) cal106 (spec_l15Root_fn hw n (pk.two (by omega)) ht (Pats.ok_mem hok.2 _ (nth_mem (i := 1) (by omega)))) rfl (.some rfl rfl h3) rfl rfl (LeL.refl _) trivial rfl rfl rfl ?_
     refine evd [] [(27, true)] ?_ ⟨⟨_, rfl, h3⟩, trivial⟩
     refine dr ?_
     refine rn0 (r1 rfl) (.eqd ?_)
     all_goals (refine congrArg D.bool ?_; rw [rootP_succ]; first | (rw [if_pos (by omega)]; done) | (rw [if_neg (by omega), if_pos (by omega)]; first | rfl | (simp_all; done)) | (rw [if_neg (by omega), if_neg (by omega), if_pos (by omega)]; done) | (rw [if_neg (by omega), if_neg (by omega), if_neg (by omega)]; done))
    ·try simp only [Q, Pat.cs_len] at h3p
     refine dr ?_
     refine rn0 (r1 rfl) (.eqd ?_)
     all_goals (refine congrArg D.bool ?_; rw [rootP_succ]; first | (rw [if_pos (by omega)]; done) | (rw [if_neg (by omega), if_pos (by omega)]; first | rfl | (simp_all; done)) | (rw [if_neg (by omega), if_neg (by omega), if_pos (by omega)]; done) | (rw [if_neg (by omega), if_neg (by omega), if_neg (by omega)]; done))
   ·try simp only [Q, Pat.cs_len] at h2p
    refine sq (fun h4 h4p h4s => ?_) fun h4 h4p h4s => ?_
    ·try simp only [Q, Pat.cs_len] at h4p
     refine Walk.idx (i := a.toNat) sl27 .none rfl rfl rfl (by have := hpl (by omega); omega) (at_nth (by have := hpl (by omega); omega)) rfl ?_
     refine evd [] [] ?_
     refine Walk.idx (i := p.ctor.toNat) sl119 .none rfl rfl rfl (by have := hpl (by omega); omega) (at_nth (by have := hpl (by omega); omega)) rfl ?_
     refine evd [] [] ?_
     refine dr ?_
     refine rn0 (r1 rfl) (.eqd ?_)
     all_goals (refine congrArg D.bool ?_; rw [rootP_succ]; first | (rw [if_pos (by omega)]; done) | (rw [if_neg (by omega), if_pos (by omega)]; first | rfl | (simp_all; done)) | (rw [if_neg (by omega), if_neg (by omega), if_pos (by omega)]; done) | (rw [if_neg (by omega), if_neg (by omega), if_neg (by omega)]; done))
    ·try simp only [Q, Pat.cs_len] at h4p
     refine rn0 (r1 rfl) (.eqd ?_)
     all_goals (refine congrArg D.bool ?_; rw [rootP_succ]; first | (rw [if_pos (by omega)]; done) | (rw [if_neg (by omega), if_pos (by omega)]; first | rfl | (simp_all; done)) | (rw [if_neg (by omega), if_neg (by omega), if_pos (by omega)]; done) | (rw [if_neg (by omega), if_neg (by omega), if_neg (by omega)]; done))
theorem tv_facts {w : List Data} {a k : Int} (h : typeValid w ⟨a, k⟩ = true) : worldValid w = true ∧ TyIn w.length ⟨a, k⟩ ∧ (a ≠ -1 → 0 ≤ a ∧ a.toNat < w.length ∧ 0 ≤ k ∧ k ≤ 3) := by
 unfold typeValid at h
 rw [Bool.and_eq_true] at h
 obtain ⟨h1, h2⟩ := h
 simp only [typeOk, within, Bool.or_eq_true, Bool.and_eq_true, decide_eq_true_eq, and_true] at h2
 refine ⟨h1, ?_, fun ha => by omega⟩
 rcases h2 with h | h
 ·exact .inl h.1
 ·exact .inr ⟨a.toNat, by simp only; omega, by omega⟩
theorem ins_of {n d j : Nat} (hd : d < n) (hj : j < 4) : InS (n * 4) ⟨(d : Int), (j : Int)⟩ :=
 .inr ⟨by simp only [slotT, Int.toNat_natCast]; omega, by simp only [slotT, Int.toNat_natCast]; exact tyS_ij hj⟩
def ixOk (w : List Data) (a k : Int) (p : Pat) (m : Nat) : Bool := decide (k = 0 ∨ k = (m : Int)) && someP w (depthT w) 10 ⟨a, (m : Int)⟩ p
def idxTo (w : List Data) (a k : Int) (p : Pat) : Nat → List Int
 | 0 => []
 | m + 1 => idxTo w a k p m ++ (if ixOk w a k p (m + 1) then [((m + 1 : Nat) : Int)] else [])
theorem idxTo_len {w : List Data} {a k : Int} {p : Pat} : ∀ m, (idxTo w a k p m).length ≤ m
 | 0 => by simp [idxTo]
 | m + 1 => by
  have := idxTo_len (w := w) (a := a) (k := k) (p := p) m
  simp only [idxTo, List.length_append]
  split
  ·simp only [List.length_singleton]; omega
  ·simp only [List.length_nil]; omega
theorem idxTo_yes {w : List Data} {a k : Int} {p : Pat} {m : Nat} (h : ixOk w a k p (m + 1) = true) : idxTo w a k p (m + 1) = idxTo w a k p m ++ [((m + 1 : Nat) : Int)] := by
 simp only [idxTo]; rw [if_pos h]
theorem idxTo_no {w : List Data} {a k : Int} {p : Pat} {m : Nat} (h : ixOk w a k p (m + 1) = false) : idxTo w a k p (m + 1) = idxTo w a k p m := by
 simp only [idxTo]; rw [if_neg (by rw [h]; simp), List.append_nil]
def patValid (w : List Data) (a k : Int) (p : Pat) : Bool := typeValid w ⟨a, k⟩ && isP w ⟨a, k⟩ p
def indicesV (w : List Data) (a k : Int) (p : Pat) : List Int := if patValid w a k p = true ∧ a ≠ -1 then idxTo w a k p 3 else []
structure PVal (w : List Data) (a k : Int) (p : Pat) : Prop where
 dp : Dp w
 tin : TyIn w.length ⟨a, k⟩
 shape : shapeP w 10 ⟨a, k⟩ p = true
 rng : a ≠ -1 → 0 ≤ a ∧ a.toNat < w.length ∧ 0 ≤ k ∧ k ≤ 3
theorem pval {w : List Data} (hs : WSmall w) {a k : Int} {p : Pat} (h : patValid w a k p = true) : PVal w a k p := by
 unfold patValid at h
 rw [Bool.and_eq_true] at h
 obtain ⟨h1, h2, h3⟩ := tv_facts h.1
 have h4 := h.2
 unfold isP at h4
 simp only [Bool.and_eq_true] at h4
 exact ⟨valid_dp hs h1, h2, h4.1, h3⟩
theorem indices_one {w : List Data} {a k : Int} {p : Pat} (h : (indicesV w a k p).length = 1) : patValid w a k p = true ∧ a ≠ -1 := by
 unfold indicesV at h
 split at h
 ·assumption
 ·simp at h
theorem impl_PatternValid_fn {w : List Data} (hs : WSmall w) {a k : Int} {p : Pat} (hok : p.ok) :
  FnD Tryz.prog 32 [.d (encDatas w), .agg [.d (.i a), .d (.i k)], .agg [.d (.i p.op), .d (.i p.ctor), .d (.i p.n), .d (.i p.m), .d (.i p.var), .d (encPats p.kids)]] [] (.d (.bool (patValid w a k p))) [] := by
 refine bd Tryz.f32 16 [] [] fun w0 F0 own kept hk => ?_
 refine Walk.box (id := 3004) .none rfl rfl rfl rfl rfl rfl rfl ?_
 refine Walk.box (id := 3005) .none rfl rfl rfl rfl rfl rfl rfl ?_
 refine ev ?_
 refine Walk.call (cr := []) cal98 (impl_TypeValid_fn hs) rfl .none rfl rfl (LeL.refl _) trivial rfl rfl rfl ?_
 refine ev ?_
 refine sq (fun h1 h1p h1s => ?_) fun h1 h1p h1s => ?_
 ·try simp only [Q] at h1p
  refine Walk.call (cr := []) cal99 (impl_patternOk_fn (valid_wt hs (tv_facts h1s).1) (tv_facts h1s).2.1 hok) rfl (.some rfl rfl h1) rfl rfl (LeL.refl _) trivial rfl rfl rfl ?_
  refine evs [] [(10, true)] ?_ ⟨⟨_, rfl, h1⟩, trivial⟩
  refine rn0 (r1 rfl) (.eqd ?_)
  all_goals (refine congrArg D.bool ?_; unfold patValid; simp_all)
 ·try simp only [Q] at h1p
  refine rn0 (r1 rfl) (.eqd ?_)
  all_goals (refine congrArg D.bool ?_; unfold patValid; simp_all)
theorem spec_TypeValid_v {w : List Data} {a b : Int} (hs : WSmall w) : FnD Tryz.prog 172 [.d (encDatas w), .agg [.d (.i a), .d (.i b)]] [] (.d (.bool (typeValid w ⟨a, b⟩))) [] := by
 rw [← spec_tv]; exact spec_TypeValid_fn hs
theorem spec_PatternValid_fn {w : List Data} (hs : WSmall w) {a k : Int} {p : Pat} (hok : p.ok) (hb : p.size ≤ 1000000000000) :
  FnD Tryz.prog 95 [.d (encDatas w), .agg [.d (.i a), .d (.i k)], .agg [.d (.i p.op), .d (.i p.ctor), .d (.i p.n), .d (.i p.m), .d (.i p.var), .d (encPats p.kids)]] [] (.d (.bool (patValid w a k p))) [] := by
 refine bd Tryz.f95 16 [] [] fun w0 F0 own kept hk => ?_
 refine Walk.box (id := 3004) .none rfl rfl rfl rfl rfl rfl rfl ?_
 refine Walk.box (id := 3005) .none rfl rfl rfl rfl rfl rfl rfl ?_
 refine ev ?_
 refine Walk.call (cr := []) cal172 (spec_TypeValid_v hs) rfl .none rfl rfl (LeL.refl _) trivial rfl rfl rfl ?_
 refine ev ?_
 refine sq (fun h1 h1p h1s => ?_) fun h1 h1p h1s => ?_
 ·try simp only [Q] at h1p
  refine Walk.call (cr := []) cal173 (spec_l3Is_fn (valid_wt hs (tv_facts h1s).1) (tv_facts h1s).2.1 hok hb) rfl (.some rfl rfl h1) rfl rfl (LeL.refl _) trivial rfl rfl rfl ?_
  refine evs [] [(10, true)] ?_ ⟨⟨_, rfl, h1⟩, trivial⟩
  refine rn0 (r1 rfl) (.eqd ?_)
  all_goals (refine congrArg D.bool ?_; unfold patValid; simp_all)
 ·try simp only [Q] at h1p
  refine rn0 (r1 rfl) (.eqd ?_)
  all_goals (refine congrArg D.bool ?_; unfold patValid; simp_all)
theorem impl_IndicesOf_fn {w : List Data} (hs : WSmall w) {a k : Int} {p : Pat} (hok : p.ok) :
  FnD Tryz.prog 29 [.d (encDatas w), .agg [.d (.i a), .d (.i k)], .agg [.d (.i p.op), .d (.i p.ctor), .d (.i p.n), .d (.i p.m), .d (.i p.var), .d (encPats p.kids)]] [] (.d (encInts (indicesV w a k p))) [] := by
 by_cases hv : patValid w a k p = true ∧ a ≠ -1
 ·have pv := pval hs hv.1
  have hr := pv.rng hv.2
  have hd := pv.dp
  have hin : ∀ m : Nat, m < 4 → InS (w.length * 4) ⟨a, (m : Int)⟩ := fun m hm => by
   have := ins_of (n := w.length) hr.2.1 hm
   rwa [Int.toNat_of_nonneg hr.1] at this
  refine bd Tryz.f29 49 [8] [1, 8] fun w0 F0 own kept hk => ?_
  refine Walk.box (id := 3004) .none rfl rfl rfl rfl rfl rfl rfl ?_
  refine Walk.box (id := 3005) .none rfl rfl rfl rfl rfl rfl rfl ?_
  refine evs [8] [] ?_
  refine CWp.regionJ ?_
  refine WRest.join 10 [(19, .d (.bool (false)))] [10, 11, 12, 13, 14, 15, 16, 17, 18] ?_ ?_
  ·
   refine evs [8] [] ?_
   refine Walk.call (cr := []) cal32 (impl_PatternValid_fn hs hok) rfl .none rfl rfl (LeL.refl _) trivial rfl rfl rfl ?_
   refine evs [8] [] ?_
   refine sq (fun h1 h1p h1s => ?_) fun h1 h1p h1s => ?_
   ·try simp only [Q] at h1p
    exact jn rfl (LeA.eqb (by first | rfl | (simp_all; done) | (simp [ixOk, h1s, h1p]; done) | (unfold ixOk; rw [Bool.eq_iff_iff]; simp_all; done) | (unfold ixOk; rw [Bool.eq_iff_iff]; simp_all; omega)))
   ·try simp only [Q] at h1p
    exact jn rfl (LeA.eqb (by first | rfl | (simp_all; done) | (simp [ixOk, h1s, h1p]; done) | (unfold ixOk; rw [Bool.eq_iff_iff]; simp_all; done) | (unfold ixOk; rw [Bool.eq_iff_iff]; simp_all; omega)))
  refine WRest.done ?_
  refine tv ?_
  refine sq (fun h2 h2p h2s => ?_) fun h2 h2p h2s => ?_
  ·try simp only [Q] at h2p
   exact absurd h2 (by simp) --stop
  ·try simp only [Q] at h2p
   refine Walk.call (cr := []) cal93 (impl_newSpaces_fn hd) rfl .none rfl rfl (LeL.refl _) trivial rfl rfl rfl ?_
   refine evs [8] [] ?_
   refine Walk.assignNil 1 1 .none rfl rfl ?_
   refine tv ?_
   refine CWp.loopX (ι := Nat) hk (fun m => [(9, .d (.i (((m + 1 : Nat)) : Int))), (8, .gl 1 ((idxTo w a k p m).map fun n => [D.i n]))]) [22, 23, 24, 25, 26, 27, 28, 29, 30, 31, 32, 33, 34, 35, 36, 37, 38, 39, 40, 41, 42, 43, 44, 45, 46, 47] (fun m => [(1, some (.tok (((idxTo w a k p m).map fun n => [D.i n])).length 1))]) (fun m => m ≤ 3) (fun m => 3 - m) 0 (by omega) ⟨⟨_, rfl, (LeA.eqi (by first | rfl | (simp; done) | (rw [idxTo_yes (by assumption)]; simp; done) | (rw [idxTo_no (by assumption)]; done) | omega))⟩, ⟨⟨_, rfl, (LeA.glg (by first | rfl | (simp; done) | (rw [idxTo_yes (by assumption)]; simp; done) | (rw [idxTo_no (by assumption)]; done) | omega))⟩, trivial⟩⟩ ⟨beq_nat_eq (by first | rfl | (simp; done) | (simp; omega) | (first | rfl | (simp; done) | (rw [idxTo_yes (by assumption)]; simp; done) | (rw [idxTo_no (by assumption)]; done) | omega)), trivial⟩ (fun x => rfl) (fun m hg1 => ?_)
   refine evc [8] [1, 8] ?_
   refine sq (fun h3 h3p h3s => ?_) fun h3 h3p h3s => ?_
   ·try simp only [Q] at h3p
    refine CWp.regionJ ?_
    refine WRest.join 18 [(43, .d (.bool (ixOk w a k p (m + 1))))] [26, 27, 28, 29, 30, 31, 32, 33, 34, 35, 36, 37, 38, 39, 40, 41, 42] ?_ ?_
    ·
     refine evs [8] [] ?_
     refine sq (fun h4 h4p h4s => ?_) fun h4 h4p h4s => ?_
     ·try simp only [Q] at h4p
      refine sqT ?_
      refine Walk.build st42 (ks := [0, 1]) (xs := [_, _]) rfl rfl (.some rfl rfl rfl) rfl rfl rfl ?_
      refine evs [8] [(35, true)] ?_ ⟨⟨_, rfl, rfl⟩, trivial⟩
      refine Walk.call (cr := []) cal94 (impl_matches_fn hd (f := depthT w) 10 (k' := k) pv.shape (hin (m + 1) (by omega)) hok) rfl (.some rfl rfl rfl) rfl rfl (LeL.refl _) trivial rfl rfl rfl ?_
      refine evs [8] [(35, true)] ?_ ⟨⟨_, rfl, rfl⟩, trivial⟩
      exact jn rfl (LeA.eqb (by first | rfl | (simp_all; done) | (simp [ixOk, h2s, h2p, h3s, h3p, h4s, h4p]; done) | (unfold ixOk; rw [Bool.eq_iff_iff]; simp_all; done) | (unfold ixOk; rw [Bool.eq_iff_iff]; simp_all; omega)))
     ·try simp only [Q] at h4p
      refine sq (fun h5 h5p h5s => ?_) fun h5 h5p h5s => ?_
      ·try simp only [Q] at h5p
       refine Walk.build st42 (ks := [0, 1]) (xs := [_, _]) rfl rfl (.some rfl rfl h5) rfl rfl rfl ?_
       refine evs [8] [(35, true)] ?_ ⟨⟨_, rfl, h5⟩, trivial⟩
       refine Walk.call (cr := []) cal94 (impl_matches_fn hd (f := depthT w) 10 (k' := k) pv.shape (hin (m + 1) (by omega)) hok) rfl (.some rfl rfl h5) rfl rfl (LeL.refl _) trivial rfl rfl rfl ?_
       refine evs [8] [(35, true)] ?_ ⟨⟨_, rfl, h5⟩, trivial⟩
       exact jn rfl (LeA.eqb (by first | rfl | (simp_all; done) | (simp [ixOk, h2s, h2p, h3s, h3p, h4s, h4p, h5s, h5p]; done) | (unfold ixOk; rw [Bool.eq_iff_iff]; simp_all; done) | (unfold ixOk; rw [Bool.eq_iff_iff]; simp_all; omega)))
      ·try simp only [Q] at h5p
       exact jn rfl (LeA.eqb (by first | rfl | (simp_all; done) | (simp [ixOk, h2s, h2p, h3s, h3p, h4s, h4p, h5s, h5p]; done) | (unfold ixOk; rw [Bool.eq_iff_iff]; simp_all; done) | (unfold ixOk; rw [Bool.eq_iff_iff]; simp_all; omega)))
    refine WRest.done ?_
    refine tv ?_
    refine sq (fun h6 h6p h6s => ?_) fun h6 h6p h6s => ?_
    ·try simp only [Q] at h6p
     refine Walk.sliceLit sl54 tz3 rfl (by decide) (ks := [0]) (xs := [_]) rfl rfl (by decide) (by decide) .none rfl rfl rfl rfl ?_
     refine Walk.append sl54 zz3 rfl .none rfl rfl rfl rfl (htokL rfl (by first | rfl | (simp; done) | (simp; omega))) (by simp) (by have := idxTo_len (w := w) (a := a) (k := k) (p := p) m; simp; omega) (by have := idxTo_len (w := w) (a := a) (k := k) (p := p) m; simp; omega) ?_
     refine asg ?_
     refine tv ?_
     refine ar ?_
     refine Exists.intro (m + 1) ⟨(by omega), (by omega), Sub.x (by kernel_rfl) (by kernel_rfl) ⟨⟨_, rfl, (LeA.eqi (by first | rfl | (simp; done) | (rw [idxTo_yes (by assumption)]; simp; done) | (rw [idxTo_no (by assumption)]; done) | omega))⟩, ⟨⟨_, rfl, (LeA.glg (by first | rfl | (simp; done) | (rw [idxTo_yes (by assumption)]; simp; done) | (rw [idxTo_no (by assumption)]; done) | omega))⟩, trivial⟩⟩ (by kernel_rfl) (by kernel_rfl) ⟨beq_nat_eq (by first | rfl | (simp; done) | (simp; omega) | (first | rfl | (simp; done) | (rw [idxTo_yes (by assumption)]; simp; done) | (rw [idxTo_no (by assumption)]; done) | omega)), trivial⟩⟩
    ·try simp only [Q] at h6p
     refine ar ?_
     refine Exists.intro (m + 1) ⟨(by omega), (by omega), Sub.x (by kernel_rfl) (by kernel_rfl) ⟨⟨_, rfl, (LeA.eqi (by first | rfl | (simp; done) | (rw [idxTo_yes (by assumption)]; simp; done) | (rw [idxTo_no (by assumption)]; done) | omega))⟩, ⟨⟨_, rfl, (LeA.glg (by first | rfl | (simp; done) | (rw [idxTo_yes (by assumption)]; simp; done) | (rw [idxTo_no (by assumption)]; done) | omega))⟩, trivial⟩⟩ (by kernel_rfl) (by kernel_rfl) ⟨beq_nat_eq (by first | rfl | (simp; done) | (simp; omega) | (first | rfl | (simp; done) | (rw [idxTo_yes (by assumption)]; simp; done) | (rw [idxTo_no (by assumption)]; done) | omega)), trivial⟩⟩
   ·try simp only [Q] at h3p
    refine rn0 (r1 rfl) (.gld ?_)
    all_goals (unfold indicesV; rw [if_pos hv]; have e : m = 3 := (by omega); rw [e])
 ·skip
  refine bd Tryz.f29 49 [] [1] fun w0 F0 own kept hk => ?_
  refine Walk.box (id := 3004) .none rfl rfl rfl rfl rfl rfl rfl ?_
  refine Walk.box (id := 3005) .none rfl rfl rfl rfl rfl rfl rfl ?_
  refine ev ?_
  refine CWp.regionJ ?_
  refine WRest.join 10 [(19, .d (.bool (true)))] [10, 11, 12, 13, 14, 15, 16, 17, 18] ?_ ?_
  ·
   refine ev ?_
   refine Walk.call (cr := []) cal32 (impl_PatternValid_fn hs hok) rfl .none rfl rfl (LeL.refl _) trivial rfl rfl rfl ?_
   refine ev ?_
   refine sq (fun h1 h1p h1s => ?_) fun h1 h1p h1s => ?_
   ·try simp only [Q] at h1p
    exact jn rfl (LeA.eqb (by first | rfl | (simp_all; done) | (rw [Bool.eq_iff_iff]; simp_all; done)))
   ·try simp only [Q] at h1p
    exact jn rfl (LeA.eqb (by first | rfl | (simp_all; done) | (rw [Bool.eq_iff_iff]; simp_all; done)))
  refine WRest.done ?_
  refine tv ?_
  refine sq (fun h2 h2p h2s => ?_) fun h2 h2p h2s => ?_
  ·try simp only [Q] at h2p
   refine rn0 (r1 rfl) (.nild ?_)
   all_goals (unfold indicesV; rw [if_neg hv]; rfl)
  ·try simp only [Q] at h2p
   exact absurd h2 (by simp) --stop
theorem spec_IndicesOf_fn {w : List Data} (hs : WSmall w) {a k : Int} {p : Pat} (hok : p.ok) (hb : p.size ≤ 1000000000000) :
  FnD Tryz.prog 31 [.d (encDatas w), .agg [.d (.i a), .d (.i k)], .agg [.d (.i p.op), .d (.i p.ctor), .d (.i p.n), .d (.i p.m), .d (.i p.var), .d (encPats p.kids)]] [] (.d (encInts (indicesV w a k p))) [] := by
 by_cases hv : patValid w a k p = true ∧ a ≠ -1
 ·have pv := pval hs hv.1
  have hr := pv.rng hv.2
  have hd := pv.dp
  have hin : ∀ m : Nat, m < 4 → InS (w.length * 4) ⟨a, (m : Int)⟩ := fun m hm => by
   have := ins_of (n := w.length) hr.2.1 hm
   rwa [Int.toNat_of_nonneg hr.1] at this
  refine bd Tryz.f31 52 [] [2, 8] fun w0 F0 own kept hk => ?_
  refine Walk.box (id := 3004) .none rfl rfl rfl rfl rfl rfl rfl ?_
  refine Walk.box (id := 3005) .none rfl rfl rfl rfl rfl rfl rfl ?_
  refine ev ?_
  refine Walk.sliceEmptyG 1 sl54 .none rfl rfl ?_
  refine ev ?_
  refine CWp.regionJ ?_
  refine WRest.join 10 [(20, .d (.bool (false)))] [11, 12, 13, 14, 15, 16, 17, 18, 19] ?_ ?_
  ·
   refine ev ?_
   refine Walk.call (cr := []) cal95 (spec_PatternValid_fn hs hok hb) rfl .none rfl rfl (LeL.refl _) trivial rfl rfl rfl ?_
   refine ev ?_
   refine sq (fun h1 h1p h1s => ?_) fun h1 h1p h1s => ?_
   ·try simp only [Q] at h1p
    exact jn rfl (LeA.eqb (by first | rfl | (simp_all; done) | (simp [ixOk, h1s, h1p]; done) | (unfold ixOk; rw [Bool.eq_iff_iff]; simp_all; done) | (unfold ixOk; rw [Bool.eq_iff_iff]; simp_all; omega)))
   ·try simp only [Q] at h1p
    exact jn rfl (LeA.eqb (by first | rfl | (simp_all; done) | (simp [ixOk, h1s, h1p]; done) | (unfold ixOk; rw [Bool.eq_iff_iff]; simp_all; done) | (unfold ixOk; rw [Bool.eq_iff_iff]; simp_all; omega)))
  refine WRest.done ?_
  refine tv ?_
  refine sq (fun h2 h2p h2s => ?_) fun h2 h2p h2s => ?_
  ·try simp only [Q] at h2p
   exact absurd h2 (by simp) --stop
  ·try simp only [Q] at h2p
   refine Walk.call (cr := []) cal96 (spec_l1Table_fn hd) rfl .none rfl rfl (LeL.refl _) trivial rfl rfl rfl ?_
   refine ev ?_
   refine CWp.loopX (ι := Nat) hk (fun m => [(9, .d (.i (((m + 1 : Nat)) : Int))), (7, .gl 1 ((idxTo w a k p m).map fun n => [D.i n]))]) [24, 25, 26, 27, 28, 29, 30, 31, 32, 33, 34, 35, 36, 37, 38, 39, 40, 41, 42, 43, 44, 45, 46, 47, 48, 49, 50] (fun m => [(1, some (.tok (((idxTo w a k p m).map fun n => [D.i n])).length 1))]) (fun m => m ≤ 3) (fun m => 3 - m) 0 (by omega) ⟨⟨_, rfl, (LeA.eqi (by first | rfl | (simp; done) | (rw [idxTo_yes (by assumption)]; simp; done) | (rw [idxTo_no (by assumption)]; done) | omega))⟩, ⟨⟨_, rfl, (LeA.glg (by first | rfl | (simp; done) | (rw [idxTo_yes (by assumption)]; simp; done) | (rw [idxTo_no (by assumption)]; done) | omega))⟩, trivial⟩⟩ ⟨beq_nat_eq (by first | rfl | (simp; done) | (simp; omega) | (first | rfl | (simp; done) | (rw [idxTo_yes (by assumption)]; simp; done) | (rw [idxTo_no (by assumption)]; done) | omega)), trivial⟩ (fun x => rfl) (fun m hg1 => ?_)
   refine evc [] [2, 8] ?_
   refine sq (fun h3 h3p h3s => ?_) fun h3 h3p h3s => ?_
   ·try simp only [Q] at h3p
    refine CWp.regionJ ?_
    refine WRest.join 19 [(46, .d (.bool (ixOk w a k p (m + 1))))] [28, 29, 30, 31, 32, 33, 34, 35, 36, 37, 38, 39, 40, 41, 42, 43, 44, 45] ?_ ?_
    ·
     refine ev ?_
     refine sq (fun h4 h4p h4s => ?_) fun h4 h4p h4s => ?_
     ·try simp only [Q] at h4p
      refine sqT ?_
      refine Walk.build st42 (ks := [0, 1]) (xs := [_, _]) rfl rfl (.some rfl rfl rfl) rfl rfl rfl ?_
      refine evs [] [(37, true)] ?_ ⟨⟨_, rfl, rfl⟩, trivial⟩
      refine Walk.call (cr := []) cal97 (spec_l15Some_fn hd (f := depthT w) 10 (k' := k) pv.shape (hin (m + 1) (by omega)) hok) rfl (.some rfl rfl rfl) rfl rfl (LeL.refl _) trivial rfl rfl rfl ?_
      refine evs [] [(37, true)] ?_ ⟨⟨_, rfl, rfl⟩, trivial⟩
      exact jn rfl (LeA.eqb (by first | rfl | (simp_all; done) | (simp [ixOk, h2s, h2p, h3s, h3p, h4s, h4p]; done) | (unfold ixOk; rw [Bool.eq_iff_iff]; simp_all; done) | (unfold ixOk; rw [Bool.eq_iff_iff]; simp_all; omega)))
     ·try simp only [Q] at h4p
      refine sq (fun h5 h5p h5s => ?_) fun h5 h5p h5s => ?_
      ·try simp only [Q] at h5p
       refine Walk.build st42 (ks := [0, 1]) (xs := [_, _]) rfl rfl (.some rfl rfl h5) rfl rfl rfl ?_
       refine evs [] [(37, true)] ?_ ⟨⟨_, rfl, h5⟩, trivial⟩
       refine Walk.call (cr := []) cal97 (spec_l15Some_fn hd (f := depthT w) 10 (k' := k) pv.shape (hin (m + 1) (by omega)) hok) rfl (.some rfl rfl h5) rfl rfl (LeL.refl _) trivial rfl rfl rfl ?_
       refine evs [] [(37, true)] ?_ ⟨⟨_, rfl, h5⟩, trivial⟩
       exact jn rfl (LeA.eqb (by first | rfl | (simp_all; done) | (simp [ixOk, h2s, h2p, h3s, h3p, h4s, h4p, h5s, h5p]; done) | (unfold ixOk; rw [Bool.eq_iff_iff]; simp_all; done) | (unfold ixOk; rw [Bool.eq_iff_iff]; simp_all; omega)))
      ·try simp only [Q] at h5p
       exact jn rfl (LeA.eqb (by first | rfl | (simp_all; done) | (simp [ixOk, h2s, h2p, h3s, h3p, h4s, h4p, h5s, h5p]; done) | (unfold ixOk; rw [Bool.eq_iff_iff]; simp_all; done) | (unfold ixOk; rw [Bool.eq_iff_iff]; simp_all; omega)))
    refine WRest.done ?_
    refine tv ?_
    refine sq (fun h6 h6p h6s => ?_) fun h6 h6p h6s => ?_
    ·try simp only [Q] at h6p
     refine Walk.sliceLit sl54 tz3 rfl (by decide) (ks := [0]) (xs := [_]) rfl rfl (by decide) (by decide) .none rfl rfl rfl rfl ?_
     refine Walk.append sl54 zz3 rfl .none rfl rfl rfl rfl (htokL rfl (by first | rfl | (simp; done) | (simp; omega))) (by simp) (by have := idxTo_len (w := w) (a := a) (k := k) (p := p) m; simp; omega) (by have := idxTo_len (w := w) (a := a) (k := k) (p := p) m; simp; omega) ?_
     refine ev ?_
     refine ar ?_
     refine Exists.intro (m + 1) ⟨(by omega), (by omega), Sub.x (by kernel_rfl) (by kernel_rfl) ⟨⟨_, rfl, (LeA.eqi (by first | rfl | (simp; done) | (rw [idxTo_yes (by assumption)]; simp; done) | (rw [idxTo_no (by assumption)]; done) | omega))⟩, ⟨⟨_, rfl, (LeA.glg (by first | rfl | (simp; done) | (rw [idxTo_yes (by assumption)]; simp; done) | (rw [idxTo_no (by assumption)]; done) | omega))⟩, trivial⟩⟩ (by kernel_rfl) (by kernel_rfl) ⟨beq_nat_eq (by first | rfl | (simp; done) | (simp; omega) | (first | rfl | (simp; done) | (rw [idxTo_yes (by assumption)]; simp; done) | (rw [idxTo_no (by assumption)]; done) | omega)), trivial⟩⟩
    ·try simp only [Q] at h6p
     refine ar ?_
     refine Exists.intro (m + 1) ⟨(by omega), (by omega), Sub.x (by kernel_rfl) (by kernel_rfl) ⟨⟨_, rfl, (LeA.eqi (by first | rfl | (simp; done) | (rw [idxTo_yes (by assumption)]; simp; done) | (rw [idxTo_no (by assumption)]; done) | omega))⟩, ⟨⟨_, rfl, (LeA.glg (by first | rfl | (simp; done) | (rw [idxTo_yes (by assumption)]; simp; done) | (rw [idxTo_no (by assumption)]; done) | omega))⟩, trivial⟩⟩ (by kernel_rfl) (by kernel_rfl) ⟨beq_nat_eq (by first | rfl | (simp; done) | (simp; omega) | (first | rfl | (simp; done) | (rw [idxTo_yes (by assumption)]; simp; done) | (rw [idxTo_no (by assumption)]; done) | omega)), trivial⟩⟩
   ·try simp only [Q] at h3p
    refine rn0 (r1 rfl) (.gld ?_)
    all_goals (unfold indicesV; rw [if_pos hv]; have e : m = 3 := (by omega); rw [e])
 ·skip
  refine bd Tryz.f31 52 [] [2] fun w0 F0 own kept hk => ?_
  refine Walk.box (id := 3004) .none rfl rfl rfl rfl rfl rfl rfl ?_
  refine Walk.box (id := 3005) .none rfl rfl rfl rfl rfl rfl rfl ?_
  refine ev ?_
  refine Walk.sliceEmptyG 1 sl54 .none rfl rfl ?_
  refine ev ?_
  refine CWp.regionJ ?_
  refine WRest.join 10 [(20, .d (.bool (true)))] [11, 12, 13, 14, 15, 16, 17, 18, 19] ?_ ?_
  ·
   refine ev ?_
   refine Walk.call (cr := []) cal95 (spec_PatternValid_fn hs hok hb) rfl .none rfl rfl (LeL.refl _) trivial rfl rfl rfl ?_
   refine ev ?_
   refine sq (fun h1 h1p h1s => ?_) fun h1 h1p h1s => ?_
   ·try simp only [Q] at h1p
    exact jn rfl (LeA.eqb (by first | rfl | (simp_all; done) | (rw [Bool.eq_iff_iff]; simp_all; done)))
   ·try simp only [Q] at h1p
    exact jn rfl (LeA.eqb (by first | rfl | (simp_all; done) | (rw [Bool.eq_iff_iff]; simp_all; done)))
  refine WRest.done ?_
  refine tv ?_
  refine sq (fun h2 h2p h2s => ?_) fun h2 h2p h2s => ?_
  ·try simp only [Q] at h2p
   refine rn0 (r1 rfl) (.gld ?_)
   all_goals (unfold indicesV; rw [if_neg hv]; rfl)
  ·try simp only [Q] at h2p
   exact absurd h2 (by simp) --stop
def narrowV (w : List Data) (a k : Int) (p : Pat) : Ty × Bool :=
 if (indicesV w a k p).length = 1 ∧ rootP w 10 ⟨a, k⟩ p = true then (⟨a, nth (indicesV w a k p) 0⟩, true) else (⟨0, 0⟩, false)
theorem narrow_yes {w : List Data} {a k : Int} {p : Pat} (h : (decide ((indicesV w a k p).length = 1) && rootP w 10 ⟨a, k⟩ p) = true) : narrowV w a k p = (⟨a, nth (indicesV w a k p) 0⟩, true) := by
 unfold narrowV; rw [if_pos (by simpa using h)]
theorem narrow_no {w : List Data} {a k : Int} {p : Pat} (h : (decide ((indicesV w a k p).length = 1) && rootP w 10 ⟨a, k⟩ p) = false) : narrowV w a k p = (⟨0, 0⟩, false) := by
 unfold narrowV; rw [if_neg (by intro hh; rw [decide_eq_true hh.1, hh.2] at h; cases h)]
theorem impl_NarrowType_fn {w : List Data} (hs : WSmall w) {a k : Int} {p : Pat} (hok : p.ok) :
  FnD Tryz.prog 38 [.d (encDatas w), .agg [.d (.i a), .d (.i k)], .agg [.d (.i p.op), .d (.i p.ctor), .d (.i p.n), .d (.i p.m), .d (.i p.var), .d (encPats p.kids)]] [] (.tup [.agg [.d (.i (narrowV w a k p).1.data), .d (.i (narrowV w a k p).1.index)], .d (.bool (narrowV w a k p).2)]) [] := by
 have hF : (indicesV w a k p).length = 1 → FnD Tryz.prog 105 [.d (encDatas w), .agg [.d (.i a), .d (.i k)], .agg [.d (.i p.op), .d (.i p.ctor), .d (.i p.n), .d (.i p.m), .d (.i p.var), .d (encPats p.kids)]] [] (.d (.bool (rootP w 10 ⟨a, k⟩ p))) [] := fun h => by
  have pv := pval hs (indices_one h).1
  exact impl_fixes_fn pv.dp.wt 10 pv.shape pv.tin hok
 refine bd Tryz.f38 30 [] [2] fun w0 F0 own kept hk => ?_
 refine Walk.box (id := 3004) .none rfl rfl rfl rfl rfl rfl rfl ?_
 refine Walk.box (id := 3005) .none rfl rfl rfl rfl rfl rfl rfl ?_
 refine Walk.alloc (id := 3006) tz42 rfl .none rfl rfl rfl rfl ?_
 refine ev ?_
 refine Walk.call (cr := []) cal29 (impl_IndicesOf_fn hs hok) rfl .none rfl rfl (LeL.refl _) trivial rfl rfl rfl ?_
 refine ev ?_
 refine CWp.regionJ ?_
 refine WRest.join 10 [(22, .d (.bool (!(decide ((indicesV w a k p).length = 1) && rootP w 10 ⟨a, k⟩ p))))] [13, 14, 15, 16, 17, 18, 19, 20, 21] ?_ ?_
 ·
  refine ev ?_
  refine sq (fun h1 h1p h1s => ?_) fun h1 h1p h1s => ?_
  ·try simp only [Q] at h1p
   exact jn rfl (LeA.eqb (by first | rfl | (rw [Bool.eq_iff_iff]; simp_all; done) | (rw [Bool.eq_iff_iff]; simp_all; omega)))
  ·try simp only [Q] at h1p
   refine Walk.call (cr := []) cal105 (hF (by omega)) rfl (.some rfl rfl h1) rfl rfl (LeL.refl _) trivial rfl rfl rfl ?_
   refine evs [] [(16, false)] ?_ ⟨⟨_, rfl, h1⟩, trivial⟩
   exact jn rfl (LeA.eqb (by first | rfl | (rw [Bool.eq_iff_iff]; simp_all; done) | (rw [Bool.eq_iff_iff]; simp_all; omega)))
 refine WRest.done ?_
 refine tv ?_
 refine sq (fun h2 h2p h2s => ?_) fun h2 h2p h2s => ?_
 ·try simp only [Q] at h2p
  refine Walk.build st42 (ks := []) (xs := []) rfl rfl .none rfl rfl rfl ?_
  refine Walk.store ty42 .none rfl rfl rfl rfl rfl rfl (by simp) rfl ?_
  refine ev ?_
  refine rn0 (.cons (.cellA ty42 rfl rfl rfl) (.cons (.tmp rfl) .nil)) (.tup (.cons (.agg (.cons (.eqd ?_) (.cons (.eqd ?_) .nil))) (.cons (.eqd ?_) .nil)))
  all_goals (first | (rw [narrow_yes (by simp_all)]; done) | (rw [narrow_no (by simp_all)]; done))
 ·try simp only [Q] at h2p
  refine Walk.idx (i := 0) sl54 .none rfl rfl rfl rfl (at_nth (by have h : (indicesV w a k p).length = 1 := (by simp_all); omega)) rfl ?_
  refine evd [] [] ?_
  refine Walk.build st42 (ks := [0, 1]) (xs := [_, _]) rfl rfl .none rfl rfl rfl ?_
  refine Walk.store ty42 .none rfl rfl rfl rfl rfl rfl (by simp) rfl ?_
  refine evd [] [] ?_
  refine dr ?_
  refine rn0 (.cons (.cellA ty42 rfl rfl rfl) (.cons (.tmp rfl) .nil)) (.tup (.cons (.agg (.cons (.eqd ?_) (.cons (.eqd ?_) .nil))) (.cons (.eqd ?_) .nil)))
  all_goals (first | (rw [narrow_yes (by simp_all)]; done) | (rw [narrow_no (by simp_all)]; done))
theorem spec_NarrowType_fn {w : List Data} (hs : WSmall w) {a k : Int} {p : Pat} (hok : p.ok) (hb : p.size ≤ 1000000000000) :
  FnD Tryz.prog 39 [.d (encDatas w), .agg [.d (.i a), .d (.i k)], .agg [.d (.i p.op), .d (.i p.ctor), .d (.i p.n), .d (.i p.m), .d (.i p.var), .d (encPats p.kids)]] [] (.tup [.agg [.d (.i (narrowV w a k p).1.data), .d (.i (narrowV w a k p).1.index)], .d (.bool (narrowV w a k p).2)]) [] := by
 have hF : (indicesV w a k p).length = 1 → FnD Tryz.prog 106 [.d (encDatas w), .agg [.d (.i a), .d (.i k)], .agg [.d (.i p.op), .d (.i p.ctor), .d (.i p.n), .d (.i p.m), .d (.i p.var), .d (encPats p.kids)]] [] (.d (.bool (rootP w 10 ⟨a, k⟩ p))) [] := fun h => by
  have pv := pval hs (indices_one h).1
  exact spec_l15Root_fn pv.dp.wt 10 pv.shape pv.tin hok
 refine bd Tryz.f39 30 [] [2] fun w0 F0 own kept hk => ?_
 refine Walk.box (id := 3004) .none rfl rfl rfl rfl rfl rfl rfl ?_
 refine Walk.box (id := 3005) .none rfl rfl rfl rfl rfl rfl rfl ?_
 refine Walk.alloc (id := 3006) tz42 rfl .none rfl rfl rfl rfl ?_
 refine ev ?_
 refine Walk.call (cr := []) cal31 (spec_IndicesOf_fn hs hok hb) rfl .none rfl rfl (LeL.refl _) trivial rfl rfl rfl ?_
 refine ev ?_
 refine CWp.regionJ ?_
 refine WRest.join 10 [(22, .d (.bool (!(decide ((indicesV w a k p).length = 1) && rootP w 10 ⟨a, k⟩ p))))] [13, 14, 15, 16, 17, 18, 19, 20, 21] ?_ ?_
 ·
  refine ev ?_
  refine sq (fun h1 h1p h1s => ?_) fun h1 h1p h1s => ?_
  ·try simp only [Q] at h1p
   exact jn rfl (LeA.eqb (by first | rfl | (rw [Bool.eq_iff_iff]; simp_all; done) | (rw [Bool.eq_iff_iff]; simp_all; omega)))
  ·try simp only [Q] at h1p
   refine Walk.call (cr := []) cal106 (hF (by omega)) rfl (.some rfl rfl h1) rfl rfl (LeL.refl _) trivial rfl rfl rfl ?_
   refine evs [] [(16, false)] ?_ ⟨⟨_, rfl, h1⟩, trivial⟩
   exact jn rfl (LeA.eqb (by first | rfl | (rw [Bool.eq_iff_iff]; simp_all; done) | (rw [Bool.eq_iff_iff]; simp_all; omega)))
 refine WRest.done ?_
 refine tv ?_
 refine sq (fun h2 h2p h2s => ?_) fun h2 h2p h2s => ?_
 ·try simp only [Q] at h2p
  refine Walk.build st42 (ks := []) (xs := []) rfl rfl .none rfl rfl rfl ?_
  refine Walk.store ty42 .none rfl rfl rfl rfl rfl rfl (by simp) rfl ?_
  refine ev ?_
  refine rn0 (.cons (.cellA ty42 rfl rfl rfl) (.cons (.tmp rfl) .nil)) (.tup (.cons (.agg (.cons (.eqd ?_) (.cons (.eqd ?_) .nil))) (.cons (.eqd ?_) .nil)))
  all_goals (first | (rw [narrow_yes (by simp_all)]; done) | (rw [narrow_no (by simp_all)]; done))
 ·try simp only [Q] at h2p
  refine Walk.idx (i := 0) sl54 .none rfl rfl rfl rfl (at_nth (by have h : (indicesV w a k p).length = 1 := (by simp_all); omega)) rfl ?_
  refine evd [] [] ?_
  refine Walk.build st42 (ks := [0, 1]) (xs := [_, _]) rfl rfl .none rfl rfl rfl ?_
  refine Walk.store ty42 .none rfl rfl rfl rfl rfl rfl (by simp) rfl ?_
  refine evd [] [] ?_
  refine dr ?_
  refine rn0 (.cons (.cellA ty42 rfl rfl rfl) (.cons (.tmp rfl) .nil)) (.tup (.cons (.agg (.cons (.eqd ?_) (.cons (.eqd ?_) .nil))) (.cons (.eqd ?_) .nil)))
  all_goals (first | (rw [narrow_yes (by simp_all)]; done) | (rw [narrow_no (by simp_all)]; done))
def namL (f : Pat → Int → Nat → Pat × Int × Nat) : List Pat → Int → Nat → List Pat × Int × Nat
 | [], m, q => ([], m, q)
 | x :: r, m, q => ((f x m q).1 :: (namL f r (f x m q).2.1 (f x m q).2.2).1, (namL f r (f x m q).2.1 (f x m q).2.2).2)
def namP (b : Str) : Nat → Pat → Int → Nat → Pat × Int × Nat
 | 0, p, m, q => (p, m, q)
 | n + 1, p, m, q =>
  if 5 < m ∨ p.op = 5 ∨ p.op = 3 then (p, m, q)
  else if p.op = 1 ∧ pickV b q 2 = 0 then (⟨2, 0, 0, 0, m, []⟩, m + 1, q + 1)
  else if (namL (namP b n) p.kids m (if p.op = 1 then q + 1 else q)).2.1 ≤ 5 then
   (if pickV b (namL (namP b n) p.kids m (if p.op = 1 then q + 1 else q)).2.2 6 = 0 then
    (⟨6, 0, 0, 0, (namL (namP b n) p.kids m (if p.op = 1 then q + 1 else q)).2.1, [⟨p.op, p.ctor, p.n, p.m, p.var, (namL (namP b n) p.kids m (if p.op = 1 then q + 1 else q)).1⟩]⟩,
     (namL (namP b n) p.kids m (if p.op = 1 then q + 1 else q)).2.1 + 1, (namL (namP b n) p.kids m (if p.op = 1 then q + 1 else q)).2.2 + 1)
   else (⟨p.op, p.ctor, p.n, p.m, p.var, (namL (namP b n) p.kids m (if p.op = 1 then q + 1 else q)).1⟩, (namL (namP b n) p.kids m (if p.op = 1 then q + 1 else q)).2.1, (namL (namP b n) p.kids m (if p.op = 1 then q + 1 else q)).2.2 + 1))
  else (⟨p.op, p.ctor, p.n, p.m, p.var, (namL (namP b n) p.kids m (if p.op = 1 then q + 1 else q)).1⟩, (namL (namP b n) p.kids m (if p.op = 1 then q + 1 else q)).2.1, (namL (namP b n) p.kids m (if p.op = 1 then q + 1 else q)).2.2)
section
variable {b : Str} {n : Nat} {p : Pat} {m : Int} {q : Nat} {ks : List Pat} {zm : Int} {zq : Nat}
theorem nam_1 (h : 5 < m ∨ p.op = 5 ∨ p.op = 3) : namP b (n + 1) p m q = (p, m, q) := by simp only [namP]; rw [if_pos h]
theorem nam_2 (h : ¬ (5 < m ∨ p.op = 5 ∨ p.op = 3)) (h2 : p.op = 1 ∧ pickV b q 2 = 0) : namP b (n + 1) p m q = (⟨2, 0, 0, 0, m, []⟩, m + 1, q + 1) := by simp only [namP]; rw [if_neg h, if_pos h2]
theorem nam_3 (h : ¬ (5 < m ∨ p.op = 5 ∨ p.op = 3)) (h2 : ¬ (p.op = 1 ∧ pickV b q 2 = 0)) (hz : (ks, zm, zq) = namL (namP b n) p.kids m (if p.op = 1 then q + 1 else q)) (h3 : zm ≤ 5) (h4 : pickV b zq 6 = 0) :
  namP b (n + 1) p m q = (⟨6, 0, 0, 0, zm, [⟨p.op, p.ctor, p.n, p.m, p.var, ks⟩]⟩, zm + 1, zq + 1) := by
 simp only [namP]; rw [if_neg h, if_neg h2, ← hz]; dsimp only; rw [if_pos h3, if_pos h4]
theorem nam_4 (h : ¬ (5 < m ∨ p.op = 5 ∨ p.op = 3)) (h2 : ¬ (p.op = 1 ∧ pickV b q 2 = 0)) (hz : (ks, zm, zq) = namL (namP b n) p.kids m (if p.op = 1 then q + 1 else q)) (h3 : zm ≤ 5) (h4 : ¬ pickV b zq 6 = 0) :
  namP b (n + 1) p m q = (⟨p.op, p.ctor, p.n, p.m, p.var, ks⟩, zm, zq + 1) := by
 simp only [namP]; rw [if_neg h, if_neg h2, ← hz]; dsimp only; rw [if_pos h3, if_neg h4]
theorem nam_5 (h : ¬ (5 < m ∨ p.op = 5 ∨ p.op = 3)) (h2 : ¬ (p.op = 1 ∧ pickV b q 2 = 0)) (hz : (ks, zm, zq) = namL (namP b n) p.kids m (if p.op = 1 then q + 1 else q)) (h3 : ¬ zm ≤ 5) :
  namP b (n + 1) p m q = (⟨p.op, p.ctor, p.n, p.m, p.var, ks⟩, zm, zq) := by
 simp only [namP]; rw [if_neg h, if_neg h2, ← hz]; dsimp only; rw [if_neg h3]
end
def NamOk (p : Pat) (m : Int) (q : Nat) (r : Pat × Int × Nat) : Prop := m ≤ r.2.1 ∧ r.2.1 ≤ 6 ∧ r.2.2 ≤ q + 2 * p.size ∧ r.1.size ≤ 2 * p.size ∧ (p.ok → r.1.ok)
theorem namL_ok {f : Pat → Int → Nat → Pat × Int × Nat} : ∀ (l : List Pat) (m : Int) (q : Nat), (∀ x ∈ l, ∀ m q, 0 ≤ m → m ≤ 6 → NamOk x m q (f x m q)) → 0 ≤ m → m ≤ 6 →
  m ≤ (namL f l m q).2.1 ∧ (namL f l m q).2.1 ≤ 6 ∧ (namL f l m q).2.2 ≤ q + 2 * Pats.size l ∧ Pats.size (namL f l m q).1 ≤ 2 * Pats.size l ∧ (namL f l m q).1.length = l.length ∧ (Pats.ok l → Pats.ok (namL f l m q).1)
 | [], m, q, _, _, h6 => by simp [namL, Pats.size, h6]
 | x :: r, m, q, h, h0, h6 => by
  obtain ⟨a1, a2, a3, a4, a5⟩ := h x (by simp) m q h0 h6
  obtain ⟨b1, b2, b3, b4, b5, b6⟩ := namL_ok r (f x m q).2.1 (f x m q).2.2 (fun y hy => h y (by simp [hy])) (by omega) a2
  simp only [namL, Pats.size, List.length_cons]
  refine ⟨by omega, by omega, by omega, by omega, by omega, fun ho => ?_⟩
  exact ⟨a5 ho.1, b6 ho.2⟩
theorem namP_ok {b : Str} : ∀ (n : Nat) (p : Pat) (m : Int) (q : Nat), 0 ≤ m → m ≤ 6 → NamOk p m q (namP b n p m q)
 | 0, p, m, q, h0, h6 => ⟨by simp [namP], by simp [namP, h6], by simp [namP], by simp [namP]; omega, fun h => h⟩
 | n + 1, p, m, q, h0, h6 => by
  have hs := Pat.size_eq p
  by_cases h : 5 < m ∨ p.op = 5 ∨ p.op = 3
  ·rw [nam_1 h]; exact ⟨Int.le_refl _, h6, by dsimp only; omega, by dsimp only; omega, fun h => h⟩
  ·by_cases h2 : p.op = 1 ∧ pickV b q 2 = 0
   ·rw [nam_2 h h2]
    refine ⟨by dsimp only; omega, by dsimp only; omega, by dsimp only; omega, ?_, fun _ => ?_⟩
    ·show (Pat.mk 2 0 0 0 m []).size ≤ _; rw [Pat.size_eq]; simp only [Pat.kids, Pats.size]; omega
    ·show (Pat.mk 2 0 0 0 m []).ok; rw [Pat.ok_iff]; exact ⟨by simp [Pat.kids], trivial⟩
   ·generalize hz : namL (namP b n) p.kids m (if p.op = 1 then q + 1 else q) = z
    obtain ⟨ks, zm, zq⟩ := z
    have hq : (if p.op = 1 then q + 1 else q) ≤ q + 1 := by split <;> omega
    obtain ⟨b1, b2, b3, b4, b5, b6⟩ := namL_ok (f := namP b n) p.kids m (if p.op = 1 then q + 1 else q) (fun x _ m q h0 h6 => namP_ok n x m q h0 h6) h0 h6
    rw [hz] at b1 b2 b3 b4 b5 b6
    dsimp only at b1 b2 b3 b4 b5 b6
    have so : (Pat.mk p.op p.ctor p.n p.m p.var ks).size = 1 + Pats.size ks := by rw [Pat.size_eq]; rfl
    have ko : p.ok → (Pat.mk p.op p.ctor p.n p.m p.var ks).ok := fun h => by
     rw [Pat.ok_iff] at h ⊢
     exact ⟨by show ks.length ≤ _; rw [b5]; exact h.1, b6 h.2⟩
    by_cases h3 : zm ≤ 5
    ·by_cases h4 : pickV b zq 6 = 0
     ·rw [nam_3 h h2 hz.symm h3 h4]
      refine ⟨by dsimp only; omega, by dsimp only; omega, by dsimp only; omega, ?_, fun hk => ?_⟩
      ·dsimp only; rw [Pat.size_eq]; simp only [Pat.kids, Pats.size]; rw [so]; omega
      ·dsimp only; rw [Pat.ok_iff]; exact ⟨by simp [Pat.kids], ko hk, trivial⟩
     ·rw [nam_4 h h2 hz.symm h3 h4]
      exact ⟨b1, b2, by dsimp only; omega, by dsimp only; rw [so]; omega, ko⟩
    ·rw [nam_5 h h2 hz.symm h3]
     exact ⟨b1, b2, by dsimp only; omega, by dsimp only; rw [so]; omega, ko⟩
theorem namL_end {f : Pat → Int → Nat → Pat × Int × Nat} {ks : List Pat} {zm : Int} {zq : Nat} {z : List Pat × Int × Nat} (h : (ks ++ (namL f [] zm zq).1, (namL f [] zm zq).2) = z) : (ks, zm, zq) = z := by
 rw [← h]; simp [namL]
theorem Pats.size_snoc {l : List Pat} {y : Pat} : Pats.size (l ++ [y]) = Pats.size l + y.size := by
 have := Pats.size_split (pre := l) (rest := []) (y := y) rfl
 simpa [Pats.size] using this
theorem spec_l3Name_fn {b : Str} (hb : b.length ≤ 2000) : ∀ (n : Nat) {p : Pat} {m : Int} {q : Nat}, p.size ≤ n → p.ok → 0 ≤ m → m ≤ 6 → q + 2 * p.size ≤ 1000000 →
  FnD Tryz.prog 234 [.ref 900 0, .agg [.d (.i p.op), .d (.i p.ctor), .d (.i p.n), .d (.i p.m), .d (.i p.var), .d (encPats p.kids)], .d (.i m)] [(900, some (rdB b q))] (.tup [.agg [.d (.i (namP b n p m q).1.op), .d (.i (namP b n p m q).1.ctor), .d (.i (namP b n p m q).1.n), .d (.i (namP b n p m q).1.m), .d (.i (namP b n p m q).1.var), .d (encPats (namP b n p m q).1.kids)], .d (.i (namP b n p m q).2.1)]) [(900, some (rdB b (namP b n p m q).2.2))]
 | 0, p, m, q, h, _, _, _, _ => by rw [Pat.size_eq] at h; omega
 | n + 1, p, m, q, kn, hok, k0, k6, hq => by
  have hs := Pat.size_eq p
  have hok' := hok
  rw [Pat.ok_iff] at hok'
  have ih := fun (x : Pat) (m : Int) (q : Nat) (h0 : 0 ≤ m) (h6 : m ≤ 6) => namP_ok (b := b) n x m q h0 h6
  have hysz : ∀ {pre rest : List Pat} {y : Pat}, pre ++ y :: rest = p.kids → y.size + Pats.size pre + Pats.size rest = Pats.size p.kids := fun h => by have := Pats.size_split h; omega
  have hq1 : (if p.op = 1 then q + 1 else q) ≤ q + 1 := by split <;> omega
  generalize hqq : (if p.op = 1 then q + 1 else q) = q1 at hq1
  have hqa : p.op = 1 → q1 = q + 1 := fun h => by rw [← hqq, if_pos h]
  have hqb : ¬ p.op = 1 → q1 = q := fun h => by rw [← hqq, if_neg h]
  refine bd Tryz.f234 82 [] [] fun w0 F0 own kept hk => ?_
  refine Walk.box (id := 3004) .none rfl rfl rfl rfl rfl rfl rfl ?_
  refine Walk.alloc (id := 3006) tz51 rfl .none rfl rfl rfl rfl ?_
  refine ev ?_
  refine sq (fun h1 h1p h1s => ?_) fun h1 h1p h1s => ?_
  ·try simp only [Q, Pat.cs_len] at h1p
   refine sqT ?_
   refine sqT ?_
   refine Walk.store ty51 .none rfl rfl rfl rfl rfl rfl (by simp) rfl ?_
   refine ev ?_
   refine rn [(900, some (rdB b (namP b (n + 1) p m q).2.2))] (.cons (.cellA ty51 rfl rfl rfl) (.cons (.tmp rfl) .nil)) (.tup (.cons (.agg (.cons (.eqd ?_) (.cons (.eqd ?_) (.cons (.eqd ?_) (.cons (.eqd ?_) (.cons (.eqd ?_) (.cons (.eqd ?_) .nil))))))) (.cons (.eqd ?_) .nil))) ⟨rfl, rfl⟩ (SubO.get ⟨.inr (by (rw [nam_1 (by omega)]; all_goals first | rfl | (show _ = D.sl (Pat.cs _); rw [Pat.cs_cc]; all_goals rfl) | (show _ = Pat.cs _; rw [Pat.cs_cc]; all_goals rfl) | (show _ = D.sl [[D.i _, D.i _, D.i _, D.i _, D.i _, D.sl (Pat.cs _)]]; rw [Pat.cs_cc]; all_goals rfl))), ⟨.inl rfl, trivial⟩⟩) (boxOK rfl)
   all_goals ((rw [nam_1 (by omega)]; all_goals first | rfl | (show _ = D.sl (Pat.cs _); rw [Pat.cs_cc]; all_goals rfl) | (show _ = Pat.cs _; rw [Pat.cs_cc]; all_goals rfl) | (show _ = D.sl [[D.i _, D.i _, D.i _, D.i _, D.i _, D.sl (Pat.cs _)]]; rw [Pat.cs_cc]; all_goals rfl)))
  ·try simp only [Q, Pat.cs_len] at h1p
   refine sq (fun h3 h3p h3s => ?_) fun h3 h3p h3s => ?_
   ·try simp only [Q, Pat.cs_len] at h3p
    refine sqT ?_
    refine Walk.store ty51 .none rfl rfl rfl rfl rfl rfl (by simp) rfl ?_
    refine ev ?_
    refine rn [(900, some (rdB b (namP b (n + 1) p m q).2.2))] (.cons (.cellA ty51 rfl rfl rfl) (.cons (.tmp rfl) .nil)) (.tup (.cons (.agg (.cons (.eqd ?_) (.cons (.eqd ?_) (.cons (.eqd ?_) (.cons (.eqd ?_) (.cons (.eqd ?_) (.cons (.eqd ?_) .nil))))))) (.cons (.eqd ?_) .nil))) ⟨rfl, rfl⟩ (SubO.get ⟨.inr (by (rw [nam_1 (by omega)]; all_goals first | rfl | (show _ = D.sl (Pat.cs _); rw [Pat.cs_cc]; all_goals rfl) | (show _ = Pat.cs _; rw [Pat.cs_cc]; all_goals rfl) | (show _ = D.sl [[D.i _, D.i _, D.i _, D.i _, D.i _, D.sl (Pat.cs _)]]; rw [Pat.cs_cc]; all_goals rfl))), ⟨.inl rfl, trivial⟩⟩) (boxOK rfl)
    all_goals ((rw [nam_1 (by omega)]; all_goals first | rfl | (show _ = D.sl (Pat.cs _); rw [Pat.cs_cc]; all_goals rfl) | (show _ = Pat.cs _; rw [Pat.cs_cc]; all_goals rfl) | (show _ = D.sl [[D.i _, D.i _, D.i _, D.i _, D.i _, D.sl (Pat.cs _)]]; rw [Pat.cs_cc]; all_goals rfl)))
   ·try simp only [Q, Pat.cs_len] at h3p
    refine sq (fun h5 h5p h5s => ?_) fun h5 h5p h5s => ?_
    ·try simp only [Q, Pat.cs_len] at h5p
     refine Walk.store ty51 .none rfl rfl rfl rfl rfl rfl (by simp) rfl ?_
     refine ev ?_
     refine rn [(900, some (rdB b (namP b (n + 1) p m q).2.2))] (.cons (.cellA ty51 rfl rfl rfl) (.cons (.tmp rfl) .nil)) (.tup (.cons (.agg (.cons (.eqd ?_) (.cons (.eqd ?_) (.cons (.eqd ?_) (.cons (.eqd ?_) (.cons (.eqd ?_) (.cons (.eqd ?_) .nil))))))) (.cons (.eqd ?_) .nil))) ⟨rfl, rfl⟩ (SubO.get ⟨.inr (by (rw [nam_1 (by omega)]; all_goals first | rfl | (show _ = D.sl (Pat.cs _); rw [Pat.cs_cc]; all_goals rfl) | (show _ = Pat.cs _; rw [Pat.cs_cc]; all_goals rfl) | (show _ = D.sl [[D.i _, D.i _, D.i _, D.i _, D.i _, D.sl (Pat.cs _)]]; rw [Pat.cs_cc]; all_goals rfl))), ⟨.inl rfl, trivial⟩⟩) (boxOK rfl)
     all_goals ((rw [nam_1 (by omega)]; all_goals first | rfl | (show _ = D.sl (Pat.cs _); rw [Pat.cs_cc]; all_goals rfl) | (show _ = Pat.cs _; rw [Pat.cs_cc]; all_goals rfl) | (show _ = D.sl [[D.i _, D.i _, D.i _, D.i _, D.i _, D.sl (Pat.cs _)]]; rw [Pat.cs_cc]; all_goals rfl)))
    ·try simp only [Q, Pat.cs_len] at h5p
     refine sq (fun h6 h6p h6s => ?_) fun h6 h6p h6s => ?_
     ·try simp only [Q, Pat.cs_len] at h6p
      refine Walk.call (cr := []) cal163 (spec_pick_fn (p := q) (n := 2) hb (by omega) (by omega)) rfl (.some rfl rfl h6) rfl rfl (LeL.refl _) ⟨rfl, trivial⟩ rfl rfl rfl ?_
      refine evs [] [(30, true)] ?_ ⟨⟨_, rfl, h6⟩, trivial⟩
      refine sq (fun h7 h7p h7s => ?_) fun h7 h7p h7s => ?_
      ·try simp only [Q, Pat.cs_len] at h7p
       refine Walk.build st51 (ks := [0, 4]) (xs := [_, _]) rfl rfl .none rfl rfl rfl ?_
       refine ev ?_
       refine ar ?_
       refine Walk.store ty51 .none rfl rfl rfl rfl rfl rfl (by simp) rfl ?_
       refine ev ?_
       refine rn [(900, some (rdB b (namP b (n + 1) p m q).2.2))] (.cons (.cellA ty51 rfl rfl rfl) (.cons (.tmp rfl) .nil)) (.tup (.cons (.agg (.cons (.eqd ?_) (.cons (.eqd ?_) (.cons (.eqd ?_) (.cons (.eqd ?_) (.cons (.eqd ?_) (.cons (.nild ?_) .nil))))))) (.cons (.eqd ?_) .nil))) ⟨rfl, rfl⟩ (SubO.get ⟨.inr (by (rw [nam_2 (by omega) ⟨by omega, by omega⟩]; all_goals first | rfl | (show _ = D.sl (Pat.cs _); rw [Pat.cs_cc]; all_goals rfl) | (show _ = Pat.cs _; rw [Pat.cs_cc]; all_goals rfl) | (show _ = D.sl [[D.i _, D.i _, D.i _, D.i _, D.i _, D.sl (Pat.cs _)]]; rw [Pat.cs_cc]; all_goals rfl))), ⟨.inl rfl, trivial⟩⟩) (boxOK rfl)
       all_goals ((rw [nam_2 (by omega) ⟨by omega, by omega⟩]; all_goals first | rfl | (show _ = D.sl (Pat.cs _); rw [Pat.cs_cc]; all_goals rfl) | (show _ = Pat.cs _; rw [Pat.cs_cc]; all_goals rfl) | (show _ = D.sl [[D.i _, D.i _, D.i _, D.i _, D.i _, D.sl (Pat.cs _)]]; rw [Pat.cs_cc]; all_goals rfl)))
      ·try simp only [Q, Pat.cs_len] at h7p
       refine Walk.alloc (id := 3008) tz51 rfl .none rfl rfl rfl rfl ?_
       refine Walk.store ty51 .none rfl rfl rfl rfl rfl rfl (by simp) rfl ?_
       refine tv ?_
       refine Walk.store ty49 .none rfl rfl rfl rfl rfl rfl (by simp) rfl ?_
       refine tv ?_
       refine CWp.tokB 3008 5 1 6 rfl rfl rfl rfl ?_
       refine CWp.loopX (ι := List (Pat) × List (Pat) × (Int) × (Nat) × (List Pat)) hk (fun x => [(10, .d (.i (x.1.length : Int))), (9, .d (.i x.2.2.1))]) [11, 12, 42, 43, 44, 45, 46, 47, 48, 49, 50, 51, 52, 53, 54, 55, 56, 57, 58, 59, 60, 61, 62, 63, 64, 65, 66] (fun x => [(900, some (.box [.d (encBytes b), .d (.i (x.2.2.2.1 : Int))])), (3008, some (.box [.d (.i p.op), .d (.i p.ctor), .d (.i p.n), .d (.i p.m), .d (.i p.var), .gl 1 (x.2.2.2.2.map Pat.cc)])), (1, some (.tok (x.2.2.2.2.map Pat.cc).length 6))]) (fun x => x.1 ++ x.2.1 = p.kids ∧ 0 ≤ x.2.2.1 ∧ x.2.2.1 ≤ 6 ∧ x.2.2.2.1 ≤ q1 + 2 * Pats.size x.1 ∧ x.2.2.2.2.length = x.1.length ∧ (x.2.2.2.2 ++ (namL (namP b n) x.2.1 x.2.2.1 x.2.2.2.1).1, (namL (namP b n) x.2.1 x.2.2.1 x.2.2.2.1).2) = namL (namP b n) p.kids m q1) (fun x => x.2.1.length) ([], p.kids, m, q1, []) ⟨by simp, by simpa using k0, by simpa using k6, by simp [Pats.size], by simp, by simp⟩ ⟨⟨_, rfl, (LeA.eqi (by first | rfl | (simp; done) | omega))⟩, ⟨⟨_, rfl, (LeA.eqi (by first | rfl | (simp; done) | omega))⟩, trivial⟩⟩ ⟨(by (show some (Res.box _) = some (Res.box _); rw [hqa (by omega)]; all_goals rfl)), ⟨(by rfl), ⟨beq_nat_eq (by rfl), trivial⟩⟩⟩ (fun x => rfl) (fun x hg1 => ?_)
       obtain ⟨pre, rest, zm, zq, ks⟩ := x
       dsimp only at hg1 ⊢
       refine evc [] [] ?_
       refine sq (fun h8 h8p h8s => ?_) fun h8 h8p h8s => ?_
       ·try simp only [Q, Pat.cs_len] at h8p
        rcases rest with _ | ⟨y, rest⟩
        ·exfalso; simp_all
        have hni := ih y zm zq hg1.2.1 hg1.2.2.1; have hn1 := hni.1; have hn2 := hni.2.1; have hn3 := hni.2.2.1
        refine Walk.idx sl49 .none rfl rfl rfl rfl (Pat.cs_at' hg1.1) rfl ?_
        refine ev ?_
        refine Walk.call (cr := []) cal234 (spec_l3Name_fn hb n (p := y) (m := zm) (q := zq) (by have := hysz hg1.1; omega) (Pats.ok_mem hok'.2 y (by rw [← hg1.1]; simp)) (by omega) (by omega) (by have := hysz hg1.1; omega)) rfl .none rfl rfl (LeL.refl _) ⟨rfl, trivial⟩ rfl rfl rfl ?_
        refine ev ?_
        refine Walk.alloc (id := 3011) tz51 rfl .none rfl rfl rfl rfl ?_
        refine Walk.store ty51 .none rfl rfl rfl rfl rfl rfl (by simp) rfl ?_
        refine ev ?_
        refine Walk.sliceLit sl49 tz51 rfl (by decide) (ks := [0]) (xs := [_]) rfl rfl (by decide) (by decide) .none rfl rfl rfl rfl ?_
        refine Walk.append sl49 zz51 rfl .none rfl rfl rfl rfl (htokL rfl (by first | rfl | (simp; done) | (simp; omega))) (by simp) (by have hz := congrArg List.length hg1.1; simp at hz ⊢; omega) (by have hz := congrArg List.length hg1.1; simp at hz ⊢; omega) ?_
        refine ev ?_
        refine Walk.store ty49 .none rfl rfl rfl rfl rfl rfl (by simp) rfl ?_
        refine tv ?_
        refine ar ?_
        refine Exists.intro ((pre ++ [y], rest, (namP b n y zm zq).2.1, (namP b n y zm zq).2.2, ks ++ [(namP b n y zm zq).1])) ⟨⟨(by have hz := hg1.1; rw [← hz]; simp), ⟨by dsimp only; omega, by dsimp only; omega, (by rw [Pats.size_snoc]; dsimp only; omega), (by simp [hg1.2.2.2.2.1]), (by rw [← hg1.2.2.2.2.2]; simp [namL])⟩⟩, (by simp), Sub.x (by kernel_rfl) (by kernel_rfl) ⟨⟨_, rfl, (LeA.eqi (by first | rfl | (simp; done) | omega))⟩, ⟨⟨_, rfl, (LeA.eqi (by first | rfl | (simp; done) | omega))⟩, trivial⟩⟩ (by kernel_rfl) (by kernel_rfl) ⟨(by rfl), ⟨(by (simp [getH]; done)), ⟨beq_nat_eq (by (simp; done)), trivial⟩⟩⟩⟩
       ·try simp only [Q, Pat.cs_len] at h8p
        have hrest : rest = [] := by
         rcases rest with _ | ⟨a, b⟩
         ·rfl
         ·exfalso; have hz := congrArg List.length (hg1.1); simp only [List.length_append, List.length_cons, List.length_map] at hz; omega
        subst hrest
        refine sq (fun h9 h9p h9s => ?_) fun h9 h9p h9s => ?_
        ·try simp only [Q, Pat.cs_len] at h9p
         refine Walk.call (cr := []) cal163 (spec_pick_fn (p := zq) (n := 6) hb (by have e := hg1.1; rw [List.append_nil] at e; rw [← e] at hs; omega) (by omega)) rfl (.some rfl rfl h9) rfl rfl (LeL.refl _) ⟨rfl, trivial⟩ rfl rfl rfl ?_
         refine evs [] [(69, true)] ?_ ⟨⟨_, rfl, h9⟩, trivial⟩
         refine sq (fun h10 h10p h10s => ?_) fun h10 h10p h10s => ?_
         ·try simp only [Q, Pat.cs_len] at h10p
          refine Walk.sliceLit sl49 tz51 rfl (by decide) (ks := [0]) (xs := [_]) rfl rfl (by decide) (by decide) .none rfl rfl rfl rfl ?_
          refine Walk.build st51 (ks := [0, 4, 5]) (xs := [_, _, _]) rfl rfl .none rfl rfl rfl ?_
          refine ev ?_
          refine ar ?_
          refine Walk.store ty51 .none rfl rfl rfl rfl rfl rfl (by simp) rfl ?_
          refine ev ?_
          refine rn [(900, some (rdB b (namP b (n + 1) p m q).2.2))] (.cons (.cellA ty51 rfl rfl rfl) (.cons (.tmp rfl) .nil)) (.tup (.cons (.agg (.cons (.eqd ?_) (.cons (.eqd ?_) (.cons (.eqd ?_) (.cons (.eqd ?_) (.cons (.eqd ?_) (.cons (.eqd ?_) .nil))))))) (.cons (.eqd ?_) .nil))) ⟨rfl, rfl⟩ (SubO.get ⟨.inr (by first | (rw [nam_1 (by omega)]; all_goals first | rfl | (show _ = D.sl (Pat.cs _); rw [Pat.cs_cc]; all_goals rfl) | (show _ = Pat.cs _; rw [Pat.cs_cc]; all_goals rfl) | (show _ = D.sl [[D.i _, D.i _, D.i _, D.i _, D.i _, D.sl (Pat.cs _)]]; rw [Pat.cs_cc]; all_goals rfl)) | (rw [nam_2 (by omega) ⟨by omega, by omega⟩]; all_goals first | rfl | (show _ = D.sl (Pat.cs _); rw [Pat.cs_cc]; all_goals rfl) | (show _ = Pat.cs _; rw [Pat.cs_cc]; all_goals rfl) | (show _ = D.sl [[D.i _, D.i _, D.i _, D.i _, D.i _, D.sl (Pat.cs _)]]; rw [Pat.cs_cc]; all_goals rfl)) | (have hz : (ks, zm, zq) = namL (namP b n) p.kids m (if p.op = 1 then q + 1 else q) := (by rw [hqq]; exact namL_end hg1.2.2.2.2.2); rw [nam_3 (by omega) (fun hh => by omega) hz (by omega) (by omega)]; all_goals first | rfl | (show _ = D.sl (Pat.cs _); rw [Pat.cs_cc]; all_goals rfl) | (show _ = Pat.cs _; rw [Pat.cs_cc]; all_goals rfl) | (show _ = D.sl [[D.i _, D.i _, D.i _, D.i _, D.i _, D.sl (Pat.cs _)]]; rw [Pat.cs_cc]; all_goals rfl)) | (have hz : (ks, zm, zq) = namL (namP b n) p.kids m (if p.op = 1 then q + 1 else q) := (by rw [hqq]; exact namL_end hg1.2.2.2.2.2); rw [nam_4 (by omega) (fun hh => by omega) hz (by omega) (by omega)]; all_goals first | rfl | (show _ = D.sl (Pat.cs _); rw [Pat.cs_cc]; all_goals rfl) | (show _ = Pat.cs _; rw [Pat.cs_cc]; all_goals rfl) | (show _ = D.sl [[D.i _, D.i _, D.i _, D.i _, D.i _, D.sl (Pat.cs _)]]; rw [Pat.cs_cc]; all_goals rfl)) | (have hz : (ks, zm, zq) = namL (namP b n) p.kids m (if p.op = 1 then q + 1 else q) := (by rw [hqq]; exact namL_end hg1.2.2.2.2.2); rw [nam_5 (by omega) (fun hh => by omega) hz (by omega)]; all_goals first | rfl | (show _ = D.sl (Pat.cs _); rw [Pat.cs_cc]; all_goals rfl) | (show _ = Pat.cs _; rw [Pat.cs_cc]; all_goals rfl) | (show _ = D.sl [[D.i _, D.i _, D.i _, D.i _, D.i _, D.sl (Pat.cs _)]]; rw [Pat.cs_cc]; all_goals rfl))), ⟨.inl rfl, trivial⟩⟩) (boxOK rfl)
          all_goals (first | (rw [nam_1 (by omega)]; all_goals first | rfl | (show _ = D.sl (Pat.cs _); rw [Pat.cs_cc]; all_goals rfl) | (show _ = Pat.cs _; rw [Pat.cs_cc]; all_goals rfl) | (show _ = D.sl [[D.i _, D.i _, D.i _, D.i _, D.i _, D.sl (Pat.cs _)]]; rw [Pat.cs_cc]; all_goals rfl)) | (rw [nam_2 (by omega) ⟨by omega, by omega⟩]; all_goals first | rfl | (show _ = D.sl (Pat.cs _); rw [Pat.cs_cc]; all_goals rfl) | (show _ = Pat.cs _; rw [Pat.cs_cc]; all_goals rfl) | (show _ = D.sl [[D.i _, D.i _, D.i _, D.i _, D.i _, D.sl (Pat.cs _)]]; rw [Pat.cs_cc]; all_goals rfl)) | (have hz : (ks, zm, zq) = namL (namP b n) p.kids m (if p.op = 1 then q + 1 else q) := (by rw [hqq]; exact namL_end hg1.2.2.2.2.2); rw [nam_3 (by omega) (fun hh => by omega) hz (by omega) (by omega)]; all_goals first | rfl | (show _ = D.sl (Pat.cs _); rw [Pat.cs_cc]; all_goals rfl) | (show _ = Pat.cs _; rw [Pat.cs_cc]; all_goals rfl) | (show _ = D.sl [[D.i _, D.i _, D.i _, D.i _, D.i _, D.sl (Pat.cs _)]]; rw [Pat.cs_cc]; all_goals rfl)) | (have hz : (ks, zm, zq) = namL (namP b n) p.kids m (if p.op = 1 then q + 1 else q) := (by rw [hqq]; exact namL_end hg1.2.2.2.2.2); rw [nam_4 (by omega) (fun hh => by omega) hz (by omega) (by omega)]; all_goals first | rfl | (show _ = D.sl (Pat.cs _); rw [Pat.cs_cc]; all_goals rfl) | (show _ = Pat.cs _; rw [Pat.cs_cc]; all_goals rfl) | (show _ = D.sl [[D.i _, D.i _, D.i _, D.i _, D.i _, D.sl (Pat.cs _)]]; rw [Pat.cs_cc]; all_goals rfl)) | (have hz : (ks, zm, zq) = namL (namP b n) p.kids m (if p.op = 1 then q + 1 else q) := (by rw [hqq]; exact namL_end hg1.2.2.2.2.2); rw [nam_5 (by omega) (fun hh => by omega) hz (by omega)]; all_goals first | rfl | (show _ = D.sl (Pat.cs _); rw [Pat.cs_cc]; all_goals rfl) | (show _ = Pat.cs _; rw [Pat.cs_cc]; all_goals rfl) | (show _ = D.sl [[D.i _, D.i _, D.i _, D.i _, D.i _, D.sl (Pat.cs _)]]; rw [Pat.cs_cc]; all_goals rfl)))
         ·try simp only [Q, Pat.cs_len] at h10p
          refine Walk.store ty51 .none rfl rfl rfl rfl rfl rfl (by simp) rfl ?_
          refine ev ?_
          refine rn [(900, some (rdB b (namP b (n + 1) p m q).2.2))] (.cons (.cellA ty51 rfl rfl rfl) (.cons (.tmp rfl) .nil)) (.tup (.cons (.agg (.cons (.eqd ?_) (.cons (.eqd ?_) (.cons (.eqd ?_) (.cons (.eqd ?_) (.cons (.eqd ?_) (.cons (.gld ?_) .nil))))))) (.cons (.eqd ?_) .nil))) ⟨rfl, rfl⟩ (SubO.get ⟨.inr (by first | (rw [nam_1 (by omega)]; all_goals first | rfl | (show _ = D.sl (Pat.cs _); rw [Pat.cs_cc]; all_goals rfl) | (show _ = Pat.cs _; rw [Pat.cs_cc]; all_goals rfl) | (show _ = D.sl [[D.i _, D.i _, D.i _, D.i _, D.i _, D.sl (Pat.cs _)]]; rw [Pat.cs_cc]; all_goals rfl)) | (rw [nam_2 (by omega) ⟨by omega, by omega⟩]; all_goals first | rfl | (show _ = D.sl (Pat.cs _); rw [Pat.cs_cc]; all_goals rfl) | (show _ = Pat.cs _; rw [Pat.cs_cc]; all_goals rfl) | (show _ = D.sl [[D.i _, D.i _, D.i _, D.i _, D.i _, D.sl (Pat.cs _)]]; rw [Pat.cs_cc]; all_goals rfl)) | (have hz : (ks, zm, zq) = namL (namP b n) p.kids m (if p.op = 1 then q + 1 else q) := (by rw [hqq]; exact namL_end hg1.2.2.2.2.2); rw [nam_3 (by omega) (fun hh => by omega) hz (by omega) (by omega)]; all_goals first | rfl | (show _ = D.sl (Pat.cs _); rw [Pat.cs_cc]; all_goals rfl) | (show _ = Pat.cs _; rw [Pat.cs_cc]; all_goals rfl) | (show _ = D.sl [[D.i _, D.i _, D.i _, D.i _, D.i _, D.sl (Pat.cs _)]]; rw [Pat.cs_cc]; all_goals rfl)) | (have hz : (ks, zm, zq) = namL (namP b n) p.kids m (if p.op = 1 then q + 1 else q) := (by rw [hqq]; exact namL_end hg1.2.2.2.2.2); rw [nam_4 (by omega) (fun hh => by omega) hz (by omega) (by omega)]; all_goals first | rfl | (show _ = D.sl (Pat.cs _); rw [Pat.cs_cc]; all_goals rfl) | (show _ = Pat.cs _; rw [Pat.cs_cc]; all_goals rfl) | (show _ = D.sl [[D.i _, D.i _, D.i _, D.i _, D.i _, D.sl (Pat.cs _)]]; rw [Pat.cs_cc]; all_goals rfl)) | (have hz : (ks, zm, zq) = namL (namP b n) p.kids m (if p.op = 1 then q + 1 else q) := (by rw [hqq]; exact namL_end hg1.2.2.2.2.2); rw [nam_5 (by omega) (fun hh => by omega) hz (by omega)]; all_goals first | rfl | (show _ = D.sl (Pat.cs _); rw [Pat.cs_cc]; all_goals rfl) | (show _ = Pat.cs _; rw [Pat.cs_cc]; all_goals rfl) | (show _ = D.sl [[D.i _, D.i _, D.i _, D.i _, D.i _, D.sl (Pat.cs _)]]; rw [Pat.cs_cc]; all_goals rfl))), ⟨.inl rfl, trivial⟩⟩) (boxOK rfl)
          all_goals (first | (rw [nam_1 (by omega)]; all_goals first | rfl | (show _ = D.sl (Pat.cs _); rw [Pat.cs_cc]; all_goals rfl) | (show _ = Pat.cs _; rw [Pat.cs_cc]; all_goals rfl) | (show _ = D.sl [[D.i _, D.i _, D.i _, D.i _, D.i _, D.sl (Pat.cs _)]]; rw [Pat.cs_cc]; all_goals rfl)) | (rw [nam_2 (by omega) ⟨by omega, by omega⟩]; all_goals first | rfl | (show _ = D.sl (Pat.cs _); rw [Pat.cs_cc]; all_goals rfl) | (show _ = Pat.cs _; rw [Pat.cs_cc]; all_goals rfl) | (show _ = D.sl [[D.i _, D.i _, D.i _, D.i _, D.i _, D.sl (Pat.cs _)]]; rw [Pat.cs_cc]; all_goals rfl)) | (have hz : (ks, zm, zq) = namL (namP b n) p.kids m (if p.op = 1 then q + 1 else q) := (by rw [hqq]; exact namL_end hg1.2.2.2.2.2); rw [nam_3 (by omega) (fun hh => by omega) hz (by omega) (by omega)]; all_goals first | rfl | (show _ = D.sl (Pat.cs _); rw [Pat.cs_cc]; all_goals rfl) | (show _ = Pat.cs _; rw [Pat.cs_cc]; all_goals rfl) | (show _ = D.sl [[D.i _, D.i _, D.i _, D.i _, D.i _, D.sl (Pat.cs _)]]; rw [Pat.cs_cc]; all_goals rfl)) | (have hz : (ks, zm, zq) = namL (namP b n) p.kids m (if p.op = 1 then q + 1 else q) := (by rw [hqq]; exact namL_end hg1.2.2.2.2.2); rw [nam_4 (by omega) (fun hh => by omega) hz (by omega) (by omega)]; all_goals first | rfl | (show _ = D.sl (Pat.cs _); rw [Pat.cs_cc]; all_goals rfl) | (show _ = Pat.cs _; rw [Pat.cs_cc]; all_goals rfl) | (show _ = D.sl [[D.i _, D.i _, D.i _, D.i _, D.i _, D.sl (Pat.cs _)]]; rw [Pat.cs_cc]; all_goals rfl)) | (have hz : (ks, zm, zq) = namL (namP b n) p.kids m (if p.op = 1 then q + 1 else q) := (by rw [hqq]; exact namL_end hg1.2.2.2.2.2); rw [nam_5 (by omega) (fun hh => by omega) hz (by omega)]; all_goals first | rfl | (show _ = D.sl (Pat.cs _); rw [Pat.cs_cc]; all_goals rfl) | (show _ = Pat.cs _; rw [Pat.cs_cc]; all_goals rfl) | (show _ = D.sl [[D.i _, D.i _, D.i _, D.i _, D.i _, D.sl (Pat.cs _)]]; rw [Pat.cs_cc]; all_goals rfl)))
        ·try simp only [Q, Pat.cs_len] at h9p
         refine sqF ?_
         refine Walk.store ty51 .none rfl rfl rfl rfl rfl rfl (by simp) rfl ?_
         refine ev ?_
         refine rn [(900, some (rdB b (namP b (n + 1) p m q).2.2))] (.cons (.cellA ty51 rfl rfl rfl) (.cons (.tmp rfl) .nil)) (.tup (.cons (.agg (.cons (.eqd ?_) (.cons (.eqd ?_) (.cons (.eqd ?_) (.cons (.eqd ?_) (.cons (.eqd ?_) (.cons (.gld ?_) .nil))))))) (.cons (.eqd ?_) .nil))) ⟨rfl, rfl⟩ (SubO.get ⟨.inr (by first | (rw [nam_1 (by omega)]; all_goals first | rfl | (show _ = D.sl (Pat.cs _); rw [Pat.cs_cc]; all_goals rfl) | (show _ = Pat.cs _; rw [Pat.cs_cc]; all_goals rfl) | (show _ = D.sl [[D.i _, D.i _, D.i _, D.i _, D.i _, D.sl (Pat.cs _)]]; rw [Pat.cs_cc]; all_goals rfl)) | (rw [nam_2 (by omega) ⟨by omega, by omega⟩]; all_goals first | rfl | (show _ = D.sl (Pat.cs _); rw [Pat.cs_cc]; all_goals rfl) | (show _ = Pat.cs _; rw [Pat.cs_cc]; all_goals rfl) | (show _ = D.sl [[D.i _, D.i _, D.i _, D.i _, D.i _, D.sl (Pat.cs _)]]; rw [Pat.cs_cc]; all_goals rfl)) | (have hz : (ks, zm, zq) = namL (namP b n) p.kids m (if p.op = 1 then q + 1 else q) := (by rw [hqq]; exact namL_end hg1.2.2.2.2.2); rw [nam_3 (by omega) (fun hh => by omega) hz (by omega) (by omega)]; all_goals first | rfl | (show _ = D.sl (Pat.cs _); rw [Pat.cs_cc]; all_goals rfl) | (show _ = Pat.cs _; rw [Pat.cs_cc]; all_goals rfl) | (show _ = D.sl [[D.i _, D.i _, D.i _, D.i _, D.i _, D.sl (Pat.cs _)]]; rw [Pat.cs_cc]; all_goals rfl)) | (have hz : (ks, zm, zq) = namL (namP b n) p.kids m (if p.op = 1 then q + 1 else q) := (by rw [hqq]; exact namL_end hg1.2.2.2.2.2); rw [nam_4 (by omega) (fun hh => by omega) hz (by omega) (by omega)]; all_goals first | rfl | (show _ = D.sl (Pat.cs _); rw [Pat.cs_cc]; all_goals rfl) | (show _ = Pat.cs _; rw [Pat.cs_cc]; all_goals rfl) | (show _ = D.sl [[D.i _, D.i _, D.i _, D.i _, D.i _, D.sl (Pat.cs _)]]; rw [Pat.cs_cc]; all_goals rfl)) | (have hz : (ks, zm, zq) = namL (namP b n) p.kids m (if p.op = 1 then q + 1 else q) := (by rw [hqq]; exact namL_end hg1.2.2.2.2.2); rw [nam_5 (by omega) (fun hh => by omega) hz (by omega)]; all_goals first | rfl | (show _ = D.sl (Pat.cs _); rw [Pat.cs_cc]; all_goals rfl) | (show _ = Pat.cs _; rw [Pat.cs_cc]; all_goals rfl) | (show _ = D.sl [[D.i _, D.i _, D.i _, D.i _, D.i _, D.sl (Pat.cs _)]]; rw [Pat.cs_cc]; all_goals rfl))), ⟨.inl rfl, trivial⟩⟩) (boxOK rfl)
         all_goals (first | (rw [nam_1 (by omega)]; all_goals first | rfl | (show _ = D.sl (Pat.cs _); rw [Pat.cs_cc]; all_goals rfl) | (show _ = Pat.cs _; rw [Pat.cs_cc]; all_goals rfl) | (show _ = D.sl [[D.i _, D.i _, D.i _, D.i _, D.i _, D.sl (Pat.cs _)]]; rw [Pat.cs_cc]; all_goals rfl)) | (rw [nam_2 (by omega) ⟨by omega, by omega⟩]; all_goals first | rfl | (show _ = D.sl (Pat.cs _); rw [Pat.cs_cc]; all_goals rfl) | (show _ = Pat.cs _; rw [Pat.cs_cc]; all_goals rfl) | (show _ = D.sl [[D.i _, D.i _, D.i _, D.i _, D.i _, D.sl (Pat.cs _)]]; rw [Pat.cs_cc]; all_goals rfl)) | (have hz : (ks, zm, zq) = namL (namP b n) p.kids m (if p.op = 1 then q + 1 else q) := (by rw [hqq]; exact namL_end hg1.2.2.2.2.2); rw [nam_3 (by omega) (fun hh => by omega) hz (by omega) (by omega)]; all_goals first | rfl | (show _ = D.sl (Pat.cs _); rw [Pat.cs_cc]; all_goals rfl) | (show _ = Pat.cs _; rw [Pat.cs_cc]; all_goals rfl) | (show _ = D.sl [[D.i _, D.i _, D.i _, D.i _, D.i _, D.sl (Pat.cs _)]]; rw [Pat.cs_cc]; all_goals rfl)) | (have hz : (ks, zm, zq) = namL (namP b n) p.kids m (if p.op = 1 then q + 1 else q) := (by rw [hqq]; exact namL_end hg1.2.2.2.2.2); rw [nam_4 (by omega) (fun hh => by omega) hz (by omega) (by omega)]; all_goals first | rfl | (show _ = D.sl (Pat.cs _); rw [Pat.cs_cc]; all_goals rfl) | (show _ = Pat.cs _; rw [Pat.cs_cc]; all_goals rfl) | (show _ = D.sl [[D.i _, D.i _, D.i _, D.i _, D.i _, D.sl (Pat.cs _)]]; rw [Pat.cs_cc]; all_goals rfl)) | (have hz : (ks, zm, zq) = namL (namP b n) p.kids m (if p.op = 1 then q + 1 else q) := (by rw [hqq]; exact namL_end hg1.2.2.2.2.2); rw [nam_5 (by omega) (fun hh => by omega) hz (by omega)]; all_goals first | rfl | (show _ = D.sl (Pat.cs _); rw [Pat.cs_cc]; all_goals rfl) | (show _ = Pat.cs _; rw [Pat.cs_cc]; all_goals rfl) | (show _ = D.sl [[D.i _, D.i _, D.i _, D.i _, D.i _, D.sl (Pat.cs _)]]; rw [Pat.cs_cc]; all_goals rfl)))
     ·try simp only [Q, Pat.cs_len] at h6p
      refine sqF ?_
      refine Walk.alloc (id := 3008) tz51 rfl .none rfl rfl rfl rfl ?_
      refine Walk.store ty51 .none rfl rfl rfl rfl rfl rfl (by simp) rfl ?_
      refine tv ?_
      refine Walk.store ty49 .none rfl rfl rfl rfl rfl rfl (by simp) rfl ?_
      refine tv ?_
      refine CWp.tokB 3008 5 1 6 rfl rfl rfl rfl ?_
      refine CWp.loopX (ι := List (Pat) × List (Pat) × (Int) × (Nat) × (List Pat)) hk (fun x => [(10, .d (.i (x.1.length : Int))), (9, .d (.i x.2.2.1))]) [11, 12, 42, 43, 44, 45, 46, 47, 48, 49, 50, 51, 52, 53, 54, 55, 56, 57, 58, 59, 60, 61, 62, 63, 64, 65, 66] (fun x => [(900, some (.box [.d (encBytes b), .d (.i (x.2.2.2.1 : Int))])), (3008, some (.box [.d (.i p.op), .d (.i p.ctor), .d (.i p.n), .d (.i p.m), .d (.i p.var), .gl 1 (x.2.2.2.2.map Pat.cc)])), (1, some (.tok (x.2.2.2.2.map Pat.cc).length 6))]) (fun x => x.1 ++ x.2.1 = p.kids ∧ 0 ≤ x.2.2.1 ∧ x.2.2.1 ≤ 6 ∧ x.2.2.2.1 ≤ q1 + 2 * Pats.size x.1 ∧ x.2.2.2.2.length = x.1.length ∧ (x.2.2.2.2 ++ (namL (namP b n) x.2.1 x.2.2.1 x.2.2.2.1).1, (namL (namP b n) x.2.1 x.2.2.1 x.2.2.2.1).2) = namL (namP b n) p.kids m q1) (fun x => x.2.1.length) ([], p.kids, m, q1, []) ⟨by simp, by simpa using k0, by simpa using k6, by simp [Pats.size], by simp, by simp⟩ ⟨⟨_, rfl, (LeA.eqi (by first | rfl | (simp; done) | omega))⟩, ⟨⟨_, rfl, (LeA.eqi (by first | rfl | (simp; done) | omega))⟩, trivial⟩⟩ ⟨(by first | rfl | (simp [getH]; done) | (show some (Res.box _) = some (Res.box _); rw [hqa (by omega)]; all_goals rfl) | (show some (Res.box _) = some (Res.box _); rw [hqb (by omega)]; all_goals rfl)), ⟨(by first | rfl | (simp [getH]; done) | (show some (Res.box _) = some (Res.box _); rw [hqa (by omega)]; all_goals rfl) | (show some (Res.box _) = some (Res.box _); rw [hqb (by omega)]; all_goals rfl)), ⟨beq_nat_eq (by first | rfl | (simp; done) | (simp; omega) | (first | rfl | (simp; done) | omega)), trivial⟩⟩⟩ (fun x => rfl) (fun x hg1 => ?_)
      obtain ⟨pre, rest, zm, zq, ks⟩ := x
      dsimp only at hg1 ⊢
      refine evc [] [] ?_
      refine sq (fun h13 h13p h13s => ?_) fun h13 h13p h13s => ?_
      ·try simp only [Q, Pat.cs_len] at h13p
       rcases rest with _ | ⟨y, rest⟩
       ·exfalso; simp_all
       have hni := ih y zm zq hg1.2.1 hg1.2.2.1; have hn1 := hni.1; have hn2 := hni.2.1; have hn3 := hni.2.2.1
       refine Walk.idx sl49 .none rfl rfl rfl rfl (Pat.cs_at' hg1.1) rfl ?_
       refine ev ?_
       refine Walk.call (cr := []) cal234 (spec_l3Name_fn hb n (p := y) (m := zm) (q := zq) (by have := hysz hg1.1; omega) (Pats.ok_mem hok'.2 y (by rw [← hg1.1]; simp)) (by omega) (by omega) (by have := hysz hg1.1; omega)) rfl .none rfl rfl (LeL.refl _) ⟨rfl, trivial⟩ rfl rfl rfl ?_
       refine ev ?_
       refine Walk.alloc (id := 3011) tz51 rfl .none rfl rfl rfl rfl ?_
       refine Walk.store ty51 .none rfl rfl rfl rfl rfl rfl (by simp) rfl ?_
       refine ev ?_
       refine Walk.sliceLit sl49 tz51 rfl (by decide) (ks := [0]) (xs := [_]) rfl rfl (by decide) (by decide) .none rfl rfl rfl rfl ?_
       refine Walk.append sl49 zz51 rfl .none rfl rfl rfl rfl (htokL rfl (by first | rfl | (simp; done) | (simp; omega))) (by simp) (by have hz := congrArg List.length hg1.1; simp at hz ⊢; omega) (by have hz := congrArg List.length hg1.1; simp at hz ⊢; omega) ?_
       refine ev ?_
       refine Walk.store ty49 .none rfl rfl rfl rfl rfl rfl (by simp) rfl ?_
       refine tv ?_
       refine ar ?_
       refine Exists.intro ((pre ++ [y], rest, (namP b n y zm zq).2.1, (namP b n y zm zq).2.2, ks ++ [(namP b n y zm zq).1])) ⟨⟨(by have hz := hg1.1; rw [← hz]; simp), ⟨by dsimp only; omega, by dsimp only; omega, (by rw [Pats.size_snoc]; dsimp only; omega), (by simp [hg1.2.2.2.2.1]), (by rw [← hg1.2.2.2.2.2]; simp [namL])⟩⟩, (by simp), Sub.x (by kernel_rfl) (by kernel_rfl) ⟨⟨_, rfl, (LeA.eqi (by first | rfl | (simp; done) | omega))⟩, ⟨⟨_, rfl, (LeA.eqi (by first | rfl | (simp; done) | omega))⟩, trivial⟩⟩ (by kernel_rfl) (by kernel_rfl) ⟨(by rfl), ⟨(by (simp [getH]; done)), ⟨beq_nat_eq (by (simp; done)), trivial⟩⟩⟩⟩
      ·try simp only [Q, Pat.cs_len] at h13p
       have hrest : rest = [] := by
        rcases rest with _ | ⟨a, b⟩
        ·rfl
        ·exfalso; have hz := congrArg List.length (hg1.1); simp only [List.length_append, List.length_cons, List.length_map] at hz; omega
       subst hrest
       refine sq (fun h14 h14p h14s => ?_) fun h14 h14p h14s => ?_
       ·try simp only [Q, Pat.cs_len] at h14p
        refine Walk.call (cr := []) cal163 (spec_pick_fn (p := zq) (n := 6) hb (by have e := hg1.1; rw [List.append_nil] at e; rw [← e] at hs; omega) (by omega)) rfl (.some rfl rfl h14) rfl rfl (LeL.refl _) ⟨rfl, trivial⟩ rfl rfl rfl ?_
        refine evs [] [(69, true)] ?_ ⟨⟨_, rfl, h14⟩, trivial⟩
        refine sq (fun h15 h15p h15s => ?_) fun h15 h15p h15s => ?_
        ·try simp only [Q, Pat.cs_len] at h15p
         refine Walk.sliceLit sl49 tz51 rfl (by decide) (ks := [0]) (xs := [_]) rfl rfl (by decide) (by decide) .none rfl rfl rfl rfl ?_
         refine Walk.build st51 (ks := [0, 4, 5]) (xs := [_, _, _]) rfl rfl .none rfl rfl rfl ?_
         refine ev ?_
         refine ar ?_
         refine Walk.store ty51 .none rfl rfl rfl rfl rfl rfl (by simp) rfl ?_
         refine ev ?_
         refine rn [(900, some (rdB b (namP b (n + 1) p m q).2.2))] (.cons (.cellA ty51 rfl rfl rfl) (.cons (.tmp rfl) .nil)) (.tup (.cons (.agg (.cons (.eqd ?_) (.cons (.eqd ?_) (.cons (.eqd ?_) (.cons (.eqd ?_) (.cons (.eqd ?_) (.cons (.eqd ?_) .nil))))))) (.cons (.eqd ?_) .nil))) ⟨rfl, rfl⟩ (SubO.get ⟨.inr (by first | (rw [nam_1 (by omega)]; all_goals first | rfl | (show _ = D.sl (Pat.cs _); rw [Pat.cs_cc]; all_goals rfl) | (show _ = Pat.cs _; rw [Pat.cs_cc]; all_goals rfl) | (show _ = D.sl [[D.i _, D.i _, D.i _, D.i _, D.i _, D.sl (Pat.cs _)]]; rw [Pat.cs_cc]; all_goals rfl)) | (rw [nam_2 (by omega) ⟨by omega, by omega⟩]; all_goals first | rfl | (show _ = D.sl (Pat.cs _); rw [Pat.cs_cc]; all_goals rfl) | (show _ = Pat.cs _; rw [Pat.cs_cc]; all_goals rfl) | (show _ = D.sl [[D.i _, D.i _, D.i _, D.i _, D.i _, D.sl (Pat.cs _)]]; rw [Pat.cs_cc]; all_goals rfl)) | (have hz : (ks, zm, zq) = namL (namP b n) p.kids m (if p.op = 1 then q + 1 else q) := (by rw [hqq]; exact namL_end hg1.2.2.2.2.2); rw [nam_3 (by omega) (fun hh => by omega) hz (by omega) (by omega)]; all_goals first | rfl | (show _ = D.sl (Pat.cs _); rw [Pat.cs_cc]; all_goals rfl) | (show _ = Pat.cs _; rw [Pat.cs_cc]; all_goals rfl) | (show _ = D.sl [[D.i _, D.i _, D.i _, D.i _, D.i _, D.sl (Pat.cs _)]]; rw [Pat.cs_cc]; all_goals rfl)) | (have hz : (ks, zm, zq) = namL (namP b n) p.kids m (if p.op = 1 then q + 1 else q) := (by rw [hqq]; exact namL_end hg1.2.2.2.2.2); rw [nam_4 (by omega) (fun hh => by omega) hz (by omega) (by omega)]; all_goals first | rfl | (show _ = D.sl (Pat.cs _); rw [Pat.cs_cc]; all_goals rfl) | (show _ = Pat.cs _; rw [Pat.cs_cc]; all_goals rfl) | (show _ = D.sl [[D.i _, D.i _, D.i _, D.i _, D.i _, D.sl (Pat.cs _)]]; rw [Pat.cs_cc]; all_goals rfl)) | (have hz : (ks, zm, zq) = namL (namP b n) p.kids m (if p.op = 1 then q + 1 else q) := (by rw [hqq]; exact namL_end hg1.2.2.2.2.2); rw [nam_5 (by omega) (fun hh => by omega) hz (by omega)]; all_goals first | rfl | (show _ = D.sl (Pat.cs _); rw [Pat.cs_cc]; all_goals rfl) | (show _ = Pat.cs _; rw [Pat.cs_cc]; all_goals rfl) | (show _ = D.sl [[D.i _, D.i _, D.i _, D.i _, D.i _, D.sl (Pat.cs _)]]; rw [Pat.cs_cc]; all_goals rfl))), ⟨.inl rfl, trivial⟩⟩) (boxOK rfl)
         all_goals (first | (rw [nam_1 (by omega)]; all_goals first | rfl | (show _ = D.sl (Pat.cs _); rw [Pat.cs_cc]; all_goals rfl) | (show _ = Pat.cs _; rw [Pat.cs_cc]; all_goals rfl) | (show _ = D.sl [[D.i _, D.i _, D.i _, D.i _, D.i _, D.sl (Pat.cs _)]]; rw [Pat.cs_cc]; all_goals rfl)) | (rw [nam_2 (by omega) ⟨by omega, by omega⟩]; all_goals first | rfl | (show _ = D.sl (Pat.cs _); rw [Pat.cs_cc]; all_goals rfl) | (show _ = Pat.cs _; rw [Pat.cs_cc]; all_goals rfl) | (show _ = D.sl [[D.i _, D.i _, D.i _, D.i _, D.i _, D.sl (Pat.cs _)]]; rw [Pat.cs_cc]; all_goals rfl)) | (have hz : (ks, zm, zq) = namL (namP b n) p.kids m (if p.op = 1 then q + 1 else q) := (by rw [hqq]; exact namL_end hg1.2.2.2.2.2); rw [nam_3 (by omega) (fun hh => by omega) hz (by omega) (by omega)]; all_goals first | rfl | (show _ = D.sl (Pat.cs _); rw [Pat.cs_cc]; all_goals rfl) | (show _ = Pat.cs _; rw [Pat.cs_cc]; all_goals rfl) | (show _ = D.sl [[D.i _, D.i _, D.i _, D.i _, D.i _, D.sl (Pat.cs _)]]; rw [Pat.cs_cc]; all_goals rfl)) | (have hz : (ks, zm, zq) = namL (namP b n) p.kids m (if p.op = 1 then q + 1 else q) := (by rw [hqq]; exact namL_end hg1.2.2.2.2.2); rw [nam_4 (by omega) (fun hh => by omega) hz (by omega) (by omega)]; all_goals first | rfl | (show _ = D.sl (Pat.cs _); rw [Pat.cs_cc]; all_goals rfl) | (show _ = Pat.cs _; rw [Pat.cs_cc]; all_goals rfl) | (show _ = D.sl [[D.i _, D.i _, D.i _, D.i _, D.i _, D.sl (Pat.cs _)]]; rw [Pat.cs_cc]; all_goals rfl)) | (have hz : (ks, zm, zq) = namL (namP b n) p.kids m (if p.op = 1 then q + 1 else q) := (by rw [hqq]; exact namL_end hg1.2.2.2.2.2); rw [nam_5 (by omega) (fun hh => by omega) hz (by omega)]; all_goals first | rfl | (show _ = D.sl (Pat.cs _); rw [Pat.cs_cc]; all_goals rfl) | (show _ = Pat.cs _; rw [Pat.cs_cc]; all_goals rfl) | (show _ = D.sl [[D.i _, D.i _, D.i _, D.i _, D.i _, D.sl (Pat.cs _)]]; rw [Pat.cs_cc]; all_goals rfl)))
        ·try simp only [Q, Pat.cs_len] at h15p
         refine Walk.store ty51 .none rfl rfl rfl rfl rfl rfl (by simp) rfl ?_
         refine ev ?_
         refine rn [(900, some (rdB b (namP b (n + 1) p m q).2.2))] (.cons (.cellA ty51 rfl rfl rfl) (.cons (.tmp rfl) .nil)) (.tup (.cons (.agg (.cons (.eqd ?_) (.cons (.eqd ?_) (.cons (.eqd ?_) (.cons (.eqd ?_) (.cons (.eqd ?_) (.cons (.gld ?_) .nil))))))) (.cons (.eqd ?_) .nil))) ⟨rfl, rfl⟩ (SubO.get ⟨.inr (by first | (rw [nam_1 (by omega)]; all_goals first | rfl | (show _ = D.sl (Pat.cs _); rw [Pat.cs_cc]; all_goals rfl) | (show _ = Pat.cs _; rw [Pat.cs_cc]; all_goals rfl) | (show _ = D.sl [[D.i _, D.i _, D.i _, D.i _, D.i _, D.sl (Pat.cs _)]]; rw [Pat.cs_cc]; all_goals rfl)) | (rw [nam_2 (by omega) ⟨by omega, by omega⟩]; all_goals first | rfl | (show _ = D.sl (Pat.cs _); rw [Pat.cs_cc]; all_goals rfl) | (show _ = Pat.cs _; rw [Pat.cs_cc]; all_goals rfl) | (show _ = D.sl [[D.i _, D.i _, D.i _, D.i _, D.i _, D.sl (Pat.cs _)]]; rw [Pat.cs_cc]; all_goals rfl)) | (have hz : (ks, zm, zq) = namL (namP b n) p.kids m (if p.op = 1 then q + 1 else q) := (by rw [hqq]; exact namL_end hg1.2.2.2.2.2); rw [nam_3 (by omega) (fun hh => by omega) hz (by omega) (by omega)]; all_goals first | rfl | (show _ = D.sl (Pat.cs _); rw [Pat.cs_cc]; all_goals rfl) | (show _ = Pat.cs _; rw [Pat.cs_cc]; all_goals rfl) | (show _ = D.sl [[D.i _, D.i _, D.i _, D.i _, D.i _, D.sl (Pat.cs _)]]; rw [Pat.cs_cc]; all_goals rfl)) | (have hz : (ks, zm, zq) = namL (namP b n) p.kids m (if p.op = 1 then q + 1 else q) := (by rw [hqq]; exact namL_end hg1.2.2.2.2.2); rw [nam_4 (by omega) (fun hh => by omega) hz (by omega) (by omega)]; all_goals first | rfl | (show _ = D.sl (Pat.cs _); rw [Pat.cs_cc]; all_goals rfl) | (show _ = Pat.cs _; rw [Pat.cs_cc]; all_goals rfl) | (show _ = D.sl [[D.i _, D.i _, D.i _, D.i _, D.i _, D.sl (Pat.cs _)]]; rw [Pat.cs_cc]; all_goals rfl)) | (have hz : (ks, zm, zq) = namL (namP b n) p.kids m (if p.op = 1 then q + 1 else q) := (by rw [hqq]; exact namL_end hg1.2.2.2.2.2); rw [nam_5 (by omega) (fun hh => by omega) hz (by omega)]; all_goals first | rfl | (show _ = D.sl (Pat.cs _); rw [Pat.cs_cc]; all_goals rfl) | (show _ = Pat.cs _; rw [Pat.cs_cc]; all_goals rfl) | (show _ = D.sl [[D.i _, D.i _, D.i _, D.i _, D.i _, D.sl (Pat.cs _)]]; rw [Pat.cs_cc]; all_goals rfl))), ⟨.inl rfl, trivial⟩⟩) (boxOK rfl)
         all_goals (first | (rw [nam_1 (by omega)]; all_goals first | rfl | (show _ = D.sl (Pat.cs _); rw [Pat.cs_cc]; all_goals rfl) | (show _ = Pat.cs _; rw [Pat.cs_cc]; all_goals rfl) | (show _ = D.sl [[D.i _, D.i _, D.i _, D.i _, D.i _, D.sl (Pat.cs _)]]; rw [Pat.cs_cc]; all_goals rfl)) | (rw [nam_2 (by omega) ⟨by omega, by omega⟩]; all_goals first | rfl | (show _ = D.sl (Pat.cs _); rw [Pat.cs_cc]; all_goals rfl) | (show _ = Pat.cs _; rw [Pat.cs_cc]; all_goals rfl) | (show _ = D.sl [[D.i _, D.i _, D.i _, D.i _, D.i _, D.sl (Pat.cs _)]]; rw [Pat.cs_cc]; all_goals rfl)) | (have hz : (ks, zm, zq) = namL (namP b n) p.kids m (if p.op = 1 then q + 1 else q) := (by rw [hqq]; exact namL_end hg1.2.2.2.2.2); rw [nam_3 (by omega) (fun hh => by omega) hz (by omega) (by omega)]; all_goals first | rfl | (show _ = D.sl (Pat.cs _); rw [Pat.cs_cc]; all_goals rfl) | (show _ = Pat.cs _; rw [Pat.cs_cc]; all_goals rfl) | (show _ = D.sl [[D.i _, D.i _, D.i _, D.i _, D.i _, D.sl (Pat.cs _)]]; rw [Pat.cs_cc]; all_goals rfl)) | (have hz : (ks, zm, zq) = namL (namP b n) p.kids m (if p.op = 1 then q + 1 else q) := (by rw [hqq]; exact namL_end hg1.2.2.2.2.2); rw [nam_4 (by omega) (fun hh => by omega) hz (by omega) (by omega)]; all_goals first | rfl | (show _ = D.sl (Pat.cs _); rw [Pat.cs_cc]; all_goals rfl) | (show _ = Pat.cs _; rw [Pat.cs_cc]; all_goals rfl) | (show _ = D.sl [[D.i _, D.i _, D.i _, D.i _, D.i _, D.sl (Pat.cs _)]]; rw [Pat.cs_cc]; all_goals rfl)) | (have hz : (ks, zm, zq) = namL (namP b n) p.kids m (if p.op = 1 then q + 1 else q) := (by rw [hqq]; exact namL_end hg1.2.2.2.2.2); rw [nam_5 (by omega) (fun hh => by omega) hz (by omega)]; all_goals first | rfl | (show _ = D.sl (Pat.cs _); rw [Pat.cs_cc]; all_goals rfl) | (show _ = Pat.cs _; rw [Pat.cs_cc]; all_goals rfl) | (show _ = D.sl [[D.i _, D.i _, D.i _, D.i _, D.i _, D.sl (Pat.cs _)]]; rw [Pat.cs_cc]; all_goals rfl)))
       ·try simp only [Q, Pat.cs_len] at h14p
        refine sqF ?_
        refine Walk.store ty51 .none rfl rfl rfl rfl rfl rfl (by simp) rfl ?_
        refine ev ?_
        refine rn [(900, some (rdB b (namP b (n + 1) p m q).2.2))] (.cons (.cellA ty51 rfl rfl rfl) (.cons (.tmp rfl) .nil)) (.tup (.cons (.agg (.cons (.eqd ?_) (.cons (.eqd ?_) (.cons (.eqd ?_) (.cons (.eqd ?_) (.cons (.eqd ?_) (.cons (.gld ?_) .nil))))))) (.cons (.eqd ?_) .nil))) ⟨rfl, rfl⟩ (SubO.get ⟨.inr (by first | (rw [nam_1 (by omega)]; all_goals first | rfl | (show _ = D.sl (Pat.cs _); rw [Pat.cs_cc]; all_goals rfl) | (show _ = Pat.cs _; rw [Pat.cs_cc]; all_goals rfl) | (show _ = D.sl [[D.i _, D.i _, D.i _, D.i _, D.i _, D.sl (Pat.cs _)]]; rw [Pat.cs_cc]; all_goals rfl)) | (rw [nam_2 (by omega) ⟨by omega, by omega⟩]; all_goals first | rfl | (show _ = D.sl (Pat.cs _); rw [Pat.cs_cc]; all_goals rfl) | (show _ = Pat.cs _; rw [Pat.cs_cc]; all_goals rfl) | (show _ = D.sl [[D.i _, D.i _, D.i _, D.i _, D.i _, D.sl (Pat.cs _)]]; rw [Pat.cs_cc]; all_goals rfl)) | (have hz : (ks, zm, zq) = namL (namP b n) p.kids m (if p.op = 1 then q + 1 else q) := (by rw [hqq]; exact namL_end hg1.2.2.2.2.2); rw [nam_3 (by omega) (fun hh => by omega) hz (by omega) (by omega)]; all_goals first | rfl | (show _ = D.sl (Pat.cs _); rw [Pat.cs_cc]; all_goals rfl) | (show _ = Pat.cs _; rw [Pat.cs_cc]; all_goals rfl) | (show _ = D.sl [[D.i _, D.i _, D.i _, D.i _, D.i _, D.sl (Pat.cs _)]]; rw [Pat.cs_cc]; all_goals rfl)) | (have hz : (ks, zm, zq) = namL (namP b n) p.kids m (if p.op = 1 then q + 1 else q) := (by rw [hqq]; exact namL_end hg1.2.2.2.2.2); rw [nam_4 (by omega) (fun hh => by omega) hz (by omega) (by omega)]; all_goals first | rfl | (show _ = D.sl (Pat.cs _); rw [Pat.cs_cc]; all_goals rfl) | (show _ = Pat.cs _; rw [Pat.cs_cc]; all_goals rfl) | (show _ = D.sl [[D.i _, D.i _, D.i _, D.i _, D.i _, D.sl (Pat.cs _)]]; rw [Pat.cs_cc]; all_goals rfl)) | (have hz : (ks, zm, zq) = namL (namP b n) p.kids m (if p.op = 1 then q + 1 else q) := (by rw [hqq]; exact namL_end hg1.2.2.2.2.2); rw [nam_5 (by omega) (fun hh => by omega) hz (by omega)]; all_goals first | rfl | (show _ = D.sl (Pat.cs _); rw [Pat.cs_cc]; all_goals rfl) | (show _ = Pat.cs _; rw [Pat.cs_cc]; all_goals rfl) | (show _ = D.sl [[D.i _, D.i _, D.i _, D.i _, D.i _, D.sl (Pat.cs _)]]; rw [Pat.cs_cc]; all_goals rfl))), ⟨.inl rfl, trivial⟩⟩) (boxOK rfl)
        all_goals (first | (rw [nam_1 (by omega)]; all_goals first | rfl | (show _ = D.sl (Pat.cs _); rw [Pat.cs_cc]; all_goals rfl) | (show _ = Pat.cs _; rw [Pat.cs_cc]; all_goals rfl) | (show _ = D.sl [[D.i _, D.i _, D.i _, D.i _, D.i _, D.sl (Pat.cs _)]]; rw [Pat.cs_cc]; all_goals rfl)) | (rw [nam_2 (by omega) ⟨by omega, by omega⟩]; all_goals first | rfl | (show _ = D.sl (Pat.cs _); rw [Pat.cs_cc]; all_goals rfl) | (show _ = Pat.cs _; rw [Pat.cs_cc]; all_goals rfl) | (show _ = D.sl [[D.i _, D.i _, D.i _, D.i _, D.i _, D.sl (Pat.cs _)]]; rw [Pat.cs_cc]; all_goals rfl)) | (have hz : (ks, zm, zq) = namL (namP b n) p.kids m (if p.op = 1 then q + 1 else q) := (by rw [hqq]; exact namL_end hg1.2.2.2.2.2); rw [nam_3 (by omega) (fun hh => by omega) hz (by omega) (by omega)]; all_goals first | rfl | (show _ = D.sl (Pat.cs _); rw [Pat.cs_cc]; all_goals rfl) | (show _ = Pat.cs _; rw [Pat.cs_cc]; all_goals rfl) | (show _ = D.sl [[D.i _, D.i _, D.i _, D.i _, D.i _, D.sl (Pat.cs _)]]; rw [Pat.cs_cc]; all_goals rfl)) | (have hz : (ks, zm, zq) = namL (namP b n) p.kids m (if p.op = 1 then q + 1 else q) := (by rw [hqq]; exact namL_end hg1.2.2.2.2.2); rw [nam_4 (by omega) (fun hh => by omega) hz (by omega) (by omega)]; all_goals first | rfl | (show _ = D.sl (Pat.cs _); rw [Pat.cs_cc]; all_goals rfl) | (show _ = Pat.cs _; rw [Pat.cs_cc]; all_goals rfl) | (show _ = D.sl [[D.i _, D.i _, D.i _, D.i _, D.i _, D.sl (Pat.cs _)]]; rw [Pat.cs_cc]; all_goals rfl)) | (have hz : (ks, zm, zq) = namL (namP b n) p.kids m (if p.op = 1 then q + 1 else q) := (by rw [hqq]; exact namL_end hg1.2.2.2.2.2); rw [nam_5 (by omega) (fun hh => by omega) hz (by omega)]; all_goals first | rfl | (show _ = D.sl (Pat.cs _); rw [Pat.cs_cc]; all_goals rfl) | (show _ = Pat.cs _; rw [Pat.cs_cc]; all_goals rfl) | (show _ = D.sl [[D.i _, D.i _, D.i _, D.i _, D.i _, D.sl (Pat.cs _)]]; rw [Pat.cs_cc]; all_goals rfl)))
def szP : Nat → Nat
 | 0 => 1
 | d + 1 => 1 + 3 * szP d
theorem szP_pos (d : Nat) : 1 ≤ szP d := by cases d <;> simp only [szP] <;> omega
theorem anyP_sz : anyP.size = 1 ∧ anyP.ok := ⟨by rw [Pat.size_eq]; rfl, by rw [Pat.ok_iff]; exact ⟨by simp [anyP, Pat.kids], trivial⟩⟩
theorem dA_sz {f : Ty → Nat → Pat × Nat} {k : Nat} : ∀ (l : List Ty) (q : Nat), (∀ t ∈ l, ∀ q, (f t q).1.size ≤ k ∧ (f t q).1.ok) → Pats.size (dA f l q).1 ≤ l.length * k ∧ Pats.ok (dA f l q).1
 | [], q, _ => by simp [dA, Pats.size, Pats.ok]
 | t :: r, q, h => by
  have h1 := h t (by simp) q
  have h2 := dA_sz r (f t q).2 (fun x hx => h x (by simp [hx]))
  simp only [dA, List.length_cons, Nat.add_mul, Pats.size]
  exact ⟨by omega, h1.2, h2.2⟩
theorem drawP_sz {b : Str} {w : List Data} (hf : Few w) : ∀ (d : Nat) (t : Ty) (p : Nat), TyIn w.length t → (drawP b w d t p).1.size ≤ szP d ∧ (drawP b w d t p).1.ok
 | 0, t, p, _ => by simp only [drawP, szP]; have := anyP_sz; exact ⟨by omega, this.2⟩
 | d + 1, ⟨a, k⟩, p, ht => by
  have ih := fun t p ht => drawP_sz (b := b) hf d t p ht
  have ha := anyP_sz
  have hp := szP_pos d
  simp only [szP]
  by_cases c1 : d = 0
  ·rw [drawP_1 c1]; exact ⟨by dsimp only; omega, ha.2⟩
  by_cases c2 : pickV b p 4 = 0
  ·rw [drawP_2 c1 c2]; exact ⟨by dsimp only; omega, ha.2⟩
  by_cases c3 : pickV b (p + 1) 6 = 0
  ·rw [drawP_3 c1 c2 c3]
   have h1 := ih ⟨a, k⟩ (p + 2) ht
   have h2 := ih ⟨a, k⟩ (drawP b w d ⟨a, k⟩ (p + 2)).2 ht
   refine ⟨?_, ?_⟩
   ·dsimp only; rw [Pat.size_eq]; simp only [Pat.kids, Pats.size]; omega
   ·dsimp only; rw [Pat.ok_iff]; exact ⟨by simp [Pat.kids], h1.2, h2.2, trivial⟩
  by_cases c4 : a = -1
  ·rw [drawP_4 c1 c2 c3 c4]
   refine ⟨?_, ?_⟩
   ·dsimp only; rw [Pat.size_eq]; simp only [Pat.kids, Pats.size]; omega
   ·dsimp only; rw [Pat.ok_iff]; exact ⟨by simp [Pat.kids], trivial⟩
  by_cases c5 : (vctors w ⟨a, k⟩).length = 0
  ·rw [drawP_5 c1 c2 c3 c4 c5]; exact ⟨by dsimp only; omega, ha.2⟩
  ·rw [drawP_6 c1 c2 c3 c4 c5 rfl]
   have hm := nth_pick (b := b) (p := p + 2) c5
   have h3 := hf ⟨a, k⟩ _ hm ht
   have h1 := dA_sz (f := drawP b w d) (k := szP d) _ (p + 3) (fun u hu q => ih u q (h3.2 u hu))
   have h2 := dA_len (f := drawP b w d) (argsOf w ⟨a, k⟩ (nth (vctors w ⟨a, k⟩) (pickV b (p + 2) (vctors w ⟨a, k⟩).length).toNat)) (p + 3)
   have h4 : (argsOf w ⟨a, k⟩ (nth (vctors w ⟨a, k⟩) (pickV b (p + 2) (vctors w ⟨a, k⟩).length).toNat)).length * szP d ≤ 3 * szP d := Nat.mul_le_mul_right _ h3.1
   refine ⟨?_, ?_⟩
   ·dsimp only; rw [Pat.size_eq]; simp only [Pat.kids]; omega
   ·dsimp only; rw [Pat.ok_iff]; exact ⟨by simp only [Pat.kids]; omega, h1.2⟩
theorem numV_mem {b : Str} {p : Nat} {l : List Int} (h : 1 ≤ l.length) : numV b p l ∈ l := by
 have := pickV_bd (b := b) (p := p) (n := (l.length : Int)) (by omega)
 exact nth_mem (by omega)
theorem num4 (b : Str) (p : Nat) : 1 ≤ numV b p [3, 2, 4, 1] ∧ numV b p [3, 2, 4, 1] ≤ 4 := by
 have := numV_mem (b := b) (p := p) (l := [3, 2, 4, 1]) (by simp)
 simp only [List.mem_cons, List.not_mem_nil, or_false] at this
 omega
theorem szP_four {d : Nat} (h : d ≤ 4) : szP d ≤ 121 ∧ bdP d ≤ 200 := by
 have : d = 0 ∨ d = 1 ∨ d = 2 ∨ d = 3 ∨ d = 4 := by omega
 rcases this with rfl | rfl | rfl | rfl | rfl <;> decide
def rawPat (b : Str) (w : List Data) (t : Ty) (p : Nat) : Pat × Int × Nat :=
 namP b (drawP b w (numV b p [3, 2, 4, 1]).toNat t (p + 1)).1.size (drawP b w (numV b p [3, 2, 4, 1]).toNat t (p + 1)).1 0 (drawP b w (numV b p [3, 2, 4, 1]).toNat t (p + 1)).2
def somePat (b : Str) (w : List Data) (t : Ty) (p : Nat) : Pat := if isP w t (rawPat b w t p).1 then (rawPat b w t p).1 else anyP
theorem rawPat_ok {b : Str} {w : List Data} (hf : Few w) {t : Ty} (ht : TyIn w.length t) (p : Nat) : (rawPat b w t p).2.2 ≤ p + 500 ∧ (rawPat b w t p).1.size ≤ 242 ∧ (rawPat b w t p).1.ok := by
 have h4 := num4 b p
 have hs := szP_four (d := (numV b p [3, 2, 4, 1]).toNat) (by omega)
 have h1 := drawP_sz (b := b) hf (numV b p [3, 2, 4, 1]).toNat t (p + 1) ht
 have h2 := drawP_bd (b := b) hf (numV b p [3, 2, 4, 1]).toNat t (p + 1) ht
 have h3 := namP_ok (b := b) (drawP b w (numV b p [3, 2, 4, 1]).toNat t (p + 1)).1.size (drawP b w (numV b p [3, 2, 4, 1]).toNat t (p + 1)).1 0 (drawP b w (numV b p [3, 2, 4, 1]).toNat t (p + 1)).2 (by omega) (by omega)
 obtain ⟨_, _, n3, n4, n5⟩ := h3
 exact ⟨by unfold rawPat; omega, by unfold rawPat; omega, n5 h1.2⟩
theorem somePat_ok {b : Str} {w : List Data} (hf : Few w) {t : Ty} (ht : TyIn w.length t) (p : Nat) : (somePat b w t p).size ≤ 242 ∧ (somePat b w t p).ok := by
 have h := rawPat_ok (b := b) hf ht p
 have ha := anyP_sz
 unfold somePat
 split
 ·exact ⟨h.2.1, h.2.2⟩
 ·exact ⟨by omega, ha.2⟩
theorem spec_l3Some_fn {b : Str} {w : List Data} (hb : b.length ≤ 2000) (hw : WT w) (hf : Few w) {a k : Int} {p : Nat} (hp : p ≤ 100000) (ht : TyIn w.length ⟨a, k⟩) :
  FnD Tryz.prog 162 [.ref 900 0, .d (encDatas w), .agg [.d (.i a), .d (.i k)]] [(900, some (rdB b p))]
   (.agg [.d (.i (somePat b w ⟨a, k⟩ p).op), .d (.i (somePat b w ⟨a, k⟩ p).ctor), .d (.i (somePat b w ⟨a, k⟩ p).n), .d (.i (somePat b w ⟨a, k⟩ p).m), .d (.i (somePat b w ⟨a, k⟩ p).var), .d (encPats (somePat b w ⟨a, k⟩ p).kids)]) [(900, some (rdB b (rawPat b w ⟨a, k⟩ p).2.2))] := by
 have h4 := num4 b p
 have hs := szP_four (d := (numV b p [3, 2, 4, 1]).toNat) (by omega)
 have h1 := drawP_sz (b := b) hf (numV b p [3, 2, 4, 1]).toNat ⟨a, k⟩ (p + 1) ht
 have h2 := drawP_bd (b := b) hf (numV b p [3, 2, 4, 1]).toNat ⟨a, k⟩ (p + 1) ht
 have hr := rawPat_ok (b := b) hf ht p
 have hnum := spec_num_fn (b := b) (p := p) (l := [3, 2, 4, 1]) hb (by omega) (by simp) (by simp)
 have hdr := spec_l3Draw_fn hb hw hf (numV b p [3, 2, 4, 1]).toNat (a := a) (k := k) (m := numV b p [3, 2, 4, 1]) (p := p + 1) (by omega) (by omega) (by omega) (by omega) ht
 have hnm := spec_l3Name_fn hb (drawP b w (numV b p [3, 2, 4, 1]).toNat ⟨a, k⟩ (p + 1)).1.size (m := 0) (q := (drawP b w (numV b p [3, 2, 4, 1]).toNat ⟨a, k⟩ (p + 1)).2) (Nat.le_refl _) h1.2 (by omega) (by omega) (by omega)
 have hsp : somePat b w ⟨a, k⟩ p = if isP w ⟨a, k⟩ (rawPat b w ⟨a, k⟩ p).1 then (rawPat b w ⟨a, k⟩ p).1 else anyP := rfl
 rw [show namP b (drawP b w (numV b p [3, 2, 4, 1]).toNat ⟨a, k⟩ (p + 1)).1.size (drawP b w (numV b p [3, 2, 4, 1]).toNat ⟨a, k⟩ (p + 1)).1 0 (drawP b w (numV b p [3, 2, 4, 1]).toNat ⟨a, k⟩ (p + 1)).2 = rawPat b w ⟨a, k⟩ p from rfl] at hnm
 generalize numV b p [3, 2, 4, 1] = m at *
 refine bd Tryz.f162 28 [] [] fun w0 F0 own kept hk => ?_
 refine Walk.box (id := 3005) .none rfl rfl rfl rfl rfl rfl rfl ?_
 refine Walk.alloc (id := 3006) tz51 rfl .none rfl rfl rfl rfl ?_
 refine tv ?_
 refine Walk.sliceLit sl54 tz3 rfl (by decide) (ks := [0, 1, 2, 3]) (xs := [_, _, _, _]) rfl rfl (by decide) (by decide) .none rfl rfl rfl rfl ?_
 refine Walk.call (cr := []) cal159 (hnum) rfl .none rfl rfl (LeL.refl _) ⟨rfl, trivial⟩ rfl rfl rfl ?_
 refine Walk.call (cr := []) cal235 (hdr) rfl .none rfl rfl (LeL.refl _) ⟨rfl, trivial⟩ rfl rfl rfl ?_
 refine Walk.call (cr := []) cal234 (hnm) rfl .none rfl rfl (LeL.refl _) ⟨rfl, trivial⟩ rfl rfl rfl ?_
 refine evd [] [] ?_
 refine Walk.alloc (id := 3007) tz51 rfl .none rfl rfl rfl rfl ?_
 refine Walk.store ty51 .none rfl rfl rfl rfl rfl rfl (by simp) rfl ?_
 refine evd [] [] ?_
 refine dr ?_
 refine Walk.call (cr := []) cal173 (spec_l3Is_fn hw ht hr.2.2 (by omega)) rfl .none rfl rfl (LeL.refl _) trivial rfl rfl rfl ?_
 refine ev ?_
 refine sq (fun h1 h1p h1s => ?_) fun h1 h1p h1s => ?_
 ·try simp only [Q] at h1p
  refine Walk.build st51 (ks := [0]) (xs := [_]) rfl rfl .none rfl rfl rfl ?_
  refine Walk.store ty51 .none rfl rfl rfl rfl rfl rfl (by simp) rfl ?_
  refine tv ?_
  refine rn [(900, some (rdB b (rawPat b w ⟨a, k⟩ p).2.2))] (.cons (.cellA ty51 rfl rfl rfl) .nil) (.agg (.cons (.eqd ?_) (.cons (.eqd ?_) (.cons (.eqd ?_) (.cons (.eqd ?_) (.cons (.eqd ?_) (.cons (.nild ?_) .nil))))))) ⟨rfl, rfl⟩ (SubO.get ⟨.inr (by rfl), ⟨.inl rfl, trivial⟩⟩) (boxOK rfl)
  all_goals (first | (rw [hsp, if_neg (by rw [h1s]; simp)]; all_goals rfl) | (rw [hsp, if_pos h1s]; all_goals rfl))
 ·try simp only [Q] at h1p
  refine Walk.store ty51 .none rfl rfl rfl rfl rfl rfl (by simp) rfl ?_
  refine tv ?_
  refine rn [(900, some (rdB b (rawPat b w ⟨a, k⟩ p).2.2))] (.cons (.cellA ty51 rfl rfl rfl) .nil) (.agg (.cons (.eqd ?_) (.cons (.eqd ?_) (.cons (.eqd ?_) (.cons (.eqd ?_) (.cons (.eqd ?_) (.cons (.eqd ?_) .nil))))))) ⟨rfl, rfl⟩ (SubO.get ⟨.inr (by rfl), ⟨.inl rfl, trivial⟩⟩) (boxOK rfl)
  all_goals (first | (rw [hsp, if_neg (by rw [h1s]; simp)]; all_goals rfl) | (rw [hsp, if_pos h1s]; all_goals rfl))
def wideP (w : List Data) (t : Ty) (c : Int) : Pat := ⟨4, c, 0, 0, 0, (argsOf w t c).map fun _ => anyP⟩
theorem spec_l5Any_fn : FnD Tryz.prog 111 [] [] (.agg [.d (.i 1), .d (.i 0), .d (.i 0), .d (.i 0), .d (.i 0), .d (.sl [])]) [] := by
 refine bd Tryz.f111 2 [] [] fun w0 F0 own kept hk => ?_
 refine Walk.alloc (id := 3000) tz51 rfl .none rfl rfl rfl rfl ?_
 refine tv ?_
 refine Walk.build st51 (ks := [0]) (xs := [_]) rfl rfl .none rfl rfl rfl ?_
 refine Walk.store ty51 .none rfl rfl rfl rfl rfl rfl (by simp) rfl ?_
 refine tv ?_
 refine rn0 (.cons (.cellA ty51 rfl rfl rfl) .nil) (.agg (.cons (.eqd ?_) (.cons (.eqd ?_) (.cons (.eqd ?_) (.cons (.eqd ?_) (.cons (.eqd ?_) (.cons (.nild ?_) .nil)))))))
 all_goals (first | rfl | (simp []; done) | (simp_all; done) | (simp_all; omega) | omega)
theorem spec_l5Wide_fn {w : List Data} (hw : WT w) (hf : Few w) {a k c : Int} (ht : TyIn w.length ⟨a, k⟩) (hc : c ∈ vctors w ⟨a, k⟩) :
  FnD Tryz.prog 165 [.d (encDatas w), .agg [.d (.i a), .d (.i k)], .d (.i c)] [] (.agg [.d (.i 4), .d (.i c), .d (.i 0), .d (.i 0), .d (.i 0), .d (encPats (wideP w ⟨a, k⟩ c).kids)]) [] := by
 have h3 := (hf ⟨a, k⟩ c hc ht).1
 refine bd Tryz.f165 29 [] [] fun w0 F0 own kept hk => ?_
 refine Walk.box (id := 3004) .none rfl rfl rfl rfl rfl rfl rfl ?_
 refine Walk.alloc (id := 3006) tz51 rfl .none rfl rfl rfl rfl ?_
 refine tv ?_
 refine Walk.build st51 (ks := [0, 1]) (xs := [_, _]) rfl rfl .none rfl rfl rfl ?_
 refine Walk.alloc (id := 3007) tz51 rfl .none rfl rfl rfl rfl ?_
 refine Walk.store ty51 .none rfl rfl rfl rfl rfl rfl (by simp) rfl ?_
 refine tv ?_
 refine Walk.call (cr := []) cal150 (spec_l1Args_v hw ht hc) rfl .none rfl rfl (LeL.refl _) trivial rfl rfl rfl ?_
 refine ev ?_
 refine CWp.tokB 3007 5 1 6 rfl rfl rfl rfl ?_
 refine CWp.loopX (ι := List (Ty) × List (Ty)) hk (fun x => [(9, .d (.i (x.1.length : Int)))]) [16, 17, 18, 19, 20, 21, 22, 23, 24, 25, 26, 27] (fun x => [(3007, some (.box [.d (.i 4), .d (.i c), .d (.i 0), .d (.i 0), .d (.i 0), .gl 1 (x.1.map fun _ => anyP.cc)])), (1, some (.tok (x.1.map fun _ => anyP.cc).length 6))]) (fun x => x.1 ++ x.2 = argsOf w ⟨a, k⟩ c) (fun x => x.2.length) ([], argsOf w ⟨a, k⟩ c) (by simp) ⟨⟨_, rfl, (LeA.eqi (by first | rfl | (simp; done) | (simp_all; done) | omega))⟩, trivial⟩ ⟨(by first | rfl | (simp [getH]; done) | (show some (Res.box _) = some (Res.box _); rw [List.map_append]; rfl)), ⟨beq_nat_eq (by first | rfl | (simp; done) | (simp; omega) | (first | rfl | (simp; done) | (simp_all; done) | omega)), trivial⟩⟩ (fun x => rfl) (fun x hg1 => ?_)
 obtain ⟨pre, rest⟩ := x
 dsimp only at hg1 ⊢
 refine evc [] [] ?_
 refine sq (fun h1 h1p h1s => ?_) fun h1 h1p h1s => ?_
 ·try simp only [Q] at h1p
  rcases rest with _ | ⟨y, rest⟩
  ·exfalso; simp_all
  refine Walk.call (cr := []) cal111 (spec_l5Any_fn) rfl .none rfl rfl (LeL.refl _) trivial rfl rfl rfl ?_
  refine Walk.sliceLit sl49 tz51 rfl (by decide) (ks := [0]) (xs := [_]) rfl rfl (by decide) (by decide) .none rfl rfl rfl rfl ?_
  refine Walk.append sl49 zz51 rfl .none rfl rfl rfl rfl (htokL rfl (by first | rfl | (simp; done) | (simp; omega))) (by simp) (by have hz := congrArg List.length hg1; simp at hz ⊢; omega) (by have hz := congrArg List.length hg1; simp at hz ⊢; omega) ?_
  refine evd [] [] ?_
  refine Walk.store ty49 .none rfl rfl rfl rfl rfl rfl (by simp) rfl ?_
  refine dr ?_
  refine ar ?_
  refine Exists.intro ((pre ++ [y], rest)) ⟨(by have hz := hg1; rw [← hz]; simp), (by simp), Sub.x (by kernel_rfl) (by kernel_rfl) ⟨⟨_, rfl, (LeA.eqi (by first | rfl | (simp; done) | (simp_all; done) | omega))⟩, trivial⟩ (by kernel_rfl) (by kernel_rfl) ⟨(by first | rfl | (simp [getH]; done) | (show some (Res.box _) = some (Res.box _); rw [List.map_append]; rfl)), ⟨beq_nat_eq (by first | rfl | (simp; done) | (simp; omega) | (first | rfl | (simp; done) | (simp_all; done) | omega)), trivial⟩⟩⟩
 ·try simp only [Q] at h1p
  have hrest : rest = [] := by
   rcases rest with _ | ⟨a, b⟩
   ·rfl
   ·exfalso; have hz := congrArg List.length (hg1); simp only [List.length_append, List.length_cons, List.length_map] at hz; omega
  subst hrest
  refine Walk.store ty51 .none rfl rfl rfl rfl rfl rfl (by simp) rfl ?_
  refine tv ?_
  refine rn0 (.cons (.cellA ty51 rfl rfl rfl) .nil) (.agg (.cons (.eqd ?_) (.cons (.eqd ?_) (.cons (.eqd ?_) (.cons (.eqd ?_) (.cons (.eqd ?_) (.cons (.gld ?_) .nil)))))))
  all_goals (first | rfl | (show _ = Pat.cs _; rw [Pat.cs_cc]; rw [List.append_nil] at hg1; rw [hg1]; simp [wideP, Pat.kids, anyP]; done) | (show _ = Pat.cs _; rw [Pat.cs_cc]; rw [List.append_nil] at hg1; rw [hg1]; rfl))
section
variable {c : Ctx} {all : Array Oper} {chk : List Rec → Prop} {os : List Oper} {recs : List Rec} {env : Env} {hp : Hp} {Q : St → Prop}
variable {d ty : Nat} {pos : String} {af : Array Edge} {g : Option (Nat × Bool)} {pg : List (Nat × AV)} {t yt : TypeId} {x y : Operand}
theorem Walk.appendM {id k e yb : Nat} {xs ys : List (List D)} {vy : AV} {ids : List Nat} (hkp : KeptIn c.kept ids) (hid : elemB id ids = false) (hne : xs ++ ys ≠ []) (ht : SlT c.P t e k yb) (hz : ZeroT c.P e k) (hg : GH all env g pg) (hd : Nat.blt d c.n = true)
  (hx : opd env x = some (.gv id xs)) (hy : opd env y = some vy) (hyd : vy.toD = some (.sl ys)) (htok : getH hp id = some (.tok xs.length k)) (hky : ∀ y, y ∈ ys → y.length = k)
  (hb : (xs.length + ys.length) * yb ≤ 140737488355328) (hm : xs.length + ys.length ≤ 9223372036854775807)
  (hn : Walk c all chk os (mkRec (pg ++ (opF x (.gv id xs) ++ opF y vy)) [(id, .tok xs.length k)] [] ⟨some (d, .ms id (xs ++ ys).length), [(id, some (.box ((xs ++ ys).flatten.map .d)))]⟩ :: recs)
   ⟨(d, .ms id (xs ++ ys).length) :: env, (id, some (.box ((xs ++ ys).flatten.map .d))) :: hp⟩ Q) :
  Walk c all chk (⟨some d, .call ⟨.builtin .append, #[x, y], #[t, t]⟩, ty, pos, af, g⟩ :: os) recs ⟨env, hp⟩ Q := by
 refine ⟨pg ++ (opF x (.gv id xs) ++ opF y vy), [(id, .tok xs.length k)], [], _, ?_, facts_append hg.facts (facts_append (opF_holds hx) (opF_holds hy)), hh1 htok, by simp, hn⟩
 intro s a w hrel hp' hh _ K Q' hK
 obtain ⟨G, hr⟩ := hrel
 have e1 := hr.opd (opd_facts hx (fun p hm => hp' p (by simp [hm])))
 have e2 := hr.opd (opd_facts hy (fun p hm => hp' p (by simp [hm])))
 obtain ⟨i, z, z1, z2, z3⟩ := hz.out
 obtain ⟨v', w', G', hrun, hR, hA⟩ := appendV_step hr ht ⟨i, z1, z2, z3⟩ (hh1' hh) e1 (e2.toD hyd) hky hb hm ty
 unfold wpO
 rw [if_pos (hg.gf.wanted hr (fun p hm => hp' p (by simp [hm])))]
 unfold Oper.wp
 have : (execOp a.eval ⟨some d, .call ⟨.builtin .append, #[x, y], #[t, t]⟩, ty, pos, af, g⟩).run c.P w = .ok (.value v') w' := by
  simp only [execOp, resolve, invoke, builtin, Sem.run_bind, Sem.run_pure, Result.andThen_ok, List.map_toArray, List.map_cons, List.map_nil, hrun]
 rw [this, Oper.upon_value]
 have hV : Rel c ⟨(d, .gv id (xs ++ ys)) :: s.env, (id, some (.tok (xs.length + ys.length) k)) :: s.hp⟩ (a.put (some d) v') w' := ⟨G', hR.put hA hd⟩
 rcases Rel.fixV hkp d id k (xs := xs ++ ys) (by simp [getE]) (by rw [getH_cons, if_pos rfl, List.length_append]) hid hV with ⟨h, _⟩ | ⟨_, h⟩
 ·exact absurd h hne
 ·refine hK _ _ (h.congr (fun j => ?_) (fun j => ?_))
  ·show getE ((d, _) :: s.env) j = getE ((d, _) :: (d, _) :: s.env) j
   simp only [getE]
   cases Nat.beq d j <;> rfl
  ·show getH ((id, _) :: s.hp) j = getH ((id, _) :: (id, _) :: s.hp) j
   rw [getH_cons, getH_cons, getH_cons]
   by_cases hj : j = id
   ·rw [if_pos hj, if_pos hj]
   ·rw [if_neg hj, if_neg hj, if_neg hj]
end
def varP0 : Pat := ⟨2, 0, 0, 0, 0, []⟩
def mutP (b : Str) (p : Pat) (q : Nat) : Pat × Nat :=
 if pickV b q 30 = 0 then (⟨numV b (q + 1) [0, 7, 1, 2, 5], p.ctor, p.n, p.m, p.var, p.kids⟩, q + 2)
 else if pickV b q 30 = 1 then (⟨p.op, p.ctor, p.n, p.m, numV b (q + 1) [6, -1, 1], p.kids⟩, q + 2)
 else if pickV b q 30 = 2 then (⟨p.op, numV b (q + 1) [9, -1, 1], p.n, p.m, p.var, p.kids⟩, q + 2)
 else if pickV b q 30 = 3 then (⟨p.op, p.ctor, p.n, p.m, p.var, p.kids ++ [varP0]⟩, q + 1)
 else if pickV b q 30 = 4 then (⟨p.op, p.ctor, p.n, p.m, p.var, p.kids.set 0 varP0⟩, q + 1)
 else if pickV b q 30 = 5 then (⟨p.op, p.ctor, numV b (q + 1) [10, -1, 5], p.m, p.var, p.kids⟩, q + 2)
 else (⟨p.op, p.ctor, p.n, p.m, p.var, p.kids⟩, q + 1)
theorem put0 {l : List (List D)} {x : List D} {r : List (List D)} {v : List AV} (h : l = x :: r) (hx : x.length = v.length) : putC (l.flatten.map .d) 0 v = some (v ++ r.flatten.map .d) := by
 subst h
 rw [List.flatten_cons, List.map_append]
 have key : ∀ (a b : List AV), a.length = b.length → ∀ (c : List AV), putC (a ++ c) 0 b = some (b ++ c) := by
  intro a
  induction a with
  | nil => intro b h c; cases b with
   | nil => cases c <;> rfl
   | cons => simp at h
  | cons y a ih => intro b h c; cases b with
   | nil => simp at h
   | cons z b =>
    have := ih b (by simpa using h) c
    simp only [List.cons_append, putC, this]
 exact key _ _ (by simpa using hx) _
theorem chunk0 {k : Nat} {v : List AV} {vd : List D} {r : List (List D)} (hv : toDL v = some vd) (hk : v.length = k) (hr : ∀ x ∈ r, x.length = k) : chunkD (r.length + 1) k (v ++ r.flatten.map .d) = some (vd :: r) := by
 have h1 : cutC (v ++ r.flatten.map .d) 0 k = some v := cutC_zero hk
 have h2 : (v ++ r.flatten.map AV.d).drop k = r.flatten.map .d := by rw [← hk]; simp
 have h3 := chunkD_flat (f := fun x : List D => x) (k := k) (l := r) hr
 have h4 : (r.flatMap fun x => x.map AV.d) = r.flatten.map .d := by rw [List.map_flatten]; rfl
 rw [h4, List.map_id'] at h3
 simp only [chunkD, h1, hv, h2, h3]
theorem Pat.cs_app (a b : List Pat) : Pat.cs (a ++ b) = Pat.cs a ++ Pat.cs b := by
 rw [Pat.cs_cc, Pat.cs_cc, Pat.cs_cc, List.map_append]
theorem spec_l3Mutate_a {b : Str} (hb : b.length ≤ 2000) {p : Pat} {q : Nat} (hq : q ≤ 1000000) (hok : p.ok) (hc4 : ¬ (pickV b q 30 = 4 ∧ p.kids ≠ [])) :
  FnD Tryz.prog 166 [.ref 900 0, .agg [.d (.i p.op), .d (.i p.ctor), .d (.i p.n), .d (.i p.m), .d (.i p.var), .d (encPats p.kids)]] [(900, some (rdB b q))]
   (.agg [.d (.i (mutP b p q).1.op), .d (.i (mutP b p q).1.ctor), .d (.i (mutP b p q).1.n), .d (.i (mutP b p q).1.m), .d (.i (mutP b p q).1.var), .d (encPats (mutP b p q).1.kids)]) [(900, some (rdB b (mutP b p q).2))] := by
 rw [Pat.ok_iff] at hok
 have hkl := Pat.cs_len p.kids
 refine bd Tryz.f166 57 [] [] fun w0 F0 own kept hk => ?_
 refine Walk.box (id := 3003) .none rfl rfl rfl rfl rfl rfl rfl ?_
 refine Walk.alloc (id := 3004) tz51 rfl .none rfl rfl rfl rfl ?_
 refine tv ?_
 refine Walk.alloc (id := 3005) tz51 rfl .none rfl rfl rfl rfl ?_
 refine Walk.store ty51 .none rfl rfl rfl rfl rfl rfl (by simp) rfl ?_
 refine tv ?_
 refine Walk.sliceEmptyG 1 sl49 .none rfl rfl ?_
 refine ev ?_
 refine Walk.append sl49 zz51 rfl .none rfl rfl rfl rfl (htokL rfl (by first | rfl | (simp; done) | (simp; omega))) (by (intro x hx; exact Pat.cs_rows x hx)) (by simp [Pat.cs_len]; omega) (by simp [Pat.cs_len]; omega) ?_
 refine ev ?_
 refine Walk.store ty49 .none rfl rfl rfl rfl rfl rfl (by simp) rfl ?_
 refine tv ?_
 refine Walk.call (cr := []) cal163 (spec_pick_fn (p := q) (n := 30) hb (by omega) (by omega)) rfl .none rfl rfl (LeL.refl _) ⟨rfl, trivial⟩ rfl rfl rfl ?_
 refine tv ?_
 refine sq (fun h1 h1p h1s => ?_) fun h1 h1p h1s => ?_
 ·try simp only [Q, Pat.cs_len] at h1p
  refine Walk.sliceLit sl54 tz3 rfl (by decide) (ks := [0, 1, 2, 3, 4]) (xs := [_, _, _, _, _]) rfl rfl (by decide) (by decide) .none rfl rfl rfl rfl ?_
  refine Walk.call (cr := []) cal159 (spec_num_fn (p := q + 1) (l := [0, 7, 1, 2, 5]) hb (by omega) (by simp) (by simp)) rfl .none rfl rfl (LeL.refl _) ⟨rfl, trivial⟩ rfl rfl rfl ?_
  refine ev ?_
  refine Walk.store ty3 .none rfl rfl rfl rfl rfl rfl (by simp) rfl ?_
  refine tv ?_
  refine Walk.store ty51 .none rfl rfl rfl rfl rfl rfl (by simp) rfl ?_
  refine tv ?_
  refine rn [(900, some (rdB b (mutP b p q).2))] (.cons (.cellA ty51 rfl rfl rfl) .nil) (.agg (.cons (.eqd ?_) (.cons (.eqd ?_) (.cons (.eqd ?_) (.cons (.eqd ?_) (.cons (.eqd ?_) (.cons (.gld ?_) .nil))))))) ⟨rfl, rfl⟩ (SubO.get ⟨.inr (by unfold mutP; (rw [if_pos (by omega)]; all_goals first | rfl | (show _ = Pat.cs (p.kids ++ [varP0]); rw [Pat.cs_app]; all_goals rfl))), ⟨.inl rfl, trivial⟩⟩) (boxOK rfl)
  all_goals (unfold mutP; (rw [if_pos (by omega)]; all_goals first | rfl | (show _ = Pat.cs (p.kids ++ [varP0]); rw [Pat.cs_app]; all_goals rfl)))
 ·try simp only [Q, Pat.cs_len] at h1p
  refine sq (fun h2 h2p h2s => ?_) fun h2 h2p h2s => ?_
  ·try simp only [Q, Pat.cs_len] at h2p
   refine Walk.sliceLit sl54 tz3 rfl (by decide) (ks := [0, 1, 2]) (xs := [_, _, _]) rfl rfl (by decide) (by decide) .none rfl rfl rfl rfl ?_
   refine Walk.call (cr := []) cal159 (spec_num_fn (p := q + 1) (l := [6, -1, 1]) hb (by omega) (by simp) (by simp)) rfl .none rfl rfl (LeL.refl _) ⟨rfl, trivial⟩ rfl rfl rfl ?_
   refine ev ?_
   refine Walk.store ty3 .none rfl rfl rfl rfl rfl rfl (by simp) rfl ?_
   refine tv ?_
   refine Walk.store ty51 .none rfl rfl rfl rfl rfl rfl (by simp) rfl ?_
   refine tv ?_
   refine rn [(900, some (rdB b (mutP b p q).2))] (.cons (.cellA ty51 rfl rfl rfl) .nil) (.agg (.cons (.eqd ?_) (.cons (.eqd ?_) (.cons (.eqd ?_) (.cons (.eqd ?_) (.cons (.eqd ?_) (.cons (.gld ?_) .nil))))))) ⟨rfl, rfl⟩ (SubO.get ⟨.inr (by unfold mutP; (rw [if_neg (by omega), if_pos (by omega)]; all_goals first | rfl | (show _ = Pat.cs (p.kids ++ [varP0]); rw [Pat.cs_app]; all_goals rfl))), ⟨.inl rfl, trivial⟩⟩) (boxOK rfl)
   all_goals (unfold mutP; (rw [if_neg (by omega), if_pos (by omega)]; all_goals first | rfl | (show _ = Pat.cs (p.kids ++ [varP0]); rw [Pat.cs_app]; all_goals rfl)))
  ·try simp only [Q, Pat.cs_len] at h2p
   refine sq (fun h3 h3p h3s => ?_) fun h3 h3p h3s => ?_
   ·try simp only [Q, Pat.cs_len] at h3p
    refine Walk.sliceLit sl54 tz3 rfl (by decide) (ks := [0, 1, 2]) (xs := [_, _, _]) rfl rfl (by decide) (by decide) .none rfl rfl rfl rfl ?_
    refine Walk.call (cr := []) cal159 (spec_num_fn (p := q + 1) (l := [9, -1, 1]) hb (by omega) (by simp) (by simp)) rfl .none rfl rfl (LeL.refl _) ⟨rfl, trivial⟩ rfl rfl rfl ?_
    refine ev ?_
    refine Walk.store ty3 .none rfl rfl rfl rfl rfl rfl (by simp) rfl ?_
    refine tv ?_
    refine Walk.store ty51 .none rfl rfl rfl rfl rfl rfl (by simp) rfl ?_
    refine tv ?_
    refine rn [(900, some (rdB b (mutP b p q).2))] (.cons (.cellA ty51 rfl rfl rfl) .nil) (.agg (.cons (.eqd ?_) (.cons (.eqd ?_) (.cons (.eqd ?_) (.cons (.eqd ?_) (.cons (.eqd ?_) (.cons (.gld ?_) .nil))))))) ⟨rfl, rfl⟩ (SubO.get ⟨.inr (by unfold mutP; (rw [if_neg (by omega), if_neg (by omega), if_pos (by omega)]; all_goals first | rfl | (show _ = Pat.cs (p.kids ++ [varP0]); rw [Pat.cs_app]; all_goals rfl))), ⟨.inl rfl, trivial⟩⟩) (boxOK rfl)
    all_goals (unfold mutP; (rw [if_neg (by omega), if_neg (by omega), if_pos (by omega)]; all_goals first | rfl | (show _ = Pat.cs (p.kids ++ [varP0]); rw [Pat.cs_app]; all_goals rfl)))
   ·try simp only [Q, Pat.cs_len] at h3p
    refine sq (fun h4 h4p h4s => ?_) fun h4 h4p h4s => ?_
    ·try simp only [Q, Pat.cs_len] at h4p
     refine Walk.build st51 (ks := [0]) (xs := [_]) rfl rfl .none rfl rfl rfl ?_
     refine Walk.sliceLit sl49 tz51 rfl (by decide) (ks := [0]) (xs := [_]) rfl rfl (by decide) (by decide) .none rfl rfl rfl rfl ?_
     refine Walk.append sl49 zz51 rfl .none rfl rfl rfl rfl (htokL rfl (by first | rfl | (simp; done) | (simp; omega))) (by (intro x hx; simp only [List.mem_singleton] at hx; subst hx; rfl)) (by simp [Pat.cs_len]; omega) (by simp [Pat.cs_len]; omega) ?_
     refine ev ?_
     refine Walk.store ty49 .none rfl rfl rfl rfl rfl rfl (by simp) rfl ?_
     refine tv ?_
     refine Walk.store ty51 .none rfl rfl rfl rfl rfl rfl (by simp) rfl ?_
     refine tv ?_
     refine rn [(900, some (rdB b (mutP b p q).2))] (.cons (.cellA ty51 rfl rfl rfl) .nil) (.agg (.cons (.eqd ?_) (.cons (.eqd ?_) (.cons (.eqd ?_) (.cons (.eqd ?_) (.cons (.eqd ?_) (.cons (.gld ?_) .nil))))))) ⟨rfl, rfl⟩ (SubO.get ⟨.inr (by unfold mutP; (rw [if_neg (by omega), if_neg (by omega), if_neg (by omega), if_pos (by omega)]; all_goals first | rfl | (show _ = Pat.cs (p.kids ++ [varP0]); rw [Pat.cs_app]; all_goals rfl))), ⟨.inl rfl, trivial⟩⟩) (boxOK rfl)
     all_goals (unfold mutP; (rw [if_neg (by omega), if_neg (by omega), if_neg (by omega), if_pos (by omega)]; all_goals first | rfl | (show _ = Pat.cs (p.kids ++ [varP0]); rw [Pat.cs_app]; all_goals rfl)))
    ·try simp only [Q, Pat.cs_len] at h4p
     refine sq (fun h5 h5p h5s => ?_) fun h5 h5p h5s => ?_
     ·try simp only [Q, Pat.cs_len] at h5p
      refine sq (fun h6 h6p h6s => ?_) fun h6 h6p h6s => ?_
      ·try simp only [Q, Pat.cs_len] at h6p
       exfalso; apply hc4; refine ⟨by omega, fun hh => ?_⟩; rw [hh] at h6p; exact absurd h6p (by decide) --stop
      ·try simp only [Q, Pat.cs_len] at h6p
       refine Walk.store ty51 .none rfl rfl rfl rfl rfl rfl (by simp) rfl ?_
       refine tv ?_
       refine rn [(900, some (rdB b (mutP b p q).2))] (.cons (.cellA ty51 rfl rfl rfl) .nil) (.agg (.cons (.eqd ?_) (.cons (.eqd ?_) (.cons (.eqd ?_) (.cons (.eqd ?_) (.cons (.eqd ?_) (.cons (.gld ?_) .nil))))))) ⟨rfl, rfl⟩ (SubO.get ⟨.inr (by unfold mutP; (rw [if_neg (by omega), if_neg (by omega), if_neg (by omega), if_neg (by omega), if_pos (by omega)]; all_goals first | rfl | (show _ = Pat.cs (p.kids ++ [varP0]); rw [Pat.cs_app]; all_goals rfl))), ⟨.inl rfl, trivial⟩⟩) (boxOK rfl)
       all_goals (unfold mutP; (have hnk : p.kids = [] := (by rcases hke : p.kids with _ | ⟨y, r⟩; rfl; exact absurd ⟨by omega, by rw [hke]; simp⟩ hc4); rw [if_neg (by omega), if_neg (by omega), if_neg (by omega), if_neg (by omega), if_pos (by omega), hnk]; all_goals rfl))
     ·try simp only [Q, Pat.cs_len] at h5p
      refine sq (fun h7 h7p h7s => ?_) fun h7 h7p h7s => ?_
      ·try simp only [Q, Pat.cs_len] at h7p
       refine Walk.sliceLit sl54 tz3 rfl (by decide) (ks := [0, 1, 2]) (xs := [_, _, _]) rfl rfl (by decide) (by decide) .none rfl rfl rfl rfl ?_
       refine Walk.call (cr := []) cal159 (spec_num_fn (p := q + 1) (l := [10, -1, 5]) hb (by omega) (by simp) (by simp)) rfl .none rfl rfl (LeL.refl _) ⟨rfl, trivial⟩ rfl rfl rfl ?_
       refine ev ?_
       refine Walk.store ty3 .none rfl rfl rfl rfl rfl rfl (by simp) rfl ?_
       refine tv ?_
       refine Walk.store ty51 .none rfl rfl rfl rfl rfl rfl (by simp) rfl ?_
       refine tv ?_
       refine rn [(900, some (rdB b (mutP b p q).2))] (.cons (.cellA ty51 rfl rfl rfl) .nil) (.agg (.cons (.eqd ?_) (.cons (.eqd ?_) (.cons (.eqd ?_) (.cons (.eqd ?_) (.cons (.eqd ?_) (.cons (.gld ?_) .nil))))))) ⟨rfl, rfl⟩ (SubO.get ⟨.inr (by unfold mutP; (rw [if_neg (by omega), if_neg (by omega), if_neg (by omega), if_neg (by omega), if_neg (by omega), if_pos (by omega)]; all_goals first | rfl | (show _ = Pat.cs (p.kids ++ [varP0]); rw [Pat.cs_app]; all_goals rfl))), ⟨.inl rfl, trivial⟩⟩) (boxOK rfl)
       all_goals (unfold mutP; (rw [if_neg (by omega), if_neg (by omega), if_neg (by omega), if_neg (by omega), if_neg (by omega), if_pos (by omega)]; all_goals first | rfl | (show _ = Pat.cs (p.kids ++ [varP0]); rw [Pat.cs_app]; all_goals rfl)))
      ·try simp only [Q, Pat.cs_len] at h7p
       refine Walk.store ty51 .none rfl rfl rfl rfl rfl rfl (by simp) rfl ?_
       refine tv ?_
       refine rn [(900, some (rdB b (mutP b p q).2))] (.cons (.cellA ty51 rfl rfl rfl) .nil) (.agg (.cons (.eqd ?_) (.cons (.eqd ?_) (.cons (.eqd ?_) (.cons (.eqd ?_) (.cons (.eqd ?_) (.cons (.gld ?_) .nil))))))) ⟨rfl, rfl⟩ (SubO.get ⟨.inr (by unfold mutP; (rw [if_neg (by omega), if_neg (by omega), if_neg (by omega), if_neg (by omega), if_neg (by omega), if_neg (by omega)]; all_goals first | rfl | (show _ = Pat.cs (p.kids ++ [varP0]); rw [Pat.cs_app]; all_goals rfl))), ⟨.inl rfl, trivial⟩⟩) (boxOK rfl)
       all_goals (unfold mutP; (rw [if_neg (by omega), if_neg (by omega), if_neg (by omega), if_neg (by omega), if_neg (by omega), if_neg (by omega)]; all_goals first | rfl | (show _ = Pat.cs (p.kids ++ [varP0]); rw [Pat.cs_app]; all_goals rfl)))
theorem spec_l3Mutate_b {b : Str} (hb : b.length ≤ 2000) {p : Pat} {q : Nat} (hq : q ≤ 1000000) (hok : p.ok) (hc4 : pickV b q 30 = 4) {y : Pat} {r : List Pat} (hk4 : p.kids = y :: r) :
  FnD Tryz.prog 166 [.ref 900 0, .agg [.d (.i p.op), .d (.i p.ctor), .d (.i p.n), .d (.i p.m), .d (.i p.var), .d (encPats p.kids)]] [(900, some (rdB b q))]
   (.agg [.d (.i (mutP b p q).1.op), .d (.i (mutP b p q).1.ctor), .d (.i (mutP b p q).1.n), .d (.i (mutP b p q).1.m), .d (.i (mutP b p q).1.var), .d (encPats (mutP b p q).1.kids)]) [(900, some (rdB b (mutP b p q).2))] := by
 rw [Pat.ok_iff] at hok
 have hkl := Pat.cs_len p.kids
 have hcs : Pat.cs p.kids = y.cc :: Pat.cs r := by rw [Pat.cs_cc, hk4, List.map_cons, ← Pat.cs_cc]
 have hrl : (Pat.cs p.kids).length = (Pat.cs r).length + 1 := by rw [hcs]; rfl
 have hmu : mutP b p q = (⟨p.op, p.ctor, p.n, p.m, p.var, varP0 :: r⟩, q + 1) := by
  unfold mutP; rw [if_neg (by omega), if_neg (by omega), if_neg (by omega), if_neg (by omega), if_pos hc4, hk4]; rfl
 refine bd Tryz.f166 57 [] [17] fun w0 F0 own kept hk => ?_
 refine Walk.box (id := 3003) .none rfl rfl rfl rfl rfl rfl rfl ?_
 refine Walk.alloc (id := 3004) tz51 rfl .none rfl rfl rfl rfl ?_
 refine tv ?_
 refine Walk.alloc (id := 3005) tz51 rfl .none rfl rfl rfl rfl ?_
 refine Walk.store ty51 .none rfl rfl rfl rfl rfl rfl (by simp) rfl ?_
 refine tv ?_
 refine Walk.sliceEmptyGV 1 sl49 .none rfl rfl ?_
 refine ev ?_
 refine Walk.appendM hk rfl (by rw [hcs]; simp) sl49 zz51 .none rfl rfl rfl rfl (htokL rfl (by first | rfl | (simp; done) | (simp; omega))) (by intro x hx; exact Pat.cs_rows x hx) (by simp [Pat.cs_len]; omega) (by simp [Pat.cs_len]; omega) ?_
 refine ev ?_
 refine Walk.store ty49 .none rfl rfl rfl rfl rfl rfl (by simp) rfl ?_
 refine tv ?_
 refine Walk.call (cr := []) cal163 (spec_pick_fn (p := q) (n := 30) hb (by omega) (by omega)) rfl .none rfl rfl (LeL.refl _) ⟨rfl, trivial⟩ rfl rfl rfl ?_
 refine tv ?_
 refine sq (fun h1 h1p h1s => ?_) fun h1 h1p h1s => ?_
 ·try simp only [Q, Pat.cs_len] at h1p
  exfalso; omega --stop
 ·try simp only [Q, Pat.cs_len] at h1p
  refine sq (fun h2 h2p h2s => ?_) fun h2 h2p h2s => ?_
  ·try simp only [Q, Pat.cs_len] at h2p
   exfalso; omega --stop
  ·try simp only [Q, Pat.cs_len] at h2p
   refine sq (fun h3 h3p h3s => ?_) fun h3 h3p h3s => ?_
   ·try simp only [Q, Pat.cs_len] at h3p
    exfalso; omega --stop
   ·try simp only [Q, Pat.cs_len] at h3p
    refine sq (fun h4 h4p h4s => ?_) fun h4 h4p h4s => ?_
    ·try simp only [Q, Pat.cs_len] at h4p
     exfalso; omega --stop
    ·try simp only [Q, Pat.cs_len] at h4p
     refine sq (fun h5 h5p h5s => ?_) fun h5 h5p h5s => ?_
     ·try simp only [Q, Pat.cs_len] at h5p
      refine sq (fun h6 h6p h6s => ?_) fun h6 h6p h6s => ?_
      ·try simp only [Q, Pat.cs_len] at h6p
       refine Walk.build st51 (ks := [0]) (xs := [_]) rfl rfl .none rfl rfl rfl ?_
       refine Walk.idxM (i := 0) sl49 .none rfl rfl rfl rfl (by simp; omega) ?_
       refine Walk.store ty51 .none rfl rfl rfl rfl rfl rfl (by simp) ((put0 hcs rfl)) ?_
       refine tv ?_
       refine CWp.frzC hk 3005 5 1 _ 6 rfl rfl rfl rfl rfl (by rw [List.nil_append, hrl]; exact chunk0 rfl rfl (fun x hx => Pat.cs_rows x hx)) rfl ?_
       refine evc [] [] ?_
       refine Walk.store ty51 .none rfl rfl rfl rfl rfl rfl (by simp) rfl ?_
       refine tv ?_
       refine rn [(900, some (rdB b (mutP b p q).2))] (.cons (.cellA ty51 rfl rfl rfl) .nil) (.agg (.cons (.eqd ?_) (.cons (.eqd ?_) (.cons (.eqd ?_) (.cons (.eqd ?_) (.cons (.eqd ?_) (.cons (.eqd ?_) .nil))))))) ⟨rfl, rfl⟩ (SubO.get ⟨.inr (by rw [hmu]; all_goals rfl), ⟨.inl rfl, trivial⟩⟩) (boxOK rfl)
       all_goals (rw [hmu]; all_goals rfl)
      ·try simp only [Q, Pat.cs_len] at h6p
       exfalso; rw [List.nil_append, hrl] at h6p; omega --stop
     ·try simp only [Q, Pat.cs_len] at h5p
      exfalso; omega --stop
theorem spec_l3Mutate_fn {b : Str} (hb : b.length ≤ 2000) {p : Pat} {q : Nat} (hq : q ≤ 1000000) (hok : p.ok) :
  FnD Tryz.prog 166 [.ref 900 0, .agg [.d (.i p.op), .d (.i p.ctor), .d (.i p.n), .d (.i p.m), .d (.i p.var), .d (encPats p.kids)]] [(900, some (rdB b q))]
   (.agg [.d (.i (mutP b p q).1.op), .d (.i (mutP b p q).1.ctor), .d (.i (mutP b p q).1.n), .d (.i (mutP b p q).1.m), .d (.i (mutP b p q).1.var), .d (encPats (mutP b p q).1.kids)]) [(900, some (rdB b (mutP b p q).2))] := by
 by_cases h : pickV b q 30 = 4 ∧ p.kids ≠ []
 ·cases hk : p.kids with
  | nil => exact absurd hk h.2
  | cons y r => rw [← hk]; exact spec_l3Mutate_b hb hq hok h.1 hk
 ·exact spec_l3Mutate_a hb hq hok h
def caseW (i : Nat) : List Data := (parseW (nth texts8 i)).1
theorem caseW_all : ([2, 4].all fun i => [(0 : Int), 1, 2].all fun k => worldValid (caseW i) && (decide (1 ≤ (caseW i).length) && decide (1 ≤ (vctors (caseW i) ⟨0, k⟩).length))) = true := by kernel_rfl
structure CaseW (w : List Data) : Prop where
 small : WSmall w
 valid : worldValid w = true
 one : 1 ≤ w.length
 ct : ∀ k : Int, k = 0 ∨ k = 1 ∨ k = 2 → 1 ≤ (vctors w ⟨0, k⟩).length
theorem caseW_ok {i : Nat} (h : i = 2 ∨ i = 4) : CaseW (caseW i) := by
 have hall := caseW_all
 rw [List.all_eq_true] at hall
 have hi := hall i (by rcases h with rfl | rfl <;> simp)
 rw [List.all_eq_true] at hi
 have hk : ∀ k : Int, k = 0 ∨ k = 1 ∨ k = 2 → worldValid (caseW i) = true ∧ 1 ≤ (caseW i).length ∧ 1 ≤ (vctors (caseW i) ⟨0, k⟩).length := fun k hk => by
  have := hi k (by rcases hk with rfl | rfl | rfl <;> simp)
  simpa using this
 refine ⟨parseW_small (by have := text_small (i := i) (by omega); omega), (hk 0 (.inl rfl)).1, (hk 0 (.inl rfl)).2.1, fun k h => (hk k h).2.2⟩
theorem num24 (b : Str) (p : Nat) : numV b p [2, 4, 2] = 2 ∨ numV b p [2, 4, 2] = 4 := by
 have := numV_mem (b := b) (p := p) (l := [2, 4, 2]) (by simp)
 simp only [List.mem_cons, List.not_mem_nil, or_false] at this
 omega
theorem num012 (b : Str) (p : Nat) : numV b p [0, 1, 2, 0] = 0 ∨ numV b p [0, 1, 2, 0] = 1 ∨ numV b p [0, 1, 2, 0] = 2 := by
 have := numV_mem (b := b) (p := p) (l := [0, 1, 2, 0]) (by simp)
 simp only [List.mem_cons, List.not_mem_nil, or_false] at this
 omega
def caseP (b : Str) (w : List Data) (t : Ty) : Pat × Nat :=
 if (somePat b w t 2).op = 1 then
  (if 0 < pickV b (rawPat b w t 2).2.2 3 then (wideP w t (nth (vctors w t) (pickV b ((rawPat b w t 2).2.2 + 1) (vctors w t).length).toNat), (rawPat b w t 2).2.2 + 2)
  else (somePat b w t 2, (rawPat b w t 2).2.2 + 1))
 else (somePat b w t 2, (rawPat b w t 2).2.2)
def drawC (b : Str) : List Data × Ty × Pat :=
 (caseW (numV b 0 [2, 4, 2]).toNat, ⟨0, numV b 1 [0, 1, 2, 0]⟩, (mutP b (caseP b (caseW (numV b 0 [2, 4, 2]).toNat) ⟨0, numV b 1 [0, 1, 2, 0]⟩).1 (caseP b (caseW (numV b 0 [2, 4, 2]).toNat) ⟨0, numV b 1 [0, 1, 2, 0]⟩).2).1)
theorem anys_ok : ∀ l : List Ty, Pats.size (l.map fun _ => anyP) = l.length ∧ Pats.ok (l.map fun _ => anyP)
 | [] => by simp [Pats.size, Pats.ok]
 | t :: r => by
  have := anys_ok r
  have ha := anyP_sz
  simp only [List.map_cons, Pats.size, List.length_cons]
  exact ⟨by omega, ha.2, this.2⟩
theorem wide_ok {w : List Data} {t : Ty} {c : Int} (h : (argsOf w t c).length ≤ 3) : (wideP w t c).size ≤ 4 ∧ (wideP w t c).ok := by
 have := anys_ok (argsOf w t c)
 refine ⟨?_, ?_⟩
 ·rw [Pat.size_eq]; simp only [wideP, Pat.kids]; omega
 ·rw [Pat.ok_iff]; exact ⟨by simp only [wideP, Pat.kids, List.length_map]; omega, this.2⟩
theorem caseP_ok {b : Str} {w : List Data} (hf : Few w) {t : Ty} (ht : TyIn w.length t) (hc : 1 ≤ (vctors w t).length) : (caseP b w t).1.size ≤ 242 ∧ (caseP b w t).1.ok ∧ (caseP b w t).2 ≤ 600 := by
 have h1 := somePat_ok (b := b) hf ht 2
 have h2 := rawPat_ok (b := b) hf ht 2
 have hm := nth_pick (l := vctors w t) (b := b) (p := (rawPat b w t 2).2.2 + 1) (by omega)
 have h3 := wide_ok (hf t _ hm ht).1
 unfold caseP
 split
 ·split
  ·exact ⟨by dsimp only; omega, h3.2, by dsimp only; omega⟩
  ·exact ⟨h1.1, h1.2, by dsimp only; omega⟩
 ·exact ⟨h1.1, h1.2, by dsimp only; omega⟩
theorem Pats.len_size : ∀ l : List Pat, l.length ≤ Pats.size l
 | [] => Nat.zero_le _
 | v :: r => by
  have := Pats.len_size r
  have h := Pat.size_eq v
  simp only [List.length_cons, Pats.size]; omega
theorem setP_ok {x : Pat} (hx : x.ok) : ∀ {l : List Pat} {i : Nat}, Pats.ok l → Pats.ok (l.set i x)
 | [], _, _ => by simp [Pats.ok]
 | y :: r, 0, h => ⟨hx, h.2⟩
 | y :: r, i + 1, h => ⟨h.1, setP_ok hx h.2⟩
theorem appP_ok {x : Pat} (hx : x.ok) : ∀ {l : List Pat}, Pats.ok l → Pats.ok (l ++ [x])
 | [], _ => ⟨hx, trivial⟩
 | y :: r, h => ⟨h.1, appP_ok hx h.2⟩
theorem setP_sz {x : Pat} : ∀ {l : List Pat} {i : Nat}, Pats.size (l.set i x) ≤ Pats.size l + x.size
 | [], _ => by simp [Pats.size]
 | y :: r, 0 => by simp only [List.set_cons_zero, Pats.size]; omega
 | y :: r, i + 1 => by have := setP_sz (x := x) (l := r) (i := i); simp only [List.set_cons_succ, Pats.size]; omega
theorem mutP_ok {b : Str} {p : Pat} {q : Nat} (hs : p.size ≤ 1000) (hok : p.ok) : (mutP b p q).1.size ≤ 2000 ∧ (mutP b p q).1.ok := by
 have hv : varP0.size = 1 ∧ varP0.ok := ⟨by rw [Pat.size_eq]; rfl, by rw [Pat.ok_iff]; exact ⟨by simp [varP0, Pat.kids], trivial⟩⟩
 have h0 := Pat.size_eq p
 rw [Pat.ok_iff] at hok
 have same : ∀ a c n m v : Int, (Pat.mk a c n m v p.kids).size ≤ 2000 ∧ (Pat.mk a c n m v p.kids).ok := fun a c n m v => by
  refine ⟨by rw [Pat.size_eq]; show 1 + Pats.size p.kids ≤ _; omega, by rw [Pat.ok_iff]; exact hok⟩
 unfold mutP
 split; exact same _ _ _ _ _
 split; exact same _ _ _ _ _
 split; exact same _ _ _ _ _
 split
 ·refine ⟨?_, ?_⟩
  ·dsimp only; rw [Pat.size_eq]; show 1 + Pats.size (p.kids ++ [varP0]) ≤ _; rw [Pats.size_snoc]; omega
  ·dsimp only; rw [Pat.ok_iff]; refine ⟨?_, appP_ok hv.2 hok.2⟩
   show (p.kids ++ [varP0]).length ≤ _
   have := Pats.len_size p.kids
   simp only [List.length_append, List.length_singleton]; omega
 split
 ·refine ⟨?_, ?_⟩
  ·dsimp only; rw [Pat.size_eq]; show 1 + Pats.size (p.kids.set 0 varP0) ≤ _
   have := setP_sz (x := varP0) (l := p.kids) (i := 0); omega
  ·dsimp only; rw [Pat.ok_iff]; exact ⟨by show (p.kids.set 0 varP0).length ≤ _; rw [List.length_set]; exact hok.1, setP_ok hv.2 hok.2⟩
 split; exact same _ _ _ _ _
 exact same _ _ _ _ _
theorem spec_l15Case_fn {b : Str} (hb : b.length ≤ 1000000000000) :
  FnD Tryz.prog 92 [.d (encBytes b)] [] (.tup [.d (encDatas (drawC (b.take 2000)).1), .agg [.d (.i (drawC (b.take 2000)).2.1.data), .d (.i (drawC (b.take 2000)).2.1.index)], .agg [.d (.i (drawC (b.take 2000)).2.2.op), .d (.i (drawC (b.take 2000)).2.2.ctor), .d (.i (drawC (b.take 2000)).2.2.n), .d (.i (drawC (b.take 2000)).2.2.m), .d (.i (drawC (b.take 2000)).2.2.var), .d (encPats (drawC (b.take 2000)).2.2.kids)]]) [] := by
 have hop := spec_l17Open_fn hb
 have hb2 : (b.take 2000).length ≤ 2000 := by rw [List.length_take]; omega
 generalize b.take 2000 = e at *
 have hi2 := num24 e 0
 have hk2 := num012 e 1
 have hn0 := spec_num_fn (b := e) (p := 0) (l := [2, 4, 2]) hb2 (by omega) (by simp) (by simp)
 have hn1 := spec_num_fn (b := e) (p := 1) (l := [0, 1, 2, 0]) hb2 (by omega) (by simp) (by simp)
 unfold drawC
 dsimp only
 generalize numV e 0 [2, 4, 2] = i at *
 generalize numV e 1 [0, 1, 2, 0] = k at *
 have hcw := caseW_ok (i := i.toNat) (by omega)
 have hpw := spec_ParseWorld_fn (s := nth texts8 i.toNat) (by have := text_small (i := i.toNat) (by omega); omega)
 rw [show (parseW (nth texts8 i.toNat)).1 = caseW i.toNat from rfl] at hpw
 generalize hwe : caseW i.toNat = w at *
 have hw := valid_wt hcw.small hcw.valid
 have hf := valid_few hcw.small hcw.valid
 have hct := hcw.ct k hk2
 have ht : TyIn w.length ⟨0, k⟩ := .inr ⟨0, rfl, by have := hcw.one; omega⟩
 have hcl := vctors_len hw ht
 have hro := rawPat_ok (b := e) hf ht 2
 have hvl : ((((vctors w ⟨0, k⟩).map fun n => [D.i n]).length : Nat) : Int) = (vctors w ⟨0, k⟩).length := by simp
 have hv3 := pickV_bd (b := e) (p := (rawPat e w ⟨0, k⟩ 2).2.2) (n := 3) (by omega)
 have hvc := pickV_bd (b := e) (p := (rawPat e w ⟨0, k⟩ 2).2.2 + 1) (n := ((vctors w ⟨0, k⟩).length : Int)) (by omega)
 have hmem := nth_pick (l := vctors w ⟨0, k⟩) (b := e) (p := (rawPat e w ⟨0, k⟩ 2).2.2 + 1) (by omega)
 have hat : ((vctors w ⟨0, k⟩).map fun n => [D.i n])[(pickV e ((rawPat e w ⟨0, k⟩ 2).2.2 + 1) (vctors w ⟨0, k⟩).length).toNat]? = some [D.i (nth (vctors w ⟨0, k⟩) (pickV e ((rawPat e w ⟨0, k⟩ 2).2.2 + 1) (vctors w ⟨0, k⟩).length).toNat)] := at_nth (by omega)
 by_cases c1 : (somePat e w ⟨0, k⟩ 2).op = 1
 ·by_cases c2 : 0 < pickV e (rawPat e w ⟨0, k⟩ 2).2.2 3
  ·skip
   have hcp : caseP e w ⟨0, k⟩ = (wideP w ⟨0, k⟩ (nth (vctors w ⟨0, k⟩) (pickV e ((rawPat e w ⟨0, k⟩ 2).2.2 + 1) (vctors w ⟨0, k⟩).length).toNat), (rawPat e w ⟨0, k⟩ 2).2.2 + 2) := by unfold caseP; rw [if_pos c1, if_pos c2]
   have hco := caseP_ok (b := e) hf ht hct
   rw [hcp] at hco ⊢
   dsimp only at hco ⊢
   refine bd Tryz.f92 59 [] [] fun w0 F0 own kept hk => ?_
   refine Walk.alloc (id := 3003) tz42 rfl .none rfl rfl rfl rfl ?_
   refine Walk.alloc (id := 3004) tz51 rfl .none rfl rfl rfl rfl ?_
   refine tv ?_
   refine Walk.call (cr := [900]) cal158 (hop) rfl .none rfl rfl (LeL.refl _) trivial rfl (by first | rfl | (simp only [okCall, List.all_cons, List.all_nil, entOK, entOK', AV.idsL, AV.ids, idsL_append, ownCells_ids, List.map_cons, List.map_nil]; rfl)) (by first | rfl | (simp only [freshB, occH, occE, Res.ids, List.cons_append, List.nil_append, AV.idsL, AV.ids, idsL_append, ownCells_ids, zerosA_idsR, repNil, List.map_cons, List.map_nil, upC]; rfl)) ?_
   refine ev ?_
   refine Walk.sliceLit sl54 tz3 rfl (by decide) (ks := [0, 1, 2]) (xs := [_, _, _]) rfl rfl (by decide) (by decide) .none rfl rfl rfl rfl ?_
   refine Walk.call (cr := []) cal159 (hn0) rfl .none rfl rfl (LeL.refl _) ⟨rfl, trivial⟩ rfl rfl rfl ?_
   refine ev ?_
   refine Walk.call (cr := []) cal161 (spec_l1Texts_fn) rfl .none rfl rfl (LeL.refl _) trivial rfl rfl rfl ?_
   refine ev ?_
   refine Walk.idx (i := i.toNat) sl222 .none rfl rfl rfl (by omega) (at_nth (by rw [texts8_len]; omega)) rfl ?_
   refine ev ?_
   refine Walk.call (cr := []) cal160 (hpw) rfl .none rfl rfl (LeL.refl _) trivial rfl rfl rfl ?_
   refine ev ?_
   refine Walk.sliceLit sl54 tz3 rfl (by decide) (ks := [0, 1, 2, 3]) (xs := [_, _, _, _]) rfl rfl (by decide) (by decide) .none rfl rfl rfl rfl ?_
   refine Walk.call (cr := []) cal159 (hn1) rfl .none rfl rfl (LeL.refl _) ⟨rfl, trivial⟩ rfl rfl rfl ?_
   refine Walk.build st42 (ks := [1]) (xs := [_]) rfl rfl .none rfl rfl rfl ?_
   refine Walk.alloc (id := 3009) tz42 rfl .none rfl rfl rfl rfl ?_
   refine Walk.store ty42 .none rfl rfl rfl rfl rfl rfl (by simp) rfl ?_
   refine tv ?_
   refine Walk.call (cr := []) cal162 (spec_l3Some_fn hb2 hw hf (p := 2) (by omega) ht) rfl .none rfl rfl (LeL.refl _) ⟨rfl, trivial⟩ rfl rfl rfl ?_
   refine Walk.alloc (id := 3010) tz51 rfl .none rfl rfl rfl rfl ?_
   refine Walk.store ty51 .none rfl rfl rfl rfl rfl rfl (by simp) rfl ?_
   refine tv ?_
   refine sq (fun h1 h1p h1s => ?_) fun h1 h1p h1s => ?_
   ·try simp only [Q] at h1p
    refine Walk.call (cr := []) cal163 (spec_pick_fn (p := (rawPat e w ⟨0, k⟩ 2).2.2) (n := 3) hb2 (by omega) (by omega)) rfl (.some rfl rfl h1) rfl rfl (LeL.refl _) ⟨rfl, trivial⟩ rfl rfl rfl ?_
    refine evs [] [(36, true)] ?_ ⟨⟨_, rfl, h1⟩, trivial⟩
    refine sq (fun h2 h2p h2s => ?_) fun h2 h2p h2s => ?_
    ·try simp only [Q] at h2p
     refine Walk.call (cr := []) cal164 (spec_l1Ctors_v hw ht) rfl .none rfl rfl (LeL.refl _) trivial rfl rfl rfl ?_
     refine ev ?_
     refine Walk.call (cr := []) cal163 (spec_pick_fn (p := (rawPat e w ⟨0, k⟩ 2).2.2 + 1) (n := ((((vctors w ⟨0, k⟩).map fun n => [D.i n]).length : Nat) : Int)) hb2 (by omega) (by omega)) rfl .none rfl rfl (LeL.refl _) ⟨rfl, trivial⟩ rfl rfl rfl ?_
     refine Walk.idx (i := (pickV e ((rawPat e w ⟨0, k⟩ 2).2.2 + 1) (vctors w ⟨0, k⟩).length).toNat) sl54 .none rfl rfl rfl (by rw [hvl]; omega) (hat) rfl ?_
     refine evd [] [] ?_
     refine Walk.call (cr := []) cal165 (spec_l5Wide_fn hw hf ht hmem) rfl .none rfl rfl (LeL.refl _) trivial rfl rfl rfl ?_
     refine Walk.store ty51 .none rfl rfl rfl rfl rfl rfl (by simp) rfl ?_
     refine dr ?_
     refine Walk.call (cr := []) cal166 (spec_l3Mutate_fn hb2 (p := wideP w ⟨0, k⟩ (nth (vctors w ⟨0, k⟩) (pickV e ((rawPat e w ⟨0, k⟩ 2).2.2 + 1) (vctors w ⟨0, k⟩).length).toNat)) (q := (rawPat e w ⟨0, k⟩ 2).2.2 + 2) (by omega) hco.2.1) rfl .none rfl rfl (LeL.refl _) ⟨rfl, trivial⟩ rfl rfl rfl ?_
     refine evd [] [] ?_
     refine Walk.store ty42 .none rfl rfl rfl rfl rfl rfl (by simp) rfl ?_
     refine Walk.store ty51 .none rfl rfl rfl rfl rfl rfl (by simp) rfl ?_
     refine dr ?_
     refine rn0 (.cons (.tmp rfl) (.cons (.cellA ty42 rfl rfl rfl) (.cons (.cellA ty51 rfl rfl rfl) .nil))) (.tup (.cons (.eqd ?_) (.cons (.agg (.cons (.eqd ?_) (.cons (.eqd ?_) .nil))) (.cons (.agg (.cons (.eqd ?_) (.cons (.eqd ?_) (.cons (.eqd ?_) (.cons (.eqd ?_) (.cons (.eqd ?_) (.cons (.eqd ?_) .nil))))))) .nil))))
     all_goals (rfl)
    ·try simp only [Q] at h2p
     exfalso; omega --stop
   ·try simp only [Q] at h1p
    refine sqF ?_
    exfalso; omega --stop
  ·skip
   have hcp : caseP e w ⟨0, k⟩ = (somePat e w ⟨0, k⟩ 2, (rawPat e w ⟨0, k⟩ 2).2.2 + 1) := by unfold caseP; rw [if_pos c1, if_neg c2]
   have hco := caseP_ok (b := e) hf ht hct
   rw [hcp] at hco ⊢
   dsimp only at hco ⊢
   refine bd Tryz.f92 59 [] [] fun w0 F0 own kept hk => ?_
   refine Walk.alloc (id := 3003) tz42 rfl .none rfl rfl rfl rfl ?_
   refine Walk.alloc (id := 3004) tz51 rfl .none rfl rfl rfl rfl ?_
   refine tv ?_
   refine Walk.call (cr := [900]) cal158 (hop) rfl .none rfl rfl (LeL.refl _) trivial rfl (by first | rfl | (simp only [okCall, List.all_cons, List.all_nil, entOK, entOK', AV.idsL, AV.ids, idsL_append, ownCells_ids, List.map_cons, List.map_nil]; rfl)) (by first | rfl | (simp only [freshB, occH, occE, Res.ids, List.cons_append, List.nil_append, AV.idsL, AV.ids, idsL_append, ownCells_ids, zerosA_idsR, repNil, List.map_cons, List.map_nil, upC]; rfl)) ?_
   refine ev ?_
   refine Walk.sliceLit sl54 tz3 rfl (by decide) (ks := [0, 1, 2]) (xs := [_, _, _]) rfl rfl (by decide) (by decide) .none rfl rfl rfl rfl ?_
   refine Walk.call (cr := []) cal159 (hn0) rfl .none rfl rfl (LeL.refl _) ⟨rfl, trivial⟩ rfl rfl rfl ?_
   refine ev ?_
   refine Walk.call (cr := []) cal161 (spec_l1Texts_fn) rfl .none rfl rfl (LeL.refl _) trivial rfl rfl rfl ?_
   refine ev ?_
   refine Walk.idx (i := i.toNat) sl222 .none rfl rfl rfl (by omega) (at_nth (by rw [texts8_len]; omega)) rfl ?_
   refine ev ?_
   refine Walk.call (cr := []) cal160 (hpw) rfl .none rfl rfl (LeL.refl _) trivial rfl rfl rfl ?_
   refine ev ?_
   refine Walk.sliceLit sl54 tz3 rfl (by decide) (ks := [0, 1, 2, 3]) (xs := [_, _, _, _]) rfl rfl (by decide) (by decide) .none rfl rfl rfl rfl ?_
   refine Walk.call (cr := []) cal159 (hn1) rfl .none rfl rfl (LeL.refl _) ⟨rfl, trivial⟩ rfl rfl rfl ?_
   refine Walk.build st42 (ks := [1]) (xs := [_]) rfl rfl .none rfl rfl rfl ?_
   refine Walk.alloc (id := 3009) tz42 rfl .none rfl rfl rfl rfl ?_
   refine Walk.store ty42 .none rfl rfl rfl rfl rfl rfl (by simp) rfl ?_
   refine tv ?_
   refine Walk.call (cr := []) cal162 (spec_l3Some_fn hb2 hw hf (p := 2) (by omega) ht) rfl .none rfl rfl (LeL.refl _) ⟨rfl, trivial⟩ rfl rfl rfl ?_
   refine Walk.alloc (id := 3010) tz51 rfl .none rfl rfl rfl rfl ?_
   refine Walk.store ty51 .none rfl rfl rfl rfl rfl rfl (by simp) rfl ?_
   refine tv ?_
   refine sq (fun h1 h1p h1s => ?_) fun h1 h1p h1s => ?_
   ·try simp only [Q] at h1p
    refine Walk.call (cr := []) cal163 (spec_pick_fn (p := (rawPat e w ⟨0, k⟩ 2).2.2) (n := 3) hb2 (by omega) (by omega)) rfl (.some rfl rfl h1) rfl rfl (LeL.refl _) ⟨rfl, trivial⟩ rfl rfl rfl ?_
    refine evs [] [(36, true)] ?_ ⟨⟨_, rfl, h1⟩, trivial⟩
    refine sq (fun h2 h2p h2s => ?_) fun h2 h2p h2s => ?_
    ·try simp only [Q] at h2p
     exfalso; omega --stop
    ·try simp only [Q] at h2p
     refine Walk.call (cr := []) cal166 (spec_l3Mutate_fn hb2 (p := somePat e w ⟨0, k⟩ 2) (q := (rawPat e w ⟨0, k⟩ 2).2.2 + 1) (by omega) hco.2.1) rfl .none rfl rfl (LeL.refl _) ⟨rfl, trivial⟩ rfl rfl rfl ?_
     refine evd [] [] ?_
     refine Walk.store ty42 .none rfl rfl rfl rfl rfl rfl (by simp) rfl ?_
     refine Walk.store ty51 .none rfl rfl rfl rfl rfl rfl (by simp) rfl ?_
     refine dr ?_
     refine rn0 (.cons (.tmp rfl) (.cons (.cellA ty42 rfl rfl rfl) (.cons (.cellA ty51 rfl rfl rfl) .nil))) (.tup (.cons (.eqd ?_) (.cons (.agg (.cons (.eqd ?_) (.cons (.eqd ?_) .nil))) (.cons (.agg (.cons (.eqd ?_) (.cons (.eqd ?_) (.cons (.eqd ?_) (.cons (.eqd ?_) (.cons (.eqd ?_) (.cons (.eqd ?_) .nil))))))) .nil))))
     all_goals (rfl)
   ·try simp only [Q] at h1p
    exfalso; omega --stop
 ·skip
  have hcp : caseP e w ⟨0, k⟩ = (somePat e w ⟨0, k⟩ 2, (rawPat e w ⟨0, k⟩ 2).2.2) := by unfold caseP; rw [if_neg c1]
  have hco := caseP_ok (b := e) hf ht hct
  rw [hcp] at hco ⊢
  dsimp only at hco ⊢
  refine bd Tryz.f92 59 [] [] fun w0 F0 own kept hk => ?_
  refine Walk.alloc (id := 3003) tz42 rfl .none rfl rfl rfl rfl ?_
  refine Walk.alloc (id := 3004) tz51 rfl .none rfl rfl rfl rfl ?_
  refine tv ?_
  refine Walk.call (cr := [900]) cal158 (hop) rfl .none rfl rfl (LeL.refl _) trivial rfl (by first | rfl | (simp only [okCall, List.all_cons, List.all_nil, entOK, entOK', AV.idsL, AV.ids, idsL_append, ownCells_ids, List.map_cons, List.map_nil]; rfl)) (by first | rfl | (simp only [freshB, occH, occE, Res.ids, List.cons_append, List.nil_append, AV.idsL, AV.ids, idsL_append, ownCells_ids, zerosA_idsR, repNil, List.map_cons, List.map_nil, upC]; rfl)) ?_
  refine ev ?_
  refine Walk.sliceLit sl54 tz3 rfl (by decide) (ks := [0, 1, 2]) (xs := [_, _, _]) rfl rfl (by decide) (by decide) .none rfl rfl rfl rfl ?_
  refine Walk.call (cr := []) cal159 (hn0) rfl .none rfl rfl (LeL.refl _) ⟨rfl, trivial⟩ rfl rfl rfl ?_
  refine ev ?_
  refine Walk.call (cr := []) cal161 (spec_l1Texts_fn) rfl .none rfl rfl (LeL.refl _) trivial rfl rfl rfl ?_
  refine ev ?_
  refine Walk.idx (i := i.toNat) sl222 .none rfl rfl rfl (by omega) (at_nth (by rw [texts8_len]; omega)) rfl ?_
  refine ev ?_
  refine Walk.call (cr := []) cal160 (hpw) rfl .none rfl rfl (LeL.refl _) trivial rfl rfl rfl ?_
  refine ev ?_
  refine Walk.sliceLit sl54 tz3 rfl (by decide) (ks := [0, 1, 2, 3]) (xs := [_, _, _, _]) rfl rfl (by decide) (by decide) .none rfl rfl rfl rfl ?_
  refine Walk.call (cr := []) cal159 (hn1) rfl .none rfl rfl (LeL.refl _) ⟨rfl, trivial⟩ rfl rfl rfl ?_
  refine Walk.build st42 (ks := [1]) (xs := [_]) rfl rfl .none rfl rfl rfl ?_
  refine Walk.alloc (id := 3009) tz42 rfl .none rfl rfl rfl rfl ?_
  refine Walk.store ty42 .none rfl rfl rfl rfl rfl rfl (by simp) rfl ?_
  refine tv ?_
  refine Walk.call (cr := []) cal162 (spec_l3Some_fn hb2 hw hf (p := 2) (by omega) ht) rfl .none rfl rfl (LeL.refl _) ⟨rfl, trivial⟩ rfl rfl rfl ?_
  refine Walk.alloc (id := 3010) tz51 rfl .none rfl rfl rfl rfl ?_
  refine Walk.store ty51 .none rfl rfl rfl rfl rfl rfl (by simp) rfl ?_
  refine tv ?_
  refine sq (fun h1 h1p h1s => ?_) fun h1 h1p h1s => ?_
  ·try simp only [Q] at h1p
   exfalso; omega --stop
  ·try simp only [Q] at h1p
   refine sqF ?_
   refine Walk.call (cr := []) cal166 (spec_l3Mutate_fn hb2 (p := somePat e w ⟨0, k⟩ 2) (q := (rawPat e w ⟨0, k⟩ 2).2.2) (by omega) hco.2.1) rfl .none rfl rfl (LeL.refl _) ⟨rfl, trivial⟩ rfl rfl rfl ?_
   refine evd [] [] ?_
   refine Walk.store ty42 .none rfl rfl rfl rfl rfl rfl (by simp) rfl ?_
   refine Walk.store ty51 .none rfl rfl rfl rfl rfl rfl (by simp) rfl ?_
   refine dr ?_
   refine rn0 (.cons (.tmp rfl) (.cons (.cellA ty42 rfl rfl rfl) (.cons (.cellA ty51 rfl rfl rfl) .nil))) (.tup (.cons (.eqd ?_) (.cons (.agg (.cons (.eqd ?_) (.cons (.eqd ?_) .nil))) (.cons (.agg (.cons (.eqd ?_) (.cons (.eqd ?_) (.cons (.eqd ?_) (.cons (.eqd ?_) (.cons (.eqd ?_) (.cons (.eqd ?_) .nil))))))) .nil))))
   all_goals (rfl)
theorem drawC_ok (b : Str) : WSmall (drawC b).1 ∧ (drawC b).2.2.size ≤ 1000000000000 ∧ (drawC b).2.2.ok := by
 have hi2 := num24 b 0
 have hk2 := num012 b 1
 have hcw := caseW_ok (i := (numV b 0 [2, 4, 2]).toNat) (by omega)
 have hf := valid_few hcw.small hcw.valid
 have h1 := caseP_ok (b := b) hf (t := ⟨0, numV b 1 [0, 1, 2, 0]⟩) (.inr ⟨0, rfl, by have := hcw.one; omega⟩) (hcw.ct _ hk2)
 have h2 := mutP_ok (b := b) (q := (caseP b (caseW (numV b 0 [2, 4, 2]).toNat) ⟨0, numV b 1 [0, 1, 2, 0]⟩).2) (p := (caseP b (caseW (numV b 0 [2, 4, 2]).toNat) ⟨0, numV b 1 [0, 1, 2, 0]⟩).1) (by omega) h1.2.1
 exact ⟨hcw.small, by show (mutP b _ _).1.size ≤ _; omega, h2.2⟩
def emptyP (w : List Data) (f : Nat → Nat) : Nat → Ty → Pat → Bool
 | 0, _, _ => true
 | n + 1, t, p =>
  if p.op = 1 ∨ p.op = 2 then decide (dv f t = 0)
  else if p.op = 5 then emptyP w f n t (nth p.kids 0) && emptyP w f n t (nth p.kids 1)
  else !(all2 (fun u q => !emptyP w f n u q) (typesP w t p) p.kids)
theorem emptyP_succ {w : List Data} {f : Nat → Nat} {n : Nat} {t : Ty} {p : Pat} : emptyP w f (n + 1) t p = if p.op = 1 ∨ p.op = 2 then decide (dv f t = 0)
  else if p.op = 5 then emptyP w f n t (nth p.kids 0) && emptyP w f n t (nth p.kids 1)
  else !(all2 (fun u q => !emptyP w f n u q) (typesP w t p) p.kids) := rfl
def LeT (u t : Ty) : Prop := u.data = t.data ∧ (t.index = 0 ∨ u.index = t.index)
theorem fits_le {u t : Ty} (h : LeT u t) {c : Ctor} (hf : fits c u.index = true) : fits c t.index = true := by
 rcases h.2 with h0 | h0
 ·rw [h0]; simp [fits]
 ·rwa [← h0]
theorem from_le {u t : Ty} (h : LeT u t) {c : Int} : ∀ (l : List Ctor) (i : Nat), c ∈ ctorsFrom u.index i l → c ∈ ctorsFrom t.index i l
 | [], _, hc => hc
 | x :: r, i, hc => by
  unfold ctorsFrom at hc ⊢
  by_cases hf : fits x u.index = true
  ·rw [if_pos hf] at hc
   rw [if_pos (fits_le h hf)]
   rcases List.mem_cons.1 hc with h1 | h1
   ·exact List.mem_cons.2 (.inl h1)
   ·exact List.mem_cons.2 (.inr (from_le h r (i + 1) h1))
  ·rw [if_neg hf] at hc
   have := from_le h r (i + 1) hc
   split
   ·exact List.mem_cons.2 (.inr this)
   ·exact this
theorem ctors_le {w : List Data} {u t : Ty} (h : LeT u t) {c : Int} (hc : c ∈ ctorsOf w u) : c ∈ ctorsOf w t := by
 unfold ctorsOf at hc ⊢
 rw [← h.1]
 exact from_le h _ _ hc
theorem args_le {w : List Data} {u t : Ty} (h : LeT u t) {c : Int} : (argsOf w u c).length = (argsOf w t c).length ∧ ∀ i, i < (argsOf w t c).length → LeT (nth (argsOf w u c) i) (nth (argsOf w t c) i) := by
 unfold argsOf
 rw [h.1]
 refine ⟨by simp, fun i hi => ?_⟩
 dsimp only at hi ⊢
 generalize hq : nth (nth w t.data.toNat).ctors c.toNat = q at hi ⊢
 rw [List.length_map] at hi
 simp only [nth, List.getD_eq_getElem?_getD, List.getElem?_map, List.getElem?_eq_getElem hi, Option.map_some, Option.getD_some]
 generalize q.args[i] = a
 unfold argTy resIx
 by_cases ha : a.index = -1
 ·rw [if_pos ha, if_pos ha]
  refine ⟨rfl, ?_⟩
  dsimp only
  split
  ·exact h.2
  ·exact .inr rfl
 ·rw [if_neg ha, if_neg ha]
  exact ⟨rfl, .inr rfl⟩
theorem Hd_leT {w : List Data} : ∀ (d : Nat) {u t : Ty}, LeT u t → Hd w d u → Hd w d t
 | 0, _, _, _, h => h.elim
 | d + 1, u, t, hl, h => by
  rcases h with h | ⟨c, hc, h1, h2⟩
  ·exact .inl (by rw [← hl.1]; exact h)
  ·refine .inr ⟨c, ctors_le hl hc, by rw [← hl.1]; exact h1, fun v hv => ?_⟩
   obtain ⟨e, g⟩ := args_le (w := w) hl (c := c)
   obtain ⟨i, hi, rfl⟩ := List.getElem_of_mem hv
   have := Hd_leT d (g i hi) (h2 _ (nth_mem (by omega)))
   simpa [nth, List.getD, hi] using this
theorem dv_leT {w : List Data} (hd : Dp w) {u t : Ty} (hu : InS (w.length * 4) u) (ht : InS (w.length * 4) t) (hl : LeT u t) (h : 0 < dv (depthT w) u) : 0 < dv (depthT w) t := by
 have a := iter_all hd.cl (w.length * 4 + 1)
 have h1 := Hd_leT _ hl (dv_hd a.1 hu h)
 rcases ht with ht | ht
 ·unfold dv; rw [if_pos ht]; omega
 ·refine (dv_cmp (k := w.length * 4 + 1) a.2 (.inr ht) ?_).1
  have := ht.2
  rw [← this] at h1 ⊢
  exact hd_fix hd.cl ht.1 h1
theorem all2_mem {α β : Type} [Inhabited α] [Inhabited β] {f : α → β → Bool} {a : List α} {b : List β} (hl : a.length = b.length) (h : all2 f a b = true) : ∀ i, i < a.length → f (nth a i) (nth b i) = true := fun i hi => by
 cases hf : f (nth a i) (nth b i) with
 | true => rfl
 | false => rw [all2_nth_false hi hl hf] at h; exact absurd h (by simp)
theorem vctors_of {w : List Data} {t : Ty} {c : Int} (h : c ∈ vctors w t) : c ∈ ctorsOf w t := by
 unfold vctors at h
 split at h
 ·simp at h
 ·exact h
theorem some_full {w : List Data} (hd : Dp w) : ∀ (n : Nat) {u t : Ty} {p : Pat}, shapeP w n t p = true → LeT u t → InS (w.length * 4) u → InS (w.length * 4) t →
  someP w (depthT w) n u p = true → emptyP w (depthT w) n t p = false
 | 0, _, _, _, h, _, _, _, _ => by simp [shapeP] at h
 | n + 1, u, t, p, h, hl, hu, ht, hs => by
  obtain ⟨ho, hlen⟩ := shapeP_own h
  have hk := fun i (hi : i < p.kids.length) => shapeP_kid h hi
  rw [someP_succ] at hs
  rw [emptyP_succ]
  by_cases h12 : p.op = 1 ∨ p.op = 2
  ·rw [if_pos h12] at hs ⊢
   have := dv_leT hd hu ht hl (of_decide_eq_true hs)
   exact decide_eq_false (by omega)
  rw [if_neg h12] at hs ⊢
  by_cases h5 : p.op = 5
  ·rw [if_neg (by omega), if_pos h5] at hs
   rw [if_pos h5]
   have ht5 : typesP w t p = [t, t] := by unfold typesP; rw [if_neg (by omega), if_pos h5]
   rw [ht5] at hlen hk
   have hlen' : p.kids.length = 2 := hlen
   rw [Bool.or_eq_true] at hs
   rcases hs with h1 | h1
   ·have h7 : emptyP w (depthT w) n t (nth p.kids 0) = false := some_full hd n (hk 0 (by omega)) hl hu ht h1
    rw [h7]; rfl
   ·have h7 : emptyP w (depthT w) n t (nth p.kids 1) = false := some_full hd n (hk 1 (by omega)) hl hu ht h1
    rw [h7, Bool.and_false]
  rw [if_neg h5]
  rw [all2_nth_true hlen.symm (fun i hi => ?_)]
  ·rfl
  rw [← hlen] at hi
  have hki := hk i hi
  by_cases h4 : p.op = 4
  ·rw [if_neg (by omega), if_neg h5, if_neg (by omega)] at hs
   rw [Bool.and_eq_true] at hs
   have ht4 : typesP w t p = argsOf w t p.ctor := by unfold typesP; rw [if_pos h4]
   rw [ht4] at hki hlen ⊢
   obtain ⟨e, g⟩ := args_le (w := w) hl (c := p.ctor)
   have hm := of_decide_eq_true hs.1
   have hm' : p.ctor ∈ vctors w t := by
    have h2 := ctors_le hl (vctors_of hm)
    unfold vctors at hm ⊢
    rw [hl.1] at hm
    split at hm
    ·simp at hm
    ·rename_i hne; rw [if_neg hne]; exact h2
   have := some_full hd n hki (g i (by omega)) (args_ins hd hu hm _ (nth_mem (by omega))) (args_ins hd ht hm' _ (nth_mem (by omega))) (all2_mem (by omega) hs.2 i (by omega))
   rw [this]; rfl
  ·by_cases h6 : p.op = 6
   ·have ht6 : typesP w t p = [t] := by unfold typesP; rw [if_neg (by omega), if_neg (by omega), if_pos h6]
    rw [ht6] at hki hlen ⊢
    have hlen' : p.kids.length = 1 := hlen
    obtain rfl : i = 0 := by omega
    rw [if_neg (by omega), if_neg h5, if_pos h6] at hs
    have h7 : emptyP w (depthT w) n t (nth p.kids 0) = false := some_full hd n hki hl hu ht hs
    show (!emptyP w (depthT w) n t (nth p.kids 0)) = true
    rw [h7]; rfl
   ·have ht0 : typesP w t p = [] := by unfold typesP; rw [if_neg (by omega), if_neg (by omega), if_neg (by omega)]
    rw [ht0] at hlen
    have hlen' : p.kids.length = 0 := hlen
    omega
def emptyV (w : List Data) (a k : Int) (p : Pat) : Bool := patValid w a k p && emptyP w (depthT w) 10 ⟨a, k⟩ p
theorem idxTo_mem {w : List Data} {a k : Int} {p : Pat} {x : Int} : ∀ m, x ∈ idxTo w a k p m → ∃ j : Nat, x = (j : Int) ∧ 1 ≤ j ∧ j ≤ m ∧ ixOk w a k p j = true
 | 0, h => by simp [idxTo] at h
 | m + 1, h => by
  simp only [idxTo, List.mem_append] at h
  rcases h with h | h
  ·obtain ⟨j, e, h1, h2, h3⟩ := idxTo_mem m h
   exact ⟨j, e, h1, by omega, h3⟩
  ·by_cases hi : ixOk w a k p (m + 1) = true
   ·rw [if_pos hi] at h
    exact ⟨m + 1, by simpa using h, by omega, by omega, hi⟩
   ·rw [if_neg hi] at h; simp at h
theorem idxTo_rise {w : List Data} {a k : Int} {p : Pat} : ∀ m, (idxTo w a k p m).Pairwise (· < ·)
 | 0 => by simp [idxTo]
 | m + 1 => by
  simp only [idxTo]
  refine List.pairwise_append.2 ⟨idxTo_rise m, by split <;> simp, fun x hx y hy => ?_⟩
  obtain ⟨j, e, _, h2, _⟩ := idxTo_mem m hx
  split at hy
  ·rw [List.mem_singleton.1 hy, e]; omega
  ·simp at hy
theorem indices_less {w : List Data} (hs : WSmall w) {a k : Int} {p : Pat} (h : indicesV w a k p ≠ []) :
  patValid w a k p = true ∧ emptyV w a k p = false ∧ ∀ i, i < (indicesV w a k p).length → 1 ≤ nth (indicesV w a k p) i ∧ nth (indicesV w a k p) i ≤ 3 ∧ (0 < k → nth (indicesV w a k p) i = k)
   ∧ (0 < i → nth (indicesV w a k p) (i - 1) < nth (indicesV w a k p) i) := by
 have hp : patValid w a k p = true ∧ a ≠ -1 := by
  unfold indicesV at h
  split at h
  ·assumption
  ·exact absurd rfl h
 have e : indicesV w a k p = idxTo w a k p 3 := by unfold indicesV; rw [if_pos hp]
 rw [e] at h ⊢
 have pv := pval hs hp.1
 refine ⟨hp.1, ?_, fun i hi => ?_⟩
 ·obtain ⟨x, hx⟩ := List.exists_mem_of_ne_nil _ h
  obtain ⟨j, -, h1, h2, h3⟩ := idxTo_mem 3 hx
  unfold ixOk at h3
  rw [Bool.and_eq_true, decide_eq_true_eq] at h3
  obtain ⟨r1, r2, r3, r4⟩ := pv.rng hp.2
  unfold emptyV
  obtain ⟨d, rfl⟩ := Int.eq_ofNat_of_zero_le r1
  obtain ⟨q, rfl⟩ := Int.eq_ofNat_of_zero_le r3
  rw [some_full pv.dp 10 (u := ⟨(d : Int), (j : Int)⟩) pv.shape ⟨rfl, by simp only; omega⟩ (ins_of (by omega) (by omega)) (ins_of (by omega) (by omega)) h3.2, Bool.and_false]
 ·obtain ⟨j, e1, h1, h2, h3⟩ := idxTo_mem 3 (nth_mem hi)
  unfold ixOk at h3
  rw [Bool.and_eq_true, decide_eq_true_eq] at h3
  refine ⟨by omega, by omega, fun hk => by omega, fun h0 => ?_⟩
  have := List.pairwise_iff_getElem.1 (idxTo_rise (w := w) (a := a) (k := k) (p := p) 3) (i - 1) i (by omega) hi (by omega)
  simpa [nth, List.getD, hi, show i - 1 < (idxTo w a k p 3).length by omega] using this
mutual
theorem valEq_refl : ∀ v : Val, valEq v v = true
 | .mk _ _ ks => by simp [valEq, valsEq_refl ks]
theorem valsEq_refl : ∀ l : List Val, valsEq l l = true
 | [] => rfl
 | v :: r => by simp [valsEq, valEq_refl v, valsEq_refl r]
end
theorem Val.c_len (v : Val) : v.c.length = 3 := by cases v; rfl
theorem Val.cs_rows {l : List Val} : ∀ x, x ∈ Val.cs l → x.length = 3 := by
 intro x hx
 rw [Val.cs_eq] at hx
 obtain ⟨y, _, rfl⟩ := List.mem_map.1 hx
 exact y.c_len
theorem Val.cs_nil (l : List Val) : Val.cs l = [] ↔ l = [] := by rw [Val.cs_eq]; simp
mutual
def mVal : Val → Nat
 | .mk _ _ ks => mVals ks
def mVals : List Val → Nat
 | [] => 0
 | v :: r => 1 + mVal v + mVals r
end
mutual
def Val.szM : Val → Int
 | .mk _ _ ks => 2 + Vals.szM ks
def Vals.szM : List Val → Int
 | [] => 0
 | v :: r => v.szM + Vals.szM r
end
mutual
def Val.one (k : Int) : Val → Val
 | .mk _ _ ks => .mk k (k + 1) (Vals.one (k + 1 + 1) ks)
def Vals.one (k : Int) : List Val → List Val
 | [] => []
 | v :: r => v.one k :: Vals.one (k + v.szM) r
end
theorem Vals.szM_eq : ∀ l : List Val, Vals.szM l = szL Val.szM l
 | [] => rfl
 | v :: r => by simp only [Vals.szM, szL, Vals.szM_eq r]
theorem Vals.one_eq : ∀ (l : List Val) (k : Int), Vals.one k l = mkL Val.one Val.szM k l
 | [], _ => rfl
 | v :: r, k => by simp only [Vals.one, mkL, Vals.one_eq r]
theorem Val.szM_kids (v : Val) : v.szM = 2 + szL Val.szM v.kids := by cases v; simp only [Val.szM, Val.kids, Vals.szM_eq]
theorem Val.one_kids (v : Val) (k : Int) : (v.one k).kids = mkL Val.one Val.szM (k + 1 + 1) v.kids := by cases v; simp only [Val.one, Val.kids, Vals.one_eq]
theorem Val.one_sc (v : Val) (k : Int) : (Val.one k v).ctor = k ∧ (Val.one k v).num = k + 1 := by cases v; exact ⟨rfl, rfl⟩
mutual
theorem Val.szM_nn : ∀ v : Val, 0 ≤ v.szM
 | .mk _ _ ks => by have := Vals.szM_nn ks; simp only [Val.szM]; omega
theorem Vals.szM_nn : ∀ l : List Val, 0 ≤ Vals.szM l
 | [] => by simp [Vals.szM]
 | v :: r => by have := Val.szM_nn v; have := Vals.szM_nn r; simp only [Vals.szM]; omega
end
mutual
theorem Val.szM_le : ∀ v : Val, v.szM ≤ 2 + 2 * (mVal v : Int)
 | .mk _ _ ks => by have := Vals.szM_le ks; simp only [Val.szM, mVal]; omega
theorem Vals.szM_le : ∀ l : List Val, Vals.szM l ≤ 2 * (mVals l : Int)
 | [] => by simp [Vals.szM, mVals]
 | v :: r => by have := Val.szM_le v; have := Vals.szM_le r; simp only [Vals.szM, mVals]; omega
end
def fitsV (w : List Data) : Nat → Ty → Val → Bool
 | 0, _, _ => false
 | n + 1, t, v => if t.data = -1 then decide (v.ctor = -1) && (decide (0 ≤ v.num) && (decide (v.num ≤ 9) && decide (v.kids.length = 0)))
   else if v.num = 0 ∧ v.ctor ∈ ctorsOf w t then all2 (fitsV w n) (argsOf w t v.ctor) v.kids else false
def scanL (g : Ty → Val → Int → Bool × Int) : List Ty → List Val → Int → Bool × Int
 | a :: r, b :: s, c => if (g a b c).1 then scanL g r s (g a b c).2 else (false, (g a b c).2)
 | _, _, c => (true, c)
def scanV (w : List Data) : Nat → Ty → Val → Int → Bool × Int
 | 0, _, _, c => (false, c + 1)
 | n + 1, t, v, c => if 60 < c + 1 then (false, c + 1)
   else if t.data = -1 then (decide (v.ctor = -1) && (decide (0 ≤ v.num) && (decide (v.num ≤ 9) && decide (v.kids.length = 0))), c + 1)
   else if v.num = 0 ∧ v.ctor ∈ ctorsOf w t then (if (argsOf w t v.ctor).length = v.kids.length then scanL (scanV w n) (argsOf w t v.ctor) v.kids (c + 1) else (false, c + 1))
   else (false, c + 1)
theorem scanL_eq {w : List Data} {n : Nat} (ih : ∀ t v c, (scanV w n t v c).1 = (fitsV w n t v && decide (c + (v.size : Int) ≤ 60)) ∧ ((scanV w n t v c).1 = true → (scanV w n t v c).2 = c + v.size)) :
  ∀ (a : List Ty) (b : List Val) (c : Int), a.length = b.length → c ≤ 60 → (scanL (scanV w n) a b c).1 = (all2 (fitsV w n) a b && decide (c + (Vals.size b : Int) ≤ 60)) ∧ ((scanL (scanV w n) a b c).1 = true → (scanL (scanV w n) a b c).2 = c + Vals.size b)
 | [], [], c, _, hc => by simp [scanL, all2, Vals.size, hc]
 | x :: r, y :: s, c, hl, hc => by
  obtain ⟨h1, h2⟩ := ih x y c
  simp only [scanL, all2, Vals.size]
  cases hh : (scanV w n x y c).1 with
  | true =>
   have h3 := h2 hh
   rw [hh] at h1
   have h4 := h1.symm
   simp only [Bool.and_eq_true, decide_eq_true_eq] at h4
   obtain ⟨h5, h6⟩ := scanL_eq ih r s (scanV w n x y c).2 (by simpa using hl) (by omega)
   simp only [if_true]
   rw [h5]
   refine ⟨?_, fun hx => ?_⟩
   ·rw [h4.1, h3, Bool.true_and]
    congr 1
    exact decide_eq_decide.2 (by push_cast; omega)
   ·rw [← h5] at hx
    rw [h6 hx, h3]; push_cast; omega
  | false =>
   rw [hh] at h1
   simp only [Bool.false_eq_true, if_false, false_implies, and_true]
   have h4 := h1.symm
   simp only [Bool.and_eq_false_imp, decide_eq_false_iff_not] at h4
   symm
   cases hf : fitsV w n x y with
   | false => simp
   | true =>
    have := h4 hf
    have h7 : ¬ (c + ((y.size + Vals.size s : Nat) : Int) ≤ 60) := by push_cast; omega
    simp only [Bool.and_eq_false_imp]
    intro _; exact decide_eq_false h7
 | [], _ :: _, _, hl, _ => by simp at hl
 | _ :: _, [], _, hl, _ => by simp at hl
theorem Vals.size_nil {l : List Val} (h : l.length = 0) : Vals.size l = 0 := by
 cases l with
 | nil => rfl
 | cons x r => simp at h
theorem scanV_eq (w : List Data) : ∀ (n : Nat) (t : Ty) (v : Val) (c : Int), (scanV w n t v c).1 = (fitsV w n t v && decide (c + (v.size : Int) ≤ 60)) ∧ ((scanV w n t v c).1 = true → (scanV w n t v c).2 = c + v.size)
 | 0, t, v, c => by simp [scanV, fitsV]
 | n + 1, t, v, c => by
  have hsz := Val.size_eq v
  unfold scanV fitsV
  by_cases h1 : 60 < c + 1
  ·rw [if_pos h1]
   simp only [Bool.false_eq_true, false_implies, and_true]
   symm
   simp only [Bool.and_eq_false_imp, decide_eq_false_iff_not]
   intro _; omega
  ·rw [if_neg h1]
   by_cases h2 : t.data = -1
   ·rw [if_pos h2, if_pos h2]
    refine ⟨?_, fun hx => ?_⟩
    ·by_cases hk : v.kids.length = 0
     ·have := Vals.size_nil hk
      have h3 : decide (c + (v.size : Int) ≤ 60) = true := decide_eq_true (by omega)
      rw [h3, Bool.and_true]
     ·simp [hk]
    ·simp only [Bool.and_eq_true, decide_eq_true_eq] at hx
     have := Vals.size_nil hx.2.2.2
     simp only; omega
   ·rw [if_neg h2, if_neg h2]
    by_cases h3 : v.num = 0 ∧ v.ctor ∈ ctorsOf w t
    ·rw [if_pos h3, if_pos h3]
     by_cases h4 : (argsOf w t v.ctor).length = v.kids.length
     ·rw [if_pos h4]
      obtain ⟨h5, h6⟩ := scanL_eq (fun t v c => scanV_eq w n t v c) (argsOf w t v.ctor) v.kids (c + 1) h4 (by omega)
      refine ⟨?_, fun hx => ?_⟩
      ·rw [h5]
       congr 1
       exact decide_eq_decide.2 (by omega)
      ·rw [h6 hx]; omega
     ·rw [if_neg h4, all2_len h4]
      simp
    ·rw [if_neg h3, if_neg h3]
     simp
mutual
def cntV (m : Int) : Val → Int
 | .mk _ _ ks => cntL m 1 ks
def cntL (m n : Int) : List Val → Int
 | [] => n
 | k :: r => if n ≤ m then cntL m (n + cntV (m - n) k) r else n
end
theorem cntL_stop {m n : Int} {l : List Val} (h : ¬ n ≤ m) : cntL m n l = n := by cases l <;> simp [cntL, h]
mutual
theorem cntV_le : ∀ (v : Val) (m : Int), 1 ≤ cntV m v ∧ cntV m v ≤ v.size
 | .mk _ _ ks, m => by
  have := cntL_le ks m 1 (by omega)
  simp only [cntV, Val.size]; push_cast; omega
theorem cntL_le : ∀ (l : List Val) (m n : Int), 1 ≤ n → 1 ≤ cntL m n l ∧ cntL m n l ≤ n + Vals.size l
 | [], m, n, h => by simp [cntL, Vals.size]; omega
 | k :: r, m, n, h => by
  have h1 := cntV_le k (m - n)
  have h2 := cntL_le r m (n + cntV (m - n) k) (by omega)
  simp only [cntL, Vals.size]
  split
  ·push_cast; omega
  ·push_cast; omega
end
mutual
theorem cntV_iff : ∀ (v : Val) (m : Int), (cntV m v ≤ m ↔ (v.size : Int) ≤ m) ∧ (cntV m v ≤ m → cntV m v = v.size)
 | .mk _ _ ks, m => by
  have := cntL_iff ks m 1
  simp only [cntV, Val.size]; push_cast; exact this
theorem cntL_iff : ∀ (l : List Val) (m n : Int), (cntL m n l ≤ m ↔ n + (Vals.size l : Int) ≤ m) ∧ (cntL m n l ≤ m → cntL m n l = n + Vals.size l)
 | [], m, n => by simp [cntL, Vals.size]
 | k :: r, m, n => by
  have h1 := cntV_iff k (m - n)
  have h2 := cntL_iff r m (n + cntV (m - n) k)
  have h3 := cntL_le r m (n + cntV (m - n) k)
  have h4 := cntV_le k (m - n)
  simp only [cntL, Vals.size]
  push_cast
  by_cases hn : n ≤ m
  ·rw [if_pos hn]
   by_cases h5 : cntV (m - n) k ≤ m - n
   ·have h6 := h1.2 h5
    rw [h6] at h2 ⊢
    constructor
    ·rw [h2.1]; constructor <;> intro h <;> omega
    ·intro h; rw [h2.2 h]; omega
   ·have h7 : ¬ (k.size : Int) ≤ m - n := fun h => h5 (h1.1.2 h)
    have h8 : ¬ n + cntV (m - n) k ≤ m := by omega
    rw [cntL_stop h8]
    constructor
    ·constructor <;> intro h <;> omega
    ·intro h; omega
  ·rw [if_neg hn]
   constructor
   ·constructor <;> intro h <;> omega
   ·intro h; omega
end
theorem Vals.size_split {pre rest l : List Val} {y : Val} (h : pre ++ y :: rest = l) : Vals.size l = Vals.size pre + y.size + Vals.size rest := by
 subst h
 induction pre with
 | nil => simp [Vals.size]
 | cons x r ih => simp only [List.cons_append, Vals.size, ih]; omega
theorem nth_size {l : List Val} {i : Nat} (h : i < l.length) : (nth l i).size ≤ Vals.size l := Vals.size_mem (nth_mem h)
def isV (w : List Data) (t : Ty) (v : Val) : Bool := fitsV w 10 t v && decide ((v.size : Int) ≤ 60)
theorem scanL_stop {w : List Data} {n : Nat} {a : List Ty} {b : List Val} {i : Nat} {c : Int} (ha : i < a.length) (hl : a.length = b.length) (h : (scanV w n (nth a i) (nth b i) c).1 = false) :
  scanL (scanV w n) (a.drop i) (b.drop i) c = (false, (scanV w n (nth a i) (nth b i) c).2) := by
 rw [drop_nth ha, drop_nth (l := b) (by omega), scanL, if_neg (by rw [h]; simp)]
theorem scanL_next {w : List Data} {n : Nat} {a : List Ty} {b : List Val} {i : Nat} {c : Int} (ha : i < a.length) (hl : a.length = b.length) (h : (scanV w n (nth a i) (nth b i) c).1 = true) :
  scanL (scanV w n) (a.drop i) (b.drop i) c = scanL (scanV w n) (a.drop (i + 1)) (b.drop (i + 1)) (scanV w n (nth a i) (nth b i) c).2 := by
 rw [drop_nth ha, drop_nth (l := b) (by omega), scanL, if_pos h]
theorem scanL_end {w : List Data} {n : Nat} {a : List Ty} {b : List Val} {i : Nat} {c : Int} (ha : a.length ≤ i) : scanL (scanV w n) (a.drop i) (b.drop i) c = (true, c) := by
 rw [List.drop_eq_nil_of_le ha, scanL]
 simp
theorem scanV_bd (w : List Data) (n : Nat) (t : Ty) (v : Val) (c : Int) (h : (scanV w n t v c).1 = true) : c ≤ (scanV w n t v c).2 ∧ (scanV w n t v c).2 ≤ 60 := by
 have h1 := (scanV_eq w n t v c)
 have h2 := h1.2 h
 rw [h1.1] at h
 simp only [Bool.and_eq_true, decide_eq_true_eq] at h
 omega
theorem impl_valueScan_fn {w : List Data} (hw : WT w) : ∀ (n : Nat) {a k d c : Int} {v : Val}, d + n = 11 → n ≤ 10 → TyIn w.length ⟨a, k⟩ → v.ok → 0 ≤ c → c ≤ 1000000000000 →
  FnD Tryz.prog 180 [.d (encDatas w), .agg [.d (.i a), .d (.i k)], .agg [.d (.i v.ctor), .d (.i v.num), .d (encVals v.kids)], .d (.i d), .d (.bool false), .ref 950 0] [(950, some (.box [.d (.i c)]))]
   (.d (.bool (scanV w n ⟨a, k⟩ v c).1)) [(950, some (.box [.d (.i (scanV w n ⟨a, k⟩ v c).2)]))]
 | 0, a, k, d, c, v, hd, _, _, _, c0, c1 => by
  refine bd Tryz.f180 108 [] [] fun w0 F0 own kept hk => ?_
  refine Walk.box (id := 3007) .none rfl rfl rfl rfl rfl rfl rfl ?_
  refine Walk.box (id := 3008) .none rfl rfl rfl rfl rfl rfl rfl ?_
  refine ev ?_
  refine ar ?_
  refine Walk.store ty3 .none rfl rfl rfl rfl rfl rfl (by simp) rfl ?_
  refine tv ?_
  refine sq (fun h1 h1p h1s => ?_) fun h1 h1p h1s => ?_
  ·try simp only [Q] at h1p
   refine sqT ?_
   refine rn [(950, some (.box [.d (.i (scanV w 0 ⟨a, k⟩ v c).2)]))] (r1 rfl) (.eqd ?_) ⟨rfl, rfl⟩ (SubO.get ⟨.inr (by rfl), ⟨.inl rfl, trivial⟩⟩) (boxOK rfl)
   all_goals (rfl)
  ·try simp only [Q] at h1p
   refine sq (fun h3 h3p h3s => ?_) fun h3 h3p h3s => ?_
   ·try simp only [Q] at h3p
    refine rn [(950, some (.box [.d (.i (scanV w 0 ⟨a, k⟩ v c).2)]))] (r1 rfl) (.eqd ?_) ⟨rfl, rfl⟩ (SubO.get ⟨.inr (by rfl), ⟨.inl rfl, trivial⟩⟩) (boxOK rfl)
    all_goals (rfl)
   ·try simp only [Q] at h3p
    exfalso; simp at *; omega --stop
 | n + 1, a, k, d, c, v, hd, hn, ht, hok, c0, c1 => by
  by_cases h60 : 60 < c + 1
  ·skip
   refine bd Tryz.f180 108 [] [] fun w0 F0 own kept hk => ?_
   refine Walk.box (id := 3007) .none rfl rfl rfl rfl rfl rfl rfl ?_
   refine Walk.box (id := 3008) .none rfl rfl rfl rfl rfl rfl rfl ?_
   refine ev ?_
   refine ar ?_
   refine Walk.store ty3 .none rfl rfl rfl rfl rfl rfl (by simp) rfl ?_
   refine tv ?_
   refine sq (fun h1 h1p h1s => ?_) fun h1 h1p h1s => ?_
   ·try simp only [Q] at h1p
    refine sqT ?_
    refine rn [(950, some (.box [.d (.i (scanV w (n + 1) ⟨a, k⟩ v c).2)]))] (r1 rfl) (.eqd ?_) ⟨rfl, rfl⟩ (SubO.get ⟨.inr (by (unfold scanV; rw [if_pos h60]; rfl)), ⟨.inl rfl, trivial⟩⟩) (boxOK rfl)
    all_goals (unfold scanV; rw [if_pos h60])
   ·try simp only [Q] at h1p
    refine sq (fun h3 h3p h3s => ?_) fun h3 h3p h3s => ?_
    ·try simp only [Q] at h3p
     refine rn [(950, some (.box [.d (.i (scanV w (n + 1) ⟨a, k⟩ v c).2)]))] (r1 rfl) (.eqd ?_) ⟨rfl, rfl⟩ (SubO.get ⟨.inr (by (unfold scanV; rw [if_pos h60]; rfl)), ⟨.inl rfl, trivial⟩⟩) (boxOK rfl)
     all_goals (unfold scanV; rw [if_pos h60])
    ·try simp only [Q] at h3p
     exfalso; simp at *; omega --stop
  rcases ht with ha | ⟨e, he, hlt⟩
  ·have ha' : a = -1 := ha
   subst ha'
   refine bd Tryz.f180 108 [] [] fun w0 F0 own kept hk => ?_
   refine Walk.box (id := 3007) .none rfl rfl rfl rfl rfl rfl rfl ?_
   refine Walk.box (id := 3008) .none rfl rfl rfl rfl rfl rfl rfl ?_
   refine ev ?_
   refine ar ?_
   refine Walk.store ty3 .none rfl rfl rfl rfl rfl rfl (by simp) rfl ?_
   refine tv ?_
   refine sq (fun h1 h1p h1s => ?_) fun h1 h1p h1s => ?_
   ·try simp only [Q] at h1p
    refine sqT ?_
    exfalso; simp at *; omega --stop
   ·try simp only [Q] at h1p
    refine sq (fun h3 h3p h3s => ?_) fun h3 h3p h3s => ?_
    ·try simp only [Q] at h3p
     exfalso; simp at *; omega --stop
    ·try simp only [Q] at h3p
     refine sqF ?_
     refine sqF ?_
     refine sq (fun h5 h5p h5s => ?_) fun h5 h5p h5s => ?_
     ·try simp only [Q] at h5p
      refine sq (fun h6 h6p h6s => ?_) fun h6 h6p h6s => ?_
      ·try simp only [Q] at h6p
       refine Walk.call (cr := []) cal87 (impl_within_fn) rfl (.some rfl rfl h6) rfl rfl (LeL.refl _) trivial rfl rfl rfl ?_
       refine evs [] [(52, true)] ?_ ⟨⟨_, rfl, h6⟩, trivial⟩
       refine sq (fun h7 h7p h7s => ?_) fun h7 h7p h7s => ?_
       ·try simp only [Q] at h7p
        refine rn [(950, some (.box [.d (.i (scanV w (n + 1) ⟨-1, k⟩ v c).2)]))] (r1 rfl) (.eqd ?_) ⟨rfl, rfl⟩ (SubO.get ⟨.inr (by (unfold scanV; rw [if_neg h60, if_pos rfl]; rfl)), ⟨.inl rfl, trivial⟩⟩) (boxOK rfl)
        all_goals (refine congrArg D.bool ?_; unfold scanV; rw [if_neg h60, if_pos rfl]; simp only [within] at *; first | (simp_all [Val.cs_len]; done) | (simp_all [Val.cs_len]; intro h1 h2; omega))
       ·try simp only [Q] at h7p
        refine rn [(950, some (.box [.d (.i (scanV w (n + 1) ⟨-1, k⟩ v c).2)]))] (r1 rfl) (.eqd ?_) ⟨rfl, rfl⟩ (SubO.get ⟨.inr (by (unfold scanV; rw [if_neg h60, if_pos rfl]; rfl)), ⟨.inl rfl, trivial⟩⟩) (boxOK rfl)
        all_goals (refine congrArg D.bool ?_; unfold scanV; rw [if_neg h60, if_pos rfl]; simp only [within] at *; first | (simp_all [Val.cs_len]; done) | (simp_all [Val.cs_len]; intro h1 h2; omega))
      ·try simp only [Q] at h6p
       refine sqF ?_
       refine rn [(950, some (.box [.d (.i (scanV w (n + 1) ⟨-1, k⟩ v c).2)]))] (r1 rfl) (.eqd ?_) ⟨rfl, rfl⟩ (SubO.get ⟨.inr (by (unfold scanV; rw [if_neg h60, if_pos rfl]; rfl)), ⟨.inl rfl, trivial⟩⟩) (boxOK rfl)
       all_goals (refine congrArg D.bool ?_; unfold scanV; rw [if_neg h60, if_pos rfl]; simp only [within] at *; first | (simp_all [Val.cs_len]; done) | (simp_all [Val.cs_len]; intro h1 h2; omega))
     ·try simp only [Q] at h5p
      exact absurd h5 (by simp) --stop
  have he' : a = (e : Int) := he
  subst he'
  have hok' := hok
  rw [Val.ok_iff] at hok
  have hcl := ctorsOf_len hw (d := e) (k := k)
  have hdn : ¬ (e : Int) = -1 := by omega
  by_cases hv : v.num = 0 ∧ v.ctor ∈ ctorsOf w ⟨e, k⟩
  ·have hal := argsOf_len hw hlt (k := k) (place_of (k := k) (c := v.ctor) hv.2)
   by_cases hlen : (argsOf w ⟨e, k⟩ v.ctor).length = v.kids.length
   ·have hsc : scanV w (n + 1) ⟨e, k⟩ v c = scanL (scanV w n) (argsOf w ⟨e, k⟩ v.ctor) v.kids (c + 1) := by
     conv => lhs; unfold scanV
     rw [if_neg h60, if_neg hdn, if_pos hv, if_pos hlen]
    rw [hsc]
    refine bd Tryz.f180 108 [] [] fun w0 F0 own kept hk => ?_
    refine Walk.box (id := 3007) .none rfl rfl rfl rfl rfl rfl rfl ?_
    refine Walk.box (id := 3008) .none rfl rfl rfl rfl rfl rfl rfl ?_
    refine ev ?_
    refine ar ?_ (by first | (constructor <;> omega) | (constructor <;> simp [Val.cs_len] <;> omega))
    refine Walk.store ty3 .none rfl rfl rfl rfl rfl rfl (by simp) rfl ?_
    refine tv ?_
    refine sq (fun h1 h1p h1s => ?_) fun h1 h1p h1s => ?_
    ·try simp only [Q, Val.cs_len, Ty.eta] at h1p
     refine sqT ?_
     exfalso; simp at *; omega --stop
    ·try simp only [Q, Val.cs_len, Ty.eta] at h1p
     refine sq (fun h3 h3p h3s => ?_) fun h3 h3p h3s => ?_
     ·try simp only [Q, Val.cs_len, Ty.eta] at h3p
      exfalso; simp at *; omega --stop
     ·try simp only [Q, Val.cs_len, Ty.eta] at h3p
      refine sqF ?_
      refine sqF ?_
      refine sq (fun h5 h5p h5s => ?_) fun h5 h5p h5s => ?_
      ·try simp only [Q, Val.cs_len, Ty.eta] at h5p
       exfalso; simp at * <;> omega --stop
      ·try simp only [Q, Val.cs_len, Ty.eta] at h5p
       refine sq (fun h6 h6p h6s => ?_) fun h6 h6p h6s => ?_
       ·try simp only [Q, Val.cs_len, Ty.eta] at h6p
        refine dr ?_
        refine sqT ?_
        exfalso; have e1 := hv.1; have e2 := hv.2; simp_all --stop
       ·try simp only [Q, Val.cs_len, Ty.eta] at h6p
        refine Walk.call (cr := []) cal170 (impl_ctorsOf_in hw hlt) rfl (.some rfl rfl h6) rfl rfl (LeL.refl _) trivial rfl rfl rfl ?_
        refine evd [] [(67, false)] ?_ ⟨⟨_, rfl, h6⟩, trivial⟩
        refine Walk.call (cr := []) cal169 (slices_Contains_int_fn hcl) rfl (.some rfl rfl h6) rfl rfl (LeL.refl _) trivial rfl rfl rfl ?_
        refine evd [] [(67, false)] ?_ ⟨⟨_, rfl, h6⟩, trivial⟩
        refine dr ?_
        refine sq (fun h8 h8p h8s => ?_) fun h8 h8p h8s => ?_
        ·try simp only [Q, Val.cs_len, Ty.eta] at h8p
         exfalso; have e1 := hv.1; have e2 := hv.2; simp_all --stop
        ·try simp only [Q, Val.cs_len, Ty.eta] at h8p
         refine Walk.call (cr := []) cal171 (impl_argTypes_in hw hlt (place_of (k := k) (c := v.ctor) hv.2)) rfl .none rfl rfl (LeL.refl _) trivial rfl rfl rfl ?_
         refine ev ?_
         refine sq (fun h9 h9p h9s => ?_) fun h9 h9p h9s => ?_
         ·try simp only [Q, Val.cs_len, Ty.eta] at h9p
          exfalso; simp [Val.cs_len, hlen] at h9 --stop
         ·try simp only [Q, Val.cs_len, Ty.eta] at h9p
          refine CWp.loopX (ι := Nat × Int) hk (fun x => [(90, .d (.i (x.1 : Int)))]) [12, 14, 15, 91, 92, 93, 94, 95, 96, 97, 98, 99, 100, 101, 102, 103, 104, 105, 106, 107] (fun x => [(950, some (.box [.d (.i x.2)]))]) (fun x => x.1 ≤ v.kids.length ∧ scanL (scanV w n) ((argsOf w ⟨e, k⟩ v.ctor).drop x.1) (v.kids.drop x.1) x.2 = scanL (scanV w n) (argsOf w ⟨e, k⟩ v.ctor) v.kids (c + 1) ∧ 0 ≤ x.2 ∧ x.2 ≤ 60) (fun x => v.kids.length - x.1) (0, c + 1) ⟨by simp, by simp, by dsimp only; omega, by dsimp only; omega⟩ ⟨⟨_, rfl, (LeA.eqi (by first | rfl | (simp; done) | (dsimp only; omega)))⟩, trivial⟩ ⟨(by first | rfl | (simp [getH]; done)), trivial⟩ (fun x => rfl) (fun x hg1 => ?_)
          refine evc [] [] ?_
          refine sq (fun h10 h10p h10s => ?_) fun h10 h10p h10s => ?_
          ·try simp only [Q, Val.cs_len, Ty.eta] at h10p
           refine Walk.idx sl58 .none rfl rfl rfl rfl (vals_at (by omega)) rfl ?_
           refine ev ?_
           refine Walk.alloc (id := 3015) tz65 rfl .none rfl rfl rfl rfl ?_
           refine ev ?_
           refine Walk.store ty65 .none rfl rfl rfl rfl rfl rfl (by simp) rfl ?_
           refine tv ?_
           refine Walk.idx sl182 .none rfl rfl rfl rfl (at_nth (by omega)) rfl ?_
           refine evd [] [] ?_
           refine ar ?_ (by first | (constructor <;> omega) | (constructor <;> simp [Val.cs_len] <;> omega))
           refine Walk.call (cr := []) cal180 (impl_valueScan_fn hw n (a := (nth (argsOf w ⟨e, k⟩ v.ctor) x.1).data) (k := (nth (argsOf w ⟨e, k⟩ v.ctor) x.1).index) (c := x.2) (by omega) (by omega) (argsOf_in hw hlt (k := k) (place_of (k := k) (c := v.ctor) hv.2) (nth_mem (by omega))) (Vals.ok_mem hok.2 _ (nth_mem (by omega))) (by omega) (by omega)) rfl .none rfl rfl (LeL.refl _) ⟨rfl, trivial⟩ rfl rfl rfl ?_
           refine evd [] [] ?_
           refine dr ?_
           refine sq (fun h11 h11p h11s => ?_) fun h11 h11p h11s => ?_
           ·try simp only [Q, Val.cs_len, Ty.eta] at h11p
            refine rn [(950, some (.box [.d (.i (scanL (scanV w n) (argsOf w ⟨e, k⟩ v.ctor) v.kids (c + 1)).2)]))] (r1 rfl) (.eqd ?_) ⟨rfl, rfl⟩ (SubO.get ⟨.inr (by first | (obtain ⟨h1, h2, h3, h4⟩ := hg1; show some (Res.box _) = some (Res.box _); rw [← h2, scanL_end (by simp [Val.cs_len] at *; omega)]) | (obtain ⟨h1, h2, h3, h4⟩ := hg1; show some (Res.box _) = some (Res.box _); rw [← h2, scanL_stop (by simp [Val.cs_len] at *; omega) hlen (by simp_all)])), ⟨.inl rfl, trivial⟩⟩) (boxOK rfl)
            all_goals (refine congrArg D.bool ?_; first | (obtain ⟨h1, h2, h3, h4⟩ := hg1; rw [← h2, scanL_end (by simp [Val.cs_len] at *; omega)]) | (obtain ⟨h1, h2, h3, h4⟩ := hg1; rw [← h2, scanL_stop (by simp [Val.cs_len] at *; omega) hlen (by simp_all)]))
           ·try simp only [Q, Val.cs_len, Ty.eta] at h11p
            refine ar ?_ (by first | (constructor <;> omega) | (constructor <;> simp [Val.cs_len] <;> omega))
            refine Exists.intro ((x.1 + 1, (scanV w n (nth (argsOf w ⟨e, k⟩ v.ctor) x.1) (nth v.kids x.1) x.2).2)) ⟨(by
                  have hz : (scanV w n (nth (argsOf w ⟨e, k⟩ v.ctor) x.1) (nth v.kids x.1) x.2).1 = true := by simp_all
                  have hb := scanV_bd w n _ _ _ hz
                  obtain ⟨h1, h2, h3, h4⟩ := hg1
                  refine ⟨by dsimp only; omega, ?_, by dsimp only; omega, by dsimp only; omega⟩
                  rw [← h2, scanL_next (i := x.1) (by omega) hlen hz]), (by dsimp only; omega), Sub.x (by kernel_rfl) (by kernel_rfl) ⟨⟨_, rfl, (LeA.eqi (by first | rfl | (simp; done) | (dsimp only; omega)))⟩, trivial⟩ (by kernel_rfl) (by kernel_rfl) ⟨(by first | rfl | (simp [getH]; done)), trivial⟩⟩
          ·try simp only [Q, Val.cs_len, Ty.eta] at h10p
           refine rn [(950, some (.box [.d (.i (scanL (scanV w n) (argsOf w ⟨e, k⟩ v.ctor) v.kids (c + 1)).2)]))] (r1 rfl) (.eqd ?_) ⟨rfl, rfl⟩ (SubO.get ⟨.inr (by first | (obtain ⟨h1, h2, h3, h4⟩ := hg1; show some (Res.box _) = some (Res.box _); rw [← h2, scanL_end (by simp [Val.cs_len] at *; omega)]) | (obtain ⟨h1, h2, h3, h4⟩ := hg1; show some (Res.box _) = some (Res.box _); rw [← h2, scanL_stop (by simp [Val.cs_len] at *; omega) hlen (by simp_all)])), ⟨.inl rfl, trivial⟩⟩) (boxOK rfl)
           all_goals (refine congrArg D.bool ?_; first | (obtain ⟨h1, h2, h3, h4⟩ := hg1; rw [← h2, scanL_end (by simp [Val.cs_len] at *; omega)]) | (obtain ⟨h1, h2, h3, h4⟩ := hg1; rw [← h2, scanL_stop (by simp [Val.cs_len] at *; omega) hlen (by simp_all)]))
   ·have hsc : scanV w (n + 1) ⟨e, k⟩ v c = (false, c + 1) := by
     conv => lhs; unfold scanV
     rw [if_neg h60, if_neg hdn, if_pos hv, if_neg hlen]
    rw [hsc]
    refine bd Tryz.f180 108 [] [] fun w0 F0 own kept hk => ?_
    refine Walk.box (id := 3007) .none rfl rfl rfl rfl rfl rfl rfl ?_
    refine Walk.box (id := 3008) .none rfl rfl rfl rfl rfl rfl rfl ?_
    refine ev ?_
    refine ar ?_
    refine Walk.store ty3 .none rfl rfl rfl rfl rfl rfl (by simp) rfl ?_
    refine tv ?_
    refine sq (fun h1 h1p h1s => ?_) fun h1 h1p h1s => ?_
    ·try simp only [Q, Val.cs_len] at h1p
     refine sqT ?_
     exfalso; simp at *; omega --stop
    ·try simp only [Q, Val.cs_len] at h1p
     refine sq (fun h3 h3p h3s => ?_) fun h3 h3p h3s => ?_
     ·try simp only [Q, Val.cs_len] at h3p
      exfalso; simp at *; omega --stop
     ·try simp only [Q, Val.cs_len] at h3p
      refine sqF ?_
      refine sqF ?_
      refine sq (fun h5 h5p h5s => ?_) fun h5 h5p h5s => ?_
      ·try simp only [Q, Val.cs_len] at h5p
       exfalso; simp at * <;> omega --stop
      ·try simp only [Q, Val.cs_len] at h5p
       refine sq (fun h6 h6p h6s => ?_) fun h6 h6p h6s => ?_
       ·try simp only [Q, Val.cs_len] at h6p
        refine dr ?_
        refine sqT ?_
        exfalso; have e1 := hv.1; have e2 := hv.2; simp_all --stop
       ·try simp only [Q, Val.cs_len] at h6p
        refine Walk.call (cr := []) cal170 (impl_ctorsOf_in hw hlt) rfl (.some rfl rfl h6) rfl rfl (LeL.refl _) trivial rfl rfl rfl ?_
        refine evd [] [(67, false)] ?_ ⟨⟨_, rfl, h6⟩, trivial⟩
        refine Walk.call (cr := []) cal169 (slices_Contains_int_fn hcl) rfl (.some rfl rfl h6) rfl rfl (LeL.refl _) trivial rfl rfl rfl ?_
        refine evd [] [(67, false)] ?_ ⟨⟨_, rfl, h6⟩, trivial⟩
        refine dr ?_
        refine sq (fun h8 h8p h8s => ?_) fun h8 h8p h8s => ?_
        ·try simp only [Q, Val.cs_len] at h8p
         exfalso; have e1 := hv.1; have e2 := hv.2; simp_all --stop
        ·try simp only [Q, Val.cs_len] at h8p
         refine Walk.call (cr := []) cal171 (impl_argTypes_in hw hlt (place_of (k := k) (c := v.ctor) hv.2)) rfl .none rfl rfl (LeL.refl _) trivial rfl rfl rfl ?_
         refine ev ?_
         refine sq (fun h9 h9p h9s => ?_) fun h9 h9p h9s => ?_
         ·try simp only [Q, Val.cs_len] at h9p
          refine rn [(950, some (.box [.d (.i (c + 1))]))] (r1 rfl) (.eqd ?_) ⟨rfl, rfl⟩ (SubO.get ⟨.inr (by rfl), ⟨.inl rfl, trivial⟩⟩) (boxOK rfl)
          all_goals (rfl)
         ·try simp only [Q, Val.cs_len] at h9p
          exfalso; simp [Val.cs_len] at h9; omega --stop
  ·have hsc : scanV w (n + 1) ⟨e, k⟩ v c = (false, c + 1) := by
    conv => lhs; unfold scanV
    rw [if_neg h60, if_neg hdn, if_neg hv]
   rw [hsc]
   refine bd Tryz.f180 108 [] [] fun w0 F0 own kept hk => ?_
   refine Walk.box (id := 3007) .none rfl rfl rfl rfl rfl rfl rfl ?_
   refine Walk.box (id := 3008) .none rfl rfl rfl rfl rfl rfl rfl ?_
   refine ev ?_
   refine ar ?_
   refine Walk.store ty3 .none rfl rfl rfl rfl rfl rfl (by simp) rfl ?_
   refine tv ?_
   refine sq (fun h1 h1p h1s => ?_) fun h1 h1p h1s => ?_
   ·try simp only [Q] at h1p
    refine sqT ?_
    exfalso; simp at *; omega --stop
   ·try simp only [Q] at h1p
    refine sq (fun h3 h3p h3s => ?_) fun h3 h3p h3s => ?_
    ·try simp only [Q] at h3p
     exfalso; simp at *; omega --stop
    ·try simp only [Q] at h3p
     refine sqF ?_
     refine sqF ?_
     refine sq (fun h5 h5p h5s => ?_) fun h5 h5p h5s => ?_
     ·try simp only [Q] at h5p
      exfalso; simp at * <;> omega --stop
     ·try simp only [Q] at h5p
      refine sq (fun h6 h6p h6s => ?_) fun h6 h6p h6s => ?_
      ·try simp only [Q] at h6p
       refine dr ?_
       refine sqT ?_
       refine rn [(950, some (.box [.d (.i (c + 1))]))] (r1 rfl) (.eqd ?_) ⟨rfl, rfl⟩ (SubO.get ⟨.inr (by rfl), ⟨.inl rfl, trivial⟩⟩) (boxOK rfl)
       all_goals (rfl)
      ·try simp only [Q] at h6p
       refine Walk.call (cr := []) cal170 (impl_ctorsOf_in hw hlt) rfl (.some rfl rfl h6) rfl rfl (LeL.refl _) trivial rfl rfl rfl ?_
       refine evd [] [(67, false)] ?_ ⟨⟨_, rfl, h6⟩, trivial⟩
       refine Walk.call (cr := []) cal169 (slices_Contains_int_fn hcl) rfl (.some rfl rfl h6) rfl rfl (LeL.refl _) trivial rfl rfl rfl ?_
       refine evd [] [(67, false)] ?_ ⟨⟨_, rfl, h6⟩, trivial⟩
       refine dr ?_
       refine sq (fun h8 h8p h8s => ?_) fun h8 h8p h8s => ?_
       ·try simp only [Q] at h8p
        refine rn [(950, some (.box [.d (.i (c + 1))]))] (r1 rfl) (.eqd ?_) ⟨rfl, rfl⟩ (SubO.get ⟨.inr (by rfl), ⟨.inl rfl, trivial⟩⟩) (boxOK rfl)
        all_goals (rfl)
       ·try simp only [Q] at h8p
        exfalso; simp_all --stop
theorem impl_valueOk_fn {w : List Data} (hw : WT w) {a k : Int} {v : Val} (ht : TyIn w.length ⟨a, k⟩) (hok : v.ok) :
  FnD Tryz.prog 103 [.d (encDatas w), .agg [.d (.i a), .d (.i k)], .agg [.d (.i v.ctor), .d (.i v.num), .d (encVals v.kids)]] [] (.d (.bool (isV w ⟨a, k⟩ v))) [] := by
 have hz := (scanV_eq w 10 ⟨a, k⟩ v 0).1
 rw [Int.zero_add] at hz
 refine bd Tryz.f103 12 [] [] fun w0 F0 own kept hk => ?_
 refine Walk.box (id := 3004) .none rfl rfl rfl rfl rfl rfl rfl ?_
 refine Walk.box (id := 3005) .none rfl rfl rfl rfl rfl rfl rfl ?_
 refine ev ?_
 refine Walk.alloc (id := 950) tz3 rfl .none rfl rfl rfl rfl ?_
 refine Walk.store ty3 .none rfl rfl rfl rfl rfl rfl (by simp) rfl ?_
 refine tv ?_
 refine Walk.call (cr := []) cal180 (impl_valueScan_fn hw 10 (c := 0) (by omega) (by omega) ht hok (by omega) (by omega)) rfl .none rfl rfl (LeL.refl _) ⟨rfl, trivial⟩ rfl rfl rfl ?_
 refine ev ?_
 refine rn0 (r1 rfl) (.eqd ?_)
 all_goals (rw [hz]; rfl)
theorem all2_length {α β : Type} {f : α → β → Bool} {a : List α} {b : List β} (h : all2 f a b = true) : a.length = b.length := by
 by_cases e : a.length = b.length
 ·exact e
 ·rw [all2_len e] at h; exact absurd h (by simp)
theorem from_fits {k : Int} : ∀ (l : List Ctor) (i : Nat) {c : Int}, c ∈ ctorsFrom k i l → ∃ j : Nat, j < l.length ∧ c = ((i + j : Nat) : Int) ∧ fits (nth l j) k = true
 | [], _, _, h => by simp [ctorsFrom] at h
 | x :: r, i, c, h => by
  unfold ctorsFrom at h
  by_cases hf : fits x k = true
  ·rw [if_pos hf] at h
   rcases List.mem_cons.1 h with h | h
   ·exact ⟨0, by simp, by rw [h]; simp, hf⟩
   ·obtain ⟨j, h1, h2, h3⟩ := from_fits r (i + 1) h
    exact ⟨j + 1, by simpa using h1, by rw [h2]; omega, h3⟩
  ·rw [if_neg hf] at h
   obtain ⟨j, h1, h2, h3⟩ := from_fits r (i + 1) h
   exact ⟨j + 1, by simpa using h1, by rw [h2]; omega, h3⟩
theorem from_mem {k : Int} : ∀ (l : List Ctor) (i j : Nat), j < l.length → fits (nth l j) k = true → ((i + j : Nat) : Int) ∈ ctorsFrom k i l
 | [], _, j, h, _ => by simp at h
 | x :: r, i, 0, _, hf => by
  have hf' : fits x k = true := hf
  unfold ctorsFrom; rw [if_pos hf']; simp
 | x :: r, i, j + 1, h, hf => by
  have := from_mem r (i + 1) j (by simpa using h) hf
  rw [show i + (j + 1) = i + 1 + j by omega]
  unfold ctorsFrom
  split
  ·exact List.mem_cons_of_mem _ this
  ·exact this
theorem ctors_own {w : List Data} {a k c : Int} (h : c ∈ ctorsOf w ⟨a, k⟩) : c ∈ ctorsOf w ⟨a, (nth (nth w a.toNat).ctors c.toNat).index⟩ ∧
  (k = 0 ∨ (nth (nth w a.toNat).ctors c.toNat).index = 0 ∨ (nth (nth w a.toNat).ctors c.toNat).index = k) ∧ c.toNat < (nth w a.toNat).ctors.length := by
 unfold ctorsOf at h
 obtain ⟨j, h1, h2, h3⟩ := from_fits _ _ h
 have e : c.toNat = j := by omega
 dsimp only at h1 h3
 rw [e]
 refine ⟨?_, ?_, h1⟩
 ·unfold ctorsOf
  rw [h2]
  exact from_mem _ 0 j h1 (by simp [fits])
 ·simpa [fits] using h3
structure Bd where
 var : Int
 val : Val
def Bd.c (b : Bd) : List D := [.i b.var, .i b.val.ctor, .i b.val.num, encVals b.val.kids]
abbrev encBds (l : List Bd) : D := .sl (l.map Bd.c)
instance : Inhabited Bd := ⟨⟨0, default⟩⟩
def matchL (f : Pat → Val → List Bd × Bool) : List Pat → List Val → List Bd → List Bd × Bool
 | p :: r, v :: s, acc => if (f p v).2 = true then matchL f r s (acc ++ (f p v).1) else ([], false)
 | _, _, acc => (acc, true)
def matchV : Nat → Pat → Val → List Bd × Bool
 | 0, _, _ => ([], false)
 | n + 1, p, v =>
  if p.op = 1 then ([], true)
  else if p.op = 2 then ([⟨p.var, v⟩], true)
  else if p.op = 3 then ([], within v.num p.n p.m)
  else if p.op = 5 then (if (matchV n (nth p.kids 0) v).2 = true then ((matchV n (nth p.kids 0) v).1, true) else matchV n (nth p.kids 1) v)
  else if p.op = 6 then (⟨p.var, v⟩ :: (matchV n (nth p.kids 0) v).1, (matchV n (nth p.kids 0) v).2)
  else if p.ctor = v.ctor then matchL (matchV n) p.kids v.kids [] else ([], false)
section
variable {n : Nat} {p : Pat} {v : Val}
theorem match_1 (h : p.op = 1) : matchV (n + 1) p v = ([], true) := by unfold matchV; rw [if_pos h]
theorem match_2 (h : p.op = 2) : matchV (n + 1) p v = ([⟨p.var, v⟩], true) := by unfold matchV; rw [if_neg (by omega), if_pos h]
theorem match_3 (h : p.op = 3) : matchV (n + 1) p v = ([], within v.num p.n p.m) := by unfold matchV; rw [if_neg (by omega), if_neg (by omega), if_pos h]
theorem match_5a (h : p.op = 5) (h2 : (matchV n (nth p.kids 0) v).2 = true) : matchV (n + 1) p v = ((matchV n (nth p.kids 0) v).1, true) := by
 conv => lhs; unfold matchV
 rw [if_neg (by omega), if_neg (by omega), if_neg (by omega), if_pos h, if_pos h2]
theorem match_5b (h : p.op = 5) (h2 : (matchV n (nth p.kids 0) v).2 = false) : matchV (n + 1) p v = matchV n (nth p.kids 1) v := by
 conv => lhs; unfold matchV
 rw [if_neg (by omega), if_neg (by omega), if_neg (by omega), if_pos h, if_neg (by rw [h2]; simp)]
theorem match_6 (h : p.op = 6) : matchV (n + 1) p v = (⟨p.var, v⟩ :: (matchV n (nth p.kids 0) v).1, (matchV n (nth p.kids 0) v).2) := by
 conv => lhs; unfold matchV
 rw [if_neg (by omega), if_neg (by omega), if_neg (by omega), if_neg (by omega), if_pos h]
theorem match_4 (h : p.op = 4) (h2 : p.ctor = v.ctor) : matchV (n + 1) p v = matchL (matchV n) p.kids v.kids [] := by
 conv => lhs; unfold matchV
 rw [if_neg (by omega), if_neg (by omega), if_neg (by omega), if_neg (by omega), if_neg (by omega), if_pos h2]
theorem match_4n (h : p.op = 4) (h2 : ¬ p.ctor = v.ctor) : matchV (n + 1) p v = ([], false) := by
 conv => lhs; unfold matchV
 rw [if_neg (by omega), if_neg (by omega), if_neg (by omega), if_neg (by omega), if_neg (by omega), if_neg h2]
end
theorem matchL_all {f : Pat → Val → List Bd × Bool} : ∀ {a : List Pat} {b : List Val} {acc : List Bd}, (matchL f a b acc).2 = true → ∀ i, i < a.length → i < b.length → (f (nth a i) (nth b i)).2 = true
 | [], _, _, _, i, h, _ => by simp at h
 | _ :: _, [], _, _, i, _, h => by simp at h
 | p :: r, v :: s, acc, h, i, h1, h2 => by
  unfold matchL at h
  split at h
  ·rename_i hp
   cases i with
   | zero => exact hp
   | succ i => exact matchL_all h i (by simpa using h1) (by simpa using h2)
  ·exact absurd h (by simp)
theorem matchL_next {f : Pat → Val → List Bd × Bool} {a : List Pat} {b : List Val} {acc : List Bd} {i : Nat} (h1 : i < a.length) (h2 : i < b.length) (h : (f (nth a i) (nth b i)).2 = true) :
  matchL f (a.drop i) (b.drop i) acc = matchL f (a.drop (i + 1)) (b.drop (i + 1)) (acc ++ (f (nth a i) (nth b i)).1) := by
 rw [drop_nth h1, drop_nth h2]
 conv => lhs; unfold matchL
 rw [if_pos h]
theorem matchL_bad {f : Pat → Val → List Bd × Bool} {a : List Pat} {b : List Val} {acc : List Bd} {i : Nat} (h1 : i < a.length) (h2 : i < b.length) (h : (f (nth a i) (nth b i)).2 = false) :
  matchL f (a.drop i) (b.drop i) acc = ([], false) := by
 rw [drop_nth h1, drop_nth h2]
 conv => lhs; unfold matchL
 rw [if_neg (by rw [h]; simp)]
theorem matchL_end {f : Pat → Val → List Bd × Bool} {a : List Pat} {b : List Val} {acc : List Bd} {i : Nat} (h1 : a.length ≤ i) : matchL f (a.drop i) (b.drop i) acc = (acc, true) := by
 rw [List.drop_eq_nil_of_le h1]; cases b.drop i <;> rfl
def BdOk (m : Nat) (l : List Bd) : Prop := ∀ x ∈ l, x.val.ok ∧ x.val.size ≤ m
theorem BdOk.app {m : Nat} {a b : List Bd} (h1 : BdOk m a) (h2 : BdOk m b) : BdOk m (a ++ b) := fun x hx => by
 rcases List.mem_append.1 hx with h | h
 ·exact h1 x h
 ·exact h2 x h
theorem BdOk.mono {m k : Nat} {a : List Bd} (h : BdOk m a) (hk : m ≤ k) : BdOk k a := fun x hx => ⟨(h x hx).1, Nat.le_trans (h x hx).2 hk⟩
theorem matchL_ok {f : Pat → Val → List Bd × Bool} {m : Nat} : ∀ {a : List Pat} {b : List Val} {acc : List Bd} {k : Nat}, (∀ p ∈ a, ∀ v ∈ b, BdOk m (f p v).1 ∧ (f p v).1.length ≤ p.size) → BdOk m acc → acc.length ≤ k → BdOk m (matchL f a b acc).1 ∧ (matchL f a b acc).1.length ≤ k + Pats.size a
 | [], b, acc, k, _, h2, h3 => by cases b <;> exact ⟨h2, by simp only [matchL, Pats.size]; omega⟩
 | _ :: _, [], acc, k, _, h2, h3 => ⟨h2, by simp only [matchL]; omega⟩
 | p :: r, v :: s, acc, k, h1, h2, h3 => by
  unfold matchL
  split
  ·have h4 := h1 p (by simp) v (by simp)
   have := matchL_ok (f := f) (a := r) (b := s) (acc := acc ++ (f p v).1) (k := k + p.size) (fun q hq u hu => h1 q (by simp [hq]) u (by simp [hu])) (h2.app h4.1) (by rw [List.length_append]; omega)
   refine ⟨this.1, ?_⟩
   simp only [Pats.size]; omega
  ·exact ⟨fun x hx => by simp at hx, by simp⟩
theorem types5 {w : List Data} {t : Ty} {p : Pat} (h : p.op = 5) : typesP w t p = [t, t] := by unfold typesP; rw [if_neg (by omega), if_pos h]
theorem types6 {w : List Data} {t : Ty} {p : Pat} (h : p.op = 6) : typesP w t p = [t] := by unfold typesP; rw [if_neg (by omega), if_neg (by omega), if_pos h]
theorem types4 {w : List Data} {t : Ty} {p : Pat} (h : p.op = 4) : typesP w t p = argsOf w t p.ctor := by unfold typesP; rw [if_pos h]
theorem shape_op {w : List Data} {n : Nat} {t : Ty} {p : Pat} (h : shapeP w (n + 1) t p = true) : p.op = 1 ∨ p.op = 2 ∨ p.op = 3 ∨ p.op = 4 ∨ p.op = 5 ∨ p.op = 6 := by
 have h1 := (shapeP_own h).1
 unfold ownP at h1
 have h2 := (of_decide_eq_true h1).2.2.2.2
 omega
theorem shape_two {w : List Data} {n : Nat} {t : Ty} {p : Pat} (h : shapeP w (n + 1) t p = true) (h5 : p.op = 5) : p.kids.length = 2 ∧ shapeP w n t (nth p.kids 0) = true ∧ shapeP w n t (nth p.kids 1) = true := by
 have hl := (shapeP_own h).2
 have h0 := fun i hi => shapeP_kid h (i := i) hi
 rw [types5 h5] at hl h0
 have hl' : p.kids.length = 2 := hl
 exact ⟨hl', h0 0 (by omega), h0 1 (by omega)⟩
theorem shape_one {w : List Data} {n : Nat} {t : Ty} {p : Pat} (h : shapeP w (n + 1) t p = true) (h6 : p.op = 6) : p.kids.length = 1 ∧ shapeP w n t (nth p.kids 0) = true := by
 have hl := (shapeP_own h).2
 have h0 := fun i hi => shapeP_kid h (i := i) hi
 rw [types6 h6] at hl h0
 have hl' : p.kids.length = 1 := hl
 exact ⟨hl', h0 0 (by omega)⟩
theorem matchV_ok {w : List Data} : ∀ (n : Nat) {t : Ty} {p : Pat} {v : Val}, shapeP w n t p = true → v.ok → BdOk v.size (matchV n p v).1 ∧ (matchV n p v).1.length ≤ p.size
 | 0, t, p, v, h, _ => by simp [shapeP] at h
 | n + 1, t, p, v, h, hv => by
  have hs := Pat.size_eq p
  have hsv := Val.size_eq v
  have hv' := hv
  rw [Val.ok_iff] at hv'
  have one : BdOk v.size [⟨p.var, v⟩] := fun x hx => by simp only [List.mem_singleton] at hx; subst hx; exact ⟨hv, Nat.le_refl _⟩
  have nil : BdOk v.size [] := fun x hx => by simp at hx
  by_cases h1 : p.op = 1
  ·rw [match_1 h1]; exact ⟨nil, by simp⟩
  by_cases h2 : p.op = 2
  ·rw [match_2 h2]; exact ⟨one, by simp only [List.length_singleton]; omega⟩
  by_cases h3 : p.op = 3
  ·rw [match_3 h3]; exact ⟨nil, by simp⟩
  by_cases h5 : p.op = 5
  ·obtain ⟨hl, s0, s1⟩ := shape_two h h5
   have k0 := matchV_ok n s0 hv
   have k1 := matchV_ok n s1 hv
   have z0 := pnth_size (l := p.kids) (i := 0) (by omega)
   have z1 := pnth_size (l := p.kids) (i := 1) (by omega)
   cases hm : (matchV n (nth p.kids 0) v).2 with
   | true => rw [match_5a h5 hm]; exact ⟨k0.1, by have := k0.2; dsimp only; omega⟩
   | false => rw [match_5b h5 hm]; exact ⟨k1.1, by have := k1.2; omega⟩
  by_cases h6 : p.op = 6
  ·obtain ⟨hl, s0⟩ := shape_one h h6
   have k0 := matchV_ok n s0 hv
   have z0 := pnth_size (l := p.kids) (i := 0) (by omega)
   rw [match_6 h6]
   exact ⟨one.app k0.1, by have := k0.2; simp only [List.length_cons]; omega⟩
  have h4 : p.op = 4 := by have := shape_op h; omega
  by_cases hc : p.ctor = v.ctor
  ·rw [match_4 h4 hc]
   have := matchL_ok (f := matchV n) (m := v.size) (a := p.kids) (b := v.kids) (acc := []) (k := 0) (fun q hq u hu => by
    obtain ⟨i, hi, rfl⟩ := List.getElem_of_mem hq
    have e : p.kids[i] = nth p.kids i := by simp [nth, List.getD, hi]
    have := matchV_ok n (v := u) (shapeP_kid h hi) (Vals.ok_mem hv'.2 u hu)
    rw [e]
    exact ⟨this.1.mono (by have := Vals.size_mem hu; omega), this.2⟩) nil (by simp)
   exact ⟨this.1, by have := this.2; omega⟩
  ·rw [match_4n h4 hc]; exact ⟨nil, by simp⟩
theorem fits_hd {w : List Data} : ∀ (m : Nat) {t : Ty} {v : Val}, fitsV w m t v = true → Hd w m t
 | 0, _, _, h => by simp [fitsV] at h
 | m + 1, t, v, h => by
  by_cases hd : t.data = -1
  ·exact .inl hd
  ·unfold fitsV at h
   rw [if_neg hd] at h
   split at h
   ·rename_i hc
    have hl := all2_length h
    refine .inr ⟨v.ctor, hc.2, hd, fun u hu => ?_⟩
    obtain ⟨i, hi, rfl⟩ := List.getElem_of_mem hu
    have := all2_mem hl h i hi
    have e : (argsOf w t v.ctor)[i] = nth (argsOf w t v.ctor) i := by simp [nth, List.getD, hi]
    rw [e]
    exact fits_hd m this
   ·exact absurd h (by simp)
theorem fits_dv {w : List Data} (hd : Dp w) {m : Nat} {t : Ty} {v : Val} (ht : InS (w.length * 4) t) (h : fitsV w m t v = true) : 0 < dv (depthT w) t := by
 have a : Snd w (depthT w) ∧ Cmp w (w.length * 4 + 1) (depthT w) := iter_all hd.cl (w.length * 4 + 1)
 have h1 := fits_hd m h
 rcases ht with ht | ht
 ·unfold dv; rw [if_pos ht]; omega
 ·refine (dv_cmp (k := w.length * 4 + 1) a.2 (.inr ht) ?_).1
  have := ht.2
  rw [← this] at h1 ⊢
  exact hd_fix hd.cl ht.1 h1
theorem fits_ctor {w : List Data} {m : Nat} {t : Ty} {v : Val} (h : fitsV w (m + 1) t v = true) (hd : t.data ≠ -1) : v.ctor ∈ vctors w t ∧ (argsOf w t v.ctor).length = v.kids.length ∧ ∀ i, i < v.kids.length → fitsV w m (nth (argsOf w t v.ctor) i) (nth v.kids i) = true := by
 unfold fitsV at h
 rw [if_neg hd] at h
 split at h
 ·rename_i hc
  have hl := all2_length h
  exact ⟨by unfold vctors; rw [if_neg hd]; exact hc.2, hl, fun i hi => all2_mem hl h i (by omega)⟩
 ·exact absurd h (by simp)
theorem match_some {w : List Data} (hd : Dp w) : ∀ (n m : Nat) {u t : Ty} {p : Pat} {v : Val}, shapeP w n t p = true → LeT u t → InS (w.length * 4) u → InS (w.length * 4) t → fitsV w m u v = true → (matchV n p v).2 = true → someP w (depthT w) n u p = true
 | 0, m, u, t, p, v, h, _, _, _, _, _ => by simp [shapeP] at h
 | n + 1, m, u, t, p, v, h, hl, hu, ht, hf, hm => by
  rw [someP_succ]
  by_cases h12 : p.op = 1 ∨ p.op = 2
  ·rw [if_pos h12]; exact decide_eq_true (fits_dv hd hu hf)
  rw [if_neg h12]
  by_cases h3 : p.op = 3
  ·rw [if_pos h3]
  rw [if_neg h3]
  by_cases h5 : p.op = 5
  ·obtain ⟨_, s0, s1⟩ := shape_two h h5
   rw [if_pos h5]
   cases hm0 : (matchV n (nth p.kids 0) v).2 with
   | true => rw [match_some hd n m s0 hl hu ht hf hm0]; rfl
   | false =>
    rw [match_5b h5 hm0] at hm
    rw [match_some hd n m s1 hl hu ht hf hm, Bool.or_true]
  rw [if_neg h5]
  by_cases h6 : p.op = 6
  ·obtain ⟨_, s0⟩ := shape_one h h6
   rw [if_pos h6]
   rw [match_6 h6] at hm
   exact match_some hd n m s0 hl hu ht hf hm
  rw [if_neg h6]
  have h4 : p.op = 4 := by have := shape_op h; omega
  by_cases hc : p.ctor = v.ctor
  ·rw [match_4 h4 hc] at hm
   obtain ⟨ho, hlen⟩ := shapeP_own h
   have hct := ownP_mem ho h4
   have hdt : t.data ≠ -1 := fun e => by unfold vctors at hct; rw [if_pos e] at hct; simp at hct
   have hdu : u.data ≠ -1 := by rw [hl.1]; exact hdt
   cases m with
   | zero => simp [fitsV] at hf
   | succ m =>
    obtain ⟨f1, f2, f3⟩ := fits_ctor hf hdu
    rw [← hc] at f1 f2 f3
    obtain ⟨e, g⟩ := args_le (w := w) hl (c := p.ctor)
    have hk := fun i (hi : i < p.kids.length) => shapeP_kid h hi
    rw [types4 h4] at hlen hk
    rw [decide_eq_true f1, Bool.true_and]
    refine all2_nth_true (by omega) (fun i hi => ?_)
    exact match_some hd n m (hk i (by omega)) (g i (by omega)) (args_ins hd hu f1 _ (nth_mem (by omega))) (args_ins hd ht hct _ (nth_mem (by omega))) (f3 i (by omega)) (matchL_all hm i (by omega) (by omega))
  ·rw [match_4n h4 hc] at hm; exact absurd hm (by simp)
theorem root_fits {w : List Data} : ∀ (n m : Nat) {a k : Int} {p : Pat} {v : Val}, shapeP w n ⟨a, k⟩ p = true → rootP w n ⟨a, k⟩ p = true → (matchV n p v).2 = true → fitsV w m ⟨a, k⟩ v = true →
  ∃ c : Int, c ∈ vctors w ⟨a, k⟩ ∧ 0 < (nth (nth w a.toNat).ctors c.toNat).index ∧ fitsV w m ⟨a, (nth (nth w a.toNat).ctors c.toNat).index⟩ v = true
 | 0, m, a, k, p, v, h, _, _, _ => by simp [shapeP] at h
 | n + 1, m, a, k, p, v, h, hr, hm, hf => by
  rw [rootP_succ] at hr
  by_cases h6 : p.op = 6
  ·rw [if_pos h6] at hr
   rw [match_6 h6] at hm
   exact root_fits n m (shape_one h h6).2 hr hm hf
  rw [if_neg h6] at hr
  by_cases h5 : p.op = 5
  ·rw [if_pos h5, Bool.and_eq_true] at hr
   obtain ⟨_, s0, s1⟩ := shape_two h h5
   cases hm0 : (matchV n (nth p.kids 0) v).2 with
   | true => exact root_fits n m s0 hr.1 hm0 hf
   | false =>
    rw [match_5b h5 hm0] at hm
    exact root_fits n m s1 hr.2 hm hf
  rw [if_neg h5] at hr
  by_cases h4 : p.op = 4
  ·rw [if_pos h4] at hr
   have hix := of_decide_eq_true hr
   have hct := ownP_mem (shapeP_own h).1 h4
   have hda : a ≠ -1 := fun e => by unfold vctors at hct; rw [if_pos e] at hct; simp at hct
   by_cases hc : p.ctor = v.ctor
   ·refine ⟨p.ctor, hct, hix, ?_⟩
    cases m with
    | zero => simp [fitsV] at hf
    | succ m =>
     unfold fitsV at hf ⊢
     dsimp only at hf hix ⊢
     rw [if_neg hda] at hf ⊢
     split at hf
     ·rename_i hv
      rw [hc] at hix ⊢
      have e : argsOf w ⟨a, (nth (nth w a.toNat).ctors v.ctor.toNat).index⟩ v.ctor = argsOf w ⟨a, k⟩ v.ctor := by
       unfold argsOf resIx; dsimp only
       rw [if_neg (by omega), if_neg (by omega)]
      rw [if_pos ⟨hv.1, (ctors_own hv.2).1⟩, e]
      exact hf
     ·exact absurd hf (by simp)
   ·rw [match_4n h4 hc] at hm; exact absurd hm (by simp)
  ·rw [if_neg h4] at hr; exact absurd hr (by simp)
theorem idxTo_has {w : List Data} {a k : Int} {p : Pat} {j : Nat} (h1 : 1 ≤ j) (h : ixOk w a k p j = true) : ∀ m, j ≤ m → (j : Int) ∈ idxTo w a k p m
 | 0, hm => by omega
 | m + 1, hm => by
  simp only [idxTo]
  by_cases hj : j = m + 1
  ·rw [← hj, if_pos h]; simp
  ·exact List.mem_append_left _ (idxTo_has h1 h m (by omega))
theorem index_match {w : List Data} (hs : WSmall w) {a k : Int} {p : Pat} {v : Val} {j : Nat} (hv : patValid w a k p = true) (ha : a ≠ -1) (h1 : 1 ≤ j) (h3 : j ≤ 3) (hk : k = 0 ∨ k = (j : Int)) (hm : (matchV 10 p v).2 = true)
  (hf : fitsV w 10 ⟨a, (j : Int)⟩ v = true) : (j : Int) ∈ indicesV w a k p := by
 have pv := pval hs hv
 obtain ⟨r1, r2, r3, r4⟩ := pv.rng ha
 unfold indicesV
 rw [if_pos ⟨hv, ha⟩]
 refine idxTo_has h1 ?_ 3 h3
 unfold ixOk
 rw [decide_eq_true hk, Bool.true_and]
 obtain ⟨d, rfl⟩ := Int.eq_ofNat_of_zero_le r1
 obtain ⟨q, rfl⟩ := Int.eq_ofNat_of_zero_le r3
 exact match_some pv.dp 10 10 (u := ⟨(d : Int), (j : Int)⟩) pv.shape ⟨rfl, by simp only; omega⟩ (ins_of (by omega) (by omega)) (ins_of (by omega) (by omega)) hf hm
def valValid (w : List Data) (a k : Int) (v : Val) : Bool := typeValid w ⟨a, k⟩ && isV w ⟨a, k⟩ v
theorem narrow_law {w : List Data} (hs : WSmall w) {a k : Int} {p : Pat} (h : (narrowV w a k p).2 = true) : (narrowV w a k p).1.data = a ∧ 0 < (narrowV w a k p).1.index ∧ typeValid w (narrowV w a k p).1 = true ∧ typeValid w ⟨a, 0⟩ = true ∧ patValid w a k p = true ∧
  ∀ v : Val, (matchV 10 p v).2 = true → isV w ⟨a, k⟩ v = true → valValid w a (narrowV w a k p).1.index v = true := by
 unfold narrowV at h ⊢
 split at h
 ·rename_i hn
  rw [if_pos hn]
  obtain ⟨hp, ha⟩ := indices_one hn.1
  have pv := pval hs hp
  obtain ⟨r1, r2, r3, r4⟩ := pv.rng ha
  have hw : worldValid w = true := by
   have := hp; unfold patValid typeValid at this; simp only [Bool.and_eq_true] at this; exact this.1.1
  have hix := indices_less hs (a := a) (k := k) (p := p) (fun e => by rw [e] at hn; simp at hn)
  obtain ⟨i1, i2, -, -⟩ := hix.2.2 0 (by omega)
  have tv : ∀ q : Int, 0 ≤ q → q ≤ 3 → typeValid w ⟨a, q⟩ = true := fun q h0 h3 => by
   unfold typeValid typeOk within
   simp only [hw, Bool.true_and, Bool.or_eq_true, Bool.and_eq_true, decide_eq_true_eq]
   omega
  refine ⟨rfl, by dsimp only; omega, tv _ (by omega) (by omega), tv 0 (by omega) (by omega), hp, fun v hm hv => ?_⟩
  dsimp only
  unfold isV at hv
  rw [Bool.and_eq_true] at hv
  obtain ⟨c, hc, hpos, hf⟩ := root_fits 10 10 pv.shape hn.2 hm hv.1
  have hco := ctors_own (vctors_of hc)
  have hW := (worldValid_iff w).1 hw
  have hcw := hW.ctor _ (nth_mem r2) _ (nth_mem hco.2.2)
  simp only [ctorOk, within, Bool.and_eq_true, decide_eq_true_eq] at hcw
  generalize (nth (nth w a.toNat).ctors c.toNat).index = ci at *
  obtain ⟨j, rfl⟩ := Int.eq_ofNat_of_zero_le (show 0 ≤ ci by omega)
  have hmem := index_match hs hp ha (by omega) (by omega) (by omega) hm hf
  have e1 : indicesV w a k p = [nth (indicesV w a k p) 0] := by
   match hL : indicesV w a k p, hn.1 with
   | [x], _ => rfl
  rw [e1, List.mem_singleton] at hmem
  rw [← hmem]
  unfold valValid isV
  rw [tv _ (by omega) (by omega), hf, hv.2]; rfl
 ·exact absurd h (by simp)
end Go.Proofs.YtdgknigklgnefaaGreat
namespace Go.Proofs.YtdgknigklgnefaaGreat
open Go
set_option linter.unusedSimpArgs false
set_option linter.unusedVariables false
def prodL (ls : List (List Val)) : List (List Val) := ls.foldl (fun acc l => acc.flatMap fun o => l.map fun y => o ++ [y]) [[]]
def digits : List Val := (List.range 10).map fun (n : Nat) => Val.mk (-1) n []
def fullV (w : List Data) : Nat → Ty → List Val
 | 0, _ => []
 | n + 1, t => if t.data = -1 then digits else (ctorsOf w t).flatMap fun c => (prodL ((argsOf w t c).map (fullV w n))).map (Val.mk c 0)
def prodN : List Nat → Nat
 | [] => 1
 | a :: r => a * prodN r
theorem step_len (acc : List (List Val)) (l : List Val) : (acc.flatMap fun o => l.map fun y => o ++ [y]).length = acc.length * l.length := by
 induction acc with
 | nil => simp
 | cons a r ih => simp only [List.flatMap_cons, List.length_append, List.length_map, ih, List.length_cons, Nat.add_mul]; omega
theorem foldl_len (ls : List (List Val)) : ∀ acc : List (List Val), (ls.foldl (fun acc l => acc.flatMap fun o => l.map fun y => o ++ [y]) acc).length = acc.length * prodN (ls.map List.length) := by
 induction ls with
 | nil => intro acc; simp [prodN]
 | cons l r ih => intro acc; simp only [List.foldl_cons, ih, step_len, List.map_cons, prodN, Nat.mul_assoc]
theorem prodL_len (ls : List (List Val)) : (prodL ls).length = prodN (ls.map List.length) := by unfold prodL; rw [foldl_len]; simp
theorem prodN_append (a b : List Nat) : prodN (a ++ b) = prodN a * prodN b := by
 induction a with
 | nil => simp [prodN]
 | cons x r ih => simp only [List.cons_append, prodN, ih, Nat.mul_assoc]
theorem prodN_zero {l : List Nat} (h : 0 ∈ l) : prodN l = 0 := by
 induction l with
 | nil => simp at h
 | cons x r ih =>
  rcases List.mem_cons.1 h with h | h
  ·simp [prodN, ← h]
  ·simp [prodN, ih h]
theorem prodN_pos {l : List Nat} (h : ∀ x, x ∈ l → 0 < x) : 0 < prodN l := by
 induction l with
 | nil => simp [prodN]
 | cons x r ih => exact Nat.mul_pos (h x (by simp)) (ih (fun y hy => h y (List.mem_cons_of_mem _ hy)))
def capN (n : Nat) : Nat := if 401 < n then 401 else n
theorem capN_mul (a b : Nat) : capN (capN a * capN b) = capN (a * b) := by
 have key : ∀ x y : Nat, 401 < x → capN (401 * capN y) = capN (x * y) := fun x y hx => by
  rcases Nat.eq_zero_or_pos y with h | h
  ·subst h; simp [capN]
  ·have h1 : 401 * 1 ≤ x * y := Nat.mul_le_mul (by omega) h
   have h2 : 1 ≤ capN y := by unfold capN; split <;> omega
   have h3 : 401 * 1 ≤ 401 * capN y := Nat.mul_le_mul_left _ h2
   have e1 : capN (401 * capN y) = 401 := by
    generalize capN y = z at *
    unfold capN
    split
    ·rfl
    ·rename_i h4; omega
   have e2 : capN (x * y) = 401 := by
    unfold capN
    split
    ·rfl
    ·rename_i h4; omega
   rw [e1, e2]
 by_cases ha : 401 < a
 ·have : capN a = 401 := by simp [capN, ha]
  rw [this]; exact key a b ha
 ·have e1 : capN a = a := by simp [capN, ha]
  by_cases hb : 401 < b
  ·have : capN b = 401 := by simp [capN, hb]
   rw [this, e1, Nat.mul_comm, Nat.mul_comm a b]
   have := key b a hb
   rw [e1] at this
   exact this
  ·have e2 : capN b = b := by simp [capN, hb]
   rw [e1, e2]
theorem capN_or (a : Nat) : (401 < a ∧ capN a = 401) ∨ (a ≤ 401 ∧ capN a = a) := by unfold capN; split <;> omega
theorem capN_add (a b : Nat) : capN (capN a + capN b) = capN (a + b) := by
 have h1 := capN_or a
 have h2 := capN_or b
 have h3 := capN_or (a + b)
 have h4 := capN_or (capN a + capN b)
 omega
theorem cap_nat (n : Nat) : cap (n : Int) = (capN n : Int) := by unfold cap capN; split <;> split <;> omega
theorem countArgs_eq {f : Ty → Int} {g : Ty → Nat} (h : ∀ t, f t = (capN (g t) : Int)) (l : List Ty) : countArgs f l = (capN (prodN (l.map g)) : Int) := by
 have key : ∀ (l : List Ty) (m : Nat), l.foldl (fun n a => cap (n * f a)) (capN m : Int) = (capN (m * prodN (l.map g)) : Int) := by
  intro l
  induction l with
  | nil => intro m; simp [prodN]
  | cons a r ih =>
   intro m
   simp only [List.foldl_cons, List.map_cons, prodN]
   rw [h a]
   have : cap ((capN m : Int) * (capN (g a) : Int)) = (capN (m * g a) : Int) := by
    rw [← Int.natCast_mul, cap_nat, capN_mul]
   rw [this, ih, Nat.mul_assoc]
 have := key l 1
 simpa [countArgs, capN] using this
theorem countSum_eq {f : Int → Int} {g : Int → Nat} (h : ∀ c, f c = (capN (g c) : Int)) (l : List Int) : countSum f l = (capN ((l.map g).sum) : Int) := by
 have key : ∀ (l : List Int) (m : Nat), l.foldl (fun s c => cap (s + f c)) (capN m : Int) = (capN (m + (l.map g).sum) : Int) := by
  intro l
  induction l with
  | nil => intro m; simp
  | cons a r ih =>
   intro m
   simp only [List.foldl_cons, List.map_cons, List.sum_cons]
   rw [h a]
   have : cap ((capN m : Int) + (capN (g a) : Int)) = (capN (m + g a) : Int) := by
    rw [← Int.natCast_add, cap_nat, capN_add]
   rw [this, ih, Nat.add_assoc]
 have := key l 0
 simpa [countSum, capN] using this
theorem flatMap_len {α β : Type} (f : α → List β) (l : List α) : (l.flatMap f).length = (l.map fun a => (f a).length).sum := by
 induction l with
 | nil => rfl
 | cons a r ih => simp [ih]
theorem countV_eq (w : List Data) : ∀ (n : Nat) (t : Ty), countV w n t = (capN (fullV w n t).length : Int)
 | 0, t => by simp [countV, fullV, capN]
 | n + 1, t => by
  unfold countV fullV
  split
  ·simp [digits, capN]
  ·rw [countSum_eq (g := fun c => ((prodL ((argsOf w t c).map (fullV w n))).map (Val.mk c 0)).length) (fun c => ?_), flatMap_len]
   rw [countArgs_eq (g := fun t => (fullV w n t).length) (fun t => countV_eq w n t), List.length_map, prodL_len, List.map_map]
   rfl
theorem len_of_count {w : List Data} {n : Nat} {t : Ty} (h : countV w n t ≤ 400) : ((fullV w n t).length : Int) = countV w n t := by
 rw [countV_eq] at h ⊢
 unfold capN at *
 split at h
 ·omega
 ·rename_i h1; simp [h1]
theorem count_zero {w : List Data} {n : Nat} {t : Ty} : countV w n t = 0 ↔ fullV w n t = [] := by
 rw [countV_eq, ← List.length_eq_zero_iff]
 unfold capN
 split <;> omega
theorem prod_none {w : List Data} {n : Nat} {l : List Ty} (h : (l.any fun a => decide (countV w n a = 0)) = true) : prodL (l.map (fullV w n)) = [] := by
 rw [← List.length_eq_zero_iff, prodL_len]
 obtain ⟨a, ha, h0⟩ := List.any_eq_true.1 h
 refine prodN_zero ?_
 simp only [List.map_map, List.mem_map]
 refine ⟨a, ha, ?_⟩
 have := count_zero.1 (of_decide_eq_true h0)
 simp [this]
theorem part_len {w : List Data} {n : Nat} {t : Ty} (ht : t.data ≠ -1) (hc : countV w (n + 1) t ≤ 400) {c : Int} (hm : c ∈ ctorsOf w t) {pre rest : List Ty} {y : Ty} (he : pre ++ y :: rest = argsOf w t c)
  (h0 : ((argsOf w t c).any fun a => decide (countV w n a = 0)) = false) : (prodL ((pre ++ [y]).map (fullV w n))).length ≤ 400 ∧ (fullV w n y).length ≤ 400 ∧ (prodL (pre.map (fullV w n))).length ≤ 400 := by
 have h1 := len_of_count hc
 have h2 : (prodL ((argsOf w t c).map (fullV w n))).length ≤ (fullV w (n + 1) t).length := by
  have e : fullV w (n + 1) t = (ctorsOf w t).flatMap fun c => (prodL ((argsOf w t c).map (fullV w n))).map (Val.mk c 0) := by rw [fullV, if_neg ht]
  obtain ⟨l1, l2, hl⟩ := List.append_of_mem hm
  rw [e, hl]
  simp
  omega
 have hpos : ∀ a, a ∈ argsOf w t c → 0 < (fullV w n a).length := fun a ha => by
  have := (List.any_eq_false.1 h0) a ha
  simp only [decide_eq_true_eq] at this
  have h3 : fullV w n a ≠ [] := fun h => this (count_zero.2 h)
  exact List.length_pos_iff.2 h3
 have h3 : (prodL ((argsOf w t c).map (fullV w n))).length = prodN ((pre.map fun a => (fullV w n a).length)) * ((fullV w n y).length * prodN (rest.map fun a => (fullV w n a).length)) := by
  rw [prodL_len, ← he]
  simp only [List.map_append, List.map_cons, List.map_map, prodN_append, prodN]
  rfl
 have h4 : (prodL ((pre ++ [y]).map (fullV w n))).length = prodN (pre.map fun a => (fullV w n a).length) * (fullV w n y).length := by
  rw [prodL_len]
  simp only [List.map_append, List.map_cons, List.map_nil, List.map_map, prodN_append, prodN, Nat.mul_one]
  rfl
 have p1 : 0 < prodN (rest.map fun a => (fullV w n a).length) := prodN_pos (fun x hx => by
  obtain ⟨a, ha, rfl⟩ := List.mem_map.1 hx
  exact hpos a (by rw [← he]; simp [ha]))
 have p2 : 0 < prodN (pre.map fun a => (fullV w n a).length) := prodN_pos (fun x hx => by
  obtain ⟨a, ha, rfl⟩ := List.mem_map.1 hx
  exact hpos a (by rw [← he]; simp [ha]))
 have h5 : prodN (pre.map fun a => (fullV w n a).length) * (fullV w n y).length ≤ prodN ((pre.map fun a => (fullV w n a).length)) * ((fullV w n y).length * prodN (rest.map fun a => (fullV w n a).length)) := by
  rw [← Nat.mul_assoc]; exact Nat.le_mul_of_pos_right _ p1
 have h6 : (fullV w n y).length ≤ prodN (pre.map fun a => (fullV w n a).length) * (fullV w n y).length := Nat.le_mul_of_pos_left _ p2
 have h7 : prodN (pre.map fun a => (fullV w n a).length) ≤ prodN (pre.map fun a => (fullV w n a).length) * (fullV w n y).length := Nat.le_mul_of_pos_right _ (hpos y (by rw [← he]; simp))
 have h8 : (prodL (pre.map (fullV w n))).length = prodN (pre.map fun a => (fullV w n a).length) := by rw [prodL_len, List.map_map]; rfl
 omega
end Go.Proofs.YtdgknigklgnefaaGreat
namespace Go.Proofs.YtdgknigklgnefaaGreat
open Go
set_option linter.unusedSimpArgs false
set_option linter.unusedVariables false
set_option maxRecDepth 100000
set_option maxHeartbeats 2000000
theorem Val.cs_cc (l : List Val) : Val.cs l = l.map Val.cc := by
 rw [Val.cs_eq]; exact List.map_congr_left (fun v _ => Val.c_eq v)
theorem slices_Clone_Val_fn {xs : List Val} (hs : xs.length ≤ 1000000000000) : FnD Tryz.prog 179 [.d (encVals xs)] [] (.gl 77 (Val.cs xs)) [(77, some (.tok (Val.cs xs).length 3))] := by
 refine Fn.body (fn := Tryz.f179) (n := 8) rfl rfl rfl rfl rfl (fun w0 F0 own kept hk => ?_)
 refine CWp.splitNil 0 rfl (fun hx0 => ?_) ?_
 ·
  refine evc [2, 4] [] ?_
  refine asg ?_
  refine tv ?_
  refine Walk.eqNilT sl58 .none rfl rfl ?_
  refine tv ?_
  refine sqT ?_
  refine Walk.assignNil 77 3 .none rfl rfl ?_
  refine tv ?_
  refine rn [(77, some (.tok (Val.cs xs).length 3))] (r1 rfl) (.glg ?_) ⟨rfl, rfl⟩ (SubH.get ⟨(by first | rfl | (simp [hx0]; rfl) | (simp; rfl)), trivial⟩) (boxOK rfl)
  all_goals (first | rfl | exact hx0.symm | (simp; done))
 ·
  refine evc [2, 4] [] ?_
  refine asg ?_
  refine tv ?_
  refine Walk.eqNilF sl58 .none rfl rfl ?_
  refine tv ?_
  refine sqF ?_
  refine Walk.sliceEmptyG 77 sl58 .none rfl rfl ?_
  refine evs [2, 4] [] ?_
  refine Walk.append sl58 zz65 rfl .none rfl rfl rfl rfl (htokL rfl (by first | rfl | (simp; done) | (simp; omega))) (by intro y hy; rw [Val.cs_cc] at hy; obtain ⟨z, _, rfl⟩ := List.mem_map.1 hy; rfl) (by simp [Val.cs_len]; omega) (by simp [Val.cs_len]; omega) ?_
  refine asg ?_
  refine tv ?_
  refine rn [(77, some (.tok (Val.cs xs).length 3))] (r1 rfl) (.glg ?_) ⟨rfl, rfl⟩ (SubH.get ⟨(by first | rfl | (simp [hx0]; rfl) | (simp; rfl)), trivial⟩) (boxOK rfl)
  all_goals (first | rfl | exact hx0.symm | (simp; done))
theorem impl_ownValue_fn : ∀ (n : Nat) {v : Val}, v.size ≤ n → v.ok → FnD Tryz.prog 102 [.agg [.d (.i v.ctor), .d (.i v.num), .d (encVals v.kids)]] [] (.agg [.d (.i v.ctor), .d (.i v.num), .d (encVals v.kids)]) []
 | 0, v, h, _ => by rw [Val.size_eq] at h; omega
 | n + 1, v, h, hok => by
  rw [Val.size_eq] at h
  rw [Val.ok_iff] at hok
  have hok1 := hok.1
  refine bd Tryz.f102 27 [] [] fun w0 F0 own kept hk => ?_
  refine Walk.box (id := 3001) .none rfl rfl rfl rfl rfl rfl rfl ?_
  refine Walk.alloc (id := 3002) tz65 rfl .none rfl rfl rfl rfl ?_
  refine tv ?_
  refine Walk.build st65 (ks := [0, 1]) (xs := [_, _]) rfl rfl .none rfl rfl rfl ?_
  refine Walk.alloc (id := 3003) tz65 rfl .none rfl rfl rfl rfl ?_
  refine Walk.store ty65 .none rfl rfl rfl rfl rfl rfl (by simp) rfl ?_
  refine tv ?_
  refine CWp.tokB 3003 2 7 3 rfl rfl rfl rfl ?_
  refine CWp.loopX (ι := List (Val) × List (Val)) hk (fun x => [(14, .d (.i (x.1.length : Int)))]) [5, 15, 16, 17, 18, 19, 20, 21, 22, 23, 24, 25] (fun x => [(3003, some (.box [.d (.i v.ctor), .d (.i v.num), .gl 7 (x.1.map Val.cc)])), (7, some (.tok (x.1.map Val.cc).length 3))]) (fun x => x.1 ++ x.2 = v.kids) (fun x => x.2.length) ([], v.kids) (by simp) ⟨⟨_, rfl, (LeA.eqi (by first | rfl | (simp; done) | (simp_all; done) | omega))⟩, trivial⟩ ⟨(by first | rfl | (simp [getH]; done)), ⟨beq_nat_eq (by first | rfl | (simp; done) | (simp; omega) | (first | rfl | (simp; done) | (simp_all; done) | omega)), trivial⟩⟩ (fun x => rfl) (fun x hg1 => ?_)
  obtain ⟨pre, rest⟩ := x
  dsimp only at hg1 ⊢
  refine evc [] [] ?_
  refine sq (fun h1 h1p h1s => ?_) fun h1 h1p h1s => ?_
  ·try simp only [Q, Val.cs_len] at h1p
   rcases rest with _ | ⟨y, rest⟩
   ·exfalso; simp_all
   refine Walk.idx sl58 .none rfl rfl rfl rfl (Val.cs_at hg1) rfl ?_
   refine ev ?_
   refine Walk.alloc (id := 3005) tz65 rfl .none rfl rfl rfl rfl ?_
   refine Walk.store ty65 .none rfl rfl rfl rfl rfl rfl (by simp) rfl ?_
   refine tv ?_
   refine Walk.call (cr := []) cal102 (impl_ownValue_fn n (v := y) (by have := Vals.size_mem (l := v.kids) (v := y) (by rw [← hg1]; simp); omega) (Vals.ok_mem hok.2 y (by rw [← hg1]; simp))) rfl .none rfl rfl (LeL.refl _) trivial rfl rfl rfl ?_
   refine Walk.sliceLit sl58 tz65 rfl (by decide) (ks := [0]) (xs := [_]) rfl rfl (by decide) (by decide) .none rfl rfl rfl rfl ?_
   refine Walk.append sl58 zz65 rfl .none rfl rfl rfl rfl (htokL rfl (by first | rfl | (simp; done) | (simp; omega))) (by simp) (by have := congrArg List.length hg1; simp at this; simp; omega) (by have := congrArg List.length hg1; simp at this; simp; omega) ?_
   refine evd [] [] ?_
   refine Walk.store ty58 .none rfl rfl rfl rfl rfl rfl (by simp) rfl ?_
   refine dr ?_
   refine ar ?_
   refine Exists.intro ((pre ++ [y], rest)) ⟨(by have hz := hg1; rw [← hz]; simp), (by simp), Sub.x (by kernel_rfl) (by kernel_rfl) ⟨⟨_, rfl, (LeA.eqi (by first | rfl | (simp; done) | (simp_all; done) | omega))⟩, trivial⟩ (by kernel_rfl) (by kernel_rfl) ⟨(by first | rfl | (simp [getH]; done)), ⟨beq_nat_eq (by first | rfl | (simp; done) | (simp; omega) | (first | rfl | (simp; done) | (simp_all; done) | omega)), trivial⟩⟩⟩
  ·try simp only [Q, Val.cs_len] at h1p
   have hrest : rest = [] := by
    rcases rest with _ | ⟨a, b⟩
    ·rfl
    ·exfalso; have hz := congrArg List.length (hg1); simp only [List.length_append, List.length_cons, List.length_map] at hz; omega
   subst hrest
   refine Walk.store ty65 .none rfl rfl rfl rfl rfl rfl (by simp) rfl ?_
   refine tv ?_
   refine rn0 (.cons (.cellA ty65 rfl rfl rfl) .nil) (.agg (.cons (.eqd ?_) (.cons (.eqd ?_) (.cons (.gld ?_) .nil))))
   all_goals (first | rfl | (rw [List.append_nil] at hg1; rw [← hg1, Val.cs_cc]; done))
def ctorV (w : List Data) (n : Nat) (t : Ty) (c : Int) : List Val := (prodL ((argsOf w t c).map (fullV w n))).map (Val.mk c 0)
theorem ctorV_len (w : List Data) (n : Nat) (t : Ty) (c : Int) : (prodL ((argsOf w t c).map (fullV w n))).length = (ctorV w n t c).length := by unfold ctorV; simp
theorem fullV_ctors {w : List Data} {n : Nat} {t : Ty} (ht : t.data ≠ -1) : fullV w (n + 1) t = (ctorsOf w t).flatMap (ctorV w n t) := by rw [fullV, if_neg ht]; rfl
theorem ctorV_none {w : List Data} {n : Nat} {t : Ty} {c : Int} (h : ((argsOf w t c).any fun a => decide (countV w n a = 0)) = true) : ctorV w n t c = [] := by
 unfold ctorV; rw [prod_none h]; rfl
theorem pre_len {w : List Data} {n : Nat} {t : Ty} (ht : t.data ≠ -1) (hc : countV w (n + 1) t ≤ 400) {pre rest : List Int} {c : Int} (he : pre ++ c :: rest = ctorsOf w t) :
  (pre.flatMap (ctorV w n t)).length + (ctorV w n t c).length ≤ 400 := by
 have h := len_of_count hc
 rw [fullV_ctors ht, ← he] at h
 simp at h
 have h2 : (pre.flatMap (ctorV w n t)).length = (pre.map fun a => (ctorV w n t a).length).sum := flatMap_len _ _
 omega
theorem prodL_mem : ∀ {ls : List (List Val)} {o : List Val}, o ∈ prodL ls → o.length = ls.length := by
 intro ls
 have key : ∀ (ls acc : List (List Val)) (m : Nat), (∀ o ∈ acc, o.length = m) → ∀ o ∈ ls.foldl (fun acc l => acc.flatMap fun o => l.map fun y => o ++ [y]) acc, o.length = m + ls.length := by
  intro ls
  induction ls with
  | nil => intro acc m h o ho; exact h o ho
  | cons l r ih =>
   intro acc m h o ho
   have := ih _ (m + 1) (fun o' ho' => by
    simp only [List.mem_flatMap, List.mem_map] at ho'
    obtain ⟨p, hp, q, _, rfl⟩ := ho'
    simp [h p hp]) o ho
   simp only [List.length_cons]; omega
 intro o ho
 have := key ls [[]] 0 (by simp) o ho
 simpa using this
theorem kids_len {c : Int} {ls : List (List Val)} {v : Val} (h : v ∈ (prodL ls).map (Val.mk c 0)) : v.kids.length = ls.length := by
 obtain ⟨o, ho, rfl⟩ := List.mem_map.1 h
 exact prodL_mem ho
def grow1 (c : Int) (kids : List Val) (v : Val) : List Val := kids.map fun q => Val.mk c 0 (v.kids ++ [q])
theorem grow_prod (c : Int) (ls : List (List Val)) (l : List Val) : ((prodL ls).map (Val.mk c 0)).flatMap (grow1 c l) = (prodL (ls ++ [l])).map (Val.mk c 0) := by
 unfold prodL
 rw [List.foldl_append]
 generalize ls.foldl (fun acc l => acc.flatMap fun o => l.map fun y => o ++ [y]) [[]] = acc
 simp only [List.foldl_cons, List.foldl_nil, List.flatMap_map, List.map_flatMap, List.map_map]
 rfl
theorem more_len {c : Int} {L K pre3 rest3 pre4 rest4 : List Val} {v q : Val} {N : Nat} (h3 : pre3 ++ v :: rest3 = L) (h4 : pre4 ++ q :: rest4 = K) (hN : (L.flatMap (grow1 c K)).length ≤ N) :
  (pre3.flatMap (grow1 c K) ++ pre4.map fun q => Val.mk c 0 (v.kids ++ [q])).length + 1 ≤ N := by
 subst h3
 have e : ((pre3 ++ v :: rest3).flatMap (grow1 c K)).length = (pre3.flatMap (grow1 c K)).length + (K.length + (rest3.flatMap (grow1 c K)).length) := by simp [grow1]
 have e2 : K.length = pre4.length + (rest4.length + 1) := by rw [← h4]; simp
 simp only [List.length_append, List.length_map] at *
 omega
theorem impl_values_1_fn {w : List Data} (hw : WT w) {n : Nat} {m : Int} (hm : m = n + 1) (hn : n ≤ 1000) {a k : Int} (ht : TyIn w.length ⟨a, k⟩) :
  FnD Tryz.prog 178 [.agg [.d (.i a), .d (.i k)], .ref 3003 0, .ref 3005 0] [(3003, some (.box [.d (encDatas w)])), (3005, some (.box [.d (.i m)]))] (.d (.bool (decide (countV w n ⟨a, k⟩ = 0)))) [] := by
 refine bd Tryz.f178 11 [] [] fun w0 F0 own kept hk => ?_
 refine Walk.box (id := 3103) .none rfl rfl rfl rfl rfl rfl rfl ?_
 refine ev ?_
 refine ar ?_
 refine Walk.call (cr := []) cal100 (impl_countValues_fn hw n (by omega) hn ht) rfl .none rfl rfl (LeL.refl _) trivial rfl rfl rfl ?_
 refine ev ?_
 refine rn [] (r1 rfl) (.eqd ?_) ⟨rfl, rfl⟩ (SubH.get ⟨rfl, ⟨rfl, trivial⟩⟩) (fun _ h => h)
 all_goals (first | rfl | (simp []; done) | (simp_all; done) | (simp_all; omega) | omega)
theorem impl_values_fn {w : List Data} (hw : WT w) : ∀ (n : Nat) {a k m : Int}, m = n → n ≤ 1000 → TyIn w.length ⟨a, k⟩ → countV w n ⟨a, k⟩ ≤ 400 →
  FnD Tryz.prog 101 [.d (encDatas w), .agg [.d (.i a), .d (.i k)], .d (.i m)] [] (.d (encVals (fullV w n ⟨a, k⟩))) []
 | 0, a, k, m, hm, _, _, _ => by
  refine bd Tryz.f101 97 [7] [] fun w0 F0 own kept hk => ?_
  refine Walk.box (id := 3003) .none rfl rfl rfl rfl rfl rfl rfl ?_
  refine Walk.box (id := 3004) .none rfl rfl rfl rfl rfl rfl rfl ?_
  refine Walk.box (id := 3005) .none rfl rfl rfl rfl rfl rfl rfl ?_
  refine evs [7] [] ?_
  refine Walk.assignNil 1 3 .none rfl rfl ?_
  refine tv ?_
  refine sq (fun h1 h1p h1s => ?_) fun h1 h1p h1s => ?_
  ·try simp only [Q] at h1p
   refine rn0 (r1 rfl) (.nild ?_)
   all_goals (rfl)
  ·try simp only [Q] at h1p
   exfalso; simp at h1; omega --stop
 | n + 1, a, k, m, hm, hn, ht, hc => by
  rcases ht with ha | ⟨d, hd, hlt⟩
  ·have ha' : a = -1 := ha
   subst ha'
   refine bd Tryz.f101 97 [7] [] fun w0 F0 own kept hk => ?_
   refine Walk.box (id := 3003) .none rfl rfl rfl rfl rfl rfl rfl ?_
   refine Walk.box (id := 3004) .none rfl rfl rfl rfl rfl rfl rfl ?_
   refine Walk.box (id := 3005) .none rfl rfl rfl rfl rfl rfl rfl ?_
   refine evs [7] [] ?_
   refine Walk.assignNil 1 3 .none rfl rfl ?_
   refine tv ?_
   refine sq (fun h1 h1p h1s => ?_) fun h1 h1p h1s => ?_
   ·try simp only [Q] at h1p
    exfalso; simp at h1; omega --stop
   ·try simp only [Q] at h1p
    refine sq (fun h2 h2p h2s => ?_) fun h2 h2p h2s => ?_
    ·try simp only [Q] at h2p
     refine CWp.loopX (ι := Nat) hk (fun i => [(26, .d (.i (i : Int))), (7, .gl 1 (((List.range i).map fun (n : Nat) => Val.mk (-1) n []).map Val.cc))]) [8, 27, 28, 29, 30, 31, 32, 33, 34] (fun i => [(1, some (.tok ((((List.range i).map fun (n : Nat) => Val.mk (-1) n []).map Val.cc)).length 3))]) (fun i => i ≤ 10) (fun i => 10 - i) 0 (by simp) ⟨⟨_, rfl, (LeA.eqi (by first | rfl | (simp [List.range_succ, Val.ctor, Val.num, Val.kids]; done)))⟩, ⟨⟨_, rfl, (LeA.glg (by first | rfl | (simp [List.range_succ, Val.ctor, Val.num, Val.kids]; done)))⟩, trivial⟩⟩ ⟨beq_nat_eq (by first | rfl | (simp; done) | (simp; omega) | (first | rfl | (simp [List.range_succ, Val.ctor, Val.num, Val.kids]; done))), trivial⟩ (fun x => rfl) (fun i hg1 => ?_)
     refine evc [7] [] ?_
     refine sq (fun h3 h3p h3s => ?_) fun h3 h3p h3s => ?_
     ·try simp only [Q] at h3p
      refine Walk.call (cr := []) cal176 (impl_number_fn) rfl .none rfl rfl (LeL.refl _) trivial rfl rfl rfl ?_
      refine Walk.sliceLit sl58 tz65 rfl (by decide) (ks := [0]) (xs := [_]) rfl rfl (by decide) (by decide) .none rfl rfl rfl rfl ?_
      refine Walk.append sl58 zz65 rfl .none rfl rfl rfl rfl (htokL rfl (by first | rfl | (simp; done) | (simp; omega))) (by simp) (by simp; omega) (by simp; omega) ?_
      refine asg ?_
      refine tv ?_
      refine ar ?_
      refine Exists.intro (i + 1) ⟨?_, ?_, Sub.x (by kernel_rfl) (by kernel_rfl) ⟨⟨_, rfl, (LeA.eqi (by first | rfl | (simp [List.range_succ, Val.ctor, Val.num, Val.kids]; done)))⟩, ⟨⟨_, rfl, (LeA.glg (by first | rfl | (simp [List.range_succ, Val.ctor, Val.num, Val.kids]; done)))⟩, trivial⟩⟩ (by kernel_rfl) (by kernel_rfl) ⟨beq_nat_eq (by first | rfl | (simp; done) | (simp; omega) | (first | rfl | (simp [List.range_succ, Val.ctor, Val.num, Val.kids]; done))), trivial⟩⟩
      all_goals first | omega | (simp_all; done) | (simp_all; omega)
     ·try simp only [Q] at h3p
      refine rn0 (r1 rfl) (.gld ?_)
      all_goals (have e : i = 10 := (by omega); subst e; rw [fullV, if_pos rfl, Val.cs_cc]; rfl)
    ·try simp only [Q] at h2p
     exact absurd h2 (by simp) --stop
  have hd' : a = (d : Int) := hd
  subst hd'
  have hne : (⟨d, k⟩ : Ty).data ≠ -1 := by show (d : Int) ≠ -1; omega
  have hcl := ctorsOf_len hw (d := d) (k := k)
  refine bd Tryz.f101 97 [7, 16] [] fun w0 F0 own kept hk => ?_
  refine Walk.box (id := 3003) .none rfl rfl rfl rfl rfl rfl rfl ?_
  refine Walk.box (id := 3004) .none rfl rfl rfl rfl rfl rfl rfl ?_
  refine Walk.box (id := 3005) .none rfl rfl rfl rfl rfl rfl rfl ?_
  refine evs [7, 16] [] ?_
  refine Walk.assignNil 1 3 .none rfl rfl ?_
  refine tv ?_
  refine sq (fun h1 h1p h1s => ?_) fun h1 h1p h1s => ?_
  ·try simp only [Q, Val.cs_len, Ty.eta] at h1p
   exfalso; simp at h1; omega --stop
  ·try simp only [Q, Val.cs_len, Ty.eta] at h1p
   refine sq (fun h2 h2p h2s => ?_) fun h2 h2p h2s => ?_
   ·try simp only [Q, Val.cs_len, Ty.eta] at h2p
    exfalso; simp at h2 <;> omega --stop
   ·try simp only [Q, Val.cs_len, Ty.eta] at h2p
    refine Walk.call (cr := []) cal170 (impl_ctorsOf_in hw hlt) rfl .none rfl rfl (LeL.refl _) trivial rfl rfl rfl ?_
    refine evs [7, 16] [] ?_
    refine CWp.loopX (ι := List (Int) × List (Int)) hk (fun x => [(40, .d (.i (x.1.length : Int))), (7, .gl 1 ((x.1.flatMap (ctorV w n ⟨d, k⟩)).map Val.cc))]) [10, 11, 12, 14, 15, 16, 18, 20, 41, 42, 43, 44, 45, 46, 47, 48, 49, 50, 51, 52, 53, 54, 55, 56, 57, 58, 59, 60, 61, 62, 63, 64, 65, 66, 67, 68, 69, 70, 71, 72, 73, 74, 75, 76, 77, 78, 79, 80, 81, 82, 83, 84, 85, 86, 87, 88, 89, 90, 91, 92, 93, 94, 95] (fun x => [(1, some (.tok (((x.1.flatMap (ctorV w n ⟨d, k⟩)).map Val.cc)).length 3))]) (fun x => x.1 ++ x.2 = ctorsOf w ⟨d, k⟩) (fun x => x.2.length) ([], ctorsOf w ⟨d, k⟩) (by simp) ⟨⟨_, rfl, (LeA.eqi (by first | rfl | (simp; done) | (rw [List.flatMap_append, List.map_append]; simp [ctorV_none, hk]; done) | (rw [List.append_nil] at hg3; rw [List.flatMap_append, List.map_append, hg3]; simp [ctorV]; done)))⟩, ⟨⟨_, rfl, (LeA.glg (by first | rfl | (simp; done) | (rw [List.flatMap_append, List.map_append]; simp [ctorV_none, hk]; done) | (rw [List.append_nil] at hg3; rw [List.flatMap_append, List.map_append, hg3]; simp [ctorV]; done)))⟩, trivial⟩⟩ ⟨beq_nat_eq (by first | rfl | (simp; done) | (simp; omega) | (first | rfl | (simp; done) | (rw [List.flatMap_append, List.map_append]; simp [ctorV_none, hk]; done) | (rw [List.append_nil] at hg3; rw [List.flatMap_append, List.map_append, hg3]; simp [ctorV]; done))), trivial⟩ (fun x => rfl) (fun x hg2 => ?_)
    obtain ⟨pre, rest⟩ := x
    dsimp only at hg2 ⊢
    refine evc [7, 16] [] ?_
    refine sq (fun h3 h3p h3s => ?_) fun h3 h3p h3s => ?_
    ·try simp only [Q, Val.cs_len, Ty.eta] at h3p
     rcases rest with _ | ⟨c, rest⟩
     ·exfalso; simp_all
     have hal := argsOf_len hw hlt (k := k) (place_of (k := k) (c := c) (by rw [← hg2]; simp)); have hpre := pre_len hne hc hg2
     refine Walk.idx sl54 .none rfl rfl rfl rfl (zip_at hg2) rfl ?_
     refine evs [7, 16] [] ?_
     refine Walk.call (cr := []) cal171 (impl_argTypes_in hw hlt (place_of (k := k) (c := c) (by rw [← hg2]; simp))) rfl .none rfl rfl (LeL.refl _) trivial rfl rfl rfl ?_
     refine evs [7, 16] [] ?_
     refine Walk.closure (xs := [_, _]) rfl .none rfl rfl ?_
     refine Walk.call (cr := []) cal177 (slices_ContainsFunc_Ty_fn (p := fun t => decide (countV w n t = 0)) hal cal178 (fun t ht => impl_values_1_fn hw (n := n) (by omega) (by omega) (argsOf_in hw hlt (k := k) (place_of (k := k) (c := c) (by rw [← hg2]; simp)) ht)) ⟨rfl, rfl, trivial⟩ rfl rfl) rfl .none rfl rfl (LeL.refl _) ⟨rfl, rfl, trivial⟩ rfl rfl rfl ?_
     refine tv ?_
     refine sq (fun h4 h4p h4s => ?_) fun h4 h4p h4s => ?_
     ·try simp only [Q, Val.cs_len, Ty.eta] at h4p
      refine ar ?_
      refine Exists.intro ((pre ++ [c], rest)) ⟨(by have hz := hg2; rw [← hz]; simp), (by simp), Sub.x (by kernel_rfl) (by kernel_rfl) ⟨⟨_, rfl, (LeA.eqi (by first | rfl | (simp; done) | (rw [List.flatMap_append, List.map_append]; simp [ctorV_none, h1s, h1p, h2s, h2p, h3s, h3p, h4s, h4p]; done) | (rw [List.append_nil] at hg3; rw [List.flatMap_append, List.map_append, hg3]; simp [ctorV]; done)))⟩, ⟨⟨_, rfl, (LeA.glg (by first | rfl | (simp; done) | (rw [List.flatMap_append, List.map_append]; simp [ctorV_none, h1s, h1p, h2s, h2p, h3s, h3p, h4s, h4p]; done) | (rw [List.append_nil] at hg3; rw [List.flatMap_append, List.map_append, hg3]; simp [ctorV]; done)))⟩, trivial⟩⟩ (by kernel_rfl) (by kernel_rfl) ⟨beq_nat_eq (by first | rfl | (simp; done) | (simp; omega) | (first | rfl | (simp; done) | (rw [List.flatMap_append, List.map_append]; simp [ctorV_none, h1s, h1p, h2s, h2p, h3s, h3p, h4s, h4p]; done) | (rw [List.append_nil] at hg3; rw [List.flatMap_append, List.map_append, hg3]; simp [ctorV]; done))), trivial⟩⟩
     ·try simp only [Q, Val.cs_len, Ty.eta] at h4p
      refine Walk.build st65 (ks := [0]) (xs := [_]) rfl rfl .none rfl rfl rfl ?_
      refine Walk.sliceLitG 2 sl58 tz65 rfl (by decide) (ks := [0]) (xs := [_]) rfl rfl (by decide) (by decide) .none rfl rfl rfl rfl rfl ?_
      refine evs [7, 16] [] ?_
      refine CWp.loopX (ι := List (Ty) × List (Ty)) hk (fun x => [(56, .d (.i (x.1.length : Int))), (12, .d (.sl (((prodL (x.1.map (fullV w n))).map (Val.mk c 0)).map Val.cc)))]) [14, 15, 16, 18, 20, 57, 58, 59, 60, 61, 62, 63, 64, 65, 66, 67, 68, 69, 70, 71, 72, 73, 74, 75, 76, 77, 78, 79, 80, 81, 82, 83, 84, 85, 86, 87, 88, 89, 90, 91] (fun x => []) (fun x => x.1 ++ x.2 = argsOf w ⟨d, k⟩ c) (fun x => x.2.length) ([], argsOf w ⟨d, k⟩ c) (by simp) ⟨⟨_, rfl, (LeA.eqi (by first | rfl | (simp; done) | (rw [List.append_nil] at hg4; rw [hg4, grow_prod, List.map_append]; rfl)))⟩, ⟨⟨_, rfl, (by first | exact LeA.refl _ | exact LeA.gld (by first | rfl | (simp; done) | (rw [List.append_nil] at hg4; rw [hg4, grow_prod, List.map_append]; rfl)) | exact LeA.nild (by first | rfl | (simp; done) | (rw [List.append_nil] at hg4; rw [hg4, grow_prod, List.map_append]; rfl)) | exact LeA.eqsl (by first | rfl | (simp; done) | (rw [List.append_nil] at hg4; rw [hg4, grow_prod, List.map_append]; rfl)) | exact LeA.eqd (by first | rfl | (simp; done) | (rw [List.append_nil] at hg4; rw [hg4, grow_prod, List.map_append]; rfl)))⟩, trivial⟩⟩ trivial (fun x => rfl) (fun x hg3 => ?_)
      obtain ⟨pre2, rest2⟩ := x
      dsimp only at hg3 ⊢
      refine evc [7, 16] [] ?_
      refine sq (fun h5 h5p h5s => ?_) fun h5 h5p h5s => ?_
      ·try simp only [Q, Val.cs_len, Ty.eta] at h5p
       rcases rest2 with _ | ⟨y, rest2⟩
       ·exfalso; simp_all
       have hpl := part_len hne hc (c := c) (by rw [← hg2]; simp) hg3 (by assumption)
       refine Walk.idx sl182 .none rfl rfl rfl rfl (zip_at hg3) rfl ?_
       refine evs [7, 16] [] ?_
       refine Walk.alloc (id := 3014) tz42 rfl .none rfl rfl rfl rfl ?_
       refine Walk.store ty42 .none rfl rfl rfl rfl rfl rfl (by simp) rfl ?_
       refine tv ?_
       refine ar ?_
       refine Walk.call (cr := []) cal101 (impl_values_fn hw n (a := y.data) (k := y.index) (by omega) (by omega) (argsOf_in hw hlt (k := k) (place_of (k := k) (c := c) (by rw [← hg2]; simp)) (t := y) (by rw [← hg3]; simp)) (by have e := len_of_count (w := w) (n := n) (t := y); have e2 := countV_eq w n y; have h3 := hpl.2.1; unfold capN at e2; split at e2 <;> simp only [Ty.eta] at * <;> omega)) rfl .none rfl rfl (LeL.refl _) trivial rfl rfl rfl ?_
       refine evs [7, 16] [] ?_
       refine Walk.assignNil 3 3 .none rfl rfl ?_
       refine tv ?_
       refine CWp.loopX (ι := List (Val) × List (Val)) hk (fun x => [(67, .d (.i (x.1.length : Int))), (16, .gl 3 ((x.1.flatMap (grow1 c (fullV w n y))).map Val.cc))]) [18, 20, 68, 69, 70, 71, 72, 73, 74, 75, 76, 77, 78, 79, 80, 81, 82, 83, 84, 85, 86, 87, 88, 89] (fun x => [(3, some (.tok (((x.1.flatMap (grow1 c (fullV w n y))).map Val.cc)).length 3))]) (fun x => x.1 ++ x.2 = (prodL (pre2.map (fullV w n))).map (Val.mk c 0)) (fun x => x.2.length) ([], (prodL (pre2.map (fullV w n))).map (Val.mk c 0)) (by simp) ⟨⟨_, rfl, (LeA.eqi (by first | rfl | (simp; done) | (rw [List.append_nil] at hg5; rw [← hg5]; simp [grow1]; done)))⟩, ⟨⟨_, rfl, (LeA.glg (by first | rfl | (simp; done) | (rw [List.append_nil] at hg5; rw [← hg5]; simp [grow1]; done)))⟩, trivial⟩⟩ ⟨beq_nat_eq (by first | rfl | (simp; done) | (simp; omega) | (first | rfl | (simp; done) | (rw [List.append_nil] at hg5; rw [← hg5]; simp [grow1]; done))), trivial⟩ (fun x => rfl) (fun x hg4 => ?_)
       obtain ⟨pre3, rest3⟩ := x
       dsimp only at hg4 ⊢
       refine evc [7, 16] [] ?_
       refine sq (fun h6 h6p h6s => ?_) fun h6 h6p h6s => ?_
       ·try simp only [Q, Val.cs_len, Ty.eta] at h6p
        rcases rest3 with _ | ⟨v, rest3⟩
        ·exfalso; simp_all
        have hvk := kids_len (v := v) (by rw [← hg4]; simp); rw [List.length_map] at hvk
        refine Walk.idx sl58 .none rfl rfl rfl rfl (zip_at hg4) rfl ?_
        refine evs [7, 16] [] ?_
        refine Walk.alloc (id := 3018) tz65 rfl .none rfl rfl rfl rfl ?_
        refine Walk.store ty65 .none rfl rfl rfl rfl rfl rfl (by simp) rfl ?_
        refine tv ?_
        refine CWp.loopX (ι := List (Val) × List (Val)) hk (fun x => [(73, .d (.i (x.1.length : Int))), (16, .gl 3 ((pre3.flatMap (grow1 c (fullV w n y)) ++ x.1.map fun q => Val.mk c 0 (v.kids ++ [q])).map Val.cc))]) [20, 74, 75, 76, 77, 78, 79, 80, 81, 82, 83, 84, 85, 86, 87, 88] (fun x => [(3, some (.tok (((pre3.flatMap (grow1 c (fullV w n y)) ++ x.1.map fun q => Val.mk c 0 (v.kids ++ [q])).map Val.cc)).length 3))]) (fun x => x.1 ++ x.2 = fullV w n y) (fun x => x.2.length) ([], fullV w n y) (by simp) ⟨⟨_, rfl, (LeA.eqi (by first | rfl | (simp; done) | (simp [Val.ctor, Val.num, Val.kids, Val.cs_cc]; done)))⟩, ⟨⟨_, rfl, (LeA.glg (by first | rfl | (simp; done) | (simp [Val.ctor, Val.num, Val.kids, Val.cs_cc]; done)))⟩, trivial⟩⟩ ⟨beq_nat_eq (by first | rfl | (simp; done) | (simp; omega) | (first | rfl | (simp; done) | (simp [Val.ctor, Val.num, Val.kids, Val.cs_cc]; done))), trivial⟩ (fun x => rfl) (fun x hg5 => ?_)
        obtain ⟨pre4, rest4⟩ := x
        dsimp only at hg5 ⊢
        refine evc [7, 16] [] ?_
        refine sq (fun h7 h7p h7s => ?_) fun h7 h7p h7s => ?_
        ·try simp only [Q, Val.cs_len, Ty.eta] at h7p
         rcases rest4 with _ | ⟨q, rest4⟩
         ·exfalso; simp_all
         have hml := more_len hg4 hg5 (N := 400) (by rw [grow_prod, List.length_map]; have := hpl.1; rwa [List.map_append] at this)
         refine Walk.idx sl58 .none rfl rfl rfl rfl (Val.cs_at hg5) rfl ?_
         refine evs [7, 16] [] ?_
         refine Walk.alloc (id := 3020) tz65 rfl .none rfl rfl rfl rfl ?_
         refine Walk.store ty65 .none rfl rfl rfl rfl rfl rfl (by simp) rfl ?_
         refine tv ?_
         refine Walk.call (cr := [77]) cal179 (slices_Clone_Val_fn (xs := v.kids) (by omega)) rfl .none rfl rfl (LeL.refl _) trivial rfl rfl rfl ?_
         refine evd [7, 16] [] ?_
         refine Walk.sliceLit sl58 tz65 rfl (by decide) (ks := [0]) (xs := [_]) rfl rfl (by decide) (by decide) .none rfl rfl rfl rfl ?_
         refine Walk.append sl58 zz65 rfl .none rfl rfl rfl rfl (htokL rfl (by first | rfl | (simp; done) | (simp; omega))) (by intro z hz; first | (obtain ⟨_, _, rfl⟩ := List.mem_map.1 hz; rfl) | (simp at hz; rw [hz]; rfl) | (rw [Val.cs_cc] at hz; obtain ⟨_, _, rfl⟩ := List.mem_map.1 hz; rfl)) (by first | (simp only [List.length_map, List.length_append, List.length_cons, List.length_nil, Val.cs_len] at *; omega) | (rw [List.append_nil] at hg3; rw [hg3]; have h10 := ctorV_len w n ⟨d, k⟩ c; simp only [List.length_map]; omega)) (by first | (simp only [List.length_map, List.length_append, List.length_cons, List.length_nil, Val.cs_len] at *; omega) | (rw [List.append_nil] at hg3; rw [hg3]; have h10 := ctorV_len w n ⟨d, k⟩ c; simp only [List.length_map]; omega)) ?_
         refine Walk.build st65 (ks := [0, 2]) (xs := [_, _]) rfl rfl .none rfl rfl rfl ?_
         refine Walk.sliceLit sl58 tz65 rfl (by decide) (ks := [0]) (xs := [_]) rfl rfl (by decide) (by decide) .none rfl rfl rfl rfl ?_
         refine Walk.append sl58 zz65 rfl .none rfl rfl rfl rfl (htokL rfl (by first | rfl | (simp; done) | (simp; omega))) (by intro z hz; first | (obtain ⟨_, _, rfl⟩ := List.mem_map.1 hz; rfl) | (simp at hz; rw [hz]; rfl) | (rw [Val.cs_cc] at hz; obtain ⟨_, _, rfl⟩ := List.mem_map.1 hz; rfl)) (by first | (simp only [List.length_map, List.length_append, List.length_cons, List.length_nil, Val.cs_len] at *; omega) | (rw [List.append_nil] at hg3; rw [hg3]; have h10 := ctorV_len w n ⟨d, k⟩ c; simp only [List.length_map]; omega)) (by first | (simp only [List.length_map, List.length_append, List.length_cons, List.length_nil, Val.cs_len] at *; omega) | (rw [List.append_nil] at hg3; rw [hg3]; have h10 := ctorV_len w n ⟨d, k⟩ c; simp only [List.length_map]; omega)) ?_
         refine asg ?_
         refine dr ?_
         refine ar ?_
         refine Exists.intro ((pre4 ++ [q], rest4)) ⟨(by have hz := hg5; rw [← hz]; simp), (by simp), Sub.x (by kernel_rfl) (by kernel_rfl) ⟨⟨_, rfl, (LeA.eqi (by first | rfl | (simp; done) | (simp [Val.ctor, Val.num, Val.kids, Val.cs_cc]; done)))⟩, ⟨⟨_, rfl, (LeA.glg (by first | rfl | (simp; done) | (simp [Val.ctor, Val.num, Val.kids, Val.cs_cc]; done)))⟩, trivial⟩⟩ (by kernel_rfl) (by kernel_rfl) ⟨beq_nat_eq (by first | rfl | (simp; done) | (simp; omega) | (first | rfl | (simp; done) | (simp [Val.ctor, Val.num, Val.kids, Val.cs_cc]; done))), trivial⟩⟩
        ·try simp only [Q, Val.cs_len, Ty.eta] at h7p
         have hrest4 : rest4 = [] := by
          rcases rest4 with _ | ⟨a, b⟩
          ·rfl
          ·exfalso; have hz := congrArg List.length (hg5); simp only [List.length_append, List.length_cons, List.length_map] at hz; omega
         subst hrest4
         refine ar ?_
         refine Exists.intro ((pre3 ++ [v], rest3)) ⟨(by have hz := hg4; rw [← hz]; simp), (by simp), Sub.x (by kernel_rfl) (by kernel_rfl) ⟨⟨_, rfl, (LeA.eqi (by first | rfl | (simp; done) | (rw [List.append_nil] at hg5; rw [← hg5]; simp [grow1]; done)))⟩, ⟨⟨_, rfl, (LeA.glg (by first | rfl | (simp; done) | (rw [List.append_nil] at hg5; rw [← hg5]; simp [grow1]; done)))⟩, trivial⟩⟩ (by kernel_rfl) (by kernel_rfl) ⟨beq_nat_eq (by first | rfl | (simp; done) | (simp; omega) | (first | rfl | (simp; done) | (rw [List.append_nil] at hg5; rw [← hg5]; simp [grow1]; done))), trivial⟩⟩
       ·try simp only [Q, Val.cs_len, Ty.eta] at h6p
        have hrest3 : rest3 = [] := by
         rcases rest3 with _ | ⟨a, b⟩
         ·rfl
         ·exfalso; have hz := congrArg List.length (hg4); simp only [List.length_append, List.length_cons, List.length_map] at hz; omega
        subst hrest3
        refine ar ?_
        refine Exists.intro ((pre2 ++ [y], rest2)) ⟨(by have hz := hg3; rw [← hz]; simp), (by simp), Sub.x (by kernel_rfl) (by kernel_rfl) ⟨⟨_, rfl, (LeA.eqi (by first | rfl | (simp; done) | (rw [List.append_nil] at hg4; rw [hg4, grow_prod, List.map_append]; rfl)))⟩, ⟨⟨_, rfl, (by first | exact LeA.refl _ | exact LeA.gld (by first | rfl | (simp; done) | (rw [List.append_nil] at hg4; rw [hg4, grow_prod, List.map_append]; rfl)) | exact LeA.nild (by first | rfl | (simp; done) | (rw [List.append_nil] at hg4; rw [hg4, grow_prod, List.map_append]; rfl)) | exact LeA.eqsl (by first | rfl | (simp; done) | (rw [List.append_nil] at hg4; rw [hg4, grow_prod, List.map_append]; rfl)) | exact LeA.eqd (by first | rfl | (simp; done) | (rw [List.append_nil] at hg4; rw [hg4, grow_prod, List.map_append]; rfl)))⟩, trivial⟩⟩ (by kernel_rfl) (by kernel_rfl) trivial⟩
      ·try simp only [Q, Val.cs_len, Ty.eta] at h5p
       have hrest2 : rest2 = [] := by
        rcases rest2 with _ | ⟨a, b⟩
        ·rfl
        ·exfalso; have hz := congrArg List.length (hg3); simp only [List.length_append, List.length_cons, List.length_map] at hz; omega
       subst hrest2
       refine Walk.append sl58 zz65 rfl .none rfl rfl rfl rfl (htokL rfl (by first | rfl | (simp; done) | (simp; omega))) (by intro z hz; first | (obtain ⟨_, _, rfl⟩ := List.mem_map.1 hz; rfl) | (simp at hz; rw [hz]; rfl) | (rw [Val.cs_cc] at hz; obtain ⟨_, _, rfl⟩ := List.mem_map.1 hz; rfl)) (by first | (simp only [List.length_map, List.length_append, List.length_cons, List.length_nil, Val.cs_len] at *; omega) | (rw [List.append_nil] at hg3; rw [hg3]; have h10 := ctorV_len w n ⟨d, k⟩ c; simp only [List.length_map]; omega)) (by first | (simp only [List.length_map, List.length_append, List.length_cons, List.length_nil, Val.cs_len] at *; omega) | (rw [List.append_nil] at hg3; rw [hg3]; have h10 := ctorV_len w n ⟨d, k⟩ c; simp only [List.length_map]; omega)) ?_
       refine asg ?_
       refine tv ?_
       refine ar ?_
       refine Exists.intro ((pre ++ [c], rest)) ⟨(by have hz := hg2; rw [← hz]; simp), (by simp), Sub.x (by kernel_rfl) (by kernel_rfl) ⟨⟨_, rfl, (LeA.eqi (by first | rfl | (simp; done) | (rw [List.flatMap_append, List.map_append]; simp [ctorV_none, h1s, h1p, h2s, h2p, h3s, h3p, h4s, h4p, h5s, h5p]; done) | (rw [List.append_nil] at hg3; rw [List.flatMap_append, List.map_append, hg3]; simp [ctorV]; done)))⟩, ⟨⟨_, rfl, (LeA.glg (by first | rfl | (simp; done) | (rw [List.flatMap_append, List.map_append]; simp [ctorV_none, h1s, h1p, h2s, h2p, h3s, h3p, h4s, h4p, h5s, h5p]; done) | (rw [List.append_nil] at hg3; rw [List.flatMap_append, List.map_append, hg3]; simp [ctorV]; done)))⟩, trivial⟩⟩ (by kernel_rfl) (by kernel_rfl) ⟨beq_nat_eq (by first | rfl | (simp; done) | (simp; omega) | (first | rfl | (simp; done) | (rw [List.flatMap_append, List.map_append]; simp [ctorV_none, h1s, h1p, h2s, h2p, h3s, h3p, h4s, h4p, h5s, h5p]; done) | (rw [List.append_nil] at hg3; rw [List.flatMap_append, List.map_append, hg3]; simp [ctorV]; done))), trivial⟩⟩
    ·try simp only [Q, Val.cs_len, Ty.eta] at h3p
     have hrest : rest = [] := by
      rcases rest with _ | ⟨a, b⟩
      ·rfl
      ·exfalso; have hz := congrArg List.length (hg2); simp only [List.length_append, List.length_cons, List.length_map] at hz; omega
     subst hrest
     refine rn0 (r1 rfl) (.gld ?_)
     all_goals (rw [List.append_nil] at hg2; subst hg2; rw [fullV_ctors hne, Val.cs_cc])
end Go.Proofs.YtdgknigklgnefaaGreat
namespace Go.Proofs.YtdgknigklgnefaaGreat
open Go
set_option linter.unusedSimpArgs false
set_option linter.unusedVariables false
theorem prodL_in : ∀ {ls : List (List Val)} {o : List Val}, o ∈ prodL ls → ∀ x ∈ o, ∃ l ∈ ls, x ∈ l := by
 intro ls
 have key : ∀ (ls acc : List (List Val)) (Q : Val → Prop), (∀ o ∈ acc, ∀ x ∈ o, Q x) → (∀ l ∈ ls, ∀ x ∈ l, Q x) → ∀ o ∈ ls.foldl (fun acc l => acc.flatMap fun o => l.map fun y => o ++ [y]) acc, ∀ x ∈ o, Q x := by
  intro ls
  induction ls with
  | nil => intro acc Q h _ o ho; exact h o ho
  | cons l r ih =>
   intro acc Q h h2 o ho
   refine ih _ Q (fun o' ho' x hx => ?_) (fun l' hl' => h2 l' (List.mem_cons_of_mem _ hl')) o ho
   simp only [List.mem_flatMap, List.mem_map] at ho'
   obtain ⟨p, hp, q, hq, rfl⟩ := ho'
   simp only [List.mem_append, List.mem_singleton] at hx
   rcases hx with hx | hx
   ·exact h p hp x hx
   ·subst hx; exact h2 l (by simp) x hq
 intro o ho
 exact key ls [[]] (fun x => ∃ l ∈ ls, x ∈ l) (by simp) (fun l hl x hx => ⟨l, hl, hx⟩) o ho
theorem Vals.ok_of : ∀ {l : List Val}, (∀ v ∈ l, v.ok) → Vals.ok l
 | [], _ => trivial
 | v :: r, h => ⟨h v (by simp), Vals.ok_of (fun x hx => h x (List.mem_cons_of_mem _ hx))⟩
theorem fullV_ok {w : List Data} (hw : WT w) : ∀ (n : Nat) {t : Ty}, TyIn w.length t → ∀ v ∈ fullV w n t, v.ok
 | 0, t, _, v, h => by simp [fullV] at h
 | n + 1, t, ht, v, h => by
  unfold fullV at h
  split at h
  ·simp only [digits, List.mem_map] at h
   obtain ⟨i, _, rfl⟩ := h
   exact ⟨by simp, trivial⟩
  ·rename_i hne
   obtain ⟨c, hc, hv⟩ := List.mem_flatMap.1 h
   obtain ⟨o, ho, rfl⟩ := List.mem_map.1 hv
   rcases ht with h0 | ⟨d, hd, hlt⟩
   ·exact absurd h0 hne
   obtain ⟨a, k⟩ := t
   have hd' : a = (d : Int) := hd
   subst hd'
   have hp := place_of hc
   refine ⟨?_, Vals.ok_of (fun x hx => ?_)⟩
   ·rw [prodL_mem ho, List.length_map]; exact argsOf_len hw hlt hp
   ·obtain ⟨l, hl, hxl⟩ := prodL_in ho x hx
    obtain ⟨y, hy, rfl⟩ := List.mem_map.1 hl
    exact fullV_ok hw n (argsOf_in hw hlt hp hy) x hxl
end Go.Proofs.YtdgknigklgnefaaGreat
namespace Go.Proofs.YtdgknigklgnefaaGreat
open Go
set_option linter.unusedSimpArgs false
set_option linter.unusedVariables false
set_option maxRecDepth 100000
set_option maxHeartbeats 2000000
def vut (w : List Data) (t : Ty) (m : Int) : List Val × Bool := if typeValid w t && (within m 0 4 && decide (countV w m.toNat t ≤ 400)) then (fullV w m.toNat t, true) else ([], false)
theorem vut_len (w : List Data) (t : Ty) (m : Int) : (vut w t m).1.length ≤ 400 := by
 unfold vut
 split
 ·rename_i h
  simp only [Bool.and_eq_true, decide_eq_true_eq] at h
  have := len_of_count h.2.2
  simp only; omega
 ·simp
theorem vut_ok {w : List Data} (hs : WSmall w) (t : Ty) (m : Int) : ∀ v ∈ (vut w t m).1, v.ok := by
 unfold vut
 split
 ·rename_i h
  rw [Bool.and_eq_true] at h
  exact fullV_ok (tv_wt hs h.1) _ (tv_in h.1)
 ·simp
theorem impl_ValuesUpTo_fn {w : List Data} (hs : WSmall w) {a k m : Int} : FnD Tryz.prog 33 [.d (encDatas w), .agg [.d (.i a), .d (.i k)], .d (.i m)] [] (.tup [.d (encVals (vut w ⟨a, k⟩ m).1), .d (.bool (vut w ⟨a, k⟩ m).2)]) [] := by
 refine bd Tryz.f33 43 [8] [] fun w0 F0 own kept hk => ?_
 refine Walk.box (id := 3004) .none rfl rfl rfl rfl rfl rfl rfl ?_
 refine evs [8] [] ?_
 refine Walk.call (cr := []) cal98 (impl_TypeValid_fn hs) rfl .none rfl rfl (LeL.refl _) trivial rfl rfl rfl ?_
 refine evs [8] [] ?_
 refine sq (fun h1 h1p h1s => ?_) fun h1 h1p h1s => ?_
 ·try simp only [Q, within, Val.cs_len] at h1p
  refine sqT ?_
  refine sqT ?_
  refine rn0 (r2 rfl rfl) (.tup (.cons (.nild ?_) (.cons (.eqd ?_) .nil)))
  all_goals (first | (simp [vut, Val.cs, h1s, h1p]; done) | (simp only [vut]; rw [if_neg (by intro hh; simp [within] at hh; omega)]; rfl) | (simp only [vut]; rw [if_neg (by intro hh; simp [within] at hh; omega)]; done) | (rw [List.append_nil] at hg1; subst hg1; simp only [vut]; rw [if_pos (by simp [within, h1s, h1p]; omega), Val.cs_cc]; done) | (simp only [vut]; rw [if_pos (by simp [within, h1s, h1p]; omega)]; done))
 ·try simp only [Q, within, Val.cs_len] at h1p
  refine Walk.call (cr := []) cal87 (impl_within_fn) rfl (.some rfl rfl h1) rfl rfl (LeL.refl _) trivial rfl rfl rfl ?_
  refine evs [8] [(15, false)] ?_ ⟨⟨_, rfl, h1⟩, trivial⟩
  refine sq (fun h3 h3p h3s => ?_) fun h3 h3p h3s => ?_
  ·try simp only [Q, within, Val.cs_len] at h3p
   refine sqT ?_
   refine rn0 (r2 rfl rfl) (.tup (.cons (.nild ?_) (.cons (.eqd ?_) .nil)))
   all_goals (first | (simp [vut, Val.cs, h1s, h1p, h3s, h3p]; done) | (simp only [vut]; rw [if_neg (by intro hh; simp [within] at hh; omega)]; rfl) | (simp only [vut]; rw [if_neg (by intro hh; simp [within] at hh; omega)]; done) | (rw [List.append_nil] at hg1; subst hg1; simp only [vut]; rw [if_pos (by simp [within, h1s, h1p, h3s, h3p]; omega), Val.cs_cc]; done) | (simp only [vut]; rw [if_pos (by simp [within, h1s, h1p, h3s, h3p]; omega)]; done))
  ·try simp only [Q, within, Val.cs_len] at h3p
   refine Walk.call (cr := []) cal100 (impl_countValues_fn (tv_wt hs (by assumption)) m.toNat (by omega) (by omega) (tv_in (by assumption))) rfl (.some rfl rfl h3) rfl rfl (LeL.refl _) trivial rfl rfl rfl ?_
   refine evs [8] [(20, false)] ?_ ⟨⟨_, rfl, h3⟩, trivial⟩
   refine sq (fun h5 h5p h5s => ?_) fun h5 h5p h5s => ?_
   ·try simp only [Q, within, Val.cs_len] at h5p
    refine rn0 (r2 rfl rfl) (.tup (.cons (.nild ?_) (.cons (.eqd ?_) .nil)))
    all_goals (first | (simp [vut, Val.cs, h1s, h1p, h3s, h3p, h5s, h5p]; done) | (simp only [vut]; rw [if_neg (by intro hh; simp [within] at hh; omega)]; rfl) | (simp only [vut]; rw [if_neg (by intro hh; simp [within] at hh; omega)]; done) | (rw [List.append_nil] at hg1; subst hg1; simp only [vut]; rw [if_pos (by simp [within, h1s, h1p, h3s, h3p, h5s, h5p]; omega), Val.cs_cc]; done) | (simp only [vut]; rw [if_pos (by simp [within, h1s, h1p, h3s, h3p, h5s, h5p]; omega)]; done))
   ·try simp only [Q, within, Val.cs_len] at h5p
    refine Walk.assignNil 1 3 .none rfl rfl ?_
    refine tv ?_
    refine Walk.call (cr := []) cal101 (impl_values_fn (tv_wt hs (by assumption)) m.toNat (by omega) (by omega) (tv_in (by assumption)) (by omega)) rfl .none rfl rfl (LeL.refl _) trivial rfl rfl rfl ?_
    refine evs [8] [] ?_
    refine CWp.loopX (ι := List (Val) × List (Val)) hk (fun x => [(32, .d (.i (x.1.length : Int))), (8, .gl 1 (x.1.map Val.cc))]) [10, 33, 34, 35, 36, 37, 38, 39, 40, 41] (fun x => [(1, some (.tok ((x.1.map Val.cc)).length 3))]) (fun x => x.1 ++ x.2 = fullV w m.toNat ⟨a, k⟩) (fun x => x.2.length) ([], fullV w m.toNat ⟨a, k⟩) (by simp) ⟨⟨_, rfl, (LeA.eqi (by first | rfl | (simp; done)))⟩, ⟨⟨_, rfl, (LeA.glg (by first | rfl | (simp; done)))⟩, trivial⟩⟩ ⟨beq_nat_eq (by first | rfl | (simp; done) | (simp; omega) | (first | rfl | (simp; done))), trivial⟩ (fun x => rfl) (fun x hg1 => ?_)
    obtain ⟨pre, rest⟩ := x
    dsimp only at hg1 ⊢
    have hlen := len_of_count (w := w) (n := m.toNat) (t := ⟨a, k⟩) (by omega)
    refine evc [8] [] ?_
    refine sq (fun h6 h6p h6s => ?_) fun h6 h6p h6s => ?_
    ·try simp only [Q, within, Val.cs_len] at h6p
     rcases rest with _ | ⟨y, rest⟩
     ·exfalso; simp_all
     refine Walk.idx sl58 .none rfl rfl rfl rfl (Val.cs_at hg1) rfl ?_
     refine evs [8] [] ?_
     refine Walk.alloc (id := 3010) tz65 rfl .none rfl rfl rfl rfl ?_
     refine Walk.store ty65 .none rfl rfl rfl rfl rfl rfl (by simp) rfl ?_
     refine tv ?_
     refine Walk.call (cr := []) cal102 (impl_ownValue_fn y.size (Nat.le_refl _) (fullV_ok (tv_wt hs (by assumption)) m.toNat (tv_in (t := ⟨a, k⟩) (by assumption)) y (by rw [← hg1]; simp))) rfl .none rfl rfl (LeL.refl _) trivial rfl rfl rfl ?_
     refine Walk.sliceLit sl58 tz65 rfl (by decide) (ks := [0]) (xs := [_]) rfl rfl (by decide) (by decide) .none rfl rfl rfl rfl ?_
     refine Walk.append sl58 zz65 rfl .none rfl rfl rfl rfl (htokL rfl (by first | rfl | (simp; done) | (simp; omega))) (by simp) (by have h9 := congrArg List.length hg1; simp at h9; simp; omega) (by have h9 := congrArg List.length hg1; simp at h9; simp; omega) ?_
     refine asg ?_
     refine tv ?_
     refine ar ?_
     refine Exists.intro ((pre ++ [y], rest)) ⟨(by have hz := hg1; rw [← hz]; simp), (by simp), Sub.x (by kernel_rfl) (by kernel_rfl) ⟨⟨_, rfl, (LeA.eqi (by first | rfl | (simp; done)))⟩, ⟨⟨_, rfl, (LeA.glg (by first | rfl | (simp; done)))⟩, trivial⟩⟩ (by kernel_rfl) (by kernel_rfl) ⟨beq_nat_eq (by first | rfl | (simp; done) | (simp; omega) | (first | rfl | (simp; done))), trivial⟩⟩
    ·try simp only [Q, within, Val.cs_len] at h6p
     have hrest : rest = [] := by
      rcases rest with _ | ⟨a, b⟩
      ·rfl
      ·exfalso; have hz := congrArg List.length (hg1); simp only [List.length_append, List.length_cons, List.length_map] at hz; omega
     subst hrest
     refine rn0 (r2 rfl rfl) (.tup (.cons (.gld ?_) (.cons (.eqd ?_) .nil)))
     all_goals (first | (simp [vut, Val.cs, h1s, h1p, h3s, h3p, h5s, h5p, h6s, h6p]; done) | (simp only [vut]; rw [if_neg (by intro hh; simp [within] at hh; omega)]; rfl) | (simp only [vut]; rw [if_neg (by intro hh; simp [within] at hh; omega)]; done) | (rw [List.append_nil] at hg1; subst hg1; simp only [vut]; rw [if_pos (by simp [within, h1s, h1p, h3s, h3p, h5s, h5p, h6s, h6p]; omega), Val.cs_cc]; done) | (simp only [vut]; rw [if_pos (by simp [within, h1s, h1p, h3s, h3p, h5s, h5p, h6s, h6p]; omega)]; done))
end Go.Proofs.YtdgknigklgnefaaGreat
