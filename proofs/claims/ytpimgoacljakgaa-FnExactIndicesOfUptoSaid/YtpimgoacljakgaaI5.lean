/-
  THE LAW FnExactIndicesOf: whatever the arguments of bulk at most 1048576 are, the call returns true, and the arguments read as before.
  Conditions: the bulk alone.
-/
import Derived.Test.YtpimgoacljakgaaI4
namespace Go.Proofs.Ytpimgoacljakgaa
open Go
set_option linter.unusedSimpArgs false
set_option linter.unusedVariables false
set_option maxRecDepth 100000
set_option maxHeartbeats 2000000
theorem impl_newSpaces_fn {w : List Data} (hd : Dp w) : FnD Try.prog 78 [.d (encDatas w)] [] (.d (sPtr w (depthT w))) [] := by
 refine bd Try.f78 8 [] [999999] fun w0 F0 own kept hk => ?_
 refine Walk.call (cr := []) cal125 (impl_depthsOf_fn hd) rfl .none rfl rfl (LeL.refl _) trivial rfl rfl rfl ?_
 refine Walk.build st145 (ks := [0, 1]) (xs := [_, _]) rfl rfl .none rfl rfl rfl ?_
 refine Walk.box (id := 3007) .none rfl rfl rfl rfl rfl rfl rfl ?_
 refine ev ?_
 refine CWp.frzB hk 2 3007 0 rfl rfl rfl rfl ?_
 refine CWp.ret ?_
 refine rn0 (r1 rfl) (.refl _)
 all_goals (first | rfl | (simp []; done) | (simp_all; done) | (simp_all; omega) | omega)
theorem impl_matches_fn {w : List Data} (hd : Dp w) {f : Nat → Nat} : ∀ (n : Nat) {a k k' : Int} {p : Pat}, shapeP w n ⟨a, k'⟩ p = true → InS (w.length * 4) ⟨a, k⟩ → p.ok →
  FnD Try.prog 79 [.d (sPtr w f), .agg [.d (.i a), .d (.i k)], .agg [.d (.i p.op), .d (.i p.ctor), .d (.i p.n), .d (.i p.m), .d (.i p.var), .d (encPats p.kids)]] [] (.d (.bool (someP w f n ⟨a, k⟩ p))) []
 | 0, a, k, k', p, h, _, _ => by simp [shapeP] at h
 | n + 1, a, k, k', p, h, hi, hok => by
  rw [Pat.ok_iff] at hok
  have hw := hd.wt
  have hw4 := hd.four
  have ht := ins_tyin hi
  have pk := pkids (k := k) h
  have hcl := vctors_len hw ht
  have hops := pk.ops
  have hal := fun hm => args_ins hd hi (c := p.ctor) hm
  have hasm := fun hm => argsOf_small hw ht (c := p.ctor) hm
  have l5 := pk.len5
  have l6 := pk.len6
  have l4 := pk.len4
  refine bd Try.f79 84 [] [] fun w0 F0 own kept hk => ?_
  refine Walk.box (id := 3004) .none rfl rfl rfl rfl rfl rfl rfl ?_
  refine Walk.box (id := 3005) .none rfl rfl rfl rfl rfl rfl rfl ?_
  refine ev ?_
  refine sq (fun h1 h1p h1s => ?_) fun h1 h1p h1s => ?_
  ·try simp only [Q, Pat.cs_len, Bool.not_eq_true', Bool.not_eq_false', decide_eq_false_iff_not] at h1p
   refine sq (fun h2 h2p h2s => ?_) fun h2 h2p h2s => ?_
   ·try simp only [Q, Pat.cs_len, Bool.not_eq_true', Bool.not_eq_false', decide_eq_false_iff_not] at h2p
    refine Walk.call (cr := []) cal126 (impl_of_fn (n := w.length * 4) (f := f) hi (by omega)) rfl .none rfl rfl (LeL.refl _) trivial rfl rfl rfl ?_
    refine evd [] [] ?_
    refine dr ?_
    refine rn0 (r1 rfl) (.eqd ?_)
    all_goals (refine congrArg D.bool ?_; rw [someP_succ]; first | (rw [if_pos (by omega), dec_pos]; done) | (rw [if_neg (by omega), if_pos (by omega)]; done) | (rw [if_neg (by omega), if_neg (by omega), if_pos (by omega)]; first | rfl | (simp_all; done)) | (rw [if_neg (by omega), if_neg (by omega), if_neg (by omega), if_pos (by omega)]; done) | (rw [if_neg (by omega), if_neg (by omega), if_neg (by omega), if_neg (by omega)]; first | (rw [all2_nth_false (i := i) (by omega) (by omega) (by assumption), Bool.and_false]; done) | (rw [all2_nth_true (by omega) (fun x hx => hg1.2 x (by omega))]; simp_all; done) | (rw [decide_eq_false (by simp_all)]; rfl)))
   ·try simp only [Q, Pat.cs_len, Bool.not_eq_true', Bool.not_eq_false', decide_eq_false_iff_not] at h2p
    refine sq (fun h3 h3p h3s => ?_) fun h3 h3p h3s => ?_
    ·try simp only [Q, Pat.cs_len, Bool.not_eq_true', Bool.not_eq_false', decide_eq_false_iff_not] at h3p
     refine rn0 (r1 rfl) (.eqd ?_)
     all_goals (refine congrArg D.bool ?_; rw [someP_succ]; first | (rw [if_pos (by omega), dec_pos]; done) | (rw [if_neg (by omega), if_pos (by omega)]; done) | (rw [if_neg (by omega), if_neg (by omega), if_pos (by omega)]; first | rfl | (simp_all; done)) | (rw [if_neg (by omega), if_neg (by omega), if_neg (by omega), if_pos (by omega)]; done) | (rw [if_neg (by omega), if_neg (by omega), if_neg (by omega), if_neg (by omega)]; first | (rw [all2_nth_false (i := i) (by omega) (by omega) (by assumption), Bool.and_false]; done) | (rw [all2_nth_true (by omega) (fun x hx => hg1.2 x (by omega))]; simp_all; done) | (rw [decide_eq_false (by simp_all)]; rfl)))
    ·try simp only [Q, Pat.cs_len, Bool.not_eq_true', Bool.not_eq_false', decide_eq_false_iff_not] at h3p
     refine sq (fun h4 h4p h4s => ?_) fun h4 h4p h4s => ?_
     ·try simp only [Q, Pat.cs_len, Bool.not_eq_true', Bool.not_eq_false', decide_eq_false_iff_not] at h4p
      refine Walk.idx (i := 0) sl56 .none rfl rfl rfl rfl (pats_at (by omega)) rfl ?_
      refine evd [] [] ?_
      refine Walk.call (cr := []) cal79 (impl_matches_fn hd n (k' := k') (pk.one (by omega)) hi (Pats.ok_mem hok.2 _ (nth_mem (i := 0) (by omega)))) rfl .none rfl rfl (LeL.refl _) trivial rfl rfl rfl ?_
      refine evd [] [] ?_
      refine dr ?_
      refine rn0 (r1 rfl) (.eqd ?_)
      all_goals (refine congrArg D.bool ?_; rw [someP_succ]; first | (rw [if_pos (by omega), dec_pos]; done) | (rw [if_neg (by omega), if_pos (by omega)]; done) | (rw [if_neg (by omega), if_neg (by omega), if_pos (by omega)]; first | rfl | (simp_all; done)) | (rw [if_neg (by omega), if_neg (by omega), if_neg (by omega), if_pos (by omega)]; done) | (rw [if_neg (by omega), if_neg (by omega), if_neg (by omega), if_neg (by omega)]; first | (rw [all2_nth_false (i := i) (by omega) (by omega) (by assumption), Bool.and_false]; done) | (rw [all2_nth_true (by omega) (fun x hx => hg1.2 x (by omega))]; simp_all; done) | (rw [decide_eq_false (by simp_all)]; rfl)))
     ·try simp only [Q, Pat.cs_len, Bool.not_eq_true', Bool.not_eq_false', decide_eq_false_iff_not] at h4p
      refine sq (fun h5 h5p h5s => ?_) fun h5 h5p h5s => ?_
      ·try simp only [Q, Pat.cs_len, Bool.not_eq_true', Bool.not_eq_false', decide_eq_false_iff_not] at h5p
       refine Walk.idx (i := 0) sl56 .none rfl rfl rfl rfl (pats_at (by omega)) rfl ?_
       refine evd [] [] ?_
       refine Walk.call (cr := []) cal79 (impl_matches_fn hd n (k' := k') (pk.one (by omega)) hi (Pats.ok_mem hok.2 _ (nth_mem (i := 0) (by omega)))) rfl .none rfl rfl (LeL.refl _) trivial rfl rfl rfl ?_
       refine evd [] [] ?_
       refine sq (fun h6 h6p h6s => ?_) fun h6 h6p h6s => ?_
       ·try simp only [Q, Pat.cs_len, Bool.not_eq_true', Bool.not_eq_false', decide_eq_false_iff_not] at h6p
        refine dr ?_
        refine rn0 (r1 rfl) (.eqd ?_)
        all_goals (refine congrArg D.bool ?_; rw [someP_succ]; first | (rw [if_pos (by omega), dec_pos]; done) | (rw [if_neg (by omega), if_pos (by omega)]; done) | (rw [if_neg (by omega), if_neg (by omega), if_pos (by omega)]; first | rfl | (simp_all; done)) | (rw [if_neg (by omega), if_neg (by omega), if_neg (by omega), if_pos (by omega)]; done) | (rw [if_neg (by omega), if_neg (by omega), if_neg (by omega), if_neg (by omega)]; first | (rw [all2_nth_false (i := i) (by omega) (by omega) (by assumption), Bool.and_false]; done) | (rw [all2_nth_true (by omega) (fun x hx => hg1.2 x (by omega))]; simp_all; done) | (rw [decide_eq_false (by simp_all)]; rfl)))
       ·try simp only [Q, Pat.cs_len, Bool.not_eq_true', Bool.not_eq_false', decide_eq_false_iff_not] at h6p
        refine Walk.idx (i := 1) sl56 (.some rfl rfl h6) rfl rfl rfl rfl (pats_at (by omega)) rfl ?_
        refine evd [] [(41, false)] ?_ ⟨⟨_, rfl, h6⟩, trivial⟩
        refine Walk.call (cr := []) cal79 (impl_matches_fn hd n (k' := k') (pk.two (by omega)) hi (Pats.ok_mem hok.2 _ (nth_mem (i := 1) (by omega)))) rfl (.some rfl rfl h6) rfl rfl (LeL.refl _) trivial rfl rfl rfl ?_
        refine evd [] [(41, false)] ?_ ⟨⟨_, rfl, h6⟩, trivial⟩
        refine dr ?_
        refine rn0 (r1 rfl) (.eqd ?_)
        all_goals (refine congrArg D.bool ?_; rw [someP_succ]; first | (rw [if_pos (by omega), dec_pos]; done) | (rw [if_neg (by omega), if_pos (by omega)]; done) | (rw [if_neg (by omega), if_neg (by omega), if_pos (by omega)]; first | rfl | (simp_all; done)) | (rw [if_neg (by omega), if_neg (by omega), if_neg (by omega), if_pos (by omega)]; done) | (rw [if_neg (by omega), if_neg (by omega), if_neg (by omega), if_neg (by omega)]; first | (rw [all2_nth_false (i := i) (by omega) (by omega) (by assumption), Bool.and_false]; done) | (rw [all2_nth_true (by omega) (fun x hx => hg1.2 x (by omega))]; simp_all; done) | (rw [decide_eq_false (by simp_all)]; rfl)))
      ·try simp only [Q, Pat.cs_len, Bool.not_eq_true', Bool.not_eq_false', decide_eq_false_iff_not] at h5p
       refine Walk.call (cr := []) cal128 (impl_ctorsOf_v hw ht) rfl .none rfl rfl (LeL.refl _) trivial rfl rfl rfl ?_
       refine evd [] [] ?_
       refine Walk.call (cr := []) cal127 (slices_Contains_int_fn hcl) rfl .none rfl rfl (LeL.refl _) trivial rfl rfl rfl ?_
       refine evd [] [] ?_
       refine dr ?_
       refine sq (fun h7 h7p h7s => ?_) fun h7 h7p h7s => ?_
       ·try simp only [Q, Pat.cs_len, Bool.not_eq_true', Bool.not_eq_false', decide_eq_false_iff_not] at h7p
        refine rn0 (r1 rfl) (.eqd ?_)
        all_goals (refine congrArg D.bool ?_; rw [someP_succ]; first | (rw [if_pos (by omega), dec_pos]; done) | (rw [if_neg (by omega), if_pos (by omega)]; done) | (rw [if_neg (by omega), if_neg (by omega), if_pos (by omega)]; first | rfl | (simp_all; done)) | (rw [if_neg (by omega), if_neg (by omega), if_neg (by omega), if_pos (by omega)]; done) | (rw [if_neg (by omega), if_neg (by omega), if_neg (by omega), if_neg (by omega)]; first | (rw [all2_nth_false (i := i) (by omega) (by omega) (by assumption), Bool.and_false]; done) | (rw [all2_nth_true (by omega) (fun x hx => hg1.2 x (by omega))]; simp_all; done) | (rw [decide_eq_false (by simp_all)]; rfl)))
       ·try simp only [Q, Pat.cs_len, Bool.not_eq_true', Bool.not_eq_false', decide_eq_false_iff_not] at h7p
        refine Walk.call (cr := []) cal129 (impl_argTypes_v hw ht (by simp_all)) rfl .none rfl rfl (LeL.refl _) trivial rfl rfl rfl ?_
        refine evd [] [] ?_
        refine dr ?_
        refine CWp.loopX (ι := Nat) hk (fun i => [(69, .d (.i (i : Int)))]) [6, 7, 8, 70, 71, 72, 73, 74, 75, 76, 77, 78, 79, 80, 81, 82, 83] (fun i => []) (fun i => i ≤ (argsOf w ⟨a, k⟩ p.ctor).length ∧ ∀ i', i' < i → someP w f n (nth (argsOf w ⟨a, k⟩ p.ctor) i') (nth p.kids i') = true) (fun i => (argsOf w ⟨a, k⟩ p.ctor).length - i) 0 ⟨by omega, fun _ h => absurd h (by omega)⟩ ⟨⟨_, rfl, (LeA.eqi (by first | rfl | (simp; done) | (simp_all; done) | omega))⟩, trivial⟩ trivial (fun x => rfl) (fun i hg1 => ?_)
        refine evc [] [] ?_
        refine sq (fun h8 h8p h8s => ?_) fun h8 h8p h8s => ?_
        ·try simp only [Q, Pat.cs_len, Bool.not_eq_true', Bool.not_eq_false', decide_eq_false_iff_not] at h8p
         refine Walk.idx sl25 .none rfl rfl rfl rfl (at_nth (by omega)) rfl ?_
         refine ev ?_
         refine Walk.alloc (id := 3008) tz31 rfl .none rfl rfl rfl rfl ?_
         refine ev ?_
         refine Walk.store ty31 .none rfl rfl rfl rfl rfl rfl (by simp) rfl ?_
         refine tv ?_
         refine Walk.idx sl56 .none rfl rfl rfl rfl (pats_at (by omega)) rfl ?_
         refine evd [] [] ?_
         refine Walk.call (cr := []) cal79 (impl_matches_fn hd n (pk.arg (by omega) i (by omega)) (hal (by assumption) _ (nth_mem (by omega))) (Pats.ok_mem hok.2 _ (nth_mem (by omega)))) rfl .none rfl rfl (LeL.refl _) trivial rfl rfl rfl ?_
         refine evd [] [] ?_
         refine dr ?_
         refine sq (fun h9 h9p h9s => ?_) fun h9 h9p h9s => ?_
         ·try simp only [Q, Pat.cs_len, Bool.not_eq_true', Bool.not_eq_false', decide_eq_false_iff_not] at h9p
          refine rn0 (r1 rfl) (.eqd ?_)
          all_goals (refine congrArg D.bool ?_; rw [someP_succ]; first | (rw [if_pos (by omega), dec_pos]; done) | (rw [if_neg (by omega), if_pos (by omega)]; done) | (rw [if_neg (by omega), if_neg (by omega), if_pos (by omega)]; first | rfl | (simp_all; done)) | (rw [if_neg (by omega), if_neg (by omega), if_neg (by omega), if_pos (by omega)]; done) | (rw [if_neg (by omega), if_neg (by omega), if_neg (by omega), if_neg (by omega)]; first | (rw [all2_nth_false (i := i) (by omega) (by omega) (by assumption), Bool.and_false]; done) | (rw [all2_nth_true (by omega) (fun x hx => hg1.2 x (by omega))]; simp_all; done) | (rw [decide_eq_false (by simp_all)]; rfl)))
         ·try simp only [Q, Pat.cs_len, Bool.not_eq_true', Bool.not_eq_false', decide_eq_false_iff_not] at h9p
          refine ar ?_
          refine Exists.intro (i + 1) ⟨⟨by omega, upto_succ hg1.2 (by assumption)⟩, (by omega), Sub.x (by kernel_rfl) (by kernel_rfl) ⟨⟨_, rfl, (LeA.eqi (by first | rfl | (simp; done) | (simp_all; done) | omega))⟩, trivial⟩ (by kernel_rfl) (by kernel_rfl) trivial⟩
        ·try simp only [Q, Pat.cs_len, Bool.not_eq_true', Bool.not_eq_false', decide_eq_false_iff_not] at h8p
         refine rn0 (r1 rfl) (.eqd ?_)
         all_goals (refine congrArg D.bool ?_; rw [someP_succ]; first | (rw [if_pos (by omega), dec_pos]; done) | (rw [if_neg (by omega), if_pos (by omega)]; done) | (rw [if_neg (by omega), if_neg (by omega), if_pos (by omega)]; first | rfl | (simp_all; done)) | (rw [if_neg (by omega), if_neg (by omega), if_neg (by omega), if_pos (by omega)]; done) | (rw [if_neg (by omega), if_neg (by omega), if_neg (by omega), if_neg (by omega)]; first | (rw [all2_nth_false (i := i) (by omega) (by omega) (by assumption), Bool.and_false]; done) | (rw [all2_nth_true (by omega) (fun x hx => hg1.2 x (by omega))]; simp_all; done) | (rw [decide_eq_false (by simp_all)]; rfl)))
  ·try simp only [Q, Pat.cs_len, Bool.not_eq_true', Bool.not_eq_false', decide_eq_false_iff_not] at h1p
   refine sq (fun h10 h10p h10s => ?_) fun h10 h10p h10s => ?_
   ·try simp only [Q, Pat.cs_len, Bool.not_eq_true', Bool.not_eq_false', decide_eq_false_iff_not] at h10p
    refine Walk.call (cr := []) cal126 (impl_of_fn (n := w.length * 4) (f := f) hi (by omega)) rfl .none rfl rfl (LeL.refl _) trivial rfl rfl rfl ?_
    refine evd [] [] ?_
    refine dr ?_
    refine rn0 (r1 rfl) (.eqd ?_)
    all_goals (refine congrArg D.bool ?_; rw [someP_succ]; first | (rw [if_pos (by omega), dec_pos]; done) | (rw [if_neg (by omega), if_pos (by omega)]; done) | (rw [if_neg (by omega), if_neg (by omega), if_pos (by omega)]; first | rfl | (simp_all; done)) | (rw [if_neg (by omega), if_neg (by omega), if_neg (by omega), if_pos (by omega)]; done) | (rw [if_neg (by omega), if_neg (by omega), if_neg (by omega), if_neg (by omega)]; first | (rw [all2_nth_false (i := i) (by omega) (by omega) (by assumption), Bool.and_false]; done) | (rw [all2_nth_true (by omega) (fun x hx => hg1.2 x (by omega))]; simp_all; done) | (rw [decide_eq_false (by simp_all)]; rfl)))
   ·try simp only [Q, Pat.cs_len, Bool.not_eq_true', Bool.not_eq_false', decide_eq_false_iff_not] at h10p
    refine sq (fun h11 h11p h11s => ?_) fun h11 h11p h11s => ?_
    ·try simp only [Q, Pat.cs_len, Bool.not_eq_true', Bool.not_eq_false', decide_eq_false_iff_not] at h11p
     refine rn0 (r1 rfl) (.eqd ?_)
     all_goals (refine congrArg D.bool ?_; rw [someP_succ]; first | (rw [if_pos (by omega), dec_pos]; done) | (rw [if_neg (by omega), if_pos (by omega)]; done) | (rw [if_neg (by omega), if_neg (by omega), if_pos (by omega)]; first | rfl | (simp_all; done)) | (rw [if_neg (by omega), if_neg (by omega), if_neg (by omega), if_pos (by omega)]; done) | (rw [if_neg (by omega), if_neg (by omega), if_neg (by omega), if_neg (by omega)]; first | (rw [all2_nth_false (i := i) (by omega) (by omega) (by assumption), Bool.and_false]; done) | (rw [all2_nth_true (by omega) (fun x hx => hg1.2 x (by omega))]; simp_all; done) | (rw [decide_eq_false (by simp_all)]; rfl)))
    ·try simp only [Q, Pat.cs_len, Bool.not_eq_true', Bool.not_eq_false', decide_eq_false_iff_not] at h11p
     refine sq (fun h12 h12p h12s => ?_) fun h12 h12p h12s => ?_
     ·try simp only [Q, Pat.cs_len, Bool.not_eq_true', Bool.not_eq_false', decide_eq_false_iff_not] at h12p
      refine Walk.idx (i := 0) sl56 .none rfl rfl rfl rfl (pats_at (by omega)) rfl ?_
      refine evd [] [] ?_
      refine Walk.call (cr := []) cal79 (impl_matches_fn hd n (k' := k') (pk.one (by omega)) hi (Pats.ok_mem hok.2 _ (nth_mem (i := 0) (by omega)))) rfl .none rfl rfl (LeL.refl _) trivial rfl rfl rfl ?_
      refine evd [] [] ?_
      refine dr ?_
      refine rn0 (r1 rfl) (.eqd ?_)
      all_goals (refine congrArg D.bool ?_; rw [someP_succ]; first | (rw [if_pos (by omega), dec_pos]; done) | (rw [if_neg (by omega), if_pos (by omega)]; done) | (rw [if_neg (by omega), if_neg (by omega), if_pos (by omega)]; first | rfl | (simp_all; done)) | (rw [if_neg (by omega), if_neg (by omega), if_neg (by omega), if_pos (by omega)]; done) | (rw [if_neg (by omega), if_neg (by omega), if_neg (by omega), if_neg (by omega)]; first | (rw [all2_nth_false (i := i) (by omega) (by omega) (by assumption), Bool.and_false]; done) | (rw [all2_nth_true (by omega) (fun x hx => hg1.2 x (by omega))]; simp_all; done) | (rw [decide_eq_false (by simp_all)]; rfl)))
     ·try simp only [Q, Pat.cs_len, Bool.not_eq_true', Bool.not_eq_false', decide_eq_false_iff_not] at h12p
      refine sq (fun h13 h13p h13s => ?_) fun h13 h13p h13s => ?_
      ·try simp only [Q, Pat.cs_len, Bool.not_eq_true', Bool.not_eq_false', decide_eq_false_iff_not] at h13p
       refine Walk.idx (i := 0) sl56 .none rfl rfl rfl rfl (pats_at (by omega)) rfl ?_
       refine evd [] [] ?_
       refine Walk.call (cr := []) cal79 (impl_matches_fn hd n (k' := k') (pk.one (by omega)) hi (Pats.ok_mem hok.2 _ (nth_mem (i := 0) (by omega)))) rfl .none rfl rfl (LeL.refl _) trivial rfl rfl rfl ?_
       refine evd [] [] ?_
       refine sq (fun h14 h14p h14s => ?_) fun h14 h14p h14s => ?_
       ·try simp only [Q, Pat.cs_len, Bool.not_eq_true', Bool.not_eq_false', decide_eq_false_iff_not] at h14p
        refine dr ?_
        refine rn0 (r1 rfl) (.eqd ?_)
        all_goals (refine congrArg D.bool ?_; rw [someP_succ]; first | (rw [if_pos (by omega), dec_pos]; done) | (rw [if_neg (by omega), if_pos (by omega)]; done) | (rw [if_neg (by omega), if_neg (by omega), if_pos (by omega)]; first | rfl | (simp_all; done)) | (rw [if_neg (by omega), if_neg (by omega), if_neg (by omega), if_pos (by omega)]; done) | (rw [if_neg (by omega), if_neg (by omega), if_neg (by omega), if_neg (by omega)]; first | (rw [all2_nth_false (i := i) (by omega) (by omega) (by assumption), Bool.and_false]; done) | (rw [all2_nth_true (by omega) (fun x hx => hg1.2 x (by omega))]; simp_all; done) | (rw [decide_eq_false (by simp_all)]; rfl)))
       ·try simp only [Q, Pat.cs_len, Bool.not_eq_true', Bool.not_eq_false', decide_eq_false_iff_not] at h14p
        refine Walk.idx (i := 1) sl56 (.some rfl rfl h14) rfl rfl rfl rfl (pats_at (by omega)) rfl ?_
        refine evd [] [(41, false)] ?_ ⟨⟨_, rfl, h14⟩, trivial⟩
        refine Walk.call (cr := []) cal79 (impl_matches_fn hd n (k' := k') (pk.two (by omega)) hi (Pats.ok_mem hok.2 _ (nth_mem (i := 1) (by omega)))) rfl (.some rfl rfl h14) rfl rfl (LeL.refl _) trivial rfl rfl rfl ?_
        refine evd [] [(41, false)] ?_ ⟨⟨_, rfl, h14⟩, trivial⟩
        refine dr ?_
        refine rn0 (r1 rfl) (.eqd ?_)
        all_goals (refine congrArg D.bool ?_; rw [someP_succ]; first | (rw [if_pos (by omega), dec_pos]; done) | (rw [if_neg (by omega), if_pos (by omega)]; done) | (rw [if_neg (by omega), if_neg (by omega), if_pos (by omega)]; first | rfl | (simp_all; done)) | (rw [if_neg (by omega), if_neg (by omega), if_neg (by omega), if_pos (by omega)]; done) | (rw [if_neg (by omega), if_neg (by omega), if_neg (by omega), if_neg (by omega)]; first | (rw [all2_nth_false (i := i) (by omega) (by omega) (by assumption), Bool.and_false]; done) | (rw [all2_nth_true (by omega) (fun x hx => hg1.2 x (by omega))]; simp_all; done) | (rw [decide_eq_false (by simp_all)]; rfl)))
      ·try simp only [Q, Pat.cs_len, Bool.not_eq_true', Bool.not_eq_false', decide_eq_false_iff_not] at h13p
       refine Walk.call (cr := []) cal128 (impl_ctorsOf_v hw ht) rfl .none rfl rfl (LeL.refl _) trivial rfl rfl rfl ?_
       refine evd [] [] ?_
       refine Walk.call (cr := []) cal127 (slices_Contains_int_fn hcl) rfl .none rfl rfl (LeL.refl _) trivial rfl rfl rfl ?_
       refine evd [] [] ?_
       refine dr ?_
       refine sq (fun h15 h15p h15s => ?_) fun h15 h15p h15s => ?_
       ·try simp only [Q, Pat.cs_len, Bool.not_eq_true', Bool.not_eq_false', decide_eq_false_iff_not] at h15p
        refine rn0 (r1 rfl) (.eqd ?_)
        all_goals (refine congrArg D.bool ?_; rw [someP_succ]; first | (rw [if_pos (by omega), dec_pos]; done) | (rw [if_neg (by omega), if_pos (by omega)]; done) | (rw [if_neg (by omega), if_neg (by omega), if_pos (by omega)]; first | rfl | (simp_all; done)) | (rw [if_neg (by omega), if_neg (by omega), if_neg (by omega), if_pos (by omega)]; done) | (rw [if_neg (by omega), if_neg (by omega), if_neg (by omega), if_neg (by omega)]; first | (rw [all2_nth_false (i := i) (by omega) (by omega) (by assumption), Bool.and_false]; done) | (rw [all2_nth_true (by omega) (fun x hx => hg1.2 x (by omega))]; simp_all; done) | (rw [decide_eq_false (by simp_all)]; rfl)))
       ·try simp only [Q, Pat.cs_len, Bool.not_eq_true', Bool.not_eq_false', decide_eq_false_iff_not] at h15p
        refine Walk.call (cr := []) cal129 (impl_argTypes_v hw ht (by simp_all)) rfl .none rfl rfl (LeL.refl _) trivial rfl rfl rfl ?_
        refine evd [] [] ?_
        refine dr ?_
        refine CWp.loopX (ι := Nat) hk (fun i => [(69, .d (.i (i : Int)))]) [6, 7, 8, 70, 71, 72, 73, 74, 75, 76, 77, 78, 79, 80, 81, 82, 83] (fun i => []) (fun i => i ≤ (argsOf w ⟨a, k⟩ p.ctor).length ∧ ∀ i', i' < i → someP w f n (nth (argsOf w ⟨a, k⟩ p.ctor) i') (nth p.kids i') = true) (fun i => (argsOf w ⟨a, k⟩ p.ctor).length - i) 0 ⟨by omega, fun _ h => absurd h (by omega)⟩ ⟨⟨_, rfl, (LeA.eqi (by first | rfl | (simp; done) | (simp_all; done) | omega))⟩, trivial⟩ trivial (fun x => rfl) (fun i hg1 => ?_)
        refine evc [] [] ?_
        refine sq (fun h16 h16p h16s => ?_) fun h16 h16p h16s => ?_
        ·try simp only [Q, Pat.cs_len, Bool.not_eq_true', Bool.not_eq_false', decide_eq_false_iff_not] at h16p
         refine Walk.idx sl25 .none rfl rfl rfl rfl (at_nth (by omega)) rfl ?_
         refine ev ?_
         refine Walk.alloc (id := 3008) tz31 rfl .none rfl rfl rfl rfl ?_
         refine ev ?_
         refine Walk.store ty31 .none rfl rfl rfl rfl rfl rfl (by simp) rfl ?_
         refine tv ?_
         refine Walk.idx sl56 .none rfl rfl rfl rfl (pats_at (by omega)) rfl ?_
         refine evd [] [] ?_
         refine Walk.call (cr := []) cal79 (impl_matches_fn hd n (pk.arg (by omega) i (by omega)) (hal (by assumption) _ (nth_mem (by omega))) (Pats.ok_mem hok.2 _ (nth_mem (by omega)))) rfl .none rfl rfl (LeL.refl _) trivial rfl rfl rfl ?_
         refine evd [] [] ?_
         refine dr ?_
         refine sq (fun h17 h17p h17s => ?_) fun h17 h17p h17s => ?_
         ·try simp only [Q, Pat.cs_len, Bool.not_eq_true', Bool.not_eq_false', decide_eq_false_iff_not] at h17p
          refine rn0 (r1 rfl) (.eqd ?_)
          all_goals (refine congrArg D.bool ?_; rw [someP_succ]; first | (rw [if_pos (by omega), dec_pos]; done) | (rw [if_neg (by omega), if_pos (by omega)]; done) | (rw [if_neg (by omega), if_neg (by omega), if_pos (by omega)]; first | rfl | (simp_all; done)) | (rw [if_neg (by omega), if_neg (by omega), if_neg (by omega), if_pos (by omega)]; done) | (rw [if_neg (by omega), if_neg (by omega), if_neg (by omega), if_neg (by omega)]; first | (rw [all2_nth_false (i := i) (by omega) (by omega) (by assumption), Bool.and_false]; done) | (rw [all2_nth_true (by omega) (fun x hx => hg1.2 x (by omega))]; simp_all; done) | (rw [decide_eq_false (by simp_all)]; rfl)))
         ·try simp only [Q, Pat.cs_len, Bool.not_eq_true', Bool.not_eq_false', decide_eq_false_iff_not] at h17p
          refine ar ?_
          refine Exists.intro (i + 1) ⟨⟨by omega, upto_succ hg1.2 (by assumption)⟩, (by omega), Sub.x (by kernel_rfl) (by kernel_rfl) ⟨⟨_, rfl, (LeA.eqi (by first | rfl | (simp; done) | (simp_all; done) | omega))⟩, trivial⟩ (by kernel_rfl) (by kernel_rfl) trivial⟩
        ·try simp only [Q, Pat.cs_len, Bool.not_eq_true', Bool.not_eq_false', decide_eq_false_iff_not] at h16p
         refine rn0 (r1 rfl) (.eqd ?_)
         all_goals (refine congrArg D.bool ?_; rw [someP_succ]; first | (rw [if_pos (by omega), dec_pos]; done) | (rw [if_neg (by omega), if_pos (by omega)]; done) | (rw [if_neg (by omega), if_neg (by omega), if_pos (by omega)]; first | rfl | (simp_all; done)) | (rw [if_neg (by omega), if_neg (by omega), if_neg (by omega), if_pos (by omega)]; done) | (rw [if_neg (by omega), if_neg (by omega), if_neg (by omega), if_neg (by omega)]; first | (rw [all2_nth_false (i := i) (by omega) (by omega) (by assumption), Bool.and_false]; done) | (rw [all2_nth_true (by omega) (fun x hx => hg1.2 x (by omega))]; simp_all; done) | (rw [decide_eq_false (by simp_all)]; rfl)))
theorem tv_facts {w : List Data} {a k : Int} (h : typeValid w ⟨a, k⟩ = true) : worldValid w = true ∧ TyIn w.length ⟨a, k⟩ ∧ (a ≠ -1 → 0 ≤ a ∧ a.toNat < w.length ∧ 0 ≤ k ∧ k ≤ 3) := by
 unfold typeValid at h
 rw [Bool.and_eq_true] at h
 obtain ⟨h1, h2⟩ := h
 simp only [typeOk, within, Bool.or_eq_true, Bool.and_eq_true, decide_eq_true_eq, and_true] at h2
 refine ⟨h1, ?_, fun ha => by omega⟩
 rcases h2 with h | h
 ·exact .inl h.1
 ·exact .inr ⟨a.toNat, by simp only; omega, by omega⟩
theorem ins_of {n d j : Nat} (hd : d < n) (hj : j < 4) : InS (n * 4) ⟨(d : Int), (j : Int)⟩ :=
 .inr ⟨by simp only [slotT, Int.toNat_natCast]; omega, by simp only [slotT, Int.toNat_natCast]; exact tyS_ij hj⟩
def ixOk (w : List Data) (a k : Int) (p : Pat) (m : Nat) : Bool := decide (k = 0 ∨ k = (m : Int)) && someP w (depthT w) 10 ⟨a, (m : Int)⟩ p
def idxTo (w : List Data) (a k : Int) (p : Pat) : Nat → List Int
 | 0 => []
 | m + 1 => idxTo w a k p m ++ (if ixOk w a k p (m + 1) then [((m + 1 : Nat) : Int)] else [])
theorem idxTo_len {w : List Data} {a k : Int} {p : Pat} : ∀ m, (idxTo w a k p m).length ≤ m
 | 0 => by simp [idxTo]
 | m + 1 => by
  have := idxTo_len (w := w) (a := a) (k := k) (p := p) m
  simp only [idxTo, List.length_append]
  split
  ·simp only [List.length_singleton]; omega
  ·simp only [List.length_nil]; omega
theorem idxTo_yes {w : List Data} {a k : Int} {p : Pat} {m : Nat} (h : ixOk w a k p (m + 1) = true) : idxTo w a k p (m + 1) = idxTo w a k p m ++ [((m + 1 : Nat) : Int)] := by
 simp only [idxTo]; rw [if_pos h]
theorem idxTo_no {w : List Data} {a k : Int} {p : Pat} {m : Nat} (h : ixOk w a k p (m + 1) = false) : idxTo w a k p (m + 1) = idxTo w a k p m := by
 simp only [idxTo]; rw [if_neg (by rw [h]; simp), List.append_nil]
def patValid (w : List Data) (a k : Int) (p : Pat) : Bool := typeValid w ⟨a, k⟩ && isP w ⟨a, k⟩ p
def indicesV (w : List Data) (a k : Int) (p : Pat) : List Int := if patValid w a k p = true ∧ a ≠ -1 then idxTo w a k p 3 else []
structure PVal (w : List Data) (a k : Int) (p : Pat) : Prop where
 dp : Dp w
 tin : TyIn w.length ⟨a, k⟩
 shape : shapeP w 10 ⟨a, k⟩ p = true
 rng : a ≠ -1 → 0 ≤ a ∧ a.toNat < w.length ∧ 0 ≤ k ∧ k ≤ 3
theorem pval {w : List Data} (hs : WSmall w) {a k : Int} {p : Pat} (h : patValid w a k p = true) : PVal w a k p := by
 unfold patValid at h
 rw [Bool.and_eq_true] at h
 obtain ⟨h1, h2, h3⟩ := tv_facts h.1
 have h4 := h.2
 unfold isP at h4
 simp only [Bool.and_eq_true] at h4
 exact ⟨valid_dp hs h1, h2, h4.1, h3⟩
theorem impl_PatternValid_fn {w : List Data} (hs : WSmall w) {a k : Int} {p : Pat} (hok : p.ok) :
  FnD Try.prog 39 [.d (encDatas w), .agg [.d (.i a), .d (.i k)], .agg [.d (.i p.op), .d (.i p.ctor), .d (.i p.n), .d (.i p.m), .d (.i p.var), .d (encPats p.kids)]] [] (.d (.bool (patValid w a k p))) [] := by
 refine bd Try.f39 16 [] [] fun w0 F0 own kept hk => ?_
 refine Walk.box (id := 3004) .none rfl rfl rfl rfl rfl rfl rfl ?_
 refine Walk.box (id := 3005) .none rfl rfl rfl rfl rfl rfl rfl ?_
 refine ev ?_
 refine Walk.call (cr := []) cal16 (impl_TypeValid_fn hs) rfl .none rfl rfl (LeL.refl _) trivial rfl rfl rfl ?_
 refine ev ?_
 refine sq (fun h1 h1p h1s => ?_) fun h1 h1p h1s => ?_
 ·try simp only [Q] at h1p
  refine Walk.call (cr := []) cal83 (impl_patternOk_fn (valid_wt hs (tv_facts h1s).1) (tv_facts h1s).2.1 hok) rfl (.some rfl rfl h1) rfl rfl (LeL.refl _) trivial rfl rfl rfl ?_
  refine evs [] [(10, true)] ?_ ⟨⟨_, rfl, h1⟩, trivial⟩
  refine rn0 (r1 rfl) (.eqd ?_)
  all_goals (refine congrArg D.bool ?_; unfold patValid; simp_all)
 ·try simp only [Q] at h1p
  refine rn0 (r1 rfl) (.eqd ?_)
  all_goals (refine congrArg D.bool ?_; unfold patValid; simp_all)
theorem spec_TypeValid_v {w : List Data} {a b : Int} (hs : WSmall w) : FnD Try.prog 61 [.d (encDatas w), .agg [.d (.i a), .d (.i b)]] [] (.d (.bool (typeValid w ⟨a, b⟩))) [] := by
 rw [← spec_tv]; exact spec_TypeValid_fn hs
theorem spec_PatternValid_fn {w : List Data} (hs : WSmall w) {a k : Int} {p : Pat} (hok : p.ok) (hb : p.size ≤ 1000000000000) :
  FnD Try.prog 80 [.d (encDatas w), .agg [.d (.i a), .d (.i k)], .agg [.d (.i p.op), .d (.i p.ctor), .d (.i p.n), .d (.i p.m), .d (.i p.var), .d (encPats p.kids)]] [] (.d (.bool (patValid w a k p))) [] := by
 refine bd Try.f80 16 [] [] fun w0 F0 own kept hk => ?_
 refine Walk.box (id := 3004) .none rfl rfl rfl rfl rfl rfl rfl ?_
 refine Walk.box (id := 3005) .none rfl rfl rfl rfl rfl rfl rfl ?_
 refine ev ?_
 refine Walk.call (cr := []) cal61 (spec_TypeValid_v hs) rfl .none rfl rfl (LeL.refl _) trivial rfl rfl rfl ?_
 refine ev ?_
 refine sq (fun h1 h1p h1s => ?_) fun h1 h1p h1s => ?_
 ·try simp only [Q] at h1p
  refine Walk.call (cr := []) cal87 (spec_l3Is_fn (valid_wt hs (tv_facts h1s).1) (tv_facts h1s).2.1 hok hb) rfl (.some rfl rfl h1) rfl rfl (LeL.refl _) trivial rfl rfl rfl ?_
  refine evs [] [(10, true)] ?_ ⟨⟨_, rfl, h1⟩, trivial⟩
  refine rn0 (r1 rfl) (.eqd ?_)
  all_goals (refine congrArg D.bool ?_; unfold patValid; simp_all)
 ·try simp only [Q] at h1p
  refine rn0 (r1 rfl) (.eqd ?_)
  all_goals (refine congrArg D.bool ?_; unfold patValid; simp_all)
theorem impl_IndicesOf_fn {w : List Data} (hs : WSmall w) {a k : Int} {p : Pat} (hok : p.ok) :
  FnD Try.prog 36 [.d (encDatas w), .agg [.d (.i a), .d (.i k)], .agg [.d (.i p.op), .d (.i p.ctor), .d (.i p.n), .d (.i p.m), .d (.i p.var), .d (encPats p.kids)]] [] (.d (encInts (indicesV w a k p))) [] := by
 by_cases hv : patValid w a k p = true ∧ a ≠ -1
 ·have pv := pval hs hv.1
  have hr := pv.rng hv.2
  have hd := pv.dp
  have hin : ∀ m : Nat, m < 4 → InS (w.length * 4) ⟨a, (m : Int)⟩ := fun m hm => by
   have := ins_of (n := w.length) hr.2.1 hm
   rwa [Int.toNat_of_nonneg hr.1] at this
  refine bd Try.f36 49 [8] [1, 8] fun w0 F0 own kept hk => ?_
  refine Walk.box (id := 3004) .none rfl rfl rfl rfl rfl rfl rfl ?_
  refine Walk.box (id := 3005) .none rfl rfl rfl rfl rfl rfl rfl ?_
  refine evs [8] [] ?_
  refine CWp.regionJ ?_
  refine WRest.join 10 [(19, .d (.bool (false)))] [10, 11, 12, 13, 14, 15, 16, 17, 18] ?_ ?_
  ·
   refine evs [8] [] ?_
   refine Walk.call (cr := []) cal39 (impl_PatternValid_fn hs hok) rfl .none rfl rfl (LeL.refl _) trivial rfl rfl rfl ?_
   refine evs [8] [] ?_
   refine sq (fun h1 h1p h1s => ?_) fun h1 h1p h1s => ?_
   ·try simp only [Q] at h1p
    exact jn rfl (LeA.eqb (by first | rfl | (simp_all; done) | (simp [ixOk, h1s, h1p]; done) | (unfold ixOk; rw [Bool.eq_iff_iff]; simp_all; done) | (unfold ixOk; rw [Bool.eq_iff_iff]; simp_all; omega)))
   ·try simp only [Q] at h1p
    exact jn rfl (LeA.eqb (by first | rfl | (simp_all; done) | (simp [ixOk, h1s, h1p]; done) | (unfold ixOk; rw [Bool.eq_iff_iff]; simp_all; done) | (unfold ixOk; rw [Bool.eq_iff_iff]; simp_all; omega)))
  refine WRest.done ?_
  refine tv ?_
  refine sq (fun h2 h2p h2s => ?_) fun h2 h2p h2s => ?_
  ·try simp only [Q] at h2p
   exact absurd h2 (by simp) --stop
  ·try simp only [Q] at h2p
   refine Walk.call (cr := []) cal78 (impl_newSpaces_fn hd) rfl .none rfl rfl (LeL.refl _) trivial rfl rfl rfl ?_
   refine evs [8] [] ?_
   refine Walk.assignNil 1 1 .none rfl rfl ?_
   refine tv ?_
   refine CWp.loopX (ι := Nat) hk (fun m => [(9, .d (.i (((m + 1 : Nat)) : Int))), (8, .gl 1 ((idxTo w a k p m).map fun n => [D.i n]))]) [22, 23, 24, 25, 26, 27, 28, 29, 30, 31, 32, 33, 34, 35, 36, 37, 38, 39, 40, 41, 42, 43, 44, 45, 46, 47] (fun m => [(1, some (.tok (((idxTo w a k p m).map fun n => [D.i n])).length 1))]) (fun m => m ≤ 3) (fun m => 3 - m) 0 (by omega) ⟨⟨_, rfl, (LeA.eqi (by first | rfl | (simp; done) | (rw [idxTo_yes (by assumption)]; simp; done) | (rw [idxTo_no (by assumption)]; done) | omega))⟩, ⟨⟨_, rfl, (LeA.glg (by first | rfl | (simp; done) | (rw [idxTo_yes (by assumption)]; simp; done) | (rw [idxTo_no (by assumption)]; done) | omega))⟩, trivial⟩⟩ ⟨beq_nat_eq (by first | rfl | (simp; done) | (simp; omega) | (first | rfl | (simp; done) | (rw [idxTo_yes (by assumption)]; simp; done) | (rw [idxTo_no (by assumption)]; done) | omega)), trivial⟩ (fun x => rfl) (fun m hg1 => ?_)
   refine evc [8] [1, 8] ?_
   refine sq (fun h3 h3p h3s => ?_) fun h3 h3p h3s => ?_
   ·try simp only [Q] at h3p
    refine CWp.regionJ ?_
    refine WRest.join 18 [(43, .d (.bool (ixOk w a k p (m + 1))))] [26, 27, 28, 29, 30, 31, 32, 33, 34, 35, 36, 37, 38, 39, 40, 41, 42] ?_ ?_
    ·
     refine evs [8] [] ?_
     refine sq (fun h4 h4p h4s => ?_) fun h4 h4p h4s => ?_
     ·try simp only [Q] at h4p
      refine sqT ?_
      refine Walk.build st31 (ks := [0, 1]) (xs := [_, _]) rfl rfl (.some rfl rfl rfl) rfl rfl rfl ?_
      refine evs [8] [(35, true)] ?_ ⟨⟨_, rfl, rfl⟩, trivial⟩
      refine Walk.call (cr := []) cal79 (impl_matches_fn hd (f := depthT w) 10 (k' := k) pv.shape (hin (m + 1) (by omega)) hok) rfl (.some rfl rfl rfl) rfl rfl (LeL.refl _) trivial rfl rfl rfl ?_
      refine evs [8] [(35, true)] ?_ ⟨⟨_, rfl, rfl⟩, trivial⟩
      exact jn rfl (LeA.eqb (by first | rfl | (simp_all; done) | (simp [ixOk, h2s, h2p, h3s, h3p, h4s, h4p]; done) | (unfold ixOk; rw [Bool.eq_iff_iff]; simp_all; done) | (unfold ixOk; rw [Bool.eq_iff_iff]; simp_all; omega)))
     ·try simp only [Q] at h4p
      refine sq (fun h5 h5p h5s => ?_) fun h5 h5p h5s => ?_
      ·try simp only [Q] at h5p
       refine Walk.build st31 (ks := [0, 1]) (xs := [_, _]) rfl rfl (.some rfl rfl h5) rfl rfl rfl ?_
       refine evs [8] [(35, true)] ?_ ⟨⟨_, rfl, h5⟩, trivial⟩
       refine Walk.call (cr := []) cal79 (impl_matches_fn hd (f := depthT w) 10 (k' := k) pv.shape (hin (m + 1) (by omega)) hok) rfl (.some rfl rfl h5) rfl rfl (LeL.refl _) trivial rfl rfl rfl ?_
       refine evs [8] [(35, true)] ?_ ⟨⟨_, rfl, h5⟩, trivial⟩
       exact jn rfl (LeA.eqb (by first | rfl | (simp_all; done) | (simp [ixOk, h2s, h2p, h3s, h3p, h4s, h4p, h5s, h5p]; done) | (unfold ixOk; rw [Bool.eq_iff_iff]; simp_all; done) | (unfold ixOk; rw [Bool.eq_iff_iff]; simp_all; omega)))
      ·try simp only [Q] at h5p
       exact jn rfl (LeA.eqb (by first | rfl | (simp_all; done) | (simp [ixOk, h2s, h2p, h3s, h3p, h4s, h4p, h5s, h5p]; done) | (unfold ixOk; rw [Bool.eq_iff_iff]; simp_all; done) | (unfold ixOk; rw [Bool.eq_iff_iff]; simp_all; omega)))
    refine WRest.done ?_
    refine tv ?_
    refine sq (fun h6 h6p h6s => ?_) fun h6 h6p h6s => ?_
    ·try simp only [Q] at h6p
     refine Walk.sliceLit sl66 tz3 rfl (by decide) (ks := [0]) (xs := [_]) rfl rfl (by decide) (by decide) .none rfl rfl rfl rfl ?_
     refine Walk.append sl66 zz3 rfl .none rfl rfl rfl rfl (htokL rfl (by first | rfl | (simp; done) | (simp; omega))) (by simp) (by have := idxTo_len (w := w) (a := a) (k := k) (p := p) m; simp; omega) (by have := idxTo_len (w := w) (a := a) (k := k) (p := p) m; simp; omega) ?_
     refine asg ?_
     refine tv ?_
     refine ar ?_
     refine Exists.intro (m + 1) ⟨(by omega), (by omega), Sub.x (by kernel_rfl) (by kernel_rfl) ⟨⟨_, rfl, (LeA.eqi (by first | rfl | (simp; done) | (rw [idxTo_yes (by assumption)]; simp; done) | (rw [idxTo_no (by assumption)]; done) | omega))⟩, ⟨⟨_, rfl, (LeA.glg (by first | rfl | (simp; done) | (rw [idxTo_yes (by assumption)]; simp; done) | (rw [idxTo_no (by assumption)]; done) | omega))⟩, trivial⟩⟩ (by kernel_rfl) (by kernel_rfl) ⟨beq_nat_eq (by first | rfl | (simp; done) | (simp; omega) | (first | rfl | (simp; done) | (rw [idxTo_yes (by assumption)]; simp; done) | (rw [idxTo_no (by assumption)]; done) | omega)), trivial⟩⟩
    ·try simp only [Q] at h6p
     refine ar ?_
     refine Exists.intro (m + 1) ⟨(by omega), (by omega), Sub.x (by kernel_rfl) (by kernel_rfl) ⟨⟨_, rfl, (LeA.eqi (by first | rfl | (simp; done) | (rw [idxTo_yes (by assumption)]; simp; done) | (rw [idxTo_no (by assumption)]; done) | omega))⟩, ⟨⟨_, rfl, (LeA.glg (by first | rfl | (simp; done) | (rw [idxTo_yes (by assumption)]; simp; done) | (rw [idxTo_no (by assumption)]; done) | omega))⟩, trivial⟩⟩ (by kernel_rfl) (by kernel_rfl) ⟨beq_nat_eq (by first | rfl | (simp; done) | (simp; omega) | (first | rfl | (simp; done) | (rw [idxTo_yes (by assumption)]; simp; done) | (rw [idxTo_no (by assumption)]; done) | omega)), trivial⟩⟩
   ·try simp only [Q] at h3p
    refine rn0 (r1 rfl) (.gld ?_)
    all_goals (unfold indicesV; rw [if_pos hv]; have e : m = 3 := (by omega); rw [e])
 ·skip
  refine bd Try.f36 49 [] [1] fun w0 F0 own kept hk => ?_
  refine Walk.box (id := 3004) .none rfl rfl rfl rfl rfl rfl rfl ?_
  refine Walk.box (id := 3005) .none rfl rfl rfl rfl rfl rfl rfl ?_
  refine ev ?_
  refine CWp.regionJ ?_
  refine WRest.join 10 [(19, .d (.bool (true)))] [10, 11, 12, 13, 14, 15, 16, 17, 18] ?_ ?_
  ·
   refine ev ?_
   refine Walk.call (cr := []) cal39 (impl_PatternValid_fn hs hok) rfl .none rfl rfl (LeL.refl _) trivial rfl rfl rfl ?_
   refine ev ?_
   refine sq (fun h1 h1p h1s => ?_) fun h1 h1p h1s => ?_
   ·try simp only [Q] at h1p
    exact jn rfl (LeA.eqb (by first | rfl | (simp_all; done) | (rw [Bool.eq_iff_iff]; simp_all; done)))
   ·try simp only [Q] at h1p
    exact jn rfl (LeA.eqb (by first | rfl | (simp_all; done) | (rw [Bool.eq_iff_iff]; simp_all; done)))
  refine WRest.done ?_
  refine tv ?_
  refine sq (fun h2 h2p h2s => ?_) fun h2 h2p h2s => ?_
  ·try simp only [Q] at h2p
   refine rn0 (r1 rfl) (.nild ?_)
   all_goals (unfold indicesV; rw [if_neg hv]; rfl)
  ·try simp only [Q] at h2p
   exact absurd h2 (by simp) --stop
theorem spec_IndicesOf_fn {w : List Data} (hs : WSmall w) {a k : Int} {p : Pat} (hok : p.ok) (hb : p.size ≤ 1000000000000) :
  FnD Try.prog 38 [.d (encDatas w), .agg [.d (.i a), .d (.i k)], .agg [.d (.i p.op), .d (.i p.ctor), .d (.i p.n), .d (.i p.m), .d (.i p.var), .d (encPats p.kids)]] [] (.d (encInts (indicesV w a k p))) [] := by
 by_cases hv : patValid w a k p = true ∧ a ≠ -1
 ·have pv := pval hs hv.1
  have hr := pv.rng hv.2
  have hd := pv.dp
  have hin : ∀ m : Nat, m < 4 → InS (w.length * 4) ⟨a, (m : Int)⟩ := fun m hm => by
   have := ins_of (n := w.length) hr.2.1 hm
   rwa [Int.toNat_of_nonneg hr.1] at this
  refine bd Try.f38 52 [] [2, 8] fun w0 F0 own kept hk => ?_
  refine Walk.box (id := 3004) .none rfl rfl rfl rfl rfl rfl rfl ?_
  refine Walk.box (id := 3005) .none rfl rfl rfl rfl rfl rfl rfl ?_
  refine ev ?_
  refine Walk.sliceEmptyG 1 sl66 .none rfl rfl ?_
  refine ev ?_
  refine CWp.regionJ ?_
  refine WRest.join 10 [(20, .d (.bool (false)))] [11, 12, 13, 14, 15, 16, 17, 18, 19] ?_ ?_
  ·
   refine ev ?_
   refine Walk.call (cr := []) cal80 (spec_PatternValid_fn hs hok hb) rfl .none rfl rfl (LeL.refl _) trivial rfl rfl rfl ?_
   refine ev ?_
   refine sq (fun h1 h1p h1s => ?_) fun h1 h1p h1s => ?_
   ·try simp only [Q] at h1p
    exact jn rfl (LeA.eqb (by first | rfl | (simp_all; done) | (simp [ixOk, h1s, h1p]; done) | (unfold ixOk; rw [Bool.eq_iff_iff]; simp_all; done) | (unfold ixOk; rw [Bool.eq_iff_iff]; simp_all; omega)))
   ·try simp only [Q] at h1p
    exact jn rfl (LeA.eqb (by first | rfl | (simp_all; done) | (simp [ixOk, h1s, h1p]; done) | (unfold ixOk; rw [Bool.eq_iff_iff]; simp_all; done) | (unfold ixOk; rw [Bool.eq_iff_iff]; simp_all; omega)))
  refine WRest.done ?_
  refine tv ?_
  refine sq (fun h2 h2p h2s => ?_) fun h2 h2p h2s => ?_
  ·try simp only [Q] at h2p
   exact absurd h2 (by simp) --stop
  ·try simp only [Q] at h2p
   refine Walk.call (cr := []) cal81 (spec_l1Table_fn hd) rfl .none rfl rfl (LeL.refl _) trivial rfl rfl rfl ?_
   refine ev ?_
   refine CWp.loopX (ι := Nat) hk (fun m => [(9, .d (.i (((m + 1 : Nat)) : Int))), (7, .gl 1 ((idxTo w a k p m).map fun n => [D.i n]))]) [24, 25, 26, 27, 28, 29, 30, 31, 32, 33, 34, 35, 36, 37, 38, 39, 40, 41, 42, 43, 44, 45, 46, 47, 48, 49, 50] (fun m => [(1, some (.tok (((idxTo w a k p m).map fun n => [D.i n])).length 1))]) (fun m => m ≤ 3) (fun m => 3 - m) 0 (by omega) ⟨⟨_, rfl, (LeA.eqi (by first | rfl | (simp; done) | (rw [idxTo_yes (by assumption)]; simp; done) | (rw [idxTo_no (by assumption)]; done) | omega))⟩, ⟨⟨_, rfl, (LeA.glg (by first | rfl | (simp; done) | (rw [idxTo_yes (by assumption)]; simp; done) | (rw [idxTo_no (by assumption)]; done) | omega))⟩, trivial⟩⟩ ⟨beq_nat_eq (by first | rfl | (simp; done) | (simp; omega) | (first | rfl | (simp; done) | (rw [idxTo_yes (by assumption)]; simp; done) | (rw [idxTo_no (by assumption)]; done) | omega)), trivial⟩ (fun x => rfl) (fun m hg1 => ?_)
   refine evc [] [2, 8] ?_
   refine sq (fun h3 h3p h3s => ?_) fun h3 h3p h3s => ?_
   ·try simp only [Q] at h3p
    refine CWp.regionJ ?_
    refine WRest.join 19 [(46, .d (.bool (ixOk w a k p (m + 1))))] [28, 29, 30, 31, 32, 33, 34, 35, 36, 37, 38, 39, 40, 41, 42, 43, 44, 45] ?_ ?_
    ·
     refine ev ?_
     refine sq (fun h4 h4p h4s => ?_) fun h4 h4p h4s => ?_
     ·try simp only [Q] at h4p
      refine sqT ?_
      refine Walk.build st31 (ks := [0, 1]) (xs := [_, _]) rfl rfl (.some rfl rfl rfl) rfl rfl rfl ?_
      refine evs [] [(37, true)] ?_ ⟨⟨_, rfl, rfl⟩, trivial⟩
      refine Walk.call (cr := []) cal82 (spec_l15Some_fn hd (f := depthT w) 10 (k' := k) pv.shape (hin (m + 1) (by omega)) hok) rfl (.some rfl rfl rfl) rfl rfl (LeL.refl _) trivial rfl rfl rfl ?_
      refine evs [] [(37, true)] ?_ ⟨⟨_, rfl, rfl⟩, trivial⟩
      exact jn rfl (LeA.eqb (by first | rfl | (simp_all; done) | (simp [ixOk, h2s, h2p, h3s, h3p, h4s, h4p]; done) | (unfold ixOk; rw [Bool.eq_iff_iff]; simp_all; done) | (unfold ixOk; rw [Bool.eq_iff_iff]; simp_all; omega)))
     ·try simp only [Q] at h4p
      refine sq (fun h5 h5p h5s => ?_) fun h5 h5p h5s => ?_
      ·try simp only [Q] at h5p
       refine Walk.build st31 (ks := [0, 1]) (xs := [_, _]) rfl rfl (.some rfl rfl h5) rfl rfl rfl ?_
       refine evs [] [(37, true)] ?_ ⟨⟨_, rfl, h5⟩, trivial⟩
       refine Walk.call (cr := []) cal82 (spec_l15Some_fn hd (f := depthT w) 10 (k' := k) pv.shape (hin (m + 1) (by omega)) hok) rfl (.some rfl rfl h5) rfl rfl (LeL.refl _) trivial rfl rfl rfl ?_
       refine evs [] [(37, true)] ?_ ⟨⟨_, rfl, h5⟩, trivial⟩
       exact jn rfl (LeA.eqb (by first | rfl | (simp_all; done) | (simp [ixOk, h2s, h2p, h3s, h3p, h4s, h4p, h5s, h5p]; done) | (unfold ixOk; rw [Bool.eq_iff_iff]; simp_all; done) | (unfold ixOk; rw [Bool.eq_iff_iff]; simp_all; omega)))
      ·try simp only [Q] at h5p
       exact jn rfl (LeA.eqb (by first | rfl | (simp_all; done) | (simp [ixOk, h2s, h2p, h3s, h3p, h4s, h4p, h5s, h5p]; done) | (unfold ixOk; rw [Bool.eq_iff_iff]; simp_all; done) | (unfold ixOk; rw [Bool.eq_iff_iff]; simp_all; omega)))
    refine WRest.done ?_
    refine tv ?_
    refine sq (fun h6 h6p h6s => ?_) fun h6 h6p h6s => ?_
    ·try simp only [Q] at h6p
     refine Walk.sliceLit sl66 tz3 rfl (by decide) (ks := [0]) (xs := [_]) rfl rfl (by decide) (by decide) .none rfl rfl rfl rfl ?_
     refine Walk.append sl66 zz3 rfl .none rfl rfl rfl rfl (htokL rfl (by first | rfl | (simp; done) | (simp; omega))) (by simp) (by have := idxTo_len (w := w) (a := a) (k := k) (p := p) m; simp; omega) (by have := idxTo_len (w := w) (a := a) (k := k) (p := p) m; simp; omega) ?_
     refine ev ?_
     refine ar ?_
     refine Exists.intro (m + 1) ⟨(by omega), (by omega), Sub.x (by kernel_rfl) (by kernel_rfl) ⟨⟨_, rfl, (LeA.eqi (by first | rfl | (simp; done) | (rw [idxTo_yes (by assumption)]; simp; done) | (rw [idxTo_no (by assumption)]; done) | omega))⟩, ⟨⟨_, rfl, (LeA.glg (by first | rfl | (simp; done) | (rw [idxTo_yes (by assumption)]; simp; done) | (rw [idxTo_no (by assumption)]; done) | omega))⟩, trivial⟩⟩ (by kernel_rfl) (by kernel_rfl) ⟨beq_nat_eq (by first | rfl | (simp; done) | (simp; omega) | (first | rfl | (simp; done) | (rw [idxTo_yes (by assumption)]; simp; done) | (rw [idxTo_no (by assumption)]; done) | omega)), trivial⟩⟩
    ·try simp only [Q] at h6p
     refine ar ?_
     refine Exists.intro (m + 1) ⟨(by omega), (by omega), Sub.x (by kernel_rfl) (by kernel_rfl) ⟨⟨_, rfl, (LeA.eqi (by first | rfl | (simp; done) | (rw [idxTo_yes (by assumption)]; simp; done) | (rw [idxTo_no (by assumption)]; done) | omega))⟩, ⟨⟨_, rfl, (LeA.glg (by first | rfl | (simp; done) | (rw [idxTo_yes (by assumption)]; simp; done) | (rw [idxTo_no (by assumption)]; done) | omega))⟩, trivial⟩⟩ (by kernel_rfl) (by kernel_rfl) ⟨beq_nat_eq (by first | rfl | (simp; done) | (simp; omega) | (first | rfl | (simp; done) | (rw [idxTo_yes (by assumption)]; simp; done) | (rw [idxTo_no (by assumption)]; done) | omega)), trivial⟩⟩
   ·try simp only [Q] at h3p
    refine rn0 (r1 rfl) (.gld ?_)
    all_goals (unfold indicesV; rw [if_pos hv]; have e : m = 3 := (by omega); rw [e])
 ·skip
  refine bd Try.f38 52 [] [2] fun w0 F0 own kept hk => ?_
  refine Walk.box (id := 3004) .none rfl rfl rfl rfl rfl rfl rfl ?_
  refine Walk.box (id := 3005) .none rfl rfl rfl rfl rfl rfl rfl ?_
  refine ev ?_
  refine Walk.sliceEmptyG 1 sl66 .none rfl rfl ?_
  refine ev ?_
  refine CWp.regionJ ?_
  refine WRest.join 10 [(20, .d (.bool (true)))] [11, 12, 13, 14, 15, 16, 17, 18, 19] ?_ ?_
  ·
   refine ev ?_
   refine Walk.call (cr := []) cal80 (spec_PatternValid_fn hs hok hb) rfl .none rfl rfl (LeL.refl _) trivial rfl rfl rfl ?_
   refine ev ?_
   refine sq (fun h1 h1p h1s => ?_) fun h1 h1p h1s => ?_
   ·try simp only [Q] at h1p
    exact jn rfl (LeA.eqb (by first | rfl | (simp_all; done) | (rw [Bool.eq_iff_iff]; simp_all; done)))
   ·try simp only [Q] at h1p
    exact jn rfl (LeA.eqb (by first | rfl | (simp_all; done) | (rw [Bool.eq_iff_iff]; simp_all; done)))
  refine WRest.done ?_
  refine tv ?_
  refine sq (fun h2 h2p h2s => ?_) fun h2 h2p h2s => ?_
  ·try simp only [Q] at h2p
   refine rn0 (r1 rfl) (.gld ?_)
   all_goals (unfold indicesV; rw [if_neg hv]; rfl)
  ·try simp only [Q] at h2p
   exact absurd h2 (by simp) --stop
abbrev intC (n : Int) : List D := [D.i n]
def iOne (k : Int) (_ : Int) : Int := k
def iSz (_ : Int) : Int := 1
theorem szL_ints : ∀ l : List Int, szL iSz l = l.length
 | [] => rfl
 | x :: r => by simp only [szL, szL_ints r, iSz, List.length_cons]; omega
theorem iSz_nn : ∀ x, 0 ≤ iSz x := fun _ => by unfold iSz; omega
theorem flatR_ints (l : List Int) : FlatR (l.map intC) := by
 intro x hx y hy
 obtain ⟨t, _, rfl⟩ := List.mem_map.1 hx
 simp only [List.mem_singleton] at hy
 subst hy; rfl
theorem laws_eqIntS_fn {l m : List Int} (h : l.length ≤ 1000000000000) : FnD Try.prog 45 [.d (encInts l), .d (encInts m)] [] (.d (.bool (decide (l = m)))) [] := by
 refine bd Try.f45 26 [] [] fun w0 F0 own kept hk => ?_
 refine sq (fun h1 h1p h1s => ?_) fun h1 h1p h1s => ?_
 ·try simp only [Q, Int.natCast_inj] at h1p
  refine rn0 (r1 rfl) (.eqd ?_)
  all_goals (refine congrArg D.bool ?_; first | (refine (decide_eq_false (fun e => ?_)).symm; subst e; omega) | (refine (decide_eq_false (fun e => ?_)).symm; subst e; simp_all; done) | (refine (decide_eq_true (ext_nth (by omega) (fun x hx => hg1.2 x (by omega)))).symm))
 ·try simp only [Q, Int.natCast_inj] at h1p
  refine CWp.loopX (ι := Nat) hk (fun i => [(5, .d (.i (i : Int)))]) [4, 11, 12, 13, 14, 15, 16, 17, 18, 19, 20, 21, 22, 23, 24, 25] (fun i => []) (fun i => i ≤ l.length ∧ ∀ i', i' < i → nth l i' = nth m i') (fun i => l.length - i) 0 ⟨by omega, fun _ h => absurd h (by omega)⟩ ⟨⟨_, rfl, (LeA.eqi (by first | rfl | (simp; done) | (simp_all; done) | omega))⟩, trivial⟩ trivial (fun x => rfl) (fun i hg1 => ?_)
  refine evc [] [] ?_
  refine sq (fun h2 h2p h2s => ?_) fun h2 h2p h2s => ?_
  ·try simp only [Q, Int.natCast_inj] at h2p
   refine Walk.idx sl66 .none rfl rfl rfl rfl (at_nth (by omega)) rfl ?_
   refine evd [] [] ?_
   refine Walk.idx sl66 .none rfl rfl rfl rfl (at_nth (by omega)) rfl ?_
   refine evd [] [] ?_
   refine dr ?_
   refine sq (fun h3 h3p h3s => ?_) fun h3 h3p h3s => ?_
   ·try simp only [Q, Int.natCast_inj] at h3p
    refine rn0 (r1 rfl) (.eqd ?_)
    all_goals (refine congrArg D.bool ?_; first | (refine (decide_eq_false (fun e => ?_)).symm; subst e; omega) | (refine (decide_eq_false (fun e => ?_)).symm; subst e; simp_all; done) | (refine (decide_eq_true (ext_nth (by omega) (fun x hx => hg1.2 x (by omega)))).symm))
   ·try simp only [Q, Int.natCast_inj] at h3p
    refine ar ?_
    refine Exists.intro (i + 1) ⟨⟨by omega, upto_succ hg1.2 (by simp_all)⟩, (by omega), Sub.x (by kernel_rfl) (by kernel_rfl) ⟨⟨_, rfl, (LeA.eqi (by first | rfl | (simp; done) | (simp_all; done) | omega))⟩, trivial⟩ (by kernel_rfl) (by kernel_rfl) trivial⟩
  ·try simp only [Q, Int.natCast_inj] at h2p
   refine rn0 (r1 rfl) (.eqd ?_)
   all_goals (refine congrArg D.bool ?_; first | (refine (decide_eq_false (fun e => ?_)).symm; subst e; omega) | (refine (decide_eq_false (fun e => ?_)).symm; subst e; simp_all; done) | (refine (decide_eq_true (ext_nth (by omega) (fun x hx => hg1.2 x (by omega)))).symm))
theorem laws_markIntS_tr {m : Bool} {l : List Int} {k : Int} (h0 : 0 ≤ k) (h1 : k + l.length ≤ 1000000000000) : FnD Try.prog 48 [.ms 47 l.length, .d (.i k)] [(47, some (.tree (ownCells m (l.map intC))))]
  (.d (.i (k + l.length))) [(47, some (.tree (ownCells m ((mkL iOne iSz k l).map intC))))] := by
 have hsz := szL_ints l
 refine bd Try.f48 19 [] [] fun w0 F0 own kept hk => ?_
 refine CWp.loopX (ι := List (Int) × List (Int) × (Int)) hk (fun x => [(5, .d (.i (x.1.length : Int))), (1, .d (.i x.2.2))]) [6, 7, 8, 9, 10, 11, 12, 13, 14, 15, 16, 17] (fun x => [(47, some (.tree (ownCells m ((mkL iOne iSz k x.1).map intC) ++ ownCells m (x.2.1.map intC))))]) (fun x => x.1 ++ x.2.1 = l ∧ x.2.2 = k + szL iSz x.1) (fun x => x.2.1.length) ([], l, k) ⟨by simp, by simp [szL]⟩ ⟨⟨_, rfl, (LeA.eqi (by first | rfl | (simp; done) | omega))⟩, ⟨⟨_, rfl, (LeA.eqi (by first | rfl | (simp; done) | omega))⟩, trivial⟩⟩ ⟨(by first | rfl | (show some (Res.tree _) = some (Res.tree _); rw [mkL_snoc, List.map_append, List.map_singleton, ← own_next, hg1.2]; rfl)), trivial⟩ (fun x => rfl) (fun x hg1 => ?_)
 obtain ⟨pre, rest, v⟩ := x
 dsimp only at hg1 ⊢
 refine evc [] [] ?_
 refine sq (fun h1 h1p h1s => ?_) fun h1 h1p h1s => ?_
 ·try simp only [Q] at h1p
  rcases rest with _ | ⟨y, rest⟩
  ·exfalso; simp_all
  have hsp := szL_split (sz := iSz) hg1.1; have hnn := szL_nonneg (l := rest) iSz_nn; have hnp := szL_nonneg (l := pre) iSz_nn; have hys : iSz y = 1 := rfl; have hv := hg1.2
  refine Walk.idxM sl66 .none rfl rfl rfl rfl (by first | omega | (simp ; omega)) ?_
  refine Walk.storeT ty3 .none rfl rfl rfl rfl rfl rfl (by simp) ((putC_off0 (mkL_own_len (kk := 1) m (by intro x; rfl)) putC_c0)) ?_
  refine tv ?_
  refine ar ?_
  refine ar ?_
  refine Exists.intro ((pre ++ [y], rest, v + 1)) ⟨⟨(by have hz := hg1.1; rw [← hz]; simp), (by show v + 1 = _; rw [szL_snoc, hg1.2]; unfold iSz; omega)⟩, (by simp), Sub.x (by kernel_rfl) (by kernel_rfl) ⟨⟨_, rfl, (LeA.eqi (by first | rfl | (simp; done) | omega))⟩, ⟨⟨_, rfl, (LeA.eqi (by first | rfl | (simp; done) | omega))⟩, trivial⟩⟩ (by kernel_rfl) (by kernel_rfl) ⟨(by first | rfl | (show some (Res.tree _) = some (Res.tree _); rw [mkL_snoc, List.map_append, List.map_singleton, ← own_next, hg1.2]; rfl)), trivial⟩⟩
 ·try simp only [Q] at h1p
  have hrest : rest = [] := by
   rcases rest with _ | ⟨a, b⟩
   ·rfl
   ·exfalso; have hz := congrArg List.length (hg1.1); simp only [List.length_append, List.length_cons, List.length_map] at hz; omega
  subst hrest
  refine rn [(47, some (.tree (ownCells m ((mkL iOne iSz k l).map intC))))] (r1 rfl) (.eqd ?_) ⟨rfl, rfl⟩ (SubO.get ⟨.inr (by first | rfl | (obtain ⟨hg1, _⟩ := hg1; rw [List.append_nil] at hg1; subst hg1; show some (Res.tree _) = some (Res.tree _); simp [ownCells_nil]; done)), ⟨.inl rfl, trivial⟩⟩) (boxOK rfl)
  all_goals (first | rfl | (obtain ⟨hg1, hv⟩ := hg1; rw [List.append_nil] at hg1; subst hg1; rw [hv, hsz]))
theorem laws_heldIntS_fn {l : List Int} {k : Int} (h0 : 0 ≤ k) (h1 : k + l.length ≤ 1000000000000) : FnD Try.prog 49 [.d (encInts (mkL iOne iSz k l)), .d (.i k)] [] (.d (.i (k + l.length))) [] := by
 have hsz := szL_ints l
 refine bd Try.f49 21 [] [] fun w0 F0 own kept hk => ?_
 refine CWp.loopX (ι := List (Int) × List (Int) × (Int)) hk (fun x => [(5, .d (.i (x.1.length : Int))), (1, .d (.i x.2.2))]) [4, 6, 7, 8, 9, 10, 11, 12, 13, 14, 15, 16, 17, 18, 19] (fun x => []) (fun x => x.1 ++ x.2.1 = l ∧ x.2.2 = k + szL iSz x.1) (fun x => x.2.1.length) ([], l, k) ⟨by simp, by simp [szL]⟩ ⟨⟨_, rfl, (LeA.eqi (by first | rfl | (simp; done) | omega))⟩, ⟨⟨_, rfl, (LeA.eqi (by first | rfl | (simp; done) | omega))⟩, trivial⟩⟩ trivial (fun x => rfl) (fun x hg1 => ?_)
 obtain ⟨pre, rest, v⟩ := x
 dsimp only at hg1 ⊢
 refine evc [] [] ?_
 refine sq (fun h1 h1p h1s => ?_) fun h1 h1p h1s => ?_
 ·try simp only [Q, mkL_len] at h1p
  rcases rest with _ | ⟨y, rest⟩
  ·exfalso; simp_all
  have hsp := szL_split (sz := iSz) hg1.1; have hnn := szL_nonneg (l := rest) iSz_nn; have hnp := szL_nonneg (l := pre) iSz_nn; have hys : iSz y = 1 := rfl; have hv := hg1.2
  refine Walk.idx sl66 .none rfl rfl rfl rfl (mkL_at hg1.1) rfl ?_
  refine ev ?_
  refine sq (fun h2 h2p h2s => ?_) fun h2 h2p h2s => ?_
  ·try simp only [Q, mkL_len] at h2p
   exfalso; have hv := hg1.2; revert h2; simp [iOne, hv] --stop
  ·try simp only [Q, mkL_len] at h2p
   refine ar ?_
   refine ar ?_
   refine Exists.intro ((pre ++ [y], rest, v + 1)) ⟨⟨(by have hz := hg1.1; rw [← hz]; simp), (by show v + 1 = _; rw [szL_snoc, hg1.2]; unfold iSz; omega)⟩, (by simp), Sub.x (by kernel_rfl) (by kernel_rfl) ⟨⟨_, rfl, (LeA.eqi (by first | rfl | (simp; done) | omega))⟩, ⟨⟨_, rfl, (LeA.eqi (by first | rfl | (simp; done) | omega))⟩, trivial⟩⟩ (by kernel_rfl) (by kernel_rfl) trivial⟩
 ·try simp only [Q, mkL_len] at h1p
  have hrest : rest = [] := by
   rcases rest with _ | ⟨a, b⟩
   ·rfl
   ·exfalso; have hz := congrArg List.length (hg1.1); simp only [List.length_append, List.length_cons, List.length_map] at hz; omega
  subst hrest
  refine rn0 (r1 rfl) (.eqd ?_)
  all_goals (first | rfl | (obtain ⟨hg1, hv⟩ := hg1; rw [List.append_nil] at hg1; subst hg1; rw [hv, hsz]))
theorem impl_IndicesOf_own {w : List Data} (hs : WSmall w) {a k : Int} {p : Pat} (hok : p.ok) (hv : patValid w a k p = true ∧ a ≠ -1) (hne : idxTo w a k p 3 ≠ []) :
  FnD Try.prog 36 [.d (encDatas w), .agg [.d (.i a), .d (.i k)], .agg [.d (.i p.op), .d (.i p.ctor), .d (.i p.n), .d (.i p.m), .d (.i p.var), .d (encPats p.kids)]] [] (.ms 1 (idxTo w a k p 3).length) [(1, some (.tree (ownCells true ((idxTo w a k p 3).map intC))))] := by
 have pv := pval hs hv.1
 have hr := pv.rng hv.2
 have hd := pv.dp
 have hin : ∀ m : Nat, m < 4 → InS (w.length * 4) ⟨a, (m : Int)⟩ := fun m hm => by
  have := ins_of (n := w.length) hr.2.1 hm
  rwa [Int.toNat_of_nonneg hr.1] at this
 refine bd Try.f36 49 [8] [1, 8, 10] fun w0 F0 own kept hk => ?_
 refine Walk.box (id := 3004) .none rfl rfl rfl rfl rfl rfl rfl ?_
 refine Walk.box (id := 3005) .none rfl rfl rfl rfl rfl rfl rfl ?_
 refine evs [8] [] ?_
 refine CWp.regionJ ?_
 refine WRest.join 10 [(19, .d (.bool (false)))] [10, 11, 12, 13, 14, 15, 16, 17, 18] ?_ ?_
 ·
  refine evs [8] [] ?_
  refine Walk.call (cr := []) cal39 (impl_PatternValid_fn hs hok) rfl .none rfl rfl (LeL.refl _) trivial rfl rfl rfl ?_
  refine evs [8] [] ?_
  refine sq (fun h1 h1p h1s => ?_) fun h1 h1p h1s => ?_
  ·try simp only [Q] at h1p
   exact jn rfl (LeA.eqb (by first | rfl | (simp_all; done) | (simp [ixOk, h1s, h1p]; done) | (unfold ixOk; rw [Bool.eq_iff_iff]; simp_all; done) | (unfold ixOk; rw [Bool.eq_iff_iff]; simp_all; omega)))
  ·try simp only [Q] at h1p
   exact jn rfl (LeA.eqb (by first | rfl | (simp_all; done) | (simp [ixOk, h1s, h1p]; done) | (unfold ixOk; rw [Bool.eq_iff_iff]; simp_all; done) | (unfold ixOk; rw [Bool.eq_iff_iff]; simp_all; omega)))
 refine WRest.done ?_
 refine tv ?_
 refine sq (fun h2 h2p h2s => ?_) fun h2 h2p h2s => ?_
 ·try simp only [Q] at h2p
  exact absurd h2 (by simp) --stop
 ·try simp only [Q] at h2p
  refine Walk.call (cr := []) cal78 (impl_newSpaces_fn hd) rfl .none rfl rfl (LeL.refl _) trivial rfl rfl rfl ?_
  refine evs [8] [] ?_
  refine Walk.assignNilV 1 1 .none rfl rfl ?_
  refine tv ?_
  refine CWp.loopX (ι := Nat) hk (fun m => [(9, .d (.i (((m + 1 : Nat)) : Int))), (8, .gv 1 ((idxTo w a k p m).map intC))]) [22, 23, 24, 25, 26, 27, 28, 29, 30, 31, 32, 33, 34, 35, 36, 37, 38, 39, 40, 41, 42, 43, 44, 45, 46, 47] (fun m => [(1, some (.tok (((idxTo w a k p m).map intC)).length 1))]) (fun m => m ≤ 3) (fun m => 3 - m) 0 (by omega) ⟨⟨_, rfl, (LeA.eqi (by first | rfl | (simp; done) | (rw [idxTo_yes (by assumption)]; simp; done) | (rw [idxTo_no (by assumption)]; done) | omega))⟩, ⟨⟨_, rfl, (LeA.gvg (by first | rfl | (simp; done) | (rw [idxTo_yes (by assumption)]; simp; done) | (rw [idxTo_no (by assumption)]; done) | omega))⟩, trivial⟩⟩ ⟨beq_nat_eq (by first | rfl | (simp; done) | (simp; omega) | (first | rfl | (simp; done) | (rw [idxTo_yes (by assumption)]; simp; done) | (rw [idxTo_no (by assumption)]; done) | omega)), trivial⟩ (fun x => rfl) (fun m hg1 => ?_)
  refine evc [8] [1, 8, 10] ?_
  refine sq (fun h3 h3p h3s => ?_) fun h3 h3p h3s => ?_
  ·try simp only [Q] at h3p
   refine CWp.regionJ ?_
   refine WRest.join 18 [(43, .d (.bool (ixOk w a k p (m + 1))))] [26, 27, 28, 29, 30, 31, 32, 33, 34, 35, 36, 37, 38, 39, 40, 41, 42] ?_ ?_
   ·
    refine evs [8] [] ?_
    refine sq (fun h4 h4p h4s => ?_) fun h4 h4p h4s => ?_
    ·try simp only [Q] at h4p
     refine sqT ?_
     refine Walk.build st31 (ks := [0, 1]) (xs := [_, _]) rfl rfl (.some rfl rfl rfl) rfl rfl rfl ?_
     refine evs [8] [(35, true)] ?_ ⟨⟨_, rfl, rfl⟩, trivial⟩
     refine Walk.call (cr := []) cal79 (impl_matches_fn hd (f := depthT w) 10 (k' := k) pv.shape (hin (m + 1) (by omega)) hok) rfl (.some rfl rfl rfl) rfl rfl (LeL.refl _) trivial rfl rfl rfl ?_
     refine evs [8] [(35, true)] ?_ ⟨⟨_, rfl, rfl⟩, trivial⟩
     exact jn rfl (LeA.eqb (by first | rfl | (simp_all; done) | (simp [ixOk, h2s, h2p, h3s, h3p, h4s, h4p]; done) | (unfold ixOk; rw [Bool.eq_iff_iff]; simp_all; done) | (unfold ixOk; rw [Bool.eq_iff_iff]; simp_all; omega)))
    ·try simp only [Q] at h4p
     refine sq (fun h5 h5p h5s => ?_) fun h5 h5p h5s => ?_
     ·try simp only [Q] at h5p
      refine Walk.build st31 (ks := [0, 1]) (xs := [_, _]) rfl rfl (.some rfl rfl h5) rfl rfl rfl ?_
      refine evs [8] [(35, true)] ?_ ⟨⟨_, rfl, h5⟩, trivial⟩
      refine Walk.call (cr := []) cal79 (impl_matches_fn hd (f := depthT w) 10 (k' := k) pv.shape (hin (m + 1) (by omega)) hok) rfl (.some rfl rfl h5) rfl rfl (LeL.refl _) trivial rfl rfl rfl ?_
      refine evs [8] [(35, true)] ?_ ⟨⟨_, rfl, h5⟩, trivial⟩
      exact jn rfl (LeA.eqb (by first | rfl | (simp_all; done) | (simp [ixOk, h2s, h2p, h3s, h3p, h4s, h4p, h5s, h5p]; done) | (unfold ixOk; rw [Bool.eq_iff_iff]; simp_all; done) | (unfold ixOk; rw [Bool.eq_iff_iff]; simp_all; omega)))
     ·try simp only [Q] at h5p
      exact jn rfl (LeA.eqb (by first | rfl | (simp_all; done) | (simp [ixOk, h2s, h2p, h3s, h3p, h4s, h4p, h5s, h5p]; done) | (unfold ixOk; rw [Bool.eq_iff_iff]; simp_all; done) | (unfold ixOk; rw [Bool.eq_iff_iff]; simp_all; omega)))
   refine WRest.done ?_
   refine tv ?_
   refine sq (fun h6 h6p h6s => ?_) fun h6 h6p h6s => ?_
   ·try simp only [Q] at h6p
    refine Walk.sliceLit sl66 tz3 rfl (by decide) (ks := [0]) (xs := [_]) rfl rfl (by decide) (by decide) .none rfl rfl rfl rfl ?_
    refine Walk.appendV sl66 zz3 .none rfl rfl rfl rfl (htokL rfl (by first | rfl | (simp; done) | (simp; omega))) (by simp) (by have := idxTo_len (w := w) (a := a) (k := k) (p := p) m; simp; omega) (by have := idxTo_len (w := w) (a := a) (k := k) (p := p) m; simp; omega) ?_
    refine asg ?_
    refine tv ?_
    refine ar ?_
    refine Exists.intro (m + 1) ⟨(by omega), (by omega), Sub.x (by kernel_rfl) (by kernel_rfl) ⟨⟨_, rfl, (LeA.eqi (by first | rfl | (simp; done) | (rw [idxTo_yes (by assumption)]; simp; done) | (rw [idxTo_no (by assumption)]; done) | omega))⟩, ⟨⟨_, rfl, (LeA.gvg (by first | rfl | (simp; done) | (rw [idxTo_yes (by assumption)]; simp; done) | (rw [idxTo_no (by assumption)]; done) | omega))⟩, trivial⟩⟩ (by kernel_rfl) (by kernel_rfl) ⟨beq_nat_eq (by first | rfl | (simp; done) | (simp; omega) | (first | rfl | (simp; done) | (rw [idxTo_yes (by assumption)]; simp; done) | (rw [idxTo_no (by assumption)]; done) | omega)), trivial⟩⟩
   ·try simp only [Q] at h6p
    refine ar ?_
    refine Exists.intro (m + 1) ⟨(by omega), (by omega), Sub.x (by kernel_rfl) (by kernel_rfl) ⟨⟨_, rfl, (LeA.eqi (by first | rfl | (simp; done) | (rw [idxTo_yes (by assumption)]; simp; done) | (rw [idxTo_no (by assumption)]; done) | omega))⟩, ⟨⟨_, rfl, (LeA.gvg (by first | rfl | (simp; done) | (rw [idxTo_yes (by assumption)]; simp; done) | (rw [idxTo_no (by assumption)]; done) | omega))⟩, trivial⟩⟩ (by kernel_rfl) (by kernel_rfl) ⟨beq_nat_eq (by first | rfl | (simp; done) | (simp; omega) | (first | rfl | (simp; done) | (rw [idxTo_yes (by assumption)]; simp; done) | (rw [idxTo_no (by assumption)]; done) | omega)), trivial⟩⟩
  ·try simp only [Q] at h3p
   obtain rfl : m = 3 := (by omega)
   refine CWp.gvGt 8 rfl (flatR_ints _) ?_
   refine CWp.fixT hk 8 1 1 rfl rfl rfl (fun hx => absurd hx (by simp [hne])) (fun hx => ?_)
   refine evc [8] [] ?_
   refine rn [(1, some (.tree (ownCells true ((idxTo w a k p 3).map intC))))] (r1 rfl) (LeA.msn ?_) ⟨rfl, rfl⟩ (SubH.get ⟨(by rfl), trivial⟩) (boxOK rfl)
   all_goals (first | rfl | (simp; done))
theorem markDataS_i {l : List Data} {k : Int} (h0 : 0 < k) (h1 : k + szL Data.sz l ≤ 1000000000000) (hl : WSmall l) : FnD Try.prog 46 [.ms 63 l.length, .d (.i k)] [(63, some (.tree (ownCells false (l.map Data.c))))]
  (.d (.i (k + szL Data.sz l))) [(63, some (.tree (ownCells false ((mkL Data.one Data.sz k l).map Data.c))))] := FnD.ren rfl (ownCells_ids _ _) (ownCells_ids _ _) (laws_markDataS_tr h0 h1 hl) 63
theorem markPattern_i {p : Pat} {k : Int} (h0 : 0 < k) (h1 : k + szL Pat.szM p.kids ≤ 1000000000000) (hok : p.ok) : FnD Try.prog 47 [.agg [.d (.i p.op), .d (.i p.ctor), .d (.i p.n), .d (.i p.m), .d (.i p.var), .ms 66 p.kids.length], .d (.i k)] [(66, some (.tree (ownCells false (Pat.cs p.kids))))]
  (.d (.i (k + szL Pat.szM p.kids))) [(66, some (.tree (ownCells false (Pat.cs (mkL Pat.one Pat.szM k p.kids)))))] := FnD.ren rfl (ownCells_ids _ _) (ownCells_ids _ _) (laws_markPattern_tr h0 h1 hok) 66
theorem markIntS_1 {m : Bool} {l : List Int} {k : Int} (h0 : 0 ≤ k) (h1 : k + l.length ≤ 1000000000000) : FnD Try.prog 48 [.ms 1 l.length, .d (.i k)] [(1, some (.tree (ownCells m (l.map intC))))]
  (.d (.i (k + l.length))) [(1, some (.tree (ownCells m ((mkL iOne iSz k l).map intC))))] := FnD.ren rfl (ownCells_ids _ _) (ownCells_ids _ _) (laws_markIntS_tr h0 h1) 1
theorem laws_FnExactIndicesOf_l {w : List Data} (hs : WSmall w) {a k : Int} {p : Pat} (hok : p.ok) (hsz : p.size ≤ 1000000000000) {l : List Int} (hlen : l.length ≤ 3)
  (hspec : FnD Try.prog 38 [.d (encDatas w), .agg [.d (.i a), .d (.i k)], .agg [.d (.i p.op), .d (.i p.ctor), .d (.i p.n), .d (.i p.m), .d (.i p.var), .d (encPats p.kids)]] [] (.d (encInts l)) []) (himp : FnD Try.prog 36 [.d (encDatas w), .agg [.d (.i a), .d (.i k)], .agg [.d (.i p.op), .d (.i p.ctor), .d (.i p.n), .d (.i p.m), .d (.i p.var), .d (encPats p.kids)]] [] (.d (encInts l)) [])
  (hown : FnD Try.prog 36 [.d (encDatas w), .agg [.d (.i a), .d (.i k)], .agg [.d (.i p.op), .d (.i p.ctor), .d (.i p.n), .d (.i p.m), .d (.i p.var), .d (encPats p.kids)]] [] (.ms 1 l.length) [(1, some (.tree (ownCells true (l.map intC))))]) : FnD Try.prog 10 [.d (encDatas w), .agg [.d (.i a), .d (.i k)], .agg [.d (.i p.op), .d (.i p.ctor), .d (.i p.n), .d (.i p.m), .d (.i p.var), .d (encPats p.kids)]] [] (.d (.bool true)) [] := by
 have z := szr_or (left := 1048576) (mDatas w)
 have z2 := szr_or (left := szr 1048576 (mDatas w)) (mPat p)
 have hbd := szL_datas_le w
 have hnn := szL_nonneg (l := w) Data.sz_nn
 have hvb := Pats.szM_le p.kids
 have hvn := Pats.szM_nn p.kids
 rw [Pats.szM_eq] at hvb hvn
 rw [← mPat_eq] at hvb
 refine bd Try.f10 100 [] [] fun w0 F0 own kept hk => ?_
 refine Walk.box (id := 3004) .none rfl rfl rfl rfl rfl rfl rfl ?_
 refine Walk.box (id := 3005) .none rfl rfl rfl rfl rfl rfl rfl ?_
 refine ev ?_
 refine Walk.call (cr := []) cal25 (laws_szDataS_fn hs (by omega) (by omega)) rfl .none rfl rfl (LeL.refl _) trivial rfl rfl rfl ?_
 refine ev ?_
 refine sq (fun h1 h1p h1s => ?_) fun h1 h1p h1s => ?_
 ·try simp only [Q] at h1p
  refine rn0 (r1 rfl) (.eqd ?_)
  all_goals (first | rfl | (exfalso; simp_all [patEq_refl]; done) | (exfalso; simp [patEq_refl] at *; omega))
 ·try simp only [Q] at h1p
  refine Walk.call (cr := []) cal26 (laws_szPattern_fn _ (Nat.le_refl _) hok (by omega) (by omega)) rfl .none rfl rfl (LeL.refl _) trivial rfl rfl rfl ?_
  refine ev ?_
  refine sq (fun h2 h2p h2s => ?_) fun h2 h2p h2s => ?_
  ·try simp only [Q] at h2p
   refine rn0 (r1 rfl) (.eqd ?_)
   all_goals (first | rfl | (exfalso; simp_all [patEq_refl]; done) | (exfalso; simp [patEq_refl] at *; omega))
  ·try simp only [Q] at h2p
   refine Walk.call (cr := []) cal28 (laws_toDataS_fn hs) rfl .none rfl rfl (LeL.refl _) trivial rfl rfl rfl ?_
   refine evd [] [] ?_
   refine Walk.call (cr := []) cal29 (laws_toType_fn) rfl .none rfl rfl (LeL.refl _) trivial rfl rfl rfl ?_
   refine evd [] [] ?_
   refine Walk.call (cr := []) cal30 (laws_toPattern_fn hok) rfl .none rfl rfl (LeL.refl _) trivial rfl rfl rfl ?_
   refine Walk.call (cr := []) cal38 (hspec) rfl .none rfl rfl (LeL.refl _) trivial rfl rfl rfl ?_
   refine evd [] [] ?_
   refine dr ?_
   refine Walk.call (cr := [63]) cal28 (laws_toDataS_tr hs) rfl .none rfl rfl (LeL.refl _) trivial rfl (by first | rfl | (simp only [okCall, List.all_cons, List.all_nil, entOK, entOK', AV.idsL, AV.ids, idsL_append, ownCells_ids, List.map_cons, List.map_nil]; rfl)) (by first | rfl | (simp only [freshB, occH, occE, Res.ids, List.cons_append, List.nil_append, AV.idsL, AV.ids, idsL_append, ownCells_ids, zerosA_idsR, repNil, List.map_cons, List.map_nil, upC]; rfl)) ?_
   refine ev ?_
   refine Walk.call (cr := [66]) cal30 (laws_toPattern_tr _ (Nat.le_refl _) hok) rfl .none rfl rfl (LeL.refl _) trivial rfl (by first | rfl | (simp only [okCall, List.all_cons, List.all_nil, entOK, entOK', AV.idsL, AV.ids, idsL_append, ownCells_ids, List.map_cons, List.map_nil]; rfl)) (by first | rfl | (simp only [freshB, occH, occE, Res.ids, List.cons_append, List.nil_append, AV.idsL, AV.ids, idsL_append, ownCells_ids, zerosA_idsR, repNil, List.map_cons, List.map_nil, upC]; rfl)) ?_
   refine Walk.alloc (id := 3010) tz58 rfl .none rfl (by first | rfl | (simp only [freshB, occH, occE, Res.ids, List.cons_append, List.nil_append, AV.idsL, AV.ids, idsL_append, ownCells_ids, zerosA_idsR, repNil, List.map_cons, List.map_nil, upC]; rfl)) (by first | rfl | (simp only [freshB, occH, occE, Res.ids, List.cons_append, List.nil_append, AV.idsL, AV.ids, idsL_append, ownCells_ids, zerosA_idsR, repNil, List.map_cons, List.map_nil, upC]; rfl)) (by first | rfl | (simp only [freshB, occH, occE, Res.ids, List.cons_append, List.nil_append, AV.idsL, AV.ids, idsL_append, ownCells_ids, zerosA_idsR, repNil, List.map_cons, List.map_nil, upC]; rfl)) ?_
   refine Walk.store ty58 .none rfl rfl rfl rfl rfl rfl (by simp) rfl ?_
   refine tv ?_
   refine Walk.call (cr := []) cal29 (laws_toType_fn) rfl .none rfl rfl (LeL.refl _) trivial rfl (by first | rfl | (simp only [okCall, List.all_cons, List.all_nil, entOK, entOK', AV.idsL, AV.ids, idsL_append, ownCells_ids, List.map_cons, List.map_nil]; rfl)) (by first | rfl | (simp only [freshB, occH, occE, Res.ids, List.cons_append, List.nil_append, AV.idsL, AV.ids, idsL_append, ownCells_ids, zerosA_idsR, repNil, List.map_cons, List.map_nil, upC]; rfl)) ?_
   refine evd [] [] ?_
   refine Walk.lend (cr := [1]) (lr := [(63, _), (66, _)]) cal36 (hown) rfl .none rfl rfl (.cons (.ms (k := 2) List.mem_cons_self (by intro x hx; obtain ⟨y, _, rfl⟩ := List.mem_map.1 hx; rfl) (by first | rfl | (simp [mkL_len, Pat.cs_len]; done))) (.cons (.le (.refl _)) (.cons (.agg (.cons (.le (.refl _)) (.cons (.le (.refl _)) (.cons (.le (.refl _)) (.cons (.le (.refl _)) (.cons (.le (.refl _)) (.cons (.ms (k := 6) (List.mem_cons_of_mem _ List.mem_cons_self) Pat.cs_rows (by first | rfl | (simp [mkL_len, Pat.cs_len]; done))) .nil))))))) .nil))) ⟨rfl, ⟨rfl, trivial⟩⟩ rfl (by first | rfl | (simp only [okLend, flatR_own, flatA, AV.ids]; rfl)) (by first | rfl | (simp only [freshB, occH, occE, Res.ids, List.cons_append, List.nil_append, AV.idsL, AV.ids, idsL_append, ownCells_ids, zerosA_idsR, repNil, List.map_cons, List.map_nil, upC]; rfl)) ?_
   refine evd [] [] ?_
   refine dr2 [1] ?_ (by first | rfl | (simp only [freshB, occH, occE, Res.ids, List.cons_append, List.nil_append, AV.idsL, AV.ids, idsL_append, ownCells_ids, zerosA_idsR, repNil, List.map_cons, List.map_nil, upC]; rfl))
   refine Walk.lend (cr := []) (lr := [(1, _)]) cal45 (laws_eqIntS_fn (by omega)) rfl .none rfl rfl (.cons (.ms (k := 1) List.mem_cons_self (by intro x hx; obtain ⟨y, _, rfl⟩ := List.mem_map.1 hx; rfl) (by first | rfl | (simp [mkL_len, Pat.cs_len]; done))) (.cons (.le (.refl _)) .nil)) ⟨rfl, trivial⟩ rfl (by first | rfl | (simp only [okLend, flatR_own, flatA, AV.ids]; rfl)) (by first | rfl | (simp only [freshB, occH, occE, Res.ids, List.cons_append, List.nil_append, AV.idsL, AV.ids, idsL_append, ownCells_ids, zerosA_idsR, repNil, List.map_cons, List.map_nil, upC]; rfl)) ?_
   refine ev ?_
   refine sq (fun h3 h3p h3s => ?_) fun h3 h3p h3s => ?_
   ·try simp only [Q] at h3p
    refine rn0 (r1 rfl) (.eqd ?_)
    all_goals (first | rfl | (exfalso; simp_all [patEq_refl]; done) | (exfalso; simp [patEq_refl] at *; omega))
   ·try simp only [Q] at h3p
    refine Walk.call (cr := []) cal28 (laws_toDataS_fn hs) rfl .none rfl rfl (LeL.refl _) trivial rfl (by first | rfl | (simp only [okCall, List.all_cons, List.all_nil, entOK, entOK', AV.idsL, AV.ids, idsL_append, ownCells_ids, List.map_cons, List.map_nil]; rfl)) (by first | rfl | (simp only [freshB, occH, occE, Res.ids, List.cons_append, List.nil_append, AV.idsL, AV.ids, idsL_append, ownCells_ids, zerosA_idsR, repNil, List.map_cons, List.map_nil, upC]; rfl)) ?_
    refine Walk.lend (cr := []) (lr := [(63, _)]) cal33 (laws_eqDataS_fn hs) rfl .none rfl rfl (.cons (.ms (k := 2) List.mem_cons_self (by intro x hx; obtain ⟨y, _, rfl⟩ := List.mem_map.1 hx; rfl) (by first | rfl | (simp [mkL_len, Pat.cs_len]; done))) (.cons (.le (.refl _)) .nil)) ⟨rfl, trivial⟩ rfl (by first | rfl | (simp only [okLend, flatR_own, flatA, AV.ids]; rfl)) (by first | rfl | (simp only [freshB, occH, occE, Res.ids, List.cons_append, List.nil_append, AV.idsL, AV.ids, idsL_append, ownCells_ids, zerosA_idsR, repNil, List.map_cons, List.map_nil, upC]; rfl)) ?_
    refine ev ?_
    refine sq (fun h4 h4p h4s => ?_) fun h4 h4p h4s => ?_
    ·try simp only [Q] at h4p
     refine rn0 (r1 rfl) (.eqd ?_)
     all_goals (first | rfl | (exfalso; simp_all [patEq_refl]; done) | (exfalso; simp [patEq_refl] at *; omega))
    ·try simp only [Q] at h4p
     refine Walk.call (cr := []) cal30 (laws_toPattern_fn hok) rfl .none rfl rfl (LeL.refl _) trivial rfl (by first | rfl | (simp only [okCall, List.all_cons, List.all_nil, entOK, entOK', AV.idsL, AV.ids, idsL_append, ownCells_ids, List.map_cons, List.map_nil]; rfl)) (by first | rfl | (simp only [freshB, occH, occE, Res.ids, List.cons_append, List.nil_append, AV.idsL, AV.ids, idsL_append, ownCells_ids, zerosA_idsR, repNil, List.map_cons, List.map_nil, upC]; rfl)) ?_
     refine Walk.lend (cr := []) (lr := [(66, _)]) cal34 (laws_eqPattern_fn _ (Nat.le_refl _) hok) rfl .none rfl rfl (.cons (.agg (.cons (.le (.refl _)) (.cons (.le (.refl _)) (.cons (.le (.refl _)) (.cons (.le (.refl _)) (.cons (.le (.refl _)) (.cons (.ms (k := 6) List.mem_cons_self Pat.cs_rows (by first | rfl | (simp [mkL_len, Pat.cs_len]; done))) .nil))))))) (.cons (.le (.refl _)) .nil)) ⟨rfl, trivial⟩ rfl (by first | rfl | (simp only [okLend, flatR_own, flatA, AV.ids]; rfl)) (by first | rfl | (simp only [freshB, occH, occE, Res.ids, List.cons_append, List.nil_append, AV.idsL, AV.ids, idsL_append, ownCells_ids, zerosA_idsR, repNil, List.map_cons, List.map_nil, upC]; rfl)) ?_
     refine evd [] [] ?_
     refine dr ?_
     refine sq (fun h5 h5p h5s => ?_) fun h5 h5p h5s => ?_
     ·try simp only [Q] at h5p
      refine rn0 (r1 rfl) (.eqd ?_)
      all_goals (first | rfl | (exfalso; simp_all [patEq_refl]; done) | (exfalso; simp [patEq_refl] at *; omega))
     ·try simp only [Q] at h5p
      refine Walk.call (cr := []) cal46 (markDataS_i (l := w) (k := 1) (by omega) (by omega) hs) rfl .none rfl rfl (.cons (LeA.msn (by first | rfl | (simp [Pat.cs_len]; done))) (.cons (.refl _) .nil)) ⟨rfl, trivial⟩ rfl (by first | rfl | (simp only [okCall, List.all_cons, List.all_nil, entOK, entOK', AV.idsL, AV.ids, idsL_append, ownCells_ids, List.map_cons, List.map_nil]; rfl)) (by first | rfl | (simp only [freshB, occH, occE, Res.ids, List.cons_append, List.nil_append, AV.idsL, AV.ids, idsL_append, ownCells_ids, zerosA_idsR, repNil, List.map_cons, List.map_nil, upC]; rfl)) ?_
      refine ev ?_
      refine Walk.call (cr := []) cal47 (markPattern_i (p := p) (k := 1 + szL Data.sz w) (by omega) (by omega) hok) rfl .none rfl rfl (.cons (.agg (.cons (.refl _) (.cons (.refl _) (.cons (.refl _) (.cons (.refl _) (.cons (.refl _) (.cons (LeA.msn (by first | rfl | (simp [Pat.cs_len]; done))) .nil))))))) (.cons (.refl _) .nil)) ⟨rfl, trivial⟩ rfl (by first | rfl | (simp only [okCall, List.all_cons, List.all_nil, entOK, entOK', AV.idsL, AV.ids, idsL_append, ownCells_ids, List.map_cons, List.map_nil]; rfl)) (by first | rfl | (simp only [freshB, occH, occE, Res.ids, List.cons_append, List.nil_append, AV.idsL, AV.ids, idsL_append, ownCells_ids, zerosA_idsR, repNil, List.map_cons, List.map_nil, upC]; rfl)) ?_
      refine ev ?_
      refine sq (fun h6 h6p h6s => ?_) fun h6 h6p h6s => ?_
      ·try simp only [Q] at h6p
       refine sqT ?_
       refine rn0 (r1 rfl) (.eqd ?_)
       all_goals (first | rfl | (exfalso; simp_all [patEq_refl]; done) | (exfalso; simp [patEq_refl] at *; omega))
      ·try simp only [Q] at h6p
       refine Walk.lend (cr := []) (lr := [(1, _)]) cal45 (laws_eqIntS_fn (by omega)) rfl (.some rfl rfl h6) rfl rfl (.cons (.ms (k := 1) List.mem_cons_self (by intro x hx; obtain ⟨y, _, rfl⟩ := List.mem_map.1 hx; rfl) (by first | rfl | (simp [mkL_len, Pat.cs_len]; done))) (.cons (.le (.refl _)) .nil)) ⟨rfl, trivial⟩ rfl (by first | rfl | (simp only [okLend, flatR_own, flatA, AV.ids]; rfl)) (by first | rfl | (simp only [freshB, occH, occE, Res.ids, List.cons_append, List.nil_append, AV.idsL, AV.ids, idsL_append, ownCells_ids, zerosA_idsR, repNil, List.map_cons, List.map_nil, upC]; rfl)) ?_
       refine evs [] [(64, false)] ?_ ⟨⟨_, rfl, h6⟩, trivial⟩
       refine sq (fun h8 h8p h8s => ?_) fun h8 h8p h8s => ?_
       ·try simp only [Q] at h8p
        refine rn0 (r1 rfl) (.eqd ?_)
        all_goals (first | rfl | (exfalso; simp_all [patEq_refl]; done) | (exfalso; simp [patEq_refl] at *; omega))
       ·try simp only [Q] at h8p
        refine Walk.call (cr := []) cal48 (markIntS_1 (m := true) (l := l) (k := 1) (by omega) (by omega)) rfl .none rfl rfl (.cons (LeA.msn (by first | rfl | (simp [Pat.cs_len]; done))) (.cons (.refl _) .nil)) ⟨rfl, trivial⟩ rfl (by first | rfl | (simp only [okCall, List.all_cons, List.all_nil, entOK, entOK', AV.idsL, AV.ids, idsL_append, ownCells_ids, List.map_cons, List.map_nil]; rfl)) (by first | rfl | (simp only [freshB, occH, occE, Res.ids, List.cons_append, List.nil_append, AV.idsL, AV.ids, idsL_append, ownCells_ids, zerosA_idsR, repNil, List.map_cons, List.map_nil, upC]; rfl)) ?_
        refine ev ?_
        refine Walk.lend (cr := []) (lr := [(1, _)]) cal49 (laws_heldIntS_fn (l := l) (k := 1) (by omega) (by omega)) rfl .none rfl rfl (.cons (.ms (k := 1) List.mem_cons_self (by intro x hx; obtain ⟨y, _, rfl⟩ := List.mem_map.1 hx; rfl) (by first | rfl | (simp [mkL_len, Pat.cs_len]; done))) (.cons (.le (.refl _)) .nil)) ⟨rfl, trivial⟩ rfl (by first | rfl | (simp only [okLend, flatR_own, flatA, AV.ids]; rfl)) (by first | rfl | (simp only [freshB, occH, occE, Res.ids, List.cons_append, List.nil_append, AV.idsL, AV.ids, idsL_append, ownCells_ids, zerosA_idsR, repNil, List.map_cons, List.map_nil, upC]; rfl)) ?_
        refine ev ?_
        refine sq (fun h9 h9p h9s => ?_) fun h9 h9p h9s => ?_
        ·try simp only [Q] at h9p
         refine rn0 (r1 rfl) (.eqd ?_)
         all_goals (first | rfl | (exfalso; simp_all [patEq_refl]; done) | (exfalso; simp [patEq_refl] at *; omega))
        ·try simp only [Q] at h9p
         refine sq (fun h10 h10p h10s => ?_) fun h10 h10p h10s => ?_
         ·try simp only [Q] at h10p
          refine rn0 (r1 rfl) (.eqd ?_)
          all_goals (first | rfl | (exfalso; simp_all [patEq_refl]; done) | (exfalso; simp [patEq_refl] at *; omega))
         ·try simp only [Q] at h10p
          refine Walk.call (cr := []) cal28 (laws_toDataS_fn hs) rfl .none rfl rfl (LeL.refl _) trivial rfl (by first | rfl | (simp only [okCall, List.all_cons, List.all_nil, entOK, entOK', AV.idsL, AV.ids, idsL_append, ownCells_ids, List.map_cons, List.map_nil]; rfl)) (by first | rfl | (simp only [freshB, occH, occE, Res.ids, List.cons_append, List.nil_append, AV.idsL, AV.ids, idsL_append, ownCells_ids, zerosA_idsR, repNil, List.map_cons, List.map_nil, upC]; rfl)) ?_
          refine evd [] [] ?_
          refine Walk.call (cr := []) cal29 (laws_toType_fn) rfl .none rfl rfl (LeL.refl _) trivial rfl (by first | rfl | (simp only [okCall, List.all_cons, List.all_nil, entOK, entOK', AV.idsL, AV.ids, idsL_append, ownCells_ids, List.map_cons, List.map_nil]; rfl)) (by first | rfl | (simp only [freshB, occH, occE, Res.ids, List.cons_append, List.nil_append, AV.idsL, AV.ids, idsL_append, ownCells_ids, zerosA_idsR, repNil, List.map_cons, List.map_nil, upC]; rfl)) ?_
          refine evd [] [] ?_
          refine Walk.call (cr := []) cal30 (laws_toPattern_fn hok) rfl .none rfl rfl (LeL.refl _) trivial rfl (by first | rfl | (simp only [okCall, List.all_cons, List.all_nil, entOK, entOK', AV.idsL, AV.ids, idsL_append, ownCells_ids, List.map_cons, List.map_nil]; rfl)) (by first | rfl | (simp only [freshB, occH, occE, Res.ids, List.cons_append, List.nil_append, AV.idsL, AV.ids, idsL_append, ownCells_ids, zerosA_idsR, repNil, List.map_cons, List.map_nil, upC]; rfl)) ?_
          refine Walk.call (cr := []) cal36 (himp) rfl .none rfl rfl (LeL.refl _) trivial rfl (by first | rfl | (simp only [okCall, List.all_cons, List.all_nil, entOK, entOK', AV.idsL, AV.ids, idsL_append, ownCells_ids, List.map_cons, List.map_nil]; rfl)) (by first | rfl | (simp only [freshB, occH, occE, Res.ids, List.cons_append, List.nil_append, AV.idsL, AV.ids, idsL_append, ownCells_ids, zerosA_idsR, repNil, List.map_cons, List.map_nil, upC]; rfl)) ?_
          refine evd [] [] ?_
          refine dr ?_
          refine Walk.call (cr := []) cal45 (laws_eqIntS_fn (l := l) (by omega)) rfl .none rfl rfl (LeL.refl _) trivial rfl (by first | rfl | (simp only [okCall, List.all_cons, List.all_nil, entOK, entOK', AV.idsL, AV.ids, idsL_append, ownCells_ids, List.map_cons, List.map_nil]; rfl)) (by first | rfl | (simp only [freshB, occH, occE, Res.ids, List.cons_append, List.nil_append, AV.idsL, AV.ids, idsL_append, ownCells_ids, zerosA_idsR, repNil, List.map_cons, List.map_nil, upC]; rfl)) ?_
          refine ev ?_
          refine sq (fun h11 h11p h11s => ?_) fun h11 h11p h11s => ?_
          ·try simp only [Q] at h11p
           refine rn0 (r1 rfl) (.eqd ?_)
           all_goals (first | rfl | (exfalso; simp_all [patEq_refl]; done) | (exfalso; simp [patEq_refl] at *; omega))
          ·try simp only [Q] at h11p
           refine Walk.lend (cr := []) (lr := [(1, _)]) cal49 (laws_heldIntS_fn (l := l) (k := 1) (by omega) (by omega)) rfl .none rfl rfl (.cons (.ms (k := 1) List.mem_cons_self (by intro x hx; obtain ⟨y, _, rfl⟩ := List.mem_map.1 hx; rfl) (by first | rfl | (simp [mkL_len, Pat.cs_len]; done))) (.cons (.le (.refl _)) .nil)) ⟨rfl, trivial⟩ rfl (by first | rfl | (simp only [okLend, flatR_own, flatA, AV.ids]; rfl)) (by first | rfl | (simp only [freshB, occH, occE, Res.ids, List.cons_append, List.nil_append, AV.idsL, AV.ids, idsL_append, ownCells_ids, zerosA_idsR, repNil, List.map_cons, List.map_nil, upC]; rfl)) ?_
           refine ev ?_
           refine sq (fun h12 h12p h12s => ?_) fun h12 h12p h12s => ?_
           ·try simp only [Q] at h12p
            refine rn0 (r1 rfl) (.eqd ?_)
            all_goals (first | rfl | (exfalso; simp_all [patEq_refl]; done) | (exfalso; simp [patEq_refl] at *; omega))
           ·try simp only [Q] at h12p
            refine sq (fun h13 h13p h13s => ?_) fun h13 h13p h13s => ?_
            ·try simp only [Q] at h13p
             refine rn0 (r1 rfl) (.eqd ?_)
             all_goals (first | rfl | (exfalso; simp_all [patEq_refl]; done) | (exfalso; simp [patEq_refl] at *; omega))
            ·try simp only [Q] at h13p
             refine rn0 (r1 rfl) (.eqd ?_)
             all_goals (first | rfl | (exfalso; simp_all [patEq_refl]; done) | (exfalso; simp [patEq_refl] at *; omega))
theorem laws_FnExactIndicesOf_good {w : List Data} (hs : WSmall w) {a k : Int} {p : Pat} (hok : p.ok) (hsz : p.size ≤ 1000000000000) (hv : patValid w a k p = true ∧ a ≠ -1) (hne : idxTo w a k p 3 ≠ []) : FnD Try.prog 10 [.d (encDatas w), .agg [.d (.i a), .d (.i k)], .agg [.d (.i p.op), .d (.i p.ctor), .d (.i p.n), .d (.i p.m), .d (.i p.var), .d (encPats p.kids)]] [] (.d (.bool true)) [] := by
 have hi : indicesV w a k p = idxTo w a k p 3 := by unfold indicesV; rw [if_pos hv]
 have hspec := spec_IndicesOf_fn hs (a := a) (k := k) hok hsz
 have himp := impl_IndicesOf_fn hs (a := a) (k := k) hok
 have hown := impl_IndicesOf_own hs hok hv hne
 rw [hi] at hspec himp
 exact laws_FnExactIndicesOf_l hs hok hsz (idxTo_len 3) hspec himp hown
theorem laws_markIntS_nil {k : Int} : FnD Try.prog 48 [.d (.sl []), .d (.i k)] [] (.d (.i k)) [] := by
 refine bd Try.f48 19 [] [] fun w0 F0 own kept hk => ?_
 refine CWp.loopX (ι := Unit) hk (fun x => [(5, .d (.i 0)), (1, .d (.i k))]) [6, 7, 8, 9, 10, 11, 12, 13, 14, 15, 16, 17] (fun x => []) (fun x => True) (fun x => 0) () trivial ⟨⟨_, rfl, (LeA.eqi (by first | rfl | (simp; done) | (simp_all; done) | omega))⟩, ⟨⟨_, rfl, (LeA.eqi (by first | rfl | (simp; done) | (simp_all; done) | omega))⟩, trivial⟩⟩ trivial (fun x => rfl) (fun x hg1 => ?_)
 refine evc [] [] ?_
 refine sq (fun h1 h1p h1s => ?_) fun h1 h1p h1s => ?_
 ·try simp only [Q] at h1p
  exfalso; revert h1; simp --stop
 ·try simp only [Q] at h1p
  refine rn0 (r1 rfl) (.eqd ?_)
  all_goals (first | rfl | (simp; done))
theorem laws_FnExactIndicesOf_bad {w : List Data} (hs : WSmall w) {a k : Int} {p : Pat} (hok : p.ok) (hsz : p.size ≤ 1000000000000) (hi : indicesV w a k p = []) : FnD Try.prog 10 [.d (encDatas w), .agg [.d (.i a), .d (.i k)], .agg [.d (.i p.op), .d (.i p.ctor), .d (.i p.n), .d (.i p.m), .d (.i p.var), .d (encPats p.kids)]] [] (.d (.bool true)) [] := by
 have hspec := spec_IndicesOf_fn hs (a := a) (k := k) hok hsz
 have himp := impl_IndicesOf_fn hs (a := a) (k := k) hok
 rw [hi] at hspec himp
 have z := szr_or (left := 1048576) (mDatas w)
 have z2 := szr_or (left := szr 1048576 (mDatas w)) (mPat p)
 have hbd := szL_datas_le w
 have hnn := szL_nonneg (l := w) Data.sz_nn
 have hvb := Pats.szM_le p.kids
 have hvn := Pats.szM_nn p.kids
 rw [Pats.szM_eq] at hvb hvn
 rw [← mPat_eq] at hvb
 refine bd Try.f10 100 [] [] fun w0 F0 own kept hk => ?_
 refine Walk.box (id := 3004) .none rfl rfl rfl rfl rfl rfl rfl ?_
 refine Walk.box (id := 3005) .none rfl rfl rfl rfl rfl rfl rfl ?_
 refine ev ?_
 refine Walk.call (cr := []) cal25 (laws_szDataS_fn hs (by omega) (by omega)) rfl .none rfl rfl (LeL.refl _) trivial rfl rfl rfl ?_
 refine ev ?_
 refine sq (fun h1 h1p h1s => ?_) fun h1 h1p h1s => ?_
 ·try simp only [Q] at h1p
  refine rn0 (r1 rfl) (.eqd ?_)
  all_goals (first | rfl | (exfalso; simp_all [patEq_refl]; done) | (exfalso; simp [patEq_refl] at *; omega))
 ·try simp only [Q] at h1p
  refine Walk.call (cr := []) cal26 (laws_szPattern_fn _ (Nat.le_refl _) hok (by omega) (by omega)) rfl .none rfl rfl (LeL.refl _) trivial rfl rfl rfl ?_
  refine ev ?_
  refine sq (fun h2 h2p h2s => ?_) fun h2 h2p h2s => ?_
  ·try simp only [Q] at h2p
   refine rn0 (r1 rfl) (.eqd ?_)
   all_goals (first | rfl | (exfalso; simp_all [patEq_refl]; done) | (exfalso; simp [patEq_refl] at *; omega))
  ·try simp only [Q] at h2p
   refine Walk.call (cr := []) cal28 (laws_toDataS_fn hs) rfl .none rfl rfl (LeL.refl _) trivial rfl rfl rfl ?_
   refine evd [] [] ?_
   refine Walk.call (cr := []) cal29 (laws_toType_fn) rfl .none rfl rfl (LeL.refl _) trivial rfl rfl rfl ?_
   refine evd [] [] ?_
   refine Walk.call (cr := []) cal30 (laws_toPattern_fn hok) rfl .none rfl rfl (LeL.refl _) trivial rfl rfl rfl ?_
   refine Walk.call (cr := []) cal38 (hspec) rfl .none rfl rfl (LeL.refl _) trivial rfl rfl rfl ?_
   refine evd [] [] ?_
   refine dr ?_
   refine Walk.call (cr := [63]) cal28 (laws_toDataS_tr hs) rfl .none rfl rfl (LeL.refl _) trivial rfl (by first | rfl | (simp only [okCall, List.all_cons, List.all_nil, entOK, entOK', AV.idsL, AV.ids, idsL_append, ownCells_ids, List.map_cons, List.map_nil]; rfl)) (by first | rfl | (simp only [freshB, occH, occE, Res.ids, List.cons_append, List.nil_append, AV.idsL, AV.ids, idsL_append, ownCells_ids, zerosA_idsR, repNil, List.map_cons, List.map_nil, upC]; rfl)) ?_
   refine ev ?_
   refine Walk.call (cr := [66]) cal30 (laws_toPattern_tr _ (Nat.le_refl _) hok) rfl .none rfl rfl (LeL.refl _) trivial rfl (by first | rfl | (simp only [okCall, List.all_cons, List.all_nil, entOK, entOK', AV.idsL, AV.ids, idsL_append, ownCells_ids, List.map_cons, List.map_nil]; rfl)) (by first | rfl | (simp only [freshB, occH, occE, Res.ids, List.cons_append, List.nil_append, AV.idsL, AV.ids, idsL_append, ownCells_ids, zerosA_idsR, repNil, List.map_cons, List.map_nil, upC]; rfl)) ?_
   refine Walk.alloc (id := 3010) tz58 rfl .none rfl (by first | rfl | (simp only [freshB, occH, occE, Res.ids, List.cons_append, List.nil_append, AV.idsL, AV.ids, idsL_append, ownCells_ids, zerosA_idsR, repNil, List.map_cons, List.map_nil, upC]; rfl)) (by first | rfl | (simp only [freshB, occH, occE, Res.ids, List.cons_append, List.nil_append, AV.idsL, AV.ids, idsL_append, ownCells_ids, zerosA_idsR, repNil, List.map_cons, List.map_nil, upC]; rfl)) (by first | rfl | (simp only [freshB, occH, occE, Res.ids, List.cons_append, List.nil_append, AV.idsL, AV.ids, idsL_append, ownCells_ids, zerosA_idsR, repNil, List.map_cons, List.map_nil, upC]; rfl)) ?_
   refine Walk.store ty58 .none rfl rfl rfl rfl rfl rfl (by simp) rfl ?_
   refine tv ?_
   refine Walk.call (cr := []) cal29 (laws_toType_fn) rfl .none rfl rfl (LeL.refl _) trivial rfl (by first | rfl | (simp only [okCall, List.all_cons, List.all_nil, entOK, entOK', AV.idsL, AV.ids, idsL_append, ownCells_ids, List.map_cons, List.map_nil]; rfl)) (by first | rfl | (simp only [freshB, occH, occE, Res.ids, List.cons_append, List.nil_append, AV.idsL, AV.ids, idsL_append, ownCells_ids, zerosA_idsR, repNil, List.map_cons, List.map_nil, upC]; rfl)) ?_
   refine evd [] [] ?_
   refine Walk.lend (cr := []) (lr := [(63, _), (66, _)]) cal36 (himp) rfl .none rfl rfl (.cons (.ms (k := 2) List.mem_cons_self (by intro x hx; obtain ⟨y, _, rfl⟩ := List.mem_map.1 hx; rfl) (by first | rfl | (simp [mkL_len, Pat.cs_len]; done))) (.cons (.le (.refl _)) (.cons (.agg (.cons (.le (.refl _)) (.cons (.le (.refl _)) (.cons (.le (.refl _)) (.cons (.le (.refl _)) (.cons (.le (.refl _)) (.cons (.ms (k := 6) (List.mem_cons_of_mem _ List.mem_cons_self) Pat.cs_rows (by first | rfl | (simp [mkL_len, Pat.cs_len]; done))) .nil))))))) .nil))) ⟨rfl, ⟨rfl, trivial⟩⟩ rfl (by first | rfl | (simp only [okLend, flatR_own, flatA, AV.ids]; rfl)) (by first | rfl | (simp only [freshB, occH, occE, Res.ids, List.cons_append, List.nil_append, AV.idsL, AV.ids, idsL_append, ownCells_ids, zerosA_idsR, repNil, List.map_cons, List.map_nil, upC]; rfl)) ?_
   refine evd [] [] ?_
   refine dr ?_
   refine Walk.call (cr := []) cal45 (laws_eqIntS_fn (l := []) (m := []) (by simp)) rfl .none rfl rfl (LeL.refl _) trivial rfl (by first | rfl | (simp only [okCall, List.all_cons, List.all_nil, entOK, entOK', AV.idsL, AV.ids, idsL_append, ownCells_ids, List.map_cons, List.map_nil]; rfl)) (by first | rfl | (simp only [freshB, occH, occE, Res.ids, List.cons_append, List.nil_append, AV.idsL, AV.ids, idsL_append, ownCells_ids, zerosA_idsR, repNil, List.map_cons, List.map_nil, upC]; rfl)) ?_
   refine ev ?_
   refine sq (fun h3 h3p h3s => ?_) fun h3 h3p h3s => ?_
   ·try simp only [Q] at h3p
    refine rn0 (r1 rfl) (.eqd ?_)
    all_goals (first | rfl | (exfalso; simp_all [patEq_refl]; done) | (exfalso; simp [patEq_refl] at *; omega))
   ·try simp only [Q] at h3p
    refine Walk.call (cr := []) cal28 (laws_toDataS_fn hs) rfl .none rfl rfl (LeL.refl _) trivial rfl (by first | rfl | (simp only [okCall, List.all_cons, List.all_nil, entOK, entOK', AV.idsL, AV.ids, idsL_append, ownCells_ids, List.map_cons, List.map_nil]; rfl)) (by first | rfl | (simp only [freshB, occH, occE, Res.ids, List.cons_append, List.nil_append, AV.idsL, AV.ids, idsL_append, ownCells_ids, zerosA_idsR, repNil, List.map_cons, List.map_nil, upC]; rfl)) ?_
    refine Walk.lend (cr := []) (lr := [(63, _)]) cal33 (laws_eqDataS_fn hs) rfl .none rfl rfl (.cons (.ms (k := 2) List.mem_cons_self (by intro x hx; obtain ⟨y, _, rfl⟩ := List.mem_map.1 hx; rfl) (by first | rfl | (simp [mkL_len, Pat.cs_len]; done))) (.cons (.le (.refl _)) .nil)) ⟨rfl, trivial⟩ rfl (by first | rfl | (simp only [okLend, flatR_own, flatA, AV.ids]; rfl)) (by first | rfl | (simp only [freshB, occH, occE, Res.ids, List.cons_append, List.nil_append, AV.idsL, AV.ids, idsL_append, ownCells_ids, zerosA_idsR, repNil, List.map_cons, List.map_nil, upC]; rfl)) ?_
    refine ev ?_
    refine sq (fun h4 h4p h4s => ?_) fun h4 h4p h4s => ?_
    ·try simp only [Q] at h4p
     refine rn0 (r1 rfl) (.eqd ?_)
     all_goals (first | rfl | (exfalso; simp_all [patEq_refl]; done) | (exfalso; simp [patEq_refl] at *; omega))
    ·try simp only [Q] at h4p
     refine Walk.call (cr := []) cal30 (laws_toPattern_fn hok) rfl .none rfl rfl (LeL.refl _) trivial rfl (by first | rfl | (simp only [okCall, List.all_cons, List.all_nil, entOK, entOK', AV.idsL, AV.ids, idsL_append, ownCells_ids, List.map_cons, List.map_nil]; rfl)) (by first | rfl | (simp only [freshB, occH, occE, Res.ids, List.cons_append, List.nil_append, AV.idsL, AV.ids, idsL_append, ownCells_ids, zerosA_idsR, repNil, List.map_cons, List.map_nil, upC]; rfl)) ?_
     refine Walk.lend (cr := []) (lr := [(66, _)]) cal34 (laws_eqPattern_fn _ (Nat.le_refl _) hok) rfl .none rfl rfl (.cons (.agg (.cons (.le (.refl _)) (.cons (.le (.refl _)) (.cons (.le (.refl _)) (.cons (.le (.refl _)) (.cons (.le (.refl _)) (.cons (.ms (k := 6) List.mem_cons_self Pat.cs_rows (by first | rfl | (simp [mkL_len, Pat.cs_len]; done))) .nil))))))) (.cons (.le (.refl _)) .nil)) ⟨rfl, trivial⟩ rfl (by first | rfl | (simp only [okLend, flatR_own, flatA, AV.ids]; rfl)) (by first | rfl | (simp only [freshB, occH, occE, Res.ids, List.cons_append, List.nil_append, AV.idsL, AV.ids, idsL_append, ownCells_ids, zerosA_idsR, repNil, List.map_cons, List.map_nil, upC]; rfl)) ?_
     refine evd [] [] ?_
     refine dr ?_
     refine sq (fun h5 h5p h5s => ?_) fun h5 h5p h5s => ?_
     ·try simp only [Q] at h5p
      refine rn0 (r1 rfl) (.eqd ?_)
      all_goals (first | rfl | (exfalso; simp_all [patEq_refl]; done) | (exfalso; simp [patEq_refl] at *; omega))
     ·try simp only [Q] at h5p
      refine Walk.call (cr := []) cal46 (markDataS_i (l := w) (k := 1) (by omega) (by omega) hs) rfl .none rfl rfl (.cons (LeA.msn (by first | rfl | (simp [Pat.cs_len]; done))) (.cons (.refl _) .nil)) ⟨rfl, trivial⟩ rfl (by first | rfl | (simp only [okCall, List.all_cons, List.all_nil, entOK, entOK', AV.idsL, AV.ids, idsL_append, ownCells_ids, List.map_cons, List.map_nil]; rfl)) (by first | rfl | (simp only [freshB, occH, occE, Res.ids, List.cons_append, List.nil_append, AV.idsL, AV.ids, idsL_append, ownCells_ids, zerosA_idsR, repNil, List.map_cons, List.map_nil, upC]; rfl)) ?_
      refine ev ?_
      refine Walk.call (cr := []) cal47 (markPattern_i (p := p) (k := 1 + szL Data.sz w) (by omega) (by omega) hok) rfl .none rfl rfl (.cons (.agg (.cons (.refl _) (.cons (.refl _) (.cons (.refl _) (.cons (.refl _) (.cons (.refl _) (.cons (LeA.msn (by first | rfl | (simp [Pat.cs_len]; done))) .nil))))))) (.cons (.refl _) .nil)) ⟨rfl, trivial⟩ rfl (by first | rfl | (simp only [okCall, List.all_cons, List.all_nil, entOK, entOK', AV.idsL, AV.ids, idsL_append, ownCells_ids, List.map_cons, List.map_nil]; rfl)) (by first | rfl | (simp only [freshB, occH, occE, Res.ids, List.cons_append, List.nil_append, AV.idsL, AV.ids, idsL_append, ownCells_ids, zerosA_idsR, repNil, List.map_cons, List.map_nil, upC]; rfl)) ?_
      refine ev ?_
      refine sq (fun h6 h6p h6s => ?_) fun h6 h6p h6s => ?_
      ·try simp only [Q] at h6p
       refine sqT ?_
       refine rn0 (r1 rfl) (.eqd ?_)
       all_goals (first | rfl | (exfalso; simp_all [patEq_refl]; done) | (exfalso; simp [patEq_refl] at *; omega))
      ·try simp only [Q] at h6p
       refine Walk.call (cr := []) cal45 (laws_eqIntS_fn (l := []) (m := []) (by simp)) rfl (.some rfl rfl h6) rfl rfl (LeL.refl _) trivial rfl (by first | rfl | (simp only [okCall, List.all_cons, List.all_nil, entOK, entOK', AV.idsL, AV.ids, idsL_append, ownCells_ids, List.map_cons, List.map_nil]; rfl)) (by first | rfl | (simp only [freshB, occH, occE, Res.ids, List.cons_append, List.nil_append, AV.idsL, AV.ids, idsL_append, ownCells_ids, zerosA_idsR, repNil, List.map_cons, List.map_nil, upC]; rfl)) ?_
       refine evs [] [(64, false)] ?_ ⟨⟨_, rfl, h6⟩, trivial⟩
       refine sq (fun h8 h8p h8s => ?_) fun h8 h8p h8s => ?_
       ·try simp only [Q] at h8p
        refine rn0 (r1 rfl) (.eqd ?_)
        all_goals (first | rfl | (exfalso; simp_all [patEq_refl]; done) | (exfalso; simp [patEq_refl] at *; omega))
       ·try simp only [Q] at h8p
        refine Walk.call (cr := []) cal48 (laws_markIntS_nil) rfl .none rfl rfl (LeL.refl _) trivial rfl (by first | rfl | (simp only [okCall, List.all_cons, List.all_nil, entOK, entOK', AV.idsL, AV.ids, idsL_append, ownCells_ids, List.map_cons, List.map_nil]; rfl)) (by first | rfl | (simp only [freshB, occH, occE, Res.ids, List.cons_append, List.nil_append, AV.idsL, AV.ids, idsL_append, ownCells_ids, zerosA_idsR, repNil, List.map_cons, List.map_nil, upC]; rfl)) ?_
        refine ev ?_
        refine Walk.call (cr := []) cal49 (laws_heldIntS_fn (l := []) (k := 1) (by omega) (by simp)) rfl .none rfl rfl (LeL.refl _) trivial rfl (by first | rfl | (simp only [okCall, List.all_cons, List.all_nil, entOK, entOK', AV.idsL, AV.ids, idsL_append, ownCells_ids, List.map_cons, List.map_nil]; rfl)) (by first | rfl | (simp only [freshB, occH, occE, Res.ids, List.cons_append, List.nil_append, AV.idsL, AV.ids, idsL_append, ownCells_ids, zerosA_idsR, repNil, List.map_cons, List.map_nil, upC]; rfl)) ?_
        refine ev ?_
        refine sq (fun h9 h9p h9s => ?_) fun h9 h9p h9s => ?_
        ·try simp only [Q] at h9p
         refine rn0 (r1 rfl) (.eqd ?_)
         all_goals (first | rfl | (exfalso; simp_all [patEq_refl]; done) | (exfalso; simp [patEq_refl] at *; omega))
        ·try simp only [Q] at h9p
         refine sq (fun h10 h10p h10s => ?_) fun h10 h10p h10s => ?_
         ·try simp only [Q] at h10p
          refine rn0 (r1 rfl) (.eqd ?_)
          all_goals (first | rfl | (exfalso; simp_all [patEq_refl]; done) | (exfalso; simp [patEq_refl] at *; omega))
         ·try simp only [Q] at h10p
          refine Walk.call (cr := []) cal28 (laws_toDataS_fn hs) rfl .none rfl rfl (LeL.refl _) trivial rfl (by first | rfl | (simp only [okCall, List.all_cons, List.all_nil, entOK, entOK', AV.idsL, AV.ids, idsL_append, ownCells_ids, List.map_cons, List.map_nil]; rfl)) (by first | rfl | (simp only [freshB, occH, occE, Res.ids, List.cons_append, List.nil_append, AV.idsL, AV.ids, idsL_append, ownCells_ids, zerosA_idsR, repNil, List.map_cons, List.map_nil, upC]; rfl)) ?_
          refine evd [] [] ?_
          refine Walk.call (cr := []) cal29 (laws_toType_fn) rfl .none rfl rfl (LeL.refl _) trivial rfl (by first | rfl | (simp only [okCall, List.all_cons, List.all_nil, entOK, entOK', AV.idsL, AV.ids, idsL_append, ownCells_ids, List.map_cons, List.map_nil]; rfl)) (by first | rfl | (simp only [freshB, occH, occE, Res.ids, List.cons_append, List.nil_append, AV.idsL, AV.ids, idsL_append, ownCells_ids, zerosA_idsR, repNil, List.map_cons, List.map_nil, upC]; rfl)) ?_
          refine evd [] [] ?_
          refine Walk.call (cr := []) cal30 (laws_toPattern_fn hok) rfl .none rfl rfl (LeL.refl _) trivial rfl (by first | rfl | (simp only [okCall, List.all_cons, List.all_nil, entOK, entOK', AV.idsL, AV.ids, idsL_append, ownCells_ids, List.map_cons, List.map_nil]; rfl)) (by first | rfl | (simp only [freshB, occH, occE, Res.ids, List.cons_append, List.nil_append, AV.idsL, AV.ids, idsL_append, ownCells_ids, zerosA_idsR, repNil, List.map_cons, List.map_nil, upC]; rfl)) ?_
          refine Walk.call (cr := []) cal36 (himp) rfl .none rfl rfl (LeL.refl _) trivial rfl (by first | rfl | (simp only [okCall, List.all_cons, List.all_nil, entOK, entOK', AV.idsL, AV.ids, idsL_append, ownCells_ids, List.map_cons, List.map_nil]; rfl)) (by first | rfl | (simp only [freshB, occH, occE, Res.ids, List.cons_append, List.nil_append, AV.idsL, AV.ids, idsL_append, ownCells_ids, zerosA_idsR, repNil, List.map_cons, List.map_nil, upC]; rfl)) ?_
          refine evd [] [] ?_
          refine dr ?_
          refine Walk.call (cr := []) cal45 (laws_eqIntS_fn (l := []) (m := []) (by simp)) rfl .none rfl rfl (LeL.refl _) trivial rfl (by first | rfl | (simp only [okCall, List.all_cons, List.all_nil, entOK, entOK', AV.idsL, AV.ids, idsL_append, ownCells_ids, List.map_cons, List.map_nil]; rfl)) (by first | rfl | (simp only [freshB, occH, occE, Res.ids, List.cons_append, List.nil_append, AV.idsL, AV.ids, idsL_append, ownCells_ids, zerosA_idsR, repNil, List.map_cons, List.map_nil, upC]; rfl)) ?_
          refine ev ?_
          refine sq (fun h11 h11p h11s => ?_) fun h11 h11p h11s => ?_
          ·try simp only [Q] at h11p
           refine rn0 (r1 rfl) (.eqd ?_)
           all_goals (first | rfl | (exfalso; simp_all [patEq_refl]; done) | (exfalso; simp [patEq_refl] at *; omega))
          ·try simp only [Q] at h11p
           refine Walk.call (cr := []) cal49 (laws_heldIntS_fn (l := []) (k := 1) (by omega) (by simp)) rfl .none rfl rfl (LeL.refl _) trivial rfl (by first | rfl | (simp only [okCall, List.all_cons, List.all_nil, entOK, entOK', AV.idsL, AV.ids, idsL_append, ownCells_ids, List.map_cons, List.map_nil]; rfl)) (by first | rfl | (simp only [freshB, occH, occE, Res.ids, List.cons_append, List.nil_append, AV.idsL, AV.ids, idsL_append, ownCells_ids, zerosA_idsR, repNil, List.map_cons, List.map_nil, upC]; rfl)) ?_
           refine ev ?_
           refine sq (fun h12 h12p h12s => ?_) fun h12 h12p h12s => ?_
           ·try simp only [Q] at h12p
            refine rn0 (r1 rfl) (.eqd ?_)
            all_goals (first | rfl | (exfalso; simp_all [patEq_refl]; done) | (exfalso; simp [patEq_refl] at *; omega))
           ·try simp only [Q] at h12p
            refine sq (fun h13 h13p h13s => ?_) fun h13 h13p h13s => ?_
            ·try simp only [Q] at h13p
             refine rn0 (r1 rfl) (.eqd ?_)
             all_goals (first | rfl | (exfalso; simp_all [patEq_refl]; done) | (exfalso; simp [patEq_refl] at *; omega))
            ·try simp only [Q] at h13p
             refine rn0 (r1 rfl) (.eqd ?_)
             all_goals (first | rfl | (exfalso; simp_all [patEq_refl]; done) | (exfalso; simp [patEq_refl] at *; omega))
theorem laws_FnExactIndicesOf_fn {w : List Data} (hs : WSmall w) {a k : Int} {p : Pat} (hok : p.ok) (hsz : p.size ≤ 1000000000000) : FnD Try.prog 10 [.d (encDatas w), .agg [.d (.i a), .d (.i k)], .agg [.d (.i p.op), .d (.i p.ctor), .d (.i p.n), .d (.i p.m), .d (.i p.var), .d (encPats p.kids)]] [] (.d (.bool true)) [] := by
 by_cases hi : indicesV w a k p = []
 ·exact laws_FnExactIndicesOf_bad hs hok hsz hi
 ·by_cases hv : patValid w a k p = true ∧ a ≠ -1
  ·refine laws_FnExactIndicesOf_good hs hok hsz hv (fun h => hi ?_)
   unfold indicesV; rw [if_pos hv]; exact h
  ·exact absurd (by unfold indicesV; rw [if_neg hv]) hi
end Go.Proofs.Ytpimgoacljakgaa
namespace Go.Proofs.Ytpimgoacljakgaa
open Go Go.ChangeShapes Go.WideShapes Go.ChangeAt Go.RowKit
set_option linter.unusedSimpArgs false
set_option linter.unusedVariables false
set_option linter.unusedVariables false
def FW (W : World) (b : Nat) : Nat := match W.heap[b]? with
 | some (.cells cs _ _) => cs.size
 | _ => 0
theorem FW_cell {W : World} {b o : Nat} {v : Value} (h : W.cell? ⟨b, o, none⟩ = some v) : o < FW W b := by
 unfold World.cell? at h
 unfold FW
 simp only at h
 split at h
 ·rename_i c t fr hb
  simp only [hb]
  simp only [Option.isSome_none, Bool.false_eq_true, if_false] at h
  exact (Array.getElem?_eq_some_iff.1 h).1
 ·cases h
theorem FW_top {W : World} {b : Nat} (h : W.heap.size ≤ b) : FW W b = 0 := by
 unfold FW
 rw [Array.getElem?_eq_none h]
structure RelL (W : World) (xs : List D) (cs : List Value) : Prop where
 len : xs.length = cs.length
 rel : ∀ i (h1 : i < xs.length) (h2 : i < cs.length), RelD (FW W) W xs[i] cs[i]
theorem RelL.append {W : World} {xs ys : List D} {cs ds : List Value} (h : RelL W xs cs) (k : RelL W ys ds) : RelL W (xs ++ ys) (cs ++ ds) := by
 refine ⟨by simp [h.len, k.len], fun i h1 h2 => ?_⟩
 by_cases hi : i < xs.length
 ·rw [List.getElem_append_left hi, List.getElem_append_left (by rw [← h.len]; exact hi)]
  exact h.rel i hi (by rw [← h.len]; exact hi)
 ·have hl := h.len
  rw [List.getElem_append_right (by omega), List.getElem_append_right (by omega)]
  have e : i - xs.length = i - cs.length := by omega
  have h1' : i - xs.length < ys.length := by simp only [List.length_append] at h1; omega
  have h2' : i - cs.length < ds.length := by simp only [List.length_append] at h2; omega
  have := k.rel (i - xs.length) h1' (by omega)
  simp only [e] at this ⊢
  exact this
def Dec (P : Program) (W : World) (n : Nat) (t : TypeId) {α : Type} (f : α → List D) (m : α → Nat) (R : α → Prop) : Prop :=
 ∀ (H : Type) (enc : TypeId × Value → H) (cs : List Value) (x : DataW H × List MemPlace), DataW.trod enc P W 0 (fun _ => true) true n t cs = some x →
  ∃ a, RelL W (f a) cs ∧ m a + 1 ≤ Rows.uptoBulk x.1 ∧ R a
section
variable {P : Program} {W : World} {n : Nat} {t : TypeId}
theorem Dec.zero {α : Type} {f : α → List D} {m : α → Nat} {R : α → Prop} : Dec P W 0 t f m R := fun H enc cs x h => by simp [DataW.trod] at h
theorem Dec.map {α β : Type} {f : α → List D} {m : α → Nat} {R : α → Prop} {f' : β → List D} {m' : β → Nat} {R' : β → Prop} (g : α → β) (h : Dec P W n t f m R)
  (h1 : ∀ a, f' (g a) = f a) (h2 : ∀ a, m' (g a) ≤ m a) (h3 : ∀ a, R a → R' (g a)) : Dec P W n t f' m' R' := fun H enc cs x hx => by
 obtain ⟨a, q1, q2, q3⟩ := h H enc cs x hx
 exact ⟨g a, by rw [h1]; exact q1, by have := h2 a; omega, h3 a q3⟩
theorem RelL.one {x : D} {v : Value} (h : RelD (FW W) W x v) : RelL W [x] [v] :=
 ⟨rfl, fun i h1 h2 => by
  have : i = 0 := by simp at h1; omega
  subst this
  exact h⟩
theorem Dec.int {k : IntKind} (ht : P.underlying t = some (.int k)) : Dec P W n t (fun z : Int => [.int k z]) (fun _ => 0) (fun z => (Lit.int k z).wf = true) := fun H enc cs x h => by
 obtain ⟨z, rfl, rfl, hw⟩ := DataW.trod_int ht h
 exact ⟨z, .one (.int k z), by simp [Rows.uptoBulk], hw⟩
theorem Dec.bool (ht : P.underlying t = some .bool) : Dec P W n t (fun z : Bool => [.bool z]) (fun _ => 0) (fun _ => True) := fun H enc cs x h => by
 obtain ⟨z, rfl, rfl⟩ := DataW.trod_bool ht h
 exact ⟨z, .one (.bool z), by simp [Rows.uptoBulk], trivial⟩
theorem Dec.str (ht : P.underlying t = some .string) : Dec P W n t (fun s : Str => [.str s]) (fun s => s.length) (fun _ => True) := fun H enc cs x h => by
 obtain ⟨s, rfl, rfl, hw⟩ := DataW.trod_string ht h
 exact ⟨s.data.toList, .one (by have := RelD.str (F := FW W) (w := W) s.data.toList; simpa using this), by simp [Rows.uptoBulk], trivial⟩
def sumM {α : Type} (m : α → Nat) : List α → Nat
 | [] => 0
 | a :: r => m a + 1 + sumM m r
theorem sumM_len {α : Type} (m : α → Nat) : ∀ l : List α, l.length ≤ sumM m l
 | [] => by simp [sumM]
 | a :: r => by have := sumM_len m r; simp only [sumM, List.length_cons]; omega
theorem sumM_mem {α : Type} {m : α → Nat} : ∀ {l : List α} {a : α}, a ∈ l → m a + 1 ≤ sumM m l
 | b :: r, a, h => by
  simp only [sumM]
  rcases List.mem_cons.1 h with rfl | h
  ·omega
  ·have := sumM_mem (m := m) h; omega
theorem choose_list {α β : Type} {Q : Nat → α → β → Prop} : ∀ (l : List β) (o : Nat), (∀ i (h : i < l.length), ∃ a, Q (o + i) a l[i]) → ∃ zs : List α, zs.length = l.length ∧ ∀ i (h : i < l.length) (h' : i < zs.length), Q (o + i) zs[i] l[i]
 | [], o, _ => ⟨[], rfl, fun i h => by simp at h⟩
 | b :: r, o, h => by
  obtain ⟨a, ha⟩ := h 0 (by simp)
  obtain ⟨zs, h1, h2⟩ := choose_list (Q := Q) r (o + 1) (fun i hi => by
   have := h (i + 1) (by simp; omega)
   rw [show o + 1 + i = o + (i + 1) by omega]
   simpa using this)
  refine ⟨a :: zs, by simp [h1], fun i hi hi' => ?_⟩
  cases i with
  | zero => exact ha
  | succ i =>
   have := h2 i (by simpa using hi) (by simpa using hi')
   rw [show o + 1 + i = o + (i + 1) by omega] at this
   simpa using this
theorem bulk_sum {H α : Type} {m : α → Nat} : ∀ {zs : List α} {xs : List (DataW H)}, zs.length = xs.length → (∀ i (h : i < zs.length) (h' : i < xs.length), m zs[i] + 1 ≤ Rows.uptoBulk xs[i]) → sumM m zs ≤ Rows.uptoBulkAll xs
 | [], [], _, _ => by simp [sumM, Rows.uptoBulkAll]
 | a :: zs, x :: xs, hl, h => by
  have h0 := h 0 (by simp) (by simp)
  have ih := bulk_sum (m := m) (zs := zs) (xs := xs) (by simpa using hl) (fun i h1 h2 => by
   have := h (i + 1) (by simp; omega) (by simp; omega)
   simpa using this)
  simp only [sumM, Rows.uptoBulkAll]
  simp only [List.getElem_cons_zero] at h0
  omega
 | [], _ :: _, hl, _ => by simp at hl
 | _ :: _, [], hl, _ => by simp at hl
theorem Dec.sl {α : Type} {f : α → List D} {m : α → Nat} {R : α → Prop} {e : TypeId} {k : Nat} (ht : P.underlying t = some (.slice e)) (hc : P.cellsOf e = k + 1) (hk : ∀ a, (f a).length = k + 1) (he : Dec P W n e f m R) :
  Dec P W (n + 1) t (fun l : List α => [.sl (l.map f)]) (fun l => sumM m l) (fun l => ∀ a ∈ l, R a) := fun H enc cs x h => by
 rcases DataW.trod_slice ht h with ⟨rfl, rfl⟩ | ⟨a, len, cap, elems, rest, n', hn, rfl, rfl, _, hcap, _, hlen, hel, _, _⟩
 ·exact ⟨[], .one .nil, by simp [sumM, Rows.uptoBulk], fun a h => by simp at h⟩
 obtain rfl : n = n' := by omega
 have each : ∀ i (hi : i < elems.length), ∃ y, (∃ cs, W.cells? 0 (a.add (i * (k + 1))) (k + 1) = some cs ∧ RelL W (f y) cs) ∧ m y + 1 ≤ Rows.uptoBulk (elems[i]).1 ∧ R y := by
  intro i hi
  have := hel i (by omega)
  rw [hc, List.getElem?_eq_getElem hi, Option.bind_eq_some_iff] at this
  obtain ⟨cs, h1, h2⟩ := this
  obtain ⟨y, h3, h4, h5⟩ := he H enc cs _ h2
  exact ⟨y, ⟨cs, h1, h3⟩, h4, h5⟩
 obtain ⟨zs, hal, has⟩ := choose_list (Q := fun i y (el : DataW H × List MemPlace) => (∃ cs, W.cells? 0 (a.add (i * (k + 1))) (k + 1) = some cs ∧ RelL W (f y) cs) ∧ m y + 1 ≤ Rows.uptoBulk el.1 ∧ R y) elems 0 (fun i hi => by simpa using each i hi)
 refine ⟨zs, .one ?_, ?_, fun y hy => ?_⟩
 ·by_cases h0 : zs = []
  ·subst h0
   have hz : len = 0 := by simp at hal; omega
   subst hz
   obtain ⟨b, o, s⟩ := a
   cases s with
   | none => exact .sl [] 0 b o cap (fun _ => undef) (by simp) (by simp) (fun n hn => by simp at hn) (fun i hi => by simp at hi)
   | some s => exact .emp b o s cap
  ·have hpos : 0 < zs.length := List.length_pos_iff.2 h0
   obtain ⟨⟨cs0, hc0, hr0⟩, _⟩ := has 0 (by omega) hpos
   have hspot : a.spot = none := by
    have h1 := (World.cells?_some hc0).2.2 0 (by omega)
    have h2 : 0 < cs0.length := by have := (World.cells?_some hc0).2.1; omega
    simp only [Nat.add_zero, Nat.zero_mul, Addr.add, if_true, List.getElem?_eq_getElem h2] at h1
    unfold World.cell? at h1
    split at h1
    ·cases hs : a.spot with
     | none => rfl
     | some s => simp [hs] at h1
    ·cases h1
   obtain ⟨b, o, s⟩ := a
   simp only at hspot
   subst hspot
   have hlen' : (zs.map f).length = len := by simp; omega
   have hmulk : ∀ i j, i < zs.length → j < k + 1 → i * (k + 1) + j < zs.length * (k + 1) := fun i j hi hj => by
    have : (i + 1) * (k + 1) ≤ zs.length * (k + 1) := Nat.mul_le_mul_right _ (by omega)
    rw [Nat.add_mul, Nat.one_mul] at this
    omega
   have cellAt : ∀ i (hi : i < zs.length) j (hj : j < (f zs[i]).length), ∃ v, W.cell? ⟨b, o + (i * (k + 1) + j), none⟩ = some v ∧ RelD (FW W) W ((f zs[i])[j]) v := fun i hi j hj => by
    obtain ⟨⟨cs, hc1, hr1⟩, _⟩ := has i (by omega) hi
    have hjk : j < k + 1 := by have := hk zs[i]; omega
    obtain ⟨_, q1, q2⟩ := World.cells?_some hc1
    have q3 := q2 j hjk
    rw [List.getElem?_eq_getElem (by omega)] at q3
    refine ⟨cs[j], ?_, hr1.rel j hj (by omega)⟩
    rw [← q3]
    congr 1
    simp only [Nat.zero_add, Addr.add]
    split <;> split <;> simp_all <;> omega
   have hv : ((zs.map f).length, cap) = (len, cap) := by rw [hlen']
   have goal : RelD (FW W) W (.sl (zs.map f)) (.slice (some ⟨b, o, none⟩) (zs.map f).length cap) := by
    refine .sl _ (k + 1) b o cap (fun q => (W.cell? ⟨b, o + q, none⟩).getD undef) (fun y hy => ?_) (by omega) (fun q hq => ?_) (fun i hi j hj => ?_)
    ·obtain ⟨y', _, rfl⟩ := List.mem_map.1 hy; exact hk y'
    ·have hq' : q < zs.length * (k + 1) := by simpa using hq
     have hi : q / (k + 1) < zs.length := Nat.div_lt_of_lt_mul (by rw [Nat.mul_comm]; exact hq')
     have hj : q % (k + 1) < k + 1 := Nat.mod_lt _ (by omega)
     obtain ⟨v, h1, _⟩ := cellAt _ hi (q % (k + 1)) (by rw [hk]; exact hj)
     rw [Nat.div_add_mod'] at h1
     exact ⟨FW_cell h1, by rw [h1]; rfl⟩
    ·have hi' : i < zs.length := by simpa using hi
     simp only [List.getElem_map] at hj ⊢
     obtain ⟨v, h1, h2⟩ := cellAt i hi' j hj
     show RelD (FW W) W _ ((W.cell? ⟨b, o + (i * (k + 1) + j), none⟩).getD undef)
     rw [h1]
     exact h2
   rw [hlen'] at goal
   exact goal
 ·have := bulk_sum (m := m) (zs := zs) (xs := elems.map (·.1)) (by simp [hal]) (fun i h1 h2 => by
   have := (has i (by simpa using h2) h1).2.1
   simpa using this)
  simp only [Rows.uptoBulk]
  omega
 ·obtain ⟨i, hi, rfl⟩ := List.getElem_of_mem hy
  exact (has i (by omega) hi).2.2
def DecF (P : Program) (W : World) (n o K : Nat) (fs : List Field) {α : Type} (f : α → List D) (m : α → Nat) (R : α → Prop) : Prop :=
 ∀ (H : Type) (enc : TypeId × Value → H) (cs : List Value) (xs : List (DataW H × List MemPlace)), cs.length = K → xs.length = fs.length →
  (∀ (i : Nat) (fd : Field), fs[i]? = some fd → DataW.trod enc P W 0 (fun _ => true) true n fd.type ((cs.drop fd.offset).take (P.cellsOf fd.type)) = xs[i]?) →
  ∃ a, RelL W (f a) (cs.drop o) ∧ m a ≤ Rows.uptoBulkAll (xs.map (·.1)) ∧ R a
theorem DecF.nil {K : Nat} : DecF P W n K K [] (fun _ : Unit => []) (fun _ => 0) (fun _ => True) := fun H enc cs xs h1 h2 _ =>
 ⟨(), by rw [List.drop_of_length_le (by omega)]; exact ⟨rfl, fun i h => by simp at h⟩, by simp, trivial⟩
theorem DecF.cons {α β : Type} {f : α → List D} {m : α → Nat} {R : α → Prop} {f2 : β → List D} {m2 : β → Nat} {R2 : β → Prop} {o K k : Nat} {fd : Field} {fs : List Field}
  (h1 : Dec P W n fd.type f m R) (ho : fd.offset = o) (hc : P.cellsOf fd.type = k) (h2 : DecF P W n (o + k) K fs f2 m2 R2) :
  DecF P W n o K (fd :: fs) (fun p : α × β => f p.1 ++ f2 p.2) (fun p => m p.1 + 1 + m2 p.2) (fun p => R p.1 ∧ R2 p.2) := fun H enc cs xs hK hl hx => by
 cases xs with
 | nil => simp at hl
 | cons y ys =>
  have h0 := hx 0 fd (by simp)
  simp only [List.getElem?_cons_zero] at h0
  rw [ho, hc] at h0
  obtain ⟨a, q1, q2, q3⟩ := h1 H enc _ _ h0
  obtain ⟨b, r1, r2, r3⟩ := h2 H enc cs ys hK (by simpa using hl) (fun i fd' hi => by
   have := hx (i + 1) fd' (by simpa using hi)
   simpa using this)
  refine ⟨(a, b), ?_, ?_, q3, r3⟩
  ·have : cs.drop o = (cs.drop o).take k ++ cs.drop (o + k) := by
    rw [← List.drop_drop, List.take_append_drop]
   rw [this]
   exact q1.append r1
  ·simp only [List.map_cons, Rows.uptoBulkAll]
   omega
theorem Dec.struct {α : Type} {f : α → List D} {m : α → Nat} {R : α → Prop} {fs : Array Field} (ht : P.underlying t = some (.struct fs)) {K : Nat} (hK : P.cellsOf t = K) (h : DecF P W n 0 K fs.toList f m R) :
  Dec P W (n + 1) t f m R := fun H enc cs x hx => by
 obtain ⟨xs, n', hn, rfl, hl, hxl, hf⟩ := DataW.trod_struct ht hx
 obtain rfl : n = n' := by omega
 obtain ⟨a, q1, q2, q3⟩ := h H enc cs xs (by omega) (by simpa using hxl) (fun i fd hi => hf i fd (by simpa using hi))
 refine ⟨a, by simpa using q1, ?_, q3⟩
 simp only [Rows.uptoBulk]
 omega
end
section
variable {P : Program} {W : World} {base : Nat} {t : TypeId} {v : Value} {H : Type} {enc : TypeId × Value → H} {d : DataW H} {ps : List MemPlace}
theorem arg_sl {α : Type} {e : TypeId} {f : α → List D} {m : α → Nat} {R : α → Prop} {k : Nat} (ht : P.underlying t = some (.slice e)) (hc : P.cellsOf e = k + 1) (hk : ∀ a, (f a).length = k + 1) (hd : ∀ n, Dec P W n e f m R)
  (hval : Value.okWide P W .any base t v) (h : DataW.Trod enc P W 0 (fun _ => true) true t v d ps) :
  ∃ l : List α, (∀ G T, G.F = FW W → RelA G T W (.d (.sl (l.map f))) v) ∧ sumM m l + 1 ≤ Rows.uptoBulk d ∧ ∀ a ∈ l, R a := by
 obtain ⟨n, hn⟩ := h
 cases n with
 | zero => simp [DataW.trod] at hn
 | succ n =>
  obtain ⟨l, h1, h2, h3⟩ := Dec.sl ht hc hk (hd n) H enc _ _ hn
  have hcells : v.cells.toList = [v] := by
   cases v with
   | agg cs => simp only [Value.okWide, ht, Cell.okWide, Cell.ok] at hval
   | _ => rfl
  rw [hcells] at h1
  exact ⟨l, fun G T hG => .d (by rw [hG]; simpa using h1.rel 0 (by simp) (by simp)), h2, h3⟩
theorem arg_struct {α : Type} {f : α → List D} {m : α → Nat} {R : α → Prop} {fs : Array Field} (ht : P.underlying t = some (.struct fs)) (hd : ∀ n, Dec P W n t f m R)
  (hval : Value.okWide P W .any base t v) (h : DataW.Trod enc P W 0 (fun _ => true) true t v d ps) :
  ∃ a : α, (∀ G T, G.F = FW W → RelA G T W (.agg ((f a).map .d)) v) ∧ m a + 1 ≤ Rows.uptoBulk d ∧ R a := by
 obtain ⟨n, hn⟩ := h
 obtain ⟨a, h1, h2, h3⟩ := hd n H enc _ _ hn
 simp only [Value.okWide, ht] at hval
 obtain ⟨cs, rfl, _, _⟩ := hval
 refine ⟨a, fun G T hG => .agg (by have := h1.len; simp [Value.cells] at this ⊢; omega) (fun i hi hv => ?_), h2, h3⟩
 have hi' : i < (f a).length := by simpa using hi
 have := h1.rel i hi' (by simpa [Value.cells] using hv)
 simp only [List.getElem_map]
 exact .d (by rw [hG]; simpa [Value.cells] using this)
end
section
variable {P : Program} {H : Type} {enc : TypeId × Value → H}
theorem trodAll_below (hl : laidOutB P = true) {W W' : World} (hb : Below W.heap.size W W') : ∀ {ts : List TypeId} {vs : List Value} {ds : List (DataW H)} {ps : List MemPlace},
  (∀ t ∈ ts, P.readableRec t = true ∧ t < P.types.size) → DataW.TrodAll enc P W 0 (fun _ => true) true ts vs ds ps → (∀ x ∈ ps, x.block < W.heap.size) →
  DataW.TrodAll enc P W' 0 (fun b => decide (b < W.heap.size)) true ts vs ds ps
 | [], [], [], ps, _, h, _ => h
 | t :: ts, v :: vs, d :: ds, ps, hr, h, hlt => by
  obtain ⟨p, q, h1, h2, rfl⟩ := h
  exact ⟨p, q, Below.trod hl (hr t (by simp)).1 (hr t (by simp)).2 h1 hb (fun x hx => hlt x (by simp [hx])),
   trodAll_below hl hb (fun t ht => hr t (by simp [ht])) h2 (fun x hx => hlt x (by simp [hx])), rfl⟩
theorem law_post {f : Func} {s : ChangeSpec} {W W' : World} {args : Array Value} {ds gs : List (DataW H)} {before : List MemPlace} {tb : TypeId}
  (hW : DataW.Whole enc P f.params.toList s.vars false W args.toList ds gs before) (hvars : s.vars = []) (hrt : f.resultTypes = #[tb]) (htb : P.underlying tb = some .bool)
  (hs : s.fn H (ds ++ gs) = { results := [.lit (.bool true)], args := ds }) (hl : laidOutB P = true) (hr : ∀ t ∈ f.params.toList, P.readableRec t = true ∧ t < P.types.size)
  (hb : Below W.heap.size W W') : s.post enc P f false true false false W args (.bool true) W' := by
 have hlt : ∀ p ∈ before, p.block < W.heap.size := fun p hp => hW.lt p hp
 have hW0 := hW
 obtain ⟨p, q, hA, hV, rfl, hfz, _⟩ := hW
 rw [hvars] at hV
 cases gs with
 | cons g gs => exact hV.elim
 | nil =>
  have hq : q = [] := hV
  subst hq
  simp only [List.append_nil] at *
  refine ⟨ds, [], p, [], p, [], by simpa [hvars] using hW0, ?_, ?_, ?_, World.keptBut_mono (fun x hx => ⟨hx, .inr (.inl hx)⟩) (hb.frame (· ∈ p)), fun h => by cases h⟩
  ·simp only [List.append_nil, hs, hrt]
   exact trodAll_cons_mk (shut_bool htb _) trodAll_mk0
  ·simp only [List.append_nil, hs]
   exact trodAll_below hl hb hr hA hlt
  ·simp only [hvars, List.append_nil, hs]
   rfl
theorem law_calls {f : FuncId} {avs : List AV} {W : World} {args : Array Value} {r : AV} (hf : FnD P f avs [] r [])
  (hargs : ∀ G T, G.F = FW W → AllR G T W avs args) : Calls P f args W fun e W' => ∃ v G', e = .returned v ∧ RelA G' (fun _ => none) W' r v ∧ Below W.heap.size W W' := by
 let G : Gh := { F := FW W, loc := fun _ => [] }
 refine (hf G W args ⟨hargs G _ rfl, fun id r h => (by simp [getH] at h), fun id id' h => (by simp [getH] at h), fun b hb => FW_top hb⟩).mono ?_
 rintro e W' ⟨v, r', hp', G', rfl, ⟨rfl, rfl⟩, h⟩
 exact ⟨v, G', rfl, h.res, ⟨h.frm.os, h.frm.tape, h.frm.output, h.frm.size, fun b hb => (h.frm.block b hb (by simp [ownedL])).1⟩⟩
theorem RelA.bool_true {G : Gh} {T : TokF} {w : World} {v : Value} (h : RelA G T w (.d (.bool true)) v) : v = .bool true := by
 cases h with | d h => cases h; rfl
theorem bound_of {H : Type} {l : List (DataW H)} (hk : Rows.uptoSmall H l = true) : Rows.uptoBulkAll l ≤ 1048576 := of_decide_eq_true hk
end
end Go.Proofs.Ytpimgoacljakgaa
namespace Go.Proofs.Ytpimgoacljakgaa
open Go Go.ChangeShapes Go.WideShapes Go.ChangeAt Go.RowKit
set_option linter.unusedSimpArgs false
set_option linter.unusedVariables false
set_option maxRecDepth 100000
theorem decInt (W : World) (n : Nat) : Dec Try.prog W n 3 (fun z : Int => [.i z]) (fun _ => 0) (fun _ => True) := Dec.map (f := fun z : Int => [D.i z]) (R := fun z => (Lit.int .i64 z).wf = true) id (Dec.int Try.underlying3) (fun _ => rfl) (fun _ => Nat.le_refl _) (fun _ _ => trivial)
theorem decStr (W : World) (n : Nat) : Dec Try.prog W n 9 (fun s : Str => [.str s]) (fun s => s.length) (fun _ => True) := Dec.str Try.underlying9
theorem decTy (W : World) : ∀ n, Dec Try.prog W n 46 Ty.c (fun _ => 0) (fun _ => True)
 | 0 => Dec.zero
 | n + 1 => Dec.map (fun p : Int × Int × Unit => (⟨p.1, p.2.1⟩ : Ty)) (Dec.struct Try.underlying46 (by kernel_rfl) (DecF.cons (k := 1) (decInt W n) rfl (by kernel_rfl) (DecF.cons (k := 1) (decInt W n) rfl (by kernel_rfl) DecF.nil))) (fun _ => rfl) (fun _ => Nat.zero_le _) (fun _ _ => trivial)
theorem decTys (W : World) : ∀ n, Dec Try.prog W n 171 (fun l : List Ty => [encTys l]) (fun l => l.length) (fun _ => True)
 | 0 => Dec.zero
 | n + 1 => Dec.map id (Dec.sl (k := 1) Try.underlying171 (by kernel_rfl) (fun _ => rfl) (decTy W n)) (fun _ => rfl) (fun l => sumM_len _ l) (fun _ _ => trivial)
def bCtor (c : Ctor) : Nat := c.name.length + c.args.length
theorem decCtor (W : World) : ∀ n, Dec Try.prog W n 173 Ctor.c bCtor (fun _ => True)
 | 0 => Dec.zero
 | n + 1 => Dec.map (fun p : Str × List Ty × Int × Unit => (⟨p.1, p.2.1, p.2.2.1⟩ : Ctor)) (Dec.struct Try.underlying173 (by kernel_rfl) (DecF.cons (k := 1) (decStr W n) rfl (by kernel_rfl) (DecF.cons (k := 1) (decTys W n) rfl (by kernel_rfl) (DecF.cons (k := 1) (decInt W n) rfl (by kernel_rfl) DecF.nil))))
   (fun _ => rfl) (fun p => by simp only [bCtor]; omega) (fun _ _ => trivial)
theorem decCtors (W : World) : ∀ n, Dec Try.prog W n 93 (fun l : List Ctor => [encCtors l]) (fun l => sumM bCtor l) (fun _ => True)
 | 0 => Dec.zero
 | n + 1 => Dec.map id (Dec.sl (k := 2) Try.underlying93 (by kernel_rfl) (fun _ => rfl) (decCtor W n)) (fun _ => rfl) (fun l => Nat.le_refl _) (fun _ _ => trivial)
def bData (d : Data) : Nat := d.name.length + sumM bCtor d.ctors
theorem decData (W : World) : ∀ n, Dec Try.prog W n 95 Data.c bData (fun _ => True)
 | 0 => Dec.zero
 | n + 1 => Dec.map (fun p : Str × List Ctor × Unit => (⟨p.1, p.2.1⟩ : Data)) (Dec.struct Try.underlying95 (by kernel_rfl) (DecF.cons (k := 1) (decStr W n) rfl (by kernel_rfl) (DecF.cons (k := 1) (decCtors W n) rfl (by kernel_rfl) DecF.nil)))
   (fun _ => rfl) (fun p => by simp only [bData]; omega) (fun _ _ => trivial)
theorem wsmall_of {w : List Data} {N : Nat} (h : sumM bData w + 1 ≤ N) (hN : N ≤ 1048576) : WSmall w := by
 refine ⟨by have := sumM_len bData w; omega, fun d hd => ?_, fun d hd c hc => ?_⟩
 ·have h1 := sumM_mem (m := bData) hd
  have h2 := sumM_len bCtor d.ctors
  simp only [bData] at h1
  omega
 ·have h1 := sumM_mem (m := bData) hd
  have h2 := sumM_mem (m := bCtor) hc
  simp only [bData] at h1
  simp only [bCtor] at h2
  omega
theorem decPat (W : World) : ∀ n, Dec Try.prog W n 49 Pat.cc (fun v => Pats.size v.kids) (fun _ => True) := by
 intro n
 induction n using Nat.strongRecOn with
 | _ n ih =>
  cases n with
  | zero => exact Dec.zero
  | succ n =>
   have hk : Dec Try.prog W n 47 (fun l : List Pat => [.sl (l.map Pat.cc)]) (fun l => Pats.size l) (fun _ => True) := by
    cases n with
    | zero => exact Dec.zero
    | succ n =>
     refine Dec.map id (Dec.sl (k := 5) Try.underlying47 (by kernel_rfl) (fun _ => rfl) (ih n (by omega))) (fun _ => rfl) (fun l => ?_) (fun _ _ => trivial)
     have : ∀ l : List Pat, Pats.size l ≤ sumM (fun v => Pats.size v.kids) l := by
      intro l
      induction l with
      | nil => simp [Pats.size, sumM]
      | cons a r ih2 => simp only [Pats.size, sumM, Pat.size_eq]; omega
     exact this l
   refine Dec.map (fun p : Int × Int × Int × Int × Int × List Pat × Unit => Pat.mk p.1 p.2.1 p.2.2.1 p.2.2.2.1 p.2.2.2.2.1 p.2.2.2.2.2.1) (Dec.struct Try.underlying49 (by kernel_rfl) (DecF.cons (k := 1) (decInt W n) rfl (by kernel_rfl) (DecF.cons (k := 1) (decInt W n) rfl (by kernel_rfl) (DecF.cons (k := 1) (decInt W n) rfl (by kernel_rfl) (DecF.cons (k := 1) (decInt W n) rfl (by kernel_rfl) (DecF.cons (k := 1) (decInt W n) rfl (by kernel_rfl) (DecF.cons (k := 1) hk rfl (by kernel_rfl) DecF.nil))))))) (fun p => ?_) (fun p => ?_) (fun _ _ => trivial)
   ·show [D.i _, D.i _, D.i _, D.i _, D.i _, D.sl (Pat.cs _)] = _
    rw [show Pat.cs (Pat.mk p.1 p.2.1 p.2.2.1 p.2.2.2.1 p.2.2.2.2.1 p.2.2.2.2.2.1).kids = p.2.2.2.2.2.1.map Pat.cc by rw [Pat.cs_eq]; exact List.map_congr_left (fun v _ => Pat.c_eq v)]
    rfl
   ·show Pats.size p.2.2.2.2.2.1 ≤ 0 + 1 + (0 + 1 + (0 + 1 + (0 + 1 + (0 + 1 + (Pats.size p.2.2.2.2.2.1 + 1 + 0)))))
    omega
theorem Pats.ok_size : ∀ (n : Nat) (l : List Pat), Pats.size l ≤ n → n ≤ 1048576 → l.length ≤ 1048576 ∧ Pats.ok l := by
 intro n
 induction n with
 | zero =>
  intro l h hn
  cases l with
  | nil => exact ⟨by simp, trivial⟩
  | cons x r => simp only [Pats.size, Pat.size_eq] at h; omega
 | succ n ih =>
  intro l
  induction l with
  | nil => intro _ _; exact ⟨by simp, trivial⟩
  | cons x r ihr =>
   intro h hn
   simp only [Pats.size] at h
   have hx := Pat.size_eq x
   have h1 := ih x.kids (by omega) (by omega)
   have h2 := ih r (by omega) (by omega)
   refine ⟨?_, (Pat.ok_iff x).2 ⟨by have := h1.1; omega, h1.2⟩, h2.2⟩
   have : ∀ l : List Pat, l.length ≤ Pats.size l := by
    intro l
    induction l with
    | nil => simp
    | cons y s ihs => simp only [Pats.size, List.length_cons, Pat.size_eq]; omega
   have := this r
   simp only [List.length_cons]; omega
theorem pat_ok_of {v : Pat} (h : Pats.size v.kids ≤ 1048576) : v.ok := by
 have := Pats.ok_size _ _ (Nat.le_refl _) h
 exact (Pat.ok_iff v).2 ⟨by omega, this.2⟩
end Go.Proofs.Ytpimgoacljakgaa
namespace Go.Proofs.Ytpimgoacljakgaa.fnExactIndicesOf
open Go Go.ChangeShapes Go.WideShapes Go.ChangeAt Go.RowKit
set_option linter.unusedSimpArgs false
set_option linter.unusedVariables false
theorem own : ownKnob Try.prog.godebug = none := by kernel_rfl
theorem laidOut : laidOutB Try.prog = true := by kernel_rfl
set_option maxRecDepth 100000 in
theorem contract (H : Type) (enc : TypeId × Value → H) (W : World) (base : Nat) (args : Array Value) (ds gs : List (DataW H)) (before : List MemPlace)
  (hval : ∀ (j : Nat) t v, Try.f10.params[j]? = some t → args[j]? = some v → Value.okWide Try.prog W .any base t v)
  (hW : DataW.Whole enc Try.prog Try.f10.params.toList Rows.fnExactIndicesOfSpec.vars false W args.toList ds gs before) (hk : Rows.uptoSmall H (ds ++ gs) = true) :
  Calls Try.prog 10 args W fun e W' => ∃ v, e = .returned v ∧ Rows.fnExactIndicesOfSpec.post enc Try.prog Try.f10 false true false false W args v W' := by
 have hb := bound_of hk
 have hW' := hW
 obtain ⟨p, q, hA0, hV, rfl, hfz, hnd⟩ := hW
 have hA : DataW.TrodAll enc Try.prog W 0 (fun _ => true) true Try.f10.params.toList args.toList ds p := hA0
 rw [Try.params10] at hA hval
 obtain ⟨v0, vs0, d0, ds0, p0, q0, hargs, rfl, rfl, h0, r0⟩ := trodAll_cons hA
 obtain ⟨v1, vs1, d1, ds1, p1, q1, rfl, rfl, rfl, h1, r1⟩ := trodAll_cons r0
 obtain ⟨v2, vs2, d2, ds2, p2, q2, rfl, rfl, rfl, h2, r2⟩ := trodAll_cons r1
 obtain ⟨rfl, rfl, rfl⟩ := trodAll_nil r2
 obtain rfl : args = #[v0, v1, v2] := by cases args; simp_all
 obtain ⟨rfl, rfl⟩ := trodVars_none hV
 simp only [List.append_nil, Rows.uptoBulkAll] at hb
 obtain ⟨w, a0, b0, _⟩ := arg_sl (k := 1) Try.underlying45 (by kernel_rfl) (fun _ => rfl) (decData W) (hval 0 _ v0 rfl rfl) h0
 obtain ⟨t, a1, b1, _⟩ := arg_struct Try.underlying46 (decTy W) (hval 1 _ v1 rfl rfl) h1
 obtain ⟨p, a2, b2, _⟩ := arg_struct Try.underlying49 (decPat W) (hval 2 _ v2 rfl rfl) h2
 have hs : WSmall w := wsmall_of b0 (by omega)
 have ok_p : p.ok := pat_ok_of (by omega)
 have sz_p : p.size ≤ 1000000000000 := by rw [Pat.size_eq]; omega
 refine (law_calls (laws_FnExactIndicesOf_fn hs (a := t.data) (k := t.index) ok_p sz_p) (W := W) (args := #[v0, v1, v2]) (fun G T hG => ⟨rfl, fun i hi hv => ?_⟩)).mono ?_
 ·match i, hi with
  | 0, _ => exact a0 G T hG
  | 1, _ => exact a1 G T hG
  | 2, _ => exact a2 G T hG
 ·rintro e W' ⟨v, G', rfl, hr, hbelow⟩
  obtain rfl := hr.bool_true
  exact ⟨_, rfl, law_post hW' rfl rfl Try.underlying4 rfl laidOut (fun t ht => by
   simp only [Try.params10, List.mem_cons, List.not_mem_nil, or_false] at ht
   rcases ht with rfl | rfl | rfl <;> exact ⟨by kernel_rfl, of_decide_eq_true (by kernel_rfl)⟩) hbelow⟩
set_option maxRecDepth 100000 in
theorem lifted (os : Os) (started : os.Started) (H : Type) (enc : TypeId × Value → H) (F : Stop.Interp) :
  ReturnsInHanded {} Try.checked os 10 .any ((Rows.OpenSpec.upto Rows.fnExactIndicesOfSpec).pre6 enc Try.prog Try.f10 Rows.fnExactIndicesOfUptoRow.domain false) (((Rows.OpenSpec.upto Rows.fnExactIndicesOfSpec).at F).post enc Try.prog Try.f10 false true false false) := by
 refine returnsInHanded_of_cond (C := Try.checked) (s := Rows.OpenSpec.upto Rows.fnExactIndicesOfSpec) (k := Rows.uptoSmall) rfl own started (by kernel_rfl) Try.func10
  (OpenSpec.witness (enc := enc) (C := Try.checked) (s := Rows.OpenSpec.upto Rows.fnExactIndicesOfSpec) (k := Rows.uptoSmall) rfl false ⟨#[], #[.slice none 0 0, .agg #[.int .i64 0, .int .i64 0], .agg #[.int .i64 0, .int .i64 0, .int .i64 0, .int .i64 0, .int .i64 0, .slice none 0 0]], []⟩ 8 (by kernel_rfl) (by kernel_rfl) (by kernel_rfl)
   (x := ([.nil, .agg [.lit (.int .i64 0), .lit (.int .i64 0)], .agg [.lit (.int .i64 0), .lit (.int .i64 0), .lit (.int .i64 0), .lit (.int .i64 0), .lit (.int .i64 0), .nil]], [], [])) (by kernel_rfl) rfl (by kernel_rfl)) ?_
 intro W base args ds gs before hval hW _ hk _
 exact contract H enc W base args ds gs before hval hW hk
theorem over : Rows.fnExactIndicesOfUptoRow.holds Try.pinned (Rows.OpenSpec.upto Rows.fnExactIndicesOfSpec) :=
 OpenClaim.holds_of_cond 10 Try.f10 rfl rfl rfl rfl rfl rfl rfl ⟨rfl, rfl, rfl, rfl, rfl⟩ rfl rfl rfl rfl rfl (by kernel_rfl) Try.func10 (by kernel_rfl)
  (of_decide_eq_true (by kernel_rfl)) (by unfold Func.isWrapper; first | (rw [if_pos (by decide +kernel)]; kernel_rfl) | (rw [if_neg (by decide +kernel)]; exact ⟨rfl, rfl⟩))
  (fun os started H enc _ F => lifted os started H enc F)
theorem proved : Rows.FnExactIndicesOfUptoSaid := over
end Go.Proofs.Ytpimgoacljakgaa.fnExactIndicesOf
