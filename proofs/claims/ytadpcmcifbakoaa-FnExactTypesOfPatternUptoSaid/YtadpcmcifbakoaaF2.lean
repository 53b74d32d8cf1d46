/-
  WALKS: the reference's types and worlds.
-/
import Derived.Test.YtadpcmcifbakoaaF1
namespace Go.Proofs.Ytadpcmcifbakoaa
open Go
set_option linter.unusedSimpArgs false
set_option linter.unusedVariables false
set_option maxRecDepth 100000
set_option maxHeartbeats 2000000
def upperN (n : Int) : Bool := decide (65 ≤ n) && decide (n ≤ 90)
theorem spec_l1Big_fn {n : Int} : FnD Try.prog 111 [.d (.int .u8 n)] [] (.d (.bool (upperN n))) [] := by
 refine Fn.body (fn := Try.f111) (n := 9) rfl rfl rfl rfl rfl (fun w0 F0 own kept hk => ?_)
 refine sr ?_
 refine asg ?_
 refine tv ?_
 refine sr ?_
 refine mv ?_
 refine Walk.geI .none rfl rfl rfl ?_
 refine mv ?_
 refine sp 5 ?_ ?_
 ·intro h1; have ⟨h1p, h1s⟩ := dup h1; try simp only [Q5] at h1s
  try simp only [Q] at h1p
  refine Walk.move (.some rfl rfl h1) rfl rfl ?_
  refine Walk.leI (.some rfl rfl h1) rfl rfl rfl ?_
  refine Walk.pickT .none rfl rfl h1 rfl ?_
  refine asg ?_
  refine tv ?_
  refine CWp.ret ?_
  refine ⟨_, _, [], (.cons (.tmp rfl) .nil), (.eqd ?_), ⟨rfl, rfl⟩, HSub.nil, noBox⟩
  all_goals (first | rfl | (simp [upperN, h1s, h1p]; done) | (simp_all [upperN]; done) | (simp_all [upperN]; omega) | omega)
 ·intro h1; have ⟨h1p, h1s⟩ := dup h1; try simp only [Q5] at h1s
  try simp only [Q] at h1p
  refine ps h1 ?_
  refine ps h1 ?_
  refine Walk.pickF .none rfl rfl h1 rfl ?_
  refine asg ?_
  refine tv ?_
  refine CWp.ret ?_
  refine ⟨_, _, [], (.cons (.tmp rfl) .nil), (.eqd ?_), ⟨rfl, rfl⟩, HSub.nil, noBox⟩
  all_goals (first | rfl | (simp [upperN, h1s, h1p]; done) | (simp_all [upperN]; done) | (simp_all [upperN]; omega) | omega)
theorem spec_NameValid_fn {s : Str} (hs : s.length ≤ 1000000000000) : FnD Try.prog 112 [.d (.str s)] [] (.d (.bool (nameValid s))) [] := by
 refine Fn.body (fn := Try.f112) (n := 34) rfl rfl rfl rfl rfl (fun w0 F0 own kept hk => ?_)
 refine sr ?_
 refine asg ?_
 refine tv ?_
 refine CWp.seq ?_
 refine sr ?_
 refine mv ?_
 refine Walk.lenS un9 .none rfl rfl ?_
 refine Walk.eqI .none rfl rfl rfl ?_
 refine mv ?_
 refine sp 7 ?_ ?_
 ·intro h1; have ⟨h1p, h1s⟩ := dup h1; try simp only [Q5] at h1s
  try simp only [Q, upperN] at h1p
  refine ps h1 ?_
  refine ps h1 ?_
  refine ps h1 ?_
  refine Walk.pickT .none rfl rfl h1 rfl ?_
  refine mv ?_
  refine ps rfl ?_
  refine ps rfl ?_
  refine ps rfl ?_
  refine ps rfl ?_
  refine Walk.pickT .none rfl rfl rfl rfl ?_
  refine tv ?_
  refine cd ?_ ?_
  ·intro h2; have ⟨h2p, h2s⟩ := dup h2; try simp only [Q5] at h2s
   try simp only [Q, upperN] at h2p
   refine sr ?_
   refine asg ?_
   refine tv ?_
   refine CWp.ret ?_
   refine ⟨_, _, [], (.cons (.tmp rfl) .nil), (.eqd ?_), ⟨rfl, rfl⟩, HSub.nil, noBox⟩
   all_goals (first | (rw [nameValid_len (by omega)]; done) | (rw [nameValid_eq (by omega)]; simp [upperB]; omega) | (rw [nameValid_eq (by omega), ← hg1.2.2, nameTail_drop (by omega)]; simp [lowerB]; omega) | (rw [nameValid_eq (by omega), ← hg1.2.2, nameTail_end (by omega)]; simp [within, upperB]; omega) | (rw [nameValid_eq (by omega)]; simp only [upperB, h1s, h1p, h2s, h2p]; simp; done))
  ·exact fun h => absurd h (by simp)
 ·intro h1; have ⟨h1p, h1s⟩ := dup h1; try simp only [Q5] at h1s
  try simp only [Q, upperN] at h1p
  refine Walk.move (.some rfl rfl h1) rfl rfl ?_
  refine Walk.lenS un9 (.some rfl rfl h1) rfl rfl ?_
  refine Walk.gtI (.some rfl rfl h1) rfl rfl rfl ?_
  refine Walk.pickF .none rfl rfl h1 rfl ?_
  refine mv ?_
  refine sp 12 ?_ ?_
  ·intro h3; have ⟨h3p, h3s⟩ := dup h3; try simp only [Q5] at h3s
   try simp only [Q, upperN] at h3p
   refine ps h3 ?_
   refine ps h3 ?_
   refine ps h3 ?_
   refine ps h3 ?_
   refine Walk.pickT .none rfl rfl h3 rfl ?_
   refine tv ?_
   refine cd ?_ ?_
   ·intro h4; have ⟨h4p, h4s⟩ := dup h4; try simp only [Q5] at h4s
    try simp only [Q, upperN] at h4p
    refine sr ?_
    refine asg ?_
    refine tv ?_
    refine CWp.ret ?_
    refine ⟨_, _, [], (.cons (.tmp rfl) .nil), (.eqd ?_), ⟨rfl, rfl⟩, HSub.nil, noBox⟩
    all_goals (first | (rw [nameValid_len (by omega)]; done) | (rw [nameValid_eq (by omega)]; simp [upperB]; omega) | (rw [nameValid_eq (by omega), ← hg1.2.2, nameTail_drop (by omega)]; simp [lowerB]; omega) | (rw [nameValid_eq (by omega), ← hg1.2.2, nameTail_end (by omega)]; simp [within, upperB]; omega) | (rw [nameValid_eq (by omega)]; simp only [upperB, h1s, h1p, h3s, h3p, h4s, h4p]; simp; done))
   ·exact fun h => absurd h (by simp)
  ·intro h3; have ⟨h3p, h3s⟩ := dup h3; try simp only [Q5] at h3s
   try simp only [Q, upperN] at h3p
   refine Walk.move (.some rfl rfl h3) rfl rfl ?_
   refine Walk.idxS (i := 0) un9 (.some rfl rfl h3) rfl rfl rfl rfl (List.getElem?_eq_getElem (by omega)) ?_
   refine Walk.call (cr := []) cal111 (spec_l1Big_fn) rfl (.some rfl rfl h3) rfl rfl (LeL.refl _) trivial rfl rfl rfl ?_
   refine Walk.not (.some rfl rfl h3) rfl rfl ?_
   refine Walk.pickF .none rfl rfl h3 rfl ?_
   refine tv ?_
   refine cd ?_ ?_
   ·intro h5; have ⟨h5p, h5s⟩ := dup h5; try simp only [Q5] at h5s
    try simp only [Q, upperN] at h5p
    refine sr ?_
    refine asg ?_
    refine tv ?_
    refine CWp.ret ?_
    refine ⟨_, _, [], (.cons (.tmp rfl) .nil), (.eqd ?_), ⟨rfl, rfl⟩, HSub.nil, noBox⟩
    all_goals (first | (rw [nameValid_len (by omega)]; done) | (rw [nameValid_eq (by omega)]; simp [upperB]; omega) | (rw [nameValid_eq (by omega), ← hg1.2.2, nameTail_drop (by omega)]; simp [lowerB]; omega) | (rw [nameValid_eq (by omega), ← hg1.2.2, nameTail_end (by omega)]; simp [within, upperB]; omega) | (rw [nameValid_eq (by omega)]; simp only [upperB, h1s, h1p, h3s, h3p, h5s, h5p]; simp; done))
   ·intro h5; have ⟨h5p, h5s⟩ := dup h5; try simp only [Q5] at h5s
    try simp only [Q, upperN] at h5p
    refine CWp.skip ?_
    refine CWp.seq ?_
    refine sr ?_
    refine asg ?_
    refine tv ?_
    refine CWp.block ?_
    refine CWp.loopX (ι := Nat) hk (fun i => [(3, .d (.i (i : Int)))]) [2, 18, 19, 20, 21, 22, 23, 24, 25, 26, 27, 28, 29, 30, 31, 32, 33] (fun i => []) (fun i => 1 ≤ i ∧ i ≤ s.length ∧ nameTail (s.drop i) = nameTail (s.drop 1)) (fun i => s.length - i) 1 ⟨by omega, by omega, rfl⟩ ⟨⟨_, rfl, (LeA.eqi (by first | rfl | (simp; done) | (simp_all; done) | omega))⟩, trivial⟩ trivial (fun x => rfl) (fun i hg1 => ?_)
    refine CWp.seq ?_
    refine sr ?_
    refine mv ?_
    refine mv ?_
    refine Walk.lenS un9 .none rfl rfl ?_
    refine Walk.ltI .none rfl rfl rfl ?_
    refine tv ?_
    refine cd ?_ ?_
    ·intro h6; have ⟨h6p, h6s⟩ := dup h6; try simp only [Q5] at h6s
     try simp only [Q, upperN] at h6p
     refine CWp.skip ?_
     refine CWp.seq ?_
     refine CWp.block ?_
     refine sr ?_
     refine mv ?_
     refine mv ?_
     refine Walk.idxS un9 .none rfl rfl rfl rfl (List.getElem?_eq_getElem (by omega)) ?_
     refine Walk.ltI .none rfl rfl rfl ?_
     refine mv ?_
     refine sp 28 ?_ ?_
     ·intro h7; have ⟨h7p, h7s⟩ := dup h7; try simp only [Q5] at h7s
      try simp only [Q, upperN] at h7p
      refine ps h7 ?_
      refine ps h7 ?_
      refine ps h7 ?_
      refine ps h7 ?_
      refine Walk.pickT .none rfl rfl h7 rfl ?_
      refine tv ?_
      refine cd ?_ ?_
      ·intro h8; have ⟨h8p, h8s⟩ := dup h8; try simp only [Q5] at h8s
       try simp only [Q, upperN] at h8p
       refine sr ?_
       refine asg ?_
       refine tv ?_
       refine CWp.ret ?_
       refine ⟨_, _, [], (.cons (.tmp rfl) .nil), (.eqd ?_), ⟨rfl, rfl⟩, HSub.nil, noBox⟩
       all_goals (first | (rw [nameValid_len (by omega)]; done) | (rw [nameValid_eq (by omega)]; simp [upperB]; omega) | (rw [nameValid_eq (by omega), ← hg1.2.2, nameTail_drop (by omega)]; simp [lowerB]; omega) | (rw [nameValid_eq (by omega), ← hg1.2.2, nameTail_end (by omega)]; simp [within, upperB]; omega) | (rw [nameValid_eq (by omega)]; simp only [upperB, h1s, h1p, h3s, h3p, h5s, h5p, h6s, h6p, h7s, h7p, h8s, h8p]; simp; done))
      ·exact fun h => absurd h (by simp)
     ·intro h7; have ⟨h7p, h7s⟩ := dup h7; try simp only [Q5] at h7s
      try simp only [Q, upperN] at h7p
      refine Walk.move (.some rfl rfl h7) rfl rfl ?_
      refine Walk.move (.some rfl rfl h7) rfl rfl ?_
      refine Walk.idxS un9 (.some rfl rfl h7) rfl rfl rfl rfl (List.getElem?_eq_getElem (by omega)) ?_
      refine Walk.gtI (.some rfl rfl h7) rfl rfl rfl ?_
      refine Walk.pickF .none rfl rfl h7 rfl ?_
      refine tv ?_
      refine cd ?_ ?_
      ·intro h9; have ⟨h9p, h9s⟩ := dup h9; try simp only [Q5] at h9s
       try simp only [Q, upperN] at h9p
       refine sr ?_
       refine asg ?_
       refine tv ?_
       refine CWp.ret ?_
       refine ⟨_, _, [], (.cons (.tmp rfl) .nil), (.eqd ?_), ⟨rfl, rfl⟩, HSub.nil, noBox⟩
       all_goals (first | (rw [nameValid_len (by omega)]; done) | (rw [nameValid_eq (by omega)]; simp [upperB]; omega) | (rw [nameValid_eq (by omega), ← hg1.2.2, nameTail_drop (by omega)]; simp [lowerB]; omega) | (rw [nameValid_eq (by omega), ← hg1.2.2, nameTail_end (by omega)]; simp [within, upperB]; omega) | (rw [nameValid_eq (by omega)]; simp only [upperB, h1s, h1p, h3s, h3p, h5s, h5p, h6s, h6p, h7s, h7p, h9s, h9p]; simp; done))
      ·intro h9; have ⟨h9p, h9s⟩ := dup h9; try simp only [Q5] at h9s
       try simp only [Q, upperN] at h9p
       refine CWp.skip ?_
       refine CWp.region rfl ?_
       refine mv ?_
       refine Walk.addI .none rfl rfl rfl (by first | (constructor <;> omega) | (constructor <;> simp <;> omega)) ?_
       refine asg ?_
       refine tv ?_
       refine ⟨i + 1, ⟨by omega, by omega, by rw [← hg1.2.2, nameTail_drop (i := i) (by omega)]; simp [lowerB]; omega⟩, ?_, Sub.x (by kernel_rfl) (by kernel_rfl) ⟨⟨_, rfl, (LeA.eqi (by first | rfl | (simp; done) | (simp_all; done) | omega))⟩, trivial⟩ (by kernel_rfl) (by kernel_rfl) trivial⟩
       all_goals first | omega | (simp_all; done) | (simp_all; omega)
    ·intro h6; have ⟨h6p, h6s⟩ := dup h6; try simp only [Q5] at h6s
     try simp only [Q, upperN] at h6p
     refine CWp.exit ?_
     refine sr ?_
     refine asg ?_
     refine tv ?_
     refine CWp.ret ?_
     refine ⟨_, _, [], (.cons (.tmp rfl) .nil), (.eqd ?_), ⟨rfl, rfl⟩, HSub.nil, noBox⟩
     all_goals (first | (rw [nameValid_len (by omega)]; done) | (rw [nameValid_eq (by omega)]; simp [upperB]; omega) | (rw [nameValid_eq (by omega), ← hg1.2.2, nameTail_drop (by omega)]; simp [lowerB]; omega) | (rw [nameValid_eq (by omega), ← hg1.2.2, nameTail_end (by omega)]; simp [within, upperB]; omega) | (rw [nameValid_eq (by omega)]; simp only [upperB, h1s, h1p, h3s, h3p, h5s, h5p, h6s, h6p]; simp; done))
theorem spec_l1Data_fn {s : Str} (hs : s.length ≤ 1000000000000) : FnD Try.prog 79 [.d (.str s)] [] (.d (.bool (dataNameOk s))) [] := by
 refine Fn.body (fn := Try.f79) (n := 15) rfl rfl rfl rfl rfl (fun w0 F0 own kept hk => ?_)
 refine sr ?_
 refine asg ?_
 refine tv ?_
 refine sr ?_
 refine mv ?_
 refine Walk.lenS un9 .none rfl rfl ?_
 refine Walk.eqI .none rfl rfl rfl ?_
 refine mv ?_
 refine sp 6 ?_ ?_
 ·intro h1; have ⟨h1p, h1s⟩ := dup h1; try simp only [Q5] at h1s
  try simp only [Q] at h1p
  refine Walk.move (.some rfl rfl h1) rfl rfl ?_
  refine Walk.idxS (i := 0) un9 (.some rfl rfl h1) rfl rfl rfl rfl (List.getElem?_eq_getElem (by omega)) ?_
  refine Walk.call (cr := []) cal111 (spec_l1Big_fn) rfl (.some rfl rfl h1) rfl rfl (LeL.refl _) trivial rfl rfl rfl ?_
  refine Walk.pickT .none rfl rfl h1 rfl ?_
  refine mv ?_
  refine sp 11 ?_ ?_
  ·intro h2; have ⟨h2p, h2s⟩ := dup h2; try simp only [Q5] at h2s
   try simp only [Q] at h2p
   refine Walk.move (.some rfl rfl h2) rfl rfl ?_
   refine Walk.neS (.some rfl rfl h2) rfl rfl rfl ?_
   refine Walk.pickT .none rfl rfl h2 rfl ?_
   refine asg ?_
   refine tv ?_
   refine CWp.ret ?_
   refine ⟨_, _, [], (.cons (.tmp rfl) .nil), (.eqd ?_), ⟨rfl, rfl⟩, HSub.nil, noBox⟩
   all_goals (first | (simp [dataNameOk, h1s, h1p, h2s, h2p]; done) | (simp only [dataNameOk, getD0 (s := s) (by omega), upperB]; simp only [upperN, Bool.and_eq_true, decide_eq_true_eq] at *; simp [*]; done))
  ·intro h2; have ⟨h2p, h2s⟩ := dup h2; try simp only [Q5] at h2s
   try simp only [Q] at h2p
   refine ps h2 ?_
   refine ps h2 ?_
   refine Walk.pickF .none rfl rfl h2 rfl ?_
   refine asg ?_
   refine tv ?_
   refine CWp.ret ?_
   refine ⟨_, _, [], (.cons (.tmp rfl) .nil), (.eqd ?_), ⟨rfl, rfl⟩, HSub.nil, noBox⟩
   all_goals (first | (simp [dataNameOk, h1s, h1p, h2s, h2p]; done) | (simp only [dataNameOk, getD0 (s := s) (by omega), upperB]; simp only [upperN, Bool.and_eq_true, decide_eq_true_eq] at *; simp [*]; done))
 ·intro h1; have ⟨h1p, h1s⟩ := dup h1; try simp only [Q5] at h1s
  try simp only [Q] at h1p
  refine ps h1 ?_
  refine ps h1 ?_
  refine ps h1 ?_
  refine Walk.pickF .none rfl rfl h1 rfl ?_
  refine mv ?_
  refine ps rfl ?_
  refine ps rfl ?_
  refine Walk.pickF .none rfl rfl rfl rfl ?_
  refine asg ?_
  refine tv ?_
  refine CWp.ret ?_
  refine ⟨_, _, [], (.cons (.tmp rfl) .nil), (.eqd ?_), ⟨rfl, rfl⟩, HSub.nil, noBox⟩
  all_goals (first | (simp [dataNameOk, h1s, h1p]; done) | (simp only [dataNameOk, getD0 (s := s) (by omega), upperB]; simp only [upperN, Bool.and_eq_true, decide_eq_true_eq] at *; simp [*]; done))
theorem spec_l1Arg_fn {n : Nat} {a b : Int} : FnD Try.prog 113 [.d (.i n), .agg [.d (.i a), .d (.i b)]] [] (.d (.bool (argOk n ⟨a, b⟩))) [] := by
 refine Fn.body (fn := Try.f113) (n := 30) rfl rfl rfl rfl rfl (fun w0 F0 own kept hk => ?_)
 refine sr ?_
 refine Walk.box (id := 3003) .none rfl rfl rfl rfl rfl rfl rfl ?_
 refine asg ?_
 refine tv ?_
 refine CWp.seq ?_
 refine sr ?_
 refine Walk.fieldB fd38_0 .none rfl rfl ?_
 refine Walk.loadB ty3 .none rfl rfl rfl rfl ?_
 refine Walk.eqI .none rfl rfl rfl ?_
 refine tv ?_
 refine cd ?_ ?_
 ·intro h1; have ⟨h1p, h1s⟩ := dup h1; try simp only [Q5] at h1s
  try simp only [Q] at h1p
  refine sr ?_
  refine Walk.fieldB fd38_1 .none rfl rfl ?_
  refine Walk.loadB ty3 .none rfl rfl rfl rfl ?_
  refine Walk.eqI .none rfl rfl rfl ?_
  refine asg ?_
  refine tv ?_
  refine CWp.ret ?_
  refine ⟨_, _, [], (.cons (.tmp rfl) .nil), (.eqd ?_), ⟨rfl, rfl⟩, HSub.nil, noBox⟩
  all_goals (first | (simp [argOk, within, h1s, h1p]; done) | (apply congrArg D.bool; rw [Bool.eq_iff_iff]; simp [argOk, within]; omega))
 ·intro h1; have ⟨h1p, h1s⟩ := dup h1; try simp only [Q5] at h1s
  try simp only [Q] at h1p
  refine CWp.skip ?_
  refine sr ?_
  refine Walk.fieldB fd38_0 .none rfl rfl ?_
  refine Walk.loadB ty3 .none rfl rfl rfl rfl ?_
  refine Walk.geI .none rfl rfl rfl ?_
  refine mv ?_
  refine sp 14 ?_ ?_
  ·intro h2; have ⟨h2p, h2s⟩ := dup h2; try simp only [Q5] at h2s
   try simp only [Q] at h2p
   refine Walk.fieldB fd38_0 (.some rfl rfl h2) rfl rfl ?_
   refine Walk.loadB ty3 (.some rfl rfl h2) rfl rfl rfl rfl ?_
   refine Walk.move (.some rfl rfl h2) rfl rfl ?_
   refine Walk.ltI (.some rfl rfl h2) rfl rfl rfl ?_
   refine Walk.pickT .none rfl rfl h2 rfl ?_
   refine mv ?_
   refine sp 20 ?_ ?_
   ·intro h3; have ⟨h3p, h3s⟩ := dup h3; try simp only [Q5] at h3s
    try simp only [Q] at h3p
    refine Walk.fieldB fd38_1 (.some rfl rfl h3) rfl rfl ?_
    refine Walk.loadB ty3 (.some rfl rfl h3) rfl rfl rfl rfl ?_
    refine Walk.geI (.some rfl rfl h3) rfl rfl rfl ?_
    refine Walk.pickT .none rfl rfl h3 rfl ?_
    refine mv ?_
    refine sp 25 ?_ ?_
    ·intro h4; have ⟨h4p, h4s⟩ := dup h4; try simp only [Q5] at h4s
     try simp only [Q] at h4p
     refine Walk.fieldB fd38_1 (.some rfl rfl h4) rfl rfl ?_
     refine Walk.loadB ty3 (.some rfl rfl h4) rfl rfl rfl rfl ?_
     refine Walk.leI (.some rfl rfl h4) rfl rfl rfl ?_
     refine Walk.pickT .none rfl rfl h4 rfl ?_
     refine asg ?_
     refine tv ?_
     refine CWp.ret ?_
     refine ⟨_, _, [], (.cons (.tmp rfl) .nil), (.eqd ?_), ⟨rfl, rfl⟩, HSub.nil, noBox⟩
     all_goals (first | (simp [argOk, within, h1s, h1p, h2s, h2p, h3s, h3p, h4s, h4p]; done) | (apply congrArg D.bool; rw [Bool.eq_iff_iff]; simp [argOk, within]; omega))
    ·intro h4; have ⟨h4p, h4s⟩ := dup h4; try simp only [Q5] at h4s
     try simp only [Q] at h4p
     refine ps h4 ?_
     refine ps h4 ?_
     refine ps h4 ?_
     refine Walk.pickF .none rfl rfl h4 rfl ?_
     refine asg ?_
     refine tv ?_
     refine CWp.ret ?_
     refine ⟨_, _, [], (.cons (.tmp rfl) .nil), (.eqd ?_), ⟨rfl, rfl⟩, HSub.nil, noBox⟩
     all_goals (first | (simp [argOk, within, h1s, h1p, h2s, h2p, h3s, h3p, h4s, h4p]; done) | (apply congrArg D.bool; rw [Bool.eq_iff_iff]; simp [argOk, within]; omega))
   ·intro h3; have ⟨h3p, h3s⟩ := dup h3; try simp only [Q5] at h3s
    try simp only [Q] at h3p
    refine ps h3 ?_
    refine ps h3 ?_
    refine ps h3 ?_
    refine Walk.pickF .none rfl rfl h3 rfl ?_
    refine mv ?_
    refine ps rfl ?_
    refine ps rfl ?_
    refine ps rfl ?_
    refine Walk.pickF .none rfl rfl rfl rfl ?_
    refine asg ?_
    refine tv ?_
    refine CWp.ret ?_
    refine ⟨_, _, [], (.cons (.tmp rfl) .nil), (.eqd ?_), ⟨rfl, rfl⟩, HSub.nil, noBox⟩
    all_goals (first | (simp [argOk, within, h1s, h1p, h2s, h2p, h3s, h3p]; done) | (apply congrArg D.bool; rw [Bool.eq_iff_iff]; simp [argOk, within]; omega))
  ·intro h2; have ⟨h2p, h2s⟩ := dup h2; try simp only [Q5] at h2s
   try simp only [Q] at h2p
   refine ps h2 ?_
   refine ps h2 ?_
   refine ps h2 ?_
   refine ps h2 ?_
   refine Walk.pickF .none rfl rfl h2 rfl ?_
   refine mv ?_
   refine ps rfl ?_
   refine ps rfl ?_
   refine ps rfl ?_
   refine Walk.pickF .none rfl rfl rfl rfl ?_
   refine mv ?_
   refine ps rfl ?_
   refine ps rfl ?_
   refine ps rfl ?_
   refine Walk.pickF .none rfl rfl rfl rfl ?_
   refine asg ?_
   refine tv ?_
   refine CWp.ret ?_
   refine ⟨_, _, [], (.cons (.tmp rfl) .nil), (.eqd ?_), ⟨rfl, rfl⟩, HSub.nil, noBox⟩
   all_goals (first | (simp [argOk, within, h1s, h1p, h2s, h2p]; done) | (apply congrArg D.bool; rw [Bool.eq_iff_iff]; simp [argOk, within]; omega))
theorem spec_l15Types_fn {w : List Data} (hw : w.length ≤ 1000000000000) : FnD Try.prog 44 [.d (encDatas w)] [] (.d (encTys (allTypesOf w.length))) [] := by
 refine Fn.body (fn := Try.f44) (n := 25) rfl rfl rfl rfl rfl (fun w0 F0 own kept hk => ?_)
 refine sr ?_
 refine asg ?_
 refine tv ?_
 refine sr ?_
 refine Walk.build st38 (ks := [0]) (xs := [_]) rfl rfl .none rfl rfl rfl ?_
 refine Walk.sliceLitG 1 sl24 tz38 rfl (by decide) (ks := [0]) (xs := [_]) rfl rfl (by decide) (by decide) .none rfl rfl rfl rfl rfl ?_
 refine asg ?_
 refine tv ?_
 refine CWp.seq ?_
 refine sr ?_
 refine asg ?_
 refine tv ?_
 refine CWp.block ?_
 refine CWp.loopX (ι := Nat) hk (fun i => [(4, .d (.i (i : Int))), (3, .gl 1 ((⟨-1, 0⟩ :: (List.range i).flatMap fun (i : Nat) => (List.range 4).map fun (k : Nat) => (⟨i, k⟩ : Ty)).map Ty.c))]) [5, 8, 9, 10, 11, 12, 13, 14, 15, 16, 17, 18, 19, 20, 21, 22, 23] (fun i => [(1, some (.tok (((⟨-1, 0⟩ :: (List.range i).flatMap fun (i : Nat) => (List.range 4).map fun (k : Nat) => (⟨i, k⟩ : Ty)).map Ty.c)).length 2))]) (fun i => i ≤ w.length) (fun i => w.length - i) 0 (by simp) ⟨⟨_, rfl, (LeA.eqi (by first | rfl | (simp [List.range_succ]; done)))⟩, ⟨⟨_, rfl, (LeA.glg (by first | rfl | (simp [List.range_succ]; done)))⟩, trivial⟩⟩ ⟨beq_nat_eq (by first | rfl | (simp; done) | (simp; omega) | (first | rfl | (simp [List.range_succ]; done))), trivial⟩ (fun x => rfl) (fun i hg1 => ?_)
 refine CWp.seq ?_
 refine sr ?_
 refine mv ?_
 refine mv ?_
 refine Walk.len sl26 .none rfl rfl ?_
 refine Walk.ltI .none rfl rfl rfl ?_
 refine tv ?_
 refine cd ?_ ?_
 ·intro h1; have ⟨h1p, h1s⟩ := dup h1; try simp only [Q5] at h1s
  try simp only [Q] at h1p
  refine CWp.skip ?_
  refine CWp.seq ?_
  refine CWp.block ?_
  refine sr ?_
  refine asg ?_
  refine tv ?_
  refine CWp.block ?_
  refine CWp.loopX (ι := Nat) hk (fun k => [(5, .d (.i (k : Int))), (3, .gl 1 ((⟨-1, 0⟩ :: ((List.range i).flatMap fun (i : Nat) => (List.range 4).map fun (k : Nat) => (⟨i, k⟩ : Ty)) ++ (List.range k).map fun (k : Nat) => (⟨i, k⟩ : Ty)).map Ty.c))]) [14, 15, 16, 17, 18, 19, 20, 21, 22, 23] (fun k => [(1, some (.tok (((⟨-1, 0⟩ :: ((List.range i).flatMap fun (i : Nat) => (List.range 4).map fun (k : Nat) => (⟨i, k⟩ : Ty)) ++ (List.range k).map fun (k : Nat) => (⟨i, k⟩ : Ty)).map Ty.c)).length 2))]) (fun k => k ≤ 4) (fun k => 4 - k) 0 (by simp) ⟨⟨_, rfl, (LeA.eqi (by first | rfl | (simp [List.range_succ]; done)))⟩, ⟨⟨_, rfl, (LeA.glg (by first | rfl | (simp [List.range_succ]; done)))⟩, trivial⟩⟩ ⟨beq_nat_eq (by first | rfl | (simp; done) | (simp; omega) | (first | rfl | (simp [List.range_succ]; done))), trivial⟩ (fun x => rfl) (fun k hg2 => ?_)
  refine CWp.seq ?_
  refine sr ?_
  refine mv ?_
  refine Walk.leI .none rfl rfl rfl ?_
  refine tv ?_
  refine cd ?_ ?_
  ·intro h2; have ⟨h2p, h2s⟩ := dup h2; try simp only [Q5] at h2s
   try simp only [Q] at h2p
   refine CWp.skip ?_
   refine CWp.seq ?_
   refine CWp.block ?_
   refine CWp.region rfl ?_
   refine mv ?_
   refine mv ?_
   refine mv ?_
   refine Walk.build st38 (ks := [0, 1]) (xs := [_, _]) rfl rfl .none rfl rfl rfl ?_
   refine Walk.sliceLit sl24 tz38 rfl (by decide) (ks := [0]) (xs := [_]) rfl rfl (by decide) (by decide) .none rfl rfl rfl rfl ?_
   refine Walk.append sl24 zz38 rfl .none rfl rfl rfl rfl (htokL rfl (by first | rfl | (simp; done) | (simp; omega))) (by simp) (by simp [List.map_const', List.sum_replicate_nat]; omega) (by simp [List.map_const', List.sum_replicate_nat]; omega) ?_
   refine asg ?_
   refine tv ?_
   refine CWp.region rfl ?_
   refine mv ?_
   refine Walk.addI .none rfl rfl rfl (by first | (constructor <;> omega) | (constructor <;> simp <;> omega)) ?_
   refine asg ?_
   refine tv ?_
   refine ⟨k + 1, ?_, ?_, Sub.x (by kernel_rfl) (by kernel_rfl) ⟨⟨_, rfl, (LeA.eqi (by first | rfl | (simp [List.range_succ]; done)))⟩, ⟨⟨_, rfl, (LeA.glg (by first | rfl | (simp [List.range_succ]; done)))⟩, trivial⟩⟩ (by kernel_rfl) (by kernel_rfl) ⟨beq_nat_eq (by first | rfl | (simp; done) | (simp; omega) | (first | rfl | (simp [List.range_succ]; done))), trivial⟩⟩
   all_goals first | omega | (simp_all; done) | (simp_all; omega)
  ·intro h2; have ⟨h2p, h2s⟩ := dup h2; try simp only [Q5] at h2s
   try simp only [Q] at h2p
   refine CWp.exit ?_
   refine CWp.region rfl ?_
   refine mv ?_
   refine Walk.addI .none rfl rfl rfl (by first | (constructor <;> omega) | (constructor <;> simp <;> omega)) ?_
   refine asg ?_
   refine tv ?_
   obtain rfl : k = 4 := by omega
   refine ⟨i + 1, ?_, ?_, Sub.x (by kernel_rfl) (by kernel_rfl) ⟨⟨_, rfl, (LeA.eqi (by first | rfl | (simp [List.range_succ]; done)))⟩, ⟨⟨_, rfl, (LeA.glg (by first | rfl | (simp [List.range_succ]; done)))⟩, trivial⟩⟩ (by kernel_rfl) (by kernel_rfl) ⟨beq_nat_eq (by first | rfl | (simp; done) | (simp; omega) | (first | rfl | (simp [List.range_succ]; done))), trivial⟩⟩
   all_goals first | omega | (simp_all; done) | (simp_all; omega)
 ·intro h1; have ⟨h1p, h1s⟩ := dup h1; try simp only [Q5] at h1s
  try simp only [Q] at h1p
  refine CWp.exit ?_
  refine sr ?_
  refine mv ?_
  refine asg ?_
  refine tv ?_
  refine CWp.ret ?_
  refine ⟨_, _, [], (.cons (.tmp rfl) .nil), (.gld ?_), ⟨rfl, rfl⟩, HSub.nil, noBox⟩
  all_goals (obtain rfl : i = w.length := (by omega); simp [allTypesOf])
theorem spec_l1Ctor_fn {n : Nat} {s : Str} {args : List Ty} {k : Int} (hn : s.length ≤ 1000000000000) (ha : args.length ≤ 1000000000000) : FnD Try.prog 80 [.d (.i n), .agg [.d (.str s), .d (encTys args), .d (.i k)]] [] (.d (.bool (ctorOk n ⟨s, args, k⟩))) [] := by
 refine Fn.body (fn := Try.f80) (n := 41) rfl rfl rfl rfl rfl (fun w0 F0 own kept hk => ?_)
 refine sr ?_
 refine Walk.box (id := 3003) .none rfl rfl rfl rfl rfl rfl rfl ?_
 refine asg ?_
 refine tv ?_
 refine CWp.seq ?_
 refine sr ?_
 refine Walk.fieldB fd90_0 .none rfl rfl ?_
 refine Walk.loadB ty9 .none rfl rfl rfl rfl ?_
 refine Walk.call (cr := []) cal112 (spec_NameValid_fn hn) rfl .none rfl rfl (LeL.refl _) trivial rfl rfl rfl ?_
 refine Walk.not .none rfl rfl ?_
 refine mv ?_
 refine sp 10 ?_ ?_
 ·intro h1; have ⟨h1p, h1s⟩ := dup h1; try simp only [Q5] at h1s
  try simp only [Q] at h1p
  refine ps h1 ?_
  refine ps h1 ?_
  refine ps h1 ?_
  refine ps h1 ?_
  refine Walk.pickT .none rfl rfl h1 rfl ?_
  refine mv ?_
  refine ps rfl ?_
  refine ps rfl ?_
  refine ps rfl ?_
  refine Walk.pickT .none rfl rfl rfl rfl ?_
  refine mv ?_
  refine ps rfl ?_
  refine ps rfl ?_
  refine ps rfl ?_
  refine Walk.pickT .none rfl rfl rfl rfl ?_
  refine tv ?_
  refine cd ?_ ?_
  ·intro h2; have ⟨h2p, h2s⟩ := dup h2; try simp only [Q5] at h2s
   try simp only [Q] at h2p
   refine sr ?_
   refine asg ?_
   refine tv ?_
   refine CWp.ret ?_
   refine ⟨_, _, [], (.cons (.tmp rfl) .nil), (.eqd ?_), ⟨rfl, rfl⟩, HSub.nil, noBox⟩
   all_goals (first | (simp [ctorOk, h1s, h1p, h2s, h2p]; done) | (simp only [ctorOk]; rw [← hg1.2]; simp [within, h1s, h1p, h2s, h2p]; done) | (simp only [ctorOk]; rw [← hg1.2]; simp [within, h1s, h1p, h2s, h2p]; omega) | (apply congrArg D.bool; simp [ctorOk, within]; omega))
  ·exact fun h => absurd h (by simp)
 ·intro h1; have ⟨h1p, h1s⟩ := dup h1; try simp only [Q5] at h1s
  try simp only [Q] at h1p
  refine Walk.fieldB fd90_1 (.some rfl rfl h1) rfl rfl ?_
  refine Walk.loadB ty24 (.some rfl rfl h1) rfl rfl rfl rfl ?_
  refine Walk.len sl24 (.some rfl rfl h1) rfl rfl ?_
  refine Walk.gtI (.some rfl rfl h1) rfl rfl rfl ?_
  refine Walk.pickF .none rfl rfl h1 rfl ?_
  refine mv ?_
  refine sp 16 ?_ ?_
  ·intro h3; have ⟨h3p, h3s⟩ := dup h3; try simp only [Q5] at h3s
   try simp only [Q] at h3p
   refine ps h3 ?_
   refine ps h3 ?_
   refine ps h3 ?_
   refine Walk.pickT .none rfl rfl h3 rfl ?_
   refine mv ?_
   refine ps rfl ?_
   refine ps rfl ?_
   refine ps rfl ?_
   refine Walk.pickT .none rfl rfl rfl rfl ?_
   refine tv ?_
   refine cd ?_ ?_
   ·intro h4; have ⟨h4p, h4s⟩ := dup h4; try simp only [Q5] at h4s
    try simp only [Q] at h4p
    refine sr ?_
    refine asg ?_
    refine tv ?_
    refine CWp.ret ?_
    refine ⟨_, _, [], (.cons (.tmp rfl) .nil), (.eqd ?_), ⟨rfl, rfl⟩, HSub.nil, noBox⟩
    all_goals (first | (simp [ctorOk, h1s, h1p, h3s, h3p, h4s, h4p]; done) | (simp only [ctorOk]; rw [← hg1.2]; simp [within, h1s, h1p, h3s, h3p, h4s, h4p]; done) | (simp only [ctorOk]; rw [← hg1.2]; simp [within, h1s, h1p, h3s, h3p, h4s, h4p]; omega) | (apply congrArg D.bool; simp [ctorOk, within]; omega))
   ·exact fun h => absurd h (by simp)
  ·intro h3; have ⟨h3p, h3s⟩ := dup h3; try simp only [Q5] at h3s
   try simp only [Q] at h3p
   refine Walk.fieldB fd90_2 (.some rfl rfl h3) rfl rfl ?_
   refine Walk.loadB ty3 (.some rfl rfl h3) rfl rfl rfl rfl ?_
   refine Walk.ltI (.some rfl rfl h3) rfl rfl rfl ?_
   refine Walk.pickF .none rfl rfl h3 rfl ?_
   refine mv ?_
   refine sp 21 ?_ ?_
   ·intro h5; have ⟨h5p, h5s⟩ := dup h5; try simp only [Q5] at h5s
    try simp only [Q] at h5p
    refine ps h5 ?_
    refine ps h5 ?_
    refine ps h5 ?_
    refine Walk.pickT .none rfl rfl h5 rfl ?_
    refine tv ?_
    refine cd ?_ ?_
    ·intro h6; have ⟨h6p, h6s⟩ := dup h6; try simp only [Q5] at h6s
     try simp only [Q] at h6p
     refine sr ?_
     refine asg ?_
     refine tv ?_
     refine CWp.ret ?_
     refine ⟨_, _, [], (.cons (.tmp rfl) .nil), (.eqd ?_), ⟨rfl, rfl⟩, HSub.nil, noBox⟩
     all_goals (first | (simp [ctorOk, h1s, h1p, h3s, h3p, h5s, h5p, h6s, h6p]; done) | (simp only [ctorOk]; rw [← hg1.2]; simp [within, h1s, h1p, h3s, h3p, h5s, h5p, h6s, h6p]; done) | (simp only [ctorOk]; rw [← hg1.2]; simp [within, h1s, h1p, h3s, h3p, h5s, h5p, h6s, h6p]; omega) | (apply congrArg D.bool; simp [ctorOk, within]; omega))
    ·exact fun h => absurd h (by simp)
   ·intro h5; have ⟨h5p, h5s⟩ := dup h5; try simp only [Q5] at h5s
    try simp only [Q] at h5p
    refine Walk.fieldB fd90_2 (.some rfl rfl h5) rfl rfl ?_
    refine Walk.loadB ty3 (.some rfl rfl h5) rfl rfl rfl rfl ?_
    refine Walk.gtI (.some rfl rfl h5) rfl rfl rfl ?_
    refine Walk.pickF .none rfl rfl h5 rfl ?_
    refine tv ?_
    refine cd ?_ ?_
    ·intro h7; have ⟨h7p, h7s⟩ := dup h7; try simp only [Q5] at h7s
     try simp only [Q] at h7p
     refine sr ?_
     refine asg ?_
     refine tv ?_
     refine CWp.ret ?_
     refine ⟨_, _, [], (.cons (.tmp rfl) .nil), (.eqd ?_), ⟨rfl, rfl⟩, HSub.nil, noBox⟩
     all_goals (first | (simp [ctorOk, h1s, h1p, h3s, h3p, h5s, h5p, h7s, h7p]; done) | (simp only [ctorOk]; rw [← hg1.2]; simp [within, h1s, h1p, h3s, h3p, h5s, h5p, h7s, h7p]; done) | (simp only [ctorOk]; rw [← hg1.2]; simp [within, h1s, h1p, h3s, h3p, h5s, h5p, h7s, h7p]; omega) | (apply congrArg D.bool; simp [ctorOk, within]; omega))
    ·intro h7; have ⟨h7p, h7s⟩ := dup h7; try simp only [Q5] at h7s
     try simp only [Q] at h7p
     refine CWp.skip ?_
     refine CWp.seq ?_
     refine sr ?_
     refine asg ?_
     refine tv ?_
     refine CWp.block ?_
     refine CWp.loopX (ι := List (Ty) × List (Ty)) hk (fun x => [(5, .d (.i (x.1.length : Int)))]) [4, 26, 27, 28, 29, 30, 31, 32, 33, 34, 35, 36, 37, 38, 39, 40] (fun x => []) (fun x => x.1 ++ x.2 = args ∧ (x.2.any fun t => !argOk n t) = args.any fun t => !argOk n t) (fun x => x.2.length) ([], args) ⟨by simp, rfl⟩ ⟨⟨_, rfl, (LeA.eqi (by first | rfl | (simp; done) | (simp_all; done) | omega))⟩, trivial⟩ trivial (fun x => rfl) (fun x hg1 => ?_)
     obtain ⟨pre, rest⟩ := x
     dsimp only at hg1 ⊢
     refine CWp.seq ?_
     refine sr ?_
     refine mv ?_
     refine Walk.fieldB fd90_1 .none rfl rfl ?_
     refine Walk.loadB ty24 .none rfl rfl rfl rfl ?_
     refine Walk.len sl24 .none rfl rfl ?_
     refine Walk.ltI .none rfl rfl rfl ?_
     refine tv ?_
     refine cd ?_ ?_
     ·intro h8; have ⟨h8p, h8s⟩ := dup h8; try simp only [Q5] at h8s
      try simp only [Q] at h8p
      rcases rest with _ | ⟨y, rest⟩
      ·exfalso; simp_all
      refine CWp.skip ?_
      refine CWp.seq ?_
      refine CWp.block ?_
      refine sr ?_
      refine mv ?_
      refine Walk.fieldB fd90_1 .none rfl rfl ?_
      refine Walk.loadB ty24 .none rfl rfl rfl rfl ?_
      refine mv ?_
      refine Walk.idx sl24 .none rfl rfl rfl rfl (zip_at hg1.1) rfl ?_
      refine Walk.loadPA ty38 .none rfl rfl rfl rfl ?_
      refine Walk.call (cr := []) cal113 (spec_l1Arg_fn) rfl .none rfl rfl (LeL.refl _) trivial rfl rfl rfl ?_
      refine Walk.not .none rfl rfl ?_
      refine tv ?_
      refine cd ?_ ?_
      ·intro h9; have ⟨h9p, h9s⟩ := dup h9; try simp only [Q5] at h9s
       try simp only [Q] at h9p
       refine sr ?_
       refine asg ?_
       refine tv ?_
       refine CWp.ret ?_
       refine ⟨_, _, [], (.cons (.tmp rfl) .nil), (.eqd ?_), ⟨rfl, rfl⟩, HSub.nil, noBox⟩
       all_goals (first | (simp [ctorOk, h1s, h1p, h3s, h3p, h5s, h5p, h7s, h7p, h8s, h8p, h9s, h9p]; done) | (simp only [ctorOk]; rw [← hg1.2]; simp [within, h1s, h1p, h3s, h3p, h5s, h5p, h7s, h7p, h8s, h8p, h9s, h9p]; done) | (simp only [ctorOk]; rw [← hg1.2]; simp [within, h1s, h1p, h3s, h3p, h5s, h5p, h7s, h7p, h8s, h8p, h9s, h9p]; omega) | (apply congrArg D.bool; simp [ctorOk, within]; omega))
      ·intro h9; have ⟨h9p, h9s⟩ := dup h9; try simp only [Q5] at h9s
       try simp only [Q] at h9p
       refine CWp.skip ?_
       refine CWp.region rfl ?_
       refine mv ?_
       refine Walk.addI .none rfl rfl rfl (by first | (constructor <;> omega) | (constructor <;> simp <;> omega)) ?_
       refine asg ?_
       refine tv ?_
       refine ⟨(pre ++ [y], rest), ⟨(by have hz := hg1.1; rw [← hz]; simp), (by rw [← hg1.2]; simp [Ty.eta, h1s, h1p, h3s, h3p, h5s, h5p, h7s, h7p, h8s, h8p, h9s, h9p])⟩, (by simp), Sub.x (by kernel_rfl) (by kernel_rfl) ⟨⟨_, rfl, (LeA.eqi (by first | rfl | (simp; done) | (simp_all; done) | omega))⟩, trivial⟩ (by kernel_rfl) (by kernel_rfl) trivial⟩
     ·intro h8; have ⟨h8p, h8s⟩ := dup h8; try simp only [Q5] at h8s
      try simp only [Q] at h8p
      have hrest : rest = [] := by
       rcases rest with _ | ⟨a, b⟩
       ·rfl
       ·exfalso; have hz := congrArg List.length (hg1.1); simp only [List.length_append, List.length_cons, List.length_map] at hz; omega
      subst hrest
      refine CWp.exit ?_
      refine sr ?_
      refine asg ?_
      refine tv ?_
      refine CWp.ret ?_
      refine ⟨_, _, [], (.cons (.tmp rfl) .nil), (.eqd ?_), ⟨rfl, rfl⟩, HSub.nil, noBox⟩
      all_goals (first | (simp [ctorOk, h1s, h1p, h3s, h3p, h5s, h5p, h7s, h7p, h8s, h8p]; done) | (simp only [ctorOk]; rw [← hg1.2]; simp [within, h1s, h1p, h3s, h3p, h5s, h5p, h7s, h7p, h8s, h8p]; done) | (simp only [ctorOk]; rw [← hg1.2]; simp [within, h1s, h1p, h3s, h3p, h5s, h5p, h7s, h7p, h8s, h8p]; omega) | (apply congrArg D.bool; simp [ctorOk, within]; omega))
theorem spec_l1Twice_fn {w : List Data} {d k : Nat} (hs : WSmall w) (hd : d < w.length) : FnD Try.prog 81 [.d (encDatas w), .d (.i d), .d (.i k)] [] (.d (.bool (twice w d k))) [] := by
 have hw := hs.len
 refine Fn.body (fn := Try.f81) (n := 79) rfl rfl rfl rfl rfl (fun w0 F0 own kept hk => ?_)
 refine sr ?_
 refine asg ?_
 refine tv ?_
 refine CWp.seq ?_
 refine sr ?_
 refine asg ?_
 refine tv ?_
 refine CWp.block ?_
 refine CWp.loopX (ι := Nat) hk (fun i => [(7, .d (.i (i : Int)))]) [6, 8, 9, 10, 11, 12, 13, 14, 15, 16, 17, 18, 19, 20, 21, 22, 23, 24, 25, 26, 27, 28, 29, 30, 31, 32, 33, 34, 35, 36, 37, 38, 39, 40, 41, 42, 43, 44, 45, 46, 47, 48, 49, 50, 51, 52, 53, 54, 55, 56, 57, 58, 59, 60, 61, 62, 63, 64, 65, 66, 67, 68, 69, 70, 71, 72, 73, 74, 75, 76, 77, 78] (fun i => []) (fun i => i ≤ d + 1 ∧ ∀ i', i' < i → rowTwice w d k i' = false) (fun i => d + 1 - i) 0 ⟨by omega, fun _ h => absurd h (by omega)⟩ ⟨⟨_, rfl, (LeA.eqi (by first | rfl | (simp; done) | (simp_all; done) | omega))⟩, trivial⟩ trivial (fun x => rfl) (fun i hg1 => ?_)
 refine CWp.seq ?_
 refine sr ?_
 refine mv ?_
 refine mv ?_
 refine Walk.leI .none rfl rfl rfl ?_
 refine tv ?_
 refine cd ?_ ?_
 ·intro h1; have ⟨h1p, h1s⟩ := dup h1; try simp only [Q5] at h1s
  try simp only [Q, Int.ofNat_lt, Int.ofNat_le] at h1p
  refine CWp.skip ?_
  refine CWp.seq ?_
  refine CWp.block ?_
  refine CWp.seq ?_
  refine CWp.seq ?_
  refine CWp.drawn mixed rfl ?_
  refine mv ?_
  refine mv ?_
  refine Walk.ltI .none rfl rfl rfl ?_
  refine mv ?_
  refine sp 17 ?_ ?_
  ·intro h2; have ⟨h2p, h2s⟩ := dup h2; try simp only [Q5] at h2s
   try simp only [Q, Int.ofNat_lt, Int.ofNat_le] at h2p
   refine Walk.move (.some rfl rfl h2) rfl rfl ?_
   refine Walk.move (.some rfl rfl h2) rfl rfl ?_
   refine Walk.idx sl26 (.some rfl rfl h2) rfl rfl rfl rfl (at_nth (by omega)) rfl ?_
   refine Walk.fieldP fd81_0 (.some rfl rfl h2) rfl rfl ?_
   refine Walk.loadP ty9 (.some rfl rfl h2) rfl rfl rfl ?_
   refine Walk.move (.some rfl rfl h2) rfl rfl ?_
   refine Walk.move (.some rfl rfl h2) rfl rfl ?_
   refine Walk.idx sl26 (.some rfl rfl h2) rfl rfl rfl rfl (at_nth (by omega)) rfl ?_
   refine Walk.fieldP fd81_0 (.some rfl rfl h2) rfl rfl ?_
   refine Walk.loadP ty9 (.some rfl rfl h2) rfl rfl rfl ?_
   refine Walk.eqS (.some rfl rfl h2) rfl rfl rfl ?_
   refine Walk.pickT .none rfl rfl h2 rfl ?_
   refine ⟨by show _ = _; kernel_rfl, ?_⟩
   refine cd ?_ ?_
   ·intro h3; have ⟨h3p, h3s⟩ := dup h3; try simp only [Q5] at h3s
    try simp only [Q, Int.ofNat_lt, Int.ofNat_le] at h3p
    refine sr ?_
    refine asg ?_
    refine tv ?_
    refine CWp.ret ?_
    refine ⟨_, _, [], (.cons (.tmp rfl) .nil), (.eqd ?_), ⟨rfl, rfl⟩, HSub.nil, noBox⟩
    all_goals (first | (exfalso; omega) | (refine congrArg D.bool (any_range_false (fun x hx => hg1.2 x (Nat.lt_of_lt_of_le hx ?_))).symm; omega) | (refine congrArg D.bool (any_range_true (i := i) (by omega) ?_).symm; simp [rowTwice, h1s, h1p, h2s, h2p, h3s, h3p]; done) | (refine congrArg D.bool (any_range_true (i := i) (by omega) ?_).symm; unfold rowTwice; rw [any_range_true (i := j) (by omega) (by simp [hitTwice, h1s, h1p, h2s, h2p, h3s, h3p])]; simp; done))
   ·intro h3; have ⟨h3p, h3s⟩ := dup h3; try simp only [Q5] at h3s
    try simp only [Q, Int.ofNat_lt, Int.ofNat_le] at h3p
    refine CWp.skip ?_
    refine sr ?_
    refine asg ?_
    refine tv ?_
    refine CWp.block ?_
    refine CWp.loopX (ι := Nat) hk (fun j => [(8, .d (.i (j : Int)))]) [6, 30, 31, 32, 33, 34, 35, 36, 37, 38, 39, 40, 41, 42, 43, 44, 45, 46, 47, 48, 49, 50, 51, 52, 53, 54, 55, 56, 57, 58, 59, 60, 61, 62, 63, 64, 65, 66, 67, 68, 69, 70, 71, 72, 73, 74, 75, 76, 77, 78] (fun j => []) (fun j => j ≤ (nth w i).ctors.length ∧ ∀ j', j' < j → hitTwice w d k i j' = false) (fun j => (nth w i).ctors.length - j) 0 ⟨by omega, fun _ h => absurd h (by omega)⟩ ⟨⟨_, rfl, (LeA.eqi (by first | rfl | (simp; done) | (simp_all; done) | omega))⟩, trivial⟩ trivial (fun x => rfl) (fun j hg2 => ?_)
    have hb := hs.ctors i
    refine CWp.seq ?_
    refine sr ?_
    refine mv ?_
    refine mv ?_
    refine mv ?_
    refine Walk.idx sl26 .none rfl rfl rfl rfl (at_nth (by omega)) rfl ?_
    refine Walk.fieldP fd81_1 .none rfl rfl ?_
    refine Walk.loadP ty79 .none rfl rfl rfl ?_
    refine Walk.len sl79 .none rfl rfl ?_
    refine Walk.ltI .none rfl rfl rfl ?_
    refine mv ?_
    refine sp 38 ?_ ?_
    ·intro h4; have ⟨h4p, h4s⟩ := dup h4; try simp only [Q5] at h4s
     try simp only [Q, Int.ofNat_lt, Int.ofNat_le] at h4p
     refine Walk.move (.some rfl rfl h4) rfl rfl ?_
     refine Walk.move (.some rfl rfl h4) rfl rfl ?_
     refine Walk.ltI (.some rfl rfl h4) rfl rfl rfl ?_
     refine Walk.move (.some rfl rfl h4) rfl rfl ?_
     refine sp 42 ?_ ?_
     ·intro h5; have ⟨h5p, h5s⟩ := dup h5; try simp only [Q5] at h5s
      try simp only [Q, Int.ofNat_lt, Int.ofNat_le] at h5p
      refine ps h5 ?_
      refine ps h5 ?_
      refine ps h5 ?_
      refine Walk.pickT (.some rfl rfl h4) rfl rfl h5 rfl ?_
      refine Walk.pickT .none rfl rfl h4 rfl ?_
      refine tv ?_
      refine cd ?_ ?_
      ·intro h6; have ⟨h6p, h6s⟩ := dup h6; try simp only [Q5] at h6s
       try simp only [Q, Int.ofNat_lt, Int.ofNat_le] at h6p
       refine CWp.skip ?_
       refine CWp.seq ?_
       refine CWp.block ?_
       refine CWp.seq ?_
       refine CWp.drawn mixed rfl ?_
       refine mv ?_
       refine mv ?_
       refine mv ?_
       refine Walk.idx sl26 .none rfl rfl rfl rfl (at_nth (by omega)) rfl ?_
       refine Walk.fieldP fd81_1 .none rfl rfl ?_
       refine Walk.loadP ty79 .none rfl rfl rfl ?_
       refine Walk.len sl79 .none rfl rfl ?_
       refine Walk.ltI .none rfl rfl rfl ?_
       refine mv ?_
       refine sp 58 ?_ ?_
       ·intro h7; have ⟨h7p, h7s⟩ := dup h7; try simp only [Q5] at h7s
        try simp only [Q, Int.ofNat_lt, Int.ofNat_le] at h7p
        refine Walk.move (.some rfl rfl h7) rfl rfl ?_
        refine Walk.move (.some rfl rfl h7) rfl rfl ?_
        refine Walk.idx sl26 (.some rfl rfl h7) rfl rfl rfl rfl (at_nth (by omega)) rfl ?_
        refine Walk.fieldP fd81_1 (.some rfl rfl h7) rfl rfl ?_
        refine Walk.loadP ty79 (.some rfl rfl h7) rfl rfl rfl ?_
        refine Walk.move (.some rfl rfl h7) rfl rfl ?_
        refine Walk.idx sl79 (.some rfl rfl h7) rfl rfl rfl rfl (at_nth (by omega)) rfl ?_
        refine Walk.fieldP fd90_0 (.some rfl rfl h7) rfl rfl ?_
        refine Walk.loadP ty9 (.some rfl rfl h7) rfl rfl rfl ?_
        refine Walk.move (.some rfl rfl h7) rfl rfl ?_
        refine Walk.move (.some rfl rfl h7) rfl rfl ?_
        refine Walk.idx sl26 (.some rfl rfl h7) rfl rfl rfl rfl (at_nth (by omega)) rfl ?_
        refine Walk.fieldP fd81_1 (.some rfl rfl h7) rfl rfl ?_
        refine Walk.loadP ty79 (.some rfl rfl h7) rfl rfl rfl ?_
        refine Walk.move (.some rfl rfl h7) rfl rfl ?_
        refine Walk.idx sl79 (.some rfl rfl h7) rfl rfl rfl rfl (at_nth (by omega)) rfl ?_
        refine Walk.fieldP fd90_0 (.some rfl rfl h7) rfl rfl ?_
        refine Walk.loadP ty9 (.some rfl rfl h7) rfl rfl rfl ?_
        refine Walk.eqS (.some rfl rfl h7) rfl rfl rfl ?_
        refine Walk.pickT .none rfl rfl h7 rfl ?_
        refine ⟨by show _ = _; kernel_rfl, ?_⟩
        refine cd ?_ ?_
        ·intro h8; have ⟨h8p, h8s⟩ := dup h8; try simp only [Q5] at h8s
         try simp only [Q, Int.ofNat_lt, Int.ofNat_le] at h8p
         refine sr ?_
         refine asg ?_
         refine tv ?_
         refine CWp.ret ?_
         refine ⟨_, _, [], (.cons (.tmp rfl) .nil), (.eqd ?_), ⟨rfl, rfl⟩, HSub.nil, noBox⟩
         all_goals (first | (exfalso; omega) | (refine congrArg D.bool (any_range_false (fun x hx => hg1.2 x (Nat.lt_of_lt_of_le hx ?_))).symm; omega) | (refine congrArg D.bool (any_range_true (i := i) (by omega) ?_).symm; simp [rowTwice, h1s, h1p, h2s, h2p, h3s, h3p, h4s, h4p, h5s, h5p, h6s, h6p, h7s, h7p, h8s, h8p]; done) | (refine congrArg D.bool (any_range_true (i := i) (by omega) ?_).symm; unfold rowTwice; rw [any_range_true (i := j) (by omega) (by simp [hitTwice, h1s, h1p, h2s, h2p, h3s, h3p, h4s, h4p, h5s, h5p, h6s, h6p, h7s, h7p, h8s, h8p])]; simp; done))
        ·intro h8; have ⟨h8p, h8s⟩ := dup h8; try simp only [Q5] at h8s
         try simp only [Q, Int.ofNat_lt, Int.ofNat_le] at h8p
         refine CWp.skip ?_
         refine CWp.region rfl ?_
         refine mv ?_
         refine Walk.addI .none rfl rfl rfl (by first | (constructor <;> omega) | (constructor <;> simp <;> omega)) ?_
         refine asg ?_
         refine tv ?_
         refine ⟨j + 1, ⟨by omega, upto_succ hg2.2 (by simp [hitTwice, h1s, h1p, h2s, h2p, h3s, h3p, h4s, h4p, h5s, h5p, h6s, h6p, h7s, h7p, h8s, h8p]; done)⟩, (by omega), Sub.x (by kernel_rfl) (by kernel_rfl) ⟨⟨_, rfl, (LeA.eqi (by first | rfl | (simp; done) | (simp_all; done) | omega))⟩, trivial⟩ (by kernel_rfl) (by kernel_rfl) trivial⟩
       ·intro h7; have ⟨h7p, h7s⟩ := dup h7; try simp only [Q5] at h7s
        try simp only [Q, Int.ofNat_lt, Int.ofNat_le] at h7p
        refine ps h7 ?_
        refine ps h7 ?_
        refine ps h7 ?_
        refine ps h7 ?_
        refine ps h7 ?_
        refine ps h7 ?_
        refine ps h7 ?_
        refine ps h7 ?_
        refine ps h7 ?_
        refine ps h7 ?_
        refine ps h7 ?_
        refine ps h7 ?_
        refine ps h7 ?_
        refine ps h7 ?_
        refine ps h7 ?_
        refine ps h7 ?_
        refine ps h7 ?_
        refine ps h7 ?_
        refine ps h7 ?_
        refine Walk.pickF .none rfl rfl h7 rfl ?_
        refine ⟨by show _ = _; kernel_rfl, ?_⟩
        refine cd ?_ ?_
        ·exact fun h => absurd h (by simp)
        ·intro h9; have ⟨h9p, h9s⟩ := dup h9; try simp only [Q5] at h9s
         try simp only [Q, Int.ofNat_lt, Int.ofNat_le] at h9p
         refine CWp.skip ?_
         refine CWp.region rfl ?_
         refine mv ?_
         refine Walk.addI .none rfl rfl rfl (by first | (constructor <;> omega) | (constructor <;> simp <;> omega)) ?_
         refine asg ?_
         refine tv ?_
         refine ⟨j + 1, ⟨by omega, upto_succ hg2.2 (by simp [hitTwice, h1s, h1p, h2s, h2p, h3s, h3p, h4s, h4p, h5s, h5p, h6s, h6p, h7s, h7p, h9s, h9p]; done)⟩, (by omega), Sub.x (by kernel_rfl) (by kernel_rfl) ⟨⟨_, rfl, (LeA.eqi (by first | rfl | (simp; done) | (simp_all; done) | omega))⟩, trivial⟩ (by kernel_rfl) (by kernel_rfl) trivial⟩
      ·exact fun h => absurd h (by simp)
     ·intro h5; have ⟨h5p, h5s⟩ := dup h5; try simp only [Q5] at h5s
      try simp only [Q, Int.ofNat_lt, Int.ofNat_le] at h5p
      refine Walk.move (.some rfl rfl h5) rfl rfl ?_
      refine Walk.move (.some rfl rfl h5) rfl rfl ?_
      refine Walk.ltI (.some rfl rfl h5) rfl rfl rfl ?_
      refine Walk.pickF (.some rfl rfl h4) rfl rfl h5 rfl ?_
      refine Walk.pickT .none rfl rfl h4 rfl ?_
      refine tv ?_
      refine cd ?_ ?_
      ·intro h10; have ⟨h10p, h10s⟩ := dup h10; try simp only [Q5] at h10s
       try simp only [Q, Int.ofNat_lt, Int.ofNat_le] at h10p
       refine CWp.skip ?_
       refine CWp.seq ?_
       refine CWp.block ?_
       refine CWp.seq ?_
       refine CWp.drawn mixed rfl ?_
       refine mv ?_
       refine mv ?_
       refine mv ?_
       refine Walk.idx sl26 .none rfl rfl rfl rfl (at_nth (by omega)) rfl ?_
       refine Walk.fieldP fd81_1 .none rfl rfl ?_
       refine Walk.loadP ty79 .none rfl rfl rfl ?_
       refine Walk.len sl79 .none rfl rfl ?_
       refine Walk.ltI .none rfl rfl rfl ?_
       refine mv ?_
       refine sp 58 ?_ ?_
       ·intro h11; have ⟨h11p, h11s⟩ := dup h11; try simp only [Q5] at h11s
        try simp only [Q, Int.ofNat_lt, Int.ofNat_le] at h11p
        refine Walk.move (.some rfl rfl h11) rfl rfl ?_
        refine Walk.move (.some rfl rfl h11) rfl rfl ?_
        refine Walk.idx sl26 (.some rfl rfl h11) rfl rfl rfl rfl (at_nth (by omega)) rfl ?_
        refine Walk.fieldP fd81_1 (.some rfl rfl h11) rfl rfl ?_
        refine Walk.loadP ty79 (.some rfl rfl h11) rfl rfl rfl ?_
        refine Walk.move (.some rfl rfl h11) rfl rfl ?_
        refine Walk.idx sl79 (.some rfl rfl h11) rfl rfl rfl rfl (at_nth (by omega)) rfl ?_
        refine Walk.fieldP fd90_0 (.some rfl rfl h11) rfl rfl ?_
        refine Walk.loadP ty9 (.some rfl rfl h11) rfl rfl rfl ?_
        refine Walk.move (.some rfl rfl h11) rfl rfl ?_
        refine Walk.move (.some rfl rfl h11) rfl rfl ?_
        refine Walk.idx sl26 (.some rfl rfl h11) rfl rfl rfl rfl (at_nth (by omega)) rfl ?_
        refine Walk.fieldP fd81_1 (.some rfl rfl h11) rfl rfl ?_
        refine Walk.loadP ty79 (.some rfl rfl h11) rfl rfl rfl ?_
        refine Walk.move (.some rfl rfl h11) rfl rfl ?_
        refine Walk.idx sl79 (.some rfl rfl h11) rfl rfl rfl rfl (at_nth (by omega)) rfl ?_
        refine Walk.fieldP fd90_0 (.some rfl rfl h11) rfl rfl ?_
        refine Walk.loadP ty9 (.some rfl rfl h11) rfl rfl rfl ?_
        refine Walk.eqS (.some rfl rfl h11) rfl rfl rfl ?_
        refine Walk.pickT .none rfl rfl h11 rfl ?_
        refine ⟨by show _ = _; kernel_rfl, ?_⟩
        refine cd ?_ ?_
        ·intro h12; have ⟨h12p, h12s⟩ := dup h12; try simp only [Q5] at h12s
         try simp only [Q, Int.ofNat_lt, Int.ofNat_le] at h12p
         refine sr ?_
         refine asg ?_
         refine tv ?_
         refine CWp.ret ?_
         refine ⟨_, _, [], (.cons (.tmp rfl) .nil), (.eqd ?_), ⟨rfl, rfl⟩, HSub.nil, noBox⟩
         all_goals (first | (exfalso; omega) | (refine congrArg D.bool (any_range_false (fun x hx => hg1.2 x (Nat.lt_of_lt_of_le hx ?_))).symm; omega) | (refine congrArg D.bool (any_range_true (i := i) (by omega) ?_).symm; simp [rowTwice, h1s, h1p, h2s, h2p, h3s, h3p, h4s, h4p, h5s, h5p, h10s, h10p, h11s, h11p, h12s, h12p]; done) | (refine congrArg D.bool (any_range_true (i := i) (by omega) ?_).symm; unfold rowTwice; rw [any_range_true (i := j) (by omega) (by simp [hitTwice, h1s, h1p, h2s, h2p, h3s, h3p, h4s, h4p, h5s, h5p, h10s, h10p, h11s, h11p, h12s, h12p])]; simp; done))
        ·intro h12; have ⟨h12p, h12s⟩ := dup h12; try simp only [Q5] at h12s
         try simp only [Q, Int.ofNat_lt, Int.ofNat_le] at h12p
         refine CWp.skip ?_
         refine CWp.region rfl ?_
         refine mv ?_
         refine Walk.addI .none rfl rfl rfl (by first | (constructor <;> omega) | (constructor <;> simp <;> omega)) ?_
         refine asg ?_
         refine tv ?_
         refine ⟨j + 1, ⟨by omega, upto_succ hg2.2 (by simp [hitTwice, h1s, h1p, h2s, h2p, h3s, h3p, h4s, h4p, h5s, h5p, h10s, h10p, h11s, h11p, h12s, h12p]; done)⟩, (by omega), Sub.x (by kernel_rfl) (by kernel_rfl) ⟨⟨_, rfl, (LeA.eqi (by first | rfl | (simp; done) | (simp_all; done) | omega))⟩, trivial⟩ (by kernel_rfl) (by kernel_rfl) trivial⟩
       ·intro h11; have ⟨h11p, h11s⟩ := dup h11; try simp only [Q5] at h11s
        try simp only [Q, Int.ofNat_lt, Int.ofNat_le] at h11p
        refine ps h11 ?_
        refine ps h11 ?_
        refine ps h11 ?_
        refine ps h11 ?_
        refine ps h11 ?_
        refine ps h11 ?_
        refine ps h11 ?_
        refine ps h11 ?_
        refine ps h11 ?_
        refine ps h11 ?_
        refine ps h11 ?_
        refine ps h11 ?_
        refine ps h11 ?_
        refine ps h11 ?_
        refine ps h11 ?_
        refine ps h11 ?_
        refine ps h11 ?_
        refine ps h11 ?_
        refine ps h11 ?_
        refine Walk.pickF .none rfl rfl h11 rfl ?_
        refine ⟨by show _ = _; kernel_rfl, ?_⟩
        refine cd ?_ ?_
        ·exact fun h => absurd h (by simp)
        ·intro h13; have ⟨h13p, h13s⟩ := dup h13; try simp only [Q5] at h13s
         try simp only [Q, Int.ofNat_lt, Int.ofNat_le] at h13p
         refine CWp.skip ?_
         refine CWp.region rfl ?_
         refine mv ?_
         refine Walk.addI .none rfl rfl rfl (by first | (constructor <;> omega) | (constructor <;> simp <;> omega)) ?_
         refine asg ?_
         refine tv ?_
         refine ⟨j + 1, ⟨by omega, upto_succ hg2.2 (by simp [hitTwice, h1s, h1p, h2s, h2p, h3s, h3p, h4s, h4p, h5s, h5p, h10s, h10p, h11s, h11p, h13s, h13p]; done)⟩, (by omega), Sub.x (by kernel_rfl) (by kernel_rfl) ⟨⟨_, rfl, (LeA.eqi (by first | rfl | (simp; done) | (simp_all; done) | omega))⟩, trivial⟩ (by kernel_rfl) (by kernel_rfl) trivial⟩
      ·intro h10; have ⟨h10p, h10s⟩ := dup h10; try simp only [Q5] at h10s
       try simp only [Q, Int.ofNat_lt, Int.ofNat_le] at h10p
       refine CWp.exit ?_
       refine CWp.region rfl ?_
       refine mv ?_
       refine Walk.addI .none rfl rfl rfl (by first | (constructor <;> omega) | (constructor <;> simp <;> omega)) ?_
       refine asg ?_
       refine tv ?_
       refine ⟨i + 1, ⟨by omega, upto_succ hg1.2 (row_false (by simp [h1s, h1p, h2s, h2p, h3s, h3p, h4s, h4p, h5s, h5p, h10s, h10p]) hg2.2 (fun hj => by omega))⟩, (by omega), Sub.x (by kernel_rfl) (by kernel_rfl) ⟨⟨_, rfl, (LeA.eqi (by first | rfl | (simp; done) | (simp_all; done) | omega))⟩, trivial⟩ (by kernel_rfl) (by kernel_rfl) trivial⟩
    ·intro h4; have ⟨h4p, h4s⟩ := dup h4; try simp only [Q5] at h4s
     try simp only [Q, Int.ofNat_lt, Int.ofNat_le] at h4p
     refine ps h4 ?_
     refine ps h4 ?_
     refine ps h4 ?_
     refine ps h4 ?_
     refine Walk.passU rfl rfl rfl rfl rfl ?_
     refine Walk.passU rfl rfl rfl rfl rfl ?_
     refine Walk.passU rfl rfl rfl rfl rfl ?_
     refine ps h4 ?_
     refine Walk.pickF .none rfl rfl h4 rfl ?_
     refine tv ?_
     refine cd ?_ ?_
     ·exact fun h => absurd h (by simp)
     ·intro h14; have ⟨h14p, h14s⟩ := dup h14; try simp only [Q5] at h14s
      try simp only [Q, Int.ofNat_lt, Int.ofNat_le] at h14p
      refine CWp.exit ?_
      refine CWp.region rfl ?_
      refine mv ?_
      refine Walk.addI .none rfl rfl rfl (by first | (constructor <;> omega) | (constructor <;> simp <;> omega)) ?_
      refine asg ?_
      refine tv ?_
      refine ⟨i + 1, ⟨by omega, upto_succ hg1.2 (row_false (by simp [h1s, h1p, h2s, h2p, h3s, h3p, h4s, h4p, h14s, h14p]) hg2.2 (fun hj => by omega))⟩, (by omega), Sub.x (by kernel_rfl) (by kernel_rfl) ⟨⟨_, rfl, (LeA.eqi (by first | rfl | (simp; done) | (simp_all; done) | omega))⟩, trivial⟩ (by kernel_rfl) (by kernel_rfl) trivial⟩
  ·intro h2; have ⟨h2p, h2s⟩ := dup h2; try simp only [Q5] at h2s
   try simp only [Q, Int.ofNat_lt, Int.ofNat_le] at h2p
   refine ps h2 ?_
   refine ps h2 ?_
   refine ps h2 ?_
   refine ps h2 ?_
   refine ps h2 ?_
   refine ps h2 ?_
   refine ps h2 ?_
   refine ps h2 ?_
   refine ps h2 ?_
   refine ps h2 ?_
   refine ps h2 ?_
   refine Walk.pickF .none rfl rfl h2 rfl ?_
   refine ⟨by show _ = _; kernel_rfl, ?_⟩
   refine cd ?_ ?_
   ·exact fun h => absurd h (by simp)
   ·intro h15; have ⟨h15p, h15s⟩ := dup h15; try simp only [Q5] at h15s
    try simp only [Q, Int.ofNat_lt, Int.ofNat_le] at h15p
    refine CWp.skip ?_
    refine sr ?_
    refine asg ?_
    refine tv ?_
    refine CWp.block ?_
    refine CWp.loopX (ι := Nat) hk (fun j => [(8, .d (.i (j : Int)))]) [6, 30, 31, 32, 33, 34, 35, 36, 37, 38, 39, 40, 41, 42, 43, 44, 45, 46, 47, 48, 49, 50, 51, 52, 53, 54, 55, 56, 57, 58, 59, 60, 61, 62, 63, 64, 65, 66, 67, 68, 69, 70, 71, 72, 73, 74, 75, 76, 77, 78] (fun j => []) (fun j => j ≤ (nth w i).ctors.length ∧ ∀ j', j' < j → hitTwice w d k i j' = false) (fun j => (nth w i).ctors.length - j) 0 ⟨by omega, fun _ h => absurd h (by omega)⟩ ⟨⟨_, rfl, (LeA.eqi (by first | rfl | (simp; done) | (simp_all; done) | omega))⟩, trivial⟩ trivial (fun x => rfl) (fun j hg2 => ?_)
    have hb := hs.ctors i
    refine CWp.seq ?_
    refine sr ?_
    refine mv ?_
    refine mv ?_
    refine mv ?_
    refine Walk.idx sl26 .none rfl rfl rfl rfl (at_nth (by omega)) rfl ?_
    refine Walk.fieldP fd81_1 .none rfl rfl ?_
    refine Walk.loadP ty79 .none rfl rfl rfl ?_
    refine Walk.len sl79 .none rfl rfl ?_
    refine Walk.ltI .none rfl rfl rfl ?_
    refine mv ?_
    refine sp 38 ?_ ?_
    ·intro h16; have ⟨h16p, h16s⟩ := dup h16; try simp only [Q5] at h16s
     try simp only [Q, Int.ofNat_lt, Int.ofNat_le] at h16p
     refine Walk.move (.some rfl rfl h16) rfl rfl ?_
     refine Walk.move (.some rfl rfl h16) rfl rfl ?_
     refine Walk.ltI (.some rfl rfl h16) rfl rfl rfl ?_
     refine Walk.move (.some rfl rfl h16) rfl rfl ?_
     refine sp 42 ?_ ?_
     ·intro h17; have ⟨h17p, h17s⟩ := dup h17; try simp only [Q5] at h17s
      try simp only [Q, Int.ofNat_lt, Int.ofNat_le] at h17p
      refine ps h17 ?_
      refine ps h17 ?_
      refine ps h17 ?_
      refine Walk.pickT (.some rfl rfl h16) rfl rfl h17 rfl ?_
      refine Walk.pickT .none rfl rfl h16 rfl ?_
      refine tv ?_
      refine cd ?_ ?_
      ·intro h18; have ⟨h18p, h18s⟩ := dup h18; try simp only [Q5] at h18s
       try simp only [Q, Int.ofNat_lt, Int.ofNat_le] at h18p
       refine CWp.skip ?_
       refine CWp.seq ?_
       refine CWp.block ?_
       refine CWp.seq ?_
       refine CWp.drawn mixed rfl ?_
       refine mv ?_
       refine mv ?_
       refine mv ?_
       refine Walk.idx sl26 .none rfl rfl rfl rfl (at_nth (by omega)) rfl ?_
       refine Walk.fieldP fd81_1 .none rfl rfl ?_
       refine Walk.loadP ty79 .none rfl rfl rfl ?_
       refine Walk.len sl79 .none rfl rfl ?_
       refine Walk.ltI .none rfl rfl rfl ?_
       refine mv ?_
       refine sp 58 ?_ ?_
       ·intro h19; have ⟨h19p, h19s⟩ := dup h19; try simp only [Q5] at h19s
        try simp only [Q, Int.ofNat_lt, Int.ofNat_le] at h19p
        refine Walk.move (.some rfl rfl h19) rfl rfl ?_
        refine Walk.move (.some rfl rfl h19) rfl rfl ?_
        refine Walk.idx sl26 (.some rfl rfl h19) rfl rfl rfl rfl (at_nth (by omega)) rfl ?_
        refine Walk.fieldP fd81_1 (.some rfl rfl h19) rfl rfl ?_
        refine Walk.loadP ty79 (.some rfl rfl h19) rfl rfl rfl ?_
        refine Walk.move (.some rfl rfl h19) rfl rfl ?_
        refine Walk.idx sl79 (.some rfl rfl h19) rfl rfl rfl rfl (at_nth (by omega)) rfl ?_
        refine Walk.fieldP fd90_0 (.some rfl rfl h19) rfl rfl ?_
        refine Walk.loadP ty9 (.some rfl rfl h19) rfl rfl rfl ?_
        refine Walk.move (.some rfl rfl h19) rfl rfl ?_
        refine Walk.move (.some rfl rfl h19) rfl rfl ?_
        refine Walk.idx sl26 (.some rfl rfl h19) rfl rfl rfl rfl (at_nth (by omega)) rfl ?_
        refine Walk.fieldP fd81_1 (.some rfl rfl h19) rfl rfl ?_
        refine Walk.loadP ty79 (.some rfl rfl h19) rfl rfl rfl ?_
        refine Walk.move (.some rfl rfl h19) rfl rfl ?_
        refine Walk.idx sl79 (.some rfl rfl h19) rfl rfl rfl rfl (at_nth (by omega)) rfl ?_
        refine Walk.fieldP fd90_0 (.some rfl rfl h19) rfl rfl ?_
        refine Walk.loadP ty9 (.some rfl rfl h19) rfl rfl rfl ?_
        refine Walk.eqS (.some rfl rfl h19) rfl rfl rfl ?_
        refine Walk.pickT .none rfl rfl h19 rfl ?_
        refine ⟨by show _ = _; kernel_rfl, ?_⟩
        refine cd ?_ ?_
        ·intro h20; have ⟨h20p, h20s⟩ := dup h20; try simp only [Q5] at h20s
         try simp only [Q, Int.ofNat_lt, Int.ofNat_le] at h20p
         refine sr ?_
         refine asg ?_
         refine tv ?_
         refine CWp.ret ?_
         refine ⟨_, _, [], (.cons (.tmp rfl) .nil), (.eqd ?_), ⟨rfl, rfl⟩, HSub.nil, noBox⟩
         all_goals (first | (exfalso; omega) | (refine congrArg D.bool (any_range_false (fun x hx => hg1.2 x (Nat.lt_of_lt_of_le hx ?_))).symm; omega) | (refine congrArg D.bool (any_range_true (i := i) (by omega) ?_).symm; simp [rowTwice, h1s, h1p, h2s, h2p, h15s, h15p, h16s, h16p, h17s, h17p, h18s, h18p, h19s, h19p, h20s, h20p]; done) | (refine congrArg D.bool (any_range_true (i := i) (by omega) ?_).symm; unfold rowTwice; rw [any_range_true (i := j) (by omega) (by simp [hitTwice, h1s, h1p, h2s, h2p, h15s, h15p, h16s, h16p, h17s, h17p, h18s, h18p, h19s, h19p, h20s, h20p])]; simp; done))
        ·intro h20; have ⟨h20p, h20s⟩ := dup h20; try simp only [Q5] at h20s
         try simp only [Q, Int.ofNat_lt, Int.ofNat_le] at h20p
         refine CWp.skip ?_
         refine CWp.region rfl ?_
         refine mv ?_
         refine Walk.addI .none rfl rfl rfl (by first | (constructor <;> omega) | (constructor <;> simp <;> omega)) ?_
         refine asg ?_
         refine tv ?_
         refine ⟨j + 1, ⟨by omega, upto_succ hg2.2 (by simp [hitTwice, h1s, h1p, h2s, h2p, h15s, h15p, h16s, h16p, h17s, h17p, h18s, h18p, h19s, h19p, h20s, h20p]; done)⟩, (by omega), Sub.x (by kernel_rfl) (by kernel_rfl) ⟨⟨_, rfl, (LeA.eqi (by first | rfl | (simp; done) | (simp_all; done) | omega))⟩, trivial⟩ (by kernel_rfl) (by kernel_rfl) trivial⟩
       ·intro h19; have ⟨h19p, h19s⟩ := dup h19; try simp only [Q5] at h19s
        try simp only [Q, Int.ofNat_lt, Int.ofNat_le] at h19p
        refine ps h19 ?_
        refine ps h19 ?_
        refine ps h19 ?_
        refine ps h19 ?_
        refine ps h19 ?_
        refine ps h19 ?_
        refine ps h19 ?_
        refine ps h19 ?_
        refine ps h19 ?_
        refine ps h19 ?_
        refine ps h19 ?_
        refine ps h19 ?_
        refine ps h19 ?_
        refine ps h19 ?_
        refine ps h19 ?_
        refine ps h19 ?_
        refine ps h19 ?_
        refine ps h19 ?_
        refine ps h19 ?_
        refine Walk.pickF .none rfl rfl h19 rfl ?_
        refine ⟨by show _ = _; kernel_rfl, ?_⟩
        refine cd ?_ ?_
        ·exact fun h => absurd h (by simp)
        ·intro h21; have ⟨h21p, h21s⟩ := dup h21; try simp only [Q5] at h21s
         try simp only [Q, Int.ofNat_lt, Int.ofNat_le] at h21p
         refine CWp.skip ?_
         refine CWp.region rfl ?_
         refine mv ?_
         refine Walk.addI .none rfl rfl rfl (by first | (constructor <;> omega) | (constructor <;> simp <;> omega)) ?_
         refine asg ?_
         refine tv ?_
         refine ⟨j + 1, ⟨by omega, upto_succ hg2.2 (by simp [hitTwice, h1s, h1p, h2s, h2p, h15s, h15p, h16s, h16p, h17s, h17p, h18s, h18p, h19s, h19p, h21s, h21p]; done)⟩, (by omega), Sub.x (by kernel_rfl) (by kernel_rfl) ⟨⟨_, rfl, (LeA.eqi (by first | rfl | (simp; done) | (simp_all; done) | omega))⟩, trivial⟩ (by kernel_rfl) (by kernel_rfl) trivial⟩
      ·exact fun h => absurd h (by simp)
     ·intro h17; have ⟨h17p, h17s⟩ := dup h17; try simp only [Q5] at h17s
      try simp only [Q, Int.ofNat_lt, Int.ofNat_le] at h17p
      refine Walk.move (.some rfl rfl h17) rfl rfl ?_
      refine Walk.move (.some rfl rfl h17) rfl rfl ?_
      refine Walk.ltI (.some rfl rfl h17) rfl rfl rfl ?_
      refine Walk.pickF (.some rfl rfl h16) rfl rfl h17 rfl ?_
      refine Walk.pickT .none rfl rfl h16 rfl ?_
      refine tv ?_
      refine cd ?_ ?_
      ·intro h22; have ⟨h22p, h22s⟩ := dup h22; try simp only [Q5] at h22s
       try simp only [Q, Int.ofNat_lt, Int.ofNat_le] at h22p
       refine CWp.skip ?_
       refine CWp.seq ?_
       refine CWp.block ?_
       refine CWp.seq ?_
       refine CWp.drawn mixed rfl ?_
       refine mv ?_
       refine mv ?_
       refine mv ?_
       refine Walk.idx sl26 .none rfl rfl rfl rfl (at_nth (by omega)) rfl ?_
       refine Walk.fieldP fd81_1 .none rfl rfl ?_
       refine Walk.loadP ty79 .none rfl rfl rfl ?_
       refine Walk.len sl79 .none rfl rfl ?_
       refine Walk.ltI .none rfl rfl rfl ?_
       refine mv ?_
       refine sp 58 ?_ ?_
       ·intro h23; have ⟨h23p, h23s⟩ := dup h23; try simp only [Q5] at h23s
        try simp only [Q, Int.ofNat_lt, Int.ofNat_le] at h23p
        refine Walk.move (.some rfl rfl h23) rfl rfl ?_
        refine Walk.move (.some rfl rfl h23) rfl rfl ?_
        refine Walk.idx sl26 (.some rfl rfl h23) rfl rfl rfl rfl (at_nth (by omega)) rfl ?_
        refine Walk.fieldP fd81_1 (.some rfl rfl h23) rfl rfl ?_
        refine Walk.loadP ty79 (.some rfl rfl h23) rfl rfl rfl ?_
        refine Walk.move (.some rfl rfl h23) rfl rfl ?_
        refine Walk.idx sl79 (.some rfl rfl h23) rfl rfl rfl rfl (at_nth (by omega)) rfl ?_
        refine Walk.fieldP fd90_0 (.some rfl rfl h23) rfl rfl ?_
        refine Walk.loadP ty9 (.some rfl rfl h23) rfl rfl rfl ?_
        refine Walk.move (.some rfl rfl h23) rfl rfl ?_
        refine Walk.move (.some rfl rfl h23) rfl rfl ?_
        refine Walk.idx sl26 (.some rfl rfl h23) rfl rfl rfl rfl (at_nth (by omega)) rfl ?_
        refine Walk.fieldP fd81_1 (.some rfl rfl h23) rfl rfl ?_
        refine Walk.loadP ty79 (.some rfl rfl h23) rfl rfl rfl ?_
        refine Walk.move (.some rfl rfl h23) rfl rfl ?_
        refine Walk.idx sl79 (.some rfl rfl h23) rfl rfl rfl rfl (at_nth (by omega)) rfl ?_
        refine Walk.fieldP fd90_0 (.some rfl rfl h23) rfl rfl ?_
        refine Walk.loadP ty9 (.some rfl rfl h23) rfl rfl rfl ?_
        refine Walk.eqS (.some rfl rfl h23) rfl rfl rfl ?_
        refine Walk.pickT .none rfl rfl h23 rfl ?_
        refine ⟨by show _ = _; kernel_rfl, ?_⟩
        refine cd ?_ ?_
        ·intro h24; have ⟨h24p, h24s⟩ := dup h24; try simp only [Q5] at h24s
         try simp only [Q, Int.ofNat_lt, Int.ofNat_le] at h24p
         refine sr ?_
         refine asg ?_
         refine tv ?_
         refine CWp.ret ?_
         refine ⟨_, _, [], (.cons (.tmp rfl) .nil), (.eqd ?_), ⟨rfl, rfl⟩, HSub.nil, noBox⟩
         all_goals (first | (exfalso; omega) | (refine congrArg D.bool (any_range_false (fun x hx => hg1.2 x (Nat.lt_of_lt_of_le hx ?_))).symm; omega) | (refine congrArg D.bool (any_range_true (i := i) (by omega) ?_).symm; simp [rowTwice, h1s, h1p, h2s, h2p, h15s, h15p, h16s, h16p, h17s, h17p, h22s, h22p, h23s, h23p, h24s, h24p]; done) | (refine congrArg D.bool (any_range_true (i := i) (by omega) ?_).symm; unfold rowTwice; rw [any_range_true (i := j) (by omega) (by simp [hitTwice, h1s, h1p, h2s, h2p, h15s, h15p, h16s, h16p, h17s, h17p, h22s, h22p, h23s, h23p, h24s, h24p])]; simp; done))
        ·intro h24; have ⟨h24p, h24s⟩ := dup h24; try simp only [Q5] at h24s
         try simp only [Q, Int.ofNat_lt, Int.ofNat_le] at h24p
         refine CWp.skip ?_
         refine CWp.region rfl ?_
         refine mv ?_
         refine Walk.addI .none rfl rfl rfl (by first | (constructor <;> omega) | (constructor <;> simp <;> omega)) ?_
         refine asg ?_
         refine tv ?_
         refine ⟨j + 1, ⟨by omega, upto_succ hg2.2 (by simp [hitTwice, h1s, h1p, h2s, h2p, h15s, h15p, h16s, h16p, h17s, h17p, h22s, h22p, h23s, h23p, h24s, h24p]; done)⟩, (by omega), Sub.x (by kernel_rfl) (by kernel_rfl) ⟨⟨_, rfl, (LeA.eqi (by first | rfl | (simp; done) | (simp_all; done) | omega))⟩, trivial⟩ (by kernel_rfl) (by kernel_rfl) trivial⟩
       ·intro h23; have ⟨h23p, h23s⟩ := dup h23; try simp only [Q5] at h23s
        try simp only [Q, Int.ofNat_lt, Int.ofNat_le] at h23p
        refine ps h23 ?_
        refine ps h23 ?_
        refine ps h23 ?_
        refine ps h23 ?_
        refine ps h23 ?_
        refine ps h23 ?_
        refine ps h23 ?_
        refine ps h23 ?_
        refine ps h23 ?_
        refine ps h23 ?_
        refine ps h23 ?_
        refine ps h23 ?_
        refine ps h23 ?_
        refine ps h23 ?_
        refine ps h23 ?_
        refine ps h23 ?_
        refine ps h23 ?_
        refine ps h23 ?_
        refine ps h23 ?_
        refine Walk.pickF .none rfl rfl h23 rfl ?_
        refine ⟨by show _ = _; kernel_rfl, ?_⟩
        refine cd ?_ ?_
        ·exact fun h => absurd h (by simp)
        ·intro h25; have ⟨h25p, h25s⟩ := dup h25; try simp only [Q5] at h25s
         try simp only [Q, Int.ofNat_lt, Int.ofNat_le] at h25p
         refine CWp.skip ?_
         refine CWp.region rfl ?_
         refine mv ?_
         refine Walk.addI .none rfl rfl rfl (by first | (constructor <;> omega) | (constructor <;> simp <;> omega)) ?_
         refine asg ?_
         refine tv ?_
         refine ⟨j + 1, ⟨by omega, upto_succ hg2.2 (by simp [hitTwice, h1s, h1p, h2s, h2p, h15s, h15p, h16s, h16p, h17s, h17p, h22s, h22p, h23s, h23p, h25s, h25p]; done)⟩, (by omega), Sub.x (by kernel_rfl) (by kernel_rfl) ⟨⟨_, rfl, (LeA.eqi (by first | rfl | (simp; done) | (simp_all; done) | omega))⟩, trivial⟩ (by kernel_rfl) (by kernel_rfl) trivial⟩
      ·intro h22; have ⟨h22p, h22s⟩ := dup h22; try simp only [Q5] at h22s
       try simp only [Q, Int.ofNat_lt, Int.ofNat_le] at h22p
       refine CWp.exit ?_
       refine CWp.region rfl ?_
       refine mv ?_
       refine Walk.addI .none rfl rfl rfl (by first | (constructor <;> omega) | (constructor <;> simp <;> omega)) ?_
       refine asg ?_
       refine tv ?_
       refine ⟨i + 1, ⟨by omega, upto_succ hg1.2 (row_false (by simp [h1s, h1p, h2s, h2p, h15s, h15p, h16s, h16p, h17s, h17p, h22s, h22p]) hg2.2 (fun hj => by omega))⟩, (by omega), Sub.x (by kernel_rfl) (by kernel_rfl) ⟨⟨_, rfl, (LeA.eqi (by first | rfl | (simp; done) | (simp_all; done) | omega))⟩, trivial⟩ (by kernel_rfl) (by kernel_rfl) trivial⟩
    ·intro h16; have ⟨h16p, h16s⟩ := dup h16; try simp only [Q5] at h16s
     try simp only [Q, Int.ofNat_lt, Int.ofNat_le] at h16p
     refine ps h16 ?_
     refine ps h16 ?_
     refine ps h16 ?_
     refine ps h16 ?_
     refine Walk.passU rfl rfl rfl rfl rfl ?_
     refine Walk.passU rfl rfl rfl rfl rfl ?_
     refine Walk.passU rfl rfl rfl rfl rfl ?_
     refine ps h16 ?_
     refine Walk.pickF .none rfl rfl h16 rfl ?_
     refine tv ?_
     refine cd ?_ ?_
     ·exact fun h => absurd h (by simp)
     ·intro h26; have ⟨h26p, h26s⟩ := dup h26; try simp only [Q5] at h26s
      try simp only [Q, Int.ofNat_lt, Int.ofNat_le] at h26p
      refine CWp.exit ?_
      refine CWp.region rfl ?_
      refine mv ?_
      refine Walk.addI .none rfl rfl rfl (by first | (constructor <;> omega) | (constructor <;> simp <;> omega)) ?_
      refine asg ?_
      refine tv ?_
      refine ⟨i + 1, ⟨by omega, upto_succ hg1.2 (row_false (by simp [h1s, h1p, h2s, h2p, h15s, h15p, h16s, h16p, h26s, h26p]) hg2.2 (fun hj => by omega))⟩, (by omega), Sub.x (by kernel_rfl) (by kernel_rfl) ⟨⟨_, rfl, (LeA.eqi (by first | rfl | (simp; done) | (simp_all; done) | omega))⟩, trivial⟩ (by kernel_rfl) (by kernel_rfl) trivial⟩
 ·intro h1; have ⟨h1p, h1s⟩ := dup h1; try simp only [Q5] at h1s
  try simp only [Q, Int.ofNat_lt, Int.ofNat_le] at h1p
  refine CWp.exit ?_
  refine sr ?_
  refine asg ?_
  refine tv ?_
  refine CWp.ret ?_
  refine ⟨_, _, [], (.cons (.tmp rfl) .nil), (.eqd ?_), ⟨rfl, rfl⟩, HSub.nil, noBox⟩
  all_goals (first | (exfalso; omega) | (refine congrArg D.bool (any_range_false (fun x hx => hg1.2 x (Nat.lt_of_lt_of_le hx ?_))).symm; omega) | (refine congrArg D.bool (any_range_true (i := i) (by omega) ?_).symm; simp [rowTwice, h1s, h1p]; done) | (refine congrArg D.bool (any_range_true (i := i) (by omega) ?_).symm; unfold rowTwice; rw [any_range_true (i := j) (by omega) (by simp [hitTwice, h1s, h1p])]; simp; done))
theorem wvs_true {w : List Data} (h : w.length ≤ 4) (h2 : ∀ i, i < w.length → specData w i = true) : specWorldValid w = true := by
 unfold specWorldValid; rw [all_range_true h2]; simp [h]
theorem wvs_len {w : List Data} (h : 4 < w.length) : specWorldValid w = false := by
 unfold specWorldValid; rw [decide_eq_false (by omega)]; rfl
theorem wvs_false {w : List Data} {i : Nat} (h : i < w.length) (h2 : specData w i = false) : specWorldValid w = false := by
 unfold specWorldValid; rw [all_range_false h h2]; simp
theorem specData_true {w : List Data} {d : Nat} (h : dataNameOk (nth w d).name = true) (h1 : 1 ≤ (nth w d).ctors.length) (h2 : (nth w d).ctors.length ≤ 4) (h3 : ∀ k, k < (nth w d).ctors.length → specCtors w d k = true) : specData w d = true := by
 unfold specData; rw [h, all_range_true h3]; simp [h1, h2]
theorem spec_WorldValid_fn {w : List Data} (hs : WSmall w) : FnD Try.prog 43 [.d (encDatas w)] [] (.d (.bool (specWorldValid w))) [] := by
 have hw := hs.len
 refine Fn.body (fn := Try.f43) (n := 67) rfl rfl rfl rfl rfl (fun w0 F0 own kept hk => ?_)
 refine sr ?_
 refine asg ?_
 refine tv ?_
 refine CWp.seq ?_
 refine sr ?_
 refine mv ?_
 refine Walk.len sl26 .none rfl rfl ?_
 refine Walk.gtI .none rfl rfl rfl ?_
 refine tv ?_
 refine cd ?_ ?_
 ·intro h1; have ⟨h1p, h1s⟩ := dup h1; try simp only [Q5] at h1s
  try simp only [Q, Int.ofNat_lt, Int.ofNat_le] at h1p
  refine sr ?_
  refine asg ?_
  refine tv ?_
  refine CWp.ret ?_
  refine ⟨_, _, [], (.cons (.tmp rfl) .nil), (.eqd ?_), ⟨rfl, rfl⟩, HSub.nil, noBox⟩
  all_goals (first | (refine congrArg D.bool (wvs_true ?_ (fun x hx => hg1.2 x (Nat.lt_of_lt_of_le hx ?_))).symm <;> omega) | (refine congrArg D.bool (wvs_len ?_).symm; omega) | (refine congrArg D.bool (wvs_false (i := i) (by omega) ?_).symm; simp [specData, h1s, h1p]; done) | (refine congrArg D.bool (wvs_false (i := i) (by omega) ?_).symm; unfold specData; rw [decide_eq_false (p := 1 ≤ (nth w i).ctors.length) (by omega)]; simp; done) | (refine congrArg D.bool (wvs_false (i := i) (by omega) ?_).symm; unfold specData; rw [decide_eq_false (p := (nth w i).ctors.length ≤ 4) (by omega)]; simp; done) | (refine congrArg D.bool (wvs_false (i := i) (by omega) ?_).symm; unfold specData; rw [all_range_false (i := k) (by omega) (by simp [specCtors, Ctor.eta, h1s, h1p])]; simp; done))
 ·intro h1; have ⟨h1p, h1s⟩ := dup h1; try simp only [Q5] at h1s
  try simp only [Q, Int.ofNat_lt, Int.ofNat_le] at h1p
  refine CWp.skip ?_
  refine CWp.seq ?_
  refine sr ?_
  refine asg ?_
  refine tv ?_
  refine CWp.block ?_
  refine CWp.loopX (ι := Nat) hk (fun i => [(3, .d (.i (i : Int)))]) [2, 4, 8, 9, 10, 11, 12, 13, 14, 15, 16, 17, 18, 19, 20, 21, 22, 23, 24, 25, 26, 27, 28, 29, 30, 31, 32, 33, 34, 35, 36, 37, 38, 39, 40, 41, 42, 43, 44, 45, 46, 47, 48, 49, 50, 51, 52, 53, 54, 55, 56, 57, 58, 59, 60, 61, 62, 63, 64, 65, 66] (fun i => []) (fun i => i ≤ w.length ∧ ∀ i', i' < i → specData w i' = true) (fun i => w.length - i) 0 ⟨by omega, fun _ h => absurd h (by omega)⟩ ⟨⟨_, rfl, (LeA.eqi (by first | rfl | (simp; done) | (simp_all; done) | omega))⟩, trivial⟩ trivial (fun x => rfl) (fun i hg1 => ?_)
  refine CWp.seq ?_
  refine sr ?_
  refine mv ?_
  refine mv ?_
  refine Walk.len sl26 .none rfl rfl ?_
  refine Walk.ltI .none rfl rfl rfl ?_
  refine tv ?_
  refine cd ?_ ?_
  ·intro h2; have ⟨h2p, h2s⟩ := dup h2; try simp only [Q5] at h2s
   try simp only [Q, Int.ofNat_lt, Int.ofNat_le] at h2p
   refine CWp.skip ?_
   refine CWp.seq ?_
   refine CWp.block ?_
   refine CWp.seq ?_
   refine sr ?_
   refine mv ?_
   refine mv ?_
   refine Walk.idx sl26 .none rfl rfl rfl rfl (at_nth (by omega)) rfl ?_
   refine Walk.fieldP fd81_0 .none rfl rfl ?_
   refine Walk.loadP ty9 .none rfl rfl rfl ?_
   refine Walk.call (cr := []) cal79 (spec_l1Data_fn (hs.data _ (nth_mem (by omega))).1) rfl .none rfl rfl (LeL.refl _) trivial rfl rfl rfl ?_
   refine Walk.not .none rfl rfl ?_
   refine mv ?_
   refine sp 21 ?_ ?_
   ·intro h3; have ⟨h3p, h3s⟩ := dup h3; try simp only [Q5] at h3s
    try simp only [Q, Int.ofNat_lt, Int.ofNat_le] at h3p
    refine ps h3 ?_
    refine ps h3 ?_
    refine ps h3 ?_
    refine ps h3 ?_
    refine ps h3 ?_
    refine ps h3 ?_
    refine ps h3 ?_
    refine Walk.pickT .none rfl rfl h3 rfl ?_
    refine mv ?_
    refine ps rfl ?_
    refine ps rfl ?_
    refine ps rfl ?_
    refine ps rfl ?_
    refine ps rfl ?_
    refine ps rfl ?_
    refine ps rfl ?_
    refine Walk.pickT .none rfl rfl rfl rfl ?_
    refine tv ?_
    refine cd ?_ ?_
    ·intro h4; have ⟨h4p, h4s⟩ := dup h4; try simp only [Q5] at h4s
     try simp only [Q, Int.ofNat_lt, Int.ofNat_le] at h4p
     refine sr ?_
     refine asg ?_
     refine tv ?_
     refine CWp.ret ?_
     refine ⟨_, _, [], (.cons (.tmp rfl) .nil), (.eqd ?_), ⟨rfl, rfl⟩, HSub.nil, noBox⟩
     all_goals (first | (refine congrArg D.bool (wvs_true ?_ (fun x hx => hg1.2 x (Nat.lt_of_lt_of_le hx ?_))).symm <;> omega) | (refine congrArg D.bool (wvs_len ?_).symm; omega) | (refine congrArg D.bool (wvs_false (i := i) (by omega) ?_).symm; simp [specData, h1s, h1p, h2s, h2p, h3s, h3p, h4s, h4p]; done) | (refine congrArg D.bool (wvs_false (i := i) (by omega) ?_).symm; unfold specData; rw [decide_eq_false (p := 1 ≤ (nth w i).ctors.length) (by omega)]; simp; done) | (refine congrArg D.bool (wvs_false (i := i) (by omega) ?_).symm; unfold specData; rw [decide_eq_false (p := (nth w i).ctors.length ≤ 4) (by omega)]; simp; done) | (refine congrArg D.bool (wvs_false (i := i) (by omega) ?_).symm; unfold specData; rw [all_range_false (i := k) (by omega) (by simp [specCtors, Ctor.eta, h1s, h1p, h2s, h2p, h3s, h3p, h4s, h4p])]; simp; done))
    ·exact fun h => absurd h (by simp)
   ·intro h3; have ⟨h3p, h3s⟩ := dup h3; try simp only [Q5] at h3s
    try simp only [Q, Int.ofNat_lt, Int.ofNat_le] at h3p
    refine Walk.move (.some rfl rfl h3) rfl rfl ?_
    refine Walk.move (.some rfl rfl h3) rfl rfl ?_
    refine Walk.idx sl26 (.some rfl rfl h3) rfl rfl rfl rfl (at_nth (by omega)) rfl ?_
    refine Walk.fieldP fd81_1 (.some rfl rfl h3) rfl rfl ?_
    refine Walk.loadP ty79 (.some rfl rfl h3) rfl rfl rfl ?_
    refine Walk.len sl79 (.some rfl rfl h3) rfl rfl ?_
    refine Walk.eqI (.some rfl rfl h3) rfl rfl rfl ?_
    refine Walk.pickF .none rfl rfl h3 rfl ?_
    refine mv ?_
    refine sp 30 ?_ ?_
    ·intro h5; have ⟨h5p, h5s⟩ := dup h5; try simp only [Q5] at h5s
     try simp only [Q, Int.ofNat_lt, Int.ofNat_le] at h5p
     refine ps h5 ?_
     refine ps h5 ?_
     refine ps h5 ?_
     refine ps h5 ?_
     refine ps h5 ?_
     refine ps h5 ?_
     refine ps h5 ?_
     refine Walk.pickT .none rfl rfl h5 rfl ?_
     refine tv ?_
     refine cd ?_ ?_
     ·intro h6; have ⟨h6p, h6s⟩ := dup h6; try simp only [Q5] at h6s
      try simp only [Q, Int.ofNat_lt, Int.ofNat_le] at h6p
      refine sr ?_
      refine asg ?_
      refine tv ?_
      refine CWp.ret ?_
      refine ⟨_, _, [], (.cons (.tmp rfl) .nil), (.eqd ?_), ⟨rfl, rfl⟩, HSub.nil, noBox⟩
      all_goals (first | (refine congrArg D.bool (wvs_true ?_ (fun x hx => hg1.2 x (Nat.lt_of_lt_of_le hx ?_))).symm <;> omega) | (refine congrArg D.bool (wvs_len ?_).symm; omega) | (refine congrArg D.bool (wvs_false (i := i) (by omega) ?_).symm; simp [specData, h1s, h1p, h2s, h2p, h3s, h3p, h5s, h5p, h6s, h6p]; done) | (refine congrArg D.bool (wvs_false (i := i) (by omega) ?_).symm; unfold specData; rw [decide_eq_false (p := 1 ≤ (nth w i).ctors.length) (by omega)]; simp; done) | (refine congrArg D.bool (wvs_false (i := i) (by omega) ?_).symm; unfold specData; rw [decide_eq_false (p := (nth w i).ctors.length ≤ 4) (by omega)]; simp; done) | (refine congrArg D.bool (wvs_false (i := i) (by omega) ?_).symm; unfold specData; rw [all_range_false (i := k) (by omega) (by simp [specCtors, Ctor.eta, h1s, h1p, h2s, h2p, h3s, h3p, h5s, h5p, h6s, h6p])]; simp; done))
     ·exact fun h => absurd h (by simp)
    ·intro h5; have ⟨h5p, h5s⟩ := dup h5; try simp only [Q5] at h5s
     try simp only [Q, Int.ofNat_lt, Int.ofNat_le] at h5p
     refine Walk.move (.some rfl rfl h5) rfl rfl ?_
     refine Walk.move (.some rfl rfl h5) rfl rfl ?_
     refine Walk.idx sl26 (.some rfl rfl h5) rfl rfl rfl rfl (at_nth (by omega)) rfl ?_
     refine Walk.fieldP fd81_1 (.some rfl rfl h5) rfl rfl ?_
     refine Walk.loadP ty79 (.some rfl rfl h5) rfl rfl rfl ?_
     refine Walk.len sl79 (.some rfl rfl h5) rfl rfl ?_
     refine Walk.gtI (.some rfl rfl h5) rfl rfl rfl ?_
     refine Walk.pickF .none rfl rfl h5 rfl ?_
     refine tv ?_
     refine cd ?_ ?_
     ·intro h7; have ⟨h7p, h7s⟩ := dup h7; try simp only [Q5] at h7s
      try simp only [Q, Int.ofNat_lt, Int.ofNat_le] at h7p
      refine sr ?_
      refine asg ?_
      refine tv ?_
      refine CWp.ret ?_
      refine ⟨_, _, [], (.cons (.tmp rfl) .nil), (.eqd ?_), ⟨rfl, rfl⟩, HSub.nil, noBox⟩
      all_goals (first | (refine congrArg D.bool (wvs_true ?_ (fun x hx => hg1.2 x (Nat.lt_of_lt_of_le hx ?_))).symm <;> omega) | (refine congrArg D.bool (wvs_len ?_).symm; omega) | (refine congrArg D.bool (wvs_false (i := i) (by omega) ?_).symm; simp [specData, h1s, h1p, h2s, h2p, h3s, h3p, h5s, h5p, h7s, h7p]; done) | (refine congrArg D.bool (wvs_false (i := i) (by omega) ?_).symm; unfold specData; rw [decide_eq_false (p := 1 ≤ (nth w i).ctors.length) (by omega)]; simp; done) | (refine congrArg D.bool (wvs_false (i := i) (by omega) ?_).symm; unfold specData; rw [decide_eq_false (p := (nth w i).ctors.length ≤ 4) (by omega)]; simp; done) | (refine congrArg D.bool (wvs_false (i := i) (by omega) ?_).symm; unfold specData; rw [all_range_false (i := k) (by omega) (by simp [specCtors, Ctor.eta, h1s, h1p, h2s, h2p, h3s, h3p, h5s, h5p, h7s, h7p])]; simp; done))
     ·intro h7; have ⟨h7p, h7s⟩ := dup h7; try simp only [Q5] at h7s
      try simp only [Q, Int.ofNat_lt, Int.ofNat_le] at h7p
      refine CWp.skip ?_
      refine sr ?_
      refine asg ?_
      refine tv ?_
      refine CWp.block ?_
      refine CWp.loopX (ι := Nat) hk (fun k => [(4, .d (.i (k : Int)))]) [2, 39, 40, 41, 42, 43, 44, 45, 46, 47, 48, 49, 50, 51, 52, 53, 54, 55, 56, 57, 58, 59, 60, 61, 62, 63, 64, 65, 66] (fun k => []) (fun k => k ≤ (nth w i).ctors.length ∧ ∀ k', k' < k → specCtors w i k' = true) (fun k => (nth w i).ctors.length - k) 0 ⟨by omega, fun _ h => absurd h (by omega)⟩ ⟨⟨_, rfl, (LeA.eqi (by first | rfl | (simp; done) | (simp_all; done) | omega))⟩, trivial⟩ trivial (fun x => rfl) (fun k hg2 => ?_)
      have hb := hs.ctors i
      refine CWp.seq ?_
      refine sr ?_
      refine mv ?_
      refine mv ?_
      refine mv ?_
      refine Walk.idx sl26 .none rfl rfl rfl rfl (at_nth (by omega)) rfl ?_
      refine Walk.fieldP fd81_1 .none rfl rfl ?_
      refine Walk.loadP ty79 .none rfl rfl rfl ?_
      refine Walk.len sl79 .none rfl rfl ?_
      refine Walk.ltI .none rfl rfl rfl ?_
      refine tv ?_
      refine cd ?_ ?_
      ·intro h8; have ⟨h8p, h8s⟩ := dup h8; try simp only [Q5] at h8s
       try simp only [Q, Int.ofNat_lt, Int.ofNat_le] at h8p
       refine CWp.skip ?_
       refine CWp.seq ?_
       refine CWp.block ?_
       refine sr ?_
       refine mv ?_
       refine Walk.len sl26 .none rfl rfl ?_
       refine mv ?_
       refine mv ?_
       refine Walk.idx sl26 .none rfl rfl rfl rfl (at_nth (by omega)) rfl ?_
       refine Walk.fieldP fd81_1 .none rfl rfl ?_
       refine Walk.loadP ty79 .none rfl rfl rfl ?_
       refine mv ?_
       refine Walk.idx sl79 .none rfl rfl rfl rfl (at_nth (by omega)) rfl ?_
       refine Walk.loadPA ty90 .none rfl rfl rfl rfl ?_
       refine Walk.call (cr := []) cal80 (spec_l1Ctor_fn (hs.ctor _ (nth_mem (i := i) (by omega)) _ (nth_mem (i := k) (by omega))).1 (hs.ctor _ (nth_mem (i := i) (by omega)) _ (nth_mem (i := k) (by omega))).2) rfl .none rfl rfl (LeL.refl _) trivial rfl rfl rfl ?_
       refine Walk.not .none rfl rfl ?_
       refine mv ?_
       refine sp 61 ?_ ?_
       ·intro h9; have ⟨h9p, h9s⟩ := dup h9; try simp only [Q5] at h9s
        try simp only [Q, Int.ofNat_lt, Int.ofNat_le] at h9p
        refine ps h9 ?_
        refine ps h9 ?_
        refine ps h9 ?_
        refine ps h9 ?_
        refine Walk.pickT .none rfl rfl h9 rfl ?_
        refine tv ?_
        refine cd ?_ ?_
        ·intro h10; have ⟨h10p, h10s⟩ := dup h10; try simp only [Q5] at h10s
         try simp only [Q, Int.ofNat_lt, Int.ofNat_le] at h10p
         refine sr ?_
         refine asg ?_
         refine tv ?_
         refine CWp.ret ?_
         refine ⟨_, _, [], (.cons (.tmp rfl) .nil), (.eqd ?_), ⟨rfl, rfl⟩, HSub.nil, noBox⟩
         all_goals (first | (refine congrArg D.bool (wvs_true ?_ (fun x hx => hg1.2 x (Nat.lt_of_lt_of_le hx ?_))).symm <;> omega) | (refine congrArg D.bool (wvs_len ?_).symm; omega) | (refine congrArg D.bool (wvs_false (i := i) (by omega) ?_).symm; simp [specData, h1s, h1p, h2s, h2p, h3s, h3p, h5s, h5p, h7s, h7p, h8s, h8p, h9s, h9p, h10s, h10p]; done) | (refine congrArg D.bool (wvs_false (i := i) (by omega) ?_).symm; unfold specData; rw [decide_eq_false (p := 1 ≤ (nth w i).ctors.length) (by omega)]; simp; done) | (refine congrArg D.bool (wvs_false (i := i) (by omega) ?_).symm; unfold specData; rw [decide_eq_false (p := (nth w i).ctors.length ≤ 4) (by omega)]; simp; done) | (refine congrArg D.bool (wvs_false (i := i) (by omega) ?_).symm; unfold specData; rw [all_range_false (i := k) (by omega) (by simp [specCtors, Ctor.eta, h1s, h1p, h2s, h2p, h3s, h3p, h5s, h5p, h7s, h7p, h8s, h8p, h9s, h9p, h10s, h10p])]; simp; done))
        ·exact fun h => absurd h (by simp)
       ·intro h9; have ⟨h9p, h9s⟩ := dup h9; try simp only [Q5] at h9s
        try simp only [Q, Int.ofNat_lt, Int.ofNat_le] at h9p
        refine Walk.move (.some rfl rfl h9) rfl rfl ?_
        refine Walk.move (.some rfl rfl h9) rfl rfl ?_
        refine Walk.move (.some rfl rfl h9) rfl rfl ?_
        refine Walk.call (cr := []) cal81 (spec_l1Twice_fn hs (by omega)) rfl (.some rfl rfl h9) rfl rfl (LeL.refl _) trivial rfl rfl rfl ?_
        refine Walk.pickF .none rfl rfl h9 rfl ?_
        refine tv ?_
        refine cd ?_ ?_
        ·intro h11; have ⟨h11p, h11s⟩ := dup h11; try simp only [Q5] at h11s
         try simp only [Q, Int.ofNat_lt, Int.ofNat_le] at h11p
         refine sr ?_
         refine asg ?_
         refine tv ?_
         refine CWp.ret ?_
         refine ⟨_, _, [], (.cons (.tmp rfl) .nil), (.eqd ?_), ⟨rfl, rfl⟩, HSub.nil, noBox⟩
         all_goals (first | (refine congrArg D.bool (wvs_true ?_ (fun x hx => hg1.2 x (Nat.lt_of_lt_of_le hx ?_))).symm <;> omega) | (refine congrArg D.bool (wvs_len ?_).symm; omega) | (refine congrArg D.bool (wvs_false (i := i) (by omega) ?_).symm; simp [specData, h1s, h1p, h2s, h2p, h3s, h3p, h5s, h5p, h7s, h7p, h8s, h8p, h9s, h9p, h11s, h11p]; done) | (refine congrArg D.bool (wvs_false (i := i) (by omega) ?_).symm; unfold specData; rw [decide_eq_false (p := 1 ≤ (nth w i).ctors.length) (by omega)]; simp; done) | (refine congrArg D.bool (wvs_false (i := i) (by omega) ?_).symm; unfold specData; rw [decide_eq_false (p := (nth w i).ctors.length ≤ 4) (by omega)]; simp; done) | (refine congrArg D.bool (wvs_false (i := i) (by omega) ?_).symm; unfold specData; rw [all_range_false (i := k) (by omega) (by simp [specCtors, Ctor.eta, h1s, h1p, h2s, h2p, h3s, h3p, h5s, h5p, h7s, h7p, h8s, h8p, h9s, h9p, h11s, h11p])]; simp; done))
        ·intro h11; have ⟨h11p, h11s⟩ := dup h11; try simp only [Q5] at h11s
         try simp only [Q, Int.ofNat_lt, Int.ofNat_le] at h11p
         refine CWp.skip ?_
         refine CWp.region rfl ?_
         refine mv ?_
         refine Walk.addI .none rfl rfl rfl (by first | (constructor <;> omega) | (constructor <;> simp <;> omega)) ?_
         refine asg ?_
         refine tv ?_
         refine ⟨k + 1, ⟨by omega, upto_succ hg2.2 (by simp [specCtors, Ctor.eta, h1s, h1p, h2s, h2p, h3s, h3p, h5s, h5p, h7s, h7p, h8s, h8p, h9s, h9p, h11s, h11p]; done)⟩, (by omega), Sub.x (by kernel_rfl) (by kernel_rfl) ⟨⟨_, rfl, (LeA.eqi (by first | rfl | (simp; done) | (simp_all; done) | omega))⟩, trivial⟩ (by kernel_rfl) (by kernel_rfl) trivial⟩
      ·intro h8; have ⟨h8p, h8s⟩ := dup h8; try simp only [Q5] at h8s
       try simp only [Q, Int.ofNat_lt, Int.ofNat_le] at h8p
       refine CWp.exit ?_
       refine CWp.region rfl ?_
       refine mv ?_
       refine Walk.addI .none rfl rfl rfl (by first | (constructor <;> omega) | (constructor <;> simp <;> omega)) ?_
       refine asg ?_
       refine tv ?_
       refine ⟨i + 1, ⟨by omega, upto_succ hg1.2 (specData_true (by simp [h1s, h1p, h2s, h2p, h3s, h3p, h5s, h5p, h7s, h7p, h8s, h8p]) (by omega) (by omega) (fun x hx => hg2.2 x (by omega)))⟩, (by omega), Sub.x (by kernel_rfl) (by kernel_rfl) ⟨⟨_, rfl, (LeA.eqi (by first | rfl | (simp; done) | (simp_all; done) | omega))⟩, trivial⟩ (by kernel_rfl) (by kernel_rfl) trivial⟩
  ·intro h2; have ⟨h2p, h2s⟩ := dup h2; try simp only [Q5] at h2s
   try simp only [Q, Int.ofNat_lt, Int.ofNat_le] at h2p
   refine CWp.exit ?_
   refine sr ?_
   refine asg ?_
   refine tv ?_
   refine CWp.ret ?_
   refine ⟨_, _, [], (.cons (.tmp rfl) .nil), (.eqd ?_), ⟨rfl, rfl⟩, HSub.nil, noBox⟩
   all_goals (first | (refine congrArg D.bool (wvs_true ?_ (fun x hx => hg1.2 x (Nat.lt_of_lt_of_le hx ?_))).symm <;> omega) | (refine congrArg D.bool (wvs_len ?_).symm; omega) | (refine congrArg D.bool (wvs_false (i := i) (by omega) ?_).symm; simp [specData, h1s, h1p, h2s, h2p]; done) | (refine congrArg D.bool (wvs_false (i := i) (by omega) ?_).symm; unfold specData; rw [decide_eq_false (p := 1 ≤ (nth w i).ctors.length) (by omega)]; simp; done) | (refine congrArg D.bool (wvs_false (i := i) (by omega) ?_).symm; unfold specData; rw [decide_eq_false (p := (nth w i).ctors.length ≤ 4) (by omega)]; simp; done) | (refine congrArg D.bool (wvs_false (i := i) (by omega) ?_).symm; unfold specData; rw [all_range_false (i := k) (by omega) (by simp [specCtors, Ctor.eta, h1s, h1p, h2s, h2p])]; simp; done))
theorem spec_AllTypes_fn {w : List Data} (hs : WSmall w) : FnD Try.prog 11 [.d (encDatas w)] [] (.d (encTys (if specWorldValid w then allTypesOf w.length else []))) [] := by
 refine Fn.body (fn := Try.f11) (n := 9) rfl rfl rfl rfl rfl (fun w0 F0 own kept hk => ?_)
 refine sr ?_
 refine asg ?_
 refine tv ?_
 refine CWp.seq ?_
 refine sr ?_
 refine mv ?_
 refine Walk.call (cr := []) cal43 (spec_WorldValid_fn hs) rfl .none rfl rfl (LeL.refl _) trivial rfl rfl rfl ?_
 refine Walk.not .none rfl rfl ?_
 refine tv ?_
 refine cd ?_ ?_
 ·intro h1; have ⟨h1p, h1s⟩ := dup h1; try simp only [Q5] at h1s
  try simp only [Q] at h1p
  refine sr ?_
  refine Walk.sliceEmpty sl24 .none rfl ?_
  refine asg ?_
  refine tv ?_
  refine CWp.ret ?_
  refine ⟨_, _, [], (.cons (.tmp rfl) .nil), (.eqd ?_), ⟨rfl, rfl⟩, HSub.nil, noBox⟩
  all_goals (first | rfl | (simp [h1s, h1p]; done) | (simp_all; done) | (simp_all; omega) | omega)
 ·intro h1; have ⟨h1p, h1s⟩ := dup h1; try simp only [Q5] at h1s
  try simp only [Q] at h1p
  refine CWp.skip ?_
  refine sr ?_
  refine mv ?_
  refine Walk.call (cr := []) cal44 (spec_l15Types_fn hs.len) rfl .none rfl rfl (LeL.refl _) trivial rfl rfl rfl ?_
  refine asg ?_
  refine tv ?_
  refine CWp.ret ?_
  refine ⟨_, _, [], (.cons (.tmp rfl) .nil), (.eqd ?_), ⟨rfl, rfl⟩, HSub.nil, noBox⟩
  all_goals (first | rfl | (simp [h1s, h1p]; done) | (simp_all; done) | (simp_all; omega) | omega)
end Go.Proofs.Ytadpcmcifbakoaa
