/-
  THE ABSTRACT WALK AND THE WALKS, part 4 of 6: the parts F22, F26, F23, F27, F28, F29, F40, F14, F16, F42, F50, F51, F52, F53, F54, F55, F56, F57, F58, F70, Val, F7, F8, Wu, F9, F71, F72, F74, F75, F76, F77.
-/
import Derived.Test.YtcnjkjdmbnhcaaaGreatT3
namespace Go.Proofs.YtcnjkjdmbnhcaaaGreat
open Go
set_option linter.unusedSimpArgs false
set_option linter.unusedVariables false
set_option maxRecDepth 100000
set_option maxHeartbeats 4000000
theorem ze2 {p:Pat}{b1 b2 b3:Bool}{k:Int}:FnD Tryz.prog 311 [.agg [.d (.i p.op),.d (.i p.ctor),.d (.i p.n),.d (.i p.m),.d (.i p.var),.d (zaf p.kids)],.d (.bool b1),.d (.bool b2),.d (.bool b3),.d (.i k)] []
  (.d (.bool (decide ((b1=true∨p.ctor=0)∧(b2=true∨p.n=0∧p.m=0)∧(b3=true∨p.var=0)∧(p.kids.length:Int)=k)))) []:=by
 refine bd Tryz.f311 45 [] [1] fun w0 F0 own kept hk=>?_
 refine Walk.box (id:=3005) .none rfl rfl rfl rfl rfl rfl rfl ?_
 refine ev ?_
 refine CWp.regionJ ?_
 refine WRest.join 6 [(16,.d (.bool (decide (b1=true∨p.ctor=0))))] [11,12,13,14,15] ?_ ?_
 refine ev ?_
 refine sq (fun h1 h1p h1s=>?_) fun h1 h1p h1s=>?_
 try simp only[Q,Pat.cs_len] at h1p
 focus (exact jn rfl (LeA.eqb (by(first|rfl|(rw[Bool.eq_iff_iff];simp_all[Pat.cs_len];done)))))
 try simp only[Q,Pat.cs_len] at h1p
 focus (exact jn rfl (LeA.eqb (by(first|rfl|(rw[Bool.eq_iff_iff];simp_all[Pat.cs_len];done)))))
 refine WRest.join 13 [(29,.d (.bool (decide ((b1=true∨p.ctor=0)∧(b2=true∨p.n=0∧p.m=0)))))] [17,18,19,20,21,22,23,24,25,26,27,28] ?_ ?_
 refine ev ?_
 refine sq (fun h2 h2p h2s=>?_) fun h2 h2p h2s=>?_
 try simp only[Q,Pat.cs_len] at h2p
 refine sq (fun h3 h3p h3s=>?_) fun h3 h3p h3s=>?_
 try simp only[Q,Pat.cs_len] at h3p
 focus (exact jn rfl (LeA.eqb (by(first|rfl|(rw[Bool.eq_iff_iff];simp_all[Pat.cs_len];done)))))
 try simp only[Q,Pat.cs_len] at h3p
 refine sq (fun h4 h4p h4s=>?_) fun h4 h4p h4s=>?_
 try simp only[Q,Pat.cs_len] at h4p
 focus (exact jn rfl (LeA.eqb (by(first|rfl|(rw[Bool.eq_iff_iff];simp_all[Pat.cs_len];done)))))
 try simp only[Q,Pat.cs_len] at h4p
 focus (exact jn rfl (LeA.eqb (by(first|rfl|(rw[Bool.eq_iff_iff];simp_all[Pat.cs_len];done)))))
 try simp only[Q,Pat.cs_len] at h2p
 focus (exact jn rfl (LeA.eqb (by(first|rfl|(rw[Bool.eq_iff_iff];simp_all[Pat.cs_len];done)))))
 refine WRest.join 8 [(37,.d (.bool (decide ((b1=true∨p.ctor=0)∧(b2=true∨p.n=0∧p.m=0)∧(b3=true∨p.var=0)))))] [30,31,32,33,34,35,36] ?_ ?_
 refine ev ?_
 refine sq (fun h5 h5p h5s=>?_) fun h5 h5p h5s=>?_
 try simp only[Q,Pat.cs_len] at h5p
 refine sq (fun h6 h6p h6s=>?_) fun h6 h6p h6s=>?_
 try simp only[Q,Pat.cs_len] at h6p
 focus (exact jn rfl (LeA.eqb (by(first|rfl|(rw[Bool.eq_iff_iff];simp_all[Pat.cs_len];done)))))
 try simp only[Q,Pat.cs_len] at h6p
 focus (exact jn rfl (LeA.eqb (by(first|rfl|(rw[Bool.eq_iff_iff];simp_all[Pat.cs_len];done)))))
 try simp only[Q,Pat.cs_len] at h5p
 focus (exact jn rfl (LeA.eqb (by(first|rfl|(rw[Bool.eq_iff_iff];simp_all[Pat.cs_len];done)))))
 refine WRest.join 7 [(44,.d (.bool (decide ((b1=true∨p.ctor=0)∧(b2=true∨p.n=0∧p.m=0)∧(b3=true∨p.var=0)∧(p.kids.length:Int)=k))))] [38,39,40,41,42,43] ?_ ?_
 refine ev ?_
 refine sq (fun h7 h7p h7s=>?_) fun h7 h7p h7s=>?_
 try simp only[Q,Pat.cs_len] at h7p
 focus (exact jn rfl (LeA.eqb (by(first|rfl|(rw[Bool.eq_iff_iff];simp_all[Pat.cs_len];done)))))
 try simp only[Q,Pat.cs_len] at h7p
 focus (exact jn rfl (LeA.eqb (by(first|rfl|(rw[Bool.eq_iff_iff];simp_all[Pat.cs_len];done)))))
 refine WRest.done ?_
 refine ev ?_
 refine rn0 (r1 rfl) (.eqd ?_)
 rotate_left
 all_goals (rfl)
theorem zfJ {p:Pat}{k:Int}:FnD Tryz.prog 311 [.agg [.d (.i p.op),.d (.i p.ctor),.d (.i p.n),.d (.i p.m),.d (.i p.var),.d (zaf p.kids)],.d (.bool false),.d (.bool false),.d (.bool false),.d (.i k)] []
  (.d (.bool (decide (p.ctor=0∧(p.n=0∧p.m=0)∧p.var=0∧(p.kids.length:Int)=k)))) []:=by
 have:=ze2 (p:=p) (b1:=false) (b2:=false) (b3:=false) (k:=k)
 simpa only[Bool.false_eq_true,false_or] using this
theorem zfK {p:Pat}{k:Int}:FnD Tryz.prog 311 [.agg [.d (.i p.op),.d (.i p.ctor),.d (.i p.n),.d (.i p.m),.d (.i p.var),.d (zaf p.kids)],.d (.bool false),.d (.bool false),.d (.bool true),.d (.i k)] []
  (.d (.bool (decide (p.ctor=0∧(p.n=0∧p.m=0)∧(p.kids.length:Int)=k)))) []:=by
 have:=ze2 (p:=p) (b1:=false) (b2:=false) (b3:=true) (k:=k)
 simpa only[Bool.false_eq_true,false_or,true_or,true_and] using this
theorem zkd {p:Pat}{k:Int}:FnD Tryz.prog 311 [.agg [.d (.i p.op),.d (.i p.ctor),.d (.i p.n),.d (.i p.m),.d (.i p.var),.d (zaf p.kids)],.d (.bool false),.d (.bool true),.d (.bool false),.d (.i k)] []
  (.d (.bool (decide (p.ctor=0∧p.var=0∧(p.kids.length:Int)=k)))) []:=by
 have:=ze2 (p:=p) (b1:=false) (b2:=true) (b3:=false) (k:=k)
 simpa only[Bool.false_eq_true,false_or,true_or,true_and] using this
theorem zpl {p:Pat}{k:Int}:FnD Tryz.prog 311 [.agg [.d (.i p.op),.d (.i p.ctor),.d (.i p.n),.d (.i p.m),.d (.i p.var),.d (zaf p.kids)],.d (.bool true),.d (.bool false),.d (.bool false),.d (.i k)] []
  (.d (.bool (decide ((p.n=0∧p.m=0)∧p.var=0∧(p.kids.length:Int)=k)))) []:=by
 have:=ze2 (p:=p) (b1:=true) (b2:=false) (b3:=false) (k:=k)
 simpa only[Bool.false_eq_true,false_or,true_or,true_and] using this
theorem zex {v:Int}:FnD Tryz.prog 216 [.d (.i v)] [] (.d (.bool (zas v 0 5))) []:=by
 refine bd Tryz.f216 5 [] [] fun w0 F0 own kept hk=>?_
 refine wc zfD (zbJ) rfl rfl ?_
 refine ev ?_
 refine rn0 (r1 rfl) (.eqd ?_)
 rotate_left
 all_goals (rfl)
theorem zee {w:List Data} (hw:WT w){a k:Int} (ht:TyIn w.length ⟨a,k⟩):FnD Tryz.prog 129 [.d (zao w),.agg [.d (.i a),.d (.i k)]] [] (.d (zcF (zaA w ⟨a,k⟩))) []:=by
 rcases ht with ha|⟨d,hd,hlt⟩
 ·simp only at ha;subst ha;rw[zgy];exact ziM
 ·simp only at hd;subst hd;rw[zhw];exact zlj hw hlt
theorem zda {w:List Data} (hw:WT w){a k c:Int} (ht:TyIn w.length ⟨a,k⟩) (hc:c∈zaA w ⟨a,k⟩):FnD Tryz.prog 130 [.d (zao w),.agg [.d (.i a),.d (.i k)],.d (.i c)] [] (.d (zbw (zaj w ⟨a,k⟩ c))) []:=by
 obtain⟨d,rfl,h1,h2⟩:=zcW ht hc
 exact zkq hw h1 h2
theorem ziG {w:List Data} (hw:WT w){a k:Int}{p:Pat} (ht:TyIn w.length ⟨a,k⟩):
  FnD Tryz.prog 284 [.d (zao w),.agg [.d (.i a),.d (.i k)],.agg [.d (.i p.op),.d (.i p.ctor),.d (.i p.n),.d (.i p.m),.d (.i p.var),.d (zaf p.kids)]] [] (.tup [.d (zbw (zcO w ⟨a,k⟩ p)),.d (.bool (okP w ⟨a,k⟩ p))]) []:=by
 have hcl:=zme hw ht
 have ty4:p.op=4→p.ctor∉zaA w ⟨a,k⟩→zcO w ⟨a,k⟩ p=[]:=fun h4 hm=>by unfold zcO;rw[if_pos ⟨h4,hm⟩]
 have ty4':p.op=4→p.ctor∈zaA w ⟨a,k⟩→zcO w ⟨a,k⟩ p=zaj w ⟨a,k⟩ p.ctor:=fun h4 hm=>by unfold zcO zag;rw[if_neg (fun h=>h.2 hm),if_pos h4]
 have ty5:p.op=5→zcO w ⟨a,k⟩ p=[⟨a,k⟩,⟨a,k⟩]:=fun h5=>by unfold zcO zag;rw[if_neg (by omega),if_neg (by omega),if_pos h5]
 have ty6:p.op=6→zcO w ⟨a,k⟩ p=[⟨a,k⟩]:=fun h6=>by unfold zcO zag;rw[if_neg (by omega),if_neg (by omega),if_neg (by omega),if_pos h6]
 have ty0:¬p.op=4→¬p.op=5→¬p.op=6→zcO w ⟨a,k⟩ p=[]:=fun h4 h5 h6=>by unfold zcO zag;rw[if_neg (fun h=>h4 h.1),if_neg h4,if_neg h5,if_neg h6]
 have ln4:p.op=4→(zag w ⟨a,k⟩ p).length=(zaj w ⟨a,k⟩ p.ctor).length:=fun h4=>by unfold zag;rw[if_pos h4]
 have ln5:p.op=5→(zag w ⟨a,k⟩ p).length=2:=fun h5=>by unfold zag;rw[if_neg (by omega),if_pos h5];rfl
 have ln6:p.op=6→(zag w ⟨a,k⟩ p).length=1:=fun h6=>by unfold zag;rw[if_neg (by omega),if_neg (by omega),if_pos h6];rfl
 have ln0:¬p.op=4→¬p.op=5→¬p.op=6→(zag w ⟨a,k⟩ p).length=0:=fun h4 h5 h6=>by unfold zag;rw[if_neg h4,if_neg h5,if_neg h6];rfl
 have okI:∀b:Bool,(b=true↔((((p.op=2∨p.op=6)→0≤p.var∧p.var≤5)∧(¬(p.op=2∨p.op=6)→p.var=0)∧(p.op≠3→p.n=0∧p.m=0)∧(p.op≠4→p.ctor=0)∧
   (p.op=1∨p.op=2∨p.op=5∨p.op=6∨(p.op=3∧a = -1∧0≤p.n∧p.n≤p.m∧p.m≤9)∨(p.op=4∧p.ctor∈zaA w ⟨a,k⟩)))∧p.kids.length=(zag w ⟨a,k⟩ p).length))→b=okP w ⟨a,k⟩ p:=fun b h=>by
  rw[Bool.eq_iff_iff,h];unfold okP ownP;simp only[Bool.and_eq_true,decide_eq_true_eq]
 by_cases hmem:p.ctor∈zaA w ⟨a,k⟩
 ·have hargs:=zda hw ht hmem
  have hal:(zaj w ⟨a,k⟩ p.ctor).length≤1000000000000:=by
   obtain⟨d,rfl,h1,h2⟩:=zcW ht hmem
   exact zh5 hw h1 h2
  simp only[hmem,and_true] at okI
  refine bd Tryz.f284 87 [] [5] fun w0 F0 own kept hk=>?_
  refine Walk.box (id:=3004) .none rfl rfl rfl rfl rfl rfl rfl ?_
  refine Walk.box (id:=3005) .none rfl rfl rfl rfl rfl rfl rfl ?_
  refine ev ?_
  refine sq (fun h1 h1p h1s=>?_) fun h1 h1p h1s=>?_
  try simp only[Q] at h1p
  refine wc zdV (zfJ) rfl rfl ?_
  refine ev ?_
  refine rn0 (r2 rfl rfl) (.tup (.cons (.nild ?_) (.cons (.eqd ?_) .nil)))
  rotate_left 2
  try simp only[Q] at h1p
  refine sq (fun h2 h2p h2s=>?_) fun h2 h2p h2s=>?_
  try simp only[Q] at h2p
  refine CWp.regionJ ?_
  refine WRest.join 7 [(23,.d (.bool (decide ((p.ctor=0∧(p.n=0∧p.m=0)∧(p.kids.length:Int)=0)∧0≤p.var∧p.var≤5))))] [17,18,19,20,21,22] ?_ ?_
  refine ev ?_
  refine wc zdV (zfK) rfl rfl ?_
  refine ev ?_
  refine sq (fun h3 h3p h3s=>?_) fun h3 h3p h3s=>?_
  try simp only[Q] at h3p
  refine Walk.call (cr:=[]) zk1 (zex) rfl (.some rfl rfl h3) rfl rfl (LeL.refl _) trivial rfl rfl rfl ?_
  refine evs [] [(19,true)] ?_ ⟨⟨_,rfl,h3⟩,trivial⟩
  exact jn rfl (LeA.eqb (by(rw[Bool.eq_iff_iff];simp only[decide_eq_true_eq,zas,Bool.and_eq_true,Bool.false_eq_true,false_iff,true_iff];omega)))
  try simp only[Q] at h3p
  exact jn rfl (LeA.eqb (by(rw[Bool.eq_iff_iff];simp only[decide_eq_true_eq,zas,Bool.and_eq_true,Bool.false_eq_true,false_iff,true_iff];omega)))
  refine WRest.done ?_
  refine ev ?_
  refine rn0 (r2 rfl rfl) (.tup (.cons (.nild ?_) (.cons (.eqd ?_) .nil)))
  rotate_left 2
  try simp only[Q] at h2p
  refine sq (fun h4 h4p h4s=>?_) fun h4 h4p h4s=>?_
  try simp only[Q] at h4p
  refine sq (fun h5 h5p h5s=>?_) fun h5 h5p h5s=>?_
  try simp only[Q] at h5p
  refine Walk.call (cr:=[]) zdV (zkd) rfl (.some rfl rfl h5) rfl rfl (LeL.refl _) trivial rfl rfl rfl ?_
  refine evd [] [(29,true)] ?_ ⟨⟨_,rfl,h5⟩,trivial⟩
  refine sq (fun h6 h6p h6s=>?_) fun h6 h6p h6s=>?_
  try simp only[Q] at h6p
  refine sq (fun h7 h7p h7s=>?_) fun h7 h7p h7s=>?_
  try simp only[Q] at h7p
  refine sq (fun h8 h8p h8s=>?_) fun h8 h8p h8s=>?_
  try simp only[Q] at h8p
  refine dr ?_
  refine rn0 (r2 rfl rfl) (.tup (.cons (.nild ?_) (.cons (.eqd ?_) .nil)))
  rotate_left 2
  try simp only[Q] at h8p
  refine dr ?_
  refine rn0 (r2 rfl rfl) (.tup (.cons (.nild ?_) (.cons (.eqd ?_) .nil)))
  rotate_left 2
  try simp only[Q] at h7p
  refine sqF ?_
  refine dr ?_
  refine rn0 (r2 rfl rfl) (.tup (.cons (.nild ?_) (.cons (.eqd ?_) .nil)))
  rotate_left 2
  try simp only[Q] at h6p
  refine sqF ?_
  refine sqF ?_
  refine dr ?_
  refine rn0 (r2 rfl rfl) (.tup (.cons (.nild ?_) (.cons (.eqd ?_) .nil)))
  rotate_left 2
  try simp only[Q] at h5p
  refine sqF ?_
  refine sqF ?_
  refine sqF ?_
  refine dr ?_
  refine rn0 (r2 rfl rfl) (.tup (.cons (.nild ?_) (.cons (.eqd ?_) .nil)))
  rotate_left 2
  try simp only[Q] at h4p
  refine sq (fun h9 h9p h9s=>?_) fun h9 h9p h9s=>?_
  try simp only[Q] at h9p
  refine wc zkX (zee hw ht) rfl rfl ?_
  refine evd [] [] ?_
  refine wc zqD (zev hcl) rfl rfl ?_
  refine evd [] [] ?_
  refine dr ?_
  refine sq (fun h10 h10p h10s=>?_) fun h10 h10p h10s=>?_
  try simp only[Q] at h10p
  exfalso;simp_all
  try simp only[Q] at h10p
  refine wc ziU (hargs) rfl rfl ?_
  refine ev ?_
  refine wc zdV (zpl) rfl rfl ?_
  refine ev ?_
  refine rn0 (r2 rfl rfl) (.tup (.cons (.eqd ?_) (.cons (.eqd ?_) .nil)))
  rotate_left 2
  try simp only[Q] at h9p
  refine sq (fun h11 h11p h11s=>?_) fun h11 h11p h11s=>?_
  try simp only[Q] at h11p
  refine Walk.sliceLit zbd tz33 rfl (by decide) (ks:=[0,1]) (xs:=[_,_]) rfl rfl (by decide) (by decide) .none rfl rfl rfl rfl ?_
  refine evd [] [] ?_
  refine wc zdV (zfJ) rfl rfl ?_
  refine evd [] [] ?_
  refine dr ?_
  refine rn0 (r2 rfl rfl) (.tup (.cons (.eqd ?_) (.cons (.eqd ?_) .nil)))
  rotate_left 2
  try simp only[Q] at h11p
  refine sq (fun h12 h12p h12s=>?_) fun h12 h12p h12s=>?_
  try simp only[Q] at h12p
  refine Walk.sliceLit zbd tz33 rfl (by decide) (ks:=[0]) (xs:=[_]) rfl rfl (by decide) (by decide) .none rfl rfl rfl rfl ?_
  refine evd [] [] ?_
  refine wc zdV (zfK) rfl rfl ?_
  refine evd [] [] ?_
  refine sq (fun h13 h13p h13s=>?_) fun h13 h13p h13s=>?_
  try simp only[Q] at h13p
  refine Walk.call (cr:=[]) zk1 (zex) rfl (.some rfl rfl h13) rfl rfl (LeL.refl _) trivial rfl rfl rfl ?_
  refine evd [] [(82,true)] ?_ ⟨⟨_,rfl,h13⟩,trivial⟩
  refine dr ?_
  refine rn0 (r2 rfl rfl) (.tup (.cons (.eqd ?_) (.cons (.eqd ?_) .nil)))
  rotate_left 2
  try simp only[Q] at h13p
  refine dr ?_
  refine rn0 (r2 rfl rfl) (.tup (.cons (.eqd ?_) (.cons (.eqd ?_) .nil)))
  rotate_left 2
  try simp only[Q] at h12p
  refine rn0 (r2 rfl rfl) (.tup (.cons (.nild ?_) (.cons (.eqd ?_) .nil)))
  rotate_left 2
  all_goals (first|(refine congrArg D.bool (okI _ ?_);(try simp only[decide_eq_true_eq,Bool.false_eq_true,zas,Bool.and_eq_true,List.length_map,true_iff,false_iff]);omega)|(rw[ty0 (by omega) (by omega) (by omega)];first|done|rfl)|(rw[ty5 (by omega)];first|done|rfl)|(rw[ty6 (by omega)];first|done|rfl)|(rw[ty4' (by omega) hmem];first|done|rfl))
 ·simp only[hmem,and_false,or_false] at okI
  refine bd Tryz.f284 87 [] [5] fun w0 F0 own kept hk=>?_
  refine Walk.box (id:=3004) .none rfl rfl rfl rfl rfl rfl rfl ?_
  refine Walk.box (id:=3005) .none rfl rfl rfl rfl rfl rfl rfl ?_
  refine ev ?_
  refine sq (fun h1 h1p h1s=>?_) fun h1 h1p h1s=>?_
  try simp only[Q] at h1p
  refine wc zdV (zfJ) rfl rfl ?_
  refine ev ?_
  refine rn0 (r2 rfl rfl) (.tup (.cons (.nild ?_) (.cons (.eqd ?_) .nil)))
  rotate_left 2
  try simp only[Q] at h1p
  refine sq (fun h2 h2p h2s=>?_) fun h2 h2p h2s=>?_
  try simp only[Q] at h2p
  refine CWp.regionJ ?_
  refine WRest.join 7 [(23,.d (.bool (decide ((p.ctor=0∧(p.n=0∧p.m=0)∧(p.kids.length:Int)=0)∧0≤p.var∧p.var≤5))))] [17,18,19,20,21,22] ?_ ?_
  refine ev ?_
  refine wc zdV (zfK) rfl rfl ?_
  refine ev ?_
  refine sq (fun h3 h3p h3s=>?_) fun h3 h3p h3s=>?_
  try simp only[Q] at h3p
  refine Walk.call (cr:=[]) zk1 (zex) rfl (.some rfl rfl h3) rfl rfl (LeL.refl _) trivial rfl rfl rfl ?_
  refine evs [] [(19,true)] ?_ ⟨⟨_,rfl,h3⟩,trivial⟩
  exact jn rfl (LeA.eqb (by(rw[Bool.eq_iff_iff];simp only[decide_eq_true_eq,zas,Bool.and_eq_true,Bool.false_eq_true,false_iff,true_iff];omega)))
  try simp only[Q] at h3p
  exact jn rfl (LeA.eqb (by(rw[Bool.eq_iff_iff];simp only[decide_eq_true_eq,zas,Bool.and_eq_true,Bool.false_eq_true,false_iff,true_iff];omega)))
  refine WRest.done ?_
  refine ev ?_
  refine rn0 (r2 rfl rfl) (.tup (.cons (.nild ?_) (.cons (.eqd ?_) .nil)))
  rotate_left 2
  try simp only[Q] at h2p
  refine sq (fun h4 h4p h4s=>?_) fun h4 h4p h4s=>?_
  try simp only[Q] at h4p
  refine sq (fun h5 h5p h5s=>?_) fun h5 h5p h5s=>?_
  try simp only[Q] at h5p
  refine Walk.call (cr:=[]) zdV (zkd) rfl (.some rfl rfl h5) rfl rfl (LeL.refl _) trivial rfl rfl rfl ?_
  refine evd [] [(29,true)] ?_ ⟨⟨_,rfl,h5⟩,trivial⟩
  refine sq (fun h6 h6p h6s=>?_) fun h6 h6p h6s=>?_
  try simp only[Q] at h6p
  refine sq (fun h7 h7p h7s=>?_) fun h7 h7p h7s=>?_
  try simp only[Q] at h7p
  refine sq (fun h8 h8p h8s=>?_) fun h8 h8p h8s=>?_
  try simp only[Q] at h8p
  refine dr ?_
  refine rn0 (r2 rfl rfl) (.tup (.cons (.nild ?_) (.cons (.eqd ?_) .nil)))
  rotate_left 2
  try simp only[Q] at h8p
  refine dr ?_
  refine rn0 (r2 rfl rfl) (.tup (.cons (.nild ?_) (.cons (.eqd ?_) .nil)))
  rotate_left 2
  try simp only[Q] at h7p
  refine sqF ?_
  refine dr ?_
  refine rn0 (r2 rfl rfl) (.tup (.cons (.nild ?_) (.cons (.eqd ?_) .nil)))
  rotate_left 2
  try simp only[Q] at h6p
  refine sqF ?_
  refine sqF ?_
  refine dr ?_
  refine rn0 (r2 rfl rfl) (.tup (.cons (.nild ?_) (.cons (.eqd ?_) .nil)))
  rotate_left 2
  try simp only[Q] at h5p
  refine sqF ?_
  refine sqF ?_
  refine sqF ?_
  refine dr ?_
  refine rn0 (r2 rfl rfl) (.tup (.cons (.nild ?_) (.cons (.eqd ?_) .nil)))
  rotate_left 2
  try simp only[Q] at h4p
  refine sq (fun h9 h9p h9s=>?_) fun h9 h9p h9s=>?_
  try simp only[Q] at h9p
  refine wc zkX (zee hw ht) rfl rfl ?_
  refine evd [] [] ?_
  refine wc zqD (zev hcl) rfl rfl ?_
  refine evd [] [] ?_
  refine dr ?_
  refine sq (fun h10 h10p h10s=>?_) fun h10 h10p h10s=>?_
  try simp only[Q] at h10p
  refine rn0 (r2 rfl rfl) (.tup (.cons (.nild ?_) (.cons (.eqd ?_) .nil)))
  rotate_left 2
  try simp only[Q] at h10p
  exfalso;simp_all
  try simp only[Q] at h9p
  refine sq (fun h11 h11p h11s=>?_) fun h11 h11p h11s=>?_
  try simp only[Q] at h11p
  refine Walk.sliceLit zbd tz33 rfl (by decide) (ks:=[0,1]) (xs:=[_,_]) rfl rfl (by decide) (by decide) .none rfl rfl rfl rfl ?_
  refine evd [] [] ?_
  refine wc zdV (zfJ) rfl rfl ?_
  refine evd [] [] ?_
  refine dr ?_
  refine rn0 (r2 rfl rfl) (.tup (.cons (.eqd ?_) (.cons (.eqd ?_) .nil)))
  rotate_left 2
  try simp only[Q] at h11p
  refine sq (fun h12 h12p h12s=>?_) fun h12 h12p h12s=>?_
  try simp only[Q] at h12p
  refine Walk.sliceLit zbd tz33 rfl (by decide) (ks:=[0]) (xs:=[_]) rfl rfl (by decide) (by decide) .none rfl rfl rfl rfl ?_
  refine evd [] [] ?_
  refine wc zdV (zfK) rfl rfl ?_
  refine evd [] [] ?_
  refine sq (fun h13 h13p h13s=>?_) fun h13 h13p h13s=>?_
  try simp only[Q] at h13p
  refine Walk.call (cr:=[]) zk1 (zex) rfl (.some rfl rfl h13) rfl rfl (LeL.refl _) trivial rfl rfl rfl ?_
  refine evd [] [(82,true)] ?_ ⟨⟨_,rfl,h13⟩,trivial⟩
  refine dr ?_
  refine rn0 (r2 rfl rfl) (.tup (.cons (.eqd ?_) (.cons (.eqd ?_) .nil)))
  rotate_left 2
  try simp only[Q] at h13p
  refine dr ?_
  refine rn0 (r2 rfl rfl) (.tup (.cons (.eqd ?_) (.cons (.eqd ?_) .nil)))
  rotate_left 2
  try simp only[Q] at h12p
  refine rn0 (r2 rfl rfl) (.tup (.cons (.nild ?_) (.cons (.eqd ?_) .nil)))
  rotate_left 2
  all_goals (first|(refine congrArg D.bool (okI _ ?_);(try simp only[decide_eq_true_eq,Bool.false_eq_true,zas,Bool.and_eq_true,List.length_map,true_iff,false_iff]);omega)|(rw[ty0 (by omega) (by omega) (by omega)];first|done|rfl)|(rw[ty5 (by omega)];first|done|rfl)|(rw[ty6 (by omega)];first|done|rfl)|(rw[ty4 (by omega) hmem];first|done|rfl))
theorem zry {t u:Vt}:t=u↔t.var=u.var∧t.ty.data=u.ty.data∧t.ty.index=u.ty.index:=by
 rcases t with ⟨a,b,c⟩;rcases u with ⟨d,e,f⟩;simp
def zqa (l:List Vt) (v:Vt):Int:=idxF (fun x=>decide (v=x)) l 0
theorem zjs {l:List Vt}{v:Vt} (h:l.length≤1000000000000):FnD Tryz.prog 289 [.d (zcZ l),.agg [.d (.i v.var),.d (.i v.ty.data),.d (.i v.ty.index)]] [] (.d (.i (zqa l v))) []:=by
 refine bd Tryz.f289 19 [16] [] fun w0 F0 own kept hk=>?_
 refine Walk.box (id:=3003) .none rfl rfl rfl rfl rfl rfl rfl ?_
 refine evs [16] [] ?_
 refine CWp.loopX (ι:=List (Vt)×List (Vt)) hk (fun x=>[(8,.d (.i (x.1.length:Int)))]) [4,5,9,10,11,12,13,14,15,16,17,18] (fun x=>[]) (fun x=>x.1++x.2=l∧idxF (fun x=>decide (v=x)) x.2 x.1.length=idxF (fun x=>decide (v=x)) l 0) (fun x=>x.2.length) ([],l) ⟨by simp,rfl⟩ ⟨⟨_,rfl,LeA.eqi ?_⟩,trivial⟩ trivial (fun x=>rfl) (fun x hg1=>?_)
 focus (first|rfl|(simp;done)|(simp_all;done)|omega)
 obtain⟨pre,rest⟩:=x
 dsimp only at hg1 ⊢
 refine evc [16] [] ?_
 refine sq (fun h1 h1p h1s=>?_) fun h1 h1p h1s=>?_
 try simp only[Q] at h1p
 rcases rest with _|⟨y,rest⟩
 ·exfalso;simp_all
 refine Walk.idx zdl .none rfl rfl rfl rfl (zaV hg1.1) rfl ?_
 refine evd [16] [] ?_
 refine Walk.eqV2 zuq .none rfl rfl rfl rfl rfl ?_
 refine dr ?_
 refine sq (fun h2 h2p h2s=>?_) fun h2 h2p h2s=>?_
 try simp only[Q] at h2p
 refine rn0 (r1 rfl) (.eqd ?_)
 rotate_left
 try simp only[Q] at h2p
 refine ar ?_
 refine Exists.intro ((pre++[y],rest)) ⟨⟨(by have hz:=hg1.1;rw[←hz];simp),(by rw[←hg1.2];simp[idxF];simp_all[zry])⟩,(by simp),sx ⟨⟨_,rfl,LeA.eqi ?_⟩,trivial⟩ trivial⟩
 focus (first|rfl|(simp;done)|(simp_all;done)|omega)
 try simp only[Q] at h1p
 have hrest:rest=[]:=by
  rcases rest with _|⟨a,b⟩
  ·rfl
  ·exfalso;have hz:=congrArg List.length (hg1.1);simp only[List.length_append,List.length_cons,List.length_map] at hz;omega
 subst hrest
 refine rn0 (r1 rfl) (.eqd ?_)
 rotate_left
 all_goals (unfold zqa;rw[←hg1.2];simp_all[idxF,zry])
theorem zeT {l:List Vt}{v:Vt} (h:l.length≤1000000000000):FnD Tryz.prog 241 [.d (zcZ l),.agg [.d (.i v.var),.d (.i v.ty.data),.d (.i v.ty.index)]] [] (.d (.bool (decide (v∈l)))) []:=by
 refine bd Tryz.f241 9 [] [] fun w0 F0 own kept hk=>?_
 refine Walk.box (id:=3003) .none rfl rfl rfl rfl rfl rfl rfl ?_
 refine ev ?_
 refine wc ztQ (zjs h) rfl rfl ?_
 refine ev ?_
 refine rn0 (r1 rfl) (.eqd ?_)
 rotate_left
 all_goals (refine congrArg D.bool ?_;rw[show zqa l v=idxF (fun x=>decide (v=x)) l 0 from rfl,zeE];simp[List.any_eq,eq_comm])
theorem zhE {xs:List Vt}{f:Nat}{caps:List AV}{hp:Hp}{p:Vt→Bool} (hs:xs.length≤1000000000000) (hcal:Callee Tryz.prog f)
  (hf:∀t∈xs,FnD Tryz.prog f ([.agg [.d (.i t.var),.d (.i t.ty.data),.d (.i t.ty.index)]]++caps) hp (.d (.bool (p t))) []) (k1:subH hp hp) (k2:zdP hp=true) (k3:zat hp [] (.d .nilp) []=true):
  FnD Tryz.prog 325 [.d (zcZ xs),.fn f caps] hp (.d (.i (idxF p xs 0))) []:=by
 refine bd Tryz.f325 19 [] [] fun w0 F0 own kept hk=>?_
 refine CWp.loopX (ι:=List (Vt)×List (Vt)) hk (fun x=>[(8,.d (.i (x.1.length:Int)))]) [4,5,9,10,11,12,13,14,15,16,17,18] (fun x=>[]) (fun x=>x.1++x.2=xs∧idxF p x.2 x.1.length=idxF p xs 0) (fun x=>x.2.length) ([],xs) ⟨by simp,rfl⟩ ⟨⟨_,rfl,LeA.eqi ?_⟩,trivial⟩ trivial (fun x=>zgf hp) (fun x hg1=>?_)
 focus (first|rfl|(simp;done)|(simp_all;done)|omega)
 obtain⟨pre,rest⟩:=x
 dsimp only at hg1 ⊢
 refine evc [] [] ?_
 refine sq (fun h1 h1p h1s=>?_) fun h1 h1p h1s=>?_
 try simp only[Q] at h1p
 rcases rest with _|⟨y,rest⟩
 ·exfalso;simp_all
 refine Walk.idx zdl .none rfl rfl rfl rfl (zaV hg1.1) rfl ?_
 refine ev ?_
 refine Walk.callV (cr:=[]) hcal (hf y (by rw[←hg1.1];simp)) rfl .none rfl rfl rfl (LeL.refl _) k1 k2 (zc0 k3 _) rfl ?_
 refine tv ?_
 refine sq (fun h2 h2p h2s=>?_) fun h2 h2p h2s=>?_
 try simp only[Q] at h2p
 focus (refine rn [] (r1 rfl) (.eqd ?_) ⟨rfl,rfl⟩ (fun _ _ h=>h) (fun _ h=>h);all_goals (rw[←hg1.2];simp[idxF,h1s,h1p,h2s,h2p]))
 try simp only[Q] at h2p
 refine ar ?_
 refine Exists.intro ((pre++[y],rest)) ⟨⟨(by have hz:=hg1.1;rw[←hz];simp),(by rw[←hg1.2];simp[idxF,h2s])⟩,(by simp),Sub.x (by kernel_rfl) (by kernel_rfl) ⟨⟨_,rfl,LeA.eqi ?_⟩,trivial⟩ (by simp) (by simp[zdp]) trivial⟩
 focus (first|rfl|(simp;done)|(simp_all;done)|omega)
 try simp only[Q] at h1p
 have hrest:rest=[]:=by
  rcases rest with _|⟨a,b⟩
  ·rfl
  ·exfalso;have hz:=congrArg List.length (hg1.1);simp only[List.length_append,List.length_cons,List.length_map] at hz;omega
 subst hrest
 focus (refine rn [] (r1 rfl) (.eqd ?_) ⟨rfl,rfl⟩ (fun _ _ h=>h) (fun _ h=>h);all_goals (rw[←hg1.2];simp[idxF,h1s,h1p]))
theorem zgt {xs:List Vt}{f:Nat}{caps:List AV}{hp:Hp}{p:Vt→Bool} (hs:xs.length≤1000000000000) (hcal:Callee Tryz.prog f)
  (hf:∀t∈xs,FnD Tryz.prog f ([.agg [.d (.i t.var),.d (.i t.ty.data),.d (.i t.ty.index)]]++caps) hp (.d (.bool (p t))) []) (k1:subH hp hp) (k2:zdP hp=true) (k3:zat hp [] (.d .nilp) []=true):
  FnD Tryz.prog 312 [.d (zcZ xs),.fn f caps] hp (.d (.bool (xs.any p))) []:=by
 refine bd Tryz.f312 9 [] [] fun w0 F0 own kept hk=>?_
 refine Walk.call (cr:=[]) ztV (zhE hs hcal hf k1 k2 k3) rfl .none rfl rfl (LeL.refl _) k1 k2 (zc0 k3 _) rfl ?_
 refine ev ?_
 refine rn [] (r1 rfl) (.eqd ?_) ⟨rfl,rfl⟩ (fun _ _ h=>h) (fun _ h=>h)
 rotate_left
 all_goals (exact congrArg D.bool (zeE p xs 0))
theorem zi8 {b:List Vt}{v:Vt} (h:b.length≤1000000000000):FnD Tryz.prog 313 [.agg [.d (.i v.var),.d (.i v.ty.data),.d (.i v.ty.index)],.ref 3003 0] [(3003,some (.box [.d (zcZ b)]))] (.d (.bool (!decide (v∈b)))) []:=by
 refine bd Tryz.f313 8 [] [] fun w0 F0 own kept hk=>?_
 refine Walk.box (id:=3001) .none rfl rfl rfl rfl rfl rfl rfl ?_
 refine ev ?_
 refine wc zqI (zeT h) rfl rfl ?_
 refine ev ?_
 refine rn [] (r1 rfl) (.eqd ?_) ⟨rfl,rfl⟩ (SubH.get ⟨rfl,trivial⟩) (fun _ h=>h)
 rotate_left
 all_goals (rfl)
theorem zgM {x y:List Vt} (hx:x.length≤1000000000000) (hy:y.length≤1000000000000):FnD Tryz.prog 288 [.d (zcZ x),.d (zcZ y)] [] (.d (.bool (zd4 x y))) []:=by
 refine bd Tryz.f288 16 [] [] fun w0 F0 own kept hk=>?_
 refine Walk.box (id:=3003) .none rfl rfl rfl rfl rfl rfl rfl ?_
 refine ev ?_
 refine sq (fun h1 h1p h1s=>?_) fun h1 h1p h1s=>?_
 try simp only[Q] at h1p
 refine Walk.closure (xs:=[_]) rfl (.some rfl rfl h1) rfl rfl ?_
 refine Walk.call (cr:=[]) ztT (zgt (p:=fun v=> !decide (v∈y)) hx ztU (fun t _=>zi8 hy) ⟨rfl,trivial⟩ rfl rfl) rfl (.some rfl rfl h1) rfl rfl (LeL.refl _) ⟨rfl,trivial⟩ rfl rfl rfl ?_
 refine evs [] [(10,true)] ?_ ⟨⟨_,rfl,h1⟩,trivial⟩
 refine rn0 (r1 rfl) (.eqd ?_)
 rotate_left
 try simp only[Q] at h1p
 refine rn0 (r1 rfl) (.eqd ?_)
 rotate_left
 all_goals (refine congrArg D.bool ?_;unfold zd4;first|(simp_all;done)|(simp_all;intro hz;omega))
def metA (s:List Int):List AV:=(List.range 6).map fun(i:Nat)=> .d (.bool (decide ((i:Int)∈s)))
theorem zoJ {s:List Int}{v:Int} (h0:0≤v) (h1:v≤5):(metA s)[v.toNat]?=some (.d (.bool (decide (v∈s)))):=by
 unfold metA
 rw[List.getElem?_map,List.getElem?_range (by omega)]
 simp only[Option.map_some]
 rw[Int.toNat_of_nonneg h0]
theorem zoK {s:List Int}{v:Int} (h0:0≤v) (h1:v≤5):putC (metA s) v.toNat [.d (.bool true)]=some (metA (s++[v])):=by
 have e:v=0∨v=1∨v=2∨v=3∨v=4∨v=5:=by omega
 rcases e with rfl|rfl|rfl|rfl|rfl|rfl<;>simp[metA,putC,List.range_succ]
theorem zrc (t:Ty) (p:Pat):(zaX t p).length≤1:=by unfold zaX;split<;>simp
theorem zno:∀ {a b:List Int},a.Nodup→(∀x∈a,x∈b)→a.length≤b.length
 | [],b,_,_=>by simp
 |x::r,b,hn,hs=>by
  have hn':=List.nodup_cons.1 hn
  have hx:=hs x (by simp)
  have h:=zno (a:=r) (b:=b.erase x) hn'.2 (fun y hy=>by
   have hne:y≠x:=fun e=>hn'.1 (e ▸ hy)
   exact(List.mem_erase_of_ne hne).2 (hs y (by simp[hy])))
  rw[List.length_erase_of_mem hx] at h
  have:=List.length_pos_of_mem hx
  simp only[List.length_cons];omega
def InR (l:List Vt):Prop:=∀v∈l,0≤v.var∧v.var≤5
theorem zre {l:List Vt} (h:InR l) (hn:zcN l=true):l.length≤6:=by
 unfold zcN at hn
 have h1:=of_decide_eq_true hn
 have h2:∀x∈l.map Vt.var,x∈[(0:Int),1,2,3,4,5]:=fun x hx=>by
  obtain⟨v,hv,rfl⟩:=List.mem_map.1 hx
  have:=h v hv
  simp only[List.mem_cons,List.not_mem_nil,or_false];omega
 have:=zno h1 h2
 simpa using this
theorem zkJ {g:Ty→Pat→Int→Option (List Vt)×Int}{or:Bool} (hg:∀t p c l,(g t p c).1=some l→InR l):∀(a:List Ty) (b:List Pat) (i:Nat) (acc:List Vt) (c:Int) (l:List Vt),InR acc→(zby g or a b i acc c).1=some l→InR l
 | [],b,i,acc,c,l,ha,h=>by simp only[zby,Option.some.injEq] at h;subst h;exact ha
 |_::_,[],i,acc,c,l,ha,h=>by simp only[zby,Option.some.injEq] at h;subst h;exact ha
 |x::r,y::s,i,acc,c,l,ha,h=>by
  simp only[zby] at h
  cases hh:(g x y c).1 with
  |none=>rw[hh] at h;cases h
  |some m=>
   rw[hh] at h
   simp only at h
   split at h
   ·split at h
    ·exact zkJ hg r s (i+1) acc _ l ha h
    ·cases h
   ·refine zkJ hg r s (i+1) _ _ l (fun v hv=>?_) h
    rcases List.mem_append.1 hv with hv|hv
    ·exact ha v hv
    ·exact hg x y c m hh v hv
theorem zoY (w:List Data):∀(n:Nat) (t:Ty) (p:Pat) (c:Int) (l:List Vt),(zaR w n t p c).1=some l→InR l∧zcN l=true
 |0,t,p,c,l,h=>by simp[zaR] at h
 |n+1,t,p,c,l,h=>by
  unfold zaR at h
  split at h
  ·cases h
  ·split at h
   ·rename_i h60 ho
    have ho':ownP w t p=true:=by unfold okP at ho;simp only[Bool.and_eq_true] at ho;exact ho.1
    cases hk:(zby (zaR w n) (decide (p.op=5)) (zag w t p) p.kids 0 (zaX t p) (c+1)).1 with
    |none=>unfold finV at h;rw[hk] at h;simp only at h;rw[hk] at h;cases h
    |some m=>
     have hi:InR m:=zkJ (fun t p c l h=>(zoY w n t p c l h).1) _ _ _ _ _ m (fun v hv=>by
      unfold zaX at hv
      split at hv
      ·rename_i hop
       simp only[List.mem_cons,List.not_mem_nil,or_false] at hv
       subst hv
       exact zoO ho' hop
      ·simp at hv) hk
     unfold finV at h
     rw[hk] at h
     simp only at h
     split at h
     ·rename_i hn
      rw[hk] at h
      cases h
      exact⟨hi,hn⟩
     ·cases h
   ·cases h
theorem zrV (w:List Data) (n:Nat) (t:Ty) (p:Pat) (c:Int) (h:(zaR w n t p c).1.isSome=true):c+1≤(zaR w n t p c).2∧(zaR w n t p c).2≤60:=by
 have h1:=zfx w n t p c
 by_cases hw:zbZ w n t p c=true
 ·have h2:=h1.2 hw
  simp only[zbZ,Bool.and_eq_true,decide_eq_true_eq] at hw
  have:=Pat.size_eq p
  omega
 ·rw[if_neg hw] at h1;rw[h1.1] at h;cases h
def zdm (o:Option (List Vt)):List Vt:=o.getD []
theorem zqh {g:Ty→Pat→Int→Option (List Vt)×Int}{or:Bool}{a:List Ty}{b:List Pat}{i:Nat}{acc:List Vt}{c:Int} (ha:i<a.length) (hl:b.length=a.length) (h:(g (nth a i) (nth b i) c).1.isSome=false):
  zby g or (a.drop i) (b.drop i) i acc c=(none,(g (nth a i) (nth b i) c).2):=by
 rw[za9 ha,za9 (l:=b) (by omega),zby]
 cases hh:(g (nth a i) (nth b i) c).1 with
 |none=>rfl
 |some l=>rw[hh] at h;cases h
theorem zrl {g:Ty→Pat→Int→Option (List Vt)×Int}{or:Bool}{a:List Ty}{b:List Pat}{i:Nat}{acc:List Vt}{c:Int} (ha:i<a.length) (hl:b.length=a.length) (h:(g (nth a i) (nth b i) c).1.isSome=true) (ho:or=true∧i=1) (hs:zd4 acc (zdm (g (nth a i) (nth b i) c).1)=false):
  zby g or (a.drop i) (b.drop i) i acc c=(none,(g (nth a i) (nth b i) c).2):=by
 rw[za9 ha,za9 (l:=b) (by omega),zby]
 cases hh:(g (nth a i) (nth b i) c).1 with
 |none=>rfl
 |some l=>rw[hh] at hs;simp only[zdm,Option.getD_some] at hs;simp only[if_pos ho,hs,Bool.false_eq_true,if_false]
theorem zqg {g:Ty→Pat→Int→Option (List Vt)×Int}{or:Bool}{a:List Ty}{b:List Pat}{i:Nat}{acc:List Vt}{c:Int} (ha:i<a.length) (hl:b.length=a.length) (h:(g (nth a i) (nth b i) c).1.isSome=true) (hs:(or=true∧i=1)→zd4 acc (zdm (g (nth a i) (nth b i) c).1)=true):
  zby g or (a.drop i) (b.drop i) i acc c=zby g or (a.drop (i+1)) (b.drop (i+1)) (i+1) (if or=true∧i=1 then acc else acc++zdm (g (nth a i) (nth b i) c).1) (g (nth a i) (nth b i) c).2:=by
 rw[za9 ha,za9 (l:=b) (by omega),zby]
 cases hh:(g (nth a i) (nth b i) c).1 with
 |none=>rw[hh] at h;cases h
 |some l=>
  by_cases ho:or=true∧i=1
  ·have:=hs ho;rw[hh] at this;simp only[zdm,Option.getD_some] at this
   simp only[if_pos ho,this,if_true]
  ·simp only[if_neg ho,zdm,Option.getD_some]
theorem zrm {g:Ty→Pat→Int→Option (List Vt)×Int}{or:Bool}{a:List Ty}{b:List Pat}{i:Nat}{acc:List Vt}{c:Int} (ha:a.length≤i):zby g or (a.drop i) (b.drop i) i acc c=(some acc,c):=by
 rw[List.drop_eq_nil_of_le ha,zby]
 intro a r b s h;cases h
theorem zdi (w:List Data) (n:Nat) (t:Ty) (p:Pat) (c:Int):InR (zdm (zaR w n t p c).1)∧(zdm (zaR w n t p c).1).length≤6:=by
 cases h:(zaR w n t p c).1 with
 |none=>exact⟨fun v hv=>by simp[zdm] at hv,by simp[zdm]⟩
 |some l=>
  have:=zoY w n t p c l h
  exact⟨this.1,zre this.1 this.2⟩
structure GoodS (w:List Data) (n:Nat) (t:Ty) (p:Pat) (c:Int) (x:Nat×List Vt×Int):Prop where
 le:x.1≤p.kids.length
 eq:zby (zaR w n) (decide (p.op=5)) ((zag w t p).drop x.1) (p.kids.drop x.1) x.1 x.2.1 x.2.2=zby (zaR w n) (decide (p.op=5)) (zag w t p) p.kids 0 (zaX t p) (c+1)
 lc:(x.1:Int)≤x.2.2
 c0:0≤x.2.2
 c1:x.2.2≤60
 len:x.2.1.length≤1+6*x.1
 inr:InR x.2.1
def zbp (w:List Data) (n:Nat) (t:Ty) (p:Pat) (x:Nat×List Vt×Int):Nat×List Vt×Int:=
 (x.1+1,if decide (p.op=5)=true∧x.1=1 then x.2.1 else x.2.1++zdm (zaR w n (nth (zag w t p) x.1) (nth p.kids x.1) x.2.2).1,(zaR w n (nth (zag w t p) x.1) (nth p.kids x.1) x.2.2).2)
theorem GoodS.next {w:List Data}{n:Nat}{t:Ty}{p:Pat}{c:Int}{x:Nat×List Vt×Int} (hl:p.kids.length=(zag w t p).length) (hg:GoodS w n t p c x) (hlt:x.1<p.kids.length)
  (hz:(zaR w n (nth (zag w t p) x.1) (nth p.kids x.1) x.2.2).1.isSome=true) (hs:(decide (p.op=5)=true∧x.1=1)→zd4 x.2.1 (zdm (zaR w n (nth (zag w t p) x.1) (nth p.kids x.1) x.2.2).1)=true):
  GoodS w n t p c (zbp w n t p x):=by
 obtain⟨h1,h2,h3,h4,h5,h6,h7⟩:=hg
 have hb:=zrV w n _ _ _ hz
 have ho:=zdi w n (nth (zag w t p) x.1) (nth p.kids x.1) x.2.2
 refine⟨by unfold zbp;dsimp only;omega, ?_,by unfold zbp;dsimp only;omega,by unfold zbp;dsimp only;omega,by unfold zbp;dsimp only;omega, ?_, ?_⟩
 ·rw[←h2,zqg (by omega) hl hz hs];rfl
 ·unfold zbp;dsimp only
  split
  ·omega
  ·rw[List.length_append];omega
 ·unfold zbp;dsimp only
  split
  ·exact h7
  ·intro v hv
   rcases List.mem_append.1 hv with hv|hv
   ·exact h7 v hv
   ·exact ho.1 v hv
theorem GoodS.none {w:List Data}{n:Nat}{t:Ty}{p:Pat}{c:Int}{x:Nat×List Vt×Int} (hl:p.kids.length=(zag w t p).length) (hg:GoodS w n t p c x) (hlt:x.1<p.kids.length)
  (hz:(zaR w n (nth (zag w t p) x.1) (nth p.kids x.1) x.2.2).1.isSome=false):
  finV (zby (zaR w n) (decide (p.op=5)) (zag w t p) p.kids 0 (zaX t p) (c+1))=(none,(zaR w n (nth (zag w t p) x.1) (nth p.kids x.1) x.2.2).2):=by
 rw[←hg.eq,zqh (by omega) hl hz];rfl
theorem GoodS.bad {w:List Data}{n:Nat}{t:Ty}{p:Pat}{c:Int}{x:Nat×List Vt×Int} (hl:p.kids.length=(zag w t p).length) (hg:GoodS w n t p c x) (hlt:x.1<p.kids.length)
  (hz:(zaR w n (nth (zag w t p) x.1) (nth p.kids x.1) x.2.2).1.isSome=true) (ho:p.op=5∧x.1=1) (hs:zd4 x.2.1 (zdm (zaR w n (nth (zag w t p) x.1) (nth p.kids x.1) x.2.2).1)=false):
  finV (zby (zaR w n) (decide (p.op=5)) (zag w t p) p.kids 0 (zaX t p) (c+1))=(Option.none,(zaR w n (nth (zag w t p) x.1) (nth p.kids x.1) x.2.2).2):=by
 rw[←hg.eq,zrl (by omega) hl hz (by simpa using ho) hs];rfl
theorem GoodS.fin {w:List Data}{n:Nat}{t:Ty}{p:Pat}{c:Int}{x:Nat×List Vt×Int} (hl:p.kids.length=(zag w t p).length) (hg:GoodS w n t p c x) (hge:p.kids.length≤x.1):
  finV (zby (zaR w n) (decide (p.op=5)) (zag w t p) p.kids 0 (zaX t p) (c+1))=(if zcN x.2.1=true then some x.2.1 else Option.none,x.2.2):=by
 rw[←hg.eq,zrm (by omega)]
 unfold finV
 simp only
 split<;>rfl
theorem zrd {pre rest l:List Vt}{y:Vt} (h:pre++y::rest=l) (hm:y.var∈pre.map Vt.var):zcN l=false:=by
 unfold zcN
 refine decide_eq_false (fun hn=>?_)
 rw[←h,List.map_append,List.map_cons,List.nodup_append] at hn
 exact hn.2.2 _ hm _ (by simp) rfl
theorem zlO {pre:List Vt}{y:Vt} (h:(pre.map Vt.var).Nodup) (hm:y.var∉pre.map Vt.var):((pre++[y]).map Vt.var).Nodup:=by
 rw[List.map_append,List.nodup_append]
 exact⟨h,by simp,fun a ha b hb=>by simp at hb;subst hb;exact fun e=>hm (e ▸ ha)⟩
def retV (r:Option (List Vt)×Int):AV:= .tup [.d (zcZ (zdm r.1)),.d (.bool r.1.isSome)]
theorem zdL {w:List Data} (hw:WT w):∀(n:Nat){a k d c:Int}{p:Pat},d+n=11→n≤10→TyIn w.length ⟨a,k⟩→p.ok→0≤c→c≤1000000000000→
  FnD Tryz.prog 240 [.d (zao w),.agg [.d (.i a),.d (.i k)],.agg [.d (.i p.op),.d (.i p.ctor),.d (.i p.n),.d (.i p.m),.d (.i p.var),.d (zaf p.kids)],.d (.i d),.ref 950 0] [(950,some (.box [.d (.i c)]))]
   (retV (zaR w n ⟨a,k⟩ p c)) [(950,some (.box [.d (.i (zaR w n ⟨a,k⟩ p c).2)]))]
 |0,a,k,d,c,p,hd,_,_,_,c0,c1=>by
  refine bd Tryz.f240 114 [] [2] fun w0 F0 own kept hk=>?_
  refine Walk.box (id:=3006) .none rfl rfl rfl rfl rfl rfl rfl ?_
  refine Walk.box (id:=3007) .none rfl rfl rfl rfl rfl rfl rfl ?_
  refine ev ?_
  refine ar ?_
  refine Walk.store ty3 .none rfl rfl rfl rfl rfl rfl (by simp) rfl ?_
  refine tv ?_
  refine CWp.regionJ ?_
  refine WRest.join 8 [(34,.d (.bool (true)))] [27,28,29,30,31,32,33] ?_ ?_
  refine ev ?_
  refine sq (fun h1 h1p h1s=>?_) fun h1 h1p h1s=>?_
  try simp only[Q] at h1p
  exact jnb rfl
  try simp only[Q] at h1p
  exact jnb rfl
  refine WRest.done ?_
  refine tv ?_
  refine sq (fun h2 h2p h2s=>?_) fun h2 h2p h2s=>?_
  try simp only[Q] at h2p
  refine rn [(950,some (.box [.d (.i (zaR w 0 ⟨a,k⟩ p c).2)]))] (r2 rfl rfl) (.tup (.cons (.nild ?_) (.cons (.eqd ?_) .nil))) ⟨rfl,rfl⟩ (SubO.get ⟨.inr ?_,⟨.inl rfl,trivial⟩⟩) (zbc rfl)
  rotate_left 3
  try simp only[Q] at h2p
  exact absurd h2 (by simp)
  all_goals (first|((rfl);done)|(rfl))
 |n+1,a,k,d,c,p,hd,hn,ht,hok,c0,c1=>by
  by_cases h60:60<c+1
  ·have e:zaR w (n+1) ⟨a,k⟩ p c=(none,c+1):=by unfold zaR;rw[if_pos h60]
   rw[e]
   refine bd Tryz.f240 114 [] [2] fun w0 F0 own kept hk=>?_
   refine Walk.box (id:=3006) .none rfl rfl rfl rfl rfl rfl rfl ?_
   refine Walk.box (id:=3007) .none rfl rfl rfl rfl rfl rfl rfl ?_
   refine ev ?_
   refine ar ?_
   refine Walk.store ty3 .none rfl rfl rfl rfl rfl rfl (by simp) rfl ?_
   refine tv ?_
   refine CWp.regionJ ?_
   refine WRest.join 8 [(34,.d (.bool (true)))] [27,28,29,30,31,32,33] ?_ ?_
   refine ev ?_
   refine sq (fun h1 h1p h1s=>?_) fun h1 h1p h1s=>?_
   try simp only[Q] at h1p
   exact jnb rfl
   try simp only[Q] at h1p
   exact jnb rfl
   refine WRest.done ?_
   refine tv ?_
   refine sq (fun h2 h2p h2s=>?_) fun h2 h2p h2s=>?_
   try simp only[Q] at h2p
   refine rn [(950,some (.box [.d (.i (c+1))]))] (r2 rfl rfl) (.tup (.cons (.nild ?_) (.cons (.eqd ?_) .nil))) ⟨rfl,rfl⟩ (SubO.get ⟨.inr ?_,⟨.inl rfl,trivial⟩⟩) (zbc rfl)
   rotate_left 3
   try simp only[Q] at h2p
   exact absurd h2 (by simp)
   all_goals (first|((rfl);done)|(rfl))
  have hsh:=ziG hw (p:=p) ht
  by_cases hop:okP w ⟨a,k⟩ p=true
  ·have hok':=hok
   rw[Pat.ok_iff] at hok
   have hop':=hop
   unfold okP at hop'
   simp only[Bool.and_eq_true,decide_eq_true_eq] at hop'
   obtain⟨ho,hl⟩:=hop'
   have hin:=zf0 hw ht ho
   have hlen:=zgx hw ht (zcw ho)
   have hst:zcO w ⟨a,k⟩ p=zag w ⟨a,k⟩ p:=by unfold zcO;rw[if_neg (fun h=>h.2 (zcw ho h.1))]
   rw[hst,hop] at hsh
   have e:zaR w (n+1) ⟨a,k⟩ p c=finV (zby (zaR w n) (decide (p.op=5)) (zag w ⟨a,k⟩ p) p.kids 0 (zaX ⟨a,k⟩ p) (c+1)):=by
    conv=>lhs;unfold zaR
    rw[if_neg h60,if_pos hop]
   have hnr:InR (zaX ⟨a,k⟩ p):=fun v hv=>by
    unfold zaX at hv
    split at hv
    ·rename_i hop
     simp only[List.mem_cons,List.not_mem_nil,or_false] at hv
     subst hv
     exact zoO ho hop
    ·simp at hv
   have hnl:=zrc ⟨a,k⟩ p
   rw[e]
   refine bd Tryz.f240 114 [14,108] [2,8,17] fun w0 F0 own kept hk=>?_
   refine Walk.box (id:=3006) .none rfl rfl rfl rfl rfl rfl rfl ?_
   refine Walk.box (id:=3007) .none rfl rfl rfl rfl rfl rfl rfl ?_
   refine evs [14,108] [] ?_
   refine ar ?_
   refine Walk.store ty3 .none rfl rfl rfl rfl rfl rfl (by simp) rfl ?_
   refine tv ?_
   refine CWp.regionJ ?_
   refine WRest.join 8 [(34,.d (.bool (false)))] [27,28,29,30,31,32,33] ?_ ?_
   refine evs [14,108] [] ?_
   refine sq (fun h1 h1p h1s=>?_) fun h1 h1p h1s=>?_
   try simp only[Q,Pat.cs_len] at h1p
   exact jnb rfl
   try simp only[Q,Pat.cs_len] at h1p
   exact jnb rfl
   refine WRest.done ?_
   refine tv ?_
   refine sq (fun h2 h2p h2s=>?_) fun h2 h2p h2s=>?_
   try simp only[Q,Pat.cs_len] at h2p
   exact absurd h2 (by simp)
   try simp only[Q,Pat.cs_len] at h2p
   refine wc zom (hsh) rfl rfl ?_
   refine evs [14,108] [] ?_
   refine sq (fun h3 h3p h3s=>?_) fun h3 h3p h3s=>?_
   try simp only[Q,Pat.cs_len] at h3p
   exact absurd h3 (by simp)
   try simp only[Q,Pat.cs_len] at h3p
   refine Walk.assignNil 5 3 .none rfl rfl ?_
   refine tv ?_
   refine CWp.regionJ ?_
   refine WRest.join 8 [(51,.d (.bool (decide (p.op=2∨p.op=6))))] [44,45,46,47,48,49,50] ?_ ?_
   refine evs [14,108] [] ?_
   refine sq (fun h4 h4p h4s=>?_) fun h4 h4p h4s=>?_
   try simp only[Q,Pat.cs_len] at h4p
   exact jnb rfl
   try simp only[Q,Pat.cs_len] at h4p
   exact jnb rfl
   refine WRest.done ?_
   refine tv ?_
   refine sq (fun h5 h5p h5s=>?_) fun h5 h5p h5s=>?_
   try simp only[Q,Pat.cs_len] at h5p
   refine Walk.build zqk (ks:=[0,1]) (xs:=[_,_]) rfl rfl .none rfl rfl rfl ?_
   refine Walk.sliceLit zdl zn5 rfl (by decide) (ks:=[0]) (xs:=[_]) rfl rfl (by decide) (by decide) .none rfl rfl rfl rfl ?_
   refine Walk.append zdl zn7 rfl .none rfl rfl rfl rfl (zaB rfl (by first|rfl|(simp;done)|(simp;omega))) (by simp) (by first|(simp;done)|(simp;omega)|(have hz:=(zdi w n ⟨(nth (zag w ⟨a,k⟩ p) z.1).data,(nth (zag w ⟨a,k⟩ p) z.1).index⟩ (nth p.kids z.1) z.2.2).2;simp;omega)) (by first|(simp;done)|(simp;omega)|(have hz:=(zdi w n ⟨(nth (zag w ⟨a,k⟩ p) z.1).data,(nth (zag w ⟨a,k⟩ p) z.1).index⟩ (nth p.kids z.1) z.2.2).2;simp;omega)) ?_
   refine asg ?_
   refine tv ?_
   refine CWp.loopX (ι:=Nat×List Vt×Int) hk (fun z=>[(62,.d (.i (z.1:Int))),(14,.gl 5 (z.2.1.map Vt.c))]) [10,11,15,16,17,18,63,64,65,66,67,68,69,70,71,72,73,74,75,76,77,78,79,80,81,82,83,84,85,86,87,88,89,90,91,92,93,94,95,96,97,98] (fun z=>[(950,some (.box [.d (.i z.2.2)])),(5,some (.tok ((z.2.1.map Vt.c)).length 3))]) (fun z=>GoodS w n ⟨a,k⟩ p c z) (fun z=>p.kids.length-z.1) (0,zaX ⟨a,k⟩ p,c+1) ⟨by simp,by simp,by dsimp only;omega,by dsimp only;omega,by dsimp only;omega,by dsimp only;omega,hnr⟩ ⟨⟨_,rfl,LeA.eqi ?_⟩,⟨⟨_,rfl,LeA.glg ?_⟩,trivial⟩⟩ ⟨?_,⟨zad ?_,trivial⟩⟩ (fun x=>rfl) (fun z hg1=>?_)
   iterate 2 focus (first|rfl|(simp;done)|(dsimp only;omega)|(simp_all[zaX];done)|(unfold zbp;dsimp only;rw[if_neg (by simp_all)];simp;done)|(unfold zbp;dsimp only;rw[if_pos (by simp_all)];done)|(simp;omega))
   focus (first|rfl|(simp[getH];done))
   focus (first|rfl|(simp;done)|(dsimp only;omega)|(simp_all[zaX];done)|(unfold zbp;dsimp only;rw[if_neg (by simp_all)];simp;done)|(unfold zbp;dsimp only;rw[if_pos (by simp_all)];done)|(simp;omega))
   obtain⟨s1,_,s3,s4,s5,s6,s7⟩:=id hg1
   refine evc [14,108] [2,8,17] ?_
   refine sq (fun h6 h6p h6s=>?_) fun h6 h6p h6s=>?_
   try simp only[Q,Pat.cs_len] at h6p
   refine Walk.idx sl45 .none rfl rfl rfl rfl (zaI (by omega)) rfl ?_
   refine evs [14,108] [] ?_
   refine Walk.alloc (id:=3016) tz56 rfl .none rfl rfl rfl rfl ?_
   refine evs [14,108] [] ?_
   refine Walk.store ty56 .none rfl rfl rfl rfl rfl rfl (by simp) rfl ?_
   refine tv ?_
   refine Walk.idx zbd .none rfl rfl rfl rfl (zay (by omega)) rfl ?_
   refine evd [14,108] [] ?_
   refine ar ?_
   refine Walk.call (cr:=[]) zoi (zdL hw n (a:=(nth (zag w ⟨a,k⟩ p) z.1).data) (k:=(nth (zag w ⟨a,k⟩ p) z.1).index) (c:=z.2.2) (p:=nth p.kids z.1) (by omega) (by omega) (hin _ (zal (by omega))) (Pats.ok_mem hok.2 _ (zal (by omega))) (by omega) (by omega)) rfl .none rfl rfl (LeL.refl _) ⟨rfl,trivial⟩ rfl rfl rfl ?_
   refine evd [14,108] [] ?_
   refine dr ?_
   refine sq (fun h7 h7p h7s=>?_) fun h7 h7p h7s=>?_
   try simp only[Q,Pat.cs_len] at h7p
   refine rn [(950,some (.box [.d (.i (finV (zby (zaR w n) (decide (p.op=5)) (zag w ⟨a,k⟩ p) p.kids 0 (zaX ⟨a,k⟩ p) (c+1))).2)]))] (r2 rfl rfl) (.tup (.cons (.nild ?_) (.cons (.eqd ?_) .nil))) ⟨rfl,rfl⟩ (SubO.get ⟨.inr ?_,⟨.inl rfl,trivial⟩⟩) (zbc rfl)
   rotate_left 3
   try simp only[Q,Pat.cs_len] at h7p
   refine CWp.regionJ ?_
   refine WRest.join 7 [(93,.d (.bool (decide (p.op=5∧z.1=1))))] [87,88,89,90,91,92] ?_ ?_
   refine evs [14,108] [] ?_
   refine sq (fun h8 h8p h8s=>?_) fun h8 h8p h8s=>?_
   try simp only[Q,Pat.cs_len] at h8p
   exact jnb rfl
   try simp only[Q,Pat.cs_len] at h8p
   exact jnb rfl
   refine WRest.done ?_
   refine evs [14,108] [] ?_
   refine sq (fun h9 h9p h9s=>?_) fun h9 h9p h9s=>?_
   try simp only[Q,Pat.cs_len] at h9p
   refine Walk.call (cr:=[]) zqN (zgM (by omega) (by have hz:=(zdi w n ⟨(nth (zag w ⟨a,k⟩ p) z.1).data,(nth (zag w ⟨a,k⟩ p) z.1).index⟩ (nth p.kids z.1) z.2.2).2;omega)) rfl .none rfl rfl (.cons (.gl _ _) (.cons (.refl _) .nil)) trivial rfl rfl rfl ?_
   refine evs [14,108] [] ?_
   refine sq (fun h10 h10p h10s=>?_) fun h10 h10p h10s=>?_
   try simp only[Q,Pat.cs_len] at h10p
   refine rn [(950,some (.box [.d (.i (finV (zby (zaR w n) (decide (p.op=5)) (zag w ⟨a,k⟩ p) p.kids 0 (zaX ⟨a,k⟩ p) (c+1))).2)]))] (r2 rfl rfl) (.tup (.cons (.nild ?_) (.cons (.eqd ?_) .nil))) ⟨rfl,rfl⟩ (SubO.get ⟨.inr ?_,⟨.inl rfl,trivial⟩⟩) (zbc rfl)
   rotate_left 3
   try simp only[Q,Pat.cs_len] at h10p
   refine ar ?_
   refine Exists.intro ((zbp w n ⟨a,k⟩ p z)) ⟨(hg1.next hl (by omega) (by simp_all) (fun ho=>by simp_all)),(by unfold zbp;dsimp only;omega),sx ⟨⟨_,rfl,LeA.eqi ?_⟩,⟨⟨_,rfl,LeA.glg ?_⟩,trivial⟩⟩ ⟨?_,⟨zad ?_,trivial⟩⟩⟩
   iterate 2 focus (first|rfl|(simp;done)|(dsimp only;omega)|(simp_all[zaX];done)|(unfold zbp;dsimp only;rw[if_neg (by simp_all)];simp;done)|(unfold zbp;dsimp only;rw[if_pos (by simp_all)];done)|(simp;omega))
   focus (first|rfl|(simp[getH];done))
   focus (first|rfl|(simp;done)|(dsimp only;omega)|(simp_all[zaX];done)|(unfold zbp;dsimp only;rw[if_neg (by simp_all)];simp;done)|(unfold zbp;dsimp only;rw[if_pos (by simp_all)];done)|(simp;omega))
   try simp only[Q,Pat.cs_len] at h9p
   refine Walk.append zdl zn7 rfl .none rfl rfl rfl rfl (zaB rfl (by first|rfl|(simp;done)|(simp;omega))) (by simp) (by first|(simp;done)|(simp;omega)|(have hz:=(zdi w n ⟨(nth (zag w ⟨a,k⟩ p) z.1).data,(nth (zag w ⟨a,k⟩ p) z.1).index⟩ (nth p.kids z.1) z.2.2).2;simp;omega)) (by first|(simp;done)|(simp;omega)|(have hz:=(zdi w n ⟨(nth (zag w ⟨a,k⟩ p) z.1).data,(nth (zag w ⟨a,k⟩ p) z.1).index⟩ (nth p.kids z.1) z.2.2).2;simp;omega)) ?_
   refine asg ?_
   refine tv ?_
   refine ar ?_
   refine Exists.intro ((zbp w n ⟨a,k⟩ p z)) ⟨(hg1.next hl (by omega) (by simp_all) (fun ho=>by simp_all)),(by unfold zbp;dsimp only;omega),sx ⟨⟨_,rfl,LeA.eqi ?_⟩,⟨⟨_,rfl,LeA.glg ?_⟩,trivial⟩⟩ ⟨?_,⟨zad ?_,trivial⟩⟩⟩
   iterate 2 focus (first|rfl|(simp;done)|(dsimp only;omega)|(simp_all[zaX];done)|(unfold zbp;dsimp only;rw[if_neg (by simp_all)];simp;done)|(unfold zbp;dsimp only;rw[if_pos (by simp_all)];done)|(simp;omega))
   focus (first|rfl|(simp[getH];done))
   focus (first|rfl|(simp;done)|(dsimp only;omega)|(simp_all[zaX];done)|(unfold zbp;dsimp only;rw[if_neg (by simp_all)];simp;done)|(unfold zbp;dsimp only;rw[if_pos (by simp_all)];done)|(simp;omega))
   try simp only[Q,Pat.cs_len] at h6p
   refine Walk.alloc (id:=3019) zsw rfl .none rfl rfl rfl rfl ?_
   refine tv ?_
   refine CWp.loopX (ι:=List (Vt)×List (Vt)) hk (fun x=>[(101,.d (.i (x.1.length:Int)))]) [10,11,21,102,103,104,105,106,107,108,109,110,111,112] (fun x=>[(3019,some (.box (metA (x.1.map Vt.var))))]) (fun x=>x.1++x.2=z.2.1∧(x.1.map Vt.var).Nodup) (fun x=>x.2.length) ([],z.2.1) ⟨by simp,by simp⟩ ⟨⟨_,rfl,LeA.eqi ?_⟩,trivial⟩ ⟨?_,trivial⟩ (fun x=>rfl) (fun x hg2=>?_)
   focus (first|rfl|(simp;done)|(simp_all;done)|omega)
   focus (first|rfl|(simp[getH];done))
   obtain⟨pre,rest⟩:=x
   dsimp only at hg2 ⊢
   refine evc [14,108] [2,8,17] ?_
   refine sq (fun h11 h11p h11s=>?_) fun h11 h11p h11s=>?_
   try simp only[Q,Pat.cs_len] at h11p
   rcases rest with _|⟨y,rest⟩
   ·exfalso;simp_all
   have hy:=s7 y (by rw[←hg2.1];simp)
   refine Walk.idxG zdl .none rfl rfl rfl rfl (zaV hg2.1) rfl ?_
   refine evs [14,108] [] ?_
   refine Walk.alloc (id:=3021) zn5 rfl .none rfl rfl rfl rfl ?_
   refine Walk.store zsv .none rfl rfl rfl rfl rfl rfl (by simp) rfl ?_
   refine tv ?_
   refine Walk.idxA (i:=y.var.toNat) znS .none rfl rfl rfl (Int.toNat_of_nonneg hy.1).symm (by omega) ?_
   refine Walk.loadB ty4 .none rfl rfl rfl ((by simpa using zoJ hy.1 hy.2)) ?_
   refine tv ?_
   refine sq (fun h12 h12p h12s=>?_) fun h12 h12p h12s=>?_
   try simp only[Q,Pat.cs_len] at h12p
   refine rn [(950,some (.box [.d (.i (finV (zby (zaR w n) (decide (p.op=5)) (zag w ⟨a,k⟩ p) p.kids 0 (zaX ⟨a,k⟩ p) (c+1))).2)]))] (r2 rfl rfl) (.tup (.cons (.nild ?_) (.cons (.eqd ?_) .nil))) ⟨rfl,rfl⟩ (SubO.get ⟨.inr ?_,⟨.inl rfl,trivial⟩⟩) (zbc rfl)
   rotate_left 3
   try simp only[Q,Pat.cs_len] at h12p
   refine Walk.idxA (i:=y.var.toNat) znS .none rfl rfl rfl (Int.toNat_of_nonneg hy.1).symm (by omega) ?_
   refine Walk.store ty4 .none rfl rfl rfl rfl rfl rfl (by simp) ((by simpa using zoK hy.1 hy.2)) ?_
   refine tv ?_
   refine ar ?_
   refine Exists.intro ((pre++[y],rest)) ⟨⟨(by have hz:=hg2.1;rw[←hz];simp),(zlO hg2.2 (by simp_all))⟩,(by simp),sx ⟨⟨_,rfl,LeA.eqi ?_⟩,trivial⟩ ⟨?_,trivial⟩⟩
   focus (first|rfl|(simp;done)|(simp_all;done)|omega)
   focus (first|rfl|(simp[getH];done))
   try simp only[Q,Pat.cs_len] at h11p
   have hrest:rest=[]:=by
    rcases rest with _|⟨a,b⟩
    ·rfl
    ·exfalso;have hz:=congrArg List.length (hg2.1);simp only[List.length_append,List.length_cons,List.length_map] at hz;omega
   subst hrest
   refine rn [(950,some (.box [.d (.i (finV (zby (zaR w n) (decide (p.op=5)) (zag w ⟨a,k⟩ p) p.kids 0 (zaX ⟨a,k⟩ p) (c+1))).2)]))] (r2 rfl rfl) (.tup (.cons (.gld ?_) (.cons (.eqd ?_) .nil))) ⟨rfl,rfl⟩ (SubO.get ⟨.inr ?_,⟨.inl rfl,trivial⟩⟩) (zbc rfl)
   rotate_left 3
   try simp only[Q,Pat.cs_len] at h5p
   refine CWp.loopX (ι:=Nat×List Vt×Int) hk (fun z=>[(62,.d (.i (z.1:Int))),(14,.gl 5 (z.2.1.map Vt.c))]) [10,11,15,16,17,18,63,64,65,66,67,68,69,70,71,72,73,74,75,76,77,78,79,80,81,82,83,84,85,86,87,88,89,90,91,92,93,94,95,96,97,98] (fun z=>[(950,some (.box [.d (.i z.2.2)])),(5,some (.tok ((z.2.1.map Vt.c)).length 3))]) (fun z=>GoodS w n ⟨a,k⟩ p c z) (fun z=>p.kids.length-z.1) (0,zaX ⟨a,k⟩ p,c+1) ⟨by simp,by simp,by dsimp only;omega,by dsimp only;omega,by dsimp only;omega,by dsimp only;omega,hnr⟩ ⟨⟨_,rfl,LeA.eqi ?_⟩,⟨⟨_,rfl,LeA.glg ?_⟩,trivial⟩⟩ ⟨?_,⟨zad ?_,trivial⟩⟩ (fun x=>rfl) (fun z hg1=>?_)
   iterate 2 focus (first|rfl|(simp;done)|(dsimp only;omega)|(simp_all[zaX];done)|(unfold zbp;dsimp only;rw[if_neg (by simp_all)];simp;done)|(unfold zbp;dsimp only;rw[if_pos (by simp_all)];done)|(simp;omega))
   focus (first|rfl|(simp[getH];done))
   focus (first|rfl|(simp;done)|(dsimp only;omega)|(simp_all[zaX];done)|(unfold zbp;dsimp only;rw[if_neg (by simp_all)];simp;done)|(unfold zbp;dsimp only;rw[if_pos (by simp_all)];done)|(simp;omega))
   obtain⟨s1,_,s3,s4,s5,s6,s7⟩:=id hg1
   refine evc [14,108] [2,8,17] ?_
   refine sq (fun h13 h13p h13s=>?_) fun h13 h13p h13s=>?_
   try simp only[Q,Pat.cs_len] at h13p
   refine Walk.idx sl45 .none rfl rfl rfl rfl (zaI (by omega)) rfl ?_
   refine evs [14,108] [] ?_
   refine Walk.alloc (id:=3016) tz56 rfl .none rfl rfl rfl rfl ?_
   refine evs [14,108] [] ?_
   refine Walk.store ty56 .none rfl rfl rfl rfl rfl rfl (by simp) rfl ?_
   refine tv ?_
   refine Walk.idx zbd .none rfl rfl rfl rfl (zay (by omega)) rfl ?_
   refine evd [14,108] [] ?_
   refine ar ?_
   refine Walk.call (cr:=[]) zoi (zdL hw n (a:=(nth (zag w ⟨a,k⟩ p) z.1).data) (k:=(nth (zag w ⟨a,k⟩ p) z.1).index) (c:=z.2.2) (p:=nth p.kids z.1) (by omega) (by omega) (hin _ (zal (by omega))) (Pats.ok_mem hok.2 _ (zal (by omega))) (by omega) (by omega)) rfl .none rfl rfl (LeL.refl _) ⟨rfl,trivial⟩ rfl rfl rfl ?_
   refine evd [14,108] [] ?_
   refine dr ?_
   refine sq (fun h14 h14p h14s=>?_) fun h14 h14p h14s=>?_
   try simp only[Q,Pat.cs_len] at h14p
   refine rn [(950,some (.box [.d (.i (finV (zby (zaR w n) (decide (p.op=5)) (zag w ⟨a,k⟩ p) p.kids 0 (zaX ⟨a,k⟩ p) (c+1))).2)]))] (r2 rfl rfl) (.tup (.cons (.nild ?_) (.cons (.eqd ?_) .nil))) ⟨rfl,rfl⟩ (SubO.get ⟨.inr ?_,⟨.inl rfl,trivial⟩⟩) (zbc rfl)
   rotate_left 3
   try simp only[Q,Pat.cs_len] at h14p
   refine CWp.regionJ ?_
   refine WRest.join 7 [(93,.d (.bool (decide (p.op=5∧z.1=1))))] [87,88,89,90,91,92] ?_ ?_
   refine evs [14,108] [] ?_
   refine sq (fun h15 h15p h15s=>?_) fun h15 h15p h15s=>?_
   try simp only[Q,Pat.cs_len] at h15p
   exact jnb rfl
   try simp only[Q,Pat.cs_len] at h15p
   exact jnb rfl
   refine WRest.done ?_
   refine evs [14,108] [] ?_
   refine sq (fun h16 h16p h16s=>?_) fun h16 h16p h16s=>?_
   try simp only[Q,Pat.cs_len] at h16p
   refine Walk.call (cr:=[]) zqN (zgM (by omega) (by have hz:=(zdi w n ⟨(nth (zag w ⟨a,k⟩ p) z.1).data,(nth (zag w ⟨a,k⟩ p) z.1).index⟩ (nth p.kids z.1) z.2.2).2;omega)) rfl .none rfl rfl (.cons (.gl _ _) (.cons (.refl _) .nil)) trivial rfl rfl rfl ?_
   refine evs [14,108] [] ?_
   refine sq (fun h17 h17p h17s=>?_) fun h17 h17p h17s=>?_
   try simp only[Q,Pat.cs_len] at h17p
   refine rn [(950,some (.box [.d (.i (finV (zby (zaR w n) (decide (p.op=5)) (zag w ⟨a,k⟩ p) p.kids 0 (zaX ⟨a,k⟩ p) (c+1))).2)]))] (r2 rfl rfl) (.tup (.cons (.nild ?_) (.cons (.eqd ?_) .nil))) ⟨rfl,rfl⟩ (SubO.get ⟨.inr ?_,⟨.inl rfl,trivial⟩⟩) (zbc rfl)
   rotate_left 3
   try simp only[Q,Pat.cs_len] at h17p
   refine ar ?_
   refine Exists.intro ((zbp w n ⟨a,k⟩ p z)) ⟨(hg1.next hl (by omega) (by simp_all) (fun ho=>by simp_all)),(by unfold zbp;dsimp only;omega),sx ⟨⟨_,rfl,LeA.eqi ?_⟩,⟨⟨_,rfl,LeA.glg ?_⟩,trivial⟩⟩ ⟨?_,⟨zad ?_,trivial⟩⟩⟩
   iterate 2 focus (first|rfl|(simp;done)|(dsimp only;omega)|(simp_all[zaX];done)|(unfold zbp;dsimp only;rw[if_neg (by simp_all)];simp;done)|(unfold zbp;dsimp only;rw[if_pos (by simp_all)];done)|(simp;omega))
   focus (first|rfl|(simp[getH];done))
   focus (first|rfl|(simp;done)|(dsimp only;omega)|(simp_all[zaX];done)|(unfold zbp;dsimp only;rw[if_neg (by simp_all)];simp;done)|(unfold zbp;dsimp only;rw[if_pos (by simp_all)];done)|(simp;omega))
   try simp only[Q,Pat.cs_len] at h16p
   refine Walk.append zdl zn7 rfl .none rfl rfl rfl rfl (zaB rfl (by first|rfl|(simp;done)|(simp;omega))) (by simp) (by first|(simp;done)|(simp;omega)|(have hz:=(zdi w n ⟨(nth (zag w ⟨a,k⟩ p) z.1).data,(nth (zag w ⟨a,k⟩ p) z.1).index⟩ (nth p.kids z.1) z.2.2).2;simp;omega)) (by first|(simp;done)|(simp;omega)|(have hz:=(zdi w n ⟨(nth (zag w ⟨a,k⟩ p) z.1).data,(nth (zag w ⟨a,k⟩ p) z.1).index⟩ (nth p.kids z.1) z.2.2).2;simp;omega)) ?_
   refine asg ?_
   refine tv ?_
   refine ar ?_
   refine Exists.intro ((zbp w n ⟨a,k⟩ p z)) ⟨(hg1.next hl (by omega) (by simp_all) (fun ho=>by simp_all)),(by unfold zbp;dsimp only;omega),sx ⟨⟨_,rfl,LeA.eqi ?_⟩,⟨⟨_,rfl,LeA.glg ?_⟩,trivial⟩⟩ ⟨?_,⟨zad ?_,trivial⟩⟩⟩
   iterate 2 focus (first|rfl|(simp;done)|(dsimp only;omega)|(simp_all[zaX];done)|(unfold zbp;dsimp only;rw[if_neg (by simp_all)];simp;done)|(unfold zbp;dsimp only;rw[if_pos (by simp_all)];done)|(simp;omega))
   focus (first|rfl|(simp[getH];done))
   focus (first|rfl|(simp;done)|(dsimp only;omega)|(simp_all[zaX];done)|(unfold zbp;dsimp only;rw[if_neg (by simp_all)];simp;done)|(unfold zbp;dsimp only;rw[if_pos (by simp_all)];done)|(simp;omega))
   try simp only[Q,Pat.cs_len] at h13p
   refine Walk.alloc (id:=3019) zsw rfl .none rfl rfl rfl rfl ?_
   refine tv ?_
   refine CWp.loopX (ι:=List (Vt)×List (Vt)) hk (fun x=>[(101,.d (.i (x.1.length:Int)))]) [10,11,21,102,103,104,105,106,107,108,109,110,111,112] (fun x=>[(3019,some (.box (metA (x.1.map Vt.var))))]) (fun x=>x.1++x.2=z.2.1∧(x.1.map Vt.var).Nodup) (fun x=>x.2.length) ([],z.2.1) ⟨by simp,by simp⟩ ⟨⟨_,rfl,LeA.eqi ?_⟩,trivial⟩ ⟨?_,trivial⟩ (fun x=>rfl) (fun x hg2=>?_)
   focus (first|rfl|(simp;done)|(simp_all;done)|omega)
   focus (first|rfl|(simp[getH];done))
   obtain⟨pre,rest⟩:=x
   dsimp only at hg2 ⊢
   refine evc [14,108] [2,8,17] ?_
   refine sq (fun h18 h18p h18s=>?_) fun h18 h18p h18s=>?_
   try simp only[Q,Pat.cs_len] at h18p
   rcases rest with _|⟨y,rest⟩
   ·exfalso;simp_all
   have hy:=s7 y (by rw[←hg2.1];simp)
   refine Walk.idxG zdl .none rfl rfl rfl rfl (zaV hg2.1) rfl ?_
   refine evs [14,108] [] ?_
   refine Walk.alloc (id:=3021) zn5 rfl .none rfl rfl rfl rfl ?_
   refine Walk.store zsv .none rfl rfl rfl rfl rfl rfl (by simp) rfl ?_
   refine tv ?_
   refine Walk.idxA (i:=y.var.toNat) znS .none rfl rfl rfl (Int.toNat_of_nonneg hy.1).symm (by omega) ?_
   refine Walk.loadB ty4 .none rfl rfl rfl ((by simpa using zoJ hy.1 hy.2)) ?_
   refine tv ?_
   refine sq (fun h19 h19p h19s=>?_) fun h19 h19p h19s=>?_
   try simp only[Q,Pat.cs_len] at h19p
   refine rn [(950,some (.box [.d (.i (finV (zby (zaR w n) (decide (p.op=5)) (zag w ⟨a,k⟩ p) p.kids 0 (zaX ⟨a,k⟩ p) (c+1))).2)]))] (r2 rfl rfl) (.tup (.cons (.nild ?_) (.cons (.eqd ?_) .nil))) ⟨rfl,rfl⟩ (SubO.get ⟨.inr ?_,⟨.inl rfl,trivial⟩⟩) (zbc rfl)
   rotate_left 3
   try simp only[Q,Pat.cs_len] at h19p
   refine Walk.idxA (i:=y.var.toNat) znS .none rfl rfl rfl (Int.toNat_of_nonneg hy.1).symm (by omega) ?_
   refine Walk.store ty4 .none rfl rfl rfl rfl rfl rfl (by simp) ((by simpa using zoK hy.1 hy.2)) ?_
   refine tv ?_
   refine ar ?_
   refine Exists.intro ((pre++[y],rest)) ⟨⟨(by have hz:=hg2.1;rw[←hz];simp),(zlO hg2.2 (by simp_all))⟩,(by simp),sx ⟨⟨_,rfl,LeA.eqi ?_⟩,trivial⟩ ⟨?_,trivial⟩⟩
   focus (first|rfl|(simp;done)|(simp_all;done)|omega)
   focus (first|rfl|(simp[getH];done))
   try simp only[Q,Pat.cs_len] at h18p
   have hrest:rest=[]:=by
    rcases rest with _|⟨a,b⟩
    ·rfl
    ·exfalso;have hz:=congrArg List.length (hg2.1);simp only[List.length_append,List.length_cons,List.length_map] at hz;omega
   subst hrest
   refine rn [(950,some (.box [.d (.i (finV (zby (zaR w n) (decide (p.op=5)) (zag w ⟨a,k⟩ p) p.kids 0 (zaX ⟨a,k⟩ p) (c+1))).2)]))] (r2 rfl rfl) (.tup (.cons (.gld ?_) (.cons (.eqd ?_) .nil))) ⟨rfl,rfl⟩ (SubO.get ⟨.inr ?_,⟨.inl rfl,trivial⟩⟩) (zbc rfl)
   rotate_left 3
   all_goals (first|((first|(rw[hg1.none hl (by omega) (by assumption)];first|done|rfl)|(rw[hg1.bad hl (by omega) (by assumption) (by assumption) (by assumption)];first|done|rfl)|(rw[hg1.fin hl (by omega),if_neg (by rw[zrd hg2.1 (by assumption)];simp)];first|done|rfl)|(rw[hg1.fin hl (by omega),if_pos (by have hz:=hg2.1;rw[List.append_nil] at hz;rw[←hz];exact decide_eq_true hg2.2)];first|done|rfl));done)|(first|(show some (Res.box _)=some (Res.box _);rw[hg1.none hl (by omega) (by assumption)];done)|(show some (Res.box _)=some (Res.box _);rw[hg1.bad hl (by omega) (by assumption) (by assumption) (by assumption)];done)|(show some (Res.box _)=some (Res.box _);rw[hg1.fin hl (by omega)];done)))
  ·have hopf:okP w ⟨a,k⟩ p=false:=by simpa using hop
   have e:zaR w (n+1) ⟨a,k⟩ p c=(none,c+1):=by unfold zaR;rw[if_neg h60,if_neg hop]
   rw[e]
   rw[hopf] at hsh
   refine bd Tryz.f240 114 [] [2] fun w0 F0 own kept hk=>?_
   refine Walk.box (id:=3006) .none rfl rfl rfl rfl rfl rfl rfl ?_
   refine Walk.box (id:=3007) .none rfl rfl rfl rfl rfl rfl rfl ?_
   refine ev ?_
   refine ar ?_
   refine Walk.store ty3 .none rfl rfl rfl rfl rfl rfl (by simp) rfl ?_
   refine tv ?_
   refine CWp.regionJ ?_
   refine WRest.join 8 [(34,.d (.bool (false)))] [27,28,29,30,31,32,33] ?_ ?_
   refine ev ?_
   refine sq (fun h1 h1p h1s=>?_) fun h1 h1p h1s=>?_
   try simp only[Q] at h1p
   exact jnb rfl
   try simp only[Q] at h1p
   exact jnb rfl
   refine WRest.done ?_
   refine tv ?_
   refine sq (fun h2 h2p h2s=>?_) fun h2 h2p h2s=>?_
   try simp only[Q] at h2p
   exact absurd h2 (by simp)
   try simp only[Q] at h2p
   refine wc zom (hsh) rfl rfl ?_
   refine ev ?_
   refine sq (fun h3 h3p h3s=>?_) fun h3 h3p h3s=>?_
   try simp only[Q] at h3p
   refine rn [(950,some (.box [.d (.i (c+1))]))] (r2 rfl rfl) (.tup (.cons (.nild ?_) (.cons (.eqd ?_) .nil))) ⟨rfl,rfl⟩ (SubO.get ⟨.inr ?_,⟨.inl rfl,trivial⟩⟩) (zbc rfl)
   rotate_left 3
   try simp only[Q] at h3p
   exact absurd h3 (by simp)
   all_goals (first|((rfl);done)|(rfl))
end Go.Proofs.YtcnjkjdmbnhcaaaGreat
namespace Go.Proofs.YtcnjkjdmbnhcaaaGreat
open Go
set_option linter.unusedSimpArgs false
set_option linter.unusedVariables false
set_option maxRecDepth 100000
set_option maxHeartbeats 2000000
abbrev dPtr (f:Nat→Nat):D:= .ptr (tabD 16 f) 0
abbrev sPtr (w:List Data) (f:Nat→Nat):D:= .ptr [zao w,dPtr f] 0
theorem zkc {n:Nat}{f:Nat→Nat}{a k:Int} (h:InS n ⟨a,k⟩) (hn:n≤16):
  FnD Tryz.prog 182 [.ref 71 0,.agg [.d (.i a),.d (.i k)]] [(71,some (.box (tabC 16 f)))] (.d (.i (dv f ⟨a,k⟩))) []:=by
 have hs:=h.facts
 refine bd Tryz.f182 17 [16] [] fun w0 F0 own kept hk=>?_
 refine Walk.box (id:=3003) .none rfl rfl rfl (by first|rfl|(simp only[zak,occH,occE,Res.ids,List.cons_append,List.nil_append,AV.idsL,AV.ids,zab,zaa,zac,zan,List.map_cons,List.map_nil,upC,zaC];rfl)) (by first|rfl|(simp only[zak,occH,occE,Res.ids,List.cons_append,List.nil_append,AV.idsL,AV.ids,zab,zaa,zac,zan,List.map_cons,List.map_nil,upC,zaC];rfl)) (by first|rfl|(simp only[zak,occH,occE,Res.ids,List.cons_append,List.nil_append,AV.idsL,AV.ids,zab,zaa,zac,zan,List.map_cons,List.map_nil,upC,zaC];rfl)) (by first|rfl|(simp only[zak,occH,occE,Res.ids,List.cons_append,List.nil_append,AV.idsL,AV.ids,zab,zaa,zac,zan,List.map_cons,List.map_nil,upC,zaC];rfl)) ?_
 refine evs [16] [] ?_
 refine sq (fun h1 h1p h1s=>?_) fun h1 h1p h1s=>?_
 try simp only[Q] at h1p
 refine rn [] (r1 rfl) (.eqd ?_) ⟨rfl,rfl⟩ (SubH.get ⟨rfl,trivial⟩) (fun _ h=>h)
 rotate_left
 try simp only[Q] at h1p
 refine Walk.idxA (i:=a.toNat) znR .none rfl rfl rfl (by have:=hs h1p;omega) (by have:=hs h1p;omega) ?_
 refine Walk.idxA (i:=k.toNat) zpX .none rfl rfl rfl (by have:=hs h1p;omega) (by have:=hs h1p;omega) ?_
 refine Walk.loadB ty3 .none rfl rfl rfl ((zjW (s:=zcT ⟨a,k⟩) (by have:=hs h1p;omega) (by have:=hs h1p;omega))) ?_
 refine evd [16] [] ?_
 refine dr ?_
 refine rn [] (r1 rfl) (.eqd ?_) ⟨rfl,rfl⟩ (SubH.get ⟨rfl,trivial⟩) (fun _ h=>h)
 rotate_left
 all_goals (first|(rw[zlf (by assumption)];rfl)|(rw[zle (by assumption)]))
theorem zln {n:Nat}{f:Nat→Nat}{a k:Int} (h:InS n ⟨a,k⟩) (hn:n≤16):
  FnD Tryz.prog 182 [.d (dPtr f),.agg [.d (.i a),.d (.i k)]] [] (.d (.i (dv f ⟨a,k⟩))) []:=by
 have hs:=h.facts
 refine bd Tryz.f182 17 [16] [] fun w0 F0 own kept hk=>?_
 refine Walk.box (id:=3003) .none rfl rfl rfl rfl rfl rfl rfl ?_
 refine evs [16] [] ?_
 refine sq (fun h1 h1p h1s=>?_) fun h1 h1p h1s=>?_
 try simp only[Q] at h1p
 refine rn0 (r1 rfl) (.eqd ?_)
 rotate_left
 try simp only[Q] at h1p
 refine Walk.idxAP (i:=a.toNat) znR .none rfl rfl rfl (by have:=hs h1p;omega) (by have:=hs h1p;omega) ?_
 refine Walk.idxAP (i:=k.toNat) zpX .none rfl rfl rfl (by have:=hs h1p;omega) (by have:=hs h1p;omega) ?_
 refine Walk.loadP ty3 .none rfl rfl (zr0 (s:=zcT ⟨a,k⟩) (by have:=hs h1p;omega) (by have:=hs h1p;omega)) ?_
 refine evd [16] [] ?_
 refine dr ?_
 refine rn0 (r1 rfl) (.eqd ?_)
 rotate_left
 all_goals (first|(rw[zlf (by assumption)];rfl)|(rw[zle (by assumption)]))
theorem zlm {w:List Data} (hw:WT w){n:Nat}{f:Nat→Nat}{a k c:Int} (ht:TyIn w.length ⟨a,k⟩) (hc:c∈zaA w ⟨a,k⟩) (hn:n≤16) (hb:∀s,f s≤100000) (hin:∀u∈zaj w ⟨a,k⟩ c,InS n u):
  FnD Tryz.prog 181 [.ref 71 0,.d (zao w),.agg [.d (.i a),.d (.i k)],.d (.i c)] [(71,some (.box (tabC 16 f)))] (.d (.i (most w f ⟨a,k⟩ c))) []:=by
 have hl:=ziS hw ht hc
 have hd:=zsn hb (by omega)
 refine bd Tryz.f181 33 [] [] fun w0 F0 own kept hk=>?_
 refine Walk.box (id:=3006) .none rfl rfl rfl (by first|rfl|(simp only[zak,occH,occE,Res.ids,List.cons_append,List.nil_append,AV.idsL,AV.ids,zab,zaa,zac,zan,List.map_cons,List.map_nil,upC,zaC];rfl)) (by first|rfl|(simp only[zak,occH,occE,Res.ids,List.cons_append,List.nil_append,AV.idsL,AV.ids,zab,zaa,zac,zan,List.map_cons,List.map_nil,upC,zaC];rfl)) (by first|rfl|(simp only[zak,occH,occE,Res.ids,List.cons_append,List.nil_append,AV.idsL,AV.ids,zab,zaa,zac,zan,List.map_cons,List.map_nil,upC,zaC];rfl)) (by first|rfl|(simp only[zak,occH,occE,Res.ids,List.cons_append,List.nil_append,AV.idsL,AV.ids,zab,zaa,zac,zan,List.map_cons,List.map_nil,upC,zaC];rfl)) ?_
 refine ev ?_
 refine Walk.call (cr:=[]) ziU (zda hw ht hc) rfl .none rfl rfl (LeL.refl _) trivial rfl (by first|rfl|(simp only[zat,List.all_cons,List.all_nil,zaF,zaz,AV.idsL,AV.ids,zab,zaa,List.map_cons,List.map_nil,zaC];rfl)) (by first|rfl|(simp only[zak,occH,occE,Res.ids,List.cons_append,List.nil_append,AV.idsL,AV.ids,zab,zaa,zac,zan,List.map_cons,List.map_nil,upC,zaC];rfl)) ?_
 refine ev ?_
 refine CWp.loopX (ι:=List (Ty)×List (Ty)×(Nat)) hk (fun x=>[(18,.d (.i (x.1.length:Int))),(9,.d (.i (x.2.2:Int)))]) [8,11,12,19,20,21,22,23,24,25,26,27,28,29,30] (fun x=>[]) (fun x=>x.1++x.2.1=zaj w ⟨a,k⟩ c∧x.2.2≤100000∧zb3 f x.2.2 x.2.1=zb3 f 0 (zaj w ⟨a,k⟩ c)) (fun x=>x.2.1.length) ([],zaj w ⟨a,k⟩ c,0) ⟨by simp,by simp,rfl⟩ ⟨⟨_,rfl,LeA.eqi ?_⟩,⟨⟨_,rfl,LeA.eqi ?_⟩,trivial⟩⟩ trivial (fun x=>rfl) (fun x hg1=>?_)
 iterate 2 focus (first|rfl|(simp;done)|omega|(dsimp only;omega)|(dsimp only;split<;>omega))
 obtain⟨pre,rest,m⟩:=x
 dsimp only at hg1 ⊢
 refine evc [] [] ?_
 refine sq (fun h1 h1p h1s=>?_) fun h1 h1p h1s=>?_
 try simp only[Q] at h1p
 rcases rest with _|⟨y,rest⟩
 ·exfalso;simp_all
 have hdy:=hd y;have hye:dv f ⟨y.data,y.index⟩=dv f y:=rfl
 refine Walk.idx zbd .none rfl rfl rfl rfl (zaV hg1.1) rfl ?_
 refine ev ?_
 refine Walk.alloc (id:=3011) tz33 rfl .none rfl (by first|rfl|(simp only[zak,occH,occE,Res.ids,List.cons_append,List.nil_append,AV.idsL,AV.ids,zab,zaa,zac,zan,List.map_cons,List.map_nil,upC,zaC];rfl)) (by first|rfl|(simp only[zak,occH,occE,Res.ids,List.cons_append,List.nil_append,AV.idsL,AV.ids,zab,zaa,zac,zan,List.map_cons,List.map_nil,upC,zaC];rfl)) (by first|rfl|(simp only[zak,occH,occE,Res.ids,List.cons_append,List.nil_append,AV.idsL,AV.ids,zab,zaa,zac,zan,List.map_cons,List.map_nil,upC,zaC];rfl)) ?_
 refine Walk.store ty33 .none rfl rfl rfl rfl rfl rfl (by simp) rfl ?_
 refine tv ?_
 refine Walk.call (cr:=[]) ziW (zkc (f:=f) (a:=y.data) (k:=y.index) (hin y (by rw[←hg1.1];simp)) hn) rfl .none rfl rfl (LeL.refl _) ⟨rfl,trivial⟩ rfl (by first|rfl|(simp only[zat,List.all_cons,List.all_nil,zaF,zaz,AV.idsL,AV.ids,zab,zaa,List.map_cons,List.map_nil,zaC];rfl)) (by first|rfl|(simp only[zak,occH,occE,Res.ids,List.cons_append,List.nil_append,AV.idsL,AV.ids,zab,zaa,zac,zan,List.map_cons,List.map_nil,upC,zaC];rfl)) ?_
 refine ev ?_
 refine sq (fun h2 h2p h2s=>?_) fun h2 h2p h2s=>?_
 try simp only[Q] at h2p
 refine rn [] (r1 rfl) (.eqd ?_) ⟨rfl,rfl⟩ (SubH.get ⟨rfl,trivial⟩) (fun _ h=>h)
 rotate_left
 try simp only[Q] at h2p
 refine Walk.maxI .none rfl rfl rfl ?_
 refine ev ?_
 refine ar ?_
 refine Exists.intro ((pre++[y],rest,max m (dv f y))) ⟨⟨(by have hz:=hg1.1;rw[←hz];simp),⟨(by have:=hd y;dsimp only;omega),(by rw[←hg1.2.2];simp only[zb3];rw[if_neg (by have:=hd y;omega)])⟩⟩,(by simp),sx ⟨⟨_,rfl,LeA.eqi ?_⟩,⟨⟨_,rfl,LeA.eqi ?_⟩,trivial⟩⟩ trivial⟩
 iterate 2 focus (first|rfl|(simp;done)|omega|(dsimp only;omega)|(dsimp only;split<;>omega))
 try simp only[Q] at h1p
 have hrest:rest=[]:=by
  rcases rest with _|⟨a,b⟩
  ·rfl
  ·exfalso;have hz:=congrArg List.length (hg1.1);simp only[List.length_append,List.length_cons,List.length_map] at hz;omega
 subst hrest
 refine ar ?_
 refine rn [] (r1 rfl) (.eqd ?_) ⟨rfl,rfl⟩ (SubH.get ⟨rfl,trivial⟩) (fun _ h=>h)
 rotate_left
 all_goals (refine congrArg D.i ?_;unfold most;rw[←hg1.2.2];first|(simp only[zb3];rw[if_pos (by omega)];rfl)|(simp only[zb3];omega))
theorem zh3 {i j:Nat} (h:j<4):tyS (i*4+j)=⟨(i:Int),(j:Int)⟩:=by
 unfold tyS
 rw[show(i*4+j) / 4=i by omega,show(i*4+j) % 4=j by omega]
theorem zpx {w:List Data}{k s:Nat}{pre:List Int}:Bet (zbn w k) (rowT w k s pre):=(znw _ _).trans (zmJ _ _)
theorem zjz {w:List Data}{g f:Nat→Nat}{s:Nat}{c:Int} (hB:Bet g f)
  (h:decide ((0:Int)<(most w f (tyS s) c:Int)∧((f s:Int)=0∨(most w f (tyS s) c:Int)<(f s:Int)))=true):Strict g (zbP w s f c):=by
 rw[zd3 h]
 rw[decide_eq_true_eq] at h
 refine⟨s,by unfold updF;rw[if_pos rfl];omega, ?_⟩
 unfold updF;rw[if_pos rfl]
 rcases Nat.eq_zero_or_pos (g s) with h0|h0
 ·exact .inl h0
 ·have:=hB s h0
  right;omega
theorem zli {w:List Data} (hw:WT w){i j:Nat} (hi:i<w.length) (hj:j<4):FnD Tryz.prog 129 [.d (zao w),.agg [.d (.i (i:Int)),.d (.i (j:Int))]] [] (.d (zcF (zbm w (tyS (i*4+j))))) []:=by
 rw[←ziz,zh3 hj];exact zee hw (.inr ⟨i,rfl,hi⟩)
theorem zlo {w:List Data}{f:Nat→Nat}{i j:Nat} (hi:i<w.length) (h4:w.length≤4) (hj:j<4):
  FnD Tryz.prog 182 [.ref 71 0,.agg [.d (.i (i:Int)),.d (.i (j:Int))]] [(71,some (.box (tabC 16 f)))] (.d (.i (f (i*4+j)))) []:=by
 have h:=zkc (n:=w.length*4) (f:=f) (a:=(i:Int)) (k:=(j:Int)) (.inr ⟨by simp only[zcT,Int.toNat_natCast];omega,by simp only[zcT,Int.toNat_natCast];exact zh3 hj⟩) (by omega)
 have e:zcT ⟨(i:Int),(j:Int)⟩=i*4+j:=by simp only[zcT,Int.toNat_natCast]
 rwa [zle (by omega),e] at h
theorem zmt {w:List Data} (hd:Dp w){f:Nat→Nat}{i j:Nat}{c:Int} (hi:i<w.length) (hj:j<4) (hc:c∈zbm w (tyS (i*4+j))) (hb:∀s,f s≤100000):
  FnD Tryz.prog 181 [.ref 71 0,.d (zao w),.agg [.d (.i (i:Int)),.d (.i (j:Int))],.d (.i c)] [(71,some (.box (tabC 16 f)))] (.d (.i (most w f (tyS (i*4+j)) c))) []:=by
 have h4:=hd.four
 have hcl:=hd.cl (i*4+j) (by omega) c hc
 rw[←ziz,zh3 hj] at hc
 rw[zh3 hj] at hcl ⊢
 exact zlm hd.wt (.inr ⟨i,rfl,hi⟩) hc (n:=w.length*4) (by omega) hb hcl
theorem zku {w:List Data} (hd:Dp w):FnD Tryz.prog 114 [.d (zao w)] [] (.d (dPtr (zaZ w))) []:=by
 have hw:=hd.wt
 have hw4:=hd.four
 have hlw:((w.map Data.c).length:Int)=w.length:=by simp
 refine bd Tryz.f114 64 [] [16,20] fun w0 F0 own kept hk=>?_
 refine Walk.buildZ zuw znR .none rfl ?_
 refine Walk.box (id:=71) .none rfl rfl rfl (by first|rfl|(simp only[zak,occH,occE,Res.ids,List.cons_append,List.nil_append,AV.idsL,AV.ids,zab,zaa,zac,zan,List.map_cons,List.map_nil,upC,zaC];rfl)) (by first|rfl|(simp only[zak,occH,occE,Res.ids,List.cons_append,List.nil_append,AV.idsL,AV.ids,zab,zaa,zac,zan,List.map_cons,List.map_nil,upC,zaC];rfl)) (by first|rfl|(simp only[zak,occH,occE,Res.ids,List.cons_append,List.nil_append,AV.idsL,AV.ids,zab,zaa,zac,zan,List.map_cons,List.map_nil,upC,zaC];rfl)) (by first|rfl|(simp only[zak,occH,occE,Res.ids,List.cons_append,List.nil_append,AV.idsL,AV.ids,zab,zaa,zac,zan,List.map_cons,List.map_nil,upC,zaC];rfl)) ?_
 refine ev ?_
 refine CWp.loopX (ι:=Nat×Bool) hk (fun o=>[(4,.d (.bool o.2))]) [5,6,7,9,10,13,14,15,16,17,18,19,20,21,22,23,24,25,26,27,28,29,30,31,32,33,34,35,36,37,38,39,40,41,42,43,44,45,46,47,48,49,50,51,52,53,54,55,56,57,58,59,60,61,62] (fun o=>[(71,some (.box (tabC 16 (zbn w o.1))))]) (fun o=>(o.2=false→zbn w o.1=zaZ w)∧(o.2=true→o.1≤w.length*4+1)) (fun o=>if o.2 then w.length*4+2-o.1 else 0) (0,true) ⟨by simp,by simp⟩ ⟨⟨_,rfl,LeA.eqb ?_⟩,trivial⟩ ⟨?_,trivial⟩ (fun x=>rfl) (fun o hg1=>?_)
 focus (first|rfl|(simp;done)|(simp_all;done)|omega)
 focus (first|rfl|(have e:y.1=w.length:=(by omega);rw[e];rfl))
 refine evc [] [16,20] ?_
 refine sq (fun h1 h1p h1s=>?_) fun h1 h1p h1s=>?_
 try simp only[Q] at h1p
 refine CWp.loopX (ι:=Nat×Bool) hk (fun y=>[(16,.d (.i (y.1:Int))),(4,.d (.bool y.2))]) [5,6,7,9,10,17,18,19,20,21,22,23,24,25,26,27,28,29,30,31,32,33,34,35,36,37,38,39,40,41,42,43,44,45,46,47,48,49,50,51,52,53,54,55,56,57,58,59,60,61,62] (fun y=>[(71,some (.box (tabC 16 (midT w o.1 (y.1*4)))))]) (fun y=>y.1≤w.length∧(y.2=false→midT w o.1 (y.1*4)=zbn w o.1)∧(y.2=true→Strict (zbn w o.1) (midT w o.1 (y.1*4)))) (fun y=>w.length-y.1) (0,false) ⟨by simp,fun _=>rfl,by simp⟩ ⟨⟨_,rfl,LeA.eqi ?_⟩,⟨⟨_,rfl,LeA.eqb ?_⟩,trivial⟩⟩ ⟨?_,trivial⟩ (fun x=>rfl) (fun y hg2=>?_)
 iterate 2 focus (first|rfl|(simp;done)|(simp_all;done)|omega)
 focus (first|rfl|(have e:z.1=4:=(by omega);rw[e,←Nat.succ_mul];rfl))
 have ho:=hg1.2 h1s
 refine evc [] [16,20] ?_
 refine sq (fun h2 h2p h2s=>?_) fun h2 h2p h2s=>?_
 try simp only[Q] at h2p
 refine CWp.loopX (ι:=Nat×Bool) hk (fun z=>[(6,.d (.i (z.1:Int))),(4,.d (.bool z.2))]) [7,9,10,19,20,21,22,23,24,25,26,27,28,29,30,31,32,33,34,35,36,37,38,39,40,41,42,43,44,45,46,47,48,49,50,51,52,53,54,55,56,57,58,59,60,61] (fun z=>[(71,some (.box (tabC 16 (midT w o.1 (y.1*4+z.1)))))]) (fun z=>z.1≤4∧(z.2=false→midT w o.1 (y.1*4+z.1)=zbn w o.1)∧(z.2=true→Strict (zbn w o.1) (midT w o.1 (y.1*4+z.1)))) (fun z=>4-z.1) (0,y.2) ⟨by simp,hg2.2⟩ ⟨⟨_,rfl,LeA.eqi ?_⟩,⟨⟨_,rfl,LeA.eqb ?_⟩,trivial⟩⟩ ⟨?_,trivial⟩ (fun x=>rfl) (fun z hg3=>?_)
 iterate 2 focus (first|rfl|(simp;done)|(simp_all;done)|omega)
 focus (first|rfl|(show some (Res.box _)=some (Res.box _);rw[←hg4.1,List.append_nil] at *;done)|(show some (Res.box _)=some (Res.box _);rw[←Nat.add_assoc,←zfW,←hg4.1,List.append_nil]))
 refine evc [] [16,20] ?_
 refine sq (fun h3 h3p h3s=>?_) fun h3 h3p h3s=>?_
 try simp only[Q] at h3p
 refine Walk.build st33 (ks:=[0,1]) (xs:=[_,_]) rfl rfl .none rfl rfl rfl ?_
 refine Walk.alloc (id:=3007) tz33 rfl .none rfl (by first|rfl|(simp only[zak,occH,occE,Res.ids,List.cons_append,List.nil_append,AV.idsL,AV.ids,zab,zaa,zac,zan,List.map_cons,List.map_nil,upC,zaC];rfl)) (by first|rfl|(simp only[zak,occH,occE,Res.ids,List.cons_append,List.nil_append,AV.idsL,AV.ids,zab,zaa,zac,zan,List.map_cons,List.map_nil,upC,zaC];rfl)) (by first|rfl|(simp only[zak,occH,occE,Res.ids,List.cons_append,List.nil_append,AV.idsL,AV.ids,zab,zaa,zac,zan,List.map_cons,List.map_nil,upC,zaC];rfl)) ?_
 refine Walk.store ty33 .none rfl rfl rfl rfl rfl rfl (by simp) rfl ?_
 refine tv ?_
 refine Walk.call (cr:=[]) zkX (zli hw (i:=y.1) (j:=z.1) (by omega) (by omega)) rfl .none rfl rfl (LeL.refl _) trivial rfl (by first|rfl|(simp only[zat,List.all_cons,List.all_nil,zaF,zaz,AV.idsL,AV.ids,zab,zaa,List.map_cons,List.map_nil,zaC];rfl)) (by first|rfl|(simp only[zak,occH,occE,Res.ids,List.cons_append,List.nil_append,AV.idsL,AV.ids,zab,zaa,zac,zan,List.map_cons,List.map_nil,upC,zaC];rfl)) ?_
 refine ev ?_
 refine CWp.loopX (ι:=List (Int)×List (Int)×(Bool)) hk (fun x=>[(30,.d (.i (x.1.length:Int))),(4,.d (.bool x.2.2))]) [9,10,31,32,33,34,35,36,37,38,39,40,41,42,43,44,45,46,47,48,49,50,51,52,53,54,55,56,57,58,59,60,61] (fun x=>[(71,some (.box (tabC 16 (rowT w o.1 (y.1*4+z.1) x.1))))]) (fun x=>x.1++x.2.1=zbm w (tyS (y.1*4+z.1))∧(x.2.2=false→rowT w o.1 (y.1*4+z.1) x.1=zbn w o.1)∧(x.2.2=true→Strict (zbn w o.1) (rowT w o.1 (y.1*4+z.1) x.1))) (fun x=>x.2.1.length) ([],zbm w (tyS (y.1*4+z.1)),z.2) ⟨by simp,hg3.2⟩ ⟨⟨_,rfl,LeA.eqi ?_⟩,⟨⟨_,rfl,LeA.eqb ?_⟩,trivial⟩⟩ ⟨?_,trivial⟩ (fun x=>rfl) (fun x hg4=>?_)
 iterate 2 focus (first|rfl|(simp;done)|(rw[h7];rfl)|(rw[h7,Bool.false_or];done)|(rw[h7,Bool.true_or];done)|omega)
 focus (first|rfl|(show some (Res.box _)=some (Res.box _);rw[zdx];first|(rw[zd3 (by assumption)];done)|(rw[zdw (by assumption)];done)))
 obtain⟨pre,rest,b⟩:=x
 dsimp only at hg4 ⊢
 have hct:=hd.ct (y.1*4+z.1) (by omega)
 refine evc [] [16,20] ?_
 refine sq (fun h4 h4p h4s=>?_) fun h4 h4p h4s=>?_
 try simp only[Q] at h4p
 rcases rest with _|⟨c,rest⟩
 ·exfalso;simp_all
 refine Walk.idx zbQ .none rfl rfl rfl rfl (zaV hg4.1) rfl ?_
 refine ev ?_
 refine Walk.call (cr:=[]) zto (zmt hd (f:=rowT w o.1 (y.1*4+z.1) pre) (i:=y.1) (j:=z.1) (c:=c) (by omega) (by omega) (by rw[←hg4.1];simp) (zpN hd (by omega) (by omega) (by have hz:=congrArg List.length hg4.1;simp at hz;omega))) rfl .none rfl rfl (LeL.refl _) ⟨rfl,trivial⟩ rfl (by first|rfl|(simp only[zat,List.all_cons,List.all_nil,zaF,zaz,AV.idsL,AV.ids,zab,zaa,List.map_cons,List.map_nil,zaC];rfl)) (by first|rfl|(simp only[zak,occH,occE,Res.ids,List.cons_append,List.nil_append,AV.idsL,AV.ids,zab,zaa,zac,zan,List.map_cons,List.map_nil,upC,zaC];rfl)) ?_
 refine ev ?_
 refine CWp.regionJ ?_
 refine WRest.join 15 [(53,.d (.bool (decide ((0:Int)<(most w (rowT w o.1 (y.1*4+z.1) pre) (tyS (y.1*4+z.1)) c:Int)∧((rowT w o.1 (y.1*4+z.1) pre (y.1*4+z.1):Int)=0∨(most w (rowT w o.1 (y.1*4+z.1) pre) (tyS (y.1*4+z.1)) c:Int)<(rowT w o.1 (y.1*4+z.1) pre (y.1*4+z.1):Int))))))] [39,40,41,42,43,44,45,46,47,48,49,50,51,52] ?_ ?_
 refine ev ?_
 refine sq (fun h5 h5p h5s=>?_) fun h5 h5p h5s=>?_
 try simp only[Q] at h5p
 refine Walk.call (cr:=[]) ziW (zlo (w:=w) (f:=rowT w o.1 (y.1*4+z.1) pre) (i:=y.1) (j:=z.1) (by omega) hw4 (by omega)) rfl (.some rfl rfl h5) rfl rfl (LeL.refl _) ⟨rfl,trivial⟩ rfl (by first|rfl|(simp only[zat,List.all_cons,List.all_nil,zaF,zaz,AV.idsL,AV.ids,zab,zaa,List.map_cons,List.map_nil,zaC];rfl)) (by first|rfl|(simp only[zak,occH,occE,Res.ids,List.cons_append,List.nil_append,AV.idsL,AV.ids,zab,zaa,zac,zan,List.map_cons,List.map_nil,upC,zaC];rfl)) ?_
 refine evs [] [(41,true)] ?_ ⟨⟨_,rfl,h5⟩,trivial⟩
 refine sq (fun h6 h6p h6s=>?_) fun h6 h6p h6s=>?_
 try simp only[Q] at h6p
 exact jnb rfl
 try simp only[Q] at h6p
 refine Walk.call (cr:=[]) ziW (zlo (w:=w) (f:=rowT w o.1 (y.1*4+z.1) pre) (i:=y.1) (j:=z.1) (by omega) hw4 (by omega)) rfl (.some rfl rfl h6) rfl rfl (LeL.refl _) ⟨rfl,trivial⟩ rfl (by first|rfl|(simp only[zat,List.all_cons,List.all_nil,zaF,zaz,AV.idsL,AV.ids,zab,zaa,List.map_cons,List.map_nil,zaC];rfl)) (by first|rfl|(simp only[zak,occH,occE,Res.ids,List.cons_append,List.nil_append,AV.idsL,AV.ids,zab,zaa,zac,zan,List.map_cons,List.map_nil,upC,zaC];rfl)) ?_
 refine evs [] [(41,true),(46,false)] ?_ ⟨⟨_,rfl,h5⟩,⟨_,rfl,h6⟩,trivial⟩
 exact jnb rfl
 try simp only[Q] at h5p
 exact jnb rfl
 refine WRest.done ?_
 refine tv ?_
 refine sq (fun h7 h7p h7s=>?_) fun h7 h7p h7s=>?_
 try simp only[Q] at h7p
 refine Walk.idxA (i:=y.1) znR .none rfl rfl rfl rfl (by omega) ?_
 refine Walk.idxA (i:=z.1) zpX .none rfl rfl rfl rfl (by omega) ?_
 refine Walk.store ty3 .none rfl rfl rfl rfl rfl rfl (by simp) ((zpS (s:=y.1*4+z.1) (v:=most w (rowT w o.1 (y.1*4+z.1) pre) (tyS (y.1*4+z.1)) c) (by omega) (by omega) rfl)) ?_
 refine ev ?_
 refine ar ?_
 refine Exists.intro ((pre++[c],rest,(decide ((0:Int)<(most w (rowT w o.1 (y.1*4+z.1) pre) (tyS (y.1*4+z.1)) c:Int)∧((rowT w o.1 (y.1*4+z.1) pre (y.1*4+z.1):Int)=0∨(most w (rowT w o.1 (y.1*4+z.1) pre) (tyS (y.1*4+z.1)) c:Int)<(rowT w o.1 (y.1*4+z.1) pre (y.1*4+z.1):Int))))||b)) ⟨⟨(by have hz:=hg4.1;rw[←hz];simp),(by
    dsimp only
    rw[zdx]
    cases hq:decide ((0:Int)<(most w (rowT w o.1 (y.1*4+z.1) pre) (tyS (y.1*4+z.1)) c:Int)∧((rowT w o.1 (y.1*4+z.1) pre (y.1*4+z.1):Int)=0∨(most w (rowT w o.1 (y.1*4+z.1) pre) (tyS (y.1*4+z.1)) c:Int)<(rowT w o.1 (y.1*4+z.1) pre (y.1*4+z.1):Int))) with
    |true=>exact⟨fun h=>by simp at h,fun _=>zjz zpx hq⟩
    |false=>rw[zdw hq];exact hg4.2)⟩,(by simp),sx ⟨⟨_,rfl,LeA.eqi ?_⟩,⟨⟨_,rfl,LeA.eqb ?_⟩,trivial⟩⟩ ⟨?_,trivial⟩⟩
 iterate 2 focus (first|rfl|(simp;done)|(rw[h7];rfl)|(rw[h7,Bool.false_or];done)|(rw[h7,Bool.true_or];done)|omega)
 focus (first|rfl|(show some (Res.box _)=some (Res.box _);rw[zdx];first|(rw[zd3 (by assumption)];done)|(rw[zdw (by assumption)];done)))
 try simp only[Q] at h7p
 refine ar ?_
 refine Exists.intro ((pre++[c],rest,(decide ((0:Int)<(most w (rowT w o.1 (y.1*4+z.1) pre) (tyS (y.1*4+z.1)) c:Int)∧((rowT w o.1 (y.1*4+z.1) pre (y.1*4+z.1):Int)=0∨(most w (rowT w o.1 (y.1*4+z.1) pre) (tyS (y.1*4+z.1)) c:Int)<(rowT w o.1 (y.1*4+z.1) pre (y.1*4+z.1):Int))))||b)) ⟨⟨(by have hz:=hg4.1;rw[←hz];simp),(by
    dsimp only
    rw[zdx]
    cases hq:decide ((0:Int)<(most w (rowT w o.1 (y.1*4+z.1) pre) (tyS (y.1*4+z.1)) c:Int)∧((rowT w o.1 (y.1*4+z.1) pre (y.1*4+z.1):Int)=0∨(most w (rowT w o.1 (y.1*4+z.1) pre) (tyS (y.1*4+z.1)) c:Int)<(rowT w o.1 (y.1*4+z.1) pre (y.1*4+z.1):Int))) with
    |true=>exact⟨fun h=>by simp at h,fun _=>zjz zpx hq⟩
    |false=>rw[zdw hq];exact hg4.2)⟩,(by simp),sx ⟨⟨_,rfl,LeA.eqi ?_⟩,⟨⟨_,rfl,LeA.eqb ?_⟩,trivial⟩⟩ ⟨?_,trivial⟩⟩
 iterate 2 focus (first|rfl|(simp;done)|(rw[h7];rfl)|(rw[h7,Bool.false_or];done)|(rw[h7,Bool.true_or];done)|omega)
 focus (first|rfl|(show some (Res.box _)=some (Res.box _);rw[zdx];first|(rw[zd3 (by assumption)];done)|(rw[zdw (by assumption)];done)))
 try simp only[Q] at h4p
 have hrest:rest=[]:=by
  rcases rest with _|⟨a,b⟩
  ·rfl
  ·exfalso;have hz:=congrArg List.length (hg4.1);simp only[List.length_append,List.length_cons,List.length_map] at hz;omega
 subst hrest
 refine ar ?_
 refine Exists.intro ((z.1+1,b)) ⟨(by
    obtain⟨p1,p2⟩:=hg4
    rw[List.append_nil] at p1
    rw[p1,zfW,Nat.add_assoc] at p2
    exact⟨by dsimp only;omega,p2⟩),(by dsimp only;omega),sx ⟨⟨_,rfl,LeA.eqi ?_⟩,⟨⟨_,rfl,LeA.eqb ?_⟩,trivial⟩⟩ ⟨?_,trivial⟩⟩
 iterate 2 focus (first|rfl|(simp;done)|(simp_all;done)|omega)
 focus (first|rfl|(show some (Res.box _)=some (Res.box _);rw[←hg4.1,List.append_nil] at *;done)|(show some (Res.box _)=some (Res.box _);rw[←Nat.add_assoc,←zfW,←hg4.1,List.append_nil]))
 try simp only[Q] at h3p
 refine ar ?_
 refine Exists.intro ((y.1+1,z.2)) ⟨(by
    have e:z.1=4:=by omega
    obtain⟨_,q1,q2⟩:=hg3
    rw[e,←Nat.succ_mul] at q1 q2
    exact⟨by dsimp only;omega,q1,q2⟩),(by dsimp only;omega),sx ⟨⟨_,rfl,LeA.eqi ?_⟩,⟨⟨_,rfl,LeA.eqb ?_⟩,trivial⟩⟩ ⟨?_,trivial⟩⟩
 iterate 2 focus (first|rfl|(simp;done)|(simp_all;done)|omega)
 focus (first|rfl|(have e:z.1=4:=(by omega);rw[e,←Nat.succ_mul];rfl))
 try simp only[Q] at h2p
 refine Exists.intro ((o.1+1,y.2)) ⟨⟨(fun h=>by
    have e:y.1=w.length:=by omega
    have h1:=hg2.2.1 h
    rw[e] at h1
    have h2:zbn w (o.1+1)=zbn w o.1:=h1
    rw[h2];exact zrK hd.cl h2),(fun h=>by
    have e:y.1=w.length:=by omega
    have h1:=hg2.2.2 h
    rw[e] at h1
    have h3:=hg1.2 h1s
    show o.1+1≤w.length*4+1
    rcases Nat.lt_or_ge o.1 (w.length*4+1) with h4|h4
    ·omega
    ·refine absurd ?_ (Strict.ne h1)
     rw[zmw hd.cl h4]
     exact(zmw hd.cl (k:=o.1+1) (by omega)).symm)⟩,(by have h3:=hg1.2 h1s;rw[h1s];dsimp only;simp only[if_true];split<;>omega),sx ⟨⟨_,rfl,LeA.eqb ?_⟩,trivial⟩ ⟨?_,trivial⟩⟩
 focus (first|rfl|(simp;done)|(simp_all;done)|omega)
 focus (first|rfl|(have e:y.1=w.length:=(by omega);rw[e];rfl))
 try simp only[Q] at h1p
 refine CWp.frzB hk 3 71 0 rfl rfl zr2 rfl ?_
 refine evc [] [] ?_
 refine rn0 (r1 rfl) (.eqd ?_)
 rotate_left
 all_goals (rw[hg1.1 h1s])
end Go.Proofs.YtcnjkjdmbnhcaaaGreat
namespace Go.Proofs.YtcnjkjdmbnhcaaaGreat
open Go
set_option linter.unusedSimpArgs false
set_option linter.unusedVariables false
set_option maxRecDepth 100000
set_option maxHeartbeats 4000000
theorem zut (w:List Data) (t:Ty) (p:Pat):(zaR w 10 t p 0).1.isSome=isP w t p:=by
 have h:=(zfx w 10 t p 0).1
 rw[h]
 unfold zbZ isP
 rw[Int.zero_add]
 split
 ·rename_i hz;rw[hz];rfl
 ·rename_i hz
  cases hc:(zaw w 10 t p&&(decide ((p.size:Int)≤60)&&linP w 10 t p)) with
  |true=>exact absurd hc hz
  |false=>rfl
theorem zfk {w:List Data} (hw:WT w){a k:Int}{p:Pat} (ht:TyIn w.length ⟨a,k⟩) (hok:p.ok):
  FnD Tryz.prog 176 [.d (zao w),.agg [.d (.i a),.d (.i k)],.agg [.d (.i p.op),.d (.i p.ctor),.d (.i p.n),.d (.i p.m),.d (.i p.var),.d (zaf p.kids)]] [] (.tup [.d (zcZ (zdm (zaR w 10 ⟨a,k⟩ p 0).1)),.d (.bool (isP w ⟨a,k⟩ p))]) []:=by
 rw[←zut]
 refine bd Tryz.f176 15 [] [] fun w0 F0 own kept hk=>?_
 refine Walk.box (id:=3004) .none rfl rfl rfl rfl rfl rfl rfl ?_
 refine Walk.box (id:=3005) .none rfl rfl rfl rfl rfl rfl rfl ?_
 refine ev ?_
 refine Walk.alloc (id:=950) tz3 rfl .none rfl rfl rfl rfl ?_
 refine Walk.store ty3 .none rfl rfl rfl rfl rfl rfl (by simp) rfl ?_
 refine tv ?_
 refine Walk.call (cr:=[]) zoi (zdL hw 10 (c:=0) (by omega) (by omega) ht hok (by omega) (by omega)) rfl .none rfl rfl (LeL.refl _) ⟨rfl,trivial⟩ rfl rfl rfl ?_
 refine ev ?_
 refine rn0 (r2 rfl rfl) (.tup (.cons (.eqd ?_) (.cons (.eqd ?_) .nil)))
 rotate_left 2
 all_goals (rfl)
theorem zj0 {w:List Data} (hw:WT w){a k:Int}{p:Pat} (ht:TyIn w.length ⟨a,k⟩) (hok:p.ok):
  FnD Tryz.prog 119 [.d (zao w),.agg [.d (.i a),.d (.i k)],.agg [.d (.i p.op),.d (.i p.ctor),.d (.i p.n),.d (.i p.m),.d (.i p.var),.d (zaf p.kids)]] [] (.d (.bool (isP w ⟨a,k⟩ p))) []:=by
 refine bd Tryz.f119 17 [] [] fun w0 F0 own kept hk=>?_
 refine Walk.box (id:=3004) .none rfl rfl rfl rfl rfl rfl rfl ?_
 refine Walk.box (id:=3005) .none rfl rfl rfl rfl rfl rfl rfl ?_
 refine ev ?_
 refine wc zqy (zfk hw ht hok) rfl rfl ?_
 refine ev ?_
 refine rn0 (r1 rfl) (.eqd ?_)
 rotate_left
 all_goals (rfl)
end Go.Proofs.YtcnjkjdmbnhcaaaGreat
namespace Go.Proofs.YtcnjkjdmbnhcaaaGreat
open Go
set_option linter.unusedSimpArgs false
set_option linter.unusedVariables false
set_option maxRecDepth 100000
set_option maxHeartbeats 2000000
theorem zr4 {w:List Data} (hs:WSmall w) (hv:za8 w=true):Dp w:=by
 have hw:=zkS hs hv
 have hW:=(zdu w).1 hv
 refine⟨hw,fun s hs c hc u hu=>?_,hW.len,fun s hs=>?_⟩
 ·obtain⟨j,rfl,hj⟩:=zoR (d:=s / 4) (k:=((s % 4:Nat):Int)) hc
  have hu':u∈zaj w ⟨((s / 4:Nat):Int),((s % 4:Nat):Int)⟩ (j:Int):=hu
  simp only[zaj,Int.toNat_natCast,List.mem_map] at hu'
  obtain⟨x,hx,rfl⟩:=hu'
  have hco:=hW.ctor _ (zal (l:=w) (i:=s / 4) (by omega)) _ (zal hj)
  simp only[zaO,Bool.and_eq_true,Bool.not_eq_true',List.any_eq_false] at hco
  have hax:zbx w.length x=true:=by
   have:=hco.2.2.2 x hx
   cases h:zbx w.length x with
   |true=>rfl
   |false=>rw[h] at this;exact absurd rfl this
  have hci:=hco.2.2.1
  simp only[zbx,zas,Bool.or_eq_true,Bool.and_eq_true,decide_eq_true_eq,and_true] at hax hci
  have key:∀y:Ty,(y.data = -1∨(0≤y.data∧y.data<w.length∧0≤y.index∧y.index≤3))→InS (w.length*4) y:=by
   rintro ⟨a,k⟩ h
   rcases h with h|⟨h1,h2,h3,h4⟩
   ·exact .inl h
   ·refine .inr ⟨?_, ?_⟩
    ·simp only[zcT] at *;omega
    ·obtain⟨i,rfl⟩:=Int.eq_ofNat_of_zero_le h1
     obtain⟨m,rfl⟩:=Int.eq_ofNat_of_zero_le h3
     simp only[zcT,Int.toNat_natCast]
     exact zh3 (by simp only at h4;omega)
  refine key _ ?_
  unfold zci zcs
  split
  ·dsimp only
   rcases hax with h|h
   ·omega
   ·right
    refine⟨by omega,by omega, ?_⟩
    split<;>omega
  ·rcases hax with h|h
   ·exact .inl h.1
   ·right;omega
 ·have h1:=zf2 (tyS s).index (nth w (tyS s).data.toNat).ctors 0
  have h2:=(hW.data _ (zal (l:=w) (i:=s / 4) (by omega))).2.2
  show(za2 (tyS s).index 0 (nth w (tyS s).data.toNat).ctors).length≤4
  have e:(tyS s).data.toNat=s / 4:=by simp only[tyS,Int.toNat_natCast]
  rw[e] at h1 ⊢
  omega
theorem zcK {n:Nat}{t:Ty} (h:InS (n*4) t):TyIn n t:=by
 rcases h with h|⟨h1,h2⟩
 ·exact .inl h
 ·refine .inr ⟨zcT t / 4, ?_,by omega⟩
  have:=congrArg Ty.data h2
  exact this.symm
theorem zcv {w:List Data} (hd:Dp w){t:Ty}{c:Int} (ht:InS (w.length*4) t) (hc:c∈zaA w t):∀u∈zaj w t c,InS (w.length*4) u:=by
 rcases ht with h|⟨h1,h2⟩
 ·unfold zaA at hc;rw[if_pos h] at hc;simp at hc
 ·have hx:=hd.cl _ h1
  rw[h2] at hx
  have:c∈zbm w t:=by
   unfold zaA at hc
   split at hc
   ·simp at hc
   ·exact hc
  exact hx c this
theorem ziT {w:List Data}{a k k' c:Int}:(zaj w ⟨a,k⟩ c).length=(zaj w ⟨a,k'⟩ c).length∧∀i,(nth (zaj w ⟨a,k⟩ c) i).data=(nth (zaj w ⟨a,k'⟩ c) i).data:=by
 have hd:∀(k:Int) (t:Ty),(zci k t).data=t.data:=fun k t=>by unfold zci;split<;>rfl
 refine⟨by simp[zaj],fun i=>?_⟩
 unfold zaj
 dsimp only
 generalize nth (nth w a.toNat).ctors c.toNat=q
 simp only[nth,List.getD_eq_getElem?_getD,List.getElem?_map]
 cases q.args[i]? with
 |none=>rfl
 |some x=>simp only[Option.map_some,Option.getD_some,hd]
structure PKids (w:List Data) (n:Nat) (a k k':Int) (p:Pat):Prop where
 len5:p.op=5→p.kids.length=2
 len6:p.op=6→p.kids.length=1
 len4:p.op=4→p.kids.length=(zaj w ⟨a,k⟩ p.ctor).length
 one:p.op=5∨p.op=6→zaw w n ⟨a,k'⟩ (nth p.kids 0)=true
 two:p.op=5→zaw w n ⟨a,k'⟩ (nth p.kids 1)=true
 arg:p.op=4→∀i,i<(zaj w ⟨a,k⟩ p.ctor).length→zaw w n ⟨(nth (zaj w ⟨a,k⟩ p.ctor) i).data,(nth (zaj w ⟨a,k'⟩ p.ctor) i).index⟩ (nth p.kids i)=true
 mem:p.op=4→p.ctor∈zaA w ⟨a,k'⟩
 ops:p.op=1∨p.op=2∨(p.op=3∧a = -1)∨p.op=4∨p.op=5∨p.op=6
theorem zus {w:List Data}{n:Nat}{a k k':Int}{p:Pat} (h:zaw w (n+1) ⟨a,k'⟩ p=true):PKids w n a k k' p:=by
 obtain⟨ho,hl⟩:=zbY h
 have hk:=fun i (hi:i<p.kids.length)=>zbX h hi
 have ht4:p.op=4→zag w ⟨a,k'⟩ p=zaj w ⟨a,k'⟩ p.ctor:=fun h=>by unfold zag;rw[if_pos h]
 have ht5:p.op=5→zag w ⟨a,k'⟩ p=[⟨a,k'⟩,⟨a,k'⟩]:=fun h=>by unfold zag;rw[if_neg (by omega),if_pos h]
 have ht6:p.op=6→zag w ⟨a,k'⟩ p=[⟨a,k'⟩]:=fun h=>by unfold zag;rw[if_neg (by omega),if_neg (by omega),if_pos h]
 have l5:p.op=5→p.kids.length=2:=fun h=>by rw[hl,ht5 h];rfl
 have l6:p.op=6→p.kids.length=1:=fun h=>by rw[hl,ht6 h];rfl
 refine⟨l5,l6,fun h=>by rw[hl,ht4 h,ziT.1],fun h=>?_,fun h=>?_,fun h i hi=>?_,zcw ho, ?_⟩
 ·rcases h with h|h
  ·have:=hk 0 (by rw[l5 h];omega);rwa [ht5 h] at this
  ·have:=hk 0 (by rw[l6 h];omega);rwa [ht6 h] at this
 ·have:=hk 1 (by rw[l5 h];omega);rwa [ht5 h] at this
 ·rw[(ziT (k':=k')).1] at hi
  have:=hk i (by rw[hl,ht4 h];exact hi)
  rw[ht4 h] at this
  rw[(ziT (k':=k')).2]
  exact this
 ·unfold ownP at ho
  have:=of_decide_eq_true ho
  obtain⟨_,_,_,_,q⟩:=this
  simp only at q
  omega
theorem zjZ {w:List Data} (hd:Dp w):FnD Tryz.prog 69 [.d (zao w)] [] (.d (sPtr w (zaZ w))) []:=by
 refine bd Tryz.f69 8 [] [999999] fun w0 F0 own kept hk=>?_
 refine wc zs3 (zku hd) rfl rfl ?_
 refine Walk.build zuu (ks:=[0,1]) (xs:=[_,_]) rfl rfl .none rfl rfl rfl ?_
 refine Walk.box (id:=3007) .none rfl rfl rfl rfl rfl rfl rfl ?_
 refine ev ?_
 refine CWp.frzB hk 2 3007 0 rfl rfl rfl rfl ?_
 refine CWp.ret ?_
 focus (refine rn0 (r1 rfl) (.refl _);all_goals (first|rfl|(simp[];done)|(simp_all;done)|(simp_all;omega)|omega))
theorem zd7 {w:List Data}{a k:Int} (h:zbD w ⟨a,k⟩=true):za8 w=true∧TyIn w.length ⟨a,k⟩∧(a≠ -1→0≤a∧a.toNat<w.length∧0≤k∧k≤3):=by
 unfold zbD at h
 rw[Bool.and_eq_true] at h
 obtain⟨h1,h2⟩:=h
 simp only[zcE,zas,Bool.or_eq_true,Bool.and_eq_true,decide_eq_true_eq,and_true] at h2
 refine⟨h1, ?_,fun ha=>by omega⟩
 rcases h2 with h|h
 ·exact .inl h.1
 ·exact .inr ⟨a.toNat,by simp only;omega,by omega⟩
theorem zq6 {n d j:Nat} (hd:d<n) (hj:j<4):InS (n*4) ⟨(d:Int),(j:Int)⟩:=
 .inr ⟨by simp only[zcT,Int.toNat_natCast];omega,by simp only[zcT,Int.toNat_natCast];exact zh3 hj⟩
structure PVal (w:List Data) (a k:Int) (p:Pat):Prop where
 dp:Dp w
 tin:TyIn w.length ⟨a,k⟩
 shape:zaw w 10 ⟨a,k⟩ p=true
 rng:a≠ -1→0≤a∧a.toNat<w.length∧0≤k∧k≤3
theorem zkL {w:List Data}{a b:Int} (hs:WSmall w):FnD Tryz.prog 121 [.d (zao w),.agg [.d (.i a),.d (.i b)]] [] (.d (.bool (zbD w ⟨a,b⟩))) []:=by
 rw[←zsT];exact zj7 hs
def zbg (w:List Data) (f:Nat→Nat):Nat→Ty→Pat→Bool
 |0,_,_=>true
 |n+1,t,p=>
  if p.op=1∨p.op=2 then decide (dv f t=0)
  else if p.op=5 then zbg w f n t (nth p.kids 0)&&zbg w f n t (nth p.kids 1)
  else !(all2 (fun u q=> !zbg w f n u q) (zag w t p) p.kids)
theorem zfI {w:List Data}{f:Nat→Nat}{n:Nat}{t:Ty}{p:Pat}:zbg w f (n+1) t p=if p.op=1∨p.op=2 then decide (dv f t=0)
  else if p.op=5 then zbg w f n t (nth p.kids 0)&&zbg w f n t (nth p.kids 1)
  else !(all2 (fun u q=> !zbg w f n u q) (zag w t p) p.kids):=rfl
theorem zrA {α β:Type} [Inhabited α] [Inhabited β]{f:α→β→Bool}{a:List α}{b:List β} (hl:a.length=b.length) (h:all2 f a b=true):∀i,i<a.length→f (nth a i) (nth b i)=true:=fun i hi=>by
 cases hf:f (nth a i) (nth b i) with
 |true=>rfl
 |false=>rw[zbV hi hl hf] at h;exact absurd h (by simp)
theorem zrx {w:List Data}{t:Ty}{c:Int} (h:c∈zaA w t):c∈zbm w t:=by
 unfold zaA at h
 split at h
 ·simp at h
 ·exact h
theorem zkw {w:List Data} (hw:WT w){a k:Int}{p:Pat} (ht:TyIn w.length ⟨a,k⟩):
  FnD Tryz.prog 228 [.d (zao w),.agg [.d (.i a),.d (.i k)],.agg [.d (.i p.op),.d (.i p.ctor),.d (.i p.n),.d (.i p.m),.d (.i p.var),.d (zaf p.kids)]] [] (.d (zbw (zcO w ⟨a,k⟩ p))) []:=by
 have hsh:=ziG hw (p:=p) ht
 refine bd Tryz.f228 17 [] [] fun w0 F0 own kept hk=>?_
 refine Walk.box (id:=3004) .none rfl rfl rfl rfl rfl rfl rfl ?_
 refine Walk.box (id:=3005) .none rfl rfl rfl rfl rfl rfl rfl ?_
 refine ev ?_
 refine wc zom (hsh) rfl rfl ?_
 refine ev ?_
 refine rn0 (r1 rfl) (.eqd ?_)
 rotate_left
 all_goals (rfl)
theorem zcJ {w:List Data} (hd:Dp w){f:Nat→Nat}:∀(n:Nat){a k:Int}{p:Pat},zaw w n ⟨a,k⟩ p=true→InS (w.length*4) ⟨a,k⟩→p.ok→
  FnD Tryz.prog 158 [.d (sPtr w f),.agg [.d (.i a),.d (.i k)],.agg [.d (.i p.op),.d (.i p.ctor),.d (.i p.n),.d (.i p.m),.d (.i p.var),.d (zaf p.kids)]] [] (.d (.bool (zbg w f n ⟨a,k⟩ p))) []
 |0,a,k,p,h,_,_=>by simp[zaw] at h
 |n+1,a,k,p,h,hi,hok=>by
  rw[Pat.ok_iff] at hok
  have hw:=hd.wt
  have hw4:=hd.four
  have ht:=zcK hi
  have pk:=zus (k:=k) h
  obtain⟨ho,hlen⟩:=zbY h
  have hkid:=fun i (hi:i<p.kids.length)=>zbX h hi
  have hops:=pk.ops
  have l5:=pk.len5
  have hk1:=pk.one
  have hk2:=pk.two
  have hsT:zcO w ⟨a,k⟩ p=zag w ⟨a,k⟩ p:=by
   unfold zcO;rw[if_neg (fun h=>h.2 (pk.mem h.1))]
  have hkt:=zkw hw (p:=p) ht
  rw[hsT] at hkt
  have hins:∀i,i<(zag w ⟨a,k⟩ p).length→InS (w.length*4) (nth (zag w ⟨a,k⟩ p) i):=fun i hl=>by
   have hm:=zal hl
   unfold zag at hm ⊢
   split
   ·rename_i h4
    rw[if_pos h4] at hm
    exact zcv hd hi (pk.mem h4) _ hm
   ·rename_i h4
    rw[if_neg h4] at hm
    split
    ·rename_i h5
     rw[if_pos h5] at hm
     simp only[List.mem_cons,List.not_mem_nil,or_false,or_self] at hm
     rw[hm];exact hi
    ·rename_i h5
     rw[if_neg h5] at hm
     split
     ·rename_i h6
      rw[if_pos h6] at hm
      simp only[List.mem_cons,List.not_mem_nil,or_false] at hm
      rw[hm];exact hi
     ·rename_i h6
      rw[if_neg h6] at hm
      simp at hm
  have htl:(zag w ⟨a,k⟩ p).length≤1000000000000:=by have:=hok.1;omega
  refine bd Tryz.f158 61 [] [] fun w0 F0 own kept hk=>?_
  refine Walk.box (id:=3004) .none rfl rfl rfl rfl rfl rfl rfl ?_
  refine Walk.box (id:=3005) .none rfl rfl rfl rfl rfl rfl rfl ?_
  refine ev ?_
  refine sq (fun h1 h1p h1s=>?_) fun h1 h1p h1s=>?_
  try simp only[Q,Pat.cs_len] at h1p
  refine sq (fun h2 h2p h2s=>?_) fun h2 h2p h2s=>?_
  try simp only[Q,Pat.cs_len] at h2p
  refine wc ziW (zln (n:=w.length*4) (f:=f) hi (by omega)) rfl rfl ?_
  refine evd [] [] ?_
  refine dr ?_
  refine rn0 (r1 rfl) (.eqd ?_)
  rotate_left
  try simp only[Q,Pat.cs_len] at h2p
  refine sq (fun h3 h3p h3s=>?_) fun h3 h3p h3s=>?_
  try simp only[Q,Pat.cs_len] at h3p
  refine Walk.idx (i:=0) sl45 .none rfl rfl rfl rfl (zaI (by omega)) rfl ?_
  refine evd [] [] ?_
  refine wc zgF (zcJ hd n (hk1 (by omega)) hi (Pats.ok_mem hok.2 _ (zal (i:=0) (by omega)))) rfl rfl ?_
  refine evd [] [] ?_
  refine sq (fun h4 h4p h4s=>?_) fun h4 h4p h4s=>?_
  try simp only[Q,Pat.cs_len] at h4p
  refine Walk.idx (i:=1) sl45 (.some rfl rfl h4) rfl rfl rfl rfl (zaI (by omega)) rfl ?_
  refine evd [] [(30,true)] ?_ ⟨⟨_,rfl,h4⟩,trivial⟩
  refine Walk.call (cr:=[]) zgF (zcJ hd n (hk2 (by omega)) hi (Pats.ok_mem hok.2 _ (zal (i:=1) (by omega)))) rfl (.some rfl rfl h4) rfl rfl (LeL.refl _) trivial rfl rfl rfl ?_
  refine evd [] [(30,true)] ?_ ⟨⟨_,rfl,h4⟩,trivial⟩
  refine dr ?_
  refine rn0 (r1 rfl) (.eqd ?_)
  rotate_left
  try simp only[Q,Pat.cs_len] at h4p
  refine dr ?_
  refine rn0 (r1 rfl) (.eqd ?_)
  rotate_left
  try simp only[Q,Pat.cs_len] at h3p
  refine wc zqE (hkt) rfl rfl ?_
  refine evd [] [] ?_
  refine dr ?_
  refine CWp.loopX (ι:=Nat) hk (fun i=>[(47,.d (.i (i:Int)))]) [6,7,8,48,49,50,51,52,53,54,55,56,57,58,59,60] (fun i=>[]) (fun i=>i≤(zag w ⟨a,k⟩ p).length∧∀i',i'<i→zbg w f n (nth (zag w ⟨a,k⟩ p) i') (nth p.kids i')=false) (fun i=>(zag w ⟨a,k⟩ p).length-i) 0 ⟨by omega,fun _ h=>absurd h (by omega)⟩ ⟨⟨_,rfl,LeA.eqi ?_⟩,trivial⟩ trivial (fun x=>rfl) (fun i hg1=>?_)
  focus (first|rfl|(simp;done)|(simp_all;done)|omega)
  refine evc [] [] ?_
  refine sq (fun h5 h5p h5s=>?_) fun h5 h5p h5s=>?_
  try simp only[Q,Pat.cs_len] at h5p
  refine Walk.idx zbd .none rfl rfl rfl rfl (zay (by omega)) rfl ?_
  refine ev ?_
  refine Walk.alloc (id:=3008) tz33 rfl .none rfl rfl rfl rfl ?_
  refine ev ?_
  refine Walk.store ty33 .none rfl rfl rfl rfl rfl rfl (by simp) rfl ?_
  refine tv ?_
  refine Walk.idx sl45 .none rfl rfl rfl rfl (zaI (by omega)) rfl ?_
  refine evd [] [] ?_
  refine wc zgF (zcJ hd n (hkid i (by omega)) (hins i (by omega)) (Pats.ok_mem hok.2 _ (zal (by omega)))) rfl rfl ?_
  refine dr ?_
  refine sq (fun h6 h6p h6s=>?_) fun h6 h6p h6s=>?_
  try simp only[Q,Pat.cs_len] at h6p
  refine rn0 (r1 rfl) (.eqd ?_)
  rotate_left
  try simp only[Q,Pat.cs_len] at h6p
  refine ar ?_
  refine Exists.intro (i+1) ⟨⟨by omega,za1 hg1.2 (by assumption)⟩,(by omega),sx ⟨⟨_,rfl,LeA.eqi ?_⟩,trivial⟩ trivial⟩
  focus (first|rfl|(simp;done)|(simp_all;done)|omega)
  try simp only[Q,Pat.cs_len] at h5p
  refine rn0 (r1 rfl) (.eqd ?_)
  rotate_left
  try simp only[Q,Pat.cs_len] at h1p
  refine sq (fun h7 h7p h7s=>?_) fun h7 h7p h7s=>?_
  try simp only[Q,Pat.cs_len] at h7p
  refine wc ziW (zln (n:=w.length*4) (f:=f) hi (by omega)) rfl rfl ?_
  refine evd [] [] ?_
  refine dr ?_
  refine rn0 (r1 rfl) (.eqd ?_)
  rotate_left
  try simp only[Q,Pat.cs_len] at h7p
  refine sq (fun h8 h8p h8s=>?_) fun h8 h8p h8s=>?_
  try simp only[Q,Pat.cs_len] at h8p
  refine Walk.idx (i:=0) sl45 .none rfl rfl rfl rfl (zaI (by omega)) rfl ?_
  refine evd [] [] ?_
  refine wc zgF (zcJ hd n (hk1 (by omega)) hi (Pats.ok_mem hok.2 _ (zal (i:=0) (by omega)))) rfl rfl ?_
  refine evd [] [] ?_
  refine sq (fun h9 h9p h9s=>?_) fun h9 h9p h9s=>?_
  try simp only[Q,Pat.cs_len] at h9p
  refine Walk.idx (i:=1) sl45 (.some rfl rfl h9) rfl rfl rfl rfl (zaI (by omega)) rfl ?_
  refine evd [] [(30,true)] ?_ ⟨⟨_,rfl,h9⟩,trivial⟩
  refine Walk.call (cr:=[]) zgF (zcJ hd n (hk2 (by omega)) hi (Pats.ok_mem hok.2 _ (zal (i:=1) (by omega)))) rfl (.some rfl rfl h9) rfl rfl (LeL.refl _) trivial rfl rfl rfl ?_
  refine evd [] [(30,true)] ?_ ⟨⟨_,rfl,h9⟩,trivial⟩
  refine dr ?_
  refine rn0 (r1 rfl) (.eqd ?_)
  rotate_left
  try simp only[Q,Pat.cs_len] at h9p
  refine dr ?_
  refine rn0 (r1 rfl) (.eqd ?_)
  rotate_left
  try simp only[Q,Pat.cs_len] at h8p
  refine wc zqE (hkt) rfl rfl ?_
  refine evd [] [] ?_
  refine dr ?_
  refine CWp.loopX (ι:=Nat) hk (fun i=>[(47,.d (.i (i:Int)))]) [6,7,8,48,49,50,51,52,53,54,55,56,57,58,59,60] (fun i=>[]) (fun i=>i≤(zag w ⟨a,k⟩ p).length∧∀i',i'<i→zbg w f n (nth (zag w ⟨a,k⟩ p) i') (nth p.kids i')=false) (fun i=>(zag w ⟨a,k⟩ p).length-i) 0 ⟨by omega,fun _ h=>absurd h (by omega)⟩ ⟨⟨_,rfl,LeA.eqi ?_⟩,trivial⟩ trivial (fun x=>rfl) (fun i hg1=>?_)
  focus (first|rfl|(simp;done)|(simp_all;done)|omega)
  refine evc [] [] ?_
  refine sq (fun h10 h10p h10s=>?_) fun h10 h10p h10s=>?_
  try simp only[Q,Pat.cs_len] at h10p
  refine Walk.idx zbd .none rfl rfl rfl rfl (zay (by omega)) rfl ?_
  refine ev ?_
  refine Walk.alloc (id:=3008) tz33 rfl .none rfl rfl rfl rfl ?_
  refine ev ?_
  refine Walk.store ty33 .none rfl rfl rfl rfl rfl rfl (by simp) rfl ?_
  refine tv ?_
  refine Walk.idx sl45 .none rfl rfl rfl rfl (zaI (by omega)) rfl ?_
  refine evd [] [] ?_
  refine wc zgF (zcJ hd n (hkid i (by omega)) (hins i (by omega)) (Pats.ok_mem hok.2 _ (zal (by omega)))) rfl rfl ?_
  refine dr ?_
  refine sq (fun h11 h11p h11s=>?_) fun h11 h11p h11s=>?_
  try simp only[Q,Pat.cs_len] at h11p
  refine rn0 (r1 rfl) (.eqd ?_)
  rotate_left
  try simp only[Q,Pat.cs_len] at h11p
  refine ar ?_
  refine Exists.intro (i+1) ⟨⟨by omega,za1 hg1.2 (by assumption)⟩,(by omega),sx ⟨⟨_,rfl,LeA.eqi ?_⟩,trivial⟩ trivial⟩
  focus (first|rfl|(simp;done)|(simp_all;done)|omega)
  try simp only[Q,Pat.cs_len] at h10p
  refine rn0 (r1 rfl) (.eqd ?_)
  rotate_left
  all_goals (refine congrArg D.bool ?_;rw[zfI];first|(rw[if_pos (by omega)];exact decide_eq_decide.2 (by omega))|(rw[if_neg (by omega),if_pos (by omega)];first|rfl|(simp_all;done))|(rw[if_neg (by omega),if_neg (by omega)];first|(rw[zbV (i:=i) (by omega) (by omega) (by show(!_)=false;rw[Bool.not_eq_false'];assumption)];rfl)|(rw[zcp (by omega) (fun x hx=>by have:=hg1.2 x (by omega);simp_all)];rfl)))
mutual
theorem zqo:∀v:Val,zqn v v=true
 | .mk _ _ ks=>by simp[zqn,zkj ks]
theorem zkj:∀l:List Val,zmc l l=true
 | []=>rfl
 |v::r=>by simp[zmc,zqo v,zkj r]
end
theorem Val.c_len (v:Val):v.c.length=3:=by cases v;rfl
theorem Val.cs_rows {l:List Val}:∀x,x∈Val.cs l→x.length=3:=by
 intro x hx
 rw[Val.cs_eq] at hx
 obtain⟨y,_,rfl⟩:=List.mem_map.1 hx
 exact y.c_len
theorem Val.cs_nil (l:List Val):Val.cs l=[]↔l=[]:=by rw[Val.cs_eq];simp
mutual
def mVal:Val→Nat
 | .mk _ _ ks=>zlA ks
def zlA:List Val→Nat
 | []=>0
 |v::r=>1+mVal v+zlA r
end
mutual
def Val.szM:Val→Int
 | .mk _ _ ks=>2+Vals.szM ks
def Vals.szM:List Val→Int
 | []=>0
 |v::r=>v.szM+Vals.szM r
end
mutual
def Val.one (k:Int):Val→Val
 | .mk _ _ ks=> .mk k (k+1) (Vals.one (k+1+1) ks)
def Vals.one (k:Int):List Val→List Val
 | []=>[]
 |v::r=>v.one k::Vals.one (k+v.szM) r
end
theorem Vals.szM_eq:∀l:List Val,Vals.szM l=szL Val.szM l
 | []=>rfl
 |v::r=>by simp only[Vals.szM,szL,Vals.szM_eq r]
theorem Vals.one_eq:∀(l:List Val) (k:Int),Vals.one k l=mkL Val.one Val.szM k l
 | [],_=>rfl
 |v::r,k=>by simp only[Vals.one,mkL,Vals.one_eq r]
theorem Val.szM_kids (v:Val):v.szM=2+szL Val.szM v.kids:=by cases v;simp only[Val.szM,Val.kids,Vals.szM_eq]
theorem Val.one_kids (v:Val) (k:Int):(v.one k).kids=mkL Val.one Val.szM (k+1+1) v.kids:=by cases v;simp only[Val.one,Val.kids,Vals.one_eq]
theorem Val.one_sc (v:Val) (k:Int):(Val.one k v).ctor=k∧(Val.one k v).num=k+1:=by cases v;exact⟨rfl,rfl⟩
mutual
theorem Val.szM_nn:∀v:Val,0≤v.szM
 | .mk _ _ ks=>by have:=Vals.szM_nn ks;simp only[Val.szM];omega
theorem Vals.szM_nn:∀l:List Val,0≤Vals.szM l
 | []=>by simp[Vals.szM]
 |v::r=>by have:=Val.szM_nn v;have:=Vals.szM_nn r;simp only[Vals.szM];omega
end
mutual
theorem Val.szM_le:∀v:Val,v.szM≤2+2*(mVal v:Int)
 | .mk _ _ ks=>by have:=Vals.szM_le ks;simp only[Val.szM,mVal];omega
theorem Vals.szM_le:∀l:List Val,Vals.szM l≤2*(zlA l:Int)
 | []=>by simp[Vals.szM,zlA]
 |v::r=>by have:=Val.szM_le v;have:=Vals.szM_le r;simp only[Vals.szM,zlA];omega
end
def zsq (w:List Data):Nat→Ty→Val→Bool
 |0,_,_=>false
 |n+1,t,v=>if t.data = -1 then decide (v.ctor = -1)&&(decide (0≤v.num)&&(decide (v.num≤9)&&decide (v.kids.length=0)))
   else if v.num=0∧v.ctor∈zbm w t then all2 (zsq w n) (zaj w t v.ctor) v.kids else false
mutual
def cntV (m:Int):Val→Int
 | .mk _ _ ks=>cntL m 1 ks
def cntL (m n:Int):List Val→Int
 | []=>n
 |k::r=>if n≤m then cntL m (n+cntV (m-n) k) r else n
end
theorem zqR {m n:Int}{l:List Val} (h:¬n≤m):cntL m n l=n:=by cases l<;>simp[cntL,h]
mutual
theorem zpC:∀(v:Val) (m:Int),1≤cntV m v∧cntV m v≤v.size
 | .mk _ _ ks,m=>by
  have:=zmi ks m 1 (by omega)
  simp only[cntV,Val.size];push_cast;omega
theorem zmi:∀(l:List Val) (m n:Int),1≤n→1≤cntL m n l∧cntL m n l≤n+Vals.size l
 | [],m,n,h=>by simp[cntL,Vals.size];omega
 |k::r,m,n,h=>by
  have h1:=zpC k (m-n)
  have h2:=zmi r m (n+cntV (m-n) k) (by omega)
  simp only[cntL,Vals.size]
  split
  ·push_cast;omega
  ·push_cast;omega
end
mutual
theorem zrF:∀(v:Val) (m:Int),(cntV m v≤m↔(v.size:Int)≤m)∧(cntV m v≤m→cntV m v=v.size)
 | .mk _ _ ks,m=>by
  have:=zoo ks m 1
  simp only[cntV,Val.size];push_cast;exact this
theorem zoo:∀(l:List Val) (m n:Int),(cntL m n l≤m↔n+(Vals.size l:Int)≤m)∧(cntL m n l≤m→cntL m n l=n+Vals.size l)
 | [],m,n=>by simp[cntL,Vals.size]
 |k::r,m,n=>by
  have h1:=zrF k (m-n)
  have h2:=zoo r m (n+cntV (m-n) k)
  have h3:=zmi r m (n+cntV (m-n) k)
  have h4:=zpC k (m-n)
  simp only[cntL,Vals.size]
  push_cast
  by_cases hn:n≤m
  ·rw[if_pos hn]
   by_cases h5:cntV (m-n) k≤m-n
   ·have h6:=h1.2 h5
    rw[h6] at h2 ⊢
    constructor
    ·rw[h2.1];constructor<;>intro h<;>omega
    ·intro h;rw[h2.2 h];omega
   ·have h7:¬(k.size:Int)≤m-n:=fun h=>h5 (h1.1.2 h)
    have h8:¬n+cntV (m-n) k≤m:=by omega
    rw[zqR h8]
    constructor
    ·constructor<;>intro h<;>omega
    ·intro h;omega
  ·rw[if_neg hn]
   constructor
   ·constructor<;>intro h<;>omega
   ·intro h;omega
end
theorem Vals.size_split {pre rest l:List Val}{y:Val} (h:pre++y::rest=l):Vals.size l=Vals.size pre+y.size+Vals.size rest:=by
 subst h
 induction pre with
 |nil=>simp[Vals.size]
 |cons x r ih=>simp only[List.cons_append,Vals.size,ih];omega
structure Bd where
 var:Int
 val:Val
def Bd.c (b:Bd):List D:=[.i b.var,.i b.val.ctor,.i b.val.num,zsK b.val.kids]
instance:Inhabited Bd:=⟨⟨0,default⟩⟩
def BdOk (m:Nat) (l:List Bd):Prop:=∀x∈l,x.val.ok∧x.val.size≤m
theorem BdOk.app {m:Nat}{a b:List Bd} (h1:BdOk m a) (h2:BdOk m b):BdOk m (a++b):=fun x hx=>by
 rcases List.mem_append.1 hx with h|h
 ·exact h1 x h
 ·exact h2 x h
theorem BdOk.mono {m k:Nat}{a:List Bd} (h:BdOk m a) (hk:m≤k):BdOk k a:=fun x hx=>⟨(h x hx).1,Nat.le_trans (h x hx).2 hk⟩
theorem zua {w:List Data}{t:Ty}{p:Pat} (h:p.op=5):zag w t p=[t,t]:=by unfold zag;rw[if_neg (by omega),if_pos h]
theorem zub {w:List Data}{t:Ty}{p:Pat} (h:p.op=6):zag w t p=[t]:=by unfold zag;rw[if_neg (by omega),if_neg (by omega),if_pos h]
theorem zbG {w:List Data}{t:Ty}{p:Pat} (h:p.op=4):zag w t p=zaj w t p.ctor:=by unfold zag;rw[if_pos h]
theorem zrW {w:List Data}{n:Nat}{t:Ty}{p:Pat} (h:zaw w (n+1) t p=true):p.op=1∨p.op=2∨p.op=3∨p.op=4∨p.op=5∨p.op=6:=by
 have h1:=(zbY h).1
 unfold ownP at h1
 have h2:=(of_decide_eq_true h1).2.2.2.2
 omega
theorem zjp {w:List Data}{n:Nat}{t:Ty}{p:Pat} (h:zaw w (n+1) t p=true) (h5:p.op=5):p.kids.length=2∧zaw w n t (nth p.kids 0)=true∧zaw w n t (nth p.kids 1)=true:=by
 have hl:=(zbY h).2
 have h0:=fun i hi=>zbX h (i:=i) hi
 rw[zua h5] at hl h0
 have hl':p.kids.length=2:=hl
 exact⟨hl',h0 0 (by omega),h0 1 (by omega)⟩
theorem zjo {w:List Data}{n:Nat}{t:Ty}{p:Pat} (h:zaw w (n+1) t p=true) (h6:p.op=6):p.kids.length=1∧zaw w n t (nth p.kids 0)=true:=by
 have hl:=(zbY h).2
 have h0:=fun i hi=>zbX h (i:=i) hi
 rw[zub h6] at hl h0
 have hl':p.kids.length=1:=hl
 exact⟨hl',h0 0 (by omega)⟩
inductive Ex where
 |mk (op n ctor:Int) (kids:List Ex)
 deriving Inhabited
mutual
def Ex.c:Ex→List D
 | .mk op n ctor kids=>[.i op,.i n,.i ctor,.sl (Ex.cs kids)]
def Ex.cs:List Ex→List (List D)
 | []=>[]
 |v::r=>v.c::Ex.cs r
end
abbrev zt1 (l:List Ex):D:= .sl (Ex.cs l)
theorem Ex.cs_eq:∀l:List Ex,Ex.cs l=l.map Ex.c
 | []=>rfl
 |v::r=>by simp[Ex.cs,Ex.cs_eq r]
theorem Ex.cs_len (l:List Ex):(Ex.cs l).length=l.length:=by simp[Ex.cs_eq]
def Ex.op:Ex→Int | .mk a0 _ _ _=>a0
def Ex.n:Ex→Int | .mk _ a1 _ _=>a1
def Ex.ctor:Ex→Int | .mk _ _ a2 _=>a2
def Ex.kids:Ex→List Ex | .mk _ _ _ k=>k
abbrev Ex.cc (v:Ex):List D:=[.i v.op,.i v.n,.i v.ctor,.sl (Ex.cs v.kids)]
theorem Ex.c_eq (v:Ex):v.c=v.cc:=by cases v;rfl
theorem Ex.eta (v:Ex):Ex.mk v.op v.n v.ctor v.kids=v:=by cases v;rfl
theorem Ex.cs_at' {pre:List Ex}{x:Ex}{rest xs:List Ex} (h:pre++x::rest=xs):(Ex.cs xs)[pre.length]?=some x.cc:=by rw[Ex.cs_eq,←Ex.c_eq];exact zaV h
mutual
def exEq:Ex→Ex→Bool
 | .mk a0 a1 a2 ks,.mk b0 b1 b2 ls=>decide (a0=b0)&&(decide (a1=b1)&&(decide (a2=b2)&&zn1 ks ls))
def zn1:List Ex→List Ex→Bool
 | [],[]=>true
 |x::r,y::s=>exEq x y&&zn1 r s
 |_,_=>false
end
mutual
def Ex.ok:Ex→Prop
 | .mk _ _ _ ks=>ks.length≤1000000000000∧Exs.ok ks
def Exs.ok:List Ex→Prop
 | []=>True
 |v::r=>v.ok∧Exs.ok r
end
theorem Exs.ok_mem:∀ {l:List Ex},Exs.ok l→∀v,v∈l→v.ok
 |x::r,h,v,hv=>by
  simp only[Exs.ok] at h
  rcases List.mem_cons.1 hv with rfl|hv
  ·exact h.1
  ·exact Exs.ok_mem h.2 v hv
mutual
def Ex.size:Ex→Nat
 | .mk _ _ _ ks=>1+Exs.size ks
def Exs.size:List Ex→Nat
 | []=>0
 |v::r=>v.size+Exs.size r
end
theorem Exs.size_mem:∀ {l:List Ex}{v:Ex},v∈l→v.size≤Exs.size l
 |x::r,v,hv=>by
  simp only[Exs.size]
  rcases List.mem_cons.1 hv with rfl|hv
  ·omega
  ·have:=Exs.size_mem hv;omega
theorem Ex.ok_iff (v:Ex):v.ok↔v.kids.length≤1000000000000∧Exs.ok v.kids:=by cases v;rfl
theorem Ex.size_eq (v:Ex):v.size=1+Exs.size v.kids:=by cases v;rfl
mutual
theorem zq3:∀v:Ex,exEq v v=true
 | .mk _ _ _ ks=>by simp[exEq,zlg ks]
theorem zlg:∀l:List Ex,zn1 l l=true
 | []=>rfl
 |v::r=>by simp[zn1,zq3 v,zlg r]
end
mutual
def mEx:Ex→Nat
 | .mk _ _ _ ks=>mExs ks
def mExs:List Ex→Nat
 | []=>0
 |v::r=>1+mEx v+mExs r
end
structure Gd where
 op:Int
 var:Int
 n:Int
 deriving Inhabited
structure Cl where
 pat:Pat
 g:Gd
 deriving Inhabited
structure Ft where
 arg:Ty
 res:Ty
 deriving Inhabited
structure Fu where
 ty:Ft
 cls:List Cl
 bodies:List Ex
 deriving Inhabited
abbrev Cl.c (x:Cl):List D:=[.i x.pat.op,.i x.pat.ctor,.i x.pat.n,.i x.pat.m,.i x.pat.var,.sl (Pat.cs x.pat.kids),.i x.g.op,.i x.g.var,.i x.g.n]
abbrev za6 (l:List Cl):D:= .sl (l.map Cl.c)
abbrev Ft.c (x:Ft):List D:=[.i x.arg.data,.i x.arg.index,.i x.res.data,.i x.res.index]
abbrev Fu.c (x:Fu):List D:=[.i x.ty.arg.data,.i x.ty.arg.index,.i x.ty.res.data,.i x.ty.res.index,za6 x.cls,zt1 x.bodies]
def ClsOk (l:List Cl):Prop:=l.length≤1000000000000∧∀c∈l,c.pat.ok
def mCl (c:Cl):Nat:=mPat c.pat
def mCls (l:List Cl):Nat:=l.length+(l.map mCl).sum
def gdEq (a b:Gd):Bool:=decide (a.op=b.op)&&(decide (a.var=b.var)&&decide (a.n=b.n))
def clEq (a b:Cl):Bool:=zfO a.pat b.pat&&gdEq a.g b.g
def zsl (a b:List Cl):Bool:=all2 clEq a b
theorem zmU {α:Type}{f:α→α→Bool} (h:∀x,f x x=true):∀l:List α,all2 f l l=true
 | []=>rfl
 |x::r=>by simp[all2,h x,zmU h r]
theorem zqP (a:Cl):clEq a a=true:=by simp[clEq,gdEq,zlR]
theorem zgh (l:List Cl):zsl l l=true:=zmU zqP l
theorem zkB {c:Cl}{left:Int} (hok:c.pat.ok) (k0:0≤left) (k1:left≤1000000000000):
  FnD Tryz.prog 46 [.agg [.d (.i c.pat.op),.d (.i c.pat.ctor),.d (.i c.pat.n),.d (.i c.pat.m),.d (.i c.pat.var),.d (zaf c.pat.kids),.d (.i c.g.op),.d (.i c.g.var),.d (.i c.g.n)],.d (.i left)] [] (.d (.i (szr left (mCl c)))) []:=by
 have z:=zbU (left:=left) (mCl c)
 refine bd Tryz.f46 12 [] [] fun w0 F0 own kept hk=>?_
 refine Walk.box (id:=3002) .none rfl rfl rfl rfl rfl rfl rfl ?_
 refine ev ?_
 refine wc zsi (zga _ (Nat.le_refl _) hok k0 k1) rfl rfl ?_
 refine ev ?_
 refine sq (fun h1 h1p h1s=>?_) fun h1 h1p h1s=>?_
 try simp only[Q] at h1p
 refine rn0 (r1 rfl) (.eqd ?_)
 rotate_left
 try simp only[Q] at h1p
 refine rn0 (r1 rfl) (.eqd ?_)
 rotate_left
 all_goals (refine congrArg D.i ?_;unfold mCl at *;omega)
theorem zf9 {l:List Cl}{left:Int} (hs:ClsOk l) (k0:0≤left) (k1:left≤1000000000000):FnD Tryz.prog 12 [.d (za6 l),.d (.i left)] [] (.d (.i (szr left (mCls l)))) []:=by
 have h:=hs.1
 have z:=zbU (left:=left) (mCls l)
 simp only[mCls] at z ⊢
 refine bd Tryz.f12 27 [] [] fun w0 F0 own kept hk=>?_
 refine ar ?_
 refine sq (fun h1 h1p h1s=>?_) fun h1 h1p h1s=>?_
 try simp only[Q] at h1p
 refine rn0 (r1 rfl) (.eqd ?_)
 rotate_left
 try simp only[Q] at h1p
 refine CWp.loopX (ι:=List (Cl)×List (Cl)×(Int)) hk (fun x=>[(5,.d (.i (x.1.length:Int))),(1,.d (.i x.2.2))]) [4,12,13,14,15,16,17,18,19,20,21,22,23,24,25] (fun x=>[]) (fun x=>x.1++x.2.1=l∧x.2.2=left-l.length-(x.1.map mCl).sum∧0≤x.2.2) (fun x=>x.2.1.length) ([],l,left-l.length) ⟨by simp,by simp,by simp at *;omega⟩ ⟨⟨_,rfl,LeA.eqi ?_⟩,⟨⟨_,rfl,LeA.eqi ?_⟩,trivial⟩⟩ trivial (fun x=>rfl) (fun x hg1=>?_)
 iterate 2 focus (first|rfl|(simp;done))
 obtain⟨pre,rest,v⟩:=x
 dsimp only at hg1 ⊢
 refine evc [] [] ?_
 refine sq (fun h2 h2p h2s=>?_) fun h2 h2p h2s=>?_
 try simp only[Q] at h2p
 rcases rest with _|⟨y,rest⟩
 ·exfalso;simp_all
 refine Walk.idx sl25 .none rfl rfl rfl rfl (zaV hg1.1) rfl ?_
 refine ev ?_
 refine wc zuf (zkB (c:=y) (hs.2 y (by rw[←hg1.1];simp)) (by omega) (by omega)) rfl rfl ?_
 refine ev ?_
 refine sq (fun h3 h3p h3s=>?_) fun h3 h3p h3s=>?_
 try simp only[Q] at h3p
 refine rn0 (r1 rfl) (.eqd ?_)
 rotate_left
 try simp only[Q] at h3p
 refine ar ?_
 refine Exists.intro ((pre++[y],rest,szr v (mCl y))) ⟨⟨(by have hz:=hg1.1;rw[←hz];simp),(by have e:=zdy (f:=mCl) hg1.1;have z3:=zbU (left:=v) (mCl y);simp;omega)⟩,(by simp),sx ⟨⟨_,rfl,LeA.eqi ?_⟩,⟨⟨_,rfl,LeA.eqi ?_⟩,trivial⟩⟩ trivial⟩
 iterate 2 focus (first|rfl|(simp;done))
 try simp only[Q] at h2p
 have hrest:rest=[]:=by
  rcases rest with _|⟨a,b⟩
  ·rfl
  ·exfalso;have hz:=congrArg List.length (hg1.1);simp only[List.length_append,List.length_cons,List.length_map] at hz;omega
 subst hrest
 refine rn0 (r1 rfl) (.eqd ?_)
 rotate_left
 all_goals (refine congrArg D.i ?_;first|omega|(have e:=zdy (f:=mCl) hg1.1;have z3:=zbU (left:=v) (mCl y);omega)|(rw[List.append_nil] at hg1;rw[hg1.1] at hg1;omega))
theorem zhg {a b c:Int}:FnD Tryz.prog 99 [.agg [.d (.i a),.d (.i b),.d (.i c)]] [] (.agg [.d (.i a),.d (.i b),.d (.i c)]) []:=by
 refine bd Tryz.f99 14 [] [] fun w0 F0 own kept hk=>?_
 refine Walk.box (id:=3001) .none rfl rfl rfl rfl rfl rfl rfl ?_
 refine Walk.alloc (id:=3002) tz58 rfl .none rfl rfl rfl rfl ?_
 refine tv ?_
 refine Walk.alloc (id:=3003) tz58 rfl .none rfl rfl rfl rfl ?_
 refine tv ?_
 refine Walk.store ty3 .none rfl rfl rfl rfl rfl rfl (by simp) rfl ?_
 refine tv ?_
 refine Walk.store ty3 .none rfl rfl rfl rfl rfl rfl (by simp) rfl ?_
 refine tv ?_
 refine Walk.store ty3 .none rfl rfl rfl rfl rfl rfl (by simp) rfl ?_
 refine tv ?_
 refine Walk.store ty58 .none rfl rfl rfl rfl rfl rfl (by simp) rfl ?_
 refine tv ?_
 focus (refine rn0 (.cons (.cellA ty58 rfl rfl rfl) .nil) (.agg (.cons (.eqd ?_) (.cons (.eqd ?_) (.cons (.eqd ?_) .nil))));all_goals (first|rfl|(simp[];done)|(simp_all;done)|(simp_all;omega)|omega))
theorem zkC {c:Cl} (hok:c.pat.ok):
  FnD Tryz.prog 51 [.agg [.d (.i c.pat.op),.d (.i c.pat.ctor),.d (.i c.pat.n),.d (.i c.pat.m),.d (.i c.pat.var),.d (zaf c.pat.kids),.d (.i c.g.op),.d (.i c.g.var),.d (.i c.g.n)]] [] (.agg [.d (.i c.pat.op),.d (.i c.pat.ctor),.d (.i c.pat.n),.d (.i c.pat.m),.d (.i c.pat.var),.d (zaf c.pat.kids),.d (.i c.g.op),.d (.i c.g.var),.d (.i c.g.n)]) []:=by
 refine bd Tryz.f51 13 [] [] fun w0 F0 own kept hk=>?_
 refine Walk.box (id:=3001) .none rfl rfl rfl rfl rfl rfl rfl ?_
 refine Walk.alloc (id:=3002) tz60 rfl .none rfl rfl rfl rfl ?_
 refine tv ?_
 refine Walk.alloc (id:=3003) tz60 rfl .none rfl rfl rfl rfl ?_
 refine tv ?_
 refine wc zp1 (zj4 hok) rfl rfl ?_
 refine ev ?_
 refine Walk.store ty56 .none rfl rfl rfl rfl rfl rfl (by simp) rfl ?_
 refine tv ?_
 refine wc zsk (zhg) rfl rfl ?_
 refine ev ?_
 refine Walk.store ty58 .none rfl rfl rfl rfl rfl rfl (by simp) rfl ?_
 refine tv ?_
 refine Walk.store ty60 .none rfl rfl rfl rfl rfl rfl (by simp) rfl ?_
 refine tv ?_
 focus (refine rn0 (.cons (.cellA ty60 rfl rfl rfl) .nil) (.agg (.cons (.eqd ?_) (.cons (.eqd ?_) (.cons (.eqd ?_) (.cons (.eqd ?_) (.cons (.eqd ?_) (.cons (.eqd ?_) (.cons (.eqd ?_) (.cons (.eqd ?_) (.cons (.eqd ?_) .nil))))))))));all_goals (first|rfl|(simp[];done)|(simp_all;done)|(simp_all;omega)|omega))
theorem zco {l:List Cl} (hs:ClsOk l):FnD Tryz.prog 16 [.d (za6 l)] [] (.d (za6 l)) []:=by
 have h:=hs.1
 refine bd Tryz.f16 23 [] [999999] fun w0 F0 own kept hk=>?_
 refine Walk.make (id:=3007) sl28 tz60 rfl (by decide) (zb8 rfl) .none rfl rfl rfl (by simp;omega) (by simp;omega) rfl rfl rfl ?_
 refine ev ?_
 refine CWp.loopX (ι:=List (Cl)×List (Cl)) hk (fun x=>[(4,.d (.i (x.1.length:Int)))]) [8,9,10,11,12,13,14,15,16,17,18,19,20,21] (fun x=>[(3007,some (.box ((x.1.flatMap fun x=>(Cl.c x).map AV.d)++zaE x.2.length [.d (.i 0),.d (.i 0),.d (.i 0),.d (.i 0),.d (.i 0),.nils,.d (.i 0),.d (.i 0),.d (.i 0)])))]) (fun x=>x.1++x.2=l) (fun x=>x.2.length) ([],l) (by simp) ⟨⟨_,rfl,LeA.eqi ?_⟩,trivial⟩ ⟨?_,trivial⟩ (fun x=>rfl) (fun x hg1=>?_)
 focus (first|rfl|(simp;done)|(simp_all;done)|omega)
 focus (first|rfl|(show some (Res.box _)=some (Res.box _);simp;done))
 obtain⟨pre,rest⟩:=x
 dsimp only at hg1 ⊢
 refine evc [] [999999] ?_
 refine sq (fun h1 h1p h1s=>?_) fun h1 h1p h1s=>?_
 try simp only[Q] at h1p
 rcases rest with _|⟨y,rest⟩
 ·exfalso;simp_all
 refine Walk.idx sl25 .none rfl rfl rfl rfl (zaV hg1) rfl ?_
 refine ev ?_
 refine wc zsc (zkC (c:=y) (hs.2 y (by rw[←hg1];simp))) rfl rfl ?_
 refine Walk.idxM sl28 .none rfl rfl rfl rfl (by first|omega|(simp ;omega)) ?_
 refine Walk.store ty60 .none rfl rfl rfl rfl rfl rfl (by simp) ((zhn (k:=9) (by intro x _;rfl) (by first|rfl|simp) rfl)) ?_
 refine tv ?_
 refine ar ?_
 refine Exists.intro ((pre++[y],rest)) ⟨(by have hz:=hg1;rw[←hz];simp),(by simp),sx ⟨⟨_,rfl,LeA.eqi ?_⟩,trivial⟩ ⟨?_,trivial⟩⟩
 focus (first|rfl|(simp;done)|(simp_all;done)|omega)
 focus (first|rfl|(show some (Res.box _)=some (Res.box _);simp;done))
 try simp only[Q] at h1p
 have hrest:rest=[]:=by
  rcases rest with _|⟨a,b⟩
  ·rfl
  ·exfalso;have hz:=congrArg List.length (hg1);simp only[List.length_append,List.length_cons,List.length_map] at hz;omega
 subst hrest
 refine CWp.frz hk 2 3007 _ _ rfl rfl (zfE (f:=Cl.c) (k:=9) hg1 (by simp) (by intro x _;rfl)) rfl ?_
 refine CWp.ret ?_
 focus (refine rn0 (r1 rfl) (.eqd ?_);all_goals (first|rfl|(simp[h1s,h1p];done)|(simp_all;done)|(simp_all;omega)|omega))
theorem zls {a b:Gd}:FnD Tryz.prog 102 [.agg [.d (.i a.op),.d (.i a.var),.d (.i a.n)],.agg [.d (.i b.op),.d (.i b.var),.d (.i b.n)]] [] (.d (.bool (gdEq a b))) []:=by
 refine bd Tryz.f102 20 [] [] fun w0 F0 own kept hk=>?_
 refine Walk.box (id:=3002) .none rfl rfl rfl rfl rfl rfl rfl ?_
 refine Walk.box (id:=3003) .none rfl rfl rfl rfl rfl rfl rfl ?_
 refine ev ?_
 refine sq (fun h1 h1p h1s=>?_) fun h1 h1p h1s=>?_
 try simp only[Q] at h1p
 focus (refine rn0 (r1 rfl) (.eqd ?_);all_goals (refine congrArg D.bool ?_;simp[gdEq,h1s,h1p]))
 try simp only[Q] at h1p
 refine sq (fun h2 h2p h2s=>?_) fun h2 h2p h2s=>?_
 try simp only[Q] at h2p
 focus (refine rn0 (r1 rfl) (.eqd ?_);all_goals (refine congrArg D.bool ?_;simp[gdEq,h1s,h1p,h2s,h2p]))
 try simp only[Q] at h2p
 refine sq (fun h3 h3p h3s=>?_) fun h3 h3p h3s=>?_
 try simp only[Q] at h3p
 focus (refine rn0 (r1 rfl) (.eqd ?_);all_goals (refine congrArg D.bool ?_;simp[gdEq,h1s,h1p,h2s,h2p,h3s,h3p]))
 try simp only[Q] at h3p
 focus (refine rn0 (r1 rfl) (.eqd ?_);all_goals (refine congrArg D.bool ?_;simp[gdEq,h1s,h1p,h2s,h2p,h3s,h3p]))
theorem zkz {a b:Cl} (hok:a.pat.ok):
  FnD Tryz.prog 54 [.agg [.d (.i a.pat.op),.d (.i a.pat.ctor),.d (.i a.pat.n),.d (.i a.pat.m),.d (.i a.pat.var),.d (zaf a.pat.kids),.d (.i a.g.op),.d (.i a.g.var),.d (.i a.g.n)],.agg [.d (.i b.pat.op),.d (.i b.pat.ctor),.d (.i b.pat.n),.d (.i b.pat.m),.d (.i b.pat.var),.d (zaf b.pat.kids),.d (.i b.g.op),.d (.i b.g.var),.d (.i b.g.n)]] [] (.d (.bool (clEq a b))) []:=by
 refine bd Tryz.f54 17 [] [] fun w0 F0 own kept hk=>?_
 refine Walk.box (id:=3002) .none rfl rfl rfl rfl rfl rfl rfl ?_
 refine Walk.box (id:=3003) .none rfl rfl rfl rfl rfl rfl rfl ?_
 refine ev ?_
 refine wc zqs (zf8 (a:=a.pat) (b:=b.pat) _ (Nat.le_refl _) hok) rfl rfl ?_
 refine ev ?_
 refine sq (fun h1 h1p h1s=>?_) fun h1 h1p h1s=>?_
 try simp only[Q] at h1p
 focus (refine rn0 (r1 rfl) (.eqd ?_);all_goals (refine congrArg D.bool ?_;simp[clEq,h1s,h1p]))
 try simp only[Q] at h1p
 refine wc zsX (zls (a:=a.g) (b:=b.g)) rfl rfl ?_
 refine ev ?_
 refine sq (fun h2 h2p h2s=>?_) fun h2 h2p h2s=>?_
 try simp only[Q] at h2p
 focus (refine rn0 (r1 rfl) (.eqd ?_);all_goals (refine congrArg D.bool ?_;simp[clEq,h1s,h1p,h2s,h2p]))
 try simp only[Q] at h2p
 focus (refine rn0 (r1 rfl) (.eqd ?_);all_goals (refine congrArg D.bool ?_;simp[clEq,h1s,h1p,h2s,h2p]))
theorem zbK {l m:List Cl} (hs:ClsOk l):FnD Tryz.prog 18 [.d (za6 l),.d (za6 m)] [] (.d (.bool (zsl l m))) []:=by
 have h:=hs.1
 refine bd Tryz.f18 27 [] [] fun w0 F0 own kept hk=>?_
 refine sq (fun h1 h1p h1s=>?_) fun h1 h1p h1s=>?_
 try simp only[Q,Int.natCast_inj] at h1p
 refine rn0 (r1 rfl) (.eqd ?_)
 rotate_left
 try simp only[Q,Int.natCast_inj] at h1p
 refine CWp.loopX (ι:=Nat) hk (fun i=>[(5,.d (.i (i:Int)))]) [4,11,12,13,14,15,16,17,18,19,20,21,22,23,24,25,26] (fun i=>[]) (fun i=>i≤l.length∧∀i',i'<i→clEq (nth l i') (nth m i')=true) (fun i=>l.length-i) 0 ⟨by omega,fun _ h=>absurd h (by omega)⟩ ⟨⟨_,rfl,LeA.eqi ?_⟩,trivial⟩ trivial (fun x=>rfl) (fun i hg1=>?_)
 focus (first|rfl|(simp;done)|(simp_all;done)|omega)
 refine evc [] [] ?_
 refine sq (fun h2 h2p h2s=>?_) fun h2 h2p h2s=>?_
 try simp only[Q,Int.natCast_inj] at h2p
 refine Walk.idx sl28 .none rfl rfl rfl rfl (zay (by omega)) rfl ?_
 refine evd [] [] ?_
 refine Walk.idx sl28 .none rfl rfl rfl rfl (zay (by omega)) rfl ?_
 refine evd [] [] ?_
 refine wc zug (zkz (a:=nth l i) (b:=nth m i) (hs.2 _ (zal (by omega)))) rfl rfl ?_
 refine evd [] [] ?_
 refine dr ?_
 refine sq (fun h3 h3p h3s=>?_) fun h3 h3p h3s=>?_
 try simp only[Q,Int.natCast_inj] at h3p
 refine rn0 (r1 rfl) (.eqd ?_)
 rotate_left
 try simp only[Q,Int.natCast_inj] at h3p
 refine ar ?_
 refine Exists.intro (i+1) ⟨⟨by omega,za1 hg1.2 (by assumption)⟩,(by omega),sx ⟨⟨_,rfl,LeA.eqi ?_⟩,trivial⟩ trivial⟩
 focus (first|rfl|(simp;done)|(simp_all;done)|omega)
 try simp only[Q,Int.natCast_inj] at h2p
 refine rn0 (r1 rfl) (.eqd ?_)
 rotate_left
 all_goals (refine congrArg D.bool ?_;first|(refine(zgD ?_).symm;omega)|(refine(zcp (by omega) (fun x hx=>hg1.2 x (by omega))).symm)|(refine(zbV (i:=i) (by omega) (by omega) ?_).symm;assumption))
mutual
def cntE (m:Int):Ex→Int
 | .mk _ _ _ ks=>zec m 1 ks
def zec (m n:Int):List Ex→Int
 | []=>n
 |k::r=>if n≤m then zec m (n+cntE (m-n) k) r else n
end
theorem zp4 {m n:Int}{l:List Ex} (h:¬n≤m):zec m n l=n:=by cases l<;>simp[zec,h]
mutual
theorem zpy:∀(v:Ex) (m:Int),1≤cntE m v∧cntE m v≤v.size
 | .mk _ _ _ ks,m=>by
  have:=zkm ks m 1 (by omega)
  simp only[cntE,Ex.size];push_cast;omega
theorem zkm:∀(l:List Ex) (m n:Int),1≤n→1≤zec m n l∧zec m n l≤n+Exs.size l
 | [],m,n,h=>by simp[zec,Exs.size];omega
 |k::r,m,n,h=>by
  have h1:=zpy k (m-n)
  have h2:=zkm r m (n+cntE (m-n) k) (by omega)
  simp only[zec,Exs.size]
  split
  ·push_cast;omega
  ·push_cast;omega
end
mutual
theorem zrE:∀(v:Ex) (m:Int),(cntE m v≤m↔(v.size:Int)≤m)∧(cntE m v≤m→cntE m v=v.size)
 | .mk _ _ _ ks,m=>by
  have:=zmY ks m 1
  simp only[cntE,Ex.size];push_cast;exact this
theorem zmY:∀(l:List Ex) (m n:Int),(zec m n l≤m↔n+(Exs.size l:Int)≤m)∧(zec m n l≤m→zec m n l=n+Exs.size l)
 | [],m,n=>by simp[zec,Exs.size]
 |k::r,m,n=>by
  have h1:=zrE k (m-n)
  have h2:=zmY r m (n+cntE (m-n) k)
  have h3:=zkm r m (n+cntE (m-n) k)
  have h4:=zpy k (m-n)
  simp only[zec,Exs.size]
  push_cast
  by_cases hn:n≤m
  ·rw[if_pos hn]
   by_cases h5:cntE (m-n) k≤m-n
   ·have h6:=h1.2 h5
    rw[h6] at h2 ⊢
    constructor
    ·rw[h2.1];constructor<;>intro h<;>omega
    ·intro h;rw[h2.2 h];omega
   ·have h7:¬(k.size:Int)≤m-n:=fun h=>h5 (h1.1.2 h)
    have h8:¬n+cntE (m-n) k≤m:=by omega
    rw[zp4 h8]
    constructor
    ·constructor<;>intro h<;>omega
    ·intro h;omega
  ·rw[if_neg hn]
   constructor
   ·constructor<;>intro h<;>omega
   ·intro h;omega
end
def TyOk (n:Nat) (t:Ty):Prop:=TyIn n t∧(t.data = -1→t.index=0)
def gdOk (g:Gd) (vars:List Vt):Bool:=if g.op=0 then decide (g.var=0∧g.n=0) else decide (1≤g.op∧g.op≤2∧0≤g.n∧g.n≤9)&&decide ((⟨g.var,⟨-1,0⟩⟩:Vt)∈vars)
def zgY (w:List Data) (t:Ty) (p:Pat):List Vt:=zdm (zaR w 10 t p 0).1
def clOk (w:List Data) (t:Ty) (c:Cl):Bool:=isP w t c.pat&&gdOk c.g (zgY w t c.pat)
def zbA (w:List Data) (t:Ty) (l:List Cl):Bool:=zbD w t&&(decide ((l.length:Int)≤8)&& !l.any fun c=> !clOk w t c)
theorem zhC {xs:List Cl}{f:Nat}{caps:List AV}{hp:Hp}{p:Cl→Bool} (hs:xs.length≤1000000000000) (hcal:Callee Tryz.prog f)
  (hf:∀t∈xs,FnD Tryz.prog f ([.agg [.d (.i t.pat.op),.d (.i t.pat.ctor),.d (.i t.pat.n),.d (.i t.pat.m),.d (.i t.pat.var),.d (zaf t.pat.kids),.d (.i t.g.op),.d (.i t.g.var),.d (.i t.g.n)]]++caps) hp (.d (.bool (p t))) []) (k1:subH hp hp) (k2:zdP hp=true) (k3:zat hp [] (.d .nilp) []=true):
  FnD Tryz.prog 175 [.d (za6 xs),.fn f caps] hp (.d (.i (idxF p xs 0))) []:=by
 refine bd Tryz.f175 19 [] [] fun w0 F0 own kept hk=>?_
 refine CWp.loopX (ι:=List (Cl)×List (Cl)) hk (fun x=>[(8,.d (.i (x.1.length:Int)))]) [4,5,9,10,11,12,13,14,15,16,17,18] (fun x=>[]) (fun x=>x.1++x.2=xs∧idxF p x.2 x.1.length=idxF p xs 0) (fun x=>x.2.length) ([],xs) ⟨by simp,rfl⟩ ⟨⟨_,rfl,LeA.eqi ?_⟩,trivial⟩ trivial (fun x=>zgf hp) (fun x hg1=>?_)
 focus (first|rfl|(simp;done)|(simp_all;done)|omega)
 obtain⟨pre,rest⟩:=x
 dsimp only at hg1 ⊢
 refine evc [] [] ?_
 refine sq (fun h1 h1p h1s=>?_) fun h1 h1p h1s=>?_
 try simp only[Q] at h1p
 rcases rest with _|⟨y,rest⟩
 ·exfalso;simp_all
 refine Walk.idx sl28 .none rfl rfl rfl rfl (zaV hg1.1) rfl ?_
 refine ev ?_
 refine Walk.callV (cr:=[]) hcal (hf y (by rw[←hg1.1];simp)) rfl .none rfl rfl rfl (LeL.refl _) k1 k2 (zc0 k3 _) rfl ?_
 refine tv ?_
 refine sq (fun h2 h2p h2s=>?_) fun h2 h2p h2s=>?_
 try simp only[Q] at h2p
 focus (refine rn [] (r1 rfl) (.eqd ?_) ⟨rfl,rfl⟩ (fun _ _ h=>h) (fun _ h=>h);all_goals (rw[←hg1.2];simp[idxF,h1s,h1p,h2s,h2p]))
 try simp only[Q] at h2p
 refine ar ?_
 refine Exists.intro ((pre++[y],rest)) ⟨⟨(by have hz:=hg1.1;rw[←hz];simp),(by rw[←hg1.2];simp[idxF,h2s])⟩,(by simp),Sub.x (by kernel_rfl) (by kernel_rfl) ⟨⟨_,rfl,LeA.eqi ?_⟩,trivial⟩ (by simp) (by simp[zdp]) trivial⟩
 focus (first|rfl|(simp;done)|(simp_all;done)|omega)
 try simp only[Q] at h1p
 have hrest:rest=[]:=by
  rcases rest with _|⟨a,b⟩
  ·rfl
  ·exfalso;have hz:=congrArg List.length (hg1.1);simp only[List.length_append,List.length_cons,List.length_map] at hz;omega
 subst hrest
 focus (refine rn [] (r1 rfl) (.eqd ?_) ⟨rfl,rfl⟩ (fun _ _ h=>h) (fun _ h=>h);all_goals (rw[←hg1.2];simp[idxF,h1s,h1p]))
theorem zgr {xs:List Cl}{f:Nat}{caps:List AV}{hp:Hp}{p:Cl→Bool} (hs:xs.length≤1000000000000) (hcal:Callee Tryz.prog f)
  (hf:∀t∈xs,FnD Tryz.prog f ([.agg [.d (.i t.pat.op),.d (.i t.pat.ctor),.d (.i t.pat.n),.d (.i t.pat.m),.d (.i t.pat.var),.d (zaf t.pat.kids),.d (.i t.g.op),.d (.i t.g.var),.d (.i t.g.n)]]++caps) hp (.d (.bool (p t))) []) (k1:subH hp hp) (k2:zdP hp=true) (k3:zat hp [] (.d .nilp) []=true):
  FnD Tryz.prog 110 [.d (za6 xs),.fn f caps] hp (.d (.bool (xs.any p))) []:=by
 refine bd Tryz.f110 9 [] [] fun w0 F0 own kept hk=>?_
 refine Walk.call (cr:=[]) ztm (zhC hs hcal hf k1 k2 k3) rfl .none rfl rfl (LeL.refl _) k1 k2 (zc0 k3 _) rfl ?_
 refine ev ?_
 refine rn [] (r1 rfl) (.eqd ?_) ⟨rfl,rfl⟩ (fun _ _ h=>h) (fun _ h=>h)
 rotate_left
 all_goals (exact congrArg D.bool (zeE p xs 0))
theorem zqp (w:List Data) (t:Ty) (p:Pat):(zgY w t p).length≤6:=(zdi w 10 t p 0).2
theorem zlk {g:Gd}{vars:List Vt} (hv:vars.length≤1000000000000):FnD Tryz.prog 177 [.agg [.d (.i g.op),.d (.i g.var),.d (.i g.n)],.d (zcZ vars)] [] (.d (.bool (gdOk g vars))) []:=by
 refine bd Tryz.f177 27 [10] [] fun w0 F0 own kept hk=>?_
 refine Walk.box (id:=3002) .none rfl rfl rfl rfl rfl rfl rfl ?_
 refine evs [10] [] ?_
 refine sq (fun h1 h1p h1s=>?_) fun h1 h1p h1s=>?_
 try simp only[Q,zas] at h1p
 refine Walk.build st58 (ks:=[]) (xs:=[]) rfl rfl .none rfl rfl rfl ?_
 refine Walk.eqV eq58 .none rfl rfl rfl rfl rfl ?_
 refine evs [10] [] ?_
 refine rn0 (r1 rfl) (.eqd ?_)
 rotate_left
 try simp only[Q,zas] at h1p
 refine wc zfD (zbJ) rfl rfl ?_
 refine evs [10] [] ?_
 refine sq (fun h2 h2p h2s=>?_) fun h2 h2p h2s=>?_
 try simp only[Q,zas] at h2p
 refine Walk.call (cr:=[]) zfD (zbJ) rfl (.some rfl rfl h2) rfl rfl (LeL.refl _) trivial rfl rfl rfl ?_
 refine evs [10] [(14,true)] ?_ ⟨⟨_,rfl,h2⟩,trivial⟩
 refine sq (fun h3 h3p h3s=>?_) fun h3 h3p h3s=>?_
 try simp only[Q,zas] at h3p
 refine Walk.build st33 (ks:=[0]) (xs:=[_]) rfl rfl (.some rfl rfl h3) rfl rfl rfl ?_
 refine Walk.build zqk (ks:=[0,1]) (xs:=[_,_]) rfl rfl (.some rfl rfl h3) rfl rfl rfl ?_
 refine Walk.call (cr:=[]) zqI (zeT (v:=⟨g.var,⟨-1,0⟩⟩) hv) rfl (.some rfl rfl h3) rfl rfl (LeL.refl _) trivial rfl rfl rfl ?_
 refine evs [10] [(19,true)] ?_ ⟨⟨_,rfl,h3⟩,trivial⟩
 refine rn0 (r1 rfl) (.eqd ?_)
 rotate_left
 try simp only[Q,zas] at h3p
 refine rn0 (r1 rfl) (.eqd ?_)
 rotate_left
 try simp only[Q,zas] at h2p
 refine sqF ?_
 refine rn0 (r1 rfl) (.eqd ?_)
 rotate_left
 all_goals (refine congrArg D.bool ?_;unfold gdOk;first|(rw[if_pos (by omega)];simp_all;done)|(rw[if_neg (by omega)];simp_all[zas];done)|(rw[if_neg (by omega),decide_eq_false (by omega),Bool.false_and];done)|(rw[if_neg (by omega),decide_eq_true (by omega),Bool.true_and];done)|(rw[if_neg (by omega)];simp_all[zas];omega))
theorem zkr {w:List Data} (hw:WT w){t:Ty}{c:Cl} (ht:TyIn w.length t) (hok:c.pat.ok):
  FnD Tryz.prog 112 [.d (zao w),.agg [.d (.i t.data),.d (.i t.index)],.agg [.d (.i c.pat.op),.d (.i c.pat.ctor),.d (.i c.pat.n),.d (.i c.pat.m),.d (.i c.pat.var),.d (zaf c.pat.kids),.d (.i c.g.op),.d (.i c.g.var),.d (.i c.g.n)]] [] (.d (.bool (clOk w t c))) []:=by
 have ht':TyIn w.length ⟨t.data,t.index⟩:=ht
 have hvl:=zqp w t c.pat
 refine bd Tryz.f112 24 [] [] fun w0 F0 own kept hk=>?_
 refine Walk.box (id:=3004) .none rfl rfl rfl rfl rfl rfl rfl ?_
 refine Walk.box (id:=3005) .none rfl rfl rfl rfl rfl rfl rfl ?_
 refine ev ?_
 refine wc zqy (zfk hw ht' hok) rfl rfl ?_
 refine ev ?_
 refine sq (fun h1 h1p h1s=>?_) fun h1 h1p h1s=>?_
 try simp only[Q] at h1p
 refine Walk.call (cr:=[]) ztn (zlk (g:=c.g) (vars:=zgY w t c.pat) (by omega)) rfl (.some rfl rfl h1) rfl rfl (LeL.refl _) trivial rfl rfl rfl ?_
 refine evs [] [(18,true)] ?_ ⟨⟨_,rfl,h1⟩,trivial⟩
 refine rn0 (r1 rfl) (.eqd ?_)
 rotate_left
 try simp only[Q] at h1p
 refine rn0 (r1 rfl) (.eqd ?_)
 rotate_left
 all_goals (refine congrArg D.bool ?_;unfold clOk;have hte:(⟨t.data,t.index⟩:Ty)=t:=rfl;first|(simp_all;done)|(rw[hte] at *;simp_all;done))
theorem zhA {w:List Data} (hw:WT w){a k:Int}{c:Cl} (ht:TyIn w.length ⟨a,k⟩) (hok:c.pat.ok):
  FnD Tryz.prog 111 [.agg [.d (.i c.pat.op),.d (.i c.pat.ctor),.d (.i c.pat.n),.d (.i c.pat.m),.d (.i c.pat.var),.d (zaf c.pat.kids),.d (.i c.g.op),.d (.i c.g.var),.d (.i c.g.n)],.ref 3003 0,.ref 3004 0] [(3003,some (.box [.d (zao w)])),(3004,some (.box [.d (.i a),.d (.i k)]))] (.d (.bool (!clOk w ⟨a,k⟩ c))) []:=by
 refine bd Tryz.f111 10 [] [] fun w0 F0 own kept hk=>?_
 refine Walk.box (id:=3901) .none rfl rfl rfl rfl rfl rfl rfl ?_
 refine ev ?_
 refine wc zs1 (zkr (t:=⟨a,k⟩) (c:=c) hw ht hok) rfl rfl ?_
 refine ev ?_
 refine rn [] (r1 rfl) (.eqd ?_) ⟨rfl,rfl⟩ (SubH.get ⟨rfl,⟨rfl,trivial⟩⟩) (fun _ h=>h)
 rotate_left
 all_goals (rfl)
theorem zie {w:List Data} (hs:WSmall w){a k:Int}{l:List Cl} (hl:ClsOk l):
  FnD Tryz.prog 67 [.d (zao w),.agg [.d (.i a),.d (.i k)],.d (za6 l)] [] (.d (.bool (zbA w ⟨a,k⟩ l))) []:=by
 have hll:=hl.1
 refine bd Tryz.f67 21 [] [] fun w0 F0 own kept hk=>?_
 refine Walk.box (id:=3003) .none rfl rfl rfl rfl rfl rfl rfl ?_
 refine Walk.box (id:=3004) .none rfl rfl rfl rfl rfl rfl rfl ?_
 refine ev ?_
 refine wc zum (zjY hs) rfl rfl ?_
 refine ev ?_
 refine sq (fun h1 h1p h1s=>?_) fun h1 h1p h1s=>?_
 try simp only[Q] at h1p
 refine sq (fun h2 h2p h2s=>?_) fun h2 h2p h2s=>?_
 try simp only[Q] at h2p
 refine Walk.closure (xs:=[_,_]) rfl (.some rfl rfl h2) rfl rfl ?_
 refine Walk.call (cr:=[]) zsZ (zgr (p:=fun c=> !clOk w ⟨a,k⟩ c) hl.1 zs0 (fun t htm=>zhA (zkS hs (zd7 (by assumption)).1) (zd7 (by assumption)).2.1 (hl.2 t htm)) ⟨rfl,rfl,trivial⟩ rfl rfl) rfl (.some rfl rfl h2) rfl rfl (LeL.refl _) ⟨rfl,rfl,trivial⟩ rfl rfl rfl ?_
 refine evs [] [(15,true)] ?_ ⟨⟨_,rfl,h2⟩,trivial⟩
 refine rn0 (r1 rfl) (.eqd ?_)
 rotate_left
 try simp only[Q] at h2p
 refine rn0 (r1 rfl) (.eqd ?_)
 rotate_left
 try simp only[Q] at h1p
 refine sqF ?_
 refine rn0 (r1 rfl) (.eqd ?_)
 rotate_left
 all_goals (refine congrArg D.bool ?_;unfold zbA;first|(simp_all;done)|(simp_all;omega))
def AZ (w:List Data):Prop:=∀t c,c∈zaA w t→TyIn w.length t→∀u∈zaj w t c,u.data = -1→u.index=0
theorem zr3 {w:List Data} (hv:za8 w=true):AZ w:=by
 have hW:=(zdu w).1 hv
 rintro ⟨a,k⟩ c hc ht u hu hd
 obtain⟨d,rfl,h1,j,rfl,h3⟩:=zcW ht hc
 have hco:=hW.ctor _ (zal h1) _ (zal h3)
 simp only[zaO,Bool.and_eq_true,decide_eq_true_eq,Bool.not_eq_true',List.any_eq_false,Bool.not_eq_false'] at hco
 have hall:=hco.2.2.2
 simp only[zaj,Int.toNat_natCast] at hu
 obtain⟨x,hx,rfl⟩:=List.mem_map.1 hu
 have hxo:=hall x hx
 simp only[zbx,zas,Bool.or_eq_true,Bool.and_eq_true,decide_eq_true_eq,and_true,Bool.not_eq_true',Bool.not_eq_false] at hxo
 unfold zci at hd ⊢
 split at hd
 ·rename_i hi
  rw[if_pos hi]
  dsimp only at hd ⊢
  omega
 ·rename_i hi
  rw[if_neg hi]
  omega
theorem zrt {n:Nat}{t:Ty} (h:zcE n t=true):TyOk n t:=by
 refine⟨zrs h,fun hd=>?_⟩
 simp only[zcE,zas,Bool.or_eq_true,Bool.and_eq_true,decide_eq_true_eq,and_true] at h
 omega
theorem zrv {w:List Data}{t:Ty}{p:Pat} (h:isP w t p=true):zgY w t p=zaL w 10 t p:=by
 unfold isP at h
 simp only[Bool.and_eq_true,decide_eq_true_eq] at h
 have e:=(zfx w 10 t p 0).1
 have hw:zbZ w 10 t p 0=true:=by
  unfold zbZ;rw[h.1,h.2.2,decide_eq_true (by omega)];rfl
 rw[if_pos hw] at e
 unfold zgY;rw[e];rfl
theorem zrw {w:List Data}{t:Ty}{p:Pat} (h:isP w t p=true):zcN (zaL w 10 t p)=true:=by
 unfold isP at h
 simp only[Bool.and_eq_true] at h
 exact zhi w 10 t p h.1 h.2.2
theorem zpd {w:List Data} (hw:WT w) (haz:AZ w):∀(n:Nat){t:Ty}{p:Pat},zaw w n t p=true→TyOk w.length t→∀v∈zaL w n t p,TyOk w.length v.ty
 |0,t,p,h,_=>by simp[zaw] at h
 |n+1,t,p,h,ht=>by
  obtain⟨ho,hlen⟩:=zbY h
  intro v hv
  have hto:∀u∈zag w t p,TyOk w.length u:=fun u hu=>by
   refine⟨zf0 (a:=t.data) (k:=t.index) hw ht.1 ho u hu,fun hd=>?_⟩
   unfold zag at hu
   split at hu
   ·rename_i h4;exact haz t p.ctor (zcw ho h4) ht.1 u hu hd
   ·split at hu
    ·simp only[List.mem_cons,List.not_mem_nil,or_false,or_self] at hu
     rw[hu] at hd ⊢;exact ht.2 hd
    ·split at hu
     ·simp only[List.mem_cons,List.not_mem_nil,or_false] at hu
      rw[hu] at hd ⊢;exact ht.2 hd
     ·simp at hu
  simp only[zaL,List.mem_append] at hv
  rcases hv with hv|hv
  ·unfold zaX at hv
   split at hv
   ·simp only[List.mem_cons,List.not_mem_nil,or_false] at hv
    rw[hv];exact ht
   ·simp at hv
  ·have key:∀(a:List Ty) (b:List Pat),(∀i,i<a.length→i<b.length→∀v∈zaL w n (nth a i) (nth b i),TyOk w.length v.ty)→∀v∈zbo (zaL w n) a b,TyOk w.length v.ty:=by
    intro a
    induction a with
    |nil=>intro b _ v hv;simp[zbo] at hv
    |cons x r ih=>
     intro b h v hv
     cases b with
     |nil=>simp[zbo] at hv
     |cons y s=>
      simp only[zbo,List.mem_append] at hv
      rcases hv with hv|hv
      ·exact h 0 (by simp) (by simp) v hv
      ·exact ih s (fun i h1 h2=>h (i+1) (by simpa using h1) (by simpa using h2)) v hv
   refine key (zdt w t p) p.kids (fun i h1 h2=>?_) v hv
   have hvt:i<(zag w t p).length∧nth (zdt w t p) i=nth (zag w t p) i:=by
    unfold zdt at h1 ⊢
    split at h1
    ·rename_i h5
     rw[if_pos h5]
     rw[List.length_take] at h1
     refine⟨by omega, ?_⟩
     have:i=0:=by omega
     subst this
     cases hT:zag w t p with
     |nil=>rfl
     |cons a b=>rfl
    ·rename_i h5
     rw[if_neg h5];exact⟨h1,rfl⟩
   rw[hvt.2]
   exact zpd hw haz n (zbX h (by omega)) (hto _ (zal hvt.1))
def gdS (g:Gd) (vars:List Vt):Bool:=if g.op=0 then decide (g.var=0∧g.n=0) else decide (1≤g.op∧g.op≤2∧0≤g.n∧g.n≤9)&&(decide (0≤zbN vars g.var)&&decide ((nth vars (zbN vars g.var).toNat).ty.data = -1))
theorem zt5 {n:Nat}{g:Gd}{vars:List Vt} (hn:zcN vars=true) (hv:∀v∈vars,TyOk n v.ty):gdS g vars=gdOk g vars:=by
 unfold gdS gdOk
 split
 ·rfl
 ·congr 1
  have hnod:=of_decide_eq_true hn
  rw[Bool.eq_iff_iff]
  simp only[Bool.and_eq_true,decide_eq_true_eq]
  constructor
  ·rintro ⟨h1,h2⟩
   rcases zeY vars g.var with ⟨h3,_⟩|⟨k,h3,h4,h5,_⟩
   ·omega
   ·rw[h3] at h2
    simp only[Int.toNat_natCast] at h2
    have hm:=zal h4
    have ho:=(hv _ hm).2 h2
    have:nth vars k=⟨g.var,⟨-1,0⟩⟩:=by
     generalize nth vars k=z at *
     obtain⟨zv,⟨za,zk⟩⟩:=z
     dsimp only at h5 h2 ho
     rw[h5,h2,ho]
    rw[←this];exact hm
  ·intro hm
   rcases zeY vars g.var with ⟨_,h4⟩|⟨k,h3,h4,h5,_⟩
   ·exact absurd rfl (h4 _ hm)
   ·refine⟨by omega, ?_⟩
    rw[h3]
    simp only[Int.toNat_natCast]
    obtain⟨j,hj,e⟩:=List.getElem_of_mem hm
    have ej:nth vars j=⟨g.var,⟨-1,0⟩⟩:=by simp[nth,List.getD,hj,e]
    have:k=j:=zjh hnod h4 hj (by rw[h5,ej])
    rw[this,ej]
theorem zl4 {g:Gd}{vars:List Vt} (hv:vars.length≤1000000000000):FnD Tryz.prog 194 [.agg [.d (.i g.op),.d (.i g.var),.d (.i g.n)],.d (zcZ vars)] [] (.d (.bool (gdS g vars))) []:=by
 have hlt:=fun h=>zib (l:=vars) (n:=g.var) h
 refine bd Tryz.f194 50 [] [3] fun w0 F0 own kept hk=>?_
 refine Walk.box (id:=3002) .none rfl rfl rfl rfl rfl rfl rfl ?_
 refine ev ?_
 refine sq (fun h1 h1p h1s=>?_) fun h1 h1p h1s=>?_
 try simp only[Q] at h1p
 refine sq (fun h2 h2p h2s=>?_) fun h2 h2p h2s=>?_
 try simp only[Q] at h2p
 refine rn0 (r1 rfl) (.eqd ?_)
 rotate_left
 try simp only[Q] at h2p
 refine rn0 (r1 rfl) (.eqd ?_)
 rotate_left
 try simp only[Q] at h1p
 refine CWp.regionJ ?_
 refine WRest.join 18 [(34,.d (.bool (decide (¬(1≤g.op∧g.op≤2∧0≤g.n∧g.n≤9)))))] [17,18,19,20,21,22,23,24,25,26,27,28,29,30,31,32,33] ?_ ?_
 refine ev ?_
 refine sq (fun h3 h3p h3s=>?_) fun h3 h3p h3s=>?_
 try simp only[Q] at h3p
 refine sq (fun h4 h4p h4s=>?_) fun h4 h4p h4s=>?_
 try simp only[Q] at h4p
 refine sqT ?_
 focus (exact jn rfl (LeA.eqb (by(first|rfl|(rw[Bool.eq_iff_iff];simp_all;done)|(rw[Bool.eq_iff_iff];simp_all;omega)))))
 try simp only[Q] at h4p
 refine sq (fun h5 h5p h5s=>?_) fun h5 h5p h5s=>?_
 try simp only[Q] at h5p
 focus (exact jn rfl (LeA.eqb (by(first|rfl|(rw[Bool.eq_iff_iff];simp_all;done)|(rw[Bool.eq_iff_iff];simp_all;omega)))))
 try simp only[Q] at h5p
 focus (exact jn rfl (LeA.eqb (by(first|rfl|(rw[Bool.eq_iff_iff];simp_all;done)|(rw[Bool.eq_iff_iff];simp_all;omega)))))
 try simp only[Q] at h3p
 refine sqF ?_
 refine sq (fun h6 h6p h6s=>?_) fun h6 h6p h6s=>?_
 try simp only[Q] at h6p
 focus (exact jn rfl (LeA.eqb (by(first|rfl|(rw[Bool.eq_iff_iff];simp_all;done)|(rw[Bool.eq_iff_iff];simp_all;omega)))))
 try simp only[Q] at h6p
 focus (exact jn rfl (LeA.eqb (by(first|rfl|(rw[Bool.eq_iff_iff];simp_all;done)|(rw[Bool.eq_iff_iff];simp_all;omega)))))
 refine WRest.done ?_
 refine tv ?_
 refine sq (fun h7 h7p h7s=>?_) fun h7 h7p h7s=>?_
 try simp only[Q] at h7p
 refine rn0 (r1 rfl) (.eqd ?_)
 rotate_left
 try simp only[Q] at h7p
 refine wc zol (zfz hv) rfl rfl ?_
 refine ev ?_
 refine sq (fun h8 h8p h8s=>?_) fun h8 h8p h8s=>?_
 try simp only[Q] at h8p
 refine Walk.idx (i:=(zbN vars g.var).toNat) zdl (.some rfl rfl h8) rfl rfl rfl (by have:=hlt (by omega);omega) (zay (by have:=hlt (by omega);omega)) rfl ?_
 refine evs [] [(41,true)] ?_ ⟨⟨_,rfl,h8⟩,trivial⟩
 refine rn0 (r1 rfl) (.eqd ?_)
 rotate_left
 try simp only[Q] at h8p
 refine rn0 (r1 rfl) (.eqd ?_)
 rotate_left
 all_goals (refine congrArg D.bool ?_;unfold gdS;first|(rw[if_pos (by omega)];simp_all;done)|(rw[if_neg (by omega),decide_eq_false (by omega),Bool.false_and];done)|(rw[if_neg (by omega),decide_eq_true (by omega),Bool.true_and];simp_all;done)|(rw[if_neg (by omega),decide_eq_true (by omega),Bool.true_and,decide_eq_false (by omega),Bool.false_and];done)|(rw[if_neg (by omega)];simp_all;done))
theorem zo0 {w:List Data} (hw:WT w) (haz:AZ w){t:Ty}{c:Cl} (ht:TyOk w.length t) (hok:c.pat.ok) (hsz:c.pat.size≤1000000000000):
  FnD Tryz.prog 122 [.d (zao w),.agg [.d (.i t.data),.d (.i t.index)],.agg [.d (.i c.pat.op),.d (.i c.pat.ctor),.d (.i c.pat.n),.d (.i c.pat.m),.d (.i c.pat.var),.d (zaf c.pat.kids),.d (.i c.g.op),.d (.i c.g.var),.d (.i c.g.n)]] [] (.d (.bool (clOk w t c))) []:=by
 have ht':TyIn w.length ⟨t.data,t.index⟩:=ht.1
 have hcl:clOk w t c=(isP w t c.pat&&gdOk c.g (zgY w t c.pat)):=rfl
 cases hp:isP w t c.pat with
 |false=>
  have hpi:=zgT hw ht' hok hsz
  have hpi':FnD Tryz.prog 193 [.d (zao w),.agg [.d (.i t.data),.d (.i t.index)],.agg [.d (.i c.pat.op),.d (.i c.pat.ctor),.d (.i c.pat.n),.d (.i c.pat.m),.d (.i c.pat.var),.d (zaf c.pat.kids)]] [] (.d (.bool false)) []:=by rw[←hp];exact hpi
  rw[hcl,hp,Bool.false_and]
  refine bd Tryz.f122 22 [] [] fun w0 F0 own kept hk=>?_
  refine Walk.box (id:=3004) .none rfl rfl rfl rfl rfl rfl rfl ?_
  refine Walk.box (id:=3005) .none rfl rfl rfl rfl rfl rfl rfl ?_
  refine ev ?_
  refine wc zog (hpi') rfl rfl ?_
  refine evd [] [] ?_
  refine sq (fun h1 h1p h1s=>?_) fun h1 h1p h1s=>?_
  try simp only[Q] at h1p
  exfalso;contradiction
  try simp only[Q] at h1p
  refine dr ?_
  refine rn0 (r1 rfl) (.eqd ?_)
  rotate_left
  all_goals (rfl)
 |true=>
  have hpi:=zgT hw ht' hok hsz
  have hpi':FnD Tryz.prog 193 [.d (zao w),.agg [.d (.i t.data),.d (.i t.index)],.agg [.d (.i c.pat.op),.d (.i c.pat.ctor),.d (.i c.pat.n),.d (.i c.pat.m),.d (.i c.pat.var),.d (zaf c.pat.kids)]] [] (.d (.bool true)) []:=by rw[←hp];exact hpi
  have hsh:zaw w 10 ⟨t.data,t.index⟩ c.pat=true:=by
   have:=hp;unfold isP at this;simp only[Bool.and_eq_true] at this;exact this.1
  have hvl:=zd8 w 10 ⟨t.data,t.index⟩ c.pat
  have hge:=zt5 (g:=c.g) (zrw hp) (zpd hw haz 10 hsh ht)
  have hge':gdS c.g (zaL w 10 ⟨t.data,t.index⟩ c.pat)=gdOk c.g (zgY w t c.pat):=by rw[zrv hp];exact hge
  rw[hcl,hp,Bool.true_and,←hge']
  refine bd Tryz.f122 22 [] [] fun w0 F0 own kept hk=>?_
  refine Walk.box (id:=3004) .none rfl rfl rfl rfl rfl rfl rfl ?_
  refine Walk.box (id:=3005) .none rfl rfl rfl rfl rfl rfl rfl ?_
  refine ev ?_
  refine wc zog (hpi') rfl rfl ?_
  refine evd [] [] ?_
  refine sq (fun h1 h1p h1s=>?_) fun h1 h1p h1s=>?_
  try simp only[Q] at h1p
  refine Walk.call (cr:=[]) zhH (zdT hw hsh (by omega) ht' hok hsz) rfl (.some rfl rfl h1) rfl rfl (LeL.refl _) trivial rfl rfl rfl ?_
  refine Walk.call (cr:=[]) ztt (zl4 (g:=c.g) (by omega)) rfl (.some rfl rfl h1) rfl rfl (LeL.refl _) trivial rfl rfl rfl ?_
  refine evd [] [(12,true)] ?_ ⟨⟨_,rfl,h1⟩,trivial⟩
  refine dr ?_
  refine rn0 (r1 rfl) (.eqd ?_)
  rotate_left
  try simp only[Q] at h1p
  exfalso;contradiction
  all_goals (rfl)
def ClsSz (l:List Cl):Prop:=∀c∈l,c.pat.size≤1000000000000
theorem zuv {w:List Data}{t:Ty} (h:zbD w t=true):TyOk w.length t:=by
 unfold zbD at h;rw[Bool.and_eq_true] at h;exact zrt h.2
theorem ztW {w:List Data}{t:Ty}{l:List Cl}{i:Nat} (hi:i<l.length) (h:clOk w t (nth l i)=false):zbA w t l=false:=by
 unfold zbA
 have:l.any (fun c=> !clOk w t c)=true:=List.any_eq_true.2 ⟨nth l i,zal hi,by rw[h];rfl⟩
 rw[this];simp
theorem zsD {w:List Data}{t:Ty}{l:List Cl} (ht:zbD w t=true) (hl:l.length≤8) (h:∀i,i<l.length→clOk w t (nth l i)=true):zbA w t l=true:=by
 unfold zbA
 rw[ht,decide_eq_true (by omega),Bool.true_and,Bool.true_and,Bool.not_eq_true',List.any_eq_false]
 intro c hc
 obtain⟨i,hi,rfl⟩:=List.getElem_of_mem hc
 have:=h i hi
 simp only[nth,List.getD,List.getElem?_eq_getElem hi,Option.getD_some] at this
 simp[this]
theorem zsE {w:List Data}{t:Ty}{l:List Cl} (h:8<l.length):zbA w t l=false:=by
 unfold zbA;rw[decide_eq_false (by omega),Bool.false_and,Bool.and_false]
theorem ztX {w:List Data}{t:Ty}{l:List Cl} (h:zbD w t=false):zbA w t l=false:=by
 unfold zbA;rw[h,Bool.false_and]
theorem ziv {w:List Data} (hs:WSmall w){a k:Int}{l:List Cl} (hl:ClsOk l) (hz:ClsSz l):
  FnD Tryz.prog 72 [.d (zao w),.agg [.d (.i a),.d (.i k)],.d (za6 l)] [] (.d (.bool (zbA w ⟨a,k⟩ l))) []:=by
 have hll:=hl.1
 refine bd Tryz.f72 31 [] [] fun w0 F0 own kept hk=>?_
 refine Walk.box (id:=3004) .none rfl rfl rfl rfl rfl rfl rfl ?_
 refine ev ?_
 refine wc zs8 (zkL hs) rfl rfl ?_
 refine ev ?_
 refine sq (fun h1 h1p h1s=>?_) fun h1 h1p h1s=>?_
 try simp only[Q,Int.natCast_inj] at h1p
 refine sqT ?_
 refine rn0 (r1 rfl) (.eqd ?_)
 rotate_left
 try simp only[Q,Int.natCast_inj] at h1p
 refine sq (fun h3 h3p h3s=>?_) fun h3 h3p h3s=>?_
 try simp only[Q,Int.natCast_inj] at h3p
 refine rn0 (r1 rfl) (.eqd ?_)
 rotate_left
 try simp only[Q,Int.natCast_inj] at h3p
 refine CWp.loopX (ι:=Nat) hk (fun i=>[(7,.d (.i (i:Int)))]) [6,17,18,19,20,21,22,23,24,25,26,27,28,29,30] (fun i=>[]) (fun i=>i≤l.length∧∀i',i'<i→clOk w ⟨a,k⟩ (nth l i')=true) (fun i=>l.length-i) 0 ⟨by omega,fun _ h=>absurd h (by omega)⟩ ⟨⟨_,rfl,LeA.eqi ?_⟩,trivial⟩ trivial (fun x=>rfl) (fun i hg1=>?_)
 focus (first|rfl|(simp;done)|(simp_all;done)|omega)
 refine evc [] [] ?_
 refine sq (fun h4 h4p h4s=>?_) fun h4 h4p h4s=>?_
 try simp only[Q,Int.natCast_inj] at h4p
 refine Walk.idx sl28 .none rfl rfl rfl rfl (zay (by omega)) rfl ?_
 refine evd [] [] ?_
 refine wc zs9 (zo0 (t:=⟨a,k⟩) (c:=nth l i) (zkS hs (zd7 (by assumption)).1) (zr3 (zd7 (by assumption)).1) (zuv (by assumption)) (hl.2 _ (zal (by omega))) (hz _ (zal (by omega)))) rfl rfl ?_
 refine evd [] [] ?_
 refine dr ?_
 refine sq (fun h5 h5p h5s=>?_) fun h5 h5p h5s=>?_
 try simp only[Q,Int.natCast_inj] at h5p
 refine rn0 (r1 rfl) (.eqd ?_)
 rotate_left
 try simp only[Q,Int.natCast_inj] at h5p
 refine ar ?_
 refine Exists.intro (i+1) ⟨⟨by omega,za1 hg1.2 (by assumption)⟩,(by omega),sx ⟨⟨_,rfl,LeA.eqi ?_⟩,trivial⟩ trivial⟩
 focus (first|rfl|(simp;done)|(simp_all;done)|omega)
 try simp only[Q,Int.natCast_inj] at h4p
 refine rn0 (r1 rfl) (.eqd ?_)
 rotate_left
 all_goals (refine congrArg D.bool ?_;first|(rw[ztX (by assumption)];done)|(rw[zsE (by omega)];done)|(rw[ztW (i:=i) (by omega) (by assumption)];done)|(rw[zsD (by assumption) (by omega) (fun x hx=>hg1.2 x (by omega))];done))
theorem zhk {a b c d e:Int}{l:List Pat}:(Pat.mk a b c d e l).op=a:=rfl
theorem zfv {a b c d e:Int}{l:List Pat}:(Pat.mk a b c d e l).ctor=b:=rfl
theorem mk_n {a b c d e:Int}{l:List Pat}:(Pat.mk a b c d e l).n=c:=rfl
theorem mk_m {a b c d e:Int}{l:List Pat}:(Pat.mk a b c d e l).m=d:=rfl
theorem zgP {a b c d e:Int}{l:List Pat}:(Pat.mk a b c d e l).var=e:=rfl
theorem zdq {a b c d e:Int}{l:List Pat}:(Pat.mk a b c d e l).kids=l:=rfl
abbrev anyQ:Pat:= .mk 1 0 0 0 0 []
abbrev zsy:Pat:= .mk 0 0 0 0 0 []
mutual
def zaN:Pat→Pat
 | .mk op c n m v ks=>if op=2 then anyQ else if op=6∧ks≠[] then zjK ks else .mk op c n m v (zg4 ks)
def zjK:List Pat→Pat
 | []=>anyQ
 |k::_=>zaN k
def zg4:List Pat→List Pat
 | []=>[]
 |k::r=>zaN k::zg4 r
end
theorem zkl:∀l:List Pat,zg4 l=l.map zaN
 | []=>rfl
 |k::r=>by simp[zg4,zkl r]
theorem zgE (p:Pat):zaN p=if p.op=2 then anyQ else if p.op=6∧p.kids≠[] then zaN (nth p.kids 0) else .mk p.op p.ctor p.n p.m p.var (p.kids.map zaN):=by
 cases p with|mk op c n m v ks=>
 have e:zaN (.mk op c n m v ks)=if op=2 then anyQ else if op=6∧ks≠[] then zjK ks else .mk op c n m v (zg4 ks):=by conv=>lhs;unfold zaN
 rw[e,zkl]
 by_cases h2:op=2
 ·rw[if_pos h2]
  exact(if_pos (c:=(Pat.mk op c n m v ks).op=2) h2).symm
 ·rw[if_neg h2]
  refine Eq.trans ?_ (if_neg (c:=(Pat.mk op c n m v ks).op=2) h2).symm
  by_cases h6:op=6∧ks≠[]
  ·rw[if_pos h6]
   refine Eq.trans ?_ (if_pos (c:=(Pat.mk op c n m v ks).op=6∧(Pat.mk op c n m v ks).kids≠[]) h6).symm
   cases ks with
   |nil=>exact absurd rfl h6.2
   |cons k r=>rfl
  ·rw[if_neg h6]
   exact(if_neg (c:=(Pat.mk op c n m v ks).op=6∧(Pat.mk op c n m v ks).kids≠[]) h6).symm
def zbq (out:List (List Pat)) (l:List Pat):List (List Pat):=out.flatMap fun q=>l.map fun c=>q++[c]
def zeB (ls:List (List Pat)):List (List Pat):=ls.foldl zbq [[]]
mutual
def zaD:Pat→List Pat
 | .mk op c n m v ks=>if op=5 then zt9 ks else (zeB (zjU ks)).map fun l=> .mk op c n m v l
def zt9:List Pat→List Pat
 | []=>[]
 |a::r=>zaD a++zsU r
def zsU:List Pat→List Pat
 | []=>[]
 |b::_=>zaD b
def zjU:List Pat→List (List Pat)
 | []=>[]
 |k::r=>zaD k::zjU r
end
theorem zl8:∀l:List Pat,zjU l=l.map zaD
 | []=>rfl
 |k::r=>by simp[zjU,zl8 r]
theorem zeJ {p:Pat} (h:p.op≠5):zaD p=(zeB (p.kids.map zaD)).map fun l=> .mk p.op p.ctor p.n p.m p.var l:=by
 cases p with|mk op c n m v ks=>
 have h':¬op=5:=h
 conv=>lhs;unfold zaD
 rw[if_neg h',zl8];rfl
theorem zgV {p:Pat} (h:p.op=5) (hk:p.kids.length=2):zaD p=zaD (nth p.kids 0)++zaD (nth p.kids 1):=by
 cases p with|mk op c n m v ks=>
 have h':op=5:=h
 conv=>lhs;unfold zaD
 rw[if_pos h']
 have hk':ks.length=2:=hk
 match ks,hk' with
 | [a,b],_=>rfl
mutual
def cntS:Pat→Int
 | .mk op _ _ _ _ ks=>if op=5 then cntO ks 0 else cntM ks 1
def cntO:List Pat→Int→Int
 | [],n=>n
 |k::r,n=>cntO r (cap (n+cntS k))
def cntM:List Pat→Int→Int
 | [],n=>n
 |k::r,n=>cntM r (cap (n*cntS k))
end
theorem zmk (p:Pat):cntS p=if p.op=5 then cntO p.kids 0 else cntM p.kids 1:=by
 cases p with|mk op c n m v ks=>
 conv=>lhs;unfold cntS
 rfl
mutual
theorem zmj:∀p:Pat,0≤cntS p∧cntS p≤401
 | .mk op _ _ _ _ ks=>by
  unfold cntS
  split
  ·exact zpB ks 0 (by omega) (by omega)
  ·exact zpz ks 1 (by omega) (by omega)
theorem zpB:∀(l:List Pat) (n:Int),0≤n→n≤401→0≤cntO l n∧cntO l n≤401
 | [],n,h1,h2=>⟨h1,h2⟩
 |k::r,n,h1,h2=>by
  unfold cntO
  have h3:=zmj k
  have h4:=zk6 (x:=n+cntS k) (by omega)
  exact zpB r _ h4.1 h4.2
theorem zpz:∀(l:List Pat) (n:Int),0≤n→n≤401→0≤cntM l n∧cntM l n≤401
 | [],n,h1,h2=>⟨h1,h2⟩
 |k::r,n,h1,h2=>by
  unfold cntM
  have h3:=zmj k
  have h4:=zk6 (x:=n*cntS k) (Int.mul_nonneg h1 h3.1)
  exact zpz r _ h4.1 h4.2
end
theorem zqT {l:List Pat}{i:Nat}{n:Int} (h:i<l.length):cntO (l.drop i) n=cntO (l.drop (i+1)) (cap (n+cntS (nth l i))):=by
 rw[za9 h];rfl
theorem zqS {l:List Pat}{i:Nat}{n:Int} (h:i<l.length):cntM (l.drop i) n=cntM (l.drop (i+1)) (cap (n*cntS (nth l i))):=by
 rw[za9 h];rfl
def binP:Nat→Pat→Bool
 |0,_=>false
 |n+1,p=>decide (p.op=5→p.kids.length=2)&&p.kids.all (binP n)
theorem zea {n:Nat}{p:Pat} (h:binP (n+1) p=true){i:Nat} (hi:i<p.kids.length):binP n (nth p.kids i)=true:=by
 unfold binP at h
 rw[Bool.and_eq_true,List.all_eq_true] at h
 exact h.2 _ (zal hi)
theorem zjE {n:Nat}{p:Pat} (h:binP (n+1) p=true) (h5:p.op=5):p.kids.length=2:=by
 unfold binP at h
 rw[Bool.and_eq_true] at h
 exact(of_decide_eq_true h.1) h5
theorem zob:∀(n:Nat){p:Pat},binP n p=true→binP (n+1) p=true
 |0,p,h=>by simp[binP] at h
 |n+1,p,h=>by
  have h':=h
  unfold binP at h ⊢
  rw[Bool.and_eq_true,List.all_eq_true] at h ⊢
  exact⟨h.1,fun k hk=>zob n (h.2 k hk)⟩
theorem zhq {w:List Data}:∀(n:Nat){t:Ty}{p:Pat},zaw w n t p=true→binP n (zaN p)=true
 |0,t,p,h=>by simp[zaw] at h
 |n+1,t,p,h=>by
  obtain⟨ho,hlen⟩:=zbY h
  have hany:binP (n+1) anyQ=true:=by simp[binP,anyQ,Pat.op,Pat.kids]
  rw[zgE]
  by_cases h2:p.op=2
  ·rw[if_pos h2];exact hany
  rw[if_neg h2]
  by_cases h6:p.op=6
  ·obtain⟨hl,s0⟩:=zjo h h6
   rw[if_pos ⟨h6,fun e=>by rw[e] at hl;simp at hl⟩]
   exact zob n (zhq n s0)
  rw[if_neg (fun h=>h6 h.1)]
  unfold binP
  rw[Bool.and_eq_true,List.all_eq_true]
  refine⟨decide_eq_true (fun h5=>?_),fun k hk=>?_⟩
  ·have:=(zjp h h5).1;simpa [Pat.kids] using this
  ·simp only[Pat.kids,List.mem_map] at hk
   obtain⟨x,hx,rfl⟩:=hk
   obtain⟨i,hi,rfl⟩:=List.getElem_of_mem hx
   have:=zhq n (zbX h hi)
   have e:nth p.kids i=p.kids[i]:=zbk hi
   rw[e] at this
   exact this
theorem zfZ (out:List (List Pat)) (l:List Pat):(zbq out l).length=out.length*l.length:=by
 unfold zbq
 induction out with
 |nil=>simp
 |cons q r ih=>rw[List.flatMap_cons,List.length_append,ih,List.length_map,List.length_cons,Nat.succ_mul];omega
theorem zqe (ls:List (List Pat)) (l:List Pat):zeB (ls++[l])=zbq (zeB ls) l:=by unfold zeB;rw[List.foldl_append];rfl
theorem zsC {a b:Nat}:cap (cap (a:Int)*cap (b:Int))=cap ((a*b:Nat):Int):=by
 unfold cap
 rcases Nat.eq_zero_or_pos a with rfl|ha
 ·simp
 rcases Nat.eq_zero_or_pos b with rfl|hb
 ·simp
 have h1:a≤a*b:=Nat.le_mul_of_pos_right a hb
 have h2:b≤a*b:=Nat.le_mul_of_pos_left b ha
 have hab:((a*b:Nat):Int)=(a:Int)*(b:Int):=by push_cast;rfl
 by_cases ca:401<(a:Int)
 ·rw[if_pos ca]
  by_cases cb:401<(b:Int)
  ·rw[if_pos cb,if_pos (by omega),if_pos (by omega)]
  ·rw[if_neg cb]
   have h3:(401:Int)*1≤401*(b:Int):=Int.mul_le_mul_of_nonneg_left (by omega) (by omega)
   rw[if_pos (show 401<((a*b:Nat):Int) by omega)]
   split<;>omega
 ·rw[if_neg ca]
  by_cases cb:401<(b:Int)
  ·rw[if_pos cb]
   have h3:(1:Int)*401≤(a:Int)*401:=Int.mul_le_mul_of_nonneg_right (by omega) (by omega)
   rw[if_pos (show 401<((a*b:Nat):Int) by omega)]
   split<;>omega
  ·rw[if_neg cb,hab]
theorem zsA {a b:Nat}:cap (cap (a:Int)+cap (b:Int))=cap ((a+b:Nat):Int):=by
 unfold cap
 push_cast
 split<;>split<;>split<;>(try split)<;>omega
theorem zsB {x:Int}:cap (cap x)=cap x:=by unfold cap;split<;>(try split)<;>omega
theorem zpA:∀(l:List Pat) (out:List (List Pat)),(∀k∈l,cntS k=cap ((zaD k).length:Int)∧0<(zaD k).length)→cntM l (cap (out.length:Int))=cap (((l.map zaD).foldl zbq out).length:Int)∧(0<out.length→0<((l.map zaD).foldl zbq out).length)
 | [],out,_=>⟨rfl,fun h=>h⟩
 |k::r,out,h=>by
  have hk:=h k (by simp)
  unfold cntM
  rw[hk.1,zsC]
  have:=zpA r (zbq out (zaD k)) (fun x hx=>h x (by simp[hx]))
  rw[zfZ] at this
  rw[List.map_cons,List.foldl_cons]
  exact⟨this.1,fun ho=>this.2 (Nat.mul_pos ho hk.2)⟩
theorem zla:∀(n:Nat){p:Pat},binP n p=true→cntS p=cap ((zaD p).length:Int)∧0<(zaD p).length
 |0,p,h=>by simp[binP] at h
 |n+1,p,h=>by
  have ih:=fun i (hi:i<p.kids.length)=>zla n (zea h hi)
  rw[zmk]
  by_cases h5:p.op=5
  ·have hl:=zjE h h5
   rw[if_pos h5,zgV h5 hl,List.length_append]
   have k0:=ih 0 (by omega)
   have k1:=ih 1 (by omega)
   have e:p.kids=[nth p.kids 0,nth p.kids 1]:=by
    match hk:p.kids,hl with
    | [a,b],_=>rfl
   refine⟨?_,by omega⟩
   rw[e]
   simp only[cntO]
   rw[Int.zero_add,k0.1,zsB,k1.1]
   show cap (cap ((zaD (nth p.kids 0)).length:Int)+cap ((zaD (nth p.kids 1)).length:Int))=_
   rw[zsA];rfl
  ·rw[if_neg h5,zeJ h5,List.length_map]
   have:=zpA p.kids [[]] (fun k hk=>by
    obtain⟨i,hi,rfl⟩:=List.getElem_of_mem hk
    have:=ih i hi
    simpa [nth,List.getD,hi] using this)
   exact⟨this.1,this.2 (by simp)⟩
theorem zgJ:∀(ls:List (List Pat)) (out:List (List Pat)),(∀l∈ls,0<l.length)→out.length≤(ls.foldl zbq out).length
 | [],out,_=>Nat.le_refl _
 |l::r,out,h=>by
  rw[List.foldl_cons]
  have h1:=zgJ r (zbq out l) (fun x hx=>h x (by simp[hx]))
  rw[zfZ] at h1
  have h2:out.length≤out.length*l.length:=Nat.le_mul_of_pos_right _ (h l (by simp))
  omega
theorem ziE:∀(ls:List (List Pat)) (out:List (List Pat)),(∀l∈ls,0<l.length)→0<out.length→∀l∈ls,l.length≤(ls.foldl zbq out).length
 | [],out,_,_,l,hl=>by simp at hl
 |x::r,out,h,ho,l,hl=>by
  rw[List.foldl_cons]
  have hx:=h x (by simp)
  have hp:0<(zbq out x).length:=by rw[zfZ];exact Nat.mul_pos ho hx
  rcases List.mem_cons.1 hl with rfl|hl
  ·have h1:=zgJ r (zbq out l) (fun y hy=>h y (by simp[hy]))
   rw[zfZ] at h1
   have h2:l.length≤out.length*l.length:=Nat.le_mul_of_pos_left _ ho
   omega
  ·exact ziE r (zbq out x) (fun y hy=>h y (by simp[hy])) hp l hl
theorem zht {n:Nat}{p:Pat} (h:binP (n+1) p=true){i:Nat} (hi:i<p.kids.length):(zaD (nth p.kids i)).length≤(zaD p).length:=by
 by_cases h5:p.op=5
 ·have hl:=zjE h h5
  rw[zgV h5 hl,List.length_append]
  have:i=0∨i=1:=by omega
  rcases this with rfl|rfl<;>omega
 ·rw[zeJ h5,List.length_map]
  refine ziE _ [[]] (fun l hl=>?_) (by simp) _ (List.mem_map.2 ⟨_,zal hi,rfl⟩)
  obtain⟨k,hk,rfl⟩:=List.mem_map.1 hl
  obtain⟨j,hj,rfl⟩:=List.getElem_of_mem hk
  have:=(zla n (zea h hj)).2
  simpa [nth,List.getD,hj] using this
theorem zps {n:Nat}{p:Pat} (h:binP (n+1) p=true) (h5:p.op≠5) (i:Nat):(zeB ((p.kids.take i).map zaD)).length≤(zaD p).length:=by
 rw[zeJ h5,List.length_map]
 have e:p.kids.map zaD=(p.kids.take i).map zaD++(p.kids.drop i).map zaD:=by rw[←List.map_append,List.take_append_drop]
 unfold zeB
 rw[e,List.foldl_append]
 refine zgJ _ _ (fun l hl=>?_)
 obtain⟨k,hk,rfl⟩:=List.mem_map.1 hl
 obtain⟨j,hj,rfl⟩:=List.getElem_of_mem (List.mem_of_mem_drop hk)
 have:=(zla n (zea h hj)).2
 simpa [nth,List.getD,hj] using this
def zam (w:List Data):Nat→Ty→Pat→Bool
 |0,_,_=>false
 |n+1,t,p=>(ownP w t p&&decide (p.op=1∨p.op=3∨p.op=4))&&all2 (zam w n) (zag w t p) p.kids
theorem zkk {α β:Type}{f g:α→β→Bool}:∀ {a:List α}{b:List β},(∀x∈a,∀y∈b,f x y=true→g x y=true)→all2 f a b=true→all2 g a b=true
 | [],[],_,_=>rfl
 |x::r,y::s,h,h2=>by
  simp only[all2,Bool.and_eq_true] at h2 ⊢
  exact⟨h x (by simp) y (by simp) h2.1,zkk (fun a ha b hb=>h a (by simp[ha]) b (by simp[hb])) h2.2⟩
 | [],_::_,_,h2=>by simp[all2] at h2
 |_::_,[],_,h2=>by simp[all2] at h2
theorem zgo {w:List Data}:∀(n:Nat){t:Ty}{p:Pat},zam w n t p=true→zaw w n t p=true
 |0,t,p,h=>by simp[zam] at h
 |n+1,t,p,h=>by
  unfold zam at h
  unfold zaw
  simp only[Bool.and_eq_true] at h ⊢
  exact⟨h.1.1,zkk (fun x _ y _ hh=>zgo n hh) h.2⟩
theorem zfX {w:List Data}:∀(n:Nat){t:Ty}{p:Pat},zam w n t p=true→zam w (n+1) t p=true
 |0,t,p,h=>by simp[zam] at h
 |n+1,t,p,h=>by
  unfold zam at h ⊢
  simp only[Bool.and_eq_true] at h ⊢
  exact⟨h.1,zkk (fun x _ y _ hh=>zfX n hh) h.2⟩
theorem zce {w:List Data}{n:Nat}{t:Ty}{p:Pat} (h:zam w n t p=true):p.op=1∨p.op=3∨p.op=4:=by
 cases n with
 |zero=>simp[zam] at h
 |succ n=>unfold zam at h;simp only[Bool.and_eq_true] at h;exact of_decide_eq_true h.1.2
theorem zgQ {w:List Data}{n:Nat}{t:Ty}{p:Pat} (h:zam w n t p=true):ownP w t p=true∧p.kids.length=(zag w t p).length:=by
 cases n with
 |zero=>simp[zam] at h
 |succ n=>exact zbY (zgo _ h)
theorem zbt {w:List Data}{n:Nat}{t:Ty}{p:Pat} (h:zam w (n+1) t p=true){i:Nat} (hi:i<p.kids.length):zam w n (nth (zag w t p) i) (nth p.kids i)=true:=by
 have hl:=(zgQ h).2
 unfold zam at h
 simp only[Bool.and_eq_true] at h
 exact zrA hl.symm h.2 i (by omega)
theorem zsR {w:List Data}{t:Ty}{p:Pat}{l:List Pat}:ownP w t (.mk p.op p.ctor p.n p.m p.var l)=ownP w t p:=rfl
theorem zru {w:List Data}{t:Ty}{p:Pat}{l:List Pat}:zag w t (.mk p.op p.ctor p.n p.m p.var l)=zag w t p:=rfl
theorem zjj:∀(ls:List (List Pat)) (out:List (List Pat)) (l:List Pat),l∈ls.foldl zbq out→∃q∈out,∃r:List Pat,l=q++r∧r.length=ls.length∧∀i,i<ls.length→nth r i∈nth ls i
 | [],out,l,h=>⟨l,h,[],by simp,rfl,fun i hi=>by simp at hi⟩
 |x::rs,out,l,h=>by
  rw[List.foldl_cons] at h
  obtain⟨q,hq,r,e,hl,hm⟩:=zjj rs (zbq out x) l h
  unfold zbq at hq
  simp only[List.mem_flatMap,List.mem_map] at hq
  obtain⟨q0,hq0,c,hc,rfl⟩:=hq
  refine⟨q0,hq0,c::r,by rw[e];simp,by simp[hl],fun i hi=>?_⟩
  cases i with
  |zero=>exact hc
  |succ i=>exact hm i (by simpa using hi)
theorem ziQ {w:List Data}{n:Nat}{t:Ty}:zam w (n+1) t anyQ=true:=by
 unfold zam
 have h1:zag w t anyQ=[]:=by unfold zag;rw[if_neg (by decide),if_neg (by decide),if_neg (by decide)]
 rw[h1]
 have h2:ownP w t anyQ=true:=by unfold ownP;exact decide_eq_true (by simp[anyQ,Pat.op,Pat.var,Pat.n,Pat.m,Pat.ctor])
 rw[h2];rfl
theorem zpW:zaD anyQ=[anyQ]:=by
 rw[zeJ (by decide)];rfl
theorem zqi {w:List Data}{n:Nat}{t:Ty}{p:Pat} (h:zaw w (n+1) t p=true) (h4:p.op≠4) (h5:p.op≠5) (h6:p.op≠6):p.kids=[]:=by
 have hl:=(zbY h).2
 unfold zag at hl
 rw[if_neg h4,if_neg h5,if_neg h6] at hl
 exact List.eq_nil_of_length_eq_zero hl
theorem zgR {w:List Data}:∀(n:Nat){t:Ty}{p:Pat},zaw w n t p=true→∀x∈zaD (zaN p),zam w n t x=true
 |0,t,p,h=>by simp[zaw] at h
 |n+1,t,p,h=>by
  obtain⟨ho,hlen⟩:=zbY h
  have hop:=zrW h
  intro x hx
  rw[zgE] at hx
  by_cases h2:p.op=2
  ·rw[if_pos h2,zpW,List.mem_singleton] at hx
   rw[hx];exact ziQ
  rw[if_neg h2] at hx
  by_cases h6:p.op=6
  ·obtain⟨hl,s0⟩:=zjo h h6
   rw[if_pos ⟨h6,fun e=>by rw[e] at hl;simp at hl⟩] at hx
   exact zfX n (zgR n s0 x hx)
  rw[if_neg (fun h=>h6 h.1)] at hx
  by_cases h5:p.op=5
  ·obtain⟨hl,s0,s1⟩:=zjp h h5
   have hl2:(p.kids.map zaN).length=2:=by rw[List.length_map];exact hl
   rw[zgV (p:= .mk p.op p.ctor p.n p.m p.var (p.kids.map zaN)) h5 hl2] at hx
   have e0:nth (p.kids.map zaN) 0=zaN (nth p.kids 0):=by
    match hk:p.kids,hl with
    | [a,b],_=>rfl
   have e1:nth (p.kids.map zaN) 1=zaN (nth p.kids 1):=by
    match hk:p.kids,hl with
    | [a,b],_=>rfl
   simp only[zdq] at hx
   rw[e0,e1] at hx
   rcases List.mem_append.1 hx with hx|hx
   ·exact zfX n (zgR n s0 x hx)
   ·exact zfX n (zgR n s1 x hx)
  rw[zeJ (p:= .mk p.op p.ctor p.n p.m p.var (p.kids.map zaN)) h5] at hx
  simp only[zdq,zhk,zfv,mk_n,mk_m,zgP,List.mem_map] at hx
  obtain⟨l,hl,rfl⟩:=hx
  obtain⟨q,hq,r,e,hlr,hm⟩:=zjj _ _ _ hl
  rw[List.mem_singleton] at hq
  rw[hq,List.nil_append] at e
  subst e
  simp only[List.map_map,List.length_map] at hlr hm
  unfold zam
  rw[zsR,zru,ho,decide_eq_true (show _∨_∨_ from by rw[zhk];omega),Bool.true_and,Bool.true_and]
  refine zcp (by rw[zdq];omega) (fun i hi=>?_)
  have hm':=hm i (by omega)
  have e2:nth (p.kids.map (zaD ∘ zaN)) i=zaD (zaN (nth p.kids i)):=by
   rw[zbk (by simp;omega)];simp[nth,List.getD,show i<p.kids.length by omega]
  rw[e2] at hm'
  exact zgR n (zbX h (by omega)) _ hm'
theorem Pats.ok_of:∀ {l:List Pat},(∀k∈l,k.ok)→Pats.ok l
 | [],_=>trivial
 |k::r,h=>⟨h k (by simp),Pats.ok_of (fun x hx=>h x (by simp[hx]))⟩
theorem Pats.size_of {m:Nat}:∀ {l:List Pat},(∀k∈l,k.size≤m)→Pats.size l≤l.length*m
 | [],_=>by simp[Pats.size]
 |k::r,h=>by
  have h1:=h k (by simp)
  have h2:=Pats.size_of (l:=r) (fun x hx=>h x (by simp[hx]))
  simp only[Pats.size,List.length_cons,Nat.succ_mul];omega
mutual
theorem zjD:∀p:Pat,p.ok→(zaN p).ok
 | .mk op c n m v ks,h=>by
  unfold zaN
  split
  ·exact⟨by simp,trivial⟩
  ·split
   ·exact zrJ ks h.2
   ·exact⟨by rw[zkl,List.length_map];exact h.1,zoa ks h.2⟩
theorem zrJ:∀l:List Pat,Pats.ok l→(zjK l).ok
 | [],_=>⟨by simp,trivial⟩
 |k::r,h=>zjD k h.1
theorem zoa:∀l:List Pat,Pats.ok l→Pats.ok (zg4 l)
 | [],_=>trivial
 |k::r,h=>⟨zjD k h.1,zoa r h.2⟩
end
mutual
theorem zmV:∀p:Pat,(zaN p).size≤p.size
 | .mk op c n m v ks=>by
  unfold zaN
  split
  ·simp[anyQ,Pat.size,Pats.size]
  ·split
   ·have:=zp9 ks;simp only[Pat.size];omega
   ·have:=zkW ks;simp only[Pat.size];omega
theorem zp9:∀l:List Pat,(zjK l).size≤1+Pats.size l
 | []=>by simp[zjK,anyQ,Pat.size,Pats.size]
 |k::r=>by have:=zmV k;simp only[zjK,Pats.size];omega
theorem zkW:∀l:List Pat,Pats.size (zg4 l)≤Pats.size l
 | []=>Nat.le_refl _
 |k::r=>by have:=zmV k;have:=zkW r;simp only[zg4,Pats.size];omega
end
end Go.Proofs.YtcnjkjdmbnhcaaaGreat
namespace Go.Proofs.YtcnjkjdmbnhcaaaGreat
open Go
set_option linter.unusedSimpArgs false
set_option linter.unusedVariables false
def capN (n:Nat):Nat:=if 401<n then 401 else n
end Go.Proofs.YtcnjkjdmbnhcaaaGreat
namespace Go.Proofs.YtcnjkjdmbnhcaaaGreat
open Go
set_option linter.unusedSimpArgs false
set_option linter.unusedVariables false
set_option maxRecDepth 100000
set_option maxHeartbeats 2000000
end Go.Proofs.YtcnjkjdmbnhcaaaGreat
namespace Go.Proofs.YtcnjkjdmbnhcaaaGreat
open Go
set_option linter.unusedSimpArgs false
set_option linter.unusedVariables false
theorem Vals.ok_of:∀ {l:List Val},(∀v∈l,v.ok)→Vals.ok l
 | [],_=>trivial
 |v::r,h=>⟨h v (by simp),Vals.ok_of (fun x hx=>h x (List.mem_cons_of_mem _ hx))⟩
end Go.Proofs.YtcnjkjdmbnhcaaaGreat
namespace Go.Proofs.YtcnjkjdmbnhcaaaGreat
open Go
set_option linter.unusedSimpArgs false
set_option linter.unusedVariables false
set_option maxRecDepth 100000
set_option maxHeartbeats 2000000
theorem Pat.cs_cd (l:List Pat):Pat.cs l=l.map Pat.cc:=by
 rw[Pat.cs_eq];exact List.map_congr_left (fun v _=>Pat.c_eq v)
theorem zbj (l:List Pat):∀x∈Pat.cs l,x.length=6:=Pat.cs_rows
theorem zbE (l:List Pat):∀x∈l.map Pat.cc,x.length=6:=fun x hx=>by
 obtain⟨y,_,rfl⟩:=List.mem_map.1 hx;rfl
theorem zpu {p:Pat} (h:p.op=2):zaN p=anyQ:=by rw[zgE,if_pos h]
theorem zpv {p:Pat} (h:p.op=6) (h2:0<p.kids.length):zaN p=zaN (nth p.kids 0):=by
 rw[zgE,if_neg (by omega),if_pos ⟨h,fun e=>by rw[e] at h2;simp at h2⟩]
theorem zpw {p:Pat} (h:p.op≠2) (h2:¬(p.op=6∧0<p.kids.length)):zaN p = .mk p.op p.ctor p.n p.m p.var (p.kids.map zaN):=by
 rw[zgE,if_neg h,if_neg (fun hh=>h2 ⟨hh.1,List.length_pos_iff.2 hh.2⟩)]
theorem zdZ:∀(n:Nat){p:Pat},p.size≤n→p.ok→FnD Tryz.prog 100 [.agg [.d (.i p.op),.d (.i p.ctor),.d (.i p.n),.d (.i p.m),.d (.i p.var),.d (zaf p.kids)]] [] (.agg [.d (.i p.op),.d (.i p.ctor),.d (.i p.n),.d (.i p.m),.d (.i p.var),.d (zaf p.kids)]) []
 |0,p,h,_=>by rw[Pat.size_eq] at h;omega
 |n+1,p,h,hok=>by
  rw[Pat.size_eq] at h
  rw[Pat.ok_iff] at hok
  have hok1:=hok.1
  refine bd Tryz.f100 24 [] [] fun w0 F0 own kept hk=>?_
  refine Walk.box (id:=3001) .none rfl rfl rfl rfl rfl rfl rfl ?_
  refine Walk.alloc (id:=3002) tz56 rfl .none rfl rfl rfl rfl ?_
  refine tv ?_
  refine Walk.store ty45 .none rfl rfl rfl rfl rfl rfl (by simp) rfl ?_
  refine tv ?_
  refine CWp.tokB 3001 5 7 6 rfl rfl rfl rfl ?_
  refine CWp.loopX (ι:=List (Pat)×List (Pat)) hk (fun x=>[(11,.d (.i (x.1.length:Int)))]) [5,12,13,14,15,16,17,18,19,20,21,22] (fun x=>[(3001,some (.box [.d (.i p.op),.d (.i p.ctor),.d (.i p.n),.d (.i p.m),.d (.i p.var),.gl 7 (x.1.map Pat.cc)])),(7,some (.tok (x.1.map Pat.cc).length 6))]) (fun x=>x.1++x.2=p.kids) (fun x=>x.2.length) ([],p.kids) (by simp) ⟨⟨_,rfl,LeA.eqi ?_⟩,trivial⟩ ⟨?_,⟨zad ?_,trivial⟩⟩ (fun x=>rfl) (fun x hg1=>?_)
  focus (first|rfl|(simp;done)|(simp_all;done)|omega|(simp;omega))
  focus (first|rfl|(simp[getH];done))
  focus (first|rfl|(simp;done)|(simp_all;done)|omega|(simp;omega))
  obtain⟨pre,rest⟩:=x
  dsimp only at hg1 ⊢
  refine evc [] [] ?_
  refine sq (fun h1 h1p h1s=>?_) fun h1 h1p h1s=>?_
  try simp only[Q,Pat.cs_len] at h1p
  rcases rest with _|⟨y,rest⟩
  ·exfalso;simp_all
  refine Walk.idx sl45 .none rfl rfl rfl rfl (Pat.cs_at' hg1) rfl ?_
  refine ev ?_
  refine Walk.alloc (id:=3005) tz56 rfl .none rfl rfl rfl rfl ?_
  refine Walk.store ty56 .none rfl rfl rfl rfl rfl rfl (by simp) rfl ?_
  refine tv ?_
  refine wc zhG (zdZ n (p:=y) (by have:=Pats.size_mem (l:=p.kids) (v:=y) (by rw[←hg1];simp);omega) (Pats.ok_mem hok.2 y (by rw[←hg1];simp))) rfl rfl ?_
  refine Walk.sliceLit sl45 tz56 rfl (by decide) (ks:=[0]) (xs:=[_]) rfl rfl (by decide) (by decide) .none rfl rfl rfl rfl ?_
  refine Walk.append sl45 zz56 rfl .none rfl rfl rfl rfl (zaB rfl (by first|rfl|(simp;done)|(simp;omega))) (by intro x hx;first|(simp at hx;subst hx;rfl)|exact zbE _ x hx) (by have:=congrArg List.length hg1;simp at this;simp;omega) (by have:=congrArg List.length hg1;simp at this;simp;omega) ?_
  refine evd [] [] ?_
  refine Walk.store ty45 .none rfl rfl rfl rfl rfl rfl (by simp) rfl ?_
  refine dr ?_
  refine ar ?_
  refine Exists.intro ((pre++[y],rest)) ⟨(by have hz:=hg1;rw[←hz];simp),(by simp),sx ⟨⟨_,rfl,LeA.eqi ?_⟩,trivial⟩ ⟨?_,⟨zad ?_,trivial⟩⟩⟩
  focus (first|rfl|(simp;done)|(simp_all;done)|omega|(simp;omega))
  focus (first|rfl|(simp[getH];done))
  focus (first|rfl|(simp;done)|(simp_all;done)|omega|(simp;omega))
  try simp only[Q,Pat.cs_len] at h1p
  have hrest:rest=[]:=by
   rcases rest with _|⟨a,b⟩
   ·rfl
   ·exfalso;have hz:=congrArg List.length (hg1);simp only[List.length_append,List.length_cons,List.length_map] at hz;omega
  subst hrest
  refine Walk.store ty56 .none rfl rfl rfl rfl rfl rfl (by simp) rfl ?_
  refine tv ?_
  refine rn0 (.cons (.cellA ty56 rfl rfl rfl) .nil) (.agg (.cons (.eqd ?_) (.cons (.eqd ?_) (.cons (.eqd ?_) (.cons (.eqd ?_) (.cons (.eqd ?_) (.cons (.gld ?_) .nil)))))))
  rotate_left 6
  all_goals (first|rfl|(rw[List.append_nil] at hg1;rw[←hg1,Pat.cs_cd];done))
theorem ziN {l:List Pat} (h:l.length≤1000000000000) (hok:∀p∈l,p.ok):FnD Tryz.prog 120 [.d (zaf l)] [] (.d (zaf l)) []:=by
 refine bd Tryz.f120 19 [3] [] fun w0 F0 own kept hk=>?_
 refine Walk.assignNil 1 6 .none rfl rfl ?_
 refine tv ?_
 refine CWp.loopX (ι:=List (Pat)×List (Pat)) hk (fun x=>[(8,.d (.i (x.1.length:Int))),(3,.gl 1 (x.1.map Pat.cc))]) [5,9,10,11,12,13,14,15,16,17] (fun x=>[(1,some (.tok ((x.1.map Pat.cc)).length 6))]) (fun x=>x.1++x.2=l) (fun x=>x.2.length) ([],l) (by simp) ⟨⟨_,rfl,LeA.eqi ?_⟩,⟨⟨_,rfl,LeA.glg ?_⟩,trivial⟩⟩ ⟨zad ?_,trivial⟩ (fun x=>rfl) (fun x hg1=>?_)
 iterate 3 focus (first|rfl|(simp;done)|(simp_all;done)|omega|(simp;omega))
 obtain⟨pre,rest⟩:=x
 dsimp only at hg1 ⊢
 refine evc [3] [] ?_
 refine sq (fun h1 h1p h1s=>?_) fun h1 h1p h1s=>?_
 try simp only[Q,Pat.cs_len] at h1p
 rcases rest with _|⟨y,rest⟩
 ·exfalso;simp_all
 refine Walk.idx sl45 .none rfl rfl rfl rfl (Pat.cs_at' hg1) rfl ?_
 refine evs [3] [] ?_
 refine Walk.alloc (id:=3005) tz56 rfl .none rfl rfl rfl rfl ?_
 refine Walk.store ty56 .none rfl rfl rfl rfl rfl rfl (by simp) rfl ?_
 refine tv ?_
 refine wc zhG (zdZ _ (Nat.le_refl _) (hok y (by rw[←hg1];simp))) rfl rfl ?_
 refine Walk.sliceLit sl45 tz56 rfl (by decide) (ks:=[0]) (xs:=[_]) rfl rfl (by decide) (by decide) .none rfl rfl rfl rfl ?_
 refine Walk.append sl45 zz56 rfl .none rfl rfl rfl rfl (zaB rfl (by first|rfl|(simp;done)|(simp;omega))) (by intro x hx;simp at hx;subst hx;rfl) (by have:=congrArg List.length hg1;simp at this;simp;omega) (by have:=congrArg List.length hg1;simp at this;simp;omega) ?_
 refine asg ?_
 refine tv ?_
 refine ar ?_
 refine Exists.intro ((pre++[y],rest)) ⟨(by have hz:=hg1;rw[←hz];simp),(by simp),sx ⟨⟨_,rfl,LeA.eqi ?_⟩,⟨⟨_,rfl,LeA.glg ?_⟩,trivial⟩⟩ ⟨zad ?_,trivial⟩⟩
 iterate 3 focus (first|rfl|(simp;done)|(simp_all;done)|omega|(simp;omega))
 try simp only[Q,Pat.cs_len] at h1p
 have hrest:rest=[]:=by
  rcases rest with _|⟨a,b⟩
  ·rfl
  ·exfalso;have hz:=congrArg List.length (hg1);simp only[List.length_append,List.length_cons,List.length_map] at hz;omega
 subst hrest
 refine rn0 (r1 rfl) (.gld ?_)
 rotate_left
 all_goals (first|rfl|(rw[List.append_nil] at hg1;rw[←hg1,Pat.cs_cd];done))
theorem zcC:FnD Tryz.prog 53 [] [] (.agg [.d (.i 1),.d (.i 0),.d (.i 0),.d (.i 0),.d (.i 0),.d (.sl [])]) []:=by
 refine bd Tryz.f53 2 [] [] fun w0 F0 own kept hk=>?_
 refine Walk.alloc (id:=3000) tz56 rfl .none rfl rfl rfl rfl ?_
 refine tv ?_
 refine Walk.build st56 (ks:=[0]) (xs:=[_]) rfl rfl .none rfl rfl rfl ?_
 refine Walk.store ty56 .none rfl rfl rfl rfl rfl rfl (by simp) rfl ?_
 refine tv ?_
 focus (refine rn0 (.cons (.cellA ty56 rfl rfl rfl) .nil) (.agg (.cons (.eqd ?_) (.cons (.eqd ?_) (.cons (.eqd ?_) (.cons (.eqd ?_) (.cons (.eqd ?_) (.cons (.nild ?_) .nil)))))));all_goals (first|rfl|(simp[];done)|(simp_all;done)|(simp_all;omega)|omega))
theorem zc1:∀(n:Nat){p:Pat},p.size≤n→p.ok→FnD Tryz.prog 178 [.agg [.d (.i p.op),.d (.i p.ctor),.d (.i p.n),.d (.i p.m),.d (.i p.var),.d (zaf p.kids)]] [] (.agg [.d (.i (zaN p).op),.d (.i (zaN p).ctor),.d (.i (zaN p).n),.d (.i (zaN p).m),.d (.i (zaN p).var),.d (zaf (zaN p).kids)]) []
 |0,p,h,_=>by rw[Pat.size_eq] at h;omega
 |n+1,p,h,hok=>by
  rw[Pat.size_eq] at h
  rw[Pat.ok_iff] at hok
  have hok1:=hok.1
  by_cases h2:p.op=2
  ·rw[zpu h2]
   refine bd Tryz.f178 44 [] [] fun w0 F0 own kept hk=>?_
   refine Walk.box (id:=3001) .none rfl rfl rfl rfl rfl rfl rfl ?_
   refine Walk.alloc (id:=3002) tz56 rfl .none rfl rfl rfl rfl ?_
   refine tv ?_
   refine sq (fun h1 h1p h1s=>?_) fun h1 h1p h1s=>?_
   try simp only[Q] at h1p
   refine wc zjG (zcC) rfl rfl ?_
   refine Walk.store ty56 .none rfl rfl rfl rfl rfl rfl (by simp) rfl ?_
   refine tv ?_
   refine rn0 (.cons (.cellA ty56 rfl rfl rfl) .nil) (.agg (.cons (.eqd ?_) (.cons (.eqd ?_) (.cons (.eqd ?_) (.cons (.eqd ?_) (.cons (.eqd ?_) (.cons (.eqd ?_) .nil)))))))
   rotate_left 6
   try simp only[Q] at h1p
   exfalso;omega
   all_goals (rfl)
  by_cases h6:p.op=6∧0<p.kids.length
  ·rw[zpv h6.1 h6.2]
   refine bd Tryz.f178 44 [] [] fun w0 F0 own kept hk=>?_
   refine Walk.box (id:=3001) .none rfl rfl rfl rfl rfl rfl rfl ?_
   refine Walk.alloc (id:=3002) tz56 rfl .none rfl rfl rfl rfl ?_
   refine tv ?_
   refine sq (fun h1 h1p h1s=>?_) fun h1 h1p h1s=>?_
   try simp only[Q,Pat.cs_len] at h1p
   exfalso;omega
   try simp only[Q,Pat.cs_len] at h1p
   refine sq (fun h2 h2p h2s=>?_) fun h2 h2p h2s=>?_
   try simp only[Q,Pat.cs_len] at h2p
   refine sq (fun h3 h3p h3s=>?_) fun h3 h3p h3s=>?_
   try simp only[Q,Pat.cs_len] at h3p
   refine Walk.idx (i:=0) sl45 .none rfl rfl rfl rfl (zaI h6.2) rfl ?_
   refine ev ?_
   refine wc ziV (zc1 n (p:=nth p.kids 0) (by have:=Pats.size_mem (zal h6.2);omega) (Pats.ok_mem hok.2 _ (zal h6.2))) rfl rfl ?_
   refine Walk.store ty56 .none rfl rfl rfl rfl rfl rfl (by simp) rfl ?_
   refine tv ?_
   refine rn0 (.cons (.cellA ty56 rfl rfl rfl) .nil) (.agg (.cons (.eqd ?_) (.cons (.eqd ?_) (.cons (.eqd ?_) (.cons (.eqd ?_) (.cons (.eqd ?_) (.cons (.eqd ?_) .nil)))))))
   rotate_left 6
   try simp only[Q,Pat.cs_len] at h3p
   focus (exfalso;first|omega|(simp_all;done))
   try simp only[Q,Pat.cs_len] at h2p
   exfalso;omega
   all_goals (rfl)
  ·rw[zpw h2 h6]
   refine bd Tryz.f178 44 [] [] fun w0 F0 own kept hk=>?_
   refine Walk.box (id:=3001) .none rfl rfl rfl rfl rfl rfl rfl ?_
   refine Walk.alloc (id:=3002) tz56 rfl .none rfl rfl rfl rfl ?_
   refine tv ?_
   refine sq (fun h1 h1p h1s=>?_) fun h1 h1p h1s=>?_
   try simp only[Q,Pat.cs_len] at h1p
   exfalso;omega
   try simp only[Q,Pat.cs_len] at h1p
   refine sq (fun h2 h2p h2s=>?_) fun h2 h2p h2s=>?_
   try simp only[Q,Pat.cs_len] at h2p
   refine sq (fun h3 h3p h3s=>?_) fun h3 h3p h3s=>?_
   try simp only[Q,Pat.cs_len] at h3p
   focus (exfalso;apply h6;first|omega|(simp_all;done))
   try simp only[Q,Pat.cs_len] at h3p
   refine Walk.store ty45 .none rfl rfl rfl rfl rfl rfl (by simp) rfl ?_
   refine tv ?_
   refine CWp.tokB 3001 5 7 6 rfl rfl rfl rfl ?_
   refine CWp.loopX (ι:=List (Pat)×List (Pat)) hk (fun x=>[(31,.d (.i (x.1.length:Int)))]) [5,32,33,34,35,36,37,38,39,40,41,42] (fun x=>[(3001,some (.box [.d (.i p.op),.d (.i p.ctor),.d (.i p.n),.d (.i p.m),.d (.i p.var),.gl 7 ((x.1.map zaN).map Pat.cc)])),(7,some (.tok ((x.1.map zaN).map Pat.cc).length 6))]) (fun x=>x.1++x.2=p.kids) (fun x=>x.2.length) ([],p.kids) (by simp) ⟨⟨_,rfl,LeA.eqi ?_⟩,trivial⟩ ⟨?_,⟨zad ?_,trivial⟩⟩ (fun x=>rfl) (fun x hg1=>?_)
   focus (first|rfl|(simp;done)|(simp_all;done)|omega|(simp;omega))
   focus (first|rfl|(simp[getH];done))
   focus (first|rfl|(simp;done)|(simp_all;done)|omega|(simp;omega))
   obtain⟨pre,rest⟩:=x
   dsimp only at hg1 ⊢
   refine evc [] [] ?_
   refine sq (fun h4 h4p h4s=>?_) fun h4 h4p h4s=>?_
   try simp only[Q,Pat.cs_len] at h4p
   rcases rest with _|⟨y,rest⟩
   ·exfalso;simp_all
   refine Walk.idx sl45 .none rfl rfl rfl rfl (Pat.cs_at' hg1) rfl ?_
   refine ev ?_
   refine Walk.alloc (id:=3005) tz56 rfl .none rfl rfl rfl rfl ?_
   refine Walk.store ty56 .none rfl rfl rfl rfl rfl rfl (by simp) rfl ?_
   refine tv ?_
   refine wc ziV (zc1 n (p:=y) (by have:=Pats.size_mem (l:=p.kids) (v:=y) (by rw[←hg1];simp);omega) (Pats.ok_mem hok.2 y (by rw[←hg1];simp))) rfl rfl ?_
   refine Walk.sliceLit sl45 tz56 rfl (by decide) (ks:=[0]) (xs:=[_]) rfl rfl (by decide) (by decide) .none rfl rfl rfl rfl ?_
   refine Walk.append sl45 zz56 rfl .none rfl rfl rfl rfl (zaB rfl (by first|rfl|(simp;done)|(simp;omega))) (by intro x hx;first|(simp at hx;subst hx;rfl)|exact zbE _ x hx) (by have:=congrArg List.length hg1;simp at this;simp;omega) (by have:=congrArg List.length hg1;simp at this;simp;omega) ?_
   refine evd [] [] ?_
   refine Walk.store ty45 .none rfl rfl rfl rfl rfl rfl (by simp) rfl ?_
   refine dr ?_
   refine ar ?_
   refine Exists.intro ((pre++[y],rest)) ⟨(by have hz:=hg1;rw[←hz];simp),(by simp),sx ⟨⟨_,rfl,LeA.eqi ?_⟩,trivial⟩ ⟨?_,⟨zad ?_,trivial⟩⟩⟩
   focus (first|rfl|(simp;done)|(simp_all;done)|omega|(simp;omega))
   focus (first|rfl|(simp[getH];done))
   focus (first|rfl|(simp;done)|(simp_all;done)|omega|(simp;omega))
   try simp only[Q,Pat.cs_len] at h4p
   have hrest:rest=[]:=by
    rcases rest with _|⟨a,b⟩
    ·rfl
    ·exfalso;have hz:=congrArg List.length (hg1);simp only[List.length_append,List.length_cons,List.length_map] at hz;omega
   subst hrest
   refine Walk.store ty56 .none rfl rfl rfl rfl rfl rfl (by simp) rfl ?_
   refine tv ?_
   refine rn0 (.cons (.cellA ty56 rfl rfl rfl) .nil) (.agg (.cons (.eqd ?_) (.cons (.eqd ?_) (.cons (.eqd ?_) (.cons (.eqd ?_) (.cons (.eqd ?_) (.cons (.gld ?_) .nil)))))))
   rotate_left 6
   try simp only[Q,Pat.cs_len] at h2p
   refine sqF ?_
   refine Walk.store ty45 .none rfl rfl rfl rfl rfl rfl (by simp) rfl ?_
   refine tv ?_
   refine CWp.tokB 3001 5 7 6 rfl rfl rfl rfl ?_
   refine CWp.loopX (ι:=List (Pat)×List (Pat)) hk (fun x=>[(31,.d (.i (x.1.length:Int)))]) [5,32,33,34,35,36,37,38,39,40,41,42] (fun x=>[(3001,some (.box [.d (.i p.op),.d (.i p.ctor),.d (.i p.n),.d (.i p.m),.d (.i p.var),.gl 7 ((x.1.map zaN).map Pat.cc)])),(7,some (.tok ((x.1.map zaN).map Pat.cc).length 6))]) (fun x=>x.1++x.2=p.kids) (fun x=>x.2.length) ([],p.kids) (by simp) ⟨⟨_,rfl,LeA.eqi ?_⟩,trivial⟩ ⟨?_,⟨zad ?_,trivial⟩⟩ (fun x=>rfl) (fun x hg1=>?_)
   focus (first|rfl|(simp;done)|(simp_all;done)|omega|(simp;omega))
   focus (first|rfl|(simp[getH];done))
   focus (first|rfl|(simp;done)|(simp_all;done)|omega|(simp;omega))
   obtain⟨pre,rest⟩:=x
   dsimp only at hg1 ⊢
   refine evc [] [] ?_
   refine sq (fun h6 h6p h6s=>?_) fun h6 h6p h6s=>?_
   try simp only[Q,Pat.cs_len] at h6p
   rcases rest with _|⟨y,rest⟩
   ·exfalso;simp_all
   refine Walk.idx sl45 .none rfl rfl rfl rfl (Pat.cs_at' hg1) rfl ?_
   refine ev ?_
   refine Walk.alloc (id:=3005) tz56 rfl .none rfl rfl rfl rfl ?_
   refine Walk.store ty56 .none rfl rfl rfl rfl rfl rfl (by simp) rfl ?_
   refine tv ?_
   refine wc ziV (zc1 n (p:=y) (by have:=Pats.size_mem (l:=p.kids) (v:=y) (by rw[←hg1];simp);omega) (Pats.ok_mem hok.2 y (by rw[←hg1];simp))) rfl rfl ?_
   refine Walk.sliceLit sl45 tz56 rfl (by decide) (ks:=[0]) (xs:=[_]) rfl rfl (by decide) (by decide) .none rfl rfl rfl rfl ?_
   refine Walk.append sl45 zz56 rfl .none rfl rfl rfl rfl (zaB rfl (by first|rfl|(simp;done)|(simp;omega))) (by intro x hx;first|(simp at hx;subst hx;rfl)|exact zbE _ x hx) (by have:=congrArg List.length hg1;simp at this;simp;omega) (by have:=congrArg List.length hg1;simp at this;simp;omega) ?_
   refine evd [] [] ?_
   refine Walk.store ty45 .none rfl rfl rfl rfl rfl rfl (by simp) rfl ?_
   refine dr ?_
   refine ar ?_
   refine Exists.intro ((pre++[y],rest)) ⟨(by have hz:=hg1;rw[←hz];simp),(by simp),sx ⟨⟨_,rfl,LeA.eqi ?_⟩,trivial⟩ ⟨?_,⟨zad ?_,trivial⟩⟩⟩
   focus (first|rfl|(simp;done)|(simp_all;done)|omega|(simp;omega))
   focus (first|rfl|(simp[getH];done))
   focus (first|rfl|(simp;done)|(simp_all;done)|omega|(simp;omega))
   try simp only[Q,Pat.cs_len] at h6p
   have hrest:rest=[]:=by
    rcases rest with _|⟨a,b⟩
    ·rfl
    ·exfalso;have hz:=congrArg List.length (hg1);simp only[List.length_append,List.length_cons,List.length_map] at hz;omega
   subst hrest
   refine Walk.store ty56 .none rfl rfl rfl rfl rfl rfl (by simp) rfl ?_
   refine tv ?_
   refine rn0 (.cons (.cellA ty56 rfl rfl rfl) .nil) (.agg (.cons (.eqd ?_) (.cons (.eqd ?_) (.cons (.eqd ?_) (.cons (.eqd ?_) (.cons (.eqd ?_) (.cons (.gld ?_) .nil)))))))
   rotate_left 6
   all_goals (first|rfl|(rw[List.append_nil] at hg1;rw[←hg1,Pat.cs_cd];done)|(rw[List.append_nil] at hg1;subst hg1;rw[←Pat.cs_cd];all_goals rfl))
theorem zdX:∀(n:Nat){p:Pat},p.size≤n→p.ok→FnD Tryz.prog 179 [.agg [.d (.i p.op),.d (.i p.ctor),.d (.i p.n),.d (.i p.m),.d (.i p.var),.d (zaf p.kids)]] [] (.d (.i (cntS p))) []
 |0,p,h,_=>by rw[Pat.size_eq] at h;omega
 |n+1,p,h,hok=>by
  rw[Pat.size_eq] at h
  rw[Pat.ok_iff] at hok
  have hok1:=hok.1
  have hbd:=fun i=>zmj (nth p.kids i)
  by_cases h5:p.op=5
  ·rw[zmk,if_pos h5]
   refine bd Tryz.f179 31 [] [] fun w0 F0 own kept hk=>?_
   refine Walk.box (id:=3001) .none rfl rfl rfl rfl rfl rfl rfl ?_
   refine ev ?_
   refine sq (fun h1 h1p h1s=>?_) fun h1 h1p h1s=>?_
   try simp only[Q,Pat.cs_len] at h1p
   refine CWp.loopX (ι:=Nat×Int) hk (fun x=>[(12,.d (.i (x.1:Int))),(3,.d (.i x.2))]) [5,13,14,15,16,17,18,19,20,21,22,23,24,25,26,27,28,29] (fun x=>[]) (fun x=>x.1≤p.kids.length∧cntO (p.kids.drop x.1) x.2=cntO p.kids 0∧0≤x.2∧x.2≤401) (fun x=>p.kids.length-x.1) (0,0) ⟨by simp,rfl,by simp,by simp⟩ ⟨⟨_,rfl,LeA.eqi ?_⟩,⟨⟨_,rfl,LeA.eqi ?_⟩,trivial⟩⟩ trivial (fun x=>rfl) (fun x hg1=>?_)
   iterate 2 focus (first|rfl|(dsimp only;omega)|(simp;done))
   refine evc [] [] ?_
   refine sq (fun h2 h2p h2s=>?_) fun h2 h2p h2s=>?_
   try simp only[Q,Pat.cs_len] at h2p
   refine Walk.idx sl45 .none rfl rfl rfl rfl (zaI (by omega)) rfl ?_
   refine ev ?_
   refine Walk.alloc (id:=3005) tz56 rfl .none rfl rfl rfl rfl ?_
   refine Walk.store ty56 .none rfl rfl rfl rfl rfl rfl (by simp) rfl ?_
   refine tv ?_
   refine sq (fun h3 h3p h3s=>?_) fun h3 h3p h3s=>?_
   try simp only[Q,Pat.cs_len] at h3p
   refine wc zkY (zdX n (p:=nth p.kids x.1) (by have:=Pats.size_mem (zal (l:=p.kids) (i:=x.1) (by omega));omega) (Pats.ok_mem hok.2 _ (zal (by omega)))) rfl rfl ?_
   refine ev ?_
   refine ar ?_ (by first|(constructor<;>omega)|(have hb:=hbd x.1;constructor<;>omega)|(constructor<;>simp[Pat.cs_len]<;>omega))
   refine Walk.minI .none rfl rfl rfl ?_
   refine ev ?_
   refine ar ?_ (by first|(constructor<;>omega)|(have hb:=hbd x.1;constructor<;>omega)|(constructor<;>simp[Pat.cs_len]<;>omega))
   refine Exists.intro ((x.1+1,cap (x.2+cntS (nth p.kids x.1)))) ⟨(by
        have hb:=hbd x.1
        have hc:=zk6 (x:=x.2+cntS (nth p.kids x.1)) (by omega)
        exact⟨by dsimp only;omega,by dsimp only;rw[←zqT (by omega)];exact hg1.2.1,hc.1,hc.2⟩),(by dsimp only;omega),sx ⟨⟨_,rfl,LeA.eqi ?_⟩,⟨⟨_,rfl,LeA.eqi ?_⟩,trivial⟩⟩ trivial⟩
   iterate 2 focus (first|rfl|(dsimp only;omega)|(simp;done))
   try simp only[Q,Pat.cs_len] at h3p
   exfalso;omega
   try simp only[Q,Pat.cs_len] at h2p
   refine rn0 (r1 rfl) (.eqd ?_)
   rotate_left
   try simp only[Q,Pat.cs_len] at h1p
   exfalso;omega
   all_goals (refine congrArg D.i ?_;rw[←hg1.2.1,List.drop_eq_nil_of_le (by omega)];rfl)
  ·rw[zmk,if_neg h5]
   refine bd Tryz.f179 31 [] [] fun w0 F0 own kept hk=>?_
   refine Walk.box (id:=3001) .none rfl rfl rfl rfl rfl rfl rfl ?_
   refine ev ?_
   refine sq (fun h1 h1p h1s=>?_) fun h1 h1p h1s=>?_
   try simp only[Q,Pat.cs_len] at h1p
   exfalso;omega
   try simp only[Q,Pat.cs_len] at h1p
   refine CWp.loopX (ι:=Nat×Int) hk (fun x=>[(12,.d (.i (x.1:Int))),(3,.d (.i x.2))]) [5,13,14,15,16,17,18,19,20,21,22,23,24,25,26,27,28,29] (fun x=>[]) (fun x=>x.1≤p.kids.length∧cntM (p.kids.drop x.1) x.2=cntM p.kids 1∧0≤x.2∧x.2≤401) (fun x=>p.kids.length-x.1) (0,1) ⟨by simp,rfl,by simp,by simp⟩ ⟨⟨_,rfl,LeA.eqi ?_⟩,⟨⟨_,rfl,LeA.eqi ?_⟩,trivial⟩⟩ trivial (fun x=>rfl) (fun x hg1=>?_)
   iterate 2 focus (first|rfl|(dsimp only;omega)|(simp;done))
   refine evc [] [] ?_
   refine sq (fun h2 h2p h2s=>?_) fun h2 h2p h2s=>?_
   try simp only[Q,Pat.cs_len] at h2p
   refine Walk.idx sl45 .none rfl rfl rfl rfl (zaI (by omega)) rfl ?_
   refine ev ?_
   refine Walk.alloc (id:=3005) tz56 rfl .none rfl rfl rfl rfl ?_
   refine Walk.store ty56 .none rfl rfl rfl rfl rfl rfl (by simp) rfl ?_
   refine tv ?_
   refine sq (fun h3 h3p h3s=>?_) fun h3 h3p h3s=>?_
   try simp only[Q,Pat.cs_len] at h3p
   exfalso;omega
   try simp only[Q,Pat.cs_len] at h3p
   refine wc zkY (zdX n (p:=nth p.kids x.1) (by have:=Pats.size_mem (zal (l:=p.kids) (i:=x.1) (by omega));omega) (Pats.ok_mem hok.2 _ (zal (by omega)))) rfl rfl ?_
   refine ev ?_
   refine ar ?_ (by first|(constructor<;>omega)|(have hb:=hbd x.1;have h3:=Int.mul_le_mul hg1.2.2.2 hb.2 hb.1 (by omega);have h4:=Int.mul_nonneg hg1.2.2.1 hb.1;constructor<;>omega)|(constructor<;>simp[Pat.cs_len]<;>omega))
   refine Walk.minI .none rfl rfl rfl ?_
   refine ev ?_
   refine ar ?_ (by first|(constructor<;>omega)|(have hb:=hbd x.1;have h3:=Int.mul_le_mul hg1.2.2.2 hb.2 hb.1 (by omega);have h4:=Int.mul_nonneg hg1.2.2.1 hb.1;constructor<;>omega)|(constructor<;>simp[Pat.cs_len]<;>omega))
   refine Exists.intro ((x.1+1,cap (x.2*cntS (nth p.kids x.1)))) ⟨(by
        have hb:=hbd x.1
        have hc:=zk6 (x:=x.2*cntS (nth p.kids x.1)) (Int.mul_nonneg hg1.2.2.1 hb.1)
        exact⟨by dsimp only;omega,by dsimp only;rw[←zqS (by omega)];exact hg1.2.1,hc.1,hc.2⟩),(by dsimp only;omega),sx ⟨⟨_,rfl,LeA.eqi ?_⟩,⟨⟨_,rfl,LeA.eqi ?_⟩,trivial⟩⟩ trivial⟩
   iterate 2 focus (first|rfl|(dsimp only;omega)|(simp;done))
   try simp only[Q,Pat.cs_len] at h2p
   refine rn0 (r1 rfl) (.eqd ?_)
   rotate_left
   all_goals (refine congrArg D.i ?_;rw[←hg1.2.1,List.drop_eq_nil_of_le (by omega)];rfl)
theorem zfm {xs:List Pat} (hs:xs.length≤1000000000000):FnD Tryz.prog 184 [.d (zaf xs)] [] (.gl 77 (Pat.cs xs)) [(77,some (.tok (Pat.cs xs).length 6))]:=by
 refine Fn.body (fn:=Tryz.f184) (n:=8) rfl rfl rfl rfl rfl (fun w0 F0 own kept hk=>?_)
 refine CWp.splitNil 0 rfl (fun hx0=>?_) ?_
 refine evc [2,4] [] ?_
 refine asg ?_
 refine tv ?_
 refine Walk.eqNilT sl45 .none rfl rfl ?_
 refine tv ?_
 refine sqT ?_
 refine Walk.assignNil 77 6 .none rfl rfl ?_
 refine tv ?_
 refine rn [(77,some (.tok (Pat.cs xs).length 6))] (r1 rfl) (.glg ?_) ⟨rfl,rfl⟩ (SubH.get ⟨?_,trivial⟩) (zbc rfl)
 rotate_left 2
 refine evc [2,4] [] ?_
 refine asg ?_
 refine tv ?_
 refine Walk.eqNilF sl45 .none rfl rfl ?_
 refine tv ?_
 refine sqF ?_
 refine Walk.sliceEmptyG 77 sl45 .none rfl rfl ?_
 refine evs [2,4] [] ?_
 refine Walk.append sl45 zz56 rfl .none rfl rfl rfl rfl (zaB rfl (by first|rfl|(simp;done)|(simp;omega))) (by intro y hy;rw[Pat.cs_cd] at hy;obtain⟨z,_,rfl⟩:=List.mem_map.1 hy;rfl) (by simp[Pat.cs_len];omega) (by simp[Pat.cs_len];omega) ?_
 refine asg ?_
 refine tv ?_
 refine rn [(77,some (.tok (Pat.cs xs).length 6))] (r1 rfl) (.glg ?_) ⟨rfl,rfl⟩ (SubH.get ⟨?_,trivial⟩) (zbc rfl)
 rotate_left 2
 all_goals (first|((first|rfl|exact hx0.symm|(simp;done));done)|(first|rfl|(simp[hx0];rfl)|(simp;rfl)))
def zcP (C:List Pat) (q:Pat):List Pat:=C.map fun c=> .mk q.op q.ctor q.n q.m q.var (q.kids++[c])
theorem zp8 {ls:List (List Pat)}{C:List Pat}{a b c d e:Int}:((zeB ls).map (fun l=>Pat.mk a b c d e l)).flatMap (zcP C)=(zeB (ls++[C])).map (fun l=>Pat.mk a b c d e l):=by
 rw[zqe]
 unfold zbq zcP
 rw[List.flatMap_map,List.map_flatMap]
 congr 1
 funext q
 simp[zhk,zfv,mk_n,mk_m,zgP,zdq]
def zcb (p:Pat) (i:Nat):List Pat:=(zeB ((p.kids.take i).map zaD)).map fun l=>Pat.mk p.op p.ctor p.n p.m p.var l
theorem zrI (p:Pat):zcb p 0=[.mk p.op p.ctor p.n p.m p.var []]:=by unfold zcb;simp[zeB]
theorem zpk {p:Pat}{i:Nat} (h:i<p.kids.length):(zcb p i).flatMap (zcP (zaD (nth p.kids i)))=zcb p (i+1):=by
 unfold zcb
 rw[zp8,List.take_succ_eq_append_getElem h,List.map_append,←zbk h];rfl
theorem zp6 {p:Pat}{i:Nat} (h5:p.op≠5) (h:p.kids.length≤i):zcb p i=zaD p:=by
 unfold zcb;rw[zeJ h5,List.take_of_length_le h]
theorem zp7 {n:Nat}{p:Pat} (h:binP (n+1) p=true) (h5:p.op≠5) (i:Nat):(zcb p i).length≤(zaD p).length:=by
 unfold zcb;rw[List.length_map];exact zps h h5 i
theorem zpj {p:Pat}{i:Nat}{q:Pat} (h:q∈zcb p i):q.kids.length≤p.kids.length:=by
 unfold zcb at h
 obtain⟨l,hl,rfl⟩:=List.mem_map.1 h
 obtain⟨q0,hq,r,e,hlr,_⟩:=zjj _ _ _ hl
 rw[List.mem_singleton] at hq
 rw[hq,List.nil_append] at e
 rw[zdq,e,hlr];simp;omega
theorem zfS {α β:Type}{f:α→List β}{k:Nat} (hf:∀x,(f x).length≤k):∀l:List α,(l.flatMap f).length≤l.length*k
 | []=>by simp
 |x::r=>by
  rw[List.flatMap_cons,List.length_append,List.length_cons,Nat.succ_mul]
  have:=hf x;have:=zfS hf r;omega
theorem zey:∀(n:Nat){p:Pat},binP n p=true→p.ok→(zaD p).length≤40→FnD Tryz.prog 180 [.agg [.d (.i p.op),.d (.i p.ctor),.d (.i p.n),.d (.i p.m),.d (.i p.var),.d (zaf p.kids)]] [] (.gl 9 (Pat.cs (zaD p))) [(9,some (.tok (Pat.cs (zaD p)).length 6))]
 |0,p,h,_,_=>by simp[binP] at h
 |n+1,p,h,hok,hlen=>by
  have hok':=(Pat.ok_iff p).1 hok
  have hok1:=hok'.1
  by_cases h5:p.op=5
  ·have hl:=zjE h h5
   have e5:=zgV h5 hl
   have l0:=zht h (i:=0) (by omega)
   have l1:=zht h (i:=1) (by omega)
   have c0:=zey n (zea h (i:=0) (by omega)) (Pats.ok_mem hok'.2 _ (zal (by omega))) (by omega)
   have c1:=FnD.glD (zey n (zea h (i:=1) (by omega)) (Pats.ok_mem hok'.2 _ (zal (by omega))) (by omega))
   rw[e5]
   refine bd Tryz.f180 70 [] [] fun w0 F0 own kept hk=>?_
   refine Walk.box (id:=3001) .none rfl rfl rfl rfl rfl rfl rfl ?_
   refine ev ?_
   refine sq (fun h1 h1p h1s=>?_) fun h1 h1p h1s=>?_
   try simp only[Q,Pat.cs_len] at h1p
   refine Walk.idx (i:=0) sl45 .none rfl rfl rfl rfl (zaI (by omega)) rfl ?_
   refine evd [] [] ?_
   refine Walk.call (cr:=[9]) zkZ (c0) rfl .none rfl rfl (LeL.refl _) trivial rfl rfl rfl ?_
   refine evd [] [] ?_
   refine Walk.idx (i:=1) sl45 .none rfl rfl rfl rfl (zaI (by omega)) rfl ?_
   refine evd [] [] ?_
   refine wc zkZ (c1) rfl rfl ?_
   refine Walk.append sl45 zz56 rfl .none rfl rfl rfl rfl (zaB rfl (by first|rfl|(simp;done)|(simp;omega))) (by intro x hx;exact zbj _ x hx) (by simp[Pat.cs_len];omega) (by simp[Pat.cs_len];omega) ?_
   refine evd [] [] ?_
   refine dr ?_
   refine rn [(9,some (.tok (Pat.cs (zaD (nth p.kids 0)++zaD (nth p.kids 1))).length 6))] (r1 rfl) (.glg ?_) ⟨rfl,rfl⟩ (SubH.get ⟨?_,trivial⟩) (zbc rfl)
   rotate_left 2
   try simp only[Q,Pat.cs_len] at h1p
   exfalso;omega
   all_goals (first|((first|rfl|(simp[Pat.cs_cd];done));done)|(first|rfl|(simp[Pat.cs_cd];rfl)))
  ·have hfl:=zp7 h h5
   have hfk:=fun(i:Nat) (q:Pat) (hq:q∈zcb p i)=>zpj hq
   have hf0:=zrI p
   have hfe:=fun(i:Nat) (hi:p.kids.length≤i)=>zp6 h5 hi
   have hfn:=fun(i:Nat) (hi:i<p.kids.length)=>zpk hi
   have hcal:=fun(i:Nat) (hi:i<p.kids.length)=>FnD.glD (zey n (zea h hi) (Pats.ok_mem hok'.2 _ (zal hi)) (by have:=zht h hi;omega))
   have hcl:=fun(i:Nat) (hi:i<p.kids.length)=>zht h hi
   have hgl:=fun(C:List Pat) (q:Pat)=>show(zcP C q).length≤C.length from by unfold zcP;simp
   generalize zaD p=SP at *
   refine bd Tryz.f180 70 [8] [10,23] fun w0 F0 own kept hk=>?_
   refine Walk.box (id:=3001) .none rfl rfl rfl rfl rfl rfl rfl ?_
   refine evs [8] [] ?_
   refine sq (fun h1 h1p h1s=>?_) fun h1 h1p h1s=>?_
   try simp only[Q,Pat.cs_len] at h1p
   exfalso;omega
   try simp only[Q,Pat.cs_len] at h1p
   refine Walk.store ty45 .none rfl rfl rfl rfl rfl rfl (by simp) rfl ?_
   refine tv ?_
   refine Walk.sliceLitG 9 sl45 tz56 rfl (by decide) (ks:=[0]) (xs:=[_]) rfl rfl (by decide) (by decide) .none rfl rfl rfl rfl rfl ?_
   refine evs [8] [] ?_
   refine CWp.loopX (ι:=Nat) hk (fun i=>[(35,.d (.i (i:Int))),(4,.gl 9 ((zcb p i).map Pat.cc)),(32,.any)]) [6,7,8,10,12,13,36,37,38,39,40,41,42,43,44,45,46,47,48,49,50,51,52,53,54,55,56,57,58,59,60,61,62,63,64,65,66,67,68] (fun i=>[(9,some (.tok (((zcb p i).map Pat.cc)).length 6))]) (fun i=>i≤p.kids.length) (fun i=>p.kids.length-i) 0 (by omega) ⟨⟨_,rfl,LeA.eqi ?_⟩,⟨⟨_,rfl,LeA.glg ?_⟩,⟨⟨_,rfl,.any _⟩,trivial⟩⟩⟩ ⟨zad ?_,trivial⟩ (fun x=>rfl) (fun i hg1=>?_)
   iterate 3 focus (first|rfl|(rw[hf0];rfl)|(rw[←hfn i (by omega),←hg2];done)|omega|(simp;done)|(simp;omega))
   refine evc [8] [10,23] ?_
   refine sq (fun h2 h2p h2s=>?_) fun h2 h2p h2s=>?_
   try simp only[Q,Pat.cs_len] at h2p
   refine Walk.idx sl45 .none rfl rfl rfl rfl (zaI (by omega)) rfl ?_
   refine evs [8] [] ?_
   refine Walk.alloc (id:=3006) tz56 rfl .none rfl rfl rfl rfl ?_
   refine Walk.store ty56 .none rfl rfl rfl rfl rfl rfl (by simp) rfl ?_
   refine tv ?_
   refine wc zkZ (hcal i (by omega)) rfl rfl ?_
   refine evs [8] [] ?_
   refine CWp.tokDrop 4 9 rfl rfl ?_
   refine evc [8] [] ?_
   refine Walk.assignNil 3 6 .none rfl rfl ?_
   refine tv ?_
   refine CWp.loopX (ι:=List (Pat)×List (Pat)) hk (fun x=>[(43,.d (.i (x.1.length:Int))),(8,.gl 3 ((x.1.flatMap (zcP (zaD (nth p.kids i)))).map Pat.cc))]) [10,12,13,44,45,46,47,48,49,50,51,52,53,54,55,56,57,58,59,60,61,62,63,64,65,66] (fun x=>[(3,some (.tok (((x.1.flatMap (zcP (zaD (nth p.kids i)))).map Pat.cc)).length 6))]) (fun x=>x.1++x.2=zcb p i) (fun x=>x.2.length) ([],zcb p i) (by simp) ⟨⟨_,rfl,LeA.eqi ?_⟩,⟨⟨_,rfl,LeA.glg ?_⟩,trivial⟩⟩ ⟨zad ?_,trivial⟩ (fun x=>rfl) (fun x hg2=>?_)
   iterate 3 focus (first|rfl|(simp;done)|(rw[List.append_nil] at hg3;rw[List.flatMap_append,List.map_append];simp[zcP,←hg3];done)|(simp;omega))
   obtain⟨pre2,rest2⟩:=x
   dsimp only at hg2 ⊢
   refine evc [8] [10,23] ?_
   refine sq (fun h3 h3p h3s=>?_) fun h3 h3p h3s=>?_
   try simp only[Q,Pat.cs_len] at h3p
   rcases rest2 with _|⟨q,rest2⟩
   ·exfalso;simp_all
   have hqk:=hfk i q (by rw[←hg2];simp);have hl2:=congrArg List.length hg2;simp only[List.length_append,List.length_cons] at hl2;have hl2b:=hfl i
   refine Walk.idx sl45 .none rfl rfl rfl rfl (zaV hg2) rfl ?_
   refine evs [8] [] ?_
   refine Walk.alloc (id:=3010) tz56 rfl .none rfl rfl rfl rfl ?_
   refine Walk.store ty56 .none rfl rfl rfl rfl rfl rfl (by simp) rfl ?_
   refine tv ?_
   refine CWp.loopX (ι:=List (Pat)×List (Pat)) hk (fun x=>[(49,.d (.i (x.1.length:Int))),(8,.gl 3 ((pre2.flatMap (zcP (zaD (nth p.kids i)))++zcP x.1 q).map Pat.cc))]) [12,13,50,51,52,53,54,55,56,57,58,59,60,61,62,63,64,65] (fun x=>[(3,some (.tok (((pre2.flatMap (zcP (zaD (nth p.kids i)))++zcP x.1 q).map Pat.cc)).length 6))]) (fun x=>x.1++x.2=zaD (nth p.kids i)) (fun x=>x.2.length) ([],zaD (nth p.kids i)) (by simp) ⟨⟨_,rfl,LeA.eqi ?_⟩,⟨⟨_,rfl,LeA.glg ?_⟩,trivial⟩⟩ ⟨zad ?_,trivial⟩ (fun x=>rfl) (fun x hg3=>?_)
   iterate 3 focus (first|rfl|(simp[zcP];done)|(simp[zcP];omega)|(simp[zcP,zhk,zfv,mk_n,mk_m,zgP,zdq,Pat.cs_cd];done)|(simp;omega))
   obtain⟨pre3,rest3⟩:=x
   dsimp only at hg3 ⊢
   refine evc [8] [10,23] ?_
   refine sq (fun h4 h4p h4s=>?_) fun h4 h4p h4s=>?_
   try simp only[Q,Pat.cs_len] at h4p
   rcases rest3 with _|⟨y,rest3⟩
   ·exfalso;simp_all
   have hl3:=congrArg List.length hg3;simp only[List.length_append,List.length_cons] at hl3;have hl3b:=hcl i (by omega)
   refine Walk.idx sl45 .none rfl rfl rfl rfl (Pat.cs_at' hg3) rfl ?_
   refine evs [8] [] ?_
   refine Walk.alloc (id:=3012) tz56 rfl .none rfl rfl rfl rfl ?_
   refine Walk.store ty56 .none rfl rfl rfl rfl rfl rfl (by simp) rfl ?_
   refine tv ?_
   refine Walk.alloc (id:=3013) tz56 rfl .none rfl rfl rfl rfl ?_
   refine Walk.store ty56 .none rfl rfl rfl rfl rfl rfl (by simp) rfl ?_
   refine tv ?_
   refine Walk.call (cr:=[77]) zoe (zfm (xs:=q.kids) (by omega)) rfl .none rfl rfl (LeL.refl _) trivial rfl rfl rfl ?_
   refine evd [8] [] ?_
   refine Walk.sliceLit sl45 tz56 rfl (by decide) (ks:=[0]) (xs:=[_]) rfl rfl (by decide) (by decide) .none rfl rfl rfl rfl ?_
   refine Walk.append sl45 zz56 rfl .none rfl rfl rfl rfl (zaB rfl (by first|rfl|(simp;done)|(simp;omega))) (by intro x hx;first|(simp at hx;subst hx;rfl)|exact zbE _ x hx|exact zbj _ x hx) (by first|(simp;omega)|(simp only[Pat.cs_len,List.length_append,List.length_cons,List.length_nil];omega)|(have h10:=hgl pre3 q;have h8:=congrArg List.length hg2;have h9:=congrArg List.length hg3;have h7:=zfS (hgl (zaD (nth p.kids i))) pre2;have h6:=hfl i;have h5:=hcl i (by omega);simp only[List.length_append,List.length_cons,List.length_map,List.length_nil] at *;have h4:pre2.length*(zaD (nth p.kids i)).length≤40*40:=Nat.mul_le_mul (by omega) (by omega);omega)) (by first|(simp;omega)|(simp only[Pat.cs_len,List.length_append,List.length_cons,List.length_nil];omega)|(have h10:=hgl pre3 q;have h8:=congrArg List.length hg2;have h9:=congrArg List.length hg3;have h7:=zfS (hgl (zaD (nth p.kids i))) pre2;have h6:=hfl i;have h5:=hcl i (by omega);simp only[List.length_append,List.length_cons,List.length_map,List.length_nil] at *;have h4:pre2.length*(zaD (nth p.kids i)).length≤40*40:=Nat.mul_le_mul (by omega) (by omega);omega)) ?_
   refine evd [8] [] ?_
   refine Walk.store ty45 .none rfl rfl rfl rfl rfl rfl (by simp) rfl ?_
   refine dr ?_
   refine Walk.sliceLit sl45 tz56 rfl (by decide) (ks:=[0]) (xs:=[_]) rfl rfl (by decide) (by decide) .none rfl rfl rfl rfl ?_
   refine Walk.append sl45 zz56 rfl .none rfl rfl rfl rfl (zaB rfl (by first|rfl|(simp;done)|(simp;omega))) (by intro x hx;first|(simp at hx;subst hx;rfl)|exact zbE _ x hx|exact zbj _ x hx) (by first|(simp;omega)|(simp only[Pat.cs_len,List.length_append,List.length_cons,List.length_nil];omega)|(have h10:=hgl pre3 q;have h8:=congrArg List.length hg2;have h9:=congrArg List.length hg3;have h7:=zfS (hgl (zaD (nth p.kids i))) pre2;have h6:=hfl i;have h5:=hcl i (by omega);simp only[List.length_append,List.length_cons,List.length_map,List.length_nil] at *;have h4:pre2.length*(zaD (nth p.kids i)).length≤40*40:=Nat.mul_le_mul (by omega) (by omega);omega)) (by first|(simp;omega)|(simp only[Pat.cs_len,List.length_append,List.length_cons,List.length_nil];omega)|(have h10:=hgl pre3 q;have h8:=congrArg List.length hg2;have h9:=congrArg List.length hg3;have h7:=zfS (hgl (zaD (nth p.kids i))) pre2;have h6:=hfl i;have h5:=hcl i (by omega);simp only[List.length_append,List.length_cons,List.length_map,List.length_nil] at *;have h4:pre2.length*(zaD (nth p.kids i)).length≤40*40:=Nat.mul_le_mul (by omega) (by omega);omega)) ?_
   refine asg ?_
   refine tv ?_
   refine ar ?_
   refine Exists.intro ((pre3++[y],rest3)) ⟨(by have hz:=hg3;rw[←hz];simp),(by simp),sx ⟨⟨_,rfl,LeA.eqi ?_⟩,⟨⟨_,rfl,LeA.glg ?_⟩,trivial⟩⟩ ⟨zad ?_,trivial⟩⟩
   iterate 3 focus (first|rfl|(simp[zcP];done)|(simp[zcP];omega)|(simp[zcP,zhk,zfv,mk_n,mk_m,zgP,zdq,Pat.cs_cd];done)|(simp;omega))
   try simp only[Q,Pat.cs_len] at h4p
   have hrest3:rest3=[]:=by
    rcases rest3 with _|⟨a,b⟩
    ·rfl
    ·exfalso;have hz:=congrArg List.length (hg3);simp only[List.length_append,List.length_cons,List.length_map] at hz;omega
   subst hrest3
   refine ar ?_
   refine Exists.intro ((pre2++[q],rest2)) ⟨(by have hz:=hg2;rw[←hz];simp),(by simp),sx ⟨⟨_,rfl,LeA.eqi ?_⟩,⟨⟨_,rfl,LeA.glg ?_⟩,trivial⟩⟩ ⟨zad ?_,trivial⟩⟩
   iterate 3 focus (first|rfl|(simp;done)|(rw[List.append_nil] at hg3;rw[List.flatMap_append,List.map_append];simp[zcP,←hg3];done)|(simp;omega))
   try simp only[Q,Pat.cs_len] at h3p
   have hrest2:rest2=[]:=by
    rcases rest2 with _|⟨a,b⟩
    ·rfl
    ·exfalso;have hz:=congrArg List.length (hg2);simp only[List.length_append,List.length_cons,List.length_map] at hz;omega
   subst hrest2
   refine CWp.tokRen 4 3 9 rfl rfl (by kernel_rfl) ?_
   refine evc [8] [] ?_
   refine ar ?_
   rw[List.append_nil] at hg2
   refine Exists.intro (i+1) ⟨(by omega),(by omega),sx ⟨⟨_,rfl,LeA.eqi ?_⟩,⟨⟨_,rfl,LeA.glg ?_⟩,⟨⟨_,rfl,.any _⟩,trivial⟩⟩⟩ ⟨zad ?_,trivial⟩⟩
   iterate 3 focus (first|rfl|(rw[hf0];rfl)|(rw[←hfn i (by omega),←hg2];done)|omega|(simp;done)|(simp;omega))
   try simp only[Q,Pat.cs_len] at h2p
   refine rn [(9,some (.tok (Pat.cs SP).length 6))] (r1 rfl) (.glg ?_) ⟨rfl,rfl⟩ (SubH.get ⟨?_,trivial⟩) (zbc rfl)
   rotate_left 2
   all_goals (first|(((rw[←hfe i (by omega),show Pat.cs (zcb p i)=(zcb p i).map Pat.cc from Pat.cs_cd _];all_goals rfl));done)|((rw[←hfe i (by omega),show Pat.cs (zcb p i)=(zcb p i).map Pat.cc from Pat.cs_cd _];all_goals rfl)))
def zdE (p:Pat):List Pat:=if (zaD (zaN p)).length≤40 then zaD (zaN p) else []
def zcX (p:Pat):Bool:=decide ((zaD (zaN p)).length≤40)
theorem znI {w:List Data}{n:Nat}{t:Ty}{p:Pat} (h:zaw w n t p=true) (hok:p.ok):FnD Tryz.prog 113 [.agg [.d (.i p.op),.d (.i p.ctor),.d (.i p.n),.d (.i p.m),.d (.i p.var),.d (zaf p.kids)]] [] (.tup [.d (zaf (zdE p)),.d (.bool (zcX p))]) []:=by
 have hb:=zhq n h
 have hbo:=zjD p hok
 have hce:=(zla n hb).1
 have hbp:=zc1 _ (Nat.le_refl _) hok
 have hcs:=zdX _ (Nat.le_refl _) hbo
 have hsp:=fun h40=>FnD.glD (zey n hb hbo h40)
 rw[hce] at hcs
 unfold zdE zcX
 generalize zaN p=b at *
 by_cases h40:(zaD b).length≤40
 ·rw[if_pos h40,decide_eq_true h40]
  have hc40:cap ((zaD b).length:Int)≤40:=by unfold cap;split<;>omega
  refine bd Tryz.f113 12 [] [] fun w0 F0 own kept hk=>?_
  refine Walk.box (id:=3001) .none rfl rfl rfl rfl rfl rfl rfl ?_
  refine ev ?_
  refine wc ziV (hbp) rfl rfl ?_
  refine Walk.alloc (id:=3004) tz56 rfl .none rfl rfl rfl rfl ?_
  refine Walk.store ty56 .none rfl rfl rfl rfl rfl rfl (by simp) rfl ?_
  refine tv ?_
  refine wc zkY (hcs) rfl rfl ?_
  refine ev ?_
  refine sq (fun h1 h1p h1s=>?_) fun h1 h1p h1s=>?_
  try simp only[Q] at h1p
  exfalso;omega
  try simp only[Q] at h1p
  refine wc zkZ (hsp h40) rfl rfl ?_
  refine ev ?_
  refine rn0 (r2 rfl rfl) (.tup (.cons (.eqd ?_) (.cons (.eqd ?_) .nil)))
  rotate_left 2
  all_goals (rfl)
 ·rw[if_neg h40,decide_eq_false h40]
  have hc40:¬cap ((zaD b).length:Int)≤40:=by unfold cap;split<;>omega
  refine bd Tryz.f113 12 [] [] fun w0 F0 own kept hk=>?_
  refine Walk.box (id:=3001) .none rfl rfl rfl rfl rfl rfl rfl ?_
  refine ev ?_
  refine wc ziV (hbp) rfl rfl ?_
  refine Walk.alloc (id:=3004) tz56 rfl .none rfl rfl rfl rfl ?_
  refine Walk.store ty56 .none rfl rfl rfl rfl rfl rfl (by simp) rfl ?_
  refine tv ?_
  refine wc zkY (hcs) rfl rfl ?_
  refine ev ?_
  refine sq (fun h1 h1p h1s=>?_) fun h1 h1p h1s=>?_
  try simp only[Q] at h1p
  refine rn0 (r2 rfl rfl) (.tup (.cons (.nild ?_) (.cons (.eqd ?_) .nil)))
  rotate_left 2
  try simp only[Q] at h1p
  exfalso;omega
  all_goals (rfl)
structure Spa (w:List Data):Prop where
 dp:Dp w
 ctors:∀t,InS (w.length*4) t→(zaA w t).length≤4∧(zaA w t).Nodup
 args:∀t c,InS (w.length*4) t→c∈zaA w t→(zaj w t c).length≤3
theorem zi1 (k:Int):∀(l:List Ctor) (i:Nat),(za2 k i l).Pairwise (· < ·)
 | [],_=>by simp[za2]
 |x::r,i=>by
  unfold za2
  have ih:=zi1 k r (i+1)
  split
  ·refine List.pairwise_cons.2 ⟨fun y hy=>?_,ih⟩
   obtain⟨j,rfl,h1,_⟩:=zf3 k r (i+1) y hy
   omega
  ·exact ih
theorem zpb {w:List Data} (hs:WSmall w) (hv:za8 w=true):Spa w:=by
 have hd:=zr4 hs hv
 have hW:=(zdu w).1 hv
 refine⟨hd,fun t ht=>?_,fun t c ht hc=>?_⟩
 ·unfold zaA
  split
  ·simp
  ·rename_i he
   refine⟨?_,(zi1 _ _ _).imp (fun h=>by omega)⟩
   rcases ht with h|⟨h1,h2⟩
   ·exact absurd h he
   ·have:=hd.ct _ h1;rw[h2] at this;exact this
 ·have hti:=zcK ht
  obtain⟨d,h1,h2,j,h3,h4⟩:=zcW (a:=t.data) (k:=t.index) hti hc
  have hco:=hW.ctor _ (zal h2) _ (zal h4)
  simp only[zaO,Bool.and_eq_true,decide_eq_true_eq] at hco
  unfold zaj
  rw[h1,h3]
  simp only[Int.toNat_natCast,List.length_map]
  omega
abbrev intQ (n m:Int):Pat:= .mk 3 0 n m 0 []
abbrev zb2 (c:Int) (l:List Pat):Pat:= .mk 4 c 0 0 0 l
def zch (w:List Data) (t:Ty) (c:Int):Pat:=zb2 c ((zaj w t c).map fun _=>anyQ)
def lowQ (p:Pat):Int:=if p.op=1 then 0 else p.n
def zc9 (p:Pat):Int:=if p.op=1 then 9 else p.m
def minQ (a b:Int):Int:=if b<a then b else a
def maxQ (a b:Int):Int:=if a<b then b else a
def zcg (n m:Int):List Pat:=if n≤m then [intQ n m] else []
def zcH (f:Pat→Pat→Option Pat):List Pat→List Pat→List Pat→Option (List Pat)
 |p::r,q::s,acc=>match f p q with
  |none=>none
  |some x=>zcH f r s (acc++[x])
 |_,_,acc=>some acc
def zaS:Nat→Pat→Pat→Option Pat
 |0,_,_=>none
 |n+1,a,b=>if a.op=1 then some b else if b.op=1 then some a else if a.op=3 then (if maxQ a.n b.n≤minQ a.m b.m then some (intQ (maxQ a.n b.n) (minQ a.m b.m)) else none)
  else if a.ctor=b.ctor then (zcH (zaS n) a.kids b.kids []).map (zb2 a.ctor) else none
def zbh (f:Ty→Pat→Pat→List Pat) (c:Int):List Ty→List Pat→List Pat→List Pat→List Pat
 |u::r,x::s,y::q,front=>(f u x y).map (fun z=>zb2 c (front++[z]++s))++(match zaS 11 x y with
  |none=>[]
  |some both=>zbh f c r s q (front++[both]))
 |_,_,_,_=>[]
def zdb (f:Ty→Pat→Pat→List Pat) (w:List Data) (t:Ty) (a b:Pat):List Pat:=if a.ctor=b.ctor then zbh f a.ctor (zaj w t a.ctor) a.kids b.kids [] else [a]
def zeu (a b:Pat):List Pat:=zcg (lowQ a) (minQ (zc9 a) (b.n-1))++zcg (maxQ (lowQ a) (b.m+1)) (zc9 a)
def zav (w:List Data):Nat→Ty→Pat→Pat→List Pat
 |0,_,_,_=>[]
 |n+1,t,a,b=>if b.op=1 then [] else if b.op=3 then zeu a b else if a.op=1 then (zaA w t).flatMap fun c=>zdb (zav w n) w t (zch w t c) b else zdb (zav w n) w t a b
section
variable {w:List Data}{n:Nat}{t:Ty}{a b:Pat}
theorem zhS (h:b.op=1):zav w (n+1) t a b=[]:=by unfold zav;rw[if_pos h]
theorem zjP (h:b.op=3):zav w (n+1) t a b=zeu a b:=by unfold zav;rw[if_neg (by omega),if_pos h]
theorem zhT (h:b.op=4) (h2:a.op=1):zav w (n+1) t a b=(zaA w t).flatMap fun c=>zdb (zav w n) w t (zch w t c) b:=by
 conv=>lhs;unfold zav
 rw[if_neg (by omega),if_neg (by omega),if_pos h2]
theorem zeg (h:b.op=4) (h2:a.op=4):zav w (n+1) t a b=zdb (zav w n) w t a b:=by
 conv=>lhs;unfold zav
 rw[if_neg (by omega),if_neg (by omega),if_neg (by omega)]
theorem zlE (h:a.op=1):zaS (n+1) a b=some b:=by unfold zaS;rw[if_pos h]
theorem zlF (h:a.op≠1) (h2:b.op=1):zaS (n+1) a b=some a:=by unfold zaS;rw[if_neg h,if_pos h2]
theorem zlG (h:a.op=3) (h2:b.op≠1):zaS (n+1) a b=if maxQ a.n b.n≤minQ a.m b.m then some (intQ (maxQ a.n b.n) (minQ a.m b.m)) else none:=by
 conv=>lhs;unfold zaS
 rw[if_neg (by omega),if_neg h2,if_pos h]
theorem zlH (h:a.op=4) (h2:b.op≠1) (hc:a.ctor=b.ctor):zaS (n+1) a b=(zcH (zaS n) a.kids b.kids []).map (zb2 a.ctor):=by
 conv=>lhs;unfold zaS
 rw[if_neg (by omega),if_neg h2,if_neg (by omega),if_pos hc]
theorem zjO (h:a.op=4) (h2:b.op≠1) (hc:¬a.ctor=b.ctor):zaS (n+1) a b=none:=by
 conv=>lhs;unfold zaS
 rw[if_neg (by omega),if_neg h2,if_neg (by omega),if_neg hc]
end
theorem zcx {w:List Data}{n:Nat}{t:Ty}{p:Pat} (h:zam w n t p=true) (h3:p.op=3):t.data = -1∧0≤p.n∧p.n≤p.m∧p.m≤9:=by
 have ho:=(zgQ h).1
 unfold ownP at ho
 have:=(of_decide_eq_true ho).2.2.2.2
 omega
theorem zbf {w:List Data}{n:Nat}{t:Ty}{p:Pat} (h:zam w n t p=true) (h4:p.op=4):p.ctor∈zaA w t∧t.data≠ -1∧p.kids.length=(zaj w t p.ctor).length∧p=zb2 p.ctor p.kids:=by
 obtain⟨ho,hl⟩:=zgQ h
 have hm:=zcw ho h4
 refine⟨hm,fun e=>by unfold zaA at hm;rw[if_pos e] at hm;simp at hm,by rw[zbG h4] at hl;exact hl, ?_⟩
 unfold ownP at ho
 have hh:=of_decide_eq_true ho
 have h1:=hh.2.1 (by omega)
 have h2:=hh.2.2.1 (by omega)
 obtain⟨op,c,m,k,v,ks⟩:=p
 change op=4 at h4
 change v=0 at h1
 change m=0∧k=0 at h2
 rw[h4,h1,h2.1,h2.2];rfl
theorem znd {w:List Data}{n:Nat}{t:Ty}{a b:Int} (ht:t.data = -1) (h0:0≤a) (h1:a≤b) (h2:b≤9):zam w (n+1) t (intQ a b)=true:=by
 unfold zam
 have e:zag w t (intQ a b)=[]:=rfl
 rw[e]
 have ho:ownP w t (intQ a b)=true:=by
  unfold ownP
  refine decide_eq_true ⟨fun h=>?_,fun _=>rfl,fun h=>absurd rfl h,fun _=>rfl,.inr (.inr (.inr (.inr (.inl ⟨rfl,ht,h0,h1,h2⟩))))⟩
  exfalso;change (3:Int)=2∨(3:Int)=6 at h;omega
 rw[ho];rfl
theorem zh8 {w:List Data}{n:Nat}{t:Ty}{c:Int}{l:List Pat} (hc:c∈zaA w t) (hl:l.length=(zaj w t c).length) (hk:∀i,i<l.length→zam w n (nth (zaj w t c) i) (nth l i)=true):zam w (n+1) t (zb2 c l)=true:=by
 unfold zam
 have e:zag w t (zb2 c l)=zaj w t c:=zbG rfl
 have ho:ownP w t (zb2 c l)=true:=by
  unfold ownP
  refine decide_eq_true ⟨fun h=>?_,fun _=>rfl,fun _=>⟨rfl,rfl⟩,fun h=>absurd rfl h,.inr (.inr (.inr (.inr (.inr ⟨rfl,hc⟩))))⟩
  exfalso;change (4:Int)=2∨(4:Int)=6 at h;omega
 rw[ho,e,zdq]
 exact zcp hl.symm (fun i hi=>hk i (by omega))
theorem zjQ {w:List Data}{n m:Nat} (h:n≤m){t:Ty}{p:Pat} (hp:zam w n t p=true):zam w m t p=true:=by
 induction h with
 |refl=>exact hp
 |step _ ih=>exact zfX _ ih
theorem zdJ {w:List Data}{n:Nat}{t:Ty}{c:Int} (hc:c∈zaA w t):zam w (n+2) t (zch w t c)=true:=by
 unfold zch
 refine zh8 hc (by simp) (fun i hi=>?_)
 have e:nth ((zaj w t c).map fun _=>anyQ) i=anyQ:=by
  rw[zbk hi];simp
 rw[e];exact ziQ
theorem zlC {f:Pat→Pat→Option Pat}{a b:List Pat}{i:Nat}{acc:List Pat} (h1:i<a.length) (h2:i<b.length) (h:f (nth a i) (nth b i)=none):zcH f (a.drop i) (b.drop i) acc=none:=by
 rw[za9 h1,za9 h2,zcH,h]
theorem zlD {f:Pat→Pat→Option Pat}{a b:List Pat}{i:Nat}{acc:List Pat}{x:Pat} (h1:i<a.length) (h2:i<b.length) (h:f (nth a i) (nth b i)=some x):zcH f (a.drop i) (b.drop i) acc=zcH f (a.drop (i+1)) (b.drop (i+1)) (acc++[x]):=by
 rw[za9 h1,za9 h2,zcH,h]
theorem zeO {f:Pat→Pat→Option Pat}{a b:List Pat}{i:Nat}{acc:List Pat} (h1:a.length≤i):zcH f (a.drop i) (b.drop i) acc=some acc:=by
 rw[List.drop_eq_nil_of_le h1];cases b.drop i<;>rfl
theorem zim {f:Pat→Pat→Option Pat}:∀ {a b acc l:List Pat},a.length=b.length→zcH f a b acc=some l→∃r,l=acc++r∧r.length=a.length∧∀i,i<a.length→f (nth a i) (nth b i)=some (nth r i)
 | [],[],acc,l,_,h=>by
  simp only[zcH,Option.some.injEq] at h
  exact⟨[],by simp[h],rfl,fun i hi=>by simp at hi⟩
 |p::r,q::s,acc,l,hl,h=>by
  unfold zcH at h
  cases hf:f p q with
  |none=>rw[hf] at h;cases h
  |some x=>
   rw[hf] at h
   obtain⟨z,e,hz,hm⟩:=zim (a:=r) (b:=s) (by simpa using hl) h
   refine⟨x::z,by rw[e];simp,by simp[hz],fun i hi=>?_⟩
   cases i with
   |zero=>exact hf
   |succ i=>exact hm i (by simpa using hi)
 | [],_::_,_,_,hl,_=>by simp at hl
 |_::_,[],_,_,hl,_=>by simp at hl
theorem zdI {w:List Data}{n m:Nat}{t:Ty}{a b:Pat} (ha:zam w n t a=true) (hb:zam w m t b=true) (h1:a.op≠1) (h2:b.op≠1):a.op=b.op:=by
 have oa:=zce ha
 have ob:=zce hb
 rcases oa with h|h|h
 ·exact absurd h h1
 ·rcases ob with h' | h' | h'
  ·exact absurd h' h2
  ·omega
  ·exact absurd (zcx ha h).1 (zbf hb h').2.1
 ·rcases ob with h' | h' | h'
  ·exact absurd h' h2
  ·exact absurd (zcx hb h').1 (zbf ha h).2.1
  ·omega
theorem zsP (a b:Int):minQ a b≤a∧minQ a b≤b:=by unfold minQ;split<;>omega
theorem zsN (a b:Int):a≤maxQ a b∧b≤maxQ a b:=by unfold maxQ;split<;>omega
theorem zsQ (a b:Int):minQ a b=a∨minQ a b=b:=by unfold minQ;split<;>omega
theorem zsO (a b:Int):maxQ a b=a∨maxQ a b=b:=by unfold maxQ;split<;>omega
theorem znh {w:List Data}:∀(n m:Nat){t:Ty}{a b x:Pat},zam w m t a=true→zam w m t b=true→zaS n a b=some x→zam w m t x=true
 |0,m,t,a,b,x,_,_,h=>by simp[zaS] at h
 |n+1,0,t,a,b,x,ha,_,_=>by simp[zam] at ha
 |n+1,m+1,t,a,b,x,ha,hb,h=>by
  by_cases h1:a.op=1
  ·rw[zlE h1] at h;cases h;exact hb
  by_cases h2:b.op=1
  ·rw[zlF h1 h2] at h;cases h;exact ha
  have hs:=zdI ha hb h1 h2
  have oa:=zce ha
  by_cases h3:a.op=3
  ·rw[zlG h3 h2] at h
   split at h
   ·cases h
    have ia:=zcx ha h3
    have ib:=zcx hb (by omega)
    have q1:=zsQ a.m b.m
    have q2:=zsO a.n b.n
    refine znd ia.1 (by omega) (by assumption) (by omega)
   ·cases h
  have h4:a.op=4:=by omega
  by_cases hc:a.ctor=b.ctor
  ·rw[zlH h4 h2 hc] at h
   obtain⟨m1,m2,m3,m4⟩:=zbf ha h4
   obtain⟨n1,n2,n3,n4⟩:=zbf hb (by omega)
   rw[←hc] at n3
   cases hl:zcH (zaS n) a.kids b.kids [] with
   |none=>rw[hl] at h;cases h
   |some l=>
    rw[hl] at h
    simp only[Option.map_some,Option.some.injEq] at h
    subst h
    obtain⟨r,e,hr,hm⟩:=zim (by omega) hl
    rw[List.nil_append] at e
    subst e
    refine zh8 m1 (by omega) (fun i hi=>?_)
    have ka:=zbt ha (i:=i) (by omega)
    have kb:=zbt hb (i:=i) (by omega)
    rw[zbG h4] at ka
    rw[zbG (by omega),←hc] at kb
    exact znh n m ka kb (hm i (by omega))
  ·rw[zjO h4 h2 hc] at h;cases h
theorem zlV {w:List Data}{n:Nat}{t:Ty}{a b:Int} (ht:t.data = -1) (h0:0≤a) (h2:b≤9):∀x∈zcg a b,zam w (n+1) t x=true:=by
 intro x hx
 unfold zcg at hx
 split at hx
 ·rename_i h1
  rw[List.mem_singleton] at hx
  rw[hx];exact znd ht h0 h1 h2
 ·simp at hx
theorem zoG {w:List Data}{n:Nat}{t:Ty}{a:Pat} (ha:zam w n t a=true) (ht:t.data = -1):0≤lowQ a∧zc9 a≤9∧lowQ a≤zc9 a:=by
 have oa:=zce ha
 unfold lowQ zc9
 by_cases h1:a.op=1
 ·rw[if_pos h1,if_pos h1];omega
 ·rw[if_neg h1,if_neg h1]
  by_cases h3:a.op=3
  ·have:=zcx ha h3;omega
  ·exact absurd ht (zbf ha (by omega)).2.1
theorem zqd (a b:Pat):(zeu a b).length≤2:=by
 have h:∀x y,(zcg x y).length≤1:=fun x y=>by unfold zcg;split<;>simp
 unfold zeu
 rw[List.length_append]
 have:=h (lowQ a) (minQ (zc9 a) (b.n-1));have:=h (maxQ (lowQ a) (b.m+1)) (zc9 a);omega
theorem zpn {w:List Data}{f:Ty→Pat→Pat→List Pat}{m:Nat}{t:Ty}{c:Int} (hc:c∈zaA w t) (hf:∀u x y,zam w m u x=true→zam w m u y=true→∀z∈f u x y,zam w m u z=true):
  ∀(i:Nat){xs bs front:List Pat},front.length=i→xs.length+i=(zaj w t c).length→bs.length=xs.length→(∀j,j<i→zam w m (nth (zaj w t c) j) (nth front j)=true)→
   (∀j,j<xs.length→zam w m (nth (zaj w t c) (i+j)) (nth xs j)=true∧zam w m (nth (zaj w t c) (i+j)) (nth bs j)=true)→
   ∀x∈zbh f c ((zaj w t c).drop i) xs bs front,zam w (m+1) t x=true:=by
 intro i xs
 induction xs generalizing i with
 |nil=>
  intro bs front _ _ _ _ _ x hx
  cases hT:(zaj w t c).drop i<;>(rw[hT] at hx;simp[zbh] at hx)
 |cons a0 s ih=>
  intro bs front hfl hal hbl hfr hab x hx
  cases bs with
  |nil=>simp at hbl
  |cons b0 q=>
   have hi:i<(zaj w t c).length:=by simp at hal;omega
   rw[za9 hi] at hx
   have h0:=hab 0 (by simp)
   simp only[Nat.add_zero] at h0
   have e0:nth (a0::s) 0=a0:=rfl
   have e1:nth (b0::q) 0=b0:=rfl
   rw[e0,e1] at h0
   unfold zbh at hx
   have hpiece:∀z,zam w m (nth (zaj w t c) i) z=true→∀j,j<(front++[z]++s).length→zam w m (nth (zaj w t c) j) (nth (front++[z]++s) j)=true:=fun z hz j hj=>by
    by_cases hj1:j<i
    ·have e:nth (front++[z]++s) j=nth front j:=by
      simp only[nth,List.getD,List.append_assoc]
      rw[List.getElem?_append_left (by omega)]
     rw[e];exact hfr j hj1
    ·by_cases hj2:j=i
     ·have e:nth (front++[z]++s) j=z:=by
       simp only[nth,List.getD,List.append_assoc]
       rw[List.getElem?_append_right (by omega),show j-front.length=0 by omega];rfl
      rw[e,hj2];exact hz
     ·obtain⟨k,rfl⟩:∃k,j=i+1+k:=⟨j-(i+1),by omega⟩
      have e:nth (front++[z]++s) (i+1+k)=nth (a0::s) (k+1):=by
       simp only[nth,List.getD,List.append_assoc]
       rw[List.getElem?_append_right (by omega),show i+1+k-front.length=k+1 by omega];rfl
      rw[e]
      have:=(hab (k+1) (by simp at hj ⊢;omega)).1
      rwa [show i+(k+1)=i+1+k by omega] at this
   rcases List.mem_append.1 hx with hx|hx
   ·obtain⟨z,hz,rfl⟩:=List.mem_map.1 hx
    refine zh8 hc (by simp at hal ⊢;omega) (hpiece z (hf _ _ _ h0.1 h0.2 z hz))
   ·cases hm:zaS 11 a0 b0 with
    |none=>rw[hm] at hx;simp at hx
    |some both=>
     rw[hm] at hx
     have hbp:=znh 11 m h0.1 h0.2 hm
     refine ih (i+1) (bs:=q) (front:=front++[both]) (by simp[hfl]) (by simp at hal ⊢;omega) (by simpa using hbl) (fun j hj=>?_) (fun j hj=>?_) x hx
     ·have:=hpiece both hbp j (by simp;omega)
      have e:nth (front++[both]++s) j=nth (front++[both]) j:=by
       simp only[nth,List.getD]
       rw[List.getElem?_append_left (by simp;omega)]
      rwa [e] at this
     ·have:=hab (j+1) (by simpa using hj)
      rwa [show i+(j+1)=i+1+j by omega] at this
theorem zgk {w:List Data}:∀(n m:Nat){t:Ty}{a b:Pat},n<m→zam w m t a=true→zam w n t b=true→∀x∈zav w n t a b,zam w m t x=true
 |0,m,t,a,b,_,_,hb=>by simp[zam] at hb
 |n+1,0,t,a,b,hn,_,_=>by omega
 |n+1,m+1,t,a,b,hn,ha,hb=>by
  have ob:=zce hb
  have oa:=zce ha
  have hf:∀u x y,zam w m u x=true→zam w n u y=true→∀z∈zav w n u x y,zam w m u z=true:=fun u x y hx hy=>zgk n m (by omega) hx hy
  have hcc:∀a,zam w (m+1) t a=true→a.op=4→b.op=4→∀x∈zdb (zav w n) w t a b,zam w (m+1) t x=true:=fun a ha h4 h4b=>by
   obtain⟨m1,m2,m3,m4⟩:=zbf ha h4
   obtain⟨n1,n2,n3,n4⟩:=zbf hb h4b
   intro x hx
   unfold zdb at hx
   split at hx
   ·rename_i hc
    have key:=zpn (w:=w) (f:=fun u x y=>if zam w m u x=true∧zam w n u y=true then zav w n u x y else []) (m:=m) (t:=t) (c:=a.ctor) m1 (fun u x y hx hy z hz=>by
     split at hz
     ·rename_i hh;exact hf u x y hh.1 hh.2 z hz
     ·simp at hz) 0 (xs:=a.kids) (bs:=b.kids) (front:=[]) rfl (by omega) (by rw[hc] at m3;omega) (fun j hj=>by omega) (fun j hj=>by
      have ka:=zbt ha (i:=j) hj
      have kb:=zbt hb (i:=j) (by rw[hc] at m3;omega)
      rw[zbG h4] at ka
      rw[zbG h4b,←hc] at kb
      rw[Nat.zero_add]
      exact⟨ka,zjQ (by omega) kb⟩) x
    refine key ?_
    have e:∀(ts:List Ty) (xs bs front:List Pat),(∀j,j<ts.length→j<xs.length→j<bs.length→zam w m (nth ts j) (nth xs j)=true∧zam w n (nth ts j) (nth bs j)=true)→
      zbh (fun u x y=>if zam w m u x=true∧zam w n u y=true then zav w n u x y else []) a.ctor ts xs bs front=zbh (zav w n) a.ctor ts xs bs front:=by
     intro ts
     induction ts with
     |nil=>intro xs bs front _;simp[zbh]
     |cons u r ih=>
      intro xs bs front h
      cases xs with
      |nil=>simp[zbh]
      |cons x s=>
       cases bs with
       |nil=>simp[zbh]
       |cons y q=>
        have h0:=h 0 (by simp) (by simp) (by simp)
        change zam w m u x=true∧zam w n u y=true at h0
        unfold zbh
        rw[if_pos h0]
        congr 1
        cases hmm:zaS 11 x y with
        |none=>rfl
        |some both=>exact ih s q (front++[both]) (fun j h1 h2 h3=>h (j+1) (by simpa using h1) (by simpa using h2) (by simpa using h3))
    rw[List.drop_zero,e _ _ _ _ (fun j h1 h2 h3=>?_)]
    ·exact hx
    ·have ka:=zbt ha (i:=j) h2
     have kb:=zbt hb (i:=j) h3
     rw[zbG h4] at ka
     rw[zbG h4b,←hc] at kb
     exact⟨ka,kb⟩
   ·rw[List.mem_singleton] at hx
    rw[hx];exact ha
  rcases ob with h1|h3|h4
  ·rw[zhS h1];simp
  ·rw[zjP h3]
   intro x hx
   have hl:=zoG ha (zcx hb h3).1
   have ib:=zcx hb h3
   have q1:=zsP (zc9 a) (b.n-1)
   have q2:=zsN (lowQ a) (b.m+1)
   unfold zeu at hx
   rcases List.mem_append.1 hx with h|h
   ·exact zlV ib.1 (by omega) (by omega) x h
   ·exact zlV ib.1 (by omega) (by omega) x h
  ·by_cases ha1:a.op=1
   ·rw[zhT h4 ha1]
    intro x hx
    obtain⟨c,hc,hx⟩:=List.mem_flatMap.1 hx
    refine hcc _ ?_ rfl h4 x hx
    obtain⟨k,rfl⟩:∃k,m=k+1:=⟨m-1,by omega⟩
    exact zdJ hc
   ·have ha4:a.op=4:=by
     have:=zdI ha hb ha1 (by omega);omega
    rw[zeg h4 ha4]
    exact hcc a ha ha4 h4
theorem zgC {w:List Data} (hs:Spa w):∀(n:Nat){t:Ty}{p:Pat},InS (w.length*4) t→zam w n t p=true→p.ok∧p.size≤4 ^ n
 |0,t,p,_,h=>by simp[zam] at h
 |n+1,t,p,ht,h=>by
  have hk:=fun i (hi:i<p.kids.length)=>zbt h hi
  have hl:=(zgQ h).2
  have op:=zce h
  have hpow:4 ^ (n+1)=4 ^ n*4:=rfl
  have hpos:0<4 ^ n:=Nat.pow_pos (by omega)
  by_cases h4:p.op=4
  ·obtain⟨m1,m2,m3,m4⟩:=zbf h h4
   have h3:=hs.args t p.ctor ht m1
   rw[zbG h4] at hk
   have ih:∀k∈p.kids,k.ok∧k.size≤4 ^ n:=fun k hkm=>by
    obtain⟨i,hi,rfl⟩:=List.getElem_of_mem hkm
    have e:nth p.kids i=p.kids[i]:=zbk hi
    have:=zgC hs n (zcv hs.dp ht m1 _ (zal (i:=i) (by omega))) (hk i hi)
    rwa [e] at this
   have hz:=Pats.size_of (m:=4 ^ n) (fun k hk=>(ih k hk).2)
   rw[Pat.ok_iff,Pat.size_eq]
   refine⟨⟨by omega,Pats.ok_of (fun k hk=>(ih k hk).1)⟩, ?_⟩
   have:p.kids.length*4 ^ n≤3*4 ^ n:=Nat.mul_le_mul_right _ (by omega)
   omega
  ·have hk0:p.kids=[]:=zqi (zgo _ h) h4 (by omega) (by omega)
   rw[Pat.ok_iff,Pat.size_eq,hk0]
   exact⟨⟨by simp,trivial⟩,by simp only[Pats.size];omega⟩
theorem zm5 {α:Type}{g:Int→List α}{c0:Int}{X:Nat}:∀ {cs:List Int},cs.Nodup→(∀c∈cs,c≠c0→(g c).length≤1)→(g c0).length≤X→(cs.flatMap g).length≤cs.length+X
 | [],_,_,_=>by simp
 |c::r,hn,h1,h2=>by
  obtain⟨n1,n2⟩:=List.nodup_cons.1 hn
  rw[List.flatMap_cons,List.length_append,List.length_cons]
  by_cases hc:c=c0
  ·have key:∀l:List Int,c0∉l→(∀x∈l,x≠c0→(g x).length≤1)→(l.flatMap g).length≤l.length:=by
    intro l
    induction l with
    |nil=>intro _ _;simp
    |cons y s ih=>
     intro hm hh
     rw[List.flatMap_cons,List.length_append,List.length_cons]
     have a1:=hh y (by simp) (fun e=>hm (by rw[e];simp))
     have a2:=ih (fun e=>hm (by simp[e])) (fun x hx=>hh x (by simp[hx]))
     omega
   have:=key r (by rw[←hc];exact n1) (fun x hx=>h1 x (by simp[hx]))
   rw[hc];omega
  ·have a1:=h1 c (by simp) hc
   have a2:=zm5 (X:=X) n2 (fun x hx=>h1 x (by simp[hx])) h2
   omega
theorem zlJ {f:Ty→Pat→Pat→List Pat}{c:Int} (L:Pat→Nat):∀(ts:List Ty) (xs bs front:List Pat),(∀i,i<ts.length→i<xs.length→i<bs.length→(f (nth ts i) (nth xs i) (nth bs i)).length≤L (nth bs i))→(zbh f c ts xs bs front).length≤(bs.map L).sum
 | [],xs,bs,front,_=>by simp[zbh]
 |_::_,[],bs,front,_=>by simp[zbh]
 |_::_,_::_,[],front,_=>by simp[zbh]
 |u::r,x::s,y::q,front,h=>by
  have h0:=h 0 (by simp) (by simp) (by simp)
  change (f u x y).length≤L y at h0
  unfold zbh
  rw[List.length_append,List.length_map,List.map_cons,List.sum_cons]
  cases hm:zaS 11 x y with
  |none=>simp;omega
  |some both=>
   have:=zlJ (c:=c) L r s q (front++[both]) (fun i h1 h2 h3=>h (i+1) (by simpa using h1) (by simpa using h2) (by simpa using h3))
   dsimp only;omega
theorem zqc {w:List Data}{f:Ty→Pat→Pat→List Pat}{t:Ty}{a b:Pat}{L:Pat→Nat} (h:∀i,i<(zaj w t a.ctor).length→i<a.kids.length→i<b.kids.length→(f (nth (zaj w t a.ctor) i) (nth a.kids i) (nth b.kids i)).length≤L (nth b.kids i)):
  (zdb f w t a b).length≤if a.ctor=b.ctor then (b.kids.map L).sum else 1:=by
 unfold zdb
 split
 ·exact zlJ L _ _ _ _ h
 ·simp
theorem sum4:∀l:List Pat,(l.map fun b=>4*b.size).sum=4*Pats.size l
 | []=>rfl
 |k::r=>by simp only[List.map_cons,List.sum_cons,Pats.size,sum4 r];omega
theorem zni {w:List Data} (hs:Spa w):∀(n m:Nat){t:Ty}{a b:Pat},n<m→InS (w.length*4) t→zam w m t a=true→zam w n t b=true→(zav w n t a b).length≤4*b.size
 |0,m,t,a,b,_,_,_,hb=>by simp[zam] at hb
 |n+1,0,t,a,b,hn,_,_,_=>by omega
 |n+1,m+1,t,a,b,hn,ht,ha,hb=>by
  have ob:=zce hb
  have hz:=Pat.size_eq b
  rcases ob with h1|h3|h4
  ·rw[zhS h1];simp
  ·rw[zjP h3];have:=zqd a b;omega
  ·obtain⟨n1,n2,n3,n4⟩:=zbf hb h4
   have hcc:∀a,zam w (m+1) t a=true→a.op=4→(zdb (zav w n) w t a b).length≤if a.ctor=b.ctor then 4*Pats.size b.kids else 1:=fun a ha h4a=>by
    obtain⟨m1,m2,m3,m4⟩:=zbf ha h4a
    rw[←sum4]
    by_cases hc:a.ctor=b.ctor
    ·have:=zqc (w:=w) (f:=zav w n) (t:=t) (a:=a) (b:=b) (L:=fun b=>4*b.size) (fun i h1 h2 h3=>by
      have ka:=zbt ha (i:=i) h2
      have kb:=zbt hb (i:=i) h3
      rw[zbG h4a] at ka
      rw[zbG h4,←hc] at kb
      exact zni hs n m (by omega) (zcv hs.dp ht m1 _ (zal h1)) ka kb)
     exact this
    ·unfold zdb;rw[if_neg hc,if_neg hc];simp
   by_cases ha1:a.op=1
   ·rw[zhT h4 ha1]
    obtain⟨c1,c2⟩:=hs.ctors t ht
    have hw:∀c,c∈zaA w t→(zdb (zav w n) w t (zch w t c) b).length≤if c=b.ctor then 4*Pats.size b.kids else 1:=fun c hc=>by
     obtain⟨k,rfl⟩:∃k,m=k+1:=⟨m-1,by omega⟩
     exact hcc _ (zdJ hc) rfl
    have:=zm5 (g:=fun c=>zdb (zav w n) w t (zch w t c) b) (c0:=b.ctor) (X:=4*Pats.size b.kids) c2 (fun c hc hne=>by have:=hw c hc;rwa [if_neg hne] at this) (by have:=hw _ n1;rwa [if_pos rfl] at this)
    omega
   ·have ha4:a.op=4:=by have:=zdI ha hb ha1 (by omega);omega
    rw[zeg h4 ha4]
    have:=hcc a ha ha4
    split at this<;>omega
theorem zkU {α β:Type} [Inhabited α] [Inhabited β]{f:α→β→Bool}:∀ {a:List α}{b:List β},a.length=b.length→all2 f a b=false→∃i,i<a.length∧f (nth a i) (nth b i)=false
 | [],[],_,h=>by simp[all2] at h
 |x::r,y::s,hl,h=>by
  simp only[all2,Bool.and_eq_false_iff] at h
  rcases h with h|h
  ·exact⟨0,by simp,h⟩
  ·obtain⟨i,h1,h2⟩:=zkU (by simpa using hl) h
   exact⟨i+1,by simpa using h1,h2⟩
 | [],_::_,hl,_=>by simp at hl
 |_::_,[],hl,_=>by simp at hl
theorem zhL {w:List Data}{f:Nat→Nat}{n:Nat}{t:Ty}{p:Pat} (h:p.op=1):zbg w f (n+1) t p=decide (dv f t=0):=by rw[zfI,if_pos (.inl h)]
theorem zml {w:List Data}{f:Nat→Nat}{n m:Nat}{t:Ty}{p:Pat} (hp:zam w m t p=true) (h:p.op=3):zbg w f (n+1) t p=false:=by
 rw[zfI,if_neg (by omega),if_neg (by omega)]
 have e:zag w t p=[]:=by unfold zag;rw[if_neg (by omega),if_neg (by omega),if_neg (by omega)]
 have hl:=(zgQ hp).2
 rw[e] at hl ⊢
 rw[List.eq_nil_of_length_eq_zero hl];rfl
theorem zmm {w:List Data}{f:Nat→Nat}{n:Nat}{t:Ty}{p:Pat} (h:p.op=4):zbg w f (n+1) t p = !(all2 (fun u q=> !zbg w f n u q) (zaj w t p.ctor) p.kids):=by
 rw[zfI,if_neg (by omega),if_neg (by omega),zbG h]
theorem zoq {w:List Data}{f:Nat→Nat}{n m:Nat}{t:Ty}{p:Pat} (hp:zam w m t p=true) (h:p.op=4) (hd:zbg w f (n+1) t p=true):∃i,i<p.kids.length∧zbg w f n (nth (zaj w t p.ctor) i) (nth p.kids i)=true:=by
 rw[zmm h] at hd
 have hl:=(zbf hp h).2.2.1
 obtain⟨i,h1,h2⟩:=zkU (a:=zaj w t p.ctor) (b:=p.kids) (f:=fun u q=> !zbg w f n u q) hl.symm (by simpa using hd)
 exact⟨i,by omega,by simpa using h2⟩
theorem zgN {w:List Data}{f:Nat→Nat}{n:Nat}{t:Ty}{c:Int}{l:List Pat}{i:Nat} (hi:i<l.length) (hl:l.length=(zaj w t c).length) (hd:zbg w f n (nth (zaj w t c) i) (nth l i)=true):zbg w f (n+1) t (zb2 c l)=true:=by
 rw[zmm rfl]
 have:=zbV (f:=fun u q=> !zbg w f n u q) (a:=zaj w t c) (b:=l) (i:=i) (by omega) hl.symm (by rw[hd];rfl)
 show(!all2 (fun u q=> !zbg w f n u q) (zaj w t c) l)=true
 rw[this];rfl
theorem zt6 {w:List Data} (hd:Dp w){t:Ty}{c:Int} (ht:InS (w.length*4) t) (hc:c∈zaA w t) (h0:dv (zaZ w) t=0):∃i,i<(zaj w t c).length∧dv (zaZ w) (nth (zaj w t c) i)=0:=by
 by_cases hx:∃i,i<(zaj w t c).length∧dv (zaZ w) (nth (zaj w t c) i)=0
 ·exact hx
 ·exfalso
  have a:Snd w (zaZ w)∧Cmp w (w.length*4+1) (zaZ w):=zfs hd.cl (w.length*4+1)
  have hdt:t.data≠ -1:=fun e=>by unfold zaA at hc;rw[if_pos e] at hc;simp at hc
  have hb:∀u∈zaj w t c,Hd w (w.length*4+1) u:=fun u hu=>by
   obtain⟨i,hi,rfl⟩:=List.getElem_of_mem hu
   have hpos:0<dv (zaZ w) (zaj w t c)[i]:=by
    have e:nth (zaj w t c) i=(zaj w t c)[i]:=zbk hi
    rcases Nat.eq_zero_or_pos (dv (zaZ w) (zaj w t c)[i]) with h|h
    ·exact absurd ⟨i,hi,by rw[e];exact h⟩ hx
    ·exact h
   have hin:=zcv hd ht hc _ hu
   have h1:=zso a.1 hin hpos
   rcases hin with h2|⟨h2,h3⟩
   ·exact .inl h2
   ·rw[←h3] at h1 ⊢
    exact zoA hd.cl h2 h1
  have h2:Hd w (w.length*4+2) t:= .inr ⟨c,zrx hc,hdt,hb⟩
  rcases ht with h3|⟨h3,h4⟩
  ·exact hdt h3
  ·rw[←h4] at h2
   have h5:=zoA hd.cl h3 h2
   rw[h4] at h5
   have:=(zq0 a.2 (.inr ⟨h3,h4⟩) h5).1
   omega
section
variable {w:List Data} (hs:Spa w)
include hs
theorem zi2:∀(n:Nat){t:Ty}{p:Pat},InS (w.length*4) t→zam w n t p=true→dv (zaZ w) t=0→zbg w (zaZ w) n t p=true
 |0,t,p,_,h,_=>by simp[zam] at h
 |n+1,t,p,ht,h,h0=>by
  rcases zce h with h1|h3|h4
  ·rw[zhL h1];exact decide_eq_true h0
  ·have:=(zcx h h3).1
   unfold dv at h0;rw[if_pos this] at h0;omega
  ·obtain⟨m1,m2,m3,m4⟩:=zbf h h4
   obtain⟨i,h5,h6⟩:=zt6 hs.dp ht m1 h0
   rw[m4]
   have hk:=zbt h (i:=i) (by omega)
   rw[zbG h4] at hk
   exact zgN (by omega) m3 (zi2 n (zcv hs.dp ht m1 _ (zal h5)) hk h6)
theorem zng:∀(n k:Nat){t:Ty}{a b x:Pat},InS (w.length*4) t→zam w n t a=true→zam w n t b=true→zbg w (zaZ w) n t a=true→zaS k a b=some x→zbg w (zaZ w) n t x=true
 |0,k,t,a,b,x,_,h,_,_,_=>by simp[zam] at h
 |n+1,0,t,a,b,x,_,_,_,_,h=>by simp[zaS] at h
 |n+1,k+1,t,a,b,x,ht,ha,hb,hd,h=>by
  by_cases h1:a.op=1
  ·rw[zlE h1] at h;cases h
   rw[zhL h1] at hd
   exact zi2 hs (n+1) ht hb (of_decide_eq_true hd)
  by_cases h2:b.op=1
  ·rw[zlF h1 h2] at h;cases h;exact hd
  by_cases h3:a.op=3
  ·rw[zml ha h3] at hd;cases hd
  have h4:a.op=4:=by have:=zce ha;omega
  have hso:=zdI ha hb h1 h2
  by_cases hc:a.ctor=b.ctor
  ·rw[zlH h4 h2 hc] at h
   obtain⟨m1,m2,m3,m4⟩:=zbf ha h4
   obtain⟨n1,n2,n3,n4⟩:=zbf hb (by omega)
   rw[←hc] at n3
   cases hl:zcH (zaS k) a.kids b.kids [] with
   |none=>rw[hl] at h;cases h
   |some l=>
    rw[hl] at h
    simp only[Option.map_some,Option.some.injEq] at h
    subst h
    obtain⟨r,e,hr,hm⟩:=zim (by omega) hl
    rw[List.nil_append] at e
    subst e
    obtain⟨i,hi,hde⟩:=zoq ha h4 hd
    have ka:=zbt ha (i:=i) hi
    have kb:=zbt hb (i:=i) (by omega)
    rw[zbG h4] at ka
    rw[zbG (by omega),←hc] at kb
    exact zgN (i:=i) (by omega) (by omega) (zng n k (zcv hs.dp ht m1 _ (zal (by omega))) ka kb hde (hm i hi))
  ·rw[zjO h4 h2 hc] at h;cases h
theorem zpm {f:Ty→Pat→Pat→List Pat}{m:Nat}{t:Ty}{c:Int} (ht:InS (w.length*4) t) (hc:c∈zaA w t):
  ∀(i:Nat){xs bs front:List Pat},front.length=i→xs.length+i=(zaj w t c).length→bs.length=xs.length→
   (∀j,j<xs.length→zam w m (nth (zaj w t c) (i+j)) (nth xs j)=true∧zam w m (nth (zaj w t c) (i+j)) (nth bs j)=true∧(zbg w (zaZ w) m (nth (zaj w t c) (i+j)) (nth xs j)=true→∀z∈f (nth (zaj w t c) (i+j)) (nth xs j) (nth bs j),zbg w (zaZ w) m (nth (zaj w t c) (i+j)) z=true))→
   ((∃j,j<i∧zbg w (zaZ w) m (nth (zaj w t c) j) (nth front j)=true)∨∃j,j<xs.length∧zbg w (zaZ w) m (nth (zaj w t c) (i+j)) (nth xs j)=true)→
   ∀x∈zbh f c ((zaj w t c).drop i) xs bs front,zbg w (zaZ w) (m+1) t x=true:=by
 intro i xs
 induction xs generalizing i with
 |nil=>
  intro bs front _ _ _ _ _ x hx
  cases hT:(zaj w t c).drop i<;>(rw[hT] at hx;simp[zbh] at hx)
 |cons a0 s ih=>
  intro bs front hfl hal hbl hab hde x hx
  cases bs with
  |nil=>simp at hbl
  |cons b0 q=>
   have hi:i<(zaj w t c).length:=by simp at hal;omega
   rw[za9 hi] at hx
   have h0:=hab 0 (by simp)
   simp only[Nat.add_zero] at h0
   have e0:nth (a0::s) 0=a0:=rfl
   have e1:nth (b0::q) 0=b0:=rfl
   rw[e0,e1] at h0
   unfold zbh at hx
   have f1:∀z j,j<i→nth (front++[z]++s) j=nth front j:=fun z j hj=>by
    simp only[nth,List.getD,List.append_assoc]
    rw[List.getElem?_append_left (by omega)]
   have f2:∀z,nth (front++[z]++s) i=z:=fun z=>by
    simp only[nth,List.getD,List.append_assoc]
    rw[List.getElem?_append_right (by omega),show i-front.length=0 by omega];rfl
   have f3:∀z k,nth (front++[z]++s) (i+1+k)=nth (a0::s) (k+1):=fun z k=>by
    simp only[nth,List.getD,List.append_assoc]
    rw[List.getElem?_append_right (by omega),show i+1+k-front.length=k+1 by omega];rfl
   have hfl2:∀z,(front++[z]++s).length=(zaj w t c).length:=fun z=>by simp at hal ⊢;omega
   rcases List.mem_append.1 hx with hx|hx
   ·obtain⟨z,hz,rfl⟩:=List.mem_map.1 hx
    rcases hde with ⟨j,hj,hd⟩|⟨j,hj,hd⟩
    ·exact zgN (i:=j) (by rw[hfl2];omega) (hfl2 z) (by rw[f1 z j hj];exact hd)
    ·cases j with
     |zero=>exact zgN (i:=i) (by rw[hfl2];omega) (hfl2 z) (by rw[f2 z];exact h0.2.2 hd z hz)
     |succ k=>exact zgN (i:=i+1+k) (by rw[hfl2];simp at hj;simp at hal;omega) (hfl2 z) (by rw[f3 z k,show i+1+k=i+(k+1) by omega];exact hd)
   ·cases hm:zaS 11 a0 b0 with
    |none=>rw[hm] at hx;simp at hx
    |some both=>
     rw[hm] at hx
     refine ih (i+1) (bs:=q) (front:=front++[both]) (by simp[hfl]) (by simp at hal ⊢;omega) (by simpa using hbl) (fun j hj=>?_) ?_ x hx
     ·have:=hab (j+1) (by simpa using hj)
      rwa [show i+(j+1)=i+1+j by omega] at this
     ·rcases hde with ⟨j,hj,hd⟩|⟨j,hj,hd⟩
      ·refine .inl ⟨j,by omega, ?_⟩
       have e:nth (front++[both]) j=nth front j:=by
        simp only[nth,List.getD]
        rw[List.getElem?_append_left (by omega)]
       rw[e];exact hd
      ·cases j with
       |zero=>
        refine .inl ⟨i,by omega, ?_⟩
        have e:nth (front++[both]) i=both:=by
         simp only[nth,List.getD]
         rw[List.getElem?_append_right (by omega),show i-front.length=0 by omega];rfl
        rw[e]
        exact zng hs m 11 (zcv hs.dp ht hc _ (zal hi)) h0.1 h0.2.1 hd hm
       |succ k=>
        refine .inr ⟨k,by simpa using hj, ?_⟩
        rw[show i+1+k=i+(k+1) by omega];exact hd
theorem zlK:∀(n m:Nat){t:Ty}{a b:Pat},n<m→InS (w.length*4) t→zam w m t a=true→zam w n t b=true→zbg w (zaZ w) m t a=true→∀x∈zav w n t a b,zbg w (zaZ w) m t x=true
 |0,m,t,a,b,_,_,_,hb,_=>by simp[zam] at hb
 |n+1,0,t,a,b,hn,_,_,_,_=>by omega
 |n+1,m+1,t,a,b,hn,ht,ha,hb,hd=>by
  have hcc:∀a,zam w (m+1) t a=true→a.op=4→b.op=4→zbg w (zaZ w) (m+1) t a=true→∀x∈zdb (zav w n) w t a b,zbg w (zaZ w) (m+1) t x=true:=fun a ha h4 h4b hd=>by
   obtain⟨m1,m2,m3,m4⟩:=zbf ha h4
   obtain⟨n1,n2,n3,n4⟩:=zbf hb h4b
   intro x hx
   unfold zdb at hx
   split at hx
   ·rename_i hc
    obtain⟨j,hj,hdj⟩:=zoq ha h4 hd
    refine zpm hs ht m1 0 (xs:=a.kids) (bs:=b.kids) (front:=[]) rfl (by omega) (by rw[hc] at m3;omega) (fun j hj=>?_) (.inr ⟨j,hj,by rw[Nat.zero_add];exact hdj⟩) x hx
    have ka:=zbt ha (i:=j) hj
    have kb:=zbt hb (i:=j) (by rw[hc] at m3;omega)
    rw[zbG h4] at ka
    rw[zbG h4b,←hc] at kb
    rw[Nat.zero_add]
    exact⟨ka,zjQ (by omega) kb,fun hdk z hz=>zlK n m (by omega) (zcv hs.dp ht m1 _ (zal (by omega))) ka kb hdk z hz⟩
   ·rw[List.mem_singleton] at hx
    rw[hx];exact hd
  rcases zce hb with h1|h3|h4
  ·rw[zhS h1];simp
  ·have hl:=zoG ha (zcx hb h3).1
   rcases zce ha with h|h|h
   ·rw[zhL h] at hd
    have:=of_decide_eq_true hd
    unfold dv at this;rw[if_pos (zcx hb h3).1] at this;omega
   ·rw[zml ha h] at hd;cases hd
   ·exact absurd (zcx hb h3).1 (zbf ha h).2.1
  ·by_cases ha1:a.op=1
   ·rw[zhT h4 ha1]
    rw[zhL ha1] at hd
    intro x hx
    obtain⟨c,hc,hx⟩:=List.mem_flatMap.1 hx
    obtain⟨k,rfl⟩:∃k,m=k+1:=⟨m-1,by omega⟩
    exact hcc _ (zdJ hc) rfl h4 (zi2 hs _ ht (zdJ hc) (of_decide_eq_true hd)) x hx
   ·have ha4:a.op=4:=by have:=zdI ha hb ha1 (by omega);omega
    rw[zeg h4 ha4]
    exact hcc a ha ha4 h4 hd
end
def zbL (w:List Data) (t:Ty) (p:Pat):Bool:= !zbg w (zaZ w) 11 t p
def zcj (w:List Data) (t:Ty) (l:List Pat) (b:Pat):List Pat:=(l.flatMap fun a=>zav w 10 t a b).filter (zbL w t)
def subL (w:List Data) (t:Ty):List Pat→List Pat→Option (List Pat)
 |l,[]=>some l
 |l,b::r=>if (zcj w t l b).length≤400 then subL w t (zcj w t l b) r else none
def zaK (w:List Data) (t:Ty) (l away:List Pat):Option (List Pat):=subL w t (l.filter (zbL w t)) away
theorem zoN {w:List Data} (hs:Spa w){t:Ty} (ht:InS (w.length*4) t){l:List Pat}{b:Pat} (hl:∀a∈l,zam w 11 t a=true) (hb:zam w 10 t b=true):zcj w t (l.filter (zbL w t)) b=zcj w t l b:=by
 unfold zcj
 induction l with
 |nil=>rfl
 |cons a r ih=>
  have ih':=ih (fun x hx=>hl x (by simp[hx]))
  rw[List.flatMap_cons,List.filter_append]
  by_cases h:zbL w t a=true
  ·rw[List.filter_cons_of_pos h,List.flatMap_cons,List.filter_append,ih']
  ·rw[List.filter_cons_of_neg h,ih']
   have hd:zbg w (zaZ w) 11 t a=true:=by unfold zbL at h;simpa using h
   have:(zav w 10 t a b).filter (zbL w t)=[]:=by
    rw[List.filter_eq_nil_iff]
    intro x hx
    have:=zlK hs 10 11 (by omega) ht (hl a (by simp)) hb hd x hx
    unfold zbL;rw[this];simp
   rw[this,List.nil_append]
theorem zkh {w:List Data}{t:Ty}{l:List Pat}{b:Pat}:(zcj w t l b).filter (zbL w t)=zcj w t l b:=by
 unfold zcj;rw[List.filter_filter];simp
theorem zl9 {w:List Data}{t:Ty}:∀(away:List Pat){l:List Pat},l.filter (zbL w t)=l→(subL w t l away).map (List.filter (zbL w t))=subL w t l away
 | [],l,h=>by simp only[subL,Option.map_some,h]
 |b::r,l,h=>by
  unfold subL
  split
  ·exact zl9 r zkh
  ·rfl
theorem zro {w:List Data} (hs:Spa w){t:Ty} (ht:InS (w.length*4) t){l away:List Pat} (hl:∀a∈l,zam w 11 t a=true) (hb:∀b∈away,zam w 10 t b=true):(subL w t l away).map (List.filter (zbL w t))=zaK w t l away:=by
 unfold zaK
 cases away with
 |nil=>rfl
 |cons b r=>
  unfold subL
  rw[zoN hs ht hl (hb b (by simp))]
  split
  ·exact zl9 r zkh
  ·rfl
theorem zgl {w:List Data}{t:Ty}{l:List Pat}{b:Pat} (hl:∀a∈l,zam w 11 t a=true) (hb:zam w 10 t b=true):∀x∈zcj w t l b,zam w 11 t x=true:=fun x hx=>by
 unfold zcj at hx
 obtain⟨a,ha,hx⟩:=List.mem_flatMap.1 (List.mem_filter.1 hx).1
 exact zgk 10 11 (by omega) (hl a ha) hb x hx
theorem zkK {n:Nat} (h0:0<n) (hb:n≤1000000):FnD Tryz.prog 242 [.nils,.d (.i (n:Int))] [] (.gv 9 []) [(9,some (.tok 0 6))]:=by
 refine bd Tryz.f242 27 [12,24] [] fun w0 F0 own kept hk=>?_
 refine sq (fun h1 h1p h1s=>?_) fun h1 h1p h1s=>?_
 try simp only[Q] at h1p
 exfalso;omega
 try simp only[Q] at h1p
 refine Walk.capN sl45 .none rfl rfl ?_
 refine evs [12,24] [] ?_
 refine Walk.lenN sl45 .none rfl rfl ?_
 refine evs [12,24] [] ?_
 refine ar ?_
 refine ar ?_
 refine sq (fun h2 h2p h2s=>?_) fun h2 h2p h2s=>?_
 try simp only[Q] at h2p
 refine Walk.capN sl45 .none rfl rfl ?_
 refine Walk.cutN_h sl45 .none rfl rfl rfl ?_
 refine evs [12,24] [] ?_
 refine Walk.growZ (n:=n) 8 sl45 Tryz.underlying3 tz56 rfl (by decide) rfl .none rfl rfl rfl (by simp) h0 (by omega) (by omega) rfl ?_
 refine evs [12,24] [] ?_
 refine Walk.lenN sl45 .none rfl rfl ?_
 refine Walk.cutV_h 9 (b:=0) sl45 .none rfl rfl (zaB rfl (by first|rfl|(simp;done)|(simp;omega))) rfl rfl (Nat.zero_le _) (by rw[List.length_replicate];exact h0) rfl ?_
 refine evs [12,24] [] ?_
 focus (refine rn [(9,some (.tok 0 6))] (r1 rfl) (.gvg ?_) ⟨rfl,rfl⟩ (SubH.get ⟨rfl,trivial⟩) (zbc rfl);all_goals (first|rfl|(simp[h1s,h1p,h2s,h2p];done)|(simp_all;done)|(simp_all;omega)|omega))
 try simp only[Q] at h2p
 focus (exfalso;simp at h2;all_goals omega)
abbrev zsp (ls:List (List Pat)):D:= .sl (ls.map fun l=>[zaf l])
theorem zjr {ls:List (List Pat)} (hl:ls.length≤1000) (h0:0<ls.flatten.length) (hb:ls.flatten.length≤1000000):FnD Tryz.prog 189 [.d (zsp ls)] [] (.d (zaf ls.flatten)) []:=by
 have key:∀ {pre rest:List (List Pat)}{y:List Pat},pre++y::rest=ls→pre.flatten.length+y.length≤ls.flatten.length:=fun h=>by
  rw[←h];simp
 refine FnD.gvD (i:=9) (k:=6) ?_
 refine bd Tryz.f189 36 [] [] fun w0 F0 own kept hk=>?_
 refine CWp.loopX (ι:=List (List Pat)×List (List Pat)) hk (fun x=>[(11,.d (.i (x.1.length:Int))),(3,.d (.i (x.1.flatten.length:Int)))]) [5,12,13,14,15,16,17,18,19,20,21,22] (fun x=>[]) (fun x=>x.1++x.2=ls) (fun x=>x.2.length) ([],ls) (by simp) ⟨⟨_,rfl,LeA.eqi ?_⟩,⟨⟨_,rfl,LeA.eqi ?_⟩,trivial⟩⟩ trivial (fun x=>rfl) (fun x hg1=>?_)
 iterate 2 focus (first|rfl|(simp[Pat.cs_len];done)|omega)
 obtain⟨pre,rest⟩:=x
 dsimp only at hg1 ⊢
 refine evc [] [] ?_
 refine sq (fun h1 h1p h1s=>?_) fun h1 h1p h1s=>?_
 try simp only[Q,Pat.cs_len] at h1p
 rcases rest with _|⟨y,rest⟩
 ·exfalso;simp_all
 refine Walk.idx zdR .none rfl rfl rfl rfl (zaV hg1) rfl ?_
 refine ev ?_
 refine ar ?_ (by first|(have h9:=key hg1;constructor<;>first|omega|(simp only[Pat.cs_len];omega))|(constructor<;>omega))
 refine sq (fun h2 h2p h2s=>?_) fun h2 h2p h2s=>?_
 try simp only[Q,Pat.cs_len] at h2p
 exfalso;have:=key hg1;omega
 try simp only[Q,Pat.cs_len] at h2p
 refine ar ?_ (by first|(have h9:=key hg1;constructor<;>first|omega|(simp only[Pat.cs_len];omega))|(constructor<;>omega))
 refine Exists.intro ((pre++[y],rest)) ⟨(by have hz:=hg1;rw[←hz];simp),(by simp),sx ⟨⟨_,rfl,LeA.eqi ?_⟩,⟨⟨_,rfl,LeA.eqi ?_⟩,trivial⟩⟩ trivial⟩
 iterate 2 focus (first|rfl|(simp[Pat.cs_len];done)|omega)
 try simp only[Q,Pat.cs_len] at h1p
 have hrest:rest=[]:=by
  rcases rest with _|⟨a,b⟩
  ·rfl
  ·exfalso;have hz:=congrArg List.length (hg1);simp only[List.length_append,List.length_cons,List.length_map] at hz;omega
 subst hrest
 refine Walk.call (cr:=[9]) ztE (zkK (n:=pre.flatten.length) (by rw[List.append_nil] at hg1;rw[hg1];exact h0) (by rw[List.append_nil] at hg1;rw[hg1];exact hb)) rfl .none rfl rfl (LeL.refl _) trivial rfl rfl rfl ?_
 refine ev ?_
 refine CWp.loopX (ι:=List (List Pat)×List (List Pat)) hk (fun x=>[(27,.d (.i (x.1.length:Int))),(6,.gv 9 (Pat.cs x.1.flatten))]) [8,28,29,30,31,32,33,34] (fun x=>[(9,some (.tok (Pat.cs x.1.flatten).length 6))]) (fun x=>x.1++x.2=ls) (fun x=>x.2.length) ([],ls) (by simp) ⟨⟨_,rfl,LeA.eqi ?_⟩,⟨⟨_,rfl,LeA.gvg ?_⟩,trivial⟩⟩ ⟨zad ?_,trivial⟩ (fun x=>rfl) (fun x hg2=>?_)
 iterate 3 focus (first|rfl|(simp[Pat.cs_cd];done)|omega|(simp;omega))
 obtain⟨pre,rest⟩:=x
 dsimp only at hg2 ⊢
 refine evc [] [] ?_
 refine sq (fun h3 h3p h3s=>?_) fun h3 h3p h3s=>?_
 try simp only[Q,Pat.cs_len] at h3p
 rcases rest with _|⟨y,rest⟩
 ·exfalso;simp_all
 refine Walk.idx zdR .none rfl rfl rfl rfl (zaV hg2) rfl ?_
 refine ev ?_
 refine Walk.appendV sl45 zz56 .none rfl rfl rfl rfl (zaB rfl (by first|rfl|(simp;done)|(simp;omega))) (by exact zbj _) (by have:=key hg2;simp only[Pat.cs_len];omega) (by have:=key hg2;simp only[Pat.cs_len];omega) ?_
 refine ev ?_
 refine ar ?_ (by first|(have h9:=key hg1;constructor<;>first|omega|(simp only[Pat.cs_len];omega))|(constructor<;>omega))
 refine Exists.intro ((pre++[y],rest)) ⟨(by have hz:=hg2;rw[←hz];simp),(by simp),sx ⟨⟨_,rfl,LeA.eqi ?_⟩,⟨⟨_,rfl,LeA.gvg ?_⟩,trivial⟩⟩ ⟨zad ?_,trivial⟩⟩
 iterate 3 focus (first|rfl|(simp[Pat.cs_cd];done)|omega|(simp;omega))
 try simp only[Q,Pat.cs_len] at h3p
 have hrest:rest=[]:=by
  rcases rest with _|⟨a,b⟩
  ·rfl
  ·exfalso;have hz:=congrArg List.length (hg2);simp only[List.length_append,List.length_cons,List.length_map] at hz;omega
 subst hrest
 refine rn [(9,some (.tok (Pat.cs ls.flatten).length 6))] (r1 rfl) (.gvg ?_) ⟨rfl,rfl⟩ (SubH.get ⟨?_,trivial⟩) (zbc rfl)
 rotate_left 2
 all_goals (first|((first|rfl|(rw[List.append_nil] at hg2;rw[hg2]));done)|(rw[List.append_nil] at hg2;subst hg2;rfl))
def zbF (l:List Int):Nat→List Pat
 |0=>[]
 |n+1=>zbF l n++zcg (nth l (2*n)) (nth l (2*n+1))
theorem zgS (l:List Int):∀n,(zbF l n).length≤n
 |0=>by simp[zbF]
 |n+1=>by
  have:=zgS l n
  simp only[zbF,zcg,List.length_append]
  split<;>simp<;>omega
theorem zcn {l:List Int}{n:Nat} (h:nth l (2*n)≤nth l (2*n+1)):zbF l (n+1)=zbF l n++[intQ (nth l (2*n)) (nth l (2*n+1))]:=by simp[zbF,zcg,h]
theorem zdH {l:List Int}{n:Nat} (h:¬nth l (2*n)≤nth l (2*n+1)):zbF l (n+1)=zbF l n:=by simp only[zbF,zcg,if_neg h,List.append_nil]
theorem zoV (a b:Int):zbF [a,b] 1=zcg a b:=by simp[zbF,nth]
theorem zrS (a b c d:Int):zbF [a,b,c,d] 2=zcg a b++zcg c d:=by simp[zbF,nth]
theorem zll {p:Pat}:FnD Tryz.prog 186 [.agg [.d (.i p.op),.d (.i p.ctor),.d (.i p.n),.d (.i p.m),.d (.i p.var),.d (zaf p.kids)]] [] (.tup [.d (.i (lowQ p)),.d (.i (zc9 p))]) []:=by
 by_cases h:p.op=1
 ·have e1:lowQ p=0:=if_pos h
  have e2:zc9 p=9:=if_pos h
  rw[e1,e2]
  refine bd Tryz.f186 11 [] [] fun w0 F0 own kept hk=>?_
  refine Walk.box (id:=3001) .none rfl rfl rfl rfl rfl rfl rfl ?_
  refine ev ?_
  refine sq (fun h1 h1p h1s=>?_) fun h1 h1p h1s=>?_
  try simp only[Q] at h1p
  focus (refine rn0 (r2 rfl rfl) (.tup (.cons (.eqd ?_) (.cons (.eqd ?_) .nil)));all_goals (first|rfl|(simp[h1s,h1p];done)|(simp_all;done)|(simp_all;omega)|omega))
  try simp only[Q] at h1p
  exfalso;omega
 ·skip
  have e1:lowQ p=p.n:=if_neg h
  have e2:zc9 p=p.m:=if_neg h
  rw[e1,e2]
  refine bd Tryz.f186 11 [] [] fun w0 F0 own kept hk=>?_
  refine Walk.box (id:=3001) .none rfl rfl rfl rfl rfl rfl rfl ?_
  refine ev ?_
  refine sq (fun h1 h1p h1s=>?_) fun h1 h1p h1s=>?_
  try simp only[Q] at h1p
  exfalso;omega
  try simp only[Q] at h1p
  refine dr ?_
  focus (refine rn0 (r2 rfl rfl) (.tup (.cons (.eqd ?_) (.cons (.eqd ?_) .nil)));all_goals (first|rfl|(simp[h1s,h1p];done)|(simp_all;done)|(simp_all;omega)|omega))
theorem zfr {l:List Int}{n:Nat} (hl:l.length=2*n) (hb:n≤1000):FnD Tryz.prog 187 [.d (zcF l)] [] (.d (zaf (zbF l n))) []:=by
 refine bd Tryz.f187 35 [3] [] fun w0 F0 own kept hk=>?_
 refine Walk.assignNil 9 6 .none rfl rfl ?_
 refine tv ?_
 refine CWp.loopX (ι:=Nat) hk (fun i=>[(4,.d (.i ((2*i:Nat):Int))),(3,.gl 9 (Pat.cs (zbF l i)))]) [5,6,7,8,9,10,11,12,13,14,15,16,17,18,19,20,21,22,23,24,25,26,27,28,29,30,31,32,33] (fun i=>[(9,some (.tok ((Pat.cs (zbF l i))).length 6))]) (fun i=>i≤n) (fun i=>n-i) 0 (by omega) ⟨⟨_,rfl,LeA.eqi ?_⟩,⟨⟨_,rfl,LeA.glg ?_⟩,trivial⟩⟩ ⟨zad ?_,trivial⟩ (fun x=>rfl) (fun i hg1=>?_)
 iterate 3 focus (first|rfl|(simp;done)|(rw[zcn (by assumption),Pat.cs_cd,Pat.cs_cd,List.map_append];rfl)|(rw[zdH (by assumption)];done)|(rw[zdH (by omega)];done)|(rw[zcn (by assumption)];simp[Pat.cs_len];done)|(rw[zcn (by omega)];simp[Pat.cs_len];done)|omega|(simp;omega))
 refine evc [3] [] ?_
 refine sq (fun h1 h1p h1s=>?_) fun h1 h1p h1s=>?_
 try simp only[Q] at h1p
 refine Walk.idx (i:=2*i) zbQ .none rfl rfl rfl rfl (zay (by omega)) rfl ?_
 refine evd [3] [] ?_
 refine ar ?_
 refine Walk.idx (i:=2*i+1) zbQ .none rfl rfl rfl rfl (zay (by omega)) rfl ?_
 refine evd [3] [] ?_
 refine dr ?_
 refine sq (fun h2 h2p h2s=>?_) fun h2 h2p h2s=>?_
 try simp only[Q] at h2p
 refine Walk.idx (i:=2*i) zbQ .none rfl rfl rfl rfl (zay (by omega)) rfl ?_
 refine evd [3] [] ?_
 refine ar ?_
 refine Walk.idx (i:=2*i+1) zbQ .none rfl rfl rfl rfl (zay (by omega)) rfl ?_
 refine evd [3] [] ?_
 refine Walk.build st56 (ks:=[0,2,3]) (xs:=[_,_,_]) rfl rfl .none rfl rfl rfl ?_
 refine Walk.sliceLit sl45 tz56 rfl (by decide) (ks:=[0]) (xs:=[_]) rfl rfl (by decide) (by decide) .none rfl rfl rfl rfl ?_
 refine Walk.append sl45 zz56 rfl .none rfl rfl rfl rfl (zaB rfl (by first|rfl|(simp;done)|(simp;omega))) (by first|exact zbj _|(intro x hx;simp at hx;subst hx;rfl)) (by have:=zgS l i;simp[Pat.cs_len];omega) (by have:=zgS l i;simp[Pat.cs_len];omega) ?_
 refine asg ?_
 refine dr ?_
 refine ar ?_
 refine Exists.intro (i+1) ⟨(by omega),(by omega),sx ⟨⟨_,rfl,LeA.eqi ?_⟩,⟨⟨_,rfl,LeA.glg ?_⟩,trivial⟩⟩ ⟨zad ?_,trivial⟩⟩
 iterate 3 focus (first|rfl|(simp;done)|(rw[zcn (by assumption),Pat.cs_cd,Pat.cs_cd,List.map_append];rfl)|(rw[zdH (by assumption)];done)|(rw[zdH (by omega)];done)|(rw[zcn (by assumption)];simp[Pat.cs_len];done)|(rw[zcn (by omega)];simp[Pat.cs_len];done)|omega|(simp;omega))
 try simp only[Q] at h2p
 refine ar ?_
 refine Exists.intro (i+1) ⟨(by omega),(by omega),sx ⟨⟨_,rfl,LeA.eqi ?_⟩,⟨⟨_,rfl,LeA.glg ?_⟩,trivial⟩⟩ ⟨zad ?_,trivial⟩⟩
 iterate 3 focus (first|rfl|(simp;done)|(rw[zcn (by assumption),Pat.cs_cd,Pat.cs_cd,List.map_append];rfl)|(rw[zdH (by assumption)];done)|(rw[zdH (by omega)];done)|(rw[zcn (by assumption)];simp[Pat.cs_len];done)|(rw[zcn (by omega)];simp[Pat.cs_len];done)|omega|(simp;omega))
 try simp only[Q] at h1p
 refine rn0 (r1 rfl) (.gld ?_)
 rotate_left
 all_goals (first|rfl|(have e:i=n:=(by omega);rw[e]))
theorem znJ {w:List Data} (hw:WT w){f:Nat→Nat}{a k c:Int} (ht:TyIn w.length ⟨a,k⟩) (hc:c∈zaA w ⟨a,k⟩) (hl:(zaj w ⟨a,k⟩ c).length≤3):FnD Tryz.prog 188 [.d (sPtr w f),.agg [.d (.i a),.d (.i k)],.d (.i c)] []
  (.agg [.d (.i 4),.d (.i c),.d (.i 0),.d (.i 0),.d (.i 0),.d (zaf (zch w ⟨a,k⟩ c).kids)]) []:=by
 refine bd Tryz.f188 28 [] [] fun w0 F0 own kept hk=>?_
 refine Walk.box (id:=3004) .none rfl rfl rfl rfl rfl rfl rfl ?_
 refine Walk.alloc (id:=3006) tz56 rfl .none rfl rfl rfl rfl ?_
 refine tv ?_
 refine Walk.build st56 (ks:=[0,1]) (xs:=[_,_]) rfl rfl .none rfl rfl rfl ?_
 refine Walk.alloc (id:=3007) tz56 rfl .none rfl rfl rfl rfl ?_
 refine Walk.store ty56 .none rfl rfl rfl rfl rfl rfl (by simp) rfl ?_
 refine tv ?_
 refine wc ziU (zda hw ht hc) rfl rfl ?_
 refine evd [] [] ?_
 refine dr ?_
 refine CWp.tokB 3007 5 9 6 rfl rfl rfl rfl ?_
 refine CWp.loopX (ι:=List (Ty)×List (Ty)) hk (fun x=>[(18,.d (.i (x.1.length:Int)))]) [19,20,21,22,23,24,25,26] (fun x=>[(3007,some (.box [.d (.i 4),.d (.i c),.d (.i 0),.d (.i 0),.d (.i 0),.gl 9 ((x.1.map fun _=>anyQ).map Pat.cc)])),(9,some (.tok ((x.1.map fun _=>anyQ).map Pat.cc).length 6))]) (fun x=>x.1++x.2=zaj w ⟨a,k⟩ c) (fun x=>x.2.length) ([],zaj w ⟨a,k⟩ c) (by simp) ⟨⟨_,rfl,LeA.eqi ?_⟩,trivial⟩ ⟨?_,⟨zad ?_,trivial⟩⟩ (fun x=>rfl) (fun x hg1=>?_)
 focus (first|rfl|(simp;done)|(simp;exact⟨rfl,rfl,rfl,rfl,rfl,rfl⟩)|omega|(simp;omega))
 focus (first|rfl|(simp[getH];done)|(simp[getH];exact⟨rfl,rfl,rfl,rfl,rfl,rfl⟩))
 focus (first|rfl|(simp;done)|(simp;exact⟨rfl,rfl,rfl,rfl,rfl,rfl⟩)|omega|(simp;omega))
 obtain⟨pre,rest⟩:=x
 dsimp only at hg1 ⊢
 refine evc [] [] ?_
 refine sq (fun h1 h1p h1s=>?_) fun h1 h1p h1s=>?_
 try simp only[Q] at h1p
 rcases rest with _|⟨y,rest⟩
 ·exfalso;simp_all
 refine wc zjG (zcC) rfl rfl ?_
 refine Walk.sliceLit sl45 tz56 rfl (by decide) (ks:=[0]) (xs:=[_]) rfl rfl (by decide) (by decide) .none rfl rfl rfl rfl ?_
 refine Walk.append sl45 zz56 rfl .none rfl rfl rfl rfl (zaB rfl (by first|rfl|(simp;done)|(simp;omega))) (by intro x hx;first|(simp at hx;subst hx;rfl)|exact zbE _ x hx) (by have:=congrArg List.length hg1;simp at this;simp;omega) (by have:=congrArg List.length hg1;simp at this;simp;omega) ?_
 refine evd [] [] ?_
 refine Walk.store ty45 .none rfl rfl rfl rfl rfl rfl (by simp) rfl ?_
 refine dr ?_
 refine ar ?_
 refine Exists.intro ((pre++[y],rest)) ⟨(by have hz:=hg1;rw[←hz];simp),(by simp),sx ⟨⟨_,rfl,LeA.eqi ?_⟩,trivial⟩ ⟨?_,⟨zad ?_,trivial⟩⟩⟩
 focus (first|rfl|(simp;done)|(simp;exact⟨rfl,rfl,rfl,rfl,rfl,rfl⟩)|omega|(simp;omega))
 focus (first|rfl|(simp[getH];done)|(simp[getH];exact⟨rfl,rfl,rfl,rfl,rfl,rfl⟩))
 focus (first|rfl|(simp;done)|(simp;exact⟨rfl,rfl,rfl,rfl,rfl,rfl⟩)|omega|(simp;omega))
 try simp only[Q] at h1p
 have hrest:rest=[]:=by
  rcases rest with _|⟨a,b⟩
  ·rfl
  ·exfalso;have hz:=congrArg List.length (hg1);simp only[List.length_append,List.length_cons,List.length_map] at hz;omega
 subst hrest
 refine Walk.store ty56 .none rfl rfl rfl rfl rfl rfl (by simp) rfl ?_
 refine tv ?_
 refine rn0 (.cons (.cellA ty56 rfl rfl rfl) .nil) (.agg (.cons (.eqd ?_) (.cons (.eqd ?_) (.cons (.eqd ?_) (.cons (.eqd ?_) (.cons (.eqd ?_) (.cons (.gld ?_) .nil)))))))
 rotate_left 6
 all_goals (first|rfl|(rw[List.append_nil] at hg1;subst hg1;rw[←Pat.cs_cd];all_goals rfl))
def zcR (n:Nat) (a b:Pat):Pat:=(zaS n a b).getD zsy
theorem zcy {n:Nat}{a b x:Pat} (h:zaS n a b=some x):zcR n a b=x:=by unfold zcR;rw[h];rfl
theorem zfa {n:Nat}{a b:Pat} (h:zaS n a b=none):zcR n a b=zsy:=by unfold zcR;rw[h];rfl
theorem zmH {n:Nat}{a b:Pat} (h:(zaS n a b).isSome=true):zaS n a b=some (zcR n a b):=by
 unfold zcR
 cases e:zaS n a b with
 |none=>rw[e] at h;cases h
 |some x=>rfl
theorem zmI {n:Nat}{a b:Pat} (h:(zaS n a b).isSome=false):zaS n a b=none:=by
 cases e:zaS n a b with
 |none=>rfl
 |some x=>rw[e] at h;cases h
theorem zi7 {w:List Data} (hs:Spa w){f:Nat→Nat}:∀(n m:Nat){ta tk:Int}{a b:Pat},m≤n→InS (w.length*4) ⟨ta,tk⟩→zam w m ⟨ta,tk⟩ a=true→zam w m ⟨ta,tk⟩ b=true→
  FnD Tryz.prog 190 [.d (sPtr w f),.agg [.d (.i ta),.d (.i tk)],.agg [.d (.i a.op),.d (.i a.ctor),.d (.i a.n),.d (.i a.m),.d (.i a.var),.d (zaf a.kids)],.agg [.d (.i b.op),.d (.i b.ctor),.d (.i b.n),.d (.i b.m),.d (.i b.var),.d (zaf b.kids)]] []
   (.tup [.agg [.d (.i (zcR n a b).op),.d (.i (zcR n a b).ctor),.d (.i (zcR n a b).n),.d (.i (zcR n a b).m),.d (.i (zcR n a b).var),.d (zaf (zcR n a b).kids)],.d (.bool (zaS n a b).isSome)]) []
 |n,0,ta,tk,a,b,_,_,ha,_=>by simp[zam] at ha
 |0,m+1,ta,tk,a,b,h,_,_,_=>by omega
 |n+1,m+1,ta,tk,a,b,hnm,ht,ha,hb=>by
  by_cases h1:a.op=1
  ·have e:=zlE (n:=n) (b:=b) h1
   rw[zcy e,e]
   refine bd Tryz.f190 100 [] [] fun w0 F0 own kept hk=>?_
   refine Walk.box (id:=3005) .none rfl rfl rfl rfl rfl rfl rfl ?_
   refine Walk.box (id:=3006) .none rfl rfl rfl rfl rfl rfl rfl ?_
   refine Walk.box (id:=3007) .none rfl rfl rfl rfl rfl rfl rfl ?_
   refine Walk.alloc (id:=3008) tz56 rfl .none rfl rfl rfl rfl ?_
   refine ev ?_
   refine sq (fun h1 h1p h1s=>?_) fun h1 h1p h1s=>?_
   try simp only[Q] at h1p
   refine Walk.store ty56 .none rfl rfl rfl rfl rfl rfl (by simp) rfl ?_
   refine ev ?_
   refine rn0 (.cons (.cellA ty56 rfl rfl rfl) (.cons (.tmp rfl) .nil)) (.tup (.cons (.agg (.cons (.eqd ?_) (.cons (.eqd ?_) (.cons (.eqd ?_) (.cons (.eqd ?_) (.cons (.eqd ?_) (.cons (.eqd ?_) .nil))))))) (.cons (.eqd ?_) .nil)))
   rotate_left 7
   try simp only[Q] at h1p
   exfalso;omega
   all_goals (rfl)
  by_cases h2:b.op=1
  ·have e:=zlF (n:=n) h1 h2
   rw[zcy e,e]
   refine bd Tryz.f190 100 [] [] fun w0 F0 own kept hk=>?_
   refine Walk.box (id:=3005) .none rfl rfl rfl rfl rfl rfl rfl ?_
   refine Walk.box (id:=3006) .none rfl rfl rfl rfl rfl rfl rfl ?_
   refine Walk.box (id:=3007) .none rfl rfl rfl rfl rfl rfl rfl ?_
   refine Walk.alloc (id:=3008) tz56 rfl .none rfl rfl rfl rfl ?_
   refine ev ?_
   refine sq (fun h1 h1p h1s=>?_) fun h1 h1p h1s=>?_
   try simp only[Q] at h1p
   exfalso;omega
   try simp only[Q] at h1p
   refine sq (fun h2 h2p h2s=>?_) fun h2 h2p h2s=>?_
   try simp only[Q] at h2p
   refine Walk.store ty56 .none rfl rfl rfl rfl rfl rfl (by simp) rfl ?_
   refine ev ?_
   refine rn0 (.cons (.cellA ty56 rfl rfl rfl) (.cons (.tmp rfl) .nil)) (.tup (.cons (.agg (.cons (.eqd ?_) (.cons (.eqd ?_) (.cons (.eqd ?_) (.cons (.eqd ?_) (.cons (.eqd ?_) (.cons (.eqd ?_) .nil))))))) (.cons (.eqd ?_) .nil)))
   rotate_left 7
   try simp only[Q] at h2p
   exfalso;omega
   all_goals (rfl)
  by_cases h3:a.op=3
  ·have e:=zlG (n:=n) h3 h2
   by_cases hr:maxQ a.n b.n≤minQ a.m b.m
   ·rw[if_pos hr] at e
    have er:zbF [maxQ a.n b.n,minQ a.m b.m] 1=[intQ (maxQ a.n b.n) (minQ a.m b.m)]:=by rw[zoV];exact if_pos hr
    have hrg:=zfr (l:=[maxQ a.n b.n,minQ a.m b.m]) (n:=1) rfl (by omega)
    rw[er] at hrg
    rw[zcy e,e]
    refine bd Tryz.f190 100 [] [] fun w0 F0 own kept hk=>?_
    refine Walk.box (id:=3005) .none rfl rfl rfl rfl rfl rfl rfl ?_
    refine Walk.box (id:=3006) .none rfl rfl rfl rfl rfl rfl rfl ?_
    refine Walk.box (id:=3007) .none rfl rfl rfl rfl rfl rfl rfl ?_
    refine Walk.alloc (id:=3008) tz56 rfl .none rfl rfl rfl rfl ?_
    refine ev ?_
    refine sq (fun h1 h1p h1s=>?_) fun h1 h1p h1s=>?_
    try simp only[Q,Pat.cs_len] at h1p
    exfalso;omega
    try simp only[Q,Pat.cs_len] at h1p
    refine sq (fun h2 h2p h2s=>?_) fun h2 h2p h2s=>?_
    try simp only[Q,Pat.cs_len] at h2p
    exfalso;omega
    try simp only[Q,Pat.cs_len] at h2p
    refine sq (fun h3 h3p h3s=>?_) fun h3 h3p h3s=>?_
    try simp only[Q,Pat.cs_len] at h3p
    refine Walk.maxI .none rfl rfl rfl ?_
    refine ev ?_
    refine Walk.minI .none rfl rfl rfl ?_
    refine Walk.sliceLit zbQ tz3 rfl (by decide) (ks:=[0,1]) (xs:=[_,_]) rfl rfl (by decide) (by decide) .none rfl rfl rfl rfl ?_
    refine wc zof (hrg) rfl rfl ?_
    refine ev ?_
    refine sq (fun h4 h4p h4s=>?_) fun h4 h4p h4s=>?_
    try simp only[Q,Pat.cs_len] at h4p
    exfalso;simp[Pat.cs_len] at h4
    try simp only[Q,Pat.cs_len] at h4p
    refine Walk.idx (i:=0) sl45 .none rfl rfl rfl rfl (rfl) rfl ?_
    refine ev ?_
    refine Walk.store ty56 .none rfl rfl rfl rfl rfl rfl (by simp) rfl ?_
    refine ev ?_
    refine rn0 (.cons (.cellA ty56 rfl rfl rfl) (.cons (.tmp rfl) .nil)) (.tup (.cons (.agg (.cons (.eqd ?_) (.cons (.eqd ?_) (.cons (.eqd ?_) (.cons (.eqd ?_) (.cons (.eqd ?_) (.cons (.eqd ?_) .nil))))))) (.cons (.eqd ?_) .nil)))
    rotate_left 7
    try simp only[Q,Pat.cs_len] at h3p
    exfalso;omega
    all_goals (rfl)
   ·skip
    rw[if_neg hr] at e
    have er:zbF [maxQ a.n b.n,minQ a.m b.m] 1=[]:=by rw[zoV];exact if_neg hr
    have hrg:=zfr (l:=[maxQ a.n b.n,minQ a.m b.m]) (n:=1) rfl (by omega)
    rw[er] at hrg
    rw[zfa e,e]
    refine bd Tryz.f190 100 [] [] fun w0 F0 own kept hk=>?_
    refine Walk.box (id:=3005) .none rfl rfl rfl rfl rfl rfl rfl ?_
    refine Walk.box (id:=3006) .none rfl rfl rfl rfl rfl rfl rfl ?_
    refine Walk.box (id:=3007) .none rfl rfl rfl rfl rfl rfl rfl ?_
    refine Walk.alloc (id:=3008) tz56 rfl .none rfl rfl rfl rfl ?_
    refine ev ?_
    refine sq (fun h1 h1p h1s=>?_) fun h1 h1p h1s=>?_
    try simp only[Q,Pat.cs_len] at h1p
    exfalso;omega
    try simp only[Q,Pat.cs_len] at h1p
    refine sq (fun h2 h2p h2s=>?_) fun h2 h2p h2s=>?_
    try simp only[Q,Pat.cs_len] at h2p
    exfalso;omega
    try simp only[Q,Pat.cs_len] at h2p
    refine sq (fun h3 h3p h3s=>?_) fun h3 h3p h3s=>?_
    try simp only[Q,Pat.cs_len] at h3p
    refine Walk.maxI .none rfl rfl rfl ?_
    refine ev ?_
    refine Walk.minI .none rfl rfl rfl ?_
    refine Walk.sliceLit zbQ tz3 rfl (by decide) (ks:=[0,1]) (xs:=[_,_]) rfl rfl (by decide) (by decide) .none rfl rfl rfl rfl ?_
    refine wc zof (hrg) rfl rfl ?_
    refine ev ?_
    refine sq (fun h4 h4p h4s=>?_) fun h4 h4p h4s=>?_
    try simp only[Q,Pat.cs_len] at h4p
    refine Walk.build st56 (ks:=[]) (xs:=[]) rfl rfl .none rfl rfl rfl ?_
    refine Walk.store ty56 .none rfl rfl rfl rfl rfl rfl (by simp) rfl ?_
    refine ev ?_
    refine rn0 (.cons (.cellA ty56 rfl rfl rfl) (.cons (.tmp rfl) .nil)) (.tup (.cons (.agg (.cons (.eqd ?_) (.cons (.eqd ?_) (.cons (.eqd ?_) (.cons (.eqd ?_) (.cons (.eqd ?_) (.cons (.nild ?_) .nil))))))) (.cons (.eqd ?_) .nil)))
    rotate_left 7
    try simp only[Q,Pat.cs_len] at h4p
    exfalso;simp[Pat.cs] at h4
    try simp only[Q,Pat.cs_len] at h3p
    exfalso;omega
    all_goals (rfl)
  have oa:=zce ha
  have h4:a.op=4:=by omega
  have h4b:b.op=4:=by have:=zdI ha hb h1 h2;omega
  by_cases hc:a.ctor=b.ctor
  ·obtain⟨c1,c2,c3,c4⟩:=zbf ha h4
   obtain⟨d1,d2,d3,d4⟩:=zbf hb h4b
   rw[←hc] at d3
   have h3l:=hs.args ⟨ta,tk⟩ a.ctor ht c1
   have ka:=fun i (hi:i<a.kids.length)=>zbt ha hi
   have kb:=fun i (hi:i<b.kids.length)=>zbt hb hi
   rw[zbG h4] at ka
   rw[zbG h4b,←hc] at kb
   have e:=zlH (n:=n) h4 h2 hc
   have hlen:a.kids.length=b.kids.length:=by omega
   have ih:=fun i (hi:i<(zaj w ⟨ta,tk⟩ a.ctor).length)=>zi7 hs n m (f:=f) (ta:=(nth (zaj w ⟨ta,tk⟩ a.ctor) i).data) (tk:=(nth (zaj w ⟨ta,tk⟩ a.ctor) i).index) (a:=nth a.kids i) (b:=nth b.kids i) (by omega) (zcv hs.dp ht c1 _ (zal hi)) (ka i (by omega)) (kb i (by omega))
   refine bd Tryz.f190 100 [] [] fun w0 F0 own kept hk=>?_
   refine Walk.box (id:=3005) .none rfl rfl rfl rfl rfl rfl rfl ?_
   refine Walk.box (id:=3006) .none rfl rfl rfl rfl rfl rfl rfl ?_
   refine Walk.box (id:=3007) .none rfl rfl rfl rfl rfl rfl rfl ?_
   refine Walk.alloc (id:=3008) tz56 rfl .none rfl rfl rfl rfl ?_
   refine ev ?_
   refine sq (fun h1 h1p h1s=>?_) fun h1 h1p h1s=>?_
   try simp only[Q,Pat.cs_len] at h1p
   exfalso;omega
   try simp only[Q,Pat.cs_len] at h1p
   refine sq (fun h2 h2p h2s=>?_) fun h2 h2p h2s=>?_
   try simp only[Q,Pat.cs_len] at h2p
   exfalso;omega
   try simp only[Q,Pat.cs_len] at h2p
   refine sq (fun h3 h3p h3s=>?_) fun h3 h3p h3s=>?_
   try simp only[Q,Pat.cs_len] at h3p
   exfalso;omega
   try simp only[Q,Pat.cs_len] at h3p
   refine sq (fun h4 h4p h4s=>?_) fun h4 h4p h4s=>?_
   try simp only[Q,Pat.cs_len] at h4p
   exfalso;omega
   try simp only[Q,Pat.cs_len] at h4p
   refine Walk.build st56 (ks:=[0,1]) (xs:=[_,_]) rfl rfl .none rfl rfl rfl ?_
   refine Walk.alloc (id:=3011) tz56 rfl .none rfl rfl rfl rfl ?_
   refine Walk.store ty56 .none rfl rfl rfl rfl rfl rfl (by simp) rfl ?_
   refine tv ?_
   refine wc ziU (zda hs.dp.wt (zcK ht) c1) rfl rfl ?_
   refine evd [] [] ?_
   refine dr ?_
   refine CWp.tokB 3011 5 9 6 rfl rfl rfl rfl ?_
   refine CWp.loopX (ι:=Nat×List Pat) hk (fun x=>[(68,.d (.i (x.1:Int)))]) [9,12,13,14,15,69,70,71,72,73,74,75,76,77,78,79,80,81,82,83,84,85,86,87,88,89,90,91,92,93,94,95,96,97,98] (fun x=>[(3011,some (.box [.d (.i 4),.d (.i a.ctor),.d (.i 0),.d (.i 0),.d (.i 0),.gl 9 (x.2.map Pat.cc)])),(9,some (.tok (x.2.map Pat.cc).length 6))]) (fun x=>x.1≤a.kids.length∧x.2.length=x.1∧zcH (zaS n) (a.kids.drop x.1) (b.kids.drop x.1) x.2=zcH (zaS n) a.kids b.kids []) (fun x=>a.kids.length-x.1) (0,[]) ⟨by simp,rfl,rfl⟩ ⟨⟨_,rfl,LeA.eqi ?_⟩,trivial⟩ ⟨?_,⟨zad ?_,trivial⟩⟩ (fun x=>rfl) (fun x hg1=>?_)
   focus (first|rfl|(simp;done)|(simp_all;done)|omega|(simp;omega))
   focus (first|rfl|(simp[getH];done))
   focus (first|rfl|(simp;done)|(simp_all;done)|omega|(simp;omega))
   refine evc [] [] ?_
   refine sq (fun h5 h5p h5s=>?_) fun h5 h5p h5s=>?_
   try simp only[Q,Pat.cs_len] at h5p
   refine Walk.idx zbd .none rfl rfl rfl rfl (zay (by omega)) rfl ?_
   refine ev ?_
   refine Walk.alloc (id:=3013) tz33 rfl .none rfl rfl rfl rfl ?_
   refine ev ?_
   refine Walk.store ty33 .none rfl rfl rfl rfl rfl rfl (by simp) rfl ?_
   refine tv ?_
   refine Walk.idx sl45 .none rfl rfl rfl rfl (zaI (by omega)) rfl ?_
   refine evd [] [] ?_
   refine Walk.idx sl45 .none rfl rfl rfl rfl (zaI (by omega)) rfl ?_
   refine evd [] [] ?_
   refine wc zqB (ih x.1 (by omega)) rfl rfl ?_
   refine evd [] [] ?_
   refine Walk.alloc (id:=3014) tz56 rfl .none rfl rfl rfl rfl ?_
   refine Walk.store ty56 .none rfl rfl rfl rfl rfl rfl (by simp) rfl ?_
   refine evd [] [] ?_
   refine dr ?_
   refine sq (fun h6 h6p h6s=>?_) fun h6 h6p h6s=>?_
   try simp only[Q,Pat.cs_len] at h6p
   refine Walk.build st56 (ks:=[]) (xs:=[]) rfl rfl .none rfl rfl rfl ?_
   refine Walk.store ty56 .none rfl rfl rfl rfl rfl rfl (by simp) rfl ?_
   refine ev ?_
   refine rn0 (.cons (.cellA ty56 rfl rfl rfl) (.cons (.tmp rfl) .nil)) (.tup (.cons (.agg (.cons (.eqd ?_) (.cons (.eqd ?_) (.cons (.eqd ?_) (.cons (.eqd ?_) (.cons (.eqd ?_) (.cons (.nild ?_) .nil))))))) (.cons (.eqd ?_) .nil)))
   rotate_left 7
   try simp only[Q,Pat.cs_len] at h6p
   refine Walk.sliceLit sl45 tz56 rfl (by decide) (ks:=[0]) (xs:=[_]) rfl rfl (by decide) (by decide) .none rfl rfl rfl rfl ?_
   refine Walk.append sl45 zz56 rfl .none rfl rfl rfl rfl (zaB rfl (by first|rfl|(simp;done)|(simp;omega))) (by intro x hx;first|(simp at hx;subst hx;rfl)|exact zbE _ x hx) (by simp;omega) (by simp;omega) ?_
   refine ev ?_
   refine Walk.store ty45 .none rfl rfl rfl rfl rfl rfl (by simp) rfl ?_
   refine tv ?_
   refine ar ?_
   refine Exists.intro ((x.1+1,x.2++[zcR n (nth a.kids x.1) (nth b.kids x.1)])) ⟨⟨by dsimp only;omega,by dsimp only;rw[List.length_append,hg1.2.1];rfl,by dsimp only;rw[←zlD (by omega) (by omega) (zmH (by assumption))];exact hg1.2.2⟩,(by dsimp only;omega),sx ⟨⟨_,rfl,LeA.eqi ?_⟩,trivial⟩ ⟨?_,⟨zad ?_,trivial⟩⟩⟩
   focus (first|rfl|(simp;done)|(simp_all;done)|omega|(simp;omega))
   focus (first|rfl|(simp[getH];done))
   focus (first|rfl|(simp;done)|(simp_all;done)|omega|(simp;omega))
   try simp only[Q,Pat.cs_len] at h5p
   refine Walk.store ty56 .none rfl rfl rfl rfl rfl rfl (by simp) rfl ?_
   refine ev ?_
   refine rn0 (.cons (.cellA ty56 rfl rfl rfl) (.cons (.tmp rfl) .nil)) (.tup (.cons (.agg (.cons (.eqd ?_) (.cons (.eqd ?_) (.cons (.eqd ?_) (.cons (.eqd ?_) (.cons (.eqd ?_) (.cons (.gld ?_) .nil))))))) (.cons (.eqd ?_) .nil)))
   rotate_left 7
   all_goals (first|(have e2:zaS (n+1) a b=none:=(by rw[e,←hg1.2.2,zlC (by omega) (by omega) (zmI (by assumption))];rfl);(first|rw[zfa e2]|rw[e2]);all_goals rfl)|(have e2:zaS (n+1) a b=some (zb2 a.ctor x.2):=(by rw[e,←hg1.2.2,zeO (by omega)];rfl);rw[zcy e2,Pat.cs_cd];all_goals rfl)|(have e2:zaS (n+1) a b=some (zb2 a.ctor x.2):=(by rw[e,←hg1.2.2,zeO (by omega)];rfl);rw[zcy e2];all_goals rfl)|(have e2:zaS (n+1) a b=some (zb2 a.ctor x.2):=(by rw[e,←hg1.2.2,zeO (by omega)];rfl);rw[e2];all_goals rfl))
  ·skip
   have e:=zjO (n:=n) h4 h2 hc
   rw[zfa e,e]
   refine bd Tryz.f190 100 [] [] fun w0 F0 own kept hk=>?_
   refine Walk.box (id:=3005) .none rfl rfl rfl rfl rfl rfl rfl ?_
   refine Walk.box (id:=3006) .none rfl rfl rfl rfl rfl rfl rfl ?_
   refine Walk.box (id:=3007) .none rfl rfl rfl rfl rfl rfl rfl ?_
   refine Walk.alloc (id:=3008) tz56 rfl .none rfl rfl rfl rfl ?_
   refine ev ?_
   refine sq (fun h1 h1p h1s=>?_) fun h1 h1p h1s=>?_
   try simp only[Q] at h1p
   exfalso;omega
   try simp only[Q] at h1p
   refine sq (fun h2 h2p h2s=>?_) fun h2 h2p h2s=>?_
   try simp only[Q] at h2p
   exfalso;omega
   try simp only[Q] at h2p
   refine sq (fun h3 h3p h3s=>?_) fun h3 h3p h3s=>?_
   try simp only[Q] at h3p
   exfalso;omega
   try simp only[Q] at h3p
   refine sq (fun h4 h4p h4s=>?_) fun h4 h4p h4s=>?_
   try simp only[Q] at h4p
   refine Walk.build st56 (ks:=[]) (xs:=[]) rfl rfl .none rfl rfl rfl ?_
   refine Walk.store ty56 .none rfl rfl rfl rfl rfl rfl (by simp) rfl ?_
   refine ev ?_
   refine rn0 (.cons (.cellA ty56 rfl rfl rfl) (.cons (.tmp rfl) .nil)) (.tup (.cons (.agg (.cons (.eqd ?_) (.cons (.eqd ?_) (.cons (.eqd ?_) (.cons (.eqd ?_) (.cons (.eqd ?_) (.cons (.nild ?_) .nil))))))) (.cons (.eqd ?_) .nil)))
   rotate_left 7
   try simp only[Q] at h4p
   exfalso;omega
   all_goals (rfl)
end Go.Proofs.YtcnjkjdmbnhcaaaGreat
