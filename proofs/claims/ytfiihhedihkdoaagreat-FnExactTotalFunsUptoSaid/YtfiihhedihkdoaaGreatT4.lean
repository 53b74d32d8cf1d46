/-
  THE ABSTRACT WALK AND THE WALKS, part 4 of 6: the parts F22, F26, F23, F27, F28, F29, F40, F14, F16, F42, F50, F51, F52, F53, F54, F55, F56.
-/
import Derived.Test.YtfiihhedihkdoaaGreatT3
namespace Go.Proofs.YtfiihhedihkdoaaGreat
open Go
set_option linter.unusedSimpArgs false
set_option linter.unusedVariables false
set_option maxRecDepth 100000
set_option maxHeartbeats 4000000
theorem zeT {p:Pat}{b1 b2 b3:Bool}{k:Int}:FnD Tryz.prog 223 [.agg [.d (.i p.op),.d (.i p.ctor),.d (.i p.n),.d (.i p.m),.d (.i p.var),.d (zad p.kids)],.d (.bool b1),.d (.bool b2),.d (.bool b3),.d (.i k)] []
  (.d (.bool (decide ((b1=true∨p.ctor=0)∧(b2=true∨p.n=0∧p.m=0)∧(b3=true∨p.var=0)∧(p.kids.length:Int)=k)))) []:=by
 refine bd Tryz.f223 45 [] [1] fun w0 F0 own kept hk=>?_
 refine Walk.box (id:=3005) .none rfl rfl rfl rfl rfl rfl rfl ?_
 refine ev ?_
 refine CWp.regionJ ?_
 refine WRest.join 6 [(16,.d (.bool (decide (b1=true∨p.ctor=0))))] [11,12,13,14,15] ?_ ?_
 refine ev ?_
 refine sq (fun h1 h1p h1s=>?_) fun h1 h1p h1s=>?_
 try simp only[Q,Pat.cs_len] at h1p
 exact jn rfl (LeA.eqb (by(first|rfl|(rw[Bool.eq_iff_iff];simp_all[Pat.cs_len];done))))
 try simp only[Q,Pat.cs_len] at h1p
 exact jn rfl (LeA.eqb (by(first|rfl|(rw[Bool.eq_iff_iff];simp_all[Pat.cs_len];done))))
 refine WRest.join 13 [(29,.d (.bool (decide ((b1=true∨p.ctor=0)∧(b2=true∨p.n=0∧p.m=0)))))] [17,18,19,20,21,22,23,24,25,26,27,28] ?_ ?_
 refine ev ?_
 refine sq (fun h2 h2p h2s=>?_) fun h2 h2p h2s=>?_
 try simp only[Q,Pat.cs_len] at h2p
 refine sq (fun h3 h3p h3s=>?_) fun h3 h3p h3s=>?_
 try simp only[Q,Pat.cs_len] at h3p
 exact jn rfl (LeA.eqb (by(first|rfl|(rw[Bool.eq_iff_iff];simp_all[Pat.cs_len];done))))
 try simp only[Q,Pat.cs_len] at h3p
 refine sq (fun h4 h4p h4s=>?_) fun h4 h4p h4s=>?_
 try simp only[Q,Pat.cs_len] at h4p
 exact jn rfl (LeA.eqb (by(first|rfl|(rw[Bool.eq_iff_iff];simp_all[Pat.cs_len];done))))
 try simp only[Q,Pat.cs_len] at h4p
 exact jn rfl (LeA.eqb (by(first|rfl|(rw[Bool.eq_iff_iff];simp_all[Pat.cs_len];done))))
 try simp only[Q,Pat.cs_len] at h2p
 exact jn rfl (LeA.eqb (by(first|rfl|(rw[Bool.eq_iff_iff];simp_all[Pat.cs_len];done))))
 refine WRest.join 8 [(37,.d (.bool (decide ((b1=true∨p.ctor=0)∧(b2=true∨p.n=0∧p.m=0)∧(b3=true∨p.var=0)))))] [30,31,32,33,34,35,36] ?_ ?_
 refine ev ?_
 refine sq (fun h5 h5p h5s=>?_) fun h5 h5p h5s=>?_
 try simp only[Q,Pat.cs_len] at h5p
 refine sq (fun h6 h6p h6s=>?_) fun h6 h6p h6s=>?_
 try simp only[Q,Pat.cs_len] at h6p
 exact jn rfl (LeA.eqb (by(first|rfl|(rw[Bool.eq_iff_iff];simp_all[Pat.cs_len];done))))
 try simp only[Q,Pat.cs_len] at h6p
 exact jn rfl (LeA.eqb (by(first|rfl|(rw[Bool.eq_iff_iff];simp_all[Pat.cs_len];done))))
 try simp only[Q,Pat.cs_len] at h5p
 exact jn rfl (LeA.eqb (by(first|rfl|(rw[Bool.eq_iff_iff];simp_all[Pat.cs_len];done))))
 refine WRest.join 7 [(44,.d (.bool (decide ((b1=true∨p.ctor=0)∧(b2=true∨p.n=0∧p.m=0)∧(b3=true∨p.var=0)∧(p.kids.length:Int)=k))))] [38,39,40,41,42,43] ?_ ?_
 refine ev ?_
 refine sq (fun h7 h7p h7s=>?_) fun h7 h7p h7s=>?_
 try simp only[Q,Pat.cs_len] at h7p
 exact jn rfl (LeA.eqb (by(first|rfl|(rw[Bool.eq_iff_iff];simp_all[Pat.cs_len];done))))
 try simp only[Q,Pat.cs_len] at h7p
 exact jn rfl (LeA.eqb (by(first|rfl|(rw[Bool.eq_iff_iff];simp_all[Pat.cs_len];done))))
 refine WRest.done ?_
 refine ev ?_
 refine rn0 (r1 rfl) (.eqd ?_)
 rotate_left
 all_goals (rfl)
theorem zfw {p:Pat}{k:Int}:FnD Tryz.prog 223 [.agg [.d (.i p.op),.d (.i p.ctor),.d (.i p.n),.d (.i p.m),.d (.i p.var),.d (zad p.kids)],.d (.bool false),.d (.bool false),.d (.bool false),.d (.i k)] []
  (.d (.bool (decide (p.ctor=0∧(p.n=0∧p.m=0)∧p.var=0∧(p.kids.length:Int)=k)))) []:=by
 have:=zeT (p:=p) (b1:=false) (b2:=false) (b3:=false) (k:=k)
 simpa only[Bool.false_eq_true,false_or] using this
theorem zfx {p:Pat}{k:Int}:FnD Tryz.prog 223 [.agg [.d (.i p.op),.d (.i p.ctor),.d (.i p.n),.d (.i p.m),.d (.i p.var),.d (zad p.kids)],.d (.bool false),.d (.bool false),.d (.bool true),.d (.i k)] []
  (.d (.bool (decide (p.ctor=0∧(p.n=0∧p.m=0)∧(p.kids.length:Int)=k)))) []:=by
 have:=zeT (p:=p) (b1:=false) (b2:=false) (b3:=true) (k:=k)
 simpa only[Bool.false_eq_true,false_or,true_or,true_and] using this
theorem zjY {p:Pat}{k:Int}:FnD Tryz.prog 223 [.agg [.d (.i p.op),.d (.i p.ctor),.d (.i p.n),.d (.i p.m),.d (.i p.var),.d (zad p.kids)],.d (.bool false),.d (.bool true),.d (.bool false),.d (.i k)] []
  (.d (.bool (decide (p.ctor=0∧p.var=0∧(p.kids.length:Int)=k)))) []:=by
 have:=zeT (p:=p) (b1:=false) (b2:=true) (b3:=false) (k:=k)
 simpa only[Bool.false_eq_true,false_or,true_or,true_and] using this
theorem zpk {p:Pat}{k:Int}:FnD Tryz.prog 223 [.agg [.d (.i p.op),.d (.i p.ctor),.d (.i p.n),.d (.i p.m),.d (.i p.var),.d (zad p.kids)],.d (.bool true),.d (.bool false),.d (.bool false),.d (.i k)] []
  (.d (.bool (decide ((p.n=0∧p.m=0)∧p.var=0∧(p.kids.length:Int)=k)))) []:=by
 have:=zeT (p:=p) (b1:=true) (b2:=false) (b3:=false) (k:=k)
 simpa only[Bool.false_eq_true,false_or,true_or,true_and] using this
theorem zes {v:Int}:FnD Tryz.prog 148 [.d (.i v)] [] (.d (.bool (zaf v 0 5))) []:=by
 refine bd Tryz.f148 5 [] [] fun w0 F0 own kept hk=>?_
 refine Walk.call (cr:=[]) zc6 (zbl) rfl .none rfl rfl (LeL.refl _) trivial rfl rfl rfl ?_
 refine ev ?_
 refine rn0 (r1 rfl) (.eqd ?_)
 rotate_left
 all_goals (rfl)
theorem zcV {w:List Data} (hw:WT w){a k:Int} (ht:TyIn w.length ⟨a,k⟩):FnD Tryz.prog 122 [.d (zak w),.agg [.d (.i a),.d (.i k)]] [] (.d (zcB (zat w ⟨a,k⟩))) []:=by
 rcases ht with ha|⟨d,hd,hlt⟩
 ·simp only at ha;subst ha;rw[zgo];exact ziv
 ·simp only at hd;subst hd;rw[zhi];exact zk6 hw hlt
theorem zcD {w:List Data} (hw:WT w){a k c:Int} (ht:TyIn w.length ⟨a,k⟩) (hc:c∈zat w ⟨a,k⟩):FnD Tryz.prog 132 [.d (zak w),.agg [.d (.i a),.d (.i k)],.d (.i c)] [] (.d (zby (zag w ⟨a,k⟩ c))) []:=by
 obtain⟨d,rfl,h1,h2⟩:=zch ht hc
 exact zkb hw h1 h2
theorem zim {w:List Data} (hw:WT w){a k:Int}{p:Pat} (ht:TyIn w.length ⟨a,k⟩):
  FnD Tryz.prog 204 [.d (zak w),.agg [.d (.i a),.d (.i k)],.agg [.d (.i p.op),.d (.i p.ctor),.d (.i p.n),.d (.i p.m),.d (.i p.var),.d (zad p.kids)]] [] (.tup [.d (zby (zcL w ⟨a,k⟩ p)),.d (.bool (okP w ⟨a,k⟩ p))]) []:=by
 have hcl:=zgp hw ht
 have ty4:p.op=4→p.ctor∉zat w ⟨a,k⟩→zcL w ⟨a,k⟩ p=[]:=fun h4 hm=>by unfold zcL;rw[if_pos ⟨h4,hm⟩]
 have ty4':p.op=4→p.ctor∈zat w ⟨a,k⟩→zcL w ⟨a,k⟩ p=zag w ⟨a,k⟩ p.ctor:=fun h4 hm=>by unfold zcL zac;rw[if_neg (fun h=>h.2 hm),if_pos h4]
 have ty5:p.op=5→zcL w ⟨a,k⟩ p=[⟨a,k⟩,⟨a,k⟩]:=fun h5=>by unfold zcL zac;rw[if_neg (by omega),if_neg (by omega),if_pos h5]
 have ty6:p.op=6→zcL w ⟨a,k⟩ p=[⟨a,k⟩]:=fun h6=>by unfold zcL zac;rw[if_neg (by omega),if_neg (by omega),if_neg (by omega),if_pos h6]
 have ty0:¬p.op=4→¬p.op=5→¬p.op=6→zcL w ⟨a,k⟩ p=[]:=fun h4 h5 h6=>by unfold zcL zac;rw[if_neg (fun h=>h4 h.1),if_neg h4,if_neg h5,if_neg h6]
 have ln4:p.op=4→(zac w ⟨a,k⟩ p).length=(zag w ⟨a,k⟩ p.ctor).length:=fun h4=>by unfold zac;rw[if_pos h4]
 have ln5:p.op=5→(zac w ⟨a,k⟩ p).length=2:=fun h5=>by unfold zac;rw[if_neg (by omega),if_pos h5];rfl
 have ln6:p.op=6→(zac w ⟨a,k⟩ p).length=1:=fun h6=>by unfold zac;rw[if_neg (by omega),if_neg (by omega),if_pos h6];rfl
 have ln0:¬p.op=4→¬p.op=5→¬p.op=6→(zac w ⟨a,k⟩ p).length=0:=fun h4 h5 h6=>by unfold zac;rw[if_neg h4,if_neg h5,if_neg h6];rfl
 have okI:∀b:Bool,(b=true↔((((p.op=2∨p.op=6)→0≤p.var∧p.var≤5)∧(¬(p.op=2∨p.op=6)→p.var=0)∧(p.op≠3→p.n=0∧p.m=0)∧(p.op≠4→p.ctor=0)∧
   (p.op=1∨p.op=2∨p.op=5∨p.op=6∨(p.op=3∧a = -1∧0≤p.n∧p.n≤p.m∧p.m≤9)∨(p.op=4∧p.ctor∈zat w ⟨a,k⟩)))∧p.kids.length=(zac w ⟨a,k⟩ p).length))→b=okP w ⟨a,k⟩ p:=fun b h=>by
  rw[Bool.eq_iff_iff,h];unfold okP ownP;simp only[Bool.and_eq_true,decide_eq_true_eq]
 by_cases hmem:p.ctor∈zat w ⟨a,k⟩
 ·have hargs:=zcD hw ht hmem
  have hal:(zag w ⟨a,k⟩ p.ctor).length≤1000000000000:=by
   obtain⟨d,rfl,h1,h2⟩:=zch ht hmem
   exact zhR hw h1 h2
  simp only[hmem,and_true] at okI
  refine bd Tryz.f204 87 [] [5] fun w0 F0 own kept hk=>?_
  refine Walk.box (id:=3004) .none rfl rfl rfl rfl rfl rfl rfl ?_
  refine Walk.box (id:=3005) .none rfl rfl rfl rfl rfl rfl rfl ?_
  refine ev ?_
  refine sq (fun h1 h1p h1s=>?_) fun h1 h1p h1s=>?_
  try simp only[Q] at h1p
  refine Walk.call (cr:=[]) zd0 (zfw) rfl .none rfl rfl (LeL.refl _) trivial rfl rfl rfl ?_
  refine ev ?_
  refine rn0 (r2 rfl rfl) (.tup (.cons (.nild ?_) (.cons (.eqd ?_) .nil)))
  rotate_left 2
  try simp only[Q] at h1p
  refine sq (fun h2 h2p h2s=>?_) fun h2 h2p h2s=>?_
  try simp only[Q] at h2p
  refine CWp.regionJ ?_
  refine WRest.join 7 [(23,.d (.bool (decide ((p.ctor=0∧(p.n=0∧p.m=0)∧(p.kids.length:Int)=0)∧0≤p.var∧p.var≤5))))] [17,18,19,20,21,22] ?_ ?_
  refine ev ?_
  refine Walk.call (cr:=[]) zd0 (zfx) rfl .none rfl rfl (LeL.refl _) trivial rfl rfl rfl ?_
  refine ev ?_
  refine sq (fun h3 h3p h3s=>?_) fun h3 h3p h3s=>?_
  try simp only[Q] at h3p
  refine Walk.call (cr:=[]) zkM (zes) rfl (.some rfl rfl h3) rfl rfl (LeL.refl _) trivial rfl rfl rfl ?_
  refine evs [] [(19,true)] ?_ ⟨⟨_,rfl,h3⟩,trivial⟩
  exact jn rfl (LeA.eqb (by(rw[Bool.eq_iff_iff];simp only[decide_eq_true_eq,zaf,Bool.and_eq_true,Bool.false_eq_true,false_iff,true_iff];omega)))
  try simp only[Q] at h3p
  exact jn rfl (LeA.eqb (by(rw[Bool.eq_iff_iff];simp only[decide_eq_true_eq,zaf,Bool.and_eq_true,Bool.false_eq_true,false_iff,true_iff];omega)))
  refine WRest.done ?_
  refine ev ?_
  refine rn0 (r2 rfl rfl) (.tup (.cons (.nild ?_) (.cons (.eqd ?_) .nil)))
  rotate_left 2
  try simp only[Q] at h2p
  refine sq (fun h4 h4p h4s=>?_) fun h4 h4p h4s=>?_
  try simp only[Q] at h4p
  refine sq (fun h5 h5p h5s=>?_) fun h5 h5p h5s=>?_
  try simp only[Q] at h5p
  refine Walk.call (cr:=[]) zd0 (zjY) rfl (.some rfl rfl h5) rfl rfl (LeL.refl _) trivial rfl rfl rfl ?_
  refine evd [] [(29,true)] ?_ ⟨⟨_,rfl,h5⟩,trivial⟩
  refine sq (fun h6 h6p h6s=>?_) fun h6 h6p h6s=>?_
  try simp only[Q] at h6p
  refine sq (fun h7 h7p h7s=>?_) fun h7 h7p h7s=>?_
  try simp only[Q] at h7p
  refine sq (fun h8 h8p h8s=>?_) fun h8 h8p h8s=>?_
  try simp only[Q] at h8p
  refine dr ?_
  refine rn0 (r2 rfl rfl) (.tup (.cons (.nild ?_) (.cons (.eqd ?_) .nil)))
  rotate_left 2
  try simp only[Q] at h8p
  refine dr ?_
  refine rn0 (r2 rfl rfl) (.tup (.cons (.nild ?_) (.cons (.eqd ?_) .nil)))
  rotate_left 2
  try simp only[Q] at h7p
  refine sqF ?_
  refine dr ?_
  refine rn0 (r2 rfl rfl) (.tup (.cons (.nild ?_) (.cons (.eqd ?_) .nil)))
  rotate_left 2
  try simp only[Q] at h6p
  refine sqF ?_
  refine sqF ?_
  refine dr ?_
  refine rn0 (r2 rfl rfl) (.tup (.cons (.nild ?_) (.cons (.eqd ?_) .nil)))
  rotate_left 2
  try simp only[Q] at h5p
  refine sqF ?_
  refine sqF ?_
  refine sqF ?_
  refine dr ?_
  refine rn0 (r2 rfl rfl) (.tup (.cons (.nild ?_) (.cons (.eqd ?_) .nil)))
  rotate_left 2
  try simp only[Q] at h4p
  refine sq (fun h9 h9p h9s=>?_) fun h9 h9p h9s=>?_
  try simp only[Q] at h9p
  refine Walk.call (cr:=[]) zhs (zcV hw ht) rfl .none rfl rfl (LeL.refl _) trivial rfl rfl rfl ?_
  refine evd [] [] ?_
  refine Walk.call (cr:=[]) zkQ (zcx hcl) rfl .none rfl rfl (LeL.refl _) trivial rfl rfl rfl ?_
  refine evd [] [] ?_
  refine dr ?_
  refine sq (fun h10 h10p h10s=>?_) fun h10 h10p h10s=>?_
  try simp only[Q] at h10p
  exfalso;simp_all
  try simp only[Q] at h10p
  refine Walk.call (cr:=[]) zht (hargs) rfl .none rfl rfl (LeL.refl _) trivial rfl rfl rfl ?_
  refine ev ?_
  refine Walk.call (cr:=[]) zd0 (zpk) rfl .none rfl rfl (LeL.refl _) trivial rfl rfl rfl ?_
  refine ev ?_
  refine rn0 (r2 rfl rfl) (.tup (.cons (.eqd ?_) (.cons (.eqd ?_) .nil)))
  rotate_left 2
  try simp only[Q] at h9p
  refine sq (fun h11 h11p h11s=>?_) fun h11 h11p h11s=>?_
  try simp only[Q] at h11p
  refine Walk.sliceLit zaS tz33 rfl (by decide) (ks:=[0,1]) (xs:=[_,_]) rfl rfl (by decide) (by decide) .none rfl rfl rfl rfl ?_
  refine evd [] [] ?_
  refine Walk.call (cr:=[]) zd0 (zfw) rfl .none rfl rfl (LeL.refl _) trivial rfl rfl rfl ?_
  refine evd [] [] ?_
  refine dr ?_
  refine rn0 (r2 rfl rfl) (.tup (.cons (.eqd ?_) (.cons (.eqd ?_) .nil)))
  rotate_left 2
  try simp only[Q] at h11p
  refine sq (fun h12 h12p h12s=>?_) fun h12 h12p h12s=>?_
  try simp only[Q] at h12p
  refine Walk.sliceLit zaS tz33 rfl (by decide) (ks:=[0]) (xs:=[_]) rfl rfl (by decide) (by decide) .none rfl rfl rfl rfl ?_
  refine evd [] [] ?_
  refine Walk.call (cr:=[]) zd0 (zfx) rfl .none rfl rfl (LeL.refl _) trivial rfl rfl rfl ?_
  refine evd [] [] ?_
  refine sq (fun h13 h13p h13s=>?_) fun h13 h13p h13s=>?_
  try simp only[Q] at h13p
  refine Walk.call (cr:=[]) zkM (zes) rfl (.some rfl rfl h13) rfl rfl (LeL.refl _) trivial rfl rfl rfl ?_
  refine evd [] [(82,true)] ?_ ⟨⟨_,rfl,h13⟩,trivial⟩
  refine dr ?_
  refine rn0 (r2 rfl rfl) (.tup (.cons (.eqd ?_) (.cons (.eqd ?_) .nil)))
  rotate_left 2
  try simp only[Q] at h13p
  refine dr ?_
  refine rn0 (r2 rfl rfl) (.tup (.cons (.eqd ?_) (.cons (.eqd ?_) .nil)))
  rotate_left 2
  try simp only[Q] at h12p
  refine rn0 (r2 rfl rfl) (.tup (.cons (.nild ?_) (.cons (.eqd ?_) .nil)))
  rotate_left 2
  all_goals (first|(refine congrArg D.bool (okI _ ?_);(try simp only[decide_eq_true_eq,Bool.false_eq_true,zaf,Bool.and_eq_true,List.length_map,true_iff,false_iff]);omega)|(rw[ty0 (by omega) (by omega) (by omega)];first|done|rfl)|(rw[ty5 (by omega)];first|done|rfl)|(rw[ty6 (by omega)];first|done|rfl)|(rw[ty4' (by omega) hmem];first|done|rfl))
 ·simp only[hmem,and_false,or_false] at okI
  refine bd Tryz.f204 87 [] [5] fun w0 F0 own kept hk=>?_
  refine Walk.box (id:=3004) .none rfl rfl rfl rfl rfl rfl rfl ?_
  refine Walk.box (id:=3005) .none rfl rfl rfl rfl rfl rfl rfl ?_
  refine ev ?_
  refine sq (fun h1 h1p h1s=>?_) fun h1 h1p h1s=>?_
  try simp only[Q] at h1p
  refine Walk.call (cr:=[]) zd0 (zfw) rfl .none rfl rfl (LeL.refl _) trivial rfl rfl rfl ?_
  refine ev ?_
  refine rn0 (r2 rfl rfl) (.tup (.cons (.nild ?_) (.cons (.eqd ?_) .nil)))
  rotate_left 2
  try simp only[Q] at h1p
  refine sq (fun h2 h2p h2s=>?_) fun h2 h2p h2s=>?_
  try simp only[Q] at h2p
  refine CWp.regionJ ?_
  refine WRest.join 7 [(23,.d (.bool (decide ((p.ctor=0∧(p.n=0∧p.m=0)∧(p.kids.length:Int)=0)∧0≤p.var∧p.var≤5))))] [17,18,19,20,21,22] ?_ ?_
  refine ev ?_
  refine Walk.call (cr:=[]) zd0 (zfx) rfl .none rfl rfl (LeL.refl _) trivial rfl rfl rfl ?_
  refine ev ?_
  refine sq (fun h3 h3p h3s=>?_) fun h3 h3p h3s=>?_
  try simp only[Q] at h3p
  refine Walk.call (cr:=[]) zkM (zes) rfl (.some rfl rfl h3) rfl rfl (LeL.refl _) trivial rfl rfl rfl ?_
  refine evs [] [(19,true)] ?_ ⟨⟨_,rfl,h3⟩,trivial⟩
  exact jn rfl (LeA.eqb (by(rw[Bool.eq_iff_iff];simp only[decide_eq_true_eq,zaf,Bool.and_eq_true,Bool.false_eq_true,false_iff,true_iff];omega)))
  try simp only[Q] at h3p
  exact jn rfl (LeA.eqb (by(rw[Bool.eq_iff_iff];simp only[decide_eq_true_eq,zaf,Bool.and_eq_true,Bool.false_eq_true,false_iff,true_iff];omega)))
  refine WRest.done ?_
  refine ev ?_
  refine rn0 (r2 rfl rfl) (.tup (.cons (.nild ?_) (.cons (.eqd ?_) .nil)))
  rotate_left 2
  try simp only[Q] at h2p
  refine sq (fun h4 h4p h4s=>?_) fun h4 h4p h4s=>?_
  try simp only[Q] at h4p
  refine sq (fun h5 h5p h5s=>?_) fun h5 h5p h5s=>?_
  try simp only[Q] at h5p
  refine Walk.call (cr:=[]) zd0 (zjY) rfl (.some rfl rfl h5) rfl rfl (LeL.refl _) trivial rfl rfl rfl ?_
  refine evd [] [(29,true)] ?_ ⟨⟨_,rfl,h5⟩,trivial⟩
  refine sq (fun h6 h6p h6s=>?_) fun h6 h6p h6s=>?_
  try simp only[Q] at h6p
  refine sq (fun h7 h7p h7s=>?_) fun h7 h7p h7s=>?_
  try simp only[Q] at h7p
  refine sq (fun h8 h8p h8s=>?_) fun h8 h8p h8s=>?_
  try simp only[Q] at h8p
  refine dr ?_
  refine rn0 (r2 rfl rfl) (.tup (.cons (.nild ?_) (.cons (.eqd ?_) .nil)))
  rotate_left 2
  try simp only[Q] at h8p
  refine dr ?_
  refine rn0 (r2 rfl rfl) (.tup (.cons (.nild ?_) (.cons (.eqd ?_) .nil)))
  rotate_left 2
  try simp only[Q] at h7p
  refine sqF ?_
  refine dr ?_
  refine rn0 (r2 rfl rfl) (.tup (.cons (.nild ?_) (.cons (.eqd ?_) .nil)))
  rotate_left 2
  try simp only[Q] at h6p
  refine sqF ?_
  refine sqF ?_
  refine dr ?_
  refine rn0 (r2 rfl rfl) (.tup (.cons (.nild ?_) (.cons (.eqd ?_) .nil)))
  rotate_left 2
  try simp only[Q] at h5p
  refine sqF ?_
  refine sqF ?_
  refine sqF ?_
  refine dr ?_
  refine rn0 (r2 rfl rfl) (.tup (.cons (.nild ?_) (.cons (.eqd ?_) .nil)))
  rotate_left 2
  try simp only[Q] at h4p
  refine sq (fun h9 h9p h9s=>?_) fun h9 h9p h9s=>?_
  try simp only[Q] at h9p
  refine Walk.call (cr:=[]) zhs (zcV hw ht) rfl .none rfl rfl (LeL.refl _) trivial rfl rfl rfl ?_
  refine evd [] [] ?_
  refine Walk.call (cr:=[]) zkQ (zcx hcl) rfl .none rfl rfl (LeL.refl _) trivial rfl rfl rfl ?_
  refine evd [] [] ?_
  refine dr ?_
  refine sq (fun h10 h10p h10s=>?_) fun h10 h10p h10s=>?_
  try simp only[Q] at h10p
  refine rn0 (r2 rfl rfl) (.tup (.cons (.nild ?_) (.cons (.eqd ?_) .nil)))
  rotate_left 2
  try simp only[Q] at h10p
  exfalso;simp_all
  try simp only[Q] at h9p
  refine sq (fun h11 h11p h11s=>?_) fun h11 h11p h11s=>?_
  try simp only[Q] at h11p
  refine Walk.sliceLit zaS tz33 rfl (by decide) (ks:=[0,1]) (xs:=[_,_]) rfl rfl (by decide) (by decide) .none rfl rfl rfl rfl ?_
  refine evd [] [] ?_
  refine Walk.call (cr:=[]) zd0 (zfw) rfl .none rfl rfl (LeL.refl _) trivial rfl rfl rfl ?_
  refine evd [] [] ?_
  refine dr ?_
  refine rn0 (r2 rfl rfl) (.tup (.cons (.eqd ?_) (.cons (.eqd ?_) .nil)))
  rotate_left 2
  try simp only[Q] at h11p
  refine sq (fun h12 h12p h12s=>?_) fun h12 h12p h12s=>?_
  try simp only[Q] at h12p
  refine Walk.sliceLit zaS tz33 rfl (by decide) (ks:=[0]) (xs:=[_]) rfl rfl (by decide) (by decide) .none rfl rfl rfl rfl ?_
  refine evd [] [] ?_
  refine Walk.call (cr:=[]) zd0 (zfx) rfl .none rfl rfl (LeL.refl _) trivial rfl rfl rfl ?_
  refine evd [] [] ?_
  refine sq (fun h13 h13p h13s=>?_) fun h13 h13p h13s=>?_
  try simp only[Q] at h13p
  refine Walk.call (cr:=[]) zkM (zes) rfl (.some rfl rfl h13) rfl rfl (LeL.refl _) trivial rfl rfl rfl ?_
  refine evd [] [(82,true)] ?_ ⟨⟨_,rfl,h13⟩,trivial⟩
  refine dr ?_
  refine rn0 (r2 rfl rfl) (.tup (.cons (.eqd ?_) (.cons (.eqd ?_) .nil)))
  rotate_left 2
  try simp only[Q] at h13p
  refine dr ?_
  refine rn0 (r2 rfl rfl) (.tup (.cons (.eqd ?_) (.cons (.eqd ?_) .nil)))
  rotate_left 2
  try simp only[Q] at h12p
  refine rn0 (r2 rfl rfl) (.tup (.cons (.nild ?_) (.cons (.eqd ?_) .nil)))
  rotate_left 2
  all_goals (first|(refine congrArg D.bool (okI _ ?_);(try simp only[decide_eq_true_eq,Bool.false_eq_true,zaf,Bool.and_eq_true,List.length_map,true_iff,false_iff]);omega)|(rw[ty0 (by omega) (by omega) (by omega)];first|done|rfl)|(rw[ty5 (by omega)];first|done|rfl)|(rw[ty6 (by omega)];first|done|rfl)|(rw[ty4 (by omega) hmem];first|done|rfl))
theorem zrx {t u:Vt}:t=u↔t.var=u.var∧t.ty.data=u.ty.data∧t.ty.index=u.ty.index:=by
 rcases t with ⟨a,b,c⟩;rcases u with ⟨d,e,f⟩;simp
def zp7 (l:List Vt) (v:Vt):Int:=idxF (fun x=>decide (v=x)) l 0
theorem zje {l:List Vt}{v:Vt} (h:l.length≤1000000000000):FnD Tryz.prog 206 [.d (zbP l),.agg [.d (.i v.var),.d (.i v.ty.data),.d (.i v.ty.index)]] [] (.d (.i (zp7 l v))) []:=by
 refine bd Tryz.f206 19 [16] [] fun w0 F0 own kept hk=>?_
 refine Walk.box (id:=3003) .none rfl rfl rfl rfl rfl rfl rfl ?_
 refine evs [16] [] ?_
 refine CWp.loopX (ι:=List (Vt)×List (Vt)) hk (fun x=>[(8,.d (.i (x.1.length:Int)))]) [4,5,9,10,11,12,13,14,15,16,17,18] (fun x=>[]) (fun x=>x.1++x.2=l∧idxF (fun x=>decide (v=x)) x.2 x.1.length=idxF (fun x=>decide (v=x)) l 0) (fun x=>x.2.length) ([],l) ⟨by simp,rfl⟩ ⟨⟨_,rfl,(LeA.eqi (by first|rfl|(simp;done)|(simp_all;done)|omega))⟩,trivial⟩ trivial (fun x=>rfl) (fun x hg1=>?_)
 obtain⟨pre,rest⟩:=x
 dsimp only at hg1 ⊢
 refine evc [16] [] ?_
 refine sq (fun h1 h1p h1s=>?_) fun h1 h1p h1s=>?_
 try simp only[Q] at h1p
 rcases rest with _|⟨y,rest⟩
 ·exfalso;simp_all
 refine Walk.idx zcQ .none rfl rfl rfl rfl (zaG hg1.1) rfl ?_
 refine evd [16] [] ?_
 refine Walk.eqV2 zu0 .none rfl rfl rfl rfl rfl ?_
 refine dr ?_
 refine sq (fun h2 h2p h2s=>?_) fun h2 h2p h2s=>?_
 try simp only[Q] at h2p
 refine rn0 (r1 rfl) (.eqd ?_)
 rotate_left
 try simp only[Q] at h2p
 refine ar ?_
 refine Exists.intro ((pre++[y],rest)) ⟨⟨(by have hz:=hg1.1;rw[←hz];simp),(by rw[←hg1.2];simp[idxF];simp_all[zrx])⟩,(by simp),Sub.x (by kernel_rfl) (by kernel_rfl) ⟨⟨_,rfl,(LeA.eqi (by first|rfl|(simp;done)|(simp_all;done)|omega))⟩,trivial⟩ (by kernel_rfl) (by kernel_rfl) trivial⟩
 try simp only[Q] at h1p
 have hrest:rest=[]:=by
  rcases rest with _|⟨a,b⟩
  ·rfl
  ·exfalso;have hz:=congrArg List.length (hg1.1);simp only[List.length_append,List.length_cons,List.length_map] at hz;omega
 subst hrest
 refine rn0 (r1 rfl) (.eqd ?_)
 rotate_left
 all_goals (unfold zp7;rw[←hg1.2];simp_all[idxF,zrx])
theorem zeM {l:List Vt}{v:Vt} (h:l.length≤1000000000000):FnD Tryz.prog 177 [.d (zbP l),.agg [.d (.i v.var),.d (.i v.ty.data),.d (.i v.ty.index)]] [] (.d (.bool (decide (v∈l)))) []:=by
 refine bd Tryz.f177 9 [] [] fun w0 F0 own kept hk=>?_
 refine Walk.box (id:=3003) .none rfl rfl rfl rfl rfl rfl rfl ?_
 refine ev ?_
 refine Walk.call (cr:=[]) ztC (zje h) rfl .none rfl rfl (LeL.refl _) trivial rfl rfl rfl ?_
 refine ev ?_
 refine rn0 (r1 rfl) (.eqd ?_)
 rotate_left
 all_goals (refine congrArg D.bool ?_;rw[show zp7 l v=idxF (fun x=>decide (v=x)) l 0 from rfl,zd1];simp[List.any_eq,eq_comm])
theorem zeq {xs:List Vt}{f:Nat}{caps:List AV}{hp:Hp}{p:Vt→Bool} (hs:xs.length≤1000000000000) (hcal:Callee Tryz.prog f)
  (hf:∀t∈xs,FnD Tryz.prog f ([.agg [.d (.i t.var),.d (.i t.ty.data),.d (.i t.ty.index)]]++caps) hp (.d (.bool (p t))) []) (k1:subH hp hp) (k2:zdF hp=true) (k3:zbg hp [] (.d .nilp) []=true):
  FnD Tryz.prog 227 [.d (zbP xs),.fn f caps] hp (.d (.i (idxF p xs 0))) []:=by
 refine bd Tryz.f227 19 [] [] fun w0 F0 own kept hk=>?_
 refine CWp.loopX (ι:=List (Vt)×List (Vt)) hk (fun x=>[(8,.d (.i (x.1.length:Int)))]) [4,5,9,10,11,12,13,14,15,16,17,18] (fun x=>[]) (fun x=>x.1++x.2=xs∧idxF p x.2 x.1.length=idxF p xs 0) (fun x=>x.2.length) ([],xs) ⟨by simp,rfl⟩ ⟨⟨_,rfl,(LeA.eqi (by first|rfl|(simp;done)|(simp_all;done)|omega))⟩,trivial⟩ trivial (fun x=>zeO hp) (fun x hg1=>?_)
 obtain⟨pre,rest⟩:=x
 dsimp only at hg1 ⊢
 refine evc [] [] ?_
 refine sq (fun h1 h1p h1s=>?_) fun h1 h1p h1s=>?_
 try simp only[Q] at h1p
 rcases rest with _|⟨y,rest⟩
 ·exfalso;simp_all
 refine Walk.idx zcQ .none rfl rfl rfl rfl (zaG hg1.1) rfl ?_
 refine ev ?_
 refine Walk.callV (cr:=[]) hcal (hf y (by rw[←hg1.1];simp)) rfl .none rfl rfl rfl (LeL.refl _) k1 k2 (zcr k3 _) rfl ?_
 refine tv ?_
 refine sq (fun h2 h2p h2s=>?_) fun h2 h2p h2s=>?_
 try simp only[Q] at h2p
 focus (refine rn [] (r1 rfl) (.eqd ?_) ⟨rfl,rfl⟩ (fun _ _ h=>h) (fun _ h=>h);all_goals (rw[←hg1.2];simp[idxF,h1s,h1p,h2s,h2p]))
 try simp only[Q] at h2p
 refine ar ?_
 refine Exists.intro ((pre++[y],rest)) ⟨⟨(by have hz:=hg1.1;rw[←hz];simp),(by rw[←hg1.2];simp[idxF,h2s])⟩,(by simp),Sub.x (by kernel_rfl) (by kernel_rfl) ⟨⟨_,rfl,(LeA.eqi (by first|rfl|(simp;done)|(simp_all;done)|omega))⟩,trivial⟩ (by simp) (by simp[zds]) trivial⟩
 try simp only[Q] at h1p
 have hrest:rest=[]:=by
  rcases rest with _|⟨a,b⟩
  ·rfl
  ·exfalso;have hz:=congrArg List.length (hg1.1);simp only[List.length_append,List.length_cons,List.length_map] at hz;omega
 subst hrest
 focus (refine rn [] (r1 rfl) (.eqd ?_) ⟨rfl,rfl⟩ (fun _ _ h=>h) (fun _ h=>h);all_goals (rw[←hg1.2];simp[idxF,h1s,h1p]))
theorem zgj {xs:List Vt}{f:Nat}{caps:List AV}{hp:Hp}{p:Vt→Bool} (hs:xs.length≤1000000000000) (hcal:Callee Tryz.prog f)
  (hf:∀t∈xs,FnD Tryz.prog f ([.agg [.d (.i t.var),.d (.i t.ty.data),.d (.i t.ty.index)]]++caps) hp (.d (.bool (p t))) []) (k1:subH hp hp) (k2:zdF hp=true) (k3:zbg hp [] (.d .nilp) []=true):
  FnD Tryz.prog 224 [.d (zbP xs),.fn f caps] hp (.d (.bool (xs.any p))) []:=by
 refine bd Tryz.f224 9 [] [] fun w0 F0 own kept hk=>?_
 refine Walk.call (cr:=[]) zqM (zeq hs hcal hf k1 k2 k3) rfl .none rfl rfl (LeL.refl _) k1 k2 (zcr k3 _) rfl ?_
 refine ev ?_
 refine rn [] (r1 rfl) (.eqd ?_) ⟨rfl,rfl⟩ (fun _ _ h=>h) (fun _ h=>h)
 rotate_left
 all_goals (exact congrArg D.bool (zd1 p xs 0))
theorem ziT {b:List Vt}{v:Vt} (h:b.length≤1000000000000):FnD Tryz.prog 225 [.agg [.d (.i v.var),.d (.i v.ty.data),.d (.i v.ty.index)],.ref 3003 0] [(3003,some (.box [.d (zbP b)]))] (.d (.bool (!decide (v∈b)))) []:=by
 refine bd Tryz.f225 8 [] [] fun w0 F0 own kept hk=>?_
 refine Walk.box (id:=3001) .none rfl rfl rfl rfl rfl rfl rfl ?_
 refine ev ?_
 refine Walk.call (cr:=[]) zqC (zeM h) rfl .none rfl rfl (LeL.refl _) trivial rfl rfl rfl ?_
 refine ev ?_
 refine rn [] (r1 rfl) (.eqd ?_) ⟨rfl,rfl⟩ (SubH.get ⟨rfl,trivial⟩) (fun _ h=>h)
 rotate_left
 all_goals (rfl)
theorem zgH {x y:List Vt} (hx:x.length≤1000000000000) (hy:y.length≤1000000000000):FnD Tryz.prog 205 [.d (zbP x),.d (zbP y)] [] (.d (.bool (zd6 x y))) []:=by
 refine bd Tryz.f205 16 [] [] fun w0 F0 own kept hk=>?_
 refine Walk.box (id:=3003) .none rfl rfl rfl rfl rfl rfl rfl ?_
 refine ev ?_
 refine sq (fun h1 h1p h1s=>?_) fun h1 h1p h1s=>?_
 try simp only[Q] at h1p
 refine Walk.closure (xs:=[_]) rfl (.some rfl rfl h1) rfl rfl ?_
 refine Walk.call (cr:=[]) ztE (zgj (p:=fun v=> !decide (v∈y)) hx ztF (fun t _=>ziT hy) ⟨rfl,trivial⟩ rfl rfl) rfl (.some rfl rfl h1) rfl rfl (LeL.refl _) ⟨rfl,trivial⟩ rfl rfl rfl ?_
 refine evs [] [(10,true)] ?_ ⟨⟨_,rfl,h1⟩,trivial⟩
 refine rn0 (r1 rfl) (.eqd ?_)
 rotate_left
 try simp only[Q] at h1p
 refine rn0 (r1 rfl) (.eqd ?_)
 rotate_left
 all_goals (refine congrArg D.bool ?_;unfold zd6;first|(simp_all;done)|(simp_all;intro hz;omega))
def metA (s:List Int):List AV:=(List.range 6).map fun(i:Nat)=> .d (.bool (decide ((i:Int)∈s)))
theorem zoD {s:List Int}{v:Int} (h0:0≤v) (h1:v≤5):(metA s)[v.toNat]?=some (.d (.bool (decide (v∈s)))):=by
 unfold metA
 rw[List.getElem?_map,List.getElem?_range (by omega)]
 simp only[Option.map_some]
 rw[Int.toNat_of_nonneg h0]
theorem zoE {s:List Int}{v:Int} (h0:0≤v) (h1:v≤5):putC (metA s) v.toNat [.d (.bool true)]=some (metA (s++[v])):=by
 have e:v=0∨v=1∨v=2∨v=3∨v=4∨v=5:=by omega
 rcases e with rfl|rfl|rfl|rfl|rfl|rfl<;>simp[metA,putC,List.range_succ]
theorem zrb (t:Ty) (p:Pat):(zaA t p).length≤1:=by unfold zaA;split<;>simp
theorem zni:∀ {a b:List Int},a.Nodup→(∀x∈a,x∈b)→a.length≤b.length
 | [],b,_,_=>by simp
 |x::r,b,hn,hs=>by
  have hn':=List.nodup_cons.1 hn
  have hx:=hs x (by simp)
  have h:=zni (a:=r) (b:=b.erase x) hn'.2 (fun y hy=>by
   have hne:y≠x:=fun e=>hn'.1 (e ▸ hy)
   exact(List.mem_erase_of_ne hne).2 (hs y (by simp[hy])))
  rw[List.length_erase_of_mem hx] at h
  have:=List.length_pos_of_mem hx
  simp only[List.length_cons];omega
def InR (l:List Vt):Prop:=∀v∈l,0≤v.var∧v.var≤5
theorem zrd {l:List Vt} (h:InR l) (hn:zcK l=true):l.length≤6:=by
 unfold zcK at hn
 have h1:=of_decide_eq_true hn
 have h2:∀x∈l.map Vt.var,x∈[(0:Int),1,2,3,4,5]:=fun x hx=>by
  obtain⟨v,hv,rfl⟩:=List.mem_map.1 hx
  have:=h v hv
  simp only[List.mem_cons,List.not_mem_nil,or_false];omega
 have:=zni h1 h2
 simpa using this
theorem zku {g:Ty→Pat→Int→Option (List Vt)×Int}{or:Bool} (hg:∀t p c l,(g t p c).1=some l→InR l):∀(a:List Ty) (b:List Pat) (i:Nat) (acc:List Vt) (c:Int) (l:List Vt),InR acc→(zbw g or a b i acc c).1=some l→InR l
 | [],b,i,acc,c,l,ha,h=>by simp only[zbw,Option.some.injEq] at h;subst h;exact ha
 |_::_,[],i,acc,c,l,ha,h=>by simp only[zbw,Option.some.injEq] at h;subst h;exact ha
 |x::r,y::s,i,acc,c,l,ha,h=>by
  simp only[zbw] at h
  cases hh:(g x y c).1 with
  |none=>rw[hh] at h;cases h
  |some m=>
   rw[hh] at h
   simp only at h
   split at h
   ·split at h
    ·exact zku hg r s (i+1) acc _ l ha h
    ·cases h
   ·refine zku hg r s (i+1) _ _ l (fun v hv=>?_) h
    rcases List.mem_append.1 hv with hv|hv
    ·exact ha v hv
    ·exact hg x y c m hh v hv
theorem zoV (w:List Data):∀(n:Nat) (t:Ty) (p:Pat) (c:Int) (l:List Vt),(zaR w n t p c).1=some l→InR l∧zcK l=true
 |0,t,p,c,l,h=>by simp[zaR] at h
 |n+1,t,p,c,l,h=>by
  unfold zaR at h
  split at h
  ·cases h
  ·split at h
   ·rename_i h60 ho
    have ho':ownP w t p=true:=by unfold okP at ho;simp only[Bool.and_eq_true] at ho;exact ho.1
    cases hk:(zbw (zaR w n) (decide (p.op=5)) (zac w t p) p.kids 0 (zaA t p) (c+1)).1 with
    |none=>unfold finV at h;rw[hk] at h;simp only at h;rw[hk] at h;cases h
    |some m=>
     have hi:InR m:=zku (fun t p c l h=>(zoV w n t p c l h).1) _ _ _ _ _ m (fun v hv=>by
      unfold zaA at hv
      split at hv
      ·rename_i hop
       simp only[List.mem_cons,List.not_mem_nil,or_false] at hv
       subst hv
       exact zoI ho' hop
      ·simp at hv) hk
     unfold finV at h
     rw[hk] at h
     simp only at h
     split at h
     ·rename_i hn
      rw[hk] at h
      cases h
      exact⟨hi,hn⟩
     ·cases h
   ·cases h
theorem zrT (w:List Data) (n:Nat) (t:Ty) (p:Pat) (c:Int) (h:(zaR w n t p c).1.isSome=true):c+1≤(zaR w n t p c).2∧(zaR w n t p c).2≤60:=by
 have h1:=zfm w n t p c
 by_cases hw:zb0 w n t p c=true
 ·have h2:=h1.2 hw
  simp only[zb0,Bool.and_eq_true,decide_eq_true_eq] at hw
  have:=Pat.size_eq p
  omega
 ·rw[if_neg hw] at h1;rw[h1.1] at h;cases h
def zdq (o:Option (List Vt)):List Vt:=o.getD []
theorem zqf {g:Ty→Pat→Int→Option (List Vt)×Int}{or:Bool}{a:List Ty}{b:List Pat}{i:Nat}{acc:List Vt}{c:Int} (ha:i<a.length) (hl:b.length=a.length) (h:(g (nth a i) (nth b i) c).1.isSome=false):
  zbw g or (a.drop i) (b.drop i) i acc c=(none,(g (nth a i) (nth b i) c).2):=by
 rw[zaP ha,zaP (l:=b) (by omega),zbw]
 cases hh:(g (nth a i) (nth b i) c).1 with
 |none=>rfl
 |some l=>rw[hh] at h;cases h
theorem zrl {g:Ty→Pat→Int→Option (List Vt)×Int}{or:Bool}{a:List Ty}{b:List Pat}{i:Nat}{acc:List Vt}{c:Int} (ha:i<a.length) (hl:b.length=a.length) (h:(g (nth a i) (nth b i) c).1.isSome=true) (ho:or=true∧i=1) (hs:zd6 acc (zdq (g (nth a i) (nth b i) c).1)=false):
  zbw g or (a.drop i) (b.drop i) i acc c=(none,(g (nth a i) (nth b i) c).2):=by
 rw[zaP ha,zaP (l:=b) (by omega),zbw]
 cases hh:(g (nth a i) (nth b i) c).1 with
 |none=>rfl
 |some l=>rw[hh] at hs;simp only[zdq,Option.getD_some] at hs;simp only[if_pos ho,hs,Bool.false_eq_true,if_false]
theorem zqe {g:Ty→Pat→Int→Option (List Vt)×Int}{or:Bool}{a:List Ty}{b:List Pat}{i:Nat}{acc:List Vt}{c:Int} (ha:i<a.length) (hl:b.length=a.length) (h:(g (nth a i) (nth b i) c).1.isSome=true) (hs:(or=true∧i=1)→zd6 acc (zdq (g (nth a i) (nth b i) c).1)=true):
  zbw g or (a.drop i) (b.drop i) i acc c=zbw g or (a.drop (i+1)) (b.drop (i+1)) (i+1) (if or=true∧i=1 then acc else acc++zdq (g (nth a i) (nth b i) c).1) (g (nth a i) (nth b i) c).2:=by
 rw[zaP ha,zaP (l:=b) (by omega),zbw]
 cases hh:(g (nth a i) (nth b i) c).1 with
 |none=>rw[hh] at h;cases h
 |some l=>
  by_cases ho:or=true∧i=1
  ·have:=hs ho;rw[hh] at this;simp only[zdq,Option.getD_some] at this
   simp only[if_pos ho,this,if_true]
  ·simp only[if_neg ho,zdq,Option.getD_some]
theorem zrm {g:Ty→Pat→Int→Option (List Vt)×Int}{or:Bool}{a:List Ty}{b:List Pat}{i:Nat}{acc:List Vt}{c:Int} (ha:a.length≤i):zbw g or (a.drop i) (b.drop i) i acc c=(some acc,c):=by
 rw[List.drop_eq_nil_of_le ha,zbw]
 intro a r b s h;cases h
theorem zdi (w:List Data) (n:Nat) (t:Ty) (p:Pat) (c:Int):InR (zdq (zaR w n t p c).1)∧(zdq (zaR w n t p c).1).length≤6:=by
 cases h:(zaR w n t p c).1 with
 |none=>exact⟨fun v hv=>by simp[zdq] at hv,by simp[zdq]⟩
 |some l=>
  have:=zoV w n t p c l h
  exact⟨this.1,zrd this.1 this.2⟩
structure GoodS (w:List Data) (n:Nat) (t:Ty) (p:Pat) (c:Int) (x:Nat×List Vt×Int):Prop where
 le:x.1≤p.kids.length
 eq:zbw (zaR w n) (decide (p.op=5)) ((zac w t p).drop x.1) (p.kids.drop x.1) x.1 x.2.1 x.2.2=zbw (zaR w n) (decide (p.op=5)) (zac w t p) p.kids 0 (zaA t p) (c+1)
 lc:(x.1:Int)≤x.2.2
 c0:0≤x.2.2
 c1:x.2.2≤60
 len:x.2.1.length≤1+6*x.1
 inr:InR x.2.1
def za2 (w:List Data) (n:Nat) (t:Ty) (p:Pat) (x:Nat×List Vt×Int):Nat×List Vt×Int:=
 (x.1+1,if decide (p.op=5)=true∧x.1=1 then x.2.1 else x.2.1++zdq (zaR w n (nth (zac w t p) x.1) (nth p.kids x.1) x.2.2).1,(zaR w n (nth (zac w t p) x.1) (nth p.kids x.1) x.2.2).2)
theorem GoodS.next {w:List Data}{n:Nat}{t:Ty}{p:Pat}{c:Int}{x:Nat×List Vt×Int} (hl:p.kids.length=(zac w t p).length) (hg:GoodS w n t p c x) (hlt:x.1<p.kids.length)
  (hz:(zaR w n (nth (zac w t p) x.1) (nth p.kids x.1) x.2.2).1.isSome=true) (hs:(decide (p.op=5)=true∧x.1=1)→zd6 x.2.1 (zdq (zaR w n (nth (zac w t p) x.1) (nth p.kids x.1) x.2.2).1)=true):
  GoodS w n t p c (za2 w n t p x):=by
 obtain⟨h1,h2,h3,h4,h5,h6,h7⟩:=hg
 have hb:=zrT w n _ _ _ hz
 have ho:=zdi w n (nth (zac w t p) x.1) (nth p.kids x.1) x.2.2
 refine⟨by unfold za2;dsimp only;omega, ?_,by unfold za2;dsimp only;omega,by unfold za2;dsimp only;omega,by unfold za2;dsimp only;omega, ?_, ?_⟩
 ·rw[←h2,zqe (by omega) hl hz hs];rfl
 ·unfold za2;dsimp only
  split
  ·omega
  ·rw[List.length_append];omega
 ·unfold za2;dsimp only
  split
  ·exact h7
  ·intro v hv
   rcases List.mem_append.1 hv with hv|hv
   ·exact h7 v hv
   ·exact ho.1 v hv
theorem GoodS.none {w:List Data}{n:Nat}{t:Ty}{p:Pat}{c:Int}{x:Nat×List Vt×Int} (hl:p.kids.length=(zac w t p).length) (hg:GoodS w n t p c x) (hlt:x.1<p.kids.length)
  (hz:(zaR w n (nth (zac w t p) x.1) (nth p.kids x.1) x.2.2).1.isSome=false):
  finV (zbw (zaR w n) (decide (p.op=5)) (zac w t p) p.kids 0 (zaA t p) (c+1))=(none,(zaR w n (nth (zac w t p) x.1) (nth p.kids x.1) x.2.2).2):=by
 rw[←hg.eq,zqf (by omega) hl hz];rfl
theorem GoodS.bad {w:List Data}{n:Nat}{t:Ty}{p:Pat}{c:Int}{x:Nat×List Vt×Int} (hl:p.kids.length=(zac w t p).length) (hg:GoodS w n t p c x) (hlt:x.1<p.kids.length)
  (hz:(zaR w n (nth (zac w t p) x.1) (nth p.kids x.1) x.2.2).1.isSome=true) (ho:p.op=5∧x.1=1) (hs:zd6 x.2.1 (zdq (zaR w n (nth (zac w t p) x.1) (nth p.kids x.1) x.2.2).1)=false):
  finV (zbw (zaR w n) (decide (p.op=5)) (zac w t p) p.kids 0 (zaA t p) (c+1))=(Option.none,(zaR w n (nth (zac w t p) x.1) (nth p.kids x.1) x.2.2).2):=by
 rw[←hg.eq,zrl (by omega) hl hz (by simpa using ho) hs];rfl
theorem GoodS.fin {w:List Data}{n:Nat}{t:Ty}{p:Pat}{c:Int}{x:Nat×List Vt×Int} (hl:p.kids.length=(zac w t p).length) (hg:GoodS w n t p c x) (hge:p.kids.length≤x.1):
  finV (zbw (zaR w n) (decide (p.op=5)) (zac w t p) p.kids 0 (zaA t p) (c+1))=(if zcK x.2.1=true then some x.2.1 else Option.none,x.2.2):=by
 rw[←hg.eq,zrm (by omega)]
 unfold finV
 simp only
 split<;>rfl
theorem zrc {pre rest l:List Vt}{y:Vt} (h:pre++y::rest=l) (hm:y.var∈pre.map Vt.var):zcK l=false:=by
 unfold zcK
 refine decide_eq_false (fun hn=>?_)
 rw[←h,List.map_append,List.map_cons,List.nodup_append] at hn
 exact hn.2.2 _ hm _ (by simp) rfl
theorem zlF {pre:List Vt}{y:Vt} (h:(pre.map Vt.var).Nodup) (hm:y.var∉pre.map Vt.var):((pre++[y]).map Vt.var).Nodup:=by
 rw[List.map_append,List.nodup_append]
 exact⟨h,by simp,fun a ha b hb=>by simp at hb;subst hb;exact fun e=>hm (e ▸ ha)⟩
def retV (r:Option (List Vt)×Int):AV:= .tup [.d (zbP (zdq r.1)),.d (.bool r.1.isSome)]
theorem zdT {w:List Data} (hw:WT w):∀(n:Nat){a k d c:Int}{p:Pat},d+n=11→n≤10→TyIn w.length ⟨a,k⟩→p.ok→0≤c→c≤1000000000000→
  FnD Tryz.prog 176 [.d (zak w),.agg [.d (.i a),.d (.i k)],.agg [.d (.i p.op),.d (.i p.ctor),.d (.i p.n),.d (.i p.m),.d (.i p.var),.d (zad p.kids)],.d (.i d),.ref 950 0] [(950,some (.box [.d (.i c)]))]
   (retV (zaR w n ⟨a,k⟩ p c)) [(950,some (.box [.d (.i (zaR w n ⟨a,k⟩ p c).2)]))]
 |0,a,k,d,c,p,hd,_,_,_,c0,c1=>by
  refine bd Tryz.f176 114 [] [2] fun w0 F0 own kept hk=>?_
  refine Walk.box (id:=3006) .none rfl rfl rfl rfl rfl rfl rfl ?_
  refine Walk.box (id:=3007) .none rfl rfl rfl rfl rfl rfl rfl ?_
  refine ev ?_
  refine ar ?_
  refine Walk.store ty3 .none rfl rfl rfl rfl rfl rfl (by simp) rfl ?_
  refine tv ?_
  refine CWp.regionJ ?_
  refine WRest.join 8 [(34,.d (.bool (true)))] [27,28,29,30,31,32,33] ?_ ?_
  refine ev ?_
  refine sq (fun h1 h1p h1s=>?_) fun h1 h1p h1s=>?_
  try simp only[Q] at h1p
  exact jnb rfl
  try simp only[Q] at h1p
  exact jnb rfl
  refine WRest.done ?_
  refine tv ?_
  refine sq (fun h2 h2p h2s=>?_) fun h2 h2p h2s=>?_
  try simp only[Q] at h2p
  refine rn [(950,some (.box [.d (.i (zaR w 0 ⟨a,k⟩ p c).2)]))] (r2 rfl rfl) (.tup (.cons (.nild ?_) (.cons (.eqd ?_) .nil))) ⟨rfl,rfl⟩ (SubO.get ⟨.inr ?_,⟨.inl rfl,trivial⟩⟩) (zbv rfl)
  rotate_left 3
  try simp only[Q] at h2p
  exact absurd h2 (by simp)
  all_goals (first|((rfl);done)|(rfl))
 |n+1,a,k,d,c,p,hd,hn,ht,hok,c0,c1=>by
  by_cases h60:60<c+1
  ·have e:zaR w (n+1) ⟨a,k⟩ p c=(none,c+1):=by unfold zaR;rw[if_pos h60]
   rw[e]
   refine bd Tryz.f176 114 [] [2] fun w0 F0 own kept hk=>?_
   refine Walk.box (id:=3006) .none rfl rfl rfl rfl rfl rfl rfl ?_
   refine Walk.box (id:=3007) .none rfl rfl rfl rfl rfl rfl rfl ?_
   refine ev ?_
   refine ar ?_
   refine Walk.store ty3 .none rfl rfl rfl rfl rfl rfl (by simp) rfl ?_
   refine tv ?_
   refine CWp.regionJ ?_
   refine WRest.join 8 [(34,.d (.bool (true)))] [27,28,29,30,31,32,33] ?_ ?_
   refine ev ?_
   refine sq (fun h1 h1p h1s=>?_) fun h1 h1p h1s=>?_
   try simp only[Q] at h1p
   exact jnb rfl
   try simp only[Q] at h1p
   exact jnb rfl
   refine WRest.done ?_
   refine tv ?_
   refine sq (fun h2 h2p h2s=>?_) fun h2 h2p h2s=>?_
   try simp only[Q] at h2p
   refine rn [(950,some (.box [.d (.i (c+1))]))] (r2 rfl rfl) (.tup (.cons (.nild ?_) (.cons (.eqd ?_) .nil))) ⟨rfl,rfl⟩ (SubO.get ⟨.inr ?_,⟨.inl rfl,trivial⟩⟩) (zbv rfl)
   rotate_left 3
   try simp only[Q] at h2p
   exact absurd h2 (by simp)
   all_goals (first|((rfl);done)|(rfl))
  have hsh:=zim hw (p:=p) ht
  by_cases hop:okP w ⟨a,k⟩ p=true
  ·have hok':=hok
   rw[Pat.ok_iff] at hok
   have hop':=hop
   unfold okP at hop'
   simp only[Bool.and_eq_true,decide_eq_true_eq] at hop'
   obtain⟨ho,hl⟩:=hop'
   have hin:=zfN hw ht ho
   have hlen:=zgn hw ht (zcs ho)
   have hst:zcL w ⟨a,k⟩ p=zac w ⟨a,k⟩ p:=by unfold zcL;rw[if_neg (fun h=>h.2 (zcs ho h.1))]
   rw[hst,hop] at hsh
   have e:zaR w (n+1) ⟨a,k⟩ p c=finV (zbw (zaR w n) (decide (p.op=5)) (zac w ⟨a,k⟩ p) p.kids 0 (zaA ⟨a,k⟩ p) (c+1)):=by
    conv=>lhs;unfold zaR
    rw[if_neg h60,if_pos hop]
   have hnr:InR (zaA ⟨a,k⟩ p):=fun v hv=>by
    unfold zaA at hv
    split at hv
    ·rename_i hop
     simp only[List.mem_cons,List.not_mem_nil,or_false] at hv
     subst hv
     exact zoI ho hop
    ·simp at hv
   have hnl:=zrb ⟨a,k⟩ p
   rw[e]
   refine bd Tryz.f176 114 [14,108] [2,8,17] fun w0 F0 own kept hk=>?_
   refine Walk.box (id:=3006) .none rfl rfl rfl rfl rfl rfl rfl ?_
   refine Walk.box (id:=3007) .none rfl rfl rfl rfl rfl rfl rfl ?_
   refine evs [14,108] [] ?_
   refine ar ?_
   refine Walk.store ty3 .none rfl rfl rfl rfl rfl rfl (by simp) rfl ?_
   refine tv ?_
   refine CWp.regionJ ?_
   refine WRest.join 8 [(34,.d (.bool (false)))] [27,28,29,30,31,32,33] ?_ ?_
   refine evs [14,108] [] ?_
   refine sq (fun h1 h1p h1s=>?_) fun h1 h1p h1s=>?_
   try simp only[Q,Pat.cs_len] at h1p
   exact jnb rfl
   try simp only[Q,Pat.cs_len] at h1p
   exact jnb rfl
   refine WRest.done ?_
   refine tv ?_
   refine sq (fun h2 h2p h2s=>?_) fun h2 h2p h2s=>?_
   try simp only[Q,Pat.cs_len] at h2p
   exact absurd h2 (by simp)
   try simp only[Q,Pat.cs_len] at h2p
   refine Walk.call (cr:=[]) zod (hsh) rfl .none rfl rfl (LeL.refl _) trivial rfl rfl rfl ?_
   refine evs [14,108] [] ?_
   refine sq (fun h3 h3p h3s=>?_) fun h3 h3p h3s=>?_
   try simp only[Q,Pat.cs_len] at h3p
   exact absurd h3 (by simp)
   try simp only[Q,Pat.cs_len] at h3p
   refine Walk.assignNil 5 3 .none rfl rfl ?_
   refine tv ?_
   refine CWp.regionJ ?_
   refine WRest.join 8 [(51,.d (.bool (decide (p.op=2∨p.op=6))))] [44,45,46,47,48,49,50] ?_ ?_
   refine evs [14,108] [] ?_
   refine sq (fun h4 h4p h4s=>?_) fun h4 h4p h4s=>?_
   try simp only[Q,Pat.cs_len] at h4p
   exact jnb rfl
   try simp only[Q,Pat.cs_len] at h4p
   exact jnb rfl
   refine WRest.done ?_
   refine tv ?_
   refine sq (fun h5 h5p h5s=>?_) fun h5 h5p h5s=>?_
   try simp only[Q,Pat.cs_len] at h5p
   refine Walk.build zqi (ks:=[0,1]) (xs:=[_,_]) rfl rfl .none rfl rfl rfl ?_
   refine Walk.sliceLit zcQ znW rfl (by decide) (ks:=[0]) (xs:=[_]) rfl rfl (by decide) (by decide) .none rfl rfl rfl rfl ?_
   refine Walk.append zcQ znX rfl .none rfl rfl rfl rfl (zaz rfl (by first|rfl|(simp;done)|(simp;omega))) (by simp) (by first|(simp;done)|(simp;omega)|(have hz:=(zdi w n ⟨(nth (zac w ⟨a,k⟩ p) z.1).data,(nth (zac w ⟨a,k⟩ p) z.1).index⟩ (nth p.kids z.1) z.2.2).2;simp;omega)) (by first|(simp;done)|(simp;omega)|(have hz:=(zdi w n ⟨(nth (zac w ⟨a,k⟩ p) z.1).data,(nth (zac w ⟨a,k⟩ p) z.1).index⟩ (nth p.kids z.1) z.2.2).2;simp;omega)) ?_
   refine asg ?_
   refine tv ?_
   refine CWp.loopX (ι:=Nat×List Vt×Int) hk (fun z=>[(62,.d (.i (z.1:Int))),(14,.gl 5 (z.2.1.map Vt.c))]) [10,11,15,16,17,18,63,64,65,66,67,68,69,70,71,72,73,74,75,76,77,78,79,80,81,82,83,84,85,86,87,88,89,90,91,92,93,94,95,96,97,98] (fun z=>[(950,some (.box [.d (.i z.2.2)])),(5,some (.tok ((z.2.1.map Vt.c)).length 3))]) (fun z=>GoodS w n ⟨a,k⟩ p c z) (fun z=>p.kids.length-z.1) (0,zaA ⟨a,k⟩ p,c+1) ⟨by simp,by simp,by dsimp only;omega,by dsimp only;omega,by dsimp only;omega,by dsimp only;omega,hnr⟩ ⟨⟨_,rfl,(LeA.eqi (by first|rfl|(simp;done)|(dsimp only;omega)|(simp_all[zaA];done)|(unfold za2;dsimp only;rw[if_neg (by simp_all)];simp;done)|(unfold za2;dsimp only;rw[if_pos (by simp_all)];done)))⟩,⟨⟨_,rfl,(LeA.glg (by first|rfl|(simp;done)|(dsimp only;omega)|(simp_all[zaA];done)|(unfold za2;dsimp only;rw[if_neg (by simp_all)];simp;done)|(unfold za2;dsimp only;rw[if_pos (by simp_all)];done)))⟩,trivial⟩⟩ ⟨(by first|rfl|(simp[getH];done)),⟨zab (by first|rfl|(simp;done)|(simp;omega)|(first|rfl|(simp;done)|(dsimp only;omega)|(simp_all[zaA];done)|(unfold za2;dsimp only;rw[if_neg (by simp_all)];simp;done)|(unfold za2;dsimp only;rw[if_pos (by simp_all)];done))),trivial⟩⟩ (fun x=>rfl) (fun z hg1=>?_)
   obtain⟨s1,_,s3,s4,s5,s6,s7⟩:=id hg1
   refine evc [14,108] [2,8,17] ?_
   refine sq (fun h6 h6p h6s=>?_) fun h6 h6p h6s=>?_
   try simp only[Q,Pat.cs_len] at h6p
   refine Walk.idx sl28 .none rfl rfl rfl rfl (zaC (by omega)) rfl ?_
   refine evs [14,108] [] ?_
   refine Walk.alloc (id:=3016) tz77 rfl .none rfl rfl rfl rfl ?_
   refine evs [14,108] [] ?_
   refine Walk.store ty77 .none rfl rfl rfl rfl rfl rfl (by simp) rfl ?_
   refine tv ?_
   refine Walk.idx zaS .none rfl rfl rfl rfl (zam (by omega)) rfl ?_
   refine evd [14,108] [] ?_
   refine ar ?_
   refine Walk.call (cr:=[]) zob (zdT hw n (a:=(nth (zac w ⟨a,k⟩ p) z.1).data) (k:=(nth (zac w ⟨a,k⟩ p) z.1).index) (c:=z.2.2) (p:=nth p.kids z.1) (by omega) (by omega) (hin _ (zae (by omega))) (Pats.ok_mem hok.2 _ (zae (by omega))) (by omega) (by omega)) rfl .none rfl rfl (LeL.refl _) ⟨rfl,trivial⟩ rfl rfl rfl ?_
   refine evd [14,108] [] ?_
   refine dr ?_
   refine sq (fun h7 h7p h7s=>?_) fun h7 h7p h7s=>?_
   try simp only[Q,Pat.cs_len] at h7p
   refine rn [(950,some (.box [.d (.i (finV (zbw (zaR w n) (decide (p.op=5)) (zac w ⟨a,k⟩ p) p.kids 0 (zaA ⟨a,k⟩ p) (c+1))).2)]))] (r2 rfl rfl) (.tup (.cons (.nild ?_) (.cons (.eqd ?_) .nil))) ⟨rfl,rfl⟩ (SubO.get ⟨.inr ?_,⟨.inl rfl,trivial⟩⟩) (zbv rfl)
   rotate_left 3
   try simp only[Q,Pat.cs_len] at h7p
   refine CWp.regionJ ?_
   refine WRest.join 7 [(93,.d (.bool (decide (p.op=5∧z.1=1))))] [87,88,89,90,91,92] ?_ ?_
   refine evs [14,108] [] ?_
   refine sq (fun h8 h8p h8s=>?_) fun h8 h8p h8s=>?_
   try simp only[Q,Pat.cs_len] at h8p
   exact jnb rfl
   try simp only[Q,Pat.cs_len] at h8p
   exact jnb rfl
   refine WRest.done ?_
   refine evs [14,108] [] ?_
   refine sq (fun h9 h9p h9s=>?_) fun h9 h9p h9s=>?_
   try simp only[Q,Pat.cs_len] at h9p
   refine Walk.call (cr:=[]) zqK (zgH (by omega) (by have hz:=(zdi w n ⟨(nth (zac w ⟨a,k⟩ p) z.1).data,(nth (zac w ⟨a,k⟩ p) z.1).index⟩ (nth p.kids z.1) z.2.2).2;omega)) rfl .none rfl rfl (.cons (.gl _ _) (.cons (.refl _) .nil)) trivial rfl rfl rfl ?_
   refine evs [14,108] [] ?_
   refine sq (fun h10 h10p h10s=>?_) fun h10 h10p h10s=>?_
   try simp only[Q,Pat.cs_len] at h10p
   refine rn [(950,some (.box [.d (.i (finV (zbw (zaR w n) (decide (p.op=5)) (zac w ⟨a,k⟩ p) p.kids 0 (zaA ⟨a,k⟩ p) (c+1))).2)]))] (r2 rfl rfl) (.tup (.cons (.nild ?_) (.cons (.eqd ?_) .nil))) ⟨rfl,rfl⟩ (SubO.get ⟨.inr ?_,⟨.inl rfl,trivial⟩⟩) (zbv rfl)
   rotate_left 3
   try simp only[Q,Pat.cs_len] at h10p
   refine ar ?_
   refine Exists.intro ((za2 w n ⟨a,k⟩ p z)) ⟨(hg1.next hl (by omega) (by simp_all) (fun ho=>by simp_all)),(by unfold za2;dsimp only;omega),Sub.x (by kernel_rfl) (by kernel_rfl) ⟨⟨_,rfl,(LeA.eqi (by first|rfl|(simp;done)|(dsimp only;omega)|(simp_all[zaA];done)|(unfold za2;dsimp only;rw[if_neg (by simp_all)];simp;done)|(unfold za2;dsimp only;rw[if_pos (by simp_all)];done)))⟩,⟨⟨_,rfl,(LeA.glg (by first|rfl|(simp;done)|(dsimp only;omega)|(simp_all[zaA];done)|(unfold za2;dsimp only;rw[if_neg (by simp_all)];simp;done)|(unfold za2;dsimp only;rw[if_pos (by simp_all)];done)))⟩,trivial⟩⟩ (by kernel_rfl) (by kernel_rfl) ⟨(by first|rfl|(simp[getH];done)),⟨zab (by first|rfl|(simp;done)|(simp;omega)|(first|rfl|(simp;done)|(dsimp only;omega)|(simp_all[zaA];done)|(unfold za2;dsimp only;rw[if_neg (by simp_all)];simp;done)|(unfold za2;dsimp only;rw[if_pos (by simp_all)];done))),trivial⟩⟩⟩
   try simp only[Q,Pat.cs_len] at h9p
   refine Walk.append zcQ znX rfl .none rfl rfl rfl rfl (zaz rfl (by first|rfl|(simp;done)|(simp;omega))) (by simp) (by first|(simp;done)|(simp;omega)|(have hz:=(zdi w n ⟨(nth (zac w ⟨a,k⟩ p) z.1).data,(nth (zac w ⟨a,k⟩ p) z.1).index⟩ (nth p.kids z.1) z.2.2).2;simp;omega)) (by first|(simp;done)|(simp;omega)|(have hz:=(zdi w n ⟨(nth (zac w ⟨a,k⟩ p) z.1).data,(nth (zac w ⟨a,k⟩ p) z.1).index⟩ (nth p.kids z.1) z.2.2).2;simp;omega)) ?_
   refine asg ?_
   refine tv ?_
   refine ar ?_
   refine Exists.intro ((za2 w n ⟨a,k⟩ p z)) ⟨(hg1.next hl (by omega) (by simp_all) (fun ho=>by simp_all)),(by unfold za2;dsimp only;omega),Sub.x (by kernel_rfl) (by kernel_rfl) ⟨⟨_,rfl,(LeA.eqi (by first|rfl|(simp;done)|(dsimp only;omega)|(simp_all[zaA];done)|(unfold za2;dsimp only;rw[if_neg (by simp_all)];simp;done)|(unfold za2;dsimp only;rw[if_pos (by simp_all)];done)))⟩,⟨⟨_,rfl,(LeA.glg (by first|rfl|(simp;done)|(dsimp only;omega)|(simp_all[zaA];done)|(unfold za2;dsimp only;rw[if_neg (by simp_all)];simp;done)|(unfold za2;dsimp only;rw[if_pos (by simp_all)];done)))⟩,trivial⟩⟩ (by kernel_rfl) (by kernel_rfl) ⟨(by first|rfl|(simp[getH];done)),⟨zab (by first|rfl|(simp;done)|(simp;omega)|(first|rfl|(simp;done)|(dsimp only;omega)|(simp_all[zaA];done)|(unfold za2;dsimp only;rw[if_neg (by simp_all)];simp;done)|(unfold za2;dsimp only;rw[if_pos (by simp_all)];done))),trivial⟩⟩⟩
   try simp only[Q,Pat.cs_len] at h6p
   refine Walk.alloc (id:=3019) zql rfl .none rfl rfl rfl rfl ?_
   refine tv ?_
   refine CWp.loopX (ι:=List (Vt)×List (Vt)) hk (fun x=>[(101,.d (.i (x.1.length:Int)))]) [10,11,21,102,103,104,105,106,107,108,109,110,111,112] (fun x=>[(3019,some (.box (metA (x.1.map Vt.var))))]) (fun x=>x.1++x.2=z.2.1∧(x.1.map Vt.var).Nodup) (fun x=>x.2.length) ([],z.2.1) ⟨by simp,by simp⟩ ⟨⟨_,rfl,(LeA.eqi (by first|rfl|(simp;done)|(simp_all;done)|omega))⟩,trivial⟩ ⟨(by first|rfl|(simp[getH];done)),trivial⟩ (fun x=>rfl) (fun x hg2=>?_)
   obtain⟨pre,rest⟩:=x
   dsimp only at hg2 ⊢
   refine evc [14,108] [2,8,17] ?_
   refine sq (fun h11 h11p h11s=>?_) fun h11 h11p h11s=>?_
   try simp only[Q,Pat.cs_len] at h11p
   rcases rest with _|⟨y,rest⟩
   ·exfalso;simp_all
   have hy:=s7 y (by rw[←hg2.1];simp)
   refine Walk.idxG zcQ .none rfl rfl rfl rfl (zaG hg2.1) rfl ?_
   refine evs [14,108] [] ?_
   refine Walk.alloc (id:=3021) znW rfl .none rfl rfl rfl rfl ?_
   refine Walk.store zsr .none rfl rfl rfl rfl rfl rfl (by simp) rfl ?_
   refine tv ?_
   refine Walk.idxA (i:=y.var.toNat) znQ .none rfl rfl rfl (Int.toNat_of_nonneg hy.1).symm (by omega) ?_
   refine Walk.loadB ty4 .none rfl rfl rfl ((by simpa using zoD hy.1 hy.2)) ?_
   refine tv ?_
   refine sq (fun h12 h12p h12s=>?_) fun h12 h12p h12s=>?_
   try simp only[Q,Pat.cs_len] at h12p
   refine rn [(950,some (.box [.d (.i (finV (zbw (zaR w n) (decide (p.op=5)) (zac w ⟨a,k⟩ p) p.kids 0 (zaA ⟨a,k⟩ p) (c+1))).2)]))] (r2 rfl rfl) (.tup (.cons (.nild ?_) (.cons (.eqd ?_) .nil))) ⟨rfl,rfl⟩ (SubO.get ⟨.inr ?_,⟨.inl rfl,trivial⟩⟩) (zbv rfl)
   rotate_left 3
   try simp only[Q,Pat.cs_len] at h12p
   refine Walk.idxA (i:=y.var.toNat) znQ .none rfl rfl rfl (Int.toNat_of_nonneg hy.1).symm (by omega) ?_
   refine Walk.store ty4 .none rfl rfl rfl rfl rfl rfl (by simp) ((by simpa using zoE hy.1 hy.2)) ?_
   refine tv ?_
   refine ar ?_
   refine Exists.intro ((pre++[y],rest)) ⟨⟨(by have hz:=hg2.1;rw[←hz];simp),(zlF hg2.2 (by simp_all))⟩,(by simp),Sub.x (by kernel_rfl) (by kernel_rfl) ⟨⟨_,rfl,(LeA.eqi (by first|rfl|(simp;done)|(simp_all;done)|omega))⟩,trivial⟩ (by kernel_rfl) (by kernel_rfl) ⟨(by first|rfl|(simp[getH];done)),trivial⟩⟩
   try simp only[Q,Pat.cs_len] at h11p
   have hrest:rest=[]:=by
    rcases rest with _|⟨a,b⟩
    ·rfl
    ·exfalso;have hz:=congrArg List.length (hg2.1);simp only[List.length_append,List.length_cons,List.length_map] at hz;omega
   subst hrest
   refine rn [(950,some (.box [.d (.i (finV (zbw (zaR w n) (decide (p.op=5)) (zac w ⟨a,k⟩ p) p.kids 0 (zaA ⟨a,k⟩ p) (c+1))).2)]))] (r2 rfl rfl) (.tup (.cons (.gld ?_) (.cons (.eqd ?_) .nil))) ⟨rfl,rfl⟩ (SubO.get ⟨.inr ?_,⟨.inl rfl,trivial⟩⟩) (zbv rfl)
   rotate_left 3
   try simp only[Q,Pat.cs_len] at h5p
   refine CWp.loopX (ι:=Nat×List Vt×Int) hk (fun z=>[(62,.d (.i (z.1:Int))),(14,.gl 5 (z.2.1.map Vt.c))]) [10,11,15,16,17,18,63,64,65,66,67,68,69,70,71,72,73,74,75,76,77,78,79,80,81,82,83,84,85,86,87,88,89,90,91,92,93,94,95,96,97,98] (fun z=>[(950,some (.box [.d (.i z.2.2)])),(5,some (.tok ((z.2.1.map Vt.c)).length 3))]) (fun z=>GoodS w n ⟨a,k⟩ p c z) (fun z=>p.kids.length-z.1) (0,zaA ⟨a,k⟩ p,c+1) ⟨by simp,by simp,by dsimp only;omega,by dsimp only;omega,by dsimp only;omega,by dsimp only;omega,hnr⟩ ⟨⟨_,rfl,(LeA.eqi (by first|rfl|(simp;done)|(dsimp only;omega)|(simp_all[zaA];done)|(unfold za2;dsimp only;rw[if_neg (by simp_all)];simp;done)|(unfold za2;dsimp only;rw[if_pos (by simp_all)];done)))⟩,⟨⟨_,rfl,(LeA.glg (by first|rfl|(simp;done)|(dsimp only;omega)|(simp_all[zaA];done)|(unfold za2;dsimp only;rw[if_neg (by simp_all)];simp;done)|(unfold za2;dsimp only;rw[if_pos (by simp_all)];done)))⟩,trivial⟩⟩ ⟨(by first|rfl|(simp[getH];done)),⟨zab (by first|rfl|(simp;done)|(simp;omega)|(first|rfl|(simp;done)|(dsimp only;omega)|(simp_all[zaA];done)|(unfold za2;dsimp only;rw[if_neg (by simp_all)];simp;done)|(unfold za2;dsimp only;rw[if_pos (by simp_all)];done))),trivial⟩⟩ (fun x=>rfl) (fun z hg1=>?_)
   obtain⟨s1,_,s3,s4,s5,s6,s7⟩:=id hg1
   refine evc [14,108] [2,8,17] ?_
   refine sq (fun h13 h13p h13s=>?_) fun h13 h13p h13s=>?_
   try simp only[Q,Pat.cs_len] at h13p
   refine Walk.idx sl28 .none rfl rfl rfl rfl (zaC (by omega)) rfl ?_
   refine evs [14,108] [] ?_
   refine Walk.alloc (id:=3016) tz77 rfl .none rfl rfl rfl rfl ?_
   refine evs [14,108] [] ?_
   refine Walk.store ty77 .none rfl rfl rfl rfl rfl rfl (by simp) rfl ?_
   refine tv ?_
   refine Walk.idx zaS .none rfl rfl rfl rfl (zam (by omega)) rfl ?_
   refine evd [14,108] [] ?_
   refine ar ?_
   refine Walk.call (cr:=[]) zob (zdT hw n (a:=(nth (zac w ⟨a,k⟩ p) z.1).data) (k:=(nth (zac w ⟨a,k⟩ p) z.1).index) (c:=z.2.2) (p:=nth p.kids z.1) (by omega) (by omega) (hin _ (zae (by omega))) (Pats.ok_mem hok.2 _ (zae (by omega))) (by omega) (by omega)) rfl .none rfl rfl (LeL.refl _) ⟨rfl,trivial⟩ rfl rfl rfl ?_
   refine evd [14,108] [] ?_
   refine dr ?_
   refine sq (fun h14 h14p h14s=>?_) fun h14 h14p h14s=>?_
   try simp only[Q,Pat.cs_len] at h14p
   refine rn [(950,some (.box [.d (.i (finV (zbw (zaR w n) (decide (p.op=5)) (zac w ⟨a,k⟩ p) p.kids 0 (zaA ⟨a,k⟩ p) (c+1))).2)]))] (r2 rfl rfl) (.tup (.cons (.nild ?_) (.cons (.eqd ?_) .nil))) ⟨rfl,rfl⟩ (SubO.get ⟨.inr ?_,⟨.inl rfl,trivial⟩⟩) (zbv rfl)
   rotate_left 3
   try simp only[Q,Pat.cs_len] at h14p
   refine CWp.regionJ ?_
   refine WRest.join 7 [(93,.d (.bool (decide (p.op=5∧z.1=1))))] [87,88,89,90,91,92] ?_ ?_
   refine evs [14,108] [] ?_
   refine sq (fun h15 h15p h15s=>?_) fun h15 h15p h15s=>?_
   try simp only[Q,Pat.cs_len] at h15p
   exact jnb rfl
   try simp only[Q,Pat.cs_len] at h15p
   exact jnb rfl
   refine WRest.done ?_
   refine evs [14,108] [] ?_
   refine sq (fun h16 h16p h16s=>?_) fun h16 h16p h16s=>?_
   try simp only[Q,Pat.cs_len] at h16p
   refine Walk.call (cr:=[]) zqK (zgH (by omega) (by have hz:=(zdi w n ⟨(nth (zac w ⟨a,k⟩ p) z.1).data,(nth (zac w ⟨a,k⟩ p) z.1).index⟩ (nth p.kids z.1) z.2.2).2;omega)) rfl .none rfl rfl (.cons (.gl _ _) (.cons (.refl _) .nil)) trivial rfl rfl rfl ?_
   refine evs [14,108] [] ?_
   refine sq (fun h17 h17p h17s=>?_) fun h17 h17p h17s=>?_
   try simp only[Q,Pat.cs_len] at h17p
   refine rn [(950,some (.box [.d (.i (finV (zbw (zaR w n) (decide (p.op=5)) (zac w ⟨a,k⟩ p) p.kids 0 (zaA ⟨a,k⟩ p) (c+1))).2)]))] (r2 rfl rfl) (.tup (.cons (.nild ?_) (.cons (.eqd ?_) .nil))) ⟨rfl,rfl⟩ (SubO.get ⟨.inr ?_,⟨.inl rfl,trivial⟩⟩) (zbv rfl)
   rotate_left 3
   try simp only[Q,Pat.cs_len] at h17p
   refine ar ?_
   refine Exists.intro ((za2 w n ⟨a,k⟩ p z)) ⟨(hg1.next hl (by omega) (by simp_all) (fun ho=>by simp_all)),(by unfold za2;dsimp only;omega),Sub.x (by kernel_rfl) (by kernel_rfl) ⟨⟨_,rfl,(LeA.eqi (by first|rfl|(simp;done)|(dsimp only;omega)|(simp_all[zaA];done)|(unfold za2;dsimp only;rw[if_neg (by simp_all)];simp;done)|(unfold za2;dsimp only;rw[if_pos (by simp_all)];done)))⟩,⟨⟨_,rfl,(LeA.glg (by first|rfl|(simp;done)|(dsimp only;omega)|(simp_all[zaA];done)|(unfold za2;dsimp only;rw[if_neg (by simp_all)];simp;done)|(unfold za2;dsimp only;rw[if_pos (by simp_all)];done)))⟩,trivial⟩⟩ (by kernel_rfl) (by kernel_rfl) ⟨(by first|rfl|(simp[getH];done)),⟨zab (by first|rfl|(simp;done)|(simp;omega)|(first|rfl|(simp;done)|(dsimp only;omega)|(simp_all[zaA];done)|(unfold za2;dsimp only;rw[if_neg (by simp_all)];simp;done)|(unfold za2;dsimp only;rw[if_pos (by simp_all)];done))),trivial⟩⟩⟩
   try simp only[Q,Pat.cs_len] at h16p
   refine Walk.append zcQ znX rfl .none rfl rfl rfl rfl (zaz rfl (by first|rfl|(simp;done)|(simp;omega))) (by simp) (by first|(simp;done)|(simp;omega)|(have hz:=(zdi w n ⟨(nth (zac w ⟨a,k⟩ p) z.1).data,(nth (zac w ⟨a,k⟩ p) z.1).index⟩ (nth p.kids z.1) z.2.2).2;simp;omega)) (by first|(simp;done)|(simp;omega)|(have hz:=(zdi w n ⟨(nth (zac w ⟨a,k⟩ p) z.1).data,(nth (zac w ⟨a,k⟩ p) z.1).index⟩ (nth p.kids z.1) z.2.2).2;simp;omega)) ?_
   refine asg ?_
   refine tv ?_
   refine ar ?_
   refine Exists.intro ((za2 w n ⟨a,k⟩ p z)) ⟨(hg1.next hl (by omega) (by simp_all) (fun ho=>by simp_all)),(by unfold za2;dsimp only;omega),Sub.x (by kernel_rfl) (by kernel_rfl) ⟨⟨_,rfl,(LeA.eqi (by first|rfl|(simp;done)|(dsimp only;omega)|(simp_all[zaA];done)|(unfold za2;dsimp only;rw[if_neg (by simp_all)];simp;done)|(unfold za2;dsimp only;rw[if_pos (by simp_all)];done)))⟩,⟨⟨_,rfl,(LeA.glg (by first|rfl|(simp;done)|(dsimp only;omega)|(simp_all[zaA];done)|(unfold za2;dsimp only;rw[if_neg (by simp_all)];simp;done)|(unfold za2;dsimp only;rw[if_pos (by simp_all)];done)))⟩,trivial⟩⟩ (by kernel_rfl) (by kernel_rfl) ⟨(by first|rfl|(simp[getH];done)),⟨zab (by first|rfl|(simp;done)|(simp;omega)|(first|rfl|(simp;done)|(dsimp only;omega)|(simp_all[zaA];done)|(unfold za2;dsimp only;rw[if_neg (by simp_all)];simp;done)|(unfold za2;dsimp only;rw[if_pos (by simp_all)];done))),trivial⟩⟩⟩
   try simp only[Q,Pat.cs_len] at h13p
   refine Walk.alloc (id:=3019) zql rfl .none rfl rfl rfl rfl ?_
   refine tv ?_
   refine CWp.loopX (ι:=List (Vt)×List (Vt)) hk (fun x=>[(101,.d (.i (x.1.length:Int)))]) [10,11,21,102,103,104,105,106,107,108,109,110,111,112] (fun x=>[(3019,some (.box (metA (x.1.map Vt.var))))]) (fun x=>x.1++x.2=z.2.1∧(x.1.map Vt.var).Nodup) (fun x=>x.2.length) ([],z.2.1) ⟨by simp,by simp⟩ ⟨⟨_,rfl,(LeA.eqi (by first|rfl|(simp;done)|(simp_all;done)|omega))⟩,trivial⟩ ⟨(by first|rfl|(simp[getH];done)),trivial⟩ (fun x=>rfl) (fun x hg2=>?_)
   obtain⟨pre,rest⟩:=x
   dsimp only at hg2 ⊢
   refine evc [14,108] [2,8,17] ?_
   refine sq (fun h18 h18p h18s=>?_) fun h18 h18p h18s=>?_
   try simp only[Q,Pat.cs_len] at h18p
   rcases rest with _|⟨y,rest⟩
   ·exfalso;simp_all
   have hy:=s7 y (by rw[←hg2.1];simp)
   refine Walk.idxG zcQ .none rfl rfl rfl rfl (zaG hg2.1) rfl ?_
   refine evs [14,108] [] ?_
   refine Walk.alloc (id:=3021) znW rfl .none rfl rfl rfl rfl ?_
   refine Walk.store zsr .none rfl rfl rfl rfl rfl rfl (by simp) rfl ?_
   refine tv ?_
   refine Walk.idxA (i:=y.var.toNat) znQ .none rfl rfl rfl (Int.toNat_of_nonneg hy.1).symm (by omega) ?_
   refine Walk.loadB ty4 .none rfl rfl rfl ((by simpa using zoD hy.1 hy.2)) ?_
   refine tv ?_
   refine sq (fun h19 h19p h19s=>?_) fun h19 h19p h19s=>?_
   try simp only[Q,Pat.cs_len] at h19p
   refine rn [(950,some (.box [.d (.i (finV (zbw (zaR w n) (decide (p.op=5)) (zac w ⟨a,k⟩ p) p.kids 0 (zaA ⟨a,k⟩ p) (c+1))).2)]))] (r2 rfl rfl) (.tup (.cons (.nild ?_) (.cons (.eqd ?_) .nil))) ⟨rfl,rfl⟩ (SubO.get ⟨.inr ?_,⟨.inl rfl,trivial⟩⟩) (zbv rfl)
   rotate_left 3
   try simp only[Q,Pat.cs_len] at h19p
   refine Walk.idxA (i:=y.var.toNat) znQ .none rfl rfl rfl (Int.toNat_of_nonneg hy.1).symm (by omega) ?_
   refine Walk.store ty4 .none rfl rfl rfl rfl rfl rfl (by simp) ((by simpa using zoE hy.1 hy.2)) ?_
   refine tv ?_
   refine ar ?_
   refine Exists.intro ((pre++[y],rest)) ⟨⟨(by have hz:=hg2.1;rw[←hz];simp),(zlF hg2.2 (by simp_all))⟩,(by simp),Sub.x (by kernel_rfl) (by kernel_rfl) ⟨⟨_,rfl,(LeA.eqi (by first|rfl|(simp;done)|(simp_all;done)|omega))⟩,trivial⟩ (by kernel_rfl) (by kernel_rfl) ⟨(by first|rfl|(simp[getH];done)),trivial⟩⟩
   try simp only[Q,Pat.cs_len] at h18p
   have hrest:rest=[]:=by
    rcases rest with _|⟨a,b⟩
    ·rfl
    ·exfalso;have hz:=congrArg List.length (hg2.1);simp only[List.length_append,List.length_cons,List.length_map] at hz;omega
   subst hrest
   refine rn [(950,some (.box [.d (.i (finV (zbw (zaR w n) (decide (p.op=5)) (zac w ⟨a,k⟩ p) p.kids 0 (zaA ⟨a,k⟩ p) (c+1))).2)]))] (r2 rfl rfl) (.tup (.cons (.gld ?_) (.cons (.eqd ?_) .nil))) ⟨rfl,rfl⟩ (SubO.get ⟨.inr ?_,⟨.inl rfl,trivial⟩⟩) (zbv rfl)
   rotate_left 3
   all_goals (first|((first|(rw[hg1.none hl (by omega) (by assumption)];first|done|rfl)|(rw[hg1.bad hl (by omega) (by assumption) (by assumption) (by assumption)];first|done|rfl)|(rw[hg1.fin hl (by omega),if_neg (by rw[zrc hg2.1 (by assumption)];simp)];first|done|rfl)|(rw[hg1.fin hl (by omega),if_pos (by have hz:=hg2.1;rw[List.append_nil] at hz;rw[←hz];exact decide_eq_true hg2.2)];first|done|rfl));done)|(first|(show some (Res.box _)=some (Res.box _);rw[hg1.none hl (by omega) (by assumption)];done)|(show some (Res.box _)=some (Res.box _);rw[hg1.bad hl (by omega) (by assumption) (by assumption) (by assumption)];done)|(show some (Res.box _)=some (Res.box _);rw[hg1.fin hl (by omega)];done)))
  ·have hopf:okP w ⟨a,k⟩ p=false:=by simpa using hop
   have e:zaR w (n+1) ⟨a,k⟩ p c=(none,c+1):=by unfold zaR;rw[if_neg h60,if_neg hop]
   rw[e]
   rw[hopf] at hsh
   refine bd Tryz.f176 114 [] [2] fun w0 F0 own kept hk=>?_
   refine Walk.box (id:=3006) .none rfl rfl rfl rfl rfl rfl rfl ?_
   refine Walk.box (id:=3007) .none rfl rfl rfl rfl rfl rfl rfl ?_
   refine ev ?_
   refine ar ?_
   refine Walk.store ty3 .none rfl rfl rfl rfl rfl rfl (by simp) rfl ?_
   refine tv ?_
   refine CWp.regionJ ?_
   refine WRest.join 8 [(34,.d (.bool (false)))] [27,28,29,30,31,32,33] ?_ ?_
   refine ev ?_
   refine sq (fun h1 h1p h1s=>?_) fun h1 h1p h1s=>?_
   try simp only[Q] at h1p
   exact jnb rfl
   try simp only[Q] at h1p
   exact jnb rfl
   refine WRest.done ?_
   refine tv ?_
   refine sq (fun h2 h2p h2s=>?_) fun h2 h2p h2s=>?_
   try simp only[Q] at h2p
   exact absurd h2 (by simp)
   try simp only[Q] at h2p
   refine Walk.call (cr:=[]) zod (hsh) rfl .none rfl rfl (LeL.refl _) trivial rfl rfl rfl ?_
   refine ev ?_
   refine sq (fun h3 h3p h3s=>?_) fun h3 h3p h3s=>?_
   try simp only[Q] at h3p
   refine rn [(950,some (.box [.d (.i (c+1))]))] (r2 rfl rfl) (.tup (.cons (.nild ?_) (.cons (.eqd ?_) .nil))) ⟨rfl,rfl⟩ (SubO.get ⟨.inr ?_,⟨.inl rfl,trivial⟩⟩) (zbv rfl)
   rotate_left 3
   try simp only[Q] at h3p
   exact absurd h3 (by simp)
   all_goals (first|((rfl);done)|(rfl))
end Go.Proofs.YtfiihhedihkdoaaGreat
namespace Go.Proofs.YtfiihhedihkdoaaGreat
open Go
set_option linter.unusedSimpArgs false
set_option linter.unusedVariables false
set_option maxRecDepth 100000
set_option maxHeartbeats 2000000
abbrev dPtr (f:Nat→Nat):D:= .ptr (tabD 16 f) 0
abbrev sPtr (w:List Data) (f:Nat→Nat):D:= .ptr [zak w,dPtr f] 0
theorem zjX {n:Nat}{f:Nat→Nat}{a k:Int} (h:InS n ⟨a,k⟩) (hn:n≤16):
  FnD Tryz.prog 124 [.ref 71 0,.agg [.d (.i a),.d (.i k)]] [(71,some (.box (tabC 16 f)))] (.d (.i (dv f ⟨a,k⟩))) []:=by
 have hs:=h.facts
 refine bd Tryz.f124 17 [16] [] fun w0 F0 own kept hk=>?_
 refine Walk.box (id:=3003) .none rfl rfl rfl (by first|rfl|(simp only[zav,occH,occE,Res.ids,List.cons_append,List.nil_append,AV.idsL,AV.ids,zaj,zai,zao,zaK,List.map_cons,List.map_nil,upC,zaw];rfl)) (by first|rfl|(simp only[zav,occH,occE,Res.ids,List.cons_append,List.nil_append,AV.idsL,AV.ids,zaj,zai,zao,zaK,List.map_cons,List.map_nil,upC,zaw];rfl)) (by first|rfl|(simp only[zav,occH,occE,Res.ids,List.cons_append,List.nil_append,AV.idsL,AV.ids,zaj,zai,zao,zaK,List.map_cons,List.map_nil,upC,zaw];rfl)) (by first|rfl|(simp only[zav,occH,occE,Res.ids,List.cons_append,List.nil_append,AV.idsL,AV.ids,zaj,zai,zao,zaK,List.map_cons,List.map_nil,upC,zaw];rfl)) ?_
 refine evs [16] [] ?_
 refine sq (fun h1 h1p h1s=>?_) fun h1 h1p h1s=>?_
 try simp only[Q] at h1p
 refine rn [] (r1 rfl) (.eqd ?_) ⟨rfl,rfl⟩ (SubH.get ⟨rfl,trivial⟩) (fun _ h=>h)
 rotate_left
 try simp only[Q] at h1p
 refine Walk.idxA (i:=a.toNat) znP .none rfl rfl rfl (by have:=hs h1p;omega) (by have:=hs h1p;omega) ?_
 refine Walk.idxA (i:=k.toNat) zpT .none rfl rfl rfl (by have:=hs h1p;omega) (by have:=hs h1p;omega) ?_
 refine Walk.loadB ty3 .none rfl rfl rfl ((zjC (s:=zcR ⟨a,k⟩) (by have:=hs h1p;omega) (by have:=hs h1p;omega))) ?_
 refine evd [16] [] ?_
 refine dr ?_
 refine rn [] (r1 rfl) (.eqd ?_) ⟨rfl,rfl⟩ (SubH.get ⟨rfl,trivial⟩) (fun _ h=>h)
 rotate_left
 all_goals (first|(rw[zk0 (by assumption)];rfl)|(rw[zkZ (by assumption)]))
theorem zla {n:Nat}{f:Nat→Nat}{a k:Int} (h:InS n ⟨a,k⟩) (hn:n≤16):
  FnD Tryz.prog 124 [.d (dPtr f),.agg [.d (.i a),.d (.i k)]] [] (.d (.i (dv f ⟨a,k⟩))) []:=by
 have hs:=h.facts
 refine bd Tryz.f124 17 [16] [] fun w0 F0 own kept hk=>?_
 refine Walk.box (id:=3003) .none rfl rfl rfl rfl rfl rfl rfl ?_
 refine evs [16] [] ?_
 refine sq (fun h1 h1p h1s=>?_) fun h1 h1p h1s=>?_
 try simp only[Q] at h1p
 refine rn0 (r1 rfl) (.eqd ?_)
 rotate_left
 try simp only[Q] at h1p
 refine Walk.idxAP (i:=a.toNat) znP .none rfl rfl rfl (by have:=hs h1p;omega) (by have:=hs h1p;omega) ?_
 refine Walk.idxAP (i:=k.toNat) zpT .none rfl rfl rfl (by have:=hs h1p;omega) (by have:=hs h1p;omega) ?_
 refine Walk.loadP ty3 .none rfl rfl (zrY (s:=zcR ⟨a,k⟩) (by have:=hs h1p;omega) (by have:=hs h1p;omega)) ?_
 refine evd [16] [] ?_
 refine dr ?_
 refine rn0 (r1 rfl) (.eqd ?_)
 rotate_left
 all_goals (first|(rw[zk0 (by assumption)];rfl)|(rw[zkZ (by assumption)]))
theorem zk9 {w:List Data} (hw:WT w){n:Nat}{f:Nat→Nat}{a k c:Int} (ht:TyIn w.length ⟨a,k⟩) (hc:c∈zat w ⟨a,k⟩) (hn:n≤16) (hb:∀s,f s≤100000) (hin:∀u∈zag w ⟨a,k⟩ c,InS n u):
  FnD Tryz.prog 123 [.ref 71 0,.d (zak w),.agg [.d (.i a),.d (.i k)],.d (.i c)] [(71,some (.box (tabC 16 f)))] (.d (.i (most w f ⟨a,k⟩ c))) []:=by
 have hl:=ziD hw ht hc
 have hd:=zsf hb (by omega)
 refine bd Tryz.f123 33 [] [] fun w0 F0 own kept hk=>?_
 refine Walk.box (id:=3006) .none rfl rfl rfl (by first|rfl|(simp only[zav,occH,occE,Res.ids,List.cons_append,List.nil_append,AV.idsL,AV.ids,zaj,zai,zao,zaK,List.map_cons,List.map_nil,upC,zaw];rfl)) (by first|rfl|(simp only[zav,occH,occE,Res.ids,List.cons_append,List.nil_append,AV.idsL,AV.ids,zaj,zai,zao,zaK,List.map_cons,List.map_nil,upC,zaw];rfl)) (by first|rfl|(simp only[zav,occH,occE,Res.ids,List.cons_append,List.nil_append,AV.idsL,AV.ids,zaj,zai,zao,zaK,List.map_cons,List.map_nil,upC,zaw];rfl)) (by first|rfl|(simp only[zav,occH,occE,Res.ids,List.cons_append,List.nil_append,AV.idsL,AV.ids,zaj,zai,zao,zaK,List.map_cons,List.map_nil,upC,zaw];rfl)) ?_
 refine ev ?_
 refine Walk.call (cr:=[]) zht (zcD hw ht hc) rfl .none rfl rfl (LeL.refl _) trivial rfl (by first|rfl|(simp only[zbg,List.all_cons,List.all_nil,zcm,zb5,AV.idsL,AV.ids,zaj,zai,List.map_cons,List.map_nil,zaw];rfl)) (by first|rfl|(simp only[zav,occH,occE,Res.ids,List.cons_append,List.nil_append,AV.idsL,AV.ids,zaj,zai,zao,zaK,List.map_cons,List.map_nil,upC,zaw];rfl)) ?_
 refine ev ?_
 refine CWp.loopX (ι:=List (Ty)×List (Ty)×(Nat)) hk (fun x=>[(18,.d (.i (x.1.length:Int))),(9,.d (.i (x.2.2:Int)))]) [8,11,12,19,20,21,22,23,24,25,26,27,28,29,30] (fun x=>[]) (fun x=>x.1++x.2.1=zag w ⟨a,k⟩ c∧x.2.2≤100000∧zb4 f x.2.2 x.2.1=zb4 f 0 (zag w ⟨a,k⟩ c)) (fun x=>x.2.1.length) ([],zag w ⟨a,k⟩ c,0) ⟨by simp,by simp,rfl⟩ ⟨⟨_,rfl,(LeA.eqi (by first|rfl|(simp;done)|omega|(dsimp only;omega)|(dsimp only;split<;>omega)))⟩,⟨⟨_,rfl,(LeA.eqi (by first|rfl|(simp;done)|omega|(dsimp only;omega)|(dsimp only;split<;>omega)))⟩,trivial⟩⟩ trivial (fun x=>rfl) (fun x hg1=>?_)
 obtain⟨pre,rest,m⟩:=x
 dsimp only at hg1 ⊢
 refine evc [] [] ?_
 refine sq (fun h1 h1p h1s=>?_) fun h1 h1p h1s=>?_
 try simp only[Q] at h1p
 rcases rest with _|⟨y,rest⟩
 ·exfalso;simp_all
 have hdy:=hd y;have hye:dv f ⟨y.data,y.index⟩=dv f y:=rfl
 refine Walk.idx zaS .none rfl rfl rfl rfl (zaG hg1.1) rfl ?_
 refine ev ?_
 refine Walk.alloc (id:=3011) tz33 rfl .none rfl (by first|rfl|(simp only[zav,occH,occE,Res.ids,List.cons_append,List.nil_append,AV.idsL,AV.ids,zaj,zai,zao,zaK,List.map_cons,List.map_nil,upC,zaw];rfl)) (by first|rfl|(simp only[zav,occH,occE,Res.ids,List.cons_append,List.nil_append,AV.idsL,AV.ids,zaj,zai,zao,zaK,List.map_cons,List.map_nil,upC,zaw];rfl)) (by first|rfl|(simp only[zav,occH,occE,Res.ids,List.cons_append,List.nil_append,AV.idsL,AV.ids,zaj,zai,zao,zaK,List.map_cons,List.map_nil,upC,zaw];rfl)) ?_
 refine Walk.store ty33 .none rfl rfl rfl rfl rfl rfl (by simp) rfl ?_
 refine tv ?_
 refine Walk.call (cr:=[]) ziG (zjX (f:=f) (a:=y.data) (k:=y.index) (hin y (by rw[←hg1.1];simp)) hn) rfl .none rfl rfl (LeL.refl _) ⟨rfl,trivial⟩ rfl (by first|rfl|(simp only[zbg,List.all_cons,List.all_nil,zcm,zb5,AV.idsL,AV.ids,zaj,zai,List.map_cons,List.map_nil,zaw];rfl)) (by first|rfl|(simp only[zav,occH,occE,Res.ids,List.cons_append,List.nil_append,AV.idsL,AV.ids,zaj,zai,zao,zaK,List.map_cons,List.map_nil,upC,zaw];rfl)) ?_
 refine ev ?_
 refine sq (fun h2 h2p h2s=>?_) fun h2 h2p h2s=>?_
 try simp only[Q] at h2p
 refine rn [] (r1 rfl) (.eqd ?_) ⟨rfl,rfl⟩ (SubH.get ⟨rfl,trivial⟩) (fun _ h=>h)
 rotate_left
 try simp only[Q] at h2p
 refine Walk.maxI .none rfl rfl rfl ?_
 refine ev ?_
 refine ar ?_
 refine Exists.intro ((pre++[y],rest,max m (dv f y))) ⟨⟨(by have hz:=hg1.1;rw[←hz];simp),⟨(by have:=hd y;dsimp only;omega),(by rw[←hg1.2.2];simp only[zb4];rw[if_neg (by have:=hd y;omega)])⟩⟩,(by simp),Sub.x (by kernel_rfl) (by kernel_rfl) ⟨⟨_,rfl,(LeA.eqi (by first|rfl|(simp;done)|omega|(dsimp only;omega)|(dsimp only;split<;>omega)))⟩,⟨⟨_,rfl,(LeA.eqi (by first|rfl|(simp;done)|omega|(dsimp only;omega)|(dsimp only;split<;>omega)))⟩,trivial⟩⟩ (by kernel_rfl) (by kernel_rfl) trivial⟩
 try simp only[Q] at h1p
 have hrest:rest=[]:=by
  rcases rest with _|⟨a,b⟩
  ·rfl
  ·exfalso;have hz:=congrArg List.length (hg1.1);simp only[List.length_append,List.length_cons,List.length_map] at hz;omega
 subst hrest
 refine ar ?_
 refine rn [] (r1 rfl) (.eqd ?_) ⟨rfl,rfl⟩ (SubH.get ⟨rfl,trivial⟩) (fun _ h=>h)
 rotate_left
 all_goals (refine congrArg D.i ?_;unfold most;rw[←hg1.2.2];first|(simp only[zb4];rw[if_pos (by omega)];rfl)|(simp only[zb4];omega))
theorem zhP {i j:Nat} (h:j<4):tyS (i*4+j)=⟨(i:Int),(j:Int)⟩:=by
 unfold tyS
 rw[show(i*4+j) / 4=i by omega,show(i*4+j) % 4=j by omega]
theorem zpw {w:List Data}{k s:Nat}{pre:List Int}:Bet (zbm w k) (rowT w k s pre):=(znp _ _).trans (zmD _ _)
theorem zjl {w:List Data}{g f:Nat→Nat}{s:Nat}{c:Int} (hB:Bet g f)
  (h:decide ((0:Int)<(most w f (tyS s) c:Int)∧((f s:Int)=0∨(most w f (tyS s) c:Int)<(f s:Int)))=true):Strict g (zbR w s f c):=by
 rw[zd5 h]
 rw[decide_eq_true_eq] at h
 refine⟨s,by unfold updF;rw[if_pos rfl];omega, ?_⟩
 unfold updF;rw[if_pos rfl]
 rcases Nat.eq_zero_or_pos (g s) with h0|h0
 ·exact .inl h0
 ·have:=hB s h0
  right;omega
theorem zk5 {w:List Data} (hw:WT w){i j:Nat} (hi:i<w.length) (hj:j<4):FnD Tryz.prog 122 [.d (zak w),.agg [.d (.i (i:Int)),.d (.i (j:Int))]] [] (.d (zcB (zbf w (tyS (i*4+j))))) []:=by
 rw[←zif,zhP hj];exact zcV hw (.inr ⟨i,rfl,hi⟩)
theorem zlb {w:List Data}{f:Nat→Nat}{i j:Nat} (hi:i<w.length) (h4:w.length≤4) (hj:j<4):
  FnD Tryz.prog 124 [.ref 71 0,.agg [.d (.i (i:Int)),.d (.i (j:Int))]] [(71,some (.box (tabC 16 f)))] (.d (.i (f (i*4+j)))) []:=by
 have h:=zjX (n:=w.length*4) (f:=f) (a:=(i:Int)) (k:=(j:Int)) (.inr ⟨by simp only[zcR,Int.toNat_natCast];omega,by simp only[zcR,Int.toNat_natCast];exact zhP hj⟩) (by omega)
 have e:zcR ⟨(i:Int),(j:Int)⟩=i*4+j:=by simp only[zcR,Int.toNat_natCast]
 rwa [zkZ (by omega),e] at h
theorem zmp {w:List Data} (hd:Dp w){f:Nat→Nat}{i j:Nat}{c:Int} (hi:i<w.length) (hj:j<4) (hc:c∈zbf w (tyS (i*4+j))) (hb:∀s,f s≤100000):
  FnD Tryz.prog 123 [.ref 71 0,.d (zak w),.agg [.d (.i (i:Int)),.d (.i (j:Int))],.d (.i c)] [(71,some (.box (tabC 16 f)))] (.d (.i (most w f (tyS (i*4+j)) c))) []:=by
 have h4:=hd.four
 have hcl:=hd.cl (i*4+j) (by omega) c hc
 rw[←zif,zhP hj] at hc
 rw[zhP hj] at hcl ⊢
 exact zk9 hd.wt (.inr ⟨i,rfl,hi⟩) hc (n:=w.length*4) (by omega) hb hcl
theorem zkf {w:List Data} (hd:Dp w):FnD Tryz.prog 70 [.d (zak w)] [] (.d (dPtr (zaX w))) []:=by
 have hw:=hd.wt
 have hw4:=hd.four
 have hlw:((w.map Data.c).length:Int)=w.length:=by simp
 refine bd Tryz.f70 64 [] [16,20] fun w0 F0 own kept hk=>?_
 refine Walk.buildZ zu8 znP .none rfl ?_
 refine Walk.box (id:=71) .none rfl rfl rfl (by first|rfl|(simp only[zav,occH,occE,Res.ids,List.cons_append,List.nil_append,AV.idsL,AV.ids,zaj,zai,zao,zaK,List.map_cons,List.map_nil,upC,zaw];rfl)) (by first|rfl|(simp only[zav,occH,occE,Res.ids,List.cons_append,List.nil_append,AV.idsL,AV.ids,zaj,zai,zao,zaK,List.map_cons,List.map_nil,upC,zaw];rfl)) (by first|rfl|(simp only[zav,occH,occE,Res.ids,List.cons_append,List.nil_append,AV.idsL,AV.ids,zaj,zai,zao,zaK,List.map_cons,List.map_nil,upC,zaw];rfl)) (by first|rfl|(simp only[zav,occH,occE,Res.ids,List.cons_append,List.nil_append,AV.idsL,AV.ids,zaj,zai,zao,zaK,List.map_cons,List.map_nil,upC,zaw];rfl)) ?_
 refine ev ?_
 refine CWp.loopX (ι:=Nat×Bool) hk (fun o=>[(4,.d (.bool o.2))]) [5,6,7,9,10,13,14,15,16,17,18,19,20,21,22,23,24,25,26,27,28,29,30,31,32,33,34,35,36,37,38,39,40,41,42,43,44,45,46,47,48,49,50,51,52,53,54,55,56,57,58,59,60,61,62] (fun o=>[(71,some (.box (tabC 16 (zbm w o.1))))]) (fun o=>(o.2=false→zbm w o.1=zaX w)∧(o.2=true→o.1≤w.length*4+1)) (fun o=>if o.2 then w.length*4+2-o.1 else 0) (0,true) ⟨by simp,by simp⟩ ⟨⟨_,rfl,(LeA.eqb (by first|rfl|(simp;done)|(simp_all;done)|omega))⟩,trivial⟩ ⟨(by first|rfl|(have e:y.1=w.length:=(by omega);rw[e];rfl)),trivial⟩ (fun x=>rfl) (fun o hg1=>?_)
 refine evc [] [16,20] ?_
 refine sq (fun h1 h1p h1s=>?_) fun h1 h1p h1s=>?_
 try simp only[Q] at h1p
 refine CWp.loopX (ι:=Nat×Bool) hk (fun y=>[(16,.d (.i (y.1:Int))),(4,.d (.bool y.2))]) [5,6,7,9,10,17,18,19,20,21,22,23,24,25,26,27,28,29,30,31,32,33,34,35,36,37,38,39,40,41,42,43,44,45,46,47,48,49,50,51,52,53,54,55,56,57,58,59,60,61,62] (fun y=>[(71,some (.box (tabC 16 (midT w o.1 (y.1*4)))))]) (fun y=>y.1≤w.length∧(y.2=false→midT w o.1 (y.1*4)=zbm w o.1)∧(y.2=true→Strict (zbm w o.1) (midT w o.1 (y.1*4)))) (fun y=>w.length-y.1) (0,false) ⟨by simp,fun _=>rfl,by simp⟩ ⟨⟨_,rfl,(LeA.eqi (by first|rfl|(simp;done)|(simp_all;done)|omega))⟩,⟨⟨_,rfl,(LeA.eqb (by first|rfl|(simp;done)|(simp_all;done)|omega))⟩,trivial⟩⟩ ⟨(by first|rfl|(have e:z.1=4:=(by omega);rw[e,←Nat.succ_mul];rfl)),trivial⟩ (fun x=>rfl) (fun y hg2=>?_)
 have ho:=hg1.2 h1s
 refine evc [] [16,20] ?_
 refine sq (fun h2 h2p h2s=>?_) fun h2 h2p h2s=>?_
 try simp only[Q] at h2p
 refine CWp.loopX (ι:=Nat×Bool) hk (fun z=>[(6,.d (.i (z.1:Int))),(4,.d (.bool z.2))]) [7,9,10,19,20,21,22,23,24,25,26,27,28,29,30,31,32,33,34,35,36,37,38,39,40,41,42,43,44,45,46,47,48,49,50,51,52,53,54,55,56,57,58,59,60,61] (fun z=>[(71,some (.box (tabC 16 (midT w o.1 (y.1*4+z.1)))))]) (fun z=>z.1≤4∧(z.2=false→midT w o.1 (y.1*4+z.1)=zbm w o.1)∧(z.2=true→Strict (zbm w o.1) (midT w o.1 (y.1*4+z.1)))) (fun z=>4-z.1) (0,y.2) ⟨by simp,hg2.2⟩ ⟨⟨_,rfl,(LeA.eqi (by first|rfl|(simp;done)|(simp_all;done)|omega))⟩,⟨⟨_,rfl,(LeA.eqb (by first|rfl|(simp;done)|(simp_all;done)|omega))⟩,trivial⟩⟩ ⟨(by first|rfl|(show some (Res.box _)=some (Res.box _);rw[←hg4.1,List.append_nil] at *;done)|(show some (Res.box _)=some (Res.box _);rw[←Nat.add_assoc,←zfJ,←hg4.1,List.append_nil])),trivial⟩ (fun x=>rfl) (fun z hg3=>?_)
 refine evc [] [16,20] ?_
 refine sq (fun h3 h3p h3s=>?_) fun h3 h3p h3s=>?_
 try simp only[Q] at h3p
 refine Walk.build st33 (ks:=[0,1]) (xs:=[_,_]) rfl rfl .none rfl rfl rfl ?_
 refine Walk.alloc (id:=3007) tz33 rfl .none rfl (by first|rfl|(simp only[zav,occH,occE,Res.ids,List.cons_append,List.nil_append,AV.idsL,AV.ids,zaj,zai,zao,zaK,List.map_cons,List.map_nil,upC,zaw];rfl)) (by first|rfl|(simp only[zav,occH,occE,Res.ids,List.cons_append,List.nil_append,AV.idsL,AV.ids,zaj,zai,zao,zaK,List.map_cons,List.map_nil,upC,zaw];rfl)) (by first|rfl|(simp only[zav,occH,occE,Res.ids,List.cons_append,List.nil_append,AV.idsL,AV.ids,zaj,zai,zao,zaK,List.map_cons,List.map_nil,upC,zaw];rfl)) ?_
 refine Walk.store ty33 .none rfl rfl rfl rfl rfl rfl (by simp) rfl ?_
 refine tv ?_
 refine Walk.call (cr:=[]) zhs (zk5 hw (i:=y.1) (j:=z.1) (by omega) (by omega)) rfl .none rfl rfl (LeL.refl _) trivial rfl (by first|rfl|(simp only[zbg,List.all_cons,List.all_nil,zcm,zb5,AV.idsL,AV.ids,zaj,zai,List.map_cons,List.map_nil,zaw];rfl)) (by first|rfl|(simp only[zav,occH,occE,Res.ids,List.cons_append,List.nil_append,AV.idsL,AV.ids,zaj,zai,zao,zaK,List.map_cons,List.map_nil,upC,zaw];rfl)) ?_
 refine ev ?_
 refine CWp.loopX (ι:=List (Int)×List (Int)×(Bool)) hk (fun x=>[(30,.d (.i (x.1.length:Int))),(4,.d (.bool x.2.2))]) [9,10,31,32,33,34,35,36,37,38,39,40,41,42,43,44,45,46,47,48,49,50,51,52,53,54,55,56,57,58,59,60,61] (fun x=>[(71,some (.box (tabC 16 (rowT w o.1 (y.1*4+z.1) x.1))))]) (fun x=>x.1++x.2.1=zbf w (tyS (y.1*4+z.1))∧(x.2.2=false→rowT w o.1 (y.1*4+z.1) x.1=zbm w o.1)∧(x.2.2=true→Strict (zbm w o.1) (rowT w o.1 (y.1*4+z.1) x.1))) (fun x=>x.2.1.length) ([],zbf w (tyS (y.1*4+z.1)),z.2) ⟨by simp,hg3.2⟩ ⟨⟨_,rfl,(LeA.eqi (by first|rfl|(simp;done)|(rw[h7];rfl)|(rw[h7,Bool.false_or];done)|(rw[h7,Bool.true_or];done)|omega))⟩,⟨⟨_,rfl,(LeA.eqb (by first|rfl|(simp;done)|(rw[h7];rfl)|(rw[h7,Bool.false_or];done)|(rw[h7,Bool.true_or];done)|omega))⟩,trivial⟩⟩ ⟨(by first|rfl|(show some (Res.box _)=some (Res.box _);rw[zdB];first|(rw[zd5 (by assumption)];done)|(rw[zdA (by assumption)];done))),trivial⟩ (fun x=>rfl) (fun x hg4=>?_)
 obtain⟨pre,rest,b⟩:=x
 dsimp only at hg4 ⊢
 have hct:=hd.ct (y.1*4+z.1) (by omega)
 refine evc [] [16,20] ?_
 refine sq (fun h4 h4p h4s=>?_) fun h4 h4p h4s=>?_
 try simp only[Q] at h4p
 rcases rest with _|⟨c,rest⟩
 ·exfalso;simp_all
 refine Walk.idx zbS .none rfl rfl rfl rfl (zaG hg4.1) rfl ?_
 refine ev ?_
 refine Walk.call (cr:=[]) zs6 (zmp hd (f:=rowT w o.1 (y.1*4+z.1) pre) (i:=y.1) (j:=z.1) (c:=c) (by omega) (by omega) (by rw[←hg4.1];simp) (zpK hd (by omega) (by omega) (by have hz:=congrArg List.length hg4.1;simp at hz;omega))) rfl .none rfl rfl (LeL.refl _) ⟨rfl,trivial⟩ rfl (by first|rfl|(simp only[zbg,List.all_cons,List.all_nil,zcm,zb5,AV.idsL,AV.ids,zaj,zai,List.map_cons,List.map_nil,zaw];rfl)) (by first|rfl|(simp only[zav,occH,occE,Res.ids,List.cons_append,List.nil_append,AV.idsL,AV.ids,zaj,zai,zao,zaK,List.map_cons,List.map_nil,upC,zaw];rfl)) ?_
 refine ev ?_
 refine CWp.regionJ ?_
 refine WRest.join 15 [(53,.d (.bool (decide ((0:Int)<(most w (rowT w o.1 (y.1*4+z.1) pre) (tyS (y.1*4+z.1)) c:Int)∧((rowT w o.1 (y.1*4+z.1) pre (y.1*4+z.1):Int)=0∨(most w (rowT w o.1 (y.1*4+z.1) pre) (tyS (y.1*4+z.1)) c:Int)<(rowT w o.1 (y.1*4+z.1) pre (y.1*4+z.1):Int))))))] [39,40,41,42,43,44,45,46,47,48,49,50,51,52] ?_ ?_
 refine ev ?_
 refine sq (fun h5 h5p h5s=>?_) fun h5 h5p h5s=>?_
 try simp only[Q] at h5p
 refine Walk.call (cr:=[]) ziG (zlb (w:=w) (f:=rowT w o.1 (y.1*4+z.1) pre) (i:=y.1) (j:=z.1) (by omega) hw4 (by omega)) rfl (.some rfl rfl h5) rfl rfl (LeL.refl _) ⟨rfl,trivial⟩ rfl (by first|rfl|(simp only[zbg,List.all_cons,List.all_nil,zcm,zb5,AV.idsL,AV.ids,zaj,zai,List.map_cons,List.map_nil,zaw];rfl)) (by first|rfl|(simp only[zav,occH,occE,Res.ids,List.cons_append,List.nil_append,AV.idsL,AV.ids,zaj,zai,zao,zaK,List.map_cons,List.map_nil,upC,zaw];rfl)) ?_
 refine evs [] [(41,true)] ?_ ⟨⟨_,rfl,h5⟩,trivial⟩
 refine sq (fun h6 h6p h6s=>?_) fun h6 h6p h6s=>?_
 try simp only[Q] at h6p
 exact jnb rfl
 try simp only[Q] at h6p
 refine Walk.call (cr:=[]) ziG (zlb (w:=w) (f:=rowT w o.1 (y.1*4+z.1) pre) (i:=y.1) (j:=z.1) (by omega) hw4 (by omega)) rfl (.some rfl rfl h6) rfl rfl (LeL.refl _) ⟨rfl,trivial⟩ rfl (by first|rfl|(simp only[zbg,List.all_cons,List.all_nil,zcm,zb5,AV.idsL,AV.ids,zaj,zai,List.map_cons,List.map_nil,zaw];rfl)) (by first|rfl|(simp only[zav,occH,occE,Res.ids,List.cons_append,List.nil_append,AV.idsL,AV.ids,zaj,zai,zao,zaK,List.map_cons,List.map_nil,upC,zaw];rfl)) ?_
 refine evs [] [(41,true),(46,false)] ?_ ⟨⟨_,rfl,h5⟩,⟨_,rfl,h6⟩,trivial⟩
 exact jnb rfl
 try simp only[Q] at h5p
 exact jnb rfl
 refine WRest.done ?_
 refine tv ?_
 refine sq (fun h7 h7p h7s=>?_) fun h7 h7p h7s=>?_
 try simp only[Q] at h7p
 refine Walk.idxA (i:=y.1) znP .none rfl rfl rfl rfl (by omega) ?_
 refine Walk.idxA (i:=z.1) zpT .none rfl rfl rfl rfl (by omega) ?_
 refine Walk.store ty3 .none rfl rfl rfl rfl rfl rfl (by simp) ((zpO (s:=y.1*4+z.1) (v:=most w (rowT w o.1 (y.1*4+z.1) pre) (tyS (y.1*4+z.1)) c) (by omega) (by omega) rfl)) ?_
 refine ev ?_
 refine ar ?_
 refine Exists.intro ((pre++[c],rest,(decide ((0:Int)<(most w (rowT w o.1 (y.1*4+z.1) pre) (tyS (y.1*4+z.1)) c:Int)∧((rowT w o.1 (y.1*4+z.1) pre (y.1*4+z.1):Int)=0∨(most w (rowT w o.1 (y.1*4+z.1) pre) (tyS (y.1*4+z.1)) c:Int)<(rowT w o.1 (y.1*4+z.1) pre (y.1*4+z.1):Int))))||b)) ⟨⟨(by have hz:=hg4.1;rw[←hz];simp),(by
    dsimp only
    rw[zdB]
    cases hq:decide ((0:Int)<(most w (rowT w o.1 (y.1*4+z.1) pre) (tyS (y.1*4+z.1)) c:Int)∧((rowT w o.1 (y.1*4+z.1) pre (y.1*4+z.1):Int)=0∨(most w (rowT w o.1 (y.1*4+z.1) pre) (tyS (y.1*4+z.1)) c:Int)<(rowT w o.1 (y.1*4+z.1) pre (y.1*4+z.1):Int))) with
    |true=>exact⟨fun h=>by simp at h,fun _=>zjl zpw hq⟩
    |false=>rw[zdA hq];exact hg4.2)⟩,(by simp),Sub.x (by kernel_rfl) (by kernel_rfl) ⟨⟨_,rfl,(LeA.eqi (by first|rfl|(simp;done)|(rw[h7];rfl)|(rw[h7,Bool.false_or];done)|(rw[h7,Bool.true_or];done)|omega))⟩,⟨⟨_,rfl,(LeA.eqb (by first|rfl|(simp;done)|(rw[h7];rfl)|(rw[h7,Bool.false_or];done)|(rw[h7,Bool.true_or];done)|omega))⟩,trivial⟩⟩ (by kernel_rfl) (by kernel_rfl) ⟨(by first|rfl|(show some (Res.box _)=some (Res.box _);rw[zdB];first|(rw[zd5 (by assumption)];done)|(rw[zdA (by assumption)];done))),trivial⟩⟩
 try simp only[Q] at h7p
 refine ar ?_
 refine Exists.intro ((pre++[c],rest,(decide ((0:Int)<(most w (rowT w o.1 (y.1*4+z.1) pre) (tyS (y.1*4+z.1)) c:Int)∧((rowT w o.1 (y.1*4+z.1) pre (y.1*4+z.1):Int)=0∨(most w (rowT w o.1 (y.1*4+z.1) pre) (tyS (y.1*4+z.1)) c:Int)<(rowT w o.1 (y.1*4+z.1) pre (y.1*4+z.1):Int))))||b)) ⟨⟨(by have hz:=hg4.1;rw[←hz];simp),(by
    dsimp only
    rw[zdB]
    cases hq:decide ((0:Int)<(most w (rowT w o.1 (y.1*4+z.1) pre) (tyS (y.1*4+z.1)) c:Int)∧((rowT w o.1 (y.1*4+z.1) pre (y.1*4+z.1):Int)=0∨(most w (rowT w o.1 (y.1*4+z.1) pre) (tyS (y.1*4+z.1)) c:Int)<(rowT w o.1 (y.1*4+z.1) pre (y.1*4+z.1):Int))) with
    |true=>exact⟨fun h=>by simp at h,fun _=>zjl zpw hq⟩
    |false=>rw[zdA hq];exact hg4.2)⟩,(by simp),Sub.x (by kernel_rfl) (by kernel_rfl) ⟨⟨_,rfl,(LeA.eqi (by first|rfl|(simp;done)|(rw[h7];rfl)|(rw[h7,Bool.false_or];done)|(rw[h7,Bool.true_or];done)|omega))⟩,⟨⟨_,rfl,(LeA.eqb (by first|rfl|(simp;done)|(rw[h7];rfl)|(rw[h7,Bool.false_or];done)|(rw[h7,Bool.true_or];done)|omega))⟩,trivial⟩⟩ (by kernel_rfl) (by kernel_rfl) ⟨(by first|rfl|(show some (Res.box _)=some (Res.box _);rw[zdB];first|(rw[zd5 (by assumption)];done)|(rw[zdA (by assumption)];done))),trivial⟩⟩
 try simp only[Q] at h4p
 have hrest:rest=[]:=by
  rcases rest with _|⟨a,b⟩
  ·rfl
  ·exfalso;have hz:=congrArg List.length (hg4.1);simp only[List.length_append,List.length_cons,List.length_map] at hz;omega
 subst hrest
 refine ar ?_
 refine Exists.intro ((z.1+1,b)) ⟨(by
    obtain⟨p1,p2⟩:=hg4
    rw[List.append_nil] at p1
    rw[p1,zfJ,Nat.add_assoc] at p2
    exact⟨by dsimp only;omega,p2⟩),(by dsimp only;omega),Sub.x (by kernel_rfl) (by kernel_rfl) ⟨⟨_,rfl,(LeA.eqi (by first|rfl|(simp;done)|(simp_all;done)|omega))⟩,⟨⟨_,rfl,(LeA.eqb (by first|rfl|(simp;done)|(simp_all;done)|omega))⟩,trivial⟩⟩ (by kernel_rfl) (by kernel_rfl) ⟨(by first|rfl|(show some (Res.box _)=some (Res.box _);rw[←hg4.1,List.append_nil] at *;done)|(show some (Res.box _)=some (Res.box _);rw[←Nat.add_assoc,←zfJ,←hg4.1,List.append_nil])),trivial⟩⟩
 try simp only[Q] at h3p
 refine ar ?_
 refine Exists.intro ((y.1+1,z.2)) ⟨(by
    have e:z.1=4:=by omega
    obtain⟨_,q1,q2⟩:=hg3
    rw[e,←Nat.succ_mul] at q1 q2
    exact⟨by dsimp only;omega,q1,q2⟩),(by dsimp only;omega),Sub.x (by kernel_rfl) (by kernel_rfl) ⟨⟨_,rfl,(LeA.eqi (by first|rfl|(simp;done)|(simp_all;done)|omega))⟩,⟨⟨_,rfl,(LeA.eqb (by first|rfl|(simp;done)|(simp_all;done)|omega))⟩,trivial⟩⟩ (by kernel_rfl) (by kernel_rfl) ⟨(by first|rfl|(have e:z.1=4:=(by omega);rw[e,←Nat.succ_mul];rfl)),trivial⟩⟩
 try simp only[Q] at h2p
 refine Exists.intro ((o.1+1,y.2)) ⟨⟨(fun h=>by
    have e:y.1=w.length:=by omega
    have h1:=hg2.2.1 h
    rw[e] at h1
    have h2:zbm w (o.1+1)=zbm w o.1:=h1
    rw[h2];exact zrJ hd.cl h2),(fun h=>by
    have e:y.1=w.length:=by omega
    have h1:=hg2.2.2 h
    rw[e] at h1
    have h3:=hg1.2 h1s
    show o.1+1≤w.length*4+1
    rcases Nat.lt_or_ge o.1 (w.length*4+1) with h4|h4
    ·omega
    ·refine absurd ?_ (Strict.ne h1)
     rw[zmr hd.cl h4]
     exact(zmr hd.cl (k:=o.1+1) (by omega)).symm)⟩,(by have h3:=hg1.2 h1s;rw[h1s];dsimp only;simp only[if_true];split<;>omega),Sub.x (by kernel_rfl) (by kernel_rfl) ⟨⟨_,rfl,(LeA.eqb (by first|rfl|(simp;done)|(simp_all;done)|omega))⟩,trivial⟩ (by kernel_rfl) (by kernel_rfl) ⟨(by first|rfl|(have e:y.1=w.length:=(by omega);rw[e];rfl)),trivial⟩⟩
 try simp only[Q] at h1p
 refine CWp.frzB hk 3 71 0 rfl rfl zr0 rfl ?_
 refine evc [] [] ?_
 refine rn0 (r1 rfl) (.eqd ?_)
 rotate_left
 all_goals (rw[hg1.1 h1s])
end Go.Proofs.YtfiihhedihkdoaaGreat
namespace Go.Proofs.YtfiihhedihkdoaaGreat
open Go
set_option linter.unusedSimpArgs false
set_option linter.unusedVariables false
set_option maxRecDepth 100000
set_option maxHeartbeats 4000000
theorem zu3 (w:List Data) (t:Ty) (p:Pat):(zaR w 10 t p 0).1.isSome=isP w t p:=by
 have h:=(zfm w 10 t p 0).1
 rw[h]
 unfold zb0 isP
 rw[Int.zero_add]
 split
 ·rename_i hz;rw[hz];rfl
 ·rename_i hz
  cases hc:(zar w 10 t p&&(decide ((p.size:Int)≤60)&&linP w 10 t p)) with
  |true=>exact absurd hc hz
  |false=>rfl
theorem zdU {w:List Data} (hw:WT w){a k:Int}{p:Pat} (ht:TyIn w.length ⟨a,k⟩) (hok:p.ok):
  FnD Tryz.prog 117 [.d (zak w),.agg [.d (.i a),.d (.i k)],.agg [.d (.i p.op),.d (.i p.ctor),.d (.i p.n),.d (.i p.m),.d (.i p.var),.d (zad p.kids)]] [] (.tup [.d (zbP (zdq (zaR w 10 ⟨a,k⟩ p 0).1)),.d (.bool (isP w ⟨a,k⟩ p))]) []:=by
 rw[←zu3]
 refine bd Tryz.f117 15 [] [] fun w0 F0 own kept hk=>?_
 refine Walk.box (id:=3004) .none rfl rfl rfl rfl rfl rfl rfl ?_
 refine Walk.box (id:=3005) .none rfl rfl rfl rfl rfl rfl rfl ?_
 refine ev ?_
 refine Walk.alloc (id:=950) tz3 rfl .none rfl rfl rfl rfl ?_
 refine Walk.store ty3 .none rfl rfl rfl rfl rfl rfl (by simp) rfl ?_
 refine tv ?_
 refine Walk.call (cr:=[]) zob (zdT hw 10 (c:=0) (by omega) (by omega) ht hok (by omega) (by omega)) rfl .none rfl rfl (LeL.refl _) ⟨rfl,trivial⟩ rfl rfl rfl ?_
 refine ev ?_
 refine rn0 (r2 rfl rfl) (.tup (.cons (.eqd ?_) (.cons (.eqd ?_) .nil)))
 rotate_left 2
 all_goals (rfl)
theorem zjI {w:List Data} (hw:WT w){a k:Int}{p:Pat} (ht:TyIn w.length ⟨a,k⟩) (hok:p.ok):
  FnD Tryz.prog 75 [.d (zak w),.agg [.d (.i a),.d (.i k)],.agg [.d (.i p.op),.d (.i p.ctor),.d (.i p.n),.d (.i p.m),.d (.i p.var),.d (zad p.kids)]] [] (.d (.bool (isP w ⟨a,k⟩ p))) []:=by
 refine bd Tryz.f75 17 [] [] fun w0 F0 own kept hk=>?_
 refine Walk.box (id:=3004) .none rfl rfl rfl rfl rfl rfl rfl ?_
 refine Walk.box (id:=3005) .none rfl rfl rfl rfl rfl rfl rfl ?_
 refine ev ?_
 refine Walk.call (cr:=[]) zn5 (zdU hw ht hok) rfl .none rfl rfl (LeL.refl _) trivial rfl rfl rfl ?_
 refine ev ?_
 refine rn0 (r1 rfl) (.eqd ?_)
 rotate_left
 all_goals (rfl)
end Go.Proofs.YtfiihhedihkdoaaGreat
namespace Go.Proofs.YtfiihhedihkdoaaGreat
open Go
set_option linter.unusedSimpArgs false
set_option linter.unusedVariables false
set_option maxRecDepth 100000
set_option maxHeartbeats 2000000
theorem zr1 {w:List Data} (hs:WSmall w) (hv:zaY w=true):Dp w:=by
 have hw:=zgU hs hv
 have hW:=(zdy w).1 hv
 refine⟨hw,fun s hs c hc u hu=>?_,hW.len,fun s hs=>?_⟩
 ·obtain⟨j,rfl,hj⟩:=zoL (d:=s / 4) (k:=((s % 4:Nat):Int)) hc
  have hu':u∈zag w ⟨((s / 4:Nat):Int),((s % 4:Nat):Int)⟩ (j:Int):=hu
  simp only[zag,Int.toNat_natCast,List.mem_map] at hu'
  obtain⟨x,hx,rfl⟩:=hu'
  have hco:=hW.ctor _ (zae (l:=w) (i:=s / 4) (by omega)) _ (zae hj)
  simp only[zaN,Bool.and_eq_true,Bool.not_eq_true',List.any_eq_false] at hco
  have hax:zbr w.length x=true:=by
   have:=hco.2.2.2 x hx
   cases h:zbr w.length x with
   |true=>rfl
   |false=>rw[h] at this;exact absurd rfl this
  have hci:=hco.2.2.1
  simp only[zbr,zaf,Bool.or_eq_true,Bool.and_eq_true,decide_eq_true_eq,and_true] at hax hci
  have key:∀y:Ty,(y.data = -1∨(0≤y.data∧y.data<w.length∧0≤y.index∧y.index≤3))→InS (w.length*4) y:=by
   rintro ⟨a,k⟩ h
   rcases h with h|⟨h1,h2,h3,h4⟩
   ·exact .inl h
   ·refine .inr ⟨?_, ?_⟩
    ·simp only[zcR] at *;omega
    ·obtain⟨i,rfl⟩:=Int.eq_ofNat_of_zero_le h1
     obtain⟨m,rfl⟩:=Int.eq_ofNat_of_zero_le h3
     simp only[zcR,Int.toNat_natCast]
     exact zhP (by simp only at h4;omega)
  refine key _ ?_
  unfold zbj zbC
  split
  ·dsimp only
   rcases hax with h|h
   ·omega
   ·right
    refine⟨by omega,by omega, ?_⟩
    split<;>omega
  ·rcases hax with h|h
   ·exact .inl h.1
   ·right;omega
 ·have h1:=zfQ (tyS s).index (nth w (tyS s).data.toNat).ctors 0
  have h2:=(hW.data _ (zae (l:=w) (i:=s / 4) (by omega))).2.2
  show(za0 (tyS s).index 0 (nth w (tyS s).data.toNat).ctors).length≤4
  have e:(tyS s).data.toNat=s / 4:=by simp only[tyS,Int.toNat_natCast]
  rw[e] at h1 ⊢
  omega
theorem zcI {n:Nat}{t:Ty} (h:InS (n*4) t):TyIn n t:=by
 rcases h with h|⟨h1,h2⟩
 ·exact .inl h
 ·refine .inr ⟨zcR t / 4, ?_,by omega⟩
  have:=congrArg Ty.data h2
  exact this.symm
theorem zco {w:List Data} (hd:Dp w){t:Ty}{c:Int} (ht:InS (w.length*4) t) (hc:c∈zat w t):∀u∈zag w t c,InS (w.length*4) u:=by
 rcases ht with h|⟨h1,h2⟩
 ·unfold zat at hc;rw[if_pos h] at hc;simp at hc
 ·have hx:=hd.cl _ h1
  rw[h2] at hx
  have:c∈zbf w t:=by
   unfold zat at hc
   split at hc
   ·simp at hc
   ·exact hc
  exact hx c this
theorem ziE {w:List Data}{a k k' c:Int}:(zag w ⟨a,k⟩ c).length=(zag w ⟨a,k'⟩ c).length∧∀i,(nth (zag w ⟨a,k⟩ c) i).data=(nth (zag w ⟨a,k'⟩ c) i).data:=by
 have hd:∀(k:Int) (t:Ty),(zbj k t).data=t.data:=fun k t=>by unfold zbj;split<;>rfl
 refine⟨by simp[zag],fun i=>?_⟩
 unfold zag
 dsimp only
 generalize nth (nth w a.toNat).ctors c.toNat=q
 simp only[nth,List.getD_eq_getElem?_getD,List.getElem?_map]
 cases q.args[i]? with
 |none=>rfl
 |some x=>simp only[Option.map_some,Option.getD_some,hd]
structure PKids (w:List Data) (n:Nat) (a k k':Int) (p:Pat):Prop where
 len5:p.op=5→p.kids.length=2
 len6:p.op=6→p.kids.length=1
 len4:p.op=4→p.kids.length=(zag w ⟨a,k⟩ p.ctor).length
 one:p.op=5∨p.op=6→zar w n ⟨a,k'⟩ (nth p.kids 0)=true
 two:p.op=5→zar w n ⟨a,k'⟩ (nth p.kids 1)=true
 arg:p.op=4→∀i,i<(zag w ⟨a,k⟩ p.ctor).length→zar w n ⟨(nth (zag w ⟨a,k⟩ p.ctor) i).data,(nth (zag w ⟨a,k'⟩ p.ctor) i).index⟩ (nth p.kids i)=true
 mem:p.op=4→p.ctor∈zat w ⟨a,k'⟩
 ops:p.op=1∨p.op=2∨(p.op=3∧a = -1)∨p.op=4∨p.op=5∨p.op=6
theorem zu2 {w:List Data}{n:Nat}{a k k':Int}{p:Pat} (h:zar w (n+1) ⟨a,k'⟩ p=true):PKids w n a k k' p:=by
 obtain⟨ho,hl⟩:=zbX h
 have hk:=fun i (hi:i<p.kids.length)=>zbW h hi
 have ht4:p.op=4→zac w ⟨a,k'⟩ p=zag w ⟨a,k'⟩ p.ctor:=fun h=>by unfold zac;rw[if_pos h]
 have ht5:p.op=5→zac w ⟨a,k'⟩ p=[⟨a,k'⟩,⟨a,k'⟩]:=fun h=>by unfold zac;rw[if_neg (by omega),if_pos h]
 have ht6:p.op=6→zac w ⟨a,k'⟩ p=[⟨a,k'⟩]:=fun h=>by unfold zac;rw[if_neg (by omega),if_neg (by omega),if_pos h]
 have l5:p.op=5→p.kids.length=2:=fun h=>by rw[hl,ht5 h];rfl
 have l6:p.op=6→p.kids.length=1:=fun h=>by rw[hl,ht6 h];rfl
 refine⟨l5,l6,fun h=>by rw[hl,ht4 h,ziE.1],fun h=>?_,fun h=>?_,fun h i hi=>?_,zcs ho, ?_⟩
 ·rcases h with h|h
  ·have:=hk 0 (by rw[l5 h];omega);rwa [ht5 h] at this
  ·have:=hk 0 (by rw[l6 h];omega);rwa [ht6 h] at this
 ·have:=hk 1 (by rw[l5 h];omega);rwa [ht5 h] at this
 ·rw[(ziE (k':=k')).1] at hi
  have:=hk i (by rw[hl,ht4 h];exact hi)
  rw[ht4 h] at this
  rw[(ziE (k':=k')).2]
  exact this
 ·unfold ownP at ho
  have:=of_decide_eq_true ho
  obtain⟨_,_,_,_,q⟩:=this
  simp only at q
  omega
theorem zjH {w:List Data} (hd:Dp w):FnD Tryz.prog 36 [.d (zak w)] [] (.d (sPtr w (zaX w))) []:=by
 refine bd Tryz.f36 8 [] [999999] fun w0 F0 own kept hk=>?_
 refine Walk.call (cr:=[]) zuE (zkf hd) rfl .none rfl rfl (LeL.refl _) trivial rfl rfl rfl ?_
 refine Walk.build zu5 (ks:=[0,1]) (xs:=[_,_]) rfl rfl .none rfl rfl rfl ?_
 refine Walk.box (id:=3007) .none rfl rfl rfl rfl rfl rfl rfl ?_
 refine ev ?_
 refine CWp.frzB hk 2 3007 0 rfl rfl rfl rfl ?_
 refine CWp.ret ?_
 focus (refine rn0 (r1 rfl) (.refl _);all_goals (first|rfl|(simp[];done)|(simp_all;done)|(simp_all;omega)|omega))
theorem zdJ {w:List Data}{a k:Int} (h:zbA w ⟨a,k⟩=true):zaY w=true∧TyIn w.length ⟨a,k⟩∧(a≠ -1→0≤a∧a.toNat<w.length∧0≤k∧k≤3):=by
 unfold zbA at h
 rw[Bool.and_eq_true] at h
 obtain⟨h1,h2⟩:=h
 simp only[zbh,zaf,Bool.or_eq_true,Bool.and_eq_true,decide_eq_true_eq,and_true] at h2
 refine⟨h1, ?_,fun ha=>by omega⟩
 rcases h2 with h|h
 ·exact .inl h.1
 ·exact .inr ⟨a.toNat,by simp only;omega,by omega⟩
theorem zq8 {n d j:Nat} (hd:d<n) (hj:j<4):InS (n*4) ⟨(d:Int),(j:Int)⟩:=
 .inr ⟨by simp only[zcR,Int.toNat_natCast];omega,by simp only[zcR,Int.toNat_natCast];exact zhP hj⟩
structure PVal (w:List Data) (a k:Int) (p:Pat):Prop where
 dp:Dp w
 tin:TyIn w.length ⟨a,k⟩
 shape:zar w 10 ⟨a,k⟩ p=true
 rng:a≠ -1→0≤a∧a.toNat<w.length∧0≤k∧k≤3
theorem zkw {w:List Data}{a b:Int} (hs:WSmall w):FnD Tryz.prog 56 [.d (zak w),.agg [.d (.i a),.d (.i b)]] [] (.d (.bool (zbA w ⟨a,b⟩))) []:=by
 rw[←zsS];exact zjS hs
def zbb (w:List Data) (f:Nat→Nat):Nat→Ty→Pat→Bool
 |0,_,_=>true
 |n+1,t,p=>
  if p.op=1∨p.op=2 then decide (dv f t=0)
  else if p.op=5 then zbb w f n t (nth p.kids 0)&&zbb w f n t (nth p.kids 1)
  else !(all2 (fun u q=> !zbb w f n u q) (zac w t p) p.kids)
theorem zft {w:List Data}{f:Nat→Nat}{n:Nat}{t:Ty}{p:Pat}:zbb w f (n+1) t p=if p.op=1∨p.op=2 then decide (dv f t=0)
  else if p.op=5 then zbb w f n t (nth p.kids 0)&&zbb w f n t (nth p.kids 1)
  else !(all2 (fun u q=> !zbb w f n u q) (zac w t p) p.kids):=rfl
theorem zrz {α β:Type} [Inhabited α] [Inhabited β]{f:α→β→Bool}{a:List α}{b:List β} (hl:a.length=b.length) (h:all2 f a b=true):∀i,i<a.length→f (nth a i) (nth b i)=true:=fun i hi=>by
 cases hf:f (nth a i) (nth b i) with
 |true=>rfl
 |false=>rw[zbq hi hl hf] at h;exact absurd h (by simp)
theorem zrw {w:List Data}{t:Ty}{c:Int} (h:c∈zat w t):c∈zbf w t:=by
 unfold zat at h
 split at h
 ·simp at h
 ·exact h
theorem zki {w:List Data} (hw:WT w){a k:Int}{p:Pat} (ht:TyIn w.length ⟨a,k⟩):
  FnD Tryz.prog 178 [.d (zak w),.agg [.d (.i a),.d (.i k)],.agg [.d (.i p.op),.d (.i p.ctor),.d (.i p.n),.d (.i p.m),.d (.i p.var),.d (zad p.kids)]] [] (.d (zby (zcL w ⟨a,k⟩ p))) []:=by
 have hsh:=zim hw (p:=p) ht
 refine bd Tryz.f178 17 [] [] fun w0 F0 own kept hk=>?_
 refine Walk.box (id:=3004) .none rfl rfl rfl rfl rfl rfl rfl ?_
 refine Walk.box (id:=3005) .none rfl rfl rfl rfl rfl rfl rfl ?_
 refine ev ?_
 refine Walk.call (cr:=[]) zod (hsh) rfl .none rfl rfl (LeL.refl _) trivial rfl rfl rfl ?_
 refine ev ?_
 refine rn0 (r1 rfl) (.eqd ?_)
 rotate_left
 all_goals (rfl)
theorem zcH {w:List Data} (hd:Dp w){f:Nat→Nat}:∀(n:Nat){a k:Int}{p:Pat},zar w n ⟨a,k⟩ p=true→InS (w.length*4) ⟨a,k⟩→p.ok→
  FnD Tryz.prog 128 [.d (sPtr w f),.agg [.d (.i a),.d (.i k)],.agg [.d (.i p.op),.d (.i p.ctor),.d (.i p.n),.d (.i p.m),.d (.i p.var),.d (zad p.kids)]] [] (.d (.bool (zbb w f n ⟨a,k⟩ p))) []
 |0,a,k,p,h,_,_=>by simp[zar] at h
 |n+1,a,k,p,h,hi,hok=>by
  rw[Pat.ok_iff] at hok
  have hw:=hd.wt
  have hw4:=hd.four
  have ht:=zcI hi
  have pk:=zu2 (k:=k) h
  obtain⟨ho,hlen⟩:=zbX h
  have hkid:=fun i (hi:i<p.kids.length)=>zbW h hi
  have hops:=pk.ops
  have l5:=pk.len5
  have hk1:=pk.one
  have hk2:=pk.two
  have hsT:zcL w ⟨a,k⟩ p=zac w ⟨a,k⟩ p:=by
   unfold zcL;rw[if_neg (fun h=>h.2 (pk.mem h.1))]
  have hkt:=zki hw (p:=p) ht
  rw[hsT] at hkt
  have hins:∀i,i<(zac w ⟨a,k⟩ p).length→InS (w.length*4) (nth (zac w ⟨a,k⟩ p) i):=fun i hl=>by
   have hm:=zae hl
   unfold zac at hm ⊢
   split
   ·rename_i h4
    rw[if_pos h4] at hm
    exact zco hd hi (pk.mem h4) _ hm
   ·rename_i h4
    rw[if_neg h4] at hm
    split
    ·rename_i h5
     rw[if_pos h5] at hm
     simp only[List.mem_cons,List.not_mem_nil,or_false,or_self] at hm
     rw[hm];exact hi
    ·rename_i h5
     rw[if_neg h5] at hm
     split
     ·rename_i h6
      rw[if_pos h6] at hm
      simp only[List.mem_cons,List.not_mem_nil,or_false] at hm
      rw[hm];exact hi
     ·rename_i h6
      rw[if_neg h6] at hm
      simp at hm
  have htl:(zac w ⟨a,k⟩ p).length≤1000000000000:=by have:=hok.1;omega
  refine bd Tryz.f128 61 [] [] fun w0 F0 own kept hk=>?_
  refine Walk.box (id:=3004) .none rfl rfl rfl rfl rfl rfl rfl ?_
  refine Walk.box (id:=3005) .none rfl rfl rfl rfl rfl rfl rfl ?_
  refine ev ?_
  refine sq (fun h1 h1p h1s=>?_) fun h1 h1p h1s=>?_
  try simp only[Q,Pat.cs_len] at h1p
  refine sq (fun h2 h2p h2s=>?_) fun h2 h2p h2s=>?_
  try simp only[Q,Pat.cs_len] at h2p
  refine Walk.call (cr:=[]) ziG (zla (n:=w.length*4) (f:=f) hi (by omega)) rfl .none rfl rfl (LeL.refl _) trivial rfl rfl rfl ?_
  refine evd [] [] ?_
  refine dr ?_
  refine rn0 (r1 rfl) (.eqd ?_)
  rotate_left
  try simp only[Q,Pat.cs_len] at h2p
  refine sq (fun h3 h3p h3s=>?_) fun h3 h3p h3s=>?_
  try simp only[Q,Pat.cs_len] at h3p
  refine Walk.idx (i:=0) sl28 .none rfl rfl rfl rfl (zaC (by omega)) rfl ?_
  refine evd [] [] ?_
  refine Walk.call (cr:=[]) zgz (zcH hd n (hk1 (by omega)) hi (Pats.ok_mem hok.2 _ (zae (i:=0) (by omega)))) rfl .none rfl rfl (LeL.refl _) trivial rfl rfl rfl ?_
  refine evd [] [] ?_
  refine sq (fun h4 h4p h4s=>?_) fun h4 h4p h4s=>?_
  try simp only[Q,Pat.cs_len] at h4p
  refine Walk.idx (i:=1) sl28 (.some rfl rfl h4) rfl rfl rfl rfl (zaC (by omega)) rfl ?_
  refine evd [] [(30,true)] ?_ ⟨⟨_,rfl,h4⟩,trivial⟩
  refine Walk.call (cr:=[]) zgz (zcH hd n (hk2 (by omega)) hi (Pats.ok_mem hok.2 _ (zae (i:=1) (by omega)))) rfl (.some rfl rfl h4) rfl rfl (LeL.refl _) trivial rfl rfl rfl ?_
  refine evd [] [(30,true)] ?_ ⟨⟨_,rfl,h4⟩,trivial⟩
  refine dr ?_
  refine rn0 (r1 rfl) (.eqd ?_)
  rotate_left
  try simp only[Q,Pat.cs_len] at h4p
  refine dr ?_
  refine rn0 (r1 rfl) (.eqd ?_)
  rotate_left
  try simp only[Q,Pat.cs_len] at h3p
  refine Walk.call (cr:=[]) zqD (hkt) rfl .none rfl rfl (LeL.refl _) trivial rfl rfl rfl ?_
  refine evd [] [] ?_
  refine dr ?_
  refine CWp.loopX (ι:=Nat) hk (fun i=>[(47,.d (.i (i:Int)))]) [6,7,8,48,49,50,51,52,53,54,55,56,57,58,59,60] (fun i=>[]) (fun i=>i≤(zac w ⟨a,k⟩ p).length∧∀i',i'<i→zbb w f n (nth (zac w ⟨a,k⟩ p) i') (nth p.kids i')=false) (fun i=>(zac w ⟨a,k⟩ p).length-i) 0 ⟨by omega,fun _ h=>absurd h (by omega)⟩ ⟨⟨_,rfl,(LeA.eqi (by first|rfl|(simp;done)|(simp_all;done)|omega))⟩,trivial⟩ trivial (fun x=>rfl) (fun i hg1=>?_)
  refine evc [] [] ?_
  refine sq (fun h5 h5p h5s=>?_) fun h5 h5p h5s=>?_
  try simp only[Q,Pat.cs_len] at h5p
  refine Walk.idx zaS .none rfl rfl rfl rfl (zam (by omega)) rfl ?_
  refine ev ?_
  refine Walk.alloc (id:=3008) tz33 rfl .none rfl rfl rfl rfl ?_
  refine ev ?_
  refine Walk.store ty33 .none rfl rfl rfl rfl rfl rfl (by simp) rfl ?_
  refine tv ?_
  refine Walk.idx sl28 .none rfl rfl rfl rfl (zaC (by omega)) rfl ?_
  refine evd [] [] ?_
  refine Walk.call (cr:=[]) zgz (zcH hd n (hkid i (by omega)) (hins i (by omega)) (Pats.ok_mem hok.2 _ (zae (by omega)))) rfl .none rfl rfl (LeL.refl _) trivial rfl rfl rfl ?_
  refine dr ?_
  refine sq (fun h6 h6p h6s=>?_) fun h6 h6p h6s=>?_
  try simp only[Q,Pat.cs_len] at h6p
  refine rn0 (r1 rfl) (.eqd ?_)
  rotate_left
  try simp only[Q,Pat.cs_len] at h6p
  refine ar ?_
  refine Exists.intro (i+1) ⟨⟨by omega,zaF hg1.2 (by assumption)⟩,(by omega),Sub.x (by kernel_rfl) (by kernel_rfl) ⟨⟨_,rfl,(LeA.eqi (by first|rfl|(simp;done)|(simp_all;done)|omega))⟩,trivial⟩ (by kernel_rfl) (by kernel_rfl) trivial⟩
  try simp only[Q,Pat.cs_len] at h5p
  refine rn0 (r1 rfl) (.eqd ?_)
  rotate_left
  try simp only[Q,Pat.cs_len] at h1p
  refine sq (fun h7 h7p h7s=>?_) fun h7 h7p h7s=>?_
  try simp only[Q,Pat.cs_len] at h7p
  refine Walk.call (cr:=[]) ziG (zla (n:=w.length*4) (f:=f) hi (by omega)) rfl .none rfl rfl (LeL.refl _) trivial rfl rfl rfl ?_
  refine evd [] [] ?_
  refine dr ?_
  refine rn0 (r1 rfl) (.eqd ?_)
  rotate_left
  try simp only[Q,Pat.cs_len] at h7p
  refine sq (fun h8 h8p h8s=>?_) fun h8 h8p h8s=>?_
  try simp only[Q,Pat.cs_len] at h8p
  refine Walk.idx (i:=0) sl28 .none rfl rfl rfl rfl (zaC (by omega)) rfl ?_
  refine evd [] [] ?_
  refine Walk.call (cr:=[]) zgz (zcH hd n (hk1 (by omega)) hi (Pats.ok_mem hok.2 _ (zae (i:=0) (by omega)))) rfl .none rfl rfl (LeL.refl _) trivial rfl rfl rfl ?_
  refine evd [] [] ?_
  refine sq (fun h9 h9p h9s=>?_) fun h9 h9p h9s=>?_
  try simp only[Q,Pat.cs_len] at h9p
  refine Walk.idx (i:=1) sl28 (.some rfl rfl h9) rfl rfl rfl rfl (zaC (by omega)) rfl ?_
  refine evd [] [(30,true)] ?_ ⟨⟨_,rfl,h9⟩,trivial⟩
  refine Walk.call (cr:=[]) zgz (zcH hd n (hk2 (by omega)) hi (Pats.ok_mem hok.2 _ (zae (i:=1) (by omega)))) rfl (.some rfl rfl h9) rfl rfl (LeL.refl _) trivial rfl rfl rfl ?_
  refine evd [] [(30,true)] ?_ ⟨⟨_,rfl,h9⟩,trivial⟩
  refine dr ?_
  refine rn0 (r1 rfl) (.eqd ?_)
  rotate_left
  try simp only[Q,Pat.cs_len] at h9p
  refine dr ?_
  refine rn0 (r1 rfl) (.eqd ?_)
  rotate_left
  try simp only[Q,Pat.cs_len] at h8p
  refine Walk.call (cr:=[]) zqD (hkt) rfl .none rfl rfl (LeL.refl _) trivial rfl rfl rfl ?_
  refine evd [] [] ?_
  refine dr ?_
  refine CWp.loopX (ι:=Nat) hk (fun i=>[(47,.d (.i (i:Int)))]) [6,7,8,48,49,50,51,52,53,54,55,56,57,58,59,60] (fun i=>[]) (fun i=>i≤(zac w ⟨a,k⟩ p).length∧∀i',i'<i→zbb w f n (nth (zac w ⟨a,k⟩ p) i') (nth p.kids i')=false) (fun i=>(zac w ⟨a,k⟩ p).length-i) 0 ⟨by omega,fun _ h=>absurd h (by omega)⟩ ⟨⟨_,rfl,(LeA.eqi (by first|rfl|(simp;done)|(simp_all;done)|omega))⟩,trivial⟩ trivial (fun x=>rfl) (fun i hg1=>?_)
  refine evc [] [] ?_
  refine sq (fun h10 h10p h10s=>?_) fun h10 h10p h10s=>?_
  try simp only[Q,Pat.cs_len] at h10p
  refine Walk.idx zaS .none rfl rfl rfl rfl (zam (by omega)) rfl ?_
  refine ev ?_
  refine Walk.alloc (id:=3008) tz33 rfl .none rfl rfl rfl rfl ?_
  refine ev ?_
  refine Walk.store ty33 .none rfl rfl rfl rfl rfl rfl (by simp) rfl ?_
  refine tv ?_
  refine Walk.idx sl28 .none rfl rfl rfl rfl (zaC (by omega)) rfl ?_
  refine evd [] [] ?_
  refine Walk.call (cr:=[]) zgz (zcH hd n (hkid i (by omega)) (hins i (by omega)) (Pats.ok_mem hok.2 _ (zae (by omega)))) rfl .none rfl rfl (LeL.refl _) trivial rfl rfl rfl ?_
  refine dr ?_
  refine sq (fun h11 h11p h11s=>?_) fun h11 h11p h11s=>?_
  try simp only[Q,Pat.cs_len] at h11p
  refine rn0 (r1 rfl) (.eqd ?_)
  rotate_left
  try simp only[Q,Pat.cs_len] at h11p
  refine ar ?_
  refine Exists.intro (i+1) ⟨⟨by omega,zaF hg1.2 (by assumption)⟩,(by omega),Sub.x (by kernel_rfl) (by kernel_rfl) ⟨⟨_,rfl,(LeA.eqi (by first|rfl|(simp;done)|(simp_all;done)|omega))⟩,trivial⟩ (by kernel_rfl) (by kernel_rfl) trivial⟩
  try simp only[Q,Pat.cs_len] at h10p
  refine rn0 (r1 rfl) (.eqd ?_)
  rotate_left
  all_goals (refine congrArg D.bool ?_;rw[zft];first|(rw[if_pos (by omega)];exact decide_eq_decide.2 (by omega))|(rw[if_neg (by omega),if_pos (by omega)];first|rfl|(simp_all;done))|(rw[if_neg (by omega),if_neg (by omega)];first|(rw[zbq (i:=i) (by omega) (by omega) (by show(!_)=false;rw[Bool.not_eq_false'];assumption)];rfl)|(rw[zbE (by omega) (fun x hx=>by have:=hg1.2 x (by omega);simp_all)];rfl)))
mutual
theorem zqn:∀v:Val,zqm v v=true
 | .mk _ _ ks=>by simp[zqm,zj4 ks]
theorem zj4:∀l:List Val,zl9 l l=true
 | []=>rfl
 |v::r=>by simp[zl9,zqn v,zj4 r]
end
theorem Val.c_len (v:Val):v.c.length=3:=by cases v;rfl
theorem Val.cs_rows {l:List Val}:∀x,x∈Val.cs l→x.length=3:=by
 intro x hx
 rw[Val.cs_eq] at hx
 obtain⟨y,_,rfl⟩:=List.mem_map.1 hx
 exact y.c_len
theorem Val.cs_nil (l:List Val):Val.cs l=[]↔l=[]:=by rw[Val.cs_eq];simp
mutual
def mVal:Val→Nat
 | .mk _ _ ks=>zlt ks
def zlt:List Val→Nat
 | []=>0
 |v::r=>1+mVal v+zlt r
end
mutual
def Val.szM:Val→Int
 | .mk _ _ ks=>2+Vals.szM ks
def Vals.szM:List Val→Int
 | []=>0
 |v::r=>v.szM+Vals.szM r
end
mutual
def Val.one (k:Int):Val→Val
 | .mk _ _ ks=> .mk k (k+1) (Vals.one (k+1+1) ks)
def Vals.one (k:Int):List Val→List Val
 | []=>[]
 |v::r=>v.one k::Vals.one (k+v.szM) r
end
theorem Vals.szM_eq:∀l:List Val,Vals.szM l=szL Val.szM l
 | []=>rfl
 |v::r=>by simp only[Vals.szM,szL,Vals.szM_eq r]
theorem Vals.one_eq:∀(l:List Val) (k:Int),Vals.one k l=mkL Val.one Val.szM k l
 | [],_=>rfl
 |v::r,k=>by simp only[Vals.one,mkL,Vals.one_eq r]
theorem Val.szM_kids (v:Val):v.szM=2+szL Val.szM v.kids:=by cases v;simp only[Val.szM,Val.kids,Vals.szM_eq]
theorem Val.one_kids (v:Val) (k:Int):(v.one k).kids=mkL Val.one Val.szM (k+1+1) v.kids:=by cases v;simp only[Val.one,Val.kids,Vals.one_eq]
theorem Val.one_sc (v:Val) (k:Int):(Val.one k v).ctor=k∧(Val.one k v).num=k+1:=by cases v;exact⟨rfl,rfl⟩
mutual
theorem Val.szM_nn:∀v:Val,0≤v.szM
 | .mk _ _ ks=>by have:=Vals.szM_nn ks;simp only[Val.szM];omega
theorem Vals.szM_nn:∀l:List Val,0≤Vals.szM l
 | []=>by simp[Vals.szM]
 |v::r=>by have:=Val.szM_nn v;have:=Vals.szM_nn r;simp only[Vals.szM];omega
end
mutual
theorem Val.szM_le:∀v:Val,v.szM≤2+2*(mVal v:Int)
 | .mk _ _ ks=>by have:=Vals.szM_le ks;simp only[Val.szM,mVal];omega
theorem Vals.szM_le:∀l:List Val,Vals.szM l≤2*(zlt l:Int)
 | []=>by simp[Vals.szM,zlt]
 |v::r=>by have:=Val.szM_le v;have:=Vals.szM_le r;simp only[Vals.szM,zlt];omega
end
def zsi (w:List Data):Nat→Ty→Val→Bool
 |0,_,_=>false
 |n+1,t,v=>if t.data = -1 then decide (v.ctor = -1)&&(decide (0≤v.num)&&(decide (v.num≤9)&&decide (v.kids.length=0)))
   else if v.num=0∧v.ctor∈zbf w t then all2 (zsi w n) (zag w t v.ctor) v.kids else false
mutual
def cntV (m:Int):Val→Int
 | .mk _ _ ks=>cntL m 1 ks
def cntL (m n:Int):List Val→Int
 | []=>n
 |k::r=>if n≤m then cntL m (n+cntV (m-n) k) r else n
end
theorem zqR {m n:Int}{l:List Val} (h:¬n≤m):cntL m n l=n:=by cases l<;>simp[cntL,h]
mutual
theorem zpB:∀(v:Val) (m:Int),1≤cntV m v∧cntV m v≤v.size
 | .mk _ _ ks,m=>by
  have:=zme ks m 1 (by omega)
  simp only[cntV,Val.size];push_cast;omega
theorem zme:∀(l:List Val) (m n:Int),1≤n→1≤cntL m n l∧cntL m n l≤n+Vals.size l
 | [],m,n,h=>by simp[cntL,Vals.size];omega
 |k::r,m,n,h=>by
  have h1:=zpB k (m-n)
  have h2:=zme r m (n+cntV (m-n) k) (by omega)
  simp only[cntL,Vals.size]
  split
  ·push_cast;omega
  ·push_cast;omega
end
mutual
theorem zrE:∀(v:Val) (m:Int),(cntV m v≤m↔(v.size:Int)≤m)∧(cntV m v≤m→cntV m v=v.size)
 | .mk _ _ ks,m=>by
  have:=zog ks m 1
  simp only[cntV,Val.size];push_cast;exact this
theorem zog:∀(l:List Val) (m n:Int),(cntL m n l≤m↔n+(Vals.size l:Int)≤m)∧(cntL m n l≤m→cntL m n l=n+Vals.size l)
 | [],m,n=>by simp[cntL,Vals.size]
 |k::r,m,n=>by
  have h1:=zrE k (m-n)
  have h2:=zog r m (n+cntV (m-n) k)
  have h3:=zme r m (n+cntV (m-n) k)
  have h4:=zpB k (m-n)
  simp only[cntL,Vals.size]
  push_cast
  by_cases hn:n≤m
  ·rw[if_pos hn]
   by_cases h5:cntV (m-n) k≤m-n
   ·have h6:=h1.2 h5
    rw[h6] at h2 ⊢
    constructor
    ·rw[h2.1];constructor<;>intro h<;>omega
    ·intro h;rw[h2.2 h];omega
   ·have h7:¬(k.size:Int)≤m-n:=fun h=>h5 (h1.1.2 h)
    have h8:¬n+cntV (m-n) k≤m:=by omega
    rw[zqR h8]
    constructor
    ·constructor<;>intro h<;>omega
    ·intro h;omega
  ·rw[if_neg hn]
   constructor
   ·constructor<;>intro h<;>omega
   ·intro h;omega
end
theorem Vals.size_split {pre rest l:List Val}{y:Val} (h:pre++y::rest=l):Vals.size l=Vals.size pre+y.size+Vals.size rest:=by
 subst h
 induction pre with
 |nil=>simp[Vals.size]
 |cons x r ih=>simp only[List.cons_append,Vals.size,ih];omega
structure Bd where
 var:Int
 val:Val
def Bd.c (b:Bd):List D:=[.i b.var,.i b.val.ctor,.i b.val.num,zsI b.val.kids]
instance:Inhabited Bd:=⟨⟨0,default⟩⟩
def BdOk (m:Nat) (l:List Bd):Prop:=∀x∈l,x.val.ok∧x.val.size≤m
theorem BdOk.app {m:Nat}{a b:List Bd} (h1:BdOk m a) (h2:BdOk m b):BdOk m (a++b):=fun x hx=>by
 rcases List.mem_append.1 hx with h|h
 ·exact h1 x h
 ·exact h2 x h
theorem BdOk.mono {m k:Nat}{a:List Bd} (h:BdOk m a) (hk:m≤k):BdOk k a:=fun x hx=>⟨(h x hx).1,Nat.le_trans (h x hx).2 hk⟩
theorem ztZ {w:List Data}{t:Ty}{p:Pat} (h:p.op=5):zac w t p=[t,t]:=by unfold zac;rw[if_neg (by omega),if_pos h]
theorem zt0 {w:List Data}{t:Ty}{p:Pat} (h:p.op=6):zac w t p=[t]:=by unfold zac;rw[if_neg (by omega),if_neg (by omega),if_pos h]
theorem zbI {w:List Data}{t:Ty}{p:Pat} (h:p.op=4):zac w t p=zag w t p.ctor:=by unfold zac;rw[if_pos h]
theorem zrU {w:List Data}{n:Nat}{t:Ty}{p:Pat} (h:zar w (n+1) t p=true):p.op=1∨p.op=2∨p.op=3∨p.op=4∨p.op=5∨p.op=6:=by
 have h1:=(zbX h).1
 unfold ownP at h1
 have h2:=(of_decide_eq_true h1).2.2.2.2
 omega
theorem zjb {w:List Data}{n:Nat}{t:Ty}{p:Pat} (h:zar w (n+1) t p=true) (h5:p.op=5):p.kids.length=2∧zar w n t (nth p.kids 0)=true∧zar w n t (nth p.kids 1)=true:=by
 have hl:=(zbX h).2
 have h0:=fun i hi=>zbW h (i:=i) hi
 rw[ztZ h5] at hl h0
 have hl':p.kids.length=2:=hl
 exact⟨hl',h0 0 (by omega),h0 1 (by omega)⟩
theorem zja {w:List Data}{n:Nat}{t:Ty}{p:Pat} (h:zar w (n+1) t p=true) (h6:p.op=6):p.kids.length=1∧zar w n t (nth p.kids 0)=true:=by
 have hl:=(zbX h).2
 have h0:=fun i hi=>zbW h (i:=i) hi
 rw[zt0 h6] at hl h0
 have hl':p.kids.length=1:=hl
 exact⟨hl',h0 0 (by omega)⟩
inductive Ex where
 |mk (op n ctor:Int) (kids:List Ex)
 deriving Inhabited
mutual
def Ex.c:Ex→List D
 | .mk op n ctor kids=>[.i op,.i n,.i ctor,.sl (Ex.cs kids)]
def Ex.cs:List Ex→List (List D)
 | []=>[]
 |v::r=>v.c::Ex.cs r
end
abbrev zbi (l:List Ex):D:= .sl (Ex.cs l)
theorem Ex.cs_eq:∀l:List Ex,Ex.cs l=l.map Ex.c
 | []=>rfl
 |v::r=>by simp[Ex.cs,Ex.cs_eq r]
theorem Ex.cs_len (l:List Ex):(Ex.cs l).length=l.length:=by simp[Ex.cs_eq]
def Ex.op:Ex→Int | .mk a0 _ _ _=>a0
def Ex.n:Ex→Int | .mk _ a1 _ _=>a1
def Ex.ctor:Ex→Int | .mk _ _ a2 _=>a2
def Ex.kids:Ex→List Ex | .mk _ _ _ k=>k
abbrev Ex.cc (v:Ex):List D:=[.i v.op,.i v.n,.i v.ctor,.sl (Ex.cs v.kids)]
theorem Ex.c_eq (v:Ex):v.c=v.cc:=by cases v;rfl
theorem Ex.eta (v:Ex):Ex.mk v.op v.n v.ctor v.kids=v:=by cases v;rfl
theorem Ex.cs_at' {pre:List Ex}{x:Ex}{rest xs:List Ex} (h:pre++x::rest=xs):(Ex.cs xs)[pre.length]?=some x.cc:=by rw[Ex.cs_eq,←Ex.c_eq];exact zaG h
mutual
def exEq:Ex→Ex→Bool
 | .mk a0 a1 a2 ks,.mk b0 b1 b2 ls=>decide (a0=b0)&&(decide (a1=b1)&&(decide (a2=b2)&&zcC ks ls))
def zcC:List Ex→List Ex→Bool
 | [],[]=>true
 |x::r,y::s=>exEq x y&&zcC r s
 |_,_=>false
end
mutual
def Ex.ok:Ex→Prop
 | .mk _ _ _ ks=>ks.length≤1000000000000∧Exs.ok ks
def Exs.ok:List Ex→Prop
 | []=>True
 |v::r=>v.ok∧Exs.ok r
end
theorem Exs.ok_mem:∀ {l:List Ex},Exs.ok l→∀v,v∈l→v.ok
 |x::r,h,v,hv=>by
  simp only[Exs.ok] at h
  rcases List.mem_cons.1 hv with rfl|hv
  ·exact h.1
  ·exact Exs.ok_mem h.2 v hv
mutual
def Ex.size:Ex→Nat
 | .mk _ _ _ ks=>1+Exs.size ks
def Exs.size:List Ex→Nat
 | []=>0
 |v::r=>v.size+Exs.size r
end
theorem Exs.size_mem:∀ {l:List Ex}{v:Ex},v∈l→v.size≤Exs.size l
 |x::r,v,hv=>by
  simp only[Exs.size]
  rcases List.mem_cons.1 hv with rfl|hv
  ·omega
  ·have:=Exs.size_mem hv;omega
theorem zm0:∀ {a b:List Ex},a.length≠b.length→zcC a b=false
 | [],[],h=>by simp at h
 | [],_::_,_=>by simp[zcC]
 |_::_,[],_=>by simp[zcC]
 |x::r,y::s,h=>by simp[zcC,zm0 (a:=r) (b:=s) (by simpa using h)]
theorem zgC {l:List Ex}{i:Nat} (h:i<l.length):(Ex.cs l)[i]?=some (nth l i).cc:=by
 rw[Ex.cs_eq,←Ex.c_eq];exact zam h
theorem Ex.ok_iff (v:Ex):v.ok↔v.kids.length≤1000000000000∧Exs.ok v.kids:=by cases v;rfl
theorem Ex.size_eq (v:Ex):v.size=1+Exs.size v.kids:=by cases v;rfl
theorem zsJ (v w:Ex):exEq v w=(decide (v.op=w.op)&&(decide (v.n=w.n)&&(decide (v.ctor=w.ctor)&&zcC v.kids w.kids))):=by cases v;cases w;rfl
theorem zk1 {a b:List Ex}{i:Nat} (h:i<a.length) (h2:exEq (nth a i) (nth b i)=false):zcC a b=false:=by
 induction i generalizing a b with
 |zero=>
  cases a with
  |nil=>simp at h
  |cons x r=>
   cases b with
   |nil=>simp[zcC]
   |cons y s=>simp[nth] at h2;simp[zcC,h2]
 |succ i ih=>
  cases a with
  |nil=>simp at h
  |cons x r=>
   cases b with
   |nil=>simp[zcC]
   |cons y s=>simp only[zcC];rw[ih (a:=r) (b:=s) (by simpa using h) (by simpa [nth] using h2)];simp
theorem zmk {a b:List Ex} (hl:a.length=b.length) (h:∀i,i<a.length→exEq (nth a i) (nth b i)=true):zcC a b=true:=by
 induction a generalizing b with
 |nil=>cases b with
  |nil=>simp[zcC]
  |cons y s=>simp at hl
 |cons x r ih=>cases b with
  |nil=>simp at hl
  |cons y s=>
   have h0:=h 0 (by simp)
   simp only[zcC]
   rw[ih (by simpa using hl) (fun i hi=>by simpa [nth] using h (i+1) (by simpa using hi))]
   simpa [nth] using h0
mutual
theorem zq3:∀v:Ex,exEq v v=true
 | .mk _ _ _ ks=>by simp[exEq,zhY ks]
theorem zhY:∀l:List Ex,zcC l l=true
 | []=>rfl
 |v::r=>by simp[zcC,zq3 v,zhY r]
end
theorem Ex.cs_cc (l:List Ex):Ex.cs l=l.map Ex.cc:=by
 rw[Ex.cs_eq];exact List.map_congr_left (fun v _=>Ex.c_eq v)
mutual
def mEx:Ex→Nat
 | .mk _ _ _ ks=>mExs ks
def mExs:List Ex→Nat
 | []=>0
 |v::r=>1+mEx v+mExs r
end
theorem ztT (v:Ex):mEx v=mExs v.kids:=by cases v;rfl
theorem zpF:∀l:List Ex,mExs l=l.length+(l.map mEx).sum
 | []=>rfl
 |v::r=>by simp only[mExs,zpF r,List.length_cons,List.map_cons,List.sum_cons];omega
theorem zg4 {l:List Ex}{left:Int} (h:l.length≤1000000000000) (k0:0≤left) (k1:left≤1000000000000)
  (hf:∀v∈l,∀q:Int,0≤q→q≤1000000000000→FnD Tryz.prog 138 [.agg [.d (.i v.op),.d (.i v.n),.d (.i v.ctor),.d (zbi v.kids)],.d (.i q)] [] (.d (.i (szr q (mEx v)))) []):
  FnD Tryz.prog 80 [.d (zbi l),.d (.i left)] [] (.d (.i (szr left (mExs l)))) []:=by
 have z:=zbu (left:=left) (mExs l)
 rw[zpF] at z ⊢
 refine bd Tryz.f80 27 [] [] fun w0 F0 own kept hk=>?_
 refine ar ?_ (by first|(constructor<;>omega)|(constructor<;>simp[Ex.cs_len]<;>omega))
 refine sq (fun h1 h1p h1s=>?_) fun h1 h1p h1s=>?_
 try simp only[Q,Ex.cs_len] at h1p
 refine rn0 (r1 rfl) (.eqd ?_)
 rotate_left
 try simp only[Q,Ex.cs_len] at h1p
 refine CWp.loopX (ι:=List (Ex)×List (Ex)×(Int)) hk (fun x=>[(5,.d (.i (x.1.length:Int))),(1,.d (.i x.2.2))]) [4,12,13,14,15,16,17,18,19,20,21,22,23,24,25] (fun x=>[]) (fun x=>x.1++x.2.1=l∧x.2.2=left-l.length-(x.1.map mEx).sum∧0≤x.2.2) (fun x=>x.2.1.length) ([],l,left-l.length) ⟨by simp,by simp,by simp[Ex.cs_len] at *;omega⟩ ⟨⟨_,rfl,(LeA.eqi (by first|rfl|(simp;done)|(simp[Ex.cs_len];done)))⟩,⟨⟨_,rfl,(LeA.eqi (by first|rfl|(simp;done)|(simp[Ex.cs_len];done)))⟩,trivial⟩⟩ trivial (fun x=>rfl) (fun x hg1=>?_)
 obtain⟨pre,rest,v⟩:=x
 dsimp only at hg1 ⊢
 refine evc [] [] ?_
 refine sq (fun h2 h2p h2s=>?_) fun h2 h2p h2s=>?_
 try simp only[Q,Ex.cs_len] at h2p
 rcases rest with _|⟨y,rest⟩
 ·exfalso;simp_all
 refine Walk.idx zsm .none rfl rfl rfl rfl (Ex.cs_at' hg1.1) rfl ?_
 refine ev ?_
 refine Walk.call (cr:=[]) ztb (hf y (by rw[←hg1.1];simp) _ (by omega) (by omega)) rfl .none rfl rfl (LeL.refl _) trivial rfl rfl rfl ?_
 refine ev ?_
 refine sq (fun h3 h3p h3s=>?_) fun h3 h3p h3s=>?_
 try simp only[Q,Ex.cs_len] at h3p
 refine rn0 (r1 rfl) (.eqd ?_)
 rotate_left
 try simp only[Q,Ex.cs_len] at h3p
 refine ar ?_ (by first|(constructor<;>omega)|(constructor<;>simp[Ex.cs_len]<;>omega))
 refine Exists.intro ((pre++[y],rest,szr v (mEx y))) ⟨⟨(by have hz:=hg1.1;rw[←hz];simp),(by have e:=zcl (f:=mEx) hg1.1;have z3:=zbu (left:=v) (mEx y);simp;omega)⟩,(by simp),Sub.x (by kernel_rfl) (by kernel_rfl) ⟨⟨_,rfl,(LeA.eqi (by first|rfl|(simp;done)|(simp[Ex.cs_len];done)))⟩,⟨⟨_,rfl,(LeA.eqi (by first|rfl|(simp;done)|(simp[Ex.cs_len];done)))⟩,trivial⟩⟩ (by kernel_rfl) (by kernel_rfl) trivial⟩
 try simp only[Q,Ex.cs_len] at h2p
 have hrest:rest=[]:=by
  rcases rest with _|⟨a,b⟩
  ·rfl
  ·exfalso;have hz:=congrArg List.length (hg1.1);simp only[List.length_append,List.length_cons,List.length_map] at hz;omega
 subst hrest
 refine rn0 (r1 rfl) (.eqd ?_)
 rotate_left
 all_goals (refine congrArg D.i ?_;first|omega|(have e:=zcl (f:=mEx) hg1.1;have z3:=zbu (left:=v) (mEx y);simp only[Ex.cs_len] at *;omega)|(rw[List.append_nil] at hg1;rw[hg1.1] at hg1;simp only[Ex.cs_len] at *;omega)|(simp only[Ex.cs_len] at *;omega))
theorem zhF:∀(n:Nat){v:Ex}{left:Int},v.size≤n→v.ok→0≤left→left≤1000000000000→FnD Tryz.prog 138 [.agg [.d (.i v.op),.d (.i v.n),.d (.i v.ctor),.d (zbi v.kids)],.d (.i left)] [] (.d (.i (szr left (mEx v)))) []
 |0,v,left,h,_,_,_=>by rw[Ex.size_eq] at h;omega
 |n+1,v,left,h,hok,k0,k1=>by
  rw[Ex.size_eq] at h
  rw[Ex.ok_iff] at hok
  rw[ztT]
  have z:=zbu (left:=left) (mExs v.kids)
  refine bd Tryz.f138 12 [] [] fun w0 F0 own kept hk=>?_
  refine Walk.box (id:=3002) .none rfl rfl rfl rfl rfl rfl rfl ?_
  refine ev ?_
  refine Walk.call (cr:=[]) zsa (zg4 hok.1 k0 k1 (fun x hx q q0 q1=>zhF n (by have:=Exs.size_mem hx;omega) (Exs.ok_mem hok.2 x hx) q0 q1)) rfl .none rfl rfl (LeL.refl _) trivial rfl rfl rfl ?_
  refine ev ?_
  refine sq (fun h1 h1p h1s=>?_) fun h1 h1p h1s=>?_
  try simp only[Q] at h1p
  refine rn0 (r1 rfl) (.eqd ?_)
  rotate_left
  try simp only[Q] at h1p
  refine rn0 (r1 rfl) (.eqd ?_)
  rotate_left
  all_goals (refine congrArg D.i ?_;omega)
theorem zlm {l:List Ex}{left:Int} (h:l.length≤1000000000000) (hok:Exs.ok l) (k0:0≤left) (k1:left≤1000000000000):
  FnD Tryz.prog 80 [.d (zbi l),.d (.i left)] [] (.d (.i (szr left (mExs l)))) []:=
 zg4 h k0 k1 (fun x hx q q0 q1=>zhF _ (Nat.le_refl _) (Exs.ok_mem hok x hx) q0 q1)
theorem zg5 {l:List Ex} (h:l.length≤1000000000000)
  (hf:∀v∈l,FnD Tryz.prog 143 [.agg [.d (.i v.op),.d (.i v.n),.d (.i v.ctor),.d (zbi v.kids)]] [] (.agg [.d (.i v.op),.d (.i v.n),.d (.i v.ctor),.d (zbi v.kids)]) []):
  FnD Tryz.prog 86 [.d (zbi l)] [] (.d (zbi l)) []:=by
 show FnD Tryz.prog 86 [.d (.sl (Ex.cs l))] [] (.d (.sl (Ex.cs l))) []
 rw[Ex.cs_cc]
 refine bd Tryz.f86 23 [] [999999] fun w0 F0 own kept hk=>?_
 refine Walk.make (id:=3007) sl58 zl8 rfl (by decide) (zcy rfl) .none rfl rfl rfl (by simp;omega) (by simp;omega) rfl rfl rfl ?_
 refine ev ?_
 refine CWp.loopX (ι:=List (Ex)×List (Ex)) hk (fun x=>[(4,.d (.i (x.1.length:Int)))]) [8,9,10,11,12,13,14,15,16,17,18,19,20,21] (fun x=>[(3007,some (.box ((x.1.flatMap fun x=>(Ex.cc x).map AV.d)++zaE x.2.length [.d (.i 0),.d (.i 0),.d (.i 0),.nils])))]) (fun x=>x.1++x.2=l) (fun x=>x.2.length) ([],l) (by simp) ⟨⟨_,rfl,(LeA.eqi (by first|rfl|(simp;done)|(simp_all;done)|omega))⟩,trivial⟩ ⟨(by first|rfl|(show some (Res.box _)=some (Res.box _);simp;done)),trivial⟩ (fun x=>rfl) (fun x hg1=>?_)
 obtain⟨pre,rest⟩:=x
 dsimp only at hg1 ⊢
 refine evc [] [999999] ?_
 refine sq (fun h1 h1p h1s=>?_) fun h1 h1p h1s=>?_
 try simp only[Q] at h1p
 rcases rest with _|⟨y,rest⟩
 ·exfalso;simp_all
 refine Walk.idx zsm .none rfl rfl rfl rfl (zaG hg1) rfl ?_
 refine ev ?_
 refine Walk.call (cr:=[]) ztg (hf y (by rw[←hg1];simp)) rfl .none rfl rfl (LeL.refl _) trivial rfl rfl rfl ?_
 refine Walk.idxM sl58 .none rfl rfl rfl rfl (by first|omega|(simp ;omega)) ?_
 refine Walk.store zl6 .none rfl rfl rfl rfl rfl rfl (by simp) ((zeL (k:=4) (by intro x _;rfl) (by first|rfl|simp) rfl)) ?_
 refine tv ?_
 refine ar ?_
 refine Exists.intro ((pre++[y],rest)) ⟨(by have hz:=hg1;rw[←hz];simp),(by simp),Sub.x (by kernel_rfl) (by kernel_rfl) ⟨⟨_,rfl,(LeA.eqi (by first|rfl|(simp;done)|(simp_all;done)|omega))⟩,trivial⟩ (by kernel_rfl) (by kernel_rfl) ⟨(by first|rfl|(show some (Res.box _)=some (Res.box _);simp;done)),trivial⟩⟩
 try simp only[Q] at h1p
 have hrest:rest=[]:=by
  rcases rest with _|⟨a,b⟩
  ·rfl
  ·exfalso;have hz:=congrArg List.length (hg1);simp only[List.length_append,List.length_cons,List.length_map] at hz;omega
 subst hrest
 refine CWp.frz hk 2 3007 _ _ rfl rfl (zdN (f:=Ex.cc) (k:=4) hg1 (by simp) (by intro x _;rfl)) rfl ?_
 refine CWp.ret ?_
 focus (refine rn0 (r1 rfl) (.eqd ?_);all_goals (first|rfl|(simp[h1s,h1p];done)|(simp_all;done)|(simp_all;omega)|omega))
theorem zin:∀(n:Nat){v:Ex},v.size≤n→v.ok→FnD Tryz.prog 143 [.agg [.d (.i v.op),.d (.i v.n),.d (.i v.ctor),.d (zbi v.kids)]] [] (.agg [.d (.i v.op),.d (.i v.n),.d (.i v.ctor),.d (zbi v.kids)]) []
 |0,v,h,_=>by rw[Ex.size_eq] at h;omega
 |n+1,v,h,hok=>by
  rw[Ex.size_eq] at h
  rw[Ex.ok_iff] at hok
  refine bd Tryz.f143 18 [] [] fun w0 F0 own kept hk=>?_
  refine Walk.box (id:=3001) .none rfl rfl rfl rfl rfl rfl rfl ?_
  refine Walk.alloc (id:=3002) zl8 rfl .none rfl rfl rfl rfl ?_
  refine tv ?_
  refine Walk.alloc (id:=3003) zl8 rfl .none rfl rfl rfl rfl ?_
  refine tv ?_
  refine Walk.store ty3 .none rfl rfl rfl rfl rfl rfl (by simp) rfl ?_
  refine tv ?_
  refine Walk.store ty3 .none rfl rfl rfl rfl rfl rfl (by simp) rfl ?_
  refine tv ?_
  refine Walk.store ty3 .none rfl rfl rfl rfl rfl rfl (by simp) rfl ?_
  refine tv ?_
  refine Walk.call (cr:=[]) zsc (zg5 hok.1 (fun x hx=>zin n (by have:=Exs.size_mem hx;omega) (Exs.ok_mem hok.2 x hx))) rfl .none rfl rfl (LeL.refl _) trivial rfl rfl rfl ?_
  refine ev ?_
  refine Walk.store ty58 .none rfl rfl rfl rfl rfl rfl (by simp) rfl ?_
  refine tv ?_
  refine Walk.store zl6 .none rfl rfl rfl rfl rfl rfl (by simp) rfl ?_
  refine tv ?_
  focus (refine rn0 (.cons (.cellA zl6 rfl rfl rfl) .nil) (.agg (.cons (.eqd ?_) (.cons (.eqd ?_) (.cons (.eqd ?_) (.cons (.eqd ?_) .nil)))));all_goals (first|rfl|(simp[];done)|(simp_all;done)|(simp_all;omega)|omega))
theorem zlp {l:List Ex} (h:l.length≤1000000000000) (hok:Exs.ok l):FnD Tryz.prog 86 [.d (zbi l)] [] (.d (zbi l)) []:=
 zg5 h (fun x hx=>zin _ (Nat.le_refl _) (Exs.ok_mem hok x hx))
theorem zg3 {l m:List Ex} (h:l.length≤1000000000000)
  (hf:∀a∈l,∀b:Ex,FnD Tryz.prog 151 [.agg [.d (.i a.op),.d (.i a.n),.d (.i a.ctor),.d (zbi a.kids)],.agg [.d (.i b.op),.d (.i b.n),.d (.i b.ctor),.d (zbi b.kids)]] [] (.d (.bool (exEq a b))) []):
  FnD Tryz.prog 93 [.d (zbi l),.d (zbi m)] [] (.d (.bool (zcC l m))) []:=by
 refine bd Tryz.f93 27 [] [] fun w0 F0 own kept hk=>?_
 refine sq (fun h1 h1p h1s=>?_) fun h1 h1p h1s=>?_
 try simp only[Q,Int.natCast_inj,Ex.cs_len] at h1p
 refine rn0 (r1 rfl) (.eqd ?_)
 rotate_left
 try simp only[Q,Int.natCast_inj,Ex.cs_len] at h1p
 refine CWp.loopX (ι:=Nat) hk (fun i=>[(5,.d (.i (i:Int)))]) [4,11,12,13,14,15,16,17,18,19,20,21,22,23,24,25,26] (fun i=>[]) (fun i=>i≤l.length∧∀i',i'<i→exEq (nth l i') (nth m i')=true) (fun i=>l.length-i) 0 ⟨by omega,fun _ h=>absurd h (by omega)⟩ ⟨⟨_,rfl,(LeA.eqi (by first|rfl|(simp;done)|(simp_all;done)|omega))⟩,trivial⟩ trivial (fun x=>rfl) (fun i hg1=>?_)
 refine evc [] [] ?_
 refine sq (fun h2 h2p h2s=>?_) fun h2 h2p h2s=>?_
 try simp only[Q,Int.natCast_inj,Ex.cs_len] at h2p
 refine Walk.idx sl58 .none rfl rfl rfl rfl (zgC (by omega)) rfl ?_
 refine evd [] [] ?_
 refine Walk.idx sl58 .none rfl rfl rfl rfl (zgC (by omega)) rfl ?_
 refine evd [] [] ?_
 refine Walk.call (cr:=[]) ztk (hf _ (zae (by omega)) _) rfl .none rfl rfl (LeL.refl _) trivial rfl rfl rfl ?_
 refine evd [] [] ?_
 refine dr ?_
 refine sq (fun h3 h3p h3s=>?_) fun h3 h3p h3s=>?_
 try simp only[Q,Int.natCast_inj,Ex.cs_len] at h3p
 refine rn0 (r1 rfl) (.eqd ?_)
 rotate_left
 try simp only[Q,Int.natCast_inj,Ex.cs_len] at h3p
 refine ar ?_
 refine Exists.intro (i+1) ⟨⟨by omega,zaF hg1.2 (by assumption)⟩,(by omega),Sub.x (by kernel_rfl) (by kernel_rfl) ⟨⟨_,rfl,(LeA.eqi (by first|rfl|(simp;done)|(simp_all;done)|omega))⟩,trivial⟩ (by kernel_rfl) (by kernel_rfl) trivial⟩
 try simp only[Q,Int.natCast_inj,Ex.cs_len] at h2p
 refine rn0 (r1 rfl) (.eqd ?_)
 rotate_left
 all_goals (refine congrArg D.bool ?_;first|(refine(zm0 ?_).symm;omega)|(refine(zmk (by omega) (fun x hx=>hg1.2 x (by omega))).symm)|(refine(zk1 (i:=i) (by omega) ?_).symm;assumption))
theorem zhE:∀(n:Nat){a b:Ex},a.size≤n→a.ok→FnD Tryz.prog 151 [.agg [.d (.i a.op),.d (.i a.n),.d (.i a.ctor),.d (zbi a.kids)],.agg [.d (.i b.op),.d (.i b.n),.d (.i b.ctor),.d (zbi b.kids)]] [] (.d (.bool (exEq a b))) []
 |0,a,b,h,_=>by rw[Ex.size_eq] at h;omega
 |n+1,a,b,h,hok=>by
  rw[Ex.size_eq] at h
  rw[Ex.ok_iff] at hok
  rw[zsJ]
  refine bd Tryz.f151 26 [] [] fun w0 F0 own kept hk=>?_
  refine Walk.box (id:=3002) .none rfl rfl rfl rfl rfl rfl rfl ?_
  refine Walk.box (id:=3003) .none rfl rfl rfl rfl rfl rfl rfl ?_
  refine ev ?_
  refine sq (fun h1 h1p h1s=>?_) fun h1 h1p h1s=>?_
  try simp only[Q] at h1p
  focus (refine rn0 (r1 rfl) (.eqd ?_);all_goals (refine congrArg D.bool ?_;simp[h1s,h1p]))
  try simp only[Q] at h1p
  refine sq (fun h2 h2p h2s=>?_) fun h2 h2p h2s=>?_
  try simp only[Q] at h2p
  focus (refine rn0 (r1 rfl) (.eqd ?_);all_goals (refine congrArg D.bool ?_;simp[h1s,h1p,h2s,h2p]))
  try simp only[Q] at h2p
  refine sq (fun h3 h3p h3s=>?_) fun h3 h3p h3s=>?_
  try simp only[Q] at h3p
  focus (refine rn0 (r1 rfl) (.eqd ?_);all_goals (refine congrArg D.bool ?_;simp[h1s,h1p,h2s,h2p,h3s,h3p]))
  try simp only[Q] at h3p
  refine Walk.call (cr:=[]) zse (zg3 hok.1 (fun x hx y=>zhE n (by have:=Exs.size_mem hx;omega) (Exs.ok_mem hok.2 x hx))) rfl .none rfl rfl (LeL.refl _) trivial rfl rfl rfl ?_
  refine ev ?_
  refine sq (fun h4 h4p h4s=>?_) fun h4 h4p h4s=>?_
  try simp only[Q] at h4p
  focus (refine rn0 (r1 rfl) (.eqd ?_);all_goals (refine congrArg D.bool ?_;simp[h1s,h1p,h2s,h2p,h3s,h3p,h4s,h4p]))
  try simp only[Q] at h4p
  focus (refine rn0 (r1 rfl) (.eqd ?_);all_goals (refine congrArg D.bool ?_;simp[h1s,h1p,h2s,h2p,h3s,h3p,h4s,h4p]))
theorem zlh {l m:List Ex} (h:l.length≤1000000000000) (hok:Exs.ok l):FnD Tryz.prog 93 [.d (zbi l),.d (zbi m)] [] (.d (.bool (zcC l m))) []:=
 zg3 h (fun a ha b=>zhE _ (Nat.le_refl _) (Exs.ok_mem hok a ha))
structure Gd where
 op:Int
 var:Int
 n:Int
 deriving Inhabited
structure Cl where
 pat:Pat
 g:Gd
 deriving Inhabited
structure Ft where
 arg:Ty
 res:Ty
 deriving Inhabited
structure Fu where
 ty:Ft
 cls:List Cl
 bodies:List Ex
 deriving Inhabited
abbrev Cl.c (x:Cl):List D:=[.i x.pat.op,.i x.pat.ctor,.i x.pat.n,.i x.pat.m,.i x.pat.var,.sl (Pat.cs x.pat.kids),.i x.g.op,.i x.g.var,.i x.g.n]
abbrev zbO (l:List Cl):D:= .sl (l.map Cl.c)
abbrev Ft.c (x:Ft):List D:=[.i x.arg.data,.i x.arg.index,.i x.res.data,.i x.res.index]
abbrev zdt (l:List Ft):D:= .sl (l.map Ft.c)
abbrev Fu.c (x:Fu):List D:=[.i x.ty.arg.data,.i x.ty.arg.index,.i x.ty.res.data,.i x.ty.res.index,zbO x.cls,zbi x.bodies]
abbrev zdL (l:List Fu):D:= .sl (l.map Fu.c)
def ClsOk (l:List Cl):Prop:=l.length≤1000000000000∧∀c∈l,c.pat.ok
def FuOk (f:Fu):Prop:=ClsOk f.cls∧f.bodies.length≤1000000000000∧Exs.ok f.bodies
def FusOk (l:List Fu):Prop:=l.length≤1000000000000∧∀f∈l,FuOk f
def mCl (c:Cl):Nat:=mPat c.pat
def mCls (l:List Cl):Nat:=l.length+(l.map mCl).sum
def mFu (f:Fu):Nat:=mCls f.cls+mExs f.bodies
def mFus (l:List Fu):Nat:=l.length+(l.map mFu).sum
def gdEq (a b:Gd):Bool:=decide (a.op=b.op)&&(decide (a.var=b.var)&&decide (a.n=b.n))
def clEq (a b:Cl):Bool:=zfB a.pat b.pat&&gdEq a.g b.g
def ftEq (a b:Ft):Bool:=decide (a.arg=b.arg)&&decide (a.res=b.res)
def zpZ (a b:List Cl):Bool:=all2 clEq a b
def fuEq (a b:Fu):Bool:=ftEq a.ty b.ty&&(zpZ a.cls b.cls&&zcC a.bodies b.bodies)
def zsj (a b:List Fu):Bool:=all2 fuEq a b
theorem ziA {α:Type}{f:α→α→Bool} (h:∀x,f x x=true):∀l:List α,all2 f l l=true
 | []=>rfl
 |x::r=>by simp[all2,h x,ziA h r]
theorem zqO (a:Cl):clEq a a=true:=by simp[clEq,gdEq,zlI]
theorem zp0 (l:List Cl):zpZ l l=true:=ziA zqO l
theorem zq6 (a:Fu):fuEq a a=true:=by simp[fuEq,ftEq,zp0,zhY]
theorem zk3 (l:List Fu):zsj l l=true:=ziA zq6 l
theorem zkm {c:Cl}{left:Int} (hok:c.pat.ok) (k0:0≤left) (k1:left≤1000000000000):
  FnD Tryz.prog 28 [.agg [.d (.i c.pat.op),.d (.i c.pat.ctor),.d (.i c.pat.n),.d (.i c.pat.m),.d (.i c.pat.var),.d (zad c.pat.kids),.d (.i c.g.op),.d (.i c.g.var),.d (.i c.g.n)],.d (.i left)] [] (.d (.i (szr left (mCl c)))) []:=by
 have z:=zbu (left:=left) (mCl c)
 refine bd Tryz.f28 12 [] [] fun w0 F0 own kept hk=>?_
 refine Walk.box (id:=3002) .none rfl rfl rfl rfl rfl rfl rfl ?_
 refine ev ?_
 refine Walk.call (cr:=[]) zr6 (zfY _ (Nat.le_refl _) hok k0 k1) rfl .none rfl rfl (LeL.refl _) trivial rfl rfl rfl ?_
 refine ev ?_
 refine sq (fun h1 h1p h1s=>?_) fun h1 h1p h1s=>?_
 try simp only[Q] at h1p
 refine rn0 (r1 rfl) (.eqd ?_)
 rotate_left
 try simp only[Q] at h1p
 refine rn0 (r1 rfl) (.eqd ?_)
 rotate_left
 all_goals (refine congrArg D.i ?_;unfold mCl at *;omega)
theorem zjL {l:List Cl}{left:Int} (hs:ClsOk l) (k0:0≤left) (k1:left≤1000000000000):FnD Tryz.prog 7 [.d (zbO l),.d (.i left)] [] (.d (.i (szr left (mCls l)))) []:=by
 have h:=hs.1
 have z:=zbu (left:=left) (mCls l)
 simp only[mCls] at z ⊢
 refine bd Tryz.f7 27 [] [] fun w0 F0 own kept hk=>?_
 refine ar ?_
 refine sq (fun h1 h1p h1s=>?_) fun h1 h1p h1s=>?_
 try simp only[Q] at h1p
 refine rn0 (r1 rfl) (.eqd ?_)
 rotate_left
 try simp only[Q] at h1p
 refine CWp.loopX (ι:=List (Cl)×List (Cl)×(Int)) hk (fun x=>[(5,.d (.i (x.1.length:Int))),(1,.d (.i x.2.2))]) [4,12,13,14,15,16,17,18,19,20,21,22,23,24,25] (fun x=>[]) (fun x=>x.1++x.2.1=l∧x.2.2=left-l.length-(x.1.map mCl).sum∧0≤x.2.2) (fun x=>x.2.1.length) ([],l,left-l.length) ⟨by simp,by simp,by simp at *;omega⟩ ⟨⟨_,rfl,(LeA.eqi (by first|rfl|(simp;done)))⟩,⟨⟨_,rfl,(LeA.eqi (by first|rfl|(simp;done)))⟩,trivial⟩⟩ trivial (fun x=>rfl) (fun x hg1=>?_)
 obtain⟨pre,rest,v⟩:=x
 dsimp only at hg1 ⊢
 refine evc [] [] ?_
 refine sq (fun h2 h2p h2s=>?_) fun h2 h2p h2s=>?_
 try simp only[Q] at h2p
 rcases rest with _|⟨y,rest⟩
 ·exfalso;simp_all
 refine Walk.idx sl25 .none rfl rfl rfl rfl (zaG hg1.1) rfl ?_
 refine ev ?_
 refine Walk.call (cr:=[]) zuc (zkm (c:=y) (hs.2 y (by rw[←hg1.1];simp)) (by omega) (by omega)) rfl .none rfl rfl (LeL.refl _) trivial rfl rfl rfl ?_
 refine ev ?_
 refine sq (fun h3 h3p h3s=>?_) fun h3 h3p h3s=>?_
 try simp only[Q] at h3p
 refine rn0 (r1 rfl) (.eqd ?_)
 rotate_left
 try simp only[Q] at h3p
 refine ar ?_
 refine Exists.intro ((pre++[y],rest,szr v (mCl y))) ⟨⟨(by have hz:=hg1.1;rw[←hz];simp),(by have e:=zcl (f:=mCl) hg1.1;have z3:=zbu (left:=v) (mCl y);simp;omega)⟩,(by simp),Sub.x (by kernel_rfl) (by kernel_rfl) ⟨⟨_,rfl,(LeA.eqi (by first|rfl|(simp;done)))⟩,⟨⟨_,rfl,(LeA.eqi (by first|rfl|(simp;done)))⟩,trivial⟩⟩ (by kernel_rfl) (by kernel_rfl) trivial⟩
 try simp only[Q] at h2p
 have hrest:rest=[]:=by
  rcases rest with _|⟨a,b⟩
  ·rfl
  ·exfalso;have hz:=congrArg List.length (hg1.1);simp only[List.length_append,List.length_cons,List.length_map] at hz;omega
 subst hrest
 refine rn0 (r1 rfl) (.eqd ?_)
 rotate_left
 all_goals (refine congrArg D.i ?_;first|omega|(have e:=zcl (f:=mCl) hg1.1;have z3:=zbu (left:=v) (mCl y);omega)|(rw[List.append_nil] at hg1;rw[hg1.1] at hg1;omega))
theorem znG {f:Fu}{left:Int} (hs:FuOk f) (k0:0≤left) (k1:left≤1000000000000):
  FnD Tryz.prog 45 [.agg [.d (.i f.ty.arg.data),.d (.i f.ty.arg.index),.d (.i f.ty.res.data),.d (.i f.ty.res.index),.d (zbO f.cls),.d (zbi f.bodies)],.d (.i left)] [] (.d (.i (szr left (mFu f)))) []:=by
 have z:=zbu (left:=left) (mFu f)
 have z1:=zbu (left:=left) (mCls f.cls)
 have z2:=zbu (left:=szr left (mCls f.cls)) (mExs f.bodies)
 unfold mFu at *
 refine bd Tryz.f45 18 [] [] fun w0 F0 own kept hk=>?_
 refine Walk.box (id:=3002) .none rfl rfl rfl rfl rfl rfl rfl ?_
 refine ev ?_
 refine Walk.call (cr:=[]) cal7 (zjL hs.1 k0 k1) rfl .none rfl rfl (LeL.refl _) trivial rfl rfl rfl ?_
 refine ev ?_
 refine sq (fun h1 h1p h1s=>?_) fun h1 h1p h1s=>?_
 try simp only[Q] at h1p
 refine rn0 (r1 rfl) (.eqd ?_)
 rotate_left
 try simp only[Q] at h1p
 refine Walk.call (cr:=[]) zsa (zlm hs.2.1 hs.2.2 (by omega) (by omega)) rfl .none rfl rfl (LeL.refl _) trivial rfl rfl rfl ?_
 refine ev ?_
 refine sq (fun h2 h2p h2s=>?_) fun h2 h2p h2s=>?_
 try simp only[Q] at h2p
 refine rn0 (r1 rfl) (.eqd ?_)
 rotate_left
 try simp only[Q] at h2p
 refine rn0 (r1 rfl) (.eqd ?_)
 rotate_left
 all_goals (refine congrArg D.i ?_;omega)
theorem zmx {l:List Fu}{left:Int} (hs:FusOk l) (k0:0≤left) (k1:left≤1000000000000):FnD Tryz.prog 20 [.d (zdL l),.d (.i left)] [] (.d (.i (szr left (mFus l)))) []:=by
 have h:=hs.1
 have z:=zbu (left:=left) (mFus l)
 simp only[mFus] at z ⊢
 refine bd Tryz.f20 27 [] [] fun w0 F0 own kept hk=>?_
 refine ar ?_
 refine sq (fun h1 h1p h1s=>?_) fun h1 h1p h1s=>?_
 try simp only[Q] at h1p
 refine rn0 (r1 rfl) (.eqd ?_)
 rotate_left
 try simp only[Q] at h1p
 refine CWp.loopX (ι:=List (Fu)×List (Fu)×(Int)) hk (fun x=>[(5,.d (.i (x.1.length:Int))),(1,.d (.i x.2.2))]) [4,12,13,14,15,16,17,18,19,20,21,22,23,24,25] (fun x=>[]) (fun x=>x.1++x.2.1=l∧x.2.2=left-l.length-(x.1.map mFu).sum∧0≤x.2.2) (fun x=>x.2.1.length) ([],l,left-l.length) ⟨by simp,by simp,by simp at *;omega⟩ ⟨⟨_,rfl,(LeA.eqi (by first|rfl|(simp;done)))⟩,⟨⟨_,rfl,(LeA.eqi (by first|rfl|(simp;done)))⟩,trivial⟩⟩ trivial (fun x=>rfl) (fun x hg1=>?_)
 obtain⟨pre,rest,v⟩:=x
 dsimp only at hg1 ⊢
 refine evc [] [] ?_
 refine sq (fun h2 h2p h2s=>?_) fun h2 h2p h2s=>?_
 try simp only[Q] at h2p
 rcases rest with _|⟨y,rest⟩
 ·exfalso;simp_all
 refine Walk.idx sl44 .none rfl rfl rfl rfl (zaG hg1.1) rfl ?_
 refine ev ?_
 refine Walk.call (cr:=[]) zul (znG (f:=y) (hs.2 y (by rw[←hg1.1];simp)) (by omega) (by omega)) rfl .none rfl rfl (LeL.refl _) trivial rfl rfl rfl ?_
 refine ev ?_
 refine sq (fun h3 h3p h3s=>?_) fun h3 h3p h3s=>?_
 try simp only[Q] at h3p
 refine rn0 (r1 rfl) (.eqd ?_)
 rotate_left
 try simp only[Q] at h3p
 refine ar ?_
 refine Exists.intro ((pre++[y],rest,szr v (mFu y))) ⟨⟨(by have hz:=hg1.1;rw[←hz];simp),(by have e:=zcl (f:=mFu) hg1.1;have z3:=zbu (left:=v) (mFu y);simp;omega)⟩,(by simp),Sub.x (by kernel_rfl) (by kernel_rfl) ⟨⟨_,rfl,(LeA.eqi (by first|rfl|(simp;done)))⟩,⟨⟨_,rfl,(LeA.eqi (by first|rfl|(simp;done)))⟩,trivial⟩⟩ (by kernel_rfl) (by kernel_rfl) trivial⟩
 try simp only[Q] at h2p
 have hrest:rest=[]:=by
  rcases rest with _|⟨a,b⟩
  ·rfl
  ·exfalso;have hz:=congrArg List.length (hg1.1);simp only[List.length_append,List.length_cons,List.length_map] at hz;omega
 subst hrest
 refine rn0 (r1 rfl) (.eqd ?_)
 rotate_left
 all_goals (refine congrArg D.i ?_;first|omega|(have e:=zcl (f:=mFu) hg1.1;have z3:=zbu (left:=v) (mFu y);omega)|(rw[List.append_nil] at hg1;rw[hg1.1] at hg1;omega))
theorem zlq {a b c:Int}:FnD Tryz.prog 64 [.agg [.d (.i a),.d (.i b),.d (.i c)]] [] (.agg [.d (.i a),.d (.i b),.d (.i c)]) []:=by
 refine bd Tryz.f64 14 [] [] fun w0 F0 own kept hk=>?_
 refine Walk.box (id:=3001) .none rfl rfl rfl rfl rfl rfl rfl ?_
 refine Walk.alloc (id:=3002) tz83 rfl .none rfl rfl rfl rfl ?_
 refine tv ?_
 refine Walk.alloc (id:=3003) tz83 rfl .none rfl rfl rfl rfl ?_
 refine tv ?_
 refine Walk.store ty3 .none rfl rfl rfl rfl rfl rfl (by simp) rfl ?_
 refine tv ?_
 refine Walk.store ty3 .none rfl rfl rfl rfl rfl rfl (by simp) rfl ?_
 refine tv ?_
 refine Walk.store ty3 .none rfl rfl rfl rfl rfl rfl (by simp) rfl ?_
 refine tv ?_
 refine Walk.store ty83 .none rfl rfl rfl rfl rfl rfl (by simp) rfl ?_
 refine tv ?_
 focus (refine rn0 (.cons (.cellA ty83 rfl rfl rfl) .nil) (.agg (.cons (.eqd ?_) (.cons (.eqd ?_) (.cons (.eqd ?_) .nil))));all_goals (first|rfl|(simp[];done)|(simp_all;done)|(simp_all;omega)|omega))
theorem zkn {c:Cl} (hok:c.pat.ok):
  FnD Tryz.prog 33 [.agg [.d (.i c.pat.op),.d (.i c.pat.ctor),.d (.i c.pat.n),.d (.i c.pat.m),.d (.i c.pat.var),.d (zad c.pat.kids),.d (.i c.g.op),.d (.i c.g.var),.d (.i c.g.n)]] [] (.agg [.d (.i c.pat.op),.d (.i c.pat.ctor),.d (.i c.pat.n),.d (.i c.pat.m),.d (.i c.pat.var),.d (zad c.pat.kids),.d (.i c.g.op),.d (.i c.g.var),.d (.i c.g.n)]) []:=by
 refine bd Tryz.f33 13 [] [] fun w0 F0 own kept hk=>?_
 refine Walk.box (id:=3001) .none rfl rfl rfl rfl rfl rfl rfl ?_
 refine Walk.alloc (id:=3002) tz85 rfl .none rfl rfl rfl rfl ?_
 refine tv ?_
 refine Walk.alloc (id:=3003) tz85 rfl .none rfl rfl rfl rfl ?_
 refine tv ?_
 refine Walk.call (cr:=[]) zr8 (zjO hok) rfl .none rfl rfl (LeL.refl _) trivial rfl rfl rfl ?_
 refine ev ?_
 refine Walk.store ty77 .none rfl rfl rfl rfl rfl rfl (by simp) rfl ?_
 refine tv ?_
 refine Walk.call (cr:=[]) zuy (zlq) rfl .none rfl rfl (LeL.refl _) trivial rfl rfl rfl ?_
 refine ev ?_
 refine Walk.store ty83 .none rfl rfl rfl rfl rfl rfl (by simp) rfl ?_
 refine tv ?_
 refine Walk.store ty85 .none rfl rfl rfl rfl rfl rfl (by simp) rfl ?_
 refine tv ?_
 focus (refine rn0 (.cons (.cellA ty85 rfl rfl rfl) .nil) (.agg (.cons (.eqd ?_) (.cons (.eqd ?_) (.cons (.eqd ?_) (.cons (.eqd ?_) (.cons (.eqd ?_) (.cons (.eqd ?_) (.cons (.eqd ?_) (.cons (.eqd ?_) (.cons (.eqd ?_) .nil))))))))));all_goals (first|rfl|(simp[];done)|(simp_all;done)|(simp_all;omega)|omega))
theorem zjM {l:List Cl} (hs:ClsOk l):FnD Tryz.prog 11 [.d (zbO l)] [] (.d (zbO l)) []:=by
 have h:=hs.1
 refine bd Tryz.f11 23 [] [999999] fun w0 F0 own kept hk=>?_
 refine Walk.make (id:=3007) sl35 tz85 rfl (by decide) (zcy rfl) .none rfl rfl rfl (by simp;omega) (by simp;omega) rfl rfl rfl ?_
 refine ev ?_
 refine CWp.loopX (ι:=List (Cl)×List (Cl)) hk (fun x=>[(4,.d (.i (x.1.length:Int)))]) [8,9,10,11,12,13,14,15,16,17,18,19,20,21] (fun x=>[(3007,some (.box ((x.1.flatMap fun x=>(Cl.c x).map AV.d)++zaE x.2.length [.d (.i 0),.d (.i 0),.d (.i 0),.d (.i 0),.d (.i 0),.nils,.d (.i 0),.d (.i 0),.d (.i 0)])))]) (fun x=>x.1++x.2=l) (fun x=>x.2.length) ([],l) (by simp) ⟨⟨_,rfl,(LeA.eqi (by first|rfl|(simp;done)|(simp_all;done)|omega))⟩,trivial⟩ ⟨(by first|rfl|(show some (Res.box _)=some (Res.box _);simp;done)),trivial⟩ (fun x=>rfl) (fun x hg1=>?_)
 obtain⟨pre,rest⟩:=x
 dsimp only at hg1 ⊢
 refine evc [] [999999] ?_
 refine sq (fun h1 h1p h1s=>?_) fun h1 h1p h1s=>?_
 try simp only[Q] at h1p
 rcases rest with _|⟨y,rest⟩
 ·exfalso;simp_all
 refine Walk.idx sl25 .none rfl rfl rfl rfl (zaG hg1) rfl ?_
 refine ev ?_
 refine Walk.call (cr:=[]) zuf (zkn (c:=y) (hs.2 y (by rw[←hg1];simp))) rfl .none rfl rfl (LeL.refl _) trivial rfl rfl rfl ?_
 refine Walk.idxM sl35 .none rfl rfl rfl rfl (by first|omega|(simp ;omega)) ?_
 refine Walk.store ty85 .none rfl rfl rfl rfl rfl rfl (by simp) ((zeL (k:=9) (by intro x _;rfl) (by first|rfl|simp) rfl)) ?_
 refine tv ?_
 refine ar ?_
 refine Exists.intro ((pre++[y],rest)) ⟨(by have hz:=hg1;rw[←hz];simp),(by simp),Sub.x (by kernel_rfl) (by kernel_rfl) ⟨⟨_,rfl,(LeA.eqi (by first|rfl|(simp;done)|(simp_all;done)|omega))⟩,trivial⟩ (by kernel_rfl) (by kernel_rfl) ⟨(by first|rfl|(show some (Res.box _)=some (Res.box _);simp;done)),trivial⟩⟩
 try simp only[Q] at h1p
 have hrest:rest=[]:=by
  rcases rest with _|⟨a,b⟩
  ·rfl
  ·exfalso;have hz:=congrArg List.length (hg1);simp only[List.length_append,List.length_cons,List.length_map] at hz;omega
 subst hrest
 refine CWp.frz hk 2 3007 _ _ rfl rfl (zdN (f:=Cl.c) (k:=9) hg1 (by simp) (by intro x _;rfl)) rfl ?_
 refine CWp.ret ?_
 focus (refine rn0 (r1 rfl) (.eqd ?_);all_goals (first|rfl|(simp[h1s,h1p];done)|(simp_all;done)|(simp_all;omega)|omega))
theorem zjN {a b c d:Int}:FnD Tryz.prog 85 [.agg [.d (.i a),.d (.i b),.d (.i c),.d (.i d)]] [] (.agg [.d (.i a),.d (.i b),.d (.i c),.d (.i d)]) []:=by
 refine bd Tryz.f85 13 [] [] fun w0 F0 own kept hk=>?_
 refine Walk.box (id:=3001) .none rfl rfl rfl rfl rfl rfl rfl ?_
 refine Walk.alloc (id:=3002) tz57 rfl .none rfl rfl rfl rfl ?_
 refine tv ?_
 refine Walk.alloc (id:=3003) tz57 rfl .none rfl rfl rfl rfl ?_
 refine tv ?_
 refine Walk.call (cr:=[]) zpU (zfj) rfl .none rfl rfl (LeL.refl _) trivial rfl rfl rfl ?_
 refine ev ?_
 refine Walk.store ty33 .none rfl rfl rfl rfl rfl rfl (by simp) rfl ?_
 refine tv ?_
 refine Walk.call (cr:=[]) zpU (zfj) rfl .none rfl rfl (LeL.refl _) trivial rfl rfl rfl ?_
 refine ev ?_
 refine Walk.store ty33 .none rfl rfl rfl rfl rfl rfl (by simp) rfl ?_
 refine tv ?_
 refine Walk.store ty57 .none rfl rfl rfl rfl rfl rfl (by simp) rfl ?_
 refine tv ?_
 focus (refine rn0 (.cons (.cellA ty57 rfl rfl rfl) .nil) (.agg (.cons (.eqd ?_) (.cons (.eqd ?_) (.cons (.eqd ?_) (.cons (.eqd ?_) .nil)))));all_goals (first|rfl|(simp[];done)|(simp_all;done)|(simp_all;omega)|omega))
theorem znH {f:Fu} (hs:FuOk f):
  FnD Tryz.prog 48 [.agg [.d (.i f.ty.arg.data),.d (.i f.ty.arg.index),.d (.i f.ty.res.data),.d (.i f.ty.res.index),.d (zbO f.cls),.d (zbi f.bodies)]] [] (.agg [.d (.i f.ty.arg.data),.d (.i f.ty.arg.index),.d (.i f.ty.res.data),.d (.i f.ty.res.index),.d (zbO f.cls),.d (zbi f.bodies)]) []:=by
 refine bd Tryz.f48 17 [] [] fun w0 F0 own kept hk=>?_
 refine Walk.box (id:=3001) .none rfl rfl rfl rfl rfl rfl rfl ?_
 refine Walk.alloc (id:=3002) tz60 rfl .none rfl rfl rfl rfl ?_
 refine tv ?_
 refine Walk.alloc (id:=3003) tz60 rfl .none rfl rfl rfl rfl ?_
 refine tv ?_
 refine Walk.call (cr:=[]) zuO (zjN) rfl .none rfl rfl (LeL.refl _) trivial rfl rfl rfl ?_
 refine ev ?_
 refine Walk.store ty57 .none rfl rfl rfl rfl rfl rfl (by simp) rfl ?_
 refine tv ?_
 refine Walk.call (cr:=[]) zt1 (zjM hs.1) rfl .none rfl rfl (LeL.refl _) trivial rfl rfl rfl ?_
 refine ev ?_
 refine Walk.store ty35 .none rfl rfl rfl rfl rfl rfl (by simp) rfl ?_
 refine tv ?_
 refine Walk.call (cr:=[]) zsc (zlp hs.2.1 hs.2.2) rfl .none rfl rfl (LeL.refl _) trivial rfl rfl rfl ?_
 refine ev ?_
 refine Walk.store ty58 .none rfl rfl rfl rfl rfl rfl (by simp) rfl ?_
 refine tv ?_
 refine Walk.store ty60 .none rfl rfl rfl rfl rfl rfl (by simp) rfl ?_
 refine tv ?_
 focus (refine rn0 (.cons (.cellA ty60 rfl rfl rfl) .nil) (.agg (.cons (.eqd ?_) (.cons (.eqd ?_) (.cons (.eqd ?_) (.cons (.eqd ?_) (.cons (.eqd ?_) (.cons (.eqd ?_) .nil)))))));all_goals (first|rfl|(simp[];done)|(simp_all;done)|(simp_all;omega)|omega))
theorem zfi {l:List Fu} (hs:FusOk l):FnD Tryz.prog 22 [.d (zdL l)] [] (.d (zdL l)) []:=by
 have h:=hs.1
 refine bd Tryz.f22 23 [] [999999] fun w0 F0 own kept hk=>?_
 refine Walk.make (id:=3007) sl48 tz60 rfl (by decide) (zcy rfl) .none rfl rfl rfl (by simp;omega) (by simp;omega) rfl rfl rfl ?_
 refine ev ?_
 refine CWp.loopX (ι:=List (Fu)×List (Fu)) hk (fun x=>[(4,.d (.i (x.1.length:Int)))]) [8,9,10,11,12,13,14,15,16,17,18,19,20,21] (fun x=>[(3007,some (.box ((x.1.flatMap fun x=>(Fu.c x).map AV.d)++zaE x.2.length [.d (.i 0),.d (.i 0),.d (.i 0),.d (.i 0),.nils,.nils])))]) (fun x=>x.1++x.2=l) (fun x=>x.2.length) ([],l) (by simp) ⟨⟨_,rfl,(LeA.eqi (by first|rfl|(simp;done)|(simp_all;done)|omega))⟩,trivial⟩ ⟨(by first|rfl|(show some (Res.box _)=some (Res.box _);simp;done)),trivial⟩ (fun x=>rfl) (fun x hg1=>?_)
 obtain⟨pre,rest⟩:=x
 dsimp only at hg1 ⊢
 refine evc [] [999999] ?_
 refine sq (fun h1 h1p h1s=>?_) fun h1 h1p h1s=>?_
 try simp only[Q] at h1p
 rcases rest with _|⟨y,rest⟩
 ·exfalso;simp_all
 refine Walk.idx sl44 .none rfl rfl rfl rfl (zaG hg1) rfl ?_
 refine ev ?_
 refine Walk.call (cr:=[]) zuo (znH (f:=y) (hs.2 y (by rw[←hg1];simp))) rfl .none rfl rfl (LeL.refl _) trivial rfl rfl rfl ?_
 refine Walk.idxM sl48 .none rfl rfl rfl rfl (by first|omega|(simp ;omega)) ?_
 refine Walk.store ty60 .none rfl rfl rfl rfl rfl rfl (by simp) ((zeL (k:=6) (by intro x _;rfl) (by first|rfl|simp) rfl)) ?_
 refine tv ?_
 refine ar ?_
 refine Exists.intro ((pre++[y],rest)) ⟨(by have hz:=hg1;rw[←hz];simp),(by simp),Sub.x (by kernel_rfl) (by kernel_rfl) ⟨⟨_,rfl,(LeA.eqi (by first|rfl|(simp;done)|(simp_all;done)|omega))⟩,trivial⟩ (by kernel_rfl) (by kernel_rfl) ⟨(by first|rfl|(show some (Res.box _)=some (Res.box _);simp;done)),trivial⟩⟩
 try simp only[Q] at h1p
 have hrest:rest=[]:=by
  rcases rest with _|⟨a,b⟩
  ·rfl
  ·exfalso;have hz:=congrArg List.length (hg1);simp only[List.length_append,List.length_cons,List.length_map] at hz;omega
 subst hrest
 refine CWp.frz hk 2 3007 _ _ rfl rfl (zdN (f:=Fu.c) (k:=6) hg1 (by simp) (by intro x _;rfl)) rfl ?_
 refine CWp.ret ?_
 focus (refine rn0 (r1 rfl) (.eqd ?_);all_goals (first|rfl|(simp[h1s,h1p];done)|(simp_all;done)|(simp_all;omega)|omega))
theorem zli {a b:Gd}:FnD Tryz.prog 78 [.agg [.d (.i a.op),.d (.i a.var),.d (.i a.n)],.agg [.d (.i b.op),.d (.i b.var),.d (.i b.n)]] [] (.d (.bool (gdEq a b))) []:=by
 refine bd Tryz.f78 20 [] [] fun w0 F0 own kept hk=>?_
 refine Walk.box (id:=3002) .none rfl rfl rfl rfl rfl rfl rfl ?_
 refine Walk.box (id:=3003) .none rfl rfl rfl rfl rfl rfl rfl ?_
 refine ev ?_
 refine sq (fun h1 h1p h1s=>?_) fun h1 h1p h1s=>?_
 try simp only[Q] at h1p
 focus (refine rn0 (r1 rfl) (.eqd ?_);all_goals (refine congrArg D.bool ?_;simp[gdEq,h1s,h1p]))
 try simp only[Q] at h1p
 refine sq (fun h2 h2p h2s=>?_) fun h2 h2p h2s=>?_
 try simp only[Q] at h2p
 focus (refine rn0 (r1 rfl) (.eqd ?_);all_goals (refine congrArg D.bool ?_;simp[gdEq,h1s,h1p,h2s,h2p]))
 try simp only[Q] at h2p
 refine sq (fun h3 h3p h3s=>?_) fun h3 h3p h3s=>?_
 try simp only[Q] at h3p
 focus (refine rn0 (r1 rfl) (.eqd ?_);all_goals (refine congrArg D.bool ?_;simp[gdEq,h1s,h1p,h2s,h2p,h3s,h3p]))
 try simp only[Q] at h3p
 focus (refine rn0 (r1 rfl) (.eqd ?_);all_goals (refine congrArg D.bool ?_;simp[gdEq,h1s,h1p,h2s,h2p,h3s,h3p]))
theorem zkl {a b:Cl} (hok:a.pat.ok):
  FnD Tryz.prog 42 [.agg [.d (.i a.pat.op),.d (.i a.pat.ctor),.d (.i a.pat.n),.d (.i a.pat.m),.d (.i a.pat.var),.d (zad a.pat.kids),.d (.i a.g.op),.d (.i a.g.var),.d (.i a.g.n)],.agg [.d (.i b.pat.op),.d (.i b.pat.ctor),.d (.i b.pat.n),.d (.i b.pat.m),.d (.i b.pat.var),.d (zad b.pat.kids),.d (.i b.g.op),.d (.i b.g.var),.d (.i b.g.n)]] [] (.d (.bool (clEq a b))) []:=by
 refine bd Tryz.f42 17 [] [] fun w0 F0 own kept hk=>?_
 refine Walk.box (id:=3002) .none rfl rfl rfl rfl rfl rfl rfl ?_
 refine Walk.box (id:=3003) .none rfl rfl rfl rfl rfl rfl rfl ?_
 refine ev ?_
 refine Walk.call (cr:=[]) zr5 (zfX (a:=a.pat) (b:=b.pat) _ (Nat.le_refl _) hok) rfl .none rfl rfl (LeL.refl _) trivial rfl rfl rfl ?_
 refine ev ?_
 refine sq (fun h1 h1p h1s=>?_) fun h1 h1p h1s=>?_
 try simp only[Q] at h1p
 focus (refine rn0 (r1 rfl) (.eqd ?_);all_goals (refine congrArg D.bool ?_;simp[clEq,h1s,h1p]))
 try simp only[Q] at h1p
 refine Walk.call (cr:=[]) zuK (zli (a:=a.g) (b:=b.g)) rfl .none rfl rfl (LeL.refl _) trivial rfl rfl rfl ?_
 refine ev ?_
 refine sq (fun h2 h2p h2s=>?_) fun h2 h2p h2s=>?_
 try simp only[Q] at h2p
 focus (refine rn0 (r1 rfl) (.eqd ?_);all_goals (refine congrArg D.bool ?_;simp[clEq,h1s,h1p,h2s,h2p]))
 try simp only[Q] at h2p
 focus (refine rn0 (r1 rfl) (.eqd ?_);all_goals (refine congrArg D.bool ?_;simp[clEq,h1s,h1p,h2s,h2p]))
theorem zjJ {l m:List Cl} (hs:ClsOk l):FnD Tryz.prog 15 [.d (zbO l),.d (zbO m)] [] (.d (.bool (zpZ l m))) []:=by
 have h:=hs.1
 refine bd Tryz.f15 27 [] [] fun w0 F0 own kept hk=>?_
 refine sq (fun h1 h1p h1s=>?_) fun h1 h1p h1s=>?_
 try simp only[Q,Int.natCast_inj] at h1p
 refine rn0 (r1 rfl) (.eqd ?_)
 rotate_left
 try simp only[Q,Int.natCast_inj] at h1p
 refine CWp.loopX (ι:=Nat) hk (fun i=>[(5,.d (.i (i:Int)))]) [4,11,12,13,14,15,16,17,18,19,20,21,22,23,24,25,26] (fun i=>[]) (fun i=>i≤l.length∧∀i',i'<i→clEq (nth l i') (nth m i')=true) (fun i=>l.length-i) 0 ⟨by omega,fun _ h=>absurd h (by omega)⟩ ⟨⟨_,rfl,(LeA.eqi (by first|rfl|(simp;done)|(simp_all;done)|omega))⟩,trivial⟩ trivial (fun x=>rfl) (fun i hg1=>?_)
 refine evc [] [] ?_
 refine sq (fun h2 h2p h2s=>?_) fun h2 h2p h2s=>?_
 try simp only[Q,Int.natCast_inj] at h2p
 refine Walk.idx sl35 .none rfl rfl rfl rfl (zam (by omega)) rfl ?_
 refine evd [] [] ?_
 refine Walk.idx sl35 .none rfl rfl rfl rfl (zam (by omega)) rfl ?_
 refine evd [] [] ?_
 refine Walk.call (cr:=[]) zuk (zkl (a:=nth l i) (b:=nth m i) (hs.2 _ (zae (by omega)))) rfl .none rfl rfl (LeL.refl _) trivial rfl rfl rfl ?_
 refine evd [] [] ?_
 refine dr ?_
 refine sq (fun h3 h3p h3s=>?_) fun h3 h3p h3s=>?_
 try simp only[Q,Int.natCast_inj] at h3p
 refine rn0 (r1 rfl) (.eqd ?_)
 rotate_left
 try simp only[Q,Int.natCast_inj] at h3p
 refine ar ?_
 refine Exists.intro (i+1) ⟨⟨by omega,zaF hg1.2 (by assumption)⟩,(by omega),Sub.x (by kernel_rfl) (by kernel_rfl) ⟨⟨_,rfl,(LeA.eqi (by first|rfl|(simp;done)|(simp_all;done)|omega))⟩,trivial⟩ (by kernel_rfl) (by kernel_rfl) trivial⟩
 try simp only[Q,Int.natCast_inj] at h2p
 refine rn0 (r1 rfl) (.eqd ?_)
 rotate_left
 all_goals (refine congrArg D.bool ?_;first|(refine(zex ?_).symm;omega)|(refine(zbE (by omega) (fun x hx=>hg1.2 x (by omega))).symm)|(refine(zbq (i:=i) (by omega) (by omega) ?_).symm;assumption))
theorem zjK {a b:Ft}:FnD Tryz.prog 92 [.agg [.d (.i a.arg.data),.d (.i a.arg.index),.d (.i a.res.data),.d (.i a.res.index)],.agg [.d (.i b.arg.data),.d (.i b.arg.index),.d (.i b.res.data),.d (.i b.res.index)]] [] (.d (.bool (ftEq a b))) []:=by
 refine bd Tryz.f92 17 [] [] fun w0 F0 own kept hk=>?_
 refine Walk.box (id:=3002) .none rfl rfl rfl rfl rfl rfl rfl ?_
 refine Walk.box (id:=3003) .none rfl rfl rfl rfl rfl rfl rfl ?_
 refine ev ?_
 refine Walk.call (cr:=[]) zn8 (zfh) rfl .none rfl rfl (LeL.refl _) trivial rfl rfl rfl ?_
 refine ev ?_
 refine sq (fun h1 h1p h1s=>?_) fun h1 h1p h1s=>?_
 try simp only[Q] at h1p
 focus (refine rn0 (r1 rfl) (.eqd ?_);all_goals (refine congrArg D.bool ?_;simp[ftEq,h1s,h1p]))
 try simp only[Q] at h1p
 refine Walk.call (cr:=[]) zn8 (zfh) rfl .none rfl rfl (LeL.refl _) trivial rfl rfl rfl ?_
 refine ev ?_
 refine sq (fun h2 h2p h2s=>?_) fun h2 h2p h2s=>?_
 try simp only[Q] at h2p
 focus (refine rn0 (r1 rfl) (.eqd ?_);all_goals (refine congrArg D.bool ?_;simp[ftEq,h1s,h1p,h2s,h2p]))
 try simp only[Q] at h2p
 focus (refine rn0 (r1 rfl) (.eqd ?_);all_goals (refine congrArg D.bool ?_;simp[ftEq,h1s,h1p,h2s,h2p]))
theorem znF {a b:Fu} (hs:FuOk a):
  FnD Tryz.prog 50 [.agg [.d (.i a.ty.arg.data),.d (.i a.ty.arg.index),.d (.i a.ty.res.data),.d (.i a.ty.res.index),.d (zbO a.cls),.d (zbi a.bodies)],.agg [.d (.i b.ty.arg.data),.d (.i b.ty.arg.index),.d (.i b.ty.res.data),.d (.i b.ty.res.index),.d (zbO b.cls),.d (zbi b.bodies)]] [] (.d (.bool (fuEq a b))) []:=by
 refine bd Tryz.f50 23 [] [] fun w0 F0 own kept hk=>?_
 refine Walk.box (id:=3002) .none rfl rfl rfl rfl rfl rfl rfl ?_
 refine Walk.box (id:=3003) .none rfl rfl rfl rfl rfl rfl rfl ?_
 refine ev ?_
 refine Walk.call (cr:=[]) zuT (zjK (a:=a.ty) (b:=b.ty)) rfl .none rfl rfl (LeL.refl _) trivial rfl rfl rfl ?_
 refine ev ?_
 refine sq (fun h1 h1p h1s=>?_) fun h1 h1p h1s=>?_
 try simp only[Q] at h1p
 focus (refine rn0 (r1 rfl) (.eqd ?_);all_goals (refine congrArg D.bool ?_;simp[fuEq,h1s,h1p]))
 try simp only[Q] at h1p
 refine Walk.call (cr:=[]) zt5 (zjJ hs.1) rfl .none rfl rfl (LeL.refl _) trivial rfl rfl rfl ?_
 refine ev ?_
 refine sq (fun h2 h2p h2s=>?_) fun h2 h2p h2s=>?_
 try simp only[Q] at h2p
 focus (refine rn0 (r1 rfl) (.eqd ?_);all_goals (refine congrArg D.bool ?_;simp[fuEq,h1s,h1p,h2s,h2p]))
 try simp only[Q] at h2p
 refine Walk.call (cr:=[]) zse (zlh hs.2.1 hs.2.2) rfl .none rfl rfl (LeL.refl _) trivial rfl rfl rfl ?_
 refine ev ?_
 refine sq (fun h3 h3p h3s=>?_) fun h3 h3p h3s=>?_
 try simp only[Q] at h3p
 focus (refine rn0 (r1 rfl) (.eqd ?_);all_goals (refine congrArg D.bool ?_;simp[fuEq,h1s,h1p,h2s,h2p,h3s,h3p]))
 try simp only[Q] at h3p
 focus (refine rn0 (r1 rfl) (.eqd ?_);all_goals (refine congrArg D.bool ?_;simp[fuEq,h1s,h1p,h2s,h2p,h3s,h3p]))
theorem zmu {l m:List Fu} (hs:FusOk l):FnD Tryz.prog 24 [.d (zdL l),.d (zdL m)] [] (.d (.bool (zsj l m))) []:=by
 have h:=hs.1
 refine bd Tryz.f24 27 [] [] fun w0 F0 own kept hk=>?_
 refine sq (fun h1 h1p h1s=>?_) fun h1 h1p h1s=>?_
 try simp only[Q,Int.natCast_inj] at h1p
 refine rn0 (r1 rfl) (.eqd ?_)
 rotate_left
 try simp only[Q,Int.natCast_inj] at h1p
 refine CWp.loopX (ι:=Nat) hk (fun i=>[(5,.d (.i (i:Int)))]) [4,11,12,13,14,15,16,17,18,19,20,21,22,23,24,25,26] (fun i=>[]) (fun i=>i≤l.length∧∀i',i'<i→fuEq (nth l i') (nth m i')=true) (fun i=>l.length-i) 0 ⟨by omega,fun _ h=>absurd h (by omega)⟩ ⟨⟨_,rfl,(LeA.eqi (by first|rfl|(simp;done)|(simp_all;done)|omega))⟩,trivial⟩ trivial (fun x=>rfl) (fun i hg1=>?_)
 refine evc [] [] ?_
 refine sq (fun h2 h2p h2s=>?_) fun h2 h2p h2s=>?_
 try simp only[Q,Int.natCast_inj] at h2p
 refine Walk.idx sl48 .none rfl rfl rfl rfl (zam (by omega)) rfl ?_
 refine evd [] [] ?_
 refine Walk.idx sl48 .none rfl rfl rfl rfl (zam (by omega)) rfl ?_
 refine evd [] [] ?_
 refine Walk.call (cr:=[]) zuq (znF (a:=nth l i) (b:=nth m i) (hs.2 _ (zae (by omega)))) rfl .none rfl rfl (LeL.refl _) trivial rfl rfl rfl ?_
 refine evd [] [] ?_
 refine dr ?_
 refine sq (fun h3 h3p h3s=>?_) fun h3 h3p h3s=>?_
 try simp only[Q,Int.natCast_inj] at h3p
 refine rn0 (r1 rfl) (.eqd ?_)
 rotate_left
 try simp only[Q,Int.natCast_inj] at h3p
 refine ar ?_
 refine Exists.intro (i+1) ⟨⟨by omega,zaF hg1.2 (by assumption)⟩,(by omega),Sub.x (by kernel_rfl) (by kernel_rfl) ⟨⟨_,rfl,(LeA.eqi (by first|rfl|(simp;done)|(simp_all;done)|omega))⟩,trivial⟩ (by kernel_rfl) (by kernel_rfl) trivial⟩
 try simp only[Q,Int.natCast_inj] at h2p
 refine rn0 (r1 rfl) (.eqd ?_)
 rotate_left
 all_goals (refine congrArg D.bool ?_;first|(refine(zex ?_).symm;omega)|(refine(zbE (by omega) (fun x hx=>hg1.2 x (by omega))).symm)|(refine(zbq (i:=i) (by omega) (by omega) ?_).symm;assumption))
def zfu (a b:Ty):Bool:=decide (a.data=b.data)&&(decide (b.index=0)||decide (a.index=b.index))
def zaW (w:List Data) (funs:List Ft) (t:Ty) (e:Ex):List Ty:=
 if e.op=3 then (if e.n=0∧e.ctor∈zat w t then zag w t e.ctor else [])
 else if e.op=4 then [t,t]
 else if e.op=5 then (if 0≤e.n∧e.n<(funs.length:Int)∧e.ctor=0 then [(nth funs e.n.toNat).arg] else [])
 else []
def zfC (vars:List Vt) (n:Int):Ty:=if 0≤zbk vars n then (nth vars (zbk vars n).toNat).ty else ⟨0,0⟩
def okE (w:List Data) (funs:List Ft) (vars:List Vt) (t:Ty) (e:Ex):Bool:=
 if e.op=1 then decide (t.data = -1∧0≤e.n∧e.n≤9∧e.ctor=0)
 else if e.op=2 then decide (0≤zbk vars e.n)&&(zfu (zfC vars e.n) t&&decide (e.ctor=0))
 else if e.op=3 then decide (e.n=0∧e.ctor∈zat w t)
 else if e.op=4 then decide (t.data = -1∧e.n=0∧e.ctor=0)
 else if e.op=5 then decide (0≤e.n∧e.n<(funs.length:Int)∧e.ctor=0)&&zfu (nth funs e.n.toNat).res t
 else false
section
variable {w:List Data}{funs:List Ft}{vars:List Vt}{t:Ty}{e:Ex}
theorem ty_0 (h:e.op≠3∧e.op≠4∧e.op≠5):zaW w funs t e=[]:=by unfold zaW;rw[if_neg h.1,if_neg h.2.1,if_neg h.2.2]
theorem ty_3 (h:e.op=3) (h2:e.n=0) (h3:e.ctor∈zat w t):zaW w funs t e=zag w t e.ctor:=by unfold zaW;rw[if_pos h,if_pos ⟨h2,h3⟩]
theorem zss (h:e.op=3) (h2:e.n≠0):zaW w funs t e=[]:=by unfold zaW;rw[if_pos h,if_neg (fun hh=>h2 hh.1)]
theorem zew (h:e.op=3) (h2:e.ctor∉zat w t):zaW w funs t e=[]:=by unfold zaW;rw[if_pos h,if_neg (fun hh=>h2 hh.2)]
theorem ty_4 (h:e.op=4):zaW w funs t e=[t,t]:=by unfold zaW;rw[if_neg (by omega),if_pos h]
theorem ty_5 (h:e.op=5) (h2:0≤e.n∧e.n<(funs.length:Int)∧e.ctor=0):zaW w funs t e=[(nth funs e.n.toNat).arg]:=by unfold zaW;rw[if_neg (by omega),if_neg (by omega),if_pos h,if_pos h2]
theorem zbY (h:e.op=5) (h2:¬(0≤e.n∧e.n<(funs.length:Int)∧e.ctor=0)):zaW w funs t e=[]:=by unfold zaW;rw[if_neg (by omega),if_neg (by omega),if_pos h,if_neg h2]
theorem ok_1 (h:e.op=1):okE w funs vars t e=decide (t.data = -1∧0≤e.n∧e.n≤9∧e.ctor=0):=by unfold okE;rw[if_pos h]
theorem ok_2 (h:e.op=2):okE w funs vars t e=(decide (0≤zbk vars e.n)&&(zfu (zfC vars e.n) t&&decide (e.ctor=0))):=by unfold okE;rw[if_neg (by omega),if_pos h]
theorem ok_3 (h:e.op=3):okE w funs vars t e=decide (e.n=0∧e.ctor∈zat w t):=by unfold okE;rw[if_neg (by omega),if_neg (by omega),if_pos h]
theorem ok_4 (h:e.op=4):okE w funs vars t e=decide (t.data = -1∧e.n=0∧e.ctor=0):=by unfold okE;rw[if_neg (by omega),if_neg (by omega),if_neg (by omega),if_pos h]
theorem ok_5 (h:e.op=5):okE w funs vars t e=(decide (0≤e.n∧e.n<(funs.length:Int)∧e.ctor=0)&&zfu (nth funs e.n.toNat).res t):=by unfold okE;rw[if_neg (by omega),if_neg (by omega),if_neg (by omega),if_neg (by omega),if_pos h]
theorem ok_0 (h:e.op≠1∧e.op≠2∧e.op≠3∧e.op≠4∧e.op≠5):okE w funs vars t e=false:=by unfold okE;rw[if_neg h.1,if_neg h.2.1,if_neg h.2.2.1,if_neg h.2.2.2.1,if_neg h.2.2.2.2]
end
def zeZ (w:List Data) (funs:List Ft) (vars:List Vt) (t:Ty) (e:Ex):Bool:=okE w funs vars t e&&decide ((zaW w funs t e).length=e.kids.length)
def zda (w:List Data) (funs:List Ft) (vars:List Vt):Nat→Ty→Ex→Bool
 |0,_,_=>false
 |n+1,t,e=>zeZ w funs vars t e&&all2 (zda w funs vars n) (zaW w funs t e) e.kids
def zcP (g:Ty→Ex→Int→Bool×Int):List Ty→List Ex→Int→Bool×Int
 |a::r,b::s,c=>if (g a b c).1 then zcP g r s (g a b c).2 else (false,(g a b c).2)
 |_,_,c=>(true,c)
def zbo (w:List Data) (funs:List Ft) (vars:List Vt):Nat→Ty→Ex→Int→Bool×Int
 |0,_,_,c=>(false,c+1)
 |n+1,t,e,c=>if 60<c+1 then (false,c+1)
   else if zeZ w funs vars t e=true then zcP (zbo w funs vars n) (zaW w funs t e) e.kids (c+1) else (false,c+1)
theorem zoT {w:List Data}{funs:List Ft}{vars:List Vt}{n:Nat} (ih:∀t e c,(zbo w funs vars n t e c).1=(zda w funs vars n t e&&decide (c+(e.size:Int)≤60))∧((zbo w funs vars n t e c).1=true→(zbo w funs vars n t e c).2=c+e.size)):
  ∀(a:List Ty) (b:List Ex) (c:Int),a.length=b.length→c≤60→(zcP (zbo w funs vars n) a b c).1=(all2 (zda w funs vars n) a b&&decide (c+(Exs.size b:Int)≤60))∧((zcP (zbo w funs vars n) a b c).1=true→(zcP (zbo w funs vars n) a b c).2=c+Exs.size b)
 | [],[],c,_,hc=>by simp[zcP,all2,Exs.size,hc]
 |x::r,y::s,c,hl,hc=>by
  obtain⟨h1,h2⟩:=ih x y c
  simp only[zcP,all2,Exs.size]
  cases hh:(zbo w funs vars n x y c).1 with
  |true=>
   have h3:=h2 hh
   rw[hh] at h1
   have h4:=h1.symm
   simp only[Bool.and_eq_true,decide_eq_true_eq] at h4
   obtain⟨h5,h6⟩:=zoT ih r s (zbo w funs vars n x y c).2 (by simpa using hl) (by omega)
   simp only[if_true]
   rw[h5]
   refine⟨?_,fun hx=>?_⟩
   ·rw[h4.1,h3,Bool.true_and]
    congr 1
    exact decide_eq_decide.2 (by push_cast;omega)
   ·rw[←h5] at hx
    rw[h6 hx,h3];push_cast;omega
  |false=>
   rw[hh] at h1
   simp only[Bool.false_eq_true,if_false,false_implies,and_true]
   have h4:=h1.symm
   simp only[Bool.and_eq_false_imp,decide_eq_false_iff_not] at h4
   symm
   cases hf:zda w funs vars n x y with
   |false=>simp
   |true=>
    have:=h4 hf
    have h7:¬(c+((y.size+Exs.size s:Nat):Int)≤60):=by push_cast;omega
    simp only[Bool.and_eq_false_imp]
    intro _;exact decide_eq_false h7
 | [],_::_,_,hl,_=>by simp at hl
 |_::_,[],_,hl,_=>by simp at hl
theorem zkt (w:List Data) (funs:List Ft) (vars:List Vt):∀(n:Nat) (t:Ty) (e:Ex) (c:Int),(zbo w funs vars n t e c).1=(zda w funs vars n t e&&decide (c+(e.size:Int)≤60))∧((zbo w funs vars n t e c).1=true→(zbo w funs vars n t e c).2=c+e.size)
 |0,t,e,c=>by simp[zbo,zda]
 |n+1,t,e,c=>by
  have hsz:=Ex.size_eq e
  unfold zbo zda
  by_cases h1:60<c+1
  ·rw[if_pos h1]
   simp only[Bool.false_eq_true,false_implies,and_true]
   symm
   simp only[Bool.and_eq_false_imp,decide_eq_false_iff_not]
   intro _;omega
  ·rw[if_neg h1]
   by_cases h3:zeZ w funs vars t e=true
   ·rw[if_pos h3,h3,Bool.true_and]
    have h4:(zaW w funs t e).length=e.kids.length:=by
     unfold zeZ at h3;rw[Bool.and_eq_true] at h3;exact of_decide_eq_true h3.2
    obtain⟨h5,h6⟩:=zoT (fun t e c=>zkt w funs vars n t e c) (zaW w funs t e) e.kids (c+1) h4 (by omega)
    refine⟨?_,fun hx=>?_⟩
    ·rw[h5]
     congr 1
     exact decide_eq_decide.2 (by omega)
    ·rw[h6 hx];omega
   ·rw[if_neg h3]
    simp[h3]
def isE (w:List Data) (funs:List Ft) (vars:List Vt) (t:Ty) (e:Ex):Bool:=zda w funs vars 10 t e&&decide ((e.size:Int)≤60)
theorem ztX (w:List Data) (funs:List Ft) (vars:List Vt) (t:Ty) (e:Ex):(zbo w funs vars 10 t e 0).1=isE w funs vars t e:=by
 rw[(zkt w funs vars 10 t e 0).1,Int.zero_add];rfl
mutual
def cntE (m:Int):Ex→Int
 | .mk _ _ _ ks=>zc7 m 1 ks
def zc7 (m n:Int):List Ex→Int
 | []=>n
 |k::r=>if n≤m then zc7 m (n+cntE (m-n) k) r else n
end
theorem zsC (m:Int) (v:Ex):cntE m v=zc7 m 1 v.kids:=by cases v;rfl
theorem zhU {m n:Int}{l:List Ex} (h:¬n≤m):zc7 m n l=n:=by cases l<;>simp[zc7,h]
mutual
theorem zgr:∀(v:Ex) (m:Int),1≤cntE m v∧cntE m v≤v.size
 | .mk _ _ _ ks,m=>by
  have:=zj7 ks m 1 (by omega)
  simp only[cntE,Ex.size];push_cast;omega
theorem zj7:∀(l:List Ex) (m n:Int),1≤n→1≤zc7 m n l∧zc7 m n l≤n+Exs.size l
 | [],m,n,h=>by simp[zc7,Exs.size];omega
 |k::r,m,n,h=>by
  have h1:=zgr k (m-n)
  have h2:=zj7 r m (n+cntE (m-n) k) (by omega)
  simp only[zc7,Exs.size]
  split
  ·push_cast;omega
  ·push_cast;omega
end
mutual
theorem zof:∀(v:Ex) (m:Int),(cntE m v≤m↔(v.size:Int)≤m)∧(cntE m v≤m→cntE m v=v.size)
 | .mk _ _ _ ks,m=>by
  have:=zmU ks m 1
  simp only[cntE,Ex.size];push_cast;exact this
theorem zmU:∀(l:List Ex) (m n:Int),(zc7 m n l≤m↔n+(Exs.size l:Int)≤m)∧(zc7 m n l≤m→zc7 m n l=n+Exs.size l)
 | [],m,n=>by simp[zc7,Exs.size]
 |k::r,m,n=>by
  have h1:=zof k (m-n)
  have h2:=zmU r m (n+cntE (m-n) k)
  have h3:=zj7 r m (n+cntE (m-n) k)
  have h4:=zgr k (m-n)
  simp only[zc7,Exs.size]
  push_cast
  by_cases hn:n≤m
  ·rw[if_pos hn]
   by_cases h5:cntE (m-n) k≤m-n
   ·have h6:=h1.2 h5
    rw[h6] at h2 ⊢
    constructor
    ·rw[h2.1];constructor<;>intro h<;>omega
    ·intro h;rw[h2.2 h];omega
   ·have h7:¬(k.size:Int)≤m-n:=fun h=>h5 (h1.1.2 h)
    have h8:¬n+cntE (m-n) k≤m:=by omega
    rw[zhU h8]
    constructor
    ·constructor<;>intro h<;>omega
    ·intro h;omega
  ·rw[if_neg hn]
   constructor
   ·constructor<;>intro h<;>omega
   ·intro h;omega
end
theorem zmY {l:List Ex}{i:Nat} (h:i<l.length):(nth l i).size≤Exs.size l:=Exs.size_mem (zae h)
theorem zf5 {l:List Ex}{i:Nat} (h:i<l.length):Exs.size (l.drop i)=(nth l i).size+Exs.size (l.drop (i+1)):=by
 rw[zaP h];rfl
def TyOk (n:Nat) (t:Ty):Prop:=TyIn n t∧(t.data = -1→t.index=0)
def zdk (w:List Data) (l:List Ft):Bool:=decide ((l.length:Int)≤4)&& !l.any fun f=> !(zbh w.length f.arg&&zbh w.length f.res)
def gdOk (g:Gd) (vars:List Vt):Bool:=if g.op=0 then decide (g.var=0∧g.n=0) else decide (1≤g.op∧g.op≤2∧0≤g.n∧g.n≤9)&&decide ((⟨g.var,⟨-1,0⟩⟩:Vt)∈vars)
def zcZ (w:List Data) (t:Ty) (p:Pat):List Vt:=zdq (zaR w 10 t p 0).1
def clOk (w:List Data) (t:Ty) (c:Cl):Bool:=isP w t c.pat&&gdOk c.g (zcZ w t c.pat)
def zbe (w:List Data) (t:Ty) (l:List Cl):Bool:=zbA w t&&(decide ((l.length:Int)≤8)&& !l.any fun c=> !clOk w t c)
def zhT (w:List Data) (funs:List Ft) (f:Fu):Bool:=all2 (fun c e=>isE w funs (zcZ w f.ty.arg c.pat) f.ty.res e) f.cls f.bodies
def zcU (w:List Data) (funs:List Ft) (f:Fu):Bool:=zbe w f.ty.arg f.cls&&zhT w funs f
def zez (w:List Data) (l:List Fu):Bool:=zaY w&&(zdk w (l.map Fu.ty)&&l.all (zcU w (l.map Fu.ty)))
theorem znu {w:List Data} (hw:WT w){funs:List Ft} (hf:∀f∈funs,TyIn w.length f.arg){t:Ty} (ht:TyIn w.length t){e:Ex}:∀u∈zaW w funs t e,TyIn w.length u:=by
 intro u hu
 unfold zaW at hu
 split at hu
 ·split at hu
  ·rename_i h
   obtain⟨d,h1,h2,h3⟩:=zch (a:=t.data) (k:=t.index) ht h.2
   have:t=⟨(d:Int),t.index⟩:=by rw[←h1]
   rw[this] at hu
   exact zmO hw h2 h3 hu
  ·simp at hu
 ·split at hu
  ·simp only[List.mem_cons,List.not_mem_nil,or_false,or_self] at hu
   rw[hu];exact ht
  ·split at hu
   ·split at hu
    ·rename_i h
     simp only[List.mem_cons,List.not_mem_nil,or_false] at hu
     rw[hu];exact hf _ (zae (by omega))
    ·simp at hu
   ·simp at hu
theorem zsw {w:List Data} (hw:WT w){t:Ty}{c:Int} (ht:TyIn w.length t) (hc:c∈zat w t):(zag w t c).length≤1000000000000:=by
 obtain⟨d,h1,h2,j,h3,h4⟩:=zch (a:=t.data) (k:=t.index) ht hc
 have:=(hw.small.ctor _ (zae h2) _ (zae h4)).2
 unfold zag
 rw[h1,h3]
 simpa using this
theorem zl7 {w:List Data} (hw:WT w){funs:List Ft}{t:Ty} (ht:TyIn w.length t){e:Ex}:(zaW w funs t e).length≤1000000000000:=by
 unfold zaW
 split
 ·split
  ·rename_i h;exact zsw hw ht h.2
  ·simp
 ·split
  ·simp
  ·split
   ·split<;>simp
   ·simp
theorem zix {x:Vt}{n:Int}:FnD Tryz.prog 228 [.agg [.d (.i x.var),.d (.i x.ty.data),.d (.i x.ty.index)],.ref 3003 0] [(3003,some (.box [.d (.i n)]))] (.d (.bool (decide (x.var=n)))) []:=by
 refine bd Tryz.f228 8 [] [] fun w0 F0 own kept hk=>?_
 refine Walk.box (id:=3001) .none rfl rfl rfl rfl rfl rfl rfl ?_
 refine ev ?_
 refine rn [] (r1 rfl) (.eqd ?_) ⟨rfl,rfl⟩ (SubH.get ⟨rfl,trivial⟩) (fun _ h=>h)
 rotate_left
 all_goals (rfl)
theorem zfW {wd fd:D}{vars:List Vt}{n:Int} (hv:vars.length≤1000000000000):
  FnD Tryz.prog 209 [.agg [.d wd,.d fd,.d (zbP vars)],.d (.i n)] [] (.tup [.agg [.d (.i (zfC vars n).data),.d (.i (zfC vars n).index)],.d (.bool (decide (0≤zbk vars n)))]) []:=by
 have hlt:=fun h=>zfa (l:=vars) (n:=n) h
 refine bd Tryz.f209 20 [] [] fun w0 F0 own kept hk=>?_
 refine Walk.box (id:=3002) .none rfl rfl rfl rfl rfl rfl rfl ?_
 refine Walk.box (id:=3003) .none rfl rfl rfl rfl rfl rfl rfl ?_
 refine Walk.alloc (id:=3004) tz33 rfl .none rfl rfl rfl rfl ?_
 refine ev ?_
 refine Walk.closure (xs:=[_]) rfl .none rfl rfl ?_
 refine Walk.call (cr:=[]) zqM (zeq (p:=fun v=>decide (v.var=n)) hv ztG (fun t _=>zix) ⟨rfl,trivial⟩ rfl rfl) rfl .none rfl rfl (LeL.refl _) ⟨rfl,trivial⟩ rfl rfl rfl ?_
 refine ev ?_
 refine sq (fun h1 h1p h1s=>?_) fun h1 h1p h1s=>?_
 try simp only[Q] at h1p
 refine Walk.build st33 (ks:=[]) (xs:=[]) rfl rfl .none rfl rfl rfl ?_
 refine Walk.store ty33 .none rfl rfl rfl rfl rfl rfl (by simp) rfl ?_
 refine ev ?_
 refine rn0 (.cons (.cellA ty33 rfl rfl rfl) (.cons (.tmp rfl) .nil)) (.tup (.cons (.agg (.cons (.eqd ?_) (.cons (.eqd ?_) .nil))) (.cons (.eqd ?_) .nil)))
 rotate_left 3
 try simp only[Q] at h1p
 refine Walk.idx (i:=(zbk vars n).toNat) zcQ .none rfl rfl rfl (by have:=hlt (by show 0≤idxF _ _ _;omega);exact this.2.symm) (zam (i:=(zbk vars n).toNat) (by have:=hlt (by show 0≤idxF _ _ _;omega);omega)) rfl ?_
 refine ev ?_
 refine Walk.store ty33 .none rfl rfl rfl rfl rfl rfl (by simp) rfl ?_
 refine ev ?_
 refine rn0 (.cons (.cellA ty33 rfl rfl rfl) (.cons (.tmp rfl) .nil)) (.tup (.cons (.agg (.cons (.eqd ?_) (.cons (.eqd ?_) .nil))) (.cons (.eqd ?_) .nil)))
 rotate_left 3
 all_goals (first|(unfold zfC;rw[if_neg (by show ¬0≤idxF _ _ _;omega)];done)|(unfold zfC;rw[if_pos (by show 0≤idxF _ _ _;omega)];done)|(refine congrArg D.bool (decide_eq_false ?_).symm;show ¬0≤idxF _ _ _;omega)|(refine congrArg D.bool (decide_eq_true ?_).symm;show 0≤idxF _ _ _;omega))
theorem zer {a b:Ty}:FnD Tryz.prog 210 [.agg [.d (.i a.data),.d (.i a.index)],.agg [.d (.i b.data),.d (.i b.index)]] [] (.d (.bool (zfu a b))) []:=by
 refine bd Tryz.f210 22 [] [] fun w0 F0 own kept hk=>?_
 refine Walk.box (id:=3002) .none rfl rfl rfl rfl rfl rfl rfl ?_
 refine Walk.box (id:=3003) .none rfl rfl rfl rfl rfl rfl rfl ?_
 refine ev ?_
 refine sq (fun h1 h1p h1s=>?_) fun h1 h1p h1s=>?_
 try simp only[Q] at h1p
 refine sq (fun h2 h2p h2s=>?_) fun h2 h2p h2s=>?_
 try simp only[Q] at h2p
 refine rn0 (r1 rfl) (.eqd ?_)
 rotate_left
 try simp only[Q] at h2p
 refine rn0 (r1 rfl) (.eqd ?_)
 rotate_left
 try simp only[Q] at h1p
 refine rn0 (r1 rfl) (.eqd ?_)
 rotate_left
 all_goals (refine congrArg D.bool ?_;unfold zfu;simp_all)
theorem zot {w:List Data}{funs:List Ft}{vars:List Vt} (hw:WT w) (hfl:funs.length≤1000000000000) (hvl:vars.length≤1000000000000){t:Ty} (ht:TyIn w.length t){e:Ex}:
  FnD Tryz.prog 190 [.agg [.d (zak w),.d (zdt funs),.d (zbP vars)],.agg [.d (.i t.data),.d (.i t.index)],.agg [.d (.i e.op),.d (.i e.n),.d (.i e.ctor),.d (zbi e.kids)]] [] (.tup [.d (zby (zaW w funs t e)),.d (.bool (okE w funs vars t e))]) []:=by
 have ht':TyIn w.length ⟨t.data,t.index⟩:=ht
 have hcl:=zgp hw ht'
 have htd:t.data = -1→e.ctor∉zat w t:=fun h=>by unfold zat;rw[if_pos h];simp
 by_cases hmem:e.ctor∈zat w t
 ·have hmem':e.ctor∈zat w ⟨t.data,t.index⟩:=hmem
  have hcon:=zcx (v:=e.ctor) hcl
  rw[decide_eq_true hmem'] at hcon
  refine bd Tryz.f190 118 [] [] fun w0 F0 own kept hk=>?_
  refine Walk.box (id:=3003) .none rfl rfl rfl rfl rfl rfl rfl ?_
  refine Walk.box (id:=3004) .none rfl rfl rfl rfl rfl rfl rfl ?_
  refine Walk.box (id:=3005) .none rfl rfl rfl rfl rfl rfl rfl ?_
  refine ev ?_
  refine sq (fun h1 h1p h1s=>?_) fun h1 h1p h1s=>?_
  try simp only[Q,zaf] at h1p
  refine sq (fun h2 h2p h2s=>?_) fun h2 h2p h2s=>?_
  try simp only[Q,zaf] at h2p
  refine Walk.call (cr:=[]) zc6 (zbl) rfl (.some rfl rfl h2) rfl rfl (LeL.refl _) trivial rfl rfl rfl ?_
  refine evd [] [(17,true)] ?_ ⟨⟨_,rfl,h2⟩,trivial⟩
  refine sq (fun h3 h3p h3s=>?_) fun h3 h3p h3s=>?_
  try simp only[Q,zaf] at h3p
  refine dr ?_
  refine rn0 (r2 rfl rfl) (.tup (.cons (.nild ?_) (.cons (.eqd ?_) .nil)))
  rotate_left 2
  try simp only[Q,zaf] at h3p
  refine dr ?_
  refine rn0 (r2 rfl rfl) (.tup (.cons (.nild ?_) (.cons (.eqd ?_) .nil)))
  rotate_left 2
  try simp only[Q,zaf] at h2p
  refine sqF ?_
  refine dr ?_
  refine rn0 (r2 rfl rfl) (.tup (.cons (.nild ?_) (.cons (.eqd ?_) .nil)))
  rotate_left 2
  try simp only[Q,zaf] at h1p
  refine sq (fun h4 h4p h4s=>?_) fun h4 h4p h4s=>?_
  try simp only[Q,zaf] at h4p
  refine Walk.call (cr:=[]) zqL (zfW hvl) rfl .none rfl rfl (LeL.refl _) trivial rfl rfl rfl ?_
  refine ev ?_
  refine Walk.alloc (id:=3008) tz33 rfl .none rfl rfl rfl rfl ?_
  refine Walk.store ty33 .none rfl rfl rfl rfl rfl rfl (by simp) rfl ?_
  refine ev ?_
  refine sq (fun h5 h5p h5s=>?_) fun h5 h5p h5s=>?_
  try simp only[Q,zaf] at h5p
  refine Walk.call (cr:=[]) zkP (zer (a:=zfC vars e.n) (b:=t)) rfl (.some rfl rfl h5) rfl rfl (LeL.refl _) trivial rfl rfl rfl ?_
  refine evd [] [(37,true)] ?_ ⟨⟨_,rfl,h5⟩,trivial⟩
  refine sq (fun h6 h6p h6s=>?_) fun h6 h6p h6s=>?_
  try simp only[Q,zaf] at h6p
  refine dr ?_
  refine rn0 (r2 rfl rfl) (.tup (.cons (.nild ?_) (.cons (.eqd ?_) .nil)))
  rotate_left 2
  try simp only[Q,zaf] at h6p
  refine dr ?_
  refine rn0 (r2 rfl rfl) (.tup (.cons (.nild ?_) (.cons (.eqd ?_) .nil)))
  rotate_left 2
  try simp only[Q,zaf] at h5p
  refine sqF ?_
  refine dr ?_
  refine rn0 (r2 rfl rfl) (.tup (.cons (.nild ?_) (.cons (.eqd ?_) .nil)))
  rotate_left 2
  try simp only[Q,zaf] at h4p
  refine sq (fun h7 h7p h7s=>?_) fun h7 h7p h7s=>?_
  try simp only[Q,zaf] at h7p
  refine sq (fun h8 h8p h8s=>?_) fun h8 h8p h8s=>?_
  try simp only[Q,zaf] at h8p
  refine dr ?_
  refine sqT ?_
  refine rn0 (r2 rfl rfl) (.tup (.cons (.nild ?_) (.cons (.eqd ?_) .nil)))
  rotate_left 2
  try simp only[Q,zaf] at h8p
  refine Walk.call (cr:=[]) zhs (zcV hw ht') rfl (.some rfl rfl h8) rfl rfl (LeL.refl _) trivial rfl rfl rfl ?_
  refine evd [] [(52,false)] ?_ ⟨⟨_,rfl,h8⟩,trivial⟩
  refine Walk.call (cr:=[]) zkQ (hcon) rfl (.some rfl rfl h8) rfl rfl (LeL.refl _) trivial rfl rfl rfl ?_
  refine evd [] [(52,false)] ?_ ⟨⟨_,rfl,h8⟩,trivial⟩
  refine dr ?_
  refine sq (fun h10 h10p h10s=>?_) fun h10 h10p h10s=>?_
  try simp only[Q,zaf] at h10p
  refine rn0 (r2 rfl rfl) (.tup (.cons (.nild ?_) (.cons (.eqd ?_) .nil)))
  rotate_left 2
  try simp only[Q,zaf] at h10p
  refine Walk.call (cr:=[]) zht (zcD hw ht' hmem') rfl .none rfl rfl (LeL.refl _) trivial rfl rfl rfl ?_
  refine ev ?_
  refine rn0 (r2 rfl rfl) (.tup (.cons (.eqd ?_) (.cons (.eqd ?_) .nil)))
  rotate_left 2
  try simp only[Q,zaf] at h7p
  refine sq (fun h11 h11p h11s=>?_) fun h11 h11p h11s=>?_
  try simp only[Q,zaf] at h11p
  refine Walk.sliceLit zaS tz33 rfl (by decide) (ks:=[0,1]) (xs:=[_,_]) rfl rfl (by decide) (by decide) .none rfl rfl rfl rfl ?_
  refine evd [] [] ?_
  refine sq (fun h12 h12p h12s=>?_) fun h12 h12p h12s=>?_
  try simp only[Q,zaf] at h12p
  refine sq (fun h13 h13p h13s=>?_) fun h13 h13p h13s=>?_
  try simp only[Q,zaf] at h13p
  refine dr ?_
  refine rn0 (r2 rfl rfl) (.tup (.cons (.eqd ?_) (.cons (.eqd ?_) .nil)))
  rotate_left 2
  try simp only[Q,zaf] at h13p
  refine dr ?_
  refine rn0 (r2 rfl rfl) (.tup (.cons (.eqd ?_) (.cons (.eqd ?_) .nil)))
  rotate_left 2
  try simp only[Q,zaf] at h12p
  refine sqF ?_
  refine dr ?_
  refine rn0 (r2 rfl rfl) (.tup (.cons (.eqd ?_) (.cons (.eqd ?_) .nil)))
  rotate_left 2
  try simp only[Q,zaf] at h11p
  refine sq (fun h14 h14p h14s=>?_) fun h14 h14p h14s=>?_
  try simp only[Q,zaf] at h14p
  refine ar ?_
  refine Walk.call (cr:=[]) zc6 (zbl) rfl .none rfl rfl (LeL.refl _) trivial rfl rfl rfl ?_
  refine ev ?_
  refine sq (fun h15 h15p h15s=>?_) fun h15 h15p h15s=>?_
  try simp only[Q,zaf] at h15p
  refine sqT ?_
  refine rn0 (r2 rfl rfl) (.tup (.cons (.nild ?_) (.cons (.eqd ?_) .nil)))
  rotate_left 2
  try simp only[Q,zaf] at h15p
  refine sq (fun h17 h17p h17s=>?_) fun h17 h17p h17s=>?_
  try simp only[Q,zaf] at h17p
  refine rn0 (r2 rfl rfl) (.tup (.cons (.nild ?_) (.cons (.eqd ?_) .nil)))
  rotate_left 2
  try simp only[Q,zaf] at h17p
  refine Walk.idx (i:=e.n.toNat) zdp .none rfl rfl rfl (by omega) (zam (i:=e.n.toNat) (by omega)) rfl ?_
  refine evd [] [] ?_
  refine Walk.sliceLit zaS tz33 rfl (by decide) (ks:=[0]) (xs:=[_]) rfl rfl (by decide) (by decide) .none rfl rfl rfl rfl ?_
  refine evd [] [] ?_
  refine Walk.idx (i:=e.n.toNat) zdp .none rfl rfl rfl (by omega) (zam (i:=e.n.toNat) (by omega)) rfl ?_
  refine evd [] [] ?_
  refine Walk.call (cr:=[]) zkP (zer (a:=(nth funs e.n.toNat).res) (b:=t)) rfl .none rfl rfl (LeL.refl _) trivial rfl rfl rfl ?_
  refine evd [] [] ?_
  refine dr ?_
  refine rn0 (r2 rfl rfl) (.tup (.cons (.eqd ?_) (.cons (.eqd ?_) .nil)))
  rotate_left 2
  try simp only[Q,zaf] at h14p
  refine rn0 (r2 rfl rfl) (.tup (.cons (.nild ?_) (.cons (.eqd ?_) .nil)))
  rotate_left 2
  all_goals (first|rfl|(rw[ty_0 (by omega)];all_goals rfl)|(rw[zss (by omega) (by omega)];all_goals rfl)|(rw[ty_3 (by omega) (by omega) hmem];all_goals rfl)|(rw[ty_4 (by omega)];all_goals rfl)|(rw[zbY (by omega) (by omega)];all_goals rfl)|(rw[ty_5 (by omega) (by omega)];all_goals rfl)|(refine congrArg D.bool ?_;rw[ok_1 (by omega)];simp_all;done)|(refine congrArg D.bool ?_;rw[ok_1 (by omega)];simp_all[zaf];omega)|(rw[zbY (by omega) (by intro hh;simp_all[zaf];omega)];all_goals rfl)|(refine congrArg D.bool ?_;rw[ok_5 (by omega),decide_eq_false (by intro hh;simp_all[zaf];omega),Bool.false_and];done)|(refine congrArg D.bool ?_;rw[ok_2 (by omega),decide_eq_false (by omega),Bool.false_and];done)|(refine congrArg D.bool ?_;rw[ok_2 (by omega)];simp_all;done)|(refine congrArg D.bool ?_;rw[ok_3 (by omega)];simp_all;done)|(refine congrArg D.bool ?_;rw[ok_4 (by omega)];simp_all;done)|(refine congrArg D.bool ?_;rw[ok_5 (by omega)];first|(rw[decide_eq_true (by omega),Bool.true_and];done)|(rw[decide_eq_false (by omega),Bool.false_and];done))|(refine congrArg D.bool ?_;rw[ok_0 (by omega)];done)|(exfalso;simp_all;done))
 ·have hmem':e.ctor∉zat w ⟨t.data,t.index⟩:=hmem
  have hcon:=zcx (v:=e.ctor) hcl
  rw[decide_eq_false hmem'] at hcon
  refine bd Tryz.f190 118 [] [] fun w0 F0 own kept hk=>?_
  refine Walk.box (id:=3003) .none rfl rfl rfl rfl rfl rfl rfl ?_
  refine Walk.box (id:=3004) .none rfl rfl rfl rfl rfl rfl rfl ?_
  refine Walk.box (id:=3005) .none rfl rfl rfl rfl rfl rfl rfl ?_
  refine ev ?_
  refine sq (fun h1 h1p h1s=>?_) fun h1 h1p h1s=>?_
  try simp only[Q,zaf] at h1p
  refine sq (fun h2 h2p h2s=>?_) fun h2 h2p h2s=>?_
  try simp only[Q,zaf] at h2p
  refine Walk.call (cr:=[]) zc6 (zbl) rfl (.some rfl rfl h2) rfl rfl (LeL.refl _) trivial rfl rfl rfl ?_
  refine evd [] [(17,true)] ?_ ⟨⟨_,rfl,h2⟩,trivial⟩
  refine sq (fun h3 h3p h3s=>?_) fun h3 h3p h3s=>?_
  try simp only[Q,zaf] at h3p
  refine dr ?_
  refine rn0 (r2 rfl rfl) (.tup (.cons (.nild ?_) (.cons (.eqd ?_) .nil)))
  rotate_left 2
  try simp only[Q,zaf] at h3p
  refine dr ?_
  refine rn0 (r2 rfl rfl) (.tup (.cons (.nild ?_) (.cons (.eqd ?_) .nil)))
  rotate_left 2
  try simp only[Q,zaf] at h2p
  refine sqF ?_
  refine dr ?_
  refine rn0 (r2 rfl rfl) (.tup (.cons (.nild ?_) (.cons (.eqd ?_) .nil)))
  rotate_left 2
  try simp only[Q,zaf] at h1p
  refine sq (fun h4 h4p h4s=>?_) fun h4 h4p h4s=>?_
  try simp only[Q,zaf] at h4p
  refine Walk.call (cr:=[]) zqL (zfW hvl) rfl .none rfl rfl (LeL.refl _) trivial rfl rfl rfl ?_
  refine ev ?_
  refine Walk.alloc (id:=3008) tz33 rfl .none rfl rfl rfl rfl ?_
  refine Walk.store ty33 .none rfl rfl rfl rfl rfl rfl (by simp) rfl ?_
  refine ev ?_
  refine sq (fun h5 h5p h5s=>?_) fun h5 h5p h5s=>?_
  try simp only[Q,zaf] at h5p
  refine Walk.call (cr:=[]) zkP (zer (a:=zfC vars e.n) (b:=t)) rfl (.some rfl rfl h5) rfl rfl (LeL.refl _) trivial rfl rfl rfl ?_
  refine evd [] [(37,true)] ?_ ⟨⟨_,rfl,h5⟩,trivial⟩
  refine sq (fun h6 h6p h6s=>?_) fun h6 h6p h6s=>?_
  try simp only[Q,zaf] at h6p
  refine dr ?_
  refine rn0 (r2 rfl rfl) (.tup (.cons (.nild ?_) (.cons (.eqd ?_) .nil)))
  rotate_left 2
  try simp only[Q,zaf] at h6p
  refine dr ?_
  refine rn0 (r2 rfl rfl) (.tup (.cons (.nild ?_) (.cons (.eqd ?_) .nil)))
  rotate_left 2
  try simp only[Q,zaf] at h5p
  refine sqF ?_
  refine dr ?_
  refine rn0 (r2 rfl rfl) (.tup (.cons (.nild ?_) (.cons (.eqd ?_) .nil)))
  rotate_left 2
  try simp only[Q,zaf] at h4p
  refine sq (fun h7 h7p h7s=>?_) fun h7 h7p h7s=>?_
  try simp only[Q,zaf] at h7p
  refine sq (fun h8 h8p h8s=>?_) fun h8 h8p h8s=>?_
  try simp only[Q,zaf] at h8p
  refine dr ?_
  refine sqT ?_
  refine rn0 (r2 rfl rfl) (.tup (.cons (.nild ?_) (.cons (.eqd ?_) .nil)))
  rotate_left 2
  try simp only[Q,zaf] at h8p
  refine Walk.call (cr:=[]) zhs (zcV hw ht') rfl (.some rfl rfl h8) rfl rfl (LeL.refl _) trivial rfl rfl rfl ?_
  refine evd [] [(52,false)] ?_ ⟨⟨_,rfl,h8⟩,trivial⟩
  refine Walk.call (cr:=[]) zkQ (hcon) rfl (.some rfl rfl h8) rfl rfl (LeL.refl _) trivial rfl rfl rfl ?_
  refine evd [] [(52,false)] ?_ ⟨⟨_,rfl,h8⟩,trivial⟩
  refine dr ?_
  refine sq (fun h10 h10p h10s=>?_) fun h10 h10p h10s=>?_
  try simp only[Q,zaf] at h10p
  refine rn0 (r2 rfl rfl) (.tup (.cons (.nild ?_) (.cons (.eqd ?_) .nil)))
  rotate_left 2
  try simp only[Q,zaf] at h10p
  exfalso;simp_all
  try simp only[Q,zaf] at h7p
  refine sq (fun h11 h11p h11s=>?_) fun h11 h11p h11s=>?_
  try simp only[Q,zaf] at h11p
  refine Walk.sliceLit zaS tz33 rfl (by decide) (ks:=[0,1]) (xs:=[_,_]) rfl rfl (by decide) (by decide) .none rfl rfl rfl rfl ?_
  refine evd [] [] ?_
  refine sq (fun h12 h12p h12s=>?_) fun h12 h12p h12s=>?_
  try simp only[Q,zaf] at h12p
  refine sq (fun h13 h13p h13s=>?_) fun h13 h13p h13s=>?_
  try simp only[Q,zaf] at h13p
  refine dr ?_
  refine rn0 (r2 rfl rfl) (.tup (.cons (.eqd ?_) (.cons (.eqd ?_) .nil)))
  rotate_left 2
  try simp only[Q,zaf] at h13p
  refine dr ?_
  refine rn0 (r2 rfl rfl) (.tup (.cons (.eqd ?_) (.cons (.eqd ?_) .nil)))
  rotate_left 2
  try simp only[Q,zaf] at h12p
  refine sqF ?_
  refine dr ?_
  refine rn0 (r2 rfl rfl) (.tup (.cons (.eqd ?_) (.cons (.eqd ?_) .nil)))
  rotate_left 2
  try simp only[Q,zaf] at h11p
  refine sq (fun h14 h14p h14s=>?_) fun h14 h14p h14s=>?_
  try simp only[Q,zaf] at h14p
  refine ar ?_
  refine Walk.call (cr:=[]) zc6 (zbl) rfl .none rfl rfl (LeL.refl _) trivial rfl rfl rfl ?_
  refine ev ?_
  refine sq (fun h15 h15p h15s=>?_) fun h15 h15p h15s=>?_
  try simp only[Q,zaf] at h15p
  refine sqT ?_
  refine rn0 (r2 rfl rfl) (.tup (.cons (.nild ?_) (.cons (.eqd ?_) .nil)))
  rotate_left 2
  try simp only[Q,zaf] at h15p
  refine sq (fun h17 h17p h17s=>?_) fun h17 h17p h17s=>?_
  try simp only[Q,zaf] at h17p
  refine rn0 (r2 rfl rfl) (.tup (.cons (.nild ?_) (.cons (.eqd ?_) .nil)))
  rotate_left 2
  try simp only[Q,zaf] at h17p
  refine Walk.idx (i:=e.n.toNat) zdp .none rfl rfl rfl (by omega) (zam (i:=e.n.toNat) (by omega)) rfl ?_
  refine evd [] [] ?_
  refine Walk.sliceLit zaS tz33 rfl (by decide) (ks:=[0]) (xs:=[_]) rfl rfl (by decide) (by decide) .none rfl rfl rfl rfl ?_
  refine evd [] [] ?_
  refine Walk.idx (i:=e.n.toNat) zdp .none rfl rfl rfl (by omega) (zam (i:=e.n.toNat) (by omega)) rfl ?_
  refine evd [] [] ?_
  refine Walk.call (cr:=[]) zkP (zer (a:=(nth funs e.n.toNat).res) (b:=t)) rfl .none rfl rfl (LeL.refl _) trivial rfl rfl rfl ?_
  refine evd [] [] ?_
  refine dr ?_
  refine rn0 (r2 rfl rfl) (.tup (.cons (.eqd ?_) (.cons (.eqd ?_) .nil)))
  rotate_left 2
  try simp only[Q,zaf] at h14p
  refine rn0 (r2 rfl rfl) (.tup (.cons (.nild ?_) (.cons (.eqd ?_) .nil)))
  rotate_left 2
  all_goals (first|rfl|(rw[ty_0 (by omega)];all_goals rfl)|(rw[zss (by omega) (by omega)];all_goals rfl)|(rw[zew (by omega) hmem];all_goals rfl)|(rw[ty_4 (by omega)];all_goals rfl)|(rw[zbY (by omega) (by omega)];all_goals rfl)|(rw[ty_5 (by omega) (by omega)];all_goals rfl)|(refine congrArg D.bool ?_;rw[ok_1 (by omega)];simp_all;done)|(refine congrArg D.bool ?_;rw[ok_1 (by omega)];simp_all[zaf];omega)|(rw[zbY (by omega) (by intro hh;simp_all[zaf];omega)];all_goals rfl)|(refine congrArg D.bool ?_;rw[ok_5 (by omega),decide_eq_false (by intro hh;simp_all[zaf];omega),Bool.false_and];done)|(refine congrArg D.bool ?_;rw[ok_2 (by omega),decide_eq_false (by omega),Bool.false_and];done)|(refine congrArg D.bool ?_;rw[ok_2 (by omega)];simp_all;done)|(refine congrArg D.bool ?_;rw[ok_3 (by omega)];simp_all;done)|(refine congrArg D.bool ?_;rw[ok_4 (by omega)];simp_all;done)|(refine congrArg D.bool ?_;rw[ok_5 (by omega)];first|(rw[decide_eq_true (by omega),Bool.true_and];done)|(rw[decide_eq_false (by omega),Bool.false_and];done))|(refine congrArg D.bool ?_;rw[ok_0 (by omega)];done)|(exfalso;simp_all;done))
theorem zgf {g:Ty→Ex→Int→Bool×Int}{a:List Ty}{b:List Ex}{i:Nat}{c:Int} (ha:i<a.length) (hl:a.length=b.length) (h:(g (nth a i) (nth b i) c).1=false):
  zcP g (a.drop i) (b.drop i) c=(false,(g (nth a i) (nth b i) c).2):=by
 rw[zaP ha,zaP (l:=b) (by omega),zcP,if_neg (by rw[h];simp)]
theorem zqd {g:Ty→Ex→Int→Bool×Int}{a:List Ty}{b:List Ex}{i:Nat}{c:Int} (ha:i<a.length) (hl:a.length=b.length) (h:(g (nth a i) (nth b i) c).1=true):
  zcP g (a.drop i) (b.drop i) c=zcP g (a.drop (i+1)) (b.drop (i+1)) (g (nth a i) (nth b i) c).2:=by
 rw[zaP ha,zaP (l:=b) (by omega),zcP,if_pos h]
theorem zg9 {g:Ty→Ex→Int→Bool×Int}{a:List Ty}{b:List Ex}{i:Nat}{c:Int} (ha:a.length≤i):zcP g (a.drop i) (b.drop i) c=(true,c):=by
 rw[List.drop_eq_nil_of_le ha,zcP]
 simp
theorem zrS (w:List Data) (funs:List Ft) (vars:List Vt) (n:Nat) (t:Ty) (v:Ex) (c:Int) (h:(zbo w funs vars n t v c).1=true):c≤(zbo w funs vars n t v c).2∧(zbo w funs vars n t v c).2≤60:=by
 have h1:=zkt w funs vars n t v c
 have h2:=h1.2 h
 rw[h1.1] at h
 simp only[Bool.and_eq_true,decide_eq_true_eq] at h
 omega
theorem ziU {w:List Data}{funs:List Ft}{vars:List Vt} (hw:WT w) (hfl:funs.length≤1000000000000) (hvl:vars.length≤1000000000000) (hfa:∀f∈funs,TyIn w.length f.arg):∀(n:Nat){t:Ty}{d c:Int}{e:Ex},d+n=11→n≤10→TyIn w.length t→e.ok→0≤c→c≤1000000000000→
  FnD Tryz.prog 149 [.agg [.d (zak w),.d (zdt funs),.d (zbP vars)],.agg [.d (.i t.data),.d (.i t.index)],.agg [.d (.i e.op),.d (.i e.n),.d (.i e.ctor),.d (zbi e.kids)],.d (.i d),.ref 950 0] [(950,some (.box [.d (.i c)]))]
   (.d (.bool (zbo w funs vars n t e c).1)) [(950,some (.box [.d (.i (zbo w funs vars n t e c).2)]))]
 |0,t,d,c,e,hd,_,_,_,c0,c1=>by
  refine bd Tryz.f149 65 [] [] fun w0 F0 own kept hk=>?_
  refine Walk.box (id:=3005) .none rfl rfl rfl rfl rfl rfl rfl ?_
  refine Walk.box (id:=3006) .none rfl rfl rfl rfl rfl rfl rfl ?_
  refine Walk.box (id:=3007) .none rfl rfl rfl rfl rfl rfl rfl ?_
  refine ev ?_
  refine ar ?_
  refine Walk.store ty3 .none rfl rfl rfl rfl rfl rfl (by simp) rfl ?_
  refine tv ?_
  refine sq (fun h1 h1p h1s=>?_) fun h1 h1p h1s=>?_
  ·try simp only[Q] at h1p
   refine sqT ?_
   refine rn [(950,some (.box [.d (.i (zbo w funs vars 0 t e c).2)]))] (r1 rfl) (.eqd ?_) ⟨rfl,rfl⟩ (SubO.get ⟨.inr (by rfl),⟨.inl rfl,trivial⟩⟩) (zbv rfl)
   all_goals (rfl)
  ·try simp only[Q] at h1p
   refine sq (fun h3 h3p h3s=>?_) fun h3 h3p h3s=>?_
   ·try simp only[Q] at h3p
    refine rn [(950,some (.box [.d (.i (zbo w funs vars 0 t e c).2)]))] (r1 rfl) (.eqd ?_) ⟨rfl,rfl⟩ (SubO.get ⟨.inr (by rfl),⟨.inl rfl,trivial⟩⟩) (zbv rfl)
    all_goals (rfl)
   ·try simp only[Q] at h3p
    exfalso;simp at *;omega
 |n+1,t,d,c,e,hd,hn,ht,hok,c0,c1=>by
  rw[Ex.ok_iff] at hok
  by_cases h60:60<c+1
  ·skip
   refine bd Tryz.f149 65 [] [] fun w0 F0 own kept hk=>?_
   refine Walk.box (id:=3005) .none rfl rfl rfl rfl rfl rfl rfl ?_
   refine Walk.box (id:=3006) .none rfl rfl rfl rfl rfl rfl rfl ?_
   refine Walk.box (id:=3007) .none rfl rfl rfl rfl rfl rfl rfl ?_
   refine ev ?_
   refine ar ?_
   refine Walk.store ty3 .none rfl rfl rfl rfl rfl rfl (by simp) rfl ?_
   refine tv ?_
   refine sq (fun h1 h1p h1s=>?_) fun h1 h1p h1s=>?_
   ·try simp only[Q] at h1p
    refine sqT ?_
    refine rn [(950,some (.box [.d (.i (zbo w funs vars (n+1) t e c).2)]))] (r1 rfl) (.eqd ?_) ⟨rfl,rfl⟩ (SubO.get ⟨.inr (by(unfold zbo;rw[if_pos h60];rfl)),⟨.inl rfl,trivial⟩⟩) (zbv rfl)
    all_goals (unfold zbo;rw[if_pos h60])
   ·try simp only[Q] at h1p
    refine sq (fun h3 h3p h3s=>?_) fun h3 h3p h3s=>?_
    ·try simp only[Q] at h3p
     refine rn [(950,some (.box [.d (.i (zbo w funs vars (n+1) t e c).2)]))] (r1 rfl) (.eqd ?_) ⟨rfl,rfl⟩ (SubO.get ⟨.inr (by(unfold zbo;rw[if_pos h60];rfl)),⟨.inl rfl,trivial⟩⟩) (zbv rfl)
     all_goals (unfold zbo;rw[if_pos h60])
    ·try simp only[Q] at h3p
     exfalso;simp at *;omega
  have hkd:=zot hw hfl hvl ht (e:=e) (funs:=funs) (vars:=vars)
  have htl:=zl7 hw ht (funs:=funs) (e:=e)
  have hti:=znu hw hfa ht (e:=e)
  by_cases hnd:zeZ w funs vars t e=true
  ·have hlen:(zaW w funs t e).length=e.kids.length:=by
    unfold zeZ at hnd;rw[Bool.and_eq_true] at hnd;exact of_decide_eq_true hnd.2
   have hok1:okE w funs vars t e=true:=by
    unfold zeZ at hnd;rw[Bool.and_eq_true] at hnd;exact hnd.1
   have hsc:zbo w funs vars (n+1) t e c=zcP (zbo w funs vars n) (zaW w funs t e) e.kids (c+1):=by
    conv=>lhs;unfold zbo
    rw[if_neg h60,if_pos hnd]
   rw[hsc]
   rw[hok1] at hkd
   refine bd Tryz.f149 65 [] [] fun w0 F0 own kept hk=>?_
   refine Walk.box (id:=3005) .none rfl rfl rfl rfl rfl rfl rfl ?_
   refine Walk.box (id:=3006) .none rfl rfl rfl rfl rfl rfl rfl ?_
   refine Walk.box (id:=3007) .none rfl rfl rfl rfl rfl rfl rfl ?_
   refine ev ?_
   refine ar ?_ (by first|(constructor<;>omega)|(constructor<;>simp[Ex.cs_len]<;>omega))
   refine Walk.store ty3 .none rfl rfl rfl rfl rfl rfl (by simp) rfl ?_
   refine tv ?_
   refine sq (fun h1 h1p h1s=>?_) fun h1 h1p h1s=>?_
   ·try simp only[Q,Ex.cs_len] at h1p
    refine sqT ?_
    exfalso;simp at *;omega
   ·try simp only[Q,Ex.cs_len] at h1p
    refine sq (fun h3 h3p h3s=>?_) fun h3 h3p h3s=>?_
    ·try simp only[Q,Ex.cs_len] at h3p
     exfalso;simp at *;omega
    ·try simp only[Q,Ex.cs_len] at h3p
     refine Walk.call (cr:=[]) zqH (hkd) rfl .none rfl rfl (LeL.refl _) trivial rfl rfl rfl ?_
     refine ev ?_
     refine sq (fun h4 h4p h4s=>?_) fun h4 h4p h4s=>?_
     ·try simp only[Q,Ex.cs_len] at h4p
      refine sqT ?_
      exfalso;first|omega|(simp_all[Ex.cs_len];done)
     ·try simp only[Q,Ex.cs_len] at h4p
      refine sq (fun h6 h6p h6s=>?_) fun h6 h6p h6s=>?_
      ·try simp only[Q,Ex.cs_len] at h6p
       exfalso;first|omega|(simp_all[Ex.cs_len];done)
      ·try simp only[Q,Ex.cs_len] at h6p
       refine CWp.loopX (ι:=Nat×Int) hk (fun x=>[(48,.d (.i (x.1:Int)))]) [10,13,14,49,50,51,52,53,54,55,56,57,58,59,60,61,62,63,64] (fun x=>[(950,some (.box [.d (.i x.2)]))]) (fun x=>x.1≤e.kids.length∧zcP (zbo w funs vars n) ((zaW w funs t e).drop x.1) (e.kids.drop x.1) x.2=zcP (zbo w funs vars n) (zaW w funs t e) e.kids (c+1)∧0≤x.2∧x.2≤60) (fun x=>e.kids.length-x.1) (0,c+1) ⟨by simp,by simp,by dsimp only;omega,by dsimp only;omega⟩ ⟨⟨_,rfl,(LeA.eqi (by first|rfl|(simp;done)|(dsimp only;omega)))⟩,trivial⟩ ⟨(by first|rfl|(simp[getH];done)),trivial⟩ (fun x=>rfl) (fun x hg1=>?_)
       refine evc [] [] ?_
       refine sq (fun h7 h7p h7s=>?_) fun h7 h7p h7s=>?_
       ·try simp only[Q,Ex.cs_len] at h7p
        refine Walk.idx sl58 .none rfl rfl rfl rfl (zgC (by omega)) rfl ?_
        refine ev ?_
        refine Walk.alloc (id:=3014) zl8 rfl .none rfl rfl rfl rfl ?_
        refine ev ?_
        refine Walk.store zl6 .none rfl rfl rfl rfl rfl rfl (by simp) rfl ?_
        refine tv ?_
        refine Walk.idx zaS .none rfl rfl rfl rfl (zam (by omega)) rfl ?_
        refine evd [] [] ?_
        refine ar ?_ (by first|(constructor<;>omega)|(constructor<;>simp[Ex.cs_len]<;>omega))
        refine Walk.call (cr:=[]) zqw (ziU hw hfl hvl hfa n (t:=nth (zaW w funs t e) x.1) (c:=x.2) (by omega) (by omega) (hti _ (zae (by omega))) (Exs.ok_mem hok.2 _ (zae (by omega))) (by omega) (by omega)) rfl .none rfl rfl (LeL.refl _) ⟨rfl,trivial⟩ rfl rfl rfl ?_
        refine evd [] [] ?_
        refine dr ?_
        refine sq (fun h8 h8p h8s=>?_) fun h8 h8p h8s=>?_
        ·try simp only[Q,Ex.cs_len] at h8p
         refine rn [(950,some (.box [.d (.i (zcP (zbo w funs vars n) (zaW w funs t e) e.kids (c+1)).2)]))] (r1 rfl) (.eqd ?_) ⟨rfl,rfl⟩ (SubO.get ⟨.inr (by first|(obtain⟨h1,h2,h3,h4⟩:=hg1;show some (Res.box _)=some (Res.box _);rw[←h2,zg9 (by omega)])|(obtain⟨h1,h2,h3,h4⟩:=hg1;show some (Res.box _)=some (Res.box _);rw[←h2,zgf (by omega) hlen (by simp_all)])),⟨.inl rfl,trivial⟩⟩) (zbv rfl)
         all_goals (refine congrArg D.bool ?_;first|(obtain⟨h1,h2,h3,h4⟩:=hg1;rw[←h2,zg9 (by omega)])|(obtain⟨h1,h2,h3,h4⟩:=hg1;rw[←h2,zgf (by omega) hlen (by simp_all)]))
        ·try simp only[Q,Ex.cs_len] at h8p
         refine ar ?_ (by first|(constructor<;>omega)|(constructor<;>simp[Ex.cs_len]<;>omega))
         refine Exists.intro ((x.1+1,(zbo w funs vars n (nth (zaW w funs t e) x.1) (nth e.kids x.1) x.2).2)) ⟨(by
              have hz:(zbo w funs vars n (nth (zaW w funs t e) x.1) (nth e.kids x.1) x.2).1=true:=by simp_all
              have hb:=zrS w funs vars n _ _ _ hz
              obtain⟨h1,h2,h3,h4⟩:=hg1
              refine⟨by dsimp only;omega, ?_,by dsimp only;omega,by dsimp only;omega⟩
              rw[←h2,zqd (i:=x.1) (by omega) hlen hz]),(by dsimp only;omega),Sub.x (by kernel_rfl) (by kernel_rfl) ⟨⟨_,rfl,(LeA.eqi (by first|rfl|(simp;done)|(dsimp only;omega)))⟩,trivial⟩ (by kernel_rfl) (by kernel_rfl) ⟨(by first|rfl|(simp[getH];done)),trivial⟩⟩
       ·try simp only[Q,Ex.cs_len] at h7p
        refine rn [(950,some (.box [.d (.i (zcP (zbo w funs vars n) (zaW w funs t e) e.kids (c+1)).2)]))] (r1 rfl) (.eqd ?_) ⟨rfl,rfl⟩ (SubO.get ⟨.inr (by first|(obtain⟨h1,h2,h3,h4⟩:=hg1;show some (Res.box _)=some (Res.box _);rw[←h2,zg9 (by omega)])|(obtain⟨h1,h2,h3,h4⟩:=hg1;show some (Res.box _)=some (Res.box _);rw[←h2,zgf (by omega) hlen (by simp_all)])),⟨.inl rfl,trivial⟩⟩) (zbv rfl)
        all_goals (refine congrArg D.bool ?_;first|(obtain⟨h1,h2,h3,h4⟩:=hg1;rw[←h2,zg9 (by omega)])|(obtain⟨h1,h2,h3,h4⟩:=hg1;rw[←h2,zgf (by omega) hlen (by simp_all)]))
  ·have hsc:zbo w funs vars (n+1) t e c=(false,c+1):=by
    conv=>lhs;unfold zbo
    rw[if_neg h60,if_neg hnd]
   have hno:okE w funs vars t e=true→(zaW w funs t e).length≠e.kids.length:=fun h hl=>hnd (by unfold zeZ;rw[h,decide_eq_true hl];rfl)
   rw[hsc]
   refine bd Tryz.f149 65 [] [] fun w0 F0 own kept hk=>?_
   refine Walk.box (id:=3005) .none rfl rfl rfl rfl rfl rfl rfl ?_
   refine Walk.box (id:=3006) .none rfl rfl rfl rfl rfl rfl rfl ?_
   refine Walk.box (id:=3007) .none rfl rfl rfl rfl rfl rfl rfl ?_
   refine ev ?_
   refine ar ?_
   refine Walk.store ty3 .none rfl rfl rfl rfl rfl rfl (by simp) rfl ?_
   refine tv ?_
   refine sq (fun h1 h1p h1s=>?_) fun h1 h1p h1s=>?_
   ·try simp only[Q,Ex.cs_len] at h1p
    refine sqT ?_
    exfalso;simp at *;omega
   ·try simp only[Q,Ex.cs_len] at h1p
    refine sq (fun h3 h3p h3s=>?_) fun h3 h3p h3s=>?_
    ·try simp only[Q,Ex.cs_len] at h3p
     exfalso;simp at *;omega
    ·try simp only[Q,Ex.cs_len] at h3p
     refine Walk.call (cr:=[]) zqH (hkd) rfl .none rfl rfl (LeL.refl _) trivial rfl rfl rfl ?_
     refine ev ?_
     refine sq (fun h4 h4p h4s=>?_) fun h4 h4p h4s=>?_
     ·try simp only[Q,Ex.cs_len] at h4p
      refine sqT ?_
      refine rn [(950,some (.box [.d (.i (c+1))]))] (r1 rfl) (.eqd ?_) ⟨rfl,rfl⟩ (SubO.get ⟨.inr (by rfl),⟨.inl rfl,trivial⟩⟩) (zbv rfl)
      all_goals (rfl)
     ·try simp only[Q,Ex.cs_len] at h4p
      refine sq (fun h6 h6p h6s=>?_) fun h6 h6p h6s=>?_
      ·try simp only[Q,Ex.cs_len] at h6p
       refine rn [(950,some (.box [.d (.i (c+1))]))] (r1 rfl) (.eqd ?_) ⟨rfl,rfl⟩ (SubO.get ⟨.inr (by rfl),⟨.inl rfl,trivial⟩⟩) (zbv rfl)
       all_goals (rfl)
      ·try simp only[Q,Ex.cs_len] at h6p
       exfalso;have:=hno (by first|assumption|simp_all);omega
theorem zos {w:List Data}{funs:List Ft}{vars:List Vt} (hw:WT w) (hfl:funs.length≤1000000000000) (hvl:vars.length≤1000000000000) (hfa:∀f∈funs,TyIn w.length f.arg){t:Ty}{e:Ex} (ht:TyIn w.length t) (hok:e.ok):
  FnD Tryz.prog 91 [.agg [.d (zak w),.d (zdt funs),.d (zbP vars)],.agg [.d (.i t.data),.d (.i t.index)],.agg [.d (.i e.op),.d (.i e.n),.d (.i e.ctor),.d (zbi e.kids)]] [] (.d (.bool (isE w funs vars t e))) []:=by
 have hz:=ztX w funs vars t e
 refine bd Tryz.f91 12 [] [] fun w0 F0 own kept hk=>?_
 refine Walk.box (id:=3003) .none rfl rfl rfl rfl rfl rfl rfl ?_
 refine Walk.box (id:=3004) .none rfl rfl rfl rfl rfl rfl rfl ?_
 refine Walk.box (id:=3005) .none rfl rfl rfl rfl rfl rfl rfl ?_
 refine ev ?_
 refine Walk.alloc (id:=950) tz3 rfl .none rfl rfl rfl rfl ?_
 refine Walk.store ty3 .none rfl rfl rfl rfl rfl rfl (by simp) rfl ?_
 refine tv ?_
 refine Walk.call (cr:=[]) zqw (ziU hw hfl hvl hfa 10 (c:=0) (by omega) (by omega) ht hok (by omega) (by omega)) rfl .none rfl rfl (LeL.refl _) ⟨rfl,trivial⟩ rfl rfl rfl ?_
 refine ev ?_
 refine rn0 (r1 rfl) (.eqd ?_)
 rotate_left
 all_goals (rw[hz])
theorem zhp {xs:List Ft}{f:Nat}{caps:List AV}{hp:Hp}{p:Ft→Bool} (hs:xs.length≤1000000000000) (hcal:Callee Tryz.prog f)
  (hf:∀t∈xs,FnD Tryz.prog f ([.agg [.d (.i t.arg.data),.d (.i t.arg.index),.d (.i t.res.data),.d (.i t.res.index)]]++caps) hp (.d (.bool (p t))) []) (k1:subH hp hp) (k2:zdF hp=true) (k3:zbg hp [] (.d .nilp) []=true):
  FnD Tryz.prog 189 [.d (zdt xs),.fn f caps] hp (.d (.i (idxF p xs 0))) []:=by
 refine bd Tryz.f189 19 [] [] fun w0 F0 own kept hk=>?_
 refine CWp.loopX (ι:=List (Ft)×List (Ft)) hk (fun x=>[(8,.d (.i (x.1.length:Int)))]) [4,5,9,10,11,12,13,14,15,16,17,18] (fun x=>[]) (fun x=>x.1++x.2=xs∧idxF p x.2 x.1.length=idxF p xs 0) (fun x=>x.2.length) ([],xs) ⟨by simp,rfl⟩ ⟨⟨_,rfl,(LeA.eqi (by first|rfl|(simp;done)|(simp_all;done)|omega))⟩,trivial⟩ trivial (fun x=>zeO hp) (fun x hg1=>?_)
 obtain⟨pre,rest⟩:=x
 dsimp only at hg1 ⊢
 refine evc [] [] ?_
 refine sq (fun h1 h1p h1s=>?_) fun h1 h1p h1s=>?_
 try simp only[Q] at h1p
 rcases rest with _|⟨y,rest⟩
 ·exfalso;simp_all
 refine Walk.idx zdp .none rfl rfl rfl rfl (zaG hg1.1) rfl ?_
 refine ev ?_
 refine Walk.callV (cr:=[]) hcal (hf y (by rw[←hg1.1];simp)) rfl .none rfl rfl rfl (LeL.refl _) k1 k2 (zcr k3 _) rfl ?_
 refine tv ?_
 refine sq (fun h2 h2p h2s=>?_) fun h2 h2p h2s=>?_
 try simp only[Q] at h2p
 focus (refine rn [] (r1 rfl) (.eqd ?_) ⟨rfl,rfl⟩ (fun _ _ h=>h) (fun _ h=>h);all_goals (rw[←hg1.2];simp[idxF,h1s,h1p,h2s,h2p]))
 try simp only[Q] at h2p
 refine ar ?_
 refine Exists.intro ((pre++[y],rest)) ⟨⟨(by have hz:=hg1.1;rw[←hz];simp),(by rw[←hg1.2];simp[idxF,h2s])⟩,(by simp),Sub.x (by kernel_rfl) (by kernel_rfl) ⟨⟨_,rfl,(LeA.eqi (by first|rfl|(simp;done)|(simp_all;done)|omega))⟩,trivial⟩ (by simp) (by simp[zds]) trivial⟩
 try simp only[Q] at h1p
 have hrest:rest=[]:=by
  rcases rest with _|⟨a,b⟩
  ·rfl
  ·exfalso;have hz:=congrArg List.length (hg1.1);simp only[List.length_append,List.length_cons,List.length_map] at hz;omega
 subst hrest
 focus (refine rn [] (r1 rfl) (.eqd ?_) ⟨rfl,rfl⟩ (fun _ _ h=>h) (fun _ h=>h);all_goals (rw[←hg1.2];simp[idxF,h1s,h1p]))
theorem zgh {xs:List Ft}{f:Nat}{caps:List AV}{hp:Hp}{p:Ft→Bool} (hs:xs.length≤1000000000000) (hcal:Callee Tryz.prog f)
  (hf:∀t∈xs,FnD Tryz.prog f ([.agg [.d (.i t.arg.data),.d (.i t.arg.index),.d (.i t.res.data),.d (.i t.res.index)]]++caps) hp (.d (.bool (p t))) []) (k1:subH hp hp) (k2:zdF hp=true) (k3:zbg hp [] (.d .nilp) []=true):
  FnD Tryz.prog 146 [.d (zdt xs),.fn f caps] hp (.d (.bool (xs.any p))) []:=by
 refine bd Tryz.f146 9 [] [] fun w0 F0 own kept hk=>?_
 refine Walk.call (cr:=[]) ztx (zhp hs hcal hf k1 k2 k3) rfl .none rfl rfl (LeL.refl _) k1 k2 (zcr k3 _) rfl ?_
 refine ev ?_
 refine rn [] (r1 rfl) (.eqd ?_) ⟨rfl,rfl⟩ (fun _ _ h=>h) (fun _ h=>h)
 rotate_left
 all_goals (exact congrArg D.bool (zd1 p xs 0))
theorem zho {xs:List Cl}{f:Nat}{caps:List AV}{hp:Hp}{p:Cl→Bool} (hs:xs.length≤1000000000000) (hcal:Callee Tryz.prog f)
  (hf:∀t∈xs,FnD Tryz.prog f ([.agg [.d (.i t.pat.op),.d (.i t.pat.ctor),.d (.i t.pat.n),.d (.i t.pat.m),.d (.i t.pat.var),.d (zad t.pat.kids),.d (.i t.g.op),.d (.i t.g.var),.d (.i t.g.n)]]++caps) hp (.d (.bool (p t))) []) (k1:subH hp hp) (k2:zdF hp=true) (k3:zbg hp [] (.d .nilp) []=true):
  FnD Tryz.prog 116 [.d (zbO xs),.fn f caps] hp (.d (.i (idxF p xs 0))) []:=by
 refine bd Tryz.f116 19 [] [] fun w0 F0 own kept hk=>?_
 refine CWp.loopX (ι:=List (Cl)×List (Cl)) hk (fun x=>[(8,.d (.i (x.1.length:Int)))]) [4,5,9,10,11,12,13,14,15,16,17,18] (fun x=>[]) (fun x=>x.1++x.2=xs∧idxF p x.2 x.1.length=idxF p xs 0) (fun x=>x.2.length) ([],xs) ⟨by simp,rfl⟩ ⟨⟨_,rfl,(LeA.eqi (by first|rfl|(simp;done)|(simp_all;done)|omega))⟩,trivial⟩ trivial (fun x=>zeO hp) (fun x hg1=>?_)
 obtain⟨pre,rest⟩:=x
 dsimp only at hg1 ⊢
 refine evc [] [] ?_
 refine sq (fun h1 h1p h1s=>?_) fun h1 h1p h1s=>?_
 try simp only[Q] at h1p
 rcases rest with _|⟨y,rest⟩
 ·exfalso;simp_all
 refine Walk.idx sl35 .none rfl rfl rfl rfl (zaG hg1.1) rfl ?_
 refine ev ?_
 refine Walk.callV (cr:=[]) hcal (hf y (by rw[←hg1.1];simp)) rfl .none rfl rfl rfl (LeL.refl _) k1 k2 (zcr k3 _) rfl ?_
 refine tv ?_
 refine sq (fun h2 h2p h2s=>?_) fun h2 h2p h2s=>?_
 try simp only[Q] at h2p
 focus (refine rn [] (r1 rfl) (.eqd ?_) ⟨rfl,rfl⟩ (fun _ _ h=>h) (fun _ h=>h);all_goals (rw[←hg1.2];simp[idxF,h1s,h1p,h2s,h2p]))
 try simp only[Q] at h2p
 refine ar ?_
 refine Exists.intro ((pre++[y],rest)) ⟨⟨(by have hz:=hg1.1;rw[←hz];simp),(by rw[←hg1.2];simp[idxF,h2s])⟩,(by simp),Sub.x (by kernel_rfl) (by kernel_rfl) ⟨⟨_,rfl,(LeA.eqi (by first|rfl|(simp;done)|(simp_all;done)|omega))⟩,trivial⟩ (by simp) (by simp[zds]) trivial⟩
 try simp only[Q] at h1p
 have hrest:rest=[]:=by
  rcases rest with _|⟨a,b⟩
  ·rfl
  ·exfalso;have hz:=congrArg List.length (hg1.1);simp only[List.length_append,List.length_cons,List.length_map] at hz;omega
 subst hrest
 focus (refine rn [] (r1 rfl) (.eqd ?_) ⟨rfl,rfl⟩ (fun _ _ h=>h) (fun _ h=>h);all_goals (rw[←hg1.2];simp[idxF,h1s,h1p]))
theorem zgg {xs:List Cl}{f:Nat}{caps:List AV}{hp:Hp}{p:Cl→Bool} (hs:xs.length≤1000000000000) (hcal:Callee Tryz.prog f)
  (hf:∀t∈xs,FnD Tryz.prog f ([.agg [.d (.i t.pat.op),.d (.i t.pat.ctor),.d (.i t.pat.n),.d (.i t.pat.m),.d (.i t.pat.var),.d (zad t.pat.kids),.d (.i t.g.op),.d (.i t.g.var),.d (.i t.g.n)]]++caps) hp (.d (.bool (p t))) []) (k1:subH hp hp) (k2:zdF hp=true) (k3:zbg hp [] (.d .nilp) []=true):
  FnD Tryz.prog 66 [.d (zbO xs),.fn f caps] hp (.d (.bool (xs.any p))) []:=by
 refine bd Tryz.f66 9 [] [] fun w0 F0 own kept hk=>?_
 refine Walk.call (cr:=[]) zs4 (zho hs hcal hf k1 k2 k3) rfl .none rfl rfl (LeL.refl _) k1 k2 (zcr k3 _) rfl ?_
 refine ev ?_
 refine rn [] (r1 rfl) (.eqd ?_) ⟨rfl,rfl⟩ (fun _ _ h=>h) (fun _ h=>h)
 rotate_left
 all_goals (exact congrArg D.bool (zd1 p xs 0))
theorem zoz {w:List Data} (hs:w.length≤1000000000000){fd vd:D}{f:Ft}:FnD Tryz.prog 147 [.agg [.d (.i f.arg.data),.d (.i f.arg.index),.d (.i f.res.data),.d (.i f.res.index)],.ref 3001 0] [(3001,some (.box [.d (zak w),.d fd,.d vd]))] (.d (.bool (!(zbh w.length f.arg&&zbh w.length f.res)))) []:=by
 refine bd Tryz.f147 18 [] [] fun w0 F0 own kept hk=>?_
 refine Walk.box (id:=3002) .none rfl rfl rfl rfl rfl rfl rfl ?_
 refine ev ?_
 refine Walk.call (cr:=[]) zn4 (zff hs (a:=f.arg.data) (b:=f.arg.index)) rfl .none rfl rfl (LeL.refl _) trivial rfl rfl rfl ?_
 refine ev ?_
 refine sq (fun h1 h1p h1s=>?_) fun h1 h1p h1s=>?_
 try simp only[Q] at h1p
 refine rn [] (r1 rfl) (.eqd ?_) ⟨rfl,rfl⟩ (SubH.get ⟨rfl,trivial⟩) (fun _ h=>h)
 rotate_left
 try simp only[Q] at h1p
 refine Walk.call (cr:=[]) zn4 (zff hs (a:=f.res.data) (b:=f.res.index)) rfl (.some rfl rfl h1) rfl rfl (LeL.refl _) trivial rfl rfl rfl ?_
 refine evs [] [(10,false)] ?_ ⟨⟨_,rfl,h1⟩,trivial⟩
 refine rn [] (r1 rfl) (.eqd ?_) ⟨rfl,rfl⟩ (SubH.get ⟨rfl,trivial⟩) (fun _ h=>h)
 rotate_left
 all_goals (refine congrArg D.bool ?_;simp_all)
theorem zlc {w:List Data}{funs:List Ft} (hs:w.length≤1000000000000) (hfl:funs.length≤1000000000000):FnD Tryz.prog 89 [.agg [.d (zak w),.d (zdt funs),.d (.sl [])]] [] (.d (.bool (zdk w funs))) []:=by
 refine bd Tryz.f89 45 [] [] fun w0 F0 own kept hk=>?_
 refine Walk.box (id:=3001) .none rfl rfl rfl rfl rfl rfl rfl ?_
 refine ev ?_
 refine sq (fun h1 h1p h1s=>?_) fun h1 h1p h1s=>?_
 try simp only[Q] at h1p
 refine sqT ?_
 refine rn0 (r1 rfl) (.eqd ?_)
 rotate_left
 try simp only[Q] at h1p
 refine Walk.closure (xs:=[_]) rfl (.some rfl rfl h1) rfl rfl ?_
 refine Walk.call (cr:=[]) zti (zgh (p:=fun f=> !(zbh w.length f.arg&&zbh w.length f.res)) hfl ztj (fun t _=>zoz hs) ⟨rfl,trivial⟩ rfl rfl) rfl (.some rfl rfl h1) rfl rfl (LeL.refl _) ⟨rfl,trivial⟩ rfl rfl rfl ?_
 refine evs [] [(10,false)] ?_ ⟨⟨_,rfl,h1⟩,trivial⟩
 refine sq (fun h3 h3p h3s=>?_) fun h3 h3p h3s=>?_
 try simp only[Q] at h3p
 refine rn0 (r1 rfl) (.eqd ?_)
 rotate_left
 try simp only[Q] at h3p
 refine Walk.alloc (id:=3003) zql rfl .none rfl rfl rfl rfl ?_
 refine tv ?_
 refine CWp.loopX (ι:=Unit) hk (fun u=>[(19,.d (.i 0))]) [2,5,20,21,22,23,24,25,26,27,28,29,30,31,32,33,34,35,36,37,38,39,40,41,42,43,44] (fun u=>[]) (fun u=>True) (fun u=>0) () trivial ⟨⟨_,rfl,(LeA.eqi (by first|rfl|(simp;done)|(simp_all;done)|omega))⟩,trivial⟩ trivial (fun x=>rfl) (fun u hg1=>?_)
 refine evc [] [] ?_
 refine sq (fun h4 h4p h4s=>?_) fun h4 h4p h4s=>?_
 try simp only[Q] at h4p
 exfalso;simp at h4
 try simp only[Q] at h4p
 refine rn0 (r1 rfl) (.eqd ?_)
 rotate_left
 all_goals (refine congrArg D.bool ?_;unfold zdk;first|(rw[decide_eq_false (by omega),Bool.false_and];done)|(rw[decide_eq_true (by omega),Bool.true_and];simp_all;done)|(simp_all;done)|(simp_all;omega))
theorem zkh {l:List Fu} (hl:l.length≤1000000000000):FnD Tryz.prog 87 [.d (zdL l)] [] (.d (zdt (l.map Fu.ty))) []:=by
 refine bd Tryz.f87 19 [3] [] fun w0 F0 own kept hk=>?_
 refine Walk.assignNil 1 4 .none rfl rfl ?_
 refine tv ?_
 refine CWp.loopX (ι:=List (Fu)×List (Fu)) hk (fun x=>[(8,.d (.i (x.1.length:Int))),(3,.gl 1 ((x.1.map Fu.ty).map Ft.c))]) [5,9,10,11,12,13,14,15,16,17] (fun x=>[(1,some (.tok (((x.1.map Fu.ty).map Ft.c)).length 4))]) (fun x=>x.1++x.2=l) (fun x=>x.2.length) ([],l) (by simp) ⟨⟨_,rfl,(LeA.eqi (by first|rfl|(simp;done)))⟩,⟨⟨_,rfl,(LeA.glg (by first|rfl|(simp;done)))⟩,trivial⟩⟩ ⟨zab (by first|rfl|(simp;done)|(simp;omega)|(first|rfl|(simp;done))),trivial⟩ (fun x=>rfl) (fun x hg1=>?_)
 obtain⟨pre,rest⟩:=x
 dsimp only at hg1 ⊢
 refine evc [3] [] ?_
 refine sq (fun h1 h1p h1s=>?_) fun h1 h1p h1s=>?_
 try simp only[Q] at h1p
 rcases rest with _|⟨y,rest⟩
 ·exfalso;simp_all
 refine Walk.idx sl48 .none rfl rfl rfl rfl (zaG hg1) rfl ?_
 refine evs [3] [] ?_
 refine Walk.alloc (id:=3005) tz60 rfl .none rfl rfl rfl rfl ?_
 refine Walk.store ty60 .none rfl rfl rfl rfl rfl rfl (by simp) rfl ?_
 refine tv ?_
 refine Walk.sliceLit zdp tz57 rfl (by decide) (ks:=[0]) (xs:=[_]) rfl rfl (by decide) (by decide) .none rfl rfl rfl rfl ?_
 refine Walk.append zdp zz57 rfl .none rfl rfl rfl rfl (zaz rfl (by first|rfl|(simp;done)|(simp;omega))) (by simp) (by have hz:=congrArg List.length hg1;simp at hz ⊢;omega) (by have hz:=congrArg List.length hg1;simp at hz ⊢;omega) ?_
 refine asg ?_
 refine tv ?_
 refine ar ?_
 refine Exists.intro ((pre++[y],rest)) ⟨(by have hz:=hg1;rw[←hz];simp),(by simp),Sub.x (by kernel_rfl) (by kernel_rfl) ⟨⟨_,rfl,(LeA.eqi (by first|rfl|(simp;done)))⟩,⟨⟨_,rfl,(LeA.glg (by first|rfl|(simp;done)))⟩,trivial⟩⟩ (by kernel_rfl) (by kernel_rfl) ⟨zab (by first|rfl|(simp;done)|(simp;omega)|(first|rfl|(simp;done))),trivial⟩⟩
 try simp only[Q] at h1p
 have hrest:rest=[]:=by
  rcases rest with _|⟨a,b⟩
  ·rfl
  ·exfalso;have hz:=congrArg List.length (hg1);simp only[List.length_append,List.length_cons,List.length_map] at hz;omega
 subst hrest
 refine rn0 (r1 rfl) (.gld ?_)
 rotate_left
 all_goals (first|rfl|(rw[List.append_nil] at hg1;subst hg1;simp;done))
theorem zie (w:List Data) (t:Ty) (p:Pat):(zcZ w t p).length≤6:=(zdi w 10 t p 0).2
theorem zor {w:List Data} (hw:WT w){fd:D}{t:Ty}{c:Cl} (ht:TyIn w.length t) (hok:c.pat.ok):
  FnD Tryz.prog 90 [.d (zak w),.d fd,.agg [.d (.i t.data),.d (.i t.index)],.agg [.d (.i c.pat.op),.d (.i c.pat.ctor),.d (.i c.pat.n),.d (.i c.pat.m),.d (.i c.pat.var),.d (zad c.pat.kids),.d (.i c.g.op),.d (.i c.g.var),.d (.i c.g.n)]] [] (.agg [.d (zak w),.d fd,.d (zbP (zcZ w t c.pat))]) []:=by
 have ht':TyIn w.length ⟨t.data,t.index⟩:=ht
 refine bd Tryz.f90 23 [] [] fun w0 F0 own kept hk=>?_
 refine Walk.box (id:=3006) .none rfl rfl rfl rfl rfl rfl rfl ?_
 refine Walk.box (id:=3007) .none rfl rfl rfl rfl rfl rfl rfl ?_
 refine Walk.alloc (id:=3008) zu7 rfl .none rfl rfl rfl rfl ?_
 refine tv ?_
 refine Walk.call (cr:=[]) zn5 (zdU hw ht' hok) rfl .none rfl rfl (LeL.refl _) trivial rfl rfl rfl ?_
 refine ev ?_
 refine Walk.build zsn (ks:=[0,1,2]) (xs:=[_,_,_]) rfl rfl .none rfl rfl rfl ?_
 refine Walk.store zsq .none rfl rfl rfl rfl rfl rfl (by simp) rfl ?_
 refine tv ?_
 refine rn0 (.cons (.cellA zsq rfl rfl rfl) .nil) (.agg (.cons (.eqd ?_) (.cons (.eqd ?_) (.cons (.eqd ?_) .nil))))
 rotate_left 3
 all_goals (rfl)
theorem zk7 {g:Gd}{vars:List Vt} (hv:vars.length≤1000000000000):FnD Tryz.prog 118 [.agg [.d (.i g.op),.d (.i g.var),.d (.i g.n)],.d (zbP vars)] [] (.d (.bool (gdOk g vars))) []:=by
 refine bd Tryz.f118 27 [10] [] fun w0 F0 own kept hk=>?_
 refine Walk.box (id:=3002) .none rfl rfl rfl rfl rfl rfl rfl ?_
 refine evs [10] [] ?_
 refine sq (fun h1 h1p h1s=>?_) fun h1 h1p h1s=>?_
 try simp only[Q,zaf] at h1p
 refine Walk.build st83 (ks:=[]) (xs:=[]) rfl rfl .none rfl rfl rfl ?_
 refine Walk.eqV eq83 .none rfl rfl rfl rfl rfl ?_
 refine evs [10] [] ?_
 refine rn0 (r1 rfl) (.eqd ?_)
 rotate_left
 try simp only[Q,zaf] at h1p
 refine Walk.call (cr:=[]) zc6 (zbl) rfl .none rfl rfl (LeL.refl _) trivial rfl rfl rfl ?_
 refine evs [10] [] ?_
 refine sq (fun h2 h2p h2s=>?_) fun h2 h2p h2s=>?_
 try simp only[Q,zaf] at h2p
 refine Walk.call (cr:=[]) zc6 (zbl) rfl (.some rfl rfl h2) rfl rfl (LeL.refl _) trivial rfl rfl rfl ?_
 refine evs [10] [(14,true)] ?_ ⟨⟨_,rfl,h2⟩,trivial⟩
 refine sq (fun h3 h3p h3s=>?_) fun h3 h3p h3s=>?_
 try simp only[Q,zaf] at h3p
 refine Walk.build st33 (ks:=[0]) (xs:=[_]) rfl rfl (.some rfl rfl h3) rfl rfl rfl ?_
 refine Walk.build zqi (ks:=[0,1]) (xs:=[_,_]) rfl rfl (.some rfl rfl h3) rfl rfl rfl ?_
 refine Walk.call (cr:=[]) zqC (zeM (v:=⟨g.var,⟨-1,0⟩⟩) hv) rfl (.some rfl rfl h3) rfl rfl (LeL.refl _) trivial rfl rfl rfl ?_
 refine evs [10] [(19,true)] ?_ ⟨⟨_,rfl,h3⟩,trivial⟩
 refine rn0 (r1 rfl) (.eqd ?_)
 rotate_left
 try simp only[Q,zaf] at h3p
 refine rn0 (r1 rfl) (.eqd ?_)
 rotate_left
 try simp only[Q,zaf] at h2p
 refine sqF ?_
 refine rn0 (r1 rfl) (.eqd ?_)
 rotate_left
 all_goals (refine congrArg D.bool ?_;unfold gdOk;first|(rw[if_pos (by omega)];simp_all;done)|(rw[if_neg (by omega)];simp_all[zaf];done)|(rw[if_neg (by omega),decide_eq_false (by omega),Bool.false_and];done)|(rw[if_neg (by omega),decide_eq_true (by omega),Bool.true_and];done)|(rw[if_neg (by omega)];simp_all[zaf];omega))
theorem zkc {w:List Data} (hw:WT w){t:Ty}{c:Cl} (ht:TyIn w.length t) (hok:c.pat.ok):
  FnD Tryz.prog 68 [.d (zak w),.agg [.d (.i t.data),.d (.i t.index)],.agg [.d (.i c.pat.op),.d (.i c.pat.ctor),.d (.i c.pat.n),.d (.i c.pat.m),.d (.i c.pat.var),.d (zad c.pat.kids),.d (.i c.g.op),.d (.i c.g.var),.d (.i c.g.n)]] [] (.d (.bool (clOk w t c))) []:=by
 have ht':TyIn w.length ⟨t.data,t.index⟩:=ht
 have hvl:=zie w t c.pat
 refine bd Tryz.f68 24 [] [] fun w0 F0 own kept hk=>?_
 refine Walk.box (id:=3004) .none rfl rfl rfl rfl rfl rfl rfl ?_
 refine Walk.box (id:=3005) .none rfl rfl rfl rfl rfl rfl rfl ?_
 refine ev ?_
 refine Walk.call (cr:=[]) zn5 (zdU hw ht' hok) rfl .none rfl rfl (LeL.refl _) trivial rfl rfl rfl ?_
 refine ev ?_
 refine sq (fun h1 h1p h1s=>?_) fun h1 h1p h1s=>?_
 try simp only[Q] at h1p
 refine Walk.call (cr:=[]) zs5 (zk7 (g:=c.g) (vars:=zcZ w t c.pat) (by omega)) rfl (.some rfl rfl h1) rfl rfl (LeL.refl _) trivial rfl rfl rfl ?_
 refine evs [] [(18,true)] ?_ ⟨⟨_,rfl,h1⟩,trivial⟩
 refine rn0 (r1 rfl) (.eqd ?_)
 rotate_left
 try simp only[Q] at h1p
 refine rn0 (r1 rfl) (.eqd ?_)
 rotate_left
 all_goals (refine congrArg D.bool ?_;unfold clOk;have hte:(⟨t.data,t.index⟩:Ty)=t:=rfl;first|(simp_all;done)|(rw[hte] at *;simp_all;done))
theorem zhm {w:List Data} (hw:WT w){a k:Int}{c:Cl} (ht:TyIn w.length ⟨a,k⟩) (hok:c.pat.ok):
  FnD Tryz.prog 67 [.agg [.d (.i c.pat.op),.d (.i c.pat.ctor),.d (.i c.pat.n),.d (.i c.pat.m),.d (.i c.pat.var),.d (zad c.pat.kids),.d (.i c.g.op),.d (.i c.g.var),.d (.i c.g.n)],.ref 3003 0,.ref 3004 0] [(3003,some (.box [.d (zak w)])),(3004,some (.box [.d (.i a),.d (.i k)]))] (.d (.bool (!clOk w ⟨a,k⟩ c))) []:=by
 refine bd Tryz.f67 10 [] [] fun w0 F0 own kept hk=>?_
 refine Walk.box (id:=3901) .none rfl rfl rfl rfl rfl rfl rfl ?_
 refine ev ?_
 refine Walk.call (cr:=[]) zuC (zkc (t:=⟨a,k⟩) (c:=c) hw ht hok) rfl .none rfl rfl (LeL.refl _) trivial rfl rfl rfl ?_
 refine ev ?_
 refine rn [] (r1 rfl) (.eqd ?_) ⟨rfl,rfl⟩ (SubH.get ⟨rfl,⟨rfl,trivial⟩⟩) (fun _ h=>h)
 rotate_left
 all_goals (rfl)
theorem zeS {w:List Data} (hs:WSmall w){a k:Int}{l:List Cl} (hl:ClsOk l):
  FnD Tryz.prog 34 [.d (zak w),.agg [.d (.i a),.d (.i k)],.d (zbO l)] [] (.d (.bool (zbe w ⟨a,k⟩ l))) []:=by
 have hll:=hl.1
 refine bd Tryz.f34 21 [] [] fun w0 F0 own kept hk=>?_
 refine Walk.box (id:=3003) .none rfl rfl rfl rfl rfl rfl rfl ?_
 refine Walk.box (id:=3004) .none rfl rfl rfl rfl rfl rfl rfl ?_
 refine ev ?_
 refine Walk.call (cr:=[]) zuz (zjG hs) rfl .none rfl rfl (LeL.refl _) trivial rfl rfl rfl ?_
 refine ev ?_
 refine sq (fun h1 h1p h1s=>?_) fun h1 h1p h1s=>?_
 try simp only[Q] at h1p
 refine sq (fun h2 h2p h2s=>?_) fun h2 h2p h2s=>?_
 try simp only[Q] at h2p
 refine Walk.closure (xs:=[_,_]) rfl (.some rfl rfl h2) rfl rfl ?_
 refine Walk.call (cr:=[]) zuA (zgg (p:=fun c=> !clOk w ⟨a,k⟩ c) hl.1 zuB (fun t htm=>zhm (zgU hs (zdJ (by assumption)).1) (zdJ (by assumption)).2.1 (hl.2 t htm)) ⟨rfl,rfl,trivial⟩ rfl rfl) rfl (.some rfl rfl h2) rfl rfl (LeL.refl _) ⟨rfl,rfl,trivial⟩ rfl rfl rfl ?_
 refine evs [] [(15,true)] ?_ ⟨⟨_,rfl,h2⟩,trivial⟩
 refine rn0 (r1 rfl) (.eqd ?_)
 rotate_left
 try simp only[Q] at h2p
 refine rn0 (r1 rfl) (.eqd ?_)
 rotate_left
 try simp only[Q] at h1p
 refine sqF ?_
 refine rn0 (r1 rfl) (.eqd ?_)
 rotate_left
 all_goals (refine congrArg D.bool ?_;unfold zbe;first|(simp_all;done)|(simp_all;omega))
theorem zkI {w:List Data}{funs:List Ft}{f:Fu} (h:¬f.bodies.length=f.cls.length):zcU w funs f=false:=by
 unfold zcU zhT;rw[zex (by omega),Bool.and_false]
theorem zmQ {w:List Data}{funs:List Ft}{f:Fu}{i:Nat} (hl:f.bodies.length=f.cls.length) (hi:i<f.bodies.length) (h:isE w funs (zcZ w f.ty.arg (nth f.cls i).pat) f.ty.res (nth f.bodies i)=false):zcU w funs f=false:=by
 unfold zcU zhT;rw[zbq (i:=i) (by omega) (by omega) h,Bool.and_false]
theorem zkH {w:List Data}{funs:List Ft}{f:Fu} (hc:zbe w f.ty.arg f.cls=true) (hl:f.bodies.length=f.cls.length) (h:∀i,i<f.bodies.length→isE w funs (zcZ w f.ty.arg (nth f.cls i).pat) f.ty.res (nth f.bodies i)=true):zcU w funs f=true:=by
 unfold zcU zhT;rw[hc,zbE (by omega) (fun i hi=>h i (by omega))];rfl
theorem zk2 {w:List Data}{funs:List Ft} (h:zdk w funs=true):∀f∈funs,zbh w.length f.arg=true∧zbh w.length f.res=true:=by
 unfold zdk at h
 simp only[Bool.and_eq_true,Bool.not_eq_true',List.any_eq_false,Bool.not_eq_false',decide_eq_true_eq] at h
 intro f hf
 have:=h.2 f hf
 simpa using this
theorem zqp {α:Type}{p:α→Bool}{pre rest l:List α}{y:α} (h:pre++y::rest=l) (hy:p y=false):l.all p=false:=by
 subst h;simp[hy]
theorem zjD {w:List Data} (hs:WSmall w){l:List Fu} (hl:FusOk l):FnD Tryz.prog 49 [.d (zak w),.d (zdL l)] [] (.d (.bool (zez w l))) []:=by
 have hll:=hl.1
 have hfm:=fun(y:Fu) (hy:y∈l) (ho:zdk w (l.map Fu.ty)=true)=>zk2 ho y.ty (List.mem_map.2 ⟨y,hy,rfl⟩)
 have hfa:=fun(ho:zdk w (l.map Fu.ty)=true) (f:Ft) (hf:f∈l.map Fu.ty)=>zhh (zk2 ho f hf).1
 have hml:(l.map Fu.ty).length≤1000000000000:=by simp;omega
 have hvw:=fun(h:zaY w=true)=>zgU hs h
 unfold zez
 generalize hF:l.map Fu.ty=funs at *
 have hft:=zkh hl.1
 rw[hF] at hft
 refine bd Tryz.f49 72 [] [] fun w0 F0 own kept hk=>?_
 refine Walk.call (cr:=[]) zuP (hft) rfl .none rfl rfl (LeL.refl _) trivial rfl rfl rfl ?_
 refine ev ?_
 refine Walk.call (cr:=[]) zsd (zfH hs) rfl .none rfl rfl (LeL.refl _) trivial rfl rfl rfl ?_
 refine ev ?_
 refine sq (fun h1 h1p h1s=>?_) fun h1 h1p h1s=>?_
 try simp only[Q,Int.natCast_inj,Ex.cs_len] at h1p
 refine sqT ?_
 refine rn0 (r1 rfl) (.eqd ?_)
 rotate_left
 try simp only[Q,Int.natCast_inj,Ex.cs_len] at h1p
 refine Walk.build zsn (ks:=[0,1]) (xs:=[_,_]) rfl rfl (.some rfl rfl h1) rfl rfl rfl ?_
 refine Walk.call (cr:=[]) zuQ (zlc hs.len hml) rfl (.some rfl rfl h1) rfl rfl (.cons (.agg (.cons (.refl _) (.cons (.refl _) (.cons .nil .nil)))) .nil) trivial rfl rfl rfl ?_
 refine evs [] [(15,false)] ?_ ⟨⟨_,rfl,h1⟩,trivial⟩
 refine sq (fun h3 h3p h3s=>?_) fun h3 h3p h3s=>?_
 try simp only[Q,Int.natCast_inj,Ex.cs_len] at h3p
 refine rn0 (r1 rfl) (.eqd ?_)
 rotate_left
 try simp only[Q,Int.natCast_inj,Ex.cs_len] at h3p
 refine CWp.loopX (ι:=List (Fu)×List (Fu)) hk (fun x=>[(24,.d (.i (x.1.length:Int)))]) [4,7,8,9,25,26,27,28,29,30,31,32,33,34,35,36,37,38,39,40,41,42,43,44,45,46,47,48,49,50,51,52,53,54,55,56,57,58,59,60,61,62,63,64,65,66,67,68,69,70,71] (fun x=>[]) (fun x=>x.1++x.2=l∧x.1.all (zcU w funs)=true) (fun x=>x.2.length) ([],l) ⟨by simp,by simp⟩ ⟨⟨_,rfl,(LeA.eqi (by first|rfl|(simp;done)|(simp_all;done)|omega))⟩,trivial⟩ trivial (fun x=>rfl) (fun x hg1=>?_)
 obtain⟨pre,rest⟩:=x
 dsimp only at hg1 ⊢
 refine evc [] [] ?_
 refine sq (fun h4 h4p h4s=>?_) fun h4 h4p h4s=>?_
 try simp only[Q,Int.natCast_inj,Ex.cs_len] at h4p
 rcases rest with _|⟨y,rest⟩
 ·exfalso;simp_all
 have hyl:=(hl.2 y (by rw[←hg1.1];simp)).2.1
 refine Walk.idx sl48 .none rfl rfl rfl rfl (zaG hg1.1) rfl ?_
 refine ev ?_
 refine Walk.alloc (id:=3007) tz60 rfl .none rfl rfl rfl rfl ?_
 refine Walk.store ty60 .none rfl rfl rfl rfl rfl rfl (by simp) rfl ?_
 refine tv ?_
 refine Walk.call (cr:=[]) znS (zeS hs (hl.2 y (by rw[←hg1.1];simp)).1) rfl .none rfl rfl (LeL.refl _) trivial rfl rfl rfl ?_
 refine ev ?_
 refine sq (fun h5 h5p h5s=>?_) fun h5 h5p h5s=>?_
 try simp only[Q,Int.natCast_inj,Ex.cs_len] at h5p
 refine sqT ?_
 refine rn0 (r1 rfl) (.eqd ?_)
 rotate_left
 try simp only[Q,Int.natCast_inj,Ex.cs_len] at h5p
 refine sq (fun h7 h7p h7s=>?_) fun h7 h7p h7s=>?_
 try simp only[Q,Int.natCast_inj,Ex.cs_len] at h7p
 refine rn0 (r1 rfl) (.eqd ?_)
 rotate_left
 try simp only[Q,Int.natCast_inj,Ex.cs_len] at h7p
 refine CWp.loopX (ι:=Nat) hk (fun i=>[(48,.d (.i (i:Int)))]) [4,8,9,49,50,51,52,53,54,55,56,57,58,59,60,61,62,63,64,65,66,67,68,69,70] (fun i=>[]) (fun i=>i≤y.bodies.length∧∀i',i'<i→isE w funs (zcZ w y.ty.arg (nth y.cls i').pat) y.ty.res (nth y.bodies i')=true) (fun i=>y.bodies.length-i) 0 ⟨by omega,fun _ h=>absurd h (by omega)⟩ ⟨⟨_,rfl,(LeA.eqi (by first|rfl|(simp;done)|(simp_all;done)|omega))⟩,trivial⟩ trivial (fun x=>rfl) (fun i hg2=>?_)
 refine evc [] [] ?_
 refine sq (fun h8 h8p h8s=>?_) fun h8 h8p h8s=>?_
 try simp only[Q,Int.natCast_inj,Ex.cs_len] at h8p
 refine Walk.idx sl58 .none rfl rfl rfl rfl (zgC (by omega)) rfl ?_
 refine ev ?_
 refine Walk.alloc (id:=3009) zl8 rfl .none rfl rfl rfl rfl ?_
 refine ev ?_
 refine Walk.store zl6 .none rfl rfl rfl rfl rfl rfl (by simp) rfl ?_
 refine tv ?_
 refine Walk.idx sl35 .none rfl rfl rfl rfl (zam (by omega)) rfl ?_
 refine evd [] [] ?_
 refine Walk.call (cr:=[]) zuR (zor (hvw (by assumption)) (t:=y.ty.arg) (c:=nth y.cls i) (zhh (hfm y (by rw[←hg1.1];simp) (by assumption)).1) ((hl.2 y (by rw[←hg1.1];simp)).1.2 _ (zae (by omega)))) rfl .none rfl rfl (LeL.refl _) trivial rfl rfl rfl ?_
 refine evd [] [] ?_
 refine Walk.call (cr:=[]) zuS (zos (hvw (by assumption)) hml (by have:=zie w y.ty.arg (nth y.cls i).pat;omega) (hfa (by assumption)) (t:=y.ty.res) (e:=nth y.bodies i) (zhh (hfm y (by rw[←hg1.1];simp) (by assumption)).2) (Exs.ok_mem (hl.2 y (by rw[←hg1.1];simp)).2.2 _ (zae (by omega)))) rfl .none rfl rfl (LeL.refl _) trivial rfl rfl rfl ?_
 refine evd [] [] ?_
 refine dr ?_
 refine sq (fun h9 h9p h9s=>?_) fun h9 h9p h9s=>?_
 try simp only[Q,Int.natCast_inj,Ex.cs_len] at h9p
 refine rn0 (r1 rfl) (.eqd ?_)
 rotate_left
 try simp only[Q,Int.natCast_inj,Ex.cs_len] at h9p
 refine ar ?_
 refine Exists.intro (i+1) ⟨⟨by omega,zaF hg2.2 (by simp_all)⟩,(by omega),Sub.x (by kernel_rfl) (by kernel_rfl) ⟨⟨_,rfl,(LeA.eqi (by first|rfl|(simp;done)|(simp_all;done)|omega))⟩,trivial⟩ (by kernel_rfl) (by kernel_rfl) trivial⟩
 try simp only[Q,Int.natCast_inj,Ex.cs_len] at h8p
 refine ar ?_
 refine Exists.intro ((pre++[y],rest)) ⟨⟨(by have hz:=hg1.1;rw[←hz];simp),(by rw[List.all_append,hg1.2];simp only[List.all_cons,List.all_nil,Bool.and_true,Bool.true_and];exact zkH (by simp_all) (by omega) (fun i' hi'=>hg2.2 i' (by omega)))⟩,(by simp),Sub.x (by kernel_rfl) (by kernel_rfl) ⟨⟨_,rfl,(LeA.eqi (by first|rfl|(simp;done)|(simp_all;done)|omega))⟩,trivial⟩ (by kernel_rfl) (by kernel_rfl) trivial⟩
 try simp only[Q,Int.natCast_inj,Ex.cs_len] at h4p
 have hrest:rest=[]:=by
  rcases rest with _|⟨a,b⟩
  ·rfl
  ·exfalso;have hz:=congrArg List.length (hg1.1);simp only[List.length_append,List.length_cons,List.length_map] at hz;omega
 subst hrest
 refine rn0 (r1 rfl) (.eqd ?_)
 rotate_left
 all_goals (refine congrArg D.bool ?_;first|(simp_all;done)|(rw[zqp hg1.1 (by first|(unfold zcU;simp_all;done)|(exact zkI (by omega))|(exact zmQ (i:=i) (by omega) (by omega) (by simp_all)))];simp_all;done)|(rw[List.append_nil] at hg1;obtain⟨hz,hg2⟩:=hg1;subst hz;simp_all;done))
def AZ (w:List Data):Prop:=∀t c,c∈zat w t→TyIn w.length t→∀u∈zag w t c,u.data = -1→u.index=0
theorem zo9 {w:List Data} (hv:zaY w=true):AZ w:=by
 have hW:=(zdy w).1 hv
 rintro ⟨a,k⟩ c hc ht u hu hd
 obtain⟨d,rfl,h1,j,rfl,h3⟩:=zch ht hc
 have hco:=hW.ctor _ (zae h1) _ (zae h3)
 simp only[zaN,Bool.and_eq_true,decide_eq_true_eq,Bool.not_eq_true',List.any_eq_false,Bool.not_eq_false'] at hco
 have hall:=hco.2.2.2
 simp only[zag,Int.toNat_natCast] at hu
 obtain⟨x,hx,rfl⟩:=List.mem_map.1 hu
 have hxo:=hall x hx
 simp only[zbr,zaf,Bool.or_eq_true,Bool.and_eq_true,decide_eq_true_eq,and_true,Bool.not_eq_true',Bool.not_eq_false] at hxo
 unfold zbj at hd ⊢
 split at hd
 ·rename_i hi
  rw[if_pos hi]
  dsimp only at hd ⊢
  omega
 ·rename_i hi
  rw[if_neg hi]
  omega
theorem zjm {n:Nat}{t:Ty} (h:zbh n t=true):TyOk n t:=by
 refine⟨zhh h,fun hd=>?_⟩
 simp only[zbh,zaf,Bool.or_eq_true,Bool.and_eq_true,decide_eq_true_eq,and_true] at h
 omega
theorem zrs {w:List Data} (hw:WT w) (haz:AZ w){funs:List Ft} (hf:∀f∈funs,TyOk w.length f.arg){t:Ty} (ht:TyOk w.length t){e:Ex}:∀u∈zaW w funs t e,TyOk w.length u:=by
 intro u hu
 refine⟨znu hw (fun f h=>(hf f h).1) ht.1 u hu,fun hd=>?_⟩
 unfold zaW at hu
 split at hu
 ·split at hu
  ·rename_i h;exact haz t e.ctor h.2 ht.1 u hu hd
  ·simp at hu
 ·split at hu
  ·simp only[List.mem_cons,List.not_mem_nil,or_false,or_self] at hu
   rw[hu] at hd ⊢;exact ht.2 hd
  ·split at hu
   ·split at hu
    ·rename_i h
     simp only[List.mem_cons,List.not_mem_nil,or_false] at hu
     rw[hu] at hd ⊢;exact(hf _ (zae (by omega))).2 hd
    ·simp at hu
   ·simp at hu
theorem zdY {a b:Ty}:FnD Tryz.prog 226 [.agg [.d (.i a.data),.d (.i a.index)],.agg [.d (.i b.data),.d (.i b.index)]] [] (.d (.bool (zfu a b))) []:=by
 refine bd Tryz.f226 22 [] [] fun w0 F0 own kept hk=>?_
 refine Walk.box (id:=3002) .none rfl rfl rfl rfl rfl rfl rfl ?_
 refine Walk.box (id:=3003) .none rfl rfl rfl rfl rfl rfl rfl ?_
 refine ev ?_
 refine sq (fun h1 h1p h1s=>?_) fun h1 h1p h1s=>?_
 ·try simp only[Q] at h1p
  refine sq (fun h2 h2p h2s=>?_) fun h2 h2p h2s=>?_
  ·try simp only[Q] at h2p
   refine rn0 (r1 rfl) (.eqd ?_)
   all_goals (refine congrArg D.bool ?_;unfold zfu;simp_all)
  ·try simp only[Q] at h2p
   refine rn0 (r1 rfl) (.eqd ?_)
   all_goals (refine congrArg D.bool ?_;unfold zfu;simp_all)
 ·try simp only[Q] at h1p
  refine rn0 (r1 rfl) (.eqd ?_)
  all_goals (refine congrArg D.bool ?_;unfold zfu;simp_all)
def numT:Ty:=⟨-1,0⟩
def ze8 (w:List Data) (funs:List Ft) (t:Ty) (e:Ex):List Ty:=
 if (e.op≠3∧e.ctor≠0)∨((e.op=3∨e.op=4)∧e.n≠0) then [] else if e.op=4 then [numT,numT] else zaW w funs t e
theorem zru {w:List Data}{funs:List Ft}{vars:List Vt}{t:Ty} (ht:TyOk w.length t){e:Ex} (h:okE w funs vars t e=true):ze8 w funs t e=zaW w funs t e:=by
 have hop:e.op=1∨e.op=2∨e.op=3∨e.op=4∨e.op=5:=by
  by_cases h0:e.op≠1∧e.op≠2∧e.op≠3∧e.op≠4∧e.op≠5
  ·rw[ok_0 h0] at h;exact absurd h (by simp)
  ·omega
 unfold ze8
 rcases hop with h1|h1|h1|h1|h1
 ·rw[ok_1 h1] at h
  have:=of_decide_eq_true h
  rw[if_neg (by omega),if_neg (by omega)]
 ·rw[ok_2 h1] at h
  simp only[Bool.and_eq_true,decide_eq_true_eq] at h
  rw[if_neg (by omega),if_neg (by omega)]
 ·rw[ok_3 h1] at h
  have:=of_decide_eq_true h
  rw[if_neg (by omega),if_neg (by omega)]
 ·rw[ok_4 h1] at h
  have:=of_decide_eq_true h
  rw[if_neg (by omega),if_pos h1,ty_4 h1]
  have h2:=ht.2 this.1
  have h3:t=numT:=by
   obtain⟨a,k⟩:=t
   have h4:=this.1
   dsimp only at h2 h4
   rw[h4,h2];rfl
  rw[h3]
 ·rw[ok_5 h1] at h
  simp only[Bool.and_eq_true,decide_eq_true_eq] at h
  rw[if_neg (by omega),if_neg (by omega)]
section
variable {w:List Data}{funs:List Ft}{vars:List Vt}{t:Ty}{e:Ex}
theorem ts_x (h:(e.op≠3∧e.ctor≠0)∨((e.op=3∨e.op=4)∧e.n≠0)):ze8 w funs t e=[]:=by unfold ze8;rw[if_pos h]
theorem ts_4 (h:¬((e.op≠3∧e.ctor≠0)∨((e.op=3∨e.op=4)∧e.n≠0))) (h4:e.op=4):ze8 w funs t e=[numT,numT]:=by unfold ze8;rw[if_neg h,if_pos h4]
theorem ts_o (h:¬((e.op≠3∧e.ctor≠0)∨((e.op=3∨e.op=4)∧e.n≠0))) (h4:e.op≠4):ze8 w funs t e=zaW w funs t e:=by unfold ze8;rw[if_neg h,if_neg h4]
theorem ok_x (h:(e.op≠3∧e.ctor≠0)∨((e.op=3∨e.op=4)∧e.n≠0)):okE w funs vars t e=false:=by
 unfold okE
 split
 ·exact decide_eq_false (by omega)
 ·split
  ·rw[decide_eq_false (p:=e.ctor=0) (by omega),Bool.and_false,Bool.and_false]
  ·split
   ·exact decide_eq_false (by omega)
   ·split
    ·exact decide_eq_false (by omega)
    ·split
     ·rw[decide_eq_false (by omega),Bool.false_and]
     ·rfl
end
theorem zlR {w:List Data}{funs:List Ft}{vars:List Vt} (hw:WT w) (hfl:funs.length≤1000000000000) (hvl:vars.length≤1000000000000){t:Ty} (ht:TyOk w.length t){e:Ex}:
  FnD Tryz.prog 207 [.d (zak w),.d (zdt funs),.d (zbP vars),.agg [.d (.i t.data),.d (.i t.index)],.agg [.d (.i e.op),.d (.i e.n),.d (.i e.ctor),.d (zbi e.kids)]] [] (.tup [.d (zby (ze8 w funs t e)),.d (.bool (okE w funs vars t e))]) []:=by
 have ht':TyIn w.length ⟨t.data,t.index⟩:=ht.1
 have hcl:=zgp hw ht'
 have hlt:=fun h=>zfa (l:=vars) (n:=e.n) h
 have hvt:0≤zbk vars e.n→zfC vars e.n=(nth vars (zbk vars e.n).toNat).ty:=fun h=>by unfold zfC;rw[if_pos h]
 have hte:t=numT↔(t.data = -1∧t.index=0):=by
  constructor
  ·intro h;rw[h];exact⟨rfl,rfl⟩
  ·rintro ⟨h1,h2⟩;obtain⟨a,k⟩:=t;dsimp only at h1 h2;rw[h1,h2];rfl
 have ht2:=ht.2
 by_cases hx:(e.op≠3∧e.ctor≠0)∨((e.op=3∨e.op=4)∧e.n≠0)
 ·rw[ts_x hx,ok_x hx]
  refine bd Tryz.f207 123 [] [2] fun w0 F0 own kept hk=>?_
  refine Walk.box (id:=3008) .none rfl rfl rfl rfl rfl rfl rfl ?_
  refine Walk.box (id:=3009) .none rfl rfl rfl rfl rfl rfl rfl ?_
  refine ev ?_
  refine Walk.build st33 (ks:=[0]) (xs:=[_]) rfl rfl .none rfl rfl rfl ?_
  refine Walk.alloc (id:=3012) tz33 rfl .none rfl rfl rfl rfl ?_
  refine Walk.store ty33 .none rfl rfl rfl rfl rfl rfl (by simp) rfl ?_
  refine tv ?_
  refine CWp.regionJ ?_
  refine WRest.join 23 [(37,.d (.bool (decide ((e.op≠3∧e.ctor≠0)∨((e.op=3∨e.op=4)∧e.n≠0)))))] [15,16,17,18,19,20,21,22,23,24,25,26,27,28,29,30,31,32,33,34,35,36] ?_ ?_
  ·
   refine ev ?_
   refine sq (fun h1 h1p h1s=>?_) fun h1 h1p h1s=>?_
   ·try simp only[Q] at h1p
    refine sq (fun h2 h2p h2s=>?_) fun h2 h2p h2s=>?_
    ·try simp only[Q] at h2p
     exact jn rfl (LeA.eqb (by(first|rfl|(rw[Bool.eq_iff_iff];simp_all;done)|(rw[Bool.eq_iff_iff];simp_all;omega))))
    ·try simp only[Q] at h2p
     refine sq (fun h3 h3p h3s=>?_) fun h3 h3p h3s=>?_
     ·try simp only[Q] at h3p
      refine sqT ?_
      exact jn rfl (LeA.eqb (by(first|rfl|(rw[Bool.eq_iff_iff];simp_all;done)|(rw[Bool.eq_iff_iff];simp_all;omega))))
     ·try simp only[Q] at h3p
      refine sq (fun h4 h4p h4s=>?_) fun h4 h4p h4s=>?_
      ·try simp only[Q] at h4p
       exact jn rfl (LeA.eqb (by(first|rfl|(rw[Bool.eq_iff_iff];simp_all;done)|(rw[Bool.eq_iff_iff];simp_all;omega))))
      ·try simp only[Q] at h4p
       exact jn rfl (LeA.eqb (by(first|rfl|(rw[Bool.eq_iff_iff];simp_all;done)|(rw[Bool.eq_iff_iff];simp_all;omega))))
   ·try simp only[Q] at h1p
    refine sqF ?_
    refine sq (fun h5 h5p h5s=>?_) fun h5 h5p h5s=>?_
    ·try simp only[Q] at h5p
     refine sqT ?_
     exact jn rfl (LeA.eqb (by(first|rfl|(rw[Bool.eq_iff_iff];simp_all;done)|(rw[Bool.eq_iff_iff];simp_all;omega))))
    ·try simp only[Q] at h5p
     refine sq (fun h6 h6p h6s=>?_) fun h6 h6p h6s=>?_
     ·try simp only[Q] at h6p
      exact jn rfl (LeA.eqb (by(first|rfl|(rw[Bool.eq_iff_iff];simp_all;done)|(rw[Bool.eq_iff_iff];simp_all;omega))))
     ·try simp only[Q] at h6p
      exact jn rfl (LeA.eqb (by(first|rfl|(rw[Bool.eq_iff_iff];simp_all;done)|(rw[Bool.eq_iff_iff];simp_all;omega))))
  refine WRest.done ?_
  refine tv ?_
  refine sq (fun h7 h7p h7s=>?_) fun h7 h7p h7s=>?_
  ·try simp only[Q] at h7p
   refine rn0 (r2 rfl rfl) (.tup (.cons (.nild ?_) (.cons (.eqd ?_) .nil)))
   all_goals (rfl)
  ·try simp only[Q] at h7p
   exfalso;first|(simp_all;done)|(simp_all;omega)
 by_cases hmem:e.ctor∈zat w t
 ·have hmem':e.ctor∈zat w ⟨t.data,t.index⟩:=hmem
  have hcon:=zc5 (v:=e.ctor) hcl
  refine bd Tryz.f207 123 [45,81] [2] fun w0 F0 own kept hk=>?_
  refine Walk.box (id:=3008) .none rfl rfl rfl rfl rfl rfl rfl ?_
  refine Walk.box (id:=3009) .none rfl rfl rfl rfl rfl rfl rfl ?_
  refine evs [45,81] [] ?_
  refine Walk.build st33 (ks:=[0]) (xs:=[_]) rfl rfl .none rfl rfl rfl ?_
  refine Walk.alloc (id:=3012) tz33 rfl .none rfl rfl rfl rfl ?_
  refine Walk.store ty33 .none rfl rfl rfl rfl rfl rfl (by simp) rfl ?_
  refine tv ?_
  refine CWp.regionJ ?_
  refine WRest.join 23 [(37,.d (.bool (decide ((e.op≠3∧e.ctor≠0)∨((e.op=3∨e.op=4)∧e.n≠0)))))] [15,16,17,18,19,20,21,22,23,24,25,26,27,28,29,30,31,32,33,34,35,36] ?_ ?_
  ·
   refine evs [45,81] [] ?_
   refine sq (fun h1 h1p h1s=>?_) fun h1 h1p h1s=>?_
   ·try simp only[Q] at h1p
    refine sq (fun h2 h2p h2s=>?_) fun h2 h2p h2s=>?_
    ·try simp only[Q] at h2p
     exact jn rfl (LeA.eqb (by(first|rfl|(rw[Bool.eq_iff_iff];simp_all;done)|(rw[Bool.eq_iff_iff];simp_all;omega))))
    ·try simp only[Q] at h2p
     refine sq (fun h3 h3p h3s=>?_) fun h3 h3p h3s=>?_
     ·try simp only[Q] at h3p
      refine sqT ?_
      exact jn rfl (LeA.eqb (by(first|rfl|(rw[Bool.eq_iff_iff];simp_all;done)|(rw[Bool.eq_iff_iff];simp_all;omega))))
     ·try simp only[Q] at h3p
      refine sq (fun h4 h4p h4s=>?_) fun h4 h4p h4s=>?_
      ·try simp only[Q] at h4p
       exact jn rfl (LeA.eqb (by(first|rfl|(rw[Bool.eq_iff_iff];simp_all;done)|(rw[Bool.eq_iff_iff];simp_all;omega))))
      ·try simp only[Q] at h4p
       exact jn rfl (LeA.eqb (by(first|rfl|(rw[Bool.eq_iff_iff];simp_all;done)|(rw[Bool.eq_iff_iff];simp_all;omega))))
   ·try simp only[Q] at h1p
    refine sqF ?_
    refine sq (fun h5 h5p h5s=>?_) fun h5 h5p h5s=>?_
    ·try simp only[Q] at h5p
     refine sqT ?_
     exact jn rfl (LeA.eqb (by(first|rfl|(rw[Bool.eq_iff_iff];simp_all;done)|(rw[Bool.eq_iff_iff];simp_all;omega))))
    ·try simp only[Q] at h5p
     refine sq (fun h6 h6p h6s=>?_) fun h6 h6p h6s=>?_
     ·try simp only[Q] at h6p
      exact jn rfl (LeA.eqb (by(first|rfl|(rw[Bool.eq_iff_iff];simp_all;done)|(rw[Bool.eq_iff_iff];simp_all;omega))))
     ·try simp only[Q] at h6p
      exact jn rfl (LeA.eqb (by(first|rfl|(rw[Bool.eq_iff_iff];simp_all;done)|(rw[Bool.eq_iff_iff];simp_all;omega))))
  refine WRest.done ?_
  refine tv ?_
  refine sq (fun h7 h7p h7s=>?_) fun h7 h7p h7s=>?_
  ·try simp only[Q] at h7p
   exfalso;apply hx;omega
  ·try simp only[Q] at h7p
   refine sq (fun h8 h8p h8s=>?_) fun h8 h8p h8s=>?_
   ·try simp only[Q] at h8p
    refine Walk.sliceEmpty zaS .none rfl ?_
    refine evd [45,81] [] ?_
    refine Walk.eqV eq33 .none rfl rfl rfl rfl rfl ?_
    refine evd [45,81] [] ?_
    refine sq (fun h9 h9p h9s=>?_) fun h9 h9p h9s=>?_
    ·try simp only[Q] at h9p
     refine sq (fun h10 h10p h10s=>?_) fun h10 h10p h10s=>?_
     ·try simp only[Q] at h10p
      refine dr ?_
      refine rn0 (r2 rfl rfl) (.tup (.cons (.eqd ?_) (.cons (.eqd ?_) .nil)))
      all_goals (first|rfl|(rw[ts_4 hx (by omega)];all_goals rfl)|(rw[ts_o hx (by omega),ty_0 (by omega)];all_goals rfl)|(rw[ts_o hx (by omega),ty_3 (by omega) (by omega) hmem];all_goals rfl)|(rw[ts_o hx (by omega),zbY (by omega) (by omega)];all_goals rfl)|(rw[ts_o hx (by omega),ty_5 (by omega) (by omega)];all_goals rfl)|(refine congrArg D.bool ?_;rw[ok_1 (by omega),decide_eq_false (by omega)];done)|(refine congrArg D.bool ?_;rw[ok_1 (by omega)];simp_all;done)|(refine congrArg D.bool ?_;rw[ok_2 (by omega),decide_eq_false (by omega),Bool.false_and];done)|(refine congrArg D.bool ?_;rw[ok_2 (by omega),hvt (by omega)];simp_all;done)|(refine congrArg D.bool ?_;rw[ok_3 (by omega)];simp_all;done)|(refine congrArg D.bool ?_;rw[ok_4 (by omega)];simp_all;done)|(refine congrArg D.bool ?_;rw[ok_5 (by omega)];first|(rw[decide_eq_true (by omega),Bool.true_and];done)|(rw[decide_eq_false (by omega),Bool.false_and];done))|(refine congrArg D.bool ?_;rw[ok_0 (by omega)];done)|(exfalso;simp_all;done))
     ·try simp only[Q] at h10p
      refine dr ?_
      refine rn0 (r2 rfl rfl) (.tup (.cons (.eqd ?_) (.cons (.eqd ?_) .nil)))
      all_goals (first|rfl|(rw[ts_4 hx (by omega)];all_goals rfl)|(rw[ts_o hx (by omega),ty_0 (by omega)];all_goals rfl)|(rw[ts_o hx (by omega),ty_3 (by omega) (by omega) hmem];all_goals rfl)|(rw[ts_o hx (by omega),zbY (by omega) (by omega)];all_goals rfl)|(rw[ts_o hx (by omega),ty_5 (by omega) (by omega)];all_goals rfl)|(refine congrArg D.bool ?_;rw[ok_1 (by omega),decide_eq_false (by omega)];done)|(refine congrArg D.bool ?_;rw[ok_1 (by omega)];simp_all;done)|(refine congrArg D.bool ?_;rw[ok_2 (by omega),decide_eq_false (by omega),Bool.false_and];done)|(refine congrArg D.bool ?_;rw[ok_2 (by omega),hvt (by omega)];simp_all;done)|(refine congrArg D.bool ?_;rw[ok_3 (by omega)];simp_all;done)|(refine congrArg D.bool ?_;rw[ok_4 (by omega)];simp_all;done)|(refine congrArg D.bool ?_;rw[ok_5 (by omega)];first|(rw[decide_eq_true (by omega),Bool.true_and];done)|(rw[decide_eq_false (by omega),Bool.false_and];done))|(refine congrArg D.bool ?_;rw[ok_0 (by omega)];done)|(exfalso;simp_all;done))
    ·try simp only[Q] at h9p
     refine sqF ?_
     refine dr ?_
     refine rn0 (r2 rfl rfl) (.tup (.cons (.eqd ?_) (.cons (.eqd ?_) .nil)))
     all_goals (first|rfl|(rw[ts_4 hx (by omega)];all_goals rfl)|(rw[ts_o hx (by omega),ty_0 (by omega)];all_goals rfl)|(rw[ts_o hx (by omega),ty_3 (by omega) (by omega) hmem];all_goals rfl)|(rw[ts_o hx (by omega),zbY (by omega) (by omega)];all_goals rfl)|(rw[ts_o hx (by omega),ty_5 (by omega) (by omega)];all_goals rfl)|(refine congrArg D.bool ?_;rw[ok_1 (by omega),decide_eq_false (by omega)];done)|(refine congrArg D.bool ?_;rw[ok_1 (by omega)];simp_all;done)|(refine congrArg D.bool ?_;rw[ok_2 (by omega),decide_eq_false (by omega),Bool.false_and];done)|(refine congrArg D.bool ?_;rw[ok_2 (by omega),hvt (by omega)];simp_all;done)|(refine congrArg D.bool ?_;rw[ok_3 (by omega)];simp_all;done)|(refine congrArg D.bool ?_;rw[ok_4 (by omega)];simp_all;done)|(refine congrArg D.bool ?_;rw[ok_5 (by omega)];first|(rw[decide_eq_true (by omega),Bool.true_and];done)|(rw[decide_eq_false (by omega),Bool.false_and];done))|(refine congrArg D.bool ?_;rw[ok_0 (by omega)];done)|(exfalso;simp_all;done))
   ·try simp only[Q] at h8p
    refine sq (fun h11 h11p h11s=>?_) fun h11 h11p h11s=>?_
    ·try simp only[Q] at h11p
     refine Walk.call (cr:=[]) ziH (zdv hvl) rfl .none rfl rfl (LeL.refl _) trivial rfl rfl rfl ?_
     refine evs [45,81] [] ?_
     refine Walk.sliceEmpty zaS .none rfl ?_
     refine evd [45,81] [] ?_
     refine sq (fun h12 h12p h12s=>?_) fun h12 h12p h12s=>?_
     ·try simp only[Q] at h12p
      refine Walk.idx (i:=(zbk vars e.n).toNat) zcQ (.some rfl rfl h12) rfl rfl rfl (by have:=hlt (by omega);omega) (zam (by have:=hlt (by omega);omega)) rfl ?_
      refine evd [45,81] [(65,true)] ?_ ⟨⟨_,rfl,h12⟩,trivial⟩
      refine Walk.call (cr:=[]) zkR (zdY (a:=(nth vars (zbk vars e.n).toNat).ty) (b:=t)) rfl (.some rfl rfl h12) rfl rfl (LeL.refl _) trivial rfl rfl rfl ?_
      refine evd [45,81] [(65,true)] ?_ ⟨⟨_,rfl,h12⟩,trivial⟩
      refine dr ?_
      refine rn0 (r2 rfl rfl) (.tup (.cons (.eqd ?_) (.cons (.eqd ?_) .nil)))
      all_goals (first|rfl|(rw[ts_4 hx (by omega)];all_goals rfl)|(rw[ts_o hx (by omega),ty_0 (by omega)];all_goals rfl)|(rw[ts_o hx (by omega),ty_3 (by omega) (by omega) hmem];all_goals rfl)|(rw[ts_o hx (by omega),zbY (by omega) (by omega)];all_goals rfl)|(rw[ts_o hx (by omega),ty_5 (by omega) (by omega)];all_goals rfl)|(refine congrArg D.bool ?_;rw[ok_1 (by omega),decide_eq_false (by omega)];done)|(refine congrArg D.bool ?_;rw[ok_1 (by omega)];simp_all;done)|(refine congrArg D.bool ?_;rw[ok_2 (by omega),decide_eq_false (by omega),Bool.false_and];done)|(refine congrArg D.bool ?_;rw[ok_2 (by omega),hvt (by omega)];simp_all;done)|(refine congrArg D.bool ?_;rw[ok_3 (by omega)];simp_all;done)|(refine congrArg D.bool ?_;rw[ok_4 (by omega)];simp_all;done)|(refine congrArg D.bool ?_;rw[ok_5 (by omega)];first|(rw[decide_eq_true (by omega),Bool.true_and];done)|(rw[decide_eq_false (by omega),Bool.false_and];done))|(refine congrArg D.bool ?_;rw[ok_0 (by omega)];done)|(exfalso;simp_all;done))
     ·try simp only[Q] at h12p
      refine dr ?_
      refine rn0 (r2 rfl rfl) (.tup (.cons (.eqd ?_) (.cons (.eqd ?_) .nil)))
      all_goals (first|rfl|(rw[ts_4 hx (by omega)];all_goals rfl)|(rw[ts_o hx (by omega),ty_0 (by omega)];all_goals rfl)|(rw[ts_o hx (by omega),ty_3 (by omega) (by omega) hmem];all_goals rfl)|(rw[ts_o hx (by omega),zbY (by omega) (by omega)];all_goals rfl)|(rw[ts_o hx (by omega),ty_5 (by omega) (by omega)];all_goals rfl)|(refine congrArg D.bool ?_;rw[ok_1 (by omega),decide_eq_false (by omega)];done)|(refine congrArg D.bool ?_;rw[ok_1 (by omega)];simp_all;done)|(refine congrArg D.bool ?_;rw[ok_2 (by omega),decide_eq_false (by omega),Bool.false_and];done)|(refine congrArg D.bool ?_;rw[ok_2 (by omega),hvt (by omega)];simp_all;done)|(refine congrArg D.bool ?_;rw[ok_3 (by omega)];simp_all;done)|(refine congrArg D.bool ?_;rw[ok_4 (by omega)];simp_all;done)|(refine congrArg D.bool ?_;rw[ok_5 (by omega)];first|(rw[decide_eq_true (by omega),Bool.true_and];done)|(rw[decide_eq_false (by omega),Bool.false_and];done))|(refine congrArg D.bool ?_;rw[ok_0 (by omega)];done)|(exfalso;simp_all;done))
    ·try simp only[Q] at h11p
     refine sq (fun h13 h13p h13s=>?_) fun h13 h13p h13s=>?_
     ·try simp only[Q] at h13p
      refine Walk.sliceLit zaS tz33 rfl (by decide) (ks:=[0,1]) (xs:=[_,_]) rfl rfl (by decide) (by decide) .none rfl rfl rfl rfl ?_
      refine evd [45,81] [] ?_
      refine Walk.eqV eq33 .none rfl rfl rfl rfl rfl ?_
      refine evd [45,81] [] ?_
      refine dr ?_
      refine rn0 (r2 rfl rfl) (.tup (.cons (.eqd ?_) (.cons (.eqd ?_) .nil)))
      all_goals (first|rfl|(rw[ts_4 hx (by omega)];all_goals rfl)|(rw[ts_o hx (by omega),ty_0 (by omega)];all_goals rfl)|(rw[ts_o hx (by omega),ty_3 (by omega) (by omega) hmem];all_goals rfl)|(rw[ts_o hx (by omega),zbY (by omega) (by omega)];all_goals rfl)|(rw[ts_o hx (by omega),ty_5 (by omega) (by omega)];all_goals rfl)|(refine congrArg D.bool ?_;rw[ok_1 (by omega),decide_eq_false (by omega)];done)|(refine congrArg D.bool ?_;rw[ok_1 (by omega)];simp_all;done)|(refine congrArg D.bool ?_;rw[ok_2 (by omega),decide_eq_false (by omega),Bool.false_and];done)|(refine congrArg D.bool ?_;rw[ok_2 (by omega),hvt (by omega)];simp_all;done)|(refine congrArg D.bool ?_;rw[ok_3 (by omega)];simp_all;done)|(refine congrArg D.bool ?_;rw[ok_4 (by omega)];simp_all;done)|(refine congrArg D.bool ?_;rw[ok_5 (by omega)];first|(rw[decide_eq_true (by omega),Bool.true_and];done)|(rw[decide_eq_false (by omega),Bool.false_and];done))|(refine congrArg D.bool ?_;rw[ok_0 (by omega)];done)|(exfalso;simp_all;done))
     ·try simp only[Q] at h13p
      refine sq (fun h14 h14p h14s=>?_) fun h14 h14p h14s=>?_
      ·try simp only[Q] at h14p
       refine Walk.call (cr:=[]) zfE (zce hw ht') rfl .none rfl rfl (LeL.refl _) trivial rfl rfl rfl ?_
       refine evd [45,81] [] ?_
       refine Walk.call (cr:=[]) zhw (hcon) rfl .none rfl rfl (LeL.refl _) trivial rfl rfl rfl ?_
       refine evd [45,81] [] ?_
       refine dr ?_
       refine sq (fun h15 h15p h15s=>?_) fun h15 h15p h15s=>?_
       ·try simp only[Q] at h15p
        refine rn0 (r2 rfl rfl) (.tup (.cons (.nild ?_) (.cons (.eqd ?_) .nil)))
        all_goals (first|rfl|(rw[ts_4 hx (by omega)];all_goals rfl)|(rw[ts_o hx (by omega),ty_0 (by omega)];all_goals rfl)|(rw[ts_o hx (by omega),ty_3 (by omega) (by omega) hmem];all_goals rfl)|(rw[ts_o hx (by omega),zbY (by omega) (by omega)];all_goals rfl)|(rw[ts_o hx (by omega),ty_5 (by omega) (by omega)];all_goals rfl)|(refine congrArg D.bool ?_;rw[ok_1 (by omega),decide_eq_false (by omega)];done)|(refine congrArg D.bool ?_;rw[ok_1 (by omega)];simp_all;done)|(refine congrArg D.bool ?_;rw[ok_2 (by omega),decide_eq_false (by omega),Bool.false_and];done)|(refine congrArg D.bool ?_;rw[ok_2 (by omega),hvt (by omega)];simp_all;done)|(refine congrArg D.bool ?_;rw[ok_3 (by omega)];simp_all;done)|(refine congrArg D.bool ?_;rw[ok_4 (by omega)];simp_all;done)|(refine congrArg D.bool ?_;rw[ok_5 (by omega)];first|(rw[decide_eq_true (by omega),Bool.true_and];done)|(rw[decide_eq_false (by omega),Bool.false_and];done))|(refine congrArg D.bool ?_;rw[ok_0 (by omega)];done)|(exfalso;simp_all;done))
       ·try simp only[Q] at h15p
        refine Walk.call (cr:=[]) zhv (zc4 hw ht' hmem') rfl .none rfl rfl (LeL.refl _) trivial rfl rfl rfl ?_
        refine evs [45,81] [] ?_
        refine rn0 (r2 rfl rfl) (.tup (.cons (.eqd ?_) (.cons (.eqd ?_) .nil)))
        all_goals (first|rfl|(rw[ts_4 hx (by omega)];all_goals rfl)|(rw[ts_o hx (by omega),ty_0 (by omega)];all_goals rfl)|(rw[ts_o hx (by omega),ty_3 (by omega) (by omega) hmem];all_goals rfl)|(rw[ts_o hx (by omega),zbY (by omega) (by omega)];all_goals rfl)|(rw[ts_o hx (by omega),ty_5 (by omega) (by omega)];all_goals rfl)|(refine congrArg D.bool ?_;rw[ok_1 (by omega),decide_eq_false (by omega)];done)|(refine congrArg D.bool ?_;rw[ok_1 (by omega)];simp_all;done)|(refine congrArg D.bool ?_;rw[ok_2 (by omega),decide_eq_false (by omega),Bool.false_and];done)|(refine congrArg D.bool ?_;rw[ok_2 (by omega),hvt (by omega)];simp_all;done)|(refine congrArg D.bool ?_;rw[ok_3 (by omega)];simp_all;done)|(refine congrArg D.bool ?_;rw[ok_4 (by omega)];simp_all;done)|(refine congrArg D.bool ?_;rw[ok_5 (by omega)];first|(rw[decide_eq_true (by omega),Bool.true_and];done)|(rw[decide_eq_false (by omega),Bool.false_and];done))|(refine congrArg D.bool ?_;rw[ok_0 (by omega)];done)|(exfalso;simp_all;done))
      ·try simp only[Q] at h14p
       refine sq (fun h16 h16p h16s=>?_) fun h16 h16p h16s=>?_
       ·try simp only[Q] at h16p
        refine sq (fun h17 h17p h17s=>?_) fun h17 h17p h17s=>?_
        ·try simp only[Q] at h17p
         refine sqT ?_
         refine rn0 (r2 rfl rfl) (.tup (.cons (.nild ?_) (.cons (.eqd ?_) .nil)))
         all_goals (first|rfl|(rw[ts_4 hx (by omega)];all_goals rfl)|(rw[ts_o hx (by omega),ty_0 (by omega)];all_goals rfl)|(rw[ts_o hx (by omega),ty_3 (by omega) (by omega) hmem];all_goals rfl)|(rw[ts_o hx (by omega),zbY (by omega) (by omega)];all_goals rfl)|(rw[ts_o hx (by omega),ty_5 (by omega) (by omega)];all_goals rfl)|(refine congrArg D.bool ?_;rw[ok_1 (by omega),decide_eq_false (by omega)];done)|(refine congrArg D.bool ?_;rw[ok_1 (by omega)];simp_all;done)|(refine congrArg D.bool ?_;rw[ok_2 (by omega),decide_eq_false (by omega),Bool.false_and];done)|(refine congrArg D.bool ?_;rw[ok_2 (by omega),hvt (by omega)];simp_all;done)|(refine congrArg D.bool ?_;rw[ok_3 (by omega)];simp_all;done)|(refine congrArg D.bool ?_;rw[ok_4 (by omega)];simp_all;done)|(refine congrArg D.bool ?_;rw[ok_5 (by omega)];first|(rw[decide_eq_true (by omega),Bool.true_and];done)|(rw[decide_eq_false (by omega),Bool.false_and];done))|(refine congrArg D.bool ?_;rw[ok_0 (by omega)];done)|(exfalso;simp_all;done))
        ·try simp only[Q] at h17p
         refine sq (fun h19 h19p h19s=>?_) fun h19 h19p h19s=>?_
         ·try simp only[Q] at h19p
          refine rn0 (r2 rfl rfl) (.tup (.cons (.nild ?_) (.cons (.eqd ?_) .nil)))
          all_goals (first|rfl|(rw[ts_4 hx (by omega)];all_goals rfl)|(rw[ts_o hx (by omega),ty_0 (by omega)];all_goals rfl)|(rw[ts_o hx (by omega),ty_3 (by omega) (by omega) hmem];all_goals rfl)|(rw[ts_o hx (by omega),zbY (by omega) (by omega)];all_goals rfl)|(rw[ts_o hx (by omega),ty_5 (by omega) (by omega)];all_goals rfl)|(refine congrArg D.bool ?_;rw[ok_1 (by omega),decide_eq_false (by omega)];done)|(refine congrArg D.bool ?_;rw[ok_1 (by omega)];simp_all;done)|(refine congrArg D.bool ?_;rw[ok_2 (by omega),decide_eq_false (by omega),Bool.false_and];done)|(refine congrArg D.bool ?_;rw[ok_2 (by omega),hvt (by omega)];simp_all;done)|(refine congrArg D.bool ?_;rw[ok_3 (by omega)];simp_all;done)|(refine congrArg D.bool ?_;rw[ok_4 (by omega)];simp_all;done)|(refine congrArg D.bool ?_;rw[ok_5 (by omega)];first|(rw[decide_eq_true (by omega),Bool.true_and];done)|(rw[decide_eq_false (by omega),Bool.false_and];done))|(refine congrArg D.bool ?_;rw[ok_0 (by omega)];done)|(exfalso;simp_all;done))
         ·try simp only[Q] at h19p
          refine Walk.idx (i:=e.n.toNat) zdp .none rfl rfl rfl (by omega) (zam (by omega)) rfl ?_
          refine evd [45,81] [] ?_
          refine Walk.sliceLit zaS tz33 rfl (by decide) (ks:=[0]) (xs:=[_]) rfl rfl (by decide) (by decide) .none rfl rfl rfl rfl ?_
          refine evd [45,81] [] ?_
          refine Walk.idx (i:=e.n.toNat) zdp .none rfl rfl rfl (by omega) (zam (by omega)) rfl ?_
          refine evd [45,81] [] ?_
          refine Walk.call (cr:=[]) zkR (zdY (a:=(nth funs e.n.toNat).res) (b:=t)) rfl .none rfl rfl (LeL.refl _) trivial rfl rfl rfl ?_
          refine evd [45,81] [] ?_
          refine dr ?_
          refine rn0 (r2 rfl rfl) (.tup (.cons (.eqd ?_) (.cons (.eqd ?_) .nil)))
          all_goals (first|rfl|(rw[ts_4 hx (by omega)];all_goals rfl)|(rw[ts_o hx (by omega),ty_0 (by omega)];all_goals rfl)|(rw[ts_o hx (by omega),ty_3 (by omega) (by omega) hmem];all_goals rfl)|(rw[ts_o hx (by omega),zbY (by omega) (by omega)];all_goals rfl)|(rw[ts_o hx (by omega),ty_5 (by omega) (by omega)];all_goals rfl)|(refine congrArg D.bool ?_;rw[ok_1 (by omega),decide_eq_false (by omega)];done)|(refine congrArg D.bool ?_;rw[ok_1 (by omega)];simp_all;done)|(refine congrArg D.bool ?_;rw[ok_2 (by omega),decide_eq_false (by omega),Bool.false_and];done)|(refine congrArg D.bool ?_;rw[ok_2 (by omega),hvt (by omega)];simp_all;done)|(refine congrArg D.bool ?_;rw[ok_3 (by omega)];simp_all;done)|(refine congrArg D.bool ?_;rw[ok_4 (by omega)];simp_all;done)|(refine congrArg D.bool ?_;rw[ok_5 (by omega)];first|(rw[decide_eq_true (by omega),Bool.true_and];done)|(rw[decide_eq_false (by omega),Bool.false_and];done))|(refine congrArg D.bool ?_;rw[ok_0 (by omega)];done)|(exfalso;simp_all;done))
       ·try simp only[Q] at h16p
        refine rn0 (r2 rfl rfl) (.tup (.cons (.nild ?_) (.cons (.eqd ?_) .nil)))
        all_goals (first|rfl|(rw[ts_4 hx (by omega)];all_goals rfl)|(rw[ts_o hx (by omega),ty_0 (by omega)];all_goals rfl)|(rw[ts_o hx (by omega),ty_3 (by omega) (by omega) hmem];all_goals rfl)|(rw[ts_o hx (by omega),zbY (by omega) (by omega)];all_goals rfl)|(rw[ts_o hx (by omega),ty_5 (by omega) (by omega)];all_goals rfl)|(refine congrArg D.bool ?_;rw[ok_1 (by omega),decide_eq_false (by omega)];done)|(refine congrArg D.bool ?_;rw[ok_1 (by omega)];simp_all;done)|(refine congrArg D.bool ?_;rw[ok_2 (by omega),decide_eq_false (by omega),Bool.false_and];done)|(refine congrArg D.bool ?_;rw[ok_2 (by omega),hvt (by omega)];simp_all;done)|(refine congrArg D.bool ?_;rw[ok_3 (by omega)];simp_all;done)|(refine congrArg D.bool ?_;rw[ok_4 (by omega)];simp_all;done)|(refine congrArg D.bool ?_;rw[ok_5 (by omega)];first|(rw[decide_eq_true (by omega),Bool.true_and];done)|(rw[decide_eq_false (by omega),Bool.false_and];done))|(refine congrArg D.bool ?_;rw[ok_0 (by omega)];done)|(exfalso;simp_all;done))
 ·have hmem':e.ctor∉zat w ⟨t.data,t.index⟩:=hmem
  have hcon:=zc5 (v:=e.ctor) hcl
  rw[decide_eq_false hmem'] at hcon
  refine bd Tryz.f207 123 [45,81] [2] fun w0 F0 own kept hk=>?_
  refine Walk.box (id:=3008) .none rfl rfl rfl rfl rfl rfl rfl ?_
  refine Walk.box (id:=3009) .none rfl rfl rfl rfl rfl rfl rfl ?_
  refine evs [45,81] [] ?_
  refine Walk.build st33 (ks:=[0]) (xs:=[_]) rfl rfl .none rfl rfl rfl ?_
  refine Walk.alloc (id:=3012) tz33 rfl .none rfl rfl rfl rfl ?_
  refine Walk.store ty33 .none rfl rfl rfl rfl rfl rfl (by simp) rfl ?_
  refine tv ?_
  refine CWp.regionJ ?_
  refine WRest.join 23 [(37,.d (.bool (decide ((e.op≠3∧e.ctor≠0)∨((e.op=3∨e.op=4)∧e.n≠0)))))] [15,16,17,18,19,20,21,22,23,24,25,26,27,28,29,30,31,32,33,34,35,36] ?_ ?_
  ·
   refine evs [45,81] [] ?_
   refine sq (fun h1 h1p h1s=>?_) fun h1 h1p h1s=>?_
   ·try simp only[Q] at h1p
    refine sq (fun h2 h2p h2s=>?_) fun h2 h2p h2s=>?_
    ·try simp only[Q] at h2p
     exact jn rfl (LeA.eqb (by(first|rfl|(rw[Bool.eq_iff_iff];simp_all;done)|(rw[Bool.eq_iff_iff];simp_all;omega))))
    ·try simp only[Q] at h2p
     refine sq (fun h3 h3p h3s=>?_) fun h3 h3p h3s=>?_
     ·try simp only[Q] at h3p
      refine sqT ?_
      exact jn rfl (LeA.eqb (by(first|rfl|(rw[Bool.eq_iff_iff];simp_all;done)|(rw[Bool.eq_iff_iff];simp_all;omega))))
     ·try simp only[Q] at h3p
      refine sq (fun h4 h4p h4s=>?_) fun h4 h4p h4s=>?_
      ·try simp only[Q] at h4p
       exact jn rfl (LeA.eqb (by(first|rfl|(rw[Bool.eq_iff_iff];simp_all;done)|(rw[Bool.eq_iff_iff];simp_all;omega))))
      ·try simp only[Q] at h4p
       exact jn rfl (LeA.eqb (by(first|rfl|(rw[Bool.eq_iff_iff];simp_all;done)|(rw[Bool.eq_iff_iff];simp_all;omega))))
   ·try simp only[Q] at h1p
    refine sqF ?_
    refine sq (fun h5 h5p h5s=>?_) fun h5 h5p h5s=>?_
    ·try simp only[Q] at h5p
     refine sqT ?_
     exact jn rfl (LeA.eqb (by(first|rfl|(rw[Bool.eq_iff_iff];simp_all;done)|(rw[Bool.eq_iff_iff];simp_all;omega))))
    ·try simp only[Q] at h5p
     refine sq (fun h6 h6p h6s=>?_) fun h6 h6p h6s=>?_
     ·try simp only[Q] at h6p
      exact jn rfl (LeA.eqb (by(first|rfl|(rw[Bool.eq_iff_iff];simp_all;done)|(rw[Bool.eq_iff_iff];simp_all;omega))))
     ·try simp only[Q] at h6p
      exact jn rfl (LeA.eqb (by(first|rfl|(rw[Bool.eq_iff_iff];simp_all;done)|(rw[Bool.eq_iff_iff];simp_all;omega))))
  refine WRest.done ?_
  refine tv ?_
  refine sq (fun h7 h7p h7s=>?_) fun h7 h7p h7s=>?_
  ·try simp only[Q] at h7p
   exfalso;apply hx;omega
  ·try simp only[Q] at h7p
   refine sq (fun h8 h8p h8s=>?_) fun h8 h8p h8s=>?_
   ·try simp only[Q] at h8p
    refine Walk.sliceEmpty zaS .none rfl ?_
    refine evd [45,81] [] ?_
    refine Walk.eqV eq33 .none rfl rfl rfl rfl rfl ?_
    refine evd [45,81] [] ?_
    refine sq (fun h9 h9p h9s=>?_) fun h9 h9p h9s=>?_
    ·try simp only[Q] at h9p
     refine sq (fun h10 h10p h10s=>?_) fun h10 h10p h10s=>?_
     ·try simp only[Q] at h10p
      refine dr ?_
      refine rn0 (r2 rfl rfl) (.tup (.cons (.eqd ?_) (.cons (.eqd ?_) .nil)))
      all_goals (first|rfl|(rw[ts_4 hx (by omega)];all_goals rfl)|(rw[ts_o hx (by omega),ty_0 (by omega)];all_goals rfl)|(rw[ts_o hx (by omega),zew (by omega) hmem];all_goals rfl)|(rw[ts_o hx (by omega),zbY (by omega) (by omega)];all_goals rfl)|(rw[ts_o hx (by omega),ty_5 (by omega) (by omega)];all_goals rfl)|(refine congrArg D.bool ?_;rw[ok_1 (by omega),decide_eq_false (by omega)];done)|(refine congrArg D.bool ?_;rw[ok_1 (by omega)];simp_all;done)|(refine congrArg D.bool ?_;rw[ok_2 (by omega),decide_eq_false (by omega),Bool.false_and];done)|(refine congrArg D.bool ?_;rw[ok_2 (by omega),hvt (by omega)];simp_all;done)|(refine congrArg D.bool ?_;rw[ok_3 (by omega)];simp_all;done)|(refine congrArg D.bool ?_;rw[ok_4 (by omega)];simp_all;done)|(refine congrArg D.bool ?_;rw[ok_5 (by omega)];first|(rw[decide_eq_true (by omega),Bool.true_and];done)|(rw[decide_eq_false (by omega),Bool.false_and];done))|(refine congrArg D.bool ?_;rw[ok_0 (by omega)];done)|(exfalso;simp_all;done))
     ·try simp only[Q] at h10p
      refine dr ?_
      refine rn0 (r2 rfl rfl) (.tup (.cons (.eqd ?_) (.cons (.eqd ?_) .nil)))
      all_goals (first|rfl|(rw[ts_4 hx (by omega)];all_goals rfl)|(rw[ts_o hx (by omega),ty_0 (by omega)];all_goals rfl)|(rw[ts_o hx (by omega),zew (by omega) hmem];all_goals rfl)|(rw[ts_o hx (by omega),zbY (by omega) (by omega)];all_goals rfl)|(rw[ts_o hx (by omega),ty_5 (by omega) (by omega)];all_goals rfl)|(refine congrArg D.bool ?_;rw[ok_1 (by omega),decide_eq_false (by omega)];done)|(refine congrArg D.bool ?_;rw[ok_1 (by omega)];simp_all;done)|(refine congrArg D.bool ?_;rw[ok_2 (by omega),decide_eq_false (by omega),Bool.false_and];done)|(refine congrArg D.bool ?_;rw[ok_2 (by omega),hvt (by omega)];simp_all;done)|(refine congrArg D.bool ?_;rw[ok_3 (by omega)];simp_all;done)|(refine congrArg D.bool ?_;rw[ok_4 (by omega)];simp_all;done)|(refine congrArg D.bool ?_;rw[ok_5 (by omega)];first|(rw[decide_eq_true (by omega),Bool.true_and];done)|(rw[decide_eq_false (by omega),Bool.false_and];done))|(refine congrArg D.bool ?_;rw[ok_0 (by omega)];done)|(exfalso;simp_all;done))
    ·try simp only[Q] at h9p
     refine sqF ?_
     refine dr ?_
     refine rn0 (r2 rfl rfl) (.tup (.cons (.eqd ?_) (.cons (.eqd ?_) .nil)))
     all_goals (first|rfl|(rw[ts_4 hx (by omega)];all_goals rfl)|(rw[ts_o hx (by omega),ty_0 (by omega)];all_goals rfl)|(rw[ts_o hx (by omega),zew (by omega) hmem];all_goals rfl)|(rw[ts_o hx (by omega),zbY (by omega) (by omega)];all_goals rfl)|(rw[ts_o hx (by omega),ty_5 (by omega) (by omega)];all_goals rfl)|(refine congrArg D.bool ?_;rw[ok_1 (by omega),decide_eq_false (by omega)];done)|(refine congrArg D.bool ?_;rw[ok_1 (by omega)];simp_all;done)|(refine congrArg D.bool ?_;rw[ok_2 (by omega),decide_eq_false (by omega),Bool.false_and];done)|(refine congrArg D.bool ?_;rw[ok_2 (by omega),hvt (by omega)];simp_all;done)|(refine congrArg D.bool ?_;rw[ok_3 (by omega)];simp_all;done)|(refine congrArg D.bool ?_;rw[ok_4 (by omega)];simp_all;done)|(refine congrArg D.bool ?_;rw[ok_5 (by omega)];first|(rw[decide_eq_true (by omega),Bool.true_and];done)|(rw[decide_eq_false (by omega),Bool.false_and];done))|(refine congrArg D.bool ?_;rw[ok_0 (by omega)];done)|(exfalso;simp_all;done))
   ·try simp only[Q] at h8p
    refine sq (fun h11 h11p h11s=>?_) fun h11 h11p h11s=>?_
    ·try simp only[Q] at h11p
     refine Walk.call (cr:=[]) ziH (zdv hvl) rfl .none rfl rfl (LeL.refl _) trivial rfl rfl rfl ?_
     refine evs [45,81] [] ?_
     refine Walk.sliceEmpty zaS .none rfl ?_
     refine evd [45,81] [] ?_
     refine sq (fun h12 h12p h12s=>?_) fun h12 h12p h12s=>?_
     ·try simp only[Q] at h12p
      refine Walk.idx (i:=(zbk vars e.n).toNat) zcQ (.some rfl rfl h12) rfl rfl rfl (by have:=hlt (by omega);omega) (zam (by have:=hlt (by omega);omega)) rfl ?_
      refine evd [45,81] [(65,true)] ?_ ⟨⟨_,rfl,h12⟩,trivial⟩
      refine Walk.call (cr:=[]) zkR (zdY (a:=(nth vars (zbk vars e.n).toNat).ty) (b:=t)) rfl (.some rfl rfl h12) rfl rfl (LeL.refl _) trivial rfl rfl rfl ?_
      refine evd [45,81] [(65,true)] ?_ ⟨⟨_,rfl,h12⟩,trivial⟩
      refine dr ?_
      refine rn0 (r2 rfl rfl) (.tup (.cons (.eqd ?_) (.cons (.eqd ?_) .nil)))
      all_goals (first|rfl|(rw[ts_4 hx (by omega)];all_goals rfl)|(rw[ts_o hx (by omega),ty_0 (by omega)];all_goals rfl)|(rw[ts_o hx (by omega),zew (by omega) hmem];all_goals rfl)|(rw[ts_o hx (by omega),zbY (by omega) (by omega)];all_goals rfl)|(rw[ts_o hx (by omega),ty_5 (by omega) (by omega)];all_goals rfl)|(refine congrArg D.bool ?_;rw[ok_1 (by omega),decide_eq_false (by omega)];done)|(refine congrArg D.bool ?_;rw[ok_1 (by omega)];simp_all;done)|(refine congrArg D.bool ?_;rw[ok_2 (by omega),decide_eq_false (by omega),Bool.false_and];done)|(refine congrArg D.bool ?_;rw[ok_2 (by omega),hvt (by omega)];simp_all;done)|(refine congrArg D.bool ?_;rw[ok_3 (by omega)];simp_all;done)|(refine congrArg D.bool ?_;rw[ok_4 (by omega)];simp_all;done)|(refine congrArg D.bool ?_;rw[ok_5 (by omega)];first|(rw[decide_eq_true (by omega),Bool.true_and];done)|(rw[decide_eq_false (by omega),Bool.false_and];done))|(refine congrArg D.bool ?_;rw[ok_0 (by omega)];done)|(exfalso;simp_all;done))
     ·try simp only[Q] at h12p
      refine dr ?_
      refine rn0 (r2 rfl rfl) (.tup (.cons (.eqd ?_) (.cons (.eqd ?_) .nil)))
      all_goals (first|rfl|(rw[ts_4 hx (by omega)];all_goals rfl)|(rw[ts_o hx (by omega),ty_0 (by omega)];all_goals rfl)|(rw[ts_o hx (by omega),zew (by omega) hmem];all_goals rfl)|(rw[ts_o hx (by omega),zbY (by omega) (by omega)];all_goals rfl)|(rw[ts_o hx (by omega),ty_5 (by omega) (by omega)];all_goals rfl)|(refine congrArg D.bool ?_;rw[ok_1 (by omega),decide_eq_false (by omega)];done)|(refine congrArg D.bool ?_;rw[ok_1 (by omega)];simp_all;done)|(refine congrArg D.bool ?_;rw[ok_2 (by omega),decide_eq_false (by omega),Bool.false_and];done)|(refine congrArg D.bool ?_;rw[ok_2 (by omega),hvt (by omega)];simp_all;done)|(refine congrArg D.bool ?_;rw[ok_3 (by omega)];simp_all;done)|(refine congrArg D.bool ?_;rw[ok_4 (by omega)];simp_all;done)|(refine congrArg D.bool ?_;rw[ok_5 (by omega)];first|(rw[decide_eq_true (by omega),Bool.true_and];done)|(rw[decide_eq_false (by omega),Bool.false_and];done))|(refine congrArg D.bool ?_;rw[ok_0 (by omega)];done)|(exfalso;simp_all;done))
    ·try simp only[Q] at h11p
     refine sq (fun h13 h13p h13s=>?_) fun h13 h13p h13s=>?_
     ·try simp only[Q] at h13p
      refine Walk.sliceLit zaS tz33 rfl (by decide) (ks:=[0,1]) (xs:=[_,_]) rfl rfl (by decide) (by decide) .none rfl rfl rfl rfl ?_
      refine evd [45,81] [] ?_
      refine Walk.eqV eq33 .none rfl rfl rfl rfl rfl ?_
      refine evd [45,81] [] ?_
      refine dr ?_
      refine rn0 (r2 rfl rfl) (.tup (.cons (.eqd ?_) (.cons (.eqd ?_) .nil)))
      all_goals (first|rfl|(rw[ts_4 hx (by omega)];all_goals rfl)|(rw[ts_o hx (by omega),ty_0 (by omega)];all_goals rfl)|(rw[ts_o hx (by omega),zew (by omega) hmem];all_goals rfl)|(rw[ts_o hx (by omega),zbY (by omega) (by omega)];all_goals rfl)|(rw[ts_o hx (by omega),ty_5 (by omega) (by omega)];all_goals rfl)|(refine congrArg D.bool ?_;rw[ok_1 (by omega),decide_eq_false (by omega)];done)|(refine congrArg D.bool ?_;rw[ok_1 (by omega)];simp_all;done)|(refine congrArg D.bool ?_;rw[ok_2 (by omega),decide_eq_false (by omega),Bool.false_and];done)|(refine congrArg D.bool ?_;rw[ok_2 (by omega),hvt (by omega)];simp_all;done)|(refine congrArg D.bool ?_;rw[ok_3 (by omega)];simp_all;done)|(refine congrArg D.bool ?_;rw[ok_4 (by omega)];simp_all;done)|(refine congrArg D.bool ?_;rw[ok_5 (by omega)];first|(rw[decide_eq_true (by omega),Bool.true_and];done)|(rw[decide_eq_false (by omega),Bool.false_and];done))|(refine congrArg D.bool ?_;rw[ok_0 (by omega)];done)|(exfalso;simp_all;done))
     ·try simp only[Q] at h13p
      refine sq (fun h14 h14p h14s=>?_) fun h14 h14p h14s=>?_
      ·try simp only[Q] at h14p
       refine Walk.call (cr:=[]) zfE (zce hw ht') rfl .none rfl rfl (LeL.refl _) trivial rfl rfl rfl ?_
       refine evd [45,81] [] ?_
       refine Walk.call (cr:=[]) zhw (hcon) rfl .none rfl rfl (LeL.refl _) trivial rfl rfl rfl ?_
       refine evd [45,81] [] ?_
       refine dr ?_
       refine sq (fun h15 h15p h15s=>?_) fun h15 h15p h15s=>?_
       ·try simp only[Q] at h15p
        refine rn0 (r2 rfl rfl) (.tup (.cons (.nild ?_) (.cons (.eqd ?_) .nil)))
        all_goals (first|rfl|(rw[ts_4 hx (by omega)];all_goals rfl)|(rw[ts_o hx (by omega),ty_0 (by omega)];all_goals rfl)|(rw[ts_o hx (by omega),zew (by omega) hmem];all_goals rfl)|(rw[ts_o hx (by omega),zbY (by omega) (by omega)];all_goals rfl)|(rw[ts_o hx (by omega),ty_5 (by omega) (by omega)];all_goals rfl)|(refine congrArg D.bool ?_;rw[ok_1 (by omega),decide_eq_false (by omega)];done)|(refine congrArg D.bool ?_;rw[ok_1 (by omega)];simp_all;done)|(refine congrArg D.bool ?_;rw[ok_2 (by omega),decide_eq_false (by omega),Bool.false_and];done)|(refine congrArg D.bool ?_;rw[ok_2 (by omega),hvt (by omega)];simp_all;done)|(refine congrArg D.bool ?_;rw[ok_3 (by omega)];simp_all;done)|(refine congrArg D.bool ?_;rw[ok_4 (by omega)];simp_all;done)|(refine congrArg D.bool ?_;rw[ok_5 (by omega)];first|(rw[decide_eq_true (by omega),Bool.true_and];done)|(rw[decide_eq_false (by omega),Bool.false_and];done))|(refine congrArg D.bool ?_;rw[ok_0 (by omega)];done)|(exfalso;simp_all;done))
       ·try simp only[Q] at h15p
        exfalso;simp_all
      ·try simp only[Q] at h14p
       refine sq (fun h16 h16p h16s=>?_) fun h16 h16p h16s=>?_
       ·try simp only[Q] at h16p
        refine sq (fun h17 h17p h17s=>?_) fun h17 h17p h17s=>?_
        ·try simp only[Q] at h17p
         refine sqT ?_
         refine rn0 (r2 rfl rfl) (.tup (.cons (.nild ?_) (.cons (.eqd ?_) .nil)))
         all_goals (first|rfl|(rw[ts_4 hx (by omega)];all_goals rfl)|(rw[ts_o hx (by omega),ty_0 (by omega)];all_goals rfl)|(rw[ts_o hx (by omega),zew (by omega) hmem];all_goals rfl)|(rw[ts_o hx (by omega),zbY (by omega) (by omega)];all_goals rfl)|(rw[ts_o hx (by omega),ty_5 (by omega) (by omega)];all_goals rfl)|(refine congrArg D.bool ?_;rw[ok_1 (by omega),decide_eq_false (by omega)];done)|(refine congrArg D.bool ?_;rw[ok_1 (by omega)];simp_all;done)|(refine congrArg D.bool ?_;rw[ok_2 (by omega),decide_eq_false (by omega),Bool.false_and];done)|(refine congrArg D.bool ?_;rw[ok_2 (by omega),hvt (by omega)];simp_all;done)|(refine congrArg D.bool ?_;rw[ok_3 (by omega)];simp_all;done)|(refine congrArg D.bool ?_;rw[ok_4 (by omega)];simp_all;done)|(refine congrArg D.bool ?_;rw[ok_5 (by omega)];first|(rw[decide_eq_true (by omega),Bool.true_and];done)|(rw[decide_eq_false (by omega),Bool.false_and];done))|(refine congrArg D.bool ?_;rw[ok_0 (by omega)];done)|(exfalso;simp_all;done))
        ·try simp only[Q] at h17p
         refine sq (fun h19 h19p h19s=>?_) fun h19 h19p h19s=>?_
         ·try simp only[Q] at h19p
          refine rn0 (r2 rfl rfl) (.tup (.cons (.nild ?_) (.cons (.eqd ?_) .nil)))
          all_goals (first|rfl|(rw[ts_4 hx (by omega)];all_goals rfl)|(rw[ts_o hx (by omega),ty_0 (by omega)];all_goals rfl)|(rw[ts_o hx (by omega),zew (by omega) hmem];all_goals rfl)|(rw[ts_o hx (by omega),zbY (by omega) (by omega)];all_goals rfl)|(rw[ts_o hx (by omega),ty_5 (by omega) (by omega)];all_goals rfl)|(refine congrArg D.bool ?_;rw[ok_1 (by omega),decide_eq_false (by omega)];done)|(refine congrArg D.bool ?_;rw[ok_1 (by omega)];simp_all;done)|(refine congrArg D.bool ?_;rw[ok_2 (by omega),decide_eq_false (by omega),Bool.false_and];done)|(refine congrArg D.bool ?_;rw[ok_2 (by omega),hvt (by omega)];simp_all;done)|(refine congrArg D.bool ?_;rw[ok_3 (by omega)];simp_all;done)|(refine congrArg D.bool ?_;rw[ok_4 (by omega)];simp_all;done)|(refine congrArg D.bool ?_;rw[ok_5 (by omega)];first|(rw[decide_eq_true (by omega),Bool.true_and];done)|(rw[decide_eq_false (by omega),Bool.false_and];done))|(refine congrArg D.bool ?_;rw[ok_0 (by omega)];done)|(exfalso;simp_all;done))
         ·try simp only[Q] at h19p
          refine Walk.idx (i:=e.n.toNat) zdp .none rfl rfl rfl (by omega) (zam (by omega)) rfl ?_
          refine evd [45,81] [] ?_
          refine Walk.sliceLit zaS tz33 rfl (by decide) (ks:=[0]) (xs:=[_]) rfl rfl (by decide) (by decide) .none rfl rfl rfl rfl ?_
          refine evd [45,81] [] ?_
          refine Walk.idx (i:=e.n.toNat) zdp .none rfl rfl rfl (by omega) (zam (by omega)) rfl ?_
          refine evd [45,81] [] ?_
          refine Walk.call (cr:=[]) zkR (zdY (a:=(nth funs e.n.toNat).res) (b:=t)) rfl .none rfl rfl (LeL.refl _) trivial rfl rfl rfl ?_
          refine evd [45,81] [] ?_
          refine dr ?_
          refine rn0 (r2 rfl rfl) (.tup (.cons (.eqd ?_) (.cons (.eqd ?_) .nil)))
          all_goals (first|rfl|(rw[ts_4 hx (by omega)];all_goals rfl)|(rw[ts_o hx (by omega),ty_0 (by omega)];all_goals rfl)|(rw[ts_o hx (by omega),zew (by omega) hmem];all_goals rfl)|(rw[ts_o hx (by omega),zbY (by omega) (by omega)];all_goals rfl)|(rw[ts_o hx (by omega),ty_5 (by omega) (by omega)];all_goals rfl)|(refine congrArg D.bool ?_;rw[ok_1 (by omega),decide_eq_false (by omega)];done)|(refine congrArg D.bool ?_;rw[ok_1 (by omega)];simp_all;done)|(refine congrArg D.bool ?_;rw[ok_2 (by omega),decide_eq_false (by omega),Bool.false_and];done)|(refine congrArg D.bool ?_;rw[ok_2 (by omega),hvt (by omega)];simp_all;done)|(refine congrArg D.bool ?_;rw[ok_3 (by omega)];simp_all;done)|(refine congrArg D.bool ?_;rw[ok_4 (by omega)];simp_all;done)|(refine congrArg D.bool ?_;rw[ok_5 (by omega)];first|(rw[decide_eq_true (by omega),Bool.true_and];done)|(rw[decide_eq_false (by omega),Bool.false_and];done))|(refine congrArg D.bool ?_;rw[ok_0 (by omega)];done)|(exfalso;simp_all;done))
       ·try simp only[Q] at h16p
        refine rn0 (r2 rfl rfl) (.tup (.cons (.nild ?_) (.cons (.eqd ?_) .nil)))
        all_goals (first|rfl|(rw[ts_4 hx (by omega)];all_goals rfl)|(rw[ts_o hx (by omega),ty_0 (by omega)];all_goals rfl)|(rw[ts_o hx (by omega),zew (by omega) hmem];all_goals rfl)|(rw[ts_o hx (by omega),zbY (by omega) (by omega)];all_goals rfl)|(rw[ts_o hx (by omega),ty_5 (by omega) (by omega)];all_goals rfl)|(refine congrArg D.bool ?_;rw[ok_1 (by omega),decide_eq_false (by omega)];done)|(refine congrArg D.bool ?_;rw[ok_1 (by omega)];simp_all;done)|(refine congrArg D.bool ?_;rw[ok_2 (by omega),decide_eq_false (by omega),Bool.false_and];done)|(refine congrArg D.bool ?_;rw[ok_2 (by omega),hvt (by omega)];simp_all;done)|(refine congrArg D.bool ?_;rw[ok_3 (by omega)];simp_all;done)|(refine congrArg D.bool ?_;rw[ok_4 (by omega)];simp_all;done)|(refine congrArg D.bool ?_;rw[ok_5 (by omega)];first|(rw[decide_eq_true (by omega),Bool.true_and];done)|(rw[decide_eq_false (by omega),Bool.false_and];done))|(refine congrArg D.bool ?_;rw[ok_0 (by omega)];done)|(exfalso;simp_all;done))
theorem zgQ {w:List Data}{funs:List Ft}{vars:List Vt} (hw:WT w) (haz:AZ w) (hfl:funs.length≤1000000000000) (hvl:vars.length≤1000000000000) (hfa:∀f∈funs,TyOk w.length f.arg):∀(n:Nat){t:Ty}{m:Int}{e:Ex},m=n→n≤1000→TyOk w.length t→e.ok→
  FnD Tryz.prog 183 [.d (zak w),.d (zdt funs),.d (zbP vars),.agg [.d (.i t.data),.d (.i t.index)],.agg [.d (.i e.op),.d (.i e.n),.d (.i e.ctor),.d (zbi e.kids)],.d (.i m)] [] (.d (.bool (zda w funs vars n t e))) []
 |0,t,m,e,hm,_,_,_=>by
  refine bd Tryz.f183 59 [] [] fun w0 F0 own kept hk=>?_
  refine Walk.box (id:=3009) .none rfl rfl rfl rfl rfl rfl rfl ?_
  refine Walk.box (id:=3010) .none rfl rfl rfl rfl rfl rfl rfl ?_
  refine ev ?_
  refine sq (fun h1 h1p h1s=>?_) fun h1 h1p h1s=>?_
  ·try simp only[Q] at h1p
   refine rn0 (r1 rfl) (.eqd ?_)
   all_goals (rfl)
  ·try simp only[Q] at h1p
   exfalso;omega
 |n+1,t,m,e,hm,hn,ht,hok=>by
  rw[Ex.ok_iff] at hok
  have hkd:=zlR hw hfl hvl ht (e:=e) (funs:=funs) (vars:=vars)
  have htl:=zl7 hw ht.1 (funs:=funs) (e:=e)
  have hti:=zrs hw haz hfa ht (e:=e)
  cases ho:okE w funs vars t e with
  |false=>
   have hsc:zda w funs vars (n+1) t e=false:=by
    conv=>lhs;unfold zda zeZ
    rw[ho];rfl
   rw[ho] at hkd
   rw[hsc]
   refine bd Tryz.f183 59 [] [] fun w0 F0 own kept hk=>?_
   refine Walk.box (id:=3009) .none rfl rfl rfl rfl rfl rfl rfl ?_
   refine Walk.box (id:=3010) .none rfl rfl rfl rfl rfl rfl rfl ?_
   refine ev ?_
   refine sq (fun h1 h1p h1s=>?_) fun h1 h1p h1s=>?_
   ·try simp only[Q] at h1p
    exfalso;omega
   ·try simp only[Q] at h1p
    refine Walk.call (cr:=[]) zoe (hkd) rfl .none rfl rfl (LeL.refl _) trivial rfl rfl rfl ?_
    refine ev ?_
    refine sq (fun h2 h2p h2s=>?_) fun h2 h2p h2s=>?_
    ·try simp only[Q] at h2p
     refine sqT ?_
     refine rn0 (r1 rfl) (.eqd ?_)
     all_goals (rfl)
    ·try simp only[Q] at h2p
     refine sq (fun h4 h4p h4s=>?_) fun h4 h4p h4s=>?_
     ·try simp only[Q] at h4p
      refine rn0 (r1 rfl) (.eqd ?_)
      all_goals (rfl)
     ·try simp only[Q] at h4p
      exfalso;simp_all
  |true=>
   rw[ho,zru ht ho] at hkd
   by_cases hlen:(zaW w funs t e).length=e.kids.length
   ·have hsc:zda w funs vars (n+1) t e=all2 (zda w funs vars n) (zaW w funs t e) e.kids:=by
     conv=>lhs;unfold zda zeZ
     rw[ho,decide_eq_true hlen];rfl
    rw[hsc]
    refine bd Tryz.f183 59 [] [] fun w0 F0 own kept hk=>?_
    refine Walk.box (id:=3009) .none rfl rfl rfl rfl rfl rfl rfl ?_
    refine Walk.box (id:=3010) .none rfl rfl rfl rfl rfl rfl rfl ?_
    refine ev ?_
    refine sq (fun h1 h1p h1s=>?_) fun h1 h1p h1s=>?_
    ·try simp only[Q,Ex.cs_len] at h1p
     exfalso;omega
    ·try simp only[Q,Ex.cs_len] at h1p
     refine Walk.call (cr:=[]) zoe (hkd) rfl .none rfl rfl (LeL.refl _) trivial rfl rfl rfl ?_
     refine ev ?_
     refine sq (fun h2 h2p h2s=>?_) fun h2 h2p h2s=>?_
     ·try simp only[Q,Ex.cs_len] at h2p
      refine sqT ?_
      exfalso;first|omega|(simp_all[Ex.cs_len];done)
     ·try simp only[Q,Ex.cs_len] at h2p
      refine sq (fun h4 h4p h4s=>?_) fun h4 h4p h4s=>?_
      ·try simp only[Q,Ex.cs_len] at h4p
       exfalso;first|omega|(simp_all[Ex.cs_len];done)
      ·try simp only[Q,Ex.cs_len] at h4p
       refine CWp.loopX (ι:=Nat) hk (fun i=>[(15,.d (.i (i:Int)))]) [12,37,38,39,40,41,42,43,44,45,46,47,48,49,50,51,52,53,54,55,56,57,58] (fun i=>[]) (fun i=>i≤(zaW w funs t e).length∧∀i',i'<i→zda w funs vars n (nth (zaW w funs t e) i') (nth e.kids i')=true) (fun i=>(zaW w funs t e).length-i) 0 ⟨by omega,fun _ h=>absurd h (by omega)⟩ ⟨⟨_,rfl,(LeA.eqi (by first|rfl|(simp;done)|(simp_all;done)|omega))⟩,trivial⟩ trivial (fun x=>rfl) (fun i hg1=>?_)
       refine evc [] [] ?_
       refine sq (fun h5 h5p h5s=>?_) fun h5 h5p h5s=>?_
       ·try simp only[Q,Ex.cs_len] at h5p
        refine Walk.idx zaS .none rfl rfl rfl rfl (zam (by omega)) rfl ?_
        refine evd [] [] ?_
        refine Walk.idx sl58 .none rfl rfl rfl rfl (zgC (by omega)) rfl ?_
        refine evd [] [] ?_
        refine ar ?_
        refine Walk.call (cr:=[]) zqF (zgQ hw haz hfl hvl hfa n (t:=nth (zaW w funs t e) i) (by omega) (by omega) (hti _ (zae (by omega))) (Exs.ok_mem hok.2 _ (zae (by omega)))) rfl .none rfl rfl (LeL.refl _) trivial rfl rfl rfl ?_
        refine evd [] [] ?_
        refine dr ?_
        refine sq (fun h6 h6p h6s=>?_) fun h6 h6p h6s=>?_
        ·try simp only[Q,Ex.cs_len] at h6p
         refine rn0 (r1 rfl) (.eqd ?_)
         all_goals (refine congrArg D.bool ?_;first|(refine(zbE (by omega) (fun x hx=>hg1.2 x (by omega))).symm)|(refine(zbq (i:=i) (by omega) (by omega) ?_).symm;simp_all))
        ·try simp only[Q,Ex.cs_len] at h6p
         refine ar ?_
         refine Exists.intro (i+1) ⟨⟨by omega,zaF hg1.2 (by simp_all)⟩,(by omega),Sub.x (by kernel_rfl) (by kernel_rfl) ⟨⟨_,rfl,(LeA.eqi (by first|rfl|(simp;done)|(simp_all;done)|omega))⟩,trivial⟩ (by kernel_rfl) (by kernel_rfl) trivial⟩
       ·try simp only[Q,Ex.cs_len] at h5p
        refine rn0 (r1 rfl) (.eqd ?_)
        all_goals (refine congrArg D.bool ?_;first|(refine(zbE (by omega) (fun x hx=>hg1.2 x (by omega))).symm)|(refine(zbq (i:=i) (by omega) (by omega) ?_).symm;simp_all))
   ·have hsc:zda w funs vars (n+1) t e=false:=by
     conv=>lhs;unfold zda zeZ
     rw[ho,decide_eq_false hlen];rfl
    rw[hsc]
    refine bd Tryz.f183 59 [] [] fun w0 F0 own kept hk=>?_
    refine Walk.box (id:=3009) .none rfl rfl rfl rfl rfl rfl rfl ?_
    refine Walk.box (id:=3010) .none rfl rfl rfl rfl rfl rfl rfl ?_
    refine ev ?_
    refine sq (fun h1 h1p h1s=>?_) fun h1 h1p h1s=>?_
    ·try simp only[Q,Ex.cs_len] at h1p
     exfalso;omega
    ·try simp only[Q,Ex.cs_len] at h1p
     refine Walk.call (cr:=[]) zoe (hkd) rfl .none rfl rfl (LeL.refl _) trivial rfl rfl rfl ?_
     refine ev ?_
     refine sq (fun h2 h2p h2s=>?_) fun h2 h2p h2s=>?_
     ·try simp only[Q,Ex.cs_len] at h2p
      refine sqT ?_
      refine rn0 (r1 rfl) (.eqd ?_)
      all_goals (rfl)
     ·try simp only[Q,Ex.cs_len] at h2p
      refine sq (fun h4 h4p h4s=>?_) fun h4 h4p h4s=>?_
      ·try simp only[Q,Ex.cs_len] at h4p
       refine rn0 (r1 rfl) (.eqd ?_)
       all_goals (rfl)
      ·try simp only[Q,Ex.cs_len] at h4p
       exfalso;omega
theorem zgP:∀(n:Nat){v:Ex}{m:Int},v.size≤n→v.size≤1000000000000→v.ok→0≤m→m≤1000000000000→FnD Tryz.prog 184 [.agg [.d (.i v.op),.d (.i v.n),.d (.i v.ctor),.d (zbi v.kids)],.d (.i m)] [] (.d (.i (cntE m v))) []
 |0,v,m,h,_,_,_,_=>by rw[Ex.size_eq] at h;omega
 |n+1,v,m,h,hb,hok,m0,m1=>by
  rw[Ex.size_eq] at h hb
  rw[Ex.ok_iff] at hok
  rw[zsC]
  refine bd Tryz.f184 31 [] [] fun w0 F0 own kept hk=>?_
  refine Walk.box (id:=3002) .none rfl rfl rfl rfl rfl rfl rfl ?_
  refine ev ?_
  refine CWp.loopX (ι:=Nat×Int) hk (fun x=>[(6,.d (.i (x.1:Int))),(5,.d (.i x.2))]) [7,8,9,10,11,12,13,14,15,16,17,18,19,20,21,22,23,24,25,26,27,28,29] (fun x=>[]) (fun x=>x.1≤v.kids.length∧zc7 m x.2 (v.kids.drop x.1)=zc7 m 1 v.kids∧1≤x.2∧x.2+Exs.size (v.kids.drop x.1)≤1+Exs.size v.kids) (fun x=>v.kids.length-x.1) (0,1) ⟨by simp,by simp,by simp,by simp⟩ ⟨⟨_,rfl,(LeA.eqi (by first|rfl|(simp;done)|(dsimp only;omega)))⟩,⟨⟨_,rfl,(LeA.eqi (by first|rfl|(simp;done)|(dsimp only;omega)))⟩,trivial⟩⟩ trivial (fun x=>rfl) (fun x hg1=>?_)
  refine evc [] [] ?_
  refine sq (fun h1 h1p h1s=>?_) fun h1 h1p h1s=>?_
  ·try simp only[Q,Ex.cs_len] at h1p
   refine sq (fun h2 h2p h2s=>?_) fun h2 h2p h2s=>?_
   ·try simp only[Q,Ex.cs_len] at h2p
    refine Walk.idx sl58 .none rfl rfl rfl rfl (zgC (by omega)) rfl ?_
    refine ev ?_
    refine ar ?_ (by first|(constructor<;>omega)|(have hz:=zgr (nth v.kids x.1) (m-x.2);have hs:=zf5 (l:=v.kids) (i:=x.1) (by omega);constructor<;>omega)|(constructor<;>simp[Ex.cs_len]<;>omega))
    refine Walk.call (cr:=[]) zqG (zgP n (v:=nth v.kids x.1) (by have:=zmY (l:=v.kids) (i:=x.1) (by omega);omega) (by have:=zmY (l:=v.kids) (i:=x.1) (by omega);omega) (Exs.ok_mem hok.2 _ (zae (by omega))) (by omega) (by omega)) rfl .none rfl rfl (LeL.refl _) trivial rfl rfl rfl ?_
    refine ev ?_
    refine ar ?_ (by first|(constructor<;>omega)|(have hz:=zgr (nth v.kids x.1) (m-x.2);have hs:=zf5 (l:=v.kids) (i:=x.1) (by omega);constructor<;>omega)|(constructor<;>simp[Ex.cs_len]<;>omega))
    refine ar ?_ (by first|(constructor<;>omega)|(have hz:=zgr (nth v.kids x.1) (m-x.2);have hs:=zf5 (l:=v.kids) (i:=x.1) (by omega);constructor<;>omega)|(constructor<;>simp[Ex.cs_len]<;>omega))
    refine Exists.intro ((x.1+1,x.2+cntE (m-x.2) (nth v.kids x.1))) ⟨(by
        obtain⟨h1,h2,h3,h4⟩:=hg1
        have hz:=zgr (nth v.kids x.1) (m-x.2)
        have hs:=zf5 (l:=v.kids) (i:=x.1) (by omega)
        refine⟨by dsimp only;omega, ?_,by dsimp only;omega,by dsimp only;omega⟩
        rw[←h2,zaP (l:=v.kids) (i:=x.1) (by omega),zc7,if_pos (by omega)]),(by dsimp only;omega),Sub.x (by kernel_rfl) (by kernel_rfl) ⟨⟨_,rfl,(LeA.eqi (by first|rfl|(simp;done)|(dsimp only;omega)))⟩,⟨⟨_,rfl,(LeA.eqi (by first|rfl|(simp;done)|(dsimp only;omega)))⟩,trivial⟩⟩ (by kernel_rfl) (by kernel_rfl) trivial⟩
   ·try simp only[Q,Ex.cs_len] at h2p
    refine rn0 (r1 rfl) (.eqd ?_)
    all_goals (refine congrArg D.i ?_;rw[←hg1.2.1];first|(rw[List.drop_eq_nil_of_le (by omega)];rfl)|(rw[zhU (by omega)]))
  ·try simp only[Q,Ex.cs_len] at h1p
   refine sqF ?_
   refine rn0 (r1 rfl) (.eqd ?_)
   all_goals (refine congrArg D.i ?_;rw[←hg1.2.1];first|(rw[List.drop_eq_nil_of_le (by omega)];rfl)|(rw[zhU (by omega)]))
theorem znK {w:List Data}{funs:List Ft}{vars:List Vt} (hw:WT w) (haz:AZ w) (hfl:funs.length≤1000000000000) (hvl:vars.length≤1000000000000) (hfa:∀f∈funs,TyOk w.length f.arg){t:Ty}{e:Ex} (ht:TyOk w.length t) (hok:e.ok) (hsz:e.size≤1000000000000):
  FnD Tryz.prog 142 [.d (zak w),.d (zdt funs),.d (zbP vars),.agg [.d (.i t.data),.d (.i t.index)],.agg [.d (.i e.op),.d (.i e.n),.d (.i e.ctor),.d (zbi e.kids)]] [] (.d (.bool (isE w funs vars t e))) []:=by
 have hc:=zof e 60
 refine bd Tryz.f142 22 [] [] fun w0 F0 own kept hk=>?_
 refine Walk.box (id:=3008) .none rfl rfl rfl rfl rfl rfl rfl ?_
 refine Walk.box (id:=3009) .none rfl rfl rfl rfl rfl rfl rfl ?_
 refine ev ?_
 refine Walk.call (cr:=[]) zqF (zgQ hw haz hfl hvl hfa 10 rfl (by omega) ht hok) rfl .none rfl rfl (LeL.refl _) trivial rfl rfl rfl ?_
 refine ev ?_
 refine sq (fun h1 h1p h1s=>?_) fun h1 h1p h1s=>?_
 ·try simp only[Q] at h1p
  refine Walk.call (cr:=[]) zqG (zgP _ (Nat.le_refl _) hsz hok (by omega) (by omega)) rfl (.some rfl rfl h1) rfl rfl (LeL.refl _) trivial rfl rfl rfl ?_
  refine evs [] [(17,true)] ?_ ⟨⟨_,rfl,h1⟩,trivial⟩
  refine rn0 (r1 rfl) (.eqd ?_)
  all_goals (refine congrArg D.bool ?_;unfold isE;first|(rw[h1,Bool.true_and];exact decide_eq_decide.2 hc.1)|(rw[h1s,Bool.true_and];exact decide_eq_decide.2 hc.1)|(simp_all;done))
 ·try simp only[Q] at h1p
  refine rn0 (r1 rfl) (.eqd ?_)
  all_goals (refine congrArg D.bool ?_;unfold isE;first|(rw[h1,Bool.true_and];exact decide_eq_decide.2 hc.1)|(rw[h1s,Bool.true_and];exact decide_eq_decide.2 hc.1)|(simp_all;done))
theorem zj3 {w:List Data}{a b:Int}:FnD Tryz.prog 103 [.d (zak w),.agg [.d (.i a),.d (.i b)]] [] (.d (.bool (zbh w.length ⟨a,b⟩))) []:=by
 have e:(zbr w.length ⟨a,b⟩&&decide (0≤b))=zbh w.length ⟨a,b⟩:=by
  rw[Bool.eq_iff_iff]
  simp only[zbr,zbh,zaf,Bool.and_eq_true,Bool.or_eq_true,decide_eq_true_eq,and_true]
  omega
 rw[←e];exact zjj
theorem zlQ {w:List Data}{funs:List Ft} (hs:w.length≤1000000000000) (hfl:funs.length≤1000000000000):FnD Tryz.prog 83 [.d (zak w),.d (zdt funs)] [] (.d (.bool (zdk w funs))) []:=by
 have hbad:∀i,i<funs.length→(zbh w.length (nth funs i).arg&&zbh w.length (nth funs i).res)=false→zdk w funs=false:=fun i hi h=>by
  unfold zdk
  have:funs.any (fun f=> !(zbh w.length f.arg&&zbh w.length f.res))=true:=List.any_eq_true.2 ⟨nth funs i,zae hi,by rw[h];rfl⟩
  rw[this];simp
 have hgood:funs.length≤4→(∀i,i<funs.length→(zbh w.length (nth funs i).arg&&zbh w.length (nth funs i).res)=true)→zdk w funs=true:=fun h4 h=>by
  unfold zdk
  rw[decide_eq_true (by omega),Bool.true_and,Bool.not_eq_true',List.any_eq_false]
  intro f hf
  obtain⟨i,hi,rfl⟩:=List.getElem_of_mem hf
  have:=h i hi
  simp only[nth,List.getD,List.getElem?_eq_getElem hi,Option.getD_some] at this
  simp[this]
 have hmany:4<funs.length→zdk w funs=false:=fun h=>by unfold zdk;rw[decide_eq_false (by omega),Bool.false_and]
 refine bd Tryz.f83 37 [] [] fun w0 F0 own kept hk=>?_
 refine CWp.loopX (ι:=Nat) hk (fun i=>[(5,.d (.i (i:Int)))]) [4,6,7,8,9,10,11,12,13,14,15,16,17,18,19,20,21,22,23,24,25,26,27,28,29,30,31,32,33] (fun i=>[]) (fun i=>i≤funs.length∧i≤5∧∀i',i'<i→(zbh w.length (nth funs i').arg&&zbh w.length (nth funs i').res)=true) (fun i=>5-i) 0 ⟨by omega,by omega,fun _ h=>absurd h (by omega)⟩ ⟨⟨_,rfl,(LeA.eqi (by first|rfl|(simp;done)|(simp_all;done)|omega))⟩,trivial⟩ trivial (fun x=>rfl) (fun i hg1=>?_)
 refine evc [] [] ?_
 refine sq (fun h1 h1p h1s=>?_) fun h1 h1p h1s=>?_
 ·try simp only[Q,List.length_map] at h1p
  refine sq (fun h2 h2p h2s=>?_) fun h2 h2p h2s=>?_
  ·try simp only[Q,List.length_map] at h2p
   refine Walk.idx zdp .none rfl rfl rfl rfl (zam (by omega)) rfl ?_
   refine ev ?_
   refine Walk.call (cr:=[]) zn1 (zj3 (a:=(nth funs i).arg.data) (b:=(nth funs i).arg.index)) rfl .none rfl rfl (LeL.refl _) trivial rfl rfl rfl ?_
   refine ev ?_
   refine sq (fun h3 h3p h3s=>?_) fun h3 h3p h3s=>?_
   ·try simp only[Q,List.length_map] at h3p
    refine sqT ?_
    refine rn0 (r1 rfl) (.eqd ?_)
    all_goals (refine congrArg D.bool ?_;first|(rw[hbad i (by omega) (by simp_all)];done)|(rw[hmany (by omega)];exact decide_eq_false (by simp;omega))|(by_cases h44:funs.length≤4<;>first|(rw[hgood h44 (fun x hx=>hg1.2.2 x (by omega))];exact decide_eq_true (by simp;omega))|(rw[hmany (by omega)];exact decide_eq_false (by simp;omega))))
   ·try simp only[Q,List.length_map] at h3p
    refine Walk.idx zdp (.some rfl rfl h3) rfl rfl rfl rfl (zam (by omega)) rfl ?_
    refine evs [] [(24,false)] ?_ ⟨⟨_,rfl,h3⟩,trivial⟩
    refine Walk.call (cr:=[]) zn1 (zj3 (a:=(nth funs i).res.data) (b:=(nth funs i).res.index)) rfl (.some rfl rfl h3) rfl rfl (LeL.refl _) trivial rfl rfl rfl ?_
    refine evs [] [(24,false)] ?_ ⟨⟨_,rfl,h3⟩,trivial⟩
    refine sq (fun h5 h5p h5s=>?_) fun h5 h5p h5s=>?_
    ·try simp only[Q,List.length_map] at h5p
     refine rn0 (r1 rfl) (.eqd ?_)
     all_goals (refine congrArg D.bool ?_;first|(rw[hbad i (by omega) (by simp_all)];done)|(rw[hmany (by omega)];exact decide_eq_false (by simp;omega))|(by_cases h44:funs.length≤4<;>first|(rw[hgood h44 (fun x hx=>hg1.2.2 x (by omega))];exact decide_eq_true (by simp;omega))|(rw[hmany (by omega)];exact decide_eq_false (by simp;omega))))
    ·try simp only[Q,List.length_map] at h5p
     refine ar ?_
     refine Exists.intro (i+1) ⟨⟨by omega,by omega,zaF hg1.2.2 (by simp_all)⟩,(by omega),Sub.x (by kernel_rfl) (by kernel_rfl) ⟨⟨_,rfl,(LeA.eqi (by first|rfl|(simp;done)|(simp_all;done)|omega))⟩,trivial⟩ (by kernel_rfl) (by kernel_rfl) trivial⟩
  ·try simp only[Q,List.length_map] at h2p
   refine rn0 (r1 rfl) (.eqd ?_)
   all_goals (refine congrArg D.bool ?_;first|(rw[hbad i (by omega) (by simp_all)];done)|(rw[hmany (by omega)];exact decide_eq_false (by simp;omega))|(by_cases h44:funs.length≤4<;>first|(rw[hgood h44 (fun x hx=>hg1.2.2 x (by omega))];exact decide_eq_true (by simp;omega))|(rw[hmany (by omega)];exact decide_eq_false (by simp;omega))))
 ·try simp only[Q,List.length_map] at h1p
  refine sqF ?_
  refine rn0 (r1 rfl) (.eqd ?_)
  all_goals (refine congrArg D.bool ?_;first|(rw[hbad i (by omega) (by simp_all)];done)|(rw[hmany (by omega)];exact decide_eq_false (by simp;omega))|(by_cases h44:funs.length≤4<;>first|(rw[hgood h44 (fun x hx=>hg1.2.2 x (by omega))];exact decide_eq_true (by simp;omega))|(rw[hmany (by omega)];exact decide_eq_false (by simp;omega))))
theorem zkx {l:List Fu} (hl:l.length≤1000000000000):FnD Tryz.prog 81 [.d (zdL l)] [] (.d (zdt (l.map Fu.ty))) []:=by
 refine bd Tryz.f81 21 [] [] fun w0 F0 own kept hk=>?_
 refine Walk.sliceEmptyG 1 zdp .none rfl rfl ?_
 refine ev ?_
 refine CWp.loopX (ι:=List (Fu)×List (Fu)) hk (fun x=>[(4,.d (.i (x.1.length:Int))),(3,.gl 1 ((x.1.map Fu.ty).map Ft.c))]) [6,7,8,9,10,11,12,13,14,15,16,17,18,19] (fun x=>[(1,some (.tok (((x.1.map Fu.ty).map Ft.c)).length 4))]) (fun x=>x.1++x.2=l) (fun x=>x.2.length) ([],l) (by simp) ⟨⟨_,rfl,(LeA.eqi (by first|rfl|(simp;done)))⟩,⟨⟨_,rfl,(LeA.glg (by first|rfl|(simp;done)))⟩,trivial⟩⟩ ⟨zab (by first|rfl|(simp;done)|(simp;omega)|(first|rfl|(simp;done))),trivial⟩ (fun x=>rfl) (fun x hg1=>?_)
 obtain⟨pre,rest⟩:=x
 dsimp only at hg1 ⊢
 refine evc [] [] ?_
 refine sq (fun h1 h1p h1s=>?_) fun h1 h1p h1s=>?_
 ·try simp only[Q] at h1p
  rcases rest with _|⟨y,rest⟩
  ·exfalso;simp_all
  refine Walk.idx sl48 .none rfl rfl rfl rfl (zaG hg1) rfl ?_
  refine ev ?_
  refine Walk.sliceLit zdp tz57 rfl (by decide) (ks:=[0]) (xs:=[_]) rfl rfl (by decide) (by decide) .none rfl rfl rfl rfl ?_
  refine Walk.append zdp zz57 rfl .none rfl rfl rfl rfl (zaz rfl (by first|rfl|(simp;done)|(simp;omega))) (by simp) (by have hz:=congrArg List.length hg1;simp at hz ⊢;omega) (by have hz:=congrArg List.length hg1;simp at hz ⊢;omega) ?_
  refine ev ?_
  refine ar ?_
  refine Exists.intro ((pre++[y],rest)) ⟨(by have hz:=hg1;rw[←hz];simp),(by simp),Sub.x (by kernel_rfl) (by kernel_rfl) ⟨⟨_,rfl,(LeA.eqi (by first|rfl|(simp;done)))⟩,⟨⟨_,rfl,(LeA.glg (by first|rfl|(simp;done)))⟩,trivial⟩⟩ (by kernel_rfl) (by kernel_rfl) ⟨zab (by first|rfl|(simp;done)|(simp;omega)|(first|rfl|(simp;done))),trivial⟩⟩
 ·try simp only[Q] at h1p
  have hrest:rest=[]:=by
   rcases rest with _|⟨a,b⟩
   ·rfl
   ·exfalso;have hz:=congrArg List.length (hg1);simp only[List.length_append,List.length_cons,List.length_map] at hz;omega
  subst hrest
  refine rn0 (r1 rfl) (.gld ?_)
  all_goals (first|rfl|(rw[List.append_nil] at hg1;subst hg1;simp;done))
end Go.Proofs.YtfiihhedihkdoaaGreat
