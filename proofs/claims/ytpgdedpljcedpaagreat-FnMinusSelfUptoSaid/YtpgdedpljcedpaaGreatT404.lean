/-
  THE ABSTRACT WALK AND THE WALKS, part 4 of 7: the parts F71, F72, F74, F75, F76, F77, F78, F18, F19, F31, F32, F33, F34, F35, F36, F37, F38, F79, F59, F80, F60, F61, F30, F63.
-/
import Derived.Test.YtpgdedpljcedpaaGreatT403
namespace Go.Proofs.YtpgdedpljcedpaaGreat
open Go
set_option linter.unusedSimpArgs false
set_option linter.unusedVariables false
set_option maxRecDepth 100000
set_option maxHeartbeats 2000000
theorem Pat.cs_cd (l:List Pat):Pat.cs l=l.map Pat.cc:=by
 rw[Pat.cs_eq];exact List.map_congr_left (fun v _=>Pat.c_eq v)
theorem za5 (l:List Pat):∀x∈Pat.cs l,x.length=6:=Pat.cs_rows
theorem zbD (l:List Pat):∀x∈l.map Pat.cc,x.length=6:=fun x hx=>by
 obtain⟨y,_,rfl⟩:=List.mem_map.1 hx;rfl
theorem zqu {p:Pat} (h:p.op=2):zas p=anyQ:=by rw[zbl,if_pos h]
theorem zqv {p:Pat} (h:p.op=6) (h2:0<p.kids.length):zas p=zas (nth p.kids 0):=by
 rw[zbl,if_neg (by omega),if_pos ⟨h,fun e=>by rw[e] at h2;simp at h2⟩]
theorem zqw {p:Pat} (h:p.op≠2) (h2:¬(p.op=6∧0<p.kids.length)):zas p = .mk p.op p.ctor p.n p.m p.var (p.kids.map zas):=by
 rw[zbl,if_neg h,if_neg (fun hh=>h2 ⟨hh.1,List.length_pos_iff.2 hh.2⟩)]
theorem zfV:∀(n:Nat){p:Pat},p.size≤n→p.ok→FnD Tryz.prog 153 [.agg [.d (.i p.op),.d (.i p.ctor),.d (.i p.n),.d (.i p.m),.d (.i p.var),.d (zac p.kids)]] [] (.agg [.d (.i p.op),.d (.i p.ctor),.d (.i p.n),.d (.i p.m),.d (.i p.var),.d (zac p.kids)]) []
 |0,p,h,_=>by rw[Pat.size_eq] at h;omega
 |n+1,p,h,hok=>by
  rw[Pat.size_eq] at h
  rw[Pat.ok_iff] at hok
  have hok1:=hok.1
  refine bd Tryz.f153 24 [] [] fun w0 F0 own kept hk=>?_
  refine bx 3001 ?_
  refine ab 3002 tz28 ?_
  refine tv ?_
  refine so ty26 ?_
  refine tv ?_
  refine CWp.tokB 3001 5 7 6 rfl rfl rfl rfl ?_
  refine CWp.loopX (ι:=List (Pat)×List (Pat)) hk (fun x=>[(11,.d (.i (x.1.length:Int)))]) [5,12,13,14,15,16,17,18,19,20,21,22] (fun x=>[(3001,some (.box [.d (.i p.op),.d (.i p.ctor),.d (.i p.n),.d (.i p.m),.d (.i p.var),.gl 7 (x.1.map Pat.cc)])),(7,some (.tok (x.1.map Pat.cc).length 6))]) (fun x=>x.1++x.2=p.kids) (fun x=>x.2.length) ([],p.kids) (by simp) ⟨⟨_,rfl,LeA.eqi ?_⟩,trivial⟩ ⟨?_,⟨zab ?_,trivial⟩⟩ (fun x=>rfl) (fun x hg1=>?_)
  focus (first|rfl|(simp;done)|(simp_all;done)|omega|(simp;omega))
  focus (first|rfl|(simp[getH];done))
  focus (first|rfl|(simp;done)|(simp_all;done)|omega|(simp;omega))
  obtain⟨pre,rest⟩:=x
  dsimp only at hg1 ⊢
  refine evc [] [] ?_
  refine sq (fun h1 h1p h1s=>?_) fun h1 h1p h1s=>?_
  try simp only[Q,Pat.cs_len] at h1p
  rcases rest with _|⟨y,rest⟩
  ·exfalso;simp_all
  refine Walk.idx sl26 .none rfl rfl rfl rfl (Pat.cs_at' hg1) rfl ?_
  refine ev ?_
  refine ab 3005 tz28 ?_
  refine so ty28 ?_
  refine tv ?_
  refine wc zrZ (zfV n (p:=y) (by have:=Pats.size_mem (l:=p.kids) (v:=y) (by rw[←hg1];simp);omega) (Pats.ok_mem hok.2 y (by rw[←hg1];simp))) rfl rfl ?_
  refine si [0] [_] sl26 tz28 ?_
  refine ap sl26 zz28 rfl rfl rfl (by intro x hx;first|(simp at hx;subst hx;rfl)|exact zbD _ x hx) (by have:=congrArg List.length hg1;simp at this;simp;omega) ?_
  refine evd [] [] ?_
  refine so ty26 ?_
  refine dr ?_
  refine ar ?_
  refine Exists.intro ((pre++[y],rest)) ⟨(by have hz:=hg1;rw[←hz];simp),(by simp),sx ⟨⟨_,rfl,LeA.eqi ?_⟩,trivial⟩ ⟨?_,⟨zab ?_,trivial⟩⟩⟩
  focus (first|rfl|(simp;done)|(simp_all;done)|omega|(simp;omega))
  focus (first|rfl|(simp[getH];done))
  focus (first|rfl|(simp;done)|(simp_all;done)|omega|(simp;omega))
  try simp only[Q,Pat.cs_len] at h1p
  have hrest:rest=[]:=by
   rcases rest with _|⟨a,b⟩
   ·rfl
   ·exfalso;have hz:=congrArg List.length (hg1);simp only[List.length_append,List.length_cons,List.length_map] at hz;omega
  subst hrest
  refine so ty28 ?_
  refine tv ?_
  refine rn0 (.cons (.cellA ty28 rfl rfl rfl) .nil) (.agg (.cons (.eqd ?_) (.cons (.eqd ?_) (.cons (.eqd ?_) (.cons (.eqd ?_) (.cons (.eqd ?_) (.cons (.gld ?_) .nil)))))))
  rotate_left 6
  all_goals (first|rfl|(rw[List.append_nil] at hg1;rw[←hg1,Pat.cs_cd];done))
theorem zi1 {l:List Pat} (h:l.length≤1000000000000) (hok:∀p∈l,p.ok):FnD Tryz.prog 96 [.d (zac l)] [] (.d (zac l)) []:=by
 refine bd Tryz.f96 19 [3] [] fun w0 F0 own kept hk=>?_
 refine Walk.assignNil 1 6 .none rfl rfl ?_
 refine tv ?_
 refine CWp.loopX (ι:=List (Pat)×List (Pat)) hk (fun x=>[(8,.d (.i (x.1.length:Int))),(3,.gl 1 (x.1.map Pat.cc))]) [5,9,10,11,12,13,14,15,16,17] (fun x=>[(1,some (.tok ((x.1.map Pat.cc)).length 6))]) (fun x=>x.1++x.2=l) (fun x=>x.2.length) ([],l) (by simp) ⟨⟨_,rfl,LeA.eqi ?_⟩,⟨⟨_,rfl,LeA.glg ?_⟩,trivial⟩⟩ ⟨zab ?_,trivial⟩ (fun x=>rfl) (fun x hg1=>?_)
 iterate 3 focus (first|rfl|(simp;done)|(simp_all;done)|omega|(simp;omega))
 obtain⟨pre,rest⟩:=x
 dsimp only at hg1 ⊢
 refine evc [3] [] ?_
 refine sq (fun h1 h1p h1s=>?_) fun h1 h1p h1s=>?_
 try simp only[Q,Pat.cs_len] at h1p
 rcases rest with _|⟨y,rest⟩
 ·exfalso;simp_all
 refine Walk.idx sl26 .none rfl rfl rfl rfl (Pat.cs_at' hg1) rfl ?_
 refine evs [3] [] ?_
 refine ab 3005 tz28 ?_
 refine so ty28 ?_
 refine tv ?_
 refine wc zrZ (zfV _ (Nat.le_refl _) (hok y (by rw[←hg1];simp))) rfl rfl ?_
 refine si [0] [_] sl26 tz28 ?_
 refine ap sl26 zz28 rfl rfl rfl (by intro x hx;simp at hx;subst hx;rfl) (by have:=congrArg List.length hg1;simp at this;simp;omega) ?_
 refine asg ?_
 refine tv ?_
 refine ar ?_
 refine Exists.intro ((pre++[y],rest)) ⟨(by have hz:=hg1;rw[←hz];simp),(by simp),sx ⟨⟨_,rfl,LeA.eqi ?_⟩,⟨⟨_,rfl,LeA.glg ?_⟩,trivial⟩⟩ ⟨zab ?_,trivial⟩⟩
 iterate 3 focus (first|rfl|(simp;done)|(simp_all;done)|omega|(simp;omega))
 try simp only[Q,Pat.cs_len] at h1p
 have hrest:rest=[]:=by
  rcases rest with _|⟨a,b⟩
  ·rfl
  ·exfalso;have hz:=congrArg List.length (hg1);simp only[List.length_append,List.length_cons,List.length_map] at hz;omega
 subst hrest
 refine rn0 (r1 rfl) (.gld ?_)
 rotate_left
 all_goals (first|rfl|(rw[List.append_nil] at hg1;rw[←hg1,Pat.cs_cd];done))
theorem zfU:FnD Tryz.prog 186 [] [] (.agg [.d (.i 1),.d (.i 0),.d (.i 0),.d (.i 0),.d (.i 0),.d (.sl [])]) []:=by
 refine bd Tryz.f186 2 [] [] fun w0 F0 own kept hk=>?_
 refine ab 3000 tz28 ?_
 refine tv ?_
 refine bu [0] [_] st28 ?_
 refine so ty28 ?_
 refine tv ?_
 focus (refine rn0 (.cons (.cellA ty28 rfl rfl rfl) .nil) (.agg (.cons (.eqd ?_) (.cons (.eqd ?_) (.cons (.eqd ?_) (.cons (.eqd ?_) (.cons (.eqd ?_) (.cons (.nild ?_) .nil)))))));all_goals (first|rfl|(simp[];done)|(simp_all;done)|(simp_all;omega)|omega))
theorem zc7:∀(n:Nat){p:Pat},p.size≤n→p.ok→FnD Tryz.prog 139 [.agg [.d (.i p.op),.d (.i p.ctor),.d (.i p.n),.d (.i p.m),.d (.i p.var),.d (zac p.kids)]] [] (.agg [.d (.i (zas p).op),.d (.i (zas p).ctor),.d (.i (zas p).n),.d (.i (zas p).m),.d (.i (zas p).var),.d (zac (zas p).kids)]) []
 |0,p,h,_=>by rw[Pat.size_eq] at h;omega
 |n+1,p,h,hok=>by
  rw[Pat.size_eq] at h
  rw[Pat.ok_iff] at hok
  have hok1:=hok.1
  by_cases h2:p.op=2
  ·rw[zqu h2]
   refine bd Tryz.f139 44 [] [] fun w0 F0 own kept hk=>?_
   refine bx 3001 ?_
   refine ab 3002 tz28 ?_
   refine tv ?_
   refine sq (fun h1 h1p h1s=>?_) fun h1 h1p h1s=>?_
   try simp only[Q] at h1p
   refine wc zr6 (zfU) rfl rfl ?_
   refine so ty28 ?_
   refine tv ?_
   refine rn0 (.cons (.cellA ty28 rfl rfl rfl) .nil) (.agg (.cons (.eqd ?_) (.cons (.eqd ?_) (.cons (.eqd ?_) (.cons (.eqd ?_) (.cons (.eqd ?_) (.cons (.eqd ?_) .nil)))))))
   rotate_left 6
   try simp only[Q] at h1p
   exfalso;omega
   all_goals (rfl)
  by_cases h6:p.op=6∧0<p.kids.length
  ·rw[zqv h6.1 h6.2]
   refine bd Tryz.f139 44 [] [] fun w0 F0 own kept hk=>?_
   refine bx 3001 ?_
   refine ab 3002 tz28 ?_
   refine tv ?_
   refine sq (fun h1 h1p h1s=>?_) fun h1 h1p h1s=>?_
   try simp only[Q,Pat.cs_len] at h1p
   exfalso;omega
   try simp only[Q,Pat.cs_len] at h1p
   refine sq (fun h2 h2p h2s=>?_) fun h2 h2p h2s=>?_
   try simp only[Q,Pat.cs_len] at h2p
   refine sq (fun h3 h3p h3s=>?_) fun h3 h3p h3s=>?_
   try simp only[Q,Pat.cs_len] at h3p
   refine Walk.idx (i:=0) sl26 .none rfl rfl rfl rfl (zaI h6.2) rfl ?_
   refine ev ?_
   refine wc zjf (zc7 n (p:=nth p.kids 0) (by have:=Pats.size_mem (zag h6.2);omega) (Pats.ok_mem hok.2 _ (zag h6.2))) rfl rfl ?_
   refine so ty28 ?_
   refine tv ?_
   refine rn0 (.cons (.cellA ty28 rfl rfl rfl) .nil) (.agg (.cons (.eqd ?_) (.cons (.eqd ?_) (.cons (.eqd ?_) (.cons (.eqd ?_) (.cons (.eqd ?_) (.cons (.eqd ?_) .nil)))))))
   rotate_left 6
   try simp only[Q,Pat.cs_len] at h3p
   focus (exfalso;first|omega|(simp_all;done))
   try simp only[Q,Pat.cs_len] at h2p
   exfalso;omega
   all_goals (rfl)
  ·rw[zqw h2 h6]
   refine bd Tryz.f139 44 [] [] fun w0 F0 own kept hk=>?_
   refine bx 3001 ?_
   refine ab 3002 tz28 ?_
   refine tv ?_
   refine sq (fun h1 h1p h1s=>?_) fun h1 h1p h1s=>?_
   try simp only[Q,Pat.cs_len] at h1p
   exfalso;omega
   try simp only[Q,Pat.cs_len] at h1p
   refine sq (fun h2 h2p h2s=>?_) fun h2 h2p h2s=>?_
   try simp only[Q,Pat.cs_len] at h2p
   refine sq (fun h3 h3p h3s=>?_) fun h3 h3p h3s=>?_
   try simp only[Q,Pat.cs_len] at h3p
   focus (exfalso;apply h6;first|omega|(simp_all;done))
   try simp only[Q,Pat.cs_len] at h3p
   refine so ty26 ?_
   refine tv ?_
   refine CWp.tokB 3001 5 7 6 rfl rfl rfl rfl ?_
   refine CWp.loopX (ι:=List (Pat)×List (Pat)) hk (fun x=>[(31,.d (.i (x.1.length:Int)))]) [5,32,33,34,35,36,37,38,39,40,41,42] (fun x=>[(3001,some (.box [.d (.i p.op),.d (.i p.ctor),.d (.i p.n),.d (.i p.m),.d (.i p.var),.gl 7 ((x.1.map zas).map Pat.cc)])),(7,some (.tok ((x.1.map zas).map Pat.cc).length 6))]) (fun x=>x.1++x.2=p.kids) (fun x=>x.2.length) ([],p.kids) (by simp) ⟨⟨_,rfl,LeA.eqi ?_⟩,trivial⟩ ⟨?_,⟨zab ?_,trivial⟩⟩ (fun x=>rfl) (fun x hg1=>?_)
   focus (first|rfl|(simp;done)|(simp_all;done)|omega|(simp;omega))
   focus (first|rfl|(simp[getH];done))
   focus (first|rfl|(simp;done)|(simp_all;done)|omega|(simp;omega))
   obtain⟨pre,rest⟩:=x
   dsimp only at hg1 ⊢
   refine evc [] [] ?_
   refine sq (fun h4 h4p h4s=>?_) fun h4 h4p h4s=>?_
   try simp only[Q,Pat.cs_len] at h4p
   rcases rest with _|⟨y,rest⟩
   ·exfalso;simp_all
   refine Walk.idx sl26 .none rfl rfl rfl rfl (Pat.cs_at' hg1) rfl ?_
   refine ev ?_
   refine ab 3005 tz28 ?_
   refine so ty28 ?_
   refine tv ?_
   refine wc zjf (zc7 n (p:=y) (by have:=Pats.size_mem (l:=p.kids) (v:=y) (by rw[←hg1];simp);omega) (Pats.ok_mem hok.2 y (by rw[←hg1];simp))) rfl rfl ?_
   refine si [0] [_] sl26 tz28 ?_
   refine ap sl26 zz28 rfl rfl rfl (by intro x hx;first|(simp at hx;subst hx;rfl)|exact zbD _ x hx) (by have:=congrArg List.length hg1;simp at this;simp;omega) ?_
   refine evd [] [] ?_
   refine so ty26 ?_
   refine dr ?_
   refine ar ?_
   refine Exists.intro ((pre++[y],rest)) ⟨(by have hz:=hg1;rw[←hz];simp),(by simp),sx ⟨⟨_,rfl,LeA.eqi ?_⟩,trivial⟩ ⟨?_,⟨zab ?_,trivial⟩⟩⟩
   focus (first|rfl|(simp;done)|(simp_all;done)|omega|(simp;omega))
   focus (first|rfl|(simp[getH];done))
   focus (first|rfl|(simp;done)|(simp_all;done)|omega|(simp;omega))
   try simp only[Q,Pat.cs_len] at h4p
   have hrest:rest=[]:=by
    rcases rest with _|⟨a,b⟩
    ·rfl
    ·exfalso;have hz:=congrArg List.length (hg1);simp only[List.length_append,List.length_cons,List.length_map] at hz;omega
   subst hrest
   refine so ty28 ?_
   refine tv ?_
   refine rn0 (.cons (.cellA ty28 rfl rfl rfl) .nil) (.agg (.cons (.eqd ?_) (.cons (.eqd ?_) (.cons (.eqd ?_) (.cons (.eqd ?_) (.cons (.eqd ?_) (.cons (.gld ?_) .nil)))))))
   rotate_left 6
   try simp only[Q,Pat.cs_len] at h2p
   refine sqF ?_
   refine so ty26 ?_
   refine tv ?_
   refine CWp.tokB 3001 5 7 6 rfl rfl rfl rfl ?_
   refine CWp.loopX (ι:=List (Pat)×List (Pat)) hk (fun x=>[(31,.d (.i (x.1.length:Int)))]) [5,32,33,34,35,36,37,38,39,40,41,42] (fun x=>[(3001,some (.box [.d (.i p.op),.d (.i p.ctor),.d (.i p.n),.d (.i p.m),.d (.i p.var),.gl 7 ((x.1.map zas).map Pat.cc)])),(7,some (.tok ((x.1.map zas).map Pat.cc).length 6))]) (fun x=>x.1++x.2=p.kids) (fun x=>x.2.length) ([],p.kids) (by simp) ⟨⟨_,rfl,LeA.eqi ?_⟩,trivial⟩ ⟨?_,⟨zab ?_,trivial⟩⟩ (fun x=>rfl) (fun x hg1=>?_)
   focus (first|rfl|(simp;done)|(simp_all;done)|omega|(simp;omega))
   focus (first|rfl|(simp[getH];done))
   focus (first|rfl|(simp;done)|(simp_all;done)|omega|(simp;omega))
   obtain⟨pre,rest⟩:=x
   dsimp only at hg1 ⊢
   refine evc [] [] ?_
   refine sq (fun h6 h6p h6s=>?_) fun h6 h6p h6s=>?_
   try simp only[Q,Pat.cs_len] at h6p
   rcases rest with _|⟨y,rest⟩
   ·exfalso;simp_all
   refine Walk.idx sl26 .none rfl rfl rfl rfl (Pat.cs_at' hg1) rfl ?_
   refine ev ?_
   refine ab 3005 tz28 ?_
   refine so ty28 ?_
   refine tv ?_
   refine wc zjf (zc7 n (p:=y) (by have:=Pats.size_mem (l:=p.kids) (v:=y) (by rw[←hg1];simp);omega) (Pats.ok_mem hok.2 y (by rw[←hg1];simp))) rfl rfl ?_
   refine si [0] [_] sl26 tz28 ?_
   refine ap sl26 zz28 rfl rfl rfl (by intro x hx;first|(simp at hx;subst hx;rfl)|exact zbD _ x hx) (by have:=congrArg List.length hg1;simp at this;simp;omega) ?_
   refine evd [] [] ?_
   refine so ty26 ?_
   refine dr ?_
   refine ar ?_
   refine Exists.intro ((pre++[y],rest)) ⟨(by have hz:=hg1;rw[←hz];simp),(by simp),sx ⟨⟨_,rfl,LeA.eqi ?_⟩,trivial⟩ ⟨?_,⟨zab ?_,trivial⟩⟩⟩
   focus (first|rfl|(simp;done)|(simp_all;done)|omega|(simp;omega))
   focus (first|rfl|(simp[getH];done))
   focus (first|rfl|(simp;done)|(simp_all;done)|omega|(simp;omega))
   try simp only[Q,Pat.cs_len] at h6p
   have hrest:rest=[]:=by
    rcases rest with _|⟨a,b⟩
    ·rfl
    ·exfalso;have hz:=congrArg List.length (hg1);simp only[List.length_append,List.length_cons,List.length_map] at hz;omega
   subst hrest
   refine so ty28 ?_
   refine tv ?_
   refine rn0 (.cons (.cellA ty28 rfl rfl rfl) .nil) (.agg (.cons (.eqd ?_) (.cons (.eqd ?_) (.cons (.eqd ?_) (.cons (.eqd ?_) (.cons (.eqd ?_) (.cons (.gld ?_) .nil)))))))
   rotate_left 6
   all_goals (first|rfl|(rw[List.append_nil] at hg1;rw[←hg1,Pat.cs_cd];done)|(rw[List.append_nil] at hg1;subst hg1;rw[←Pat.cs_cd];all_goals rfl))
theorem zd9:∀(n:Nat){p:Pat},p.size≤n→p.ok→FnD Tryz.prog 140 [.agg [.d (.i p.op),.d (.i p.ctor),.d (.i p.n),.d (.i p.m),.d (.i p.var),.d (zac p.kids)]] [] (.d (.i (cntS p))) []
 |0,p,h,_=>by rw[Pat.size_eq] at h;omega
 |n+1,p,h,hok=>by
  rw[Pat.size_eq] at h
  rw[Pat.ok_iff] at hok
  have hok1:=hok.1
  have hbd:=fun i=>zmG (nth p.kids i)
  by_cases h5:p.op=5
  ·rw[zmH,if_pos h5]
   refine bd Tryz.f140 31 [] [] fun w0 F0 own kept hk=>?_
   refine bx 3001 ?_
   refine ev ?_
   refine sq (fun h1 h1p h1s=>?_) fun h1 h1p h1s=>?_
   try simp only[Q,Pat.cs_len] at h1p
   refine CWp.loopX (ι:=Nat×Int) hk (fun x=>[(12,.d (.i (x.1:Int))),(3,.d (.i x.2))]) [5,13,14,15,16,17,18,19,20,21,22,23,24,25,26,27,28,29] (fun x=>[]) (fun x=>x.1≤p.kids.length∧cntO (p.kids.drop x.1) x.2=cntO p.kids 0∧0≤x.2∧x.2≤401) (fun x=>p.kids.length-x.1) (0,0) ⟨by simp,rfl,by simp,by simp⟩ ⟨⟨_,rfl,LeA.eqi ?_⟩,⟨⟨_,rfl,LeA.eqi ?_⟩,trivial⟩⟩ trivial (fun x=>rfl) (fun x hg1=>?_)
   iterate 2 focus (first|rfl|(dsimp only;omega)|(simp;done))
   refine evc [] [] ?_
   refine sq (fun h2 h2p h2s=>?_) fun h2 h2p h2s=>?_
   try simp only[Q,Pat.cs_len] at h2p
   refine Walk.idx sl26 .none rfl rfl rfl rfl (zaI (by omega)) rfl ?_
   refine ev ?_
   refine ab 3005 tz28 ?_
   refine so ty28 ?_
   refine tv ?_
   refine sq (fun h3 h3p h3s=>?_) fun h3 h3p h3s=>?_
   try simp only[Q,Pat.cs_len] at h3p
   refine wc zlo (zd9 n (p:=nth p.kids x.1) (by have:=Pats.size_mem (zag (l:=p.kids) (i:=x.1) (by omega));omega) (Pats.ok_mem hok.2 _ (zag (by omega)))) rfl rfl ?_
   refine ev ?_
   refine ar ?_ (by first|(constructor<;>omega)|(have hb:=hbd x.1;constructor<;>omega)|(constructor<;>simp[Pat.cs_len]<;>omega))
   refine Walk.minI .none rfl rfl rfl ?_
   refine ev ?_
   refine ar ?_ (by first|(constructor<;>omega)|(have hb:=hbd x.1;constructor<;>omega)|(constructor<;>simp[Pat.cs_len]<;>omega))
   refine Exists.intro ((x.1+1,cap (x.2+cntS (nth p.kids x.1)))) ⟨(by
        have hb:=hbd x.1
        have hc:=zlv (x:=x.2+cntS (nth p.kids x.1)) (by omega)
        exact⟨by dsimp only;omega,by dsimp only;rw[←zsf (by omega)];exact hg1.2.1,hc.1,hc.2⟩),(by dsimp only;omega),sx ⟨⟨_,rfl,LeA.eqi ?_⟩,⟨⟨_,rfl,LeA.eqi ?_⟩,trivial⟩⟩ trivial⟩
   iterate 2 focus (first|rfl|(dsimp only;omega)|(simp;done))
   try simp only[Q,Pat.cs_len] at h3p
   exfalso;omega
   try simp only[Q,Pat.cs_len] at h2p
   refine rn0 (r1 rfl) (.eqd ?_)
   rotate_left
   try simp only[Q,Pat.cs_len] at h1p
   exfalso;omega
   all_goals (refine congrArg D.i ?_;rw[←hg1.2.1,List.drop_eq_nil_of_le (by omega)];rfl)
  ·rw[zmH,if_neg h5]
   refine bd Tryz.f140 31 [] [] fun w0 F0 own kept hk=>?_
   refine bx 3001 ?_
   refine ev ?_
   refine sq (fun h1 h1p h1s=>?_) fun h1 h1p h1s=>?_
   try simp only[Q,Pat.cs_len] at h1p
   exfalso;omega
   try simp only[Q,Pat.cs_len] at h1p
   refine CWp.loopX (ι:=Nat×Int) hk (fun x=>[(12,.d (.i (x.1:Int))),(3,.d (.i x.2))]) [5,13,14,15,16,17,18,19,20,21,22,23,24,25,26,27,28,29] (fun x=>[]) (fun x=>x.1≤p.kids.length∧cntM (p.kids.drop x.1) x.2=cntM p.kids 1∧0≤x.2∧x.2≤401) (fun x=>p.kids.length-x.1) (0,1) ⟨by simp,rfl,by simp,by simp⟩ ⟨⟨_,rfl,LeA.eqi ?_⟩,⟨⟨_,rfl,LeA.eqi ?_⟩,trivial⟩⟩ trivial (fun x=>rfl) (fun x hg1=>?_)
   iterate 2 focus (first|rfl|(dsimp only;omega)|(simp;done))
   refine evc [] [] ?_
   refine sq (fun h2 h2p h2s=>?_) fun h2 h2p h2s=>?_
   try simp only[Q,Pat.cs_len] at h2p
   refine Walk.idx sl26 .none rfl rfl rfl rfl (zaI (by omega)) rfl ?_
   refine ev ?_
   refine ab 3005 tz28 ?_
   refine so ty28 ?_
   refine tv ?_
   refine sq (fun h3 h3p h3s=>?_) fun h3 h3p h3s=>?_
   try simp only[Q,Pat.cs_len] at h3p
   exfalso;omega
   try simp only[Q,Pat.cs_len] at h3p
   refine wc zlo (zd9 n (p:=nth p.kids x.1) (by have:=Pats.size_mem (zag (l:=p.kids) (i:=x.1) (by omega));omega) (Pats.ok_mem hok.2 _ (zag (by omega)))) rfl rfl ?_
   refine ev ?_
   refine ar ?_ (by first|(constructor<;>omega)|(have hb:=hbd x.1;have h3:=Int.mul_le_mul hg1.2.2.2 hb.2 hb.1 (by omega);have h4:=Int.mul_nonneg hg1.2.2.1 hb.1;constructor<;>omega)|(constructor<;>simp[Pat.cs_len]<;>omega))
   refine Walk.minI .none rfl rfl rfl ?_
   refine ev ?_
   refine ar ?_ (by first|(constructor<;>omega)|(have hb:=hbd x.1;have h3:=Int.mul_le_mul hg1.2.2.2 hb.2 hb.1 (by omega);have h4:=Int.mul_nonneg hg1.2.2.1 hb.1;constructor<;>omega)|(constructor<;>simp[Pat.cs_len]<;>omega))
   refine Exists.intro ((x.1+1,cap (x.2*cntS (nth p.kids x.1)))) ⟨(by
        have hb:=hbd x.1
        have hc:=zlv (x:=x.2*cntS (nth p.kids x.1)) (Int.mul_nonneg hg1.2.2.1 hb.1)
        exact⟨by dsimp only;omega,by dsimp only;rw[←zse (by omega)];exact hg1.2.1,hc.1,hc.2⟩),(by dsimp only;omega),sx ⟨⟨_,rfl,LeA.eqi ?_⟩,⟨⟨_,rfl,LeA.eqi ?_⟩,trivial⟩⟩ trivial⟩
   iterate 2 focus (first|rfl|(dsimp only;omega)|(simp;done))
   try simp only[Q,Pat.cs_len] at h2p
   refine rn0 (r1 rfl) (.eqd ?_)
   rotate_left
   all_goals (refine congrArg D.i ?_;rw[←hg1.2.1,List.drop_eq_nil_of_le (by omega)];rfl)
theorem zfq {xs:List Pat} (hs:xs.length≤1000000000000):FnD Tryz.prog 147 [.d (zac xs)] [] (.gl 77 (Pat.cs xs)) [(77,some (.tok (Pat.cs xs).length 6))]:=by
 refine Fn.body (fn:=Tryz.f147) (n:=8) rfl rfl rfl rfl rfl (fun w0 F0 own kept hk=>?_)
 refine CWp.splitNil 0 rfl (fun hx0=>?_) ?_
 refine evc [2,4] [] ?_
 refine asg ?_
 refine tv ?_
 refine Walk.eqNilT sl26 .none rfl rfl ?_
 refine tv ?_
 refine sqT ?_
 refine Walk.assignNil 77 6 .none rfl rfl ?_
 refine tv ?_
 refine rn [(77,some (.tok (Pat.cs xs).length 6))] (r1 rfl) (.glg ?_) ⟨rfl,rfl⟩ (SubH.get ⟨?_,trivial⟩) (zaG rfl)
 rotate_left 2
 refine evc [2,4] [] ?_
 refine asg ?_
 refine tv ?_
 refine Walk.eqNilF sl26 .none rfl rfl ?_
 refine tv ?_
 refine sqF ?_
 refine Walk.sliceEmptyG 77 sl26 .none rfl rfl ?_
 refine evs [2,4] [] ?_
 refine ap sl26 zz28 rfl rfl rfl (by intro y hy;rw[Pat.cs_cd] at hy;obtain⟨z,_,rfl⟩:=List.mem_map.1 hy;rfl) (by simp[Pat.cs_len];omega) ?_
 refine asg ?_
 refine tv ?_
 refine rn [(77,some (.tok (Pat.cs xs).length 6))] (r1 rfl) (.glg ?_) ⟨rfl,rfl⟩ (SubH.get ⟨?_,trivial⟩) (zaG rfl)
 rotate_left 2
 all_goals (first|((first|rfl|exact hx0.symm|(simp;done));done)|(first|rfl|(simp[hx0];rfl)|(simp;rfl)))
def zcN (C:List Pat) (q:Pat):List Pat:=C.map fun c=> .mk q.op q.ctor q.n q.m q.var (q.kids++[c])
theorem zrw {ls:List (List Pat)}{C:List Pat}{a b c d e:Int}:((zd2 ls).map (fun l=>Pat.mk a b c d e l)).flatMap (zcN C)=(zd2 (ls++[C])).map (fun l=>Pat.mk a b c d e l):=by
 rw[zrH]
 unfold zbd zcN
 rw[List.flatMap_map,List.map_flatMap]
 congr 1
 funext q
 simp[zb1,zdV,mk_n,mk_m,zfe,za0]
def zcg (p:Pat) (i:Nat):List Pat:=(zd2 ((p.kids.take i).map zap)).map fun l=>Pat.mk p.op p.ctor p.n p.m p.var l
theorem zta (p:Pat):zcg p 0=[.mk p.op p.ctor p.n p.m p.var []]:=by unfold zcg;simp[zd2]
theorem zqg {p:Pat}{i:Nat} (h:i<p.kids.length):(zcg p i).flatMap (zcN (zap (nth p.kids i)))=zcg p (i+1):=by
 unfold zcg
 rw[zrw,List.take_succ_eq_append_getElem h,List.map_append,←zaJ h];rfl
theorem zru {p:Pat}{i:Nat} (h5:p.op≠5) (h:p.kids.length≤i):zcg p i=zap p:=by
 unfold zcg;rw[zc4 h5,List.take_of_length_le h]
theorem zrv {n:Nat}{p:Pat} (h:binP (n+1) p=true) (h5:p.op≠5) (i:Nat):(zcg p i).length≤(zap p).length:=by
 unfold zcg;rw[List.length_map];exact zqo h h5 i
theorem zqf {p:Pat}{i:Nat}{q:Pat} (h:q∈zcg p i):q.kids.length≤p.kids.length:=by
 unfold zcg at h
 obtain⟨l,hl,rfl⟩:=List.mem_map.1 h
 obtain⟨q0,hq,r,e,hlr,_⟩:=zhr _ _ _ hl
 rw[List.mem_singleton] at hq
 rw[hq,List.nil_append] at e
 rw[za0,e,hlr];simp;omega
theorem zjs {α β:Type}{f:α→List β}{k:Nat} (hf:∀x,(f x).length≤k):∀l:List α,(l.flatMap f).length≤l.length*k
 | []=>by simp
 |x::r=>by
  rw[List.flatMap_cons,List.length_append,List.length_cons,Nat.succ_mul]
  have:=hf x;have:=zjs hf r;omega
theorem zeE:∀(n:Nat){p:Pat},binP n p=true→p.ok→(zap p).length≤40→FnD Tryz.prog 141 [.agg [.d (.i p.op),.d (.i p.ctor),.d (.i p.n),.d (.i p.m),.d (.i p.var),.d (zac p.kids)]] [] (.gl 9 (Pat.cs (zap p))) [(9,some (.tok (Pat.cs (zap p)).length 6))]
 |0,p,h,_,_=>by simp[binP] at h
 |n+1,p,h,hok,hlen=>by
  have hok':=(Pat.ok_iff p).1 hok
  have hok1:=hok'.1
  by_cases h5:p.op=5
  ·have hl:=zj1 h h5
   have e5:=zdu h5 hl
   have l0:=zhz h (i:=0) (by omega)
   have l1:=zhz h (i:=1) (by omega)
   have c0:=zeE n (zdU h (i:=0) (by omega)) (Pats.ok_mem hok'.2 _ (zag (by omega))) (by omega)
   have c1:=FnD.glD (zeE n (zdU h (i:=1) (by omega)) (Pats.ok_mem hok'.2 _ (zag (by omega))) (by omega))
   rw[e5]
   refine bd Tryz.f141 70 [] [] fun w0 F0 own kept hk=>?_
   refine bx 3001 ?_
   refine ev ?_
   refine sq (fun h1 h1p h1s=>?_) fun h1 h1p h1s=>?_
   try simp only[Q,Pat.cs_len] at h1p
   refine Walk.idx (i:=0) sl26 .none rfl rfl rfl rfl (zaI (by omega)) rfl ?_
   refine evd [] [] ?_
   refine Walk.call (cr:=[9]) zlp (c0) rfl .none rfl rfl (LeL.refl _) trivial rfl rfl rfl ?_
   refine evd [] [] ?_
   refine Walk.idx (i:=1) sl26 .none rfl rfl rfl rfl (zaI (by omega)) rfl ?_
   refine evd [] [] ?_
   refine wc zlp (c1) rfl rfl ?_
   refine ap sl26 zz28 rfl rfl rfl (by intro x hx;exact za5 _ x hx) (by simp[Pat.cs_len];omega) ?_
   refine evd [] [] ?_
   refine dr ?_
   refine rn [(9,some (.tok (Pat.cs (zap (nth p.kids 0)++zap (nth p.kids 1))).length 6))] (r1 rfl) (.glg ?_) ⟨rfl,rfl⟩ (SubH.get ⟨?_,trivial⟩) (zaG rfl)
   rotate_left 2
   try simp only[Q,Pat.cs_len] at h1p
   exfalso;omega
   all_goals (first|((first|rfl|(simp[Pat.cs_cd];done));done)|(first|rfl|(simp[Pat.cs_cd];rfl)))
  ·have hfl:=zrv h h5
   have hfk:=fun(i:Nat) (q:Pat) (hq:q∈zcg p i)=>zqf hq
   have hf0:=zta p
   have hfe:=fun(i:Nat) (hi:p.kids.length≤i)=>zru h5 hi
   have hfn:=fun(i:Nat) (hi:i<p.kids.length)=>zqg hi
   have hcal:=fun(i:Nat) (hi:i<p.kids.length)=>FnD.glD (zeE n (zdU h hi) (Pats.ok_mem hok'.2 _ (zag hi)) (by have:=zhz h hi;omega))
   have hcl:=fun(i:Nat) (hi:i<p.kids.length)=>zhz h hi
   have hgl:=fun(C:List Pat) (q:Pat)=>show(zcN C q).length≤C.length from by unfold zcN;simp
   generalize zap p=SP at *
   refine bd Tryz.f141 70 [8] [10,23] fun w0 F0 own kept hk=>?_
   refine bx 3001 ?_
   refine evs [8] [] ?_
   refine sq (fun h1 h1p h1s=>?_) fun h1 h1p h1s=>?_
   try simp only[Q,Pat.cs_len] at h1p
   exfalso;omega
   try simp only[Q,Pat.cs_len] at h1p
   refine so ty26 ?_
   refine tv ?_
   refine Walk.sliceLitG 9 sl26 tz28 rfl (by decide) (ks:=[0]) (xs:=[_]) rfl rfl (by decide) (by decide) .none rfl rfl rfl rfl rfl ?_
   refine evs [8] [] ?_
   refine CWp.loopX (ι:=Nat) hk (fun i=>[(35,.d (.i (i:Int))),(4,.gl 9 ((zcg p i).map Pat.cc)),(32,.any)]) [6,7,8,10,12,13,36,37,38,39,40,41,42,43,44,45,46,47,48,49,50,51,52,53,54,55,56,57,58,59,60,61,62,63,64,65,66,67,68] (fun i=>[(9,some (.tok (((zcg p i).map Pat.cc)).length 6))]) (fun i=>i≤p.kids.length) (fun i=>p.kids.length-i) 0 (by omega) ⟨⟨_,rfl,LeA.eqi ?_⟩,⟨⟨_,rfl,LeA.glg ?_⟩,⟨⟨_,rfl,.any _⟩,trivial⟩⟩⟩ ⟨zab ?_,trivial⟩ (fun x=>rfl) (fun i hg1=>?_)
   iterate 3 focus (first|rfl|(rw[hf0];rfl)|(rw[←hfn i (by omega),←hg2];done)|omega|(simp;done)|(simp;omega))
   refine evc [8] [10,23] ?_
   refine sq (fun h2 h2p h2s=>?_) fun h2 h2p h2s=>?_
   try simp only[Q,Pat.cs_len] at h2p
   refine Walk.idx sl26 .none rfl rfl rfl rfl (zaI (by omega)) rfl ?_
   refine evs [8] [] ?_
   refine ab 3006 tz28 ?_
   refine so ty28 ?_
   refine tv ?_
   refine wc zlp (hcal i (by omega)) rfl rfl ?_
   refine evs [8] [] ?_
   refine CWp.tokDrop 4 9 rfl rfl ?_
   refine evc [8] [] ?_
   refine Walk.assignNil 3 6 .none rfl rfl ?_
   refine tv ?_
   refine CWp.loopX (ι:=List (Pat)×List (Pat)) hk (fun x=>[(43,.d (.i (x.1.length:Int))),(8,.gl 3 ((x.1.flatMap (zcN (zap (nth p.kids i)))).map Pat.cc))]) [10,12,13,44,45,46,47,48,49,50,51,52,53,54,55,56,57,58,59,60,61,62,63,64,65,66] (fun x=>[(3,some (.tok (((x.1.flatMap (zcN (zap (nth p.kids i)))).map Pat.cc)).length 6))]) (fun x=>x.1++x.2=zcg p i) (fun x=>x.2.length) ([],zcg p i) (by simp) ⟨⟨_,rfl,LeA.eqi ?_⟩,⟨⟨_,rfl,LeA.glg ?_⟩,trivial⟩⟩ ⟨zab ?_,trivial⟩ (fun x=>rfl) (fun x hg2=>?_)
   iterate 3 focus (first|rfl|(simp;done)|(rw[List.append_nil] at hg3;rw[List.flatMap_append,List.map_append];simp[zcN,←hg3];done)|(simp;omega))
   obtain⟨pre2,rest2⟩:=x
   dsimp only at hg2 ⊢
   refine evc [8] [10,23] ?_
   refine sq (fun h3 h3p h3s=>?_) fun h3 h3p h3s=>?_
   try simp only[Q,Pat.cs_len] at h3p
   rcases rest2 with _|⟨q,rest2⟩
   ·exfalso;simp_all
   have hqk:=hfk i q (by rw[←hg2];simp);have hl2:=congrArg List.length hg2;simp only[List.length_append,List.length_cons] at hl2;have hl2b:=hfl i
   refine Walk.idx sl26 .none rfl rfl rfl rfl (zaN hg2) rfl ?_
   refine evs [8] [] ?_
   refine ab 3010 tz28 ?_
   refine so ty28 ?_
   refine tv ?_
   refine CWp.loopX (ι:=List (Pat)×List (Pat)) hk (fun x=>[(49,.d (.i (x.1.length:Int))),(8,.gl 3 ((pre2.flatMap (zcN (zap (nth p.kids i)))++zcN x.1 q).map Pat.cc))]) [12,13,50,51,52,53,54,55,56,57,58,59,60,61,62,63,64,65] (fun x=>[(3,some (.tok (((pre2.flatMap (zcN (zap (nth p.kids i)))++zcN x.1 q).map Pat.cc)).length 6))]) (fun x=>x.1++x.2=zap (nth p.kids i)) (fun x=>x.2.length) ([],zap (nth p.kids i)) (by simp) ⟨⟨_,rfl,LeA.eqi ?_⟩,⟨⟨_,rfl,LeA.glg ?_⟩,trivial⟩⟩ ⟨zab ?_,trivial⟩ (fun x=>rfl) (fun x hg3=>?_)
   iterate 3 focus (first|rfl|(simp[zcN];done)|(simp[zcN];omega)|(simp[zcN,zb1,zdV,mk_n,mk_m,zfe,za0,Pat.cs_cd];done)|(simp;omega))
   obtain⟨pre3,rest3⟩:=x
   dsimp only at hg3 ⊢
   refine evc [8] [10,23] ?_
   refine sq (fun h4 h4p h4s=>?_) fun h4 h4p h4s=>?_
   try simp only[Q,Pat.cs_len] at h4p
   rcases rest3 with _|⟨y,rest3⟩
   ·exfalso;simp_all
   have hl3:=congrArg List.length hg3;simp only[List.length_append,List.length_cons] at hl3;have hl3b:=hcl i (by omega)
   refine Walk.idx sl26 .none rfl rfl rfl rfl (Pat.cs_at' hg3) rfl ?_
   refine evs [8] [] ?_
   refine ab 3012 tz28 ?_
   refine so ty28 ?_
   refine tv ?_
   refine ab 3013 tz28 ?_
   refine so ty28 ?_
   refine tv ?_
   refine Walk.call (cr:=[77]) zoU (zfq (xs:=q.kids) (by omega)) rfl .none rfl rfl (LeL.refl _) trivial rfl rfl rfl ?_
   refine evd [8] [] ?_
   refine si [0] [_] sl26 tz28 ?_
   refine ap sl26 zz28 rfl rfl rfl (by intro x hx;first|(simp at hx;subst hx;rfl)|exact zbD _ x hx|exact za5 _ x hx) (by first|(simp;omega)|(simp only[Pat.cs_len,List.length_append,List.length_cons,List.length_nil];omega)|(have h10:=hgl pre3 q;have h8:=congrArg List.length hg2;have h9:=congrArg List.length hg3;have h7:=zjs (hgl (zap (nth p.kids i))) pre2;have h6:=hfl i;have h5:=hcl i (by omega);simp only[List.length_append,List.length_cons,List.length_map,List.length_nil] at *;have h4:pre2.length*(zap (nth p.kids i)).length≤40*40:=Nat.mul_le_mul (by omega) (by omega);omega)) ?_
   refine evd [8] [] ?_
   refine so ty26 ?_
   refine dr ?_
   refine si [0] [_] sl26 tz28 ?_
   refine ap sl26 zz28 rfl rfl rfl (by intro x hx;first|(simp at hx;subst hx;rfl)|exact zbD _ x hx|exact za5 _ x hx) (by first|(simp;omega)|(simp only[Pat.cs_len,List.length_append,List.length_cons,List.length_nil];omega)|(have h10:=hgl pre3 q;have h8:=congrArg List.length hg2;have h9:=congrArg List.length hg3;have h7:=zjs (hgl (zap (nth p.kids i))) pre2;have h6:=hfl i;have h5:=hcl i (by omega);simp only[List.length_append,List.length_cons,List.length_map,List.length_nil] at *;have h4:pre2.length*(zap (nth p.kids i)).length≤40*40:=Nat.mul_le_mul (by omega) (by omega);omega)) ?_
   refine asg ?_
   refine tv ?_
   refine ar ?_
   refine Exists.intro ((pre3++[y],rest3)) ⟨(by have hz:=hg3;rw[←hz];simp),(by simp),sx ⟨⟨_,rfl,LeA.eqi ?_⟩,⟨⟨_,rfl,LeA.glg ?_⟩,trivial⟩⟩ ⟨zab ?_,trivial⟩⟩
   iterate 3 focus (first|rfl|(simp[zcN];done)|(simp[zcN];omega)|(simp[zcN,zb1,zdV,mk_n,mk_m,zfe,za0,Pat.cs_cd];done)|(simp;omega))
   try simp only[Q,Pat.cs_len] at h4p
   have hrest3:rest3=[]:=by
    rcases rest3 with _|⟨a,b⟩
    ·rfl
    ·exfalso;have hz:=congrArg List.length (hg3);simp only[List.length_append,List.length_cons,List.length_map] at hz;omega
   subst hrest3
   refine ar ?_
   refine Exists.intro ((pre2++[q],rest2)) ⟨(by have hz:=hg2;rw[←hz];simp),(by simp),sx ⟨⟨_,rfl,LeA.eqi ?_⟩,⟨⟨_,rfl,LeA.glg ?_⟩,trivial⟩⟩ ⟨zab ?_,trivial⟩⟩
   iterate 3 focus (first|rfl|(simp;done)|(rw[List.append_nil] at hg3;rw[List.flatMap_append,List.map_append];simp[zcN,←hg3];done)|(simp;omega))
   try simp only[Q,Pat.cs_len] at h3p
   have hrest2:rest2=[]:=by
    rcases rest2 with _|⟨a,b⟩
    ·rfl
    ·exfalso;have hz:=congrArg List.length (hg2);simp only[List.length_append,List.length_cons,List.length_map] at hz;omega
   subst hrest2
   refine CWp.tokRen 4 3 9 rfl rfl (by kernel_rfl) ?_
   refine evc [8] [] ?_
   refine ar ?_
   rw[List.append_nil] at hg2
   refine Exists.intro (i+1) ⟨(by omega),(by omega),sx ⟨⟨_,rfl,LeA.eqi ?_⟩,⟨⟨_,rfl,LeA.glg ?_⟩,⟨⟨_,rfl,.any _⟩,trivial⟩⟩⟩ ⟨zab ?_,trivial⟩⟩
   iterate 3 focus (first|rfl|(rw[hf0];rfl)|(rw[←hfn i (by omega),←hg2];done)|omega|(simp;done)|(simp;omega))
   try simp only[Q,Pat.cs_len] at h2p
   refine rn [(9,some (.tok (Pat.cs SP).length 6))] (r1 rfl) (.glg ?_) ⟨rfl,rfl⟩ (SubH.get ⟨?_,trivial⟩) (zaG rfl)
   rotate_left 2
   all_goals (first|(((rw[←hfe i (by omega),show Pat.cs (zcg p i)=(zcg p i).map Pat.cc from Pat.cs_cd _];all_goals rfl));done)|((rw[←hfe i (by omega),show Pat.cs (zcg p i)=(zcg p i).map Pat.cc from Pat.cs_cd _];all_goals rfl)))
def zaS (p:Pat):List Pat:=if (zap (zas p)).length≤40 then zap (zas p) else []
def zcB (p:Pat):Bool:=decide ((zap (zas p)).length≤40)
theorem ziS {w:List Data}{n:Nat}{t:Ty}{p:Pat} (h:zat w n t p=true) (hok:p.ok):FnD Tryz.prog 85 [.agg [.d (.i p.op),.d (.i p.ctor),.d (.i p.n),.d (.i p.m),.d (.i p.var),.d (zac p.kids)]] [] (.tup [.d (zac (zaS p)),.d (.bool (zcB p))]) []:=by
 have hb:=zf0 n h
 have hbo:=zj0 p hok
 have hce:=(zjl n hb).1
 have hbp:=zc7 _ (Nat.le_refl _) hok
 have hcs:=zd9 _ (Nat.le_refl _) hbo
 have hsp:=fun h40=>FnD.glD (zeE n hb hbo h40)
 rw[hce] at hcs
 unfold zaS zcB
 generalize zas p=b at *
 by_cases h40:(zap b).length≤40
 ·rw[if_pos h40,decide_eq_true h40]
  have hc40:cap ((zap b).length:Int)≤40:=by unfold cap;split<;>omega
  refine bd Tryz.f85 12 [] [] fun w0 F0 own kept hk=>?_
  refine bx 3001 ?_
  refine ev ?_
  refine wc zjf (hbp) rfl rfl ?_
  refine ab 3004 tz28 ?_
  refine so ty28 ?_
  refine tv ?_
  refine wc zlo (hcs) rfl rfl ?_
  refine ev ?_
  refine sq (fun h1 h1p h1s=>?_) fun h1 h1p h1s=>?_
  try simp only[Q] at h1p
  exfalso;omega
  try simp only[Q] at h1p
  refine wc zlp (hsp h40) rfl rfl ?_
  refine ev ?_
  refine rn0 (r2 rfl rfl) (.tup (.cons (.eqd ?_) (.cons (.eqd ?_) .nil)))
  rotate_left 2
  all_goals (rfl)
 ·rw[if_neg h40,decide_eq_false h40]
  have hc40:¬cap ((zap b).length:Int)≤40:=by unfold cap;split<;>omega
  refine bd Tryz.f85 12 [] [] fun w0 F0 own kept hk=>?_
  refine bx 3001 ?_
  refine ev ?_
  refine wc zjf (hbp) rfl rfl ?_
  refine ab 3004 tz28 ?_
  refine so ty28 ?_
  refine tv ?_
  refine wc zlo (hcs) rfl rfl ?_
  refine ev ?_
  refine sq (fun h1 h1p h1s=>?_) fun h1 h1p h1s=>?_
  try simp only[Q] at h1p
  refine rn0 (r2 rfl rfl) (.tup (.cons (.nild ?_) (.cons (.eqd ?_) .nil)))
  rotate_left 2
  try simp only[Q] at h1p
  exfalso;omega
  all_goals (rfl)
structure Spa (w:List Data):Prop where
 dp:Dp w
 ctors:∀t,InS (w.length*4) t→(zah w t).length≤4∧(zah w t).Nodup
 args:∀t c,InS (w.length*4) t→c∈zah w t→(zaa w t c).length≤3
theorem zjm (k:Int):∀(l:List Ctor) (i:Nat),(za3 k i l).Pairwise (· < ·)
 | [],_=>by simp[za3]
 |x::r,i=>by
  unfold za3
  have ih:=zjm k r (i+1)
  split
  ·refine List.pairwise_cons.2 ⟨fun y hy=>?_,ih⟩
   obtain⟨j,rfl,h1,_⟩:=zga k r (i+1) y hy
   omega
  ·exact ih
theorem ztI {w:List Data} (hs:WSmall w) (hv:zaH w=true):Spa w:=by
 have hd:=zp8 hs hv
 have hW:=(zcY w).1 hv
 refine⟨hd,fun t ht=>?_,fun t c ht hc=>?_⟩
 ·unfold zah
  split
  ·simp
  ·rename_i he
   refine⟨?_,(zjm _ _ _).imp (fun h=>by omega)⟩
   rcases ht with h|⟨h1,h2⟩
   ·exact absurd h he
   ·have:=hd.ct _ h1;rw[h2] at this;exact this
 ·have hti:=zcc ht
  obtain⟨d,h1,h2,j,h3,h4⟩:=zcV (a:=t.data) (k:=t.index) hti hc
  have hco:=hW.ctor _ (zag h2) _ (zag h4)
  simp only[zaL,Bool.and_eq_true,decide_eq_true_eq] at hco
  unfold zaa
  rw[h1,h3]
  simp only[Int.toNat_natCast,List.length_map]
  omega
abbrev intQ (n m:Int):Pat:= .mk 3 0 n m 0 []
abbrev zbg (c:Int) (l:List Pat):Pat:= .mk 4 c 0 0 0 l
def zbO (w:List Data) (t:Ty) (c:Int):Pat:=zbg c ((zaa w t c).map fun _=>anyQ)
def lowQ (p:Pat):Int:=if p.op=1 then 0 else p.n
def zcu (p:Pat):Int:=if p.op=1 then 9 else p.m
def minQ (a b:Int):Int:=if b<a then b else a
def maxQ (a b:Int):Int:=if a<b then b else a
def zbS (n m:Int):List Pat:=if n≤m then [intQ n m] else []
def zbQ (f:Pat→Pat→Option Pat):List Pat→List Pat→List Pat→Option (List Pat)
 |p::r,q::s,acc=>match f p q with
  |none=>none
  |some x=>zbQ f r s (acc++[x])
 |_,_,acc=>some acc
def zaD:Nat→Pat→Pat→Option Pat
 |0,_,_=>none
 |n+1,a,b=>if a.op=1 then some b else if b.op=1 then some a else if a.op=3 then (if maxQ a.n b.n≤minQ a.m b.m then some (intQ (maxQ a.n b.n) (minQ a.m b.m)) else none)
  else if a.ctor=b.ctor then (zbQ (zaD n) a.kids b.kids []).map (zbg a.ctor) else none
def zaK (f:Ty→Pat→Pat→List Pat) (c:Int):List Ty→List Pat→List Pat→List Pat→List Pat
 |u::r,x::s,y::q,front=>(f u x y).map (fun z=>zbg c (front++[z]++s))++(match zaD 11 x y with
  |none=>[]
  |some both=>zaK f c r s q (front++[both]))
 |_,_,_,_=>[]
def zb8 (f:Ty→Pat→Pat→List Pat) (w:List Data) (t:Ty) (a b:Pat):List Pat:=if a.ctor=b.ctor then zaK f a.ctor (zaa w t a.ctor) a.kids b.kids [] else [a]
def zdS (a b:Pat):List Pat:=zbS (lowQ a) (minQ (zcu a) (b.n-1))++zbS (maxQ (lowQ a) (b.m+1)) (zcu a)
def zaq (w:List Data):Nat→Ty→Pat→Pat→List Pat
 |0,_,_,_=>[]
 |n+1,t,a,b=>if b.op=1 then [] else if b.op=3 then zdS a b else if a.op=1 then (zah w t).flatMap fun c=>zb8 (zaq w n) w t (zbO w t c) b else zb8 (zaq w n) w t a b
section
variable {w:List Data}{n:Nat}{t:Ty}{a b:Pat}
theorem zek (h:b.op=1):zaq w (n+1) t a b=[]:=by unfold zaq;rw[if_pos h]
theorem zgK (h:b.op=3):zaq w (n+1) t a b=zdS a b:=by unfold zaq;rw[if_neg (by omega),if_pos h]
theorem zfA (h:b.op=4) (h2:a.op=1):zaq w (n+1) t a b=(zah w t).flatMap fun c=>zb8 (zaq w n) w t (zbO w t c) b:=by
 conv=>lhs;unfold zaq
 rw[if_neg (by omega),if_neg (by omega),if_pos h2]
theorem zcX (h:b.op=4) (h2:a.op=4):zaq w (n+1) t a b=zb8 (zaq w n) w t a b:=by
 conv=>lhs;unfold zaq
 rw[if_neg (by omega),if_neg (by omega),if_neg (by omega)]
theorem zg0 (h:a.op=1):zaD (n+1) a b=some b:=by unfold zaD;rw[if_pos h]
theorem zhW (h:a.op≠1) (h2:b.op=1):zaD (n+1) a b=some a:=by unfold zaD;rw[if_neg h,if_pos h2]
theorem zhX (h:a.op=3) (h2:b.op≠1):zaD (n+1) a b=if maxQ a.n b.n≤minQ a.m b.m then some (intQ (maxQ a.n b.n) (minQ a.m b.m)) else none:=by
 conv=>lhs;unfold zaD
 rw[if_neg (by omega),if_neg h2,if_pos h]
theorem zg1 (h:a.op=4) (h2:b.op≠1) (hc:a.ctor=b.ctor):zaD (n+1) a b=(zbQ (zaD n) a.kids b.kids []).map (zbg a.ctor):=by
 conv=>lhs;unfold zaD
 rw[if_neg (by omega),if_neg h2,if_neg (by omega),if_pos hc]
theorem zgJ (h:a.op=4) (h2:b.op≠1) (hc:¬a.ctor=b.ctor):zaD (n+1) a b=none:=by
 conv=>lhs;unfold zaD
 rw[if_neg (by omega),if_neg h2,if_neg (by omega),if_neg hc]
end
theorem zbI {w:List Data}{n:Nat}{t:Ty}{p:Pat} (h:zad w n t p=true) (h3:p.op=3):t.data = -1∧0≤p.n∧p.n≤p.m∧p.m≤9:=by
 have ho:=(zfD h).1
 unfold ownP at ho
 have:=(of_decide_eq_true ho).2.2.2.2
 omega
theorem zaA {w:List Data}{n:Nat}{t:Ty}{p:Pat} (h:zad w n t p=true) (h4:p.op=4):p.ctor∈zah w t∧t.data≠ -1∧p.kids.length=(zaa w t p.ctor).length∧p=zbg p.ctor p.kids:=by
 obtain⟨ho,hl⟩:=zfD h
 have hm:=zcA ho h4
 refine⟨hm,fun e=>by unfold zah at hm;rw[if_pos e] at hm;simp at hm,by rw[zbc h4] at hl;exact hl, ?_⟩
 unfold ownP at ho
 have hh:=of_decide_eq_true ho
 have h1:=hh.2.1 (by omega)
 have h2:=hh.2.2.1 (by omega)
 obtain⟨op,c,m,k,v,ks⟩:=p
 change op=4 at h4
 change v=0 at h1
 change m=0∧k=0 at h2
 rw[h4,h1,h2.1,h2.2];rfl
theorem znJ {w:List Data}{n:Nat}{t:Ty}{a b:Int} (ht:t.data = -1) (h0:0≤a) (h1:a≤b) (h2:b≤9):zad w (n+1) t (intQ a b)=true:=by
 unfold zad
 have e:zae w t (intQ a b)=[]:=rfl
 rw[e]
 have ho:ownP w t (intQ a b)=true:=by
  unfold ownP
  refine decide_eq_true ⟨fun h=>?_,fun _=>rfl,fun h=>absurd rfl h,fun _=>rfl,.inr (.inr (.inr (.inr (.inl ⟨rfl,ht,h0,h1,h2⟩))))⟩
  exfalso;change (3:Int)=2∨(3:Int)=6 at h;omega
 rw[ho];rfl
theorem zik {w:List Data}{n:Nat}{t:Ty}{c:Int}{l:List Pat} (hc:c∈zah w t) (hl:l.length=(zaa w t c).length) (hk:∀i,i<l.length→zad w n (nth (zaa w t c) i) (nth l i)=true):zad w (n+1) t (zbg c l)=true:=by
 unfold zad
 have e:zae w t (zbg c l)=zaa w t c:=zbc rfl
 have ho:ownP w t (zbg c l)=true:=by
  unfold ownP
  refine decide_eq_true ⟨fun h=>?_,fun _=>rfl,fun _=>⟨rfl,rfl⟩,fun h=>absurd rfl h,.inr (.inr (.inr (.inr (.inr ⟨rfl,hc⟩))))⟩
  exfalso;change (4:Int)=2∨(4:Int)=6 at h;omega
 rw[ho,e,za0]
 exact zcq hl.symm (fun i hi=>hk i (by omega))
theorem zdd {w:List Data}{n m:Nat} (h:n≤m){t:Ty}{p:Pat} (hp:zad w n t p=true):zad w m t p=true:=by
 induction h with
 |refl=>exact hp
 |step _ ih=>exact zfX _ ih
theorem zcF {w:List Data}{n:Nat}{t:Ty}{c:Int} (hc:c∈zah w t):zad w (n+2) t (zbO w t c)=true:=by
 unfold zbO
 refine zik hc (by simp) (fun i hi=>?_)
 have e:nth ((zaa w t c).map fun _=>anyQ) i=anyQ:=by
  rw[zaJ hi];simp
 rw[e];exact zi9
theorem zlW {f:Pat→Pat→Option Pat}{a b:List Pat}{i:Nat}{acc:List Pat} (h1:i<a.length) (h2:i<b.length) (h:f (nth a i) (nth b i)=none):zbQ f (a.drop i) (b.drop i) acc=none:=by
 rw[za1 h1,za1 h2,zbQ,h]
theorem zlX {f:Pat→Pat→Option Pat}{a b:List Pat}{i:Nat}{acc:List Pat}{x:Pat} (h1:i<a.length) (h2:i<b.length) (h:f (nth a i) (nth b i)=some x):zbQ f (a.drop i) (b.drop i) acc=zbQ f (a.drop (i+1)) (b.drop (i+1)) (acc++[x]):=by
 rw[za1 h1,za1 h2,zbQ,h]
theorem zeT {f:Pat→Pat→Option Pat}{a b:List Pat}{i:Nat}{acc:List Pat} (h1:a.length≤i):zbQ f (a.drop i) (b.drop i) acc=some acc:=by
 rw[List.drop_eq_nil_of_le h1];cases b.drop i<;>rfl
theorem zfb {f:Pat→Pat→Option Pat}:∀ {a b acc l:List Pat},a.length=b.length→zbQ f a b acc=some l→∃r,l=acc++r∧r.length=a.length∧∀i,i<a.length→f (nth a i) (nth b i)=some (nth r i)
 | [],[],acc,l,_,h=>by
  simp only[zbQ,Option.some.injEq] at h
  exact⟨[],by simp[h],rfl,fun i hi=>by simp at hi⟩
 |p::r,q::s,acc,l,hl,h=>by
  unfold zbQ at h
  cases hf:f p q with
  |none=>rw[hf] at h;cases h
  |some x=>
   rw[hf] at h
   obtain⟨z,e,hz,hm⟩:=zfb (a:=r) (b:=s) (by simpa using hl) h
   refine⟨x::z,by rw[e];simp,by simp[hz],fun i hi=>?_⟩
   cases i with
   |zero=>exact hf
   |succ i=>exact hm i (by simpa using hi)
 | [],_::_,_,_,hl,_=>by simp at hl
 |_::_,[],_,_,hl,_=>by simp at hl
theorem zde {w:List Data}{n m:Nat}{t:Ty}{a b:Pat} (ha:zad w n t a=true) (hb:zad w m t b=true) (h1:a.op≠1) (h2:b.op≠1):a.op=b.op:=by
 have oa:=zbv ha
 have ob:=zbv hb
 rcases oa with h|h|h
 ·exact absurd h h1
 ·rcases ob with h' | h' | h'
  ·exact absurd h' h2
  ·omega
  ·exact absurd (zbI ha h).1 (zaA hb h').2.1
 ·rcases ob with h' | h' | h'
  ·exact absurd h' h2
  ·exact absurd (zbI hb h').1 (zaA ha h).2.1
  ·omega
theorem zqR (a b:Int):minQ a b≤a∧minQ a b≤b:=by unfold minQ;split<;>omega
theorem zqQ (a b:Int):a≤maxQ a b∧b≤maxQ a b:=by unfold maxQ;split<;>omega
theorem zuA (a b:Int):minQ a b=a∨minQ a b=b:=by unfold minQ;split<;>omega
theorem zuz (a b:Int):maxQ a b=a∨maxQ a b=b:=by unfold maxQ;split<;>omega
theorem znO {w:List Data}:∀(n m:Nat){t:Ty}{a b x:Pat},zad w m t a=true→zad w m t b=true→zaD n a b=some x→zad w m t x=true
 |0,m,t,a,b,x,_,_,h=>by simp[zaD] at h
 |n+1,0,t,a,b,x,ha,_,_=>by simp[zad] at ha
 |n+1,m+1,t,a,b,x,ha,hb,h=>by
  by_cases h1:a.op=1
  ·rw[zg0 h1] at h;cases h;exact hb
  by_cases h2:b.op=1
  ·rw[zhW h1 h2] at h;cases h;exact ha
  have hs:=zde ha hb h1 h2
  have oa:=zbv ha
  by_cases h3:a.op=3
  ·rw[zhX h3 h2] at h
   split at h
   ·cases h
    have ia:=zbI ha h3
    have ib:=zbI hb (by omega)
    have q1:=zuA a.m b.m
    have q2:=zuz a.n b.n
    refine znJ ia.1 (by omega) (by assumption) (by omega)
   ·cases h
  have h4:a.op=4:=by omega
  by_cases hc:a.ctor=b.ctor
  ·rw[zg1 h4 h2 hc] at h
   obtain⟨m1,m2,m3,m4⟩:=zaA ha h4
   obtain⟨n1,n2,n3,n4⟩:=zaA hb (by omega)
   rw[←hc] at n3
   cases hl:zbQ (zaD n) a.kids b.kids [] with
   |none=>rw[hl] at h;cases h
   |some l=>
    rw[hl] at h
    simp only[Option.map_some,Option.some.injEq] at h
    subst h
    obtain⟨r,e,hr,hm⟩:=zfb (by omega) hl
    rw[List.nil_append] at e
    subst e
    refine zik m1 (by omega) (fun i hi=>?_)
    have ka:=zaP ha (i:=i) (by omega)
    have kb:=zaP hb (i:=i) (by omega)
    rw[zbc h4] at ka
    rw[zbc (by omega),←hc] at kb
    exact znO n m ka kb (hm i (by omega))
  ·rw[zgJ h4 h2 hc] at h;cases h
theorem zmd {w:List Data}{n:Nat}{t:Ty}{a b:Int} (ht:t.data = -1) (h0:0≤a) (h2:b≤9):∀x∈zbS a b,zad w (n+1) t x=true:=by
 intro x hx
 unfold zbS at hx
 split at hx
 ·rename_i h1
  rw[List.mem_singleton] at hx
  rw[hx];exact znJ ht h0 h1 h2
 ·simp at hx
theorem zk0 {w:List Data}{n:Nat}{t:Ty}{a:Pat} (ha:zad w n t a=true) (ht:t.data = -1):0≤lowQ a∧zcu a≤9∧lowQ a≤zcu a:=by
 have oa:=zbv ha
 unfold lowQ zcu
 by_cases h1:a.op=1
 ·rw[if_pos h1,if_pos h1];omega
 ·rw[if_neg h1,if_neg h1]
  by_cases h3:a.op=3
  ·have:=zbI ha h3;omega
  ·exact absurd ht (zaA ha (by omega)).2.1
theorem zrC (a b:Pat):(zdS a b).length≤2:=by
 have h:∀x y,(zbS x y).length≤1:=fun x y=>by unfold zbS;split<;>simp
 unfold zdS
 rw[List.length_append]
 have:=h (lowQ a) (minQ (zcu a) (b.n-1));have:=h (maxQ (lowQ a) (b.m+1)) (zcu a);omega
theorem zqj {w:List Data}{f:Ty→Pat→Pat→List Pat}{m:Nat}{t:Ty}{c:Int} (hc:c∈zah w t) (hf:∀u x y,zad w m u x=true→zad w m u y=true→∀z∈f u x y,zad w m u z=true):
  ∀(i:Nat){xs bs front:List Pat},front.length=i→xs.length+i=(zaa w t c).length→bs.length=xs.length→(∀j,j<i→zad w m (nth (zaa w t c) j) (nth front j)=true)→
   (∀j,j<xs.length→zad w m (nth (zaa w t c) (i+j)) (nth xs j)=true∧zad w m (nth (zaa w t c) (i+j)) (nth bs j)=true)→
   ∀x∈zaK f c ((zaa w t c).drop i) xs bs front,zad w (m+1) t x=true:=by
 intro i xs
 induction xs generalizing i with
 |nil=>
  intro bs front _ _ _ _ _ x hx
  cases hT:(zaa w t c).drop i<;>(rw[hT] at hx;simp[zaK] at hx)
 |cons a0 s ih=>
  intro bs front hfl hal hbl hfr hab x hx
  cases bs with
  |nil=>simp at hbl
  |cons b0 q=>
   have hi:i<(zaa w t c).length:=by simp at hal;omega
   rw[za1 hi] at hx
   have h0:=hab 0 (by simp)
   simp only[Nat.add_zero] at h0
   have e0:nth (a0::s) 0=a0:=rfl
   have e1:nth (b0::q) 0=b0:=rfl
   rw[e0,e1] at h0
   unfold zaK at hx
   have hpiece:∀z,zad w m (nth (zaa w t c) i) z=true→∀j,j<(front++[z]++s).length→zad w m (nth (zaa w t c) j) (nth (front++[z]++s) j)=true:=fun z hz j hj=>by
    by_cases hj1:j<i
    ·have e:nth (front++[z]++s) j=nth front j:=by
      simp only[nth,List.getD,List.append_assoc]
      rw[List.getElem?_append_left (by omega)]
     rw[e];exact hfr j hj1
    ·by_cases hj2:j=i
     ·have e:nth (front++[z]++s) j=z:=by
       simp only[nth,List.getD,List.append_assoc]
       rw[List.getElem?_append_right (by omega),show j-front.length=0 by omega];rfl
      rw[e,hj2];exact hz
     ·obtain⟨k,rfl⟩:∃k,j=i+1+k:=⟨j-(i+1),by omega⟩
      have e:nth (front++[z]++s) (i+1+k)=nth (a0::s) (k+1):=by
       simp only[nth,List.getD,List.append_assoc]
       rw[List.getElem?_append_right (by omega),show i+1+k-front.length=k+1 by omega];rfl
      rw[e]
      have:=(hab (k+1) (by simp at hj ⊢;omega)).1
      rwa [show i+(k+1)=i+1+k by omega] at this
   rcases List.mem_append.1 hx with hx|hx
   ·obtain⟨z,hz,rfl⟩:=List.mem_map.1 hx
    refine zik hc (by simp at hal ⊢;omega) (hpiece z (hf _ _ _ h0.1 h0.2 z hz))
   ·cases hm:zaD 11 a0 b0 with
    |none=>rw[hm] at hx;simp at hx
    |some both=>
     rw[hm] at hx
     have hbp:=znO 11 m h0.1 h0.2 hm
     refine ih (i+1) (bs:=q) (front:=front++[both]) (by simp[hfl]) (by simp at hal ⊢;omega) (by simpa using hbl) (fun j hj=>?_) (fun j hj=>?_) x hx
     ·have:=hpiece both hbp j (by simp;omega)
      have e:nth (front++[both]++s) j=nth (front++[both]) j:=by
       simp only[nth,List.getD]
       rw[List.getElem?_append_left (by simp;omega)]
      rwa [e] at this
     ·have:=hab (j+1) (by simpa using hj)
      rwa [show i+(j+1)=i+1+j by omega] at this
theorem zfd {w:List Data}:∀(n m:Nat){t:Ty}{a b:Pat},n<m→zad w m t a=true→zad w n t b=true→∀x∈zaq w n t a b,zad w m t x=true
 |0,m,t,a,b,_,_,hb=>by simp[zad] at hb
 |n+1,0,t,a,b,hn,_,_=>by omega
 |n+1,m+1,t,a,b,hn,ha,hb=>by
  have ob:=zbv hb
  have oa:=zbv ha
  have hf:∀u x y,zad w m u x=true→zad w n u y=true→∀z∈zaq w n u x y,zad w m u z=true:=fun u x y hx hy=>zfd n m (by omega) hx hy
  have hcc:∀a,zad w (m+1) t a=true→a.op=4→b.op=4→∀x∈zb8 (zaq w n) w t a b,zad w (m+1) t x=true:=fun a ha h4 h4b=>by
   obtain⟨m1,m2,m3,m4⟩:=zaA ha h4
   obtain⟨n1,n2,n3,n4⟩:=zaA hb h4b
   intro x hx
   unfold zb8 at hx
   split at hx
   ·rename_i hc
    have key:=zqj (w:=w) (f:=fun u x y=>if zad w m u x=true∧zad w n u y=true then zaq w n u x y else []) (m:=m) (t:=t) (c:=a.ctor) m1 (fun u x y hx hy z hz=>by
     split at hz
     ·rename_i hh;exact hf u x y hh.1 hh.2 z hz
     ·simp at hz) 0 (xs:=a.kids) (bs:=b.kids) (front:=[]) rfl (by omega) (by rw[hc] at m3;omega) (fun j hj=>by omega) (fun j hj=>by
      have ka:=zaP ha (i:=j) hj
      have kb:=zaP hb (i:=j) (by rw[hc] at m3;omega)
      rw[zbc h4] at ka
      rw[zbc h4b,←hc] at kb
      rw[Nat.zero_add]
      exact⟨ka,zdd (by omega) kb⟩) x
    refine key ?_
    have e:∀(ts:List Ty) (xs bs front:List Pat),(∀j,j<ts.length→j<xs.length→j<bs.length→zad w m (nth ts j) (nth xs j)=true∧zad w n (nth ts j) (nth bs j)=true)→
      zaK (fun u x y=>if zad w m u x=true∧zad w n u y=true then zaq w n u x y else []) a.ctor ts xs bs front=zaK (zaq w n) a.ctor ts xs bs front:=by
     intro ts
     induction ts with
     |nil=>intro xs bs front _;simp[zaK]
     |cons u r ih=>
      intro xs bs front h
      cases xs with
      |nil=>simp[zaK]
      |cons x s=>
       cases bs with
       |nil=>simp[zaK]
       |cons y q=>
        have h0:=h 0 (by simp) (by simp) (by simp)
        change zad w m u x=true∧zad w n u y=true at h0
        unfold zaK
        rw[if_pos h0]
        congr 1
        cases hmm:zaD 11 x y with
        |none=>rfl
        |some both=>exact ih s q (front++[both]) (fun j h1 h2 h3=>h (j+1) (by simpa using h1) (by simpa using h2) (by simpa using h3))
    rw[List.drop_zero,e _ _ _ _ (fun j h1 h2 h3=>?_)]
    ·exact hx
    ·have ka:=zaP ha (i:=j) h2
     have kb:=zaP hb (i:=j) h3
     rw[zbc h4] at ka
     rw[zbc h4b,←hc] at kb
     exact⟨ka,kb⟩
   ·rw[List.mem_singleton] at hx
    rw[hx];exact ha
  rcases ob with h1|h3|h4
  ·rw[zek h1];simp
  ·rw[zgK h3]
   intro x hx
   have hl:=zk0 ha (zbI hb h3).1
   have ib:=zbI hb h3
   have q1:=zqR (zcu a) (b.n-1)
   have q2:=zqQ (lowQ a) (b.m+1)
   unfold zdS at hx
   rcases List.mem_append.1 hx with h|h
   ·exact zmd ib.1 (by omega) (by omega) x h
   ·exact zmd ib.1 (by omega) (by omega) x h
  ·by_cases ha1:a.op=1
   ·rw[zfA h4 ha1]
    intro x hx
    obtain⟨c,hc,hx⟩:=List.mem_flatMap.1 hx
    refine hcc _ ?_ rfl h4 x hx
    obtain⟨k,rfl⟩:∃k,m=k+1:=⟨m-1,by omega⟩
    exact zcF hc
   ·have ha4:a.op=4:=by
     have:=zde ha hb ha1 (by omega);omega
    rw[zcX h4 ha4]
    exact hcc a ha ha4 h4
theorem zgM {w:List Data} (hs:Spa w):∀(n:Nat){t:Ty}{p:Pat},InS (w.length*4) t→zad w n t p=true→p.ok∧p.size≤4 ^ n
 |0,t,p,_,h=>by simp[zad] at h
 |n+1,t,p,ht,h=>by
  have hk:=fun i (hi:i<p.kids.length)=>zaP h hi
  have hl:=(zfD h).2
  have op:=zbv h
  have hpow:4 ^ (n+1)=4 ^ n*4:=rfl
  have hpos:0<4 ^ n:=Nat.pow_pos (by omega)
  by_cases h4:p.op=4
  ·obtain⟨m1,m2,m3,m4⟩:=zaA h h4
   have h3:=hs.args t p.ctor ht m1
   rw[zbc h4] at hk
   have ih:∀k∈p.kids,k.ok∧k.size≤4 ^ n:=fun k hkm=>by
    obtain⟨i,hi,rfl⟩:=List.getElem_of_mem hkm
    have e:nth p.kids i=p.kids[i]:=zaJ hi
    have:=zgM hs n (zby hs.dp ht m1 _ (zag (i:=i) (by omega))) (hk i hi)
    rwa [e] at this
   have hz:=Pats.size_of (m:=4 ^ n) (fun k hk=>(ih k hk).2)
   rw[Pat.ok_iff,Pat.size_eq]
   refine⟨⟨by omega,Pats.ok_of (fun k hk=>(ih k hk).1)⟩, ?_⟩
   have:p.kids.length*4 ^ n≤3*4 ^ n:=Nat.mul_le_mul_right _ (by omega)
   omega
  ·have hk0:p.kids=[]:=zeq (zgp _ h) h4 (by omega) (by omega)
   rw[Pat.ok_iff,Pat.size_eq,hk0]
   exact⟨⟨by simp,trivial⟩,by simp only[Pats.size];omega⟩
theorem znz {α:Type}{g:Int→List α}{c0:Int}{X:Nat}:∀ {cs:List Int},cs.Nodup→(∀c∈cs,c≠c0→(g c).length≤1)→(g c0).length≤X→(cs.flatMap g).length≤cs.length+X
 | [],_,_,_=>by simp
 |c::r,hn,h1,h2=>by
  obtain⟨n1,n2⟩:=List.nodup_cons.1 hn
  rw[List.flatMap_cons,List.length_append,List.length_cons]
  by_cases hc:c=c0
  ·have key:∀l:List Int,c0∉l→(∀x∈l,x≠c0→(g x).length≤1)→(l.flatMap g).length≤l.length:=by
    intro l
    induction l with
    |nil=>intro _ _;simp
    |cons y s ih=>
     intro hm hh
     rw[List.flatMap_cons,List.length_append,List.length_cons]
     have a1:=hh y (by simp) (fun e=>hm (by rw[e];simp))
     have a2:=ih (fun e=>hm (by simp[e])) (fun x hx=>hh x (by simp[hx]))
     omega
   have:=key r (by rw[←hc];exact n1) (fun x hx=>h1 x (by simp[hx]))
   rw[hc];omega
  ·have a1:=h1 c (by simp) hc
   have a2:=znz (X:=X) n2 (fun x hx=>h1 x (by simp[hx])) h2
   omega
theorem zl2 {f:Ty→Pat→Pat→List Pat}{c:Int} (L:Pat→Nat):∀(ts:List Ty) (xs bs front:List Pat),(∀i,i<ts.length→i<xs.length→i<bs.length→(f (nth ts i) (nth xs i) (nth bs i)).length≤L (nth bs i))→(zaK f c ts xs bs front).length≤(bs.map L).sum
 | [],xs,bs,front,_=>by simp[zaK]
 |_::_,[],bs,front,_=>by simp[zaK]
 |_::_,_::_,[],front,_=>by simp[zaK]
 |u::r,x::s,y::q,front,h=>by
  have h0:=h 0 (by simp) (by simp) (by simp)
  change (f u x y).length≤L y at h0
  unfold zaK
  rw[List.length_append,List.length_map,List.map_cons,List.sum_cons]
  cases hm:zaD 11 x y with
  |none=>simp;omega
  |some both=>
   have:=zl2 (c:=c) L r s q (front++[both]) (fun i h1 h2 h3=>h (i+1) (by simpa using h1) (by simpa using h2) (by simpa using h3))
   dsimp only;omega
theorem zrB {w:List Data}{f:Ty→Pat→Pat→List Pat}{t:Ty}{a b:Pat}{L:Pat→Nat} (h:∀i,i<(zaa w t a.ctor).length→i<a.kids.length→i<b.kids.length→(f (nth (zaa w t a.ctor) i) (nth a.kids i) (nth b.kids i)).length≤L (nth b.kids i)):
  (zb8 f w t a b).length≤if a.ctor=b.ctor then (b.kids.map L).sum else 1:=by
 unfold zb8
 split
 ·exact zl2 L _ _ _ _ h
 ·simp
theorem sum4:∀l:List Pat,(l.map fun b=>4*b.size).sum=4*Pats.size l
 | []=>rfl
 |k::r=>by simp only[List.map_cons,List.sum_cons,Pats.size,sum4 r];omega
theorem znS {w:List Data} (hs:Spa w):∀(n m:Nat){t:Ty}{a b:Pat},n<m→InS (w.length*4) t→zad w m t a=true→zad w n t b=true→(zaq w n t a b).length≤4*b.size
 |0,m,t,a,b,_,_,_,hb=>by simp[zad] at hb
 |n+1,0,t,a,b,hn,_,_,_=>by omega
 |n+1,m+1,t,a,b,hn,ht,ha,hb=>by
  have ob:=zbv hb
  have hz:=Pat.size_eq b
  rcases ob with h1|h3|h4
  ·rw[zek h1];simp
  ·rw[zgK h3];have:=zrC a b;omega
  ·obtain⟨n1,n2,n3,n4⟩:=zaA hb h4
   have hcc:∀a,zad w (m+1) t a=true→a.op=4→(zb8 (zaq w n) w t a b).length≤if a.ctor=b.ctor then 4*Pats.size b.kids else 1:=fun a ha h4a=>by
    obtain⟨m1,m2,m3,m4⟩:=zaA ha h4a
    rw[←sum4]
    by_cases hc:a.ctor=b.ctor
    ·have:=zrB (w:=w) (f:=zaq w n) (t:=t) (a:=a) (b:=b) (L:=fun b=>4*b.size) (fun i h1 h2 h3=>by
      have ka:=zaP ha (i:=i) h2
      have kb:=zaP hb (i:=i) h3
      rw[zbc h4a] at ka
      rw[zbc h4,←hc] at kb
      exact znS hs n m (by omega) (zby hs.dp ht m1 _ (zag h1)) ka kb)
     exact this
    ·unfold zb8;rw[if_neg hc,if_neg hc];simp
   by_cases ha1:a.op=1
   ·rw[zfA h4 ha1]
    obtain⟨c1,c2⟩:=hs.ctors t ht
    have hw:∀c,c∈zah w t→(zb8 (zaq w n) w t (zbO w t c) b).length≤if c=b.ctor then 4*Pats.size b.kids else 1:=fun c hc=>by
     obtain⟨k,rfl⟩:∃k,m=k+1:=⟨m-1,by omega⟩
     exact hcc _ (zcF hc) rfl
    have:=znz (g:=fun c=>zb8 (zaq w n) w t (zbO w t c) b) (c0:=b.ctor) (X:=4*Pats.size b.kids) c2 (fun c hc hne=>by have:=hw c hc;rwa [if_neg hne] at this) (by have:=hw _ n1;rwa [if_pos rfl] at this)
    omega
   ·have ha4:a.op=4:=by have:=zde ha hb ha1 (by omega);omega
    rw[zcX h4 ha4]
    have:=hcc a ha ha4
    split at this<;>omega
theorem zlj {α β:Type} [Inhabited α] [Inhabited β]{f:α→β→Bool}:∀ {a:List α}{b:List β},a.length=b.length→all2 f a b=false→∃i,i<a.length∧f (nth a i) (nth b i)=false
 | [],[],_,h=>by simp[all2] at h
 |x::r,y::s,hl,h=>by
  simp only[all2,Bool.and_eq_false_iff] at h
  rcases h with h|h
  ·exact⟨0,by simp,h⟩
  ·obtain⟨i,h1,h2⟩:=zlj (by simpa using hl) h
   exact⟨i+1,by simpa using h1,h2⟩
 | [],_::_,hl,_=>by simp at hl
 |_::_,[],hl,_=>by simp at hl
theorem zeO {w:List Data}{f:Nat→Nat}{n:Nat}{t:Ty}{p:Pat} (h:p.op=1):zaV w f (n+1) t p=decide (dv f t=0):=by rw[zfL,if_pos (.inl h)]
theorem zj5 {w:List Data}{f:Nat→Nat}{n m:Nat}{t:Ty}{p:Pat} (hp:zad w m t p=true) (h:p.op=3):zaV w f (n+1) t p=false:=by
 rw[zfL,if_neg (by omega),if_neg (by omega)]
 have e:zae w t p=[]:=by unfold zae;rw[if_neg (by omega),if_neg (by omega),if_neg (by omega)]
 have hl:=(zfD hp).2
 rw[e] at hl ⊢
 rw[List.eq_nil_of_length_eq_zero hl];rfl
theorem zhR {w:List Data}{f:Nat→Nat}{n:Nat}{t:Ty}{p:Pat} (h:p.op=4):zaV w f (n+1) t p = !(all2 (fun u q=> !zaV w f n u q) (zaa w t p.ctor) p.kids):=by
 rw[zfL,if_neg (by omega),if_neg (by omega),zbc h]
theorem zkK {w:List Data}{f:Nat→Nat}{n m:Nat}{t:Ty}{p:Pat} (hp:zad w m t p=true) (h:p.op=4) (hd:zaV w f (n+1) t p=true):∃i,i<p.kids.length∧zaV w f n (nth (zaa w t p.ctor) i) (nth p.kids i)=true:=by
 rw[zhR h] at hd
 have hl:=(zaA hp h).2.2.1
 obtain⟨i,h1,h2⟩:=zlj (a:=zaa w t p.ctor) (b:=p.kids) (f:=fun u q=> !zaV w f n u q) hl.symm (by simpa using hd)
 exact⟨i,by omega,by simpa using h2⟩
theorem zgZ {w:List Data}{f:Nat→Nat}{n:Nat}{t:Ty}{c:Int}{l:List Pat}{i:Nat} (hi:i<l.length) (hl:l.length=(zaa w t c).length) (hd:zaV w f n (nth (zaa w t c) i) (nth l i)=true):zaV w f (n+1) t (zbg c l)=true:=by
 rw[zhR rfl]
 have:=zcd (f:=fun u q=> !zaV w f n u q) (a:=zaa w t c) (b:=l) (i:=i) (by omega) hl.symm (by rw[hd];rfl)
 show(!all2 (fun u q=> !zaV w f n u q) (zaa w t c) l)=true
 rw[this];rfl
theorem zvD {w:List Data} (hd:Dp w){t:Ty}{c:Int} (ht:InS (w.length*4) t) (hc:c∈zah w t) (h0:dv (zai w) t=0):∃i,i<(zaa w t c).length∧dv (zai w) (nth (zaa w t c) i)=0:=by
 by_cases hx:∃i,i<(zaa w t c).length∧dv (zai w) (nth (zaa w t c) i)=0
 ·exact hx
 ·exfalso
  have a:Snd w (zai w)∧Cmp w (w.length*4+1) (zai w):=zc0 hd.cl (w.length*4+1)
  have hdt:t.data≠ -1:=fun e=>by unfold zah at hc;rw[if_pos e] at hc;simp at hc
  have hb:∀u∈zaa w t c,Hd w (w.length*4+1) u:=fun u hu=>by
   obtain⟨i,hi,rfl⟩:=List.getElem_of_mem hu
   have hpos:0<dv (zai w) (zaa w t c)[i]:=by
    have e:nth (zaa w t c) i=(zaa w t c)[i]:=zaJ hi
    rcases Nat.eq_zero_or_pos (dv (zai w) (zaa w t c)[i]) with h|h
    ·exact absurd ⟨i,hi,by rw[e];exact h⟩ hx
    ·exact h
   have hin:=zby hd ht hc _ hu
   have h1:=zlB a.1 hin hpos
   rcases hin with h2|⟨h2,h3⟩
   ·exact .inl h2
   ·rw[←h3] at h1 ⊢
    exact zlJ hd.cl h2 h1
  have h2:Hd w (w.length*4+2) t:= .inr ⟨c,zjZ hc,hdt,hb⟩
  rcases ht with h3|⟨h3,h4⟩
  ·exact hdt h3
  ·rw[←h4] at h2
   have h5:=zlJ hd.cl h3 h2
   rw[h4] at h5
   have:=(zjo a.2 (.inr ⟨h3,h4⟩) h5).1
   omega
section
variable {w:List Data} (hs:Spa w)
include hs
theorem zjn:∀(n:Nat){t:Ty}{p:Pat},InS (w.length*4) t→zad w n t p=true→dv (zai w) t=0→zaV w (zai w) n t p=true
 |0,t,p,_,h,_=>by simp[zad] at h
 |n+1,t,p,ht,h,h0=>by
  rcases zbv h with h1|h3|h4
  ·rw[zeO h1];exact decide_eq_true h0
  ·have:=(zbI h h3).1
   unfold dv at h0;rw[if_pos this] at h0;omega
  ·obtain⟨m1,m2,m3,m4⟩:=zaA h h4
   obtain⟨i,h5,h6⟩:=zvD hs.dp ht m1 h0
   rw[m4]
   have hk:=zaP h (i:=i) (by omega)
   rw[zbc h4] at hk
   exact zgZ (by omega) m3 (zjn n (zby hs.dp ht m1 _ (zag h5)) hk h6)
theorem znN:∀(n k:Nat){t:Ty}{a b x:Pat},InS (w.length*4) t→zad w n t a=true→zad w n t b=true→zaV w (zai w) n t a=true→zaD k a b=some x→zaV w (zai w) n t x=true
 |0,k,t,a,b,x,_,h,_,_,_=>by simp[zad] at h
 |n+1,0,t,a,b,x,_,_,_,_,h=>by simp[zaD] at h
 |n+1,k+1,t,a,b,x,ht,ha,hb,hd,h=>by
  by_cases h1:a.op=1
  ·rw[zg0 h1] at h;cases h
   rw[zeO h1] at hd
   exact zjn hs (n+1) ht hb (of_decide_eq_true hd)
  by_cases h2:b.op=1
  ·rw[zhW h1 h2] at h;cases h;exact hd
  by_cases h3:a.op=3
  ·rw[zj5 ha h3] at hd;cases hd
  have h4:a.op=4:=by have:=zbv ha;omega
  have hso:=zde ha hb h1 h2
  by_cases hc:a.ctor=b.ctor
  ·rw[zg1 h4 h2 hc] at h
   obtain⟨m1,m2,m3,m4⟩:=zaA ha h4
   obtain⟨n1,n2,n3,n4⟩:=zaA hb (by omega)
   rw[←hc] at n3
   cases hl:zbQ (zaD k) a.kids b.kids [] with
   |none=>rw[hl] at h;cases h
   |some l=>
    rw[hl] at h
    simp only[Option.map_some,Option.some.injEq] at h
    subst h
    obtain⟨r,e,hr,hm⟩:=zfb (by omega) hl
    rw[List.nil_append] at e
    subst e
    obtain⟨i,hi,hde⟩:=zkK ha h4 hd
    have ka:=zaP ha (i:=i) hi
    have kb:=zaP hb (i:=i) (by omega)
    rw[zbc h4] at ka
    rw[zbc (by omega),←hc] at kb
    exact zgZ (i:=i) (by omega) (by omega) (znN n k (zby hs.dp ht m1 _ (zag (by omega))) ka kb hde (hm i hi))
  ·rw[zgJ h4 h2 hc] at h;cases h
theorem zqi {f:Ty→Pat→Pat→List Pat}{m:Nat}{t:Ty}{c:Int} (ht:InS (w.length*4) t) (hc:c∈zah w t):
  ∀(i:Nat){xs bs front:List Pat},front.length=i→xs.length+i=(zaa w t c).length→bs.length=xs.length→
   (∀j,j<xs.length→zad w m (nth (zaa w t c) (i+j)) (nth xs j)=true∧zad w m (nth (zaa w t c) (i+j)) (nth bs j)=true∧(zaV w (zai w) m (nth (zaa w t c) (i+j)) (nth xs j)=true→∀z∈f (nth (zaa w t c) (i+j)) (nth xs j) (nth bs j),zaV w (zai w) m (nth (zaa w t c) (i+j)) z=true))→
   ((∃j,j<i∧zaV w (zai w) m (nth (zaa w t c) j) (nth front j)=true)∨∃j,j<xs.length∧zaV w (zai w) m (nth (zaa w t c) (i+j)) (nth xs j)=true)→
   ∀x∈zaK f c ((zaa w t c).drop i) xs bs front,zaV w (zai w) (m+1) t x=true:=by
 intro i xs
 induction xs generalizing i with
 |nil=>
  intro bs front _ _ _ _ _ x hx
  cases hT:(zaa w t c).drop i<;>(rw[hT] at hx;simp[zaK] at hx)
 |cons a0 s ih=>
  intro bs front hfl hal hbl hab hde x hx
  cases bs with
  |nil=>simp at hbl
  |cons b0 q=>
   have hi:i<(zaa w t c).length:=by simp at hal;omega
   rw[za1 hi] at hx
   have h0:=hab 0 (by simp)
   simp only[Nat.add_zero] at h0
   have e0:nth (a0::s) 0=a0:=rfl
   have e1:nth (b0::q) 0=b0:=rfl
   rw[e0,e1] at h0
   unfold zaK at hx
   have f1:∀z j,j<i→nth (front++[z]++s) j=nth front j:=fun z j hj=>by
    simp only[nth,List.getD,List.append_assoc]
    rw[List.getElem?_append_left (by omega)]
   have f2:∀z,nth (front++[z]++s) i=z:=fun z=>by
    simp only[nth,List.getD,List.append_assoc]
    rw[List.getElem?_append_right (by omega),show i-front.length=0 by omega];rfl
   have f3:∀z k,nth (front++[z]++s) (i+1+k)=nth (a0::s) (k+1):=fun z k=>by
    simp only[nth,List.getD,List.append_assoc]
    rw[List.getElem?_append_right (by omega),show i+1+k-front.length=k+1 by omega];rfl
   have hfl2:∀z,(front++[z]++s).length=(zaa w t c).length:=fun z=>by simp at hal ⊢;omega
   rcases List.mem_append.1 hx with hx|hx
   ·obtain⟨z,hz,rfl⟩:=List.mem_map.1 hx
    rcases hde with ⟨j,hj,hd⟩|⟨j,hj,hd⟩
    ·exact zgZ (i:=j) (by rw[hfl2];omega) (hfl2 z) (by rw[f1 z j hj];exact hd)
    ·cases j with
     |zero=>exact zgZ (i:=i) (by rw[hfl2];omega) (hfl2 z) (by rw[f2 z];exact h0.2.2 hd z hz)
     |succ k=>exact zgZ (i:=i+1+k) (by rw[hfl2];simp at hj;simp at hal;omega) (hfl2 z) (by rw[f3 z k,show i+1+k=i+(k+1) by omega];exact hd)
   ·cases hm:zaD 11 a0 b0 with
    |none=>rw[hm] at hx;simp at hx
    |some both=>
     rw[hm] at hx
     refine ih (i+1) (bs:=q) (front:=front++[both]) (by simp[hfl]) (by simp at hal ⊢;omega) (by simpa using hbl) (fun j hj=>?_) ?_ x hx
     ·have:=hab (j+1) (by simpa using hj)
      rwa [show i+(j+1)=i+1+j by omega] at this
     ·rcases hde with ⟨j,hj,hd⟩|⟨j,hj,hd⟩
      ·refine .inl ⟨j,by omega, ?_⟩
       have e:nth (front++[both]) j=nth front j:=by
        simp only[nth,List.getD]
        rw[List.getElem?_append_left (by omega)]
       rw[e];exact hd
      ·cases j with
       |zero=>
        refine .inl ⟨i,by omega, ?_⟩
        have e:nth (front++[both]) i=both:=by
         simp only[nth,List.getD]
         rw[List.getElem?_append_right (by omega),show i-front.length=0 by omega];rfl
        rw[e]
        exact znN hs m 11 (zby hs.dp ht hc _ (zag hi)) h0.1 h0.2.1 hd hm
       |succ k=>
        refine .inr ⟨k,by simpa using hj, ?_⟩
        rw[show i+1+k=i+(k+1) by omega];exact hd
theorem zl4:∀(n m:Nat){t:Ty}{a b:Pat},n<m→InS (w.length*4) t→zad w m t a=true→zad w n t b=true→zaV w (zai w) m t a=true→∀x∈zaq w n t a b,zaV w (zai w) m t x=true
 |0,m,t,a,b,_,_,_,hb,_=>by simp[zad] at hb
 |n+1,0,t,a,b,hn,_,_,_,_=>by omega
 |n+1,m+1,t,a,b,hn,ht,ha,hb,hd=>by
  have hcc:∀a,zad w (m+1) t a=true→a.op=4→b.op=4→zaV w (zai w) (m+1) t a=true→∀x∈zb8 (zaq w n) w t a b,zaV w (zai w) (m+1) t x=true:=fun a ha h4 h4b hd=>by
   obtain⟨m1,m2,m3,m4⟩:=zaA ha h4
   obtain⟨n1,n2,n3,n4⟩:=zaA hb h4b
   intro x hx
   unfold zb8 at hx
   split at hx
   ·rename_i hc
    obtain⟨j,hj,hdj⟩:=zkK ha h4 hd
    refine zqi hs ht m1 0 (xs:=a.kids) (bs:=b.kids) (front:=[]) rfl (by omega) (by rw[hc] at m3;omega) (fun j hj=>?_) (.inr ⟨j,hj,by rw[Nat.zero_add];exact hdj⟩) x hx
    have ka:=zaP ha (i:=j) hj
    have kb:=zaP hb (i:=j) (by rw[hc] at m3;omega)
    rw[zbc h4] at ka
    rw[zbc h4b,←hc] at kb
    rw[Nat.zero_add]
    exact⟨ka,zdd (by omega) kb,fun hdk z hz=>zl4 n m (by omega) (zby hs.dp ht m1 _ (zag (by omega))) ka kb hdk z hz⟩
   ·rw[List.mem_singleton] at hx
    rw[hx];exact hd
  rcases zbv hb with h1|h3|h4
  ·rw[zek h1];simp
  ·have hl:=zk0 ha (zbI hb h3).1
   rcases zbv ha with h|h|h
   ·rw[zeO h] at hd
    have:=of_decide_eq_true hd
    unfold dv at this;rw[if_pos (zbI hb h3).1] at this;omega
   ·rw[zj5 ha h] at hd;cases hd
   ·exact absurd (zbI hb h3).1 (zaA ha h).2.1
  ·by_cases ha1:a.op=1
   ·rw[zfA h4 ha1]
    rw[zeO ha1] at hd
    intro x hx
    obtain⟨c,hc,hx⟩:=List.mem_flatMap.1 hx
    obtain⟨k,rfl⟩:∃k,m=k+1:=⟨m-1,by omega⟩
    exact hcc _ (zcF hc) rfl h4 (zjn hs _ ht (zcF hc) (of_decide_eq_true hd)) x hx
   ·have ha4:a.op=4:=by have:=zde ha hb ha1 (by omega);omega
    rw[zcX h4 ha4]
    exact hcc a ha ha4 h4 hd
end
def zbn (w:List Data) (t:Ty) (p:Pat):Bool:= !zaV w (zai w) 11 t p
def zbM (w:List Data) (t:Ty) (l:List Pat) (b:Pat):List Pat:=(l.flatMap fun a=>zaq w 10 t a b).filter (zbn w t)
def subL (w:List Data) (t:Ty):List Pat→List Pat→Option (List Pat)
 |l,[]=>some l
 |l,b::r=>if (zbM w t l b).length≤400 then subL w t (zbM w t l b) r else none
def zaE (w:List Data) (t:Ty) (l away:List Pat):Option (List Pat):=subL w t (l.filter (zbn w t)) away
theorem zpz {w:List Data} (hs:Spa w){t:Ty} (ht:InS (w.length*4) t){l:List Pat}{b:Pat} (hl:∀a∈l,zad w 11 t a=true) (hb:zad w 10 t b=true):zbM w t (l.filter (zbn w t)) b=zbM w t l b:=by
 unfold zbM
 induction l with
 |nil=>rfl
 |cons a r ih=>
  have ih':=ih (fun x hx=>hl x (by simp[hx]))
  rw[List.flatMap_cons,List.filter_append]
  by_cases h:zbn w t a=true
  ·rw[List.filter_cons_of_pos h,List.flatMap_cons,List.filter_append,ih']
  ·rw[List.filter_cons_of_neg h,ih']
   have hd:zaV w (zai w) 11 t a=true:=by unfold zbn at h;simpa using h
   have:(zaq w 10 t a b).filter (zbn w t)=[]:=by
    rw[List.filter_eq_nil_iff]
    intro x hx
    have:=zl4 hs 10 11 (by omega) ht (hl a (by simp)) hb hd x hx
    unfold zbn;rw[this];simp
   rw[this,List.nil_append]
theorem zkz {w:List Data}{t:Ty}{l:List Pat}{b:Pat}:(zbM w t l b).filter (zbn w t)=zbM w t l b:=by
 unfold zbM;rw[List.filter_filter];simp
theorem zmw {w:List Data}{t:Ty}:∀(away:List Pat){l:List Pat},l.filter (zbn w t)=l→(subL w t l away).map (List.filter (zbn w t))=subL w t l away
 | [],l,h=>by simp only[subL,Option.map_some,h]
 |b::r,l,h=>by
  unfold subL
  split
  ·exact zmw r zkz
  ·rfl
theorem zsU {w:List Data} (hs:Spa w){t:Ty} (ht:InS (w.length*4) t){l away:List Pat} (hl:∀a∈l,zad w 11 t a=true) (hb:∀b∈away,zad w 10 t b=true):(subL w t l away).map (List.filter (zbn w t))=zaE w t l away:=by
 unfold zaE
 cases away with
 |nil=>rfl
 |cons b r=>
  unfold subL
  rw[zpz hs ht hl (hb b (by simp))]
  split
  ·exact zmw r zkz
  ·rfl
theorem zel {w:List Data}{t:Ty}{l:List Pat}{b:Pat} (hl:∀a∈l,zad w 11 t a=true) (hb:zad w 10 t b=true):∀x∈zbM w t l b,zad w 11 t x=true:=fun x hx=>by
 unfold zbM at hx
 obtain⟨a,ha,hx⟩:=List.mem_flatMap.1 (List.mem_filter.1 hx).1
 exact zfd 10 11 (by omega) (hl a ha) hb x hx
theorem zk7 {n:Nat} (h0:0<n) (hb:n≤1000000):FnD Tryz.prog 190 [.nils,.d (.i (n:Int))] [] (.gv 9 []) [(9,some (.tok 0 6))]:=by
 refine bd Tryz.f190 27 [12,24] [] fun w0 F0 own kept hk=>?_
 refine sq (fun h1 h1p h1s=>?_) fun h1 h1p h1s=>?_
 try simp only[Q] at h1p
 exfalso;omega
 try simp only[Q] at h1p
 refine Walk.capN sl26 .none rfl rfl ?_
 refine evs [12,24] [] ?_
 refine Walk.lenN sl26 .none rfl rfl ?_
 refine evs [12,24] [] ?_
 refine ar ?_
 refine ar ?_
 refine sq (fun h2 h2p h2s=>?_) fun h2 h2p h2s=>?_
 try simp only[Q] at h2p
 refine Walk.capN sl26 .none rfl rfl ?_
 refine Walk.cutN_h sl26 .none rfl rfl rfl ?_
 refine evs [12,24] [] ?_
 refine Walk.growZ (n:=n) 8 sl26 Tryz.underlying3 tz28 rfl (by decide) rfl .none rfl rfl rfl (by simp) h0 (by omega) (by omega) rfl ?_
 refine evs [12,24] [] ?_
 refine Walk.lenN sl26 .none rfl rfl ?_
 refine Walk.cutV_h 9 (b:=0) sl26 .none rfl rfl (zgj rfl (by first|rfl|(simp;done)|(simp;omega))) rfl rfl (Nat.zero_le _) (by rw[List.length_replicate];exact h0) rfl ?_
 refine evs [12,24] [] ?_
 focus (refine rn [(9,some (.tok 0 6))] (r1 rfl) (.gvg ?_) ⟨rfl,rfl⟩ (SubH.get ⟨rfl,trivial⟩) (zaG rfl);all_goals (first|rfl|(simp[h1s,h1p,h2s,h2p];done)|(simp_all;done)|(simp_all;omega)|omega))
 try simp only[Q] at h2p
 focus (exfalso;simp at h2;all_goals omega)
abbrev zt4 (ls:List (List Pat)):D:= .sl (ls.map fun l=>[zac l])
theorem zjP {ls:List (List Pat)} (hl:ls.length≤1000) (h0:0<ls.flatten.length) (hb:ls.flatten.length≤1000000):FnD Tryz.prog 151 [.d (zt4 ls)] [] (.d (zac ls.flatten)) []:=by
 have key:∀ {pre rest:List (List Pat)}{y:List Pat},pre++y::rest=ls→pre.flatten.length+y.length≤ls.flatten.length:=fun h=>by
  rw[←h];simp
 refine FnD.gvD (i:=9) (k:=6) ?_
 refine bd Tryz.f151 36 [] [] fun w0 F0 own kept hk=>?_
 refine CWp.loopX (ι:=List (List Pat)×List (List Pat)) hk (fun x=>[(11,.d (.i (x.1.length:Int))),(3,.d (.i (x.1.flatten.length:Int)))]) [5,12,13,14,15,16,17,18,19,20,21,22] (fun x=>[]) (fun x=>x.1++x.2=ls) (fun x=>x.2.length) ([],ls) (by simp) ⟨⟨_,rfl,LeA.eqi ?_⟩,⟨⟨_,rfl,LeA.eqi ?_⟩,trivial⟩⟩ trivial (fun x=>rfl) (fun x hg1=>?_)
 iterate 2 focus (first|rfl|(simp[Pat.cs_len];done)|omega)
 obtain⟨pre,rest⟩:=x
 dsimp only at hg1 ⊢
 refine evc [] [] ?_
 refine sq (fun h1 h1p h1s=>?_) fun h1 h1p h1s=>?_
 try simp only[Q,Pat.cs_len] at h1p
 rcases rest with _|⟨y,rest⟩
 ·exfalso;simp_all
 refine Walk.idx zd3 .none rfl rfl rfl rfl (zaN hg1) rfl ?_
 refine ev ?_
 refine ar ?_ (by first|(have h9:=key hg1;constructor<;>first|omega|(simp only[Pat.cs_len];omega))|(constructor<;>omega))
 refine sq (fun h2 h2p h2s=>?_) fun h2 h2p h2s=>?_
 try simp only[Q,Pat.cs_len] at h2p
 exfalso;have:=key hg1;omega
 try simp only[Q,Pat.cs_len] at h2p
 refine ar ?_ (by first|(have h9:=key hg1;constructor<;>first|omega|(simp only[Pat.cs_len];omega))|(constructor<;>omega))
 refine Exists.intro ((pre++[y],rest)) ⟨(by have hz:=hg1;rw[←hz];simp),(by simp),sx ⟨⟨_,rfl,LeA.eqi ?_⟩,⟨⟨_,rfl,LeA.eqi ?_⟩,trivial⟩⟩ trivial⟩
 iterate 2 focus (first|rfl|(simp[Pat.cs_len];done)|omega)
 try simp only[Q,Pat.cs_len] at h1p
 have hrest:rest=[]:=by
  rcases rest with _|⟨a,b⟩
  ·rfl
  ·exfalso;have hz:=congrArg List.length (hg1);simp only[List.length_append,List.length_cons,List.length_map] at hz;omega
 subst hrest
 refine Walk.call (cr:=[9]) zvg (zk7 (n:=pre.flatten.length) (by rw[List.append_nil] at hg1;rw[hg1];exact h0) (by rw[List.append_nil] at hg1;rw[hg1];exact hb)) rfl .none rfl rfl (LeL.refl _) trivial rfl rfl rfl ?_
 refine ev ?_
 refine CWp.loopX (ι:=List (List Pat)×List (List Pat)) hk (fun x=>[(27,.d (.i (x.1.length:Int))),(6,.gv 9 (Pat.cs x.1.flatten))]) [8,28,29,30,31,32,33,34] (fun x=>[(9,some (.tok (Pat.cs x.1.flatten).length 6))]) (fun x=>x.1++x.2=ls) (fun x=>x.2.length) ([],ls) (by simp) ⟨⟨_,rfl,LeA.eqi ?_⟩,⟨⟨_,rfl,LeA.gvg ?_⟩,trivial⟩⟩ ⟨zab ?_,trivial⟩ (fun x=>rfl) (fun x hg2=>?_)
 iterate 3 focus (first|rfl|(simp[Pat.cs_cd];done)|omega|(simp;omega))
 obtain⟨pre,rest⟩:=x
 dsimp only at hg2 ⊢
 refine evc [] [] ?_
 refine sq (fun h3 h3p h3s=>?_) fun h3 h3p h3s=>?_
 try simp only[Q,Pat.cs_len] at h3p
 rcases rest with _|⟨y,rest⟩
 ·exfalso;simp_all
 refine Walk.idx zd3 .none rfl rfl rfl rfl (zaN hg2) rfl ?_
 refine ev ?_
 refine Walk.appendV sl26 zz28 .none rfl rfl rfl rfl (zgj rfl (by first|rfl|(simp;done)|(simp;omega))) (by exact za5 _) (by have:=key hg2;simp only[Pat.cs_len];omega) (by have:=key hg2;simp only[Pat.cs_len];omega) ?_
 refine ev ?_
 refine ar ?_ (by first|(have h9:=key hg1;constructor<;>first|omega|(simp only[Pat.cs_len];omega))|(constructor<;>omega))
 refine Exists.intro ((pre++[y],rest)) ⟨(by have hz:=hg2;rw[←hz];simp),(by simp),sx ⟨⟨_,rfl,LeA.eqi ?_⟩,⟨⟨_,rfl,LeA.gvg ?_⟩,trivial⟩⟩ ⟨zab ?_,trivial⟩⟩
 iterate 3 focus (first|rfl|(simp[Pat.cs_cd];done)|omega|(simp;omega))
 try simp only[Q,Pat.cs_len] at h3p
 have hrest:rest=[]:=by
  rcases rest with _|⟨a,b⟩
  ·rfl
  ·exfalso;have hz:=congrArg List.length (hg2);simp only[List.length_append,List.length_cons,List.length_map] at hz;omega
 subst hrest
 refine rn [(9,some (.tok (Pat.cs ls.flatten).length 6))] (r1 rfl) (.gvg ?_) ⟨rfl,rfl⟩ (SubH.get ⟨?_,trivial⟩) (zaG rfl)
 rotate_left 2
 all_goals (first|((first|rfl|(rw[List.append_nil] at hg2;rw[hg2]));done)|(rw[List.append_nil] at hg2;subst hg2;rfl))
def zbE (l:List Int):Nat→List Pat
 |0=>[]
 |n+1=>zbE l n++zbS (nth l (2*n)) (nth l (2*n+1))
theorem zjJ (l:List Int):∀n,(zbE l n).length≤n
 |0=>by simp[zbE]
 |n+1=>by
  have:=zjJ l n
  simp only[zbE,zbS,List.length_append]
  split<;>simp<;>omega
theorem zcp {l:List Int}{n:Nat} (h:nth l (2*n)≤nth l (2*n+1)):zbE l (n+1)=zbE l n++[intQ (nth l (2*n)) (nth l (2*n+1))]:=by simp[zbE,zbS,h]
theorem zdX {l:List Int}{n:Nat} (h:¬nth l (2*n)≤nth l (2*n+1)):zbE l (n+1)=zbE l n:=by simp only[zbE,zbS,if_neg h,List.append_nil]
theorem zpM (a b:Int):zbE [a,b] 1=zbS a b:=by simp[zbE,nth]
theorem ztv (a b c d:Int):zbE [a,b,c,d] 2=zbS a b++zbS c d:=by simp[zbE,nth]
theorem zlN {p:Pat}:FnD Tryz.prog 149 [.agg [.d (.i p.op),.d (.i p.ctor),.d (.i p.n),.d (.i p.m),.d (.i p.var),.d (zac p.kids)]] [] (.tup [.d (.i (lowQ p)),.d (.i (zcu p))]) []:=by
 by_cases h:p.op=1
 ·have e1:lowQ p=0:=if_pos h
  have e2:zcu p=9:=if_pos h
  rw[e1,e2]
  refine bd Tryz.f149 11 [] [] fun w0 F0 own kept hk=>?_
  refine bx 3001 ?_
  refine ev ?_
  refine sq (fun h1 h1p h1s=>?_) fun h1 h1p h1s=>?_
  try simp only[Q] at h1p
  focus (refine rn0 (r2 rfl rfl) (.tup (.cons (.eqd ?_) (.cons (.eqd ?_) .nil)));all_goals (first|rfl|(simp[h1s,h1p];done)|(simp_all;done)|(simp_all;omega)|omega))
  try simp only[Q] at h1p
  exfalso;omega
 ·skip
  have e1:lowQ p=p.n:=if_neg h
  have e2:zcu p=p.m:=if_neg h
  rw[e1,e2]
  refine bd Tryz.f149 11 [] [] fun w0 F0 own kept hk=>?_
  refine bx 3001 ?_
  refine ev ?_
  refine sq (fun h1 h1p h1s=>?_) fun h1 h1p h1s=>?_
  try simp only[Q] at h1p
  exfalso;omega
  try simp only[Q] at h1p
  refine dr ?_
  focus (refine rn0 (r2 rfl rfl) (.tup (.cons (.eqd ?_) (.cons (.eqd ?_) .nil)));all_goals (first|rfl|(simp[h1s,h1p];done)|(simp_all;done)|(simp_all;omega)|omega))
theorem zfy {l:List Int}{n:Nat} (hl:l.length=2*n) (hb:n≤1000):FnD Tryz.prog 116 [.d (zcz l)] [] (.d (zac (zbE l n))) []:=by
 refine bd Tryz.f116 35 [3] [] fun w0 F0 own kept hk=>?_
 refine Walk.assignNil 9 6 .none rfl rfl ?_
 refine tv ?_
 refine CWp.loopX (ι:=Nat) hk (fun i=>[(4,.d (.i ((2*i:Nat):Int))),(3,.gl 9 (Pat.cs (zbE l i)))]) [5,6,7,8,9,10,11,12,13,14,15,16,17,18,19,20,21,22,23,24,25,26,27,28,29,30,31,32,33] (fun i=>[(9,some (.tok ((Pat.cs (zbE l i))).length 6))]) (fun i=>i≤n) (fun i=>n-i) 0 (by omega) ⟨⟨_,rfl,LeA.eqi ?_⟩,⟨⟨_,rfl,LeA.glg ?_⟩,trivial⟩⟩ ⟨zab ?_,trivial⟩ (fun x=>rfl) (fun i hg1=>?_)
 iterate 3 focus (first|rfl|(simp;done)|(rw[zcp (by assumption),Pat.cs_cd,Pat.cs_cd,List.map_append];rfl)|(rw[zdX (by assumption)];done)|(rw[zdX (by omega)];done)|(rw[zcp (by assumption)];simp[Pat.cs_len];done)|(rw[zcp (by omega)];simp[Pat.cs_len];done)|omega|(simp;omega))
 refine evc [3] [] ?_
 refine sq (fun h1 h1p h1s=>?_) fun h1 h1p h1s=>?_
 try simp only[Q] at h1p
 refine Walk.idx (i:=2*i) sl62 .none rfl rfl rfl rfl (zau (by omega)) rfl ?_
 refine evd [3] [] ?_
 refine ar ?_
 refine Walk.idx (i:=2*i+1) sl62 .none rfl rfl rfl rfl (zau (by omega)) rfl ?_
 refine evd [3] [] ?_
 refine dr ?_
 refine sq (fun h2 h2p h2s=>?_) fun h2 h2p h2s=>?_
 try simp only[Q] at h2p
 refine Walk.idx (i:=2*i) sl62 .none rfl rfl rfl rfl (zau (by omega)) rfl ?_
 refine evd [3] [] ?_
 refine ar ?_
 refine Walk.idx (i:=2*i+1) sl62 .none rfl rfl rfl rfl (zau (by omega)) rfl ?_
 refine evd [3] [] ?_
 refine bu [0,2,3] [_,_,_] st28 ?_
 refine si [0] [_] sl26 tz28 ?_
 refine ap sl26 zz28 rfl rfl rfl (by first|exact za5 _|(intro x hx;simp at hx;subst hx;rfl)) (by have:=zjJ l i;simp[Pat.cs_len];omega) ?_
 refine asg ?_
 refine dr ?_
 refine ar ?_
 refine Exists.intro (i+1) ⟨(by omega),(by omega),sx ⟨⟨_,rfl,LeA.eqi ?_⟩,⟨⟨_,rfl,LeA.glg ?_⟩,trivial⟩⟩ ⟨zab ?_,trivial⟩⟩
 iterate 3 focus (first|rfl|(simp;done)|(rw[zcp (by assumption),Pat.cs_cd,Pat.cs_cd,List.map_append];rfl)|(rw[zdX (by assumption)];done)|(rw[zdX (by omega)];done)|(rw[zcp (by assumption)];simp[Pat.cs_len];done)|(rw[zcp (by omega)];simp[Pat.cs_len];done)|omega|(simp;omega))
 try simp only[Q] at h2p
 refine ar ?_
 refine Exists.intro (i+1) ⟨(by omega),(by omega),sx ⟨⟨_,rfl,LeA.eqi ?_⟩,⟨⟨_,rfl,LeA.glg ?_⟩,trivial⟩⟩ ⟨zab ?_,trivial⟩⟩
 iterate 3 focus (first|rfl|(simp;done)|(rw[zcp (by assumption),Pat.cs_cd,Pat.cs_cd,List.map_append];rfl)|(rw[zdX (by assumption)];done)|(rw[zdX (by omega)];done)|(rw[zcp (by assumption)];simp[Pat.cs_len];done)|(rw[zcp (by omega)];simp[Pat.cs_len];done)|omega|(simp;omega))
 try simp only[Q] at h1p
 refine rn0 (r1 rfl) (.gld ?_)
 rotate_left
 all_goals (first|rfl|(have e:i=n:=(by omega);rw[e]))
theorem zoi {w:List Data} (hw:WT w){f:Nat→Nat}{a k c:Int} (ht:TyIn w.length ⟨a,k⟩) (hc:c∈zah w ⟨a,k⟩) (hl:(zaa w ⟨a,k⟩ c).length≤3):FnD Tryz.prog 150 [.d (sPtr w f),.agg [.d (.i a),.d (.i k)],.d (.i c)] []
  (.agg [.d (.i 4),.d (.i c),.d (.i 0),.d (.i 0),.d (.i 0),.d (zac (zbO w ⟨a,k⟩ c).kids)]) []:=by
 refine bd Tryz.f150 28 [] [] fun w0 F0 own kept hk=>?_
 refine bx 3004 ?_
 refine ab 3006 tz28 ?_
 refine tv ?_
 refine bu [0,1] [_,_] st28 ?_
 refine ab 3007 tz28 ?_
 refine so ty28 ?_
 refine tv ?_
 refine wc zjc (zdi hw ht hc) rfl rfl ?_
 refine evd [] [] ?_
 refine dr ?_
 refine CWp.tokB 3007 5 9 6 rfl rfl rfl rfl ?_
 refine CWp.loopX (ι:=List (Ty)×List (Ty)) hk (fun x=>[(18,.d (.i (x.1.length:Int)))]) [19,20,21,22,23,24,25,26] (fun x=>[(3007,some (.box [.d (.i 4),.d (.i c),.d (.i 0),.d (.i 0),.d (.i 0),.gl 9 ((x.1.map fun _=>anyQ).map Pat.cc)])),(9,some (.tok ((x.1.map fun _=>anyQ).map Pat.cc).length 6))]) (fun x=>x.1++x.2=zaa w ⟨a,k⟩ c) (fun x=>x.2.length) ([],zaa w ⟨a,k⟩ c) (by simp) ⟨⟨_,rfl,LeA.eqi ?_⟩,trivial⟩ ⟨?_,⟨zab ?_,trivial⟩⟩ (fun x=>rfl) (fun x hg1=>?_)
 focus (first|rfl|(simp;done)|(simp;exact⟨rfl,rfl,rfl,rfl,rfl,rfl⟩)|omega|(simp;omega))
 focus (first|rfl|(simp[getH];done)|(simp[getH];exact⟨rfl,rfl,rfl,rfl,rfl,rfl⟩))
 focus (first|rfl|(simp;done)|(simp;exact⟨rfl,rfl,rfl,rfl,rfl,rfl⟩)|omega|(simp;omega))
 obtain⟨pre,rest⟩:=x
 dsimp only at hg1 ⊢
 refine evc [] [] ?_
 refine sq (fun h1 h1p h1s=>?_) fun h1 h1p h1s=>?_
 try simp only[Q] at h1p
 rcases rest with _|⟨y,rest⟩
 ·exfalso;simp_all
 refine wc zr6 (zfU) rfl rfl ?_
 refine si [0] [_] sl26 tz28 ?_
 refine ap sl26 zz28 rfl rfl rfl (by intro x hx;first|(simp at hx;subst hx;rfl)|exact zbD _ x hx) (by have:=congrArg List.length hg1;simp at this;simp;omega) ?_
 refine evd [] [] ?_
 refine so ty26 ?_
 refine dr ?_
 refine ar ?_
 refine Exists.intro ((pre++[y],rest)) ⟨(by have hz:=hg1;rw[←hz];simp),(by simp),sx ⟨⟨_,rfl,LeA.eqi ?_⟩,trivial⟩ ⟨?_,⟨zab ?_,trivial⟩⟩⟩
 focus (first|rfl|(simp;done)|(simp;exact⟨rfl,rfl,rfl,rfl,rfl,rfl⟩)|omega|(simp;omega))
 focus (first|rfl|(simp[getH];done)|(simp[getH];exact⟨rfl,rfl,rfl,rfl,rfl,rfl⟩))
 focus (first|rfl|(simp;done)|(simp;exact⟨rfl,rfl,rfl,rfl,rfl,rfl⟩)|omega|(simp;omega))
 try simp only[Q] at h1p
 have hrest:rest=[]:=by
  rcases rest with _|⟨a,b⟩
  ·rfl
  ·exfalso;have hz:=congrArg List.length (hg1);simp only[List.length_append,List.length_cons,List.length_map] at hz;omega
 subst hrest
 refine so ty28 ?_
 refine tv ?_
 refine rn0 (.cons (.cellA ty28 rfl rfl rfl) .nil) (.agg (.cons (.eqd ?_) (.cons (.eqd ?_) (.cons (.eqd ?_) (.cons (.eqd ?_) (.cons (.eqd ?_) (.cons (.gld ?_) .nil)))))))
 rotate_left 6
 all_goals (first|rfl|(rw[List.append_nil] at hg1;subst hg1;rw[←Pat.cs_cd];all_goals rfl))
def zcP (n:Nat) (a b:Pat):Pat:=(zaD n a b).getD zug
theorem zcD {n:Nat}{a b x:Pat} (h:zaD n a b=some x):zcP n a b=x:=by unfold zcP;rw[h];rfl
theorem zfc {n:Nat}{a b:Pat} (h:zaD n a b=none):zcP n a b=zug:=by unfold zcP;rw[h];rfl
theorem zm1 {n:Nat}{a b:Pat} (h:(zaD n a b).isSome=true):zaD n a b=some (zcP n a b):=by
 unfold zcP
 cases e:zaD n a b with
 |none=>rw[e] at h;cases h
 |some x=>rfl
theorem zm2 {n:Nat}{a b:Pat} (h:(zaD n a b).isSome=false):zaD n a b=none:=by
 cases e:zaD n a b with
 |none=>rfl
 |some x=>rw[e] at h;cases h
theorem zjx {w:List Data} (hs:Spa w){f:Nat→Nat}:∀(n m:Nat){ta tk:Int}{a b:Pat},m≤n→InS (w.length*4) ⟨ta,tk⟩→zad w m ⟨ta,tk⟩ a=true→zad w m ⟨ta,tk⟩ b=true→
  FnD Tryz.prog 66 [.d (sPtr w f),.agg [.d (.i ta),.d (.i tk)],.agg [.d (.i a.op),.d (.i a.ctor),.d (.i a.n),.d (.i a.m),.d (.i a.var),.d (zac a.kids)],.agg [.d (.i b.op),.d (.i b.ctor),.d (.i b.n),.d (.i b.m),.d (.i b.var),.d (zac b.kids)]] []
   (.tup [.agg [.d (.i (zcP n a b).op),.d (.i (zcP n a b).ctor),.d (.i (zcP n a b).n),.d (.i (zcP n a b).m),.d (.i (zcP n a b).var),.d (zac (zcP n a b).kids)],.d (.bool (zaD n a b).isSome)]) []
 |n,0,ta,tk,a,b,_,_,ha,_=>by simp[zad] at ha
 |0,m+1,ta,tk,a,b,h,_,_,_=>by omega
 |n+1,m+1,ta,tk,a,b,hnm,ht,ha,hb=>by
  by_cases h1:a.op=1
  ·have e:=zg0 (n:=n) (b:=b) h1
   rw[zcD e,e]
   refine bd Tryz.f66 100 [] [] fun w0 F0 own kept hk=>?_
   refine bx 3005 ?_
   refine bx 3006 ?_
   refine bx 3007 ?_
   refine ab 3008 tz28 ?_
   refine ev ?_
   refine sq (fun h1 h1p h1s=>?_) fun h1 h1p h1s=>?_
   try simp only[Q] at h1p
   refine so ty28 ?_
   refine ev ?_
   refine rn0 (.cons (.cellA ty28 rfl rfl rfl) (.cons (.tmp rfl) .nil)) (.tup (.cons (.agg (.cons (.eqd ?_) (.cons (.eqd ?_) (.cons (.eqd ?_) (.cons (.eqd ?_) (.cons (.eqd ?_) (.cons (.eqd ?_) .nil))))))) (.cons (.eqd ?_) .nil)))
   rotate_left 7
   try simp only[Q] at h1p
   exfalso;omega
   all_goals (rfl)
  by_cases h2:b.op=1
  ·have e:=zhW (n:=n) h1 h2
   rw[zcD e,e]
   refine bd Tryz.f66 100 [] [] fun w0 F0 own kept hk=>?_
   refine bx 3005 ?_
   refine bx 3006 ?_
   refine bx 3007 ?_
   refine ab 3008 tz28 ?_
   refine ev ?_
   refine sq (fun h1 h1p h1s=>?_) fun h1 h1p h1s=>?_
   try simp only[Q] at h1p
   exfalso;omega
   try simp only[Q] at h1p
   refine sq (fun h2 h2p h2s=>?_) fun h2 h2p h2s=>?_
   try simp only[Q] at h2p
   refine so ty28 ?_
   refine ev ?_
   refine rn0 (.cons (.cellA ty28 rfl rfl rfl) (.cons (.tmp rfl) .nil)) (.tup (.cons (.agg (.cons (.eqd ?_) (.cons (.eqd ?_) (.cons (.eqd ?_) (.cons (.eqd ?_) (.cons (.eqd ?_) (.cons (.eqd ?_) .nil))))))) (.cons (.eqd ?_) .nil)))
   rotate_left 7
   try simp only[Q] at h2p
   exfalso;omega
   all_goals (rfl)
  by_cases h3:a.op=3
  ·have e:=zhX (n:=n) h3 h2
   by_cases hr:maxQ a.n b.n≤minQ a.m b.m
   ·rw[if_pos hr] at e
    have er:zbE [maxQ a.n b.n,minQ a.m b.m] 1=[intQ (maxQ a.n b.n) (minQ a.m b.m)]:=by rw[zpM];exact if_pos hr
    have hrg:=zfy (l:=[maxQ a.n b.n,minQ a.m b.m]) (n:=1) rfl (by omega)
    rw[er] at hrg
    rw[zcD e,e]
    refine bd Tryz.f66 100 [] [] fun w0 F0 own kept hk=>?_
    refine bx 3005 ?_
    refine bx 3006 ?_
    refine bx 3007 ?_
    refine ab 3008 tz28 ?_
    refine ev ?_
    refine sq (fun h1 h1p h1s=>?_) fun h1 h1p h1s=>?_
    try simp only[Q,Pat.cs_len] at h1p
    exfalso;omega
    try simp only[Q,Pat.cs_len] at h1p
    refine sq (fun h2 h2p h2s=>?_) fun h2 h2p h2s=>?_
    try simp only[Q,Pat.cs_len] at h2p
    exfalso;omega
    try simp only[Q,Pat.cs_len] at h2p
    refine sq (fun h3 h3p h3s=>?_) fun h3 h3p h3s=>?_
    try simp only[Q,Pat.cs_len] at h3p
    refine Walk.maxI .none rfl rfl rfl ?_
    refine ev ?_
    refine Walk.minI .none rfl rfl rfl ?_
    refine si [0,1] [_,_] sl62 tz3 ?_
    refine wc zoS (hrg) rfl rfl ?_
    refine ev ?_
    refine sq (fun h4 h4p h4s=>?_) fun h4 h4p h4s=>?_
    try simp only[Q,Pat.cs_len] at h4p
    exfalso;simp[Pat.cs_len] at h4
    try simp only[Q,Pat.cs_len] at h4p
    refine Walk.idx (i:=0) sl26 .none rfl rfl rfl rfl (rfl) rfl ?_
    refine ev ?_
    refine so ty28 ?_
    refine ev ?_
    refine rn0 (.cons (.cellA ty28 rfl rfl rfl) (.cons (.tmp rfl) .nil)) (.tup (.cons (.agg (.cons (.eqd ?_) (.cons (.eqd ?_) (.cons (.eqd ?_) (.cons (.eqd ?_) (.cons (.eqd ?_) (.cons (.eqd ?_) .nil))))))) (.cons (.eqd ?_) .nil)))
    rotate_left 7
    try simp only[Q,Pat.cs_len] at h3p
    exfalso;omega
    all_goals (rfl)
   ·skip
    rw[if_neg hr] at e
    have er:zbE [maxQ a.n b.n,minQ a.m b.m] 1=[]:=by rw[zpM];exact if_neg hr
    have hrg:=zfy (l:=[maxQ a.n b.n,minQ a.m b.m]) (n:=1) rfl (by omega)
    rw[er] at hrg
    rw[zfc e,e]
    refine bd Tryz.f66 100 [] [] fun w0 F0 own kept hk=>?_
    refine bx 3005 ?_
    refine bx 3006 ?_
    refine bx 3007 ?_
    refine ab 3008 tz28 ?_
    refine ev ?_
    refine sq (fun h1 h1p h1s=>?_) fun h1 h1p h1s=>?_
    try simp only[Q,Pat.cs_len] at h1p
    exfalso;omega
    try simp only[Q,Pat.cs_len] at h1p
    refine sq (fun h2 h2p h2s=>?_) fun h2 h2p h2s=>?_
    try simp only[Q,Pat.cs_len] at h2p
    exfalso;omega
    try simp only[Q,Pat.cs_len] at h2p
    refine sq (fun h3 h3p h3s=>?_) fun h3 h3p h3s=>?_
    try simp only[Q,Pat.cs_len] at h3p
    refine Walk.maxI .none rfl rfl rfl ?_
    refine ev ?_
    refine Walk.minI .none rfl rfl rfl ?_
    refine si [0,1] [_,_] sl62 tz3 ?_
    refine wc zoS (hrg) rfl rfl ?_
    refine ev ?_
    refine sq (fun h4 h4p h4s=>?_) fun h4 h4p h4s=>?_
    try simp only[Q,Pat.cs_len] at h4p
    refine bu [] [] st28 ?_
    refine so ty28 ?_
    refine ev ?_
    refine rn0 (.cons (.cellA ty28 rfl rfl rfl) (.cons (.tmp rfl) .nil)) (.tup (.cons (.agg (.cons (.eqd ?_) (.cons (.eqd ?_) (.cons (.eqd ?_) (.cons (.eqd ?_) (.cons (.eqd ?_) (.cons (.nild ?_) .nil))))))) (.cons (.eqd ?_) .nil)))
    rotate_left 7
    try simp only[Q,Pat.cs_len] at h4p
    exfalso;simp[Pat.cs] at h4
    try simp only[Q,Pat.cs_len] at h3p
    exfalso;omega
    all_goals (rfl)
  have oa:=zbv ha
  have h4:a.op=4:=by omega
  have h4b:b.op=4:=by have:=zde ha hb h1 h2;omega
  by_cases hc:a.ctor=b.ctor
  ·obtain⟨c1,c2,c3,c4⟩:=zaA ha h4
   obtain⟨d1,d2,d3,d4⟩:=zaA hb h4b
   rw[←hc] at d3
   have h3l:=hs.args ⟨ta,tk⟩ a.ctor ht c1
   have ka:=fun i (hi:i<a.kids.length)=>zaP ha hi
   have kb:=fun i (hi:i<b.kids.length)=>zaP hb hi
   rw[zbc h4] at ka
   rw[zbc h4b,←hc] at kb
   have e:=zg1 (n:=n) h4 h2 hc
   have hlen:a.kids.length=b.kids.length:=by omega
   have ih:=fun i (hi:i<(zaa w ⟨ta,tk⟩ a.ctor).length)=>zjx hs n m (f:=f) (ta:=(nth (zaa w ⟨ta,tk⟩ a.ctor) i).data) (tk:=(nth (zaa w ⟨ta,tk⟩ a.ctor) i).index) (a:=nth a.kids i) (b:=nth b.kids i) (by omega) (zby hs.dp ht c1 _ (zag hi)) (ka i (by omega)) (kb i (by omega))
   refine bd Tryz.f66 100 [] [] fun w0 F0 own kept hk=>?_
   refine bx 3005 ?_
   refine bx 3006 ?_
   refine bx 3007 ?_
   refine ab 3008 tz28 ?_
   refine ev ?_
   refine sq (fun h1 h1p h1s=>?_) fun h1 h1p h1s=>?_
   try simp only[Q,Pat.cs_len] at h1p
   exfalso;omega
   try simp only[Q,Pat.cs_len] at h1p
   refine sq (fun h2 h2p h2s=>?_) fun h2 h2p h2s=>?_
   try simp only[Q,Pat.cs_len] at h2p
   exfalso;omega
   try simp only[Q,Pat.cs_len] at h2p
   refine sq (fun h3 h3p h3s=>?_) fun h3 h3p h3s=>?_
   try simp only[Q,Pat.cs_len] at h3p
   exfalso;omega
   try simp only[Q,Pat.cs_len] at h3p
   refine sq (fun h4 h4p h4s=>?_) fun h4 h4p h4s=>?_
   try simp only[Q,Pat.cs_len] at h4p
   exfalso;omega
   try simp only[Q,Pat.cs_len] at h4p
   refine bu [0,1] [_,_] st28 ?_
   refine ab 3011 tz28 ?_
   refine so ty28 ?_
   refine tv ?_
   refine wc zjc (zdi hs.dp.wt (zcc ht) c1) rfl rfl ?_
   refine evd [] [] ?_
   refine dr ?_
   refine CWp.tokB 3011 5 9 6 rfl rfl rfl rfl ?_
   refine CWp.loopX (ι:=Nat×List Pat) hk (fun x=>[(68,.d (.i (x.1:Int)))]) [9,12,13,14,15,69,70,71,72,73,74,75,76,77,78,79,80,81,82,83,84,85,86,87,88,89,90,91,92,93,94,95,96,97,98] (fun x=>[(3011,some (.box [.d (.i 4),.d (.i a.ctor),.d (.i 0),.d (.i 0),.d (.i 0),.gl 9 (x.2.map Pat.cc)])),(9,some (.tok (x.2.map Pat.cc).length 6))]) (fun x=>x.1≤a.kids.length∧x.2.length=x.1∧zbQ (zaD n) (a.kids.drop x.1) (b.kids.drop x.1) x.2=zbQ (zaD n) a.kids b.kids []) (fun x=>a.kids.length-x.1) (0,[]) ⟨by simp,rfl,rfl⟩ ⟨⟨_,rfl,LeA.eqi ?_⟩,trivial⟩ ⟨?_,⟨zab ?_,trivial⟩⟩ (fun x=>rfl) (fun x hg1=>?_)
   focus (first|rfl|(simp;done)|(simp_all;done)|omega|(simp;omega))
   focus (first|rfl|(simp[getH];done))
   focus (first|rfl|(simp;done)|(simp_all;done)|omega|(simp;omega))
   refine evc [] [] ?_
   refine sq (fun h5 h5p h5s=>?_) fun h5 h5p h5s=>?_
   try simp only[Q,Pat.cs_len] at h5p
   refine Walk.idx za8 .none rfl rfl rfl rfl (zau (by omega)) rfl ?_
   refine ev ?_
   refine ab 3013 tz25 ?_
   refine ev ?_
   refine so ty25 ?_
   refine tv ?_
   refine Walk.idx sl26 .none rfl rfl rfl rfl (zaI (by omega)) rfl ?_
   refine evd [] [] ?_
   refine Walk.idx sl26 .none rfl rfl rfl rfl (zaI (by omega)) rfl ?_
   refine evd [] [] ?_
   refine wc ztQ (ih x.1 (by omega)) rfl rfl ?_
   refine evd [] [] ?_
   refine ab 3014 tz28 ?_
   refine so ty28 ?_
   refine evd [] [] ?_
   refine dr ?_
   refine sq (fun h6 h6p h6s=>?_) fun h6 h6p h6s=>?_
   try simp only[Q,Pat.cs_len] at h6p
   refine bu [] [] st28 ?_
   refine so ty28 ?_
   refine ev ?_
   refine rn0 (.cons (.cellA ty28 rfl rfl rfl) (.cons (.tmp rfl) .nil)) (.tup (.cons (.agg (.cons (.eqd ?_) (.cons (.eqd ?_) (.cons (.eqd ?_) (.cons (.eqd ?_) (.cons (.eqd ?_) (.cons (.nild ?_) .nil))))))) (.cons (.eqd ?_) .nil)))
   rotate_left 7
   try simp only[Q,Pat.cs_len] at h6p
   refine si [0] [_] sl26 tz28 ?_
   refine ap sl26 zz28 rfl rfl rfl (by intro x hx;first|(simp at hx;subst hx;rfl)|exact zbD _ x hx) (by simp;omega) ?_
   refine ev ?_
   refine so ty26 ?_
   refine tv ?_
   refine ar ?_
   refine Exists.intro ((x.1+1,x.2++[zcP n (nth a.kids x.1) (nth b.kids x.1)])) ⟨⟨by dsimp only;omega,by dsimp only;rw[List.length_append,hg1.2.1];rfl,by dsimp only;rw[←zlX (by omega) (by omega) (zm1 (by assumption))];exact hg1.2.2⟩,(by dsimp only;omega),sx ⟨⟨_,rfl,LeA.eqi ?_⟩,trivial⟩ ⟨?_,⟨zab ?_,trivial⟩⟩⟩
   focus (first|rfl|(simp;done)|(simp_all;done)|omega|(simp;omega))
   focus (first|rfl|(simp[getH];done))
   focus (first|rfl|(simp;done)|(simp_all;done)|omega|(simp;omega))
   try simp only[Q,Pat.cs_len] at h5p
   refine so ty28 ?_
   refine ev ?_
   refine rn0 (.cons (.cellA ty28 rfl rfl rfl) (.cons (.tmp rfl) .nil)) (.tup (.cons (.agg (.cons (.eqd ?_) (.cons (.eqd ?_) (.cons (.eqd ?_) (.cons (.eqd ?_) (.cons (.eqd ?_) (.cons (.gld ?_) .nil))))))) (.cons (.eqd ?_) .nil)))
   rotate_left 7
   all_goals (first|(have e2:zaD (n+1) a b=none:=(by rw[e,←hg1.2.2,zlW (by omega) (by omega) (zm2 (by assumption))];rfl);(first|rw[zfc e2]|rw[e2]);all_goals rfl)|(have e2:zaD (n+1) a b=some (zbg a.ctor x.2):=(by rw[e,←hg1.2.2,zeT (by omega)];rfl);rw[zcD e2,Pat.cs_cd];all_goals rfl)|(have e2:zaD (n+1) a b=some (zbg a.ctor x.2):=(by rw[e,←hg1.2.2,zeT (by omega)];rfl);rw[zcD e2];all_goals rfl)|(have e2:zaD (n+1) a b=some (zbg a.ctor x.2):=(by rw[e,←hg1.2.2,zeT (by omega)];rfl);rw[e2];all_goals rfl))
  ·skip
   have e:=zgJ (n:=n) h4 h2 hc
   rw[zfc e,e]
   refine bd Tryz.f66 100 [] [] fun w0 F0 own kept hk=>?_
   refine bx 3005 ?_
   refine bx 3006 ?_
   refine bx 3007 ?_
   refine ab 3008 tz28 ?_
   refine ev ?_
   refine sq (fun h1 h1p h1s=>?_) fun h1 h1p h1s=>?_
   try simp only[Q] at h1p
   exfalso;omega
   try simp only[Q] at h1p
   refine sq (fun h2 h2p h2s=>?_) fun h2 h2p h2s=>?_
   try simp only[Q] at h2p
   exfalso;omega
   try simp only[Q] at h2p
   refine sq (fun h3 h3p h3s=>?_) fun h3 h3p h3s=>?_
   try simp only[Q] at h3p
   exfalso;omega
   try simp only[Q] at h3p
   refine sq (fun h4 h4p h4s=>?_) fun h4 h4p h4s=>?_
   try simp only[Q] at h4p
   refine bu [] [] st28 ?_
   refine so ty28 ?_
   refine ev ?_
   refine rn0 (.cons (.cellA ty28 rfl rfl rfl) (.cons (.tmp rfl) .nil)) (.tup (.cons (.agg (.cons (.eqd ?_) (.cons (.eqd ?_) (.cons (.eqd ?_) (.cons (.eqd ?_) (.cons (.eqd ?_) (.cons (.nild ?_) .nil))))))) (.cons (.eqd ?_) .nil)))
   rotate_left 7
   try simp only[Q] at h4p
   exfalso;omega
   all_goals (rfl)
theorem zhn {f:Ty→Pat→Pat→List Pat}{c:Int}{ts:List Ty}{xs bs front:List Pat}{i:Nat} (h1:i<ts.length) (h2:i<xs.length) (h3:i<bs.length):
  zaK f c (ts.drop i) (xs.drop i) (bs.drop i) front=(f (nth ts i) (nth xs i) (nth bs i)).map (fun z=>zbg c (front++[z]++xs.drop (i+1)))++(match zaD 11 (nth xs i) (nth bs i) with
   |none=>[]
   |some both=>zaK f c (ts.drop (i+1)) (xs.drop (i+1)) (bs.drop (i+1)) (front++[both])):=by
 rw[za1 h1,za1 h2,za1 h3,zaK]
 all_goals (cases zaD 11 (nth xs i) (nth bs i)<;>rfl)
theorem zky {f:Ty→Pat→Pat→List Pat}{c:Int}{ts:List Ty}{xs bs front:List Pat}{i:Nat} (h1:i<ts.length) (h2:i<xs.length) (h3:i<bs.length) (h:(zaD 11 (nth xs i) (nth bs i)).isSome=true):
  zaK f c (ts.drop i) (xs.drop i) (bs.drop i) front=(f (nth ts i) (nth xs i) (nth bs i)).map (fun z=>zbg c (front++[z]++xs.drop (i+1)))++zaK f c (ts.drop (i+1)) (xs.drop (i+1)) (bs.drop (i+1)) (front++[zcP 11 (nth xs i) (nth bs i)]):=by
 rw[zhn h1 h2 h3,zm1 h]
theorem zkw {f:Ty→Pat→Pat→List Pat}{c:Int}{ts:List Ty}{xs bs front:List Pat}{i:Nat} (h1:i<ts.length) (h2:i<xs.length) (h3:i<bs.length) (h:(zaD 11 (nth xs i) (nth bs i)).isSome=false):
  zaK f c (ts.drop i) (xs.drop i) (bs.drop i) front=(f (nth ts i) (nth xs i) (nth bs i)).map (fun z=>zbg c (front++[z]++xs.drop (i+1))):=by
 rw[zhn h1 h2 h3,zm2 h,List.append_nil]
theorem zl1 {f:Ty→Pat→Pat→List Pat}{c:Int}{ts:List Ty}{xs bs front:List Pat}{i:Nat} (h1:ts.length≤i):zaK f c (ts.drop i) (xs.drop i) (bs.drop i) front=[]:=by
 rw[List.drop_eq_nil_of_le h1];rfl
theorem zpE {n:Nat} (h:n≤11):4 ^ n≤4194304:=Nat.le_trans (Nat.pow_le_pow_right (by omega) h) (by decide)
theorem zfB {w:List Data} (hs:Spa w){n m:Nat}{t:Ty}{a b:Pat} (h:n<m) (h10:n≤10) (ht:InS (w.length*4) t) (ha:zad w m t a=true) (hb:zad w n t b=true):(zaq w n t a b).length≤20000000:=by
 have h1:=znS hs n m h ht ha hb
 have h2:=(zgM hs n ht hb).2
 have h3:=zpE (n:=n) (by omega)
 omega
theorem zun {A B:List Pat}{y:Pat}{xs:List (List D)} (hx:xs=Pat.cs B) (hb:A.length+1+B.length≤1000):
  FnD Tryz.prog 151 [.d (.sl [[.sl (A.map Pat.cc)],[.sl [Pat.cc y]],[.sl xs]])] [] (.d (zac (A++[y]++B))) []:=by
 have h:=zjP (ls:=[A,[y],B]) (by simp) (by simp;omega) (by simp;omega)
 have e:[A,[y],B].flatten=A++[y]++B:=by simp
 rw[e] at h
 subst hx
 have e2:zt4 [A,[y],B] = .sl [[.sl (A.map Pat.cc)],[.sl [Pat.cc y]],[.sl (Pat.cs B)]]:=by
  show D.sl [[.sl (Pat.cs A)],[.sl (Pat.cs [y])],[.sl (Pat.cs B)]]=_
  rw[Pat.cs_cd A,Pat.cs_cd [y]];rfl
 rw[e2] at h
 exact h
section
variable {w:List Data}{f:Nat→Nat}
abbrev MinusFn (w:List Data) (f:Nat→Nat) (n:Nat) (ta tk:Int) (a b:Pat):Prop:=
 FnD Tryz.prog 93 [.d (sPtr w f),.agg [.d (.i ta),.d (.i tk)],.agg [.d (.i a.op),.d (.i a.ctor),.d (.i a.n),.d (.i a.m),.d (.i a.var),.d (zac a.kids)],.agg [.d (.i b.op),.d (.i b.ctor),.d (.i b.n),.d (.i b.m),.d (.i b.var),.d (zac b.kids)]] [] (.d (zac (zaq w n ⟨ta,tk⟩ a b))) []
theorem zpj {n:Nat}{ta tk:Int}{a b:Pat} (h:b.op=1):MinusFn w f (n+1) ta tk a b:=by
 unfold MinusFn
 rw[zek h]
 refine bd Tryz.f93 159 [] [] fun w0 F0 own kept hk=>?_
 refine bx 3005 ?_
 refine bx 3006 ?_
 refine bx 3007 ?_
 refine ev ?_
 refine sq (fun h1 h1p h1s=>?_) fun h1 h1p h1s=>?_
 try simp only[Q] at h1p
 refine rn0 (r1 rfl) (.nild ?_)
 rotate_left
 try simp only[Q] at h1p
 exfalso;omega
 all_goals (rfl)
theorem zpk {n:Nat}{ta tk:Int}{a b:Pat} (h:b.op=3) (hbn:0≤b.n∧b.n≤9) (hbm:0≤b.m∧b.m≤9):MinusFn w f (n+1) ta tk a b:=by
 unfold MinusFn
 rw[zgK h]
 have er:zbE [lowQ a,minQ (zcu a) (b.n-1),maxQ (lowQ a) (b.m+1),zcu a] 2=zdS a b:=ztv _ _ _ _
 have hrg:=zfy (l:=[lowQ a,minQ (zcu a) (b.n-1),maxQ (lowQ a) (b.m+1),zcu a]) (n:=2) rfl (by omega)
 rw[er] at hrg
 refine bd Tryz.f93 159 [] [] fun w0 F0 own kept hk=>?_
 refine bx 3005 ?_
 refine bx 3006 ?_
 refine bx 3007 ?_
 refine ev ?_
 refine sq (fun h1 h1p h1s=>?_) fun h1 h1p h1s=>?_
 try simp only[Q] at h1p
 exfalso;omega
 try simp only[Q] at h1p
 refine sq (fun h2 h2p h2s=>?_) fun h2 h2p h2s=>?_
 try simp only[Q] at h2p
 refine wc zu1 (zlN) rfl rfl ?_
 refine ev ?_
 refine ar ?_
 refine Walk.minI .none rfl rfl rfl ?_
 refine ev ?_
 refine ar ?_
 refine Walk.maxI .none rfl rfl rfl ?_
 refine ev ?_
 refine si [0,1,2,3] [_,_,_,_] sl62 tz3 ?_
 refine wc zoS (hrg) rfl rfl ?_
 refine ev ?_
 focus (refine rn0 (r1 rfl) (.eqd ?_);all_goals (first|rfl|(simp[h1s,h1p,h2s,h2p];done)|(simp_all;done)|(simp_all;omega)|omega))
 try simp only[Q] at h2p
 exfalso;omega
theorem zpn {n:Nat}{ta tk:Int}{a b:Pat} (h4:a.op=4) (h4b:b.op=4) (hc:¬a.ctor=b.ctor):MinusFn w f (n+1) ta tk a b:=by
 unfold MinusFn
 have e:zaq w (n+1) ⟨ta,tk⟩ a b=[a]:=by rw[zcX h4b h4];exact if_neg hc
 rw[e]
 refine bd Tryz.f93 159 [] [] fun w0 F0 own kept hk=>?_
 refine bx 3005 ?_
 refine bx 3006 ?_
 refine bx 3007 ?_
 refine ev ?_
 refine sq (fun h1 h1p h1s=>?_) fun h1 h1p h1s=>?_
 try simp only[Q] at h1p
 exfalso;omega
 try simp only[Q] at h1p
 refine sq (fun h2 h2p h2s=>?_) fun h2 h2p h2s=>?_
 try simp only[Q] at h2p
 exfalso;omega
 try simp only[Q] at h2p
 refine sq (fun h3 h3p h3s=>?_) fun h3 h3p h3s=>?_
 try simp only[Q] at h3p
 exfalso;omega
 try simp only[Q] at h3p
 refine sq (fun h4 h4p h4s=>?_) fun h4 h4p h4s=>?_
 try simp only[Q] at h4p
 refine si [0] [_] sl26 tz28 ?_
 refine ev ?_
 refine rn0 (r1 rfl) (.eqd ?_)
 rotate_left
 try simp only[Q] at h4p
 exfalso;omega
 all_goals (first|rfl|(cases a;rfl))
theorem zpm (hs:Spa w){n m:Nat} (hn:n+1≤10) (hm:m+1≤11) (hnm:n<m)
  (ih:∀ {ta tk:Int}{a b:Pat},InS (w.length*4) ⟨ta,tk⟩→zad w m ⟨ta,tk⟩ a=true→zad w n ⟨ta,tk⟩ b=true→MinusFn w f n ta tk a b)
  {ta tk:Int}{a b:Pat} (ht:InS (w.length*4) ⟨ta,tk⟩) (ha:zad w (m+1) ⟨ta,tk⟩ a=true) (hb:zad w (n+1) ⟨ta,tk⟩ b=true) (h4:a.op=4) (h4b:b.op=4) (hc:a.ctor=b.ctor):MinusFn w f (n+1) ta tk a b:=by
 obtain⟨c1,c2,c3,-⟩:=zaA ha h4
 obtain⟨d1,d2,d3,-⟩:=zaA hb h4b
 rw[←hc] at d3
 have h3l:=hs.args ⟨ta,tk⟩ a.ctor ht c1
 have ka:=fun i (hi:i<a.kids.length)=>zaP ha hi
 have kb:=fun i (hi:i<b.kids.length)=>zaP hb hi
 rw[zbc h4] at ka
 rw[zbc h4b,←hc] at kb
 have hbd:=zfB hs (n:=n+1) (m:=m+1) (by omega) hn ht ha hb
 have e:zaq w (n+1) ⟨ta,tk⟩ a b=zaK (zaq w n) a.ctor (zaa w ⟨ta,tk⟩ a.ctor) a.kids b.kids []:=by rw[zcX h4b h4];exact if_pos hc
 have hins:=fun i (hi:i<(zaa w ⟨ta,tk⟩ a.ctor).length)=>zby hs.dp ht c1 _ (zag hi)
 have hmi:∀i,i<(zaa w ⟨ta,tk⟩ a.ctor).length→FnD Tryz.prog 93 [.d (sPtr w f),.agg [.d (.i (nth (zaa w ⟨ta,tk⟩ a.ctor) i).data),.d (.i (nth (zaa w ⟨ta,tk⟩ a.ctor) i).index)],.agg [.d (.i (nth a.kids i).op),.d (.i (nth a.kids i).ctor),.d (.i (nth a.kids i).n),.d (.i (nth a.kids i).m),.d (.i (nth a.kids i).var),.d (zac (nth a.kids i).kids)],.agg [.d (.i (nth b.kids i).op),.d (.i (nth b.kids i).ctor),.d (.i (nth b.kids i).n),.d (.i (nth b.kids i).m),.d (.i (nth b.kids i).var),.d (zac (nth b.kids i).kids)]] [] (.d (zac (zaq w n (nth (zaa w ⟨ta,tk⟩ a.ctor) i) (nth a.kids i) (nth b.kids i)))) []:=fun i hi=>ih (ta:=(nth (zaa w ⟨ta,tk⟩ a.ctor) i).data) (tk:=(nth (zaa w ⟨ta,tk⟩ a.ctor) i).index) (hins i hi) (ka i (by omega)) (kb i (by omega))
 have hme:=fun i (hi:i<(zaa w ⟨ta,tk⟩ a.ctor).length)=>zjx hs 11 m (f:=f) (ta:=(nth (zaa w ⟨ta,tk⟩ a.ctor) i).data) (tk:=(nth (zaa w ⟨ta,tk⟩ a.ctor) i).index) (by omega) (hins i hi) (ka i (by omega)) (zdd (by omega) (kb i (by omega)))
 unfold MinusFn
 rw[e] at hbd ⊢
 have hT:∀i out front,i<(zaa w ⟨ta,tk⟩ a.ctor).length→out++zaK (zaq w n) a.ctor ((zaa w ⟨ta,tk⟩ a.ctor).drop i) (a.kids.drop i) (b.kids.drop i) front=zaK (zaq w n) a.ctor (zaa w ⟨ta,tk⟩ a.ctor) a.kids b.kids []→
   out.length+(zaq w n (nth (zaa w ⟨ta,tk⟩ a.ctor) i) (nth a.kids i) (nth b.kids i)).length≤20000000:=fun i out front hi h=>by
  rw[zhn hi (by omega) (by omega)] at h
  have:=congrArg List.length h
  simp only[List.length_append,List.length_map] at this
  omega
 refine bd Tryz.f93 159 [14,15] [] fun w0 F0 own kept hk=>?_
 refine bx 3005 ?_
 refine bx 3006 ?_
 refine bx 3007 ?_
 refine evs [14,15] [] ?_
 refine sq (fun h1 h1p h1s=>?_) fun h1 h1p h1s=>?_
 try simp only[Q,Pat.cs_len] at h1p
 exfalso;omega
 try simp only[Q,Pat.cs_len] at h1p
 refine sq (fun h2 h2p h2s=>?_) fun h2 h2p h2s=>?_
 try simp only[Q,Pat.cs_len] at h2p
 exfalso;omega
 try simp only[Q,Pat.cs_len] at h2p
 refine sq (fun h3 h3p h3s=>?_) fun h3 h3p h3s=>?_
 try simp only[Q,Pat.cs_len] at h3p
 exfalso;omega
 try simp only[Q,Pat.cs_len] at h3p
 refine sq (fun h4 h4p h4s=>?_) fun h4 h4p h4s=>?_
 try simp only[Q,Pat.cs_len] at h4p
 exfalso;omega
 try simp only[Q,Pat.cs_len] at h4p
 refine Walk.assignNil 9 6 .none rfl rfl ?_
 refine Walk.assignNil 8 6 .none rfl rfl ?_
 refine tv ?_
 refine wc zjc (zdi hs.dp.wt (zcc ht) c1) rfl rfl ?_
 refine evd [14,15] [] ?_
 refine dr ?_
 refine CWp.loopX (ι:=Nat×List Pat×List Pat) hk (fun s=>[(94,.d (.i (s.1:Int))),(14,.gl 9 (s.2.1.map Pat.cc)),(15,.gl 8 (s.2.2.map Pat.cc))]) [16,17,19,20,21,22,95,96,97,98,99,100,101,102,103,104,105,106,107,108,109,110,111,112,113,114,115,116,117,118,119,120,121,122,123,124,125,126,127,128,129,130,131,132,133,134,135,136,137,138,139,140,141,142,143,144,145,146,147,148,149,150,151,152,153,154,155,156,157] (fun s=>[(9,some (.tok ((s.2.1.map Pat.cc)).length 6)),(8,some (.tok ((s.2.2.map Pat.cc)).length 6))]) (fun s=>s.1≤a.kids.length∧s.2.2.length=s.1∧s.2.1++zaK (zaq w n) a.ctor ((zaa w ⟨ta,tk⟩ a.ctor).drop s.1) (a.kids.drop s.1) (b.kids.drop s.1) s.2.2=zaK (zaq w n) a.ctor (zaa w ⟨ta,tk⟩ a.ctor) a.kids b.kids []) (fun s=>a.kids.length-s.1) (0,[],[]) ⟨by simp,rfl,rfl⟩ ⟨⟨_,rfl,LeA.eqi ?_⟩,⟨⟨_,rfl,LeA.glg ?_⟩,⟨⟨_,rfl,LeA.glg ?_⟩,trivial⟩⟩⟩ ⟨zab ?_,⟨zab ?_,trivial⟩⟩ (fun x=>rfl) (fun s hg2=>?_)
 iterate 5 focus (first|rfl|(simp;done)|(simp_all;done)|omega|(simp;omega))
 refine evc [14,15] [] ?_
 refine sq (fun h5 h5p h5s=>?_) fun h5 h5p h5s=>?_
 try simp only[Q,Pat.cs_len] at h5p
 refine Walk.idx za8 .none rfl rfl rfl rfl (zau (by omega)) rfl ?_
 refine evs [14,15] [] ?_
 refine ab 3017 tz25 ?_
 refine evs [14,15] [] ?_
 refine so ty25 ?_
 refine tv ?_
 refine Walk.idx sl26 .none rfl rfl rfl rfl (zaI (by omega)) rfl ?_
 refine evd [14,15] [] ?_
 refine Walk.idx sl26 .none rfl rfl rfl rfl (zaI (by omega)) rfl ?_
 refine evd [14,15] [] ?_
 refine wc zrn (hmi s.1 (by omega)) rfl rfl ?_
 refine evd [14,15] [] ?_
 refine dr ?_
 refine CWp.loopX (ι:=List (Pat)×List (Pat)) hk (fun x=>[(113,.d (.i (x.1.length:Int))),(14,.gl 9 ((s.2.1++x.1.map (fun z=>zbg a.ctor (s.2.2++[z]++a.kids.drop (s.1+1)))).map Pat.cc))]) [19,20,114,115,116,117,118,119,120,121,122,123,124,125,126,127,128,129,130,131,132,133,134] (fun x=>[(9,some (.tok (((s.2.1++x.1.map (fun z=>zbg a.ctor (s.2.2++[z]++a.kids.drop (s.1+1)))).map Pat.cc)).length 6))]) (fun x=>x.1++x.2=(zaq w n (nth (zaa w ⟨ta,tk⟩ a.ctor) s.1) (nth a.kids s.1) (nth b.kids s.1))) (fun x=>x.2.length) ([],(zaq w n (nth (zaa w ⟨ta,tk⟩ a.ctor) s.1) (nth a.kids s.1) (nth b.kids s.1))) (by simp) ⟨⟨_,rfl,LeA.eqi ?_⟩,⟨⟨_,rfl,LeA.glg ?_⟩,trivial⟩⟩ ⟨zab ?_,trivial⟩ (fun x=>rfl) (fun x hg3=>?_)
 iterate 3 focus (first|rfl|(simp;done)|(simp only[List.map_append,List.append_assoc,List.map_cons,List.map_nil];done)|(simp only[List.map_append,List.append_assoc,List.map_cons,List.map_nil];rfl)|(rw[List.append_nil] at hg3;rw[hg3];done)|omega|(simp;omega))
 obtain⟨pre,rest⟩:=x
 dsimp only at hg3 ⊢
 refine evc [14,15] [] ?_
 refine sq (fun h6 h6p h6s=>?_) fun h6 h6p h6s=>?_
 try simp only[Q,Pat.cs_len] at h6p
 rcases rest with _|⟨y,rest⟩
 ·exfalso;simp_all
 refine Walk.idx sl26 .none rfl rfl rfl rfl (Pat.cs_at' hg3) rfl ?_
 refine evs [14,15] [] ?_
 refine ab 3019 tz28 ?_
 refine so ty28 ?_
 refine tv ?_
 refine si [0] [_] sl26 tz28 ?_
 refine evd [14,15] [] ?_
 refine ar ?_ (by first|(constructor<;>omega)|(have h9:=hT s.1 s.2.1 s.2.2 (by omega) hg2.2.2;have h8:=congrArg List.length hg3;simp only[List.length_append,List.length_cons] at h8;constructor<;>omega))
 refine Walk.cut_l (b:=s.1+1) sl26 .none rfl rfl rfl (by intro x hx;first|(simp at hx;subst hx;rfl)|exact zbD _ x hx|exact za5 _ x hx) rfl rfl (by simp only[Pat.cs_len];omega) ?_
 refine si [0,1,2] [_,_,_] zd3 tz26 ?_
 refine wc zu3 (zun (A:=s.2.2) (y:=y) (xs:=(Pat.cs a.kids).drop (s.1+1)) (B:=a.kids.drop (s.1+1)) (by rw[Pat.cs_cd,Pat.cs_cd,List.map_drop]) (by rw[List.length_drop];omega)) rfl rfl ?_
 refine evd [14,15] [] ?_
 refine dr ?_
 refine bu [0,1,5] [_,_,_] st28 ?_
 refine si [0] [_] sl26 tz28 ?_
 refine ap sl26 zz28 rfl rfl rfl (by intro x hx;first|(simp at hx;subst hx;rfl)|exact zbD _ x hx|exact za5 _ x hx) (by first|(have h9:=hT s.1 s.2.1 s.2.2 (by omega) hg2.2.2;have h8:=congrArg List.length hg3;simp at h8 ⊢;omega)|(simp;omega)) ?_
 refine asg ?_
 refine tv ?_
 refine ar ?_ (by first|(constructor<;>omega)|(have h9:=hT s.1 s.2.1 s.2.2 (by omega) hg2.2.2;have h8:=congrArg List.length hg3;simp only[List.length_append,List.length_cons] at h8;constructor<;>omega))
 refine Exists.intro ((pre++[y],rest)) ⟨(by have hz:=hg3;rw[←hz];simp),(by simp),sx ⟨⟨_,rfl,LeA.eqi ?_⟩,⟨⟨_,rfl,LeA.glg ?_⟩,trivial⟩⟩ ⟨zab ?_,trivial⟩⟩
 iterate 3 focus (first|rfl|(simp;done)|(simp only[List.map_append,List.append_assoc,List.map_cons,List.map_nil];done)|(simp only[List.map_append,List.append_assoc,List.map_cons,List.map_nil];rfl)|(rw[List.append_nil] at hg3;rw[hg3];done)|omega|(simp;omega))
 try simp only[Q,Pat.cs_len] at h6p
 have hrest:rest=[]:=by
  rcases rest with _|⟨a,b⟩
  ·rfl
  ·exfalso;have hz:=congrArg List.length (hg3);simp only[List.length_append,List.length_cons,List.length_map] at hz;omega
 subst hrest
 refine Walk.idx sl26 .none rfl rfl rfl rfl (zaI (by omega)) rfl ?_
 refine evd [14,15] [] ?_
 refine Walk.idx sl26 .none rfl rfl rfl rfl (zaI (by omega)) rfl ?_
 refine evd [14,15] [] ?_
 refine wc ztQ (hme s.1 (by omega)) rfl rfl ?_
 refine evd [14,15] [] ?_
 refine ab 3021 tz28 ?_
 refine so ty28 ?_
 refine evd [14,15] [] ?_
 refine dr ?_
 refine sq (fun h7 h7p h7s=>?_) fun h7 h7p h7s=>?_
 try simp only[Q,Pat.cs_len] at h7p
 refine rn0 (r1 rfl) (.gld ?_)
 rotate_left
 try simp only[Q,Pat.cs_len] at h7p
 refine si [0] [_] sl26 tz28 ?_
 refine ap sl26 zz28 rfl rfl rfl (by intro x hx;first|(simp at hx;subst hx;rfl)|exact zbD _ x hx|exact za5 _ x hx) (by first|(have h9:=hT s.1 s.2.1 s.2.2 (by omega) hg2.2.2;have h8:=congrArg List.length hg3;simp at h8 ⊢;omega)|(simp;omega)) ?_
 refine asg ?_
 refine tv ?_
 refine ar ?_ (by first|(constructor<;>omega)|(have h9:=hT s.1 s.2.1 s.2.2 (by omega) hg2.2.2;have h8:=congrArg List.length hg3;simp only[List.length_append,List.length_cons] at h8;constructor<;>omega))
 refine Exists.intro ((s.1+1,s.2.1++(zaq w n (nth (zaa w ⟨ta,tk⟩ a.ctor) s.1) (nth a.kids s.1) (nth b.kids s.1)).map (fun z=>zbg a.ctor (s.2.2++[z]++a.kids.drop (s.1+1))),s.2.2++[zcP 11 (nth a.kids s.1) (nth b.kids s.1)])) ⟨⟨by dsimp only;omega,by dsimp only;rw[List.length_append,hg2.2.1];rfl,by dsimp only;rw[List.append_assoc,←zky (by omega) (by omega) (by omega) (by assumption)];exact hg2.2.2⟩,(by dsimp only;omega),sx ⟨⟨_,rfl,LeA.eqi ?_⟩,⟨⟨_,rfl,LeA.glg ?_⟩,⟨⟨_,rfl,LeA.glg ?_⟩,trivial⟩⟩⟩ ⟨zab ?_,⟨zab ?_,trivial⟩⟩⟩
 iterate 5 focus (first|rfl|(simp;done)|(simp_all;done)|omega|(simp;omega))
 try simp only[Q,Pat.cs_len] at h5p
 refine rn0 (r1 rfl) (.gld ?_)
 rotate_left
 all_goals (first|rfl|(rw[←hg2.2.2,zl1 (by omega),List.append_nil,Pat.cs_cd];done)|(rw[List.append_nil] at hg3;rw[←hg2.2.2,zkw (by omega) (by omega) (by omega) (by assumption),←hg3,Pat.cs_cd];all_goals rfl))
theorem zpl (hs:Spa w){n:Nat}{ta tk:Int}{a b:Pat} (ht:InS (w.length*4) ⟨ta,tk⟩) (h1:a.op=1) (h4b:b.op=4) (hbd:(zaq w (n+1) ⟨ta,tk⟩ a b).length≤20000000)
  (hC:∀c∈zah w ⟨ta,tk⟩,MinusFn w f (n+1) ta tk (zbO w ⟨ta,tk⟩ c) b):MinusFn w f (n+1) ta tk a b:=by
 have e:zaq w (n+1) ⟨ta,tk⟩ a b=(zah w ⟨ta,tk⟩).flatMap fun c=>zaq w (n+1) ⟨ta,tk⟩ (zbO w ⟨ta,tk⟩ c) b:=by
  rw[zfA h4b h1]
  exact congrArg (fun g=>(zah w ⟨ta,tk⟩).flatMap g) (funext fun c=>(zcX h4b rfl).symm)
 unfold MinusFn
 rw[e] at hbd ⊢
 have hcl:=(hs.ctors _ ht).1
 have hpre:∀ {pre rest:List Int}{y:Int},pre++y::rest=zah w ⟨ta,tk⟩→(pre.flatMap fun c=>zaq w (n+1) ⟨ta,tk⟩ (zbO w ⟨ta,tk⟩ c) b).length+(zaq w (n+1) ⟨ta,tk⟩ (zbO w ⟨ta,tk⟩ y) b).length≤20000000:=fun h=>by
  rw[←h,List.flatMap_append,List.flatMap_cons] at hbd
  simp only[List.length_append] at hbd
  omega
 have hmem:∀ {pre rest:List Int}{y:Int},pre++y::rest=zah w ⟨ta,tk⟩→y∈zah w ⟨ta,tk⟩:=fun h=>by rw[←h];simp
 refine bd Tryz.f93 159 [11] [] fun w0 F0 own kept hk=>?_
 refine bx 3005 ?_
 refine bx 3006 ?_
 refine bx 3007 ?_
 refine evs [11] [] ?_
 refine sq (fun h1 h1p h1s=>?_) fun h1 h1p h1s=>?_
 try simp only[Q,Pat.cs_len] at h1p
 exfalso;omega
 try simp only[Q,Pat.cs_len] at h1p
 refine sq (fun h2 h2p h2s=>?_) fun h2 h2p h2s=>?_
 try simp only[Q,Pat.cs_len] at h2p
 exfalso;omega
 try simp only[Q,Pat.cs_len] at h2p
 refine sq (fun h3 h3p h3s=>?_) fun h3 h3p h3s=>?_
 try simp only[Q,Pat.cs_len] at h3p
 refine Walk.assignNil 9 6 .none rfl rfl ?_
 refine tv ?_
 refine wc zlm (zei hs.dp.wt (zcc ht)) rfl rfl ?_
 refine evd [11] [] ?_
 refine dr ?_
 refine CWp.loopX (ι:=List (Int)×List (Int)) hk (fun x=>[(61,.d (.i (x.1.length:Int))),(11,.gl 9 (Pat.cs (x.1.flatMap fun c=>zaq w (n+1) ⟨ta,tk⟩ (zbO w ⟨ta,tk⟩ c) b)))]) [13,62,63,64,65,66,67,68,69,70,71,72,73,74,75] (fun x=>[(9,some (.tok ((Pat.cs (x.1.flatMap fun c=>zaq w (n+1) ⟨ta,tk⟩ (zbO w ⟨ta,tk⟩ c) b))).length 6))]) (fun x=>x.1++x.2=zah w ⟨ta,tk⟩) (fun x=>x.2.length) ([],zah w ⟨ta,tk⟩) (by simp) ⟨⟨_,rfl,LeA.eqi ?_⟩,⟨⟨_,rfl,LeA.glg ?_⟩,trivial⟩⟩ ⟨zab ?_,trivial⟩ (fun x=>rfl) (fun x hg1=>?_)
 iterate 3 focus (first|rfl|(rw[List.flatMap_append,Pat.cs_cd,Pat.cs_cd,Pat.cs_cd,List.map_append];simp;done)|(simp[Pat.cs_len];done)|omega|(simp;omega))
 obtain⟨pre,rest⟩:=x
 dsimp only at hg1 ⊢
 refine evc [11] [] ?_
 refine sq (fun h4 h4p h4s=>?_) fun h4 h4p h4s=>?_
 try simp only[Q,Pat.cs_len] at h4p
 rcases rest with _|⟨y,rest⟩
 ·exfalso;simp_all
 refine Walk.idx sl62 .none rfl rfl rfl rfl (zaN hg1) rfl ?_
 refine evs [11] [] ?_
 refine wc zu2 (zoi hs.dp.wt (f:=f) (zcc ht) (hmem hg1) (hs.args _ _ ht (hmem hg1))) rfl rfl ?_
 refine evd [11] [] ?_
 refine wc zrn (hC y (hmem hg1)) rfl rfl ?_
 refine ap sl26 zz28 rfl rfl rfl (by exact za5 _) (by have h9:=hpre hg1;simp only[Pat.cs_len];omega) ?_
 refine asg ?_
 refine dr ?_
 refine ar ?_
 refine Exists.intro ((pre++[y],rest)) ⟨(by have hz:=hg1;rw[←hz];simp),(by simp),sx ⟨⟨_,rfl,LeA.eqi ?_⟩,⟨⟨_,rfl,LeA.glg ?_⟩,trivial⟩⟩ ⟨zab ?_,trivial⟩⟩
 iterate 3 focus (first|rfl|(rw[List.flatMap_append,Pat.cs_cd,Pat.cs_cd,Pat.cs_cd,List.map_append];simp;done)|(simp[Pat.cs_len];done)|omega|(simp;omega))
 try simp only[Q,Pat.cs_len] at h4p
 have hrest:rest=[]:=by
  rcases rest with _|⟨a,b⟩
  ·rfl
  ·exfalso;have hz:=congrArg List.length (hg1);simp only[List.length_append,List.length_cons,List.length_map] at hz;omega
 subst hrest
 refine rn0 (r1 rfl) (.gld ?_)
 rotate_left
 try simp only[Q,Pat.cs_len] at h3p
 exfalso;omega
 all_goals (first|rfl|(rw[List.append_nil] at hg1;rw[hg1];done))
theorem ziR (hs:Spa w):∀(n m:Nat){ta tk:Int}{a b:Pat},n<m→n≤10→m≤11→InS (w.length*4) ⟨ta,tk⟩→zad w m ⟨ta,tk⟩ a=true→zad w n ⟨ta,tk⟩ b=true→MinusFn w f n ta tk a b
 |0,m,ta,tk,a,b,_,_,_,_,_,hb=>by simp[zad] at hb
 |n+1,0,ta,tk,a,b,h,_,_,_,_,_=>by omega
 |n+1,m+1,ta,tk,a,b,h,hn,hm,ht,ha,hb=>by
  have hC:∀ {a:Pat},zad w (m+1) ⟨ta,tk⟩ a=true→a.op=4→b.op=4→MinusFn w f (n+1) ta tk a b:=fun {a} ha h4 h4b=>by
   by_cases hc:a.ctor=b.ctor
   ·exact zpm hs hn hm (by omega) (fun h1 h2 h3=>ziR hs n m (by omega) (by omega) (by omega) h1 h2 h3) ht ha hb h4 h4b hc
   ·exact zpn h4 h4b hc
  rcases zbv hb with h1|h3|h4b
  ·exact zpj h1
  ·have:=zbI hb h3
   exact zpk h3 ⟨by omega,by omega⟩ ⟨by omega,by omega⟩
  ·by_cases h1:a.op=1
   ·obtain⟨m',rfl⟩:∃m',m=m'+1:=⟨m-1,by omega⟩
    exact zpl hs ht h1 h4b (zfB hs h hn ht ha hb) (fun c hc=>hC (zcF hc) rfl h4b)
   ·exact hC ha (by have:=zde ha hb h1 (by omega);omega) h4b
end
abbrev zll (x:UInt8):List D:=[.int .u8 (x.toNat:Int)]
abbrev zcy (b:Str):D:= .sl (b.map zll)
abbrev rdB (b:Str) (p:Nat):Res:= .box [.d (zcy b),.d (.i p)]
theorem zmD (u:UInt8):0≤IntKind.i64.wrap (u.toNat:Int)∧IntKind.i64.wrap (u.toNat:Int)≤255:=by
 have h:u.toNat<256:=u.toNat_lt
 rw[zef (by omega)]
 omega
def zhq (b:Str) (p:Nat):Int:=
 IntKind.i64.wrap ((nth b (p % b.length)).toNat:Int)*131+IntKind.i64.wrap ((nth b ((p*7+3) % b.length)).toNat:Int)*1117+((p:Int)+1-1)*29+((p:Int)+1-1) / ((b.map zll).length:Int)*53
def zax (b:Str) (p:Nat) (n:Int):Int:=
 if n<1∨b.length=0 then 0
 else if p<b.length then IntKind.i64.wrap ((nth b p).toNat:Int) % n
 else xorV (zhq b p) (zhq b p / 64) % n
theorem zc2 {b:Str}{p:Nat}{n:Int} (h:1≤n):0≤zax b p n∧zax b p n<n:=by
 unfold zax
 split
 ·omega
 ·split
  ·exact⟨Int.emod_nonneg _ (by omega),Int.emod_lt_of_pos _ (by omega)⟩
  ·exact⟨Int.emod_nonneg _ (by omega),Int.emod_lt_of_pos _ (by omega)⟩
theorem zbp {b:Str}{p:Nat}{n:Int} (hb:b.length≤2000) (hp:p≤1000000000000) (hn:n≤1000000000000):
  FnD Tryz.prog 57 [.ref 900 0,.d (.i n)] [(900,some (rdB b p))] (.d (.i (zax b p n))) [(900,some (rdB b (p+1)))]:=by
 have w1:=zmD (nth b (p % b.length))
 have w2:=zmD (nth b ((p*7+3) % b.length))
 have w3:=zmD (nth b p)
 have hlen:((b.map zll).length:Int)=b.length:=by simp
 have d1:0≤((p:Int)+1-1) / ((b.map zll).length:Int):=Int.ediv_nonneg (by omega) (by omega)
 have d2:((p:Int)+1-1) / ((b.map zll).length:Int)≤(p:Int)+1-1:=Int.ediv_le_self _ (by omega)
 have hx:0≤zhq b p∧zhq b p≤100*1000000000000:=by unfold zhq;omega
 have hx2:=zuO (m:=zhq b p) (n:=zhq b p / 64) (by omega) (by omega)
 have k1:(p:Int)+1-1=(p:Int):=by omega
 have hx3:=hx2
 have hx4:=hx
 unfold zhq at hx3 hx4
 refine bd Tryz.f57 99 [46,57,74,89,94,95,98] [] fun w0 F0 own kept hk=>?_
 refine ar ?_
 refine so ty3 ?_
 refine tv ?_
 refine sq (fun h1 h1p h1s=>?_) fun h1 h1p h1s=>?_
 try simp only[Q] at h1p
 refine sqT ?_
 refine rn [(900,some (rdB b (p+1)))] (r1 rfl) (.eqd ?_) ⟨rfl,rfl⟩ (SubO.get ⟨.inr ?_,⟨.inl rfl,trivial⟩⟩) (zaG rfl)
 rotate_left 2
 try simp only[Q] at h1p
 refine sq (fun h3 h3p h3s=>?_) fun h3 h3p h3s=>?_
 try simp only[Q] at h3p
 refine rn [(900,some (rdB b (p+1)))] (r1 rfl) (.eqd ?_) ⟨rfl,rfl⟩ (SubO.get ⟨.inr ?_,⟨.inl rfl,trivial⟩⟩) (zaG rfl)
 rotate_left 2
 try simp only[Q] at h3p
 refine ar ?_
 refine sq (fun h4 h4p h4s=>?_) fun h4 h4p h4s=>?_
 try simp only[Q] at h4p
 refine Walk.idx (i:=p) sl22 .none rfl rfl rfl (by omega) (zau (by omega)) rfl ?_
 refine evs [46,57,74,89,94,95,98] [] ?_
 refine Walk.conv (by rw[un5];rfl) un3 .none rfl rfl ?_
 refine evs [46,57,74,89,94,95,98] [] ?_
 refine Walk.remI .none rfl rfl rfl (by omega) ?_
 refine evs [46,57,74,89,94,95,98] [] ?_
 refine rn [(900,some (rdB b (p+1)))] (r1 rfl) (.eqd ?_) ⟨rfl,rfl⟩ (SubO.get ⟨.inr ?_,⟨.inl rfl,trivial⟩⟩) (zaG rfl)
 rotate_left 2
 try simp only[Q] at h4p
 refine Walk.remI .none rfl rfl rfl (by omega) ?_
 refine Walk.idx (i:=p % b.length) sl22 .none rfl rfl rfl (by rw[k1,hlen];rfl) (zau (Nat.mod_lt _ (by omega))) rfl ?_
 refine evd [46,57,74,89,94,95,98] [] ?_
 refine Walk.conv (by rw[un5];rfl) un3 .none rfl rfl ?_
 refine evd [46,57,74,89,94,95,98] [] ?_
 refine ar ?_
 refine ar ?_
 refine ar ?_
 refine Walk.remI .none rfl rfl rfl (by omega) ?_
 refine Walk.idx (i:=(p*7+3) % b.length) sl22 .none rfl rfl rfl (by rw[k1,hlen];rfl) (zau (Nat.mod_lt _ (by omega))) rfl ?_
 refine evd [46,57,74,89,94,95,98] [] ?_
 refine Walk.conv (by rw[un5];rfl) un3 .none rfl rfl ?_
 refine evd [46,57,74,89,94,95,98] [] ?_
 refine ar ?_
 refine ar ?_
 refine ar ?_
 refine ar ?_
 refine Walk.quoI .none rfl rfl rfl (by omega) ?_
 refine evd [46,57,74,89,94,95,98] [] ?_
 refine ar ?_
 refine ar ?_
 refine dr ?_
 refine Walk.quoI .none rfl rfl rfl (by omega) ?_
 refine Walk.xorI .none rfl rfl rfl ?_
 refine evs [46,57,74,89,94,95,98] [] ?_
 refine Walk.remI .none rfl rfl rfl (by omega) ?_
 refine evs [46,57,74,89,94,95,98] [] ?_
 refine rn [(900,some (rdB b (p+1)))] (r1 rfl) (.eqd ?_) ⟨rfl,rfl⟩ (SubO.get ⟨.inr ?_,⟨.inl rfl,trivial⟩⟩) (zaG rfl)
 rotate_left 2
 all_goals (first|((refine congrArg D.i ?_;unfold zax;first|(rw[if_pos (by omega)];done)|(rw[if_neg (by omega),if_pos (by omega)];done)|(rw[if_neg (by omega),if_neg (by omega)];rfl));done)|(rfl))
def numV (b:Str) (p:Nat) (l:List Int):Int:=nth l (zax b p l.length).toNat
theorem zcU {b:Str}{p:Nat}{l:List Int} (hb:b.length≤2000) (hp:p≤1000000000000) (hl:1≤l.length) (hl2:l.length≤1000):
  FnD Tryz.prog 84 [.ref 900 0,.d (zcz l)] [(900,some (rdB b p))] (.d (.i (numV b p l))) [(900,some (rdB b (p+1)))]:=by
 have hv:=zc2 (b:=b) (p:=p) (n:=((l.map fun n=>[D.i n]).length:Int)) (by simp;omega)
 have hlen:((l.map fun n=>[D.i n]).length:Int)=l.length:=by simp
 refine bd Tryz.f84 12 [] [] fun w0 F0 own kept hk=>?_
 refine wc zc5 (zbp hb hp (by simp;omega)) rfl rfl ?_
 refine Walk.idx (i:=(zax b p ((l.map fun n=>[D.i n]).length:Int)).toNat) sl62 .none rfl rfl rfl (by omega) (zau (by omega)) rfl ?_
 refine ev ?_
 refine rn [(900,some (rdB b (p+1)))] (r1 rfl) (.eqd ?_) ⟨rfl,rfl⟩ (SubO.get ⟨.inr ?_,⟨.inl rfl,trivial⟩⟩) (zaG rfl)
 rotate_left 2
 all_goals (first|((refine congrArg D.i ?_;unfold numV;rw[hlen]);done)|(rfl))
theorem zht {b:Str} (hb:b.length≤1000000000000):FnD Tryz.prog 56 [.d (zcy b)] [] (.ref 900 0) [(900,some (rdB (b.take 2000) 0))]:=by
 refine bd Tryz.f56 11 [] [] fun w0 F0 own kept hk=>?_
 refine sq (fun h1 h1p h1s=>?_) fun h1 h1p h1s=>?_
 refine Walk.cut_h (b:=2000) sl22 .none rfl rfl rfl (by intro x hx;obtain⟨y,_,rfl⟩:=List.mem_map.1 hx;rfl) rfl rfl (by simp at *;omega) ?_
 refine ev ?_
 refine bu [0] [_] zt7 ?_
 refine bx 900 ?_
 refine ev ?_
 focus (refine rn [(900,some (rdB (b.take 2000) 0))] (r1 rfl) (.refl _) ⟨rfl,rfl⟩ (SubH.get ⟨(by first|(simp[getH,rdB,zcy,List.map_take];done)|(show some (Res.box _)=some (Res.box _);rw[List.take_of_length_le (by simp at *;omega)];rfl)),trivial⟩) (zaG rfl);all_goals (first|rfl|(simp[h1s,h1p];done)|(simp_all;done)|(simp_all;omega)|omega))
 refine bu [0] [_] zt7 ?_
 refine bx 900 ?_
 refine ev ?_
 focus (refine rn [(900,some (rdB (b.take 2000) 0))] (r1 rfl) (.refl _) ⟨rfl,rfl⟩ (SubH.get ⟨(by first|(simp[getH,rdB,zcy,List.map_take];done)|(show some (Res.box _)=some (Res.box _);rw[List.take_of_length_le (by simp at *;omega)];rfl)),trivial⟩) (zaG rfl);all_goals (first|rfl|(simp[h1s,h1p];done)|(simp_all;done)|(simp_all;omega)|omega))
def cutL (c:UInt8):Str→Str→List Str
 |cur,[]=>[cur]
 |cur,x::r=>if x=c then cur::cutL c [] r else cutL c (cur++[x]) r
theorem zd7 (c:UInt8):∀(s cur:Str),(cutL c cur s).length≤s.length+1
 | [],cur=>by simp[cutL]
 |x::r,cur=>by
  simp only[cutL]
  split
  ·have:=zd7 c r [];simp only[List.length_cons];omega
  ·have:=zd7 c r (cur++[x]);simp only[List.length_cons];omega
theorem zim (c:UInt8):∀(s cur:Str),1≤(cutL c cur s).length
 | [],cur=>by simp[cutL]
 |x::r,cur=>by
  simp only[cutL]
  split
  ·simp
  ·exact zim c r (cur++[x])
theorem zil (c:UInt8):∀(s cur:Str) (t:Str),t∈cutL c cur s→t.length≤cur.length+s.length
 | [],cur,t,h=>by simp only[cutL,List.mem_singleton] at h;subst h;simp
 |x::r,cur,t,h=>by
  simp only[cutL] at h
  split at h
  ·rcases List.mem_cons.1 h with rfl|h
   ·simp
   ·have:=zil c r [] t h;simp only[List.length_cons,List.length_nil] at this ⊢;omega
  ·have:=zil c r (cur++[x]) t h;simp only[List.length_append,List.length_cons,List.length_nil] at this ⊢;omega
theorem zg9 {s:Str}{i:Nat} (h:i<s.length):s[i]?=some (nth s i):=by rw[zaJ h];exact List.getElem?_eq_getElem h
theorem zkJ {s:Str}{f i:Nat} (hf:f≤i) (h:i<s.length):(s.take (i+1)).drop f=(s.take i).drop f++[nth s i]:=by
 rw[List.take_add_one,List.getElem?_eq_getElem h,List.drop_append_of_le_length (by simp;omega),zaJ h]
 rfl
theorem zin {s:Str}{f i:Nat}:(s.drop f).take (i-f)=(s.take i).drop f:=by rw[List.drop_take]
theorem zcC {s:Str}{c:UInt8} (hs:s.length≤1000000000000):FnD Tryz.prog 120 [.d (.str s),.d (.int .u8 (c.toNat:Int))] [] (.d (zeP (cutL c [] s))) []:=by
 have hu:∀a:UInt8,((a.toNat:Int)=(c.toNat:Int))↔a=c:=fun a=>by rw[Int.natCast_inj];exact UInt8.toNat_inj
 refine bd Tryz.f120 36 [] [] fun w0 F0 own kept hk=>?_
 refine Walk.sliceEmptyG 1 sl99 .none rfl rfl ?_
 refine ev ?_
 refine CWp.loopX (ι:=Nat×Nat×List Str) hk (fun x=>[(7,.d (.i (x.1:Int))),(6,.d (.i (x.2.1:Int))),(5,.gl 1 (x.2.2.map fun n=>[D.str n]))]) [9,10,11,12,13,14,15,16,17,18,19,20,21,22,23,24,25,26,27,28,29,30,31,32,33,34] (fun x=>[(1,some (.tok ((x.2.2.map fun n=>[D.str n])).length 1))]) (fun x=>x.1≤s.length+1∧x.2.2.length≤x.1∧if x.1=s.length+1 then x.2.2=cutL c [] s else x.2.1≤x.1∧x.2.2++cutL c ((s.take x.1).drop x.2.1) (s.drop x.1)=cutL c [] s) (fun x=>s.length+1-x.1) (0,0,[]) ⟨by simp,by simp,by rw[if_neg (by simp)];simp⟩ ⟨⟨_,rfl,LeA.eqi ?_⟩,⟨⟨_,rfl,LeA.eqi ?_⟩,⟨⟨_,rfl,LeA.glg ?_⟩,trivial⟩⟩⟩ ⟨zab ?_,trivial⟩ (fun x=>rfl) (fun x hg1=>?_)
 iterate 4 focus (first|rfl|(split<;>first|rfl|(exfalso;simp_all;done)|(exfalso;simp_all;omega))|(split<;>first|(simp[zin];done)|(simp;done)|(exfalso;simp_all;done)|(exfalso;simp_all;omega))|(simp;omega))
 refine evc [] [] ?_
 refine sq (fun h1 h1p h1s=>?_) fun h1 h1p h1s=>?_
 try simp only[Q,hu] at h1p
 have hne:¬x.1=s.length+1:=(by omega)
 have hcond:=hg1.2.2
 rw[if_neg hne] at hcond
 have hle:=hcond.1
 refine sq (fun h2 h2p h2s=>?_) fun h2 h2p h2s=>?_
 try simp only[Q,hu] at h2p
 refine sqT ?_
 refine Walk.cutS_lh un9 .none rfl rfl rfl rfl rfl rfl (by omega) (by omega) ?_
 refine si [0] [_] sl99 tz9 ?_
 refine ap sl99 zz9 rfl rfl rfl (by simp) (by simp;omega) ?_
 refine ev ?_
 refine ar ?_
 refine ar ?_
 refine Exists.intro (if x.1=s.length∨nth s x.1=c then (x.1+1,x.1+1,x.2.2++[(s.take x.1).drop x.2.1]) else (x.1+1,x.2.1,x.2.2)) ⟨(by
    have hne:¬x.1=s.length+1:=by omega
    rw[if_neg hne] at hg1
    obtain⟨g1,g2,g3,g4⟩:=hg1
    by_cases he:x.1=s.length
    ·rw[if_pos (.inl he)]
     refine⟨by dsimp only;omega,by simp;omega, ?_⟩
     dsimp only
     rw[if_pos (by omega),←g4,he,List.drop_length]
     rfl
    ·have hlt:x.1<s.length:=by omega
     rw[za1 hlt] at g4
     by_cases hc:nth s x.1=c
     ·rw[if_pos (.inr hc)]
      refine⟨by dsimp only;omega,by simp;omega, ?_⟩
      dsimp only
      rw[if_neg (by omega)]
      refine⟨by omega, ?_⟩
      rw[←g4,cutL,if_pos hc,List.append_assoc]
      simp
     ·rw[if_neg (by simp[he,hc])]
      refine⟨by dsimp only;omega,by dsimp only;omega, ?_⟩
      dsimp only
      rw[if_neg (by omega)]
      refine⟨by omega, ?_⟩
      rw[←g4,cutL,if_neg hc,zkJ g3 hlt]),(by split<;>(dsimp only;omega)),sx ⟨⟨_,rfl,LeA.eqi ?_⟩,⟨⟨_,rfl,LeA.eqi ?_⟩,⟨⟨_,rfl,LeA.glg ?_⟩,trivial⟩⟩⟩ ⟨zab ?_,trivial⟩⟩
 iterate 4 focus (first|rfl|(split<;>first|rfl|(exfalso;simp_all;done)|(exfalso;simp_all;omega))|(split<;>first|(simp[zin];done)|(simp;done)|(exfalso;simp_all;done)|(exfalso;simp_all;omega))|(simp;omega))
 try simp only[Q,hu] at h2p
 refine Walk.idxS un9 (.some rfl rfl h2) rfl rfl rfl rfl (zg9 (by omega)) ?_
 refine evs [] [(19,false)] ?_ ⟨⟨_,rfl,h2⟩,trivial⟩
 refine sq (fun h4 h4p h4s=>?_) fun h4 h4p h4s=>?_
 try simp only[Q,hu] at h4p
 refine Walk.cutS_lh un9 .none rfl rfl rfl rfl rfl rfl (by omega) (by omega) ?_
 refine si [0] [_] sl99 tz9 ?_
 refine ap sl99 zz9 rfl rfl rfl (by simp) (by simp;omega) ?_
 refine ev ?_
 refine ar ?_
 refine ar ?_
 refine Exists.intro (if x.1=s.length∨nth s x.1=c then (x.1+1,x.1+1,x.2.2++[(s.take x.1).drop x.2.1]) else (x.1+1,x.2.1,x.2.2)) ⟨(by
    have hne:¬x.1=s.length+1:=by omega
    rw[if_neg hne] at hg1
    obtain⟨g1,g2,g3,g4⟩:=hg1
    by_cases he:x.1=s.length
    ·rw[if_pos (.inl he)]
     refine⟨by dsimp only;omega,by simp;omega, ?_⟩
     dsimp only
     rw[if_pos (by omega),←g4,he,List.drop_length]
     rfl
    ·have hlt:x.1<s.length:=by omega
     rw[za1 hlt] at g4
     by_cases hc:nth s x.1=c
     ·rw[if_pos (.inr hc)]
      refine⟨by dsimp only;omega,by simp;omega, ?_⟩
      dsimp only
      rw[if_neg (by omega)]
      refine⟨by omega, ?_⟩
      rw[←g4,cutL,if_pos hc,List.append_assoc]
      simp
     ·rw[if_neg (by simp[he,hc])]
      refine⟨by dsimp only;omega,by dsimp only;omega, ?_⟩
      dsimp only
      rw[if_neg (by omega)]
      refine⟨by omega, ?_⟩
      rw[←g4,cutL,if_neg hc,zkJ g3 hlt]),(by split<;>(dsimp only;omega)),sx ⟨⟨_,rfl,LeA.eqi ?_⟩,⟨⟨_,rfl,LeA.eqi ?_⟩,⟨⟨_,rfl,LeA.glg ?_⟩,trivial⟩⟩⟩ ⟨zab ?_,trivial⟩⟩
 iterate 4 focus (first|rfl|(split<;>first|rfl|(exfalso;simp_all;done)|(exfalso;simp_all;omega))|(split<;>first|(simp[zin];done)|(simp;done)|(exfalso;simp_all;done)|(exfalso;simp_all;omega))|(simp;omega))
 try simp only[Q,hu] at h4p
 refine ar ?_
 refine Exists.intro (if x.1=s.length∨nth s x.1=c then (x.1+1,x.1+1,x.2.2++[(s.take x.1).drop x.2.1]) else (x.1+1,x.2.1,x.2.2)) ⟨(by
    have hne:¬x.1=s.length+1:=by omega
    rw[if_neg hne] at hg1
    obtain⟨g1,g2,g3,g4⟩:=hg1
    by_cases he:x.1=s.length
    ·rw[if_pos (.inl he)]
     refine⟨by dsimp only;omega,by simp;omega, ?_⟩
     dsimp only
     rw[if_pos (by omega),←g4,he,List.drop_length]
     rfl
    ·have hlt:x.1<s.length:=by omega
     rw[za1 hlt] at g4
     by_cases hc:nth s x.1=c
     ·rw[if_pos (.inr hc)]
      refine⟨by dsimp only;omega,by simp;omega, ?_⟩
      dsimp only
      rw[if_neg (by omega)]
      refine⟨by omega, ?_⟩
      rw[←g4,cutL,if_pos hc,List.append_assoc]
      simp
     ·rw[if_neg (by simp[he,hc])]
      refine⟨by dsimp only;omega,by dsimp only;omega, ?_⟩
      dsimp only
      rw[if_neg (by omega)]
      refine⟨by omega, ?_⟩
      rw[←g4,cutL,if_neg hc,zkJ g3 hlt]),(by split<;>(dsimp only;omega)),sx ⟨⟨_,rfl,LeA.eqi ?_⟩,⟨⟨_,rfl,LeA.eqi ?_⟩,⟨⟨_,rfl,LeA.glg ?_⟩,trivial⟩⟩⟩ ⟨zab ?_,trivial⟩⟩
 iterate 4 focus (first|rfl|(split<;>first|rfl|(exfalso;simp_all;done)|(exfalso;simp_all;omega))|(split<;>first|(simp[zin];done)|(simp;done)|(exfalso;simp_all;done)|(exfalso;simp_all;omega))|(simp;omega))
 try simp only[Q,hu] at h1p
 refine rn0 (r1 rfl) (.gld ?_)
 rotate_left
 all_goals (have e:x.1=s.length+1:=(by omega);rw[if_pos e] at hg1;rw[hg1.2.2])
def zrt (names:List Str) (s:Str):Int:=if s=[73] then -1 else if s∈names then idxF (fun n=>decide (n=s)) names 0 else -2
theorem znd {names:List Str}{s:Str} (hn:names.length≤1000000000000):FnD Tryz.prog 211 [.d (zeP names),.d (.str s)] [] (.d (.i (zrt names s))) []:=by
 refine bd Tryz.f211 21 [] [] fun w0 F0 own kept hk=>?_
 refine sq (fun h1 h1p h1s=>?_) fun h1 h1p h1s=>?_
 try simp only[Q] at h1p
 refine rn0 (r1 rfl) (.eqd ?_)
 rotate_left
 try simp only[Q] at h1p
 refine CWp.loopX (ι:=List (Str)×List (Str)) hk (fun x=>[(5,.d (.i (x.1.length:Int)))]) [4,8,9,10,11,12,13,14,15,16,17,18,19,20] (fun x=>[]) (fun x=>x.1++x.2=names∧s∉x.1∧idxF (fun n=>decide (n=s)) x.2 x.1.length=idxF (fun n=>decide (n=s)) names 0) (fun x=>x.2.length) ([],names) ⟨by simp,by simp,rfl⟩ ⟨⟨_,rfl,LeA.eqi ?_⟩,trivial⟩ trivial (fun x=>rfl) (fun x hg1=>?_)
 focus (first|rfl|(simp;done)|(simp_all;done)|omega)
 obtain⟨pre,rest⟩:=x
 dsimp only at hg1 ⊢
 refine evc [] [] ?_
 refine sq (fun h2 h2p h2s=>?_) fun h2 h2p h2s=>?_
 try simp only[Q] at h2p
 rcases rest with _|⟨y,rest⟩
 ·exfalso;simp_all
 refine Walk.idx sl99 .none rfl rfl rfl rfl (zaN hg1.1) rfl ?_
 refine ev ?_
 refine sq (fun h3 h3p h3s=>?_) fun h3 h3p h3s=>?_
 try simp only[Q] at h3p
 refine rn0 (r1 rfl) (.eqd ?_)
 rotate_left
 try simp only[Q] at h3p
 refine ar ?_
 refine Exists.intro ((pre++[y],rest)) ⟨⟨(by have hz:=hg1.1;rw[←hz];simp),⟨(by have h1:=hg1.2.1;simp_all[eq_comm]),(by rw[←hg1.2.2];simp_all[idxF])⟩⟩,(by simp),sx ⟨⟨_,rfl,LeA.eqi ?_⟩,trivial⟩ trivial⟩
 focus (first|rfl|(simp;done)|(simp_all;done)|omega)
 try simp only[Q] at h2p
 have hrest:rest=[]:=by
  rcases rest with _|⟨a,b⟩
  ·rfl
  ·exfalso;have hz:=congrArg List.length (hg1.1);simp only[List.length_append,List.length_cons,List.length_map] at hz;omega
 subst hrest
 refine rn0 (r1 rfl) (.eqd ?_)
 rotate_left
 all_goals (refine congrArg D.i ?_;unfold zrt;by_cases hz:s=[73]<;>by_cases hm:s∈names<;>simp only[hz,hm,if_true,if_false];all_goals first|rfl|omega|(exfalso;simp_all;done)|(exfalso;apply hm;subst h3p;rw[←hg1.1];simp;done)|(exfalso;apply hg1.2.1;rw[←hg1.1,List.append_nil] at hm;exact hm)|(rw[←hg1.2.2];simp_all[idxF];done)|(exfalso;rw[←hg1.1] at hm;simp_all;done))
def zeU (names:List Str) (s:Str):Ty:=
 if s=[] then ⟨-2,0⟩
 else ⟨zrt names (s.take 1),if s.drop 1=[42] then -1 else if s.length=2∧48≤(nth s 1).toNat∧(nth s 1).toNat≤57 then ((nth s 1).toNat:Int)-48 else 0⟩
theorem zrq {b:UInt8} (h1:48≤b.toNat) (h2:b.toNat≤57):IntKind.i64.wrap (IntKind.u8.wrap ((b.toNat:Int)-48))=(b.toNat:Int)-48:=by
 rw[zuN,zef (by omega)];omega
theorem zfr {names:List Str}{s:Str} (hn:names.length≤1000000000000) (hs:s.length≤1000000000000):
  FnD Tryz.prog 173 [.d (zeP names),.d (.str s)] [] (.agg [.d (.i (zeU names s).data),.d (.i (zeU names s).index)]) []:=by
 have hlen:s≠[]→1≤s.length:=fun h=>by rcases s with _|⟨a,r⟩;exact absurd rfl h;simp
 refine bd Tryz.f173 39 [35] [] fun w0 F0 own kept hk=>?_
 refine ab 3004 tz25 ?_
 refine tv ?_
 refine sq (fun h1 h1p h1s=>?_) fun h1 h1p h1s=>?_
 try simp only[Q] at h1p
 refine bu [0] [_] st25 ?_
 refine so ty25 ?_
 refine tv ?_
 refine rn0 (.cons (.cellA ty25 rfl rfl rfl) .nil) (.agg (.cons (.eqd ?_) (.cons (.eqd ?_) .nil)))
 rotate_left 2
 try simp only[Q] at h1p
 refine Walk.cutS_h (b:=1) un9 .none rfl rfl rfl rfl (by have:=hlen (by simp_all);omega) ?_
 refine wc zvn (znd (names:=names) (s:=s.take 1) hn) rfl rfl ?_
 refine bu [0] [_] st25 ?_
 refine ab 3005 tz25 ?_
 refine so ty25 ?_
 refine tv ?_
 refine Walk.cutS_l (b:=1) un9 .none rfl rfl rfl rfl (by have:=hlen (by simp_all);omega) ?_
 refine evs [35] [] ?_
 refine sq (fun h2 h2p h2s=>?_) fun h2 h2p h2s=>?_
 try simp only[Q] at h2p
 refine so ty3 ?_
 refine tv ?_
 refine so ty25 ?_
 refine tv ?_
 refine rn0 (.cons (.cellA ty25 rfl rfl rfl) .nil) (.agg (.cons (.eqd ?_) (.cons (.eqd ?_) .nil)))
 rotate_left 2
 try simp only[Q] at h2p
 refine sq (fun h3 h3p h3s=>?_) fun h3 h3p h3s=>?_
 try simp only[Q] at h3p
 refine Walk.idxS (i:=1) un9 (.some rfl rfl h3) rfl rfl rfl rfl (zg9 (by simp_all;omega)) ?_
 refine evs [35] [(23,true)] ?_ ⟨⟨_,rfl,h3⟩,trivial⟩
 refine sq (fun h4 h4p h4s=>?_) fun h4 h4p h4s=>?_
 try simp only[Q] at h4p
 refine Walk.idxS (i:=1) un9 (.some rfl rfl h4) rfl rfl rfl rfl (zg9 (by simp_all;omega)) ?_
 refine evs [35] [(28,true)] ?_ ⟨⟨_,rfl,h4⟩,trivial⟩
 refine sq (fun h5 h5p h5s=>?_) fun h5 h5p h5s=>?_
 try simp only[Q] at h5p
 refine Walk.idxS (i:=1) un9 .none rfl rfl rfl rfl (zg9 (by simp_all;omega)) ?_
 refine Walk.subW .none rfl rfl rfl ?_
 refine Walk.conv (by rw[un5];rfl) un3 .none rfl rfl ?_
 refine evs [35] [] ?_
 refine so ty3 ?_
 refine tv ?_
 refine so ty25 ?_
 refine tv ?_
 refine rn0 (.cons (.cellA ty25 rfl rfl rfl) .nil) (.agg (.cons (.eqd ?_) (.cons (.eqd ?_) .nil)))
 rotate_left 2
 try simp only[Q] at h5p
 refine so ty25 ?_
 refine tv ?_
 refine rn0 (.cons (.cellA ty25 rfl rfl rfl) .nil) (.agg (.cons (.eqd ?_) (.cons (.eqd ?_) .nil)))
 rotate_left 2
 try simp only[Q] at h4p
 refine sqF ?_
 refine so ty25 ?_
 refine tv ?_
 refine rn0 (.cons (.cellA ty25 rfl rfl rfl) .nil) (.agg (.cons (.eqd ?_) (.cons (.eqd ?_) .nil)))
 rotate_left 2
 try simp only[Q] at h3p
 refine sqF ?_
 refine sqF ?_
 refine so ty25 ?_
 refine tv ?_
 refine rn0 (.cons (.cellA ty25 rfl rfl rfl) .nil) (.agg (.cons (.eqd ?_) (.cons (.eqd ?_) .nil)))
 rotate_left 2
 all_goals (unfold zeU;first|rfl|(rw[zrq (b:=nth s 1) (by omega) (by omega),if_neg h1p];dsimp only;rw[if_neg h2p,if_pos ⟨by omega,by omega,by omega⟩];done)|(rw[if_pos h1p];done)|(rw[if_neg h1p];done)|(rw[if_neg h1p];dsimp only;rw[if_pos h2p];done)|(rw[if_neg h1p];dsimp only;rw[if_neg h2p,if_neg (fun hh=>by omega)];done)|(simp_all;done))
def zo7 (s:Str):Prop:=2<s.length∧nth s (s.length-2)=58
instance (s:Str):Decidable (zo7 s):=inferInstanceAs (Decidable (_∧_))
def zgS (names:List Str) (ix:Int) (s:Str):Ctor:=
 let parts:=cutL 40 [] s
 ⟨nth parts 0,if parts.length<2∨(nth parts 1).length=0 then [] else ((cutL 44 [] ((nth parts 1).take ((nth parts 1).length-1))).take 4).map (zeU names),ix⟩
def zcH (names:List Str) (s:Str):Ctor:=
 if zo7 s then zgS names (((nth s (s.length-1)).toNat:Int)-48) (s.take (s.length-2)) else zgS names 0 s
theorem zdb {α β:Type} [Inhabited α]{f:α→β}{l:List α}{i:Nat} (h:i<l.length):(l.map f).take (i+1)=(l.map f).take i++[f (nth l i)]:=by
 rw[List.take_add_one,List.getElem?_map,List.getElem?_eq_getElem h]
 simp[nth,List.getD,h]
theorem zn8 {α:Type}{l:List α}{i:Nat} (h:i=4∨(i≤4∧l.length≤i)):l.take i=l.take 4:=by
 rcases h with rfl|⟨h1,h2⟩
 ·rfl
 ·rw[List.take_of_length_le h2,List.take_of_length_le (by omega)]
theorem zhE {a b:UInt8}:((a.toNat:Int)=(b.toNat:Int))↔a=b:=by rw[Int.natCast_inj];exact UInt8.toNat_inj
theorem zs1 (a:UInt8):IntKind.i64.wrap (a.toNat:Int)=(a.toNat:Int):=by have:=a.toNat_lt;exact zef (by omega)
theorem zd8 {c:UInt8}{s:Str}{i:Nat} (h:i<(cutL c [] s).length):(nth (cutL c [] s) i).length≤s.length:=by
 have:=zil c s [] _ (zag h);simpa using this
theorem zi7 {names:List Str}{s:Str} (hn:names.length≤1000000000000) (hs:s.length≤1000000):
  FnD Tryz.prog 121 [.d (zeP names),.d (.str s)] [] (.agg [.d (.str (zcH names s).name),.d (zcw (zcH names s).args),.d (.i (zcH names s).index)]) []:=by
 have hwb:=zs1 (nth s (s.length-1))
 have hwl:=(nth s (s.length-1)).toNat_lt
 by_cases hc:zo7 s
 ·have hc1:=hc.1
  have hct:(s.take (s.length-2)).length=s.length-2:=by rw[List.length_take];omega
  have hcl:=zd7 40 (s.take (s.length-2)) []
  have hcp:=zim 40 (s.take (s.length-2)) []
  have hn1:=fun h=>zd8 (c:=40) (s:=s.take (s.length-2)) (i:=1) h
  have hal:=zd7 44 ((nth (cutL 40 [] (s.take (s.length-2))) 1).take ((nth (cutL 40 [] (s.take (s.length-2))) 1).length-1)) []
  refine bd Tryz.f121 83 [] [2,7] fun w0 F0 own kept hk=>?_
  refine ab 3004 zgC ?_
  refine tv ?_
  refine bu [] [] zt8 ?_
  refine ab 3005 zgC ?_
  refine so zc9 ?_
  refine tv ?_
  refine CWp.regionJ ?_
  refine WRest.join 11 [(20,.d (.bool (true)))] [10,11,12,13,14,15,16,17,18,19] ?_ ?_
  refine ev ?_
  refine sq (fun h1 h1p h1s=>?_) fun h1 h1p h1s=>?_
  try simp only[Q,List.length_take] at h1p
  refine ar ?_
  refine Walk.idxS (i:=s.length-2) un9 (.some rfl rfl h1) rfl rfl rfl (by omega) (zg9 (by omega)) ?_
  refine evs [] [(13,true)] ?_ ⟨⟨_,rfl,h1⟩,trivial⟩
  exact jn rfl (LeA.eqb (by first|rfl|(exfalso;omega)|(exact decide_eq_true (congrArg (fun z:UInt8=>(z.toNat:Int)) hc.2))|(exact decide_eq_false (fun hh=>hc ⟨by omega,(zhE (b:=58)).1 hh⟩))|(refine(decide_eq_true ?_).symm;omega)|(refine decide_eq_decide.2 ?_;omega)))
  try simp only[Q,List.length_take] at h1p
  exact jn rfl (LeA.eqb (by first|rfl|(exfalso;omega)|(exact decide_eq_true (congrArg (fun z:UInt8=>(z.toNat:Int)) hc.2))|(exact decide_eq_false (fun hh=>hc ⟨by omega,(zhE (b:=58)).1 hh⟩))|(refine(decide_eq_true ?_).symm;omega)|(refine decide_eq_decide.2 ?_;omega)))
  refine WRest.done ?_
  refine tv ?_
  refine sq (fun h2 h2p h2s=>?_) fun h2 h2p h2s=>?_
  try simp only[Q,List.length_take] at h2p
  refine ar ?_
  refine Walk.idxS (i:=s.length-1) un9 .none rfl rfl rfl (by omega) (zg9 (by omega)) ?_
  refine Walk.conv (by rw[un5];rfl) un3 .none rfl rfl ?_
  refine ev ?_
  refine ar ?_
  refine so ty3 ?_
  refine tv ?_
  refine ar ?_
  refine Walk.cutS_h (b:=s.length-2) un9 .none rfl rfl rfl (by omega) (by omega) ?_
  refine ev ?_
  refine wc zfR (zcC (s:=s.take (s.length-2)) (c:=40) (by first|omega|(simp;omega))) rfl rfl ?_
  refine ev ?_
  refine Walk.idx (i:=0) sl99 .none rfl rfl rfl rfl (zau (by omega)) rfl ?_
  refine ev ?_
  refine so ty9 ?_
  refine tv ?_
  refine CWp.regionJ ?_
  refine WRest.join 10 [(49,.d (.bool (decide ((cutL 40 [] (s.take (s.length-2))).length<2∨(nth (cutL 40 [] (s.take (s.length-2))) 1).length=0))))] [40,41,42,43,44,45,46,47,48] ?_ ?_
  refine ev ?_
  refine sq (fun h3 h3p h3s=>?_) fun h3 h3p h3s=>?_
  try simp only[Q,List.length_take] at h3p
  exact jn rfl (LeA.eqb (by first|rfl|(exfalso;omega)|(exact decide_eq_true (congrArg (fun z:UInt8=>(z.toNat:Int)) hc.2))|(exact decide_eq_false (fun hh=>hc ⟨by omega,(zhE (b:=58)).1 hh⟩))|(refine(decide_eq_true ?_).symm;omega)|(refine decide_eq_decide.2 ?_;omega)))
  try simp only[Q,List.length_take] at h3p
  refine Walk.idx (i:=1) sl99 (.some rfl rfl h3) rfl rfl rfl rfl (zau (by omega)) rfl ?_
  refine evs [] [(43,false)] ?_ ⟨⟨_,rfl,h3⟩,trivial⟩
  exact jn rfl (LeA.eqb (by first|rfl|(exfalso;omega)|(exact decide_eq_true (congrArg (fun z:UInt8=>(z.toNat:Int)) hc.2))|(exact decide_eq_false (fun hh=>hc ⟨by omega,(zhE (b:=58)).1 hh⟩))|(refine(decide_eq_true ?_).symm;omega)|(refine decide_eq_decide.2 ?_;omega)))
  refine WRest.done ?_
  refine tv ?_
  refine sq (fun h4 h4p h4s=>?_) fun h4 h4p h4s=>?_
  try simp only[Q,List.length_take] at h4p
  refine so zc9 ?_
  refine tv ?_
  refine rn0 (.cons (.cellA zc9 rfl rfl rfl) .nil) (.agg (.cons (.eqd ?_) (.cons (.nild ?_) (.cons (.eqd ?_) .nil))))
  rotate_left 3
  try simp only[Q,List.length_take] at h4p
  refine Walk.idx (i:=1) sl99 .none rfl rfl rfl rfl (zau (by omega)) rfl ?_
  refine evd [] [] ?_
  refine Walk.idx (i:=1) sl99 .none rfl rfl rfl rfl (zau (by omega)) rfl ?_
  refine evd [] [] ?_
  refine ar ?_
  refine Walk.cutS_h (b:=(nth (cutL 40 [] (s.take (s.length-2))) 1).length-1) un9 .none rfl rfl rfl (by omega) (by omega) ?_
  refine wc zfR (zcC (s:=(nth (cutL 40 [] (s.take (s.length-2))) 1).take ((nth (cutL 40 [] (s.take (s.length-2))) 1).length-1)) (c:=44) (by simp;omega)) rfl rfl ?_
  refine evd [] [] ?_
  refine dr ?_
  refine CWp.tokB 3005 1 1 2 rfl rfl rfl rfl ?_
  refine CWp.loopX (ι:=Nat) hk (fun i=>[(8,.d (.i (i:Int)))]) [61,62,63,64,65,66,67,68,69,70,71,72,73,74,75,76,77,78,79,80,81] (fun i=>[(3005,some (.box [.d (.str (nth (cutL 40 [] (s.take (s.length-2))) 0)),.gl 1 (((((cutL 44 [] ((nth (cutL 40 [] (s.take (s.length-2))) 1).take ((nth (cutL 40 [] (s.take (s.length-2))) 1).length-1))).map (zeU names)).take i)).map Ty.c),.d (.i (((nth s (s.length-1)).toNat:Int)-48))])),(1,some (.tok (((((cutL 44 [] ((nth (cutL 40 [] (s.take (s.length-2))) 1).take ((nth (cutL 40 [] (s.take (s.length-2))) 1).length-1))).map (zeU names)).take i)).map Ty.c).length 2))]) (fun i=>i≤4∧i≤(cutL 44 [] ((nth (cutL 40 [] (s.take (s.length-2))) 1).take ((nth (cutL 40 [] (s.take (s.length-2))) 1).length-1))).length) (fun i=>4-i) 0 ⟨by omega,by omega⟩ ⟨⟨_,rfl,LeA.eqi ?_⟩,trivial⟩ ⟨?_,⟨zab ?_,trivial⟩⟩ (fun x=>rfl) (fun i hg1=>?_)
  focus (first|rfl|(simp;done)|(simp_all;done)|omega|(simp;omega))
  focus (first|rfl|(simp[getH];done)|(show some (Res.box _)=some (Res.box _);rw[hwb];rfl)|(show some (Res.box _)=some (Res.box _);rw[zdb (by omega)];simp;done))
  focus (first|rfl|(simp;done)|(simp_all;done)|omega|(simp;omega))
  refine evc [] [2,7] ?_
  refine sq (fun h5 h5p h5s=>?_) fun h5 h5p h5s=>?_
  try simp only[Q,List.length_take] at h5p
  refine sq (fun h6 h6p h6s=>?_) fun h6 h6p h6s=>?_
  try simp only[Q,List.length_take] at h6p
  refine Walk.idx sl99 .none rfl rfl rfl rfl (zau (by omega)) rfl ?_
  refine evd [] [] ?_
  refine wc zr4 (zfr (names:=names) (s:=nth (cutL 44 [] ((nth (cutL 40 [] (s.take (s.length-2))) 1).take ((nth (cutL 40 [] (s.take (s.length-2))) 1).length-1))) i) hn (by have:=zd8 (c:=44) (s:=(nth (cutL 40 [] (s.take (s.length-2))) 1).take ((nth (cutL 40 [] (s.take (s.length-2))) 1).length-1)) (i:=i) (by omega);simp at this;omega)) rfl rfl ?_
  refine si [0] [_] za8 tz25 ?_
  refine ap za8 zz25 rfl rfl rfl (by simp) (by simp;omega) ?_
  refine evd [] [] ?_
  refine so zub ?_
  refine dr ?_
  refine ar ?_
  refine Exists.intro (i+1) ⟨⟨by omega,by omega⟩,(by omega),sx ⟨⟨_,rfl,LeA.eqi ?_⟩,trivial⟩ ⟨?_,⟨zab ?_,trivial⟩⟩⟩
  focus (first|rfl|(simp;done)|(simp_all;done)|omega|(simp;omega))
  focus (first|rfl|(simp[getH];done)|(show some (Res.box _)=some (Res.box _);rw[hwb];rfl)|(show some (Res.box _)=some (Res.box _);rw[zdb (by omega)];simp;done))
  focus (first|rfl|(simp;done)|(simp_all;done)|omega|(simp;omega))
  try simp only[Q,List.length_take] at h6p
  refine so zc9 ?_
  refine tv ?_
  refine rn0 (.cons (.cellA zc9 rfl rfl rfl) .nil) (.agg (.cons (.eqd ?_) (.cons (.gld ?_) (.cons (.eqd ?_) .nil))))
  rotate_left 3
  try simp only[Q,List.length_take] at h5p
  refine sqF ?_
  refine so zc9 ?_
  refine tv ?_
  refine rn0 (.cons (.cellA zc9 rfl rfl rfl) .nil) (.agg (.cons (.eqd ?_) (.cons (.gld ?_) (.cons (.eqd ?_) .nil))))
  rotate_left 3
  try simp only[Q,List.length_take] at h2p
  exact absurd h2 (by simp)
  all_goals (unfold zcH;rw[if_pos hc];first|rfl|(rw[hwb];done)|(rw[hwb];rfl)|(unfold zgS;dsimp only;by_cases hq:(cutL 40 [] (s.take (s.length-2))).length<2∨(nth (cutL 40 [] (s.take (s.length-2))) 1).length=0;all_goals first|(exfalso;exact(of_decide_eq_false h4) hq)|(exfalso;exact hq (of_decide_eq_true h4))|(rw[if_pos hq];done)|(rw[if_pos hq];rfl)|(rw[if_neg hq,←List.map_take,zn8 (by omega)];done)))
 ·skip
  have hcl:=zd7 40 (s) []
  have hcp:=zim 40 (s) []
  have hn1:=fun h=>zd8 (c:=40) (s:=s) (i:=1) h
  have hal:=zd7 44 ((nth (cutL 40 [] (s)) 1).take ((nth (cutL 40 [] (s)) 1).length-1)) []
  refine bd Tryz.f121 83 [] [2,7] fun w0 F0 own kept hk=>?_
  refine ab 3004 zgC ?_
  refine tv ?_
  refine bu [] [] zt8 ?_
  refine ab 3005 zgC ?_
  refine so zc9 ?_
  refine tv ?_
  refine CWp.regionJ ?_
  refine WRest.join 11 [(20,.d (.bool (false)))] [10,11,12,13,14,15,16,17,18,19] ?_ ?_
  refine ev ?_
  refine sq (fun h1 h1p h1s=>?_) fun h1 h1p h1s=>?_
  try simp only[Q,List.length_take] at h1p
  refine ar ?_
  refine Walk.idxS (i:=s.length-2) un9 (.some rfl rfl h1) rfl rfl rfl (by omega) (zg9 (by omega)) ?_
  refine evs [] [(13,true)] ?_ ⟨⟨_,rfl,h1⟩,trivial⟩
  exact jn rfl (LeA.eqb (by first|rfl|(exfalso;omega)|(exact decide_eq_true (congrArg (fun z:UInt8=>(z.toNat:Int)) hc.2))|(exact decide_eq_false (fun hh=>hc ⟨by omega,(zhE (b:=58)).1 hh⟩))|(refine(decide_eq_true ?_).symm;omega)|(refine decide_eq_decide.2 ?_;omega)))
  try simp only[Q,List.length_take] at h1p
  exact jn rfl (LeA.eqb (by first|rfl|(exfalso;omega)|(exact decide_eq_true (congrArg (fun z:UInt8=>(z.toNat:Int)) hc.2))|(exact decide_eq_false (fun hh=>hc ⟨by omega,(zhE (b:=58)).1 hh⟩))|(refine(decide_eq_true ?_).symm;omega)|(refine decide_eq_decide.2 ?_;omega)))
  refine WRest.done ?_
  refine tv ?_
  refine sq (fun h2 h2p h2s=>?_) fun h2 h2p h2s=>?_
  try simp only[Q,List.length_take] at h2p
  exact absurd h2 (by simp)
  try simp only[Q,List.length_take] at h2p
  refine wc zfR (zcC (s:=s) (c:=40) (by first|omega|(simp;omega))) rfl rfl ?_
  refine ev ?_
  refine Walk.idx (i:=0) sl99 .none rfl rfl rfl rfl (zau (by omega)) rfl ?_
  refine ev ?_
  refine so ty9 ?_
  refine tv ?_
  refine CWp.regionJ ?_
  refine WRest.join 10 [(49,.d (.bool (decide ((cutL 40 [] (s)).length<2∨(nth (cutL 40 [] (s)) 1).length=0))))] [40,41,42,43,44,45,46,47,48] ?_ ?_
  refine ev ?_
  refine sq (fun h3 h3p h3s=>?_) fun h3 h3p h3s=>?_
  try simp only[Q,List.length_take] at h3p
  exact jn rfl (LeA.eqb (by first|rfl|(exfalso;omega)|(exact decide_eq_true (congrArg (fun z:UInt8=>(z.toNat:Int)) hc.2))|(exact decide_eq_false (fun hh=>hc ⟨by omega,(zhE (b:=58)).1 hh⟩))|(refine(decide_eq_true ?_).symm;omega)|(refine decide_eq_decide.2 ?_;omega)))
  try simp only[Q,List.length_take] at h3p
  refine Walk.idx (i:=1) sl99 (.some rfl rfl h3) rfl rfl rfl rfl (zau (by omega)) rfl ?_
  refine evs [] [(43,false)] ?_ ⟨⟨_,rfl,h3⟩,trivial⟩
  exact jn rfl (LeA.eqb (by first|rfl|(exfalso;omega)|(exact decide_eq_true (congrArg (fun z:UInt8=>(z.toNat:Int)) hc.2))|(exact decide_eq_false (fun hh=>hc ⟨by omega,(zhE (b:=58)).1 hh⟩))|(refine(decide_eq_true ?_).symm;omega)|(refine decide_eq_decide.2 ?_;omega)))
  refine WRest.done ?_
  refine tv ?_
  refine sq (fun h4 h4p h4s=>?_) fun h4 h4p h4s=>?_
  try simp only[Q,List.length_take] at h4p
  refine so zc9 ?_
  refine tv ?_
  refine rn0 (.cons (.cellA zc9 rfl rfl rfl) .nil) (.agg (.cons (.eqd ?_) (.cons (.nild ?_) (.cons (.eqd ?_) .nil))))
  rotate_left 3
  try simp only[Q,List.length_take] at h4p
  refine Walk.idx (i:=1) sl99 .none rfl rfl rfl rfl (zau (by omega)) rfl ?_
  refine evd [] [] ?_
  refine Walk.idx (i:=1) sl99 .none rfl rfl rfl rfl (zau (by omega)) rfl ?_
  refine evd [] [] ?_
  refine ar ?_
  refine Walk.cutS_h (b:=(nth (cutL 40 [] (s)) 1).length-1) un9 .none rfl rfl rfl (by omega) (by omega) ?_
  refine wc zfR (zcC (s:=(nth (cutL 40 [] (s)) 1).take ((nth (cutL 40 [] (s)) 1).length-1)) (c:=44) (by simp;omega)) rfl rfl ?_
  refine evd [] [] ?_
  refine dr ?_
  refine CWp.tokB 3005 1 1 2 rfl rfl rfl rfl ?_
  refine CWp.loopX (ι:=Nat) hk (fun i=>[(8,.d (.i (i:Int)))]) [61,62,63,64,65,66,67,68,69,70,71,72,73,74,75,76,77,78,79,80,81] (fun i=>[(3005,some (.box [.d (.str (nth (cutL 40 [] (s)) 0)),.gl 1 (((((cutL 44 [] ((nth (cutL 40 [] (s)) 1).take ((nth (cutL 40 [] (s)) 1).length-1))).map (zeU names)).take i)).map Ty.c),.d (.i (0))])),(1,some (.tok (((((cutL 44 [] ((nth (cutL 40 [] (s)) 1).take ((nth (cutL 40 [] (s)) 1).length-1))).map (zeU names)).take i)).map Ty.c).length 2))]) (fun i=>i≤4∧i≤(cutL 44 [] ((nth (cutL 40 [] (s)) 1).take ((nth (cutL 40 [] (s)) 1).length-1))).length) (fun i=>4-i) 0 ⟨by omega,by omega⟩ ⟨⟨_,rfl,LeA.eqi ?_⟩,trivial⟩ ⟨?_,⟨zab ?_,trivial⟩⟩ (fun x=>rfl) (fun i hg1=>?_)
  focus (first|rfl|(simp;done)|(simp_all;done)|omega|(simp;omega))
  focus (first|rfl|(simp[getH];done)|(show some (Res.box _)=some (Res.box _);rw[hwb];rfl)|(show some (Res.box _)=some (Res.box _);rw[zdb (by omega)];simp;done))
  focus (first|rfl|(simp;done)|(simp_all;done)|omega|(simp;omega))
  refine evc [] [2,7] ?_
  refine sq (fun h5 h5p h5s=>?_) fun h5 h5p h5s=>?_
  try simp only[Q,List.length_take] at h5p
  refine sq (fun h6 h6p h6s=>?_) fun h6 h6p h6s=>?_
  try simp only[Q,List.length_take] at h6p
  refine Walk.idx sl99 .none rfl rfl rfl rfl (zau (by omega)) rfl ?_
  refine evd [] [] ?_
  refine wc zr4 (zfr (names:=names) (s:=nth (cutL 44 [] ((nth (cutL 40 [] (s)) 1).take ((nth (cutL 40 [] (s)) 1).length-1))) i) hn (by have:=zd8 (c:=44) (s:=(nth (cutL 40 [] (s)) 1).take ((nth (cutL 40 [] (s)) 1).length-1)) (i:=i) (by omega);simp at this;omega)) rfl rfl ?_
  refine si [0] [_] za8 tz25 ?_
  refine ap za8 zz25 rfl rfl rfl (by simp) (by simp;omega) ?_
  refine evd [] [] ?_
  refine so zub ?_
  refine dr ?_
  refine ar ?_
  refine Exists.intro (i+1) ⟨⟨by omega,by omega⟩,(by omega),sx ⟨⟨_,rfl,LeA.eqi ?_⟩,trivial⟩ ⟨?_,⟨zab ?_,trivial⟩⟩⟩
  focus (first|rfl|(simp;done)|(simp_all;done)|omega|(simp;omega))
  focus (first|rfl|(simp[getH];done)|(show some (Res.box _)=some (Res.box _);rw[hwb];rfl)|(show some (Res.box _)=some (Res.box _);rw[zdb (by omega)];simp;done))
  focus (first|rfl|(simp;done)|(simp_all;done)|omega|(simp;omega))
  try simp only[Q,List.length_take] at h6p
  refine so zc9 ?_
  refine tv ?_
  refine rn0 (.cons (.cellA zc9 rfl rfl rfl) .nil) (.agg (.cons (.eqd ?_) (.cons (.gld ?_) (.cons (.eqd ?_) .nil))))
  rotate_left 3
  try simp only[Q,List.length_take] at h5p
  refine sqF ?_
  refine so zc9 ?_
  refine tv ?_
  refine rn0 (.cons (.cellA zc9 rfl rfl rfl) .nil) (.agg (.cons (.eqd ?_) (.cons (.gld ?_) (.cons (.eqd ?_) .nil))))
  rotate_left 3
  all_goals (unfold zcH;rw[if_neg hc];first|rfl|(rw[hwb];done)|(rw[hwb];rfl)|(unfold zgS;dsimp only;by_cases hq:(cutL 40 [] (s)).length<2∨(nth (cutL 40 [] (s)) 1).length=0;all_goals first|(exfalso;exact(of_decide_eq_false h4) hq)|(exfalso;exact hq (of_decide_eq_true h4))|(rw[if_pos hq];done)|(rw[if_pos hq];rfl)|(rw[if_neg hq,←List.map_take,zn8 (by omega)];done)))
def decV (n:Int):Str:=strN [IntKind.u8.wrap (48+n)]
theorem zkL (n:Int):(decV n).length=1:=rfl
def zjz (n:Int):Str:=if n=0 then [] else if n = -1 then [42] else decV n
theorem zlR (n:Int):(zjz n).length≤1:=by unfold zjz;split;simp;split;simp;rw[zkL];omega
def zf5 (w:List Data) (t:Ty):Str:=if t.data = -1 then [73] else (nth w t.data.toNat).name++zjz t.index
def zdr (w:List Data):Bool→List Ty→Str
 |_,[]=>[]
 |b,t::r=>((if b then [40] else [44])++zf5 w t)++zdr w false r
def zcx (w:List Data) (c:Ctor):Str:=
 let o:=c.name++zdr w true c.args
 let p:=if 0<c.args.length then o++[41] else o
 if 0<c.index then (p++[58])++decV c.index else p
def zcf (w:List Data):Bool→List Ctor→Str
 |_,[]=>[]
 |b,c::r=>((if b then [] else [124])++zcx w c)++zcf w false r
def zhQ (w:List Data):Bool→List Data→Str
 |_,[]=>[]
 |b,d::r=>((if b then [] else [59])++(d.name++[61])++zcf w true d.ctors)++zhQ w false r
def ze2 (w:List Data):Str:=zhQ w true w
structure TB (w:List Data):Prop where
 len:w.length≤4
 dn:∀d∈w,d.name.length≤1∧d.ctors.length≤4
 cn:∀d∈w,∀c∈d.ctors,c.name.length≤5∧c.args.length≤3∧0≤c.index∧c.index≤3
 ar:∀d∈w,∀c∈d.ctors,∀t∈c.args,(t.data = -1∨(0≤t.data∧t.data.toNat<w.length))∧ -1≤t.index∧t.index≤3
theorem ztJ {w:List Data} (hv:zaH w=true):TB w:=by
 have hW:=(zcY w).1 hv
 refine⟨hW.len,fun d hd=>?_,fun d hd c hc=>?_,fun d hd c hc t ht=>?_⟩
 ·have h:=hW.data d hd
  have h1:=h.1
  simp only[zaF,Bool.and_eq_true,decide_eq_true_eq] at h1
  omega
 ·have h:=hW.ctor d hd c hc
  simp only[zaL,zb2,zam,Bool.and_eq_true,decide_eq_true_eq] at h
  omega
 ·have h:=hW.ctor d hd c hc
  simp only[zaL,Bool.and_eq_true,Bool.not_eq_true',List.any_eq_false] at h
  have hax:zbt w.length t=true:=by
   have:=h.2.2.2 t ht
   cases h:zbt w.length t with
   |true=>rfl
   |false=>rw[h] at this;exact absurd rfl this
  simp only[zbt,zam,Bool.or_eq_true,Bool.and_eq_true,decide_eq_true_eq,and_true] at hax
  omega
theorem zgA {w:List Data} (hb:TB w){t:Ty} (ht:t.data = -1∨(0≤t.data∧t.data.toNat<w.length)):(zf5 w t).length≤2:=by
 unfold zf5
 split
 ·simp
 ·rename_i h
  have h1:=(hb.dn _ (zag (l:=w) (i:=t.data.toNat) (by omega))).1
  have h2:=zlR t.index
  simp only[List.length_append];omega
theorem zgP {w:List Data} (hb:TB w):∀(l:List Ty) (b:Bool),(∀t∈l,t.data = -1∨(0≤t.data∧t.data.toNat<w.length))→(zdr w b l).length≤3*l.length
 | [],_,_=>by simp[zdr]
 |t::r,b,h=>by
  have h1:=zgA hb (h t (by simp))
  have h2:=zgP hb r false (fun x hx=>h x (by simp[hx]))
  simp only[zdr,List.length_append,List.length_cons]
  have h3:(if b=true then [(40:UInt8)] else [44]).length=1:=by split<;>rfl
  omega
theorem zo4 {w:List Data} (hb:TB w){c:Ctor} (h1:c.name.length≤5∧c.args.length≤3) (h2:∀t∈c.args,t.data = -1∨(0≤t.data∧t.data.toNat<w.length)):(zcx w c).length≤20:=by
 have h3:=zgP hb c.args true h2
 unfold zcx
 dsimp only
 have h4:=zkL c.index
 split<;>split<;>simp only[List.length_append,List.length_cons,List.length_nil]<;>omega
theorem zks {w:List Data}:∀(l:List Ctor) (b:Bool),(∀c∈l,(zcx w c).length≤20)→(zcf w b l).length≤21*l.length
 | [],_,_=>by simp[zcf]
 |c::r,b,h=>by
  have h1:=h c (by simp)
  have h2:=zks r false (fun x hx=>h x (by simp[hx]))
  simp only[zcf,List.length_append,List.length_cons]
  have h3:(if b=true then ([]:Str) else [124]).length≤1:=by split<;>simp
  omega
theorem zfH {n:Int} (h0:0≤n) (h9:n≤9):FnD Tryz.prog 215 [.d (.i n)] [] (.d (.str (decV n))) []:=by
 refine bd Tryz.f215 31 [30] [] fun w0 F0 own kept hk=>?_
 refine sq (fun h1 h1p h1s=>?_) fun h1 h1p h1s=>?_
 try simp only[Q] at h1p
 exfalso;omega
 try simp only[Q] at h1p
 refine sq (fun h2 h2p h2s=>?_) fun h2 h2p h2s=>?_
 try simp only[Q] at h2p
 exfalso;omega
 try simp only[Q] at h2p
 refine CWp.loopX (ι:=Unit) hk (fun x=>[(0,.d (.i n)),(3,.d (.str []))]) [12,13,14,15,16,17,18,19,20,21,22,23] (fun x=>[]) (fun x=>True) (fun x=>0) () trivial ⟨⟨_,rfl,LeA.eqi ?_⟩,⟨⟨_,rfl,LeA.eqs ?_⟩,trivial⟩⟩ trivial (fun x=>rfl) (fun x hg1=>?_)
 iterate 2 focus (first|rfl|(simp;done)|(simp_all;done)|omega)
 refine evc [30] [] ?_
 refine sq (fun h3 h3p h3s=>?_) fun h3 h3p h3s=>?_
 try simp only[Q] at h3p
 exfalso;omega
 try simp only[Q] at h3p
 refine ar ?_
 refine Walk.conv (by rw[un3];rfl) un5 .none rfl rfl ?_
 refine si [0] [_] sl22 tz5 ?_
 refine Walk.bytesStr sl22 un9 (by kernel_rfl) .none rfl rfl rfl (by first|rfl|exact zn0 _) ?_
 refine evs [30] [] ?_
 refine Walk.catS .none rfl rfl rfl (by simp[strN]) ?_
 refine evs [30] [] ?_
 refine rn0 (r1 rfl) (.eqd ?_)
 rotate_left
 all_goals (first|rfl|(refine congrArg D.str ?_;unfold decV;rw[List.append_nil];done)|(simp[decV];done))
theorem zmk {n:Int} (h0 : -1≤n) (h9:n≤9):FnD Tryz.prog 228 [.d (.i n)] [] (.d (.str (zjz n))) []:=by
 refine bd Tryz.f228 10 [] [] fun w0 F0 own kept hk=>?_
 refine sq (fun h1 h1p h1s=>?_) fun h1 h1p h1s=>?_
 try simp only[Q] at h1p
 refine rn0 (r1 rfl) (.eqd ?_)
 rotate_left
 try simp only[Q] at h1p
 refine sq (fun h2 h2p h2s=>?_) fun h2 h2p h2s=>?_
 try simp only[Q] at h2p
 refine rn0 (r1 rfl) (.eqd ?_)
 rotate_left
 try simp only[Q] at h2p
 refine wc zo1 (zfH (by omega) (by omega)) rfl rfl ?_
 refine ev ?_
 refine rn0 (r1 rfl) (.eqd ?_)
 rotate_left
 all_goals (refine congrArg D.str ?_;unfold zjz;first|(rw[if_pos (by omega)];done)|(rw[if_neg (by omega),if_pos (by omega)];done)|(rw[if_neg (by omega),if_neg (by omega)];done)|(rw[if_pos (by omega)];rfl)|(rw[if_neg (by omega),if_pos (by omega)];rfl))
theorem zh4 {w:List Data} (hb:TB w){a k:Int} (ha:a = -1∨(0≤a∧a.toNat<w.length)) (hk : -1≤k∧k≤3):FnD Tryz.prog 214 [.d (zan w),.agg [.d (.i a),.d (.i k)]] [] (.d (.str (zf5 w ⟨a,k⟩))) []:=by
 have hl:=zlR k
 have hdn:a≠ -1→(nth w a.toNat).name.length≤1:=fun h=>(hb.dn _ (zag (l:=w) (i:=a.toNat) (by omega))).1
 refine bd Tryz.f214 18 [17] [] fun w0 F0 own kept hk=>?_
 refine bx 3003 ?_
 refine evs [17] [] ?_
 refine sq (fun h1 h1p h1s=>?_) fun h1 h1p h1s=>?_
 try simp only[Q] at h1p
 refine rn0 (r1 rfl) (.eqd ?_)
 rotate_left
 try simp only[Q] at h1p
 refine Walk.idx (i:=a.toNat) sl23 .none rfl rfl rfl (by omega) (zau (by omega)) rfl ?_
 refine evd [17] [] ?_
 refine wc zvr (zmk (by omega) (by omega)) rfl rfl ?_
 refine Walk.catS .none rfl rfl rfl (by have:=hdn h1p;omega) ?_
 refine evd [17] [] ?_
 refine dr ?_
 refine rn0 (r1 rfl) (.eqd ?_)
 rotate_left
 all_goals (refine congrArg D.str ?_;unfold zf5;first|(rw[if_pos (by assumption)];done)|(rw[if_neg (by assumption)];done)|(rw[if_pos (by assumption)];rfl))
theorem zdn {w:List Data} (hb:TB w){s:Str}{l:List Ty}{k:Int} (hs:s.length≤5) (hl:l.length≤3) (hk:0≤k∧k≤3)
  (hl2:∀t∈l,(t.data = -1∨(0≤t.data∧t.data.toNat<w.length))∧ -1≤t.index∧t.index≤3):
  FnD Tryz.prog 177 [.d (zan w),.agg [.d (.str s),.d (zcw l),.d (.i k)]] [] (.d (.str (zcx w ⟨s,l,k⟩))) []:=by
 have hall:=zgP hb l true (fun t ht=>(hl2 t ht).1)
 have hdl:=zkL k
 refine bd Tryz.f177 47 [19,21,30,36,41,45] [] fun w0 F0 own kept hk=>?_
 refine bx 3003 ?_
 refine evs [19,21,30,36,41,45] [] ?_
 refine CWp.loopX (ι:=List (Ty)×List (Ty)×(Str)) hk (fun x=>[(6,.d (.i (x.1.length:Int))),(5,.d (.str x.2.2))]) [9,10,11,12,13,14,15,16,17,18,19,20,21,22,23,24,25,26,27,28,29,30] (fun x=>[]) (fun x=>x.1++x.2.1=l∧x.2.2.length≤5+3*x.1.length∧x.2.2++zdr w (decide (x.1.length=0)) x.2.1=s++zdr w true l) (fun x=>x.2.1.length) ([],l,s) ⟨by simp,by simp;omega,by simp⟩ ⟨⟨_,rfl,LeA.eqi ?_⟩,⟨⟨_,rfl,LeA.eqs ?_⟩,trivial⟩⟩ trivial (fun x=>rfl) (fun x hg1=>?_)
 iterate 2 focus (first|rfl|(simp;done)|omega|(dsimp only;rw[if_pos (by omega),List.append_assoc];done)|(dsimp only;rw[if_neg (by omega),List.append_assoc];done))
 obtain⟨pre,rest,o⟩:=x
 dsimp only at hg1 ⊢
 refine evc [19,21,30,36,41,45] [] ?_
 refine sq (fun h1 h1p h1s=>?_) fun h1 h1p h1s=>?_
 try simp only[Q] at h1p
 rcases rest with _|⟨y,rest⟩
 ·exfalso;simp_all
 have hq:(zf5 w ⟨y.data,y.index⟩).length≤2:=zgA hb (hl2 y (by rw[←hg1.1];simp)).1
 refine sq (fun h2 h2p h2s=>?_) fun h2 h2p h2s=>?_
 try simp only[Q] at h2p
 refine Walk.catS .none rfl rfl rfl (by have hz:=congrArg List.length hg1.1;simp only[List.length_append,List.length_cons,List.length_nil] at hz ⊢;omega) ?_
 refine evs [19,21,30,36,41,45] [] ?_
 refine Walk.idx za8 .none rfl rfl rfl rfl (zaN hg1.1) rfl ?_
 refine evs [19,21,30,36,41,45] [] ?_
 refine wc zsa (zh4 hb (a:=y.data) (k:=y.index) (hl2 y (by rw[←hg1.1];simp)).1 (hl2 y (by rw[←hg1.1];simp)).2) rfl rfl ?_
 refine Walk.catS .none rfl rfl rfl (by have hz:=congrArg List.length hg1.1;simp only[List.length_append,List.length_cons,List.length_nil] at hz ⊢;omega) ?_
 refine evs [19,21,30,36,41,45] [] ?_
 refine ar ?_
 refine Exists.intro ((pre++[y],rest,o++((if pre.length=0 then [40] else [44])++zf5 w y))) ⟨⟨(by have hz:=hg1.1;rw[←hz];simp),⟨(by have hq:=zgA hb (hl2 y (by rw[←hg1.1];simp)).1;have h3:(if pre.length=0 then [(40:UInt8)] else [44]).length=1:=(by split<;>rfl);simp only[List.length_append,List.length_cons,List.length_nil];omega),(by rw[←hg1.2.2];simp[zdr])⟩⟩,(by simp),sx ⟨⟨_,rfl,LeA.eqi ?_⟩,⟨⟨_,rfl,LeA.eqs ?_⟩,trivial⟩⟩ trivial⟩
 iterate 2 focus (first|rfl|(simp;done)|omega|(dsimp only;rw[if_pos (by omega),List.append_assoc];done)|(dsimp only;rw[if_neg (by omega),List.append_assoc];done))
 try simp only[Q] at h2p
 refine Walk.catS .none rfl rfl rfl (by have hz:=congrArg List.length hg1.1;simp only[List.length_append,List.length_cons,List.length_nil] at hz ⊢;omega) ?_
 refine evs [19,21,30,36,41,45] [] ?_
 refine Walk.idx za8 .none rfl rfl rfl rfl (zaN hg1.1) rfl ?_
 refine evs [19,21,30,36,41,45] [] ?_
 refine wc zsa (zh4 hb (a:=y.data) (k:=y.index) (hl2 y (by rw[←hg1.1];simp)).1 (hl2 y (by rw[←hg1.1];simp)).2) rfl rfl ?_
 refine Walk.catS .none rfl rfl rfl (by have hz:=congrArg List.length hg1.1;simp only[List.length_append,List.length_cons,List.length_nil] at hz ⊢;omega) ?_
 refine evs [19,21,30,36,41,45] [] ?_
 refine ar ?_
 refine Exists.intro ((pre++[y],rest,o++((if pre.length=0 then [40] else [44])++zf5 w y))) ⟨⟨(by have hz:=hg1.1;rw[←hz];simp),⟨(by have hq:=zgA hb (hl2 y (by rw[←hg1.1];simp)).1;have h3:(if pre.length=0 then [(40:UInt8)] else [44]).length=1:=(by split<;>rfl);simp only[List.length_append,List.length_cons,List.length_nil];omega),(by rw[←hg1.2.2];simp[zdr])⟩⟩,(by simp),sx ⟨⟨_,rfl,LeA.eqi ?_⟩,⟨⟨_,rfl,LeA.eqs ?_⟩,trivial⟩⟩ trivial⟩
 iterate 2 focus (first|rfl|(simp;done)|omega|(dsimp only;rw[if_pos (by omega),List.append_assoc];done)|(dsimp only;rw[if_neg (by omega),List.append_assoc];done))
 try simp only[Q] at h1p
 have hrest:rest=[]:=by
  rcases rest with _|⟨a,b⟩
  ·rfl
  ·exfalso;have hz:=congrArg List.length (hg1.1);simp only[List.length_append,List.length_cons,List.length_map] at hz;omega
 subst hrest
 refine sq (fun h3 h3p h3s=>?_) fun h3 h3p h3s=>?_
 try simp only[Q] at h3p
 refine Walk.catS .none rfl rfl rfl (by have hz:=congrArg List.length hg1.1;simp only[List.length_append,List.length_cons,List.length_nil] at hz ⊢;omega) ?_
 refine evs [19,21,30,36,41,45] [] ?_
 refine sq (fun h4 h4p h4s=>?_) fun h4 h4p h4s=>?_
 try simp only[Q] at h4p
 refine Walk.catS .none rfl rfl rfl (by have hz:=congrArg List.length hg1.1;simp only[List.length_append,List.length_cons,List.length_nil] at hz ⊢;omega) ?_
 refine evs [19,21,30,36,41,45] [] ?_
 refine wc zo1 (zfH (by omega) (by omega)) rfl rfl ?_
 refine Walk.catS .none rfl rfl rfl (by have hz:=congrArg List.length hg1.1;simp only[List.length_append,List.length_cons,List.length_nil] at hz ⊢;omega) ?_
 refine evs [19,21,30,36,41,45] [] ?_
 refine rn0 (r1 rfl) (.eqd ?_)
 rotate_left
 try simp only[Q] at h4p
 refine rn0 (r1 rfl) (.eqd ?_)
 rotate_left
 try simp only[Q] at h3p
 refine sq (fun h5 h5p h5s=>?_) fun h5 h5p h5s=>?_
 try simp only[Q] at h5p
 refine Walk.catS .none rfl rfl rfl (by have hz:=congrArg List.length hg1.1;simp only[List.length_append,List.length_cons,List.length_nil] at hz ⊢;omega) ?_
 refine evs [19,21,30,36,41,45] [] ?_
 refine wc zo1 (zfH (by omega) (by omega)) rfl rfl ?_
 refine Walk.catS .none rfl rfl rfl (by have hz:=congrArg List.length hg1.1;simp only[List.length_append,List.length_cons,List.length_nil] at hz ⊢;omega) ?_
 refine evs [19,21,30,36,41,45] [] ?_
 refine rn0 (r1 rfl) (.eqd ?_)
 rotate_left
 try simp only[Q] at h5p
 refine rn0 (r1 rfl) (.eqd ?_)
 rotate_left
 all_goals (refine congrArg D.str ?_;have hfin:=hg1.2.2;simp only[zdr,List.append_nil] at hfin;unfold zcx;dsimp only;rw[←hfin];first|(rw[if_pos (by omega),if_pos (by simp at *;omega)];done)|(rw[if_pos (by omega),if_neg (by simp at *;omega)];done)|(rw[if_neg (by omega),if_pos (by simp at *;omega)];done)|(rw[if_neg (by omega),if_neg (by simp at *;omega)];done))
theorem znh {w:List Data} (hb:TB w):FnD Tryz.prog 123 [.d (zan w)] [] (.d (.str (ze2 w))) []:=by
 have hwl:=hb.len
 have hct:∀d∈w,∀c∈d.ctors,(zcx w c).length≤20:=fun d hd c hc=>zo4 hb ⟨(hb.cn d hd c hc).1,(hb.cn d hd c hc).2.1⟩ (fun t ht=>(hb.ar d hd c hc t ht).1)
 refine bd Tryz.f123 51 [15,22,23,37,49] [] fun w0 F0 own kept hk=>?_
 refine CWp.loopX (ι:=List (Data)×List (Data)×(Str)) hk (fun x=>[(4,.d (.i (x.1.length:Int))),(3,.d (.str x.2.2))]) [5,6,7,8,9,10,11,12,13,14,15,16,17,18,19,20,21,22,23,24,25,26,27,28,29,30,31,32,33,34,35,36,37,38,39,40,41,42,43,44,45,46,47,48,49] (fun x=>[]) (fun x=>x.1++x.2.1=w∧x.2.2.length≤100*x.1.length∧x.2.2++zhQ w (decide (x.1.length=0)) x.2.1=ze2 w) (fun x=>x.2.1.length) ([],w,[]) ⟨by simp,by simp,by simp[ze2]⟩ ⟨⟨_,rfl,LeA.eqi ?_⟩,⟨⟨_,rfl,LeA.eqs ?_⟩,trivial⟩⟩ trivial (fun x=>rfl) (fun x hg1=>?_)
 iterate 2 focus (first|rfl|(simp;done)|omega|(rw[hfin];simp;done))
 obtain⟨pre,rest,o⟩:=x
 dsimp only at hg1 ⊢
 refine evc [15,22,23,37,49] [] ?_
 refine sq (fun h1 h1p h1s=>?_) fun h1 h1p h1s=>?_
 try simp only[Q] at h1p
 rcases rest with _|⟨y,rest⟩
 ·exfalso;simp_all
 have hym:y∈w:=(by rw[←hg1.1];simp);have hyd:=hb.dn y hym;have hpl:pre.length<4:=(by omega);have hcl:=zks (w:=w) y.ctors true (hct y hym)
 refine sq (fun h2 h2p h2s=>?_) fun h2 h2p h2s=>?_
 try simp only[Q] at h2p
 refine Walk.catS .none rfl rfl rfl (by(try simp only[List.length_append,List.length_cons,List.length_nil]);omega) ?_
 refine evs [15,22,23,37,49] [] ?_
 refine Walk.idx sl23 .none rfl rfl rfl rfl (zaN hg1.1) rfl ?_
 refine evs [15,22,23,37,49] [] ?_
 refine Walk.catS .none rfl rfl rfl (by(try simp only[List.length_append,List.length_cons,List.length_nil]);omega) ?_
 refine Walk.catS .none rfl rfl rfl (by(try simp only[List.length_append,List.length_cons,List.length_nil]);omega) ?_
 refine evs [15,22,23,37,49] [] ?_
 refine CWp.loopX (ι:=List (Ctor)×List (Ctor)×(Str)) hk (fun x=>[(5,.d (.i (x.1.length:Int))),(3,.d (.str x.2.2))]) [24,25,26,27,28,29,30,31,32,33,34,35,36,37,38,39,40,41,42,43,44,45,46,47,48,49] (fun x=>[]) (fun x=>x.1++x.2.1=y.ctors∧x.2.2.length≤100*pre.length+4+21*x.1.length∧x.2.2++zcf w (decide (x.1.length=0)) x.2.1=(o++((if pre.length=0 then [] else [59])++(y.name++[61])))++zcf w true y.ctors) (fun x=>x.2.1.length) ([],y.ctors,o++((if pre.length=0 then [] else [59])++(y.name++[61]))) ⟨by simp,(by have h3:(if pre.length=0 then ([]:Str) else [59]).length≤1:=(by split<;>simp);simp only[List.length_append,List.length_cons,List.length_nil];omega),by simp⟩ ⟨⟨_,rfl,LeA.eqi ?_⟩,⟨⟨_,rfl,LeA.eqs ?_⟩,trivial⟩⟩ trivial (fun x=>rfl) (fun x hg2=>?_)
 iterate 2 focus (first|rfl|(simp;done)|omega|(rw[if_neg (by omega)];simp;done)|(rw[if_pos (by omega)];simp;done)|(dsimp only;rw[if_neg (by omega)];simp;done)|(dsimp only;rw[if_pos (by omega)];simp;done))
 obtain⟨pre2,rest2,q⟩:=x
 dsimp only at hg2 ⊢
 refine evc [15,22,23,37,49] [] ?_
 refine Walk.idx sl23 .none rfl rfl rfl rfl (zaN hg1.1) rfl ?_
 refine evs [15,22,23,37,49] [] ?_
 refine sq (fun h3 h3p h3s=>?_) fun h3 h3p h3s=>?_
 try simp only[Q] at h3p
 rcases rest2 with _|⟨c,rest2⟩
 ·exfalso;simp_all
 have hcm:=hct y hym c (by rw[←hg2.1];simp);have hce:(zcx w ⟨c.name,c.args,c.index⟩).length≤20:=hcm;have hp2:=congrArg List.length hg2.1;simp only[List.length_append,List.length_cons] at hp2
 refine sq (fun h4 h4p h4s=>?_) fun h4 h4p h4s=>?_
 try simp only[Q] at h4p
 refine Walk.catS .none rfl rfl rfl (by(try simp only[List.length_append,List.length_cons,List.length_nil]);omega) ?_
 refine evs [15,22,23,37,49] [] ?_
 refine Walk.idx sl23 .none rfl rfl rfl rfl (zaN hg1.1) rfl ?_
 refine evs [15,22,23,37,49] [] ?_
 refine Walk.idx zcJ .none rfl rfl rfl rfl (zaN hg2.1) rfl ?_
 refine evs [15,22,23,37,49] [] ?_
 refine wc zls (zdn hb (s:=c.name) (l:=c.args) (k:=c.index) (hb.cn y hym c (by rw[←hg2.1];simp)).1 (hb.cn y hym c (by rw[←hg2.1];simp)).2.1 (hb.cn y hym c (by rw[←hg2.1];simp)).2.2 (hb.ar y hym c (by rw[←hg2.1];simp))) rfl rfl ?_
 refine Walk.catS .none rfl rfl rfl (by(try simp only[List.length_append,List.length_cons,List.length_nil]);omega) ?_
 refine evs [15,22,23,37,49] [] ?_
 refine ar ?_
 refine Exists.intro ((pre2++[c],rest2,q++((if pre2.length=0 then [] else [124])++zcx w c))) ⟨⟨(by have hz:=hg2.1;rw[←hz];simp),⟨(by have h3:(if pre2.length=0 then ([]:Str) else [124]).length≤1:=(by split<;>simp);simp only[List.length_append,List.length_cons,List.length_nil];omega),(by rw[←hg2.2.2];simp[zcf])⟩⟩,(by simp),sx ⟨⟨_,rfl,LeA.eqi ?_⟩,⟨⟨_,rfl,LeA.eqs ?_⟩,trivial⟩⟩ trivial⟩
 iterate 2 focus (first|rfl|(simp;done)|omega|(rw[if_neg (by omega)];simp;done)|(rw[if_pos (by omega)];simp;done)|(dsimp only;rw[if_neg (by omega)];simp;done)|(dsimp only;rw[if_pos (by omega)];simp;done))
 try simp only[Q] at h4p
 refine Walk.idx sl23 .none rfl rfl rfl rfl (zaN hg1.1) rfl ?_
 refine evs [15,22,23,37,49] [] ?_
 refine Walk.idx zcJ .none rfl rfl rfl rfl (zaN hg2.1) rfl ?_
 refine evs [15,22,23,37,49] [] ?_
 refine wc zls (zdn hb (s:=c.name) (l:=c.args) (k:=c.index) (hb.cn y hym c (by rw[←hg2.1];simp)).1 (hb.cn y hym c (by rw[←hg2.1];simp)).2.1 (hb.cn y hym c (by rw[←hg2.1];simp)).2.2 (hb.ar y hym c (by rw[←hg2.1];simp))) rfl rfl ?_
 refine Walk.catS .none rfl rfl rfl (by(try simp only[List.length_append,List.length_cons,List.length_nil]);omega) ?_
 refine evs [15,22,23,37,49] [] ?_
 refine ar ?_
 refine Exists.intro ((pre2++[c],rest2,q++((if pre2.length=0 then [] else [124])++zcx w c))) ⟨⟨(by have hz:=hg2.1;rw[←hz];simp),⟨(by have h3:(if pre2.length=0 then ([]:Str) else [124]).length≤1:=(by split<;>simp);simp only[List.length_append,List.length_cons,List.length_nil];omega),(by rw[←hg2.2.2];simp[zcf])⟩⟩,(by simp),sx ⟨⟨_,rfl,LeA.eqi ?_⟩,⟨⟨_,rfl,LeA.eqs ?_⟩,trivial⟩⟩ trivial⟩
 iterate 2 focus (first|rfl|(simp;done)|omega|(rw[if_neg (by omega)];simp;done)|(rw[if_pos (by omega)];simp;done)|(dsimp only;rw[if_neg (by omega)];simp;done)|(dsimp only;rw[if_pos (by omega)];simp;done))
 try simp only[Q] at h3p
 have hrest2:rest2=[]:=by
  rcases rest2 with _|⟨a,b⟩
  ·rfl
  ·exfalso;have hz:=congrArg List.length (hg2.1);simp only[List.length_append,List.length_cons,List.length_map] at hz;omega
 subst hrest2
 refine ar ?_
 have hfin:=hg2.2.2;simp only[zcf,List.append_nil] at hfin
 refine Exists.intro ((pre++[y],rest,o++((if pre.length=0 then [] else [59])++(y.name++[61])++zcf w true y.ctors))) ⟨⟨(by have hz:=hg1.1;rw[←hz];simp),⟨(by have h3:(if pre.length=0 then ([]:Str) else [59]).length≤1:=(by split<;>simp);simp only[List.length_append,List.length_cons,List.length_nil];omega),(by rw[←hg1.2.2];simp[zhQ])⟩⟩,(by simp),sx ⟨⟨_,rfl,LeA.eqi ?_⟩,⟨⟨_,rfl,LeA.eqs ?_⟩,trivial⟩⟩ trivial⟩
 iterate 2 focus (first|rfl|(simp;done)|omega|(rw[hfin];simp;done))
 try simp only[Q] at h2p
 refine Walk.idx sl23 .none rfl rfl rfl rfl (zaN hg1.1) rfl ?_
 refine evs [15,22,23,37,49] [] ?_
 refine Walk.catS .none rfl rfl rfl (by(try simp only[List.length_append,List.length_cons,List.length_nil]);omega) ?_
 refine Walk.catS .none rfl rfl rfl (by(try simp only[List.length_append,List.length_cons,List.length_nil]);omega) ?_
 refine evs [15,22,23,37,49] [] ?_
 refine CWp.loopX (ι:=List (Ctor)×List (Ctor)×(Str)) hk (fun x=>[(5,.d (.i (x.1.length:Int))),(3,.d (.str x.2.2))]) [24,25,26,27,28,29,30,31,32,33,34,35,36,37,38,39,40,41,42,43,44,45,46,47,48,49] (fun x=>[]) (fun x=>x.1++x.2.1=y.ctors∧x.2.2.length≤100*pre.length+4+21*x.1.length∧x.2.2++zcf w (decide (x.1.length=0)) x.2.1=(o++((if pre.length=0 then [] else [59])++(y.name++[61])))++zcf w true y.ctors) (fun x=>x.2.1.length) ([],y.ctors,o++((if pre.length=0 then [] else [59])++(y.name++[61]))) ⟨by simp,(by have h3:(if pre.length=0 then ([]:Str) else [59]).length≤1:=(by split<;>simp);simp only[List.length_append,List.length_cons,List.length_nil];omega),by simp⟩ ⟨⟨_,rfl,LeA.eqi ?_⟩,⟨⟨_,rfl,LeA.eqs ?_⟩,trivial⟩⟩ trivial (fun x=>rfl) (fun x hg2=>?_)
 iterate 2 focus (first|rfl|(simp;done)|omega|(rw[if_neg (by omega)];simp;done)|(rw[if_pos (by omega)];simp;done)|(dsimp only;rw[if_neg (by omega)];simp;done)|(dsimp only;rw[if_pos (by omega)];simp;done))
 obtain⟨pre2,rest2,q⟩:=x
 dsimp only at hg2 ⊢
 refine evc [15,22,23,37,49] [] ?_
 refine Walk.idx sl23 .none rfl rfl rfl rfl (zaN hg1.1) rfl ?_
 refine evs [15,22,23,37,49] [] ?_
 refine sq (fun h5 h5p h5s=>?_) fun h5 h5p h5s=>?_
 try simp only[Q] at h5p
 rcases rest2 with _|⟨c,rest2⟩
 ·exfalso;simp_all
 have hcm:=hct y hym c (by rw[←hg2.1];simp);have hce:(zcx w ⟨c.name,c.args,c.index⟩).length≤20:=hcm;have hp2:=congrArg List.length hg2.1;simp only[List.length_append,List.length_cons] at hp2
 refine sq (fun h6 h6p h6s=>?_) fun h6 h6p h6s=>?_
 try simp only[Q] at h6p
 refine Walk.catS .none rfl rfl rfl (by(try simp only[List.length_append,List.length_cons,List.length_nil]);omega) ?_
 refine evs [15,22,23,37,49] [] ?_
 refine Walk.idx sl23 .none rfl rfl rfl rfl (zaN hg1.1) rfl ?_
 refine evs [15,22,23,37,49] [] ?_
 refine Walk.idx zcJ .none rfl rfl rfl rfl (zaN hg2.1) rfl ?_
 refine evs [15,22,23,37,49] [] ?_
 refine wc zls (zdn hb (s:=c.name) (l:=c.args) (k:=c.index) (hb.cn y hym c (by rw[←hg2.1];simp)).1 (hb.cn y hym c (by rw[←hg2.1];simp)).2.1 (hb.cn y hym c (by rw[←hg2.1];simp)).2.2 (hb.ar y hym c (by rw[←hg2.1];simp))) rfl rfl ?_
 refine Walk.catS .none rfl rfl rfl (by(try simp only[List.length_append,List.length_cons,List.length_nil]);omega) ?_
 refine evs [15,22,23,37,49] [] ?_
 refine ar ?_
 refine Exists.intro ((pre2++[c],rest2,q++((if pre2.length=0 then [] else [124])++zcx w c))) ⟨⟨(by have hz:=hg2.1;rw[←hz];simp),⟨(by have h3:(if pre2.length=0 then ([]:Str) else [124]).length≤1:=(by split<;>simp);simp only[List.length_append,List.length_cons,List.length_nil];omega),(by rw[←hg2.2.2];simp[zcf])⟩⟩,(by simp),sx ⟨⟨_,rfl,LeA.eqi ?_⟩,⟨⟨_,rfl,LeA.eqs ?_⟩,trivial⟩⟩ trivial⟩
 iterate 2 focus (first|rfl|(simp;done)|omega|(rw[if_neg (by omega)];simp;done)|(rw[if_pos (by omega)];simp;done)|(dsimp only;rw[if_neg (by omega)];simp;done)|(dsimp only;rw[if_pos (by omega)];simp;done))
 try simp only[Q] at h6p
 refine Walk.idx sl23 .none rfl rfl rfl rfl (zaN hg1.1) rfl ?_
 refine evs [15,22,23,37,49] [] ?_
 refine Walk.idx zcJ .none rfl rfl rfl rfl (zaN hg2.1) rfl ?_
 refine evs [15,22,23,37,49] [] ?_
 refine wc zls (zdn hb (s:=c.name) (l:=c.args) (k:=c.index) (hb.cn y hym c (by rw[←hg2.1];simp)).1 (hb.cn y hym c (by rw[←hg2.1];simp)).2.1 (hb.cn y hym c (by rw[←hg2.1];simp)).2.2 (hb.ar y hym c (by rw[←hg2.1];simp))) rfl rfl ?_
 refine Walk.catS .none rfl rfl rfl (by(try simp only[List.length_append,List.length_cons,List.length_nil]);omega) ?_
 refine evs [15,22,23,37,49] [] ?_
 refine ar ?_
 refine Exists.intro ((pre2++[c],rest2,q++((if pre2.length=0 then [] else [124])++zcx w c))) ⟨⟨(by have hz:=hg2.1;rw[←hz];simp),⟨(by have h3:(if pre2.length=0 then ([]:Str) else [124]).length≤1:=(by split<;>simp);simp only[List.length_append,List.length_cons,List.length_nil];omega),(by rw[←hg2.2.2];simp[zcf])⟩⟩,(by simp),sx ⟨⟨_,rfl,LeA.eqi ?_⟩,⟨⟨_,rfl,LeA.eqs ?_⟩,trivial⟩⟩ trivial⟩
 iterate 2 focus (first|rfl|(simp;done)|omega|(rw[if_neg (by omega)];simp;done)|(rw[if_pos (by omega)];simp;done)|(dsimp only;rw[if_neg (by omega)];simp;done)|(dsimp only;rw[if_pos (by omega)];simp;done))
 try simp only[Q] at h5p
 have hrest2:rest2=[]:=by
  rcases rest2 with _|⟨a,b⟩
  ·rfl
  ·exfalso;have hz:=congrArg List.length (hg2.1);simp only[List.length_append,List.length_cons,List.length_map] at hz;omega
 subst hrest2
 refine ar ?_
 have hfin:=hg2.2.2;simp only[zcf,List.append_nil] at hfin
 refine Exists.intro ((pre++[y],rest,o++((if pre.length=0 then [] else [59])++(y.name++[61])++zcf w true y.ctors))) ⟨⟨(by have hz:=hg1.1;rw[←hz];simp),⟨(by have h3:(if pre.length=0 then ([]:Str) else [59]).length≤1:=(by split<;>simp);simp only[List.length_append,List.length_cons,List.length_nil];omega),(by rw[←hg1.2.2];simp[zhQ])⟩⟩,(by simp),sx ⟨⟨_,rfl,LeA.eqi ?_⟩,⟨⟨_,rfl,LeA.eqs ?_⟩,trivial⟩⟩ trivial⟩
 iterate 2 focus (first|rfl|(simp;done)|omega|(rw[hfin];simp;done))
 try simp only[Q] at h1p
 have hrest:rest=[]:=by
  rcases rest with _|⟨a,b⟩
  ·rfl
  ·exfalso;have hz:=congrArg List.length (hg1.1);simp only[List.length_append,List.length_cons,List.length_map] at hz;omega
 subst hrest
 refine rn0 (r1 rfl) (.eqd ?_)
 rotate_left
 all_goals (refine congrArg D.str ?_;have hfin:=hg1.2.2;simp only[zhQ,List.append_nil] at hfin;exact hfin)
def pwL (s:Str):List Str:=cutL 59 [] s
def pwP (s:Str) (i:Nat):List Str:=cutL 61 [] (nth (pwL s) i)
def pwC (s:Str) (i:Nat):List Str:=cutL 124 [] (nth (pwP s i) 1)
def zbH (s:Str):Nat:=if s=[] then 0 else min (pwL s).length 5
def zcI (s:Str) (n:Nat):List Str:=(List.range n).map fun i=>nth (pwP s i) 0
def zfY (s:Str) (i:Nat):Data:=⟨nth (pwP s i) 0,((pwC s i).take 5).map (zcH (zcI s (zbH s)))⟩
def zcS (s:Str) (n:Nat):List Data:=(List.range n).map (zfY s)
def zg3 (s:Str):Bool:=(List.range (zbH s)).all (fun i=>decide ((pwP s i).length=2))&&(zaH (zcS s (zbH s))&&decide (ze2 (zcS s (zbH s))=s))
def zdl (s:Str):List Data×Bool:=if zg3 s then (zcS s (zbH s),true) else ([],false)
theorem zpL (s:Str):zbH s≤(pwL s).length∧zbH s≤5:=by unfold zbH;split<;>omega
theorem zb3 {s:Str}{i:Nat}:i<zbH s↔(i<(pwL s).length∧i≤4)∧s≠[]:=by
 unfold zbH
 split
 ·rename_i h;simp[h]
 ·rename_i h;simp only[h,ne_eq,not_false_eq_true,and_true];omega
theorem za6 (s:Str) (n:Nat):(zcI s n).length=n:=by simp[zcI]
theorem zjI (s:Str) (n:Nat):zcI s (n+1)=zcI s n++[nth (pwP s n) 0]:=by unfold zcI;rw[List.range_succ,List.map_append];rfl
theorem zeo (s:Str) (n:Nat):zcS s (n+1)=zcS s n++[zfY s n]:=by unfold zcS;rw[List.range_succ,List.map_append];rfl
theorem zuC {s:Str}{n m:Nat} (h:m<n):((zcI s n).map fun n=>[D.str n])[m]?=some [D.str (nth (pwP s m) 0)]:=by
 simp[zcI,h]
theorem zqU {s:Str}{i:Nat} (h:i<(pwL s).length):(nth (pwL s) i).length≤s.length:=zd8 h
theorem zkc {s:Str}{i j:Nat} (h:i<(pwL s).length) (hj:j<(pwP s i).length):(nth (pwP s i) j).length≤s.length:=Nat.le_trans (zd8 hj) (zqU h)
theorem zuH {s:Str}{i k:Nat} (h:k<(pwC s i).length):(nth (pwC s i) k).length≤(nth (pwP s i) 1).length:=zd8 h
theorem zhA {α:Type}{l:List α}{i:Nat} (h:i=5∨(i≤5∧l.length≤i)):l.take i=l.take 5:=by
 rcases h with rfl|⟨h1,h2⟩
 ·rfl
 ·rw[List.take_of_length_le h2,List.take_of_length_le (by omega)]
theorem zrD {c:UInt8}{s:Str}:(nth (cutL c [] s) 0).length≤s.length:=zd8 (zim c s [])
theorem zpB {names:List Str}{s:Str}:(zcH names s).name.length≤s.length∧(zcH names s).args.length≤4:=by
 have key:∀(ix:Int) (t:Str),(zgS names ix t).name.length≤t.length∧(zgS names ix t).args.length≤4:=by
  intro ix t
  refine⟨zrD, ?_⟩
  unfold zgS
  dsimp only
  split
  ·simp
  ·simp only[List.length_map,List.length_take];omega
 unfold zcH
 split
 ·have:=key (((nth s (s.length-1)).toNat:Int)-48) (s.take (s.length-2))
  rw[List.length_take] at this
  omega
 ·exact key 0 s
theorem zsH {s:Str} (hs:s.length≤1000000) (h2:∀j,j<zbH s→(pwP s j).length=2):WSmall (zcS s (zbH s)):=by
 have hl:=zpL s
 have hd:∀d∈zcS s (zbH s),∃i,i<zbH s∧d=zfY s i:=fun d hd=>by
  obtain⟨i,hi,rfl⟩:=List.mem_map.1 hd
  exact⟨i,List.mem_range.1 hi,rfl⟩
 refine⟨by simp only[zcS,List.length_map,List.length_range];omega,fun d hd'=>?_,fun d hd' c hc=>?_⟩
 ·obtain⟨i,hi,rfl⟩:=hd d hd'
  have:=zkc (s:=s) (i:=i) (j:=0) (by omega) (by rw[h2 i hi];omega)
  refine⟨?_, ?_⟩
  ·show(nth (pwP s i) 0).length≤_;omega
  ·simp only[zfY,List.length_map,List.length_take];omega
 ·obtain⟨i,hi,rfl⟩:=hd d hd'
  obtain⟨t,ht,rfl⟩:=List.mem_map.1 hc
  have h3:=zkc (s:=s) (i:=i) (j:=1) (by omega) (by rw[h2 i hi];omega)
  have h4:t.length≤(nth (pwP s i) 1).length:=by simpa using zil 124 (nth (pwP s i) 1) [] t (List.mem_of_mem_take ht)
  have h5:=zpB (names:=zcI s (zbH s)) (s:=t)
  omega
theorem zvY {s:Str} (hs:s.length≤1000000):FnD Tryz.prog 120 [.d (.str s),.d (.int .u8 59)] [] (.d (zeP (pwL s))) []:=zcC (s:=s) (c:=59) (by omega)
theorem ztY {s:Str}{i:Nat} (hs:s.length≤1000000) (h:i<(pwL s).length):FnD Tryz.prog 120 [.d (.str (nth (pwL s) i)),.d (.int .u8 61)] [] (.d (zeP (pwP s i))) []:=zcC (s:=nth (pwL s) i) (c:=61) (by have:=zqU h;omega)
theorem zvX {s:Str}{i:Nat} (hs:s.length≤1000000) (h:i<(pwL s).length) (h2:(pwP s i).length=2):FnD Tryz.prog 120 [.d (.str (nth (pwP s i) 1)),.d (.int .u8 124)] [] (.d (zeP (pwC s i))) []:=
 zcC (s:=nth (pwP s i) 1) (c:=124) (by have:=zkc (j:=1) h (by omega);omega)
theorem zkn {w:List Data} (hs:WSmall w):FnD Tryz.prog 122 [.d (zan w)] [] (.d (.bool (zaH w))) []:=by
 rw[←zgg];exact zf1 hs
theorem zqK {s:Str} (h:zg3 s=false):zdl s=([],false):=by unfold zdl;rw[if_neg (by rw[h];simp)]
theorem ztc {s:Str} (h:zg3 s=true):zdl s=(zcS s (zbH s),true):=by unfold zdl;rw[if_pos h]
theorem ztb {s:Str}{i:Nat} (h:i<zbH s) (h2:¬(pwP s i).length=2):zg3 s=false:=by
 unfold zg3
 rw[zbF h (by simpa using h2),Bool.false_and]
theorem znF {s:Str} (h:∀j,j<zbH s→(pwP s j).length=2):zg3 s=(zaH (zcS s (zbH s))&&decide (ze2 (zcS s (zbH s))=s)):=by
 unfold zg3
 rw[zdy (fun i hi=>by simpa using h i hi),Bool.true_and]
theorem zjU {s:Str} (hs:s.length≤100000):FnD Tryz.prog 70 [.d (.str s)] [] (.tup [.d (zan (zdl s).1),.d (.bool (zdl s).2)]) []:=by
 have hl:=zpL s
 have hcl:(pwL s).length≤s.length+1:=zd7 59 s []
 have hccl:∀i,(pwC s i).length≤(nth (pwP s i) 1).length+1:=fun i=>zd7 124 _ []
 have hnl:=za6 s
 refine bd Tryz.f70 101 [] [5,17,21] fun w0 F0 own kept hk=>?_
 refine Walk.sliceEmptyG 1 sl23 .none rfl rfl ?_
 refine ev ?_
 refine Walk.sliceEmptyG 2 sl99 .none rfl rfl ?_
 refine ev ?_
 refine wc zfR (zvY (s:=s) (by omega)) rfl rfl ?_
 refine ev ?_
 refine CWp.loopX (ι:=Nat) hk (fun i=>[(7,.d (.i (i:Int))),(5,.gl 2 ((zcI s i).map fun n=>[D.str n]))]) [2,3,8,17,18,19,20,21,22,23,24,25,26,27,28,29,30,31,32,33,34,35,36,37,38,39,40,41,42,43,44,45] (fun i=>[(2,some (.tok (((zcI s i).map fun n=>[D.str n])).length 1))]) (fun i=>i≤zbH s∧∀j,j<i→(pwP s j).length=2) (fun i=>zbH s-i) 0 ⟨by omega,fun j h=>absurd h (by omega)⟩ ⟨⟨_,rfl,LeA.eqi ?_⟩,⟨⟨_,rfl,LeA.glg ?_⟩,trivial⟩⟩ ⟨zab ?_,trivial⟩ (fun x=>rfl) (fun i hg1=>?_)
 iterate 3 focus (first|rfl|(rw[zjI];simp;done)|(simp;done)|omega|(simp;omega))
 refine evc [] [5,17,21] ?_
 refine CWp.regionJ ?_
 refine WRest.join 12 [(28,.d (.bool (decide (i<zbH s))))] [17,18,19,20,21,22,23,24,25,26,27] ?_ ?_
 refine ev ?_
 refine sq (fun h1 h1p h1s=>?_) fun h1 h1p h1s=>?_
 try simp only[Q,za6] at h1p
 refine sq (fun h2 h2p h2s=>?_) fun h2 h2p h2s=>?_
 try simp only[Q,za6] at h2p
 focus (exact jn rfl (LeA.eqb (by first|rfl|(rw[Bool.eq_iff_iff];simp_all[zb3];done)|(rw[Bool.eq_iff_iff];simp_all[zb3];omega))))
 try simp only[Q,za6] at h2p
 focus (exact jn rfl (LeA.eqb (by first|rfl|(rw[Bool.eq_iff_iff];simp_all[zb3];done)|(rw[Bool.eq_iff_iff];simp_all[zb3];omega))))
 try simp only[Q,za6] at h1p
 refine sqF ?_
 focus (exact jn rfl (LeA.eqb (by first|rfl|(rw[Bool.eq_iff_iff];simp_all[zb3];done)|(rw[Bool.eq_iff_iff];simp_all[zb3];omega))))
 refine WRest.done ?_
 refine tv ?_
 refine sq (fun h3 h3p h3s=>?_) fun h3 h3p h3s=>?_
 try simp only[Q,za6] at h3p
 refine Walk.idx sl99 .none rfl rfl rfl rfl (zau (by omega)) rfl ?_
 refine ev ?_
 refine wc zfR (ztY (s:=s) (i:=i) (by omega) (by omega)) rfl rfl ?_
 refine ev ?_
 refine sq (fun h4 h4p h4s=>?_) fun h4 h4p h4s=>?_
 try simp only[Q,za6] at h4p
 refine Walk.sliceEmpty sl23 .none rfl ?_
 refine ev ?_
 refine rn0 (r2 rfl rfl) (.tup (.cons (.eqd ?_) (.cons (.eqd ?_) .nil)))
 rotate_left 2
 try simp only[Q,za6] at h4p
 refine Walk.idx (i:=0) sl99 .none rfl rfl rfl rfl (zau (by omega)) rfl ?_
 refine ev ?_
 refine si [0] [_] sl99 tz9 ?_
 refine ap sl99 zz9 rfl rfl rfl (by simp) (by simp[za6,zcS];omega) ?_
 refine ev ?_
 refine ar ?_
 refine Exists.intro (i+1) ⟨⟨by omega,zbk hg1.2 (by omega)⟩,(by omega),sx ⟨⟨_,rfl,LeA.eqi ?_⟩,⟨⟨_,rfl,LeA.glg ?_⟩,trivial⟩⟩ ⟨zab ?_,trivial⟩⟩
 iterate 3 focus (first|rfl|(rw[zjI];simp;done)|(simp;done)|omega|(simp;omega))
 try simp only[Q,za6] at h3p
 obtain rfl:i=zbH s:=(by omega)
 refine CWp.loopX (ι:=Nat) hk (fun m=>[(9,.d (.i (m:Int))),(4,.gl 1 ((zcS s m).map Data.c))]) [10,11,12,46,47,48,49,50,51,52,53,54,55,56,57,58,59,60,61,62,63,64,65,66,67,68,69,70,71,72,73,74,75,76,77,78,79,80,81,82,83,84,85,86,87,88,89] (fun m=>[(1,some (.tok (((zcS s m).map Data.c)).length 2))]) (fun m=>m≤zbH s) (fun m=>zbH s-m) 0 (by omega) ⟨⟨_,rfl,LeA.eqi ?_⟩,⟨⟨_,rfl,LeA.glg ?_⟩,trivial⟩⟩ ⟨zab ?_,trivial⟩ (fun x=>rfl) (fun m hg2=>?_)
 iterate 3 focus (first|rfl|(simp;done)|omega|(rw[zeo];simp;done)|(rw[zeo,List.map_append];simp only[List.map_cons,List.map_nil,zfY,Data.c];rw[←List.map_take,zhA (by omega)];done)|(rw[zeo,List.map_append];simp only[List.map_cons,List.map_nil,zfY,Data.c];rw[←List.map_take,zhA (by omega)];rfl)|(simp;omega))
 refine evc [] [5,17,21] ?_
 refine sq (fun h5 h5p h5s=>?_) fun h5 h5p h5s=>?_
 try simp only[Q,za6] at h5p
 refine Walk.idx sl99 .none rfl rfl rfl rfl (zau (by first|omega|(rw[hg1.2 m (by omega)];omega))) rfl ?_
 refine ev ?_
 refine wc zfR (ztY (s:=s) (i:=m) (by omega) (by omega)) rfl rfl ?_
 refine Walk.idx (i:=1) sl99 .none rfl rfl rfl rfl (zau (by first|omega|(rw[hg1.2 m (by omega)];omega))) rfl ?_
 refine ev ?_
 refine wc zfR (zvX (s:=s) (i:=m) (by omega) (by omega) (hg1.2 m (by omega))) rfl rfl ?_
 refine ev ?_
 refine Walk.idxG sl99 .none rfl rfl rfl rfl (zuC (by omega)) rfl ?_
 refine ev ?_
 refine bu [0] [_] zv5 ?_
 refine ab 3011 zrO ?_
 refine so zuc ?_
 refine tv ?_
 refine CWp.tokB 3011 1 3 3 rfl rfl rfl rfl ?_
 refine CWp.loopX (ι:=Nat) hk (fun k=>[(12,.d (.i (k:Int)))]) [65,66,67,68,69,70,71,72,73,74,75,76,77,78,79,80,81,82,83,84,85] (fun k=>[(3011,some (.box [.d (.str (nth (pwP s m) 0)),.gl 3 ((((pwC s m).map (zcH (zcI s (zbH s)))).take k).map Ctor.c)])),(3,some (.tok ((((pwC s m).map (zcH (zcI s (zbH s)))).take k).map Ctor.c).length 3))]) (fun k=>k≤5∧k≤(pwC s m).length) (fun k=>5-k) 0 ⟨by omega,by omega⟩ ⟨⟨_,rfl,LeA.eqi ?_⟩,trivial⟩ ⟨?_,⟨zab ?_,trivial⟩⟩ (fun x=>rfl) (fun k hg3=>?_)
 focus (first|rfl|(simp;done)|(simp_all;done)|omega|(simp;omega))
 focus (first|rfl|(simp[getH];done)|(show some (Res.box _)=some (Res.box _);rw[zdb (by omega)];simp;done))
 focus (first|rfl|(simp;done)|(simp_all;done)|omega|(simp;omega))
 refine evc [] [5,17,21] ?_
 refine CWp.regionJ ?_
 refine WRest.join 8 [(72,.d (.bool (decide (k<(pwC s m).length∧k≤4))))] [65,66,67,68,69,70,71] ?_ ?_
 refine ev ?_
 refine sq (fun h6 h6p h6s=>?_) fun h6 h6p h6s=>?_
 try simp only[Q,za6] at h6p
 focus (exact jn rfl (LeA.eqb (by first|rfl|(rw[Bool.eq_iff_iff];simp_all[zb3];done)|(rw[Bool.eq_iff_iff];simp_all[zb3];omega))))
 try simp only[Q,za6] at h6p
 focus (exact jn rfl (LeA.eqb (by first|rfl|(rw[Bool.eq_iff_iff];simp_all[zb3];done)|(rw[Bool.eq_iff_iff];simp_all[zb3];omega))))
 refine WRest.done ?_
 refine tv ?_
 refine sq (fun h7 h7p h7s=>?_) fun h7 h7p h7s=>?_
 try simp only[Q,za6] at h7p
 refine Walk.idx sl99 .none rfl rfl rfl rfl (zau (by omega)) rfl ?_
 refine evd [] [] ?_
 refine Walk.call (cr:=[]) zuV (zi7 (names:=zcI s (zbH s)) (s:=nth (pwC s m) k) (by rw[hnl];omega) (by have h1:=zkc (s:=s) (i:=m) (j:=1) (by omega) (by rw[hg1.2 m (by omega)];omega);have h2:=zuH (s:=s) (i:=m) (k:=k) (by omega);omega)) rfl .none rfl rfl (.cons (.gl _ _) (.cons (.refl _) .nil)) trivial rfl rfl rfl ?_
 refine si [0] [_] zcJ zgC ?_
 refine ap zcJ zv9 rfl rfl rfl (by simp) (by simp[za6,zcS];omega) ?_
 refine evd [] [] ?_
 refine so zv6 ?_
 refine dr ?_
 refine ar ?_
 refine Exists.intro (k+1) ⟨⟨by omega,by omega⟩,(by omega),sx ⟨⟨_,rfl,LeA.eqi ?_⟩,trivial⟩ ⟨?_,⟨zab ?_,trivial⟩⟩⟩
 focus (first|rfl|(simp;done)|(simp_all;done)|omega|(simp;omega))
 focus (first|rfl|(simp[getH];done)|(show some (Res.box _)=some (Res.box _);rw[zdb (by omega)];simp;done))
 focus (first|rfl|(simp;done)|(simp_all;done)|omega|(simp;omega))
 try simp only[Q,za6] at h7p
 refine si [0] [_] sl23 zrO ?_
 refine ap sl23 zv8 rfl rfl rfl (by simp) (by simp[za6,zcS];omega) ?_
 refine ev ?_
 refine ar ?_
 refine Exists.intro (m+1) ⟨(by omega),(by omega),sx ⟨⟨_,rfl,LeA.eqi ?_⟩,⟨⟨_,rfl,LeA.glg ?_⟩,trivial⟩⟩ ⟨zab ?_,trivial⟩⟩
 iterate 3 focus (first|rfl|(simp;done)|omega|(rw[zeo];simp;done)|(rw[zeo,List.map_append];simp only[List.map_cons,List.map_nil,zfY,Data.c];rw[←List.map_take,zhA (by omega)];done)|(rw[zeo,List.map_append];simp only[List.map_cons,List.map_nil,zfY,Data.c];rw[←List.map_take,zhA (by omega)];rfl)|(simp;omega))
 try simp only[Q,za6] at h5p
 obtain rfl:m=zbH s:=(by omega)
 refine CWp.regionJ ?_
 refine WRest.join 9 [(98,.d (.bool (!(zaH (zcS s (zbH s))&&decide (ze2 (zcS s (zbH s))=s)))))] [90,91,92,93,94,95,96,97] ?_ ?_
 refine ev ?_
 refine Walk.call (cr:=[]) zrV (zkn (zsH (by omega) hg1.2)) rfl .none rfl rfl (.cons (.gl _ _) .nil) trivial rfl rfl rfl ?_
 refine ev ?_
 refine sq (fun h8 h8p h8s=>?_) fun h8 h8p h8s=>?_
 try simp only[Q,za6] at h8p
 focus (exact jn rfl (LeA.eqb (by first|rfl|(rw[Bool.eq_iff_iff];simp_all[zb3];done)|(rw[Bool.eq_iff_iff];simp_all[zb3];omega))))
 try simp only[Q,za6] at h8p
 refine Walk.call (cr:=[]) zuW (znh (ztJ (by assumption))) rfl (.some rfl rfl h8) rfl rfl (.cons (.gl _ _) .nil) trivial rfl rfl rfl ?_
 refine evs [] [(93,false)] ?_ ⟨⟨_,rfl,h8⟩,trivial⟩
 focus (exact jn rfl (LeA.eqb (by first|rfl|(rw[Bool.eq_iff_iff];simp_all[zb3];done)|(rw[Bool.eq_iff_iff];simp_all[zb3];omega))))
 refine WRest.done ?_
 refine tv ?_
 refine sq (fun h9 h9p h9s=>?_) fun h9 h9p h9s=>?_
 try simp only[Q,za6] at h9p
 refine Walk.sliceEmpty sl23 .none rfl ?_
 refine ev ?_
 refine rn0 (r2 rfl rfl) (.tup (.cons (.eqd ?_) (.cons (.eqd ?_) .nil)))
 rotate_left 2
 try simp only[Q,za6] at h9p
 refine rn0 (r2 rfl rfl) (.tup (.cons (.gld ?_) (.cons (.eqd ?_) .nil)))
 rotate_left 2
 all_goals (first|(have hq:=ztb (s:=s) (i:=i) h3p (fun h=>h4p (by omega));rw[zqK hq];all_goals rfl)|(have hr:=znF hg1.2;rw[h9s] at hr;rw[zqK hr];all_goals rfl)|(have hr:=znF hg1.2;rw[h9s] at hr;rw[ztc hr];all_goals rfl))
def zdB:List Str:=[[76,61,78,105,108,124,67,111,110,115,40,73,44,76,41],
 [66,61,84,114,117,124,70,108,115,59,84,61,76,101,97,102,124,78,111,100,101,40,84,44,66,44,84,41],
 [69,61,78,117,109,40,73,41,58,49,124,66,111,108,40,66,41,58,50,124,65,100,100,40,69,49,44,69,49,41,58,49,124,73,102,40,69,50,44,69,42,44,69,42,41,59,66,61,84,114,117,124,70,108,115],
 [79,61,78,111,110,124,83,111,109,40,73,41,59,80,61,80,97,105,114,40,79,44,79,41],
 [86,61,69,110,100,58,49,124,83,111,109,101,40,73,44,86,49,41,58,50,124,84,119,111,40,86,42,41],
 [78,61,78,101,118,101,114,40,78,41,59,66,61,84,114,117,124,70,108,115,124,77,97,121,40,78,41],
 [83,61,82,101,100,124,71,114,101,101,110,124,66,108,117,101,124,77,105,120,40,83,44,83,41],
 []]
theorem zmx:zdB.length=8:=rfl
theorem zp2:∀t∈zdB,t.length≤100:=by decide
theorem zrN {i:Nat} (h:i<8):(nth zdB i).length≤100:=zp2 _ (zag h)
def zbf (b:Str) (p:Nat):List Data:=(zdl (nth zdB (zax b p 7).toNat)).1
theorem zoI (b:Str) (p:Nat):(zax b p 7).toNat<7:=by have:=zc2 (b:=b) (p:=p) (n:=7) (by omega);omega
theorem zml:FnD Tryz.prog 71 [] [] (.d (zeP zdB)) []:=by
 refine bd Tryz.f71 2 [] [] fun w0 F0 own kept hk=>?_
 refine si [0,1,2,3,4,5,6,7] [_,_,_,_,_,_,_,_] sl99 tz9 ?_
 refine ev ?_
 refine rn0 (r1 rfl) (.eqd ?_)
 rotate_left
 all_goals (rfl)
theorem zmn {b:Str}{p:Nat} (hb:b.length≤2000) (hp:p≤1000000):
  FnD Tryz.prog 188 [.ref 900 0] [(900,some (rdB b p))] (.d (zan (zbf b p))) [(900,some (rdB b (p+1)))]:=by
 have h7:=zoI b p
 have ht8:=zmx
 have hv:=zc2 (b:=b) (p:=p) (n:=7) (by omega)
 have hts:=zrN (i:=(zax b p 7).toNat) (by omega)
 refine bd Tryz.f188 20 [] [] fun w0 F0 own kept hk=>?_
 refine wc zvP (zml) rfl rfl ?_
 refine ev ?_
 refine ar ?_
 refine wd zc5 (zbp (n:=7) hb (by omega) (by omega)) rfl rfl ⟨rfl,trivial⟩ ?_
 refine Walk.idx (i:=(zax b p 7).toNat) sl99 .none rfl rfl rfl (by omega) (zau (by rw[zmx];omega)) rfl ?_
 refine ev ?_
 refine wc zvO (zjU (s:=nth zdB (zax b p 7).toNat) (by omega)) rfl rfl ?_
 refine ev ?_
 refine rn [(900,some (rdB b (p+1)))] (r1 rfl) (.eqd ?_) ⟨rfl,rfl⟩ (SubO.get ⟨.inr ?_,⟨.inl rfl,trivial⟩⟩) (zaG rfl)
 rotate_left 2
 all_goals (first|((rfl);done)|(rfl))
def anyP:Pat:=⟨1,0,0,0,0,[]⟩
def dA (f:Ty→Nat→Pat×Nat):List Ty→Nat→List Pat×Nat
 | [],q=>([],q)
 |t::r,q=>((f t q).1::(dA f r (f t q).2).1,(dA f r (f t q).2).2)
def zaC (b:Str) (w:List Data):Nat→Ty→Nat→Pat×Nat
 |0,_,p=>(anyP,p)
 |d+1,t,p=>
  if d=0 then (anyP,p)
  else if zax b p 4=0 then (anyP,p+1)
  else if zax b (p+1) 6=0 then (⟨5,0,0,0,0,[(zaC b w d t (p+2)).1,(zaC b w d t (zaC b w d t (p+2)).2).1]⟩,(zaC b w d t (zaC b w d t (p+2)).2).2)
  else if t.data = -1 then (⟨3,0,zax b (p+2) 10,zax b (p+2) 10+zax b (p+3) (10-zax b (p+2) 10)*zax b (p+4) 2,0,[]⟩,p+5)
  else if (zah w t).length=0 then (anyP,p+2)
  else (⟨4,nth (zah w t) (zax b (p+2) (zah w t).length).toNat,0,0,0,(dA (zaC b w d) (zaa w t (nth (zah w t) (zax b (p+2) (zah w t).length).toNat)) (p+3)).1⟩,
   (dA (zaC b w d) (zaa w t (nth (zah w t) (zax b (p+2) (zah w t).length).toNat)) (p+3)).2)
def bdP:Nat→Nat
 |0=>0
 |d+1=>5+3*bdP d
def Few (w:List Data):Prop:=∀t c,c∈zah w t→TyIn w.length t→(zaa w t c).length≤3∧∀u∈zaa w t c,TyIn w.length u
theorem ztZ {f:Ty→Nat→Pat×Nat}{k:Nat}:∀(l:List Ty) (q:Nat),(∀t∈l,∀q,(f t q).2≤q+k)→(dA f l q).2≤q+l.length*k
 | [],q,_=>by simp[dA]
 |t::r,q,h=>by
  have h1:=h t (by simp) q
  have h2:=ztZ r (f t q).2 (fun x hx=>h x (by simp[hx]))
  simp only[dA,List.length_cons,Nat.add_mul];omega
theorem zsj {f:Ty→Nat→Pat×Nat}:∀(l:List Ty) (q:Nat),(dA f l q).1.length=l.length
 | [],q=>rfl
 |t::r,q=>by simp only[dA,List.length_cons,zsj r]
theorem ziD {l:List Int}{b:Str}{p:Nat} (h:¬l.length=0):nth l (zax b p l.length).toNat∈l:=by
 have:=zc2 (b:=b) (p:=p) (n:=(l.length:Int)) (by omega)
 exact zag (by omega)
theorem zio {b:Str}{w:List Data} (hf:Few w):∀(d:Nat) (t:Ty) (p:Nat),TyIn w.length t→(zaC b w d t p).2≤p+bdP d
 |0,t,p,_=>by simp[zaC,bdP]
 |d+1,t,p,ht=>by
  have ih:=fun t p ht=>zio (b:=b) hf d t p ht
  unfold zaC bdP
  split
  ·dsimp only;omega
  ·split
   ·dsimp only;omega
   ·split
    ·dsimp only
     have h1:=ih t (p+2) ht
     have h2:=ih t (zaC b w d t (p+2)).2 ht
     omega
    ·split
     ·dsimp only;omega
     ·split
      ·dsimp only;omega
      ·rename_i h5
       dsimp only
       have hm:=ziD (b:=b) (p:=p+2) h5
       have h3:=hf t _ hm ht
       have h1:=ztZ (f:=zaC b w d) (k:=bdP d) (zaa w t (nth (zah w t) (zax b (p+2) (zah w t).length).toNat)) (p+3) (fun u hu q=>ih u q (h3.2 u hu))
       have h4:(zaa w t (nth (zah w t) (zax b (p+2) (zah w t).length).toNat)).length*bdP d≤3*bdP d:=Nat.mul_le_mul_right _ h3.1
       omega
theorem zsZ {w:List Data} (hs:WSmall w) (hv:zaH w=true):Few w:=by
 have hw:=zhb hs hv
 have hW:=(zcY w).1 hv
 rintro ⟨a,k⟩ c hc ht
 obtain⟨d,rfl,h1,j,rfl,h3⟩:=zcV ht hc
 refine⟨?_,fun u hu=>znm hw h1 ⟨j,rfl,h3⟩ hu⟩
 have hco:=hW.ctor _ (zag h1) _ (zag h3)
 simp only[zaL,Bool.and_eq_true,decide_eq_true_eq] at hco
 simp only[zaa,Int.toNat_natCast,List.length_map]
 omega
theorem Pat.cs_cc (l:List Pat):Pat.cs l=l.map Pat.cc:=by
 rw[Pat.cs_eq];exact List.map_congr_left (fun v _=>Pat.c_eq v)
section
variable {b:Str}{w:List Data}{d p:Nat}{a k:Int}
theorem zmJ (h:d=0):zaC b w (d+1) ⟨a,k⟩ p=(anyP,p):=by simp only[zaC];rw[if_pos h]
theorem zmK (h:¬d=0) (h2:zax b p 4=0):zaC b w (d+1) ⟨a,k⟩ p=(anyP,p+1):=by simp only[zaC];rw[if_neg h,if_pos h2]
theorem zmL (h:¬d=0) (h2:¬zax b p 4=0) (h3:zax b (p+1) 6=0):zaC b w (d+1) ⟨a,k⟩ p =
  (⟨5,0,0,0,0,[(zaC b w d ⟨a,k⟩ (p+2)).1,(zaC b w d ⟨a,k⟩ (zaC b w d ⟨a,k⟩ (p+2)).2).1]⟩,(zaC b w d ⟨a,k⟩ (zaC b w d ⟨a,k⟩ (p+2)).2).2):=by
 simp only[zaC];rw[if_neg h,if_neg h2,if_pos h3]
theorem zmM (h:¬d=0) (h2:¬zax b p 4=0) (h3:¬zax b (p+1) 6=0) (h4:a = -1):zaC b w (d+1) ⟨a,k⟩ p =
  (⟨3,0,zax b (p+2) 10,zax b (p+2) 10+zax b (p+3) (10-zax b (p+2) 10)*zax b (p+4) 2,0,[]⟩,p+5):=by
 simp only[zaC];rw[if_neg h,if_neg h2,if_neg h3,if_pos h4]
theorem zmN (h:¬d=0) (h2:¬zax b p 4=0) (h3:¬zax b (p+1) 6=0) (h4:¬a = -1) (h5:(zah w ⟨a,k⟩).length=0):zaC b w (d+1) ⟨a,k⟩ p=(anyP,p+2):=by
 simp only[zaC];rw[if_neg h,if_neg h2,if_neg h3,if_neg h4,if_pos h5]
theorem zmO (h:¬d=0) (h2:¬zax b p 4=0) (h3:¬zax b (p+1) 6=0) (h4:¬a = -1) (h5:¬(zah w ⟨a,k⟩).length=0){cc:Int} (hc:nth (zah w ⟨a,k⟩) (zax b (p+2) (zah w ⟨a,k⟩).length).toNat=cc):zaC b w (d+1) ⟨a,k⟩ p =
  (⟨4,cc,0,0,0,(dA (zaC b w d) (zaa w ⟨a,k⟩ cc) (p+3)).1⟩,(dA (zaC b w d) (zaa w ⟨a,k⟩ cc) (p+3)).2):=by
 simp only[zaC];rw[if_neg h,if_neg h2,if_neg h3,if_neg h4,if_neg h5,hc]
end
theorem zer {b:Str}{w:List Data} (hb:b.length≤2000) (hw:WT w) (hf:Few w):∀(d:Nat){a k m:Int}{p:Nat},m=d→d≤4→1≤d→p+bdP d≤1000000→TyIn w.length ⟨a,k⟩→
  FnD Tryz.prog 125 [.ref 900 0,.d (zan w),.agg [.d (.i a),.d (.i k)],.d (.i m)] [(900,some (rdB b p))]
   (.agg [.d (.i (zaC b w d ⟨a,k⟩ p).1.op),.d (.i (zaC b w d ⟨a,k⟩ p).1.ctor),.d (.i (zaC b w d ⟨a,k⟩ p).1.n),.d (.i (zaC b w d ⟨a,k⟩ p).1.m),.d (.i (zaC b w d ⟨a,k⟩ p).1.var),.d (zac (zaC b w d ⟨a,k⟩ p).1.kids)]) [(900,some (rdB b (zaC b w d ⟨a,k⟩ p).2))]
 |0,a,k,m,p,_,_,h1,_,_=>by omega
 |d+1,a,k,m,p,hm,hd4,_,hp,ht=>by
  have hcl:=zgE hw ht
  have hbd:bdP (d+1)=5+3*bdP d:=rfl
  have ih:=fun(t:Ty) (q:Nat) (ht:TyIn w.length t)=>zio (b:=b) hf d t q ht
  have v10:=zc2 (b:=b) (p:=p+2) (n:=10) (by omega)
  have v11:=zc2 (b:=b) (p:=p+3) (n:=10-zax b (p+2) 10) (by omega)
  have v12:=zc2 (b:=b) (p:=p+4) (n:=2) (by omega)
  have v13:0≤zax b (p+3) (10-zax b (p+2) 10)*zax b (p+4) 2∧zax b (p+3) (10-zax b (p+2) 10)*zax b (p+4) 2≤10:=by
   have h:zax b (p+4) 2=0∨zax b (p+4) 2=1:=by omega
   rcases h with h|h<;>rw[h]<;>omega
  have hvl:((((zah w ⟨a,k⟩).map fun n=>[D.i n]).length:Nat):Int)=(zah w ⟨a,k⟩).length:=by simp
  have v14:=fun h=>zc2 (b:=b) (p:=p+2) (n:=((zah w ⟨a,k⟩).length:Int)) h
  have hmem:=fun h=>ziD (l:=zah w ⟨a,k⟩) (b:=b) (p:=p+2) h
  generalize hcc:nth (zah w ⟨a,k⟩) (zax b (p+2) (zah w ⟨a,k⟩).length).toNat=cc at *
  have hfw:=fun h=>hf ⟨a,k⟩ cc (hmem h) ht
  have hat:¬(zah w ⟨a,k⟩).length=0→((zah w ⟨a,k⟩).map fun n=>[D.i n])[(zax b (p+2) (zah w ⟨a,k⟩).length).toNat]?=some [D.i cc]:=fun h=>by
   rw[←hcc];exact zau (by have:=v14 (by omega);omega)
  refine bd Tryz.f125 96 [] [] fun w0 F0 own kept hk=>?_
  refine bx 3006 ?_
  refine ab 3008 tz28 ?_
  refine tv ?_
  refine sq (fun h1 h1p h1s=>?_) fun h1 h1p h1s=>?_
  try simp only[Q] at h1p
  refine sqT ?_
  refine bu [0] [_] st28 ?_
  refine so ty28 ?_
  refine tv ?_
  refine rn [(900,some (rdB b (zaC b w (d+1) ⟨a,k⟩ p).2))] (.cons (.cellA ty28 rfl rfl rfl) .nil) (.agg (.cons (.eqd ?_) (.cons (.eqd ?_) (.cons (.eqd ?_) (.cons (.eqd ?_) (.cons (.eqd ?_) (.cons (.nild ?_) .nil))))))) ⟨rfl,rfl⟩ (SubO.get ⟨.inr ?_,⟨.inl rfl,trivial⟩⟩) (zaG rfl)
  rotate_left 7
  try simp only[Q] at h1p
  refine Walk.call (cr:=[]) zc5 (zbp (p:=p) (n:=4) hb (by omega) (by omega)) rfl (.some rfl rfl h1) rfl rfl (LeL.refl _) ⟨rfl,trivial⟩ rfl rfl rfl ?_
  refine evs [] [(16,false)] ?_ ⟨⟨_,rfl,h1⟩,trivial⟩
  refine sq (fun h3 h3p h3s=>?_) fun h3 h3p h3s=>?_
  try simp only[Q] at h3p
  refine bu [0] [_] st28 ?_
  refine so ty28 ?_
  refine tv ?_
  refine rn [(900,some (rdB b (zaC b w (d+1) ⟨a,k⟩ p).2))] (.cons (.cellA ty28 rfl rfl rfl) .nil) (.agg (.cons (.eqd ?_) (.cons (.eqd ?_) (.cons (.eqd ?_) (.cons (.eqd ?_) (.cons (.eqd ?_) (.cons (.nild ?_) .nil))))))) ⟨rfl,rfl⟩ (SubO.get ⟨.inr ?_,⟨.inl rfl,trivial⟩⟩) (zaG rfl)
  rotate_left 7
  try simp only[Q] at h3p
  refine wd zc5 (zbp (p:=p+1) (n:=6) hb (by omega) (by omega)) rfl rfl ⟨rfl,trivial⟩ ?_
  refine ev ?_
  refine sq (fun h4 h4p h4s=>?_) fun h4 h4p h4s=>?_
  try simp only[Q] at h4p
  refine ar ?_
  refine wd zln (zer hb hw hf d (p:=p+2) (by omega) (by omega) (by omega) (by omega) ht) rfl rfl ⟨rfl,trivial⟩ ?_
  refine evd [] [] ?_
  refine ar ?_
  refine wd zln (zer hb hw hf d (p:=(zaC b w d ⟨a,k⟩ (p+2)).2) (by omega) (by omega) (by omega) (by have:=ih ⟨a,k⟩ (p+2) ht;omega) ht) rfl rfl ⟨rfl,trivial⟩ ?_
  refine si [0,1] [_,_] sl26 tz28 ?_
  refine bu [0,5] [_,_] st28 ?_
  refine so ty28 ?_
  refine dr ?_
  refine rn [(900,some (rdB b (zaC b w (d+1) ⟨a,k⟩ p).2))] (.cons (.cellA ty28 rfl rfl rfl) .nil) (.agg (.cons (.eqd ?_) (.cons (.eqd ?_) (.cons (.eqd ?_) (.cons (.eqd ?_) (.cons (.eqd ?_) (.cons (.eqd ?_) .nil))))))) ⟨rfl,rfl⟩ (SubO.get ⟨.inr ?_,⟨.inl rfl,trivial⟩⟩) (zaG rfl)
  rotate_left 7
  try simp only[Q] at h4p
  refine sq (fun h5 h5p h5s=>?_) fun h5 h5p h5s=>?_
  try simp only[Q] at h5p
  refine wd zc5 (zbp (p:=p+2) (n:=10) hb (by omega) (by omega)) rfl rfl ⟨rfl,trivial⟩ ?_
  refine ev ?_
  refine ar ?_
  refine wd zc5 (zbp (p:=p+3) (n:=10-zax b (p+2) 10) hb (by omega) (by omega)) rfl rfl ⟨rfl,trivial⟩ ?_
  refine ev ?_
  refine wd zc5 (zbp (p:=p+4) (n:=2) hb (by omega) (by omega)) rfl rfl ⟨rfl,trivial⟩ ?_
  refine ev ?_
  refine ar ?_
  refine ar ?_
  refine bu [0,2,3] [_,_,_] st28 ?_
  refine so ty28 ?_
  refine tv ?_
  refine rn [(900,some (rdB b (zaC b w (d+1) ⟨a,k⟩ p).2))] (.cons (.cellA ty28 rfl rfl rfl) .nil) (.agg (.cons (.eqd ?_) (.cons (.eqd ?_) (.cons (.eqd ?_) (.cons (.eqd ?_) (.cons (.eqd ?_) (.cons (.nild ?_) .nil))))))) ⟨rfl,rfl⟩ (SubO.get ⟨.inr ?_,⟨.inl rfl,trivial⟩⟩) (zaG rfl)
  rotate_left 7
  try simp only[Q] at h5p
  refine wc zhh (zcj hw ht) rfl rfl ?_
  refine ev ?_
  refine sq (fun h6 h6p h6s=>?_) fun h6 h6p h6s=>?_
  try simp only[Q] at h6p
  refine bu [0] [_] st28 ?_
  refine so ty28 ?_
  refine tv ?_
  refine rn [(900,some (rdB b (zaC b w (d+1) ⟨a,k⟩ p).2))] (.cons (.cellA ty28 rfl rfl rfl) .nil) (.agg (.cons (.eqd ?_) (.cons (.eqd ?_) (.cons (.eqd ?_) (.cons (.eqd ?_) (.cons (.eqd ?_) (.cons (.nild ?_) .nil))))))) ⟨rfl,rfl⟩ (SubO.get ⟨.inr ?_,⟨.inl rfl,trivial⟩⟩) (zaG rfl)
  rotate_left 7
  try simp only[Q] at h6p
  refine wd zc5 (zbp (p:=p+2) (n:=((((zah w ⟨a,k⟩).map fun n=>[D.i n]).length:Nat):Int)) hb (by omega) (by omega)) rfl rfl ⟨rfl,trivial⟩ ?_
  refine Walk.idx (i:=(zax b (p+2) (zah w ⟨a,k⟩).length).toNat) sl62 .none rfl rfl rfl (by rw[hvl];have:=v14 (by omega);omega) (hat (by omega)) rfl ?_
  refine ev ?_
  refine bu [0,1] [_,_] st28 ?_
  refine ab 3011 tz28 ?_
  refine so ty28 ?_
  refine tv ?_
  refine wc zfS (zcs hw ht (hmem (by omega))) rfl rfl ?_
  refine ev ?_
  refine CWp.tokB 3011 5 1 6 rfl rfl rfl rfl ?_
  refine CWp.loopX (ι:=List (Ty)×List (Ty)×(Nat)×(List Pat)) hk (fun x=>[(13,.d (.i (x.1.length:Int)))]) [75,76,77,78,79,80,81,82,83,84,85,86,87,88,89,90,91,92,93,94] (fun x=>[(900,some (.box [.d (zcy b),.d (.i (x.2.2.1:Int))])),(3011,some (.box [.d (.i 4),.d (.i cc),.d (.i 0),.d (.i 0),.d (.i 0),.gl 1 (x.2.2.2.map Pat.cc)])),(1,some (.tok (x.2.2.2.map Pat.cc).length 6))]) (fun x=>x.1++x.2.1=zaa w ⟨a,k⟩ cc∧x.2.2.1≤p+3+x.1.length*bdP d∧x.2.2.2.length=x.1.length∧(x.2.2.2++(dA (zaC b w d) x.2.1 x.2.2.1).1,(dA (zaC b w d) x.2.1 x.2.2.1).2)=dA (zaC b w d) (zaa w ⟨a,k⟩ cc) (p+3)) (fun x=>x.2.1.length) ([],zaa w ⟨a,k⟩ cc,p+3,[]) ⟨by simp,by simp,by simp,by simp⟩ ⟨⟨_,rfl,LeA.eqi ?_⟩,trivial⟩ ⟨?_,⟨?_,⟨zab ?_,trivial⟩⟩⟩ (fun x=>rfl) (fun x hg1=>?_)
  focus (first|rfl|(simp;done)|omega|(simp;omega))
  iterate 2 focus (first|rfl|(simp[getH];done))
  focus (first|rfl|(simp;done)|omega|(simp;omega))
  obtain⟨pre,rest,q,ks⟩:=x
  dsimp only at hg1 ⊢
  refine evc [] [] ?_
  refine sq (fun h7 h7p h7s=>?_) fun h7 h7p h7s=>?_
  try simp only[Q] at h7p
  rcases rest with _|⟨y,rest⟩
  ·exfalso;simp_all
  have hpm:pre.length*bdP d≤2*bdP d:=Nat.mul_le_mul_right _ (by have:=(hfw (by omega)).1;omega)
  refine Walk.idx za8 .none rfl rfl rfl rfl (zaN hg1.1) rfl ?_
  refine evd [] [] ?_
  refine ar ?_
  refine wd zln (zer hb hw hf d (a:=y.data) (k:=y.index) (p:=q) (by omega) (by omega) (by omega) (by omega) ((hfw (by omega)).2 y (by rw[←hg1.1];simp))) rfl rfl ⟨rfl,trivial⟩ ?_
  refine si [0] [_] sl26 tz28 ?_
  refine ap sl26 zz28 rfl rfl rfl (by simp) (by have hz:=congrArg List.length hg1.1;have:=(hfw (by omega)).1;simp at hz ⊢;omega) ?_
  refine evd [] [] ?_
  refine so ty26 ?_
  refine dr ?_
  refine ar ?_
  refine Exists.intro ((pre++[y],rest,(zaC b w d y q).2,ks++[(zaC b w d y q).1])) ⟨⟨(by have hz:=hg1.1;rw[←hz];simp),⟨(by have:=ih y q ((hfw (by omega)).2 y (by rw[←hg1.1];simp));simp only[List.length_append,List.length_cons,List.length_nil,Nat.add_mul];omega),(by simp[hg1.2.2.1]),(by rw[←hg1.2.2.2];simp[dA])⟩⟩,(by simp),sx ⟨⟨_,rfl,LeA.eqi ?_⟩,trivial⟩ ⟨?_,⟨?_,⟨zab ?_,trivial⟩⟩⟩⟩
  focus (first|rfl|(simp;done)|omega|(simp;omega))
  iterate 2 focus (first|rfl|(simp[getH];done))
  focus (first|rfl|(simp;done)|omega|(simp;omega))
  try simp only[Q] at h7p
  have hrest:rest=[]:=by
   rcases rest with _|⟨a,b⟩
   ·rfl
   ·exfalso;have hz:=congrArg List.length (hg1.1);simp only[List.length_append,List.length_cons,List.length_map] at hz;omega
  subst hrest
  refine so ty28 ?_
  refine tv ?_
  refine rn [(900,some (rdB b (zaC b w (d+1) ⟨a,k⟩ p).2))] (.cons (.cellA ty28 rfl rfl rfl) .nil) (.agg (.cons (.eqd ?_) (.cons (.eqd ?_) (.cons (.eqd ?_) (.cons (.eqd ?_) (.cons (.eqd ?_) (.cons (.gld ?_) .nil))))))) ⟨rfl,rfl⟩ (SubO.get ⟨.inr ?_,⟨.inl rfl,trivial⟩⟩) (zaG rfl)
  rotate_left 7
  all_goals (first|((first|(rw[zmJ (by omega)];all_goals first|rfl|(show _=D.sl (Pat.cs _);rw[Pat.cs_cc];all_goals rfl)|(show _=Pat.cs _;rw[Pat.cs_cc];all_goals rfl))|(rw[zmK (by omega) (by omega)];all_goals first|rfl|(show _=D.sl (Pat.cs _);rw[Pat.cs_cc];all_goals rfl)|(show _=Pat.cs _;rw[Pat.cs_cc];all_goals rfl))|(rw[zmL (by omega) (by omega) (by omega)];all_goals first|rfl|(show _=D.sl (Pat.cs _);rw[Pat.cs_cc];all_goals rfl)|(show _=Pat.cs _;rw[Pat.cs_cc];all_goals rfl))|(rw[zmM (by omega) (by omega) (by omega) (by omega)];all_goals first|rfl|(show _=D.sl (Pat.cs _);rw[Pat.cs_cc];all_goals rfl)|(show _=Pat.cs _;rw[Pat.cs_cc];all_goals rfl))|(rw[zmN (by omega) (by omega) (by omega) (by omega) (by omega)];all_goals first|rfl|(show _=D.sl (Pat.cs _);rw[Pat.cs_cc];all_goals rfl)|(show _=Pat.cs _;rw[Pat.cs_cc];all_goals rfl))|(rw[zmO (by omega) (by omega) (by omega) (by omega) (by omega) hcc];have hfin:=hg1.2.2.2;simp only[dA,List.append_nil] at hfin;rw[←hfin];all_goals first|rfl|(show _=D.sl (Pat.cs _);rw[Pat.cs_cc];all_goals rfl)|(show _=Pat.cs _;rw[Pat.cs_cc];all_goals rfl)));done)|(first|(rw[zmJ (by omega)];all_goals rfl)|(rw[zmK (by omega) (by omega)];all_goals rfl)|(rw[zmL (by omega) (by omega) (by omega)];all_goals rfl)|(rw[zmM (by omega) (by omega) (by omega) (by omega)];all_goals rfl)|(rw[zmN (by omega) (by omega) (by omega) (by omega) (by omega)];all_goals rfl)|(rw[zmO (by omega) (by omega) (by omega) (by omega) (by omega) hcc];have hfin:=hg1.2.2.2;simp only[dA,List.append_nil] at hfin;rw[←hfin];all_goals rfl)))
def namL (f:Pat→Int→Nat→Pat×Int×Nat):List Pat→Int→Nat→List Pat×Int×Nat
 | [],m,q=>([],m,q)
 |x::r,m,q=>((f x m q).1::(namL f r (f x m q).2.1 (f x m q).2.2).1,(namL f r (f x m q).2.1 (f x m q).2.2).2)
def namP (b:Str):Nat→Pat→Int→Nat→Pat×Int×Nat
 |0,p,m,q=>(p,m,q)
 |n+1,p,m,q=>
  if 5<m∨p.op=5∨p.op=3 then (p,m,q)
  else if p.op=1∧zax b q 2=0 then (⟨2,0,0,0,m,[]⟩,m+1,q+1)
  else if (namL (namP b n) p.kids m (if p.op=1 then q+1 else q)).2.1≤5 then
   (if zax b (namL (namP b n) p.kids m (if p.op=1 then q+1 else q)).2.2 6=0 then
    (⟨6,0,0,0,(namL (namP b n) p.kids m (if p.op=1 then q+1 else q)).2.1,[⟨p.op,p.ctor,p.n,p.m,p.var,(namL (namP b n) p.kids m (if p.op=1 then q+1 else q)).1⟩]⟩,
     (namL (namP b n) p.kids m (if p.op=1 then q+1 else q)).2.1+1,(namL (namP b n) p.kids m (if p.op=1 then q+1 else q)).2.2+1)
   else (⟨p.op,p.ctor,p.n,p.m,p.var,(namL (namP b n) p.kids m (if p.op=1 then q+1 else q)).1⟩,(namL (namP b n) p.kids m (if p.op=1 then q+1 else q)).2.1,(namL (namP b n) p.kids m (if p.op=1 then q+1 else q)).2.2+1))
  else (⟨p.op,p.ctor,p.n,p.m,p.var,(namL (namP b n) p.kids m (if p.op=1 then q+1 else q)).1⟩,(namL (namP b n) p.kids m (if p.op=1 then q+1 else q)).2.1,(namL (namP b n) p.kids m (if p.op=1 then q+1 else q)).2.2)
section
variable {b:Str}{n:Nat}{p:Pat}{m:Int}{q:Nat}{ks:List Pat}{zm:Int}{zq:Nat}
theorem zoD (h:5<m∨p.op=5∨p.op=3):namP b (n+1) p m q=(p,m,q):=by simp only[namP];rw[if_pos h]
theorem zoE (h:¬(5<m∨p.op=5∨p.op=3)) (h2:p.op=1∧zax b q 2=0):namP b (n+1) p m q=(⟨2,0,0,0,m,[]⟩,m+1,q+1):=by simp only[namP];rw[if_neg h,if_pos h2]
theorem zoF (h:¬(5<m∨p.op=5∨p.op=3)) (h2:¬(p.op=1∧zax b q 2=0)) (hz:(ks,zm,zq)=namL (namP b n) p.kids m (if p.op=1 then q+1 else q)) (h3:zm≤5) (h4:zax b zq 6=0):
  namP b (n+1) p m q=(⟨6,0,0,0,zm,[⟨p.op,p.ctor,p.n,p.m,p.var,ks⟩]⟩,zm+1,zq+1):=by
 simp only[namP];rw[if_neg h,if_neg h2,←hz];dsimp only;rw[if_pos h3,if_pos h4]
theorem zoG (h:¬(5<m∨p.op=5∨p.op=3)) (h2:¬(p.op=1∧zax b q 2=0)) (hz:(ks,zm,zq)=namL (namP b n) p.kids m (if p.op=1 then q+1 else q)) (h3:zm≤5) (h4:¬zax b zq 6=0):
  namP b (n+1) p m q=(⟨p.op,p.ctor,p.n,p.m,p.var,ks⟩,zm,zq+1):=by
 simp only[namP];rw[if_neg h,if_neg h2,←hz];dsimp only;rw[if_pos h3,if_neg h4]
theorem zoH (h:¬(5<m∨p.op=5∨p.op=3)) (h2:¬(p.op=1∧zax b q 2=0)) (hz:(ks,zm,zq)=namL (namP b n) p.kids m (if p.op=1 then q+1 else q)) (h3:¬zm≤5):
  namP b (n+1) p m q=(⟨p.op,p.ctor,p.n,p.m,p.var,ks⟩,zm,zq):=by
 simp only[namP];rw[if_neg h,if_neg h2,←hz];dsimp only;rw[if_neg h3]
end
def NamOk (p:Pat) (m:Int) (q:Nat) (r:Pat×Int×Nat):Prop:=m≤r.2.1∧r.2.1≤6∧r.2.2≤q+2*p.size∧r.1.size≤2*p.size∧(p.ok→r.1.ok)
theorem zqS {f:Pat→Int→Nat→Pat×Int×Nat}:∀(l:List Pat) (m:Int) (q:Nat),(∀x∈l,∀m q,0≤m→m≤6→NamOk x m q (f x m q))→0≤m→m≤6→
  m≤(namL f l m q).2.1∧(namL f l m q).2.1≤6∧(namL f l m q).2.2≤q+2*Pats.size l∧Pats.size (namL f l m q).1≤2*Pats.size l∧(namL f l m q).1.length=l.length∧(Pats.ok l→Pats.ok (namL f l m q).1)
 | [],m,q,_,_,h6=>by simp[namL,Pats.size,h6]
 |x::r,m,q,h,h0,h6=>by
  obtain⟨a1,a2,a3,a4,a5⟩:=h x (by simp) m q h0 h6
  obtain⟨b1,b2,b3,b4,b5,b6⟩:=zqS r (f x m q).2.1 (f x m q).2.2 (fun y hy=>h y (by simp[hy])) (by omega) a2
  simp only[namL,Pats.size,List.length_cons]
  refine⟨by omega,by omega,by omega,by omega,by omega,fun ho=>?_⟩
  exact⟨a5 ho.1,b6 ho.2⟩
theorem zm4 {b:Str}:∀(n:Nat) (p:Pat) (m:Int) (q:Nat),0≤m→m≤6→NamOk p m q (namP b n p m q)
 |0,p,m,q,h0,h6=>⟨by simp[namP],by simp[namP,h6],by simp[namP],by simp[namP];omega,fun h=>h⟩
 |n+1,p,m,q,h0,h6=>by
  have hs:=Pat.size_eq p
  by_cases h:5<m∨p.op=5∨p.op=3
  ·rw[zoD h];exact⟨Int.le_refl _,h6,by dsimp only;omega,by dsimp only;omega,fun h=>h⟩
  ·by_cases h2:p.op=1∧zax b q 2=0
   ·rw[zoE h h2]
    refine⟨by dsimp only;omega,by dsimp only;omega,by dsimp only;omega, ?_,fun _=>?_⟩
    ·show(Pat.mk 2 0 0 0 m []).size≤_;rw[Pat.size_eq];simp only[Pat.kids,Pats.size];omega
    ·show(Pat.mk 2 0 0 0 m []).ok;rw[Pat.ok_iff];exact⟨by simp[Pat.kids],trivial⟩
   ·generalize hz:namL (namP b n) p.kids m (if p.op=1 then q+1 else q)=z
    obtain⟨ks,zm,zq⟩:=z
    have hq:(if p.op=1 then q+1 else q)≤q+1:=by split<;>omega
    obtain⟨b1,b2,b3,b4,b5,b6⟩:=zqS (f:=namP b n) p.kids m (if p.op=1 then q+1 else q) (fun x _ m q h0 h6=>zm4 n x m q h0 h6) h0 h6
    rw[hz] at b1 b2 b3 b4 b5 b6
    dsimp only at b1 b2 b3 b4 b5 b6
    have so:(Pat.mk p.op p.ctor p.n p.m p.var ks).size=1+Pats.size ks:=by rw[Pat.size_eq];rfl
    have ko:p.ok→(Pat.mk p.op p.ctor p.n p.m p.var ks).ok:=fun h=>by
     rw[Pat.ok_iff] at h ⊢
     exact⟨by show ks.length≤_;rw[b5];exact h.1,b6 h.2⟩
    by_cases h3:zm≤5
    ·by_cases h4:zax b zq 6=0
     ·rw[zoF h h2 hz.symm h3 h4]
      refine⟨by dsimp only;omega,by dsimp only;omega,by dsimp only;omega, ?_,fun hk=>?_⟩
      ·dsimp only;rw[Pat.size_eq];simp only[Pat.kids,Pats.size];rw[so];omega
      ·dsimp only;rw[Pat.ok_iff];exact⟨by simp[Pat.kids],ko hk,trivial⟩
     ·rw[zoG h h2 hz.symm h3 h4]
      exact⟨b1,b2,by dsimp only;omega,by dsimp only;rw[so];omega,ko⟩
    ·rw[zoH h h2 hz.symm h3]
     exact⟨b1,b2,by dsimp only;omega,by dsimp only;rw[so];omega,ko⟩
theorem zfC {f:Pat→Int→Nat→Pat×Int×Nat}{ks:List Pat}{zm:Int}{zq:Nat}{z:List Pat×Int×Nat} (h:(ks++(namL f [] zm zq).1,(namL f [] zm zq).2)=z):(ks,zm,zq)=z:=by
 rw[←h];simp[namL]
theorem Pats.size_snoc {l:List Pat}{y:Pat}:Pats.size (l++[y])=Pats.size l+y.size:=by
 have:=Pats.size_split (pre:=l) (rest:=[]) (y:=y) rfl
 simpa [Pats.size] using this
theorem zfI {b:Str} (hb:b.length≤2000):∀(n:Nat){p:Pat}{m:Int}{q:Nat},p.size≤n→p.ok→0≤m→m≤6→q+2*p.size≤1000000→
  FnD Tryz.prog 124 [.ref 900 0,.agg [.d (.i p.op),.d (.i p.ctor),.d (.i p.n),.d (.i p.m),.d (.i p.var),.d (zac p.kids)],.d (.i m)] [(900,some (rdB b q))] (.tup [.agg [.d (.i (namP b n p m q).1.op),.d (.i (namP b n p m q).1.ctor),.d (.i (namP b n p m q).1.n),.d (.i (namP b n p m q).1.m),.d (.i (namP b n p m q).1.var),.d (zac (namP b n p m q).1.kids)],.d (.i (namP b n p m q).2.1)]) [(900,some (rdB b (namP b n p m q).2.2))]
 |0,p,m,q,h,_,_,_,_=>by rw[Pat.size_eq] at h;omega
 |n+1,p,m,q,kn,hok,k0,k6,hq=>by
  have hs:=Pat.size_eq p
  have hok':=hok
  rw[Pat.ok_iff] at hok'
  have ih:=fun(x:Pat) (m:Int) (q:Nat) (h0:0≤m) (h6:m≤6)=>zm4 (b:=b) n x m q h0 h6
  have hysz:∀ {pre rest:List Pat}{y:Pat},pre++y::rest=p.kids→y.size+Pats.size pre+Pats.size rest=Pats.size p.kids:=fun h=>by have:=Pats.size_split h;omega
  have hq1:(if p.op=1 then q+1 else q)≤q+1:=by split<;>omega
  generalize hqq:(if p.op=1 then q+1 else q)=q1 at hq1
  have hqa:p.op=1→q1=q+1:=fun h=>by rw[←hqq,if_pos h]
  have hqb:¬p.op=1→q1=q:=fun h=>by rw[←hqq,if_neg h]
  refine bd Tryz.f124 82 [] [] fun w0 F0 own kept hk=>?_
  refine bx 3004 ?_
  refine ab 3006 tz28 ?_
  refine ev ?_
  refine sq (fun h1 h1p h1s=>?_) fun h1 h1p h1s=>?_
  try simp only[Q,Pat.cs_len] at h1p
  refine sqT ?_
  refine sqT ?_
  refine so ty28 ?_
  refine ev ?_
  refine rn [(900,some (rdB b (namP b (n+1) p m q).2.2))] (.cons (.cellA ty28 rfl rfl rfl) (.cons (.tmp rfl) .nil)) (.tup (.cons (.agg (.cons (.eqd ?_) (.cons (.eqd ?_) (.cons (.eqd ?_) (.cons (.eqd ?_) (.cons (.eqd ?_) (.cons (.eqd ?_) .nil))))))) (.cons (.eqd ?_) .nil))) ⟨rfl,rfl⟩ (SubO.get ⟨.inr ?_,⟨.inl rfl,trivial⟩⟩) (zaG rfl)
  rotate_left 8
  try simp only[Q,Pat.cs_len] at h1p
  refine sq (fun h3 h3p h3s=>?_) fun h3 h3p h3s=>?_
  try simp only[Q,Pat.cs_len] at h3p
  refine sqT ?_
  refine so ty28 ?_
  refine ev ?_
  refine rn [(900,some (rdB b (namP b (n+1) p m q).2.2))] (.cons (.cellA ty28 rfl rfl rfl) (.cons (.tmp rfl) .nil)) (.tup (.cons (.agg (.cons (.eqd ?_) (.cons (.eqd ?_) (.cons (.eqd ?_) (.cons (.eqd ?_) (.cons (.eqd ?_) (.cons (.eqd ?_) .nil))))))) (.cons (.eqd ?_) .nil))) ⟨rfl,rfl⟩ (SubO.get ⟨.inr ?_,⟨.inl rfl,trivial⟩⟩) (zaG rfl)
  rotate_left 8
  try simp only[Q,Pat.cs_len] at h3p
  refine sq (fun h5 h5p h5s=>?_) fun h5 h5p h5s=>?_
  try simp only[Q,Pat.cs_len] at h5p
  refine so ty28 ?_
  refine ev ?_
  refine rn [(900,some (rdB b (namP b (n+1) p m q).2.2))] (.cons (.cellA ty28 rfl rfl rfl) (.cons (.tmp rfl) .nil)) (.tup (.cons (.agg (.cons (.eqd ?_) (.cons (.eqd ?_) (.cons (.eqd ?_) (.cons (.eqd ?_) (.cons (.eqd ?_) (.cons (.eqd ?_) .nil))))))) (.cons (.eqd ?_) .nil))) ⟨rfl,rfl⟩ (SubO.get ⟨.inr ?_,⟨.inl rfl,trivial⟩⟩) (zaG rfl)
  rotate_left 8
  try simp only[Q,Pat.cs_len] at h5p
  refine sq (fun h6 h6p h6s=>?_) fun h6 h6p h6s=>?_
  try simp only[Q,Pat.cs_len] at h6p
  refine Walk.call (cr:=[]) zc5 (zbp (p:=q) (n:=2) hb (by omega) (by omega)) rfl (.some rfl rfl h6) rfl rfl (LeL.refl _) ⟨rfl,trivial⟩ rfl rfl rfl ?_
  refine evs [] [(30,true)] ?_ ⟨⟨_,rfl,h6⟩,trivial⟩
  refine sq (fun h7 h7p h7s=>?_) fun h7 h7p h7s=>?_
  try simp only[Q,Pat.cs_len] at h7p
  refine bu [0,4] [_,_] st28 ?_
  refine ev ?_
  refine ar ?_
  refine so ty28 ?_
  refine ev ?_
  refine rn [(900,some (rdB b (namP b (n+1) p m q).2.2))] (.cons (.cellA ty28 rfl rfl rfl) (.cons (.tmp rfl) .nil)) (.tup (.cons (.agg (.cons (.eqd ?_) (.cons (.eqd ?_) (.cons (.eqd ?_) (.cons (.eqd ?_) (.cons (.eqd ?_) (.cons (.nild ?_) .nil))))))) (.cons (.eqd ?_) .nil))) ⟨rfl,rfl⟩ (SubO.get ⟨.inr ?_,⟨.inl rfl,trivial⟩⟩) (zaG rfl)
  rotate_left 8
  try simp only[Q,Pat.cs_len] at h7p
  refine ab 3008 tz28 ?_
  refine so ty28 ?_
  refine tv ?_
  refine so ty26 ?_
  refine tv ?_
  refine CWp.tokB 3008 5 1 6 rfl rfl rfl rfl ?_
  refine CWp.loopX (ι:=List (Pat)×List (Pat)×(Int)×(Nat)×(List Pat)) hk (fun x=>[(10,.d (.i (x.1.length:Int))),(9,.d (.i x.2.2.1))]) [11,12,42,43,44,45,46,47,48,49,50,51,52,53,54,55,56,57,58,59,60,61,62,63,64,65,66] (fun x=>[(900,some (.box [.d (zcy b),.d (.i (x.2.2.2.1:Int))])),(3008,some (.box [.d (.i p.op),.d (.i p.ctor),.d (.i p.n),.d (.i p.m),.d (.i p.var),.gl 1 (x.2.2.2.2.map Pat.cc)])),(1,some (.tok (x.2.2.2.2.map Pat.cc).length 6))]) (fun x=>x.1++x.2.1=p.kids∧0≤x.2.2.1∧x.2.2.1≤6∧x.2.2.2.1≤q1+2*Pats.size x.1∧x.2.2.2.2.length=x.1.length∧(x.2.2.2.2++(namL (namP b n) x.2.1 x.2.2.1 x.2.2.2.1).1,(namL (namP b n) x.2.1 x.2.2.1 x.2.2.2.1).2)=namL (namP b n) p.kids m q1) (fun x=>x.2.1.length) ([],p.kids,m,q1,[]) ⟨by simp,by simpa using k0,by simpa using k6,by simp[Pats.size],by simp,by simp⟩ ⟨⟨_,rfl,LeA.eqi ?_⟩,⟨⟨_,rfl,LeA.eqi ?_⟩,trivial⟩⟩ ⟨?_,⟨?_,⟨zab ?_,trivial⟩⟩⟩ (fun x=>rfl) (fun x hg1=>?_)
  iterate 2 focus (first|rfl|(simp;done)|omega|(simp;omega))
  iterate 2 focus (first|rfl|(simp[getH];done)|(show some (Res.box _)=some (Res.box _);rw[hqa (by omega)];all_goals rfl)|(show some (Res.box _)=some (Res.box _);rw[hqb (by omega)];all_goals rfl))
  focus (first|rfl|(simp;done)|omega|(simp;omega))
  obtain⟨pre,rest,zm,zq,ks⟩:=x
  dsimp only at hg1 ⊢
  refine evc [] [] ?_
  refine sq (fun h8 h8p h8s=>?_) fun h8 h8p h8s=>?_
  try simp only[Q,Pat.cs_len] at h8p
  rcases rest with _|⟨y,rest⟩
  ·exfalso;simp_all
  have hni:=ih y zm zq hg1.2.1 hg1.2.2.1;have hn1:=hni.1;have hn2:=hni.2.1;have hn3:=hni.2.2.1
  refine Walk.idx sl26 .none rfl rfl rfl rfl (Pat.cs_at' hg1.1) rfl ?_
  refine ev ?_
  refine wd zoT (zfI hb n (p:=y) (m:=zm) (q:=zq) (by have:=hysz hg1.1;omega) (Pats.ok_mem hok'.2 y (by rw[←hg1.1];simp)) (by omega) (by omega) (by have:=hysz hg1.1;omega)) rfl rfl ⟨rfl,trivial⟩ ?_
  refine ev ?_
  refine ab 3011 tz28 ?_
  refine so ty28 ?_
  refine ev ?_
  refine si [0] [_] sl26 tz28 ?_
  refine ap sl26 zz28 rfl rfl rfl (by simp) (by have hz:=congrArg List.length hg1.1;simp at hz ⊢;omega) ?_
  refine ev ?_
  refine so ty26 ?_
  refine tv ?_
  refine ar ?_
  refine Exists.intro ((pre++[y],rest,(namP b n y zm zq).2.1,(namP b n y zm zq).2.2,ks++[(namP b n y zm zq).1])) ⟨⟨(by have hz:=hg1.1;rw[←hz];simp),⟨by dsimp only;omega,by dsimp only;omega,(by rw[Pats.size_snoc];dsimp only;omega),(by simp[hg1.2.2.2.2.1]),(by rw[←hg1.2.2.2.2.2];simp[namL])⟩⟩,(by simp),sx ⟨⟨_,rfl,LeA.eqi ?_⟩,⟨⟨_,rfl,LeA.eqi ?_⟩,trivial⟩⟩ ⟨?_,⟨?_,⟨zab ?_,trivial⟩⟩⟩⟩
  iterate 2 focus (first|rfl|(simp;done)|omega|(simp;omega))
  iterate 2 focus (first|rfl|(simp[getH];done)|(show some (Res.box _)=some (Res.box _);rw[hqa (by omega)];all_goals rfl)|(show some (Res.box _)=some (Res.box _);rw[hqb (by omega)];all_goals rfl))
  focus (first|rfl|(simp;done)|omega|(simp;omega))
  try simp only[Q,Pat.cs_len] at h8p
  have hrest:rest=[]:=by
   rcases rest with _|⟨a,b⟩
   ·rfl
   ·exfalso;have hz:=congrArg List.length (hg1.1);simp only[List.length_append,List.length_cons,List.length_map] at hz;omega
  subst hrest
  refine sq (fun h9 h9p h9s=>?_) fun h9 h9p h9s=>?_
  try simp only[Q,Pat.cs_len] at h9p
  refine Walk.call (cr:=[]) zc5 (zbp (p:=zq) (n:=6) hb (by have e:=hg1.1;rw[List.append_nil] at e;rw[←e] at hs;omega) (by omega)) rfl (.some rfl rfl h9) rfl rfl (LeL.refl _) ⟨rfl,trivial⟩ rfl rfl rfl ?_
  refine evs [] [(69,true)] ?_ ⟨⟨_,rfl,h9⟩,trivial⟩
  refine sq (fun h10 h10p h10s=>?_) fun h10 h10p h10s=>?_
  try simp only[Q,Pat.cs_len] at h10p
  refine si [0] [_] sl26 tz28 ?_
  refine bu [0,4,5] [_,_,_] st28 ?_
  refine ev ?_
  refine ar ?_
  refine so ty28 ?_
  refine ev ?_
  refine rn [(900,some (rdB b (namP b (n+1) p m q).2.2))] (.cons (.cellA ty28 rfl rfl rfl) (.cons (.tmp rfl) .nil)) (.tup (.cons (.agg (.cons (.eqd ?_) (.cons (.eqd ?_) (.cons (.eqd ?_) (.cons (.eqd ?_) (.cons (.eqd ?_) (.cons (.eqd ?_) .nil))))))) (.cons (.eqd ?_) .nil))) ⟨rfl,rfl⟩ (SubO.get ⟨.inr ?_,⟨.inl rfl,trivial⟩⟩) (zaG rfl)
  rotate_left 8
  try simp only[Q,Pat.cs_len] at h10p
  refine so ty28 ?_
  refine ev ?_
  refine rn [(900,some (rdB b (namP b (n+1) p m q).2.2))] (.cons (.cellA ty28 rfl rfl rfl) (.cons (.tmp rfl) .nil)) (.tup (.cons (.agg (.cons (.eqd ?_) (.cons (.eqd ?_) (.cons (.eqd ?_) (.cons (.eqd ?_) (.cons (.eqd ?_) (.cons (.gld ?_) .nil))))))) (.cons (.eqd ?_) .nil))) ⟨rfl,rfl⟩ (SubO.get ⟨.inr ?_,⟨.inl rfl,trivial⟩⟩) (zaG rfl)
  rotate_left 8
  try simp only[Q,Pat.cs_len] at h9p
  refine sqF ?_
  refine so ty28 ?_
  refine ev ?_
  refine rn [(900,some (rdB b (namP b (n+1) p m q).2.2))] (.cons (.cellA ty28 rfl rfl rfl) (.cons (.tmp rfl) .nil)) (.tup (.cons (.agg (.cons (.eqd ?_) (.cons (.eqd ?_) (.cons (.eqd ?_) (.cons (.eqd ?_) (.cons (.eqd ?_) (.cons (.gld ?_) .nil))))))) (.cons (.eqd ?_) .nil))) ⟨rfl,rfl⟩ (SubO.get ⟨.inr ?_,⟨.inl rfl,trivial⟩⟩) (zaG rfl)
  rotate_left 8
  try simp only[Q,Pat.cs_len] at h6p
  refine sqF ?_
  refine ab 3008 tz28 ?_
  refine so ty28 ?_
  refine tv ?_
  refine so ty26 ?_
  refine tv ?_
  refine CWp.tokB 3008 5 1 6 rfl rfl rfl rfl ?_
  refine CWp.loopX (ι:=List (Pat)×List (Pat)×(Int)×(Nat)×(List Pat)) hk (fun x=>[(10,.d (.i (x.1.length:Int))),(9,.d (.i x.2.2.1))]) [11,12,42,43,44,45,46,47,48,49,50,51,52,53,54,55,56,57,58,59,60,61,62,63,64,65,66] (fun x=>[(900,some (.box [.d (zcy b),.d (.i (x.2.2.2.1:Int))])),(3008,some (.box [.d (.i p.op),.d (.i p.ctor),.d (.i p.n),.d (.i p.m),.d (.i p.var),.gl 1 (x.2.2.2.2.map Pat.cc)])),(1,some (.tok (x.2.2.2.2.map Pat.cc).length 6))]) (fun x=>x.1++x.2.1=p.kids∧0≤x.2.2.1∧x.2.2.1≤6∧x.2.2.2.1≤q1+2*Pats.size x.1∧x.2.2.2.2.length=x.1.length∧(x.2.2.2.2++(namL (namP b n) x.2.1 x.2.2.1 x.2.2.2.1).1,(namL (namP b n) x.2.1 x.2.2.1 x.2.2.2.1).2)=namL (namP b n) p.kids m q1) (fun x=>x.2.1.length) ([],p.kids,m,q1,[]) ⟨by simp,by simpa using k0,by simpa using k6,by simp[Pats.size],by simp,by simp⟩ ⟨⟨_,rfl,LeA.eqi ?_⟩,⟨⟨_,rfl,LeA.eqi ?_⟩,trivial⟩⟩ ⟨?_,⟨?_,⟨zab ?_,trivial⟩⟩⟩ (fun x=>rfl) (fun x hg1=>?_)
  iterate 2 focus (first|rfl|(simp;done)|omega|(simp;omega))
  iterate 2 focus (first|rfl|(simp[getH];done)|(show some (Res.box _)=some (Res.box _);rw[hqa (by omega)];all_goals rfl)|(show some (Res.box _)=some (Res.box _);rw[hqb (by omega)];all_goals rfl))
  focus (first|rfl|(simp;done)|omega|(simp;omega))
  obtain⟨pre,rest,zm,zq,ks⟩:=x
  dsimp only at hg1 ⊢
  refine evc [] [] ?_
  refine sq (fun h13 h13p h13s=>?_) fun h13 h13p h13s=>?_
  try simp only[Q,Pat.cs_len] at h13p
  rcases rest with _|⟨y,rest⟩
  ·exfalso;simp_all
  have hni:=ih y zm zq hg1.2.1 hg1.2.2.1;have hn1:=hni.1;have hn2:=hni.2.1;have hn3:=hni.2.2.1
  refine Walk.idx sl26 .none rfl rfl rfl rfl (Pat.cs_at' hg1.1) rfl ?_
  refine ev ?_
  refine wd zoT (zfI hb n (p:=y) (m:=zm) (q:=zq) (by have:=hysz hg1.1;omega) (Pats.ok_mem hok'.2 y (by rw[←hg1.1];simp)) (by omega) (by omega) (by have:=hysz hg1.1;omega)) rfl rfl ⟨rfl,trivial⟩ ?_
  refine ev ?_
  refine ab 3011 tz28 ?_
  refine so ty28 ?_
  refine ev ?_
  refine si [0] [_] sl26 tz28 ?_
  refine ap sl26 zz28 rfl rfl rfl (by simp) (by have hz:=congrArg List.length hg1.1;simp at hz ⊢;omega) ?_
  refine ev ?_
  refine so ty26 ?_
  refine tv ?_
  refine ar ?_
  refine Exists.intro ((pre++[y],rest,(namP b n y zm zq).2.1,(namP b n y zm zq).2.2,ks++[(namP b n y zm zq).1])) ⟨⟨(by have hz:=hg1.1;rw[←hz];simp),⟨by dsimp only;omega,by dsimp only;omega,(by rw[Pats.size_snoc];dsimp only;omega),(by simp[hg1.2.2.2.2.1]),(by rw[←hg1.2.2.2.2.2];simp[namL])⟩⟩,(by simp),sx ⟨⟨_,rfl,LeA.eqi ?_⟩,⟨⟨_,rfl,LeA.eqi ?_⟩,trivial⟩⟩ ⟨?_,⟨?_,⟨zab ?_,trivial⟩⟩⟩⟩
  iterate 2 focus (first|rfl|(simp;done)|omega|(simp;omega))
  iterate 2 focus (first|rfl|(simp[getH];done)|(show some (Res.box _)=some (Res.box _);rw[hqa (by omega)];all_goals rfl)|(show some (Res.box _)=some (Res.box _);rw[hqb (by omega)];all_goals rfl))
  focus (first|rfl|(simp;done)|omega|(simp;omega))
  try simp only[Q,Pat.cs_len] at h13p
  have hrest:rest=[]:=by
   rcases rest with _|⟨a,b⟩
   ·rfl
   ·exfalso;have hz:=congrArg List.length (hg1.1);simp only[List.length_append,List.length_cons,List.length_map] at hz;omega
  subst hrest
  refine sq (fun h14 h14p h14s=>?_) fun h14 h14p h14s=>?_
  try simp only[Q,Pat.cs_len] at h14p
  refine Walk.call (cr:=[]) zc5 (zbp (p:=zq) (n:=6) hb (by have e:=hg1.1;rw[List.append_nil] at e;rw[←e] at hs;omega) (by omega)) rfl (.some rfl rfl h14) rfl rfl (LeL.refl _) ⟨rfl,trivial⟩ rfl rfl rfl ?_
  refine evs [] [(69,true)] ?_ ⟨⟨_,rfl,h14⟩,trivial⟩
  refine sq (fun h15 h15p h15s=>?_) fun h15 h15p h15s=>?_
  try simp only[Q,Pat.cs_len] at h15p
  refine si [0] [_] sl26 tz28 ?_
  refine bu [0,4,5] [_,_,_] st28 ?_
  refine ev ?_
  refine ar ?_
  refine so ty28 ?_
  refine ev ?_
  refine rn [(900,some (rdB b (namP b (n+1) p m q).2.2))] (.cons (.cellA ty28 rfl rfl rfl) (.cons (.tmp rfl) .nil)) (.tup (.cons (.agg (.cons (.eqd ?_) (.cons (.eqd ?_) (.cons (.eqd ?_) (.cons (.eqd ?_) (.cons (.eqd ?_) (.cons (.eqd ?_) .nil))))))) (.cons (.eqd ?_) .nil))) ⟨rfl,rfl⟩ (SubO.get ⟨.inr ?_,⟨.inl rfl,trivial⟩⟩) (zaG rfl)
  rotate_left 8
  try simp only[Q,Pat.cs_len] at h15p
  refine so ty28 ?_
  refine ev ?_
  refine rn [(900,some (rdB b (namP b (n+1) p m q).2.2))] (.cons (.cellA ty28 rfl rfl rfl) (.cons (.tmp rfl) .nil)) (.tup (.cons (.agg (.cons (.eqd ?_) (.cons (.eqd ?_) (.cons (.eqd ?_) (.cons (.eqd ?_) (.cons (.eqd ?_) (.cons (.gld ?_) .nil))))))) (.cons (.eqd ?_) .nil))) ⟨rfl,rfl⟩ (SubO.get ⟨.inr ?_,⟨.inl rfl,trivial⟩⟩) (zaG rfl)
  rotate_left 8
  try simp only[Q,Pat.cs_len] at h14p
  refine sqF ?_
  refine so ty28 ?_
  refine ev ?_
  refine rn [(900,some (rdB b (namP b (n+1) p m q).2.2))] (.cons (.cellA ty28 rfl rfl rfl) (.cons (.tmp rfl) .nil)) (.tup (.cons (.agg (.cons (.eqd ?_) (.cons (.eqd ?_) (.cons (.eqd ?_) (.cons (.eqd ?_) (.cons (.eqd ?_) (.cons (.gld ?_) .nil))))))) (.cons (.eqd ?_) .nil))) ⟨rfl,rfl⟩ (SubO.get ⟨.inr ?_,⟨.inl rfl,trivial⟩⟩) (zaG rfl)
  rotate_left 8
  all_goals (first|((first|(rw[zoD (by omega)];all_goals first|rfl|(show _=D.sl (Pat.cs _);rw[Pat.cs_cc];all_goals rfl)|(show _=Pat.cs _;rw[Pat.cs_cc];all_goals rfl)|(show _=D.sl [[D.i _,D.i _,D.i _,D.i _,D.i _,D.sl (Pat.cs _)]];rw[Pat.cs_cc];all_goals rfl))|(rw[zoE (by omega) ⟨by omega,by omega⟩];all_goals first|rfl|(show _=D.sl (Pat.cs _);rw[Pat.cs_cc];all_goals rfl)|(show _=Pat.cs _;rw[Pat.cs_cc];all_goals rfl)|(show _=D.sl [[D.i _,D.i _,D.i _,D.i _,D.i _,D.sl (Pat.cs _)]];rw[Pat.cs_cc];all_goals rfl))|(have hz:(ks,zm,zq)=namL (namP b n) p.kids m (if p.op=1 then q+1 else q):=(by rw[hqq];exact zfC hg1.2.2.2.2.2);rw[zoF (by omega) (fun hh=>by omega) hz (by omega) (by omega)];all_goals first|rfl|(show _=D.sl (Pat.cs _);rw[Pat.cs_cc];all_goals rfl)|(show _=Pat.cs _;rw[Pat.cs_cc];all_goals rfl)|(show _=D.sl [[D.i _,D.i _,D.i _,D.i _,D.i _,D.sl (Pat.cs _)]];rw[Pat.cs_cc];all_goals rfl))|(have hz:(ks,zm,zq)=namL (namP b n) p.kids m (if p.op=1 then q+1 else q):=(by rw[hqq];exact zfC hg1.2.2.2.2.2);rw[zoG (by omega) (fun hh=>by omega) hz (by omega) (by omega)];all_goals first|rfl|(show _=D.sl (Pat.cs _);rw[Pat.cs_cc];all_goals rfl)|(show _=Pat.cs _;rw[Pat.cs_cc];all_goals rfl)|(show _=D.sl [[D.i _,D.i _,D.i _,D.i _,D.i _,D.sl (Pat.cs _)]];rw[Pat.cs_cc];all_goals rfl))|(have hz:(ks,zm,zq)=namL (namP b n) p.kids m (if p.op=1 then q+1 else q):=(by rw[hqq];exact zfC hg1.2.2.2.2.2);rw[zoH (by omega) (fun hh=>by omega) hz (by omega)];all_goals first|rfl|(show _=D.sl (Pat.cs _);rw[Pat.cs_cc];all_goals rfl)|(show _=Pat.cs _;rw[Pat.cs_cc];all_goals rfl)|(show _=D.sl [[D.i _,D.i _,D.i _,D.i _,D.i _,D.sl (Pat.cs _)]];rw[Pat.cs_cc];all_goals rfl)));done)|(first|(rw[zoD (by omega)];all_goals first|rfl|(show _=D.sl (Pat.cs _);rw[Pat.cs_cc];all_goals rfl)|(show _=Pat.cs _;rw[Pat.cs_cc];all_goals rfl)|(show _=D.sl [[D.i _,D.i _,D.i _,D.i _,D.i _,D.sl (Pat.cs _)]];rw[Pat.cs_cc];all_goals rfl))|(rw[zoE (by omega) ⟨by omega,by omega⟩];all_goals first|rfl|(show _=D.sl (Pat.cs _);rw[Pat.cs_cc];all_goals rfl)|(show _=Pat.cs _;rw[Pat.cs_cc];all_goals rfl)|(show _=D.sl [[D.i _,D.i _,D.i _,D.i _,D.i _,D.sl (Pat.cs _)]];rw[Pat.cs_cc];all_goals rfl))|(have hz:(ks,zm,zq)=namL (namP b n) p.kids m (if p.op=1 then q+1 else q):=(by rw[hqq];exact zfC hg1.2.2.2.2.2);rw[zoF (by omega) (fun hh=>by omega) hz (by omega) (by omega)];all_goals first|rfl|(show _=D.sl (Pat.cs _);rw[Pat.cs_cc];all_goals rfl)|(show _=Pat.cs _;rw[Pat.cs_cc];all_goals rfl)|(show _=D.sl [[D.i _,D.i _,D.i _,D.i _,D.i _,D.sl (Pat.cs _)]];rw[Pat.cs_cc];all_goals rfl))|(have hz:(ks,zm,zq)=namL (namP b n) p.kids m (if p.op=1 then q+1 else q):=(by rw[hqq];exact zfC hg1.2.2.2.2.2);rw[zoG (by omega) (fun hh=>by omega) hz (by omega) (by omega)];all_goals first|rfl|(show _=D.sl (Pat.cs _);rw[Pat.cs_cc];all_goals rfl)|(show _=Pat.cs _;rw[Pat.cs_cc];all_goals rfl)|(show _=D.sl [[D.i _,D.i _,D.i _,D.i _,D.i _,D.sl (Pat.cs _)]];rw[Pat.cs_cc];all_goals rfl))|(have hz:(ks,zm,zq)=namL (namP b n) p.kids m (if p.op=1 then q+1 else q):=(by rw[hqq];exact zfC hg1.2.2.2.2.2);rw[zoH (by omega) (fun hh=>by omega) hz (by omega)];all_goals first|rfl|(show _=D.sl (Pat.cs _);rw[Pat.cs_cc];all_goals rfl)|(show _=Pat.cs _;rw[Pat.cs_cc];all_goals rfl)|(show _=D.sl [[D.i _,D.i _,D.i _,D.i _,D.i _,D.sl (Pat.cs _)]];rw[Pat.cs_cc];all_goals rfl))))
def szP:Nat→Nat
 |0=>1
 |d+1=>1+3*szP d
theorem zuK (d:Nat):1≤szP d:=by cases d<;>simp only[szP]<;>omega
theorem zgF:anyP.size=1∧anyP.ok:=⟨by rw[Pat.size_eq];rfl,by rw[Pat.ok_iff];exact⟨by simp[anyP,Pat.kids],trivial⟩⟩
theorem zt0 {f:Ty→Nat→Pat×Nat}{k:Nat}:∀(l:List Ty) (q:Nat),(∀t∈l,∀q,(f t q).1.size≤k∧(f t q).1.ok)→Pats.size (dA f l q).1≤l.length*k∧Pats.ok (dA f l q).1
 | [],q,_=>by simp[dA,Pats.size,Pats.ok]
 |t::r,q,h=>by
  have h1:=h t (by simp) q
  have h2:=zt0 r (f t q).2 (fun x hx=>h x (by simp[hx]))
  simp only[dA,List.length_cons,Nat.add_mul,Pats.size]
  exact⟨by omega,h1.2,h2.2⟩
theorem zkM {b:Str}{w:List Data} (hf:Few w):∀(d:Nat) (t:Ty) (p:Nat),TyIn w.length t→(zaC b w d t p).1.size≤szP d∧(zaC b w d t p).1.ok
 |0,t,p,_=>by simp only[zaC,szP];have:=zgF;exact⟨by omega,this.2⟩
 |d+1,⟨a,k⟩,p,ht=>by
  have ih:=fun t p ht=>zkM (b:=b) hf d t p ht
  have ha:=zgF
  have hp:=zuK d
  simp only[szP]
  by_cases c1:d=0
  ·rw[zmJ c1];exact⟨by dsimp only;omega,ha.2⟩
  by_cases c2:zax b p 4=0
  ·rw[zmK c1 c2];exact⟨by dsimp only;omega,ha.2⟩
  by_cases c3:zax b (p+1) 6=0
  ·rw[zmL c1 c2 c3]
   have h1:=ih ⟨a,k⟩ (p+2) ht
   have h2:=ih ⟨a,k⟩ (zaC b w d ⟨a,k⟩ (p+2)).2 ht
   refine⟨?_, ?_⟩
   ·dsimp only;rw[Pat.size_eq];simp only[Pat.kids,Pats.size];omega
   ·dsimp only;rw[Pat.ok_iff];exact⟨by simp[Pat.kids],h1.2,h2.2,trivial⟩
  by_cases c4:a = -1
  ·rw[zmM c1 c2 c3 c4]
   refine⟨?_, ?_⟩
   ·dsimp only;rw[Pat.size_eq];simp only[Pat.kids,Pats.size];omega
   ·dsimp only;rw[Pat.ok_iff];exact⟨by simp[Pat.kids],trivial⟩
  by_cases c5:(zah w ⟨a,k⟩).length=0
  ·rw[zmN c1 c2 c3 c4 c5];exact⟨by dsimp only;omega,ha.2⟩
  ·rw[zmO c1 c2 c3 c4 c5 rfl]
   have hm:=ziD (b:=b) (p:=p+2) c5
   have h3:=hf ⟨a,k⟩ _ hm ht
   have h1:=zt0 (f:=zaC b w d) (k:=szP d) _ (p+3) (fun u hu q=>ih u q (h3.2 u hu))
   have h2:=zsj (f:=zaC b w d) (zaa w ⟨a,k⟩ (nth (zah w ⟨a,k⟩) (zax b (p+2) (zah w ⟨a,k⟩).length).toNat)) (p+3)
   have h4:(zaa w ⟨a,k⟩ (nth (zah w ⟨a,k⟩) (zax b (p+2) (zah w ⟨a,k⟩).length).toNat)).length*szP d≤3*szP d:=Nat.mul_le_mul_right _ h3.1
   refine⟨?_, ?_⟩
   ·dsimp only;rw[Pat.size_eq];simp only[Pat.kids];omega
   ·dsimp only;rw[Pat.ok_iff];exact⟨by simp only[Pat.kids];omega,h1.2⟩
theorem zk4 {b:Str}{p:Nat}{l:List Int} (h:1≤l.length):numV b p l∈l:=by
 have:=zc2 (b:=b) (p:=p) (n:=(l.length:Int)) (by omega)
 exact zag (by omega)
theorem num4 (b:Str) (p:Nat):1≤numV b p [3,2,4,1]∧numV b p [3,2,4,1]≤4:=by
 have:=zk4 (b:=b) (p:=p) (l:=[3,2,4,1]) (by simp)
 simp only[List.mem_cons,List.not_mem_nil,or_false] at this
 omega
theorem zp1 {d:Nat} (h:d≤4):szP d≤121∧bdP d≤200:=by
 have:d=0∨d=1∨d=2∨d=3∨d=4:=by omega
 rcases this with rfl|rfl|rfl|rfl|rfl<;>decide
def zc3 (b:Str) (w:List Data) (t:Ty) (p:Nat):Pat×Int×Nat:=
 namP b (zaC b w (numV b p [3,2,4,1]).toNat t (p+1)).1.size (zaC b w (numV b p [3,2,4,1]).toNat t (p+1)).1 0 (zaC b w (numV b p [3,2,4,1]).toNat t (p+1)).2
def zci (b:Str) (w:List Data) (t:Ty) (p:Nat):Pat:=if isP w t (zc3 b w t p).1 then (zc3 b w t p).1 else anyP
theorem zjK {b:Str}{w:List Data} (hf:Few w){t:Ty} (ht:TyIn w.length t) (p:Nat):(zc3 b w t p).2.2≤p+500∧(zc3 b w t p).1.size≤242∧(zc3 b w t p).1.ok:=by
 have h4:=num4 b p
 have hs:=zp1 (d:=(numV b p [3,2,4,1]).toNat) (by omega)
 have h1:=zkM (b:=b) hf (numV b p [3,2,4,1]).toNat t (p+1) ht
 have h2:=zio (b:=b) hf (numV b p [3,2,4,1]).toNat t (p+1) ht
 have h3:=zm4 (b:=b) (zaC b w (numV b p [3,2,4,1]).toNat t (p+1)).1.size (zaC b w (numV b p [3,2,4,1]).toNat t (p+1)).1 0 (zaC b w (numV b p [3,2,4,1]).toNat t (p+1)).2 (by omega) (by omega)
 obtain⟨_,_,n3,n4,n5⟩:=h3
 exact⟨by unfold zc3;omega,by unfold zc3;omega,n5 h1.2⟩
theorem zmg {b:Str}{w:List Data} (hf:Few w){t:Ty} (ht:TyIn w.length t) (p:Nat):(zci b w t p).size≤242∧(zci b w t p).ok:=by
 have h:=zjK (b:=b) hf ht p
 have ha:=zgF
 unfold zci
 split
 ·exact⟨h.2.1,h.2.2⟩
 ·exact⟨by omega,ha.2⟩
theorem zh8 {b:Str}{w:List Data} (hb:b.length≤2000) (hw:WT w) (hf:Few w){a k:Int}{p:Nat} (hp:p≤100000) (ht:TyIn w.length ⟨a,k⟩):
  FnD Tryz.prog 72 [.ref 900 0,.d (zan w),.agg [.d (.i a),.d (.i k)]] [(900,some (rdB b p))]
   (.agg [.d (.i (zci b w ⟨a,k⟩ p).op),.d (.i (zci b w ⟨a,k⟩ p).ctor),.d (.i (zci b w ⟨a,k⟩ p).n),.d (.i (zci b w ⟨a,k⟩ p).m),.d (.i (zci b w ⟨a,k⟩ p).var),.d (zac (zci b w ⟨a,k⟩ p).kids)]) [(900,some (rdB b (zc3 b w ⟨a,k⟩ p).2.2))]:=by
 have h4:=num4 b p
 have hs:=zp1 (d:=(numV b p [3,2,4,1]).toNat) (by omega)
 have h1:=zkM (b:=b) hf (numV b p [3,2,4,1]).toNat ⟨a,k⟩ (p+1) ht
 have h2:=zio (b:=b) hf (numV b p [3,2,4,1]).toNat ⟨a,k⟩ (p+1) ht
 have hr:=zjK (b:=b) hf ht p
 have hnum:=zcU (b:=b) (p:=p) (l:=[3,2,4,1]) hb (by omega) (by simp) (by simp)
 have hdr:=zer hb hw hf (numV b p [3,2,4,1]).toNat (a:=a) (k:=k) (m:=numV b p [3,2,4,1]) (p:=p+1) (by omega) (by omega) (by omega) (by omega) ht
 have hnm:=zfI hb (zaC b w (numV b p [3,2,4,1]).toNat ⟨a,k⟩ (p+1)).1.size (m:=0) (q:=(zaC b w (numV b p [3,2,4,1]).toNat ⟨a,k⟩ (p+1)).2) (Nat.le_refl _) h1.2 (by omega) (by omega) (by omega)
 have hsp:zci b w ⟨a,k⟩ p=if isP w ⟨a,k⟩ (zc3 b w ⟨a,k⟩ p).1 then (zc3 b w ⟨a,k⟩ p).1 else anyP:=rfl
 rw[show namP b (zaC b w (numV b p [3,2,4,1]).toNat ⟨a,k⟩ (p+1)).1.size (zaC b w (numV b p [3,2,4,1]).toNat ⟨a,k⟩ (p+1)).1 0 (zaC b w (numV b p [3,2,4,1]).toNat ⟨a,k⟩ (p+1)).2=zc3 b w ⟨a,k⟩ p from rfl] at hnm
 generalize numV b p [3,2,4,1]=m at *
 refine bd Tryz.f72 28 [] [] fun w0 F0 own kept hk=>?_
 refine bx 3005 ?_
 refine ab 3006 tz28 ?_
 refine tv ?_
 refine si [0,1,2,3] [_,_,_,_] sl62 tz3 ?_
 refine wd zhg (hnum) rfl rfl ⟨rfl,trivial⟩ ?_
 refine wd zln (hdr) rfl rfl ⟨rfl,trivial⟩ ?_
 refine wd zoT (hnm) rfl rfl ⟨rfl,trivial⟩ ?_
 refine evd [] [] ?_
 refine ab 3007 tz28 ?_
 refine so ty28 ?_
 refine evd [] [] ?_
 refine dr ?_
 refine wc zoR (zg7 hw ht hr.2.2 (by omega)) rfl rfl ?_
 refine ev ?_
 refine sq (fun h1 h1p h1s=>?_) fun h1 h1p h1s=>?_
 refine bu [0] [_] st28 ?_
 refine so ty28 ?_
 refine tv ?_
 refine rn [(900,some (rdB b (zc3 b w ⟨a,k⟩ p).2.2))] (.cons (.cellA ty28 rfl rfl rfl) .nil) (.agg (.cons (.eqd ?_) (.cons (.eqd ?_) (.cons (.eqd ?_) (.cons (.eqd ?_) (.cons (.eqd ?_) (.cons (.nild ?_) .nil))))))) ⟨rfl,rfl⟩ (SubO.get ⟨.inr ?_,⟨.inl rfl,trivial⟩⟩) (zaG rfl)
 rotate_left 7
 refine so ty28 ?_
 refine tv ?_
 refine rn [(900,some (rdB b (zc3 b w ⟨a,k⟩ p).2.2))] (.cons (.cellA ty28 rfl rfl rfl) .nil) (.agg (.cons (.eqd ?_) (.cons (.eqd ?_) (.cons (.eqd ?_) (.cons (.eqd ?_) (.cons (.eqd ?_) (.cons (.eqd ?_) .nil))))))) ⟨rfl,rfl⟩ (SubO.get ⟨.inr ?_,⟨.inl rfl,trivial⟩⟩) (zaG rfl)
 rotate_left 7
 all_goals (first|((first|(rw[hsp,if_neg (by rw[h1s];simp)];all_goals rfl)|(rw[hsp,if_pos h1s];all_goals rfl));done)|(rfl))
theorem zon:FnD Tryz.prog 135 [] [] (.agg [.d (.i 1),.d (.i 0),.d (.i 0),.d (.i 0),.d (.i 0),.d (.sl [])]) []:=by
 refine bd Tryz.f135 2 [] [] fun w0 F0 own kept hk=>?_
 refine ab 3000 tz28 ?_
 refine tv ?_
 refine bu [0] [_] st28 ?_
 refine so ty28 ?_
 refine tv ?_
 focus (refine rn0 (.cons (.cellA ty28 rfl rfl rfl) .nil) (.agg (.cons (.eqd ?_) (.cons (.eqd ?_) (.cons (.eqd ?_) (.cons (.eqd ?_) (.cons (.eqd ?_) (.cons (.nild ?_) .nil)))))));all_goals (first|rfl|(simp[];done)|(simp_all;done)|(simp_all;omega)|omega))
section
variable {c:Ctx}{all:Array Oper}{chk:List Rec→Prop}{os:List Oper}{recs:List Rec}{env:Env}{hp:Hp}{Q:St→Prop}
variable {d ty:Nat}{pos:String}{af:Array Edge}{g:Option (Nat×Bool)}{pg:List (Nat×AV)}{t yt:TypeId}{x y:Operand}
theorem Walk.appendM {id k e yb:Nat}{xs ys:List (List D)}{vy:AV}{ids:List Nat} (hkp:KeptIn c.kept ids) (hid:zbh id ids=false) (hne:xs++ys≠[]) (ht:SlT c.P t e k yb) (hz:ZeroT c.P e k) (hg:GH all env g pg) (hd:Nat.blt d c.n=true)
  (hx:opd env x=some (.gv id xs)) (hy:opd env y=some vy) (hyd:vy.toD=some (.sl ys)) (htok:getH hp id=some (.tok xs.length k)) (hky:∀y,y∈ys→y.length=k)
  (hb:(xs.length+ys.length)*yb≤140737488355328) (hm:xs.length+ys.length≤9223372036854775807)
  (hn:Walk c all chk os (zao (pg++(opF x (.gv id xs)++opF y vy)) [(id,.tok xs.length k)] [] ⟨some (d,.ms id (xs++ys).length),[(id,some (.box ((xs++ys).flatten.map .d)))]⟩::recs)
   ⟨(d,.ms id (xs++ys).length)::env,(id,some (.box ((xs++ys).flatten.map .d)))::hp⟩ Q):
  Walk c all chk (⟨some d,.call ⟨.builtin .append,#[x,y],#[t,t]⟩,ty,pos,af,g⟩::os) recs ⟨env,hp⟩ Q:=by
 refine⟨pg++(opF x (.gv id xs)++opF y vy),[(id,.tok xs.length k)],[],_, ?_,zaz hg.facts (zaz (zbi hx) (zbi hy)),hh1 htok,by simp,hn⟩
 intro s a w hrel hp' hh _ K Q' hK
 obtain⟨G,hr⟩:=hrel
 have e1:=hr.opd (zbj hx (fun p hm=>hp' p (by simp[hm])))
 have e2:=hr.opd (zbj hy (fun p hm=>hp' p (by simp[hm])))
 obtain⟨i,z,z1,z2,z3⟩:=hz.out
 obtain⟨v',w',G',hrun,hR,hA⟩:=zja hr ht ⟨i,z1,z2,z3⟩ (hh1' hh) e1 (e2.toD hyd) hky hb hm ty
 unfold wpO
 rw[if_pos (hg.gf.wanted hr (fun p hm=>hp' p (by simp[hm])))]
 unfold Oper.wp
 have:(execOp a.eval ⟨some d,.call ⟨.builtin .append,#[x,y],#[t,t]⟩,ty,pos,af,g⟩).run c.P w = .ok (.value v') w':=by
  simp only[execOp,resolve,invoke,builtin,Sem.run_bind,Sem.run_pure,Result.andThen_ok,List.map_toArray,List.map_cons,List.map_nil,hrun]
 rw[this,Oper.upon_value]
 have hV:Rel c ⟨(d,.gv id (xs++ys))::s.env,(id,some (.tok (xs.length+ys.length) k))::s.hp⟩ (a.put (some d) v') w':=⟨G',hR.put hA hd⟩
 rcases Rel.fixV hkp d id k (xs:=xs++ys) (by simp[getE]) (by rw[zal,if_pos rfl,List.length_append]) hid hV with ⟨h,_⟩|⟨_,h⟩
 ·exact absurd h hne
 ·refine hK _ _ (h.congr (fun j=>?_) (fun j=>?_))
  ·show getE ((d,_)::s.env) j=getE ((d,_)::(d,_)::s.env) j
   simp only[getE]
   cases Nat.beq d j<;>rfl
  ·show getH ((id,_)::s.hp) j=getH ((id,_)::(id,_)::s.hp) j
   rw[zal,zal,zal]
   by_cases hj:j=id
   ·rw[if_pos hj,if_pos hj]
   ·rw[if_neg hj,if_neg hj,if_neg hj]
end
def zb4:Pat:=⟨2,0,0,0,0,[]⟩
def mutP (b:Str) (p:Pat) (q:Nat):Pat×Nat:=
 if zax b q 30=0 then (⟨numV b (q+1) [0,7,1,2,5],p.ctor,p.n,p.m,p.var,p.kids⟩,q+2)
 else if zax b q 30=1 then (⟨p.op,p.ctor,p.n,p.m,numV b (q+1) [6,-1,1],p.kids⟩,q+2)
 else if zax b q 30=2 then (⟨p.op,numV b (q+1) [9,-1,1],p.n,p.m,p.var,p.kids⟩,q+2)
 else if zax b q 30=3 then (⟨p.op,p.ctor,p.n,p.m,p.var,p.kids++[zb4]⟩,q+1)
 else if zax b q 30=4 then (⟨p.op,p.ctor,p.n,p.m,p.var,p.kids.set 0 zb4⟩,q+1)
 else if zax b q 30=5 then (⟨p.op,p.ctor,numV b (q+1) [10,-1,5],p.m,p.var,p.kids⟩,q+2)
 else (⟨p.op,p.ctor,p.n,p.m,p.var,p.kids⟩,q+1)
theorem put0 {l:List (List D)}{x:List D}{r:List (List D)}{v:List AV} (h:l=x::r) (hx:x.length=v.length):putC (l.flatten.map .d) 0 v=some (v++r.flatten.map .d):=by
 subst h
 rw[List.flatten_cons,List.map_append]
 have key:∀(a b:List AV),a.length=b.length→∀(c:List AV),putC (a++c) 0 b=some (b++c):=by
  intro a
  induction a with
  |nil=>intro b h c;cases b with
   |nil=>cases c<;>rfl
   |cons=>simp at h
  |cons y a ih=>intro b h c;cases b with
   |nil=>simp at h
   |cons z b=>
    have:=ih b (by simpa using h) c
    simp only[List.cons_append,putC,this]
 exact key _ _ (by simpa using hx) _
theorem zvv {k:Nat}{v:List AV}{vd:List D}{r:List (List D)} (hv:toDL v=some vd) (hk:v.length=k) (hr:∀x∈r,x.length=k):zce (r.length+1) k (v++r.flatten.map .d)=some (vd::r):=by
 have h1:cutC (v++r.flatten.map .d) 0 k=some v:=znw hk
 have h2:(v++r.flatten.map AV.d).drop k=r.flatten.map .d:=by rw[←hk];simp
 have h3:=zew (f:=fun x:List D=>x) (k:=k) (l:=r) hr
 have h4:(r.flatMap fun x=>x.map AV.d)=r.flatten.map .d:=by rw[List.map_flatten];rfl
 rw[h4,List.map_id'] at h3
 simp only[zce,h1,hv,h2,h3]
theorem Pat.cs_app (a b:List Pat):Pat.cs (a++b)=Pat.cs a++Pat.cs b:=by
 rw[Pat.cs_cc,Pat.cs_cc,Pat.cs_cc,List.map_append]
theorem zmq {b:Str} (hb:b.length≤2000){p:Pat}{q:Nat} (hq:q≤1000000) (hok:p.ok) (hc4:¬(zax b q 30=4∧p.kids≠[])):
  FnD Tryz.prog 90 [.ref 900 0,.agg [.d (.i p.op),.d (.i p.ctor),.d (.i p.n),.d (.i p.m),.d (.i p.var),.d (zac p.kids)]] [(900,some (rdB b q))]
   (.agg [.d (.i (mutP b p q).1.op),.d (.i (mutP b p q).1.ctor),.d (.i (mutP b p q).1.n),.d (.i (mutP b p q).1.m),.d (.i (mutP b p q).1.var),.d (zac (mutP b p q).1.kids)]) [(900,some (rdB b (mutP b p q).2))]:=by
 rw[Pat.ok_iff] at hok
 have hkl:=Pat.cs_len p.kids
 refine bd Tryz.f90 57 [] [] fun w0 F0 own kept hk=>?_
 refine bx 3003 ?_
 refine ab 3004 tz28 ?_
 refine tv ?_
 refine ab 3005 tz28 ?_
 refine so ty28 ?_
 refine tv ?_
 refine Walk.sliceEmptyG 1 sl26 .none rfl rfl ?_
 refine ev ?_
 refine ap sl26 zz28 rfl rfl rfl (by first|(intro x hx;exact Pat.cs_rows x hx)|(intro x hx;simp only[List.mem_singleton] at hx;subst hx;rfl)) (by simp[Pat.cs_len];omega) ?_
 refine ev ?_
 refine so ty26 ?_
 refine tv ?_
 refine wd zc5 (zbp (p:=q) (n:=30) hb (by omega) (by omega)) rfl rfl ⟨rfl,trivial⟩ ?_
 refine tv ?_
 refine sq (fun h1 h1p h1s=>?_) fun h1 h1p h1s=>?_
 try simp only[Q,Pat.cs_len] at h1p
 refine si [0,1,2,3,4] [_,_,_,_,_] sl62 tz3 ?_
 refine wd zhg (zcU (p:=q+1) (l:=[0,7,1,2,5]) hb (by omega) (by simp) (by simp)) rfl rfl ⟨rfl,trivial⟩ ?_
 refine ev ?_
 refine so ty3 ?_
 refine tv ?_
 refine so ty28 ?_
 refine tv ?_
 refine rn [(900,some (rdB b (mutP b p q).2))] (.cons (.cellA ty28 rfl rfl rfl) .nil) (.agg (.cons (.eqd ?_) (.cons (.eqd ?_) (.cons (.eqd ?_) (.cons (.eqd ?_) (.cons (.eqd ?_) (.cons (.gld ?_) .nil))))))) ⟨rfl,rfl⟩ (SubO.get ⟨.inr ?_,⟨.inl rfl,trivial⟩⟩) (zaG rfl)
 rotate_left 7
 try simp only[Q,Pat.cs_len] at h1p
 refine sq (fun h2 h2p h2s=>?_) fun h2 h2p h2s=>?_
 try simp only[Q,Pat.cs_len] at h2p
 refine si [0,1,2] [_,_,_] sl62 tz3 ?_
 refine wd zhg (zcU (p:=q+1) (l:=[6,-1,1]) hb (by omega) (by simp) (by simp)) rfl rfl ⟨rfl,trivial⟩ ?_
 refine ev ?_
 refine so ty3 ?_
 refine tv ?_
 refine so ty28 ?_
 refine tv ?_
 refine rn [(900,some (rdB b (mutP b p q).2))] (.cons (.cellA ty28 rfl rfl rfl) .nil) (.agg (.cons (.eqd ?_) (.cons (.eqd ?_) (.cons (.eqd ?_) (.cons (.eqd ?_) (.cons (.eqd ?_) (.cons (.gld ?_) .nil))))))) ⟨rfl,rfl⟩ (SubO.get ⟨.inr ?_,⟨.inl rfl,trivial⟩⟩) (zaG rfl)
 rotate_left 7
 try simp only[Q,Pat.cs_len] at h2p
 refine sq (fun h3 h3p h3s=>?_) fun h3 h3p h3s=>?_
 try simp only[Q,Pat.cs_len] at h3p
 refine si [0,1,2] [_,_,_] sl62 tz3 ?_
 refine wd zhg (zcU (p:=q+1) (l:=[9,-1,1]) hb (by omega) (by simp) (by simp)) rfl rfl ⟨rfl,trivial⟩ ?_
 refine ev ?_
 refine so ty3 ?_
 refine tv ?_
 refine so ty28 ?_
 refine tv ?_
 refine rn [(900,some (rdB b (mutP b p q).2))] (.cons (.cellA ty28 rfl rfl rfl) .nil) (.agg (.cons (.eqd ?_) (.cons (.eqd ?_) (.cons (.eqd ?_) (.cons (.eqd ?_) (.cons (.eqd ?_) (.cons (.gld ?_) .nil))))))) ⟨rfl,rfl⟩ (SubO.get ⟨.inr ?_,⟨.inl rfl,trivial⟩⟩) (zaG rfl)
 rotate_left 7
 try simp only[Q,Pat.cs_len] at h3p
 refine sq (fun h4 h4p h4s=>?_) fun h4 h4p h4s=>?_
 try simp only[Q,Pat.cs_len] at h4p
 refine bu [0] [_] st28 ?_
 refine si [0] [_] sl26 tz28 ?_
 refine ap sl26 zz28 rfl rfl rfl (by first|(intro x hx;exact Pat.cs_rows x hx)|(intro x hx;simp only[List.mem_singleton] at hx;subst hx;rfl)) (by simp[Pat.cs_len];omega) ?_
 refine ev ?_
 refine so ty26 ?_
 refine tv ?_
 refine so ty28 ?_
 refine tv ?_
 refine rn [(900,some (rdB b (mutP b p q).2))] (.cons (.cellA ty28 rfl rfl rfl) .nil) (.agg (.cons (.eqd ?_) (.cons (.eqd ?_) (.cons (.eqd ?_) (.cons (.eqd ?_) (.cons (.eqd ?_) (.cons (.gld ?_) .nil))))))) ⟨rfl,rfl⟩ (SubO.get ⟨.inr ?_,⟨.inl rfl,trivial⟩⟩) (zaG rfl)
 rotate_left 7
 try simp only[Q,Pat.cs_len] at h4p
 refine sq (fun h5 h5p h5s=>?_) fun h5 h5p h5s=>?_
 try simp only[Q,Pat.cs_len] at h5p
 refine sq (fun h6 h6p h6s=>?_) fun h6 h6p h6s=>?_
 try simp only[Q,Pat.cs_len] at h6p
 exfalso;apply hc4;refine⟨by omega,fun hh=>?_⟩;rw[hh] at h6p;exact absurd h6p (by decide)
 try simp only[Q,Pat.cs_len] at h6p
 refine so ty28 ?_
 refine tv ?_
 refine rn [(900,some (rdB b (mutP b p q).2))] (.cons (.cellA ty28 rfl rfl rfl) .nil) (.agg (.cons (.eqd ?_) (.cons (.eqd ?_) (.cons (.eqd ?_) (.cons (.eqd ?_) (.cons (.eqd ?_) (.cons (.gld ?_) .nil))))))) ⟨rfl,rfl⟩ (SubO.get ⟨.inr ?_,⟨.inl rfl,trivial⟩⟩) (zaG rfl)
 rotate_left 7
 try simp only[Q,Pat.cs_len] at h5p
 refine sq (fun h7 h7p h7s=>?_) fun h7 h7p h7s=>?_
 try simp only[Q,Pat.cs_len] at h7p
 refine si [0,1,2] [_,_,_] sl62 tz3 ?_
 refine wd zhg (zcU (p:=q+1) (l:=[10,-1,5]) hb (by omega) (by simp) (by simp)) rfl rfl ⟨rfl,trivial⟩ ?_
 refine ev ?_
 refine so ty3 ?_
 refine tv ?_
 refine so ty28 ?_
 refine tv ?_
 refine rn [(900,some (rdB b (mutP b p q).2))] (.cons (.cellA ty28 rfl rfl rfl) .nil) (.agg (.cons (.eqd ?_) (.cons (.eqd ?_) (.cons (.eqd ?_) (.cons (.eqd ?_) (.cons (.eqd ?_) (.cons (.gld ?_) .nil))))))) ⟨rfl,rfl⟩ (SubO.get ⟨.inr ?_,⟨.inl rfl,trivial⟩⟩) (zaG rfl)
 rotate_left 7
 try simp only[Q,Pat.cs_len] at h7p
 refine so ty28 ?_
 refine tv ?_
 refine rn [(900,some (rdB b (mutP b p q).2))] (.cons (.cellA ty28 rfl rfl rfl) .nil) (.agg (.cons (.eqd ?_) (.cons (.eqd ?_) (.cons (.eqd ?_) (.cons (.eqd ?_) (.cons (.eqd ?_) (.cons (.gld ?_) .nil))))))) ⟨rfl,rfl⟩ (SubO.get ⟨.inr ?_,⟨.inl rfl,trivial⟩⟩) (zaG rfl)
 rotate_left 7
 all_goals (first|((unfold mutP;first|(rw[if_pos (by omega)];all_goals first|rfl|(show _=Pat.cs (p.kids++[zb4]);rw[Pat.cs_app];all_goals rfl))|(rw[if_neg (by omega),if_pos (by omega)];all_goals first|rfl|(show _=Pat.cs (p.kids++[zb4]);rw[Pat.cs_app];all_goals rfl))|(rw[if_neg (by omega),if_neg (by omega),if_pos (by omega)];all_goals first|rfl|(show _=Pat.cs (p.kids++[zb4]);rw[Pat.cs_app];all_goals rfl))|(rw[if_neg (by omega),if_neg (by omega),if_neg (by omega),if_pos (by omega)];all_goals first|rfl|(show _=Pat.cs (p.kids++[zb4]);rw[Pat.cs_app];all_goals rfl))|(have hnk:p.kids=[]:=(by rcases hke:p.kids with _|⟨y,r⟩;rfl;exact absurd ⟨by omega,by rw[hke];simp⟩ hc4);rw[if_neg (by omega),if_neg (by omega),if_neg (by omega),if_neg (by omega),if_pos (by omega),hnk];all_goals rfl)|(rw[if_neg (by omega),if_neg (by omega),if_neg (by omega),if_neg (by omega),if_pos (by omega)];all_goals first|rfl|(show _=Pat.cs (p.kids++[zb4]);rw[Pat.cs_app];all_goals rfl))|(rw[if_neg (by omega),if_neg (by omega),if_neg (by omega),if_neg (by omega),if_neg (by omega),if_pos (by omega)];all_goals first|rfl|(show _=Pat.cs (p.kids++[zb4]);rw[Pat.cs_app];all_goals rfl))|(rw[if_neg (by omega),if_neg (by omega),if_neg (by omega),if_neg (by omega),if_neg (by omega),if_neg (by omega)];all_goals first|rfl|(show _=Pat.cs (p.kids++[zb4]);rw[Pat.cs_app];all_goals rfl)));done)|(unfold mutP;first|(rw[if_pos (by omega)];all_goals first|rfl|(show _=Pat.cs (p.kids++[zb4]);rw[Pat.cs_app];all_goals rfl))|(rw[if_neg (by omega),if_pos (by omega)];all_goals first|rfl|(show _=Pat.cs (p.kids++[zb4]);rw[Pat.cs_app];all_goals rfl))|(rw[if_neg (by omega),if_neg (by omega),if_pos (by omega)];all_goals first|rfl|(show _=Pat.cs (p.kids++[zb4]);rw[Pat.cs_app];all_goals rfl))|(rw[if_neg (by omega),if_neg (by omega),if_neg (by omega),if_pos (by omega)];all_goals first|rfl|(show _=Pat.cs (p.kids++[zb4]);rw[Pat.cs_app];all_goals rfl))|(have hnk:p.kids=[]:=(by rcases hke:p.kids with _|⟨y,r⟩;rfl;exact absurd ⟨by omega,by rw[hke];simp⟩ hc4);rw[if_neg (by omega),if_neg (by omega),if_neg (by omega),if_neg (by omega),if_pos (by omega),hnk];all_goals rfl)|(rw[if_neg (by omega),if_neg (by omega),if_neg (by omega),if_neg (by omega),if_pos (by omega)];all_goals first|rfl|(show _=Pat.cs (p.kids++[zb4]);rw[Pat.cs_app];all_goals rfl))|(rw[if_neg (by omega),if_neg (by omega),if_neg (by omega),if_neg (by omega),if_neg (by omega),if_pos (by omega)];all_goals first|rfl|(show _=Pat.cs (p.kids++[zb4]);rw[Pat.cs_app];all_goals rfl))|(rw[if_neg (by omega),if_neg (by omega),if_neg (by omega),if_neg (by omega),if_neg (by omega),if_neg (by omega)];all_goals first|rfl|(show _=Pat.cs (p.kids++[zb4]);rw[Pat.cs_app];all_goals rfl))))
theorem zmr {b:Str} (hb:b.length≤2000){p:Pat}{q:Nat} (hq:q≤1000000) (hok:p.ok) (hc4:zax b q 30=4){y:Pat}{r:List Pat} (hk4:p.kids=y::r):
  FnD Tryz.prog 90 [.ref 900 0,.agg [.d (.i p.op),.d (.i p.ctor),.d (.i p.n),.d (.i p.m),.d (.i p.var),.d (zac p.kids)]] [(900,some (rdB b q))]
   (.agg [.d (.i (mutP b p q).1.op),.d (.i (mutP b p q).1.ctor),.d (.i (mutP b p q).1.n),.d (.i (mutP b p q).1.m),.d (.i (mutP b p q).1.var),.d (zac (mutP b p q).1.kids)]) [(900,some (rdB b (mutP b p q).2))]:=by
 rw[Pat.ok_iff] at hok
 have hkl:=Pat.cs_len p.kids
 have hcs:Pat.cs p.kids=y.cc::Pat.cs r:=by rw[Pat.cs_cc,hk4,List.map_cons,←Pat.cs_cc]
 have hrl:(Pat.cs p.kids).length=(Pat.cs r).length+1:=by rw[hcs];rfl
 have hmu:mutP b p q=(⟨p.op,p.ctor,p.n,p.m,p.var,zb4::r⟩,q+1):=by
  unfold mutP;rw[if_neg (by omega),if_neg (by omega),if_neg (by omega),if_neg (by omega),if_pos hc4,hk4];rfl
 refine bd Tryz.f90 57 [] [17] fun w0 F0 own kept hk=>?_
 refine bx 3003 ?_
 refine ab 3004 tz28 ?_
 refine tv ?_
 refine ab 3005 tz28 ?_
 refine so ty28 ?_
 refine tv ?_
 refine Walk.sliceEmptyGV 1 sl26 .none rfl rfl ?_
 refine ev ?_
 refine Walk.appendM hk rfl (by rw[hcs];simp) sl26 zz28 .none rfl rfl rfl rfl (zgj rfl (by first|rfl|(simp;done)|(simp;omega))) (by intro x hx;exact Pat.cs_rows x hx) (by simp[Pat.cs_len];omega) (by simp[Pat.cs_len];omega) ?_
 refine ev ?_
 refine so ty26 ?_
 refine tv ?_
 refine wd zc5 (zbp (p:=q) (n:=30) hb (by omega) (by omega)) rfl rfl ⟨rfl,trivial⟩ ?_
 refine tv ?_
 refine sq (fun h1 h1p h1s=>?_) fun h1 h1p h1s=>?_
 try simp only[Q,Pat.cs_len] at h1p
 exfalso;omega
 try simp only[Q,Pat.cs_len] at h1p
 refine sq (fun h2 h2p h2s=>?_) fun h2 h2p h2s=>?_
 try simp only[Q,Pat.cs_len] at h2p
 exfalso;omega
 try simp only[Q,Pat.cs_len] at h2p
 refine sq (fun h3 h3p h3s=>?_) fun h3 h3p h3s=>?_
 try simp only[Q,Pat.cs_len] at h3p
 exfalso;omega
 try simp only[Q,Pat.cs_len] at h3p
 refine sq (fun h4 h4p h4s=>?_) fun h4 h4p h4s=>?_
 try simp only[Q,Pat.cs_len] at h4p
 exfalso;omega
 try simp only[Q,Pat.cs_len] at h4p
 refine sq (fun h5 h5p h5s=>?_) fun h5 h5p h5s=>?_
 try simp only[Q,Pat.cs_len] at h5p
 refine sq (fun h6 h6p h6s=>?_) fun h6 h6p h6s=>?_
 try simp only[Q,Pat.cs_len] at h6p
 refine bu [0] [_] st28 ?_
 refine Walk.idxM (i:=0) sl26 .none rfl rfl rfl rfl (by simp;omega) ?_
 refine Walk.store ty28 .none rfl rfl rfl rfl rfl rfl (by simp) ((put0 hcs rfl)) ?_
 refine tv ?_
 refine CWp.frzC hk 3005 5 1 _ 6 rfl rfl rfl rfl rfl (by rw[List.nil_append,hrl];exact zvv rfl rfl (fun x hx=>Pat.cs_rows x hx)) rfl ?_
 refine evc [] [] ?_
 refine so ty28 ?_
 refine tv ?_
 refine rn [(900,some (rdB b (mutP b p q).2))] (.cons (.cellA ty28 rfl rfl rfl) .nil) (.agg (.cons (.eqd ?_) (.cons (.eqd ?_) (.cons (.eqd ?_) (.cons (.eqd ?_) (.cons (.eqd ?_) (.cons (.eqd ?_) .nil))))))) ⟨rfl,rfl⟩ (SubO.get ⟨.inr ?_,⟨.inl rfl,trivial⟩⟩) (zaG rfl)
 rotate_left 7
 try simp only[Q,Pat.cs_len] at h6p
 exfalso;rw[List.nil_append,hrl] at h6p;omega
 try simp only[Q,Pat.cs_len] at h5p
 exfalso;omega
 all_goals (first|((rw[hmu];all_goals rfl);done)|(rw[hmu];all_goals rfl))
theorem zla {b:Str} (hb:b.length≤2000){p:Pat}{q:Nat} (hq:q≤1000000) (hok:p.ok):
  FnD Tryz.prog 90 [.ref 900 0,.agg [.d (.i p.op),.d (.i p.ctor),.d (.i p.n),.d (.i p.m),.d (.i p.var),.d (zac p.kids)]] [(900,some (rdB b q))]
   (.agg [.d (.i (mutP b p q).1.op),.d (.i (mutP b p q).1.ctor),.d (.i (mutP b p q).1.n),.d (.i (mutP b p q).1.m),.d (.i (mutP b p q).1.var),.d (zac (mutP b p q).1.kids)]) [(900,some (rdB b (mutP b p q).2))]:=by
 by_cases h:zax b q 30=4∧p.kids≠[]
 ·cases hk:p.kids with
  |nil=>exact absurd hk h.2
  |cons y r=>rw[←hk];exact zmr hb hq hok h.1 hk
 ·exact zmq hb hq hok h
theorem FnD.boxD {P:Program}{f:FuncId}{i n k:Nat}{args:List AV}{cs:List AV}{es:List (List D)} (hc:zce n k (cs.take (n*k))=some es) (h:FnD P f args [] (.ms i n) [(i,some (.box cs))]):FnD P f args [] (.d (.sl es)) []:=by
 intro G w vals hok
 refine(h G w vals hok).mono ?_
 rintro e w' ⟨v,r',hp',G',rfl,⟨rfl,rfl⟩,hret⟩
 have gi:getH ([(i,some (Res.box cs))]++[]) i=some (.box cs):=by simp[getH]
 obtain⟨b,us,et,q1,q2,q3,q4,q5⟩:=hret.heap i _ gi
 have hown:∀b,b∉zc1 G []:=fun b hb=>by simp[zc1] at hb
 have hnew:w.heap.size≤b:=(hret.new i (by rw[gi];rfl) b (by rw[q1];simp)).resolve_left (hown b)
 have hlt:b<w'.heap.size:=by
  rcases Nat.lt_or_ge b w'.heap.size with h|h
  ·exact h
  ·rw[Array.getElem?_eq_none h] at q2;cases q2
 let G2:Gh:={ G' with F:=fun x=>bif Nat.beq x b then us.size else G'.F x }
 have hin:G2.F b=us.size:=by simp[G2]
 have hout:∀x,x≠b→G2.F x=G'.F x:=fun x hx=>by
  have:Nat.beq x b=false:=by
   cases h:Nat.beq x b with
   |true=>exact absurd (Nat.eq_of_beq_eq_true h) hx
   |false=>rfl
  simp[G2,this]
 have hle:∀x o,o<G'.F x→o<G2.F x:=fun x o ho=>by
  by_cases hx:x=b
  ·subst hx;rw[q4] at ho;omega
  ·rw[hout x hx];exact ho
 refine⟨v,_,_,G2,rfl,⟨rfl,rfl⟩,zus hret.res q1 q2 q3 q5 hin (fun y o ho=>⟨hle y o ho,rfl⟩) hc,fun id x hx=>(by cases hx),fun id id' h1=>(by cases h1),fun id h1=>(by cases h1), ?_,fun x hx=>?_,fun id hi=>(by simp[zcl,getH] at hi)⟩
 ·have hf:=hret.frm
  exact⟨hf.os,hf.tape,hf.output,hf.size,fun x hx hn=>⟨(hf.block x hx hn).1,by rw[hout x (by omega)];exact(hf.block x hx hn).2⟩,fun x o ho=>⟨hle x o (hf.cell x o ho).1,(hf.cell x o ho).2⟩⟩
 ·rw[hout x (by omega)];exact hret.top x hx
def pd (s:List Pat):List AV:=(s.map Pat.cc).flatten.map .d
theorem zeV (a b:List Pat):pd (a++b)=pd a++pd b:=by simp[pd]
theorem zmb (x:Pat):pd [x]=[.d (.i x.op),.d (.i x.ctor),.d (.i x.n),.d (.i x.m),.d (.i x.var),.d (zac x.kids)]:=rfl
theorem zhZ (s:List Pat):(pd s).length=s.length*6:=by
 induction s with
 |nil=>rfl
 |cons x r ih=>rw[show x::r=[x]++r from rfl,zeV,List.length_append,ih,zmb];simp;omega
theorem zpC {s:List Pat}{i:Nat} (h:i<s.length):pd s=pd (s.take i)++(pd [nth s i]++pd (s.drop (i+1))):=by
 rw[←zeV,←zeV]
 congr 1
 rw[show [nth s i]++s.drop (i+1)=nth s i::s.drop (i+1) from rfl,←za1 h,List.take_append_drop]
theorem zhY (s:List Pat):AV.idsL (pd s)=[]:=by
 unfold pd
 induction (s.map Pat.cc).flatten with
 |nil=>rfl
 |cons x r ih=>rw[List.map_cons,AV.idsL,ih];rfl
theorem zsD {s:List Pat}{i:Nat} (h:i<s.length):cutC (pd s) (i*6) 6=some [.d (.i (nth s i).op),.d (.i (nth s i).ctor),.d (.i (nth s i).n),.d (.i (nth s i).m),.d (.i (nth s i).var),.d (zac (nth s i).kids)]:=by
 rw[zpC h,zsi (by rw[zhZ,List.length_take];omega) (r:=pd [nth s i])]
 ·rfl
 ·rw[zmb];first|exact zuo|(simp[cutC];done)
theorem zvH {s:List Pat}{i:Nat} (h:i<s.length){t:Pat}:putC (pd s) (i*6) [.d (.i t.op),.d (.i t.ctor),.d (.i t.n),.d (.i t.m),.d (.i t.var),.d (zac t.kids)]=some (pd (s.set i t)):=by
 rw[zpC h,zsF (by rw[zhZ,List.length_take];omega) (B':=pd [t]++pd (s.drop (i+1))) (by rw[zmb,zmb];simp[putC])]
 rw[List.set_eq_take_append_cons_drop,if_pos h,←zeV,←zeV]
 rfl
abbrev z6:List AV:=[.d (.i 0),.d (.i 0),.d (.i 0),.d (.i 0),.d (.i 0),.nils]
theorem zuG {s:List Pat}{i n:Nat} (hn:s.length=n) (h:i≤n):putC (pd s) (i*6) (zbm (n-i) z6)=some (pd (s.take i)++zbm (n-i) z6):=by
 subst hn
 have e:pd s=pd (s.take i)++(pd (s.drop i)++[]):=by
  rw[List.append_nil,←zeV,List.take_append_drop]
 have e2:putC (pd (s.take i)++(pd (s.drop i)++[])) (i*6) (zbm (s.length-i) z6)=some (pd (s.take i)++(zbm (s.length-i) z6++[])):=by
  rw[ztt (by rw[zhZ,List.length_take];omega) ?_]
  rw[zhZ,List.length_drop,zes];rfl
 rw[←e,List.append_nil] at e2
 exact e2
theorem ztr {s:List Pat}{tl:List AV}:zce s.length 6 ((pd s++tl).take (s.length*6))=some (s.map Pat.cc):=by
 rw[List.take_append_of_le_length (by rw[zhZ];exact Nat.le_refl _),List.take_of_length_le (by rw[zhZ];exact Nat.le_refl _)]
 have:=zew (f:=Pat.cc) (k:=6) (l:=s) (fun _ _=>rfl)
 rw[←this]
 congr 1
 unfold pd
 induction s with
 |nil=>rfl
 |cons x r ih=>
  simp only[List.map_cons,List.flatten_cons,List.map_append,List.flatMap_cons]
  exact congrArg (_++·) (ih (zew (fun _ _=>rfl)))
theorem Pat.cs_ccs (l:List Pat):Pat.cs l=l.map Pat.cc:=by
 rw[Pat.cs_eq];exact List.map_congr_left (fun v _=>Pat.c_eq v)
theorem Ex.cs_ccs (l:List Ex):Ex.cs l=l.map Ex.cc:=by
 rw[Ex.cs_eq];exact List.map_congr_left (fun v _=>Ex.c_eq v)
theorem zet {xs:List Pat}{f:Nat}{caps:List AV}{hp:Hp}{p:Pat→Bool} (hs:xs.length≤1000000000000) (hcal:Callee Tryz.prog f)
  (hf:∀t∈xs,FnD Tryz.prog f ([.agg [.d (.i t.op),.d (.i t.ctor),.d (.i t.n),.d (.i t.m),.d (.i t.var),.d (zac t.kids)]]++caps) hp (.d (.bool (p t))) []) (k1:subH hp hp) (k2:zem hp=true) (k3:zbo hp [] (.d .nilp) []=true):
  FnD Tryz.prog 152 [.d (zac xs),.fn f caps] hp (.d (.i (idxF p xs 0))) []:=by
 rw[show zac xs=D.sl (xs.map Pat.cc) by show D.sl (Pat.cs xs)=_;rw[Pat.cs_ccs]]
 refine bd Tryz.f152 19 [] [] fun w0 F0 own kept hk=>?_
 refine CWp.loopX (ι:=List (Pat)×List (Pat)) hk (fun x=>[(8,.d (.i (x.1.length:Int)))]) [4,5,9,10,11,12,13,14,15,16,17,18] (fun x=>[]) (fun x=>x.1++x.2=xs∧idxF p x.2 x.1.length=idxF p xs 0) (fun x=>x.2.length) ([],xs) ⟨by simp,rfl⟩ ⟨⟨_,rfl,LeA.eqi ?_⟩,trivial⟩ trivial (fun x=>zig hp) (fun x hg1=>?_)
 focus (first|rfl|(simp;done)|(simp_all;done)|omega)
 obtain⟨pre,rest⟩:=x
 dsimp only at hg1 ⊢
 refine evc [] [] ?_
 refine sq (fun h1 h1p h1s=>?_) fun h1 h1p h1s=>?_
 try simp only[Q] at h1p
 rcases rest with _|⟨y,rest⟩
 ·exfalso;simp_all
 refine Walk.idx sl26 .none rfl rfl rfl rfl (zaN hg1.1) rfl ?_
 refine ev ?_
 refine Walk.callV (cr:=[]) hcal (hf y (by rw[←hg1.1];simp)) rfl .none rfl rfl rfl (LeL.refl _) k1 k2 (zdK k3 _) rfl ?_
 refine tv ?_
 refine sq (fun h2 h2p h2s=>?_) fun h2 h2p h2s=>?_
 try simp only[Q] at h2p
 focus (refine rn [] (r1 rfl) (.eqd ?_) ⟨rfl,rfl⟩ (fun _ _ h=>h) (fun _ h=>h);all_goals (rw[←hg1.2];simp[idxF,h1s,h1p,h2s,h2p]))
 try simp only[Q] at h2p
 refine ar ?_
 refine Exists.intro ((pre++[y],rest)) ⟨⟨(by have hz:=hg1.1;rw[←hz];simp),(by rw[←hg1.2];simp[idxF,h2s])⟩,(by simp),Sub.x (by kernel_rfl) (by kernel_rfl) ⟨⟨_,rfl,LeA.eqi ?_⟩,trivial⟩ (by simp) (by simp[zdR]) trivial⟩
 focus (first|rfl|(simp;done)|(simp_all;done)|omega)
 try simp only[Q] at h1p
 have hrest:rest=[]:=by
  rcases rest with _|⟨a,b⟩
  ·rfl
  ·exfalso;have hz:=congrArg List.length (hg1.1);simp only[List.length_append,List.length_cons,List.length_map] at hz;omega
 subst hrest
 focus (refine rn [] (r1 rfl) (.eqd ?_) ⟨rfl,rfl⟩ (fun _ _ h=>h) (fun _ h=>h);all_goals (rw[←hg1.2];simp[idxF,h1s,h1p]))
theorem zgc {xs:List Pat}{f:Nat}{caps:List AV}{hp:Hp}{p:Pat→Bool} (hs:xs.length≤1000000000000) (hcal:Callee Tryz.prog f)
  (hf:∀t∈xs,FnD Tryz.prog f ([.agg [.d (.i t.op),.d (.i t.ctor),.d (.i t.n),.d (.i t.m),.d (.i t.var),.d (zac t.kids)]]++caps) hp (.d (.bool (p t))) []) (k1:subH hp hp) (k2:zem hp=true) (k3:zbo hp [] (.d .nilp) []=true):
  FnD Tryz.prog 94 [.d (zac xs),.fn f caps] hp (.d (.bool (xs.any p))) []:=by
 refine bd Tryz.f94 9 [] [] fun w0 F0 own kept hk=>?_
 refine Walk.call (cr:=[]) zlq (zet hs hcal hf k1 k2 k3) rfl .none rfl rfl (LeL.refl _) k1 k2 (zdK k3 _) rfl ?_
 refine ev ?_
 refine rn [] (r1 rfl) (.eqd ?_) ⟨rfl,rfl⟩ (fun _ _ h=>h) (fun _ h=>h)
 rotate_left
 all_goals (exact congrArg D.bool (zfx p xs 0))
theorem zeB {xs:List Pat}{f:Nat}{B2 B3:List AV}{p:Pat→Bool} (hs:xs.length≤1000000000000) (hcal:Callee Tryz.prog f) (hB2:AV.idsL B2=[]) (hB3:AV.idsL B3=[])
  (hf:∀t∈xs,FnD Tryz.prog f [.agg [.d (.i t.op),.d (.i t.ctor),.d (.i t.n),.d (.i t.m),.d (.i t.var),.d (zac t.kids)],.ref 3003 0,.ref 3004 0] [(3003,some (.box B2)),(3004,some (.box B3))] (.d (.bool (p t))) []):
  FnD Tryz.prog 152 [.ms 1 xs.length,.fn f [.ref 3003 0,.ref 3004 0]] [(1,some (.box (pd xs))),(3003,some (.box B2)),(3004,some (.box B3))] (.d (.i (idxF p xs 0))) []:=by
 refine bd Tryz.f152 19 [15] [] fun w0 F0 own kept hk=>?_
 refine CWp.loopX (ι:=Nat) hk (fun i=>[(8,.d (.i (i:Int)))]) [4,5,9,10,11,12,13,14,15,16,17,18] (fun i=>[]) (fun i=>i≤xs.length∧idxF p (xs.drop i) i=idxF p xs 0) (fun i=>xs.length-i) 0 ⟨by omega,rfl⟩ ⟨⟨_,rfl,LeA.eqi ?_⟩,trivial⟩ trivial (fun x=>rfl) (fun i hg1=>?_)
 focus (first|rfl|(simp;done)|(simp_all;done)|omega)
 refine evc [15] [] ?_
 refine sq (fun h1 h1p h1s=>?_) fun h1 h1p h1s=>?_
 try simp only[Q] at h1p
 refine Walk.idxM sl26 .none rfl rfl rfl rfl (by first|omega|(simp ;omega)) ?_
 refine Walk.loadBA ty28 .none rfl rfl rfl ((zsD (by omega))) ?_
 refine Walk.callV (cr:=[]) hcal (hf (nth xs i) (zag (by omega))) rfl .none rfl rfl rfl (LeL.refl _) ⟨rfl,rfl,trivial⟩ rfl (by simp only[zbo,List.all_cons,List.all_nil,zco,zbW,AV.idsL,AV.ids,hB2,hB3,List.map_cons,List.map_nil];rfl) rfl ?_
 refine tv ?_
 refine sq (fun h2 h2p h2s=>?_) fun h2 h2p h2s=>?_
 try simp only[Q] at h2p
 focus (refine rn [] (r1 rfl) (.eqd ?_) ⟨rfl,rfl⟩ (SubH.get ⟨rfl,⟨rfl,⟨rfl,trivial⟩⟩⟩) (fun _ h=>h);all_goals (first|(rw[←hg1.2,za1 (by omega)];simp[idxF,h1s,h1p,h2s,h2p];done)|(rw[←hg1.2,List.drop_eq_nil_of_le (by omega)];rfl)))
 try simp only[Q] at h2p
 refine ar ?_
 refine Exists.intro (i+1) ⟨⟨by omega,(by rw[←hg1.2,za1 (l:=xs) (i:=i) (by omega)];simp_all[idxF])⟩,(by omega),sx ⟨⟨_,rfl,LeA.eqi ?_⟩,trivial⟩ trivial⟩
 focus (first|rfl|(simp;done)|(simp_all;done)|omega)
 try simp only[Q] at h1p
 focus (refine rn [] (r1 rfl) (.eqd ?_) ⟨rfl,rfl⟩ (SubH.get ⟨rfl,⟨rfl,⟨rfl,trivial⟩⟩⟩) (fun _ h=>h);all_goals (first|(rw[←hg1.2,za1 (by omega)];simp[idxF,h1s,h1p];done)|(rw[←hg1.2,List.drop_eq_nil_of_le (by omega)];rfl)))
theorem zhc {xs:List Pat}{f:Nat}{B2 B3:List AV}{p:Pat→Bool} (hs:xs.length≤1000000000000) (hcal:Callee Tryz.prog f) (hB2:AV.idsL B2=[]) (hB3:AV.idsL B3=[])
  (hf:∀t∈xs,FnD Tryz.prog f [.agg [.d (.i t.op),.d (.i t.ctor),.d (.i t.n),.d (.i t.m),.d (.i t.var),.d (zac t.kids)],.ref 3003 0,.ref 3004 0] [(3003,some (.box B2)),(3004,some (.box B3))] (.d (.bool (p t))) []):
  ∃tl:List AV,AV.idsL tl=[]∧FnD Tryz.prog 146 [.ms 1 xs.length,.fn f [.ref 3003 0,.ref 3004 0]] [(1,some (.box (pd xs))),(3003,some (.box B2)),(3004,some (.box B3))]
   (.ms 1 (xs.filter fun t=> !p t).length) [(1,some (.box (pd (xs.filter fun t=> !p t)++tl)))]:=by
 have hok3:zbo [(1,some (.box (pd xs))),(3003,some (.box B2)),(3004,some (.box B3))] [] (.d .nilp) []=true:=by
  simp only[zbo,List.all_cons,List.all_nil,zco,zbW,AV.idsL,AV.ids,zhY,hB2,hB3,List.map_cons,List.map_nil];rfl
 rcases znI p xs 0 with ⟨hi,hall⟩|⟨k,hi,hk1,hk2⟩
 ·have hfil:(xs.filter fun t=> !p t)=xs:=List.filter_eq_self.2 (fun x hx=>by simp[hall x hx])
  refine⟨[],rfl, ?_⟩
  rw[hfil,List.append_nil]
  refine bd Tryz.f146 42 [] [] fun w0 F0 own kept hk=>?_
  refine Walk.call (cr:=[]) zlq (zeB hs hcal hB2 hB3 hf) rfl .none rfl rfl (.cons (LeA.msn (by first|rfl|(simp;done))) (.cons (.refl _) .nil)) ⟨rfl,rfl,rfl,trivial⟩ rfl (zdK hok3 _) rfl ?_
  refine ev ?_
  refine sq (fun h1 h1p h1s=>?_) fun h1 h1p h1s=>?_
  try simp only[Q] at h1p
  refine rn [(1,some (.box (pd xs)))] (r1 rfl) (.refl _) ⟨rfl,rfl⟩ (SubO.get ⟨.inr ?_,⟨.inl rfl,⟨.inr rfl,⟨.inr rfl,trivial⟩⟩⟩⟩) (zaG rfl)
  rotate_left
  try simp only[Q] at h1p
  exfalso;simp[hi] at h1
  all_goals (first|((first|rfl|(simp;done));done)|(rfl))
 ·skip
  have hlen:(xs.filter fun t=> !p t).length≤xs.length:=List.length_filter_le _ _
  refine⟨zbm (xs.length-(xs.filter fun t=> !p t).length) z6,ziM rfl, ?_⟩
  refine bd Tryz.f146 42 [25] [] fun w0 F0 own kept hk=>?_
  refine Walk.call (cr:=[]) zlq (zeB hs hcal hB2 hB3 hf) rfl .none rfl rfl (.cons (LeA.msn (by first|rfl|(simp;done))) (.cons (.refl _) .nil)) ⟨rfl,rfl,rfl,trivial⟩ rfl (zdK hok3 _) rfl ?_
  refine evs [25] [] ?_
  refine sq (fun h1 h1p h1s=>?_) fun h1 h1p h1s=>?_
  try simp only[Q] at h1p
  exfalso;simp[hi] at h1<;>omega
  try simp only[Q] at h1p
  refine ar ?_
  refine CWp.loopX (ι:=List Pat×Nat×Nat) hk (fun x=>[(6,.d (.i (x.2.1:Int))),(5,.d (.i (x.2.2:Int)))]) [7,16,17,18,19,20,21,22,23,24,25,26,27,28,29,30,31,32,33,34,35] (fun x=>[(1,some (.box (pd x.1)))]) (fun x=>x.1.length=xs.length∧x.2.1≤xs.length∧x.2.2≤x.2.1∧x.1.take x.2.2=(xs.take x.2.1).filter (fun t=> !p t)∧x.1.drop x.2.1=xs.drop x.2.1) (fun x=>xs.length-x.2.1) (xs,k+1,k) ⟨rfl,by dsimp only;omega,by dsimp only;omega,hk2.symm,rfl⟩ ⟨⟨_,rfl,LeA.eqi ?_⟩,⟨⟨_,rfl,LeA.eqi ?_⟩,trivial⟩⟩ ⟨?_,trivial⟩ (fun x=>rfl) (fun x hg1=>?_)
  iterate 2 focus (first|rfl|(simp;done)|(dsimp only;simp[hi];omega)|(simp_all;done))
  focus (first|rfl|(show some (Res.box _)=some (Res.box _);dsimp only;split<;>first|rfl|(exfalso;simp_all;done)))
  refine evc [25] [] ?_
  refine sq (fun h2 h2p h2s=>?_) fun h2 h2p h2s=>?_
  try simp only[Q] at h2p
  refine Walk.idxM sl26 .none rfl rfl rfl rfl (by first|omega|(simp ;omega)) ?_
  refine Walk.loadBA ty28 .none rfl rfl rfl (((zsD (s:=x.1) (by omega)).trans (by rw[zqk hg1.2.2.2.2 hg1.1 (by omega)]))) ?_
  refine Walk.alloc (id:=3007) tz28 rfl .none rfl (by first|rfl|(simp only[zay,occH,occE,Res.ids,List.cons_append,List.nil_append,AV.idsL,AV.ids,zak,zaj,zar,zaM,List.map_cons,List.map_nil,upC,hB2,hB3,zhY];rfl)) (by first|rfl|(simp only[zay,occH,occE,Res.ids,List.cons_append,List.nil_append,AV.idsL,AV.ids,zak,zaj,zar,zaM,List.map_cons,List.map_nil,upC,hB2,hB3,zhY];rfl)) (by first|rfl|(simp only[zay,occH,occE,Res.ids,List.cons_append,List.nil_append,AV.idsL,AV.ids,zak,zaj,zar,zaM,List.map_cons,List.map_nil,upC,hB2,hB3,zhY];rfl)) ?_
  refine so ty28 ?_
  refine tv ?_
  refine Walk.callV (cr:=[]) hcal (hf (nth xs x.2.1) (zag (by omega))) rfl .none rfl rfl rfl (LeL.refl _) ⟨rfl,rfl,trivial⟩ rfl (by simp only[zbo,List.all_cons,List.all_nil,zco,zbW,AV.idsL,AV.ids,hB2,hB3,List.map_cons,List.map_nil];rfl) rfl ?_
  refine evs [25] [] ?_
  refine sq (fun h3 h3p h3s=>?_) fun h3 h3p h3s=>?_
  try simp only[Q] at h3p
  refine Walk.idxM sl26 .none rfl rfl rfl rfl (by first|omega|(simp ;omega)) ?_
  refine Walk.store ty28 .none rfl rfl rfl rfl rfl rfl (by simp) ((zvH (by omega))) ?_
  refine tv ?_
  refine ar ?_
  refine ar ?_
  refine Exists.intro ((if p (nth xs x.2.1) then x.1 else x.1.set x.2.2 (nth xs x.2.1),x.2.1+1,if p (nth xs x.2.1) then x.2.2 else x.2.2+1)) ⟨(by
      obtain⟨g1,g2,g3,g4,g5⟩:=hg1
      have hlt:x.2.1<xs.length:=by omega
      have h7:=zgU (p:=fun t=> !p t) hlt
      refine⟨by dsimp only;split<;>simp[g1],by dsimp only;omega,by dsimp only;split<;>omega, ?_, ?_⟩
      ·dsimp only
       rw[h7,←g4]
       cases hp:p (nth xs x.2.1) with
       |true=>simp
       |false=>simp only[Bool.false_eq_true,if_false,Bool.not_false,if_true];rw[ziX (by omega)]
      ·dsimp only
       split
       ·exact zeN g5
       ·first|(rw[ziN g3];exact zeN g5)|exact zeN g5),(by dsimp only;omega),sx ⟨⟨_,rfl,LeA.eqi ?_⟩,⟨⟨_,rfl,LeA.eqi ?_⟩,trivial⟩⟩ ⟨?_,trivial⟩⟩
  iterate 2 focus (first|rfl|(simp;done)|(dsimp only;simp[hi];omega)|(simp_all;done))
  focus (first|rfl|(show some (Res.box _)=some (Res.box _);dsimp only;split<;>first|rfl|(exfalso;simp_all;done)))
  try simp only[Q] at h3p
  refine ar ?_
  refine Exists.intro ((if p (nth xs x.2.1) then x.1 else x.1.set x.2.2 (nth xs x.2.1),x.2.1+1,if p (nth xs x.2.1) then x.2.2 else x.2.2+1)) ⟨(by
      obtain⟨g1,g2,g3,g4,g5⟩:=hg1
      have hlt:x.2.1<xs.length:=by omega
      have h7:=zgU (p:=fun t=> !p t) hlt
      refine⟨by dsimp only;split<;>simp[g1],by dsimp only;omega,by dsimp only;split<;>omega, ?_, ?_⟩
      ·dsimp only
       rw[h7,←g4]
       cases hp:p (nth xs x.2.1) with
       |true=>simp
       |false=>simp only[Bool.false_eq_true,if_false,Bool.not_false,if_true];rw[ziX (by omega)]
      ·dsimp only
       split
       ·exact zeN g5
       ·first|(rw[ziN g3];exact zeN g5)|exact zeN g5),(by dsimp only;omega),sx ⟨⟨_,rfl,LeA.eqi ?_⟩,⟨⟨_,rfl,LeA.eqi ?_⟩,trivial⟩⟩ ⟨?_,trivial⟩⟩
  iterate 2 focus (first|rfl|(simp;done)|(dsimp only;simp[hi];omega)|(simp_all;done))
  focus (first|rfl|(show some (Res.box _)=some (Res.box _);dsimp only;split<;>first|rfl|(exfalso;simp_all;done)))
  try simp only[Q] at h2p
  refine Walk.cutM_l sl26 .none rfl rfl rfl rfl (by omega) ?_
  refine Walk.clearB sl26 tz28 rfl (by decide) rfl .none rfl rfl (zuG hg1.1 (by omega)) ?_
  refine tv ?_
  refine Walk.cutM_h sl26 .none rfl rfl rfl rfl (by omega) ?_
  refine evs [25] [] ?_
  refine rn [(1,some (.box (pd (xs.filter fun t=> !p t)++zbm (xs.length-(xs.filter fun t=> !p t).length) z6)))] (r1 rfl) (LeA.msn ?_) ⟨rfl,rfl⟩ (SubO.get ⟨.inr ?_,⟨.inl rfl,⟨.inr rfl,⟨.inr rfl,trivial⟩⟩⟩⟩) (zaG rfl)
  rotate_left 2
  all_goals (first|((first|rfl|(obtain⟨g1,g2,g3,g4,g5⟩:=hg1;have e:x.2.1=xs.length:=(by omega);rw[e,List.take_length] at g4;rw[←g4,List.length_take];omega));done)|((obtain⟨g1,g2,g3,g4,g5⟩:=hg1;have e:x.2.1=xs.length:=(by omega);rw[e,List.take_length] at g4;have e2:(xs.filter fun t=> !p t).length=x.2.2:=(by rw[←g4,List.length_take];omega);rw[e2,←g4];rfl)))
theorem zgu {f:Nat}{caps:List AV}{hp:Hp} (hcal:Callee Tryz.prog f) (k1:subH hp hp) (k2:zem hp=true) (k3:zbo hp [] (.d .nilp) []=true):
  FnD Tryz.prog 146 [.d (.sl []),.fn f caps] hp (.d (.sl [])) []:=by
 have hz:=zet (xs:=[]) (p:=fun _=>false) (f:=f) (caps:=caps) (hp:=hp) (by simp) hcal (fun t ht=>by simp at ht) k1 k2 k3
 refine bd Tryz.f146 42 [] [] fun w0 F0 own kept hk=>?_
 refine Walk.call (cr:=[]) zlq (hz) rfl .none rfl rfl (LeL.refl _) k1 k2 (zdK k3 _) rfl ?_
 refine ev ?_
 refine sq (fun h1 h1p h1s=>?_) fun h1 h1p h1s=>?_
 focus (refine rn [] (r1 rfl) (.eqd ?_) ⟨rfl,rfl⟩ (fun _ _ h=>h) (fun _ h=>h);all_goals (first|rfl|(simp[h1s,h1p];done)|(simp_all;done)|(simp_all;omega)|omega))
 exfalso;simp[idxF] at h1
theorem zjO {xs:List Pat} (hs:xs.length≤1000000000000) (hne:xs≠[]):FnD Tryz.prog 147 [.d (zac xs)] [] (.ms 1 xs.length) [(1,some (.box (pd xs)))]:=by
 have hcs:Pat.cs xs≠[]:=fun h=>hne ((Pat.cs_nil xs).1 h)
 refine Fn.body (fn:=Tryz.f147) (n:=8) rfl rfl rfl rfl rfl (fun w0 F0 own kept hk=>?_)
 refine CWp.splitNil 0 rfl (fun hx0=>?_) ?_
 refine evc [4] [] ?_
 refine Walk.eqNilT sl26 .none rfl rfl ?_
 refine tv ?_
 refine sqT ?_
 exfalso;exact hcs hx0
 refine evc [4] [] ?_
 refine Walk.eqNilF sl26 .none rfl rfl ?_
 refine tv ?_
 refine sqF ?_
 refine Walk.sliceEmptyGV 1 sl26 .none rfl rfl ?_
 refine evs [4] [] ?_
 refine Walk.appendM hk rfl (by simp[hcs]) sl26 zz28 .none rfl rfl rfl rfl (zgj rfl (by first|rfl|(simp;done)|(simp;omega))) (by intro y hy;rw[Pat.cs_cd] at hy;obtain⟨z,_,rfl⟩:=List.mem_map.1 hy;rfl) (by simp[Pat.cs_len];omega) (by simp[Pat.cs_len];omega) ?_
 refine evs [4] [] ?_
 refine rn [(1,some (.box (pd xs)))] (r1 rfl) (LeA.msn ?_) ⟨rfl,rfl⟩ (SubH.get ⟨?_,trivial⟩) (zaG rfl)
 rotate_left 2
 all_goals (first|((first|rfl|(simp[Pat.cs_len];done));done)|(first|rfl|(show some (Res.box _)=some (Res.box _);unfold pd;rw[←Pat.cs_cd];rfl)))
theorem zkW {w:List Data} (hs:Spa w){ta tk:Int} (ht:InS (w.length*4) ⟨ta,tk⟩){p:Pat} (hp:zad w 11 ⟨ta,tk⟩ p=true):
  FnD Tryz.prog 148 [.agg [.d (.i p.op),.d (.i p.ctor),.d (.i p.n),.d (.i p.m),.d (.i p.var),.d (zac p.kids)],.ref 3003 0,.ref 3004 0] [(3003,some (.box [.d (sPtr w (zai w))])),(3004,some (.box [.d (.i ta),.d (.i tk)]))] (.d (.bool (zaV w (zai w) 11 ⟨ta,tk⟩ p))) []:=by
 refine bd Tryz.f148 9 [] [] fun w0 F0 own kept hk=>?_
 refine bx 3001 ?_
 refine ev ?_
 refine wc zih (zcK hs.dp 11 (zgp _ hp) ht (zgM hs 11 ht hp).1) rfl rfl ?_
 refine ev ?_
 focus (refine rn [] (r1 rfl) (.eqd ?_) ⟨rfl,rfl⟩ (SubH.get ⟨rfl,⟨rfl,trivial⟩⟩) (fun _ h=>h);all_goals (first|rfl|(simp[];done)|(simp_all;done)|(simp_all;omega)|omega))
theorem zhU {w:List Data} (hs:Spa w){ta tk:Int} (ht:InS (w.length*4) ⟨ta,tk⟩){l:List Pat} (hl:∀a∈l,zad w 11 ⟨ta,tk⟩ a=true) (hb:l.length≤1000000000000):
  FnD Tryz.prog 92 [.d (sPtr w (zai w)),.agg [.d (.i ta),.d (.i tk)],.d (zac l)] [] (.d (zac (l.filter (zbn w ⟨ta,tk⟩)))) []:=by
 by_cases hne:l=[]
 ·subst hne
  have hcl:FnD Tryz.prog 147 [.d (.sl [])] [] (.d (.sl [])) []:=(zfq (xs:=[]) (by simp)).glD
  refine bd Tryz.f92 11 [] [] fun w0 F0 own kept hk=>?_
  refine bx 3003 ?_
  refine bx 3004 ?_
  refine ev ?_
  refine wc zoU (hcl) rfl rfl ?_
  refine Walk.closure (xs:=[_,_]) rfl .none rfl rfl ?_
  refine Walk.call (cr:=[]) zrX (zgu (hp:=[(3003,some (.box [.d (sPtr w (zai w))])),(3004,some (.box [.d (.i ta),.d (.i tk)]))]) zrY ⟨rfl,rfl,trivial⟩ rfl rfl) rfl .none rfl rfl (LeL.refl _) ⟨rfl,rfl,trivial⟩ rfl rfl rfl ?_
  refine ev ?_
  focus (refine rn0 (r1 rfl) (.eqd ?_);all_goals (first|rfl|(simp[];done)|(simp_all;done)|(simp_all;omega)|omega))
 ·obtain⟨tl,htl,hdel⟩:=zhc (xs:=l) (p:=fun a=>zaV w (zai w) 11 ⟨ta,tk⟩ a) hb zrY (B2:=[.d (sPtr w (zai w))]) (B3:=[.d (.i ta),.d (.i tk)]) rfl rfl (fun a ha=>zkW hs ht (hl a ha))
  have key:FnD Tryz.prog 92 [.d (sPtr w (zai w)),.agg [.d (.i ta),.d (.i tk)],.d (zac l)] [] (.ms 1 (l.filter (zbn w ⟨ta,tk⟩)).length) [(1,some (.box (pd (l.filter (zbn w ⟨ta,tk⟩))++tl)))]:=by
   refine bd Tryz.f92 11 [] [] fun w0 F0 own kept hk=>?_
   refine bx 3003 ?_
   refine bx 3004 ?_
   refine ev ?_
   refine Walk.call (cr:=[1]) zoU (zjO hb hne) rfl .none rfl rfl (LeL.refl _) trivial rfl (by simp only[zbo,List.all_cons,List.all_nil,zco,zbW,AV.idsL,AV.ids,zhY,zak,htl,List.map_cons,List.map_nil];rfl) rfl ?_
   refine Walk.closure (xs:=[_,_]) rfl .none rfl rfl ?_
   refine Walk.call (cr:=[]) zrX (hdel) rfl .none rfl rfl (.cons (LeA.msn (by first|rfl|(simp;done))) (.cons (.refl _) .nil)) ⟨rfl,rfl,rfl,trivial⟩ rfl (by simp only[zbo,List.all_cons,List.all_nil,zco,zbW,AV.idsL,AV.ids,zhY,zak,htl,List.map_cons,List.map_nil];rfl) rfl ?_
   refine ev ?_
   refine rn [(1,some (.box (pd (l.filter (zbn w ⟨ta,tk⟩))++tl)))] (r1 rfl) (LeA.msn ?_) ⟨rfl,rfl⟩ (SubH.get ⟨?_,trivial⟩) (zaG rfl)
   rotate_left 2
   all_goals (first|((rfl);done)|(rfl))
  have h2:=key.boxD (k:=6) ztr
  rw[←Pat.cs_cd] at h2
  exact h2
end Go.Proofs.YtpgdedpljcedpaaGreat
