/-
  THE LAW FnTotalClauses: whatever the arguments of bulk at most 1048576 are, the call returns true, and the arguments read as before.
  Conditions: the bulk alone.
-/
import Derived.Test.YtmchfdpleibpdaaGreatE595
namespace Go.Proofs.YtmchfdpleibpdaaGreat
open Go
set_option linter.unusedSimpArgs false
set_option linter.unusedVariables false
set_option maxRecDepth 100000
set_option maxHeartbeats 2000000
theorem zrA {f:Ty->Pat->Pat->List Pat}{c:Int}{ts:List Ty}{xs bs front:List Pat}{i:Nat} (h1:i<ts.length) (h2:i<xs.length) (h3:i<bs.length) (h:(zaV 11 (nth xs i) (nth bs i)).isSome=true):
  zbb f c (ts.drop i) (xs.drop i) (bs.drop i) front=(f (nth ts i) (nth xs i) (nth bs i)).map (fun z=>zca c (front++[z]++xs.drop (i+1)))++zbb f c (ts.drop (i+1)) (xs.drop (i+1)) (bs.drop (i+1)) (front++[zec 11 (nth xs i) (nth bs i)]):=by
 rw[zrx h];exact zlX h1 h2 h3 h
theorem zvH (c:Int) (L:List Pat):Pat.cc (zca c L)=[D.i 4,D.i c,D.i 0,D.i 0,D.i 0,D.sl (L.map Pat.cc)]:=by
 show [D.i 4,D.i c,D.i 0,D.i 0,D.i 0,D.sl (Pat.cs L)]=_
 rw[xa1]
section
variable {w:List Data}
abbrev MinusSp (w:List Data) (n:Nat) (ta tk:Int) (a b:Pat):Prop:=
 FnD Tryz.prog 257 [.d (zaj w),.agg [.d (.i ta),.d (.i tk)],.agg [.d (.i (a).op),.d (.i (a).ctor),.d (.i (a).n),.d (.i (a).m),.d (.i (a).var),.d (zak (a).kids)],.agg [.d (.i (b).op),.d (.i (b).ctor),.d (.i (b).n),.d (.i (b).m),.d (.i (b).var),.d (zak (b).kids)]] [] (.d (zak (zau w n ⟨ta,tk⟩ a b))) []
theorem zo2 (hs:Spa w){n m:Nat} (hn:n+1<=10) (hm:m+1<=11) (hnm:n<m)
  (ih:∀ {ta tk:Int}{a b:Pat},InS (w.length*4) ⟨ta,tk⟩->zao w m ⟨ta,tk⟩ a=true->zao w n ⟨ta,tk⟩ b=true->MinusSp w n ta tk a b)
  {ta tk:Int}{a b:Pat} (ht:InS (w.length*4) ⟨ta,tk⟩) (ha:zao w (m+1) ⟨ta,tk⟩ a=true) (hb:zao w (n+1) ⟨ta,tk⟩ b=true) (h4:a.op=4) (h4b:b.op=4) (hc:a.ctor=b.ctor):
  FnD Tryz.prog 278 [.d (zaj w),.agg [.d (.i ta),.d (.i tk)],.agg [.d (.i (a).op),.d (.i (a).ctor),.d (.i (a).n),.d (.i (a).m),.d (.i (a).var),.d (zak (a).kids)],.agg [.d (.i (b).op),.d (.i (b).ctor),.d (.i (b).n),.d (.i (b).m),.d (.i (b).var),.d (zak (b).kids)]] [] (.d (zak (zau w (n+1) ⟨ta,tk⟩ a b))) []:=by
 obtain⟨c1,c2,c3,-⟩:=za6 ha h4;obtain⟨d1,d2,d3,-⟩:=za6 hb h4b;rw[<-hc] at d3;have h3l:=hs.args ⟨ta,tk⟩ a.ctor ht c1;have ka:=fun i (hi:i<a.kids.length)=>zbt ha hi;have kb:=fun i (hi:i<b.kids.length)=>zbt hb hi;rw[zbP h4] at ka;rw[zbP h4b,<-hc] at kb;have hbd:=zgi hs (n:=n+1) (m:=m+1) od hn ht ha hb;have e:zau w (n+1) ⟨ta,tk⟩ a b=zbb (zau w n) a.ctor (zae w ⟨ta,tk⟩ a.ctor) a.kids b.kids []:=by rw[ze0 h4b h4];exact if_pos hc
 have hins:=fun i (hi:i<(zae w ⟨ta,tk⟩ a.ctor).length)=>zcz hs.dp ht c1 _ (zaf hi);have hmi:∀i,i<(zae w ⟨ta,tk⟩ a.ctor).length->FnD Tryz.prog 257 [.d (zaj w),.agg [.d (.i (nth (zae w ⟨ta,tk⟩ a.ctor) i).data),.d (.i (nth (zae w ⟨ta,tk⟩ a.ctor) i).index)],.agg [.d (.i (nth a.kids i).op),.d (.i (nth a.kids i).ctor),.d (.i (nth a.kids i).n),.d (.i (nth a.kids i).m),.d (.i (nth a.kids i).var),.d (zak (nth a.kids i).kids)],.agg [.d (.i (nth b.kids i).op),.d (.i (nth b.kids i).ctor),.d (.i (nth b.kids i).n),.d (.i (nth b.kids i).m),.d (.i (nth b.kids i).var),.d (zak (nth b.kids i).kids)]] [] (.d (zak (zau w n (nth (zae w ⟨ta,tk⟩ a.ctor) i) (nth a.kids i) (nth b.kids i)))) []:=fun i hi=>ih (ta:=(nth (zae w ⟨ta,tk⟩ a.ctor) i).data) (tk:=(nth (zae w ⟨ta,tk⟩ a.ctor) i).index) (hins i hi) (ka i od) (kb i od);have hme:=fun i (hi:i<(zae w ⟨ta,tk⟩ a.ctor).length)=>zjh hs 11 m (t:=nth (zae w ⟨ta,tk⟩ a.ctor) i) od (hins i hi) (ka i od) (zls od (kb i od));rw[e] at hbd ⊢;have hT:∀i out front,i<(zae w ⟨ta,tk⟩ a.ctor).length->out++zbb (zau w n) a.ctor ((zae w ⟨ta,tk⟩ a.ctor).drop i) (a.kids.drop i) (b.kids.drop i) front=zbb (zau w n) a.ctor (zae w ⟨ta,tk⟩ a.ctor) a.kids b.kids []->
   out.length+(zau w n (nth (zae w ⟨ta,tk⟩ a.ctor) i) (nth a.kids i) (nth b.kids i)).length<=20000000:=fun i out front hi h=>by
  rw[zij hi od od] at h;have:=xam List.length h;simp only[xaa,xac] at this;omega
 refine bd Tryz.f278 100 [] [] fun _ _ _ _ hk=>?_;refine bx 3005 ?_;refine bx 3006 ?_;refine bx 3007 ?_;refine ev (xb8 9 sl72 .none Z Z (ev (wc zbX (zb4 hs.dp.wt (zc2 ht) c1) Z Z ?_)));refine ev (xb8 8 sl72 .none Z Z (ev (xaB (ι:=Nat×List Pat×List Pat) hk (fun s=>[(12,.d (.i (s.1:Int))),(9,.gl 9 (s.2.1.map Pat.cc)),(11,.gl 8 (s.2.2.map Pat.cc))]) [8,13,14,15,16,17,25,26,27,28,29,30,31,32,33,34,35,36,37,38,39,40,41,42,43,44,45,46,47,48,49,50,51,52,53,54,55,56,57,58,59,60,61,62,63,64,65,66,67,68,69,70,71,72,73,74,75,76,77,78,79,80,81,82,83,84,85,86,87,88,89,90,91,92,93,94,95,96,97,98] (fun s=>[(9,some (.tok ((s.2.1.map Pat.cc)).length 6)),(8,some (.tok ((s.2.2.map Pat.cc)).length 6))]) (fun s=>s.1<=a.kids.length/\s.2.2.length=s.1/\s.2.1++zbb (zau w n) a.ctor ((zae w ⟨ta,tk⟩ a.ctor).drop s.1) (a.kids.drop s.1) (b.kids.drop s.1) s.2.2=zbb (zau w n) a.ctor (zae w ⟨ta,tk⟩ a.ctor) a.kids b.kids []) (fun s=>a.kids.length-s.1) (0,[],[]) ⟨by simp,Z,Z⟩ ⟨⟨_,Z,xaU ?_⟩,⟨⟨_,Z,LeA.glg ?_⟩,⟨⟨_,Z,LeA.glg ?_⟩,O⟩⟩⟩ ⟨zac ?_,⟨zac ?_,O⟩⟩ (fun x=>rfl) (fun s hg1=>?_))));iterate 5 focus (rfl)
 refine evc [] [] ?_;apply sq<;>intro h1 h1p h1s<;>(try simp only[Q,xa3] at h1p);refine ixq zaz Z Z Z (zah od) Z ?_;refine evd [] [] (ixq sl72 Z Z Z (zaE od) Z ?_);refine evd [] [] (ixq sl72 Z Z Z (zaE od) Z ?_);refine evd [] [] (wc zqW (hmi s.1 od) Z Z ?_);refine evd [] [] (dr (xaB (ι:=List (Pat)×List (Pat)) hk (fun x=>[(14,.d (.i (x.1.length:Int))),(9,.gl 9 ((s.2.1++x.1.map (fun z=>zca a.ctor (s.2.2++[z]++a.kids.drop (s.1+1)))).map Pat.cc))]) [15,47,48,49,50,51,52,53,54,55,56,57,58,59,60,61,62,63,64,65,66,67,68,69,70,71,72,73,74,75,76,77] (fun x=>[(9,some (.tok (((s.2.1++x.1.map (fun z=>zca a.ctor (s.2.2++[z]++a.kids.drop (s.1+1)))).map Pat.cc)).length 6))]) (fun x=>x.1++x.2=(zau w n (nth (zae w ⟨ta,tk⟩ a.ctor) s.1) (nth a.kids s.1) (nth b.kids s.1))) (fun x=>x.2.length) ([],(zau w n (nth (zae w ⟨ta,tk⟩ a.ctor) s.1) (nth a.kids s.1) (nth b.kids s.1))) oi ⟨⟨_,Z,xaU ?_⟩,⟨⟨_,Z,LeA.glg ?_⟩,O⟩⟩ ⟨zac ?_,O⟩ (fun x=>rfl) (fun x hg2=>?_)));iterate 3 focus ((simp;done))
 obtain⟨pre,rest⟩:=x;dsimp only at hg2 ⊢;refine evc [] [] ?_;apply sq<;>intro h2 h2p h2s<;>(try simp only[Q,xa3] at h2p);rcases rest with _|⟨y,rest⟩
 ·exfalso;simp_all
 refine xb8 7 sl72 .none Z Z (evd [] [] (ap sl72 zz74 Z Z Z (by intro x hx;exact zhw _ x hx) (by(simp[xa3];omega)) ?_));refine evd [] [] (ixq sl72 Z Z Z (xaZ hg2) Z (evd [] [] (si [0] [_] sl72 tz74 ?_)));refine ap sl72 zz74 Z Z Z oy (by(have h9:=hT s.1 s.2.1 s.2.2 od hg1.2.2;have h8:=xam List.length hg2;simp[xa3] at h8 ⊢;omega)) ?_;refine bu [0,1,5] [_,_,_] st74 ?_;refine ab 3015 tz74 ?_;refine so ty74 ?_;refine dr (ar ?_ (by(constructor<;>omega)));refine xbE (b:=s.1+1) sl72 .none Z Z Z (by intro x hx;exact zcv _ x hx) Z Z (by simp only[xa3];omega) ?_;refine ap sl72 zz74 Z Z Z (by intro x hx;exact zcv _ x (List.mem_of_mem_drop hx)) (by(have h9:=hT s.1 s.2.1 s.2.2 od hg1.2.2;have h8:=xam List.length hg2;simp[xa3] at h8 ⊢;omega)) ?_;refine evd [] [] (so ty72 ?_);refine dr (si [0] [_] sl72 tz74 ?_);refine ap sl72 zz74 Z Z Z oy (by(have h9:=hT s.1 s.2.1 s.2.2 od hg1.2.2;have h8:=xam List.length hg2;simp[xa3] at h8 ⊢;omega)) ?_;refine ev (ar ?_ (by(have h9:=hT s.1 s.2.1 s.2.2 od hg1.2.2;have h8:=xam List.length hg2;simp only[xaa,xab] at h8;constructor<;>omega)));refine xaj ((pre++[y],rest)) ⟨(by have hz:=hg2;rw[<-hz];simp),oi,sx ⟨⟨_,Z,xaU ?_⟩,⟨⟨_,Z,LeA.glg ?_⟩,O⟩⟩ ⟨zac ?_,O⟩⟩;iterate 3 focus (first|(simp;done)|(simp only[xag,xar,xaf,List.map_nil,zvH,xa1 a.kids,List.map_drop,List.nil_append,xai];done)|(simp;omega))
 have hrest:rest=[]:=by
  rcases rest with _|⟨a,b⟩
  ·rfl
  ·exfalso;have hz:=xam List.length (hg2);simp only[xaa,xab,xac] at hz;omega
 subst hrest;refine ixq sl72 Z Z Z (zaE od) Z ?_;refine evd [] [] (ixq sl72 Z Z Z (zaE od) Z ?_);refine evd [] [] (wc zur (hme s.1 od) Z Z ?_);refine evd [] [] (ab 3016 tz74 ?_);refine so ty74 ?_;refine evd [] [] (dr ?_);apply sq<;>intro h3 h3p h3s;refine rn0 (r1 Z) (.gld ?_);rotate_left;try simp only[Q,xa3] at h3p
 refine si [0] [_] sl72 tz74 ?_;refine ap sl72 zz74 Z Z Z oy (by(have h9:=hT s.1 s.2.1 s.2.2 od hg1.2.2;have h8:=xam List.length hg2;simp[xa3] at h8 ⊢;omega)) ?_;refine ev (ar ?_ (by(constructor<;>omega)));refine xaj ((s.1+1,s.2.1++(zau w n (nth (zae w ⟨ta,tk⟩ a.ctor) s.1) (nth a.kids s.1) (nth b.kids s.1)).map (fun z=>zca a.ctor (s.2.2++[z]++a.kids.drop (s.1+1))),s.2.2++[zec 11 (nth a.kids s.1) (nth b.kids s.1)])) ⟨⟨by dsimp only;omega,by dsimp only;rw[xaa,hg1.2.1];rfl,by dsimp only;rw[xar,<-zrA od od od ol];exact hg1.2.2⟩,ox,sx ⟨⟨_,Z,xaU ?_⟩,⟨⟨_,Z,LeA.glg ?_⟩,⟨⟨_,Z,LeA.glg ?_⟩,O⟩⟩⟩ ⟨zac ?_,⟨zac ?_,O⟩⟩⟩;iterate 5 focus ((simp_all;done))
 refine rn0 (r1 Z) (.gld ?_);rotate_left;all_goals (first|(rw[<-hg1.2.2,znE od,xaq,xa1];done)|(rw[xaq] at hg2;rw[<-hg1.2.2,zlW od od od ol,<-hg2,xa1];all_goals rfl))
theorem zr4 {n:Nat}{ta tk:Int}{a b:Pat} (h:b.op=1):MinusSp w (n+1) ta tk a b:=by
 unfold MinusSp;rw[zi3 h];refine bd Tryz.f257 82 [] [] fun _ _ _ _ hk=>?_;refine bx 3005 ?_;refine bx 3006 ?_;refine bx 3007 ?_;refine ev ?_;apply sq<;>intro h1 h1p h1s;refine xb7 sl72 .none Z (ev (rq ?_));rotate_left;try simp only[Q] at h1p
 exfalso;omega;all_goals (rfl)
theorem zr5 {n:Nat}{ta tk:Int}{a b:Pat} (h:b.op=3) (ha:a.op=1\/a.op=3) (hbn:0<=b.n/\b.n<=9) (hbm:0<=b.m/\b.m<=9):MinusSp w (n+1) ta tk a b:=by
 unfold MinusSp;rw[zlq h];by_cases h1:a.op=1
 ·have e:zfg a b=zcn 0 (minQ 9 (b.n-1))++zcn (maxQ 0 (b.m+1)) 9:=by
   have e1:lowQ a=0:=if_pos h1;have e2:zdG a=9:=if_pos h1;unfold zfg;rw[e1,e2]
  have hr:=zh1 (a:=intQ 0 9) hbn hbm;rw[e];refine bd Tryz.f257 82 [] [] fun _ _ _ _ hk=>?_;refine bx 3005 ?_;refine bx 3006 ?_;refine bx 3007 ?_;refine ev ?_;apply sq<;>intro h1 h1p h1s;try simp only[Q] at h1p
  exfalso;omega;apply sq<;>intro h2 h2p h2s;apply sq<;>intro h3 h3p h3s;refine bu [0,3] [_,_] st74 ?_;refine ev (Walk.call (cr:=[]) zuo hr Z .none Z Z (.cons (.agg (.cons (.refl _) (.cons (.refl _) (.cons (.refl _) (.cons (.refl _) (.cons (.refl _) (.cons .nil .nil))))))) (.cons (.refl _) .nil)) O Z Z Z (ev ?_));focus (refine rq ?_;all_goals (rfl))
  focus (exfalso;first|omega|(simp_all;done))
  try simp only[Q] at h2p
  exfalso;omega
 ·have e:zfg a b=zcn a.n (minQ a.m (b.n-1))++zcn (maxQ a.n (b.m+1)) a.m:=by
   have e1:lowQ a=a.n:=if_neg h1;have e2:zdG a=a.m:=if_neg h1;unfold zfg;rw[e1,e2]
  have hr:=zh1 (a:=a) hbn hbm;rw[e];refine bd Tryz.f257 82 [] [] fun _ _ _ _ hk=>?_;refine bx 3005 ?_;refine bx 3006 ?_;refine bx 3007 ?_;refine ev ?_;apply sq<;>intro h1 h1p h1s;try simp only[Q] at h1p
  exfalso;omega;apply sq<;>intro h2 h2p h2s;apply sq<;>intro h3 h3p h3s;focus (exfalso;first|omega|(simp_all;done))
  apply sq<;>intro h4 h4p h4s;refine wc zuo hr Z Z ?_;refine ev ?_;focus (refine rq ?_;all_goals (rfl))
  try simp only[Q] at h4p
  exfalso;omega;try simp only[Q] at h2p
  exfalso;omega
theorem zr8 {n:Nat}{ta tk:Int}{a b:Pat} (h4:a.op=4) (h4b:b.op=4) (hc:¬a.ctor=b.ctor):MinusSp w (n+1) ta tk a b:=by
 unfold MinusSp;have e:zau w (n+1) ⟨ta,tk⟩ a b=[a]:=by rw[ze0 h4b h4];exact if_neg hc
 rw[e];refine bd Tryz.f257 82 [] [] fun _ _ _ _ hk=>?_;refine bx 3005 ?_;refine bx 3006 ?_;refine bx 3007 ?_;refine ev ?_;apply sq<;>intro h1 h1p h1s;try simp only[Q] at h1p
 exfalso;omega;apply sq<;>intro h2 h2p h2s;try simp only[Q] at h2p
 exfalso;omega;refine sqF ?_;apply sq<;>intro h4 h4p h4s;try simp only[Q] at h4p
 exfalso;omega;apply sq<;>intro h5 h5p h5s;apply sq<;>intro h6 h6p h6s;refine si [0] [_] sl72 tz74 ?_;refine ev (rq ?_);rotate_left;focus (exfalso;first|omega|(simp_all;done))
 try simp only[Q] at h5p
 exfalso;omega;all_goals (first|rfl|(cases a;rfl))
theorem zr7 (hs:Spa w){n m:Nat} (hn:n+1<=10) (hm:m+1<=11) (hnm:n<m)
  (ih:∀ {ta tk:Int}{a b:Pat},InS (w.length*4) ⟨ta,tk⟩->zao w m ⟨ta,tk⟩ a=true->zao w n ⟨ta,tk⟩ b=true->MinusSp w n ta tk a b)
  {ta tk:Int}{a b:Pat} (ht:InS (w.length*4) ⟨ta,tk⟩) (ha:zao w (m+1) ⟨ta,tk⟩ a=true) (hb:zao w (n+1) ⟨ta,tk⟩ b=true) (h4:a.op=4) (h4b:b.op=4) (hc:a.ctor=b.ctor):MinusSp w (n+1) ta tk a b:=by
 have hki:=zo2 hs hn hm hnm ih ht ha hb h4 h4b hc;clear ih;unfold MinusSp;refine bd Tryz.f257 82 [] [] fun _ _ _ _ hk=>?_;refine bx 3005 ?_;refine bx 3006 ?_;refine bx 3007 ?_;refine ev ?_;apply sq<;>intro h1 h1p h1s;try simp only[Q] at h1p
 exfalso;omega;apply sq<;>intro h2 h2p h2s;try simp only[Q] at h2p
 exfalso;omega;refine sqF ?_;apply sq<;>intro h4 h4p h4s;try simp only[Q] at h4p
 exfalso;omega;apply sq<;>intro h5 h5p h5s;apply sq<;>intro h6 h6p h6s;focus (exfalso;first|omega|(simp_all;done))
 apply sq<;>intro h7 h7p h7s;refine wc zyw hki Z Z ?_;refine ev ?_;focus (refine rq ?_;all_goals (rfl))
 try simp only[Q] at h7p
 exfalso;omega;try simp only[Q] at h5p
 exfalso;omega
theorem zr6 (hs:Spa w){n:Nat}{ta tk:Int}{a b:Pat} (ht:InS (w.length*4) ⟨ta,tk⟩) (h1:a.op=1) (h4b:b.op=4) (hbd:(zau w (n+1) ⟨ta,tk⟩ a b).length<=20000000)
  (hC:∀c∈zas w ⟨ta,tk⟩,MinusSp w (n+1) ta tk (zco w ⟨ta,tk⟩ c) b):MinusSp w (n+1) ta tk a b:=by
 have e:zau w (n+1) ⟨ta,tk⟩ a b=(zas w ⟨ta,tk⟩).flatMap fun c=>zau w (n+1) ⟨ta,tk⟩ (zco w ⟨ta,tk⟩ c) b:=by
  rw[zi4 h4b h1];exact xam (fun g=>(zas w ⟨ta,tk⟩).flatMap g) (funext fun c=>(ze0 h4b Z).symm)
 unfold MinusSp;rw[e] at hbd ⊢;have hcl:=(hs.ctors _ ht).1;have hpre:∀ {pre rest:List Int}{y:Int},pre++y::rest=zas w ⟨ta,tk⟩->(pre.flatMap fun c=>zau w (n+1) ⟨ta,tk⟩ (zco w ⟨ta,tk⟩ c) b).length+(zau w (n+1) ⟨ta,tk⟩ (zco w ⟨ta,tk⟩ y) b).length<=20000000:=fun h=>by
  rw[<-h,List.flatMap_append,List.flatMap_cons] at hbd;simp only[xaa] at hbd;omega
 have hmem:∀ {pre rest:List Int}{y:Int},pre++y::rest=zas w ⟨ta,tk⟩->y∈zas w ⟨ta,tk⟩:=fun h=>by rw[<-h];simp
 refine bd Tryz.f257 82 [] [] fun _ _ _ _ hk=>?_;refine bx 3005 ?_;refine bx 3006 ?_;refine bx 3007 ?_;refine ev ?_;apply sq<;>intro h1 h1p h1s;try simp only[Q,xa3] at h1p
 exfalso;omega;apply sq<;>intro h2 h2p h2s;try simp only[Q,xa3] at h2p
 exfalso;omega;refine sqF ?_;apply sq<;>intro h4 h4p h4s;try simp only[Q,xa3] at h4p
 exfalso;omega;apply sq<;>intro h5 h5p h5s;try simp only[Q,xa3] at h5p
 exfalso;omega;refine sqF ?_;apply sq<;>intro h7 h7p h7s;try simp only[Q,xa3] at h7p
 exfalso;omega;refine xb8 9 sl72 .none Z Z (ev (wc zfL (zb5 hs.dp.wt (zc2 ht)) Z Z ?_));refine ev (xaB (ι:=List (Int)×List (Int)) hk (fun x=>[(11,.d (.i (x.1.length:Int))),(9,.gl 9 (Pat.cs (x.1.flatMap fun c=>zau w (n+1) ⟨ta,tk⟩ (zco w ⟨ta,tk⟩ c) b)))]) [62,63,64,65,66,67,68,69,70,71,72,73,74,75,76,77,78,79,80] (fun x=>[(9,some (.tok ((Pat.cs (x.1.flatMap fun c=>zau w (n+1) ⟨ta,tk⟩ (zco w ⟨ta,tk⟩ c) b))).length 6))]) (fun x=>x.1++x.2=zas w ⟨ta,tk⟩) (fun x=>x.2.length) ([],zas w ⟨ta,tk⟩) oi ⟨⟨_,Z,xaU ?_⟩,⟨⟨_,Z,LeA.glg ?_⟩,O⟩⟩ ⟨zac ?_,O⟩ (fun x=>rfl) (fun x hg1=>?_));iterate 3 focus (rfl)
 obtain⟨pre,rest⟩:=x;dsimp only at hg1 ⊢;refine evc [] [] ?_;apply sq<;>intro h8 h8p h8s<;>(try simp only[Q,xa3] at h8p);rcases rest with _|⟨y,rest⟩
 ·exfalso;simp_all
 refine ixq sl37 Z Z Z (zaA hg1) Z (evd [] [] (wc zyx (zqh hs.dp.wt (zc2 ht) (hmem hg1) (hs.args _ _ ht (hmem hg1))) Z Z ?_));refine evd [] [] (wc zqW (hC y (hmem hg1)) Z Z ?_);refine ap sl72 zz74 Z Z Z (by exact zcv _) (by have h9:=hpre hg1;simp only[xa3];omega) ?_;refine evd [] [] (dr (ar (xaj ((pre++[y],rest)) ⟨(by have hz:=hg1;rw[<-hz];simp),oi,sx ⟨⟨_,Z,xaU ?_⟩,⟨⟨_,Z,LeA.glg ?_⟩,O⟩⟩ ⟨zac ?_,O⟩⟩)));iterate 3 focus (first|(rw[List.flatMap_append,xa1,xa1,xa1,xag];simp;done)|(simp[xa3];done))
 have hrest:rest=[]:=by
  rcases rest with _|⟨a,b⟩
  ·rfl
  ·exfalso;have hz:=xam List.length (hg1);simp only[xaa,xab,xac] at hz;omega
 subst hrest;refine rn0 (r1 Z) (.gld ?_);rotate_left;all_goals ((rw[xaq] at hg1;rw[hg1];done))
theorem zis (hs:Spa w):∀(n m:Nat){ta tk:Int}{a b:Pat},n<m->n<=10->m<=11->InS (w.length*4) ⟨ta,tk⟩->zao w m ⟨ta,tk⟩ a=true->zao w n ⟨ta,tk⟩ b=true->MinusSp w n ta tk a b
 |0,m,ta,tk,a,b,_,_,_,_,_,hb=>by simp[zao] at hb
 |n+1,0,ta,tk,a,b,h,_,_,_,_,_=>by omega
 |n+1,m+1,ta,tk,a,b,h,hn,hm,ht,ha,hb=>by
  have hC:∀ {a:Pat},zao w (m+1) ⟨ta,tk⟩ a=true->a.op=4->b.op=4->MinusSp w (n+1) ta tk a b:=fun {a} ha h4 h4b=>by
   by_cases hc:a.ctor=b.ctor
   ·exact zr7 hs hn hm od (fun h1 h2 h3=>zis hs n m od od od h1 h2 h3) ht ha hb h4 h4b hc
   ·exact zr8 h4 h4b hc
  rcases zcm hb with h1|h3|h4b
  ·exact zr4 h1
  ·have:=zcG hb h3;refine zr5 h3 ?_ ⟨by omega,by omega⟩ ⟨by omega,by omega⟩;by_cases h1:a.op=1
   ·exact .inl h1
   ·exact .inr (by have:=zep ha hb h1 od;omega)
  ·by_cases h1:a.op=1
   ·obtain⟨m',rfl⟩:∃m',m=m'+1:=⟨m-1,by omega⟩;exact zr6 hs ht h1 h4b (zgi hs h hn ht ha hb) (fun c hc=>hC (zeq hc) Z h4b)
   ·exact hC ha (by have:=zep ha hb h1 od;omega) h4b
end
theorem FnD.boxD {P:Program}{f:FuncId}{i n k:Nat}{args:List AV}{cs:List AV}{es:List (List D)} (hc:zbS n k (cs.take (n*k))=some es) (h:FnD P f args [] (.ms i n) [(i,some (.box cs))]):FnD P f args [] (.d (.sl es)) []:=by
 intro G w vals hok;refine(h G w vals hok).mono ?_;rintro e w' ⟨v,r',hp',G',rfl,⟨rfl,rfl⟩,hret⟩
 have gi:getH ([(i,some (Res.box cs))]++[]) i=some (.box cs):=by simp[getH]
 obtain⟨b,us,et,q1,q2,q3,q4,q5⟩:=hret.heap i _ gi;have hown:∀b,b∉zcQ G []:=fun b hb=>by simp[zcQ] at hb
 have hnew:w.heap.size<=b:=(hret.new i (by rw[gi];rfl) b (by rw[q1];simp)).resolve_left (hown b);have hlt:b<w'.heap.size:=by
  rcases Nat.lt_or_ge b w'.heap.size with h|h
  ·exact h
  ·rw[Array.getElem?_eq_none h] at q2;cases q2
 let G2:Gh:={ G' with F:=fun x=>bif Nat.beq x b then us.size else G'.F x }
 have hin:G2.F b=us.size:=by simp[G2]
 have hout:∀x,x≠b->G2.F x=G'.F x:=fun x hx=>by
  have:Nat.beq x b=false:=by
   cases h:Nat.beq x b with
   |true=>exact absurd (xap h) hx
   |false=>rfl
  simp[G2,this]
 have hle:∀x o,o<G'.F x->o<G2.F x:=fun x o ho=>by
  by_cases hx:x=b
  ·subst hx;rw[q4] at ho;omega
  ·rw[hout x hx];exact ho
 refine⟨v,_,_,G2,rfl,⟨rfl,rfl⟩,zw8 hret.res q1 q2 q3 q5 hin (fun y o ho=>⟨hle y o ho,rfl⟩) hc,fun id x hx=>(by cases hx),fun id id' h1=>(by cases h1),fun id h1=>(by cases h1), ?_,fun x hx=>?_,fun id hi=>(by simp[zcp,getH] at hi)⟩
 ·have hf:=hret.frm;exact⟨hf.os,hf.tape,hf.output,hf.size,fun x hx hn=>⟨(hf.block x hx hn).1,by rw[hout x od];exact(hf.block x hx hn).2⟩,fun x o ho=>⟨hle x o (hf.cell x o ho).1,(hf.cell x o ho).2⟩⟩
 ·rw[hout x od];exact hret.top x hx
def pd (s:List Pat):List AV:=(s.map Pat.cc).flatten.map .d
theorem zfE (a b:List Pat):pd (a++b)=pd a++pd b:=by simp[pd]
theorem znO (x:Pat):pd [x]=[.d (.i x.op),.d (.i x.ctor),.d (.i x.n),.d (.i x.m),.d (.i x.var),.d (zak x.kids)]:=rfl
theorem zi7 (s:List Pat):(pd s).length=s.length*6:=by
 induction s with
 |nil=>rfl
 |cons x r ih=>rw[show x::r=[x]++r from rfl,zfE,xaa,ih,znO];simp;omega
theorem zrJ {s:List Pat}{i:Nat} (h:i<s.length):pd s=pd (s.take i)++(pd [nth s i]++pd (s.drop (i+1))):=by
 rw[<-zfE,<-zfE];congr 1
 rw[show [nth s i]++s.drop (i+1)=nth s i::s.drop (i+1) from rfl,<-zaF h,List.take_append_drop]
theorem zi6 (s:List Pat):AV.idsL (pd s)=[]:=by
 unfold pd;induction (s.map Pat.cc).flatten with
 |nil=>rfl
 |cons x r ih=>rw[xaf,AV.idsL,ih];rfl
theorem zu5 {s:List Pat}{i:Nat} (h:i<s.length):cutC (pd s) (i*6) 6=some [.d (.i (nth s i).op),.d (.i (nth s i).ctor),.d (.i (nth s i).n),.d (.i (nth s i).m),.d (.i (nth s i).var),.d (zak (nth s i).kids)]:=by
 rw[zrJ h,zuB (by rw[zi7,List.length_take];omega) (r:=pd [nth s i])]
 ·rfl
 ·rw[znO];first|exact zw5|(simp[cutC];done)
theorem zyO {s:List Pat}{i:Nat} (h:i<s.length){t:Pat}:putC (pd s) (i*6) [.d (.i t.op),.d (.i t.ctor),.d (.i t.n),.d (.i t.m),.d (.i t.var),.d (zak t.kids)]=some (pd (s.set i t)):=by
 rw[zrJ h,zu8 (by rw[zi7,List.length_take];omega) (B':=pd [t]++pd (s.drop (i+1))) (by rw[znO,znO];simp[putC])];rw[List.set_eq_take_append_cons_drop,if_pos h,<-zfE,<-zfE];rfl
abbrev z6:List AV:=[.d (.i 0),.d (.i 0),.d (.i 0),.d (.i 0),.d (.i 0),.nils]
theorem zxo {s:List Pat}{i n:Nat} (hn:s.length=n) (h:i<=n):putC (pd s) (i*6) (zbd (n-i) z6)=some (pd (s.take i)++zbd (n-i) z6):=by
 subst hn;have e:pd s=pd (s.take i)++(pd (s.drop i)++[]):=by
  rw[xaq,<-zfE,List.take_append_drop]
 have e2:putC (pd (s.take i)++(pd (s.drop i)++[])) (i*6) (zbd (s.length-i) z6)=some (pd (s.take i)++(zbd (s.length-i) z6++[])):=by
  rw[zrS (by rw[zi7,List.length_take];omega) ?_];rw[zi7,List.length_drop,zfa];rfl
 rw[<-e,xaq] at e2;exact e2
theorem zvZ {s:List Pat}{tl:List AV}:zbS s.length 6 ((pd s++tl).take (s.length*6))=some (s.map Pat.cc):=by
 rw[List.take_append_of_le_length (by rw[zi7];exact Nat.le_refl _),List.take_of_length_le (by rw[zi7];exact Nat.le_refl _)];have:=zel (f:=Pat.cc) (k:=6) (l:=s) (fun _ _=>rfl);rw[<-this];congr 1
 unfold pd;induction s with
 |nil=>rfl
 |cons x r ih=>
  simp only[xaf,List.flatten_cons,xag,List.flatMap_cons];exact xam (_++·) (ih (zel (fun _ _=>rfl)))
theorem zfj {xs:List Pat}{f:Nat}{B2 B3:List AV}{p:Pat->Bool} (hs:xs.length<=1000000000000) (hcal:Callee Tryz.prog f) (hB2:AV.idsL B2=[]) (hB3:AV.idsL B3=[])
  (hf:∀t∈xs,FnD Tryz.prog f [.agg [.d (.i t.op),.d (.i t.ctor),.d (.i t.n),.d (.i t.m),.d (.i t.var),.d (zak t.kids)],.ref 3003 0,.ref 3004 0] [(3003,some (.box B2)),(3004,some (.box B3))] (.d (.bool (p t))) []):
  FnD Tryz.prog 224 [.ms 1 xs.length,.fn f [.ref 3003 0,.ref 3004 0]] [(1,some (.box (pd xs))),(3003,some (.box B2)),(3004,some (.box B3))] (.d (.i (idxF p xs 0))) []:=by
 refine bd Tryz.f224 19 [15] [] fun _ _ _ _ hk=>?_;refine xaB (ι:=Nat) hk (fun i=>[(8,.d (.i (i:Int)))]) [4,5,9,10,11,12,13,14,15,16,17,18] (fun i=>[]) (fun i=>i<=xs.length/\idxF p (xs.drop i) i=idxF p xs 0) (fun i=>xs.length-i) 0 ⟨by omega,Z⟩ ⟨⟨_,Z,xaU ?_⟩,O⟩ O (fun x=>rfl) (fun i hg1=>?_);focus (rfl)
 refine evc [15] [] ?_;apply sq<;>intro h1 h1p h1s<;>(try simp only[Q] at h1p);refine xbM sl72 .none Z Z Z Z (by first|omega|(simp ;omega)) ?_;refine xbS ty74 .none Z Z Z ((zu5 od)) ?_;refine xbw (cr:=[]) hcal (hf (nth xs i) (zaf od)) Z .none Z Z Z (LeL.refl _) ⟨Z,Z,O⟩ Z (by simp only[zaH,List.all_cons,List.all_nil,zbo,za8,AV.idsL,AV.ids,hB2,hB3,xaf,List.map_nil];rfl) Z ?_;apply tv;apply sq<;>intro h2 h2p h2s<;>(try simp only[Q] at h2p);focus (refine rn [] (r1 Z) (.eqd ?_) ⟨Z,Z⟩ (SubH.get ⟨Z,⟨Z,⟨Z,O⟩⟩⟩) (fun _ h=>h);all_goals ((rw[<-hg1.2,zaF od];simp[idxF,h1s,h1p,h2s,h2p];done)))
 refine ar (xaj (i+1) ⟨⟨by omega,(by rw[<-hg1.2,zaF (l:=xs) (i:=i) od];simp_all[idxF])⟩,od,sx ⟨⟨_,Z,xaU ?_⟩,O⟩ O⟩);focus (rfl)
 focus (refine rn [] (r1 Z) (.eqd ?_) ⟨Z,Z⟩ (SubH.get ⟨Z,⟨Z,⟨Z,O⟩⟩⟩) (fun _ h=>h);all_goals ((rw[<-hg1.2,List.drop_eq_nil_of_le od];rfl)))
theorem zh5 {xs:List Pat}{f:Nat}{B2 B3:List AV}{p:Pat->Bool} (hs:xs.length<=1000000000000) (hcal:Callee Tryz.prog f) (hB2:AV.idsL B2=[]) (hB3:AV.idsL B3=[])
  (hf:∀t∈xs,FnD Tryz.prog f [.agg [.d (.i t.op),.d (.i t.ctor),.d (.i t.n),.d (.i t.m),.d (.i t.var),.d (zak t.kids)],.ref 3003 0,.ref 3004 0] [(3003,some (.box B2)),(3004,some (.box B3))] (.d (.bool (p t))) []):
  ∃tl:List AV,AV.idsL tl=[]/\FnD Tryz.prog 216 [.ms 1 xs.length,.fn f [.ref 3003 0,.ref 3004 0]] [(1,some (.box (pd xs))),(3003,some (.box B2)),(3004,some (.box B3))]
   (.ms 1 (xs.filter fun t=> !p t).length) [(1,some (.box (pd (xs.filter fun t=> !p t)++tl)))]:=by
 have hok3:zaH [(1,some (.box (pd xs))),(3003,some (.box B2)),(3004,some (.box B3))] [] (.d .nilp) []=true:=by
  simp only[zaH,List.all_cons,List.all_nil,zbo,za8,AV.idsL,AV.ids,zi6,hB2,hB3,xaf,List.map_nil];rfl
 rcases zps p xs 0 with ⟨hi,hall⟩|⟨k,hi,hk1,hk2⟩
 ·have hfil:(xs.filter fun t=> !p t)=xs:=List.filter_eq_self.2 (fun x hx=>by simp[hall x hx]);refine⟨[],rfl, ?_⟩;rw[hfil,xaq];refine bd Tryz.f216 42 [] [] fun _ _ _ _ hk=>?_;refine Walk.call (cr:=[]) zmX (zfj hs hcal hB2 hB3 hf) Z .none Z Z (.cons (xaX ow) (.cons (.refl _) .nil)) ⟨Z,Z,Z,O⟩ Z (zcE hok3 _) Z ?_;refine ev ?_;apply sq<;>intro h1 h1p h1s<;>(try simp only[Q] at h1p);refine rn [(1,some (.box (pd xs)))] (r1 Z) (.refl _) ⟨Z,Z⟩ (SubO.get ⟨.inr ?_,⟨.inl Z,⟨.inr Z,⟨.inr Z,O⟩⟩⟩⟩) (zaQ Z);rotate_left;exfalso;simp[hi] at h1;all_goals (((first|rfl|(simp;done));done))
 ·skip
  have hlen:(xs.filter fun t=> !p t).length<=xs.length:=List.length_filter_le _ _;refine⟨zbd (xs.length-(xs.filter fun t=> !p t).length) z6,zjV rfl, ?_⟩;refine bd Tryz.f216 42 [25] [] fun _ _ _ _ hk=>?_;refine Walk.call (cr:=[]) zmX (zfj hs hcal hB2 hB3 hf) Z .none Z Z (.cons (xaX ow) (.cons (.refl _) .nil)) ⟨Z,Z,Z,O⟩ Z (zcE hok3 _) Z ?_;refine evs [25] [] ?_;apply sq<;>intro h1 h1p h1s<;>(try simp only[Q] at h1p);exfalso;simp[hi] at h1<;>omega;refine ar (xaB (ι:=List Pat×Nat×Nat) hk (fun x=>[(6,.d (.i (x.2.1:Int))),(5,.d (.i (x.2.2:Int)))]) [7,16,17,18,19,20,21,22,23,24,25,26,27,28,29,30,31,32,33,34,35] (fun x=>[(1,some (.box (pd x.1)))]) (fun x=>x.1.length=xs.length/\x.2.1<=xs.length/\x.2.2<=x.2.1/\x.1.take x.2.2=(xs.take x.2.1).filter (fun t=> !p t)/\x.1.drop x.2.1=xs.drop x.2.1) (fun x=>xs.length-x.2.1) (xs,k+1,k) ⟨Z,by dsimp only;omega,by dsimp only;omega,hk2.symm,Z⟩ ⟨⟨_,Z,xaU ?_⟩,⟨⟨_,Z,xaU ?_⟩,O⟩⟩ ⟨?_,O⟩ (fun x=>rfl) (fun x hg1=>?_));iterate 2 focus ((simp_all;done))
  focus (rfl)
  refine evc [25] [] ?_;apply sq<;>intro h2 h2p h2s<;>(try simp only[Q] at h2p);refine xbM sl72 .none Z Z Z Z (by first|omega|(simp ;omega)) ?_;refine xbS ty74 .none Z Z Z (((zu5 (s:=x.1) od).trans (by rw[zsw hg1.2.2.2.2 hg1.1 od]))) ?_;refine Walk.alloc (id:=3007) tz74 Z .none Z (by(simp only[zam,occH,occE,Res.ids,xai,List.nil_append,AV.idsL,AV.ids,zab,zaa,zag,zaq,xaf,List.map_nil,upC,hB2,hB3,zi6];rfl)) (by(simp only[zam,occH,occE,Res.ids,xai,List.nil_append,AV.idsL,AV.ids,zab,zaa,zag,zaq,xaf,List.map_nil,upC,hB2,hB3,zi6];rfl)) (by(simp only[zam,occH,occE,Res.ids,xai,List.nil_append,AV.idsL,AV.ids,zab,zaa,zag,zaq,xaf,List.map_nil,upC,hB2,hB3,zi6];rfl)) (so ty74 ?_);apply tv;refine xbw (cr:=[]) hcal (hf (nth xs x.2.1) (zaf od)) Z .none Z Z Z (LeL.refl _) ⟨Z,Z,O⟩ Z (by simp only[zaH,List.all_cons,List.all_nil,zbo,za8,AV.idsL,AV.ids,hB2,hB3,xaf,List.map_nil];rfl) Z ?_;refine evs [25] [] ?_;apply sq<;>intro h3 h3p h3s<;>(try simp only[Q] at h3p);refine xbM sl72 .none Z Z Z Z (by first|omega|(simp ;omega)) ?_;refine Walk.store ty74 .none Z Z Z Z Z Z oi ((zyO od)) ?_;apply tv;refine ar (ar ?_);refine xaj ((if p (nth xs x.2.1) then x.1 else x.1.set x.2.2 (nth xs x.2.1),x.2.1+1,if p (nth xs x.2.1) then x.2.2 else x.2.2+1)) ⟨(by
      obtain⟨g1,g2,g3,g4,g5⟩:=hg1;have hlt:x.2.1<xs.length:=by omega
      have h7:=zhG (p:=fun t=> !p t) hlt;refine⟨by dsimp only;split<;>simp[g1],by dsimp only;omega,by dsimp only;split<;>omega, ?_, ?_⟩
      ·dsimp only;rw[h7,<-g4];cases hp:p (nth xs x.2.1) with
       |true=>simp
       |false=>simp only[Bool.false_eq_true,if_false,Bool.not_false,if_true];rw[zj6 od]
      ·dsimp only;split
       ·exact zib g5
       ·(rw[zp3 g3];exact zib g5)),ox,sx ⟨⟨_,rfl,xaU ?_⟩,⟨⟨_,rfl,xaU ?_⟩,trivial⟩⟩ ⟨?_,trivial⟩⟩
  iterate 2 focus ((simp_all;done))
  focus ((show some (Res.box _)=some (Res.box _);dsimp only;split<;>first|rfl|(exfalso;simp_all;done)))
  refine ar ?_;refine xaj ((if p (nth xs x.2.1) then x.1 else x.1.set x.2.2 (nth xs x.2.1),x.2.1+1,if p (nth xs x.2.1) then x.2.2 else x.2.2+1)) ⟨(by
      obtain⟨g1,g2,g3,g4,g5⟩:=hg1;have hlt:x.2.1<xs.length:=by omega
      have h7:=zhG (p:=fun t=> !p t) hlt;refine⟨by dsimp only;split<;>simp[g1],by dsimp only;omega,by dsimp only;split<;>omega, ?_, ?_⟩
      ·dsimp only;rw[h7,<-g4];cases hp:p (nth xs x.2.1) with
       |true=>simp
       |false=>simp only[Bool.false_eq_true,if_false,Bool.not_false,if_true];rw[zj6 od]
      ·dsimp only;split
       ·exact zib g5
       ·exact zib g5),ox,sx ⟨⟨_,rfl,xaU ?_⟩,⟨⟨_,rfl,xaU ?_⟩,trivial⟩⟩ ⟨?_,trivial⟩⟩
  iterate 2 focus ((simp_all;done))
  focus ((show some (Res.box _)=some (Res.box _);dsimp only;split<;>first|rfl|(exfalso;simp_all;done)))
  refine Walk.cutM_l sl72 .none Z Z Z Z od ?_;refine Walk.clearB sl72 tz74 Z om Z .none Z Z (zxo hg1.1 od) ?_;apply tv;refine Walk.cutM_h sl72 .none Z Z Z Z od ?_;refine evs [25] [] (rn [(1,some (.box (pd (xs.filter fun t=> !p t)++zbd (xs.length-(xs.filter fun t=> !p t).length) z6)))] (r1 Z) (xaX ?_) ⟨Z,Z⟩ (SubO.get ⟨.inr ?_,⟨.inl Z,⟨.inr Z,⟨.inr Z,O⟩⟩⟩⟩) (zaQ Z));rotate_left 2;all_goals (first|((first|rfl|(obtain⟨g1,g2,g3,g4,g5⟩:=hg1;have e:x.2.1=xs.length:=od;rw[e,List.take_length] at g4;rw[<-g4,List.length_take];omega));done)|((obtain⟨g1,g2,g3,g4,g5⟩:=hg1;have e:x.2.1=xs.length:=od;rw[e,List.take_length] at g4;have e2:(xs.filter fun t=> !p t).length=x.2.2:=(by rw[<-g4,List.length_take];omega);rw[e2,<-g4];rfl)))
theorem zhk {f:Nat}{caps:List AV}{hp:Hp} (hcal:Callee Tryz.prog f) (k1:subH hp hp) (k2:zdJ hp=true) (k3:zaH hp [] (.d .nilp) []=true):
  FnD Tryz.prog 216 [.d (.sl []),.fn f caps] hp (.d (.sl [])) []:=by
 have hz:=zfb (xs:=[]) (p:=fun _=>false) (f:=f) (caps:=caps) (hp:=hp) oi hcal (fun t ht=>by simp at ht) k1 k2 k3;refine bd Tryz.f216 42 [] [] fun _ _ _ _ hk=>?_;refine Walk.call (cr:=[]) zmX hz Z .none Z Z (LeL.refl _) k1 k2 (zcE k3 _) Z (ev ?_);apply sq<;>intro h1 h1p h1s<;>(try simp only[Q] at h1p);focus (refine rn [] (r1 Z) (.eqd ?_) ⟨Z,Z⟩ (fun _ _ h=>h) (fun _ h=>h);all_goals (rfl))
 exfalso;simp[idxF] at h1
theorem zkU {xs:List Pat} (hs:xs.length<=1000000000000) (hne:xs≠[]):FnD Tryz.prog 197 [.d (zak xs)] [] (.ms 1 xs.length) [(1,some (.box (pd xs)))]:=by
 have hcs:Pat.cs xs≠[]:=fun h=>hne ((Pat.cs_nil xs).1 h);refine Fn.body (fn:=Tryz.f197) (n:=8) Z Z Z Z Z (fun _ _ _ _ hk=>?_);refine xaD 0 Z (fun hx0=>?_) ?_;refine evc [4] [] (xbH sl72 .none Z Z ?_);apply tv;refine sqT ?_;exfalso;exact hcs hx0;refine evc [4] [] (xbG sl72 .none Z Z ?_);apply tv;refine sqF ?_;refine xca 1 sl72 .none Z Z (evs [4] [] (xbp hk Z (by simp[hcs]) sl72 zz74 .none Z Z Z Z (za3 Z o8) (by intro y hy;rw[xa1] at hy;obtain⟨z,_,rfl⟩:=List.mem_map.1 hy;rfl) ud ud ?_));refine evs [4] [] (rn [(1,some (.box (pd xs)))] (r1 Z) (xaX ?_) ⟨Z,Z⟩ (SubH.get ⟨?_,O⟩) (zaQ Z));rotate_left 2;all_goals (first|((first|rfl|(simp[xa3];done));done)|(first|rfl|(show some (Res.box _)=some (Res.box _);unfold pd;rw[<-xa1];rfl)))
theorem zmi {w:List Data} (hs:Spa w){ta tk:Int} (ht:InS (w.length*4) ⟨ta,tk⟩){p:Pat} (hp:zao w 11 ⟨ta,tk⟩ p=true):
  FnD Tryz.prog 217 [.agg [.d (.i p.op),.d (.i p.ctor),.d (.i p.n),.d (.i p.m),.d (.i p.var),.d (zak p.kids)],.ref 3003 0,.ref 3004 0] [(3003,some (.box [.d (sPtr w (zaX w))])),(3004,some (.box [.d (.i ta),.d (.i tk)]))] (.d (.bool (za7 w (zaX w) 11 ⟨ta,tk⟩ p))) []:=by
 refine bd Tryz.f217 9 [] [] fun _ _ _ _ hk=>?_;refine bx 3001 ?_;refine ev (wc zhC (zc1 hs.dp 11 (zhe _ hp) ht (zhv hs 11 ht hp).1) Z Z ?_);refine ev ?_;focus (refine rn [] (r1 Z) (.eqd ?_) ⟨Z,Z⟩ (SubH.get ⟨Z,⟨Z,O⟩⟩) (fun _ h=>h);all_goals (rfl))
theorem zi0 {w:List Data} (hs:Spa w){ta tk:Int} (ht:InS (w.length*4) ⟨ta,tk⟩){l:List Pat} (hl:∀a∈l,zao w 11 ⟨ta,tk⟩ a=true) (hb:l.length<=1000000000000):
  FnD Tryz.prog 169 [.d (sPtr w (zaX w)),.agg [.d (.i ta),.d (.i tk)],.d (zak l)] [] (.d (zak (l.filter (zbW w ⟨ta,tk⟩)))) []:=by
 by_cases hne:l=[]
 ·subst hne;have hcl:FnD Tryz.prog 197 [.d (.sl [])] [] (.d (.sl [])) []:=(zf7 (xs:=[]) oi).glD;refine bd Tryz.f169 11 [] [] fun _ _ _ _ hk=>?_;refine bx 3003 ?_;refine bx 3004 ?_;refine ev (wc zqP hcl Z Z ?_);refine xby (xs:=[_,_]) Z .none Z Z (Walk.call (cr:=[]) zue (zhk (hp:=[(3003,some (.box [.d (sPtr w (zaX w))])),(3004,some (.box [.d (.i ta),.d (.i tk)]))]) zuf ⟨Z,Z,O⟩ Z Z) Z .none Z Z (LeL.refl _) ⟨Z,Z,O⟩ Z Z Z (ev ?_));focus (refine rq ?_;all_goals (rfl))
 ·obtain⟨tl,htl,hdel⟩:=zh5 (xs:=l) (p:=fun a=>za7 w (zaX w) 11 ⟨ta,tk⟩ a) hb zuf (B2:=[.d (sPtr w (zaX w))]) (B3:=[.d (.i ta),.d (.i tk)]) rfl rfl (fun a ha=>zmi hs ht (hl a ha));have key:FnD Tryz.prog 169 [.d (sPtr w (zaX w)),.agg [.d (.i ta),.d (.i tk)],.d (zak l)] [] (.ms 1 (l.filter (zbW w ⟨ta,tk⟩)).length) [(1,some (.box (pd (l.filter (zbW w ⟨ta,tk⟩))++tl)))]:=by
   refine bd Tryz.f169 11 [] [] fun _ _ _ _ hk=>?_;refine bx 3003 ?_;refine bx 3004 ?_;refine ev (Walk.call (cr:=[1]) zqP (zkU hb hne) Z .none Z Z (LeL.refl _) O Z (by simp only[zaH,List.all_cons,List.all_nil,zbo,za8,AV.idsL,AV.ids,zi6,zab,htl,xaf,List.map_nil];rfl) Z ?_);refine xby (xs:=[_,_]) Z .none Z Z (Walk.call (cr:=[]) zue hdel Z .none Z Z (.cons (xaX ow) (.cons (.refl _) .nil)) ⟨Z,Z,Z,O⟩ Z (by simp only[zaH,List.all_cons,List.all_nil,zbo,za8,AV.idsL,AV.ids,zi6,zab,htl,xaf,List.map_nil];rfl) Z ?_);refine ev (rn [(1,some (.box (pd (l.filter (zbW w ⟨ta,tk⟩))++tl)))] (r1 Z) (xaX ?_) ⟨Z,Z⟩ (SubH.get ⟨?_,O⟩) (zaQ Z));rotate_left 2;all_goals (first|((rfl);done)|(rfl))
  have h2:=key.boxD (k:=6) zvZ;rw[<-xa1] at h2;exact h2
theorem zoB {α β:Type}{g:α->List β}{K:Nat}:∀(l:List α),(∀x∈l,(g x).length<=K)->(l.flatMap g).length<=l.length*K
 | [],_=>by simp
 |x::r,h=>by
  have h1:=h x oi;have h2:=zoB r (fun y hy=>h y (by simp[hy]));rw[List.flatMap_cons,xaa,xab,Nat.add_mul];omega
theorem zgP {w:List Data}{t:Ty}{l away:List Pat}{i:Nat} (h:i<away.length):subL w t l (away.drop i)=if (zcq w t l (nth away i)).length<=400 then subL w t (zcq w t l (nth away i)) (away.drop (i+1)) else none:=by
 rw[zaF h,subL]
theorem zr9 {w:List Data}{t:Ty}{l away:List Pat}{i:Nat} (h:away.length<=i):subL w t l (away.drop i)=some l:=by
 rw[List.drop_eq_nil_of_le h,subL]
def zbO:List Cl->List Pat->Option (List Pat)
 | [],out=>some out
 |c::r,out=>if c.g.op=0 then (if zdm c.pat=true then zbO r (out++zei c.pat) else none) else zbO r out
theorem zgr {l:List Cl}{out:List Pat}{i:Nat} (h:i<l.length) (hg:¬(nth l i).g.op=0):zbO (l.drop i) out=zbO (l.drop (i+1)) out:=by
 rw[zaF h,zbO,if_neg hg]
theorem zgp {l:List Cl}{out:List Pat}{i:Nat} (h:i<l.length) (hg:(nth l i).g.op=0) (hp:zdm (nth l i).pat=true):zbO (l.drop i) out=zbO (l.drop (i+1)) (out++zei (nth l i).pat):=by
 rw[zaF h,zbO,if_pos hg,if_pos hp]
theorem znb {l:List Cl}{out:List Pat}{i:Nat} (h:i<l.length) (hg:(nth l i).g.op=0) (hp:zdm (nth l i).pat=false):zbO (l.drop i) out=none:=by
 rw[zaF h,zbO,if_pos hg,if_neg (by rw[hp];simp)]
theorem znc {l:List Cl}{out:List Pat}{i:Nat} (h:l.length<=i):zbO (l.drop i) out=some out:=by
 rw[List.drop_eq_nil_of_le h,zbO]
theorem zhf (p:Pat):(zei p).length<=40:=by unfold zei;split;assumption;simp
theorem zsx {w:List Data}{t:Ty}{p:Pat} (h:zat w 10 t p=true):∀x∈zei p,zao w 10 t x=true:=fun x hx=>by
 unfold zei at hx;split at hx
 ·exact zhT 10 h x hx
 ·simp at hx
theorem zgq {w:List Data}{t:Ty}:∀(l:List Cl) (out r:List Pat),(∀c∈l,zat w 10 t c.pat=true)->(∀x∈out,zao w 10 t x=true)->zbO l out=some r->r.length<=out.length+40*l.length/\∀x∈r,zao w 10 t x=true
 | [],out,r,_,ho,h=>by rw[zbO] at h;cases h;exact⟨by simp,ho⟩
 |c::l,out,r,hc,ho,h=>by
  rw[zbO] at h;split at h
  ·split at h
   ·have:=zgq l _ r (fun x hx=>hc x (by simp[hx])) (fun x hx=>by
     rcases List.mem_append.1 hx with hx|hx
     ·exact ho x hx
     ·exact zsx (hc c oi) x hx) h
    have hl:=zhf c.pat;rw[xaa] at this;exact⟨by rw[xab];omega,this.2⟩
   ·cases h
  ·have:=zgq l _ r (fun x hx=>hc x (by simp[hx])) ho h;exact⟨by rw[xab];omega,this.2⟩
def ze1 (w:List Data) (t:Ty) (l:List Cl):Option (List Pat):=match zbO l [] with
 |none=>none
 |some away=>match zaR w t [anyQ] away with
  |none=>none
  |some r=>if r.all (isP w t)=true then some r else none
def zcd (w:List Data) (t:Ty) (l:List Cl):Option (List Pat):=if zaW w t l=true then ze1 w t l else none
theorem zg0 {w:List Data}{t:Ty}:∀(away l r:List Pat),(∀a∈l,zao w 11 t a=true)->l.length<=400->(∀b∈away,zao w 10 t b=true)->subL w t l away=some r->r.length<=400/\∀x∈r,zao w 11 t x=true
 | [],l,r,hl,hn,_,h=>by rw[subL] at h;cases h;exact⟨hn,hl⟩
 |b::away,l,r,hl,hn,hb,h=>by
  rw[subL] at h;split at h
  ·rename_i h4;exact zg0 away _ r (zha hl (hb b oi)) h4 (fun x hx=>hb x (by simp[hx])) h
  ·cases h
theorem znr {w:List Data} (hs:Spa w){ta tk:Int} (ht:InS (w.length*4) ⟨ta,tk⟩){l away:List Pat} (hl:∀a∈l,zao w 11 ⟨ta,tk⟩ a=true) (hb:∀b∈away,zao w 10 ⟨ta,tk⟩ b=true) (hll:l.length<=400) (hal:away.length<=2000):
  FnD Tryz.prog 114 [.d (sPtr w (zaX w)),.agg [.d (.i ta),.d (.i tk)],.d (zak l),.d (zak away)] [] (.tup [.d (zak ((zaR w ⟨ta,tk⟩ l away).getD [])),.d (.bool (zaR w ⟨ta,tk⟩ l away).isSome)]) []:=by
 have hlf:(l.filter (zbW w ⟨ta,tk⟩)).length<=l.length:=List.length_filter_le _ _;have hmb:∀(c:List Pat) (i:Nat),(∀a∈c,zao w 11 ⟨ta,tk⟩ a=true)->i<away.length->∀x∈c,(zau w 10 ⟨ta,tk⟩ x (nth away i)).length<=20000000:=fun c i hc hi x hx=>zgi hs od od ht (hc x hx) (hb _ (zaf hi));have hnp:∀(c:List Pat) (i:Nat),(∀a∈c,zao w 11 ⟨ta,tk⟩ a=true)->i<away.length->∀x∈(c.flatMap fun a=>zau w 10 ⟨ta,tk⟩ a (nth away i)),zao w 11 ⟨ta,tk⟩ x=true:=fun c i hc hi x hx=>by
  obtain⟨a,ha,hx⟩:=List.mem_flatMap.1 hx;exact zg9 10 11 od (hc a ha) (hb _ (zaf hi)) x hx
 have hpre:∀ {pre rest c:List Pat}{y:Pat} (i:Nat),(∀a∈c,zao w 11 ⟨ta,tk⟩ a=true)->c.length<=400->i<away.length->pre++y::rest=c->(pre.flatMap fun a=>zau w 10 ⟨ta,tk⟩ a (nth away i)).length<=8000000000/\(zau w 10 ⟨ta,tk⟩ y (nth away i)).length<=20000000:=fun {pre rest c y} i hc h4 hi h=>by
  have h1:=zoB (g:=fun a=>zau w 10 ⟨ta,tk⟩ a (nth away i)) (K:=20000000) pre (fun x hx=>hmb c i hc hi x (by rw[<-h];simp[hx]));have h2:=hmb c i hc hi y (by rw[<-h];simp);have h3:=xam List.length h;simp only[xaa,xab] at h3;exact⟨by omega,h2⟩
 refine bd Tryz.f114 48 [12] [11] fun _ _ _ _ hk=>?_;refine bx 3005 ?_;refine evs [12] [] (wc zt7 (zi0 hs ht hl od) Z Z ?_);refine evs [12] [] (xaB (ι:=Nat×List Pat) hk (fun s=>[(21,.d (.i (s.1:Int))),(2,.d (zak s.2))]) [8,9,11,12,14,22,23,24,25,26,27,28,29,30,31,32,33,34,35,36,37,38,39,40,41,42,43,44,45,46] (fun s=>[]) (fun s=>s.1<=away.length/\subL w ⟨ta,tk⟩ s.2 (away.drop s.1)=zaR w ⟨ta,tk⟩ l away/\(∀a∈s.2,zao w 11 ⟨ta,tk⟩ a=true)/\s.2.length<=400) (fun s=>away.length-s.1) (0,l.filter (zbW w ⟨ta,tk⟩)) ⟨by simp,Z,fun a ha=>hl a (List.mem_filter.1 ha).1,by dsimp only;omega⟩ ⟨⟨_,Z,xaU ?_⟩,⟨⟨_,Z, ?_⟩,O⟩⟩ O (fun x=>rfl) (fun s hg1=>?_));focus (rfl)
 focus (exact LeA.refl _)
 refine evc [12] [11] ?_;apply sq<;>intro h1 h1p h1s<;>(try simp only[Q,xa3] at h1p);refine ixq sl72 Z Z Z (zaE od) Z ?_;refine evs [12] [] (ab 3011 tz74 ?_);refine so ty74 ?_;apply tv;refine xbr 9 6 .none Z Z ?_;apply tv;refine xaB (ι:=List (Pat)×List (Pat)) hk (fun x=>[(27,.d (.i (x.1.length:Int))),(12,.gl 9 (Pat.cs (x.1.flatMap fun a=>zau w 10 ⟨ta,tk⟩ a (nth away s.1))))]) [14,28,29,30,31,32,33,34,35,36,37,38] (fun x=>[(9,some (.tok ((Pat.cs (x.1.flatMap fun a=>zau w 10 ⟨ta,tk⟩ a (nth away s.1)))).length 6))]) (fun x=>x.1++x.2=s.2) (fun x=>x.2.length) ([],s.2) oi ⟨⟨_,Z,xaU ?_⟩,⟨⟨_,Z,LeA.glg ?_⟩,O⟩⟩ ⟨zac ?_,O⟩ (fun x=>rfl) (fun x hg2=>?_);iterate 3 focus (rfl)
 obtain⟨pre,rest⟩:=x;dsimp only at hg2 ⊢;refine evc [12] [11] ?_;apply sq<;>intro h2 h2p h2s<;>(try simp only[Q,xa3] at h2p);rcases rest with _|⟨y,rest⟩
 ·exfalso;simp_all
 refine ixq sl72 Z Z Z (xaZ hg2) Z (evs [12] [] (ab 3014 tz74 ?_));refine so ty74 ?_;apply tv;refine wc zqL (zjZ hs 10 11 od od od ht (hg1.2.2.1 y (by rw[<-hg2];simp)) (hb _ (zaf od))) Z Z ?_;refine ap sl72 zz74 Z Z Z (by exact zcv _) (by have h9:=hpre s.1 hg1.2.2.1 hg1.2.2.2 od hg2;simp only[xa3];omega) ?_;refine asg ?_;apply tv;refine ar (xaj ((pre++[y],rest)) ⟨(by have hz:=hg2;rw[<-hz];simp),oi,sx ⟨⟨_,Z,xaU ?_⟩,⟨⟨_,Z,LeA.glg ?_⟩,O⟩⟩ ⟨zac ?_,O⟩⟩);iterate 3 focus (first|(rw[List.flatMap_append,xa1,xa1,xa1,xag];simp;done)|(simp[xa3];done))
 have hrest:rest=[]:=by
  rcases rest with _|⟨a,b⟩
  ·rfl
  ·exfalso;have hz:=xam List.length (hg2);simp only[xaa,xab,xac] at hz;omega
 subst hrest;obtain rfl:pre=s.2:=(by simpa using hg2);refine evc [12] [] (Walk.call (cr:=[]) zt7 (zi0 hs ht (l:=s.2.flatMap fun a=>zau w 10 ⟨ta,tk⟩ a (nth away s.1)) (hnp s.2 s.1 hg1.2.2.1 od) (by have:=zoB (g:=fun a=>zau w 10 ⟨ta,tk⟩ a (nth away s.1)) (K:=20000000) s.2 (hmb s.2 s.1 hg1.2.2.1 od);omega)) Z .none Z Z (.cons (.refl _) (.cons (.refl _) (.cons (.gl _ _) .nil))) O Z Z Z ?_);refine evs [12] [] ?_;apply sq<;>intro h3 h3p h3s<;>(try simp only[Q,xa3] at h3p);refine rn0 (r2 Z Z) (.tup (qne ?_ ?_));rotate_left 2;refine ar ?_;refine xaj ((s.1+1,zcq w ⟨ta,tk⟩ s.2 (nth away s.1))) ⟨(by
    have h4:(zcq w ⟨ta,tk⟩ s.2 (nth away s.1)).length<=400:=by unfold zcq;omega
    refine⟨by dsimp only;omega, ?_,zha hg1.2.2.1 (hb _ (zaf od)),h4⟩;have e:=zgP (w:=w) (t:=⟨ta,tk⟩) (l:=s.2) (away:=away) (i:=s.1) od;rw[if_pos h4] at e;dsimp only;rw[<-e];exact hg1.2.1),ox,sx ⟨⟨_,rfl,xaU ?_⟩,⟨⟨_,rfl, ?_⟩,trivial⟩⟩ trivial⟩
 focus (rfl)
 focus (exact LeA.refl _)
 refine rn0 (r2 Z Z) (.tup (qee ?_ ?_));rotate_left 2;all_goals (first|(rw[<-hg1.2.1,zgP od,if_neg (by unfold zcq;omega)];rfl)|(rw[<-hg1.2.1,zr9 od];rfl))
theorem zmf {w:List Data}{t:Ty}{l:List Cl} (hl:l.length<=8) (hc:∀c∈l,zat w 10 t c.pat=true/\c.pat.ok):
  FnD Tryz.prog 112 [.d (zcg l)] [] (.tup [.d (zak ((zbO l []).getD [])),.d (.bool (zbO l []).isSome)]) []:=by
 have hpl:=fun(i:Nat)=>zhf (nth l i).pat;refine bd Tryz.f112 32 [4] [] fun _ _ _ _ hk=>?_;refine xbr 9 6 .none Z Z ?_;apply tv;refine xaB (ι:=Nat×List Pat) hk (fun s=>[(11,.d (.i (s.1:Int))),(4,.gl 9 (Pat.cs s.2))]) [2,3,6,7,8,12,13,14,15,16,17,18,19,20,21,22,23,24,25,26,27,28,29,30] (fun s=>[(9,some (.tok ((Pat.cs s.2)).length 6))]) (fun s=>s.1<=l.length/\zbO (l.drop s.1) s.2=zbO l []/\s.2.length<=40*s.1) (fun s=>l.length-s.1) (0,[]) ⟨by simp,Z,by simp⟩ ⟨⟨_,Z,xaU ?_⟩,⟨⟨_,Z,LeA.glg ?_⟩,O⟩⟩ ⟨zac ?_,O⟩ (fun x=>rfl) (fun s hg1=>?_);iterate 3 focus (rfl)
 refine evc [4] [] ?_;apply sq<;>intro h1 h1p h1s<;>(try simp only[Q,xa3] at h1p);refine ixq sl32 Z Z Z (zah od) Z ?_;refine evs [4] [] (ab 3006 tz78 ?_);refine so ty78 ?_;apply tv;apply sq<;>intro h2 h2p h2s<;>(try simp only[Q,xa3] at h2p);refine ar ?_;refine xaj ((s.1+1,if (nth l s.1).g.op=0 then s.2++zei (nth l s.1).pat else s.2)) ⟨(by
    have h9:=hpl s.1;by_cases hz:(nth l s.1).g.op=0
    ·refine⟨by dsimp only;omega, ?_, ?_⟩
     ·dsimp only;rw[if_pos hz,<-zgp (out:=s.2) od hz o7];exact hg1.2.1
     ·dsimp only;rw[if_pos hz,xaa];omega
    ·refine⟨by dsimp only;omega, ?_, ?_⟩
     ·dsimp only;rw[if_neg hz,<-zgr (out:=s.2) od hz];exact hg1.2.1
     ·dsimp only;rw[if_neg hz];omega),ox,sx ⟨⟨_,rfl,xaU ?_⟩,⟨⟨_,rfl,LeA.glg ?_⟩,trivial⟩⟩ ⟨zac ?_,trivial⟩⟩
 iterate 3 focus (first|rfl|(rw[if_neg ol];done))
 refine wc zxY (zp6 (hc _ (zaf (i:=s.1) od)).1 (hc _ (zaf od)).2) Z Z ?_;refine evs [4] [] ?_;apply sq<;>intro h3 h3p h3s<;>(try simp only[Q,xa3] at h3p);refine rn0 (r2 Z Z) (.tup (qne ?_ ?_));rotate_left 2;refine ap sl72 zz74 Z Z Z (by exact zcv _) (by have:=hpl s.1;simp only[xa3];omega) ?_;refine asg ?_;apply tv;refine ar ?_;refine xaj ((s.1+1,if (nth l s.1).g.op=0 then s.2++zei (nth l s.1).pat else s.2)) ⟨(by
    have h9:=hpl s.1;by_cases hz:(nth l s.1).g.op=0
    ·refine⟨by dsimp only;omega, ?_, ?_⟩
     ·dsimp only;rw[if_pos hz,<-zgp (out:=s.2) od hz o7];exact hg1.2.1
     ·dsimp only;rw[if_pos hz,xaa];omega
    ·refine⟨by dsimp only;omega, ?_, ?_⟩
     ·dsimp only;rw[if_neg hz,<-zgr (out:=s.2) od hz];exact hg1.2.1
     ·dsimp only;rw[if_neg hz];omega),ox,sx ⟨⟨_,rfl,xaU ?_⟩,⟨⟨_,rfl,LeA.glg ?_⟩,trivial⟩⟩ ⟨zac ?_,trivial⟩⟩
 iterate 3 focus (first|(rw[if_pos ol,xa1,xa1,xa1,xag];done)|(rw[if_pos ol];simp[xa3];done))
 refine rn0 (r2 Z Z) (.tup (qge ?_ ?_));rotate_left 2;all_goals (first|(rw[<-hg1.2.1,znb od (by first|assumption|(simp_all;done)) ol];rfl)|(rw[<-hg1.2.1,znc od];rfl))
theorem zml {w:List Data} (hs:Spa w){f:Nat->Nat}{ta tk:Int} (ht:InS (w.length*4) ⟨ta,tk⟩){p:Pat} (hp:p.ok):
  FnD Tryz.prog 172 [.agg [.d (.i p.op),.d (.i p.ctor),.d (.i p.n),.d (.i p.m),.d (.i p.var),.d (zak p.kids)],.ref 3004 0,.ref 3005 0] [(3004,some (.box [.d (sPtr w f)])),(3005,some (.box [.d (.i ta),.d (.i tk)]))] (.d (.bool (!isP w ⟨ta,tk⟩ p))) []:=by
 refine bd Tryz.f172 13 [] [] fun _ _ _ _ hk=>?_;refine bx 3001 ?_;refine ev (wc zx2 (zlH hs.dp.wt (zc2 ht) hp) Z Z ?_);refine evd [] [] (dr (rn [] (r1 Z) (.eqd ?_) ⟨Z,Z⟩ (SubH.get ⟨Z,⟨Z,O⟩⟩) (fun _ h=>h)));rotate_left;all_goals (rfl)
theorem zoH {w:List Data} (hs:Spa w){f:Nat->Nat}{ta tk:Int} (ht:InS (w.length*4) ⟨ta,tk⟩){l:List Pat}{ok:Bool} (hl:∀a∈l,a.ok) (hb:l.length<=1000000000000):
  FnD Tryz.prog 116 [.d (sPtr w f),.agg [.d (.i ta),.d (.i tk)],.d (zak l),.d (.bool ok)] [] (.tup [.d (zak (if (ok&&l.all (isP w ⟨ta,tk⟩))=true then l else [])),.d (.bool (ok&&l.all (isP w ⟨ta,tk⟩)))]) []:=by
 have hall:(l.any fun p=> !isP w ⟨ta,tk⟩ p) = !(l.all (isP w ⟨ta,tk⟩)):=by
  induction l with
  |nil=>rfl
  |cons x r ih=>rw[List.any_cons,List.all_cons,ih (fun a ha=>hl a (by simp[ha])) (by simp at hb;omega),Bool.not_and]
 have hcf:=zgX (xs:=l) (p:=fun p=> !isP w ⟨ta,tk⟩ p) (caps:=[.ref 3004 0,.ref 3005 0]) (hp:=[(3004,some (.box [.d (sPtr w f)])),(3005,some (.box [.d (.i ta),.d (.i tk)]))]) hb zx1 (fun q hq=>zml hs ht (hl q hq)) ⟨rfl,rfl,trivial⟩ rfl rfl;rw[hall] at hcf;clear hall;generalize l.all (isP w ⟨ta,tk⟩)=q at hcf ⊢;refine bd Tryz.f116 19 [] [] fun _ _ _ _ hk=>?_;refine bx 3004 ?_;refine bx 3005 ?_;refine ev ?_;apply sq<;>intro h1 h1p h1s<;>(try simp only[Q] at h1p);refine sqT ?_;refine rn0 (r2 Z Z) (.tup (qne ?_ ?_));rotate_left 2;refine xby (xs:=[_,_]) Z (.some Z Z h1) Z Z (Walk.call (cr:=[]) zx0 hcf Z (.some Z Z h1) Z Z (LeL.refl _) ⟨Z,Z,O⟩ Z Z Z (evs [] [(12,false)] ?_ ⟨⟨_,Z,h1⟩,O⟩));apply sq<;>intro h3 h3p h3s<;>(try simp only[Q] at h3p);refine rn0 (r2 Z Z) (.tup (qne ?_ ?_));rotate_left 2;refine wc zx3 (zj9 hb hl) Z Z ?_;refine ev (rn0 (r2 Z Z) (.tup (qee ?_ ?_)));rotate_left 2;all_goals ((cases ok<;>cases q<;>first|rfl|(exfalso;simp_all;done)))
theorem zpa {w:List Data}{t:Ty}{l:List Cl} (h:zaW w t l=true) (hl:ClsOk l):∀c∈l,zat w 10 t c.pat=true/\c.pat.ok:=fun c hc=>by
 unfold zaW at h;simp only[xad,Bool.not_eq_true',List.any_eq_false,Bool.not_eq_true] at h;have h4:clOk w t c=true:=by simpa using h.2.2 c hc
 unfold clOk isP at h4;simp only[xad] at h4;exact⟨h4.1.1,hl.2 c hc⟩
theorem zh7 {w:List Data}{t:Ty}:∀a∈[anyQ],zao w 11 t a=true:=fun a ha=>by
 rw[List.mem_singleton.1 ha];exact zkf
theorem zh4 {w:List Data} (hs:WSmall w){a k:Int}{l:List Cl} (hl:ClsOk l):
  FnD Tryz.prog 53 [.d (zaj w),.agg [.d (.i a),.d (.i k)],.d (zcg l)] [] (.tup [.d (zak ((zcd w ⟨a,k⟩ l).getD [])),.d (.bool (zcd w ⟨a,k⟩ l).isSome)]) []:=by
 have hcv:=zfS hs (a:=a) (k:=k) hl;by_cases hv:zaW w ⟨a,k⟩ l=true
 ·have hm:zcd w ⟨a,k⟩ l=ze1 w ⟨a,k⟩ l:=by unfold zcd;rw[if_pos hv]
  rw[hm];have htv:=zsJ hv;have hsp:=zsh hs (zcj htv.1).1;have hsh:=zpa hv hl;have hin:InS (w.length*4) ⟨a,k⟩:=by
   obtain⟨_,_,h3⟩:=zcj htv.1;by_cases ha:a = -1
   ·exact .inl ha
   ·obtain⟨h4,h5,h6,h7⟩:=h3 ha;have:=zuN (n:=w.length) h5 (j:=k.toNat) od;rwa [Int.toNat_of_nonneg h4,Int.toNat_of_nonneg h6] at this
  have hco:=zmf (w:=w) (t:=⟨a,k⟩) htv.2 hsh;cases hq:zbO l [] with
  |none=>
   have e:ze1 w ⟨a,k⟩ l=none:=by unfold ze1;rw[hq]
   rw[hq] at hco;rw[e];refine bd Tryz.f53 42 [] [] fun _ _ _ _ hk=>?_;refine bx 3004 ?_;refine ev (wc zqk hcv Z Z ?_);refine ev ?_;apply sq<;>intro h1 h1p h1s<;>(try simp only[Q] at h1p);exfalso;rw[hv] at h1;exact absurd h1 oi;refine wc zt0 hco Z Z ?_;refine ev ?_;apply sq<;>intro h2 h2p h2s<;>(try simp only[Q] at h2p);refine rn0 (r2 Z Z) (.tup (qne ?_ ?_));rotate_left 2;exfalso;exact absurd h2 oi;all_goals (rfl)
  |some away=>
   rw[hq] at hco;obtain⟨p1,p2⟩:=zgq l [] away (fun c hc=>(hsh c hc).1) oi hq;have hwo:=znr hsp hin (l:=[anyQ]) (away:=away) zh7 p2 oi (by simp at p1;omega);have hrl:(zaR w ⟨a,k⟩ [anyQ] away).isSome=true->((zaR w ⟨a,k⟩ [anyQ] away).getD []).length<=400/\∀x∈(zaR w ⟨a,k⟩ [anyQ] away).getD [],zao w 11 ⟨a,k⟩ x=true:=fun h=>by
    cases hw:zaR w ⟨a,k⟩ [anyQ] away with
    |none=>rw[hw] at h;cases h
    |some r=>exact zg0 away _ r (fun x hx=>zh7 x (List.mem_filter.1 hx).1) (Nat.le_trans (List.length_filter_le _ _) oi) p2 hw
   have hrl2:((zaR w ⟨a,k⟩ [anyQ] away).getD []).length<=400/\∀x∈(zaR w ⟨a,k⟩ [anyQ] away).getD [],x.ok:=by
    cases hw:zaR w ⟨a,k⟩ [anyQ] away with
    |none=>exact⟨by simp,by simp⟩
    |some r=>
     have:=hrl (by rw[hw];rfl);rw[hw] at this;exact⟨this.1,fun x hx=>(zhv hsp 11 hin (this.2 x hx)).1⟩
   have hre:=zoH hsp (f:=zaX w) hin (l:=(zaR w ⟨a,k⟩ [anyQ] away).getD []) (ok:=(zaR w ⟨a,k⟩ [anyQ] away).isSome) hrl2.2 od;have e:ze1 w ⟨a,k⟩ l=if ((zaR w ⟨a,k⟩ [anyQ] away).isSome&&((zaR w ⟨a,k⟩ [anyQ] away).getD []).all (isP w ⟨a,k⟩))=true then some ((zaR w ⟨a,k⟩ [anyQ] away).getD []) else none:=by
    unfold ze1;rw[hq];cases hw:zaR w ⟨a,k⟩ [anyQ] away with
    |none=>simp[hw]
    |some r=>simp[hw]
   rw[e];generalize ((zaR w ⟨a,k⟩ [anyQ] away).isSome&&((zaR w ⟨a,k⟩ [anyQ] away).getD []).all (isP w ⟨a,k⟩))=q at hre ⊢;refine bd Tryz.f53 42 [] [] fun _ _ _ _ hk=>?_;refine bx 3004 ?_;refine ev (wc zqk hcv Z Z ?_);refine ev ?_;apply sq<;>intro h1 h1p h1s<;>(try simp only[Q] at h1p);exfalso;rw[hv] at h1;exact absurd h1 oi;refine wc zt0 hco Z Z ?_;refine ev ?_;apply sq<;>intro h2 h2p h2s<;>(try simp only[Q] at h2p);exfalso;exact absurd h2 oi;refine wc zxI (zlG hsp.dp) Z Z ?_;refine ev (wc zqH zeH Z Z ?_);refine si [0] [_] sl72 tz74 ?_;refine evd [] [] (wc zxJ hwo Z Z ?_);refine evd [] [] (dr (wc zxK hre Z Z ?_));refine ev (rn0 (r2 Z Z) (.tup (qee ?_ ?_)));rotate_left 2;all_goals (first|rfl|(cases q<;>rfl))
 ·have hv':zaW w ⟨a,k⟩ l=false:=by simpa using hv
  have hm:zcd w ⟨a,k⟩ l=none:=by unfold zcd;rw[if_neg hv]
  rw[hm];rw[hv'] at hcv;refine bd Tryz.f53 42 [] [] fun _ _ _ _ hk=>?_;refine bx 3004 ?_;refine ev (wc zqk hcv Z Z ?_);refine ev ?_;apply sq<;>intro h1 h1p h1s<;>(try simp only[Q] at h1p);refine rn0 (r2 Z Z) (.tup (qne ?_ ?_));rotate_left 2;exfalso;exact absurd h1 oi;all_goals (rfl)
def exhQ (w:List Data) (t:Ty) (l:List Cl):Bool:=(zcd w t l).isSome&&decide (((zcd w t l).getD []).length=0)
theorem zgH {w:List Data} (hs:WSmall w){a k:Int}{l:List Cl} (hl:ClsOk l):
  FnD Tryz.prog 23 [.d (zaj w),.agg [.d (.i a),.d (.i k)],.d (zcg l)] [] (.tup [.d (.bool (exhQ w ⟨a,k⟩ l)),.d (.bool (zcd w ⟨a,k⟩ l).isSome)]) []:=by
 have hmp:=zh4 hs (a:=a) (k:=k) hl;unfold exhQ;generalize zcd w ⟨a,k⟩ l=m at *;refine bd Tryz.f23 24 [] [] fun _ _ _ _ hk=>?_;refine bx 3004 ?_;refine ev (wc zzi hmp Z Z ?_);refine ev ?_;apply sq<;>intro h1 h1p h1s<;>(try simp only[Q,xa3,xal] at h1p);refine rn0 (r2 Z Z) (.tup (qee ?_ ?_));rotate_left 2;refine rn0 (r2 Z Z) (.tup (qee ?_ ?_));rotate_left 2;all_goals (first|rfl|(simp_all[xa3];done)|(cases m<;>simp_all[xa3];done)|(cases m<;>simp[xa3] at *;done))
def znt (w:List Data) (t:Ty) (b a:Pat):List Pat:=(zau w 10 t a b).filter (zbW w t)
def zgz (w:List Data) (t:Ty) (l:List Pat) (b:Pat) (k:Nat):List Pat:=(l.take k).flatMap (znt w t b)
theorem znH {w:List Data}{t:Ty}{l:List Pat}{b:Pat}:zcq w t l b=l.flatMap (znt w t b):=by
 unfold zcq;induction l with
 |nil=>rfl
 |cons x r ih=>rw[List.flatMap_cons,List.filter_append,List.flatMap_cons,ih];rfl
theorem zfC {w:List Data}{t:Ty}{l:List Pat}{b:Pat}{k:Nat} (h:l.length<=k):zgz w t l b k=zcq w t l b:=by
 rw[znH,zgz,List.take_of_length_le h]
theorem znI {w:List Data}{t:Ty}{l:List Pat}{b:Pat}{k:Nat} (h:k<l.length):zgz w t l b (k+1)=zgz w t l b k++znt w t b (nth l k):=by
 unfold zgz;have e:l[k]?=some (nth l k):=by simpa using zah (f:=id) h
 rw[List.take_add_one,e,List.flatMap_append];simp
theorem zvX {w:List Data}{t:Ty}{l:List Pat}{b:Pat} (k:Nat):(zgz w t l b k).length<=(zcq w t l b).length:=by
 rw[znH,zgz];conv=>rhs;rw[<-List.take_append_drop k l,List.flatMap_append]
 rw[xaa];omega
theorem zir {w:List Data} (hs:Spa w):∀(n:Nat){ta tk:Int}{p:Pat},InS (w.length*4) ⟨ta,tk⟩->zao w n ⟨ta,tk⟩ p=true->
  FnD Tryz.prog 276 [.d (zaj w),.d (ziX (w.length*4) (zaX w)),.agg [.d (.i ta),.d (.i tk)],.agg [.d (.i (p).op),.d (.i (p).ctor),.d (.i (p).n),.d (.i (p).m),.d (.i (p).var),.d (zak (p).kids)]] [] (.d (.bool (!za7 w (zaX w) n ⟨ta,tk⟩ p))) []
 |0,ta,tk,p,_,h=>by simp[zao] at h
 |n+1,ta,tk,p,ht,h=>by
  have hdp:=zn6 (f:=zaX w) ht (by have:=hs.dp.four;omega);by_cases h1:p.op=1
  ·rw[ziW h1];refine bd Tryz.f276 45 [] [] fun _ _ _ _ hk=>?_;refine bx 3006 ?_;refine bx 3007 ?_;refine ev ?_;apply sq<;>intro h1 h1p h1s;refine wc zup hdp Z Z ?_;refine ev (rq ?_);rotate_left;try simp only[Q] at h1p
   exfalso;omega;all_goals (refine xam D.bool ?_;rw[xat];simp;omega)
  by_cases h3:p.op=3
  ·rw[zoy h h3];refine bd Tryz.f276 45 [] [] fun _ _ _ _ hk=>?_;refine bx 3006 ?_;refine bx 3007 ?_;refine ev ?_;apply sq<;>intro h1 h1p h1s;try simp only[Q] at h1p
   exfalso;omega;apply sq<;>intro h2 h2p h2s;refine rq ?_;rotate_left;try simp only[Q] at h2p
   exfalso;omega;all_goals (rfl)
  have h4:p.op=4:=by have:=zcm h;omega
  obtain⟨c1,c2,c3,-⟩:=za6 h h4;have h3l:=hs.args ⟨ta,tk⟩ p.ctor ht c1;have hk:=fun i (hi:i<p.kids.length)=>zbt h hi;rw[zbP h4] at hk;rw[zoz h4,Bool.not_not];have ih:=fun i (hi:i<p.kids.length)=>zir hs n (ta:=(nth (zae w ⟨ta,tk⟩ p.ctor) i).data) (tk:=(nth (zae w ⟨ta,tk⟩ p.ctor) i).index) (p:=nth p.kids i) (zcz hs.dp ht c1 _ (zaf od)) (hk i hi);refine bd Tryz.f276 45 [] [] fun _ _ _ _ hk=>?_;refine bx 3006 ?_;refine bx 3007 ?_;refine ev ?_;apply sq<;>intro h1 h1p h1s;try simp only[Q,xa3] at h1p
  exfalso;omega;apply sq<;>intro h2 h2p h2s;try simp only[Q,xa3] at h2p
  exfalso;omega;refine wc zbX (zb4 hs.dp.wt (zc2 ht) c1) Z Z ?_;refine ev (xaB (ι:=Nat) hk (fun i=>[(10,.d (.i (i:Int)))]) [8,26,27,28,29,30,31,32,33,34,35,36,37,38,39,40,41,42,43,44] (fun i=>[]) (fun i=>i<=(zae w ⟨ta,tk⟩ p.ctor).length/\∀i',i'<i->(!za7 w (zaX w) n (nth (zae w ⟨ta,tk⟩ p.ctor) i') (nth p.kids i'))=true) (fun i=>(zae w ⟨ta,tk⟩ p.ctor).length-i) 0 ⟨by omega,fun _ h=>absurd h od⟩ ⟨⟨_,Z,xaU ?_⟩,O⟩ O (fun x=>rfl) (fun i hg1=>?_));focus (rfl)
  refine evc [] [] ?_;apply sq<;>intro h3 h3p h3s<;>(try simp only[Q,xa3] at h3p);refine ixq zaz Z Z Z (zah od) Z ?_;refine evd [] [] (ixq sl72 Z Z Z (zaE od) Z ?_);refine evd [] [] (wc zun (ih i od) Z Z ?_);refine evd [] [] (dr ?_);apply sq<;>intro h4 h4p h4s;refine rq ?_;rotate_left;try simp only[Q,xa3] at h4p
  refine ar (xaj (i+1) ⟨⟨by omega,zaZ hg1.2 (by(simp;assumption))⟩,od,sx ⟨⟨_,Z,xaU ?_⟩,O⟩ O⟩);focus (rfl)
  refine rq ?_;rotate_left;all_goals (refine xam D.bool ?_;first|(rw[zbJ (i:=i) od od (by first|assumption|(simp;assumption)|(simp_all;done))];done)|(rw[zci od (fun x hx=>hg1.2 x od)];done))
theorem zjg {w:List Data} (hs:Spa w){ta tk:Int} (ht:InS (w.length*4) ⟨ta,tk⟩){l:List Pat} (hl:∀a∈l,zao w 11 ⟨ta,tk⟩ a=true) (hb:l.length<=20000000):
  FnD Tryz.prog 256 [.d (zaj w),.d (ziX (w.length*4) (zaX w)),.agg [.d (.i ta),.d (.i tk)],.d (zak l)] [] (.d (zak (l.filter (zbW w ⟨ta,tk⟩)))) []:=by
 have hal:∀a∈l,FnD Tryz.prog 276 [.d (zaj w),.d (ziX (w.length*4) (zaX w)),.agg [.d (.i ta),.d (.i tk)],.agg [.d (.i (a).op),.d (.i (a).ctor),.d (.i (a).n),.d (.i (a).m),.d (.i (a).var),.d (zak (a).kids)]] [] (.d (.bool (zbW w ⟨ta,tk⟩ a))) []:=fun a ha=>zir hs 11 ht (hl a ha);have hle:∀ {pre rest:List Pat}{y:Pat},pre++y::rest=l->(pre.filter (zbW w ⟨ta,tk⟩)).length+1<=l.length:=fun {pre rest y} h=>by
  have h1:=List.length_filter_le (zbW w ⟨ta,tk⟩) pre;have h2:=xam List.length h;simp only[xaa,xab] at h2;omega
 refine bd Tryz.f256 34 [] [] fun _ _ _ _ hk=>?_;refine bx 3006 ?_;refine ev (xb8 9 sl72 .none Z Z (ev (xaB (ι:=List (Pat)×List (Pat)) hk (fun x=>[(10,.d (.i (x.1.length:Int))),(9,.gl 9 (Pat.cs (x.1.filter (zbW w ⟨ta,tk⟩))))]) [12,13,14,15,16,17,18,19,20,21,22,23,24,25,26,27,28,29,30,31,32] (fun x=>[(9,some (.tok ((Pat.cs (x.1.filter (zbW w ⟨ta,tk⟩)))).length 6))]) (fun x=>x.1++x.2=l) (fun x=>x.2.length) ([],l) oi ⟨⟨_,Z,xaU ?_⟩,⟨⟨_,Z,LeA.glg ?_⟩,O⟩⟩ ⟨zac ?_,O⟩ (fun x=>rfl) (fun x hg1=>?_))));iterate 3 focus (rfl)
 obtain⟨pre,rest⟩:=x;dsimp only at hg1 ⊢;refine evc [] [] ?_;apply sq<;>intro h1 h1p h1s<;>(try simp only[Q,xa3] at h1p);rcases rest with _|⟨y,rest⟩
 ·exfalso;simp_all
 refine ixq sl72 Z Z Z (xaZ hg1) Z (evd [] [] (wc zun (hal y (by rw[<-hg1];simp)) Z Z ?_));refine dr ?_;apply sq<;>intro h2 h2p h2s<;>(try simp only[Q,xa3] at h2p);refine ixq sl72 Z Z Z (xaZ hg1) Z (ev (si [0] [_] sl72 tz74 ?_));refine ap sl72 zz74 Z Z Z ov (by have h9:=hle hg1;simp[xa3];omega) ?_;refine ev (ar (xaj ((pre++[y],rest)) ⟨(by have hz:=hg1;rw[<-hz];simp),oi,sx ⟨⟨_,Z,xaU ?_⟩,⟨⟨_,Z,LeA.glg ?_⟩,O⟩⟩ ⟨zac ?_,O⟩⟩));iterate 3 focus (first|(dsimp only;rw[List.filter_append,List.filter_cons_of_pos ol,List.filter_nil,xa1 (List.filter _ _),xa1 (_++_),xag];rfl)|(dsimp only;rw[List.filter_append,List.filter_cons_of_pos ol,List.filter_nil];simp[xa3];done)|(simp;done))
 refine ar (xaj ((pre++[y],rest)) ⟨(by have hz:=hg1;rw[<-hz];simp),oi,sx ⟨⟨_,Z,xaU ?_⟩,⟨⟨_,Z,LeA.glg ?_⟩,O⟩⟩ ⟨zac ?_,O⟩⟩);iterate 3 focus (first|(dsimp only;rw[List.filter_append,List.filter_cons_of_neg o7,List.filter_nil,xaq];done)|(simp;done))
 have hrest:rest=[]:=by
  rcases rest with _|⟨a,b⟩
  ·rfl
  ·exfalso;have hz:=xam List.length (hg1);simp only[xaa,xab,xac] at hz;omega
 subst hrest;refine rn0 (r1 Z) (.gld ?_);rotate_left;all_goals ((rw[xaq] at hg1;rw[hg1];done))
theorem zk3 {w:List Data} (hs:Spa w){ta tk:Int} (ht:InS (w.length*4) ⟨ta,tk⟩){l away:List Pat} (hl:∀a∈l,zao w 11 ⟨ta,tk⟩ a=true) (hb:∀b∈away,zao w 10 ⟨ta,tk⟩ b=true) (hll:l.length<=400) (hal:away.length<=2000):
  FnD Tryz.prog 210 [.d (zaj w),.d (ziX (w.length*4) (zaX w)),.agg [.d (.i ta),.d (.i tk)],.d (zak l),.d (zak away)] [] (.tup [.d (zak ((zaR w ⟨ta,tk⟩ l away).getD [])),.d (.bool (zaR w ⟨ta,tk⟩ l away).isSome)]) []:=by
 have hke:=zvl hs ht hl hb;have hmi:∀(c:List Pat) (i k:Nat),(∀a∈c,zao w 11 ⟨ta,tk⟩ a=true)->i<away.length->k<c.length->(zau w 10 ⟨ta,tk⟩ (nth c k) (nth away i)).length<=20000000:=fun c i k hc hi hk=>zgi hs od od ht (hc _ (zaf hk)) (hb _ (zaf hi));have hkb:∀(c:List Pat) (i k:Nat),(∀a∈c,zao w 11 ⟨ta,tk⟩ a=true)->i<away.length->k<c.length->(znt w ⟨ta,tk⟩ (nth away i) (nth c k)).length<=20000000:=fun c i k hc hi hk=>Nat.le_trans (List.length_filter_le _ _) (hmi c i k hc hi hk);rw[<-hke];have hno:∀(c:List Pat) (i k:Nat),i<away.length->400<(zgz w ⟨ta,tk⟩ c (nth away i) k).length->subL w ⟨ta,tk⟩ c (away.drop i)=none:=fun c i k hi h=>by
  have:=zvX (w:=w) (t:=⟨ta,tk⟩) (l:=c) (b:=nth away i) k;rw[zgP hi,if_neg od]
 refine bd Tryz.f210 60 [] [] fun _ _ _ _ hk=>?_;refine bx 3007 ?_;refine ev (xaB (ι:=Nat×List Pat) hk (fun s=>[(12,.d (.i (s.1:Int))),(3,.d (zak s.2))]) [10,11,13,14,15,16,17,18,19,20,21,22,23,24,25,26,27,28,29,30,31,32,33,34,35,36,37,38,39,40,41,42,43,44,45,46,47,48,49,50,51,52,53,54] (fun s=>[]) (fun s=>s.1<=away.length/\subL w ⟨ta,tk⟩ s.2 (away.drop s.1)=subL w ⟨ta,tk⟩ l away/\(∀a∈s.2,zao w 11 ⟨ta,tk⟩ a=true)/\s.2.length<=400) (fun s=>away.length-s.1) (0,l) ⟨by simp,Z,hl,hll⟩ ⟨⟨_,Z,xaU ?_⟩,⟨⟨_,Z, ?_⟩,O⟩⟩ O (fun x=>rfl) (fun s hg1=>?_));focus (rfl)
 focus (exact LeA.refl _)
 refine evc [] [] ?_;apply sq<;>intro h1 h1p h1s<;>(try simp only[Q,xa3] at h1p);refine xb8 9 sl72 .none Z Z (ev (xaB (ι:=Nat) hk (fun k=>[(14,.d (.i (k:Int))),(13,.gl 9 (Pat.cs (zgz w ⟨ta,tk⟩ s.2 (nth away s.1) k)))]) [22,23,24,25,26,27,28,29,30,31,32,33,34,35,36,37,38,39,40,41,42,43,44,45,46,47,48,49] (fun k=>[(9,some (.tok ((Pat.cs (zgz w ⟨ta,tk⟩ s.2 (nth away s.1) k))).length 6))]) (fun k=>k<=s.2.length) (fun k=>s.2.length-k) 0 od ⟨⟨_,Z,xaU ?_⟩,⟨⟨_,Z,LeA.glg ?_⟩,O⟩⟩ ⟨zac ?_,O⟩ (fun x=>rfl) (fun k hg2=>?_)));iterate 3 focus (rfl)
 refine evc [] [] ?_;apply sq<;>intro h2 h2p h2s<;>(try simp only[Q,xa3] at h2p);apply sq<;>intro h3 h3p h3s<;>(try simp only[Q,xa3] at h3p);refine ixq sl72 Z Z Z (zaE od) Z ?_;refine evd [] [] (ixq sl72 Z Z Z (zaE od) Z ?_);refine evd [] [] (wc zqW (zis hs 10 11 od od od ht (hg1.2.2.1 _ (zaf od)) (hb _ (zaf od))) Z Z ?_);refine wc zul (show FnD _ _ _ _ (.d (zak (znt w ⟨ta,tk⟩ (nth away s.1) (nth s.2 k)))) _ from zjg hs ht (zg9 10 11 od (hg1.2.2.1 _ (zaf od)) (hb _ (zaf od))) (hmi s.2 s.1 k hg1.2.2.1 od od)) Z Z ?_;refine ap sl72 zz74 Z Z Z (by exact zcv _) (by have h9:=hkb s.2 s.1 k hg1.2.2.1 od od;simp only[xa3];omega) ?_;refine evd [] [] (dr (ar (xaj (k+1) ⟨od,od,sx ⟨⟨_,Z,xaU ?_⟩,⟨⟨_,Z,LeA.glg ?_⟩,O⟩⟩ ⟨zac ?_,O⟩⟩)));iterate 3 focus (first|rfl|(rw[znI od,xa1,xa1,xa1,xag];done)|(rw[znI od];simp[xa3];done))
 apply sq<;>intro h4 h4p h4s<;>(try simp only[Q,xa3] at h4p);refine xb7 sl72 .none Z (ev (rn0 (r2 Z Z) (.tup (qee ?_ ?_))));rotate_left 2;refine ar ?_;refine xaj ((s.1+1,zcq w ⟨ta,tk⟩ s.2 (nth away s.1))) ⟨(by
    have hk:s.2.length<=k:=by omega
    have h4:(zcq w ⟨ta,tk⟩ s.2 (nth away s.1)).length<=400:=by rw[<-zfC hk];omega
    have e:=zgP (w:=w) (t:=⟨ta,tk⟩) (l:=s.2) (away:=away) (i:=s.1) od;rw[if_pos h4] at e;refine⟨by dsimp only;omega, ?_,zha hg1.2.2.1 (hb _ (zaf od)),h4⟩;dsimp only;rw[<-e];exact hg1.2.1),ox,sx ⟨⟨_,rfl,xaU ?_⟩,⟨⟨_,rfl, ?_⟩,trivial⟩⟩ trivial⟩
 focus (rfl)
 focus (((first|refine LeA.gld ?_|refine LeA.nild ?_);first|rfl|(rw[zfC od];done)|(dsimp only;rw[zfC od];done)|(simp;done)|omega))
 refine sqF ?_;apply sq<;>intro h6 h6p h6s<;>(try simp only[Q,xa3] at h6p);refine xb7 sl72 .none Z (ev (rn0 (r2 Z Z) (.tup (qee ?_ ?_))));rotate_left 2;refine ar ?_;refine xaj ((s.1+1,zcq w ⟨ta,tk⟩ s.2 (nth away s.1))) ⟨(by
    have hk:s.2.length<=k:=by omega
    have h4:(zcq w ⟨ta,tk⟩ s.2 (nth away s.1)).length<=400:=by rw[<-zfC hk];omega
    have e:=zgP (w:=w) (t:=⟨ta,tk⟩) (l:=s.2) (away:=away) (i:=s.1) od;rw[if_pos h4] at e;refine⟨by dsimp only;omega, ?_,zha hg1.2.2.1 (hb _ (zaf od)),h4⟩;dsimp only;rw[<-e];exact hg1.2.1),ox,sx ⟨⟨_,rfl,xaU ?_⟩,⟨⟨_,rfl, ?_⟩,trivial⟩⟩ trivial⟩
 focus (rfl)
 focus (((first|refine LeA.gld ?_|refine LeA.nild ?_);first|rfl|(rw[zfC od];done)|(dsimp only;rw[zfC od];done)|(simp;done)|omega))
 refine wc zul (zjg hs ht hg1.2.2.1 od) Z Z ?_;refine ev (rn0 (r2 Z Z) (.tup (qee ?_ ?_)));rotate_left 2;all_goals (first|(rw[<-hg1.2.1,hno s.2 s.1 k od od];rfl)|(rw[<-hg1.2.1,zr9 od];rfl))
theorem zje:∀(n:Nat){p:Pat},p.size<=n->p.ok->FnD Tryz.prog 281 [.agg [.d (.i (p).op),.d (.i (p).ctor),.d (.i (p).n),.d (.i (p).m),.d (.i (p).var),.d (zak (p).kids)]] [] (.agg [.d (.i (p).op),.d (.i (p).ctor),.d (.i (p).n),.d (.i (p).m),.d (.i (p).var),.d (zak (p).kids)]) []
 |0,p,h,_=>by rw[xa5] at h;omega
 |n+1,p,h,hok=>by
  rw[xa5] at h;rw[xa4] at hok;have hok1:=hok.1;refine bd Tryz.f281 26 [] [] fun _ _ _ _ hk=>?_;refine bx 3001 ?_;refine ab 3002 tz74 ?_;apply tv;refine ab 3003 tz74 ?_;refine so ty74 ?_;apply tv;refine so ty72 ?_;apply tv;refine xaE 3003 5 7 6 Z Z Z Z (xaB (ι:=List (Pat)×List (Pat)) hk (fun x=>[(4,.d (.i (x.1.length:Int)))]) [7,8,9,10,11,12,13,14,15,16,17,18,19,20,21,22,23,24] (fun x=>[(3003,some (.box [.d (.i p.op),.d (.i p.ctor),.d (.i p.n),.d (.i p.m),.d (.i p.var),.gl 7 (x.1.map Pat.cc)])),(7,some (.tok (x.1.map Pat.cc).length 6))]) (fun x=>x.1++x.2=p.kids) (fun x=>x.2.length) ([],p.kids) oi ⟨⟨_,Z,xaU ?_⟩,O⟩ ⟨?_,⟨zac ?_,O⟩⟩ (fun x=>rfl) (fun x hg1=>?_));focus (rfl)
  focus (first|rfl|(simp[getH];done))
  focus (rfl)
  obtain⟨pre,rest⟩:=x;dsimp only at hg1 ⊢;refine evc [] [] ?_;apply sq<;>intro h1 h1p h1s<;>(try simp only[Q,xa3] at h1p);rcases rest with _|⟨y,rest⟩
  ·exfalso;simp_all
  refine ixq sl72 Z Z Z (xaZ hg1) Z (evd [] [] (wc zuq (zje n (p:=y) (by have:=xa8 (l:=p.kids) (v:=y) (by rw[<-hg1];simp);omega) (xa6 hok.2 y (by rw[<-hg1];simp))) Z Z ?_));refine si [0] [_] sl72 tz74 ?_;refine ap sl72 zz74 Z Z Z oy (by have:=xam List.length hg1;simp at this;simp;omega) ?_;refine evd [] [] (so ty72 ?_);refine dr (ar (xaj ((pre++[y],rest)) ⟨(by have hz:=hg1;rw[<-hz];simp),oi,sx ⟨⟨_,Z,xaU ?_⟩,O⟩ ⟨?_,⟨zac ?_,O⟩⟩⟩));focus ((simp;done))
  focus (first|rfl|(simp[getH];done))
  focus ((simp;done))
  have hrest:rest=[]:=by
   rcases rest with _|⟨a,b⟩
   ·rfl
   ·exfalso;have hz:=xam List.length (hg1);simp only[xaa,xab,xac] at hz;omega
  subst hrest;refine so ty74 ?_;apply tv;refine rn0 (ra ty74) (.agg (qeeeeeg ?_ ?_ ?_ ?_ ?_ ?_));rotate_left 6;all_goals (first|rfl|(rw[xaq] at hg1;rw[<-hg1,xa1];done))
theorem zqe {l:List Pat} (h:l.length<=1000000000000) (hok:∀p∈l,p.ok):FnD Tryz.prog 259 [.d (zak l)] [] (.d (zak l)) []:=by
 refine bd Tryz.f259 21 [] [] fun _ _ _ _ hk=>?_;refine xb8 1 sl72 .none Z Z (ev (xaB (ι:=List (Pat)×List (Pat)) hk (fun x=>[(4,.d (.i (x.1.length:Int))),(3,.gl 1 (x.1.map Pat.cc))]) [6,7,8,9,10,11,12,13,14,15,16,17,18,19] (fun x=>[(1,some (.tok ((x.1.map Pat.cc)).length 6))]) (fun x=>x.1++x.2=l) (fun x=>x.2.length) ([],l) oi ⟨⟨_,Z,xaU ?_⟩,⟨⟨_,Z,LeA.glg ?_⟩,O⟩⟩ ⟨zac ?_,O⟩ (fun x=>rfl) (fun x hg1=>?_)));iterate 3 focus (rfl)
 obtain⟨pre,rest⟩:=x;dsimp only at hg1 ⊢;refine evc [] [] ?_;apply sq<;>intro h1 h1p h1s<;>(try simp only[Q,xa3] at h1p);rcases rest with _|⟨y,rest⟩
 ·exfalso;simp_all
 refine ixq sl72 Z Z Z (xaZ hg1) Z (ev (wc zuq (zje _ (Nat.le_refl _) (hok y (by rw[<-hg1];simp))) Z Z ?_));refine si [0] [_] sl72 tz74 ?_;refine ap sl72 zz74 Z Z Z ov (by have:=xam List.length hg1;simp at this;simp;omega) ?_;refine ev (ar (xaj ((pre++[y],rest)) ⟨(by have hz:=hg1;rw[<-hz];simp),oi,sx ⟨⟨_,Z,xaU ?_⟩,⟨⟨_,Z,LeA.glg ?_⟩,O⟩⟩ ⟨zac ?_,O⟩⟩));iterate 3 focus ((simp;done))
 have hrest:rest=[]:=by
  rcases rest with _|⟨a,b⟩
  ·rfl
  ·exfalso;have hz:=xam List.length (hg1);simp only[xaa,xab,xac] at hz;omega
 subst hrest;refine rn0 (r1 Z) (.gld ?_);rotate_left;all_goals ((rw[xaq] at hg1;rw[<-hg1,xa1];done))
theorem zpN {p:Pat} (h:zdm p=true):za2 (zaS p)=zei p:=by
 unfold zdm at h;have h40:=xas h;unfold za2 zei;rw[if_pos h40,List.take_of_length_le od]
theorem zvk {p:Pat}:((40:Int)<((za2 (zaS p)).length:Int))↔zdm p=false:=by
 unfold zdm za2;rw[List.length_take,decide_eq_false_iff_not];omega
theorem zoh {w:List Data}{t:Ty}{l:List Cl} (hl:l.length<=8) (hc:∀c∈l,zat w 10 t c.pat=true/\c.pat.ok):
  FnD Tryz.prog 209 [.d (zcg l),.d (.i (l.length:Int))] [] (.tup [.d (zak ((zbO l []).getD [])),.d (.bool (zbO l []).isSome)]) []:=by
 have hpl:=fun(i:Nat)=>zhl (zaS (nth l i).pat);have hge:=fun(i:Nat)=>zvk (p:=(nth l i).pat);refine bd Tryz.f209 35 [] [] fun _ _ _ _ hk=>?_;refine xb8 9 sl72 .none Z Z (ev (xaB (ι:=Nat×List Pat) hk (fun s=>[(7,.d (.i (s.1:Int))),(6,.gl 9 (Pat.cs s.2))]) [4,5,8,10,11,12,13,14,15,16,17,18,19,20,21,22,23,24,25,26,27,28,29,30,31,32,33] (fun s=>[(9,some (.tok ((Pat.cs s.2)).length 6))]) (fun s=>s.1<=l.length/\zbO (l.drop s.1) s.2=zbO l []/\s.2.length<=40*s.1) (fun s=>l.length-s.1) (0,[]) ⟨by simp,Z,by simp⟩ ⟨⟨_,Z,xaU ?_⟩,⟨⟨_,Z,LeA.glg ?_⟩,O⟩⟩ ⟨zac ?_,O⟩ (fun x=>rfl) (fun s hg1=>?_)));iterate 3 focus (rfl)
 refine evc [] [] ?_;apply sq<;>intro h1 h1p h1s<;>(try simp only[Q,xa3,xal] at h1p);refine ixq sl32 Z Z Z (zah od) Z ?_;refine ev ?_;apply sq<;>intro h2 h2p h2s<;>(try simp only[Q,xa3,xal] at h2p);refine ar ?_;refine xaj ((s.1+1,if (nth l s.1).g.op=0 then s.2++za2 (zaS (nth l s.1).pat) else s.2)) ⟨(by
    by_cases hz:(nth l s.1).g.op=0
    ·have hp:zdm (nth l s.1).pat=true:=by
      cases hp:zdm (nth l s.1).pat with
      |true=>rfl
      |false=>have:=(hge s.1).2 hp;exfalso;first|omega|contradiction
     have h9:=zhf (nth l s.1).pat;have e:=zpN hp;refine⟨by dsimp only;omega, ?_, ?_⟩
     ·dsimp only;rw[if_pos hz,e,<-zgp (out:=s.2) od hz hp];exact hg1.2.1
     ·dsimp only;rw[if_pos hz,e,xaa];omega
    ·refine⟨by dsimp only;omega, ?_, ?_⟩
     ·dsimp only;rw[if_neg hz,<-zgr (out:=s.2) od hz];exact hg1.2.1
     ·dsimp only;rw[if_neg hz];omega),ox,sx ⟨⟨_,rfl,xaU ?_⟩,⟨⟨_,rfl,LeA.glg ?_⟩,trivial⟩⟩ ⟨zac ?_,trivial⟩⟩
 iterate 3 focus (first|rfl|(dsimp only;rw[if_neg ol];done))
 refine ixq sl32 Z Z Z (zah od) Z ?_;refine ev (wc zyo (zof (hc _ (zaf (i:=s.1) od)).1 (hc _ (zaf od)).2) Z Z ?_);refine ev ?_;apply sq<;>intro h3 h3p h3s<;>(try simp only[Q,xa3,xal] at h3p);refine rn0 (r2 Z Z) (.tup (qne ?_ ?_));rotate_left 2;refine ap sl72 zz74 Z Z Z (by exact zcv _) (by have:=hpl s.1;simp only[xa3];omega) ?_;refine ev (ar ?_);refine xaj ((s.1+1,if (nth l s.1).g.op=0 then s.2++za2 (zaS (nth l s.1).pat) else s.2)) ⟨(by
    by_cases hz:(nth l s.1).g.op=0
    ·have hp:zdm (nth l s.1).pat=true:=by
      cases hp:zdm (nth l s.1).pat with
      |true=>rfl
      |false=>have:=(hge s.1).2 hp;exfalso;first|omega|contradiction
     have h9:=zhf (nth l s.1).pat;have e:=zpN hp;refine⟨by dsimp only;omega, ?_, ?_⟩
     ·dsimp only;rw[if_pos hz,e,<-zgp (out:=s.2) od hz hp];exact hg1.2.1
     ·dsimp only;rw[if_pos hz,e,xaa];omega
    ·refine⟨by dsimp only;omega, ?_, ?_⟩
     ·dsimp only;rw[if_neg hz,<-zgr (out:=s.2) od hz];exact hg1.2.1
     ·dsimp only;rw[if_neg hz];omega),ox,sx ⟨⟨_,rfl,xaU ?_⟩,⟨⟨_,rfl,LeA.glg ?_⟩,trivial⟩⟩ ⟨zac ?_,trivial⟩⟩
 iterate 3 focus (first|rfl|(dsimp only;rw[if_pos ol,xa1,xa1,xa1,xag];done)|(dsimp only;rw[if_pos ol];simp[xa3];done))
 refine rn0 (r2 Z Z) (.tup (qge ?_ ?_));rotate_left 2;all_goals (first|(rw[<-hg1.2.1,znb od ol ((hge s.1).1 od)];rfl)|(rw[<-hg1.2.1,znc od];rfl))
theorem zog {w:List Data} (hs:Spa w){ta tk:Int} (ht:InS (w.length*4) ⟨ta,tk⟩){l:List Pat}{ok:Bool} (hl:∀a∈l,a.ok/\a.size<=1000000000000) (hb:l.length<=1000000000000):
  FnD Tryz.prog 212 [.d (zaj w),.agg [.d (.i ta),.d (.i tk)],.d (zak l),.d (.bool ok)] [] (.tup [.d (zak (if l.all (isP w ⟨ta,tk⟩)=true then l else [])),.d (.bool (l.all (isP w ⟨ta,tk⟩)&&ok))]) []:=by
 have hbad:∀i,i<l.length->isP w ⟨ta,tk⟩ (nth l i)=false->l.all (isP w ⟨ta,tk⟩)=false:=fun i hi h=>by
  cases hq:l.all (isP w ⟨ta,tk⟩) with
  |false=>rfl
  |true=>have:=List.all_eq_true.1 hq _ (zaf hi);rw[h] at this;cases this
 have hgood:(∀i,i<l.length->isP w ⟨ta,tk⟩ (nth l i)=true)->l.all (isP w ⟨ta,tk⟩)=true:=fun h=>List.all_eq_true.2 fun x hx=>by
  obtain⟨i,hi,rfl⟩:=List.getElem_of_mem hx;have:=h i hi;rwa [zaJ hi] at this
 refine bd Tryz.f212 29 [] [] fun _ _ _ _ hk=>?_;refine bx 3005 ?_;refine ev (xaB (ι:=Nat) hk (fun i=>[(10,.d (.i (i:Int)))]) [8,9,11,12,13,14,15,16,17,18,19,20,21,22,23,24,25] (fun i=>[]) (fun i=>i<=l.length/\∀i',i'<i->isP w ⟨ta,tk⟩ (nth l i')=true) (fun i=>l.length-i) 0 ⟨by omega,fun _ h=>absurd h od⟩ ⟨⟨_,Z,xaU ?_⟩,O⟩ O (fun x=>rfl) (fun i hg1=>?_));focus (rfl)
 refine evc [] [] ?_;apply sq<;>intro h1 h1p h1s<;>(try simp only[Q,xa3] at h1p);refine ixq sl72 Z Z Z (zaE od) Z ?_;refine evd [] [] (wc zqN (zh0 hs.dp.wt (zc2 ht) (hl _ (zaf (i:=i) od)).1 (hl _ (zaf od)).2) Z Z ?_);refine evd [] [] (dr ?_);apply sq<;>intro h2 h2p h2s;refine xb7 sl72 .none Z (ev (rn0 (r2 Z Z) (.tup (qee ?_ ?_))));rotate_left 2;try simp only[Q,xa3] at h2p
 refine ar (xaj (i+1) ⟨⟨by omega,zaZ hg1.2 ol⟩,od,sx ⟨⟨_,Z,xaU ?_⟩,O⟩ O⟩);focus (rfl)
 refine wc zyq (zqe hb (fun p hp=>(hl p hp).1)) Z Z ?_;refine ev (rn0 (r2 Z Z) (.tup (qee ?_ ?_)));rotate_left 2;all_goals (first|(rw[hbad i od ol];rfl)|(rw[hgood (fun x hx=>hg1.2 x od)];rfl))
theorem zo3 {w:List Data} (hsp:Spa w){a k:Int} (hin:InS (w.length*4) ⟨a,k⟩){l:List Cl} (h8:l.length<=8) (hsh:∀c∈l,zat w 10 ⟨a,k⟩ c.pat=true/\c.pat.ok):
  FnD Tryz.prog 165 [.d (zaj w),.agg [.d (.i a),.d (.i k)],.d (zak [anyQ]),.d (zcg l),.d (.i (l.length:Int))] [] (.tup [.d (zak ((ze1 w ⟨a,k⟩ l).getD [])),.d (.bool (ze1 w ⟨a,k⟩ l).isSome)]) []:=by
 have hco:=zoh (w:=w) (t:=⟨a,k⟩) h8 hsh;cases hq:zbO l [] with
 |none=>
  have e:ze1 w ⟨a,k⟩ l=none:=by unfold ze1;rw[hq]
  rw[hq] at hco;rw[e];refine bd Tryz.f165 42 [] [] fun _ _ _ _ hk=>?_;refine bx 3006 ?_;refine ev (wc zud hco Z Z ?_);refine ev ?_;apply sq<;>intro h1 h1p h1s<;>(try simp only[Q] at h1p);refine xb7 sl72 .none Z (ev (rn0 (r2 Z Z) (.tup (qee ?_ ?_))));rotate_left 2;exfalso;exact absurd h1 oi;all_goals (rfl)
 |some away=>
  rw[hq] at hco;obtain⟨p1,p2⟩:=zgq l [] away (fun c hc=>(hsh c hc).1) oi hq;have hwo:=zk3 hsp hin (l:=[anyQ]) (away:=away) zh7 p2 oi (by simp at p1;omega);have hrl2:((zaR w ⟨a,k⟩ [anyQ] away).getD []).length<=400/\∀x∈(zaR w ⟨a,k⟩ [anyQ] away).getD [],x.ok/\x.size<=1000000000000:=by
   cases hw:zaR w ⟨a,k⟩ [anyQ] away with
   |none=>exact⟨by simp,by simp⟩
   |some r=>
    have:=zg0 away _ r (fun x hx=>zh7 x (List.mem_filter.1 hx).1) (Nat.le_trans (List.length_filter_le _ _) oi) p2 hw;exact⟨this.1,fun x hx=>⟨(zhv hsp 11 hin (this.2 x hx)).1,by have:=(zhv hsp 11 hin (this.2 x hx)).2;have:=zrP (n:=11) od;omega⟩⟩
  have hre:=zog hsp hin (l:=(zaR w ⟨a,k⟩ [anyQ] away).getD []) (ok:=(zaR w ⟨a,k⟩ [anyQ] away).isSome) hrl2.2 od;have hem:(zaR w ⟨a,k⟩ [anyQ] away).isSome=false->(zaR w ⟨a,k⟩ [anyQ] away).getD []=[]:=fun h=>by
   cases hw:zaR w ⟨a,k⟩ [anyQ] away with
   |none=>rfl
   |some r=>rw[hw] at h;cases h
  have e:ze1 w ⟨a,k⟩ l=if (((zaR w ⟨a,k⟩ [anyQ] away).getD []).all (isP w ⟨a,k⟩)&&(zaR w ⟨a,k⟩ [anyQ] away).isSome)=true then some ((zaR w ⟨a,k⟩ [anyQ] away).getD []) else none:=by
   unfold ze1;rw[hq];cases hw:zaR w ⟨a,k⟩ [anyQ] away with
   |none=>simp[hw]
   |some r=>simp[hw]
  rw[e];generalize ((zaR w ⟨a,k⟩ [anyQ] away).getD []).all (isP w ⟨a,k⟩)=q at hre ⊢;generalize (zaR w ⟨a,k⟩ [anyQ] away).isSome=q2 at hre hwo hem ⊢;refine bd Tryz.f165 42 [] [] fun _ _ _ _ hk=>?_;refine bx 3006 ?_;refine ev (wc zud hco Z Z ?_);refine ev ?_;apply sq<;>intro h1 h1p h1s<;>(try simp only[Q] at h1p);exfalso;exact absurd h1 oi;refine wc zyb (zn9 hsp.dp) Z Z ?_;refine evd [] [] (wc zya hwo Z Z ?_);refine evd [] [] (dr (wc zyc hre Z Z ?_));refine ev (rn0 (r2 Z Z) (.tup (qee ?_ ?_)));rotate_left 2;all_goals (first|rfl|(cases q<;>cases q2<;>first|rfl|(rw[hem rfl];rfl)))
theorem zh6 {w:List Data} (hs:WSmall w){a k:Int}{l:List Cl} (hl:ClsOk l) (hz:ClsSz l):
  FnD Tryz.prog 111 [.d (zaj w),.agg [.d (.i a),.d (.i k)],.d (zcg l)] [] (.tup [.d (zak ((zcd w ⟨a,k⟩ l).getD [])),.d (.bool (zcd w ⟨a,k⟩ l).isSome)]) []:=by
 have hcv:=zdg hs (a:=a) (k:=k) hl hz;by_cases hv:zaW w ⟨a,k⟩ l=true
 ·have hm:zcd w ⟨a,k⟩ l=ze1 w ⟨a,k⟩ l:=by unfold zcd;rw[if_pos hv]
  rw[hm];have htv:=zsJ hv;have hsp:=zsh hs (zcj htv.1).1;have hin:InS (w.length*4) ⟨a,k⟩:=by
   obtain⟨_,_,h3⟩:=zcj htv.1;by_cases ha:a = -1
   ·exact .inl ha
   ·obtain⟨h4,h5,h6,h7⟩:=h3 ha;have:=zuN (n:=w.length) h5 (j:=k.toNat) od;rwa [Int.toNat_of_nonneg h4,Int.toNat_of_nonneg h6] at this
  have hre:=zo3 hsp hin htv.2 (zpa hv hl);have e1:zak [anyQ]=D.sl [[D.i 1,D.i 0,D.i 0,D.i 0,D.i 0,D.sl []]]:=rfl;rw[e1] at hre;rw[<-xac (f:=Cl.c)] at hre;refine bd Tryz.f111 24 [] [] fun _ _ _ _ hk=>?_;refine bx 3004 ?_;refine ev (wc zjp hcv Z Z ?_);refine ev ?_;apply sq<;>intro h1 h1p h1s<;>(try simp only[Q] at h1p);exfalso;rw[hv] at h1;exact absurd h1 oi;refine wc zt6 zj5 Z Z ?_;refine si [0] [_] sl72 tz74 ?_;refine evd [] [] (wc zxX hre Z Z ?_);refine evd [] [] (dr (rn0 (r2 Z Z) (.tup (qee ?_ ?_))));rotate_left 2;all_goals (rfl)
 ·have hv':zaW w ⟨a,k⟩ l=false:=by simpa using hv
  have hm:zcd w ⟨a,k⟩ l=none:=by unfold zcd;rw[if_neg hv]
  rw[hm];rw[hv'] at hcv;refine bd Tryz.f111 24 [] [] fun _ _ _ _ hk=>?_;refine bx 3004 ?_;refine ev (wc zjp hcv Z Z ?_);refine ev ?_;apply sq<;>intro h1 h1p h1s<;>(try simp only[Q] at h1p);refine xb7 sl72 .none Z (ev (rn0 (r2 Z Z) (.tup (qee ?_ ?_))));rotate_left 2;exfalso;exact absurd h1 oi;all_goals (rfl)
theorem zk0 {w:List Data} (hs:WSmall w){a k:Int}{l:List Cl} (hl:ClsOk l) (hz:ClsSz l):
  FnD Tryz.prog 52 [.d (zaj w),.agg [.d (.i a),.d (.i k)],.d (zcg l)] [] (.tup [.d (.bool (exhQ w ⟨a,k⟩ l)),.d (.bool (zcd w ⟨a,k⟩ l).isSome)]) []:=by
 have hmp:=zh6 hs (a:=a) (k:=k) hl hz;unfold exhQ;generalize zcd w ⟨a,k⟩ l=m at *;refine bd Tryz.f52 24 [] [] fun _ _ _ _ hk=>?_;refine bx 3004 ?_;refine ev (wc zxH hmp Z Z ?_);refine ev ?_;apply sq<;>intro h1 h1p h1s<;>(try simp only[Q,xa3,xal] at h1p);refine rn0 (r2 Z Z) (.tup (qee ?_ ?_));rotate_left 2;refine rn0 (r2 Z Z) (.tup (qee ?_ ?_));rotate_left 2;all_goals (first|rfl|(simp_all[xa3];done)|(cases m<;>simp_all[xa3];done)|(cases m<;>simp[xa3] at *;done))
def totL (w:List Data):List Fu->Bool->Bool×Bool
 | [],acc=>(acc,true)
 |f::r,acc=>if (zcd w f.ty.arg f.cls).isSome=true then totL w r (acc&&exhQ w f.ty.arg f.cls) else (false,false)
def totV (w:List Data) (l:List Fu):Bool×Bool:=if zb9 w l=true then totL w l true else (false,false)
theorem zeS {w:List Data}{f:Fu}{r:List Fu}{acc:Bool} (h:(zcd w f.ty.arg f.cls).isSome=true):totL w (f::r) acc=totL w r (acc&&exhQ w f.ty.arg f.cls):=by
 conv=>lhs;unfold totL
 rw[if_pos h]
theorem zmI {w:List Data}{f:Fu}{r:List Fu}{acc:Bool} (h:(zcd w f.ty.arg f.cls).isSome=false):totL w (f::r) acc=(false,false):=by
 unfold totL;rw[if_neg (by rw[h];simp)]
theorem zmJ {w:List Data}{l:List Fu} (h:zb9 w l=true):totV w l=totL w l true:=by unfold totV;rw[if_pos h]
theorem zo5 {w:List Data}{l:List Fu} (h:zb9 w l=false):totV w l=(false,false):=by unfold totV;rw[if_neg (by rw[h];simp)]
theorem zlE {w:List Data} (hs:WSmall w){l:List Fu} (hl:FusOk l):FnD Tryz.prog 21 [.d (zaj w),.d (zbB l)] [] (.tup [.d (.bool (totV w l).1),.d (.bool (totV w l).2)]) []:=by
 have hll:=hl.1;have hno:=zo5 (w:=w) (l:=l);have hyes:=zmJ (w:=w) (l:=l);refine bd Tryz.f21 39 [] [] fun _ _ _ _ hk=>?_;refine wc cal7 (zlC hs hl) Z Z ?_;refine ev ?_;apply sq<;>intro h1 h1p h1s;refine rn0 (r2 Z Z) (.tup (qee ?_ ?_));rotate_left 2;refine xaB (ι:=List (Fu)×List (Fu)×(Bool)) hk (fun x=>[(17,.d (.i (x.1.length:Int))),(6,.d (.bool x.2.2))]) [4,5,8,9,10,18,19,20,21,22,23,24,25,26,27,28,29,30,31,32,33,34,35,36,37] (fun x=>[]) (fun x=>x.1++x.2.1=l/\totL w x.2.1 x.2.2=totL w l true) (fun x=>x.2.1.length) ([],l,true) ⟨by simp,Z⟩ ⟨⟨_,Z,xaU ?_⟩,⟨⟨_,Z,xaT ?_⟩,O⟩⟩ O (fun x=>rfl) (fun x hg1=>?_);iterate 2 focus (rfl)
 obtain⟨pre,rest,acc⟩:=x;dsimp only at hg1 ⊢;refine evc [] [] ?_;apply sq<;>intro h2 h2p h2s<;>(try simp only[Q] at h2p);rcases rest with _|⟨y,rest⟩
 ·exfalso;simp_all
 refine ixq sl24 Z Z Z (zaA hg1.1) Z (ev (ab 3008 tz35 ?_));refine so ty35 ?_;apply tv;refine wc zwl (zgH hs (a:=y.ty.arg.data) (k:=y.ty.arg.index) (hl.2 y (by rw[<-hg1.1];simp)).1) Z Z ?_;refine ev ?_;apply sq<;>intro h3 h3p h3s<;>(try simp only[Q] at h3p);refine rn0 (r2 Z Z) (.tup (qee ?_ ?_));rotate_left 2;apply sq<;>intro h4 h4p h4s<;>(try simp only[Q] at h4p);refine ar (xaj ((pre++[y],rest,acc&&exhQ w y.ty.arg y.cls)) ⟨⟨(by have hz:=hg1.1;rw[<-hz];simp),(by rw[<-hg1.2,zeS ol])⟩,oi,sx ⟨⟨_,Z,xaU ?_⟩,⟨⟨_,Z,xaT ?_⟩,O⟩⟩ O⟩);iterate 2 focus (first|(simp;done)|(cases acc<;>first|rfl|contradiction))
 refine ar (xaj ((pre++[y],rest,acc&&exhQ w y.ty.arg y.cls)) ⟨⟨(by have hz:=hg1.1;rw[<-hz];simp),(by rw[<-hg1.2,zeS ol])⟩,oi,sx ⟨⟨_,Z,xaU ?_⟩,⟨⟨_,Z,xaT ?_⟩,O⟩⟩ O⟩);iterate 2 focus (first|(simp;done)|(cases acc<;>first|rfl|contradiction))
 have hrest:rest=[]:=by
  rcases rest with _|⟨a,b⟩
  ·rfl
  ·exfalso;have hz:=xam List.length (hg1.1);simp only[xaa,xab,xac] at hz;omega
 subst hrest;refine rn0 (r2 Z Z) (.tup (qee ?_ ?_));rotate_left 2;all_goals (first|(rw[hno ol];all_goals rfl)|(rw[hyes ol,<-hg1.2,zmI ol];all_goals rfl)|(rw[hyes ol,<-hg1.2];all_goals rfl))
theorem zlL {w:List Data} (hs:WSmall w){l:List Fu} (hl:FusOk l) (hz:FusSz l):FnD Tryz.prog 22 [.d (zaj w),.d (zbB l)] [] (.tup [.d (.bool (totV w l).1),.d (.bool (totV w l).2)]) []:=by
 have hll:=hl.1;have hno:=zo5 (w:=w) (l:=l);have hyes:=zmJ (w:=w) (l:=l);refine bd Tryz.f22 43 [] [] fun _ _ _ _ hk=>?_;refine wc cal8 (zc9 hs hl hz) Z Z ?_;refine ev ?_;apply sq<;>intro h1 h1p h1s;refine rn0 (r2 Z Z) (.tup (qee ?_ ?_));rotate_left 2;refine xaB (ι:=List (Fu)×List (Fu)×(Bool)) hk (fun x=>[(7,.d (.i (x.1.length:Int))),(6,.d (.bool x.2.2))]) [4,5,8,9,14,15,16,17,18,19,20,21,22,23,24,25,26,27,28,29,30,31,32,33,34,35,36,37,38,39,40,41] (fun x=>[]) (fun x=>x.1++x.2.1=l/\totL w x.2.1 x.2.2=totL w l true) (fun x=>x.2.1.length) ([],l,true) ⟨by simp,Z⟩ ⟨⟨_,Z,xaU ?_⟩,⟨⟨_,Z,xaT ?_⟩,O⟩⟩ O (fun x=>rfl) (fun x hg1=>?_);iterate 2 focus (rfl)
 obtain⟨pre,rest,acc⟩:=x;dsimp only at hg1 ⊢;refine evc [] [] ?_;apply sq<;>intro h2 h2p h2s<;>(try simp only[Q] at h2p);rcases rest with _|⟨y,rest⟩
 ·exfalso;simp_all
 refine ixq sl24 Z Z Z (zaA hg1.1) Z (evd [] [] (ixq sl24 Z Z Z (zaA hg1.1) Z (evd [] [] (wc zzh (zk0 hs (a:=y.ty.arg.data) (k:=y.ty.arg.index) (hl.2 y (by rw[<-hg1.1];simp)).1 (hz y (by rw[<-hg1.1];simp)).1) Z Z ?_))));refine evd [] [] (dr ?_);apply sq<;>intro h3 h3p h3s<;>(try simp only[Q] at h3p);refine rn0 (r2 Z Z) (.tup (qee ?_ ?_));rotate_left 2;apply sq<;>intro h4 h4p h4s<;>(try simp only[Q] at h4p);refine ar (xaj ((pre++[y],rest,acc&&exhQ w y.ty.arg y.cls)) ⟨⟨(by have hz:=hg1.1;rw[<-hz];simp),(by rw[<-hg1.2,zeS ol])⟩,oi,sx ⟨⟨_,Z,xaU ?_⟩,⟨⟨_,Z,xaT ?_⟩,O⟩⟩ O⟩);iterate 2 focus (first|(simp;done)|(cases acc<;>first|rfl|contradiction))
 refine ar (xaj ((pre++[y],rest,acc&&exhQ w y.ty.arg y.cls)) ⟨⟨(by have hz:=hg1.1;rw[<-hz];simp),(by rw[<-hg1.2,zeS ol])⟩,oi,sx ⟨⟨_,Z,xaU ?_⟩,⟨⟨_,Z,xaT ?_⟩,O⟩⟩ O⟩);iterate 2 focus (first|(simp;done)|(cases acc<;>first|rfl|contradiction))
 have hrest:rest=[]:=by
  rcases rest with _|⟨a,b⟩
  ·rfl
  ·exfalso;have hz:=xam List.length (hg1.1);simp only[xaa,xab,xac] at hz;omega
 subst hrest;refine rn0 (r2 Z Z) (.tup (qee ?_ ?_));rotate_left 2;all_goals (first|(rw[hno ol];all_goals rfl)|(rw[hyes ol,<-hg1.2,zmI ol];all_goals rfl)|(rw[hyes ol,<-hg1.2];all_goals rfl))
theorem zvo {w:List Data}{f:Fu}{r:List Fu}{acc:Bool} (h:(totL w (f::r) acc).2=true):(zcd w f.ty.arg f.cls).isSome=true:=by
 cases e:(zcd w f.ty.arg f.cls).isSome with
 |true=>rfl
 |false=>rw[zmI e] at h;cases h
theorem ziH {b:Str} (hb:b.length<=1000000000000){w:List Data} (hs:WSmall w){l:List Fu} (hok:FusOk l) (hsz:FusSz l)
  (hdr:FnD Tryz.prog 20 [.d (zd9 b)] [] (.tup [.d (zaj w),.d (zbB l)]) []):FnD Tryz.prog 5 [.d (zd9 b)] [] (.d (.bool true)) []:=by
 have himp:=zlE hs hok;have hspec:=zlL hs hok hsz;have hl1:=hok.1;cases hv:zb9 w l with
 |false=>
  rw[zo5 hv] at himp hspec;refine bd Tryz.f5 85 [35,39,47,51] [] fun _ _ _ _ hk=>?_;apply sq<;>intro h1 h1p h1s;refine rq ?_;rotate_left;refine wc zth hdr Z Z ?_;refine evs [35,39,47,51] [] (wc zti himp Z Z ?_);refine evs [35,39,47,51] [] (wc ztj hspec Z Z ?_);refine evs [35,39,47,51] [] (xbZ un4 .none Z Z Z (evs [35,39,47,51] [] ?_));apply sq<;>intro h2 h2p h2s;refine sqT ?_;refine sqT ?_;refine xbF un4 .none Z Z Z (evs [35,39,47,51] [] ?_);apply sq<;>intro h4 h4p h4s;refine xbF un4 (.some Z Z h4) Z Z Z (evs [35,39,47,51] [(48,true)] ?_ ⟨⟨_,Z,h4⟩,O⟩);refine rq ?_;rotate_left;refine rq ?_;rotate_left;refine xbZ un4 (.some Z Z h2) Z Z Z (evs [35,39,47,51] [(36,false)] ?_ ⟨⟨_,Z,h2⟩,O⟩);apply sq<;>intro h5 h5p h5s;refine sqT ?_;refine xbF un4 .none Z Z Z (evs [35,39,47,51] [] ?_);apply sq<;>intro h7 h7p h7s;refine xbF un4 (.some Z Z h7) Z Z Z (evs [35,39,47,51] [(48,true)] ?_ ⟨⟨_,Z,h7⟩,O⟩);refine rq ?_;rotate_left;refine rq ?_;rotate_left;apply sq<;>intro h8 h8p h8s;refine xbF un4 .none Z Z Z (evs [35,39,47,51] [] ?_);apply sq<;>intro h9 h9p h9s;refine xbF un4 (.some Z Z h9) Z Z Z (evs [35,39,47,51] [(48,true)] ?_ ⟨⟨_,Z,h9⟩,O⟩);refine rq ?_;rotate_left;refine rq ?_;rotate_left;focus (exfalso;contradiction)
  all_goals (first|rfl|contradiction)
 |true=>
  rw[zmJ hv] at himp hspec;cases h2:(totL w l true).2 with
  |false=>
   rw[h2] at himp hspec;generalize (totL w l true).1=q1 at *;refine bd Tryz.f5 85 [35,39,47,51] [] fun _ _ _ _ hk=>?_;apply sq<;>intro h1 h1p h1s;refine rq ?_;rotate_left;refine wc zth hdr Z Z ?_;refine evs [35,39,47,51] [] (wc zti himp Z Z ?_);refine evs [35,39,47,51] [] (wc ztj hspec Z Z ?_);refine evs [35,39,47,51] [] (xbZ un4 .none Z Z Z (evs [35,39,47,51] [] ?_));apply sq<;>intro h2 h2p h2s;refine sqT ?_;refine sqT ?_;refine xbF un4 .none Z Z Z (evs [35,39,47,51] [] ?_);apply sq<;>intro h4 h4p h4s;refine xbF un4 (.some Z Z h4) Z Z Z (evs [35,39,47,51] [(48,true)] ?_ ⟨⟨_,Z,h4⟩,O⟩);refine rq ?_;rotate_left;refine rq ?_;rotate_left;refine xbZ un4 (.some Z Z h2) Z Z Z (evs [35,39,47,51] [(36,false)] ?_ ⟨⟨_,Z,h2⟩,O⟩);apply sq<;>intro h5 h5p h5s;refine sqT ?_;refine xbF un4 .none Z Z Z (evs [35,39,47,51] [] ?_);apply sq<;>intro h7 h7p h7s;refine xbF un4 (.some Z Z h7) Z Z Z (evs [35,39,47,51] [(48,true)] ?_ ⟨⟨_,Z,h7⟩,O⟩);refine rq ?_;rotate_left;refine rq ?_;rotate_left;apply sq<;>intro h8 h8p h8s;refine xbF un4 .none Z Z Z (evs [35,39,47,51] [] ?_);apply sq<;>intro h9 h9p h9s;refine xbF un4 (.some Z Z h9) Z Z Z (evs [35,39,47,51] [(48,true)] ?_ ⟨⟨_,Z,h9⟩,O⟩);refine rq ?_;rotate_left;refine rq ?_;rotate_left;focus (exfalso;contradiction)
   all_goals ((cases q1<;>first|rfl|contradiction|(simp at *;done)))
  |true=>
   have hq1:∀acc,totL w [] acc=totL w l true->(totL w l true).1=acc:=fun acc h=>by rw[<-h];rfl
   rw[h2] at himp hspec;have hsome:∀(y:Fu) (r:List Fu) (acc:Bool),totL w (y::r) acc=totL w l true->(zcd w y.ty.arg y.cls).isSome=true:=fun y r acc h=>zvo (by rw[h];exact h2);clear h2;refine bd Tryz.f5 85 [35,39,84] [] fun _ _ _ _ hk=>?_;apply sq<;>intro h1 h1p h1s;refine rq ?_;rotate_left;refine wc zth hdr Z Z ?_;refine evs [35,39,84] [] (wc zti himp Z Z ?_);refine evs [35,39,84] [] (wc ztj hspec Z Z ?_);refine evs [35,39,84] [] (xbZ un4 .none Z Z Z (evs [35,39,84] [] ?_));apply sq<;>intro h2 h2p h2s;refine sqT ?_;refine sqT ?_;focus (exfalso;(simp at *;done))
   refine xbZ un4 (.some Z Z h2) Z Z Z (evs [35,39,84] [(36,false)] ?_ ⟨⟨_,Z,h2⟩,O⟩);apply sq<;>intro h4 h4p h4s;refine sqT ?_;focus (exfalso;contradiction)
   apply sq<;>intro h6 h6p h6s;focus (exfalso;contradiction)
   refine xaB (ι:=List (Fu)×List (Fu)×(Bool)) hk (fun x=>[(10,.d (.i (x.1.length:Int))),(9,.d (.bool x.2.2))]) [11,12,53,54,55,56,57,58,59,60,61,62,63,64,65,66,67,68,69,70,71,72,73,74,75,76,77,78,79,80,81] (fun x=>[]) (fun x=>x.1++x.2.1=l/\totL w x.2.1 x.2.2=totL w l true) (fun x=>x.2.1.length) ([],l,true) ⟨by simp,Z⟩ ⟨⟨_,Z,xaU ?_⟩,⟨⟨_,Z,xaT ?_⟩,O⟩⟩ O (fun x=>rfl) (fun x hg1=>?_);iterate 2 focus (rfl)
   obtain⟨pre,rest,acc⟩:=x;dsimp only at hg1 ⊢;refine evc [35,39,84] [] ?_;apply sq<;>intro h7 h7p h7s<;>(try simp only[Q] at h7p);rcases rest with _|⟨y,rest⟩
   ·exfalso;simp_all
   have hsy:=hsome y rest acc hg1.2;refine ixq sl24 Z Z Z (zaA hg1.1) Z (evd [35,39,84] [] (ixq sl24 Z Z Z (zaA hg1.1) Z (evd [35,39,84] [] (wc zwl (zgH hs (a:=y.ty.arg.data) (k:=y.ty.arg.index) (hok.2 y (by rw[<-hg1.1];simp)).1) Z Z ?_))));refine evd [35,39,84] [] (dr ?_);apply sq<;>intro h8 h8p h8s<;>(try simp only[Q] at h8p);apply sq<;>intro h9 h9p h9s<;>(try simp only[Q] at h9p);refine ar (xaj ((pre++[y],rest,acc&&exhQ w y.ty.arg y.cls)) ⟨⟨(by have hz:=hg1.1;rw[<-hz];simp),(by rw[<-hg1.2,zeS hsy])⟩,oi,sx ⟨⟨_,Z,xaU ?_⟩,⟨⟨_,Z,xaT ?_⟩,O⟩⟩ O⟩);iterate 2 focus ((have hz:(zcd w ⟨y.ty.arg.data,y.ty.arg.index⟩ y.cls).isSome=true:=hsy;simp_all;done))
   refine ar (xaj ((pre++[y],rest,acc&&exhQ w y.ty.arg y.cls)) ⟨⟨(by have hz:=hg1.1;rw[<-hz];simp),(by rw[<-hg1.2,zeS hsy])⟩,oi,sx ⟨⟨_,Z,xaU ?_⟩,⟨⟨_,Z,xaT ?_⟩,O⟩⟩ O⟩);iterate 2 focus ((have hz:(zcd w ⟨y.ty.arg.data,y.ty.arg.index⟩ y.cls).isSome=true:=hsy;simp_all;done))
   refine sqF ?_;refine ar (xaj ((pre++[y],rest,acc&&exhQ w y.ty.arg y.cls)) ⟨⟨(by have hz:=hg1.1;rw[<-hz];simp),(by rw[<-hg1.2,zeS hsy])⟩,oi,sx ⟨⟨_,Z,xaU ?_⟩,⟨⟨_,Z,xaT ?_⟩,O⟩⟩ O⟩);iterate 2 focus (first|(simp;done)|(cases acc<;>first|rfl|contradiction))
   have hrest:rest=[]:=by
    rcases rest with _|⟨a,b⟩
    ·rfl
    ·exfalso;have hz:=xam List.length (hg1.1);simp only[xaa,xab,xac] at hz;omega
   subst hrest;refine xbF un4 .none Z Z Z (evs [35,39,84] [] (rq ?_));rotate_left;all_goals (first|rfl|(refine xam D.bool (xax ?_);exact hq1 _ hg1.2))
theorem ziG {b:Str} (hb:b.length<=1000000000000):FnD Tryz.prog 5 [.d (zd9 b)] [] (.d (.bool true)) []:=by
 obtain⟨l,⟨hl5,hg⟩,hdr⟩:=zjb hb;obtain⟨hok,hsz⟩:=zvM hl5 hg;exact ziH hb zh3 hok hsz hdr
end Go.Proofs.YtmchfdpleibpdaaGreat
namespace Go.Proofs.YtmchfdpleibpdaaGreat
open Go Go.ChangeShapes Go.WideShapes Go.ChangeAt Go.RowKit
set_option linter.unusedSimpArgs false
set_option linter.unusedVariables false
set_option linter.unusedVariables false
def FW (W:World) (b:Nat):Nat:=match W.heap[b]? with
 |some (.cells cs _ _)=>cs.size
 |_=>0
theorem FW_cell {W:World}{b o:Nat}{v:Value} (h:W.cell? ⟨b,o,none⟩=some v):o<FW W b:=by
 unfold World.cell? at h;unfold FW;simp only at h;split at h
 ·rename_i c t fr hb;simp only[hb];simp only[Option.isSome_none,Bool.false_eq_true,if_false] at h;exact(Array.getElem?_eq_some_iff.1 h).1
 ·cases h
theorem FW_top {W:World}{b:Nat} (h:W.heap.size<=b):FW W b=0:=by
 unfold FW;rw[Array.getElem?_eq_none h]
structure RelL (W:World) (xs:List D) (cs:List Value):Prop where
 len:xs.length=cs.length
 rel:∀i (h1:i<xs.length) (h2:i<cs.length),RelD (FW W) W xs[i] cs[i]
theorem RelL.append {W:World}{xs ys:List D}{cs ds:List Value} (h:RelL W xs cs) (k:RelL W ys ds):RelL W (xs++ys) (cs++ds):=by
 refine⟨by simp[h.len,k.len],fun i h1 h2=>?_⟩;by_cases hi:i<xs.length
 ·rw[List.getElem_append_left hi,List.getElem_append_left (by rw[<-h.len];exact hi)];exact h.rel i hi (by rw[<-h.len];exact hi)
 ·have hl:=h.len;rw[List.getElem_append_right od,List.getElem_append_right od];have e:i-xs.length=i-cs.length:=by omega
  have h1':i-xs.length<ys.length:=by simp only[xaa] at h1;omega
  have h2':i-cs.length<ds.length:=by simp only[xaa] at h2;omega
  have:=k.rel (i-xs.length) h1' od;simp only[e] at this ⊢;exact this
def Dec (P:Program) (W:World) (n:Nat) (t:TypeId){α:Type} (f:α->List D) (m:α->Nat) (R:α->Prop):Prop:=
 ∀(H:Type) (enc:TypeId×Value->H) (cs:List Value) (x:DataW H×List MemPlace),DataW.trod enc P W 0 (fun _=>true) true n t cs=some x->
  ∃a,RelL W (f a) cs/\m a+1<=Rows.uptoBulk x.1/\R a
section
variable {P:Program}{W:World}{n:Nat}{t:TypeId}
theorem Dec.zero {α:Type}{f:α->List D}{m:α->Nat}{R:α->Prop}:Dec P W 0 t f m R:=fun H enc cs x h=>by simp[DataW.trod] at h
theorem Dec.map {α β:Type}{f:α->List D}{m:α->Nat}{R:α->Prop}{f':β->List D}{m':β->Nat}{R':β->Prop} (g:α->β) (h:Dec P W n t f m R)
  (h1:∀a,f' (g a)=f a) (h2:∀a,m' (g a)<=m a) (h3:∀a,R a->R' (g a)):Dec P W n t f' m' R':=fun H enc cs x hx=>by
 obtain⟨a,q1,q2,q3⟩:=h H enc cs x hx;exact⟨g a,by rw[h1];exact q1,by have:=h2 a;omega,h3 a q3⟩
theorem RelL.one {x:D}{v:Value} (h:RelD (FW W) W x v):RelL W [x] [v]:=
 ⟨rfl,fun i h1 h2=>by
  have:i=0:=by simp at h1;omega
  subst this;exact h⟩
theorem Dec.int {k:IntKind} (ht:P.underlying t=some (.int k)):Dec P W n t (fun z:Int=>[.int k z]) (fun _=>0) (fun z=>(Lit.int k z).wf=true):=fun H enc cs x h=>by
 obtain⟨z,rfl,rfl,hw⟩:=DataW.trod_int ht h;exact⟨z,.one (.int k z),by simp[Rows.uptoBulk],hw⟩
theorem Dec.bool (ht:P.underlying t=some .bool):Dec P W n t (fun z:Bool=>[.bool z]) (fun _=>0) (fun _=>True):=fun H enc cs x h=>by
 obtain⟨z,rfl,rfl⟩:=DataW.trod_bool ht h;exact⟨z,.one (.bool z),by simp[Rows.uptoBulk],trivial⟩
theorem Dec.str (ht:P.underlying t=some .string):Dec P W n t (fun s:Str=>[.str s]) (fun s=>s.length) (fun _=>True):=fun H enc cs x h=>by
 obtain⟨s,rfl,rfl,hw⟩:=DataW.trod_string ht h;exact⟨s.data.toList,.one (by have:=RelD.str (F:=FW W) (w:=W) s.data.toList;simpa using this),by simp[Rows.uptoBulk],trivial⟩
def sumM {α:Type} (m:α->Nat):List α->Nat
 | []=>0
 |a::r=>m a+1+sumM m r
theorem zsa {α:Type} (m:α->Nat):∀l:List α,l.length<=sumM m l
 | []=>by simp[sumM]
 |a::r=>by have:=zsa m r;simp only[sumM,xab];omega
theorem zlQ {α β:Type}{Q:Nat->α->β->Prop}:∀(l:List β) (o:Nat),(∀i (h:i<l.length),∃a,Q (o+i) a l[i])->∃zs:List α,zs.length=l.length/\∀i (h:i<l.length) (h':i<zs.length),Q (o+i) zs[i] l[i]
 | [],o,_=>⟨[],rfl,fun i h=>by simp at h⟩
 |b::r,o,h=>by
  obtain⟨a,ha⟩:=h 0 oi;obtain⟨zs,h1,h2⟩:=zlQ (Q:=Q) r (o+1) (fun i hi=>by
   have:=h (i+1) ot;rw[show o+1+i=o+(i+1) by omega];simpa using this)
  refine⟨a::zs,by simp[h1],fun i hi hi'=>?_⟩;cases i with
  |zero=>exact ha
  |succ i=>
   have:=h2 i (by simpa using hi) (by simpa using hi');rw[show o+1+i=o+(i+1) by omega] at this;simpa using this
theorem zqG {H α:Type}{m:α->Nat}:∀ {zs:List α}{xs:List (DataW H)},zs.length=xs.length->(∀i (h:i<zs.length) (h':i<xs.length),m zs[i]+1<=Rows.uptoBulk xs[i])->sumM m zs<=Rows.uptoBulkAll xs
 | [],[],_,_=>by simp[sumM,Rows.uptoBulkAll]
 |a::zs,x::xs,hl,h=>by
  have h0:=h 0 oi oi;have ih:=zqG (m:=m) (zs:=zs) (xs:=xs) (by simpa using hl) (fun i h1 h2=>by
   have:=h (i+1) ot ot;simpa using this)
  simp only[sumM,Rows.uptoBulkAll];simp only[List.getElem_cons_zero] at h0;omega
 | [],_::_,hl,_=>by simp at hl
 |_::_,[],hl,_=>by simp at hl
theorem Dec.sl {α:Type}{f:α->List D}{m:α->Nat}{R:α->Prop}{e:TypeId}{k:Nat} (ht:P.underlying t=some (.slice e)) (hc:P.cellsOf e=k+1) (hk:∀a,(f a).length=k+1) (he:Dec P W n e f m R):
  Dec P W (n+1) t (fun l:List α=>[.sl (l.map f)]) (fun l=>sumM m l) (fun l=>∀a∈l,R a):=fun H enc cs x h=>by
 rcases DataW.trod_slice ht h with ⟨rfl,rfl⟩|⟨a,len,cap,elems,rest,n',hn,rfl,rfl,_,hcap,_,hlen,hel,_,_⟩
 ·exact⟨[],.one .nil,by simp[sumM,Rows.uptoBulk],fun a h=>by simp at h⟩
 obtain rfl:n=n':=by omega
 have each:∀i (hi:i<elems.length),∃y,(∃cs,W.cells? 0 (a.add (i*(k+1))) (k+1)=some cs/\RelL W (f y) cs)/\m y+1<=Rows.uptoBulk (elems[i]).1/\R y:=by
  intro i hi;have:=hel i od;rw[hc,xan hi,Option.bind_eq_some_iff] at this;obtain⟨cs,h1,h2⟩:=this;obtain⟨y,h3,h4,h5⟩:=he H enc cs _ h2;exact⟨y,⟨cs,h1,h3⟩,h4,h5⟩
 obtain⟨zs,hal,has⟩:=zlQ (Q:=fun i y (el:DataW H×List MemPlace)=>(∃cs,W.cells? 0 (a.add (i*(k+1))) (k+1)=some cs/\RelL W (f y) cs)/\m y+1<=Rows.uptoBulk el.1/\R y) elems 0 (fun i hi=>by simpa using each i hi);refine⟨zs,.one ?_, ?_,fun y hy=>?_⟩
 ·by_cases h0:zs=[]
  ·subst h0;have hz:len=0:=by simp at hal;omega
   subst hz;obtain⟨b,o,s⟩:=a;cases s with
   |none=>exact .sl [] 0 b o cap (fun _=>undef) oi oi (fun n hn=>by simp at hn) (fun i hi=>by simp at hi)
   |some s=>exact .emp b o s cap
  ·have hpos:0<zs.length:=List.length_pos_iff.2 h0;obtain⟨⟨cs0,hc0,hr0⟩,_⟩:=has 0 od hpos;have hspot:a.spot=none:=by
    have h1:=(World.cells?_some hc0).2.2 0 od;have h2:0<cs0.length:=by have:=(World.cells?_some hc0).2.1;omega
    simp only[Nat.add_zero,Nat.zero_mul,Addr.add,if_true,xan h2] at h1;unfold World.cell? at h1;split at h1
    ·cases hs:a.spot with
     |none=>rfl
     |some s=>simp[hs] at h1
    ·cases h1
   obtain⟨b,o,s⟩:=a;simp only at hspot;subst hspot;have hlen':(zs.map f).length=len:=by simp;omega
   have hmulk:∀i j,i<zs.length->j<k+1->i*(k+1)+j<zs.length*(k+1):=fun i j hi hj=>by
    have:(i+1)*(k+1)<=zs.length*(k+1):=xav _ od;rw[Nat.add_mul,Nat.one_mul] at this;omega
   have cellAt:∀i (hi:i<zs.length) j (hj:j<(f zs[i]).length),∃v,W.cell? ⟨b,o+(i*(k+1)+j),none⟩=some v/\RelD (FW W) W ((f zs[i])[j]) v:=fun i hi j hj=>by
    obtain⟨⟨cs,hc1,hr1⟩,_⟩:=has i od hi;have hjk:j<k+1:=by have:=hk zs[i];omega
    obtain⟨_,q1,q2⟩:=World.cells?_some hc1;have q3:=q2 j hjk;rw[xan od] at q3;refine⟨cs[j], ?_,hr1.rel j hj od⟩;rw[<-q3];congr 1
    simp only[Nat.zero_add,Addr.add];split<;>split<;>simp_all<;>omega
   have hv:((zs.map f).length,cap)=(len,cap):=by rw[hlen']
   have goal:RelD (FW W) W (.sl (zs.map f)) (.slice (some ⟨b,o,none⟩) (zs.map f).length cap):=by
    refine .sl _ (k+1) b o cap (fun q=>(W.cell? ⟨b,o+q,none⟩).getD undef) (fun y hy=>?_) od (fun q hq=>?_) (fun i hi j hj=>?_)
    ·obtain⟨y',_,rfl⟩:=List.mem_map.1 hy;exact hk y'
    ·have hq':q<zs.length*(k+1):=by simpa using hq
     have hi:q / (k+1)<zs.length:=Nat.div_lt_of_lt_mul (by rw[Nat.mul_comm];exact hq');have hj:q % (k+1)<k+1:=Nat.mod_lt _ od;obtain⟨v,h1,_⟩:=cellAt _ hi (q % (k+1)) (by rw[hk];exact hj);rw[Nat.div_add_mod'] at h1;exact⟨FW_cell h1,by rw[h1];rfl⟩
    ·have hi':i<zs.length:=by simpa using hi
     simp only[List.getElem_map] at hj ⊢;obtain⟨v,h1,h2⟩:=cellAt i hi' j hj;show RelD (FW W) W _ ((W.cell? ⟨b,o+(i*(k+1)+j),none⟩).getD undef)
     rw[h1];exact h2
   rw[hlen'] at goal;exact goal
 ·have:=zqG (m:=m) (zs:=zs) (xs:=elems.map (·.1)) (by simp[hal]) (fun i h1 h2=>by
   have:=(has i (by simpa using h2) h1).2.1;simpa using this)
  simp only[Rows.uptoBulk];omega
 ·obtain⟨i,hi,rfl⟩:=List.getElem_of_mem hy;exact(has i od hi).2.2
def DecF (P:Program) (W:World) (n o K:Nat) (fs:List Field){α:Type} (f:α->List D) (m:α->Nat) (R:α->Prop):Prop:=
 ∀(H:Type) (enc:TypeId×Value->H) (cs:List Value) (xs:List (DataW H×List MemPlace)),cs.length=K->xs.length=fs.length->
  (∀(i:Nat) (fd:Field),fs[i]?=some fd->DataW.trod enc P W 0 (fun _=>true) true n fd.type ((cs.drop fd.offset).take (P.cellsOf fd.type))=xs[i]?)->
  ∃a,RelL W (f a) (cs.drop o)/\m a<=Rows.uptoBulkAll (xs.map (·.1))/\R a
theorem DecF.nil {K:Nat}:DecF P W n K K [] (fun _:Unit=>[]) (fun _=>0) (fun _=>True):=fun H enc cs xs h1 h2 _=>
 ⟨(),by rw[List.drop_of_length_le od];exact⟨rfl,fun i h=>by simp at h⟩,by simp,trivial⟩
theorem DecF.cons {α β:Type}{f:α->List D}{m:α->Nat}{R:α->Prop}{f2:β->List D}{m2:β->Nat}{R2:β->Prop}{o K k:Nat}{fd:Field}{fs:List Field}
  (h1:Dec P W n fd.type f m R) (ho:fd.offset=o) (hc:P.cellsOf fd.type=k) (h2:DecF P W n (o+k) K fs f2 m2 R2):
  DecF P W n o K (fd::fs) (fun p:α×β=>f p.1++f2 p.2) (fun p=>m p.1+1+m2 p.2) (fun p=>R p.1/\R2 p.2):=fun H enc cs xs hK hl hx=>by
 cases xs with
 |nil=>simp at hl
 |cons y ys=>
  have h0:=hx 0 fd oi;simp only[List.getElem?_cons_zero] at h0;rw[ho,hc] at h0;obtain⟨a,q1,q2,q3⟩:=h1 H enc _ _ h0;obtain⟨b,r1,r2,r3⟩:=h2 H enc cs ys hK (by simpa using hl) (fun i fd' hi=>by
   have:=hx (i+1) fd' (by simpa using hi);simpa using this)
  refine⟨(a,b), ?_, ?_,q3,r3⟩
  ·have:cs.drop o=(cs.drop o).take k++cs.drop (o+k):=by
    rw[<-List.drop_drop,List.take_append_drop]
   rw[this];exact q1.append r1
  ·simp only[xaf,Rows.uptoBulkAll];omega
theorem Dec.struct {α:Type}{f:α->List D}{m:α->Nat}{R:α->Prop}{fs:Array Field} (ht:P.underlying t=some (.struct fs)){K:Nat} (hK:P.cellsOf t=K) (h:DecF P W n 0 K fs.toList f m R):
  Dec P W (n+1) t f m R:=fun H enc cs x hx=>by
 obtain⟨xs,n',hn,rfl,hl,hxl,hf⟩:=DataW.trod_struct ht hx;obtain rfl:n=n':=by omega
 obtain⟨a,q1,q2,q3⟩:=h H enc cs xs od (by simpa using hxl) (fun i fd hi=>hf i fd (by simpa using hi));refine⟨a,by simpa using q1, ?_,q3⟩;simp only[Rows.uptoBulk];omega
end
section
variable {P:Program}{W:World}{base:Nat}{t:TypeId}{v:Value}{H:Type}{enc:TypeId×Value->H}{d:DataW H}{ps:List MemPlace}
theorem zxG {α:Type}{e:TypeId}{f:α->List D}{m:α->Nat}{R:α->Prop}{k:Nat} (ht:P.underlying t=some (.slice e)) (hc:P.cellsOf e=k+1) (hk:∀a,(f a).length=k+1) (hd:∀n,Dec P W n e f m R)
  (hval:Value.okWide P W .any base t v) (h:DataW.Trod enc P W 0 (fun _=>true) true t v d ps):
  ∃l:List α,(∀G T,G.F=FW W->RelA G T W (.d (.sl (l.map f))) v)/\sumM m l+1<=Rows.uptoBulk d/\∀a∈l,R a:=by
 obtain⟨n,hn⟩:=h;cases n with
 |zero=>simp[DataW.trod] at hn
 |succ n=>
  obtain⟨l,h1,h2,h3⟩:=Dec.sl ht hc hk (hd n) H enc _ _ hn;have hcells:v.cells.toList=[v]:=by
   cases v with
   |agg cs=>simp only[Value.okWide,ht,Cell.okWide,Cell.ok] at hval
   |_=>rfl
  rw[hcells] at h1;exact⟨l,fun G T hG=> .d (by rw[hG];simpa using h1.rel 0 oi oi),h2,h3⟩
end
section
variable {P:Program}{H:Type}{enc:TypeId×Value->H}
theorem zj7 (hl:laidOutB P=true){W W':World} (hb:Below W.heap.size W W'):∀ {ts:List TypeId}{vs:List Value}{ds:List (DataW H)}{ps:List MemPlace},
  (∀t∈ts,P.readableRec t=true/\t<P.types.size)->DataW.TrodAll enc P W 0 (fun _=>true) true ts vs ds ps->(∀x∈ps,x.block<W.heap.size)->
  DataW.TrodAll enc P W' 0 (fun b=>decide (b<W.heap.size)) true ts vs ds ps
 | [],[],[],ps,_,h,_=>h
 |t::ts,v::vs,d::ds,ps,hr,h,hlt=>by
  obtain⟨p,q,h1,h2,rfl⟩:=h;exact⟨p,q,Below.trod hl (hr t oi).1 (hr t oi).2 h1 hb (fun x hx=>hlt x (by simp[hx])),
   zj7 hl hb (fun t ht=>hr t (by simp[ht])) h2 (fun x hx=>hlt x (by simp[hx])),rfl⟩
theorem zvT {f:Func}{s:ChangeSpec}{W W':World}{args:Array Value}{ds gs:List (DataW H)}{before:List MemPlace}{tb:TypeId}
  (hW:DataW.Whole enc P f.params.toList s.vars false W args.toList ds gs before) (hvars:s.vars=[]) (hrt:f.resultTypes = #[tb]) (htb:P.underlying tb=some .bool)
  (hs:s.fn H (ds++gs)={ results:=[.lit (.bool true)],args:=ds }) (hl:laidOutB P=true) (hr:∀t∈f.params.toList,P.readableRec t=true/\t<P.types.size)
  (hb:Below W.heap.size W W'):s.post enc P f false true false false W args (.bool true) W':=by
 have hlt:∀p∈before,p.block<W.heap.size:=fun p hp=>hW.lt p hp;have hW0:=hW;obtain⟨p,q,hA,hV,rfl,hfz,_⟩:=hW;rw[hvars] at hV;cases gs with
 |cons g gs=>exact hV.elim
 |nil=>
  have hq:q=[]:=hV;subst hq;simp only[xaq] at *;refine⟨ds,[],p,[],p,[],by simpa [hvars] using hW0, ?_, ?_, ?_,World.keptBut_mono (fun x hx=>⟨hx,.inr (.inl hx)⟩) (hb.frame (·∈p)),fun h=>by cases h⟩
  ·simp only[xaq,hs,hrt];exact trodAll_cons_mk (shut_bool htb _) trodAll_mk0
  ·simp only[xaq,hs];exact zj7 hl hb hr hA hlt
  ·simp only[hvars,xaq,hs];rfl
theorem zuP {f:FuncId}{avs:List AV}{W:World}{args:Array Value}{r:AV} (hf:FnD P f avs [] r [])
  (hargs:∀G T,G.F=FW W->AllR G T W avs args):Calls P f args W fun e W'=>∃v G',e = .returned v/\RelA G' (fun _=>none) W' r v/\Below W.heap.size W W':=by
 let G:Gh:={ F:=FW W,loc:=fun _=>[] }
 refine(hf G W args ⟨hargs G _ rfl,fun id r h=>(by simp[getH] at h),fun id id' h=>(by simp[getH] at h),fun b hb=>FW_top hb⟩).mono ?_;rintro e W' ⟨v,r',hp',G',rfl,⟨rfl,rfl⟩,h⟩
 exact⟨v,G',rfl,h.res,⟨h.frm.os,h.frm.tape,h.frm.output,h.frm.size,fun b hb=>(h.frm.block b hb (by simp[zcQ])).1⟩⟩
theorem RelA.bool_true {G:Gh}{T:TokF}{w:World}{v:Value} (h:RelA G T w (.d (.bool true)) v):v = .bool true:=by
 cases h with|d h=>cases h;rfl
theorem zvG {H:Type}{l:List (DataW H)} (hk:Rows.uptoSmall H l=true):Rows.uptoBulkAll l<=1048576:=xas hk
end
set_option maxRecDepth 100000
theorem zw6 (W:World) (n:Nat):Dec Tryz.prog W n 5 (fun x:UInt8=>[D.int .u8 (x.toNat:Int)]) (fun _=>0) (fun _=>True):=fun H enc cs x hx=>by
 obtain⟨z,q1,q2,q3⟩:=Dec.int (k:= .u8) Tryz.underlying5 H enc cs x hx;have h:0<=z/\z<=255:=by
  simp[Lit.wf,IntKind.wrap,IntKind.signed,IntKind.bits,IntKind.min,IntKind.max] at q3;omega
 refine⟨UInt8.ofNat z.toNat, ?_,q2,trivial⟩;have e:(((UInt8.ofNat z.toNat).toNat:Nat):Int)=z:=by
  rw[UInt8.toNat_ofNat',Nat.mod_eq_of_lt od];omega
 show RelL W [D.int .u8 (((UInt8.ofNat z.toNat).toNat:Nat):Int)] cs
 rw[e];exact q1
end Go.Proofs.YtmchfdpleibpdaaGreat
namespace Go.Proofs.YtmchfdpleibpdaaGreat.fnTotalClauses
open Go Go.ChangeShapes Go.WideShapes Go.ChangeAt Go.RowKit
set_option linter.unusedSimpArgs false
set_option linter.unusedVariables false
theorem own:ownKnob Tryz.prog.godebug=none:=by kernel_rfl
theorem laidOut:laidOutB Tryz.prog=true:=by kernel_rfl
set_option maxRecDepth 100000 in
theorem contract (H:Type) (enc:TypeId×Value→H) (W:World) (base:Nat) (args:Array Value) (ds gs:List (DataW H)) (before:List MemPlace)
  (hval:∀(j:Nat) t v,Tryz.f5.params[j]?=some t→args[j]?=some v→Value.okWide Tryz.prog W .any base t v)
  (hW:DataW.Whole enc Tryz.prog Tryz.f5.params.toList Rows.fnTotalClausesSpec.vars false W args.toList ds gs before) (hk:Rows.uptoSmall H (ds++gs)=true):
  Calls Tryz.prog 5 args W fun e W'=>∃v,e = .returned v∧Rows.fnTotalClausesSpec.post enc Tryz.prog Tryz.f5 false true false false W args v W':=by
 have hb:=zvG hk
 have hW':=hW
 obtain⟨p,q,hA0,hV,rfl,hfz,hnd⟩:=hW
 have hA:DataW.TrodAll enc Tryz.prog W 0 (fun _=>true) true Tryz.f5.params.toList args.toList ds p:=hA0
 rw[Tryz.params5] at hA hval
 obtain⟨v0,vs0,d0,ds0,p0,q0,hargs,rfl,rfl,h0,r0⟩:=trodAll_cons hA
 obtain⟨rfl,rfl,rfl⟩:=trodAll_nil r0
 obtain rfl:args = #[v0]:=by cases args;simp_all
 obtain⟨rfl,rfl⟩:=trodVars_none hV
 simp only[xaq,Rows.uptoBulkAll] at hb
 obtain⟨code,a0,b0,_⟩:=zxG (k:=0) Tryz.underlying22 (by kernel_rfl) (fun _=>rfl) (zw6 W) (hval 0 _ v0 rfl rfl) h0
 have ln_code:code.length≤1000000000000:=by have:=zsa (fun _:UInt8=>0) code;omega
 refine(zuP ((ziG ln_code)) (W:=W) (args:=#[v0]) (fun G T hG=>⟨rfl,fun i hi hv=>?_⟩)).mono ?_
 ·match i,hi with
  |0,_=>exact a0 G T hG
 ·rintro e W' ⟨v,G',rfl,hr,hbelow⟩
  obtain rfl:=hr.bool_true
  exact⟨_,rfl,zvT hW' rfl rfl Tryz.underlying4 rfl laidOut (fun t ht=>by
   simp only[Tryz.params5,List.mem_cons,xau,or_false] at ht
   rcases ht with rfl<;>exact⟨by kernel_rfl,xas (by kernel_rfl)⟩) hbelow⟩
set_option maxRecDepth 100000 in
theorem lifted (os:Os) (started:os.Started) (H:Type) (enc:TypeId×Value→H) (F:Stop.Interp):
  ReturnsInHanded {} Tryz.checked os 5 .any ((Rows.OpenSpec.upto Rows.fnTotalClausesSpec).pre6 enc Tryz.prog Tryz.f5 Rows.fnTotalClausesUptoRow.domain false) (((Rows.OpenSpec.upto Rows.fnTotalClausesSpec).at F).post enc Tryz.prog Tryz.f5 false true false false):=by
 refine returnsInHanded_of_cond (C:=Tryz.checked) (s:=Rows.OpenSpec.upto Rows.fnTotalClausesSpec) (k:=Rows.uptoSmall) rfl own started (by kernel_rfl) Tryz.func5
  (OpenSpec.witness (enc:=enc) (C:=Tryz.checked) (s:=Rows.OpenSpec.upto Rows.fnTotalClausesSpec) (k:=Rows.uptoSmall) rfl false ⟨#[],#[.slice none 0 0],[]⟩ 8 (by kernel_rfl) (by kernel_rfl) (by kernel_rfl)
   (x:=([.nil],[],[])) (by kernel_rfl) rfl (by kernel_rfl)) ?_
 intro W base args ds gs before hval hW _ hk _
 exact contract H enc W base args ds gs before hval hW hk
theorem kf1:(Rows.fnTotalClausesUptoRow.inPlace == Tryz.pinned.checked.prog.inPlace 5)=true:=by kernel_rfl
theorem kf2:(Rows.fnTotalClausesUptoRow.unfollowed == Tryz.pinned.checked.prog.unfollowed 5)=true:=by kernel_rfl
theorem kf3:(Rows.fnTotalClausesUptoRow.recurses == Tryz.pinned.checked.prog.recurses 5)=true:=by kernel_rfl
theorem kf4:(Rows.fnTotalClausesUptoRow.named == Tryz.pinned.checked.prog.varsNamed 5)=true:=by kernel_rfl
theorem kf5:laidOutB Tryz.pinned.checked.prog=true:=by kernel_rfl
theorem kf6:mapsRowed Tryz.pinned.checked.prog=true:=by kernel_rfl
theorem kf7:Tryz.pinned.checked.prog.stopsHeard=true:=by kernel_rfl
theorem kf8:Tryz.pinned.checked.prog.mayEnter=true:=by kernel_rfl
theorem kf9:(Rows.fnTotalClausesUptoRow.lifted == Tryz.pinned.checked.prog.liftsFinal)=true:=by kernel_rfl
theorem kf0:(Rows.fnTotalClausesUptoRow.plainKeys == Tryz.pinned.checked.prog.plainKeys)=true:=by kernel_rfl
theorem facts:joinedFacts Tryz.pinned.checked.prog 5 Tryz.f5 (Rows.OpenSpec.upto Rows.fnTotalClausesSpec).bare Rows.fnTotalClausesUptoRow=true:=by
 unfold joinedFacts
 rw[kf1,kf2,kf3,kf4,kf5,kf6,kf7,kf8,kf9,kf0]
 kernel_rfl
theorem named:Tryz.pinned.checked.prog.funcNamed Rows.fnTotalClausesUptoRow.func=some 5:=by kernel_rfl
theorem over:Rows.fnTotalClausesUptoRow.holds Tryz.pinned (Rows.OpenSpec.upto Rows.fnTotalClausesSpec):=
 OpenClaim.holds_of_cond 5 Tryz.f5 rfl rfl rfl rfl rfl rfl rfl ⟨rfl,rfl,rfl,rfl,rfl⟩ rfl rfl rfl rfl rfl named Tryz.func5 facts
  (xas (by as_aux_lemma=>kernel_rfl)) (by as_aux_lemma=>unfold Func.isWrapper;first|(rw[if_pos (by decide +kernel)];kernel_rfl)|(rw[if_neg (by decide +kernel)];exact⟨rfl,rfl⟩))
  (fun os started H enc _ F=>lifted os started H enc F)
theorem proved:Rows.FnTotalClausesUptoSaid:=over
end Go.Proofs.YtmchfdpleibpdaaGreat.fnTotalClauses
