/-
  THE LAW FnExactSwapClauses: whatever the arguments of bulk at most 1048576 are, the call returns true, and the arguments read as before.
  Conditions: the bulk alone.
-/
import Derived.Test.YtlfipehhbdjnjaaGreatT534
namespace Go.Proofs.YtlfipehhbdjnjaaGreat
open Go
set_option linter.unusedSimpArgs false
set_option linter.unusedVariables false
set_option maxRecDepth 100000
set_option maxHeartbeats 2000000
theorem zpa {f:Ty->Pat->Pat->List Pat}{c:Int}{ts:List Ty}{xs bs front:List Pat}{i:Nat} (h1:i<ts.length) (h2:i<xs.length) (h3:i<bs.length) (h:(zat 11 (nth xs i) (nth bs i)).isSome=true):
  za7 f c (ts.drop i) (xs.drop i) (bs.drop i) front=(f (nth ts i) (nth xs i) (nth bs i)).map (fun z=>zbO c (front++[z]++xs.drop (i+1)))++za7 f c (ts.drop (i+1)) (xs.drop (i+1)) (bs.drop (i+1)) (front++[zdv 11 (nth xs i) (nth bs i)]):=by
 rw[zeC h];exact zkA h1 h2 h3 h
theorem zsj (c:Int) (L:List Pat):Pat.cc (zbO c L)=[D.i 4,D.i c,D.i 0,D.i 0,D.i 0,D.sl (L.map Pat.cc)]:=by
 show [D.i 4,D.i c,D.i 0,D.i 0,D.i 0,D.sl (Pat.cs L)]=_
 rw[xaB]
section
variable {w:List Data}
abbrev MinusSp (w:List Data) (n:Nat) (ta tk:Int) (a b:Pat):Prop:=
 FnD Tryz.prog 232 [.d (zam w),.agg [.d (.i ta),.d (.i tk)],.agg [.d (.i (a).op),.d (.i (a).ctor),.d (.i (a).n),.d (.i (a).m),.d (.i (a).var),.d (zae (a).kids)],.agg [.d (.i (b).op),.d (.i (b).ctor),.d (.i (b).n),.d (.i (b).m),.d (.i (b).var),.d (zae (b).kids)]] [] (.d (zae (zau w n ⟨ta,tk⟩ a b))) []
theorem znb (hs:Spa w){n m:Nat} (hn:n+1<=10) (hm:m+1<=11) (hnm:n<m)
  (ih:∀ {ta tk:Int}{a b:Pat},InS (w.length*4) ⟨ta,tk⟩->zao w m ⟨ta,tk⟩ a=true->zao w n ⟨ta,tk⟩ b=true->MinusSp w n ta tk a b)
  {ta tk:Int}{a b:Pat} (ht:InS (w.length*4) ⟨ta,tk⟩) (ha:zao w (m+1) ⟨ta,tk⟩ a=true) (hb:zao w (n+1) ⟨ta,tk⟩ b=true) (h4:a.op=4) (h4b:b.op=4) (hc:a.ctor=b.ctor):
  FnD Tryz.prog 303 [.d (zam w),.agg [.d (.i ta),.d (.i tk)],.agg [.d (.i (a).op),.d (.i (a).ctor),.d (.i (a).n),.d (.i (a).m),.d (.i (a).var),.d (zae (a).kids)],.agg [.d (.i (b).op),.d (.i (b).ctor),.d (.i (b).n),.d (.i (b).m),.d (.i (b).var),.d (zae (b).kids)]] [] (.d (zae (zau w (n+1) ⟨ta,tk⟩ a b))) []:=by
 obtain⟨c1,c2,c3,-⟩:=za5 ha h4;obtain⟨d1,d2,d3,-⟩:=za5 hb h4b;rw[<-hc] at d3;have h3l:=hs.args ⟨ta,tk⟩ a.ctor ht c1;have ka:=fun i (hi:i<a.kids.length)=>zbi ha hi;have kb:=fun i (hi:i<b.kids.length)=>zbi hb hi;rw[zbs h4] at ka;rw[zbs h4b,<-hc] at kb;have hbd:=zfx hs (n:=n+1) (m:=m+1) (by omega) hn ht ha hb;have e:zau w (n+1) ⟨ta,tk⟩ a b=za7 (zau w n) a.ctor (zak w ⟨ta,tk⟩ a.ctor) a.kids b.kids []:=by rw[zeb h4b h4];exact if_pos hc
 have hins:=fun i (hi:i<(zak w ⟨ta,tk⟩ a.ctor).length)=>zcf hs.dp ht c1 _ (zal hi);have hmi:∀i,i<(zak w ⟨ta,tk⟩ a.ctor).length->FnD Tryz.prog 232 [.d (zam w),.agg [.d (.i (nth (zak w ⟨ta,tk⟩ a.ctor) i).data),.d (.i (nth (zak w ⟨ta,tk⟩ a.ctor) i).index)],.agg [.d (.i (nth a.kids i).op),.d (.i (nth a.kids i).ctor),.d (.i (nth a.kids i).n),.d (.i (nth a.kids i).m),.d (.i (nth a.kids i).var),.d (zae (nth a.kids i).kids)],.agg [.d (.i (nth b.kids i).op),.d (.i (nth b.kids i).ctor),.d (.i (nth b.kids i).n),.d (.i (nth b.kids i).m),.d (.i (nth b.kids i).var),.d (zae (nth b.kids i).kids)]] [] (.d (zae (zau w n (nth (zak w ⟨ta,tk⟩ a.ctor) i) (nth a.kids i) (nth b.kids i)))) []:=fun i hi=>ih (ta:=(nth (zak w ⟨ta,tk⟩ a.ctor) i).data) (tk:=(nth (zak w ⟨ta,tk⟩ a.ctor) i).index) (hins i hi) (ka i (by omega)) (kb i (by omega));have hme:=fun i (hi:i<(zak w ⟨ta,tk⟩ a.ctor).length)=>zeh hs 11 m (t:=nth (zak w ⟨ta,tk⟩ a.ctor) i) (by omega) (hins i hi) (ka i (by omega)) (zef (by omega) (kb i (by omega)));rw[e] at hbd ⊢;have hT:∀i out front,i<(zak w ⟨ta,tk⟩ a.ctor).length->out++za7 (zau w n) a.ctor ((zak w ⟨ta,tk⟩ a.ctor).drop i) (a.kids.drop i) (b.kids.drop i) front=za7 (zau w n) a.ctor (zak w ⟨ta,tk⟩ a.ctor) a.kids b.kids []->
   out.length+(zau w n (nth (zak w ⟨ta,tk⟩ a.ctor) i) (nth a.kids i) (nth b.kids i)).length<=20000000:=fun i out front hi h=>by
  rw[zhh hi (by omega) (by omega)] at h;have:=congrArg List.length h;simp only[xaa,xac] at this;omega
 refine bd Tryz.f303 100 [] [] fun w0 F0 own kept hk=>?_;refine bx 3005 ?_;refine bx 3006 ?_;refine bx 3007 ?_;refine ev ?_;refine xbg 9 sl34 .none rfl rfl ?_;refine ev ?_;refine wc zi7 (zdz hs.dp.wt (zcz ht) c1) rfl rfl ?_;refine ev ?_;refine xbg 8 sl34 .none rfl rfl ?_;refine ev ?_;refine xam (ι:=Nat×List Pat×List Pat) hk (fun s=>[(12,.d (.i (s.1:Int))),(9,.gl 9 (s.2.1.map Pat.cc)),(11,.gl 8 (s.2.2.map Pat.cc))]) [8,13,14,15,16,17,25,26,27,28,29,30,31,32,33,34,35,36,37,38,39,40,41,42,43,44,45,46,47,48,49,50,51,52,53,54,55,56,57,58,59,60,61,62,63,64,65,66,67,68,69,70,71,72,73,74,75,76,77,78,79,80,81,82,83,84,85,86,87,88,89,90,91,92,93,94,95,96,97,98] (fun s=>[(9,some (.tok ((s.2.1.map Pat.cc)).length 6)),(8,some (.tok ((s.2.2.map Pat.cc)).length 6))]) (fun s=>s.1<=a.kids.length/\s.2.2.length=s.1/\s.2.1++za7 (zau w n) a.ctor ((zak w ⟨ta,tk⟩ a.ctor).drop s.1) (a.kids.drop s.1) (b.kids.drop s.1) s.2.2=za7 (zau w n) a.ctor (zak w ⟨ta,tk⟩ a.ctor) a.kids b.kids []) (fun s=>a.kids.length-s.1) (0,[],[]) ⟨by simp,rfl,rfl⟩ ⟨⟨_,rfl,xaz ?_⟩,⟨⟨_,rfl,LeA.glg ?_⟩,⟨⟨_,rfl,LeA.glg ?_⟩,trivial⟩⟩⟩ ⟨zad ?_,⟨zad ?_,trivial⟩⟩ (fun x=>rfl) (fun s hg1=>?_);iterate 5 focus (rfl)
 refine evc [] [] ?_;refine sq ?_ ?_<;>intro h1 h1p h1s<;>(try simp only[Q,Pat.cs_len] at h1p);refine xaS za4 .none rfl rfl rfl rfl (zax (by omega)) rfl ?_;refine evd [] [] ?_;refine xaS sl34 .none rfl rfl rfl rfl (zaH (by omega)) rfl ?_;refine evd [] [] ?_;refine xaS sl34 .none rfl rfl rfl rfl (zaH (by omega)) rfl ?_;refine evd [] [] ?_;refine wc zoF (hmi s.1 (by omega)) rfl rfl ?_;refine evd [] [] ?_;refine dr ?_;refine xam (ι:=List (Pat)×List (Pat)) hk (fun x=>[(14,.d (.i (x.1.length:Int))),(9,.gl 9 ((s.2.1++x.1.map (fun z=>zbO a.ctor (s.2.2++[z]++a.kids.drop (s.1+1)))).map Pat.cc))]) [15,47,48,49,50,51,52,53,54,55,56,57,58,59,60,61,62,63,64,65,66,67,68,69,70,71,72,73,74,75,76,77] (fun x=>[(9,some (.tok (((s.2.1++x.1.map (fun z=>zbO a.ctor (s.2.2++[z]++a.kids.drop (s.1+1)))).map Pat.cc)).length 6))]) (fun x=>x.1++x.2=(zau w n (nth (zak w ⟨ta,tk⟩ a.ctor) s.1) (nth a.kids s.1) (nth b.kids s.1))) (fun x=>x.2.length) ([],(zau w n (nth (zak w ⟨ta,tk⟩ a.ctor) s.1) (nth a.kids s.1) (nth b.kids s.1))) (by simp) ⟨⟨_,rfl,xaz ?_⟩,⟨⟨_,rfl,LeA.glg ?_⟩,trivial⟩⟩ ⟨zad ?_,trivial⟩ (fun x=>rfl) (fun x hg2=>?_);iterate 3 focus ((simp;done))
 obtain⟨pre,rest⟩:=x;dsimp only at hg2 ⊢;refine evc [] [] ?_;refine sq ?_ ?_<;>intro h2 h2p h2s<;>(try simp only[Q,Pat.cs_len] at h2p);rcases rest with _|⟨y,rest⟩
 ·exfalso;simp_all
 refine xbg 7 sl34 .none rfl rfl ?_;refine evd [] [] ?_;refine ap sl34 zz36 rfl rfl rfl (by intro x hx;exact zgC _ x hx) (by(simp[Pat.cs_len];omega)) ?_;refine evd [] [] ?_;refine xaS sl34 .none rfl rfl rfl rfl (Pat.cs_at' hg2) rfl ?_;refine evd [] [] ?_;refine si [0] [_] sl34 tz36 ?_;refine ap sl34 zz36 rfl rfl rfl (by intro x hx;(simp at hx;subst hx;rfl)) (by(have h9:=hT s.1 s.2.1 s.2.2 (by omega) hg1.2.2;have h8:=congrArg List.length hg2;simp[Pat.cs_len] at h8 ⊢;omega)) ?_;refine bu [0,1,5] [_,_,_] st36 ?_;refine ab 3015 tz36 ?_;refine so ty36 ?_;refine dr ?_;refine ar ?_ (by(constructor<;>omega));refine xaO (b:=s.1+1) sl34 .none rfl rfl rfl (by intro x hx;exact zbm _ x hx) rfl rfl (by simp only[Pat.cs_len];omega) ?_;refine ap sl34 zz36 rfl rfl rfl (by intro x hx;exact zbm _ x (List.mem_of_mem_drop hx)) (by(have h9:=hT s.1 s.2.1 s.2.2 (by omega) hg1.2.2;have h8:=congrArg List.length hg2;simp[Pat.cs_len] at h8 ⊢;omega)) ?_;refine evd [] [] ?_;refine so ty34 ?_;refine dr ?_;refine si [0] [_] sl34 tz36 ?_;refine ap sl34 zz36 rfl rfl rfl (by intro x hx;(simp at hx;subst hx;rfl)) (by(have h9:=hT s.1 s.2.1 s.2.2 (by omega) hg1.2.2;have h8:=congrArg List.length hg2;simp[Pat.cs_len] at h8 ⊢;omega)) ?_;refine ev ?_;refine ar ?_ (by(have h9:=hT s.1 s.2.1 s.2.2 (by omega) hg1.2.2;have h8:=congrArg List.length hg2;simp only[xaa,xab] at h8;constructor<;>omega));refine xah ((pre++[y],rest)) ⟨(by have hz:=hg2;rw[<-hz];simp),(by simp),sx ⟨⟨_,rfl,xaz ?_⟩,⟨⟨_,rfl,LeA.glg ?_⟩,trivial⟩⟩ ⟨zad ?_,trivial⟩⟩;iterate 3 focus (first|(simp;done)|(simp only[xaf,List.append_assoc,xae,List.map_nil,zsj,xaB a.kids,List.map_drop,List.nil_append,xag];done)|(simp;omega))
 have hrest:rest=[]:=by
  rcases rest with _|⟨a,b⟩
  ·rfl
  ·exfalso;have hz:=congrArg List.length (hg2);simp only[xaa,xab,xac] at hz;omega
 subst hrest;refine xaS sl34 .none rfl rfl rfl rfl (zaH (by omega)) rfl ?_;refine evd [] [] ?_;refine xaS sl34 .none rfl rfl rfl rfl (zaH (by omega)) rfl ?_;refine evd [] [] ?_;refine wc zi8 (hme s.1 (by omega)) rfl rfl ?_;refine evd [] [] ?_;refine ab 3016 tz36 ?_;refine so ty36 ?_;refine evd [] [] ?_;refine dr ?_;refine sq ?_ ?_<;>intro h3 h3p h3s;refine rn0 (r1 rfl) (.gld ?_);rotate_left;try simp only[Q,Pat.cs_len] at h3p
 refine si [0] [_] sl34 tz36 ?_;refine ap sl34 zz36 rfl rfl rfl (by intro x hx;(simp at hx;subst hx;rfl)) (by(have h9:=hT s.1 s.2.1 s.2.2 (by omega) hg1.2.2;have h8:=congrArg List.length hg2;simp[Pat.cs_len] at h8 ⊢;omega)) ?_;refine ev ?_;refine ar ?_ (by(constructor<;>omega));refine xah ((s.1+1,s.2.1++(zau w n (nth (zak w ⟨ta,tk⟩ a.ctor) s.1) (nth a.kids s.1) (nth b.kids s.1)).map (fun z=>zbO a.ctor (s.2.2++[z]++a.kids.drop (s.1+1))),s.2.2++[zdv 11 (nth a.kids s.1) (nth b.kids s.1)])) ⟨⟨by dsimp only;omega,by dsimp only;rw[xaa,hg1.2.1];rfl,by dsimp only;rw[List.append_assoc,<-zpa (by omega) (by omega) (by omega) (by assumption)];exact hg1.2.2⟩,(by dsimp only;omega),sx ⟨⟨_,rfl,xaz ?_⟩,⟨⟨_,rfl,LeA.glg ?_⟩,⟨⟨_,rfl,LeA.glg ?_⟩,trivial⟩⟩⟩ ⟨zad ?_,⟨zad ?_,trivial⟩⟩⟩;iterate 5 focus ((simp_all;done))
 refine rn0 (r1 rfl) (.gld ?_);rotate_left;all_goals (first|(rw[<-hg1.2.2,zl3 (by omega),List.append_nil,xaB];done)|(rw[List.append_nil] at hg2;rw[<-hg1.2.2,zkz (by omega) (by omega) (by omega) (by assumption),<-hg2,xaB];all_goals rfl))
theorem zpq {n:Nat}{ta tk:Int}{a b:Pat} (h:b.op=1):MinusSp w (n+1) ta tk a b:=by
 unfold MinusSp;rw[zhR h];refine bd Tryz.f232 82 [] [] fun w0 F0 own kept hk=>?_;refine bx 3005 ?_;refine bx 3006 ?_;refine bx 3007 ?_;refine ev ?_;refine sq ?_ ?_<;>intro h1 h1p h1s;refine xbf sl34 .none rfl ?_;refine ev ?_;refine rq ?_;rotate_left;try simp only[Q] at h1p
 exfalso;omega;all_goals (rfl)
theorem zpr {n:Nat}{ta tk:Int}{a b:Pat} (h:b.op=3) (ha:a.op=1\/a.op=3) (hbn:0<=b.n/\b.n<=9) (hbm:0<=b.m/\b.m<=9):MinusSp w (n+1) ta tk a b:=by
 unfold MinusSp;rw[zj9 h];by_cases h1:a.op=1
 ·have e:zer a b=zb1 0 (minQ 9 (b.n-1))++zb1 (maxQ 0 (b.m+1)) 9:=by
   have e1:lowQ a=0:=if_pos h1;have e2:zcX a=9:=if_pos h1;unfold zer;rw[e1,e2]
  have hr:=zgT (a:=intQ 0 9) hbn hbm;rw[e];refine bd Tryz.f232 82 [] [] fun w0 F0 own kept hk=>?_;refine bx 3005 ?_;refine bx 3006 ?_;refine bx 3007 ?_;refine ev ?_;refine sq ?_ ?_<;>intro h1 h1p h1s;try simp only[Q] at h1p
  exfalso;omega;refine sq ?_ ?_<;>intro h2 h2p h2s;refine sq ?_ ?_<;>intro h3 h3p h3s;refine bu [0,3] [_,_] st36 ?_;refine ev ?_;refine Walk.call (cr:=[]) zrp (hr) rfl .none rfl rfl (.cons (.agg (.cons (.refl _) (.cons (.refl _) (.cons (.refl _) (.cons (.refl _) (.cons (.refl _) (.cons .nil .nil))))))) (.cons (.refl _) .nil)) trivial rfl rfl rfl ?_;refine ev ?_;focus (refine rq ?_;all_goals (rfl))
  focus (exfalso;first|omega|(simp_all;done))
  try simp only[Q] at h2p
  exfalso;omega
 ·have e:zer a b=zb1 a.n (minQ a.m (b.n-1))++zb1 (maxQ a.n (b.m+1)) a.m:=by
   have e1:lowQ a=a.n:=if_neg h1;have e2:zcX a=a.m:=if_neg h1;unfold zer;rw[e1,e2]
  have hr:=zgT (a:=a) hbn hbm;rw[e];refine bd Tryz.f232 82 [] [] fun w0 F0 own kept hk=>?_;refine bx 3005 ?_;refine bx 3006 ?_;refine bx 3007 ?_;refine ev ?_;refine sq ?_ ?_<;>intro h1 h1p h1s;try simp only[Q] at h1p
  exfalso;omega;refine sq ?_ ?_<;>intro h2 h2p h2s;refine sq ?_ ?_<;>intro h3 h3p h3s;focus (exfalso;first|omega|(simp_all;done))
  refine sq ?_ ?_<;>intro h4 h4p h4s;refine wc zrp (hr) rfl rfl ?_;refine ev ?_;focus (refine rq ?_;all_goals (rfl))
  try simp only[Q] at h4p
  exfalso;omega;try simp only[Q] at h2p
  exfalso;omega
theorem zpu {n:Nat}{ta tk:Int}{a b:Pat} (h4:a.op=4) (h4b:b.op=4) (hc:¬a.ctor=b.ctor):MinusSp w (n+1) ta tk a b:=by
 unfold MinusSp;have e:zau w (n+1) ⟨ta,tk⟩ a b=[a]:=by rw[zeb h4b h4];exact if_neg hc
 rw[e];refine bd Tryz.f232 82 [] [] fun w0 F0 own kept hk=>?_;refine bx 3005 ?_;refine bx 3006 ?_;refine bx 3007 ?_;refine ev ?_;refine sq ?_ ?_<;>intro h1 h1p h1s;try simp only[Q] at h1p
 exfalso;omega;refine sq ?_ ?_<;>intro h2 h2p h2s;try simp only[Q] at h2p
 exfalso;omega;refine sqF ?_;refine sq ?_ ?_<;>intro h4 h4p h4s;try simp only[Q] at h4p
 exfalso;omega;refine sq ?_ ?_<;>intro h5 h5p h5s;refine sq ?_ ?_<;>intro h6 h6p h6s;refine si [0] [_] sl34 tz36 ?_;refine ev ?_;refine rq ?_;rotate_left;focus (exfalso;first|omega|(simp_all;done))
 try simp only[Q] at h5p
 exfalso;omega;all_goals (first|rfl|(cases a;rfl))
theorem zpt (hs:Spa w){n m:Nat} (hn:n+1<=10) (hm:m+1<=11) (hnm:n<m)
  (ih:∀ {ta tk:Int}{a b:Pat},InS (w.length*4) ⟨ta,tk⟩->zao w m ⟨ta,tk⟩ a=true->zao w n ⟨ta,tk⟩ b=true->MinusSp w n ta tk a b)
  {ta tk:Int}{a b:Pat} (ht:InS (w.length*4) ⟨ta,tk⟩) (ha:zao w (m+1) ⟨ta,tk⟩ a=true) (hb:zao w (n+1) ⟨ta,tk⟩ b=true) (h4:a.op=4) (h4b:b.op=4) (hc:a.ctor=b.ctor):MinusSp w (n+1) ta tk a b:=by
 have hki:=znb hs hn hm hnm ih ht ha hb h4 h4b hc;clear ih;unfold MinusSp;refine bd Tryz.f232 82 [] [] fun w0 F0 own kept hk=>?_;refine bx 3005 ?_;refine bx 3006 ?_;refine bx 3007 ?_;refine ev ?_;refine sq ?_ ?_<;>intro h1 h1p h1s;try simp only[Q] at h1p
 exfalso;omega;refine sq ?_ ?_<;>intro h2 h2p h2s;try simp only[Q] at h2p
 exfalso;omega;refine sqF ?_;refine sq ?_ ?_<;>intro h4 h4p h4s;try simp only[Q] at h4p
 exfalso;omega;refine sq ?_ ?_<;>intro h5 h5p h5s;refine sq ?_ ?_<;>intro h6 h6p h6s;focus (exfalso;first|omega|(simp_all;done))
 refine sq ?_ ?_<;>intro h7 h7p h7s;refine wc zum (hki) rfl rfl ?_;refine ev ?_;focus (refine rq ?_;all_goals (rfl))
 try simp only[Q] at h7p
 exfalso;omega;try simp only[Q] at h5p
 exfalso;omega
theorem zps (hs:Spa w){n:Nat}{ta tk:Int}{a b:Pat} (ht:InS (w.length*4) ⟨ta,tk⟩) (h1:a.op=1) (h4b:b.op=4) (hbd:(zau w (n+1) ⟨ta,tk⟩ a b).length<=20000000)
  (hC:∀c∈zaA w ⟨ta,tk⟩,MinusSp w (n+1) ta tk (zb2 w ⟨ta,tk⟩ c) b):MinusSp w (n+1) ta tk a b:=by
 have e:zau w (n+1) ⟨ta,tk⟩ a b=(zaA w ⟨ta,tk⟩).flatMap fun c=>zau w (n+1) ⟨ta,tk⟩ (zb2 w ⟨ta,tk⟩ c) b:=by
  rw[zhS h4b h1];exact congrArg (fun g=>(zaA w ⟨ta,tk⟩).flatMap g) (funext fun c=>(zeb h4b rfl).symm)
 unfold MinusSp;rw[e] at hbd ⊢;have hcl:=(hs.ctors _ ht).1;have hpre:∀ {pre rest:List Int}{y:Int},pre++y::rest=zaA w ⟨ta,tk⟩->(pre.flatMap fun c=>zau w (n+1) ⟨ta,tk⟩ (zb2 w ⟨ta,tk⟩ c) b).length+(zau w (n+1) ⟨ta,tk⟩ (zb2 w ⟨ta,tk⟩ y) b).length<=20000000:=fun h=>by
  rw[<-h,List.flatMap_append,List.flatMap_cons] at hbd;simp only[xaa] at hbd;omega
 have hmem:∀ {pre rest:List Int}{y:Int},pre++y::rest=zaA w ⟨ta,tk⟩->y∈zaA w ⟨ta,tk⟩:=fun h=>by rw[<-h];simp
 refine bd Tryz.f232 82 [] [] fun w0 F0 own kept hk=>?_;refine bx 3005 ?_;refine bx 3006 ?_;refine bx 3007 ?_;refine ev ?_;refine sq ?_ ?_<;>intro h1 h1p h1s;try simp only[Q,Pat.cs_len] at h1p
 exfalso;omega;refine sq ?_ ?_<;>intro h2 h2p h2s;try simp only[Q,Pat.cs_len] at h2p
 exfalso;omega;refine sqF ?_;refine sq ?_ ?_<;>intro h4 h4p h4s;try simp only[Q,Pat.cs_len] at h4p
 exfalso;omega;refine sq ?_ ?_<;>intro h5 h5p h5s;try simp only[Q,Pat.cs_len] at h5p
 exfalso;omega;refine sqF ?_;refine sq ?_ ?_<;>intro h7 h7p h7s;try simp only[Q,Pat.cs_len] at h7p
 exfalso;omega;refine xbg 9 sl34 .none rfl rfl ?_;refine ev ?_;refine wc zhJ (zcL hs.dp.wt (zcz ht)) rfl rfl ?_;refine ev ?_;refine xam (ι:=List (Int)×List (Int)) hk (fun x=>[(11,.d (.i (x.1.length:Int))),(9,.gl 9 (Pat.cs (x.1.flatMap fun c=>zau w (n+1) ⟨ta,tk⟩ (zb2 w ⟨ta,tk⟩ c) b)))]) [62,63,64,65,66,67,68,69,70,71,72,73,74,75,76,77,78,79,80] (fun x=>[(9,some (.tok ((Pat.cs (x.1.flatMap fun c=>zau w (n+1) ⟨ta,tk⟩ (zb2 w ⟨ta,tk⟩ c) b))).length 6))]) (fun x=>x.1++x.2=zaA w ⟨ta,tk⟩) (fun x=>x.2.length) ([],zaA w ⟨ta,tk⟩) (by simp) ⟨⟨_,rfl,xaz ?_⟩,⟨⟨_,rfl,LeA.glg ?_⟩,trivial⟩⟩ ⟨zad ?_,trivial⟩ (fun x=>rfl) (fun x hg1=>?_);iterate 3 focus (rfl)
 obtain⟨pre,rest⟩:=x;dsimp only at hg1 ⊢;refine evc [] [] ?_;refine sq ?_ ?_<;>intro h8 h8p h8s<;>(try simp only[Q,Pat.cs_len] at h8p);rcases rest with _|⟨y,rest⟩
 ·exfalso;simp_all
 refine xaS sl29 .none rfl rfl rfl rfl (zaR hg1) rfl ?_;refine evd [] [] ?_;refine wc zun (zoa hs.dp.wt (zcz ht) (hmem hg1) (hs.args _ _ ht (hmem hg1))) rfl rfl ?_;refine evd [] [] ?_;refine wc zoF (hC y (hmem hg1)) rfl rfl ?_;refine ap sl34 zz36 rfl rfl rfl (by exact zbm _) (by have h9:=hpre hg1;simp only[Pat.cs_len];omega) ?_;refine evd [] [] ?_;refine dr ?_;refine ar ?_;refine xah ((pre++[y],rest)) ⟨(by have hz:=hg1;rw[<-hz];simp),(by simp),sx ⟨⟨_,rfl,xaz ?_⟩,⟨⟨_,rfl,LeA.glg ?_⟩,trivial⟩⟩ ⟨zad ?_,trivial⟩⟩;iterate 3 focus (first|(rw[List.flatMap_append,xaB,xaB,xaB,xaf];simp;done)|(simp[Pat.cs_len];done))
 have hrest:rest=[]:=by
  rcases rest with _|⟨a,b⟩
  ·rfl
  ·exfalso;have hz:=congrArg List.length (hg1);simp only[xaa,xab,xac] at hz;omega
 subst hrest;refine rn0 (r1 rfl) (.gld ?_);rotate_left;all_goals ((rw[List.append_nil] at hg1;rw[hg1];done))
theorem zhq (hs:Spa w):∀(n m:Nat){ta tk:Int}{a b:Pat},n<m->n<=10->m<=11->InS (w.length*4) ⟨ta,tk⟩->zao w m ⟨ta,tk⟩ a=true->zao w n ⟨ta,tk⟩ b=true->MinusSp w n ta tk a b
 |0,m,ta,tk,a,b,_,_,_,_,_,hb=>by simp[zao] at hb
 |n+1,0,ta,tk,a,b,h,_,_,_,_,_=>by omega
 |n+1,m+1,ta,tk,a,b,h,hn,hm,ht,ha,hb=>by
  have hC:∀ {a:Pat},zao w (m+1) ⟨ta,tk⟩ a=true->a.op=4->b.op=4->MinusSp w (n+1) ta tk a b:=fun {a} ha h4 h4b=>by
   by_cases hc:a.ctor=b.ctor
   ·exact zpt hs hn hm (by omega) (fun h1 h2 h3=>zhq hs n m (by omega) (by omega) (by omega) h1 h2 h3) ht ha hb h4 h4b hc
   ·exact zpu h4 h4b hc
  rcases zb0 hb with h1|h3|h4b
  ·exact zpq h1
  ·have:=zch hb h3;refine zpr h3 ?_ ⟨by omega,by omega⟩ ⟨by omega,by omega⟩;by_cases h1:a.op=1
   ·exact .inl h1
   ·exact .inr (by have:=zdC ha hb h1 (by omega);omega)
  ·by_cases h1:a.op=1
   ·obtain⟨m',rfl⟩:∃m',m=m'+1:=⟨m-1,by omega⟩;exact zps hs ht h1 h4b (zfx hs h hn ht ha hb) (fun c hc=>hC (zdD hc) rfl h4b)
   ·exact hC ha (by have:=zdC ha hb h1 (by omega);omega) h4b
end
def zlL (w:List Data) (t:Ty) (b a:Pat):List Pat:=(zau w 10 t a b).filter (zbx w t)
def zfM (w:List Data) (t:Ty) (l:List Pat) (b:Pat) (k:Nat):List Pat:=(l.take k).flatMap (zlL w t b)
theorem zl6 {w:List Data}{t:Ty}{l:List Pat}{b:Pat}:zb3 w t l b=l.flatMap (zlL w t b):=by
 unfold zb3;induction l with
 |nil=>rfl
 |cons x r ih=>rw[List.flatMap_cons,List.filter_append,List.flatMap_cons,ih];rfl
theorem zeL {w:List Data}{t:Ty}{l:List Pat}{b:Pat}{k:Nat} (h:l.length<=k):zfM w t l b k=zb3 w t l b:=by
 rw[zl6,zfM,List.take_of_length_le h]
theorem zl7 {w:List Data}{t:Ty}{l:List Pat}{b:Pat}{k:Nat} (h:k<l.length):zfM w t l b (k+1)=zfM w t l b k++zlL w t b (nth l k):=by
 unfold zfM;have e:l[k]?=some (nth l k):=by simpa using zax (f:=id) h
 rw[List.take_add_one,e,List.flatMap_append];simp
theorem zsv {w:List Data}{t:Ty}{l:List Pat}{b:Pat} (k:Nat):(zfM w t l b k).length<=(zb3 w t l b).length:=by
 rw[zl6,zfM];conv=>rhs;rw[<-List.take_append_drop k l,List.flatMap_append]
 rw[xaa];omega
theorem zhp {w:List Data} (hs:Spa w):∀(n:Nat){ta tk:Int}{p:Pat},InS (w.length*4) ⟨ta,tk⟩->zao w n ⟨ta,tk⟩ p=true->
  FnD Tryz.prog 301 [.d (zam w),.d (zdQ (w.length*4) (zaI w)),.agg [.d (.i ta),.d (.i tk)],.agg [.d (.i (p).op),.d (.i (p).ctor),.d (.i (p).n),.d (.i (p).m),.d (.i (p).var),.d (zae (p).kids)]] [] (.d (.bool (!za3 w (zaI w) n ⟨ta,tk⟩ p))) []
 |0,ta,tk,p,_,h=>by simp[zao] at h
 |n+1,ta,tk,p,ht,h=>by
  have hdp:=zml (f:=zaI w) ht (by have:=hs.dp.four;omega);by_cases h1:p.op=1
  ·rw[zhL h1];refine bd Tryz.f301 45 [] [] fun w0 F0 own kept hk=>?_;refine bx 3006 ?_;refine bx 3007 ?_;refine ev ?_;refine sq ?_ ?_<;>intro h1 h1p h1s;refine wc zrk (hdp) rfl rfl ?_;refine ev ?_;refine rq ?_;rotate_left;try simp only[Q] at h1p
   exfalso;omega;all_goals (refine congrArg D.bool ?_;rw[Bool.eq_iff_iff];simp;omega)
  by_cases h3:p.op=3
  ·rw[zmE h h3];refine bd Tryz.f301 45 [] [] fun w0 F0 own kept hk=>?_;refine bx 3006 ?_;refine bx 3007 ?_;refine ev ?_;refine sq ?_ ?_<;>intro h1 h1p h1s;try simp only[Q] at h1p
   exfalso;omega;refine sq ?_ ?_<;>intro h2 h2p h2s;refine rq ?_;rotate_left;try simp only[Q] at h2p
   exfalso;omega;all_goals (rfl)
  have h4:p.op=4:=by have:=zb0 h;omega
  obtain⟨c1,c2,c3,-⟩:=za5 h h4;have h3l:=hs.args ⟨ta,tk⟩ p.ctor ht c1;have hk:=fun i (hi:i<p.kids.length)=>zbi h hi;rw[zbs h4] at hk;rw[zmF h4,Bool.not_not];have ih:=fun i (hi:i<p.kids.length)=>zhp hs n (ta:=(nth (zak w ⟨ta,tk⟩ p.ctor) i).data) (tk:=(nth (zak w ⟨ta,tk⟩ p.ctor) i).index) (p:=nth p.kids i) (zcf hs.dp ht c1 _ (zal (by omega))) (hk i hi);refine bd Tryz.f301 45 [] [] fun w0 F0 own kept hk=>?_;refine bx 3006 ?_;refine bx 3007 ?_;refine ev ?_;refine sq ?_ ?_<;>intro h1 h1p h1s;try simp only[Q,Pat.cs_len] at h1p
  exfalso;omega;refine sq ?_ ?_<;>intro h2 h2p h2s;try simp only[Q,Pat.cs_len] at h2p
  exfalso;omega;refine wc zi7 (zdz hs.dp.wt (zcz ht) c1) rfl rfl ?_;refine ev ?_;refine xam (ι:=Nat) hk (fun i=>[(10,.d (.i (i:Int)))]) [8,26,27,28,29,30,31,32,33,34,35,36,37,38,39,40,41,42,43,44] (fun i=>[]) (fun i=>i<=(zak w ⟨ta,tk⟩ p.ctor).length/\∀i',i'<i->(!za3 w (zaI w) n (nth (zak w ⟨ta,tk⟩ p.ctor) i') (nth p.kids i'))=true) (fun i=>(zak w ⟨ta,tk⟩ p.ctor).length-i) 0 ⟨by omega,fun _ h=>absurd h (by omega)⟩ ⟨⟨_,rfl,xaz ?_⟩,trivial⟩ trivial (fun x=>rfl) (fun i hg1=>?_);focus (rfl)
  refine evc [] [] ?_;refine sq ?_ ?_<;>intro h3 h3p h3s<;>(try simp only[Q,Pat.cs_len] at h3p);refine xaS za4 .none rfl rfl rfl rfl (zax (by omega)) rfl ?_;refine evd [] [] ?_;refine xaS sl34 .none rfl rfl rfl rfl (zaH (by omega)) rfl ?_;refine evd [] [] ?_;refine wc zro (ih i (by omega)) rfl rfl ?_;refine evd [] [] ?_;refine dr ?_;refine sq ?_ ?_<;>intro h4 h4p h4s;refine rq ?_;rotate_left;try simp only[Q,Pat.cs_len] at h4p
  refine ar ?_;refine xah (i+1) ⟨⟨by omega,zaV hg1.2 (by(simp;assumption))⟩,(by omega),sx ⟨⟨_,rfl,xaz ?_⟩,trivial⟩ trivial⟩;focus (rfl)
  refine rq ?_;rotate_left;all_goals (refine congrArg D.bool ?_;first|(rw[zbH (i:=i) (by omega) (by omega) (by first|assumption|(simp;assumption)|(simp_all;done))];done)|(rw[zcb (by omega) (fun x hx=>hg1.2 x (by omega))];done))
theorem zh0 {w:List Data} (hs:Spa w){ta tk:Int} (ht:InS (w.length*4) ⟨ta,tk⟩){l:List Pat} (hl:∀a∈l,zao w 11 ⟨ta,tk⟩ a=true) (hb:l.length<=20000000):
  FnD Tryz.prog 231 [.d (zam w),.d (zdQ (w.length*4) (zaI w)),.agg [.d (.i ta),.d (.i tk)],.d (zae l)] [] (.d (zae (l.filter (zbx w ⟨ta,tk⟩)))) []:=by
 have hal:∀a∈l,FnD Tryz.prog 301 [.d (zam w),.d (zdQ (w.length*4) (zaI w)),.agg [.d (.i ta),.d (.i tk)],.agg [.d (.i (a).op),.d (.i (a).ctor),.d (.i (a).n),.d (.i (a).m),.d (.i (a).var),.d (zae (a).kids)]] [] (.d (.bool (zbx w ⟨ta,tk⟩ a))) []:=fun a ha=>zhp hs 11 ht (hl a ha);have hle:∀ {pre rest:List Pat}{y:Pat},pre++y::rest=l->(pre.filter (zbx w ⟨ta,tk⟩)).length+1<=l.length:=fun {pre rest y} h=>by
  have h1:=List.length_filter_le (zbx w ⟨ta,tk⟩) pre;have h2:=congrArg List.length h;simp only[xaa,xab] at h2;omega
 refine bd Tryz.f231 34 [] [] fun w0 F0 own kept hk=>?_;refine bx 3006 ?_;refine ev ?_;refine xbg 9 sl34 .none rfl rfl ?_;refine ev ?_;refine xam (ι:=List (Pat)×List (Pat)) hk (fun x=>[(10,.d (.i (x.1.length:Int))),(9,.gl 9 (Pat.cs (x.1.filter (zbx w ⟨ta,tk⟩))))]) [12,13,14,15,16,17,18,19,20,21,22,23,24,25,26,27,28,29,30,31,32] (fun x=>[(9,some (.tok ((Pat.cs (x.1.filter (zbx w ⟨ta,tk⟩)))).length 6))]) (fun x=>x.1++x.2=l) (fun x=>x.2.length) ([],l) (by simp) ⟨⟨_,rfl,xaz ?_⟩,⟨⟨_,rfl,LeA.glg ?_⟩,trivial⟩⟩ ⟨zad ?_,trivial⟩ (fun x=>rfl) (fun x hg1=>?_);iterate 3 focus (rfl)
 obtain⟨pre,rest⟩:=x;dsimp only at hg1 ⊢;refine evc [] [] ?_;refine sq ?_ ?_<;>intro h1 h1p h1s<;>(try simp only[Q,Pat.cs_len] at h1p);rcases rest with _|⟨y,rest⟩
 ·exfalso;simp_all
 refine xaS sl34 .none rfl rfl rfl rfl (Pat.cs_at' hg1) rfl ?_;refine evd [] [] ?_;refine wc zro (hal y (by rw[<-hg1];simp)) rfl rfl ?_;refine dr ?_;refine sq ?_ ?_<;>intro h2 h2p h2s<;>(try simp only[Q,Pat.cs_len] at h2p);refine xaS sl34 .none rfl rfl rfl rfl (Pat.cs_at' hg1) rfl ?_;refine ev ?_;refine si [0] [_] sl34 tz36 ?_;refine ap sl34 zz36 rfl rfl rfl (by intro x hx;simp at hx;subst hx;rfl) (by have h9:=hle hg1;simp[Pat.cs_len];omega) ?_;refine ev ?_;refine ar ?_;refine xah ((pre++[y],rest)) ⟨(by have hz:=hg1;rw[<-hz];simp),(by simp),sx ⟨⟨_,rfl,xaz ?_⟩,⟨⟨_,rfl,LeA.glg ?_⟩,trivial⟩⟩ ⟨zad ?_,trivial⟩⟩;iterate 3 focus (first|(dsimp only;rw[List.filter_append,List.filter_cons_of_pos (by assumption),List.filter_nil,xaB (List.filter _ _),xaB (_++_),xaf];rfl)|(dsimp only;rw[List.filter_append,List.filter_cons_of_pos (by assumption),List.filter_nil];simp[Pat.cs_len];done)|(simp;done))
 refine ar ?_;refine xah ((pre++[y],rest)) ⟨(by have hz:=hg1;rw[<-hz];simp),(by simp),sx ⟨⟨_,rfl,xaz ?_⟩,⟨⟨_,rfl,LeA.glg ?_⟩,trivial⟩⟩ ⟨zad ?_,trivial⟩⟩;iterate 3 focus (first|(dsimp only;rw[List.filter_append,List.filter_cons_of_neg (by simp_all),List.filter_nil,List.append_nil];done)|(simp;done))
 have hrest:rest=[]:=by
  rcases rest with _|⟨a,b⟩
  ·rfl
  ·exfalso;have hz:=congrArg List.length (hg1);simp only[xaa,xab,xac] at hz;omega
 subst hrest;refine rn0 (r1 rfl) (.gld ?_);rotate_left;all_goals ((rw[List.append_nil] at hg1;rw[hg1];done))
theorem zfY {w:List Data} (hs:Spa w){ta tk:Int} (ht:InS (w.length*4) ⟨ta,tk⟩){l away:List Pat} (hl:∀a∈l,zao w 11 ⟨ta,tk⟩ a=true) (hb:∀b∈away,zao w 10 ⟨ta,tk⟩ b=true) (hll:l.length<=400) (hal:away.length<=2000):
  FnD Tryz.prog 136 [.d (zam w),.d (zdQ (w.length*4) (zaI w)),.agg [.d (.i ta),.d (.i tk)],.d (zae l),.d (zae away)] [] (.tup [.d (zae ((zaN w ⟨ta,tk⟩ l away).getD [])),.d (.bool (zaN w ⟨ta,tk⟩ l away).isSome)]) []:=by
 have hke:=zr3 hs ht hl hb;have hmi:∀(c:List Pat) (i k:Nat),(∀a∈c,zao w 11 ⟨ta,tk⟩ a=true)->i<away.length->k<c.length->(zau w 10 ⟨ta,tk⟩ (nth c k) (nth away i)).length<=20000000:=fun c i k hc hi hk=>zfx hs (by omega) (by omega) ht (hc _ (zal hk)) (hb _ (zal hi));have hkb:∀(c:List Pat) (i k:Nat),(∀a∈c,zao w 11 ⟨ta,tk⟩ a=true)->i<away.length->k<c.length->(zlL w ⟨ta,tk⟩ (nth away i) (nth c k)).length<=20000000:=fun c i k hc hi hk=>Nat.le_trans (List.length_filter_le _ _) (hmi c i k hc hi hk);rw[<-hke];have hno:∀(c:List Pat) (i k:Nat),i<away.length->400<(zfM w ⟨ta,tk⟩ c (nth away i) k).length->subL w ⟨ta,tk⟩ c (away.drop i)=none:=fun c i k hi h=>by
  have:=zsv (w:=w) (t:=⟨ta,tk⟩) (l:=c) (b:=nth away i) k;rw[zf0 hi,if_neg (by omega)]
 refine bd Tryz.f136 60 [] [] fun w0 F0 own kept hk=>?_;refine bx 3007 ?_;refine ev ?_;refine xam (ι:=Nat×List Pat) hk (fun s=>[(12,.d (.i (s.1:Int))),(3,.d (zae s.2))]) [10,11,13,14,15,16,17,18,19,20,21,22,23,24,25,26,27,28,29,30,31,32,33,34,35,36,37,38,39,40,41,42,43,44,45,46,47,48,49,50,51,52,53,54] (fun s=>[]) (fun s=>s.1<=away.length/\subL w ⟨ta,tk⟩ s.2 (away.drop s.1)=subL w ⟨ta,tk⟩ l away/\(∀a∈s.2,zao w 11 ⟨ta,tk⟩ a=true)/\s.2.length<=400) (fun s=>away.length-s.1) (0,l) ⟨by simp,rfl,hl,hll⟩ ⟨⟨_,rfl,xaz ?_⟩,⟨⟨_,rfl, ?_⟩,trivial⟩⟩ trivial (fun x=>rfl) (fun s hg1=>?_);focus (rfl)
 focus (exact LeA.refl _)
 refine evc [] [] ?_;refine sq ?_ ?_<;>intro h1 h1p h1s<;>(try simp only[Q,Pat.cs_len] at h1p);refine xbg 9 sl34 .none rfl rfl ?_;refine ev ?_;refine xam (ι:=Nat) hk (fun k=>[(14,.d (.i (k:Int))),(13,.gl 9 (Pat.cs (zfM w ⟨ta,tk⟩ s.2 (nth away s.1) k)))]) [22,23,24,25,26,27,28,29,30,31,32,33,34,35,36,37,38,39,40,41,42,43,44,45,46,47,48,49] (fun k=>[(9,some (.tok ((Pat.cs (zfM w ⟨ta,tk⟩ s.2 (nth away s.1) k))).length 6))]) (fun k=>k<=s.2.length) (fun k=>s.2.length-k) 0 (by omega) ⟨⟨_,rfl,xaz ?_⟩,⟨⟨_,rfl,LeA.glg ?_⟩,trivial⟩⟩ ⟨zad ?_,trivial⟩ (fun x=>rfl) (fun k hg2=>?_);iterate 3 focus (rfl)
 refine evc [] [] ?_;refine sq ?_ ?_<;>intro h2 h2p h2s<;>(try simp only[Q,Pat.cs_len] at h2p);refine sq ?_ ?_<;>intro h3 h3p h3s<;>(try simp only[Q,Pat.cs_len] at h3p);refine xaS sl34 .none rfl rfl rfl rfl (zaH (by omega)) rfl ?_;refine evd [] [] ?_;refine xaS sl34 .none rfl rfl rfl rfl (zaH (by omega)) rfl ?_;refine evd [] [] ?_;refine wc zoF (zhq hs 10 11 (by omega) (by omega) (by omega) ht (hg1.2.2.1 _ (zal (by omega))) (hb _ (zal (by omega)))) rfl rfl ?_;refine wc zrg (show FnD _ _ _ _ (.d (zae (zlL w ⟨ta,tk⟩ (nth away s.1) (nth s.2 k)))) _ from zh0 hs ht (zgo 10 11 (by omega) (hg1.2.2.1 _ (zal (by omega))) (hb _ (zal (by omega)))) (hmi s.2 s.1 k hg1.2.2.1 (by omega) (by omega))) rfl rfl ?_;refine ap sl34 zz36 rfl rfl rfl (by exact zbm _) (by have h9:=hkb s.2 s.1 k hg1.2.2.1 (by omega) (by omega);simp only[Pat.cs_len];omega) ?_;refine evd [] [] ?_;refine dr ?_;refine ar ?_;refine xah (k+1) ⟨(by omega),(by omega),sx ⟨⟨_,rfl,xaz ?_⟩,⟨⟨_,rfl,LeA.glg ?_⟩,trivial⟩⟩ ⟨zad ?_,trivial⟩⟩;iterate 3 focus (first|rfl|(rw[zl7 (by omega),xaB,xaB,xaB,xaf];done)|(rw[zl7 (by omega)];simp[Pat.cs_len];done))
 refine sq ?_ ?_<;>intro h4 h4p h4s<;>(try simp only[Q,Pat.cs_len] at h4p);refine xbf sl34 .none rfl ?_;refine ev ?_;refine rn0 (r2 rfl rfl) (.tup (.cons (.eqd ?_) (.cons (.eqd ?_) .nil)));rotate_left 2;refine ar ?_;refine xah ((s.1+1,zb3 w ⟨ta,tk⟩ s.2 (nth away s.1))) ⟨(by
    have hk:s.2.length<=k:=by omega
    have h4:(zb3 w ⟨ta,tk⟩ s.2 (nth away s.1)).length<=400:=by rw[<-zeL hk];omega
    have e:=zf0 (w:=w) (t:=⟨ta,tk⟩) (l:=s.2) (away:=away) (i:=s.1) (by omega);rw[if_pos h4] at e;refine⟨by dsimp only;omega, ?_,zgp hg1.2.2.1 (hb _ (zal (by omega))),h4⟩;dsimp only;rw[<-e];exact hg1.2.1),(by dsimp only;omega),sx ⟨⟨_,rfl,xaz ?_⟩,⟨⟨_,rfl, ?_⟩,trivial⟩⟩ trivial⟩
 focus (rfl)
 focus (((first|refine LeA.gld ?_|refine LeA.nild ?_);first|rfl|(rw[zeL (by omega)];done)|(dsimp only;rw[zeL (by omega)];done)|(simp;done)|omega))
 refine sqF ?_;refine sq ?_ ?_<;>intro h6 h6p h6s<;>(try simp only[Q,Pat.cs_len] at h6p);refine xbf sl34 .none rfl ?_;refine ev ?_;refine rn0 (r2 rfl rfl) (.tup (.cons (.eqd ?_) (.cons (.eqd ?_) .nil)));rotate_left 2;refine ar ?_;refine xah ((s.1+1,zb3 w ⟨ta,tk⟩ s.2 (nth away s.1))) ⟨(by
    have hk:s.2.length<=k:=by omega
    have h4:(zb3 w ⟨ta,tk⟩ s.2 (nth away s.1)).length<=400:=by rw[<-zeL hk];omega
    have e:=zf0 (w:=w) (t:=⟨ta,tk⟩) (l:=s.2) (away:=away) (i:=s.1) (by omega);rw[if_pos h4] at e;refine⟨by dsimp only;omega, ?_,zgp hg1.2.2.1 (hb _ (zal (by omega))),h4⟩;dsimp only;rw[<-e];exact hg1.2.1),(by dsimp only;omega),sx ⟨⟨_,rfl,xaz ?_⟩,⟨⟨_,rfl, ?_⟩,trivial⟩⟩ trivial⟩
 focus (rfl)
 focus (((first|refine LeA.gld ?_|refine LeA.nild ?_);first|rfl|(rw[zeL (by omega)];done)|(dsimp only;rw[zeL (by omega)];done)|(simp;done)|omega))
 refine wc zrg (zh0 hs ht hg1.2.2.1 (by omega)) rfl rfl ?_;refine ev ?_;refine rn0 (r2 rfl rfl) (.tup (.cons (.eqd ?_) (.cons (.eqd ?_) .nil)));rotate_left 2;all_goals (first|(rw[<-hg1.2.1,hno s.2 s.1 k (by omega) (by omega)];rfl)|(rw[<-hg1.2.1,zpv (by omega)];rfl))
theorem zfB:∀(n:Nat){p:Pat},p.size<=n->p.ok->FnD Tryz.prog 187 [.agg [.d (.i (p).op),.d (.i (p).ctor),.d (.i (p).n),.d (.i (p).m),.d (.i (p).var),.d (zae (p).kids)]] [] (.agg [.d (.i (p).op),.d (.i (p).ctor),.d (.i (p).n),.d (.i (p).m),.d (.i (p).var),.d (zae (p).kids)]) []
 |0,p,h,_=>by rw[Pat.size_eq] at h;omega
 |n+1,p,h,hok=>by
  rw[Pat.size_eq] at h;rw[Pat.ok_iff] at hok;have hok1:=hok.1;refine bd Tryz.f187 26 [] [] fun w0 F0 own kept hk=>?_;refine bx 3001 ?_;refine ab 3002 tz36 ?_;refine tv ?_;refine ab 3003 tz36 ?_;refine so ty36 ?_;refine tv ?_;refine so ty34 ?_;refine tv ?_;refine xat 3003 5 7 6 rfl rfl rfl rfl ?_;refine xam (ι:=List (Pat)×List (Pat)) hk (fun x=>[(4,.d (.i (x.1.length:Int)))]) [7,8,9,10,11,12,13,14,15,16,17,18,19,20,21,22,23,24] (fun x=>[(3003,some (.box [.d (.i p.op),.d (.i p.ctor),.d (.i p.n),.d (.i p.m),.d (.i p.var),.gl 7 (x.1.map Pat.cc)])),(7,some (.tok (x.1.map Pat.cc).length 6))]) (fun x=>x.1++x.2=p.kids) (fun x=>x.2.length) ([],p.kids) (by simp) ⟨⟨_,rfl,xaz ?_⟩,trivial⟩ ⟨?_,⟨zad ?_,trivial⟩⟩ (fun x=>rfl) (fun x hg1=>?_);focus (rfl)
  focus (first|rfl|(simp[getH];done))
  focus (rfl)
  obtain⟨pre,rest⟩:=x;dsimp only at hg1 ⊢;refine evc [] [] ?_;refine sq ?_ ?_<;>intro h1 h1p h1s<;>(try simp only[Q,Pat.cs_len] at h1p);rcases rest with _|⟨y,rest⟩
  ·exfalso;simp_all
  refine xaS sl34 .none rfl rfl rfl rfl (Pat.cs_at' hg1) rfl ?_;refine evd [] [] ?_;refine wc zoE (zfB n (p:=y) (by have:=Pats.size_mem (l:=p.kids) (v:=y) (by rw[<-hg1];simp);omega) (Pats.ok_mem hok.2 y (by rw[<-hg1];simp))) rfl rfl ?_;refine si [0] [_] sl34 tz36 ?_;refine ap sl34 zz36 rfl rfl rfl (by intro x hx;(simp at hx;subst hx;rfl)) (by have:=congrArg List.length hg1;simp at this;simp;omega) ?_;refine evd [] [] ?_;refine so ty34 ?_;refine dr ?_;refine ar ?_;refine xah ((pre++[y],rest)) ⟨(by have hz:=hg1;rw[<-hz];simp),(by simp),sx ⟨⟨_,rfl,xaz ?_⟩,trivial⟩ ⟨?_,⟨zad ?_,trivial⟩⟩⟩;focus ((simp;done))
  focus (first|rfl|(simp[getH];done))
  focus ((simp;done))
  have hrest:rest=[]:=by
   rcases rest with _|⟨a,b⟩
   ·rfl
   ·exfalso;have hz:=congrArg List.length (hg1);simp only[xaa,xab,xac] at hz;omega
  subst hrest;refine so ty36 ?_;refine tv ?_;refine rn0 (.cons (.cellA ty36 rfl rfl rfl) .nil) (.agg (.cons (.eqd ?_) (.cons (.eqd ?_) (.cons (.eqd ?_) (.cons (.eqd ?_) (.cons (.eqd ?_) (.cons (.gld ?_) .nil)))))));rotate_left 6;all_goals (first|rfl|(rw[List.append_nil] at hg1;rw[<-hg1,xaB];done))
theorem zn8 {l:List Pat} (h:l.length<=1000000000000) (hok:∀p∈l,p.ok):FnD Tryz.prog 233 [.d (zae l)] [] (.d (zae l)) []:=by
 refine bd Tryz.f233 21 [] [] fun w0 F0 own kept hk=>?_;refine xbg 1 sl34 .none rfl rfl ?_;refine ev ?_;refine xam (ι:=List (Pat)×List (Pat)) hk (fun x=>[(4,.d (.i (x.1.length:Int))),(3,.gl 1 (x.1.map Pat.cc))]) [6,7,8,9,10,11,12,13,14,15,16,17,18,19] (fun x=>[(1,some (.tok ((x.1.map Pat.cc)).length 6))]) (fun x=>x.1++x.2=l) (fun x=>x.2.length) ([],l) (by simp) ⟨⟨_,rfl,xaz ?_⟩,⟨⟨_,rfl,LeA.glg ?_⟩,trivial⟩⟩ ⟨zad ?_,trivial⟩ (fun x=>rfl) (fun x hg1=>?_);iterate 3 focus (rfl)
 obtain⟨pre,rest⟩:=x;dsimp only at hg1 ⊢;refine evc [] [] ?_;refine sq ?_ ?_<;>intro h1 h1p h1s<;>(try simp only[Q,Pat.cs_len] at h1p);rcases rest with _|⟨y,rest⟩
 ·exfalso;simp_all
 refine xaS sl34 .none rfl rfl rfl rfl (Pat.cs_at' hg1) rfl ?_;refine ev ?_;refine wc zoE (zfB _ (Nat.le_refl _) (hok y (by rw[<-hg1];simp))) rfl rfl ?_;refine si [0] [_] sl34 tz36 ?_;refine ap sl34 zz36 rfl rfl rfl (by intro x hx;simp at hx;subst hx;rfl) (by have:=congrArg List.length hg1;simp at this;simp;omega) ?_;refine ev ?_;refine ar ?_;refine xah ((pre++[y],rest)) ⟨(by have hz:=hg1;rw[<-hz];simp),(by simp),sx ⟨⟨_,rfl,xaz ?_⟩,⟨⟨_,rfl,LeA.glg ?_⟩,trivial⟩⟩ ⟨zad ?_,trivial⟩⟩;iterate 3 focus ((simp;done))
 have hrest:rest=[]:=by
  rcases rest with _|⟨a,b⟩
  ·rfl
  ·exfalso;have hz:=congrArg List.length (hg1);simp only[xaa,xab,xac] at hz;omega
 subst hrest;refine rn0 (r1 rfl) (.gld ?_);rotate_left;all_goals ((rw[List.append_nil] at hg1;rw[<-hg1,xaB];done))
theorem zhs {p:Pat} (h:zci p=true):zaX (zaK p)=zaB p:=by
 unfold zci at h;have h40:=of_decide_eq_true h;unfold zaX zaB;rw[if_pos h40,List.take_of_length_le (by omega)]
theorem zr2 {p:Pat}:((40:Int)<((zaX (zaK p)).length:Int))↔zci p=false:=by
 unfold zci zaX;rw[List.length_take,decide_eq_false_iff_not];omega
theorem zfj {w:List Data} (hs:Spa w){ta tk:Int} (ht:InS (w.length*4) ⟨ta,tk⟩){l:List Pat}{ok:Bool} (hl:∀a∈l,a.ok/\a.size<=1000000000000) (hb:l.length<=1000000000000):
  FnD Tryz.prog 137 [.d (zam w),.agg [.d (.i ta),.d (.i tk)],.d (zae l),.d (.bool ok)] [] (.tup [.d (zae (if l.all (isP w ⟨ta,tk⟩)=true then l else [])),.d (.bool (l.all (isP w ⟨ta,tk⟩)&&ok))]) []:=by
 have hbad:∀i,i<l.length->isP w ⟨ta,tk⟩ (nth l i)=false->l.all (isP w ⟨ta,tk⟩)=false:=fun i hi h=>by
  cases hq:l.all (isP w ⟨ta,tk⟩) with
  |false=>rfl
  |true=>have:=List.all_eq_true.1 hq _ (zal hi);rw[h] at this;cases this
 have hgood:(∀i,i<l.length->isP w ⟨ta,tk⟩ (nth l i)=true)->l.all (isP w ⟨ta,tk⟩)=true:=fun h=>List.all_eq_true.2 fun x hx=>by
  obtain⟨i,hi,rfl⟩:=List.getElem_of_mem hx;have:=h i hi;rwa [za8 hi] at this
 refine bd Tryz.f137 29 [] [] fun w0 F0 own kept hk=>?_;refine bx 3005 ?_;refine ev ?_;refine xam (ι:=Nat) hk (fun i=>[(10,.d (.i (i:Int)))]) [8,9,11,12,13,14,15,16,17,18,19,20,21,22,23,24,25] (fun i=>[]) (fun i=>i<=l.length/\∀i',i'<i->isP w ⟨ta,tk⟩ (nth l i')=true) (fun i=>l.length-i) 0 ⟨by omega,fun _ h=>absurd h (by omega)⟩ ⟨⟨_,rfl,xaz ?_⟩,trivial⟩ trivial (fun x=>rfl) (fun i hg1=>?_);focus (rfl)
 refine evc [] [] ?_;refine sq ?_ ?_<;>intro h1 h1p h1s<;>(try simp only[Q,Pat.cs_len] at h1p);refine xaS sl34 .none rfl rfl rfl rfl (zaH (by omega)) rfl ?_;refine evd [] [] ?_;refine wc zll (zfh hs.dp.wt (zcz ht) (hl _ (zal (i:=i) (by omega))).1 (hl _ (zal (by omega))).2) rfl rfl ?_;refine evd [] [] ?_;refine dr ?_;refine sq ?_ ?_<;>intro h2 h2p h2s;refine xbf sl34 .none rfl ?_;refine ev ?_;refine rn0 (r2 rfl rfl) (.tup (.cons (.eqd ?_) (.cons (.eqd ?_) .nil)));rotate_left 2;try simp only[Q,Pat.cs_len] at h2p
 refine ar ?_;refine xah (i+1) ⟨⟨by omega,zaV hg1.2 (by assumption)⟩,(by omega),sx ⟨⟨_,rfl,xaz ?_⟩,trivial⟩ trivial⟩;focus (rfl)
 refine wc zt5 (zn8 hb (fun p hp=>(hl p hp).1)) rfl rfl ?_;refine ev ?_;refine rn0 (r2 rfl rfl) (.tup (.cons (.eqd ?_) (.cons (.eqd ?_) .nil)));rotate_left 2;all_goals (first|(rw[hbad i (by omega) (by assumption)];rfl)|(rw[hgood (fun x hx=>hg1.2 x (by omega))];rfl))
end Go.Proofs.YtlfipehhbdjnjaaGreat
namespace Go.Proofs.YtlfipehhbdjnjaaGreat
open Go
set_option linter.unusedSimpArgs false
set_option linter.unusedVariables false
section
variable {c:Ctx}{all:Array Oper}{chk:List Rec->Prop}{os:List Oper}{recs:List Rec}{env:Env}{hp:Hp}{Q:St->Prop}
variable {d ty:Nat}{pos:String}{af:Array Edge}{g:Option (Nat×Bool)}{pg:List (Nat×AV)}{t yt:TypeId}{x y:Operand}
theorem xaP {e k yb:Nat}{xs:List (List D)}{vx:AV}{o o2:Operand}{kd kd2:IntKind}{n n2:Int}{a b:Nat} (ht:SlT c.P t e k yb) (hg:GH all env g pg) (hd:Nat.blt d c.n=true)
  (hx:opd env x=some vx) (hxd:vx.toD=some (.sl xs)) (hk:∀x,x∈xs->x.length=k) (ho:opd env o=some (.d (.int kd n))) (ho2:opd env o2=some (.d (.int kd2 n2))) (hi:n = ↑a) (hi2:n2 = ↑b) (hab:a<=b) (hb:b<=xs.length)
  (hn:Walk c all chk os (zaq (pg++opFL [x,o,o2] [vx,.d (.int kd n),.d (.int kd2 n2)]) [] [] ⟨some (d,.d (.sl ((xs.drop a).take (b-a)))),[]⟩::recs) ⟨(d,.d (.sl ((xs.drop a).take (b-a))))::env,hp⟩ Q):
  Walk c all chk (⟨some d,.slice t x (some o) (some o2) none,ty,pos,af,g⟩::os) recs ⟨env,hp⟩ Q:=
 xbd hg hd (by simp[opdL,hx,ho,ho2]) (fun ac G T w h=>by
  have h0:=h.2 0 (by simp) (by simp);have h1:=h.2 1 (by simp) (by simp);have h2:=h.2 2 (by simp) (by simp);simp only[List.getElem_cons_zero,List.getElem_cons_succ] at h0 h1 h2;obtain⟨u,h3,h4⟩:=zir (P:=c.P) (w:=w) ht (h0.toD hxd) hk (lo:=some (.int kd a)) (hi:=some (.int kd2 b)) (a:=a) (b:=b) (.inr ⟨kd,rfl⟩) (.inr ⟨kd2,rfl⟩) hab hb;exact⟨u,by simp only[execOp,h1.int_eq,h2.int_eq,hi,hi2,Option.map_none,Option.map_some,Sem.run_bind,h3,Result.andThen_ok,Sem.run_pure],.d h4⟩) hn
end
end Go.Proofs.YtlfipehhbdjnjaaGreat
namespace Go.Proofs.YtlfipehhbdjnjaaGreat
open Go
set_option linter.unusedSimpArgs false
set_option linter.unusedVariables false
set_option maxRecDepth 100000
set_option maxHeartbeats 2000000
abbrev sepV (w:List Data) (t:Ty) (l:List Pat):Option (List Pat):=sepQ w t [] l []
theorem zpo {w:List Data}{t:Ty}{l o:List Pat}{i:Nat} (h:i<l.length):sepQ w t (l.take i) (l.drop i) o=match zaN w t [nth l i] (l.take i) with
  |none=>none
  |some m=>sepQ w t (l.take (i+1)) (l.drop (i+1)) (o++m):=by
 rw[za2 h,sepQ];have e:l.take i++[nth l i]=l.take (i+1):=by rw[List.take_succ_eq_append_getElem h,za8 h]
 rw[e];all_goals (cases zaN w t [nth l i] (l.take i)<;>rfl)
theorem zm1 {w:List Data}{t:Ty}{l o:List Pat}{i:Nat} (h:l.length<=i):sepQ w t (l.take i) (l.drop i) o=some o:=by
 rw[List.drop_eq_nil_of_le h,sepQ]
theorem zk5 {w:List Data}{t:Ty}{l o m:List Pat}{i:Nat} (h:i<l.length) (hw:zaN w t [nth l i] (l.take i)=some m):sepQ w t (l.take i) (l.drop i) o=sepQ w t (l.take (i+1)) (l.drop (i+1)) (o++m):=by
 rw[zpo h,hw]
theorem zqi {w:List Data}{t:Ty}{l o:List Pat}{i:Nat} (h:i<l.length) (hw:zaN w t [nth l i] (l.take i)=none):sepQ w t (l.take i) (l.drop i) o=none:=by
 rw[zpo h,hw]
theorem zr1 {w:List Data}{t:Ty}:∀(r front o:List Pat){res:List Pat},sepQ w t front r o=some res->o.length<=res.length
 | [],_,o,res,h=>by rw[sepQ] at h;cases h;exact Nat.le_refl _
 |p::r,front,o,res,h=>by
  rw[sepQ] at h;cases hw:zaN w t [p] front with
  |none=>rw[hw] at h;cases h
  |some m=>
   rw[hw] at h;have:=zr1 r _ _ h;rw[xaa] at this;omega
theorem zjI {w:List Data}{t:Ty}:∀(r front o:List Pat){res:List Pat},(∀b∈front,zao w 10 t b=true)->(∀b∈r,zao w 10 t b=true)->(∀b∈o,zao w 11 t b=true)->sepQ w t front r o=some res->∀x∈res,zao w 11 t x=true
 | [],_,o,res,_,_,ho,h=>by rw[sepQ] at h;cases h;exact ho
 |p::r,front,o,res,hf,hr,ho,h=>by
  rw[sepQ] at h;cases hw:zaN w t [p] front with
  |none=>rw[hw] at h;cases h
  |some m=>
   rw[hw] at h;have hp:=hr p (by simp);have h1:=zgb front _ m (fun a ha=>by rw[List.mem_singleton.1 (List.mem_filter.1 ha).1];exact zef (by omega) hp) (Nat.le_trans (List.length_filter_le _ _) (by simp)) hf hw;refine zjI r _ _ (fun b hb=>?_) (fun b hb=>hr b (by simp[hb])) (fun b hb=>?_) h
   ·rcases List.mem_append.1 hb with hb|hb
    ·exact hf b hb
    ·rw[List.mem_singleton.1 hb];exact hp
   ·rcases List.mem_append.1 hb with hb|hb
    ·exact ho b hb
    ·exact h1.2 b hb
def FewQ (w:List Data) (t:Ty) (l:List Pat):Prop:=∀res,sepV w t l=some res->res.length<=400
theorem zjz {w:List Data}{ta tk:Int}{l:List Pat} (hl:∀a∈l,zao w 10 ⟨ta,tk⟩ a=true) (i:Nat):((zaN w ⟨ta,tk⟩ [nth l i] (l.take i)).getD []).length<=400:=by
 cases hw:zaN w ⟨ta,tk⟩ [nth l i] (l.take i) with
 |none=>simp
 |some m=>
  by_cases hi:i<l.length
  ·exact(zgb (l.take i) _ m (fun a ha=>by rw[List.mem_singleton.1 (List.mem_filter.1 ha).1];exact zef (by omega) (hl _ (zal hi))) (Nat.le_trans (List.length_filter_le _ _) (by simp)) (fun b hb=>hl b (List.mem_of_mem_take hb)) hw).1
  ·rw[List.take_of_length_le (by omega)] at hw;have e:nth l i=default:=by simp[nth,List.getD,List.getElem?_eq_none (by omega:l.length<=i)]
   rw[e] at hw;unfold zaN at hw;have hlen:∀(away c r:List Pat),c.length<=400->subL w ⟨ta,tk⟩ c away=some r->r.length<=400:=fun away=>by
    induction away with
    |nil=>intro c r hc h;rw[subL] at h;cases h;exact hc
    |cons b away ih=>
     intro c r hc h;rw[subL] at h;split at h
     ·rename_i h4;exact ih _ _ h4 h
     ·cases h
   exact hlen _ _ _ (Nat.le_trans (List.length_filter_le _ _) (by simp)) hw
theorem zmG {l:List Pat} (i:Nat) (hi:i<l.length):zae [nth l i] = .sl [(nth l i).cc]/\zae (l.take i) = .sl ((Pat.cs l).take i)/\zae [nth l i] = .sl (((Pat.cs l).drop i).take (i+1-i)):=by
 have e1:zae [nth l i] = .sl [(nth l i).cc]:=by show D.sl (Pat.cs [nth l i])=_;rw[xaB];rfl
 refine⟨e1, ?_, ?_⟩
 ·show D.sl (Pat.cs (l.take i))=_;rw[xaB,xaB,List.map_take]
 ·rw[e1,xaB,<-List.map_drop,za2 hi,show i+1-i=1 by omega];rfl
section
variable {w:List Data} (hs:Spa w){ta tk:Int} (ht:InS (w.length*4) ⟨ta,tk⟩){l:List Pat} (hl:∀a∈l,zao w 10 ⟨ta,tk⟩ a=true) (hb:l.length<=1600)
include hs ht hl hb
theorem zkS:FnD Tryz.prog 74 [.d (sPtr w (zaI w)),.agg [.d (.i ta),.d (.i tk)],.d (zae l)] [] (.tup [.d (zae ((sepV w ⟨ta,tk⟩ l).getD [])),.d (.bool (sepV w ⟨ta,tk⟩ l).isSome)]) []:=by
 have hml:=zjz hl;have hc:∀i,i<l.length->FnD Tryz.prog 75 [.d (sPtr w (zaI w)),.agg [.d (.i ta),.d (.i tk)],.d (.sl [(nth l i).cc]),.d (.sl ((Pat.cs l).take i))] [] (.tup [.d (zae ((zaN w ⟨ta,tk⟩ [nth l i] (l.take i)).getD [])),.d (.bool (zaN w ⟨ta,tk⟩ [nth l i] (l.take i)).isSome)]) []:=fun i hi=>by
  have h:=zlK hs ht (l:=[nth l i]) (away:=l.take i) (fun a ha=>by rw[List.mem_singleton.1 ha];exact zef (by omega) (hl _ (zal hi))) (fun b hb=>hl b (List.mem_of_mem_take hb)) (by simp) (by rw[List.length_take];omega);obtain⟨e1,e2,_⟩:=zmG i hi;rw[e1,e2] at h;exact h
 have hbad:∀i o,i<l.length->(zaN w ⟨ta,tk⟩ [nth l i] (l.take i)).isSome=false->sepQ w ⟨ta,tk⟩ (l.take i) (l.drop i) o=none:=fun i o hi h=>zqi hi (by simpa using h);have hgood:∀i o,i<l.length->(zaN w ⟨ta,tk⟩ [nth l i] (l.take i)).isSome=true->sepQ w ⟨ta,tk⟩ (l.take i) (l.drop i) o=sepQ w ⟨ta,tk⟩ (l.take (i+1)) (l.drop (i+1)) (o++(zaN w ⟨ta,tk⟩ [nth l i] (l.take i)).getD []):=fun i o hi h=>by
  obtain⟨m,hm⟩:=Option.isSome_iff_exists.1 h;rw[zk5 hi hm,hm];rfl
 refine bd Tryz.f74 38 [8] [] fun w0 F0 own kept hk=>?_;refine bx 3004 ?_;refine evs [8] [] ?_;refine xaG 9 6 .none rfl rfl ?_;refine tv ?_;refine xam (ι:=Nat×List Pat) hk (fun s=>[(15,.d (.i (s.1:Int))),(8,.gl 9 (Pat.cs s.2))]) [6,7,9,10,11,12,16,17,18,19,20,21,22,23,24,25,26,27,28,29,30,31,32,33,34,35,36] (fun s=>[(9,some (.tok ((Pat.cs s.2)).length 6))]) (fun s=>s.1<=l.length/\sepQ w ⟨ta,tk⟩ (l.take s.1) (l.drop s.1) s.2=sepV w ⟨ta,tk⟩ l/\s.2.length<=400*s.1) (fun s=>l.length-s.1) (0,[]) ⟨by simp,by simp,by simp⟩ ⟨⟨_,rfl,xaz ?_⟩,⟨⟨_,rfl,LeA.glg ?_⟩,trivial⟩⟩ ⟨zad ?_,trivial⟩ (fun x=>rfl) (fun s hg1=>?_);iterate 3 focus (rfl)
 refine evc [8] [] ?_;refine sq ?_ ?_<;>intro h1 h1p h1s<;>(try simp only[Q,Pat.cs_len] at h1p);refine xaS sl34 .none rfl rfl rfl rfl (zaH (by omega)) rfl ?_;refine evs [8] [] ?_;refine ab 3010 tz36 ?_;refine evs [8] [] ?_;refine so ty36 ?_;refine tv ?_;refine si [0] [_] sl34 tz36 ?_;refine evd [8] [] ?_;refine xaN (b:=s.1) sl34 .none rfl rfl rfl (by exact zbm _) rfl rfl (by simp only[Pat.cs_len];omega) ?_;refine wc zuW (hc s.1 (by omega)) rfl rfl ?_;refine evd [8] [] ?_;refine dr ?_;refine sq ?_ ?_<;>intro h2 h2p h2s<;>(try simp only[Q,Pat.cs_len] at h2p);refine rn0 (r2 rfl rfl) (.tup (.cons (.nild ?_) (.cons (.eqd ?_) .nil)));rotate_left 2;refine ap sl34 zz36 rfl rfl rfl (by exact zbm _) (by have h9:=hml s.1;simp only[Pat.cs_len];omega) ?_;refine asg ?_;refine tv ?_;refine ar ?_;refine xah ((s.1+1,s.2++(zaN w ⟨ta,tk⟩ [nth l s.1] (l.take s.1)).getD [])) ⟨(by
    refine⟨by dsimp only;omega, ?_, ?_⟩
    ·dsimp only;rw[<-hgood s.1 s.2 (by omega) (by first|assumption|simpa using h2p)];exact hg1.2.1
    ·have:=hml s.1;dsimp only;rw[xaa];omega),(by dsimp only;omega),sx ⟨⟨_,rfl,xaz ?_⟩,⟨⟨_,rfl,LeA.glg ?_⟩,trivial⟩⟩ ⟨zad ?_,trivial⟩⟩
 iterate 3 focus (first|(dsimp only;rw[xaB,xaB,xaB,xaf];done)|(simp[Pat.cs_len];done))
 refine rn0 (r2 rfl rfl) (.tup (.cons (.gld ?_) (.cons (.eqd ?_) .nil)));rotate_left 2;all_goals (first|(rw[show sepV w ⟨ta,tk⟩ l=none from by rw[<-hg1.2.1];exact hbad s.1 s.2 (by omega) (by first|assumption|simpa using h2p)];rfl)|(rw[show sepV w ⟨ta,tk⟩ l=some s.2 from by rw[<-hg1.2.1];exact zm1 (by omega)];rfl))
theorem zmq (hfew:FewQ w ⟨ta,tk⟩ l):FnD Tryz.prog 129 [.d (zam w),.d (zdQ (w.length*4) (zaI w)),.agg [.d (.i ta),.d (.i tk)],.d (zae l)] [] (.tup [.d (zae ((sepV w ⟨ta,tk⟩ l).getD [])),.d (.bool (sepV w ⟨ta,tk⟩ l).isSome)]) []:=by
 have hml:=zjz hl;have hc:∀i,i<l.length->FnD Tryz.prog 136 [.d (zam w),.d (zdQ (w.length*4) (zaI w)),.agg [.d (.i ta),.d (.i tk)],.d (.sl (((Pat.cs l).drop i).take (i+1-i))),.d (.sl ((Pat.cs l).take i))] [] (.tup [.d (zae ((zaN w ⟨ta,tk⟩ [nth l i] (l.take i)).getD [])),.d (.bool (zaN w ⟨ta,tk⟩ [nth l i] (l.take i)).isSome)]) []:=fun i hi=>by
  have h:=zfY hs ht (l:=[nth l i]) (away:=l.take i) (fun a ha=>by rw[List.mem_singleton.1 ha];exact zef (by omega) (hl _ (zal hi))) (fun b hb=>hl b (List.mem_of_mem_take hb)) (by simp) (by rw[List.length_take];omega);obtain⟨_,e2,e3⟩:=zmG i hi;rw[e3,e2] at h;exact h
 have hbad:∀i o,i<l.length->(zaN w ⟨ta,tk⟩ [nth l i] (l.take i)).isSome=false->sepQ w ⟨ta,tk⟩ (l.take i) (l.drop i) o=none:=fun i o hi h=>zqi hi (by simpa using h);have hgood:∀i o,i<l.length->(zaN w ⟨ta,tk⟩ [nth l i] (l.take i)).isSome=true->sepQ w ⟨ta,tk⟩ (l.take i) (l.drop i) o=sepQ w ⟨ta,tk⟩ (l.take (i+1)) (l.drop (i+1)) (o++(zaN w ⟨ta,tk⟩ [nth l i] (l.take i)).getD []):=fun i o hi h=>by
  obtain⟨m,hm⟩:=Option.isSome_iff_exists.1 h;rw[zk5 hi hm,hm];rfl
 have hmany:∀i o,i<l.length->(zaN w ⟨ta,tk⟩ [nth l i] (l.take i)).isSome=true->sepQ w ⟨ta,tk⟩ (l.take i) (l.drop i) o=sepV w ⟨ta,tk⟩ l->(400:Int)<(o.length:Int)+(((zaN w ⟨ta,tk⟩ [nth l i] (l.take i)).getD []).length:Int)->sepV w ⟨ta,tk⟩ l=none:=fun i o hi h e h4=>by
  cases hv:sepV w ⟨ta,tk⟩ l with
  |none=>rfl
  |some res=>
   exfalso;have h1:=hfew res hv;rw[hv,hgood i o hi h] at e;have h2:=zr1 _ _ _ e;rw[xaa] at h2;omega
 refine bd Tryz.f129 51 [] [] fun w0 F0 own kept hk=>?_;refine bx 3006 ?_;refine ev ?_;refine xbg 9 sl34 .none rfl rfl ?_;refine ev ?_;refine xam (ι:=Nat×List Pat) hk (fun s=>[(11,.d (.i (s.1:Int))),(10,.gl 9 (Pat.cs s.2))]) [8,9,12,13,15,16,17,18,19,20,21,22,23,24,25,26,27,28,29,30,31,32,33,34,35,36,37,38,39,40,41,42,43,44,45,46,47,48,49] (fun s=>[(9,some (.tok ((Pat.cs s.2)).length 6))]) (fun s=>s.1<=l.length/\sepQ w ⟨ta,tk⟩ (l.take s.1) (l.drop s.1) s.2=sepV w ⟨ta,tk⟩ l/\s.2.length<=400*s.1) (fun s=>l.length-s.1) (0,[]) ⟨by simp,by simp,by simp⟩ ⟨⟨_,rfl,xaz ?_⟩,⟨⟨_,rfl,LeA.glg ?_⟩,trivial⟩⟩ ⟨zad ?_,trivial⟩ (fun x=>rfl) (fun s hg1=>?_);iterate 3 focus (rfl)
 refine evc [] [] ?_;refine sq ?_ ?_<;>intro h1 h1p h1s<;>(try simp only[Q,Pat.cs_len] at h1p);refine ar ?_ (by(have h9:=hml s.1;(try simp only[Pat.cs_len]);constructor<;>omega));refine xaP (a:=s.1) (b:=(s.1+1)) sl34 .none rfl rfl rfl (by exact zbm _) rfl rfl rfl (by simp) (by omega) (by simp only[Pat.cs_len];omega) ?_;refine evd [] [] ?_;refine xaN (b:=s.1) sl34 .none rfl rfl rfl (by exact zbm _) rfl rfl (by(simp only[Pat.cs_len];omega)) ?_;refine wc zq5 (hc s.1 (by omega)) rfl rfl ?_;refine evd [] [] ?_;refine dr ?_;refine sq ?_ ?_<;>intro h2 h2p h2s<;>(try simp only[Q,Pat.cs_len] at h2p);refine sqT ?_;refine xbf sl34 .none rfl ?_;refine ev ?_;refine rn0 (r2 rfl rfl) (.tup (.cons (.eqd ?_) (.cons (.eqd ?_) .nil)));rotate_left 2;refine ar ?_ (by(have h9:=hml s.1;(try simp only[Pat.cs_len]);constructor<;>omega));refine sq ?_ ?_<;>intro h4 h4p h4s<;>(try simp only[Q,Pat.cs_len] at h4p);refine xbf sl34 .none rfl ?_;refine ev ?_;refine rn0 (r2 rfl rfl) (.tup (.cons (.eqd ?_) (.cons (.eqd ?_) .nil)));rotate_left 2;refine ap sl34 zz36 rfl rfl rfl (by exact zbm _) (by have h9:=hml s.1;simp only[Pat.cs_len];omega) ?_;refine ev ?_;refine ar ?_ (by(have h9:=hml s.1;(try simp only[Pat.cs_len]);constructor<;>omega));refine xah ((s.1+1,s.2++(zaN w ⟨ta,tk⟩ [nth l s.1] (l.take s.1)).getD [])) ⟨(by
    refine⟨by dsimp only;omega, ?_, ?_⟩
    ·dsimp only;rw[<-hgood s.1 s.2 (by omega) (by first|assumption|simpa using h2p)];exact hg1.2.1
    ·have:=hml s.1;dsimp only;rw[xaa];omega),(by dsimp only;omega),sx ⟨⟨_,rfl,xaz ?_⟩,⟨⟨_,rfl,LeA.glg ?_⟩,trivial⟩⟩ ⟨zad ?_,trivial⟩⟩
 iterate 3 focus (first|(dsimp only;rw[xaB,xaB,xaB,xaf];done)|(simp[Pat.cs_len];done))
 refine rn0 (r2 rfl rfl) (.tup (.cons (.gld ?_) (.cons (.eqd ?_) .nil)));rotate_left 2;all_goals (first|(rw[show sepV w ⟨ta,tk⟩ l=none from by rw[<-hg1.2.1];exact hbad s.1 s.2 (by omega) (by first|assumption|simpa using h2p)];rfl)|(rw[hmany s.1 s.2 (by omega) (by first|assumption|simpa using h2p) hg1.2.1 (by omega)];rfl)|(rw[show sepV w ⟨ta,tk⟩ l=some s.2 from by rw[<-hg1.2.1];exact zm1 (by omega)];rfl))
end
def zcw (w:List Data) (a k:Int) (p q:Pat):Bool:=(zaL w a k p&&isP w ⟨a,k⟩ q)&&(zci p&&zci q)
theorem zhw {w:List Data} (hs:WSmall w){a k:Int}{p q:Pat} (h:zcw w a k p q=true):Spa w/\InS (w.length*4) ⟨a,k⟩/\(∀x∈zaB p,zao w 10 ⟨a,k⟩ x=true)/\(∀x∈zaB q,zao w 10 ⟨a,k⟩ x=true)/\zaw w 10 ⟨a,k⟩ p=true/\zaw w 10 ⟨a,k⟩ q=true/\
  zaB p=zaG (zaK p)/\zaB q=zaG (zaK q)/\zbr w ⟨a,k⟩=true/\isP w ⟨a,k⟩ p=true/\isP w ⟨a,k⟩ q=true:=by
 unfold zcw zaL zci at h;simp only[xad,decide_eq_true_eq] at h;obtain⟨⟨⟨h1,h2⟩,h3⟩,h4,h5⟩:=h;have hp:=h2;have hq:=h3;unfold isP at h2 h3;rw[xad] at h2 h3;have hin:InS (w.length*4) ⟨a,k⟩:=by
  obtain⟨_,_,h6⟩:=zbN h1;by_cases ha:a = -1
  ·exact .inl ha
  ·obtain⟨h7,h8,h9,h10⟩:=h6 ha;have:=zuP (n:=w.length) h8 (j:=k.toNat) (by omega);rwa [Int.toNat_of_nonneg h7,Int.toNat_of_nonneg h9] at this
 exact⟨zsN hs (zbN h1).1,hin,zkC h2.1,zkC h3.1,h2.1,h3.1,by unfold zaB;rw[if_pos h4],by unfold zaB;rw[if_pos h5],h1,hp,hq⟩
theorem zki {w:List Data} (hs:WSmall w){a k:Int}{p q:Pat} (hp:p.ok) (hq:q.ok):
  FnD Tryz.prog 73 [.d (zam w),.agg [.d (.i a),.d (.i k)],.agg [.d (.i p.op),.d (.i p.ctor),.d (.i p.n),.d (.i p.m),.d (.i p.var),.d (zae p.kids)],.agg [.d (.i q.op),.d (.i q.ctor),.d (.i q.n),.d (.i q.m),.d (.i q.var),.d (zae q.kids)]] []
   (.tup [.d (zae (if (zaL w a k p&&isP w ⟨a,k⟩ q)=true then zaB p else [])),.d (zae (if (zaL w a k p&&isP w ⟨a,k⟩ q)=true then zaB q else [])),.d (.bool (zcw w a k p q))]) []:=by
 have hpv:=zid hs (a:=a) (k:=k) hp;have hshape:∀ {x:Pat},isP w ⟨a,k⟩ x=true->zaw w 10 ⟨a,k⟩ x=true:=fun h=>by unfold isP at h;rw[xad] at h;exact h.1
 have hvp:zaL w a k p=true->zbr w ⟨a,k⟩=true/\isP w ⟨a,k⟩ p=true:=fun h=>by unfold zaL at h;rwa [xad] at h
 unfold zcw;by_cases h1:zaL w a k p=true
 ·obtain⟨h2,h3⟩:=hvp h1;have hok:=zem (zd1 hs (zbN h2).1) (zbN h2).2.1 hq;have hpp:=ziJ (hshape h3) hp;rw[h1] at hpv ⊢;by_cases h4:isP w ⟨a,k⟩ q=true
  ·have hpq:=ziJ (hshape h4) hq;rw[h4] at hok ⊢;refine bd Tryz.f73 43 [] [] fun w0 F0 own kept hk=>?_;refine bx 3005 ?_;refine bx 3006 ?_;refine bx 3007 ?_;refine ev ?_;refine wc zqv (hpv) rfl rfl ?_;refine ev ?_;refine sq ?_ ?_<;>intro h1 h1p h1s<;>(try simp only[Q] at h1p);refine sqT ?_;focus (exfalso;contradiction)
   refine Walk.call (cr:=[]) zlh (hok) rfl (.some rfl rfl h1) rfl rfl (LeL.refl _) trivial rfl rfl rfl ?_;refine evs [] [(20,false)] ?_ ⟨⟨_,rfl,h1⟩,trivial⟩;refine sq ?_ ?_<;>intro h3 h3p h3s<;>(try simp only[Q] at h3p);focus (exfalso;contradiction)
   refine wc zq2 (hpp) rfl rfl ?_;refine ev ?_;refine wc zq2 (hpq) rfl rfl ?_;refine ev ?_;refine sq ?_ ?_<;>intro h4 h4p h4s<;>(try simp only[Q] at h4p);refine rn0 (.cons (.tmp rfl) (.cons (.tmp rfl) (.cons (.tmp rfl) .nil))) (.tup (.cons (.eqd ?_) (.cons (.eqd ?_) (.cons (.eqd ?_) .nil))));rotate_left 3;refine rn0 (.cons (.tmp rfl) (.cons (.tmp rfl) (.cons (.tmp rfl) .nil))) (.tup (.cons (.eqd ?_) (.cons (.eqd ?_) (.cons (.eqd ?_) .nil))));rotate_left 3;all_goals (first|rfl|(simp_all;done))
  ·have h4':isP w ⟨a,k⟩ q=false:=by simpa using h4
   rw[h4'] at hok ⊢;refine bd Tryz.f73 43 [] [] fun w0 F0 own kept hk=>?_;refine bx 3005 ?_;refine bx 3006 ?_;refine bx 3007 ?_;refine ev ?_;refine wc zqv (hpv) rfl rfl ?_;refine ev ?_;refine sq ?_ ?_<;>intro h1 h1p h1s<;>(try simp only[Q] at h1p);refine sqT ?_;refine rn0 (.cons (.tmp rfl) (.cons (.tmp rfl) (.cons (.tmp rfl) .nil))) (.tup (.cons (.nild ?_) (.cons (.nild ?_) (.cons (.eqd ?_) .nil))));rotate_left 3;refine Walk.call (cr:=[]) zlh (hok) rfl (.some rfl rfl h1) rfl rfl (LeL.refl _) trivial rfl rfl rfl ?_;refine evs [] [(20,false)] ?_ ⟨⟨_,rfl,h1⟩,trivial⟩;refine sq ?_ ?_<;>intro h3 h3p h3s<;>(try simp only[Q] at h3p);refine rn0 (.cons (.tmp rfl) (.cons (.tmp rfl) (.cons (.tmp rfl) .nil))) (.tup (.cons (.nild ?_) (.cons (.nild ?_) (.cons (.eqd ?_) .nil))));rotate_left 3;focus (exfalso;contradiction)
   all_goals (first|rfl|(simp_all;done))
 ·have h1':zaL w a k p=false:=by simpa using h1
  rw[h1'] at hpv ⊢;refine bd Tryz.f73 43 [] [] fun w0 F0 own kept hk=>?_;refine bx 3005 ?_;refine bx 3006 ?_;refine bx 3007 ?_;refine ev ?_;refine wc zqv (hpv) rfl rfl ?_;refine ev ?_;refine sq ?_ ?_<;>intro h1 h1p h1s<;>(try simp only[Q] at h1p);refine sqT ?_;refine rn0 (.cons (.tmp rfl) (.cons (.tmp rfl) (.cons (.tmp rfl) .nil))) (.tup (.cons (.nild ?_) (.cons (.nild ?_) (.cons (.eqd ?_) .nil))));rotate_left 3;focus (exfalso;contradiction)
  all_goals (first|rfl|(simp_all;done))
theorem ziP {w:List Data} (hs:WSmall w){a k:Int}{p q:Pat} (hp:p.ok) (hq:q.ok) (hpz:p.size<=1000000000000) (hqz:q.size<=1000000000000):
  FnD Tryz.prog 135 [.d (zam w),.agg [.d (.i a),.d (.i k)],.agg [.d (.i p.op),.d (.i p.ctor),.d (.i p.n),.d (.i p.m),.d (.i p.var),.d (zae p.kids)],.agg [.d (.i q.op),.d (.i q.ctor),.d (.i q.n),.d (.i q.m),.d (.i q.var),.d (zae q.kids)]] []
   (.tup [.d (zae (if (zaL w a k p&&zaL w a k q)=true then zaX (zaK p) else [])),.d (zae (if (zaL w a k p&&zaL w a k q)=true then zaX (zaK q) else [])),.d (.bool (zcw w a k p q))]) []:=by
 have hpv:=zff hs (a:=a) (k:=k) hp hpz;have hqv:=zff hs (a:=a) (k:=k) hq hqz;have hshape:∀ {x:Pat},zaL w a k x=true->zaw w 10 ⟨a,k⟩ x=true:=fun h=>by unfold zaL isP at h;simp only[xad] at h;exact h.2.1
 have hvq:zaL w a k p=true->zaL w a k q=isP w ⟨a,k⟩ q:=fun h=>by unfold zaL at h ⊢;rw[xad] at h;rw[h.1,Bool.true_and]
 have hge:=fun(x:Pat)=>zr2 (p:=x);unfold zcw;by_cases h1:zaL w a k p=true
 ·rw[<-hvq h1];have hpp:=zhr (hshape h1) hp;rw[h1] at hpv ⊢;by_cases h4:zaL w a k q=true
  ·have hpq:=zhr (hshape h4) hq;rw[h4] at hqv ⊢;have e:∀x:Pat,zci x=decide (((zaX (zaK x)).length:Int)<=40):=fun x=>by
    have:=hge x;cases hx:zci x with
    |true=>
     rw[hx] at this;exact(decide_eq_true (Int.not_lt.1 fun h=>by have:=this.1 h;cases this)).symm
    |false=>
     rw[hx] at this;exact(decide_eq_false (Int.not_le.2 (this.2 rfl))).symm
   rw[e p,e q];refine bd Tryz.f135 39 [] [] fun w0 F0 own kept hk=>?_;refine bx 3005 ?_;refine bx 3006 ?_;refine bx 3007 ?_;refine ev ?_;refine wc zhF (hpv) rfl rfl ?_;refine ev ?_;refine sq ?_ ?_<;>intro h1 h1p h1s<;>(try simp only[Q,Pat.cs_len] at h1p);refine sqT ?_;focus (exfalso;contradiction)
   refine Walk.call (cr:=[]) zhF (hqv) rfl (.some rfl rfl h1) rfl rfl (LeL.refl _) trivial rfl rfl rfl ?_;refine evs [] [(18,false)] ?_ ⟨⟨_,rfl,h1⟩,trivial⟩;refine sq ?_ ?_<;>intro h3 h3p h3s<;>(try simp only[Q,Pat.cs_len] at h3p);focus (exfalso;contradiction)
   refine wc zq4 (hpp) rfl rfl ?_;refine ev ?_;refine wc zq4 (hpq) rfl rfl ?_;refine ev ?_;refine sq ?_ ?_<;>intro h4 h4p h4s<;>(try simp only[Q,Pat.cs_len] at h4p);refine rn0 (.cons (.tmp rfl) (.cons (.tmp rfl) (.cons (.tmp rfl) .nil))) (.tup (.cons (.eqd ?_) (.cons (.eqd ?_) (.cons (.eqd ?_) .nil))));rotate_left 3;refine rn0 (.cons (.tmp rfl) (.cons (.tmp rfl) (.cons (.tmp rfl) .nil))) (.tup (.cons (.eqd ?_) (.cons (.eqd ?_) (.cons (.eqd ?_) .nil))));rotate_left 3;all_goals (first|(simp_all[Pat.cs_len];done)|(simp_all[Pat.cs_len];omega))
  ·have h4':zaL w a k q=false:=by simpa using h4
   rw[h4'] at hqv ⊢;refine bd Tryz.f135 39 [] [] fun w0 F0 own kept hk=>?_;refine bx 3005 ?_;refine bx 3006 ?_;refine bx 3007 ?_;refine ev ?_;refine wc zhF (hpv) rfl rfl ?_;refine ev ?_;refine sq ?_ ?_<;>intro h1 h1p h1s<;>(try simp only[Q] at h1p);refine sqT ?_;refine rn0 (.cons (.tmp rfl) (.cons (.tmp rfl) (.cons (.tmp rfl) .nil))) (.tup (.cons (.nild ?_) (.cons (.nild ?_) (.cons (.eqd ?_) .nil))));rotate_left 3;refine Walk.call (cr:=[]) zhF (hqv) rfl (.some rfl rfl h1) rfl rfl (LeL.refl _) trivial rfl rfl rfl ?_;refine evs [] [(18,false)] ?_ ⟨⟨_,rfl,h1⟩,trivial⟩;refine sq ?_ ?_<;>intro h3 h3p h3s<;>(try simp only[Q] at h3p);refine rn0 (.cons (.tmp rfl) (.cons (.tmp rfl) (.cons (.tmp rfl) .nil))) (.tup (.cons (.nild ?_) (.cons (.nild ?_) (.cons (.eqd ?_) .nil))));rotate_left 3;focus (exfalso;contradiction)
   all_goals (first|rfl|(simp_all;done))
 ·have h1':zaL w a k p=false:=by simpa using h1
  rw[h1'] at hpv ⊢;refine bd Tryz.f135 39 [] [] fun w0 F0 own kept hk=>?_;refine bx 3005 ?_;refine bx 3006 ?_;refine bx 3007 ?_;refine ev ?_;refine wc zhF (hpv) rfl rfl ?_;refine ev ?_;refine sq ?_ ?_<;>intro h1 h1p h1s<;>(try simp only[Q] at h1p);refine sqT ?_;refine rn0 (.cons (.tmp rfl) (.cons (.tmp rfl) (.cons (.tmp rfl) .nil))) (.tup (.cons (.nild ?_) (.cons (.nild ?_) (.cons (.eqd ?_) .nil))));rotate_left 3;refine Walk.call (cr:=[]) zhF (hqv) rfl (.some rfl rfl h1) rfl rfl (LeL.refl _) trivial rfl rfl rfl ?_;refine evs [] [(18,false)] ?_ ⟨⟨_,rfl,h1⟩,trivial⟩;refine sq ?_ ?_<;>intro h3 h3p h3s<;>(try simp only[Q] at h3p);refine rn0 (.cons (.tmp rfl) (.cons (.tmp rfl) (.cons (.tmp rfl) .nil))) (.tup (.cons (.nild ?_) (.cons (.nild ?_) (.cons (.eqd ?_) .nil))));rotate_left 3;focus (exfalso;contradiction)
  all_goals (first|rfl|(simp_all;done))
def zbS (xs ys:List Pat):List Pat:=xs.flatMap fun x=>ys.filterMap (zat 10 x)
theorem zrO {xs ys:List Pat}{z:Pat}:z∈zbS xs ys↔∃x∈xs,∃y∈ys,zat 10 x y=some z:=by
 unfold zbS;simp only[List.mem_flatMap,List.mem_filterMap]
theorem zhf {xs ys:List Pat} (h1:xs.length<=40) (h2:ys.length<=40):(zbS xs ys).length<=1600:=by
 have h:=zeI (f:=fun x=>ys.filterMap (zat 10 x)) (k:=40) (fun x=>Nat.le_trans (List.length_filterMap_le _ _) h2) xs;unfold zbS;omega
theorem zbq {f:Pat->Option Pat}{pre:List Pat}{y z:Pat} (h:f y=some z):(pre++[y]).filterMap f=pre.filterMap f++[z]:=by
 rw[List.filterMap_append,List.filterMap_cons_some h,List.filterMap_nil]
theorem zb4 {f:Pat->Option Pat}{pre:List Pat}{y:Pat} (h:f y=none):(pre++[y]).filterMap f=pre.filterMap f:=by
 rw[List.filterMap_append,List.filterMap_cons_none h,List.filterMap_nil,List.append_nil]
theorem zpn {w:List Data}{t:Ty}:∀(r front o:List Pat){res:List Pat},sepQ w t front r o=some res->res.length<=o.length+400*r.length
 | [],_,o,res,h=>by rw[sepQ] at h;cases h;omega
 |p::r,front,o,res,h=>by
  rw[sepQ] at h;cases hw:zaN w t [p] front with
  |none=>rw[hw] at h;cases h
  |some m=>
   rw[hw] at h;have h1:=zpn r _ _ h;have hsub:∀(away c r:List Pat),c.length<=400->subL w t c away=some r->r.length<=400:=fun away=>by
    induction away with
    |nil=>intro c r hc h;rw[subL] at h;cases h;exact hc
    |cons b away ih=>
     intro c r hc h;rw[subL] at h;split at h
     ·rename_i h4;exact ih _ _ h4 h
     ·cases h
   have h2:=hsub _ _ _ (Nat.le_trans (List.length_filter_le _ _) (by simp)) hw;rw[xaa] at h1;simp only[xab];omega
def meV (w:List Data) (a k:Int) (p q:Pat):Option (List Pat):=if zcw w a k p q=true then (match sepV w ⟨a,k⟩ (zbS (zaB p) (zaB q)) with
  |none=>none
  |some z=>if z.all (isP w ⟨a,k⟩)=true then some z else none) else none
theorem zrN {w:List Data}{a k:Int}{p q:Pat} (h:zcw w a k p q=false):meV w a k p q=none:=by unfold meV;rw[if_neg (by rw[h];simp)]
theorem zs8 {w:List Data}{a k:Int}{p q:Pat} (h:zcw w a k p q=true) (h2:sepV w ⟨a,k⟩ (zbS (zaB p) (zaB q))=none):meV w a k p q=none:=by unfold meV;rw[if_pos h,h2]
theorem zqI {w:List Data}{a k:Int}{p q:Pat}{z:List Pat} (h:zcw w a k p q=true) (h2:sepV w ⟨a,k⟩ (zbS (zaB p) (zaB q))=some z):meV w a k p q=if z.all (isP w ⟨a,k⟩)=true then some z else none:=by unfold meV;rw[if_pos h,h2]
theorem zgn {w:List Data}{t:Ty}{xs ys:List Pat} (hx:∀x∈xs,zao w 10 t x=true) (hy:∀y∈ys,zao w 10 t y=true):∀z∈zbS xs ys,zao w 10 t z=true:=fun z hz=>by
 obtain⟨x,h1,y,h2,h3⟩:=zrO.1 hz;exact zjv 10 10 (hx x h1) (hy y h2) h3
theorem zh3 {z:List Pat}{b:Bool}:zae (if b=true then z else [])=zae ((if b=true then some z else none).getD [])/\b=(if b=true then some z else none:Option (List Pat)).isSome:=by cases b<;>exact⟨rfl,rfl⟩
theorem zic {w:List Data} (hs:WSmall w){a k:Int}{p q:Pat} (hp:p.ok) (hq:q.ok):
  FnD Tryz.prog 189 [.d (zam w),.agg [.d (.i a),.d (.i k)],.agg [.d (.i p.op),.d (.i p.ctor),.d (.i p.n),.d (.i p.m),.d (.i p.var),.d (zae p.kids)],.agg [.d (.i q.op),.d (.i q.ctor),.d (.i q.n),.d (.i q.m),.d (.i q.var),.d (zae q.kids)]] []
   (.tup [.d (zae ((meV w a k p q).getD [])),.d (.bool (meV w a k p q).isSome)]) []:=by
 have hbp:=zki hs (a:=a) (k:=k) hp hq;cases h2:zcw w a k p q with
 |false=>
  rw[zrN h2];rw[h2] at hbp;generalize (if (zaL w a k p&&isP w ⟨a,k⟩ q)=true then zaB p else [])=z1 at hbp;generalize (if (zaL w a k p&&isP w ⟨a,k⟩ q)=true then zaB q else [])=z2 at hbp;refine bd Tryz.f189 75 [] [] fun w0 F0 own kept hk=>?_;refine bx 3005 ?_;refine bx 3006 ?_;refine bx 3007 ?_;refine ev ?_;refine wc zqw (hbp) rfl rfl ?_;refine ev ?_;refine sq ?_ ?_<;>intro h1 h1p h1s;refine rn0 (r2 rfl rfl) (.tup (.cons (.nild ?_) (.cons (.eqd ?_) .nil)));rotate_left 2;focus (exfalso;contradiction)
  all_goals (rfl)
 |true=>
  obtain⟨hsp,hin,t1,t2,_⟩:=zhw hs h2;have hpq:(zaL w a k p&&isP w ⟨a,k⟩ q)=true:=by unfold zcw at h2;rw[xad] at h2;exact h2.1
  rw[h2,if_pos hpq,if_pos hpq] at hbp;have hn:=zkj hsp.dp;have hxl:=zc1 p;have hyl:=zc1 q;have hme:=fun(x y:Pat) (hx:x∈zaB p) (hy:y∈zaB q)=>zgN hsp (f:=zaI w) 10 10 (Nat.le_refl _) hin (t1 x hx) (t2 y hy);have hml:=zhf hxl hyl;have hmp:=zgn t1 t2;have hse:=zkS hsp hin hmp hml;have hfl:∀pre x rest,pre++x::rest=zaB p->(pre.flatMap fun x=>(zaB q).filterMap (zat 10 x)).length<=1600:=fun pre x rest h=>by
   have h3:=zeI (f:=fun x=>(zaB q).filterMap (zat 10 x)) (k:=40) (fun x=>Nat.le_trans (List.length_filterMap_le _ _) hyl) pre;have h4:=congrArg List.length h;simp only[xaa,xab] at h4;omega
  cases h3:sepV w ⟨a,k⟩ (zbS (zaB p) (zaB q)) with
  |none=>
   rw[zs8 h2 h3];rw[h3] at hse;have hre:=zhQ hsp (f:=zaI w) hin (l:=[]) (ok:=false) (by simp) (by simp);unfold zbS at hse;generalize zaB p=X at *;generalize zaB q=Y at *;refine bd Tryz.f189 75 [14] [17] fun w0 F0 own kept hk=>?_;refine bx 3005 ?_;refine bx 3006 ?_;refine bx 3007 ?_;refine evs [14] [] ?_;refine wc zqw (hbp) rfl rfl ?_;refine evs [14] [] ?_;refine sq ?_ ?_<;>intro h1 h1p h1s;focus (exfalso;contradiction)
   refine wc zsV (hn) rfl rfl ?_;refine evs [14] [] ?_;refine xaG 9 6 .none rfl rfl ?_;refine tv ?_;refine xam (ι:=List (Pat)×List (Pat)) hk (fun x=>[(36,.d (.i (x.1.length:Int))),(14,.gl 9 (Pat.cs (x.1.flatMap fun x=>Y.filterMap (zat 10 x))))]) [16,18,19,20,37,38,39,40,41,42,43,44,45,46,47,48,49,50,51,52,53,54,55,56,57,58,59,60] (fun x=>[(9,some (.tok ((Pat.cs (x.1.flatMap fun x=>Y.filterMap (zat 10 x)))).length 6))]) (fun x=>x.1++x.2=X) (fun x=>x.2.length) ([],X) (by simp) ⟨⟨_,rfl,xaz ?_⟩,⟨⟨_,rfl,LeA.glg ?_⟩,trivial⟩⟩ ⟨zad ?_,trivial⟩ (fun x=>rfl) (fun x hg1=>?_);iterate 3 focus (rfl)
   obtain⟨pre,rest⟩:=x;dsimp only at hg1 ⊢;refine evc [14] [17] ?_;refine sq ?_ ?_<;>intro h2 h2p h2s<;>(try simp only[Q,Pat.cs_len] at h2p);rcases rest with _|⟨e,rest⟩
   ·exfalso;simp_all
   refine xaS sl34 .none rfl rfl rfl rfl (Pat.cs_at' hg1) rfl ?_;refine evs [14] [] ?_;refine ab 3016 tz36 ?_;refine so ty36 ?_;refine tv ?_;refine xam (ι:=List (Pat)×List (Pat)) hk (fun x=>[(42,.d (.i (x.1.length:Int))),(14,.gl 9 (Pat.cs ((pre.flatMap fun x=>Y.filterMap (zat 10 x))++x.1.filterMap (zat 10 e))))]) [18,19,20,43,44,45,46,47,48,49,50,51,52,53,54,55,56,57,58,59] (fun x=>[(9,some (.tok ((Pat.cs ((pre.flatMap fun x=>Y.filterMap (zat 10 x))++x.1.filterMap (zat 10 e)))).length 6))]) (fun x=>x.1++x.2=Y) (fun x=>x.2.length) ([],Y) (by simp) ⟨⟨_,rfl,xaz ?_⟩,⟨⟨_,rfl,LeA.glg ?_⟩,trivial⟩⟩ ⟨zad ?_,trivial⟩ (fun x=>rfl) (fun x hg2=>?_);iterate 3 focus ((simp;done))
   obtain⟨pre2,rest2⟩:=x;dsimp only at hg2 ⊢;refine evc [14] [17] ?_;refine sq ?_ ?_<;>intro h3 h3p h3s<;>(try simp only[Q,Pat.cs_len] at h3p);rcases rest2 with _|⟨y,rest2⟩
   ·exfalso;simp_all
   refine xaS sl34 .none rfl rfl rfl rfl (Pat.cs_at' hg2) rfl ?_;refine evs [14] [] ?_;refine ab 3018 tz36 ?_;refine so ty36 ?_;refine tv ?_;refine wc zln (hme e y (by rw[<-hg1];simp) (by rw[<-hg2];simp)) rfl rfl ?_;refine evs [14] [] ?_;refine ab 3019 tz36 ?_;refine so ty36 ?_;refine evs [14] [] ?_;refine sq ?_ ?_<;>intro h4 h4p h4s;refine si [0] [_] sl34 tz36 ?_;refine ap sl34 zz36 rfl rfl rfl (by intro x hx;simp at hx;subst hx;rfl) (by have h9:=hfl pre e rest hg1;have h8:=List.length_filterMap_le (zat 10 e) pre2;have h7:=congrArg List.length hg2;simp only[xaa,xab] at h7;simp only[Pat.cs_len,xaa,xab,xai];omega) ?_;refine asg ?_;refine tv ?_;refine ar ?_;refine xah ((pre2++[y],rest2)) ⟨(by have hz:=hg2;rw[<-hz];simp),(by simp),sx ⟨⟨_,rfl,xaz ?_⟩,⟨⟨_,rfl,LeA.glg ?_⟩,trivial⟩⟩ ⟨zad ?_,trivial⟩⟩;iterate 3 focus (first|(dsimp only;rw[zbq (zbZ (by assumption)),xaB,xaB];simp only[xaf,List.append_assoc];rfl)|(dsimp only;rw[zbq (zbZ (by assumption))];simp only[Pat.cs_len,xaa,xab,xai];omega)|(simp;done))
   refine ar ?_;refine xah ((pre2++[y],rest2)) ⟨(by have hz:=hg2;rw[<-hz];simp),(by simp),sx ⟨⟨_,rfl,xaz ?_⟩,⟨⟨_,rfl,LeA.glg ?_⟩,trivial⟩⟩ ⟨zad ?_,trivial⟩⟩;iterate 3 focus (first|(dsimp only;rw[zb4 (zcK (by first|assumption|(simp_all;done)))];done)|(simp;done))
   have hrest2:rest2=[]:=by
    rcases rest2 with _|⟨a,b⟩
    ·rfl
    ·exfalso;have hz:=congrArg List.length (hg2);simp only[xaa,xab,xac] at hz;omega
   subst hrest2;refine ar ?_;refine xah ((pre++[e],rest)) ⟨(by have hz:=hg1;rw[<-hz];simp),(by simp),sx ⟨⟨_,rfl,xaz ?_⟩,⟨⟨_,rfl,LeA.glg ?_⟩,trivial⟩⟩ ⟨zad ?_,trivial⟩⟩;iterate 3 focus (first|(dsimp only;rw[List.append_nil] at hg2;subst hg2;rw[List.flatMap_append];simp;done)|(simp;done))
   have hrest:rest=[]:=by
    rcases rest with _|⟨a,b⟩
    ·rfl
    ·exfalso;have hz:=congrArg List.length (hg1);simp only[xaa,xab,xac] at hz;omega
   subst hrest;obtain rfl:pre=X:=(by simpa using hg1);refine evc [14] [] ?_;refine Walk.call (cr:=[]) zsW (hse) rfl .none rfl rfl (.cons (.refl _) (.cons (.refl _) (.cons (.gl _ _) .nil))) trivial rfl rfl rfl ?_;refine evs [14] [] ?_;refine asg ?_;refine evs [14] [] ?_;refine wc zsX (hre) rfl rfl ?_;refine evs [14] [] ?_;refine rn0 (r2 rfl rfl) (.tup (.cons (.eqd ?_) (.cons (.eqd ?_) .nil)));rotate_left 2;all_goals (rfl)
  |some z=>
   rw[zqI h2 h3];rw[h3] at hse;have hzp:=zjI _ [] [] (by simp) hmp (by simp) h3;have hzl:=zpn _ _ _ h3;have hre:=zhQ hsp (f:=zaI w) hin (l:=z) (ok:=true) (fun x hx=>(zgB hsp 11 hin (hzp x hx)).1) (by simp at hzl;omega);rw[Bool.true_and] at hre;generalize z.all (isP w ⟨a,k⟩)=b at *;unfold zbS at hse;clear hmp hml hzl h3;generalize zaB p=X at *;generalize zaB q=Y at *;refine bd Tryz.f189 75 [14] [17] fun w0 F0 own kept hk=>?_;refine bx 3005 ?_;refine bx 3006 ?_;refine bx 3007 ?_;refine evs [14] [] ?_;refine wc zqw (hbp) rfl rfl ?_;refine evs [14] [] ?_;refine sq ?_ ?_<;>intro h1 h1p h1s;focus (exfalso;contradiction)
   refine wc zsV (hn) rfl rfl ?_;refine evs [14] [] ?_;refine xaG 9 6 .none rfl rfl ?_;refine tv ?_;refine xam (ι:=List (Pat)×List (Pat)) hk (fun x=>[(36,.d (.i (x.1.length:Int))),(14,.gl 9 (Pat.cs (x.1.flatMap fun x=>Y.filterMap (zat 10 x))))]) [16,18,19,20,37,38,39,40,41,42,43,44,45,46,47,48,49,50,51,52,53,54,55,56,57,58,59,60] (fun x=>[(9,some (.tok ((Pat.cs (x.1.flatMap fun x=>Y.filterMap (zat 10 x)))).length 6))]) (fun x=>x.1++x.2=X) (fun x=>x.2.length) ([],X) (by simp) ⟨⟨_,rfl,xaz ?_⟩,⟨⟨_,rfl,LeA.glg ?_⟩,trivial⟩⟩ ⟨zad ?_,trivial⟩ (fun x=>rfl) (fun x hg1=>?_);iterate 3 focus (rfl)
   obtain⟨pre,rest⟩:=x;dsimp only at hg1 ⊢;refine evc [14] [17] ?_;refine sq ?_ ?_<;>intro h2 h2p h2s<;>(try simp only[Q,Pat.cs_len] at h2p);rcases rest with _|⟨e,rest⟩
   ·exfalso;simp_all
   refine xaS sl34 .none rfl rfl rfl rfl (Pat.cs_at' hg1) rfl ?_;refine evs [14] [] ?_;refine ab 3016 tz36 ?_;refine so ty36 ?_;refine tv ?_;refine xam (ι:=List (Pat)×List (Pat)) hk (fun x=>[(42,.d (.i (x.1.length:Int))),(14,.gl 9 (Pat.cs ((pre.flatMap fun x=>Y.filterMap (zat 10 x))++x.1.filterMap (zat 10 e))))]) [18,19,20,43,44,45,46,47,48,49,50,51,52,53,54,55,56,57,58,59] (fun x=>[(9,some (.tok ((Pat.cs ((pre.flatMap fun x=>Y.filterMap (zat 10 x))++x.1.filterMap (zat 10 e)))).length 6))]) (fun x=>x.1++x.2=Y) (fun x=>x.2.length) ([],Y) (by simp) ⟨⟨_,rfl,xaz ?_⟩,⟨⟨_,rfl,LeA.glg ?_⟩,trivial⟩⟩ ⟨zad ?_,trivial⟩ (fun x=>rfl) (fun x hg2=>?_);iterate 3 focus ((simp;done))
   obtain⟨pre2,rest2⟩:=x;dsimp only at hg2 ⊢;refine evc [14] [17] ?_;refine sq ?_ ?_<;>intro h3 h3p h3s<;>(try simp only[Q,Pat.cs_len] at h3p);rcases rest2 with _|⟨y,rest2⟩
   ·exfalso;simp_all
   refine xaS sl34 .none rfl rfl rfl rfl (Pat.cs_at' hg2) rfl ?_;refine evs [14] [] ?_;refine ab 3018 tz36 ?_;refine so ty36 ?_;refine tv ?_;refine wc zln (hme e y (by rw[<-hg1];simp) (by rw[<-hg2];simp)) rfl rfl ?_;refine evs [14] [] ?_;refine ab 3019 tz36 ?_;refine so ty36 ?_;refine evs [14] [] ?_;refine sq ?_ ?_<;>intro h4 h4p h4s;refine si [0] [_] sl34 tz36 ?_;refine ap sl34 zz36 rfl rfl rfl (by intro x hx;simp at hx;subst hx;rfl) (by have h9:=hfl pre e rest hg1;have h8:=List.length_filterMap_le (zat 10 e) pre2;have h7:=congrArg List.length hg2;simp only[xaa,xab] at h7;simp only[Pat.cs_len,xaa,xab,xai];omega) ?_;refine asg ?_;refine tv ?_;refine ar ?_;refine xah ((pre2++[y],rest2)) ⟨(by have hz:=hg2;rw[<-hz];simp),(by simp),sx ⟨⟨_,rfl,xaz ?_⟩,⟨⟨_,rfl,LeA.glg ?_⟩,trivial⟩⟩ ⟨zad ?_,trivial⟩⟩;iterate 3 focus (first|(dsimp only;rw[zbq (zbZ (by assumption)),xaB,xaB];simp only[xaf,List.append_assoc];rfl)|(dsimp only;rw[zbq (zbZ (by assumption))];simp only[Pat.cs_len,xaa,xab,xai];omega)|(simp;done))
   refine ar ?_;refine xah ((pre2++[y],rest2)) ⟨(by have hz:=hg2;rw[<-hz];simp),(by simp),sx ⟨⟨_,rfl,xaz ?_⟩,⟨⟨_,rfl,LeA.glg ?_⟩,trivial⟩⟩ ⟨zad ?_,trivial⟩⟩;iterate 3 focus (first|(dsimp only;rw[zb4 (zcK (by first|assumption|(simp_all;done)))];done)|(simp;done))
   have hrest2:rest2=[]:=by
    rcases rest2 with _|⟨a,b⟩
    ·rfl
    ·exfalso;have hz:=congrArg List.length (hg2);simp only[xaa,xab,xac] at hz;omega
   subst hrest2;refine ar ?_;refine xah ((pre++[e],rest)) ⟨(by have hz:=hg1;rw[<-hz];simp),(by simp),sx ⟨⟨_,rfl,xaz ?_⟩,⟨⟨_,rfl,LeA.glg ?_⟩,trivial⟩⟩ ⟨zad ?_,trivial⟩⟩;iterate 3 focus (first|(dsimp only;rw[List.append_nil] at hg2;subst hg2;rw[List.flatMap_append];simp;done)|(simp;done))
   have hrest:rest=[]:=by
    rcases rest with _|⟨a,b⟩
    ·rfl
    ·exfalso;have hz:=congrArg List.length (hg1);simp only[xaa,xab,xac] at hz;omega
   subst hrest;obtain rfl:pre=X:=(by simpa using hg1);refine evc [14] [] ?_;refine Walk.call (cr:=[]) zsW (hse) rfl .none rfl rfl (.cons (.refl _) (.cons (.refl _) (.cons (.gl _ _) .nil))) trivial rfl rfl rfl ?_;refine evs [14] [] ?_;refine asg ?_;refine evs [14] [] ?_;refine wc zsX (hre) rfl rfl ?_;refine evs [14] [] ?_;refine rn0 (r2 rfl rfl) (.tup (.cons (.eqd ?_) (.cons (.eqd ?_) .nil)));rotate_left 2;all_goals (first|exact(zh3 (z:=z) (b:=b)).1|exact congrArg D.bool (zh3 (z:=z) (b:=b)).2)
theorem ziv {w:List Data} (hs:WSmall w){a k:Int}{p q:Pat} (hp:p.ok) (hq:q.ok) (hpz:p.size<=1000000000000) (hqz:q.size<=1000000000000) (hfew:zcw w a k p q=true->FewQ w ⟨a,k⟩ (zbS (zaB p) (zaB q))):
  FnD Tryz.prog 186 [.d (zam w),.agg [.d (.i a),.d (.i k)],.agg [.d (.i p.op),.d (.i p.ctor),.d (.i p.n),.d (.i p.m),.d (.i p.var),.d (zae p.kids)],.agg [.d (.i q.op),.d (.i q.ctor),.d (.i q.n),.d (.i q.m),.d (.i q.var),.d (zae q.kids)]] []
   (.tup [.d (zae ((meV w a k p q).getD [])),.d (.bool (meV w a k p q).isSome)]) []:=by
 have hbp:=ziP hs (a:=a) (k:=k) hp hq hpz hqz;cases h2:zcw w a k p q with
 |false=>
  rw[zrN h2];rw[h2] at hbp;generalize (if (zaL w a k p&&zaL w a k q)=true then zaX (zaK p) else [])=z1 at hbp;generalize (if (zaL w a k p&&zaL w a k q)=true then zaX (zaK q) else [])=z2 at hbp;refine bd Tryz.f186 78 [] [] fun w0 F0 own kept hk=>?_;refine bx 3005 ?_;refine bx 3006 ?_;refine bx 3007 ?_;refine ev ?_;refine wc zlg (hbp) rfl rfl ?_;refine ev ?_;refine sq ?_ ?_<;>intro h1 h1p h1s;refine xbf sl34 .none rfl ?_;refine ev ?_;refine rn0 (r2 rfl rfl) (.tup (.cons (.eqd ?_) (.cons (.eqd ?_) .nil)));rotate_left 2;focus (exfalso;contradiction)
  all_goals (rfl)
 |true=>
  obtain⟨hsp,hin,t1,t2,_⟩:=zhw hs h2;have hpq:(zaL w a k p&&zaL w a k q)=true/\zci p=true/\zci q=true:=by
   unfold zcw at h2;simp only[xad] at h2;have h5:=h2.1.1;unfold zaL at h5 ⊢;rw[xad] at h5;exact⟨by rw[h5.1,h5.2,h2.1.2];rfl,h2.2⟩
  rw[h2,if_pos hpq.1,if_pos hpq.1,zhs hpq.2.1,zhs hpq.2.2] at hbp;have hn:=zho hsp.dp;have hxl:=zc1 p;have hyl:=zc1 q;have hme:=fun(x y:Pat) (hx:x∈zaB p) (hy:y∈zaB q)=>zeh hsp 10 10 (Nat.le_refl _) hin (t1 x hx) (t2 y hy);have hml:=zhf hxl hyl;have hmp:=zgn t1 t2;have hse:=zmq hsp hin hmp hml (hfew h2);have hfl:∀pre x rest,pre++x::rest=zaB p->(pre.flatMap fun x=>(zaB q).filterMap (zat 10 x)).length<=1600:=fun pre x rest h=>by
   have h3:=zeI (f:=fun x=>(zaB q).filterMap (zat 10 x)) (k:=40) (fun x=>Nat.le_trans (List.length_filterMap_le _ _) hyl) pre;have h4:=congrArg List.length h;simp only[xaa,xab] at h4;omega
  cases h3:sepV w ⟨a,k⟩ (zbS (zaB p) (zaB q)) with
  |none=>
   rw[zs8 h2 h3];rw[h3] at hse;have hre:=zfj hsp hin (l:=[]) (ok:=false) (by simp) (by simp);unfold zbS at hse;clear hmp hml h3 hfew;generalize zaB p=X at *;generalize zaB q=Y at *;refine bd Tryz.f186 78 [] [14] fun w0 F0 own kept hk=>?_;refine bx 3005 ?_;refine bx 3006 ?_;refine bx 3007 ?_;refine ev ?_;refine wc zlg (hbp) rfl rfl ?_;refine ev ?_;refine sq ?_ ?_<;>intro h1 h1p h1s;focus (exfalso;contradiction)
   refine xbg 9 sl34 .none rfl rfl ?_;refine ev ?_;refine xam (ι:=List (Pat)×List (Pat)) hk (fun x=>[(14,.d (.i (x.1.length:Int))),(13,.gl 9 (Pat.cs (x.1.flatMap fun x=>Y.filterMap (zat 10 x))))]) [15,16,17,33,34,35,36,37,38,39,40,41,42,43,44,45,46,47,48,49,50,51,52,53,54,55,56,57,58,59,60,61] (fun x=>[(9,some (.tok ((Pat.cs (x.1.flatMap fun x=>Y.filterMap (zat 10 x)))).length 6))]) (fun x=>x.1++x.2=X) (fun x=>x.2.length) ([],X) (by simp) ⟨⟨_,rfl,xaz ?_⟩,⟨⟨_,rfl,LeA.glg ?_⟩,trivial⟩⟩ ⟨zad ?_,trivial⟩ (fun x=>rfl) (fun x hg1=>?_);iterate 3 focus (rfl)
   obtain⟨pre,rest⟩:=x;dsimp only at hg1 ⊢;refine evc [] [14] ?_;refine sq ?_ ?_<;>intro h2 h2p h2s<;>(try simp only[Q,Pat.cs_len] at h2p);rcases rest with _|⟨e,rest⟩
   ·exfalso;simp_all
   refine xam (ι:=List (Pat)×List (Pat)) hk (fun x=>[(15,.d (.i (x.1.length:Int))),(13,.gl 9 (Pat.cs ((pre.flatMap fun x=>Y.filterMap (zat 10 x))++x.1.filterMap (zat 10 e))))]) [16,17,39,40,41,42,43,44,45,46,47,48,49,50,51,52,53,54,55,56,57,58,59,60,61] (fun x=>[(9,some (.tok ((Pat.cs ((pre.flatMap fun x=>Y.filterMap (zat 10 x))++x.1.filterMap (zat 10 e)))).length 6))]) (fun x=>x.1++x.2=Y) (fun x=>x.2.length) ([],Y) (by simp) ⟨⟨_,rfl,xaz ?_⟩,⟨⟨_,rfl,LeA.glg ?_⟩,trivial⟩⟩ ⟨zad ?_,trivial⟩ (fun x=>rfl) (fun x hg2=>?_);iterate 3 focus ((simp;done))
   obtain⟨pre2,rest2⟩:=x;dsimp only at hg2 ⊢;refine evc [] [14] ?_;refine sq ?_ ?_<;>intro h3 h3p h3s<;>(try simp only[Q,Pat.cs_len] at h3p);rcases rest2 with _|⟨y,rest2⟩
   ·exfalso;simp_all
   refine xaS sl34 .none rfl rfl rfl rfl (Pat.cs_at' hg1) rfl ?_;refine evd [] [] ?_;refine xaS sl34 .none rfl rfl rfl rfl (Pat.cs_at' hg2) rfl ?_;refine evd [] [] ?_;refine wc zi8 (hme e y (by rw[<-hg1];simp) (by rw[<-hg2];simp)) rfl rfl ?_;refine evd [] [] ?_;refine ab 3016 tz36 ?_;refine so ty36 ?_;refine evd [] [] ?_;refine dr ?_;refine sq ?_ ?_<;>intro h4 h4p h4s;refine si [0] [_] sl34 tz36 ?_;refine ap sl34 zz36 rfl rfl rfl (by intro x hx;simp at hx;subst hx;rfl) (by have h9:=hfl pre e rest hg1;have h8:=List.length_filterMap_le (zat 10 e) pre2;have h7:=congrArg List.length hg2;simp only[xaa,xab] at h7;simp only[Pat.cs_len,xaa,xab,xai];omega) ?_;refine ev ?_;refine ar ?_;refine xah ((pre2++[y],rest2)) ⟨(by have hz:=hg2;rw[<-hz];simp),(by simp),sx ⟨⟨_,rfl,xaz ?_⟩,⟨⟨_,rfl,LeA.glg ?_⟩,trivial⟩⟩ ⟨zad ?_,trivial⟩⟩;iterate 3 focus (first|(dsimp only;rw[zbq (zbZ (by assumption)),<-zeC (by assumption),xaB,xaB];simp only[xaf,List.append_assoc];rfl)|(dsimp only;rw[zbq (zbZ (by assumption))];simp only[Pat.cs_len,xaa,xab,xai];omega)|(simp;done))
   refine ar ?_;refine xah ((pre2++[y],rest2)) ⟨(by have hz:=hg2;rw[<-hz];simp),(by simp),sx ⟨⟨_,rfl,xaz ?_⟩,⟨⟨_,rfl,LeA.glg ?_⟩,trivial⟩⟩ ⟨zad ?_,trivial⟩⟩;iterate 3 focus (first|(dsimp only;rw[zb4 (zcK (by first|assumption|(simp_all;done)))];done)|(simp;done))
   have hrest2:rest2=[]:=by
    rcases rest2 with _|⟨a,b⟩
    ·rfl
    ·exfalso;have hz:=congrArg List.length (hg2);simp only[xaa,xab,xac] at hz;omega
   subst hrest2;refine ar ?_;refine xah ((pre++[e],rest)) ⟨(by have hz:=hg1;rw[<-hz];simp),(by simp),sx ⟨⟨_,rfl,xaz ?_⟩,⟨⟨_,rfl,LeA.glg ?_⟩,trivial⟩⟩ ⟨zad ?_,trivial⟩⟩;iterate 3 focus (first|(dsimp only;rw[List.append_nil] at hg2;subst hg2;rw[List.flatMap_append];simp;done)|(simp;done))
   have hrest:rest=[]:=by
    rcases rest with _|⟨a,b⟩
    ·rfl
    ·exfalso;have hz:=congrArg List.length (hg1);simp only[xaa,xab,xac] at hz;omega
   subst hrest;obtain rfl:pre=X:=(by simpa using hg1);refine evc [] [] ?_;refine wc zoz (hn) rfl rfl ?_;refine evd [] [] ?_;refine Walk.call (cr:=[]) zoy (hse) rfl .none rfl rfl (.cons (.refl _) (.cons (.refl _) (.cons (.refl _) (.cons (.gl _ _) .nil)))) trivial rfl rfl rfl ?_;refine evd [] [] ?_;refine dr ?_;refine wc zoA (hre) rfl rfl ?_;refine ev ?_;refine rn0 (r2 rfl rfl) (.tup (.cons (.eqd ?_) (.cons (.eqd ?_) .nil)));rotate_left 2;all_goals (rfl)
  |some z=>
   rw[zqI h2 h3];have hz4:=hfew h2 z h3;rw[h3] at hse;have hzp:=zjI _ [] [] (by simp) hmp (by simp) h3;have hre:=zfj hsp hin (l:=z) (ok:=true) (fun x hx=>⟨(zgB hsp 11 hin (hzp x hx)).1,by have:=(zgB hsp 11 hin (hzp x hx)).2;have:=zph (n:=11) (by omega);omega⟩) (by omega);rw[Bool.and_true] at hre;generalize z.all (isP w ⟨a,k⟩)=b at *;unfold zbS at hse;clear hmp hml h3 hfew;generalize zaB p=X at *;generalize zaB q=Y at *;refine bd Tryz.f186 78 [] [14] fun w0 F0 own kept hk=>?_;refine bx 3005 ?_;refine bx 3006 ?_;refine bx 3007 ?_;refine ev ?_;refine wc zlg (hbp) rfl rfl ?_;refine ev ?_;refine sq ?_ ?_<;>intro h1 h1p h1s;focus (exfalso;contradiction)
   refine xbg 9 sl34 .none rfl rfl ?_;refine ev ?_;refine xam (ι:=List (Pat)×List (Pat)) hk (fun x=>[(14,.d (.i (x.1.length:Int))),(13,.gl 9 (Pat.cs (x.1.flatMap fun x=>Y.filterMap (zat 10 x))))]) [15,16,17,33,34,35,36,37,38,39,40,41,42,43,44,45,46,47,48,49,50,51,52,53,54,55,56,57,58,59,60,61] (fun x=>[(9,some (.tok ((Pat.cs (x.1.flatMap fun x=>Y.filterMap (zat 10 x)))).length 6))]) (fun x=>x.1++x.2=X) (fun x=>x.2.length) ([],X) (by simp) ⟨⟨_,rfl,xaz ?_⟩,⟨⟨_,rfl,LeA.glg ?_⟩,trivial⟩⟩ ⟨zad ?_,trivial⟩ (fun x=>rfl) (fun x hg1=>?_);iterate 3 focus (rfl)
   obtain⟨pre,rest⟩:=x;dsimp only at hg1 ⊢;refine evc [] [14] ?_;refine sq ?_ ?_<;>intro h2 h2p h2s<;>(try simp only[Q,Pat.cs_len] at h2p);rcases rest with _|⟨e,rest⟩
   ·exfalso;simp_all
   refine xam (ι:=List (Pat)×List (Pat)) hk (fun x=>[(15,.d (.i (x.1.length:Int))),(13,.gl 9 (Pat.cs ((pre.flatMap fun x=>Y.filterMap (zat 10 x))++x.1.filterMap (zat 10 e))))]) [16,17,39,40,41,42,43,44,45,46,47,48,49,50,51,52,53,54,55,56,57,58,59,60,61] (fun x=>[(9,some (.tok ((Pat.cs ((pre.flatMap fun x=>Y.filterMap (zat 10 x))++x.1.filterMap (zat 10 e)))).length 6))]) (fun x=>x.1++x.2=Y) (fun x=>x.2.length) ([],Y) (by simp) ⟨⟨_,rfl,xaz ?_⟩,⟨⟨_,rfl,LeA.glg ?_⟩,trivial⟩⟩ ⟨zad ?_,trivial⟩ (fun x=>rfl) (fun x hg2=>?_);iterate 3 focus ((simp;done))
   obtain⟨pre2,rest2⟩:=x;dsimp only at hg2 ⊢;refine evc [] [14] ?_;refine sq ?_ ?_<;>intro h3 h3p h3s<;>(try simp only[Q,Pat.cs_len] at h3p);rcases rest2 with _|⟨y,rest2⟩
   ·exfalso;simp_all
   refine xaS sl34 .none rfl rfl rfl rfl (Pat.cs_at' hg1) rfl ?_;refine evd [] [] ?_;refine xaS sl34 .none rfl rfl rfl rfl (Pat.cs_at' hg2) rfl ?_;refine evd [] [] ?_;refine wc zi8 (hme e y (by rw[<-hg1];simp) (by rw[<-hg2];simp)) rfl rfl ?_;refine evd [] [] ?_;refine ab 3016 tz36 ?_;refine so ty36 ?_;refine evd [] [] ?_;refine dr ?_;refine sq ?_ ?_<;>intro h4 h4p h4s;refine si [0] [_] sl34 tz36 ?_;refine ap sl34 zz36 rfl rfl rfl (by intro x hx;simp at hx;subst hx;rfl) (by have h9:=hfl pre e rest hg1;have h8:=List.length_filterMap_le (zat 10 e) pre2;have h7:=congrArg List.length hg2;simp only[xaa,xab] at h7;simp only[Pat.cs_len,xaa,xab,xai];omega) ?_;refine ev ?_;refine ar ?_;refine xah ((pre2++[y],rest2)) ⟨(by have hz:=hg2;rw[<-hz];simp),(by simp),sx ⟨⟨_,rfl,xaz ?_⟩,⟨⟨_,rfl,LeA.glg ?_⟩,trivial⟩⟩ ⟨zad ?_,trivial⟩⟩;iterate 3 focus (first|(dsimp only;rw[zbq (zbZ (by assumption)),<-zeC (by assumption),xaB,xaB];simp only[xaf,List.append_assoc];rfl)|(dsimp only;rw[zbq (zbZ (by assumption))];simp only[Pat.cs_len,xaa,xab,xai];omega)|(simp;done))
   refine ar ?_;refine xah ((pre2++[y],rest2)) ⟨(by have hz:=hg2;rw[<-hz];simp),(by simp),sx ⟨⟨_,rfl,xaz ?_⟩,⟨⟨_,rfl,LeA.glg ?_⟩,trivial⟩⟩ ⟨zad ?_,trivial⟩⟩;iterate 3 focus (first|(dsimp only;rw[zb4 (zcK (by first|assumption|(simp_all;done)))];done)|(simp;done))
   have hrest2:rest2=[]:=by
    rcases rest2 with _|⟨a,b⟩
    ·rfl
    ·exfalso;have hz:=congrArg List.length (hg2);simp only[xaa,xab,xac] at hz;omega
   subst hrest2;refine ar ?_;refine xah ((pre++[e],rest)) ⟨(by have hz:=hg1;rw[<-hz];simp),(by simp),sx ⟨⟨_,rfl,xaz ?_⟩,⟨⟨_,rfl,LeA.glg ?_⟩,trivial⟩⟩ ⟨zad ?_,trivial⟩⟩;iterate 3 focus (first|(dsimp only;rw[List.append_nil] at hg2;subst hg2;rw[List.flatMap_append];simp;done)|(simp;done))
   have hrest:rest=[]:=by
    rcases rest with _|⟨a,b⟩
    ·rfl
    ·exfalso;have hz:=congrArg List.length (hg1);simp only[xaa,xab,xac] at hz;omega
   subst hrest;obtain rfl:pre=X:=(by simpa using hg1);refine evc [] [] ?_;refine wc zoz (hn) rfl rfl ?_;refine evd [] [] ?_;refine Walk.call (cr:=[]) zoy (hse) rfl .none rfl rfl (.cons (.refl _) (.cons (.refl _) (.cons (.refl _) (.cons (.gl _ _) .nil)))) trivial rfl rfl rfl ?_;refine evd [] [] ?_;refine dr ?_;refine wc zoA (hre) rfl rfl ?_;refine ev ?_;refine rn0 (r2 rfl rfl) (.tup (.cons (.eqd ?_) (.cons (.eqd ?_) .nil)));rotate_left 2;all_goals (first|exact(zh3 (z:=z) (b:=b)).1|exact congrArg D.bool (zh3 (z:=z) (b:=b)).2)
def cvV (w:List Data) (a k:Int) (c:Cl):Bool:=zbr w ⟨a,k⟩&&clOk w ⟨a,k⟩ c
def cmV (w:List Data) (a k:Int) (c d:Cl):Option (List Pat):=if (cvV w a k c&&cvV w a k d)=true then meV w a k c.pat d.pat else none
theorem zfm {w:List Data} (hs:WSmall w){a k:Int}{c:Cl} (hok:c.pat.ok):FnD Tryz.prog 188 [.d (zam w),.agg [.d (.i a),.d (.i k)],.agg [.d (.i c.pat.op),.d (.i c.pat.ctor),.d (.i c.pat.n),.d (.i c.pat.m),.d (.i c.pat.var),.d (zae c.pat.kids),.d (.i c.g.op),.d (.i c.g.var),.d (.i c.g.n)]] [] (.d (.bool (cvV w a k c))) []:=by
 unfold cvV;refine bd Tryz.f188 16 [] [] fun w0 F0 own kept hk=>?_;refine bx 3004 ?_;refine bx 3005 ?_;refine ev ?_;refine wc zow (zel hs) rfl rfl ?_;refine ev ?_;refine sq ?_ ?_<;>intro h1 h1p h1s<;>(try simp only[Q] at h1p);refine Walk.call (cr:=[]) zq1 (zgM (t:=⟨a,k⟩) (c:=c) (zd1 hs (zbN (by assumption)).1) (zbN (by assumption)).2.1 hok) rfl (.some rfl rfl h1) rfl rfl (LeL.refl _) trivial rfl rfl rfl ?_;refine evs [] [(10,true)] ?_ ⟨⟨_,rfl,h1⟩,trivial⟩;focus (refine rq ?_;all_goals ((simp[h1s,h1p];done)))
 focus (refine rq ?_;all_goals ((simp[h1s,h1p];done)))
theorem zcT {w:List Data} (hs:WSmall w){a k:Int}{c:Cl} (hok:c.pat.ok) (hsz:c.pat.size<=1000000000000):FnD Tryz.prog 185 [.d (zam w),.agg [.d (.i a),.d (.i k)],.agg [.d (.i c.pat.op),.d (.i c.pat.ctor),.d (.i c.pat.n),.d (.i c.pat.m),.d (.i c.pat.var),.d (zae c.pat.kids),.d (.i c.g.op),.d (.i c.g.var),.d (.i c.g.n)]] [] (.d (.bool (cvV w a k c))) []:=by
 unfold cvV;refine bd Tryz.f185 16 [] [] fun w0 F0 own kept hk=>?_;refine bx 3004 ?_;refine bx 3005 ?_;refine ev ?_;refine wc zox (zeF hs) rfl rfl ?_;refine ev ?_;refine sq ?_ ?_<;>intro h1 h1p h1s<;>(try simp only[Q] at h1p);refine Walk.call (cr:=[]) zq3 (zjS (t:=⟨a,k⟩) (c:=c) (zd1 hs (zbN (by assumption)).1) (zpB (zbN (by assumption)).1) (zte (by assumption)) hok hsz) rfl (.some rfl rfl h1) rfl rfl (LeL.refl _) trivial rfl rfl rfl ?_;refine evs [] [(10,true)] ?_ ⟨⟨_,rfl,h1⟩,trivial⟩;focus (refine rq ?_;all_goals ((simp[h1s,h1p];done)))
 focus (refine rq ?_;all_goals ((simp[h1s,h1p];done)))
theorem zfn {w:List Data} (hs:WSmall w){a k:Int}{c d:Cl} (hc:c.pat.ok) (hd:d.pat.ok):FnD Tryz.prog 101 [.d (zam w),.agg [.d (.i a),.d (.i k)],.agg [.d (.i c.pat.op),.d (.i c.pat.ctor),.d (.i c.pat.n),.d (.i c.pat.m),.d (.i c.pat.var),.d (zae c.pat.kids),.d (.i c.g.op),.d (.i c.g.var),.d (.i c.g.n)],.agg [.d (.i d.pat.op),.d (.i d.pat.ctor),.d (.i d.pat.n),.d (.i d.pat.m),.d (.i d.pat.var),.d (zae d.pat.kids),.d (.i d.g.op),.d (.i d.g.var),.d (.i d.g.n)]] [] (.tup [.d (.bool (decide (0<(((cmV w a k c d).getD []).length:Int)))),.d (.bool (cmV w a k c d).isSome)]) []:=by
 have hv1:=zfm hs (a:=a) (k:=k) hc;have hv2:=zfm hs (a:=a) (k:=k) hd;have hv3:=zic hs (a:=a) (k:=k) hc hd;unfold cmV;generalize cvV w a k c=x at *;generalize cvV w a k d=y at *;generalize meV w a k c.pat d.pat=m at *;cases m with
 |none=>
  refine bd Tryz.f101 41 [] [] fun w0 F0 own kept hk=>?_;refine bx 3005 ?_;refine bx 3006 ?_;refine bx 3007 ?_;refine ev ?_;refine wc zli (hv1) rfl rfl ?_;refine ev ?_;refine sq ?_ ?_<;>intro h1 h1p h1s<;>(try simp only[Q,Pat.cs_len] at h1p);refine sqT ?_;refine rn0 (r2 rfl rfl) (.tup (.cons (.eqd ?_) (.cons (.eqd ?_) .nil)));rotate_left 2;refine Walk.call (cr:=[]) zli (hv2) rfl (.some rfl rfl h1) rfl rfl (LeL.refl _) trivial rfl rfl rfl ?_;refine evs [] [(17,false)] ?_ ⟨⟨_,rfl,h1⟩,trivial⟩;refine sq ?_ ?_<;>intro h3 h3p h3s<;>(try simp only[Q,Pat.cs_len] at h3p);refine rn0 (r2 rfl rfl) (.tup (.cons (.eqd ?_) (.cons (.eqd ?_) .nil)));rotate_left 2;refine wc zre (hv3) rfl rfl ?_;refine ev ?_;refine sq ?_ ?_<;>intro h4 h4p h4s<;>(try simp only[Q,Pat.cs_len] at h4p);refine rn0 (r2 rfl rfl) (.tup (.cons (.eqd ?_) (.cons (.eqd ?_) .nil)));rotate_left 2;refine rn0 (r2 rfl rfl) (.tup (.cons (.eqd ?_) (.cons (.eqd ?_) .nil)));rotate_left 2;all_goals ((cases x<;>cases y<;>first|rfl|contradiction|(simp at *;done)))
 |some z=>
  refine bd Tryz.f101 41 [] [] fun w0 F0 own kept hk=>?_;refine bx 3005 ?_;refine bx 3006 ?_;refine bx 3007 ?_;refine ev ?_;refine wc zli (hv1) rfl rfl ?_;refine ev ?_;refine sq ?_ ?_<;>intro h1 h1p h1s<;>(try simp only[Q,Pat.cs_len] at h1p);refine sqT ?_;refine rn0 (r2 rfl rfl) (.tup (.cons (.eqd ?_) (.cons (.eqd ?_) .nil)));rotate_left 2;refine Walk.call (cr:=[]) zli (hv2) rfl (.some rfl rfl h1) rfl rfl (LeL.refl _) trivial rfl rfl rfl ?_;refine evs [] [(17,false)] ?_ ⟨⟨_,rfl,h1⟩,trivial⟩;refine sq ?_ ?_<;>intro h3 h3p h3s<;>(try simp only[Q,Pat.cs_len] at h3p);refine rn0 (r2 rfl rfl) (.tup (.cons (.eqd ?_) (.cons (.eqd ?_) .nil)));rotate_left 2;refine wc zre (hv3) rfl rfl ?_;refine ev ?_;refine sq ?_ ?_<;>intro h4 h4p h4s<;>(try simp only[Q,Pat.cs_len] at h4p);refine rn0 (r2 rfl rfl) (.tup (.cons (.eqd ?_) (.cons (.eqd ?_) .nil)));rotate_left 2;refine rn0 (r2 rfl rfl) (.tup (.cons (.eqd ?_) (.cons (.eqd ?_) .nil)));rotate_left 2;all_goals ((cases x<;>cases y<;>first|rfl|contradiction|(simp at *;done)|(simp[Pat.cs_len] at *;done)))
theorem ziW {w:List Data} (hs:WSmall w){a k:Int}{c d:Cl} (hc:c.pat.ok) (hd:d.pat.ok) (hcz:c.pat.size<=1000000000000) (hdz:d.pat.size<=1000000000000) (hfew:zcw w a k c.pat d.pat=true->FewQ w ⟨a,k⟩ (zbS (zaB c.pat) (zaB d.pat))):FnD Tryz.prog 98 [.d (zam w),.agg [.d (.i a),.d (.i k)],.agg [.d (.i c.pat.op),.d (.i c.pat.ctor),.d (.i c.pat.n),.d (.i c.pat.m),.d (.i c.pat.var),.d (zae c.pat.kids),.d (.i c.g.op),.d (.i c.g.var),.d (.i c.g.n)],.agg [.d (.i d.pat.op),.d (.i d.pat.ctor),.d (.i d.pat.n),.d (.i d.pat.m),.d (.i d.pat.var),.d (zae d.pat.kids),.d (.i d.g.op),.d (.i d.g.var),.d (.i d.g.n)]] [] (.tup [.d (.bool (decide (0<(((cmV w a k c d).getD []).length:Int)))),.d (.bool (cmV w a k c d).isSome)]) []:=by
 have hv1:=zcT hs (a:=a) (k:=k) hc hcz;have hv2:=zcT hs (a:=a) (k:=k) hd hdz;have hv3:=ziv hs (a:=a) (k:=k) hc hd hcz hdz hfew;unfold cmV;generalize cvV w a k c=x at *;generalize cvV w a k d=y at *;generalize meV w a k c.pat d.pat=m at *;cases m with
 |none=>
  refine bd Tryz.f98 38 [] [] fun w0 F0 own kept hk=>?_;refine bx 3005 ?_;refine bx 3006 ?_;refine bx 3007 ?_;refine ev ?_;refine wc zhG (hv1) rfl rfl ?_;refine ev ?_;refine sq ?_ ?_<;>intro h1 h1p h1s<;>(try simp only[Q,Pat.cs_len] at h1p);refine sqT ?_;refine rn0 (r2 rfl rfl) (.tup (.cons (.eqd ?_) (.cons (.eqd ?_) .nil)));rotate_left 2;refine Walk.call (cr:=[]) zhG (hv2) rfl (.some rfl rfl h1) rfl rfl (LeL.refl _) trivial rfl rfl rfl ?_;refine evs [] [(17,false)] ?_ ⟨⟨_,rfl,h1⟩,trivial⟩;refine sq ?_ ?_<;>intro h3 h3p h3s<;>(try simp only[Q,Pat.cs_len] at h3p);refine rn0 (r2 rfl rfl) (.tup (.cons (.eqd ?_) (.cons (.eqd ?_) .nil)));rotate_left 2;refine wc zoD (hv3) rfl rfl ?_;refine ev ?_;refine rn0 (r2 rfl rfl) (.tup (.cons (.eqd ?_) (.cons (.eqd ?_) .nil)));rotate_left 2;all_goals ((cases x<;>cases y<;>first|rfl|contradiction|(simp at *;done)))
 |some z=>
  refine bd Tryz.f98 38 [] [] fun w0 F0 own kept hk=>?_;refine bx 3005 ?_;refine bx 3006 ?_;refine bx 3007 ?_;refine ev ?_;refine wc zhG (hv1) rfl rfl ?_;refine ev ?_;refine sq ?_ ?_<;>intro h1 h1p h1s<;>(try simp only[Q,Pat.cs_len] at h1p);refine sqT ?_;refine rn0 (r2 rfl rfl) (.tup (.cons (.eqd ?_) (.cons (.eqd ?_) .nil)));rotate_left 2;refine Walk.call (cr:=[]) zhG (hv2) rfl (.some rfl rfl h1) rfl rfl (LeL.refl _) trivial rfl rfl rfl ?_;refine evs [] [(17,false)] ?_ ⟨⟨_,rfl,h1⟩,trivial⟩;refine sq ?_ ?_<;>intro h3 h3p h3s<;>(try simp only[Q,Pat.cs_len] at h3p);refine rn0 (r2 rfl rfl) (.tup (.cons (.eqd ?_) (.cons (.eqd ?_) .nil)));rotate_left 2;refine wc zoD (hv3) rfl rfl ?_;refine ev ?_;refine rn0 (r2 rfl rfl) (.tup (.cons (.eqd ?_) (.cons (.eqd ?_) .nil)));rotate_left 2;all_goals ((cases x<;>cases y<;>first|rfl|contradiction|(simp at *;done)|(simp[Pat.cs_len] at *;done)))
theorem zkr {w:List Data} (hs:Spa w){ta tk:Int} (ht:InS (w.length*4) ⟨ta,tk⟩){l res:List Pat} (hl:∀a∈l,zao w 10 ⟨ta,tk⟩ a=true) (hb:l.length<=1600) (hsome:sepV w ⟨ta,tk⟩ l=some res) (hmany:400<res.length):FnD Tryz.prog 129 [.d (zam w),.d (zdQ (w.length*4) (zaI w)),.agg [.d (.i ta),.d (.i tk)],.d (zae l)] [] (.tup [.d (zae []),.d (.bool false)]) []:=by
 have hml:=zjz hl;have hc:∀i,i<l.length->FnD Tryz.prog 136 [.d (zam w),.d (zdQ (w.length*4) (zaI w)),.agg [.d (.i ta),.d (.i tk)],.d (.sl (((Pat.cs l).drop i).take (i+1-i))),.d (.sl ((Pat.cs l).take i))] [] (.tup [.d (zae ((zaN w ⟨ta,tk⟩ [nth l i] (l.take i)).getD [])),.d (.bool (zaN w ⟨ta,tk⟩ [nth l i] (l.take i)).isSome)]) []:=fun i hi=>by
  have h:=zfY hs ht (l:=[nth l i]) (away:=l.take i) (fun a ha=>by rw[List.mem_singleton.1 ha];exact zef (by omega) (hl _ (zal hi))) (fun b hb=>hl b (List.mem_of_mem_take hb)) (by simp) (by rw[List.length_take];omega);obtain⟨_,e2,e3⟩:=zmG i hi;rw[e3,e2] at h;exact h
 have hgood:∀i o,i<l.length->(zaN w ⟨ta,tk⟩ [nth l i] (l.take i)).isSome=true->sepQ w ⟨ta,tk⟩ (l.take i) (l.drop i) o=sepQ w ⟨ta,tk⟩ (l.take (i+1)) (l.drop (i+1)) (o++(zaN w ⟨ta,tk⟩ [nth l i] (l.take i)).getD []):=fun i o hi h=>by
  obtain⟨m,hm⟩:=Option.isSome_iff_exists.1 h;rw[zk5 hi hm,hm];rfl
 refine bd Tryz.f129 51 [] [] fun w0 F0 own kept hk=>?_;refine bx 3006 ?_;refine ev ?_;refine xbg 9 sl34 .none rfl rfl ?_;refine ev ?_;refine xam (ι:=Nat×List Pat) hk (fun s=>[(11,.d (.i (s.1:Int))),(10,.gl 9 (Pat.cs s.2))]) [8,9,12,13,15,16,17,18,19,20,21,22,23,24,25,26,27,28,29,30,31,32,33,34,35,36,37,38,39,40,41,42,43,44,45,46,47,48,49] (fun s=>[(9,some (.tok ((Pat.cs s.2)).length 6))]) (fun s=>s.1<=l.length/\sepQ w ⟨ta,tk⟩ (l.take s.1) (l.drop s.1) s.2=sepV w ⟨ta,tk⟩ l/\s.2.length<=400) (fun s=>l.length-s.1) (0,[]) ⟨by simp,by simp,by simp⟩ ⟨⟨_,rfl,xaz ?_⟩,⟨⟨_,rfl,LeA.glg ?_⟩,trivial⟩⟩ ⟨zad ?_,trivial⟩ (fun x=>rfl) (fun s hg1=>?_);iterate 3 focus (first|rfl|(dsimp only;rw[xaB,xaB,xaB,xaf];done)|(simp[Pat.cs_len];done)|(simp;done)|omega|(simp;omega))
 refine evc [] [] ?_;refine sq ?_ ?_<;>intro h1 h1p h1s<;>(try simp only[Q,Pat.cs_len] at h1p);refine ar ?_ (by(have h9:=hml s.1;(try simp only[Pat.cs_len]);constructor<;>omega));refine xaP (a:=s.1) (b:=(s.1+1)) sl34 .none rfl rfl rfl (by exact zbm _) rfl rfl rfl (by simp) (by omega) (by simp only[Pat.cs_len];omega) ?_;refine evd [] [] ?_;refine xaN (b:=s.1) sl34 .none rfl rfl rfl (by exact zbm _) rfl rfl (by first|omega|(simp only[Pat.cs_len];omega)) ?_;refine wc zq5 (hc s.1 (by omega)) rfl rfl ?_;refine evd [] [] ?_;refine dr ?_;refine sq ?_ ?_<;>intro h2 h2p h2s<;>(try simp only[Q,Pat.cs_len] at h2p);refine sqT ?_;refine xbf sl34 .none rfl ?_;refine ev ?_;refine rn0 (r2 rfl rfl) (.tup (.cons (.eqd ?_) (.cons (.eqd ?_) .nil)));rotate_left 2;refine ar ?_ (by(have h9:=hml s.1;(try simp only[Pat.cs_len]);constructor<;>omega));refine sq ?_ ?_<;>intro h4 h4p h4s<;>(try simp only[Q,Pat.cs_len] at h4p);refine xbf sl34 .none rfl ?_;refine ev ?_;refine rn0 (r2 rfl rfl) (.tup (.cons (.eqd ?_) (.cons (.eqd ?_) .nil)));rotate_left 2;refine ap sl34 zz36 rfl rfl rfl (by exact zbm _) (by have h9:=hml s.1;simp only[Pat.cs_len];omega) ?_;refine ev ?_;refine ar ?_ (by(have h9:=hml s.1;(try simp only[Pat.cs_len]);constructor<;>omega));refine xah ((s.1+1,s.2++(zaN w ⟨ta,tk⟩ [nth l s.1] (l.take s.1)).getD [])) ⟨(by
    refine⟨by dsimp only;omega, ?_, ?_⟩
    ·dsimp only;rw[<-hgood s.1 s.2 (by omega) (by first|assumption|simpa using h2p)];exact hg1.2.1
    ·dsimp only;rw[xaa];omega),(by dsimp only;omega),sx ⟨⟨_,rfl,xaz ?_⟩,⟨⟨_,rfl,LeA.glg ?_⟩,trivial⟩⟩ ⟨zad ?_,trivial⟩⟩
 iterate 3 focus (first|rfl|(dsimp only;rw[xaB,xaB,xaB,xaf];done)|(simp[Pat.cs_len];done)|(simp;done)|omega|(simp;omega))
 refine rn0 (r2 rfl rfl) (.tup (.cons (.gld ?_) (.cons (.eqd ?_) .nil)));rotate_left 2;all_goals (first|rfl|(exfalso;have e:s.2=res:=Option.some.inj ((zm1 (by omega)).symm.trans (hg1.2.1.trans hsome));exact absurd hg1.2.2 (by rw[e];omega)))
theorem ziw {w:List Data} (hs:WSmall w){a k:Int}{p q:Pat} (hp:p.ok) (hq:q.ok) (hpz:p.size<=1000000000000) (hqz:q.size<=1000000000000) (h2:zcw w a k p q=true)
  (hse:FnD Tryz.prog 129 [.d (zam w),.d (zdQ (w.length*4) (zaI w)),.agg [.d (.i a),.d (.i k)],.d (zae (zbS (zaB p) (zaB q)))] [] (.tup [.d (zae []),.d (.bool false)]) []):
  FnD Tryz.prog 186 [.d (zam w),.agg [.d (.i a),.d (.i k)],.agg [.d (.i p.op),.d (.i p.ctor),.d (.i p.n),.d (.i p.m),.d (.i p.var),.d (zae p.kids)],.agg [.d (.i q.op),.d (.i q.ctor),.d (.i q.n),.d (.i q.m),.d (.i q.var),.d (zae q.kids)]] []
   (.tup [.d (zae []),.d (.bool false)]) []:=by
 have hbp:=ziP hs (a:=a) (k:=k) hp hq hpz hqz;obtain⟨hsp,hin,t1,t2,_⟩:=zhw hs h2;have hpq:(zaL w a k p&&zaL w a k q)=true/\zci p=true/\zci q=true:=by
  unfold zcw at h2;simp only[xad] at h2;have h5:=h2.1.1;unfold zaL at h5 ⊢;rw[xad] at h5;exact⟨by rw[h5.1,h5.2,h2.1.2];rfl,h2.2⟩
 rw[h2,if_pos hpq.1,if_pos hpq.1,zhs hpq.2.1,zhs hpq.2.2] at hbp;have hn:=zho hsp.dp;have hxl:=zc1 p;have hyl:=zc1 q;have hme:=fun(x y:Pat) (hx:x∈zaB p) (hy:y∈zaB q)=>zeh hsp 10 10 (Nat.le_refl _) hin (t1 x hx) (t2 y hy);have hml:=zhf hxl hyl;have hmp:=zgn t1 t2;have hfl:∀pre x rest,pre++x::rest=zaB p->(pre.flatMap fun x=>(zaB q).filterMap (zat 10 x)).length<=1600:=fun pre x rest h=>by
  have h3:=zeI (f:=fun x=>(zaB q).filterMap (zat 10 x)) (k:=40) (fun x=>Nat.le_trans (List.length_filterMap_le _ _) hyl) pre;have h4:=congrArg List.length h;simp only[xaa,xab] at h4;omega
 have hre:=zfj hsp hin (l:=[]) (ok:=false) (by simp) (by simp);unfold zbS at hse;clear hmp hml;generalize zaB p=X at *;generalize zaB q=Y at *;refine bd Tryz.f186 78 [] [14] fun w0 F0 own kept hk=>?_;refine bx 3005 ?_;refine bx 3006 ?_;refine bx 3007 ?_;refine ev ?_;refine wc zlg (hbp) rfl rfl ?_;refine ev ?_;refine sq ?_ ?_<;>intro h1 h1p h1s<;>(try simp only[Q,Pat.cs_len] at h1p);focus (exfalso;first|contradiction|(simp at *;done))
 refine xbg 9 sl34 .none rfl rfl ?_;refine ev ?_;refine xam (ι:=List (Pat)×List (Pat)) hk (fun x=>[(14,.d (.i (x.1.length:Int))),(13,.gl 9 (Pat.cs (x.1.flatMap fun x=>Y.filterMap (zat 10 x))))]) [15,16,17,33,34,35,36,37,38,39,40,41,42,43,44,45,46,47,48,49,50,51,52,53,54,55,56,57,58,59,60,61] (fun x=>[(9,some (.tok ((Pat.cs (x.1.flatMap fun x=>Y.filterMap (zat 10 x)))).length 6))]) (fun x=>x.1++x.2=X) (fun x=>x.2.length) ([],X) (by simp) ⟨⟨_,rfl,xaz ?_⟩,⟨⟨_,rfl,LeA.glg ?_⟩,trivial⟩⟩ ⟨zad ?_,trivial⟩ (fun x=>rfl) (fun x hg1=>?_);iterate 3 focus (first|rfl|(dsimp only;rw[List.append_nil] at hg2;subst hg2;rw[List.flatMap_append];simp;done)|(simp;done)|omega|(rw[List.append_nil] at hg2;subst hg2;simp[List.flatMap_append,Pat.cs_len];done)|(simp;omega))
 obtain⟨pre,rest⟩:=x;dsimp only at hg1 ⊢;refine evc [] [14] ?_;refine sq ?_ ?_<;>intro h2 h2p h2s<;>(try simp only[Q,Pat.cs_len] at h2p);rcases rest with _|⟨e,rest⟩
 ·exfalso;simp_all
 refine xam (ι:=List (Pat)×List (Pat)) hk (fun x=>[(15,.d (.i (x.1.length:Int))),(13,.gl 9 (Pat.cs ((pre.flatMap fun x=>Y.filterMap (zat 10 x))++x.1.filterMap (zat 10 e))))]) [16,17,39,40,41,42,43,44,45,46,47,48,49,50,51,52,53,54,55,56,57,58,59,60,61] (fun x=>[(9,some (.tok ((Pat.cs ((pre.flatMap fun x=>Y.filterMap (zat 10 x))++x.1.filterMap (zat 10 e)))).length 6))]) (fun x=>x.1++x.2=Y) (fun x=>x.2.length) ([],Y) (by simp) ⟨⟨_,rfl,xaz ?_⟩,⟨⟨_,rfl,LeA.glg ?_⟩,trivial⟩⟩ ⟨zad ?_,trivial⟩ (fun x=>rfl) (fun x hg2=>?_);iterate 3 focus (first|rfl|(dsimp only;rw[zbq (zbZ (by assumption)),<-zeC (by assumption),xaB,xaB];simp only[xaf,List.append_assoc];rfl)|(dsimp only;rw[zb4 (zcK (by first|assumption|(simp_all;done)))];done)|(dsimp only;rw[zbq (zbZ (by assumption))];simp only[Pat.cs_len,xaa,xab,xai];omega)|(dsimp only;rw[zb4 (zcK (by first|assumption|(simp_all;done)))];simp[Pat.cs_len];done)|(simp;done)|omega|(simp;omega))
 obtain⟨pre2,rest2⟩:=x;dsimp only at hg2 ⊢;refine evc [] [14] ?_;refine sq ?_ ?_<;>intro h3 h3p h3s<;>(try simp only[Q,Pat.cs_len] at h3p);rcases rest2 with _|⟨y,rest2⟩
 ·exfalso;simp_all
 refine xaS sl34 .none rfl rfl rfl rfl (Pat.cs_at' hg1) rfl ?_;refine evd [] [] ?_;refine xaS sl34 .none rfl rfl rfl rfl (Pat.cs_at' hg2) rfl ?_;refine evd [] [] ?_;refine wc zi8 (hme e y (by rw[<-hg1];simp) (by rw[<-hg2];simp)) rfl rfl ?_;refine evd [] [] ?_;refine ab 3016 tz36 ?_;refine so ty36 ?_;refine evd [] [] ?_;refine dr ?_;refine sq ?_ ?_<;>intro h4 h4p h4s<;>(try simp only[Q,Pat.cs_len] at h4p);refine si [0] [_] sl34 tz36 ?_;refine ap sl34 zz36 rfl rfl rfl (by intro x hx;simp at hx;subst hx;rfl) (by have h9:=hfl pre e rest hg1;have h8:=List.length_filterMap_le (zat 10 e) pre2;have h7:=congrArg List.length hg2;simp only[xaa,xab] at h7;simp only[Pat.cs_len,xaa,xab,xai];omega) ?_;refine ev ?_;refine ar ?_;refine xah ((pre2++[y],rest2)) ⟨(by have hz:=hg2;rw[<-hz];simp),(by simp),sx ⟨⟨_,rfl,xaz ?_⟩,⟨⟨_,rfl,LeA.glg ?_⟩,trivial⟩⟩ ⟨zad ?_,trivial⟩⟩;iterate 3 focus (first|rfl|(dsimp only;rw[zbq (zbZ (by assumption)),<-zeC (by assumption),xaB,xaB];simp only[xaf,List.append_assoc];rfl)|(dsimp only;rw[zb4 (zcK (by first|assumption|(simp_all;done)))];done)|(dsimp only;rw[zbq (zbZ (by assumption))];simp only[Pat.cs_len,xaa,xab,xai];omega)|(dsimp only;rw[zb4 (zcK (by first|assumption|(simp_all;done)))];simp[Pat.cs_len];done)|(simp;done)|omega|(simp;omega))
 refine ar ?_;refine xah ((pre2++[y],rest2)) ⟨(by have hz:=hg2;rw[<-hz];simp),(by simp),sx ⟨⟨_,rfl,xaz ?_⟩,⟨⟨_,rfl,LeA.glg ?_⟩,trivial⟩⟩ ⟨zad ?_,trivial⟩⟩;iterate 3 focus (first|rfl|(dsimp only;rw[zbq (zbZ (by assumption)),<-zeC (by assumption),xaB,xaB];simp only[xaf,List.append_assoc];rfl)|(dsimp only;rw[zb4 (zcK (by first|assumption|(simp_all;done)))];done)|(dsimp only;rw[zbq (zbZ (by assumption))];simp only[Pat.cs_len,xaa,xab,xai];omega)|(dsimp only;rw[zb4 (zcK (by first|assumption|(simp_all;done)))];simp[Pat.cs_len];done)|(simp;done)|omega|(simp;omega))
 have hrest2:rest2=[]:=by
  rcases rest2 with _|⟨a,b⟩
  ·rfl
  ·exfalso;have hz:=congrArg List.length (hg2);simp only[xaa,xab,xac] at hz;omega
 subst hrest2;refine ar ?_;refine xah ((pre++[e],rest)) ⟨(by have hz:=hg1;rw[<-hz];simp),(by simp),sx ⟨⟨_,rfl,xaz ?_⟩,⟨⟨_,rfl,LeA.glg ?_⟩,trivial⟩⟩ ⟨zad ?_,trivial⟩⟩;iterate 3 focus (first|rfl|(dsimp only;rw[List.append_nil] at hg2;subst hg2;rw[List.flatMap_append];simp;done)|(simp;done)|omega|(rw[List.append_nil] at hg2;subst hg2;simp[List.flatMap_append,Pat.cs_len];done)|(simp;omega))
 have hrest:rest=[]:=by
  rcases rest with _|⟨a,b⟩
  ·rfl
  ·exfalso;have hz:=congrArg List.length (hg1);simp only[xaa,xab,xac] at hz;omega
 subst hrest;obtain rfl:pre=X:=(by simpa using hg1);refine evc [] [] ?_;refine wc zoz (hn) rfl rfl ?_;refine evd [] [] ?_;refine Walk.call (cr:=[]) zoy (hse) rfl .none rfl rfl (.cons (.refl _) (.cons (.refl _) (.cons (.refl _) (.cons (.gl _ _) .nil)))) trivial rfl rfl rfl ?_;refine evd [] [] ?_;refine dr ?_;refine wc zoA (hre) rfl rfl ?_;refine ev ?_;refine rn0 (r2 rfl rfl) (.tup (.cons (.eqd ?_) (.cons (.eqd ?_) .nil)));rotate_left 2;all_goals (rfl)
theorem zfd {w:List Data} (hs:WSmall w){a k:Int}{c d:Cl} (hc:c.pat.ok) (hd:d.pat.ok) (hcz:c.pat.size<=1000000000000) (hdz:d.pat.size<=1000000000000):
  ∃m o:Bool,(m=false/\o=true↔cmV w a k c d=some [])/\FnD Tryz.prog 98 [.d (zam w),.agg [.d (.i a),.d (.i k)],.agg [.d (.i c.pat.op),.d (.i c.pat.ctor),.d (.i c.pat.n),.d (.i c.pat.m),.d (.i c.pat.var),.d (zae c.pat.kids),.d (.i c.g.op),.d (.i c.g.var),.d (.i c.g.n)],.agg [.d (.i d.pat.op),.d (.i d.pat.ctor),.d (.i d.pat.n),.d (.i d.pat.m),.d (.i d.pat.var),.d (zae d.pat.kids),.d (.i d.g.op),.d (.i d.g.var),.d (.i d.g.n)]] [] (.tup [.d (.bool m),.d (.bool o)]) []:=by
 by_cases hfew:zcw w a k c.pat d.pat=true->FewQ w ⟨a,k⟩ (zbS (zaB c.pat) (zaB d.pat))
 ·refine⟨_,_, ?_,ziW hs hc hd hcz hdz hfew⟩;cases cmV w a k c d with
  |none=>simp
  |some z=>cases z<;>simp
 ·have h2:zcw w a k c.pat d.pat=true:=Classical.byContradiction fun h=>hfew fun h'=>absurd h' h;have h3:¬FewQ w ⟨a,k⟩ (zbS (zaB c.pat) (zaB d.pat)):=fun h=>hfew fun _=>h;obtain⟨hsp,hin,t1,t2,_⟩:=zhw hs h2;have hml:=zhf (zc1 c.pat) (zc1 d.pat);have hmp:=zgn t1 t2;have h4:∃res,sepV w ⟨a,k⟩ (zbS (zaB c.pat) (zaB d.pat))=some res/\400<res.length:=by
   refine Classical.byContradiction fun h=>h3 fun res hr=>?_;refine Nat.le_of_not_lt fun h4=>h ⟨res,hr,h4⟩
  obtain⟨res,hr,h5⟩:=h4;have hmee:=ziw hs hc hd hcz hdz h2 (zkr hsp hin hmp hml hr h5);have hv1:=zcT hs (a:=a) (k:=k) hc hcz;have hv2:=zcT hs (a:=a) (k:=k) hd hdz;have hcm:cmV w a k c d≠some []:=by
   unfold cmV;split
   ·rw[zqI h2 hr];split
    ·intro h;cases h;simp at h5
    ·simp
   ·simp
  refine⟨false,false,by simp[hcm], ?_⟩;clear hcm h5 hr hmp hml t1 t2 h3 h2 hfew;generalize cvV w a k c=x at *;generalize cvV w a k d=y at *;refine bd Tryz.f98 38 [] [] fun w0 F0 own kept hk=>?_;refine bx 3005 ?_;refine bx 3006 ?_;refine bx 3007 ?_;refine ev ?_;refine wc zhG (hv1) rfl rfl ?_;refine ev ?_;refine sq ?_ ?_<;>intro h1 h1p h1s<;>(try simp only[Q,Pat.cs_len] at h1p);refine sqT ?_;refine rn0 (r2 rfl rfl) (.tup (.cons (.eqd ?_) (.cons (.eqd ?_) .nil)));rotate_left 2;refine Walk.call (cr:=[]) zhG (hv2) rfl (.some rfl rfl h1) rfl rfl (LeL.refl _) trivial rfl rfl rfl ?_;refine evs [] [(17,false)] ?_ ⟨⟨_,rfl,h1⟩,trivial⟩;refine sq ?_ ?_<;>intro h3 h3p h3s<;>(try simp only[Q,Pat.cs_len] at h3p);refine rn0 (r2 rfl rfl) (.tup (.cons (.eqd ?_) (.cons (.eqd ?_) .nil)));rotate_left 2;refine wc zoD (hmee) rfl rfl ?_;refine ev ?_;refine rn0 (r2 rfl rfl) (.tup (.cons (.eqd ?_) (.cons (.eqd ?_) .nil)));rotate_left 2;all_goals (first|rfl|(cases x<;>cases y<;>first|rfl|contradiction|(simp at *;done)))
end Go.Proofs.YtlfipehhbdjnjaaGreat
namespace Go.Proofs.YtlfipehhbdjnjaaGreat
open Go
set_option linter.unusedSimpArgs false
set_option linter.unusedVariables false
theorem znu (L:List Nat) (hp:Hp) (i:Nat):getH (L.map (fun j=>(j,(none:Option Res)))++hp) i=if i∈L then none else getH hp i:=by
 induction L with
 |nil=>simp
 |cons x r ih=>
  simp only[xae,xag,zah,List.mem_cons];by_cases h:i=x
  ·subst h;simp
  ·simp[h,ih]
section
variable {c:Ctx}
theorem R.drop {G:Gh}{s:St}{a:Act}{w:World} (hr:R c G s a w) (L:List Nat) (hk:∀i l,c.kept i=some l->i∉L):R c G ⟨s.env,L.map (fun j=>(j,none))++s.hp⟩ a w:=by
 have hg:=znu L s.hp;have hT:∀i p,tokf (L.map (fun j=>(j,(none:Option Res)))++s.hp) i=some p->tokf s.hp i=some p:=fun i p h=>by
  obtain⟨n,k⟩:=p;have:=zar.1 h;rw[hg] at this;split at this
  ·cases this
  ·exact zar.2 this
 have hm:∀ {x:AV}{v:Value},RelA G (tokf s.hp) w x v->RelA G (tokf (L.map (fun j=>(j,(none:Option Res)))++s.hp)) w x v:=fun hx=>
  hx.mono (fun _ _ ho=>⟨ho,rfl⟩) (fun _ _=> .inl rfl) (fun i _ p hp=>⟨hT i p hp,fun _ _=>⟨rfl,rfl⟩⟩)
 have hs:∀i r,getH (L.map (fun j=>(j,(none:Option Res)))++s.hp) i=some r->getH s.hp i=some r:=fun i r h=>by
  rw[hg] at h;split at h
  ·cases h
  ·exact h
 have hss:∀i,(getH (L.map (fun j=>(j,(none:Option Res)))++s.hp) i).isSome->(getH s.hp i).isSome:=fun i h=>by
  obtain⟨r,hr⟩:=Option.isSome_iff_exists.1 h;rw[hs i r hr];rfl
 refine⟨hr.size,hr.defers,fun i v h=>hm (hr.slots i v h),fun i r h=>?_,fun i j h1 h2=>hr.disj i j (hss i h1) (hss j h2),fun i h=>hr.new i (hss i h),hr.frm,hr.top,fun i l hl=>?_⟩
 ·have hh:=hr.heap i r (hs i r h);cases r with
  |box cs=>
   obtain⟨b,vs,e,h1,h2,h3,h4,h5⟩:=hh;exact⟨b,vs,e,h1,h2,h3,h4,fun j hj hv=>hm (h5 j hj hv)⟩
  |tok m k=>exact hh
  |map ks=>exact hh
  |tree cs=>exact zbj hh rfl (fun _ _=>⟨rfl,rfl⟩) (Nat.le_refl _) (fun _ _ _=>hm)
 ·obtain⟨k1,k2,k3⟩:=hr.kept i l hl;refine⟨k1, ?_, ?_⟩
  ·show(getH (L.map (fun j=>(j,(none:Option Res)))++s.hp) i).isSome
   rw[hg,if_neg (hk i l hl)];exact k2
  ·show tokf (L.map (fun j=>(j,(none:Option Res)))++s.hp) i=none
   cases h:tokf (L.map (fun j=>(j,(none:Option Res)))++s.hp) i with
   |none=>rfl
   |some p=>rw[hT i p h] at k3;cases k3
theorem R.retokG {G G':Gh}{s:St}{a:Act}{w w':World} (hr:R c G s a w){id n n' k:Nat} (htok:getH s.hp id=some (.tok n k)) (hlt:n<n')
  (hF:∀b o,o<G.F b->o<G'.F b/\w'.cell? ⟨b,o,none⟩=w.cell? ⟨b,o,none⟩) (hloc:∀i,i≠id->G'.loc i=G.loc i)
  (hoth:∀b,b<w.heap.size->b∉G.loc id->w'.heap[b]?=w.heap[b]?/\G'.F b=G.F b)
  (hid:∀b,b∈G'.loc id->b<w'.heap.size) (hnew:∀b,b∈G'.loc id->b∈G.loc id\/w.heap.size<=b\/((b∈c.own\/c.w0.heap.size<=b)/\∀i,i≠id->(getH s.hp i).isSome->b∉G.loc i))
  (hos:w'.os=w.os) (htp:w'.tape=w.tape) (hou:w'.output=w.output) (hsz:w.heap.size<=w'.heap.size) (htop:∀b,w'.heap.size<=b->G'.F b=0):
  R c G' { s with hp:=(id,some (.tok n' k))::s.hp } a w':=by
 have hT:tokf s.hp id=some (n,k):=zar.2 htok;have hT1:tokf ((id,some (.tok n' k))::s.hp) id=some (n',k):=zar.2 (by rw[zah,if_pos rfl]);have hT2:∀i,i≠id->tokf ((id,some (.tok n' k))::s.hp) i=tokf s.hp i:=fun i hi=>by
  unfold tokf;rw[zah,if_neg hi]
 have bound:∀i r,getH s.hp i=some r->∀b,b∈G.loc i->b<w.heap.size:=fun i r h=>(hr.heap i r h).bound;have apart:∀i r,i≠id->getH s.hp i=some r->∀b,b∈G.loc i->b∉G.loc id:=fun i r hi h b hb=>hr.disj i id (by rw[h];rfl) (by rw[htok];rfl) hi b hb;have hm:∀ {x:AV}{v:Value},RelA G (tokf s.hp) w x v->RelA G' (tokf ((id,some (.tok n' k))::s.hp)) w' x v:=fun hx=>
  hx.retok hF hT hlt hT1 hT2 hloc (fun i p hi hp b hb=>by
   obtain⟨m,k'⟩:=p;have h1:=zar.1 hp;exact hoth b (bound i _ h1 b hb) (apart i _ hi h1 b hb))
 have hsome:∀i,(getH ((id,some (.tok n' k))::s.hp) i).isSome->(getH s.hp i).isSome:=fun i h=>by
  rw[zah] at h;split at h
  ·rename_i e;subst e;rw[htok];rfl
  ·exact h
 have hidnew:=hr.new id (by rw[htok];rfl);have far:∀b,b∈G'.loc id->∀i r,i≠id->getH s.hp i=some r->b∉G.loc i:=fun b hb i r hi h hbj=>by
  rcases hnew b hb with h1|h1|h1
  ·exact apart i r hi h b hbj h1
  ·have:=bound i r h b hbj;omega
  ·exact h1.2 i hi (by rw[h];rfl) hbj
 refine⟨hr.size,hr.defers,fun i v h=>hm (hr.slots i v h),fun i r h=>?_,fun i j h1 h2 h3 b hb=>?_,fun i h b hb=>?_,
  hr.frm.trans (own1:=G.loc id) ⟨hos,htp,hou,hsz,hoth,hF⟩ hidnew,htop,fun i l hl=>?_⟩
 ·rw[zah] at h;by_cases hi:i=id
  ·subst hi;rw[if_pos rfl] at h;cases h
   exact hid
  ·rw[if_neg hi] at h;have hh:=hr.heap i r h;have ho:∀b,b∈G.loc i->w'.heap[b]?=w.heap[b]?/\G'.F b=G.F b:=fun b hb=>hoth b (bound i r h b hb) (apart i r hi h b hb);cases r with
   |box cs=>
    obtain⟨b,vs,e,h1,h2,h3,h4,h5⟩:=hh;obtain⟨o1,o2⟩:=ho b (by simp[h1]);exact⟨b,vs,e,(hloc i hi).trans h1,o1.trans h2,h3,o2.trans h4,fun j hj hv=>hm (h5 j hj hv)⟩
   |tok m k'=>exact fun b h1=>Nat.lt_of_lt_of_le (hh b (by rw[hloc i hi] at h1;exact h1)) (by omega)
   |map ks=>
    obtain⟨b,es,cl,h1,h2,h3,h4⟩:=hh;obtain⟨o1,o2⟩:=ho b (by simp[h1]);exact⟨b,es,cl,(hloc i hi).trans h1,o1.trans h2,o2.trans h3,h4⟩
   |tree cs=>exact zbj hh (hloc i hi) ho (by omega) (fun _ _ _=>hm)
 ·have s1:=hsome i h1;have s2:=hsome j h2;obtain⟨r1,hr1⟩:=Option.isSome_iff_exists.1 s1;obtain⟨r2,hr2⟩:=Option.isSome_iff_exists.1 s2;by_cases hi:i=id
  ·subst hi;rw[hloc j (Ne.symm h3)];exact far b hb j r2 (Ne.symm h3) hr2
  ·rw[hloc i hi] at hb;by_cases hj:j=id
   ·subst hj;exact fun hbj=>far b hbj i r1 hi hr1 hb
   ·rw[hloc j hj];exact hr.disj i j s1 s2 h3 b hb
 ·have s1:=hsome i h;by_cases hi:i=id
  ·subst hi;rcases hnew b hb with h' | h' | h'
   ·exact hidnew b h'
   ·right;have:=hr.frm.size;omega
   ·exact h'.1
  ·rw[hloc i hi] at hb;exact hr.new i s1 b hb
 ·have hk:=hr.kept i l hl;have hi:i≠id:=fun e=>by subst e;rw[hT] at hk;simp at hk
  refine⟨(congrArg List.head? (hloc i hi)).trans hk.1, ?_,(hT2 i hi).trans hk.2.2⟩;show(getH ((id,some (.tok n' k))::s.hp) i).isSome
  rw[zah,if_neg hi];exact hk.2.1
inductive RowT (hp:Hp):List AV->List D->List (Nat×Nat×Nat)->Prop
 |nil:RowT hp [] [] []
 |sc {x cs ds js} (hs:zkd x=true) (h:RowT hp cs ds js):RowT hp (.d x::cs) (x::ds) js
 |ni {cs ds js} (h:RowT hp cs ds js):RowT hp (.nils::cs) (.sl []::ds) js
 |gt {j zs n k cs ds js} (hj:getH hp j=some (.tok n k)) (hn:n=zs.length) (h:RowT hp cs ds js):RowT hp (.gt j zs::cs) (.sl zs::ds) ((j,n,k)::js)
theorem RowT.toks {hp:Hp}{cs:List AV}{ds:List D}{js:List (Nat×Nat×Nat)} (h:RowT hp cs ds js):∀q,q∈js->getH hp q.1=some (.tok q.2.1 q.2.2):=by
 induction h with
 |nil=>intro q hq;simp at hq
 |sc _ _ ih=>exact ih
 |ni _ ih=>exact ih
 |gt hj _ _ ih=>
  intro q hq;rcases List.mem_cons.1 hq with rfl|hq
  ·exact hj
  ·exact ih q hq
theorem RowT.move {hp hp':Hp}{cs:List AV}{ds:List D}{js:List (Nat×Nat×Nat)} (h:RowT hp cs ds js):(∀q,q∈js->getH hp' q.1=some (.tok q.2.1 q.2.2))->RowT hp' cs ds js:=by
 induction h with
 |nil=>intro _;exact .nil
 |sc hs _ ih=>intro h;exact .sc hs (ih h)
 |ni _ ih=>intro h;exact .ni (ih h)
 |gt hj hn _ ih=>intro h;exact .gt (h (_,_,_) List.mem_cons_self) hn (ih fun q hq=>h q (List.mem_cons_of_mem _ hq))
theorem RowT.len {hp:Hp}{cs:List AV}{ds:List D}{js:List (Nat×Nat×Nat)} (h:RowT hp cs ds js):ds.length=cs.length:=by
 induction h with
 |nil=>rfl
 |sc _ _ ih=>simp[ih]
 |ni _ ih=>simp[ih]
 |gt _ _ _ ih=>simp[ih]
theorem RowT.trees {G:Gh}{hp:Hp}{w:World}{cs:List AV}{ds:List D}{js:List (Nat×Nat×Nat)} (h:RowT hp cs ds js):∀ {vs:List Value},vs.length=cs.length->
  (∀i (hi:i<cs.length) (hv:i<vs.length),RelA G (tokf hp) w cs[i] vs[i])->
  ∃Sl:List (List Nat),Sl.length=cs.length/\(∀i (hi:i<ds.length) (hv:i<vs.length) (hs:i<Sl.length),TreeD true w ds[i] vs[i] Sl[i])/\Sl.flatten=js.flatMap (fun q=>G.loc q.1)/\
   (∀u,u∈vs->u.oneCell'=true)/\∀q,q∈js->(G.loc q.1).Nodup/\∀b,b∈G.loc q.1->G.F b=0:=by
 induction h with
 |nil=>
  intro vs hl _;have:vs=[]:=List.eq_nil_of_length_eq_zero hl;subst this;exact⟨[],rfl,fun i hi=>by simp at hi,rfl,by simp,by simp⟩
 | @sc x cs ds js hs h ih=>
  intro vs hl hrel;match vs,hl with
  |v::vs,hl=>
   obtain⟨Sl,h1,h2,h3,h4,h5⟩:=ih (vs:=vs) (by simpa using hl) (fun i hi hv=>hrel (i+1) (by simpa using hi) (by simpa using hv));have h0:=(hrel 0 (by simp) (by simp)).d_inv;simp only[List.getElem_cons_zero] at h0;obtain⟨f1,f2⟩:=zis hs;refine⟨[]::Sl,by simp[h1],fun i hi hv hs'=>?_,by simpa using h3,fun u hu=>?_,h5⟩
   ·cases i with
    |zero=>exact TreeD.ofFlat f1 (.inr f2) h0
    |succ i=>exact h2 i (by simpa using hi) (by simpa using hv) (by simpa using hs')
   ·rcases List.mem_cons.1 hu with rfl|hu
    ·exact h0.one
    ·exact h4 u hu
 | @ni cs ds js h ih=>
  intro vs hl hrel;match vs,hl with
  |v::vs,hl=>
   obtain⟨Sl,h1,h2,h3,h4,h5⟩:=ih (vs:=vs) (by simpa using hl) (fun i hi hv=>hrel (i+1) (by simpa using hi) (by simpa using hv));have h0:=hrel 0 (by simp) (by simp);simp only[List.getElem_cons_zero] at h0;have hv:v = .slice none 0 0:=by cases h0;rfl
   subst hv;refine⟨[]::Sl,by simp[h1],fun i hi hv hs'=>?_,by simpa using h3,fun u hu=>?_,h5⟩
   ·cases i with
    |zero=>exact .nil
    |succ i=>exact h2 i (by simpa using hi) (by simpa using hv) (by simpa using hs')
   ·rcases List.mem_cons.1 hu with rfl|hu
    ·rfl
    ·exact h4 u hu
 | @gt j zs n k cs ds js hj hn h ih=>
  intro vs hl hrel;match vs,hl with
  |v::vs,hl=>
   obtain⟨Sl,h1,h2,h3,h4,h5⟩:=ih (vs:=vs) (by simpa using hl) (fun i hi hv=>hrel (i+1) (by simpa using hi) (by simpa using hv));have h0:=hrel 0 (by simp) (by simp);simp only[List.getElem_cons_zero] at h0;obtain⟨⟨ad,cap0,hv0⟩,hcl⟩:=h0.gt_inv;obtain⟨hkx,htip⟩:=(hcl n k (zar.2 hj)).2 hn;have key:TreeD true w (.sl zs) v (G.loc j)/\(G.loc j).Nodup/\∀b,b∈G.loc j->G.F b=0:=by
    rcases htip with ⟨e1,e2,e3⟩|⟨b,cap,us,e,Ss,e1,e2,e3,e4,e5,e6,e7,e8⟩
    ·have hz:zs=[]:=List.eq_nil_of_length_eq_zero (by omega);subst hz;rw[e1,e3];exact⟨.nil,by simp,by simp⟩
    ·refine⟨?_,e6,e7⟩;subst hn;rw[e1,e2];exact TreeD.sl (m:=true) zs k b cap us e Ss hkx e5 e3 e4 e8.1 (fun _ hz=>e8.2 (by rw[hz];rfl))
   refine⟨G.loc j::Sl,by simp[h1],fun i hi hv hs'=>?_,by simp[h3],fun u hu=>?_,fun q hq=>?_⟩
   ·cases i with
    |zero=>exact key.1
    |succ i=>exact h2 i (by simpa using hi) (by simpa using hv) (by simpa using hs')
   ·rcases List.mem_cons.1 hu with rfl|hu
    ·rw[hv0];rfl
    ·exact h4 u hu
   ·rcases List.mem_cons.1 hq with rfl|hq
    ·exact key.2
    ·exact h5 q hq
def ndB:List Nat->Bool
 | []=>true
 |x::r=> !zaS x r&&ndB r
theorem znG:∀ {l:List Nat},ndB l=true->l.Nodup
 | [],_=> .nil
 |x::r,h=>by
  simp only[ndB,xad,Bool.not_eq_true'] at h;refine List.nodup_cons.2 ⟨fun hm=>?_,znG h.2⟩;rw[zaJ.2 hm] at h;cases h.1
theorem zl8 {loc:Nat->List Nat}:∀ {l:List Nat},l.Nodup->(∀j,j∈l->(loc j).Nodup)->(∀i j,i∈l->j∈l->i≠j->∀b,b∈loc i->b∉loc j)->(l.flatMap loc).Nodup
 | [],_,_,_=>by simp
 |x::r,h,h1,h2=>by
  have hn:=List.nodup_cons.1 h;simp only[List.flatMap_cons,List.nodup_append,List.mem_flatMap];refine⟨h1 x (by simp),zl8 hn.2 (fun j hj=>h1 j (by simp[hj])) (fun i j hi hj=>h2 i j (by simp[hi]) (by simp[hj])),fun b hb b' hb' e=>?_⟩;obtain⟨j,hj,hbj⟩:=hb';subst e;exact h2 x j (by simp) (by simp[hj]) (fun e=>by subst e;exact hn.1 hj) b hb hbj
theorem zeg {α:Type}{f:Nat->List α} (n m:Nat):(List.range (n+m)).flatMap f=(List.range n).flatMap f++(List.range m).flatMap (fun i=>f (n+i)):=by
 rw[List.range_add,List.flatMap_append];congr 1
 simp[List.flatMap_map]
theorem zhl {α:Type}:∀(l:List (List α)),(List.range l.length).flatMap (fun i=>l.getD i [])=l.flatten
 | []=>rfl
 |x::r=>by
  rw[xab,show r.length+1=1+r.length by omega,zeg];simp only[List.flatten_cons,<-zhl r];congr 1
  ·simp[List.range_succ]
  ·congr 1;funext i;rw[show 1+i=i+1 by omega];rfl
theorem zfl {α:Type}{f g:Nat->List α} (n:Nat) (h:∀i,i<n->f i=g i):(List.range n).flatMap f=(List.range n).flatMap g:=by
 induction n with
 |zero=>rfl
 |succ n ih=>rw[zeg,zeg,ih (fun i hi=>h i (by omega))];simp[h n (by omega)]
theorem zor {t:TypeId}{G:Gh}{s:St}{a:Act}{w:World}{hp1:Hp} (hr:R c G ⟨s.env,hp1⟩ a w){id m k e yb cap2:Nat}{xs ys:List (List D)}{v:Value}{a0:Addr}{news:List Value}{Sl:List (List Nat)} (ht:SlT c.P t e k yb){z:Value} (hz:∃i,c.P.info? e=some i/\i.zero=some z/\z.cells.size=k)
  (htok1:getH hp1 id=some (.tok xs.length k)) (hkx:∀x,x∈xs->x.length=k) (htip:TipT G w id xs.length k v xs) (hky:∀y,y∈ys->y.length=k) (hym:ys.length=m) (hmpos:0<m)
  (hnl:news.length=m*k) (hnews:∀j u,news[j]?=some u->w.cell? (a0.add j)=some u) (hone:∀u,u∈news->u.oneCell'=true) (hSl:Sl.length=m*k)
  (htr:∀i (hi:i<ys.length) j (hj:j<ys[i].length) (hv:i*k+j<news.length),TreeD true w ys[i][j] news[i*k+j] (Sl.getD (i*k+j) []))
  (newNodup:Sl.flatten.Nodup) (newF:∀b,b∈Sl.flatten->G.F b=0) (newLt:∀b,b∈Sl.flatten->b<w.heap.size) (newOwn:∀b,b∈Sl.flatten->b∈c.own\/c.w0.heap.size<=b)
  (newApart1:∀b,b∈Sl.flatten->∀i,i≠id->(getH hp1 i).isSome->b∉G.loc i) (newNe:∀x,x∈Sl.flatten->x∉G.loc id)
  (hb:(xs.length+m)*yb<=140737488355328) (hm:xs.length+m<=9223372036854775807) (opt:TypeId):
  ∃v' w' G',(Builtin.append_ #[t,t] opt #[v,.slice (some a0) m cap2]).run c.P w = .ok v' w'/\
   R c G' ⟨s.env,(id,some (.tok (xs.length+m) k))::hp1⟩ a w'/\
   RelA G' (tokf ((id,some (.tok (xs.length+m) k))::hp1)) w' (.gt id (xs++ys)) v':=by
 obtain⟨i,hi1,hi2,hi3⟩:=ht.inf;obtain⟨i',z1,z2,z3⟩:=hz;rw[hi1] at z1;cases z1
 have hT':tokf ((id,some (.tok (xs.length+m) k))::hp1) id=some (xs.length+m,k):=zar.2 (by rw[zah,if_pos rfl]);have hlt:∀b o,o<G.F b->b<w.heap.size:=fun b o ho=>by
  rcases Nat.lt_or_ge b w.heap.size with h|h
  ·exact h
  ·rw[hr.top b h] at ho;omega
 have hkx':∀x,x∈xs++ys->x.length=k:=fun x hx=>by
  rcases List.mem_append.1 hx with h|h
  ·exact hkx x h
  ·exact hky x h
 have hmul1:(xs.length+m)*k=xs.length*k+m*k:=by rw[Nat.add_mul]
 have hlen':(xs++ys).length=xs.length+m:=by rw[xaa,hym]
 let Sn:(Nat->List Nat)->Nat->List Nat:=fun Ss q=>if q<xs.length*k then Ss q else Sl.getD (q-xs.length*k) []
 have hSn:∀Ss,(List.range ((xs.length+m)*k)).flatMap (Sn Ss)=(List.range (xs.length*k)).flatMap Ss++Sl.flatten:=fun Ss=>by
  rw[hmul1,zeg];congr 1
  ·exact zfl _ (fun i hi=>by simp[Sn,hi])
  ·rw[<-zhl Sl,hSl];refine zfl _ (fun i hi=>?_);simp only[Sn];rw[if_neg (by omega),show xs.length*k+i-xs.length*k=i by omega]

 have trees:∀(Ss:Nat->List Nat) (olds:List Value) (tail:List Value) (w':World),olds.length=xs.length*k->(∀b,b∈(List.range (xs.length*k)).flatMap Ss++Sl.flatten->w'.heap[b]?=w.heap[b]?)->
   (∀i (hi:i<xs.length) j (hj:j<xs[i].length),TreeD true w xs[i][j] (olds.getD (i*k+j) undef) (Ss (i*k+j)))->
   ∀i (hi:i<(xs++ys).length) j (hj:j<(xs++ys)[i].length),TreeD true w' (xs++ys)[i][j] ((olds++news++tail).toArray.getD (i*k+j) undef) (Sn Ss (i*k+j)):=by
  intro Ss olds tail w' hol hw hold i hi j hj;by_cases hix:i<xs.length
  ·have e0:(xs++ys)[i]=xs[i]:=List.getElem_append_left hix;have hj':j<xs[i].length:=by rw[<-e0];exact hj
   have h1:xs[i].length=k:=hkx _ (List.getElem_mem hix);have hlt':i*k+j<xs.length*k:=zd6 hix (by omega);have e1:(olds++news++tail).toArray.getD (i*k+j) undef=olds.getD (i*k+j) undef:=by
    simp[List.getD,List.append_assoc,List.getElem?_append_left (show i*k+j<olds.length by omega)]
   have e2:Sn Ss (i*k+j)=Ss (i*k+j):=by simp[Sn,hlt']
   rw[e1,e2];have e3:(xs++ys)[i][j]=xs[i][j]:=by congr 1
   rw[e3];refine(hold i hix j hj').mono (fun b hb=>hw b ?_);exact List.mem_append_left _ (List.mem_flatMap.2 ⟨i*k+j,List.mem_range.2 hlt',hb⟩)
  ·have hiy:i-xs.length<ys.length:=by omega
   have e0:(xs++ys)[i]=ys[i-xs.length]:=List.getElem_append_right (by omega);have hj':j<ys[i-xs.length].length:=by rw[<-e0];exact hj
   have e3:(xs++ys)[i][j]=ys[i-xs.length][j]:=by congr 1
   have hjk:j<k:=by rw[<-hky _ (List.getElem_mem hiy)];exact hj'
   have hq:(i-xs.length)*k+j<m*k:=zd6 (by omega) hjk;have hpos:i*k+j=xs.length*k+((i-xs.length)*k+j):=by
    rw[show i*k=xs.length*k+(i-xs.length)*k by rw[<-Nat.add_mul];congr 1;omega];omega
   have hjn:(i-xs.length)*k+j<news.length:=by omega
   have e1:(olds++news++tail).toArray.getD (i*k+j) undef=news[(i-xs.length)*k+j]:=by
    rw[hpos,<-hol];simp[List.getD,List.append_assoc,List.getElem?_append_right,List.getElem?_append_left hjn,hjn]
   have hjs:(i-xs.length)*k+j<Sl.length:=by omega
   have e2:Sn Ss (i*k+j)=Sl.getD ((i-xs.length)*k+j) []:=by
    simp only[Sn];rw[hpos,if_neg (by omega),show xs.length*k+((i-xs.length)*k+j)-xs.length*k=(i-xs.length)*k+j by omega]
   rw[e1,e2,e3];refine(htr _ hiy j hj' hjn).mono (fun b hb=>hw b ?_);have e4:Sl.getD ((i-xs.length)*k+j) []=Sl[(i-xs.length)*k+j]:=by simp[List.getD,hjs]
   rw[e4] at hb;exact List.mem_append_right _ (List.mem_flatten.2 ⟨_,List.getElem_mem hjs,hb⟩)
 have hidlt:∀b,b∈G.loc id->b<w.heap.size:=(hr.heap id _ htok1).bound

 have fresh:∀(Ss:Nat->List Nat) (olds:List Value) (nc:Nat),olds.length=xs.length*k->xs.length+m<=nc->
   ((List.range (xs.length*k)).flatMap Ss).Nodup->(∀b,b∈(List.range (xs.length*k)).flatMap Ss->b∈G.loc id/\G.F b=0)->
   (∀i (hi:i<xs.length) j (hj:j<xs[i].length),TreeD true w xs[i][j] (olds.getD (i*k+j) undef) (Ss (i*k+j)))->
   ∃G',R c G' ⟨s.env,(id,some (.tok (xs.length+m) k))::hp1⟩ a (w.drew.alloc (.cells (olds.toArray++news.toArray++Builtin.zeroCells z.cells (nc-(xs.length+m))) e))/\
    RelA G' (tokf ((id,some (.tok (xs.length+m) k))::hp1)) (w.drew.alloc (.cells (olds.toArray++news.toArray++Builtin.zeroCells z.cells (nc-(xs.length+m))) e))
     (.gt id (xs++ys)) (.slice (some ⟨w.heap.size,0,none⟩) (xs.length+m) nc):=by
  intro Ss olds nc hol hnc' hndS hSin hold;let cs':Array Value:=olds.toArray++news.toArray++Builtin.zeroCells z.cells (nc-(xs.length+m))
  let G':Gh:={ F:=G.F,loc:=fun j=>bif Nat.beq j id then w.heap.size::(List.range ((xs.length+m)*k)).flatMap (Sn Ss) else G.loc j }
  have hcs:cs'.size=nc*k:=by
   simp only[cs',Array.size_append,List.size_toArray,size_zeroCells,z3,hol,hnl];rw[<-hmul1,<-Nat.add_mul];congr 1;omega
  have hcell:∀b o,o<G.F b->o<G'.F b/\(w.drew.alloc (.cells cs' e)).cell? ⟨b,o,none⟩=w.cell? ⟨b,o,none⟩:=fun b o ho=>by
   have hb:=hlt b o ho;exact⟨ho,by rw[World.cell?_alloc_lt w.drew _ _ hb];rfl⟩
  have hlocne:∀j,j≠id->G'.loc j=G.loc j:=fun j hj=>by simp[G',zcp hj]
  have hlocid:G'.loc id=w.heap.size::(List.range ((xs.length+m)*k)).flatMap (Sn Ss):=by simp[G']
  have hlocid':G'.loc id=w.heap.size::((List.range (xs.length*k)).flatMap Ss++Sl.flatten):=by rw[hlocid,hSn]
  have hmem:∀b,b∈(List.range (xs.length*k)).flatMap Ss++Sl.flatten->b<w.heap.size:=fun b hb=>by
   rcases List.mem_append.1 hb with h|h
   ·exact hidlt b (hSin b h).1
   ·exact newLt b h
  refine⟨G',hr.retokG (G':=G') htok1 (by omega) hcell hlocne (fun b hb _=>⟨zc4 (w:=w.drew) hb,rfl⟩) (fun b hb=>?_) (fun b hb=>?_) rfl rfl rfl (by simp) (fun b hb=>?_), ?_⟩
  ·rw[hlocid'] at hb;have hsz1:(w.drew.alloc (.cells cs' e)).heap.size=w.heap.size+1:=by simp
   show b<(w.drew.alloc (.cells cs' e)).heap.size
   rw[hsz1];rcases List.mem_cons.1 hb with rfl|hb
   ·exact Nat.lt_succ_self _
   ·exact Nat.lt_succ_of_lt (hmem b hb)
  ·rw[hlocid'] at hb;rcases List.mem_cons.1 hb with rfl|hb
   ·exact .inr (.inl (Nat.le_refl _))
   ·rcases List.mem_append.1 hb with h|h
    ·exact .inl (hSin b h).1
    ·exact .inr (.inr ⟨newOwn b h,newApart1 b h⟩)
  ·have hb':w.heap.size+1<=b:=by simpa using hb
   exact hr.top b (by omega)
  refine .gt ⟨_,_,by rw[hlen']⟩ (fun n' k' hm'=>?_);rw[hT'] at hm';cases hm'
  have hnodup:(G'.loc id).Nodup:=by
   rw[hlocid'];refine List.nodup_cons.2 ⟨fun h=>absurd (hmem _ h) (Nat.lt_irrefl _),List.nodup_append.2 ⟨hndS,newNodup,fun b hb b' hb' e=>?_⟩⟩;subst e;exact newNe b hb' (hSin b hb).1
  refine⟨by rw[hlen'];exact Nat.le_refl _,fun _=>⟨hkx',.inr ⟨w.heap.size,nc,cs',e,Sn Ss,hlocid,rfl,zdM (w:=w.drew),by rw[hcs];exact Nat.le_refl _,hnc',hnodup,fun b hb=>?_, ?_,fun h=>by omega⟩⟩⟩
  ·rw[hlocid'] at hb;rcases List.mem_cons.1 hb with rfl|hb
   ·exact hr.top _ (Nat.le_refl _)
   ·rcases List.mem_append.1 hb with h|h
    ·exact(hSin b h).2
    ·exact newF b h
  ·have:=trees Ss olds (Builtin.zeroCells z.cells (nc-(xs.length+m))).toList (w.drew.alloc (.cells cs' e)) hol (fun b hb=>zc4 (w:=w.drew) (hmem b hb)) hold;have ec:cs'=(olds++news++(Builtin.zeroCells z.cells (nc-(xs.length+m))).toList).toArray:=by
    apply Array.ext';simp[cs']
   intro i hi j hj;rw[ec];exact this i hi j hj
 rcases htip with ⟨h1,h2,h3⟩|⟨b,cap,cs,et,Ss,h1,h2,h3,h4,h5,h6,h7,h8,_⟩
 ·
  have hx0:xs=[]:=List.eq_nil_of_length_eq_zero h2;subst hx0;subst h3;have hm':m<=9223372036854775807:=by simpa using hm
  have hb':m*yb<=140737488355328:=by simpa using hb
  have hrun:=run_append_nil (P:=c.P) w t opt e i z ht.und hi1 z2 a0 m cap2 news (by rw[hi2,hnl]) hnews hmpos (by omega) (by rw[hi3];omega);obtain⟨G',hR,hA⟩:=fresh (fun _=>[]) [] (grownCap w m 0 e) (by simp) (by
   have:=grownCap_ge w m 0 e;simpa using this) (by simp) (fun b hb=>by simp at hb) (fun i hi=>by simp at hi)
  simp only[List.nil_append,xai,Nat.zero_add,Array.empty_append] at hR hA hrun ⊢;exact⟨_,_,G',hrun,hR,hA⟩
 ·subst h2;have hmul:xs.length*k<=cs.size:=Nat.le_trans (Nat.mul_le_mul_right _ h5) h4;have hold:∀i (hi:i<xs.length) j (hj:j<xs[i].length),TreeD true w xs[i][j] ((cs.toList.take (xs.length*k)).getD (i*k+j) undef) (Ss (i*k+j)):=fun i hi j hj=>by
   have h9:xs[i].length=k:=hkx _ (List.getElem_mem hi);have hlt':i*k+j<xs.length*k:=zd6 hi (by omega);have e1:(cs.toList.take (xs.length*k)).getD (i*k+j) undef=cs.getD (i*k+j) undef:=by
    have hs:i*k+j<cs.size:=by omega
    simp[List.getD,List.getElem?_take,hlt',Array.getD,hs]
   rw[e1];exact h8 i hi j hj
  have hbl:b∈G.loc id:=by rw[h1];simp
  have hbs:b<w.heap.size:=hidlt b hbl;have h1n:(b::(List.range (xs.length*k)).flatMap Ss).Nodup:=by rw[<-h1];exact h6
  have hin:∀x,x∈(List.range (xs.length*k)).flatMap Ss->x∈G.loc id/\G.F x=0:=fun x hx=>by
   have:x∈G.loc id:=by rw[h1];exact List.mem_cons_of_mem _ hx
   exact⟨this,h7 x this⟩
  by_cases hroom:xs.length+m<=cap
  ·
   have hfit:xs.length*i.size+news.length<=cs.size:=by
    rw[hi2,hnl,<-hmul1];exact Nat.le_trans (Nat.mul_le_mul_right _ hroom) h4
   have hrun:=zeE (P:=c.P) t opt e i ht.und hi1 b xs.length cap cs et h3 a0 m cap2 news (by rw[hi2,hnl]) hnews hone hroom hfit;rw[hi2] at hrun hfit;let rw':Array Value:=(cs.toList.take (xs.length*k)++news++cs.toList.drop (xs.length*k+news.length)).toArray
   have hrs:rw'.size=cs.size:=by
    simp only[rw',List.size_toArray,xaa,List.length_take,List.length_drop,Array.length_toList];omega
   let G':Gh:={ F:=G.F,loc:=fun j=>bif Nat.beq j id then b::(List.range ((xs.length+m)*k)).flatMap (Sn Ss) else G.loc j }
   have hlocne:∀j,j≠id->G'.loc j=G.loc j:=fun j hj=>by simp[G',zcp hj]
   have hlocid:G'.loc id=b::(List.range ((xs.length+m)*k)).flatMap (Sn Ss):=by simp[G']
   have hlocid':G'.loc id=b::((List.range (xs.length*k)).flatMap Ss++Sl.flatten):=by rw[hlocid,hSn]
   have hFb:G.F b=0:=h7 b hbl;have hcell:∀b' o,o<G.F b'->o<G'.F b'/\(w.setRow b rw').cell? ⟨b',o,none⟩=w.cell? ⟨b',o,none⟩:=fun b' o ho=>by
    have hbb:b'≠b:=fun e=>by subst e;omega
    exact⟨ho,cell_setRow_other w b rw' _ hbb⟩
   have hmem:∀x,x∈(List.range (xs.length*k)).flatMap Ss++Sl.flatten->x<w.heap.size/\x≠b:=fun x hx=>by
    rcases List.mem_append.1 hx with h|h
    ·exact⟨hidlt x (hin x h).1,fun e=>by subst e;exact(List.nodup_cons.1 h1n).1 h⟩
    ·exact⟨newLt x h,fun e=>by subst e;exact newNe x h hbl⟩
   refine⟨_,_,G',hrun,hr.retokG (G':=G') htok1 (by omega) hcell hlocne (fun b' hb' hn=>?_) (fun x hx=>?_) (fun x hx=>?_) rfl rfl rfl (by simp) (fun b' hb'=>?_), ?_⟩
   ·have hne:b'≠b:=fun e=>hn (by rw[e];exact hbl);exact⟨setRow_other w b b' rw' hne,rfl⟩
   ·rw[hlocid'] at hx;have:(w.setRow b rw').heap.size=w.heap.size:=by simp
    rw[this];rcases List.mem_cons.1 hx with rfl|hx
    ·exact hbs
    ·exact(hmem x hx).1
   ·rw[hlocid'] at hx;rcases List.mem_cons.1 hx with rfl|hx
    ·exact .inl hbl
    ·rcases List.mem_append.1 hx with h|h
     ·exact .inl (hin x h).1
     ·exact .inr (.inr ⟨newOwn x h,newApart1 x h⟩)
   ·have hb2':w.heap.size<=b':=by simpa using hb'
    exact hr.top b' hb2'
   ·refine .gt ⟨_,_,by rw[hlen']⟩ (fun n' k' hm'=>?_);rw[hT'] at hm';cases hm'
    have hnodup:(G'.loc id).Nodup:=by
     rw[hlocid'];refine List.nodup_cons.2 ⟨fun h=>absurd rfl (hmem _ h).2,List.nodup_append.2 ⟨(List.nodup_cons.1 h1n).2,newNodup,fun x hx x' hx' e=>?_⟩⟩;subst e;exact newNe x hx' (hin x hx).1
    refine⟨by rw[hlen'];exact Nat.le_refl _,fun _=>⟨hkx',.inr ⟨b,cap,rw',et,Sn Ss,hlocid,rfl,setRow_heap w b cs rw' et _ h3,by rw[hrs];exact h4,hroom,hnodup,fun x hx=>?_, ?_,fun h=>by omega⟩⟩⟩
    ·rw[hlocid'] at hx;rcases List.mem_cons.1 hx with rfl|hx
     ·exact hFb
     ·rcases List.mem_append.1 hx with h|h
      ·exact(hin x h).2
      ·exact newF x h
    ·exact trees Ss (cs.toList.take (xs.length*k)) _ (w.setRow b rw') (by simp;omega) (fun x hx=>setRow_other w b x rw' (hmem x hx).2) hold
  ·
   have hrun:=run_append_grow (P:=c.P) w t opt e i z ht.und hi1 z2 ⟨b,0,none⟩ xs.length cap (cs.toList.take (xs.length*k)) (by rw[hi2];simp;omega)
    (fun j u hj=>by
     rw[zce];obtain⟨hj1,hj2⟩:=List.getElem?_eq_some_iff.1 hj;simp only[List.getElem_take] at hj2;have hjs:j<cs.size:=by simp at hj1;omega
     simp only[World.cell?,h3,Option.isSome_none,Bool.false_eq_true,if_false,Nat.zero_add];rw[Array.getElem?_eq_getElem hjs,<-hj2];simp) a0 m cap2 news (by rw[hi2,hnl]) hnews (by omega) (by omega) (by rw[hi3];exact growslice_fits (by omega) hb)
   obtain⟨G',hR,hA⟩:=fresh Ss (cs.toList.take (xs.length*k)) (grownCap w (xs.length+m) cap e) (by simp;omega) (by have:=grownCap_ge w (xs.length+m) cap e;omega) (List.nodup_cons.1 h1n).2 hin hold;exact⟨_,_,G',hrun,hR,hA⟩
theorem zos {t:TypeId}{G:Gh}{s:St}{a:Act}{w:World} (hr:R c G s a w){id b0 m k e yb:Nat}{xs:List (List D)}{cells:List AV}{row:List D}{js:List (Nat×Nat×Nat)}{v u:Value} (ht:SlT c.P t e k yb){z:Value} (hz:∃i,c.P.info? e=some i/\i.zero=some z/\z.cells.size=k)
  (hkb:∀l,c.kept b0≠some l) (htok:getH s.hp id=some (.tok xs.length k)) (hbox:getH s.hp b0=some (.box cells)) (hrow:RowT s.hp cells row js) (hck:cells.length=k) (hnd:ndB (id::js.map (·.1))=true)
  (hv:RelA G (tokf s.hp) w (.gt id xs) v) (hu:RelA G (tokf s.hp) w (.ms b0 m) u) (hm1:m=1)
  (hb:(xs.length+1)*yb<=140737488355328) (hm:xs.length+1<=9223372036854775807) (opt:TypeId):
  ∃v' w' G',(Builtin.append_ #[t,t] opt #[v,u]).run c.P w = .ok v' w'/\
   R c G' ⟨s.env,(id,some (.tok (xs.length+1) k))::((b0::js.map (·.1)).map (fun j=>(j,none))++s.hp)⟩ a w'/\
   RelA G' (tokf ((id,some (.tok (xs.length+1) k))::((b0::js.map (·.1)).map (fun j=>(j,none))++s.hp))) w' (.gt id (xs++[row])) v':=by
 subst hm1;obtain⟨⟨base,cap0,hv0⟩,hcl⟩:=hv.gt_inv;have hT:tokf s.hp id=some (xs.length,k):=zar.2 htok;obtain⟨hkx,htip⟩:=(hcl _ _ hT).2 rfl

 obtain⟨bb,us,eb,hl0,hat0,hlen0,hF0,hcell0⟩:=hr.heap b0 _ hbox;have hu':∃cap2,u = .slice (some ⟨bb,0,none⟩) 1 cap2/\1<=cap2:=by
  cases hu with
  | @ms _ _ b cap h hT hcap=>
   have:b=bb:=zcx h hl0;subst this;exact⟨cap,rfl,hcap⟩
 obtain⟨cap2,rfl,hcap2⟩:=hu';let news:List Value:=us.toList.take k
 have hks:k<=us.size:=by omega
 have hnl:news.length=k:=by simp[news];omega
 have hnews:∀j u,news[j]?=some u->w.cell? ((⟨bb,0,none⟩:Addr).add j)=some u:=fun j u hj=>by
  obtain⟨hj1,hj2⟩:=List.getElem?_eq_some_iff.1 hj;simp only[news,List.getElem_take] at hj2;have hjs:j<us.size:=by omega
  rw[zce];simp only[World.cell?,hat0,Option.isSome_none,Bool.false_eq_true,if_false,Nat.zero_add];rw[Array.getElem?_eq_getElem hjs,<-hj2];simp
 have hrel:∀i (hi:i<cells.length) (hv:i<news.length),RelA G (tokf s.hp) w cells[i] news[i]:=fun i hi hv=>by
  have:=hcell0 i hi (by omega);have e1:news[i]=us[i]'(by omega):=by simp[news]
  rw[e1];exact this
 obtain⟨Sl,hSl,htr,hfl,hone,hjn⟩:=hrow.trees (by rw[hnl,hck]) hrel;have hrl:row.length=k:=by rw[hrow.len,hck]
 have hnd':=znG hnd;have hnd2:=List.nodup_cons.1 hnd';have htoks:=hrow.toks;have tokJ:∀j,j∈js.map (·.1)->∃n q,getH s.hp j=some (.tok n q):=fun j hj=>by
  obtain⟨q,hq,rfl⟩:=List.mem_map.1 hj;exact⟨_,_,htoks q hq⟩
 have hflm:js.flatMap (fun q=>G.loc q.1)=(js.map (·.1)).flatMap G.loc:=by rw[List.flatMap_map]
 rw[hflm] at hfl;have newIn:∀b,b∈Sl.flatten->∃j,j∈js.map (·.1)/\b∈G.loc j:=fun b hb=>by rw[hfl] at hb;exact List.mem_flatMap.1 hb
 have hdr:=hr.drop (b0::js.map (·.1)) (fun i l hk hm=>by
  rcases List.mem_cons.1 hm with rfl|hm
  ·exact hkb l hk
  ·obtain⟨n,q,h⟩:=tokJ i hm;have:=(hr.kept i l hk).2.2;rw[zar.2 h] at this;cases this)
 have hidb:id∉b0::js.map (·.1):=fun hm=>by
  rcases List.mem_cons.1 hm with rfl|hm
  ·rw[htok] at hbox;cases hbox
  ·exact hnd2.1 hm
 have hg1:∀i,getH ((b0::js.map (·.1)).map (fun j=>(j,(none:Option Res)))++s.hp) i=if i∈b0::js.map (·.1) then none else getH s.hp i:=fun i=>znu _ _ _
 exact zor (s:=s) hdr (m:=1) (ys:=[row]) (Sl:=Sl) (news:=news) ht hz (by rw[hg1,if_neg hidb];exact htok) hkx htip (fun y hy=>by simp only[List.mem_singleton] at hy;rw[hy];exact hrl) rfl (by omega)
  (by omega) hnews hone (by rw[hSl,hck];omega)
  (fun i hi j hj hvn=>by
   have:i=0:=by simpa using hi
   subst this;simp only[Nat.zero_mul,Nat.zero_add] at hvn ⊢;have hj':j<row.length:=hj;have hjs:j<Sl.length:=by omega
   have e4:Sl.getD j []=Sl[j]:=by simp[List.getD,hjs]
   rw[e4];exact htr j hj' hvn hjs)
  (by
   rw[hfl];refine zl8 hnd2.2 (fun j hj=>?_) (fun i j hi hj hne=>?_)
   ·obtain⟨q,hq,rfl⟩:=List.mem_map.1 hj;exact(hjn q hq).1
   ·obtain⟨n1,q1,h1⟩:=tokJ i hi;obtain⟨n2,q2,h2⟩:=tokJ j hj;exact hr.disj i j (by rw[h1];rfl) (by rw[h2];rfl) hne)
  (fun b hb=>by
   obtain⟨j,hj,hbj⟩:=newIn b hb;obtain⟨q,hq,rfl⟩:=List.mem_map.1 hj;exact(hjn q hq).2 b hbj)
  (fun b hb=>by
   obtain⟨j,hj,hbj⟩:=newIn b hb;obtain⟨n1,q1,h1⟩:=tokJ j hj;exact(hr.heap j _ h1).bound b hbj)
  (fun b hb=>by
   obtain⟨j,hj,hbj⟩:=newIn b hb;obtain⟨n1,q1,h1⟩:=tokJ j hj;exact hr.new j (by rw[h1];rfl) b hbj)
  (fun b hb i _ hs=>by
   rw[hg1] at hs;split at hs
   ·cases hs
   ·rename_i hni;intro hbi;obtain⟨j,hj,hbj⟩:=newIn b hb;obtain⟨n1,q1,h1⟩:=tokJ j hj;exact hr.disj j i (by rw[h1];rfl) hs (fun e=>by subst e;exact hni (List.mem_cons_of_mem _ hj)) b hbj hbi)
  (fun b hb hbi=>by
   obtain⟨j,hj,hbj⟩:=newIn b hb;obtain⟨n1,q1,h1⟩:=tokJ j hj;exact hr.disj j id (by rw[h1];rfl) (by rw[htok];rfl) (fun e=>by subst e;exact hnd2.1 hj) b hbj hbi) hb hm opt
theorem R.mkTokT {G:Gh}{s:St}{a:Act}{w:World} (hr:R c G s a w){id:Nat} (k:Nat) (h0:getH s.hp id=none) (hocc:zcE id s):
  ∃G',R c G' { s with hp:=(id,some (.tok 0 k))::s.hp } a w/\RelA G' (tokf ((id,some (.tok 0 k))::s.hp)) w (.gt id []) (.slice none 0 0):=by
 have h1:=hr.rename h0 hocc [];have hl:(fun i=>bif Nat.beq i id then ([]:List Nat) else G.loc i) id=[]:=by simp
 refine⟨_,h1.name h0 hocc (fun b hb=>by simp at hb) (fun i _ b _ hb=>by simp at hb) (fun b hb=>by simp at hb), ?_⟩;refine .gt ⟨none,0,rfl⟩ (fun n k' hT=>?_);have:=zar.1 hT;rw[zah,if_pos rfl] at this;cases this
 exact⟨Nat.le_refl _,fun _=>⟨by simp,.inl ⟨hl,rfl,rfl⟩⟩⟩
end
section
variable {c:Ctx}{all:Array Oper}{chk:List Rec->Prop}{os:List Oper}{recs:List Rec}{env:Env}{hp:Hp}{Q:St->Prop}
variable {d ty:Nat}{pos:String}{af:Array Edge}{g:Option (Nat×Bool)}{pg:List (Nat×AV)}
variable {t yt:TypeId}{x y:Operand}
theorem xaE {ids:List Nat}{id b0 m k e yb:Nat}{xs:List (List D)}{cells:List AV}{row:List D}{js:List (Nat×Nat×Nat)} (hkp:KeptIn c.kept ids) (hkb:zaS b0 ids=false) (ht:SlT c.P t e k yb) (hz:ZeroT c.P e k) (hg:GH all env g pg) (hd:Nat.blt d c.n=true)
  (hx:opd env x=some (.gt id xs)) (hy:opd env y=some (.ms b0 m)) (hm1:m=1) (htok:getH hp id=some (.tok xs.length k)) (hbox:getH hp b0=some (.box cells)) (hrow:RowT hp cells row js) (hck:cells.length=k) (hnd:ndB (id::js.map (·.1))=true)
  (hb:(xs.length+1)*yb<=140737488355328) (hm:xs.length+1<=9223372036854775807)
  (hn:Walk c all chk os (zaq (pg++(opF x (.gt id xs)++opF y (.ms b0 m))) ((id,.tok xs.length k)::(b0,.box cells)::js.map (fun q=>(q.1,.tok q.2.1 q.2.2))) [] ⟨some (d,.gt id (xs++[row])),(id,some (.tok (xs.length+1) k))::(b0::js.map (·.1)).map (fun j=>(j,none))⟩::recs)
   ⟨(d,.gt id (xs++[row]))::env,(id,some (.tok (xs.length+1) k))::((b0::js.map (·.1)).map (fun j=>(j,none))++hp)⟩ Q):
  Walk c all chk (⟨some d,.call ⟨.builtin .append,#[x,y],#[t,t]⟩,ty,pos,af,g⟩::os) recs ⟨env,hp⟩ Q:=by
 refine⟨pg++(opF x (.gt id xs)++opF y (.ms b0 m)),(id,.tok xs.length k)::(b0,.box cells)::js.map (fun q=>(q.1,.tok q.2.1 q.2.2)),[],_, ?_,zav hg.facts (zav (zaZ hx) (zaZ hy)),fun p hm=>?_,by simp,hn⟩
 ·intro s a w hrel hp' hh _ K Q' hK;obtain⟨G,hr⟩:=hrel;have e1:=hr.opd (za0 hx (fun p hm=>hp' p (by simp[hm])));have e2:=hr.opd (za0 hy (fun p hm=>hp' p (by simp[hm])));obtain⟨i,z,z1,z2,z3⟩:=hz.out;obtain⟨v',w',G',hrun,hR,hA⟩:=zos hr ht ⟨i,z1,z2,z3⟩ (fun l hl=>by have:=zaJ.2 (hkp.mem _ l hl);rw[this] at hkb;cases hkb) (hh (id,_) (by simp)) (hh (b0,_) (by simp))
   (hrow.move (fun q hq=>hh (q.1,.tok q.2.1 q.2.2) (by simp only[List.mem_cons,List.mem_map];exact .inr (.inr ⟨q,hq,rfl⟩)))) hck hnd e1 e2 hm1 hb hm ty
  unfold wpO;rw[if_pos (hg.gf.wanted hr (fun p hm=>hp' p (by simp[hm])))];unfold Oper.wp;have:(execOp a.eval ⟨some d,.call ⟨.builtin .append,#[x,y],#[t,t]⟩,ty,pos,af,g⟩).run c.P w = .ok (.value v') w':=by
   simp only[execOp,resolve,invoke,builtin,Sem.run_bind,Sem.run_pure,Result.andThen_ok,List.map_toArray,xae,List.map_nil,hrun]
  rw[this,Oper.upon_value];exact hK _ _ ⟨G',hR.put hA hd⟩
 ·rcases List.mem_cons.1 hm with rfl|hm
  ·exact htok
  rcases List.mem_cons.1 hm with rfl|hm
  ·exact hbox
  ·obtain⟨q,hq,rfl⟩:=List.mem_map.1 hm;exact hrow.toks q hq
end
section
variable {c:Ctx}{env:Env}{hp:Hp}{K:Kt}{code:Code}{ids:List Nat}
theorem ztx {G:Gh}{w:World}{id n k:Nat}{xs:List (List D)}{v:Value} (hn:n=xs.length) (hk:∀x,x∈xs->x.length=k) (h:TipT G w id n k v xs):
  TreeD true w (.sl xs) v (G.loc id)/\(G.loc id).Nodup/\∀b,b∈G.loc id->G.F b=0:=by
 rcases h with ⟨e1,e2,e3⟩|⟨b,cap,us,e,Ss,e1,e2,e3,e4,e5,e6,e7,e8⟩
 ·have hz:xs=[]:=List.eq_nil_of_length_eq_zero (by omega);subst hz;rw[e1,e3];exact⟨.nil,by simp,by simp⟩
 ·refine⟨?_,e6,e7⟩;subst hn;rw[e1,e2];exact TreeD.sl (m:=true) xs k b cap us e Ss hk e5 e3 e4 e8.1 (fun _ hz=>e8.2 (by rw[hz];rfl))
theorem CWp.tokBT (b off id k:Nat){cs cs':List AV} (hb:getH hp b=some (.box cs)) (h:cs[off]?=some .nils) (hput:putC cs off [.gt id []]=some cs') (hf:zaj env hp [id]=true)
  (hn:CWp c code ⟨env,(b,some (.box cs'))::(id,some (.tok 0 k))::hp⟩ K):CWp c code ⟨env,hp⟩ K:=by
 intro a w hrel;obtain⟨G,hr⟩:=hrel;obtain⟨h0,hocc⟩:=zbe hf id (by simp);obtain⟨G',h1,h2⟩:=hr.mkTokT k h0 hocc;have hne:b≠id:=fun e=>by subst e;have h0':getH hp b=none:=h0;rw[h0'] at hb;cases hb
 have hb':getH ((id,some (Res.tok 0 k))::hp) b=some (.box cs):=by rw[zah,if_neg hne];exact hb
 obtain⟨bl,vs,e,e1,e2,e3,e4,e5⟩:=h1.heap b _ hb';obtain⟨hlt,hv⟩:=List.getElem?_eq_some_iff.1 h;have hlv:off<vs.size:=by omega
 have hval:vs[off] = .slice none 0 0:=by
  have:=e5 off hlt hlv;rw[hv] at this;generalize vs[off]=v at *;cases this;rfl
 have hall:PreR G' (tokf ((id,some (.tok 0 k))::hp)) w cs' vs:=by
  obtain⟨p1,p2,p3⟩:=zbF hput;refine⟨by omega,fun i hi hvi=>?_⟩;have:=p3 i;rw[List.getElem?_eq_getElem hi] at this;by_cases hio:i=off
  ·subst hio;rw[if_pos (by simp)] at this;simp only[Nat.sub_self,List.getElem?_cons_zero,Option.some.injEq] at this;rw[this,hval];exact h2
  ·rw[if_neg (by simp only[xab,xai];omega)] at this;have hic:i<cs.length:=by omega
   rw[List.getElem?_eq_getElem hic] at this;rw[Option.some.inj this];exact e5 i hic hvi
 have:=h1.setBox (vs':=vs) hb' e1 e2 e4 hall;have hw:w.setRow bl vs=w:=setRow_self w bl vs e _ e2;rw[hw] at this;exact hn a w ⟨G',this⟩
theorem CWp.tokT (t id k:Nat) (h:getE env t=some .nils) (hf:zaj env hp [id]=true)
  (hn:CWp c code ⟨(t,.gt id [])::env,(id,some (.tok 0 k))::hp⟩ K):CWp c code ⟨env,hp⟩ K:=by
 intro a w hrel;obtain⟨G,hr⟩:=hrel;obtain⟨h0,hocc⟩:=zbe hf id (by simp);obtain⟨G',h1,h2⟩:=hr.mkTokT k h0 hocc;have hv:a.tmps.getD t undef = .slice none 0 0:=by
  have:=hr.slots t _ h;revert this
  generalize a.tmps.getD t undef=v;intro this;cases this;rfl
 exact hn a w ⟨G',h1.slot (by rw[hv];exact h2)⟩
theorem xas (id off id' k:Nat){xs:List (List D)}{cs cs':List AV} (hb:getH hp id=some (.tree cs)) (hc:cs[off]?=some (.own true (.sl xs))) (hk:∀x,x∈xs->x.length=k)
  (hf:zaj env hp [id']=true) (hput:putC cs off [.gt id' xs]=some cs')
  (hn:CWp c code ⟨env,(id',some (.tok xs.length k))::(id,some (.tree cs'))::hp⟩ K):CWp c code ⟨env,hp⟩ K:=by
 rintro a w ⟨G,hr⟩
 obtain⟨h0,hocc⟩:=zbe hf id' (by simp);obtain⟨b,vs,e,Ss,hT⟩:=hr.heap id _ hb;obtain⟨hoff,hcv⟩:=List.getElem?_eq_some_iff.1 hc;have hov:off<vs.size:=by have:=hT.len;omega
 have hcell:=hT.cell off hoff hov;rw[hcv] at hcell;have hne:id≠id':=fun e=>by subst e;have h0':getH hp id=none:=h0;rw[h0'] at hb;cases hb
 obtain⟨p1,p2,p3⟩:=zbF hput;have hTD:TreeD true w (.sl xs) vs[off] (Ss off):=hcell;generalize hv:vs[off]=v at hTD;let Ss':Nat->List Nat:=fun i=>if i=off then [] else Ss i
 let G':Gh:={ G with loc:=fun i=>bif Nat.beq i id' then Ss off else bif Nat.beq i id then b::(List.range cs'.length).flatMap Ss' else G.loc i }
 have l1:G'.loc id'=Ss off:=by simp[G']
 have l2:G'.loc id=b::(List.range cs'.length).flatMap Ss':=by simp[G',zcp hne]
 have l3:∀i,i≠id'->i≠id->G'.loc i=G.loc i:=fun i h1 h2=>by simp[G',zcp h1,zcp h2]
 have hnd:=hT.nodup;rw[hT.loc] at hnd;have hnd':=List.nodup_cons.1 hnd;have hsubS:∀x,x∈Ss off->x∈G.loc id:=fun x hx=>by
  rw[hT.loc];exact List.mem_cons_of_mem _ (List.mem_flatMap.2 ⟨off,List.mem_range.2 hoff,hx⟩)
 have hsubl:((List.range cs'.length).flatMap Ss').Sublist ((List.range cs.length).flatMap Ss):=by
  rw[p1];refine zda hnd'.2 (fun i hi=>?_);simp only[Ss'];split
  ·exact List.nil_sublist _
  ·exact List.Sublist.refl _
 have hsub2:∀x,x∈G'.loc id->x∈G.loc id:=fun x hx=>by
  rw[l2] at hx;rw[hT.loc];rcases List.mem_cons.1 hx with h|h
  ·simp[h]
  ·exact List.mem_cons_of_mem _ (hsubl.subset h)
 have g1:getH ((id',some (Res.tok xs.length k))::(id,some (.tree cs'))::hp) id'=some (.tok xs.length k):=by rw[zah,if_pos rfl]
 have g2:getH ((id',some (Res.tok xs.length k))::(id,some (.tree cs'))::hp) id=some (.tree cs'):=by rw[zah,if_neg hne,zah,if_pos rfl]
 have hturn:Turn c G ⟨env,hp⟩ w G' ((id',some (.tok xs.length k))::(id,some (.tree cs'))::hp) [id,id']:=by
  refine⟨fun i hi=>?_,fun i hi=>?_,fun _ _=>rfl,fun _ _ h=>h,hr.top,fun i hi=>?_,fun i hi hs x hx=>?_,fun i hi j hj hij _ _ x hx=>?_,fun i hi l hl=>?_⟩
  ·simp only[List.mem_cons,List.not_mem_nil,or_false,not_or] at hi;rw[zah,if_neg hi.2,zah,if_neg hi.1]
  ·simp only[List.mem_cons,List.not_mem_nil,or_false,not_or] at hi;exact l3 i hi.2 hi.1
  ·simp only[List.mem_cons,List.not_mem_nil,or_false] at hi;rcases hi with rfl|rfl
   ·right
    have ht:tokf ((id',some (Res.tok xs.length k))::(i,some (.tree cs'))::hp) i=none:=by unfold tokf;rw[g2]
    refine⟨.inr ⟨ht,by rw[l2,hT.loc];rfl⟩,fun p hp=>by rw[ht] at hp;cases hp⟩
   ·exact .inl hocc
  ·simp only[List.mem_cons,List.not_mem_nil,or_false] at hi;have hs':(getH hp id).isSome:=by rw[hb];rfl
   rcases hi with rfl|rfl
   ·exact⟨i,by simp,hs',hsub2 x hx⟩
   ·rw[l1] at hx;exact⟨id,by simp,hs',hsubS x hx⟩
  ·simp only[List.mem_cons,List.not_mem_nil,or_false] at hi hj;have key:∀x,x∈Ss off->x∉G'.loc id:=by
    intro x hx hx2;rw[l2] at hx2;rcases List.mem_cons.1 hx2 with h|h
    ·exact hnd'.1 (List.mem_flatMap.2 ⟨off,List.mem_range.2 hoff,h ▸ hx⟩)
    ·obtain⟨j,hj,hxj⟩:=List.mem_flatMap.1 h;simp only[Ss'] at hxj;split at hxj
     ·simp at hxj
     ·rename_i hjo;exact zf7 List.nodup_range hnd'.2 off j (List.mem_range.2 hoff) (by rw[p1] at hj;exact hj) (Ne.symm hjo) x hx hxj
   rcases hi with rfl|rfl<;>rcases hj with rfl|rfl
   ·exact absurd rfl hij
   ·rw[l1];exact fun h=>key x h hx
   ·rw[l1] at hx;exact key x hx
   ·exact absurd rfl hij
  ·simp only[List.mem_cons,List.not_mem_nil,or_false] at hi;have hk0:=hr.kept i l hl;rcases hi with rfl|rfl
   ·refine⟨?_,by rw[g2];rfl,by unfold tokf;rw[g2]⟩;rw[l2,<-hk0.1,hT.loc];rfl
   ·have h0':getH hp i=none:=h0;have:=hk0.2.1;rw[show(⟨env,hp⟩:St).hp=hp from rfl,h0'] at this;cases this
 have hgt:RelA G' (tokf ((id',some (.tok xs.length k))::(id,some (.tree cs'))::hp)) w (.gt id' xs) v:=by
  refine .gt (by
   have hTD2:=hTD;generalize Ss off=So at hTD2;cases hTD2 with
   |nil=>exact⟨_,_,rfl⟩
   |emp _ _ _ _ h=>cases h
   |em0 _ _ _ h=>cases h
   |sl _ _ _ _ _ _ _ _ _ _ _ _ _=>exact⟨_,_,rfl⟩) (fun n' k' hm'=>?_)
  have:=zar.1 hm';rw[g1] at this;cases this
  refine⟨Nat.le_refl _,fun _=>⟨hk, ?_⟩⟩;have hndS:=zim hnd'.2 off (List.mem_range.2 hoff);have hF:∀x,x∈Ss off->G.F x=0:=fun x hx=>(hT.mine x (hsubS x hx)).1;unfold TipT;rw[l1];generalize Ss off=So at hTD hndS hF;cases hTD with
  |nil=>exact .inl ⟨rfl,rfl,rfl⟩
  |emp _ _ _ _ h=>cases h
  |em0 _ _ _ h=>cases h
  |sl _ k1 b1 cap cs1 e1 Ss1 hk1 hcap hb1 hc1 hr1 hz1=>
   by_cases hx:xs=[]
   ·subst hx;have hc0:=hz1 rfl rfl;subst hc0;refine .inr ⟨b1,0,cs1,e1,Ss1,by simp,rfl,hb1,by simp,Nat.le_refl _,hndS,hF,fun i hi=>by simp at hi,fun _=>rfl⟩
   ·have hkk:k1=k:=by
     obtain⟨x,hx'⟩:=List.exists_mem_of_ne_nil _ hx;rw[<-hk1 x hx',hk x hx']
    subst hkk;exact .inr ⟨b1,cap,cs1,e1,Ss1,rfl,rfl,hb1,hc1,hcap,hndS,hF,hr1,fun h=>absurd (List.eq_nil_of_length_eq_zero h) hx⟩
 refine hn a w ⟨G',hturn.fin hr (fun i hi r hri=>?_)⟩;simp only[List.mem_cons,List.not_mem_nil,or_false] at hi;rcases hi with rfl|rfl
 ·rw[g2] at hri;cases hri
  refine⟨b,vs,e,Ss',l2,hT.at_,by rw[p1];exact hT.len, ?_,fun x hx=>hT.mine x (hsub2 x hx),fun j hj hjv=>?_⟩
  ·rw[l2];exact List.nodup_cons.2 ⟨fun h=>hnd'.1 (hsubl.subset h),hsubl.nodup hnd'.2⟩
  ·have h3:=p3 j;rw[List.getElem?_eq_getElem hj] at h3;by_cases hjo:j=off
   ·subst hjo;rw[if_pos (by simp)] at h3;simp only[Nat.sub_self,List.getElem?_cons_zero,Option.some.injEq] at h3;rw[h3,hv];exact⟨by simp[Ss'],hgt⟩
   ·rw[if_neg (by simp only[xab,xai];omega)] at h3;have hjc:j<cs.length:=by omega
    rw[List.getElem?_eq_getElem hjc] at h3;rw[Option.some.inj h3];have h4:=hT.cell j hjc hjv;have h5:Ss' j=Ss j:=by simp[Ss',hjo]
    rw[h5];exact h4.map (hturn.cell hr hb (List.getElem_mem hjc)) (fun _ _=>rfl)
 ·rw[g1] at hri;cases hri
  intro x hx;rw[l1] at hx;exact(hT.mine x (hsubS x hx)).2
theorem xan (id off id' k:Nat){n:Nat}{xs:List (List D)}{cs cs':List AV} (hb:getH hp id=some (.tree cs)) (hc:cs[off]?=some (.gt id' xs)) (hb':getH hp id'=some (.tok n k)) (hnl:n=xs.length)
  (hput:putC cs off [.own true (.sl xs)]=some cs')
  (hn:CWp c code ⟨env,(id',none)::(id,some (.tree cs'))::hp⟩ K):CWp c code ⟨env,hp⟩ K:=by
 rintro a w ⟨G,hr⟩
 have hne:id≠id':=fun e=>by subst e;rw[hb] at hb';cases hb'
 obtain⟨b,vs,e,Ss,hT⟩:=hr.heap id _ hb;obtain⟨hoff,hcv⟩:=List.getElem?_eq_some_iff.1 hc;have hov:off<vs.size:=by have:=hT.len;omega
 have hcell:=hT.cell off hoff hov;rw[hcv] at hcell;obtain⟨hS0,hgt⟩:=hcell;obtain⟨_,hcl⟩:=hgt.gt_inv;obtain⟨hkx,htip⟩:=(hcl _ _ (zar.2 hb')).2 hnl;obtain⟨hTr,hnd1,hF1⟩:=ztx hnl hkx htip;have hbd1:=(hr.heap id' _ hb').bound;obtain⟨p1,p2,p3⟩:=zbF hput;let Ss':Nat->List Nat:=fun i=>if i=off then G.loc id' else Ss i
 let G':Gh:={ G with loc:=fun i=>bif Nat.beq i id then b::(List.range cs'.length).flatMap Ss' else G.loc i }
 have l1:G'.loc id=b::(List.range cs'.length).flatMap Ss':=by simp[G']
 have l3:∀i,i≠id->G'.loc i=G.loc i:=fun i h2=>by simp[G',zcp h2]
 have hnd:=hT.nodup;rw[hT.loc] at hnd;have hnd':=List.nodup_cons.1 hnd;have s1:(getH hp id).isSome:=by rw[hb];rfl
 have s2:(getH hp id').isSome:=by rw[hb'];rfl
 have hapart:∀x,x∈G.loc id->x∉G.loc id':=hr.disj id id' s1 s2 hne;have hmem:∀x,x∈G'.loc id->x∈G.loc id\/x∈G.loc id':=fun x hx=>by
  rw[l1] at hx;rcases List.mem_cons.1 hx with h|h
  ·left;rw[hT.loc,h];simp
  ·obtain⟨j,hj,hxj⟩:=List.mem_flatMap.1 h;simp only[Ss'] at hxj;split at hxj
   ·exact .inr hxj
   ·left
    rw[hT.loc];rw[p1] at hj;exact List.mem_cons_of_mem _ (List.mem_flatMap.2 ⟨j,hj,hxj⟩)
 have g1:getH ((id',none)::(id,some (Res.tree cs'))::hp) id'=none:=by rw[zah,if_pos rfl]
 have g2:getH ((id',none)::(id,some (Res.tree cs'))::hp) id=some (.tree cs'):=by rw[zah,if_neg hne,zah,if_pos rfl]
 have t1:tokf ((id',none)::(id,some (Res.tree cs'))::hp) id'=none:=by unfold tokf;rw[g1]
 have t2:tokf ((id',none)::(id,some (Res.tree cs'))::hp) id=none:=by unfold tokf;rw[g2]
 have hturn:Turn c G ⟨env,hp⟩ w G' ((id',none)::(id,some (.tree cs'))::hp) [id,id']:=by
  refine⟨fun i hi=>?_,fun i hi=>?_,fun _ _=>rfl,fun _ _ h=>h,hr.top,fun i hi=>?_,fun i hi hs x hx=>?_,fun i hi j hj hij h1 h2 x hx=>?_,fun i hi l hl=>?_⟩
  ·simp only[List.mem_cons,List.not_mem_nil,or_false,not_or] at hi;rw[zah,if_neg hi.2,zah,if_neg hi.1]
  ·simp only[List.mem_cons,List.not_mem_nil,or_false,not_or] at hi;exact l3 i hi.1
  ·simp only[List.mem_cons,List.not_mem_nil,or_false] at hi;right
   rcases hi with rfl|rfl
   ·exact⟨.inr ⟨t2,by rw[l1,hT.loc];rfl⟩,fun p hp=>by rw[t2] at hp;cases hp⟩
   ·exact⟨.inl (l3 i (Ne.symm hne)),fun p hp=>by rw[t1] at hp;cases hp⟩
  ·simp only[List.mem_cons,List.not_mem_nil,or_false] at hi;rcases hi with rfl|rfl
   ·rcases hmem x hx with h|h
    ·exact⟨i,by simp,s1,h⟩
    ·exact⟨id',by simp,s2,h⟩
   ·rw[g1] at hs;cases hs
  ·simp only[List.mem_cons,List.not_mem_nil,or_false] at hi hj;rcases hi with rfl|rfl
   ·rcases hj with rfl|rfl
    ·exact absurd rfl hij
    ·rw[g1] at h2;cases h2
   ·rw[g1] at h1;cases h1
  ·simp only[List.mem_cons,List.not_mem_nil,or_false] at hi;have hk0:=hr.kept i l hl;rcases hi with rfl|rfl
   ·refine⟨?_,by rw[g2];rfl,t2⟩;rw[l1,<-hk0.1,hT.loc];rfl
   ·have:=hk0.2.2;rw[show(⟨env,hp⟩:St).hp=hp from rfl,zar.2 hb'] at this;cases this
 refine hn a w ⟨G',hturn.fin hr (fun i hi r hri=>?_)⟩;simp only[List.mem_cons,List.not_mem_nil,or_false] at hi;rcases hi with rfl|rfl
 ·rw[g2] at hri;cases hri
  refine⟨b,vs,e,Ss',l1,hT.at_,by rw[p1];exact hT.len, ?_,fun x hx=>?_,fun j hj hjv=>?_⟩
  ·rw[l1,List.nodup_cons];constructor
   ·intro h;obtain⟨j,hj,hxj⟩:=List.mem_flatMap.1 h;rw[p1] at hj;simp only[Ss'] at hxj;split at hxj
    ·exact hapart b (by rw[hT.loc];simp) hxj
    ·exact hnd'.1 (List.mem_flatMap.2 ⟨j,hj,hxj⟩)
   ·rw[p1];refine zeo List.nodup_range hnd'.2 hnd1 (fun x hx j hj _ hxj=>?_);exact hapart x (by rw[hT.loc];exact List.mem_cons_of_mem _ (List.mem_flatMap.2 ⟨j,hj,hxj⟩)) hx
  ·rcases hmem x hx with h|h
   ·exact hT.mine x h
   ·exact⟨hF1 x h,hbd1 x h⟩
  ·have h3:=p3 j;rw[List.getElem?_eq_getElem hj] at h3;by_cases hjo:j=off
   ·subst hjo;rw[if_pos (by simp)] at h3;simp only[Nat.sub_self,List.getElem?_cons_zero,Option.some.injEq] at h3;rw[h3];have h5:Ss' j=G.loc id':=by simp[Ss']
    rw[h5];exact hTr
   ·rw[if_neg (by simp only[xab,xai];omega)] at h3;have hjc:j<cs.length:=by omega
    rw[List.getElem?_eq_getElem hjc] at h3;rw[Option.some.inj h3];have h4:=hT.cell j hjc hjv;have h5:Ss' j=Ss j:=by simp[Ss',hjo]
    rw[h5];exact h4.map (hturn.cell hr hb (List.getElem_mem hjc)) (fun _ _=>rfl)
 ·rw[g1] at hri;cases hri
end
section
variable {c:Ctx}{all:Array Oper}{chk:List Rec->Prop}{os:List Oper}{recs:List Rec}{env:Env}{hp:Hp}{Q:St->Prop}
variable {d ty:Nat}{pos:String}{af:Array Edge}{g:Option (Nat×Bool)}{pg:List (Nat×AV)}
variable {t yt:TypeId}{x y:Operand}
theorem xbi {parts:Array (Nat×Operand)}{n:Nat}{ks:List Nat}{xs:List Operand}{vs zs r:List AV}{e k yb id:Nat} (ht:SlT c.P t e k yb) (hz:TyZ c.P e k zs) (hzk:zs.length=k) (hk:0<k)
  (hparts:parts=(ks.zip xs).toArray) (hlen:ks.length=xs.length) (hsmall:n*k<=16777216) (hpos:0<n) (hg:GH all env g pg) (hd:Nat.blt d c.n=true) (hx:opdL env xs=some vs)
  (hf:zfH (fun i=>some (i*k,k)) (zaF n zs) (ks.zip vs)=some r) (hid:zaS id (AV.idsL r)=false) (h0:getH hp id=none) (ho1:occE id env=false) (ho2:occH id hp=false)
  (hn:Walk c all chk os (zaq (pg++opFL xs vs) [] [id] ⟨some (d,.ms id n),[(id,some (.box r))]⟩::recs) ⟨(d,.ms id n)::env,(id,some (.box r))::hp⟩ Q):
  Walk c all chk (⟨some d,.buildSlice t n parts,ty,pos,af,g⟩::os) recs ⟨env,hp⟩ Q:=by
 subst hparts;refine xa6 hg hd hx h0 ho1 ho2 hid (fun a G T w h=>?_) hn;obtain⟨ie,hi1,hi2,hi3⟩:=ht.inf;obtain⟨i',z,z1,z2,z3,z4⟩:=hz.inf;rw[hi1] at z1;cases z1
 have hz0:=zbQ (G:=G) (T:=T) (w:=w) z4;have hzr:=zeR (by simpa using hz0) n (by omega);obtain⟨lv,hlv,hal⟩:=zeU (ks.zip vs) (ks.zip (xs.map a.eval)) _ r _ hf hzr (by simp[h.1]) (zop h hlen);have hpos':¬n*ie.size=0:=by rw[hi2];exact Nat.ne_of_gt (Nat.mul_pos hpos hk)
 have hrun:=run_buildSlice (P:=c.P) w t e n ((ks.zip xs).toArray.map fun(i,x)=>(i,a.eval x)) lv ie z ht.und hi1 z3 (by rw[hi2];omega) hpos' (by
  rw[hi2,<-hlv];congr 1
  ·rw[hzk]
  ·simp[List.zip_map_right,Prod.map])
 refine⟨_,lv,e, ?_,hal,fun G' T' w' hl hT=> .ms (by rw[hl];rfl) hT (Nat.le_refl _)⟩;simp only[execOp,Sem.run_bind,hrun,Result.andThen_ok,Sem.run_pure]
end
end Go.Proofs.YtlfipehhbdjnjaaGreat
namespace Go.Proofs.YtlfipehhbdjnjaaGreat
open Go
set_option linter.unusedSimpArgs false
set_option linter.unusedVariables false
set_option maxRecDepth 100000
set_option maxHeartbeats 2000000
theorem zdS:∀(n:Nat) (s:Bool){p:Pat},p.size<=n->p.ok->FnD Tryz.prog 190 [.agg [.d (.i p.op),.d (.i p.ctor),.d (.i p.n),.d (.i p.m),.d (.i p.var),.d (zae p.kids)]] []
  (.agg [.d (.i p.op),.d (.i p.ctor),.d (.i p.n),.d (.i p.m),.d (.i p.var),.gt (bif s then 61 else 63) (p.kids.map Pat.cc)]) [(bif s then 61 else 63,some (.tok (p.kids.map Pat.cc).length 6))]
 |0,_,p,h,_=>by rw[Pat.size_eq] at h;omega
 |n+1,true,p,h,hok=>by
  rw[Pat.size_eq] at h;rw[Pat.ok_iff] at hok;have hok1:=hok.1;have hc:∀y∈p.kids,FnD Tryz.prog 190 [.agg [.d (.i y.op),.d (.i y.ctor),.d (.i y.n),.d (.i y.m),.d (.i y.var),.d (zae y.kids)]] []
    (.agg [.d (.i y.op),.d (.i y.ctor),.d (.i y.n),.d (.i y.m),.d (.i y.var),.gt 63 (y.kids.map Pat.cc)]) [(63,some (.tok (y.kids.map Pat.cc).length 6))]:=fun y hy=>zdS n false (p:=y) (by have:=Pats.size_mem hy;omega) (Pats.ok_mem hok.2 y hy)
  show FnD Tryz.prog 190 _ _ (.agg [.d (.i p.op),.d (.i p.ctor),.d (.i p.n),.d (.i p.m),.d (.i p.var),.gt 61 (p.kids.map Pat.cc)]) [(61,some (.tok (p.kids.map Pat.cc).length 6))]
  refine bd Tryz.f190 24 [] [] fun w0 F0 own kept hk=>?_;refine bx 3001 ?_;refine ab 3002 tz36 ?_;refine tv ?_;refine so ty34 ?_;refine tv ?_;refine CWp.tokBT 3001 5 61 6 rfl rfl rfl rfl ?_;refine xam (ι:=List (Pat)×List (Pat)) hk (fun x=>[(11,.d (.i (x.1.length:Int)))]) [5,12,13,14,15,16,17,18,19,20,21,22] (fun x=>[(3001,some (.box [.d (.i p.op),.d (.i p.ctor),.d (.i p.n),.d (.i p.m),.d (.i p.var),.gt 61 (x.1.map Pat.cc)])),(61,some (.tok (x.1.map Pat.cc).length 6))]) (fun x=>x.1++x.2=p.kids) (fun x=>x.2.length) ([],p.kids) (by simp) ⟨⟨_,rfl,xaz ?_⟩,trivial⟩ ⟨?_,⟨zad ?_,trivial⟩⟩ (fun x=>rfl) (fun x hg1=>?_);focus (first|rfl|(simp[xaB];done)|(simp;omega))
  focus (first|rfl|(simp[getH,xaB];done))
  focus (first|rfl|(simp[xaB];done)|(simp;omega))
  obtain⟨pre,rest⟩:=x;dsimp only at hg1 ⊢;refine evc [] [] ?_;refine sq ?_ ?_<;>intro h1 h1p h1s<;>(try simp only[Q,Pat.cs_len] at h1p);rcases rest with _|⟨y,rest⟩
  ·exfalso;simp_all
  refine xaS sl34 .none rfl rfl rfl rfl (Pat.cs_at' hg1) rfl ?_;refine ev ?_;refine ab 3005 tz36 ?_;refine so ty36 ?_;refine tv ?_;refine Walk.call (cr:=[63]) zi4 (hc y (by rw[<-hg1];simp)) rfl .none rfl rfl (LeL.refl _) trivial rfl (by first|rfl|(simp only[zas,List.all_cons,List.all_nil,zaC,zay,AV.idsL,AV.ids,zab,zaa,xae,List.map_nil];rfl)) (by first|rfl|(simp only[zaj,occH,occE,Res.ids,xag,List.nil_append,AV.idsL,AV.ids,zab,zaa,zac,zan,xae,List.map_nil,upC];rfl)) ?_;refine xbi (id:=3019) sl34 tz36 rfl (by decide) (ks:=[0]) (xs:=[_]) rfl rfl (by decide) (by decide) .none rfl rfl rfl rfl rfl rfl rfl ?_;refine xaE hk rfl sl34 zz36 .none rfl rfl rfl rfl (zeu rfl (by first|rfl|(simp;done)|(simp;omega))) rfl (.sc rfl (.sc rfl (.sc rfl (.sc rfl (.sc rfl (.gt rfl (by first|rfl|(simp;done)) .nil)))))) rfl rfl (by have:=congrArg List.length hg1;simp at this;simp;omega) (by have:=congrArg List.length hg1;simp at this;simp;omega) ?_;refine evd [] [] ?_;refine so ty34 ?_;refine dr ?_;refine ar ?_;refine xah ((pre++[y],rest)) ⟨(by have hz:=hg1;rw[<-hz];simp),(by simp),sx ⟨⟨_,rfl,xaz ?_⟩,trivial⟩ ⟨?_,⟨zad ?_,trivial⟩⟩⟩;focus (first|rfl|(simp[xaB];done)|(simp;omega))
  focus (first|rfl|(simp[getH,xaB];done))
  focus (first|rfl|(simp[xaB];done)|(simp;omega))
  have hrest:rest=[]:=by
   rcases rest with _|⟨a,b⟩
   ·rfl
   ·exfalso;have hz:=congrArg List.length (hg1);simp only[xaa,xab,xac] at hz;omega
  subst hrest;refine so ty36 ?_;refine tv ?_;refine rn [(61,some (.tok (p.kids.map Pat.cc).length 6))] (.cons (.cellA ty36 rfl rfl rfl) .nil) (.agg (.cons (.eqd ?_) (.cons (.eqd ?_) (.cons (.eqd ?_) (.cons (.eqd ?_) (.cons (.eqd ?_) (.cons (.gtg ?_) .nil))))))) ⟨rfl,rfl⟩ (SubH.get ⟨?_,trivial⟩) (za6 rfl);rotate_left 7;all_goals (first|((first|rfl|(rw[List.append_nil] at hg1;subst hg1;rfl));done)|(rw[List.append_nil] at hg1;subst hg1;rfl))
 |n+1,false,p,h,hok=>by
  rw[Pat.size_eq] at h;rw[Pat.ok_iff] at hok;have hok1:=hok.1;have hc:∀y∈p.kids,FnD Tryz.prog 190 [.agg [.d (.i y.op),.d (.i y.ctor),.d (.i y.n),.d (.i y.m),.d (.i y.var),.d (zae y.kids)]] []
    (.agg [.d (.i y.op),.d (.i y.ctor),.d (.i y.n),.d (.i y.m),.d (.i y.var),.gt 61 (y.kids.map Pat.cc)]) [(61,some (.tok (y.kids.map Pat.cc).length 6))]:=fun y hy=>zdS n true (p:=y) (by have:=Pats.size_mem hy;omega) (Pats.ok_mem hok.2 y hy)
  show FnD Tryz.prog 190 _ _ (.agg [.d (.i p.op),.d (.i p.ctor),.d (.i p.n),.d (.i p.m),.d (.i p.var),.gt 63 (p.kids.map Pat.cc)]) [(63,some (.tok (p.kids.map Pat.cc).length 6))]
  refine bd Tryz.f190 24 [] [] fun w0 F0 own kept hk=>?_;refine bx 3001 ?_;refine ab 3002 tz36 ?_;refine tv ?_;refine so ty34 ?_;refine tv ?_;refine CWp.tokBT 3001 5 63 6 rfl rfl rfl rfl ?_;refine xam (ι:=List (Pat)×List (Pat)) hk (fun x=>[(11,.d (.i (x.1.length:Int)))]) [5,12,13,14,15,16,17,18,19,20,21,22] (fun x=>[(3001,some (.box [.d (.i p.op),.d (.i p.ctor),.d (.i p.n),.d (.i p.m),.d (.i p.var),.gt 63 (x.1.map Pat.cc)])),(63,some (.tok (x.1.map Pat.cc).length 6))]) (fun x=>x.1++x.2=p.kids) (fun x=>x.2.length) ([],p.kids) (by simp) ⟨⟨_,rfl,xaz ?_⟩,trivial⟩ ⟨?_,⟨zad ?_,trivial⟩⟩ (fun x=>rfl) (fun x hg1=>?_);focus (first|rfl|(simp[xaB];done)|(simp;omega))
  focus (first|rfl|(simp[getH,xaB];done))
  focus (first|rfl|(simp[xaB];done)|(simp;omega))
  obtain⟨pre,rest⟩:=x;dsimp only at hg1 ⊢;refine evc [] [] ?_;refine sq ?_ ?_<;>intro h1 h1p h1s<;>(try simp only[Q,Pat.cs_len] at h1p);rcases rest with _|⟨y,rest⟩
  ·exfalso;simp_all
  refine xaS sl34 .none rfl rfl rfl rfl (Pat.cs_at' hg1) rfl ?_;refine ev ?_;refine ab 3005 tz36 ?_;refine so ty36 ?_;refine tv ?_;refine Walk.call (cr:=[61]) zi4 (hc y (by rw[<-hg1];simp)) rfl .none rfl rfl (LeL.refl _) trivial rfl (by first|rfl|(simp only[zas,List.all_cons,List.all_nil,zaC,zay,AV.idsL,AV.ids,zab,zaa,xae,List.map_nil];rfl)) (by first|rfl|(simp only[zaj,occH,occE,Res.ids,xag,List.nil_append,AV.idsL,AV.ids,zab,zaa,zac,zan,xae,List.map_nil,upC];rfl)) ?_;refine xbi (id:=3019) sl34 tz36 rfl (by decide) (ks:=[0]) (xs:=[_]) rfl rfl (by decide) (by decide) .none rfl rfl rfl rfl rfl rfl rfl ?_;refine xaE hk rfl sl34 zz36 .none rfl rfl rfl rfl (zeu rfl (by first|rfl|(simp;done)|(simp;omega))) rfl (.sc rfl (.sc rfl (.sc rfl (.sc rfl (.sc rfl (.gt rfl (by first|rfl|(simp;done)) .nil)))))) rfl rfl (by have:=congrArg List.length hg1;simp at this;simp;omega) (by have:=congrArg List.length hg1;simp at this;simp;omega) ?_;refine evd [] [] ?_;refine so ty34 ?_;refine dr ?_;refine ar ?_;refine xah ((pre++[y],rest)) ⟨(by have hz:=hg1;rw[<-hz];simp),(by simp),sx ⟨⟨_,rfl,xaz ?_⟩,trivial⟩ ⟨?_,⟨zad ?_,trivial⟩⟩⟩;focus (first|rfl|(simp[xaB];done)|(simp;omega))
  focus (first|rfl|(simp[getH,xaB];done))
  focus (first|rfl|(simp[xaB];done)|(simp;omega))
  have hrest:rest=[]:=by
   rcases rest with _|⟨a,b⟩
   ·rfl
   ·exfalso;have hz:=congrArg List.length (hg1);simp only[xaa,xab,xac] at hz;omega
  subst hrest;refine so ty36 ?_;refine tv ?_;refine rn [(63,some (.tok (p.kids.map Pat.cc).length 6))] (.cons (.cellA ty36 rfl rfl rfl) .nil) (.agg (.cons (.eqd ?_) (.cons (.eqd ?_) (.cons (.eqd ?_) (.cons (.eqd ?_) (.cons (.eqd ?_) (.cons (.gtg ?_) .nil))))))) ⟨rfl,rfl⟩ (SubH.get ⟨?_,trivial⟩) (za6 rfl);rotate_left 7;all_goals (first|((first|rfl|(rw[List.append_nil] at hg1;subst hg1;rfl));done)|(rw[List.append_nil] at hg1;subst hg1;rfl))
theorem zpe (m:Bool) (y:Cl) (rest:List Cl):zag m ((y::rest).map Cl.c) = .d (.i y.pat.op):: .d (.i y.pat.ctor):: .d (.i y.pat.n):: .d (.i y.pat.m):: .d (.i y.pat.var):: .own m (zae y.pat.kids):: .d (.i y.g.op):: .d (.i y.g.var):: .d (.i y.g.n)::zag m (rest.map Cl.c):=rfl
theorem zdU (m:Bool) (l:List Cl) (y:Cl):zag m ((l++[y]).map Cl.c)=zag m (l.map Cl.c)++[.d (.i y.pat.op),.d (.i y.pat.ctor),.d (.i y.pat.n),.d (.i y.pat.m),.d (.i y.pat.var),.own m (zae y.pat.kids),.d (.i y.g.op),.d (.i y.g.var),.d (.i y.g.n)]:=by
 rw[xaf,zhj];rfl
theorem xau {l:List Cl}:∀x,x∈l.map Cl.c->x.length=9:=by
 intro x hx;obtain⟨y,_,rfl⟩:=List.mem_map.1 hx;rfl
theorem zaT (m:Bool) (l:List Cl):(zag m (l.map Cl.c)).length=l.length*9:=by
 rw[zbT (k:=9) xau,xac]
def Cl.szM (c:Cl):Int:=c.pat.szM+3
def Cl.one (k:Int) (c:Cl):Cl:=⟨c.pat.one k,⟨k+1+1+1+1+1+szL Pat.szM c.pat.kids,k+1+1+1+1+1+szL Pat.szM c.pat.kids+1,k+1+1+1+1+1+szL Pat.szM c.pat.kids+1+1⟩⟩
theorem Cl.szM_nn (c:Cl):0<=c.szM:=by have:=Pat.szM_nn c.pat;unfold Cl.szM;omega
theorem Cl.szM_kids (c:Cl):c.szM=5+szL Pat.szM c.pat.kids+3:=by unfold Cl.szM;rw[Pat.szM_kids]
theorem Cl.szM_le (c:Cl):c.szM<=8+5*(mCl c:Int):=by have:=Pat.szM_le c.pat;unfold Cl.szM mCl;omega
theorem Cls.szM_le:∀l:List Cl,szL Cl.szM l<=8*(mCls l:Int)
 | []=>by simp[szL,mCls]
 |c::r=>by
  have h1:=Cl.szM_le c;have h2:=Cls.szM_le r;simp only[szL,mCls,xab,xae,List.sum_cons] at *;omega
theorem zkY {c:Cl} (hok:c.pat.ok):
  FnD Tryz.prog 84 [.agg [.d (.i c.pat.op),.d (.i c.pat.ctor),.d (.i c.pat.n),.d (.i c.pat.m),.d (.i c.pat.var),.d (zae c.pat.kids),.d (.i c.g.op),.d (.i c.g.var),.d (.i c.g.n)]] [] (.agg [.d (.i c.pat.op),.d (.i c.pat.ctor),.d (.i c.pat.n),.d (.i c.pat.m),.d (.i c.pat.var),.ms 66 c.pat.kids.length,.d (.i c.g.op),.d (.i c.g.var),.d (.i c.g.n)]) [(66,some (.tree (zag false (Pat.cs c.pat.kids))))]:=by
 refine bd Tryz.f84 13 [] [] fun w0 F0 own kept hk=>?_;refine bx 3001 ?_;refine ab 3002 tz40 ?_;refine tv ?_;refine ab 3003 tz40 ?_;refine tv ?_;refine Walk.call (cr:=[66]) zoC (zen _ (Nat.le_refl _) hok) rfl .none rfl rfl (LeL.refl _) trivial rfl (by first|rfl|(simp only[zas,List.all_cons,List.all_nil,zaC,zay,AV.idsL,AV.ids,zab,zaa,xae,List.map_nil];rfl)) (by first|rfl|(simp only[zaj,occH,occE,Res.ids,xag,List.nil_append,AV.idsL,AV.ids,zab,zaa,zac,zan,xae,List.map_nil,upC];rfl)) ?_;refine ev ?_;refine so ty36 ?_;refine tv ?_;refine wc zrb (zhc) rfl rfl ?_;refine ev ?_;refine so ty38 ?_;refine tv ?_;refine so ty40 ?_;refine tv ?_;focus (refine rn [(66,some (.tree (zag false (Pat.cs c.pat.kids))))] (.cons (.cellA ty40 rfl rfl rfl) .nil) (.agg (.cons (.eqd ?_) (.cons (.eqd ?_) (.cons (.eqd ?_) (.cons (.eqd ?_) (.cons (.eqd ?_) (.cons (xaA ?_) (.cons (.eqd ?_) (.cons (.eqd ?_) (.cons (.eqd ?_) .nil)))))))))) ⟨rfl,rfl⟩ (SubH.get ⟨rfl,trivial⟩) (za6 rfl);all_goals (first|rfl|(simp[];done)|(simp_all;done)|(simp_all;omega)|omega))
theorem zgf {l:List Cl} (hs:ClsOk l):FnD Tryz.prog 32 [.d (zbc l)] [] (.ms 68 l.length) [(68,some (.tree (zag false (l.map Cl.c))))]:=by
 have h:=hs.1;have hf2:∀c∈l,FnD Tryz.prog 84 [.agg [.d (.i c.pat.op),.d (.i c.pat.ctor),.d (.i c.pat.n),.d (.i c.pat.m),.d (.i c.pat.var),.d (zae c.pat.kids),.d (.i c.g.op),.d (.i c.g.var),.d (.i c.g.n)]] [] (.agg [.d (.i c.pat.op),.d (.i c.pat.ctor),.d (.i c.pat.n),.d (.i c.pat.m),.d (.i c.pat.var),.ms 67 c.pat.kids.length,.d (.i c.g.op),.d (.i c.g.var),.d (.i c.g.n)]) [(67,some (.tree (zag false (Pat.cs c.pat.kids))))]:=fun v hv=>xaw (zaa _ _) rfl (zkY (hs.2 v hv)) 67;refine bd Tryz.f32 23 [] [2,4] fun w0 F0 own kept hk=>?_;refine xa3 (id:=68) sl26 tz40 rfl (by decide) (zbW rfl) .none rfl rfl rfl (by simp;omega) (by simp;omega) rfl rfl rfl ?_;refine ev ?_;refine CWp.boxTree 68 false rfl rfl (zej _ _ _) ?_;refine evc [] [] ?_;refine xam (ι:=List (Cl)×List (Cl)) hk (fun x=>[(4,.d (.i (x.1.length:Int)))]) [8,9,10,11,12,13,14,15,16,17,18,19,20,21] (fun x=>[(68,some (.tree (zag false (x.1.map Cl.c)++zaF x.2.length [.d (.i 0),.d (.i 0),.d (.i 0),.d (.i 0),.d (.i 0),.own false (.sl []),.d (.i 0),.d (.i 0),.d (.i 0)])))]) (fun x=>x.1++x.2=l) (fun x=>x.2.length) ([],l) (by simp) ⟨⟨_,rfl,xaz ?_⟩,trivial⟩ ⟨?_,trivial⟩ (fun x=>rfl) (fun x hg1=>?_);focus (first|rfl|(simp;done)|(simp_all;done)|omega)
 focus (first|rfl|(show some (Res.tree _)=some (Res.tree _);rw[zdU,List.append_assoc];rfl)|(show some (Res.tree _)=some (Res.tree _);simp[zbh];rfl))
 obtain⟨pre,rest⟩:=x;dsimp only at hg1 ⊢;refine evc [] [2,4] ?_;refine sq ?_ ?_<;>intro h1 h1p h1s<;>(try simp only[Q,Pat.cs_len] at h1p);rcases rest with _|⟨y,rest⟩
 ·exfalso;simp_all
 refine xaS sl62 .none rfl rfl rfl rfl (zaR hg1) rfl ?_;refine ev ?_;refine Walk.call (cr:=[67]) zsZ (hf2 y (by rw[<-hg1];simp)) rfl .none rfl rfl (LeL.refl _) trivial rfl (by first|rfl|(simp only[zas,List.all_cons,List.all_nil,zaC,zay,AV.idsL,AV.ids,zab,zaa,xae,List.map_nil];rfl)) (by first|rfl|(simp only[zaj,occH,occE,Res.ids,xag,List.nil_append,AV.idsL,AV.ids,zab,zaa,zac,zan,xae,List.map_nil,upC];rfl)) ?_;refine xaV sl26 .none rfl rfl rfl rfl (by first|omega|(simp[Pat.cs_len];omega)) ?_;refine xbk ty40 .none rfl rfl rfl rfl rfl rfl (by simp) ((zfX (zaT false _) rfl)) ?_;refine tv ?_;refine CWp.merge hk 68 (pre.length*9+5) 67 6 _ rfl (zaW (zaT false _) rfl) (by simp[zap,Pat.cs_len]) rfl Pat.cs_rows rfl rfl (zaE (zaT false _) (zb9 rfl)) ?_;refine evc [] [] ?_;refine ar ?_;refine xah ((pre++[y],rest)) ⟨(by have hz:=hg1;rw[<-hz];simp),(by simp),sx ⟨⟨_,rfl,xaz ?_⟩,trivial⟩ ⟨?_,trivial⟩⟩;focus (first|rfl|(simp;done)|(simp_all;done)|omega)
 focus (first|rfl|(show some (Res.tree _)=some (Res.tree _);rw[zdU,List.append_assoc];rfl)|(show some (Res.tree _)=some (Res.tree _);simp[zbh];rfl))
 have hrest:rest=[]:=by
  rcases rest with _|⟨a,b⟩
  ·rfl
  ·exfalso;have hz:=congrArg List.length (hg1);simp only[xaa,xab,xac] at hz;omega
 subst hrest;refine rn [(68,some (.tree (zag false (l.map Cl.c))))] (r1 rfl) (xaA ?_) ⟨rfl,rfl⟩ (SubH.get ⟨?_,trivial⟩) (za6 rfl);rotate_left 2;all_goals (first|((first|rfl|(simp;done));done)|(first|rfl|(rw[List.append_nil] at hg1;subst hg1;show some (Res.tree _)=some (Res.tree _);simp[zaF];done)))
theorem zlW {m:Bool}{l:List Pat}{k:Int} (h0:0<k) (h1:k+szL Pat.szM l<=1000000000000) (hl:l.length<=1000000000000) (hok:Pats.ok l):FnD Tryz.prog 90 [.ms 47 l.length,.d (.i k)] [(47,some (.tree (zag m (Pat.cs l))))]
  (.d (.i (k+szL Pat.szM l))) [(47,some (.tree (zag false (Pat.cs (mkL Pat.one Pat.szM k l)))))]:=zgQ (zij _ (Nat.le_refl _) h0 h1 hl hok)
theorem zfp {m:Bool}{l:List Cl}{k:Int} (h0:0<k) (h1:k+szL Cl.szM l<=1000000000000) (hok:ClsOk l):FnD Tryz.prog 37 [.ms 48 l.length,.d (.i k)] [(48,some (.tree (zag m (l.map Cl.c))))]
  (.d (.i (k+szL Cl.szM l))) [(48,some (.tree (zag false ((mkL Cl.one Cl.szM k l).map Cl.c))))]:=by
 have hl:=hok.1;have hpk:=fun(c:Cl) (hc:c∈l)=>(Pat.ok_iff c.pat).1 (hok.2 c hc);refine bd Tryz.f37 85 [57] [14,15,1000009] fun w0 F0 own kept hk=>?_;refine xam (ι:=List (Cl)×List (Cl)×(Int)) hk (fun x=>[(5,.d (.i (x.1.length:Int))),(1,.d (.i x.2.2))]) [6,7,8,9,10,11,12,13,14,15,16,17,18,19,20,21,22,23,24,25,26,27,28,29,30,31,32,33,34,35,36,37,38,39,40,41,42,43,44,45,46,47,48,49,50,51,52,53,54,55,56,57,58,59,60,61,62,63,64,65,66,67,68,69,70,71,72,73,74,75,76,77,78,79,80,81,82,83] (fun x=>[(48,some (.tree (zag false ((mkL Cl.one Cl.szM k x.1).map Cl.c)++zag m (x.2.1.map Cl.c))))]) (fun x=>x.1++x.2.1=l/\x.2.2=k+szL Cl.szM x.1) (fun x=>x.2.1.length) ([],l,k) ⟨by simp,by simp[szL]⟩ ⟨⟨_,rfl,xaz ?_⟩,⟨⟨_,rfl,xaz ?_⟩,trivial⟩⟩ ⟨?_,trivial⟩ (fun x=>rfl) (fun x hg1=>?_);iterate 2 focus (first|rfl|(simp;done)|omega|(refine Eq.trans (b:=v+Cl.szM y) ?_ rfl;omega))
 focus (first|rfl|(show some (Res.tree _)=some (Res.tree _);rw[zb6,zdU,<-hg1.2];simp only[Cl.one,Pat.one_kids,Pat.one_sc y.pat v,List.append_assoc,xag,List.nil_append];all_goals rfl))
 obtain⟨pre,rest,v⟩:=x;dsimp only at hg1 ⊢;refine evc [57] [14,15,1000009] ?_;refine cq (fun h1 h1p h1s=>?_) fun h1 h1p h1s=>?_;try simp only[Q] at h1p
 rcases rest with _|⟨y,rest⟩
 ·exfalso;simp_all
 have hsp:=zdY (sz:=Cl.szM) hg1.1;have hnn:=zaQ (l:=rest) Cl.szM_nn;have hnp:=zaQ (l:=pre) Cl.szM_nn;have hys:=Cl.szM_kids y;have hya:=zaQ (l:=y.pat.kids) Pat.szM_nn;have hv:=hg1.2;refine xap 48 (zag false ((mkL Cl.one Cl.szM k pre).map Cl.c)++(.d (.i y.pat.op):: .d (.i y.pat.ctor):: .d (.i y.pat.n):: .d (.i y.pat.m):: .d (.i y.pat.var):: .own m (zae y.pat.kids):: .d (.i y.g.op):: .d (.i y.g.var):: .d (.i y.g.n)::zag m (rest.map Cl.c))) rfl (by rw[zpe]) ?_;refine evc [57] [14,15,1000009] ?_;refine xaV sl26 .none rfl rfl rfl rfl (by first|omega|(simp[Pat.cs_nil,Pat.cs_len,Pat.cs];omega)) ?_;refine evs [57] [] ?_;refine xbk ty3 .none rfl rfl rfl rfl rfl rfl (by simp) ((zaE ((zaT false _).trans (by rw[zap];all_goals rfl)) zhX)) ?_;refine tv ?_;refine ar ?_;refine xaV sl26 .none rfl rfl rfl rfl (by first|omega|(simp[Pat.cs_nil,Pat.cs_len,Pat.cs];omega)) ?_;refine evs [57] [] ?_;refine xbk ty3 .none rfl rfl rfl rfl rfl rfl (by simp) ((zaE ((zaT false _).trans (by rw[zap];all_goals rfl)) zdh)) ?_;refine tv ?_;refine ar ?_;refine xaV sl26 .none rfl rfl rfl rfl (by first|omega|(simp[Pat.cs_nil,Pat.cs_len,Pat.cs];omega)) ?_;refine evs [57] [] ?_;refine xbk ty3 .none rfl rfl rfl rfl rfl rfl (by simp) ((zaE ((zaT false _).trans (by rw[zap];all_goals rfl)) zkb)) ?_;refine tv ?_;refine ar ?_;refine xaV sl26 .none rfl rfl rfl rfl (by first|omega|(simp[Pat.cs_nil,Pat.cs_len,Pat.cs];omega)) ?_;refine evs [57] [] ?_;refine xbk ty3 .none rfl rfl rfl rfl rfl rfl (by simp) ((zaE ((zaT false _).trans (by rw[zap];all_goals rfl)) zp9)) ?_;refine tv ?_;refine ar ?_;refine xaV sl26 .none rfl rfl rfl rfl (by first|omega|(simp[Pat.cs_nil,Pat.cs_len,Pat.cs];omega)) ?_;refine evs [57] [] ?_;refine xbk ty3 .none rfl rfl rfl rfl rfl rfl (by simp) ((zaE ((zaT false _).trans (by rw[zap];all_goals rfl)) zqa)) ?_;refine tv ?_;refine ar ?_;by_cases hs2:y.pat.kids=[]
 refine xak 48 (pre.length*9+5) rfl (zaW ((zaT false _).trans (by rw[zap];all_goals rfl)) rfl) (by simp[hs2,Pat.cs_nil,Pat.cs_len,Pat.cs]) (zaE ((zaT false _).trans (by rw[zap];all_goals rfl)) zeP) ?_;refine evc [57] [] ?_;refine xaV sl26 .none rfl rfl rfl rfl (by first|omega|(simp[Pat.cs_nil,Pat.cs_len,Pat.cs];omega)) ?_;refine evs [57] [] ?_;refine xa1 ty34 .none rfl rfl rfl ((by rw[zaW ((zaT false _).trans (by rw[zap];all_goals rfl)) rfl];rfl)) ?_;refine evs [57] [] ?_;refine Walk.call (cr:=[]) zoh (zeJ hs2) rfl .none rfl rfl (LeL.refl _) trivial rfl (by first|rfl|(simp only[zas,List.all_cons,List.all_nil,zaC,zay,AV.idsL,AV.ids,zab,zaa,xae,List.map_nil];rfl)) (by first|rfl|(simp only[zaj,occH,occE,Res.ids,xag,List.nil_append,AV.idsL,AV.ids,zab,zaa,zac,zan,xae,List.map_nil,upC];rfl)) ?_;refine evs [57] [] ?_;refine xal 48 (pre.length*9+5) false rfl (xs:=Pat.cs (mkL Pat.one Pat.szM (v+1+1+1+1+1) y.pat.kids)) rfl (zaW ((zaT false _).trans (by rw[zap];all_goals rfl)) rfl) (by simp[hs2,mkL,Pat.cs]) (zaE ((zaT false _).trans (by rw[zap];all_goals rfl)) zeP) ?_;refine evc [57] [] ?_;refine xaV sl26 .none rfl rfl rfl rfl (by first|omega|(simp[Pat.cs_nil,Pat.cs_len,Pat.cs];omega)) ?_;refine evs [57] [] ?_;refine xbk ty3 .none rfl rfl rfl rfl rfl rfl (by simp) ((zaE (o:=pre.length*9) (j:=6) ((zaT false _).trans (by rw[zap])) zqb)) ?_;refine tv ?_;refine ar ?_;refine xaV sl26 .none rfl rfl rfl rfl (by first|omega|(simp[Pat.cs_nil,Pat.cs_len,Pat.cs];omega)) ?_;refine evs [57] [] ?_;refine xbk ty3 .none rfl rfl rfl rfl rfl rfl (by simp) ((zaE (o:=pre.length*9) (j:=7) ((zaT false _).trans (by rw[zap])) zqc)) ?_;refine tv ?_;refine ar ?_;refine xaV sl26 .none rfl rfl rfl rfl (by first|omega|(simp[Pat.cs_nil,Pat.cs_len,Pat.cs];omega)) ?_;refine evs [57] [] ?_;refine xbk ty3 .none rfl rfl rfl rfl rfl rfl (by simp) ((zaE (o:=pre.length*9) (j:=8) ((zaT false _).trans (by rw[zap])) zqd)) ?_;refine tv ?_;refine ar ?_;refine ar ?_;refine xah ((pre++[y],rest,v+Cl.szM y)) ⟨⟨(by have hz:=hg1.1;rw[<-hz];simp),(by show v+Cl.szM y=_;rw[zcO,hg1.2];omega)⟩,(by simp),sx ⟨⟨_,rfl,xaz ?_⟩,⟨⟨_,rfl,xaz ?_⟩,trivial⟩⟩ ⟨?_,trivial⟩⟩;iterate 2 focus (first|rfl|(simp;done)|omega|(refine Eq.trans (b:=v+Cl.szM y) ?_ rfl;omega))
 focus (first|rfl|(show some (Res.tree _)=some (Res.tree _);rw[zb6,zdU,<-hg1.2];simp only[Cl.one,Pat.one_kids,Pat.one_sc y.pat v,List.append_assoc,xag,List.nil_append];all_goals rfl))
 refine CWp.split 48 (pre.length*9+5) 47 rfl (zaW ((zaT false _).trans (by rw[zap];all_goals rfl)) rfl) (by simp[hs2,Pat.cs_nil,Pat.cs_len,Pat.cs]) (by first|rfl|(simp only[zaj,occH,occE,Res.ids,xag,List.nil_append,AV.idsL,AV.ids,zab,zaa,zac,zan,xae,List.map_nil,upC];rfl)) (zaE ((zaT false _).trans (by rw[zap];all_goals rfl)) zeP) ?_;refine evc [57] [] ?_;refine xaV sl26 .none rfl rfl rfl rfl (by first|omega|(simp[Pat.cs_nil,Pat.cs_len,Pat.cs];omega)) ?_;refine evs [57] [] ?_;refine xa1 ty34 .none rfl rfl rfl ((by rw[zaW ((zaT false _).trans (by rw[zap];all_goals rfl)) rfl];rfl)) ?_;refine evs [57] [] ?_;refine Walk.call (cr:=[]) zoh (zlW (l:=y.pat.kids) (k:=v+1+1+1+1+1) (by omega) (by omega) (hpk y (by rw[<-hg1.1];simp)).1 (hpk y (by rw[<-hg1.1];simp)).2) rfl .none rfl rfl (.cons (xaA (by first|rfl|(simp[Pat.cs_nil,Pat.cs_len,Pat.cs];done))) (.cons (.refl _) .nil)) ⟨by first|rfl|(simp;rfl),trivial⟩ rfl (by first|rfl|(simp only[zas,List.all_cons,List.all_nil,zaC,zay,AV.idsL,AV.ids,zab,zaa,xae,List.map_nil];rfl)) (by first|rfl|(simp only[zaj,occH,occE,Res.ids,xag,List.nil_append,AV.idsL,AV.ids,zab,zaa,zac,zan,xae,List.map_nil,upC];rfl)) ?_;refine evs [57] [] ?_;refine CWp.merge hk 48 (pre.length*9+5) 47 6 _ rfl (zaW ((zaT false _).trans (by rw[zap];all_goals rfl)) rfl) (by simp[zap,Pat.cs_nil,Pat.cs_len,Pat.cs]) rfl Pat.cs_rows rfl rfl (zaE ((zaT false _).trans (by rw[zap];all_goals rfl)) zeP) ?_;refine evc [57] [] ?_;refine xaV sl26 .none rfl rfl rfl rfl (by first|omega|(simp[Pat.cs_nil,Pat.cs_len,Pat.cs];omega)) ?_;refine evs [57] [] ?_;refine xbk ty3 .none rfl rfl rfl rfl rfl rfl (by simp) ((zaE (o:=pre.length*9) (j:=6) ((zaT false _).trans (by rw[zap])) zqb)) ?_;refine tv ?_;refine ar ?_;refine xaV sl26 .none rfl rfl rfl rfl (by first|omega|(simp[Pat.cs_nil,Pat.cs_len,Pat.cs];omega)) ?_;refine evs [57] [] ?_;refine xbk ty3 .none rfl rfl rfl rfl rfl rfl (by simp) ((zaE (o:=pre.length*9) (j:=7) ((zaT false _).trans (by rw[zap])) zqc)) ?_;refine tv ?_;refine ar ?_;refine xaV sl26 .none rfl rfl rfl rfl (by first|omega|(simp[Pat.cs_nil,Pat.cs_len,Pat.cs];omega)) ?_;refine evs [57] [] ?_;refine xbk ty3 .none rfl rfl rfl rfl rfl rfl (by simp) ((zaE (o:=pre.length*9) (j:=8) ((zaT false _).trans (by rw[zap])) zqd)) ?_;refine tv ?_;refine ar ?_;refine ar ?_;refine xah ((pre++[y],rest,v+Cl.szM y)) ⟨⟨(by have hz:=hg1.1;rw[<-hz];simp),(by show v+Cl.szM y=_;rw[zcO,hg1.2];omega)⟩,(by simp),sx ⟨⟨_,rfl,xaz ?_⟩,⟨⟨_,rfl,xaz ?_⟩,trivial⟩⟩ ⟨?_,trivial⟩⟩;iterate 2 focus (first|rfl|(simp;done)|omega|(refine Eq.trans (b:=v+Cl.szM y) ?_ rfl;omega))
 focus (first|rfl|(show some (Res.tree _)=some (Res.tree _);rw[zb6,zdU,<-hg1.2];simp only[Cl.one,Pat.one_kids,Pat.one_sc y.pat v,List.append_assoc,xag,List.nil_append];all_goals rfl))
 try simp only[Q] at h1p
 have hrest:rest=[]:=by
  rcases rest with _|⟨a,b⟩
  ·rfl
  ·exfalso;have hz:=congrArg List.length (hg1.1);simp only[xaa,xab,xac] at hz;omega
 subst hrest;refine evc [57] [14,15,1000009] ?_;refine rn [(48,some (.tree (zag false ((mkL Cl.one Cl.szM k l).map Cl.c))))] (r1 rfl) (.eqd ?_) ⟨rfl,rfl⟩ (SubO.get ⟨.inr ?_,⟨.inl rfl,trivial⟩⟩) (za6 rfl);rotate_left 2;all_goals (first|((first|rfl|(obtain⟨hg1,hv⟩:=hg1;rw[List.append_nil] at hg1;subst hg1;rw[hv]));done)|(first|rfl|(obtain⟨hg1,_⟩:=hg1;rw[List.append_nil] at hg1;subst hg1;show some (Res.tree _)=some (Res.tree _);simp[zbh];done)))
theorem zhT {pre rest l:List Pat}{y:Pat}{k:Int} (h:pre++y::rest=l):(Pat.cs (mkL Pat.one Pat.szM k l))[pre.length]?=some (Pat.cc (Pat.one (k+szL Pat.szM pre) y)):=by
 rw[xaB];exact zrP h
theorem ze3:∀(n:Nat){l:List Pat}{k:Int},Pats.size l<n->0<k->k+szL Pat.szM l<=1000000000000->l.length<=1000000000000->Pats.ok l->
  FnD Tryz.prog 103 [.d (zae (mkL Pat.one Pat.szM k l)),.d (.i k)] [] (.d (.i (k+szL Pat.szM l))) []
 |0,l,k,h,_,_,_,_=>absurd h (Nat.not_lt_zero _)
 |n+1,l,k,h,h0,h1,hl,hok=>by
  have hcall:∀(y:Pat) (v:Int) (q:Int),y∈l->v=q->0<v->v+5+szL Pat.szM y.kids<=1000000000000->FnD Tryz.prog 103 [.d (zae (Pat.one q y).kids),.d (.i (v+1+1+1+1+1))] [] (.d (.i (v+1+1+1+1+1+szL Pat.szM y.kids))) []:=fun y v q hy e h2 h3=>by
   subst e;rw[Pat.one_kids];have ho:=(Pat.ok_iff y).1 (Pats.ok_mem hok y hy);exact ze3 n (by have hm:=Pats.size_mem hy;rw[Pat.size_eq] at hm;omega) (by omega) (by omega) ho.1 ho.2
  refine bd Tryz.f103 67 [] [] fun w0 F0 own kept hk=>?_;refine xam (ι:=List (Pat)×List (Pat)×(Int)) hk (fun x=>[(5,.d (.i (x.1.length:Int))),(1,.d (.i x.2.2))]) [4,6,7,8,9,10,11,12,13,14,15,16,17,18,19,20,21,22,23,24,25,26,27,28,29,30,31,32,33,34,35,36,37,38,39,40,41,42,43,44,45,46,47,48,49,50,51,52,53,54,55,56,57,58,59,60,61,62,63,64,65] (fun x=>[]) (fun x=>x.1++x.2.1=l/\x.2.2=k+szL Pat.szM x.1) (fun x=>x.2.1.length) ([],l,k) ⟨by simp,by simp[szL]⟩ ⟨⟨_,rfl,xaz ?_⟩,⟨⟨_,rfl,xaz ?_⟩,trivial⟩⟩ trivial (fun x=>rfl) (fun x hg1=>?_);iterate 2 focus (first|rfl|(simp;done)|omega|(refine Eq.trans (b:=v+Pat.szM y) ?_ rfl;omega))
  obtain⟨pre,rest,v⟩:=x;dsimp only at hg1 ⊢;refine evc [] [] ?_;refine sq ?_ ?_<;>intro h1 h1p h1s<;>(try simp only[Q,zap,Pat.cs_len] at h1p);rcases rest with _|⟨y,rest⟩
  ·exfalso;simp_all
  have hsp:=zdY (sz:=Pat.szM) hg1.1;have hnn:=zaQ (l:=rest) Pat.szM_nn;have hnp:=zaQ (l:=pre) Pat.szM_nn;have hys:=Pat.szM_kids y;have hya:=zaQ (l:=y.kids) Pat.szM_nn;have hv:=hg1.2;refine xaS sl34 .none rfl rfl rfl rfl (zhT hg1.1) rfl ?_;refine ev ?_;refine sq ?_ ?_<;>intro h2 h2p h2s<;>(try simp only[Q,zap,Pat.cs_len] at h2p);exfalso;revert h2;simp[Pat.one_sc,hv];refine ar ?_;refine xaS sl34 .none rfl rfl rfl rfl (zhT hg1.1) rfl ?_;refine ev ?_;refine sq ?_ ?_<;>intro h3 h3p h3s<;>(try simp only[Q,zap,Pat.cs_len] at h3p);exfalso;revert h3;simp[Pat.one_sc,hv];refine ar ?_;refine xaS sl34 .none rfl rfl rfl rfl (zhT hg1.1) rfl ?_;refine ev ?_;refine sq ?_ ?_<;>intro h4 h4p h4s<;>(try simp only[Q,zap,Pat.cs_len] at h4p);exfalso;revert h4;simp[Pat.one_sc,hv];refine ar ?_;refine xaS sl34 .none rfl rfl rfl rfl (zhT hg1.1) rfl ?_;refine ev ?_;refine sq ?_ ?_<;>intro h5 h5p h5s<;>(try simp only[Q,zap,Pat.cs_len] at h5p);exfalso;revert h5;simp[Pat.one_sc,hv];refine ar ?_;refine xaS sl34 .none rfl rfl rfl rfl (zhT hg1.1) rfl ?_;refine ev ?_;refine sq ?_ ?_<;>intro h6 h6p h6s<;>(try simp only[Q,zap,Pat.cs_len] at h6p);exfalso;revert h6;simp[Pat.one_sc,hv];refine ar ?_;refine xaS sl34 .none rfl rfl rfl rfl (zhT hg1.1) rfl ?_;refine ev ?_;refine wc zq0 (hcall y v _ (by rw[<-hg1.1];simp) hv (by omega) (by omega)) rfl rfl ?_;refine ev ?_;refine sq ?_ ?_<;>intro h7 h7p h7s<;>(try simp only[Q,zap,Pat.cs_len] at h7p);exfalso;omega;refine ar ?_;refine xah ((pre++[y],rest,v+Pat.szM y)) ⟨⟨(by have hz:=hg1.1;rw[<-hz];simp),(by show v+Pat.szM y=_;rw[zcO,hg1.2];omega)⟩,(by simp),sx ⟨⟨_,rfl,xaz ?_⟩,⟨⟨_,rfl,xaz ?_⟩,trivial⟩⟩ trivial⟩;iterate 2 focus (first|rfl|(simp;done)|omega|(refine Eq.trans (b:=v+Pat.szM y) ?_ rfl;omega))
  have hrest:rest=[]:=by
   rcases rest with _|⟨a,b⟩
   ·rfl
   ·exfalso;have hz:=congrArg List.length (hg1.1);simp only[xaa,xab,xac] at hz;omega
  subst hrest;refine rq ?_;rotate_left;all_goals (first|rfl|(obtain⟨hg1,hv⟩:=hg1;rw[List.append_nil] at hg1;subst hg1;rw[hv]))
theorem ze8 {pre rest l:List Cl}{y:Cl}{k:Int} (h:pre++y::rest=l):((mkL Cl.one Cl.szM k l).map Cl.c)[pre.length]?=some (Cl.c (Cl.one (k+szL Cl.szM pre) y)):=zrP h
theorem zcR {l:List Cl}{k:Int} (h0:0<k) (h1:k+szL Cl.szM l<=1000000000000) (hok:ClsOk l):
  FnD Tryz.prog 45 [.d (zbc (mkL Cl.one Cl.szM k l)),.d (.i k)] [] (.d (.i (k+szL Cl.szM l))) []:=by
 have hl:=hok.1;have hcall:∀(y:Cl) (v:Int) (q:Int),y∈l->v=q->0<v->v+5+szL Pat.szM y.pat.kids<=1000000000000->FnD Tryz.prog 103 [.d (zae (Cl.one q y).pat.kids),.d (.i (v+1+1+1+1+1))] [] (.d (.i (v+1+1+1+1+1+szL Pat.szM y.pat.kids))) []:=fun y v q hy e h2 h3=>by
  subst e;show FnD Tryz.prog 103 [.d (zae (Pat.one v y.pat).kids),_] [] _ []
  rw[Pat.one_kids];have ho:=(Pat.ok_iff y.pat).1 (hok.2 y hy);exact ze3 _ (Nat.lt_succ_self _) (by omega) (by omega) ho.1 ho.2
 refine bd Tryz.f45 103 [] [] fun w0 F0 own kept hk=>?_;refine xam (ι:=List (Cl)×List (Cl)×(Int)) hk (fun x=>[(5,.d (.i (x.1.length:Int))),(1,.d (.i x.2.2))]) [4,6,7,8,9,10,11,12,13,14,15,16,17,18,19,20,21,22,23,24,25,26,27,28,29,30,31,32,33,34,35,36,37,38,39,40,41,42,43,44,45,46,47,48,49,50,51,52,53,54,55,56,57,58,59,60,61,62,63,64,65,66,67,68,69,70,71,72,73,74,75,76,77,78,79,80,81,82,83,84,85,86,87,88,89,90,91,92,93,94,95,96,97,98,99,100,101] (fun x=>[]) (fun x=>x.1++x.2.1=l/\x.2.2=k+szL Cl.szM x.1) (fun x=>x.2.1.length) ([],l,k) ⟨by simp,by simp[szL]⟩ ⟨⟨_,rfl,xaz ?_⟩,⟨⟨_,rfl,xaz ?_⟩,trivial⟩⟩ trivial (fun x=>rfl) (fun x hg1=>?_);iterate 2 focus (first|rfl|(simp;done)|omega|(refine Eq.trans (b:=v+Cl.szM y) ?_ rfl;omega))
 obtain⟨pre,rest,v⟩:=x;dsimp only at hg1 ⊢;refine evc [] [] ?_;refine sq ?_ ?_<;>intro h1 h1p h1s<;>(try simp only[Q,zap] at h1p);rcases rest with _|⟨y,rest⟩
 ·exfalso;simp_all
 have hsp:=zdY (sz:=Cl.szM) hg1.1;have hnn:=zaQ (l:=rest) Cl.szM_nn;have hnp:=zaQ (l:=pre) Cl.szM_nn;have hys:=Cl.szM_kids y;have hya:=zaQ (l:=y.pat.kids) Pat.szM_nn;have hv:=hg1.2;refine xaS sl26 .none rfl rfl rfl rfl (ze8 hg1.1) rfl ?_;refine ev ?_;refine sq ?_ ?_<;>intro h2 h2p h2s<;>(try simp only[Q,zap] at h2p);exfalso;revert h2;simp[Cl.one,Pat.one_sc,hv];refine ar ?_;refine xaS sl26 .none rfl rfl rfl rfl (ze8 hg1.1) rfl ?_;refine ev ?_;refine sq ?_ ?_<;>intro h3 h3p h3s<;>(try simp only[Q,zap] at h3p);exfalso;revert h3;simp[Cl.one,Pat.one_sc,hv];refine ar ?_;refine xaS sl26 .none rfl rfl rfl rfl (ze8 hg1.1) rfl ?_;refine ev ?_;refine sq ?_ ?_<;>intro h4 h4p h4s<;>(try simp only[Q,zap] at h4p);exfalso;revert h4;simp[Cl.one,Pat.one_sc,hv];refine ar ?_;refine xaS sl26 .none rfl rfl rfl rfl (ze8 hg1.1) rfl ?_;refine ev ?_;refine sq ?_ ?_<;>intro h5 h5p h5s<;>(try simp only[Q,zap] at h5p);exfalso;revert h5;simp[Cl.one,Pat.one_sc,hv];refine ar ?_;refine xaS sl26 .none rfl rfl rfl rfl (ze8 hg1.1) rfl ?_;refine ev ?_;refine sq ?_ ?_<;>intro h6 h6p h6s<;>(try simp only[Q,zap] at h6p);exfalso;revert h6;simp[Cl.one,Pat.one_sc,hv];refine ar ?_;refine xaS sl26 .none rfl rfl rfl rfl (ze8 hg1.1) rfl ?_;refine ev ?_;refine wc zq0 (hcall y v _ (by rw[<-hg1.1];simp) hv (by omega) (by omega)) rfl rfl ?_;refine ev ?_;refine sq ?_ ?_<;>intro h7 h7p h7s<;>(try simp only[Q,zap] at h7p);exfalso;omega;refine xaS sl26 .none rfl rfl rfl rfl (ze8 hg1.1) rfl ?_;refine ev ?_;refine sq ?_ ?_<;>intro h8 h8p h8s<;>(try simp only[Q,zap] at h8p);exfalso;revert h8;simp[Cl.one,hv];refine ar ?_;refine xaS sl26 .none rfl rfl rfl rfl (ze8 hg1.1) rfl ?_;refine ev ?_;refine sq ?_ ?_<;>intro h9 h9p h9s<;>(try simp only[Q,zap] at h9p);exfalso;revert h9;simp[Cl.one,hv];refine ar ?_;refine xaS sl26 .none rfl rfl rfl rfl (ze8 hg1.1) rfl ?_;refine ev ?_;refine sq ?_ ?_<;>intro h10 h10p h10s<;>(try simp only[Q,zap] at h10p);exfalso;revert h10;simp[Cl.one,hv];refine ar ?_;refine ar ?_;refine xah ((pre++[y],rest,v+Cl.szM y)) ⟨⟨(by have hz:=hg1.1;rw[<-hz];simp),(by show v+Cl.szM y=_;rw[zcO,hg1.2];omega)⟩,(by simp),sx ⟨⟨_,rfl,xaz ?_⟩,⟨⟨_,rfl,xaz ?_⟩,trivial⟩⟩ trivial⟩;iterate 2 focus (first|rfl|(simp;done)|omega|(refine Eq.trans (b:=v+Cl.szM y) ?_ rfl;omega))
 have hrest:rest=[]:=by
  rcases rest with _|⟨a,b⟩
  ·rfl
  ·exfalso;have hz:=congrArg List.length (hg1.1);simp only[xaa,xab,xac] at hz;omega
 subst hrest;refine rq ?_;rotate_left;all_goals (first|rfl|(obtain⟨hg1,hv⟩:=hg1;rw[List.append_nil] at hg1;subst hg1;rw[hv]))
theorem zsk (l:List Cl):∀x∈l.map Cl.c,x.length=9:=by
 intro x hx;obtain⟨y,_,rfl⟩:=List.mem_map.1 hx;rfl
theorem zjj {l:List Cl} (hl:ClsOk l):FnD Tryz.prog 102 [.d (zbc l)] [] (.gt 65 (l.map Cl.c)) [(65,some (.tok (l.map Cl.c).length 9))]:=by
 have hll:=hl.1;have hc:∀y∈l,FnD Tryz.prog 190 [.agg [.d (.i y.pat.op),.d (.i y.pat.ctor),.d (.i y.pat.n),.d (.i y.pat.m),.d (.i y.pat.var),.d (zae y.pat.kids)]] []
    (.agg [.d (.i y.pat.op),.d (.i y.pat.ctor),.d (.i y.pat.n),.d (.i y.pat.m),.d (.i y.pat.var),.gt 61 (y.pat.kids.map Pat.cc)]) [(61,some (.tok (y.pat.kids.map Pat.cc).length 6))]:=fun y hy=>zdS _ true (p:=y.pat) (Nat.le_refl _) (hl.2 y hy)
 refine bd Tryz.f102 23 [] [2] fun w0 F0 own kept hk=>?_;refine CWp.tokT 3 65 9 rfl rfl ?_;refine evc [] [] ?_;refine xam (ι:=List (Cl)×List (Cl)) hk (fun x=>[(8,.d (.i (x.1.length:Int))),(3,.gt 65 (x.1.map Cl.c))]) [5,9,10,11,12,13,14,15,16,17,18,19,20,21] (fun x=>[(65,some (.tok ((x.1.map Cl.c)).length 9))]) (fun x=>x.1++x.2=l) (fun x=>x.2.length) ([],l) (by simp) ⟨⟨_,rfl,xaz ?_⟩,⟨⟨_,rfl,LeA.gtg ?_⟩,trivial⟩⟩ ⟨zad ?_,trivial⟩ (fun x=>rfl) (fun x hg1=>?_);iterate 3 focus (first|rfl|(simp[xaB];done)|(simp;omega))
 obtain⟨pre,rest⟩:=x;dsimp only at hg1 ⊢;refine evc [] [2] ?_;refine sq ?_ ?_<;>intro h1 h1p h1s<;>(try simp only[Q] at h1p);rcases rest with _|⟨y,rest⟩
 ·exfalso;simp_all
 refine xaS sl26 .none rfl rfl rfl rfl (zaR hg1) rfl ?_;refine ev ?_;refine ab 3005 tz40 ?_;refine so ty40 ?_;refine tv ?_;refine Walk.call (cr:=[61]) zi4 (hc y (by rw[<-hg1];simp)) rfl .none rfl rfl (LeL.refl _) trivial rfl (by first|rfl|(simp only[zas,List.all_cons,List.all_nil,zaC,zay,AV.idsL,AV.ids,zab,zaa,xae,List.map_nil];rfl)) (by first|rfl|(simp only[zaj,occH,occE,Res.ids,xag,List.nil_append,AV.idsL,AV.ids,zab,zaa,zac,zan,xae,List.map_nil,upC];rfl)) ?_;refine evd [] [] ?_;refine bu [0,1] [_,_] st40 ?_;refine xbi (id:=3019) sl26 tz40 rfl (by decide) (ks:=[0]) (xs:=[_]) rfl rfl (by decide) (by decide) .none rfl rfl rfl rfl rfl rfl rfl ?_;refine xaE hk rfl sl26 zz40 .none rfl rfl rfl rfl (zeu rfl (by first|rfl|(simp;done)|(simp;omega))) rfl (.sc rfl (.sc rfl (.sc rfl (.sc rfl (.sc rfl (.gt rfl (by first|rfl|(simp;done)) (.sc rfl (.sc rfl (.sc rfl .nil))))))))) rfl rfl (by have:=congrArg List.length hg1;simp at this;simp;omega) (by have:=congrArg List.length hg1;simp at this;simp;omega) ?_;refine evd [] [] ?_;refine dr ?_;refine ar ?_;refine xah ((pre++[y],rest)) ⟨(by have hz:=hg1;rw[<-hz];simp),(by simp),sx ⟨⟨_,rfl,xaz ?_⟩,⟨⟨_,rfl,LeA.gtg ?_⟩,trivial⟩⟩ ⟨zad ?_,trivial⟩⟩;iterate 3 focus (first|rfl|(simp[xaB];done)|(simp;omega))
 have hrest:rest=[]:=by
  rcases rest with _|⟨a,b⟩
  ·rfl
  ·exfalso;have hz:=congrArg List.length (hg1);simp only[xaa,xab,xac] at hz;omega
 subst hrest;refine rn [(65,some (.tok (l.map Cl.c).length 9))] (r1 rfl) (.gtg ?_) ⟨rfl,rfl⟩ (SubH.get ⟨?_,trivial⟩) (za6 rfl);rotate_left 2;all_goals (first|((first|rfl|(rw[List.append_nil] at hg1;subst hg1;rfl));done)|(first|rfl|(rw[List.append_nil] at hg1;subst hg1;rfl)))
def swOk (w:List Data) (a k:Int) (l:List Cl) (i:Int):Prop:=zbt w ⟨a,k⟩ l=true/\0<=i/\i<(l.length:Int)-1/\cmV w a k (nth l i.toNat) (nth l (i.toNat+1))=some []
theorem zsI {l:List Cl}{i:Nat} (h:i+1<l.length):∃pre post,pre.length=i/\l=pre++nth l i::nth l (i+1)::post:=by
 refine⟨l.take i,l.drop (i+2),by rw[List.length_take];omega, ?_⟩;rw[<-za2 h,<-za2 (by omega),List.take_append_drop]
section
variable {A c1 c2 R:List AV}{n:Nat}
theorem zqj (ha:A.length=n*9) (h1:c1.length=9):cutC (A++(c1++R)) (n*9) 9=some c1:=zjc ha (zjd h1)
theorem zqk (ha:A.length=n*9) (h1:c1.length=9) (h2:c2.length=9):cutC (A++(c1++(c2++R))) ((n+1)*9) 9=some c2:=by
 rw[<-List.append_assoc];exact zjc (by rw[xaa];omega) (zjd h2)
theorem znd {vs:List AV} (ha:A.length=n*9) (h1:c1.length=vs.length):putC (A++(c1++R)) (n*9) vs=some (A++(vs++R)):=zio ha h1
theorem zne {vs:List AV} (ha:A.length=n*9) (h1:c1.length=9) (h2:c2.length=vs.length):putC (A++(c1++(c2++R))) ((n+1)*9) vs=some (A++(c1++(vs++R))):=by
 have h:=zio (a:=A++c1) (z:=c2) (t:=R) (vs:=vs) (o:=(n+1)*9) (by rw[xaa];omega) h2;rw[List.append_assoc,List.append_assoc] at h;exact h
end
def swC (f:D->AV) (pre:List Cl) (c1 c2:List AV) (post:List Cl):List AV:=(pre.map Cl.c).flatten.map f++(c1++(c2++(post.map Cl.c).flatten.map f))
theorem swA {f:D->AV}{pre:List Cl}:((pre.map Cl.c).flatten.map f).length=pre.length*9:=by
 induction pre with
 |nil=>rfl
 |cons x r ih=>
  have h9:((Cl.c x).map f).length=9:=rfl;rw[xae,List.flatten_cons,xaf,xaa,h9,ih,xab];omega
theorem zmu {f:D->AV}{pre post:List Cl}{x y:Cl}:((pre++x::y::post).map Cl.c).flatten.map f=swC f pre ((Cl.c x).map f) ((Cl.c y).map f) post:=by
 unfold swC;simp only[xaf,xae,List.flatten_append,List.flatten_cons]
theorem zc3 {pre post:List Cl}{c1 c2:List AV}:AV.idsL (swC (ownD true) pre c1 c2 post)=AV.idsL c1++AV.idsL c2:=by
 unfold swC;rw[zab,zab,zab,<-zag,<-zag,zaa,zaa,List.append_nil,List.nil_append]
abbrev zbB (x:Cl) (id:Nat):List AV:=[.d (.i x.pat.op),.d (.i x.pat.ctor),.d (.i x.pat.n),.d (.i x.pat.m),.d (.i x.pat.var),.gt id (Pat.cs x.pat.kids),.d (.i x.g.op),.d (.i x.g.var),.d (.i x.g.n)]
theorem zql:∀(l:List Cl),(l.flatMap fun x=>(Cl.c x).map AV.d)=(l.map Cl.c).flatten.map AV.d
 | []=>rfl
 |x::r=>by rw[List.flatMap_cons,zql r];simp
theorem zsH {pre post:List Cl}{x y:Cl}{n:Nat} (h:n=(pre++x::y::post).length):zb5 n 9 (swC AV.d pre ((Cl.c x).map AV.d) ((Cl.c y).map AV.d) post)=some ((pre++x::y::post).map Cl.c):=by
 subst h;rw[<-zmu,<-zql];exact zdA (fun x _=>rfl)
theorem zqF:∀l:List D,AV.idsL (l.map AV.d)=[]
 | []=>rfl
 |x::r=>by show AV.ids (.d x)++AV.idsL (r.map AV.d)=[];rw[zqF r];rfl
theorem zdi {pre post:List Cl}{c1 c2:List AV}:AV.idsL (swC AV.d pre c1 c2 post)=AV.idsL c1++AV.idsL c2:=by
 unfold swC;rw[zab,zab,zab,zqF,zqF,List.append_nil,List.nil_append]
theorem ziS {w:List Data} (hs:WSmall w){a k i:Int}{l:List Cl} (hl:ClsOk l) (hno:¬swOk w a k l i):
  FnD Tryz.prog 44 [.d (zam w),.agg [.d (.i a),.d (.i k)],.d (zbc l),.d (.i i)] [] (.tup [.d (zbc []),.d (.bool false)]) []:=by
 have hcv:=zeZ hs (a:=a) (k:=k) hl;have hll:=hl.1;by_cases q1:zbt w ⟨a,k⟩ l=true/\0<=i/\i<(l.length:Int)-1
 ·obtain⟨q1,q2,q3⟩:=q1;obtain⟨j,rfl⟩:=Int.eq_ofNat_of_zero_le q2;have hcm:=zfn hs (a:=a) (k:=k) (hl.2 _ (zal (l:=l) (i:=j) (by omega))) (hl.2 _ (zal (l:=l) (i:=j+1) (by omega)));have hne:cmV w a k (nth l j) (nth l (j+1))≠some []:=fun h=>hno ⟨q1,q2,q3,by rw[Int.toNat_natCast];exact h⟩;rw[q1] at hcv;have hb:(decide (0<(((cmV w a k (nth l j) (nth l (j+1))).getD []).length:Int))=false/\(cmV w a k (nth l j) (nth l (j+1))).isSome=true)->False:=fun h=>by
   cases hm:cmV w a k (nth l j) (nth l (j+1)) with
   |none=>rw[hm] at h;exact absurd h.2 (by simp)
   |some z=>cases z with
    |nil=>exact hne hm
    |cons u r=>rw[hm] at h;exact absurd h.1 (by simp)
  generalize decide (0<(((cmV w a k (nth l j) (nth l (j+1))).getD []).length:Int))=m at *;generalize (cmV w a k (nth l j) (nth l (j+1))).isSome=o at *;refine bd Tryz.f44 65 [] [] fun w0 F0 own kept hk=>?_;refine bx 3005 ?_;refine ev ?_;refine wc zqt (hcv) rfl rfl ?_;refine ev ?_;refine sq ?_ ?_<;>intro h1 h1p h1s<;>(try simp only[Q,xac] at h1p);refine sqT ?_;focus (exfalso;first|contradiction|(simp[zaz] at *;done)|(simp[zaz] at *;omega))
  refine ar ?_;refine Walk.call (cr:=[]) zdf (zbf) rfl (.some rfl rfl h1) rfl rfl (LeL.refl _) trivial rfl rfl rfl ?_;refine evs [] [(18,false)] ?_ ⟨⟨_,rfl,h1⟩,trivial⟩;refine sq ?_ ?_<;>intro h3 h3p h3s<;>(try simp only[Q,xac] at h3p);focus (exfalso;first|contradiction|(simp[zaz] at *;done)|(simp[zaz] at *;omega))
  refine xaS (i:=j) sl26 .none rfl rfl rfl rfl (zax (by omega)) rfl ?_;refine evd [] [] ?_;refine ar ?_;refine xaS (i:=(j+1)) sl26 .none rfl rfl rfl (by simp) (zax (by omega)) rfl ?_;refine evd [] [] ?_;refine wc zqZ (hcm) rfl rfl ?_;refine evd [] [] ?_;refine dr ?_;refine sq ?_ ?_<;>intro h4 h4p h4s<;>(try simp only[Q,xac] at h4p);refine sqT ?_;refine rn0 (r2 rfl rfl) (.tup (.cons (.nild ?_) (.cons (.eqd ?_) .nil)));rotate_left 2;refine sq ?_ ?_<;>intro h6 h6p h6s<;>(try simp only[Q,xac] at h6p);refine rn0 (r2 rfl rfl) (.tup (.cons (.nild ?_) (.cons (.eqd ?_) .nil)));rotate_left 2;exfalso;refine hb ⟨?_, ?_⟩<;>simp_all;all_goals (rfl)
 ·have hw:zaz i 0 ((l.length:Int)-2)=true->zbt w ⟨a,k⟩ l=true->False:=fun h q2=>q1 ⟨q2,by unfold zaz at h;rw[xad,decide_eq_true_eq,decide_eq_true_eq] at h;omega⟩;generalize zbt w ⟨a,k⟩ l=cv at *;refine bd Tryz.f44 65 [] [] fun w0 F0 own kept hk=>?_;refine bx 3005 ?_;refine ev ?_;refine wc zqt (hcv) rfl rfl ?_;refine ev ?_;refine sq ?_ ?_<;>intro h1 h1p h1s<;>(try simp only[Q,xac] at h1p);refine sqT ?_;refine rn0 (r2 rfl rfl) (.tup (.cons (.nild ?_) (.cons (.eqd ?_) .nil)));rotate_left 2;refine ar ?_;refine Walk.call (cr:=[]) zdf (zbf) rfl (.some rfl rfl h1) rfl rfl (LeL.refl _) trivial rfl rfl rfl ?_;refine evs [] [(18,false)] ?_ ⟨⟨_,rfl,h1⟩,trivial⟩;refine sq ?_ ?_<;>intro h3 h3p h3s<;>(try simp only[Q,xac] at h3p);refine rn0 (r2 rfl rfl) (.tup (.cons (.nild ?_) (.cons (.eqd ?_) .nil)));rotate_left 2;exfalso;have e:=hw;simp_all;all_goals (rfl)
theorem zie {w:List Data} (hs:WSmall w){a k:Int}{pre post:List Cl}{x y:Cl} (hl:ClsOk (pre++x::y::post)) (hv:zbt w ⟨a,k⟩ (pre++x::y::post)=true) (hc:cmV w a k x y=some []):
  FnD Tryz.prog 44 [.d (zam w),.agg [.d (.i a),.d (.i k)],.d (zbc (pre++x::y::post)),.d (.i (pre.length:Int))] []
   (.tup [.ms 65 ((pre++y::x::post).map Cl.c).length,.d (.bool true)]) [(65,some (.tree (zag true ((pre++y::x::post).map Cl.c))))]:=by
 have hcv:=zeZ hs (a:=a) (k:=k) hl;rw[hv] at hcv;have hll:=hl.1;have hx:x.pat.ok:=hl.2 _ (by simp);have hy:y.pat.ok:=hl.2 _ (by simp);have hcm:=zfn hs (a:=a) (k:=k) (c:=x) (d:=y) hx hy;rw[hc] at hcm;have hlen:((pre++x::y::post).map Cl.c).length=pre.length+post.length+2:=by simp;omega
 have hlen2:((pre++y::x::post).map Cl.c).length=pre.length+post.length+2:=by simp;omega
 have hll2:pre.length+post.length+2<=1000000000000:=by rw[<-hlen,xac];exact hll
 have e1:((pre++x::y::post).map Cl.c)[pre.length]?=some (Cl.c x):=by simp
 have e2:((pre++x::y::post).map Cl.c)[pre.length+1]?=some (Cl.c y):=by simp
 have how:=zjj hl;rw[hlen2];refine bd Tryz.f44 65 [57,61] [7,8] fun w0 F0 own kept hk=>?_;refine Walk.box (id:=3005) .none rfl rfl rfl (by first|rfl|(simp only[zaj,occH,occE,Res.ids,xag,List.nil_append,AV.idsL,AV.ids,zab,zaa,zac,zan,xae,List.map_nil,upC,zc3,zbB];rfl)) (by first|rfl|(simp only[zaj,occH,occE,Res.ids,xag,List.nil_append,AV.idsL,AV.ids,zab,zaa,zac,zan,xae,List.map_nil,upC,zc3,zbB];rfl)) (by first|rfl|(simp only[zaj,occH,occE,Res.ids,xag,List.nil_append,AV.idsL,AV.ids,zab,zaa,zac,zan,xae,List.map_nil,upC,zc3,zbB];rfl)) (by first|rfl|(simp only[zaj,occH,occE,Res.ids,xag,List.nil_append,AV.idsL,AV.ids,zab,zaa,zac,zan,xae,List.map_nil,upC,zc3,zbB];rfl)) ?_;refine evs [57,61] [] ?_;refine Walk.call (cr:=[]) zqt (hcv) rfl .none rfl rfl (LeL.refl _) trivial rfl (by first|rfl|(simp only[zas,List.all_cons,List.all_nil,zaC,zay,AV.idsL,AV.ids,zab,zaa,xae,List.map_nil,zc3,zbB];rfl)) (by first|rfl|(simp only[zaj,occH,occE,Res.ids,xag,List.nil_append,AV.idsL,AV.ids,zab,zaa,zac,zan,xae,List.map_nil,upC,zc3,zbB];rfl)) ?_;refine evs [57,61] [] ?_;refine sq ?_ ?_<;>intro h1 h1p h1s<;>(try simp only[Q,hlen] at h1p);refine sqT ?_;focus (exfalso;first|contradiction|(simp[zaz] at *;done)|(simp[zaz] at *;omega))
 refine ar ?_;refine Walk.call (cr:=[]) zdf (zbf) rfl (.some rfl rfl h1) rfl rfl (LeL.refl _) trivial rfl (by first|rfl|(simp only[zas,List.all_cons,List.all_nil,zaC,zay,AV.idsL,AV.ids,zab,zaa,xae,List.map_nil,zc3,zbB];rfl)) (by first|rfl|(simp only[zaj,occH,occE,Res.ids,xag,List.nil_append,AV.idsL,AV.ids,zab,zaa,zac,zan,xae,List.map_nil,upC,zc3,zbB];rfl)) ?_;refine evs [57,61] [(18,false)] ?_ ⟨⟨_,rfl,h1⟩,trivial⟩;refine sq ?_ ?_<;>intro h3 h3p h3s<;>(try simp only[Q,hlen] at h3p);focus (exfalso;first|contradiction|(simp[zaz] at *;done)|(simp[zaz] at *;omega))
 refine xaS (i:=pre.length) sl26 .none rfl rfl rfl rfl (e1) rfl ?_;refine evd [57,61] [] ?_;refine ar ?_;refine xaS (i:=(pre.length+1)) sl26 .none rfl rfl rfl (by simp) (e2) rfl ?_;refine evd [57,61] [] ?_;refine Walk.call (cr:=[]) zqZ (hcm) rfl .none rfl rfl (LeL.refl _) trivial rfl (by first|rfl|(simp only[zas,List.all_cons,List.all_nil,zaC,zay,AV.idsL,AV.ids,zab,zaa,xae,List.map_nil,zc3,zbB];rfl)) (by first|rfl|(simp only[zaj,occH,occE,Res.ids,xag,List.nil_append,AV.idsL,AV.ids,zab,zaa,zac,zan,xae,List.map_nil,upC,zc3,zbB];rfl)) ?_;refine evd [57,61] [] ?_;refine dr ?_;refine sq ?_ ?_<;>intro h4 h4p h4s<;>(try simp only[Q,hlen] at h4p);refine sqT ?_;exfalso;simp at *;refine sq ?_ ?_<;>intro h6 h6p h6s<;>(try simp only[Q,hlen] at h6p);exfalso;simp at *;refine Walk.call (cr:=[65]) ztM (how) rfl .none rfl rfl (LeL.refl _) trivial rfl (by first|rfl|(simp only[zas,List.all_cons,List.all_nil,zaC,zay,AV.idsL,AV.ids,zab,zaa,xae,List.map_nil,zc3,zbB];rfl)) (by first|rfl|(simp only[zaj,occH,occE,Res.ids,xag,List.nil_append,AV.idsL,AV.ids,zab,zaa,zac,zan,xae,List.map_nil,upC,zc3,zbB];rfl)) ?_;refine evs [57,61] [] ?_;refine CWp.fixT hk 12 65 9 rfl rfl rfl (fun hx=>absurd hx (by rw[<-List.length_eq_zero_iff,hlen];omega)) (fun hx=>?_);refine xap 65 (swC (ownD true) pre ((Cl.c x).map (ownD true)) ((Cl.c y).map (ownD true)) post) rfl zmu ?_;refine xas 65 (pre.length*9+5) 66 6 (cs':=swC (ownD true) pre (zbB x 66) ((Cl.c y).map (ownD true)) post) rfl (zaW swA rfl) (zbm _) (by first|rfl|(simp only[zaj,occH,occE,Res.ids,xag,List.nil_append,AV.idsL,AV.ids,zab,zaa,zac,zan,xae,List.map_nil,upC,zc3,zbB,Cl.c,ownD,D.i];rfl)) (zaE swA rfl) ?_;refine xas 65 (pre.length*9+14) 67 6 (cs':=swC (ownD true) pre (zbB x 66) (zbB y 67) post) rfl (zaW swA rfl) (zbm _) (by first|rfl|(simp only[zaj,occH,occE,Res.ids,xag,List.nil_append,AV.idsL,AV.ids,zab,zaa,zac,zan,xae,List.map_nil,upC,zc3,zbB,Cl.c,ownD,D.i];rfl)) (zaE swA rfl) ?_;refine evc [57,61] [] ?_;refine ar ?_;refine ar ?_;refine xaV (i:=(pre.length+1)) sl26 .none rfl rfl rfl (by simp) (by rw[hlen];omega) ?_;refine xa2 ty40 .none rfl rfl rfl ((by unfold swC;rw[zqk swA rfl rfl];rfl)) ?_;refine evd [57,61] [] ?_;refine xaV (i:=pre.length) sl26 .none rfl rfl rfl rfl (by rw[hlen];omega) ?_;refine xa2 ty40 .none rfl rfl rfl ((by unfold swC;rw[zqj swA rfl];rfl)) ?_;refine xaV (i:=pre.length) sl26 .none rfl rfl rfl rfl (by rw[hlen];omega) ?_;refine xbk ty40 .none rfl rfl rfl rfl rfl rfl (by simp) ((by first|exact znd (c1:=zbB x 66) (R:=zbB y 67++(post.map Cl.c).flatten.map (ownD true)) swA rfl|exact zne (c1:=zbB y 67) (c2:=zbB y 67) (R:=(post.map Cl.c).flatten.map (ownD true)) swA rfl rfl)) ?_;refine xaV (i:=(pre.length+1)) sl26 .none rfl rfl rfl (by simp) (by rw[hlen];omega) ?_;refine xbk ty40 .none rfl rfl rfl rfl rfl rfl (by simp) ((by first|exact znd (c1:=zbB x 66) (R:=zbB y 67++(post.map Cl.c).flatten.map (ownD true)) swA rfl|exact zne (c1:=zbB y 67) (c2:=zbB y 67) (R:=(post.map Cl.c).flatten.map (ownD true)) swA rfl rfl)) ?_;refine dr ?_;refine xap 65 (swC (ownD true) pre (zbB y 67) (zbB x 66) post) rfl rfl ?_;refine xan 65 (pre.length*9+5) 67 6 (cs':=swC (ownD true) pre ((Cl.c y).map (ownD true)) (zbB x 66) post) rfl (zaW swA rfl) rfl rfl (zaE swA rfl) ?_;refine xan 65 (pre.length*9+14) 66 6 (cs':=swC (ownD true) pre ((Cl.c y).map (ownD true)) ((Cl.c x).map (ownD true)) post) rfl (zaW swA rfl) rfl rfl (zaE swA rfl) ?_;refine xap 65 (zag true ((pre++y::x::post).map Cl.c)) rfl zmu.symm ?_;refine evc [57,61] [] ?_;refine rn [(65,some (.tree (zag true ((pre++y::x::post).map Cl.c))))] (r2 rfl rfl) (.tup (.cons (xaA ?_) (.cons (.eqd ?_) .nil))) ⟨rfl,rfl⟩ (SubH.get ⟨?_,trivial⟩) (za6 rfl);rotate_left 3;all_goals (first|((first|rfl|(rw[hlen];done)|(simp[hlen];done));done)|(rfl))
theorem zm2 {l:List Cl} (hl:ClsOk l):FnD Tryz.prog 99 [.d (zbc l)] [] (.gv 1 (l.map Cl.c)) [(1,some (.tok (l.map Cl.c).length 9))]:=by
 have hll:=hl.1;refine bd Tryz.f99 28 [] [] fun w0 F0 own kept hk=>?_;refine xbh 1 sl26 .none rfl rfl ?_;refine ev ?_;refine xam (ι:=List (Cl)×List (Cl)) hk (fun x=>[(4,.d (.i (x.1.length:Int))),(3,.gv 1 (x.1.map Cl.c))]) [6,7,8,9,10,11,12,13,14,15,16,17,18,19,20,21,22,23,24,25,26] (fun x=>[(1,some (.tok ((x.1.map Cl.c)).length 9))]) (fun x=>x.1++x.2=l) (fun x=>x.2.length) ([],l) (by simp) ⟨⟨_,rfl,xaz ?_⟩,⟨⟨_,rfl,LeA.gvg ?_⟩,trivial⟩⟩ ⟨zad ?_,trivial⟩ (fun x=>rfl) (fun x hg1=>?_);iterate 3 focus (first|rfl|(simp;done)|(simp;omega))
 obtain⟨pre,rest⟩:=x;dsimp only at hg1 ⊢;refine evc [] [] ?_;refine sq ?_ ?_<;>intro h1 h1p h1s<;>(try simp only[Q] at h1p);rcases rest with _|⟨y,rest⟩
 ·exfalso;simp_all
 refine xaS sl26 .none rfl rfl rfl rfl (zaR hg1) rfl ?_;refine evd [] [] ?_;refine wc zoE (zfB _ (Nat.le_refl _) (hl.2 y (by rw[<-hg1];simp))) rfl rfl ?_;refine evd [] [] ?_;refine xaS sl26 .none rfl rfl rfl rfl (zaR hg1) rfl ?_;refine evd [] [] ?_;refine bu [0,1] [_,_] st40 ?_;refine si [0] [_] sl26 tz40 ?_;refine xaF sl26 zz40 .none rfl rfl rfl rfl (zeu rfl (by first|rfl|(simp;done)|(simp;omega))) (by intro x hx;simp at hx;subst hx;rfl) (by have:=congrArg List.length hg1;simp at this;simp;omega) (by have:=congrArg List.length hg1;simp at this;simp;omega) ?_;refine evd [] [] ?_;refine dr ?_;refine ar ?_;refine xah ((pre++[y],rest)) ⟨(by have hz:=hg1;rw[<-hz];simp),(by simp),sx ⟨⟨_,rfl,xaz ?_⟩,⟨⟨_,rfl,LeA.gvg ?_⟩,trivial⟩⟩ ⟨zad ?_,trivial⟩⟩;iterate 3 focus (first|rfl|(simp;done)|(simp;omega))
 have hrest:rest=[]:=by
  rcases rest with _|⟨a,b⟩
  ·rfl
  ·exfalso;have hz:=congrArg List.length (hg1);simp only[xaa,xab,xac] at hz;omega
 subst hrest;refine rn [(1,some (.tok (l.map Cl.c).length 9))] (r1 rfl) (.gvg ?_) ⟨rfl,rfl⟩ (SubH.get ⟨?_,trivial⟩) (za6 rfl);rotate_left 2;all_goals (first|((first|rfl|(rw[List.append_nil] at hg1;subst hg1;rfl));done)|(first|rfl|(rw[List.append_nil] at hg1;subst hg1;rfl)))
theorem ziX {w:List Data} (hs:WSmall w){a k i:Int}{l:List Cl} (hl:ClsOk l) (hz:ClsSz l) (hno:¬swOk w a k l i):
  FnD Tryz.prog 43 [.d (zam w),.agg [.d (.i a),.d (.i k)],.d (zbc l),.d (.i i)] [] (.tup [.d (zbc []),.d (.bool false)]) []:=by
 have hcv:=zfe hs (a:=a) (k:=k) hl hz;have hll:=hl.1;by_cases q1:zbt w ⟨a,k⟩ l=true/\0<=i/\i<(l.length:Int)-1
 ·obtain⟨q1,q2,q3⟩:=q1;obtain⟨j,rfl⟩:=Int.eq_ofNat_of_zero_le q2;obtain⟨m,o,hmo,hcm⟩:=zfd hs (a:=a) (k:=k) (hl.2 _ (zal (l:=l) (i:=j) (by omega))) (hl.2 _ (zal (l:=l) (i:=j+1) (by omega))) (hz _ (zal (l:=l) (i:=j) (by omega))) (hz _ (zal (l:=l) (i:=j+1) (by omega)));have hb:(m=false/\o=true)->False:=fun h=>hno ⟨q1,q2,q3,by rw[Int.toNat_natCast];exact hmo.1 h⟩;clear hmo;rw[q1] at hcv;refine bd Tryz.f43 72 [] [] fun w0 F0 own kept hk=>?_;refine bx 3005 ?_;refine ev ?_;refine wc zqu (hcv) rfl rfl ?_;refine ev ?_;refine sq ?_ ?_<;>intro h1 h1p h1s<;>(try simp only[Q,xac] at h1p);refine sqT ?_;refine sqT ?_;focus (exfalso;first|contradiction|omega|(simp at *;done)|(simp at *;omega)|(simp_all;done)|(simp_all;omega))
  refine sq ?_ ?_<;>intro h3 h3p h3s<;>(try simp only[Q,xac] at h3p);refine sqT ?_;focus (exfalso;first|contradiction|omega|(simp at *;done)|(simp at *;omega)|(simp_all;done)|(simp_all;omega))
  refine ar ?_;refine sq ?_ ?_<;>intro h5 h5p h5s<;>(try simp only[Q,xac] at h5p);focus (exfalso;first|contradiction|omega|(simp at *;done)|(simp at *;omega)|(simp_all;done)|(simp_all;omega))
  refine xaS (i:=j) sl26 .none rfl rfl rfl rfl (zax (by omega)) rfl ?_;refine evd [] [] ?_;refine ar ?_;refine xaS (i:=(j+1)) sl26 .none rfl rfl rfl (by simp) (zax (by omega)) rfl ?_;refine evd [] [] ?_;refine wc zs2 (hcm) rfl rfl ?_;refine evd [] [] ?_;refine dr ?_;refine sq ?_ ?_<;>intro h6 h6p h6s<;>(try simp only[Q,xac] at h6p);refine sqT ?_;refine xbf sl26 .none rfl ?_;refine ev ?_;refine rn0 (r2 rfl rfl) (.tup (.cons (.eqd ?_) (.cons (.eqd ?_) .nil)));rotate_left 2;refine sq ?_ ?_<;>intro h8 h8p h8s<;>(try simp only[Q,xac] at h8p);refine xbf sl26 .none rfl ?_;refine ev ?_;refine rn0 (r2 rfl rfl) (.tup (.cons (.eqd ?_) (.cons (.eqd ?_) .nil)));rotate_left 2;exfalso;refine hb ⟨?_, ?_⟩<;>simp_all;all_goals (rfl)
 ·generalize zbt w ⟨a,k⟩ l=cv at *;refine bd Tryz.f43 72 [] [] fun w0 F0 own kept hk=>?_;refine bx 3005 ?_;refine ev ?_;refine wc zqu (hcv) rfl rfl ?_;refine ev ?_;refine sq ?_ ?_<;>intro h1 h1p h1s<;>(try simp only[Q,xac] at h1p);refine sqT ?_;refine sqT ?_;refine xbf sl26 .none rfl ?_;refine ev ?_;refine rn0 (r2 rfl rfl) (.tup (.cons (.eqd ?_) (.cons (.eqd ?_) .nil)));rotate_left 2;refine sq ?_ ?_<;>intro h3 h3p h3s<;>(try simp only[Q,xac] at h3p);refine sqT ?_;refine xbf sl26 .none rfl ?_;refine ev ?_;refine rn0 (r2 rfl rfl) (.tup (.cons (.eqd ?_) (.cons (.eqd ?_) .nil)));rotate_left 2;refine ar ?_;refine sq ?_ ?_<;>intro h5 h5p h5s<;>(try simp only[Q,xac] at h5p);refine xbf sl26 .none rfl ?_;refine ev ?_;refine rn0 (r2 rfl rfl) (.tup (.cons (.eqd ?_) (.cons (.eqd ?_) .nil)));rotate_left 2;focus (exfalso;refine q1 ⟨?_, ?_, ?_⟩<;>first|omega|(simp_all;done)|(simp at *;omega)|(simp_all;omega))
  all_goals (rfl)
theorem zix {w:List Data} (hs:WSmall w){a k:Int}{pre post:List Cl}{x y:Cl} (hl:ClsOk (pre++x::y::post)) (hz:ClsSz (pre++x::y::post)) (hv:zbt w ⟨a,k⟩ (pre++x::y::post)=true) (hc:cmV w a k x y=some []):
  FnD Tryz.prog 43 [.d (zam w),.agg [.d (.i a),.d (.i k)],.d (zbc (pre++x::y::post)),.d (.i (pre.length:Int))] [] (.tup [.d (zbc (pre++y::x::post)),.d (.bool true)]) []:=by
 have hcv:=zfe hs (a:=a) (k:=k) hl hz;rw[hv] at hcv;have hll:=hl.1;obtain⟨m,o,hmo,hcm⟩:=zfd hs (a:=a) (k:=k) (c:=x) (d:=y) (hl.2 _ (by simp)) (hl.2 _ (by simp)) (hz _ (by simp)) (hz _ (by simp));obtain⟨rfl,rfl⟩:=hmo.2 hc;have hlen:((pre++x::y::post).map Cl.c).length=pre.length+post.length+2:=by simp;omega
 have hll2:pre.length+post.length+2<=1000000000000:=by rw[<-hlen,xac];exact hll
 have e1:((pre++x::y::post).map Cl.c)[pre.length]?=some (Cl.c x):=by simp
 have e2:((pre++x::y::post).map Cl.c)[pre.length+1]?=some (Cl.c y):=by simp
 have how:=zm2 hl;have hfl:((pre++x::y::post).map Cl.c).flatten.map AV.d=swC AV.d pre ((Cl.c x).map AV.d) ((Cl.c y).map AV.d) post:=zmu;refine bd Tryz.f43 72 [57,64] [7,999999] fun w0 F0 own kept hk=>?_;refine Walk.box (id:=3005) .none rfl rfl rfl (by first|rfl|(simp only[zaj,occH,occE,Res.ids,xag,List.nil_append,AV.idsL,AV.ids,zab,zaa,zac,zan,xae,List.map_nil,upC,zdi];rfl)) (by first|rfl|(simp only[zaj,occH,occE,Res.ids,xag,List.nil_append,AV.idsL,AV.ids,zab,zaa,zac,zan,xae,List.map_nil,upC,zdi];rfl)) (by first|rfl|(simp only[zaj,occH,occE,Res.ids,xag,List.nil_append,AV.idsL,AV.ids,zab,zaa,zac,zan,xae,List.map_nil,upC,zdi];rfl)) (by first|rfl|(simp only[zaj,occH,occE,Res.ids,xag,List.nil_append,AV.idsL,AV.ids,zab,zaa,zac,zan,xae,List.map_nil,upC,zdi];rfl)) ?_;refine evs [57,64] [] ?_;refine Walk.call (cr:=[]) zqu (hcv) rfl .none rfl rfl (LeL.refl _) trivial rfl (by first|rfl|(simp only[zas,List.all_cons,List.all_nil,zaC,zay,AV.idsL,AV.ids,zab,zaa,xae,List.map_nil,zdi];rfl)) (by first|rfl|(simp only[zaj,occH,occE,Res.ids,xag,List.nil_append,AV.idsL,AV.ids,zab,zaa,zac,zan,xae,List.map_nil,upC,zdi];rfl)) ?_;refine evs [57,64] [] ?_;refine sq ?_ ?_<;>intro h1 h1p h1s<;>(try simp only[Q,hlen] at h1p);refine sqT ?_;refine sqT ?_;focus (exfalso;first|contradiction|omega|(simp at *;done)|(simp at *;omega)|(simp_all;done)|(simp_all;omega))
 refine sq ?_ ?_<;>intro h3 h3p h3s<;>(try simp only[Q,hlen] at h3p);refine sqT ?_;focus (exfalso;first|contradiction|omega|(simp at *;done)|(simp at *;omega)|(simp_all;done)|(simp_all;omega))
 refine ar ?_;refine sq ?_ ?_<;>intro h5 h5p h5s<;>(try simp only[Q,hlen] at h5p);focus (exfalso;first|contradiction|omega|(simp at *;done)|(simp at *;omega)|(simp_all;done)|(simp_all;omega))
 refine xaS (i:=pre.length) sl26 .none rfl rfl rfl rfl (e1) rfl ?_;refine evd [57,64] [] ?_;refine ar ?_;refine xaS (i:=(pre.length+1)) sl26 .none rfl rfl rfl (by simp) (e2) rfl ?_;refine evd [57,64] [] ?_;refine Walk.call (cr:=[]) zs2 (hcm) rfl .none rfl rfl (LeL.refl _) trivial rfl (by first|rfl|(simp only[zas,List.all_cons,List.all_nil,zaC,zay,AV.idsL,AV.ids,zab,zaa,xae,List.map_nil,zdi];rfl)) (by first|rfl|(simp only[zaj,occH,occE,Res.ids,xag,List.nil_append,AV.idsL,AV.ids,zab,zaa,zac,zan,xae,List.map_nil,upC,zdi];rfl)) ?_;refine evd [57,64] [] ?_;refine dr ?_;refine sq ?_ ?_<;>intro h6 h6p h6s<;>(try simp only[Q,hlen] at h6p);refine sqT ?_;exfalso;simp at *;refine sq ?_ ?_<;>intro h8 h8p h8s<;>(try simp only[Q,hlen] at h8p);exfalso;simp at *;refine Walk.call (cr:=[1]) zu1 (how) rfl .none rfl rfl (LeL.refl _) trivial rfl rfl rfl ?_;refine evs [57,64] [] ?_;refine CWp.fixV hk 12 1 9 rfl rfl rfl (fun hx=>absurd hx (by rw[<-List.length_eq_zero_iff,hlen];omega)) (fun hx=>?_);rw[hfl];refine evc [57,64] [] ?_;refine xaV (i:=pre.length) sl26 .none rfl rfl rfl rfl (by rw[hlen];omega) ?_;refine xaZ ty40 .none rfl rfl rfl ((zqj swA rfl)) ?_;refine Walk.alloc (id:=3013) tz40 rfl .none rfl (by first|rfl|(simp only[zaj,occH,occE,Res.ids,xag,List.nil_append,AV.idsL,AV.ids,zab,zaa,zac,zan,xae,List.map_nil,upC,zdi];rfl)) (by first|rfl|(simp only[zaj,occH,occE,Res.ids,xag,List.nil_append,AV.idsL,AV.ids,zab,zaa,zac,zan,xae,List.map_nil,upC,zdi];rfl)) (by first|rfl|(simp only[zaj,occH,occE,Res.ids,xag,List.nil_append,AV.idsL,AV.ids,zab,zaa,zac,zan,xae,List.map_nil,upC,zdi];rfl)) ?_;refine so ty40 ?_;refine tv ?_;refine ar ?_;refine xaV (i:=(pre.length+1)) sl26 .none rfl rfl rfl (by simp) (by rw[hlen];omega) ?_;refine xaZ ty40 .none rfl rfl rfl ((zqk swA rfl rfl)) ?_;refine xaV (i:=pre.length) sl26 .none rfl rfl rfl rfl (by rw[hlen];omega) ?_;refine Walk.store ty40 .none rfl rfl rfl rfl rfl rfl (by simp) ((znd swA rfl)) ?_;refine tv ?_;refine ar ?_;refine xaV (i:=(pre.length+1)) sl26 .none rfl rfl rfl (by simp) (by rw[hlen];omega) ?_;refine Walk.store ty40 .none rfl rfl rfl rfl rfl rfl (by simp) ((zne swA rfl rfl)) ?_;refine tv ?_;refine CWp.frz hk 8 1 _ _ rfl rfl (zsH (by rw[hlen];simp;omega)) rfl ?_;refine CWp.ret ?_;refine rn0 (r2 rfl rfl) (.tup (.cons (.eqd ?_) (.cons (.eqd ?_) .nil)));rotate_left 2;all_goals (rfl)
theorem zii {l:List Cl}{k:Int} (hl:l=[]):FnD Tryz.prog 37 [.d (.sl []),.d (.i k)] [] (.d (.i (k+szL Cl.szM l))) []:=by
 subst hl;refine bd Tryz.f37 85 [] [] fun w0 F0 own kept hk=>?_;refine xam (ι:=Unit) hk (fun x=>[(5,.d (.i 0)),(1,.d (.i k))]) [6,7,8,9,10,11,12,13,14,15,16,17,18,19,20,21,22,23,24,25,26,27,28,29,30,31,32,33,34,35,36,37,38,39,40,41,42,43,44,45,46,47,48,49,50,51,52,53,54,55,56,57,58,59,60,61,62,63,64,65,66,67,68,69,70,71,72,73,74,75,76,77,78,79,80,81,82,83] (fun x=>[]) (fun x=>True) (fun x=>0) () trivial ⟨⟨_,rfl,xaz ?_⟩,⟨⟨_,rfl,xaz ?_⟩,trivial⟩⟩ trivial (fun x=>rfl) (fun x hg1=>?_);iterate 2 focus (first|rfl|(simp;done)|(simp_all;done)|omega)
 refine evc [] [] ?_;refine sq ?_ ?_<;>intro h1 h1p h1s<;>(try simp only[Q] at h1p);exfalso;revert h1;simp;refine rq ?_;rotate_left;all_goals (first|rfl|(simp[szL];done))
theorem zky {l:List Data}{k:Int} (h0:0<k) (h1:k+szL Data.sz l<=1000000000000) (hl:WSmall l):FnD Tryz.prog 36 [.ms 63 l.length,.d (.i k)] [(63,some (.tree (zag false (l.map Data.c))))]
  (.d (.i (k+szL Data.sz l))) [(63,some (.tree (zag false ((mkL Data.one Data.sz k l).map Data.c))))]:=FnD.ren rfl (zaa _ _) (zaa _ _) (zkl h0 h1 hl) 63
theorem ziL {l:List Cl}{k:Int} (h0:0<k) (h1:k+szL Cl.szM l<=1000000000000) (hok:ClsOk l):FnD Tryz.prog 37 [.ms 68 l.length,.d (.i k)] [(68,some (.tree (zag false (l.map Cl.c))))]
  (.d (.i (k+szL Cl.szM l))) [(68,some (.tree (zag false ((mkL Cl.one Cl.szM k l).map Cl.c))))]:=FnD.ren rfl (zaa _ _) (zaa _ _) (zfp h0 h1 hok) 68
theorem zn3 {m:Bool}{l:List Cl}{k:Int} (h0:0<k) (h1:k+szL Cl.szM l<=1000000000000) (hok:ClsOk l):FnD Tryz.prog 37 [.ms 65 l.length,.d (.i k)] [(65,some (.tree (zag m (l.map Cl.c))))]
  (.d (.i (k+szL Cl.szM l))) [(65,some (.tree (zag false ((mkL Cl.one Cl.szM k l).map Cl.c))))]:=FnD.ren rfl (zaa _ _) (zaa _ _) (zfp h0 h1 hok) 65
theorem zjp {w:List Data} (hs:WSmall w){a k i:Int}{cl:List Cl} (hok:ClsOk cl){r:List Cl} (hne:r≠[]) (hro:ClsOk r) (hrz:szL Cl.szM r=szL Cl.szM cl)
  (hspec:FnD Tryz.prog 43 [.d (zam w),.agg [.d (.i a),.d (.i k)],.d (zbc cl),.d (.i i)] [] (.tup [.d (zbc r),.d (.bool true)]) [])
  (himp:FnD Tryz.prog 44 [.d (zam w),.agg [.d (.i a),.d (.i k)],.d (zbc cl),.d (.i i)] [] (.tup [.d (zbc r),.d (.bool true)]) [])
  (hown:FnD Tryz.prog 44 [.d (zam w),.agg [.d (.i a),.d (.i k)],.d (zbc cl),.d (.i i)] [] (.tup [.ms 65 (r.map Cl.c).length,.d (.bool true)]) [(65,some (.tree (zag true (r.map Cl.c))))]):
  FnD Tryz.prog 8 [.d (zam w),.agg [.d (.i a),.d (.i k)],.d (zbc cl),.d (.i i)] [] (.d (.bool true)) []:=by
 have z:=zbG (left:=1048576) (zeq w);have z2:=zbG (left:=szr 1048576 (zeq w)) (mCls cl);have hbd:=zgW w;have hnn:=zaQ (l:=w) Data.sz_nn;have hcb:=Cls.szM_le cl;have hcn:=zaQ (l:=cl) Cl.szM_nn;have hpn:=zaQ (l:=r) Cl.szM_nn;refine bd Tryz.f8 132 [62,91,122] [] fun w0 F0 own kept hk=>?_;refine bx 3005 ?_;refine evs [62,91,122] [] ?_;refine wc zsQ (zha hs (by omega) (by omega)) rfl rfl ?_;refine evs [62,91,122] [] ?_;refine sq ?_ ?_<;>intro h1 h1p h1s<;>(try simp only[Q] at h1p);refine rq ?_;rotate_left;refine wc zsR (zgd hok (by omega) (by omega)) rfl rfl ?_;refine evs [62,91,122] [] ?_;refine sq ?_ ?_<;>intro h2 h2p h2s<;>(try simp only[Q] at h2p);refine rq ?_;rotate_left;refine wc zg1 (zct hs) rfl rfl ?_;refine evd [62,91,122] [] ?_;refine wc zg2 (zbY) rfl rfl ?_;refine evd [62,91,122] [] ?_;refine wc zg3 (zca hok) rfl rfl ?_;refine evd [62,91,122] [] ?_;refine wc zsU (hspec) rfl rfl ?_;refine evd [62,91,122] [] ?_;refine dr ?_;refine Walk.call (cr:=[63]) zg1 (zhb hs) rfl .none rfl rfl (LeL.refl _) trivial rfl (by first|rfl|(simp only[zas,List.all_cons,List.all_nil,zaC,zay,AV.idsL,AV.ids,zab,zaa,xae,List.map_nil];rfl)) (by first|rfl|(simp only[zaj,occH,occE,Res.ids,xag,List.nil_append,AV.idsL,AV.ids,zab,zaa,zac,zan,xae,List.map_nil,upC];rfl)) ?_;refine evs [62,91,122] [] ?_;refine Walk.call (cr:=[68]) zg3 (zgf hok) rfl .none rfl rfl (LeL.refl _) trivial rfl (by first|rfl|(simp only[zas,List.all_cons,List.all_nil,zaC,zay,AV.idsL,AV.ids,zab,zaa,xae,List.map_nil];rfl)) (by first|rfl|(simp only[zaj,occH,occE,Res.ids,xag,List.nil_append,AV.idsL,AV.ids,zab,zaa,zac,zan,xae,List.map_nil,upC];rfl)) ?_;refine evs [62,91,122] [] ?_;refine Walk.call (cr:=[]) zg2 (zbY) rfl .none rfl rfl (LeL.refl _) trivial rfl (by first|rfl|(simp only[zas,List.all_cons,List.all_nil,zaC,zay,AV.idsL,AV.ids,zab,zaa,xae,List.map_nil];rfl)) (by first|rfl|(simp only[zaj,occH,occE,Res.ids,xag,List.nil_append,AV.idsL,AV.ids,zab,zaa,zac,zan,xae,List.map_nil,upC];rfl)) ?_;refine evs [62,91,122] [] ?_;refine xaX (cr:=[65]) (lr:=[(63,_),(68,_)]) zoe (hown) rfl .none rfl rfl (.cons (.ms (k:=2) List.mem_cons_self (by intro x hx;obtain⟨y,_,rfl⟩:=List.mem_map.1 hx;rfl) (by first|rfl|(simp[zap];done))) (.cons (.le (.refl _)) (.cons (.ms (k:=9) (List.mem_cons_of_mem _ List.mem_cons_self) xau (by first|rfl|(simp[zap];done))) (.cons (.le (.refl _)) .nil)))) ⟨rfl,⟨rfl,trivial⟩⟩ rfl (by first|rfl|(simp only[zc0,zcG,zbI,AV.ids];rfl)) (by first|rfl|(simp only[zaj,occH,occE,Res.ids,xag,List.nil_append,AV.idsL,AV.ids,zab,zaa,zac,zan,xae,List.map_nil,upC];rfl)) ?_;refine evs [62,91,122] [] ?_;refine xaX (cr:=[]) (lr:=[(65,_)]) zg4 (zbw hro) rfl .none rfl rfl (.cons (.ms (k:=9) List.mem_cons_self xau (by first|rfl|(simp[zap];done))) (.cons (.le (.refl _)) .nil)) ⟨rfl,trivial⟩ rfl (by first|rfl|(simp only[zc0,zcG,zbI,AV.ids];rfl)) (by first|rfl|(simp only[zaj,occH,occE,Res.ids,xag,List.nil_append,AV.idsL,AV.ids,zab,zaa,zac,zan,xae,List.map_nil,upC];rfl)) ?_;refine evs [62,91,122] [] ?_;refine sq ?_ ?_<;>intro h3 h3p h3s<;>(try simp only[Q] at h3p);refine sqT ?_;refine rq ?_;rotate_left;refine xa9 un4 (.some rfl rfl h3) rfl rfl rfl ?_;refine evs [62,91,122] [(59,false)] ?_ ⟨⟨_,rfl,h3⟩,trivial⟩;refine sq ?_ ?_<;>intro h5 h5p h5s<;>(try simp only[Q] at h5p);refine rq ?_;rotate_left;refine Walk.call (cr:=[]) zg1 (zct hs) rfl .none rfl rfl (LeL.refl _) trivial rfl (by first|rfl|(simp only[zas,List.all_cons,List.all_nil,zaC,zay,AV.idsL,AV.ids,zab,zaa,xae,List.map_nil];rfl)) (by first|rfl|(simp only[zaj,occH,occE,Res.ids,xag,List.nil_append,AV.idsL,AV.ids,zab,zaa,zac,zan,xae,List.map_nil,upC];rfl)) ?_;refine xaX (cr:=[]) (lr:=[(63,_)]) zsS (zg8 hs) rfl .none rfl rfl (.cons (.ms (k:=2) List.mem_cons_self (by intro x hx;obtain⟨y,_,rfl⟩:=List.mem_map.1 hx;rfl) (by first|rfl|(simp[zap];done))) (.cons (.le (.refl _)) .nil)) ⟨rfl,trivial⟩ rfl (by first|rfl|(simp only[zc0,zcG,zbI,AV.ids];rfl)) (by first|rfl|(simp only[zaj,occH,occE,Res.ids,xag,List.nil_append,AV.idsL,AV.ids,zab,zaa,zac,zan,xae,List.map_nil,upC];rfl)) ?_;refine evs [62,91,122] [] ?_;refine sq ?_ ?_<;>intro h6 h6p h6s<;>(try simp only[Q] at h6p);refine rq ?_;rotate_left;refine Walk.call (cr:=[]) zg3 (zca hok) rfl .none rfl rfl (LeL.refl _) trivial rfl (by first|rfl|(simp only[zas,List.all_cons,List.all_nil,zaC,zay,AV.idsL,AV.ids,zab,zaa,xae,List.map_nil];rfl)) (by first|rfl|(simp only[zaj,occH,occE,Res.ids,xag,List.nil_append,AV.idsL,AV.ids,zab,zaa,zac,zan,xae,List.map_nil,upC];rfl)) ?_;refine xaX (cr:=[]) (lr:=[(68,_)]) zg4 (zbw hok) rfl .none rfl rfl (.cons (.ms (k:=9) List.mem_cons_self xau (by first|rfl|(simp[zap];done))) (.cons (.le (.refl _)) .nil)) ⟨rfl,trivial⟩ rfl (by first|rfl|(simp only[zc0,zcG,zbI,AV.ids];rfl)) (by first|rfl|(simp only[zaj,occH,occE,Res.ids,xag,List.nil_append,AV.idsL,AV.ids,zab,zaa,zac,zan,xae,List.map_nil,upC];rfl)) ?_;refine evs [62,91,122] [] ?_;refine sq ?_ ?_<;>intro h7 h7p h7s<;>(try simp only[Q] at h7p);refine rq ?_;rotate_left;refine Walk.call (cr:=[]) zsT (zky (l:=w) (k:=1) (by omega) (by omega) hs) rfl .none rfl rfl (.cons (xaA (by first|rfl|(simp;done))) (.cons (.refl _) .nil)) ⟨rfl,trivial⟩ rfl (by first|rfl|(simp only[zas,List.all_cons,List.all_nil,zaC,zay,AV.idsL,AV.ids,zab,zaa,xae,List.map_nil];rfl)) (by first|rfl|(simp only[zaj,occH,occE,Res.ids,xag,List.nil_append,AV.idsL,AV.ids,zab,zaa,zac,zan,xae,List.map_nil,upC];rfl)) ?_;refine evs [62,91,122] [] ?_;refine Walk.call (cr:=[]) zod (ziL (l:=cl) (k:=1+szL Data.sz w) (by omega) (by omega) hok) rfl .none rfl rfl (.cons (xaA (by first|rfl|(simp;done))) (.cons (.refl _) .nil)) ⟨rfl,trivial⟩ rfl (by first|rfl|(simp only[zas,List.all_cons,List.all_nil,zaC,zay,AV.idsL,AV.ids,zab,zaa,xae,List.map_nil];rfl)) (by first|rfl|(simp only[zaj,occH,occE,Res.ids,xag,List.nil_append,AV.idsL,AV.ids,zab,zaa,zac,zan,xae,List.map_nil,upC];rfl)) ?_;refine evs [62,91,122] [] ?_;refine sq ?_ ?_<;>intro h8 h8p h8s<;>(try simp only[Q] at h8p);refine sqT ?_;refine sqT ?_;refine rq ?_;rotate_left;refine xaX (cr:=[]) (lr:=[(65,_)]) zg4 (zbw hro) rfl (.some rfl rfl h8) rfl rfl (.cons (.ms (k:=9) List.mem_cons_self xau (by first|rfl|(simp[zap];done))) (.cons (.le (.refl _)) .nil)) ⟨rfl,trivial⟩ rfl (by first|rfl|(simp only[zc0,zcG,zbI,AV.ids];rfl)) (by first|rfl|(simp only[zaj,occH,occE,Res.ids,xag,List.nil_append,AV.idsL,AV.ids,zab,zaa,zac,zan,xae,List.map_nil,upC];rfl)) ?_;refine evs [62,91,122] [(82,false)] ?_ ⟨⟨_,rfl,h8⟩,trivial⟩;refine sq ?_ ?_<;>intro h10 h10p h10s<;>(try simp only[Q] at h10p);refine sqT ?_;refine rq ?_;rotate_left;refine xa9 un4 (.some rfl rfl h10) rfl rfl rfl ?_;refine evs [62,91,122] [(88,false)] ?_ ⟨⟨_,rfl,h10⟩,trivial⟩;refine sq ?_ ?_<;>intro h12 h12p h12s<;>(try simp only[Q] at h12p);refine rq ?_;rotate_left;refine Walk.call (cr:=[]) zod (zn3 (l:=r) (k:=1) (by omega) (by omega) hro) rfl .none rfl rfl (.cons (xaA (by first|rfl|(simp;done))) (.cons (.refl _) .nil)) ⟨rfl,trivial⟩ rfl (by first|rfl|(simp only[zas,List.all_cons,List.all_nil,zaC,zay,AV.idsL,AV.ids,zab,zaa,xae,List.map_nil];rfl)) (by first|rfl|(simp only[zaj,occH,occE,Res.ids,xag,List.nil_append,AV.idsL,AV.ids,zab,zaa,zac,zan,xae,List.map_nil,upC];rfl)) ?_;refine evs [62,91,122] [] ?_;refine xaX (cr:=[]) (lr:=[(65,_)]) zof (zcR (l:=r) (k:=1) (by omega) (by omega) hro) rfl .none rfl rfl (.cons (.ms (k:=9) List.mem_cons_self xau (by first|rfl|(simp[zap];done))) (.cons (.le (.refl _)) .nil)) ⟨rfl,trivial⟩ rfl (by first|rfl|(simp only[zc0,zcG,zbI,AV.ids];rfl)) (by first|rfl|(simp only[zaj,occH,occE,Res.ids,xag,List.nil_append,AV.idsL,AV.ids,zab,zaa,zac,zan,xae,List.map_nil,upC];rfl)) ?_;refine evs [62,91,122] [] ?_;refine sq ?_ ?_<;>intro h13 h13p h13s<;>(try simp only[Q] at h13p);refine rq ?_;rotate_left;refine sq ?_ ?_<;>intro h14 h14p h14s<;>(try simp only[Q] at h14p);refine rq ?_;rotate_left;refine Walk.call (cr:=[]) zg1 (zct hs) rfl .none rfl rfl (LeL.refl _) trivial rfl (by first|rfl|(simp only[zas,List.all_cons,List.all_nil,zaC,zay,AV.idsL,AV.ids,zab,zaa,xae,List.map_nil];rfl)) (by first|rfl|(simp only[zaj,occH,occE,Res.ids,xag,List.nil_append,AV.idsL,AV.ids,zab,zaa,zac,zan,xae,List.map_nil,upC];rfl)) ?_;refine evd [62,91,122] [] ?_;refine Walk.call (cr:=[]) zg2 (zbY) rfl .none rfl rfl (LeL.refl _) trivial rfl (by first|rfl|(simp only[zas,List.all_cons,List.all_nil,zaC,zay,AV.idsL,AV.ids,zab,zaa,xae,List.map_nil];rfl)) (by first|rfl|(simp only[zaj,occH,occE,Res.ids,xag,List.nil_append,AV.idsL,AV.ids,zab,zaa,zac,zan,xae,List.map_nil,upC];rfl)) ?_;refine evd [62,91,122] [] ?_;refine Walk.call (cr:=[]) zg3 (zca hok) rfl .none rfl rfl (LeL.refl _) trivial rfl (by first|rfl|(simp only[zas,List.all_cons,List.all_nil,zaC,zay,AV.idsL,AV.ids,zab,zaa,xae,List.map_nil];rfl)) (by first|rfl|(simp only[zaj,occH,occE,Res.ids,xag,List.nil_append,AV.idsL,AV.ids,zab,zaa,zac,zan,xae,List.map_nil,upC];rfl)) ?_;refine evd [62,91,122] [] ?_;refine Walk.call (cr:=[]) zoe (himp) rfl .none rfl rfl (LeL.refl _) trivial rfl (by first|rfl|(simp only[zas,List.all_cons,List.all_nil,zaC,zay,AV.idsL,AV.ids,zab,zaa,xae,List.map_nil];rfl)) (by first|rfl|(simp only[zaj,occH,occE,Res.ids,xag,List.nil_append,AV.idsL,AV.ids,zab,zaa,zac,zan,xae,List.map_nil,upC];rfl)) ?_;refine evd [62,91,122] [] ?_;refine dr ?_;refine Walk.call (cr:=[]) zg4 (zbw hro) rfl .none rfl rfl (LeL.refl _) trivial rfl (by first|rfl|(simp only[zas,List.all_cons,List.all_nil,zaC,zay,AV.idsL,AV.ids,zab,zaa,xae,List.map_nil];rfl)) (by first|rfl|(simp only[zaj,occH,occE,Res.ids,xag,List.nil_append,AV.idsL,AV.ids,zab,zaa,zac,zan,xae,List.map_nil,upC];rfl)) ?_;refine evs [62,91,122] [] ?_;refine sq ?_ ?_<;>intro h15 h15p h15s<;>(try simp only[Q] at h15p);refine sqT ?_;refine rq ?_;rotate_left;refine xa9 un4 (.some rfl rfl h15) rfl rfl rfl ?_;refine evs [62,91,122] [(119,false)] ?_ ⟨⟨_,rfl,h15⟩,trivial⟩;refine sq ?_ ?_<;>intro h17 h17p h17s<;>(try simp only[Q] at h17p);refine rq ?_;rotate_left;refine xaX (cr:=[]) (lr:=[(65,_)]) zof (zcR (l:=r) (k:=1) (by omega) (by omega) hro) rfl .none rfl rfl (.cons (.ms (k:=9) List.mem_cons_self xau (by first|rfl|(simp[zap];done))) (.cons (.le (.refl _)) .nil)) ⟨rfl,trivial⟩ rfl (by first|rfl|(simp only[zc0,zcG,zbI,AV.ids];rfl)) (by first|rfl|(simp only[zaj,occH,occE,Res.ids,xag,List.nil_append,AV.idsL,AV.ids,zab,zaa,zac,zan,xae,List.map_nil,upC];rfl)) ?_;refine evs [62,91,122] [] ?_;refine sq ?_ ?_<;>intro h18 h18p h18s<;>(try simp only[Q] at h18p);refine rq ?_;rotate_left;refine sq ?_ ?_<;>intro h19 h19p h19s<;>(try simp only[Q] at h19p);refine rq ?_;rotate_left;refine rq ?_;rotate_left;all_goals (first|rfl|(exfalso;simp_all[zgk];done)|(exfalso;simp[zgk] at *;omega))
theorem zjo {w:List Data} (hs:WSmall w){a k i:Int}{cl:List Cl} (hok:ClsOk cl){q:Bool}
  (hspec:FnD Tryz.prog 43 [.d (zam w),.agg [.d (.i a),.d (.i k)],.d (zbc cl),.d (.i i)] [] (.tup [.d (zbc []),.d (.bool q)]) [])
  (himp:FnD Tryz.prog 44 [.d (zam w),.agg [.d (.i a),.d (.i k)],.d (zbc cl),.d (.i i)] [] (.tup [.d (zbc []),.d (.bool q)]) []):
  FnD Tryz.prog 8 [.d (zam w),.agg [.d (.i a),.d (.i k)],.d (zbc cl),.d (.i i)] [] (.d (.bool true)) []:=by
 have z:=zbG (left:=1048576) (zeq w);have z2:=zbG (left:=szr 1048576 (zeq w)) (mCls cl);have hbd:=zgW w;have hnn:=zaQ (l:=w) Data.sz_nn;have hcb:=Cls.szM_le cl;have hcn:=zaQ (l:=cl) Cl.szM_nn;have hnok:ClsOk []:=⟨by simp,by simp⟩;refine bd Tryz.f8 132 [62,91,122] [] fun w0 F0 own kept hk=>?_;refine bx 3005 ?_;refine evs [62,91,122] [] ?_;refine wc zsQ (zha hs (by omega) (by omega)) rfl rfl ?_;refine evs [62,91,122] [] ?_;refine sq ?_ ?_<;>intro h1 h1p h1s<;>(try simp only[Q] at h1p);refine rq ?_;rotate_left;refine wc zsR (zgd hok (by omega) (by omega)) rfl rfl ?_;refine evs [62,91,122] [] ?_;refine sq ?_ ?_<;>intro h2 h2p h2s<;>(try simp only[Q] at h2p);refine rq ?_;rotate_left;refine wc zg1 (zct hs) rfl rfl ?_;refine evd [62,91,122] [] ?_;refine wc zg2 (zbY) rfl rfl ?_;refine evd [62,91,122] [] ?_;refine wc zg3 (zca hok) rfl rfl ?_;refine evd [62,91,122] [] ?_;refine wc zsU (hspec) rfl rfl ?_;refine evd [62,91,122] [] ?_;refine dr ?_;refine Walk.call (cr:=[63]) zg1 (zhb hs) rfl .none rfl rfl (LeL.refl _) trivial rfl (by first|rfl|(simp only[zas,List.all_cons,List.all_nil,zaC,zay,AV.idsL,AV.ids,zab,zaa,xae,List.map_nil];rfl)) (by first|rfl|(simp only[zaj,occH,occE,Res.ids,xag,List.nil_append,AV.idsL,AV.ids,zab,zaa,zac,zan,xae,List.map_nil,upC];rfl)) ?_;refine evs [62,91,122] [] ?_;refine Walk.call (cr:=[68]) zg3 (zgf hok) rfl .none rfl rfl (LeL.refl _) trivial rfl (by first|rfl|(simp only[zas,List.all_cons,List.all_nil,zaC,zay,AV.idsL,AV.ids,zab,zaa,xae,List.map_nil];rfl)) (by first|rfl|(simp only[zaj,occH,occE,Res.ids,xag,List.nil_append,AV.idsL,AV.ids,zab,zaa,zac,zan,xae,List.map_nil,upC];rfl)) ?_;refine evs [62,91,122] [] ?_;refine Walk.call (cr:=[]) zg2 (zbY) rfl .none rfl rfl (LeL.refl _) trivial rfl (by first|rfl|(simp only[zas,List.all_cons,List.all_nil,zaC,zay,AV.idsL,AV.ids,zab,zaa,xae,List.map_nil];rfl)) (by first|rfl|(simp only[zaj,occH,occE,Res.ids,xag,List.nil_append,AV.idsL,AV.ids,zab,zaa,zac,zan,xae,List.map_nil,upC];rfl)) ?_;refine evs [62,91,122] [] ?_;refine xaX (cr:=[]) (lr:=[(63,_),(68,_)]) zoe (himp) rfl .none rfl rfl (.cons (.ms (k:=2) List.mem_cons_self (by intro x hx;obtain⟨y,_,rfl⟩:=List.mem_map.1 hx;rfl) (by first|rfl|(simp[zap];done))) (.cons (.le (.refl _)) (.cons (.ms (k:=9) (List.mem_cons_of_mem _ List.mem_cons_self) xau (by first|rfl|(simp[zap];done))) (.cons (.le (.refl _)) .nil)))) ⟨rfl,⟨rfl,trivial⟩⟩ rfl (by first|rfl|(simp only[zc0,zcG,zbI,AV.ids];rfl)) (by first|rfl|(simp only[zaj,occH,occE,Res.ids,xag,List.nil_append,AV.idsL,AV.ids,zab,zaa,zac,zan,xae,List.map_nil,upC];rfl)) ?_;refine evs [62,91,122] [] ?_;refine Walk.call (cr:=[]) zg4 (zbw (l:=[]) (m:=[]) hnok) rfl .none rfl rfl (LeL.refl _) trivial rfl (by first|rfl|(simp only[zas,List.all_cons,List.all_nil,zaC,zay,AV.idsL,AV.ids,zab,zaa,xae,List.map_nil];rfl)) (by first|rfl|(simp only[zaj,occH,occE,Res.ids,xag,List.nil_append,AV.idsL,AV.ids,zab,zaa,zac,zan,xae,List.map_nil,upC];rfl)) ?_;refine evs [62,91,122] [] ?_;refine sq ?_ ?_<;>intro h3 h3p h3s<;>(try simp only[Q] at h3p);refine sqT ?_;refine rq ?_;rotate_left;refine xa9 un4 (.some rfl rfl h3) rfl rfl rfl ?_;refine evs [62,91,122] [(59,false)] ?_ ⟨⟨_,rfl,h3⟩,trivial⟩;refine sq ?_ ?_<;>intro h5 h5p h5s<;>(try simp only[Q] at h5p);refine rq ?_;rotate_left;refine Walk.call (cr:=[]) zg1 (zct hs) rfl .none rfl rfl (LeL.refl _) trivial rfl (by first|rfl|(simp only[zas,List.all_cons,List.all_nil,zaC,zay,AV.idsL,AV.ids,zab,zaa,xae,List.map_nil];rfl)) (by first|rfl|(simp only[zaj,occH,occE,Res.ids,xag,List.nil_append,AV.idsL,AV.ids,zab,zaa,zac,zan,xae,List.map_nil,upC];rfl)) ?_;refine xaX (cr:=[]) (lr:=[(63,_)]) zsS (zg8 hs) rfl .none rfl rfl (.cons (.ms (k:=2) List.mem_cons_self (by intro x hx;obtain⟨y,_,rfl⟩:=List.mem_map.1 hx;rfl) (by first|rfl|(simp[zap];done))) (.cons (.le (.refl _)) .nil)) ⟨rfl,trivial⟩ rfl (by first|rfl|(simp only[zc0,zcG,zbI,AV.ids];rfl)) (by first|rfl|(simp only[zaj,occH,occE,Res.ids,xag,List.nil_append,AV.idsL,AV.ids,zab,zaa,zac,zan,xae,List.map_nil,upC];rfl)) ?_;refine evs [62,91,122] [] ?_;refine sq ?_ ?_<;>intro h6 h6p h6s<;>(try simp only[Q] at h6p);refine rq ?_;rotate_left;refine Walk.call (cr:=[]) zg3 (zca hok) rfl .none rfl rfl (LeL.refl _) trivial rfl (by first|rfl|(simp only[zas,List.all_cons,List.all_nil,zaC,zay,AV.idsL,AV.ids,zab,zaa,xae,List.map_nil];rfl)) (by first|rfl|(simp only[zaj,occH,occE,Res.ids,xag,List.nil_append,AV.idsL,AV.ids,zab,zaa,zac,zan,xae,List.map_nil,upC];rfl)) ?_;refine xaX (cr:=[]) (lr:=[(68,_)]) zg4 (zbw hok) rfl .none rfl rfl (.cons (.ms (k:=9) List.mem_cons_self xau (by first|rfl|(simp[zap];done))) (.cons (.le (.refl _)) .nil)) ⟨rfl,trivial⟩ rfl (by first|rfl|(simp only[zc0,zcG,zbI,AV.ids];rfl)) (by first|rfl|(simp only[zaj,occH,occE,Res.ids,xag,List.nil_append,AV.idsL,AV.ids,zab,zaa,zac,zan,xae,List.map_nil,upC];rfl)) ?_;refine evs [62,91,122] [] ?_;refine sq ?_ ?_<;>intro h7 h7p h7s<;>(try simp only[Q] at h7p);refine rq ?_;rotate_left;refine Walk.call (cr:=[]) zsT (zky (l:=w) (k:=1) (by omega) (by omega) hs) rfl .none rfl rfl (.cons (xaA (by first|rfl|(simp;done))) (.cons (.refl _) .nil)) ⟨rfl,trivial⟩ rfl (by first|rfl|(simp only[zas,List.all_cons,List.all_nil,zaC,zay,AV.idsL,AV.ids,zab,zaa,xae,List.map_nil];rfl)) (by first|rfl|(simp only[zaj,occH,occE,Res.ids,xag,List.nil_append,AV.idsL,AV.ids,zab,zaa,zac,zan,xae,List.map_nil,upC];rfl)) ?_;refine evs [62,91,122] [] ?_;refine Walk.call (cr:=[]) zod (ziL (l:=cl) (k:=1+szL Data.sz w) (by omega) (by omega) hok) rfl .none rfl rfl (.cons (xaA (by first|rfl|(simp;done))) (.cons (.refl _) .nil)) ⟨rfl,trivial⟩ rfl (by first|rfl|(simp only[zas,List.all_cons,List.all_nil,zaC,zay,AV.idsL,AV.ids,zab,zaa,xae,List.map_nil];rfl)) (by first|rfl|(simp only[zaj,occH,occE,Res.ids,xag,List.nil_append,AV.idsL,AV.ids,zab,zaa,zac,zan,xae,List.map_nil,upC];rfl)) ?_;refine evs [62,91,122] [] ?_;refine sq ?_ ?_<;>intro h8 h8p h8s<;>(try simp only[Q] at h8p);refine sqT ?_;refine sqT ?_;refine rq ?_;rotate_left;refine Walk.call (cr:=[]) zg4 (zbw (l:=[]) (m:=[]) hnok) rfl (.some rfl rfl h8) rfl rfl (LeL.refl _) trivial rfl (by first|rfl|(simp only[zas,List.all_cons,List.all_nil,zaC,zay,AV.idsL,AV.ids,zab,zaa,xae,List.map_nil];rfl)) (by first|rfl|(simp only[zaj,occH,occE,Res.ids,xag,List.nil_append,AV.idsL,AV.ids,zab,zaa,zac,zan,xae,List.map_nil,upC];rfl)) ?_;refine evs [62,91,122] [(82,false)] ?_ ⟨⟨_,rfl,h8⟩,trivial⟩;refine sq ?_ ?_<;>intro h10 h10p h10s<;>(try simp only[Q] at h10p);refine sqT ?_;refine rq ?_;rotate_left;refine xa9 un4 (.some rfl rfl h10) rfl rfl rfl ?_;refine evs [62,91,122] [(88,false)] ?_ ⟨⟨_,rfl,h10⟩,trivial⟩;refine sq ?_ ?_<;>intro h12 h12p h12s<;>(try simp only[Q] at h12p);refine rq ?_;rotate_left;refine Walk.call (cr:=[]) zod (zii (l:=[]) rfl) rfl .none rfl rfl (LeL.refl _) trivial rfl (by first|rfl|(simp only[zas,List.all_cons,List.all_nil,zaC,zay,AV.idsL,AV.ids,zab,zaa,xae,List.map_nil];rfl)) (by first|rfl|(simp only[zaj,occH,occE,Res.ids,xag,List.nil_append,AV.idsL,AV.ids,zab,zaa,zac,zan,xae,List.map_nil,upC];rfl)) ?_;refine evs [62,91,122] [] ?_;refine Walk.call (cr:=[]) zof (zcR (l:=[]) (k:=1) (by omega) (by simp[szL]) hnok) rfl .none rfl rfl (LeL.refl _) trivial rfl (by first|rfl|(simp only[zas,List.all_cons,List.all_nil,zaC,zay,AV.idsL,AV.ids,zab,zaa,xae,List.map_nil];rfl)) (by first|rfl|(simp only[zaj,occH,occE,Res.ids,xag,List.nil_append,AV.idsL,AV.ids,zab,zaa,zac,zan,xae,List.map_nil,upC];rfl)) ?_;refine evs [62,91,122] [] ?_;refine sq ?_ ?_<;>intro h13 h13p h13s<;>(try simp only[Q] at h13p);refine rq ?_;rotate_left;refine sq ?_ ?_<;>intro h14 h14p h14s<;>(try simp only[Q] at h14p);refine rq ?_;rotate_left;refine Walk.call (cr:=[]) zg1 (zct hs) rfl .none rfl rfl (LeL.refl _) trivial rfl (by first|rfl|(simp only[zas,List.all_cons,List.all_nil,zaC,zay,AV.idsL,AV.ids,zab,zaa,xae,List.map_nil];rfl)) (by first|rfl|(simp only[zaj,occH,occE,Res.ids,xag,List.nil_append,AV.idsL,AV.ids,zab,zaa,zac,zan,xae,List.map_nil,upC];rfl)) ?_;refine evd [62,91,122] [] ?_;refine Walk.call (cr:=[]) zg2 (zbY) rfl .none rfl rfl (LeL.refl _) trivial rfl (by first|rfl|(simp only[zas,List.all_cons,List.all_nil,zaC,zay,AV.idsL,AV.ids,zab,zaa,xae,List.map_nil];rfl)) (by first|rfl|(simp only[zaj,occH,occE,Res.ids,xag,List.nil_append,AV.idsL,AV.ids,zab,zaa,zac,zan,xae,List.map_nil,upC];rfl)) ?_;refine evd [62,91,122] [] ?_;refine Walk.call (cr:=[]) zg3 (zca hok) rfl .none rfl rfl (LeL.refl _) trivial rfl (by first|rfl|(simp only[zas,List.all_cons,List.all_nil,zaC,zay,AV.idsL,AV.ids,zab,zaa,xae,List.map_nil];rfl)) (by first|rfl|(simp only[zaj,occH,occE,Res.ids,xag,List.nil_append,AV.idsL,AV.ids,zab,zaa,zac,zan,xae,List.map_nil,upC];rfl)) ?_;refine evd [62,91,122] [] ?_;refine Walk.call (cr:=[]) zoe (himp) rfl .none rfl rfl (LeL.refl _) trivial rfl (by first|rfl|(simp only[zas,List.all_cons,List.all_nil,zaC,zay,AV.idsL,AV.ids,zab,zaa,xae,List.map_nil];rfl)) (by first|rfl|(simp only[zaj,occH,occE,Res.ids,xag,List.nil_append,AV.idsL,AV.ids,zab,zaa,zac,zan,xae,List.map_nil,upC];rfl)) ?_;refine evd [62,91,122] [] ?_;refine dr ?_;refine Walk.call (cr:=[]) zg4 (zbw (l:=[]) (m:=[]) hnok) rfl .none rfl rfl (LeL.refl _) trivial rfl (by first|rfl|(simp only[zas,List.all_cons,List.all_nil,zaC,zay,AV.idsL,AV.ids,zab,zaa,xae,List.map_nil];rfl)) (by first|rfl|(simp only[zaj,occH,occE,Res.ids,xag,List.nil_append,AV.idsL,AV.ids,zab,zaa,zac,zan,xae,List.map_nil,upC];rfl)) ?_;refine evs [62,91,122] [] ?_;refine sq ?_ ?_<;>intro h15 h15p h15s<;>(try simp only[Q] at h15p);refine sqT ?_;refine rq ?_;rotate_left;refine xa9 un4 (.some rfl rfl h15) rfl rfl rfl ?_;refine evs [62,91,122] [(119,false)] ?_ ⟨⟨_,rfl,h15⟩,trivial⟩;refine sq ?_ ?_<;>intro h17 h17p h17s<;>(try simp only[Q] at h17p);refine rq ?_;rotate_left;refine Walk.call (cr:=[]) zof (zcR (l:=[]) (k:=1) (by omega) (by simp[szL]) hnok) rfl .none rfl rfl (LeL.refl _) trivial rfl (by first|rfl|(simp only[zas,List.all_cons,List.all_nil,zaC,zay,AV.idsL,AV.ids,zab,zaa,xae,List.map_nil];rfl)) (by first|rfl|(simp only[zaj,occH,occE,Res.ids,xag,List.nil_append,AV.idsL,AV.ids,zab,zaa,zac,zan,xae,List.map_nil,upC];rfl)) ?_;refine evs [62,91,122] [] ?_;refine sq ?_ ?_<;>intro h18 h18p h18s<;>(try simp only[Q] at h18p);refine rq ?_;rotate_left;refine sq ?_ ?_<;>intro h19 h19p h19s<;>(try simp only[Q] at h19p);refine rq ?_;rotate_left;refine rq ?_;rotate_left;all_goals (first|rfl|(exfalso;simp_all[zgk,szL];done)|(exfalso;simp[zgk,szL] at *;omega))
theorem zu9:∀(pre:List Cl){x y:Cl}{post:List Cl},szL Cl.szM (pre++y::x::post)=szL Cl.szM (pre++x::y::post):=fun pre x y post=>by
 rw[zfk,zfk];simp only[szL];omega
theorem zf8 {w:List Data} (hs:WSmall w){a k i:Int}{cl:List Cl} (hok:ClsOk cl) (hz:ClsSz cl):
  FnD Tryz.prog 8 [.d (zam w),.agg [.d (.i a),.d (.i k)],.d (zbc cl),.d (.i i)] [] (.d (.bool true)) []:=by
 by_cases h:swOk w a k cl i
 ·obtain⟨h1,h2,h3,h4⟩:=h;obtain⟨j,rfl⟩:=Int.eq_ofNat_of_zero_le h2;obtain⟨pre,post,h5,h6⟩:=zsI (l:=cl) (i:=j) (by omega);rw[Int.toNat_natCast] at h4;generalize nth cl j=x at *;generalize nth cl (j+1)=y at *;subst h6;subst h5;have hro:ClsOk (pre++y::x::post):=⟨by have:=hok.1;simp at this ⊢;omega,fun c hc=>hok.2 c (by simp at hc ⊢;rcases hc with h|h|h|h<;>simp[h])⟩;have hown:=zie hs hok h1 h4;exact zjp hs hok (by simp) hro (zu9 pre) (zix hs hok hz h1 h4) (xav (r:= .tup [.ms 65 ((pre++y::x::post).map Cl.c).length,.d (.bool true)]) (xs:=(pre++y::x::post).map Cl.c) (k:=9) (m:=true) (zsk _) ⟨⟨rfl,rfl⟩,trivial,trivial⟩ hown) hown
 ·exact zjo hs hok (q:=false) (ziX hs hok hz h) (ziS hs hok h)
end Go.Proofs.YtlfipehhbdjnjaaGreat
namespace Go.Proofs.YtlfipehhbdjnjaaGreat
open Go Go.ChangeShapes Go.WideShapes Go.ChangeAt Go.RowKit
set_option linter.unusedSimpArgs false
set_option linter.unusedVariables false
set_option linter.unusedVariables false
def FW (W:World) (b:Nat):Nat:=match W.heap[b]? with
 |some (.cells cs _ _)=>cs.size
 |_=>0
theorem FW_cell {W:World}{b o:Nat}{v:Value} (h:W.cell? ⟨b,o,none⟩=some v):o<FW W b:=by
 unfold World.cell? at h;unfold FW;simp only at h;split at h
 ·rename_i c t fr hb;simp only[hb];simp only[Option.isSome_none,Bool.false_eq_true,if_false] at h;exact(Array.getElem?_eq_some_iff.1 h).1
 ·cases h
theorem FW_top {W:World}{b:Nat} (h:W.heap.size<=b):FW W b=0:=by
 unfold FW;rw[Array.getElem?_eq_none h]
structure RelL (W:World) (xs:List D) (cs:List Value):Prop where
 len:xs.length=cs.length
 rel:∀i (h1:i<xs.length) (h2:i<cs.length),RelD (FW W) W xs[i] cs[i]
theorem RelL.append {W:World}{xs ys:List D}{cs ds:List Value} (h:RelL W xs cs) (k:RelL W ys ds):RelL W (xs++ys) (cs++ds):=by
 refine⟨by simp[h.len,k.len],fun i h1 h2=>?_⟩;by_cases hi:i<xs.length
 ·rw[List.getElem_append_left hi,List.getElem_append_left (by rw[<-h.len];exact hi)];exact h.rel i hi (by rw[<-h.len];exact hi)
 ·have hl:=h.len;rw[List.getElem_append_right (by omega),List.getElem_append_right (by omega)];have e:i-xs.length=i-cs.length:=by omega
  have h1':i-xs.length<ys.length:=by simp only[xaa] at h1;omega
  have h2':i-cs.length<ds.length:=by simp only[xaa] at h2;omega
  have:=k.rel (i-xs.length) h1' (by omega);simp only[e] at this ⊢;exact this
def Dec (P:Program) (W:World) (n:Nat) (t:TypeId){α:Type} (f:α->List D) (m:α->Nat) (R:α->Prop):Prop:=
 ∀(H:Type) (enc:TypeId×Value->H) (cs:List Value) (x:DataW H×List MemPlace),DataW.trod enc P W 0 (fun _=>true) true n t cs=some x->
  ∃a,RelL W (f a) cs/\m a+1<=Rows.uptoBulk x.1/\R a
section
variable {P:Program}{W:World}{n:Nat}{t:TypeId}
theorem Dec.zero {α:Type}{f:α->List D}{m:α->Nat}{R:α->Prop}:Dec P W 0 t f m R:=fun H enc cs x h=>by simp[DataW.trod] at h
theorem Dec.map {α β:Type}{f:α->List D}{m:α->Nat}{R:α->Prop}{f':β->List D}{m':β->Nat}{R':β->Prop} (g:α->β) (h:Dec P W n t f m R)
  (h1:∀a,f' (g a)=f a) (h2:∀a,m' (g a)<=m a) (h3:∀a,R a->R' (g a)):Dec P W n t f' m' R':=fun H enc cs x hx=>by
 obtain⟨a,q1,q2,q3⟩:=h H enc cs x hx;exact⟨g a,by rw[h1];exact q1,by have:=h2 a;omega,h3 a q3⟩
theorem RelL.one {x:D}{v:Value} (h:RelD (FW W) W x v):RelL W [x] [v]:=
 ⟨rfl,fun i h1 h2=>by
  have:i=0:=by simp at h1;omega
  subst this;exact h⟩
theorem Dec.int {k:IntKind} (ht:P.underlying t=some (.int k)):Dec P W n t (fun z:Int=>[.int k z]) (fun _=>0) (fun z=>(Lit.int k z).wf=true):=fun H enc cs x h=>by
 obtain⟨z,rfl,rfl,hw⟩:=DataW.trod_int ht h;exact⟨z,.one (.int k z),by simp[Rows.uptoBulk],hw⟩
theorem Dec.bool (ht:P.underlying t=some .bool):Dec P W n t (fun z:Bool=>[.bool z]) (fun _=>0) (fun _=>True):=fun H enc cs x h=>by
 obtain⟨z,rfl,rfl⟩:=DataW.trod_bool ht h;exact⟨z,.one (.bool z),by simp[Rows.uptoBulk],trivial⟩
theorem Dec.str (ht:P.underlying t=some .string):Dec P W n t (fun s:Str=>[.str s]) (fun s=>s.length) (fun _=>True):=fun H enc cs x h=>by
 obtain⟨s,rfl,rfl,hw⟩:=DataW.trod_string ht h;exact⟨s.data.toList,.one (by have:=RelD.str (F:=FW W) (w:=W) s.data.toList;simpa using this),by simp[Rows.uptoBulk],trivial⟩
def sumM {α:Type} (m:α->Nat):List α->Nat
 | []=>0
 |a::r=>m a+1+sumM m r
theorem zgV {α:Type} (m:α->Nat):∀l:List α,l.length<=sumM m l
 | []=>by simp[sumM]
 |a::r=>by have:=zgV m r;simp only[sumM,xab];omega
theorem zfE {α:Type}{m:α->Nat}:∀ {l:List α}{a:α},a∈l->m a+1<=sumM m l
 |b::r,a,h=>by
  simp only[sumM];rcases List.mem_cons.1 h with rfl|h
  ·omega
  ·have:=zfE (m:=m) h;omega
theorem zks {α β:Type}{Q:Nat->α->β->Prop}:∀(l:List β) (o:Nat),(∀i (h:i<l.length),∃a,Q (o+i) a l[i])->∃zs:List α,zs.length=l.length/\∀i (h:i<l.length) (h':i<zs.length),Q (o+i) zs[i] l[i]
 | [],o,_=>⟨[],rfl,fun i h=>by simp at h⟩
 |b::r,o,h=>by
  obtain⟨a,ha⟩:=h 0 (by simp);obtain⟨zs,h1,h2⟩:=zks (Q:=Q) r (o+1) (fun i hi=>by
   have:=h (i+1) (by simp;omega);rw[show o+1+i=o+(i+1) by omega];simpa using this)
  refine⟨a::zs,by simp[h1],fun i hi hi'=>?_⟩;cases i with
  |zero=>exact ha
  |succ i=>
   have:=h2 i (by simpa using hi) (by simpa using hi');rw[show o+1+i=o+(i+1) by omega] at this;simpa using this
theorem zov {H α:Type}{m:α->Nat}:∀ {zs:List α}{xs:List (DataW H)},zs.length=xs.length->(∀i (h:i<zs.length) (h':i<xs.length),m zs[i]+1<=Rows.uptoBulk xs[i])->sumM m zs<=Rows.uptoBulkAll xs
 | [],[],_,_=>by simp[sumM,Rows.uptoBulkAll]
 |a::zs,x::xs,hl,h=>by
  have h0:=h 0 (by simp) (by simp);have ih:=zov (m:=m) (zs:=zs) (xs:=xs) (by simpa using hl) (fun i h1 h2=>by
   have:=h (i+1) (by simp;omega) (by simp;omega);simpa using this)
  simp only[sumM,Rows.uptoBulkAll];simp only[List.getElem_cons_zero] at h0;omega
 | [],_::_,hl,_=>by simp at hl
 |_::_,[],hl,_=>by simp at hl
theorem Dec.sl {α:Type}{f:α->List D}{m:α->Nat}{R:α->Prop}{e:TypeId}{k:Nat} (ht:P.underlying t=some (.slice e)) (hc:P.cellsOf e=k+1) (hk:∀a,(f a).length=k+1) (he:Dec P W n e f m R):
  Dec P W (n+1) t (fun l:List α=>[.sl (l.map f)]) (fun l=>sumM m l) (fun l=>∀a∈l,R a):=fun H enc cs x h=>by
 rcases DataW.trod_slice ht h with ⟨rfl,rfl⟩|⟨a,len,cap,elems,rest,n',hn,rfl,rfl,_,hcap,_,hlen,hel,_,_⟩
 ·exact⟨[],.one .nil,by simp[sumM,Rows.uptoBulk],fun a h=>by simp at h⟩
 obtain rfl:n=n':=by omega
 have each:∀i (hi:i<elems.length),∃y,(∃cs,W.cells? 0 (a.add (i*(k+1))) (k+1)=some cs/\RelL W (f y) cs)/\m y+1<=Rows.uptoBulk (elems[i]).1/\R y:=by
  intro i hi;have:=hel i (by omega);rw[hc,List.getElem?_eq_getElem hi,Option.bind_eq_some_iff] at this;obtain⟨cs,h1,h2⟩:=this;obtain⟨y,h3,h4,h5⟩:=he H enc cs _ h2;exact⟨y,⟨cs,h1,h3⟩,h4,h5⟩
 obtain⟨zs,hal,has⟩:=zks (Q:=fun i y (el:DataW H×List MemPlace)=>(∃cs,W.cells? 0 (a.add (i*(k+1))) (k+1)=some cs/\RelL W (f y) cs)/\m y+1<=Rows.uptoBulk el.1/\R y) elems 0 (fun i hi=>by simpa using each i hi);refine⟨zs,.one ?_, ?_,fun y hy=>?_⟩
 ·by_cases h0:zs=[]
  ·subst h0;have hz:len=0:=by simp at hal;omega
   subst hz;obtain⟨b,o,s⟩:=a;cases s with
   |none=>exact .sl [] 0 b o cap (fun _=>undef) (by simp) (by simp) (fun n hn=>by simp at hn) (fun i hi=>by simp at hi)
   |some s=>exact .emp b o s cap
  ·have hpos:0<zs.length:=List.length_pos_iff.2 h0;obtain⟨⟨cs0,hc0,hr0⟩,_⟩:=has 0 (by omega) hpos;have hspot:a.spot=none:=by
    have h1:=(World.cells?_some hc0).2.2 0 (by omega);have h2:0<cs0.length:=by have:=(World.cells?_some hc0).2.1;omega
    simp only[Nat.add_zero,Nat.zero_mul,Addr.add,if_true,List.getElem?_eq_getElem h2] at h1;unfold World.cell? at h1;split at h1
    ·cases hs:a.spot with
     |none=>rfl
     |some s=>simp[hs] at h1
    ·cases h1
   obtain⟨b,o,s⟩:=a;simp only at hspot;subst hspot;have hlen':(zs.map f).length=len:=by simp;omega
   have hmulk:∀i j,i<zs.length->j<k+1->i*(k+1)+j<zs.length*(k+1):=fun i j hi hj=>by
    have:(i+1)*(k+1)<=zs.length*(k+1):=Nat.mul_le_mul_right _ (by omega);rw[Nat.add_mul,Nat.one_mul] at this;omega
   have cellAt:∀i (hi:i<zs.length) j (hj:j<(f zs[i]).length),∃v,W.cell? ⟨b,o+(i*(k+1)+j),none⟩=some v/\RelD (FW W) W ((f zs[i])[j]) v:=fun i hi j hj=>by
    obtain⟨⟨cs,hc1,hr1⟩,_⟩:=has i (by omega) hi;have hjk:j<k+1:=by have:=hk zs[i];omega
    obtain⟨_,q1,q2⟩:=World.cells?_some hc1;have q3:=q2 j hjk;rw[List.getElem?_eq_getElem (by omega)] at q3;refine⟨cs[j], ?_,hr1.rel j hj (by omega)⟩;rw[<-q3];congr 1
    simp only[Nat.zero_add,Addr.add];split<;>split<;>simp_all<;>omega
   have hv:((zs.map f).length,cap)=(len,cap):=by rw[hlen']
   have goal:RelD (FW W) W (.sl (zs.map f)) (.slice (some ⟨b,o,none⟩) (zs.map f).length cap):=by
    refine .sl _ (k+1) b o cap (fun q=>(W.cell? ⟨b,o+q,none⟩).getD undef) (fun y hy=>?_) (by omega) (fun q hq=>?_) (fun i hi j hj=>?_)
    ·obtain⟨y',_,rfl⟩:=List.mem_map.1 hy;exact hk y'
    ·have hq':q<zs.length*(k+1):=by simpa using hq
     have hi:q / (k+1)<zs.length:=Nat.div_lt_of_lt_mul (by rw[Nat.mul_comm];exact hq');have hj:q % (k+1)<k+1:=Nat.mod_lt _ (by omega);obtain⟨v,h1,_⟩:=cellAt _ hi (q % (k+1)) (by rw[hk];exact hj);rw[Nat.div_add_mod'] at h1;exact⟨FW_cell h1,by rw[h1];rfl⟩
    ·have hi':i<zs.length:=by simpa using hi
     simp only[List.getElem_map] at hj ⊢;obtain⟨v,h1,h2⟩:=cellAt i hi' j hj;show RelD (FW W) W _ ((W.cell? ⟨b,o+(i*(k+1)+j),none⟩).getD undef)
     rw[h1];exact h2
   rw[hlen'] at goal;exact goal
 ·have:=zov (m:=m) (zs:=zs) (xs:=elems.map (·.1)) (by simp[hal]) (fun i h1 h2=>by
   have:=(has i (by simpa using h2) h1).2.1;simpa using this)
  simp only[Rows.uptoBulk];omega
 ·obtain⟨i,hi,rfl⟩:=List.getElem_of_mem hy;exact(has i (by omega) hi).2.2
def DecF (P:Program) (W:World) (n o K:Nat) (fs:List Field){α:Type} (f:α->List D) (m:α->Nat) (R:α->Prop):Prop:=
 ∀(H:Type) (enc:TypeId×Value->H) (cs:List Value) (xs:List (DataW H×List MemPlace)),cs.length=K->xs.length=fs.length->
  (∀(i:Nat) (fd:Field),fs[i]?=some fd->DataW.trod enc P W 0 (fun _=>true) true n fd.type ((cs.drop fd.offset).take (P.cellsOf fd.type))=xs[i]?)->
  ∃a,RelL W (f a) (cs.drop o)/\m a<=Rows.uptoBulkAll (xs.map (·.1))/\R a
theorem DecF.nil {K:Nat}:DecF P W n K K [] (fun _:Unit=>[]) (fun _=>0) (fun _=>True):=fun H enc cs xs h1 h2 _=>
 ⟨(),by rw[List.drop_of_length_le (by omega)];exact⟨rfl,fun i h=>by simp at h⟩,by simp,trivial⟩
theorem DecF.cons {α β:Type}{f:α->List D}{m:α->Nat}{R:α->Prop}{f2:β->List D}{m2:β->Nat}{R2:β->Prop}{o K k:Nat}{fd:Field}{fs:List Field}
  (h1:Dec P W n fd.type f m R) (ho:fd.offset=o) (hc:P.cellsOf fd.type=k) (h2:DecF P W n (o+k) K fs f2 m2 R2):
  DecF P W n o K (fd::fs) (fun p:α×β=>f p.1++f2 p.2) (fun p=>m p.1+1+m2 p.2) (fun p=>R p.1/\R2 p.2):=fun H enc cs xs hK hl hx=>by
 cases xs with
 |nil=>simp at hl
 |cons y ys=>
  have h0:=hx 0 fd (by simp);simp only[List.getElem?_cons_zero] at h0;rw[ho,hc] at h0;obtain⟨a,q1,q2,q3⟩:=h1 H enc _ _ h0;obtain⟨b,r1,r2,r3⟩:=h2 H enc cs ys hK (by simpa using hl) (fun i fd' hi=>by
   have:=hx (i+1) fd' (by simpa using hi);simpa using this)
  refine⟨(a,b), ?_, ?_,q3,r3⟩
  ·have:cs.drop o=(cs.drop o).take k++cs.drop (o+k):=by
    rw[<-List.drop_drop,List.take_append_drop]
   rw[this];exact q1.append r1
  ·simp only[xae,Rows.uptoBulkAll];omega
theorem Dec.struct {α:Type}{f:α->List D}{m:α->Nat}{R:α->Prop}{fs:Array Field} (ht:P.underlying t=some (.struct fs)){K:Nat} (hK:P.cellsOf t=K) (h:DecF P W n 0 K fs.toList f m R):
  Dec P W (n+1) t f m R:=fun H enc cs x hx=>by
 obtain⟨xs,n',hn,rfl,hl,hxl,hf⟩:=DataW.trod_struct ht hx;obtain rfl:n=n':=by omega
 obtain⟨a,q1,q2,q3⟩:=h H enc cs xs (by omega) (by simpa using hxl) (fun i fd hi=>hf i fd (by simpa using hi));refine⟨a,by simpa using q1, ?_,q3⟩;simp only[Rows.uptoBulk];omega
end
section
variable {P:Program}{W:World}{base:Nat}{t:TypeId}{v:Value}{H:Type}{enc:TypeId×Value->H}{d:DataW H}{ps:List MemPlace}
theorem zqX {α:Type}{e:TypeId}{f:α->List D}{m:α->Nat}{R:α->Prop}{k:Nat} (ht:P.underlying t=some (.slice e)) (hc:P.cellsOf e=k+1) (hk:∀a,(f a).length=k+1) (hd:∀n,Dec P W n e f m R)
  (hval:Value.okWide P W .any base t v) (h:DataW.Trod enc P W 0 (fun _=>true) true t v d ps):
  ∃l:List α,(∀G T,G.F=FW W->RelA G T W (.d (.sl (l.map f))) v)/\sumM m l+1<=Rows.uptoBulk d/\∀a∈l,R a:=by
 obtain⟨n,hn⟩:=h;cases n with
 |zero=>simp[DataW.trod] at hn
 |succ n=>
  obtain⟨l,h1,h2,h3⟩:=Dec.sl ht hc hk (hd n) H enc _ _ hn;have hcells:v.cells.toList=[v]:=by
   cases v with
   |agg cs=>simp only[Value.okWide,ht,Cell.okWide,Cell.ok] at hval
   |_=>rfl
  rw[hcells] at h1;exact⟨l,fun G T hG=> .d (by rw[hG];simpa using h1.rel 0 (by simp) (by simp)),h2,h3⟩
theorem ztk {k:IntKind} (ht:P.underlying t=some (.int k)) (hval:Value.okWide P W .any base t v) (h:DataW.Trod enc P W 0 (fun _=>true) true t v d ps):
  ∃n:Int,(∀G T,G.F=FW W->RelA G T W (.d (.int k n)) v)/\(Lit.int k n).wf=true:=by
 obtain⟨n,hn⟩:=h;obtain⟨s,h1,h2,h3⟩:=Dec.int ht H enc _ _ hn;have hcells:v.cells.toList=[v]:=by
  cases v with
  |agg cs=>simp only[Value.okWide,ht,Cell.okWide,Cell.ok] at hval
  |_=>rfl
 rw[hcells] at h1;exact⟨s,fun G T hG=> .d (by rw[hG];simpa using h1.rel 0 (by simp) (by simp)),h3⟩
theorem zqs {α:Type}{f:α->List D}{m:α->Nat}{R:α->Prop}{fs:Array Field} (ht:P.underlying t=some (.struct fs)) (hd:∀n,Dec P W n t f m R)
  (hval:Value.okWide P W .any base t v) (h:DataW.Trod enc P W 0 (fun _=>true) true t v d ps):
  ∃a:α,(∀G T,G.F=FW W->RelA G T W (.agg ((f a).map .d)) v)/\m a+1<=Rows.uptoBulk d/\R a:=by
 obtain⟨n,hn⟩:=h;obtain⟨a,h1,h2,h3⟩:=hd n H enc _ _ hn;simp only[Value.okWide,ht] at hval;obtain⟨cs,rfl,_,_⟩:=hval;refine⟨a,fun G T hG=> .agg (by have:=h1.len;simp[Value.cells] at this ⊢;omega) (fun i hi hv=>?_),h2,h3⟩;have hi':i<(f a).length:=by simpa using hi
 have:=h1.rel i hi' (by simpa [Value.cells] using hv);simp only[List.getElem_map];exact .d (by rw[hG];simpa [Value.cells] using this)
end
section
variable {P:Program}{H:Type}{enc:TypeId×Value->H}
theorem ziR (hl:laidOutB P=true){W W':World} (hb:Below W.heap.size W W'):∀ {ts:List TypeId}{vs:List Value}{ds:List (DataW H)}{ps:List MemPlace},
  (∀t∈ts,P.readableRec t=true/\t<P.types.size)->DataW.TrodAll enc P W 0 (fun _=>true) true ts vs ds ps->(∀x∈ps,x.block<W.heap.size)->
  DataW.TrodAll enc P W' 0 (fun b=>decide (b<W.heap.size)) true ts vs ds ps
 | [],[],[],ps,_,h,_=>h
 |t::ts,v::vs,d::ds,ps,hr,h,hlt=>by
  obtain⟨p,q,h1,h2,rfl⟩:=h;exact⟨p,q,Below.trod hl (hr t (by simp)).1 (hr t (by simp)).2 h1 hb (fun x hx=>hlt x (by simp[hx])),
   ziR hl hb (fun t ht=>hr t (by simp[ht])) h2 (fun x hx=>hlt x (by simp[hx])),rfl⟩
theorem zss {f:Func}{s:ChangeSpec}{W W':World}{args:Array Value}{ds gs:List (DataW H)}{before:List MemPlace}{tb:TypeId}
  (hW:DataW.Whole enc P f.params.toList s.vars false W args.toList ds gs before) (hvars:s.vars=[]) (hrt:f.resultTypes = #[tb]) (htb:P.underlying tb=some .bool)
  (hs:s.fn H (ds++gs)={ results:=[.lit (.bool true)],args:=ds }) (hl:laidOutB P=true) (hr:∀t∈f.params.toList,P.readableRec t=true/\t<P.types.size)
  (hb:Below W.heap.size W W'):s.post enc P f false true false false W args (.bool true) W':=by
 have hlt:∀p∈before,p.block<W.heap.size:=fun p hp=>hW.lt p hp;have hW0:=hW;obtain⟨p,q,hA,hV,rfl,hfz,_⟩:=hW;rw[hvars] at hV;cases gs with
 |cons g gs=>exact hV.elim
 |nil=>
  have hq:q=[]:=hV;subst hq;simp only[List.append_nil] at *;refine⟨ds,[],p,[],p,[],by simpa [hvars] using hW0, ?_, ?_, ?_,World.keptBut_mono (fun x hx=>⟨hx,.inr (.inl hx)⟩) (hb.frame (·∈p)),fun h=>by cases h⟩
  ·simp only[List.append_nil,hs,hrt];exact trodAll_cons_mk (shut_bool htb _) trodAll_mk0
  ·simp only[List.append_nil,hs];exact ziR hl hb hr hA hlt
  ·simp only[hvars,List.append_nil,hs];rfl
theorem zrK {f:FuncId}{avs:List AV}{W:World}{args:Array Value}{r:AV} (hf:FnD P f avs [] r [])
  (hargs:∀G T,G.F=FW W->AllR G T W avs args):Calls P f args W fun e W'=>∃v G',e = .returned v/\RelA G' (fun _=>none) W' r v/\Below W.heap.size W W':=by
 let G:Gh:={ F:=FW W,loc:=fun _=>[] }
 refine(hf G W args ⟨hargs G _ rfl,fun id r h=>(by simp[getH] at h),fun id id' h=>(by simp[getH] at h),fun b hb=>FW_top hb⟩).mono ?_;rintro e W' ⟨v,r',hp',G',rfl,⟨rfl,rfl⟩,h⟩
 exact⟨v,G',rfl,h.res,⟨h.frm.os,h.frm.tape,h.frm.output,h.frm.size,fun b hb=>(h.frm.block b hb (by simp[zbE])).1⟩⟩
theorem RelA.bool_true {G:Gh}{T:TokF}{w:World}{v:Value} (h:RelA G T w (.d (.bool true)) v):v = .bool true:=by
 cases h with|d h=>cases h;rfl
theorem zsi {H:Type}{l:List (DataW H)} (hk:Rows.uptoSmall H l=true):Rows.uptoBulkAll l<=1048576:=of_decide_eq_true hk
end
end Go.Proofs.YtlfipehhbdjnjaaGreat
namespace Go.Proofs.YtlfipehhbdjnjaaGreat
open Go Go.ChangeShapes Go.WideShapes Go.ChangeAt Go.RowKit
set_option linter.unusedSimpArgs false
set_option linter.unusedVariables false
set_option maxRecDepth 100000
theorem zdP (W:World) (n:Nat):Dec Tryz.prog W n 3 (fun z:Int=>[.i z]) (fun _=>0) (fun _=>True):=Dec.map (f:=fun z:Int=>[D.i z]) (R:=fun z=>(Lit.int .i64 z).wf=true) id (Dec.int Tryz.underlying3) (fun _=>rfl) (fun _=>Nat.le_refl _) (fun _ _=>trivial)
theorem zrB (W:World) (n:Nat):Dec Tryz.prog W n 9 (fun s:Str=>[.str s]) (fun s=>s.length) (fun _=>True):=Dec.str Tryz.underlying9
theorem zs4 (W:World):∀n,Dec Tryz.prog W n 61 Ty.c (fun _=>0) (fun _=>True)
 |0=>Dec.zero
 |n+1=>Dec.map (fun p:Int×Int×Unit=>(⟨p.1,p.2.1⟩:Ty)) (Dec.struct Tryz.underlying61 (by kernel_rfl) (DecF.cons (k:=1) (zdP W n) rfl (by kernel_rfl) (DecF.cons (k:=1) (zdP W n) rfl (by kernel_rfl) DecF.nil))) (fun _=>rfl) (fun _=>Nat.zero_le _) (fun _ _=>trivial)
theorem zuJ (W:World):∀n,Dec Tryz.prog W n 307 (fun l:List Ty=>[zbk l]) (fun l=>l.length) (fun _=>True)
 |0=>Dec.zero
 |n+1=>Dec.map id (Dec.sl (k:=1) Tryz.underlying307 (by kernel_rfl) (fun _=>rfl) (zs4 W n)) (fun _=>rfl) (fun l=>zgV _ l) (fun _ _=>trivial)
def zh5 (c:Ctor):Nat:=c.name.length+c.args.length
theorem ztt (W:World):∀n,Dec Tryz.prog W n 309 Ctor.c zh5 (fun _=>True)
 |0=>Dec.zero
 |n+1=>Dec.map (fun p:Str×List Ty×Int×Unit=>(⟨p.1,p.2.1,p.2.2.1⟩:Ctor)) (Dec.struct Tryz.underlying309 (by kernel_rfl) (DecF.cons (k:=1) (zrB W n) rfl (by kernel_rfl) (DecF.cons (k:=1) (zuJ W n) rfl (by kernel_rfl) (DecF.cons (k:=1) (zdP W n) rfl (by kernel_rfl) DecF.nil))))
   (fun _=>rfl) (fun p=>by simp only[zh5];omega) (fun _ _=>trivial)
theorem zso (W:World):∀n,Dec Tryz.prog W n 120 (fun l:List Ctor=>[zbX l]) (fun l=>sumM zh5 l) (fun _=>True)
 |0=>Dec.zero
 |n+1=>Dec.map id (Dec.sl (k:=2) Tryz.underlying120 (by kernel_rfl) (fun _=>rfl) (ztt W n)) (fun _=>rfl) (fun l=>Nat.le_refl _) (fun _ _=>trivial)
def zgZ (d:Data):Nat:=d.name.length+sumM zh5 d.ctors
theorem ztu (W:World):∀n,Dec Tryz.prog W n 122 Data.c zgZ (fun _=>True)
 |0=>Dec.zero
 |n+1=>Dec.map (fun p:Str×List Ctor×Unit=>(⟨p.1,p.2.1⟩:Data)) (Dec.struct Tryz.underlying122 (by kernel_rfl) (DecF.cons (k:=1) (zrB W n) rfl (by kernel_rfl) (DecF.cons (k:=1) (zso W n) rfl (by kernel_rfl) DecF.nil)))
   (fun _=>rfl) (fun p=>by simp only[zgZ];omega) (fun _ _=>trivial)
theorem zse {w:List Data}{N:Nat} (h:sumM zgZ w+1<=N) (hN:N<=1048576):WSmall w:=by
 refine⟨by have:=zgV zgZ w;omega,fun d hd=>?_,fun d hd c hc=>?_⟩
 ·have h1:=zfE (m:=zgZ) hd;have h2:=zgV zh5 d.ctors;simp only[zgZ] at h1;omega
 ·have h1:=zfE (m:=zgZ) hd;have h2:=zfE (m:=zh5) hc;simp only[zgZ] at h1;simp only[zh5] at h2;omega
theorem Vals.ok_size:∀(n:Nat) (l:List Val),Vals.size l<=n->n<=1048576->l.length<=1048576/\Vals.ok l:=by
 intro n;induction n with
 |zero=>
  intro l h hn;cases l with
  |nil=>exact⟨by simp,trivial⟩
  |cons x r=>simp only[Vals.size,Val.size_eq] at h;omega
 |succ n ih=>
  intro l;induction l with
  |nil=>intro _ _;exact⟨by simp,trivial⟩
  |cons x r ihr=>
   intro h hn;simp only[Vals.size] at h;have hx:=Val.size_eq x;have h1:=ih x.kids (by omega) (by omega);have h2:=ih r (by omega) (by omega);refine⟨?_,(Val.ok_iff x).2 ⟨by have:=h1.1;omega,h1.2⟩,h2.2⟩;have:∀l:List Val,l.length<=Vals.size l:=by
    intro l;induction l with
    |nil=>simp
    |cons y s ihs=>simp only[Vals.size,xab,Val.size_eq];omega
   have:=this r;simp only[xab];omega
theorem zuI (W:World):∀n,Dec Tryz.prog W n 126 Pat.cc (fun v=>Pats.size v.kids) (fun _=>True):=by
 intro n;induction n using Nat.strongRecOn with
 |_ n ih=>
  cases n with
  |zero=>exact Dec.zero
  |succ n=>
   have hk:Dec Tryz.prog W n 124 (fun l:List Pat=>[.sl (l.map Pat.cc)]) (fun l=>Pats.size l) (fun _=>True):=by
    cases n with
    |zero=>exact Dec.zero
    |succ n=>
     refine Dec.map id (Dec.sl (k:=5) Tryz.underlying124 (by kernel_rfl) (fun _=>rfl) (ih n (by omega))) (fun _=>rfl) (fun l=>?_) (fun _ _=>trivial);have:∀l:List Pat,Pats.size l<=sumM (fun v=>Pats.size v.kids) l:=by
      intro l;induction l with
      |nil=>simp[Pats.size,sumM]
      |cons a r ih2=>simp only[Pats.size,sumM,Pat.size_eq];omega
     exact this l
   refine Dec.map (fun p:Int×Int×Int×Int×Int×List Pat×Unit=>Pat.mk p.1 p.2.1 p.2.2.1 p.2.2.2.1 p.2.2.2.2.1 p.2.2.2.2.2.1) (Dec.struct Tryz.underlying126 (by kernel_rfl) (DecF.cons (k:=1) (zdP W n) rfl (by kernel_rfl) (DecF.cons (k:=1) (zdP W n) rfl (by kernel_rfl) (DecF.cons (k:=1) (zdP W n) rfl (by kernel_rfl) (DecF.cons (k:=1) (zdP W n) rfl (by kernel_rfl) (DecF.cons (k:=1) (zdP W n) rfl (by kernel_rfl) (DecF.cons (k:=1) hk rfl (by kernel_rfl) DecF.nil))))))) (fun p=>?_) (fun p=>?_) (fun _ _=>trivial)
   ·show [D.i _,D.i _,D.i _,D.i _,D.i _,D.sl (Pat.cs _)]=_
    rw[show Pat.cs (Pat.mk p.1 p.2.1 p.2.2.1 p.2.2.2.1 p.2.2.2.2.1 p.2.2.2.2.2.1).kids=p.2.2.2.2.2.1.map Pat.cc by rw[Pat.cs_eq];exact List.map_congr_left (fun v _=>Pat.c_eq v)];rfl
   ·show Pats.size p.2.2.2.2.2.1<=0+1+(0+1+(0+1+(0+1+(0+1+(Pats.size p.2.2.2.2.2.1+1+0)))))
    omega
theorem Pats.ok_size:∀(n:Nat) (l:List Pat),Pats.size l<=n->n<=1048576->l.length<=1048576/\Pats.ok l:=by
 intro n;induction n with
 |zero=>
  intro l h hn;cases l with
  |nil=>exact⟨by simp,trivial⟩
  |cons x r=>simp only[Pats.size,Pat.size_eq] at h;omega
 |succ n ih=>
  intro l;induction l with
  |nil=>intro _ _;exact⟨by simp,trivial⟩
  |cons x r ihr=>
   intro h hn;simp only[Pats.size] at h;have hx:=Pat.size_eq x;have h1:=ih x.kids (by omega) (by omega);have h2:=ih r (by omega) (by omega);refine⟨?_,(Pat.ok_iff x).2 ⟨by have:=h1.1;omega,h1.2⟩,h2.2⟩;have:∀l:List Pat,l.length<=Pats.size l:=by
    intro l;induction l with
    |nil=>simp
    |cons y s ihs=>simp only[Pats.size,xab,Pat.size_eq];omega
   have:=this r;simp only[xab];omega
theorem zrT {v:Pat} (h:Pats.size v.kids<=1048576):v.ok:=by
 have:=Pats.ok_size _ _ (Nat.le_refl _) h;exact(Pat.ok_iff v).2 ⟨by omega,this.2⟩
def bCl (c:Cl):Nat:=Pats.size c.pat.kids
theorem zu3 (W:World):∀n,Dec Tryz.prog W n 127 (fun g:Gd=>[.i g.op,.i g.var,.i g.n]) (fun _=>0) (fun _=>True)
 |0=>Dec.zero
 |n+1=>Dec.map (fun p:Int×Int×Int×Unit=>(⟨p.1,p.2.1,p.2.2.1⟩:Gd)) (Dec.struct Tryz.underlying127 (by kernel_rfl) (DecF.cons (k:=1) (zdP W n) rfl (by kernel_rfl) (DecF.cons (k:=1) (zdP W n) rfl (by kernel_rfl) (DecF.cons (k:=1) (zdP W n) rfl (by kernel_rfl) DecF.nil)))) (fun _=>rfl) (fun _=>Nat.zero_le _) (fun _ _=>trivial)
theorem zu2 (W:World):∀n,Dec Tryz.prog W n 129 Cl.c bCl (fun _=>True)
 |0=>Dec.zero
 |n+1=>Dec.map (fun p:Pat×Gd×Unit=>(⟨p.1,p.2.1⟩:Cl)) (Dec.struct Tryz.underlying129 (by kernel_rfl) (DecF.cons (k:=6) (zuI W n) rfl (by kernel_rfl) (DecF.cons (k:=3) (zu3 W n) rfl (by kernel_rfl) DecF.nil))) (fun _=>rfl) (fun p=>by simp only[bCl];omega) (fun _ _=>trivial)
theorem zrw {l:List Cl} (h:sumM bCl l<=1048576):ClsOk l/\ClsSz l:=by
 refine⟨⟨by have:=zgV bCl l;omega,fun c hc=>?_⟩,fun c hc=>?_⟩
 ·have h1:=zfE (m:=bCl) hc;simp only[bCl] at h1;exact zrT (by omega)
 ·have h1:=zfE (m:=bCl) hc;simp only[bCl] at h1;rw[Pat.size_eq];omega
end Go.Proofs.YtlfipehhbdjnjaaGreat
namespace Go.Proofs.YtlfipehhbdjnjaaGreat.fnExactSwapClauses
open Go Go.ChangeShapes Go.WideShapes Go.ChangeAt Go.RowKit
set_option linter.unusedSimpArgs false
set_option linter.unusedVariables false
theorem own:ownKnob Tryz.prog.godebug=none:=by kernel_rfl
theorem laidOut:laidOutB Tryz.prog=true:=by kernel_rfl
set_option maxRecDepth 100000 in
theorem contract (H:Type) (enc:TypeId×Value→H) (W:World) (base:Nat) (args:Array Value) (ds gs:List (DataW H)) (before:List MemPlace)
  (hval:∀(j:Nat) t v,Tryz.f8.params[j]?=some t→args[j]?=some v→Value.okWide Tryz.prog W .any base t v)
  (hW:DataW.Whole enc Tryz.prog Tryz.f8.params.toList Rows.fnExactSwapClausesSpec.vars false W args.toList ds gs before) (hk:Rows.uptoSmall H (ds++gs)=true):
  Calls Tryz.prog 8 args W fun e W'=>∃v,e = .returned v∧Rows.fnExactSwapClausesSpec.post enc Tryz.prog Tryz.f8 false true false false W args v W':=by
 have hb:=zsi hk
 have hW':=hW
 obtain⟨p,q,hA0,hV,rfl,hfz,hnd⟩:=hW
 have hA:DataW.TrodAll enc Tryz.prog W 0 (fun _=>true) true Tryz.f8.params.toList args.toList ds p:=hA0
 rw[Tryz.params8] at hA hval
 obtain⟨v0,vs0,d0,ds0,p0,q0,hargs,rfl,rfl,h0,r0⟩:=trodAll_cons hA
 obtain⟨v1,vs1,d1,ds1,p1,q1,rfl,rfl,rfl,h1,r1⟩:=trodAll_cons r0
 obtain⟨v2,vs2,d2,ds2,p2,q2,rfl,rfl,rfl,h2,r2⟩:=trodAll_cons r1
 obtain⟨v3,vs3,d3,ds3,p3,q3,rfl,rfl,rfl,h3,r3⟩:=trodAll_cons r2
 obtain⟨rfl,rfl,rfl⟩:=trodAll_nil r3
 obtain rfl:args = #[v0,v1,v2,v3]:=by cases args;simp_all
 obtain⟨rfl,rfl⟩:=trodVars_none hV
 simp only[List.append_nil,Rows.uptoBulkAll] at hb
 obtain⟨w,a0,b0,_⟩:=zqX (k:=1) Tryz.underlying60 (by kernel_rfl) (fun _=>rfl) (ztu W) (hval 0 _ v0 rfl rfl) h0
 obtain⟨t,a1,b1,_⟩:=zqs Tryz.underlying61 (zs4 W) (hval 1 _ v1 rfl rfl) h1
 obtain⟨l,a2,b2,_⟩:=zqX (k:=8) Tryz.underlying62 (by kernel_rfl) (fun _=>rfl) (zu2 W) (hval 2 _ v2 rfl rfl) h2
 obtain⟨i,a3,c3⟩:=ztk Tryz.underlying3 (hval 3 _ v3 rfl rfl) h3
 have hs:WSmall w:=zse b0 (by omega)
 obtain⟨ok_l,sz_l⟩:=zrw (l:=l) (by omega)
 refine(zrK ((zf8 hs (a:=t.data) (k:=t.index) (i:=i) ok_l sz_l)) (W:=W) (args:=#[v0,v1,v2,v3]) (fun G T hG=>⟨rfl,fun i hi hv=>?_⟩)).mono ?_
 ·match i,hi with
  |0,_=>exact a0 G T hG
  |1,_=>exact a1 G T hG
  |2,_=>exact a2 G T hG
  |3,_=>exact a3 G T hG
 ·rintro e W' ⟨v,G',rfl,hr,hbelow⟩
  obtain rfl:=hr.bool_true
  exact⟨_,rfl,zss hW' rfl rfl Tryz.underlying4 rfl laidOut (fun t ht=>by
   simp only[Tryz.params8,List.mem_cons,List.not_mem_nil,or_false] at ht
   rcases ht with rfl|rfl|rfl|rfl<;>exact⟨by kernel_rfl,of_decide_eq_true (by kernel_rfl)⟩) hbelow⟩
set_option maxRecDepth 100000 in
theorem lifted (os:Os) (started:os.Started) (H:Type) (enc:TypeId×Value→H) (F:Stop.Interp):
  ReturnsInHanded {} Tryz.checked os 8 .any ((Rows.OpenSpec.upto Rows.fnExactSwapClausesSpec).pre6 enc Tryz.prog Tryz.f8 Rows.fnExactSwapClausesUptoRow.domain false) (((Rows.OpenSpec.upto Rows.fnExactSwapClausesSpec).at F).post enc Tryz.prog Tryz.f8 false true false false):=by
 refine returnsInHanded_of_cond (C:=Tryz.checked) (s:=Rows.OpenSpec.upto Rows.fnExactSwapClausesSpec) (k:=Rows.uptoSmall) rfl own started (by kernel_rfl) Tryz.func8
  (OpenSpec.witness (enc:=enc) (C:=Tryz.checked) (s:=Rows.OpenSpec.upto Rows.fnExactSwapClausesSpec) (k:=Rows.uptoSmall) rfl false ⟨#[],#[.slice none 0 0,.agg #[.int .i64 0,.int .i64 0],.slice none 0 0,.int .i64 0],[]⟩ 8 (by kernel_rfl) (by kernel_rfl) (by kernel_rfl)
   (x:=([.nil,.agg [.lit (.int .i64 0),.lit (.int .i64 0)],.nil,.lit (.int .i64 0)],[],[])) (by kernel_rfl) rfl (by kernel_rfl)) ?_
 intro W base args ds gs before hval hW _ hk _
 exact contract H enc W base args ds gs before hval hW hk
theorem kf1:(Rows.fnExactSwapClausesUptoRow.inPlace == Tryz.pinned.checked.prog.inPlace 8)=true:=by kernel_rfl
theorem kf2:(Rows.fnExactSwapClausesUptoRow.unfollowed == Tryz.pinned.checked.prog.unfollowed 8)=true:=by kernel_rfl
theorem kf3:(Rows.fnExactSwapClausesUptoRow.recurses == Tryz.pinned.checked.prog.recurses 8)=true:=by kernel_rfl
theorem kf4:(Rows.fnExactSwapClausesUptoRow.named == Tryz.pinned.checked.prog.varsNamed 8)=true:=by kernel_rfl
theorem kf5:laidOutB Tryz.pinned.checked.prog=true:=by kernel_rfl
theorem kf6:mapsRowed Tryz.pinned.checked.prog=true:=by kernel_rfl
theorem kf7:Tryz.pinned.checked.prog.stopsHeard=true:=by kernel_rfl
theorem kf8:Tryz.pinned.checked.prog.mayEnter=true:=by kernel_rfl
theorem kf9:(Rows.fnExactSwapClausesUptoRow.lifted == Tryz.pinned.checked.prog.liftsFinal)=true:=by kernel_rfl
theorem kf0:(Rows.fnExactSwapClausesUptoRow.plainKeys == Tryz.pinned.checked.prog.plainKeys)=true:=by kernel_rfl
theorem facts:joinedFacts Tryz.pinned.checked.prog 8 Tryz.f8 (Rows.OpenSpec.upto Rows.fnExactSwapClausesSpec).bare Rows.fnExactSwapClausesUptoRow=true:=by
 unfold joinedFacts
 rw[kf1,kf2,kf3,kf4,kf5,kf6,kf7,kf8,kf9,kf0]
 kernel_rfl
theorem named:Tryz.pinned.checked.prog.funcNamed Rows.fnExactSwapClausesUptoRow.func=some 8:=by kernel_rfl
theorem over:Rows.fnExactSwapClausesUptoRow.holds Tryz.pinned (Rows.OpenSpec.upto Rows.fnExactSwapClausesSpec):=
 OpenClaim.holds_of_cond 8 Tryz.f8 rfl rfl rfl rfl rfl rfl rfl ⟨rfl,rfl,rfl,rfl,rfl⟩ rfl rfl rfl rfl rfl named Tryz.func8 facts
  (of_decide_eq_true (by as_aux_lemma=>kernel_rfl)) (by as_aux_lemma=>unfold Func.isWrapper;first|(rw[if_pos (by decide +kernel)];kernel_rfl)|(rw[if_neg (by decide +kernel)];exact⟨rfl,rfl⟩))
  (fun os started H enc _ F=>lifted os started H enc F)
theorem proved:Rows.FnExactSwapClausesUptoSaid:=over
end Go.Proofs.YtlfipehhbdjnjaaGreat.fnExactSwapClauses
