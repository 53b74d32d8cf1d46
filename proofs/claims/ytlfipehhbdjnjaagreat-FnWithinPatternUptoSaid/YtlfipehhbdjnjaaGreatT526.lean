/-
  THE LAW FnWithinPattern: whatever the arguments of bulk at most 1048576 are, the call returns true, and the arguments read as before.
  Conditions: the bulk alone.
-/
import Derived.Test.YtlfipehhbdjnjaaGreatT525
namespace Go.Proofs.YtlfipehhbdjnjaaGreat
open Go
set_option linter.unusedSimpArgs false
set_option linter.unusedVariables false
set_option maxRecDepth 100000
set_option maxHeartbeats 2000000
theorem zxY {w:List Data} (hd:Dp w):∀s,zaf w s<=100000:=zk1 hd (k:=w.length*4+1) (s:=0) (by have:=hd.four;omega) (by omega) (pre:=[]) (by simp)
theorem zwH {w:List Data}{n:Nat}{t:Ty} (h:t.data = -1):zc1 w (n+1) t = .mk (-1) 0 []:=by unfold zc1;rw[if_pos h]
theorem zwI {w:List Data}{n:Nat}{t:Ty} (h:¬t.data = -1){c:Int} (hc:zdD w t=c):zc1 w (n+1) t = .mk c 0 ((zaa w t c).map (zc1 w n)):=by
 conv=>lhs;unfold zc1
 rw[if_neg h,hc]
theorem zwG {w:List Data}{t:Ty}{pre:List Int}{y:Int} (h:∀x∈pre,hitC w t x=false) (h2:¬(most w (zaf w) t y:Int)=(dv (zaf w) t:Int)):∀x∈pre++[y],hitC w t x=false:=fun x hx=>by
 rcases List.mem_append.1 hx with hx|hx
 ·exact h x hx
 ·rw[List.mem_singleton.1 hx];exact decide_eq_false (fun e=>h2 (by rw[e]))
theorem zvp {w:List Data} (hd:Dp w){n:Nat}{t:Ty} (h:Dq w n t) (hne:¬t.data = -1) (h1:∀x∈zai w t,hitC w t x=false):False:=by
 obtain⟨h2,h3⟩:=zjh hd h hne;have h4:=h1 _ h2;unfold hitC at h4;exact of_decide_eq_false h4 h3
theorem zvq {w:List Data}{t:Ty}{y:Int} (h2:(most w (zaf w) t y:Int)=(dv (zaf w) t:Int)):hitC w t y=true:=decide_eq_true (by omega)
theorem zn0 {w:List Data} (hw:WT w){n:Nat}{f:Nat->Nat}{a k c:Int} (ht:TyIn w.length ⟨a,k⟩) (hc:c∈zai w ⟨a,k⟩) (hn:n<=16) (hb:∀s,f s<=100000) (hin:∀u∈zaa w ⟨a,k⟩ c,InS n u):
  FnD Tryz.prog 235 [.d (dPtr f),.d (zam w),.agg [.d (.i a),.d (.i k)],.d (.i c)] [] (.d (.i (most w f ⟨a,k⟩ c))) []:=by
 have hl:=zfm hw ht hc;have hd:=zmy hb (by omega);refine bd Tryz.f235 33 [] [] fun w0 F0 own kept hk=>?_;refine bx 3006 ?_;refine ev ?_;refine wc zek (zbE hw ht hc) rfl rfl ?_;refine ev ?_;refine xak (ι:=List (Ty)×List (Ty)×(Nat)) hk (fun x=>[(18,.d (.i (x.1.length:Int))),(9,.d (.i (x.2.2:Int)))]) [8,11,12,19,20,21,22,23,24,25,26,27,28,29,30] (fun x=>[]) (fun x=>x.1++x.2.1=zaa w ⟨a,k⟩ c/\x.2.2<=100000/\zbn f x.2.2 x.2.1=zbn f 0 (zaa w ⟨a,k⟩ c)) (fun x=>x.2.1.length) ([],zaa w ⟨a,k⟩ c,0) ⟨by simp,by simp,rfl⟩ ⟨⟨_,rfl,xaq ?_⟩,⟨⟨_,rfl,xaq ?_⟩,trivial⟩⟩ trivial (fun x=>rfl) (fun x hg1=>?_);iterate 2 focus (first|rfl|(simp;done)|omega|(dsimp only;omega)|(dsimp only;split<;>omega))
 obtain⟨pre,rest,m⟩:=x;dsimp only at hg1 ⊢;refine evc [] [] ?_;refine sq ?_ ?_<;>intro h1 h1p h1s<;>(try simp only[Q] at h1p);rcases rest with _|⟨y,rest⟩
 ·exfalso;simp_all
 have hdy:=hd y;have hye:dv f ⟨y.data,y.index⟩=dv f y:=rfl;refine xaU zaV .none rfl rfl rfl rfl (zaL hg1.1) rfl ?_;refine ev ?_;refine ab 3011 tz25 ?_;refine so ty25 ?_;refine tv ?_;refine wc zfn (zeA (f:=f) (a:=y.data) (k:=y.index) (hin y (by rw[<-hg1.1];simp)) hn) rfl rfl ?_;refine ev ?_;refine sq ?_ ?_<;>intro h2 h2p h2s<;>(try simp only[Q] at h2p);refine rq ?_;rotate_left;refine xa3 .none rfl rfl rfl ?_;refine ev ?_;refine ar ?_;refine xah ((pre++[y],rest,max m (dv f y))) ⟨⟨(by have hz:=hg1.1;rw[<-hz];simp),⟨(by have:=hd y;dsimp only;omega),(by rw[<-hg1.2.2];simp only[zbn];rw[if_neg (by have:=hd y;omega)])⟩⟩,(by simp),sx ⟨⟨_,rfl,xaq ?_⟩,⟨⟨_,rfl,xaq ?_⟩,trivial⟩⟩ trivial⟩;iterate 2 focus (first|rfl|(simp;done)|omega|(dsimp only;omega)|(dsimp only;split<;>omega))
 have hrest:rest=[]:=by
  rcases rest with _|⟨a,b⟩
  ·rfl
  ·exfalso;have hz:=congrArg List.length (hg1.1);simp only[xaa,xab,xac] at hz;omega
 subst hrest;refine ar ?_;refine rq ?_;rotate_left;all_goals (refine congrArg D.i ?_;unfold most;rw[<-hg1.2.2];first|(simp only[zbn];rw[if_pos (by omega)];rfl)|(simp only[zbn];omega))
theorem zgJ {w:List Data} (hs:Spa w):∀(n:Nat){a k:Int},Dq w n ⟨a,k⟩->FnD Tryz.prog 142 [.d (zam w),.d (dPtr (zaf w)),.agg [.d (.i a),.d (.i k)]] [] (.agg [.d (.i (zc1 w n ⟨a,k⟩).ctor),.d (.i (zc1 w n ⟨a,k⟩).num),.d (zbC (zc1 w n ⟨a,k⟩).kids)]) []
 |0,a,k,h=>by have:=h.pos;have:=h.le;omega
 |n+1,a,k,h=>by
  have hd:=hs.dp;have ht:=zbD h.ins;have h4:=hd.four;have hfb:=zxY hd;have hcl:=zfM hd.wt ht;have w1:=zwH (w:=w) (n:=n) (t:=⟨a,k⟩);have w2:=fun hne c hc=>zwI (w:=w) (n:=n) (t:=⟨a,k⟩) hne (c:=c) hc;have hkid:=fun hne=>zoQ hd h hne;have hall:=fun hne=>zvp hd h hne;have hal:=fun c hc=>hs.args ⟨a,k⟩ c h.ins hc;refine bd Tryz.f142 57 [] [] fun w0 F0 own kept hk=>?_;refine bx 3005 ?_;refine ab 3006 tz49 ?_;refine tv ?_;refine sq ?_ ?_<;>intro h1 h1p h1s<;>(try simp only[Q,Int.natCast_inj] at h1p);refine wc zpZ (zfU (n:=0)) rfl rfl ?_;refine so ty49 ?_;refine tv ?_;refine rn0 (.cons (.cellA ty49 rfl rfl rfl) .nil) (.agg (.cons (.eqd ?_) (.cons (.eqd ?_) (.cons (.eqd ?_) .nil))));rotate_left 3;refine wc zgo (zdC hd.wt ht) rfl rfl ?_;refine ev ?_;refine xak (ι:=List (Int)×List (Int)) hk (fun x=>[(20,.d (.i (x.1.length:Int)))]) [8,9,11,21,22,23,24,25,26,27,28,29,30,31,32,33,34,35,36,37,38,39,40,41,42,43,44,45,46,47,48,49,50,51,52,53,54,55] (fun x=>[]) (fun x=>x.1++x.2=zai w ⟨a,k⟩/\∀q∈x.1,hitC w ⟨a,k⟩ q=false) (fun x=>x.2.length) ([],zai w ⟨a,k⟩) ⟨by simp,by simp⟩ ⟨⟨_,rfl,xaq ?_⟩,trivial⟩ trivial (fun x=>rfl) (fun x hg1=>?_);focus (first|rfl|(simp;done)|omega)
  obtain⟨pre,rest⟩:=x;dsimp only at hg1 ⊢;refine evc [] [] ?_;refine sq ?_ ?_<;>intro h2 h2p h2s<;>(try simp only[Q,Int.natCast_inj] at h2p);rcases rest with _|⟨y,rest⟩
  ·exfalso;simp_all
  refine xaU sl29 .none rfl rfl rfl rfl (zaL hg1.1) rfl ?_;refine ev ?_;refine wc ztM (zn0 hd.wt ht (c:=y) (by rw[<-hg1.1];simp) (by omega) hfb (za7 hd h.ins (by rw[<-hg1.1];simp))) rfl rfl ?_;refine evd [] [] ?_;refine wc zfn (zeA h.ins (by omega)) rfl rfl ?_;refine evd [] [] ?_;refine dr ?_;refine sq ?_ ?_<;>intro h3 h3p h3s<;>(try simp only[Q,Int.natCast_inj] at h3p);refine ar ?_;refine xah ((pre++[y],rest)) ⟨⟨(by have hz:=hg1.1;rw[<-hz];simp),(zwG hg1.2 (by omega))⟩,(by simp),sx ⟨⟨_,rfl,xaq ?_⟩,trivial⟩ trivial⟩;focus (first|rfl|(simp;done)|omega)
  have hcy:zdD w ⟨a,k⟩=y:=zus hg1.1 hg1.2 (zvq (by omega));have hal2:=hal y (by rw[<-hg1.1];simp);refine bu [0] [_] st49 ?_;refine ab 3009 tz49 ?_;refine so ty49 ?_;refine tv ?_;refine wc zek (zbE hd.wt ht (by rw[<-hg1.1];simp)) rfl rfl ?_;refine ev ?_;refine xan 3009 2 7 3 rfl rfl rfl rfl ?_;refine xak (ι:=List (Ty)×List (Ty)) hk (fun x=>[(40,.d (.i (x.1.length:Int)))]) [11,41,42,43,44,45,46,47,48,49,50,51,52,53] (fun x=>[(3009,some (.box [.d (.i y),.d (.i 0),.gl 7 ((x.1.map (zc1 w n)).map Val.cc)])),(7,some (.tok ((x.1.map (zc1 w n)).map Val.cc).length 3))]) (fun x=>x.1++x.2=zaa w ⟨a,k⟩ y) (fun x=>x.2.length) ([],zaa w ⟨a,k⟩ y) (by simp) ⟨⟨_,rfl,xaq ?_⟩,trivial⟩ ⟨?_,⟨zab ?_,trivial⟩⟩ (fun x=>rfl) (fun x hg2=>?_);focus (first|rfl|(simp;done)|omega|(simp;omega))
  focus (first|rfl|(simp[getH];done))
  focus (first|rfl|(simp;done)|omega|(simp;omega))
  obtain⟨pre2,rest2⟩:=x;dsimp only at hg2 ⊢;refine evc [] [] ?_;refine sq ?_ ?_<;>intro h4 h4p h4s<;>(try simp only[Q,Int.natCast_inj] at h4p);rcases rest2 with _|⟨z,rest2⟩
  ·exfalso;simp_all
  refine xaU zaV .none rfl rfl rfl rfl (zaL hg2) rfl ?_;refine ev ?_;refine ab 3011 tz25 ?_;refine so ty25 ?_;refine tv ?_;refine wc zpY (zgJ hs n (a:=z.data) (k:=z.index) (hkid (by omega) z (by rw[hcy,<-hg2];simp))) rfl rfl ?_;refine si [0] [_] sl47 tz49 ?_;refine ap sl47 zz49 rfl rfl rfl (by simp) (by have hz:=congrArg List.length hg2;simp at hz ⊢;omega) ?_;refine evd [] [] ?_;refine so ty47 ?_;refine dr ?_;refine ar ?_;refine xah ((pre2++[z],rest2)) ⟨(by have hz:=hg2;rw[<-hz];simp),(by simp),sx ⟨⟨_,rfl,xaq ?_⟩,trivial⟩ ⟨?_,⟨zab ?_,trivial⟩⟩⟩;focus (first|rfl|(simp;done)|omega|(simp;omega))
  focus (first|rfl|(simp[getH];done))
  focus (first|rfl|(simp;done)|omega|(simp;omega))
  have hrest2:rest2=[]:=by
   rcases rest2 with _|⟨a,b⟩
   ·rfl
   ·exfalso;have hz:=congrArg List.length (hg2);simp only[xaa,xab,xac] at hz;omega
  subst hrest2;refine so ty49 ?_;refine tv ?_;refine rn0 (.cons (.cellA ty49 rfl rfl rfl) .nil) (.agg (.cons (.eqd ?_) (.cons (.eqd ?_) (.cons (.gld ?_) .nil))));rotate_left 3;have hrest:rest=[]:=by
   rcases rest with _|⟨a,b⟩
   ·rfl
   ·exfalso;have hz:=congrArg List.length (hg1.1);simp only[xaa,xab,xac] at hz;omega
  subst hrest;refine bu [] [] st49 ?_;refine so ty49 ?_;refine tv ?_;refine rn0 (.cons (.cellA ty49 rfl rfl rfl) .nil) (.agg (.cons (.eqd ?_) (.cons (.eqd ?_) (.cons (.nild ?_) .nil))));rotate_left 3;all_goals (first|(rw[w1 (by omega)];all_goals rfl)|(rw[w2 (by omega) y hcy];all_goals first|rfl|(rw[List.append_nil] at hg2;rw[<-hg2];first|rfl|(rw[Val.cs_cc];rfl)|(rw[Val.cs_cc];done)))|(exfalso;rw[List.append_nil] at hg1;exact hall (by omega) (by rw[<-hg1.1];exact hg1.2)))
theorem zhX {w:List Data} (hd:Dp w):∀(n:Nat){a k:Int}{p:Pat},zao w n ⟨a,k⟩ p=true->InS (w.length*4) ⟨a,k⟩->p.ok->
  FnD Tryz.prog 69 [.d (sPtr w (zaf w)),.agg [.d (.i a),.d (.i k)],.agg [.d (.i p.op),.d (.i p.ctor),.d (.i p.n),.d (.i p.m),.d (.i p.var),.d (zad p.kids)]] [] (.d (.bool (zcb w n ⟨a,k⟩ p))) []
 |0,a,k,p,h,_,_=>by simp[zao] at h
 |n+1,a,k,p,h,hi,hok=>by
  rw[Pat.ok_iff] at hok;have hw4:=hd.four;have ht:=zbD hi;have pk:=zpL (k:=k) h;obtain⟨ho,hlen⟩:=zbq h;have hkid:=fun i (hi:i<p.kids.length)=>zbs h hi;have hsT:zco w ⟨a,k⟩ p=zac w ⟨a,k⟩ p:=by
   unfold zco;rw[if_neg (fun h=>h.2 (pk.mem h.1))]
  have hkt:=zhu hd.wt (p:=p) ht;rw[hsT] at hkt;have hins:=zu3 hd h hi;have htl:(zac w ⟨a,k⟩ p).length<=1000000000000:=by have:=hok.1;omega
  have hops:=pk.ops;refine bd Tryz.f69 46 [] [] fun w0 F0 own kept hk=>?_;refine bx 3004 ?_;refine bx 3005 ?_;refine ev ?_;refine sq ?_ ?_<;>intro h1 h1p h1s<;>(try simp only[Q,Pat.cs_len] at h1p);refine sqT ?_;refine wc zfn (zeA (n:=w.length*4) hi (by omega)) rfl rfl ?_;refine evd [] [] ?_;refine dr ?_;refine rq ?_;rotate_left;refine sq ?_ ?_<;>intro h3 h3p h3s<;>(try simp only[Q,Pat.cs_len] at h3p);refine wc zfn (zeA (n:=w.length*4) hi (by omega)) rfl rfl ?_;refine evd [] [] ?_;refine dr ?_;refine rq ?_;rotate_left;refine wc zpX (hkt) rfl rfl ?_;refine evd [] [] ?_;refine dr ?_;refine xak (ι:=Nat) hk (fun i=>[(32,.d (.i (i:Int)))]) [6,7,8,33,34,35,36,37,38,39,40,41,42,43,44,45] (fun i=>[]) (fun i=>i<=(zac w ⟨a,k⟩ p).length/\∀i',i'<i->zcb w n (nth (zac w ⟨a,k⟩ p) i') (nth p.kids i')=false) (fun i=>(zac w ⟨a,k⟩ p).length-i) 0 ⟨by omega,fun _ h=>absurd h (by omega)⟩ ⟨⟨_,rfl,xaq ?_⟩,trivial⟩ trivial (fun x=>rfl) (fun i hg1=>?_);focus (first|rfl|(simp;done)|(simp_all;done)|omega)
  refine evc [] [] ?_;refine sq ?_ ?_<;>intro h4 h4p h4s<;>(try simp only[Q,Pat.cs_len] at h4p);refine xaU zaV .none rfl rfl rfl rfl (zas (by omega)) rfl ?_;refine ev ?_;refine ab 3008 tz25 ?_;refine ev ?_;refine so ty25 ?_;refine tv ?_;refine xaU sl34 .none rfl rfl rfl rfl (zay (by omega)) rfl ?_;refine evd [] [] ?_;refine wc zsP (zhX hd n (hkid i (by omega)) (hins i (by omega)) (Pats.ok_mem hok.2 _ (zae (by omega)))) rfl rfl ?_;refine dr ?_;refine sq ?_ ?_<;>intro h5 h5p h5s<;>(try simp only[Q,Pat.cs_len] at h5p);refine rq ?_;rotate_left;refine ar ?_;refine xah (i+1) ⟨⟨by omega,za6 hg1.2 (by assumption)⟩,(by omega),sx ⟨⟨_,rfl,xaq ?_⟩,trivial⟩ trivial⟩;focus (first|rfl|(simp;done)|(simp_all;done)|omega)
  refine rq ?_;rotate_left;all_goals (refine congrArg D.bool ?_;rw[zi4];first|(rw[if_pos (by omega)];exact decide_eq_decide.2 (by omega))|(rw[if_neg (by omega)];first|(rw[zbQ (i:=i) (by omega) (by omega) (by show(!_)=false;rw[Bool.not_eq_false'];assumption)];rfl)|(rw[zbz (by omega) (fun x hx=>by have:=hg1.2 x (by omega);simp_all)];rfl)))
theorem zb6 {w:List Data} (hs:Spa w):∀(n:Nat){a k:Int}{p:Pat},n<=10->zao w n ⟨a,k⟩ p=true->InS (w.length*4) ⟨a,k⟩->p.ok->zaB w (zaf w) n ⟨a,k⟩ p=false->zcb w n ⟨a,k⟩ p=false->
  FnD Tryz.prog 70 [.d (sPtr w (zaf w)),.agg [.d (.i a),.d (.i k)],.agg [.d (.i p.op),.d (.i p.ctor),.d (.i p.n),.d (.i p.m),.d (.i p.var),.d (zad p.kids)]] [] (.agg [.d (.i (zaN w n ⟨a,k⟩ p).ctor),.d (.i (zaN w n ⟨a,k⟩ p).num),.d (zbC (zaN w n ⟨a,k⟩ p).kids)]) []
 |0,a,k,p,_,h,_,_,_,_=>by simp[zao] at h
 |n+1,a,k,p,hn,h,hi,hok,he,hdp=>by
  rw[Pat.ok_iff] at hok;have hd:=hs.dp;have hw4:=hd.four;have ht:=zbD hi;have pk:=zpL (k:=k) h;obtain⟨ho,hlen⟩:=zbq h;have hkid:=fun i (hi:i<p.kids.length)=>zbs h hi;have hk1:=pk.one;have hk2:=pk.two;have l5:=pk.len5;have hops:=pk.ops;have hl6:p.op=6->p.kids.length=1:=fun h6=>(zcQ h h6).1;have hdq:p.op=1\/p.op=2->Dq w 10 ⟨a,k⟩:=fun h1=>by
   have h8:=zqh h1 hdp;rw[zbO,if_pos h1] at he;have:=of_decide_eq_false he;exact⟨hi,by omega,h8⟩
  by_cases h4:p.op=4
  ·have c1:=pk.mem h4;have hdk:=ze3 (by omega) hdp hlen.symm;rw[zaU h4] at hlen hkid hdk;rw[zbO,if_neg (by omega),if_neg (by omega),zaU h4] at he;have ha:all2 (fun u q=> !zaB w (zaf w) n u q) (zaa w ⟨a,k⟩ p.ctor) p.kids=true:=by simpa using he
   have hek:=fun i (hi2:i<p.kids.length)=>(by have:=zcG hlen.symm ha i (by omega);simpa using this:zaB w (zaf w) n (nth (zaa w ⟨a,k⟩ p.ctor) i) (nth p.kids i)=false);have ih:=fun i (hi2:i<p.kids.length)=>zb6 hs n (a:=(nth (zaa w ⟨a,k⟩ p.ctor) i).data) (k:=(nth (zaa w ⟨a,k⟩ p.ctor) i).index) (p:=nth p.kids i) (by omega) (hkid i hi2) (za7 hd hi c1 _ (zae (by omega))) (Pats.ok_mem hok.2 _ (zae hi2)) (hek i hi2) (hdk i hi2);have hal:=hs.args ⟨a,k⟩ p.ctor hi c1;have hzl:=zhN (f:=zaN w n) hlen.symm;have hzt:=fun i (hi2:i<(zaa w ⟨a,k⟩ p.ctor).length)=>zu9 (f:=zaN w n) hlen.symm hi2;have hsv:=zq9 (w:=w) (n:=n) (t:=⟨a,k⟩) h4;generalize hZ:zipV (zaN w n) (zaa w ⟨a,k⟩ p.ctor) p.kids=Z at *;refine bd Tryz.f70 94 [] [] fun w0 F0 own kept hk=>?_;refine bx 3004 ?_;refine bx 3005 ?_;refine ab 3006 tz49 ?_;refine tv ?_;refine sq ?_ ?_<;>intro h1 h1p h1s<;>(try simp only[Q,Pat.cs_len] at h1p);refine sq ?_ ?_<;>intro h2 h2p h2s<;>(try simp only[Q,Pat.cs_len] at h2p);exfalso;omega;refine sq ?_ ?_<;>intro h3 h3p h3s<;>(try simp only[Q,Pat.cs_len] at h3p);exfalso;omega;refine sq ?_ ?_<;>intro h4 h4p h4s<;>(try simp only[Q,Pat.cs_len] at h4p);exfalso;omega;refine sq ?_ ?_<;>intro h5 h5p h5s<;>(try simp only[Q,Pat.cs_len] at h5p);exfalso;omega;refine bu [0] [_] st49 ?_;refine ab 3007 tz49 ?_;refine so ty49 ?_;refine tv ?_;refine wc zek (zbE hd.wt ht c1) rfl rfl ?_;refine evd [] [] ?_;refine dr ?_;refine xan 3007 2 7 3 rfl rfl rfl rfl ?_;refine xak (ι:=Nat) hk (fun i=>[(74,.d (.i (i:Int)))]) [8,9,75,76,77,78,79,80,81,82,83,84,85,86,87,88,89,90,91,92] (fun i=>[(3007,some (.box [.d (.i p.ctor),.d (.i 0),.gl 7 ((Z.take i).map Val.cc)])),(7,some (.tok ((Z.take i).map Val.cc).length 3))]) (fun i=>i<=(zaa w ⟨a,k⟩ p.ctor).length) (fun i=>(zaa w ⟨a,k⟩ p.ctor).length-i) 0 (by omega) ⟨⟨_,rfl,xaq ?_⟩,trivial⟩ ⟨?_,⟨zab ?_,trivial⟩⟩ (fun x=>rfl) (fun i hg1=>?_);focus (first|rfl|(simp;done)|omega|(rw[hzt i (by omega)];simp;done)|(simp;omega))
   focus (first|rfl|(simp[getH];done)|(rw[hzt i (by omega)];simp[getH];done))
   focus (first|rfl|(simp;done)|omega|(rw[hzt i (by omega)];simp;done)|(simp;omega))
   refine evc [] [] ?_;refine sq ?_ ?_<;>intro h6 h6p h6s<;>(try simp only[Q,Pat.cs_len] at h6p);refine xaU zaV .none rfl rfl rfl rfl (zas (by omega)) rfl ?_;refine ev ?_;refine ab 3009 tz25 ?_;refine ev ?_;refine so ty25 ?_;refine tv ?_;refine xaU sl34 .none rfl rfl rfl rfl (zay (by omega)) rfl ?_;refine evd [] [] ?_;refine wc zgU (ih i (by omega)) rfl rfl ?_;refine si [0] [_] sl47 tz49 ?_;refine ap sl47 zz49 rfl rfl rfl (by simp) (by simp;omega) ?_;refine evd [] [] ?_;refine so ty47 ?_;refine dr ?_;refine ar ?_;refine xah (i+1) ⟨(by omega),(by omega),sx ⟨⟨_,rfl,xaq ?_⟩,trivial⟩ ⟨?_,⟨zab ?_,trivial⟩⟩⟩;focus (first|rfl|(simp;done)|omega|(rw[hzt i (by omega)];simp;done)|(simp;omega))
   focus (first|rfl|(simp[getH];done)|(rw[hzt i (by omega)];simp[getH];done))
   focus (first|rfl|(simp;done)|omega|(rw[hzt i (by omega)];simp;done)|(simp;omega))
   refine so ty49 ?_;refine tv ?_;refine rn0 (.cons (.cellA ty49 rfl rfl rfl) .nil) (.agg (.cons (.eqd ?_) (.cons (.eqd ?_) (.cons (.gld ?_) .nil))));rotate_left 3;refine sq ?_ ?_<;>intro h7 h7p h7s<;>(try simp only[Q,Pat.cs_len] at h7p);exfalso;omega;refine sq ?_ ?_<;>intro h8 h8p h8s<;>(try simp only[Q,Pat.cs_len] at h8p);exfalso;omega;refine sq ?_ ?_<;>intro h9 h9p h9s<;>(try simp only[Q,Pat.cs_len] at h9p);exfalso;omega;refine sq ?_ ?_<;>intro h10 h10p h10s<;>(try simp only[Q,Pat.cs_len] at h10p);exfalso;omega;refine bu [0] [_] st49 ?_;refine ab 3007 tz49 ?_;refine so ty49 ?_;refine tv ?_;refine wc zek (zbE hd.wt ht c1) rfl rfl ?_;refine evd [] [] ?_;refine dr ?_;refine xan 3007 2 7 3 rfl rfl rfl rfl ?_;refine xak (ι:=Nat) hk (fun i=>[(74,.d (.i (i:Int)))]) [8,9,75,76,77,78,79,80,81,82,83,84,85,86,87,88,89,90,91,92] (fun i=>[(3007,some (.box [.d (.i p.ctor),.d (.i 0),.gl 7 ((Z.take i).map Val.cc)])),(7,some (.tok ((Z.take i).map Val.cc).length 3))]) (fun i=>i<=(zaa w ⟨a,k⟩ p.ctor).length) (fun i=>(zaa w ⟨a,k⟩ p.ctor).length-i) 0 (by omega) ⟨⟨_,rfl,xaq ?_⟩,trivial⟩ ⟨?_,⟨zab ?_,trivial⟩⟩ (fun x=>rfl) (fun i hg1=>?_);focus (first|rfl|(simp;done)|omega|(rw[hzt i (by omega)];simp;done)|(simp;omega))
   focus (first|rfl|(simp[getH];done)|(rw[hzt i (by omega)];simp[getH];done))
   focus (first|rfl|(simp;done)|omega|(rw[hzt i (by omega)];simp;done)|(simp;omega))
   refine evc [] [] ?_;refine sq ?_ ?_<;>intro h11 h11p h11s<;>(try simp only[Q,Pat.cs_len] at h11p);refine xaU zaV .none rfl rfl rfl rfl (zas (by omega)) rfl ?_;refine ev ?_;refine ab 3009 tz25 ?_;refine ev ?_;refine so ty25 ?_;refine tv ?_;refine xaU sl34 .none rfl rfl rfl rfl (zay (by omega)) rfl ?_;refine evd [] [] ?_;refine wc zgU (ih i (by omega)) rfl rfl ?_;refine si [0] [_] sl47 tz49 ?_;refine ap sl47 zz49 rfl rfl rfl (by simp) (by simp;omega) ?_;refine evd [] [] ?_;refine so ty47 ?_;refine dr ?_;refine ar ?_;refine xah (i+1) ⟨(by omega),(by omega),sx ⟨⟨_,rfl,xaq ?_⟩,trivial⟩ ⟨?_,⟨zab ?_,trivial⟩⟩⟩;focus (first|rfl|(simp;done)|omega|(rw[hzt i (by omega)];simp;done)|(simp;omega))
   focus (first|rfl|(simp[getH];done)|(rw[hzt i (by omega)];simp[getH];done))
   focus (first|rfl|(simp;done)|omega|(rw[hzt i (by omega)];simp;done)|(simp;omega))
   refine so ty49 ?_;refine tv ?_;refine rn0 (.cons (.cellA ty49 rfl rfl rfl) .nil) (.agg (.cons (.eqd ?_) (.cons (.eqd ?_) (.cons (.gld ?_) .nil))));rotate_left 3;all_goals (rw[hsv];all_goals first|rfl|(rw[Val.cs_cc,List.take_of_length_le (by omega)];done)|(rw[Val.cs_cc,List.take_of_length_le (by omega)];rfl))
  ·have h3v:=zq8 (w:=w) (n:=n) (t:=⟨a,k⟩) (p:=p);have h1v:=zlX (w:=w) (n:=n) (t:=⟨a,k⟩) (p:=p);have h6v:=zra (w:=w) (n:=n) (t:=⟨a,k⟩) (p:=p);have h5a:=zpa (w:=w) (n:=n) (t:=⟨a,k⟩) (p:=p);have h5b:=zpb (w:=w) (n:=n) (t:=⟨a,k⟩) (p:=p);have hT6:p.op=6->zaB w (zaf w) n ⟨a,k⟩ (nth p.kids 0)=false:=fun h6=>by rw[<-zqk h6 (zcQ h h6).1];exact he
   have hT5:p.op=5->zaB w (zaf w) n ⟨a,k⟩ (nth p.kids 0)=true->zaB w (zaf w) n ⟨a,k⟩ (nth p.kids 1)=false:=fun h5 e0=>by
    rw[zbO,if_neg (by omega),if_pos h5,e0,Bool.true_and] at he;exact he
   have hD5:p.op=5->zcb w n ⟨a,k⟩ (nth p.kids 0)=false/\zcb w n ⟨a,k⟩ (nth p.kids 1)=false:=fun h5=>by
    have e5:zac w ⟨a,k⟩ p=[⟨a,k⟩,⟨a,k⟩]:=by unfold zac;rw[if_neg (by omega),if_pos h5]
    have hdk:=ze3 (by omega) hdp hlen.symm;rw[e5] at hdk;have:=l5 h5;exact⟨hdk 0 (by omega),hdk 1 (by omega)⟩
   have hD6:p.op=6->zcb w n ⟨a,k⟩ (nth p.kids 0)=false:=fun h6=>by
    have e6:zac w ⟨a,k⟩ p=[⟨a,k⟩]:=by unfold zac;rw[if_neg (by omega),if_neg (by omega),if_pos (by omega)]
    have hdk:=ze3 (by omega) hdp hlen.symm;rw[e6] at hdk;exact hdk 0 (by rw[hl6 h6];omega)
   refine bd Tryz.f70 94 [] [] fun w0 F0 own kept hk=>?_;refine bx 3004 ?_;refine bx 3005 ?_;refine ab 3006 tz49 ?_;refine tv ?_;refine sq ?_ ?_<;>intro h1 h1p h1s<;>(try simp only[Q,Pat.cs_len] at h1p);refine sq ?_ ?_<;>intro h2 h2p h2s<;>(try simp only[Q,Pat.cs_len] at h2p);refine wc zpY (zgJ hs 10 (hdq (by omega))) rfl rfl ?_;refine so ty49 ?_;refine dr ?_;refine rn0 (.cons (.cellA ty49 rfl rfl rfl) .nil) (.agg (.cons (.eqd ?_) (.cons (.eqd ?_) (.cons (.eqd ?_) .nil))));rotate_left 3;refine sq ?_ ?_<;>intro h3 h3p h3s<;>(try simp only[Q,Pat.cs_len] at h3p);refine wc zpZ (zfU (n:=p.n)) rfl rfl ?_;refine so ty49 ?_;refine tv ?_;refine rn0 (.cons (.cellA ty49 rfl rfl rfl) .nil) (.agg (.cons (.eqd ?_) (.cons (.eqd ?_) (.cons (.eqd ?_) .nil))));rotate_left 3;refine sq ?_ ?_<;>intro h4 h4p h4s<;>(try simp only[Q,Pat.cs_len] at h4p);refine xaU (i:=0) sl34 .none rfl rfl rfl rfl (zay (by first|(have:=l5 (by omega);omega)|(have:=hl6 (by omega);omega))) rfl ?_;refine evd [] [] ?_;refine wc zgU (zb6 hs n (by omega) (hk1 (by omega)) hi (Pats.ok_mem hok.2 _ (zae (i:=0) (by have:=hl6 (by omega);omega))) (hT6 (by omega)) (hD6 (by omega))) rfl rfl ?_;refine so ty49 ?_;refine dr ?_;refine rn0 (.cons (.cellA ty49 rfl rfl rfl) .nil) (.agg (.cons (.eqd ?_) (.cons (.eqd ?_) (.cons (.eqd ?_) .nil))));rotate_left 3;refine sq ?_ ?_<;>intro h5 h5p h5s<;>(try simp only[Q,Pat.cs_len] at h5p);refine xaU (i:=0) sl34 .none rfl rfl rfl rfl (zay (by first|(have:=l5 (by omega);omega)|(have:=hl6 (by omega);omega))) rfl ?_;refine evd [] [] ?_;refine wc zfo (zbP hd n (hk1 (by omega)) hi (Pats.ok_mem hok.2 _ (zae (i:=0) (by omega)))) rfl rfl ?_;refine dr ?_;refine sq ?_ ?_<;>intro h6 h6p h6s<;>(try simp only[Q,Pat.cs_len] at h6p);refine xaU (i:=1) sl34 .none rfl rfl rfl rfl (zay (by first|(have:=l5 (by omega);omega)|(have:=hl6 (by omega);omega))) rfl ?_;refine evd [] [] ?_;refine wc zgU (zb6 hs n (by omega) (hk2 (by omega)) hi (Pats.ok_mem hok.2 _ (zae (i:=1) (by have:=l5 (by omega);omega))) (hT5 (by omega) (by simp_all)) (hD5 (by omega)).2) rfl rfl ?_;refine so ty49 ?_;refine dr ?_;refine rn0 (.cons (.cellA ty49 rfl rfl rfl) .nil) (.agg (.cons (.eqd ?_) (.cons (.eqd ?_) (.cons (.eqd ?_) .nil))));rotate_left 3;refine xaU (i:=0) sl34 .none rfl rfl rfl rfl (zay (by first|(have:=l5 (by omega);omega)|(have:=hl6 (by omega);omega))) rfl ?_;refine evd [] [] ?_;refine wc zgU (zb6 hs n (by omega) (hk1 (by omega)) hi (Pats.ok_mem hok.2 _ (zae (i:=0) (by have:=l5 (by omega);omega))) (by simp_all) (hD5 (by omega)).1) rfl rfl ?_;refine so ty49 ?_;refine dr ?_;refine rn0 (.cons (.cellA ty49 rfl rfl rfl) .nil) (.agg (.cons (.eqd ?_) (.cons (.eqd ?_) (.cons (.eqd ?_) .nil))));rotate_left 3;exfalso;omega;refine sq ?_ ?_<;>intro h7 h7p h7s<;>(try simp only[Q,Pat.cs_len] at h7p);refine wc zpY (zgJ hs 10 (hdq (by omega))) rfl rfl ?_;refine so ty49 ?_;refine dr ?_;refine rn0 (.cons (.cellA ty49 rfl rfl rfl) .nil) (.agg (.cons (.eqd ?_) (.cons (.eqd ?_) (.cons (.eqd ?_) .nil))));rotate_left 3;refine sq ?_ ?_<;>intro h8 h8p h8s<;>(try simp only[Q,Pat.cs_len] at h8p);refine wc zpZ (zfU (n:=p.n)) rfl rfl ?_;refine so ty49 ?_;refine tv ?_;refine rn0 (.cons (.cellA ty49 rfl rfl rfl) .nil) (.agg (.cons (.eqd ?_) (.cons (.eqd ?_) (.cons (.eqd ?_) .nil))));rotate_left 3;refine sq ?_ ?_<;>intro h9 h9p h9s<;>(try simp only[Q,Pat.cs_len] at h9p);refine xaU (i:=0) sl34 .none rfl rfl rfl rfl (zay (by first|(have:=l5 (by omega);omega)|(have:=hl6 (by omega);omega))) rfl ?_;refine evd [] [] ?_;refine wc zgU (zb6 hs n (by omega) (hk1 (by omega)) hi (Pats.ok_mem hok.2 _ (zae (i:=0) (by have:=hl6 (by omega);omega))) (hT6 (by omega)) (hD6 (by omega))) rfl rfl ?_;refine so ty49 ?_;refine dr ?_;refine rn0 (.cons (.cellA ty49 rfl rfl rfl) .nil) (.agg (.cons (.eqd ?_) (.cons (.eqd ?_) (.cons (.eqd ?_) .nil))));rotate_left 3;refine sq ?_ ?_<;>intro h10 h10p h10s<;>(try simp only[Q,Pat.cs_len] at h10p);refine xaU (i:=0) sl34 .none rfl rfl rfl rfl (zay (by first|(have:=l5 (by omega);omega)|(have:=hl6 (by omega);omega))) rfl ?_;refine evd [] [] ?_;refine wc zfo (zbP hd n (hk1 (by omega)) hi (Pats.ok_mem hok.2 _ (zae (i:=0) (by omega)))) rfl rfl ?_;refine dr ?_;refine sq ?_ ?_<;>intro h11 h11p h11s<;>(try simp only[Q,Pat.cs_len] at h11p);refine xaU (i:=1) sl34 .none rfl rfl rfl rfl (zay (by first|(have:=l5 (by omega);omega)|(have:=hl6 (by omega);omega))) rfl ?_;refine evd [] [] ?_;refine wc zgU (zb6 hs n (by omega) (hk2 (by omega)) hi (Pats.ok_mem hok.2 _ (zae (i:=1) (by have:=l5 (by omega);omega))) (hT5 (by omega) (by simp_all)) (hD5 (by omega)).2) rfl rfl ?_;refine so ty49 ?_;refine dr ?_;refine rn0 (.cons (.cellA ty49 rfl rfl rfl) .nil) (.agg (.cons (.eqd ?_) (.cons (.eqd ?_) (.cons (.eqd ?_) .nil))));rotate_left 3;refine xaU (i:=0) sl34 .none rfl rfl rfl rfl (zay (by first|(have:=l5 (by omega);omega)|(have:=hl6 (by omega);omega))) rfl ?_;refine evd [] [] ?_;refine wc zgU (zb6 hs n (by omega) (hk1 (by omega)) hi (Pats.ok_mem hok.2 _ (zae (i:=0) (by have:=l5 (by omega);omega))) (by simp_all) (hD5 (by omega)).1) rfl rfl ?_;refine so ty49 ?_;refine dr ?_;refine rn0 (.cons (.cellA ty49 rfl rfl rfl) .nil) (.agg (.cons (.eqd ?_) (.cons (.eqd ?_) (.cons (.eqd ?_) .nil))));rotate_left 3;exfalso;omega;all_goals (first|(rw[h3v (by omega)];all_goals rfl)|(rw[h1v (by omega)];all_goals rfl)|(rw[h6v (by omega)];all_goals rfl)|(rw[h5a (by omega) (by simp_all)];all_goals rfl)|(rw[h5b (by omega) (by simp_all)];all_goals rfl))
theorem ziB {w:List Data} (hs:WSmall w){a k:Int}{p:Pat} (hok:p.ok) (hsa0:zaD w a k p=true->zaB w (zaf w) 10 ⟨a,k⟩ p=false->zcb w 10 ⟨a,k⟩ p=false->FnD Tryz.prog 70 [.d (sPtr w (zaf w)),.agg [.d (.i a),.d (.i k)],.agg [.d (.i p.op),.d (.i p.ctor),.d (.i p.n),.d (.i p.m),.d (.i p.var),.d (zad p.kids)]] [] (.agg [.d (.i (zaN w 10 ⟨a,k⟩ p).ctor),.d (.i (zaN w 10 ⟨a,k⟩ p).num),.d (zbC (zaN w 10 ⟨a,k⟩ p).kids)]) []):
  FnD Tryz.prog 20 [.d (zam w),.agg [.d (.i a),.d (.i k)],.agg [.d (.i p.op),.d (.i p.ctor),.d (.i p.n),.d (.i p.m),.d (.i p.var),.d (zad p.kids)]] [] (.tup [.agg [.d (.i (optV (zbI w a k p)).ctor),.d (.i (optV (zbI w a k p)).num),.d (zbC (optV (zbI w a k p)).kids)],.d (.bool (zbI w a k p).isSome)]) []:=by
 have hpv:=zdT hs (a:=a) (k:=k) hok;have hsf:=zg3 hs (a:=a) (k:=k) (p:=p);cases q1:zaD w a k p with
 |false=>
  rw[zvK q1];rw[q1] at hpv;refine bd Tryz.f20 40 [] [] fun w0 F0 own kept hk=>?_;refine bx 3004 ?_;refine bx 3005 ?_;refine ab 3006 tz49 ?_;refine ev ?_;refine wc ziY (hpv) rfl rfl ?_;refine ev ?_;refine sq ?_ ?_<;>intro h1 h1p h1s<;>(try simp only[Q] at h1p);refine bu [] [] st49 ?_;refine so ty49 ?_;refine ev ?_;refine rn0 (.cons (.cellA ty49 rfl rfl rfl) (.cons (.tmp rfl) .nil)) (.tup (.cons (.agg (.cons (.eqd ?_) (.cons (.eqd ?_) (.cons (.nild ?_) .nil)))) (.cons (.eqd ?_) .nil)));rotate_left 4;exfalso;simp at *;all_goals (rfl)
 |true=>
  obtain⟨hsp,hin,hsh,htv⟩:=hsf q1;rw[q1] at hpv;have hn:=zgO hsp.dp;have hem:=zbP hsp.dp (f:=zaf w) 10 hsh hin hok;have hde:=zhX hsp.dp 10 hsh hin hok;by_cases q2:zaB w (zaf w) 10 ⟨a,k⟩ p=false/\zcb w 10 ⟨a,k⟩ p=false
  ·obtain⟨q3,q4⟩:=q2;have hsa:=hsa0 q1 q3 q4;obtain⟨z1,z2⟩:=zpc hsp (Nat.le_refl _) hsh hin q3 q4;have hvo:=zhY (v:=zaN w 10 ⟨a,k⟩ p) (zgd hs (zct htv).1) (zct htv).2.1 z2;rw[zvM q1 q3 q4];rw[q3] at hem;rw[q4] at hde;generalize zaN w 10 ⟨a,k⟩ p=v at *;generalize isV w ⟨a,k⟩ v=b at *;refine bd Tryz.f20 40 [] [] fun w0 F0 own kept hk=>?_;refine bx 3004 ?_;refine bx 3005 ?_;refine ab 3006 tz49 ?_;refine ev ?_;refine wc ziY (hpv) rfl rfl ?_;refine ev ?_;refine sq ?_ ?_<;>intro h1 h1p h1s<;>(try simp only[Q] at h1p);exfalso;simp at *;refine wc zmr (hn) rfl rfl ?_;refine ev ?_;refine wc zfo (hem) rfl rfl ?_;refine ev ?_;refine sq ?_ ?_<;>intro h2 h2p h2s<;>(try simp only[Q] at h2p);refine sqT ?_;exfalso;simp at *;refine Walk.call (cr:=[]) zsP (hde) rfl (.some rfl rfl h2) rfl rfl (LeL.refl _) trivial rfl rfl rfl ?_;refine evs [] [(22,false)] ?_ ⟨⟨_,rfl,h2⟩,trivial⟩;refine sq ?_ ?_<;>intro h4 h4p h4s<;>(try simp only[Q] at h4p);exfalso;simp at *;refine wc zgU (hsa) rfl rfl ?_;refine ab 3009 tz49 ?_;refine so ty49 ?_;refine tv ?_;refine wc zv6 (hvo) rfl rfl ?_;refine ev ?_;refine sq ?_ ?_<;>intro h5 h5p h5s<;>(try simp only[Q] at h5p);refine bu [] [] st49 ?_;refine so ty49 ?_;refine ev ?_;refine rn0 (.cons (.cellA ty49 rfl rfl rfl) (.cons (.tmp rfl) .nil)) (.tup (.cons (.agg (.cons (.eqd ?_) (.cons (.eqd ?_) (.cons (.nild ?_) .nil)))) (.cons (.eqd ?_) .nil)));rotate_left 4;refine so ty49 ?_;refine ev ?_;refine rn0 (.cons (.cellA ty49 rfl rfl rfl) (.cons (.tmp rfl) .nil)) (.tup (.cons (.agg (.cons (.eqd ?_) (.cons (.eqd ?_) (.cons (.eqd ?_) .nil)))) (.cons (.eqd ?_) .nil)));rotate_left 4;all_goals (cases b<;>first|rfl|(exfalso;simp at *;done))
  ·rw[zvL q2];generalize zaB w (zaf w) 10 ⟨a,k⟩ p=x at *;generalize zcb w 10 ⟨a,k⟩ p=y at *;refine bd Tryz.f20 40 [] [] fun w0 F0 own kept hk=>?_;refine bx 3004 ?_;refine bx 3005 ?_;refine ab 3006 tz49 ?_;refine ev ?_;refine wc ziY (hpv) rfl rfl ?_;refine ev ?_;refine sq ?_ ?_<;>intro h1 h1p h1s<;>(try simp only[Q] at h1p);exfalso;simp at *;refine wc zmr (hn) rfl rfl ?_;refine ev ?_;refine wc zfo (hem) rfl rfl ?_;refine ev ?_;refine sq ?_ ?_<;>intro h2 h2p h2s<;>(try simp only[Q] at h2p);refine sqT ?_;refine bu [] [] st49 ?_;refine so ty49 ?_;refine ev ?_;refine rn0 (.cons (.cellA ty49 rfl rfl rfl) (.cons (.tmp rfl) .nil)) (.tup (.cons (.agg (.cons (.eqd ?_) (.cons (.eqd ?_) (.cons (.nild ?_) .nil)))) (.cons (.eqd ?_) .nil)));rotate_left 4;refine Walk.call (cr:=[]) zsP (hde) rfl (.some rfl rfl h2) rfl rfl (LeL.refl _) trivial rfl rfl rfl ?_;refine evs [] [(22,false)] ?_ ⟨⟨_,rfl,h2⟩,trivial⟩;refine sq ?_ ?_<;>intro h4 h4p h4s<;>(try simp only[Q] at h4p);refine bu [] [] st49 ?_;refine so ty49 ?_;refine ev ?_;refine rn0 (.cons (.cellA ty49 rfl rfl rfl) (.cons (.tmp rfl) .nil)) (.tup (.cons (.agg (.cons (.eqd ?_) (.cons (.eqd ?_) (.cons (.nild ?_) .nil)))) (.cons (.eqd ?_) .nil)));rotate_left 4;exfalso;simp_all;all_goals (rfl)
theorem ze7 {w:List Data} (hs:WSmall w){a k:Int}{p:Pat} (hok:p.ok):
  FnD Tryz.prog 20 [.d (zam w),.agg [.d (.i a),.d (.i k)],.agg [.d (.i p.op),.d (.i p.ctor),.d (.i p.n),.d (.i p.m),.d (.i p.var),.d (zad p.kids)]] [] (.tup [.agg [.d (.i (optV (zbI w a k p)).ctor),.d (.i (optV (zbI w a k p)).num),.d (zbC (optV (zbI w a k p)).kids)],.d (.bool (zbI w a k p).isSome)]) []:=ziB hs hok fun q1 q3 q4=>by
 obtain⟨hsp,hin,hsh,_⟩:=zg3 hs q1;exact zb6 hsp 10 (Nat.le_refl _) hsh hin hok q3 q4
theorem zu7 {w:List Data} (hs:WSmall w){a k:Int}{p q:Pat}{v:Val} (h:minV w a k p q=some []) (hv:zbI w a k p=some v):(zdE w a k q v).2=true:=by
 obtain⟨_,h1,h2,_⟩:=zky hs hv;obtain⟨_,_,_,_,_,_,_,_,tv,i1,i2⟩:=zdN hs (zhA h).1;have h3:=zqP hs h (zqG h1);rw[h2] at h3;rw[zjj tv i2 h1];cases hq:(zau 10 q v).2 with
 |true=>rfl
 |false=>rw[hq] at h3;simp[one] at h3
theorem ztu {w:List Data} (hs:WSmall w){a k:Int}{p q x:Pat}{r:List Pat}{v:Val} (h:minV w a k p q=some (x::r)) (hv:zbI w a k x=some v):(zdE w a k p v).2=true/\(zdE w a k q v).2=false:=by
 obtain⟨_,h1,h2,_⟩:=zky hs hv;obtain⟨_,_,_,_,_,_,_,_,tv,i1,i2⟩:=zdN hs (zhA h).1;have hf:=zqG h1;have h3:=zqP hs h hf;obtain⟨h4,h5,_⟩:=zmY hs h x (by simp);rw[zs8 h5 h4 hf] at h2;rw[zjj tv i2 h1,zjj tv i1 h1];have h6:0<(x::r).countP (fun y=>hitP y v):=List.countP_pos_iff.2 ⟨x,by simp,h2⟩;rw[h3] at h6;cases hp:(zau 10 p v).2<;>cases hq:(zau 10 q v).2<;>rw[hp,hq] at h6<;>simp[one] at h6 ⊢
theorem zqU {o:Option Val} (h:o.isSome=true):o=some (optV o):=by
 cases o with
 |none=>cases h
 |some v=>rfl
theorem zhO {b:Str} (hb:b.length<=1000000000000):FnD Tryz.prog 4 [.d (zcY b)] [] (.d (.bool true)) []:=by
 have hdr:=zg7 hb;have hs:WSmall (zbj (b.take 2000) 0):=(zik (b.take 2000) 0).small;have hn:=zpC (b.take 2000) 0;have hp:=zqZ (b.take 2000);have hq:=zya (b.take 2000);have hf:=fun {w:List Data}{t:Ty}=>zvE (b.take 2000) (w:=w) (t:=t);have hfew:∀ {q},zci (zbj (b.take 2000) 0) (typT (b.take 2000) 0).data (typT (b.take 2000) 0).index (prA (b.take 2000)) q=true->FewQ (zbj (b.take 2000) 0) ⟨(typT (b.take 2000) 0).data,(typT (b.take 2000) 0).index⟩ (zaY (prA (b.take 2000))):=fun h=>zwB hs hn h hf;clear hf;generalize zbj (b.take 2000) 0=w at *;generalize (typT (b.take 2000) 0).data=a at *;generalize (typT (b.take 2000) 0).index=k at *;generalize prA (b.take 2000)=p at *;generalize prW (b.take 2000)=q at *;have hwi:=ziC hs (a:=a) (k:=k) hp.2 hq.2 hfew;have hws:=ziL hs (a:=a) (k:=k) hp.2 hq.2 (by omega) (by omega) hfew;have hi:=ze6 hs (a:=a) (k:=k) hp.2 hq.2 hfew;unfold winV at hwi hws;cases hm:minV w a k p q with
 |none=>
  rw[hm] at hwi hws;refine bd Tryz.f4 136 [51,55,63,67] [] fun w0 F0 own kept hk=>?_;refine sq ?_ ?_<;>intro h1 h1p h1s<;>(try simp only[Q] at h1p);refine rq ?_;rotate_left;refine wc zsK (hdr) rfl rfl ?_;refine evs [51,55,63,67] [] ?_;refine ab 3004 tz25 ?_;refine ab 3005 tz36 ?_;refine ab 3006 tz36 ?_;refine evs [51,55,63,67] [] ?_;refine so ty25 ?_;refine so ty36 ?_;refine so ty36 ?_;refine tv ?_;refine wc zsL (hwi) rfl rfl ?_;refine evs [51,55,63,67] [] ?_;refine wc zsM (hws) rfl rfl ?_;refine evs [51,55,63,67] [] ?_;refine xa9 un4 .none rfl rfl rfl ?_;refine evs [51,55,63,67] [] ?_;refine sq ?_ ?_<;>intro h2 h2p h2s<;>(try simp only[Q] at h2p);refine sqT ?_;refine sqT ?_;refine xaQ un4 .none rfl rfl rfl ?_;refine evs [51,55,63,67] [] ?_;refine sq ?_ ?_<;>intro h4 h4p h4s<;>(try simp only[Q] at h4p);refine xaQ un4 (.some rfl rfl h4) rfl rfl rfl ?_;refine evs [51,55,63,67] [(64,true)] ?_ ⟨⟨_,rfl,h4⟩,trivial⟩;refine sq ?_ ?_<;>intro h5 h5p h5s<;>(try simp only[Q] at h5p);refine rq ?_;rotate_left;refine rq ?_;rotate_left;refine sqF ?_;refine rq ?_;rotate_left;refine xa9 un4 (.some rfl rfl h2) rfl rfl rfl ?_;refine evs [51,55,63,67] [(52,false)] ?_ ⟨⟨_,rfl,h2⟩,trivial⟩;refine sq ?_ ?_<;>intro h6 h6p h6s<;>(try simp only[Q] at h6p);refine sqT ?_;refine xaQ un4 .none rfl rfl rfl ?_;refine evs [51,55,63,67] [] ?_;refine sq ?_ ?_<;>intro h8 h8p h8s<;>(try simp only[Q] at h8p);refine xaQ un4 (.some rfl rfl h8) rfl rfl rfl ?_;refine evs [51,55,63,67] [(64,true)] ?_ ⟨⟨_,rfl,h8⟩,trivial⟩;refine sq ?_ ?_<;>intro h9 h9p h9s<;>(try simp only[Q] at h9p);refine rq ?_;rotate_left;refine rq ?_;rotate_left;refine sqF ?_;refine rq ?_;rotate_left;refine sq ?_ ?_<;>intro h10 h10p h10s<;>(try simp only[Q] at h10p);refine xaQ un4 .none rfl rfl rfl ?_;refine evs [51,55,63,67] [] ?_;refine sq ?_ ?_<;>intro h11 h11p h11s<;>(try simp only[Q] at h11p);refine xaQ un4 (.some rfl rfl h11) rfl rfl rfl ?_;refine evs [51,55,63,67] [(64,true)] ?_ ⟨⟨_,rfl,h11⟩,trivial⟩;refine sq ?_ ?_<;>intro h12 h12p h12s<;>(try simp only[Q] at h12p);refine rq ?_;rotate_left;refine rq ?_;rotate_left;refine sqF ?_;refine rq ?_;rotate_left;focus (exfalso;first|contradiction|(simp at *;done))
  all_goals (first|rfl|contradiction|(exfalso;simp at *;done))
 |some z=>
  cases z with
  |nil=>
   rw[hm] at hwi hws;have hsa:=ze7 hs (a:=a) (k:=k) hp.2;have hvo:=(zsr hs (a:=a) (k:=k) (p:=p)).2;have hma:=zdS hs (a:=a) (k:=k) hq.2 hvo;have hlaw:(zbI w a k p).isSome=true->(zdE w a k q (optV (zbI w a k p))).2=true:=fun h=>zu7 hs hm (zqU h);generalize zbI w a k p=o at *;refine bd Tryz.f4 136 [51,55] [] fun w0 F0 own kept hk=>?_;refine sq ?_ ?_<;>intro h1 h1p h1s<;>(try simp only[Q] at h1p);refine rq ?_;rotate_left;refine wc zsK (hdr) rfl rfl ?_;refine evs [51,55] [] ?_;refine ab 3004 tz25 ?_;refine ab 3005 tz36 ?_;refine ab 3006 tz36 ?_;refine evs [51,55] [] ?_;refine so ty25 ?_;refine so ty36 ?_;refine so ty36 ?_;refine tv ?_;refine wc zsL (hwi) rfl rfl ?_;refine evs [51,55] [] ?_;refine wc zsM (hws) rfl rfl ?_;refine evs [51,55] [] ?_;refine xa9 un4 .none rfl rfl rfl ?_;refine evs [51,55] [] ?_;refine sq ?_ ?_<;>intro h2 h2p h2s<;>(try simp only[Q] at h2p);refine sqT ?_;refine sqT ?_;exfalso;simp at *;refine xa9 un4 (.some rfl rfl h2) rfl rfl rfl ?_;refine evs [51,55] [(52,false)] ?_ ⟨⟨_,rfl,h2⟩,trivial⟩;refine sq ?_ ?_<;>intro h4 h4p h4s<;>(try simp only[Q] at h4p);refine sqT ?_;exfalso;simp at *;refine sq ?_ ?_<;>intro h6 h6p h6s<;>(try simp only[Q] at h6p);exfalso;simp at *;refine sq ?_ ?_<;>intro h7 h7p h7s<;>(try simp only[Q] at h7p);refine wc zv3 (hsa) rfl rfl ?_;refine evs [51,55] [] ?_;refine ab 3011 tz49 ?_;refine so ty49 ?_;refine evs [51,55] [] ?_;refine wc zsN (hma) rfl rfl ?_;refine evs [51,55] [] ?_;refine sq ?_ ?_<;>intro h8 h8p h8s<;>(try simp only[Q] at h8p);refine rq ?_;rotate_left;refine rq ?_;rotate_left;exfalso;simp at *;all_goals (first|rfl|(simp_all;done))
  |cons x r=>
   have hx:x.ok/\x.size<=1000000000000:=by
    obtain⟨h2,_⟩:=zhA hm;obtain⟨hsp,hin,_⟩:=zdN hs h2;have h6:=zf4 hsp 11 hin (zmY hs hm x (by simp)).1;have:(4:Nat) ^ 11<=1000000000000:=by decide
    exact⟨h6.1,by omega⟩
   rw[hm] at hwi hws hi;have hsa:=ze7 hs (a:=a) (k:=k) hx.1;have hvo:=(zsr hs (a:=a) (k:=k) (p:=x)).2;have hm1:=zdS hs (a:=a) (k:=k) hp.2 hvo;have hm2:=zdS hs (a:=a) (k:=k) hq.2 hvo;have hlaw:(zbI w a k x).isSome=true->(zdE w a k p (optV (zbI w a k x))).2=true/\(zdE w a k q (optV (zbI w a k x))).2=false:=fun h=>ztu hs hm (zqU h);generalize zbI w a k x=o at *;refine bd Tryz.f4 136 [51,55] [] fun w0 F0 own kept hk=>?_;refine sq ?_ ?_<;>intro h1 h1p h1s<;>(try simp only[Q,Pat.cs_len] at h1p);refine rq ?_;rotate_left;refine wc zsK (hdr) rfl rfl ?_;refine evs [51,55] [] ?_;refine ab 3004 tz25 ?_;refine ab 3005 tz36 ?_;refine ab 3006 tz36 ?_;refine evs [51,55] [] ?_;refine so ty25 ?_;refine so ty36 ?_;refine so ty36 ?_;refine tv ?_;refine wc zsL (hwi) rfl rfl ?_;refine evs [51,55] [] ?_;refine wc zsM (hws) rfl rfl ?_;refine evs [51,55] [] ?_;refine xa9 un4 .none rfl rfl rfl ?_;refine evs [51,55] [] ?_;refine sq ?_ ?_<;>intro h2 h2p h2s<;>(try simp only[Q,Pat.cs_len] at h2p);refine sqT ?_;refine sqT ?_;exfalso;simp at *;refine xa9 un4 (.some rfl rfl h2) rfl rfl rfl ?_;refine evs [51,55] [(52,false)] ?_ ⟨⟨_,rfl,h2⟩,trivial⟩;refine sq ?_ ?_<;>intro h4 h4p h4s<;>(try simp only[Q,Pat.cs_len] at h4p);refine sqT ?_;exfalso;simp at *;refine sq ?_ ?_<;>intro h6 h6p h6s<;>(try simp only[Q,Pat.cs_len] at h6p);exfalso;simp at *;refine sq ?_ ?_<;>intro h7 h7p h7s<;>(try simp only[Q,Pat.cs_len] at h7p);exfalso;simp at *;refine wc zv4 (hi) rfl rfl ?_;refine evs [51,55] [] ?_;refine xaU (i:=0) sl34 .none rfl rfl rfl rfl (zay (l:=x::r) (i:=0) (by simp)) rfl ?_;refine evd [51,55] [] ?_;refine wc zv3 (hsa) rfl rfl ?_;refine evd [51,55] [] ?_;refine ab 3017 tz49 ?_;refine so ty49 ?_;refine evd [51,55] [] ?_;refine dr ?_;refine wc zsN (hm1) rfl rfl ?_;refine evs [51,55] [] ?_;refine wc zsN (hm2) rfl rfl ?_;refine evs [51,55] [] ?_;refine sq ?_ ?_<;>intro h8 h8p h8s<;>(try simp only[Q,Pat.cs_len] at h8p);refine rq ?_;rotate_left;refine sq ?_ ?_<;>intro h9 h9p h9s<;>(try simp only[Q,Pat.cs_len] at h9p);refine rq ?_;rotate_left;refine rq ?_;rotate_left;all_goals (first|rfl|(simp_all;done))
end Go.Proofs.YtlfipehhbdjnjaaGreat
namespace Go.Proofs.YtlfipehhbdjnjaaGreat
open Go Go.ChangeShapes Go.WideShapes Go.ChangeAt Go.RowKit
set_option linter.unusedSimpArgs false
set_option linter.unusedVariables false
set_option linter.unusedVariables false
def FW (W:World) (b:Nat):Nat:=match W.heap[b]? with
 |some (.cells cs _ _)=>cs.size
 |_=>0
theorem FW_cell {W:World}{b o:Nat}{v:Value} (h:W.cell? ⟨b,o,none⟩=some v):o<FW W b:=by
 unfold World.cell? at h;unfold FW;simp only at h;split at h
 ·rename_i c t fr hb;simp only[hb];simp only[Option.isSome_none,Bool.false_eq_true,if_false] at h;exact(Array.getElem?_eq_some_iff.1 h).1
 ·cases h
theorem FW_top {W:World}{b:Nat} (h:W.heap.size<=b):FW W b=0:=by
 unfold FW;rw[Array.getElem?_eq_none h]
structure RelL (W:World) (xs:List D) (cs:List Value):Prop where
 len:xs.length=cs.length
 rel:∀i (h1:i<xs.length) (h2:i<cs.length),RelD (FW W) W xs[i] cs[i]
theorem RelL.append {W:World}{xs ys:List D}{cs ds:List Value} (h:RelL W xs cs) (k:RelL W ys ds):RelL W (xs++ys) (cs++ds):=by
 refine⟨by simp[h.len,k.len],fun i h1 h2=>?_⟩;by_cases hi:i<xs.length
 ·rw[List.getElem_append_left hi,List.getElem_append_left (by rw[<-h.len];exact hi)];exact h.rel i hi (by rw[<-h.len];exact hi)
 ·have hl:=h.len;rw[List.getElem_append_right (by omega),List.getElem_append_right (by omega)];have e:i-xs.length=i-cs.length:=by omega
  have h1':i-xs.length<ys.length:=by simp only[xaa] at h1;omega
  have h2':i-cs.length<ds.length:=by simp only[xaa] at h2;omega
  have:=k.rel (i-xs.length) h1' (by omega);simp only[e] at this ⊢;exact this
def Dec (P:Program) (W:World) (n:Nat) (t:TypeId){α:Type} (f:α->List D) (m:α->Nat) (R:α->Prop):Prop:=
 ∀(H:Type) (enc:TypeId×Value->H) (cs:List Value) (x:DataW H×List MemPlace),DataW.trod enc P W 0 (fun _=>true) true n t cs=some x->
  ∃a,RelL W (f a) cs/\m a+1<=Rows.uptoBulk x.1/\R a
section
variable {P:Program}{W:World}{n:Nat}{t:TypeId}
theorem Dec.zero {α:Type}{f:α->List D}{m:α->Nat}{R:α->Prop}:Dec P W 0 t f m R:=fun H enc cs x h=>by simp[DataW.trod] at h
theorem Dec.map {α β:Type}{f:α->List D}{m:α->Nat}{R:α->Prop}{f':β->List D}{m':β->Nat}{R':β->Prop} (g:α->β) (h:Dec P W n t f m R)
  (h1:∀a,f' (g a)=f a) (h2:∀a,m' (g a)<=m a) (h3:∀a,R a->R' (g a)):Dec P W n t f' m' R':=fun H enc cs x hx=>by
 obtain⟨a,q1,q2,q3⟩:=h H enc cs x hx;exact⟨g a,by rw[h1];exact q1,by have:=h2 a;omega,h3 a q3⟩
theorem RelL.one {x:D}{v:Value} (h:RelD (FW W) W x v):RelL W [x] [v]:=
 ⟨rfl,fun i h1 h2=>by
  have:i=0:=by simp at h1;omega
  subst this;exact h⟩
theorem Dec.int {k:IntKind} (ht:P.underlying t=some (.int k)):Dec P W n t (fun z:Int=>[.int k z]) (fun _=>0) (fun z=>(Lit.int k z).wf=true):=fun H enc cs x h=>by
 obtain⟨z,rfl,rfl,hw⟩:=DataW.trod_int ht h;exact⟨z,.one (.int k z),by simp[Rows.uptoBulk],hw⟩
theorem Dec.bool (ht:P.underlying t=some .bool):Dec P W n t (fun z:Bool=>[.bool z]) (fun _=>0) (fun _=>True):=fun H enc cs x h=>by
 obtain⟨z,rfl,rfl⟩:=DataW.trod_bool ht h;exact⟨z,.one (.bool z),by simp[Rows.uptoBulk],trivial⟩
theorem Dec.str (ht:P.underlying t=some .string):Dec P W n t (fun s:Str=>[.str s]) (fun s=>s.length) (fun _=>True):=fun H enc cs x h=>by
 obtain⟨s,rfl,rfl,hw⟩:=DataW.trod_string ht h;exact⟨s.data.toList,.one (by have:=RelD.str (F:=FW W) (w:=W) s.data.toList;simpa using this),by simp[Rows.uptoBulk],trivial⟩
def sumM {α:Type} (m:α->Nat):List α->Nat
 | []=>0
 |a::r=>m a+1+sumM m r
theorem zrn {α:Type} (m:α->Nat):∀l:List α,l.length<=sumM m l
 | []=>by simp[sumM]
 |a::r=>by have:=zrn m r;simp only[sumM,xab];omega
theorem zlg {α β:Type}{Q:Nat->α->β->Prop}:∀(l:List β) (o:Nat),(∀i (h:i<l.length),∃a,Q (o+i) a l[i])->∃zs:List α,zs.length=l.length/\∀i (h:i<l.length) (h':i<zs.length),Q (o+i) zs[i] l[i]
 | [],o,_=>⟨[],rfl,fun i h=>by simp at h⟩
 |b::r,o,h=>by
  obtain⟨a,ha⟩:=h 0 (by simp);obtain⟨zs,h1,h2⟩:=zlg (Q:=Q) r (o+1) (fun i hi=>by
   have:=h (i+1) (by simp;omega);rw[show o+1+i=o+(i+1) by omega];simpa using this)
  refine⟨a::zs,by simp[h1],fun i hi hi'=>?_⟩;cases i with
  |zero=>exact ha
  |succ i=>
   have:=h2 i (by simpa using hi) (by simpa using hi');rw[show o+1+i=o+(i+1) by omega] at this;simpa using this
theorem zpU {H α:Type}{m:α->Nat}:∀ {zs:List α}{xs:List (DataW H)},zs.length=xs.length->(∀i (h:i<zs.length) (h':i<xs.length),m zs[i]+1<=Rows.uptoBulk xs[i])->sumM m zs<=Rows.uptoBulkAll xs
 | [],[],_,_=>by simp[sumM,Rows.uptoBulkAll]
 |a::zs,x::xs,hl,h=>by
  have h0:=h 0 (by simp) (by simp);have ih:=zpU (m:=m) (zs:=zs) (xs:=xs) (by simpa using hl) (fun i h1 h2=>by
   have:=h (i+1) (by simp;omega) (by simp;omega);simpa using this)
  simp only[sumM,Rows.uptoBulkAll];simp only[List.getElem_cons_zero] at h0;omega
 | [],_::_,hl,_=>by simp at hl
 |_::_,[],hl,_=>by simp at hl
theorem Dec.sl {α:Type}{f:α->List D}{m:α->Nat}{R:α->Prop}{e:TypeId}{k:Nat} (ht:P.underlying t=some (.slice e)) (hc:P.cellsOf e=k+1) (hk:∀a,(f a).length=k+1) (he:Dec P W n e f m R):
  Dec P W (n+1) t (fun l:List α=>[.sl (l.map f)]) (fun l=>sumM m l) (fun l=>∀a∈l,R a):=fun H enc cs x h=>by
 rcases DataW.trod_slice ht h with ⟨rfl,rfl⟩|⟨a,len,cap,elems,rest,n',hn,rfl,rfl,_,hcap,_,hlen,hel,_,_⟩
 ·exact⟨[],.one .nil,by simp[sumM,Rows.uptoBulk],fun a h=>by simp at h⟩
 obtain rfl:n=n':=by omega
 have each:∀i (hi:i<elems.length),∃y,(∃cs,W.cells? 0 (a.add (i*(k+1))) (k+1)=some cs/\RelL W (f y) cs)/\m y+1<=Rows.uptoBulk (elems[i]).1/\R y:=by
  intro i hi;have:=hel i (by omega);rw[hc,List.getElem?_eq_getElem hi,Option.bind_eq_some_iff] at this;obtain⟨cs,h1,h2⟩:=this;obtain⟨y,h3,h4,h5⟩:=he H enc cs _ h2;exact⟨y,⟨cs,h1,h3⟩,h4,h5⟩
 obtain⟨zs,hal,has⟩:=zlg (Q:=fun i y (el:DataW H×List MemPlace)=>(∃cs,W.cells? 0 (a.add (i*(k+1))) (k+1)=some cs/\RelL W (f y) cs)/\m y+1<=Rows.uptoBulk el.1/\R y) elems 0 (fun i hi=>by simpa using each i hi);refine⟨zs,.one ?_, ?_,fun y hy=>?_⟩
 ·by_cases h0:zs=[]
  ·subst h0;have hz:len=0:=by simp at hal;omega
   subst hz;obtain⟨b,o,s⟩:=a;cases s with
   |none=>exact .sl [] 0 b o cap (fun _=>undef) (by simp) (by simp) (fun n hn=>by simp at hn) (fun i hi=>by simp at hi)
   |some s=>exact .emp b o s cap
  ·have hpos:0<zs.length:=List.length_pos_iff.2 h0;obtain⟨⟨cs0,hc0,hr0⟩,_⟩:=has 0 (by omega) hpos;have hspot:a.spot=none:=by
    have h1:=(World.cells?_some hc0).2.2 0 (by omega);have h2:0<cs0.length:=by have:=(World.cells?_some hc0).2.1;omega
    simp only[Nat.add_zero,Nat.zero_mul,Addr.add,if_true,List.getElem?_eq_getElem h2] at h1;unfold World.cell? at h1;split at h1
    ·cases hs:a.spot with
     |none=>rfl
     |some s=>simp[hs] at h1
    ·cases h1
   obtain⟨b,o,s⟩:=a;simp only at hspot;subst hspot;have hlen':(zs.map f).length=len:=by simp;omega
   have hmulk:∀i j,i<zs.length->j<k+1->i*(k+1)+j<zs.length*(k+1):=fun i j hi hj=>by
    have:(i+1)*(k+1)<=zs.length*(k+1):=Nat.mul_le_mul_right _ (by omega);rw[Nat.add_mul,Nat.one_mul] at this;omega
   have cellAt:∀i (hi:i<zs.length) j (hj:j<(f zs[i]).length),∃v,W.cell? ⟨b,o+(i*(k+1)+j),none⟩=some v/\RelD (FW W) W ((f zs[i])[j]) v:=fun i hi j hj=>by
    obtain⟨⟨cs,hc1,hr1⟩,_⟩:=has i (by omega) hi;have hjk:j<k+1:=by have:=hk zs[i];omega
    obtain⟨_,q1,q2⟩:=World.cells?_some hc1;have q3:=q2 j hjk;rw[List.getElem?_eq_getElem (by omega)] at q3;refine⟨cs[j], ?_,hr1.rel j hj (by omega)⟩;rw[<-q3];congr 1
    simp only[Nat.zero_add,Addr.add];split<;>split<;>simp_all<;>omega
   have hv:((zs.map f).length,cap)=(len,cap):=by rw[hlen']
   have goal:RelD (FW W) W (.sl (zs.map f)) (.slice (some ⟨b,o,none⟩) (zs.map f).length cap):=by
    refine .sl _ (k+1) b o cap (fun q=>(W.cell? ⟨b,o+q,none⟩).getD undef) (fun y hy=>?_) (by omega) (fun q hq=>?_) (fun i hi j hj=>?_)
    ·obtain⟨y',_,rfl⟩:=List.mem_map.1 hy;exact hk y'
    ·have hq':q<zs.length*(k+1):=by simpa using hq
     have hi:q / (k+1)<zs.length:=Nat.div_lt_of_lt_mul (by rw[Nat.mul_comm];exact hq');have hj:q % (k+1)<k+1:=Nat.mod_lt _ (by omega);obtain⟨v,h1,_⟩:=cellAt _ hi (q % (k+1)) (by rw[hk];exact hj);rw[Nat.div_add_mod'] at h1;exact⟨FW_cell h1,by rw[h1];rfl⟩
    ·have hi':i<zs.length:=by simpa using hi
     simp only[List.getElem_map] at hj ⊢;obtain⟨v,h1,h2⟩:=cellAt i hi' j hj;show RelD (FW W) W _ ((W.cell? ⟨b,o+(i*(k+1)+j),none⟩).getD undef)
     rw[h1];exact h2
   rw[hlen'] at goal;exact goal
 ·have:=zpU (m:=m) (zs:=zs) (xs:=elems.map (·.1)) (by simp[hal]) (fun i h1 h2=>by
   have:=(has i (by simpa using h2) h1).2.1;simpa using this)
  simp only[Rows.uptoBulk];omega
 ·obtain⟨i,hi,rfl⟩:=List.getElem_of_mem hy;exact(has i (by omega) hi).2.2
def DecF (P:Program) (W:World) (n o K:Nat) (fs:List Field){α:Type} (f:α->List D) (m:α->Nat) (R:α->Prop):Prop:=
 ∀(H:Type) (enc:TypeId×Value->H) (cs:List Value) (xs:List (DataW H×List MemPlace)),cs.length=K->xs.length=fs.length->
  (∀(i:Nat) (fd:Field),fs[i]?=some fd->DataW.trod enc P W 0 (fun _=>true) true n fd.type ((cs.drop fd.offset).take (P.cellsOf fd.type))=xs[i]?)->
  ∃a,RelL W (f a) (cs.drop o)/\m a<=Rows.uptoBulkAll (xs.map (·.1))/\R a
theorem DecF.nil {K:Nat}:DecF P W n K K [] (fun _:Unit=>[]) (fun _=>0) (fun _=>True):=fun H enc cs xs h1 h2 _=>
 ⟨(),by rw[List.drop_of_length_le (by omega)];exact⟨rfl,fun i h=>by simp at h⟩,by simp,trivial⟩
theorem DecF.cons {α β:Type}{f:α->List D}{m:α->Nat}{R:α->Prop}{f2:β->List D}{m2:β->Nat}{R2:β->Prop}{o K k:Nat}{fd:Field}{fs:List Field}
  (h1:Dec P W n fd.type f m R) (ho:fd.offset=o) (hc:P.cellsOf fd.type=k) (h2:DecF P W n (o+k) K fs f2 m2 R2):
  DecF P W n o K (fd::fs) (fun p:α×β=>f p.1++f2 p.2) (fun p=>m p.1+1+m2 p.2) (fun p=>R p.1/\R2 p.2):=fun H enc cs xs hK hl hx=>by
 cases xs with
 |nil=>simp at hl
 |cons y ys=>
  have h0:=hx 0 fd (by simp);simp only[List.getElem?_cons_zero] at h0;rw[ho,hc] at h0;obtain⟨a,q1,q2,q3⟩:=h1 H enc _ _ h0;obtain⟨b,r1,r2,r3⟩:=h2 H enc cs ys hK (by simpa using hl) (fun i fd' hi=>by
   have:=hx (i+1) fd' (by simpa using hi);simpa using this)
  refine⟨(a,b), ?_, ?_,q3,r3⟩
  ·have:cs.drop o=(cs.drop o).take k++cs.drop (o+k):=by
    rw[<-List.drop_drop,List.take_append_drop]
   rw[this];exact q1.append r1
  ·simp only[xae,Rows.uptoBulkAll];omega
theorem Dec.struct {α:Type}{f:α->List D}{m:α->Nat}{R:α->Prop}{fs:Array Field} (ht:P.underlying t=some (.struct fs)){K:Nat} (hK:P.cellsOf t=K) (h:DecF P W n 0 K fs.toList f m R):
  Dec P W (n+1) t f m R:=fun H enc cs x hx=>by
 obtain⟨xs,n',hn,rfl,hl,hxl,hf⟩:=DataW.trod_struct ht hx;obtain rfl:n=n':=by omega
 obtain⟨a,q1,q2,q3⟩:=h H enc cs xs (by omega) (by simpa using hxl) (fun i fd hi=>hf i fd (by simpa using hi));refine⟨a,by simpa using q1, ?_,q3⟩;simp only[Rows.uptoBulk];omega
end
section
variable {P:Program}{W:World}{base:Nat}{t:TypeId}{v:Value}{H:Type}{enc:TypeId×Value->H}{d:DataW H}{ps:List MemPlace}
theorem zw4 {α:Type}{e:TypeId}{f:α->List D}{m:α->Nat}{R:α->Prop}{k:Nat} (ht:P.underlying t=some (.slice e)) (hc:P.cellsOf e=k+1) (hk:∀a,(f a).length=k+1) (hd:∀n,Dec P W n e f m R)
  (hval:Value.okWide P W .any base t v) (h:DataW.Trod enc P W 0 (fun _=>true) true t v d ps):
  ∃l:List α,(∀G T,G.F=FW W->RelA G T W (.d (.sl (l.map f))) v)/\sumM m l+1<=Rows.uptoBulk d/\∀a∈l,R a:=by
 obtain⟨n,hn⟩:=h;cases n with
 |zero=>simp[DataW.trod] at hn
 |succ n=>
  obtain⟨l,h1,h2,h3⟩:=Dec.sl ht hc hk (hd n) H enc _ _ hn;have hcells:v.cells.toList=[v]:=by
   cases v with
   |agg cs=>simp only[Value.okWide,ht,Cell.okWide,Cell.ok] at hval
   |_=>rfl
  rw[hcells] at h1;exact⟨l,fun G T hG=> .d (by rw[hG];simpa using h1.rel 0 (by simp) (by simp)),h2,h3⟩
end
section
variable {P:Program}{H:Type}{enc:TypeId×Value->H}
theorem zjH (hl:laidOutB P=true){W W':World} (hb:Below W.heap.size W W'):∀ {ts:List TypeId}{vs:List Value}{ds:List (DataW H)}{ps:List MemPlace},
  (∀t∈ts,P.readableRec t=true/\t<P.types.size)->DataW.TrodAll enc P W 0 (fun _=>true) true ts vs ds ps->(∀x∈ps,x.block<W.heap.size)->
  DataW.TrodAll enc P W' 0 (fun b=>decide (b<W.heap.size)) true ts vs ds ps
 | [],[],[],ps,_,h,_=>h
 |t::ts,v::vs,d::ds,ps,hr,h,hlt=>by
  obtain⟨p,q,h1,h2,rfl⟩:=h;exact⟨p,q,Below.trod hl (hr t (by simp)).1 (hr t (by simp)).2 h1 hb (fun x hx=>hlt x (by simp[hx])),
   zjH hl hb (fun t ht=>hr t (by simp[ht])) h2 (fun x hx=>hlt x (by simp[hx])),rfl⟩
theorem zvu {f:Func}{s:ChangeSpec}{W W':World}{args:Array Value}{ds gs:List (DataW H)}{before:List MemPlace}{tb:TypeId}
  (hW:DataW.Whole enc P f.params.toList s.vars false W args.toList ds gs before) (hvars:s.vars=[]) (hrt:f.resultTypes = #[tb]) (htb:P.underlying tb=some .bool)
  (hs:s.fn H (ds++gs)={ results:=[.lit (.bool true)],args:=ds }) (hl:laidOutB P=true) (hr:∀t∈f.params.toList,P.readableRec t=true/\t<P.types.size)
  (hb:Below W.heap.size W W'):s.post enc P f false true false false W args (.bool true) W':=by
 have hlt:∀p∈before,p.block<W.heap.size:=fun p hp=>hW.lt p hp;have hW0:=hW;obtain⟨p,q,hA,hV,rfl,hfz,_⟩:=hW;rw[hvars] at hV;cases gs with
 |cons g gs=>exact hV.elim
 |nil=>
  have hq:q=[]:=hV;subst hq;simp only[List.append_nil] at *;refine⟨ds,[],p,[],p,[],by simpa [hvars] using hW0, ?_, ?_, ?_,World.keptBut_mono (fun x hx=>⟨hx,.inr (.inl hx)⟩) (hb.frame (·∈p)),fun h=>by cases h⟩
  ·simp only[List.append_nil,hs,hrt];exact trodAll_cons_mk (shut_bool htb _) trodAll_mk0
  ·simp only[List.append_nil,hs];exact zjH hl hb hr hA hlt
  ·simp only[hvars,List.append_nil,hs];rfl
theorem zur {f:FuncId}{avs:List AV}{W:World}{args:Array Value}{r:AV} (hf:FnD P f avs [] r [])
  (hargs:∀G T,G.F=FW W->AllR G T W avs args):Calls P f args W fun e W'=>∃v G',e = .returned v/\RelA G' (fun _=>none) W' r v/\Below W.heap.size W W':=by
 let G:Gh:={ F:=FW W,loc:=fun _=>[] }
 refine(hf G W args ⟨hargs G _ rfl,fun id r h=>(by simp[getH] at h),fun id id' h=>(by simp[getH] at h),fun b hb=>FW_top hb⟩).mono ?_;rintro e W' ⟨v,r',hp',G',rfl,⟨rfl,rfl⟩,h⟩
 exact⟨v,G',rfl,h.res,⟨h.frm.os,h.frm.tape,h.frm.output,h.frm.size,fun b hb=>(h.frm.block b hb (by simp[zc2])).1⟩⟩
theorem RelA.bool_true {G:Gh}{T:TokF}{w:World}{v:Value} (h:RelA G T w (.d (.bool true)) v):v = .bool true:=by
 cases h with|d h=>cases h;rfl
theorem zvc {H:Type}{l:List (DataW H)} (hk:Rows.uptoSmall H l=true):Rows.uptoBulkAll l<=1048576:=of_decide_eq_true hk
end
end Go.Proofs.YtlfipehhbdjnjaaGreat
namespace Go.Proofs.YtlfipehhbdjnjaaGreat
open Go Go.ChangeShapes Go.WideShapes Go.ChangeAt Go.RowKit
set_option linter.unusedSimpArgs false
set_option linter.unusedVariables false
set_option maxRecDepth 100000
theorem zwy (W:World) (n:Nat):Dec Tryz.prog W n 5 (fun x:UInt8=>[D.int .u8 (x.toNat:Int)]) (fun _=>0) (fun _=>True):=fun H enc cs x hx=>by
 obtain⟨z,q1,q2,q3⟩:=Dec.int (k:= .u8) Tryz.underlying5 H enc cs x hx;have h:0<=z/\z<=255:=by
  simp[Lit.wf,IntKind.wrap,IntKind.signed,IntKind.bits,IntKind.min,IntKind.max] at q3;omega
 refine⟨UInt8.ofNat z.toNat, ?_,q2,trivial⟩;have e:(((UInt8.ofNat z.toNat).toNat:Nat):Int)=z:=by
  rw[UInt8.toNat_ofNat',Nat.mod_eq_of_lt (by omega)];omega
 show RelL W [D.int .u8 (((UInt8.ofNat z.toNat).toNat:Nat):Int)] cs
 rw[e];exact q1
end Go.Proofs.YtlfipehhbdjnjaaGreat
namespace Go.Proofs.YtlfipehhbdjnjaaGreat.fnWithinPattern
open Go Go.ChangeShapes Go.WideShapes Go.ChangeAt Go.RowKit
set_option linter.unusedSimpArgs false
set_option linter.unusedVariables false
theorem own:ownKnob Tryz.prog.godebug=none:=by kernel_rfl
theorem laidOut:laidOutB Tryz.prog=true:=by kernel_rfl
set_option maxRecDepth 100000 in
theorem contract (H:Type) (enc:TypeId×Value→H) (W:World) (base:Nat) (args:Array Value) (ds gs:List (DataW H)) (before:List MemPlace)
  (hval:∀(j:Nat) t v,Tryz.f4.params[j]?=some t→args[j]?=some v→Value.okWide Tryz.prog W .any base t v)
  (hW:DataW.Whole enc Tryz.prog Tryz.f4.params.toList Rows.fnWithinPatternSpec.vars false W args.toList ds gs before) (hk:Rows.uptoSmall H (ds++gs)=true):
  Calls Tryz.prog 4 args W fun e W'=>∃v,e = .returned v∧Rows.fnWithinPatternSpec.post enc Tryz.prog Tryz.f4 false true false false W args v W':=by
 have hb:=zvc hk
 have hW':=hW
 obtain⟨p,q,hA0,hV,rfl,hfz,hnd⟩:=hW
 have hA:DataW.TrodAll enc Tryz.prog W 0 (fun _=>true) true Tryz.f4.params.toList args.toList ds p:=hA0
 rw[Tryz.params4] at hA hval
 obtain⟨v0,vs0,d0,ds0,p0,q0,hargs,rfl,rfl,h0,r0⟩:=trodAll_cons hA
 obtain⟨rfl,rfl,rfl⟩:=trodAll_nil r0
 obtain rfl:args = #[v0]:=by cases args;simp_all
 obtain⟨rfl,rfl⟩:=trodVars_none hV
 simp only[List.append_nil,Rows.uptoBulkAll] at hb
 obtain⟨code,a0,b0,_⟩:=zw4 (k:=0) Tryz.underlying22 (by kernel_rfl) (fun _=>rfl) (zwy W) (hval 0 _ v0 rfl rfl) h0
 have ln_code:code.length≤1000000000000:=by have:=zrn (fun _:UInt8=>0) code;omega
 refine(zur ((zhO ln_code)) (W:=W) (args:=#[v0]) (fun G T hG=>⟨rfl,fun i hi hv=>?_⟩)).mono ?_
 ·match i,hi with
  |0,_=>exact a0 G T hG
 ·rintro e W' ⟨v,G',rfl,hr,hbelow⟩
  obtain rfl:=hr.bool_true
  exact⟨_,rfl,zvu hW' rfl rfl Tryz.underlying4 rfl laidOut (fun t ht=>by
   simp only[Tryz.params4,List.mem_cons,List.not_mem_nil,or_false] at ht
   rcases ht with rfl<;>exact⟨by kernel_rfl,of_decide_eq_true (by kernel_rfl)⟩) hbelow⟩
set_option maxRecDepth 100000 in
theorem lifted (os:Os) (started:os.Started) (H:Type) (enc:TypeId×Value→H) (F:Stop.Interp):
  ReturnsInHanded {} Tryz.checked os 4 .any ((Rows.OpenSpec.upto Rows.fnWithinPatternSpec).pre6 enc Tryz.prog Tryz.f4 Rows.fnWithinPatternUptoRow.domain false) (((Rows.OpenSpec.upto Rows.fnWithinPatternSpec).at F).post enc Tryz.prog Tryz.f4 false true false false):=by
 refine returnsInHanded_of_cond (C:=Tryz.checked) (s:=Rows.OpenSpec.upto Rows.fnWithinPatternSpec) (k:=Rows.uptoSmall) rfl own started (by kernel_rfl) Tryz.func4
  (OpenSpec.witness (enc:=enc) (C:=Tryz.checked) (s:=Rows.OpenSpec.upto Rows.fnWithinPatternSpec) (k:=Rows.uptoSmall) rfl false ⟨#[],#[.slice none 0 0],[]⟩ 8 (by kernel_rfl) (by kernel_rfl) (by kernel_rfl)
   (x:=([.nil],[],[])) (by kernel_rfl) rfl (by kernel_rfl)) ?_
 intro W base args ds gs before hval hW _ hk _
 exact contract H enc W base args ds gs before hval hW hk
theorem kf1:(Rows.fnWithinPatternUptoRow.inPlace == Tryz.pinned.checked.prog.inPlace 4)=true:=by kernel_rfl
theorem kf2:(Rows.fnWithinPatternUptoRow.unfollowed == Tryz.pinned.checked.prog.unfollowed 4)=true:=by kernel_rfl
theorem kf3:(Rows.fnWithinPatternUptoRow.recurses == Tryz.pinned.checked.prog.recurses 4)=true:=by kernel_rfl
theorem kf4:(Rows.fnWithinPatternUptoRow.named == Tryz.pinned.checked.prog.varsNamed 4)=true:=by kernel_rfl
theorem kf5:laidOutB Tryz.pinned.checked.prog=true:=by kernel_rfl
theorem kf6:mapsRowed Tryz.pinned.checked.prog=true:=by kernel_rfl
theorem kf7:Tryz.pinned.checked.prog.stopsHeard=true:=by kernel_rfl
theorem kf8:Tryz.pinned.checked.prog.mayEnter=true:=by kernel_rfl
theorem kf9:(Rows.fnWithinPatternUptoRow.lifted == Tryz.pinned.checked.prog.liftsFinal)=true:=by kernel_rfl
theorem kf0:(Rows.fnWithinPatternUptoRow.plainKeys == Tryz.pinned.checked.prog.plainKeys)=true:=by kernel_rfl
theorem facts:joinedFacts Tryz.pinned.checked.prog 4 Tryz.f4 (Rows.OpenSpec.upto Rows.fnWithinPatternSpec).bare Rows.fnWithinPatternUptoRow=true:=by
 unfold joinedFacts
 rw[kf1,kf2,kf3,kf4,kf5,kf6,kf7,kf8,kf9,kf0]
 kernel_rfl
theorem named:Tryz.pinned.checked.prog.funcNamed Rows.fnWithinPatternUptoRow.func=some 4:=by kernel_rfl
theorem over:Rows.fnWithinPatternUptoRow.holds Tryz.pinned (Rows.OpenSpec.upto Rows.fnWithinPatternSpec):=
 OpenClaim.holds_of_cond 4 Tryz.f4 rfl rfl rfl rfl rfl rfl rfl ⟨rfl,rfl,rfl,rfl,rfl⟩ rfl rfl rfl rfl rfl named Tryz.func4 facts
  (of_decide_eq_true (by as_aux_lemma=>kernel_rfl)) (by as_aux_lemma=>unfold Func.isWrapper;first|(rw[if_pos (by decide +kernel)];kernel_rfl)|(rw[if_neg (by decide +kernel)];exact⟨rfl,rfl⟩))
  (fun os started H enc _ F=>lifted os started H enc F)
theorem proved:Rows.FnWithinPatternUptoSaid:=over
end Go.Proofs.YtlfipehhbdjnjaaGreat.fnWithinPattern
