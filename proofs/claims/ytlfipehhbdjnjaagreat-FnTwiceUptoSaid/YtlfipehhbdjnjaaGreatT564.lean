/-
  THE ABSTRACT WALK AND THE WALKS, part 4 of 6: the parts F36, F37, F38, F39, F90, F91, F92, F93, F94, F97, F98, F99, F95, F96, F100, F101, F103, F104, F105, F111, F148, G3, G4, F70, F71, F72, F74, F75, F76, F77, F78, F79, F59.
-/
import Derived.Test.YtlfipehhbdjnjaaGreatT563
namespace Go.Proofs.YtlfipehhbdjnjaaGreat
open Go
set_option linter.unusedSimpArgs false
set_option linter.unusedVariables false
set_option maxRecDepth 100000
set_option maxHeartbeats 2000000
def namL (f:Pat->Int->Nat->Pat×Int×Nat):List Pat->Int->Nat->List Pat×Int×Nat
 | [],m,q=>([],m,q)
 |x::r,m,q=>((f x m q).1::(namL f r (f x m q).2.1 (f x m q).2.2).1,(namL f r (f x m q).2.1 (f x m q).2.2).2)
def namP (b:Str):Nat->Pat->Int->Nat->Pat×Int×Nat
 |0,p,m,q=>(p,m,q)
 |n+1,p,m,q=>
  if 5<m\/p.op=5\/p.op=3 then (p,m,q)
  else if p.op=1/\zan b q 2=0 then (⟨2,0,0,0,m,[]⟩,m+1,q+1)
  else if (namL (namP b n) p.kids m (if p.op=1 then q+1 else q)).2.1<=5 then
   (if zan b (namL (namP b n) p.kids m (if p.op=1 then q+1 else q)).2.2 6=0 then
    (⟨6,0,0,0,(namL (namP b n) p.kids m (if p.op=1 then q+1 else q)).2.1,[⟨p.op,p.ctor,p.n,p.m,p.var,(namL (namP b n) p.kids m (if p.op=1 then q+1 else q)).1⟩]⟩,
     (namL (namP b n) p.kids m (if p.op=1 then q+1 else q)).2.1+1,(namL (namP b n) p.kids m (if p.op=1 then q+1 else q)).2.2+1)
   else (⟨p.op,p.ctor,p.n,p.m,p.var,(namL (namP b n) p.kids m (if p.op=1 then q+1 else q)).1⟩,(namL (namP b n) p.kids m (if p.op=1 then q+1 else q)).2.1,(namL (namP b n) p.kids m (if p.op=1 then q+1 else q)).2.2+1))
  else (⟨p.op,p.ctor,p.n,p.m,p.var,(namL (namP b n) p.kids m (if p.op=1 then q+1 else q)).1⟩,(namL (namP b n) p.kids m (if p.op=1 then q+1 else q)).2.1,(namL (namP b n) p.kids m (if p.op=1 then q+1 else q)).2.2)
section
variable {b:Str}{n:Nat}{p:Pat}{m:Int}{q:Nat}{ks:List Pat}{zm:Int}{zq:Nat}
theorem zmw (h:5<m\/p.op=5\/p.op=3):namP b (n+1) p m q=(p,m,q):=by simp only[namP];rw[if_pos h]
theorem zmx (h:¬(5<m\/p.op=5\/p.op=3)) (h2:p.op=1/\zan b q 2=0):namP b (n+1) p m q=(⟨2,0,0,0,m,[]⟩,m+1,q+1):=by simp only[namP];rw[if_neg h,if_pos h2]
theorem zmy (h:¬(5<m\/p.op=5\/p.op=3)) (h2:¬(p.op=1/\zan b q 2=0)) (hz:(ks,zm,zq)=namL (namP b n) p.kids m (if p.op=1 then q+1 else q)) (h3:zm<=5) (h4:zan b zq 6=0):
  namP b (n+1) p m q=(⟨6,0,0,0,zm,[⟨p.op,p.ctor,p.n,p.m,p.var,ks⟩]⟩,zm+1,zq+1):=by
 simp only[namP];rw[if_neg h,if_neg h2,<-hz];dsimp only;rw[if_pos h3,if_pos h4]
theorem zmz (h:¬(5<m\/p.op=5\/p.op=3)) (h2:¬(p.op=1/\zan b q 2=0)) (hz:(ks,zm,zq)=namL (namP b n) p.kids m (if p.op=1 then q+1 else q)) (h3:zm<=5) (h4:¬zan b zq 6=0):
  namP b (n+1) p m q=(⟨p.op,p.ctor,p.n,p.m,p.var,ks⟩,zm,zq+1):=by
 simp only[namP];rw[if_neg h,if_neg h2,<-hz];dsimp only;rw[if_pos h3,if_neg h4]
theorem zmA (h:¬(5<m\/p.op=5\/p.op=3)) (h2:¬(p.op=1/\zan b q 2=0)) (hz:(ks,zm,zq)=namL (namP b n) p.kids m (if p.op=1 then q+1 else q)) (h3:¬zm<=5):
  namP b (n+1) p m q=(⟨p.op,p.ctor,p.n,p.m,p.var,ks⟩,zm,zq):=by
 simp only[namP];rw[if_neg h,if_neg h2,<-hz];dsimp only;rw[if_neg h3]
end
def NamOk (p:Pat) (m:Int) (q:Nat) (r:Pat×Int×Nat):Prop:=m<=r.2.1/\r.2.1<=6/\r.2.2<=q+2*p.size/\r.1.size<=2*p.size/\(p.ok->r.1.ok)
theorem zrH {f:Pat->Int->Nat->Pat×Int×Nat}:∀(l:List Pat) (m:Int) (q:Nat),(∀x∈l,∀m q,0<=m->m<=6->NamOk x m q (f x m q))->0<=m->m<=6->
  m<=(namL f l m q).2.1/\(namL f l m q).2.1<=6/\(namL f l m q).2.2<=q+2*Pats.size l/\Pats.size (namL f l m q).1<=2*Pats.size l/\(namL f l m q).1.length=l.length/\(Pats.ok l->Pats.ok (namL f l m q).1)
 | [],m,q,_,_,h6=>by simp[namL,Pats.size,h6]
 |x::r,m,q,h,h0,h6=>by
  obtain⟨a1,a2,a3,a4,a5⟩:=h x (by simp) m q h0 h6;obtain⟨b1,b2,b3,b4,b5,b6⟩:=zrH r (f x m q).2.1 (f x m q).2.2 (fun y hy=>h y (by simp[hy])) (by omega) a2;simp only[namL,Pats.size,xab];refine⟨by omega,by omega,by omega,by omega,by omega,fun ho=>?_⟩;exact⟨a5 ho.1,b6 ho.2⟩
theorem zic {b:Str}:∀(n:Nat) (p:Pat) (m:Int) (q:Nat),0<=m->m<=6->NamOk p m q (namP b n p m q)
 |0,p,m,q,h0,h6=>⟨by simp[namP],by simp[namP,h6],by simp[namP],by simp[namP];omega,fun h=>h⟩
 |n+1,p,m,q,h0,h6=>by
  have hs:=Pat.size_eq p;by_cases h:5<m\/p.op=5\/p.op=3
  ·rw[zmw h];exact⟨Int.le_refl _,h6,by dsimp only;omega,by dsimp only;omega,fun h=>h⟩
  ·by_cases h2:p.op=1/\zan b q 2=0
   ·rw[zmx h h2];refine⟨by dsimp only;omega,by dsimp only;omega,by dsimp only;omega, ?_,fun _=>?_⟩
    ·show(Pat.mk 2 0 0 0 m []).size<=_;rw[Pat.size_eq];simp only[Pat.kids,Pats.size];omega
    ·show(Pat.mk 2 0 0 0 m []).ok;rw[Pat.ok_iff];exact⟨by simp[Pat.kids],trivial⟩
   ·generalize hz:namL (namP b n) p.kids m (if p.op=1 then q+1 else q)=z;obtain⟨ks,zm,zq⟩:=z;have hq:(if p.op=1 then q+1 else q)<=q+1:=by split<;>omega
    obtain⟨b1,b2,b3,b4,b5,b6⟩:=zrH (f:=namP b n) p.kids m (if p.op=1 then q+1 else q) (fun x _ m q h0 h6=>zic n x m q h0 h6) h0 h6;rw[hz] at b1 b2 b3 b4 b5 b6;dsimp only at b1 b2 b3 b4 b5 b6;have so:(Pat.mk p.op p.ctor p.n p.m p.var ks).size=1+Pats.size ks:=by rw[Pat.size_eq];rfl
    have ko:p.ok->(Pat.mk p.op p.ctor p.n p.m p.var ks).ok:=fun h=>by
     rw[Pat.ok_iff] at h ⊢;exact⟨by show ks.length<=_;rw[b5];exact h.1,b6 h.2⟩
    by_cases h3:zm<=5
    ·by_cases h4:zan b zq 6=0
     ·rw[zmy h h2 hz.symm h3 h4];refine⟨by dsimp only;omega,by dsimp only;omega,by dsimp only;omega, ?_,fun hk=>?_⟩
      ·dsimp only;rw[Pat.size_eq];simp only[Pat.kids,Pats.size];rw[so];omega
      ·dsimp only;rw[Pat.ok_iff];exact⟨by simp[Pat.kids],ko hk,trivial⟩
     ·rw[zmz h h2 hz.symm h3 h4];exact⟨b1,b2,by dsimp only;omega,by dsimp only;rw[so];omega,ko⟩
    ·rw[zmA h h2 hz.symm h3];exact⟨b1,b2,by dsimp only;omega,by dsimp only;rw[so];omega,ko⟩
theorem zli {f:Pat->Int->Nat->Pat×Int×Nat}{ks:List Pat}{zm:Int}{zq:Nat}{z:List Pat×Int×Nat} (h:(ks++(namL f [] zm zq).1,(namL f [] zm zq).2)=z):(ks,zm,zq)=z:=by
 rw[<-h];simp[namL]
theorem xav {l:List Pat}{y:Pat}:Pats.size (l++[y])=Pats.size l+y.size:=by
 have:=Pats.size_split (pre:=l) (rest:=[]) (y:=y) rfl;simpa [Pats.size] using this
theorem zfJ {b:Str} (hb:b.length<=2000):∀(n:Nat){p:Pat}{m:Int}{q:Nat},p.size<=n->p.ok->0<=m->m<=6->q+2*p.size<=1000000->
  FnD Tryz.prog 229 [.ref 900 0,.agg [.d (.i p.op),.d (.i p.ctor),.d (.i p.n),.d (.i p.m),.d (.i p.var),.d (zad p.kids)],.d (.i m)] [(900,some (rdB b q))] (.tup [.agg [.d (.i (namP b n p m q).1.op),.d (.i (namP b n p m q).1.ctor),.d (.i (namP b n p m q).1.n),.d (.i (namP b n p m q).1.m),.d (.i (namP b n p m q).1.var),.d (zad (namP b n p m q).1.kids)],.d (.i (namP b n p m q).2.1)]) [(900,some (rdB b (namP b n p m q).2.2))]
 |0,p,m,q,h,_,_,_,_=>by rw[Pat.size_eq] at h;omega
 |n+1,p,m,q,kn,hok,k0,k6,hq=>by
  have hs:=Pat.size_eq p;have hok':=hok;rw[Pat.ok_iff] at hok';have ih:=fun(x:Pat) (m:Int) (q:Nat) (h0:0<=m) (h6:m<=6)=>zic (b:=b) n x m q h0 h6;have hysz:∀ {pre rest:List Pat}{y:Pat},pre++y::rest=p.kids->y.size+Pats.size pre+Pats.size rest=Pats.size p.kids:=fun h=>by have:=Pats.size_split h;omega
  have hq1:(if p.op=1 then q+1 else q)<=q+1:=by split<;>omega
  generalize hqq:(if p.op=1 then q+1 else q)=q1 at hq1;have hqa:p.op=1->q1=q+1:=fun h=>by rw[<-hqq,if_pos h]
  have hqb:¬p.op=1->q1=q:=fun h=>by rw[<-hqq,if_neg h]
  refine bd Tryz.f229 82 [] [] fun w0 F0 own kept hk=>?_;refine bx 3004 ?_;refine ab 3006 tz36 ?_;refine ev ?_;refine sq ?_ ?_<;>intro h1 h1p h1s<;>(try simp only[Q,Pat.cs_len] at h1p);refine sqT ?_;refine sqT ?_;refine so ty36 ?_;refine ev ?_;refine rn [(900,some (rdB b (namP b (n+1) p m q).2.2))] (.cons (.cellA ty36 rfl rfl rfl) (.cons (.tmp rfl) .nil)) (.tup (.cons (.agg (.cons (.eqd ?_) (.cons (.eqd ?_) (.cons (.eqd ?_) (.cons (.eqd ?_) (.cons (.eqd ?_) (.cons (.eqd ?_) .nil))))))) (.cons (.eqd ?_) .nil))) ⟨rfl,rfl⟩ (SubO.get ⟨.inr ?_,⟨.inl rfl,trivial⟩⟩) (zaC rfl);rotate_left 8;refine sq ?_ ?_<;>intro h3 h3p h3s<;>(try simp only[Q,Pat.cs_len] at h3p);refine sqT ?_;refine so ty36 ?_;refine ev ?_;refine rn [(900,some (rdB b (namP b (n+1) p m q).2.2))] (.cons (.cellA ty36 rfl rfl rfl) (.cons (.tmp rfl) .nil)) (.tup (.cons (.agg (.cons (.eqd ?_) (.cons (.eqd ?_) (.cons (.eqd ?_) (.cons (.eqd ?_) (.cons (.eqd ?_) (.cons (.eqd ?_) .nil))))))) (.cons (.eqd ?_) .nil))) ⟨rfl,rfl⟩ (SubO.get ⟨.inr ?_,⟨.inl rfl,trivial⟩⟩) (zaC rfl);rotate_left 8;refine sq ?_ ?_<;>intro h5 h5p h5s<;>(try simp only[Q,Pat.cs_len] at h5p);refine so ty36 ?_;refine ev ?_;refine rn [(900,some (rdB b (namP b (n+1) p m q).2.2))] (.cons (.cellA ty36 rfl rfl rfl) (.cons (.tmp rfl) .nil)) (.tup (.cons (.agg (.cons (.eqd ?_) (.cons (.eqd ?_) (.cons (.eqd ?_) (.cons (.eqd ?_) (.cons (.eqd ?_) (.cons (.eqd ?_) .nil))))))) (.cons (.eqd ?_) .nil))) ⟨rfl,rfl⟩ (SubO.get ⟨.inr ?_,⟨.inl rfl,trivial⟩⟩) (zaC rfl);rotate_left 8;refine sq ?_ ?_<;>intro h6 h6p h6s<;>(try simp only[Q,Pat.cs_len] at h6p);refine Walk.call (cr:=[]) zbQ (zaM (p:=q) (n:=2) hb (by omega) (by omega)) rfl (.some rfl rfl h6) rfl rfl (LeL.refl _) ⟨rfl,trivial⟩ rfl rfl rfl ?_;refine evs [] [(30,true)] ?_ ⟨⟨_,rfl,h6⟩,trivial⟩;refine sq ?_ ?_<;>intro h7 h7p h7s<;>(try simp only[Q,Pat.cs_len] at h7p);refine bu [0,4] [_,_] st36 ?_;refine ev ?_;refine ar ?_;refine so ty36 ?_;refine ev ?_;refine rn [(900,some (rdB b (namP b (n+1) p m q).2.2))] (.cons (.cellA ty36 rfl rfl rfl) (.cons (.tmp rfl) .nil)) (.tup (.cons (.agg (.cons (.eqd ?_) (.cons (.eqd ?_) (.cons (.eqd ?_) (.cons (.eqd ?_) (.cons (.eqd ?_) (.cons (.nild ?_) .nil))))))) (.cons (.eqd ?_) .nil))) ⟨rfl,rfl⟩ (SubO.get ⟨.inr ?_,⟨.inl rfl,trivial⟩⟩) (zaC rfl);rotate_left 8;refine ab 3008 tz36 ?_;refine so ty36 ?_;refine tv ?_;refine so ty34 ?_;refine tv ?_;refine xan 3008 5 1 6 rfl rfl rfl rfl ?_;refine xak (ι:=List (Pat)×List (Pat)×(Int)×(Nat)×(List Pat)) hk (fun x=>[(10,.d (.i (x.1.length:Int))),(9,.d (.i x.2.2.1))]) [11,12,42,43,44,45,46,47,48,49,50,51,52,53,54,55,56,57,58,59,60,61,62,63,64,65,66] (fun x=>[(900,some (.box [.d (zcl b),.d (.i (x.2.2.2.1:Int))])),(3008,some (.box [.d (.i p.op),.d (.i p.ctor),.d (.i p.n),.d (.i p.m),.d (.i p.var),.gl 1 (x.2.2.2.2.map Pat.cc)])),(1,some (.tok (x.2.2.2.2.map Pat.cc).length 6))]) (fun x=>x.1++x.2.1=p.kids/\0<=x.2.2.1/\x.2.2.1<=6/\x.2.2.2.1<=q1+2*Pats.size x.1/\x.2.2.2.2.length=x.1.length/\(x.2.2.2.2++(namL (namP b n) x.2.1 x.2.2.1 x.2.2.2.1).1,(namL (namP b n) x.2.1 x.2.2.1 x.2.2.2.1).2)=namL (namP b n) p.kids m q1) (fun x=>x.2.1.length) ([],p.kids,m,q1,[]) ⟨by simp,by simpa using k0,by simpa using k6,by simp[Pats.size],by simp,by simp⟩ ⟨⟨_,rfl,xaq ?_⟩,⟨⟨_,rfl,xaq ?_⟩,trivial⟩⟩ ⟨?_,⟨?_,⟨zab ?_,trivial⟩⟩⟩ (fun x=>rfl) (fun x hg1=>?_);iterate 2 focus ((simp;done))
  iterate 2 focus (first|(simp[getH];done)|(show some (Res.box _)=some (Res.box _);rw[hqa (by omega)];all_goals rfl))
  focus ((simp;done))
  obtain⟨pre,rest,zm,zq,ks⟩:=x;dsimp only at hg1 ⊢;refine evc [] [] ?_;refine sq ?_ ?_<;>intro h8 h8p h8s<;>(try simp only[Q,Pat.cs_len] at h8p);rcases rest with _|⟨y,rest⟩
  ·exfalso;simp_all
  have hni:=ih y zm zq hg1.2.1 hg1.2.2.1;have hn1:=hni.1;have hn2:=hni.2.1;have hn3:=hni.2.2.1;refine xaS sl34 .none rfl rfl rfl rfl (Pat.cs_at' hg1.1) rfl ?_;refine ev ?_;refine wd zpl (zfJ hb n (p:=y) (m:=zm) (q:=zq) (by have:=hysz hg1.1;omega) (Pats.ok_mem hok'.2 y (by rw[<-hg1.1];simp)) (by omega) (by omega) (by have:=hysz hg1.1;omega)) rfl rfl ⟨rfl,trivial⟩ ?_;refine ev ?_;refine ab 3011 tz36 ?_;refine so ty36 ?_;refine ev ?_;refine si [0] [_] sl34 tz36 ?_;refine ap sl34 zz36 rfl rfl rfl (by simp) (by have hz:=congrArg List.length hg1.1;simp at hz ⊢;omega) ?_;refine ev ?_;refine so ty34 ?_;refine tv ?_;refine ar ?_;refine xah ((pre++[y],rest,(namP b n y zm zq).2.1,(namP b n y zm zq).2.2,ks++[(namP b n y zm zq).1])) ⟨⟨(by have hz:=hg1.1;rw[<-hz];simp),⟨by dsimp only;omega,by dsimp only;omega,(by rw[xav];dsimp only;omega),(by simp[hg1.2.2.2.2.1]),(by rw[<-hg1.2.2.2.2.2];simp[namL])⟩⟩,(by simp),sx ⟨⟨_,rfl,xaq ?_⟩,⟨⟨_,rfl,xaq ?_⟩,trivial⟩⟩ ⟨?_,⟨?_,⟨zab ?_,trivial⟩⟩⟩⟩;iterate 2 focus ((simp;done))
  iterate 2 focus (first|rfl|(simp[getH];done))
  focus ((simp;done))
  have hrest:rest=[]:=by
   rcases rest with _|⟨a,b⟩
   ·rfl
   ·exfalso;have hz:=congrArg List.length (hg1.1);simp only[xaa,xab,xac] at hz;omega
  subst hrest;refine sq ?_ ?_<;>intro h9 h9p h9s<;>(try simp only[Q,Pat.cs_len] at h9p);refine Walk.call (cr:=[]) zbQ (zaM (p:=zq) (n:=6) hb (by have e:=hg1.1;rw[List.append_nil] at e;rw[<-e] at hs;omega) (by omega)) rfl (.some rfl rfl h9) rfl rfl (LeL.refl _) ⟨rfl,trivial⟩ rfl rfl rfl ?_;refine evs [] [(69,true)] ?_ ⟨⟨_,rfl,h9⟩,trivial⟩;refine sq ?_ ?_<;>intro h10 h10p h10s<;>(try simp only[Q,Pat.cs_len] at h10p);refine si [0] [_] sl34 tz36 ?_;refine bu [0,4,5] [_,_,_] st36 ?_;refine ev ?_;refine ar ?_;refine so ty36 ?_;refine ev ?_;refine rn [(900,some (rdB b (namP b (n+1) p m q).2.2))] (.cons (.cellA ty36 rfl rfl rfl) (.cons (.tmp rfl) .nil)) (.tup (.cons (.agg (.cons (.eqd ?_) (.cons (.eqd ?_) (.cons (.eqd ?_) (.cons (.eqd ?_) (.cons (.eqd ?_) (.cons (.eqd ?_) .nil))))))) (.cons (.eqd ?_) .nil))) ⟨rfl,rfl⟩ (SubO.get ⟨.inr ?_,⟨.inl rfl,trivial⟩⟩) (zaC rfl);rotate_left 8;refine so ty36 ?_;refine ev ?_;refine rn [(900,some (rdB b (namP b (n+1) p m q).2.2))] (.cons (.cellA ty36 rfl rfl rfl) (.cons (.tmp rfl) .nil)) (.tup (.cons (.agg (.cons (.eqd ?_) (.cons (.eqd ?_) (.cons (.eqd ?_) (.cons (.eqd ?_) (.cons (.eqd ?_) (.cons (.gld ?_) .nil))))))) (.cons (.eqd ?_) .nil))) ⟨rfl,rfl⟩ (SubO.get ⟨.inr ?_,⟨.inl rfl,trivial⟩⟩) (zaC rfl);rotate_left 8;refine sqF ?_;refine so ty36 ?_;refine ev ?_;refine rn [(900,some (rdB b (namP b (n+1) p m q).2.2))] (.cons (.cellA ty36 rfl rfl rfl) (.cons (.tmp rfl) .nil)) (.tup (.cons (.agg (.cons (.eqd ?_) (.cons (.eqd ?_) (.cons (.eqd ?_) (.cons (.eqd ?_) (.cons (.eqd ?_) (.cons (.gld ?_) .nil))))))) (.cons (.eqd ?_) .nil))) ⟨rfl,rfl⟩ (SubO.get ⟨.inr ?_,⟨.inl rfl,trivial⟩⟩) (zaC rfl);rotate_left 8;refine sqF ?_;refine ab 3008 tz36 ?_;refine so ty36 ?_;refine tv ?_;refine so ty34 ?_;refine tv ?_;refine xan 3008 5 1 6 rfl rfl rfl rfl ?_;refine xak (ι:=List (Pat)×List (Pat)×(Int)×(Nat)×(List Pat)) hk (fun x=>[(10,.d (.i (x.1.length:Int))),(9,.d (.i x.2.2.1))]) [11,12,42,43,44,45,46,47,48,49,50,51,52,53,54,55,56,57,58,59,60,61,62,63,64,65,66] (fun x=>[(900,some (.box [.d (zcl b),.d (.i (x.2.2.2.1:Int))])),(3008,some (.box [.d (.i p.op),.d (.i p.ctor),.d (.i p.n),.d (.i p.m),.d (.i p.var),.gl 1 (x.2.2.2.2.map Pat.cc)])),(1,some (.tok (x.2.2.2.2.map Pat.cc).length 6))]) (fun x=>x.1++x.2.1=p.kids/\0<=x.2.2.1/\x.2.2.1<=6/\x.2.2.2.1<=q1+2*Pats.size x.1/\x.2.2.2.2.length=x.1.length/\(x.2.2.2.2++(namL (namP b n) x.2.1 x.2.2.1 x.2.2.2.1).1,(namL (namP b n) x.2.1 x.2.2.1 x.2.2.2.1).2)=namL (namP b n) p.kids m q1) (fun x=>x.2.1.length) ([],p.kids,m,q1,[]) ⟨by simp,by simpa using k0,by simpa using k6,by simp[Pats.size],by simp,by simp⟩ ⟨⟨_,rfl,xaq ?_⟩,⟨⟨_,rfl,xaq ?_⟩,trivial⟩⟩ ⟨?_,⟨?_,⟨zab ?_,trivial⟩⟩⟩ (fun x=>rfl) (fun x hg1=>?_);iterate 2 focus ((simp;done))
  iterate 2 focus (first|(simp[getH];done)|(show some (Res.box _)=some (Res.box _);rw[hqb (by omega)];all_goals rfl))
  focus ((simp;done))
  obtain⟨pre,rest,zm,zq,ks⟩:=x;dsimp only at hg1 ⊢;refine evc [] [] ?_;refine sq ?_ ?_<;>intro h13 h13p h13s<;>(try simp only[Q,Pat.cs_len] at h13p);rcases rest with _|⟨y,rest⟩
  ·exfalso;simp_all
  have hni:=ih y zm zq hg1.2.1 hg1.2.2.1;have hn1:=hni.1;have hn2:=hni.2.1;have hn3:=hni.2.2.1;refine xaS sl34 .none rfl rfl rfl rfl (Pat.cs_at' hg1.1) rfl ?_;refine ev ?_;refine wd zpl (zfJ hb n (p:=y) (m:=zm) (q:=zq) (by have:=hysz hg1.1;omega) (Pats.ok_mem hok'.2 y (by rw[<-hg1.1];simp)) (by omega) (by omega) (by have:=hysz hg1.1;omega)) rfl rfl ⟨rfl,trivial⟩ ?_;refine ev ?_;refine ab 3011 tz36 ?_;refine so ty36 ?_;refine ev ?_;refine si [0] [_] sl34 tz36 ?_;refine ap sl34 zz36 rfl rfl rfl (by simp) (by have hz:=congrArg List.length hg1.1;simp at hz ⊢;omega) ?_;refine ev ?_;refine so ty34 ?_;refine tv ?_;refine ar ?_;refine xah ((pre++[y],rest,(namP b n y zm zq).2.1,(namP b n y zm zq).2.2,ks++[(namP b n y zm zq).1])) ⟨⟨(by have hz:=hg1.1;rw[<-hz];simp),⟨by dsimp only;omega,by dsimp only;omega,(by rw[xav];dsimp only;omega),(by simp[hg1.2.2.2.2.1]),(by rw[<-hg1.2.2.2.2.2];simp[namL])⟩⟩,(by simp),sx ⟨⟨_,rfl,xaq ?_⟩,⟨⟨_,rfl,xaq ?_⟩,trivial⟩⟩ ⟨?_,⟨?_,⟨zab ?_,trivial⟩⟩⟩⟩;iterate 2 focus ((simp;done))
  iterate 2 focus (first|rfl|(simp[getH];done))
  focus ((simp;done))
  have hrest:rest=[]:=by
   rcases rest with _|⟨a,b⟩
   ·rfl
   ·exfalso;have hz:=congrArg List.length (hg1.1);simp only[xaa,xab,xac] at hz;omega
  subst hrest;refine sq ?_ ?_<;>intro h14 h14p h14s<;>(try simp only[Q,Pat.cs_len] at h14p);refine Walk.call (cr:=[]) zbQ (zaM (p:=zq) (n:=6) hb (by have e:=hg1.1;rw[List.append_nil] at e;rw[<-e] at hs;omega) (by omega)) rfl (.some rfl rfl h14) rfl rfl (LeL.refl _) ⟨rfl,trivial⟩ rfl rfl rfl ?_;refine evs [] [(69,true)] ?_ ⟨⟨_,rfl,h14⟩,trivial⟩;refine sq ?_ ?_<;>intro h15 h15p h15s<;>(try simp only[Q,Pat.cs_len] at h15p);refine si [0] [_] sl34 tz36 ?_;refine bu [0,4,5] [_,_,_] st36 ?_;refine ev ?_;refine ar ?_;refine so ty36 ?_;refine ev ?_;refine rn [(900,some (rdB b (namP b (n+1) p m q).2.2))] (.cons (.cellA ty36 rfl rfl rfl) (.cons (.tmp rfl) .nil)) (.tup (.cons (.agg (.cons (.eqd ?_) (.cons (.eqd ?_) (.cons (.eqd ?_) (.cons (.eqd ?_) (.cons (.eqd ?_) (.cons (.eqd ?_) .nil))))))) (.cons (.eqd ?_) .nil))) ⟨rfl,rfl⟩ (SubO.get ⟨.inr ?_,⟨.inl rfl,trivial⟩⟩) (zaC rfl);rotate_left 8;refine so ty36 ?_;refine ev ?_;refine rn [(900,some (rdB b (namP b (n+1) p m q).2.2))] (.cons (.cellA ty36 rfl rfl rfl) (.cons (.tmp rfl) .nil)) (.tup (.cons (.agg (.cons (.eqd ?_) (.cons (.eqd ?_) (.cons (.eqd ?_) (.cons (.eqd ?_) (.cons (.eqd ?_) (.cons (.gld ?_) .nil))))))) (.cons (.eqd ?_) .nil))) ⟨rfl,rfl⟩ (SubO.get ⟨.inr ?_,⟨.inl rfl,trivial⟩⟩) (zaC rfl);rotate_left 8;refine sqF ?_;refine so ty36 ?_;refine ev ?_;refine rn [(900,some (rdB b (namP b (n+1) p m q).2.2))] (.cons (.cellA ty36 rfl rfl rfl) (.cons (.tmp rfl) .nil)) (.tup (.cons (.agg (.cons (.eqd ?_) (.cons (.eqd ?_) (.cons (.eqd ?_) (.cons (.eqd ?_) (.cons (.eqd ?_) (.cons (.gld ?_) .nil))))))) (.cons (.eqd ?_) .nil))) ⟨rfl,rfl⟩ (SubO.get ⟨.inr ?_,⟨.inl rfl,trivial⟩⟩) (zaC rfl);rotate_left 8;all_goals ((first|(rw[zmw (by omega)];all_goals first|rfl|(show _=D.sl (Pat.cs _);rw[Pat.cs_cc];all_goals rfl)|(show _=Pat.cs _;rw[Pat.cs_cc];all_goals rfl)|(show _=D.sl [[D.i _,D.i _,D.i _,D.i _,D.i _,D.sl (Pat.cs _)]];rw[Pat.cs_cc];all_goals rfl))|(rw[zmx (by omega) ⟨by omega,by omega⟩];all_goals first|rfl|(show _=D.sl (Pat.cs _);rw[Pat.cs_cc];all_goals rfl)|(show _=Pat.cs _;rw[Pat.cs_cc];all_goals rfl)|(show _=D.sl [[D.i _,D.i _,D.i _,D.i _,D.i _,D.sl (Pat.cs _)]];rw[Pat.cs_cc];all_goals rfl))|(have hz:(ks,zm,zq)=namL (namP b n) p.kids m (if p.op=1 then q+1 else q):=(by rw[hqq];exact zli hg1.2.2.2.2.2);rw[zmy (by omega) (fun hh=>by omega) hz (by omega) (by omega)];all_goals first|rfl|(show _=D.sl (Pat.cs _);rw[Pat.cs_cc];all_goals rfl)|(show _=Pat.cs _;rw[Pat.cs_cc];all_goals rfl)|(show _=D.sl [[D.i _,D.i _,D.i _,D.i _,D.i _,D.sl (Pat.cs _)]];rw[Pat.cs_cc];all_goals rfl))|(have hz:(ks,zm,zq)=namL (namP b n) p.kids m (if p.op=1 then q+1 else q):=(by rw[hqq];exact zli hg1.2.2.2.2.2);rw[zmz (by omega) (fun hh=>by omega) hz (by omega) (by omega)];all_goals first|rfl|(show _=D.sl (Pat.cs _);rw[Pat.cs_cc];all_goals rfl)|(show _=Pat.cs _;rw[Pat.cs_cc];all_goals rfl)|(show _=D.sl [[D.i _,D.i _,D.i _,D.i _,D.i _,D.sl (Pat.cs _)]];rw[Pat.cs_cc];all_goals rfl))|(have hz:(ks,zm,zq)=namL (namP b n) p.kids m (if p.op=1 then q+1 else q):=(by rw[hqq];exact zli hg1.2.2.2.2.2);rw[zmA (by omega) (fun hh=>by omega) hz (by omega)];all_goals first|rfl|(show _=D.sl (Pat.cs _);rw[Pat.cs_cc];all_goals rfl)|(show _=Pat.cs _;rw[Pat.cs_cc];all_goals rfl)|(show _=D.sl [[D.i _,D.i _,D.i _,D.i _,D.i _,D.sl (Pat.cs _)]];rw[Pat.cs_cc];all_goals rfl))))
def szP:Nat->Nat
 |0=>1
 |d+1=>1+3*szP d
theorem zv9 (d:Nat):1<=szP d:=by cases d<;>simp only[szP]<;>omega
theorem zhZ:anyP.size=1/\anyP.ok:=⟨by rw[Pat.size_eq];rfl,by rw[Pat.ok_iff];exact⟨by simp[anyP,Pat.kids],trivial⟩⟩
theorem zvc {f:Ty->Nat->Pat×Nat}{k:Nat}:∀(l:List Ty) (q:Nat),(∀t∈l,∀q,(f t q).1.size<=k/\(f t q).1.ok)->Pats.size (dA f l q).1<=l.length*k/\Pats.ok (dA f l q).1
 | [],q,_=>by simp[dA,Pats.size,Pats.ok]
 |t::r,q,h=>by
  have h1:=h t (by simp) q;have h2:=zvc r (f t q).2 (fun x hx=>h x (by simp[hx]));simp only[dA,xab,Nat.add_mul,Pats.size];exact⟨by omega,h1.2,h2.2⟩
theorem zk0 {b:Str}{w:List Data} (hf:Few w):∀(d:Nat) (t:Ty) (p:Nat),TyIn w.length t->(zaB b w d t p).1.size<=szP d/\(zaB b w d t p).1.ok
 |0,t,p,_=>by simp only[zaB,szP];have:=zhZ;exact⟨by omega,this.2⟩
 |d+1,⟨a,k⟩,p,ht=>by
  have ih:=fun t p ht=>zk0 (b:=b) hf d t p ht;have ha:=zhZ;have hp:=zv9 d;simp only[szP];by_cases c1:d=0
  ·rw[zrp c1];exact⟨by dsimp only;omega,ha.2⟩
  by_cases c2:zan b p 4=0
  ·rw[zrq c1 c2];exact⟨by dsimp only;omega,ha.2⟩
  by_cases c3:zan b (p+1) 6=0
  ·rw[zrr c1 c2 c3];have h1:=ih ⟨a,k⟩ (p+2) ht;have h2:=ih ⟨a,k⟩ (zaB b w d ⟨a,k⟩ (p+2)).2 ht;refine⟨?_, ?_⟩
   ·dsimp only;rw[Pat.size_eq];simp only[Pat.kids,Pats.size];omega
   ·dsimp only;rw[Pat.ok_iff];exact⟨by simp[Pat.kids],h1.2,h2.2,trivial⟩
  by_cases c4:a = -1
  ·rw[zrs c1 c2 c3 c4];refine⟨?_, ?_⟩
   ·dsimp only;rw[Pat.size_eq];simp only[Pat.kids,Pats.size];omega
   ·dsimp only;rw[Pat.ok_iff];exact⟨by simp[Pat.kids],trivial⟩
  by_cases c5:(zaj w ⟨a,k⟩).length=0
  ·rw[zrt c1 c2 c3 c4 c5];exact⟨by dsimp only;omega,ha.2⟩
  ·rw[zru c1 c2 c3 c4 c5 rfl];have hm:=ziL (b:=b) (p:=p+2) c5;have h3:=hf ⟨a,k⟩ _ hm ht;have h1:=zvc (f:=zaB b w d) (k:=szP d) _ (p+3) (fun u hu q=>ih u q (h3.2 u hu));have h2:=ztd (f:=zaB b w d) (zaa w ⟨a,k⟩ (nth (zaj w ⟨a,k⟩) (zan b (p+2) (zaj w ⟨a,k⟩).length).toNat)) (p+3);have h4:(zaa w ⟨a,k⟩ (nth (zaj w ⟨a,k⟩) (zan b (p+2) (zaj w ⟨a,k⟩).length).toNat)).length*szP d<=3*szP d:=Nat.mul_le_mul_right _ h3.1;refine⟨?_, ?_⟩
   ·dsimp only;rw[Pat.size_eq];simp only[Pat.kids];omega
   ·dsimp only;rw[Pat.ok_iff];exact⟨by simp only[Pat.kids];omega,h1.2⟩
theorem zeG {b:Str}{p:Nat}{l:List Int} (h:1<=l.length):numV b p l∈l:=by
 have:=zcd (b:=b) (p:=p) (n:=(l.length:Int)) (by omega);exact zac (by omega)
theorem num4 (b:Str) (p:Nat):1<=numV b p [3,2,4,1]/\numV b p [3,2,4,1]<=4:=by
 have:=zeG (b:=b) (p:=p) (l:=[3,2,4,1]) (by simp);simp only[List.mem_cons,List.not_mem_nil,or_false] at this;omega
theorem zqF {d:Nat} (h:d<=4):szP d<=121/\bdP d<=200:=by
 have:d=0\/d=1\/d=2\/d=3\/d=4:=by omega
 rcases this with rfl|rfl|rfl|rfl|rfl<;>decide
def zce (b:Str) (w:List Data) (t:Ty) (p:Nat):Pat×Int×Nat:=
 namP b (zaB b w (numV b p [3,2,4,1]).toNat t (p+1)).1.size (zaB b w (numV b p [3,2,4,1]).toNat t (p+1)).1 0 (zaB b w (numV b p [3,2,4,1]).toNat t (p+1)).2
def zbg (b:Str) (w:List Data) (t:Ty) (p:Nat):Pat:=if isP w t (zce b w t p).1 then (zce b w t p).1 else anyP
theorem zhA {b:Str}{w:List Data} (hf:Few w){t:Ty} (ht:TyIn w.length t) (p:Nat):(zce b w t p).2.2<=p+500/\(zce b w t p).1.size<=242/\(zce b w t p).1.ok:=by
 have h4:=num4 b p;have hs:=zqF (d:=(numV b p [3,2,4,1]).toNat) (by omega);have h1:=zk0 (b:=b) hf (numV b p [3,2,4,1]).toNat t (p+1) ht;have h2:=zix (b:=b) hf (numV b p [3,2,4,1]).toNat t (p+1) ht;have h3:=zic (b:=b) (zaB b w (numV b p [3,2,4,1]).toNat t (p+1)).1.size (zaB b w (numV b p [3,2,4,1]).toNat t (p+1)).1 0 (zaB b w (numV b p [3,2,4,1]).toNat t (p+1)).2 (by omega) (by omega);obtain⟨_,_,n3,n4,n5⟩:=h3;exact⟨by unfold zce;omega,by unfold zce;omega,n5 h1.2⟩
theorem zmP {b:Str}{w:List Data} (hf:Few w){t:Ty} (ht:TyIn w.length t) (p:Nat):(zbg b w t p).size<=242/\(zbg b w t p).ok:=by
 have h:=zhA (b:=b) hf ht p;have ha:=zhZ;unfold zbg;split
 ·exact⟨h.2.1,h.2.2⟩
 ·exact⟨by omega,ha.2⟩
theorem znQ {b:Str}{w:List Data} (hb:b.length<=2000) (hw:WT w) (hf:Few w){a k:Int}{p:Nat} (hp:p<=100000) (ht:TyIn w.length ⟨a,k⟩):
  FnD Tryz.prog 134 [.ref 900 0,.d (zam w),.agg [.d (.i a),.d (.i k)]] [(900,some (rdB b p))]
   (.agg [.d (.i (zbg b w ⟨a,k⟩ p).op),.d (.i (zbg b w ⟨a,k⟩ p).ctor),.d (.i (zbg b w ⟨a,k⟩ p).n),.d (.i (zbg b w ⟨a,k⟩ p).m),.d (.i (zbg b w ⟨a,k⟩ p).var),.d (zad (zbg b w ⟨a,k⟩ p).kids)]) [(900,some (rdB b (zce b w ⟨a,k⟩ p).2.2))]:=by
 have h4:=num4 b p;have hs:=zqF (d:=(numV b p [3,2,4,1]).toNat) (by omega);have h1:=zk0 (b:=b) hf (numV b p [3,2,4,1]).toNat ⟨a,k⟩ (p+1) ht;have h2:=zix (b:=b) hf (numV b p [3,2,4,1]).toNat ⟨a,k⟩ (p+1) ht;have hr:=zhA (b:=b) hf ht p;have hnum:=zbP (b:=b) (p:=p) (l:=[3,2,4,1]) hb (by omega) (by simp) (by simp);have hdr:=zen hb hw hf (numV b p [3,2,4,1]).toNat (a:=a) (k:=k) (m:=numV b p [3,2,4,1]) (p:=p+1) (by omega) (by omega) (by omega) (by omega) ht;have hnm:=zfJ hb (zaB b w (numV b p [3,2,4,1]).toNat ⟨a,k⟩ (p+1)).1.size (m:=0) (q:=(zaB b w (numV b p [3,2,4,1]).toNat ⟨a,k⟩ (p+1)).2) (Nat.le_refl _) h1.2 (by omega) (by omega) (by omega);have hsp:zbg b w ⟨a,k⟩ p=if isP w ⟨a,k⟩ (zce b w ⟨a,k⟩ p).1 then (zce b w ⟨a,k⟩ p).1 else anyP:=rfl
 rw[show namP b (zaB b w (numV b p [3,2,4,1]).toNat ⟨a,k⟩ (p+1)).1.size (zaB b w (numV b p [3,2,4,1]).toNat ⟨a,k⟩ (p+1)).1 0 (zaB b w (numV b p [3,2,4,1]).toNat ⟨a,k⟩ (p+1)).2=zce b w ⟨a,k⟩ p from rfl] at hnm;generalize numV b p [3,2,4,1]=m at *;refine bd Tryz.f134 28 [] [] fun w0 F0 own kept hk=>?_;refine bx 3005 ?_;refine ab 3006 tz36 ?_;refine tv ?_;refine si [0,1,2,3] [_,_,_,_] sl29 tz3 ?_;refine wd zdL (hnum) rfl rfl ⟨rfl,trivial⟩ ?_;refine wd zlK (hdr) rfl rfl ⟨rfl,trivial⟩ ?_;refine wd zpl (hnm) rfl rfl ⟨rfl,trivial⟩ ?_;refine evd [] [] ?_;refine ab 3007 tz36 ?_;refine so ty36 ?_;refine evd [] [] ?_;refine dr ?_;refine wc zlJ (zfm hw ht hr.2.2 (by omega)) rfl rfl ?_;refine ev ?_;refine sq ?_ ?_<;>intro h1 h1p h1s<;>(try simp only[Q] at h1p);refine bu [0] [_] st36 ?_;refine so ty36 ?_;refine tv ?_;refine rn [(900,some (rdB b (zce b w ⟨a,k⟩ p).2.2))] (.cons (.cellA ty36 rfl rfl rfl) .nil) (.agg (.cons (.eqd ?_) (.cons (.eqd ?_) (.cons (.eqd ?_) (.cons (.eqd ?_) (.cons (.eqd ?_) (.cons (.nild ?_) .nil))))))) ⟨rfl,rfl⟩ (SubO.get ⟨.inr ?_,⟨.inl rfl,trivial⟩⟩) (zaC rfl);rotate_left 7;refine so ty36 ?_;refine tv ?_;refine rn [(900,some (rdB b (zce b w ⟨a,k⟩ p).2.2))] (.cons (.cellA ty36 rfl rfl rfl) .nil) (.agg (.cons (.eqd ?_) (.cons (.eqd ?_) (.cons (.eqd ?_) (.cons (.eqd ?_) (.cons (.eqd ?_) (.cons (.eqd ?_) .nil))))))) ⟨rfl,rfl⟩ (SubO.get ⟨.inr ?_,⟨.inl rfl,trivial⟩⟩) (zaC rfl);rotate_left 7;all_goals (first|((first|(rw[hsp,if_neg (by rw[h1s];simp)];all_goals rfl)|(rw[hsp,if_pos h1s];all_goals rfl));done)|(rfl))
theorem zi8:FnD Tryz.prog 118 [] [] (.agg [.d (.i 1),.d (.i 0),.d (.i 0),.d (.i 0),.d (.i 0),.d (.sl [])]) []:=by
 refine bd Tryz.f118 2 [] [] fun w0 F0 own kept hk=>?_;refine ab 3000 tz36 ?_;refine tv ?_;refine bu [0] [_] st36 ?_;refine so ty36 ?_;refine tv ?_;focus (refine rn0 (.cons (.cellA ty36 rfl rfl rfl) .nil) (.agg (.cons (.eqd ?_) (.cons (.eqd ?_) (.cons (.eqd ?_) (.cons (.eqd ?_) (.cons (.eqd ?_) (.cons (.nild ?_) .nil)))))));all_goals (rfl))
section
variable {c:Ctx}{all:Array Oper}{chk:List Rec->Prop}{os:List Oper}{recs:List Rec}{env:Env}{hp:Hp}{Q:St->Prop}
variable {d ty:Nat}{pos:String}{af:Array Edge}{g:Option (Nat×Bool)}{pg:List (Nat×AV)}{t yt:TypeId}{x y:Operand}
theorem xaB {id k e yb:Nat}{xs ys:List (List D)}{vy:AV}{ids:List Nat} (hkp:KeptIn c.kept ids) (hid:za4 id ids=false) (hne:xs++ys≠[]) (ht:SlT c.P t e k yb) (hz:ZeroT c.P e k) (hg:GH all env g pg) (hd:Nat.blt d c.n=true)
  (hx:opd env x=some (.gv id xs)) (hy:opd env y=some vy) (hyd:vy.toD=some (.sl ys)) (htok:getH hp id=some (.tok xs.length k)) (hky:∀y,y∈ys->y.length=k)
  (hb:(xs.length+ys.length)*yb<=140737488355328) (hm:xs.length+ys.length<=9223372036854775807)
  (hn:Walk c all chk os (zao (pg++(opF x (.gv id xs)++opF y vy)) [(id,.tok xs.length k)] [] ⟨some (d,.ms id (xs++ys).length),[(id,some (.box ((xs++ys).flatten.map .d)))]⟩::recs)
   ⟨(d,.ms id (xs++ys).length)::env,(id,some (.box ((xs++ys).flatten.map .d)))::hp⟩ Q):
  Walk c all chk (⟨some d,.call ⟨.builtin .append,#[x,y],#[t,t]⟩,ty,pos,af,g⟩::os) recs ⟨env,hp⟩ Q:=by
 refine⟨pg++(opF x (.gv id xs)++opF y vy),[(id,.tok xs.length k)],[],_, ?_,zaz hg.facts (zaz (za9 hx) (za9 hy)),hh1 htok,by simp,hn⟩;intro s a w hrel hp' hh _ K Q' hK;obtain⟨G,hr⟩:=hrel;have e1:=hr.opd (zba hx (fun p hm=>hp' p (by simp[hm])));have e2:=hr.opd (zba hy (fun p hm=>hp' p (by simp[hm])));obtain⟨i,z,z1,z2,z3⟩:=hz.out;obtain⟨v',w',G',hrun,hR,hA⟩:=zji hr ht ⟨i,z1,z2,z3⟩ (hh1' hh) e1 (e2.toD hyd) hky hb hm ty;unfold wpO;rw[if_pos (hg.gf.wanted hr (fun p hm=>hp' p (by simp[hm])))];unfold Oper.wp;have:(execOp a.eval ⟨some d,.call ⟨.builtin .append,#[x,y],#[t,t]⟩,ty,pos,af,g⟩).run c.P w = .ok (.value v') w':=by
  simp only[execOp,resolve,invoke,builtin,Sem.run_bind,Sem.run_pure,Result.andThen_ok,List.map_toArray,xae,List.map_nil,hrun]
 rw[this,Oper.upon_value];have hV:Rel c ⟨(d,.gv id (xs++ys))::s.env,(id,some (.tok (xs.length+ys.length) k))::s.hp⟩ (a.put (some d) v') w':=⟨G',hR.put hA hd⟩;rcases Rel.fixV hkp d id k (xs:=xs++ys) (by simp[getE]) (by rw[zak,if_pos rfl,xaa]) hid hV with ⟨h,_⟩|⟨_,h⟩
 ·exact absurd h hne
 ·refine hK _ _ (h.congr (fun j=>?_) (fun j=>?_))
  ·show getE ((d,_)::s.env) j=getE ((d,_)::(d,_)::s.env) j
   simp only[getE];cases Nat.beq d j<;>rfl
  ·show getH ((id,_)::s.hp) j=getH ((id,_)::(id,_)::s.hp) j
   rw[zak,zak,zak];by_cases hj:j=id
   ·rw[if_pos hj,if_pos hj]
   ·rw[if_neg hj,if_neg hj,if_neg hj]
end
def zbj:Pat:=⟨2,0,0,0,0,[]⟩
def mutP (b:Str) (p:Pat) (q:Nat):Pat×Nat:=
 if zan b q 30=0 then (⟨numV b (q+1) [0,7,1,2,5],p.ctor,p.n,p.m,p.var,p.kids⟩,q+2)
 else if zan b q 30=1 then (⟨p.op,p.ctor,p.n,p.m,numV b (q+1) [6,-1,1],p.kids⟩,q+2)
 else if zan b q 30=2 then (⟨p.op,numV b (q+1) [9,-1,1],p.n,p.m,p.var,p.kids⟩,q+2)
 else if zan b q 30=3 then (⟨p.op,p.ctor,p.n,p.m,p.var,p.kids++[zbj]⟩,q+1)
 else if zan b q 30=4 then (⟨p.op,p.ctor,p.n,p.m,p.var,p.kids.set 0 zbj⟩,q+1)
 else if zan b q 30=5 then (⟨p.op,p.ctor,numV b (q+1) [10,-1,5],p.m,p.var,p.kids⟩,q+2)
 else (⟨p.op,p.ctor,p.n,p.m,p.var,p.kids⟩,q+1)
theorem put0 {l:List (List D)}{x:List D}{r:List (List D)}{v:List AV} (h:l=x::r) (hx:x.length=v.length):putC (l.flatten.map .d) 0 v=some (v++r.flatten.map .d):=by
 subst h;rw[List.flatten_cons,xaf];have key:∀(a b:List AV),a.length=b.length->∀(c:List AV),putC (a++c) 0 b=some (b++c):=by
  intro a;induction a with
  |nil=>intro b h c;cases b with
   |nil=>cases c<;>rfl
   |cons=>simp at h
  |cons y a ih=>intro b h c;cases b with
   |nil=>simp at h
   |cons z b=>
    have:=ih b (by simpa using h) c;simp only[xag,putC,this]
 exact key _ _ (by simpa using hx) _
theorem zxf {k:Nat}{v:List AV}{vd:List D}{r:List (List D)} (hv:toDL v=some vd) (hk:v.length=k) (hr:∀x∈r,x.length=k):zb2 (r.length+1) k (v++r.flatten.map .d)=some (vd::r):=by
 have h1:cutC (v++r.flatten.map .d) 0 k=some v:=zn7 hk;have h2:(v++r.flatten.map AV.d).drop k=r.flatten.map .d:=by rw[<-hk];simp
 have h3:=zes (f:=fun x:List D=>x) (k:=k) (l:=r) hr;have h4:(r.flatMap fun x=>x.map AV.d)=r.flatten.map .d:=by rw[List.map_flatten];rfl
 rw[h4,List.map_id'] at h3;simp only[zb2,h1,hv,h2,h3]
theorem Pat.cs_app (a b:List Pat):Pat.cs (a++b)=Pat.cs a++Pat.cs b:=by
 rw[Pat.cs_cc,Pat.cs_cc,Pat.cs_cc,xaf]
theorem zmZ {b:Str} (hb:b.length<=2000){p:Pat}{q:Nat} (hq:q<=1000000) (hok:p.ok) (hc4:¬(zan b q 30=4/\p.kids≠[])):
  FnD Tryz.prog 133 [.ref 900 0,.agg [.d (.i p.op),.d (.i p.ctor),.d (.i p.n),.d (.i p.m),.d (.i p.var),.d (zad p.kids)]] [(900,some (rdB b q))]
   (.agg [.d (.i (mutP b p q).1.op),.d (.i (mutP b p q).1.ctor),.d (.i (mutP b p q).1.n),.d (.i (mutP b p q).1.m),.d (.i (mutP b p q).1.var),.d (zad (mutP b p q).1.kids)]) [(900,some (rdB b (mutP b p q).2))]:=by
 rw[Pat.ok_iff] at hok;have hkl:=Pat.cs_len p.kids;refine bd Tryz.f133 57 [] [] fun w0 F0 own kept hk=>?_;refine bx 3003 ?_;refine ab 3004 tz36 ?_;refine tv ?_;refine ab 3005 tz36 ?_;refine so ty36 ?_;refine tv ?_;refine xbg 1 sl34 .none rfl rfl ?_;refine ev ?_;refine ap sl34 zz36 rfl rfl rfl (by(intro x hx;exact Pat.cs_rows x hx)) (by simp[Pat.cs_len];omega) ?_;refine ev ?_;refine so ty34 ?_;refine tv ?_;refine wd zbQ (zaM (p:=q) (n:=30) hb (by omega) (by omega)) rfl rfl ⟨rfl,trivial⟩ ?_;refine tv ?_;refine sq ?_ ?_<;>intro h1 h1p h1s<;>(try simp only[Q,Pat.cs_len] at h1p);refine si [0,1,2,3,4] [_,_,_,_,_] sl29 tz3 ?_;refine wd zdL (zbP (p:=q+1) (l:=[0,7,1,2,5]) hb (by omega) (by simp) (by simp)) rfl rfl ⟨rfl,trivial⟩ ?_;refine ev ?_;refine so ty3 ?_;refine tv ?_;refine so ty36 ?_;refine tv ?_;refine rn [(900,some (rdB b (mutP b p q).2))] (.cons (.cellA ty36 rfl rfl rfl) .nil) (.agg (.cons (.eqd ?_) (.cons (.eqd ?_) (.cons (.eqd ?_) (.cons (.eqd ?_) (.cons (.eqd ?_) (.cons (.gld ?_) .nil))))))) ⟨rfl,rfl⟩ (SubO.get ⟨.inr ?_,⟨.inl rfl,trivial⟩⟩) (zaC rfl);rotate_left 7;refine sq ?_ ?_<;>intro h2 h2p h2s<;>(try simp only[Q,Pat.cs_len] at h2p);refine si [0,1,2] [_,_,_] sl29 tz3 ?_;refine wd zdL (zbP (p:=q+1) (l:=[6,-1,1]) hb (by omega) (by simp) (by simp)) rfl rfl ⟨rfl,trivial⟩ ?_;refine ev ?_;refine so ty3 ?_;refine tv ?_;refine so ty36 ?_;refine tv ?_;refine rn [(900,some (rdB b (mutP b p q).2))] (.cons (.cellA ty36 rfl rfl rfl) .nil) (.agg (.cons (.eqd ?_) (.cons (.eqd ?_) (.cons (.eqd ?_) (.cons (.eqd ?_) (.cons (.eqd ?_) (.cons (.gld ?_) .nil))))))) ⟨rfl,rfl⟩ (SubO.get ⟨.inr ?_,⟨.inl rfl,trivial⟩⟩) (zaC rfl);rotate_left 7;refine sq ?_ ?_<;>intro h3 h3p h3s<;>(try simp only[Q,Pat.cs_len] at h3p);refine si [0,1,2] [_,_,_] sl29 tz3 ?_;refine wd zdL (zbP (p:=q+1) (l:=[9,-1,1]) hb (by omega) (by simp) (by simp)) rfl rfl ⟨rfl,trivial⟩ ?_;refine ev ?_;refine so ty3 ?_;refine tv ?_;refine so ty36 ?_;refine tv ?_;refine rn [(900,some (rdB b (mutP b p q).2))] (.cons (.cellA ty36 rfl rfl rfl) .nil) (.agg (.cons (.eqd ?_) (.cons (.eqd ?_) (.cons (.eqd ?_) (.cons (.eqd ?_) (.cons (.eqd ?_) (.cons (.gld ?_) .nil))))))) ⟨rfl,rfl⟩ (SubO.get ⟨.inr ?_,⟨.inl rfl,trivial⟩⟩) (zaC rfl);rotate_left 7;refine sq ?_ ?_<;>intro h4 h4p h4s<;>(try simp only[Q,Pat.cs_len] at h4p);refine bu [0] [_] st36 ?_;refine si [0] [_] sl34 tz36 ?_;refine ap sl34 zz36 rfl rfl rfl (by(intro x hx;simp only[List.mem_singleton] at hx;subst hx;rfl)) (by simp[Pat.cs_len];omega) ?_;refine ev ?_;refine so ty34 ?_;refine tv ?_;refine so ty36 ?_;refine tv ?_;refine rn [(900,some (rdB b (mutP b p q).2))] (.cons (.cellA ty36 rfl rfl rfl) .nil) (.agg (.cons (.eqd ?_) (.cons (.eqd ?_) (.cons (.eqd ?_) (.cons (.eqd ?_) (.cons (.eqd ?_) (.cons (.gld ?_) .nil))))))) ⟨rfl,rfl⟩ (SubO.get ⟨.inr ?_,⟨.inl rfl,trivial⟩⟩) (zaC rfl);rotate_left 7;refine sq ?_ ?_<;>intro h5 h5p h5s<;>(try simp only[Q,Pat.cs_len] at h5p);refine sq ?_ ?_<;>intro h6 h6p h6s<;>(try simp only[Q,Pat.cs_len] at h6p);exfalso;apply hc4;refine⟨by omega,fun hh=>?_⟩;rw[hh] at h6p;exact absurd h6p (by decide);refine so ty36 ?_;refine tv ?_;refine rn [(900,some (rdB b (mutP b p q).2))] (.cons (.cellA ty36 rfl rfl rfl) .nil) (.agg (.cons (.eqd ?_) (.cons (.eqd ?_) (.cons (.eqd ?_) (.cons (.eqd ?_) (.cons (.eqd ?_) (.cons (.gld ?_) .nil))))))) ⟨rfl,rfl⟩ (SubO.get ⟨.inr ?_,⟨.inl rfl,trivial⟩⟩) (zaC rfl);rotate_left 7;refine sq ?_ ?_<;>intro h7 h7p h7s<;>(try simp only[Q,Pat.cs_len] at h7p);refine si [0,1,2] [_,_,_] sl29 tz3 ?_;refine wd zdL (zbP (p:=q+1) (l:=[10,-1,5]) hb (by omega) (by simp) (by simp)) rfl rfl ⟨rfl,trivial⟩ ?_;refine ev ?_;refine so ty3 ?_;refine tv ?_;refine so ty36 ?_;refine tv ?_;refine rn [(900,some (rdB b (mutP b p q).2))] (.cons (.cellA ty36 rfl rfl rfl) .nil) (.agg (.cons (.eqd ?_) (.cons (.eqd ?_) (.cons (.eqd ?_) (.cons (.eqd ?_) (.cons (.eqd ?_) (.cons (.gld ?_) .nil))))))) ⟨rfl,rfl⟩ (SubO.get ⟨.inr ?_,⟨.inl rfl,trivial⟩⟩) (zaC rfl);rotate_left 7;refine so ty36 ?_;refine tv ?_;refine rn [(900,some (rdB b (mutP b p q).2))] (.cons (.cellA ty36 rfl rfl rfl) .nil) (.agg (.cons (.eqd ?_) (.cons (.eqd ?_) (.cons (.eqd ?_) (.cons (.eqd ?_) (.cons (.eqd ?_) (.cons (.gld ?_) .nil))))))) ⟨rfl,rfl⟩ (SubO.get ⟨.inr ?_,⟨.inl rfl,trivial⟩⟩) (zaC rfl);rotate_left 7;all_goals (((unfold mutP;first|(rw[if_pos (by omega)];all_goals first|rfl|(show _=Pat.cs (p.kids++[zbj]);rw[Pat.cs_app];all_goals rfl))|(rw[if_neg (by omega),if_pos (by omega)];all_goals first|rfl|(show _=Pat.cs (p.kids++[zbj]);rw[Pat.cs_app];all_goals rfl))|(rw[if_neg (by omega),if_neg (by omega),if_pos (by omega)];all_goals first|rfl|(show _=Pat.cs (p.kids++[zbj]);rw[Pat.cs_app];all_goals rfl))|(rw[if_neg (by omega),if_neg (by omega),if_neg (by omega),if_pos (by omega)];all_goals first|rfl|(show _=Pat.cs (p.kids++[zbj]);rw[Pat.cs_app];all_goals rfl))|(have hnk:p.kids=[]:=(by rcases hke:p.kids with _|⟨y,r⟩;rfl;exact absurd ⟨by omega,by rw[hke];simp⟩ hc4);rw[if_neg (by omega),if_neg (by omega),if_neg (by omega),if_neg (by omega),if_pos (by omega),hnk];all_goals rfl)|(rw[if_neg (by omega),if_neg (by omega),if_neg (by omega),if_neg (by omega),if_pos (by omega)];all_goals first|rfl|(show _=Pat.cs (p.kids++[zbj]);rw[Pat.cs_app];all_goals rfl))|(rw[if_neg (by omega),if_neg (by omega),if_neg (by omega),if_neg (by omega),if_neg (by omega),if_pos (by omega)];all_goals first|rfl|(show _=Pat.cs (p.kids++[zbj]);rw[Pat.cs_app];all_goals rfl))|(rw[if_neg (by omega),if_neg (by omega),if_neg (by omega),if_neg (by omega),if_neg (by omega),if_neg (by omega)];all_goals first|rfl|(show _=Pat.cs (p.kids++[zbj]);rw[Pat.cs_app];all_goals rfl)));done))
theorem zm0 {b:Str} (hb:b.length<=2000){p:Pat}{q:Nat} (hq:q<=1000000) (hok:p.ok) (hc4:zan b q 30=4){y:Pat}{r:List Pat} (hk4:p.kids=y::r):
  FnD Tryz.prog 133 [.ref 900 0,.agg [.d (.i p.op),.d (.i p.ctor),.d (.i p.n),.d (.i p.m),.d (.i p.var),.d (zad p.kids)]] [(900,some (rdB b q))]
   (.agg [.d (.i (mutP b p q).1.op),.d (.i (mutP b p q).1.ctor),.d (.i (mutP b p q).1.n),.d (.i (mutP b p q).1.m),.d (.i (mutP b p q).1.var),.d (zad (mutP b p q).1.kids)]) [(900,some (rdB b (mutP b p q).2))]:=by
 rw[Pat.ok_iff] at hok;have hkl:=Pat.cs_len p.kids;have hcs:Pat.cs p.kids=y.cc::Pat.cs r:=by rw[Pat.cs_cc,hk4,xae,<-Pat.cs_cc]
 have hrl:(Pat.cs p.kids).length=(Pat.cs r).length+1:=by rw[hcs];rfl
 have hmu:mutP b p q=(⟨p.op,p.ctor,p.n,p.m,p.var,zbj::r⟩,q+1):=by
  unfold mutP;rw[if_neg (by omega),if_neg (by omega),if_neg (by omega),if_neg (by omega),if_pos hc4,hk4];rfl
 refine bd Tryz.f133 57 [] [17] fun w0 F0 own kept hk=>?_;refine bx 3003 ?_;refine ab 3004 tz36 ?_;refine tv ?_;refine ab 3005 tz36 ?_;refine so ty36 ?_;refine tv ?_;refine xbh 1 sl34 .none rfl rfl ?_;refine ev ?_;refine xaB hk rfl (by rw[hcs];simp) sl34 zz36 .none rfl rfl rfl rfl (zcW rfl (by rfl)) (by intro x hx;exact Pat.cs_rows x hx) (by simp[Pat.cs_len];omega) (by simp[Pat.cs_len];omega) ?_;refine ev ?_;refine so ty34 ?_;refine tv ?_;refine wd zbQ (zaM (p:=q) (n:=30) hb (by omega) (by omega)) rfl rfl ⟨rfl,trivial⟩ ?_;refine tv ?_;refine sq ?_ ?_<;>intro h1 h1p h1s<;>(try simp only[Q,Pat.cs_len] at h1p);exfalso;omega;refine sq ?_ ?_<;>intro h2 h2p h2s<;>(try simp only[Q,Pat.cs_len] at h2p);exfalso;omega;refine sq ?_ ?_<;>intro h3 h3p h3s<;>(try simp only[Q,Pat.cs_len] at h3p);exfalso;omega;refine sq ?_ ?_<;>intro h4 h4p h4s<;>(try simp only[Q,Pat.cs_len] at h4p);exfalso;omega;refine sq ?_ ?_<;>intro h5 h5p h5s<;>(try simp only[Q,Pat.cs_len] at h5p);refine sq ?_ ?_<;>intro h6 h6p h6s<;>(try simp only[Q,Pat.cs_len] at h6p);refine bu [0] [_] st36 ?_;refine xaW (i:=0) sl34 .none rfl rfl rfl rfl (by simp;omega) ?_;refine Walk.store ty36 .none rfl rfl rfl rfl rfl rfl (by simp) ((put0 hcs rfl)) ?_;refine tv ?_;refine CWp.frzC hk 3005 5 1 _ 6 rfl rfl rfl rfl rfl (by rw[List.nil_append,hrl];exact zxf rfl rfl (fun x hx=>Pat.cs_rows x hx)) rfl ?_;refine evc [] [] ?_;refine so ty36 ?_;refine tv ?_;refine rn [(900,some (rdB b (mutP b p q).2))] (.cons (.cellA ty36 rfl rfl rfl) .nil) (.agg (.cons (.eqd ?_) (.cons (.eqd ?_) (.cons (.eqd ?_) (.cons (.eqd ?_) (.cons (.eqd ?_) (.cons (.eqd ?_) .nil))))))) ⟨rfl,rfl⟩ (SubO.get ⟨.inr ?_,⟨.inl rfl,trivial⟩⟩) (zaC rfl);rotate_left 7;exfalso;rw[List.nil_append,hrl] at h6p;omega;exfalso;omega;all_goals (((rw[hmu];all_goals rfl);done))
theorem zhb {b:Str} (hb:b.length<=2000){p:Pat}{q:Nat} (hq:q<=1000000) (hok:p.ok):
  FnD Tryz.prog 133 [.ref 900 0,.agg [.d (.i p.op),.d (.i p.ctor),.d (.i p.n),.d (.i p.m),.d (.i p.var),.d (zad p.kids)]] [(900,some (rdB b q))]
   (.agg [.d (.i (mutP b p q).1.op),.d (.i (mutP b p q).1.ctor),.d (.i (mutP b p q).1.n),.d (.i (mutP b p q).1.m),.d (.i (mutP b p q).1.var),.d (zad (mutP b p q).1.kids)]) [(900,some (rdB b (mutP b p q).2))]:=by
 by_cases h:zan b q 30=4/\p.kids≠[]
 ·cases hk:p.kids with
  |nil=>exact absurd hk h.2
  |cons y r=>rw[<-hk];exact zm0 hb hq hok h.1 hk
 ·exact zmZ hb hq hok h
structure CaseW (w:List Data):Prop where
 small:WSmall w
 valid:za0 w=true
 one:1<=w.length
 ct:∀k:Int,k=0\/k=1\/k=2->1<=(zaj w ⟨0,k⟩).length
theorem xau:∀l:List Pat,l.length<=Pats.size l
 | []=>Nat.zero_le _
 |v::r=>by
  have:=xau r;have h:=Pat.size_eq v;simp only[xab,Pats.size];omega
theorem zrT {x:Pat} (hx:x.ok):∀ {l:List Pat}{i:Nat},Pats.ok l->Pats.ok (l.set i x)
 | [],_,_=>by simp[Pats.ok]
 |y::r,0,h=>⟨hx,h.2⟩
 |y::r,i+1,h=>⟨h.1,zrT hx h.2⟩
theorem zrd {x:Pat} (hx:x.ok):∀ {l:List Pat},Pats.ok l->Pats.ok (l++[x])
 | [],_=>⟨hx,trivial⟩
 |y::r,h=>⟨h.1,zrd hx h.2⟩
theorem znE {x:Pat}:∀ {l:List Pat}{i:Nat},Pats.size (l.set i x)<=Pats.size l+x.size
 | [],_=>by simp[Pats.size]
 |y::r,0=>by simp only[List.set_cons_zero,Pats.size];omega
 |y::r,i+1=>by have:=znE (x:=x) (l:=r) (i:=i);simp only[List.set_cons_succ,Pats.size];omega
theorem zvX {b:Str}{p:Pat}{q:Nat} (hs:p.size<=1000) (hok:p.ok):(mutP b p q).1.size<=2000/\(mutP b p q).1.ok:=by
 have hv:zbj.size=1/\zbj.ok:=⟨by rw[Pat.size_eq];rfl,by rw[Pat.ok_iff];exact⟨by simp[zbj,Pat.kids],trivial⟩⟩;have h0:=Pat.size_eq p;rw[Pat.ok_iff] at hok;have same:∀a c n m v:Int,(Pat.mk a c n m v p.kids).size<=2000/\(Pat.mk a c n m v p.kids).ok:=fun a c n m v=>by
  refine⟨by rw[Pat.size_eq];show 1+Pats.size p.kids<=_;omega,by rw[Pat.ok_iff];exact hok⟩
 unfold mutP;split;exact same _ _ _ _ _
 split;exact same _ _ _ _ _
 split;exact same _ _ _ _ _
 split
 ·refine⟨?_, ?_⟩
  ·dsimp only;rw[Pat.size_eq];show 1+Pats.size (p.kids++[zbj])<=_;rw[xav];omega
  ·dsimp only;rw[Pat.ok_iff];refine⟨?_,zrd hv.2 hok.2⟩;show(p.kids++[zbj]).length<=_
   have:=xau p.kids;simp only[xaa,List.length_singleton];omega
 split
 ·refine⟨?_, ?_⟩
  ·dsimp only;rw[Pat.size_eq];show 1+Pats.size (p.kids.set 0 zbj)<=_;have:=znE (x:=zbj) (l:=p.kids) (i:=0);omega
  ·dsimp only;rw[Pat.ok_iff];exact⟨by show(p.kids.set 0 zbj).length<=_;rw[List.length_set];exact hok.1,zrT hv.2 hok.2⟩
 split;exact same _ _ _ _ _
 exact same _ _ _ _ _
def smB (n:Nat) (w:List Data):Bool:=decide (w.length<=n)&&w.all fun d=>decide (d.name.length<=n)&&(decide (d.ctors.length<=n)&&d.ctors.all fun c=>decide (c.name.length<=n)&&decide (c.args.length<=n))
structure Sm (n:Nat) (w:List Data):Prop where
 len:w.length<=n
 data:∀d∈w,d.name.length<=n/\d.ctors.length<=n
 ctor:∀d∈w,∀c∈d.ctors,c.name.length<=n/\c.args.length<=n
theorem ztT {n:Nat}{w:List Data} (h:smB n w=true):Sm n w:=by
 simp only[smB,xad,decide_eq_true_eq,List.all_eq_true] at h;exact⟨h.1,fun d hd=>⟨(h.2 d hd).1,(h.2 d hd).2.1⟩,fun d hd c hc=>(h.2 d hd).2.2 c hc⟩
theorem Sm.small {n:Nat}{w:List Data} (h:Sm n w) (hn:n<=1000000000000):WSmall w:=
 ⟨Nat.le_trans h.len hn,fun d hd=>⟨Nat.le_trans (h.data d hd).1 hn,Nat.le_trans (h.data d hd).2 hn⟩,fun d hd c hc=>⟨Nat.le_trans (h.ctor d hd c hc).1 hn,Nat.le_trans (h.ctor d hd c hc).2 hn⟩⟩
theorem zsy:((List.range 7).all fun i=>smB 10 (zdb (nth zdv i)).1&&(za0 (zdb (nth zdv i)).1&&decide (1<=(zdb (nth zdv i)).1.length)))=true:=by kernel_rfl
structure WorldD (w:List Data):Prop where
 sm:Sm 10 w
 small:WSmall w
 valid:za0 w=true
 one:1<=w.length
theorem zhM (b:Str) (p:Nat):WorldD (zbt b p):=by
 have h:=List.all_eq_true.1 zsy (zan b p 7).toNat (List.mem_range.2 (zo9 b p));simp only[xad,decide_eq_true_eq] at h;exact⟨ztT h.1,(ztT h.1).small (by omega),h.2.1,h.2.2⟩
theorem znM {w:List Data} (hw:WT w){n:Nat}{f:Nat->Nat}{a k c:Int} (ht:TyIn w.length ⟨a,k⟩) (hc:c∈zaj w ⟨a,k⟩) (hn:n<=100) (hb:∀s,f s<=100000) (hin:∀u∈zaa w ⟨a,k⟩ c,InS n u):
  FnD Tryz.prog 227 [.d (zam w),.d (zev n f),.agg [.d (.i a),.d (.i k)],.d (.i c)] [] (.d (.i (most w f ⟨a,k⟩ c))) []:=by
 have hl:=zgQ hw ht hc;have hd:=zo6 hb (by omega);refine bd Tryz.f227 37 [] [] fun w0 F0 own kept hk=>?_;refine bx 3006 ?_;refine ev ?_;refine wc zfU (zcg hw ht hc) rfl rfl ?_;refine ev ?_;refine xak (ι:=List (Ty)×List (Ty)×(Nat)) hk (fun x=>[(11,.d (.i (x.1.length:Int))),(10,.d (.i (x.2.2:Int)))]) [8,12,17,18,19,20,21,22,23,24,25,26,27,28,29,30,31,32,33,34] (fun x=>[]) (fun x=>x.1++x.2.1=zaa w ⟨a,k⟩ c/\x.2.2<=100000/\zby f x.2.2 x.2.1=zby f 0 (zaa w ⟨a,k⟩ c)) (fun x=>x.2.1.length) ([],zaa w ⟨a,k⟩ c,0) ⟨by simp,by simp,rfl⟩ ⟨⟨_,rfl,xaq ?_⟩,⟨⟨_,rfl,xaq ?_⟩,trivial⟩⟩ trivial (fun x=>rfl) (fun x hg1=>?_);iterate 2 focus (first|rfl|(simp;done)|omega|(dsimp only;omega))
 obtain⟨pre,rest,m⟩:=x;dsimp only at hg1 ⊢;refine evc [] [] ?_;refine sq ?_ ?_<;>intro h1 h1p h1s<;>(try simp only[Q] at h1p);rcases rest with _|⟨y,rest⟩
 ·exfalso;simp_all
 have hdy:=hd y;have hye:dv f ⟨y.data,y.index⟩=dv f y:=rfl;refine xaS zaZ .none rfl rfl rfl rfl (zaK hg1.1) rfl ?_;refine ev ?_;refine wc zjo (zdU (f:=f) (a:=y.data) (k:=y.index) (hin y (by rw[<-hg1.1];simp)) hn) rfl rfl ?_;refine ev ?_;refine sq ?_ ?_<;>intro h2 h2p h2s<;>(try simp only[Q] at h2p);refine rq ?_;rotate_left;refine sq ?_ ?_<;>intro h3 h3p h3s<;>(try simp only[Q] at h3p);refine ar ?_;refine xah ((pre++[y],rest,max m (dv f y))) ⟨⟨(by have hz:=hg1.1;rw[<-hz];simp),⟨(by have:=hd y;dsimp only;omega),(by rw[<-hg1.2.2];simp only[zby];rw[if_neg (by have:=hd y;omega)])⟩⟩,(by simp),sx ⟨⟨_,rfl,xaq ?_⟩,⟨⟨_,rfl,xaq ?_⟩,trivial⟩⟩ trivial⟩;iterate 2 focus (first|rfl|(simp;done)|omega|(dsimp only;omega))
 refine ar ?_;refine xah ((pre++[y],rest,max m (dv f y))) ⟨⟨(by have hz:=hg1.1;rw[<-hz];simp),⟨(by have:=hd y;dsimp only;omega),(by rw[<-hg1.2.2];simp only[zby];rw[if_neg (by have:=hd y;omega)])⟩⟩,(by simp),sx ⟨⟨_,rfl,xaq ?_⟩,⟨⟨_,rfl,xaq ?_⟩,trivial⟩⟩ trivial⟩;iterate 2 focus (first|rfl|(simp;done)|omega|(dsimp only;omega))
 have hrest:rest=[]:=by
  rcases rest with _|⟨a,b⟩
  ·rfl
  ·exfalso;have hz:=congrArg List.length (hg1.1);simp only[xaa,xab,xac] at hz;omega
 subst hrest;refine ar ?_;refine rq ?_;rotate_left;all_goals (refine congrArg D.i ?_;unfold most;rw[<-hg1.2.2];first|(simp only[zby];rw[if_pos (by omega)];rfl)|(simp only[zby];omega))
def hdB (w:List Data):Nat->Ty->Bool
 |0,_=>false
 |d+1,t=>decide (t.data = -1)||(za3 w t).any fun c=>decide (t.data≠ -1)&&(zaa w t c).all (hdB w d)
theorem znq (w:List Data):∀(d:Nat) (t:Ty),hdB w d t=true↔Hd w d t
 |0,t=>by simp[hdB,Hd]
 |d+1,t=>by
  simp only[hdB,Hd,Bool.or_eq_true,decide_eq_true_eq,List.any_eq_true,xad,List.all_eq_true,znq w d]
def Low (w:List Data):Prop:=∀s,zal w s<=3
theorem zxr {w:List Data} (hd:Dp w) (h:(List.range (w.length*4)).all (fun s=> !hdB w 4 (tyS s)||hdB w 3 (tyS s))=true):Low w:=by
 intro s;by_cases hs:s<w.length*4
 ·obtain⟨h1,h2⟩:=zcQ hd.cl (w.length*4+1);by_cases h0:zal w s=0
  ·omega
  ·have hh:=h1 s hs (Nat.pos_of_ne_zero h0);have h3:=zjB hd.cl (d:=3) (by omega) (fun s hs hh=>by
    have:=List.all_eq_true.1 h s (List.mem_range.2 hs);rw[(znq w 4 (tyS s)).2 hh] at this;exact(znq w 3 _).1 (by simpa using this)) _ s hs hh
   by_cases h4:3<=w.length*4+1
   ·exact(h2 s hs 3 h4 h3).2
   ·omega
 ·have h0:=ziG (w:=w) (i:=s) (by omega) (w.length*4+1);show zbe w (w.length*4+1) s<=3
  omega
theorem zsz:((List.range 7).all fun i=>(List.range ((zdb (nth zdv i)).1.length*4)).all fun s=> !hdB (zdb (nth zdv i)).1 4 (tyS s)||hdB (zdb (nth zdv i)).1 3 (tyS s))=true:=by kernel_rfl
structure WorldL (w:List Data):Prop where
 dp:Dp w
 low:Low w
 few:Few w
theorem zfp (b:Str) (p:Nat):WorldL (zbt b p):=by
 have ho:=zhM b p;have hd:=zqO ho.small ho.valid;exact⟨hd,zxr hd (List.all_eq_true.1 zsz (zan b p 7).toNat (List.mem_range.2 (zo9 b p))),zt6 ho.small ho.valid⟩
theorem ztw {w:List Data} (hd:Dp w){t:Ty} (ht:InS (w.length*4) t) (hne:¬t.data = -1) (h:0<dv (zal w) t):∃c∈zaj w t,0<most w (zal w) t c/\most w (zal w) t c=dv (zal w) t:=by
 obtain⟨h1,h2⟩:Snd w (zal w)/\Cmp w (w.length*4+1) (zal w):=zcQ hd.cl (w.length*4+1);have hcmp:∀k,Cmp w k (zal w):=fun k=>by
  have h3:=(zcQ hd.cl (max k (w.length*4+1))).2;rw[zkq hd.cl (Nat.le_max_right _ _)] at h3;exact fun s hs d hdk hh=>h3 s hs d (by omega) hh
 have hv:zaj w t=za3 w t:=by unfold zaj;rw[if_neg hne]
 have hh:Hd w (dv (zal w) t) t:=zlZ h1 ht h;rcases hd0:dv (zal w) t with _|e
 ·omega
 rw[hd0] at hh;rcases hh with hh|⟨c,hc,_,hu⟩
 ·exact absurd hh hne
 have hin:=zbp hd ht (c:=c) (by rw[hv];exact hc);have hp:=zjM (f:=zal w) (l:=zaa w t c) (m:=0) (k:=e) (Nat.zero_le _) (fun u hu'=>zjx (hcmp e) (hin u hu') (hu u hu'));refine⟨c,by rw[hv];exact hc,hp.1, ?_⟩;have hle:most w (zal w) t c<=e+1:=hp.2;have hpos:0<most w (zal w) t c:=hp.1

 have hsn:=zhw (f:=zal w) (l:=zaa w t c) (m:=0) hp.1;have hH:Hd w (most w (zal w) t c) t:=by
  obtain⟨q,hq⟩:∃q,most w (zal w) t c=q+1:=⟨most w (zal w) t c-1,by omega⟩;rw[hq];refine .inr ⟨c,hc,hne,fun u hu'=>?_⟩;have hx:=hsn.2 u hu';have hlt:dv (zal w) u<most w (zal w) t c:=hx.2;exact Hd_le (by omega) (zlZ h1 (hin u hu') hx.1)
 have hge:=(zjx (hcmp _) ht hH).2;omega
def zef (w:List Data) (f:Nat->Nat) (t:Ty) (m c:Int):Bool:=decide (0<most w f t c)&&decide ((most w f t c:Int)<=m\/most w f t c=dv f t)
def zb6 (w:List Data) (f:Nat->Nat) (t:Ty) (m:Int):List Int:=(zaj w t).filter (zef w f t m)
theorem zpJ {P:Int->Bool}{pre:List Int}{y:Int} (h:P y=true):((pre++[y]).filter P).map (fun n=>[D.i n])=(pre.filter P).map (fun n=>[D.i n])++[[D.i y]]:=by simp[List.filter_append,h]
theorem zvK {P:Int->Bool}{pre:List Int}{y:Int} (h:P y=false):((pre++[y]).filter P).map (fun n=>[D.i n])=(pre.filter P).map (fun n=>[D.i n]):=by simp[List.filter_append,h]
def dV (f:Ty->Nat->Val×Nat):List Ty->Nat->List Val×Nat
 | [],q=>([],q)
 |t::r,q=>((f t q).1::(dV f r (f t q).2).1,(dV f r (f t q).2).2)
def zbX (b:Str) (w:List Data) (f:Nat->Nat):Nat->Ty->Int->Nat->Val×Nat
 |0,_,_,p=>(.mk 0 0 [],p)
 |n+1,t,m,p=>
  if t.data = -1 then (.mk (-1) (zan b p 10) [],p+1)
  else (.mk (nth (zb6 w f t m) (zan b p (zb6 w f t m).length).toNat) 0 (dV (fun u q=>zbX b w f n u (m-1) q) (zaa w t (nth (zb6 w f t m) (zan b p (zb6 w f t m).length).toNat)) (p+1)).1,
   (dV (fun u q=>zbX b w f n u (m-1) q) (zaa w t (nth (zb6 w f t m) (zan b p (zb6 w f t m).length).toNat)) (p+1)).2)
abbrev dW (b:Str) (w:List Data) (n:Nat) (m:Int):Ty->Nat->Val×Nat:=fun u x=>zbX b w (zal w) n u (m-1) x
def bdV:Nat->Nat
 |0=>0
 |d+1=>1+3*bdV d
def szV:Nat->Nat
 |0=>1
 |d+1=>1+3*szV d
theorem zvd {f:Ty->Nat->Val×Nat}{k:Nat}:∀(l:List Ty) (q:Nat),(∀t∈l,∀q,(f t q).2<=q+k)->(dV f l q).2<=q+l.length*k
 | [],q,_=>by simp[dV]
 |t::r,q,h=>by
  have h1:=h t (by simp) q;have h2:=zvd r (f t q).2 (fun x hx=>h x (by simp[hx]));simp only[dV,xab,Nat.add_mul];omega
theorem ztf {f:Ty->Nat->Val×Nat}:∀(l:List Ty) (q:Nat),(dV f l q).1.length=l.length
 | [],q=>rfl
 |t::r,q=>by simp only[dV,xab,ztf r]
theorem zve {f:Ty->Nat->Val×Nat}{k:Nat}:∀(l:List Ty) (q:Nat),(∀t∈l,∀q,(f t q).1.size<=k/\(f t q).1.ok)->Vals.size (dV f l q).1<=l.length*k/\Vals.ok (dV f l q).1
 | [],q,_=>by simp[dV,Vals.size,Vals.ok]
 |t::r,q,h=>by
  have h1:=h t (by simp) q;have h2:=zve r (f t q).2 (fun x hx=>h x (by simp[hx]));simp only[dV,xab,Nat.add_mul,Vals.size,Vals.ok];exact⟨by omega,h1.2,h2.2⟩
theorem zjA {w:List Data}{f:Nat->Nat}{t:Ty}{m c:Int} (h:c∈zb6 w f t m):c∈zaj w t/\0<most w f t c/\((most w f t c:Int)<=m\/most w f t c=dv f t):=by
 have:=List.mem_filter.1 h;simpa [zef] using this
structure Deep (w:List Data) (n:Nat) (t:Ty) (m:Int):Prop where
 ins:InS (w.length*4) t
 pos:0<dv (zal w) t
 le:dv (zal w) t<=n
 ml:m<=n
theorem zpI {w:List Data} (hd:Dp w){n:Nat}{t:Ty}{m:Int} (h:Deep w n t m) (hne:¬t.data = -1):1<=(zb6 w (zal w) t m).length:=by
 obtain⟨c,hc,h1,h2⟩:=ztw hd h.ins hne h.pos;exact List.length_pos_of_mem (a:=c) (List.mem_filter.2 ⟨hc,by have:=h.pos;simp[zef,h2,this]⟩)
theorem zpC {w:List Data} (hd:Dp w){n:Nat}{t:Ty}{m c:Int} (h:Deep w (n+1) t m) (hc:c∈zb6 w (zal w) t m):∀u∈zaa w t c,Deep w n u (m-1):=by
 intro u hu;obtain⟨h1,h2,h3⟩:=zjA hc;have hin:=zbp hd h.ins h1 u hu;have hs:=(zhw (f:=zal w) (l:=zaa w t c) (m:=0) h2).2 u hu;have hlt:dv (zal w) u<most w (zal w) t c:=hs.2;have:=h.le;have:=h.ml;exact⟨hin,hs.1,by rcases h3 with h3|h3<;>omega,by omega⟩
theorem zoy {w:List Data} (hd:Dp w){n:Nat}{t:Ty}{m:Int} (h:Deep w n t m) (hne:¬t.data = -1) (b:Str) (p:Nat):nth (zb6 w (zal w) t m) (zan b p (zb6 w (zal w) t m).length).toNat∈zb6 w (zal w) t m:=
 ziL (by have:=zpI hd h hne;omega)
theorem ziy {b:Str}{w:List Data} (hd:Dp w) (hf:Few w):∀(n:Nat) (t:Ty) (m:Int) (p:Nat),Deep w n t m->(zbX b w (zal w) n t m p).2<=p+bdV n/\(zbX b w (zal w) n t m p).1.size<=szV n/\(zbX b w (zal w) n t m p).1.ok
 |0,t,m,p,h=>by have:=h.pos;have:=h.le;omega
 |n+1,t,m,p,h=>by
  simp only[zbX,bdV,szV];split
  ·refine⟨by dsimp only;omega, ?_, ?_⟩
   ·simp only[Val.size,Vals.size];omega
   ·simp[Val.ok,Vals.ok]
  ·rename_i hne;have hm:=zoy hd h hne b p;generalize nth (zb6 w (zal w) t m) (zan b p (zb6 w (zal w) t m).length).toNat=c at *;have hk:=zpC hd h hm;have h3:=(hf t c (zjA hm).1 (zb0 h.ins)).1;have h1:=zvd (f:=fun u q=>zbX b w (zal w) n u (m-1) q) (k:=bdV n) (zaa w t c) (p+1) (fun u hu q=>(ziy hd hf n u (m-1) q (hk u hu)).1);have h2:=zve (f:=fun u q=>zbX b w (zal w) n u (m-1) q) (k:=szV n) (zaa w t c) (p+1) (fun u hu q=>(ziy hd hf n u (m-1) q (hk u hu)).2);have h4:(zaa w t c).length*bdV n<=3*bdV n:=Nat.mul_le_mul_right _ h3;have h5:(zaa w t c).length*szV n<=3*szV n:=Nat.mul_le_mul_right _ h3;have h6:=ztf (f:=fun u q=>zbX b w (zal w) n u (m-1) q) (zaa w t c) (p+1);refine⟨by dsimp only;omega, ?_, ?_⟩
   ·simp only[Val.size];omega
   ·simp only[Val.ok];exact⟨by omega,h2.2⟩
section
variable {b:Str}{w:List Data}{f:Nat->Nat}{n p:Nat}{t:Ty}{m:Int}
theorem zvH (h:t.data = -1):zbX b w f (n+1) t m p=(.mk (-1) (zan b p 10) [],p+1):=by simp only[zbX];rw[if_pos h]
theorem zvI (h:¬t.data = -1){c:Int} (hc:nth (zb6 w f t m) (zan b p (zb6 w f t m).length).toNat=c):zbX b w f (n+1) t m p =
  (.mk c 0 (dV (fun u q=>zbX b w f n u (m-1) q) (zaa w t c) (p+1)).1,(dV (fun u q=>zbX b w f n u (m-1) q) (zaa w t c) (p+1)).2):=by
 simp only[zbX];rw[if_neg h,hc]
end
theorem zij {b:Str}{w:List Data} (hb:b.length<=2000) (hd:Dp w) (hf:Few w):∀(n:Nat){a k m:Int}{p:Nat},Deep w n ⟨a,k⟩ m->(n:Int)-10<=m->n<=5->p+bdV n<=1000000->
  FnD Tryz.prog 291 [.ref 900 0,.d (zam w),.d (zev (w.length*4) (zal w)),.agg [.d (.i a),.d (.i k)],.d (.i m)] [(900,some (rdB b p))]
   (.agg [.d (.i (zbX b w (zal w) n ⟨a,k⟩ m p).1.ctor),.d (.i (zbX b w (zal w) n ⟨a,k⟩ m p).1.num),.d (zkk (zbX b w (zal w) n ⟨a,k⟩ m p).1.kids)]) [(900,some (rdB b (zbX b w (zal w) n ⟨a,k⟩ m p).2))]
 |0,a,k,m,p,h,_,_,_=>by have:=h.pos;have:=h.le;omega
 |n+1,a,k,m,p,h,hm,hn5,hp=>by
  have ht:=zb0 h.ins;have hml:=h.ml;have h4:=hd.four;have hbd:bdV (n+1)=1+3*bdV n:=rfl;have hfb:∀s,zal w s<=100000:=znB hd (k:=w.length*4+1) (s:=0) (by omega) (by omega) (pre:=[]) (by simp);have hcl:=zgG hd.wt ht;have hfl:(zb6 w (zal w) ⟨a,k⟩ m).length<=(zaj w ⟨a,k⟩).length:=List.length_filter_le _ _;have hflm:((((zaj w ⟨a,k⟩).filter (zef w (zal w) ⟨a,k⟩ m)).map fun n=>[D.i n]).length:Int)=(zb6 w (zal w) ⟨a,k⟩ m).length:=by rw[xac];rfl
  have hfp:=fun hne=>zpI hd h hne;have v14:=fun hh=>zcd (b:=b) (p:=p) (n:=((zb6 w (zal w) ⟨a,k⟩ m).length:Int)) hh;have hmem:=fun hne=>zoy hd h hne b p;have hdm:=zvH (b:=b) (w:=w) (f:=zal w) (n:=n) (p:=p) (t:=⟨a,k⟩) (m:=m);have hdm2:=fun hne=>zvI (b:=b) (w:=w) (f:=zal w) (n:=n) (p:=p) (t:=⟨a,k⟩) (m:=m) hne rfl;generalize hcc:nth (zb6 w (zal w) ⟨a,k⟩ m) (zan b p (zb6 w (zal w) ⟨a,k⟩ m).length).toNat=cc at *;have hfm:=fun hne=>zjA (hmem hne);have hkid:=fun hne=>zpC hd h (hmem hne);have hfw:=fun hne=>(hf ⟨a,k⟩ cc (hfm hne).1 ht).1;have hok:=fun u q hu=>ziy (b:=b) hd hf n u (m-1) q hu;have hat:¬a = -1->(((zaj w ⟨a,k⟩).filter (zef w (zal w) ⟨a,k⟩ m)).map fun n=>[D.i n])[(zan b p (zb6 w (zal w) ⟨a,k⟩ m).length).toNat]?=some [D.i cc]:=fun hne=>by
   rw[<-hcc];exact zap (l:=zb6 w (zal w) ⟨a,k⟩ m) (by have:=v14 (by have:=hfp hne;omega);omega)
  refine bd Tryz.f291 98 [] [9,11] fun w0 F0 own kept hk=>?_;refine bx 3008 ?_;refine ab 3010 tz49 ?_;refine tv ?_;refine sq ?_ ?_<;>intro h1 h1p h1s<;>(try simp only[Q] at h1p);refine wd zbQ (zaM (p:=p) (n:=10) hb (by omega) (by omega)) rfl rfl ⟨rfl,trivial⟩ ?_;refine bu [0,1] [_,_] st49 ?_;refine so ty49 ?_;refine tv ?_;refine rn [(900,some (rdB b (zbX b w (zal w) (n+1) ⟨a,k⟩ m p).2))] (.cons (.cellA ty49 rfl rfl rfl) .nil) (.agg (.cons (.eqd ?_) (.cons (.eqd ?_) (.cons (.nild ?_) .nil)))) ⟨rfl,rfl⟩ (SubO.get ⟨.inr ?_,⟨.inl rfl,trivial⟩⟩) (zaC rfl);rotate_left 4;refine wc zfT (zb5 hd.wt ht) rfl rfl ?_;refine ev ?_;refine xbg 5 sl29 .none rfl rfl ?_;refine ev ?_;refine xak (ι:=List (Int)×List (Int)) hk (fun x=>[(13,.d (.i (x.1.length:Int))),(12,.gl 5 ((x.1.filter (zef w (zal w) ⟨a,k⟩ m)).map fun n=>[D.i n]))]) [14,28,29,30,31,32,33,34,35,36,37,38,39,40,41,42,43,44,45,46,47,48,49,50,51,52,53,54,55,56,57,58,59,60,61,62] (fun x=>[(5,some (.tok (((x.1.filter (zef w (zal w) ⟨a,k⟩ m)).map fun n=>[D.i n])).length 1))]) (fun x=>x.1++x.2=zaj w ⟨a,k⟩) (fun x=>x.2.length) ([],zaj w ⟨a,k⟩) (by simp) ⟨⟨_,rfl,xaq ?_⟩,⟨⟨_,rfl,LeA.glg ?_⟩,trivial⟩⟩ ⟨zab ?_,trivial⟩ (fun x=>rfl) (fun x hg1=>?_);iterate 3 focus (rfl)
  obtain⟨pre,rest⟩:=x;dsimp only at hg1 ⊢;refine evc [] [9,11] ?_;refine sq ?_ ?_<;>intro h2 h2p h2s<;>(try simp only[Q] at h2p);rcases rest with _|⟨y,rest⟩
  ·exfalso;simp_all
  refine xaS sl29 .none rfl rfl rfl rfl (zaK hg1) rfl ?_;refine evd [] [] ?_;refine wc zsM (znM hd.wt ht (c:=y) (by rw[<-hg1];simp) (by omega) hfb (zbp hd h.ins (by rw[<-hg1];simp))) rfl rfl ?_;refine evd [] [] ?_;refine dr ?_;refine xal ?_;refine xaA 14 [(55,.d (.bool (zef w (zal w) ⟨a,k⟩ m y)))] [42,43,44,45,46,47,48,49,50,51,52,53,54] ?_ ?_;refine ev ?_;refine sq ?_ ?_<;>intro h3 h3p h3s<;>(try simp only[Q] at h3p);refine sq ?_ ?_<;>intro h4 h4p h4s<;>(try simp only[Q] at h4p);focus (exact jn rfl (xap (by(unfold zef;rw[Bool.eq_iff_iff];simp_all;done))))
  refine Walk.call (cr:=[]) zjo (zdU h.ins (by omega)) rfl (.some rfl rfl h4) rfl rfl (LeL.refl _) trivial rfl rfl rfl ?_;refine evs [] [(44,true),(48,false)] ?_ ⟨⟨_,rfl,h3⟩,⟨_,rfl,h4⟩,trivial⟩;focus (exact jn rfl (xap (by(unfold zef;rw[Bool.eq_iff_iff];simp_all;omega))))
  focus (exact jn rfl (xap (by(unfold zef;rw[Bool.eq_iff_iff];simp_all;done))))
  refine xaz ?_;refine tv ?_;refine sq ?_ ?_<;>intro h5 h5p h5s<;>(try simp only[Q] at h5p);refine xaS sl29 .none rfl rfl rfl rfl (zaK hg1) rfl ?_;refine ev ?_;refine si [0] [_] sl29 tz3 ?_;refine ap sl29 zz3 rfl rfl rfl (by simp) (by(have hz:=congrArg List.length hg1;have hq:=List.length_filter_le (zef w (zal w) ⟨a,k⟩ m) pre;simp at hz ⊢;omega)) ?_;refine ev ?_;refine ar ?_;refine xah ((pre++[y],rest)) ⟨(by have hz:=hg1;rw[<-hz];simp),(by simp),sx ⟨⟨_,rfl,xaq ?_⟩,⟨⟨_,rfl,LeA.glg ?_⟩,trivial⟩⟩ ⟨zab ?_,trivial⟩⟩;iterate 3 focus (first|(simp;done)|(rw[zpJ (by assumption)];all_goals rfl)|(rw[zpJ (by assumption)];simp;done))
  refine ar ?_;refine xah ((pre++[y],rest)) ⟨(by have hz:=hg1;rw[<-hz];simp),(by simp),sx ⟨⟨_,rfl,xaq ?_⟩,⟨⟨_,rfl,LeA.glg ?_⟩,trivial⟩⟩ ⟨zab ?_,trivial⟩⟩;iterate 3 focus (first|(simp;done)|(rw[zvK (by assumption)];all_goals rfl))
  have hrest:rest=[]:=by
   rcases rest with _|⟨a,b⟩
   ·rfl
   ·exfalso;have hz:=congrArg List.length (hg1);simp only[xaa,xab,xac] at hz;omega
  subst hrest;rw[List.append_nil] at hg1;subst hg1;refine evc [] [] ?_;refine wd zbQ (zaM (p:=p) (n:=((((zaj w ⟨a,k⟩).filter (zef w (zal w) ⟨a,k⟩ m)).map fun n=>[D.i n]).length:Int)) hb (by omega) (by omega)) rfl rfl ⟨rfl,trivial⟩ ?_;refine xaV (i:=(zan b p (zb6 w (zal w) ⟨a,k⟩ m).length).toNat) sl29 .none rfl rfl rfl (by rw[hflm];have:=v14 (by have:=hfp (by omega);omega);omega) (hat (by omega)) rfl ?_;refine ev ?_;refine bu [0] [_] st49 ?_;refine ab 3015 tz49 ?_;refine so ty49 ?_;refine tv ?_;refine wc zfU (zcg hd.wt ht (hfm (by omega)).1) rfl rfl ?_;refine ev ?_;refine xan 3015 2 1 3 rfl rfl rfl rfl ?_;refine xak (ι:=List (Ty)×List (Ty)×(Nat)×(List Val)) hk (fun x=>[(17,.d (.i (x.1.length:Int)))]) [76,77,78,79,80,81,82,83,84,85,86,87,88,89,90,91,92,93,94,95,96] (fun x=>[(900,some (.box [.d (zcl b),.d (.i (x.2.2.1:Int))])),(3015,some (.box [.d (.i cc),.d (.i 0),.gl 1 (x.2.2.2.map Val.cc)])),(1,some (.tok (x.2.2.2.map Val.cc).length 3))]) (fun x=>x.1++x.2.1=zaa w ⟨a,k⟩ cc/\x.2.2.1<=p+1+x.1.length*bdV n/\x.2.2.2.length=x.1.length/\(x.2.2.2++(dV (dW b w n m) x.2.1 x.2.2.1).1,(dV (dW b w n m) x.2.1 x.2.2.1).2)=dV (dW b w n m) (zaa w ⟨a,k⟩ cc) (p+1)) (fun x=>x.2.1.length) ([],zaa w ⟨a,k⟩ cc,p+1,[]) ⟨by simp,by simp,by simp,by simp⟩ ⟨⟨_,rfl,xaq ?_⟩,trivial⟩ ⟨?_,⟨?_,⟨zab ?_,trivial⟩⟩⟩ (fun x=>rfl) (fun x hg2=>?_);focus (rfl)
  iterate 2 focus (first|rfl|(simp[getH];done))
  focus (rfl)
  obtain⟨pre,rest,q,ks⟩:=x;dsimp only at hg2 ⊢;refine evc [] [9,11] ?_;refine sq ?_ ?_<;>intro h6 h6p h6s<;>(try simp only[Q] at h6p);rcases rest with _|⟨y,rest⟩
  ·exfalso;simp_all
  have hfw3:=hfw (by omega);have hpm:pre.length*bdV n<=2*bdV n:=Nat.mul_le_mul_right _ (by have hz:=congrArg List.length hg2.1;have:=hfw (by omega);simp at hz;omega);refine xaS zaZ .none rfl rfl rfl rfl (zaK hg2.1) rfl ?_;refine evd [] [] ?_;refine ar ?_;refine wd zpq (zij hb hd hf n (a:=y.data) (k:=y.index) (m:=m-1) (p:=q) (hkid (by omega) y (by rw[<-hg2.1];simp)) (by omega) (by omega) (by omega)) rfl rfl ⟨rfl,trivial⟩ ?_;refine si [0] [_] sl47 tz49 ?_;refine ap sl47 zz49 rfl rfl rfl (by simp) (by(have hz:=congrArg List.length hg2.1;have:=hfw (by omega);simp at hz ⊢;omega)) ?_;refine evd [] [] ?_;refine so ty47 ?_;refine dr ?_;refine ar ?_;refine xah ((pre++[y],rest,(zbX b w (zal w) n y (m-1) q).2,ks++[(zbX b w (zal w) n y (m-1) q).1])) ⟨⟨(by have hz:=hg2.1;rw[<-hz];simp),⟨(by have:=(hok y q (hkid (by omega) y (by rw[<-hg2.1];simp))).1;simp only[xaa,xab,xai,Nat.add_mul];omega),(by simp[hg2.2.2.1]),(by rw[<-hg2.2.2.2];simp[dV])⟩⟩,(by simp),sx ⟨⟨_,rfl,xaq ?_⟩,trivial⟩ ⟨?_,⟨?_,⟨zab ?_,trivial⟩⟩⟩⟩;focus ((simp;done))
  iterate 2 focus (first|rfl|(simp[getH];done))
  focus ((simp;done))
  have hrest:rest=[]:=by
   rcases rest with _|⟨a,b⟩
   ·rfl
   ·exfalso;have hz:=congrArg List.length (hg2.1);simp only[xaa,xab,xac] at hz;omega
  subst hrest;refine so ty49 ?_;refine tv ?_;refine rn [(900,some (rdB b (zbX b w (zal w) (n+1) ⟨a,k⟩ m p).2))] (.cons (.cellA ty49 rfl rfl rfl) .nil) (.agg (.cons (.eqd ?_) (.cons (.eqd ?_) (.cons (.gld ?_) .nil)))) ⟨rfl,rfl⟩ (SubO.get ⟨.inr ?_,⟨.inl rfl,trivial⟩⟩) (zaC rfl);rotate_left 4;all_goals (((first|(rw[hdm (by omega)];all_goals rfl)|(rw[hdm2 (by omega)];have hfin:=hg2.2.2.2;simp only[dV,List.append_nil] at hfin;rw[<-hfin];all_goals first|rfl|(show _=D.sl (Val.cs _);rw[Val.cs_cc];all_goals rfl)|(show _=Val.cs _;rw[Val.cs_cc];all_goals rfl)));done))
end Go.Proofs.YtlfipehhbdjnjaaGreat
namespace Go.Proofs.YtlfipehhbdjnjaaGreat
open Go
set_option linter.unusedSimpArgs false
set_option linter.unusedVariables false
set_option maxRecDepth 1000000
end Go.Proofs.YtlfipehhbdjnjaaGreat
namespace Go.Proofs.YtlfipehhbdjnjaaGreat
open Go
set_option linter.unusedSimpArgs false
set_option linter.unusedVariables false
set_option maxRecDepth 100000
def uv (x:Int):Int:=if x=3 then 1 else if x=0\/x=1 then 0 else -1
def fN (y:Nat):Nat:=(y ^^^ (y / 64)) % 24
def uN (y:Nat):Int:=uv (fN y:Int)
def wS (D:Nat):Nat->Nat->Int
 |0,_=>0
 |n+1,y=>uN y+wS D n (y+D)
theorem znd (D:Nat):∀m n y,wS D (m+n) y=wS D m y+wS D n (y+m*D)
 |0,n,y=>by simp[wS]
 |m+1,n,y=>by
  rw[show m+1+n=(m+n)+1 by omega];simp only[wS];rw[znd D m n (y+D),show y+D+m*D=y+(m+1)*D by rw[Nat.add_mul];omega];omega
def g8 (r:Nat):Nat:=(r % 8) ^^^ (r / 64 % 8)
theorem zxn (y:Nat):fN y % 8=g8 (y % 512):=by
 unfold fN g8;rw[Nat.mod_mod_of_dvd _ (by decide),show(8:Nat)=2 ^ 3 from rfl,Nat.xor_mod_two_pow];congr 1
 ·omega
 ·omega
def um (r:Nat):Int:=if r=3 then 1 else if r=0\/r=1 then 0 else -1
theorem zpd (y:Nat):uN y<=um (g8 (y % 512)):=by
 rw[<-zxn];have h:fN y<24:=Nat.mod_lt _ (by omega);unfold uN;generalize fN y=x at *;have key:∀x:Nat,x<24->uv (x:Int)<=um (x % 8):=by decide
 exact key x h
def zxO:Bool:=(List.range 512).all fun r=>[128,384].all fun E=>decide (um (g8 r)+um (g8 ((r+E) % 512))+um (g8 ((r+2*E) % 512))+um (g8 ((r+3*E) % 512))<= -1)
theorem zuG:zxO=true:=by kernel_rfl
theorem quad {E:Nat} (hE:E % 512=128\/E % 512=384) (y:Nat):uN y+uN (y+E)+uN (y+2*E)+uN (y+3*E)<= -1:=by
 have h:=List.all_eq_true.1 zuG (y % 512) (List.mem_range.2 (Nat.mod_lt _ (by omega)));have h2:=List.all_eq_true.1 h (E % 512) (by rcases hE with e|e<;>rw[e]<;>simp);have h3:=of_decide_eq_true h2;have a0:=zpd y;have a1:=zpd (y+E);have a2:=zpd (y+2*E);have a3:=zpd (y+3*E);rw[show(y+E) % 512=(y % 512+E % 512) % 512 by omega] at a1;rw[show(y+2*E) % 512=(y % 512+2*(E % 512)) % 512 by omega] at a2;rw[show(y+3*E) % 512=(y % 512+3*(E % 512)) % 512 by omega] at a3;omega
theorem zvm {D E:Nat} (hE:E % 512=128\/E % 512=384):∀n y,wS D n y+wS D n (y+E)+wS D n (y+2*E)+wS D n (y+3*E)<= -n
 |0,y=>by simp[wS]
 |n+1,y=>by
  have h1:=quad hE y;have h2:=zvm (D:=D) hE n (y+D);simp only[wS];rw[show y+E+D=y+D+E by omega,show y+2*E+D=y+D+2*E by omega,show y+3*E+D=y+D+3*E by omega];omega
theorem four {D h:Nat} (hE:h*D % 512=128\/h*D % 512=384) (y:Nat):wS D (h+(h+(h+h))) y<= -h:=by
 have:=zvm (D:=D) hE h y;rw[znd,znd,znd,show y+h*D+h*D=y+2*(h*D) by omega,show y+2*(h*D)+h*D=y+3*(h*D) by omega];omega
end Go.Proofs.YtlfipehhbdjnjaaGreat
namespace Go.Proofs.YtlfipehhbdjnjaaGreat
open Go
set_option linter.unusedSimpArgs false
set_option linter.unusedVariables false
set_option maxRecDepth 100000
set_option maxHeartbeats 2000000
def mutV (b:Str):Nat->Nat->Val->Option (Val×Nat)
 |0,_,_=>none
 |n+1,p,v=>
  if zan b p 24=0 then some (.mk (numV b (p+1) [0,1,-1,9,-2]) v.num v.kids,p+2)
  else if zan b p 24=1 then some (.mk v.ctor (numV b (p+1) [10,-1,1]) v.kids,p+2)
  else if zan b p 24=2 then some (.mk v.ctor v.num (v.kids++[.mk (-1) 0 []]),p+1)
  else if zan b p 24=3 then
   match v.kids with
   | []=>some (.mk v.ctor v.num v.kids,p+1)
   |k::r=>
    match mutV b n (p+1) k with
    |none=>none
    |some (k1,p1)=>
     match mutV b n p1 k1 with
     |none=>none
     |some (k2,p2)=>some (.mk v.ctor v.num (k2::r),p2)
  else some (.mk v.ctor v.num v.kids,p+1)
theorem xay:∀a b:List Val,Vals.size (a++b)=Vals.size a+Vals.size b
 | [],b=>by simp[Vals.size]
 |x::r,b=>by simp only[xag,Vals.size,xay r b];omega
theorem xaw (a n:Int) (k:List Val):(Val.mk a n k).size=1+Vals.size k:=rfl
theorem zvY {b:Str}{n p:Nat}{v:Val}{k:Val}{r:List Val} (h:zan b p 24=3) (hk:v.kids=k::r){v':Val}{q:Nat} (hm:mutV b (n+1) p v=some (v',q)):
  ∃k1 p1 k2,mutV b n (p+1) k=some (k1,p1)/\mutV b n p1 k1=some (k2,q)/\v' = .mk v.ctor v.num (k2::r):=by
 simp only[mutV] at hm;rw[if_neg (by omega),if_neg (by omega),if_neg (by omega),if_pos h,hk] at hm;cases h1:mutV b n (p+1) k with
 |none=>simp[h1] at hm
 |some x=>
  obtain⟨k1,p1⟩:=x;cases h2:mutV b n p1 k1 with
  |none=>simp[h1,h2] at hm
  |some y=>
   obtain⟨k2,p2⟩:=y;simp only[h1,h2,Option.some.injEq,Prod.mk.injEq] at hm;obtain⟨rfl,rfl⟩:=hm;exact⟨k1,p1,k2,rfl,h2,rfl⟩
theorem znA {b:Str}:∀ {n:Nat}{p:Nat}{v v':Val}{q:Nat},mutV b n p v=some (v',q)->p<q/\v'.size<=v.size+(q-p)
 |0,p,v,v',q,h=>by simp[mutV] at h
 |n+1,p,v,v',q,h=>by
  have hv:=Val.size_eq v;by_cases h3:zan b p 24=3
  ·cases hk:v.kids with
   |nil=>
    simp only[mutV] at h;rw[if_neg (by omega),if_neg (by omega),if_neg (by omega),if_pos h3,hk] at h;simp only[Option.some.injEq,Prod.mk.injEq] at h;obtain⟨rfl,rfl⟩:=h;rw[xaw];simp only[Vals.size];omega
   |cons k r=>
    obtain⟨k1,p1,k2,h1,h2,rfl⟩:=zvY h3 hk h;have a1:=znA h1;have a2:=znA h2;rw[hk] at hv;rw[xaw];simp only[Vals.size] at hv ⊢;omega
  ·simp only[mutV] at h;split at h
   ·simp only[Option.some.injEq,Prod.mk.injEq] at h;obtain⟨rfl,rfl⟩:=h;rw[xaw];omega
   split at h
   ·simp only[Option.some.injEq,Prod.mk.injEq] at h;obtain⟨rfl,rfl⟩:=h;rw[xaw];omega
   split at h
   ·simp only[Option.some.injEq,Prod.mk.injEq] at h;obtain⟨rfl,rfl⟩:=h;rw[xaw,xay];simp only[Vals.size,Val.size];omega
   ·simp only[Option.some.injEq,Prod.mk.injEq] at h;obtain⟨rfl,rfl⟩:=h;rw[xaw];omega
def zfo (b:Str) (p:Nat):Ty:=⟨zan b (p+1) (zbt b p).length,numV b (p+2) [0,0,1,2]⟩
def typT (b:Str) (p:Nat):Ty:=if dv (zal (zbt b p)) (zfo b p)=0 then ⟨-1,0⟩ else zfo b p
def typV (b:Str) (p:Nat):Val×Nat:=zbX b (zbt b p) (zal (zbt b p)) 4 (typT b p) (numV b (p+3) [3,2,4,1]) (p+4)
theorem zxp {n:Nat}{a k:Int} (h1:0<=a) (h2:a<n) (h3:0<=k) (h4:k<=3):InS (n*4) ⟨a,k⟩:=by
 refine .inr ⟨?_, ?_⟩
 ·simp only[zcs];omega
 ·obtain⟨i,rfl⟩:=Int.eq_ofNat_of_zero_le h1;obtain⟨m,rfl⟩:=Int.eq_ofNat_of_zero_le h3;simp only[zcs,Int.toNat_natCast];exact zhf (by omega)
theorem zv1 (b:Str) (p:Nat):0<=numV b p [0,0,1,2]/\numV b p [0,0,1,2]<=3:=by
 have:=zeG (b:=b) (p:=p) (l:=[0,0,1,2]) (by simp);simp only[List.mem_cons,List.not_mem_nil,or_false] at this;omega
theorem zqM (b:Str) (p:Nat):InS ((zbt b p).length*4) (zfo b p):=by
 have h1:=zcd (b:=b) (p:=p+1) (n:=((zbt b p).length:Int)) (by have:=(zhM b p).one;omega);have h2:=zv1 b (p+2);exact zxp h1.1 h1.2 h2.1 h2.2
theorem zj8 (b:Str) (p:Nat):Deep (zbt b p) 4 (typT b p) (numV b (p+3) [3,2,4,1]):=by
 have hl:=zfp b p;have h4:=num4 b (p+3);unfold typT;split
 ·exact⟨.inl rfl,by simp[dv],by simp[dv],by omega⟩
 ·rename_i h;have:=zo6 (f:=zal (zbt b p)) (b:=3) hl.low (by omega) (zfo b p);exact⟨zqM b p,by omega,by omega,by omega⟩
theorem zrY (b:Str) (p:Nat):(typV b p).2<=p+44/\(typV b p).1.size<=121/\(typV b p).1.ok:=by
 have hl:=zfp b p;have h:=ziy (b:=b) hl.dp hl.few 4 (typT b p) (numV b (p+3) [3,2,4,1]) (p+4) (zj8 b p);have e1:bdV 4=40:=by decide
 have e2:szV 4=121:=by decide
 unfold typV;exact⟨by omega,by omega,h.2.2⟩
theorem zmX {b:Str}{p:Nat} (hb:b.length<=2000) (hp:p<=100000):
  FnD Tryz.prog 213 [.ref 900 0] [(900,some (rdB b p))] (.tup [.d (zam (zbt b p)),.agg [.d (.i (typT b p).data),.d (.i (typT b p).index)],.agg [.d (.i (typV b p).1.ctor),.d (.i (typV b p).1.num),.d (zkk (typV b p).1.kids)]]) [(900,some (rdB b (typV b p).2))]:=by
 have ho:=zhM b p;have hl:=zfp b p;have h4:=num4 b (p+3);have hin:=zqM b p;have hdeep:=zj8 b p;have hT:typT b p=if dv (zal (zbt b p)) (zfo b p)=0 then ⟨-1,0⟩ else zfo b p:=rfl
 have hV:typV b p=zbX b (zbt b p) (zal (zbt b p)) 4 (typT b p) (numV b (p+3) [3,2,4,1]) (p+4):=rfl;have e1:bdV 4=40:=by decide
 have hwd:=zmW (p:=p) hb (by omega);have hpk:=zaM (b:=b) (p:=p+1) (n:=(((zbt b p).map Data.c).length:Int)) hb (by omega) (by have:=ho.small.len;simp;omega);rw[show zan b (p+1) (((zbt b p).map Data.c).length:Int)=(zfo b p).data by rw[xac];rfl] at hpk;have hnu:=zbP (b:=b) (p:=p+2) (l:=[0,0,1,2]) hb (by omega) (by simp) (by simp);rw[show numV b (p+2) [0,0,1,2]=(zfo b p).index from rfl] at hnu;have hdr:=fun(t:Ty) (h:Deep (zbt b p) 4 t (numV b (p+3) [3,2,4,1]))=>zij hb hl.dp hl.few 4 (a:=t.data) (k:=t.index) (p:=p+4) h (by omega) (by omega) (by omega);have hdp:=zdU (f:=zal (zbt b p)) (a:=(zfo b p).data) (k:=(zfo b p).index) hin (by have:=hl.dp.four;omega);have htb:=zfk hl.dp;generalize zbt b p=w at *;generalize zfo b p=t0 at *;obtain⟨a0,k0⟩:=t0;have hdr2:=hdr ⟨-1,0⟩;have hdr3:=hdr ⟨a0,k0⟩;clear hdr;dsimp only at hT hV hdr2 hdr3;refine bd Tryz.f213 35 [] [] fun w0 F0 own kept hk=>?_;refine ab 3003 tz25 ?_;refine ab 3004 tz49 ?_;refine tv ?_;refine wd zwU (hwd) rfl rfl ⟨rfl,trivial⟩ ?_;refine ev ?_;refine wc zlF (htb) rfl rfl ?_;refine ev ?_;refine wd zbQ (hpk) rfl rfl ⟨rfl,trivial⟩ ?_;refine ev ?_;refine si [0,1,2,3] [_,_,_,_] sl29 tz3 ?_;refine wd zdL (hnu) rfl rfl ⟨rfl,trivial⟩ ?_;refine bu [0,1] [_,_] st25 ?_;refine ab 3007 tz25 ?_;refine so ty25 ?_;refine tv ?_;refine wc zjo (hdp) rfl rfl ?_;refine ev ?_;refine sq ?_ ?_<;>intro h1 h1p h1s<;>(try simp only[Q] at h1p);have HDR:=hdr2 (by rw[if_pos (by omega)] at hT;rw[<-hT];exact hdeep);refine bu [0] [_] st25 ?_;refine so ty25 ?_;refine tv ?_;refine si [0,1,2,3] [_,_,_,_] sl29 tz3 ?_;refine wd zdL (zbP (b:=b) (p:=p+3) (l:=[3,2,4,1]) hb (by omega) (by simp) (by simp)) rfl rfl ⟨rfl,trivial⟩ ?_;refine wd zpq (HDR) rfl rfl ⟨rfl,trivial⟩ ?_;refine evd [] [] ?_;refine so ty25 ?_;refine so ty49 ?_;refine dr ?_;refine rn [(900,some (rdB b (typV b p).2))] (.cons (.tmp rfl) (.cons (.cellA ty25 rfl rfl rfl) (.cons (.cellA ty49 rfl rfl rfl) .nil))) (.tup (.cons (.eqd ?_) (.cons (.agg (.cons (.eqd ?_) (.cons (.eqd ?_) .nil))) (.cons (.agg (.cons (.eqd ?_) (.cons (.eqd ?_) (.cons (.eqd ?_) .nil)))) .nil)))) ⟨rfl,rfl⟩ (SubO.get ⟨.inr ?_,⟨.inl rfl,trivial⟩⟩) (zaC rfl);rotate_left 7;have HDR:=hdr3 (by rw[if_neg (by omega)] at hT;rw[<-hT];exact hdeep);refine si [0,1,2,3] [_,_,_,_] sl29 tz3 ?_;refine wd zdL (zbP (b:=b) (p:=p+3) (l:=[3,2,4,1]) hb (by omega) (by simp) (by simp)) rfl rfl ⟨rfl,trivial⟩ ?_;refine wd zpq (HDR) rfl rfl ⟨rfl,trivial⟩ ?_;refine evd [] [] ?_;refine so ty25 ?_;refine so ty49 ?_;refine dr ?_;refine rn [(900,some (rdB b (typV b p).2))] (.cons (.tmp rfl) (.cons (.cellA ty25 rfl rfl rfl) (.cons (.cellA ty49 rfl rfl rfl) .nil))) (.tup (.cons (.eqd ?_) (.cons (.agg (.cons (.eqd ?_) (.cons (.eqd ?_) .nil))) (.cons (.agg (.cons (.eqd ?_) (.cons (.eqd ?_) (.cons (.eqd ?_) .nil)))) .nil)))) ⟨rfl,rfl⟩ (SubO.get ⟨.inr ?_,⟨.inl rfl,trivial⟩⟩) (zaC rfl);rotate_left 7;all_goals (first|((first|(rw[if_pos (by omega)] at hT;rw[hV,hT];all_goals rfl)|(rw[if_neg (by omega)] at hT;rw[hV,hT];all_goals rfl)|(rw[if_pos (by omega)] at hT;rw[hT];all_goals rfl)|(rw[if_neg (by omega)] at hT;rw[hT];all_goals rfl)|rfl);done)|(first|(rw[if_pos (by omega)] at hT;rw[hV,hT];all_goals rfl)|(rw[if_neg (by omega)] at hT;rw[hV,hT];all_goals rfl)))
mutual
theorem Val.ok_sz:∀v:Val,v.size<=1000000000000->v.ok
 | .mk a n ks,h=>by
  have h1:1+Vals.size ks<=1000000000000:=h;exact⟨by have:=xax ks;omega,Vals.ok_sz ks (by omega)⟩
theorem Vals.ok_sz:∀l:List Val,Vals.size l<=1000000000000->Vals.ok l
 | [],_=>trivial
 |v::r,h=>by
  have h1:v.size+Vals.size r<=1000000000000:=h;exact⟨Val.ok_sz v (by omega),Vals.ok_sz r (by omega)⟩
theorem xax:∀l:List Val,l.length<=Vals.size l
 | []=>Nat.zero_le _
 |v::r=>by
  have h1:=xax r;have h2:=Val.size_eq v;show r.length+1<=v.size+Vals.size r
  omega
end
theorem Val.cs_app (a b:List Val):Val.cs (a++b)=Val.cs a++Val.cs b:=by rw[Val.cs_eq,Val.cs_eq,Val.cs_eq,xaf]
structure MutOf (b:Str) (p:Nat) (v v':Val) (q:Nat):Prop where
 some_:∃n,mutV b n p v=some (v',q)
 q:q<=3010000
theorem MutOf.size {b:Str}{p:Nat}{v v':Val}{q:Nat} (h:MutOf b p v v' q):v'.size<=v.size+3010000:=by
 obtain⟨n,hn⟩:=h.some_;have:=znA hn;have:=h.q;omega
def g0:Gd:=⟨0,0,0⟩
def zca (b:Str) (x:Vt) (g:Gd) (q:Nat):Gd×Nat:=if x.ty.data = -1 then (if zan b q 2=0 then (⟨1+zan b (q+1) 2,x.var,zan b (q+2) 10⟩,q+3) else (g,q+1)) else (g,q)
def gdL (b:Str):List Vt->Gd->Nat->Gd×Nat
 | [],g,q=>(g,q)
 |x::r,g,q=>gdL b r (zca b x g q).1 (zca b x g q).2
theorem ziC {b:Str}{x:Vt}{g:Gd}{q:Nat} (h:x.ty.data = -1) (h2:zan b q 2=0):zca b x g q=(⟨1+zan b (q+1) 2,x.var,zan b (q+2) 10⟩,q+3):=by unfold zca;rw[if_pos h,if_pos h2]
theorem ziD {b:Str}{x:Vt}{g:Gd}{q:Nat} (h:x.ty.data = -1) (h2:¬zan b q 2=0):zca b x g q=(g,q+1):=by unfold zca;rw[if_pos h,if_neg h2]
theorem ziE {b:Str}{x:Vt}{g:Gd}{q:Nat} (h:¬x.ty.data = -1):zca b x g q=(g,q):=by unfold zca;rw[if_neg h]
theorem zho (b:Str) (x:Vt) (g:Gd) (q:Nat):q<=(zca b x g q).2/\(zca b x g q).2<=q+3:=by unfold zca;split;split;all_goals (dsimp only;omega)
theorem zpP (b:Str):∀(l:List Vt) (g:Gd) (q:Nat),(gdL b l g q).2<=q+3*l.length
 | [],g,q=>by simp[gdL]
 |x::r,g,q=>by
  unfold gdL;have h1:=zho b x g q;have h2:=zpP b r (zca b x g q).1 (zca b x g q).2;simp only[xab];omega
def clD (b:Str) (w:List Data) (t:Ty) (q:Nat):Cl×Nat:=
 (⟨zbg b w t q,(gdL b (zd9 w t (zbg b w t q)) g0 (zce b w t q).2.2).1⟩,(gdL b (zd9 w t (zbg b w t q)) g0 (zce b w t q).2.2).2)
theorem zvO {w:List Data}{t:Ty}:isP w t anyP=true:=by
 have e:zag w t anyP=[]:=by unfold zag;rw[if_neg (by decide),if_neg (by decide),if_neg (by decide)]
 have ho:ownP w t anyP=true:=by simp[ownP,anyP,Pat.op,Pat.n,Pat.m,Pat.var,Pat.ctor]
 have h:zas w 10 t anyP=true:=by
  show(ownP w t anyP&&all2 _ (zag w t anyP) anyP.kids)=true
  rw[e,ho];rfl
 have h2:anyP.size=1:=zhZ.1;have h3:linP w 10 t anyP=true:=by
  unfold linP;rw[e];rfl
 unfold isP;rw[h,h3,h2];rfl
theorem zq8 (b:Str) (w:List Data) (t:Ty) (q:Nat):isP w t (zbg b w t q)=true:=by
 unfold zbg;split
 ·assumption
 ·exact zvO
theorem zs4 {b:Str}{w:List Data} (hf:Few w){t:Ty} (ht:TyIn w.length t) (q:Nat):(clD b w t q).2<=q+518/\(clD b w t q).1.pat.size<=242/\(clD b w t q).1.pat.ok:=by
 have h1:=zhA (b:=b) hf ht q;have h2:=zmP (b:=b) hf ht q;have h3:=ziW w t (zbg b w t q);have h4:=zpP b (zd9 w t (zbg b w t q)) g0 (zce b w t q).2.2;exact⟨by unfold clD;dsimp only;omega,h2⟩
theorem zlr {b:Str}{w:List Data} (hb:b.length<=2000) (hw:WT w) (hf:Few w){a k:Int}{p:Nat} (hp:p<=100000) (ht:TyIn w.length ⟨a,k⟩):
  FnD Tryz.prog 292 [.ref 900 0,.d (zam w),.agg [.d (.i a),.d (.i k)]] [(900,some (rdB b p))]
   (.agg [.d (.i (clD b w ⟨a,k⟩ p).1.pat.op),.d (.i (clD b w ⟨a,k⟩ p).1.pat.ctor),.d (.i (clD b w ⟨a,k⟩ p).1.pat.n),.d (.i (clD b w ⟨a,k⟩ p).1.pat.m),.d (.i (clD b w ⟨a,k⟩ p).1.pat.var),.d (zad (clD b w ⟨a,k⟩ p).1.pat.kids),.d (.i (clD b w ⟨a,k⟩ p).1.g.op),.d (.i (clD b w ⟨a,k⟩ p).1.g.var),.d (.i (clD b w ⟨a,k⟩ p).1.g.n)])
   [(900,some (rdB b (clD b w ⟨a,k⟩ p).2))]:=by
 have h1:=zhA (b:=b) hf ht p;have h2:=zmP (b:=b) hf ht p;have h3:=ziW w ⟨a,k⟩ (zbg b w ⟨a,k⟩ p);have hip:=zq8 b w ⟨a,k⟩ p;have hsh:zas w 10 ⟨a,k⟩ (zbg b w ⟨a,k⟩ p)=true:=by unfold isP at hip;simp only[xad] at hip;exact hip.1
 have hva:=zdf hw hsh (by omega) ht h2.2 (by omega);rw[<-zoK hip] at hva;have hso:=znQ hb hw hf hp ht;have hgb:=zpP b;have hpb:=fun q=>zcd (b:=b) (p:=q) (n:=2) (by omega);unfold clD;dsimp only;generalize zbg b w ⟨a,k⟩ p=pt at *;generalize zd9 w ⟨a,k⟩ pt=L at *;generalize (zce b w ⟨a,k⟩ p).2.2=q0 at *;refine bd Tryz.f292 51 [] [] fun w0 F0 own kept hk=>?_;refine bx 3005 ?_;refine ab 3006 tz40 ?_;refine tv ?_;refine wd zwq (hso) rfl rfl ⟨rfl,trivial⟩ ?_;refine bu [0] [_] st40 ?_;refine ab 3007 tz40 ?_;refine so ty40 ?_;refine tv ?_;refine wc zgR (hva) rfl rfl ?_;refine ev ?_;refine xak (ι:=List (Vt)×List (Vt)×(Nat)×(Gd)) hk (fun x=>[(9,.d (.i (x.1.length:Int)))]) [20,21,22,23,24,25,26,27,28,29,30,31,32,33,34,35,36,37,38,39,40,41,42,43,44,45,46,47,48,49] (fun x=>[(900,some (.box [.d (zcl b),.d (.i (x.2.2.1:Int))])),(3007,some (.box [.d (.i pt.op),.d (.i pt.ctor),.d (.i pt.n),.d (.i pt.m),.d (.i pt.var),.d (zad pt.kids),.d (.i x.2.2.2.op),.d (.i x.2.2.2.var),.d (.i x.2.2.2.n)]))]) (fun x=>x.1++x.2.1=L/\x.2.2.1<=q0+3*x.1.length/\gdL b x.2.1 x.2.2.2 x.2.2.1=gdL b L g0 q0) (fun x=>x.2.1.length) ([],L,q0,g0) ⟨by simp,by simp,rfl⟩ ⟨⟨_,rfl,xaq ?_⟩,trivial⟩ ⟨?_,⟨?_,trivial⟩⟩ (fun x=>rfl) (fun x hg1=>?_);focus (first|rfl|(simp;done)|omega)
 iterate 2 focus (first|rfl|(rw[ziC (by omega) (by omega)];all_goals rfl)|(rw[ziD (by omega) (by omega)];all_goals rfl)|(rw[ziE (by omega)];all_goals rfl))
 obtain⟨pre,rest,q,g⟩:=x;dsimp only at hg1 ⊢;refine evc [] [] ?_;refine sq ?_ ?_<;>intro h1 h1p h1s<;>(try simp only[Q] at h1p);rcases rest with _|⟨y,rest⟩
 ·exfalso;simp_all
 have hpl:pre.length<=6:=(by have hz:=congrArg List.length hg1.1;simp at hz;omega);refine xaS zcZ .none rfl rfl rfl rfl (zaK hg1.1) rfl ?_;refine ev ?_;refine sq ?_ ?_<;>intro h2 h2p h2s<;>(try simp only[Q] at h2p);refine Walk.call (cr:=[]) zbQ (zaM (p:=q) (n:=2) hb (by omega) (by omega)) rfl (.some rfl rfl h2) rfl rfl (LeL.refl _) ⟨rfl,trivial⟩ rfl rfl rfl ?_;refine evs [] [(33,true)] ?_ ⟨⟨_,rfl,h2⟩,trivial⟩;refine sq ?_ ?_<;>intro h3 h3p h3s<;>(try simp only[Q] at h3p);refine wd zbQ (zaM (p:=q+1) (n:=2) hb (by omega) (by omega)) rfl rfl ⟨rfl,trivial⟩ ?_;refine evd [] [] ?_;refine ar ?_ (by have:=hpb (q+1);constructor<;>omega);refine xaS zcZ .none rfl rfl rfl rfl (zaK hg1.1) rfl ?_;refine evd [] [] ?_;refine wd zbQ (zaM (p:=q+2) (n:=10) hb (by omega) (by omega)) rfl rfl ⟨rfl,trivial⟩ ?_;refine bu [0,1,2] [_,_,_] st38 ?_;refine evd [] [] ?_;refine so ty38 ?_;refine dr ?_;refine ar ?_ (by have:=hpb (q+1);constructor<;>omega);refine xah ((pre++[y],rest,(zca b y g q).2,(zca b y g q).1)) ⟨⟨(by have hz:=hg1.1;rw[<-hz];simp),⟨(by have:=zho b y g q;simp only[xaa,xab,xai];omega),(by rw[<-hg1.2.2];simp[gdL])⟩⟩,(by simp),sx ⟨⟨_,rfl,xaq ?_⟩,trivial⟩ ⟨?_,⟨?_,trivial⟩⟩⟩;focus (first|rfl|(simp;done)|omega)
 iterate 2 focus (first|rfl|(rw[ziC (by omega) (by omega)];all_goals rfl)|(rw[ziD (by omega) (by omega)];all_goals rfl)|(rw[ziE (by omega)];all_goals rfl))
 refine ar ?_ (by have:=hpb (q+1);constructor<;>omega);refine xah ((pre++[y],rest,(zca b y g q).2,(zca b y g q).1)) ⟨⟨(by have hz:=hg1.1;rw[<-hz];simp),⟨(by have:=zho b y g q;simp only[xaa,xab,xai];omega),(by rw[<-hg1.2.2];simp[gdL])⟩⟩,(by simp),sx ⟨⟨_,rfl,xaq ?_⟩,trivial⟩ ⟨?_,⟨?_,trivial⟩⟩⟩;focus (first|rfl|(simp;done)|omega)
 iterate 2 focus (first|rfl|(rw[ziC (by omega) (by omega)];all_goals rfl)|(rw[ziD (by omega) (by omega)];all_goals rfl)|(rw[ziE (by omega)];all_goals rfl))
 refine sqF ?_;refine ar ?_ (by have:=hpb (q+1);constructor<;>omega);refine xah ((pre++[y],rest,(zca b y g q).2,(zca b y g q).1)) ⟨⟨(by have hz:=hg1.1;rw[<-hz];simp),⟨(by have:=zho b y g q;simp only[xaa,xab,xai];omega),(by rw[<-hg1.2.2];simp[gdL])⟩⟩,(by simp),sx ⟨⟨_,rfl,xaq ?_⟩,trivial⟩ ⟨?_,⟨?_,trivial⟩⟩⟩;focus (first|rfl|(simp;done)|omega)
 iterate 2 focus (first|rfl|(rw[ziC (by omega) (by omega)];all_goals rfl)|(rw[ziD (by omega) (by omega)];all_goals rfl)|(rw[ziE (by omega)];all_goals rfl))
 have hrest:rest=[]:=by
  rcases rest with _|⟨a,b⟩
  ·rfl
  ·exfalso;have hz:=congrArg List.length (hg1.1);simp only[xaa,xab,xac] at hz;omega
 subst hrest;refine so ty40 ?_;refine tv ?_;refine rn [(900,some (rdB b (gdL b L g0 q0).2))] (.cons (.cellA ty40 rfl rfl rfl) .nil) (.agg (.cons (.eqd ?_) (.cons (.eqd ?_) (.cons (.eqd ?_) (.cons (.eqd ?_) (.cons (.eqd ?_) (.cons (.eqd ?_) (.cons (.eqd ?_) (.cons (.eqd ?_) (.cons (.eqd ?_) .nil)))))))))) ⟨rfl,rfl⟩ (SubO.get ⟨.inr ?_,⟨.inl rfl,trivial⟩⟩) (zaC rfl);rotate_left 10;all_goals (first|((first|rfl|(rw[<-hg1.2.2,gdL];all_goals rfl));done)|(first|(rw[<-hg1.2.2,gdL];all_goals rfl)|rfl))
def clL (b:Str) (w:List Data) (t:Ty):Nat->Nat->List Cl×Nat
 |0,q=>([],q)
 |n+1,q=>((clD b w t q).1::(clL b w t n (clD b w t q).2).1,(clL b w t n (clD b w t q).2).2)
def CSm (l:List Cl):Prop:=∀c∈l,c.pat.size<=400/\c.pat.ok
theorem zs5 {b:Str}{w:List Data} (hf:Few w){t:Ty} (ht:TyIn w.length t):∀(n q:Nat),(clL b w t n q).2<=q+518*n/\(clL b w t n q).1.length=n/\CSm (clL b w t n q).1
 |0,q=>⟨by simp[clL],rfl,fun c hc=>by simp[clL] at hc⟩
 |n+1,q=>by
  have h1:=zs4 (b:=b) hf ht q;have h2:=zs5 (b:=b) hf ht n (clD b w t q).2;unfold clL;refine⟨by dsimp only;omega,by simp[h2.2.1],fun c hc=>?_⟩;rcases List.mem_cons.1 hc with rfl|hc
  ·exact⟨by omega,h1.2.2⟩
  ·exact h2.2.2 c hc
theorem num6 (b:Str) (p:Nat):0<=numV b p [3,2,4,5,1,0]/\numV b p [3,2,4,5,1,0]<=5:=by
 have:=zeG (b:=b) (p:=p) (l:=[3,2,4,5,1,0]) (by simp);simp only[List.mem_cons,List.not_mem_nil,or_false] at this;omega
def clS (b:Str) (w:List Data) (t:Ty) (q:Nat):List Cl×Nat:=clL b w t (numV b q [3,2,4,5,1,0]).toNat (q+1)
theorem zxg {b:Str}{w:List Data} (hf:Few w){t:Ty} (ht:TyIn w.length t) (q:Nat):(clS b w t q).2<=q+2591/\(clS b w t q).1.length<=5/\CSm (clS b w t q).1:=by
 have h:=zs5 (b:=b) hf ht (numV b q [3,2,4,5,1,0]).toNat (q+1);have h2:=num6 b q;unfold clS;exact⟨by omega,by omega,h.2.2⟩
theorem zqN (b:Str) (p:Nat):TyIn (zbt b p).length (typT b p):=zb0 (zj8 b p).ins
def rnL (b:Str):List Cl×Nat:=clS b (zbt b 0) (typT b 0) (typV b 0).2
theorem ztO (b:Str):(rnL b).2<=2700/\(rnL b).1.length<=5/\CSm (rnL b).1:=by
 have h1:=(zrY b 0).1;have h2:=zxg (b:=b) (zfp b 0).few (zqN b 0) (typV b 0).2;unfold rnL;exact⟨by omega,h2.2⟩
def anyC:Cl:=⟨⟨1,0,0,0,0,[]⟩,⟨0,0,0⟩⟩
def mutC (b:Str) (l:List Cl) (q:Nat):List Cl×Nat:=
 if zan b q 24=0 then (match l with
  | []=>([],q+1)
  |y::r=>(⟨y.pat,⟨numV b (q+1) [1,2,3,-1],numV b (q+2) [0,5,9],numV b (q+3) [3,10,-1]⟩⟩::r,q+4))
 else if zan b q 24=1 then (match l with
  | []=>([],q+1)
  |y::r=>(⟨(mutP b (mutP b y.pat (q+1)).1 (mutP b y.pat (q+1)).2).1,y.g⟩::r,(mutP b (mutP b y.pat (q+1)).1 (mutP b y.pat (q+1)).2).2))
 else if zan b q 24=2 then (l++List.replicate (9-l.length) anyC,q+1)
 else (l,q+1)
theorem zp8 (b:Str) (p:Pat) (q:Nat):(mutP b p q).2<=q+2:=by
 unfold mutP;repeat' split
 all_goals (dsimp only;omega)
theorem znz {b:Str}{p:Pat}{q m:Nat} (hs:p.size<=m) (hm:m<=1000) (hok:p.ok):(mutP b p q).1.size<=m+1/\(mutP b p q).1.ok:=by
 have hv:zbj.size=1/\zbj.ok:=⟨by rw[Pat.size_eq];rfl,by rw[Pat.ok_iff];exact⟨by simp[zbj,Pat.kids],trivial⟩⟩;refine⟨?_,(zvX (by omega) hok).2⟩;have h0:=Pat.size_eq p;have same:∀a c n m' v:Int,(Pat.mk a c n m' v p.kids).size<=m+1:=fun a c n m' v=>by
  rw[Pat.size_eq];show 1+Pats.size p.kids<=_;omega
 unfold mutP;split;exact same _ _ _ _ _
 split;exact same _ _ _ _ _
 split;exact same _ _ _ _ _
 split
 ·dsimp only;rw[Pat.size_eq];show 1+Pats.size (p.kids++[zbj])<=_;rw[xav];omega
 split
 ·dsimp only;rw[Pat.size_eq];show 1+Pats.size (p.kids.set 0 zbj)<=_;have:=znE (x:=zbj) (l:=p.kids) (i:=0);omega
 split;exact same _ _ _ _ _
 exact same _ _ _ _ _
theorem zvW {b:Str}{l:List Cl}{q:Nat} (h:CSm l) (hl:l.length<=6):(mutC b l q).2<=q+5/\(mutC b l q).1.length<=9/\∀c∈(mutC b l q).1,c.pat.size<=4000/\c.pat.ok:=by
 have hs:∀c∈l,c.pat.size<=4000/\c.pat.ok:=fun c hc=>⟨by have:=(h c hc).1;omega,(h c hc).2⟩;unfold mutC;split
 ·cases l with
  |nil=>exact⟨by simp,by simp,by simp⟩
  |cons y r=>
   simp only[xab] at hl;refine⟨by simp,by simp;omega,fun c hc=>?_⟩;rcases List.mem_cons.1 hc with rfl|hc
   ·exact hs y (by simp)
   ·exact hs c (by simp[hc])
 split
 ·cases l with
  |nil=>exact⟨by simp,by simp,by simp⟩
  |cons y r=>
   have h1:=h y (by simp);have h2:=zp8 b y.pat (q+1);have h3:=zp8 b (mutP b y.pat (q+1)).1 (mutP b y.pat (q+1)).2;simp only[xab] at hl;refine⟨by dsimp only;omega,by simp;omega,fun c hc=>?_⟩;rcases List.mem_cons.1 hc with rfl|hc
   ·have h4:=znz (b:=b) (p:=y.pat) (q:=q+1) (m:=400) h1.1 (by omega) h1.2;have h5:=znz (b:=b) (p:=(mutP b y.pat (q+1)).1) (q:=(mutP b y.pat (q+1)).2) (m:=401) h4.1 (by omega) h4.2;exact⟨by have:=h5.1;dsimp only;omega,h5.2⟩
   ·exact hs c (by simp[hc])
 split
 ·refine⟨by simp,by simp;omega,fun c hc=>?_⟩;rcases List.mem_append.1 hc with hc|hc
  ·exact hs c hc
  ·rw[List.eq_of_mem_replicate hc];have ha:=zhZ;exact⟨by show anyP.size<=_;omega,ha.2⟩
 ·exact⟨by simp,by dsimp only;omega,hs⟩
theorem zxs {b:Str}{y:Cl}{r:List Cl}{q:Nat} (h:zan b q 24=0):mutC b (y::r) q=(⟨y.pat,⟨numV b (q+1) [1,2,3,-1],numV b (q+2) [0,5,9],numV b (q+3) [3,10,-1]⟩⟩::r,q+4):=by unfold mutC;rw[if_pos h]
theorem zxt {b:Str}{y:Cl}{r:List Cl}{q:Nat} (h:zan b q 24=1):mutC b (y::r) q=(⟨(mutP b (mutP b y.pat (q+1)).1 (mutP b y.pat (q+1)).2).1,y.g⟩::r,(mutP b (mutP b y.pat (q+1)).1 (mutP b y.pat (q+1)).2).2):=by unfold mutC;rw[if_neg (by omega),if_pos h]
theorem ztx {b:Str}{l:List Cl}{q:Nat} (h:zan b q 24=2):mutC b l q=(l++List.replicate (9-l.length) anyC,q+1):=by unfold mutC;rw[if_neg (by omega),if_neg (by omega),if_pos h]
theorem zty {b:Str}{l:List Cl}{q:Nat} (h0:¬zan b q 24=0) (h1:¬zan b q 24=1) (h2:¬zan b q 24=2):mutC b l q=(l,q+1):=by unfold mutC;rw[if_neg h0,if_neg h1,if_neg h2]
theorem zp7 {b:Str}{l:List Cl}{q:Nat} (h0:zan b q 24=0\/zan b q 24=1) (h:l.length=0):mutC b l q=(l,q+1):=by
 obtain rfl:=List.eq_nil_of_length_eq_zero h;unfold mutC;rcases h0 with h0|h0
 ·rw[if_pos h0]
 ·rw[if_neg (by omega),if_pos h0]
theorem zeK (l:List Cl):∀x∈l.map Cl.c,x.length=9:=by
 intro x hx;obtain⟨y,_,rfl⟩:=List.mem_map.1 hx;rfl
theorem zpf (l:List Cl) (i:Nat):(l++List.replicate i anyC).map Cl.c++[Cl.c anyC]=(l++List.replicate (i+1) anyC).map Cl.c:=by
 rw[List.replicate_succ',<-List.append_assoc,xaf (l₁:=l++List.replicate i anyC)];rfl
def rcW (b:Str):List Data:=zbt b 0
def rcT (b:Str):Ty:=typT b 0
theorem znR {b:Str}{w:List Data} (hb:b.length<=2000) (hw:WT w) (hf:Few w){a k:Int}{p:Nat} (hp:p<=90000) (ht:TyIn w.length ⟨a,k⟩):
  FnD Tryz.prog 214 [.ref 900 0,.d (zam w),.agg [.d (.i a),.d (.i k)]] [(900,some (rdB b p))] (.gl 1 ((clS b w ⟨a,k⟩ p).1.map Cl.c)) [(900,some (rdB b (clS b w ⟨a,k⟩ p).2)),(1,some (.tok ((clS b w ⟨a,k⟩ p).1.map Cl.c).length 9))]:=by
 have h6:=num6 b p;have hnu:=zbP (b:=b) (p:=p) (l:=[3,2,4,5,1,0]) hb (by omega) (by simp) (by simp);have hok:=fun q=>zs4 (b:=b) hf ht q;unfold clS;obtain⟨n0,hn0⟩:∃n:Nat,numV b p [3,2,4,5,1,0]=(n:Int):=⟨_,(Int.toNat_of_nonneg h6.1).symm⟩;rw[hn0] at h6 hnu ⊢;rw[Int.toNat_natCast];refine bd Tryz.f214 25 [] [] fun w0 F0 own kept hk=>?_;refine bx 3005 ?_;refine ev ?_;refine xbg 1 sl26 .none rfl rfl ?_;refine ev ?_;refine si [0,1,2,3,4,5] [_,_,_,_,_,_] sl29 tz3 ?_;refine wd zdL (hnu) rfl rfl ⟨rfl,trivial⟩ ?_;refine ev ?_;refine xak (ι:=Nat×List Cl×Nat) hk (fun x=>[(8,.d (.i (x.1:Int))),(7,.gl 1 (x.2.1.map Cl.c))]) [13,14,15,16,17,18,19,20,21,22,23] (fun x=>[(900,some (.box [.d (zcl b),.d (.i (x.2.2:Int))])),(1,some (.tok ((x.2.1.map Cl.c)).length 9))]) (fun x=>x.1<=n0/\x.2.2+518*x.1<=p+1+518*n0/\x.2.1.length+x.1<=5/\(x.2.1++(clL b w ⟨a,k⟩ x.1 x.2.2).1,(clL b w ⟨a,k⟩ x.1 x.2.2).2)=clL b w ⟨a,k⟩ n0 (p+1)) (fun x=>x.1) (n0,[],p+1) ⟨by simp,by simp,by simp;omega,by simp⟩ ⟨⟨_,rfl,xaq ?_⟩,⟨⟨_,rfl,LeA.glg ?_⟩,trivial⟩⟩ ⟨?_,⟨zab ?_,trivial⟩⟩ (fun x=>rfl) (fun x hg1=>?_);iterate 2 focus (rfl)
 focus (first|rfl|(simp[getH];done))
 focus (rfl)
 refine evc [] [] ?_;refine sq ?_ ?_<;>intro h1 h1p h1s<;>(try simp only[Q,Int.natCast_inj] at h1p);refine wd zwV (zlr (p:=x.2.2) hb hw hf (by omega) ht) rfl rfl ⟨rfl,trivial⟩ ?_;refine si [0] [_] sl26 tz40 ?_;refine Walk.append sl26 zz40 rfl .none rfl rfl rfl rfl (zcW rfl (by rfl)) (by intro y hy;simp at hy;subst hy;rfl) (by simp;omega) (by simp;omega) ?_;refine ev ?_;refine ar ?_;refine xah ((x.1-1,x.2.1++[(clD b w ⟨a,k⟩ x.2.2).1],(clD b w ⟨a,k⟩ x.2.2).2)) ⟨⟨by dsimp only;omega,by have:=hok x.2.2;dsimp only;omega,by simp;omega,by rw[<-hg1.2.2.2];obtain⟨m,hm⟩:∃m,x.1=m+1:=⟨x.1-1,by omega⟩;dsimp only;rw[hm];simp[clL]⟩,(by dsimp only;omega),sx ⟨⟨_,rfl,xaq ?_⟩,⟨⟨_,rfl,LeA.glg ?_⟩,trivial⟩⟩ ⟨?_,⟨zab ?_,trivial⟩⟩⟩;iterate 2 focus (first|omega|(simp;done))
 focus (first|rfl|(simp[getH];done))
 focus ((simp;done))
 refine rn [(900,some (rdB b (clL b w ⟨a,k⟩ n0 (p+1)).2)),(1,some (.tok ((clL b w ⟨a,k⟩ n0 (p+1)).1.map Cl.c).length 9))] (r1 rfl) (.glg ?_) ⟨rfl,rfl⟩ (SubO.get ⟨.inr ?_,⟨.inr ?_,⟨.inl rfl,trivial⟩⟩⟩) (zaC rfl);rotate_left 3;all_goals (((first|rfl|(rw[<-hg1.2.2.2,show x.1=0 by omega];simp[clL];done)|(rw[<-hg1.2.2.2,show x.1=0 by omega,clL];all_goals rfl)|(have hz:=hg1.2.2.2;rw[show x.1=0 by omega] at hz;simp only[clL,List.append_nil] at hz;rw[<-hz];all_goals rfl));done))
theorem zm2 {b:Str} (hb:b.length<=2000):
  FnD Tryz.prog 117 [.ref 900 0] [(900,some (rdB b 0))] (.tup [.d (zam (zbt b 0)),.agg [.d (.i (typT b 0).data),.d (.i (typT b 0).index)],.gl 1 ((rnL b).1.map Cl.c),.agg [.d (.i (typV b 0).1.ctor),.d (.i (typV b 0).1.num),.d (zkk (typV b 0).1.kids)]]) [(900,some (rdB b (rnL b).2)),(1,some (.tok ((rnL b).1.map Cl.c).length 9))]:=by
 have hl:=zfp b 0;have hv:=(zrY b 0).1;have hty:=zmX (p:=0) hb (by omega);have hcl:=znR (p:=(typV b 0).2) (a:=(typT b 0).data) (k:=(typT b 0).index) hb hl.dp.wt hl.few (by omega) (zqN b 0);rw[show clS b (zbt b 0) ⟨(typT b 0).data,(typT b 0).index⟩ (typV b 0).2=rnL b from rfl] at hcl;generalize rnL b=z at *;refine bd Tryz.f117 22 [] [] fun w0 F0 own kept hk=>?_;refine ab 3003 tz25 ?_;refine ev ?_;refine ab 3005 tz49 ?_;refine tv ?_;refine wd zwA (hty) rfl rfl ⟨rfl,trivial⟩ ?_;refine ev ?_;refine ab 3007 tz25 ?_;refine ab 3008 tz49 ?_;refine ev ?_;refine so ty25 ?_;refine so ty49 ?_;refine tv ?_;refine Walk.call (cr:=[1]) zwB (hcl) rfl .none rfl rfl (LeL.refl _) ⟨rfl,trivial⟩ rfl rfl rfl ?_;refine evd [] [] ?_;refine so ty25 ?_;refine evd [] [] ?_;refine so ty49 ?_;refine dr ?_;focus (refine rn [(900,some (rdB b z.2)),(1,some (.tok (z.1.map Cl.c).length 9))] (.cons (.tmp rfl) (.cons (.cellA ty25 rfl rfl rfl) (.cons (.tmp rfl) (.cons (.cellA ty49 rfl rfl rfl) .nil)))) (.tup (.cons (.eqd ?_) (.cons (.agg (.cons (.eqd ?_) (.cons (.eqd ?_) .nil))) (.cons (.glg ?_) (.cons (.agg (.cons (.eqd ?_) (.cons (.eqd ?_) (.cons (.eqd ?_) .nil)))) .nil))))) ⟨rfl,rfl⟩ (SubO.get ⟨.inr (by rfl),⟨.inr (by rfl),⟨.inl rfl,trivial⟩⟩⟩) (zaC rfl);all_goals (rfl))
def dmL (b:Str):List Cl×Nat:=if (rnL b).1.length=0 then rnL b else if zan b (rnL b).2 4=0 then ((rnL b).1++[anyC],(rnL b).2+1) else ((rnL b).1,(rnL b).2+1)
theorem zth (b:Str):(dmL b).2<=2701/\(dmL b).1.length<=6/\CSm (dmL b).1:=by
 have h:=ztO b;unfold dmL;split
 ·exact⟨by omega,by omega,h.2.2⟩
 ·split
  ·refine⟨by dsimp only;omega,by simp;omega,fun c hc=>?_⟩;rcases List.mem_append.1 hc with hc|hc
   ·exact h.2.2 c hc
   ·rw[List.mem_singleton.1 hc];exact⟨by rw[Pat.size_eq];exact(by decide:1+0<=400),by rw[Pat.ok_iff];exact⟨by simp[anyC,Pat.kids],trivial⟩⟩
  ·exact⟨by dsimp only;omega,by dsimp only;omega,h.2.2⟩
def dmC (b:Str):List Cl:=(mutC b (dmL b).1 (dmL b).2).1
theorem zpE (b:Str):(dmC b).length<=9/\∀c∈dmC b,c.pat.size<=4000/\c.pat.ok:=by
 have h:=zth b;exact(zvW h.2.2 h.2.1).2
theorem zxN {y:Cl}{r:List Cl}{a b c:AV}{L:List AV}:putC (((y::r).map Cl.c).flatten.map AV.d++L) 6 [a,b,c]=some ([.d (.i y.pat.op),.d (.i y.pat.ctor),.d (.i y.pat.n),.d (.i y.pat.m),.d (.i y.pat.var),.d (.sl (Pat.cs y.pat.kids)),a,b,c]++((r.map Cl.c).flatten.map .d++L)):=by
 simp[putC]
theorem zxz {y:Cl}{r:List Cl}{a b c d e f:AV}{L:List AV}:putC (((y::r).map Cl.c).flatten.map AV.d++L) 0 [a,b,c,d,e,f]=some ([a,b,c,d,e,f,.d (.i y.g.op),.d (.i y.g.var),.d (.i y.g.n)]++((r.map Cl.c).flatten.map .d++L)):=by
 simp[putC]
theorem zxk {y:Cl}{r:List Cl}{L:List AV}:cutC (((y::r).map Cl.c).flatten.map AV.d++L) 0 6=some [.d (.i y.pat.op),.d (.i y.pat.ctor),.d (.i y.pat.n),.d (.i y.pat.m),.d (.i y.pat.var),.d (.sl (Pat.cs y.pat.kids))]:=by
 simp[cutC]
theorem zvj {cs:List AV}{r:List Cl}{cap:Nat} (h9:cs.length=9) (hcap:r.length+1<=cap):(cs++((r.map Cl.c).flatten.map AV.d++List.replicate ((cap-(r.length+1))*9) AV.any)).length=cap*9:=by
 rw[xaa,xaa,xac,zdD (k:=9) (zeK r),List.length_replicate,xac,h9];have:(cap-(r.length+1))*9+(r.length+1)*9=cap*9:=by rw[<-Nat.add_mul];congr 1;omega
 omega
theorem ztv {e:List D}{r:List Cl}{L:List AV} (h9:e.length=9):(e.map AV.d++((r.map Cl.c).flatten.map AV.d++L)).take ((r.length+1)*9)=(e::r.map Cl.c).flatten.map AV.d:=by
 rw[<-List.append_assoc,<-xaf,show e++(r.map Cl.c).flatten=(e::r.map Cl.c).flatten by simp];refine List.take_left' ?_;rw[xac,zdD (k:=9) (by intro x hx;rcases List.mem_cons.1 hx with rfl|hx;exact h9;exact zeK r x hx)];simp
theorem zvi (l:List D):AV.idsL (l.map AV.d)=[]:=by
 induction l with
 |nil=>rfl
 |cons x r ih=>show AV.ids (.d x)++AV.idsL (r.map AV.d)=[];rw[ih];rfl
theorem zts (n:Nat):AV.idsL (List.replicate n .any)=[]:=by
 induction n with
 |zero=>rfl
 |succ n ih=>rw[List.replicate_succ];show AV.ids .any++AV.idsL (List.replicate n .any)=[];rw[ih];rfl
theorem zhc {b:Str} (hb:b.length<=2000){l:List Cl}{q:Nat} (hq:q<=10000) (hl:l.length<=6) (hc:¬((zan b q 24=0\/zan b q 24=1)/\l≠[])):
  FnD Tryz.prog 119 [.ref 900 0,.d (zb4 l)] [(900,some (rdB b q))] (.gl 77 ((mutC b l q).1.map Cl.c)) [(900,some (rdB b (mutC b l q).2)),(77,some (.tok ((mutC b l q).1.map Cl.c).length 9))]:=by
 have hnil:l≠[]->zan b q 24≠0/\zan b q 24≠1:=fun h=>by
  constructor
  ·intro h2;exact hc ⟨.inl h2,h⟩
  ·intro h2;exact hc ⟨.inr h2,h⟩
 refine bd Tryz.f119 56 [] [] fun w0 F0 own kept hk=>?_;refine xbg 77 sl26 .none rfl rfl ?_;refine ev ?_;refine Walk.append sl26 zz40 rfl .none rfl rfl rfl rfl (zcW rfl (by first|rfl|(simp;done)|(simp;omega))) (by first|exact zeK _|(intro y hy;simp at hy;subst hy;rfl)) (by simp;omega) (by simp;omega) ?_;refine ev ?_;refine wd zbQ (zaM (p:=q) (n:=24) hb (by omega) (by omega)) rfl rfl ⟨rfl,trivial⟩ ?_;refine tv ?_;refine sq ?_ ?_<;>intro h1 h1p h1s<;>(try simp only[Q,Int.natCast_inj] at h1p);refine sq ?_ ?_<;>intro h2 h2p h2s<;>(try simp only[Q,Int.natCast_inj] at h2p);exfalso;have hne:l≠[]:=(fun hh=>by rw[hh] at h2p;exact absurd h2p (by decide));exact(hnil hne).1 (by omega);have hz0:l.length=0:=(by have hq:=h2p;simp only[List.nil_append,xac] at hq;omega);refine rn [(900,some (rdB b (mutC b l q).2)),(77,some (.tok ((mutC b l q).1.map Cl.c).length 9))] (r1 rfl) (.glg ?_) ⟨rfl,rfl⟩ (SubO.get ⟨.inr ?_,⟨.inr ?_,⟨.inl rfl,trivial⟩⟩⟩) (zaC rfl);rotate_left 3;refine sq ?_ ?_<;>intro h3 h3p h3s<;>(try simp only[Q,Int.natCast_inj] at h3p);refine sq ?_ ?_<;>intro h4 h4p h4s<;>(try simp only[Q,Int.natCast_inj] at h4p);exfalso;have hne:l≠[]:=(fun hh=>by rw[hh] at h4p;exact absurd h4p (by decide));exact(hnil hne).2 (by omega);have hz0:l.length=0:=(by have hq:=h4p;simp only[List.nil_append,xac] at hq;omega);refine rn [(900,some (rdB b (mutC b l q).2)),(77,some (.tok ((mutC b l q).1.map Cl.c).length 9))] (r1 rfl) (.glg ?_) ⟨rfl,rfl⟩ (SubO.get ⟨.inr ?_,⟨.inr ?_,⟨.inl rfl,trivial⟩⟩⟩) (zaC rfl);rotate_left 3;refine sq ?_ ?_<;>intro h5 h5p h5s<;>(try simp only[Q,Int.natCast_inj] at h5p);refine xak (ι:=Nat) hk (fun i=>[(5,.gl 77 ((l++List.replicate i anyC).map Cl.c))]) [47,48,49,50,51,52,53,54] (fun i=>[(77,some (.tok (((l++List.replicate i anyC).map Cl.c)).length 9))]) (fun i=>i<=9-l.length/\zan b q 24=2) (fun i=>9-l.length-i) 0 ⟨by omega,by omega⟩ ⟨⟨_,rfl,LeA.glg ?_⟩,trivial⟩ ⟨zab ?_,trivial⟩ (fun x=>rfl) (fun i hg1=>?_);iterate 2 focus (first|rfl|omega|(simp;done)|exact zpf l i|(simp;omega))
 refine evc [] [] ?_;refine sq ?_ ?_<;>intro h6 h6p h6s<;>(try simp only[Q,Int.natCast_inj] at h6p);refine bu [0] [_] st36 ?_;refine bu [0] [_] st40 ?_;refine si [0] [_] sl26 tz40 ?_;refine Walk.append sl26 zz40 rfl .none rfl rfl rfl rfl (zcW rfl (by first|rfl|(simp;done)|(simp;omega))) (by first|exact zeK _|(intro y hy;simp at hy;subst hy;rfl)) (by simp;omega) (by simp;omega) ?_;refine ev ?_;refine xah (i+1) ⟨⟨by simp at *;omega,hg1.2⟩,(by simp at *;omega),sx ⟨⟨_,rfl,LeA.glg ?_⟩,trivial⟩ ⟨zab ?_,trivial⟩⟩;iterate 2 focus (first|rfl|omega|(simp;done)|exact zpf l i|(simp;omega))
 refine rn [(900,some (rdB b (mutC b l q).2)),(77,some (.tok ((mutC b l q).1.map Cl.c).length 9))] (r1 rfl) (.glg ?_) ⟨rfl,rfl⟩ (SubO.get ⟨.inr ?_,⟨.inr ?_,⟨.inl rfl,trivial⟩⟩⟩) (zaC rfl);rotate_left 3;refine rn [(900,some (rdB b (mutC b l q).2)),(77,some (.tok ((mutC b l q).1.map Cl.c).length 9))] (r1 rfl) (.glg ?_) ⟨rfl,rfl⟩ (SubO.get ⟨.inr ?_,⟨.inr ?_,⟨.inl rfl,trivial⟩⟩⟩) (zaC rfl);rotate_left 3;all_goals (first|((first|(rw[zp7 (by omega) (by omega)];all_goals rfl)|(rw[ztx (by omega),show 9-l.length=i by simp at *;omega];all_goals first|rfl|(simp;done))|(rw[zty (by omega) (by omega) (by omega)];all_goals rfl));done)|(first|(rw[zp7 (by omega) (by omega)];all_goals first|rfl|exact congrArg (fun n=>some (Res.tok n 9)) (Nat.zero_add _))|(rw[ztx (by omega),show 9-l.length=i by simp at *;omega];all_goals first|rfl|exact congrArg (fun n=>some (Res.tok n 9)) (Nat.zero_add _))|(rw[zty (by omega) (by omega) (by omega)];all_goals first|rfl|exact congrArg (fun n=>some (Res.tok n 9)) (Nat.zero_add _))))
theorem zls {b:Str} (hb:b.length<=2000){y:Cl}{r:List Cl}{q:Nat} (hq:q<=10000) (hl:(y::r).length<=6) (hc:zan b q 24=0):
  FnD Tryz.prog 119 [.ref 900 0,.d (zb4 (y::r))] [(900,some (rdB b q))] (.gl 77 ((mutC b (y::r) q).1.map Cl.c)) [(900,some (rdB b (mutC b (y::r) q).2)),(77,some (.tok ((mutC b (y::r) q).1.map Cl.c).length 9))]:=by
 have hrl:((y::r).map Cl.c).length=r.length+1:=by simp
 rw[zxs hc];refine bd Tryz.f119 56 [14] [5,12] fun w0 F0 own kept hk=>?_;refine xbh 1 sl26 .none rfl rfl ?_;refine evs [14] [] ?_;refine xaC sl26 zz40 .none rfl rfl rfl rfl (zcW rfl (by first|rfl|(simp;done)|(simp;omega))) (by exact zeK _) (by simp at *;omega) (by simp at *;omega) ?_;refine evs [14] [] ?_;refine wd zbQ (zaM (p:=q) (n:=24) hb (by omega) (by omega)) rfl rfl ⟨rfl,trivial⟩ ?_;refine tv ?_;refine sq ?_ ?_<;>intro h1 h1p h1s<;>(try simp only[Q,Int.natCast_inj] at h1p);refine xaZ sl26 .none rfl rfl ?_;refine evs [14] [] ?_;refine sq ?_ ?_<;>intro h2 h2p h2s<;>(try simp only[Q,Int.natCast_inj] at h2p);refine CWp.fixC hk 5 1 9 rfl (zcW rfl (by simp)) rfl (by simp) (fun cap hcap=>?_);refine evc [14] [] ?_;refine si [0,1,2,3] [_,_,_,_] sl29 tz3 ?_;refine wd zdL (zbP (p:=q+1) (l:=[1,2,3,-1]) hb (by omega) (by simp) (by simp)) rfl rfl ⟨rfl,trivial⟩ ?_;refine evs [14] [] ?_;refine si [0,1,2] [_,_,_] sl29 tz3 ?_;refine wd zdL (zbP (p:=q+2) (l:=[0,5,9]) hb (by omega) (by simp) (by simp)) rfl rfl ⟨rfl,trivial⟩ ?_;refine evs [14] [] ?_;refine si [0,1,2] [_,_,_] sl29 tz3 ?_;refine wd zdL (zbP (p:=q+3) (l:=[3,10,-1]) hb (by omega) (by simp) (by simp)) rfl rfl ⟨rfl,trivial⟩ ?_;refine bu [0,1,2] [_,_,_] st38 ?_;refine xaX (i:=0) sl26 .none rfl rfl rfl rfl (by first|(simp;done)|(simp;omega)) ?_;refine evs [14] [] ?_;refine Walk.store ty38 .none rfl rfl rfl rfl rfl rfl (by simp) ((zxN)) ?_;refine tv ?_;refine CWp.mcGl hk 5 1 77 9 (xs:=(Cl.c ⟨y.pat,⟨numV b (q+1) [1,2,3,-1],numV b (q+2) [0,5,9],numV b (q+3) [3,10,-1]⟩⟩::r.map Cl.c)) rfl rfl rfl (by simp) (by intro x hx;rcases List.mem_cons.1 hx with rfl|hx;rfl;exact zeK r x hx) (by have hq:=hcap;simp only[List.nil_append,hrl] at hq ⊢;exact zvj rfl hq) (by simp only[List.nil_append,hrl];exact ztv (e:=Cl.c ⟨y.pat,⟨numV b (q+1) [1,2,3,-1],numV b (q+2) [0,5,9],numV b (q+3) [3,10,-1]⟩⟩) rfl) (by first|rfl|(simp only[zax,occH,occE,Res.ids,xag,List.nil_append,AV.idsL,AV.ids,zah,zvi,zts,xae,List.map_nil];rfl)) ?_;refine evc [14] [] ?_;refine rn [(900,some (rdB b (q+4))),(77,some (.tok (((⟨y.pat,⟨numV b (q+1) [1,2,3,-1],numV b (q+2) [0,5,9],numV b (q+3) [3,10,-1]⟩⟩:Cl)::r).map Cl.c).length 9))] (r1 rfl) (.glg ?_) ⟨rfl,rfl⟩ (SubO.get ⟨.inr ?_,⟨.inr ?_,⟨.inl rfl,trivial⟩⟩⟩) (zaC rfl);rotate_left 3;exfalso;rw[List.nil_append,hrl] at h2p;omega;exfalso;omega;all_goals (first|((rfl);done)|(first|rfl|exact congrArg (fun n=>some (Res.tok n 9)) (by simp)))
theorem zlt {b:Str} (hb:b.length<=2000){y:Cl}{r:List Cl}{q:Nat} (hq:q<=10000) (hl:(y::r).length<=6) (hsm:y.pat.size<=400/\y.pat.ok) (hc:zan b q 24=1):
  FnD Tryz.prog 119 [.ref 900 0,.d (zb4 (y::r))] [(900,some (rdB b q))] (.gl 77 ((mutC b (y::r) q).1.map Cl.c)) [(900,some (rdB b (mutC b (y::r) q).2)),(77,some (.tok ((mutC b (y::r) q).1.map Cl.c).length 9))]:=by
 have hrl:((y::r).map Cl.c).length=r.length+1:=by simp
 rw[zxt hc];have h1:=znz (b:=b) (p:=y.pat) (q:=q+1) (m:=400) hsm.1 (by omega) hsm.2;have h2:=zp8 b y.pat (q+1);have i1:=zhb hb (p:=y.pat) (q:=q+1) (by omega) hsm.2;have i2:=zhb hb (p:=(mutP b y.pat (q+1)).1) (q:=(mutP b y.pat (q+1)).2) (by omega) h1.2;generalize mutP b y.pat (q+1)=z at *;generalize mutP b z.1 z.2=z2 at *;refine bd Tryz.f119 56 [32,40] [8,12] fun w0 F0 own kept hk=>?_;refine xbh 1 sl26 .none rfl rfl ?_;refine evs [32,40] [] ?_;refine xaC sl26 zz40 .none rfl rfl rfl rfl (zcW rfl (by first|rfl|(simp;done)|(simp;omega))) (by exact zeK _) (by simp at *;omega) (by simp at *;omega) ?_;refine evs [32,40] [] ?_;refine wd zbQ (zaM (p:=q) (n:=24) hb (by omega) (by omega)) rfl rfl ⟨rfl,trivial⟩ ?_;refine tv ?_;refine sq ?_ ?_<;>intro h1 h1p h1s<;>(try simp only[Q,Int.natCast_inj] at h1p);exfalso;omega;refine sq ?_ ?_<;>intro h2 h2p h2s<;>(try simp only[Q,Int.natCast_inj] at h2p);refine xaZ sl26 .none rfl rfl ?_;refine evs [32,40] [] ?_;refine sq ?_ ?_<;>intro h3 h3p h3s<;>(try simp only[Q,Int.natCast_inj] at h3p);refine CWp.fixC hk 5 1 9 rfl (zcW rfl (by simp)) rfl (by simp) (fun cap hcap=>?_);refine evc [32,40] [] ?_;refine xaX (i:=0) sl26 .none rfl rfl rfl rfl (by first|(simp;done)|(simp;omega)) ?_;refine evs [32,40] [] ?_;refine xa1 ty36 .none rfl rfl rfl ((zxk)) ?_;refine wd zsD (i1) rfl rfl ⟨rfl,trivial⟩ ?_;refine wd zsD (i2) rfl rfl ⟨rfl,trivial⟩ ?_;refine xaX (i:=0) sl26 .none rfl rfl rfl rfl (by first|(simp;done)|(simp;omega)) ?_;refine evs [32,40] [] ?_;refine Walk.store ty36 .none rfl rfl rfl rfl rfl rfl (by simp) ((zxz)) ?_;refine tv ?_;refine CWp.mcGl hk 5 1 77 9 (xs:=(Cl.c ⟨z2.1,y.g⟩::r.map Cl.c)) rfl rfl rfl (by simp) (by intro x hx;rcases List.mem_cons.1 hx with rfl|hx;rfl;exact zeK r x hx) (by have hq:=hcap;simp only[List.nil_append,hrl] at hq ⊢;exact zvj rfl hq) (by simp only[List.nil_append,hrl];exact ztv (e:=Cl.c ⟨z2.1,y.g⟩) rfl) (by first|rfl|(simp only[zax,occH,occE,Res.ids,xag,List.nil_append,AV.idsL,AV.ids,zah,zvi,zts,xae,List.map_nil];rfl)) ?_;refine evc [32,40] [] ?_;refine rn [(900,some (rdB b z2.2)),(77,some (.tok (((⟨z2.1,y.g⟩:Cl)::r).map Cl.c).length 9))] (r1 rfl) (.glg ?_) ⟨rfl,rfl⟩ (SubO.get ⟨.inr ?_,⟨.inr ?_,⟨.inl rfl,trivial⟩⟩⟩) (zaC rfl);rotate_left 3;exfalso;rw[List.nil_append,hrl] at h3p;omega;exfalso;omega;all_goals (first|((rfl);done)|(first|rfl|exact congrArg (fun n=>some (Res.tok n 9)) (by simp)))
theorem zlu {b:Str} (hb:b.length<=2000){l:List Cl}{q:Nat} (hq:q<=10000) (hl:l.length<=6) (hs:CSm l):
  FnD Tryz.prog 119 [.ref 900 0,.d (zb4 l)] [(900,some (rdB b q))] (.gl 77 ((mutC b l q).1.map Cl.c)) [(900,some (rdB b (mutC b l q).2)),(77,some (.tok ((mutC b l q).1.map Cl.c).length 9))]:=by
 cases l with
 |nil=>exact zhc hb hq hl (fun h=>h.2 rfl)
 |cons y r=>
  by_cases h0:zan b q 24=0
  ·exact zls hb hq hl h0
  ·by_cases h1:zan b q 24=1
   ·exact zlt hb hq hl (hs y (by simp)) h1
   ·exact zhc hb hq hl (fun h=>by rcases h.1 with h|h;exact h0 h;exact h1 h)
theorem zf2 {b:Str} (hb:b.length<=1000000000000):
  FnD Tryz.prog 56 [.d (zcl b)] [] (.tup [.d (zam (rcW (b.take 2000))),.agg [.d (.i (rcT (b.take 2000)).data),.d (.i (rcT (b.take 2000)).index)],.gl 77 ((dmC (b.take 2000)).map Cl.c)]) [(77,some (.tok ((dmC (b.take 2000)).map Cl.c).length 9))]:=by
 have hop:=zhE hb;have hb2:(b.take 2000).length<=2000:=by rw[List.length_take];omega
 generalize b.take 2000=e at *;have hr:=ztO e;have hd:=zth e;have hty:=zm2 hb2;have hpk:=zaM (b:=e) (p:=(rnL e).2) (n:=4) hb2 (by omega) (by omega);have hmu:=zlu hb2 (l:=(dmL e).1) (q:=(dmL e).2) (by omega) hd.2.1 hd.2.2;have e0:(rnL e).1.length=0->dmL e=rnL e:=fun h=>by unfold dmL;rw[if_pos h]
 have e1:(rnL e).1.length≠0->zan e (rnL e).2 4=0->dmL e=((rnL e).1++[anyC],(rnL e).2+1):=fun h h2=>by unfold dmL;rw[if_neg h,if_pos h2]
 have e2:(rnL e).1.length≠0->zan e (rnL e).2 4≠0->dmL e=((rnL e).1,(rnL e).2+1):=fun h h2=>by unfold dmL;rw[if_neg h,if_neg h2]
 rw[show(mutC e (dmL e).1 (dmL e).2).1=dmC e from rfl] at hmu;generalize (mutC e (dmL e).1 (dmL e).2).2=q1 at *;generalize dmC e=l1 at *;by_cases h0:(rnL e).1.length=0
 ·rw[e0 h0] at hmu;clear e0 e1 e2 hd;generalize rnL e=z at *;refine bd Tryz.f56 37 [] [] fun w0 F0 own kept hk=>?_;refine ab 3003 tz25 ?_;refine ev ?_;refine Walk.call (cr:=[900]) zke (hop) rfl .none rfl rfl (LeL.refl _) trivial rfl (by first|rfl|(simp only[zaV,List.all_cons,List.all_nil,zbG,zbs,AV.idsL,AV.ids,zah,zai,xae,List.map_nil];rfl)) (by first|rfl|(simp only[zax,occH,occE,Res.ids,xag,List.nil_append,AV.idsL,AV.ids,zah,zai,zaq,zaJ,xae,List.map_nil,upC];rfl)) ?_;refine ev ?_;refine Walk.call (cr:=[1]) zpi (hty) rfl .none rfl rfl (LeL.refl _) ⟨rfl,trivial⟩ rfl rfl rfl ?_;refine ev ?_;refine ab 3007 tz25 ?_;refine ab 3009 tz49 ?_;refine ev ?_;refine so ty25 ?_;refine ev ?_;refine so ty49 ?_;refine tv ?_;refine sq ?_ ?_<;>intro h1 h1p h1s<;>(try simp only[Q,Int.natCast_inj,xac] at h1p);focus (exfalso;first|omega|(simp at h1p;omega)|(simp_all;done))
  refine sqF ?_;refine Walk.call (cr:=[77]) zpj (hmu) rfl .none rfl rfl (.cons (.refl _) (.cons (.gl _ _) .nil)) ⟨rfl,trivial⟩ rfl rfl rfl ?_;refine evd [] [] ?_;refine so ty25 ?_;refine evd [] [] ?_;refine dr ?_;focus (refine rn [(77,some (.tok (l1.map Cl.c).length 9))] (.cons (.tmp rfl) (.cons (.cellA ty25 rfl rfl rfl) (.cons (.tmp rfl) .nil))) (.tup (.cons (.eqd ?_) (.cons (.agg (.cons (.eqd ?_) (.cons (.eqd ?_) .nil))) (.cons (.glg ?_) .nil)))) ⟨rfl,rfl⟩ (SubH.get ⟨rfl,trivial⟩) (zaC rfl);all_goals (first|rfl|(simp[h1s,h1p];done)|(simp_all;done)|(simp_all;omega)|omega))
 by_cases h1:zan e (rnL e).2 4=0
 ·rw[e1 h0 h1] at hmu;rw[show zb4 ((rnL e).1++[anyC]) = .sl ((rnL e).1.map Cl.c++[Cl.c anyC]) by show D.sl (((rnL e).1++[anyC]).map Cl.c)=_;rw[xaf];rfl] at hmu;clear e0 e1 e2 hd;generalize rnL e=z at *;refine bd Tryz.f56 37 [] [] fun w0 F0 own kept hk=>?_;refine ab 3003 tz25 ?_;refine ev ?_;refine Walk.call (cr:=[900]) zke (hop) rfl .none rfl rfl (LeL.refl _) trivial rfl (by first|rfl|(simp only[zaV,List.all_cons,List.all_nil,zbG,zbs,AV.idsL,AV.ids,zah,zai,xae,List.map_nil];rfl)) (by first|rfl|(simp only[zax,occH,occE,Res.ids,xag,List.nil_append,AV.idsL,AV.ids,zah,zai,zaq,zaJ,xae,List.map_nil,upC];rfl)) ?_;refine ev ?_;refine Walk.call (cr:=[1]) zpi (hty) rfl .none rfl rfl (LeL.refl _) ⟨rfl,trivial⟩ rfl rfl rfl ?_;refine ev ?_;refine ab 3007 tz25 ?_;refine ab 3009 tz49 ?_;refine ev ?_;refine so ty25 ?_;refine ev ?_;refine so ty49 ?_;refine tv ?_;refine sq ?_ ?_<;>intro h1 h1p h1s<;>(try simp only[Q,Int.natCast_inj,xac] at h1p);refine Walk.call (cr:=[]) zbQ (hpk) rfl (.some rfl rfl h1) rfl rfl (LeL.refl _) ⟨rfl,trivial⟩ rfl rfl rfl ?_;refine evs [] [(22,true)] ?_ ⟨⟨_,rfl,h1⟩,trivial⟩;refine sq ?_ ?_<;>intro h2 h2p h2s<;>(try simp only[Q,Int.natCast_inj,xac] at h2p);refine wc zsB (zi8) rfl rfl ?_;refine bu [0] [_] st40 ?_;refine si [0] [_] sl26 tz40 ?_;refine Walk.append sl26 zz40 rfl .none rfl rfl rfl rfl (zcW rfl (by first|rfl|(simp;done)|(simp;omega))) (by intro x hx;simp at hx;subst hx;rfl) (by simp;omega) (by simp;omega) ?_;refine ev ?_;refine Walk.call (cr:=[77]) zpj (hmu) rfl .none rfl rfl (.cons (.refl _) (.cons (.gl _ _) .nil)) ⟨rfl,trivial⟩ rfl rfl rfl ?_;refine evd [] [] ?_;refine so ty25 ?_;refine evd [] [] ?_;refine dr ?_;focus (refine rn [(77,some (.tok (l1.map Cl.c).length 9))] (.cons (.tmp rfl) (.cons (.cellA ty25 rfl rfl rfl) (.cons (.tmp rfl) .nil))) (.tup (.cons (.eqd ?_) (.cons (.agg (.cons (.eqd ?_) (.cons (.eqd ?_) .nil))) (.cons (.glg ?_) .nil)))) ⟨rfl,rfl⟩ (SubH.get ⟨rfl,trivial⟩) (zaC rfl);all_goals (first|rfl|(simp[h1s,h1p,h2s,h2p];done)|(simp_all;done)|(simp_all;omega)|omega))
  exfalso;first|contradiction|omega|(simp at *;omega)
  focus (exfalso;first|omega|(simp at h1p;omega)|(simp_all;done))
 ·rw[e2 h0 h1] at hmu;clear e0 e1 e2 hd;generalize rnL e=z at *;refine bd Tryz.f56 37 [] [] fun w0 F0 own kept hk=>?_;refine ab 3003 tz25 ?_;refine ev ?_;refine Walk.call (cr:=[900]) zke (hop) rfl .none rfl rfl (LeL.refl _) trivial rfl (by first|rfl|(simp only[zaV,List.all_cons,List.all_nil,zbG,zbs,AV.idsL,AV.ids,zah,zai,xae,List.map_nil];rfl)) (by first|rfl|(simp only[zax,occH,occE,Res.ids,xag,List.nil_append,AV.idsL,AV.ids,zah,zai,zaq,zaJ,xae,List.map_nil,upC];rfl)) ?_;refine ev ?_;refine Walk.call (cr:=[1]) zpi (hty) rfl .none rfl rfl (LeL.refl _) ⟨rfl,trivial⟩ rfl rfl rfl ?_;refine ev ?_;refine ab 3007 tz25 ?_;refine ab 3009 tz49 ?_;refine ev ?_;refine so ty25 ?_;refine ev ?_;refine so ty49 ?_;refine tv ?_;refine sq ?_ ?_<;>intro h1 h1p h1s<;>(try simp only[Q,Int.natCast_inj,xac] at h1p);refine Walk.call (cr:=[]) zbQ (hpk) rfl (.some rfl rfl h1) rfl rfl (LeL.refl _) ⟨rfl,trivial⟩ rfl rfl rfl ?_;refine evs [] [(22,true)] ?_ ⟨⟨_,rfl,h1⟩,trivial⟩;refine sq ?_ ?_<;>intro h2 h2p h2s<;>(try simp only[Q,Int.natCast_inj,xac] at h2p);exfalso;first|contradiction|omega|(simp at *;omega)
  refine Walk.call (cr:=[77]) zpj (hmu) rfl .none rfl rfl (.cons (.refl _) (.cons (.gl _ _) .nil)) ⟨rfl,trivial⟩ rfl rfl rfl ?_;refine evd [] [] ?_;refine so ty25 ?_;refine evd [] [] ?_;refine dr ?_;focus (refine rn [(77,some (.tok (l1.map Cl.c).length 9))] (.cons (.tmp rfl) (.cons (.cellA ty25 rfl rfl rfl) (.cons (.tmp rfl) .nil))) (.tup (.cons (.eqd ?_) (.cons (.agg (.cons (.eqd ?_) (.cons (.eqd ?_) .nil))) (.cons (.glg ?_) .nil)))) ⟨rfl,rfl⟩ (SubH.get ⟨rfl,trivial⟩) (zaC rfl);all_goals (first|rfl|(simp[h1s,h1p,h2s,h2p];done)|(simp_all;done)|(simp_all;omega)|omega))
  focus (exfalso;first|omega|(simp at h1p;omega)|(simp_all;done))
def rdL (e:Str):List Cl:=if 0<(dmC e).length/\(dmC e).length<8/\zan e 0 2=0 then dmC e++[nth (dmC e) (zan e 1 (((dmC e).map Cl.c).length:Int)).toNat] else dmC e
theorem zrK (e:Str):(rdL e).length<=9/\∀c∈rdL e,c∈dmC e:=by
 have h:=zpE e;unfold rdL;split
 ·rename_i hc;refine⟨by simp;omega,fun c hm=>?_⟩;rcases List.mem_append.1 hm with hm|hm
  ·exact hm
  ·rw[List.mem_singleton.1 hm];have hb:=zcd (b:=e) (p:=1) (n:=(((dmC e).map Cl.c).length:Int)) (by simp;omega);refine zac ?_;rw[xac] at hb ⊢;omega
 ·exact⟨h.1,fun c hm=>hm⟩
theorem zv6 (e:Str):ClsOk (rdL e)/\ClsSz (rdL e):=by
 have h:=zpE e;have h2:=zrK e;exact⟨⟨by have:=h2.1;omega,fun c hc=>(h.2 c (h2.2 c hc)).2⟩,fun c hc=>by have:=(h.2 c (h2.2 c hc)).1;omega⟩
theorem zfG {b:Str} (hb:b.length<=1000000000000):
  FnD Tryz.prog 11 [.d (zcl b)] [] (.tup [.d (zam (rcW (b.take 2000))),.agg [.d (.i (rcT (b.take 2000)).data),.d (.i (rcT (b.take 2000)).index)],.d (zb4 (rdL (b.take 2000)))]) []:=by
 have hop:=zhE hb;have hdm:=zf2 hb;have hb2:(b.take 2000).length<=2000:=by rw[List.length_take];omega
 generalize b.take 2000=e at *;have hok:=(zpE e).1;have hpk:=zaM (b:=e) (p:=0) (n:=2) hb2 (by omega) (by omega);have hpk2:=zaM (b:=e) (p:=1) (n:=(((dmC e).map Cl.c).length:Int)) hb2 (by omega) (by simp;omega);by_cases h1:0<(dmC e).length/\(dmC e).length<8
 ·have hbd:=zcd (b:=e) (p:=1) (n:=(((dmC e).map Cl.c).length:Int)) (by simp;omega);by_cases h2:zan e 0 2=0
  ·have hE:zb4 (rdL e) = .sl ((dmC e).map Cl.c++[Cl.c (nth (dmC e) (zan e 1 (((dmC e).map Cl.c).length:Int)).toNat)]):=by
    unfold rdL;rw[if_pos ⟨h1.1,h1.2,h2⟩];show D.sl ((_++[_]).map Cl.c)=_;rw[xaf];rfl
   rw[hE];obtain⟨n0,hn0⟩:=Int.eq_ofNat_of_zero_le hbd.1;rw[hn0] at hpk2 hbd ⊢;rw[show((n0:Int)).toNat=n0 from rfl];rw[xac] at hbd;clear hE hn0;generalize dmC e=l at *;refine bd Tryz.f11 43 [] [] fun w0 F0 own kept hk=>?_;refine ab 3003 tz25 ?_;refine ev ?_;refine Walk.call (cr:=[900]) zke (hop) rfl .none rfl rfl (LeL.refl _) trivial rfl (by first|rfl|(simp only[zaV,List.all_cons,List.all_nil,zbG,zbs,AV.idsL,AV.ids,zah,zai,xae,List.map_nil];rfl)) (by first|rfl|(simp only[zax,occH,occE,Res.ids,xag,List.nil_append,AV.idsL,AV.ids,zah,zai,zaq,zaJ,xae,List.map_nil,upC];rfl)) ?_;refine ev ?_;refine Walk.call (cr:=[77]) zr3 (hdm) rfl .none rfl rfl (LeL.refl _) trivial rfl (by first|rfl|(simp only[zaV,List.all_cons,List.all_nil,zbG,zbs,AV.idsL,AV.ids,zah,zai,xae,List.map_nil];rfl)) (by first|rfl|(simp only[zax,occH,occE,Res.ids,xag,List.nil_append,AV.idsL,AV.ids,zah,zai,zaq,zaJ,xae,List.map_nil,upC];rfl)) ?_;refine ev ?_;refine ab 3007 tz25 ?_;refine ev ?_;refine so ty25 ?_;refine ev ?_;refine sq ?_ ?_<;>intro h1 h1p h1s<;>(try simp only[Q,Int.natCast_inj,xac] at h1p);refine sq ?_ ?_<;>intro h2 h2p h2s<;>(try simp only[Q,Int.natCast_inj,xac] at h2p);refine Walk.call (cr:=[]) zbQ (hpk) rfl (.some rfl rfl h2) rfl rfl (LeL.refl _) ⟨rfl,trivial⟩ rfl rfl rfl ?_;refine evs [] [(25,true)] ?_ ⟨⟨_,rfl,h2⟩,trivial⟩;refine sq ?_ ?_<;>intro h3 h3p h3s<;>(try simp only[Q,Int.natCast_inj,xac] at h3p);refine wd zbQ (hpk2) rfl rfl ⟨rfl,trivial⟩ ?_;refine xaV sl26 .none rfl rfl rfl rfl (zap (by omega)) rfl ?_;refine ev ?_;refine si [0] [_] sl26 tz40 ?_;refine Walk.append sl26 zz40 rfl .none rfl rfl rfl rfl (zcW rfl (by first|rfl|(simp;done)|(simp;omega))) (by intro x hx;simp at hx;subst hx;rfl) (by simp;omega) (by simp;omega) ?_;refine ev ?_;refine so ty25 ?_;refine evd [] [] ?_;refine dr ?_;focus (refine rn0 (.cons (.tmp rfl) (.cons (.cellA ty25 rfl rfl rfl) (.cons (.tmp rfl) .nil))) (.tup (.cons (.eqd ?_) (.cons (.agg (.cons (.eqd ?_) (.cons (.eqd ?_) .nil))) (.cons (.gld ?_) .nil))));all_goals (first|rfl|(simp[h1s,h1p,h2s,h2p,h3s,h3p];done)|(simp_all;done)|(simp_all;omega)|omega))
   exfalso;first|contradiction|omega|(simp at *;omega)
   focus (exfalso;first|omega|(simp at h2p;omega)|(simp_all;done))
   focus (exfalso;first|omega|(simp at h1p;omega)|(simp_all;done))
  ·have hE:rdL e=dmC e:=by unfold rdL;rw[if_neg (fun h=>h2 h.2.2)]
   rw[hE];clear hE;generalize dmC e=l at *;refine bd Tryz.f11 43 [] [] fun w0 F0 own kept hk=>?_;refine ab 3003 tz25 ?_;refine ev ?_;refine Walk.call (cr:=[900]) zke (hop) rfl .none rfl rfl (LeL.refl _) trivial rfl (by first|rfl|(simp only[zaV,List.all_cons,List.all_nil,zbG,zbs,AV.idsL,AV.ids,zah,zai,xae,List.map_nil];rfl)) (by first|rfl|(simp only[zax,occH,occE,Res.ids,xag,List.nil_append,AV.idsL,AV.ids,zah,zai,zaq,zaJ,xae,List.map_nil,upC];rfl)) ?_;refine ev ?_;refine Walk.call (cr:=[77]) zr3 (hdm) rfl .none rfl rfl (LeL.refl _) trivial rfl (by first|rfl|(simp only[zaV,List.all_cons,List.all_nil,zbG,zbs,AV.idsL,AV.ids,zah,zai,xae,List.map_nil];rfl)) (by first|rfl|(simp only[zax,occH,occE,Res.ids,xag,List.nil_append,AV.idsL,AV.ids,zah,zai,zaq,zaJ,xae,List.map_nil,upC];rfl)) ?_;refine ev ?_;refine ab 3007 tz25 ?_;refine ev ?_;refine so ty25 ?_;refine ev ?_;refine sq ?_ ?_<;>intro h1 h1p h1s<;>(try simp only[Q,Int.natCast_inj,xac] at h1p);refine sq ?_ ?_<;>intro h2 h2p h2s<;>(try simp only[Q,Int.natCast_inj,xac] at h2p);refine Walk.call (cr:=[]) zbQ (hpk) rfl (.some rfl rfl h2) rfl rfl (LeL.refl _) ⟨rfl,trivial⟩ rfl rfl rfl ?_;refine evs [] [(25,true)] ?_ ⟨⟨_,rfl,h2⟩,trivial⟩;refine sq ?_ ?_<;>intro h3 h3p h3s<;>(try simp only[Q,Int.natCast_inj,xac] at h3p);exfalso;first|contradiction|omega|(simp at *;omega)
   refine so ty25 ?_;refine evd [] [] ?_;refine dr ?_;focus (refine rn0 (.cons (.tmp rfl) (.cons (.cellA ty25 rfl rfl rfl) (.cons (.tmp rfl) .nil))) (.tup (.cons (.eqd ?_) (.cons (.agg (.cons (.eqd ?_) (.cons (.eqd ?_) .nil))) (.cons (.gld ?_) .nil))));all_goals (first|rfl|(simp[h1s,h1p,h2s,h2p,h3s,h3p];done)|(simp_all;done)|(simp_all;omega)|omega))
   focus (exfalso;first|omega|(simp at h2p;omega)|(simp_all;done))
   focus (exfalso;first|omega|(simp at h1p;omega)|(simp_all;done))
 ·have hE:rdL e=dmC e:=by unfold rdL;rw[if_neg (fun h=>h1 ⟨h.1,h.2.1⟩)]
  rw[hE];clear hE hpk2;generalize dmC e=l at *;refine bd Tryz.f11 43 [] [] fun w0 F0 own kept hk=>?_;refine ab 3003 tz25 ?_;refine ev ?_;refine Walk.call (cr:=[900]) zke (hop) rfl .none rfl rfl (LeL.refl _) trivial rfl (by first|rfl|(simp only[zaV,List.all_cons,List.all_nil,zbG,zbs,AV.idsL,AV.ids,zah,zai,xae,List.map_nil];rfl)) (by first|rfl|(simp only[zax,occH,occE,Res.ids,xag,List.nil_append,AV.idsL,AV.ids,zah,zai,zaq,zaJ,xae,List.map_nil,upC];rfl)) ?_;refine ev ?_;refine Walk.call (cr:=[77]) zr3 (hdm) rfl .none rfl rfl (LeL.refl _) trivial rfl (by first|rfl|(simp only[zaV,List.all_cons,List.all_nil,zbG,zbs,AV.idsL,AV.ids,zah,zai,xae,List.map_nil];rfl)) (by first|rfl|(simp only[zax,occH,occE,Res.ids,xag,List.nil_append,AV.idsL,AV.ids,zah,zai,zaq,zaJ,xae,List.map_nil,upC];rfl)) ?_;refine ev ?_;refine ab 3007 tz25 ?_;refine ev ?_;refine so ty25 ?_;refine ev ?_;refine sq ?_ ?_<;>intro h1 h1p h1s<;>(try simp only[Q,Int.natCast_inj,xac] at h1p);refine sq ?_ ?_<;>intro h2 h2p h2s<;>(try simp only[Q,Int.natCast_inj,xac] at h2p);focus (exfalso;first|omega|(simp at h2p;omega)|(simp_all;done))
  refine sqF ?_;refine so ty25 ?_;refine evd [] [] ?_;refine dr ?_;focus (refine rn0 (.cons (.tmp rfl) (.cons (.cellA ty25 rfl rfl rfl) (.cons (.tmp rfl) .nil))) (.tup (.cons (.eqd ?_) (.cons (.agg (.cons (.eqd ?_) (.cons (.eqd ?_) .nil))) (.cons (.gld ?_) .nil))));all_goals (first|rfl|(simp[h1s,h1p,h2s,h2p];done)|(simp_all;done)|(simp_all;omega)|omega))
  refine sqF ?_;refine sqF ?_;refine so ty25 ?_;refine evd [] [] ?_;refine dr ?_;focus (refine rn0 (.cons (.tmp rfl) (.cons (.cellA ty25 rfl rfl rfl) (.cons (.tmp rfl) .nil))) (.tup (.cons (.eqd ?_) (.cons (.agg (.cons (.eqd ?_) (.cons (.eqd ?_) .nil))) (.cons (.gld ?_) .nil))));all_goals (first|rfl|(simp[h1s,h1p];done)|(simp_all;done)|(simp_all;omega)|omega))
end Go.Proofs.YtlfipehhbdjnjaaGreat
namespace Go.Proofs.YtlfipehhbdjnjaaGreat
open Go
set_option linter.unusedSimpArgs false
set_option linter.unusedVariables false
section
variable {c:Ctx}{all:Array Oper}{chk:List Rec->Prop}{os:List Oper}{recs:List Rec}{env:Env}{hp:Hp}{Q:St->Prop}
variable {ty:Nat}{pos:String}{af:Array Edge}{g:Option (Nat×Bool)}{pg:List (Nat×AV)}{t:TypeId}{x:Operand}
theorem Walk.clearB {id off n k e yb:Nat}{cs cs' zs:List AV} (ht:SlT c.P t e k yb) (hz:TyZ c.P e k zs) (hzk:zs.length=k) (hk:0<k) (h1:zhY zs=true) (hg:GH all env g pg) (hx:opd env x=some (.mo id off n))
  (hb:getH hp id=some (.box cs)) (hput:putC cs off (zbb n zs)=some cs')
  (hn:Walk c all chk os (zao (pg++opF x (.mo id off n)) [(id,.box cs)] [] ⟨none,[(id,some (.box cs'))]⟩::recs) ⟨env,(id,some (.box cs'))::hp⟩ Q):
  Walk c all chk (⟨none,.call ⟨.builtin .clear,#[x],#[t]⟩,ty,pos,af,g⟩::os) recs ⟨env,hp⟩ Q:=by
 refine⟨pg++opF x (.mo id off n),[(id,.box cs)],[],_, ?_,zaz hg.facts (za9 hx),hh1 hb,by simp,hn⟩;intro s a w hrel hp' hh _ K Q' hK;obtain⟨G,hr⟩:=hrel;have hbx:=hh1' hh;have e1:=hr.opd (zba hx (fun p hm=>hp' p (by simp[hm])));obtain⟨bl,o,cap,hl,he,hcap,ho⟩:=e1.mo_eq;obtain⟨b',us,et,h2,h3,h4,h5,h6⟩:=hr.heap id _ hbx;obtain rfl:=zcB hl.1 h2;have hall:PreR G (tokf s.hp) w cs us:=⟨h4,h6⟩;unfold wpO;rw[if_pos (hg.gf.wanted hr (fun p hm=>hp' p (by simp[hm])))];unfold Oper.wp;rcases Nat.eq_zero_or_pos n with hn0|hn0
 ·subst hn0;have hcs:cs'=cs:=by
   simp only[zbb] at hput;cases cs<;>simp only[putC,Option.some.injEq] at hput<;>exact hput.symm
  subst hcs;have hrun:(execOp a.eval ⟨none,.call ⟨.builtin .clear,#[x],#[t]⟩,ty,pos,af,g⟩).run c.P w = .ok (.value (.tuple #[])) w:=by
   simp[execOp,resolve,invoke,builtin,he,Builtin.clear_,run_underlying ht.und]
  rw[hrun,Oper.upon_value];refine hK _ _ ⟨G, ?_⟩;have hsame:∀i,getH ((id,some (Res.box cs'))::s.hp) i=getH s.hp i:=fun i=>by
   rw[zak];split
   ·rename_i e;subst e;exact hbx.symm
   ·rfl
  have htk:tokf ((id,some (Res.box cs'))::s.hp)=tokf s.hp:=by funext i;unfold tokf;rw[hsame]
  have:R c G ⟨s.env,(id,some (Res.box cs'))::s.hp⟩ a w:=
   ⟨hr.size,hr.defers,fun i v h=>by rw[htk];exact hr.slots i v h,fun i r h=>by rw[htk];exact hr.heap i r (by rw[<-hsame];exact h),
   fun i j h1 h2=>hr.disj i j (by rw[<-hsame];exact h1) (by rw[<-hsame];exact h2),fun i h=>hr.new i (by rw[<-hsame];exact h),hr.frm,hr.top,
   fun i l h'=>by
    show(G.loc i).head?=l.head?/\(getH ((id,some (Res.box cs'))::s.hp) i).isSome/\tokf ((id,some (Res.box cs'))::s.hp) i=none
    rw[hsame,htk];exact hr.kept i l h'⟩
  exact this.putNone
 ·obtain rfl:o=off:=ho.resolve_left (by omega);obtain⟨ie,z,z1,z2,z3,z4⟩:=hz.inf;have hz0:=zb9 (G:=G) (T:=tokf s.hp) (w:=w) z4;have hzr:=zga (by simpa using hz0) n (by omega);have hzs:z.cells.size=k:=by have:=hz0.size;simp at this;omega
  let vl:List Value:=(Builtin.zeroCells z.cells n).toList
  have hvl:vl.toArray=(Array.range (n*zs.length)).map (z.cells[· % z.cells.size]!):=by
   simp only[vl,Builtin.zeroCells,Array.toArray_toList];rw[hzs,hzk]
  have hvr:AllR G (tokf s.hp) w (zbb n zs) vl.toArray:=by rw[hvl];exact hzr
  have hne:zbb n zs≠[]:=fun h=>by
   have:=congrArg List.length h;rw[zeo] at this;have h2:0<n*zs.length:=Nat.mul_pos hn0 (by omega);simp only[xai] at this;omega
  obtain⟨p1,p2,p3⟩:=zdc hput;have p2':=p2.resolve_left hne;have hsz:=hvr.size;have hsv:vl.toArray.size=vl.length:=by simp only[List.size_toArray]
  simp only[List.size_toArray] at hsz;have hzone:∀i (hi:i<zs.length) (hv:i<z.cells.size),z.cells[i].oneCell'=true:=fun i hi hv=>by
   have:=hz0.rel i hi (by simpa using hv);simp only[List.getElem_toArray,Array.getElem_toList] at this;exact this.one (zio h1 _ (List.getElem_mem hi))
  have hst:=run_storeCells_at c.P bl o et vl 0 us w h3 (by omega) (fun u hu=>by
   simp only[vl,Builtin.zeroCells,Array.toList_map,List.mem_map] at hu;obtain⟨i,_,rfl⟩:=hu;have hm:i % z.cells.size<z.cells.size:=Nat.mod_lt _ (by omega);rw[getElem!_pos z.cells _ hm];exact hzone _ (by omega) hm)
  simp only[Nat.add_zero] at hst;have hrow:PreR G (tokf s.hp) w cs' (us.toList.take o++vl++us.toList.drop (o+vl.length)).toArray:=by
   refine hall.put hvr hput ?_ (fun i=>?_)
   ·simp only[List.size_toArray,xaa,List.length_take,List.length_drop,Array.length_toList];omega
   ·simp only[List.getElem?_toArray];rw[List.append_assoc,List.getElem?_append];simp only[List.length_take,Array.length_toList];by_cases hi:i<o
    ·rw[if_pos (by omega),if_neg (by omega)];simp[hi]
    ·rw[if_neg (by omega),List.getElem?_append];have hm:min o us.size=o:=by omega
     rw[hm];by_cases hi2:i<o+vl.length
     ·rw[if_pos (by omega),if_pos (by omega)]
     ·rw[if_neg (by omega),if_neg (by omega)];rw[List.getElem?_drop,show o+vl.length+(i-o-vl.length)=i by omega];simp
  have hrun:(execOp a.eval ⟨none,.call ⟨.builtin .clear,#[x],#[t]⟩,ty,pos,af,g⟩).run c.P w = .ok (.value (.tuple #[])) (w.setRow bl (us.toList.take o++vl++us.toList.drop (o+vl.length)).toArray):=by
   obtain⟨m,rfl⟩:∃m,n=m+1:=⟨n-1,by omega⟩;have hzv:(zeroValue e).run c.P w = .ok z w:=zll z1 z3;simp only[vl] at hst;simp[execOp,resolve,invoke,builtin,he,Builtin.clear_,run_underlying ht.und,hzv,hst,vl]
  rw[hrun,Oper.upon_value];exact hK _ _ ⟨G,(hr.setBox hbx h2 h3 h5 hrow).putNone⟩
end
theorem zvM {G G':Gh}{T T':TokF}{w:World}{id n k b:Nat}{us:Array Value}{e:TypeId}{x:Value}{cs:List AV}{es:List (List D)} (hx:RelA G T w (.ms id n) x) (h1:G.loc id=[b]) (h2:w.heap[b]?=some (.cells us e (0,0))) (h3:cs.length<=us.size)
  (h5:∀i (hi:i<cs.length) (hv:i<us.size),RelA G T w cs[i] us[i]) (hFb:G'.F b=us.size) (hcell:∀y o,o<G.F y->o<G'.F y/\w.cell? ⟨y,o,none⟩=w.cell? ⟨y,o,none⟩) (hc:zb2 n k (cs.take (n*k))=some es):RelA G' T' w (.d (.sl es)) x:=by
 obtain⟨c1,c2,c3,c4⟩:=zet hc;have c3':n*k<=cs.length:=by rw[List.length_take] at c3;omega
 obtain⟨b',cap,hl,he,hcap⟩:=hx.ms_eq;obtain rfl:=(zcB hl.1 h1).symm;rw[he];refine .d ?_;have hn':n=es.length:=c1.symm;rw[hn'];refine .sl es k b 0 cap (fun x=>us.getD x undef) c2 (by omega) (fun x hx=>?_) (fun i hi j hj=>?_)
 ·have h3':x<cs.length:=by rw[<-c1] at c3';omega
  have hxs:x<us.size:=Nat.lt_of_lt_of_le h3' h3;refine⟨by rw[hFb];omega, ?_⟩;simp[World.cell?,h2,hxs]
 ·have hjk:j<k:=by rw[<-c2 _ (List.getElem_mem hi)];exact hj
  have hltn:i*k+j<n*k:=by
   rw[<-c1];have:(i+1)*k<=es.length*k:=Nat.mul_le_mul_right _ (by omega);rw[Nat.add_mul] at this;omega
  have hlt:i*k+j<cs.length:=by omega
  have hlu:i*k+j<us.size:=by omega
  have h8:=c4 i hi j hj (by rw[List.length_take];omega);rw[List.getElem_take] at h8;have h6:=(h5 _ hlt hlu).toD h8;have h7:us.getD (i*k+j) undef=us[i*k+j]:=by simp[Array.getD,hlu]
  rw[h7];exact h6.mono hcell
def zpO (env:Env) (hp:Hp) (j:Nat):Bool:=
 (match getH hp j with|none=>true|some _=>false)&&(env.all fun x=>match getE env x.1 with|some v=> !za4 j v.ids|none=>true)&&(hp.all fun x=>match getH hp x.1 with|some r=> !za4 j r.ids|none=>true)
theorem zpQ:∀ {env:Env}{i:Nat}{v:AV},getE env i=some v->∃u,(i,u)∈env
 |(k,x)::r,i,v,h=>by
  simp only[getE] at h;cases hb:Nat.beq k i with
  |true=>obtain rfl:=Nat.eq_of_beq_eq_true hb;exact⟨x,by simp⟩
  |false=>
   simp only[hb,cond_false] at h;obtain⟨u,hu⟩:=zpQ h;exact⟨u,List.mem_cons_of_mem _ hu⟩
theorem zqW {env:Env}{hp:Hp}{j:Nat} (h:zpO env hp j=true):getH hp j=none/\zda j ⟨env,hp⟩:=by
 simp only[zpO,xad,List.all_eq_true] at h;obtain⟨⟨h1,h2⟩,h3⟩:=h;refine⟨?_,fun i v hv hm=>?_,fun i r hr hm=>?_⟩
 ·cases hg:getH hp j with
  |none=>rfl
  |some x=>simp[hg] at h1
 ·obtain⟨u,hu⟩:=zpQ hv;have:=h2 _ hu;rw[show getE env (i,u).1=some v from hv] at this;change (!za4 j v.ids)=true at this
  rw[zaU.2 hm] at this;cases this
 ·obtain⟨u,hu⟩:=ziF hr;have:=h3 _ hu;rw[show getH hp (i,u).1=some r from hr] at this;change (!za4 j r.ids)=true at this
  rw[zaU.2 hm] at this;cases this
theorem CWp.tokDrop {c:Ctx}{env:Env}{hp:Hp}{K:Kt}{code:Code} (t i:Nat){n k:Nat}{xs:List (List D)} (ht:getE env t=some (.gl i xs)) (hi:getH hp i=some (.tok n k))
  (hn:CWp c code ⟨(t,.d (.sl xs))::env,(i,none)::hp⟩ K):CWp c code ⟨env,hp⟩ K:=by
 rintro a w ⟨G,hr⟩
 have g1:∀x,x≠i->getH ((i,none)::hp) x=getH hp x:=fun x h1=>by rw[zak,if_neg h1]
 have gi:getH ((i,none)::hp) i=none:=by rw[zak,if_pos rfl]
 have Ti:tokf hp i=some (n,k):=zaw.2 hi;have Ti':tokf ((i,none)::hp) i=none:=by unfold tokf;rw[gi]
 have hT:Turn c G ⟨env,hp⟩ w G ((i,none)::hp) [i]:=by
  refine⟨fun x hx=>?_,fun x hx=>rfl,fun b _=>rfl,fun b o ho=>ho,hr.top,fun x hx=>?_,fun x hx hs b hb=>?_,fun x hx y hy hxy h1 h2 b hb=>?_,fun x hx l hl=>?_⟩
  ·simp only[List.mem_cons,List.not_mem_nil,or_false] at hx;exact g1 x hx
  ·simp only[List.mem_cons,List.not_mem_nil,or_false] at hx;subst hx;exact .inr ⟨.inl rfl,fun p hp'=>by rw[Ti'] at hp';cases hp'⟩
  ·simp only[List.mem_cons,List.not_mem_nil,or_false] at hx;subst hx;rw[gi] at hs;cases hs
  ·simp only[List.mem_cons,List.not_mem_nil,or_false] at hx hy;exact absurd (hx.trans hy.symm) hxy
  ·have hk:=hr.kept x l hl;simp only[List.mem_cons,List.not_mem_nil,or_false] at hx;subst hx;have:=hk.2.2;rw[show tokf (St.mk env hp).hp x=some (n,k) from Ti] at this;cases this
 have hR:=hT.fin hr (fun x hx r hxr=>by
  simp only[List.mem_cons,List.not_mem_nil,or_false] at hx;subst hx;rw[gi] at hxr;cases hxr)
 refine hn a w ⟨G,hR.slot ?_⟩;have hs:=hr.slots t _ ht;cases hs with
 |gl h h2=>exact .d h
theorem R.tokMove {c:Ctx}{G:Gh}{s:St}{a:Act}{w:World} (hr:R c G s a w) (i j:Nat){n k:Nat} (m:Nat) (hi:getH s.hp i=some (.tok n k)) (h0:getH s.hp j=none) (hocc:zda j s):
  ∃G':Gh,R c G' ⟨s.env,(j,some (.tok m k))::(i,none)::s.hp⟩ a w/\G'.F=G.F/\G'.loc j=G.loc i/\tokf ((j,some (Res.tok m k))::(i,none)::s.hp) j=some (m,k):=by
 have hji:j≠i:=fun e=>by subst e;rw[h0] at hi;cases hi
 have g1:∀x,x≠j->x≠i->getH ((j,some (Res.tok m k))::(i,none)::s.hp) x=getH s.hp x:=fun x h1 h2=>by
  rw[zak,if_neg h1,zak,if_neg h2]
 have gj:getH ((j,some (Res.tok m k))::(i,none)::s.hp) j=some (.tok m k):=by rw[zak,if_pos rfl]
 have gi:getH ((j,some (Res.tok m k))::(i,none)::s.hp) i=none:=by rw[zak,if_neg (fun e=>hji e.symm),zak,if_pos rfl]
 have Ti:tokf s.hp i=some (n,k):=zaw.2 hi;have Tj:tokf ((j,some (Res.tok m k))::(i,none)::s.hp) j=some (m,k):=zaw.2 gj;have Ti':tokf ((j,some (Res.tok m k))::(i,none)::s.hp) i=none:=by unfold tokf;rw[gi]
 let G':Gh:={ G with loc:=fun x=>bif Nat.beq x j then G.loc i else G.loc x }
 have lj:G'.loc j=G.loc i:=by simp[G']
 have lo:∀x,x≠j->G'.loc x=G.loc x:=fun x h=>by simp[G',zer h]
 have hsi:(getH s.hp i).isSome:=by rw[hi];rfl
 have hT:Turn c G s w G' ((j,some (Res.tok m k))::(i,none)::s.hp) [i,j]:=by
  refine⟨fun x hx=>?_,fun x hx=>?_,fun b _=>rfl,fun b o ho=>ho,hr.top,fun x hx=>?_,fun x hx hs b hb=>?_,fun x hx y hy hxy h1 h2 b hb=>?_,fun x hx l hl=>?_⟩
  ·simp only[List.mem_cons,List.not_mem_nil,or_false,not_or] at hx;exact g1 x hx.2 hx.1
  ·simp only[List.mem_cons,List.not_mem_nil,or_false,not_or] at hx;exact lo x hx.2
  ·simp only[List.mem_cons,List.not_mem_nil,or_false] at hx;rcases hx with rfl|rfl
   ·exact .inr ⟨.inl (lo _ (fun e=>hji e.symm)),fun p hp'=>by rw[Ti'] at hp';cases hp'⟩
   ·exact .inl hocc
  ·simp only[List.mem_cons,List.not_mem_nil,or_false] at hx;rcases hx with rfl|rfl
   ·rw[gi] at hs;cases hs
   ·exact⟨i,by simp,hsi,by rw[lj] at hb;exact hb⟩
  ·simp only[List.mem_cons,List.not_mem_nil,or_false] at hx hy;rcases hx with rfl|rfl
   ·rw[gi] at h1;cases h1
   ·rcases hy with rfl|rfl
    ·rw[gi] at h2;cases h2
    ·exact absurd rfl hxy
  ·have hk:=hr.kept x l hl;simp only[List.mem_cons,List.not_mem_nil,or_false] at hx;rcases hx with rfl|rfl
   ·have:=hk.2.2;rw[Ti] at this;cases this
   ·have:=hk.2.1;rw[h0] at this;cases this
 have hR:=hT.fin hr (fun x hx r hxr=>by
  simp only[List.mem_cons,List.not_mem_nil,or_false] at hx;rcases hx with rfl|rfl
  ·rw[gi] at hxr;cases hxr
  ·rw[gj] at hxr;cases hxr;intro b hb;rw[lj] at hb;exact hr.heap i _ hi b hb)
 exact⟨G',hR,rfl,lj,Tj⟩
theorem CWp.tokRen {c:Ctx}{env:Env}{hp:Hp}{K:Kt}{code:Code} (t i j:Nat){n k:Nat}{xs:List (List D)} (ht:getE env t=some (.gl i xs)) (hi:getH hp i=some (.tok n k)) (hf:zpO env hp j=true)
  (hn:CWp c code ⟨(t,.gl j xs)::env,(j,some (.tok n k))::(i,none)::hp⟩ K):CWp c code ⟨env,hp⟩ K:=by
 rintro a w ⟨G,hr⟩
 obtain⟨h0,hocc⟩:=zqW hf;have Ti:tokf hp i=some (n,k):=zaw.2 hi;obtain⟨G',hR,hF,lj,Tj⟩:=hr.tokMove i j n hi h0 hocc;refine hn a w ⟨G',hR.slot ?_⟩;have hs:=hr.slots t _ ht;cases hs with
 |gl h h2=>
  refine .gl (by rw[hF];exact h) (fun n' k' hT'=>?_);have hT2:tokf ((j,some (Res.tok n k))::(i,none)::hp) j=some (n',k'):=hT';rw[Tj] at hT2;cases hT2
  obtain⟨q1,q2⟩:=h2 n k Ti;refine⟨q1,fun hn'=>⟨(q2 hn').1, ?_⟩⟩;have:=(q2 hn').2;unfold Tip at this ⊢;rw[lj,hF];exact this
section
variable {c:Ctx}{all:Array Oper}{chk:List Rec->Prop}{os:List Oper}{recs:List Rec}{env:Env}{hp:Hp}{Q:St->Prop}
variable {d ty:Nat}{pos:String}{af:Array Edge}{g:Option (Nat×Bool)}{pg:List (Nat×AV)}{t:TypeId}{x:Operand}
theorem xaN {id e k yb:Nat} (j:Nat){xs:List (List D)}{o:Operand}{kd:IntKind}{n:Int}{b:Nat} (ht:SlT c.P t e k yb) (hg:GH all env g pg) (hd:Nat.blt d c.n=true)
  (hx:opd env x=some (.gv id xs)) (htok:getH hp id=some (.tok xs.length k)) (ho:opd env o=some (.d (.int kd n))) (hi:n = ↑b) (hb:b<=xs.length) (hpos:0<xs.length) (hf:zax env hp [j]=true)
  (hn:Walk c all chk os (zao (pg++(opF x (.gv id xs)++opF o (.d (.int kd n)))) [(id,.tok xs.length k)] [j] ⟨some (d,.gv j (xs.take b)),[(j,some (.tok b k)),(id,none)]⟩::recs)
   ⟨(d,.gv j (xs.take b))::env,(j,some (.tok b k))::(id,none)::hp⟩ Q):
  Walk c all chk (⟨some d,.slice t x none (some o) none,ty,pos,af,g⟩::os) recs ⟨env,hp⟩ Q:=by
 refine⟨pg++(opF x (.gv id xs)++opF o (.d (.int kd n))),[(id,.tok xs.length k)],[j],_, ?_,zaz hg.facts (zaz (za9 hx) (za9 ho)),hh1 htok,zbx hf,hn⟩;intro s a w hrel hp' hh hcr K Q' hK;obtain⟨G,hr⟩:=hrel;have e1:=hr.opd (zba hx (fun p hm=>hp' p (by simp[hm])));have e2:=hr.opd (zba ho (fun p hm=>hp' p (by simp[hm])));have htk:=hh1' hh;obtain⟨h0,hocc⟩:=hcr j (by simp);obtain⟨⟨ad,cap0,hv0⟩,hcl⟩:=e1.gv_inv;have Ti:tokf s.hp id=some (xs.length,k):=zaw.2 htk;obtain⟨hkx,htip⟩:=(hcl _ _ Ti).2 rfl;rcases htip with ⟨_,q2,_⟩|⟨bl,cap,cs,et,q1,q2,q3,q4,q5,q6,q7⟩
 ·omega
 obtain⟨G',hR,hF,lj,Tj⟩:=hr.tokMove id j b htk h0 hocc;unfold wpO;rw[if_pos (hg.gf.wanted hr (fun p hm=>hp' p (by simp[hm])))];unfold Oper.wp;have hbd:=zel (P:=c.P) (w:=w) true xs.length cap (lo:=none) (hi:=some (.int kd b)) (a:=0) (b:=b) (.inl ⟨rfl,rfl⟩) (.inr ⟨kd,rfl⟩) (Nat.zero_le _) (by omega);have hrun:(execOp a.eval ⟨some d,.slice t x none (some o) none,ty,pos,af,g⟩).run c.P w = .ok (.value (.slice (some ⟨bl,0,none⟩) b cap)) w:=by
  simp only[execOp,e2.int_eq,hi,q2,Option.map_none,Option.map_some,Instr.sliceAt,Sem.run_bind,run_underlying ht.und,Result.andThen_ok,Instr.slice,hbd,ht.run_size,Sem.run_pure,Nat.zero_mul,Nat.sub_zero,zcL,Nat.zero_add,ite_self]
 rw[hrun,Oper.upon_value];have hl:(xs.take b).length=b:=by rw[List.length_take];omega
 have hA:RelA G' (tokf ((j,some (Res.tok b k))::(id,none)::s.hp)) w (.gv j (xs.take b)) (.slice (some ⟨bl,0,none⟩) b cap):=by
  refine .gv ⟨some ⟨bl,0,none⟩,cap,by rw[hl]⟩ (fun n' k' hT'=>?_);rw[Tj] at hT';cases hT'
  refine⟨by omega,fun _=>⟨fun y hy=>hkx y (List.mem_of_mem_take hy),.inr ⟨bl,cap,cs,et,by rw[lj];exact q1,rfl,by rw[hF];exact q3,q4,q5,by omega,fun i hi' jj hj'=>?_⟩⟩⟩;have hix:i<xs.length:=by rw[hl] at hi';omega
  have h9:=q7 i hix jj (by simpa [List.getElem_take] using hj');rw[hF];simpa [List.getElem_take] using h9
 exact hK _ _ ⟨G',hR.put hA hd⟩
end
theorem FnD.glD {P:Program}{f:FuncId}{i n k:Nat}{args:List AV}{xs:List (List D)} (h:FnD P f args [] (.gl i xs) [(i,some (.tok n k))]):FnD P f args [] (.d (.sl xs)) []:=by
 intro G w vals hok;refine(h G w vals hok).mono ?_;rintro e w' ⟨v,r',hp',G',rfl,⟨rfl,rfl⟩,hret⟩
 refine⟨v,_,_,G',rfl,⟨rfl,rfl⟩, ?_,fun id x hx=>(by cases hx),fun id id' h1=>(by cases h1),fun id h1=>(by cases h1),hret.frm,hret.top,fun id hi=>(by simp[zb7,getH] at hi)⟩;have:=hret.res;cases this with
 |gl h1 h2=>exact .d h1
theorem FnD.gvRen {P:Program}{f:FuncId}{i k:Nat} (j:Nat){args:List AV}{xs:List (List D)} (h:FnD P f args [] (.gv i xs) [(i,some (.tok xs.length k))]):FnD P f args [] (.gv j xs) [(j,some (.tok xs.length k))]:=by
 intro G w vals hok;refine(h G w vals hok).mono ?_;rintro e w' ⟨v,r',hp',G',rfl,⟨rfl,rfl⟩,hret⟩
 have gi:getH ([(i,some (Res.tok xs.length k))]++[]) i=some (.tok xs.length k):=by simp[getH]
 have gj:∀x,(getH ([(j,some (Res.tok xs.length k))]++[]) x).isSome->x=j:=fun x hx=>by
  by_cases e:j=x
  ·exact e.symm
  ·simp[getH,zer e] at hx
 have Ti:tokf ([(i,some (Res.tok xs.length k))]++[]) i=some (xs.length,k):=zaw.2 gi;let G2:Gh:={ G' with loc:=fun x=>G'.loc i }
 refine⟨v,_,_,G2,rfl,⟨rfl,rfl⟩, ?_,fun id x hx=>?_,fun id id' h1 h2 hne=>absurd ((gj id h1).trans (gj id' h2).symm) hne,fun id h1 b hb=>hret.new i (by rw[gi];rfl) b hb,hret.frm,hret.top,fun id hi=>(by simp[zb7,getH] at hi)⟩
 ·have:=hret.res;cases this with
  |gv hv h2=>
   refine .gv hv (fun n' k' hT'=>?_);have hT2:=zaw.1 hT';have e1:Res.tok xs.length k=Res.tok n' k':=by simp[getH] at hT2;rw[hT2.1,hT2.2]
   cases e1
   obtain⟨q1,q2⟩:=h2 _ _ Ti;refine⟨q1,fun hn'=>⟨(q2 hn').1, ?_⟩⟩;have:=(q2 hn').2;unfold TipV at this ⊢;exact this
 ·have e1:=gj id (by rw[hx];rfl);subst e1;have e2:x=Res.tok xs.length k:=by simp[getH] at hx;exact hx.symm
  subst e2;intro b hb;exact hret.heap i _ gi b hb
theorem FnD.gvD {P:Program}{f:FuncId}{i k:Nat}{args:List AV}{xs:List (List D)} (h:FnD P f args [] (.gv i xs) [(i,some (.tok xs.length k))]):FnD P f args [] (.d (.sl xs)) []:=by
 intro G w vals hok;refine(h G w vals hok).mono ?_;rintro e w' ⟨v,r',hp',G',rfl,⟨rfl,rfl⟩,hret⟩
 have gi:getH ([(i,some (Res.tok xs.length k))]++[]) i=some (.tok xs.length k):=by simp[getH]
 have Ti:tokf ([(i,some (Res.tok xs.length k))]++[]) i=some (xs.length,k):=zaw.2 gi;have hown:∀b,b∉zcT G []:=fun b hb=>by simp[zcT] at hb
 have hnew:∀b,b∈G'.loc i->w.heap.size<=b:=fun b hb=>(hret.new i (by rw[gi];rfl) b hb).resolve_left (hown b);have hlt:∀b,b∈G'.loc i->b<w'.heap.size:=hret.heap i _ gi;have hres:=hret.res;obtain⟨hv,hcl⟩:=hres.gv_inv;obtain⟨hkx,htip⟩:=(hcl _ _ Ti).2 rfl;rcases htip with ⟨_,q2,q3⟩|⟨bl,cap,cs,et,q1,q2,q3,q4,q5,q6,q7⟩
 ·have hxs:xs=[]:=List.eq_nil_of_length_eq_zero q2;subst hxs;refine⟨v,_,_,G',rfl,⟨rfl,rfl⟩, ?_,fun id x hx=>(by cases hx),fun id id' h1=>(by cases h1),fun id h1=>(by cases h1),hret.frm,hret.top,fun id hi=>(by simp[zb7,getH] at hi)⟩;rw[q3];exact .d .nil
 ·let G2:Gh:={ G' with F:=fun x=>bif Nat.beq x bl then cs.size else G'.F x }
  have hin:G2.F bl=cs.size:=by simp[G2]
  have hout:∀x,x≠bl->G2.F x=G'.F x:=fun x hx=>by simp[G2,zer hx]
  have hbl:bl∈G'.loc i:=by rw[q1];simp
  have hle:∀b o,o<G'.F b->o<G2.F b:=fun x o ho=>by
   by_cases hx:x=bl
   ·subst hx;rw[q3] at ho;omega
   ·rw[hout x hx];exact ho
  refine⟨v,_,_,G2,rfl,⟨rfl,rfl⟩, ?_,fun id x hx=>(by cases hx),fun id id' h1=>(by cases h1),fun id h1=>(by cases h1), ?_,fun x hx=>?_,fun id hi=>(by simp[zb7,getH] at hi)⟩
  ·rw[q2];have hsz:xs.length*k<=cs.size:=Nat.le_trans (Nat.mul_le_mul_right _ q6) q5;refine .d (.sl xs k bl 0 cap (fun n=>cs.getD n undef) hkx q6 (fun q hq=>⟨by rw[hin];omega, ?_⟩) (fun q hq jj hj=>?_))
   ·have:q<cs.size:=by omega
    simp[World.cell?,q4,this]
   ·exact(q7 q hq jj hj).mono (fun b o ho=>⟨hle b o ho,rfl⟩)
  ·have hf:=hret.frm;exact⟨hf.os,hf.tape,hf.output,hf.size,fun x hx hn=>⟨(hf.block x hx hn).1,by
    rw[hout x (fun e=>by subst e;have:=hnew x hbl;omega)];exact(hf.block x hx hn).2⟩,fun x o ho=>⟨hle x o (hf.cell x o ho).1,(hf.cell x o ho).2⟩⟩
  ·by_cases hx':x=bl
   ·subst hx';have:=hlt x hbl;omega
   ·rw[hout x hx'];exact hret.top x hx
theorem zoN {zs:List AV}:∀ {n i j:Nat},i<n->j<zs.length->(zbb n zs)[i*zs.length+j]?=zs[j]?
 |n+1,0,j,_,hj=>by
  simp only[zbb,Nat.zero_mul,Nat.zero_add];rw[List.getElem?_append_left hj]
 |n+1,i+1,j,hi,hj=>by
  simp only[zbb];rw[List.getElem?_append_right (by rw[Nat.add_mul];omega),show(i+1)*zs.length+j-zs.length=i*zs.length+j by rw[Nat.add_mul];omega];exact zoN (by omega) hj
section
variable {c:Ctx}
theorem R.freshV {G:Gh}{s:St}{a:Act}{w:World} (hr:R c G s a w){id k nc:Nat}{es:List (List D)}{cells:Array Value}{e:TypeId} (htok:getH s.hp id=some (.tok 0 k)) (hpos:0<es.length)
  (hk:∀x,x∈es->x.length=k) (hcs:cells.size=nc*k) (hn:es.length<=nc)
  (hrow:∀i (hi:i<es.length) j (hj:j<es[i].length),RelD G.F w es[i][j] (cells.getD (i*k+j) undef)):
  ∃G',R c G' { s with hp:=(id,some (.tok es.length k))::s.hp } a (w.drew.alloc (.cells cells e))/\
   RelA G' (tokf ((id,some (.tok es.length k))::s.hp)) (w.drew.alloc (.cells cells e)) (.gv id es) (.slice (some ⟨w.heap.size,0,none⟩) es.length nc):=by
 let G':Gh:={ F:=G.F,loc:=fun j=>bif Nat.beq j id then [w.heap.size] else G.loc j }
 have hlt:∀b o,o<G.F b->b<w.heap.size:=fun b o ho=>by
  rcases Nat.lt_or_ge b w.heap.size with h|h
  ·exact h
  ·rw[hr.top b h] at ho;omega
 have hcell:∀b o,o<G.F b->o<G'.F b/\(w.drew.alloc (.cells cells e)).cell? ⟨b,o,none⟩=w.cell? ⟨b,o,none⟩:=fun b o ho=>by
  have hb:=hlt b o ho;exact⟨ho,by rw[World.cell?_alloc_lt w.drew _ _ hb];rfl⟩
 have hlocne:∀j,j≠id->G'.loc j=G.loc j:=fun j hj=>by
  have:Nat.beq j id=false:=by
   cases h:Nat.beq j id with
   |true=>exact absurd (Nat.eq_of_beq_eq_true h) hj
   |false=>rfl
  simp[G',this]
 have hlocid:G'.loc id=[w.heap.size]:=by simp[G']
 have hT':tokf ((id,some (.tok es.length k))::s.hp) id=some (es.length,k):=zaw.2 (by rw[zak,if_pos rfl]);refine⟨G',hr.retok (G':=G') htok hpos hcell hlocne (fun b hb _=>⟨zeq (w:=w.drew) hb,rfl⟩) (fun b hb=>by rw[hlocid] at hb;simp at hb;subst hb;simp)
  (fun b hb=>by rw[hlocid] at hb;simp at hb;exact .inr (by omega)) rfl rfl rfl (by simp) (fun b hb=>?_), ?_⟩
 ·have hb':w.heap.size+1<=b:=by simpa using hb
  exact hr.top b (by omega)
 refine .gv ⟨_,_,rfl⟩ (fun n' k' hm'=>?_);rw[hT'] at hm';cases hm'
 exact⟨Nat.le_refl _,fun _=>⟨hk,.inr ⟨w.heap.size,nc,cells,e,hlocid,rfl,hr.top _ (Nat.le_refl _),zeD (w:=w.drew),by rw[hcs];exact Nat.le_refl _,hn,fun i hi j hj=>(hrow i hi j hj).mono hcell⟩⟩⟩
end
section
variable {c:Ctx}{all:Array Oper}{chk:List Rec->Prop}{os:List Oper}{recs:List Rec}{env:Env}{hp:Hp}{Q:St->Prop}
variable {d ty:Nat}{pos:String}{af:Array Edge}{g:Option (Nat×Bool)}{pg:List (Nat×AV)}{t:TypeId}{x y:Operand}
theorem RelA.nils_eq {G:Gh}{T:TokF}{w:World}{v:Value} (h:RelA G T w .nils v):v = .slice none 0 0:=by cases h;rfl
theorem Walk.capN {at_ e k yb:Nat} (ht:SlT c.P at_ e k yb) (hg:GH all env g pg) (hd:Nat.blt d c.n=true) (hx:opd env x=some .nils)
  (hn:Walk c all chk os (zao (pg++opF x .nils) [] [] ⟨some (d,.d (.i 0)),[]⟩::recs) ⟨(d,.d (.i 0))::env,hp⟩ Q):
  Walk c all chk (⟨some d,.call ⟨.builtin .cap,#[x],#[at_]⟩,ty,pos,af,g⟩::os) recs ⟨env,hp⟩ Q:=
 xa9 hg hd hx (fun a G T w h=>⟨.int .i64 (0:Nat),by
  simp[execOp,resolve,invoke,builtin,h.nils_eq,Builtin.cap_,run_underlying ht.und,goInt],.d (.int _ _)⟩) hn
theorem Walk.cutN_h {e k yb:Nat}{o:Operand}{kd:IntKind} (ht:SlT c.P t e k yb) (hg:GH all env g pg) (hd:Nat.blt d c.n=true)
  (hx:opd env x=some .nils) (ho:opd env o=some (.d (.int kd 0)))
  (hn:Walk c all chk os (zao (pg++(opF x .nils++opF o (.d (.int kd 0)))) [] [] ⟨some (d,.nils),[]⟩::recs) ⟨(d,.nils)::env,hp⟩ Q):
  Walk c all chk (⟨some d,.slice t x none (some o) none,ty,pos,af,g⟩::os) recs ⟨env,hp⟩ Q:=by
 refine xba hg hd hx ho (fun a G T w h1 h2=>⟨.slice none 0 0, ?_,.nils⟩) hn;have hbd:=zel (P:=c.P) (w:=w) true 0 0 (lo:=none) (hi:=some (.int kd (0:Nat))) (a:=0) (b:=0) (.inl ⟨rfl,rfl⟩) (.inr ⟨kd,rfl⟩) (Nat.le_refl _) (Nat.le_refl _);have e2:a.eval o = .int kd ((0:Nat):Int):=h2.int_eq;simp only[execOp,e2,h1.nils_eq,Option.map_none,Option.map_some,Instr.sliceAt,Sem.run_bind,run_underlying ht.und,Result.andThen_ok,Instr.slice,hbd,ht.run_size,Sem.run_pure,Nat.zero_mul,Nat.sub_zero,ite_self]
theorem Walk.growZ {e k yb n:Nat} (id:Nat){zs:List AV}{zr:List D}{tn:TypeId}{kn:IntKind}{m:Int} (ht:SlT c.P t e k yb) (htn:c.P.underlying tn=some (.int kn)) (hz:TyZ c.P e k zs) (hzk:zs.length=k) (hk:0<k) (hzr:toDL zs=some zr)
  (hg:GH all env g pg) (hd:Nat.blt d c.n=true) (hx:opd env x=some .nils) (hy:opd env y=some (.d (.i m))) (hm:m = ↑n) (hn0:0<n) (hb:n*yb<=281474976710656) (h63:(n:Int)<=9223372036854775807) (hf:zax env hp [id]=true)
  (hn:Walk c all chk os (zao (pg++(opF x .nils++opF y (.d (.i m)))) [] [id] ⟨some (d,.gv id (List.replicate n zr)),[(id,some (.tok n k)),(id,some (.tok 0 k))]⟩::recs)
   ⟨(d,.gv id (List.replicate n zr))::env,(id,some (.tok n k))::(id,some (.tok 0 k))::hp⟩ Q):
  Walk c all chk (⟨some d,.call ⟨.builtin .append,#[x,y],#[t,tn]⟩,ty,pos,af,g⟩::os) recs ⟨env,hp⟩ Q:=by
 refine⟨pg++(opF x .nils++opF y (.d (.i m))),[],[id],_, ?_,zaz hg.facts (zaz (za9 hx) (za9 hy)),by simp,zbx hf,hn⟩;intro s a w hrel hp' hh hcr K Q' hK;obtain⟨G,hr⟩:=hrel;have e1:=(hr.opd (zba hx (fun p hm=>hp' p (by simp[hm])))).nils_eq;have e2:=(hr.opd (zba hy (fun p hm=>hp' p (by simp[hm])))).int_eq;obtain⟨h0,hocc⟩:=hcr id (by simp);obtain⟨G1,hr1,_⟩:=hr.mkTokV k h0 hocc;obtain⟨ie,hi1,hi2,hi3⟩:=ht.inf;obtain⟨i',z,z1,z2,z3,z4⟩:=hz.inf;rw[hi1] at z1;cases z1
 have hrun:=Go.Lib.run_append_nil_zeros (P:=c.P) w t tn ty e ie z .i64 kn ht.und htn hi1 z3 n hn0 (by omega) h63 (by rw[hi3];exact hb);have hz0:=zb9 (G:=G1) (T:=tokf ((id,some (.tok 0 k))::s.hp)) (w:=w) z4;have hzz:=zga (by simpa using hz0) n (by omega);obtain⟨c1,c2⟩:=zhJ hzr;have hsz:z.cells.size=k:=by have:=hz0.1;simp at this;omega
 have hle:n<=grownCap w n 0 e:=by have:=grownCap_ge w n 0 e;omega
 have ez:Builtin.zeroCells z.cells n=(Array.range (n*zs.length)).map (z.cells[· % z.cells.size]!):=by
  unfold Builtin.zeroCells;rw[hsz,hzk]
 rw[<-ez] at hzz;have hl:(List.replicate n zr).length=n:=List.length_replicate;have hcs:(Builtin.zeroCells z.cells n++Builtin.zeroCells z.cells (grownCap w n 0 e-n)).size=grownCap w n 0 e*k:=by
  simp only[Array.size_append,size_zeroCells,hsz,<-Nat.add_mul];congr 1;omega
 have key:∀i (hi:i<(List.replicate n zr).length) j (hj:j<(List.replicate n zr)[i].length),RelD G1.F w (List.replicate n zr)[i][j] ((Builtin.zeroCells z.cells n++Builtin.zeroCells z.cells (grownCap w n 0 e-n)).getD (i*k+j) undef):=by
  intro i hi j hj;have hi2:i<n:=by simpa using hi
  have hj2:j<zr.length:=by simpa using hj
  have hj3:j<zs.length:=by omega
  have hlt:i*k+j<(Builtin.zeroCells z.cells n).size:=by
   rw[size_zeroCells,hsz];have:(i+1)*k<=n*k:=Nat.mul_le_mul_right _ (by omega);rw[Nat.add_mul] at this;omega
  have hlz:i*k+j<(zbb n zs).length:=by have:=hzz.1;rw[<-this];exact hlt
  have h5:=hzz.2 (i*k+j) hlz hlt;have h6:=zoN (zs:=zs) hi2 hj3;rw[hzk,List.getElem?_eq_getElem hlz,List.getElem?_eq_getElem hj3] at h6;rw[Option.some.inj h6] at h5;have h7:=h5.toD (c2 j hj3 hj2);have e5:(Builtin.zeroCells z.cells n++Builtin.zeroCells z.cells (grownCap w n 0 e-n)).getD (i*k+j) undef=(Builtin.zeroCells z.cells n)[i*k+j]:=by
   rw[Array.getD_eq_getD_getElem?,Array.getElem?_append_left hlt,Array.getElem?_eq_getElem hlt];rfl
  rw[e5];simp only[List.getElem_replicate];exact h7
 obtain⟨G',hR,hA⟩:=hr1.freshV (nc:=grownCap w n 0 e) (e:=e) (es:=List.replicate n zr) (by rw[zak,if_pos rfl]) (by rw[hl];exact hn0) (fun y hy=>by obtain⟨_,rfl⟩:=List.mem_replicate.1 hy;omega) hcs (by rw[hl];exact hle) key;rw[hl] at hR hA;unfold wpO;rw[if_pos (hg.gf.wanted hr (fun p hm=>hp' p (by simp[hm])))];unfold Oper.wp;have:(execOp a.eval ⟨some d,.call ⟨.builtin .append,#[x,y],#[t,tn]⟩,ty,pos,af,g⟩).run c.P w = .ok (.value (.slice (some ⟨w.heap.size,0,none⟩) n (grownCap w n 0 e))) (w.drew.alloc (.cells (Builtin.zeroCells z.cells n++Builtin.zeroCells z.cells (grownCap w n 0 e-n)) e)):=by
  simp only[execOp,resolve,invoke,builtin,Sem.run_bind,Sem.run_pure,Result.andThen_ok,List.map_toArray,xae,List.map_nil,e1,e2,hm,hrun]
 rw[this,Oper.upon_value];exact hK _ _ ⟨G',hR.put hA hd⟩
end
end Go.Proofs.YtlfipehhbdjnjaaGreat
namespace Go.Proofs.YtlfipehhbdjnjaaGreat
open Go
set_option linter.unusedSimpArgs false
set_option linter.unusedVariables false
set_option maxRecDepth 100000
set_option maxHeartbeats 2000000
theorem zbu {a b c d e:Int}{l:List Pat}:(Pat.mk a b c d e l).op=a:=rfl
theorem zeT {a b c d e:Int}{l:List Pat}:(Pat.mk a b c d e l).ctor=b:=rfl
theorem mk_n {a b c d e:Int}{l:List Pat}:(Pat.mk a b c d e l).n=c:=rfl
theorem mk_m {a b c d e:Int}{l:List Pat}:(Pat.mk a b c d e l).m=d:=rfl
theorem zg4 {a b c d e:Int}{l:List Pat}:(Pat.mk a b c d e l).var=e:=rfl
theorem zaF {a b c d e:Int}{l:List Pat}:(Pat.mk a b c d e l).kids=l:=rfl
abbrev anyQ:Pat:= .mk 1 0 0 0 0 []
abbrev zvv:Pat:= .mk 0 0 0 0 0 []
mutual
def zav:Pat->Pat
 | .mk op c n m v ks=>if op=2 then anyQ else if op=6/\ks≠[] then zkn ks else .mk op c n m v (zhk ks)
def zkn:List Pat->Pat
 | []=>anyQ
 |k::_=>zav k
def zhk:List Pat->List Pat
 | []=>[]
 |k::r=>zav k::zhk r
end
theorem zkT:∀l:List Pat,zhk l=l.map zav
 | []=>rfl
 |k::r=>by simp[zhk,zkT r]
theorem zbd (p:Pat):zav p=if p.op=2 then anyQ else if p.op=6/\p.kids≠[] then zav (nth p.kids 0) else .mk p.op p.ctor p.n p.m p.var (p.kids.map zav):=by
 cases p with|mk op c n m v ks=>
 have e:zav (.mk op c n m v ks)=if op=2 then anyQ else if op=6/\ks≠[] then zkn ks else .mk op c n m v (zhk ks):=by conv=>lhs;unfold zav
 rw[e,zkT];by_cases h2:op=2
 ·rw[if_pos h2];exact(if_pos (c:=(Pat.mk op c n m v ks).op=2) h2).symm
 ·rw[if_neg h2];refine Eq.trans ?_ (if_neg (c:=(Pat.mk op c n m v ks).op=2) h2).symm;by_cases h6:op=6/\ks≠[]
  ·rw[if_pos h6];refine Eq.trans ?_ (if_pos (c:=(Pat.mk op c n m v ks).op=6/\(Pat.mk op c n m v ks).kids≠[]) h6).symm;cases ks with
   |nil=>exact absurd rfl h6.2
   |cons k r=>rfl
  ·rw[if_neg h6];exact(if_neg (c:=(Pat.mk op c n m v ks).op=6/\(Pat.mk op c n m v ks).kids≠[]) h6).symm
def za6 (out:List (List Pat)) (l:List Pat):List (List Pat):=out.flatMap fun q=>l.map fun c=>q++[c]
def zdS (ls:List (List Pat)):List (List Pat):=ls.foldl za6 [[]]
mutual
def zau:Pat->List Pat
 | .mk op c n m v ks=>if op=5 then zxB ks else (zdS (zkt ks)).map fun l=> .mk op c n m v l
def zxB:List Pat->List Pat
 | []=>[]
 |a::r=>zau a++zv8 r
def zv8:List Pat->List Pat
 | []=>[]
 |b::_=>zau b
def zkt:List Pat->List (List Pat)
 | []=>[]
 |k::r=>zau k::zkt r
end
theorem zm5:∀l:List Pat,zkt l=l.map zau
 | []=>rfl
 |k::r=>by simp[zkt,zm5 r]
theorem zcU {p:Pat} (h:p.op≠5):zau p=(zdS (p.kids.map zau)).map fun l=> .mk p.op p.ctor p.n p.m p.var l:=by
 cases p with|mk op c n m v ks=>
 have h':¬op=5:=h;conv=>lhs;unfold zau
 rw[if_neg h',zm5];rfl
theorem zdn {p:Pat} (h:p.op=5) (hk:p.kids.length=2):zau p=zau (nth p.kids 0)++zau (nth p.kids 1):=by
 cases p with|mk op c n m v ks=>
 have h':op=5:=h;conv=>lhs;unfold zau
 rw[if_pos h'];have hk':ks.length=2:=hk;match ks,hk' with
 | [a,b],_=>rfl
mutual
def cntS:Pat->Int
 | .mk op _ _ _ _ ks=>if op=5 then cntO ks 0 else cntM ks 1
def cntO:List Pat->Int->Int
 | [],n=>n
 |k::r,n=>cntO r (cap (n+cntS k))
def cntM:List Pat->Int->Int
 | [],n=>n
 |k::r,n=>cntM r (cap (n*cntS k))
end
theorem znj (p:Pat):cntS p=if p.op=5 then cntO p.kids 0 else cntM p.kids 1:=by
 cases p with|mk op c n m v ks=>
 conv=>lhs;unfold cntS
 rfl
mutual
theorem zni:∀p:Pat,0<=cntS p/\cntS p<=401
 | .mk op _ _ _ _ ks=>by
  unfold cntS;split
  ·exact zrl ks 0 (by omega) (by omega)
  ·exact zrj ks 1 (by omega) (by omega)
theorem zrl:∀(l:List Pat) (n:Int),0<=n->n<=401->0<=cntO l n/\cntO l n<=401
 | [],n,h1,h2=>⟨h1,h2⟩
 |k::r,n,h1,h2=>by
  unfold cntO;have h3:=zni k;have h4:=zlR (x:=n+cntS k) (by omega);exact zrl r _ h4.1 h4.2
theorem zrj:∀(l:List Pat) (n:Int),0<=n->n<=401->0<=cntM l n/\cntM l n<=401
 | [],n,h1,h2=>⟨h1,h2⟩
 |k::r,n,h1,h2=>by
  unfold cntM;have h3:=zni k;have h4:=zlR (x:=n*cntS k) (Int.mul_nonneg h1 h3.1);exact zrj r _ h4.1 h4.2
end
theorem zs9 {l:List Pat}{i:Nat}{n:Int} (h:i<l.length):cntO (l.drop i) n=cntO (l.drop (i+1)) (cap (n+cntS (nth l i))):=by
 rw[zaS h];rfl
theorem zs8 {l:List Pat}{i:Nat}{n:Int} (h:i<l.length):cntM (l.drop i) n=cntM (l.drop (i+1)) (cap (n*cntS (nth l i))):=by
 rw[zaS h];rfl
def binP:Nat->Pat->Bool
 |0,_=>false
 |n+1,p=>decide (p.op=5->p.kids.length=2)&&p.kids.all (binP n)
theorem zdN {n:Nat}{p:Pat} (h:binP (n+1) p=true){i:Nat} (hi:i<p.kids.length):binP n (nth p.kids i)=true:=by
 unfold binP at h;rw[xad,List.all_eq_true] at h;exact h.2 _ (zac hi)
theorem zkd {n:Nat}{p:Pat} (h:binP (n+1) p=true) (h5:p.op=5):p.kids.length=2:=by
 unfold binP at h;rw[xad] at h;exact(of_decide_eq_true h.1) h5
theorem zkU:∀(n:Nat){p:Pat},binP n p=true->binP (n+1) p=true
 |0,p,h=>by simp[binP] at h
 |n+1,p,h=>by
  have h':=h;unfold binP at h ⊢;rw[xad,List.all_eq_true] at h ⊢;exact⟨h.1,fun k hk=>zkU n (h.2 k hk)⟩
theorem zf1 {w:List Data}:∀(n:Nat){t:Ty}{p:Pat},zas w n t p=true->binP n (zav p)=true
 |0,t,p,h=>by simp[zas] at h
 |n+1,t,p,h=>by
  obtain⟨ho,hlen⟩:=zbT h;have hany:binP (n+1) anyQ=true:=by simp[binP,anyQ,Pat.op,Pat.kids]
  rw[zbd];by_cases h2:p.op=2
  ·rw[if_pos h2];exact hany
  rw[if_neg h2];by_cases h6:p.op=6
  ·obtain⟨hl,s0⟩:=zdB h h6;rw[if_pos ⟨h6,fun e=>by rw[e] at hl;simp at hl⟩];exact zkU n (zf1 n s0)
  rw[if_neg (fun h=>h6 h.1)];unfold binP;rw[xad,List.all_eq_true];refine⟨decide_eq_true (fun h5=>?_),fun k hk=>?_⟩
  ·have:=(zd5 h h5).1;simpa [Pat.kids] using this
  ·simp only[Pat.kids,List.mem_map] at hk;obtain⟨x,hx,rfl⟩:=hk;obtain⟨i,hi,rfl⟩:=List.getElem_of_mem hx;have:=zf1 n (zbS h hi);have e:nth p.kids i=p.kids[i]:=zaI hi;rw[e] at this;exact this
theorem zf5 (out:List (List Pat)) (l:List Pat):(za6 out l).length=out.length*l.length:=by
 unfold za6;induction out with
 |nil=>simp
 |cons q r ih=>rw[List.flatMap_cons,xaa,ih,xac,xab,Nat.succ_mul];omega
theorem zsm (ls:List (List Pat)) (l:List Pat):zdS (ls++[l])=za6 (zdS ls) l:=by unfold zdS;rw[List.foldl_append];rfl
theorem zvz {a b:Nat}:cap (cap (a:Int)*cap (b:Int))=cap ((a*b:Nat):Int):=by
 unfold cap;rcases Nat.eq_zero_or_pos a with rfl|ha
 ·simp
 rcases Nat.eq_zero_or_pos b with rfl|hb
 ·simp
 have h1:a<=a*b:=Nat.le_mul_of_pos_right a hb;have h2:b<=a*b:=Nat.le_mul_of_pos_left b ha;have hab:((a*b:Nat):Int)=(a:Int)*(b:Int):=by push_cast;rfl
 by_cases ca:401<(a:Int)
 ·rw[if_pos ca];by_cases cb:401<(b:Int)
  ·rw[if_pos cb,if_pos (by omega),if_pos (by omega)]
  ·rw[if_neg cb];have h3:(401:Int)*1<=401*(b:Int):=Int.mul_le_mul_of_nonneg_left (by omega) (by omega);rw[if_pos (show 401<((a*b:Nat):Int) by omega)];split<;>omega
 ·rw[if_neg ca];by_cases cb:401<(b:Int)
  ·rw[if_pos cb];have h3:(1:Int)*401<=(a:Int)*401:=Int.mul_le_mul_of_nonneg_right (by omega) (by omega);rw[if_pos (show 401<((a*b:Nat):Int) by omega)];split<;>omega
  ·rw[if_neg cb,hab]
theorem zvx {a b:Nat}:cap (cap (a:Int)+cap (b:Int))=cap ((a+b:Nat):Int):=by
 unfold cap;push_cast
 split<;>split<;>split<;>(try split)<;>omega
theorem zvy {x:Int}:cap (cap x)=cap x:=by unfold cap;split<;>(try split)<;>omega
theorem zrk:∀(l:List Pat) (out:List (List Pat)),(∀k∈l,cntS k=cap ((zau k).length:Int)/\0<(zau k).length)->cntM l (cap (out.length:Int))=cap (((l.map zau).foldl za6 out).length:Int)/\(0<out.length->0<((l.map zau).foldl za6 out).length)
 | [],out,_=>⟨rfl,fun h=>h⟩
 |k::r,out,h=>by
  have hk:=h k (by simp);unfold cntM;rw[hk.1,zvz];have:=zrk r (za6 out (zau k)) (fun x hx=>h x (by simp[hx]));rw[zf5] at this;rw[xae,List.foldl_cons];exact⟨this.1,fun ho=>this.2 (Nat.mul_pos ho hk.2)⟩
theorem zjt:∀(n:Nat){p:Pat},binP n p=true->cntS p=cap ((zau p).length:Int)/\0<(zau p).length
 |0,p,h=>by simp[binP] at h
 |n+1,p,h=>by
  have ih:=fun i (hi:i<p.kids.length)=>zjt n (zdN h hi);rw[znj];by_cases h5:p.op=5
  ·have hl:=zkd h h5;rw[if_pos h5,zdn h5 hl,xaa];have k0:=ih 0 (by omega);have k1:=ih 1 (by omega);have e:p.kids=[nth p.kids 0,nth p.kids 1]:=by
    match hk:p.kids,hl with
    | [a,b],_=>rfl
   refine⟨?_,by omega⟩;rw[e];simp only[cntO];rw[Int.zero_add,k0.1,zvy,k1.1];show cap (cap ((zau (nth p.kids 0)).length:Int)+cap ((zau (nth p.kids 1)).length:Int))=_
   rw[zvx];rfl
  ·rw[if_neg h5,zcU h5,xac];have:=zrk p.kids [[]] (fun k hk=>by
    obtain⟨i,hi,rfl⟩:=List.getElem_of_mem hk;have:=ih i hi;simpa [nth,List.getD,hi] using this)
   exact⟨this.1,this.2 (by simp)⟩
theorem zgW:∀(ls:List (List Pat)) (out:List (List Pat)),(∀l∈ls,0<l.length)->out.length<=(ls.foldl za6 out).length
 | [],out,_=>Nat.le_refl _
 |l::r,out,h=>by
  rw[List.foldl_cons];have h1:=zgW r (za6 out l) (fun x hx=>h x (by simp[hx]));rw[zf5] at h1;have h2:out.length<=out.length*l.length:=Nat.le_mul_of_pos_right _ (h l (by simp));omega
theorem zi1:∀(ls:List (List Pat)) (out:List (List Pat)),(∀l∈ls,0<l.length)->0<out.length->∀l∈ls,l.length<=(ls.foldl za6 out).length
 | [],out,_,_,l,hl=>by simp at hl
 |x::r,out,h,ho,l,hl=>by
  rw[List.foldl_cons];have hx:=h x (by simp);have hp:0<(za6 out x).length:=by rw[zf5];exact Nat.mul_pos ho hx
  rcases List.mem_cons.1 hl with rfl|hl
  ·have h1:=zgW r (za6 out l) (fun y hy=>h y (by simp[hy]));rw[zf5] at h1;have h2:l.length<=out.length*l.length:=Nat.le_mul_of_pos_left _ ho;omega
  ·exact zi1 r (za6 out x) (fun y hy=>h y (by simp[hy])) hp l hl
theorem zhI {n:Nat}{p:Pat} (h:binP (n+1) p=true){i:Nat} (hi:i<p.kids.length):(zau (nth p.kids i)).length<=(zau p).length:=by
 by_cases h5:p.op=5
 ·have hl:=zkd h h5;rw[zdn h5 hl,xaa];have:i=0\/i=1:=by omega
  rcases this with rfl|rfl<;>omega
 ·rw[zcU h5,xac];refine zi1 _ [[]] (fun l hl=>?_) (by simp) _ (List.mem_map.2 ⟨_,zac hi,rfl⟩);obtain⟨k,hk,rfl⟩:=List.mem_map.1 hl;obtain⟨j,hj,rfl⟩:=List.getElem_of_mem hk;have:=(zjt n (zdN h hj)).2;simpa [nth,List.getD,hj] using this
theorem zq9 {n:Nat}{p:Pat} (h:binP (n+1) p=true) (h5:p.op≠5) (i:Nat):(zdS ((p.kids.take i).map zau)).length<=(zau p).length:=by
 rw[zcU h5,xac];have e:p.kids.map zau=(p.kids.take i).map zau++(p.kids.drop i).map zau:=by rw[<-xaf,List.take_append_drop]
 unfold zdS;rw[e,List.foldl_append];refine zgW _ _ (fun l hl=>?_);obtain⟨k,hk,rfl⟩:=List.mem_map.1 hl;obtain⟨j,hj,rfl⟩:=List.getElem_of_mem (List.mem_of_mem_drop hk);have:=(zjt n (zdN h hj)).2;simpa [nth,List.getD,hj] using this
def zae (w:List Data):Nat->Ty->Pat->Bool
 |0,_,_=>false
 |n+1,t,p=>(ownP w t p&&decide (p.op=1\/p.op=3\/p.op=4))&&all2 (zae w n) (zag w t p) p.kids
theorem zgN {α β:Type}{f g:α->β->Bool}:∀ {a:List α}{b:List β},(∀x∈a,∀y∈b,f x y=true->g x y=true)->all2 f a b=true->all2 g a b=true
 | [],[],_,_=>rfl
 |x::r,y::s,h,h2=>by
  simp only[all2,xad] at h2 ⊢;exact⟨h x (by simp) y (by simp) h2.1,zgN (fun a ha b hb=>h a (by simp[ha]) b (by simp[hb])) h2.2⟩
 | [],_::_,_,h2=>by simp[all2] at h2
 |_::_,[],_,h2=>by simp[all2] at h2
theorem zgs {w:List Data}:∀(n:Nat){t:Ty}{p:Pat},zae w n t p=true->zas w n t p=true
 |0,t,p,h=>by simp[zae] at h
 |n+1,t,p,h=>by
  unfold zae at h;unfold zas;simp only[xad] at h ⊢;exact⟨h.1.1,zgN (fun x _ y _ hh=>zgs n hh) h.2⟩
theorem zf0 {w:List Data}:∀(n:Nat){t:Ty}{p:Pat},zae w n t p=true->zae w (n+1) t p=true
 |0,t,p,h=>by simp[zae] at h
 |n+1,t,p,h=>by
  unfold zae at h ⊢;simp only[xad] at h ⊢;exact⟨h.1,zgN (fun x _ y _ hh=>zf0 n hh) h.2⟩
theorem zbn {w:List Data}{n:Nat}{t:Ty}{p:Pat} (h:zae w n t p=true):p.op=1\/p.op=3\/p.op=4:=by
 cases n with
 |zero=>simp[zae] at h
 |succ n=>unfold zae at h;simp only[xad] at h;exact of_decide_eq_true h.1.2
theorem zfB {w:List Data}{n:Nat}{t:Ty}{p:Pat} (h:zae w n t p=true):ownP w t p=true/\p.kids.length=(zag w t p).length:=by
 cases n with
 |zero=>simp[zae] at h
 |succ n=>exact zbT (zgs _ h)
theorem zaN {w:List Data}{n:Nat}{t:Ty}{p:Pat} (h:zae w (n+1) t p=true){i:Nat} (hi:i<p.kids.length):zae w n (nth (zag w t p) i) (nth p.kids i)=true:=by
 have hl:=(zfB h).2;unfold zae at h;simp only[xad] at h;exact zfu hl.symm h.2 i (by omega)
theorem zv3 {w:List Data}{t:Ty}{p:Pat}{l:List Pat}:ownP w t (.mk p.op p.ctor p.n p.m p.var l)=ownP w t p:=rfl
theorem zt5 {w:List Data}{t:Ty}{p:Pat}{l:List Pat}:zag w t (.mk p.op p.ctor p.n p.m p.var l)=zag w t p:=rfl
theorem zhz:∀(ls:List (List Pat)) (out:List (List Pat)) (l:List Pat),l∈ls.foldl za6 out->∃q∈out,∃r:List Pat,l=q++r/\r.length=ls.length/\∀i,i<ls.length->nth r i∈nth ls i
 | [],out,l,h=>⟨l,h,[],by simp,rfl,fun i hi=>by simp at hi⟩
 |x::rs,out,l,h=>by
  rw[List.foldl_cons] at h;obtain⟨q,hq,r,e,hl,hm⟩:=zhz rs (za6 out x) l h;unfold za6 at hq;simp only[List.mem_flatMap,List.mem_map] at hq;obtain⟨q0,hq0,c,hc,rfl⟩:=hq;refine⟨q0,hq0,c::r,by rw[e];simp,by simp[hl],fun i hi=>?_⟩;cases i with
  |zero=>exact hc
  |succ i=>exact hm i (by simpa using hi)
theorem zjh {w:List Data}{n:Nat}{t:Ty}:zae w (n+1) t anyQ=true:=by
 unfold zae;have h1:zag w t anyQ=[]:=by unfold zag;rw[if_neg (by decide),if_neg (by decide),if_neg (by decide)]
 rw[h1];have h2:ownP w t anyQ=true:=by unfold ownP;exact decide_eq_true (by simp[anyQ,Pat.op,Pat.var,Pat.n,Pat.m,Pat.ctor])
 rw[h2];rfl
theorem zb8:zau anyQ=[anyQ]:=by
 rw[zcU (by decide)];rfl
theorem zdK {w:List Data}{n:Nat}{t:Ty}{p:Pat} (h:zas w (n+1) t p=true) (h4:p.op≠4) (h5:p.op≠5) (h6:p.op≠6):p.kids=[]:=by
 have hl:=(zbT h).2;unfold zag at hl;rw[if_neg h4,if_neg h5,if_neg h6] at hl;exact List.eq_nil_of_length_eq_zero hl
theorem zfC {w:List Data}:∀(n:Nat){t:Ty}{p:Pat},zas w n t p=true->∀x∈zau (zav p),zae w n t x=true
 |0,t,p,h=>by simp[zas] at h
 |n+1,t,p,h=>by
  obtain⟨ho,hlen⟩:=zbT h;have hop:=zeH h;intro x hx;rw[zbd] at hx;by_cases h2:p.op=2
  ·rw[if_pos h2,zb8,List.mem_singleton] at hx;rw[hx];exact zjh
  rw[if_neg h2] at hx;by_cases h6:p.op=6
  ·obtain⟨hl,s0⟩:=zdB h h6;rw[if_pos ⟨h6,fun e=>by rw[e] at hl;simp at hl⟩] at hx;exact zf0 n (zfC n s0 x hx)
  rw[if_neg (fun h=>h6 h.1)] at hx;by_cases h5:p.op=5
  ·obtain⟨hl,s0,s1⟩:=zd5 h h5;have hl2:(p.kids.map zav).length=2:=by rw[xac];exact hl
   rw[zdn (p:= .mk p.op p.ctor p.n p.m p.var (p.kids.map zav)) h5 hl2] at hx;have e0:nth (p.kids.map zav) 0=zav (nth p.kids 0):=by
    match hk:p.kids,hl with
    | [a,b],_=>rfl
   have e1:nth (p.kids.map zav) 1=zav (nth p.kids 1):=by
    match hk:p.kids,hl with
    | [a,b],_=>rfl
   simp only[zaF] at hx;rw[e0,e1] at hx;rcases List.mem_append.1 hx with hx|hx
   ·exact zf0 n (zfC n s0 x hx)
   ·exact zf0 n (zfC n s1 x hx)
  rw[zcU (p:= .mk p.op p.ctor p.n p.m p.var (p.kids.map zav)) h5] at hx;simp only[zaF,zbu,zeT,mk_n,mk_m,zg4,List.mem_map] at hx;obtain⟨l,hl,rfl⟩:=hx;obtain⟨q,hq,r,e,hlr,hm⟩:=zhz _ _ _ hl;rw[List.mem_singleton] at hq;rw[hq,List.nil_append] at e;subst e;simp only[List.map_map,xac] at hlr hm;unfold zae;rw[zv3,zt5,ho,decide_eq_true (show _\/_\/_ from by rw[zbu];omega),Bool.true_and,Bool.true_and];refine zcf (by rw[zaF];omega) (fun i hi=>?_);have hm':=hm i (by omega);have e2:nth (p.kids.map (zau ∘ zav)) i=zau (zav (nth p.kids i)):=by
   rw[zaI (by simp;omega)];simp[nth,List.getD,show i<p.kids.length by omega]
  rw[e2] at hm';exact zfC n (zbS h (by omega)) _ hm'
theorem Pats.ok_of:∀ {l:List Pat},(∀k∈l,k.ok)->Pats.ok l
 | [],_=>trivial
 |k::r,h=>⟨h k (by simp),Pats.ok_of (fun x hx=>h x (by simp[hx]))⟩
theorem Pats.size_of {m:Nat}:∀ {l:List Pat},(∀k∈l,k.size<=m)->Pats.size l<=l.length*m
 | [],_=>by simp[Pats.size]
 |k::r,h=>by
  have h1:=h k (by simp);have h2:=Pats.size_of (l:=r) (fun x hx=>h x (by simp[hx]));simp only[Pats.size,xab,Nat.succ_mul];omega
mutual
theorem zkc:∀p:Pat,p.ok->(zav p).ok
 | .mk op c n m v ks,h=>by
  unfold zav;split
  ·exact⟨by simp,trivial⟩
  ·split
   ·exact zuq ks h.2
   ·exact⟨by rw[zkT,xac];exact h.1,zpg ks h.2⟩
theorem zuq:∀l:List Pat,Pats.ok l->(zkn l).ok
 | [],_=>⟨by simp,trivial⟩
 |k::r,h=>zkc k h.1
theorem zpg:∀l:List Pat,Pats.ok l->Pats.ok (zhk l)
 | [],_=>trivial
 |k::r,h=>⟨zkc k h.1,zpg r h.2⟩
end
mutual
theorem znY:∀p:Pat,(zav p).size<=p.size
 | .mk op c n m v ks=>by
  unfold zav;split
  ·simp[anyQ,Pat.size,Pats.size]
  ·split
   ·have:=zsd ks;simp only[Pat.size];omega
   ·have:=zlB ks;simp only[Pat.size];omega
theorem zsd:∀l:List Pat,(zkn l).size<=1+Pats.size l
 | []=>by simp[zkn,anyQ,Pat.size,Pats.size]
 |k::r=>by have:=znY k;simp only[zkn,Pats.size];omega
theorem zlB:∀l:List Pat,Pats.size (zhk l)<=Pats.size l
 | []=>Nat.le_refl _
 |k::r=>by have:=znY k;have:=zlB r;simp only[zhk,Pats.size];omega
end
theorem xat (l:List Pat):Pat.cs l=l.map Pat.cc:=by
 rw[Pat.cs_eq];exact List.map_congr_left (fun v _=>Pat.c_eq v)
theorem zbD (l:List Pat):∀x∈Pat.cs l,x.length=6:=Pat.cs_rows
theorem zgM (l:List Pat):∀x∈l.map Pat.cc,x.length=6:=fun x hx=>by
 obtain⟨y,_,rfl⟩:=List.mem_map.1 hx;rfl
theorem zre {p:Pat} (h:p.op=2):zav p=anyQ:=by rw[zbd,if_pos h]
theorem zrf {p:Pat} (h:p.op=6) (h2:0<p.kids.length):zav p=zav (nth p.kids 0):=by
 rw[zbd,if_neg (by omega),if_pos ⟨h,fun e=>by rw[e] at h2;simp at h2⟩]
theorem zrg {p:Pat} (h:p.op≠2) (h2:¬(p.op=6/\0<p.kids.length)):zav p = .mk p.op p.ctor p.n p.m p.var (p.kids.map zav):=by
 rw[zbd,if_neg h,if_neg (fun hh=>h2 ⟨hh.1,List.length_pos_iff.2 hh.2⟩)]
theorem zfY:∀(n:Nat){p:Pat},p.size<=n->p.ok->FnD Tryz.prog 190 [.agg [.d (.i p.op),.d (.i p.ctor),.d (.i p.n),.d (.i p.m),.d (.i p.var),.d (zad p.kids)]] [] (.agg [.d (.i p.op),.d (.i p.ctor),.d (.i p.n),.d (.i p.m),.d (.i p.var),.d (zad p.kids)]) []
 |0,p,h,_=>by rw[Pat.size_eq] at h;omega
 |n+1,p,h,hok=>by
  rw[Pat.size_eq] at h;rw[Pat.ok_iff] at hok;have hok1:=hok.1;refine bd Tryz.f190 24 [] [] fun w0 F0 own kept hk=>?_;refine bx 3001 ?_;refine ab 3002 tz36 ?_;refine tv ?_;refine so ty34 ?_;refine tv ?_;refine xan 3001 5 7 6 rfl rfl rfl rfl ?_;refine xak (ι:=List (Pat)×List (Pat)) hk (fun x=>[(11,.d (.i (x.1.length:Int)))]) [5,12,13,14,15,16,17,18,19,20,21,22] (fun x=>[(3001,some (.box [.d (.i p.op),.d (.i p.ctor),.d (.i p.n),.d (.i p.m),.d (.i p.var),.gl 7 (x.1.map Pat.cc)])),(7,some (.tok (x.1.map Pat.cc).length 6))]) (fun x=>x.1++x.2=p.kids) (fun x=>x.2.length) ([],p.kids) (by simp) ⟨⟨_,rfl,xaq ?_⟩,trivial⟩ ⟨?_,⟨zab ?_,trivial⟩⟩ (fun x=>rfl) (fun x hg1=>?_);focus (rfl)
  focus (first|rfl|(simp[getH];done))
  focus (rfl)
  obtain⟨pre,rest⟩:=x;dsimp only at hg1 ⊢;refine evc [] [] ?_;refine sq ?_ ?_<;>intro h1 h1p h1s<;>(try simp only[Q,Pat.cs_len] at h1p);rcases rest with _|⟨y,rest⟩
  ·exfalso;simp_all
  refine xaS sl34 .none rfl rfl rfl rfl (Pat.cs_at' hg1) rfl ?_;refine ev ?_;refine ab 3005 tz36 ?_;refine so ty36 ?_;refine tv ?_;refine wc zsK (zfY n (p:=y) (by have:=Pats.size_mem (l:=p.kids) (v:=y) (by rw[<-hg1];simp);omega) (Pats.ok_mem hok.2 y (by rw[<-hg1];simp))) rfl rfl ?_;refine si [0] [_] sl34 tz36 ?_;refine ap sl34 zz36 rfl rfl rfl (by intro x hx;(simp at hx;subst hx;rfl)) (by have:=congrArg List.length hg1;simp at this;simp;omega) ?_;refine evd [] [] ?_;refine so ty34 ?_;refine dr ?_;refine ar ?_;refine xah ((pre++[y],rest)) ⟨(by have hz:=hg1;rw[<-hz];simp),(by simp),sx ⟨⟨_,rfl,xaq ?_⟩,trivial⟩ ⟨?_,⟨zab ?_,trivial⟩⟩⟩;focus ((simp;done))
  focus (first|rfl|(simp[getH];done))
  focus ((simp;done))
  have hrest:rest=[]:=by
   rcases rest with _|⟨a,b⟩
   ·rfl
   ·exfalso;have hz:=congrArg List.length (hg1);simp only[xaa,xab,xac] at hz;omega
  subst hrest;refine so ty36 ?_;refine tv ?_;refine rn0 (.cons (.cellA ty36 rfl rfl rfl) .nil) (.agg (.cons (.eqd ?_) (.cons (.eqd ?_) (.cons (.eqd ?_) (.cons (.eqd ?_) (.cons (.eqd ?_) (.cons (.gld ?_) .nil)))))));rotate_left 6;all_goals (first|rfl|(rw[List.append_nil] at hg1;rw[<-hg1,xat];done))
theorem zjc {l:List Pat} (h:l.length<=1000000000000) (hok:∀p∈l,p.ok):FnD Tryz.prog 155 [.d (zad l)] [] (.d (zad l)) []:=by
 refine bd Tryz.f155 19 [3] [] fun w0 F0 own kept hk=>?_;refine xaD 1 6 .none rfl rfl ?_;refine tv ?_;refine xak (ι:=List (Pat)×List (Pat)) hk (fun x=>[(8,.d (.i (x.1.length:Int))),(3,.gl 1 (x.1.map Pat.cc))]) [5,9,10,11,12,13,14,15,16,17] (fun x=>[(1,some (.tok ((x.1.map Pat.cc)).length 6))]) (fun x=>x.1++x.2=l) (fun x=>x.2.length) ([],l) (by simp) ⟨⟨_,rfl,xaq ?_⟩,⟨⟨_,rfl,LeA.glg ?_⟩,trivial⟩⟩ ⟨zab ?_,trivial⟩ (fun x=>rfl) (fun x hg1=>?_);iterate 3 focus (rfl)
 obtain⟨pre,rest⟩:=x;dsimp only at hg1 ⊢;refine evc [3] [] ?_;refine sq ?_ ?_<;>intro h1 h1p h1s<;>(try simp only[Q,Pat.cs_len] at h1p);rcases rest with _|⟨y,rest⟩
 ·exfalso;simp_all
 refine xaS sl34 .none rfl rfl rfl rfl (Pat.cs_at' hg1) rfl ?_;refine evs [3] [] ?_;refine ab 3005 tz36 ?_;refine so ty36 ?_;refine tv ?_;refine wc zsK (zfY _ (Nat.le_refl _) (hok y (by rw[<-hg1];simp))) rfl rfl ?_;refine si [0] [_] sl34 tz36 ?_;refine ap sl34 zz36 rfl rfl rfl (by intro x hx;simp at hx;subst hx;rfl) (by have:=congrArg List.length hg1;simp at this;simp;omega) ?_;refine asg ?_;refine tv ?_;refine ar ?_;refine xah ((pre++[y],rest)) ⟨(by have hz:=hg1;rw[<-hz];simp),(by simp),sx ⟨⟨_,rfl,xaq ?_⟩,⟨⟨_,rfl,LeA.glg ?_⟩,trivial⟩⟩ ⟨zab ?_,trivial⟩⟩;iterate 3 focus ((simp;done))
 have hrest:rest=[]:=by
  rcases rest with _|⟨a,b⟩
  ·rfl
  ·exfalso;have hz:=congrArg List.length (hg1);simp only[xaa,xab,xac] at hz;omega
 subst hrest;refine rn0 (r1 rfl) (.gld ?_);rotate_left;all_goals ((rw[List.append_nil] at hg1;rw[<-hg1,xat];done))
theorem zfX:FnD Tryz.prog 156 [] [] (.agg [.d (.i 1),.d (.i 0),.d (.i 0),.d (.i 0),.d (.i 0),.d (.sl [])]) []:=by
 refine bd Tryz.f156 2 [] [] fun w0 F0 own kept hk=>?_;refine ab 3000 tz36 ?_;refine tv ?_;refine bu [0] [_] st36 ?_;refine so ty36 ?_;refine tv ?_;focus (refine rn0 (.cons (.cellA ty36 rfl rfl rfl) .nil) (.agg (.cons (.eqd ?_) (.cons (.eqd ?_) (.cons (.eqd ?_) (.cons (.eqd ?_) (.cons (.eqd ?_) (.cons (.nild ?_) .nil)))))));all_goals (rfl))
theorem zcX:∀(n:Nat){p:Pat},p.size<=n->p.ok->FnD Tryz.prog 219 [.agg [.d (.i p.op),.d (.i p.ctor),.d (.i p.n),.d (.i p.m),.d (.i p.var),.d (zad p.kids)]] [] (.agg [.d (.i (zav p).op),.d (.i (zav p).ctor),.d (.i (zav p).n),.d (.i (zav p).m),.d (.i (zav p).var),.d (zad (zav p).kids)]) []
 |0,p,h,_=>by rw[Pat.size_eq] at h;omega
 |n+1,p,h,hok=>by
  rw[Pat.size_eq] at h;rw[Pat.ok_iff] at hok;have hok1:=hok.1;by_cases h2:p.op=2
  ·rw[zre h2];refine bd Tryz.f219 44 [] [] fun w0 F0 own kept hk=>?_;refine bx 3001 ?_;refine ab 3002 tz36 ?_;refine tv ?_;refine sq ?_ ?_<;>intro h1 h1p h1s;refine wc zsH (zfX) rfl rfl ?_;refine so ty36 ?_;refine tv ?_;refine rn0 (.cons (.cellA ty36 rfl rfl rfl) .nil) (.agg (.cons (.eqd ?_) (.cons (.eqd ?_) (.cons (.eqd ?_) (.cons (.eqd ?_) (.cons (.eqd ?_) (.cons (.eqd ?_) .nil)))))));rotate_left 6;try simp only[Q] at h1p
   exfalso;omega;all_goals (rfl)
  by_cases h6:p.op=6/\0<p.kids.length
  ·rw[zrf h6.1 h6.2];refine bd Tryz.f219 44 [] [] fun w0 F0 own kept hk=>?_;refine bx 3001 ?_;refine ab 3002 tz36 ?_;refine tv ?_;refine sq ?_ ?_<;>intro h1 h1p h1s;try simp only[Q,Pat.cs_len] at h1p
   exfalso;omega;refine sq ?_ ?_<;>intro h2 h2p h2s;refine sq ?_ ?_<;>intro h3 h3p h3s;refine xaS (i:=0) sl34 .none rfl rfl rfl rfl (zaH h6.2) rfl ?_;refine ev ?_;refine wc zjn (zcX n (p:=nth p.kids 0) (by have:=Pats.size_mem (zac h6.2);omega) (Pats.ok_mem hok.2 _ (zac h6.2))) rfl rfl ?_;refine so ty36 ?_;refine tv ?_;refine rn0 (.cons (.cellA ty36 rfl rfl rfl) .nil) (.agg (.cons (.eqd ?_) (.cons (.eqd ?_) (.cons (.eqd ?_) (.cons (.eqd ?_) (.cons (.eqd ?_) (.cons (.eqd ?_) .nil)))))));rotate_left 6;try simp only[Q,Pat.cs_len] at h3p
   focus (exfalso;first|omega|(simp_all;done))
   try simp only[Q,Pat.cs_len] at h2p
   exfalso;omega;all_goals (rfl)
  ·rw[zrg h2 h6];refine bd Tryz.f219 44 [] [] fun w0 F0 own kept hk=>?_;refine bx 3001 ?_;refine ab 3002 tz36 ?_;refine tv ?_;refine sq ?_ ?_<;>intro h1 h1p h1s;try simp only[Q,Pat.cs_len] at h1p
   exfalso;omega;refine sq ?_ ?_<;>intro h2 h2p h2s;refine sq ?_ ?_<;>intro h3 h3p h3s;try simp only[Q,Pat.cs_len] at h3p
   focus (exfalso;apply h6;first|omega|(simp_all;done))
   refine so ty34 ?_;refine tv ?_;refine xan 3001 5 7 6 rfl rfl rfl rfl ?_;refine xak (ι:=List (Pat)×List (Pat)) hk (fun x=>[(31,.d (.i (x.1.length:Int)))]) [5,32,33,34,35,36,37,38,39,40,41,42] (fun x=>[(3001,some (.box [.d (.i p.op),.d (.i p.ctor),.d (.i p.n),.d (.i p.m),.d (.i p.var),.gl 7 ((x.1.map zav).map Pat.cc)])),(7,some (.tok ((x.1.map zav).map Pat.cc).length 6))]) (fun x=>x.1++x.2=p.kids) (fun x=>x.2.length) ([],p.kids) (by simp) ⟨⟨_,rfl,xaq ?_⟩,trivial⟩ ⟨?_,⟨zab ?_,trivial⟩⟩ (fun x=>rfl) (fun x hg1=>?_);focus (rfl)
   focus (first|rfl|(simp[getH];done))
   focus (rfl)
   obtain⟨pre,rest⟩:=x;dsimp only at hg1 ⊢;refine evc [] [] ?_;refine sq ?_ ?_<;>intro h4 h4p h4s<;>(try simp only[Q,Pat.cs_len] at h4p);rcases rest with _|⟨y,rest⟩
   ·exfalso;simp_all
   refine xaS sl34 .none rfl rfl rfl rfl (Pat.cs_at' hg1) rfl ?_;refine ev ?_;refine ab 3005 tz36 ?_;refine so ty36 ?_;refine tv ?_;refine wc zjn (zcX n (p:=y) (by have:=Pats.size_mem (l:=p.kids) (v:=y) (by rw[<-hg1];simp);omega) (Pats.ok_mem hok.2 y (by rw[<-hg1];simp))) rfl rfl ?_;refine si [0] [_] sl34 tz36 ?_;refine ap sl34 zz36 rfl rfl rfl (by intro x hx;(simp at hx;subst hx;rfl)) (by have:=congrArg List.length hg1;simp at this;simp;omega) ?_;refine evd [] [] ?_;refine so ty34 ?_;refine dr ?_;refine ar ?_;refine xah ((pre++[y],rest)) ⟨(by have hz:=hg1;rw[<-hz];simp),(by simp),sx ⟨⟨_,rfl,xaq ?_⟩,trivial⟩ ⟨?_,⟨zab ?_,trivial⟩⟩⟩;focus ((simp;done))
   focus (first|rfl|(simp[getH];done))
   focus ((simp;done))
   have hrest:rest=[]:=by
    rcases rest with _|⟨a,b⟩
    ·rfl
    ·exfalso;have hz:=congrArg List.length (hg1);simp only[xaa,xab,xac] at hz;omega
   subst hrest;refine so ty36 ?_;refine tv ?_;refine rn0 (.cons (.cellA ty36 rfl rfl rfl) .nil) (.agg (.cons (.eqd ?_) (.cons (.eqd ?_) (.cons (.eqd ?_) (.cons (.eqd ?_) (.cons (.eqd ?_) (.cons (.gld ?_) .nil)))))));rotate_left 6;refine sqF ?_;refine so ty34 ?_;refine tv ?_;refine xan 3001 5 7 6 rfl rfl rfl rfl ?_;refine xak (ι:=List (Pat)×List (Pat)) hk (fun x=>[(31,.d (.i (x.1.length:Int)))]) [5,32,33,34,35,36,37,38,39,40,41,42] (fun x=>[(3001,some (.box [.d (.i p.op),.d (.i p.ctor),.d (.i p.n),.d (.i p.m),.d (.i p.var),.gl 7 ((x.1.map zav).map Pat.cc)])),(7,some (.tok ((x.1.map zav).map Pat.cc).length 6))]) (fun x=>x.1++x.2=p.kids) (fun x=>x.2.length) ([],p.kids) (by simp) ⟨⟨_,rfl,xaq ?_⟩,trivial⟩ ⟨?_,⟨zab ?_,trivial⟩⟩ (fun x=>rfl) (fun x hg1=>?_);focus (rfl)
   focus (first|rfl|(simp[getH];done))
   focus (rfl)
   obtain⟨pre,rest⟩:=x;dsimp only at hg1 ⊢;refine evc [] [] ?_;refine sq ?_ ?_<;>intro h6 h6p h6s<;>(try simp only[Q,Pat.cs_len] at h6p);rcases rest with _|⟨y,rest⟩
   ·exfalso;simp_all
   refine xaS sl34 .none rfl rfl rfl rfl (Pat.cs_at' hg1) rfl ?_;refine ev ?_;refine ab 3005 tz36 ?_;refine so ty36 ?_;refine tv ?_;refine wc zjn (zcX n (p:=y) (by have:=Pats.size_mem (l:=p.kids) (v:=y) (by rw[<-hg1];simp);omega) (Pats.ok_mem hok.2 y (by rw[<-hg1];simp))) rfl rfl ?_;refine si [0] [_] sl34 tz36 ?_;refine ap sl34 zz36 rfl rfl rfl (by intro x hx;(simp at hx;subst hx;rfl)) (by have:=congrArg List.length hg1;simp at this;simp;omega) ?_;refine evd [] [] ?_;refine so ty34 ?_;refine dr ?_;refine ar ?_;refine xah ((pre++[y],rest)) ⟨(by have hz:=hg1;rw[<-hz];simp),(by simp),sx ⟨⟨_,rfl,xaq ?_⟩,trivial⟩ ⟨?_,⟨zab ?_,trivial⟩⟩⟩;focus ((simp;done))
   focus (first|rfl|(simp[getH];done))
   focus ((simp;done))
   have hrest:rest=[]:=by
    rcases rest with _|⟨a,b⟩
    ·rfl
    ·exfalso;have hz:=congrArg List.length (hg1);simp only[xaa,xab,xac] at hz;omega
   subst hrest;refine so ty36 ?_;refine tv ?_;refine rn0 (.cons (.cellA ty36 rfl rfl rfl) .nil) (.agg (.cons (.eqd ?_) (.cons (.eqd ?_) (.cons (.eqd ?_) (.cons (.eqd ?_) (.cons (.eqd ?_) (.cons (.gld ?_) .nil)))))));rotate_left 6;all_goals (first|rfl|(rw[List.append_nil] at hg1;subst hg1;rw[<-xat];all_goals rfl))
theorem zdZ:∀(n:Nat){p:Pat},p.size<=n->p.ok->FnD Tryz.prog 220 [.agg [.d (.i p.op),.d (.i p.ctor),.d (.i p.n),.d (.i p.m),.d (.i p.var),.d (zad p.kids)]] [] (.d (.i (cntS p))) []
 |0,p,h,_=>by rw[Pat.size_eq] at h;omega
 |n+1,p,h,hok=>by
  rw[Pat.size_eq] at h;rw[Pat.ok_iff] at hok;have hok1:=hok.1;have hbd:=fun i=>zni (nth p.kids i);by_cases h5:p.op=5
  ·rw[znj,if_pos h5];refine bd Tryz.f220 31 [] [] fun w0 F0 own kept hk=>?_;refine bx 3001 ?_;refine ev ?_;refine sq ?_ ?_<;>intro h1 h1p h1s;refine xak (ι:=Nat×Int) hk (fun x=>[(12,.d (.i (x.1:Int))),(3,.d (.i x.2))]) [5,13,14,15,16,17,18,19,20,21,22,23,24,25,26,27,28,29] (fun x=>[]) (fun x=>x.1<=p.kids.length/\cntO (p.kids.drop x.1) x.2=cntO p.kids 0/\0<=x.2/\x.2<=401) (fun x=>p.kids.length-x.1) (0,0) ⟨by simp,rfl,by simp,by simp⟩ ⟨⟨_,rfl,xaq ?_⟩,⟨⟨_,rfl,xaq ?_⟩,trivial⟩⟩ trivial (fun x=>rfl) (fun x hg1=>?_);iterate 2 focus (rfl)
   refine evc [] [] ?_;refine sq ?_ ?_<;>intro h2 h2p h2s<;>(try simp only[Q,Pat.cs_len] at h2p);refine xaS sl34 .none rfl rfl rfl rfl (zaH (by omega)) rfl ?_;refine ev ?_;refine ab 3005 tz36 ?_;refine so ty36 ?_;refine tv ?_;refine sq ?_ ?_<;>intro h3 h3p h3s<;>(try simp only[Q,Pat.cs_len] at h3p);refine wc zlH (zdZ n (p:=nth p.kids x.1) (by have:=Pats.size_mem (zac (l:=p.kids) (i:=x.1) (by omega));omega) (Pats.ok_mem hok.2 _ (zac (by omega)))) rfl rfl ?_;refine ev ?_;refine ar ?_ (by(have hb:=hbd x.1;constructor<;>omega));refine xa4 .none rfl rfl rfl ?_;refine ev ?_;refine ar ?_ (by(constructor<;>omega));refine xah ((x.1+1,cap (x.2+cntS (nth p.kids x.1)))) ⟨(by
        have hb:=hbd x.1;have hc:=zlR (x:=x.2+cntS (nth p.kids x.1)) (by omega);exact⟨by dsimp only;omega,by dsimp only;rw[<-zs9 (by omega)];exact hg1.2.1,hc.1,hc.2⟩),(by dsimp only;omega),sx ⟨⟨_,rfl,xaq ?_⟩,⟨⟨_,rfl,xaq ?_⟩,trivial⟩⟩ trivial⟩
   iterate 2 focus (rfl)
   exfalso;omega;refine rq ?_;rotate_left;try simp only[Q,Pat.cs_len] at h1p
   exfalso;omega;all_goals (refine congrArg D.i ?_;rw[<-hg1.2.1,List.drop_eq_nil_of_le (by omega)];rfl)
  ·rw[znj,if_neg h5];refine bd Tryz.f220 31 [] [] fun w0 F0 own kept hk=>?_;refine bx 3001 ?_;refine ev ?_;refine sq ?_ ?_<;>intro h1 h1p h1s;try simp only[Q,Pat.cs_len] at h1p
   exfalso;omega;refine xak (ι:=Nat×Int) hk (fun x=>[(12,.d (.i (x.1:Int))),(3,.d (.i x.2))]) [5,13,14,15,16,17,18,19,20,21,22,23,24,25,26,27,28,29] (fun x=>[]) (fun x=>x.1<=p.kids.length/\cntM (p.kids.drop x.1) x.2=cntM p.kids 1/\0<=x.2/\x.2<=401) (fun x=>p.kids.length-x.1) (0,1) ⟨by simp,rfl,by simp,by simp⟩ ⟨⟨_,rfl,xaq ?_⟩,⟨⟨_,rfl,xaq ?_⟩,trivial⟩⟩ trivial (fun x=>rfl) (fun x hg1=>?_);iterate 2 focus (rfl)
   refine evc [] [] ?_;refine sq ?_ ?_<;>intro h2 h2p h2s<;>(try simp only[Q,Pat.cs_len] at h2p);refine xaS sl34 .none rfl rfl rfl rfl (zaH (by omega)) rfl ?_;refine ev ?_;refine ab 3005 tz36 ?_;refine so ty36 ?_;refine tv ?_;refine sq ?_ ?_<;>intro h3 h3p h3s;try simp only[Q,Pat.cs_len] at h3p
   exfalso;omega;refine wc zlH (zdZ n (p:=nth p.kids x.1) (by have:=Pats.size_mem (zac (l:=p.kids) (i:=x.1) (by omega));omega) (Pats.ok_mem hok.2 _ (zac (by omega)))) rfl rfl ?_;refine ev ?_;refine ar ?_ (by(have hb:=hbd x.1;have h3:=Int.mul_le_mul hg1.2.2.2 hb.2 hb.1 (by omega);have h4:=Int.mul_nonneg hg1.2.2.1 hb.1;constructor<;>omega));refine xa4 .none rfl rfl rfl ?_;refine ev ?_;refine ar ?_ (by(constructor<;>omega));refine xah ((x.1+1,cap (x.2*cntS (nth p.kids x.1)))) ⟨(by
        have hb:=hbd x.1;have hc:=zlR (x:=x.2*cntS (nth p.kids x.1)) (Int.mul_nonneg hg1.2.2.1 hb.1);exact⟨by dsimp only;omega,by dsimp only;rw[<-zs8 (by omega)];exact hg1.2.1,hc.1,hc.2⟩),(by dsimp only;omega),sx ⟨⟨_,rfl,xaq ?_⟩,⟨⟨_,rfl,xaq ?_⟩,trivial⟩⟩ trivial⟩
   iterate 2 focus (rfl)
   refine rq ?_;rotate_left;all_goals (refine congrArg D.i ?_;rw[<-hg1.2.1,List.drop_eq_nil_of_le (by omega)];rfl)
theorem zfs {xs:List Pat} (hs:xs.length<=1000000000000):FnD Tryz.prog 242 [.d (zad xs)] [] (.gl 77 (Pat.cs xs)) [(77,some (.tok (Pat.cs xs).length 6))]:=by
 refine Fn.body (fn:=Tryz.f242) (n:=8) rfl rfl rfl rfl rfl (fun w0 F0 own kept hk=>?_);refine xam 0 rfl (fun hx0=>?_) ?_;refine evc [2,4] [] ?_;refine asg ?_;refine tv ?_;refine xaR sl34 .none rfl rfl ?_;refine tv ?_;refine sqT ?_;refine xaD 77 6 .none rfl rfl ?_;refine tv ?_;refine rn [(77,some (.tok (Pat.cs xs).length 6))] (r1 rfl) (.glg ?_) ⟨rfl,rfl⟩ (SubH.get ⟨?_,trivial⟩) (zaC rfl);rotate_left 2;refine evc [2,4] [] ?_;refine asg ?_;refine tv ?_;refine xaQ sl34 .none rfl rfl ?_;refine tv ?_;refine sqF ?_;refine xbg 77 sl34 .none rfl rfl ?_;refine evs [2,4] [] ?_;refine ap sl34 zz36 rfl rfl rfl (by intro y hy;rw[xat] at hy;obtain⟨z,_,rfl⟩:=List.mem_map.1 hy;rfl) (by simp[Pat.cs_len];omega) ?_;refine asg ?_;refine tv ?_;refine rn [(77,some (.tok (Pat.cs xs).length 6))] (r1 rfl) (.glg ?_) ⟨rfl,rfl⟩ (SubH.get ⟨?_,trivial⟩) (zaC rfl);rotate_left 2;all_goals (first|((first|rfl|exact hx0.symm|(simp;done));done)|(first|rfl|(simp[hx0];rfl)|(simp;rfl)))
def zdF (C:List Pat) (q:Pat):List Pat:=C.map fun c=> .mk q.op q.ctor q.n q.m q.var (q.kids++[c])
theorem zsc {ls:List (List Pat)}{C:List Pat}{a b c d e:Int}:((zdS ls).map (fun l=>Pat.mk a b c d e l)).flatMap (zdF C)=(zdS (ls++[C])).map (fun l=>Pat.mk a b c d e l):=by
 rw[zsm];unfold za6 zdF;rw[List.flatMap_map,List.map_flatMap];congr 1
 funext q
 simp[zbu,zeT,mk_n,mk_m,zg4,zaF]
def zcj (p:Pat) (i:Nat):List Pat:=(zdS ((p.kids.take i).map zau)).map fun l=>Pat.mk p.op p.ctor p.n p.m p.var l
theorem zun (p:Pat):zcj p 0=[.mk p.op p.ctor p.n p.m p.var []]:=by unfold zcj;simp[zdS]
theorem zqY {p:Pat}{i:Nat} (h:i<p.kids.length):(zcj p i).flatMap (zdF (zau (nth p.kids i)))=zcj p (i+1):=by
 unfold zcj;rw[zsc,List.take_succ_eq_append_getElem h,xaf,<-zaI h];rfl
theorem zsa {p:Pat}{i:Nat} (h5:p.op≠5) (h:p.kids.length<=i):zcj p i=zau p:=by
 unfold zcj;rw[zcU h5,List.take_of_length_le h]
theorem zsb {n:Nat}{p:Pat} (h:binP (n+1) p=true) (h5:p.op≠5) (i:Nat):(zcj p i).length<=(zau p).length:=by
 unfold zcj;rw[xac];exact zq9 h h5 i
theorem zqX {p:Pat}{i:Nat}{q:Pat} (h:q∈zcj p i):q.kids.length<=p.kids.length:=by
 unfold zcj at h;obtain⟨l,hl,rfl⟩:=List.mem_map.1 h;obtain⟨q0,hq,r,e,hlr,_⟩:=zhz _ _ _ hl;rw[List.mem_singleton] at hq;rw[hq,List.nil_append] at e;rw[zaF,e,hlr];simp;omega
theorem zn9 {α β:Type}{f:α->List β}{k:Nat} (hf:∀x,(f x).length<=k):∀l:List α,(l.flatMap f).length<=l.length*k
 | []=>by simp
 |x::r=>by
  rw[List.flatMap_cons,xaa,xab,Nat.succ_mul];have:=hf x;have:=zn9 hf r;omega
theorem zeA:∀(n:Nat){p:Pat},binP n p=true->p.ok->(zau p).length<=40->FnD Tryz.prog 221 [.agg [.d (.i p.op),.d (.i p.ctor),.d (.i p.n),.d (.i p.m),.d (.i p.var),.d (zad p.kids)]] [] (.gl 9 (Pat.cs (zau p))) [(9,some (.tok (Pat.cs (zau p)).length 6))]
 |0,p,h,_,_=>by simp[binP] at h
 |n+1,p,h,hok,hlen=>by
  have hok':=(Pat.ok_iff p).1 hok;have hok1:=hok'.1;by_cases h5:p.op=5
  ·have hl:=zkd h h5;have e5:=zdn h5 hl;have l0:=zhI h (i:=0) (by omega);have l1:=zhI h (i:=1) (by omega);have c0:=zeA n (zdN h (i:=0) (by omega)) (Pats.ok_mem hok'.2 _ (zac (by omega))) (by omega);have c1:=FnD.glD (zeA n (zdN h (i:=1) (by omega)) (Pats.ok_mem hok'.2 _ (zac (by omega))) (by omega));rw[e5];refine bd Tryz.f221 70 [] [] fun w0 F0 own kept hk=>?_;refine bx 3001 ?_;refine ev ?_;refine sq ?_ ?_<;>intro h1 h1p h1s<;>(try simp only[Q,Pat.cs_len] at h1p);refine xaS (i:=0) sl34 .none rfl rfl rfl rfl (zaH (by omega)) rfl ?_;refine evd [] [] ?_;refine Walk.call (cr:=[9]) zlI (c0) rfl .none rfl rfl (LeL.refl _) trivial rfl rfl rfl ?_;refine evd [] [] ?_;refine xaS (i:=1) sl34 .none rfl rfl rfl rfl (zaH (by omega)) rfl ?_;refine evd [] [] ?_;refine wc zlI (c1) rfl rfl ?_;refine ap sl34 zz36 rfl rfl rfl (by intro x hx;exact zbD _ x hx) (by simp[Pat.cs_len];omega) ?_;refine evd [] [] ?_;refine dr ?_;refine rn [(9,some (.tok (Pat.cs (zau (nth p.kids 0)++zau (nth p.kids 1))).length 6))] (r1 rfl) (.glg ?_) ⟨rfl,rfl⟩ (SubH.get ⟨?_,trivial⟩) (zaC rfl);rotate_left 2;exfalso;omega;all_goals (first|((first|rfl|(simp[xat];done));done)|(first|rfl|(simp[xat];rfl)))
  ·have hfl:=zsb h h5;have hfk:=fun(i:Nat) (q:Pat) (hq:q∈zcj p i)=>zqX hq;have hf0:=zun p;have hfe:=fun(i:Nat) (hi:p.kids.length<=i)=>zsa h5 hi;have hfn:=fun(i:Nat) (hi:i<p.kids.length)=>zqY hi;have hcal:=fun(i:Nat) (hi:i<p.kids.length)=>FnD.glD (zeA n (zdN h hi) (Pats.ok_mem hok'.2 _ (zac hi)) (by have:=zhI h hi;omega));have hcl:=fun(i:Nat) (hi:i<p.kids.length)=>zhI h hi;have hgl:=fun(C:List Pat) (q:Pat)=>show(zdF C q).length<=C.length from by unfold zdF;simp
   generalize zau p=SP at *;refine bd Tryz.f221 70 [8] [10,23] fun w0 F0 own kept hk=>?_;refine bx 3001 ?_;refine evs [8] [] ?_;refine sq ?_ ?_<;>intro h1 h1p h1s<;>(try simp only[Q,Pat.cs_len] at h1p);exfalso;omega;refine so ty34 ?_;refine tv ?_;refine xbi 9 sl34 tz36 rfl (by decide) (ks:=[0]) (xs:=[_]) rfl rfl (by decide) (by decide) .none rfl rfl rfl rfl rfl ?_;refine evs [8] [] ?_;refine xak (ι:=Nat) hk (fun i=>[(35,.d (.i (i:Int))),(4,.gl 9 ((zcj p i).map Pat.cc)),(32,.any)]) [6,7,8,10,12,13,36,37,38,39,40,41,42,43,44,45,46,47,48,49,50,51,52,53,54,55,56,57,58,59,60,61,62,63,64,65,66,67,68] (fun i=>[(9,some (.tok (((zcj p i).map Pat.cc)).length 6))]) (fun i=>i<=p.kids.length) (fun i=>p.kids.length-i) 0 (by omega) ⟨⟨_,rfl,xaq ?_⟩,⟨⟨_,rfl,LeA.glg ?_⟩,⟨⟨_,rfl,.any _⟩,trivial⟩⟩⟩ ⟨zab ?_,trivial⟩ (fun x=>rfl) (fun i hg1=>?_);iterate 3 focus (rfl)
   refine evc [8] [10,23] ?_;refine sq ?_ ?_<;>intro h2 h2p h2s<;>(try simp only[Q,Pat.cs_len] at h2p);refine xaS sl34 .none rfl rfl rfl rfl (zaH (by omega)) rfl ?_;refine evs [8] [] ?_;refine ab 3006 tz36 ?_;refine so ty36 ?_;refine tv ?_;refine wc zlI (hcal i (by omega)) rfl rfl ?_;refine evs [8] [] ?_;refine CWp.tokDrop 4 9 rfl rfl ?_;refine evc [8] [] ?_;refine xaD 3 6 .none rfl rfl ?_;refine tv ?_;refine xak (ι:=List (Pat)×List (Pat)) hk (fun x=>[(43,.d (.i (x.1.length:Int))),(8,.gl 3 ((x.1.flatMap (zdF (zau (nth p.kids i)))).map Pat.cc))]) [10,12,13,44,45,46,47,48,49,50,51,52,53,54,55,56,57,58,59,60,61,62,63,64,65,66] (fun x=>[(3,some (.tok (((x.1.flatMap (zdF (zau (nth p.kids i)))).map Pat.cc)).length 6))]) (fun x=>x.1++x.2=zcj p i) (fun x=>x.2.length) ([],zcj p i) (by simp) ⟨⟨_,rfl,xaq ?_⟩,⟨⟨_,rfl,LeA.glg ?_⟩,trivial⟩⟩ ⟨zab ?_,trivial⟩ (fun x=>rfl) (fun x hg2=>?_);iterate 3 focus (rfl)
   obtain⟨pre2,rest2⟩:=x;dsimp only at hg2 ⊢;refine evc [8] [10,23] ?_;refine sq ?_ ?_<;>intro h3 h3p h3s<;>(try simp only[Q,Pat.cs_len] at h3p);rcases rest2 with _|⟨q,rest2⟩
   ·exfalso;simp_all
   have hqk:=hfk i q (by rw[<-hg2];simp);have hl2:=congrArg List.length hg2;simp only[xaa,xab] at hl2;have hl2b:=hfl i;refine xaS sl34 .none rfl rfl rfl rfl (zaK hg2) rfl ?_;refine evs [8] [] ?_;refine ab 3010 tz36 ?_;refine so ty36 ?_;refine tv ?_;refine xak (ι:=List (Pat)×List (Pat)) hk (fun x=>[(49,.d (.i (x.1.length:Int))),(8,.gl 3 ((pre2.flatMap (zdF (zau (nth p.kids i)))++zdF x.1 q).map Pat.cc))]) [12,13,50,51,52,53,54,55,56,57,58,59,60,61,62,63,64,65] (fun x=>[(3,some (.tok (((pre2.flatMap (zdF (zau (nth p.kids i)))++zdF x.1 q).map Pat.cc)).length 6))]) (fun x=>x.1++x.2=zau (nth p.kids i)) (fun x=>x.2.length) ([],zau (nth p.kids i)) (by simp) ⟨⟨_,rfl,xaq ?_⟩,⟨⟨_,rfl,LeA.glg ?_⟩,trivial⟩⟩ ⟨zab ?_,trivial⟩ (fun x=>rfl) (fun x hg3=>?_);iterate 3 focus ((simp[zdF];done))
   obtain⟨pre3,rest3⟩:=x;dsimp only at hg3 ⊢;refine evc [8] [10,23] ?_;refine sq ?_ ?_<;>intro h4 h4p h4s<;>(try simp only[Q,Pat.cs_len] at h4p);rcases rest3 with _|⟨y,rest3⟩
   ·exfalso;simp_all
   have hl3:=congrArg List.length hg3;simp only[xaa,xab] at hl3;have hl3b:=hcl i (by omega);refine xaS sl34 .none rfl rfl rfl rfl (Pat.cs_at' hg3) rfl ?_;refine evs [8] [] ?_;refine ab 3012 tz36 ?_;refine so ty36 ?_;refine tv ?_;refine ab 3013 tz36 ?_;refine so ty36 ?_;refine tv ?_;refine Walk.call (cr:=[77]) zpo (zfs (xs:=q.kids) (by omega)) rfl .none rfl rfl (LeL.refl _) trivial rfl rfl rfl ?_;refine evd [8] [] ?_;refine si [0] [_] sl34 tz36 ?_;refine ap sl34 zz36 rfl rfl rfl (by intro x hx;first|(simp at hx;subst hx;rfl)|exact zgM _ x hx) (by first|(simp;omega)|(simp only[Pat.cs_len,xaa,xab,xai];omega)) ?_;refine evd [8] [] ?_;refine so ty34 ?_;refine dr ?_;refine si [0] [_] sl34 tz36 ?_;refine ap sl34 zz36 rfl rfl rfl (by intro x hx;first|(simp at hx;subst hx;rfl)|exact zbD _ x hx) (by first|(simp;omega)|(have h10:=hgl pre3 q;have h8:=congrArg List.length hg2;have h9:=congrArg List.length hg3;have h7:=zn9 (hgl (zau (nth p.kids i))) pre2;have h6:=hfl i;have h5:=hcl i (by omega);simp only[xaa,xab,xac,xai] at *;have h4:pre2.length*(zau (nth p.kids i)).length<=40*40:=Nat.mul_le_mul (by omega) (by omega);omega)) ?_;refine asg ?_;refine tv ?_;refine ar ?_;refine xah ((pre3++[y],rest3)) ⟨(by have hz:=hg3;rw[<-hz];simp),(by simp),sx ⟨⟨_,rfl,xaq ?_⟩,⟨⟨_,rfl,LeA.glg ?_⟩,trivial⟩⟩ ⟨zab ?_,trivial⟩⟩;iterate 3 focus (first|(simp[zdF];omega)|(simp[zdF,zbu,zeT,mk_n,mk_m,zg4,zaF,xat];done))
   have hrest3:rest3=[]:=by
    rcases rest3 with _|⟨a,b⟩
    ·rfl
    ·exfalso;have hz:=congrArg List.length (hg3);simp only[xaa,xab,xac] at hz;omega
   subst hrest3;refine ar ?_;refine xah ((pre2++[q],rest2)) ⟨(by have hz:=hg2;rw[<-hz];simp),(by simp),sx ⟨⟨_,rfl,xaq ?_⟩,⟨⟨_,rfl,LeA.glg ?_⟩,trivial⟩⟩ ⟨zab ?_,trivial⟩⟩;iterate 3 focus (first|(simp;done)|(rw[List.append_nil] at hg3;rw[List.flatMap_append,xaf];simp[zdF,<-hg3];done))
   have hrest2:rest2=[]:=by
    rcases rest2 with _|⟨a,b⟩
    ·rfl
    ·exfalso;have hz:=congrArg List.length (hg2);simp only[xaa,xab,xac] at hz;omega
   subst hrest2;refine CWp.tokRen 4 3 9 rfl rfl (by kernel_rfl) ?_;refine evc [8] [] ?_;refine ar ?_;rw[List.append_nil] at hg2;refine xah (i+1) ⟨(by omega),(by omega),sx ⟨⟨_,rfl,xaq ?_⟩,⟨⟨_,rfl,LeA.glg ?_⟩,⟨⟨_,rfl,.any _⟩,trivial⟩⟩⟩ ⟨zab ?_,trivial⟩⟩;iterate 3 focus (first|rfl|(rw[<-hfn i (by omega),<-hg2];done))
   refine rn [(9,some (.tok (Pat.cs SP).length 6))] (r1 rfl) (.glg ?_) ⟨rfl,rfl⟩ (SubH.get ⟨?_,trivial⟩) (zaC rfl);rotate_left 2;all_goals ((((rw[<-hfe i (by omega),show Pat.cs (zcj p i)=(zcj p i).map Pat.cc from xat _];all_goals rfl));done))
def zbk (p:Pat):List Pat:=if (zau (zav p)).length<=40 then zau (zav p) else []
def zbi (p:Pat):Bool:=decide ((zau (zav p)).length<=40)
theorem zi3 {w:List Data}{n:Nat}{t:Ty}{p:Pat} (h:zas w n t p=true) (hok:p.ok):FnD Tryz.prog 124 [.agg [.d (.i p.op),.d (.i p.ctor),.d (.i p.n),.d (.i p.m),.d (.i p.var),.d (zad p.kids)]] [] (.tup [.d (zad (zbk p)),.d (.bool (zbi p))]) []:=by
 have hb:=zf1 n h;have hbo:=zkc p hok;have hce:=(zjt n hb).1;have hbp:=zcX _ (Nat.le_refl _) hok;have hcs:=zdZ _ (Nat.le_refl _) hbo;have hsp:=fun h40=>FnD.glD (zeA n hb hbo h40);rw[hce] at hcs;unfold zbk zbi;generalize zav p=b at *;by_cases h40:(zau b).length<=40
 ·rw[if_pos h40,decide_eq_true h40];have hc40:cap ((zau b).length:Int)<=40:=by unfold cap;split<;>omega
  refine bd Tryz.f124 12 [] [] fun w0 F0 own kept hk=>?_;refine bx 3001 ?_;refine ev ?_;refine wc zjn (hbp) rfl rfl ?_;refine ab 3004 tz36 ?_;refine so ty36 ?_;refine tv ?_;refine wc zlH (hcs) rfl rfl ?_;refine ev ?_;refine sq ?_ ?_<;>intro h1 h1p h1s<;>(try simp only[Q] at h1p);exfalso;omega;refine wc zlI (hsp h40) rfl rfl ?_;refine ev ?_;refine rn0 (r2 rfl rfl) (.tup (.cons (.eqd ?_) (.cons (.eqd ?_) .nil)));rotate_left 2;all_goals (rfl)
 ·rw[if_neg h40,decide_eq_false h40];have hc40:¬cap ((zau b).length:Int)<=40:=by unfold cap;split<;>omega
  refine bd Tryz.f124 12 [] [] fun w0 F0 own kept hk=>?_;refine bx 3001 ?_;refine ev ?_;refine wc zjn (hbp) rfl rfl ?_;refine ab 3004 tz36 ?_;refine so ty36 ?_;refine tv ?_;refine wc zlH (hcs) rfl rfl ?_;refine ev ?_;refine sq ?_ ?_<;>intro h1 h1p h1s<;>(try simp only[Q] at h1p);refine rn0 (r2 rfl rfl) (.tup (.cons (.nild ?_) (.cons (.eqd ?_) .nil)));rotate_left 2;exfalso;omega;all_goals (rfl)
structure Spa (w:List Data):Prop where
 dp:Dp w
 ctors:∀t,InS (w.length*4) t->(zaj w t).length<=4/\(zaj w t).Nodup
 args:∀t c,InS (w.length*4) t->c∈zaj w t->(zaa w t c).length<=3
theorem zjv (k:Int):∀(l:List Ctor) (i:Nat),(zaW k i l).Pairwise (· < ·)
 | [],_=>by simp[zaW]
 |x::r,i=>by
  unfold zaW;have ih:=zjv k r (i+1);split
  ·refine List.pairwise_cons.2 ⟨fun y hy=>?_,ih⟩;obtain⟨j,rfl,h1,_⟩:=zgd k r (i+1) y hy;omega
  ·exact ih
theorem zuY {w:List Data} (hs:WSmall w) (hv:za0 w=true):Spa w:=by
 have hd:=zqO hs hv;have hW:=(zco w).1 hv;refine⟨hd,fun t ht=>?_,fun t c ht hc=>?_⟩
 ·unfold zaj;split
  ·simp
  ·rename_i he;refine⟨?_,(zjv _ _ _).imp (fun h=>by omega)⟩;rcases ht with h|⟨h1,h2⟩
   ·exact absurd h he
   ·have:=hd.ct _ h1;rw[h2] at this;exact this
 ·have hti:=zb0 ht;obtain⟨d,h1,h2,j,h3,h4⟩:=zct (a:=t.data) (k:=t.index) hti hc;have hco:=hW.ctor _ (zac h2) _ (zac h4);simp only[zbA,xad,decide_eq_true_eq] at hco;unfold zaa;rw[h1,h3];simp only[Int.toNat_natCast,xac];omega
abbrev intQ (n m:Int):Pat:= .mk 3 0 n m 0 []
abbrev za8 (c:Int) (l:List Pat):Pat:= .mk 4 c 0 0 0 l
def zbJ (w:List Data) (t:Ty) (c:Int):Pat:=za8 c ((zaa w t c).map fun _=>anyQ)
def lowQ (p:Pat):Int:=if p.op=1 then 0 else p.n
def zch (p:Pat):Int:=if p.op=1 then 9 else p.m
def minQ (a b:Int):Int:=if b<a then b else a
def maxQ (a b:Int):Int:=if a<b then b else a
def zbO (n m:Int):List Pat:=if n<=m then [intQ n m] else []
def zbL (f:Pat->Pat->Option Pat):List Pat->List Pat->List Pat->Option (List Pat)
 |p::r,q::s,acc=>match f p q with
  |none=>none
  |some x=>zbL f r s (acc++[x])
 |_,_,acc=>some acc
def zaE:Nat->Pat->Pat->Option Pat
 |0,_,_=>none
 |n+1,a,b=>if a.op=1 then some b else if b.op=1 then some a else if a.op=3 then (if maxQ a.n b.n<=minQ a.m b.m then some (intQ (maxQ a.n b.n) (minQ a.m b.m)) else none)
  else if a.ctor=b.ctor then (zbL (zaE n) a.kids b.kids []).map (za8 a.ctor) else none
def zaL (f:Ty->Pat->Pat->List Pat) (c:Int):List Ty->List Pat->List Pat->List Pat->List Pat
 |u::r,x::s,y::q,front=>(f u x y).map (fun z=>za8 c (front++[z]++s))++(match zaE 11 x y with
  |none=>[]
  |some both=>zaL f c r s q (front++[both]))
 |_,_,_,_=>[]
def zbZ (f:Ty->Pat->Pat->List Pat) (w:List Data) (t:Ty) (a b:Pat):List Pat:=if a.ctor=b.ctor then zaL f a.ctor (zaa w t a.ctor) a.kids b.kids [] else [a]
def zdM (a b:Pat):List Pat:=zbO (lowQ a) (minQ (zch a) (b.n-1))++zbO (maxQ (lowQ a) (b.m+1)) (zch a)
def zat (w:List Data):Nat->Ty->Pat->Pat->List Pat
 |0,_,_,_=>[]
 |n+1,t,a,b=>if b.op=1 then [] else if b.op=3 then zdM a b else if a.op=1 then (zaj w t).flatMap fun c=>zbZ (zat w n) w t (zbJ w t c) b else zbZ (zat w n) w t a b
section
variable {w:List Data}{n:Nat}{t:Ty}{a b:Pat}
theorem zeS (h:b.op=1):zat w (n+1) t a b=[]:=by unfold zat;rw[if_pos h]
theorem zgK (h:b.op=3):zat w (n+1) t a b=zdM a b:=by unfold zat;rw[if_neg (by omega),if_pos h]
theorem zfz (h:b.op=4) (h2:a.op=1):zat w (n+1) t a b=(zaj w t).flatMap fun c=>zbZ (zat w n) w t (zbJ w t c) b:=by
 conv=>lhs;unfold zat
 rw[if_neg (by omega),if_neg (by omega),if_pos h2]
theorem zcN (h:b.op=4) (h2:a.op=4):zat w (n+1) t a b=zbZ (zat w n) w t a b:=by
 conv=>lhs;unfold zat
 rw[if_neg (by omega),if_neg (by omega),if_neg (by omega)]
theorem zg2 (h:a.op=1):zaE (n+1) a b=some b:=by unfold zaE;rw[if_pos h]
theorem zia (h:a.op≠1) (h2:b.op=1):zaE (n+1) a b=some a:=by unfold zaE;rw[if_neg h,if_pos h2]
theorem zib (h:a.op=3) (h2:b.op≠1):zaE (n+1) a b=if maxQ a.n b.n<=minQ a.m b.m then some (intQ (maxQ a.n b.n) (minQ a.m b.m)) else none:=by
 conv=>lhs;unfold zaE
 rw[if_neg (by omega),if_neg h2,if_pos h]
theorem zg3 (h:a.op=4) (h2:b.op≠1) (hc:a.ctor=b.ctor):zaE (n+1) a b=(zbL (zaE n) a.kids b.kids []).map (za8 a.ctor):=by
 conv=>lhs;unfold zaE
 rw[if_neg (by omega),if_neg h2,if_neg (by omega),if_pos hc]
theorem zgJ (h:a.op=4) (h2:b.op≠1) (hc:¬a.ctor=b.ctor):zaE (n+1) a b=none:=by
 conv=>lhs;unfold zaE
 rw[if_neg (by omega),if_neg h2,if_neg (by omega),if_neg hc]
end
theorem zbC {w:List Data}{n:Nat}{t:Ty}{p:Pat} (h:zae w n t p=true) (h3:p.op=3):t.data = -1/\0<=p.n/\p.n<=p.m/\p.m<=9:=by
 have ho:=(zfB h).1;unfold ownP at ho;have:=(of_decide_eq_true ho).2.2.2.2;omega
theorem zaA {w:List Data}{n:Nat}{t:Ty}{p:Pat} (h:zae w n t p=true) (h4:p.op=4):p.ctor∈zaj w t/\t.data≠ -1/\p.kids.length=(zaa w t p.ctor).length/\p=za8 p.ctor p.kids:=by
 obtain⟨ho,hl⟩:=zfB h;have hm:=zcc ho h4;refine⟨hm,fun e=>by unfold zaj at hm;rw[if_pos e] at hm;simp at hm,by rw[za5 h4] at hl;exact hl, ?_⟩;unfold ownP at ho;have hh:=of_decide_eq_true ho;have h1:=hh.2.1 (by omega);have h2:=hh.2.2.1 (by omega);obtain⟨op,c,m,k,v,ks⟩:=p;change op=4 at h4
 change v=0 at h1
 change m=0/\k=0 at h2
 rw[h4,h1,h2.1,h2.2];rfl
theorem zok {w:List Data}{n:Nat}{t:Ty}{a b:Int} (ht:t.data = -1) (h0:0<=a) (h1:a<=b) (h2:b<=9):zae w (n+1) t (intQ a b)=true:=by
 unfold zae;have e:zag w t (intQ a b)=[]:=rfl;rw[e];have ho:ownP w t (intQ a b)=true:=by
  unfold ownP;refine decide_eq_true ⟨fun h=>?_,fun _=>rfl,fun h=>absurd rfl h,fun _=>rfl,.inr (.inr (.inr (.inr (.inl ⟨rfl,ht,h0,h1,h2⟩))))⟩;exfalso;change (3:Int)=2\/(3:Int)=6 at h;omega
 rw[ho];rfl
theorem ziu {w:List Data}{n:Nat}{t:Ty}{c:Int}{l:List Pat} (hc:c∈zaj w t) (hl:l.length=(zaa w t c).length) (hk:∀i,i<l.length->zae w n (nth (zaa w t c) i) (nth l i)=true):zae w (n+1) t (za8 c l)=true:=by
 unfold zae;have e:zag w t (za8 c l)=zaa w t c:=za5 rfl;have ho:ownP w t (za8 c l)=true:=by
  unfold ownP;refine decide_eq_true ⟨fun h=>?_,fun _=>rfl,fun _=>⟨rfl,rfl⟩,fun h=>absurd rfl h,.inr (.inr (.inr (.inr (.inr ⟨rfl,hc⟩))))⟩;exfalso;change (4:Int)=2\/(4:Int)=6 at h;omega
 rw[ho,e,zaF];exact zcf hl.symm (fun i hi=>hk i (by omega))
theorem zc4 {w:List Data}{n m:Nat} (h:n<=m){t:Ty}{p:Pat} (hp:zae w n t p=true):zae w m t p=true:=by
 induction h with
 |refl=>exact hp
 |step _ ih=>exact zf0 _ ih
theorem zcu {w:List Data}{n:Nat}{t:Ty}{c:Int} (hc:c∈zaj w t):zae w (n+2) t (zbJ w t c)=true:=by
 unfold zbJ;refine ziu hc (by simp) (fun i hi=>?_);have e:nth ((zaa w t c).map fun _=>anyQ) i=anyQ:=by
  rw[zaI hi];simp
 rw[e];exact zjh
theorem zmo {f:Pat->Pat->Option Pat}{a b:List Pat}{i:Nat}{acc:List Pat} (h1:i<a.length) (h2:i<b.length) (h:f (nth a i) (nth b i)=none):zbL f (a.drop i) (b.drop i) acc=none:=by
 rw[zaS h1,zaS h2,zbL,h]
theorem zmp {f:Pat->Pat->Option Pat}{a b:List Pat}{i:Nat}{acc:List Pat}{x:Pat} (h1:i<a.length) (h2:i<b.length) (h:f (nth a i) (nth b i)=some x):zbL f (a.drop i) (b.drop i) acc=zbL f (a.drop (i+1)) (b.drop (i+1)) (acc++[x]):=by
 rw[zaS h1,zaS h2,zbL,h]
theorem zeR {f:Pat->Pat->Option Pat}{a b:List Pat}{i:Nat}{acc:List Pat} (h1:a.length<=i):zbL f (a.drop i) (b.drop i) acc=some acc:=by
 rw[List.drop_eq_nil_of_le h1];cases b.drop i<;>rfl
theorem zfb {f:Pat->Pat->Option Pat}:∀ {a b acc l:List Pat},a.length=b.length->zbL f a b acc=some l->∃r,l=acc++r/\r.length=a.length/\∀i,i<a.length->f (nth a i) (nth b i)=some (nth r i)
 | [],[],acc,l,_,h=>by
  simp only[zbL,Option.some.injEq] at h;exact⟨[],by simp[h],rfl,fun i hi=>by simp at hi⟩
 |p::r,q::s,acc,l,hl,h=>by
  unfold zbL at h;cases hf:f p q with
  |none=>rw[hf] at h;cases h
  |some x=>
   rw[hf] at h;obtain⟨z,e,hz,hm⟩:=zfb (a:=r) (b:=s) (by simpa using hl) h;refine⟨x::z,by rw[e];simp,by simp[hz],fun i hi=>?_⟩;cases i with
   |zero=>exact hf
   |succ i=>exact hm i (by simpa using hi)
 | [],_::_,_,_,hl,_=>by simp at hl
 |_::_,[],_,_,hl,_=>by simp at hl
theorem zc5 {w:List Data}{n m:Nat}{t:Ty}{a b:Pat} (ha:zae w n t a=true) (hb:zae w m t b=true) (h1:a.op≠1) (h2:b.op≠1):a.op=b.op:=by
 have oa:=zbn ha;have ob:=zbn hb;rcases oa with h|h|h
 ·exact absurd h h1
 ·rcases ob with h' | h' | h'
  ·exact absurd h' h2
  ·omega
  ·exact absurd (zbC ha h).1 (zaA hb h').2.1
 ·rcases ob with h' | h' | h'
  ·exact absurd h' h2
  ·exact absurd (zbC hb h').1 (zaA ha h).2.1
  ·omega
theorem zrG (a b:Int):minQ a b<=a/\minQ a b<=b:=by unfold minQ;split<;>omega
theorem zrF (a b:Int):a<=maxQ a b/\b<=maxQ a b:=by unfold maxQ;split<;>omega
theorem zvV (a b:Int):minQ a b=a\/minQ a b=b:=by unfold minQ;split<;>omega
theorem zvU (a b:Int):maxQ a b=a\/maxQ a b=b:=by unfold maxQ;split<;>omega
theorem zoo {w:List Data}:∀(n m:Nat){t:Ty}{a b x:Pat},zae w m t a=true->zae w m t b=true->zaE n a b=some x->zae w m t x=true
 |0,m,t,a,b,x,_,_,h=>by simp[zaE] at h
 |n+1,0,t,a,b,x,ha,_,_=>by simp[zae] at ha
 |n+1,m+1,t,a,b,x,ha,hb,h=>by
  by_cases h1:a.op=1
  ·rw[zg2 h1] at h;cases h;exact hb
  by_cases h2:b.op=1
  ·rw[zia h1 h2] at h;cases h;exact ha
  have hs:=zc5 ha hb h1 h2;have oa:=zbn ha;by_cases h3:a.op=3
  ·rw[zib h3 h2] at h;split at h
   ·cases h
    have ia:=zbC ha h3;have ib:=zbC hb (by omega);have q1:=zvV a.m b.m;have q2:=zvU a.n b.n;refine zok ia.1 (by omega) (by assumption) (by omega)
   ·cases h
  have h4:a.op=4:=by omega
  by_cases hc:a.ctor=b.ctor
  ·rw[zg3 h4 h2 hc] at h;obtain⟨m1,m2,m3,m4⟩:=zaA ha h4;obtain⟨n1,n2,n3,n4⟩:=zaA hb (by omega);rw[<-hc] at n3;cases hl:zbL (zaE n) a.kids b.kids [] with
   |none=>rw[hl] at h;cases h
   |some l=>
    rw[hl] at h;simp only[Option.map_some,Option.some.injEq] at h;subst h;obtain⟨r,e,hr,hm⟩:=zfb (by omega) hl;rw[List.nil_append] at e;subst e;refine ziu m1 (by omega) (fun i hi=>?_);have ka:=zaN ha (i:=i) (by omega);have kb:=zaN hb (i:=i) (by omega);rw[za5 h4] at ka;rw[za5 (by omega),<-hc] at kb;exact zoo n m ka kb (hm i (by omega))
  ·rw[zgJ h4 h2 hc] at h;cases h
theorem zmM {w:List Data}{n:Nat}{t:Ty}{a b:Int} (ht:t.data = -1) (h0:0<=a) (h2:b<=9):∀x∈zbO a b,zae w (n+1) t x=true:=by
 intro x hx;unfold zbO at hx;split at hx
 ·rename_i h1;rw[List.mem_singleton] at hx;rw[hx];exact zok ht h0 h1 h2
 ·simp at hx
theorem zlg {w:List Data}{n:Nat}{t:Ty}{a:Pat} (ha:zae w n t a=true) (ht:t.data = -1):0<=lowQ a/\zch a<=9/\lowQ a<=zch a:=by
 have oa:=zbn ha;unfold lowQ zch;by_cases h1:a.op=1
 ·rw[if_pos h1,if_pos h1];omega
 ·rw[if_neg h1,if_neg h1];by_cases h3:a.op=3
  ·have:=zbC ha h3;omega
  ·exact absurd ht (zaA ha (by omega)).2.1
theorem zsh (a b:Pat):(zdM a b).length<=2:=by
 have h:∀x y,(zbO x y).length<=1:=fun x y=>by unfold zbO;split<;>simp
 unfold zdM;rw[xaa];have:=h (lowQ a) (minQ (zch a) (b.n-1));have:=h (maxQ (lowQ a) (b.m+1)) (zch a);omega
theorem zq1 {w:List Data}{f:Ty->Pat->Pat->List Pat}{m:Nat}{t:Ty}{c:Int} (hc:c∈zaj w t) (hf:∀u x y,zae w m u x=true->zae w m u y=true->∀z∈f u x y,zae w m u z=true):
  ∀(i:Nat){xs bs front:List Pat},front.length=i->xs.length+i=(zaa w t c).length->bs.length=xs.length->(∀j,j<i->zae w m (nth (zaa w t c) j) (nth front j)=true)->
   (∀j,j<xs.length->zae w m (nth (zaa w t c) (i+j)) (nth xs j)=true/\zae w m (nth (zaa w t c) (i+j)) (nth bs j)=true)->
   ∀x∈zaL f c ((zaa w t c).drop i) xs bs front,zae w (m+1) t x=true:=by
 intro i xs;induction xs generalizing i with
 |nil=>
  intro bs front _ _ _ _ _ x hx;cases hT:(zaa w t c).drop i<;>(rw[hT] at hx;simp[zaL] at hx)
 |cons a0 s ih=>
  intro bs front hfl hal hbl hfr hab x hx;cases bs with
  |nil=>simp at hbl
  |cons b0 q=>
   have hi:i<(zaa w t c).length:=by simp at hal;omega
   rw[zaS hi] at hx;have h0:=hab 0 (by simp);simp only[Nat.add_zero] at h0;have e0:nth (a0::s) 0=a0:=rfl;have e1:nth (b0::q) 0=b0:=rfl;rw[e0,e1] at h0;unfold zaL at hx;have hpiece:∀z,zae w m (nth (zaa w t c) i) z=true->∀j,j<(front++[z]++s).length->zae w m (nth (zaa w t c) j) (nth (front++[z]++s) j)=true:=fun z hz j hj=>by
    by_cases hj1:j<i
    ·have e:nth (front++[z]++s) j=nth front j:=by
      simp only[nth,List.getD,List.append_assoc];rw[List.getElem?_append_left (by omega)]
     rw[e];exact hfr j hj1
    ·by_cases hj2:j=i
     ·have e:nth (front++[z]++s) j=z:=by
       simp only[nth,List.getD,List.append_assoc];rw[List.getElem?_append_right (by omega),show j-front.length=0 by omega];rfl
      rw[e,hj2];exact hz
     ·obtain⟨k,rfl⟩:∃k,j=i+1+k:=⟨j-(i+1),by omega⟩;have e:nth (front++[z]++s) (i+1+k)=nth (a0::s) (k+1):=by
       simp only[nth,List.getD,List.append_assoc];rw[List.getElem?_append_right (by omega),show i+1+k-front.length=k+1 by omega];rfl
      rw[e];have:=(hab (k+1) (by simp at hj ⊢;omega)).1;rwa [show i+(k+1)=i+1+k by omega] at this
   rcases List.mem_append.1 hx with hx|hx
   ·obtain⟨z,hz,rfl⟩:=List.mem_map.1 hx;refine ziu hc (by simp at hal ⊢;omega) (hpiece z (hf _ _ _ h0.1 h0.2 z hz))
   ·cases hm:zaE 11 a0 b0 with
    |none=>rw[hm] at hx;simp at hx
    |some both=>
     rw[hm] at hx;have hbp:=zoo 11 m h0.1 h0.2 hm;refine ih (i+1) (bs:=q) (front:=front++[both]) (by simp[hfl]) (by simp at hal ⊢;omega) (by simpa using hbl) (fun j hj=>?_) (fun j hj=>?_) x hx
     ·have:=hpiece both hbp j (by simp;omega);have e:nth (front++[both]++s) j=nth (front++[both]) j:=by
       simp only[nth,List.getD];rw[List.getElem?_append_left (by simp;omega)]
      rwa [e] at this
     ·have:=hab (j+1) (by simpa using hj);rwa [show i+(j+1)=i+1+j by omega] at this
theorem zfd {w:List Data}:∀(n m:Nat){t:Ty}{a b:Pat},n<m->zae w m t a=true->zae w n t b=true->∀x∈zat w n t a b,zae w m t x=true
 |0,m,t,a,b,_,_,hb=>by simp[zae] at hb
 |n+1,0,t,a,b,hn,_,_=>by omega
 |n+1,m+1,t,a,b,hn,ha,hb=>by
  have ob:=zbn hb;have oa:=zbn ha;have hf:∀u x y,zae w m u x=true->zae w n u y=true->∀z∈zat w n u x y,zae w m u z=true:=fun u x y hx hy=>zfd n m (by omega) hx hy;have hcc:∀a,zae w (m+1) t a=true->a.op=4->b.op=4->∀x∈zbZ (zat w n) w t a b,zae w (m+1) t x=true:=fun a ha h4 h4b=>by
   obtain⟨m1,m2,m3,m4⟩:=zaA ha h4;obtain⟨n1,n2,n3,n4⟩:=zaA hb h4b;intro x hx;unfold zbZ at hx;split at hx
   ·rename_i hc;have key:=zq1 (w:=w) (f:=fun u x y=>if zae w m u x=true/\zae w n u y=true then zat w n u x y else []) (m:=m) (t:=t) (c:=a.ctor) m1 (fun u x y hx hy z hz=>by
     split at hz
     ·rename_i hh;exact hf u x y hh.1 hh.2 z hz
     ·simp at hz) 0 (xs:=a.kids) (bs:=b.kids) (front:=[]) rfl (by omega) (by rw[hc] at m3;omega) (fun j hj=>by omega) (fun j hj=>by
      have ka:=zaN ha (i:=j) hj;have kb:=zaN hb (i:=j) (by rw[hc] at m3;omega);rw[za5 h4] at ka;rw[za5 h4b,<-hc] at kb;rw[Nat.zero_add];exact⟨ka,zc4 (by omega) kb⟩) x
    refine key ?_;have e:∀(ts:List Ty) (xs bs front:List Pat),(∀j,j<ts.length->j<xs.length->j<bs.length->zae w m (nth ts j) (nth xs j)=true/\zae w n (nth ts j) (nth bs j)=true)->
      zaL (fun u x y=>if zae w m u x=true/\zae w n u y=true then zat w n u x y else []) a.ctor ts xs bs front=zaL (zat w n) a.ctor ts xs bs front:=by
     intro ts;induction ts with
     |nil=>intro xs bs front _;simp[zaL]
     |cons u r ih=>
      intro xs bs front h;cases xs with
      |nil=>simp[zaL]
      |cons x s=>
       cases bs with
       |nil=>simp[zaL]
       |cons y q=>
        have h0:=h 0 (by simp) (by simp) (by simp);change zae w m u x=true/\zae w n u y=true at h0
        unfold zaL;rw[if_pos h0];congr 1
        cases hmm:zaE 11 x y with
        |none=>rfl
        |some both=>exact ih s q (front++[both]) (fun j h1 h2 h3=>h (j+1) (by simpa using h1) (by simpa using h2) (by simpa using h3))
    rw[List.drop_zero,e _ _ _ _ (fun j h1 h2 h3=>?_)]
    ·exact hx
    ·have ka:=zaN ha (i:=j) h2;have kb:=zaN hb (i:=j) h3;rw[za5 h4] at ka;rw[za5 h4b,<-hc] at kb;exact⟨ka,kb⟩
   ·rw[List.mem_singleton] at hx;rw[hx];exact ha
  rcases ob with h1|h3|h4
  ·rw[zeS h1];simp
  ·rw[zgK h3];intro x hx;have hl:=zlg ha (zbC hb h3).1;have ib:=zbC hb h3;have q1:=zrG (zch a) (b.n-1);have q2:=zrF (lowQ a) (b.m+1);unfold zdM at hx;rcases List.mem_append.1 hx with h|h
   ·exact zmM ib.1 (by omega) (by omega) x h
   ·exact zmM ib.1 (by omega) (by omega) x h
  ·by_cases ha1:a.op=1
   ·rw[zfz h4 ha1];intro x hx;obtain⟨c,hc,hx⟩:=List.mem_flatMap.1 hx;refine hcc _ ?_ rfl h4 x hx;obtain⟨k,rfl⟩:∃k,m=k+1:=⟨m-1,by omega⟩;exact zcu hc
   ·have ha4:a.op=4:=by
     have:=zc5 ha hb ha1 (by omega);omega
    rw[zcN h4 ha4];exact hcc a ha ha4 h4
theorem zid {w:List Data} (hs:Spa w):∀(n:Nat){t:Ty}{p:Pat},InS (w.length*4) t->zae w n t p=true->p.ok/\p.size<=4 ^ n
 |0,t,p,_,h=>by simp[zae] at h
 |n+1,t,p,ht,h=>by
  have hk:=fun i (hi:i<p.kids.length)=>zaN h hi;have hl:=(zfB h).2;have op:=zbn h;have hpow:4 ^ (n+1)=4 ^ n*4:=rfl;have hpos:0<4 ^ n:=Nat.pow_pos (by omega);by_cases h4:p.op=4
  ·obtain⟨m1,m2,m3,m4⟩:=zaA h h4;have h3:=hs.args t p.ctor ht m1;rw[za5 h4] at hk;have ih:∀k∈p.kids,k.ok/\k.size<=4 ^ n:=fun k hkm=>by
    obtain⟨i,hi,rfl⟩:=List.getElem_of_mem hkm;have e:nth p.kids i=p.kids[i]:=zaI hi;have:=zid hs n (zbp hs.dp ht m1 _ (zac (i:=i) (by omega))) (hk i hi);rwa [e] at this
   have hz:=Pats.size_of (m:=4 ^ n) (fun k hk=>(ih k hk).2);rw[Pat.ok_iff,Pat.size_eq];refine⟨⟨by omega,Pats.ok_of (fun k hk=>(ih k hk).1)⟩, ?_⟩;have:p.kids.length*4 ^ n<=3*4 ^ n:=Nat.mul_le_mul_right _ (by omega);omega
  ·have hk0:p.kids=[]:=zdK (zgs _ h) h4 (by omega) (by omega);rw[Pat.ok_iff,Pat.size_eq,hk0];exact⟨⟨by simp,trivial⟩,by simp only[Pats.size];omega⟩
theorem zoa {α:Type}{g:Int->List α}{c0:Int}{X:Nat}:∀ {cs:List Int},cs.Nodup->(∀c∈cs,c≠c0->(g c).length<=1)->(g c0).length<=X->(cs.flatMap g).length<=cs.length+X
 | [],_,_,_=>by simp
 |c::r,hn,h1,h2=>by
  obtain⟨n1,n2⟩:=List.nodup_cons.1 hn;rw[List.flatMap_cons,xaa,xab];by_cases hc:c=c0
  ·have key:∀l:List Int,c0∉l->(∀x∈l,x≠c0->(g x).length<=1)->(l.flatMap g).length<=l.length:=by
    intro l;induction l with
    |nil=>intro _ _;simp
    |cons y s ih=>
     intro hm hh;rw[List.flatMap_cons,xaa,xab];have a1:=hh y (by simp) (fun e=>hm (by rw[e];simp));have a2:=ih (fun e=>hm (by simp[e])) (fun x hx=>hh x (by simp[hx]));omega
   have:=key r (by rw[<-hc];exact n1) (fun x hx=>h1 x (by simp[hx]));rw[hc];omega
  ·have a1:=h1 c (by simp) hc;have a2:=zoa (X:=X) n2 (fun x hx=>h1 x (by simp[hx])) h2;omega
theorem zmt {f:Ty->Pat->Pat->List Pat}{c:Int} (L:Pat->Nat):∀(ts:List Ty) (xs bs front:List Pat),(∀i,i<ts.length->i<xs.length->i<bs.length->(f (nth ts i) (nth xs i) (nth bs i)).length<=L (nth bs i))->(zaL f c ts xs bs front).length<=(bs.map L).sum
 | [],xs,bs,front,_=>by simp[zaL]
 |_::_,[],bs,front,_=>by simp[zaL]
 |_::_,_::_,[],front,_=>by simp[zaL]
 |u::r,x::s,y::q,front,h=>by
  have h0:=h 0 (by simp) (by simp) (by simp);change (f u x y).length<=L y at h0
  unfold zaL;rw[xaa,xac,xae,List.sum_cons];cases hm:zaE 11 x y with
  |none=>simp;omega
  |some both=>
   have:=zmt (c:=c) L r s q (front++[both]) (fun i h1 h2 h3=>h (i+1) (by simpa using h1) (by simpa using h2) (by simpa using h3));dsimp only;omega
theorem zsg {w:List Data}{f:Ty->Pat->Pat->List Pat}{t:Ty}{a b:Pat}{L:Pat->Nat} (h:∀i,i<(zaa w t a.ctor).length->i<a.kids.length->i<b.kids.length->(f (nth (zaa w t a.ctor) i) (nth a.kids i) (nth b.kids i)).length<=L (nth b.kids i)):
  (zbZ f w t a b).length<=if a.ctor=b.ctor then (b.kids.map L).sum else 1:=by
 unfold zbZ;split
 ·exact zmt L _ _ _ _ h
 ·simp
theorem sum4:∀l:List Pat,(l.map fun b=>4*b.size).sum=4*Pats.size l
 | []=>rfl
 |k::r=>by simp only[xae,List.sum_cons,Pats.size,sum4 r];omega
theorem zoq {w:List Data} (hs:Spa w):∀(n m:Nat){t:Ty}{a b:Pat},n<m->InS (w.length*4) t->zae w m t a=true->zae w n t b=true->(zat w n t a b).length<=4*b.size
 |0,m,t,a,b,_,_,_,hb=>by simp[zae] at hb
 |n+1,0,t,a,b,hn,_,_,_=>by omega
 |n+1,m+1,t,a,b,hn,ht,ha,hb=>by
  have ob:=zbn hb;have hz:=Pat.size_eq b;rcases ob with h1|h3|h4
  ·rw[zeS h1];simp
  ·rw[zgK h3];have:=zsh a b;omega
  ·obtain⟨n1,n2,n3,n4⟩:=zaA hb h4;have hcc:∀a,zae w (m+1) t a=true->a.op=4->(zbZ (zat w n) w t a b).length<=if a.ctor=b.ctor then 4*Pats.size b.kids else 1:=fun a ha h4a=>by
    obtain⟨m1,m2,m3,m4⟩:=zaA ha h4a;rw[<-sum4];by_cases hc:a.ctor=b.ctor
    ·have:=zsg (w:=w) (f:=zat w n) (t:=t) (a:=a) (b:=b) (L:=fun b=>4*b.size) (fun i h1 h2 h3=>by
      have ka:=zaN ha (i:=i) h2;have kb:=zaN hb (i:=i) h3;rw[za5 h4a] at ka;rw[za5 h4,<-hc] at kb;exact zoq hs n m (by omega) (zbp hs.dp ht m1 _ (zac h1)) ka kb)
     exact this
    ·unfold zbZ;rw[if_neg hc,if_neg hc];simp
   by_cases ha1:a.op=1
   ·rw[zfz h4 ha1];obtain⟨c1,c2⟩:=hs.ctors t ht;have hw:∀c,c∈zaj w t->(zbZ (zat w n) w t (zbJ w t c) b).length<=if c=b.ctor then 4*Pats.size b.kids else 1:=fun c hc=>by
     obtain⟨k,rfl⟩:∃k,m=k+1:=⟨m-1,by omega⟩;exact hcc _ (zcu hc) rfl
    have:=zoa (g:=fun c=>zbZ (zat w n) w t (zbJ w t c) b) (c0:=b.ctor) (X:=4*Pats.size b.kids) c2 (fun c hc hne=>by have:=hw c hc;rwa [if_neg hne] at this) (by have:=hw _ n1;rwa [if_pos rfl] at this);omega
   ·have ha4:a.op=4:=by have:=zc5 ha hb ha1 (by omega);omega
    rw[zcN h4 ha4];have:=hcc a ha ha4;split at this<;>omega
theorem zlA {α β:Type} [Inhabited α] [Inhabited β]{f:α->β->Bool}:∀ {a:List α}{b:List β},a.length=b.length->all2 f a b=false->∃i,i<a.length/\f (nth a i) (nth b i)=false
 | [],[],_,h=>by simp[all2] at h
 |x::r,y::s,hl,h=>by
  simp only[all2,Bool.and_eq_false_iff] at h;rcases h with h|h
  ·exact⟨0,by simp,h⟩
  ·obtain⟨i,h1,h2⟩:=zlA (by simpa using hl) h;exact⟨i+1,by simpa using h1,h2⟩
 | [],_::_,hl,_=>by simp at hl
 |_::_,[],hl,_=>by simp at hl
theorem zeN {w:List Data}{f:Nat->Nat}{n:Nat}{t:Ty}{p:Pat} (h:p.op=1):zaQ w f (n+1) t p=decide (dv f t=0):=by rw[zfM,if_pos (.inl h)]
theorem zkj {w:List Data}{f:Nat->Nat}{n m:Nat}{t:Ty}{p:Pat} (hp:zae w m t p=true) (h:p.op=3):zaQ w f (n+1) t p=false:=by
 rw[zfM,if_neg (by omega),if_neg (by omega)];have e:zag w t p=[]:=by unfold zag;rw[if_neg (by omega),if_neg (by omega),if_neg (by omega)]
 have hl:=(zfB hp).2;rw[e] at hl ⊢;rw[List.eq_nil_of_length_eq_zero hl];rfl
theorem zh3 {w:List Data}{f:Nat->Nat}{n:Nat}{t:Ty}{p:Pat} (h:p.op=4):zaQ w f (n+1) t p = !(all2 (fun u q=> !zaQ w f n u q) (zaa w t p.ctor) p.kids):=by
 rw[zfM,if_neg (by omega),if_neg (by omega),za5 h]
theorem zkY {w:List Data}{f:Nat->Nat}{n m:Nat}{t:Ty}{p:Pat} (hp:zae w m t p=true) (h:p.op=4) (hd:zaQ w f (n+1) t p=true):∃i,i<p.kids.length/\zaQ w f n (nth (zaa w t p.ctor) i) (nth p.kids i)=true:=by
 rw[zh3 h] at hd;have hl:=(zaA hp h).2.2.1;obtain⟨i,h1,h2⟩:=zlA (a:=zaa w t p.ctor) (b:=p.kids) (f:=fun u q=> !zaQ w f n u q) hl.symm (by simpa using hd);exact⟨i,by omega,by simpa using h2⟩
theorem zg1 {w:List Data}{f:Nat->Nat}{n:Nat}{t:Ty}{c:Int}{l:List Pat}{i:Nat} (hi:i<l.length) (hl:l.length=(zaa w t c).length) (hd:zaQ w f n (nth (zaa w t c) i) (nth l i)=true):zaQ w f (n+1) t (za8 c l)=true:=by
 rw[zh3 rfl];have:=zb1 (f:=fun u q=> !zaQ w f n u q) (a:=zaa w t c) (b:=l) (i:=i) (by omega) hl.symm (by rw[hd];rfl);show(!all2 (fun u q=> !zaQ w f n u q) (zaa w t c) l)=true
 rw[this];rfl
theorem zxu {w:List Data} (hd:Dp w){t:Ty}{c:Int} (ht:InS (w.length*4) t) (hc:c∈zaj w t) (h0:dv (zal w) t=0):∃i,i<(zaa w t c).length/\dv (zal w) (nth (zaa w t c) i)=0:=by
 by_cases hx:∃i,i<(zaa w t c).length/\dv (zal w) (nth (zaa w t c) i)=0
 ·exact hx
 ·exfalso;have a:Snd w (zal w)/\Cmp w (w.length*4+1) (zal w):=zcQ hd.cl (w.length*4+1);have hdt:t.data≠ -1:=fun e=>by unfold zaj at hc;rw[if_pos e] at hc;simp at hc
  have hb:∀u∈zaa w t c,Hd w (w.length*4+1) u:=fun u hu=>by
   obtain⟨i,hi,rfl⟩:=List.getElem_of_mem hu;have hpos:0<dv (zal w) (zaa w t c)[i]:=by
    have e:nth (zaa w t c) i=(zaa w t c)[i]:=zaI hi;rcases Nat.eq_zero_or_pos (dv (zal w) (zaa w t c)[i]) with h|h
    ·exact absurd ⟨i,hi,by rw[e];exact h⟩ hx
    ·exact h
   have hin:=zbp hd ht hc _ hu;have h1:=zlZ a.1 hin hpos;rcases hin with h2|⟨h2,h3⟩
   ·exact .inl h2
   ·rw[<-h3] at h1 ⊢;exact zl9 hd.cl h2 h1
  have h2:Hd w (w.length*4+2) t:= .inr ⟨c,zkb hc,hdt,hb⟩;rcases ht with h3|⟨h3,h4⟩
  ·exact hdt h3
  ·rw[<-h4] at h2;have h5:=zl9 hd.cl h3 h2;rw[h4] at h5;have:=(zjx a.2 (.inr ⟨h3,h4⟩) h5).1;omega
section
variable {w:List Data} (hs:Spa w)
include hs
theorem zjw:∀(n:Nat){t:Ty}{p:Pat},InS (w.length*4) t->zae w n t p=true->dv (zal w) t=0->zaQ w (zal w) n t p=true
 |0,t,p,_,h,_=>by simp[zae] at h
 |n+1,t,p,ht,h,h0=>by
  rcases zbn h with h1|h3|h4
  ·rw[zeN h1];exact decide_eq_true h0
  ·have:=(zbC h h3).1;unfold dv at h0;rw[if_pos this] at h0;omega
  ·obtain⟨m1,m2,m3,m4⟩:=zaA h h4;obtain⟨i,h5,h6⟩:=zxu hs.dp ht m1 h0;rw[m4];have hk:=zaN h (i:=i) (by omega);rw[za5 h4] at hk;exact zg1 (by omega) m3 (zjw n (zbp hs.dp ht m1 _ (zac h5)) hk h6)
theorem zon:∀(n k:Nat){t:Ty}{a b x:Pat},InS (w.length*4) t->zae w n t a=true->zae w n t b=true->zaQ w (zal w) n t a=true->zaE k a b=some x->zaQ w (zal w) n t x=true
 |0,k,t,a,b,x,_,h,_,_,_=>by simp[zae] at h
 |n+1,0,t,a,b,x,_,_,_,_,h=>by simp[zaE] at h
 |n+1,k+1,t,a,b,x,ht,ha,hb,hd,h=>by
  by_cases h1:a.op=1
  ·rw[zg2 h1] at h;cases h;rw[zeN h1] at hd;exact zjw hs (n+1) ht hb (of_decide_eq_true hd)
  by_cases h2:b.op=1
  ·rw[zia h1 h2] at h;cases h;exact hd
  by_cases h3:a.op=3
  ·rw[zkj ha h3] at hd;cases hd
  have h4:a.op=4:=by have:=zbn ha;omega
  have hso:=zc5 ha hb h1 h2;by_cases hc:a.ctor=b.ctor
  ·rw[zg3 h4 h2 hc] at h;obtain⟨m1,m2,m3,m4⟩:=zaA ha h4;obtain⟨n1,n2,n3,n4⟩:=zaA hb (by omega);rw[<-hc] at n3;cases hl:zbL (zaE k) a.kids b.kids [] with
   |none=>rw[hl] at h;cases h
   |some l=>
    rw[hl] at h;simp only[Option.map_some,Option.some.injEq] at h;subst h;obtain⟨r,e,hr,hm⟩:=zfb (by omega) hl;rw[List.nil_append] at e;subst e;obtain⟨i,hi,hde⟩:=zkY ha h4 hd;have ka:=zaN ha (i:=i) hi;have kb:=zaN hb (i:=i) (by omega);rw[za5 h4] at ka;rw[za5 (by omega),<-hc] at kb;exact zg1 (i:=i) (by omega) (by omega) (zon n k (zbp hs.dp ht m1 _ (zac (by omega))) ka kb hde (hm i hi))
  ·rw[zgJ h4 h2 hc] at h;cases h
theorem zq0 {f:Ty->Pat->Pat->List Pat}{m:Nat}{t:Ty}{c:Int} (ht:InS (w.length*4) t) (hc:c∈zaj w t):
  ∀(i:Nat){xs bs front:List Pat},front.length=i->xs.length+i=(zaa w t c).length->bs.length=xs.length->
   (∀j,j<xs.length->zae w m (nth (zaa w t c) (i+j)) (nth xs j)=true/\zae w m (nth (zaa w t c) (i+j)) (nth bs j)=true/\(zaQ w (zal w) m (nth (zaa w t c) (i+j)) (nth xs j)=true->∀z∈f (nth (zaa w t c) (i+j)) (nth xs j) (nth bs j),zaQ w (zal w) m (nth (zaa w t c) (i+j)) z=true))->
   ((∃j,j<i/\zaQ w (zal w) m (nth (zaa w t c) j) (nth front j)=true)\/∃j,j<xs.length/\zaQ w (zal w) m (nth (zaa w t c) (i+j)) (nth xs j)=true)->
   ∀x∈zaL f c ((zaa w t c).drop i) xs bs front,zaQ w (zal w) (m+1) t x=true:=by
 intro i xs;induction xs generalizing i with
 |nil=>
  intro bs front _ _ _ _ _ x hx;cases hT:(zaa w t c).drop i<;>(rw[hT] at hx;simp[zaL] at hx)
 |cons a0 s ih=>
  intro bs front hfl hal hbl hab hde x hx;cases bs with
  |nil=>simp at hbl
  |cons b0 q=>
   have hi:i<(zaa w t c).length:=by simp at hal;omega
   rw[zaS hi] at hx;have h0:=hab 0 (by simp);simp only[Nat.add_zero] at h0;have e0:nth (a0::s) 0=a0:=rfl;have e1:nth (b0::q) 0=b0:=rfl;rw[e0,e1] at h0;unfold zaL at hx;have f1:∀z j,j<i->nth (front++[z]++s) j=nth front j:=fun z j hj=>by
    simp only[nth,List.getD,List.append_assoc];rw[List.getElem?_append_left (by omega)]
   have f2:∀z,nth (front++[z]++s) i=z:=fun z=>by
    simp only[nth,List.getD,List.append_assoc];rw[List.getElem?_append_right (by omega),show i-front.length=0 by omega];rfl
   have f3:∀z k,nth (front++[z]++s) (i+1+k)=nth (a0::s) (k+1):=fun z k=>by
    simp only[nth,List.getD,List.append_assoc];rw[List.getElem?_append_right (by omega),show i+1+k-front.length=k+1 by omega];rfl
   have hfl2:∀z,(front++[z]++s).length=(zaa w t c).length:=fun z=>by simp at hal ⊢;omega
   rcases List.mem_append.1 hx with hx|hx
   ·obtain⟨z,hz,rfl⟩:=List.mem_map.1 hx;rcases hde with ⟨j,hj,hd⟩|⟨j,hj,hd⟩
    ·exact zg1 (i:=j) (by rw[hfl2];omega) (hfl2 z) (by rw[f1 z j hj];exact hd)
    ·cases j with
     |zero=>exact zg1 (i:=i) (by rw[hfl2];omega) (hfl2 z) (by rw[f2 z];exact h0.2.2 hd z hz)
     |succ k=>exact zg1 (i:=i+1+k) (by rw[hfl2];simp at hj;simp at hal;omega) (hfl2 z) (by rw[f3 z k,show i+1+k=i+(k+1) by omega];exact hd)
   ·cases hm:zaE 11 a0 b0 with
    |none=>rw[hm] at hx;simp at hx
    |some both=>
     rw[hm] at hx;refine ih (i+1) (bs:=q) (front:=front++[both]) (by simp[hfl]) (by simp at hal ⊢;omega) (by simpa using hbl) (fun j hj=>?_) ?_ x hx
     ·have:=hab (j+1) (by simpa using hj);rwa [show i+(j+1)=i+1+j by omega] at this
     ·rcases hde with ⟨j,hj,hd⟩|⟨j,hj,hd⟩
      ·refine .inl ⟨j,by omega, ?_⟩;have e:nth (front++[both]) j=nth front j:=by
        simp only[nth,List.getD];rw[List.getElem?_append_left (by omega)]
       rw[e];exact hd
      ·cases j with
       |zero=>
        refine .inl ⟨i,by omega, ?_⟩;have e:nth (front++[both]) i=both:=by
         simp only[nth,List.getD];rw[List.getElem?_append_right (by omega),show i-front.length=0 by omega];rfl
        rw[e];exact zon hs m 11 (zbp hs.dp ht hc _ (zac hi)) h0.1 h0.2.1 hd hm
       |succ k=>
        refine .inr ⟨k,by simpa using hj, ?_⟩;rw[show i+1+k=i+(k+1) by omega];exact hd
theorem zmv:∀(n m:Nat){t:Ty}{a b:Pat},n<m->InS (w.length*4) t->zae w m t a=true->zae w n t b=true->zaQ w (zal w) m t a=true->∀x∈zat w n t a b,zaQ w (zal w) m t x=true
 |0,m,t,a,b,_,_,_,hb,_=>by simp[zae] at hb
 |n+1,0,t,a,b,hn,_,_,_,_=>by omega
 |n+1,m+1,t,a,b,hn,ht,ha,hb,hd=>by
  have hcc:∀a,zae w (m+1) t a=true->a.op=4->b.op=4->zaQ w (zal w) (m+1) t a=true->∀x∈zbZ (zat w n) w t a b,zaQ w (zal w) (m+1) t x=true:=fun a ha h4 h4b hd=>by
   obtain⟨m1,m2,m3,m4⟩:=zaA ha h4;obtain⟨n1,n2,n3,n4⟩:=zaA hb h4b;intro x hx;unfold zbZ at hx;split at hx
   ·rename_i hc;obtain⟨j,hj,hdj⟩:=zkY ha h4 hd;refine zq0 hs ht m1 0 (xs:=a.kids) (bs:=b.kids) (front:=[]) rfl (by omega) (by rw[hc] at m3;omega) (fun j hj=>?_) (.inr ⟨j,hj,by rw[Nat.zero_add];exact hdj⟩) x hx;have ka:=zaN ha (i:=j) hj;have kb:=zaN hb (i:=j) (by rw[hc] at m3;omega);rw[za5 h4] at ka;rw[za5 h4b,<-hc] at kb;rw[Nat.zero_add];exact⟨ka,zc4 (by omega) kb,fun hdk z hz=>zmv n m (by omega) (zbp hs.dp ht m1 _ (zac (by omega))) ka kb hdk z hz⟩
   ·rw[List.mem_singleton] at hx;rw[hx];exact hd
  rcases zbn hb with h1|h3|h4
  ·rw[zeS h1];simp
  ·have hl:=zlg ha (zbC hb h3).1;rcases zbn ha with h|h|h
   ·rw[zeN h] at hd;have:=of_decide_eq_true hd;unfold dv at this;rw[if_pos (zbC hb h3).1] at this;omega
   ·rw[zkj ha h] at hd;cases hd
   ·exact absurd (zbC hb h3).1 (zaA ha h).2.1
  ·by_cases ha1:a.op=1
   ·rw[zfz h4 ha1];rw[zeN ha1] at hd;intro x hx;obtain⟨c,hc,hx⟩:=List.mem_flatMap.1 hx;obtain⟨k,rfl⟩:∃k,m=k+1:=⟨m-1,by omega⟩;exact hcc _ (zcu hc) rfl h4 (zjw hs _ ht (zcu hc) (of_decide_eq_true hd)) x hx
   ·have ha4:a.op=4:=by have:=zc5 ha hb ha1 (by omega);omega
    rw[zcN h4 ha4];exact hcc a ha ha4 h4 hd
end
def zbh (w:List Data) (t:Ty) (p:Pat):Bool:= !zaQ w (zal w) 11 t p
def zbR (w:List Data) (t:Ty) (l:List Pat) (b:Pat):List Pat:=(l.flatMap fun a=>zat w 10 t a b).filter (zbh w t)
def subL (w:List Data) (t:Ty):List Pat->List Pat->Option (List Pat)
 |l,[]=>some l
 |l,b::r=>if (zbR w t l b).length<=400 then subL w t (zbR w t l b) r else none
def zay (w:List Data) (t:Ty) (l away:List Pat):Option (List Pat):=subL w t (l.filter (zbh w t)) away
theorem zqb {w:List Data} (hs:Spa w){t:Ty} (ht:InS (w.length*4) t){l:List Pat}{b:Pat} (hl:∀a∈l,zae w 11 t a=true) (hb:zae w 10 t b=true):zbR w t (l.filter (zbh w t)) b=zbR w t l b:=by
 unfold zbR;induction l with
 |nil=>rfl
 |cons a r ih=>
  have ih':=ih (fun x hx=>hl x (by simp[hx]));rw[List.flatMap_cons,List.filter_append];by_cases h:zbh w t a=true
  ·rw[List.filter_cons_of_pos h,List.flatMap_cons,List.filter_append,ih']
  ·rw[List.filter_cons_of_neg h,ih'];have hd:zaQ w (zal w) 11 t a=true:=by unfold zbh at h;simpa using h
   have:(zat w 10 t a b).filter (zbh w t)=[]:=by
    rw[List.filter_eq_nil_iff];intro x hx;have:=zmv hs 10 11 (by omega) ht (hl a (by simp)) hb hd x hx;unfold zbh;rw[this];simp
   rw[this,List.nil_append]
theorem zkO {w:List Data}{t:Ty}{l:List Pat}{b:Pat}:(zbR w t l b).filter (zbh w t)=zbR w t l b:=by
 unfold zbR;rw[List.filter_filter];simp
theorem zm7 {w:List Data}{t:Ty}:∀(away:List Pat){l:List Pat},l.filter (zbh w t)=l->(subL w t l away).map (List.filter (zbh w t))=subL w t l away
 | [],l,h=>by simp only[subL,Option.map_some,h]
 |b::r,l,h=>by
  unfold subL;split
  ·exact zm7 r zkO
  ·rfl
theorem ztX {w:List Data} (hs:Spa w){t:Ty} (ht:InS (w.length*4) t){l away:List Pat} (hl:∀a∈l,zae w 11 t a=true) (hb:∀b∈away,zae w 10 t b=true):(subL w t l away).map (List.filter (zbh w t))=zay w t l away:=by
 unfold zay;cases away with
 |nil=>rfl
 |cons b r=>
  unfold subL;rw[zqb hs ht hl (hb b (by simp))];split
  ·exact zm7 r zkO
  ·rfl
theorem zei {w:List Data}{t:Ty}{l:List Pat}{b:Pat} (hl:∀a∈l,zae w 11 t a=true) (hb:zae w 10 t b=true):∀x∈zbR w t l b,zae w 11 t x=true:=fun x hx=>by
 unfold zbR at hx;obtain⟨a,ha,hx⟩:=List.mem_flatMap.1 (List.mem_filter.1 hx).1;exact zfd 10 11 (by omega) (hl a ha) hb x hx
theorem zln {n:Nat} (h0:0<n) (hb:n<=1000000):FnD Tryz.prog 317 [.nils,.d (.i (n:Int))] [] (.gv 9 []) [(9,some (.tok 0 6))]:=by
 refine bd Tryz.f317 27 [12,24] [] fun w0 F0 own kept hk=>?_;refine sq ?_ ?_<;>intro h1 h1p h1s<;>(try simp only[Q] at h1p);exfalso;omega;refine Walk.capN sl34 .none rfl rfl ?_;refine evs [12,24] [] ?_;refine Walk.lenN sl34 .none rfl rfl ?_;refine evs [12,24] [] ?_;refine ar ?_;refine ar ?_;refine sq ?_ ?_<;>intro h2 h2p h2s<;>(try simp only[Q] at h2p);refine Walk.capN sl34 .none rfl rfl ?_;refine Walk.cutN_h sl34 .none rfl rfl rfl ?_;refine evs [12,24] [] ?_;refine Walk.growZ (n:=n) 8 sl34 Tryz.underlying3 tz36 rfl (by decide) rfl .none rfl rfl rfl (by simp) h0 (by omega) (by omega) rfl ?_;refine evs [12,24] [] ?_;refine Walk.lenN sl34 .none rfl rfl ?_;refine xaN 9 (b:=0) sl34 .none rfl rfl (zcW rfl (by(simp;done))) rfl rfl (Nat.zero_le _) (by rw[List.length_replicate];exact h0) rfl ?_;refine evs [12,24] [] ?_;focus (refine rn [(9,some (.tok 0 6))] (r1 rfl) (.gvg ?_) ⟨rfl,rfl⟩ (SubH.get ⟨rfl,trivial⟩) (zaC rfl);all_goals (rfl))
 focus (exfalso;simp at h2;all_goals omega)
abbrev zvh (ls:List (List Pat)):D:= .sl (ls.map fun l=>[zad l])
theorem zjZ {ls:List (List Pat)} (hl:ls.length<=1000) (h0:0<ls.flatten.length) (hb:ls.flatten.length<=1000000):FnD Tryz.prog 247 [.d (zvh ls)] [] (.d (zad ls.flatten)) []:=by
 have key:∀ {pre rest:List (List Pat)}{y:List Pat},pre++y::rest=ls->pre.flatten.length+y.length<=ls.flatten.length:=fun h=>by
  rw[<-h];simp
 refine FnD.gvD (i:=9) (k:=6) ?_;refine bd Tryz.f247 36 [] [] fun w0 F0 own kept hk=>?_;refine xak (ι:=List (List Pat)×List (List Pat)) hk (fun x=>[(11,.d (.i (x.1.length:Int))),(3,.d (.i (x.1.flatten.length:Int)))]) [5,12,13,14,15,16,17,18,19,20,21,22] (fun x=>[]) (fun x=>x.1++x.2=ls) (fun x=>x.2.length) ([],ls) (by simp) ⟨⟨_,rfl,xaq ?_⟩,⟨⟨_,rfl,xaq ?_⟩,trivial⟩⟩ trivial (fun x=>rfl) (fun x hg1=>?_);iterate 2 focus (rfl)
 obtain⟨pre,rest⟩:=x;dsimp only at hg1 ⊢;refine evc [] [] ?_;refine sq ?_ ?_<;>intro h1 h1p h1s<;>(try simp only[Q,Pat.cs_len] at h1p);rcases rest with _|⟨y,rest⟩
 ·exfalso;simp_all
 refine xaS zdT .none rfl rfl rfl rfl (zaK hg1) rfl ?_;refine ev ?_;refine ar ?_ (by(have h9:=key hg1;constructor<;>first|omega|(simp only[Pat.cs_len];omega)));refine sq ?_ ?_<;>intro h2 h2p h2s<;>(try simp only[Q,Pat.cs_len] at h2p);exfalso;have:=key hg1;omega;refine ar ?_ (by(have h9:=key hg1;constructor<;>first|omega|(simp only[Pat.cs_len];omega)));refine xah ((pre++[y],rest)) ⟨(by have hz:=hg1;rw[<-hz];simp),(by simp),sx ⟨⟨_,rfl,xaq ?_⟩,⟨⟨_,rfl,xaq ?_⟩,trivial⟩⟩ trivial⟩;iterate 2 focus ((simp[Pat.cs_len];done))
 have hrest:rest=[]:=by
  rcases rest with _|⟨a,b⟩
  ·rfl
  ·exfalso;have hz:=congrArg List.length (hg1);simp only[xaa,xab,xac] at hz;omega
 subst hrest;refine Walk.call (cr:=[9]) zw0 (zln (n:=pre.flatten.length) (by rw[List.append_nil] at hg1;rw[hg1];exact h0) (by rw[List.append_nil] at hg1;rw[hg1];exact hb)) rfl .none rfl rfl (LeL.refl _) trivial rfl rfl rfl ?_;refine ev ?_;refine xak (ι:=List (List Pat)×List (List Pat)) hk (fun x=>[(27,.d (.i (x.1.length:Int))),(6,.gv 9 (Pat.cs x.1.flatten))]) [8,28,29,30,31,32,33,34] (fun x=>[(9,some (.tok (Pat.cs x.1.flatten).length 6))]) (fun x=>x.1++x.2=ls) (fun x=>x.2.length) ([],ls) (by simp) ⟨⟨_,rfl,xaq ?_⟩,⟨⟨_,rfl,LeA.gvg ?_⟩,trivial⟩⟩ ⟨zab ?_,trivial⟩ (fun x=>rfl) (fun x hg2=>?_);iterate 3 focus (rfl)
 obtain⟨pre,rest⟩:=x;dsimp only at hg2 ⊢;refine evc [] [] ?_;refine sq ?_ ?_<;>intro h3 h3p h3s<;>(try simp only[Q,Pat.cs_len] at h3p);rcases rest with _|⟨y,rest⟩
 ·exfalso;simp_all
 refine xaS zdT .none rfl rfl rfl rfl (zaK hg2) rfl ?_;refine ev ?_;refine xaC sl34 zz36 .none rfl rfl rfl rfl (zcW rfl (by rfl)) (by exact zbD _) (by have:=key hg2;simp only[Pat.cs_len];omega) (by have:=key hg2;simp only[Pat.cs_len];omega) ?_;refine ev ?_;refine ar ?_ (by(constructor<;>omega));refine xah ((pre++[y],rest)) ⟨(by have hz:=hg2;rw[<-hz];simp),(by simp),sx ⟨⟨_,rfl,xaq ?_⟩,⟨⟨_,rfl,LeA.gvg ?_⟩,trivial⟩⟩ ⟨zab ?_,trivial⟩⟩;iterate 3 focus ((simp[xat];done))
 have hrest:rest=[]:=by
  rcases rest with _|⟨a,b⟩
  ·rfl
  ·exfalso;have hz:=congrArg List.length (hg2);simp only[xaa,xab,xac] at hz;omega
 subst hrest;refine rn [(9,some (.tok (Pat.cs ls.flatten).length 6))] (r1 rfl) (.gvg ?_) ⟨rfl,rfl⟩ (SubH.get ⟨?_,trivial⟩) (zaC rfl);rotate_left 2;all_goals ((rw[List.append_nil] at hg2;subst hg2;rfl))
def zbw (l:List Int):Nat->List Pat
 |0=>[]
 |n+1=>zbw l n++zbO (nth l (2*n)) (nth l (2*n+1))
theorem zjT (l:List Int):∀n,(zbw l n).length<=n
 |0=>by simp[zbw]
 |n+1=>by
  have:=zjT l n;simp only[zbw,zbO,xaa];split<;>simp<;>omega
theorem zjU {l:List Int}{n:Nat} (h:nth l (2*n)<=nth l (2*n+1)):zbw l (n+1)=zbw l n++[intQ (nth l (2*n)) (nth l (2*n+1))]:=by simp[zbw,zbO,h]
theorem zq4 {l:List Int}{n:Nat} (h:¬nth l (2*n)<=nth l (2*n+1)):zbw l (n+1)=zbw l n:=by simp only[zbw,zbO,if_neg h,List.append_nil]
theorem zqm (a b:Int):zbw [a,b] 1=zbO a b:=by simp[zbw,nth]
theorem zuH (a b c d:Int):zbw [a,b,c,d] 2=zbO a b++zbO c d:=by simp[zbw,nth]
theorem zme {p:Pat}:FnD Tryz.prog 244 [.agg [.d (.i p.op),.d (.i p.ctor),.d (.i p.n),.d (.i p.m),.d (.i p.var),.d (zad p.kids)]] [] (.tup [.d (.i (lowQ p)),.d (.i (zch p))]) []:=by
 by_cases h:p.op=1
 ·have e1:lowQ p=0:=if_pos h;have e2:zch p=9:=if_pos h;rw[e1,e2];refine bd Tryz.f244 11 [] [] fun w0 F0 own kept hk=>?_;refine bx 3001 ?_;refine ev ?_;refine sq ?_ ?_<;>intro h1 h1p h1s<;>(try simp only[Q] at h1p);focus (refine rn0 (r2 rfl rfl) (.tup (.cons (.eqd ?_) (.cons (.eqd ?_) .nil)));all_goals (rfl))
  exfalso;omega
 ·skip
  have e1:lowQ p=p.n:=if_neg h;have e2:zch p=p.m:=if_neg h;rw[e1,e2];refine bd Tryz.f244 11 [] [] fun w0 F0 own kept hk=>?_;refine bx 3001 ?_;refine ev ?_;refine sq ?_ ?_<;>intro h1 h1p h1s<;>(try simp only[Q] at h1p);exfalso;omega;refine dr ?_;focus (refine rn0 (r2 rfl rfl) (.tup (.cons (.eqd ?_) (.cons (.eqd ?_) .nil)));all_goals (rfl))
theorem zfy {l:List Int}{n:Nat} (hl:l.length=2*n) (hb:n<=1000):FnD Tryz.prog 245 [.d (zbB l)] [] (.d (zad (zbw l n))) []:=by
 refine bd Tryz.f245 35 [3] [] fun w0 F0 own kept hk=>?_;refine xaD 9 6 .none rfl rfl ?_;refine tv ?_;refine xak (ι:=Nat) hk (fun i=>[(4,.d (.i ((2*i:Nat):Int))),(3,.gl 9 (Pat.cs (zbw l i)))]) [5,6,7,8,9,10,11,12,13,14,15,16,17,18,19,20,21,22,23,24,25,26,27,28,29,30,31,32,33] (fun i=>[(9,some (.tok ((Pat.cs (zbw l i))).length 6))]) (fun i=>i<=n) (fun i=>n-i) 0 (by omega) ⟨⟨_,rfl,xaq ?_⟩,⟨⟨_,rfl,LeA.glg ?_⟩,trivial⟩⟩ ⟨zab ?_,trivial⟩ (fun x=>rfl) (fun i hg1=>?_);iterate 3 focus (rfl)
 refine evc [3] [] ?_;refine sq ?_ ?_<;>intro h1 h1p h1s<;>(try simp only[Q] at h1p);refine xaS (i:=2*i) sl29 .none rfl rfl rfl rfl (zap (by omega)) rfl ?_;refine evd [3] [] ?_;refine ar ?_;refine xaS (i:=2*i+1) sl29 .none rfl rfl rfl rfl (zap (by omega)) rfl ?_;refine evd [3] [] ?_;refine dr ?_;refine sq ?_ ?_<;>intro h2 h2p h2s<;>(try simp only[Q] at h2p);refine xaS (i:=2*i) sl29 .none rfl rfl rfl rfl (zap (by omega)) rfl ?_;refine evd [3] [] ?_;refine ar ?_;refine xaS (i:=2*i+1) sl29 .none rfl rfl rfl rfl (zap (by omega)) rfl ?_;refine evd [3] [] ?_;refine bu [0,2,3] [_,_,_] st36 ?_;refine si [0] [_] sl34 tz36 ?_;refine ap sl34 zz36 rfl rfl rfl (by(intro x hx;simp at hx;subst hx;rfl)) (by have:=zjT l i;simp[Pat.cs_len];omega) ?_;refine asg ?_;refine dr ?_;refine ar ?_;refine xah (i+1) ⟨(by omega),(by omega),sx ⟨⟨_,rfl,xaq ?_⟩,⟨⟨_,rfl,LeA.glg ?_⟩,trivial⟩⟩ ⟨zab ?_,trivial⟩⟩;iterate 3 focus (first|rfl|(rw[zjU (by assumption),xat,xat,xaf];rfl)|(rw[zjU (by assumption)];simp[Pat.cs_len];done))
 refine ar ?_;refine xah (i+1) ⟨(by omega),(by omega),sx ⟨⟨_,rfl,xaq ?_⟩,⟨⟨_,rfl,LeA.glg ?_⟩,trivial⟩⟩ ⟨zab ?_,trivial⟩⟩;iterate 3 focus (first|rfl|(rw[zq4 (by assumption)];done))
 refine rn0 (r1 rfl) (.gld ?_);rotate_left;all_goals ((have e:i=n:=(by omega);rw[e]))
theorem zoS {w:List Data} (hw:WT w){f:Nat->Nat}{a k c:Int} (ht:TyIn w.length ⟨a,k⟩) (hc:c∈zaj w ⟨a,k⟩) (hl:(zaa w ⟨a,k⟩ c).length<=3):FnD Tryz.prog 246 [.d (sPtr w f),.agg [.d (.i a),.d (.i k)],.d (.i c)] []
  (.agg [.d (.i 4),.d (.i c),.d (.i 0),.d (.i 0),.d (.i 0),.d (zad (zbJ w ⟨a,k⟩ c).kids)]) []:=by
 refine bd Tryz.f246 28 [] [] fun w0 F0 own kept hk=>?_;refine bx 3004 ?_;refine ab 3006 tz36 ?_;refine tv ?_;refine bu [0,1] [_,_] st36 ?_;refine ab 3007 tz36 ?_;refine so ty36 ?_;refine tv ?_;refine wc zjm (zc8 hw ht hc) rfl rfl ?_;refine evd [] [] ?_;refine dr ?_;refine xan 3007 5 9 6 rfl rfl rfl rfl ?_;refine xak (ι:=List (Ty)×List (Ty)) hk (fun x=>[(18,.d (.i (x.1.length:Int)))]) [19,20,21,22,23,24,25,26] (fun x=>[(3007,some (.box [.d (.i 4),.d (.i c),.d (.i 0),.d (.i 0),.d (.i 0),.gl 9 ((x.1.map fun _=>anyQ).map Pat.cc)])),(9,some (.tok ((x.1.map fun _=>anyQ).map Pat.cc).length 6))]) (fun x=>x.1++x.2=zaa w ⟨a,k⟩ c) (fun x=>x.2.length) ([],zaa w ⟨a,k⟩ c) (by simp) ⟨⟨_,rfl,xaq ?_⟩,trivial⟩ ⟨?_,⟨zab ?_,trivial⟩⟩ (fun x=>rfl) (fun x hg1=>?_);focus (rfl)
 focus (rfl)
 focus (rfl)
 obtain⟨pre,rest⟩:=x;dsimp only at hg1 ⊢;refine evc [] [] ?_;refine sq ?_ ?_<;>intro h1 h1p h1s<;>(try simp only[Q] at h1p);rcases rest with _|⟨y,rest⟩
 ·exfalso;simp_all
 refine wc zsH (zfX) rfl rfl ?_;refine si [0] [_] sl34 tz36 ?_;refine ap sl34 zz36 rfl rfl rfl (by intro x hx;(simp at hx;subst hx;rfl)) (by have:=congrArg List.length hg1;simp at this;simp;omega) ?_;refine evd [] [] ?_;refine so ty34 ?_;refine dr ?_;refine ar ?_;refine xah ((pre++[y],rest)) ⟨(by have hz:=hg1;rw[<-hz];simp),(by simp),sx ⟨⟨_,rfl,xaq ?_⟩,trivial⟩ ⟨?_,⟨zab ?_,trivial⟩⟩⟩;focus ((simp;done))
 focus ((simp[getH];exact⟨rfl,rfl,rfl,rfl,rfl,rfl⟩))
 focus ((simp;done))
 have hrest:rest=[]:=by
  rcases rest with _|⟨a,b⟩
  ·rfl
  ·exfalso;have hz:=congrArg List.length (hg1);simp only[xaa,xab,xac] at hz;omega
 subst hrest;refine so ty36 ?_;refine tv ?_;refine rn0 (.cons (.cellA ty36 rfl rfl rfl) .nil) (.agg (.cons (.eqd ?_) (.cons (.eqd ?_) (.cons (.eqd ?_) (.cons (.eqd ?_) (.cons (.eqd ?_) (.cons (.gld ?_) .nil)))))));rotate_left 6;all_goals (first|rfl|(rw[List.append_nil] at hg1;subst hg1;rw[<-xat];all_goals rfl))
def zcG (n:Nat) (a b:Pat):Pat:=(zaE n a b).getD zvv
theorem zcq {n:Nat}{a b x:Pat} (h:zaE n a b=some x):zcG n a b=x:=by unfold zcG;rw[h];rfl
theorem zfc {n:Nat}{a b:Pat} (h:zaE n a b=none):zcG n a b=zvv:=by unfold zcG;rw[h];rfl
theorem znx {n:Nat}{a b:Pat} (h:(zaE n a b).isSome=true):zaE n a b=some (zcG n a b):=by
 unfold zcG;cases e:zaE n a b with
 |none=>rw[e] at h;cases h
 |some x=>rfl
theorem zny {n:Nat}{a b:Pat} (h:(zaE n a b).isSome=false):zaE n a b=none:=by
 cases e:zaE n a b with
 |none=>rfl
 |some x=>rw[e] at h;cases h
theorem zjF {w:List Data} (hs:Spa w){f:Nat->Nat}:∀(n m:Nat){ta tk:Int}{a b:Pat},m<=n->InS (w.length*4) ⟨ta,tk⟩->zae w m ⟨ta,tk⟩ a=true->zae w m ⟨ta,tk⟩ b=true->
  FnD Tryz.prog 248 [.d (sPtr w f),.agg [.d (.i ta),.d (.i tk)],.agg [.d (.i a.op),.d (.i a.ctor),.d (.i a.n),.d (.i a.m),.d (.i a.var),.d (zad a.kids)],.agg [.d (.i b.op),.d (.i b.ctor),.d (.i b.n),.d (.i b.m),.d (.i b.var),.d (zad b.kids)]] []
   (.tup [.agg [.d (.i (zcG n a b).op),.d (.i (zcG n a b).ctor),.d (.i (zcG n a b).n),.d (.i (zcG n a b).m),.d (.i (zcG n a b).var),.d (zad (zcG n a b).kids)],.d (.bool (zaE n a b).isSome)]) []
 |n,0,ta,tk,a,b,_,_,ha,_=>by simp[zae] at ha
 |0,m+1,ta,tk,a,b,h,_,_,_=>by omega
 |n+1,m+1,ta,tk,a,b,hnm,ht,ha,hb=>by
  by_cases h1:a.op=1
  ·have e:=zg2 (n:=n) (b:=b) h1;rw[zcq e,e];refine bd Tryz.f248 100 [] [] fun w0 F0 own kept hk=>?_;refine bx 3005 ?_;refine bx 3006 ?_;refine bx 3007 ?_;refine ab 3008 tz36 ?_;refine ev ?_;refine sq ?_ ?_<;>intro h1 h1p h1s;refine so ty36 ?_;refine ev ?_;refine rn0 (.cons (.cellA ty36 rfl rfl rfl) (.cons (.tmp rfl) .nil)) (.tup (.cons (.agg (.cons (.eqd ?_) (.cons (.eqd ?_) (.cons (.eqd ?_) (.cons (.eqd ?_) (.cons (.eqd ?_) (.cons (.eqd ?_) .nil))))))) (.cons (.eqd ?_) .nil)));rotate_left 7;try simp only[Q] at h1p
   exfalso;omega;all_goals (rfl)
  by_cases h2:b.op=1
  ·have e:=zia (n:=n) h1 h2;rw[zcq e,e];refine bd Tryz.f248 100 [] [] fun w0 F0 own kept hk=>?_;refine bx 3005 ?_;refine bx 3006 ?_;refine bx 3007 ?_;refine ab 3008 tz36 ?_;refine ev ?_;refine sq ?_ ?_<;>intro h1 h1p h1s;try simp only[Q] at h1p
   exfalso;omega;refine sq ?_ ?_<;>intro h2 h2p h2s;refine so ty36 ?_;refine ev ?_;refine rn0 (.cons (.cellA ty36 rfl rfl rfl) (.cons (.tmp rfl) .nil)) (.tup (.cons (.agg (.cons (.eqd ?_) (.cons (.eqd ?_) (.cons (.eqd ?_) (.cons (.eqd ?_) (.cons (.eqd ?_) (.cons (.eqd ?_) .nil))))))) (.cons (.eqd ?_) .nil)));rotate_left 7;try simp only[Q] at h2p
   exfalso;omega;all_goals (rfl)
  by_cases h3:a.op=3
  ·have e:=zib (n:=n) h3 h2;by_cases hr:maxQ a.n b.n<=minQ a.m b.m
   ·rw[if_pos hr] at e;have er:zbw [maxQ a.n b.n,minQ a.m b.m] 1=[intQ (maxQ a.n b.n) (minQ a.m b.m)]:=by rw[zqm];exact if_pos hr
    have hrg:=zfy (l:=[maxQ a.n b.n,minQ a.m b.m]) (n:=1) rfl (by omega);rw[er] at hrg;rw[zcq e,e];refine bd Tryz.f248 100 [] [] fun w0 F0 own kept hk=>?_;refine bx 3005 ?_;refine bx 3006 ?_;refine bx 3007 ?_;refine ab 3008 tz36 ?_;refine ev ?_;refine sq ?_ ?_<;>intro h1 h1p h1s;try simp only[Q,Pat.cs_len] at h1p
    exfalso;omega;refine sq ?_ ?_<;>intro h2 h2p h2s;try simp only[Q,Pat.cs_len] at h2p
    exfalso;omega;refine sq ?_ ?_<;>intro h3 h3p h3s;refine xa3 .none rfl rfl rfl ?_;refine ev ?_;refine xa4 .none rfl rfl rfl ?_;refine si [0,1] [_,_] sl29 tz3 ?_;refine wc zpp (hrg) rfl rfl ?_;refine ev ?_;refine sq ?_ ?_<;>intro h4 h4p h4s;exfalso;simp[Pat.cs_len] at h4;refine xaS (i:=0) sl34 .none rfl rfl rfl rfl (rfl) rfl ?_;refine ev ?_;refine so ty36 ?_;refine ev ?_;refine rn0 (.cons (.cellA ty36 rfl rfl rfl) (.cons (.tmp rfl) .nil)) (.tup (.cons (.agg (.cons (.eqd ?_) (.cons (.eqd ?_) (.cons (.eqd ?_) (.cons (.eqd ?_) (.cons (.eqd ?_) (.cons (.eqd ?_) .nil))))))) (.cons (.eqd ?_) .nil)));rotate_left 7;try simp only[Q,Pat.cs_len] at h3p
    exfalso;omega;all_goals (rfl)
   ·skip
    rw[if_neg hr] at e;have er:zbw [maxQ a.n b.n,minQ a.m b.m] 1=[]:=by rw[zqm];exact if_neg hr
    have hrg:=zfy (l:=[maxQ a.n b.n,minQ a.m b.m]) (n:=1) rfl (by omega);rw[er] at hrg;rw[zfc e,e];refine bd Tryz.f248 100 [] [] fun w0 F0 own kept hk=>?_;refine bx 3005 ?_;refine bx 3006 ?_;refine bx 3007 ?_;refine ab 3008 tz36 ?_;refine ev ?_;refine sq ?_ ?_<;>intro h1 h1p h1s;try simp only[Q,Pat.cs_len] at h1p
    exfalso;omega;refine sq ?_ ?_<;>intro h2 h2p h2s;try simp only[Q,Pat.cs_len] at h2p
    exfalso;omega;refine sq ?_ ?_<;>intro h3 h3p h3s;refine xa3 .none rfl rfl rfl ?_;refine ev ?_;refine xa4 .none rfl rfl rfl ?_;refine si [0,1] [_,_] sl29 tz3 ?_;refine wc zpp (hrg) rfl rfl ?_;refine ev ?_;refine sq ?_ ?_<;>intro h4 h4p h4s;refine bu [] [] st36 ?_;refine so ty36 ?_;refine ev ?_;refine rn0 (.cons (.cellA ty36 rfl rfl rfl) (.cons (.tmp rfl) .nil)) (.tup (.cons (.agg (.cons (.eqd ?_) (.cons (.eqd ?_) (.cons (.eqd ?_) (.cons (.eqd ?_) (.cons (.eqd ?_) (.cons (.nild ?_) .nil))))))) (.cons (.eqd ?_) .nil)));rotate_left 7;exfalso;simp[Pat.cs] at h4;try simp only[Q,Pat.cs_len] at h3p
    exfalso;omega;all_goals (rfl)
  have oa:=zbn ha;have h4:a.op=4:=by omega
  have h4b:b.op=4:=by have:=zc5 ha hb h1 h2;omega
  by_cases hc:a.ctor=b.ctor
  ·obtain⟨c1,c2,c3,c4⟩:=zaA ha h4;obtain⟨d1,d2,d3,d4⟩:=zaA hb h4b;rw[<-hc] at d3;have h3l:=hs.args ⟨ta,tk⟩ a.ctor ht c1;have ka:=fun i (hi:i<a.kids.length)=>zaN ha hi;have kb:=fun i (hi:i<b.kids.length)=>zaN hb hi;rw[za5 h4] at ka;rw[za5 h4b,<-hc] at kb;have e:=zg3 (n:=n) h4 h2 hc;have hlen:a.kids.length=b.kids.length:=by omega
   have ih:=fun i (hi:i<(zaa w ⟨ta,tk⟩ a.ctor).length)=>zjF hs n m (f:=f) (ta:=(nth (zaa w ⟨ta,tk⟩ a.ctor) i).data) (tk:=(nth (zaa w ⟨ta,tk⟩ a.ctor) i).index) (a:=nth a.kids i) (b:=nth b.kids i) (by omega) (zbp hs.dp ht c1 _ (zac hi)) (ka i (by omega)) (kb i (by omega));refine bd Tryz.f248 100 [] [] fun w0 F0 own kept hk=>?_;refine bx 3005 ?_;refine bx 3006 ?_;refine bx 3007 ?_;refine ab 3008 tz36 ?_;refine ev ?_;refine sq ?_ ?_<;>intro h1 h1p h1s;try simp only[Q,Pat.cs_len] at h1p
   exfalso;omega;refine sq ?_ ?_<;>intro h2 h2p h2s;try simp only[Q,Pat.cs_len] at h2p
   exfalso;omega;refine sq ?_ ?_<;>intro h3 h3p h3s;try simp only[Q,Pat.cs_len] at h3p
   exfalso;omega;refine sq ?_ ?_<;>intro h4 h4p h4s;try simp only[Q,Pat.cs_len] at h4p
   exfalso;omega;refine bu [0,1] [_,_] st36 ?_;refine ab 3011 tz36 ?_;refine so ty36 ?_;refine tv ?_;refine wc zjm (zc8 hs.dp.wt (zb0 ht) c1) rfl rfl ?_;refine evd [] [] ?_;refine dr ?_;refine xan 3011 5 9 6 rfl rfl rfl rfl ?_;refine xak (ι:=Nat×List Pat) hk (fun x=>[(68,.d (.i (x.1:Int)))]) [9,12,13,14,15,69,70,71,72,73,74,75,76,77,78,79,80,81,82,83,84,85,86,87,88,89,90,91,92,93,94,95,96,97,98] (fun x=>[(3011,some (.box [.d (.i 4),.d (.i a.ctor),.d (.i 0),.d (.i 0),.d (.i 0),.gl 9 (x.2.map Pat.cc)])),(9,some (.tok (x.2.map Pat.cc).length 6))]) (fun x=>x.1<=a.kids.length/\x.2.length=x.1/\zbL (zaE n) (a.kids.drop x.1) (b.kids.drop x.1) x.2=zbL (zaE n) a.kids b.kids []) (fun x=>a.kids.length-x.1) (0,[]) ⟨by simp,rfl,rfl⟩ ⟨⟨_,rfl,xaq ?_⟩,trivial⟩ ⟨?_,⟨zab ?_,trivial⟩⟩ (fun x=>rfl) (fun x hg1=>?_);focus (rfl)
   focus (first|rfl|(simp[getH];done))
   focus (rfl)
   refine evc [] [] ?_;refine sq ?_ ?_<;>intro h5 h5p h5s<;>(try simp only[Q,Pat.cs_len] at h5p);refine xaS zaZ .none rfl rfl rfl rfl (zap (by omega)) rfl ?_;refine ev ?_;refine ab 3013 tz25 ?_;refine ev ?_;refine so ty25 ?_;refine tv ?_;refine xaS sl34 .none rfl rfl rfl rfl (zaH (by omega)) rfl ?_;refine evd [] [] ?_;refine xaS sl34 .none rfl rfl rfl rfl (zaH (by omega)) rfl ?_;refine evd [] [] ?_;refine wc zsS (ih x.1 (by omega)) rfl rfl ?_;refine evd [] [] ?_;refine ab 3014 tz36 ?_;refine so ty36 ?_;refine evd [] [] ?_;refine dr ?_;refine sq ?_ ?_<;>intro h6 h6p h6s;refine bu [] [] st36 ?_;refine so ty36 ?_;refine ev ?_;refine rn0 (.cons (.cellA ty36 rfl rfl rfl) (.cons (.tmp rfl) .nil)) (.tup (.cons (.agg (.cons (.eqd ?_) (.cons (.eqd ?_) (.cons (.eqd ?_) (.cons (.eqd ?_) (.cons (.eqd ?_) (.cons (.nild ?_) .nil))))))) (.cons (.eqd ?_) .nil)));rotate_left 7;try simp only[Q,Pat.cs_len] at h6p
   refine si [0] [_] sl34 tz36 ?_;refine ap sl34 zz36 rfl rfl rfl (by intro x hx;(simp at hx;subst hx;rfl)) (by simp;omega) ?_;refine ev ?_;refine so ty34 ?_;refine tv ?_;refine ar ?_;refine xah ((x.1+1,x.2++[zcG n (nth a.kids x.1) (nth b.kids x.1)])) ⟨⟨by dsimp only;omega,by dsimp only;rw[xaa,hg1.2.1];rfl,by dsimp only;rw[<-zmp (by omega) (by omega) (znx (by assumption))];exact hg1.2.2⟩,(by dsimp only;omega),sx ⟨⟨_,rfl,xaq ?_⟩,trivial⟩ ⟨?_,⟨zab ?_,trivial⟩⟩⟩;focus (rfl)
   focus (first|rfl|(simp[getH];done))
   focus ((simp;done))
   refine so ty36 ?_;refine ev ?_;refine rn0 (.cons (.cellA ty36 rfl rfl rfl) (.cons (.tmp rfl) .nil)) (.tup (.cons (.agg (.cons (.eqd ?_) (.cons (.eqd ?_) (.cons (.eqd ?_) (.cons (.eqd ?_) (.cons (.eqd ?_) (.cons (.gld ?_) .nil))))))) (.cons (.eqd ?_) .nil)));rotate_left 7;all_goals (first|(have e2:zaE (n+1) a b=none:=(by rw[e,<-hg1.2.2,zmo (by omega) (by omega) (zny (by assumption))];rfl);(first|rw[zfc e2]|rw[e2]);all_goals rfl)|(have e2:zaE (n+1) a b=some (za8 a.ctor x.2):=(by rw[e,<-hg1.2.2,zeR (by omega)];rfl);rw[zcq e2,xat];all_goals rfl)|(have e2:zaE (n+1) a b=some (za8 a.ctor x.2):=(by rw[e,<-hg1.2.2,zeR (by omega)];rfl);rw[zcq e2];all_goals rfl)|(have e2:zaE (n+1) a b=some (za8 a.ctor x.2):=(by rw[e,<-hg1.2.2,zeR (by omega)];rfl);rw[e2];all_goals rfl))
  ·skip
   have e:=zgJ (n:=n) h4 h2 hc;rw[zfc e,e];refine bd Tryz.f248 100 [] [] fun w0 F0 own kept hk=>?_;refine bx 3005 ?_;refine bx 3006 ?_;refine bx 3007 ?_;refine ab 3008 tz36 ?_;refine ev ?_;refine sq ?_ ?_<;>intro h1 h1p h1s;try simp only[Q] at h1p
   exfalso;omega;refine sq ?_ ?_<;>intro h2 h2p h2s;try simp only[Q] at h2p
   exfalso;omega;refine sq ?_ ?_<;>intro h3 h3p h3s;try simp only[Q] at h3p
   exfalso;omega;refine sq ?_ ?_<;>intro h4 h4p h4s;refine bu [] [] st36 ?_;refine so ty36 ?_;refine ev ?_;refine rn0 (.cons (.cellA ty36 rfl rfl rfl) (.cons (.tmp rfl) .nil)) (.tup (.cons (.agg (.cons (.eqd ?_) (.cons (.eqd ?_) (.cons (.eqd ?_) (.cons (.eqd ?_) (.cons (.eqd ?_) (.cons (.nild ?_) .nil))))))) (.cons (.eqd ?_) .nil)));rotate_left 7;try simp only[Q] at h4p
   exfalso;omega;all_goals (rfl)
theorem zhv {f:Ty->Pat->Pat->List Pat}{c:Int}{ts:List Ty}{xs bs front:List Pat}{i:Nat} (h1:i<ts.length) (h2:i<xs.length) (h3:i<bs.length):
  zaL f c (ts.drop i) (xs.drop i) (bs.drop i) front=(f (nth ts i) (nth xs i) (nth bs i)).map (fun z=>za8 c (front++[z]++xs.drop (i+1)))++(match zaE 11 (nth xs i) (nth bs i) with
   |none=>[]
   |some both=>zaL f c (ts.drop (i+1)) (xs.drop (i+1)) (bs.drop (i+1)) (front++[both])):=by
 rw[zaS h1,zaS h2,zaS h3,zaL];all_goals (cases zaE 11 (nth xs i) (nth bs i)<;>rfl)
theorem zkN {f:Ty->Pat->Pat->List Pat}{c:Int}{ts:List Ty}{xs bs front:List Pat}{i:Nat} (h1:i<ts.length) (h2:i<xs.length) (h3:i<bs.length) (h:(zaE 11 (nth xs i) (nth bs i)).isSome=true):
  zaL f c (ts.drop i) (xs.drop i) (bs.drop i) front=(f (nth ts i) (nth xs i) (nth bs i)).map (fun z=>za8 c (front++[z]++xs.drop (i+1)))++zaL f c (ts.drop (i+1)) (xs.drop (i+1)) (bs.drop (i+1)) (front++[zcG 11 (nth xs i) (nth bs i)]):=by
 rw[zhv h1 h2 h3,znx h]
theorem zkL {f:Ty->Pat->Pat->List Pat}{c:Int}{ts:List Ty}{xs bs front:List Pat}{i:Nat} (h1:i<ts.length) (h2:i<xs.length) (h3:i<bs.length) (h:(zaE 11 (nth xs i) (nth bs i)).isSome=false):
  zaL f c (ts.drop i) (xs.drop i) (bs.drop i) front=(f (nth ts i) (nth xs i) (nth bs i)).map (fun z=>za8 c (front++[z]++xs.drop (i+1))):=by
 rw[zhv h1 h2 h3,zny h,List.append_nil]
theorem zms {f:Ty->Pat->Pat->List Pat}{c:Int}{ts:List Ty}{xs bs front:List Pat}{i:Nat} (h1:ts.length<=i):zaL f c (ts.drop i) (xs.drop i) (bs.drop i) front=[]:=by
 rw[List.drop_eq_nil_of_le h1];rfl
theorem zqg {n:Nat} (h:n<=11):4 ^ n<=4194304:=Nat.le_trans (Nat.pow_le_pow_right (by omega) h) (by decide)
theorem zfA {w:List Data} (hs:Spa w){n m:Nat}{t:Ty}{a b:Pat} (h:n<m) (h10:n<=10) (ht:InS (w.length*4) t) (ha:zae w m t a=true) (hb:zae w n t b=true):(zat w n t a b).length<=20000000:=by
 have h1:=zoq hs n m h ht ha hb;have h2:=(zid hs n ht hb).2;have h3:=zqg (n:=n) (by omega);omega
theorem zvE {A B:List Pat}{y:Pat}{xs:List (List D)} (hx:xs=Pat.cs B) (hb:A.length+1+B.length<=1000):
  FnD Tryz.prog 247 [.d (.sl [[.sl (A.map Pat.cc)],[.sl [Pat.cc y]],[.sl xs]])] [] (.d (zad (A++[y]++B))) []:=by
 have h:=zjZ (ls:=[A,[y],B]) (by simp) (by simp;omega) (by simp;omega);have e:[A,[y],B].flatten=A++[y]++B:=by simp
 rw[e] at h;subst hx;have e2:zvh [A,[y],B] = .sl [[.sl (A.map Pat.cc)],[.sl [Pat.cc y]],[.sl (Pat.cs B)]]:=by
  show D.sl [[.sl (Pat.cs A)],[.sl (Pat.cs [y])],[.sl (Pat.cs B)]]=_
  rw[xat A,xat [y]];rfl
 rw[e2] at h;exact h
section
variable {w:List Data}{f:Nat->Nat}
abbrev MinusFn (w:List Data) (f:Nat->Nat) (n:Nat) (ta tk:Int) (a b:Pat):Prop:=
 FnD Tryz.prog 152 [.d (sPtr w f),.agg [.d (.i ta),.d (.i tk)],.agg [.d (.i a.op),.d (.i a.ctor),.d (.i a.n),.d (.i a.m),.d (.i a.var),.d (zad a.kids)],.agg [.d (.i b.op),.d (.i b.ctor),.d (.i b.n),.d (.i b.m),.d (.i b.var),.d (zad b.kids)]] [] (.d (zad (zat w n ⟨ta,tk⟩ a b))) []
theorem zpU {n:Nat}{ta tk:Int}{a b:Pat} (h:b.op=1):MinusFn w f (n+1) ta tk a b:=by
 unfold MinusFn;rw[zeS h];refine bd Tryz.f152 159 [] [] fun w0 F0 own kept hk=>?_;refine bx 3005 ?_;refine bx 3006 ?_;refine bx 3007 ?_;refine ev ?_;refine sq ?_ ?_<;>intro h1 h1p h1s;refine rn0 (r1 rfl) (.nild ?_);rotate_left;try simp only[Q] at h1p
 exfalso;omega;all_goals (rfl)
theorem zpV {n:Nat}{ta tk:Int}{a b:Pat} (h:b.op=3) (hbn:0<=b.n/\b.n<=9) (hbm:0<=b.m/\b.m<=9):MinusFn w f (n+1) ta tk a b:=by
 unfold MinusFn;rw[zgK h];have er:zbw [lowQ a,minQ (zch a) (b.n-1),maxQ (lowQ a) (b.m+1),zch a] 2=zdM a b:=zuH _ _ _ _;have hrg:=zfy (l:=[lowQ a,minQ (zch a) (b.n-1),maxQ (lowQ a) (b.m+1),zch a]) (n:=2) rfl (by omega);rw[er] at hrg;refine bd Tryz.f152 159 [] [] fun w0 F0 own kept hk=>?_;refine bx 3005 ?_;refine bx 3006 ?_;refine bx 3007 ?_;refine ev ?_;refine sq ?_ ?_<;>intro h1 h1p h1s;try simp only[Q] at h1p
 exfalso;omega;refine sq ?_ ?_<;>intro h2 h2p h2s;refine wc zwJ (zme) rfl rfl ?_;refine ev ?_;refine ar ?_;refine xa4 .none rfl rfl rfl ?_;refine ev ?_;refine ar ?_;refine xa3 .none rfl rfl rfl ?_;refine ev ?_;refine si [0,1,2,3] [_,_,_,_] sl29 tz3 ?_;refine wc zpp (hrg) rfl rfl ?_;refine ev ?_;focus (refine rq ?_;all_goals (rfl))
 try simp only[Q] at h2p
 exfalso;omega
theorem zpY {n:Nat}{ta tk:Int}{a b:Pat} (h4:a.op=4) (h4b:b.op=4) (hc:¬a.ctor=b.ctor):MinusFn w f (n+1) ta tk a b:=by
 unfold MinusFn;have e:zat w (n+1) ⟨ta,tk⟩ a b=[a]:=by rw[zcN h4b h4];exact if_neg hc
 rw[e];refine bd Tryz.f152 159 [] [] fun w0 F0 own kept hk=>?_;refine bx 3005 ?_;refine bx 3006 ?_;refine bx 3007 ?_;refine ev ?_;refine sq ?_ ?_<;>intro h1 h1p h1s;try simp only[Q] at h1p
 exfalso;omega;refine sq ?_ ?_<;>intro h2 h2p h2s;try simp only[Q] at h2p
 exfalso;omega;refine sq ?_ ?_<;>intro h3 h3p h3s;try simp only[Q] at h3p
 exfalso;omega;refine sq ?_ ?_<;>intro h4 h4p h4s;refine si [0] [_] sl34 tz36 ?_;refine ev ?_;refine rq ?_;rotate_left;try simp only[Q] at h4p
 exfalso;omega;all_goals (first|rfl|(cases a;rfl))
theorem zpX (hs:Spa w){n m:Nat} (hn:n+1<=10) (hm:m+1<=11) (hnm:n<m)
  (ih:∀ {ta tk:Int}{a b:Pat},InS (w.length*4) ⟨ta,tk⟩->zae w m ⟨ta,tk⟩ a=true->zae w n ⟨ta,tk⟩ b=true->MinusFn w f n ta tk a b)
  {ta tk:Int}{a b:Pat} (ht:InS (w.length*4) ⟨ta,tk⟩) (ha:zae w (m+1) ⟨ta,tk⟩ a=true) (hb:zae w (n+1) ⟨ta,tk⟩ b=true) (h4:a.op=4) (h4b:b.op=4) (hc:a.ctor=b.ctor):MinusFn w f (n+1) ta tk a b:=by
 obtain⟨c1,c2,c3,-⟩:=zaA ha h4;obtain⟨d1,d2,d3,-⟩:=zaA hb h4b;rw[<-hc] at d3;have h3l:=hs.args ⟨ta,tk⟩ a.ctor ht c1;have ka:=fun i (hi:i<a.kids.length)=>zaN ha hi;have kb:=fun i (hi:i<b.kids.length)=>zaN hb hi;rw[za5 h4] at ka;rw[za5 h4b,<-hc] at kb;have hbd:=zfA hs (n:=n+1) (m:=m+1) (by omega) hn ht ha hb;have e:zat w (n+1) ⟨ta,tk⟩ a b=zaL (zat w n) a.ctor (zaa w ⟨ta,tk⟩ a.ctor) a.kids b.kids []:=by rw[zcN h4b h4];exact if_pos hc
 have hins:=fun i (hi:i<(zaa w ⟨ta,tk⟩ a.ctor).length)=>zbp hs.dp ht c1 _ (zac hi);have hmi:∀i,i<(zaa w ⟨ta,tk⟩ a.ctor).length->FnD Tryz.prog 152 [.d (sPtr w f),.agg [.d (.i (nth (zaa w ⟨ta,tk⟩ a.ctor) i).data),.d (.i (nth (zaa w ⟨ta,tk⟩ a.ctor) i).index)],.agg [.d (.i (nth a.kids i).op),.d (.i (nth a.kids i).ctor),.d (.i (nth a.kids i).n),.d (.i (nth a.kids i).m),.d (.i (nth a.kids i).var),.d (zad (nth a.kids i).kids)],.agg [.d (.i (nth b.kids i).op),.d (.i (nth b.kids i).ctor),.d (.i (nth b.kids i).n),.d (.i (nth b.kids i).m),.d (.i (nth b.kids i).var),.d (zad (nth b.kids i).kids)]] [] (.d (zad (zat w n (nth (zaa w ⟨ta,tk⟩ a.ctor) i) (nth a.kids i) (nth b.kids i)))) []:=fun i hi=>ih (ta:=(nth (zaa w ⟨ta,tk⟩ a.ctor) i).data) (tk:=(nth (zaa w ⟨ta,tk⟩ a.ctor) i).index) (hins i hi) (ka i (by omega)) (kb i (by omega));have hme:=fun i (hi:i<(zaa w ⟨ta,tk⟩ a.ctor).length)=>zjF hs 11 m (f:=f) (ta:=(nth (zaa w ⟨ta,tk⟩ a.ctor) i).data) (tk:=(nth (zaa w ⟨ta,tk⟩ a.ctor) i).index) (by omega) (hins i hi) (ka i (by omega)) (zc4 (by omega) (kb i (by omega)));unfold MinusFn;rw[e] at hbd ⊢;have hT:∀i out front,i<(zaa w ⟨ta,tk⟩ a.ctor).length->out++zaL (zat w n) a.ctor ((zaa w ⟨ta,tk⟩ a.ctor).drop i) (a.kids.drop i) (b.kids.drop i) front=zaL (zat w n) a.ctor (zaa w ⟨ta,tk⟩ a.ctor) a.kids b.kids []->
   out.length+(zat w n (nth (zaa w ⟨ta,tk⟩ a.ctor) i) (nth a.kids i) (nth b.kids i)).length<=20000000:=fun i out front hi h=>by
  rw[zhv hi (by omega) (by omega)] at h;have:=congrArg List.length h;simp only[xaa,xac] at this;omega
 refine bd Tryz.f152 159 [14,15] [] fun w0 F0 own kept hk=>?_;refine bx 3005 ?_;refine bx 3006 ?_;refine bx 3007 ?_;refine evs [14,15] [] ?_;refine sq ?_ ?_<;>intro h1 h1p h1s;try simp only[Q,Pat.cs_len] at h1p
 exfalso;omega;refine sq ?_ ?_<;>intro h2 h2p h2s;try simp only[Q,Pat.cs_len] at h2p
 exfalso;omega;refine sq ?_ ?_<;>intro h3 h3p h3s;try simp only[Q,Pat.cs_len] at h3p
 exfalso;omega;refine sq ?_ ?_<;>intro h4 h4p h4s;try simp only[Q,Pat.cs_len] at h4p
 exfalso;omega;refine xaD 9 6 .none rfl rfl ?_;refine xaD 8 6 .none rfl rfl ?_;refine tv ?_;refine wc zjm (zc8 hs.dp.wt (zb0 ht) c1) rfl rfl ?_;refine evd [14,15] [] ?_;refine dr ?_;refine xak (ι:=Nat×List Pat×List Pat) hk (fun s=>[(94,.d (.i (s.1:Int))),(14,.gl 9 (s.2.1.map Pat.cc)),(15,.gl 8 (s.2.2.map Pat.cc))]) [16,17,19,20,21,22,95,96,97,98,99,100,101,102,103,104,105,106,107,108,109,110,111,112,113,114,115,116,117,118,119,120,121,122,123,124,125,126,127,128,129,130,131,132,133,134,135,136,137,138,139,140,141,142,143,144,145,146,147,148,149,150,151,152,153,154,155,156,157] (fun s=>[(9,some (.tok ((s.2.1.map Pat.cc)).length 6)),(8,some (.tok ((s.2.2.map Pat.cc)).length 6))]) (fun s=>s.1<=a.kids.length/\s.2.2.length=s.1/\s.2.1++zaL (zat w n) a.ctor ((zaa w ⟨ta,tk⟩ a.ctor).drop s.1) (a.kids.drop s.1) (b.kids.drop s.1) s.2.2=zaL (zat w n) a.ctor (zaa w ⟨ta,tk⟩ a.ctor) a.kids b.kids []) (fun s=>a.kids.length-s.1) (0,[],[]) ⟨by simp,rfl,rfl⟩ ⟨⟨_,rfl,xaq ?_⟩,⟨⟨_,rfl,LeA.glg ?_⟩,⟨⟨_,rfl,LeA.glg ?_⟩,trivial⟩⟩⟩ ⟨zab ?_,⟨zab ?_,trivial⟩⟩ (fun x=>rfl) (fun s hg2=>?_);iterate 5 focus (rfl)
 refine evc [14,15] [] ?_;refine sq ?_ ?_<;>intro h5 h5p h5s<;>(try simp only[Q,Pat.cs_len] at h5p);refine xaS zaZ .none rfl rfl rfl rfl (zap (by omega)) rfl ?_;refine evs [14,15] [] ?_;refine ab 3017 tz25 ?_;refine evs [14,15] [] ?_;refine so ty25 ?_;refine tv ?_;refine xaS sl34 .none rfl rfl rfl rfl (zaH (by omega)) rfl ?_;refine evd [14,15] [] ?_;refine xaS sl34 .none rfl rfl rfl rfl (zaH (by omega)) rfl ?_;refine evd [14,15] [] ?_;refine wc zpk (hmi s.1 (by omega)) rfl rfl ?_;refine evd [14,15] [] ?_;refine dr ?_;refine xak (ι:=List (Pat)×List (Pat)) hk (fun x=>[(113,.d (.i (x.1.length:Int))),(14,.gl 9 ((s.2.1++x.1.map (fun z=>za8 a.ctor (s.2.2++[z]++a.kids.drop (s.1+1)))).map Pat.cc))]) [19,20,114,115,116,117,118,119,120,121,122,123,124,125,126,127,128,129,130,131,132,133,134] (fun x=>[(9,some (.tok (((s.2.1++x.1.map (fun z=>za8 a.ctor (s.2.2++[z]++a.kids.drop (s.1+1)))).map Pat.cc)).length 6))]) (fun x=>x.1++x.2=(zat w n (nth (zaa w ⟨ta,tk⟩ a.ctor) s.1) (nth a.kids s.1) (nth b.kids s.1))) (fun x=>x.2.length) ([],(zat w n (nth (zaa w ⟨ta,tk⟩ a.ctor) s.1) (nth a.kids s.1) (nth b.kids s.1))) (by simp) ⟨⟨_,rfl,xaq ?_⟩,⟨⟨_,rfl,LeA.glg ?_⟩,trivial⟩⟩ ⟨zab ?_,trivial⟩ (fun x=>rfl) (fun x hg3=>?_);iterate 3 focus ((simp;done))
 obtain⟨pre,rest⟩:=x;dsimp only at hg3 ⊢;refine evc [14,15] [] ?_;refine sq ?_ ?_<;>intro h6 h6p h6s<;>(try simp only[Q,Pat.cs_len] at h6p);rcases rest with _|⟨y,rest⟩
 ·exfalso;simp_all
 refine xaS sl34 .none rfl rfl rfl rfl (Pat.cs_at' hg3) rfl ?_;refine evs [14,15] [] ?_;refine ab 3019 tz36 ?_;refine so ty36 ?_;refine tv ?_;refine si [0] [_] sl34 tz36 ?_;refine evd [14,15] [] ?_;refine ar ?_ (by(constructor<;>omega));refine xaP (b:=s.1+1) sl34 .none rfl rfl rfl (by intro x hx;exact zbD _ x hx) rfl rfl (by simp only[Pat.cs_len];omega) ?_;refine si [0,1,2] [_,_,_] zdT tz34 ?_;refine wc zwL (zvE (A:=s.2.2) (y:=y) (xs:=(Pat.cs a.kids).drop (s.1+1)) (B:=a.kids.drop (s.1+1)) (by rw[xat,xat,List.map_drop]) (by rw[List.length_drop];omega)) rfl rfl ?_;refine evd [14,15] [] ?_;refine dr ?_;refine bu [0,1,5] [_,_,_] st36 ?_;refine si [0] [_] sl34 tz36 ?_;refine ap sl34 zz36 rfl rfl rfl (by intro x hx;(simp at hx;subst hx;rfl)) (by(have h9:=hT s.1 s.2.1 s.2.2 (by omega) hg2.2.2;have h8:=congrArg List.length hg3;simp at h8 ⊢;omega)) ?_;refine asg ?_;refine tv ?_;refine ar ?_ (by(have h9:=hT s.1 s.2.1 s.2.2 (by omega) hg2.2.2;have h8:=congrArg List.length hg3;simp only[xaa,xab] at h8;constructor<;>omega));refine xah ((pre++[y],rest)) ⟨(by have hz:=hg3;rw[<-hz];simp),(by simp),sx ⟨⟨_,rfl,xaq ?_⟩,⟨⟨_,rfl,LeA.glg ?_⟩,trivial⟩⟩ ⟨zab ?_,trivial⟩⟩;iterate 3 focus (first|(simp;done)|(simp only[xaf,List.append_assoc,xae,List.map_nil];rfl)|(simp;omega))
 have hrest:rest=[]:=by
  rcases rest with _|⟨a,b⟩
  ·rfl
  ·exfalso;have hz:=congrArg List.length (hg3);simp only[xaa,xab,xac] at hz;omega
 subst hrest;refine xaS sl34 .none rfl rfl rfl rfl (zaH (by omega)) rfl ?_;refine evd [14,15] [] ?_;refine xaS sl34 .none rfl rfl rfl rfl (zaH (by omega)) rfl ?_;refine evd [14,15] [] ?_;refine wc zsS (hme s.1 (by omega)) rfl rfl ?_;refine evd [14,15] [] ?_;refine ab 3021 tz36 ?_;refine so ty36 ?_;refine evd [14,15] [] ?_;refine dr ?_;refine sq ?_ ?_<;>intro h7 h7p h7s;refine rn0 (r1 rfl) (.gld ?_);rotate_left;try simp only[Q,Pat.cs_len] at h7p
 refine si [0] [_] sl34 tz36 ?_;refine ap sl34 zz36 rfl rfl rfl (by intro x hx;(simp at hx;subst hx;rfl)) (by(have h9:=hT s.1 s.2.1 s.2.2 (by omega) hg2.2.2;have h8:=congrArg List.length hg3;simp at h8 ⊢;omega)) ?_;refine asg ?_;refine tv ?_;refine ar ?_ (by(constructor<;>omega));refine xah ((s.1+1,s.2.1++(zat w n (nth (zaa w ⟨ta,tk⟩ a.ctor) s.1) (nth a.kids s.1) (nth b.kids s.1)).map (fun z=>za8 a.ctor (s.2.2++[z]++a.kids.drop (s.1+1))),s.2.2++[zcG 11 (nth a.kids s.1) (nth b.kids s.1)])) ⟨⟨by dsimp only;omega,by dsimp only;rw[xaa,hg2.2.1];rfl,by dsimp only;rw[List.append_assoc,<-zkN (by omega) (by omega) (by omega) (by assumption)];exact hg2.2.2⟩,(by dsimp only;omega),sx ⟨⟨_,rfl,xaq ?_⟩,⟨⟨_,rfl,LeA.glg ?_⟩,⟨⟨_,rfl,LeA.glg ?_⟩,trivial⟩⟩⟩ ⟨zab ?_,⟨zab ?_,trivial⟩⟩⟩;iterate 5 focus ((simp_all;done))
 refine rn0 (r1 rfl) (.gld ?_);rotate_left;all_goals (first|(rw[<-hg2.2.2,zms (by omega),List.append_nil,xat];done)|(rw[List.append_nil] at hg3;rw[<-hg2.2.2,zkL (by omega) (by omega) (by omega) (by assumption),<-hg3,xat];all_goals rfl))
theorem zpW (hs:Spa w){n:Nat}{ta tk:Int}{a b:Pat} (ht:InS (w.length*4) ⟨ta,tk⟩) (h1:a.op=1) (h4b:b.op=4) (hbd:(zat w (n+1) ⟨ta,tk⟩ a b).length<=20000000)
  (hC:∀c∈zaj w ⟨ta,tk⟩,MinusFn w f (n+1) ta tk (zbJ w ⟨ta,tk⟩ c) b):MinusFn w f (n+1) ta tk a b:=by
 have e:zat w (n+1) ⟨ta,tk⟩ a b=(zaj w ⟨ta,tk⟩).flatMap fun c=>zat w (n+1) ⟨ta,tk⟩ (zbJ w ⟨ta,tk⟩ c) b:=by
  rw[zfz h4b h1];exact congrArg (fun g=>(zaj w ⟨ta,tk⟩).flatMap g) (funext fun c=>(zcN h4b rfl).symm)
 unfold MinusFn;rw[e] at hbd ⊢;have hcl:=(hs.ctors _ ht).1;have hpre:∀ {pre rest:List Int}{y:Int},pre++y::rest=zaj w ⟨ta,tk⟩->(pre.flatMap fun c=>zat w (n+1) ⟨ta,tk⟩ (zbJ w ⟨ta,tk⟩ c) b).length+(zat w (n+1) ⟨ta,tk⟩ (zbJ w ⟨ta,tk⟩ y) b).length<=20000000:=fun h=>by
  rw[<-h,List.flatMap_append,List.flatMap_cons] at hbd;simp only[xaa] at hbd;omega
 have hmem:∀ {pre rest:List Int}{y:Int},pre++y::rest=zaj w ⟨ta,tk⟩->y∈zaj w ⟨ta,tk⟩:=fun h=>by rw[<-h];simp
 refine bd Tryz.f152 159 [11] [] fun w0 F0 own kept hk=>?_;refine bx 3005 ?_;refine bx 3006 ?_;refine bx 3007 ?_;refine evs [11] [] ?_;refine sq ?_ ?_<;>intro h1 h1p h1s;try simp only[Q,Pat.cs_len] at h1p
 exfalso;omega;refine sq ?_ ?_<;>intro h2 h2p h2s;try simp only[Q,Pat.cs_len] at h2p
 exfalso;omega;refine sq ?_ ?_<;>intro h3 h3p h3s;refine xaD 9 6 .none rfl rfl ?_;refine tv ?_;refine wc zlL (zeg hs.dp.wt (zb0 ht)) rfl rfl ?_;refine evd [11] [] ?_;refine dr ?_;refine xak (ι:=List (Int)×List (Int)) hk (fun x=>[(61,.d (.i (x.1.length:Int))),(11,.gl 9 (Pat.cs (x.1.flatMap fun c=>zat w (n+1) ⟨ta,tk⟩ (zbJ w ⟨ta,tk⟩ c) b)))]) [13,62,63,64,65,66,67,68,69,70,71,72,73,74,75] (fun x=>[(9,some (.tok ((Pat.cs (x.1.flatMap fun c=>zat w (n+1) ⟨ta,tk⟩ (zbJ w ⟨ta,tk⟩ c) b))).length 6))]) (fun x=>x.1++x.2=zaj w ⟨ta,tk⟩) (fun x=>x.2.length) ([],zaj w ⟨ta,tk⟩) (by simp) ⟨⟨_,rfl,xaq ?_⟩,⟨⟨_,rfl,LeA.glg ?_⟩,trivial⟩⟩ ⟨zab ?_,trivial⟩ (fun x=>rfl) (fun x hg1=>?_);iterate 3 focus (rfl)
 obtain⟨pre,rest⟩:=x;dsimp only at hg1 ⊢;refine evc [11] [] ?_;refine sq ?_ ?_<;>intro h4 h4p h4s<;>(try simp only[Q,Pat.cs_len] at h4p);rcases rest with _|⟨y,rest⟩
 ·exfalso;simp_all
 refine xaS sl29 .none rfl rfl rfl rfl (zaK hg1) rfl ?_;refine evs [11] [] ?_;refine wc zwK (zoS hs.dp.wt (f:=f) (zb0 ht) (hmem hg1) (hs.args _ _ ht (hmem hg1))) rfl rfl ?_;refine evd [11] [] ?_;refine wc zpk (hC y (hmem hg1)) rfl rfl ?_;refine ap sl34 zz36 rfl rfl rfl (by exact zbD _) (by have h9:=hpre hg1;simp only[Pat.cs_len];omega) ?_;refine asg ?_;refine dr ?_;refine ar ?_;refine xah ((pre++[y],rest)) ⟨(by have hz:=hg1;rw[<-hz];simp),(by simp),sx ⟨⟨_,rfl,xaq ?_⟩,⟨⟨_,rfl,LeA.glg ?_⟩,trivial⟩⟩ ⟨zab ?_,trivial⟩⟩;iterate 3 focus (first|(rw[List.flatMap_append,xat,xat,xat,xaf];simp;done)|(simp[Pat.cs_len];done))
 have hrest:rest=[]:=by
  rcases rest with _|⟨a,b⟩
  ·rfl
  ·exfalso;have hz:=congrArg List.length (hg1);simp only[xaa,xab,xac] at hz;omega
 subst hrest;refine rn0 (r1 rfl) (.gld ?_);rotate_left;try simp only[Q,Pat.cs_len] at h3p
 exfalso;omega;all_goals ((rw[List.append_nil] at hg1;rw[hg1];done))
theorem zi2 (hs:Spa w):∀(n m:Nat){ta tk:Int}{a b:Pat},n<m->n<=10->m<=11->InS (w.length*4) ⟨ta,tk⟩->zae w m ⟨ta,tk⟩ a=true->zae w n ⟨ta,tk⟩ b=true->MinusFn w f n ta tk a b
 |0,m,ta,tk,a,b,_,_,_,_,_,hb=>by simp[zae] at hb
 |n+1,0,ta,tk,a,b,h,_,_,_,_,_=>by omega
 |n+1,m+1,ta,tk,a,b,h,hn,hm,ht,ha,hb=>by
  have hC:∀ {a:Pat},zae w (m+1) ⟨ta,tk⟩ a=true->a.op=4->b.op=4->MinusFn w f (n+1) ta tk a b:=fun {a} ha h4 h4b=>by
   by_cases hc:a.ctor=b.ctor
   ·exact zpX hs hn hm (by omega) (fun h1 h2 h3=>zi2 hs n m (by omega) (by omega) (by omega) h1 h2 h3) ht ha hb h4 h4b hc
   ·exact zpY h4 h4b hc
  rcases zbn hb with h1|h3|h4b
  ·exact zpU h1
  ·have:=zbC hb h3;exact zpV h3 ⟨by omega,by omega⟩ ⟨by omega,by omega⟩
  ·by_cases h1:a.op=1
   ·obtain⟨m',rfl⟩:∃m',m=m'+1:=⟨m-1,by omega⟩;exact zpW hs ht h1 h4b (zfA hs h hn ht ha hb) (fun c hc=>hC (zcu hc) rfl h4b)
   ·exact hC ha (by have:=zc5 ha hb h1 (by omega);omega) h4b
end
theorem FnD.boxD {P:Program}{f:FuncId}{i n k:Nat}{args:List AV}{cs:List AV}{es:List (List D)} (hc:zb2 n k (cs.take (n*k))=some es) (h:FnD P f args [] (.ms i n) [(i,some (.box cs))]):FnD P f args [] (.d (.sl es)) []:=by
 intro G w vals hok;refine(h G w vals hok).mono ?_;rintro e w' ⟨v,r',hp',G',rfl,⟨rfl,rfl⟩,hret⟩
 have gi:getH ([(i,some (Res.box cs))]++[]) i=some (.box cs):=by simp[getH]
 obtain⟨b,us,et,q1,q2,q3,q4,q5⟩:=hret.heap i _ gi;have hown:∀b,b∉zcT G []:=fun b hb=>by simp[zcT] at hb
 have hnew:w.heap.size<=b:=(hret.new i (by rw[gi];rfl) b (by rw[q1];simp)).resolve_left (hown b);have hlt:b<w'.heap.size:=by
  rcases Nat.lt_or_ge b w'.heap.size with h|h
  ·exact h
  ·rw[Array.getElem?_eq_none h] at q2;cases q2
 let G2:Gh:={ G' with F:=fun x=>bif Nat.beq x b then us.size else G'.F x }
 have hin:G2.F b=us.size:=by simp[G2]
 have hout:∀x,x≠b->G2.F x=G'.F x:=fun x hx=>by
  have:Nat.beq x b=false:=by
   cases h:Nat.beq x b with
   |true=>exact absurd (Nat.eq_of_beq_eq_true h) hx
   |false=>rfl
  simp[G2,this]
 have hle:∀x o,o<G'.F x->o<G2.F x:=fun x o ho=>by
  by_cases hx:x=b
  ·subst hx;rw[q4] at ho;omega
  ·rw[hout x hx];exact ho
 refine⟨v,_,_,G2,rfl,⟨rfl,rfl⟩,zvM hret.res q1 q2 q3 q5 hin (fun y o ho=>⟨hle y o ho,rfl⟩) hc,fun id x hx=>(by cases hx),fun id id' h1=>(by cases h1),fun id h1=>(by cases h1), ?_,fun x hx=>?_,fun id hi=>(by simp[zb7,getH] at hi)⟩
 ·have hf:=hret.frm;exact⟨hf.os,hf.tape,hf.output,hf.size,fun x hx hn=>⟨(hf.block x hx hn).1,by rw[hout x (by omega)];exact(hf.block x hx hn).2⟩,fun x o ho=>⟨hle x o (hf.cell x o ho).1,(hf.cell x o ho).2⟩⟩
 ·rw[hout x (by omega)];exact hret.top x hx
def pd (s:List Pat):List AV:=(s.map Pat.cc).flatten.map .d
theorem zeW (a b:List Pat):pd (a++b)=pd a++pd b:=by simp[pd]
theorem zmI (x:Pat):pd [x]=[.d (.i x.op),.d (.i x.ctor),.d (.i x.n),.d (.i x.m),.d (.i x.var),.d (zad x.kids)]:=rfl
theorem zif (s:List Pat):(pd s).length=s.length*6:=by
 induction s with
 |nil=>rfl
 |cons x r ih=>rw[show x::r=[x]++r from rfl,zeW,xaa,ih,zmI];simp;omega
theorem zqe {s:List Pat}{i:Nat} (h:i<s.length):pd s=pd (s.take i)++(pd [nth s i]++pd (s.drop (i+1))):=by
 rw[<-zeW,<-zeW];congr 1
 rw[show [nth s i]++s.drop (i+1)=nth s i::s.drop (i+1) from rfl,<-zaS h,List.take_append_drop]
theorem zie (s:List Pat):AV.idsL (pd s)=[]:=by
 unfold pd;induction (s.map Pat.cc).flatten with
 |nil=>rfl
 |cons x r ih=>rw[xae,AV.idsL,ih];rfl
theorem ztE {s:List Pat}{i:Nat} (h:i<s.length):cutC (pd s) (i*6) 6=some [.d (.i (nth s i).op),.d (.i (nth s i).ctor),.d (.i (nth s i).n),.d (.i (nth s i).m),.d (.i (nth s i).var),.d (zad (nth s i).kids)]:=by
 rw[zqe h,ztc (by rw[zif,List.length_take];omega) (r:=pd [nth s i])]
 ·rfl
 ·rw[zmI];first|exact zvF|(simp[cutC];done)
theorem zxy {s:List Pat}{i:Nat} (h:i<s.length){t:Pat}:putC (pd s) (i*6) [.d (.i t.op),.d (.i t.ctor),.d (.i t.n),.d (.i t.m),.d (.i t.var),.d (zad t.kids)]=some (pd (s.set i t)):=by
 rw[zqe h,ztG (by rw[zif,List.length_take];omega) (B':=pd [t]++pd (s.drop (i+1))) (by rw[zmI,zmI];simp[putC])];rw[List.set_eq_take_append_cons_drop,if_pos h,<-zeW,<-zeW];rfl
abbrev z6:List AV:=[.d (.i 0),.d (.i 0),.d (.i 0),.d (.i 0),.d (.i 0),.nils]
theorem zv4 {s:List Pat}{i n:Nat} (hn:s.length=n) (h:i<=n):putC (pd s) (i*6) (zbb (n-i) z6)=some (pd (s.take i)++zbb (n-i) z6):=by
 subst hn;have e:pd s=pd (s.take i)++(pd (s.drop i)++[]):=by
  rw[List.append_nil,<-zeW,List.take_append_drop]
 have e2:putC (pd (s.take i)++(pd (s.drop i)++[])) (i*6) (zbb (s.length-i) z6)=some (pd (s.take i)++(zbb (s.length-i) z6++[])):=by
  rw[zuE (by rw[zif,List.length_take];omega) ?_];rw[zif,List.length_drop,zeo];rfl
 rw[<-e,List.append_nil] at e2;exact e2
theorem zuC {s:List Pat}{tl:List AV}:zb2 s.length 6 ((pd s++tl).take (s.length*6))=some (s.map Pat.cc):=by
 rw[List.take_append_of_le_length (by rw[zif];exact Nat.le_refl _),List.take_of_length_le (by rw[zif];exact Nat.le_refl _)];have:=zes (f:=Pat.cc) (k:=6) (l:=s) (fun _ _=>rfl);rw[<-this];congr 1
 unfold pd;induction s with
 |nil=>rfl
 |cons x r ih=>
  simp only[xae,List.flatten_cons,xaf,List.flatMap_cons];exact congrArg (_++·) (ih (zes (fun _ _=>rfl)))
theorem Pat.cs_ccs (l:List Pat):Pat.cs l=l.map Pat.cc:=by
 rw[Pat.cs_eq];exact List.map_congr_left (fun v _=>Pat.c_eq v)
theorem Ex.cs_ccs (l:List Ex):Ex.cs l=l.map Ex.cc:=by
 rw[Ex.cs_eq];exact List.map_congr_left (fun v _=>Ex.c_eq v)
theorem zep {xs:List Pat}{f:Nat}{caps:List AV}{hp:Hp}{p:Pat->Bool} (hs:xs.length<=1000000000000) (hcal:Callee Tryz.prog f)
  (hf:∀t∈xs,FnD Tryz.prog f ([.agg [.d (.i t.op),.d (.i t.ctor),.d (.i t.n),.d (.i t.m),.d (.i t.var),.d (zad t.kids)]]++caps) hp (.d (.bool (p t))) []) (k1:subH hp hp) (k2:zdH hp=true) (k3:zaV hp [] (.d .nilp) []=true):
  FnD Tryz.prog 249 [.d (zad xs),.fn f caps] hp (.d (.i (idxF p xs 0))) []:=by
 rw[show zad xs=D.sl (xs.map Pat.cc) by show D.sl (Pat.cs xs)=_;rw[Pat.cs_ccs]];refine bd Tryz.f249 19 [] [] fun w0 F0 own kept hk=>?_;refine xak (ι:=List (Pat)×List (Pat)) hk (fun x=>[(8,.d (.i (x.1.length:Int)))]) [4,5,9,10,11,12,13,14,15,16,17,18] (fun x=>[]) (fun x=>x.1++x.2=xs/\idxF p x.2 x.1.length=idxF p xs 0) (fun x=>x.2.length) ([],xs) ⟨by simp,rfl⟩ ⟨⟨_,rfl,xaq ?_⟩,trivial⟩ trivial (fun x=>zgl hp) (fun x hg1=>?_);focus (first|rfl|(simp;done)|(simp_all;done)|omega)
 obtain⟨pre,rest⟩:=x;dsimp only at hg1 ⊢;refine evc [] [] ?_;refine sq ?_ ?_<;>intro h1 h1p h1s<;>(try simp only[Q] at h1p);rcases rest with _|⟨y,rest⟩
 ·exfalso;simp_all
 refine xaS sl34 .none rfl rfl rfl rfl (zaK hg1.1) rfl ?_;refine ev ?_;refine xaH (cr:=[]) hcal (hf y (by rw[<-hg1.1];simp)) rfl .none rfl rfl rfl (LeL.refl _) k1 k2 (zcS k3 _) rfl ?_;refine tv ?_;refine sq ?_ ?_<;>intro h2 h2p h2s<;>(try simp only[Q] at h2p);focus (refine rn [] (r1 rfl) (.eqd ?_) ⟨rfl,rfl⟩ (fun _ _ h=>h) (fun _ h=>h);all_goals (rw[<-hg1.2];simp[idxF,h1s,h1p,h2s,h2p]))
 refine ar ?_;refine xah ((pre++[y],rest)) ⟨⟨(by have hz:=hg1.1;rw[<-hz];simp),(by rw[<-hg1.2];simp[idxF,h2s])⟩,(by simp),Sub.x (by kernel_rfl) (by kernel_rfl) ⟨⟨_,rfl,xaq ?_⟩,trivial⟩ (by simp) (by simp[zdu]) trivial⟩;focus (first|rfl|(simp;done)|(simp_all;done)|omega)
 have hrest:rest=[]:=by
  rcases rest with _|⟨a,b⟩
  ·rfl
  ·exfalso;have hz:=congrArg List.length (hg1.1);simp only[xaa,xab,xac] at hz;omega
 subst hrest;focus (refine rn [] (r1 rfl) (.eqd ?_) ⟨rfl,rfl⟩ (fun _ _ h=>h) (fun _ h=>h);all_goals (rw[<-hg1.2];simp[idxF,h1s,h1p]))
theorem zgg {xs:List Pat}{f:Nat}{caps:List AV}{hp:Hp}{p:Pat->Bool} (hs:xs.length<=1000000000000) (hcal:Callee Tryz.prog f)
  (hf:∀t∈xs,FnD Tryz.prog f ([.agg [.d (.i t.op),.d (.i t.ctor),.d (.i t.n),.d (.i t.m),.d (.i t.var),.d (zad t.kids)]]++caps) hp (.d (.bool (p t))) []) (k1:subH hp hp) (k2:zdH hp=true) (k3:zaV hp [] (.d .nilp) []=true):
  FnD Tryz.prog 153 [.d (zad xs),.fn f caps] hp (.d (.bool (xs.any p))) []:=by
 refine bd Tryz.f153 9 [] [] fun w0 F0 own kept hk=>?_;refine Walk.call (cr:=[]) zlM (zep hs hcal hf k1 k2 k3) rfl .none rfl rfl (LeL.refl _) k1 k2 (zcS k3 _) rfl ?_;refine ev ?_;refine rn [] (r1 rfl) (.eqd ?_) ⟨rfl,rfl⟩ (fun _ _ h=>h) (fun _ h=>h);rotate_left;all_goals (exact congrArg D.bool (zeE p xs 0))
end Go.Proofs.YtlfipehhbdjnjaaGreat
