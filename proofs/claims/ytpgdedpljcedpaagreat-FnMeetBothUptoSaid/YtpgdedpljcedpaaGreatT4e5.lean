/-
  THE ABSTRACT WALK AND THE WALKS, part 5 of 7: the parts F36, F37, F38, F79, F59, F80, F60, F61, F30, F63, F81, F110, F113, F120, F73, F82, F83, F84, G5, F122, F125, F123, Ta, F90, F91, F92, F93.
-/
import Derived.Test.YtpgdedpljcedpaaGreatT4e4
namespace Go.Proofs.YtpgdedpljcedpaaGreat
open Go
set_option linter.unusedSimpArgs false
set_option linter.unusedVariables false
set_option maxRecDepth 100000
set_option maxHeartbeats 2000000
def namL (f:Pat→Int→Nat→Pat×Int×Nat):List Pat→Int→Nat→List Pat×Int×Nat
 | [],m,q=>([],m,q)
 |x::r,m,q=>((f x m q).1::(namL f r (f x m q).2.1 (f x m q).2.2).1,(namL f r (f x m q).2.1 (f x m q).2.2).2)
def namP (b:Str):Nat→Pat→Int→Nat→Pat×Int×Nat
 |0,p,m,q=>(p,m,q)
 |n+1,p,m,q=>
  if 5<m∨p.op=5∨p.op=3 then (p,m,q)
  else if p.op=1∧zaz b q 2=0 then (⟨2,0,0,0,m,[]⟩,m+1,q+1)
  else if (namL (namP b n) p.kids m (if p.op=1 then q+1 else q)).2.1≤5 then
   (if zaz b (namL (namP b n) p.kids m (if p.op=1 then q+1 else q)).2.2 6=0 then
    (⟨6,0,0,0,(namL (namP b n) p.kids m (if p.op=1 then q+1 else q)).2.1,[⟨p.op,p.ctor,p.n,p.m,p.var,(namL (namP b n) p.kids m (if p.op=1 then q+1 else q)).1⟩]⟩,
     (namL (namP b n) p.kids m (if p.op=1 then q+1 else q)).2.1+1,(namL (namP b n) p.kids m (if p.op=1 then q+1 else q)).2.2+1)
   else (⟨p.op,p.ctor,p.n,p.m,p.var,(namL (namP b n) p.kids m (if p.op=1 then q+1 else q)).1⟩,(namL (namP b n) p.kids m (if p.op=1 then q+1 else q)).2.1,(namL (namP b n) p.kids m (if p.op=1 then q+1 else q)).2.2+1))
  else (⟨p.op,p.ctor,p.n,p.m,p.var,(namL (namP b n) p.kids m (if p.op=1 then q+1 else q)).1⟩,(namL (namP b n) p.kids m (if p.op=1 then q+1 else q)).2.1,(namL (namP b n) p.kids m (if p.op=1 then q+1 else q)).2.2)
section
variable {b:Str}{n:Nat}{p:Pat}{m:Int}{q:Nat}{ks:List Pat}{zm:Int}{zq:Nat}
theorem zty (h:5<m∨p.op=5∨p.op=3):namP b (n+1) p m q=(p,m,q):=by simp only[namP];rw[if_pos h]
theorem ztz (h:¬(5<m∨p.op=5∨p.op=3)) (h2:p.op=1∧zaz b q 2=0):namP b (n+1) p m q=(⟨2,0,0,0,m,[]⟩,m+1,q+1):=by simp only[namP];rw[if_neg h,if_pos h2]
theorem ztA (h:¬(5<m∨p.op=5∨p.op=3)) (h2:¬(p.op=1∧zaz b q 2=0)) (hz:(ks,zm,zq)=namL (namP b n) p.kids m (if p.op=1 then q+1 else q)) (h3:zm≤5) (h4:zaz b zq 6=0):
  namP b (n+1) p m q=(⟨6,0,0,0,zm,[⟨p.op,p.ctor,p.n,p.m,p.var,ks⟩]⟩,zm+1,zq+1):=by
 simp only[namP];rw[if_neg h,if_neg h2,←hz];dsimp only;rw[if_pos h3,if_pos h4]
theorem ztB (h:¬(5<m∨p.op=5∨p.op=3)) (h2:¬(p.op=1∧zaz b q 2=0)) (hz:(ks,zm,zq)=namL (namP b n) p.kids m (if p.op=1 then q+1 else q)) (h3:zm≤5) (h4:¬zaz b zq 6=0):
  namP b (n+1) p m q=(⟨p.op,p.ctor,p.n,p.m,p.var,ks⟩,zm,zq+1):=by
 simp only[namP];rw[if_neg h,if_neg h2,←hz];dsimp only;rw[if_pos h3,if_neg h4]
theorem ztC (h:¬(5<m∨p.op=5∨p.op=3)) (h2:¬(p.op=1∧zaz b q 2=0)) (hz:(ks,zm,zq)=namL (namP b n) p.kids m (if p.op=1 then q+1 else q)) (h3:¬zm≤5):
  namP b (n+1) p m q=(⟨p.op,p.ctor,p.n,p.m,p.var,ks⟩,zm,zq):=by
 simp only[namP];rw[if_neg h,if_neg h2,←hz];dsimp only;rw[if_neg h3]
end
def NamOk (p:Pat) (m:Int) (q:Nat) (r:Pat×Int×Nat):Prop:=m≤r.2.1∧r.2.1≤6∧r.2.2≤q+2*p.size∧r.1.size≤2*p.size∧(p.ok→r.1.ok)
theorem zsM {f:Pat→Int→Nat→Pat×Int×Nat}:∀(l:List Pat) (m:Int) (q:Nat),(∀x∈l,∀m q,0≤m→m≤6→NamOk x m q (f x m q))→0≤m→m≤6→
  m≤(namL f l m q).2.1∧(namL f l m q).2.1≤6∧(namL f l m q).2.2≤q+2*Pats.size l∧Pats.size (namL f l m q).1≤2*Pats.size l∧(namL f l m q).1.length=l.length∧(Pats.ok l→Pats.ok (namL f l m q).1)
 | [],m,q,_,_,h6=>by simp[namL,Pats.size,h6]
 |x::r,m,q,h,h0,h6=>by
  obtain⟨a1,a2,a3,a4,a5⟩:=h x (by simp) m q h0 h6;obtain⟨b1,b2,b3,b4,b5,b6⟩:=zsM r (f x m q).2.1 (f x m q).2.2 (fun y hy=>h y (by simp[hy])) (by omega) a2;simp only[namL,Pats.size,xab];refine⟨by omega,by omega,by omega,by omega,by omega,fun ho=>?_⟩;exact⟨a5 ho.1,b6 ho.2⟩
theorem zos {b:Str}:∀(n:Nat) (p:Pat) (m:Int) (q:Nat),0≤m→m≤6→NamOk p m q (namP b n p m q)
 |0,p,m,q,h0,h6=>⟨by simp[namP],by simp[namP,h6],by simp[namP],by simp[namP];omega,fun h=>h⟩
 |n+1,p,m,q,h0,h6=>by
  have hs:=Pat.size_eq p;by_cases h:5<m∨p.op=5∨p.op=3
  ·rw[zty h];exact⟨Int.le_refl _,h6,by dsimp only;omega,by dsimp only;omega,fun h=>h⟩
  ·by_cases h2:p.op=1∧zaz b q 2=0
   ·rw[ztz h h2];refine⟨by dsimp only;omega,by dsimp only;omega,by dsimp only;omega, ?_,fun _=>?_⟩
    ·show(Pat.mk 2 0 0 0 m []).size≤_;rw[Pat.size_eq];simp only[Pat.kids,Pats.size];omega
    ·show(Pat.mk 2 0 0 0 m []).ok;rw[Pat.ok_iff];exact⟨by simp[Pat.kids],trivial⟩
   ·generalize hz:namL (namP b n) p.kids m (if p.op=1 then q+1 else q)=z;obtain⟨ks,zm,zq⟩:=z;have hq:(if p.op=1 then q+1 else q)≤q+1:=by split<;>omega
    obtain⟨b1,b2,b3,b4,b5,b6⟩:=zsM (f:=namP b n) p.kids m (if p.op=1 then q+1 else q) (fun x _ m q h0 h6=>zos n x m q h0 h6) h0 h6;rw[hz] at b1 b2 b3 b4 b5 b6;dsimp only at b1 b2 b3 b4 b5 b6;have so:(Pat.mk p.op p.ctor p.n p.m p.var ks).size=1+Pats.size ks:=by rw[Pat.size_eq];rfl
    have ko:p.ok→(Pat.mk p.op p.ctor p.n p.m p.var ks).ok:=fun h=>by
     rw[Pat.ok_iff] at h ⊢;exact⟨by show ks.length≤_;rw[b5];exact h.1,b6 h.2⟩
    by_cases h3:zm≤5
    ·by_cases h4:zaz b zq 6=0
     ·rw[ztA h h2 hz.symm h3 h4];refine⟨by dsimp only;omega,by dsimp only;omega,by dsimp only;omega, ?_,fun hk=>?_⟩
      ·dsimp only;rw[Pat.size_eq];simp only[Pat.kids,Pats.size];rw[so];omega
      ·dsimp only;rw[Pat.ok_iff];exact⟨by simp[Pat.kids],ko hk,trivial⟩
     ·rw[ztB h h2 hz.symm h3 h4];exact⟨b1,b2,by dsimp only;omega,by dsimp only;rw[so];omega,ko⟩
    ·rw[ztC h h2 hz.symm h3];exact⟨b1,b2,by dsimp only;omega,by dsimp only;rw[so];omega,ko⟩
theorem zmh {f:Pat→Int→Nat→Pat×Int×Nat}{ks:List Pat}{zm:Int}{zq:Nat}{z:List Pat×Int×Nat} (h:(ks++(namL f [] zm zq).1,(namL f [] zm zq).2)=z):(ks,zm,zq)=z:=by
 rw[←h];simp[namL]
theorem xav {l:List Pat}{y:Pat}:Pats.size (l++[y])=Pats.size l+y.size:=by
 have:=Pats.size_split (pre:=l) (rest:=[]) (y:=y) rfl;simpa [Pats.size] using this
theorem zgm {b:Str} (hb:b.length≤2000):∀(n:Nat){p:Pat}{m:Int}{q:Nat},p.size≤n→p.ok→0≤m→m≤6→q+2*p.size≤1000000→
  FnD Tryz.prog 124 [.ref 900 0,.agg [.d (.i p.op),.d (.i p.ctor),.d (.i p.n),.d (.i p.m),.d (.i p.var),.d (zad p.kids)],.d (.i m)] [(900,some (rdB b q))] (.tup [.agg [.d (.i (namP b n p m q).1.op),.d (.i (namP b n p m q).1.ctor),.d (.i (namP b n p m q).1.n),.d (.i (namP b n p m q).1.m),.d (.i (namP b n p m q).1.var),.d (zad (namP b n p m q).1.kids)],.d (.i (namP b n p m q).2.1)]) [(900,some (rdB b (namP b n p m q).2.2))]
 |0,p,m,q,h,_,_,_,_=>by rw[Pat.size_eq] at h;omega
 |n+1,p,m,q,kn,hok,k0,k6,hq=>by
  have hs:=Pat.size_eq p;have hok':=hok;rw[Pat.ok_iff] at hok';have ih:=fun(x:Pat) (m:Int) (q:Nat) (h0:0≤m) (h6:m≤6)=>zos (b:=b) n x m q h0 h6;have hysz:∀ {pre rest:List Pat}{y:Pat},pre++y::rest=p.kids→y.size+Pats.size pre+Pats.size rest=Pats.size p.kids:=fun h=>by have:=Pats.size_split h;omega
  have hq1:(if p.op=1 then q+1 else q)≤q+1:=by split<;>omega
  generalize hqq:(if p.op=1 then q+1 else q)=q1 at hq1;have hqa:p.op=1→q1=q+1:=fun h=>by rw[←hqq,if_pos h]
  have hqb:¬p.op=1→q1=q:=fun h=>by rw[←hqq,if_neg h]
  refine bd Tryz.f124 82 [] [] fun w0 F0 own kept hk=>?_;refine bx 3004 ?_;refine ab 3006 tz28 ?_;refine ev ?_;refine sq ?_ ?_<;>intro h1 h1p h1s;try simp only[Q,Pat.cs_len] at h1p
  refine sqT ?_;refine sqT ?_;refine so ty28 ?_;refine ev ?_;refine rn [(900,some (rdB b (namP b (n+1) p m q).2.2))] (.cons (.cellA ty28 rfl rfl rfl) (.cons (.tmp rfl) .nil)) (.tup (.cons (.agg (.cons (.eqd ?_) (.cons (.eqd ?_) (.cons (.eqd ?_) (.cons (.eqd ?_) (.cons (.eqd ?_) (.cons (.eqd ?_) .nil))))))) (.cons (.eqd ?_) .nil))) ⟨rfl,rfl⟩ (SubO.get ⟨.inr ?_,⟨.inl rfl,trivial⟩⟩) (zaA rfl);rotate_left 8;try simp only[Q,Pat.cs_len] at h1p
  refine sq ?_ ?_<;>intro h3 h3p h3s;try simp only[Q,Pat.cs_len] at h3p
  refine sqT ?_;refine so ty28 ?_;refine ev ?_;refine rn [(900,some (rdB b (namP b (n+1) p m q).2.2))] (.cons (.cellA ty28 rfl rfl rfl) (.cons (.tmp rfl) .nil)) (.tup (.cons (.agg (.cons (.eqd ?_) (.cons (.eqd ?_) (.cons (.eqd ?_) (.cons (.eqd ?_) (.cons (.eqd ?_) (.cons (.eqd ?_) .nil))))))) (.cons (.eqd ?_) .nil))) ⟨rfl,rfl⟩ (SubO.get ⟨.inr ?_,⟨.inl rfl,trivial⟩⟩) (zaA rfl);rotate_left 8;try simp only[Q,Pat.cs_len] at h3p
  refine sq ?_ ?_<;>intro h5 h5p h5s;try simp only[Q,Pat.cs_len] at h5p
  refine so ty28 ?_;refine ev ?_;refine rn [(900,some (rdB b (namP b (n+1) p m q).2.2))] (.cons (.cellA ty28 rfl rfl rfl) (.cons (.tmp rfl) .nil)) (.tup (.cons (.agg (.cons (.eqd ?_) (.cons (.eqd ?_) (.cons (.eqd ?_) (.cons (.eqd ?_) (.cons (.eqd ?_) (.cons (.eqd ?_) .nil))))))) (.cons (.eqd ?_) .nil))) ⟨rfl,rfl⟩ (SubO.get ⟨.inr ?_,⟨.inl rfl,trivial⟩⟩) (zaA rfl);rotate_left 8;try simp only[Q,Pat.cs_len] at h5p
  refine sq ?_ ?_<;>intro h6 h6p h6s;try simp only[Q,Pat.cs_len] at h6p
  refine Walk.call (cr:=[]) zdw (zbl (p:=q) (n:=2) hb (by omega) (by omega)) rfl (.some rfl rfl h6) rfl rfl (LeL.refl _) ⟨rfl,trivial⟩ rfl rfl rfl ?_;refine evs [] [(30,true)] ?_ ⟨⟨_,rfl,h6⟩,trivial⟩;refine sq ?_ ?_<;>intro h7 h7p h7s;try simp only[Q,Pat.cs_len] at h7p
  refine bu [0,4] [_,_] st28 ?_;refine ev ?_;refine ar ?_;refine so ty28 ?_;refine ev ?_;refine rn [(900,some (rdB b (namP b (n+1) p m q).2.2))] (.cons (.cellA ty28 rfl rfl rfl) (.cons (.tmp rfl) .nil)) (.tup (.cons (.agg (.cons (.eqd ?_) (.cons (.eqd ?_) (.cons (.eqd ?_) (.cons (.eqd ?_) (.cons (.eqd ?_) (.cons (.nild ?_) .nil))))))) (.cons (.eqd ?_) .nil))) ⟨rfl,rfl⟩ (SubO.get ⟨.inr ?_,⟨.inl rfl,trivial⟩⟩) (zaA rfl);rotate_left 8;try simp only[Q,Pat.cs_len] at h7p
  refine ab 3008 tz28 ?_;refine so ty28 ?_;refine tv ?_;refine so ty26 ?_;refine tv ?_;refine xam 3008 5 1 6 rfl rfl rfl rfl ?_;refine xaj (ι:=List (Pat)×List (Pat)×(Int)×(Nat)×(List Pat)) hk (fun x=>[(10,.d (.i (x.1.length:Int))),(9,.d (.i x.2.2.1))]) [11,12,42,43,44,45,46,47,48,49,50,51,52,53,54,55,56,57,58,59,60,61,62,63,64,65,66] (fun x=>[(900,some (.box [.d (zcG b),.d (.i (x.2.2.2.1:Int))])),(3008,some (.box [.d (.i p.op),.d (.i p.ctor),.d (.i p.n),.d (.i p.m),.d (.i p.var),.gl 1 (x.2.2.2.2.map Pat.cc)])),(1,some (.tok (x.2.2.2.2.map Pat.cc).length 6))]) (fun x=>x.1++x.2.1=p.kids∧0≤x.2.2.1∧x.2.2.1≤6∧x.2.2.2.1≤q1+2*Pats.size x.1∧x.2.2.2.2.length=x.1.length∧(x.2.2.2.2++(namL (namP b n) x.2.1 x.2.2.1 x.2.2.2.1).1,(namL (namP b n) x.2.1 x.2.2.1 x.2.2.2.1).2)=namL (namP b n) p.kids m q1) (fun x=>x.2.1.length) ([],p.kids,m,q1,[]) ⟨by simp,by simpa using k0,by simpa using k6,by simp[Pats.size],by simp,by simp⟩ ⟨⟨_,rfl,xap ?_⟩,⟨⟨_,rfl,xap ?_⟩,trivial⟩⟩ ⟨?_,⟨?_,⟨zab ?_,trivial⟩⟩⟩ (fun x=>rfl) (fun x hg1=>?_);iterate 2 focus ((simp;done))
  iterate 2 focus (first|(simp[getH];done)|(show some (Res.box _)=some (Res.box _);rw[hqa (by omega)];all_goals rfl))
  focus ((simp;done))
  obtain⟨pre,rest,zm,zq,ks⟩:=x;dsimp only at hg1 ⊢;refine evc [] [] ?_;refine sq ?_ ?_<;>intro h8 h8p h8s;try simp only[Q,Pat.cs_len] at h8p
  rcases rest with _|⟨y,rest⟩
  ·exfalso;simp_all
  have hni:=ih y zm zq hg1.2.1 hg1.2.2.1;have hn1:=hni.1;have hn2:=hni.2.1;have hn3:=hni.2.2.1;refine xaT sl26 .none rfl rfl rfl rfl (Pat.cs_at' hg1.1) rfl ?_;refine ev ?_;refine wd zqv (zgm hb n (p:=y) (m:=zm) (q:=zq) (by have:=hysz hg1.1;omega) (Pats.ok_mem hok'.2 y (by rw[←hg1.1];simp)) (by omega) (by omega) (by have:=hysz hg1.1;omega)) rfl rfl ⟨rfl,trivial⟩ ?_;refine ev ?_;refine ab 3011 tz28 ?_;refine so ty28 ?_;refine ev ?_;refine si [0] [_] sl26 tz28 ?_;refine ap sl26 zz28 rfl rfl rfl (by simp) (by have hz:=congrArg List.length hg1.1;simp at hz ⊢;omega) ?_;refine ev ?_;refine so ty26 ?_;refine tv ?_;refine ar ?_;refine Exists.intro ((pre++[y],rest,(namP b n y zm zq).2.1,(namP b n y zm zq).2.2,ks++[(namP b n y zm zq).1])) ⟨⟨(by have hz:=hg1.1;rw[←hz];simp),⟨by dsimp only;omega,by dsimp only;omega,(by rw[xav];dsimp only;omega),(by simp[hg1.2.2.2.2.1]),(by rw[←hg1.2.2.2.2.2];simp[namL])⟩⟩,(by simp),sx ⟨⟨_,rfl,xap ?_⟩,⟨⟨_,rfl,xap ?_⟩,trivial⟩⟩ ⟨?_,⟨?_,⟨zab ?_,trivial⟩⟩⟩⟩;iterate 2 focus ((simp;done))
  iterate 2 focus (first|rfl|(simp[getH];done))
  focus ((simp;done))
  try simp only[Q,Pat.cs_len] at h8p
  have hrest:rest=[]:=by
   rcases rest with _|⟨a,b⟩
   ·rfl
   ·exfalso;have hz:=congrArg List.length (hg1.1);simp only[xaa,xab,xac] at hz;omega
  subst hrest;refine sq ?_ ?_<;>intro h9 h9p h9s;try simp only[Q,Pat.cs_len] at h9p
  refine Walk.call (cr:=[]) zdw (zbl (p:=zq) (n:=6) hb (by have e:=hg1.1;rw[List.append_nil] at e;rw[←e] at hs;omega) (by omega)) rfl (.some rfl rfl h9) rfl rfl (LeL.refl _) ⟨rfl,trivial⟩ rfl rfl rfl ?_;refine evs [] [(69,true)] ?_ ⟨⟨_,rfl,h9⟩,trivial⟩;refine sq ?_ ?_<;>intro h10 h10p h10s;try simp only[Q,Pat.cs_len] at h10p
  refine si [0] [_] sl26 tz28 ?_;refine bu [0,4,5] [_,_,_] st28 ?_;refine ev ?_;refine ar ?_;refine so ty28 ?_;refine ev ?_;refine rn [(900,some (rdB b (namP b (n+1) p m q).2.2))] (.cons (.cellA ty28 rfl rfl rfl) (.cons (.tmp rfl) .nil)) (.tup (.cons (.agg (.cons (.eqd ?_) (.cons (.eqd ?_) (.cons (.eqd ?_) (.cons (.eqd ?_) (.cons (.eqd ?_) (.cons (.eqd ?_) .nil))))))) (.cons (.eqd ?_) .nil))) ⟨rfl,rfl⟩ (SubO.get ⟨.inr ?_,⟨.inl rfl,trivial⟩⟩) (zaA rfl);rotate_left 8;try simp only[Q,Pat.cs_len] at h10p
  refine so ty28 ?_;refine ev ?_;refine rn [(900,some (rdB b (namP b (n+1) p m q).2.2))] (.cons (.cellA ty28 rfl rfl rfl) (.cons (.tmp rfl) .nil)) (.tup (.cons (.agg (.cons (.eqd ?_) (.cons (.eqd ?_) (.cons (.eqd ?_) (.cons (.eqd ?_) (.cons (.eqd ?_) (.cons (.gld ?_) .nil))))))) (.cons (.eqd ?_) .nil))) ⟨rfl,rfl⟩ (SubO.get ⟨.inr ?_,⟨.inl rfl,trivial⟩⟩) (zaA rfl);rotate_left 8;try simp only[Q,Pat.cs_len] at h9p
  refine sqF ?_;refine so ty28 ?_;refine ev ?_;refine rn [(900,some (rdB b (namP b (n+1) p m q).2.2))] (.cons (.cellA ty28 rfl rfl rfl) (.cons (.tmp rfl) .nil)) (.tup (.cons (.agg (.cons (.eqd ?_) (.cons (.eqd ?_) (.cons (.eqd ?_) (.cons (.eqd ?_) (.cons (.eqd ?_) (.cons (.gld ?_) .nil))))))) (.cons (.eqd ?_) .nil))) ⟨rfl,rfl⟩ (SubO.get ⟨.inr ?_,⟨.inl rfl,trivial⟩⟩) (zaA rfl);rotate_left 8;try simp only[Q,Pat.cs_len] at h6p
  refine sqF ?_;refine ab 3008 tz28 ?_;refine so ty28 ?_;refine tv ?_;refine so ty26 ?_;refine tv ?_;refine xam 3008 5 1 6 rfl rfl rfl rfl ?_;refine xaj (ι:=List (Pat)×List (Pat)×(Int)×(Nat)×(List Pat)) hk (fun x=>[(10,.d (.i (x.1.length:Int))),(9,.d (.i x.2.2.1))]) [11,12,42,43,44,45,46,47,48,49,50,51,52,53,54,55,56,57,58,59,60,61,62,63,64,65,66] (fun x=>[(900,some (.box [.d (zcG b),.d (.i (x.2.2.2.1:Int))])),(3008,some (.box [.d (.i p.op),.d (.i p.ctor),.d (.i p.n),.d (.i p.m),.d (.i p.var),.gl 1 (x.2.2.2.2.map Pat.cc)])),(1,some (.tok (x.2.2.2.2.map Pat.cc).length 6))]) (fun x=>x.1++x.2.1=p.kids∧0≤x.2.2.1∧x.2.2.1≤6∧x.2.2.2.1≤q1+2*Pats.size x.1∧x.2.2.2.2.length=x.1.length∧(x.2.2.2.2++(namL (namP b n) x.2.1 x.2.2.1 x.2.2.2.1).1,(namL (namP b n) x.2.1 x.2.2.1 x.2.2.2.1).2)=namL (namP b n) p.kids m q1) (fun x=>x.2.1.length) ([],p.kids,m,q1,[]) ⟨by simp,by simpa using k0,by simpa using k6,by simp[Pats.size],by simp,by simp⟩ ⟨⟨_,rfl,xap ?_⟩,⟨⟨_,rfl,xap ?_⟩,trivial⟩⟩ ⟨?_,⟨?_,⟨zab ?_,trivial⟩⟩⟩ (fun x=>rfl) (fun x hg1=>?_);iterate 2 focus ((simp;done))
  iterate 2 focus (first|(simp[getH];done)|(show some (Res.box _)=some (Res.box _);rw[hqb (by omega)];all_goals rfl))
  focus ((simp;done))
  obtain⟨pre,rest,zm,zq,ks⟩:=x;dsimp only at hg1 ⊢;refine evc [] [] ?_;refine sq ?_ ?_<;>intro h13 h13p h13s;try simp only[Q,Pat.cs_len] at h13p
  rcases rest with _|⟨y,rest⟩
  ·exfalso;simp_all
  have hni:=ih y zm zq hg1.2.1 hg1.2.2.1;have hn1:=hni.1;have hn2:=hni.2.1;have hn3:=hni.2.2.1;refine xaT sl26 .none rfl rfl rfl rfl (Pat.cs_at' hg1.1) rfl ?_;refine ev ?_;refine wd zqv (zgm hb n (p:=y) (m:=zm) (q:=zq) (by have:=hysz hg1.1;omega) (Pats.ok_mem hok'.2 y (by rw[←hg1.1];simp)) (by omega) (by omega) (by have:=hysz hg1.1;omega)) rfl rfl ⟨rfl,trivial⟩ ?_;refine ev ?_;refine ab 3011 tz28 ?_;refine so ty28 ?_;refine ev ?_;refine si [0] [_] sl26 tz28 ?_;refine ap sl26 zz28 rfl rfl rfl (by simp) (by have hz:=congrArg List.length hg1.1;simp at hz ⊢;omega) ?_;refine ev ?_;refine so ty26 ?_;refine tv ?_;refine ar ?_;refine Exists.intro ((pre++[y],rest,(namP b n y zm zq).2.1,(namP b n y zm zq).2.2,ks++[(namP b n y zm zq).1])) ⟨⟨(by have hz:=hg1.1;rw[←hz];simp),⟨by dsimp only;omega,by dsimp only;omega,(by rw[xav];dsimp only;omega),(by simp[hg1.2.2.2.2.1]),(by rw[←hg1.2.2.2.2.2];simp[namL])⟩⟩,(by simp),sx ⟨⟨_,rfl,xap ?_⟩,⟨⟨_,rfl,xap ?_⟩,trivial⟩⟩ ⟨?_,⟨?_,⟨zab ?_,trivial⟩⟩⟩⟩;iterate 2 focus ((simp;done))
  iterate 2 focus (first|rfl|(simp[getH];done))
  focus ((simp;done))
  try simp only[Q,Pat.cs_len] at h13p
  have hrest:rest=[]:=by
   rcases rest with _|⟨a,b⟩
   ·rfl
   ·exfalso;have hz:=congrArg List.length (hg1.1);simp only[xaa,xab,xac] at hz;omega
  subst hrest;refine sq ?_ ?_<;>intro h14 h14p h14s;try simp only[Q,Pat.cs_len] at h14p
  refine Walk.call (cr:=[]) zdw (zbl (p:=zq) (n:=6) hb (by have e:=hg1.1;rw[List.append_nil] at e;rw[←e] at hs;omega) (by omega)) rfl (.some rfl rfl h14) rfl rfl (LeL.refl _) ⟨rfl,trivial⟩ rfl rfl rfl ?_;refine evs [] [(69,true)] ?_ ⟨⟨_,rfl,h14⟩,trivial⟩;refine sq ?_ ?_<;>intro h15 h15p h15s;try simp only[Q,Pat.cs_len] at h15p
  refine si [0] [_] sl26 tz28 ?_;refine bu [0,4,5] [_,_,_] st28 ?_;refine ev ?_;refine ar ?_;refine so ty28 ?_;refine ev ?_;refine rn [(900,some (rdB b (namP b (n+1) p m q).2.2))] (.cons (.cellA ty28 rfl rfl rfl) (.cons (.tmp rfl) .nil)) (.tup (.cons (.agg (.cons (.eqd ?_) (.cons (.eqd ?_) (.cons (.eqd ?_) (.cons (.eqd ?_) (.cons (.eqd ?_) (.cons (.eqd ?_) .nil))))))) (.cons (.eqd ?_) .nil))) ⟨rfl,rfl⟩ (SubO.get ⟨.inr ?_,⟨.inl rfl,trivial⟩⟩) (zaA rfl);rotate_left 8;try simp only[Q,Pat.cs_len] at h15p
  refine so ty28 ?_;refine ev ?_;refine rn [(900,some (rdB b (namP b (n+1) p m q).2.2))] (.cons (.cellA ty28 rfl rfl rfl) (.cons (.tmp rfl) .nil)) (.tup (.cons (.agg (.cons (.eqd ?_) (.cons (.eqd ?_) (.cons (.eqd ?_) (.cons (.eqd ?_) (.cons (.eqd ?_) (.cons (.gld ?_) .nil))))))) (.cons (.eqd ?_) .nil))) ⟨rfl,rfl⟩ (SubO.get ⟨.inr ?_,⟨.inl rfl,trivial⟩⟩) (zaA rfl);rotate_left 8;try simp only[Q,Pat.cs_len] at h14p
  refine sqF ?_;refine so ty28 ?_;refine ev ?_;refine rn [(900,some (rdB b (namP b (n+1) p m q).2.2))] (.cons (.cellA ty28 rfl rfl rfl) (.cons (.tmp rfl) .nil)) (.tup (.cons (.agg (.cons (.eqd ?_) (.cons (.eqd ?_) (.cons (.eqd ?_) (.cons (.eqd ?_) (.cons (.eqd ?_) (.cons (.gld ?_) .nil))))))) (.cons (.eqd ?_) .nil))) ⟨rfl,rfl⟩ (SubO.get ⟨.inr ?_,⟨.inl rfl,trivial⟩⟩) (zaA rfl);rotate_left 8;all_goals ((first|(rw[zty (by omega)];all_goals first|rfl|(show _=D.sl (Pat.cs _);rw[Pat.cs_cc];all_goals rfl)|(show _=Pat.cs _;rw[Pat.cs_cc];all_goals rfl)|(show _=D.sl [[D.i _,D.i _,D.i _,D.i _,D.i _,D.sl (Pat.cs _)]];rw[Pat.cs_cc];all_goals rfl))|(rw[ztz (by omega) ⟨by omega,by omega⟩];all_goals first|rfl|(show _=D.sl (Pat.cs _);rw[Pat.cs_cc];all_goals rfl)|(show _=Pat.cs _;rw[Pat.cs_cc];all_goals rfl)|(show _=D.sl [[D.i _,D.i _,D.i _,D.i _,D.i _,D.sl (Pat.cs _)]];rw[Pat.cs_cc];all_goals rfl))|(have hz:(ks,zm,zq)=namL (namP b n) p.kids m (if p.op=1 then q+1 else q):=(by rw[hqq];exact zmh hg1.2.2.2.2.2);rw[ztA (by omega) (fun hh=>by omega) hz (by omega) (by omega)];all_goals first|rfl|(show _=D.sl (Pat.cs _);rw[Pat.cs_cc];all_goals rfl)|(show _=Pat.cs _;rw[Pat.cs_cc];all_goals rfl)|(show _=D.sl [[D.i _,D.i _,D.i _,D.i _,D.i _,D.sl (Pat.cs _)]];rw[Pat.cs_cc];all_goals rfl))|(have hz:(ks,zm,zq)=namL (namP b n) p.kids m (if p.op=1 then q+1 else q):=(by rw[hqq];exact zmh hg1.2.2.2.2.2);rw[ztB (by omega) (fun hh=>by omega) hz (by omega) (by omega)];all_goals first|rfl|(show _=D.sl (Pat.cs _);rw[Pat.cs_cc];all_goals rfl)|(show _=Pat.cs _;rw[Pat.cs_cc];all_goals rfl)|(show _=D.sl [[D.i _,D.i _,D.i _,D.i _,D.i _,D.sl (Pat.cs _)]];rw[Pat.cs_cc];all_goals rfl))|(have hz:(ks,zm,zq)=namL (namP b n) p.kids m (if p.op=1 then q+1 else q):=(by rw[hqq];exact zmh hg1.2.2.2.2.2);rw[ztC (by omega) (fun hh=>by omega) hz (by omega)];all_goals first|rfl|(show _=D.sl (Pat.cs _);rw[Pat.cs_cc];all_goals rfl)|(show _=Pat.cs _;rw[Pat.cs_cc];all_goals rfl)|(show _=D.sl [[D.i _,D.i _,D.i _,D.i _,D.i _,D.sl (Pat.cs _)]];rw[Pat.cs_cc];all_goals rfl))))
def szP:Nat→Nat
 |0=>1
 |d+1=>1+3*szP d
theorem zxg (d:Nat):1≤szP d:=by cases d<;>simp only[szP]<;>omega
theorem zn7:anyP.size=1∧anyP.ok:=⟨by rw[Pat.size_eq];rfl,by rw[Pat.ok_iff];exact⟨by simp[anyP,Pat.kids],trivial⟩⟩
theorem zww {f:Ty→Nat→Pat×Nat}{k:Nat}:∀(l:List Ty) (q:Nat),(∀t∈l,∀q,(f t q).1.size≤k∧(f t q).1.ok)→Pats.size (dA f l q).1≤l.length*k∧Pats.ok (dA f l q).1
 | [],q,_=>by simp[dA,Pats.size,Pats.ok]
 |t::r,q,h=>by
  have h1:=h t (by simp) q;have h2:=zww r (f t q).2 (fun x hx=>h x (by simp[hx]));simp only[dA,xab,Nat.add_mul,Pats.size];exact⟨by omega,h1.2,h2.2⟩
theorem zl1 {b:Str}{w:List Data} (hf:Few w):∀(d:Nat) (t:Ty) (p:Nat),TyIn w.length t→(zaG b w d t p).1.size≤szP d∧(zaG b w d t p).1.ok
 |0,t,p,_=>by simp only[zaG,szP];have:=zn7;exact⟨by omega,this.2⟩
 |d+1,⟨a,k⟩,p,ht=>by
  have ih:=fun t p ht=>zl1 (b:=b) hf d t p ht;have ha:=zn7;have hp:=zxg d;simp only[szP];by_cases c1:d=0
  ·rw[zsq c1];exact⟨by dsimp only;omega,ha.2⟩
  by_cases c2:zaz b p 4=0
  ·rw[zsr c1 c2];exact⟨by dsimp only;omega,ha.2⟩
  by_cases c3:zaz b (p+1) 6=0
  ·rw[zss c1 c2 c3];have h1:=ih ⟨a,k⟩ (p+2) ht;have h2:=ih ⟨a,k⟩ (zaG b w d ⟨a,k⟩ (p+2)).2 ht;refine⟨?_, ?_⟩
   ·dsimp only;rw[Pat.size_eq];simp only[Pat.kids,Pats.size];omega
   ·dsimp only;rw[Pat.ok_iff];exact⟨by simp[Pat.kids],h1.2,h2.2,trivial⟩
  by_cases c4:a = -1
  ·rw[zst c1 c2 c3 c4];refine⟨?_, ?_⟩
   ·dsimp only;rw[Pat.size_eq];simp only[Pat.kids,Pats.size];omega
   ·dsimp only;rw[Pat.ok_iff];exact⟨by simp[Pat.kids],trivial⟩
  by_cases c5:(zah w ⟨a,k⟩).length=0
  ·rw[zsu c1 c2 c3 c4 c5];exact⟨by dsimp only;omega,ha.2⟩
  ·rw[zsv c1 c2 c3 c4 c5 rfl];have hm:=zjw (b:=b) (p:=p+2) c5;have h3:=hf ⟨a,k⟩ _ hm ht;have h1:=zww (f:=zaG b w d) (k:=szP d) _ (p+3) (fun u hu q=>ih u q (h3.2 u hu));have h2:=zut (f:=zaG b w d) (zaa w ⟨a,k⟩ (nth (zah w ⟨a,k⟩) (zaz b (p+2) (zah w ⟨a,k⟩).length).toNat)) (p+3);have h4:(zaa w ⟨a,k⟩ (nth (zah w ⟨a,k⟩) (zaz b (p+2) (zah w ⟨a,k⟩).length).toNat)).length*szP d≤3*szP d:=Nat.mul_le_mul_right _ h3.1;refine⟨?_, ?_⟩
   ·dsimp only;rw[Pat.size_eq];simp only[Pat.kids];omega
   ·dsimp only;rw[Pat.ok_iff];exact⟨by simp only[Pat.kids];omega,h1.2⟩
theorem zmj {b:Str}{p:Nat}{l:List Int} (h:1≤l.length):numV b p l∈l:=by
 have:=zc3 (b:=b) (p:=p) (n:=(l.length:Int)) (by omega);exact zaf (by omega)
theorem num4 (b:Str) (p:Nat):1≤numV b p [3,2,4,1]∧numV b p [3,2,4,1]≤4:=by
 have:=zmj (b:=b) (p:=p) (l:=[3,2,4,1]) (by simp);simp only[List.mem_cons,List.not_mem_nil,or_false] at this;omega
theorem zrJ {d:Nat} (h:d≤4):szP d≤121∧bdP d≤200:=by
 have:d=0∨d=1∨d=2∨d=3∨d=4:=by omega
 rcases this with rfl|rfl|rfl|rfl|rfl<;>decide
def zc4 (b:Str) (w:List Data) (t:Ty) (p:Nat):Pat×Int×Nat:=
 namP b (zaG b w (numV b p [3,2,4,1]).toNat t (p+1)).1.size (zaG b w (numV b p [3,2,4,1]).toNat t (p+1)).1 0 (zaG b w (numV b p [3,2,4,1]).toNat t (p+1)).2
def zb7 (b:Str) (w:List Data) (t:Ty) (p:Nat):Pat:=if isP w t (zc4 b w t p).1 then (zc4 b w t p).1 else anyP
theorem zkL {b:Str}{w:List Data} (hf:Few w){t:Ty} (ht:TyIn w.length t) (p:Nat):(zc4 b w t p).2.2≤p+500∧(zc4 b w t p).1.size≤242∧(zc4 b w t p).1.ok:=by
 have h4:=num4 b p;have hs:=zrJ (d:=(numV b p [3,2,4,1]).toNat) (by omega);have h1:=zl1 (b:=b) hf (numV b p [3,2,4,1]).toNat t (p+1) ht;have h2:=zje (b:=b) hf (numV b p [3,2,4,1]).toNat t (p+1) ht;have h3:=zos (b:=b) (zaG b w (numV b p [3,2,4,1]).toNat t (p+1)).1.size (zaG b w (numV b p [3,2,4,1]).toNat t (p+1)).1 0 (zaG b w (numV b p [3,2,4,1]).toNat t (p+1)).2 (by omega) (by omega);obtain⟨_,_,n3,n4,n5⟩:=h3;exact⟨by unfold zc4;omega,by unfold zc4;omega,n5 h1.2⟩
theorem znF {b:Str}{w:List Data} (hf:Few w){t:Ty} (ht:TyIn w.length t) (p:Nat):(zb7 b w t p).size≤242∧(zb7 b w t p).ok:=by
 have h:=zkL (b:=b) hf ht p;have ha:=zn7;unfold zb7;split
 ·exact⟨h.2.1,h.2.2⟩
 ·exact⟨by omega,ha.2⟩
theorem zi0 {b:Str}{w:List Data} (hb:b.length≤2000) (hw:WT w) (hf:Few w){a k:Int}{p:Nat} (hp:p≤100000) (ht:TyIn w.length ⟨a,k⟩):
  FnD Tryz.prog 72 [.ref 900 0,.d (zam w),.agg [.d (.i a),.d (.i k)]] [(900,some (rdB b p))]
   (.agg [.d (.i (zb7 b w ⟨a,k⟩ p).op),.d (.i (zb7 b w ⟨a,k⟩ p).ctor),.d (.i (zb7 b w ⟨a,k⟩ p).n),.d (.i (zb7 b w ⟨a,k⟩ p).m),.d (.i (zb7 b w ⟨a,k⟩ p).var),.d (zad (zb7 b w ⟨a,k⟩ p).kids)]) [(900,some (rdB b (zc4 b w ⟨a,k⟩ p).2.2))]:=by
 have h4:=num4 b p;have hs:=zrJ (d:=(numV b p [3,2,4,1]).toNat) (by omega);have h1:=zl1 (b:=b) hf (numV b p [3,2,4,1]).toNat ⟨a,k⟩ (p+1) ht;have h2:=zje (b:=b) hf (numV b p [3,2,4,1]).toNat ⟨a,k⟩ (p+1) ht;have hr:=zkL (b:=b) hf ht p;have hnum:=zcT (b:=b) (p:=p) (l:=[3,2,4,1]) hb (by omega) (by simp) (by simp);have hdr:=zeR hb hw hf (numV b p [3,2,4,1]).toNat (a:=a) (k:=k) (m:=numV b p [3,2,4,1]) (p:=p+1) (by omega) (by omega) (by omega) (by omega) ht;have hnm:=zgm hb (zaG b w (numV b p [3,2,4,1]).toNat ⟨a,k⟩ (p+1)).1.size (m:=0) (q:=(zaG b w (numV b p [3,2,4,1]).toNat ⟨a,k⟩ (p+1)).2) (Nat.le_refl _) h1.2 (by omega) (by omega) (by omega);have hsp:zb7 b w ⟨a,k⟩ p=if isP w ⟨a,k⟩ (zc4 b w ⟨a,k⟩ p).1 then (zc4 b w ⟨a,k⟩ p).1 else anyP:=rfl
 rw[show namP b (zaG b w (numV b p [3,2,4,1]).toNat ⟨a,k⟩ (p+1)).1.size (zaG b w (numV b p [3,2,4,1]).toNat ⟨a,k⟩ (p+1)).1 0 (zaG b w (numV b p [3,2,4,1]).toNat ⟨a,k⟩ (p+1)).2=zc4 b w ⟨a,k⟩ p from rfl] at hnm;generalize numV b p [3,2,4,1]=m at *;refine bd Tryz.f72 28 [] [] fun w0 F0 own kept hk=>?_;refine bx 3005 ?_;refine ab 3006 tz28 ?_;refine tv ?_;refine si [0,1,2,3] [_,_,_,_] sl62 tz3 ?_;refine wd zh5 (hnum) rfl rfl ⟨rfl,trivial⟩ ?_;refine wd zmD (hdr) rfl rfl ⟨rfl,trivial⟩ ?_;refine wd zqv (hnm) rfl rfl ⟨rfl,trivial⟩ ?_;refine evd [] [] ?_;refine ab 3007 tz28 ?_;refine so ty28 ?_;refine evd [] [] ?_;refine dr ?_;refine wc zqt (zhW hw ht hr.2.2 (by omega)) rfl rfl ?_;refine ev ?_;refine sq ?_ ?_<;>intro h1 h1p h1s;try simp only[Q] at h1p
 refine bu [0] [_] st28 ?_;refine so ty28 ?_;refine tv ?_;refine rn [(900,some (rdB b (zc4 b w ⟨a,k⟩ p).2.2))] (.cons (.cellA ty28 rfl rfl rfl) .nil) (.agg (.cons (.eqd ?_) (.cons (.eqd ?_) (.cons (.eqd ?_) (.cons (.eqd ?_) (.cons (.eqd ?_) (.cons (.nild ?_) .nil))))))) ⟨rfl,rfl⟩ (SubO.get ⟨.inr ?_,⟨.inl rfl,trivial⟩⟩) (zaA rfl);rotate_left 7;try simp only[Q] at h1p
 refine so ty28 ?_;refine tv ?_;refine rn [(900,some (rdB b (zc4 b w ⟨a,k⟩ p).2.2))] (.cons (.cellA ty28 rfl rfl rfl) .nil) (.agg (.cons (.eqd ?_) (.cons (.eqd ?_) (.cons (.eqd ?_) (.cons (.eqd ?_) (.cons (.eqd ?_) (.cons (.eqd ?_) .nil))))))) ⟨rfl,rfl⟩ (SubO.get ⟨.inr ?_,⟨.inl rfl,trivial⟩⟩) (zaA rfl);rotate_left 7;all_goals (first|((first|(rw[hsp,if_neg (by rw[h1s];simp)];all_goals rfl)|(rw[hsp,if_pos h1s];all_goals rfl));done)|(rfl))
theorem zpZ:FnD Tryz.prog 135 [] [] (.agg [.d (.i 1),.d (.i 0),.d (.i 0),.d (.i 0),.d (.i 0),.d (.sl [])]) []:=by
 refine bd Tryz.f135 2 [] [] fun w0 F0 own kept hk=>?_;refine ab 3000 tz28 ?_;refine tv ?_;refine bu [0] [_] st28 ?_;refine so ty28 ?_;refine tv ?_;focus (refine rn0 (.cons (.cellA ty28 rfl rfl rfl) .nil) (.agg (.cons (.eqd ?_) (.cons (.eqd ?_) (.cons (.eqd ?_) (.cons (.eqd ?_) (.cons (.eqd ?_) (.cons (.nild ?_) .nil)))))));all_goals (rfl))
section
variable {c:Ctx}{all:Array Oper}{chk:List Rec→Prop}{os:List Oper}{recs:List Rec}{env:Env}{hp:Hp}{Q:St→Prop}
variable {d ty:Nat}{pos:String}{af:Array Edge}{g:Option (Nat×Bool)}{pg:List (Nat×AV)}{t yt:TypeId}{x y:Operand}
theorem xaz {id k e yb:Nat}{xs ys:List (List D)}{vy:AV}{ids:List Nat} (hkp:KeptIn c.kept ids) (hid:zba id ids=false) (hne:xs++ys≠[]) (ht:SlT c.P t e k yb) (hz:ZeroT c.P e k) (hg:GH all env g pg) (hd:Nat.blt d c.n=true)
  (hx:opd env x=some (.gv id xs)) (hy:opd env y=some vy) (hyd:vy.toD=some (.sl ys)) (htok:getH hp id=some (.tok xs.length k)) (hky:∀y,y∈ys→y.length=k)
  (hb:(xs.length+ys.length)*yb≤140737488355328) (hm:xs.length+ys.length≤9223372036854775807)
  (hn:Walk c all chk os (zao (pg++(opF x (.gv id xs)++opF y vy)) [(id,.tok xs.length k)] [] ⟨some (d,.ms id (xs++ys).length),[(id,some (.box ((xs++ys).flatten.map .d)))]⟩::recs)
   ⟨(d,.ms id (xs++ys).length)::env,(id,some (.box ((xs++ys).flatten.map .d)))::hp⟩ Q):
  Walk c all chk (⟨some d,.call ⟨.builtin .append,#[x,y],#[t,t]⟩,ty,pos,af,g⟩::os) recs ⟨env,hp⟩ Q:=by
 refine⟨pg++(opF x (.gv id xs)++opF y vy),[(id,.tok xs.length k)],[],_, ?_,zaC hg.facts (zaC (zbb hx) (zbb hy)),hh1 htok,by simp,hn⟩;intro s a w hrel hp' hh _ K Q' hK;obtain⟨G,hr⟩:=hrel;have e1:=hr.opd (zbc hx (fun p hm=>hp' p (by simp[hm])));have e2:=hr.opd (zbc hy (fun p hm=>hp' p (by simp[hm])));obtain⟨i,z,z1,z2,z3⟩:=hz.out;obtain⟨v',w',G',hrun,hR,hA⟩:=zj3 hr ht ⟨i,z1,z2,z3⟩ (hh1' hh) e1 (e2.toD hyd) hky hb hm ty;unfold wpO;rw[if_pos (hg.gf.wanted hr (fun p hm=>hp' p (by simp[hm])))];unfold Oper.wp;have:(execOp a.eval ⟨some d,.call ⟨.builtin .append,#[x,y],#[t,t]⟩,ty,pos,af,g⟩).run c.P w = .ok (.value v') w':=by
  simp only[execOp,resolve,invoke,builtin,Sem.run_bind,Sem.run_pure,Result.andThen_ok,List.map_toArray,xae,List.map_nil,hrun]
 rw[this,Oper.upon_value];have hV:Rel c ⟨(d,.gv id (xs++ys))::s.env,(id,some (.tok (xs.length+ys.length) k))::s.hp⟩ (a.put (some d) v') w':=⟨G',hR.put hA hd⟩;rcases Rel.fixV hkp d id k (xs:=xs++ys) (by simp[getE]) (by rw[zal,if_pos rfl,xaa]) hid hV with ⟨h,_⟩|⟨_,h⟩
 ·exact absurd h hne
 ·refine hK _ _ (h.congr (fun j=>?_) (fun j=>?_))
  ·show getE ((d,_)::s.env) j=getE ((d,_)::(d,_)::s.env) j
   simp only[getE];cases Nat.beq d j<;>rfl
  ·show getH ((id,_)::s.hp) j=getH ((id,_)::(id,_)::s.hp) j
   rw[zal,zal,zal];by_cases hj:j=id
   ·rw[if_pos hj,if_pos hj]
   ·rw[if_neg hj,if_neg hj,if_neg hj]
end
def zcQ:Pat:=⟨2,0,0,0,0,[]⟩
def mutP (b:Str) (p:Pat) (q:Nat):Pat×Nat:=
 if zaz b q 30=0 then (⟨numV b (q+1) [0,7,1,2,5],p.ctor,p.n,p.m,p.var,p.kids⟩,q+2)
 else if zaz b q 30=1 then (⟨p.op,p.ctor,p.n,p.m,numV b (q+1) [6,-1,1],p.kids⟩,q+2)
 else if zaz b q 30=2 then (⟨p.op,numV b (q+1) [9,-1,1],p.n,p.m,p.var,p.kids⟩,q+2)
 else if zaz b q 30=3 then (⟨p.op,p.ctor,p.n,p.m,p.var,p.kids++[zcQ]⟩,q+1)
 else if zaz b q 30=4 then (⟨p.op,p.ctor,p.n,p.m,p.var,p.kids.set 0 zcQ⟩,q+1)
 else if zaz b q 30=5 then (⟨p.op,p.ctor,numV b (q+1) [10,-1,5],p.m,p.var,p.kids⟩,q+2)
 else (⟨p.op,p.ctor,p.n,p.m,p.var,p.kids⟩,q+1)
theorem put0 {l:List (List D)}{x:List D}{r:List (List D)}{v:List AV} (h:l=x::r) (hx:x.length=v.length):putC (l.flatten.map .d) 0 v=some (v++r.flatten.map .d):=by
 subst h;rw[List.flatten_cons,xaf];have key:∀(a b:List AV),a.length=b.length→∀(c:List AV),putC (a++c) 0 b=some (b++c):=by
  intro a;induction a with
  |nil=>intro b h c;cases b with
   |nil=>cases c<;>rfl
   |cons=>simp at h
  |cons y a ih=>intro b h c;cases b with
   |nil=>simp at h
   |cons z b=>
    have:=ih b (by simpa using h) c;simp only[xag,putC,this]
 exact key _ _ (by simpa using hx) _
theorem zx9 {k:Nat}{v:List AV}{vd:List D}{r:List (List D)} (hv:toDL v=some vd) (hk:v.length=k) (hr:∀x∈r,x.length=k):zbK (r.length+1) k (v++r.flatten.map .d)=some (vd::r):=by
 have h1:cutC (v++r.flatten.map .d) 0 k=some v:=zoX hk;have h2:(v++r.flatten.map AV.d).drop k=r.flatten.map .d:=by rw[←hk];simp
 have h3:=zd8 (f:=fun x:List D=>x) (k:=k) (l:=r) hr;have h4:(r.flatMap fun x=>x.map AV.d)=r.flatten.map .d:=by rw[List.map_flatten];rfl
 rw[h4,List.map_id'] at h3;simp only[zbK,h1,hv,h2,h3]
theorem xas (a b:List Pat):Pat.cs (a++b)=Pat.cs a++Pat.cs b:=by
 rw[Pat.cs_cc,Pat.cs_cc,Pat.cs_cc,xaf]
theorem znT {b:Str} (hb:b.length≤2000){p:Pat}{q:Nat} (hq:q≤1000000) (hok:p.ok) (hc4:¬(zaz b q 30=4∧p.kids≠[])):
  FnD Tryz.prog 90 [.ref 900 0,.agg [.d (.i p.op),.d (.i p.ctor),.d (.i p.n),.d (.i p.m),.d (.i p.var),.d (zad p.kids)]] [(900,some (rdB b q))]
   (.agg [.d (.i (mutP b p q).1.op),.d (.i (mutP b p q).1.ctor),.d (.i (mutP b p q).1.n),.d (.i (mutP b p q).1.m),.d (.i (mutP b p q).1.var),.d (zad (mutP b p q).1.kids)]) [(900,some (rdB b (mutP b p q).2))]:=by
 rw[Pat.ok_iff] at hok;have hkl:=Pat.cs_len p.kids;refine bd Tryz.f90 57 [] [] fun w0 F0 own kept hk=>?_;refine bx 3003 ?_;refine ab 3004 tz28 ?_;refine tv ?_;refine ab 3005 tz28 ?_;refine so ty28 ?_;refine tv ?_;refine xbh 1 sl26 .none rfl rfl ?_;refine ev ?_;refine ap sl26 zz28 rfl rfl rfl (by(intro x hx;exact Pat.cs_rows x hx)) (by simp[Pat.cs_len];omega) ?_;refine ev ?_;refine so ty26 ?_;refine tv ?_;refine wd zdw (zbl (p:=q) (n:=30) hb (by omega) (by omega)) rfl rfl ⟨rfl,trivial⟩ ?_;refine tv ?_;refine sq ?_ ?_<;>intro h1 h1p h1s;try simp only[Q,Pat.cs_len] at h1p
 refine si [0,1,2,3,4] [_,_,_,_,_] sl62 tz3 ?_;refine wd zh5 (zcT (p:=q+1) (l:=[0,7,1,2,5]) hb (by omega) (by simp) (by simp)) rfl rfl ⟨rfl,trivial⟩ ?_;refine ev ?_;refine so ty3 ?_;refine tv ?_;refine so ty28 ?_;refine tv ?_;refine rn [(900,some (rdB b (mutP b p q).2))] (.cons (.cellA ty28 rfl rfl rfl) .nil) (.agg (.cons (.eqd ?_) (.cons (.eqd ?_) (.cons (.eqd ?_) (.cons (.eqd ?_) (.cons (.eqd ?_) (.cons (.gld ?_) .nil))))))) ⟨rfl,rfl⟩ (SubO.get ⟨.inr ?_,⟨.inl rfl,trivial⟩⟩) (zaA rfl);rotate_left 7;try simp only[Q,Pat.cs_len] at h1p
 refine sq ?_ ?_<;>intro h2 h2p h2s;try simp only[Q,Pat.cs_len] at h2p
 refine si [0,1,2] [_,_,_] sl62 tz3 ?_;refine wd zh5 (zcT (p:=q+1) (l:=[6,-1,1]) hb (by omega) (by simp) (by simp)) rfl rfl ⟨rfl,trivial⟩ ?_;refine ev ?_;refine so ty3 ?_;refine tv ?_;refine so ty28 ?_;refine tv ?_;refine rn [(900,some (rdB b (mutP b p q).2))] (.cons (.cellA ty28 rfl rfl rfl) .nil) (.agg (.cons (.eqd ?_) (.cons (.eqd ?_) (.cons (.eqd ?_) (.cons (.eqd ?_) (.cons (.eqd ?_) (.cons (.gld ?_) .nil))))))) ⟨rfl,rfl⟩ (SubO.get ⟨.inr ?_,⟨.inl rfl,trivial⟩⟩) (zaA rfl);rotate_left 7;try simp only[Q,Pat.cs_len] at h2p
 refine sq ?_ ?_<;>intro h3 h3p h3s;try simp only[Q,Pat.cs_len] at h3p
 refine si [0,1,2] [_,_,_] sl62 tz3 ?_;refine wd zh5 (zcT (p:=q+1) (l:=[9,-1,1]) hb (by omega) (by simp) (by simp)) rfl rfl ⟨rfl,trivial⟩ ?_;refine ev ?_;refine so ty3 ?_;refine tv ?_;refine so ty28 ?_;refine tv ?_;refine rn [(900,some (rdB b (mutP b p q).2))] (.cons (.cellA ty28 rfl rfl rfl) .nil) (.agg (.cons (.eqd ?_) (.cons (.eqd ?_) (.cons (.eqd ?_) (.cons (.eqd ?_) (.cons (.eqd ?_) (.cons (.gld ?_) .nil))))))) ⟨rfl,rfl⟩ (SubO.get ⟨.inr ?_,⟨.inl rfl,trivial⟩⟩) (zaA rfl);rotate_left 7;try simp only[Q,Pat.cs_len] at h3p
 refine sq ?_ ?_<;>intro h4 h4p h4s;try simp only[Q,Pat.cs_len] at h4p
 refine bu [0] [_] st28 ?_;refine si [0] [_] sl26 tz28 ?_;refine ap sl26 zz28 rfl rfl rfl (by(intro x hx;simp only[List.mem_singleton] at hx;subst hx;rfl)) (by simp[Pat.cs_len];omega) ?_;refine ev ?_;refine so ty26 ?_;refine tv ?_;refine so ty28 ?_;refine tv ?_;refine rn [(900,some (rdB b (mutP b p q).2))] (.cons (.cellA ty28 rfl rfl rfl) .nil) (.agg (.cons (.eqd ?_) (.cons (.eqd ?_) (.cons (.eqd ?_) (.cons (.eqd ?_) (.cons (.eqd ?_) (.cons (.gld ?_) .nil))))))) ⟨rfl,rfl⟩ (SubO.get ⟨.inr ?_,⟨.inl rfl,trivial⟩⟩) (zaA rfl);rotate_left 7;try simp only[Q,Pat.cs_len] at h4p
 refine sq ?_ ?_<;>intro h5 h5p h5s;try simp only[Q,Pat.cs_len] at h5p
 refine sq ?_ ?_<;>intro h6 h6p h6s;try simp only[Q,Pat.cs_len] at h6p
 exfalso;apply hc4;refine⟨by omega,fun hh=>?_⟩;rw[hh] at h6p;exact absurd h6p (by decide);try simp only[Q,Pat.cs_len] at h6p
 refine so ty28 ?_;refine tv ?_;refine rn [(900,some (rdB b (mutP b p q).2))] (.cons (.cellA ty28 rfl rfl rfl) .nil) (.agg (.cons (.eqd ?_) (.cons (.eqd ?_) (.cons (.eqd ?_) (.cons (.eqd ?_) (.cons (.eqd ?_) (.cons (.gld ?_) .nil))))))) ⟨rfl,rfl⟩ (SubO.get ⟨.inr ?_,⟨.inl rfl,trivial⟩⟩) (zaA rfl);rotate_left 7;try simp only[Q,Pat.cs_len] at h5p
 refine sq ?_ ?_<;>intro h7 h7p h7s;try simp only[Q,Pat.cs_len] at h7p
 refine si [0,1,2] [_,_,_] sl62 tz3 ?_;refine wd zh5 (zcT (p:=q+1) (l:=[10,-1,5]) hb (by omega) (by simp) (by simp)) rfl rfl ⟨rfl,trivial⟩ ?_;refine ev ?_;refine so ty3 ?_;refine tv ?_;refine so ty28 ?_;refine tv ?_;refine rn [(900,some (rdB b (mutP b p q).2))] (.cons (.cellA ty28 rfl rfl rfl) .nil) (.agg (.cons (.eqd ?_) (.cons (.eqd ?_) (.cons (.eqd ?_) (.cons (.eqd ?_) (.cons (.eqd ?_) (.cons (.gld ?_) .nil))))))) ⟨rfl,rfl⟩ (SubO.get ⟨.inr ?_,⟨.inl rfl,trivial⟩⟩) (zaA rfl);rotate_left 7;try simp only[Q,Pat.cs_len] at h7p
 refine so ty28 ?_;refine tv ?_;refine rn [(900,some (rdB b (mutP b p q).2))] (.cons (.cellA ty28 rfl rfl rfl) .nil) (.agg (.cons (.eqd ?_) (.cons (.eqd ?_) (.cons (.eqd ?_) (.cons (.eqd ?_) (.cons (.eqd ?_) (.cons (.gld ?_) .nil))))))) ⟨rfl,rfl⟩ (SubO.get ⟨.inr ?_,⟨.inl rfl,trivial⟩⟩) (zaA rfl);rotate_left 7;all_goals (((unfold mutP;first|(rw[if_pos (by omega)];all_goals first|rfl|(show _=Pat.cs (p.kids++[zcQ]);rw[xas];all_goals rfl))|(rw[if_neg (by omega),if_pos (by omega)];all_goals first|rfl|(show _=Pat.cs (p.kids++[zcQ]);rw[xas];all_goals rfl))|(rw[if_neg (by omega),if_neg (by omega),if_pos (by omega)];all_goals first|rfl|(show _=Pat.cs (p.kids++[zcQ]);rw[xas];all_goals rfl))|(rw[if_neg (by omega),if_neg (by omega),if_neg (by omega),if_pos (by omega)];all_goals first|rfl|(show _=Pat.cs (p.kids++[zcQ]);rw[xas];all_goals rfl))|(have hnk:p.kids=[]:=(by rcases hke:p.kids with _|⟨y,r⟩;rfl;exact absurd ⟨by omega,by rw[hke];simp⟩ hc4);rw[if_neg (by omega),if_neg (by omega),if_neg (by omega),if_neg (by omega),if_pos (by omega),hnk];all_goals rfl)|(rw[if_neg (by omega),if_neg (by omega),if_neg (by omega),if_neg (by omega),if_pos (by omega)];all_goals first|rfl|(show _=Pat.cs (p.kids++[zcQ]);rw[xas];all_goals rfl))|(rw[if_neg (by omega),if_neg (by omega),if_neg (by omega),if_neg (by omega),if_neg (by omega),if_pos (by omega)];all_goals first|rfl|(show _=Pat.cs (p.kids++[zcQ]);rw[xas];all_goals rfl))|(rw[if_neg (by omega),if_neg (by omega),if_neg (by omega),if_neg (by omega),if_neg (by omega),if_neg (by omega)];all_goals first|rfl|(show _=Pat.cs (p.kids++[zcQ]);rw[xas];all_goals rfl)));done))
theorem znU {b:Str} (hb:b.length≤2000){p:Pat}{q:Nat} (hq:q≤1000000) (hok:p.ok) (hc4:zaz b q 30=4){y:Pat}{r:List Pat} (hk4:p.kids=y::r):
  FnD Tryz.prog 90 [.ref 900 0,.agg [.d (.i p.op),.d (.i p.ctor),.d (.i p.n),.d (.i p.m),.d (.i p.var),.d (zad p.kids)]] [(900,some (rdB b q))]
   (.agg [.d (.i (mutP b p q).1.op),.d (.i (mutP b p q).1.ctor),.d (.i (mutP b p q).1.n),.d (.i (mutP b p q).1.m),.d (.i (mutP b p q).1.var),.d (zad (mutP b p q).1.kids)]) [(900,some (rdB b (mutP b p q).2))]:=by
 rw[Pat.ok_iff] at hok;have hkl:=Pat.cs_len p.kids;have hcs:Pat.cs p.kids=y.cc::Pat.cs r:=by rw[Pat.cs_cc,hk4,xae,←Pat.cs_cc]
 have hrl:(Pat.cs p.kids).length=(Pat.cs r).length+1:=by rw[hcs];rfl
 have hmu:mutP b p q=(⟨p.op,p.ctor,p.n,p.m,p.var,zcQ::r⟩,q+1):=by
  unfold mutP;rw[if_neg (by omega),if_neg (by omega),if_neg (by omega),if_neg (by omega),if_pos hc4,hk4];rfl
 refine bd Tryz.f90 57 [] [17] fun w0 F0 own kept hk=>?_;refine bx 3003 ?_;refine ab 3004 tz28 ?_;refine tv ?_;refine ab 3005 tz28 ?_;refine so ty28 ?_;refine tv ?_;refine xbi 1 sl26 .none rfl rfl ?_;refine ev ?_;refine xaz hk rfl (by rw[hcs];simp) sl26 zz28 .none rfl rfl rfl rfl (zfF rfl (by rfl)) (by intro x hx;exact Pat.cs_rows x hx) (by simp[Pat.cs_len];omega) (by simp[Pat.cs_len];omega) ?_;refine ev ?_;refine so ty26 ?_;refine tv ?_;refine wd zdw (zbl (p:=q) (n:=30) hb (by omega) (by omega)) rfl rfl ⟨rfl,trivial⟩ ?_;refine tv ?_;refine sq ?_ ?_<;>intro h1 h1p h1s;try simp only[Q,Pat.cs_len] at h1p
 exfalso;omega;try simp only[Q,Pat.cs_len] at h1p
 refine sq ?_ ?_<;>intro h2 h2p h2s;try simp only[Q,Pat.cs_len] at h2p
 exfalso;omega;try simp only[Q,Pat.cs_len] at h2p
 refine sq ?_ ?_<;>intro h3 h3p h3s;try simp only[Q,Pat.cs_len] at h3p
 exfalso;omega;try simp only[Q,Pat.cs_len] at h3p
 refine sq ?_ ?_<;>intro h4 h4p h4s;try simp only[Q,Pat.cs_len] at h4p
 exfalso;omega;try simp only[Q,Pat.cs_len] at h4p
 refine sq ?_ ?_<;>intro h5 h5p h5s;try simp only[Q,Pat.cs_len] at h5p
 refine sq ?_ ?_<;>intro h6 h6p h6s;try simp only[Q,Pat.cs_len] at h6p
 refine bu [0] [_] st28 ?_;refine xaX (i:=0) sl26 .none rfl rfl rfl rfl (by simp;omega) ?_;refine Walk.store ty28 .none rfl rfl rfl rfl rfl rfl (by simp) ((put0 hcs rfl)) ?_;refine tv ?_;refine CWp.frzC hk 3005 5 1 _ 6 rfl rfl rfl rfl rfl (by rw[List.nil_append,hrl];exact zx9 rfl rfl (fun x hx=>Pat.cs_rows x hx)) rfl ?_;refine evc [] [] ?_;refine so ty28 ?_;refine tv ?_;refine rn [(900,some (rdB b (mutP b p q).2))] (.cons (.cellA ty28 rfl rfl rfl) .nil) (.agg (.cons (.eqd ?_) (.cons (.eqd ?_) (.cons (.eqd ?_) (.cons (.eqd ?_) (.cons (.eqd ?_) (.cons (.eqd ?_) .nil))))))) ⟨rfl,rfl⟩ (SubO.get ⟨.inr ?_,⟨.inl rfl,trivial⟩⟩) (zaA rfl);rotate_left 7;try simp only[Q,Pat.cs_len] at h6p
 exfalso;rw[List.nil_append,hrl] at h6p;omega;try simp only[Q,Pat.cs_len] at h5p
 exfalso;omega;all_goals (((rw[hmu];all_goals rfl);done))
theorem zms {b:Str} (hb:b.length≤2000){p:Pat}{q:Nat} (hq:q≤1000000) (hok:p.ok):
  FnD Tryz.prog 90 [.ref 900 0,.agg [.d (.i p.op),.d (.i p.ctor),.d (.i p.n),.d (.i p.m),.d (.i p.var),.d (zad p.kids)]] [(900,some (rdB b q))]
   (.agg [.d (.i (mutP b p q).1.op),.d (.i (mutP b p q).1.ctor),.d (.i (mutP b p q).1.n),.d (.i (mutP b p q).1.m),.d (.i (mutP b p q).1.var),.d (zad (mutP b p q).1.kids)]) [(900,some (rdB b (mutP b p q).2))]:=by
 by_cases h:zaz b q 30=4∧p.kids≠[]
 ·cases hk:p.kids with
  |nil=>exact absurd hk h.2
  |cons y r=>rw[←hk];exact znU hb hq hok h.1 hk
 ·exact znT hb hq hok h
theorem FnD.boxD {P:Program}{f:FuncId}{i n k:Nat}{args:List AV}{cs:List AV}{es:List (List D)} (hc:zbK n k (cs.take (n*k))=some es) (h:FnD P f args [] (.ms i n) [(i,some (.box cs))]):FnD P f args [] (.d (.sl es)) []:=by
 intro G w vals hok;refine(h G w vals hok).mono ?_;rintro e w' ⟨v,r',hp',G',rfl,⟨rfl,rfl⟩,hret⟩
 have gi:getH ([(i,some (Res.box cs))]++[]) i=some (.box cs):=by simp[getH]
 obtain⟨b,us,et,q1,q2,q3,q4,q5⟩:=hret.heap i _ gi;have hown:∀b,b∉zc2 G []:=fun b hb=>by simp[zc2] at hb
 have hnew:w.heap.size≤b:=(hret.new i (by rw[gi];rfl) b (by rw[q1];simp)).resolve_left (hown b);have hlt:b<w'.heap.size:=by
  rcases Nat.lt_or_ge b w'.heap.size with h|h
  ·exact h
  ·rw[Array.getElem?_eq_none h] at q2;cases q2
 let G2:Gh:={ G' with F:=fun x=>bif Nat.beq x b then us.size else G'.F x }
 have hin:G2.F b=us.size:=by simp[G2]
 have hout:∀x,x≠b→G2.F x=G'.F x:=fun x hx=>by
  have:Nat.beq x b=false:=by
   cases h:Nat.beq x b with
   |true=>exact absurd (Nat.eq_of_beq_eq_true h) hx
   |false=>rfl
  simp[G2,this]
 have hle:∀x o,o<G'.F x→o<G2.F x:=fun x o ho=>by
  by_cases hx:x=b
  ·subst hx;rw[q4] at ho;omega
  ·rw[hout x hx];exact ho
 refine⟨v,_,_,G2,rfl,⟨rfl,rfl⟩,zwZ hret.res q1 q2 q3 q5 hin (fun y o ho=>⟨hle y o ho,rfl⟩) hc,fun id x hx=>(by cases hx),fun id id' h1=>(by cases h1),fun id h1=>(by cases h1), ?_,fun x hx=>?_,fun id hi=>(by simp[zca,getH] at hi)⟩
 ·have hf:=hret.frm;exact⟨hf.os,hf.tape,hf.output,hf.size,fun x hx hn=>⟨(hf.block x hx hn).1,by rw[hout x (by omega)];exact(hf.block x hx hn).2⟩,fun x o ho=>⟨hle x o (hf.cell x o ho).1,(hf.cell x o ho).2⟩⟩
 ·rw[hout x (by omega)];exact hret.top x hx
def pd (s:List Pat):List AV:=(s.map Pat.cc).flatten.map .d
theorem zft (a b:List Pat):pd (a++b)=pd a++pd b:=by simp[pd]
theorem zny (x:Pat):pd [x]=[.d (.i x.op),.d (.i x.ctor),.d (.i x.n),.d (.i x.m),.d (.i x.var),.d (zad x.kids)]:=rfl
theorem ziS (s:List Pat):(pd s).length=s.length*6:=by
 induction s with
 |nil=>rfl
 |cons x r ih=>rw[show x::r=[x]++r from rfl,zft,xaa,ih,zny];simp;omega
theorem zrk {s:List Pat}{i:Nat} (h:i<s.length):pd s=pd (s.take i)++(pd [nth s i]++pd (s.drop (i+1))):=by
 rw[←zft,←zft];congr 1
 rw[show [nth s i]++s.drop (i+1)=nth s i::s.drop (i+1) from rfl,←zaO h,List.take_append_drop]
theorem ziR (s:List Pat):AV.idsL (pd s)=[]:=by
 unfold pd;induction (s.map Pat.cc).flatten with
 |nil=>rfl
 |cons x r ih=>rw[xae,AV.idsL,ih];rfl
theorem zuO {s:List Pat}{i:Nat} (h:i<s.length):cutC (pd s) (i*6) 6=some [.d (.i (nth s i).op),.d (.i (nth s i).ctor),.d (.i (nth s i).n),.d (.i (nth s i).m),.d (.i (nth s i).var),.d (zad (nth s i).kids)]:=by
 rw[zrk h,zus (by rw[ziS,List.length_take];omega) (r:=pd [nth s i])]
 ·rfl
 ·rw[zny];first|exact zwU|(simp[cutC];done)
theorem zym {s:List Pat}{i:Nat} (h:i<s.length){t:Pat}:putC (pd s) (i*6) [.d (.i t.op),.d (.i t.ctor),.d (.i t.n),.d (.i t.m),.d (.i t.var),.d (zad t.kids)]=some (pd (s.set i t)):=by
 rw[zrk h,zuS (by rw[ziS,List.length_take];omega) (B':=pd [t]++pd (s.drop (i+1))) (by rw[zny,zny];simp[putC])];rw[List.set_eq_take_append_cons_drop,if_pos h,←zft,←zft];rfl
abbrev z6:List AV:=[.d (.i 0),.d (.i 0),.d (.i 0),.d (.i 0),.d (.i 0),.nils]
theorem zw8 {s:List Pat}{i n:Nat} (hn:s.length=n) (h:i≤n):putC (pd s) (i*6) (za9 (n-i) z6)=some (pd (s.take i)++za9 (n-i) z6):=by
 subst hn;have e:pd s=pd (s.take i)++(pd (s.drop i)++[]):=by
  rw[List.append_nil,←zft,List.take_append_drop]
 have e2:putC (pd (s.take i)++(pd (s.drop i)++[])) (i*6) (za9 (s.length-i) z6)=some (pd (s.take i)++(za9 (s.length-i) z6++[])):=by
  rw[zvT (by rw[ziS,List.length_take];omega) ?_];rw[ziS,List.length_drop,zeS];rfl
 rw[←e,List.append_nil] at e2;exact e2
theorem zvP {s:List Pat}{tl:List AV}:zbK s.length 6 ((pd s++tl).take (s.length*6))=some (s.map Pat.cc):=by
 rw[List.take_append_of_le_length (by rw[ziS];exact Nat.le_refl _),List.take_of_length_le (by rw[ziS];exact Nat.le_refl _)];have:=zd8 (f:=Pat.cc) (k:=6) (l:=s) (fun _ _=>rfl);rw[←this];congr 1
 unfold pd;induction s with
 |nil=>rfl
 |cons x r ih=>
  simp only[xae,List.flatten_cons,xaf,List.flatMap_cons];exact congrArg (_++·) (ih (zd8 (fun _ _=>rfl)))
theorem Pat.cs_ccs (l:List Pat):Pat.cs l=l.map Pat.cc:=by
 rw[Pat.cs_eq];exact List.map_congr_left (fun v _=>Pat.c_eq v)
theorem Ex.cs_ccs (l:List Ex):Ex.cs l=l.map Ex.cc:=by
 rw[Ex.cs_eq];exact List.map_congr_left (fun v _=>Ex.c_eq v)
theorem zeT {xs:List Pat}{f:Nat}{caps:List AV}{hp:Hp}{p:Pat→Bool} (hs:xs.length≤1000000000000) (hcal:Callee Tryz.prog f)
  (hf:∀t∈xs,FnD Tryz.prog f ([.agg [.d (.i t.op),.d (.i t.ctor),.d (.i t.n),.d (.i t.m),.d (.i t.var),.d (zad t.kids)]]++caps) hp (.d (.bool (p t))) []) (k1:subH hp hp) (k2:zeM hp=true) (k3:zbe hp [] (.d .nilp) []=true):
  FnD Tryz.prog 152 [.d (zad xs),.fn f caps] hp (.d (.i (idxF p xs 0))) []:=by
 rw[show zad xs=D.sl (xs.map Pat.cc) by show D.sl (Pat.cs xs)=_;rw[Pat.cs_ccs]];refine bd Tryz.f152 19 [] [] fun w0 F0 own kept hk=>?_;refine xaj (ι:=List (Pat)×List (Pat)) hk (fun x=>[(8,.d (.i (x.1.length:Int)))]) [4,5,9,10,11,12,13,14,15,16,17,18] (fun x=>[]) (fun x=>x.1++x.2=xs∧idxF p x.2 x.1.length=idxF p xs 0) (fun x=>x.2.length) ([],xs) ⟨by simp,rfl⟩ ⟨⟨_,rfl,xap ?_⟩,trivial⟩ trivial (fun x=>zi6 hp) (fun x hg1=>?_);focus (first|rfl|(simp;done)|(simp_all;done)|omega)
 obtain⟨pre,rest⟩:=x;dsimp only at hg1 ⊢;refine evc [] [] ?_;refine sq ?_ ?_<;>intro h1 h1p h1s;try simp only[Q] at h1p
 rcases rest with _|⟨y,rest⟩
 ·exfalso;simp_all
 refine xaT sl26 .none rfl rfl rfl rfl (zaK hg1.1) rfl ?_;refine ev ?_;refine xaG (cr:=[]) hcal (hf y (by rw[←hg1.1];simp)) rfl .none rfl rfl rfl (LeL.refl _) k1 k2 (zdW k3 _) rfl ?_;refine tv ?_;refine sq ?_ ?_<;>intro h2 h2p h2s;try simp only[Q] at h2p
 focus (refine rn [] (r1 rfl) (.eqd ?_) ⟨rfl,rfl⟩ (fun _ _ h=>h) (fun _ h=>h);all_goals (rw[←hg1.2];simp[idxF,h1s,h1p,h2s,h2p]))
 try simp only[Q] at h2p
 refine ar ?_;refine Exists.intro ((pre++[y],rest)) ⟨⟨(by have hz:=hg1.1;rw[←hz];simp),(by rw[←hg1.2];simp[idxF,h2s])⟩,(by simp),Sub.x (by kernel_rfl) (by kernel_rfl) ⟨⟨_,rfl,xap ?_⟩,trivial⟩ (by simp) (by simp[zd4]) trivial⟩;focus (first|rfl|(simp;done)|(simp_all;done)|omega)
 try simp only[Q] at h1p
 have hrest:rest=[]:=by
  rcases rest with _|⟨a,b⟩
  ·rfl
  ·exfalso;have hz:=congrArg List.length (hg1.1);simp only[xaa,xab,xac] at hz;omega
 subst hrest;focus (refine rn [] (r1 rfl) (.eqd ?_) ⟨rfl,rfl⟩ (fun _ _ h=>h) (fun _ h=>h);all_goals (rw[←hg1.2];simp[idxF,h1s,h1p]))
theorem zg3 {xs:List Pat}{f:Nat}{caps:List AV}{hp:Hp}{p:Pat→Bool} (hs:xs.length≤1000000000000) (hcal:Callee Tryz.prog f)
  (hf:∀t∈xs,FnD Tryz.prog f ([.agg [.d (.i t.op),.d (.i t.ctor),.d (.i t.n),.d (.i t.m),.d (.i t.var),.d (zad t.kids)]]++caps) hp (.d (.bool (p t))) []) (k1:subH hp hp) (k2:zeM hp=true) (k3:zbe hp [] (.d .nilp) []=true):
  FnD Tryz.prog 94 [.d (zad xs),.fn f caps] hp (.d (.bool (xs.any p))) []:=by
 refine bd Tryz.f94 9 [] [] fun w0 F0 own kept hk=>?_;refine Walk.call (cr:=[]) zmG (zeT hs hcal hf k1 k2 k3) rfl .none rfl rfl (LeL.refl _) k1 k2 (zdW k3 _) rfl ?_;refine ev ?_;refine rn [] (r1 rfl) (.eqd ?_) ⟨rfl,rfl⟩ (fun _ _ h=>h) (fun _ h=>h);rotate_left;all_goals (exact congrArg D.bool (zf6 p xs 0))
theorem zeZ {xs:List Pat}{f:Nat}{B2 B3:List AV}{p:Pat→Bool} (hs:xs.length≤1000000000000) (hcal:Callee Tryz.prog f) (hB2:AV.idsL B2=[]) (hB3:AV.idsL B3=[])
  (hf:∀t∈xs,FnD Tryz.prog f [.agg [.d (.i t.op),.d (.i t.ctor),.d (.i t.n),.d (.i t.m),.d (.i t.var),.d (zad t.kids)],.ref 3003 0,.ref 3004 0] [(3003,some (.box B2)),(3004,some (.box B3))] (.d (.bool (p t))) []):
  FnD Tryz.prog 152 [.ms 1 xs.length,.fn f [.ref 3003 0,.ref 3004 0]] [(1,some (.box (pd xs))),(3003,some (.box B2)),(3004,some (.box B3))] (.d (.i (idxF p xs 0))) []:=by
 refine bd Tryz.f152 19 [15] [] fun w0 F0 own kept hk=>?_;refine xaj (ι:=Nat) hk (fun i=>[(8,.d (.i (i:Int)))]) [4,5,9,10,11,12,13,14,15,16,17,18] (fun i=>[]) (fun i=>i≤xs.length∧idxF p (xs.drop i) i=idxF p xs 0) (fun i=>xs.length-i) 0 ⟨by omega,rfl⟩ ⟨⟨_,rfl,xap ?_⟩,trivial⟩ trivial (fun x=>rfl) (fun i hg1=>?_);focus (rfl)
 refine evc [15] [] ?_;refine sq ?_ ?_<;>intro h1 h1p h1s;try simp only[Q] at h1p
 refine xaX sl26 .none rfl rfl rfl rfl (by first|omega|(simp ;omega)) ?_;refine xa0 ty28 .none rfl rfl rfl ((zuO (by omega))) ?_;refine xaG (cr:=[]) hcal (hf (nth xs i) (zaf (by omega))) rfl .none rfl rfl rfl (LeL.refl _) ⟨rfl,rfl,trivial⟩ rfl (by simp only[zbe,List.all_cons,List.all_nil,zcd,zbS,AV.idsL,AV.ids,hB2,hB3,xae,List.map_nil];rfl) rfl ?_;refine tv ?_;refine sq ?_ ?_<;>intro h2 h2p h2s;try simp only[Q] at h2p
 focus (refine rn [] (r1 rfl) (.eqd ?_) ⟨rfl,rfl⟩ (SubH.get ⟨rfl,⟨rfl,⟨rfl,trivial⟩⟩⟩) (fun _ h=>h);all_goals ((rw[←hg1.2,zaO (by omega)];simp[idxF,h1s,h1p,h2s,h2p];done)))
 try simp only[Q] at h2p
 refine ar ?_;refine Exists.intro (i+1) ⟨⟨by omega,(by rw[←hg1.2,zaO (l:=xs) (i:=i) (by omega)];simp_all[idxF])⟩,(by omega),sx ⟨⟨_,rfl,xap ?_⟩,trivial⟩ trivial⟩;focus (rfl)
 try simp only[Q] at h1p
 focus (refine rn [] (r1 rfl) (.eqd ?_) ⟨rfl,rfl⟩ (SubH.get ⟨rfl,⟨rfl,⟨rfl,trivial⟩⟩⟩) (fun _ h=>h);all_goals ((rw[←hg1.2,List.drop_eq_nil_of_le (by omega)];rfl)))
theorem zh1 {xs:List Pat}{f:Nat}{B2 B3:List AV}{p:Pat→Bool} (hs:xs.length≤1000000000000) (hcal:Callee Tryz.prog f) (hB2:AV.idsL B2=[]) (hB3:AV.idsL B3=[])
  (hf:∀t∈xs,FnD Tryz.prog f [.agg [.d (.i t.op),.d (.i t.ctor),.d (.i t.n),.d (.i t.m),.d (.i t.var),.d (zad t.kids)],.ref 3003 0,.ref 3004 0] [(3003,some (.box B2)),(3004,some (.box B3))] (.d (.bool (p t))) []):
  ∃tl:List AV,AV.idsL tl=[]∧FnD Tryz.prog 146 [.ms 1 xs.length,.fn f [.ref 3003 0,.ref 3004 0]] [(1,some (.box (pd xs))),(3003,some (.box B2)),(3004,some (.box B3))]
   (.ms 1 (xs.filter fun t=> !p t).length) [(1,some (.box (pd (xs.filter fun t=> !p t)++tl)))]:=by
 have hok3:zbe [(1,some (.box (pd xs))),(3003,some (.box B2)),(3004,some (.box B3))] [] (.d .nilp) []=true:=by
  simp only[zbe,List.all_cons,List.all_nil,zcd,zbS,AV.idsL,AV.ids,ziR,hB2,hB3,xae,List.map_nil];rfl
 rcases zpa p xs 0 with ⟨hi,hall⟩|⟨k,hi,hk1,hk2⟩
 ·have hfil:(xs.filter fun t=> !p t)=xs:=List.filter_eq_self.2 (fun x hx=>by simp[hall x hx]);refine⟨[],rfl, ?_⟩;rw[hfil,List.append_nil];refine bd Tryz.f146 42 [] [] fun w0 F0 own kept hk=>?_;refine Walk.call (cr:=[]) zmG (zeZ hs hcal hB2 hB3 hf) rfl .none rfl rfl (.cons (xar (by first|rfl|(simp;done))) (.cons (.refl _) .nil)) ⟨rfl,rfl,rfl,trivial⟩ rfl (zdW hok3 _) rfl ?_;refine ev ?_;refine sq ?_ ?_<;>intro h1 h1p h1s;try simp only[Q] at h1p
  refine rn [(1,some (.box (pd xs)))] (r1 rfl) (.refl _) ⟨rfl,rfl⟩ (SubO.get ⟨.inr ?_,⟨.inl rfl,⟨.inr rfl,⟨.inr rfl,trivial⟩⟩⟩⟩) (zaA rfl);rotate_left;try simp only[Q] at h1p
  exfalso;simp[hi] at h1;all_goals (((first|rfl|(simp;done));done))
 ·skip
  have hlen:(xs.filter fun t=> !p t).length≤xs.length:=List.length_filter_le _ _;refine⟨za9 (xs.length-(xs.filter fun t=> !p t).length) z6,zjF rfl, ?_⟩;refine bd Tryz.f146 42 [25] [] fun w0 F0 own kept hk=>?_;refine Walk.call (cr:=[]) zmG (zeZ hs hcal hB2 hB3 hf) rfl .none rfl rfl (.cons (xar (by first|rfl|(simp;done))) (.cons (.refl _) .nil)) ⟨rfl,rfl,rfl,trivial⟩ rfl (zdW hok3 _) rfl ?_;refine evs [25] [] ?_;refine sq ?_ ?_<;>intro h1 h1p h1s;try simp only[Q] at h1p
  exfalso;simp[hi] at h1<;>omega;try simp only[Q] at h1p
  refine ar ?_;refine xaj (ι:=List Pat×Nat×Nat) hk (fun x=>[(6,.d (.i (x.2.1:Int))),(5,.d (.i (x.2.2:Int)))]) [7,16,17,18,19,20,21,22,23,24,25,26,27,28,29,30,31,32,33,34,35] (fun x=>[(1,some (.box (pd x.1)))]) (fun x=>x.1.length=xs.length∧x.2.1≤xs.length∧x.2.2≤x.2.1∧x.1.take x.2.2=(xs.take x.2.1).filter (fun t=> !p t)∧x.1.drop x.2.1=xs.drop x.2.1) (fun x=>xs.length-x.2.1) (xs,k+1,k) ⟨rfl,by dsimp only;omega,by dsimp only;omega,hk2.symm,rfl⟩ ⟨⟨_,rfl,xap ?_⟩,⟨⟨_,rfl,xap ?_⟩,trivial⟩⟩ ⟨?_,trivial⟩ (fun x=>rfl) (fun x hg1=>?_);iterate 2 focus ((simp_all;done))
  focus (rfl)
  refine evc [25] [] ?_;refine sq ?_ ?_<;>intro h2 h2p h2s;try simp only[Q] at h2p
  refine xaX sl26 .none rfl rfl rfl rfl (by first|omega|(simp ;omega)) ?_;refine xa0 ty28 .none rfl rfl rfl (((zuO (s:=x.1) (by omega)).trans (by rw[zr3 hg1.2.2.2.2 hg1.1 (by omega)]))) ?_;refine Walk.alloc (id:=3007) tz28 rfl .none rfl (by(simp only[zaB,occH,occE,Res.ids,xag,List.nil_append,AV.idsL,AV.ids,zaj,zak,zat,zaS,xae,List.map_nil,upC,hB2,hB3,ziR];rfl)) (by(simp only[zaB,occH,occE,Res.ids,xag,List.nil_append,AV.idsL,AV.ids,zaj,zak,zat,zaS,xae,List.map_nil,upC,hB2,hB3,ziR];rfl)) (by(simp only[zaB,occH,occE,Res.ids,xag,List.nil_append,AV.idsL,AV.ids,zaj,zak,zat,zaS,xae,List.map_nil,upC,hB2,hB3,ziR];rfl)) ?_;refine so ty28 ?_;refine tv ?_;refine xaG (cr:=[]) hcal (hf (nth xs x.2.1) (zaf (by omega))) rfl .none rfl rfl rfl (LeL.refl _) ⟨rfl,rfl,trivial⟩ rfl (by simp only[zbe,List.all_cons,List.all_nil,zcd,zbS,AV.idsL,AV.ids,hB2,hB3,xae,List.map_nil];rfl) rfl ?_;refine evs [25] [] ?_;refine sq ?_ ?_<;>intro h3 h3p h3s;try simp only[Q] at h3p
  refine xaX sl26 .none rfl rfl rfl rfl (by first|omega|(simp ;omega)) ?_;refine Walk.store ty28 .none rfl rfl rfl rfl rfl rfl (by simp) ((zym (by omega))) ?_;refine tv ?_;refine ar ?_;refine ar ?_;refine Exists.intro ((if p (nth xs x.2.1) then x.1 else x.1.set x.2.2 (nth xs x.2.1),x.2.1+1,if p (nth xs x.2.1) then x.2.2 else x.2.2+1)) ⟨(by
      obtain⟨g1,g2,g3,g4,g5⟩:=hg1;have hlt:x.2.1<xs.length:=by omega
      have h7:=zhD (p:=fun t=> !p t) hlt;refine⟨by dsimp only;split<;>simp[g1],by dsimp only;omega,by dsimp only;split<;>omega, ?_, ?_⟩
      ·dsimp only;rw[h7,←g4];cases hp:p (nth xs x.2.1) with
       |true=>simp
       |false=>simp only[Bool.false_eq_true,if_false,Bool.not_false,if_true];rw[zjQ (by omega)]
      ·dsimp only;split
       ·exact zh8 g5
       ·(rw[zpR g3];exact zh8 g5)),(by dsimp only;omega),sx ⟨⟨_,rfl,xap ?_⟩,⟨⟨_,rfl,xap ?_⟩,trivial⟩⟩ ⟨?_,trivial⟩⟩
  iterate 2 focus ((simp_all;done))
  focus ((show some (Res.box _)=some (Res.box _);dsimp only;split<;>first|rfl|(exfalso;simp_all;done)))
  try simp only[Q] at h3p
  refine ar ?_;refine Exists.intro ((if p (nth xs x.2.1) then x.1 else x.1.set x.2.2 (nth xs x.2.1),x.2.1+1,if p (nth xs x.2.1) then x.2.2 else x.2.2+1)) ⟨(by
      obtain⟨g1,g2,g3,g4,g5⟩:=hg1;have hlt:x.2.1<xs.length:=by omega
      have h7:=zhD (p:=fun t=> !p t) hlt;refine⟨by dsimp only;split<;>simp[g1],by dsimp only;omega,by dsimp only;split<;>omega, ?_, ?_⟩
      ·dsimp only;rw[h7,←g4];cases hp:p (nth xs x.2.1) with
       |true=>simp
       |false=>simp only[Bool.false_eq_true,if_false,Bool.not_false,if_true];rw[zjQ (by omega)]
      ·dsimp only;split
       ·exact zh8 g5
       ·exact zh8 g5),(by dsimp only;omega),sx ⟨⟨_,rfl,xap ?_⟩,⟨⟨_,rfl,xap ?_⟩,trivial⟩⟩ ⟨?_,trivial⟩⟩
  iterate 2 focus ((simp_all;done))
  focus ((show some (Res.box _)=some (Res.box _);dsimp only;split<;>first|rfl|(exfalso;simp_all;done)))
  try simp only[Q] at h2p
  refine Walk.cutM_l sl26 .none rfl rfl rfl rfl (by omega) ?_;refine Walk.clearB sl26 tz28 rfl (by decide) rfl .none rfl rfl (zw8 hg1.1 (by omega)) ?_;refine tv ?_;refine Walk.cutM_h sl26 .none rfl rfl rfl rfl (by omega) ?_;refine evs [25] [] ?_;refine rn [(1,some (.box (pd (xs.filter fun t=> !p t)++za9 (xs.length-(xs.filter fun t=> !p t).length) z6)))] (r1 rfl) (xar ?_) ⟨rfl,rfl⟩ (SubO.get ⟨.inr ?_,⟨.inl rfl,⟨.inr rfl,⟨.inr rfl,trivial⟩⟩⟩⟩) (zaA rfl);rotate_left 2;all_goals (first|((first|rfl|(obtain⟨g1,g2,g3,g4,g5⟩:=hg1;have e:x.2.1=xs.length:=(by omega);rw[e,List.take_length] at g4;rw[←g4,List.length_take];omega));done)|((obtain⟨g1,g2,g3,g4,g5⟩:=hg1;have e:x.2.1=xs.length:=(by omega);rw[e,List.take_length] at g4;have e2:(xs.filter fun t=> !p t).length=x.2.2:=(by rw[←g4,List.length_take];omega);rw[e2,←g4];rfl)))
theorem zhi {f:Nat}{caps:List AV}{hp:Hp} (hcal:Callee Tryz.prog f) (k1:subH hp hp) (k2:zeM hp=true) (k3:zbe hp [] (.d .nilp) []=true):
  FnD Tryz.prog 146 [.d (.sl []),.fn f caps] hp (.d (.sl [])) []:=by
 have hz:=zeT (xs:=[]) (p:=fun _=>false) (f:=f) (caps:=caps) (hp:=hp) (by simp) hcal (fun t ht=>by simp at ht) k1 k2 k3;refine bd Tryz.f146 42 [] [] fun w0 F0 own kept hk=>?_;refine Walk.call (cr:=[]) zmG (hz) rfl .none rfl rfl (LeL.refl _) k1 k2 (zdW k3 _) rfl ?_;refine ev ?_;refine sq ?_ ?_<;>intro h1 h1p h1s;try simp only[Q] at h1p
 focus (refine rn [] (r1 rfl) (.eqd ?_) ⟨rfl,rfl⟩ (fun _ _ h=>h) (fun _ h=>h);all_goals (rfl))
 try simp only[Q] at h1p
 exfalso;simp[idxF] at h1
theorem zkR {xs:List Pat} (hs:xs.length≤1000000000000) (hne:xs≠[]):FnD Tryz.prog 147 [.d (zad xs)] [] (.ms 1 xs.length) [(1,some (.box (pd xs)))]:=by
 have hcs:Pat.cs xs≠[]:=fun h=>hne ((Pat.cs_nil xs).1 h);refine Fn.body (fn:=Tryz.f147) (n:=8) rfl rfl rfl rfl rfl (fun w0 F0 own kept hk=>?_);refine xal 0 rfl (fun hx0=>?_) ?_;refine evc [4] [] ?_;refine xaR sl26 .none rfl rfl ?_;refine tv ?_;refine sqT ?_;exfalso;exact hcs hx0;refine evc [4] [] ?_;refine xaQ sl26 .none rfl rfl ?_;refine tv ?_;refine sqF ?_;refine xbi 1 sl26 .none rfl rfl ?_;refine evs [4] [] ?_;refine xaz hk rfl (by simp[hcs]) sl26 zz28 .none rfl rfl rfl rfl (zfF rfl (by rfl)) (by intro y hy;rw[xat] at hy;obtain⟨z,_,rfl⟩:=List.mem_map.1 hy;rfl) (by simp[Pat.cs_len];omega) (by simp[Pat.cs_len];omega) ?_;refine evs [4] [] ?_;refine rn [(1,some (.box (pd xs)))] (r1 rfl) (xar ?_) ⟨rfl,rfl⟩ (SubH.get ⟨?_,trivial⟩) (zaA rfl);rotate_left 2;all_goals (first|((first|rfl|(simp[Pat.cs_len];done));done)|(first|rfl|(show some (Res.box _)=some (Res.box _);unfold pd;rw[←xat];rfl)))
theorem zl9 {w:List Data} (hs:Spa w){ta tk:Int} (ht:InS (w.length*4) ⟨ta,tk⟩){p:Pat} (hp:zac w 11 ⟨ta,tk⟩ p=true):
  FnD Tryz.prog 148 [.agg [.d (.i p.op),.d (.i p.ctor),.d (.i p.n),.d (.i p.m),.d (.i p.var),.d (zad p.kids)],.ref 3003 0,.ref 3004 0] [(3003,some (.box [.d (sPtr w (zai w))])),(3004,some (.box [.d (.i ta),.d (.i tk)]))] (.d (.bool (zaX w (zai w) 11 ⟨ta,tk⟩ p))) []:=by
 refine bd Tryz.f148 9 [] [] fun w0 F0 own kept hk=>?_;refine bx 3001 ?_;refine ev ?_;refine wc zi7 (zcH hs.dp 11 (zhg _ hp) ht (zgh hs 11 ht hp).1) rfl rfl ?_;refine ev ?_;focus (refine rn [] (r1 rfl) (.eqd ?_) ⟨rfl,rfl⟩ (SubH.get ⟨rfl,⟨rfl,trivial⟩⟩) (fun _ h=>h);all_goals (rfl))
theorem ziO {w:List Data} (hs:Spa w){ta tk:Int} (ht:InS (w.length*4) ⟨ta,tk⟩){l:List Pat} (hl:∀a∈l,zac w 11 ⟨ta,tk⟩ a=true) (hb:l.length≤1000000000000):
  FnD Tryz.prog 92 [.d (sPtr w (zai w)),.agg [.d (.i ta),.d (.i tk)],.d (zad l)] [] (.d (zad (l.filter (zbk w ⟨ta,tk⟩)))) []:=by
 by_cases hne:l=[]
 ·subst hne;have hcl:FnD Tryz.prog 147 [.d (.sl [])] [] (.d (.sl [])) []:=(zf0 (xs:=[]) (by simp)).glD;refine bd Tryz.f92 11 [] [] fun w0 F0 own kept hk=>?_;refine bx 3003 ?_;refine bx 3004 ?_;refine ev ?_;refine wc zqw (hcl) rfl rfl ?_;refine xaI (xs:=[_,_]) rfl .none rfl rfl ?_;refine Walk.call (cr:=[]) zt2 (zhi (hp:=[(3003,some (.box [.d (sPtr w (zai w))])),(3004,some (.box [.d (.i ta),.d (.i tk)]))]) zt3 ⟨rfl,rfl,trivial⟩ rfl rfl) rfl .none rfl rfl (LeL.refl _) ⟨rfl,rfl,trivial⟩ rfl rfl rfl ?_;refine ev ?_;focus (refine rn0 (r1 rfl) (.eqd ?_);all_goals (rfl))
 ·obtain⟨tl,htl,hdel⟩:=zh1 (xs:=l) (p:=fun a=>zaX w (zai w) 11 ⟨ta,tk⟩ a) hb zt3 (B2:=[.d (sPtr w (zai w))]) (B3:=[.d (.i ta),.d (.i tk)]) rfl rfl (fun a ha=>zl9 hs ht (hl a ha));have key:FnD Tryz.prog 92 [.d (sPtr w (zai w)),.agg [.d (.i ta),.d (.i tk)],.d (zad l)] [] (.ms 1 (l.filter (zbk w ⟨ta,tk⟩)).length) [(1,some (.box (pd (l.filter (zbk w ⟨ta,tk⟩))++tl)))]:=by
   refine bd Tryz.f92 11 [] [] fun w0 F0 own kept hk=>?_;refine bx 3003 ?_;refine bx 3004 ?_;refine ev ?_;refine Walk.call (cr:=[1]) zqw (zkR hb hne) rfl .none rfl rfl (LeL.refl _) trivial rfl (by simp only[zbe,List.all_cons,List.all_nil,zcd,zbS,AV.idsL,AV.ids,ziR,zaj,htl,xae,List.map_nil];rfl) rfl ?_;refine xaI (xs:=[_,_]) rfl .none rfl rfl ?_;refine Walk.call (cr:=[]) zt2 (hdel) rfl .none rfl rfl (.cons (xar (by first|rfl|(simp;done))) (.cons (.refl _) .nil)) ⟨rfl,rfl,rfl,trivial⟩ rfl (by simp only[zbe,List.all_cons,List.all_nil,zcd,zbS,AV.idsL,AV.ids,ziR,zaj,htl,xae,List.map_nil];rfl) rfl ?_;refine ev ?_;refine rn [(1,some (.box (pd (l.filter (zbk w ⟨ta,tk⟩))++tl)))] (r1 rfl) (xar ?_) ⟨rfl,rfl⟩ (SubH.get ⟨?_,trivial⟩) (zaA rfl);rotate_left 2;all_goals (first|((rfl);done)|(rfl))
  have h2:=key.boxD (k:=6) zvP;rw[←xat] at h2;exact h2
theorem zoh {α β:Type}{g:α→List β}{K:Nat}:∀(l:List α),(∀x∈l,(g x).length≤K)→(l.flatMap g).length≤l.length*K
 | [],_=>by simp
 |x::r,h=>by
  have h1:=h x (by simp);have h2:=zoh r (fun y hy=>h y (by simp[hy]));rw[List.flatMap_cons,xaa,xab,Nat.add_mul];omega
theorem zgT {w:List Data}{t:Ty}{l away:List Pat}{i:Nat} (h:i<away.length):subL w t l (away.drop i)=if (zbQ w t l (nth away i)).length≤400 then subL w t (zbQ w t l (nth away i)) (away.drop (i+1)) else none:=by
 rw[zaO h,subL]
theorem zrH {w:List Data}{t:Ty}{l away:List Pat}{i:Nat} (h:away.length≤i):subL w t l (away.drop i)=some l:=by
 rw[List.drop_eq_nil_of_le h,subL]
theorem zeO (p:Pat):(zaF p).length≤40:=by unfold zaF;split;assumption;simp
theorem zlR {w:List Data}{t:Ty}{p:Pat} (h:zap w 10 t p=true):∀x∈zaF p,zac w 10 t x=true:=fun x hx=>by
 unfold zaF at hx;split at hx
 ·exact zgi 10 h x hx
 ·simp at hx
theorem zg5 {w:List Data}{t:Ty}:∀(away l r:List Pat),(∀a∈l,zac w 11 t a=true)→l.length≤400→(∀b∈away,zac w 10 t b=true)→subL w t l away=some r→r.length≤400∧∀x∈r,zac w 11 t x=true
 | [],l,r,hl,hn,_,h=>by rw[subL] at h;cases h;exact⟨hn,hl⟩
 |b::away,l,r,hl,hn,hb,h=>by
  rw[subL] at h;split at h
  ·rename_i h4;exact zg5 away _ r (zeL hl (hb b (by simp))) h4 (fun x hx=>hb x (by simp[hx])) h
  ·cases h
theorem zna {w:List Data} (hs:Spa w){ta tk:Int} (ht:InS (w.length*4) ⟨ta,tk⟩){l away:List Pat} (hl:∀a∈l,zac w 11 ⟨ta,tk⟩ a=true) (hb:∀b∈away,zac w 10 ⟨ta,tk⟩ b=true) (hll:l.length≤400) (hal:away.length≤2000):
  FnD Tryz.prog 49 [.d (sPtr w (zai w)),.agg [.d (.i ta),.d (.i tk)],.d (zad l),.d (zad away)] [] (.tup [.d (zad ((zaT w ⟨ta,tk⟩ l away).getD [])),.d (.bool (zaT w ⟨ta,tk⟩ l away).isSome)]) []:=by
 have hlf:(l.filter (zbk w ⟨ta,tk⟩)).length≤l.length:=List.length_filter_le _ _;have hmb:∀(c:List Pat) (i:Nat),(∀a∈c,zac w 11 ⟨ta,tk⟩ a=true)→i<away.length→∀x∈c,(zas w 10 ⟨ta,tk⟩ x (nth away i)).length≤20000000:=fun c i hc hi x hx=>zgf hs (by omega) (by omega) ht (hc x hx) (hb _ (zaf hi));have hnp:∀(c:List Pat) (i:Nat),(∀a∈c,zac w 11 ⟨ta,tk⟩ a=true)→i<away.length→∀x∈(c.flatMap fun a=>zas w 10 ⟨ta,tk⟩ a (nth away i)),zac w 11 ⟨ta,tk⟩ x=true:=fun c i hc hi x hx=>by
  obtain⟨a,ha,hx⟩:=List.mem_flatMap.1 hx;exact zfN 10 11 (by omega) (hc a ha) (hb _ (zaf hi)) x hx
 have hpre:∀ {pre rest c:List Pat}{y:Pat} (i:Nat),(∀a∈c,zac w 11 ⟨ta,tk⟩ a=true)→c.length≤400→i<away.length→pre++y::rest=c→(pre.flatMap fun a=>zas w 10 ⟨ta,tk⟩ a (nth away i)).length≤8000000000∧(zas w 10 ⟨ta,tk⟩ y (nth away i)).length≤20000000:=fun {pre rest c y} i hc h4 hi h=>by
  have h1:=zoh (g:=fun a=>zas w 10 ⟨ta,tk⟩ a (nth away i)) (K:=20000000) pre (fun x hx=>hmb c i hc hi x (by rw[←h];simp[hx]));have h2:=hmb c i hc hi y (by rw[←h];simp);have h3:=congrArg List.length h;simp only[xaa,xab] at h3;exact⟨by omega,h2⟩
 refine bd Tryz.f49 48 [12] [11] fun w0 F0 own kept hk=>?_;refine bx 3005 ?_;refine evs [12] [] ?_;refine wc zwr (ziO hs ht hl (by omega)) rfl rfl ?_;refine evs [12] [] ?_;refine xaj (ι:=Nat×List Pat) hk (fun s=>[(21,.d (.i (s.1:Int))),(2,.d (zad s.2))]) [8,9,11,12,14,22,23,24,25,26,27,28,29,30,31,32,33,34,35,36,37,38,39,40,41,42,43,44,45,46] (fun s=>[]) (fun s=>s.1≤away.length∧subL w ⟨ta,tk⟩ s.2 (away.drop s.1)=zaT w ⟨ta,tk⟩ l away∧(∀a∈s.2,zac w 11 ⟨ta,tk⟩ a=true)∧s.2.length≤400) (fun s=>away.length-s.1) (0,l.filter (zbk w ⟨ta,tk⟩)) ⟨by simp,rfl,fun a ha=>hl a (List.mem_filter.1 ha).1,by dsimp only;omega⟩ ⟨⟨_,rfl,xap ?_⟩,⟨⟨_,rfl, ?_⟩,trivial⟩⟩ trivial (fun x=>rfl) (fun s hg1=>?_);focus (rfl)
 focus (exact LeA.refl _)
 refine evc [12] [11] ?_;refine sq ?_ ?_<;>intro h1 h1p h1s;try simp only[Q,Pat.cs_len] at h1p
 refine xaT sl26 .none rfl rfl rfl rfl (zaD (by omega)) rfl ?_;refine evs [12] [] ?_;refine ab 3011 tz28 ?_;refine so ty28 ?_;refine tv ?_;refine xaB 9 6 .none rfl rfl ?_;refine tv ?_;refine xaj (ι:=List (Pat)×List (Pat)) hk (fun x=>[(27,.d (.i (x.1.length:Int))),(12,.gl 9 (Pat.cs (x.1.flatMap fun a=>zas w 10 ⟨ta,tk⟩ a (nth away s.1))))]) [14,28,29,30,31,32,33,34,35,36,37,38] (fun x=>[(9,some (.tok ((Pat.cs (x.1.flatMap fun a=>zas w 10 ⟨ta,tk⟩ a (nth away s.1)))).length 6))]) (fun x=>x.1++x.2=s.2) (fun x=>x.2.length) ([],s.2) (by simp) ⟨⟨_,rfl,xap ?_⟩,⟨⟨_,rfl,LeA.glg ?_⟩,trivial⟩⟩ ⟨zab ?_,trivial⟩ (fun x=>rfl) (fun x hg2=>?_);iterate 3 focus (rfl)
 obtain⟨pre,rest⟩:=x;dsimp only at hg2 ⊢;refine evc [12] [11] ?_;refine sq ?_ ?_<;>intro h2 h2p h2s;try simp only[Q,Pat.cs_len] at h2p
 rcases rest with _|⟨y,rest⟩
 ·exfalso;simp_all
 refine xaT sl26 .none rfl rfl rfl rfl (Pat.cs_at' hg2) rfl ?_;refine evs [12] [] ?_;refine ab 3014 tz28 ?_;refine so ty28 ?_;refine tv ?_;refine wc ztd (zjJ hs 10 11 (by omega) (by omega) (by omega) ht (hg1.2.2.1 y (by rw[←hg2];simp)) (hb _ (zaf (by omega)))) rfl rfl ?_;refine ap sl26 zz28 rfl rfl rfl (by exact zbN _) (by have h9:=hpre s.1 hg1.2.2.1 hg1.2.2.2 (by omega) hg2;simp only[Pat.cs_len];omega) ?_;refine asg ?_;refine tv ?_;refine ar ?_;refine Exists.intro ((pre++[y],rest)) ⟨(by have hz:=hg2;rw[←hz];simp),(by simp),sx ⟨⟨_,rfl,xap ?_⟩,⟨⟨_,rfl,LeA.glg ?_⟩,trivial⟩⟩ ⟨zab ?_,trivial⟩⟩;iterate 3 focus (first|(rw[List.flatMap_append,xat,xat,xat,xaf];simp;done)|(simp[Pat.cs_len];done))
 try simp only[Q,Pat.cs_len] at h2p
 have hrest:rest=[]:=by
  rcases rest with _|⟨a,b⟩
  ·rfl
  ·exfalso;have hz:=congrArg List.length (hg2);simp only[xaa,xab,xac] at hz;omega
 subst hrest;obtain rfl:pre=s.2:=(by simpa using hg2);refine evc [12] [] ?_;refine Walk.call (cr:=[]) zwr (ziO hs ht (l:=s.2.flatMap fun a=>zas w 10 ⟨ta,tk⟩ a (nth away s.1)) (hnp s.2 s.1 hg1.2.2.1 (by omega)) (by have:=zoh (g:=fun a=>zas w 10 ⟨ta,tk⟩ a (nth away s.1)) (K:=20000000) s.2 (hmb s.2 s.1 hg1.2.2.1 (by omega));omega)) rfl .none rfl rfl (.cons (.refl _) (.cons (.refl _) (.cons (.gl _ _) .nil))) trivial rfl rfl rfl ?_;refine evs [12] [] ?_;refine sq ?_ ?_<;>intro h3 h3p h3s;try simp only[Q,Pat.cs_len] at h3p
 refine rn0 (r2 rfl rfl) (.tup (.cons (.nild ?_) (.cons (.eqd ?_) .nil)));rotate_left 2;try simp only[Q,Pat.cs_len] at h3p
 refine ar ?_;refine Exists.intro ((s.1+1,zbQ w ⟨ta,tk⟩ s.2 (nth away s.1))) ⟨(by
    have h4:(zbQ w ⟨ta,tk⟩ s.2 (nth away s.1)).length≤400:=by unfold zbQ;omega
    refine⟨by dsimp only;omega, ?_,zeL hg1.2.2.1 (hb _ (zaf (by omega))),h4⟩;have e:=zgT (w:=w) (t:=⟨ta,tk⟩) (l:=s.2) (away:=away) (i:=s.1) (by omega);rw[if_pos h4] at e;dsimp only;rw[←e];exact hg1.2.1),(by dsimp only;omega),sx ⟨⟨_,rfl,xap ?_⟩,⟨⟨_,rfl, ?_⟩,trivial⟩⟩ trivial⟩
 focus (rfl)
 focus (exact LeA.refl _)
 try simp only[Q,Pat.cs_len] at h1p
 refine rn0 (r2 rfl rfl) (.tup (.cons (.eqd ?_) (.cons (.eqd ?_) .nil)));rotate_left 2;all_goals (first|(rw[←hg1.2.1,zgT (by omega),if_neg (by unfold zbQ;omega)];rfl)|(rw[←hg1.2.1,zrH (by omega)];rfl))
theorem zmb {w:List Data} (hs:Spa w){f:Nat→Nat}{ta tk:Int} (ht:InS (w.length*4) ⟨ta,tk⟩){p:Pat} (hp:p.ok):
  FnD Tryz.prog 95 [.agg [.d (.i p.op),.d (.i p.ctor),.d (.i p.n),.d (.i p.m),.d (.i p.var),.d (zad p.kids)],.ref 3004 0,.ref 3005 0] [(3004,some (.box [.d (sPtr w f)])),(3005,some (.box [.d (.i ta),.d (.i tk)]))] (.d (.bool (!isP w ⟨ta,tk⟩ p))) []:=by
 refine bd Tryz.f95 13 [] [] fun w0 F0 own kept hk=>?_;refine bx 3001 ?_;refine ev ?_;refine wc zp9 (zeU hs.dp.wt (zb3 ht) hp) rfl rfl ?_;refine evd [] [] ?_;refine dr ?_;refine rn [] (r1 rfl) (.eqd ?_) ⟨rfl,rfl⟩ (SubH.get ⟨rfl,⟨rfl,trivial⟩⟩) (fun _ h=>h);rotate_left;all_goals (rfl)
theorem ziP {w:List Data} (hs:Spa w){f:Nat→Nat}{ta tk:Int} (ht:InS (w.length*4) ⟨ta,tk⟩){l:List Pat}{ok:Bool} (hl:∀a∈l,a.ok) (hb:l.length≤1000000000000):
  FnD Tryz.prog 50 [.d (sPtr w f),.agg [.d (.i ta),.d (.i tk)],.d (zad l),.d (.bool ok)] [] (.tup [.d (zad (if (ok&&l.all (isP w ⟨ta,tk⟩))=true then l else [])),.d (.bool (ok&&l.all (isP w ⟨ta,tk⟩)))]) []:=by
 have hall:(l.any fun p=> !isP w ⟨ta,tk⟩ p) = !(l.all (isP w ⟨ta,tk⟩)):=by
  induction l with
  |nil=>rfl
  |cons x r ih=>rw[List.any_cons,List.all_cons,ih (fun a ha=>hl a (by simp[ha])) (by simp at hb;omega),Bool.not_and]
 have hcf:=zg3 (xs:=l) (p:=fun p=> !isP w ⟨ta,tk⟩ p) (caps:=[.ref 3004 0,.ref 3005 0]) (hp:=[(3004,some (.box [.d (sPtr w f)])),(3005,some (.box [.d (.i ta),.d (.i tk)]))]) hb zyD (fun q hq=>zmb hs ht (hl q hq)) ⟨rfl,rfl,trivial⟩ rfl rfl;rw[hall] at hcf;clear hall;generalize l.all (isP w ⟨ta,tk⟩)=q at hcf ⊢;refine bd Tryz.f50 19 [] [] fun w0 F0 own kept hk=>?_;refine bx 3004 ?_;refine bx 3005 ?_;refine ev ?_;refine sq ?_ ?_<;>intro h1 h1p h1s;try simp only[Q] at h1p
 refine sqT ?_;refine rn0 (r2 rfl rfl) (.tup (.cons (.nild ?_) (.cons (.eqd ?_) .nil)));rotate_left 2;try simp only[Q] at h1p
 refine xaI (xs:=[_,_]) rfl (.some rfl rfl h1) rfl rfl ?_;refine Walk.call (cr:=[]) zyC (hcf) rfl (.some rfl rfl h1) rfl rfl (LeL.refl _) ⟨rfl,rfl,trivial⟩ rfl rfl rfl ?_;refine evs [] [(12,false)] ?_ ⟨⟨_,rfl,h1⟩,trivial⟩;refine sq ?_ ?_<;>intro h3 h3p h3s;try simp only[Q] at h3p
 refine rn0 (r2 rfl rfl) (.tup (.cons (.nild ?_) (.cons (.eqd ?_) .nil)));rotate_left 2;try simp only[Q] at h3p
 refine wc zyE (zjU hb hl) rfl rfl ?_;refine ev ?_;refine rn0 (r2 rfl rfl) (.tup (.cons (.eqd ?_) (.cons (.eqd ?_) .nil)));rotate_left 2;all_goals ((cases ok<;>cases q<;>first|rfl|(exfalso;simp_all;done)))
mutual
def hitP:Pat→Val→Bool
 | .mk op c n m _ ks,v=>if op=3 then zar v.num n m else if op=4 then decide (c=v.ctor)&&hitL ks v.kids else true
def hitL:List Pat→List Val→Bool
 |p::r,v::s=>hitP p v&&hitL r s
 |_,_=>true
end
theorem zol (p:Pat) (v:Val):hitP p v=if p.op=3 then zar v.num p.n p.m else if p.op=4 then decide (p.ctor=v.ctor)&&hitL p.kids v.kids else true:=by
 cases p;unfold hitP;rfl
theorem ze4 {p:Pat}{v:Val} (h:p.op=1):hitP p v=true:=by rw[zol,if_neg (by omega),if_neg (by omega)]
theorem zhb {p:Pat}{v:Val} (h:p.op=3):hitP p v=zar v.num p.n p.m:=by rw[zol,if_pos h]
theorem zcJ {p:Pat}{v:Val} (h:p.op=4):hitP p v=(decide (p.ctor=v.ctor)&&hitL p.kids v.kids):=by rw[zol,if_neg (by omega),if_pos h]
theorem zjm:∀ {l:List Pat}{s:List Val},l.length=s.length→(hitL l s=true↔∀i,i<l.length→hitP (nth l i) (nth s i)=true)
 | [],[],_=>by simp[hitL]
 |p::r,v::s,h=>by
  have ih:=zjm (l:=r) (s:=s) (by simpa using h);simp only[hitL,xad,ih];constructor
  ·rintro ⟨h1,h2⟩ i hi
   cases i with
   |zero=>exact h1
   |succ i=>exact h2 i (by simpa using hi)
  ·intro h1;exact⟨h1 0 (by simp),fun i hi=>h1 (i+1) (by simpa using hi)⟩
 | [],_::_,h=>by simp at h
 |_::_,[],h=>by simp at h
theorem zl5 {α:Type}:∀(l:List α) (s:List Val),hitL (l.map fun _=>anyQ) s=true
 | [],_=>by simp[hitL]
 |_::_,[]=>by simp[hitL]
 |_::r,v::s=>by simp only[xae,hitL,zl5 r s,Bool.and_true];exact ze4 rfl
theorem zgH:∀(l:List Pat) (s:List Val) (p:Pat) (v:Val),l.length=s.length→hitL (l++[p]) (s++[v])=(hitL l s&&hitP p v)
 | [],[],p,v,_=>by simp[hitL]
 |q::r,x::s,p,v,h=>by
  simp only[xag,hitL,zgH r s p v (by simpa using h),Bool.and_assoc]
 | [],_::_,_,_,h=>by simp at h
 |_::_,[],_,_,h=>by simp at h
theorem zq0:∀(l:List Pat) (s:List Val) (r:List Pat) (q:List Val),l.length=s.length→hitL (l++r) (s++q)=(hitL l s&&hitL r q)
 | [],[],r,q,_=>by simp[hitL]
 |p::l,x::s,r,q,h=>by
  simp only[xag,hitL,zq0 l s r q (by simpa using h),Bool.and_assoc]
 | [],_::_,_,_,h=>by simp at h
 |_::_,[],_,_,h=>by simp at h
theorem zvx {w:List Data}{m:Nat}{t:Ty}{v:Val} (h:zaI w m t v=true) (ht:t.data = -1):0≤v.num∧v.num≤9:=by
 cases m with
 |zero=>simp[zaI] at h
 |succ m=>
  unfold zaI at h;rw[if_pos ht] at h;simp only[xad,decide_eq_true_eq] at h;omega
theorem zrq:∀(ls:List (List Pat)) (vs:List Val) (out:List (List Pat)) (v0:List Val),ls.length=vs.length→(∀q∈out,q.length=v0.length)→
  ((∃l∈ls.foldl za8 out,hitL l (v0++vs)=true)↔(∃q∈out,hitL q v0=true)∧∀i,i<ls.length→∃x∈nth ls i,hitP x (nth vs i)=true)
 | [],[],out,v0,_,_=>by simp
 |l::r,v::s,out,v0,h,ho=>by
  have ih:=zrq r s (za8 out l) (v0++[v]) (by simpa using h) (fun q hq=>by
   unfold za8 at hq;obtain⟨q0,h1,h2⟩:=List.mem_flatMap.1 hq;obtain⟨c,h3,rfl⟩:=List.mem_map.1 h2;simp[ho q0 h1])
  rw[List.append_assoc] at ih;rw[List.foldl_cons,show v0++v::s=v0++([v]++s) from rfl,ih];constructor
  ·rintro ⟨⟨q,hq,hh⟩,h2⟩
   unfold za8 at hq;obtain⟨q0,h3,h4⟩:=List.mem_flatMap.1 hq;obtain⟨c,h5,rfl⟩:=List.mem_map.1 h4;rw[zgH q0 v0 c v (ho q0 h3),xad] at hh;refine⟨⟨q0,h3,hh.1⟩,fun i hi=>?_⟩;cases i with
   |zero=>exact⟨c,h5,hh.2⟩
   |succ i=>exact h2 i (by simpa using hi)
  ·rintro ⟨⟨q,hq,hh⟩,h2⟩
   obtain⟨c,h5,h6⟩:=h2 0 (by simp);refine⟨⟨q++[c], ?_, ?_⟩,fun i hi=>h2 (i+1) (by simpa using hi)⟩
   ·unfold za8;exact List.mem_flatMap.2 ⟨q,hq,List.mem_map.2 ⟨c,h5,rfl⟩⟩
   ·rw[zgH q v0 c v (ho q hq),hh];exact h6
 | [],_::_,_,_,h,_=>by simp at h
 |_::_,[],_,_,h,_=>by simp at h
theorem zjr {f:Pat→Val→List Bd×Bool}:∀ {a:List Pat}{b:List Val}{acc:List Bd},a.length=b.length→((zbw f a b acc).2=true↔∀i,i<a.length→(f (nth a i) (nth b i)).2=true)
 | [],[],acc,_=>by simp[zbw]
 |p::r,v::s,acc,h=>by
  unfold zbw;by_cases hp:(f p v).2=true
  ·rw[if_pos hp,zjr (a:=r) (b:=s) (by simpa using h)];constructor
   ·intro h1 i hi;cases i with
    |zero=>exact hp
    |succ i=>exact h1 i (by simpa using hi)
   ·intro h1 i hi;exact h1 (i+1) (by simpa using hi)
  ·rw[if_neg hp];constructor
   ·intro h1;cases h1
   ·intro h1;exact absurd (h1 0 (by simp)) hp
 | [],_::_,_,h=>by simp at h
 |_::_,[],_,h=>by simp at h
theorem zdo {p:Pat} (h5:p.op≠5) (hk:p.kids=[]):zaq p=[p]:=by
 rw[zc5 h5,hk];cases p
 simp only[za5] at hk;subst hk;simp[zee,zcb,zfq,mk_n,mk_m,zhP]
theorem zeY {w:List Data}:∀(n m:Nat){t:Ty}{p:Pat}{v:Val},zap w n t p=true→zaI w m t v=true→((zay n p v).2=true↔∃x∈zaq (zau p),hitP x v=true)
 |0,m,t,p,v,h,_=>by simp[zap] at h
 |n+1,0,t,p,v,_,h=>by simp[zaI] at h
 |n+1,m+1,t,p,v,h,hv=>by
  rcases zez h with h1|h2|h3|h4|h5|h6
  ·have hk:=zeQ h (by omega) (by omega) (by omega);rw[zf8 h1,zbj,if_neg (by omega),if_neg (by omega),zdo (by rw[zcb];omega) (by rw[za5,hk];rfl)];simp only[List.mem_singleton,exists_eq_left,true_iff];exact ze4 h1
  ·rw[zht h2,zbj,if_pos h2,zcc];simp only[List.mem_singleton,exists_eq_left,true_iff];exact ze4 rfl
  ·have hk:=zeQ h (by omega) (by omega) (by omega);rw[zfm h3,zbj,if_neg (by omega),if_neg (by omega),zdo (by rw[zcb];omega) (by rw[za5,hk];rfl)];simp only[List.mem_singleton,exists_eq_left];rw[zhb (p:= .mk p.op p.ctor p.n p.m p.var (p.kids.map zau)) h3];exact Iff.rfl
  ·have hs:=h;unfold zap at hs;rw[xad,zaU h4] at hs;have hl:=zgp hs.2;rw[zbj,if_neg (by omega),if_neg (by omega),zc5 (by rw[zcb];omega)];have hd:t.data≠ -1:=fun e=>by
    have:=zcf hs.1 h4;unfold zah at this;rw[if_pos e] at this;simp at this
   obtain⟨f1,f2,f3⟩:=zdg hv hd;by_cases hc:p.ctor=v.ctor
   ·rw[zhu h4 hc];rw[hc] at hl hs;have hlen:p.kids.length=v.kids.length:=by omega
    rw[zjr hlen];have hp:=zrq ((p.kids.map zau).map zaq) v.kids [[]] [] (by simp[hlen]) (by simp);simp only[List.nil_append,List.mem_singleton,exists_eq_left,hitL,true_and,xac] at hp;have hih:∀i,i<p.kids.length→((zay n (nth p.kids i) (nth v.kids i)).2=true↔∃x∈nth ((p.kids.map zau).map zaq) i,hitP x (nth v.kids i)=true):=fun i hi=>by
     rw[zeY n m (zej hl hs.2 i (by omega)) (f3 i (by omega))];have e:nth ((p.kids.map zau).map zaq) i=zaq (zau (nth p.kids i)):=by
      rw[zaP (by simpa using hi),zaP hi];simp
     rw[e]
    constructor
    ·intro h1;obtain⟨l,hl2,hh⟩:=hp.2 (fun i hi=>(hih i hi).1 (h1 i hi));refine⟨_,List.mem_map.2 ⟨l,hl2,rfl⟩, ?_⟩;rw[zcJ (by rw[zcb];exact h4)];simp only[zfq,za5,hc,hh,decide_true,Bool.and_self]
    ·rintro ⟨x,hx,hh⟩ i hi
     obtain⟨l,hl2,rfl⟩:=List.mem_map.1 hx;rw[zcJ (by rw[zcb];exact h4),xad] at hh;exact(hih i hi).2 (hp.1 ⟨l,hl2,hh.2⟩ i hi)
   ·rw[zf9 h4 hc];constructor
    ·intro h1;cases h1
    ·rintro ⟨x,hx,hh⟩
     obtain⟨l,hl2,rfl⟩:=List.mem_map.1 hx;rw[zcJ (by rw[zcb];exact h4),xad] at hh;exact absurd (of_decide_eq_true hh.1) hc
  ·obtain⟨l2,s0,s1⟩:=zeA h h5;have ee:p.kids.map zau=[zau (nth p.kids 0),zau (nth p.kids 1)]:=by
    match hk:p.kids,l2 with
    | [a,b],_=>rfl
   rw[zbj,if_neg (by omega),if_neg (by omega),zdu (by rw[zcb];exact h5) (by rw[za5];simpa using l2),za5,ee];have i0:=zeY n (m+1) s0 hv;have i1:=zeY n (m+1) s1 hv;have e0:nth [zau (nth p.kids 0),zau (nth p.kids 1)] 0=zau (nth p.kids 0):=rfl;have e1:nth [zau (nth p.kids 0),zau (nth p.kids 1)] 1=zau (nth p.kids 1):=rfl;rw[e0,e1];by_cases hm:(zay n (nth p.kids 0) v).2=true
   ·rw[zhL h5 hm];obtain⟨x,hx,hh⟩:=i0.1 hm;simp only[true_iff];exact⟨x,List.mem_append_left _ hx,hh⟩
   ·rw[zhM h5 (by simpa using hm),i1];constructor
    ·rintro ⟨x,hx,hh⟩
     exact⟨x,List.mem_append_right _ hx,hh⟩
    ·rintro ⟨x,hx,hh⟩
     rcases List.mem_append.1 hx with hx|hx
     ·exact absurd (i0.2 ⟨x,hx,hh⟩) hm
     ·exact⟨x,hx,hh⟩
  ·obtain⟨l1,s0⟩:=zey h h6;rw[zga h6,zbj,if_neg (by omega),if_pos ⟨h6,fun e=>by rw[e] at l1;simp at l1⟩];exact zeY n (m+1) s0 hv
theorem zpf {w:List Data}:∀(n k m:Nat){t:Ty}{p:Pat}{v:Val},zap w n t p=true→zac w k t p=true→zaI w m t v=true→(zay n p v).2=hitP p v
 |0,k,m,t,p,v,h,_,_=>by simp[zap] at h
 |n+1,0,m,t,p,v,_,h,_=>by simp[zac] at h
 |n+1,k+1,0,t,p,v,_,_,h=>by simp[zaI] at h
 |n+1,k+1,m+1,t,p,v,h,hp,hv=>by
  rcases zbh hp with h1|h3|h4
  ·rw[zf8 h1,ze4 h1]
  ·rw[zfm h3,zhb h3]
  ·have hs:=h;unfold zap at hs;rw[xad,zaU h4] at hs;have hl:=zgp hs.2;obtain⟨m1,m2,m3,m4⟩:=zaw hp h4;obtain⟨f1,f2,f3⟩:=zdg hv m2;rw[zcJ h4];by_cases hc:p.ctor=v.ctor
   ·rw[zhu h4 hc,decide_eq_true hc,Bool.true_and,Bool.eq_iff_iff];rw[hc] at hl hs m3;rw[zjr (by omega),zjm (by omega)];have hk:∀i,i<p.kids.length→(zay n (nth p.kids i) (nth v.kids i)).2=hitP (nth p.kids i) (nth v.kids i):=fun i hi=>by
     have hpk:=zaH hp hi;rw[zaU h4,hc] at hpk;exact zpf n k m (zej hl hs.2 i (by omega)) hpk (f3 i (by omega))
    constructor
    ·intro h1 i hi;rw[←hk i hi];exact h1 i hi
    ·intro h1 i hi;rw[hk i hi];exact h1 i hi
   ·rw[zf9 h4 hc,decide_eq_false hc,Bool.false_and]
theorem zpg {f:Pat→Pat→Option Pat}:∀ {a b:List Pat}{acc:List Pat}{s q:List Val},a.length=b.length→a.length=s.length→acc.length=q.length→
  (∀i,i<a.length→match f (nth a i) (nth b i) with
   |none=>(hitP (nth a i) (nth s i)&&hitP (nth b i) (nth s i))=false
   |some x=>hitP x (nth s i)=(hitP (nth a i) (nth s i)&&hitP (nth b i) (nth s i)))→
  match zbv f a b acc with
   |none=>(hitL a s&&hitL b s)=false
   |some l=>hitL l (q++s)=(hitL acc q&&(hitL a s&&hitL b s))
 | [],[],acc,[],q,_,_,ha,_=>by simp[zbv,hitL]
 |p::r,p2::r2,acc,v::s,q,h1,h2,ha,hf=>by
  have h0:=hf 0 (by simp);have e1:nth (p::r) 0=p:=rfl;have e2:nth (p2::r2) 0=p2:=rfl;have e3:nth (v::s) 0=v:=rfl;rw[e1,e2,e3] at h0;unfold zbv;cases hx:f p p2 with
  |none=>
   rw[hx] at h0;simp only[hitL];dsimp only at h0;cases ha1:hitP p v<;>cases hb1:hitP p2 v<;>simp_all
  |some x=>
   rw[hx] at h0;dsimp only at h0 ⊢;have ih:=zpg (f:=f) (a:=r) (b:=r2) (acc:=acc++[x]) (s:=s) (q:=q++[v]) (by simpa using h1) (by simpa using h2) (by simp[ha]) (fun i hi=>hf (i+1) (by simpa using hi));cases hm:zbv f r r2 (acc++[x]) with
   |none=>
    rw[hm] at ih;dsimp only at ih ⊢;simp only[hitL];cases ha1:hitP p v<;>cases hb1:hitP p2 v<;>simp_all
   |some l=>
    rw[hm] at ih;dsimp only at ih ⊢;rw[show q++v::s=q++[v]++s by simp,ih,zgH acc q x v ha,h0];simp only[hitL];cases hitL acc q<;>cases hitP p v<;>cases hitP p2 v<;>cases hitL r s<;>cases hitL r2 s<;>rfl
 | [],_::_,_,_,_,h,_,_,_=>by simp at h
 |_::_,[],_,_,_,h,_,_,_=>by simp at h
 | [],[],_,_::_,_,_,h,_,_=>by simp at h
 |_::_,_::_,_,[],_,_,h,_,_=>by simp at h
theorem zr9 {x a b c d:Int}:zar x (maxQ a c) (minQ b d)=(zar x a b&&zar x c d):=by
 unfold zar maxQ minQ;rw[Bool.eq_iff_iff];simp only[xad,decide_eq_true_eq];split<;>split<;>omega
theorem zju {w:List Data}:∀(k m:Nat){t:Ty}{a b:Pat}{v:Val},zac w k t a=true→zac w k t b=true→zaI w m t v=true→∀n,k≤n→match zan n a b with
  |none=>(hitP a v&&hitP b v)=false
  |some x=>hitP x v=(hitP a v&&hitP b v)
 |0,m,t,a,b,v,ha,_,_,_,_=>by simp[zac] at ha
 |k+1,0,t,a,b,v,_,_,hv,_,_=>by simp[zaI] at hv
 |k+1,m+1,t,a,b,v,_,_,_,0,h=>by omega
 |k+1,m+1,t,a,b,v,ha,hb,hv,n+1,hn=>by
  by_cases h1:a.op=1
  ·rw[zgM h1];dsimp only;rw[ze4 h1,Bool.true_and]
  by_cases h2:b.op=1
  ·rw[zhN h1 h2];dsimp only;rw[ze4 h2,Bool.and_true]
  have hs:=zbW ha hb h1 h2;have oa:=zbh ha;by_cases h3:a.op=3
  ·rw[zhO h3 h2,zhb h3,zhb (p:=b) (by omega),←zr9];split
   ·rename_i x hx;split at hx
    ·cases hx
    ·unfold zar;simp only[Bool.and_eq_false_iff,decide_eq_false_iff_not];omega
   ·rename_i x hx;split at hx
    ·cases hx;rfl
    ·cases hx
  have h4:a.op=4:=by omega
  have hb4:b.op=4:=by omega
  rw[zcJ h4,zcJ hb4];obtain⟨m1,m2,m3,m4⟩:=zaw ha h4;obtain⟨n1,n2,n3,n4⟩:=zaw hb hb4;obtain⟨f1,f2,f3⟩:=zdg hv m2;by_cases hc:a.ctor=b.ctor
  ·rw[zgN h4 h2 hc];rw[←hc] at n3 ⊢;by_cases hcv:a.ctor=v.ctor
   ·rw[decide_eq_true hcv];have hl:=zpg (f:=zan n) (a:=a.kids) (b:=b.kids) (acc:=[]) (s:=v.kids) (q:=[]) (by omega) (by rw[hcv] at m3;omega) rfl (fun i hi=>by
     have ka:=zaH ha (i:=i) hi;have kb:=zaH hb (i:=i) (by omega);rw[zaU h4,hcv] at ka;rw[zaU hb4,←hc,hcv] at kb;exact zju k m ka kb (f3 i (by rw[hcv] at m3;omega)) n (by omega))
    cases hx:zbv (zan n) a.kids b.kids [] with
    |none=>
     rw[hx] at hl;dsimp only[Option.map_none] at hl ⊢;rw[Bool.true_and,Bool.true_and];exact hl
    |some l=>
     rw[hx] at hl;dsimp only[Option.map_some] at hl ⊢;rw[zcJ (by rfl)];show(decide (a.ctor=v.ctor)&&hitL l v.kids)=_
     rw[decide_eq_true hcv];simpa [hitL] using hl
   ·rw[decide_eq_false hcv];cases hx:zbv (zan n) a.kids b.kids [] with
    |none=>rfl
    |some l=>
     dsimp only[Option.map_some];rw[zcJ (by rfl)];show(decide (a.ctor=v.ctor)&&hitL l v.kids)=_
     rw[decide_eq_false hcv];rfl
  ·rw[zgc h4 h2 hc];dsimp only;by_cases hcv:a.ctor=v.ctor
   ·rw[decide_eq_false (p:=b.ctor=v.ctor) (by omega)];simp
   ·rw[decide_eq_false hcv];simp
def one (b:Bool):Nat:=if b=true then 1 else 0
theorem zoT {a b:Int}{v:Val}:(zbO a b).countP (fun x=>hitP x v)=one (zar v.num a b):=by
 unfold zbO one;split
 ·rw[List.countP_singleton,zhb rfl];rfl
 ·rename_i h;have:zar v.num a b=false:=by unfold zar;simp only[Bool.and_eq_false_iff,decide_eq_false_iff_not];omega
  rw[this];rfl
theorem zup {c:Int}{pre:List Pat}{s:List Pat}{v0:Val}{vf vs:List Val}{v:Val} (hv:v.kids=vf++v0::vs) (hl:pre.length=vf.length) (l:List Pat):
  (l.map (fun z=>zaY c (pre++[z]++s))).countP (fun x=>hitP x v)=one (decide (c=v.ctor)&&(hitL pre vf&&hitL s vs))*l.countP (fun z=>hitP z v0):=by
 rw[List.countP_map];have hz:∀z,hitP (zaY c (pre++[z]++s)) v=((decide (c=v.ctor)&&(hitL pre vf&&hitL s vs))&&hitP z v0):=fun z=>by
  rw[zcJ rfl];show(decide (c=v.ctor)&&hitL (pre++[z]++s) v.kids)=_
  rw[hv,show vf++v0::vs=vf++([v0]++vs) by simp,List.append_assoc,zq0 pre vf _ _ hl];show(decide (c=v.ctor)&&(hitL pre vf&&(hitP z v0&&hitL s vs)))=_
  cases decide (c=v.ctor)<;>cases hitL pre vf<;>cases hitP z v0<;>cases hitL s vs<;>rfl
 cases hb:(decide (c=v.ctor)&&(hitL pre vf&&hitL s vs)) with
 |true=>
  rw[show one true=1 from rfl,Nat.one_mul];congr 1
  funext z
  show hitP (zaY c (pre++[z]++s)) v=_
  rw[hz,hb,Bool.true_and]
 |false=>
  rw[show one false=0 from rfl,Nat.zero_mul];rw[List.countP_eq_zero];intro z _;show ¬hitP (zaY c (pre++[z]++s)) v=true
  rw[hz,hb];simp
theorem zvE:∀d f x y s b:Bool,one (d&&(f&&s))*one (x&& !y)+one (d&&((f&&(x&&y))&&(s&& !b)))=one (d&&(f&&((x&&s)&& !(y&&b)))):=by decide
theorem zvD:∀d f x y s b:Bool,(x&&y)=false→one (d&&(f&&s))*one (x&& !y)+0=one (d&&(f&&((x&&s)&& !(y&&b)))):=by decide
theorem zuN {x la ha bn bm:Int} (h:bn≤bm):one (zar x la (minQ ha (bn-1)))+one (zar x (maxQ la (bm+1)) ha)=one (zar x la ha&& !zar x bn bm):=by
 have e1:zar x la (minQ ha (bn-1))=(zar x la ha&&decide (x<bn)):=by
  unfold zar minQ;rw[Bool.eq_iff_iff];simp only[xad,decide_eq_true_eq];split<;>omega
 have e2:zar x (maxQ la (bm+1)) ha=(zar x la ha&&decide (bm<x)):=by
  unfold zar maxQ;rw[Bool.eq_iff_iff];simp only[xad,decide_eq_true_eq];split<;>omega
 have e3:zar x bn bm=(!decide (x<bn)&& !decide (bm<x)):=by
  unfold zar;rw[Bool.eq_iff_iff];simp only[xad,Bool.not_eq_true',decide_eq_true_eq,decide_eq_false_iff_not];omega
 have key:∀q u v:Bool,(u&&v)=false→one (q&&u)+one (q&&v)=one (q&& !(!u&& !v)):=by decide
 rw[e1,e2,e3];refine key _ _ _ ?_;rw[Bool.and_eq_false_iff,decide_eq_false_iff_not,decide_eq_false_iff_not];omega
theorem znm {w:List Data}{f:Ty→Pat→Pat→List Pat}{m:Nat}{c:Int}{v:Val}:
  ∀ {us:List Ty}{xs bs front:List Pat}{vf vs:List Val},v.kids=vf++vs→front.length=vf.length→us.length=xs.length→bs.length=xs.length→vs.length=xs.length→
   (∀j,j<xs.length→zac w 11 (nth us j) (nth xs j)=true∧zac w 11 (nth us j) (nth bs j)=true∧zaI w m (nth us j) (nth vs j)=true∧(f (nth us j) (nth xs j) (nth bs j)).countP (fun x=>hitP x (nth vs j))=one (hitP (nth xs j) (nth vs j)&& !hitP (nth bs j) (nth vs j)))→
   (zaR f c us xs bs front).countP (fun x=>hitP x v)=one (decide (c=v.ctor)&&(hitL front vf&&(hitL xs vs&& !hitL bs vs)))
 | [],[],[],front,vf,[],_,_,_,_,_,_=>by
  simp only[zaR,List.countP_nil,hitL];cases decide (c=v.ctor)<;>cases hitL front vf<;>rfl
 |u::us,x::xs,y::bs,front,vf,v0::vs,hv,hfl,h1,h2,h3,hf=>by
  have h0:=hf 0 (by simp);have e0:nth (u::us) 0=u:=rfl;have e1:nth (x::xs) 0=x:=rfl;have e2:nth (y::bs) 0=y:=rfl;have e3:nth (v0::vs) 0=v0:=rfl;rw[e0,e1,e2,e3] at h0;unfold zaR;rw[List.countP_append,zup hv hfl,h0.2.2.2];have hm:=zju 11 m h0.1 h0.2.1 h0.2.2.1 11 (Nat.le_refl _);cases hq:zan 11 x y with
  |none=>
   rw[hq] at hm;dsimp only at hm ⊢;simp only[List.countP_nil,hitL];exact zvD _ _ _ _ _ _ hm
  |some both=>
   rw[hq] at hm;dsimp only at hm ⊢;have ih:=znm (w:=w) (f:=f) (m:=m) (c:=c) (v:=v) (us:=us) (xs:=xs) (bs:=bs) (front:=front++[both]) (vf:=vf++[v0]) (vs:=vs) (by rw[hv];simp) (by simp[hfl]) (by simpa using h1) (by simpa using h2) (by simpa using h3) (fun j hj=>hf (j+1) (by simpa using hj));rw[ih,zgH front vf both v0 hfl,hm];simp only[hitL];exact zvE _ _ _ _ _ _
 | [],_::_,_,_,_,_,_,_,h,_,_,_=>by simp at h
 |_::_,[],_,_,_,_,_,_,h,_,_,_=>by simp at h
 |_,[],_::_,_,_,_,_,_,_,h,_,_=>by simp at h
 |_,_::_,[],_,_,_,_,_,_,h,_,_=>by simp at h
 |_,[],_,_,_,_::_,_,_,_,_,h,_=>by simp at h
 |_,_::_,_,_,_,[],_,_,_,_,h,_=>by simp at h
theorem zlM {f:Ty→Pat→Pat→List Pat}{c:Int}{x:Pat}:∀ {us:List Ty}{xs bs front:List Pat},x∈zaR f c us xs bs front→∃l,x=zaY c l
 |u::us,a::xs,y::bs,front,h=>by
  unfold zaR at h;rcases List.mem_append.1 h with h|h
  ·obtain⟨z,_,rfl⟩:=List.mem_map.1 h;exact⟨_,rfl⟩
  ·cases hq:zan 11 a y with
   |none=>rw[hq] at h;simp at h
   |some b=>rw[hq] at h;exact zlM h
 | [],_,_,_,h=>by simp[zaR] at h
 |_::_,[],_,_,h=>by simp[zaR] at h
 |_::_,_::_,[],_,h=>by simp[zaR] at h
theorem zoS {c0:Int}{g:Int→List Pat}{v:Val}{k:Nat}:∀ {l:List Int},l.Nodup→c0∈l→(∀c∈l,c≠c0→(g c).countP (fun x=>hitP x v)=0)→(g c0).countP (fun x=>hitP x v)=k→(l.flatMap g).countP (fun x=>hitP x v)=k
 | [],_,h,_,_=>by simp at h
 |a::r,hn,hm,hz,hk=>by
  rw[List.flatMap_cons,List.countP_append];have hn':=List.nodup_cons.1 hn;by_cases ha:a=c0
  ·subst ha;have h0:(r.flatMap g).countP (fun x=>hitP x v)=0:=by
    rw[List.countP_eq_zero];intro x hx;obtain⟨c,hc,hx⟩:=List.mem_flatMap.1 hx;have:=hz c (by simp[hc]) (fun e=>hn'.1 (e ▸ hc));rw[List.countP_eq_zero] at this;exact this x hx
   omega
  ·have h1:=hz a (by simp) ha;have h2:=zoS (g:=g) (v:=v) (k:=k) hn'.2 (by simpa [Ne.symm ha] using hm) (fun c hc=>hz c (by simp[hc])) hk;omega
section
variable {w:List Data} (hs:Spa w)
include hs
theorem zpm:∀(n m k:Nat){t:Ty}{a b:Pat}{v:Val},n<m→m≤12→InS (w.length*4) t→zac w m t a=true→zac w n t b=true→zaI w k t v=true→(zas w n t a b).countP (fun x=>hitP x v)=one (hitP a v&& !hitP b v)
 |0,m,k,t,a,b,v,_,_,_,_,hb,_=>by simp[zac] at hb
 |n+1,0,k,t,a,b,v,hn,_,_,_,_,_=>by omega
 |n+1,m+1,0,t,a,b,v,_,_,_,_,_,hv=>by simp[zaI] at hv
 |n+1,m+1,k+1,t,a,b,v,hn,h12,ht,ha,hb,hv=>by
  have hcc:∀a,zac w (m+1) t a=true→a.op=4→b.op=4→(zb0 (zas w n) w t a b).countP (fun x=>hitP x v)=one (hitP a v&& !hitP b v):=fun a ha h4 h4b=>by
   obtain⟨m1,m2,m3,m4⟩:=zaw ha h4;obtain⟨n1,n2,n3,n4⟩:=zaw hb h4b;obtain⟨f1,f2,f3⟩:=zdg hv m2;rw[zcJ h4,zcJ h4b];unfold zb0;split
   ·rename_i hc;by_cases hcv:a.ctor=v.ctor
    ·have:=znm (w:=w) (f:=zas w n) (m:=k) (c:=a.ctor) (v:=v) (us:=zaa w t a.ctor) (xs:=a.kids) (bs:=b.kids) (front:=[]) (vf:=[]) (vs:=v.kids) rfl rfl m3.symm (by rw[←hc] at n3;omega) (by rw[hcv] at m3;omega) (fun j hj=>by
      have ka:=zaH ha (i:=j) hj;have kb:=zaH hb (i:=j) (by rw[←hc] at n3;omega);rw[zaU h4] at ka;rw[zaU h4b,←hc] at kb;have kv:=f3 j (by rw[hcv] at m3;omega);rw[←hcv] at kv;exact⟨zdd (by omega) ka,zdd (by omega) kb,kv,zpm n m k (by omega) (by omega) (zbn hs.dp ht m1 _ (zaf (by omega))) ka kb kv⟩)
     rw[this,←hc];simp only[hitL,one];cases decide (a.ctor=v.ctor)<;>cases hitL a.kids v.kids<;>cases hitL b.kids v.kids<;>rfl
    ·have hz:(zaR (zas w n) a.ctor (zaa w t a.ctor) a.kids b.kids []).countP (fun x=>hitP x v)=0:=by
      rw[List.countP_eq_zero];intro x hx;obtain⟨l,rfl⟩:=zlM hx;rw[zcJ rfl];show ¬(decide (a.ctor=v.ctor)&&hitL l v.kids)=true
      rw[decide_eq_false hcv];simp
     rw[hz,decide_eq_false hcv];rfl
   ·rename_i hc;rw[List.countP_singleton,zcJ h4];by_cases hcv:a.ctor=v.ctor
    ·rw[decide_eq_false (p:=b.ctor=v.ctor) (by omega)];simp only[Bool.false_and,Bool.not_false,Bool.and_true,one]
    ·rw[decide_eq_false hcv];rfl
  rcases zbh hb with h1|h3|h4
  ·rw[zfp h1,ze4 h1];simp[one]
  ·have hd:=(zbC hb h3).1;have hl:=zme ha hd;have ib:=zbC hb h3;have fn:=zvx hv hd;rw[zhv h3,zd5,List.countP_append,zoT,zoT,zhb h3];have hav:hitP a v=zar v.num (lowQ a) (zcl a):=by
    unfold lowQ zcl;rcases zbh ha with h|h|h
    ·rw[ze4 h,if_pos h,if_pos h];unfold zar;rw[decide_eq_true (p:=0≤v.num) (by omega),decide_eq_true (p:=v.num≤9) (by omega)];rfl
    ·rw[zhb h,if_neg (by omega),if_neg (by omega)]
    ·exact absurd hd (zaw ha h).2.1
   rw[hav];exact zuN ib.2.2.1
  ·by_cases ha1:a.op=1
   ·rw[zge h4 ha1,ze4 ha1,Bool.true_and];have hdt:=(zaw hb h4).2.1;obtain⟨f1,f2,f3⟩:=zdg hv hdt;obtain⟨q,rfl⟩:∃q,m=q+1:=⟨m-1,by omega⟩;refine zoS (c0:=v.ctor) (hs.ctors t ht).2 f1 (fun c hc hne=>?_) ?_
    ·rw[hcc _ (zcw hc) rfl h4,zcJ rfl];show one ((decide (c=v.ctor)&&_)&&_)=0
     rw[decide_eq_false hne];rfl
    ·rw[hcc _ (zcw f1) rfl h4,zcJ (p:=zbI w t v.ctor) rfl];show one ((decide (v.ctor=v.ctor)&&hitL ((zaa w t v.ctor).map fun _=>anyQ) v.kids)&& !hitP b v)=_
     rw[zl5,decide_eq_true rfl];rfl
   ·have ha4:a.op=4:=by have:=zbW ha hb ha1 (by omega);omega
    rw[zcX h4 ha4];exact hcc a ha ha4 h4
theorem zkp:∀(n m:Nat){t:Ty}{p:Pat}{v:Val},InS (w.length*4) t→zac w n t p=true→zaI w m t v=true→hitP p v=true→zaX w (zai w) n t p=false
 |0,m,t,p,v,_,h,_,_=>by simp[zac] at h
 |n+1,0,t,p,v,_,_,h,_=>by simp[zaI] at h
 |n+1,m+1,t,p,v,ht,hp,hv,hh=>by
  rcases zbh hp with h1|h3|h4
  ·rw[zfi h1];have:=zwY hs.dp ht hv;exact decide_eq_false (by omega)
  ·exact zlf hp h3
  ·cases he:zaX w (zai w) (n+1) t p with
   |false=>rfl
   |true=>
    exfalso;obtain⟨i,hi,hd⟩:=zlZ hp h4 he;obtain⟨m1,m2,m3,m4⟩:=zaw hp h4;obtain⟨f1,f2,f3⟩:=zdg hv m2;rw[zcJ h4,xad] at hh;have hc:=of_decide_eq_true hh.1;rw[hc] at m3;have hk:=(zjm (by omega)).1 hh.2 i hi;have hpk:=zaH hp hi;rw[zaU h4] at hpk;have:=zkp n m (zbn hs.dp ht m1 _ (zaf (by rw[hc];omega))) hpk (by rw[hc];exact f3 i (by omega)) hk;rw[this] at hd;cases hd
theorem zmQ {t:Ty}{v:Val}{m:Nat} (ht:InS (w.length*4) t) (hv:zaI w m t v=true){l:List Pat} (hl:∀a∈l,zac w 11 t a=true):(l.filter (zbk w t)).countP (fun x=>hitP x v)=l.countP (fun x=>hitP x v):=by
 rw[List.countP_filter];refine List.countP_congr (fun x hx=>?_);simp only[xad];constructor
 ·exact fun h=>h.1
 ·intro h;refine⟨h, ?_⟩;unfold zbk;rw[zkp hs 11 m ht (hl x hx) hv h];rfl
theorem zvL {t:Ty}{v:Val}{m:Nat} (ht:InS (w.length*4) t) (hv:zaI w m t v=true){b:Pat} (hb:zac w 10 t b=true){l:List Pat} (hl:∀a∈l,zac w 11 t a=true):
  (zbQ w t l b).countP (fun x=>hitP x v)=if hitP b v=true then 0 else l.countP (fun x=>hitP x v):=by
 unfold zbQ;rw[zmQ hs ht hv (fun x hx=>by
  obtain⟨a,ha,hx⟩:=List.mem_flatMap.1 hx;exact zfN 10 11 (by omega) (hl a ha) hb x hx)]
 induction l with
 |nil=>simp
 |cons a r ih=>
  rw[List.flatMap_cons,List.countP_append,ih (fun x hx=>hl x (by simp[hx])),zpm hs 10 11 m (by omega) (by omega) ht (hl a (by simp)) hb hv,List.countP_cons];unfold one;cases hitP b v<;>cases hitP a v<;>simp<;>omega
theorem zsY {t:Ty}{v:Val}{m:Nat} (ht:InS (w.length*4) t) (hv:zaI w m t v=true):∀ {away l r:List Pat},(∀b∈away,zac w 10 t b=true)→(∀a∈l,zac w 11 t a=true)→subL w t l away=some r→
  r.countP (fun x=>hitP x v)=if away.any (fun b=>hitP b v)=true then 0 else l.countP (fun x=>hitP x v)
 | [],l,r,_,_,h=>by rw[subL] at h;cases h;simp
 |b::away,l,r,hb,hl,h=>by
  rw[subL] at h;split at h
  ·rw[zsY ht hv (fun x hx=>hb x (by simp[hx])) (zeL hl (hb b (by simp))) h,zvL hs ht hv (hb b (by simp)) hl,List.any_cons];cases hitP b v<;>cases away.any (fun b=>hitP b v)<;>simp
  ·cases h
theorem zsa {t:Ty}{v:Val}{m:Nat} (ht:InS (w.length*4) t) (hv:zaI w m t v=true){away l r:List Pat} (hb:∀b∈away,zac w 10 t b=true) (hl:∀a∈l,zac w 11 t a=true) (h:zaT w t l away=some r):
  r.countP (fun x=>hitP x v)=if away.any (fun b=>hitP b v)=true then 0 else l.countP (fun x=>hitP x v):=by
 unfold zaT at h;rw[zsY hs ht hv hb (fun a ha=>hl a (List.mem_filter.1 ha).1) h,zmQ hs ht hv hl]
end
theorem ztx {w:List Data}{a k:Int}{x:Pat}{v:Val}{m:Nat} (h:isP w ⟨a,k⟩ x=true) (hp:zac w 11 ⟨a,k⟩ x=true) (hv:zaI w m ⟨a,k⟩ v=true):(zay 10 x v).2=hitP x v:=by
 unfold isP at h;rw[xad] at h;exact zpf 10 11 m h.1 hp hv
theorem zmZ {w:List Data}{g:Ty→Val→Bool}{F:Ty→List Val} (hF:∀u x,x∈F u→g u x=true):∀(us:List Ty) (vs:List Ty) (acc:List (List Val)),(∀l∈acc,all2 g vs l=true)→
  ∀l∈(us.map F).foldl (fun acc l=>acc.flatMap fun o=>l.map fun y=>o++[y]) acc,all2 g (vs++us) l=true
 | [],vs,acc,h,l,hl=>by rw[List.append_nil];exact h l hl
 |u::us,vs,acc,h,l,hl=>by
  rw[show vs++u::us=vs++[u]++us by simp];refine zmZ (w:=w) hF us (vs++[u]) _ (fun q hq=>?_) l hl;obtain⟨o,h1,h2⟩:=List.mem_flatMap.1 hq;obtain⟨y,h3,rfl⟩:=List.mem_map.1 h2;have ho:=h o h1;have hy:=hF u y h3;clear hl hq h2 h1 h;induction vs generalizing o with
  |nil=>
   cases o with
   |nil=>simp[all2,hy]
   |cons a r=>simp[all2] at ho
  |cons b s ih=>
   cases o with
   |nil=>simp[all2] at ho
   |cons a r=>
    simp only[all2,xad,xag] at ho ⊢;exact⟨ho.1,ih r ho.2⟩
theorem zjk {w:List Data}:∀(n:Nat){t:Ty}{v:Val},v∈zaM w n t→zaI w n t v=true
 |0,t,v,h=>by simp[zaM] at h
 |n+1,t,v,h=>by
  unfold zaM at h;unfold zaI;by_cases ht:t.data = -1
  ·rw[if_pos ht] at h ⊢;unfold zeq at h;obtain⟨i,hi,rfl⟩:=List.mem_map.1 h;rw[List.mem_range] at hi;simp only[xad,decide_eq_true_eq];exact⟨rfl,by show(0:Int)≤(i:Int);omega,by show(i:Int)≤9;omega,rfl⟩
  ·rw[if_neg ht] at h ⊢;obtain⟨c,hc,h⟩:=List.mem_flatMap.1 h;obtain⟨l,hl,rfl⟩:=List.mem_map.1 h;rw[if_pos ⟨rfl,hc⟩];have:=zmZ (w:=w) (g:=zaI w n) (F:=zaM w n) (fun u x hx=>zjk n hx) (zaa w t c) [] [[]] (by simp[all2]) l hl;exact(by simpa using this:all2 (zaI w n) (zaa w t c) l=true)
theorem zmX {w:List Data}:∀(n:Nat){t:Ty}{v:Val},zaI w n t v=true→zaI w (n+1) t v=true
 |0,t,v,h=>by simp[zaI] at h
 |n+1,t,v,h=>by
  rw[zaI] at h ⊢;split
  ·rename_i hd;rw[if_pos hd] at h;exact h
  ·rename_i hd;rw[if_neg hd] at h;split at h
   ·rename_i hc;rw[if_pos hc];exact zhx (fun x _ y _ hxy=>zmX n hxy) h
   ·cases h
theorem zhE {w:List Data}{n m:Nat} (h:n≤m){t:Ty}{v:Val} (hv:zaI w n t v=true):zaI w m t v=true:=by
 induction h with
 |refl=>exact hv
 |step _ ih=>exact zmX _ ih
def szN:Nat→Nat
 |0=>0
 |n+1=>1+3*szN n
theorem Vals.size_of {m:Nat}:∀ {l:List Val},(∀k∈l,k.size≤m)→Vals.size l≤l.length*m
 | [],_=>by simp[Vals.size]
 |x::r,h=>by
  have h1:=h x (by simp);have h2:=Vals.size_of (l:=r) (fun y hy=>h y (by simp[hy]));simp only[Vals.size,xab,Nat.succ_mul];omega
theorem zoZ {w:List Data} (hs:Spa w):∀(n:Nat){t:Ty}{v:Val},InS (w.length*4) t→zaI w n t v=true→v.size≤szN n
 |0,t,v,_,h=>by simp[zaI] at h
 |n+1,t,v,ht,h=>by
  rw[Val.size_eq];by_cases hd:t.data = -1
  ·rw[zaI,if_pos hd] at h;simp only[xad,decide_eq_true_eq] at h;rw[List.eq_nil_of_length_eq_zero h.2.2.2];simp[Vals.size,szN]
  ·obtain⟨f1,f2,f3⟩:=zdg h hd;have h3:=hs.args t _ ht f1;have hz:=Vals.size_of (m:=szN n) (l:=v.kids) (fun k hk=>by
    obtain⟨i,hi,rfl⟩:=List.getElem_of_mem hk;have:=zoZ hs n (zbn hs.dp ht f1 _ (zaf (i:=i) (by omega))) (f3 i hi);rwa [zaP hi] at this)
   have:v.kids.length*szN n≤3*szN n:=Nat.mul_le_mul_right _ (by omega);unfold szN;omega
theorem zs2 {w:List Data} (hs:Spa w){t:Ty} (ht:InS (w.length*4) t){m:Int} (hm:m≤4){v:Val} (h:v∈(vut w t m).1):isV w t v=true∧zaI w 10 t v=true:=by
 unfold vut at h;split at h
 ·have hf:=zjk m.toNat h;have h1:=zoZ hs m.toNat ht hf;have h2:m.toNat≤4:=by omega
  have h3:szN m.toNat≤40:=by
   have:∀i:Nat,i≤4→szN i≤40:=by decide
   exact this _ h2
  have h4:=zhE (m:=10) (by omega) hf;refine⟨?_,h4⟩;unfold isV;rw[h4,Bool.true_and];exact decide_eq_true (by omega)
 ·simp at h
theorem zsd {α β:Type}{f:α→β→Bool}:∀ {l:List α},(∀u∈l,∃v,f u v=true)→∃r,all2 f l r=true
 | [],_=>⟨[],rfl⟩
 |u::s,h=>by
  obtain⟨v,hv⟩:=h u (by simp);obtain⟨r,hr⟩:=zsd (l:=s) (fun x hx=>h x (by simp[hx]));exact⟨v::r,by simp[all2,hv,hr]⟩
theorem zsE {w:List Data}:∀(m:Nat){t:Ty},Hd w m t→∃v,zaI w m t v=true
 |0,_,h=>h.elim
 |m+1,t,h=>by
  by_cases hd:t.data = -1
  ·exact⟨⟨-1,0,[]⟩,by unfold zaI;rw[if_pos hd];rfl⟩
  ·rcases h with h|⟨c,hc,hn,hh⟩
   ·exact absurd h hd
   ·obtain⟨l,hl⟩:=zsd (f:=zaI w m) (l:=zaa w t c) (fun u hu=>zsE m (hh u hu));exact⟨⟨c,0,l⟩,by unfold zaI;rw[if_neg hn,if_pos ⟨rfl,hc⟩];exact hl⟩
theorem zsx {w:List Data} (hd:Dp w){t:Ty} (ht:InS (w.length*4) t) (h:0<dv (zai w) t):∃m v,zaI w m t v=true:=by
 have a:Snd w (zai w)∧Cmp w (w.length*4+1) (zai w):=zc1 hd.cl (w.length*4+1);exact⟨_,zsE _ (zmT a.1 ht h)⟩
theorem zq7 {w:List Data}:∀ {us:List Ty}{ps:List Pat},us.length=ps.length→(∀i,i<ps.length→∃m v,zaI w m (nth us i) v=true∧hitP (nth ps i) v=true)→∃m l,all2 (zaI w m) us l=true∧hitL ps l=true
 | [],[],_,_=>⟨0,[],rfl,rfl⟩
 |u::us,p::ps,hl,h=>by
  obtain⟨m1,v,h1,h2⟩:=h 0 (by simp);obtain⟨m2,l,h3,h4⟩:=zq7 (us:=us) (ps:=ps) (by simpa using hl) (fun i hi=>h (i+1) (by simpa using hi));refine⟨max m1 m2,v::l, ?_, ?_⟩
  ·simp only[all2,xad];exact⟨zhE (Nat.le_max_left _ _) h1,zhx (fun x _ y _ hxy=>zhE (Nat.le_max_right _ _) hxy) h3⟩
  ·simp only[hitL,xad];exact⟨h2,h4⟩
 | [],_::_,h,_=>by simp at h
 |_::_,[],h,_=>by simp at h
theorem zj1 {w:List Data} (hs:Spa w):∀(n:Nat){t:Ty}{p:Pat},InS (w.length*4) t→zac w n t p=true→zaX w (zai w) n t p=false→∃m v,zaI w m t v=true∧hitP p v=true
 |0,t,p,_,h,_=>by simp[zac] at h
 |n+1,t,p,ht,hp,he=>by
  rcases zbh hp with h1|h3|h4
  ·rw[zfi h1] at he;have:=of_decide_eq_false he;obtain⟨m,v,hv⟩:=zsx hs.dp ht (by omega);exact⟨m,v,hv,ze4 h1⟩
  ·have hi:=zbC hp h3;refine⟨1,⟨-1,p.n,[]⟩, ?_, ?_⟩
   ·unfold zaI;rw[if_pos hi.1];simp only[xad,decide_eq_true_eq];exact⟨rfl,hi.2.1,by show p.n≤9;omega,rfl⟩
   ·rw[zhb h3];show zar p.n p.n p.m=true
    unfold zar;rw[xad,decide_eq_true_eq,decide_eq_true_eq];omega
  ·obtain⟨m1,m2,m3,m4⟩:=zaw hp h4;rw[ziK h4] at he;have ha:all2 (fun u q=> !zaX w (zai w) n u q) (zaa w t p.ctor) p.kids=true:=by simpa using he
   obtain⟨m,l,h5,h6⟩:=zq7 (us:=zaa w t p.ctor) (ps:=p.kids) m3.symm (fun i hi=>by
    have hk:=zaH hp hi;rw[zaU h4] at hk;have h7:=zej m3.symm ha i (by omega);exact zj1 hs n (zbn hs.dp ht m1 _ (zaf (by omega))) hk (by simpa using h7))
   refine⟨m+1,⟨p.ctor,0,l⟩, ?_, ?_⟩
   ·unfold zaI;rw[if_neg m2,if_pos ⟨rfl,zk7 m1⟩];exact h5
   ·rw[zcJ h4,xad];exact⟨decide_eq_true rfl,h6⟩
theorem zyl {w:List Data}{n:Nat}{t:Ty}{p:Pat} (h:zac w n t p=true) (h3:p.op=3):p=intQ p.n p.m:=by
 obtain⟨ho,hl⟩:=zfc h;have e:zag w t p=[]:=by unfold zag;rw[if_neg (by omega),if_neg (by omega),if_neg (by omega)]
 rw[e] at hl;have hk:=List.eq_nil_of_length_eq_zero hl;unfold ownP at ho;have hh:=of_decide_eq_true ho;have h1:=hh.2.1 (by omega);have h2:=hh.2.2.2.1 (by omega);obtain⟨op,c,m,k,v,ks⟩:=p;change op=3 at h3
 change v=0 at h1
 change c=0 at h2
 change ks=[] at hk
 rw[h3,h1,h2,hk];rfl
theorem zyk {w:List Data}{n:Nat}{t:Ty}{p:Pat} (h:zac w n t p=true) (h1:p.op=1):p=anyQ:=by
 obtain⟨ho,hl⟩:=zfc h;have e:zag w t p=[]:=by unfold zag;rw[if_neg (by omega),if_neg (by omega),if_neg (by omega)]
 rw[e] at hl;have hk:=List.eq_nil_of_length_eq_zero hl;unfold ownP at ho;have hh:=of_decide_eq_true ho;have h2:=hh.2.1 (by omega);have h3:=hh.2.2.1 (by omega);have h4:=hh.2.2.2.1 (by omega);obtain⟨op,c,m,k,v,ks⟩:=p;change op=1 at h1
 change v=0 at h2
 change m=0∧k=0 at h3
 change c=0 at h4
 change ks=[] at hk
 rw[h1,h2,h3.1,h3.2,h4,hk]
theorem zkz {w:List Data}:∀(k n:Nat){t:Ty}{x z:Pat},zac w k t x=true→zan n x x=some z→z=x
 |0,n,t,x,z,h,_=>by simp[zac] at h
 |k+1,0,t,x,z,_,h=>by simp[zan] at h
 |k+1,n+1,t,x,z,hp,h=>by
  rcases zbh hp with h1|h3|h4
  ·rw[zgM h1] at h;cases h;rfl
  ·rw[zhO h3 (by omega)] at h;split at h
   ·cases h
    have e1:maxQ x.n x.n=x.n:=by unfold maxQ;split<;>rfl
    have e2:minQ x.m x.m=x.m:=by unfold minQ;split<;>rfl
    rw[e1,e2];exact(zyl hp h3).symm
   ·cases h
  ·obtain⟨m1,m2,m3,m4⟩:=zaw hp h4;rw[zgN h4 (by omega) rfl] at h;cases hl:zbv (zan n) x.kids x.kids [] with
   |none=>rw[hl] at h;cases h
   |some l=>
    rw[hl] at h;simp only[Option.map_some,Option.some.injEq] at h;subst h;obtain⟨r,e,hr,hm⟩:=zeK rfl hl;rw[List.nil_append] at e;subst e;have:l=x.kids:=ziN (by omega) (fun i hi=>by
     have hk:=zaH hp (i:=i) (by omega);rw[zaU h4] at hk;exact zkz k n hk (hm i (by omega)))
    rw[this];exact m4.symm
theorem zlO {f:Ty→Pat→Pat→List Pat}{c:Int}:∀ {us:List Ty}{xs front:List Pat},us.length=xs.length→(∀j,j<xs.length→f (nth us j) (nth xs j) (nth xs j)=[])→zaR f c us xs xs front=[]
 | [],[],_,_,_=>rfl
 |u::us,x::xs,front,hl,h=>by
  unfold zaR;have h0:=h 0 (by simp);rw[show f u x x=[] from h0,List.map_nil,List.nil_append];split
  ·rfl
  ·exact zlO (by simpa using hl) (fun j hj=>h (j+1) (by simpa using hj))
 | [],_::_,_,h,_=>by simp at h
 |_::_,[],_,h,_=>by simp at h
theorem zjv {w:List Data}:∀(k n:Nat){t:Ty}{x:Pat},zac w k t x=true→zas w n t x x=[]
 |0,n,t,x,h=>by simp[zac] at h
 |k+1,0,t,x,_=>rfl
 |k+1,n+1,t,x,hp=>by
  rcases zbh hp with h1|h3|h4
  ·exact zfp h1
  ·rw[zhv h3];have e1:lowQ x=x.n:=by unfold lowQ;rw[if_neg (by omega)]
   have e2:zcl x=x.m:=by unfold zcl;rw[if_neg (by omega)]
   have q1:=zsL (zcl x) (x.n-1);have q2:=zsJ (lowQ x) (x.m+1);unfold zd5 zbO;rw[if_neg (by omega),if_neg (by omega)];rfl
  ·obtain⟨m1,m2,m3,m4⟩:=zaw hp h4;rw[zcX h4 h4];unfold zb0;rw[if_pos rfl];exact zlO m3.symm (fun j hj=>by
    have hk:=zaH hp (i:=j) hj;rw[zaU h4] at hk;exact zjv k n hk)
structure Grid (w:List Data) (t:Ty) (S:Pat→Prop) (V:List Val):Prop where
 meet:∀n a b z,S a→S b→zan n a b=some z→S z
 minus:∀n a b x,S a→S b→x∈zas w n t a b→S x
 hit:∀n p,S p→zac w n t p=true→zaX w (zai w) n t p=false→∃v∈V,hitP p v=true
 fits:∃m,∀v∈V,zaI w m t v=true
theorem zo8 {w:List Data} (hs:Spa w){t:Ty} (ht:InS (w.length*4) t){k:Nat}{x:Pat} (hx:zac w k t x=true):∃V,V.length≤1∧Grid w t (fun p=>p=x) V:=by
 by_cases hex:∃m v,zaI w m t v=true∧hitP x v=true
 ·obtain⟨m,v,h1,h2⟩:=hex;refine⟨[v],by simp,⟨fun n a b z ha hb h=>by subst ha;subst hb;exact zkz k n hx h,fun n a b z ha hb h=>by subst ha;subst hb;rw[zjv k n hx] at h;simp at h,fun n p hp _ _=>⟨v,by simp,by rw[hp];exact h2⟩,⟨m,fun y hy=>by rw[List.mem_singleton.1 hy];exact h1⟩⟩⟩
 ·refine⟨[],by simp,⟨fun n a b z ha hb h=>by subst ha;subst hb;exact zkz k n hx h,fun n a b z ha hb h=>by subst ha;subst hb;rw[zjv k n hx] at h;simp at h,fun n p hp h1 h2=>?_,⟨0,fun y hy=>by simp at hy⟩⟩⟩;subst hp;exact absurd (zj1 hs n ht h1 h2) hex
theorem zqZ {w:List Data}{t:Ty} (ht:t.data = -1):Grid w t (fun _=>True) zeq:=by
 refine⟨fun _ _ _ _ _ _ _=>trivial,fun _ _ _ _ _ _ _=>trivial,fun n p _ hp _=>?_,1,fun v hv=>zjk 1 (by unfold zaM;rw[if_pos ht];exact hv)⟩;have hd:∀i:Nat,i<10→(⟨-1,(i:Int),[]⟩:Val)∈zeq:=fun i hi=>by unfold zeq;exact List.mem_map.2 ⟨i,List.mem_range.2 hi,rfl⟩
 rcases zbh hp with h1|h3|h4
 ·exact⟨_,hd 0 (by omega),ze4 h1⟩
 ·have hi:=zbC hp h3;refine⟨_,hd p.n.toNat (by omega), ?_⟩;rw[zhb h3];show zar ((p.n.toNat:Nat):Int) p.n p.m=true
  unfold zar;rw[xad,decide_eq_true_eq,decide_eq_true_eq];omega
 ·exact absurd ht (zaw hp h4).2.1
def CSat (Ss:Nat→Pat→Prop) (c:Int) (k:Nat) (p:Pat):Prop:=∃l,p=zaY c l∧l.length=k∧∀j,j<k→Ss j (nth l j)
theorem znp {f:Ty→Pat→Pat→List Pat}{c:Int}{Ss:Nat→Pat→Prop}:∀ {us:List Ty}{xs bs front:List Pat},us.length=xs.length→bs.length=xs.length→(∀j,j<front.length→Ss j (nth front j))→
  (∀j,j<xs.length→Ss (front.length+j) (nth xs j)∧(∀z∈f (nth us j) (nth xs j) (nth bs j),Ss (front.length+j) z)∧(∀z,zan 11 (nth xs j) (nth bs j)=some z→Ss (front.length+j) z))→
  ∀x∈zaR f c us xs bs front,CSat Ss c (front.length+xs.length) x
 | [],[],_,front,_,_,_,_,x,hx=>by simp[zaR] at hx
 |u::us,a0::s,b0::q,front,h1,h2,hfr,hab,x,hx=>by
  have h0:=hab 0 (by simp);have e0:nth (a0::s) 0=a0:=rfl;have e1:nth (b0::q) 0=b0:=rfl;have e2:nth (u::us) 0=u:=rfl;rw[e0,e1,e2,Nat.add_zero] at h0;unfold zaR at hx;rcases List.mem_append.1 hx with hx|hx
  ·obtain⟨z,hz,rfl⟩:=List.mem_map.1 hx;refine⟨front++[z]++s,rfl,by simp only[xaa,xab,xah];omega,fun j hj=>?_⟩;simp only[xab] at hj;by_cases hj1:j<front.length
   ·have e:nth (front++[z]++s) j=nth front j:=by
     simp only[nth,List.getD,List.append_assoc];rw[List.getElem?_append_left (by omega)]
    rw[e];exact hfr j hj1
   ·by_cases hj2:j=front.length
    ·subst hj2;have e:nth (front++[z]++s) front.length=z:=by
      simp only[nth,List.getD,List.append_assoc];rw[List.getElem?_append_right (by omega),Nat.sub_self];all_goals rfl
     rw[e];exact h0.2.1 z hz
    ·obtain⟨i,rfl⟩:∃i,j=front.length+1+i:=⟨j-front.length-1,by omega⟩;have e:nth (front++[z]++s) (front.length+1+i)=nth (a0::s) (i+1):=by
      simp only[nth,List.getD,List.append_assoc];rw[List.getElem?_append_right (by omega),show front.length+1+i-front.length=i+1 by omega];all_goals rfl
     rw[e];have:=(hab (i+1) (by simp;omega)).1;rwa [show front.length+(i+1)=front.length+1+i by omega] at this
  ·cases hm:zan 11 a0 b0 with
   |none=>rw[hm] at hx;simp at hx
   |some both=>
    rw[hm] at hx;have:=znp (f:=f) (c:=c) (Ss:=Ss) (us:=us) (xs:=s) (bs:=q) (front:=front++[both]) (by simpa using h1) (by simpa using h2) (fun j hj=>?_) (fun j hj=>?_) x hx
    ·rw[xaa,List.length_singleton,show front.length+1+s.length=front.length+(a0::s).length by simp;omega] at this;exact this
    ·by_cases hj1:j<front.length
     ·have e:nth (front++[both]) j=nth front j:=by
       simp only[nth,List.getD];rw[List.getElem?_append_left (by omega)]
      rw[e];exact hfr j hj1
     ·have hj2:j=front.length:=by simp at hj;omega
      subst hj2;have e:nth (front++[both]) front.length=both:=by
       simp only[nth,List.getD];rw[List.getElem?_append_right (by omega),Nat.sub_self];all_goals rfl
      rw[e];exact h0.2.2 both hm
    ·have:=hab (j+1) (by simpa using hj);rw[xaa,List.length_singleton,show front.length+1+j=front.length+(j+1) by omega];exact this
 | [],_::_,_,_,h,_,_,_,_,_=>by simp at h
 |_::_,[],_,_,h,_,_,_,_,_=>by simp at h
 |_::_,_::_,[],_,_,h,_,_,_,_=>by simp at h
theorem zqT:∀(Vs:List (List Val)) (vs:List Val) (acc:List (List Val)) (q:List Val),Vs.length=vs.length→q∈acc→(∀j,j<Vs.length→nth vs j∈nth Vs j)→q++vs∈Vs.foldl (fun acc l=>acc.flatMap fun o=>l.map fun y=>o++[y]) acc
 | [],[],acc,q,_,h,_=>by simpa using h
 |l::r,v::s,acc,q,hl,h,hm=>by
  rw[List.foldl_cons,show q++v::s=q++[v]++s by simp];refine zqT r s _ (q++[v]) (by simpa using hl) ?_ (fun j hj=>hm (j+1) (by simpa using hj));exact List.mem_flatMap.2 ⟨q,h,List.mem_map.2 ⟨v,hm 0 (by simp),rfl⟩⟩
 | [],_::_,_,_,h,_,_=>by simp at h
 |_::_,[],_,_,h,_,_=>by simp at h
theorem zqS:∀(Vs:List (List Val)) (acc:List (List Val)) (l:List Val),l∈Vs.foldl (fun acc l=>acc.flatMap fun o=>l.map fun y=>o++[y]) acc→∃q∈acc,∃vs,l=q++vs∧vs.length=Vs.length∧∀j,j<Vs.length→nth vs j∈nth Vs j
 | [],acc,l,h=>⟨l,h,[],by simp,rfl,fun j hj=>by simp at hj⟩
 |x::r,acc,l,h=>by
  rw[List.foldl_cons] at h;obtain⟨q,hq,vs,e,h1,h2⟩:=zqS r _ l h;obtain⟨o,ho,hq⟩:=List.mem_flatMap.1 hq;obtain⟨y,hy,rfl⟩:=List.mem_map.1 hq;refine⟨o,ho,y::vs,by rw[e];simp,by simp[h1],fun j hj=>?_⟩;cases j with
  |zero=>exact hy
  |succ j=>exact h2 j (by simpa using hj)
def zhl (c:Int) (k:Nat) (Vs:Nat→List Val):List Val:=(zb2 ((List.range k).map Vs)).map (Val.mk c 0)
theorem zkE {α:Type} [Inhabited α]{k j:Nat} (f:Nat→α) (h:j<k):nth ((List.range k).map f) j=f j:=by
 rw[zaP (by simpa using h)];simp
theorem zv9 (c:Int) (k:Nat) (Vs:Nat→List Val):(zhl c k Vs).length=zbf ((List.range k).map fun j=>(Vs j).length):=by
 unfold zhl;rw[xac,zfu,List.map_map];rfl
theorem zl2 {P:Nat→Nat→Prop} (hm:∀j m n,m≤n→P j m→P j n):∀(k:Nat),(∀j,j<k→∃m,P j m)→∃m,∀j,j<k→P j m
 |0,_=>⟨0,fun j hj=>by omega⟩
 |k+1,h=>by
  obtain⟨m1,h1⟩:=zl2 hm k (fun j hj=>h j (by omega));obtain⟨m2,h2⟩:=h k (by omega);refine⟨max m1 m2,fun j hj=>?_⟩;by_cases hk:j=k
  ·subst hk;exact hm _ _ _ (Nat.le_max_right _ _) h2
  ·exact hm _ _ _ (Nat.le_max_left _ _) (h1 j (by omega))
theorem zkc {Q:Nat→Val→Prop}:∀(k:Nat),(∀j,j<k→∃v,Q j v)→∃l:List Val,l.length=k∧∀j,j<k→Q j (nth l j)
 |0,_=>⟨[],rfl,fun j hj=>by omega⟩
 |k+1,h=>by
  obtain⟨l,h1,h2⟩:=zkc k (fun j hj=>h j (by omega));obtain⟨v,hv⟩:=h k (by omega);refine⟨l++[v],by simp[h1],fun j hj=>?_⟩;by_cases hk:j=k
  ·subst hk;have e:nth (l++[v]) j=v:=by
    simp only[nth,List.getD];rw[List.getElem?_append_right (by omega),h1,Nat.sub_self];all_goals rfl
   rw[e];exact hv
  ·have e:nth (l++[v]) j=nth l j:=by
    simp only[nth,List.getD];rw[List.getElem?_append_left (by omega)]
   rw[e];exact h2 j (by omega)
theorem zoW {c:Int}{Ss:Nat→Pat→Prop}{k n:Nat}{a b z:Pat} (hm:∀j,j<k→∀n a b z,Ss j a→Ss j b→zan n a b=some z→Ss j z) (ha:CSat Ss c k a) (hb:CSat Ss c k b) (h:zan n a b=some z):CSat Ss c k z:=by
 obtain⟨la,rfl,h1,h2⟩:=ha;obtain⟨lb,rfl,h3,h4⟩:=hb;cases n with
 |zero=>simp[zan] at h
 |succ n=>
  rw[zgN (a:=zaY c la) (b:=zaY c lb) rfl (by show ¬(4:Int)=1;decide) rfl] at h;cases hl:zbv (zan n) (zaY c la).kids (zaY c lb).kids [] with
  |none=>rw[hl] at h;cases h
  |some l=>
   rw[hl] at h;simp only[Option.map_some,Option.some.injEq] at h;subst h;have hll:(zaY c la).kids.length=(zaY c lb).kids.length:=by show la.length=lb.length;omega
   obtain⟨r,e,hr,hi⟩:=zeK hll hl;rw[List.nil_append] at e;subst e;have hk:(zaY c la).kids.length=k:=h1;refine⟨l,rfl,by omega,fun j hj=>hm j hj n _ _ _ (h2 j hj) (h4 j hj) (hi j (by omega))⟩
theorem zmS {w:List Data}{t:Ty}{c:Int}{Ss:Nat→Pat→Prop}{n:Nat}{a b x:Pat} (hm:∀j,j<(zaa w t c).length→∀n a b z,Ss j a→Ss j b→zan n a b=some z→Ss j z)
  (hn:∀j,j<(zaa w t c).length→∀n a b x,Ss j a→Ss j b→x∈zas w n (nth (zaa w t c) j) a b→Ss j x) (ha:CSat Ss c (zaa w t c).length a) (hb:CSat Ss c (zaa w t c).length b) (h:x∈zb0 (zas w n) w t a b):
  CSat Ss c (zaa w t c).length x:=by
 obtain⟨la,rfl,h1,h2⟩:=ha;obtain⟨lb,rfl,h3,h4⟩:=hb;unfold zb0 at h;rw[if_pos (show(zaY c la).ctor=(zaY c lb).ctor from rfl)] at h;have:=znp (f:=zas w n) (c:=c) (Ss:=Ss) (us:=zaa w t c) (xs:=la) (bs:=lb) (front:=[]) (by omega) (by omega) (fun j hj=>by simp at hj) (fun j hj=>by
  rw[xah,Nat.zero_add];exact⟨h2 j (by omega),fun z hz=>hn j (by omega) n _ _ z (h2 j (by omega)) (h4 j (by omega)) hz,fun z hz=>hm j (by omega) 11 _ _ z (h2 j (by omega)) (h4 j (by omega)) hz⟩) x h
 rw[xah,Nat.zero_add,h1] at this;exact this
theorem zib {w:List Data}{t:Ty}{c:Int} (hc:c∈zah w t){Ss:Nat→Pat→Prop}{Vs:Nat→List Val} (hg:∀j,j<(zaa w t c).length→Grid w (nth (zaa w t c) j) (Ss j) (Vs j)):
  Grid w t (CSat Ss c (zaa w t c).length) (zhl c (zaa w t c).length Vs):=by
 have hdt:t.data≠ -1:=fun e=>by unfold zah at hc;rw[if_pos e] at hc;simp at hc
 refine⟨fun n a b z ha hb h=>zoW (fun j hj=>(hg j hj).meet) ha hb h,fun n a b x ha hb h=>?_,fun n p hp h1 h2=>?_, ?_⟩
 ·cases n with
  |zero=>simp[zas] at h
  |succ n=>
   have ha4:a.op=4:=by obtain⟨l,rfl,_⟩:=ha;rfl
   have hb4:b.op=4:=by obtain⟨l,rfl,_⟩:=hb;rfl
   rw[zcX hb4 ha4] at h;exact zmS (fun j hj=>(hg j hj).meet) (fun j hj=>(hg j hj).minus) ha hb h
 ·obtain⟨l,rfl,h3,h4⟩:=hp;cases n with
  |zero=>simp[zac] at h1
  |succ n=>
   rw[ziK rfl] at h2;have ha:all2 (fun u q=> !zaX w (zai w) n u q) (zaa w t c) l=true:=(by simpa using h2:all2 (fun u q=> !zaX w (zai w) n u q) (zaa w t (zaY c l).ctor) (zaY c l).kids=true);obtain⟨vs,h5,h6⟩:=zkc (Q:=fun j v=>v∈Vs j∧hitP (nth l j) v=true) (zaa w t c).length (fun j hj=>by
    have hk:=zaH h1 (i:=j) (by show j<l.length;omega);rw[zaU rfl] at hk;have h7:=zej h3.symm ha j hj;exact(hg j hj).hit n (nth l j) (h4 j hj) hk (by simpa using h7))
   refine⟨⟨c,0,vs⟩, ?_, ?_⟩
   ·unfold zhl;refine List.mem_map.2 ⟨vs, ?_,rfl⟩;have:=zqT ((List.range (zaa w t c).length).map Vs) vs [[]] [] (by simp[h5]) (by simp) (fun j hj=>by
     rw[xac,List.length_range] at hj;rw[zkE Vs hj];exact(h6 j hj).1)
    simpa [zb2] using this
   ·rw[zcJ rfl,xad];refine⟨decide_eq_true rfl, ?_⟩;show hitL l vs=true
    rw[zjm (by omega)];exact fun j hj=>(h6 j (by omega)).2
 ·obtain⟨m,hm⟩:=zl2 (P:=fun j m=>∀v∈Vs j,zaI w m (nth (zaa w t c) j) v=true) (fun j m n hmn h v hv=>zhE hmn (h v hv)) (zaa w t c).length (fun j hj=>(hg j hj).fits);refine⟨m+1,fun v hv=>?_⟩;unfold zhl at hv;obtain⟨l,hl,rfl⟩:=List.mem_map.1 hv;obtain⟨q,hq,vs,e,h1,h2⟩:=zqS _ _ l hl;rw[List.mem_singleton] at hq;rw[hq,List.nil_append] at e;subst e;unfold zaI;rw[if_neg hdt,if_pos ⟨rfl,zk7 hc⟩];rw[xac,List.length_range] at h1;refine zci (by show(zaa w t c).length=l.length;omega) (fun j hj=>?_);have hj:j<(zaa w t c).length:=hj;have:=h2 j (by simpa using hj);rw[zkE Vs hj] at this;exact hm j hj _ this
section
variable {w:List Data} (hs:Spa w){t:Ty} (ht:InS (w.length*4) t)
include hs ht
theorem zo9 (hdt:t.data≠ -1){Ss:Int→Nat→Pat→Prop}{Vs:Int→Nat→List Val} (hg:∀c∈zah w t,∀j,j<(zaa w t c).length→Grid w (nth (zaa w t c) j) (Ss c j) (Vs c j)) (hany:∀c∈zah w t,∀j,Ss c j anyQ):
  Grid w t (fun p=>p.op=1∨∃c∈zah w t,CSat (Ss c) c (zaa w t c).length p) ((zah w t).flatMap fun c=>zhl c (zaa w t c).length (Vs c)):=by
 have hw:∀c∈zah w t,CSat (Ss c) c (zaa w t c).length (zbI w t c):=fun c hc=>by
  refine⟨_,rfl,by simp,fun j hj=>?_⟩;have e:nth ((zaa w t c).map fun _=>anyQ) j=anyQ:=by rw[zaP (by simpa using hj)];simp
  rw[e];exact hany c hc j
 have h4:∀ {c:Int}{k:Nat}{S:Nat→Pat→Prop}{p:Pat},CSat S c k p→p.op=4∧p.ctor=c:=fun h=>by obtain⟨l,rfl,_⟩:=h;exact⟨rfl,rfl⟩
 refine⟨fun n a b z ha hb h=>?_,fun n a b x ha hb h=>?_,fun n p hp h1 h2=>?_, ?_⟩
 ·cases n with
  |zero=>simp[zan] at h
  |succ n=>
   rcases ha with ha|⟨c,hc,ha⟩
   ·rw[zgM ha] at h;cases h;exact hb
   ·rcases hb with hb|⟨c',hc',hb⟩
    ·rw[zhN (by have:=(h4 ha).1;omega) hb] at h;cases h;exact .inr ⟨c,hc,ha⟩
    ·by_cases e:c=c'
     ·subst e;exact .inr ⟨c,hc,zoW (fun j hj=>(hg c hc j hj).meet) ha hb h⟩
     ·rw[zgc (h4 ha).1 (by have:=(h4 hb).1;omega) (by rw[(h4 ha).2,(h4 hb).2];exact e)] at h;cases h
 ·cases n with
  |zero=>simp[zas] at h
  |succ n=>
   rcases hb with hb|⟨c',hc',hb⟩
   ·rw[zfp hb] at h;simp at h
   ·have key:∀c∈zah w t,∀a,CSat (Ss c) c (zaa w t c).length a→x∈zb0 (zas w n) w t a b→x.op=1∨∃c∈zah w t,CSat (Ss c) c (zaa w t c).length x:=fun c hc a ha h=>by
     by_cases e:c=c'
     ·subst e;exact .inr ⟨c,hc,zmS (fun j hj=>(hg c hc j hj).meet) (fun j hj=>(hg c hc j hj).minus) ha hb h⟩
     ·unfold zb0 at h;rw[if_neg (by rw[(h4 ha).2,(h4 hb).2];exact e),List.mem_singleton] at h;rw[h];exact .inr ⟨c,hc,ha⟩
    rcases ha with ha|⟨c,hc,ha⟩
    ·rw[zge (h4 hb).1 ha] at h;obtain⟨c,hc,h⟩:=List.mem_flatMap.1 h;exact key c hc _ (hw c hc) h
    ·rw[zcX (h4 hb).1 (h4 ha).1] at h;exact key c hc a ha h
 ·rcases hp with hp|⟨c,hc,hp⟩
  ·cases n with
   |zero=>simp[zac] at h1
   |succ n=>
    rw[zfi hp] at h2;have h0:=of_decide_eq_false h2;obtain⟨m,v,hv⟩:=zsx hs.dp ht (by omega);cases m with
    |zero=>simp[zaI] at hv
    |succ m=>
     obtain⟨f1,f2,f3⟩:=zdg hv hdt;have hh:hitP (zbI w t v.ctor) v=true:=by
      rw[zcJ rfl];show(decide (v.ctor=v.ctor)&&hitL ((zaa w t v.ctor).map fun _=>anyQ) v.kids)=true
      rw[zl5,decide_eq_true rfl];rfl
     have hwp:zac w 2 t (zbI w t v.ctor)=true:=zcw f1;obtain⟨v',h5,_⟩:=(zib f1 (fun j hj=>hg v.ctor f1 j hj)).hit 2 _ (hw _ f1) hwp (zkp hs 2 (m+1) ht hwp hv hh);exact⟨v',List.mem_flatMap.2 ⟨_,f1,h5⟩,ze4 hp⟩
  ·obtain⟨v',h5,h6⟩:=(zib hc (fun j hj=>hg c hc j hj)).hit n p hp h1 h2;exact⟨v',List.mem_flatMap.2 ⟨c,hc,h5⟩,h6⟩
 ·obtain⟨m,hm⟩:=zl2 (P:=fun i m=>∀v∈zhl (nth (zah w t) i) (zaa w t (nth (zah w t) i)).length (Vs (nth (zah w t) i)),zaI w m t v=true) (fun j m n hmn h v hv=>zhE hmn (h v hv)) (zah w t).length
   (fun i hi=>(zib (zaf hi) (fun j hj=>hg _ (zaf hi) j hj)).fits)
  refine⟨m,fun v hv=>?_⟩;obtain⟨c,hc,hv⟩:=List.mem_flatMap.1 hv;obtain⟨i,hi,rfl⟩:=List.getElem_of_mem hc;rw[←zaP hi] at hv;exact hm i hi v hv
end
theorem zuB:∀(V:List Val) (l:List Pat),(∀x∈l,∃v∈V,hitP x v=true)→(∀v∈V,l.countP (fun x=>hitP x v)≤1)→l.length≤V.length
 | [],l,h,_=>by
  cases l with
  |nil=>simp
  |cons x r=>obtain⟨v,hv,_⟩:=h x (by simp);simp at hv
 |v::V,l,h,hc=>by
  have h1:=hc v (by simp);have h2:=zuB V (l.filter fun x=> !hitP x v) (fun x hx=>by
   obtain⟨h3,h4⟩:=List.mem_filter.1 hx;obtain⟨u,hu,h5⟩:=h x h3;rcases List.mem_cons.1 hu with rfl|hu
   ·rw[h5] at h4;simp at h4
   ·exact⟨u,hu,h5⟩) (fun u hu=>Nat.le_trans (List.Sublist.countP_le List.filter_sublist) (hc u (by simp[hu])))
  have h3:l.length=l.countP (fun x=>hitP x v)+(l.filter fun x=> !hitP x v).length:=by
   rw[←List.countP_eq_length_filter];have:=List.length_eq_countP_add_countP (fun x=>hitP x v) (l:=l);rw[this];congr 1
   refine List.countP_congr (fun x _=>?_);simp
  simp only[xab];omega
def sepQ (w:List Data) (t:Ty):List Pat→List Pat→List Pat→Option (List Pat)
 |_,[],out=>some out
 |front,p::r,out=>match zaT w t [p] front with
  |none=>none
  |some m=>sepQ w t (front++[p]) r (out++m)
theorem zsZ {w:List Data}{t:Ty}{S:Pat→Prop} (hmin:∀a b x,S a→S b→x∈zas w 10 t a b→S x):∀(away l r:List Pat),(∀b∈away,zac w 10 t b=true∧S b)→(∀a∈l,zac w 11 t a=true∧S a∧zbk w t a=true)→subL w t l away=some r→∀x∈r,zac w 11 t x=true∧S x∧zbk w t x=true
 | [],l,r,_,hl,h=>by rw[subL] at h;cases h;exact hl
 |b::away,l,r,hb,hl,h=>by
  rw[subL] at h;split at h
  ·refine zsZ hmin away _ r (fun x hx=>hb x (by simp[hx])) (fun x hx=>?_) h;have h1:=zeL (fun a ha=>(hl a ha).1) (hb b (by simp)).1 x hx;unfold zbQ at hx;obtain⟨h2,h3⟩:=List.mem_filter.1 hx;obtain⟨a,ha,h4⟩:=List.mem_flatMap.1 h2;exact⟨h1,hmin a b x (hl a ha).2.1 (hb b (by simp)).2 h4,h3⟩
  ·cases h
theorem zsb {w:List Data}{t:Ty}{S:Pat→Prop} (hmin:∀a b x,S a→S b→x∈zas w 10 t a b→S x){away l r:List Pat} (hb:∀b∈away,zac w 10 t b=true∧S b) (hl:∀a∈l,zac w 11 t a=true∧S a) (h:zaT w t l away=some r):∀x∈r,zac w 11 t x=true∧S x∧zbk w t x=true:=by
 unfold zaT at h;exact zsZ hmin away _ r hb (fun a ha=>⟨(hl a (List.mem_filter.1 ha).1).1,(hl a (List.mem_filter.1 ha).1).2,(List.mem_filter.1 ha).2⟩) h
theorem zow {w:List Data}{t:Ty}{S:Pat→Prop} (hmin:∀a b x,S a→S b→x∈zas w 10 t a b→S x):∀(r front out:List Pat){res:List Pat},(∀b∈front,zac w 10 t b=true∧S b)→(∀b∈r,zac w 10 t b=true∧S b)→(∀x∈out,zac w 11 t x=true∧S x∧zbk w t x=true)→
  sepQ w t front r out=some res→∀x∈res,zac w 11 t x=true∧S x∧zbk w t x=true
 | [],front,out,res,_,_,ho,h=>by rw[sepQ] at h;cases h;exact ho
 |p::r,front,out,res,hf,hr,ho,h=>by
  rw[sepQ] at h;cases hw:zaT w t [p] front with
  |none=>rw[hw] at h;cases h
  |some m=>
   rw[hw] at h;have hp:=hr p (by simp);have h1:=zsb hmin hf (fun a ha=>by rw[List.mem_singleton.1 ha];exact⟨zdd (by omega) hp.1,hp.2⟩) hw;refine zow hmin r (front++[p]) (out++m) (fun b hb=>?_) (fun b hb=>hr b (by simp[hb])) (fun x hx=>?_) h
   ·rcases List.mem_append.1 hb with hb|hb
    ·exact hf b hb
    ·rw[List.mem_singleton.1 hb];exact hp
   ·rcases List.mem_append.1 hx with hx|hx
    ·exact ho x hx
    ·exact h1 x hx
theorem zw6 (n:Nat):∀f p r:Bool,(n+if f=true then 0 else one p)+(if (f||p)=true then 0 else one r)=n+if f=true then 0 else one (p||r):=by
 intro f p r;cases f<;>cases p<;>cases r<;>simp[one]
theorem zyj:∀b:Bool,one b≤1:=by decide
section
variable {w:List Data} (hs:Spa w){t:Ty} (ht:InS (w.length*4) t)
include hs ht
theorem zov {v:Val}{k:Nat} (hv:zaI w k t v=true):∀(r front out:List Pat){res:List Pat},(∀b∈front,zac w 10 t b=true)→(∀b∈r,zac w 10 t b=true)→sepQ w t front r out=some res→
  res.countP (fun x=>hitP x v)=out.countP (fun x=>hitP x v)+if front.any (fun x=>hitP x v)=true then 0 else one (r.any fun x=>hitP x v)
 | [],front,out,res,_,_,h=>by
  rw[sepQ] at h;cases h;simp[one]
 |p::r,front,out,res,hf,hr,h=>by
  rw[sepQ] at h;cases hw:zaT w t [p] front with
  |none=>rw[hw] at h;cases h
  |some m=>
   rw[hw] at h;have hp:=hr p (by simp);have h1:=zsa hs ht hv hf (fun a ha=>by rw[List.mem_singleton.1 ha];exact zdd (by omega) hp) hw;have h2:=zov hv r (front++[p]) (out++m) (fun b hb=>by
    rcases List.mem_append.1 hb with hb|hb
    ·exact hf b hb
    ·rw[List.mem_singleton.1 hb];exact hp) (fun b hb=>hr b (by simp[hb])) h
   rw[h2,List.countP_append,h1,List.any_append,List.any_cons,List.countP_singleton];simp only[List.any_cons,List.any_nil,Bool.or_false];exact zw6 _ _ _ _
theorem zsU {S:Pat→Prop}{V:List Val} (hg:Grid w t S V){l res:List Pat} (hl:∀b∈l,zac w 10 t b=true∧S b) (h:sepQ w t [] l []=some res):res.length≤V.length:=by
 obtain⟨m,hm⟩:=hg.fits;have h1:=zow (hg.minus 10) l [] [] (by simp) hl (by simp) h;refine zuB V res (fun x hx=>?_) (fun v hv=>?_)
 ·obtain⟨h2,h3,h4⟩:=h1 x hx;exact hg.hit 11 x h3 h2 (by unfold zbk at h4;simpa using h4)
 ·have:=zov hs ht (hm v hv) l [] [] (by simp) (fun b hb=>(hl b hb).1) h;rw[this];simp only[List.countP_nil,List.any_nil,Nat.zero_add];exact zyj _
end
abbrev zh9 (o:List Pat):List D:=[.sl (Pat.cs o)]
abbrev zjg (ls:List (List Pat)):D:= .sl (ls.map zh9)
theorem ztO {N:Nat} (acc:List (List Pat)) (l:List Pat):(za8 (acc.take N) l).take N=(za8 acc l).take N:=by
 by_cases h:acc.length≤N
 ·rw[List.take_of_length_le h]
 have e0:∀a:List (List Pat),za8 a []=[]:=fun a=>by unfold za8;simp
 cases l with
 |nil=>rw[e0,e0]
 |cons c r=>
  have e:za8 acc (c::r)=za8 (acc.take N) (c::r)++za8 (acc.drop N) (c::r):=by
   unfold za8;rw[←List.flatMap_append,List.take_append_drop]
  rw[e,zeD];rw[zgS,List.length_take,Nat.min_eq_left (by omega),xab];exact Nat.le_mul_of_pos_right _ (by omega)
theorem ztP {N:Nat} (acc:List (List Pat)) (l:List Pat):(za8 acc (l.take N)).take N=(za8 acc l).take N:=by
 by_cases h:l.length≤N
 ·rw[List.take_of_length_le h]
 cases acc with
 |nil=>rfl
 |cons q r=>
  have e:∀l:List Pat,za8 (q::r) l=l.map (fun c=>q++[c])++za8 r l:=fun l=>by unfold za8;rw[List.flatMap_cons]
  rw[e,e,zeD (by rw[xac,List.length_take];omega),zeD (by rw[xac];omega),List.map_take,List.take_take,Nat.min_self]
def tupQ (m:Nat) (ls:List (List Pat)):List (List Pat):=ls.foldl (fun acc l=>(za8 acc l).take (m+1)) [[]]
theorem zk3 (m:Nat) (ls:List (List Pat)) (l:List Pat):tupQ m (ls++[l])=(za8 (tupQ m ls) l).take (m+1):=by
 unfold tupQ;rw[List.foldl_append];rfl
theorem zrP (m:Nat):∀(ls:List (List Pat)) (acc:List (List Pat)),(ls.map (List.take (m+1))).foldl (fun acc l=>(za8 acc l).take (m+1)) (acc.take (m+1))=(ls.foldl za8 acc).take (m+1)
 | [],acc=>rfl
 |l::r,acc=>by
  rw[xae,List.foldl_cons,List.foldl_cons,ztP,ztO];exact zrP m r (za8 acc l)
theorem zxj (m:Nat) (ls:List (List Pat)):tupQ m (ls.map (List.take (m+1)))=(zee ls).take (m+1):=by
 have h:=zrP m ls [[]];have e:([[]]:List (List Pat)).take (m+1)=[[]]:=by simp
 rw[e] at h;exact h
theorem zrN (m:Nat) (ls:List (List Pat)):(tupQ m ls).length≤m+1:=by
 have key:∀(ls acc:List (List Pat)),acc.length≤m+1→(ls.foldl (fun acc l=>(za8 acc l).take (m+1)) acc).length≤m+1:=by
  intro ls;induction ls with
  |nil=>intro acc h;exact h
  |cons l r ih=>intro acc h;exact ih _ (by rw[List.length_take];omega)
 exact key ls [[]] (by simp)
theorem zrO (m:Nat){ls:List (List Pat)}{o:List Pat} (h:o∈tupQ m ls):o.length=ls.length:=by
 have key:∀(ls acc:List (List Pat)) (n:Nat),(∀o∈acc,o.length=n)→∀o∈ls.foldl (fun acc l=>(za8 acc l).take (m+1)) acc,o.length=n+ls.length:=by
  intro ls;induction ls with
  |nil=>intro acc n h o ho;exact h o ho
  |cons l r ih=>
   intro acc n h o ho;have:=ih _ (n+1) (fun o' ho'=>by
    have ho':=List.mem_of_mem_take ho';unfold za8 at ho';simp only[List.mem_flatMap,List.mem_map] at ho';obtain⟨p,hp,q,_,rfl⟩:=ho';simp[h p hp]) o ho
   simp only[xab];omega
 have:=key ls [[]] 0 (by simp) o h;simpa using this
def zlp (l:List Pat) (o:List Pat):List (List Pat):=l.map fun y=>o++[y]
theorem zoK (acc:List (List Pat)) (l:List Pat):za8 acc l=acc.flatMap (zlp l):=rfl
theorem zrL {X:List (List Pat)}{l:List Pat}{o:List Pat}{j m:Nat} (hc:¬j<l.length∨¬((X++(l.take j).map fun y=>o++[y]).take (m+1)).length≤m):
  (X++(l.take j).map fun y=>o++[y]).take (m+1)=(X++zlp l o).take (m+1):=zxh hc
theorem zv7 {α:Type}{N:Nat} (a b:List α):(a.take N++b.take N).take N=(a++b).take N:=by
 by_cases h:a.length≤N
 ·rw[List.take_of_length_le h,List.take_append,List.take_append,List.take_take,Nat.min_eq_left (by omega)]
 ·rw[zeD (by rw[List.length_take];omega),zeD (by omega),List.take_take,Nat.min_self]
def za0 (p:Pat):List Pat:=(zaq p).take 401
theorem zv2 {p:Pat} (h:p.op=5) (hk:p.kids.length=2):za0 p=(za0 (nth p.kids 0)++za0 (nth p.kids 1)).take 401:=by
 unfold za0;rw[zdu h hk,zv7]
theorem zv3 {p:Pat} (h:p.op≠5):za0 p=(tupQ 400 (p.kids.map za0)).map fun l=> .mk p.op p.ctor p.n p.m p.var l:=by
 unfold za0;rw[zc5 h,←List.map_take];congr 1
 have:=zxj 400 (p.kids.map zaq);rw[List.map_map] at this;exact this.symm
theorem zjA (p:Pat):(za0 p).length≤401:=by unfold za0;rw[List.length_take];omega
theorem zc9:∀(n:Nat){p:Pat},p.size≤n→p.ok→FnD Tryz.prog 58 [.agg [.d (.i p.op),.d (.i p.ctor),.d (.i p.n),.d (.i p.m),.d (.i p.var),.d (zad p.kids)]] [] (.agg [.d (.i (zau p).op),.d (.i (zau p).ctor),.d (.i (zau p).n),.d (.i (zau p).m),.d (.i (zau p).var),.d (zad (zau p).kids)]) []
 |0,p,h,_=>by rw[Pat.size_eq] at h;omega
 |n+1,p,h,hok=>by
  rw[Pat.size_eq] at h;rw[Pat.ok_iff] at hok;have hok1:=hok.1;by_cases h2:p.op=2
  ·rw[zsf h2];refine bd Tryz.f58 42 [] [] fun w0 F0 own kept hk=>?_;refine bx 3001 ?_;refine ab 3002 tz28 ?_;refine tv ?_;refine sq ?_ ?_<;>intro h1 h1p h1s;try simp only[Q] at h1p
   refine bu [0] [_] st28 ?_;refine so ty28 ?_;refine tv ?_;refine rn0 (.cons (.cellA ty28 rfl rfl rfl) .nil) (.agg (.cons (.eqd ?_) (.cons (.eqd ?_) (.cons (.eqd ?_) (.cons (.eqd ?_) (.cons (.eqd ?_) (.cons (.nild ?_) .nil)))))));rotate_left 6;try simp only[Q] at h1p
   exfalso;omega;all_goals (rfl)
  by_cases h6:p.op=6∧0<p.kids.length
  ·rw[zsg h6.1 h6.2];refine bd Tryz.f58 42 [] [] fun w0 F0 own kept hk=>?_;refine bx 3001 ?_;refine ab 3002 tz28 ?_;refine tv ?_;refine sq ?_ ?_<;>intro h1 h1p h1s;try simp only[Q,Pat.cs_len] at h1p
   exfalso;omega;try simp only[Q,Pat.cs_len] at h1p
   refine sq ?_ ?_<;>intro h2 h2p h2s;try simp only[Q,Pat.cs_len] at h2p
   refine sq ?_ ?_<;>intro h3 h3p h3s;try simp only[Q,Pat.cs_len] at h3p
   refine xaT (i:=0) sl26 .none rfl rfl rfl rfl (zaD h6.2) rfl ?_;refine ev ?_;refine wc zp6 (zc9 n (p:=nth p.kids 0) (by have:=Pats.size_mem (zaf h6.2);omega) (Pats.ok_mem hok.2 _ (zaf h6.2))) rfl rfl ?_;refine so ty28 ?_;refine tv ?_;refine rn0 (.cons (.cellA ty28 rfl rfl rfl) .nil) (.agg (.cons (.eqd ?_) (.cons (.eqd ?_) (.cons (.eqd ?_) (.cons (.eqd ?_) (.cons (.eqd ?_) (.cons (.eqd ?_) .nil)))))));rotate_left 6;try simp only[Q,Pat.cs_len] at h3p
   exfalso;omega;try simp only[Q,Pat.cs_len] at h2p
   exfalso;omega;all_goals (rfl)
  ·rw[zsh h2 h6];refine bd Tryz.f58 42 [] [] fun w0 F0 own kept hk=>?_;refine bx 3001 ?_;refine ab 3002 tz28 ?_;refine tv ?_;refine sq ?_ ?_<;>intro h1 h1p h1s;try simp only[Q,Pat.cs_len] at h1p
   exfalso;omega;try simp only[Q,Pat.cs_len] at h1p
   refine sq ?_ ?_<;>intro h2 h2p h2s;try simp only[Q,Pat.cs_len] at h2p
   refine sq ?_ ?_<;>intro h3 h3p h3s;try simp only[Q,Pat.cs_len] at h3p
   exfalso;apply h6;exact⟨by omega,by omega⟩;try simp only[Q,Pat.cs_len] at h3p
   refine ab 3003 tz28 ?_;refine so ty28 ?_;refine tv ?_;refine so ty26 ?_;refine tv ?_;refine xam 3003 5 7 6 rfl rfl rfl rfl ?_;refine xaj (ι:=List (Pat)×List (Pat)) hk (fun x=>[(4,.d (.i (x.1.length:Int)))]) [23,24,25,26,27,28,29,30,31,32,33,34,35,36,37,38,39,40] (fun x=>[(3003,some (.box [.d (.i p.op),.d (.i p.ctor),.d (.i p.n),.d (.i p.m),.d (.i p.var),.gl 7 ((x.1.map zau).map Pat.cc)])),(7,some (.tok ((x.1.map zau).map Pat.cc).length 6))]) (fun x=>x.1++x.2=p.kids) (fun x=>x.2.length) ([],p.kids) (by simp) ⟨⟨_,rfl,xap ?_⟩,trivial⟩ ⟨?_,⟨zab ?_,trivial⟩⟩ (fun x=>rfl) (fun x hg1=>?_);focus ((simp;done))
   focus (first|rfl|(simp[getH];done))
   focus ((simp;done))
   obtain⟨pre,rest⟩:=x;dsimp only at hg1 ⊢;refine evc [] [] ?_;refine sq ?_ ?_<;>intro h4 h4p h4s;try simp only[Q,Pat.cs_len] at h4p
   rcases rest with _|⟨y,rest⟩
   ·exfalso;simp_all
   refine xaT sl26 .none rfl rfl rfl rfl (Pat.cs_at' hg1) rfl ?_;refine evd [] [] ?_;refine wc zp6 (zc9 n (p:=y) (by have:=Pats.size_mem (l:=p.kids) (v:=y) (by rw[←hg1];simp);omega) (Pats.ok_mem hok.2 y (by rw[←hg1];simp))) rfl rfl ?_;refine si [0] [_] sl26 tz28 ?_;refine ap sl26 zz28 rfl rfl rfl (by intro x hx;first|(simp at hx;subst hx;rfl)|exact zhw _ x hx) (by have:=congrArg List.length hg1;simp at this;simp;omega) ?_;refine evd [] [] ?_;refine so ty26 ?_;refine dr ?_;refine ar ?_;refine Exists.intro ((pre++[y],rest)) ⟨(by have hz:=hg1;rw[←hz];simp),(by simp),sx ⟨⟨_,rfl,xap ?_⟩,trivial⟩ ⟨?_,⟨zab ?_,trivial⟩⟩⟩;focus ((simp;done))
   focus (first|rfl|(simp[getH];done))
   focus ((simp;done))
   try simp only[Q,Pat.cs_len] at h4p
   have hrest:rest=[]:=by
    rcases rest with _|⟨a,b⟩
    ·rfl
    ·exfalso;have hz:=congrArg List.length (hg1);simp only[xaa,xab,xac] at hz;omega
   subst hrest;refine so ty28 ?_;refine tv ?_;refine rn0 (.cons (.cellA ty28 rfl rfl rfl) .nil) (.agg (.cons (.eqd ?_) (.cons (.eqd ?_) (.cons (.eqd ?_) (.cons (.eqd ?_) (.cons (.eqd ?_) (.cons (.gld ?_) .nil)))))));rotate_left 6;try simp only[Q,Pat.cs_len] at h2p
   refine ab 3003 tz28 ?_;refine so ty28 ?_;refine tv ?_;refine so ty26 ?_;refine tv ?_;refine xam 3003 5 7 6 rfl rfl rfl rfl ?_;refine xaj (ι:=List (Pat)×List (Pat)) hk (fun x=>[(4,.d (.i (x.1.length:Int)))]) [23,24,25,26,27,28,29,30,31,32,33,34,35,36,37,38,39,40] (fun x=>[(3003,some (.box [.d (.i p.op),.d (.i p.ctor),.d (.i p.n),.d (.i p.m),.d (.i p.var),.gl 7 ((x.1.map zau).map Pat.cc)])),(7,some (.tok ((x.1.map zau).map Pat.cc).length 6))]) (fun x=>x.1++x.2=p.kids) (fun x=>x.2.length) ([],p.kids) (by simp) ⟨⟨_,rfl,xap ?_⟩,trivial⟩ ⟨?_,⟨zab ?_,trivial⟩⟩ (fun x=>rfl) (fun x hg1=>?_);focus ((simp;done))
   focus (first|rfl|(simp[getH];done))
   focus ((simp;done))
   obtain⟨pre,rest⟩:=x;dsimp only at hg1 ⊢;refine evc [] [] ?_;refine sq ?_ ?_<;>intro h5 h5p h5s;try simp only[Q,Pat.cs_len] at h5p
   rcases rest with _|⟨y,rest⟩
   ·exfalso;simp_all
   refine xaT sl26 .none rfl rfl rfl rfl (Pat.cs_at' hg1) rfl ?_;refine evd [] [] ?_;refine wc zp6 (zc9 n (p:=y) (by have:=Pats.size_mem (l:=p.kids) (v:=y) (by rw[←hg1];simp);omega) (Pats.ok_mem hok.2 y (by rw[←hg1];simp))) rfl rfl ?_;refine si [0] [_] sl26 tz28 ?_;refine ap sl26 zz28 rfl rfl rfl (by intro x hx;first|(simp at hx;subst hx;rfl)|exact zhw _ x hx) (by have:=congrArg List.length hg1;simp at this;simp;omega) ?_;refine evd [] [] ?_;refine so ty26 ?_;refine dr ?_;refine ar ?_;refine Exists.intro ((pre++[y],rest)) ⟨(by have hz:=hg1;rw[←hz];simp),(by simp),sx ⟨⟨_,rfl,xap ?_⟩,trivial⟩ ⟨?_,⟨zab ?_,trivial⟩⟩⟩;focus ((simp;done))
   focus (first|rfl|(simp[getH];done))
   focus ((simp;done))
   try simp only[Q,Pat.cs_len] at h5p
   have hrest:rest=[]:=by
    rcases rest with _|⟨a,b⟩
    ·rfl
    ·exfalso;have hz:=congrArg List.length (hg1);simp only[xaa,xab,xac] at hz;omega
   subst hrest;refine so ty28 ?_;refine tv ?_;refine rn0 (.cons (.cellA ty28 rfl rfl rfl) .nil) (.agg (.cons (.eqd ?_) (.cons (.eqd ?_) (.cons (.eqd ?_) (.cons (.eqd ?_) (.cons (.eqd ?_) (.cons (.gld ?_) .nil)))))));rotate_left 6;all_goals (first|rfl|(rw[List.append_nil] at hg1;rw[←hg1,xat];done)|(rw[List.append_nil] at hg1;subst hg1;rw[←xat];all_goals rfl))
theorem zmt {ls:List (List Pat)} (hl:ls.length≤1000000000000) (hls:∀l∈ls,l.length≤1000000000000):FnD Tryz.prog 187 [.d (zjg ls)] [] (.d (zjg (tupQ 400 ls))) []:=by
 refine bd Tryz.f187 62 [] [] fun w0 F0 own kept hk=>?_;refine xbg sl26 .none rfl ?_;refine si [0] [_] zef tz26 ?_;refine ev ?_;refine xaj (ι:=List (List Pat)×List (List Pat)) hk (fun x=>[(4,.d (.i (x.1.length:Int))),(3,.d (.sl ((tupQ 400 x.1).map zh9)))]) [5,6,7,10,11,12,13,14,15,16,17,18,19,20,21,22,23,24,25,26,27,28,29,30,31,32,33,34,35,36,37,38,39,40,41,42,43,44,45,46,47,48,49,50,51,52,53,54,55,56,57,58,59,60] (fun x=>[]) (fun x=>x.1++x.2=ls) (fun x=>x.2.length) ([],ls) (by simp) ⟨⟨_,rfl,xap ?_⟩,⟨⟨_,rfl, ?_⟩,trivial⟩⟩ trivial (fun x=>rfl) (fun x hg1=>?_);focus (first|rfl|(simp;done))
 focus (first|exact LeA.refl _|((first|refine LeA.gld ?_|refine LeA.nild ?_);first|rfl|(simp;done)|(rw[zk3,zoK,zoi (by omega)])))
 obtain⟨pre,rest⟩:=x;dsimp only at hg1 ⊢;refine evc [] [] ?_;refine sq ?_ ?_<;>intro h1 h1p h1s;try simp only[Q,Pat.cs_len,Int.ofNat_lt,Int.ofNat_le] at h1p
 rcases rest with _|⟨l,rest⟩
 ·exfalso;simp_all
 have hll:=hls l (by rw[←hg1];simp);have htl:=zrN 400 pre;refine xbh 3 zef .none rfl rfl ?_;refine ev ?_;refine xaj (ι:=Nat) hk (fun k=>[(6,.d (.i (k:Int))),(5,.gl 3 (((((tupQ 400 pre).take k).flatMap (zlp l)).take (400+1)).map zh9))]) [7,17,18,19,20,21,22,23,24,25,26,27,28,29,30,31,32,33,34,35,36,37,38,39,40,41,42,43,44,45,46,47,48,49,50,51,52,53,54,55,56,57,58,59] (fun k=>[(3,some (.tok ((((((tupQ 400 pre).take k).flatMap (zlp l)).take (400+1)).map zh9)).length 1))]) (fun k=>k≤(tupQ 400 pre).length) (fun k=>(tupQ 400 pre).length-k) 0 (by simp) ⟨⟨_,rfl,xap ?_⟩,⟨⟨_,rfl,LeA.glg ?_⟩,trivial⟩⟩ ⟨zab ?_,trivial⟩ (fun x=>rfl) (fun k hg2=>?_);iterate 3 focus (first|rfl|(simp;done))
 refine evc [] [] ?_;refine sq ?_ ?_<;>intro h2 h2p h2s;try simp only[Q,Pat.cs_len,Int.ofNat_lt,Int.ofNat_le] at h2p
 refine sq ?_ ?_<;>intro h3 h3p h3s;try simp only[Q,Pat.cs_len,Int.ofNat_lt,Int.ofNat_le] at h3p
 refine xaj (ι:=Nat) hk (fun j=>[(7,.d (.i (j:Int))),(5,.gl 3 (((((tupQ 400 pre).take k).flatMap (zlp l)++(l.take j).map (fun y=>nth (tupQ 400 pre) k++[y])).take (400+1)).map zh9))]) [28,29,30,31,32,33,34,35,36,37,38,39,40,41,42,43,44,45,46,47,48,49,50,51,52,53,54,55,56,57,58,59] (fun j=>[(3,some (.tok ((((((tupQ 400 pre).take k).flatMap (zlp l)++(l.take j).map (fun y=>nth (tupQ 400 pre) k++[y])).take (400+1)).map zh9)).length 1))]) (fun j=>j≤l.length) (fun j=>l.length-j) 0 (by simp) ⟨⟨_,rfl,xap ?_⟩,⟨⟨_,rfl,LeA.glg ?_⟩,trivial⟩⟩ ⟨zab ?_,trivial⟩ (fun x=>rfl) (fun j hg3=>?_);iterate 3 focus (first|rfl|(simp;done))
 have hol:=zrO 400 (zaf (l:=tupQ 400 pre) (i:=k) (by omega));refine evc [] [] ?_;refine xaT zef .none rfl rfl rfl rfl (by first|exact zaK hg1|exact zav (by omega)) rfl ?_;refine ev ?_;refine sq ?_ ?_<;>intro h4 h4p h4s;try simp only[Q,Pat.cs_len,Int.ofNat_lt,Int.ofNat_le] at h4p
 refine sq ?_ ?_<;>intro h5 h5p h5s;try simp only[Q,Pat.cs_len,Int.ofNat_lt,Int.ofNat_le] at h5p
 refine xbh 5 sl26 .none rfl rfl ?_;refine evd [] [] ?_;refine xaT zef .none rfl rfl rfl rfl (by first|exact zaK hg1|exact zav (by omega)) rfl ?_;refine evd [] [] ?_;refine ap sl26 zz28 rfl rfl rfl (by intro z hz;first|(rw[xat] at hz;obtain⟨_,_,rfl⟩:=List.mem_map.1 hz;rfl)|(simp at hz;rw[hz];rfl)) (by first|(simp only[xac,xaa,xab,xah,Pat.cs_len] at *;omega)) ?_;refine evd [] [] ?_;refine xaT zef .none rfl rfl rfl rfl (by first|exact zaK hg1|exact zav (by omega)) rfl ?_;refine evd [] [] ?_;refine xaT sl26 .none rfl rfl rfl rfl (zaD (by omega)) rfl ?_;refine evd [] [] ?_;refine si [0] [_] sl26 tz28 ?_;refine ap sl26 zz28 rfl rfl rfl (by intro z hz;first|(rw[xat] at hz;obtain⟨_,_,rfl⟩:=List.mem_map.1 hz;rfl)|(simp at hz;rw[hz];rfl)) (by first|(simp only[xac,xaa,xab,xah,Pat.cs_len] at *;omega)) ?_;refine si [0] [_] zef tz26 ?_;refine ap zef zz26 rfl rfl rfl (by intro z hz;first|(rw[xat] at hz;obtain⟨_,_,rfl⟩:=List.mem_map.1 hz;rfl)|(simp at hz;rw[hz];rfl)) (by first|(simp only[xac,xaa,xab,xah,Pat.cs_len] at *;omega)) ?_;refine evd [] [] ?_;refine dr ?_;refine ar ?_;refine Exists.intro (j+1) ⟨?_, ?_,sx ⟨⟨_,rfl,xap ?_⟩,⟨⟨_,rfl,LeA.glg ?_⟩,trivial⟩⟩ ⟨zab ?_,trivial⟩⟩;iterate 2 focus (first|omega|(simp_all;done))
 iterate 3 focus (first|rfl|(simp;done)|(rw[zxi (by omega) (by omega),xaf];simp[xat];done))
 try simp only[Q,Pat.cs_len,Int.ofNat_lt,Int.ofNat_le] at h5p
 refine ar ?_;refine Exists.intro (k+1) ⟨?_, ?_,sx ⟨⟨_,rfl,xap ?_⟩,⟨⟨_,rfl,LeA.glg ?_⟩,trivial⟩⟩ ⟨zab ?_,trivial⟩⟩;iterate 2 focus (first|omega|(simp_all;done))
 iterate 3 focus (first|rfl|(simp;done)|(rw[zsC (by omega),zrL (by omega)]))
 try simp only[Q,Pat.cs_len,Int.ofNat_lt,Int.ofNat_le] at h4p
 refine sqF ?_;refine ar ?_;refine Exists.intro (k+1) ⟨?_, ?_,sx ⟨⟨_,rfl,xap ?_⟩,⟨⟨_,rfl,LeA.glg ?_⟩,trivial⟩⟩ ⟨zab ?_,trivial⟩⟩;iterate 2 focus (first|omega|(simp_all;done))
 iterate 3 focus (first|rfl|(simp;done)|(rw[zsC (by omega),zrL (by omega)]))
 try simp only[Q,Pat.cs_len,Int.ofNat_lt,Int.ofNat_le] at h3p
 refine ar ?_;refine Exists.intro ((pre++[l],rest)) ⟨(by have hz:=hg1;rw[←hz];simp),(by simp),sx ⟨⟨_,rfl,xap ?_⟩,⟨⟨_,rfl, ?_⟩,trivial⟩⟩ trivial⟩;focus (first|rfl|(simp;done))
 focus (first|exact LeA.refl _|((first|refine LeA.gld ?_|refine LeA.nild ?_);first|rfl|(simp;done)|(rw[zk3,zoK,zoi (by omega)])))
 try simp only[Q,Pat.cs_len,Int.ofNat_lt,Int.ofNat_le] at h2p
 refine sqF ?_;refine ar ?_;refine Exists.intro ((pre++[l],rest)) ⟨(by have hz:=hg1;rw[←hz];simp),(by simp),sx ⟨⟨_,rfl,xap ?_⟩,⟨⟨_,rfl, ?_⟩,trivial⟩⟩ trivial⟩;focus (first|rfl|(simp;done))
 focus (first|exact LeA.refl _|((first|refine LeA.gld ?_|refine LeA.nild ?_);first|rfl|(simp;done)|(rw[zk3,zoK,zoi (by omega)])))
 try simp only[Q,Pat.cs_len,Int.ofNat_lt,Int.ofNat_le] at h1p
 have hrest:rest=[]:=by
  rcases rest with _|⟨a,b⟩
  ·rfl
  ·exfalso;have hz:=congrArg List.length (hg1);simp only[xaa,xab,xac] at hz;omega
 subst hrest;refine rn0 (r1 rfl) (.eqd ?_);rotate_left;all_goals ((rw[List.append_nil] at hg1);subst hg1;rfl)
theorem zei:∀(n:Nat){p:Pat},binP n p=true→p.ok→FnD Tryz.prog 142 [.agg [.d (.i p.op),.d (.i p.ctor),.d (.i p.n),.d (.i p.m),.d (.i p.var),.d (zad p.kids)]] [] (.gv 9 (Pat.cs (za0 p))) [(9,some (.tok (Pat.cs (za0 p)).length 6))]
 |0,p,h,_=>by simp[binP] at h
 |n+1,p,h,hok=>by
  have hok':=(Pat.ok_iff p).1 hok;have hok1:=hok'.1;by_cases h5:p.op=5
  ·have hl:=zla h h5;have e5:=zv2 h5 hl;have l0:=zjA (nth p.kids 0);have l1:=zjA (nth p.kids 1);have c0:=zei n (zd7 h (i:=0) (by omega)) (Pats.ok_mem hok'.2 _ (zaf (by omega)));have c1:=FnD.gvD (zei n (zd7 h (i:=1) (by omega)) (Pats.ok_mem hok'.2 _ (zaf (by omega))));rw[e5];generalize za0 (nth p.kids 0)=A at *;generalize za0 (nth p.kids 1)=C at *;by_cases hlen:(A++C).length≤401
   ·rw[List.take_of_length_le hlen];rw[xaa] at hlen;refine bd Tryz.f142 67 [25] [] fun w0 F0 own kept hk=>?_;refine bx 3001 ?_;refine evs [25] [] ?_;refine sq ?_ ?_<;>intro h1 h1p h1s;try simp only[Q,Pat.cs_len,xaa] at h1p
    refine xaT (i:=0) sl26 .none rfl rfl rfl rfl (zaD (by omega)) rfl ?_;refine evd [25] [] ?_;refine Walk.call (cr:=[9]) ziG (c0) rfl .none rfl rfl (LeL.refl _) trivial rfl rfl rfl ?_;refine evd [25] [] ?_;refine xaT (i:=1) sl26 .none rfl rfl rfl rfl (zaD (by omega)) rfl ?_;refine evd [25] [] ?_;refine wc ziG (c1) rfl rfl ?_;refine xaA sl26 zz28 .none rfl rfl rfl rfl (zfF rfl (by(simp;done))) (by intro x hx;exact zbN _ x hx) (by simp[Pat.cs_len];omega) (by simp[Pat.cs_len];omega) ?_;refine evd [25] [] ?_;refine dr ?_;refine Walk.lenV sl26 .none rfl rfl ?_;refine evs [25] [] ?_;refine sq ?_ ?_<;>intro h2 h2p h2s;try simp only[Q,Pat.cs_len,xaa] at h2p
    exfalso;omega;try simp only[Q,Pat.cs_len,xaa] at h2p
    refine rn [(9,some (.tok (Pat.cs (A++C)).length 6))] (r1 rfl) (.gvg ?_) ⟨rfl,rfl⟩ (SubH.get ⟨?_,trivial⟩) (zaA rfl);rotate_left 2;try simp only[Q,Pat.cs_len,xaa] at h1p
    exfalso;omega;all_goals (first|((first|rfl|(simp[xat];done));done)|(first|rfl|(simp[xat];rfl)))
   ·have c8:=FnD.gvRen 8 c0;rw[xaa] at hlen;refine bd Tryz.f142 67 [25] [] fun w0 F0 own kept hk=>?_;refine bx 3001 ?_;refine evs [25] [] ?_;refine sq ?_ ?_<;>intro h1 h1p h1s;try simp only[Q,Pat.cs_len,xaa] at h1p
    refine xaT (i:=0) sl26 .none rfl rfl rfl rfl (zaD (by omega)) rfl ?_;refine evd [25] [] ?_;refine Walk.call (cr:=[8]) ziG (c8) rfl .none rfl rfl (LeL.refl _) trivial rfl rfl rfl ?_;refine evd [25] [] ?_;refine xaT (i:=1) sl26 .none rfl rfl rfl rfl (zaD (by omega)) rfl ?_;refine evd [25] [] ?_;refine wc ziG (c1) rfl rfl ?_;refine xaA sl26 zz28 .none rfl rfl rfl rfl (zfF rfl (by(simp;done))) (by intro x hx;exact zbN _ x hx) (by simp[Pat.cs_len];omega) (by simp[Pat.cs_len];omega) ?_;refine evd [25] [] ?_;refine dr ?_;refine Walk.lenV sl26 .none rfl rfl ?_;refine evs [25] [] ?_;refine sq ?_ ?_<;>intro h2 h2p h2s;try simp only[Q,Pat.cs_len,xaa] at h2p
    refine xaM 9 (b:=401) sl26 .none rfl rfl (zfF rfl (by(simp;done))) rfl rfl (by simp[Pat.cs_len];omega) (by simp[Pat.cs_len];omega) rfl ?_;refine evs [25] [] ?_;refine rn [(9,some (.tok (Pat.cs ((A++C).take 401)).length 6))] (r1 rfl) (.gvg ?_) ⟨rfl,rfl⟩ (SubH.get ⟨?_,trivial⟩) (zaA rfl);rotate_left 2;try simp only[Q,Pat.cs_len,xaa] at h2p
    exfalso;omega;try simp only[Q,Pat.cs_len,xaa] at h1p
    exfalso;omega;all_goals (first|((first|rfl|(simp[xat];done));done)|(first|rfl|(show some (Res.tok _ _)=some (Res.tok _ _);simp[Pat.cs_len];omega)))
  ·have hts:=zrN 400 (p.kids.map za0);have htm:=fun(i:Nat) (hi:i<(tupQ 400 (p.kids.map za0)).length)=>zrO 400 (zaf hi);have ht3:=zmt (ls:=p.kids.map za0) (by rw[xac];omega) (fun l hl=>by obtain⟨x,_,rfl⟩:=List.mem_map.1 hl;have:=zjA x;omega);have hcal:=fun(i:Nat) (hi:i<p.kids.length)=>FnD.gvD (zei n (zd7 h hi) (Pats.ok_mem hok'.2 _ (zaf hi)));have hpl:=fun(y:Pat) (pre rest:List Pat) (e:pre++y::rest=p.kids)=>(show pre.length<p.kids.length∧nth p.kids pre.length=y from⟨by have:=congrArg List.length e;simp at this;omega,zyi e⟩);have hcal2:=fun(y:Pat) (pre rest:List Pat) (e:pre++y::rest=p.kids)=>show FnD Tryz.prog 142 [.agg [.d (.i y.op),.d (.i y.ctor),.d (.i y.n),.d (.i y.m),.d (.i y.var),.d (zad y.kids)]] [] (.d (.sl (Pat.cs (za0 y)))) [] from by
    have hq:=hcal pre.length (hpl y pre rest e).1;rw[(hpl y pre rest e).2] at hq;exact hq
   have ht3':=fun(pre:List Pat) (e:pre++[]=p.kids)=>show FnD Tryz.prog 187 [.d (zjg (pre.map za0))] [] (.d (zjg (tupQ 400 (p.kids.map za0)))) [] from by
    rw[List.append_nil] at e;rw[e];exact ht3
   rw[zv3 h5];refine bd Tryz.f142 67 [] [] fun w0 F0 own kept hk=>?_;refine bx 3001 ?_;refine ev ?_;refine sq ?_ ?_<;>intro h1 h1p h1s;try simp only[Q,Pat.cs_len] at h1p
   exfalso;omega;try simp only[Q,Pat.cs_len] at h1p
   refine xbh 4 zef .none rfl rfl ?_;refine ev ?_;refine xaj (ι:=List (Pat)×List (Pat)) hk (fun x=>[(5,.d (.i (x.1.length:Int))),(4,.gl 4 ((x.1.map za0).map zh9))]) [31,32,33,34,35,36,37,38,39,40,41,42,43,44,45,46] (fun x=>[(4,some (.tok (((x.1.map za0).map zh9)).length 1))]) (fun x=>x.1++x.2=p.kids) (fun x=>x.2.length) ([],p.kids) (by simp) ⟨⟨_,rfl,xap ?_⟩,⟨⟨_,rfl,LeA.glg ?_⟩,trivial⟩⟩ ⟨zab ?_,trivial⟩ (fun x=>rfl) (fun x hg1=>?_);iterate 3 focus ((simp;done))
   obtain⟨pre,rest⟩:=x;dsimp only at hg1 ⊢;refine evc [] [] ?_;refine sq ?_ ?_<;>intro h2 h2p h2s;try simp only[Q,Pat.cs_len] at h2p
   rcases rest with _|⟨y,rest⟩
   ·exfalso;simp_all
   refine xaT sl26 .none rfl rfl rfl rfl (Pat.cs_at' hg1) rfl ?_;refine ev ?_;refine wc ziG (hcal2 y pre rest hg1) rfl rfl ?_;refine si [0] [_] zef tz26 ?_;refine ap zef zz26 rfl rfl rfl (by intro x hx;first|(simp at hx;subst hx;rfl)|exact zhw _ x hx) (by first|(have:=congrArg List.length hg1;simp at this;simp;omega)|(simp;omega)) ?_;refine ev ?_;refine ar ?_;refine Exists.intro ((pre++[y],rest)) ⟨(by have hz:=hg1;rw[←hz];simp),(by simp),sx ⟨⟨_,rfl,xap ?_⟩,⟨⟨_,rfl,LeA.glg ?_⟩,trivial⟩⟩ ⟨zab ?_,trivial⟩⟩;iterate 3 focus ((simp;done))
   try simp only[Q,Pat.cs_len] at h2p
   have hrest:rest=[]:=by
    rcases rest with _|⟨a,b⟩
    ·rfl
    ·exfalso;have hz:=congrArg List.length (hg1);simp only[xaa,xab,xac] at hz;omega
   subst hrest;refine Walk.call (cr:=[]) zxR (ht3' pre hg1) rfl .none rfl rfl (.cons (.gl _ _) .nil) trivial rfl rfl rfl ?_;refine ev ?_;refine xbi 9 sl26 .none rfl rfl ?_;refine ev ?_;refine xaj (ι:=Nat) hk (fun k=>[(8,.d (.i (k:Int))),(7,.gv 9 ((((tupQ 400 (p.kids.map za0)).take k).map fun l=>Pat.mk p.op p.ctor p.n p.m p.var l).map Pat.cc))]) [9,50,51,52,53,54,55,56,57,58,59,60,61,62,63,64,65] (fun k=>[(9,some (.tok (((((tupQ 400 (p.kids.map za0)).take k).map fun l=>Pat.mk p.op p.ctor p.n p.m p.var l).map Pat.cc)).length 6))]) (fun k=>k≤(tupQ 400 (p.kids.map za0)).length) (fun k=>(tupQ 400 (p.kids.map za0)).length-k) 0 (by omega) ⟨⟨_,rfl,xap ?_⟩,⟨⟨_,rfl,LeA.gvg ?_⟩,trivial⟩⟩ ⟨zab ?_,trivial⟩ (fun x=>rfl) (fun k hg2=>?_);iterate 3 focus ((simp;done))
   refine evc [] [] ?_;refine sq ?_ ?_<;>intro h3 h3p h3s;try simp only[Q,Pat.cs_len] at h3p
   refine ab 3009 tz28 ?_;refine so ty28 ?_;refine tv ?_;refine xaT zef .none rfl rfl rfl rfl (zav (by omega)) rfl ?_;refine ev ?_;refine so ty26 ?_;refine tv ?_;refine si [0] [_] sl26 tz28 ?_;refine xaA sl26 zz28 .none rfl rfl rfl rfl (zfF rfl (by first|rfl|(simp;done))) (by intro x hx;first|(simp at hx;subst hx;rfl)|exact zhw _ x hx) (by first|(have:=congrArg List.length hg1;simp at this;simp;omega)|(simp;omega)) (by first|(have:=congrArg List.length hg1;simp at this;simp;omega)|(simp;omega)) ?_;refine ev ?_;refine ar ?_;refine Exists.intro (k+1) ⟨(by omega),(by omega),sx ⟨⟨_,rfl,xap ?_⟩,⟨⟨_,rfl,LeA.gvg ?_⟩,trivial⟩⟩ ⟨zab ?_,trivial⟩⟩;iterate 3 focus (first|(simp;done)|(rw[List.take_succ_eq_append_getElem (by omega),←zaP (by omega)];simp[zcb,zfq,mk_n,mk_m,zhP,za5];done))
   try simp only[Q,Pat.cs_len] at h3p
   refine rn [(9,some (.tok (Pat.cs ((tupQ 400 (p.kids.map za0)).map fun l=>Pat.mk p.op p.ctor p.n p.m p.var l)).length 6))] (r1 rfl) (.gvg ?_) ⟨rfl,rfl⟩ (SubH.get ⟨?_,trivial⟩) (zaA rfl);rotate_left 2;all_goals (first|((first|rfl|(obtain rfl:k=(tupQ 400 (p.kids.map za0)).length:=(by omega);rw[List.take_length,show Pat.cs ((tupQ 400 (p.kids.map za0)).map fun l=>Pat.mk p.op p.ctor p.n p.m p.var l)=((tupQ 400 (p.kids.map za0)).map fun l=>Pat.mk p.op p.ctor p.n p.m p.var l).map Pat.cc from xat _];done));done)|(first|rfl|(obtain rfl:k=(tupQ 400 (p.kids.map za0)).length:=(by omega);rw[List.take_length];simp[xat];rfl)|(obtain rfl:k=(tupQ 400 (p.kids.map za0)).length:=(by omega);rw[List.take_length,show Pat.cs ((tupQ 400 (p.kids.map za0)).map fun l=>Pat.mk p.op p.ctor p.n p.m p.var l)=((tupQ 400 (p.kids.map za0)).map fun l=>Pat.mk p.op p.ctor p.n p.m p.var l).map Pat.cc from xat _];rfl)))
theorem ziq {w:List Data}{n:Nat}{t:Ty}{p:Pat} (h:zap w n t p=true) (hok:p.ok):FnD Tryz.prog 87 [.agg [.d (.i p.op),.d (.i p.ctor),.d (.i p.n),.d (.i p.m),.d (.i p.var),.d (zad p.kids)]] [] (.d (zad (za0 (zau p)))) []:=by
 have hbp:=zc9 _ (Nat.le_refl _) hok;have hsp:=FnD.gvD (zei n (zgQ n h) (zk8 p hok));generalize zau p=b at *;refine bd Tryz.f87 6 [] [] fun w0 F0 own kept hk=>?_;refine bx 3001 ?_;refine ev ?_;refine wc zp6 (hbp) rfl rfl ?_;refine wc ziG (hsp) rfl rfl ?_;refine ev ?_;refine rn0 (r1 rfl) (.eqd ?_);rotate_left;all_goals (rfl)
theorem zhX {a b:Pat} (hn:0≤b.n∧b.n≤9) (hm:0≤b.m∧b.m≤9):FnD Tryz.prog 156 [.agg [.d (.i (a).op),.d (.i (a).ctor),.d (.i (a).n),.d (.i (a).m),.d (.i (a).var),.d (zad (a).kids)],.agg [.d (.i (b).op),.d (.i (b).ctor),.d (.i (b).n),.d (.i (b).m),.d (.i (b).var),.d (zad (b).kids)]] [] (.d (zad (zbO a.n (minQ a.m (b.n-1))++zbO (maxQ a.n (b.m+1)) a.m))) []:=by
 refine bd Tryz.f156 58 [] [] fun w0 F0 own kept hk=>?_;refine bx 3002 ?_;refine bx 3003 ?_;refine ev ?_;refine xbh 9 sl26 .none rfl rfl ?_;refine ev ?_;refine bu [0,2,3] [_,_,_] st28 ?_;refine ab 3006 tz28 ?_;refine so ty28 ?_;refine tv ?_;refine ar ?_;refine sq ?_ ?_<;>intro h1 h1p h1s;try simp only[Q] at h1p
 refine ar ?_;refine so ty3 ?_;refine tv ?_;refine sq ?_ ?_<;>intro h2 h2p h2s;try simp only[Q] at h2p
 refine si [0] [_] sl26 tz28 ?_;refine ap sl26 zz28 rfl rfl rfl (by intro x hx;simp at hx;subst hx;rfl) (by simp) ?_;refine ev ?_;refine bu [0,2,3] [_,_,_] st28 ?_;refine ab 3007 tz28 ?_;refine so ty28 ?_;refine tv ?_;refine ar ?_;refine sq ?_ ?_<;>intro h3 h3p h3s;try simp only[Q] at h3p
 refine ar ?_;refine so ty3 ?_;refine tv ?_;refine sq ?_ ?_<;>intro h4 h4p h4s;try simp only[Q] at h4p
 refine si [0] [_] sl26 tz28 ?_;refine ap sl26 zz28 rfl rfl rfl (by intro x hx;simp at hx;subst hx;rfl) (by simp) ?_;refine ev ?_;refine rn0 (r1 rfl) (.gld ?_);rotate_left;try simp only[Q] at h4p
 refine rn0 (r1 rfl) (.gld ?_);rotate_left;try simp only[Q] at h3p
 refine sq ?_ ?_<;>intro h5 h5p h5s;try simp only[Q] at h5p
 refine si [0] [_] sl26 tz28 ?_;refine ap sl26 zz28 rfl rfl rfl (by intro x hx;simp at hx;subst hx;rfl) (by simp) ?_;refine ev ?_;refine rn0 (r1 rfl) (.gld ?_);rotate_left;try simp only[Q] at h5p
 refine rn0 (r1 rfl) (.gld ?_);rotate_left;try simp only[Q] at h2p
 refine bu [0,2,3] [_,_,_] st28 ?_;refine ab 3007 tz28 ?_;refine so ty28 ?_;refine tv ?_;refine ar ?_;refine sq ?_ ?_<;>intro h6 h6p h6s;try simp only[Q] at h6p
 refine ar ?_;refine so ty3 ?_;refine tv ?_;refine sq ?_ ?_<;>intro h7 h7p h7s;try simp only[Q] at h7p
 refine si [0] [_] sl26 tz28 ?_;refine ap sl26 zz28 rfl rfl rfl (by intro x hx;simp at hx;subst hx;rfl) (by simp) ?_;refine ev ?_;refine rn0 (r1 rfl) (.gld ?_);rotate_left;try simp only[Q] at h7p
 refine rn0 (r1 rfl) (.gld ?_);rotate_left;try simp only[Q] at h6p
 refine sq ?_ ?_<;>intro h8 h8p h8s;try simp only[Q] at h8p
 refine si [0] [_] sl26 tz28 ?_;refine ap sl26 zz28 rfl rfl rfl (by intro x hx;simp at hx;subst hx;rfl) (by simp) ?_;refine ev ?_;refine rn0 (r1 rfl) (.gld ?_);rotate_left;try simp only[Q] at h8p
 refine rn0 (r1 rfl) (.gld ?_);rotate_left;try simp only[Q] at h1p
 refine sq ?_ ?_<;>intro h9 h9p h9s;try simp only[Q] at h9p
 refine si [0] [_] sl26 tz28 ?_;refine ap sl26 zz28 rfl rfl rfl (by intro x hx;simp at hx;subst hx;rfl) (by simp) ?_;refine ev ?_;refine bu [0,2,3] [_,_,_] st28 ?_;refine ab 3007 tz28 ?_;refine so ty28 ?_;refine tv ?_;refine ar ?_;refine sq ?_ ?_<;>intro h10 h10p h10s;try simp only[Q] at h10p
 refine ar ?_;refine so ty3 ?_;refine tv ?_;refine sq ?_ ?_<;>intro h11 h11p h11s;try simp only[Q] at h11p
 refine si [0] [_] sl26 tz28 ?_;refine ap sl26 zz28 rfl rfl rfl (by intro x hx;simp at hx;subst hx;rfl) (by simp) ?_;refine ev ?_;refine rn0 (r1 rfl) (.gld ?_);rotate_left;try simp only[Q] at h11p
 refine rn0 (r1 rfl) (.gld ?_);rotate_left;try simp only[Q] at h10p
 refine sq ?_ ?_<;>intro h12 h12p h12s;try simp only[Q] at h12p
 refine si [0] [_] sl26 tz28 ?_;refine ap sl26 zz28 rfl rfl rfl (by intro x hx;simp at hx;subst hx;rfl) (by simp) ?_;refine ev ?_;refine rn0 (r1 rfl) (.gld ?_);rotate_left;try simp only[Q] at h12p
 refine rn0 (r1 rfl) (.gld ?_);rotate_left;try simp only[Q] at h9p
 refine bu [0,2,3] [_,_,_] st28 ?_;refine ab 3007 tz28 ?_;refine so ty28 ?_;refine tv ?_;refine ar ?_;refine sq ?_ ?_<;>intro h13 h13p h13s;try simp only[Q] at h13p
 refine ar ?_;refine so ty3 ?_;refine tv ?_;refine sq ?_ ?_<;>intro h14 h14p h14s;try simp only[Q] at h14p
 refine si [0] [_] sl26 tz28 ?_;refine ap sl26 zz28 rfl rfl rfl (by intro x hx;simp at hx;subst hx;rfl) (by simp) ?_;refine ev ?_;refine rn0 (r1 rfl) (.gld ?_);rotate_left;try simp only[Q] at h14p
 refine rn0 (r1 rfl) (.gld ?_);rotate_left;try simp only[Q] at h13p
 refine sq ?_ ?_<;>intro h15 h15p h15s;try simp only[Q] at h15p
 refine si [0] [_] sl26 tz28 ?_;refine ap sl26 zz28 rfl rfl rfl (by intro x hx;simp at hx;subst hx;rfl) (by simp) ?_;refine ev ?_;refine rn0 (r1 rfl) (.gld ?_);rotate_left;try simp only[Q] at h15p
 refine rn0 (r1 rfl) (.gld ?_);rotate_left;all_goals (unfold minQ maxQ zbO;(repeat' split)<;>first|rfl|(exfalso;omega))
theorem zp1 {w:List Data} (hw:WT w){a k c:Int} (ht:TyIn w.length ⟨a,k⟩) (hc:c∈zah w ⟨a,k⟩) (hl:(zaa w ⟨a,k⟩ c).length≤3):FnD Tryz.prog 158 [.d (zam w),.agg [.d (.i a),.d (.i k)],.d (.i c)] []
  (.agg [.d (.i 4),.d (.i c),.d (.i 0),.d (.i 0),.d (.i 0),.d (zad (zbI w ⟨a,k⟩ c).kids)]) []:=by
 refine bd Tryz.f158 29 [] [] fun w0 F0 own kept hk=>?_;refine bx 3004 ?_;refine ab 3006 tz28 ?_;refine tv ?_;refine bu [0,1] [_,_] st28 ?_;refine ab 3007 tz28 ?_;refine so ty28 ?_;refine tv ?_;refine wc zgD (zck hw ht hc) rfl rfl ?_;refine ev ?_;refine xam 3007 5 9 6 rfl rfl rfl rfl ?_;refine xaj (ι:=List (Ty)×List (Ty)) hk (fun x=>[(9,.d (.i (x.1.length:Int)))]) [16,17,18,19,20,21,22,23,24,25,26,27] (fun x=>[(3007,some (.box [.d (.i 4),.d (.i c),.d (.i 0),.d (.i 0),.d (.i 0),.gl 9 ((x.1.map fun _=>anyQ).map Pat.cc)])),(9,some (.tok ((x.1.map fun _=>anyQ).map Pat.cc).length 6))]) (fun x=>x.1++x.2=zaa w ⟨a,k⟩ c) (fun x=>x.2.length) ([],zaa w ⟨a,k⟩ c) (by simp) ⟨⟨_,rfl,xap ?_⟩,trivial⟩ ⟨?_,⟨zab ?_,trivial⟩⟩ (fun x=>rfl) (fun x hg1=>?_);focus (rfl)
 focus (rfl)
 focus (rfl)
 obtain⟨pre,rest⟩:=x;dsimp only at hg1 ⊢;refine evc [] [] ?_;refine sq ?_ ?_<;>intro h1 h1p h1s;try simp only[Q] at h1p
 rcases rest with _|⟨y,rest⟩
 ·exfalso;simp_all
 refine wc zxB (zpZ) rfl rfl ?_;refine si [0] [_] sl26 tz28 ?_;refine ap sl26 zz28 rfl rfl rfl (by intro x hx;(simp at hx;subst hx;rfl)) (by have:=congrArg List.length hg1;simp at this;simp;omega) ?_;refine evd [] [] ?_;refine so ty26 ?_;refine dr ?_;refine ar ?_;refine Exists.intro ((pre++[y],rest)) ⟨(by have hz:=hg1;rw[←hz];simp),(by simp),sx ⟨⟨_,rfl,xap ?_⟩,trivial⟩ ⟨?_,⟨zab ?_,trivial⟩⟩⟩;focus ((simp;done))
 focus ((simp[getH];exact⟨rfl,rfl,rfl,rfl,rfl,rfl⟩))
 focus ((simp;done))
 try simp only[Q] at h1p
 have hrest:rest=[]:=by
  rcases rest with _|⟨a,b⟩
  ·rfl
  ·exfalso;have hz:=congrArg List.length (hg1);simp only[xaa,xab,xac] at hz;omega
 subst hrest;refine so ty28 ?_;refine tv ?_;refine rn0 (.cons (.cellA ty28 rfl rfl rfl) .nil) (.agg (.cons (.eqd ?_) (.cons (.eqd ?_) (.cons (.eqd ?_) (.cons (.eqd ?_) (.cons (.eqd ?_) (.cons (.gld ?_) .nil)))))));rotate_left 6;all_goals (first|rfl|(rw[List.append_nil] at hg1;subst hg1;rw[←xat];all_goals rfl))
def zdU (n:Nat) (a b:Pat):Pat:=if a.op=3∧b.op≠1 then intQ (maxQ a.n b.n) (minQ a.m b.m) else zcL n a b
theorem zor {n:Nat}{a b:Pat} (h:¬(a.op=3∧b.op≠1)):zdU n a b=zcL n a b:=if_neg h
theorem zjt {n:Nat}{a b:Pat} (h:(zan n a b).isSome=true):zdU n a b=zcL n a b:=by
 unfold zdU;split
 ·rename_i h3;cases n with
  |zero=>simp[zan] at h
  |succ n=>
   have e:=zhO (n:=n) h3.1 h3.2;rw[e] at h;split at h
   ·rename_i hr;rw[if_pos hr] at e;exact(zct e).symm
   ·cases h
 ·rfl
theorem zgo {w:List Data} (hs:Spa w):∀(n m:Nat){t:Ty}{a b:Pat},m≤n→InS (w.length*4) t→zac w m t a=true→zac w m t b=true→
  FnD Tryz.prog 67 [.agg [.d (.i (a).op),.d (.i (a).ctor),.d (.i (a).n),.d (.i (a).m),.d (.i (a).var),.d (zad (a).kids)],.agg [.d (.i (b).op),.d (.i (b).ctor),.d (.i (b).n),.d (.i (b).m),.d (.i (b).var),.d (zad (b).kids)]] [] (.tup [.agg [.d (.i (zdU n a b).op),.d (.i (zdU n a b).ctor),.d (.i (zdU n a b).n),.d (.i (zdU n a b).m),.d (.i (zdU n a b).var),.d (zad (zdU n a b).kids)],.d (.bool (zan n a b).isSome)]) []
 |n,0,t,a,b,_,_,ha,_=>by simp[zac] at ha
 |0,m+1,t,a,b,h,_,_,_=>by omega
 |n+1,m+1,t,a,b,hnm,ht,ha,hb=>by
  by_cases h1:a.op=1
  ·have e:=zgM (n:=n) (b:=b) h1;rw[zor (fun h=>by omega),zct e,e];refine bd Tryz.f67 89 [] [] fun w0 F0 own kept hk=>?_;refine bx 3002 ?_;refine bx 3003 ?_;refine ab 3004 tz28 ?_;refine ev ?_;refine sq ?_ ?_<;>intro h1 h1p h1s;try simp only[Q] at h1p
   refine so ty28 ?_;refine ev ?_;refine rn0 (.cons (.cellA ty28 rfl rfl rfl) (.cons (.tmp rfl) .nil)) (.tup (.cons (.agg (.cons (.eqd ?_) (.cons (.eqd ?_) (.cons (.eqd ?_) (.cons (.eqd ?_) (.cons (.eqd ?_) (.cons (.eqd ?_) .nil))))))) (.cons (.eqd ?_) .nil)));rotate_left 7;try simp only[Q] at h1p
   exfalso;omega;all_goals (rfl)
  by_cases h2:b.op=1
  ·have e:=zhN (n:=n) h1 h2;rw[zor (fun h=>h.2 h2),zct e,e];refine bd Tryz.f67 89 [] [] fun w0 F0 own kept hk=>?_;refine bx 3002 ?_;refine bx 3003 ?_;refine ab 3004 tz28 ?_;refine ev ?_;refine sq ?_ ?_<;>intro h1 h1p h1s;try simp only[Q] at h1p
   exfalso;omega;try simp only[Q] at h1p
   refine sq ?_ ?_<;>intro h2 h2p h2s;try simp only[Q] at h2p
   refine so ty28 ?_;refine ev ?_;refine rn0 (.cons (.cellA ty28 rfl rfl rfl) (.cons (.tmp rfl) .nil)) (.tup (.cons (.agg (.cons (.eqd ?_) (.cons (.eqd ?_) (.cons (.eqd ?_) (.cons (.eqd ?_) (.cons (.eqd ?_) (.cons (.eqd ?_) .nil))))))) (.cons (.eqd ?_) .nil)));rotate_left 7;try simp only[Q] at h2p
   exfalso;omega;all_goals (rfl)
  by_cases h3:a.op=3
  ·have e:=zhO (n:=n) h3 h2;have ez:zdU (n+1) a b=intQ (maxQ a.n b.n) (minQ a.m b.m):=if_pos ⟨h3,h2⟩;have eb:(zan (n+1) a b).isSome=decide (maxQ a.n b.n≤minQ a.m b.m):=by
    rw[e];by_cases hr:maxQ a.n b.n≤minQ a.m b.m
    ·rw[if_pos hr,decide_eq_true hr];rfl
    ·rw[if_neg hr,decide_eq_false hr];rfl
   rw[ez,eb];refine bd Tryz.f67 89 [] [] fun w0 F0 own kept hk=>?_;refine bx 3002 ?_;refine bx 3003 ?_;refine ab 3004 tz28 ?_;refine ev ?_;refine sq ?_ ?_<;>intro h1 h1p h1s;try simp only[Q] at h1p
   exfalso;omega;try simp only[Q] at h1p
   refine sq ?_ ?_<;>intro h2 h2p h2s;try simp only[Q] at h2p
   exfalso;omega;try simp only[Q] at h2p
   refine sq ?_ ?_<;>intro h3 h3p h3s;try simp only[Q] at h3p
   refine sq ?_ ?_<;>intro h4 h4p h4s;try simp only[Q] at h4p
   refine sq ?_ ?_<;>intro h5 h5p h5s;try simp only[Q] at h5p
   refine bu [0,2,3] [_,_,_] st28 ?_;refine ev ?_;refine so ty28 ?_;refine ev ?_;refine rn0 (.cons (.cellA ty28 rfl rfl rfl) (.cons (.tmp rfl) .nil)) (.tup (.cons (.agg (.cons (.eqd ?_) (.cons (.eqd ?_) (.cons (.eqd ?_) (.cons (.eqd ?_) (.cons (.eqd ?_) (.cons (.nild ?_) .nil))))))) (.cons (.eqd ?_) .nil)));rotate_left 7;try simp only[Q] at h5p
   refine bu [0,2,3] [_,_,_] st28 ?_;refine ev ?_;refine so ty28 ?_;refine ev ?_;refine rn0 (.cons (.cellA ty28 rfl rfl rfl) (.cons (.tmp rfl) .nil)) (.tup (.cons (.agg (.cons (.eqd ?_) (.cons (.eqd ?_) (.cons (.eqd ?_) (.cons (.eqd ?_) (.cons (.eqd ?_) (.cons (.nild ?_) .nil))))))) (.cons (.eqd ?_) .nil)));rotate_left 7;try simp only[Q] at h4p
   refine sq ?_ ?_<;>intro h6 h6p h6s;try simp only[Q] at h6p
   refine bu [0,2,3] [_,_,_] st28 ?_;refine ev ?_;refine so ty28 ?_;refine ev ?_;refine rn0 (.cons (.cellA ty28 rfl rfl rfl) (.cons (.tmp rfl) .nil)) (.tup (.cons (.agg (.cons (.eqd ?_) (.cons (.eqd ?_) (.cons (.eqd ?_) (.cons (.eqd ?_) (.cons (.eqd ?_) (.cons (.nild ?_) .nil))))))) (.cons (.eqd ?_) .nil)));rotate_left 7;try simp only[Q] at h6p
   refine bu [0,2,3] [_,_,_] st28 ?_;refine ev ?_;refine so ty28 ?_;refine ev ?_;refine rn0 (.cons (.cellA ty28 rfl rfl rfl) (.cons (.tmp rfl) .nil)) (.tup (.cons (.agg (.cons (.eqd ?_) (.cons (.eqd ?_) (.cons (.eqd ?_) (.cons (.eqd ?_) (.cons (.eqd ?_) (.cons (.nild ?_) .nil))))))) (.cons (.eqd ?_) .nil)));rotate_left 7;try simp only[Q] at h3p
   exfalso;omega;all_goals (first|rfl|((try simp only[zcb,zfq,mk_n,mk_m,zhP,za5]);simp only[minQ,maxQ];(repeat' split)<;>first|rfl|(exfalso;omega)))
  have oa:=zbh ha;have h4:a.op=4:=by omega
  have h4b:b.op=4:=by have:=zbW ha hb h1 h2;omega
  have ez:zdU (n+1) a b=zcL (n+1) a b:=zor (fun h=>h3 h.1);by_cases hc:a.ctor=b.ctor
  ·obtain⟨c1,c2,c3,-⟩:=zaw ha h4;obtain⟨d1,d2,d3,-⟩:=zaw hb h4b;rw[←hc] at d3;have h3l:=hs.args t a.ctor ht c1;have ka:=fun i (hi:i<a.kids.length)=>zaH ha hi;have kb:=fun i (hi:i<b.kids.length)=>zaH hb hi;rw[zaU h4] at ka;rw[zaU h4b,←hc] at kb;have e:=zgN (n:=n) h4 h2 hc;have hlen:a.kids.length=b.kids.length:=by omega
   have ih:=fun i (hi:i<a.kids.length)=>zgo hs n m (t:=nth (zaa w t a.ctor) i) (a:=nth a.kids i) (b:=nth b.kids i) (by omega) (zbn hs.dp ht c1 _ (zaf (by omega))) (ka i (by omega)) (kb i (by omega));have key:∀(i:Nat) (acc:List Pat),i<a.kids.length→(zan n (nth a.kids i) (nth b.kids i)).isSome=true→zbv (zan n) (a.kids.drop i) (b.kids.drop i) acc=zbv (zan n) (a.kids.drop (i+1)) (b.kids.drop (i+1)) (acc++[zdU n (nth a.kids i) (nth b.kids i)]):=fun i acc hi h=>by
    rw[zjt h];exact zni hi (by omega) (zdE h)
   rw[ez];refine bd Tryz.f67 89 [] [] fun w0 F0 own kept hk=>?_;refine bx 3002 ?_;refine bx 3003 ?_;refine ab 3004 tz28 ?_;refine ev ?_;refine sq ?_ ?_<;>intro h1 h1p h1s;try simp only[Q,Pat.cs_len] at h1p
   exfalso;omega;try simp only[Q,Pat.cs_len] at h1p
   refine sq ?_ ?_<;>intro h2 h2p h2s;try simp only[Q,Pat.cs_len] at h2p
   exfalso;omega;try simp only[Q,Pat.cs_len] at h2p
   refine sq ?_ ?_<;>intro h3 h3p h3s;try simp only[Q,Pat.cs_len] at h3p
   exfalso;omega;try simp only[Q,Pat.cs_len] at h3p
   refine sq ?_ ?_<;>intro h4 h4p h4s;try simp only[Q,Pat.cs_len] at h4p
   exfalso;omega;try simp only[Q,Pat.cs_len] at h4p
   refine bu [0,1] [_,_] st28 ?_;refine ab 3008 tz28 ?_;refine so ty28 ?_;refine tv ?_;refine xam 3008 5 9 6 rfl rfl rfl rfl ?_;refine xaj (ι:=Nat×List Pat) hk (fun x=>[(9,.d (.i (x.1:Int)))]) [5,10,11,58,59,60,61,62,63,64,65,66,67,68,69,70,71,72,73,74,75,76,77,78,79,80,81,82,83,84,85,86,87] (fun x=>[(3008,some (.box [.d (.i 4),.d (.i a.ctor),.d (.i 0),.d (.i 0),.d (.i 0),.gl 9 (x.2.map Pat.cc)])),(9,some (.tok (x.2.map Pat.cc).length 6))]) (fun x=>x.1≤a.kids.length∧x.2.length=x.1∧zbv (zan n) (a.kids.drop x.1) (b.kids.drop x.1) x.2=zbv (zan n) a.kids b.kids []) (fun x=>a.kids.length-x.1) (0,[]) ⟨by simp,rfl,rfl⟩ ⟨⟨_,rfl,xap ?_⟩,trivial⟩ ⟨?_,⟨zab ?_,trivial⟩⟩ (fun x=>rfl) (fun x hg1=>?_);focus (rfl)
   focus (first|rfl|(simp[getH];done))
   focus (rfl)
   refine evc [] [] ?_;refine sq ?_ ?_<;>intro h5 h5p h5s;try simp only[Q,Pat.cs_len] at h5p
   refine xaT sl26 .none rfl rfl rfl rfl (zaD (by omega)) rfl ?_;refine evd [] [] ?_;refine xaT sl26 .none rfl rfl rfl rfl (zaD (by omega)) rfl ?_;refine evd [] [] ?_;refine wc zp8 (ih x.1 (by omega)) rfl rfl ?_;refine evd [] [] ?_;refine ab 3010 tz28 ?_;refine so ty28 ?_;refine evd [] [] ?_;refine dr ?_;refine sq ?_ ?_<;>intro h6 h6p h6s;try simp only[Q,Pat.cs_len] at h6p
   refine bu [] [] st28 ?_;refine so ty28 ?_;refine ev ?_;refine rn0 (.cons (.cellA ty28 rfl rfl rfl) (.cons (.tmp rfl) .nil)) (.tup (.cons (.agg (.cons (.eqd ?_) (.cons (.eqd ?_) (.cons (.eqd ?_) (.cons (.eqd ?_) (.cons (.eqd ?_) (.cons (.nild ?_) .nil))))))) (.cons (.eqd ?_) .nil)));rotate_left 7;try simp only[Q,Pat.cs_len] at h6p
   refine si [0] [_] sl26 tz28 ?_;refine ap sl26 zz28 rfl rfl rfl (by intro x hx;(simp at hx;subst hx;rfl)) (by simp;omega) ?_;refine ev ?_;refine so ty26 ?_;refine tv ?_;refine ar ?_;refine Exists.intro ((x.1+1,x.2++[zdU n (nth a.kids x.1) (nth b.kids x.1)])) ⟨⟨by dsimp only;omega,by dsimp only;rw[xaa,hg1.2.1];rfl,by dsimp only;rw[←key x.1 x.2 (by omega) (by assumption)];exact hg1.2.2⟩,(by dsimp only;omega),sx ⟨⟨_,rfl,xap ?_⟩,trivial⟩ ⟨?_,⟨zab ?_,trivial⟩⟩⟩;focus (rfl)
   focus (first|rfl|(simp[getH];done))
   focus ((simp;done))
   try simp only[Q,Pat.cs_len] at h5p
   refine so ty28 ?_;refine ev ?_;refine rn0 (.cons (.cellA ty28 rfl rfl rfl) (.cons (.tmp rfl) .nil)) (.tup (.cons (.agg (.cons (.eqd ?_) (.cons (.eqd ?_) (.cons (.eqd ?_) (.cons (.eqd ?_) (.cons (.eqd ?_) (.cons (.gld ?_) .nil))))))) (.cons (.eqd ?_) .nil)));rotate_left 7;all_goals (first|(have e2:zan (n+1) a b=none:=(by rw[e,←hg1.2.2,znh (by omega) (by omega) (zgd (by assumption))];rfl);(first|rw[zfL e2]|rw[e2]);all_goals rfl)|(have e2:zan (n+1) a b=some (zaY a.ctor x.2):=(by rw[e,←hg1.2.2,zfn (by omega)];rfl);rw[zct e2,xat];all_goals rfl)|(have e2:zan (n+1) a b=some (zaY a.ctor x.2):=(by rw[e,←hg1.2.2,zfn (by omega)];rfl);rw[zct e2];all_goals rfl)|(have e2:zan (n+1) a b=some (zaY a.ctor x.2):=(by rw[e,←hg1.2.2,zfn (by omega)];rfl);rw[e2];all_goals rfl))
  ·skip
   have e:=zgc (n:=n) h4 h2 hc;rw[ez,zfL e,e];refine bd Tryz.f67 89 [] [] fun w0 F0 own kept hk=>?_;refine bx 3002 ?_;refine bx 3003 ?_;refine ab 3004 tz28 ?_;refine ev ?_;refine sq ?_ ?_<;>intro h1 h1p h1s;try simp only[Q] at h1p
   exfalso;omega;try simp only[Q] at h1p
   refine sq ?_ ?_<;>intro h2 h2p h2s;try simp only[Q] at h2p
   exfalso;omega;try simp only[Q] at h2p
   refine sq ?_ ?_<;>intro h3 h3p h3s;try simp only[Q] at h3p
   exfalso;omega;try simp only[Q] at h3p
   refine sq ?_ ?_<;>intro h4 h4p h4s;try simp only[Q] at h4p
   refine bu [] [] st28 ?_;refine so ty28 ?_;refine ev ?_;refine rn0 (.cons (.cellA ty28 rfl rfl rfl) (.cons (.tmp rfl) .nil)) (.tup (.cons (.agg (.cons (.eqd ?_) (.cons (.eqd ?_) (.cons (.eqd ?_) (.cons (.eqd ?_) (.cons (.eqd ?_) (.cons (.nild ?_) .nil))))))) (.cons (.eqd ?_) .nil)));rotate_left 7;try simp only[Q] at h4p
   exfalso;omega;all_goals (rfl)
theorem zre {f:Ty→Pat→Pat→List Pat}{c:Int}{ts:List Ty}{xs bs front:List Pat}{i:Nat} (h1:i<ts.length) (h2:i<xs.length) (h3:i<bs.length) (h:(zan 11 (nth xs i) (nth bs i)).isSome=true):
  zaR f c (ts.drop i) (xs.drop i) (bs.drop i) front=(f (nth ts i) (nth xs i) (nth bs i)).map (fun z=>zaY c (front++[z]++xs.drop (i+1)))++zaR f c (ts.drop (i+1)) (xs.drop (i+1)) (bs.drop (i+1)) (front++[zdU 11 (nth xs i) (nth bs i)]):=by
 rw[zjt h];exact zlP h1 h2 h3 h
theorem zvr (c:Int) (L:List Pat):Pat.cc (zaY c L)=[D.i 4,D.i c,D.i 0,D.i 0,D.i 0,D.sl (L.map Pat.cc)]:=by
 show [D.i 4,D.i c,D.i 0,D.i 0,D.i 0,D.sl (Pat.cs L)]=_
 rw[xat]
section
variable {w:List Data}
abbrev MinusSp (w:List Data) (n:Nat) (ta tk:Int) (a b:Pat):Prop:=
 FnD Tryz.prog 100 [.d (zam w),.agg [.d (.i ta),.d (.i tk)],.agg [.d (.i (a).op),.d (.i (a).ctor),.d (.i (a).n),.d (.i (a).m),.d (.i (a).var),.d (zad (a).kids)],.agg [.d (.i (b).op),.d (.i (b).ctor),.d (.i (b).n),.d (.i (b).m),.d (.i (b).var),.d (zad (b).kids)]] [] (.d (zad (zas w n ⟨ta,tk⟩ a b))) []
theorem zoI (hs:Spa w){n m:Nat} (hn:n+1≤10) (hm:m+1≤11) (hnm:n<m)
  (ih:∀ {ta tk:Int}{a b:Pat},InS (w.length*4) ⟨ta,tk⟩→zac w m ⟨ta,tk⟩ a=true→zac w n ⟨ta,tk⟩ b=true→MinusSp w n ta tk a b)
  {ta tk:Int}{a b:Pat} (ht:InS (w.length*4) ⟨ta,tk⟩) (ha:zac w (m+1) ⟨ta,tk⟩ a=true) (hb:zac w (n+1) ⟨ta,tk⟩ b=true) (h4:a.op=4) (h4b:b.op=4) (hc:a.ctor=b.ctor):
  FnD Tryz.prog 157 [.d (zam w),.agg [.d (.i ta),.d (.i tk)],.agg [.d (.i (a).op),.d (.i (a).ctor),.d (.i (a).n),.d (.i (a).m),.d (.i (a).var),.d (zad (a).kids)],.agg [.d (.i (b).op),.d (.i (b).ctor),.d (.i (b).n),.d (.i (b).m),.d (.i (b).var),.d (zad (b).kids)]] [] (.d (zad (zas w (n+1) ⟨ta,tk⟩ a b))) []:=by
 obtain⟨c1,c2,c3,-⟩:=zaw ha h4;obtain⟨d1,d2,d3,-⟩:=zaw hb h4b;rw[←hc] at d3;have h3l:=hs.args ⟨ta,tk⟩ a.ctor ht c1;have ka:=fun i (hi:i<a.kids.length)=>zaH ha hi;have kb:=fun i (hi:i<b.kids.length)=>zaH hb hi;rw[zaU h4] at ka;rw[zaU h4b,←hc] at kb;have hbd:=zgf hs (n:=n+1) (m:=m+1) (by omega) hn ht ha hb;have e:zas w (n+1) ⟨ta,tk⟩ a b=zaR (zas w n) a.ctor (zaa w ⟨ta,tk⟩ a.ctor) a.kids b.kids []:=by rw[zcX h4b h4];exact if_pos hc
 have hins:=fun i (hi:i<(zaa w ⟨ta,tk⟩ a.ctor).length)=>zbn hs.dp ht c1 _ (zaf hi);have hmi:∀i,i<(zaa w ⟨ta,tk⟩ a.ctor).length→FnD Tryz.prog 100 [.d (zam w),.agg [.d (.i (nth (zaa w ⟨ta,tk⟩ a.ctor) i).data),.d (.i (nth (zaa w ⟨ta,tk⟩ a.ctor) i).index)],.agg [.d (.i (nth a.kids i).op),.d (.i (nth a.kids i).ctor),.d (.i (nth a.kids i).n),.d (.i (nth a.kids i).m),.d (.i (nth a.kids i).var),.d (zad (nth a.kids i).kids)],.agg [.d (.i (nth b.kids i).op),.d (.i (nth b.kids i).ctor),.d (.i (nth b.kids i).n),.d (.i (nth b.kids i).m),.d (.i (nth b.kids i).var),.d (zad (nth b.kids i).kids)]] [] (.d (zad (zas w n (nth (zaa w ⟨ta,tk⟩ a.ctor) i) (nth a.kids i) (nth b.kids i)))) []:=fun i hi=>ih (ta:=(nth (zaa w ⟨ta,tk⟩ a.ctor) i).data) (tk:=(nth (zaa w ⟨ta,tk⟩ a.ctor) i).index) (hins i hi) (ka i (by omega)) (kb i (by omega));have hme:=fun i (hi:i<(zaa w ⟨ta,tk⟩ a.ctor).length)=>zgo hs 11 m (t:=nth (zaa w ⟨ta,tk⟩ a.ctor) i) (by omega) (hins i hi) (ka i (by omega)) (zdd (by omega) (kb i (by omega)));rw[e] at hbd ⊢;have hT:∀i out front,i<(zaa w ⟨ta,tk⟩ a.ctor).length→out++zaR (zas w n) a.ctor ((zaa w ⟨ta,tk⟩ a.ctor).drop i) (a.kids.drop i) (b.kids.drop i) front=zaR (zas w n) a.ctor (zaa w ⟨ta,tk⟩ a.ctor) a.kids b.kids []→
   out.length+(zas w n (nth (zaa w ⟨ta,tk⟩ a.ctor) i) (nth a.kids i) (nth b.kids i)).length≤20000000:=fun i out front hi h=>by
  rw[zif hi (by omega) (by omega)] at h;have:=congrArg List.length h;simp only[xaa,xac] at this;omega
 refine bd Tryz.f157 100 [] [] fun w0 F0 own kept hk=>?_;refine bx 3005 ?_;refine bx 3006 ?_;refine bx 3007 ?_;refine ev ?_;refine xbh 9 sl26 .none rfl rfl ?_;refine ev ?_;refine wc zgD (zck hs.dp.wt (zb3 ht) c1) rfl rfl ?_;refine ev ?_;refine xbh 8 sl26 .none rfl rfl ?_;refine ev ?_;refine xaj (ι:=Nat×List Pat×List Pat) hk (fun s=>[(12,.d (.i (s.1:Int))),(9,.gl 9 (s.2.1.map Pat.cc)),(11,.gl 8 (s.2.2.map Pat.cc))]) [8,13,14,15,16,17,25,26,27,28,29,30,31,32,33,34,35,36,37,38,39,40,41,42,43,44,45,46,47,48,49,50,51,52,53,54,55,56,57,58,59,60,61,62,63,64,65,66,67,68,69,70,71,72,73,74,75,76,77,78,79,80,81,82,83,84,85,86,87,88,89,90,91,92,93,94,95,96,97,98] (fun s=>[(9,some (.tok ((s.2.1.map Pat.cc)).length 6)),(8,some (.tok ((s.2.2.map Pat.cc)).length 6))]) (fun s=>s.1≤a.kids.length∧s.2.2.length=s.1∧s.2.1++zaR (zas w n) a.ctor ((zaa w ⟨ta,tk⟩ a.ctor).drop s.1) (a.kids.drop s.1) (b.kids.drop s.1) s.2.2=zaR (zas w n) a.ctor (zaa w ⟨ta,tk⟩ a.ctor) a.kids b.kids []) (fun s=>a.kids.length-s.1) (0,[],[]) ⟨by simp,rfl,rfl⟩ ⟨⟨_,rfl,xap ?_⟩,⟨⟨_,rfl,LeA.glg ?_⟩,⟨⟨_,rfl,LeA.glg ?_⟩,trivial⟩⟩⟩ ⟨zab ?_,⟨zab ?_,trivial⟩⟩ (fun x=>rfl) (fun s hg1=>?_);iterate 5 focus (rfl)
 refine evc [] [] ?_;refine sq ?_ ?_<;>intro h1 h1p h1s;try simp only[Q,Pat.cs_len] at h1p
 refine xaT zaZ .none rfl rfl rfl rfl (zav (by omega)) rfl ?_;refine evd [] [] ?_;refine xaT sl26 .none rfl rfl rfl rfl (zaD (by omega)) rfl ?_;refine evd [] [] ?_;refine xaT sl26 .none rfl rfl rfl rfl (zaD (by omega)) rfl ?_;refine evd [] [] ?_;refine wc zqs (hmi s.1 (by omega)) rfl rfl ?_;refine evd [] [] ?_;refine dr ?_;refine xaj (ι:=List (Pat)×List (Pat)) hk (fun x=>[(14,.d (.i (x.1.length:Int))),(9,.gl 9 ((s.2.1++x.1.map (fun z=>zaY a.ctor (s.2.2++[z]++a.kids.drop (s.1+1)))).map Pat.cc))]) [15,47,48,49,50,51,52,53,54,55,56,57,58,59,60,61,62,63,64,65,66,67,68,69,70,71,72,73,74,75,76,77] (fun x=>[(9,some (.tok (((s.2.1++x.1.map (fun z=>zaY a.ctor (s.2.2++[z]++a.kids.drop (s.1+1)))).map Pat.cc)).length 6))]) (fun x=>x.1++x.2=(zas w n (nth (zaa w ⟨ta,tk⟩ a.ctor) s.1) (nth a.kids s.1) (nth b.kids s.1))) (fun x=>x.2.length) ([],(zas w n (nth (zaa w ⟨ta,tk⟩ a.ctor) s.1) (nth a.kids s.1) (nth b.kids s.1))) (by simp) ⟨⟨_,rfl,xap ?_⟩,⟨⟨_,rfl,LeA.glg ?_⟩,trivial⟩⟩ ⟨zab ?_,trivial⟩ (fun x=>rfl) (fun x hg2=>?_);iterate 3 focus ((simp;done))
 obtain⟨pre,rest⟩:=x;dsimp only at hg2 ⊢;refine evc [] [] ?_;refine sq ?_ ?_<;>intro h2 h2p h2s;try simp only[Q,Pat.cs_len] at h2p
 rcases rest with _|⟨y,rest⟩
 ·exfalso;simp_all
 refine xbh 7 sl26 .none rfl rfl ?_;refine evd [] [] ?_;refine ap sl26 zz28 rfl rfl rfl (by intro x hx;exact zhw _ x hx) (by(simp[Pat.cs_len];omega)) ?_;refine evd [] [] ?_;refine xaT sl26 .none rfl rfl rfl rfl (Pat.cs_at' hg2) rfl ?_;refine evd [] [] ?_;refine si [0] [_] sl26 tz28 ?_;refine ap sl26 zz28 rfl rfl rfl (by intro x hx;(simp at hx;subst hx;rfl)) (by(have h9:=hT s.1 s.2.1 s.2.2 (by omega) hg1.2.2;have h8:=congrArg List.length hg2;simp[Pat.cs_len] at h8 ⊢;omega)) ?_;refine bu [0,1,5] [_,_,_] st28 ?_;refine ab 3015 tz28 ?_;refine so ty28 ?_;refine dr ?_;refine ar ?_ (by(constructor<;>omega));refine xaO (b:=s.1+1) sl26 .none rfl rfl rfl (by intro x hx;exact zbN _ x hx) rfl rfl (by simp only[Pat.cs_len];omega) ?_;refine ap sl26 zz28 rfl rfl rfl (by intro x hx;exact zbN _ x (List.mem_of_mem_drop hx)) (by(have h9:=hT s.1 s.2.1 s.2.2 (by omega) hg1.2.2;have h8:=congrArg List.length hg2;simp[Pat.cs_len] at h8 ⊢;omega)) ?_;refine evd [] [] ?_;refine so ty26 ?_;refine dr ?_;refine si [0] [_] sl26 tz28 ?_;refine ap sl26 zz28 rfl rfl rfl (by intro x hx;(simp at hx;subst hx;rfl)) (by(have h9:=hT s.1 s.2.1 s.2.2 (by omega) hg1.2.2;have h8:=congrArg List.length hg2;simp[Pat.cs_len] at h8 ⊢;omega)) ?_;refine ev ?_;refine ar ?_ (by(have h9:=hT s.1 s.2.1 s.2.2 (by omega) hg1.2.2;have h8:=congrArg List.length hg2;simp only[xaa,xab] at h8;constructor<;>omega));refine Exists.intro ((pre++[y],rest)) ⟨(by have hz:=hg2;rw[←hz];simp),(by simp),sx ⟨⟨_,rfl,xap ?_⟩,⟨⟨_,rfl,LeA.glg ?_⟩,trivial⟩⟩ ⟨zab ?_,trivial⟩⟩;iterate 3 focus (first|(simp;done)|(simp only[xaf,List.append_assoc,xae,List.map_nil,zvr,xat a.kids,List.map_drop,List.nil_append,xag];done)|(simp;omega))
 try simp only[Q,Pat.cs_len] at h2p
 have hrest:rest=[]:=by
  rcases rest with _|⟨a,b⟩
  ·rfl
  ·exfalso;have hz:=congrArg List.length (hg2);simp only[xaa,xab,xac] at hz;omega
 subst hrest;refine xaT sl26 .none rfl rfl rfl rfl (zaD (by omega)) rfl ?_;refine evd [] [] ?_;refine xaT sl26 .none rfl rfl rfl rfl (zaD (by omega)) rfl ?_;refine evd [] [] ?_;refine wc zp8 (hme s.1 (by omega)) rfl rfl ?_;refine evd [] [] ?_;refine ab 3016 tz28 ?_;refine so ty28 ?_;refine evd [] [] ?_;refine dr ?_;refine sq ?_ ?_<;>intro h3 h3p h3s;try simp only[Q,Pat.cs_len] at h3p
 refine rn0 (r1 rfl) (.gld ?_);rotate_left;try simp only[Q,Pat.cs_len] at h3p
 refine si [0] [_] sl26 tz28 ?_;refine ap sl26 zz28 rfl rfl rfl (by intro x hx;(simp at hx;subst hx;rfl)) (by(have h9:=hT s.1 s.2.1 s.2.2 (by omega) hg1.2.2;have h8:=congrArg List.length hg2;simp[Pat.cs_len] at h8 ⊢;omega)) ?_;refine ev ?_;refine ar ?_ (by(constructor<;>omega));refine Exists.intro ((s.1+1,s.2.1++(zas w n (nth (zaa w ⟨ta,tk⟩ a.ctor) s.1) (nth a.kids s.1) (nth b.kids s.1)).map (fun z=>zaY a.ctor (s.2.2++[z]++a.kids.drop (s.1+1))),s.2.2++[zdU 11 (nth a.kids s.1) (nth b.kids s.1)])) ⟨⟨by dsimp only;omega,by dsimp only;rw[xaa,hg1.2.1];rfl,by dsimp only;rw[List.append_assoc,←zre (by omega) (by omega) (by omega) (by assumption)];exact hg1.2.2⟩,(by dsimp only;omega),sx ⟨⟨_,rfl,xap ?_⟩,⟨⟨_,rfl,LeA.glg ?_⟩,⟨⟨_,rfl,LeA.glg ?_⟩,trivial⟩⟩⟩ ⟨zab ?_,⟨zab ?_,trivial⟩⟩⟩;iterate 5 focus ((simp_all;done))
 try simp only[Q,Pat.cs_len] at h1p
 refine rn0 (r1 rfl) (.gld ?_);rotate_left;all_goals (first|(rw[←hg1.2.2,znn (by omega),List.append_nil,xat];done)|(rw[List.append_nil] at hg2;rw[←hg1.2.2,zlN (by omega) (by omega) (by omega) (by assumption),←hg2,xat];all_goals rfl))
theorem zrC {n:Nat}{ta tk:Int}{a b:Pat} (h:b.op=1):MinusSp w (n+1) ta tk a b:=by
 unfold MinusSp;rw[zfp h];refine bd Tryz.f100 82 [] [] fun w0 F0 own kept hk=>?_;refine bx 3005 ?_;refine bx 3006 ?_;refine bx 3007 ?_;refine ev ?_;refine sq ?_ ?_<;>intro h1 h1p h1s;try simp only[Q] at h1p
 refine xbg sl26 .none rfl ?_;refine ev ?_;refine rn0 (r1 rfl) (.eqd ?_);rotate_left;try simp only[Q] at h1p
 exfalso;omega;all_goals (rfl)
theorem zrD {n:Nat}{ta tk:Int}{a b:Pat} (h:b.op=3) (ha:a.op=1∨a.op=3) (hbn:0≤b.n∧b.n≤9) (hbm:0≤b.m∧b.m≤9):MinusSp w (n+1) ta tk a b:=by
 unfold MinusSp;rw[zhv h];by_cases h1:a.op=1
 ·have e:zd5 a b=zbO 0 (minQ 9 (b.n-1))++zbO (maxQ 0 (b.m+1)) 9:=by
   have e1:lowQ a=0:=if_pos h1;have e2:zcl a=9:=if_pos h1;unfold zd5;rw[e1,e2]
  have hr:=zhX (a:=intQ 0 9) hbn hbm;rw[e];refine bd Tryz.f100 82 [] [] fun w0 F0 own kept hk=>?_;refine bx 3005 ?_;refine bx 3006 ?_;refine bx 3007 ?_;refine ev ?_;refine sq ?_ ?_<;>intro h1 h1p h1s;try simp only[Q] at h1p
  exfalso;omega;try simp only[Q] at h1p
  refine sq ?_ ?_<;>intro h2 h2p h2s;try simp only[Q] at h2p
  refine sq ?_ ?_<;>intro h3 h3p h3s;try simp only[Q] at h3p
  refine bu [0,3] [_,_] st28 ?_;refine ev ?_;refine Walk.call (cr:=[]) zt6 (hr) rfl .none rfl rfl (.cons (.agg (.cons (.refl _) (.cons (.refl _) (.cons (.refl _) (.cons (.refl _) (.cons (.refl _) (.cons .nil .nil))))))) (.cons (.refl _) .nil)) trivial rfl rfl rfl ?_;refine ev ?_;focus (refine rn0 (r1 rfl) (.eqd ?_);all_goals (rfl))
  try simp only[Q] at h3p
  focus (exfalso;first|omega|(simp_all;done))
  try simp only[Q] at h2p
  exfalso;omega
 ·have e:zd5 a b=zbO a.n (minQ a.m (b.n-1))++zbO (maxQ a.n (b.m+1)) a.m:=by
   have e1:lowQ a=a.n:=if_neg h1;have e2:zcl a=a.m:=if_neg h1;unfold zd5;rw[e1,e2]
  have hr:=zhX (a:=a) hbn hbm;rw[e];refine bd Tryz.f100 82 [] [] fun w0 F0 own kept hk=>?_;refine bx 3005 ?_;refine bx 3006 ?_;refine bx 3007 ?_;refine ev ?_;refine sq ?_ ?_<;>intro h1 h1p h1s;try simp only[Q] at h1p
  exfalso;omega;try simp only[Q] at h1p
  refine sq ?_ ?_<;>intro h2 h2p h2s;try simp only[Q] at h2p
  refine sq ?_ ?_<;>intro h3 h3p h3s;try simp only[Q] at h3p
  focus (exfalso;first|omega|(simp_all;done))
  try simp only[Q] at h3p
  refine sq ?_ ?_<;>intro h4 h4p h4s;try simp only[Q] at h4p
  refine wc zt6 (hr) rfl rfl ?_;refine ev ?_;focus (refine rn0 (r1 rfl) (.eqd ?_);all_goals (rfl))
  try simp only[Q] at h4p
  exfalso;omega;try simp only[Q] at h2p
  exfalso;omega
theorem zrG {n:Nat}{ta tk:Int}{a b:Pat} (h4:a.op=4) (h4b:b.op=4) (hc:¬a.ctor=b.ctor):MinusSp w (n+1) ta tk a b:=by
 unfold MinusSp;have e:zas w (n+1) ⟨ta,tk⟩ a b=[a]:=by rw[zcX h4b h4];exact if_neg hc
 rw[e];refine bd Tryz.f100 82 [] [] fun w0 F0 own kept hk=>?_;refine bx 3005 ?_;refine bx 3006 ?_;refine bx 3007 ?_;refine ev ?_;refine sq ?_ ?_<;>intro h1 h1p h1s;try simp only[Q] at h1p
 exfalso;omega;try simp only[Q] at h1p
 refine sq ?_ ?_<;>intro h2 h2p h2s;try simp only[Q] at h2p
 exfalso;omega;try simp only[Q] at h2p
 refine sqF ?_;refine sq ?_ ?_<;>intro h4 h4p h4s;try simp only[Q] at h4p
 exfalso;omega;try simp only[Q] at h4p
 refine sq ?_ ?_<;>intro h5 h5p h5s;try simp only[Q] at h5p
 refine sq ?_ ?_<;>intro h6 h6p h6s;try simp only[Q] at h6p
 refine si [0] [_] sl26 tz28 ?_;refine ev ?_;refine rn0 (r1 rfl) (.eqd ?_);rotate_left;try simp only[Q] at h6p
 focus (exfalso;first|omega|(simp_all;done))
 try simp only[Q] at h5p
 exfalso;omega;all_goals (first|rfl|(cases a;rfl))
theorem zrF (hs:Spa w){n m:Nat} (hn:n+1≤10) (hm:m+1≤11) (hnm:n<m)
  (ih:∀ {ta tk:Int}{a b:Pat},InS (w.length*4) ⟨ta,tk⟩→zac w m ⟨ta,tk⟩ a=true→zac w n ⟨ta,tk⟩ b=true→MinusSp w n ta tk a b)
  {ta tk:Int}{a b:Pat} (ht:InS (w.length*4) ⟨ta,tk⟩) (ha:zac w (m+1) ⟨ta,tk⟩ a=true) (hb:zac w (n+1) ⟨ta,tk⟩ b=true) (h4:a.op=4) (h4b:b.op=4) (hc:a.ctor=b.ctor):MinusSp w (n+1) ta tk a b:=by
 have hki:=zoI hs hn hm hnm ih ht ha hb h4 h4b hc;clear ih;unfold MinusSp;refine bd Tryz.f100 82 [] [] fun w0 F0 own kept hk=>?_;refine bx 3005 ?_;refine bx 3006 ?_;refine bx 3007 ?_;refine ev ?_;refine sq ?_ ?_<;>intro h1 h1p h1s;try simp only[Q] at h1p
 exfalso;omega;try simp only[Q] at h1p
 refine sq ?_ ?_<;>intro h2 h2p h2s;try simp only[Q] at h2p
 exfalso;omega;try simp only[Q] at h2p
 refine sqF ?_;refine sq ?_ ?_<;>intro h4 h4p h4s;try simp only[Q] at h4p
 exfalso;omega;try simp only[Q] at h4p
 refine sq ?_ ?_<;>intro h5 h5p h5s;try simp only[Q] at h5p
 refine sq ?_ ?_<;>intro h6 h6p h6s;try simp only[Q] at h6p
 focus (exfalso;first|omega|(simp_all;done))
 try simp only[Q] at h6p
 refine sq ?_ ?_<;>intro h7 h7p h7s;try simp only[Q] at h7p
 refine wc zxI (hki) rfl rfl ?_;refine ev ?_;focus (refine rn0 (r1 rfl) (.eqd ?_);all_goals (rfl))
 try simp only[Q] at h7p
 exfalso;omega;try simp only[Q] at h5p
 exfalso;omega
theorem zrE (hs:Spa w){n:Nat}{ta tk:Int}{a b:Pat} (ht:InS (w.length*4) ⟨ta,tk⟩) (h1:a.op=1) (h4b:b.op=4) (hbd:(zas w (n+1) ⟨ta,tk⟩ a b).length≤20000000)
  (hC:∀c∈zah w ⟨ta,tk⟩,MinusSp w (n+1) ta tk (zbI w ⟨ta,tk⟩ c) b):MinusSp w (n+1) ta tk a b:=by
 have e:zas w (n+1) ⟨ta,tk⟩ a b=(zah w ⟨ta,tk⟩).flatMap fun c=>zas w (n+1) ⟨ta,tk⟩ (zbI w ⟨ta,tk⟩ c) b:=by
  rw[zge h4b h1];exact congrArg (fun g=>(zah w ⟨ta,tk⟩).flatMap g) (funext fun c=>(zcX h4b rfl).symm)
 unfold MinusSp;rw[e] at hbd ⊢;have hcl:=(hs.ctors _ ht).1;have hpre:∀ {pre rest:List Int}{y:Int},pre++y::rest=zah w ⟨ta,tk⟩→(pre.flatMap fun c=>zas w (n+1) ⟨ta,tk⟩ (zbI w ⟨ta,tk⟩ c) b).length+(zas w (n+1) ⟨ta,tk⟩ (zbI w ⟨ta,tk⟩ y) b).length≤20000000:=fun h=>by
  rw[←h,List.flatMap_append,List.flatMap_cons] at hbd;simp only[xaa] at hbd;omega
 have hmem:∀ {pre rest:List Int}{y:Int},pre++y::rest=zah w ⟨ta,tk⟩→y∈zah w ⟨ta,tk⟩:=fun h=>by rw[←h];simp
 refine bd Tryz.f100 82 [] [] fun w0 F0 own kept hk=>?_;refine bx 3005 ?_;refine bx 3006 ?_;refine bx 3007 ?_;refine ev ?_;refine sq ?_ ?_<;>intro h1 h1p h1s;try simp only[Q,Pat.cs_len] at h1p
 exfalso;omega;try simp only[Q,Pat.cs_len] at h1p
 refine sq ?_ ?_<;>intro h2 h2p h2s;try simp only[Q,Pat.cs_len] at h2p
 exfalso;omega;try simp only[Q,Pat.cs_len] at h2p
 refine sqF ?_;refine sq ?_ ?_<;>intro h4 h4p h4s;try simp only[Q,Pat.cs_len] at h4p
 exfalso;omega;try simp only[Q,Pat.cs_len] at h4p
 refine sq ?_ ?_<;>intro h5 h5p h5s;try simp only[Q,Pat.cs_len] at h5p
 exfalso;omega;try simp only[Q,Pat.cs_len] at h5p
 refine sqF ?_;refine sq ?_ ?_<;>intro h7 h7p h7s;try simp only[Q,Pat.cs_len] at h7p
 exfalso;omega;try simp only[Q,Pat.cs_len] at h7p
 refine xbh 9 sl26 .none rfl rfl ?_;refine ev ?_;refine wc zh6 (zb8 hs.dp.wt (zb3 ht)) rfl rfl ?_;refine ev ?_;refine xaj (ι:=List (Int)×List (Int)) hk (fun x=>[(11,.d (.i (x.1.length:Int))),(9,.gl 9 (Pat.cs (x.1.flatMap fun c=>zas w (n+1) ⟨ta,tk⟩ (zbI w ⟨ta,tk⟩ c) b)))]) [62,63,64,65,66,67,68,69,70,71,72,73,74,75,76,77,78,79,80] (fun x=>[(9,some (.tok ((Pat.cs (x.1.flatMap fun c=>zas w (n+1) ⟨ta,tk⟩ (zbI w ⟨ta,tk⟩ c) b))).length 6))]) (fun x=>x.1++x.2=zah w ⟨ta,tk⟩) (fun x=>x.2.length) ([],zah w ⟨ta,tk⟩) (by simp) ⟨⟨_,rfl,xap ?_⟩,⟨⟨_,rfl,LeA.glg ?_⟩,trivial⟩⟩ ⟨zab ?_,trivial⟩ (fun x=>rfl) (fun x hg1=>?_);iterate 3 focus (rfl)
 obtain⟨pre,rest⟩:=x;dsimp only at hg1 ⊢;refine evc [] [] ?_;refine sq ?_ ?_<;>intro h8 h8p h8s;try simp only[Q,Pat.cs_len] at h8p
 rcases rest with _|⟨y,rest⟩
 ·exfalso;simp_all
 refine xaT sl62 .none rfl rfl rfl rfl (zaK hg1) rfl ?_;refine evd [] [] ?_;refine wc zxJ (zp1 hs.dp.wt (zb3 ht) (hmem hg1) (hs.args _ _ ht (hmem hg1))) rfl rfl ?_;refine evd [] [] ?_;refine wc zqs (hC y (hmem hg1)) rfl rfl ?_;refine ap sl26 zz28 rfl rfl rfl (by exact zbN _) (by have h9:=hpre hg1;simp only[Pat.cs_len];omega) ?_;refine evd [] [] ?_;refine dr ?_;refine ar ?_;refine Exists.intro ((pre++[y],rest)) ⟨(by have hz:=hg1;rw[←hz];simp),(by simp),sx ⟨⟨_,rfl,xap ?_⟩,⟨⟨_,rfl,LeA.glg ?_⟩,trivial⟩⟩ ⟨zab ?_,trivial⟩⟩;iterate 3 focus (first|(rw[List.flatMap_append,xat,xat,xat,xaf];simp;done)|(simp[Pat.cs_len];done))
 try simp only[Q,Pat.cs_len] at h8p
 have hrest:rest=[]:=by
  rcases rest with _|⟨a,b⟩
  ·rfl
  ·exfalso;have hz:=congrArg List.length (hg1);simp only[xaa,xab,xac] at hz;omega
 subst hrest;refine rn0 (r1 rfl) (.gld ?_);rotate_left;all_goals ((rw[List.append_nil] at hg1;rw[hg1];done))
theorem zio (hs:Spa w):∀(n m:Nat){ta tk:Int}{a b:Pat},n<m→n≤10→m≤11→InS (w.length*4) ⟨ta,tk⟩→zac w m ⟨ta,tk⟩ a=true→zac w n ⟨ta,tk⟩ b=true→MinusSp w n ta tk a b
 |0,m,ta,tk,a,b,_,_,_,_,_,hb=>by simp[zac] at hb
 |n+1,0,ta,tk,a,b,h,_,_,_,_,_=>by omega
 |n+1,m+1,ta,tk,a,b,h,hn,hm,ht,ha,hb=>by
  have hC:∀ {a:Pat},zac w (m+1) ⟨ta,tk⟩ a=true→a.op=4→b.op=4→MinusSp w (n+1) ta tk a b:=fun {a} ha h4 h4b=>by
   by_cases hc:a.ctor=b.ctor
   ·exact zrF hs hn hm (by omega) (fun h1 h2 h3=>zio hs n m (by omega) (by omega) (by omega) h1 h2 h3) ht ha hb h4 h4b hc
   ·exact zrG h4 h4b hc
  rcases zbh hb with h1|h3|h4b
  ·exact zrC h1
  ·have:=zbC hb h3;refine zrD h3 ?_ ⟨by omega,by omega⟩ ⟨by omega,by omega⟩;by_cases h1:a.op=1
   ·exact .inl h1
   ·exact .inr (by have:=zbW ha hb h1 (by omega);omega)
  ·by_cases h1:a.op=1
   ·obtain⟨m',rfl⟩:∃m',m=m'+1:=⟨m-1,by omega⟩;exact zrE hs ht h1 h4b (zgf hs h hn ht ha hb) (fun c hc=>hC (zcw hc) rfl h4b)
   ·exact hC ha (by have:=zbW ha hb h1 (by omega);omega) h4b
end
def znc (w:List Data) (t:Ty) (b a:Pat):List Pat:=(zas w 10 t a b).filter (zbk w t)
def zgx (w:List Data) (t:Ty) (l:List Pat) (b:Pat) (k:Nat):List Pat:=(l.take k).flatMap (znc w t b)
theorem znr {w:List Data}{t:Ty}{l:List Pat}{b:Pat}:zbQ w t l b=l.flatMap (znc w t b):=by
 unfold zbQ;induction l with
 |nil=>rfl
 |cons x r ih=>rw[List.flatMap_cons,List.filter_append,List.flatMap_cons,ih];rfl
theorem zfr {w:List Data}{t:Ty}{l:List Pat}{b:Pat}{k:Nat} (h:l.length≤k):zgx w t l b k=zbQ w t l b:=by
 rw[znr,zgx,List.take_of_length_le h]
theorem zns {w:List Data}{t:Ty}{l:List Pat}{b:Pat}{k:Nat} (h:k<l.length):zgx w t l b (k+1)=zgx w t l b k++znc w t b (nth l k):=by
 unfold zgx;have e:l[k]?=some (nth l k):=by simpa using zav (f:=id) h
 rw[List.take_add_one,e,List.flatMap_append];simp
theorem zvK {w:List Data}{t:Ty}{l:List Pat}{b:Pat} (k:Nat):(zgx w t l b k).length≤(zbQ w t l b).length:=by
 rw[znr,zgx];conv=>rhs;rw[←List.take_append_drop k l,List.flatMap_append]
 rw[xaa];omega
theorem zin {w:List Data} (hs:Spa w):∀(n:Nat){ta tk:Int}{p:Pat},InS (w.length*4) ⟨ta,tk⟩→zac w n ⟨ta,tk⟩ p=true→
  FnD Tryz.prog 155 [.d (zam w),.d (zeX (w.length*4) (zai w)),.agg [.d (.i ta),.d (.i tk)],.agg [.d (.i (p).op),.d (.i (p).ctor),.d (.i (p).n),.d (.i (p).m),.d (.i (p).var),.d (zad (p).kids)]] [] (.d (.bool (!zaX w (zai w) n ⟨ta,tk⟩ p))) []
 |0,ta,tk,p,_,h=>by simp[zac] at h
 |n+1,ta,tk,p,ht,h=>by
  have hdp:=zeh (f:=zai w) ht (by have:=hs.dp.four;omega);by_cases h1:p.op=1
  ·rw[zfi h1];refine bd Tryz.f155 45 [] [] fun w0 F0 own kept hk=>?_;refine bx 3006 ?_;refine bx 3007 ?_;refine ev ?_;refine sq ?_ ?_<;>intro h1 h1p h1s;try simp only[Q] at h1p
   refine wc zj6 (hdp) rfl rfl ?_;refine ev ?_;refine rn0 (r1 rfl) (.eqd ?_);rotate_left;try simp only[Q] at h1p
   exfalso;omega;all_goals (refine congrArg D.bool ?_;rw[Bool.eq_iff_iff];simp;omega)
  by_cases h3:p.op=3
  ·rw[zlf h h3];refine bd Tryz.f155 45 [] [] fun w0 F0 own kept hk=>?_;refine bx 3006 ?_;refine bx 3007 ?_;refine ev ?_;refine sq ?_ ?_<;>intro h1 h1p h1s;try simp only[Q] at h1p
   exfalso;omega;try simp only[Q] at h1p
   refine sq ?_ ?_<;>intro h2 h2p h2s;try simp only[Q] at h2p
   refine rn0 (r1 rfl) (.eqd ?_);rotate_left;try simp only[Q] at h2p
   exfalso;omega;all_goals (rfl)
  have h4:p.op=4:=by have:=zbh h;omega
  obtain⟨c1,c2,c3,-⟩:=zaw h h4;have h3l:=hs.args ⟨ta,tk⟩ p.ctor ht c1;have hk:=fun i (hi:i<p.kids.length)=>zaH h hi;rw[zaU h4] at hk;rw[ziK h4,Bool.not_not];have ih:=fun i (hi:i<p.kids.length)=>zin hs n (ta:=(nth (zaa w ⟨ta,tk⟩ p.ctor) i).data) (tk:=(nth (zaa w ⟨ta,tk⟩ p.ctor) i).index) (p:=nth p.kids i) (zbn hs.dp ht c1 _ (zaf (by omega))) (hk i hi);refine bd Tryz.f155 45 [] [] fun w0 F0 own kept hk=>?_;refine bx 3006 ?_;refine bx 3007 ?_;refine ev ?_;refine sq ?_ ?_<;>intro h1 h1p h1s;try simp only[Q,Pat.cs_len] at h1p
  exfalso;omega;try simp only[Q,Pat.cs_len] at h1p
  refine sq ?_ ?_<;>intro h2 h2p h2s;try simp only[Q,Pat.cs_len] at h2p
  exfalso;omega;try simp only[Q,Pat.cs_len] at h2p
  refine wc zgD (zck hs.dp.wt (zb3 ht) c1) rfl rfl ?_;refine ev ?_;refine xaj (ι:=Nat) hk (fun i=>[(10,.d (.i (i:Int)))]) [8,26,27,28,29,30,31,32,33,34,35,36,37,38,39,40,41,42,43,44] (fun i=>[]) (fun i=>i≤(zaa w ⟨ta,tk⟩ p.ctor).length∧∀i',i'<i→(!zaX w (zai w) n (nth (zaa w ⟨ta,tk⟩ p.ctor) i') (nth p.kids i'))=true) (fun i=>(zaa w ⟨ta,tk⟩ p.ctor).length-i) 0 ⟨by omega,fun _ h=>absurd h (by omega)⟩ ⟨⟨_,rfl,xap ?_⟩,trivial⟩ trivial (fun x=>rfl) (fun i hg1=>?_);focus (rfl)
  refine evc [] [] ?_;refine sq ?_ ?_<;>intro h3 h3p h3s;try simp only[Q,Pat.cs_len] at h3p
  refine xaT zaZ .none rfl rfl rfl rfl (zav (by omega)) rfl ?_;refine evd [] [] ?_;refine xaT sl26 .none rfl rfl rfl rfl (zaD (by omega)) rfl ?_;refine evd [] [] ?_;refine wc zt5 (ih i (by omega)) rfl rfl ?_;refine evd [] [] ?_;refine dr ?_;refine sq ?_ ?_<;>intro h4 h4p h4s;try simp only[Q,Pat.cs_len] at h4p
  refine rn0 (r1 rfl) (.eqd ?_);rotate_left;try simp only[Q,Pat.cs_len] at h4p
  refine ar ?_;refine Exists.intro (i+1) ⟨⟨by omega,zbd hg1.2 (by(simp;assumption))⟩,(by omega),sx ⟨⟨_,rfl,xap ?_⟩,trivial⟩ trivial⟩;focus (rfl)
  try simp only[Q,Pat.cs_len] at h3p
  refine rn0 (r1 rfl) (.eqd ?_);rotate_left;all_goals (refine congrArg D.bool ?_;first|(rw[zb4 (i:=i) (by omega) (by omega) (by first|assumption|(simp;assumption)|(simp_all;done))];done)|(rw[zci (by omega) (fun x hx=>hg1.2 x (by omega))];done))
theorem zi1 {w:List Data} (hs:Spa w){ta tk:Int} (ht:InS (w.length*4) ⟨ta,tk⟩){l:List Pat} (hl:∀a∈l,zac w 11 ⟨ta,tk⟩ a=true) (hb:l.length≤20000000):
  FnD Tryz.prog 99 [.d (zam w),.d (zeX (w.length*4) (zai w)),.agg [.d (.i ta),.d (.i tk)],.d (zad l)] [] (.d (zad (l.filter (zbk w ⟨ta,tk⟩)))) []:=by
 have hal:∀a∈l,FnD Tryz.prog 155 [.d (zam w),.d (zeX (w.length*4) (zai w)),.agg [.d (.i ta),.d (.i tk)],.agg [.d (.i (a).op),.d (.i (a).ctor),.d (.i (a).n),.d (.i (a).m),.d (.i (a).var),.d (zad (a).kids)]] [] (.d (.bool (zbk w ⟨ta,tk⟩ a))) []:=fun a ha=>zin hs 11 ht (hl a ha);have hle:∀ {pre rest:List Pat}{y:Pat},pre++y::rest=l→(pre.filter (zbk w ⟨ta,tk⟩)).length+1≤l.length:=fun {pre rest y} h=>by
  have h1:=List.length_filter_le (zbk w ⟨ta,tk⟩) pre;have h2:=congrArg List.length h;simp only[xaa,xab] at h2;omega
 refine bd Tryz.f99 34 [] [] fun w0 F0 own kept hk=>?_;refine bx 3006 ?_;refine ev ?_;refine xbh 9 sl26 .none rfl rfl ?_;refine ev ?_;refine xaj (ι:=List (Pat)×List (Pat)) hk (fun x=>[(10,.d (.i (x.1.length:Int))),(9,.gl 9 (Pat.cs (x.1.filter (zbk w ⟨ta,tk⟩))))]) [12,13,14,15,16,17,18,19,20,21,22,23,24,25,26,27,28,29,30,31,32] (fun x=>[(9,some (.tok ((Pat.cs (x.1.filter (zbk w ⟨ta,tk⟩)))).length 6))]) (fun x=>x.1++x.2=l) (fun x=>x.2.length) ([],l) (by simp) ⟨⟨_,rfl,xap ?_⟩,⟨⟨_,rfl,LeA.glg ?_⟩,trivial⟩⟩ ⟨zab ?_,trivial⟩ (fun x=>rfl) (fun x hg1=>?_);iterate 3 focus (rfl)
 obtain⟨pre,rest⟩:=x;dsimp only at hg1 ⊢;refine evc [] [] ?_;refine sq ?_ ?_<;>intro h1 h1p h1s;try simp only[Q,Pat.cs_len] at h1p
 rcases rest with _|⟨y,rest⟩
 ·exfalso;simp_all
 refine xaT sl26 .none rfl rfl rfl rfl (Pat.cs_at' hg1) rfl ?_;refine evd [] [] ?_;refine wc zt5 (hal y (by rw[←hg1];simp)) rfl rfl ?_;refine dr ?_;refine sq ?_ ?_<;>intro h2 h2p h2s;try simp only[Q,Pat.cs_len] at h2p
 refine xaT sl26 .none rfl rfl rfl rfl (Pat.cs_at' hg1) rfl ?_;refine ev ?_;refine si [0] [_] sl26 tz28 ?_;refine ap sl26 zz28 rfl rfl rfl (by intro x hx;simp at hx;subst hx;rfl) (by have h9:=hle hg1;simp[Pat.cs_len];omega) ?_;refine ev ?_;refine ar ?_;refine Exists.intro ((pre++[y],rest)) ⟨(by have hz:=hg1;rw[←hz];simp),(by simp),sx ⟨⟨_,rfl,xap ?_⟩,⟨⟨_,rfl,LeA.glg ?_⟩,trivial⟩⟩ ⟨zab ?_,trivial⟩⟩;iterate 3 focus (first|(dsimp only;rw[List.filter_append,List.filter_cons_of_pos (by assumption),List.filter_nil,xat (List.filter _ _),xat (_++_),xaf];rfl)|(dsimp only;rw[List.filter_append,List.filter_cons_of_pos (by assumption),List.filter_nil];simp[Pat.cs_len];done)|(simp;done))
 try simp only[Q,Pat.cs_len] at h2p
 refine ar ?_;refine Exists.intro ((pre++[y],rest)) ⟨(by have hz:=hg1;rw[←hz];simp),(by simp),sx ⟨⟨_,rfl,xap ?_⟩,⟨⟨_,rfl,LeA.glg ?_⟩,trivial⟩⟩ ⟨zab ?_,trivial⟩⟩;iterate 3 focus (first|(dsimp only;rw[List.filter_append,List.filter_cons_of_neg (by simp_all),List.filter_nil,List.append_nil];done)|(simp;done))
 try simp only[Q,Pat.cs_len] at h1p
 have hrest:rest=[]:=by
  rcases rest with _|⟨a,b⟩
  ·rfl
  ·exfalso;have hz:=congrArg List.length (hg1);simp only[xaa,xab,xac] at hz;omega
 subst hrest;refine rn0 (r1 rfl) (.gld ?_);rotate_left;all_goals ((rw[List.append_nil] at hg1;rw[hg1];done))
theorem zk0 {w:List Data} (hs:Spa w){ta tk:Int} (ht:InS (w.length*4) ⟨ta,tk⟩){l away:List Pat} (hl:∀a∈l,zac w 11 ⟨ta,tk⟩ a=true) (hb:∀b∈away,zac w 10 ⟨ta,tk⟩ b=true) (hll:l.length≤400) (hal:away.length≤2000):
  FnD Tryz.prog 54 [.d (zam w),.d (zeX (w.length*4) (zai w)),.agg [.d (.i ta),.d (.i tk)],.d (zad l),.d (zad away)] [] (.tup [.d (zad ((zaT w ⟨ta,tk⟩ l away).getD [])),.d (.bool (zaT w ⟨ta,tk⟩ l away).isSome)]) []:=by
 have hke:=zu9 hs ht hl hb;have hmi:∀(c:List Pat) (i k:Nat),(∀a∈c,zac w 11 ⟨ta,tk⟩ a=true)→i<away.length→k<c.length→(zas w 10 ⟨ta,tk⟩ (nth c k) (nth away i)).length≤20000000:=fun c i k hc hi hk=>zgf hs (by omega) (by omega) ht (hc _ (zaf hk)) (hb _ (zaf hi));have hkb:∀(c:List Pat) (i k:Nat),(∀a∈c,zac w 11 ⟨ta,tk⟩ a=true)→i<away.length→k<c.length→(znc w ⟨ta,tk⟩ (nth away i) (nth c k)).length≤20000000:=fun c i k hc hi hk=>Nat.le_trans (List.length_filter_le _ _) (hmi c i k hc hi hk);rw[←hke];have hno:∀(c:List Pat) (i k:Nat),i<away.length→400<(zgx w ⟨ta,tk⟩ c (nth away i) k).length→subL w ⟨ta,tk⟩ c (away.drop i)=none:=fun c i k hi h=>by
  have:=zvK (w:=w) (t:=⟨ta,tk⟩) (l:=c) (b:=nth away i) k;rw[zgT hi,if_neg (by omega)]
 refine bd Tryz.f54 60 [] [] fun w0 F0 own kept hk=>?_;refine bx 3007 ?_;refine ev ?_;refine xaj (ι:=Nat×List Pat) hk (fun s=>[(12,.d (.i (s.1:Int))),(3,.d (zad s.2))]) [10,11,13,14,15,16,17,18,19,20,21,22,23,24,25,26,27,28,29,30,31,32,33,34,35,36,37,38,39,40,41,42,43,44,45,46,47,48,49,50,51,52,53,54] (fun s=>[]) (fun s=>s.1≤away.length∧subL w ⟨ta,tk⟩ s.2 (away.drop s.1)=subL w ⟨ta,tk⟩ l away∧(∀a∈s.2,zac w 11 ⟨ta,tk⟩ a=true)∧s.2.length≤400) (fun s=>away.length-s.1) (0,l) ⟨by simp,rfl,hl,hll⟩ ⟨⟨_,rfl,xap ?_⟩,⟨⟨_,rfl, ?_⟩,trivial⟩⟩ trivial (fun x=>rfl) (fun s hg1=>?_);focus (rfl)
 focus (exact LeA.refl _)
 refine evc [] [] ?_;refine sq ?_ ?_<;>intro h1 h1p h1s;try simp only[Q,Pat.cs_len] at h1p
 refine xbh 9 sl26 .none rfl rfl ?_;refine ev ?_;refine xaj (ι:=Nat) hk (fun k=>[(14,.d (.i (k:Int))),(13,.gl 9 (Pat.cs (zgx w ⟨ta,tk⟩ s.2 (nth away s.1) k)))]) [22,23,24,25,26,27,28,29,30,31,32,33,34,35,36,37,38,39,40,41,42,43,44,45,46,47,48,49] (fun k=>[(9,some (.tok ((Pat.cs (zgx w ⟨ta,tk⟩ s.2 (nth away s.1) k))).length 6))]) (fun k=>k≤s.2.length) (fun k=>s.2.length-k) 0 (by omega) ⟨⟨_,rfl,xap ?_⟩,⟨⟨_,rfl,LeA.glg ?_⟩,trivial⟩⟩ ⟨zab ?_,trivial⟩ (fun x=>rfl) (fun k hg2=>?_);iterate 3 focus (rfl)
 refine evc [] [] ?_;refine sq ?_ ?_<;>intro h2 h2p h2s;try simp only[Q,Pat.cs_len] at h2p
 refine sq ?_ ?_<;>intro h3 h3p h3s;try simp only[Q,Pat.cs_len] at h3p
 refine xaT sl26 .none rfl rfl rfl rfl (zaD (by omega)) rfl ?_;refine evd [] [] ?_;refine xaT sl26 .none rfl rfl rfl rfl (zaD (by omega)) rfl ?_;refine evd [] [] ?_;refine wc zqs (zio hs 10 11 (by omega) (by omega) (by omega) ht (hg1.2.2.1 _ (zaf (by omega))) (hb _ (zaf (by omega)))) rfl rfl ?_;refine wc zwt (show FnD _ _ _ _ (.d (zad (znc w ⟨ta,tk⟩ (nth away s.1) (nth s.2 k)))) _ from zi1 hs ht (zfN 10 11 (by omega) (hg1.2.2.1 _ (zaf (by omega))) (hb _ (zaf (by omega)))) (hmi s.2 s.1 k hg1.2.2.1 (by omega) (by omega))) rfl rfl ?_;refine ap sl26 zz28 rfl rfl rfl (by exact zbN _) (by have h9:=hkb s.2 s.1 k hg1.2.2.1 (by omega) (by omega);simp only[Pat.cs_len];omega) ?_;refine evd [] [] ?_;refine dr ?_;refine ar ?_;refine Exists.intro (k+1) ⟨(by omega),(by omega),sx ⟨⟨_,rfl,xap ?_⟩,⟨⟨_,rfl,LeA.glg ?_⟩,trivial⟩⟩ ⟨zab ?_,trivial⟩⟩;iterate 3 focus (first|rfl|(rw[zns (by omega),xat,xat,xat,xaf];done)|(rw[zns (by omega)];simp[Pat.cs_len];done))
 try simp only[Q,Pat.cs_len] at h3p
 refine sq ?_ ?_<;>intro h4 h4p h4s;try simp only[Q,Pat.cs_len] at h4p
 refine xbg sl26 .none rfl ?_;refine ev ?_;refine rn0 (r2 rfl rfl) (.tup (.cons (.eqd ?_) (.cons (.eqd ?_) .nil)));rotate_left 2;try simp only[Q,Pat.cs_len] at h4p
 refine ar ?_;refine Exists.intro ((s.1+1,zbQ w ⟨ta,tk⟩ s.2 (nth away s.1))) ⟨(by
    have hk:s.2.length≤k:=by omega
    have h4:(zbQ w ⟨ta,tk⟩ s.2 (nth away s.1)).length≤400:=by rw[←zfr hk];omega
    have e:=zgT (w:=w) (t:=⟨ta,tk⟩) (l:=s.2) (away:=away) (i:=s.1) (by omega);rw[if_pos h4] at e;refine⟨by dsimp only;omega, ?_,zeL hg1.2.2.1 (hb _ (zaf (by omega))),h4⟩;dsimp only;rw[←e];exact hg1.2.1),(by dsimp only;omega),sx ⟨⟨_,rfl,xap ?_⟩,⟨⟨_,rfl, ?_⟩,trivial⟩⟩ trivial⟩
 focus (rfl)
 focus (((first|refine LeA.gld ?_|refine LeA.nild ?_);first|rfl|(rw[zfr (by omega)];done)|(dsimp only;rw[zfr (by omega)];done)|(simp;done)|omega))
 try simp only[Q,Pat.cs_len] at h2p
 refine sqF ?_;refine sq ?_ ?_<;>intro h6 h6p h6s;try simp only[Q,Pat.cs_len] at h6p
 refine xbg sl26 .none rfl ?_;refine ev ?_;refine rn0 (r2 rfl rfl) (.tup (.cons (.eqd ?_) (.cons (.eqd ?_) .nil)));rotate_left 2;try simp only[Q,Pat.cs_len] at h6p
 refine ar ?_;refine Exists.intro ((s.1+1,zbQ w ⟨ta,tk⟩ s.2 (nth away s.1))) ⟨(by
    have hk:s.2.length≤k:=by omega
    have h4:(zbQ w ⟨ta,tk⟩ s.2 (nth away s.1)).length≤400:=by rw[←zfr hk];omega
    have e:=zgT (w:=w) (t:=⟨ta,tk⟩) (l:=s.2) (away:=away) (i:=s.1) (by omega);rw[if_pos h4] at e;refine⟨by dsimp only;omega, ?_,zeL hg1.2.2.1 (hb _ (zaf (by omega))),h4⟩;dsimp only;rw[←e];exact hg1.2.1),(by dsimp only;omega),sx ⟨⟨_,rfl,xap ?_⟩,⟨⟨_,rfl, ?_⟩,trivial⟩⟩ trivial⟩
 focus (rfl)
 focus (((first|refine LeA.gld ?_|refine LeA.nild ?_);first|rfl|(rw[zfr (by omega)];done)|(dsimp only;rw[zfr (by omega)];done)|(simp;done)|omega))
 try simp only[Q,Pat.cs_len] at h1p
 refine wc zwt (zi1 hs ht hg1.2.2.1 (by omega)) rfl rfl ?_;refine ev ?_;refine rn0 (r2 rfl rfl) (.tup (.cons (.eqd ?_) (.cons (.eqd ?_) .nil)));rotate_left 2;all_goals (first|(rw[←hg1.2.1,hno s.2 s.1 k (by omega) (by omega)];rfl)|(rw[←hg1.2.1,zrH (by omega)];rfl))
theorem ziY:∀(n:Nat){p:Pat},p.size≤n→p.ok→FnD Tryz.prog 162 [.agg [.d (.i (p).op),.d (.i (p).ctor),.d (.i (p).n),.d (.i (p).m),.d (.i (p).var),.d (zad (p).kids)]] [] (.agg [.d (.i (p).op),.d (.i (p).ctor),.d (.i (p).n),.d (.i (p).m),.d (.i (p).var),.d (zad (p).kids)]) []
 |0,p,h,_=>by rw[Pat.size_eq] at h;omega
 |n+1,p,h,hok=>by
  rw[Pat.size_eq] at h;rw[Pat.ok_iff] at hok;have hok1:=hok.1;refine bd Tryz.f162 26 [] [] fun w0 F0 own kept hk=>?_;refine bx 3001 ?_;refine ab 3002 tz28 ?_;refine tv ?_;refine ab 3003 tz28 ?_;refine so ty28 ?_;refine tv ?_;refine so ty26 ?_;refine tv ?_;refine xam 3003 5 7 6 rfl rfl rfl rfl ?_;refine xaj (ι:=List (Pat)×List (Pat)) hk (fun x=>[(4,.d (.i (x.1.length:Int)))]) [7,8,9,10,11,12,13,14,15,16,17,18,19,20,21,22,23,24] (fun x=>[(3003,some (.box [.d (.i p.op),.d (.i p.ctor),.d (.i p.n),.d (.i p.m),.d (.i p.var),.gl 7 (x.1.map Pat.cc)])),(7,some (.tok (x.1.map Pat.cc).length 6))]) (fun x=>x.1++x.2=p.kids) (fun x=>x.2.length) ([],p.kids) (by simp) ⟨⟨_,rfl,xap ?_⟩,trivial⟩ ⟨?_,⟨zab ?_,trivial⟩⟩ (fun x=>rfl) (fun x hg1=>?_);focus (rfl)
  focus (first|rfl|(simp[getH];done))
  focus (rfl)
  obtain⟨pre,rest⟩:=x;dsimp only at hg1 ⊢;refine evc [] [] ?_;refine sq ?_ ?_<;>intro h1 h1p h1s;try simp only[Q,Pat.cs_len] at h1p
  rcases rest with _|⟨y,rest⟩
  ·exfalso;simp_all
  refine xaT sl26 .none rfl rfl rfl rfl (Pat.cs_at' hg1) rfl ?_;refine evd [] [] ?_;refine wc zt7 (ziY n (p:=y) (by have:=Pats.size_mem (l:=p.kids) (v:=y) (by rw[←hg1];simp);omega) (Pats.ok_mem hok.2 y (by rw[←hg1];simp))) rfl rfl ?_;refine si [0] [_] sl26 tz28 ?_;refine ap sl26 zz28 rfl rfl rfl (by intro x hx;(simp at hx;subst hx;rfl)) (by have:=congrArg List.length hg1;simp at this;simp;omega) ?_;refine evd [] [] ?_;refine so ty26 ?_;refine dr ?_;refine ar ?_;refine Exists.intro ((pre++[y],rest)) ⟨(by have hz:=hg1;rw[←hz];simp),(by simp),sx ⟨⟨_,rfl,xap ?_⟩,trivial⟩ ⟨?_,⟨zab ?_,trivial⟩⟩⟩;focus ((simp;done))
  focus (first|rfl|(simp[getH];done))
  focus ((simp;done))
  try simp only[Q,Pat.cs_len] at h1p
  have hrest:rest=[]:=by
   rcases rest with _|⟨a,b⟩
   ·rfl
   ·exfalso;have hz:=congrArg List.length (hg1);simp only[xaa,xab,xac] at hz;omega
  subst hrest;refine so ty28 ?_;refine tv ?_;refine rn0 (.cons (.cellA ty28 rfl rfl rfl) .nil) (.agg (.cons (.eqd ?_) (.cons (.eqd ?_) (.cons (.eqd ?_) (.cons (.eqd ?_) (.cons (.eqd ?_) (.cons (.gld ?_) .nil)))))));rotate_left 6;all_goals (first|rfl|(rw[List.append_nil] at hg1;rw[←hg1,xat];done))
theorem zpY {l:List Pat} (h:l.length≤1000000000000) (hok:∀p∈l,p.ok):FnD Tryz.prog 102 [.d (zad l)] [] (.d (zad l)) []:=by
 refine bd Tryz.f102 21 [] [] fun w0 F0 own kept hk=>?_;refine xbh 1 sl26 .none rfl rfl ?_;refine ev ?_;refine xaj (ι:=List (Pat)×List (Pat)) hk (fun x=>[(4,.d (.i (x.1.length:Int))),(3,.gl 1 (x.1.map Pat.cc))]) [6,7,8,9,10,11,12,13,14,15,16,17,18,19] (fun x=>[(1,some (.tok ((x.1.map Pat.cc)).length 6))]) (fun x=>x.1++x.2=l) (fun x=>x.2.length) ([],l) (by simp) ⟨⟨_,rfl,xap ?_⟩,⟨⟨_,rfl,LeA.glg ?_⟩,trivial⟩⟩ ⟨zab ?_,trivial⟩ (fun x=>rfl) (fun x hg1=>?_);iterate 3 focus (rfl)
 obtain⟨pre,rest⟩:=x;dsimp only at hg1 ⊢;refine evc [] [] ?_;refine sq ?_ ?_<;>intro h1 h1p h1s;try simp only[Q,Pat.cs_len] at h1p
 rcases rest with _|⟨y,rest⟩
 ·exfalso;simp_all
 refine xaT sl26 .none rfl rfl rfl rfl (Pat.cs_at' hg1) rfl ?_;refine ev ?_;refine wc zt7 (ziY _ (Nat.le_refl _) (hok y (by rw[←hg1];simp))) rfl rfl ?_;refine si [0] [_] sl26 tz28 ?_;refine ap sl26 zz28 rfl rfl rfl (by intro x hx;simp at hx;subst hx;rfl) (by have:=congrArg List.length hg1;simp at this;simp;omega) ?_;refine ev ?_;refine ar ?_;refine Exists.intro ((pre++[y],rest)) ⟨(by have hz:=hg1;rw[←hz];simp),(by simp),sx ⟨⟨_,rfl,xap ?_⟩,⟨⟨_,rfl,LeA.glg ?_⟩,trivial⟩⟩ ⟨zab ?_,trivial⟩⟩;iterate 3 focus ((simp;done))
 try simp only[Q,Pat.cs_len] at h1p
 have hrest:rest=[]:=by
  rcases rest with _|⟨a,b⟩
  ·rfl
  ·exfalso;have hz:=congrArg List.length (hg1);simp only[xaa,xab,xac] at hz;omega
 subst hrest;refine rn0 (r1 rfl) (.gld ?_);rotate_left;all_goals ((rw[List.append_nil] at hg1;rw[←hg1,xat];done))
theorem zpE {p:Pat} (h:zcY p=true):za0 (zau p)=zaF p:=by
 unfold zcY at h;have h40:=of_decide_eq_true h;unfold za0 zaF;rw[if_pos h40,List.take_of_length_le (by omega)]
theorem zu8 {p:Pat}:((40:Int)<((za0 (zau p)).length:Int))↔zcY p=false:=by
 unfold zcY za0;rw[List.length_take,decide_eq_false_iff_not];omega
theorem zir {w:List Data} (hs:Spa w){ta tk:Int} (ht:InS (w.length*4) ⟨ta,tk⟩){l:List Pat}{ok:Bool} (hl:∀a∈l,a.ok∧a.size≤1000000000000) (hb:l.length≤1000000000000):
  FnD Tryz.prog 55 [.d (zam w),.agg [.d (.i ta),.d (.i tk)],.d (zad l),.d (.bool ok)] [] (.tup [.d (zad (if l.all (isP w ⟨ta,tk⟩)=true then l else [])),.d (.bool (l.all (isP w ⟨ta,tk⟩)&&ok))]) []:=by
 have hbad:∀i,i<l.length→isP w ⟨ta,tk⟩ (nth l i)=false→l.all (isP w ⟨ta,tk⟩)=false:=fun i hi h=>by
  cases hq:l.all (isP w ⟨ta,tk⟩) with
  |false=>rfl
  |true=>have:=List.all_eq_true.1 hq _ (zaf hi);rw[h] at this;cases this
 have hgood:(∀i,i<l.length→isP w ⟨ta,tk⟩ (nth l i)=true)→l.all (isP w ⟨ta,tk⟩)=true:=fun h=>List.all_eq_true.2 fun x hx=>by
  obtain⟨i,hi,rfl⟩:=List.getElem_of_mem hx;have:=h i hi;rwa [zaP hi] at this
 refine bd Tryz.f55 29 [] [] fun w0 F0 own kept hk=>?_;refine bx 3005 ?_;refine ev ?_;refine xaj (ι:=Nat) hk (fun i=>[(10,.d (.i (i:Int)))]) [8,9,11,12,13,14,15,16,17,18,19,20,21,22,23,24,25] (fun i=>[]) (fun i=>i≤l.length∧∀i',i'<i→isP w ⟨ta,tk⟩ (nth l i')=true) (fun i=>l.length-i) 0 ⟨by omega,fun _ h=>absurd h (by omega)⟩ ⟨⟨_,rfl,xap ?_⟩,trivial⟩ trivial (fun x=>rfl) (fun i hg1=>?_);focus (rfl)
 refine evc [] [] ?_;refine sq ?_ ?_<;>intro h1 h1p h1s;try simp only[Q,Pat.cs_len] at h1p
 refine xaT sl26 .none rfl rfl rfl rfl (zaD (by omega)) rfl ?_;refine evd [] [] ?_;refine wc zqt (zhW hs.dp.wt (zb3 ht) (hl _ (zaf (i:=i) (by omega))).1 (hl _ (zaf (by omega))).2) rfl rfl ?_;refine evd [] [] ?_;refine dr ?_;refine sq ?_ ?_<;>intro h2 h2p h2s;try simp only[Q,Pat.cs_len] at h2p
 refine xbg sl26 .none rfl ?_;refine ev ?_;refine rn0 (r2 rfl rfl) (.tup (.cons (.eqd ?_) (.cons (.eqd ?_) .nil)));rotate_left 2;try simp only[Q,Pat.cs_len] at h2p
 refine ar ?_;refine Exists.intro (i+1) ⟨⟨by omega,zbd hg1.2 (by assumption)⟩,(by omega),sx ⟨⟨_,rfl,xap ?_⟩,trivial⟩ trivial⟩;focus (rfl)
 try simp only[Q,Pat.cs_len] at h1p
 refine wc zxp (zpY hb (fun p hp=>(hl p hp).1)) rfl rfl ?_;refine ev ?_;refine rn0 (r2 rfl rfl) (.tup (.cons (.eqd ?_) (.cons (.eqd ?_) .nil)));rotate_left 2;all_goals (first|(rw[hbad i (by omega) (by assumption)];rfl)|(rw[hgood (fun x hx=>hg1.2 x (by omega))];rfl))
end Go.Proofs.YtpgdedpljcedpaaGreat
namespace Go.Proofs.YtpgdedpljcedpaaGreat
open Go
set_option linter.unusedSimpArgs false
set_option linter.unusedVariables false
section
variable {c:Ctx}{all:Array Oper}{chk:List Rec→Prop}{os:List Oper}{recs:List Rec}{env:Env}{hp:Hp}{Q:St→Prop}
variable {d ty:Nat}{pos:String}{af:Array Edge}{g:Option (Nat×Bool)}{pg:List (Nat×AV)}{t yt:TypeId}{x y:Operand}
theorem Walk.cut_lh {e k yb:Nat}{xs:List (List D)}{vx:AV}{o o2:Operand}{kd kd2:IntKind}{n n2:Int}{a b:Nat} (ht:SlT c.P t e k yb) (hg:GH all env g pg) (hd:Nat.blt d c.n=true)
  (hx:opd env x=some vx) (hxd:vx.toD=some (.sl xs)) (hk:∀x,x∈xs→x.length=k) (ho:opd env o=some (.d (.int kd n))) (ho2:opd env o2=some (.d (.int kd2 n2))) (hi:n = ↑a) (hi2:n2 = ↑b) (hab:a≤b) (hb:b≤xs.length)
  (hn:Walk c all chk os (zao (pg++opFL [x,o,o2] [vx,.d (.int kd n),.d (.int kd2 n2)]) [] [] ⟨some (d,.d (.sl ((xs.drop a).take (b-a)))),[]⟩::recs) ⟨(d,.d (.sl ((xs.drop a).take (b-a))))::env,hp⟩ Q):
  Walk c all chk (⟨some d,.slice t x (some o) (some o2) none,ty,pos,af,g⟩::os) recs ⟨env,hp⟩ Q:=
 xbc hg hd (by simp[opdL,hx,ho,ho2]) (fun ac G T w h=>by
  have h0:=h.2 0 (by simp) (by simp);have h1:=h.2 1 (by simp) (by simp);have h2:=h.2 2 (by simp) (by simp);simp only[List.getElem_cons_zero,List.getElem_cons_succ] at h0 h1 h2;obtain⟨u,h3,h4⟩:=zjz (P:=c.P) (w:=w) ht (h0.toD hxd) hk (lo:=some (.int kd a)) (hi:=some (.int kd2 b)) (a:=a) (b:=b) (.inr ⟨kd,rfl⟩) (.inr ⟨kd2,rfl⟩) hab hb;exact⟨u,by simp only[execOp,h1.int_eq,h2.int_eq,hi,hi2,Option.map_none,Option.map_some,Sem.run_bind,h3,Result.andThen_ok,Sem.run_pure],.d h4⟩) hn
end
end Go.Proofs.YtpgdedpljcedpaaGreat
namespace Go.Proofs.YtpgdedpljcedpaaGreat
open Go
set_option linter.unusedSimpArgs false
set_option linter.unusedVariables false
set_option maxRecDepth 100000
set_option maxHeartbeats 2000000
abbrev sepV (w:List Data) (t:Ty) (l:List Pat):Option (List Pat):=sepQ w t [] l []
theorem zrz {w:List Data}{t:Ty}{l o:List Pat}{i:Nat} (h:i<l.length):sepQ w t (l.take i) (l.drop i) o=match zaT w t [nth l i] (l.take i) with
  |none=>none
  |some m=>sepQ w t (l.take (i+1)) (l.drop (i+1)) (o++m):=by
 rw[zaO h,sepQ];have e:l.take i++[nth l i]=l.take (i+1):=by rw[List.take_succ_eq_append_getElem h,zaP h]
 rw[e];all_goals (cases zaT w t [nth l i] (l.take i)<;>rfl)
theorem zsT {w:List Data}{t:Ty}{l o:List Pat}{i:Nat} (h:l.length≤i):sepQ w t (l.take i) (l.drop i) o=some o:=by
 rw[List.drop_eq_nil_of_le h,sepQ]
theorem zry {w:List Data}{t:Ty}{l o m:List Pat}{i:Nat} (h:i<l.length) (hw:zaT w t [nth l i] (l.take i)=some m):sepQ w t (l.take i) (l.drop i) o=sepQ w t (l.take (i+1)) (l.drop (i+1)) (o++m):=by
 rw[zrz h,hw]
theorem zsS {w:List Data}{t:Ty}{l o:List Pat}{i:Nat} (h:i<l.length) (hw:zaT w t [nth l i] (l.take i)=none):sepQ w t (l.take i) (l.drop i) o=none:=by
 rw[zrz h,hw]
theorem zu2 {w:List Data}{t:Ty}:∀(r front o:List Pat){res:List Pat},sepQ w t front r o=some res→o.length≤res.length
 | [],_,o,res,h=>by rw[sepQ] at h;cases h;exact Nat.le_refl _
 |p::r,front,o,res,h=>by
  rw[sepQ] at h;cases hw:zaT w t [p] front with
  |none=>rw[hw] at h;cases h
  |some m=>
   rw[hw] at h;have:=zu2 r _ _ h;rw[xaa] at this;omega
theorem zkP {w:List Data}{t:Ty}:∀(r front o:List Pat){res:List Pat},(∀b∈front,zac w 10 t b=true)→(∀b∈r,zac w 10 t b=true)→(∀b∈o,zac w 11 t b=true)→sepQ w t front r o=some res→∀x∈res,zac w 11 t x=true
 | [],_,o,res,_,_,ho,h=>by rw[sepQ] at h;cases h;exact ho
 |p::r,front,o,res,hf,hr,ho,h=>by
  rw[sepQ] at h;cases hw:zaT w t [p] front with
  |none=>rw[hw] at h;cases h
  |some m=>
   rw[hw] at h;have hp:=hr p (by simp);have h1:=zg5 front _ m (fun a ha=>by rw[List.mem_singleton.1 (List.mem_filter.1 ha).1];exact zdd (by omega) hp) (Nat.le_trans (List.length_filter_le _ _) (by simp)) hf hw;refine zkP r _ _ (fun b hb=>?_) (fun b hb=>hr b (by simp[hb])) (fun b hb=>?_) h
   ·rcases List.mem_append.1 hb with hb|hb
    ·exact hf b hb
    ·rw[List.mem_singleton.1 hb];exact hp
   ·rcases List.mem_append.1 hb with hb|hb
    ·exact ho b hb
    ·exact h1.2 b hb
def FewQ (w:List Data) (t:Ty) (l:List Pat):Prop:=∀res,sepV w t l=some res→res.length≤400
theorem zpx {w:List Data}{ta tk:Int}{l:List Pat} (hl:∀a∈l,zac w 10 ⟨ta,tk⟩ a=true) (i:Nat):((zaT w ⟨ta,tk⟩ [nth l i] (l.take i)).getD []).length≤400:=by
 cases hw:zaT w ⟨ta,tk⟩ [nth l i] (l.take i) with
 |none=>simp
 |some m=>
  by_cases hi:i<l.length
  ·exact(zg5 (l.take i) _ m (fun a ha=>by rw[List.mem_singleton.1 (List.mem_filter.1 ha).1];exact zdd (by omega) (hl _ (zaf hi))) (Nat.le_trans (List.length_filter_le _ _) (by simp)) (fun b hb=>hl b (List.mem_of_mem_take hb)) hw).1
  ·rw[List.take_of_length_le (by omega)] at hw;have e:nth l i=default:=by simp[nth,List.getD,List.getElem?_eq_none (by omega:l.length≤i)]
   rw[e] at hw;unfold zaT at hw;have hlen:∀(away c r:List Pat),c.length≤400→subL w ⟨ta,tk⟩ c away=some r→r.length≤400:=fun away=>by
    induction away with
    |nil=>intro c r hc h;rw[subL] at h;cases h;exact hc
    |cons b away ih=>
     intro c r hc h;rw[subL] at h;split at h
     ·rename_i h4;exact ih _ _ h4 h
     ·cases h
   exact hlen _ _ _ (Nat.le_trans (List.length_filter_le _ _) (by simp)) hw
theorem zsy {l:List Pat} (i:Nat) (hi:i<l.length):zad [nth l i] = .sl [(nth l i).cc]∧zad (l.take i) = .sl ((Pat.cs l).take i)∧zad [nth l i] = .sl (((Pat.cs l).drop i).take (i+1-i)):=by
 have e1:zad [nth l i] = .sl [(nth l i).cc]:=by show D.sl (Pat.cs [nth l i])=_;rw[xat];rfl
 refine⟨e1, ?_, ?_⟩
 ·show D.sl (Pat.cs (l.take i))=_;rw[xat,xat,List.map_take]
 ·rw[e1,xat,←List.map_drop,zaO hi,show i+1-i=1 by omega];rfl
section
variable {w:List Data} (hs:Spa w){ta tk:Int} (ht:InS (w.length*4) ⟨ta,tk⟩){l:List Pat} (hl:∀a∈l,zac w 10 ⟨ta,tk⟩ a=true) (hb:l.length≤1600)
include hs ht hl hb
theorem zmc:FnD Tryz.prog 48 [.d (sPtr w (zai w)),.agg [.d (.i ta),.d (.i tk)],.d (zad l)] [] (.tup [.d (zad ((sepV w ⟨ta,tk⟩ l).getD [])),.d (.bool (sepV w ⟨ta,tk⟩ l).isSome)]) []:=by
 have hml:=zpx hl;have hc:∀i,i<l.length→FnD Tryz.prog 49 [.d (sPtr w (zai w)),.agg [.d (.i ta),.d (.i tk)],.d (.sl [(nth l i).cc]),.d (.sl ((Pat.cs l).take i))] [] (.tup [.d (zad ((zaT w ⟨ta,tk⟩ [nth l i] (l.take i)).getD [])),.d (.bool (zaT w ⟨ta,tk⟩ [nth l i] (l.take i)).isSome)]) []:=fun i hi=>by
  have h:=zna hs ht (l:=[nth l i]) (away:=l.take i) (fun a ha=>by rw[List.mem_singleton.1 ha];exact zdd (by omega) (hl _ (zaf hi))) (fun b hb=>hl b (List.mem_of_mem_take hb)) (by simp) (by rw[List.length_take];omega);obtain⟨e1,e2,_⟩:=zsy i hi;rw[e1,e2] at h;exact h
 have hbad:∀i o,i<l.length→(zaT w ⟨ta,tk⟩ [nth l i] (l.take i)).isSome=false→sepQ w ⟨ta,tk⟩ (l.take i) (l.drop i) o=none:=fun i o hi h=>zsS hi (by simpa using h);have hgood:∀i o,i<l.length→(zaT w ⟨ta,tk⟩ [nth l i] (l.take i)).isSome=true→sepQ w ⟨ta,tk⟩ (l.take i) (l.drop i) o=sepQ w ⟨ta,tk⟩ (l.take (i+1)) (l.drop (i+1)) (o++(zaT w ⟨ta,tk⟩ [nth l i] (l.take i)).getD []):=fun i o hi h=>by
  obtain⟨m,hm⟩:=Option.isSome_iff_exists.1 h;rw[zry hi hm,hm];rfl
 refine bd Tryz.f48 38 [8] [] fun w0 F0 own kept hk=>?_;refine bx 3004 ?_;refine evs [8] [] ?_;refine xaB 9 6 .none rfl rfl ?_;refine tv ?_;refine xaj (ι:=Nat×List Pat) hk (fun s=>[(15,.d (.i (s.1:Int))),(8,.gl 9 (Pat.cs s.2))]) [6,7,9,10,11,12,16,17,18,19,20,21,22,23,24,25,26,27,28,29,30,31,32,33,34,35,36] (fun s=>[(9,some (.tok ((Pat.cs s.2)).length 6))]) (fun s=>s.1≤l.length∧sepQ w ⟨ta,tk⟩ (l.take s.1) (l.drop s.1) s.2=sepV w ⟨ta,tk⟩ l∧s.2.length≤400*s.1) (fun s=>l.length-s.1) (0,[]) ⟨by simp,by simp,by simp⟩ ⟨⟨_,rfl,xap ?_⟩,⟨⟨_,rfl,LeA.glg ?_⟩,trivial⟩⟩ ⟨zab ?_,trivial⟩ (fun x=>rfl) (fun s hg1=>?_);iterate 3 focus (rfl)
 refine evc [8] [] ?_;refine sq ?_ ?_<;>intro h1 h1p h1s;try simp only[Q,Pat.cs_len] at h1p
 refine xaT sl26 .none rfl rfl rfl rfl (zaD (by omega)) rfl ?_;refine evs [8] [] ?_;refine ab 3010 tz28 ?_;refine evs [8] [] ?_;refine so ty28 ?_;refine tv ?_;refine si [0] [_] sl26 tz28 ?_;refine evd [8] [] ?_;refine xaN (b:=s.1) sl26 .none rfl rfl rfl (by exact zbN _) rfl rfl (by simp only[Pat.cs_len];omega) ?_;refine wc zyr (hc s.1 (by omega)) rfl rfl ?_;refine evd [8] [] ?_;refine dr ?_;refine sq ?_ ?_<;>intro h2 h2p h2s;try simp only[Q,Pat.cs_len] at h2p
 refine rn0 (r2 rfl rfl) (.tup (.cons (.nild ?_) (.cons (.eqd ?_) .nil)));rotate_left 2;try simp only[Q,Pat.cs_len] at h2p
 refine ap sl26 zz28 rfl rfl rfl (by exact zbN _) (by have h9:=hml s.1;simp only[Pat.cs_len];omega) ?_;refine asg ?_;refine tv ?_;refine ar ?_;refine Exists.intro ((s.1+1,s.2++(zaT w ⟨ta,tk⟩ [nth l s.1] (l.take s.1)).getD [])) ⟨(by
    refine⟨by dsimp only;omega, ?_, ?_⟩
    ·dsimp only;rw[←hgood s.1 s.2 (by omega) (by first|assumption|simpa using h2p)];exact hg1.2.1
    ·have:=hml s.1;dsimp only;rw[xaa];omega),(by dsimp only;omega),sx ⟨⟨_,rfl,xap ?_⟩,⟨⟨_,rfl,LeA.glg ?_⟩,trivial⟩⟩ ⟨zab ?_,trivial⟩⟩
 iterate 3 focus (first|(dsimp only;rw[xat,xat,xat,xaf];done)|(simp[Pat.cs_len];done))
 try simp only[Q,Pat.cs_len] at h1p
 refine rn0 (r2 rfl rfl) (.tup (.cons (.gld ?_) (.cons (.eqd ?_) .nil)));rotate_left 2;all_goals (first|(rw[show sepV w ⟨ta,tk⟩ l=none from by rw[←hg1.2.1];exact hbad s.1 s.2 (by omega) (by first|assumption|simpa using h2p)];rfl)|(rw[show sepV w ⟨ta,tk⟩ l=some s.2 from by rw[←hg1.2.1];exact zsT (by omega)];rfl))
theorem znW (hfew:FewQ w ⟨ta,tk⟩ l):FnD Tryz.prog 53 [.d (zam w),.d (zeX (w.length*4) (zai w)),.agg [.d (.i ta),.d (.i tk)],.d (zad l)] [] (.tup [.d (zad ((sepV w ⟨ta,tk⟩ l).getD [])),.d (.bool (sepV w ⟨ta,tk⟩ l).isSome)]) []:=by
 have hml:=zpx hl;have hc:∀i,i<l.length→FnD Tryz.prog 54 [.d (zam w),.d (zeX (w.length*4) (zai w)),.agg [.d (.i ta),.d (.i tk)],.d (.sl (((Pat.cs l).drop i).take (i+1-i))),.d (.sl ((Pat.cs l).take i))] [] (.tup [.d (zad ((zaT w ⟨ta,tk⟩ [nth l i] (l.take i)).getD [])),.d (.bool (zaT w ⟨ta,tk⟩ [nth l i] (l.take i)).isSome)]) []:=fun i hi=>by
  have h:=zk0 hs ht (l:=[nth l i]) (away:=l.take i) (fun a ha=>by rw[List.mem_singleton.1 ha];exact zdd (by omega) (hl _ (zaf hi))) (fun b hb=>hl b (List.mem_of_mem_take hb)) (by simp) (by rw[List.length_take];omega);obtain⟨_,e2,e3⟩:=zsy i hi;rw[e3,e2] at h;exact h
 have hbad:∀i o,i<l.length→(zaT w ⟨ta,tk⟩ [nth l i] (l.take i)).isSome=false→sepQ w ⟨ta,tk⟩ (l.take i) (l.drop i) o=none:=fun i o hi h=>zsS hi (by simpa using h);have hgood:∀i o,i<l.length→(zaT w ⟨ta,tk⟩ [nth l i] (l.take i)).isSome=true→sepQ w ⟨ta,tk⟩ (l.take i) (l.drop i) o=sepQ w ⟨ta,tk⟩ (l.take (i+1)) (l.drop (i+1)) (o++(zaT w ⟨ta,tk⟩ [nth l i] (l.take i)).getD []):=fun i o hi h=>by
  obtain⟨m,hm⟩:=Option.isSome_iff_exists.1 h;rw[zry hi hm,hm];rfl
 have hmany:∀i o,i<l.length→(zaT w ⟨ta,tk⟩ [nth l i] (l.take i)).isSome=true→sepQ w ⟨ta,tk⟩ (l.take i) (l.drop i) o=sepV w ⟨ta,tk⟩ l→(400:Int)<(o.length:Int)+(((zaT w ⟨ta,tk⟩ [nth l i] (l.take i)).getD []).length:Int)→sepV w ⟨ta,tk⟩ l=none:=fun i o hi h e h4=>by
  cases hv:sepV w ⟨ta,tk⟩ l with
  |none=>rfl
  |some res=>
   exfalso;have h1:=hfew res hv;rw[hv,hgood i o hi h] at e;have h2:=zu2 _ _ _ e;rw[xaa] at h2;omega
 refine bd Tryz.f53 51 [] [] fun w0 F0 own kept hk=>?_;refine bx 3006 ?_;refine ev ?_;refine xbh 9 sl26 .none rfl rfl ?_;refine ev ?_;refine xaj (ι:=Nat×List Pat) hk (fun s=>[(11,.d (.i (s.1:Int))),(10,.gl 9 (Pat.cs s.2))]) [8,9,12,13,15,16,17,18,19,20,21,22,23,24,25,26,27,28,29,30,31,32,33,34,35,36,37,38,39,40,41,42,43,44,45,46,47,48,49] (fun s=>[(9,some (.tok ((Pat.cs s.2)).length 6))]) (fun s=>s.1≤l.length∧sepQ w ⟨ta,tk⟩ (l.take s.1) (l.drop s.1) s.2=sepV w ⟨ta,tk⟩ l∧s.2.length≤400*s.1) (fun s=>l.length-s.1) (0,[]) ⟨by simp,by simp,by simp⟩ ⟨⟨_,rfl,xap ?_⟩,⟨⟨_,rfl,LeA.glg ?_⟩,trivial⟩⟩ ⟨zab ?_,trivial⟩ (fun x=>rfl) (fun s hg1=>?_);iterate 3 focus (rfl)
 refine evc [] [] ?_;refine sq ?_ ?_<;>intro h1 h1p h1s;try simp only[Q,Pat.cs_len] at h1p
 refine ar ?_ (by(have h9:=hml s.1;(try simp only[Pat.cs_len]);constructor<;>omega));refine Walk.cut_lh (a:=s.1) (b:=(s.1+1)) sl26 .none rfl rfl rfl (by exact zbN _) rfl rfl rfl (by simp) (by omega) (by simp only[Pat.cs_len];omega) ?_;refine evd [] [] ?_;refine xaN (b:=s.1) sl26 .none rfl rfl rfl (by exact zbN _) rfl rfl (by(simp only[Pat.cs_len];omega)) ?_;refine wc zys (hc s.1 (by omega)) rfl rfl ?_;refine evd [] [] ?_;refine dr ?_;refine sq ?_ ?_<;>intro h2 h2p h2s;try simp only[Q,Pat.cs_len] at h2p
 refine sqT ?_;refine xbg sl26 .none rfl ?_;refine ev ?_;refine rn0 (r2 rfl rfl) (.tup (.cons (.eqd ?_) (.cons (.eqd ?_) .nil)));rotate_left 2;try simp only[Q,Pat.cs_len] at h2p
 refine ar ?_ (by(have h9:=hml s.1;(try simp only[Pat.cs_len]);constructor<;>omega));refine sq ?_ ?_<;>intro h4 h4p h4s;try simp only[Q,Pat.cs_len] at h4p
 refine xbg sl26 .none rfl ?_;refine ev ?_;refine rn0 (r2 rfl rfl) (.tup (.cons (.eqd ?_) (.cons (.eqd ?_) .nil)));rotate_left 2;try simp only[Q,Pat.cs_len] at h4p
 refine ap sl26 zz28 rfl rfl rfl (by exact zbN _) (by have h9:=hml s.1;simp only[Pat.cs_len];omega) ?_;refine ev ?_;refine ar ?_ (by(have h9:=hml s.1;(try simp only[Pat.cs_len]);constructor<;>omega));refine Exists.intro ((s.1+1,s.2++(zaT w ⟨ta,tk⟩ [nth l s.1] (l.take s.1)).getD [])) ⟨(by
    refine⟨by dsimp only;omega, ?_, ?_⟩
    ·dsimp only;rw[←hgood s.1 s.2 (by omega) (by first|assumption|simpa using h2p)];exact hg1.2.1
    ·have:=hml s.1;dsimp only;rw[xaa];omega),(by dsimp only;omega),sx ⟨⟨_,rfl,xap ?_⟩,⟨⟨_,rfl,LeA.glg ?_⟩,trivial⟩⟩ ⟨zab ?_,trivial⟩⟩
 iterate 3 focus (first|(dsimp only;rw[xat,xat,xat,xaf];done)|(simp[Pat.cs_len];done))
 try simp only[Q,Pat.cs_len] at h1p
 refine rn0 (r2 rfl rfl) (.tup (.cons (.gld ?_) (.cons (.eqd ?_) .nil)));rotate_left 2;all_goals (first|(rw[show sepV w ⟨ta,tk⟩ l=none from by rw[←hg1.2.1];exact hbad s.1 s.2 (by omega) (by first|assumption|simpa using h2p)];rfl)|(rw[hmany s.1 s.2 (by omega) (by first|assumption|simpa using h2p) hg1.2.1 (by omega)];rfl)|(rw[show sepV w ⟨ta,tk⟩ l=some s.2 from by rw[←hg1.2.1];exact zsT (by omega)];rfl))
end
def zch (w:List Data) (a k:Int) (p q:Pat):Bool:=(zaL w a k p&&isP w ⟨a,k⟩ q)&&(zcY p&&zcY q)
theorem zdN {w:List Data} (hs:WSmall w){a k:Int}{p q:Pat} (h:zch w a k p q=true):Spa w∧InS (w.length*4) ⟨a,k⟩∧(∀x∈zaF p,zac w 10 ⟨a,k⟩ x=true)∧(∀x∈zaF q,zac w 10 ⟨a,k⟩ x=true)∧zap w 10 ⟨a,k⟩ p=true∧zap w 10 ⟨a,k⟩ q=true∧
  zaF p=zaq (zau p)∧zaF q=zaq (zau q)∧zbu w ⟨a,k⟩=true∧isP w ⟨a,k⟩ p=true∧isP w ⟨a,k⟩ q=true:=by
 unfold zch zaL zcY at h;simp only[xad,decide_eq_true_eq] at h;obtain⟨⟨⟨h1,h2⟩,h3⟩,h4,h5⟩:=h;have hp:=h2;have hq:=h3;unfold isP at h2 h3;rw[xad] at h2 h3;have hin:InS (w.length*4) ⟨a,k⟩:=by
  obtain⟨_,_,h6⟩:=zd1 h1;by_cases ha:a = -1
  ·exact .inl ha
  ·obtain⟨h7,h8,h9,h10⟩:=h6 ha;have:=zyf (n:=w.length) h8 (j:=k.toNat) (by omega);rwa [Int.toNat_of_nonneg h7,Int.toNat_of_nonneg h9] at this
 exact⟨zwb hs (zd1 h1).1,hin,zlR h2.1,zlR h3.1,h2.1,h3.1,by unfold zaF;rw[if_pos h4],by unfold zaF;rw[if_pos h5],h1,hp,hq⟩
theorem zls {w:List Data} (hs:WSmall w){a k:Int}{p q:Pat} (hp:p.ok) (hq:q.ok):
  FnD Tryz.prog 46 [.d (zam w),.agg [.d (.i a),.d (.i k)],.agg [.d (.i p.op),.d (.i p.ctor),.d (.i p.n),.d (.i p.m),.d (.i p.var),.d (zad p.kids)],.agg [.d (.i q.op),.d (.i q.ctor),.d (.i q.n),.d (.i q.m),.d (.i q.var),.d (zad q.kids)]] []
   (.tup [.d (zad (if (zaL w a k p&&isP w ⟨a,k⟩ q)=true then zaF p else [])),.d (zad (if (zaL w a k p&&isP w ⟨a,k⟩ q)=true then zaF q else [])),.d (.bool (zch w a k p q))]) []:=by
 have hpv:=zfG hs (a:=a) (k:=k) hp;have hshape:∀ {x:Pat},isP w ⟨a,k⟩ x=true→zap w 10 ⟨a,k⟩ x=true:=fun h=>by unfold isP at h;rw[xad] at h;exact h.1
 have hvp:zaL w a k p=true→zbu w ⟨a,k⟩=true∧isP w ⟨a,k⟩ p=true:=fun h=>by unfold zaL at h;rwa [xad] at h
 unfold zch;by_cases h1:zaL w a k p=true
 ·obtain⟨h2,h3⟩:=hvp h1;have hok:=zeU (zh0 hs (zd1 h2).1) (zd1 h2).2.1 hq;have hpp:=zjK (hshape h3) hp;rw[h1] at hpv ⊢;by_cases h4:isP w ⟨a,k⟩ q=true
  ·have hpq:=zjK (hshape h4) hq;rw[h4] at hok ⊢;refine bd Tryz.f46 43 [] [] fun w0 F0 own kept hk=>?_;refine bx 3005 ?_;refine bx 3006 ?_;refine bx 3007 ?_;refine ev ?_;refine wc zp5 (hpv) rfl rfl ?_;refine ev ?_;refine sq ?_ ?_<;>intro h1 h1p h1s;try simp only[Q] at h1p
   refine sqT ?_;focus (exfalso;contradiction)
   try simp only[Q] at h1p
   refine Walk.call (cr:=[]) zp9 (hok) rfl (.some rfl rfl h1) rfl rfl (LeL.refl _) trivial rfl rfl rfl ?_;refine evs [] [(20,false)] ?_ ⟨⟨_,rfl,h1⟩,trivial⟩;refine sq ?_ ?_<;>intro h3 h3p h3s;try simp only[Q] at h3p
   focus (exfalso;contradiction)
   try simp only[Q] at h3p
   refine wc zwp (hpp) rfl rfl ?_;refine ev ?_;refine wc zwp (hpq) rfl rfl ?_;refine ev ?_;refine sq ?_ ?_<;>intro h4 h4p h4s;try simp only[Q] at h4p
   refine rn0 (.cons (.tmp rfl) (.cons (.tmp rfl) (.cons (.tmp rfl) .nil))) (.tup (.cons (.eqd ?_) (.cons (.eqd ?_) (.cons (.eqd ?_) .nil))));rotate_left 3;try simp only[Q] at h4p
   refine rn0 (.cons (.tmp rfl) (.cons (.tmp rfl) (.cons (.tmp rfl) .nil))) (.tup (.cons (.eqd ?_) (.cons (.eqd ?_) (.cons (.eqd ?_) .nil))));rotate_left 3;all_goals (first|rfl|(simp_all;done))
  ·have h4':isP w ⟨a,k⟩ q=false:=by simpa using h4
   rw[h4'] at hok ⊢;refine bd Tryz.f46 43 [] [] fun w0 F0 own kept hk=>?_;refine bx 3005 ?_;refine bx 3006 ?_;refine bx 3007 ?_;refine ev ?_;refine wc zp5 (hpv) rfl rfl ?_;refine ev ?_;refine sq ?_ ?_<;>intro h1 h1p h1s;try simp only[Q] at h1p
   refine sqT ?_;refine rn0 (.cons (.tmp rfl) (.cons (.tmp rfl) (.cons (.tmp rfl) .nil))) (.tup (.cons (.nild ?_) (.cons (.nild ?_) (.cons (.eqd ?_) .nil))));rotate_left 3;try simp only[Q] at h1p
   refine Walk.call (cr:=[]) zp9 (hok) rfl (.some rfl rfl h1) rfl rfl (LeL.refl _) trivial rfl rfl rfl ?_;refine evs [] [(20,false)] ?_ ⟨⟨_,rfl,h1⟩,trivial⟩;refine sq ?_ ?_<;>intro h3 h3p h3s;try simp only[Q] at h3p
   refine rn0 (.cons (.tmp rfl) (.cons (.tmp rfl) (.cons (.tmp rfl) .nil))) (.tup (.cons (.nild ?_) (.cons (.nild ?_) (.cons (.eqd ?_) .nil))));rotate_left 3;try simp only[Q] at h3p
   focus (exfalso;contradiction)
   all_goals (first|rfl|(simp_all;done))
 ·have h1':zaL w a k p=false:=by simpa using h1
  rw[h1'] at hpv ⊢;refine bd Tryz.f46 43 [] [] fun w0 F0 own kept hk=>?_;refine bx 3005 ?_;refine bx 3006 ?_;refine bx 3007 ?_;refine ev ?_;refine wc zp5 (hpv) rfl rfl ?_;refine ev ?_;refine sq ?_ ?_<;>intro h1 h1p h1s;try simp only[Q] at h1p
  refine sqT ?_;refine rn0 (.cons (.tmp rfl) (.cons (.tmp rfl) (.cons (.tmp rfl) .nil))) (.tup (.cons (.nild ?_) (.cons (.nild ?_) (.cons (.eqd ?_) .nil))));rotate_left 3;try simp only[Q] at h1p
  focus (exfalso;contradiction)
  all_goals (first|rfl|(simp_all;done))
theorem zp0 {w:List Data} (hs:WSmall w){a k:Int}{p q:Pat} (hp:p.ok) (hq:q.ok) (hpz:p.size≤1000000000000) (hqz:q.size≤1000000000000):
  FnD Tryz.prog 51 [.d (zam w),.agg [.d (.i a),.d (.i k)],.agg [.d (.i p.op),.d (.i p.ctor),.d (.i p.n),.d (.i p.m),.d (.i p.var),.d (zad p.kids)],.agg [.d (.i q.op),.d (.i q.ctor),.d (.i q.n),.d (.i q.m),.d (.i q.var),.d (zad q.kids)]] []
   (.tup [.d (zad (if (zaL w a k p&&zaL w a k q)=true then za0 (zau p) else [])),.d (zad (if (zaL w a k p&&zaL w a k q)=true then za0 (zau q) else [])),.d (.bool (zch w a k p q))]) []:=by
 have hpv:=zfU hs (a:=a) (k:=k) hp hpz;have hqv:=zfU hs (a:=a) (k:=k) hq hqz;have hshape:∀ {x:Pat},zaL w a k x=true→zap w 10 ⟨a,k⟩ x=true:=fun h=>by unfold zaL isP at h;simp only[xad] at h;exact h.2.1
 have hvq:zaL w a k p=true→zaL w a k q=isP w ⟨a,k⟩ q:=fun h=>by unfold zaL at h ⊢;rw[xad] at h;rw[h.1,Bool.true_and]
 have hge:=fun(x:Pat)=>zu8 (p:=x);unfold zch;by_cases h1:zaL w a k p=true
 ·rw[←hvq h1];have hpp:=ziq (hshape h1) hp;rw[h1] at hpv ⊢;by_cases h4:zaL w a k q=true
  ·have hpq:=ziq (hshape h4) hq;rw[h4] at hqv ⊢;have e:∀x:Pat,zcY x=decide (((za0 (zau x)).length:Int)≤40):=fun x=>by
    have:=hge x;cases hx:zcY x with
    |true=>
     rw[hx] at this;exact(decide_eq_true (Int.not_lt.1 fun h=>by have:=this.1 h;cases this)).symm
    |false=>
     rw[hx] at this;exact(decide_eq_false (Int.not_le.2 (this.2 rfl))).symm
   rw[e p,e q];refine bd Tryz.f51 39 [] [] fun w0 F0 own kept hk=>?_;refine bx 3005 ?_;refine bx 3006 ?_;refine bx 3007 ?_;refine ev ?_;refine wc zlb (hpv) rfl rfl ?_;refine ev ?_;refine sq ?_ ?_<;>intro h1 h1p h1s;try simp only[Q,Pat.cs_len] at h1p
   refine sqT ?_;focus (exfalso;contradiction)
   try simp only[Q,Pat.cs_len] at h1p
   refine Walk.call (cr:=[]) zlb (hqv) rfl (.some rfl rfl h1) rfl rfl (LeL.refl _) trivial rfl rfl rfl ?_;refine evs [] [(18,false)] ?_ ⟨⟨_,rfl,h1⟩,trivial⟩;refine sq ?_ ?_<;>intro h3 h3p h3s;try simp only[Q,Pat.cs_len] at h3p
   focus (exfalso;contradiction)
   try simp only[Q,Pat.cs_len] at h3p
   refine wc zwq (hpp) rfl rfl ?_;refine ev ?_;refine wc zwq (hpq) rfl rfl ?_;refine ev ?_;refine sq ?_ ?_<;>intro h4 h4p h4s;try simp only[Q,Pat.cs_len] at h4p
   refine rn0 (.cons (.tmp rfl) (.cons (.tmp rfl) (.cons (.tmp rfl) .nil))) (.tup (.cons (.eqd ?_) (.cons (.eqd ?_) (.cons (.eqd ?_) .nil))));rotate_left 3;try simp only[Q,Pat.cs_len] at h4p
   refine rn0 (.cons (.tmp rfl) (.cons (.tmp rfl) (.cons (.tmp rfl) .nil))) (.tup (.cons (.eqd ?_) (.cons (.eqd ?_) (.cons (.eqd ?_) .nil))));rotate_left 3;all_goals (first|(simp_all[Pat.cs_len];done)|(simp_all[Pat.cs_len];omega))
  ·have h4':zaL w a k q=false:=by simpa using h4
   rw[h4'] at hqv ⊢;refine bd Tryz.f51 39 [] [] fun w0 F0 own kept hk=>?_;refine bx 3005 ?_;refine bx 3006 ?_;refine bx 3007 ?_;refine ev ?_;refine wc zlb (hpv) rfl rfl ?_;refine ev ?_;refine sq ?_ ?_<;>intro h1 h1p h1s;try simp only[Q] at h1p
   refine sqT ?_;refine rn0 (.cons (.tmp rfl) (.cons (.tmp rfl) (.cons (.tmp rfl) .nil))) (.tup (.cons (.nild ?_) (.cons (.nild ?_) (.cons (.eqd ?_) .nil))));rotate_left 3;try simp only[Q] at h1p
   refine Walk.call (cr:=[]) zlb (hqv) rfl (.some rfl rfl h1) rfl rfl (LeL.refl _) trivial rfl rfl rfl ?_;refine evs [] [(18,false)] ?_ ⟨⟨_,rfl,h1⟩,trivial⟩;refine sq ?_ ?_<;>intro h3 h3p h3s;try simp only[Q] at h3p
   refine rn0 (.cons (.tmp rfl) (.cons (.tmp rfl) (.cons (.tmp rfl) .nil))) (.tup (.cons (.nild ?_) (.cons (.nild ?_) (.cons (.eqd ?_) .nil))));rotate_left 3;try simp only[Q] at h3p
   focus (exfalso;contradiction)
   all_goals (first|rfl|(simp_all;done))
 ·have h1':zaL w a k p=false:=by simpa using h1
  rw[h1'] at hpv ⊢;refine bd Tryz.f51 39 [] [] fun w0 F0 own kept hk=>?_;refine bx 3005 ?_;refine bx 3006 ?_;refine bx 3007 ?_;refine ev ?_;refine wc zlb (hpv) rfl rfl ?_;refine ev ?_;refine sq ?_ ?_<;>intro h1 h1p h1s;try simp only[Q] at h1p
  refine sqT ?_;refine rn0 (.cons (.tmp rfl) (.cons (.tmp rfl) (.cons (.tmp rfl) .nil))) (.tup (.cons (.nild ?_) (.cons (.nild ?_) (.cons (.eqd ?_) .nil))));rotate_left 3;try simp only[Q] at h1p
  refine Walk.call (cr:=[]) zlb (hqv) rfl (.some rfl rfl h1) rfl rfl (LeL.refl _) trivial rfl rfl rfl ?_;refine evs [] [(18,false)] ?_ ⟨⟨_,rfl,h1⟩,trivial⟩;refine sq ?_ ?_<;>intro h3 h3p h3s;try simp only[Q] at h3p
  refine rn0 (.cons (.tmp rfl) (.cons (.tmp rfl) (.cons (.tmp rfl) .nil))) (.tup (.cons (.nild ?_) (.cons (.nild ?_) (.cons (.eqd ?_) .nil))));rotate_left 3;try simp only[Q] at h3p
  focus (exfalso;contradiction)
  all_goals (first|rfl|(simp_all;done))
def zbT (xs ys:List Pat):List Pat:=xs.flatMap fun x=>ys.filterMap (zan 10 x)
theorem zdK {xs ys:List Pat}{z:Pat}:z∈zbT xs ys↔∃x∈xs,∃y∈ys,zan 10 x y=some z:=by
 unfold zbT;simp only[List.mem_flatMap,List.mem_filterMap]
theorem zkA {xs ys:List Pat} (h1:xs.length≤40) (h2:ys.length≤40):(zbT xs ys).length≤1600:=by
 have h:=zgG (f:=fun x=>ys.filterMap (zan 10 x)) (k:=40) (fun x=>Nat.le_trans (List.length_filterMap_le _ _) h2) xs;unfold zbT;omega
theorem zcR {f:Pat→Option Pat}{pre:List Pat}{y z:Pat} (h:f y=some z):(pre++[y]).filterMap f=pre.filterMap f++[z]:=by
 rw[List.filterMap_append,List.filterMap_cons_some h,List.filterMap_nil]
theorem zgt {f:Pat→Option Pat}{pre:List Pat}{y:Pat} (h:f y=none):(pre++[y]).filterMap f=pre.filterMap f:=by
 rw[List.filterMap_append,List.filterMap_cons_none h,List.filterMap_nil,List.append_nil]
theorem zmo {w:List Data}{t:Ty}:∀(r front o:List Pat){res:List Pat},sepQ w t front r o=some res→res.length≤o.length+400*r.length
 | [],_,o,res,h=>by rw[sepQ] at h;cases h;omega
 |p::r,front,o,res,h=>by
  rw[sepQ] at h;cases hw:zaT w t [p] front with
  |none=>rw[hw] at h;cases h
  |some m=>
   rw[hw] at h;have h1:=zmo r _ _ h;have hsub:∀(away c r:List Pat),c.length≤400→subL w t c away=some r→r.length≤400:=fun away=>by
    induction away with
    |nil=>intro c r hc h;rw[subL] at h;cases h;exact hc
    |cons b away ih=>
     intro c r hc h;rw[subL] at h;split at h
     ·rename_i h4;exact ih _ _ h4 h
     ·cases h
   have h2:=hsub _ _ _ (Nat.le_trans (List.length_filter_le _ _) (by simp)) hw;rw[xaa] at h1;simp only[xab];omega
def meV (w:List Data) (a k:Int) (p q:Pat):Option (List Pat):=if zch w a k p q=true then (match sepV w ⟨a,k⟩ (zbT (zaF p) (zaF q)) with
  |none=>none
  |some z=>if z.all (isP w ⟨a,k⟩)=true then some z else none) else none
theorem zra {w:List Data}{a k:Int}{p q:Pat} (h:zch w a k p q=false):meV w a k p q=none:=by unfold meV;rw[if_neg (by rw[h];simp)]
theorem ztt {w:List Data}{a k:Int}{p q:Pat} (h:zch w a k p q=true) (h2:sepV w ⟨a,k⟩ (zbT (zaF p) (zaF q))=none):meV w a k p q=none:=by unfold meV;rw[if_pos h,h2]
theorem ztu {w:List Data}{a k:Int}{p q:Pat}{z:List Pat} (h:zch w a k p q=true) (h2:sepV w ⟨a,k⟩ (zbT (zaF p) (zaF q))=some z):meV w a k p q=if z.all (isP w ⟨a,k⟩)=true then some z else none:=by unfold meV;rw[if_pos h,h2]
theorem zfM {w:List Data}{t:Ty}{xs ys:List Pat} (hx:∀x∈xs,zac w 10 t x=true) (hy:∀y∈ys,zac w 10 t y=true):∀z∈zbT xs ys,zac w 10 t z=true:=fun z hz=>by
 obtain⟨x,h1,y,h2,h3⟩:=zdK.1 hz;exact zky 10 10 (hx x h1) (hy y h2) h3
theorem zi5 {z:List Pat}{b:Bool}:zad (if b=true then z else [])=zad ((if b=true then some z else none).getD [])∧b=(if b=true then some z else none:Option (List Pat)).isSome:=by cases b<;>exact⟨rfl,rfl⟩
theorem zdT {w:List Data} (hs:WSmall w){a k:Int}{p q:Pat} (hp:p.ok) (hq:q.ok):
  FnD Tryz.prog 25 [.d (zam w),.agg [.d (.i a),.d (.i k)],.agg [.d (.i p.op),.d (.i p.ctor),.d (.i p.n),.d (.i p.m),.d (.i p.var),.d (zad p.kids)],.agg [.d (.i q.op),.d (.i q.ctor),.d (.i q.n),.d (.i q.m),.d (.i q.var),.d (zad q.kids)]] []
   (.tup [.d (zad ((meV w a k p q).getD [])),.d (.bool (meV w a k p q).isSome)]) []:=by
 have hbp:=zls hs (a:=a) (k:=k) hp hq;cases h2:zch w a k p q with
 |false=>
  rw[zra h2];rw[h2] at hbp;generalize (if (zaL w a k p&&isP w ⟨a,k⟩ q)=true then zaF p else [])=z1 at hbp;generalize (if (zaL w a k p&&isP w ⟨a,k⟩ q)=true then zaF q else [])=z2 at hbp;refine bd Tryz.f25 75 [] [] fun w0 F0 own kept hk=>?_;refine bx 3005 ?_;refine bx 3006 ?_;refine bx 3007 ?_;refine ev ?_;refine wc zs8 (hbp) rfl rfl ?_;refine ev ?_;refine sq ?_ ?_<;>intro h1 h1p h1s;refine rn0 (r2 rfl rfl) (.tup (.cons (.nild ?_) (.cons (.eqd ?_) .nil)));rotate_left 2;focus (exfalso;contradiction)
  all_goals (rfl)
 |true=>
  obtain⟨hsp,hin,t1,t2,_⟩:=zdN hs h2;have hpq:(zaL w a k p&&isP w ⟨a,k⟩ q)=true:=by unfold zch at h2;rw[xad] at h2;exact h2.1
  rw[h2,if_pos hpq,if_pos hpq] at hbp;have hn:=zlu hsp.dp;have hxl:=zeO p;have hyl:=zeO q;have hme:=fun(x y:Pat) (hx:x∈zaF p) (hy:y∈zaF q)=>zhI hsp (f:=zai w) 10 10 (Nat.le_refl _) hin (t1 x hx) (t2 y hy);have hml:=zkA hxl hyl;have hmp:=zfM t1 t2;have hse:=zmc hsp hin hmp hml;have hfl:∀pre x rest,pre++x::rest=zaF p→(pre.flatMap fun x=>(zaF q).filterMap (zan 10 x)).length≤1600:=fun pre x rest h=>by
   have h3:=zgG (f:=fun x=>(zaF q).filterMap (zan 10 x)) (k:=40) (fun x=>Nat.le_trans (List.length_filterMap_le _ _) hyl) pre;have h4:=congrArg List.length h;simp only[xaa,xab] at h4;omega
  cases h3:sepV w ⟨a,k⟩ (zbT (zaF p) (zaF q)) with
  |none=>
   rw[ztt h2 h3];rw[h3] at hse;have hre:=ziP hsp (f:=zai w) hin (l:=[]) (ok:=false) (by simp) (by simp);unfold zbT at hse;generalize zaF p=X at *;generalize zaF q=Y at *;refine bd Tryz.f25 75 [14] [17] fun w0 F0 own kept hk=>?_;refine bx 3005 ?_;refine bx 3006 ?_;refine bx 3007 ?_;refine evs [14] [] ?_;refine wc zs8 (hbp) rfl rfl ?_;refine evs [14] [] ?_;refine sq ?_ ?_<;>intro h1 h1p h1s;focus (exfalso;contradiction)
   refine wc zwh (hn) rfl rfl ?_;refine evs [14] [] ?_;refine xaB 9 6 .none rfl rfl ?_;refine tv ?_;refine xaj (ι:=List (Pat)×List (Pat)) hk (fun x=>[(36,.d (.i (x.1.length:Int))),(14,.gl 9 (Pat.cs (x.1.flatMap fun x=>Y.filterMap (zan 10 x))))]) [16,18,19,20,37,38,39,40,41,42,43,44,45,46,47,48,49,50,51,52,53,54,55,56,57,58,59,60] (fun x=>[(9,some (.tok ((Pat.cs (x.1.flatMap fun x=>Y.filterMap (zan 10 x)))).length 6))]) (fun x=>x.1++x.2=X) (fun x=>x.2.length) ([],X) (by simp) ⟨⟨_,rfl,xap ?_⟩,⟨⟨_,rfl,LeA.glg ?_⟩,trivial⟩⟩ ⟨zab ?_,trivial⟩ (fun x=>rfl) (fun x hg1=>?_);iterate 3 focus (rfl)
   obtain⟨pre,rest⟩:=x;dsimp only at hg1 ⊢;refine evc [14] [17] ?_;refine sq ?_ ?_<;>intro h2 h2p h2s;try simp only[Q,Pat.cs_len] at h2p
   rcases rest with _|⟨e,rest⟩
   ·exfalso;simp_all
   refine xaT sl26 .none rfl rfl rfl rfl (Pat.cs_at' hg1) rfl ?_;refine evs [14] [] ?_;refine ab 3016 tz28 ?_;refine so ty28 ?_;refine tv ?_;refine xaj (ι:=List (Pat)×List (Pat)) hk (fun x=>[(42,.d (.i (x.1.length:Int))),(14,.gl 9 (Pat.cs ((pre.flatMap fun x=>Y.filterMap (zan 10 x))++x.1.filterMap (zan 10 e))))]) [18,19,20,43,44,45,46,47,48,49,50,51,52,53,54,55,56,57,58,59] (fun x=>[(9,some (.tok ((Pat.cs ((pre.flatMap fun x=>Y.filterMap (zan 10 x))++x.1.filterMap (zan 10 e)))).length 6))]) (fun x=>x.1++x.2=Y) (fun x=>x.2.length) ([],Y) (by simp) ⟨⟨_,rfl,xap ?_⟩,⟨⟨_,rfl,LeA.glg ?_⟩,trivial⟩⟩ ⟨zab ?_,trivial⟩ (fun x=>rfl) (fun x hg2=>?_);iterate 3 focus ((simp;done))
   obtain⟨pre2,rest2⟩:=x;dsimp only at hg2 ⊢;refine evc [14] [17] ?_;refine sq ?_ ?_<;>intro h3 h3p h3s;try simp only[Q,Pat.cs_len] at h3p
   rcases rest2 with _|⟨y,rest2⟩
   ·exfalso;simp_all
   refine xaT sl26 .none rfl rfl rfl rfl (Pat.cs_at' hg2) rfl ?_;refine evs [14] [] ?_;refine ab 3018 tz28 ?_;refine so ty28 ?_;refine tv ?_;refine wc zp7 (hme e y (by rw[←hg1];simp) (by rw[←hg2];simp)) rfl rfl ?_;refine evs [14] [] ?_;refine ab 3019 tz28 ?_;refine so ty28 ?_;refine evs [14] [] ?_;refine sq ?_ ?_<;>intro h4 h4p h4s;refine si [0] [_] sl26 tz28 ?_;refine ap sl26 zz28 rfl rfl rfl (by intro x hx;simp at hx;subst hx;rfl) (by have h9:=hfl pre e rest hg1;have h8:=List.length_filterMap_le (zan 10 e) pre2;have h7:=congrArg List.length hg2;simp only[xaa,xab] at h7;simp only[Pat.cs_len,xaa,xab,xah];omega) ?_;refine asg ?_;refine tv ?_;refine ar ?_;refine Exists.intro ((pre2++[y],rest2)) ⟨(by have hz:=hg2;rw[←hz];simp),(by simp),sx ⟨⟨_,rfl,xap ?_⟩,⟨⟨_,rfl,LeA.glg ?_⟩,trivial⟩⟩ ⟨zab ?_,trivial⟩⟩;iterate 3 focus (first|(dsimp only;rw[zcR (zdE (by assumption)),xat,xat];simp only[xaf,List.append_assoc];rfl)|(dsimp only;rw[zcR (zdE (by assumption))];simp only[Pat.cs_len,xaa,xab,xah];omega)|(simp;done))
   refine ar ?_;refine Exists.intro ((pre2++[y],rest2)) ⟨(by have hz:=hg2;rw[←hz];simp),(by simp),sx ⟨⟨_,rfl,xap ?_⟩,⟨⟨_,rfl,LeA.glg ?_⟩,trivial⟩⟩ ⟨zab ?_,trivial⟩⟩;iterate 3 focus (first|(dsimp only;rw[zgt (zgd (by first|assumption|(simp_all;done)))];done)|(simp;done))
   try simp only[Q,Pat.cs_len] at h3p
   have hrest2:rest2=[]:=by
    rcases rest2 with _|⟨a,b⟩
    ·rfl
    ·exfalso;have hz:=congrArg List.length (hg2);simp only[xaa,xab,xac] at hz;omega
   subst hrest2;refine ar ?_;refine Exists.intro ((pre++[e],rest)) ⟨(by have hz:=hg1;rw[←hz];simp),(by simp),sx ⟨⟨_,rfl,xap ?_⟩,⟨⟨_,rfl,LeA.glg ?_⟩,trivial⟩⟩ ⟨zab ?_,trivial⟩⟩;iterate 3 focus (first|(dsimp only;rw[List.append_nil] at hg2;subst hg2;rw[List.flatMap_append];simp;done)|(simp;done))
   try simp only[Q,Pat.cs_len] at h2p
   have hrest:rest=[]:=by
    rcases rest with _|⟨a,b⟩
    ·rfl
    ·exfalso;have hz:=congrArg List.length (hg1);simp only[xaa,xab,xac] at hz;omega
   subst hrest;obtain rfl:pre=X:=(by simpa using hg1);refine evc [14] [] ?_;refine Walk.call (cr:=[]) zwi (hse) rfl .none rfl rfl (.cons (.refl _) (.cons (.refl _) (.cons (.gl _ _) .nil))) trivial rfl rfl rfl ?_;refine evs [14] [] ?_;refine asg ?_;refine evs [14] [] ?_;refine wc zwj (hre) rfl rfl ?_;refine evs [14] [] ?_;refine rn0 (r2 rfl rfl) (.tup (.cons (.eqd ?_) (.cons (.eqd ?_) .nil)));rotate_left 2;all_goals (rfl)
  |some z=>
   rw[ztu h2 h3];rw[h3] at hse;have hzp:=zkP _ [] [] (by simp) hmp (by simp) h3;have hzl:=zmo _ _ _ h3;have hre:=ziP hsp (f:=zai w) hin (l:=z) (ok:=true) (fun x hx=>(zgh hsp 11 hin (hzp x hx)).1) (by simp at hzl;omega);rw[Bool.true_and] at hre;generalize z.all (isP w ⟨a,k⟩)=b at *;unfold zbT at hse;clear hmp hml hzl h3;generalize zaF p=X at *;generalize zaF q=Y at *;refine bd Tryz.f25 75 [14] [17] fun w0 F0 own kept hk=>?_;refine bx 3005 ?_;refine bx 3006 ?_;refine bx 3007 ?_;refine evs [14] [] ?_;refine wc zs8 (hbp) rfl rfl ?_;refine evs [14] [] ?_;refine sq ?_ ?_<;>intro h1 h1p h1s;focus (exfalso;contradiction)
   refine wc zwh (hn) rfl rfl ?_;refine evs [14] [] ?_;refine xaB 9 6 .none rfl rfl ?_;refine tv ?_;refine xaj (ι:=List (Pat)×List (Pat)) hk (fun x=>[(36,.d (.i (x.1.length:Int))),(14,.gl 9 (Pat.cs (x.1.flatMap fun x=>Y.filterMap (zan 10 x))))]) [16,18,19,20,37,38,39,40,41,42,43,44,45,46,47,48,49,50,51,52,53,54,55,56,57,58,59,60] (fun x=>[(9,some (.tok ((Pat.cs (x.1.flatMap fun x=>Y.filterMap (zan 10 x)))).length 6))]) (fun x=>x.1++x.2=X) (fun x=>x.2.length) ([],X) (by simp) ⟨⟨_,rfl,xap ?_⟩,⟨⟨_,rfl,LeA.glg ?_⟩,trivial⟩⟩ ⟨zab ?_,trivial⟩ (fun x=>rfl) (fun x hg1=>?_);iterate 3 focus (rfl)
   obtain⟨pre,rest⟩:=x;dsimp only at hg1 ⊢;refine evc [14] [17] ?_;refine sq ?_ ?_<;>intro h2 h2p h2s;try simp only[Q,Pat.cs_len] at h2p
   rcases rest with _|⟨e,rest⟩
   ·exfalso;simp_all
   refine xaT sl26 .none rfl rfl rfl rfl (Pat.cs_at' hg1) rfl ?_;refine evs [14] [] ?_;refine ab 3016 tz28 ?_;refine so ty28 ?_;refine tv ?_;refine xaj (ι:=List (Pat)×List (Pat)) hk (fun x=>[(42,.d (.i (x.1.length:Int))),(14,.gl 9 (Pat.cs ((pre.flatMap fun x=>Y.filterMap (zan 10 x))++x.1.filterMap (zan 10 e))))]) [18,19,20,43,44,45,46,47,48,49,50,51,52,53,54,55,56,57,58,59] (fun x=>[(9,some (.tok ((Pat.cs ((pre.flatMap fun x=>Y.filterMap (zan 10 x))++x.1.filterMap (zan 10 e)))).length 6))]) (fun x=>x.1++x.2=Y) (fun x=>x.2.length) ([],Y) (by simp) ⟨⟨_,rfl,xap ?_⟩,⟨⟨_,rfl,LeA.glg ?_⟩,trivial⟩⟩ ⟨zab ?_,trivial⟩ (fun x=>rfl) (fun x hg2=>?_);iterate 3 focus ((simp;done))
   obtain⟨pre2,rest2⟩:=x;dsimp only at hg2 ⊢;refine evc [14] [17] ?_;refine sq ?_ ?_<;>intro h3 h3p h3s;try simp only[Q,Pat.cs_len] at h3p
   rcases rest2 with _|⟨y,rest2⟩
   ·exfalso;simp_all
   refine xaT sl26 .none rfl rfl rfl rfl (Pat.cs_at' hg2) rfl ?_;refine evs [14] [] ?_;refine ab 3018 tz28 ?_;refine so ty28 ?_;refine tv ?_;refine wc zp7 (hme e y (by rw[←hg1];simp) (by rw[←hg2];simp)) rfl rfl ?_;refine evs [14] [] ?_;refine ab 3019 tz28 ?_;refine so ty28 ?_;refine evs [14] [] ?_;refine sq ?_ ?_<;>intro h4 h4p h4s;refine si [0] [_] sl26 tz28 ?_;refine ap sl26 zz28 rfl rfl rfl (by intro x hx;simp at hx;subst hx;rfl) (by have h9:=hfl pre e rest hg1;have h8:=List.length_filterMap_le (zan 10 e) pre2;have h7:=congrArg List.length hg2;simp only[xaa,xab] at h7;simp only[Pat.cs_len,xaa,xab,xah];omega) ?_;refine asg ?_;refine tv ?_;refine ar ?_;refine Exists.intro ((pre2++[y],rest2)) ⟨(by have hz:=hg2;rw[←hz];simp),(by simp),sx ⟨⟨_,rfl,xap ?_⟩,⟨⟨_,rfl,LeA.glg ?_⟩,trivial⟩⟩ ⟨zab ?_,trivial⟩⟩;iterate 3 focus (first|(dsimp only;rw[zcR (zdE (by assumption)),xat,xat];simp only[xaf,List.append_assoc];rfl)|(dsimp only;rw[zcR (zdE (by assumption))];simp only[Pat.cs_len,xaa,xab,xah];omega)|(simp;done))
   refine ar ?_;refine Exists.intro ((pre2++[y],rest2)) ⟨(by have hz:=hg2;rw[←hz];simp),(by simp),sx ⟨⟨_,rfl,xap ?_⟩,⟨⟨_,rfl,LeA.glg ?_⟩,trivial⟩⟩ ⟨zab ?_,trivial⟩⟩;iterate 3 focus (first|(dsimp only;rw[zgt (zgd (by first|assumption|(simp_all;done)))];done)|(simp;done))
   try simp only[Q,Pat.cs_len] at h3p
   have hrest2:rest2=[]:=by
    rcases rest2 with _|⟨a,b⟩
    ·rfl
    ·exfalso;have hz:=congrArg List.length (hg2);simp only[xaa,xab,xac] at hz;omega
   subst hrest2;refine ar ?_;refine Exists.intro ((pre++[e],rest)) ⟨(by have hz:=hg1;rw[←hz];simp),(by simp),sx ⟨⟨_,rfl,xap ?_⟩,⟨⟨_,rfl,LeA.glg ?_⟩,trivial⟩⟩ ⟨zab ?_,trivial⟩⟩;iterate 3 focus (first|(dsimp only;rw[List.append_nil] at hg2;subst hg2;rw[List.flatMap_append];simp;done)|(simp;done))
   try simp only[Q,Pat.cs_len] at h2p
   have hrest:rest=[]:=by
    rcases rest with _|⟨a,b⟩
    ·rfl
    ·exfalso;have hz:=congrArg List.length (hg1);simp only[xaa,xab,xac] at hz;omega
   subst hrest;obtain rfl:pre=X:=(by simpa using hg1);refine evc [14] [] ?_;refine Walk.call (cr:=[]) zwi (hse) rfl .none rfl rfl (.cons (.refl _) (.cons (.refl _) (.cons (.gl _ _) .nil))) trivial rfl rfl rfl ?_;refine evs [14] [] ?_;refine asg ?_;refine evs [14] [] ?_;refine wc zwj (hre) rfl rfl ?_;refine evs [14] [] ?_;refine rn0 (r2 rfl rfl) (.tup (.cons (.eqd ?_) (.cons (.eqd ?_) .nil)));rotate_left 2;all_goals (first|exact(zi5 (z:=z) (b:=b)).1|exact congrArg D.bool (zi5 (z:=z) (b:=b)).2)
theorem zfT {w:List Data} (hs:WSmall w){a k:Int}{p q:Pat} (hp:p.ok) (hq:q.ok) (hpz:p.size≤1000000000000) (hqz:q.size≤1000000000000) (hfew:zch w a k p q=true→FewQ w ⟨a,k⟩ (zbT (zaF p) (zaF q))):
  FnD Tryz.prog 27 [.d (zam w),.agg [.d (.i a),.d (.i k)],.agg [.d (.i p.op),.d (.i p.ctor),.d (.i p.n),.d (.i p.m),.d (.i p.var),.d (zad p.kids)],.agg [.d (.i q.op),.d (.i q.ctor),.d (.i q.n),.d (.i q.m),.d (.i q.var),.d (zad q.kids)]] []
   (.tup [.d (zad ((meV w a k p q).getD [])),.d (.bool (meV w a k p q).isSome)]) []:=by
 have hbp:=zp0 hs (a:=a) (k:=k) hp hq hpz hqz;cases h2:zch w a k p q with
 |false=>
  rw[zra h2];rw[h2] at hbp;generalize (if (zaL w a k p&&zaL w a k q)=true then za0 (zau p) else [])=z1 at hbp;generalize (if (zaL w a k p&&zaL w a k q)=true then za0 (zau q) else [])=z2 at hbp;refine bd Tryz.f27 78 [] [] fun w0 F0 own kept hk=>?_;refine bx 3005 ?_;refine bx 3006 ?_;refine bx 3007 ?_;refine ev ?_;refine wc zs9 (hbp) rfl rfl ?_;refine ev ?_;refine sq ?_ ?_<;>intro h1 h1p h1s;refine xbg sl26 .none rfl ?_;refine ev ?_;refine rn0 (r2 rfl rfl) (.tup (.cons (.eqd ?_) (.cons (.eqd ?_) .nil)));rotate_left 2;focus (exfalso;contradiction)
  all_goals (rfl)
 |true=>
  obtain⟨hsp,hin,t1,t2,_⟩:=zdN hs h2;have hpq:(zaL w a k p&&zaL w a k q)=true∧zcY p=true∧zcY q=true:=by
   unfold zch at h2;simp only[xad] at h2;have h5:=h2.1.1;unfold zaL at h5 ⊢;rw[xad] at h5;exact⟨by rw[h5.1,h5.2,h2.1.2];rfl,h2.2⟩
  rw[h2,if_pos hpq.1,if_pos hpq.1,zpE hpq.2.1,zpE hpq.2.2] at hbp;have hn:=zim hsp.dp;have hxl:=zeO p;have hyl:=zeO q;have hme:=fun(x y:Pat) (hx:x∈zaF p) (hy:y∈zaF q)=>zgo hsp 10 10 (Nat.le_refl _) hin (t1 x hx) (t2 y hy);have hml:=zkA hxl hyl;have hmp:=zfM t1 t2;have hse:=znW hsp hin hmp hml (hfew h2);have hfl:∀pre x rest,pre++x::rest=zaF p→(pre.flatMap fun x=>(zaF q).filterMap (zan 10 x)).length≤1600:=fun pre x rest h=>by
   have h3:=zgG (f:=fun x=>(zaF q).filterMap (zan 10 x)) (k:=40) (fun x=>Nat.le_trans (List.length_filterMap_le _ _) hyl) pre;have h4:=congrArg List.length h;simp only[xaa,xab] at h4;omega
  cases h3:sepV w ⟨a,k⟩ (zbT (zaF p) (zaF q)) with
  |none=>
   rw[ztt h2 h3];rw[h3] at hse;have hre:=zir hsp hin (l:=[]) (ok:=false) (by simp) (by simp);unfold zbT at hse;clear hmp hml h3 hfew;generalize zaF p=X at *;generalize zaF q=Y at *;refine bd Tryz.f27 78 [] [14] fun w0 F0 own kept hk=>?_;refine bx 3005 ?_;refine bx 3006 ?_;refine bx 3007 ?_;refine ev ?_;refine wc zs9 (hbp) rfl rfl ?_;refine ev ?_;refine sq ?_ ?_<;>intro h1 h1p h1s;focus (exfalso;contradiction)
   refine xbh 9 sl26 .none rfl rfl ?_;refine ev ?_;refine xaj (ι:=List (Pat)×List (Pat)) hk (fun x=>[(14,.d (.i (x.1.length:Int))),(13,.gl 9 (Pat.cs (x.1.flatMap fun x=>Y.filterMap (zan 10 x))))]) [15,16,17,33,34,35,36,37,38,39,40,41,42,43,44,45,46,47,48,49,50,51,52,53,54,55,56,57,58,59,60,61] (fun x=>[(9,some (.tok ((Pat.cs (x.1.flatMap fun x=>Y.filterMap (zan 10 x)))).length 6))]) (fun x=>x.1++x.2=X) (fun x=>x.2.length) ([],X) (by simp) ⟨⟨_,rfl,xap ?_⟩,⟨⟨_,rfl,LeA.glg ?_⟩,trivial⟩⟩ ⟨zab ?_,trivial⟩ (fun x=>rfl) (fun x hg1=>?_);iterate 3 focus (rfl)
   obtain⟨pre,rest⟩:=x;dsimp only at hg1 ⊢;refine evc [] [14] ?_;refine sq ?_ ?_<;>intro h2 h2p h2s;try simp only[Q,Pat.cs_len] at h2p
   rcases rest with _|⟨e,rest⟩
   ·exfalso;simp_all
   refine xaj (ι:=List (Pat)×List (Pat)) hk (fun x=>[(15,.d (.i (x.1.length:Int))),(13,.gl 9 (Pat.cs ((pre.flatMap fun x=>Y.filterMap (zan 10 x))++x.1.filterMap (zan 10 e))))]) [16,17,39,40,41,42,43,44,45,46,47,48,49,50,51,52,53,54,55,56,57,58,59,60,61] (fun x=>[(9,some (.tok ((Pat.cs ((pre.flatMap fun x=>Y.filterMap (zan 10 x))++x.1.filterMap (zan 10 e)))).length 6))]) (fun x=>x.1++x.2=Y) (fun x=>x.2.length) ([],Y) (by simp) ⟨⟨_,rfl,xap ?_⟩,⟨⟨_,rfl,LeA.glg ?_⟩,trivial⟩⟩ ⟨zab ?_,trivial⟩ (fun x=>rfl) (fun x hg2=>?_);iterate 3 focus ((simp;done))
   obtain⟨pre2,rest2⟩:=x;dsimp only at hg2 ⊢;refine evc [] [14] ?_;refine sq ?_ ?_<;>intro h3 h3p h3s;try simp only[Q,Pat.cs_len] at h3p
   rcases rest2 with _|⟨y,rest2⟩
   ·exfalso;simp_all
   refine xaT sl26 .none rfl rfl rfl rfl (Pat.cs_at' hg1) rfl ?_;refine evd [] [] ?_;refine xaT sl26 .none rfl rfl rfl rfl (Pat.cs_at' hg2) rfl ?_;refine evd [] [] ?_;refine wc zp8 (hme e y (by rw[←hg1];simp) (by rw[←hg2];simp)) rfl rfl ?_;refine evd [] [] ?_;refine ab 3016 tz28 ?_;refine so ty28 ?_;refine evd [] [] ?_;refine dr ?_;refine sq ?_ ?_<;>intro h4 h4p h4s;refine si [0] [_] sl26 tz28 ?_;refine ap sl26 zz28 rfl rfl rfl (by intro x hx;simp at hx;subst hx;rfl) (by have h9:=hfl pre e rest hg1;have h8:=List.length_filterMap_le (zan 10 e) pre2;have h7:=congrArg List.length hg2;simp only[xaa,xab] at h7;simp only[Pat.cs_len,xaa,xab,xah];omega) ?_;refine ev ?_;refine ar ?_;refine Exists.intro ((pre2++[y],rest2)) ⟨(by have hz:=hg2;rw[←hz];simp),(by simp),sx ⟨⟨_,rfl,xap ?_⟩,⟨⟨_,rfl,LeA.glg ?_⟩,trivial⟩⟩ ⟨zab ?_,trivial⟩⟩;iterate 3 focus (first|(dsimp only;rw[zcR (zdE (by assumption)),←zjt (by assumption),xat,xat];simp only[xaf,List.append_assoc];rfl)|(dsimp only;rw[zcR (zdE (by assumption))];simp only[Pat.cs_len,xaa,xab,xah];omega)|(simp;done))
   refine ar ?_;refine Exists.intro ((pre2++[y],rest2)) ⟨(by have hz:=hg2;rw[←hz];simp),(by simp),sx ⟨⟨_,rfl,xap ?_⟩,⟨⟨_,rfl,LeA.glg ?_⟩,trivial⟩⟩ ⟨zab ?_,trivial⟩⟩;iterate 3 focus (first|(dsimp only;rw[zgt (zgd (by first|assumption|(simp_all;done)))];done)|(simp;done))
   try simp only[Q,Pat.cs_len] at h3p
   have hrest2:rest2=[]:=by
    rcases rest2 with _|⟨a,b⟩
    ·rfl
    ·exfalso;have hz:=congrArg List.length (hg2);simp only[xaa,xab,xac] at hz;omega
   subst hrest2;refine ar ?_;refine Exists.intro ((pre++[e],rest)) ⟨(by have hz:=hg1;rw[←hz];simp),(by simp),sx ⟨⟨_,rfl,xap ?_⟩,⟨⟨_,rfl,LeA.glg ?_⟩,trivial⟩⟩ ⟨zab ?_,trivial⟩⟩;iterate 3 focus (first|(dsimp only;rw[List.append_nil] at hg2;subst hg2;rw[List.flatMap_append];simp;done)|(simp;done))
   try simp only[Q,Pat.cs_len] at h2p
   have hrest:rest=[]:=by
    rcases rest with _|⟨a,b⟩
    ·rfl
    ·exfalso;have hz:=congrArg List.length (hg1);simp only[xaa,xab,xac] at hz;omega
   subst hrest;obtain rfl:pre=X:=(by simpa using hg1);refine evc [] [] ?_;refine wc zta (hn) rfl rfl ?_;refine evd [] [] ?_;refine Walk.call (cr:=[]) zwk (hse) rfl .none rfl rfl (.cons (.refl _) (.cons (.refl _) (.cons (.refl _) (.cons (.gl _ _) .nil)))) trivial rfl rfl rfl ?_;refine evd [] [] ?_;refine dr ?_;refine wc zwl (hre) rfl rfl ?_;refine ev ?_;refine rn0 (r2 rfl rfl) (.tup (.cons (.eqd ?_) (.cons (.eqd ?_) .nil)));rotate_left 2;all_goals (rfl)
  |some z=>
   rw[ztu h2 h3];have hz4:=hfew h2 z h3;rw[h3] at hse;have hzp:=zkP _ [] [] (by simp) hmp (by simp) h3;have hre:=zir hsp hin (l:=z) (ok:=true) (fun x hx=>⟨(zgh hsp 11 hin (hzp x hx)).1,by have:=(zgh hsp 11 hin (hzp x hx)).2;have:=zrl (n:=11) (by omega);omega⟩) (by omega);rw[Bool.and_true] at hre;generalize z.all (isP w ⟨a,k⟩)=b at *;unfold zbT at hse;clear hmp hml h3 hfew;generalize zaF p=X at *;generalize zaF q=Y at *;refine bd Tryz.f27 78 [] [14] fun w0 F0 own kept hk=>?_;refine bx 3005 ?_;refine bx 3006 ?_;refine bx 3007 ?_;refine ev ?_;refine wc zs9 (hbp) rfl rfl ?_;refine ev ?_;refine sq ?_ ?_<;>intro h1 h1p h1s;focus (exfalso;contradiction)
   refine xbh 9 sl26 .none rfl rfl ?_;refine ev ?_;refine xaj (ι:=List (Pat)×List (Pat)) hk (fun x=>[(14,.d (.i (x.1.length:Int))),(13,.gl 9 (Pat.cs (x.1.flatMap fun x=>Y.filterMap (zan 10 x))))]) [15,16,17,33,34,35,36,37,38,39,40,41,42,43,44,45,46,47,48,49,50,51,52,53,54,55,56,57,58,59,60,61] (fun x=>[(9,some (.tok ((Pat.cs (x.1.flatMap fun x=>Y.filterMap (zan 10 x)))).length 6))]) (fun x=>x.1++x.2=X) (fun x=>x.2.length) ([],X) (by simp) ⟨⟨_,rfl,xap ?_⟩,⟨⟨_,rfl,LeA.glg ?_⟩,trivial⟩⟩ ⟨zab ?_,trivial⟩ (fun x=>rfl) (fun x hg1=>?_);iterate 3 focus (rfl)
   obtain⟨pre,rest⟩:=x;dsimp only at hg1 ⊢;refine evc [] [14] ?_;refine sq ?_ ?_<;>intro h2 h2p h2s;try simp only[Q,Pat.cs_len] at h2p
   rcases rest with _|⟨e,rest⟩
   ·exfalso;simp_all
   refine xaj (ι:=List (Pat)×List (Pat)) hk (fun x=>[(15,.d (.i (x.1.length:Int))),(13,.gl 9 (Pat.cs ((pre.flatMap fun x=>Y.filterMap (zan 10 x))++x.1.filterMap (zan 10 e))))]) [16,17,39,40,41,42,43,44,45,46,47,48,49,50,51,52,53,54,55,56,57,58,59,60,61] (fun x=>[(9,some (.tok ((Pat.cs ((pre.flatMap fun x=>Y.filterMap (zan 10 x))++x.1.filterMap (zan 10 e)))).length 6))]) (fun x=>x.1++x.2=Y) (fun x=>x.2.length) ([],Y) (by simp) ⟨⟨_,rfl,xap ?_⟩,⟨⟨_,rfl,LeA.glg ?_⟩,trivial⟩⟩ ⟨zab ?_,trivial⟩ (fun x=>rfl) (fun x hg2=>?_);iterate 3 focus ((simp;done))
   obtain⟨pre2,rest2⟩:=x;dsimp only at hg2 ⊢;refine evc [] [14] ?_;refine sq ?_ ?_<;>intro h3 h3p h3s;try simp only[Q,Pat.cs_len] at h3p
   rcases rest2 with _|⟨y,rest2⟩
   ·exfalso;simp_all
   refine xaT sl26 .none rfl rfl rfl rfl (Pat.cs_at' hg1) rfl ?_;refine evd [] [] ?_;refine xaT sl26 .none rfl rfl rfl rfl (Pat.cs_at' hg2) rfl ?_;refine evd [] [] ?_;refine wc zp8 (hme e y (by rw[←hg1];simp) (by rw[←hg2];simp)) rfl rfl ?_;refine evd [] [] ?_;refine ab 3016 tz28 ?_;refine so ty28 ?_;refine evd [] [] ?_;refine dr ?_;refine sq ?_ ?_<;>intro h4 h4p h4s;refine si [0] [_] sl26 tz28 ?_;refine ap sl26 zz28 rfl rfl rfl (by intro x hx;simp at hx;subst hx;rfl) (by have h9:=hfl pre e rest hg1;have h8:=List.length_filterMap_le (zan 10 e) pre2;have h7:=congrArg List.length hg2;simp only[xaa,xab] at h7;simp only[Pat.cs_len,xaa,xab,xah];omega) ?_;refine ev ?_;refine ar ?_;refine Exists.intro ((pre2++[y],rest2)) ⟨(by have hz:=hg2;rw[←hz];simp),(by simp),sx ⟨⟨_,rfl,xap ?_⟩,⟨⟨_,rfl,LeA.glg ?_⟩,trivial⟩⟩ ⟨zab ?_,trivial⟩⟩;iterate 3 focus (first|(dsimp only;rw[zcR (zdE (by assumption)),←zjt (by assumption),xat,xat];simp only[xaf,List.append_assoc];rfl)|(dsimp only;rw[zcR (zdE (by assumption))];simp only[Pat.cs_len,xaa,xab,xah];omega)|(simp;done))
   refine ar ?_;refine Exists.intro ((pre2++[y],rest2)) ⟨(by have hz:=hg2;rw[←hz];simp),(by simp),sx ⟨⟨_,rfl,xap ?_⟩,⟨⟨_,rfl,LeA.glg ?_⟩,trivial⟩⟩ ⟨zab ?_,trivial⟩⟩;iterate 3 focus (first|(dsimp only;rw[zgt (zgd (by first|assumption|(simp_all;done)))];done)|(simp;done))
   try simp only[Q,Pat.cs_len] at h3p
   have hrest2:rest2=[]:=by
    rcases rest2 with _|⟨a,b⟩
    ·rfl
    ·exfalso;have hz:=congrArg List.length (hg2);simp only[xaa,xab,xac] at hz;omega
   subst hrest2;refine ar ?_;refine Exists.intro ((pre++[e],rest)) ⟨(by have hz:=hg1;rw[←hz];simp),(by simp),sx ⟨⟨_,rfl,xap ?_⟩,⟨⟨_,rfl,LeA.glg ?_⟩,trivial⟩⟩ ⟨zab ?_,trivial⟩⟩;iterate 3 focus (first|(dsimp only;rw[List.append_nil] at hg2;subst hg2;rw[List.flatMap_append];simp;done)|(simp;done))
   try simp only[Q,Pat.cs_len] at h2p
   have hrest:rest=[]:=by
    rcases rest with _|⟨a,b⟩
    ·rfl
    ·exfalso;have hz:=congrArg List.length (hg1);simp only[xaa,xab,xac] at hz;omega
   subst hrest;obtain rfl:pre=X:=(by simpa using hg1);refine evc [] [] ?_;refine wc zta (hn) rfl rfl ?_;refine evd [] [] ?_;refine Walk.call (cr:=[]) zwk (hse) rfl .none rfl rfl (.cons (.refl _) (.cons (.refl _) (.cons (.refl _) (.cons (.gl _ _) .nil)))) trivial rfl rfl rfl ?_;refine evd [] [] ?_;refine dr ?_;refine wc zwl (hre) rfl rfl ?_;refine ev ?_;refine rn0 (r2 rfl rfl) (.tup (.cons (.eqd ?_) (.cons (.eqd ?_) .nil)));rotate_left 2;all_goals (first|exact(zi5 (z:=z) (b:=b)).1|exact congrArg D.bool (zi5 (z:=z) (b:=b)).2)
end Go.Proofs.YtpgdedpljcedpaaGreat
namespace Go.Proofs.YtpgdedpljcedpaaGreat
open Go
set_option linter.unusedSimpArgs false
set_option linter.unusedVariables false
theorem zuG (L:List Nat) (hp:Hp) (i:Nat):getH (L.map (fun j=>(j,(none:Option Res)))++hp) i=if i∈L then none else getH hp i:=by
 induction L with
 |nil=>simp
 |cons x r ih=>
  simp only[xae,xag,zal,List.mem_cons];by_cases h:i=x
  ·subst h;simp
  ·simp[h,ih]
section
variable {c:Ctx}
theorem R.drop {G:Gh}{s:St}{a:Act}{w:World} (hr:R c G s a w) (L:List Nat) (hk:∀i l,c.kept i=some l→i∉L):R c G ⟨s.env,L.map (fun j=>(j,none))++s.hp⟩ a w:=by
 have hg:=zuG L s.hp;have hT:∀i p,tokf (L.map (fun j=>(j,(none:Option Res)))++s.hp) i=some p→tokf s.hp i=some p:=fun i p h=>by
  obtain⟨n,k⟩:=p;have:=zax.1 h;rw[hg] at this;split at this
  ·cases this
  ·exact zax.2 this
 have hm:∀ {x:AV}{v:Value},RelA G (tokf s.hp) w x v→RelA G (tokf (L.map (fun j=>(j,(none:Option Res)))++s.hp)) w x v:=fun hx=>
  hx.mono (fun _ _ ho=>⟨ho,rfl⟩) (fun _ _=> .inl rfl) (fun i _ p hp=>⟨hT i p hp,fun _ _=>⟨rfl,rfl⟩⟩)
 have hs:∀i r,getH (L.map (fun j=>(j,(none:Option Res)))++s.hp) i=some r→getH s.hp i=some r:=fun i r h=>by
  rw[hg] at h;split at h
  ·cases h
  ·exact h
 have hss:∀i,(getH (L.map (fun j=>(j,(none:Option Res)))++s.hp) i).isSome→(getH s.hp i).isSome:=fun i h=>by
  obtain⟨r,hr⟩:=Option.isSome_iff_exists.1 h;rw[hs i r hr];rfl
 refine⟨hr.size,hr.defers,fun i v h=>hm (hr.slots i v h),fun i r h=>?_,fun i j h1 h2=>hr.disj i j (hss i h1) (hss j h2),fun i h=>hr.new i (hss i h),hr.frm,hr.top,fun i l hl=>?_⟩
 ·have hh:=hr.heap i r (hs i r h);cases r with
  |box cs=>
   obtain⟨b,vs,e,h1,h2,h3,h4,h5⟩:=hh;exact⟨b,vs,e,h1,h2,h3,h4,fun j hj hv=>hm (h5 j hj hv)⟩
  |tok m k=>exact hh
  |map ks=>exact hh
  |tree cs=>exact zbt hh rfl (fun _ _=>⟨rfl,rfl⟩) (Nat.le_refl _) (fun _ _ _=>hm)
 ·obtain⟨k1,k2,k3⟩:=hr.kept i l hl;refine⟨k1, ?_, ?_⟩
  ·show(getH (L.map (fun j=>(j,(none:Option Res)))++s.hp) i).isSome
   rw[hg,if_neg (hk i l hl)];exact k2
  ·show tokf (L.map (fun j=>(j,(none:Option Res)))++s.hp) i=none
   cases h:tokf (L.map (fun j=>(j,(none:Option Res)))++s.hp) i with
   |none=>rfl
   |some p=>rw[hT i p h] at k3;cases k3
inductive RowT (hp:Hp):List AV→List D→List (Nat×Nat×Nat)→Prop
 |nil:RowT hp [] [] []
 |sc {x cs ds js} (hs:zlm x=true) (h:RowT hp cs ds js):RowT hp (.d x::cs) (x::ds) js
 |ni {cs ds js} (h:RowT hp cs ds js):RowT hp (.nils::cs) (.sl []::ds) js
 |gt {j zs n k cs ds js} (hj:getH hp j=some (.tok n k)) (hn:n=zs.length) (h:RowT hp cs ds js):RowT hp (.gt j zs::cs) (.sl zs::ds) ((j,n,k)::js)
theorem RowT.move {hp hp':Hp}{cs:List AV}{ds:List D}{js:List (Nat×Nat×Nat)} (h:RowT hp cs ds js):(∀q,q∈js→getH hp' q.1=some (.tok q.2.1 q.2.2))→RowT hp' cs ds js:=by
 induction h with
 |nil=>intro _;exact .nil
 |sc hs _ ih=>intro h;exact .sc hs (ih h)
 |ni _ ih=>intro h;exact .ni (ih h)
 |gt hj hn _ ih=>intro h;exact .gt (h (_,_,_) List.mem_cons_self) hn (ih fun q hq=>h q (List.mem_cons_of_mem _ hq))
theorem RowT.len {hp:Hp}{cs:List AV}{ds:List D}{js:List (Nat×Nat×Nat)} (h:RowT hp cs ds js):ds.length=cs.length:=by
 induction h with
 |nil=>rfl
 |sc _ _ ih=>simp[ih]
 |ni _ ih=>simp[ih]
 |gt _ _ _ ih=>simp[ih]
end
end Go.Proofs.YtpgdedpljcedpaaGreat
namespace Go.Proofs.YtpgdedpljcedpaaGreat
open Go
set_option linter.unusedSimpArgs false
set_option linter.unusedVariables false
set_option maxRecDepth 100000
set_option maxHeartbeats 2000000
def smB (n:Nat) (w:List Data):Bool:=decide (w.length≤n)&&w.all fun d=>decide (d.name.length≤n)&&(decide (d.ctors.length≤n)&&d.ctors.all fun c=>decide (c.name.length≤n)&&decide (c.args.length≤n))
structure Sm (n:Nat) (w:List Data):Prop where
 len:w.length≤n
 data:∀d∈w,d.name.length≤n∧d.ctors.length≤n
 ctor:∀d∈w,∀c∈d.ctors,c.name.length≤n∧c.args.length≤n
theorem zu4 {n:Nat}{w:List Data} (h:smB n w=true):Sm n w:=by
 simp only[smB,xad,decide_eq_true_eq,List.all_eq_true] at h;exact⟨h.1,fun d hd=>⟨(h.2 d hd).1,(h.2 d hd).2.1⟩,fun d hd c hc=>(h.2 d hd).2.2 c hc⟩
theorem Sm.small {n:Nat}{w:List Data} (h:Sm n w) (hn:n≤1000000000000):WSmall w:=
 ⟨Nat.le_trans h.len hn,fun d hd=>⟨Nat.le_trans (h.data d hd).1 hn,Nat.le_trans (h.data d hd).2 hn⟩,fun d hd c hc=>⟨Nat.le_trans (h.ctor d hd c hc).1 hn,Nat.le_trans (h.ctor d hd c hc).2 hn⟩⟩
theorem ztU:((List.range 7).all fun i=>smB 10 (zdk (nth zdF i)).1&&(za7 (zdk (nth zdF i)).1&&decide (1≤(zdk (nth zdF i)).1.length)))=true:=by kernel_rfl
structure WorldD (w:List Data):Prop where
 sm:Sm 10 w
 small:WSmall w
 valid:za7 w=true
 one:1≤w.length
theorem zgV (b:Str) (p:Nat):WorldD (za6 b p):=by
 have h:=List.all_eq_true.1 ztU (zaz b p 7).toNat (List.mem_range.2 (zqe b p));simp only[xad,decide_eq_true_eq] at h;exact⟨zu4 h.1,(zu4 h.1).small (by omega),h.2.1,h.2.2⟩
theorem zoE {w:List Data} (hw:WT w){n:Nat}{f:Nat→Nat}{a k c:Int} (ht:TyIn w.length ⟨a,k⟩) (hc:c∈zah w ⟨a,k⟩) (hn:n≤100) (hb:∀s,f s≤100000) (hin:∀u∈zaa w ⟨a,k⟩ c,InS n u):
  FnD Tryz.prog 98 [.d (zam w),.d (zeX n f),.agg [.d (.i a),.d (.i k)],.d (.i c)] [] (.d (.i (most w f ⟨a,k⟩ c))) []:=by
 have hl:=zhz hw ht hc;have hd:=zqb hb (by omega);refine bd Tryz.f98 37 [] [] fun w0 F0 own kept hk=>?_;refine bx 3006 ?_;refine ev ?_;refine wc zgD (zck hw ht hc) rfl rfl ?_;refine ev ?_;refine xaj (ι:=List (Ty)×List (Ty)×(Nat)) hk (fun x=>[(11,.d (.i (x.1.length:Int))),(10,.d (.i (x.2.2:Int)))]) [8,12,17,18,19,20,21,22,23,24,25,26,27,28,29,30,31,32,33,34] (fun x=>[]) (fun x=>x.1++x.2.1=zaa w ⟨a,k⟩ c∧x.2.2≤100000∧zbz f x.2.2 x.2.1=zbz f 0 (zaa w ⟨a,k⟩ c)) (fun x=>x.2.1.length) ([],zaa w ⟨a,k⟩ c,0) ⟨by simp,by simp,rfl⟩ ⟨⟨_,rfl,xap ?_⟩,⟨⟨_,rfl,xap ?_⟩,trivial⟩⟩ trivial (fun x=>rfl) (fun x hg1=>?_);iterate 2 focus (first|rfl|(simp;done)|omega|(dsimp only;omega))
 obtain⟨pre,rest,m⟩:=x;dsimp only at hg1 ⊢;refine evc [] [] ?_;refine sq ?_ ?_<;>intro h1 h1p h1s;try simp only[Q] at h1p
 rcases rest with _|⟨y,rest⟩
 ·exfalso;simp_all
 have hdy:=hd y;have hye:dv f ⟨y.data,y.index⟩=dv f y:=rfl;refine xaT zaZ .none rfl rfl rfl rfl (zaK hg1.1) rfl ?_;refine ev ?_;refine wc zj6 (zeh (f:=f) (a:=y.data) (k:=y.index) (hin y (by rw[←hg1.1];simp)) hn) rfl rfl ?_;refine ev ?_;refine sq ?_ ?_<;>intro h2 h2p h2s;try simp only[Q] at h2p
 refine rn0 (r1 rfl) (.eqd ?_);rotate_left;try simp only[Q] at h2p
 refine sq ?_ ?_<;>intro h3 h3p h3s;try simp only[Q] at h3p
 refine ar ?_;refine Exists.intro ((pre++[y],rest,max m (dv f y))) ⟨⟨(by have hz:=hg1.1;rw[←hz];simp),⟨(by have:=hd y;dsimp only;omega),(by rw[←hg1.2.2];simp only[zbz];rw[if_neg (by have:=hd y;omega)])⟩⟩,(by simp),sx ⟨⟨_,rfl,xap ?_⟩,⟨⟨_,rfl,xap ?_⟩,trivial⟩⟩ trivial⟩;iterate 2 focus (first|rfl|(simp;done)|omega|(dsimp only;omega))
 try simp only[Q] at h3p
 refine ar ?_;refine Exists.intro ((pre++[y],rest,max m (dv f y))) ⟨⟨(by have hz:=hg1.1;rw[←hz];simp),⟨(by have:=hd y;dsimp only;omega),(by rw[←hg1.2.2];simp only[zbz];rw[if_neg (by have:=hd y;omega)])⟩⟩,(by simp),sx ⟨⟨_,rfl,xap ?_⟩,⟨⟨_,rfl,xap ?_⟩,trivial⟩⟩ trivial⟩;iterate 2 focus (first|rfl|(simp;done)|omega|(dsimp only;omega))
 try simp only[Q] at h1p
 have hrest:rest=[]:=by
  rcases rest with _|⟨a,b⟩
  ·rfl
  ·exfalso;have hz:=congrArg List.length (hg1.1);simp only[xaa,xab,xac] at hz;omega
 subst hrest;refine ar ?_;refine rn0 (r1 rfl) (.eqd ?_);rotate_left;all_goals (refine congrArg D.i ?_;unfold most;rw[←hg1.2.2];first|(simp only[zbz];rw[if_pos (by omega)];rfl)|(simp only[zbz];omega))
def hdB (w:List Data):Nat→Ty→Bool
 |0,_=>false
 |d+1,t=>decide (t.data = -1)||(zaQ w t).any fun c=>decide (t.data≠ -1)&&(zaa w t c).all (hdB w d)
theorem zok (w:List Data):∀(d:Nat) (t:Ty),hdB w d t=true↔Hd w d t
 |0,t=>by simp[hdB,Hd]
 |d+1,t=>by
  simp only[hdB,Hd,Bool.or_eq_true,decide_eq_true_eq,List.any_eq_true,xad,List.all_eq_true,zok w d]
def Low (w:List Data):Prop:=∀s,zai w s≤3
theorem zyg {w:List Data} (hd:Dp w) (h:(List.range (w.length*4)).all (fun s=> !hdB w 4 (tyS s)||hdB w 3 (tyS s))=true):Low w:=by
 intro s;by_cases hs:s<w.length*4
 ·obtain⟨h1,h2⟩:=zc1 hd.cl (w.length*4+1);by_cases h0:zai w s=0
  ·omega
  ·have hh:=h1 s hs (Nat.pos_of_ne_zero h0);have h3:=zko hd.cl (d:=3) (by omega) (fun s hs hh=>by
    have:=List.all_eq_true.1 h s (List.mem_range.2 hs);rw[(zok w 4 (tyS s)).2 hh] at this;exact(zok w 3 _).1 (by simpa using this)) _ s hs hh
   by_cases h4:3≤w.length*4+1
   ·exact(h2 s hs 3 h4 h3).2
   ·omega
 ·have h0:=zjn (w:=w) (i:=s) (by omega) (w.length*4+1);show zbi w (w.length*4+1) s≤3
  omega
theorem ztV:((List.range 7).all fun i=>(List.range ((zdk (nth zdF i)).1.length*4)).all fun s=> !hdB (zdk (nth zdF i)).1 4 (tyS s)||hdB (zdk (nth zdF i)).1 3 (tyS s))=true:=by kernel_rfl
structure WorldL (w:List Data):Prop where
 dp:Dp w
 low:Low w
 few:Few w
theorem zd2 (b:Str) (p:Nat):WorldL (za6 b p):=by
 have ho:=zgV b p;have hd:=zmy ho.small ho.valid;exact⟨hd,zyg hd (List.all_eq_true.1 ztV (zaz b p 7).toNat (List.mem_range.2 (zqe b p))),zvj ho.small ho.valid⟩
theorem zuK {w:List Data} (hd:Dp w){t:Ty} (ht:InS (w.length*4) t) (hne:¬t.data = -1) (h:0<dv (zai w) t):∃c∈zah w t,0<most w (zai w) t c∧most w (zai w) t c=dv (zai w) t:=by
 obtain⟨h1,h2⟩:Snd w (zai w)∧Cmp w (w.length*4+1) (zai w):=zc1 hd.cl (w.length*4+1);have hcmp:∀k,Cmp w k (zai w):=fun k=>by
  have h3:=(zc1 hd.cl (max k (w.length*4+1))).2;rw[zlj hd.cl (Nat.le_max_right _ _)] at h3;exact fun s hs d hdk hh=>h3 s hs d (by omega) hh
 have hv:zah w t=zaQ w t:=by unfold zah;rw[if_neg hne]
 have hh:Hd w (dv (zai w) t) t:=zmT h1 ht h;rcases hd0:dv (zai w) t with _|e
 ·omega
 rw[hd0] at hh;rcases hh with hh|⟨c,hc,_,hu⟩
 ·exact absurd hh hne
 have hin:=zbn hd ht (c:=c) (by rw[hv];exact hc);have hp:=zkB (f:=zai w) (l:=zaa w t c) (m:=0) (k:=e) (Nat.zero_le _) (fun u hu'=>zkj (hcmp e) (hin u hu') (hu u hu'));refine⟨c,by rw[hv];exact hc,hp.1, ?_⟩;have hle:most w (zai w) t c≤e+1:=hp.2;have hpos:0<most w (zai w) t c:=hp.1

 have hsn:=zig (f:=zai w) (l:=zaa w t c) (m:=0) hp.1;have hH:Hd w (most w (zai w) t c) t:=by
  obtain⟨q,hq⟩:∃q,most w (zai w) t c=q+1:=⟨most w (zai w) t c-1,by omega⟩;rw[hq];refine .inr ⟨c,hc,hne,fun u hu'=>?_⟩;have hx:=hsn.2 u hu';have hlt:dv (zai w) u<most w (zai w) t c:=hx.2;exact Hd_le (by omega) (zmT h1 (hin u hu') hx.1)
 have hge:=(zkj (hcmp _) ht hH).2;omega
def zeH (w:List Data) (f:Nat→Nat) (t:Ty) (m c:Int):Bool:=decide (0<most w f t c)&&decide ((most w f t c:Int)≤m∨most w f t c=dv f t)
def zb9 (w:List Data) (f:Nat→Nat) (t:Ty) (m:Int):List Int:=(zah w t).filter (zeH w f t m)
theorem zqQ {P:Int→Bool}{pre:List Int}{y:Int} (h:P y=true):((pre++[y]).filter P).map (fun n=>[D.i n])=(pre.filter P).map (fun n=>[D.i n])++[[D.i y]]:=by simp[List.filter_append,h]
theorem zwX {P:Int→Bool}{pre:List Int}{y:Int} (h:P y=false):((pre++[y]).filter P).map (fun n=>[D.i n])=(pre.filter P).map (fun n=>[D.i n]):=by simp[List.filter_append,h]
def dV (f:Ty→Nat→Val×Nat):List Ty→Nat→List Val×Nat
 | [],q=>([],q)
 |t::r,q=>((f t q).1::(dV f r (f t q).2).1,(dV f r (f t q).2).2)
def zbU (b:Str) (w:List Data) (f:Nat→Nat):Nat→Ty→Int→Nat→Val×Nat
 |0,_,_,p=>(.mk 0 0 [],p)
 |n+1,t,m,p=>
  if t.data = -1 then (.mk (-1) (zaz b p 10) [],p+1)
  else (.mk (nth (zb9 w f t m) (zaz b p (zb9 w f t m).length).toNat) 0 (dV (fun u q=>zbU b w f n u (m-1) q) (zaa w t (nth (zb9 w f t m) (zaz b p (zb9 w f t m).length).toNat)) (p+1)).1,
   (dV (fun u q=>zbU b w f n u (m-1) q) (zaa w t (nth (zb9 w f t m) (zaz b p (zb9 w f t m).length).toNat)) (p+1)).2)
abbrev dW (b:Str) (w:List Data) (n:Nat) (m:Int):Ty→Nat→Val×Nat:=fun u x=>zbU b w (zai w) n u (m-1) x
def bdV:Nat→Nat
 |0=>0
 |d+1=>1+3*bdV d
def szV:Nat→Nat
 |0=>1
 |d+1=>1+3*szV d
theorem zwx {f:Ty→Nat→Val×Nat}{k:Nat}:∀(l:List Ty) (q:Nat),(∀t∈l,∀q,(f t q).2≤q+k)→(dV f l q).2≤q+l.length*k
 | [],q,_=>by simp[dV]
 |t::r,q,h=>by
  have h1:=h t (by simp) q;have h2:=zwx r (f t q).2 (fun x hx=>h x (by simp[hx]));simp only[dV,xab,Nat.add_mul];omega
theorem zuv {f:Ty→Nat→Val×Nat}:∀(l:List Ty) (q:Nat),(dV f l q).1.length=l.length
 | [],q=>rfl
 |t::r,q=>by simp only[dV,xab,zuv r]
theorem zwy {f:Ty→Nat→Val×Nat}{k:Nat}:∀(l:List Ty) (q:Nat),(∀t∈l,∀q,(f t q).1.size≤k∧(f t q).1.ok)→Vals.size (dV f l q).1≤l.length*k∧Vals.ok (dV f l q).1
 | [],q,_=>by simp[dV,Vals.size,Vals.ok]
 |t::r,q,h=>by
  have h1:=h t (by simp) q;have h2:=zwy r (f t q).2 (fun x hx=>h x (by simp[hx]));simp only[dV,xab,Nat.add_mul,Vals.size,Vals.ok];exact⟨by omega,h1.2,h2.2⟩
theorem zkm {w:List Data}{f:Nat→Nat}{t:Ty}{m c:Int} (h:c∈zb9 w f t m):c∈zah w t∧0<most w f t c∧((most w f t c:Int)≤m∨most w f t c=dv f t):=by
 have:=List.mem_filter.1 h;simpa [zeH] using this
structure Deep (w:List Data) (n:Nat) (t:Ty) (m:Int):Prop where
 ins:InS (w.length*4) t
 pos:0<dv (zai w) t
 le:dv (zai w) t≤n
 ml:m≤n
theorem zqP {w:List Data} (hd:Dp w){n:Nat}{t:Ty}{m:Int} (h:Deep w n t m) (hne:¬t.data = -1):1≤(zb9 w (zai w) t m).length:=by
 obtain⟨c,hc,h1,h2⟩:=zuK hd h.ins hne h.pos;exact List.length_pos_of_mem (a:=c) (List.mem_filter.2 ⟨hc,by have:=h.pos;simp[zeH,h2,this]⟩)
theorem zqJ {w:List Data} (hd:Dp w){n:Nat}{t:Ty}{m c:Int} (h:Deep w (n+1) t m) (hc:c∈zb9 w (zai w) t m):∀u∈zaa w t c,Deep w n u (m-1):=by
 intro u hu;obtain⟨h1,h2,h3⟩:=zkm hc;have hin:=zbn hd h.ins h1 u hu;have hs:=(zig (f:=zai w) (l:=zaa w t c) (m:=0) h2).2 u hu;have hlt:dv (zai w) u<most w (zai w) t c:=hs.2;have:=h.le;have:=h.ml;exact⟨hin,hs.1,by rcases h3 with h3|h3<;>omega,by omega⟩
theorem zpw {w:List Data} (hd:Dp w){n:Nat}{t:Ty}{m:Int} (h:Deep w n t m) (hne:¬t.data = -1) (b:Str) (p:Nat):nth (zb9 w (zai w) t m) (zaz b p (zb9 w (zai w) t m).length).toNat∈zb9 w (zai w) t m:=
 zjw (by have:=zqP hd h hne;omega)
theorem zjf {b:Str}{w:List Data} (hd:Dp w) (hf:Few w):∀(n:Nat) (t:Ty) (m:Int) (p:Nat),Deep w n t m→(zbU b w (zai w) n t m p).2≤p+bdV n∧(zbU b w (zai w) n t m p).1.size≤szV n∧(zbU b w (zai w) n t m p).1.ok
 |0,t,m,p,h=>by have:=h.pos;have:=h.le;omega
 |n+1,t,m,p,h=>by
  simp only[zbU,bdV,szV];split
  ·refine⟨by dsimp only;omega, ?_, ?_⟩
   ·simp only[Val.size,Vals.size];omega
   ·simp[Val.ok,Vals.ok]
  ·rename_i hne;have hm:=zpw hd h hne b p;generalize nth (zb9 w (zai w) t m) (zaz b p (zb9 w (zai w) t m).length).toNat=c at *;have hk:=zqJ hd h hm;have h3:=(hf t c (zkm hm).1 (zb3 h.ins)).1;have h1:=zwx (f:=fun u q=>zbU b w (zai w) n u (m-1) q) (k:=bdV n) (zaa w t c) (p+1) (fun u hu q=>(zjf hd hf n u (m-1) q (hk u hu)).1);have h2:=zwy (f:=fun u q=>zbU b w (zai w) n u (m-1) q) (k:=szV n) (zaa w t c) (p+1) (fun u hu q=>(zjf hd hf n u (m-1) q (hk u hu)).2);have h4:(zaa w t c).length*bdV n≤3*bdV n:=Nat.mul_le_mul_right _ h3;have h5:(zaa w t c).length*szV n≤3*szV n:=Nat.mul_le_mul_right _ h3;have h6:=zuv (f:=fun u q=>zbU b w (zai w) n u (m-1) q) (zaa w t c) (p+1);refine⟨by dsimp only;omega, ?_, ?_⟩
   ·simp only[Val.size];omega
   ·simp only[Val.ok];exact⟨by omega,h2.2⟩
section
variable {b:Str}{w:List Data}{f:Nat→Nat}{n p:Nat}{t:Ty}{m:Int}
theorem zwV (h:t.data = -1):zbU b w f (n+1) t m p=(.mk (-1) (zaz b p 10) [],p+1):=by simp only[zbU];rw[if_pos h]
theorem zwW (h:¬t.data = -1){c:Int} (hc:nth (zb9 w f t m) (zaz b p (zb9 w f t m).length).toNat=c):zbU b w f (n+1) t m p =
  (.mk c 0 (dV (fun u q=>zbU b w f n u (m-1) q) (zaa w t c) (p+1)).1,(dV (fun u q=>zbU b w f n u (m-1) q) (zaa w t c) (p+1)).2):=by
 simp only[zbU];rw[if_neg h,hc]
end
end Go.Proofs.YtpgdedpljcedpaaGreat
