/-
  THE ABSTRACT WALK AND THE WALKS, part 5 of 7: the parts F36, F37, F38, F79, F59, F80, F60, F61, F30, F63, F81, F110, F113, F120, F73, F82, F83, F84, G5, F122, F123, Ta, F90, F91, F92, F93, F94, F95, F39, F96.
-/
import Derived.Test.YtpgdedpljcedpaaGreatT4d4
namespace Go.Proofs.YtpgdedpljcedpaaGreat
open Go
set_option linter.unusedSimpArgs false
set_option linter.unusedVariables false
set_option maxRecDepth 100000
set_option maxHeartbeats 2000000
def namL (f:Pat→Int→Nat→Pat×Int×Nat):List Pat→Int→Nat→List Pat×Int×Nat
 | [],m,q=>([],m,q)
 |x::r,m,q=>((f x m q).1::(namL f r (f x m q).2.1 (f x m q).2.2).1,(namL f r (f x m q).2.1 (f x m q).2.2).2)
def namP (b:Str):Nat→Pat→Int→Nat→Pat×Int×Nat
 |0,p,m,q=>(p,m,q)
 |n+1,p,m,q=>
  if 5<m∨p.op=5∨p.op=3 then (p,m,q)
  else if p.op=1∧zay b q 2=0 then (⟨2,0,0,0,m,[]⟩,m+1,q+1)
  else if (namL (namP b n) p.kids m (if p.op=1 then q+1 else q)).2.1≤5 then
   (if zay b (namL (namP b n) p.kids m (if p.op=1 then q+1 else q)).2.2 6=0 then
    (⟨6,0,0,0,(namL (namP b n) p.kids m (if p.op=1 then q+1 else q)).2.1,[⟨p.op,p.ctor,p.n,p.m,p.var,(namL (namP b n) p.kids m (if p.op=1 then q+1 else q)).1⟩]⟩,
     (namL (namP b n) p.kids m (if p.op=1 then q+1 else q)).2.1+1,(namL (namP b n) p.kids m (if p.op=1 then q+1 else q)).2.2+1)
   else (⟨p.op,p.ctor,p.n,p.m,p.var,(namL (namP b n) p.kids m (if p.op=1 then q+1 else q)).1⟩,(namL (namP b n) p.kids m (if p.op=1 then q+1 else q)).2.1,(namL (namP b n) p.kids m (if p.op=1 then q+1 else q)).2.2+1))
  else (⟨p.op,p.ctor,p.n,p.m,p.var,(namL (namP b n) p.kids m (if p.op=1 then q+1 else q)).1⟩,(namL (namP b n) p.kids m (if p.op=1 then q+1 else q)).2.1,(namL (namP b n) p.kids m (if p.op=1 then q+1 else q)).2.2)
section
variable {b:Str}{n:Nat}{p:Pat}{m:Int}{q:Nat}{ks:List Pat}{zm:Int}{zq:Nat}
theorem ztq (h:5<m∨p.op=5∨p.op=3):namP b (n+1) p m q=(p,m,q):=by simp only[namP];rw[if_pos h]
theorem ztr (h:¬(5<m∨p.op=5∨p.op=3)) (h2:p.op=1∧zay b q 2=0):namP b (n+1) p m q=(⟨2,0,0,0,m,[]⟩,m+1,q+1):=by simp only[namP];rw[if_neg h,if_pos h2]
theorem zts (h:¬(5<m∨p.op=5∨p.op=3)) (h2:¬(p.op=1∧zay b q 2=0)) (hz:(ks,zm,zq)=namL (namP b n) p.kids m (if p.op=1 then q+1 else q)) (h3:zm≤5) (h4:zay b zq 6=0):
  namP b (n+1) p m q=(⟨6,0,0,0,zm,[⟨p.op,p.ctor,p.n,p.m,p.var,ks⟩]⟩,zm+1,zq+1):=by
 simp only[namP];rw[if_neg h,if_neg h2,←hz];dsimp only;rw[if_pos h3,if_pos h4]
theorem ztt (h:¬(5<m∨p.op=5∨p.op=3)) (h2:¬(p.op=1∧zay b q 2=0)) (hz:(ks,zm,zq)=namL (namP b n) p.kids m (if p.op=1 then q+1 else q)) (h3:zm≤5) (h4:¬zay b zq 6=0):
  namP b (n+1) p m q=(⟨p.op,p.ctor,p.n,p.m,p.var,ks⟩,zm,zq+1):=by
 simp only[namP];rw[if_neg h,if_neg h2,←hz];dsimp only;rw[if_pos h3,if_neg h4]
theorem ztu (h:¬(5<m∨p.op=5∨p.op=3)) (h2:¬(p.op=1∧zay b q 2=0)) (hz:(ks,zm,zq)=namL (namP b n) p.kids m (if p.op=1 then q+1 else q)) (h3:¬zm≤5):
  namP b (n+1) p m q=(⟨p.op,p.ctor,p.n,p.m,p.var,ks⟩,zm,zq):=by
 simp only[namP];rw[if_neg h,if_neg h2,←hz];dsimp only;rw[if_neg h3]
end
def NamOk (p:Pat) (m:Int) (q:Nat) (r:Pat×Int×Nat):Prop:=m≤r.2.1∧r.2.1≤6∧r.2.2≤q+2*p.size∧r.1.size≤2*p.size∧(p.ok→r.1.ok)
theorem zsG {f:Pat→Int→Nat→Pat×Int×Nat}:∀(l:List Pat) (m:Int) (q:Nat),(∀x∈l,∀m q,0≤m→m≤6→NamOk x m q (f x m q))→0≤m→m≤6→
  m≤(namL f l m q).2.1∧(namL f l m q).2.1≤6∧(namL f l m q).2.2≤q+2*Pats.size l∧Pats.size (namL f l m q).1≤2*Pats.size l∧(namL f l m q).1.length=l.length∧(Pats.ok l→Pats.ok (namL f l m q).1)
 | [],m,q,_,_,h6=>by simp[namL,Pats.size,h6]
 |x::r,m,q,h,h0,h6=>by
  obtain⟨a1,a2,a3,a4,a5⟩:=h x (by simp) m q h0 h6;obtain⟨b1,b2,b3,b4,b5,b6⟩:=zsG r (f x m q).2.1 (f x m q).2.2 (fun y hy=>h y (by simp[hy])) (by omega) a2;simp only[namL,Pats.size,xab];refine⟨by omega,by omega,by omega,by omega,by omega,fun ho=>?_⟩;exact⟨a5 ho.1,b6 ho.2⟩
theorem zor {b:Str}:∀(n:Nat) (p:Pat) (m:Int) (q:Nat),0≤m→m≤6→NamOk p m q (namP b n p m q)
 |0,p,m,q,h0,h6=>⟨by simp[namP],by simp[namP,h6],by simp[namP],by simp[namP];omega,fun h=>h⟩
 |n+1,p,m,q,h0,h6=>by
  have hs:=Pat.size_eq p;by_cases h:5<m∨p.op=5∨p.op=3
  ·rw[ztq h];exact⟨Int.le_refl _,h6,by dsimp only;omega,by dsimp only;omega,fun h=>h⟩
  ·by_cases h2:p.op=1∧zay b q 2=0
   ·rw[ztr h h2];refine⟨by dsimp only;omega,by dsimp only;omega,by dsimp only;omega, ?_,fun _=>?_⟩
    ·show(Pat.mk 2 0 0 0 m []).size≤_;rw[Pat.size_eq];simp only[Pat.kids,Pats.size];omega
    ·show(Pat.mk 2 0 0 0 m []).ok;rw[Pat.ok_iff];exact⟨by simp[Pat.kids],trivial⟩
   ·generalize hz:namL (namP b n) p.kids m (if p.op=1 then q+1 else q)=z;obtain⟨ks,zm,zq⟩:=z;have hq:(if p.op=1 then q+1 else q)≤q+1:=by split<;>omega
    obtain⟨b1,b2,b3,b4,b5,b6⟩:=zsG (f:=namP b n) p.kids m (if p.op=1 then q+1 else q) (fun x _ m q h0 h6=>zor n x m q h0 h6) h0 h6;rw[hz] at b1 b2 b3 b4 b5 b6;dsimp only at b1 b2 b3 b4 b5 b6;have so:(Pat.mk p.op p.ctor p.n p.m p.var ks).size=1+Pats.size ks:=by rw[Pat.size_eq];rfl
    have ko:p.ok→(Pat.mk p.op p.ctor p.n p.m p.var ks).ok:=fun h=>by
     rw[Pat.ok_iff] at h ⊢;exact⟨by show ks.length≤_;rw[b5];exact h.1,b6 h.2⟩
    by_cases h3:zm≤5
    ·by_cases h4:zay b zq 6=0
     ·rw[zts h h2 hz.symm h3 h4];refine⟨by dsimp only;omega,by dsimp only;omega,by dsimp only;omega, ?_,fun hk=>?_⟩
      ·dsimp only;rw[Pat.size_eq];simp only[Pat.kids,Pats.size];rw[so];omega
      ·dsimp only;rw[Pat.ok_iff];exact⟨by simp[Pat.kids],ko hk,trivial⟩
     ·rw[ztt h h2 hz.symm h3 h4];exact⟨b1,b2,by dsimp only;omega,by dsimp only;rw[so];omega,ko⟩
    ·rw[ztu h h2 hz.symm h3];exact⟨b1,b2,by dsimp only;omega,by dsimp only;rw[so];omega,ko⟩
theorem zme {f:Pat→Int→Nat→Pat×Int×Nat}{ks:List Pat}{zm:Int}{zq:Nat}{z:List Pat×Int×Nat} (h:(ks++(namL f [] zm zq).1,(namL f [] zm zq).2)=z):(ks,zm,zq)=z:=by
 rw[←h];simp[namL]
theorem xav {l:List Pat}{y:Pat}:Pats.size (l++[y])=Pats.size l+y.size:=by
 have:=Pats.size_split (pre:=l) (rest:=[]) (y:=y) rfl;simpa [Pats.size] using this
theorem zgj {b:Str} (hb:b.length≤2000):∀(n:Nat){p:Pat}{m:Int}{q:Nat},p.size≤n→p.ok→0≤m→m≤6→q+2*p.size≤1000000→
  FnD Tryz.prog 124 [.ref 900 0,.agg [.d (.i p.op),.d (.i p.ctor),.d (.i p.n),.d (.i p.m),.d (.i p.var),.d (zac p.kids)],.d (.i m)] [(900,some (rdB b q))] (.tup [.agg [.d (.i (namP b n p m q).1.op),.d (.i (namP b n p m q).1.ctor),.d (.i (namP b n p m q).1.n),.d (.i (namP b n p m q).1.m),.d (.i (namP b n p m q).1.var),.d (zac (namP b n p m q).1.kids)],.d (.i (namP b n p m q).2.1)]) [(900,some (rdB b (namP b n p m q).2.2))]
 |0,p,m,q,h,_,_,_,_=>by rw[Pat.size_eq] at h;omega
 |n+1,p,m,q,kn,hok,k0,k6,hq=>by
  have hs:=Pat.size_eq p;have hok':=hok;rw[Pat.ok_iff] at hok';have ih:=fun(x:Pat) (m:Int) (q:Nat) (h0:0≤m) (h6:m≤6)=>zor (b:=b) n x m q h0 h6;have hysz:∀ {pre rest:List Pat}{y:Pat},pre++y::rest=p.kids→y.size+Pats.size pre+Pats.size rest=Pats.size p.kids:=fun h=>by have:=Pats.size_split h;omega
  have hq1:(if p.op=1 then q+1 else q)≤q+1:=by split<;>omega
  generalize hqq:(if p.op=1 then q+1 else q)=q1 at hq1;have hqa:p.op=1→q1=q+1:=fun h=>by rw[←hqq,if_pos h]
  have hqb:¬p.op=1→q1=q:=fun h=>by rw[←hqq,if_neg h]
  refine bd Tryz.f124 82 [] [] fun w0 F0 own kept hk=>?_;refine bx 3004 ?_;refine ab 3006 tz28 ?_;refine ev ?_;refine sq ?_ ?_<;>intro h1 h1p h1s;try simp only[Q,Pat.cs_len] at h1p
  refine sqT ?_;refine sqT ?_;refine so ty28 ?_;refine ev ?_;refine rn [(900,some (rdB b (namP b (n+1) p m q).2.2))] (.cons (.cellA ty28 rfl rfl rfl) (.cons (.tmp rfl) .nil)) (.tup (.cons (.agg (.cons (.eqd ?_) (.cons (.eqd ?_) (.cons (.eqd ?_) (.cons (.eqd ?_) (.cons (.eqd ?_) (.cons (.eqd ?_) .nil))))))) (.cons (.eqd ?_) .nil))) ⟨rfl,rfl⟩ (SubO.get ⟨.inr ?_,⟨.inl rfl,trivial⟩⟩) (zaz rfl);rotate_left 8;try simp only[Q,Pat.cs_len] at h1p
  refine sq ?_ ?_<;>intro h3 h3p h3s;try simp only[Q,Pat.cs_len] at h3p
  refine sqT ?_;refine so ty28 ?_;refine ev ?_;refine rn [(900,some (rdB b (namP b (n+1) p m q).2.2))] (.cons (.cellA ty28 rfl rfl rfl) (.cons (.tmp rfl) .nil)) (.tup (.cons (.agg (.cons (.eqd ?_) (.cons (.eqd ?_) (.cons (.eqd ?_) (.cons (.eqd ?_) (.cons (.eqd ?_) (.cons (.eqd ?_) .nil))))))) (.cons (.eqd ?_) .nil))) ⟨rfl,rfl⟩ (SubO.get ⟨.inr ?_,⟨.inl rfl,trivial⟩⟩) (zaz rfl);rotate_left 8;try simp only[Q,Pat.cs_len] at h3p
  refine sq ?_ ?_<;>intro h5 h5p h5s;try simp only[Q,Pat.cs_len] at h5p
  refine so ty28 ?_;refine ev ?_;refine rn [(900,some (rdB b (namP b (n+1) p m q).2.2))] (.cons (.cellA ty28 rfl rfl rfl) (.cons (.tmp rfl) .nil)) (.tup (.cons (.agg (.cons (.eqd ?_) (.cons (.eqd ?_) (.cons (.eqd ?_) (.cons (.eqd ?_) (.cons (.eqd ?_) (.cons (.eqd ?_) .nil))))))) (.cons (.eqd ?_) .nil))) ⟨rfl,rfl⟩ (SubO.get ⟨.inr ?_,⟨.inl rfl,trivial⟩⟩) (zaz rfl);rotate_left 8;try simp only[Q,Pat.cs_len] at h5p
  refine sq ?_ ?_<;>intro h6 h6p h6s;try simp only[Q,Pat.cs_len] at h6p
  refine Walk.call (cr:=[]) zdy (zbl (p:=q) (n:=2) hb (by omega) (by omega)) rfl (.some rfl rfl h6) rfl rfl (LeL.refl _) ⟨rfl,trivial⟩ rfl rfl rfl ?_;refine evs [] [(30,true)] ?_ ⟨⟨_,rfl,h6⟩,trivial⟩;refine sq ?_ ?_<;>intro h7 h7p h7s;try simp only[Q,Pat.cs_len] at h7p
  refine bu [0,4] [_,_] st28 ?_;refine ev ?_;refine ar ?_;refine so ty28 ?_;refine ev ?_;refine rn [(900,some (rdB b (namP b (n+1) p m q).2.2))] (.cons (.cellA ty28 rfl rfl rfl) (.cons (.tmp rfl) .nil)) (.tup (.cons (.agg (.cons (.eqd ?_) (.cons (.eqd ?_) (.cons (.eqd ?_) (.cons (.eqd ?_) (.cons (.eqd ?_) (.cons (.nild ?_) .nil))))))) (.cons (.eqd ?_) .nil))) ⟨rfl,rfl⟩ (SubO.get ⟨.inr ?_,⟨.inl rfl,trivial⟩⟩) (zaz rfl);rotate_left 8;try simp only[Q,Pat.cs_len] at h7p
  refine ab 3008 tz28 ?_;refine so ty28 ?_;refine tv ?_;refine so ty26 ?_;refine tv ?_;refine xam 3008 5 1 6 rfl rfl rfl rfl ?_;refine xaj (ι:=List (Pat)×List (Pat)×(Int)×(Nat)×(List Pat)) hk (fun x=>[(10,.d (.i (x.1.length:Int))),(9,.d (.i x.2.2.1))]) [11,12,42,43,44,45,46,47,48,49,50,51,52,53,54,55,56,57,58,59,60,61,62,63,64,65,66] (fun x=>[(900,some (.box [.d (zcF b),.d (.i (x.2.2.2.1:Int))])),(3008,some (.box [.d (.i p.op),.d (.i p.ctor),.d (.i p.n),.d (.i p.m),.d (.i p.var),.gl 1 (x.2.2.2.2.map Pat.cc)])),(1,some (.tok (x.2.2.2.2.map Pat.cc).length 6))]) (fun x=>x.1++x.2.1=p.kids∧0≤x.2.2.1∧x.2.2.1≤6∧x.2.2.2.1≤q1+2*Pats.size x.1∧x.2.2.2.2.length=x.1.length∧(x.2.2.2.2++(namL (namP b n) x.2.1 x.2.2.1 x.2.2.2.1).1,(namL (namP b n) x.2.1 x.2.2.1 x.2.2.2.1).2)=namL (namP b n) p.kids m q1) (fun x=>x.2.1.length) ([],p.kids,m,q1,[]) ⟨by simp,by simpa using k0,by simpa using k6,by simp[Pats.size],by simp,by simp⟩ ⟨⟨_,rfl,xap ?_⟩,⟨⟨_,rfl,xap ?_⟩,trivial⟩⟩ ⟨?_,⟨?_,⟨zab ?_,trivial⟩⟩⟩ (fun x=>rfl) (fun x hg1=>?_);iterate 2 focus ((simp;done))
  iterate 2 focus (first|(simp[getH];done)|(show some (Res.box _)=some (Res.box _);rw[hqa (by omega)];all_goals rfl))
  focus ((simp;done))
  obtain⟨pre,rest,zm,zq,ks⟩:=x;dsimp only at hg1 ⊢;refine evc [] [] ?_;refine sq ?_ ?_<;>intro h8 h8p h8s;try simp only[Q,Pat.cs_len] at h8p
  rcases rest with _|⟨y,rest⟩
  ·exfalso;simp_all
  have hni:=ih y zm zq hg1.2.1 hg1.2.2.1;have hn1:=hni.1;have hn2:=hni.2.1;have hn3:=hni.2.2.1;refine xaT sl26 .none rfl rfl rfl rfl (Pat.cs_at' hg1.1) rfl ?_;refine ev ?_;refine wd zqt (zgj hb n (p:=y) (m:=zm) (q:=zq) (by have:=hysz hg1.1;omega) (Pats.ok_mem hok'.2 y (by rw[←hg1.1];simp)) (by omega) (by omega) (by have:=hysz hg1.1;omega)) rfl rfl ⟨rfl,trivial⟩ ?_;refine ev ?_;refine ab 3011 tz28 ?_;refine so ty28 ?_;refine ev ?_;refine si [0] [_] sl26 tz28 ?_;refine ap sl26 zz28 rfl rfl rfl (by simp) (by have hz:=congrArg List.length hg1.1;simp at hz ⊢;omega) ?_;refine ev ?_;refine so ty26 ?_;refine tv ?_;refine ar ?_;refine Exists.intro ((pre++[y],rest,(namP b n y zm zq).2.1,(namP b n y zm zq).2.2,ks++[(namP b n y zm zq).1])) ⟨⟨(by have hz:=hg1.1;rw[←hz];simp),⟨by dsimp only;omega,by dsimp only;omega,(by rw[xav];dsimp only;omega),(by simp[hg1.2.2.2.2.1]),(by rw[←hg1.2.2.2.2.2];simp[namL])⟩⟩,(by simp),sx ⟨⟨_,rfl,xap ?_⟩,⟨⟨_,rfl,xap ?_⟩,trivial⟩⟩ ⟨?_,⟨?_,⟨zab ?_,trivial⟩⟩⟩⟩;iterate 2 focus ((simp;done))
  iterate 2 focus (first|rfl|(simp[getH];done))
  focus ((simp;done))
  try simp only[Q,Pat.cs_len] at h8p
  have hrest:rest=[]:=by
   rcases rest with _|⟨a,b⟩
   ·rfl
   ·exfalso;have hz:=congrArg List.length (hg1.1);simp only[xaa,xab,xac] at hz;omega
  subst hrest;refine sq ?_ ?_<;>intro h9 h9p h9s;try simp only[Q,Pat.cs_len] at h9p
  refine Walk.call (cr:=[]) zdy (zbl (p:=zq) (n:=6) hb (by have e:=hg1.1;rw[List.append_nil] at e;rw[←e] at hs;omega) (by omega)) rfl (.some rfl rfl h9) rfl rfl (LeL.refl _) ⟨rfl,trivial⟩ rfl rfl rfl ?_;refine evs [] [(69,true)] ?_ ⟨⟨_,rfl,h9⟩,trivial⟩;refine sq ?_ ?_<;>intro h10 h10p h10s;try simp only[Q,Pat.cs_len] at h10p
  refine si [0] [_] sl26 tz28 ?_;refine bu [0,4,5] [_,_,_] st28 ?_;refine ev ?_;refine ar ?_;refine so ty28 ?_;refine ev ?_;refine rn [(900,some (rdB b (namP b (n+1) p m q).2.2))] (.cons (.cellA ty28 rfl rfl rfl) (.cons (.tmp rfl) .nil)) (.tup (.cons (.agg (.cons (.eqd ?_) (.cons (.eqd ?_) (.cons (.eqd ?_) (.cons (.eqd ?_) (.cons (.eqd ?_) (.cons (.eqd ?_) .nil))))))) (.cons (.eqd ?_) .nil))) ⟨rfl,rfl⟩ (SubO.get ⟨.inr ?_,⟨.inl rfl,trivial⟩⟩) (zaz rfl);rotate_left 8;try simp only[Q,Pat.cs_len] at h10p
  refine so ty28 ?_;refine ev ?_;refine rn [(900,some (rdB b (namP b (n+1) p m q).2.2))] (.cons (.cellA ty28 rfl rfl rfl) (.cons (.tmp rfl) .nil)) (.tup (.cons (.agg (.cons (.eqd ?_) (.cons (.eqd ?_) (.cons (.eqd ?_) (.cons (.eqd ?_) (.cons (.eqd ?_) (.cons (.gld ?_) .nil))))))) (.cons (.eqd ?_) .nil))) ⟨rfl,rfl⟩ (SubO.get ⟨.inr ?_,⟨.inl rfl,trivial⟩⟩) (zaz rfl);rotate_left 8;try simp only[Q,Pat.cs_len] at h9p
  refine sqF ?_;refine so ty28 ?_;refine ev ?_;refine rn [(900,some (rdB b (namP b (n+1) p m q).2.2))] (.cons (.cellA ty28 rfl rfl rfl) (.cons (.tmp rfl) .nil)) (.tup (.cons (.agg (.cons (.eqd ?_) (.cons (.eqd ?_) (.cons (.eqd ?_) (.cons (.eqd ?_) (.cons (.eqd ?_) (.cons (.gld ?_) .nil))))))) (.cons (.eqd ?_) .nil))) ⟨rfl,rfl⟩ (SubO.get ⟨.inr ?_,⟨.inl rfl,trivial⟩⟩) (zaz rfl);rotate_left 8;try simp only[Q,Pat.cs_len] at h6p
  refine sqF ?_;refine ab 3008 tz28 ?_;refine so ty28 ?_;refine tv ?_;refine so ty26 ?_;refine tv ?_;refine xam 3008 5 1 6 rfl rfl rfl rfl ?_;refine xaj (ι:=List (Pat)×List (Pat)×(Int)×(Nat)×(List Pat)) hk (fun x=>[(10,.d (.i (x.1.length:Int))),(9,.d (.i x.2.2.1))]) [11,12,42,43,44,45,46,47,48,49,50,51,52,53,54,55,56,57,58,59,60,61,62,63,64,65,66] (fun x=>[(900,some (.box [.d (zcF b),.d (.i (x.2.2.2.1:Int))])),(3008,some (.box [.d (.i p.op),.d (.i p.ctor),.d (.i p.n),.d (.i p.m),.d (.i p.var),.gl 1 (x.2.2.2.2.map Pat.cc)])),(1,some (.tok (x.2.2.2.2.map Pat.cc).length 6))]) (fun x=>x.1++x.2.1=p.kids∧0≤x.2.2.1∧x.2.2.1≤6∧x.2.2.2.1≤q1+2*Pats.size x.1∧x.2.2.2.2.length=x.1.length∧(x.2.2.2.2++(namL (namP b n) x.2.1 x.2.2.1 x.2.2.2.1).1,(namL (namP b n) x.2.1 x.2.2.1 x.2.2.2.1).2)=namL (namP b n) p.kids m q1) (fun x=>x.2.1.length) ([],p.kids,m,q1,[]) ⟨by simp,by simpa using k0,by simpa using k6,by simp[Pats.size],by simp,by simp⟩ ⟨⟨_,rfl,xap ?_⟩,⟨⟨_,rfl,xap ?_⟩,trivial⟩⟩ ⟨?_,⟨?_,⟨zab ?_,trivial⟩⟩⟩ (fun x=>rfl) (fun x hg1=>?_);iterate 2 focus ((simp;done))
  iterate 2 focus (first|(simp[getH];done)|(show some (Res.box _)=some (Res.box _);rw[hqb (by omega)];all_goals rfl))
  focus ((simp;done))
  obtain⟨pre,rest,zm,zq,ks⟩:=x;dsimp only at hg1 ⊢;refine evc [] [] ?_;refine sq ?_ ?_<;>intro h13 h13p h13s;try simp only[Q,Pat.cs_len] at h13p
  rcases rest with _|⟨y,rest⟩
  ·exfalso;simp_all
  have hni:=ih y zm zq hg1.2.1 hg1.2.2.1;have hn1:=hni.1;have hn2:=hni.2.1;have hn3:=hni.2.2.1;refine xaT sl26 .none rfl rfl rfl rfl (Pat.cs_at' hg1.1) rfl ?_;refine ev ?_;refine wd zqt (zgj hb n (p:=y) (m:=zm) (q:=zq) (by have:=hysz hg1.1;omega) (Pats.ok_mem hok'.2 y (by rw[←hg1.1];simp)) (by omega) (by omega) (by have:=hysz hg1.1;omega)) rfl rfl ⟨rfl,trivial⟩ ?_;refine ev ?_;refine ab 3011 tz28 ?_;refine so ty28 ?_;refine ev ?_;refine si [0] [_] sl26 tz28 ?_;refine ap sl26 zz28 rfl rfl rfl (by simp) (by have hz:=congrArg List.length hg1.1;simp at hz ⊢;omega) ?_;refine ev ?_;refine so ty26 ?_;refine tv ?_;refine ar ?_;refine Exists.intro ((pre++[y],rest,(namP b n y zm zq).2.1,(namP b n y zm zq).2.2,ks++[(namP b n y zm zq).1])) ⟨⟨(by have hz:=hg1.1;rw[←hz];simp),⟨by dsimp only;omega,by dsimp only;omega,(by rw[xav];dsimp only;omega),(by simp[hg1.2.2.2.2.1]),(by rw[←hg1.2.2.2.2.2];simp[namL])⟩⟩,(by simp),sx ⟨⟨_,rfl,xap ?_⟩,⟨⟨_,rfl,xap ?_⟩,trivial⟩⟩ ⟨?_,⟨?_,⟨zab ?_,trivial⟩⟩⟩⟩;iterate 2 focus ((simp;done))
  iterate 2 focus (first|rfl|(simp[getH];done))
  focus ((simp;done))
  try simp only[Q,Pat.cs_len] at h13p
  have hrest:rest=[]:=by
   rcases rest with _|⟨a,b⟩
   ·rfl
   ·exfalso;have hz:=congrArg List.length (hg1.1);simp only[xaa,xab,xac] at hz;omega
  subst hrest;refine sq ?_ ?_<;>intro h14 h14p h14s;try simp only[Q,Pat.cs_len] at h14p
  refine Walk.call (cr:=[]) zdy (zbl (p:=zq) (n:=6) hb (by have e:=hg1.1;rw[List.append_nil] at e;rw[←e] at hs;omega) (by omega)) rfl (.some rfl rfl h14) rfl rfl (LeL.refl _) ⟨rfl,trivial⟩ rfl rfl rfl ?_;refine evs [] [(69,true)] ?_ ⟨⟨_,rfl,h14⟩,trivial⟩;refine sq ?_ ?_<;>intro h15 h15p h15s;try simp only[Q,Pat.cs_len] at h15p
  refine si [0] [_] sl26 tz28 ?_;refine bu [0,4,5] [_,_,_] st28 ?_;refine ev ?_;refine ar ?_;refine so ty28 ?_;refine ev ?_;refine rn [(900,some (rdB b (namP b (n+1) p m q).2.2))] (.cons (.cellA ty28 rfl rfl rfl) (.cons (.tmp rfl) .nil)) (.tup (.cons (.agg (.cons (.eqd ?_) (.cons (.eqd ?_) (.cons (.eqd ?_) (.cons (.eqd ?_) (.cons (.eqd ?_) (.cons (.eqd ?_) .nil))))))) (.cons (.eqd ?_) .nil))) ⟨rfl,rfl⟩ (SubO.get ⟨.inr ?_,⟨.inl rfl,trivial⟩⟩) (zaz rfl);rotate_left 8;try simp only[Q,Pat.cs_len] at h15p
  refine so ty28 ?_;refine ev ?_;refine rn [(900,some (rdB b (namP b (n+1) p m q).2.2))] (.cons (.cellA ty28 rfl rfl rfl) (.cons (.tmp rfl) .nil)) (.tup (.cons (.agg (.cons (.eqd ?_) (.cons (.eqd ?_) (.cons (.eqd ?_) (.cons (.eqd ?_) (.cons (.eqd ?_) (.cons (.gld ?_) .nil))))))) (.cons (.eqd ?_) .nil))) ⟨rfl,rfl⟩ (SubO.get ⟨.inr ?_,⟨.inl rfl,trivial⟩⟩) (zaz rfl);rotate_left 8;try simp only[Q,Pat.cs_len] at h14p
  refine sqF ?_;refine so ty28 ?_;refine ev ?_;refine rn [(900,some (rdB b (namP b (n+1) p m q).2.2))] (.cons (.cellA ty28 rfl rfl rfl) (.cons (.tmp rfl) .nil)) (.tup (.cons (.agg (.cons (.eqd ?_) (.cons (.eqd ?_) (.cons (.eqd ?_) (.cons (.eqd ?_) (.cons (.eqd ?_) (.cons (.gld ?_) .nil))))))) (.cons (.eqd ?_) .nil))) ⟨rfl,rfl⟩ (SubO.get ⟨.inr ?_,⟨.inl rfl,trivial⟩⟩) (zaz rfl);rotate_left 8;all_goals ((first|(rw[ztq (by omega)];all_goals first|rfl|(show _=D.sl (Pat.cs _);rw[Pat.cs_cc];all_goals rfl)|(show _=Pat.cs _;rw[Pat.cs_cc];all_goals rfl)|(show _=D.sl [[D.i _,D.i _,D.i _,D.i _,D.i _,D.sl (Pat.cs _)]];rw[Pat.cs_cc];all_goals rfl))|(rw[ztr (by omega) ⟨by omega,by omega⟩];all_goals first|rfl|(show _=D.sl (Pat.cs _);rw[Pat.cs_cc];all_goals rfl)|(show _=Pat.cs _;rw[Pat.cs_cc];all_goals rfl)|(show _=D.sl [[D.i _,D.i _,D.i _,D.i _,D.i _,D.sl (Pat.cs _)]];rw[Pat.cs_cc];all_goals rfl))|(have hz:(ks,zm,zq)=namL (namP b n) p.kids m (if p.op=1 then q+1 else q):=(by rw[hqq];exact zme hg1.2.2.2.2.2);rw[zts (by omega) (fun hh=>by omega) hz (by omega) (by omega)];all_goals first|rfl|(show _=D.sl (Pat.cs _);rw[Pat.cs_cc];all_goals rfl)|(show _=Pat.cs _;rw[Pat.cs_cc];all_goals rfl)|(show _=D.sl [[D.i _,D.i _,D.i _,D.i _,D.i _,D.sl (Pat.cs _)]];rw[Pat.cs_cc];all_goals rfl))|(have hz:(ks,zm,zq)=namL (namP b n) p.kids m (if p.op=1 then q+1 else q):=(by rw[hqq];exact zme hg1.2.2.2.2.2);rw[ztt (by omega) (fun hh=>by omega) hz (by omega) (by omega)];all_goals first|rfl|(show _=D.sl (Pat.cs _);rw[Pat.cs_cc];all_goals rfl)|(show _=Pat.cs _;rw[Pat.cs_cc];all_goals rfl)|(show _=D.sl [[D.i _,D.i _,D.i _,D.i _,D.i _,D.sl (Pat.cs _)]];rw[Pat.cs_cc];all_goals rfl))|(have hz:(ks,zm,zq)=namL (namP b n) p.kids m (if p.op=1 then q+1 else q):=(by rw[hqq];exact zme hg1.2.2.2.2.2);rw[ztu (by omega) (fun hh=>by omega) hz (by omega)];all_goals first|rfl|(show _=D.sl (Pat.cs _);rw[Pat.cs_cc];all_goals rfl)|(show _=Pat.cs _;rw[Pat.cs_cc];all_goals rfl)|(show _=D.sl [[D.i _,D.i _,D.i _,D.i _,D.i _,D.sl (Pat.cs _)]];rw[Pat.cs_cc];all_goals rfl))))
def szP:Nat→Nat
 |0=>1
 |d+1=>1+3*szP d
theorem zxa (d:Nat):1≤szP d:=by cases d<;>simp only[szP]<;>omega
theorem zn5:anyP.size=1∧anyP.ok:=⟨by rw[Pat.size_eq];rfl,by rw[Pat.ok_iff];exact⟨by simp[anyP,Pat.kids],trivial⟩⟩
theorem zwp {f:Ty→Nat→Pat×Nat}{k:Nat}:∀(l:List Ty) (q:Nat),(∀t∈l,∀q,(f t q).1.size≤k∧(f t q).1.ok)→Pats.size (dA f l q).1≤l.length*k∧Pats.ok (dA f l q).1
 | [],q,_=>by simp[dA,Pats.size,Pats.ok]
 |t::r,q,h=>by
  have h1:=h t (by simp) q;have h2:=zwp r (f t q).2 (fun x hx=>h x (by simp[hx]));simp only[dA,xab,Nat.add_mul,Pats.size];exact⟨by omega,h1.2,h2.2⟩
theorem zlZ {b:Str}{w:List Data} (hf:Few w):∀(d:Nat) (t:Ty) (p:Nat),TyIn w.length t→(zaG b w d t p).1.size≤szP d∧(zaG b w d t p).1.ok
 |0,t,p,_=>by simp only[zaG,szP];have:=zn5;exact⟨by omega,this.2⟩
 |d+1,⟨a,k⟩,p,ht=>by
  have ih:=fun t p ht=>zlZ (b:=b) hf d t p ht;have ha:=zn5;have hp:=zxa d;simp only[szP];by_cases c1:d=0
  ·rw[zsl c1];exact⟨by dsimp only;omega,ha.2⟩
  by_cases c2:zay b p 4=0
  ·rw[zsm c1 c2];exact⟨by dsimp only;omega,ha.2⟩
  by_cases c3:zay b (p+1) 6=0
  ·rw[zsn c1 c2 c3];have h1:=ih ⟨a,k⟩ (p+2) ht;have h2:=ih ⟨a,k⟩ (zaG b w d ⟨a,k⟩ (p+2)).2 ht;refine⟨?_, ?_⟩
   ·dsimp only;rw[Pat.size_eq];simp only[Pat.kids,Pats.size];omega
   ·dsimp only;rw[Pat.ok_iff];exact⟨by simp[Pat.kids],h1.2,h2.2,trivial⟩
  by_cases c4:a = -1
  ·rw[zso c1 c2 c3 c4];refine⟨?_, ?_⟩
   ·dsimp only;rw[Pat.size_eq];simp only[Pat.kids,Pats.size];omega
   ·dsimp only;rw[Pat.ok_iff];exact⟨by simp[Pat.kids],trivial⟩
  by_cases c5:(zah w ⟨a,k⟩).length=0
  ·rw[zsp c1 c2 c3 c4 c5];exact⟨by dsimp only;omega,ha.2⟩
  ·rw[zsq c1 c2 c3 c4 c5 rfl];have hm:=zjv (b:=b) (p:=p+2) c5;have h3:=hf ⟨a,k⟩ _ hm ht;have h1:=zwp (f:=zaG b w d) (k:=szP d) _ (p+3) (fun u hu q=>ih u q (h3.2 u hu));have h2:=zuk (f:=zaG b w d) (zaa w ⟨a,k⟩ (nth (zah w ⟨a,k⟩) (zay b (p+2) (zah w ⟨a,k⟩).length).toNat)) (p+3);have h4:(zaa w ⟨a,k⟩ (nth (zah w ⟨a,k⟩) (zay b (p+2) (zah w ⟨a,k⟩).length).toNat)).length*szP d≤3*szP d:=Nat.mul_le_mul_right _ h3.1;refine⟨?_, ?_⟩
   ·dsimp only;rw[Pat.size_eq];simp only[Pat.kids];omega
   ·dsimp only;rw[Pat.ok_iff];exact⟨by simp only[Pat.kids];omega,h1.2⟩
theorem zmg {b:Str}{p:Nat}{l:List Int} (h:1≤l.length):numV b p l∈l:=by
 have:=zc2 (b:=b) (p:=p) (n:=(l.length:Int)) (by omega);exact zaf (by omega)
theorem num4 (b:Str) (p:Nat):1≤numV b p [3,2,4,1]∧numV b p [3,2,4,1]≤4:=by
 have:=zmg (b:=b) (p:=p) (l:=[3,2,4,1]) (by simp);simp only[List.mem_cons,List.not_mem_nil,or_false] at this;omega
theorem zrF {d:Nat} (h:d≤4):szP d≤121∧bdP d≤200:=by
 have:d=0∨d=1∨d=2∨d=3∨d=4:=by omega
 rcases this with rfl|rfl|rfl|rfl|rfl<;>decide
def zc3 (b:Str) (w:List Data) (t:Ty) (p:Nat):Pat×Int×Nat:=
 namP b (zaG b w (numV b p [3,2,4,1]).toNat t (p+1)).1.size (zaG b w (numV b p [3,2,4,1]).toNat t (p+1)).1 0 (zaG b w (numV b p [3,2,4,1]).toNat t (p+1)).2
def zb6 (b:Str) (w:List Data) (t:Ty) (p:Nat):Pat:=if isP w t (zc3 b w t p).1 then (zc3 b w t p).1 else anyP
theorem zkJ {b:Str}{w:List Data} (hf:Few w){t:Ty} (ht:TyIn w.length t) (p:Nat):(zc3 b w t p).2.2≤p+500∧(zc3 b w t p).1.size≤242∧(zc3 b w t p).1.ok:=by
 have h4:=num4 b p;have hs:=zrF (d:=(numV b p [3,2,4,1]).toNat) (by omega);have h1:=zlZ (b:=b) hf (numV b p [3,2,4,1]).toNat t (p+1) ht;have h2:=zjb (b:=b) hf (numV b p [3,2,4,1]).toNat t (p+1) ht;have h3:=zor (b:=b) (zaG b w (numV b p [3,2,4,1]).toNat t (p+1)).1.size (zaG b w (numV b p [3,2,4,1]).toNat t (p+1)).1 0 (zaG b w (numV b p [3,2,4,1]).toNat t (p+1)).2 (by omega) (by omega);obtain⟨_,_,n3,n4,n5⟩:=h3;exact⟨by unfold zc3;omega,by unfold zc3;omega,n5 h1.2⟩
theorem znD {b:Str}{w:List Data} (hf:Few w){t:Ty} (ht:TyIn w.length t) (p:Nat):(zb6 b w t p).size≤242∧(zb6 b w t p).ok:=by
 have h:=zkJ (b:=b) hf ht p;have ha:=zn5;unfold zb6;split
 ·exact⟨h.2.1,h.2.2⟩
 ·exact⟨by omega,ha.2⟩
theorem ziX {b:Str}{w:List Data} (hb:b.length≤2000) (hw:WT w) (hf:Few w){a k:Int}{p:Nat} (hp:p≤100000) (ht:TyIn w.length ⟨a,k⟩):
  FnD Tryz.prog 72 [.ref 900 0,.d (zam w),.agg [.d (.i a),.d (.i k)]] [(900,some (rdB b p))]
   (.agg [.d (.i (zb6 b w ⟨a,k⟩ p).op),.d (.i (zb6 b w ⟨a,k⟩ p).ctor),.d (.i (zb6 b w ⟨a,k⟩ p).n),.d (.i (zb6 b w ⟨a,k⟩ p).m),.d (.i (zb6 b w ⟨a,k⟩ p).var),.d (zac (zb6 b w ⟨a,k⟩ p).kids)]) [(900,some (rdB b (zc3 b w ⟨a,k⟩ p).2.2))]:=by
 have h4:=num4 b p;have hs:=zrF (d:=(numV b p [3,2,4,1]).toNat) (by omega);have h1:=zlZ (b:=b) hf (numV b p [3,2,4,1]).toNat ⟨a,k⟩ (p+1) ht;have h2:=zjb (b:=b) hf (numV b p [3,2,4,1]).toNat ⟨a,k⟩ (p+1) ht;have hr:=zkJ (b:=b) hf ht p;have hnum:=zcS (b:=b) (p:=p) (l:=[3,2,4,1]) hb (by omega) (by simp) (by simp);have hdr:=zeN hb hw hf (numV b p [3,2,4,1]).toNat (a:=a) (k:=k) (m:=numV b p [3,2,4,1]) (p:=p+1) (by omega) (by omega) (by omega) (by omega) ht;have hnm:=zgj hb (zaG b w (numV b p [3,2,4,1]).toNat ⟨a,k⟩ (p+1)).1.size (m:=0) (q:=(zaG b w (numV b p [3,2,4,1]).toNat ⟨a,k⟩ (p+1)).2) (Nat.le_refl _) h1.2 (by omega) (by omega) (by omega);have hsp:zb6 b w ⟨a,k⟩ p=if isP w ⟨a,k⟩ (zc3 b w ⟨a,k⟩ p).1 then (zc3 b w ⟨a,k⟩ p).1 else anyP:=rfl
 rw[show namP b (zaG b w (numV b p [3,2,4,1]).toNat ⟨a,k⟩ (p+1)).1.size (zaG b w (numV b p [3,2,4,1]).toNat ⟨a,k⟩ (p+1)).1 0 (zaG b w (numV b p [3,2,4,1]).toNat ⟨a,k⟩ (p+1)).2=zc3 b w ⟨a,k⟩ p from rfl] at hnm;generalize numV b p [3,2,4,1]=m at *;refine bd Tryz.f72 28 [] [] fun w0 F0 own kept hk=>?_;refine bx 3005 ?_;refine ab 3006 tz28 ?_;refine tv ?_;refine si [0,1,2,3] [_,_,_,_] sl62 tz3 ?_;refine wd zh2 (hnum) rfl rfl ⟨rfl,trivial⟩ ?_;refine wd zmA (hdr) rfl rfl ⟨rfl,trivial⟩ ?_;refine wd zqt (hnm) rfl rfl ⟨rfl,trivial⟩ ?_;refine evd [] [] ?_;refine ab 3007 tz28 ?_;refine so ty28 ?_;refine evd [] [] ?_;refine dr ?_;refine wc zqr (zhS hw ht hr.2.2 (by omega)) rfl rfl ?_;refine ev ?_;refine sq ?_ ?_<;>intro h1 h1p h1s;try simp only[Q] at h1p
 refine bu [0] [_] st28 ?_;refine so ty28 ?_;refine tv ?_;refine rn [(900,some (rdB b (zc3 b w ⟨a,k⟩ p).2.2))] (.cons (.cellA ty28 rfl rfl rfl) .nil) (.agg (.cons (.eqd ?_) (.cons (.eqd ?_) (.cons (.eqd ?_) (.cons (.eqd ?_) (.cons (.eqd ?_) (.cons (.nild ?_) .nil))))))) ⟨rfl,rfl⟩ (SubO.get ⟨.inr ?_,⟨.inl rfl,trivial⟩⟩) (zaz rfl);rotate_left 7;try simp only[Q] at h1p
 refine so ty28 ?_;refine tv ?_;refine rn [(900,some (rdB b (zc3 b w ⟨a,k⟩ p).2.2))] (.cons (.cellA ty28 rfl rfl rfl) .nil) (.agg (.cons (.eqd ?_) (.cons (.eqd ?_) (.cons (.eqd ?_) (.cons (.eqd ?_) (.cons (.eqd ?_) (.cons (.eqd ?_) .nil))))))) ⟨rfl,rfl⟩ (SubO.get ⟨.inr ?_,⟨.inl rfl,trivial⟩⟩) (zaz rfl);rotate_left 7;all_goals (first|((first|(rw[hsp,if_neg (by rw[h1s];simp)];all_goals rfl)|(rw[hsp,if_pos h1s];all_goals rfl));done)|(rfl))
theorem zpU:FnD Tryz.prog 135 [] [] (.agg [.d (.i 1),.d (.i 0),.d (.i 0),.d (.i 0),.d (.i 0),.d (.sl [])]) []:=by
 refine bd Tryz.f135 2 [] [] fun w0 F0 own kept hk=>?_;refine ab 3000 tz28 ?_;refine tv ?_;refine bu [0] [_] st28 ?_;refine so ty28 ?_;refine tv ?_;focus (refine rn0 (.cons (.cellA ty28 rfl rfl rfl) .nil) (.agg (.cons (.eqd ?_) (.cons (.eqd ?_) (.cons (.eqd ?_) (.cons (.eqd ?_) (.cons (.eqd ?_) (.cons (.nild ?_) .nil)))))));all_goals (rfl))
section
variable {c:Ctx}{all:Array Oper}{chk:List Rec→Prop}{os:List Oper}{recs:List Rec}{env:Env}{hp:Hp}{Q:St→Prop}
variable {d ty:Nat}{pos:String}{af:Array Edge}{g:Option (Nat×Bool)}{pg:List (Nat×AV)}{t yt:TypeId}{x y:Operand}
theorem xaz {id k e yb:Nat}{xs ys:List (List D)}{vy:AV}{ids:List Nat} (hkp:KeptIn c.kept ids) (hid:zbb id ids=false) (hne:xs++ys≠[]) (ht:SlT c.P t e k yb) (hz:ZeroT c.P e k) (hg:GH all env g pg) (hd:Nat.blt d c.n=true)
  (hx:opd env x=some (.gv id xs)) (hy:opd env y=some vy) (hyd:vy.toD=some (.sl ys)) (htok:getH hp id=some (.tok xs.length k)) (hky:∀y,y∈ys→y.length=k)
  (hb:(xs.length+ys.length)*yb≤140737488355328) (hm:xs.length+ys.length≤9223372036854775807)
  (hn:Walk c all chk os (zan (pg++(opF x (.gv id xs)++opF y vy)) [(id,.tok xs.length k)] [] ⟨some (d,.ms id (xs++ys).length),[(id,some (.box ((xs++ys).flatten.map .d)))]⟩::recs)
   ⟨(d,.ms id (xs++ys).length)::env,(id,some (.box ((xs++ys).flatten.map .d)))::hp⟩ Q):
  Walk c all chk (⟨some d,.call ⟨.builtin .append,#[x,y],#[t,t]⟩,ty,pos,af,g⟩::os) recs ⟨env,hp⟩ Q:=by
 refine⟨pg++(opF x (.gv id xs)++opF y vy),[(id,.tok xs.length k)],[],_, ?_,zaB hg.facts (zaB (zbc hx) (zbc hy)),hh1 htok,by simp,hn⟩;intro s a w hrel hp' hh _ K Q' hK;obtain⟨G,hr⟩:=hrel;have e1:=hr.opd (zbd hx (fun p hm=>hp' p (by simp[hm])));have e2:=hr.opd (zbd hy (fun p hm=>hp' p (by simp[hm])));obtain⟨i,z,z1,z2,z3⟩:=hz.out;obtain⟨v',w',G',hrun,hR,hA⟩:=zj1 hr ht ⟨i,z1,z2,z3⟩ (hh1' hh) e1 (e2.toD hyd) hky hb hm ty;unfold wpO;rw[if_pos (hg.gf.wanted hr (fun p hm=>hp' p (by simp[hm])))];unfold Oper.wp;have:(execOp a.eval ⟨some d,.call ⟨.builtin .append,#[x,y],#[t,t]⟩,ty,pos,af,g⟩).run c.P w = .ok (.value v') w':=by
  simp only[execOp,resolve,invoke,builtin,Sem.run_bind,Sem.run_pure,Result.andThen_ok,List.map_toArray,xae,List.map_nil,hrun]
 rw[this,Oper.upon_value];have hV:Rel c ⟨(d,.gv id (xs++ys))::s.env,(id,some (.tok (xs.length+ys.length) k))::s.hp⟩ (a.put (some d) v') w':=⟨G',hR.put hA hd⟩;rcases Rel.fixV hkp d id k (xs:=xs++ys) (by simp[getE]) (by rw[zal,if_pos rfl,xaa]) hid hV with ⟨h,_⟩|⟨_,h⟩
 ·exact absurd h hne
 ·refine hK _ _ (h.congr (fun j=>?_) (fun j=>?_))
  ·show getE ((d,_)::s.env) j=getE ((d,_)::(d,_)::s.env) j
   simp only[getE];cases Nat.beq d j<;>rfl
  ·show getH ((id,_)::s.hp) j=getH ((id,_)::(id,_)::s.hp) j
   rw[zal,zal,zal];by_cases hj:j=id
   ·rw[if_pos hj,if_pos hj]
   ·rw[if_neg hj,if_neg hj,if_neg hj]
end
def zcQ:Pat:=⟨2,0,0,0,0,[]⟩
def mutP (b:Str) (p:Pat) (q:Nat):Pat×Nat:=
 if zay b q 30=0 then (⟨numV b (q+1) [0,7,1,2,5],p.ctor,p.n,p.m,p.var,p.kids⟩,q+2)
 else if zay b q 30=1 then (⟨p.op,p.ctor,p.n,p.m,numV b (q+1) [6,-1,1],p.kids⟩,q+2)
 else if zay b q 30=2 then (⟨p.op,numV b (q+1) [9,-1,1],p.n,p.m,p.var,p.kids⟩,q+2)
 else if zay b q 30=3 then (⟨p.op,p.ctor,p.n,p.m,p.var,p.kids++[zcQ]⟩,q+1)
 else if zay b q 30=4 then (⟨p.op,p.ctor,p.n,p.m,p.var,p.kids.set 0 zcQ⟩,q+1)
 else if zay b q 30=5 then (⟨p.op,p.ctor,numV b (q+1) [10,-1,5],p.m,p.var,p.kids⟩,q+2)
 else (⟨p.op,p.ctor,p.n,p.m,p.var,p.kids⟩,q+1)
theorem put0 {l:List (List D)}{x:List D}{r:List (List D)}{v:List AV} (h:l=x::r) (hx:x.length=v.length):putC (l.flatten.map .d) 0 v=some (v++r.flatten.map .d):=by
 subst h;rw[List.flatten_cons,xaf];have key:∀(a b:List AV),a.length=b.length→∀(c:List AV),putC (a++c) 0 b=some (b++c):=by
  intro a;induction a with
  |nil=>intro b h c;cases b with
   |nil=>cases c<;>rfl
   |cons=>simp at h
  |cons y a ih=>intro b h c;cases b with
   |nil=>simp at h
   |cons z b=>
    have:=ih b (by simpa using h) c;simp only[xag,putC,this]
 exact key _ _ (by simpa using hx) _
theorem zx3 {k:Nat}{v:List AV}{vd:List D}{r:List (List D)} (hv:toDL v=some vd) (hk:v.length=k) (hr:∀x∈r,x.length=k):zbL (r.length+1) k (v++r.flatten.map .d)=some (vd::r):=by
 have h1:cutC (v++r.flatten.map .d) 0 k=some v:=zoW hk;have h2:(v++r.flatten.map AV.d).drop k=r.flatten.map .d:=by rw[←hk];simp
 have h3:=zd6 (f:=fun x:List D=>x) (k:=k) (l:=r) hr;have h4:(r.flatMap fun x=>x.map AV.d)=r.flatten.map .d:=by rw[List.map_flatten];rfl
 rw[h4,List.map_id'] at h3;simp only[zbL,h1,hv,h2,h3]
theorem xas (a b:List Pat):Pat.cs (a++b)=Pat.cs a++Pat.cs b:=by
 rw[Pat.cs_cc,Pat.cs_cc,Pat.cs_cc,xaf]
theorem znR {b:Str} (hb:b.length≤2000){p:Pat}{q:Nat} (hq:q≤1000000) (hok:p.ok) (hc4:¬(zay b q 30=4∧p.kids≠[])):
  FnD Tryz.prog 90 [.ref 900 0,.agg [.d (.i p.op),.d (.i p.ctor),.d (.i p.n),.d (.i p.m),.d (.i p.var),.d (zac p.kids)]] [(900,some (rdB b q))]
   (.agg [.d (.i (mutP b p q).1.op),.d (.i (mutP b p q).1.ctor),.d (.i (mutP b p q).1.n),.d (.i (mutP b p q).1.m),.d (.i (mutP b p q).1.var),.d (zac (mutP b p q).1.kids)]) [(900,some (rdB b (mutP b p q).2))]:=by
 rw[Pat.ok_iff] at hok;have hkl:=Pat.cs_len p.kids;refine bd Tryz.f90 57 [] [] fun w0 F0 own kept hk=>?_;refine bx 3003 ?_;refine ab 3004 tz28 ?_;refine tv ?_;refine ab 3005 tz28 ?_;refine so ty28 ?_;refine tv ?_;refine xbh 1 sl26 .none rfl rfl ?_;refine ev ?_;refine ap sl26 zz28 rfl rfl rfl (by(intro x hx;exact Pat.cs_rows x hx)) (by simp[Pat.cs_len];omega) ?_;refine ev ?_;refine so ty26 ?_;refine tv ?_;refine wd zdy (zbl (p:=q) (n:=30) hb (by omega) (by omega)) rfl rfl ⟨rfl,trivial⟩ ?_;refine tv ?_;refine sq ?_ ?_<;>intro h1 h1p h1s;try simp only[Q,Pat.cs_len] at h1p
 refine si [0,1,2,3,4] [_,_,_,_,_] sl62 tz3 ?_;refine wd zh2 (zcS (p:=q+1) (l:=[0,7,1,2,5]) hb (by omega) (by simp) (by simp)) rfl rfl ⟨rfl,trivial⟩ ?_;refine ev ?_;refine so ty3 ?_;refine tv ?_;refine so ty28 ?_;refine tv ?_;refine rn [(900,some (rdB b (mutP b p q).2))] (.cons (.cellA ty28 rfl rfl rfl) .nil) (.agg (.cons (.eqd ?_) (.cons (.eqd ?_) (.cons (.eqd ?_) (.cons (.eqd ?_) (.cons (.eqd ?_) (.cons (.gld ?_) .nil))))))) ⟨rfl,rfl⟩ (SubO.get ⟨.inr ?_,⟨.inl rfl,trivial⟩⟩) (zaz rfl);rotate_left 7;try simp only[Q,Pat.cs_len] at h1p
 refine sq ?_ ?_<;>intro h2 h2p h2s;try simp only[Q,Pat.cs_len] at h2p
 refine si [0,1,2] [_,_,_] sl62 tz3 ?_;refine wd zh2 (zcS (p:=q+1) (l:=[6,-1,1]) hb (by omega) (by simp) (by simp)) rfl rfl ⟨rfl,trivial⟩ ?_;refine ev ?_;refine so ty3 ?_;refine tv ?_;refine so ty28 ?_;refine tv ?_;refine rn [(900,some (rdB b (mutP b p q).2))] (.cons (.cellA ty28 rfl rfl rfl) .nil) (.agg (.cons (.eqd ?_) (.cons (.eqd ?_) (.cons (.eqd ?_) (.cons (.eqd ?_) (.cons (.eqd ?_) (.cons (.gld ?_) .nil))))))) ⟨rfl,rfl⟩ (SubO.get ⟨.inr ?_,⟨.inl rfl,trivial⟩⟩) (zaz rfl);rotate_left 7;try simp only[Q,Pat.cs_len] at h2p
 refine sq ?_ ?_<;>intro h3 h3p h3s;try simp only[Q,Pat.cs_len] at h3p
 refine si [0,1,2] [_,_,_] sl62 tz3 ?_;refine wd zh2 (zcS (p:=q+1) (l:=[9,-1,1]) hb (by omega) (by simp) (by simp)) rfl rfl ⟨rfl,trivial⟩ ?_;refine ev ?_;refine so ty3 ?_;refine tv ?_;refine so ty28 ?_;refine tv ?_;refine rn [(900,some (rdB b (mutP b p q).2))] (.cons (.cellA ty28 rfl rfl rfl) .nil) (.agg (.cons (.eqd ?_) (.cons (.eqd ?_) (.cons (.eqd ?_) (.cons (.eqd ?_) (.cons (.eqd ?_) (.cons (.gld ?_) .nil))))))) ⟨rfl,rfl⟩ (SubO.get ⟨.inr ?_,⟨.inl rfl,trivial⟩⟩) (zaz rfl);rotate_left 7;try simp only[Q,Pat.cs_len] at h3p
 refine sq ?_ ?_<;>intro h4 h4p h4s;try simp only[Q,Pat.cs_len] at h4p
 refine bu [0] [_] st28 ?_;refine si [0] [_] sl26 tz28 ?_;refine ap sl26 zz28 rfl rfl rfl (by(intro x hx;simp only[List.mem_singleton] at hx;subst hx;rfl)) (by simp[Pat.cs_len];omega) ?_;refine ev ?_;refine so ty26 ?_;refine tv ?_;refine so ty28 ?_;refine tv ?_;refine rn [(900,some (rdB b (mutP b p q).2))] (.cons (.cellA ty28 rfl rfl rfl) .nil) (.agg (.cons (.eqd ?_) (.cons (.eqd ?_) (.cons (.eqd ?_) (.cons (.eqd ?_) (.cons (.eqd ?_) (.cons (.gld ?_) .nil))))))) ⟨rfl,rfl⟩ (SubO.get ⟨.inr ?_,⟨.inl rfl,trivial⟩⟩) (zaz rfl);rotate_left 7;try simp only[Q,Pat.cs_len] at h4p
 refine sq ?_ ?_<;>intro h5 h5p h5s;try simp only[Q,Pat.cs_len] at h5p
 refine sq ?_ ?_<;>intro h6 h6p h6s;try simp only[Q,Pat.cs_len] at h6p
 exfalso;apply hc4;refine⟨by omega,fun hh=>?_⟩;rw[hh] at h6p;exact absurd h6p (by decide);try simp only[Q,Pat.cs_len] at h6p
 refine so ty28 ?_;refine tv ?_;refine rn [(900,some (rdB b (mutP b p q).2))] (.cons (.cellA ty28 rfl rfl rfl) .nil) (.agg (.cons (.eqd ?_) (.cons (.eqd ?_) (.cons (.eqd ?_) (.cons (.eqd ?_) (.cons (.eqd ?_) (.cons (.gld ?_) .nil))))))) ⟨rfl,rfl⟩ (SubO.get ⟨.inr ?_,⟨.inl rfl,trivial⟩⟩) (zaz rfl);rotate_left 7;try simp only[Q,Pat.cs_len] at h5p
 refine sq ?_ ?_<;>intro h7 h7p h7s;try simp only[Q,Pat.cs_len] at h7p
 refine si [0,1,2] [_,_,_] sl62 tz3 ?_;refine wd zh2 (zcS (p:=q+1) (l:=[10,-1,5]) hb (by omega) (by simp) (by simp)) rfl rfl ⟨rfl,trivial⟩ ?_;refine ev ?_;refine so ty3 ?_;refine tv ?_;refine so ty28 ?_;refine tv ?_;refine rn [(900,some (rdB b (mutP b p q).2))] (.cons (.cellA ty28 rfl rfl rfl) .nil) (.agg (.cons (.eqd ?_) (.cons (.eqd ?_) (.cons (.eqd ?_) (.cons (.eqd ?_) (.cons (.eqd ?_) (.cons (.gld ?_) .nil))))))) ⟨rfl,rfl⟩ (SubO.get ⟨.inr ?_,⟨.inl rfl,trivial⟩⟩) (zaz rfl);rotate_left 7;try simp only[Q,Pat.cs_len] at h7p
 refine so ty28 ?_;refine tv ?_;refine rn [(900,some (rdB b (mutP b p q).2))] (.cons (.cellA ty28 rfl rfl rfl) .nil) (.agg (.cons (.eqd ?_) (.cons (.eqd ?_) (.cons (.eqd ?_) (.cons (.eqd ?_) (.cons (.eqd ?_) (.cons (.gld ?_) .nil))))))) ⟨rfl,rfl⟩ (SubO.get ⟨.inr ?_,⟨.inl rfl,trivial⟩⟩) (zaz rfl);rotate_left 7;all_goals (((unfold mutP;first|(rw[if_pos (by omega)];all_goals first|rfl|(show _=Pat.cs (p.kids++[zcQ]);rw[xas];all_goals rfl))|(rw[if_neg (by omega),if_pos (by omega)];all_goals first|rfl|(show _=Pat.cs (p.kids++[zcQ]);rw[xas];all_goals rfl))|(rw[if_neg (by omega),if_neg (by omega),if_pos (by omega)];all_goals first|rfl|(show _=Pat.cs (p.kids++[zcQ]);rw[xas];all_goals rfl))|(rw[if_neg (by omega),if_neg (by omega),if_neg (by omega),if_pos (by omega)];all_goals first|rfl|(show _=Pat.cs (p.kids++[zcQ]);rw[xas];all_goals rfl))|(have hnk:p.kids=[]:=(by rcases hke:p.kids with _|⟨y,r⟩;rfl;exact absurd ⟨by omega,by rw[hke];simp⟩ hc4);rw[if_neg (by omega),if_neg (by omega),if_neg (by omega),if_neg (by omega),if_pos (by omega),hnk];all_goals rfl)|(rw[if_neg (by omega),if_neg (by omega),if_neg (by omega),if_neg (by omega),if_pos (by omega)];all_goals first|rfl|(show _=Pat.cs (p.kids++[zcQ]);rw[xas];all_goals rfl))|(rw[if_neg (by omega),if_neg (by omega),if_neg (by omega),if_neg (by omega),if_neg (by omega),if_pos (by omega)];all_goals first|rfl|(show _=Pat.cs (p.kids++[zcQ]);rw[xas];all_goals rfl))|(rw[if_neg (by omega),if_neg (by omega),if_neg (by omega),if_neg (by omega),if_neg (by omega),if_neg (by omega)];all_goals first|rfl|(show _=Pat.cs (p.kids++[zcQ]);rw[xas];all_goals rfl)));done))
theorem znS {b:Str} (hb:b.length≤2000){p:Pat}{q:Nat} (hq:q≤1000000) (hok:p.ok) (hc4:zay b q 30=4){y:Pat}{r:List Pat} (hk4:p.kids=y::r):
  FnD Tryz.prog 90 [.ref 900 0,.agg [.d (.i p.op),.d (.i p.ctor),.d (.i p.n),.d (.i p.m),.d (.i p.var),.d (zac p.kids)]] [(900,some (rdB b q))]
   (.agg [.d (.i (mutP b p q).1.op),.d (.i (mutP b p q).1.ctor),.d (.i (mutP b p q).1.n),.d (.i (mutP b p q).1.m),.d (.i (mutP b p q).1.var),.d (zac (mutP b p q).1.kids)]) [(900,some (rdB b (mutP b p q).2))]:=by
 rw[Pat.ok_iff] at hok;have hkl:=Pat.cs_len p.kids;have hcs:Pat.cs p.kids=y.cc::Pat.cs r:=by rw[Pat.cs_cc,hk4,xae,←Pat.cs_cc]
 have hrl:(Pat.cs p.kids).length=(Pat.cs r).length+1:=by rw[hcs];rfl
 have hmu:mutP b p q=(⟨p.op,p.ctor,p.n,p.m,p.var,zcQ::r⟩,q+1):=by
  unfold mutP;rw[if_neg (by omega),if_neg (by omega),if_neg (by omega),if_neg (by omega),if_pos hc4,hk4];rfl
 refine bd Tryz.f90 57 [] [17] fun w0 F0 own kept hk=>?_;refine bx 3003 ?_;refine ab 3004 tz28 ?_;refine tv ?_;refine ab 3005 tz28 ?_;refine so ty28 ?_;refine tv ?_;refine xbi 1 sl26 .none rfl rfl ?_;refine ev ?_;refine xaz hk rfl (by rw[hcs];simp) sl26 zz28 .none rfl rfl rfl rfl (zfD rfl (by rfl)) (by intro x hx;exact Pat.cs_rows x hx) (by simp[Pat.cs_len];omega) (by simp[Pat.cs_len];omega) ?_;refine ev ?_;refine so ty26 ?_;refine tv ?_;refine wd zdy (zbl (p:=q) (n:=30) hb (by omega) (by omega)) rfl rfl ⟨rfl,trivial⟩ ?_;refine tv ?_;refine sq ?_ ?_<;>intro h1 h1p h1s;try simp only[Q,Pat.cs_len] at h1p
 exfalso;omega;try simp only[Q,Pat.cs_len] at h1p
 refine sq ?_ ?_<;>intro h2 h2p h2s;try simp only[Q,Pat.cs_len] at h2p
 exfalso;omega;try simp only[Q,Pat.cs_len] at h2p
 refine sq ?_ ?_<;>intro h3 h3p h3s;try simp only[Q,Pat.cs_len] at h3p
 exfalso;omega;try simp only[Q,Pat.cs_len] at h3p
 refine sq ?_ ?_<;>intro h4 h4p h4s;try simp only[Q,Pat.cs_len] at h4p
 exfalso;omega;try simp only[Q,Pat.cs_len] at h4p
 refine sq ?_ ?_<;>intro h5 h5p h5s;try simp only[Q,Pat.cs_len] at h5p
 refine sq ?_ ?_<;>intro h6 h6p h6s;try simp only[Q,Pat.cs_len] at h6p
 refine bu [0] [_] st28 ?_;refine xaX (i:=0) sl26 .none rfl rfl rfl rfl (by simp;omega) ?_;refine Walk.store ty28 .none rfl rfl rfl rfl rfl rfl (by simp) ((put0 hcs rfl)) ?_;refine tv ?_;refine CWp.frzC hk 3005 5 1 _ 6 rfl rfl rfl rfl rfl (by rw[List.nil_append,hrl];exact zx3 rfl rfl (fun x hx=>Pat.cs_rows x hx)) rfl ?_;refine evc [] [] ?_;refine so ty28 ?_;refine tv ?_;refine rn [(900,some (rdB b (mutP b p q).2))] (.cons (.cellA ty28 rfl rfl rfl) .nil) (.agg (.cons (.eqd ?_) (.cons (.eqd ?_) (.cons (.eqd ?_) (.cons (.eqd ?_) (.cons (.eqd ?_) (.cons (.eqd ?_) .nil))))))) ⟨rfl,rfl⟩ (SubO.get ⟨.inr ?_,⟨.inl rfl,trivial⟩⟩) (zaz rfl);rotate_left 7;try simp only[Q,Pat.cs_len] at h6p
 exfalso;rw[List.nil_append,hrl] at h6p;omega;try simp only[Q,Pat.cs_len] at h5p
 exfalso;omega;all_goals (((rw[hmu];all_goals rfl);done))
theorem zmp {b:Str} (hb:b.length≤2000){p:Pat}{q:Nat} (hq:q≤1000000) (hok:p.ok):
  FnD Tryz.prog 90 [.ref 900 0,.agg [.d (.i p.op),.d (.i p.ctor),.d (.i p.n),.d (.i p.m),.d (.i p.var),.d (zac p.kids)]] [(900,some (rdB b q))]
   (.agg [.d (.i (mutP b p q).1.op),.d (.i (mutP b p q).1.ctor),.d (.i (mutP b p q).1.n),.d (.i (mutP b p q).1.m),.d (.i (mutP b p q).1.var),.d (zac (mutP b p q).1.kids)]) [(900,some (rdB b (mutP b p q).2))]:=by
 by_cases h:zay b q 30=4∧p.kids≠[]
 ·cases hk:p.kids with
  |nil=>exact absurd hk h.2
  |cons y r=>rw[←hk];exact znS hb hq hok h.1 hk
 ·exact znR hb hq hok h
theorem FnD.boxD {P:Program}{f:FuncId}{i n k:Nat}{args:List AV}{cs:List AV}{es:List (List D)} (hc:zbL n k (cs.take (n*k))=some es) (h:FnD P f args [] (.ms i n) [(i,some (.box cs))]):FnD P f args [] (.d (.sl es)) []:=by
 intro G w vals hok;refine(h G w vals hok).mono ?_;rintro e w' ⟨v,r',hp',G',rfl,⟨rfl,rfl⟩,hret⟩
 have gi:getH ([(i,some (Res.box cs))]++[]) i=some (.box cs):=by simp[getH]
 obtain⟨b,us,et,q1,q2,q3,q4,q5⟩:=hret.heap i _ gi;have hown:∀b,b∉zc1 G []:=fun b hb=>by simp[zc1] at hb
 have hnew:w.heap.size≤b:=(hret.new i (by rw[gi];rfl) b (by rw[q1];simp)).resolve_left (hown b);have hlt:b<w'.heap.size:=by
  rcases Nat.lt_or_ge b w'.heap.size with h|h
  ·exact h
  ·rw[Array.getElem?_eq_none h] at q2;cases q2
 let G2:Gh:={ G' with F:=fun x=>bif Nat.beq x b then us.size else G'.F x }
 have hin:G2.F b=us.size:=by simp[G2]
 have hout:∀x,x≠b→G2.F x=G'.F x:=fun x hx=>by
  have:Nat.beq x b=false:=by
   cases h:Nat.beq x b with
   |true=>exact absurd (Nat.eq_of_beq_eq_true h) hx
   |false=>rfl
  simp[G2,this]
 have hle:∀x o,o<G'.F x→o<G2.F x:=fun x o ho=>by
  by_cases hx:x=b
  ·subst hx;rw[q4] at ho;omega
  ·rw[hout x hx];exact ho
 refine⟨v,_,_,G2,rfl,⟨rfl,rfl⟩,zwU hret.res q1 q2 q3 q5 hin (fun y o ho=>⟨hle y o ho,rfl⟩) hc,fun id x hx=>(by cases hx),fun id id' h1=>(by cases h1),fun id h1=>(by cases h1), ?_,fun x hx=>?_,fun id hi=>(by simp[zb9,getH] at hi)⟩
 ·have hf:=hret.frm;exact⟨hf.os,hf.tape,hf.output,hf.size,fun x hx hn=>⟨(hf.block x hx hn).1,by rw[hout x (by omega)];exact(hf.block x hx hn).2⟩,fun x o ho=>⟨hle x o (hf.cell x o ho).1,(hf.cell x o ho).2⟩⟩
 ·rw[hout x (by omega)];exact hret.top x hx
def pd (s:List Pat):List AV:=(s.map Pat.cc).flatten.map .d
theorem zfp (a b:List Pat):pd (a++b)=pd a++pd b:=by simp[pd]
theorem znw (x:Pat):pd [x]=[.d (.i x.op),.d (.i x.ctor),.d (.i x.n),.d (.i x.m),.d (.i x.var),.d (zac x.kids)]:=rfl
theorem ziP (s:List Pat):(pd s).length=s.length*6:=by
 induction s with
 |nil=>rfl
 |cons x r ih=>rw[show x::r=[x]++r from rfl,zfp,xaa,ih,znw];simp;omega
theorem zrh {s:List Pat}{i:Nat} (h:i<s.length):pd s=pd (s.take i)++(pd [nth s i]++pd (s.drop (i+1))):=by
 rw[←zfp,←zfp];congr 1
 rw[show [nth s i]++s.drop (i+1)=nth s i::s.drop (i+1) from rfl,←zaO h,List.take_append_drop]
theorem ziO (s:List Pat):AV.idsL (pd s)=[]:=by
 unfold pd;induction (s.map Pat.cc).flatten with
 |nil=>rfl
 |cons x r ih=>rw[xae,AV.idsL,ih];rfl
theorem zuG {s:List Pat}{i:Nat} (h:i<s.length):cutC (pd s) (i*6) 6=some [.d (.i (nth s i).op),.d (.i (nth s i).ctor),.d (.i (nth s i).n),.d (.i (nth s i).m),.d (.i (nth s i).var),.d (zac (nth s i).kids)]:=by
 rw[zrh h,zuj (by rw[ziP,List.length_take];omega) (r:=pd [nth s i])]
 ·rfl
 ·rw[znw];first|exact zwP|(simp[cutC];done)
theorem zyg {s:List Pat}{i:Nat} (h:i<s.length){t:Pat}:putC (pd s) (i*6) [.d (.i t.op),.d (.i t.ctor),.d (.i t.n),.d (.i t.m),.d (.i t.var),.d (zac t.kids)]=some (pd (s.set i t)):=by
 rw[zrh h,zuK (by rw[ziP,List.length_take];omega) (B':=pd [t]++pd (s.drop (i+1))) (by rw[znw,znw];simp[putC])];rw[List.set_eq_take_append_cons_drop,if_pos h,←zfp,←zfp];rfl
abbrev z6:List AV:=[.d (.i 0),.d (.i 0),.d (.i 0),.d (.i 0),.d (.i 0),.nils]
theorem zw4 {s:List Pat}{i n:Nat} (hn:s.length=n) (h:i≤n):putC (pd s) (i*6) (zba (n-i) z6)=some (pd (s.take i)++zba (n-i) z6):=by
 subst hn;have e:pd s=pd (s.take i)++(pd (s.drop i)++[]):=by
  rw[List.append_nil,←zfp,List.take_append_drop]
 have e2:putC (pd (s.take i)++(pd (s.drop i)++[])) (i*6) (zba (s.length-i) z6)=some (pd (s.take i)++(zba (s.length-i) z6++[])):=by
  rw[zvP (by rw[ziP,List.length_take];omega) ?_];rw[ziP,List.length_drop,zeO];rfl
 rw[←e,List.append_nil] at e2;exact e2
theorem zvM {s:List Pat}{tl:List AV}:zbL s.length 6 ((pd s++tl).take (s.length*6))=some (s.map Pat.cc):=by
 rw[List.take_append_of_le_length (by rw[ziP];exact Nat.le_refl _),List.take_of_length_le (by rw[ziP];exact Nat.le_refl _)];have:=zd6 (f:=Pat.cc) (k:=6) (l:=s) (fun _ _=>rfl);rw[←this];congr 1
 unfold pd;induction s with
 |nil=>rfl
 |cons x r ih=>
  simp only[xae,List.flatten_cons,xaf,List.flatMap_cons];exact congrArg (_++·) (ih (zd6 (fun _ _=>rfl)))
theorem Pat.cs_ccs (l:List Pat):Pat.cs l=l.map Pat.cc:=by
 rw[Pat.cs_eq];exact List.map_congr_left (fun v _=>Pat.c_eq v)
theorem Ex.cs_ccs (l:List Ex):Ex.cs l=l.map Ex.cc:=by
 rw[Ex.cs_eq];exact List.map_congr_left (fun v _=>Ex.c_eq v)
theorem zeP {xs:List Pat}{f:Nat}{caps:List AV}{hp:Hp}{p:Pat→Bool} (hs:xs.length≤1000000000000) (hcal:Callee Tryz.prog f)
  (hf:∀t∈xs,FnD Tryz.prog f ([.agg [.d (.i t.op),.d (.i t.ctor),.d (.i t.n),.d (.i t.m),.d (.i t.var),.d (zac t.kids)]]++caps) hp (.d (.bool (p t))) []) (k1:subH hp hp) (k2:zeI hp=true) (k3:zbf hp [] (.d .nilp) []=true):
  FnD Tryz.prog 152 [.d (zac xs),.fn f caps] hp (.d (.i (idxF p xs 0))) []:=by
 rw[show zac xs=D.sl (xs.map Pat.cc) by show D.sl (Pat.cs xs)=_;rw[Pat.cs_ccs]];refine bd Tryz.f152 19 [] [] fun w0 F0 own kept hk=>?_;refine xaj (ι:=List (Pat)×List (Pat)) hk (fun x=>[(8,.d (.i (x.1.length:Int)))]) [4,5,9,10,11,12,13,14,15,16,17,18] (fun x=>[]) (fun x=>x.1++x.2=xs∧idxF p x.2 x.1.length=idxF p xs 0) (fun x=>x.2.length) ([],xs) ⟨by simp,rfl⟩ ⟨⟨_,rfl,xap ?_⟩,trivial⟩ trivial (fun x=>zi3 hp) (fun x hg1=>?_);focus (first|rfl|(simp;done)|(simp_all;done)|omega)
 obtain⟨pre,rest⟩:=x;dsimp only at hg1 ⊢;refine evc [] [] ?_;refine sq ?_ ?_<;>intro h1 h1p h1s;try simp only[Q] at h1p
 rcases rest with _|⟨y,rest⟩
 ·exfalso;simp_all
 refine xaT sl26 .none rfl rfl rfl rfl (zaL hg1.1) rfl ?_;refine ev ?_;refine xaG (cr:=[]) hcal (hf y (by rw[←hg1.1];simp)) rfl .none rfl rfl rfl (LeL.refl _) k1 k2 (zdT k3 _) rfl ?_;refine tv ?_;refine sq ?_ ?_<;>intro h2 h2p h2s;try simp only[Q] at h2p
 focus (refine rn [] (r1 rfl) (.eqd ?_) ⟨rfl,rfl⟩ (fun _ _ h=>h) (fun _ h=>h);all_goals (rw[←hg1.2];simp[idxF,h1s,h1p,h2s,h2p]))
 try simp only[Q] at h2p
 refine ar ?_;refine Exists.intro ((pre++[y],rest)) ⟨⟨(by have hz:=hg1.1;rw[←hz];simp),(by rw[←hg1.2];simp[idxF,h2s])⟩,(by simp),Sub.x (by kernel_rfl) (by kernel_rfl) ⟨⟨_,rfl,xap ?_⟩,trivial⟩ (by simp) (by simp[zd1]) trivial⟩;focus (first|rfl|(simp;done)|(simp_all;done)|omega)
 try simp only[Q] at h1p
 have hrest:rest=[]:=by
  rcases rest with _|⟨a,b⟩
  ·rfl
  ·exfalso;have hz:=congrArg List.length (hg1.1);simp only[xaa,xab,xac] at hz;omega
 subst hrest;focus (refine rn [] (r1 rfl) (.eqd ?_) ⟨rfl,rfl⟩ (fun _ _ h=>h) (fun _ h=>h);all_goals (rw[←hg1.2];simp[idxF,h1s,h1p]))
theorem zgV {xs:List Pat}{f:Nat}{caps:List AV}{hp:Hp}{p:Pat→Bool} (hs:xs.length≤1000000000000) (hcal:Callee Tryz.prog f)
  (hf:∀t∈xs,FnD Tryz.prog f ([.agg [.d (.i t.op),.d (.i t.ctor),.d (.i t.n),.d (.i t.m),.d (.i t.var),.d (zac t.kids)]]++caps) hp (.d (.bool (p t))) []) (k1:subH hp hp) (k2:zeI hp=true) (k3:zbf hp [] (.d .nilp) []=true):
  FnD Tryz.prog 94 [.d (zac xs),.fn f caps] hp (.d (.bool (xs.any p))) []:=by
 refine bd Tryz.f94 9 [] [] fun w0 F0 own kept hk=>?_;refine Walk.call (cr:=[]) zmE (zeP hs hcal hf k1 k2 k3) rfl .none rfl rfl (LeL.refl _) k1 k2 (zdT k3 _) rfl ?_;refine ev ?_;refine rn [] (r1 rfl) (.eqd ?_) ⟨rfl,rfl⟩ (fun _ _ h=>h) (fun _ h=>h);rotate_left;all_goals (exact congrArg D.bool (zf4 p xs 0))
theorem zeV {xs:List Pat}{f:Nat}{B2 B3:List AV}{p:Pat→Bool} (hs:xs.length≤1000000000000) (hcal:Callee Tryz.prog f) (hB2:AV.idsL B2=[]) (hB3:AV.idsL B3=[])
  (hf:∀t∈xs,FnD Tryz.prog f [.agg [.d (.i t.op),.d (.i t.ctor),.d (.i t.n),.d (.i t.m),.d (.i t.var),.d (zac t.kids)],.ref 3003 0,.ref 3004 0] [(3003,some (.box B2)),(3004,some (.box B3))] (.d (.bool (p t))) []):
  FnD Tryz.prog 152 [.ms 1 xs.length,.fn f [.ref 3003 0,.ref 3004 0]] [(1,some (.box (pd xs))),(3003,some (.box B2)),(3004,some (.box B3))] (.d (.i (idxF p xs 0))) []:=by
 refine bd Tryz.f152 19 [15] [] fun w0 F0 own kept hk=>?_;refine xaj (ι:=Nat) hk (fun i=>[(8,.d (.i (i:Int)))]) [4,5,9,10,11,12,13,14,15,16,17,18] (fun i=>[]) (fun i=>i≤xs.length∧idxF p (xs.drop i) i=idxF p xs 0) (fun i=>xs.length-i) 0 ⟨by omega,rfl⟩ ⟨⟨_,rfl,xap ?_⟩,trivial⟩ trivial (fun x=>rfl) (fun i hg1=>?_);focus (rfl)
 refine evc [15] [] ?_;refine sq ?_ ?_<;>intro h1 h1p h1s;try simp only[Q] at h1p
 refine xaX sl26 .none rfl rfl rfl rfl (by first|omega|(simp ;omega)) ?_;refine xa0 ty28 .none rfl rfl rfl ((zuG (by omega))) ?_;refine xaG (cr:=[]) hcal (hf (nth xs i) (zaf (by omega))) rfl .none rfl rfl rfl (LeL.refl _) ⟨rfl,rfl,trivial⟩ rfl (by simp only[zbf,List.all_cons,List.all_nil,zcc,zbT,AV.idsL,AV.ids,hB2,hB3,xae,List.map_nil];rfl) rfl ?_;refine tv ?_;refine sq ?_ ?_<;>intro h2 h2p h2s;try simp only[Q] at h2p
 focus (refine rn [] (r1 rfl) (.eqd ?_) ⟨rfl,rfl⟩ (SubH.get ⟨rfl,⟨rfl,⟨rfl,trivial⟩⟩⟩) (fun _ h=>h);all_goals ((rw[←hg1.2,zaO (by omega)];simp[idxF,h1s,h1p,h2s,h2p];done)))
 try simp only[Q] at h2p
 refine ar ?_;refine Exists.intro (i+1) ⟨⟨by omega,(by rw[←hg1.2,zaO (l:=xs) (i:=i) (by omega)];simp_all[idxF])⟩,(by omega),sx ⟨⟨_,rfl,xap ?_⟩,trivial⟩ trivial⟩;focus (rfl)
 try simp only[Q] at h1p
 focus (refine rn [] (r1 rfl) (.eqd ?_) ⟨rfl,rfl⟩ (SubH.get ⟨rfl,⟨rfl,⟨rfl,trivial⟩⟩⟩) (fun _ h=>h);all_goals ((rw[←hg1.2,List.drop_eq_nil_of_le (by omega)];rfl)))
theorem zhY {xs:List Pat}{f:Nat}{B2 B3:List AV}{p:Pat→Bool} (hs:xs.length≤1000000000000) (hcal:Callee Tryz.prog f) (hB2:AV.idsL B2=[]) (hB3:AV.idsL B3=[])
  (hf:∀t∈xs,FnD Tryz.prog f [.agg [.d (.i t.op),.d (.i t.ctor),.d (.i t.n),.d (.i t.m),.d (.i t.var),.d (zac t.kids)],.ref 3003 0,.ref 3004 0] [(3003,some (.box B2)),(3004,some (.box B3))] (.d (.bool (p t))) []):
  ∃tl:List AV,AV.idsL tl=[]∧FnD Tryz.prog 146 [.ms 1 xs.length,.fn f [.ref 3003 0,.ref 3004 0]] [(1,some (.box (pd xs))),(3003,some (.box B2)),(3004,some (.box B3))]
   (.ms 1 (xs.filter fun t=> !p t).length) [(1,some (.box (pd (xs.filter fun t=> !p t)++tl)))]:=by
 have hok3:zbf [(1,some (.box (pd xs))),(3003,some (.box B2)),(3004,some (.box B3))] [] (.d .nilp) []=true:=by
  simp only[zbf,List.all_cons,List.all_nil,zcc,zbT,AV.idsL,AV.ids,ziO,hB2,hB3,xae,List.map_nil];rfl
 rcases zo9 p xs 0 with ⟨hi,hall⟩|⟨k,hi,hk1,hk2⟩
 ·have hfil:(xs.filter fun t=> !p t)=xs:=List.filter_eq_self.2 (fun x hx=>by simp[hall x hx]);refine⟨[],rfl, ?_⟩;rw[hfil,List.append_nil];refine bd Tryz.f146 42 [] [] fun w0 F0 own kept hk=>?_;refine Walk.call (cr:=[]) zmE (zeV hs hcal hB2 hB3 hf) rfl .none rfl rfl (.cons (xar (by first|rfl|(simp;done))) (.cons (.refl _) .nil)) ⟨rfl,rfl,rfl,trivial⟩ rfl (zdT hok3 _) rfl ?_;refine ev ?_;refine sq ?_ ?_<;>intro h1 h1p h1s;try simp only[Q] at h1p
  refine rn [(1,some (.box (pd xs)))] (r1 rfl) (.refl _) ⟨rfl,rfl⟩ (SubO.get ⟨.inr ?_,⟨.inl rfl,⟨.inr rfl,⟨.inr rfl,trivial⟩⟩⟩⟩) (zaz rfl);rotate_left;try simp only[Q] at h1p
  exfalso;simp[hi] at h1;all_goals (((first|rfl|(simp;done));done))
 ·skip
  have hlen:(xs.filter fun t=> !p t).length≤xs.length:=List.length_filter_le _ _;refine⟨zba (xs.length-(xs.filter fun t=> !p t).length) z6,zjF rfl, ?_⟩;refine bd Tryz.f146 42 [25] [] fun w0 F0 own kept hk=>?_;refine Walk.call (cr:=[]) zmE (zeV hs hcal hB2 hB3 hf) rfl .none rfl rfl (.cons (xar (by first|rfl|(simp;done))) (.cons (.refl _) .nil)) ⟨rfl,rfl,rfl,trivial⟩ rfl (zdT hok3 _) rfl ?_;refine evs [25] [] ?_;refine sq ?_ ?_<;>intro h1 h1p h1s;try simp only[Q] at h1p
  exfalso;simp[hi] at h1<;>omega;try simp only[Q] at h1p
  refine ar ?_;refine xaj (ι:=List Pat×Nat×Nat) hk (fun x=>[(6,.d (.i (x.2.1:Int))),(5,.d (.i (x.2.2:Int)))]) [7,16,17,18,19,20,21,22,23,24,25,26,27,28,29,30,31,32,33,34,35] (fun x=>[(1,some (.box (pd x.1)))]) (fun x=>x.1.length=xs.length∧x.2.1≤xs.length∧x.2.2≤x.2.1∧x.1.take x.2.2=(xs.take x.2.1).filter (fun t=> !p t)∧x.1.drop x.2.1=xs.drop x.2.1) (fun x=>xs.length-x.2.1) (xs,k+1,k) ⟨rfl,by dsimp only;omega,by dsimp only;omega,hk2.symm,rfl⟩ ⟨⟨_,rfl,xap ?_⟩,⟨⟨_,rfl,xap ?_⟩,trivial⟩⟩ ⟨?_,trivial⟩ (fun x=>rfl) (fun x hg1=>?_);iterate 2 focus ((simp_all;done))
  focus (rfl)
  refine evc [25] [] ?_;refine sq ?_ ?_<;>intro h2 h2p h2s;try simp only[Q] at h2p
  refine xaX sl26 .none rfl rfl rfl rfl (by first|omega|(simp ;omega)) ?_;refine xa0 ty28 .none rfl rfl rfl (((zuG (s:=x.1) (by omega)).trans (by rw[zrZ hg1.2.2.2.2 hg1.1 (by omega)]))) ?_;refine Walk.alloc (id:=3007) tz28 rfl .none rfl (by(simp only[zaA,occH,occE,Res.ids,xag,List.nil_append,AV.idsL,AV.ids,zaj,zak,zar,zaS,xae,List.map_nil,upC,hB2,hB3,ziO];rfl)) (by(simp only[zaA,occH,occE,Res.ids,xag,List.nil_append,AV.idsL,AV.ids,zaj,zak,zar,zaS,xae,List.map_nil,upC,hB2,hB3,ziO];rfl)) (by(simp only[zaA,occH,occE,Res.ids,xag,List.nil_append,AV.idsL,AV.ids,zaj,zak,zar,zaS,xae,List.map_nil,upC,hB2,hB3,ziO];rfl)) ?_;refine so ty28 ?_;refine tv ?_;refine xaG (cr:=[]) hcal (hf (nth xs x.2.1) (zaf (by omega))) rfl .none rfl rfl rfl (LeL.refl _) ⟨rfl,rfl,trivial⟩ rfl (by simp only[zbf,List.all_cons,List.all_nil,zcc,zbT,AV.idsL,AV.ids,hB2,hB3,xae,List.map_nil];rfl) rfl ?_;refine evs [25] [] ?_;refine sq ?_ ?_<;>intro h3 h3p h3s;try simp only[Q] at h3p
  refine xaX sl26 .none rfl rfl rfl rfl (by first|omega|(simp ;omega)) ?_;refine Walk.store ty28 .none rfl rfl rfl rfl rfl rfl (by simp) ((zyg (by omega))) ?_;refine tv ?_;refine ar ?_;refine ar ?_;refine Exists.intro ((if p (nth xs x.2.1) then x.1 else x.1.set x.2.2 (nth xs x.2.1),x.2.1+1,if p (nth xs x.2.1) then x.2.2 else x.2.2+1)) ⟨(by
      obtain⟨g1,g2,g3,g4,g5⟩:=hg1;have hlt:x.2.1<xs.length:=by omega
      have h7:=zhy (p:=fun t=> !p t) hlt;refine⟨by dsimp only;split<;>simp[g1],by dsimp only;omega,by dsimp only;split<;>omega, ?_, ?_⟩
      ·dsimp only;rw[h7,←g4];cases hp:p (nth xs x.2.1) with
       |true=>simp
       |false=>simp only[Bool.false_eq_true,if_false,Bool.not_false,if_true];rw[zjP (by omega)]
      ·dsimp only;split
       ·exact zh5 g5
       ·(rw[zpM g3];exact zh5 g5)),(by dsimp only;omega),sx ⟨⟨_,rfl,xap ?_⟩,⟨⟨_,rfl,xap ?_⟩,trivial⟩⟩ ⟨?_,trivial⟩⟩
  iterate 2 focus ((simp_all;done))
  focus ((show some (Res.box _)=some (Res.box _);dsimp only;split<;>first|rfl|(exfalso;simp_all;done)))
  try simp only[Q] at h3p
  refine ar ?_;refine Exists.intro ((if p (nth xs x.2.1) then x.1 else x.1.set x.2.2 (nth xs x.2.1),x.2.1+1,if p (nth xs x.2.1) then x.2.2 else x.2.2+1)) ⟨(by
      obtain⟨g1,g2,g3,g4,g5⟩:=hg1;have hlt:x.2.1<xs.length:=by omega
      have h7:=zhy (p:=fun t=> !p t) hlt;refine⟨by dsimp only;split<;>simp[g1],by dsimp only;omega,by dsimp only;split<;>omega, ?_, ?_⟩
      ·dsimp only;rw[h7,←g4];cases hp:p (nth xs x.2.1) with
       |true=>simp
       |false=>simp only[Bool.false_eq_true,if_false,Bool.not_false,if_true];rw[zjP (by omega)]
      ·dsimp only;split
       ·exact zh5 g5
       ·exact zh5 g5),(by dsimp only;omega),sx ⟨⟨_,rfl,xap ?_⟩,⟨⟨_,rfl,xap ?_⟩,trivial⟩⟩ ⟨?_,trivial⟩⟩
  iterate 2 focus ((simp_all;done))
  focus ((show some (Res.box _)=some (Res.box _);dsimp only;split<;>first|rfl|(exfalso;simp_all;done)))
  try simp only[Q] at h2p
  refine Walk.cutM_l sl26 .none rfl rfl rfl rfl (by omega) ?_;refine Walk.clearB sl26 tz28 rfl (by decide) rfl .none rfl rfl (zw4 hg1.1 (by omega)) ?_;refine tv ?_;refine Walk.cutM_h sl26 .none rfl rfl rfl rfl (by omega) ?_;refine evs [25] [] ?_;refine rn [(1,some (.box (pd (xs.filter fun t=> !p t)++zba (xs.length-(xs.filter fun t=> !p t).length) z6)))] (r1 rfl) (xar ?_) ⟨rfl,rfl⟩ (SubO.get ⟨.inr ?_,⟨.inl rfl,⟨.inr rfl,⟨.inr rfl,trivial⟩⟩⟩⟩) (zaz rfl);rotate_left 2;all_goals (first|((first|rfl|(obtain⟨g1,g2,g3,g4,g5⟩:=hg1;have e:x.2.1=xs.length:=(by omega);rw[e,List.take_length] at g4;rw[←g4,List.length_take];omega));done)|((obtain⟨g1,g2,g3,g4,g5⟩:=hg1;have e:x.2.1=xs.length:=(by omega);rw[e,List.take_length] at g4;have e2:(xs.filter fun t=> !p t).length=x.2.2:=(by rw[←g4,List.length_take];omega);rw[e2,←g4];rfl)))
theorem zhb {f:Nat}{caps:List AV}{hp:Hp} (hcal:Callee Tryz.prog f) (k1:subH hp hp) (k2:zeI hp=true) (k3:zbf hp [] (.d .nilp) []=true):
  FnD Tryz.prog 146 [.d (.sl []),.fn f caps] hp (.d (.sl [])) []:=by
 have hz:=zeP (xs:=[]) (p:=fun _=>false) (f:=f) (caps:=caps) (hp:=hp) (by simp) hcal (fun t ht=>by simp at ht) k1 k2 k3;refine bd Tryz.f146 42 [] [] fun w0 F0 own kept hk=>?_;refine Walk.call (cr:=[]) zmE (hz) rfl .none rfl rfl (LeL.refl _) k1 k2 (zdT k3 _) rfl ?_;refine ev ?_;refine sq ?_ ?_<;>intro h1 h1p h1s;try simp only[Q] at h1p
 focus (refine rn [] (r1 rfl) (.eqd ?_) ⟨rfl,rfl⟩ (fun _ _ h=>h) (fun _ h=>h);all_goals (rfl))
 try simp only[Q] at h1p
 exfalso;simp[idxF] at h1
theorem zkO {xs:List Pat} (hs:xs.length≤1000000000000) (hne:xs≠[]):FnD Tryz.prog 147 [.d (zac xs)] [] (.ms 1 xs.length) [(1,some (.box (pd xs)))]:=by
 have hcs:Pat.cs xs≠[]:=fun h=>hne ((Pat.cs_nil xs).1 h);refine Fn.body (fn:=Tryz.f147) (n:=8) rfl rfl rfl rfl rfl (fun w0 F0 own kept hk=>?_);refine xal 0 rfl (fun hx0=>?_) ?_;refine evc [4] [] ?_;refine xaR sl26 .none rfl rfl ?_;refine tv ?_;refine sqT ?_;exfalso;exact hcs hx0;refine evc [4] [] ?_;refine xaQ sl26 .none rfl rfl ?_;refine tv ?_;refine sqF ?_;refine xbi 1 sl26 .none rfl rfl ?_;refine evs [4] [] ?_;refine xaz hk rfl (by simp[hcs]) sl26 zz28 .none rfl rfl rfl rfl (zfD rfl (by rfl)) (by intro y hy;rw[xat] at hy;obtain⟨z,_,rfl⟩:=List.mem_map.1 hy;rfl) (by simp[Pat.cs_len];omega) (by simp[Pat.cs_len];omega) ?_;refine evs [4] [] ?_;refine rn [(1,some (.box (pd xs)))] (r1 rfl) (xar ?_) ⟨rfl,rfl⟩ (SubH.get ⟨?_,trivial⟩) (zaz rfl);rotate_left 2;all_goals (first|((first|rfl|(simp[Pat.cs_len];done));done)|(first|rfl|(show some (Res.box _)=some (Res.box _);unfold pd;rw[←xat];rfl)))
theorem zl7 {w:List Data} (hs:Spa w){ta tk:Int} (ht:InS (w.length*4) ⟨ta,tk⟩){p:Pat} (hp:zae w 11 ⟨ta,tk⟩ p=true):
  FnD Tryz.prog 148 [.agg [.d (.i p.op),.d (.i p.ctor),.d (.i p.n),.d (.i p.m),.d (.i p.var),.d (zac p.kids)],.ref 3003 0,.ref 3004 0] [(3003,some (.box [.d (sPtr w (zai w))])),(3004,some (.box [.d (.i ta),.d (.i tk)]))] (.d (.bool (zaX w (zai w) 11 ⟨ta,tk⟩ p))) []:=by
 refine bd Tryz.f148 9 [] [] fun w0 F0 own kept hk=>?_;refine bx 3001 ?_;refine ev ?_;refine wc zi5 (zcG hs.dp 11 (zg9 _ hp) ht (zeK hs 11 ht hp).1) rfl rfl ?_;refine ev ?_;focus (refine rn [] (r1 rfl) (.eqd ?_) ⟨rfl,rfl⟩ (SubH.get ⟨rfl,⟨rfl,trivial⟩⟩) (fun _ h=>h);all_goals (rfl))
theorem ziJ {w:List Data} (hs:Spa w){ta tk:Int} (ht:InS (w.length*4) ⟨ta,tk⟩){l:List Pat} (hl:∀a∈l,zae w 11 ⟨ta,tk⟩ a=true) (hb:l.length≤1000000000000):
  FnD Tryz.prog 92 [.d (sPtr w (zai w)),.agg [.d (.i ta),.d (.i tk)],.d (zac l)] [] (.d (zac (l.filter (zbj w ⟨ta,tk⟩)))) []:=by
 by_cases hne:l=[]
 ·subst hne;have hcl:FnD Tryz.prog 147 [.d (.sl [])] [] (.d (.sl [])) []:=(zfY (xs:=[]) (by simp)).glD;refine bd Tryz.f92 11 [] [] fun w0 F0 own kept hk=>?_;refine bx 3003 ?_;refine bx 3004 ?_;refine ev ?_;refine wc zqu (hcl) rfl rfl ?_;refine xaI (xs:=[_,_]) rfl .none rfl rfl ?_;refine Walk.call (cr:=[]) ztU (zhb (hp:=[(3003,some (.box [.d (sPtr w (zai w))])),(3004,some (.box [.d (.i ta),.d (.i tk)]))]) ztV ⟨rfl,rfl,trivial⟩ rfl rfl) rfl .none rfl rfl (LeL.refl _) ⟨rfl,rfl,trivial⟩ rfl rfl rfl ?_;refine ev ?_;focus (refine rn0 (r1 rfl) (.eqd ?_);all_goals (rfl))
 ·obtain⟨tl,htl,hdel⟩:=zhY (xs:=l) (p:=fun a=>zaX w (zai w) 11 ⟨ta,tk⟩ a) hb ztV (B2:=[.d (sPtr w (zai w))]) (B3:=[.d (.i ta),.d (.i tk)]) rfl rfl (fun a ha=>zl7 hs ht (hl a ha));have key:FnD Tryz.prog 92 [.d (sPtr w (zai w)),.agg [.d (.i ta),.d (.i tk)],.d (zac l)] [] (.ms 1 (l.filter (zbj w ⟨ta,tk⟩)).length) [(1,some (.box (pd (l.filter (zbj w ⟨ta,tk⟩))++tl)))]:=by
   refine bd Tryz.f92 11 [] [] fun w0 F0 own kept hk=>?_;refine bx 3003 ?_;refine bx 3004 ?_;refine ev ?_;refine Walk.call (cr:=[1]) zqu (zkO hb hne) rfl .none rfl rfl (LeL.refl _) trivial rfl (by simp only[zbf,List.all_cons,List.all_nil,zcc,zbT,AV.idsL,AV.ids,ziO,zaj,htl,xae,List.map_nil];rfl) rfl ?_;refine xaI (xs:=[_,_]) rfl .none rfl rfl ?_;refine Walk.call (cr:=[]) ztU (hdel) rfl .none rfl rfl (.cons (xar (by first|rfl|(simp;done))) (.cons (.refl _) .nil)) ⟨rfl,rfl,rfl,trivial⟩ rfl (by simp only[zbf,List.all_cons,List.all_nil,zcc,zbT,AV.idsL,AV.ids,ziO,zaj,htl,xae,List.map_nil];rfl) rfl ?_;refine ev ?_;refine rn [(1,some (.box (pd (l.filter (zbj w ⟨ta,tk⟩))++tl)))] (r1 rfl) (xar ?_) ⟨rfl,rfl⟩ (SubH.get ⟨?_,trivial⟩) (zaz rfl);rotate_left 2;all_goals (first|((rfl);done)|(rfl))
  have h2:=key.boxD (k:=6) zvM;rw[←xat] at h2;exact h2
theorem zog {α β:Type}{g:α→List β}{K:Nat}:∀(l:List α),(∀x∈l,(g x).length≤K)→(l.flatMap g).length≤l.length*K
 | [],_=>by simp
 |x::r,h=>by
  have h1:=h x (by simp);have h2:=zog r (fun y hy=>h y (by simp[hy]));rw[List.flatMap_cons,xaa,xab,Nat.add_mul];omega
theorem zgL {w:List Data}{t:Ty}{l away:List Pat}{i:Nat} (h:i<away.length):subL w t l (away.drop i)=if (zbR w t l (nth away i)).length≤400 then subL w t (zbR w t l (nth away i)) (away.drop (i+1)) else none:=by
 rw[zaO h,subL]
theorem zrD {w:List Data}{t:Ty}{l away:List Pat}{i:Nat} (h:away.length≤i):subL w t l (away.drop i)=some l:=by
 rw[List.drop_eq_nil_of_le h,subL]
theorem zdm (p:Pat):(zaD p).length≤40:=by unfold zaD;split;assumption;simp
theorem zlN {w:List Data}{t:Ty}{p:Pat} (h:zao w 10 t p=true):∀x∈zaD p,zae w 10 t x=true:=fun x hx=>by
 unfold zaD at hx;split at hx
 ·exact zgf 10 h x hx
 ·simp at hx
theorem zd4 {w:List Data}{t:Ty}:∀(away l r:List Pat),(∀a∈l,zae w 11 t a=true)→l.length≤400→(∀b∈away,zae w 10 t b=true)→subL w t l away=some r→r.length≤400∧∀x∈r,zae w 11 t x=true
 | [],l,r,hl,hn,_,h=>by rw[subL] at h;cases h;exact⟨hn,hl⟩
 |b::away,l,r,hl,hn,hb,h=>by
  rw[subL] at h;split at h
  ·rename_i h4;exact zd4 away _ r (zeH hl (hb b (by simp))) h4 (fun x hx=>hb x (by simp[hx])) h
  ·cases h
theorem zia {w:List Data} (hs:Spa w){ta tk:Int} (ht:InS (w.length*4) ⟨ta,tk⟩){l away:List Pat} (hl:∀a∈l,zae w 11 ⟨ta,tk⟩ a=true) (hb:∀b∈away,zae w 10 ⟨ta,tk⟩ b=true) (hll:l.length≤400) (hal:away.length≤2000):
  FnD Tryz.prog 49 [.d (sPtr w (zai w)),.agg [.d (.i ta),.d (.i tk)],.d (zac l),.d (zac away)] [] (.tup [.d (zac ((zaJ w ⟨ta,tk⟩ l away).getD [])),.d (.bool (zaJ w ⟨ta,tk⟩ l away).isSome)]) []:=by
 have hlf:(l.filter (zbj w ⟨ta,tk⟩)).length≤l.length:=List.length_filter_le _ _;have hmb:∀(c:List Pat) (i:Nat),(∀a∈c,zae w 11 ⟨ta,tk⟩ a=true)→i<away.length→∀x∈c,(zaq w 10 ⟨ta,tk⟩ x (nth away i)).length≤20000000:=fun c i hc hi x hx=>zgd hs (by omega) (by omega) ht (hc x hx) (hb _ (zaf hi));have hnp:∀(c:List Pat) (i:Nat),(∀a∈c,zae w 11 ⟨ta,tk⟩ a=true)→i<away.length→∀x∈(c.flatMap fun a=>zaq w 10 ⟨ta,tk⟩ a (nth away i)),zae w 11 ⟨ta,tk⟩ x=true:=fun c i hc hi x hx=>by
  obtain⟨a,ha,hx⟩:=List.mem_flatMap.1 hx;exact zfM 10 11 (by omega) (hc a ha) (hb _ (zaf hi)) x hx
 have hpre:∀ {pre rest c:List Pat}{y:Pat} (i:Nat),(∀a∈c,zae w 11 ⟨ta,tk⟩ a=true)→c.length≤400→i<away.length→pre++y::rest=c→(pre.flatMap fun a=>zaq w 10 ⟨ta,tk⟩ a (nth away i)).length≤8000000000∧(zaq w 10 ⟨ta,tk⟩ y (nth away i)).length≤20000000:=fun {pre rest c y} i hc h4 hi h=>by
  have h1:=zog (g:=fun a=>zaq w 10 ⟨ta,tk⟩ a (nth away i)) (K:=20000000) pre (fun x hx=>hmb c i hc hi x (by rw[←h];simp[hx]));have h2:=hmb c i hc hi y (by rw[←h];simp);have h3:=congrArg List.length h;simp only[xaa,xab] at h3;exact⟨by omega,h2⟩
 refine bd Tryz.f49 48 [12] [11] fun w0 F0 own kept hk=>?_;refine bx 3005 ?_;refine evs [12] [] ?_;refine wc zwk (ziJ hs ht hl (by omega)) rfl rfl ?_;refine evs [12] [] ?_;refine xaj (ι:=Nat×List Pat) hk (fun s=>[(21,.d (.i (s.1:Int))),(2,.d (zac s.2))]) [8,9,11,12,14,22,23,24,25,26,27,28,29,30,31,32,33,34,35,36,37,38,39,40,41,42,43,44,45,46] (fun s=>[]) (fun s=>s.1≤away.length∧subL w ⟨ta,tk⟩ s.2 (away.drop s.1)=zaJ w ⟨ta,tk⟩ l away∧(∀a∈s.2,zae w 11 ⟨ta,tk⟩ a=true)∧s.2.length≤400) (fun s=>away.length-s.1) (0,l.filter (zbj w ⟨ta,tk⟩)) ⟨by simp,rfl,fun a ha=>hl a (List.mem_filter.1 ha).1,by dsimp only;omega⟩ ⟨⟨_,rfl,xap ?_⟩,⟨⟨_,rfl, ?_⟩,trivial⟩⟩ trivial (fun x=>rfl) (fun s hg1=>?_);focus (rfl)
 focus (exact LeA.refl _)
 refine evc [12] [11] ?_;refine sq ?_ ?_<;>intro h1 h1p h1s;try simp only[Q,Pat.cs_len] at h1p
 refine xaT sl26 .none rfl rfl rfl rfl (zaE (by omega)) rfl ?_;refine evs [12] [] ?_;refine ab 3011 tz28 ?_;refine so ty28 ?_;refine tv ?_;refine xaB 9 6 .none rfl rfl ?_;refine tv ?_;refine xaj (ι:=List (Pat)×List (Pat)) hk (fun x=>[(27,.d (.i (x.1.length:Int))),(12,.gl 9 (Pat.cs (x.1.flatMap fun a=>zaq w 10 ⟨ta,tk⟩ a (nth away s.1))))]) [14,28,29,30,31,32,33,34,35,36,37,38] (fun x=>[(9,some (.tok ((Pat.cs (x.1.flatMap fun a=>zaq w 10 ⟨ta,tk⟩ a (nth away s.1)))).length 6))]) (fun x=>x.1++x.2=s.2) (fun x=>x.2.length) ([],s.2) (by simp) ⟨⟨_,rfl,xap ?_⟩,⟨⟨_,rfl,LeA.glg ?_⟩,trivial⟩⟩ ⟨zab ?_,trivial⟩ (fun x=>rfl) (fun x hg2=>?_);iterate 3 focus (rfl)
 obtain⟨pre,rest⟩:=x;dsimp only at hg2 ⊢;refine evc [12] [11] ?_;refine sq ?_ ?_<;>intro h2 h2p h2s;try simp only[Q,Pat.cs_len] at h2p
 rcases rest with _|⟨y,rest⟩
 ·exfalso;simp_all
 refine xaT sl26 .none rfl rfl rfl rfl (Pat.cs_at' hg2) rfl ?_;refine evs [12] [] ?_;refine ab 3014 tz28 ?_;refine so ty28 ?_;refine tv ?_;refine wc zs8 (zjJ hs 10 11 (by omega) (by omega) (by omega) ht (hg1.2.2.1 y (by rw[←hg2];simp)) (hb _ (zaf (by omega)))) rfl rfl ?_;refine ap sl26 zz28 rfl rfl rfl (by exact zbO _) (by have h9:=hpre s.1 hg1.2.2.1 hg1.2.2.2 (by omega) hg2;simp only[Pat.cs_len];omega) ?_;refine asg ?_;refine tv ?_;refine ar ?_;refine Exists.intro ((pre++[y],rest)) ⟨(by have hz:=hg2;rw[←hz];simp),(by simp),sx ⟨⟨_,rfl,xap ?_⟩,⟨⟨_,rfl,LeA.glg ?_⟩,trivial⟩⟩ ⟨zab ?_,trivial⟩⟩;iterate 3 focus (first|(rw[List.flatMap_append,xat,xat,xat,xaf];simp;done)|(simp[Pat.cs_len];done))
 try simp only[Q,Pat.cs_len] at h2p
 have hrest:rest=[]:=by
  rcases rest with _|⟨a,b⟩
  ·rfl
  ·exfalso;have hz:=congrArg List.length (hg2);simp only[xaa,xab,xac] at hz;omega
 subst hrest;obtain rfl:pre=s.2:=(by simpa using hg2);refine evc [12] [] ?_;refine Walk.call (cr:=[]) zwk (ziJ hs ht (l:=s.2.flatMap fun a=>zaq w 10 ⟨ta,tk⟩ a (nth away s.1)) (hnp s.2 s.1 hg1.2.2.1 (by omega)) (by have:=zog (g:=fun a=>zaq w 10 ⟨ta,tk⟩ a (nth away s.1)) (K:=20000000) s.2 (hmb s.2 s.1 hg1.2.2.1 (by omega));omega)) rfl .none rfl rfl (.cons (.refl _) (.cons (.refl _) (.cons (.gl _ _) .nil))) trivial rfl rfl rfl ?_;refine evs [12] [] ?_;refine sq ?_ ?_<;>intro h3 h3p h3s;try simp only[Q,Pat.cs_len] at h3p
 refine rn0 (r2 rfl rfl) (.tup (.cons (.nild ?_) (.cons (.eqd ?_) .nil)));rotate_left 2;try simp only[Q,Pat.cs_len] at h3p
 refine ar ?_;refine Exists.intro ((s.1+1,zbR w ⟨ta,tk⟩ s.2 (nth away s.1))) ⟨(by
    have h4:(zbR w ⟨ta,tk⟩ s.2 (nth away s.1)).length≤400:=by unfold zbR;omega
    refine⟨by dsimp only;omega, ?_,zeH hg1.2.2.1 (hb _ (zaf (by omega))),h4⟩;have e:=zgL (w:=w) (t:=⟨ta,tk⟩) (l:=s.2) (away:=away) (i:=s.1) (by omega);rw[if_pos h4] at e;dsimp only;rw[←e];exact hg1.2.1),(by dsimp only;omega),sx ⟨⟨_,rfl,xap ?_⟩,⟨⟨_,rfl, ?_⟩,trivial⟩⟩ trivial⟩
 focus (rfl)
 focus (exact LeA.refl _)
 try simp only[Q,Pat.cs_len] at h1p
 refine rn0 (r2 rfl rfl) (.tup (.cons (.eqd ?_) (.cons (.eqd ?_) .nil)));rotate_left 2;all_goals (first|(rw[←hg1.2.1,zgL (by omega),if_neg (by unfold zbR;omega)];rfl)|(rw[←hg1.2.1,zrD (by omega)];rfl))
theorem zl9 {w:List Data} (hs:Spa w){f:Nat→Nat}{ta tk:Int} (ht:InS (w.length*4) ⟨ta,tk⟩){p:Pat} (hp:p.ok):
  FnD Tryz.prog 95 [.agg [.d (.i p.op),.d (.i p.ctor),.d (.i p.n),.d (.i p.m),.d (.i p.var),.d (zac p.kids)],.ref 3004 0,.ref 3005 0] [(3004,some (.box [.d (sPtr w f)])),(3005,some (.box [.d (.i ta),.d (.i tk)]))] (.d (.bool (!isP w ⟨ta,tk⟩ p))) []:=by
 refine bd Tryz.f95 13 [] [] fun w0 F0 own kept hk=>?_;refine bx 3001 ?_;refine ev ?_;refine wc zp6 (zeQ hs.dp.wt (zb2 ht) hp) rfl rfl ?_;refine evd [] [] ?_;refine dr ?_;refine rn [] (r1 rfl) (.eqd ?_) ⟨rfl,rfl⟩ (SubH.get ⟨rfl,⟨rfl,trivial⟩⟩) (fun _ h=>h);rotate_left;all_goals (rfl)
theorem zdG {w:List Data} (hs:Spa w){f:Nat→Nat}{ta tk:Int} (ht:InS (w.length*4) ⟨ta,tk⟩){l:List Pat}{ok:Bool} (hl:∀a∈l,a.ok) (hb:l.length≤1000000000000):
  FnD Tryz.prog 50 [.d (sPtr w f),.agg [.d (.i ta),.d (.i tk)],.d (zac l),.d (.bool ok)] [] (.tup [.d (zac (if (ok&&l.all (isP w ⟨ta,tk⟩))=true then l else [])),.d (.bool (ok&&l.all (isP w ⟨ta,tk⟩)))]) []:=by
 have hall:(l.any fun p=> !isP w ⟨ta,tk⟩ p) = !(l.all (isP w ⟨ta,tk⟩)):=by
  induction l with
  |nil=>rfl
  |cons x r ih=>rw[List.any_cons,List.all_cons,ih (fun a ha=>hl a (by simp[ha])) (by simp at hb;omega),Bool.not_and]
 have hcf:=zgV (xs:=l) (p:=fun p=> !isP w ⟨ta,tk⟩ p) (caps:=[.ref 3004 0,.ref 3005 0]) (hp:=[(3004,some (.box [.d (sPtr w f)])),(3005,some (.box [.d (.i ta),.d (.i tk)]))]) hb zyv (fun q hq=>zl9 hs ht (hl q hq)) ⟨rfl,rfl,trivial⟩ rfl rfl;rw[hall] at hcf;clear hall;generalize l.all (isP w ⟨ta,tk⟩)=q at hcf ⊢;refine bd Tryz.f50 19 [] [] fun w0 F0 own kept hk=>?_;refine bx 3004 ?_;refine bx 3005 ?_;refine ev ?_;refine sq ?_ ?_<;>intro h1 h1p h1s;try simp only[Q] at h1p
 refine sqT ?_;refine rn0 (r2 rfl rfl) (.tup (.cons (.nild ?_) (.cons (.eqd ?_) .nil)));rotate_left 2;try simp only[Q] at h1p
 refine xaI (xs:=[_,_]) rfl (.some rfl rfl h1) rfl rfl ?_;refine Walk.call (cr:=[]) zyu (hcf) rfl (.some rfl rfl h1) rfl rfl (LeL.refl _) ⟨rfl,rfl,trivial⟩ rfl rfl rfl ?_;refine evs [] [(12,false)] ?_ ⟨⟨_,rfl,h1⟩,trivial⟩;refine sq ?_ ?_<;>intro h3 h3p h3s;try simp only[Q] at h3p
 refine rn0 (r2 rfl rfl) (.tup (.cons (.nild ?_) (.cons (.eqd ?_) .nil)));rotate_left 2;try simp only[Q] at h3p
 refine wc zyw (zjT hb hl) rfl rfl ?_;refine ev ?_;refine rn0 (r2 rfl rfl) (.tup (.cons (.eqd ?_) (.cons (.eqd ?_) .nil)));rotate_left 2;all_goals ((cases ok<;>cases q<;>first|rfl|(exfalso;simp_all;done)))
mutual
def hitP:Pat→Val→Bool
 | .mk op c n m _ ks,v=>if op=3 then zap v.num n m else if op=4 then decide (c=v.ctor)&&hitL ks v.kids else true
def hitL:List Pat→List Val→Bool
 |p::r,v::s=>hitP p v&&hitL r s
 |_,_=>true
end
theorem zok (p:Pat) (v:Val):hitP p v=if p.op=3 then zap v.num p.n p.m else if p.op=4 then decide (p.ctor=v.ctor)&&hitL p.kids v.kids else true:=by
 cases p;unfold hitP;rfl
theorem ze0 {p:Pat}{v:Val} (h:p.op=1):hitP p v=true:=by rw[zok,if_neg (by omega),if_neg (by omega)]
theorem zg4 {p:Pat}{v:Val} (h:p.op=3):hitP p v=zap v.num p.n p.m:=by rw[zok,if_pos h]
theorem zcI {p:Pat}{v:Val} (h:p.op=4):hitP p v=(decide (p.ctor=v.ctor)&&hitL p.kids v.kids):=by rw[zok,if_neg (by omega),if_pos h]
theorem zjj:∀ {l:List Pat}{s:List Val},l.length=s.length→(hitL l s=true↔∀i,i<l.length→hitP (nth l i) (nth s i)=true)
 | [],[],_=>by simp[hitL]
 |p::r,v::s,h=>by
  have ih:=zjj (l:=r) (s:=s) (by simpa using h);simp only[hitL,xad,ih];constructor
  ·rintro ⟨h1,h2⟩ i hi
   cases i with
   |zero=>exact h1
   |succ i=>exact h2 i (by simpa using hi)
  ·intro h1;exact⟨h1 0 (by simp),fun i hi=>h1 (i+1) (by simpa using hi)⟩
 | [],_::_,h=>by simp at h
 |_::_,[],h=>by simp at h
theorem zl3 {α:Type}:∀(l:List α) (s:List Val),hitL (l.map fun _=>anyQ) s=true
 | [],_=>by simp[hitL]
 |_::_,[]=>by simp[hitL]
 |_::r,v::s=>by simp only[xae,hitL,zl3 r s,Bool.and_true];exact ze0 rfl
theorem zgB:∀(l:List Pat) (s:List Val) (p:Pat) (v:Val),l.length=s.length→hitL (l++[p]) (s++[v])=(hitL l s&&hitP p v)
 | [],[],p,v,_=>by simp[hitL]
 |q::r,x::s,p,v,h=>by
  simp only[xag,hitL,zgB r s p v (by simpa using h),Bool.and_assoc]
 | [],_::_,_,_,h=>by simp at h
 |_::_,[],_,_,h=>by simp at h
theorem zqX:∀(l:List Pat) (s:List Val) (r:List Pat) (q:List Val),l.length=s.length→hitL (l++r) (s++q)=(hitL l s&&hitL r q)
 | [],[],r,q,_=>by simp[hitL]
 |p::l,x::s,r,q,h=>by
  simp only[xag,hitL,zqX l s r q (by simpa using h),Bool.and_assoc]
 | [],_::_,_,_,h=>by simp at h
 |_::_,[],_,_,h=>by simp at h
theorem zvr {w:List Data}{m:Nat}{t:Ty}{v:Val} (h:zaH w m t v=true) (ht:t.data = -1):0≤v.num∧v.num≤9:=by
 cases m with
 |zero=>simp[zaH] at h
 |succ m=>
  unfold zaH at h;rw[if_pos ht] at h;simp only[xad,decide_eq_true_eq] at h;omega
theorem zrm:∀(ls:List (List Pat)) (vs:List Val) (out:List (List Pat)) (v0:List Val),ls.length=vs.length→(∀q∈out,q.length=v0.length)→
  ((∃l∈ls.foldl za7 out,hitL l (v0++vs)=true)↔(∃q∈out,hitL q v0=true)∧∀i,i<ls.length→∃x∈nth ls i,hitP x (nth vs i)=true)
 | [],[],out,v0,_,_=>by simp
 |l::r,v::s,out,v0,h,ho=>by
  have ih:=zrm r s (za7 out l) (v0++[v]) (by simpa using h) (fun q hq=>by
   unfold za7 at hq;obtain⟨q0,h1,h2⟩:=List.mem_flatMap.1 hq;obtain⟨c,h3,rfl⟩:=List.mem_map.1 h2;simp[ho q0 h1])
  rw[List.append_assoc] at ih;rw[List.foldl_cons,show v0++v::s=v0++([v]++s) from rfl,ih];constructor
  ·rintro ⟨⟨q,hq,hh⟩,h2⟩
   unfold za7 at hq;obtain⟨q0,h3,h4⟩:=List.mem_flatMap.1 hq;obtain⟨c,h5,rfl⟩:=List.mem_map.1 h4;rw[zgB q0 v0 c v (ho q0 h3),xad] at hh;refine⟨⟨q0,h3,hh.1⟩,fun i hi=>?_⟩;cases i with
   |zero=>exact⟨c,h5,hh.2⟩
   |succ i=>exact h2 i (by simpa using hi)
  ·rintro ⟨⟨q,hq,hh⟩,h2⟩
   obtain⟨c,h5,h6⟩:=h2 0 (by simp);refine⟨⟨q++[c], ?_, ?_⟩,fun i hi=>h2 (i+1) (by simpa using hi)⟩
   ·unfold za7;exact List.mem_flatMap.2 ⟨q,hq,List.mem_map.2 ⟨c,h5,rfl⟩⟩
   ·rw[zgB q v0 c v (ho q hq),hh];exact h6
 | [],_::_,_,_,h,_=>by simp at h
 |_::_,[],_,_,h,_=>by simp at h
theorem zjq {f:Pat→Val→List Bd×Bool}:∀ {a:List Pat}{b:List Val}{acc:List Bd},a.length=b.length→((zbv f a b acc).2=true↔∀i,i<a.length→(f (nth a i) (nth b i)).2=true)
 | [],[],acc,_=>by simp[zbv]
 |p::r,v::s,acc,h=>by
  unfold zbv;by_cases hp:(f p v).2=true
  ·rw[if_pos hp,zjq (a:=r) (b:=s) (by simpa using h)];constructor
   ·intro h1 i hi;cases i with
    |zero=>exact hp
    |succ i=>exact h1 i (by simpa using hi)
   ·intro h1 i hi;exact h1 (i+1) (by simpa using hi)
  ·rw[if_neg hp];constructor
   ·intro h1;cases h1
   ·intro h1;exact absurd (h1 0 (by simp)) hp
 | [],_::_,_,h=>by simp at h
 |_::_,[],_,h=>by simp at h
theorem zdq {p:Pat} (h5:p.op≠5) (hk:p.kids=[]):zas p=[p]:=by
 rw[zc4 h5,hk];cases p
 simp only[za5] at hk;subst hk;simp[zec,zca,zfm,mk_n,mk_m,zhL]
theorem zeU {w:List Data}:∀(n m:Nat){t:Ty}{p:Pat}{v:Val},zao w n t p=true→zaH w m t v=true→((zav n p v).2=true↔∃x∈zas (zau p),hitP x v=true)
 |0,m,t,p,v,h,_=>by simp[zao] at h
 |n+1,0,t,p,v,_,h=>by simp[zaH] at h
 |n+1,m+1,t,p,v,h,hv=>by
  rcases zex h with h1|h2|h3|h4|h5|h6
  ·have hk:=zeM h (by omega) (by omega) (by omega);rw[zf6 h1,zbk,if_neg (by omega),if_neg (by omega),zdq (by rw[zca];omega) (by rw[za5,hk];rfl)];simp only[List.mem_singleton,exists_eq_left,true_iff];exact ze0 h1
  ·rw[zhm h2,zbk,if_pos h2,zcb];simp only[List.mem_singleton,exists_eq_left,true_iff];exact ze0 rfl
  ·have hk:=zeM h (by omega) (by omega) (by omega);rw[zfj h3,zbk,if_neg (by omega),if_neg (by omega),zdq (by rw[zca];omega) (by rw[za5,hk];rfl)];simp only[List.mem_singleton,exists_eq_left];rw[zg4 (p:= .mk p.op p.ctor p.n p.m p.var (p.kids.map zau)) h3];exact Iff.rfl
  ·have hs:=h;unfold zao at hs;rw[xad,za2 h4] at hs;have hl:=zgl hs.2;rw[zbk,if_neg (by omega),if_neg (by omega),zc4 (by rw[zca];omega)];have hd:t.data≠ -1:=fun e=>by
    have:=zce hs.1 h4;unfold zah at this;rw[if_pos e] at this;simp at this
   obtain⟨f1,f2,f3⟩:=zdg hv hd;by_cases hc:p.ctor=v.ctor
   ·rw[zhn h4 hc];rw[hc] at hl hs;have hlen:p.kids.length=v.kids.length:=by omega
    rw[zjq hlen];have hp:=zrm ((p.kids.map zau).map zas) v.kids [[]] [] (by simp[hlen]) (by simp);simp only[List.nil_append,List.mem_singleton,exists_eq_left,hitL,true_and,xac] at hp;have hih:∀i,i<p.kids.length→((zav n (nth p.kids i) (nth v.kids i)).2=true↔∃x∈nth ((p.kids.map zau).map zas) i,hitP x (nth v.kids i)=true):=fun i hi=>by
     rw[zeU n m (zei hl hs.2 i (by omega)) (f3 i (by omega))];have e:nth ((p.kids.map zau).map zas) i=zas (zau (nth p.kids i)):=by
      rw[zaQ (by simpa using hi),zaQ hi];simp
     rw[e]
    constructor
    ·intro h1;obtain⟨l,hl2,hh⟩:=hp.2 (fun i hi=>(hih i hi).1 (h1 i hi));refine⟨_,List.mem_map.2 ⟨l,hl2,rfl⟩, ?_⟩;rw[zcI (by rw[zca];exact h4)];simp only[zfm,za5,hc,hh,decide_true,Bool.and_self]
    ·rintro ⟨x,hx,hh⟩ i hi
     obtain⟨l,hl2,rfl⟩:=List.mem_map.1 hx;rw[zcI (by rw[zca];exact h4),xad] at hh;exact(hih i hi).2 (hp.1 ⟨l,hl2,hh.2⟩ i hi)
   ·rw[zf7 h4 hc];constructor
    ·intro h1;cases h1
    ·rintro ⟨x,hx,hh⟩
     obtain⟨l,hl2,rfl⟩:=List.mem_map.1 hx;rw[zcI (by rw[zca];exact h4),xad] at hh;exact absurd (of_decide_eq_true hh.1) hc
  ·obtain⟨l2,s0,s1⟩:=zey h h5;have ee:p.kids.map zau=[zau (nth p.kids 0),zau (nth p.kids 1)]:=by
    match hk:p.kids,l2 with
    | [a,b],_=>rfl
   rw[zbk,if_neg (by omega),if_neg (by omega),zdw (by rw[zca];exact h5) (by rw[za5];simpa using l2),za5,ee];have i0:=zeU n (m+1) s0 hv;have i1:=zeU n (m+1) s1 hv;have e0:nth [zau (nth p.kids 0),zau (nth p.kids 1)] 0=zau (nth p.kids 0):=rfl;have e1:nth [zau (nth p.kids 0),zau (nth p.kids 1)] 1=zau (nth p.kids 1):=rfl;rw[e0,e1];by_cases hm:(zav n (nth p.kids 0) v).2=true
   ·rw[zhH h5 hm];obtain⟨x,hx,hh⟩:=i0.1 hm;simp only[true_iff];exact⟨x,List.mem_append_left _ hx,hh⟩
   ·rw[zhI h5 (by simpa using hm),i1];constructor
    ·rintro ⟨x,hx,hh⟩
     exact⟨x,List.mem_append_right _ hx,hh⟩
    ·rintro ⟨x,hx,hh⟩
     rcases List.mem_append.1 hx with hx|hx
     ·exact absurd (i0.2 ⟨x,hx,hh⟩) hm
     ·exact⟨x,hx,hh⟩
  ·obtain⟨l1,s0⟩:=zew h h6;rw[zf8 h6,zbk,if_neg (by omega),if_pos ⟨h6,fun e=>by rw[e] at l1;simp at l1⟩];exact zeU n (m+1) s0 hv
theorem zpe {w:List Data}:∀(n k m:Nat){t:Ty}{p:Pat}{v:Val},zao w n t p=true→zae w k t p=true→zaH w m t v=true→(zav n p v).2=hitP p v
 |0,k,m,t,p,v,h,_,_=>by simp[zao] at h
 |n+1,0,m,t,p,v,_,h,_=>by simp[zae] at h
 |n+1,k+1,0,t,p,v,_,_,h=>by simp[zaH] at h
 |n+1,k+1,m+1,t,p,v,h,hp,hv=>by
  rcases zbn hp with h1|h3|h4
  ·rw[zf6 h1,ze0 h1]
  ·rw[zfj h3,zg4 h3]
  ·have hs:=h;unfold zao at hs;rw[xad,za2 h4] at hs;have hl:=zgl hs.2;obtain⟨m1,m2,m3,m4⟩:=zaC hp h4;obtain⟨f1,f2,f3⟩:=zdg hv m2;rw[zcI h4];by_cases hc:p.ctor=v.ctor
   ·rw[zhn h4 hc,decide_eq_true hc,Bool.true_and,Bool.eq_iff_iff];rw[hc] at hl hs m3;rw[zjq (by omega),zjj (by omega)];have hk:∀i,i<p.kids.length→(zav n (nth p.kids i) (nth v.kids i)).2=hitP (nth p.kids i) (nth v.kids i):=fun i hi=>by
     have hpk:=zaT hp hi;rw[za2 h4,hc] at hpk;exact zpe n k m (zei hl hs.2 i (by omega)) hpk (f3 i (by omega))
    constructor
    ·intro h1 i hi;rw[←hk i hi];exact h1 i hi
    ·intro h1 i hi;rw[hk i hi];exact h1 i hi
   ·rw[zf7 h4 hc,decide_eq_false hc,Bool.false_and]
theorem zpf {f:Pat→Pat→Option Pat}:∀ {a b:List Pat}{acc:List Pat}{s q:List Val},a.length=b.length→a.length=s.length→acc.length=q.length→
  (∀i,i<a.length→match f (nth a i) (nth b i) with
   |none=>(hitP (nth a i) (nth s i)&&hitP (nth b i) (nth s i))=false
   |some x=>hitP x (nth s i)=(hitP (nth a i) (nth s i)&&hitP (nth b i) (nth s i)))→
  match zbK f a b acc with
   |none=>(hitL a s&&hitL b s)=false
   |some l=>hitL l (q++s)=(hitL acc q&&(hitL a s&&hitL b s))
 | [],[],acc,[],q,_,_,ha,_=>by simp[zbK,hitL]
 |p::r,p2::r2,acc,v::s,q,h1,h2,ha,hf=>by
  have h0:=hf 0 (by simp);have e1:nth (p::r) 0=p:=rfl;have e2:nth (p2::r2) 0=p2:=rfl;have e3:nth (v::s) 0=v:=rfl;rw[e1,e2,e3] at h0;unfold zbK;cases hx:f p p2 with
  |none=>
   rw[hx] at h0;simp only[hitL];dsimp only at h0;cases ha1:hitP p v<;>cases hb1:hitP p2 v<;>simp_all
  |some x=>
   rw[hx] at h0;dsimp only at h0 ⊢;have ih:=zpf (f:=f) (a:=r) (b:=r2) (acc:=acc++[x]) (s:=s) (q:=q++[v]) (by simpa using h1) (by simpa using h2) (by simp[ha]) (fun i hi=>hf (i+1) (by simpa using hi));cases hm:zbK f r r2 (acc++[x]) with
   |none=>
    rw[hm] at ih;dsimp only at ih ⊢;simp only[hitL];cases ha1:hitP p v<;>cases hb1:hitP p2 v<;>simp_all
   |some l=>
    rw[hm] at ih;dsimp only at ih ⊢;rw[show q++v::s=q++[v]++s by simp,ih,zgB acc q x v ha,h0];simp only[hitL];cases hitL acc q<;>cases hitP p v<;>cases hitP p2 v<;>cases hitL r s<;>cases hitL r2 s<;>rfl
 | [],_::_,_,_,_,h,_,_,_=>by simp at h
 |_::_,[],_,_,_,h,_,_,_=>by simp at h
 | [],[],_,_::_,_,_,h,_,_=>by simp at h
 |_::_,_::_,_,[],_,_,h,_,_=>by simp at h
theorem zr5 {x a b c d:Int}:zap x (maxQ a c) (minQ b d)=(zap x a b&&zap x c d):=by
 unfold zap maxQ minQ;rw[Bool.eq_iff_iff];simp only[xad,decide_eq_true_eq];split<;>split<;>omega
theorem zjr {w:List Data}:∀(k m:Nat){t:Ty}{a b:Pat}{v:Val},zae w k t a=true→zae w k t b=true→zaH w m t v=true→∀n,k≤n→match zax n a b with
  |none=>(hitP a v&&hitP b v)=false
  |some x=>hitP x v=(hitP a v&&hitP b v)
 |0,m,t,a,b,v,ha,_,_,_,_=>by simp[zae] at ha
 |k+1,0,t,a,b,v,_,_,hv,_,_=>by simp[zaH] at hv
 |k+1,m+1,t,a,b,v,_,_,_,0,h=>by omega
 |k+1,m+1,t,a,b,v,ha,hb,hv,n+1,hn=>by
  by_cases h1:a.op=1
  ·rw[zhJ h1];dsimp only;rw[ze0 h1,Bool.true_and]
  by_cases h2:b.op=1
  ·rw[ziL h1 h2];dsimp only;rw[ze0 h2,Bool.and_true]
  have hs:=zdd ha hb h1 h2;have oa:=zbn ha;by_cases h3:a.op=3
  ·rw[ziM h3 h2,zg4 h3,zg4 (p:=b) (by omega),←zr5];split
   ·rename_i x hx;split at hx
    ·cases hx
    ·unfold zap;simp only[Bool.and_eq_false_iff,decide_eq_false_iff_not];omega
   ·rename_i x hx;split at hx
    ·cases hx;rfl
    ·cases hx
  have h4:a.op=4:=by omega
  have hb4:b.op=4:=by omega
  rw[zcI h4,zcI hb4];obtain⟨m1,m2,m3,m4⟩:=zaC ha h4;obtain⟨n1,n2,n3,n4⟩:=zaC hb hb4;obtain⟨f1,f2,f3⟩:=zdg hv m2;by_cases hc:a.ctor=b.ctor
  ·rw[zhK h4 h2 hc];rw[←hc] at n3 ⊢;by_cases hcv:a.ctor=v.ctor
   ·rw[decide_eq_true hcv];have hl:=zpf (f:=zax n) (a:=a.kids) (b:=b.kids) (acc:=[]) (s:=v.kids) (q:=[]) (by omega) (by rw[hcv] at m3;omega) rfl (fun i hi=>by
     have ka:=zaT ha (i:=i) hi;have kb:=zaT hb (i:=i) (by omega);rw[za2 h4,hcv] at ka;rw[za2 hb4,←hc,hcv] at kb;exact zjr k m ka kb (f3 i (by rw[hcv] at m3;omega)) n (by omega))
    cases hx:zbK (zax n) a.kids b.kids [] with
    |none=>
     rw[hx] at hl;dsimp only[Option.map_none] at hl ⊢;rw[Bool.true_and,Bool.true_and];exact hl
    |some l=>
     rw[hx] at hl;dsimp only[Option.map_some] at hl ⊢;rw[zcI (by rfl)];show(decide (a.ctor=v.ctor)&&hitL l v.kids)=_
     rw[decide_eq_true hcv];simpa [hitL] using hl
   ·rw[decide_eq_false hcv];cases hx:zbK (zax n) a.kids b.kids [] with
    |none=>rfl
    |some l=>
     dsimp only[Option.map_some];rw[zcI (by rfl)];show(decide (a.ctor=v.ctor)&&hitL l v.kids)=_
     rw[decide_eq_false hcv];rfl
  ·rw[zho h4 h2 hc];dsimp only;by_cases hcv:a.ctor=v.ctor
   ·rw[decide_eq_false (p:=b.ctor=v.ctor) (by omega)];simp
   ·rw[decide_eq_false hcv];simp
def one (b:Bool):Nat:=if b=true then 1 else 0
theorem zoS {a b:Int}{v:Val}:(zbP a b).countP (fun x=>hitP x v)=one (zap v.num a b):=by
 unfold zbP one;split
 ·rw[List.countP_singleton,zg4 rfl];rfl
 ·rename_i h;have:zap v.num a b=false:=by unfold zap;simp only[Bool.and_eq_false_iff,decide_eq_false_iff_not];omega
  rw[this];rfl
theorem zuh {c:Int}{pre:List Pat}{s:List Pat}{v0:Val}{vf vs:List Val}{v:Val} (hv:v.kids=vf++v0::vs) (hl:pre.length=vf.length) (l:List Pat):
  (l.map (fun z=>za8 c (pre++[z]++s))).countP (fun x=>hitP x v)=one (decide (c=v.ctor)&&(hitL pre vf&&hitL s vs))*l.countP (fun z=>hitP z v0):=by
 rw[List.countP_map];have hz:∀z,hitP (za8 c (pre++[z]++s)) v=((decide (c=v.ctor)&&(hitL pre vf&&hitL s vs))&&hitP z v0):=fun z=>by
  rw[zcI rfl];show(decide (c=v.ctor)&&hitL (pre++[z]++s) v.kids)=_
  rw[hv,show vf++v0::vs=vf++([v0]++vs) by simp,List.append_assoc,zqX pre vf _ _ hl];show(decide (c=v.ctor)&&(hitL pre vf&&(hitP z v0&&hitL s vs)))=_
  cases decide (c=v.ctor)<;>cases hitL pre vf<;>cases hitP z v0<;>cases hitL s vs<;>rfl
 cases hb:(decide (c=v.ctor)&&(hitL pre vf&&hitL s vs)) with
 |true=>
  rw[show one true=1 from rfl,Nat.one_mul];congr 1
  funext z
  show hitP (za8 c (pre++[z]++s)) v=_
  rw[hz,hb,Bool.true_and]
 |false=>
  rw[show one false=0 from rfl,Nat.zero_mul];rw[List.countP_eq_zero];intro z _;show ¬hitP (za8 c (pre++[z]++s)) v=true
  rw[hz,hb];simp
theorem zvz:∀d f x y s b:Bool,one (d&&(f&&s))*one (x&& !y)+one (d&&((f&&(x&&y))&&(s&& !b)))=one (d&&(f&&((x&&s)&& !(y&&b)))):=by decide
theorem zvy:∀d f x y s b:Bool,(x&&y)=false→one (d&&(f&&s))*one (x&& !y)+0=one (d&&(f&&((x&&s)&& !(y&&b)))):=by decide
theorem zuF {x la ha bn bm:Int} (h:bn≤bm):one (zap x la (minQ ha (bn-1)))+one (zap x (maxQ la (bm+1)) ha)=one (zap x la ha&& !zap x bn bm):=by
 have e1:zap x la (minQ ha (bn-1))=(zap x la ha&&decide (x<bn)):=by
  unfold zap minQ;rw[Bool.eq_iff_iff];simp only[xad,decide_eq_true_eq];split<;>omega
 have e2:zap x (maxQ la (bm+1)) ha=(zap x la ha&&decide (bm<x)):=by
  unfold zap maxQ;rw[Bool.eq_iff_iff];simp only[xad,decide_eq_true_eq];split<;>omega
 have e3:zap x bn bm=(!decide (x<bn)&& !decide (bm<x)):=by
  unfold zap;rw[Bool.eq_iff_iff];simp only[xad,Bool.not_eq_true',decide_eq_true_eq,decide_eq_false_iff_not];omega
 have key:∀q u v:Bool,(u&&v)=false→one (q&&u)+one (q&&v)=one (q&& !(!u&& !v)):=by decide
 rw[e1,e2,e3];refine key _ _ _ ?_;rw[Bool.and_eq_false_iff,decide_eq_false_iff_not,decide_eq_false_iff_not];omega
theorem znk {w:List Data}{f:Ty→Pat→Pat→List Pat}{m:Nat}{c:Int}{v:Val}:
  ∀ {us:List Ty}{xs bs front:List Pat}{vf vs:List Val},v.kids=vf++vs→front.length=vf.length→us.length=xs.length→bs.length=xs.length→vs.length=xs.length→
   (∀j,j<xs.length→zae w 11 (nth us j) (nth xs j)=true∧zae w 11 (nth us j) (nth bs j)=true∧zaH w m (nth us j) (nth vs j)=true∧(f (nth us j) (nth xs j) (nth bs j)).countP (fun x=>hitP x (nth vs j))=one (hitP (nth xs j) (nth vs j)&& !hitP (nth bs j) (nth vs j)))→
   (zaR f c us xs bs front).countP (fun x=>hitP x v)=one (decide (c=v.ctor)&&(hitL front vf&&(hitL xs vs&& !hitL bs vs)))
 | [],[],[],front,vf,[],_,_,_,_,_,_=>by
  simp only[zaR,List.countP_nil,hitL];cases decide (c=v.ctor)<;>cases hitL front vf<;>rfl
 |u::us,x::xs,y::bs,front,vf,v0::vs,hv,hfl,h1,h2,h3,hf=>by
  have h0:=hf 0 (by simp);have e0:nth (u::us) 0=u:=rfl;have e1:nth (x::xs) 0=x:=rfl;have e2:nth (y::bs) 0=y:=rfl;have e3:nth (v0::vs) 0=v0:=rfl;rw[e0,e1,e2,e3] at h0;unfold zaR;rw[List.countP_append,zuh hv hfl,h0.2.2.2];have hm:=zjr 11 m h0.1 h0.2.1 h0.2.2.1 11 (Nat.le_refl _);cases hq:zax 11 x y with
  |none=>
   rw[hq] at hm;dsimp only at hm ⊢;simp only[List.countP_nil,hitL];exact zvy _ _ _ _ _ _ hm
  |some both=>
   rw[hq] at hm;dsimp only at hm ⊢;have ih:=znk (w:=w) (f:=f) (m:=m) (c:=c) (v:=v) (us:=us) (xs:=xs) (bs:=bs) (front:=front++[both]) (vf:=vf++[v0]) (vs:=vs) (by rw[hv];simp) (by simp[hfl]) (by simpa using h1) (by simpa using h2) (by simpa using h3) (fun j hj=>hf (j+1) (by simpa using hj));rw[ih,zgB front vf both v0 hfl,hm];simp only[hitL];exact zvz _ _ _ _ _ _
 | [],_::_,_,_,_,_,_,_,h,_,_,_=>by simp at h
 |_::_,[],_,_,_,_,_,_,h,_,_,_=>by simp at h
 |_,[],_::_,_,_,_,_,_,_,h,_,_=>by simp at h
 |_,_::_,[],_,_,_,_,_,_,h,_,_=>by simp at h
 |_,[],_,_,_,_::_,_,_,_,_,h,_=>by simp at h
 |_,_::_,_,_,_,[],_,_,_,_,h,_=>by simp at h
theorem zlI {f:Ty→Pat→Pat→List Pat}{c:Int}{x:Pat}:∀ {us:List Ty}{xs bs front:List Pat},x∈zaR f c us xs bs front→∃l,x=za8 c l
 |u::us,a::xs,y::bs,front,h=>by
  unfold zaR at h;rcases List.mem_append.1 h with h|h
  ·obtain⟨z,_,rfl⟩:=List.mem_map.1 h;exact⟨_,rfl⟩
  ·cases hq:zax 11 a y with
   |none=>rw[hq] at h;simp at h
   |some b=>rw[hq] at h;exact zlI h
 | [],_,_,_,h=>by simp[zaR] at h
 |_::_,[],_,_,h=>by simp[zaR] at h
 |_::_,_::_,[],_,h=>by simp[zaR] at h
theorem zoQ {c0:Int}{g:Int→List Pat}{v:Val}{k:Nat}:∀ {l:List Int},l.Nodup→c0∈l→(∀c∈l,c≠c0→(g c).countP (fun x=>hitP x v)=0)→(g c0).countP (fun x=>hitP x v)=k→(l.flatMap g).countP (fun x=>hitP x v)=k
 | [],_,h,_,_=>by simp at h
 |a::r,hn,hm,hz,hk=>by
  rw[List.flatMap_cons,List.countP_append];have hn':=List.nodup_cons.1 hn;by_cases ha:a=c0
  ·subst ha;have h0:(r.flatMap g).countP (fun x=>hitP x v)=0:=by
    rw[List.countP_eq_zero];intro x hx;obtain⟨c,hc,hx⟩:=List.mem_flatMap.1 hx;have:=hz c (by simp[hc]) (fun e=>hn'.1 (e ▸ hc));rw[List.countP_eq_zero] at this;exact this x hx
   omega
  ·have h1:=hz a (by simp) ha;have h2:=zoQ (g:=g) (v:=v) (k:=k) hn'.2 (by simpa [Ne.symm ha] using hm) (fun c hc=>hz c (by simp[hc])) hk;omega
section
variable {w:List Data} (hs:Spa w)
include hs
theorem zpi:∀(n m k:Nat){t:Ty}{a b:Pat}{v:Val},n<m→m≤12→InS (w.length*4) t→zae w m t a=true→zae w n t b=true→zaH w k t v=true→(zaq w n t a b).countP (fun x=>hitP x v)=one (hitP a v&& !hitP b v)
 |0,m,k,t,a,b,v,_,_,_,_,hb,_=>by simp[zae] at hb
 |n+1,0,k,t,a,b,v,hn,_,_,_,_,_=>by omega
 |n+1,m+1,0,t,a,b,v,_,_,_,_,_,hv=>by simp[zaH] at hv
 |n+1,m+1,k+1,t,a,b,v,hn,h12,ht,ha,hb,hv=>by
  have hcc:∀a,zae w (m+1) t a=true→a.op=4→b.op=4→(zbZ (zaq w n) w t a b).countP (fun x=>hitP x v)=one (hitP a v&& !hitP b v):=fun a ha h4 h4b=>by
   obtain⟨m1,m2,m3,m4⟩:=zaC ha h4;obtain⟨n1,n2,n3,n4⟩:=zaC hb h4b;obtain⟨f1,f2,f3⟩:=zdg hv m2;rw[zcI h4,zcI h4b];unfold zbZ;split
   ·rename_i hc;by_cases hcv:a.ctor=v.ctor
    ·have:=znk (w:=w) (f:=zaq w n) (m:=k) (c:=a.ctor) (v:=v) (us:=zaa w t a.ctor) (xs:=a.kids) (bs:=b.kids) (front:=[]) (vf:=[]) (vs:=v.kids) rfl rfl m3.symm (by rw[←hc] at n3;omega) (by rw[hcv] at m3;omega) (fun j hj=>by
      have ka:=zaT ha (i:=j) hj;have kb:=zaT hb (i:=j) (by rw[←hc] at n3;omega);rw[za2 h4] at ka;rw[za2 h4b,←hc] at kb;have kv:=f3 j (by rw[hcv] at m3;omega);rw[←hcv] at kv;exact⟨zdc (by omega) ka,zdc (by omega) kb,kv,zpi n m k (by omega) (by omega) (zbo hs.dp ht m1 _ (zaf (by omega))) ka kb kv⟩)
     rw[this,←hc];simp only[hitL,one];cases decide (a.ctor=v.ctor)<;>cases hitL a.kids v.kids<;>cases hitL b.kids v.kids<;>rfl
    ·have hz:(zaR (zaq w n) a.ctor (zaa w t a.ctor) a.kids b.kids []).countP (fun x=>hitP x v)=0:=by
      rw[List.countP_eq_zero];intro x hx;obtain⟨l,rfl⟩:=zlI hx;rw[zcI rfl];show ¬(decide (a.ctor=v.ctor)&&hitL l v.kids)=true
      rw[decide_eq_false hcv];simp
     rw[hz,decide_eq_false hcv];rfl
   ·rename_i hc;rw[List.countP_singleton,zcI h4];by_cases hcv:a.ctor=v.ctor
    ·rw[decide_eq_false (p:=b.ctor=v.ctor) (by omega)];simp only[Bool.false_and,Bool.not_false,Bool.and_true,one]
    ·rw[decide_eq_false hcv];rfl
  rcases zbn hb with h1|h3|h4
  ·rw[zfl h1,ze0 h1];simp[one]
  ·have hd:=(zbB hb h3).1;have hl:=zmc ha hd;have ib:=zbB hb h3;have fn:=zvr hv hd;rw[zhp h3,zd2,List.countP_append,zoS,zoS,zg4 h3];have hav:hitP a v=zap v.num (lowQ a) (zck a):=by
    unfold lowQ zck;rcases zbn ha with h|h|h
    ·rw[ze0 h,if_pos h,if_pos h];unfold zap;rw[decide_eq_true (p:=0≤v.num) (by omega),decide_eq_true (p:=v.num≤9) (by omega)];rfl
    ·rw[zg4 h,if_neg (by omega),if_neg (by omega)]
    ·exact absurd hd (zaC ha h).2.1
   rw[hav];exact zuF ib.2.2.1
  ·by_cases ha1:a.op=1
   ·rw[zgc h4 ha1,ze0 ha1,Bool.true_and];have hdt:=(zaC hb h4).2.1;obtain⟨f1,f2,f3⟩:=zdg hv hdt;obtain⟨q,rfl⟩:∃q,m=q+1:=⟨m-1,by omega⟩;refine zoQ (c0:=v.ctor) (hs.ctors t ht).2 f1 (fun c hc hne=>?_) ?_
    ·rw[hcc _ (zcv hc) rfl h4,zcI rfl];show one ((decide (c=v.ctor)&&_)&&_)=0
     rw[decide_eq_false hne];rfl
    ·rw[hcc _ (zcv f1) rfl h4,zcI (p:=zbI w t v.ctor) rfl];show one ((decide (v.ctor=v.ctor)&&hitL ((zaa w t v.ctor).map fun _=>anyQ) v.kids)&& !hitP b v)=_
     rw[zl3,decide_eq_true rfl];rfl
   ·have ha4:a.op=4:=by have:=zdd ha hb ha1 (by omega);omega
    rw[zcW h4 ha4];exact hcc a ha ha4 h4
theorem zkn:∀(n m:Nat){t:Ty}{p:Pat}{v:Val},InS (w.length*4) t→zae w n t p=true→zaH w m t v=true→hitP p v=true→zaX w (zai w) n t p=false
 |0,m,t,p,v,_,h,_,_=>by simp[zae] at h
 |n+1,0,t,p,v,_,_,h,_=>by simp[zaH] at h
 |n+1,m+1,t,p,v,ht,hp,hv,hh=>by
  rcases zbn hp with h1|h3|h4
  ·rw[zfe h1];have:=zwT hs.dp ht hv;exact decide_eq_false (by omega)
  ·exact zlb hp h3
  ·cases he:zaX w (zai w) (n+1) t p with
   |false=>rfl
   |true=>
    exfalso;obtain⟨i,hi,hd⟩:=zlX hp h4 he;obtain⟨m1,m2,m3,m4⟩:=zaC hp h4;obtain⟨f1,f2,f3⟩:=zdg hv m2;rw[zcI h4,xad] at hh;have hc:=of_decide_eq_true hh.1;rw[hc] at m3;have hk:=(zjj (by omega)).1 hh.2 i hi;have hpk:=zaT hp hi;rw[za2 h4] at hpk;have:=zkn n m (zbo hs.dp ht m1 _ (zaf (by rw[hc];omega))) hpk (by rw[hc];exact f3 i (by omega)) hk;rw[this] at hd;cases hd
theorem zmR {t:Ty}{v:Val}{m:Nat} (ht:InS (w.length*4) t) (hv:zaH w m t v=true){l:List Pat} (hl:∀a∈l,zae w 11 t a=true):(l.filter (zbj w t)).countP (fun x=>hitP x v)=l.countP (fun x=>hitP x v):=by
 rw[List.countP_filter];refine List.countP_congr (fun x hx=>?_);simp only[xad];constructor
 ·exact fun h=>h.1
 ·intro h;refine⟨h, ?_⟩;unfold zbj;rw[zkn hs 11 m ht (hl x hx) hv h];rfl
theorem zvI {t:Ty}{v:Val}{m:Nat} (ht:InS (w.length*4) t) (hv:zaH w m t v=true){b:Pat} (hb:zae w 10 t b=true){l:List Pat} (hl:∀a∈l,zae w 11 t a=true):
  (zbR w t l b).countP (fun x=>hitP x v)=if hitP b v=true then 0 else l.countP (fun x=>hitP x v):=by
 unfold zbR;rw[zmR hs ht hv (fun x hx=>by
  obtain⟨a,ha,hx⟩:=List.mem_flatMap.1 hx;exact zfM 10 11 (by omega) (hl a ha) hb x hx)]
 induction l with
 |nil=>simp
 |cons a r ih=>
  rw[List.flatMap_cons,List.countP_append,ih (fun x hx=>hl x (by simp[hx])),zpi hs 10 11 m (by omega) (by omega) ht (hl a (by simp)) hb hv,List.countP_cons];unfold one;cases hitP b v<;>cases hitP a v<;>simp<;>omega
theorem zsS {t:Ty}{v:Val}{m:Nat} (ht:InS (w.length*4) t) (hv:zaH w m t v=true):∀ {away l r:List Pat},(∀b∈away,zae w 10 t b=true)→(∀a∈l,zae w 11 t a=true)→subL w t l away=some r→
  r.countP (fun x=>hitP x v)=if away.any (fun b=>hitP b v)=true then 0 else l.countP (fun x=>hitP x v)
 | [],l,r,_,_,h=>by rw[subL] at h;cases h;simp
 |b::away,l,r,hb,hl,h=>by
  rw[subL] at h;split at h
  ·rw[zsS ht hv (fun x hx=>hb x (by simp[hx])) (zeH hl (hb b (by simp))) h,zvI hs ht hv (hb b (by simp)) hl,List.any_cons];cases hitP b v<;>cases away.any (fun b=>hitP b v)<;>simp
  ·cases h
theorem zlQ {t:Ty}{v:Val}{m:Nat} (ht:InS (w.length*4) t) (hv:zaH w m t v=true){away l r:List Pat} (hb:∀b∈away,zae w 10 t b=true) (hl:∀a∈l,zae w 11 t a=true) (h:zaJ w t l away=some r):
  r.countP (fun x=>hitP x v)=if away.any (fun b=>hitP b v)=true then 0 else l.countP (fun x=>hitP x v):=by
 unfold zaJ at h;rw[zsS hs ht hv hb (fun a ha=>hl a (List.mem_filter.1 ha).1) h,zmR hs ht hv hl]
end
theorem ztp {w:List Data}{a k:Int}{x:Pat}{v:Val}{m:Nat} (h:isP w ⟨a,k⟩ x=true) (hp:zae w 11 ⟨a,k⟩ x=true) (hv:zaH w m ⟨a,k⟩ v=true):(zav 10 x v).2=hitP x v:=by
 unfold isP at h;rw[xad] at h;exact zpe 10 11 m h.1 hp hv
theorem zm0 {w:List Data}{g:Ty→Val→Bool}{F:Ty→List Val} (hF:∀u x,x∈F u→g u x=true):∀(us:List Ty) (vs:List Ty) (acc:List (List Val)),(∀l∈acc,all2 g vs l=true)→
  ∀l∈(us.map F).foldl (fun acc l=>acc.flatMap fun o=>l.map fun y=>o++[y]) acc,all2 g (vs++us) l=true
 | [],vs,acc,h,l,hl=>by rw[List.append_nil];exact h l hl
 |u::us,vs,acc,h,l,hl=>by
  rw[show vs++u::us=vs++[u]++us by simp];refine zm0 (w:=w) hF us (vs++[u]) _ (fun q hq=>?_) l hl;obtain⟨o,h1,h2⟩:=List.mem_flatMap.1 hq;obtain⟨y,h3,rfl⟩:=List.mem_map.1 h2;have ho:=h o h1;have hy:=hF u y h3;clear hl hq h2 h1 h;induction vs generalizing o with
  |nil=>
   cases o with
   |nil=>simp[all2,hy]
   |cons a r=>simp[all2] at ho
  |cons b s ih=>
   cases o with
   |nil=>simp[all2] at ho
   |cons a r=>
    simp only[all2,xad,xag] at ho ⊢;exact⟨ho.1,ih r ho.2⟩
theorem zjh {w:List Data}:∀(n:Nat){t:Ty}{v:Val},v∈zaM w n t→zaH w n t v=true
 |0,t,v,h=>by simp[zaM] at h
 |n+1,t,v,h=>by
  unfold zaM at h;unfold zaH;by_cases ht:t.data = -1
  ·rw[if_pos ht] at h ⊢;unfold zep at h;obtain⟨i,hi,rfl⟩:=List.mem_map.1 h;rw[List.mem_range] at hi;simp only[xad,decide_eq_true_eq];exact⟨rfl,by show(0:Int)≤(i:Int);omega,by show(i:Int)≤9;omega,rfl⟩
  ·rw[if_neg ht] at h ⊢;obtain⟨c,hc,h⟩:=List.mem_flatMap.1 h;obtain⟨l,hl,rfl⟩:=List.mem_map.1 h;rw[if_pos ⟨rfl,hc⟩];have:=zm0 (w:=w) (g:=zaH w n) (F:=zaM w n) (fun u x hx=>zjh n hx) (zaa w t c) [] [[]] (by simp[all2]) l hl;exact(by simpa using this:all2 (zaH w n) (zaa w t c) l=true)
theorem zmY {w:List Data}:∀(n:Nat){t:Ty}{v:Val},zaH w n t v=true→zaH w (n+1) t v=true
 |0,t,v,h=>by simp[zaH] at h
 |n+1,t,v,h=>by
  rw[zaH] at h ⊢;split
  ·rename_i hd;rw[if_pos hd] at h;exact h
  ·rename_i hd;rw[if_neg hd] at h;split at h
   ·rename_i hc;rw[if_pos hc];exact zhs (fun x _ y _ hxy=>zmY n hxy) h
   ·cases h
theorem zhz {w:List Data}{n m:Nat} (h:n≤m){t:Ty}{v:Val} (hv:zaH w n t v=true):zaH w m t v=true:=by
 induction h with
 |refl=>exact hv
 |step _ ih=>exact zmY _ ih
def szN:Nat→Nat
 |0=>0
 |n+1=>1+3*szN n
theorem Vals.size_of {m:Nat}:∀ {l:List Val},(∀k∈l,k.size≤m)→Vals.size l≤l.length*m
 | [],_=>by simp[Vals.size]
 |x::r,h=>by
  have h1:=h x (by simp);have h2:=Vals.size_of (l:=r) (fun y hy=>h y (by simp[hy]));simp only[Vals.size,xab,Nat.succ_mul];omega
theorem zoY {w:List Data} (hs:Spa w):∀(n:Nat){t:Ty}{v:Val},InS (w.length*4) t→zaH w n t v=true→v.size≤szN n
 |0,t,v,_,h=>by simp[zaH] at h
 |n+1,t,v,ht,h=>by
  rw[Val.size_eq];by_cases hd:t.data = -1
  ·rw[zaH,if_pos hd] at h;simp only[xad,decide_eq_true_eq] at h;rw[List.eq_nil_of_length_eq_zero h.2.2.2];simp[Vals.size,szN]
  ·obtain⟨f1,f2,f3⟩:=zdg h hd;have h3:=hs.args t _ ht f1;have hz:=Vals.size_of (m:=szN n) (l:=v.kids) (fun k hk=>by
    obtain⟨i,hi,rfl⟩:=List.getElem_of_mem hk;have:=zoY hs n (zbo hs.dp ht f1 _ (zaf (i:=i) (by omega))) (f3 i hi);rwa [zaQ hi] at this)
   have:v.kids.length*szN n≤3*szN n:=Nat.mul_le_mul_right _ (by omega);unfold szN;omega
theorem zsX {w:List Data} (hs:Spa w){t:Ty} (ht:InS (w.length*4) t){m:Int} (hm:m≤4){v:Val} (h:v∈(vut w t m).1):isV w t v=true∧zaH w 10 t v=true:=by
 unfold vut at h;split at h
 ·have hf:=zjh m.toNat h;have h1:=zoY hs m.toNat ht hf;have h2:m.toNat≤4:=by omega
  have h3:szN m.toNat≤40:=by
   have:∀i:Nat,i≤4→szN i≤40:=by decide
   exact this _ h2
  have h4:=zhz (m:=10) (by omega) hf;refine⟨?_,h4⟩;unfold isV;rw[h4,Bool.true_and];exact decide_eq_true (by omega)
 ·simp at h
theorem zr7 {α β:Type}{f:α→β→Bool}:∀ {l:List α},(∀u∈l,∃v,f u v=true)→∃r,all2 f l r=true
 | [],_=>⟨[],rfl⟩
 |u::s,h=>by
  obtain⟨v,hv⟩:=h u (by simp);obtain⟨r,hr⟩:=zr7 (l:=s) (fun x hx=>h x (by simp[hx]));exact⟨v::r,by simp[all2,hv,hr]⟩
theorem zsy {w:List Data}:∀(m:Nat){t:Ty},Hd w m t→∃v,zaH w m t v=true
 |0,_,h=>h.elim
 |m+1,t,h=>by
  by_cases hd:t.data = -1
  ·exact⟨⟨-1,0,[]⟩,by unfold zaH;rw[if_pos hd];rfl⟩
  ·rcases h with h|⟨c,hc,hn,hh⟩
   ·exact absurd h hd
   ·obtain⟨l,hl⟩:=zr7 (f:=zaH w m) (l:=zaa w t c) (fun u hu=>zsy m (hh u hu));exact⟨⟨c,0,l⟩,by unfold zaH;rw[if_neg hn,if_pos ⟨rfl,hc⟩];exact hl⟩
theorem zss {w:List Data} (hd:Dp w){t:Ty} (ht:InS (w.length*4) t) (h:0<dv (zai w) t):∃m v,zaH w m t v=true:=by
 have a:Snd w (zai w)∧Cmp w (w.length*4+1) (zai w):=zc0 hd.cl (w.length*4+1);exact⟨_,zsy _ (zmU a.1 ht h)⟩
theorem zq3 {w:List Data}:∀ {us:List Ty}{ps:List Pat},us.length=ps.length→(∀i,i<ps.length→∃m v,zaH w m (nth us i) v=true∧hitP (nth ps i) v=true)→∃m l,all2 (zaH w m) us l=true∧hitL ps l=true
 | [],[],_,_=>⟨0,[],rfl,rfl⟩
 |u::us,p::ps,hl,h=>by
  obtain⟨m1,v,h1,h2⟩:=h 0 (by simp);obtain⟨m2,l,h3,h4⟩:=zq3 (us:=us) (ps:=ps) (by simpa using hl) (fun i hi=>h (i+1) (by simpa using hi));refine⟨max m1 m2,v::l, ?_, ?_⟩
  ·simp only[all2,xad];exact⟨zhz (Nat.le_max_left _ _) h1,zhs (fun x _ y _ hxy=>zhz (Nat.le_max_right _ _) hxy) h3⟩
  ·simp only[hitL,xad];exact⟨h2,h4⟩
 | [],_::_,h,_=>by simp at h
 |_::_,[],h,_=>by simp at h
theorem zh0 {w:List Data} (hs:Spa w):∀(n:Nat){t:Ty}{p:Pat},InS (w.length*4) t→zae w n t p=true→zaX w (zai w) n t p=false→∃m v,zaH w m t v=true∧hitP p v=true
 |0,t,p,_,h,_=>by simp[zae] at h
 |n+1,t,p,ht,hp,he=>by
  rcases zbn hp with h1|h3|h4
  ·rw[zfe h1] at he;have:=of_decide_eq_false he;obtain⟨m,v,hv⟩:=zss hs.dp ht (by omega);exact⟨m,v,hv,ze0 h1⟩
  ·have hi:=zbB hp h3;refine⟨1,⟨-1,p.n,[]⟩, ?_, ?_⟩
   ·unfold zaH;rw[if_pos hi.1];simp only[xad,decide_eq_true_eq];exact⟨rfl,hi.2.1,by show p.n≤9;omega,rfl⟩
   ·rw[zg4 h3];show zap p.n p.n p.m=true
    unfold zap;rw[xad,decide_eq_true_eq,decide_eq_true_eq];omega
  ·obtain⟨m1,m2,m3,m4⟩:=zaC hp h4;rw[ziG h4] at he;have ha:all2 (fun u q=> !zaX w (zai w) n u q) (zaa w t p.ctor) p.kids=true:=by simpa using he
   obtain⟨m,l,h5,h6⟩:=zq3 (us:=zaa w t p.ctor) (ps:=p.kids) m3.symm (fun i hi=>by
    have hk:=zaT hp hi;rw[za2 h4] at hk;have h7:=zei m3.symm ha i (by omega);exact zh0 hs n (zbo hs.dp ht m1 _ (zaf (by omega))) hk (by simpa using h7))
   refine⟨m+1,⟨p.ctor,0,l⟩, ?_, ?_⟩
   ·unfold zaH;rw[if_neg m2,if_pos ⟨rfl,zk3 m1⟩];exact h5
   ·rw[zcI h4,xad];exact⟨decide_eq_true rfl,h6⟩
theorem zyf {w:List Data}{n:Nat}{t:Ty}{p:Pat} (h:zae w n t p=true) (h3:p.op=3):p=intQ p.n p.m:=by
 obtain⟨ho,hl⟩:=zge h;have e:zag w t p=[]:=by unfold zag;rw[if_neg (by omega),if_neg (by omega),if_neg (by omega)]
 rw[e] at hl;have hk:=List.eq_nil_of_length_eq_zero hl;unfold ownP at ho;have hh:=of_decide_eq_true ho;have h1:=hh.2.1 (by omega);have h2:=hh.2.2.2.1 (by omega);obtain⟨op,c,m,k,v,ks⟩:=p;change op=3 at h3
 change v=0 at h1
 change c=0 at h2
 change ks=[] at hk
 rw[h3,h1,h2,hk];rfl
theorem zkx {w:List Data}:∀(k n:Nat){t:Ty}{x z:Pat},zae w k t x=true→zax n x x=some z→z=x
 |0,n,t,x,z,h,_=>by simp[zae] at h
 |k+1,0,t,x,z,_,h=>by simp[zax] at h
 |k+1,n+1,t,x,z,hp,h=>by
  rcases zbn hp with h1|h3|h4
  ·rw[zhJ h1] at h;cases h;rfl
  ·rw[ziM h3 (by omega)] at h;split at h
   ·cases h
    have e1:maxQ x.n x.n=x.n:=by unfold maxQ;split<;>rfl
    have e2:minQ x.m x.m=x.m:=by unfold minQ;split<;>rfl
    rw[e1,e2];exact(zyf hp h3).symm
   ·cases h
  ·obtain⟨m1,m2,m3,m4⟩:=zaC hp h4;rw[zhK h4 (by omega) rfl] at h;cases hl:zbK (zax n) x.kids x.kids [] with
   |none=>rw[hl] at h;cases h
   |some l=>
    rw[hl] at h;simp only[Option.map_some,Option.some.injEq] at h;subst h;obtain⟨r,e,hr,hm⟩:=zfK rfl hl;rw[List.nil_append] at e;subst e;have:l=x.kids:=zof (by omega) (fun i hi=>by
     have hk:=zaT hp (i:=i) (by omega);rw[za2 h4] at hk;exact zkx k n hk (hm i (by omega)))
    rw[this];exact m4.symm
theorem zlK {f:Ty→Pat→Pat→List Pat}{c:Int}:∀ {us:List Ty}{xs front:List Pat},us.length=xs.length→(∀j,j<xs.length→f (nth us j) (nth xs j) (nth xs j)=[])→zaR f c us xs xs front=[]
 | [],[],_,_,_=>rfl
 |u::us,x::xs,front,hl,h=>by
  unfold zaR;have h0:=h 0 (by simp);rw[show f u x x=[] from h0,List.map_nil,List.nil_append];split
  ·rfl
  ·exact zlK (by simpa using hl) (fun j hj=>h (j+1) (by simpa using hj))
 | [],_::_,_,h,_=>by simp at h
 |_::_,[],_,h,_=>by simp at h
theorem zju {w:List Data}:∀(k n:Nat){t:Ty}{x:Pat},zae w k t x=true→zaq w n t x x=[]
 |0,n,t,x,h=>by simp[zae] at h
 |k+1,0,t,x,_=>rfl
 |k+1,n+1,t,x,hp=>by
  rcases zbn hp with h1|h3|h4
  ·exact zfl h1
  ·rw[zhp h3];have e1:lowQ x=x.n:=by unfold lowQ;rw[if_neg (by omega)]
   have e2:zck x=x.m:=by unfold zck;rw[if_neg (by omega)]
   have q1:=zsE (zck x) (x.n-1);have q2:=zsD (lowQ x) (x.m+1);unfold zd2 zbP;rw[if_neg (by omega),if_neg (by omega)];rfl
  ·obtain⟨m1,m2,m3,m4⟩:=zaC hp h4;rw[zcW h4 h4];unfold zbZ;rw[if_pos rfl];exact zlK m3.symm (fun j hj=>by
    have hk:=zaT hp (i:=j) hj;rw[za2 h4] at hk;exact zju k n hk)
structure Grid (w:List Data) (t:Ty) (S:Pat→Prop) (V:List Val):Prop where
 meet:∀n a b z,S a→S b→zax n a b=some z→S z
 minus:∀n a b x,S a→S b→x∈zaq w n t a b→S x
 hit:∀n p,S p→zae w n t p=true→zaX w (zai w) n t p=false→∃v∈V,hitP p v=true
 fits:∃m,∀v∈V,zaH w m t v=true
theorem zo7 {w:List Data} (hs:Spa w){t:Ty} (ht:InS (w.length*4) t){k:Nat}{x:Pat} (hx:zae w k t x=true):∃V,V.length≤1∧Grid w t (fun p=>p=x) V:=by
 by_cases hex:∃m v,zaH w m t v=true∧hitP x v=true
 ·obtain⟨m,v,h1,h2⟩:=hex;refine⟨[v],by simp,⟨fun n a b z ha hb h=>by subst ha;subst hb;exact zkx k n hx h,fun n a b z ha hb h=>by subst ha;subst hb;rw[zju k n hx] at h;simp at h,fun n p hp _ _=>⟨v,by simp,by rw[hp];exact h2⟩,⟨m,fun y hy=>by rw[List.mem_singleton.1 hy];exact h1⟩⟩⟩
 ·refine⟨[],by simp,⟨fun n a b z ha hb h=>by subst ha;subst hb;exact zkx k n hx h,fun n a b z ha hb h=>by subst ha;subst hb;rw[zju k n hx] at h;simp at h,fun n p hp h1 h2=>?_,⟨0,fun y hy=>by simp at hy⟩⟩⟩;subst hp;exact absurd (zh0 hs n ht h1 h2) hex
theorem zqW {w:List Data}{t:Ty} (ht:t.data = -1):Grid w t (fun _=>True) zep:=by
 refine⟨fun _ _ _ _ _ _ _=>trivial,fun _ _ _ _ _ _ _=>trivial,fun n p _ hp _=>?_,1,fun v hv=>zjh 1 (by unfold zaM;rw[if_pos ht];exact hv)⟩;have hd:∀i:Nat,i<10→(⟨-1,(i:Int),[]⟩:Val)∈zep:=fun i hi=>by unfold zep;exact List.mem_map.2 ⟨i,List.mem_range.2 hi,rfl⟩
 rcases zbn hp with h1|h3|h4
 ·exact⟨_,hd 0 (by omega),ze0 h1⟩
 ·have hi:=zbB hp h3;refine⟨_,hd p.n.toNat (by omega), ?_⟩;rw[zg4 h3];show zap ((p.n.toNat:Nat):Int) p.n p.m=true
  unfold zap;rw[xad,decide_eq_true_eq,decide_eq_true_eq];omega
 ·exact absurd ht (zaC hp h4).2.1
def CSat (Ss:Nat→Pat→Prop) (c:Int) (k:Nat) (p:Pat):Prop:=∃l,p=za8 c l∧l.length=k∧∀j,j<k→Ss j (nth l j)
theorem znn {f:Ty→Pat→Pat→List Pat}{c:Int}{Ss:Nat→Pat→Prop}:∀ {us:List Ty}{xs bs front:List Pat},us.length=xs.length→bs.length=xs.length→(∀j,j<front.length→Ss j (nth front j))→
  (∀j,j<xs.length→Ss (front.length+j) (nth xs j)∧(∀z∈f (nth us j) (nth xs j) (nth bs j),Ss (front.length+j) z)∧(∀z,zax 11 (nth xs j) (nth bs j)=some z→Ss (front.length+j) z))→
  ∀x∈zaR f c us xs bs front,CSat Ss c (front.length+xs.length) x
 | [],[],_,front,_,_,_,_,x,hx=>by simp[zaR] at hx
 |u::us,a0::s,b0::q,front,h1,h2,hfr,hab,x,hx=>by
  have h0:=hab 0 (by simp);have e0:nth (a0::s) 0=a0:=rfl;have e1:nth (b0::q) 0=b0:=rfl;have e2:nth (u::us) 0=u:=rfl;rw[e0,e1,e2,Nat.add_zero] at h0;unfold zaR at hx;rcases List.mem_append.1 hx with hx|hx
  ·obtain⟨z,hz,rfl⟩:=List.mem_map.1 hx;refine⟨front++[z]++s,rfl,by simp only[xaa,xab,xah];omega,fun j hj=>?_⟩;simp only[xab] at hj;by_cases hj1:j<front.length
   ·have e:nth (front++[z]++s) j=nth front j:=by
     simp only[nth,List.getD,List.append_assoc];rw[List.getElem?_append_left (by omega)]
    rw[e];exact hfr j hj1
   ·by_cases hj2:j=front.length
    ·subst hj2;have e:nth (front++[z]++s) front.length=z:=by
      simp only[nth,List.getD,List.append_assoc];rw[List.getElem?_append_right (by omega),Nat.sub_self];all_goals rfl
     rw[e];exact h0.2.1 z hz
    ·obtain⟨i,rfl⟩:∃i,j=front.length+1+i:=⟨j-front.length-1,by omega⟩;have e:nth (front++[z]++s) (front.length+1+i)=nth (a0::s) (i+1):=by
      simp only[nth,List.getD,List.append_assoc];rw[List.getElem?_append_right (by omega),show front.length+1+i-front.length=i+1 by omega];all_goals rfl
     rw[e];have:=(hab (i+1) (by simp;omega)).1;rwa [show front.length+(i+1)=front.length+1+i by omega] at this
  ·cases hm:zax 11 a0 b0 with
   |none=>rw[hm] at hx;simp at hx
   |some both=>
    rw[hm] at hx;have:=znn (f:=f) (c:=c) (Ss:=Ss) (us:=us) (xs:=s) (bs:=q) (front:=front++[both]) (by simpa using h1) (by simpa using h2) (fun j hj=>?_) (fun j hj=>?_) x hx
    ·rw[xaa,List.length_singleton,show front.length+1+s.length=front.length+(a0::s).length by simp;omega] at this;exact this
    ·by_cases hj1:j<front.length
     ·have e:nth (front++[both]) j=nth front j:=by
       simp only[nth,List.getD];rw[List.getElem?_append_left (by omega)]
      rw[e];exact hfr j hj1
     ·have hj2:j=front.length:=by simp at hj;omega
      subst hj2;have e:nth (front++[both]) front.length=both:=by
       simp only[nth,List.getD];rw[List.getElem?_append_right (by omega),Nat.sub_self];all_goals rfl
      rw[e];exact h0.2.2 both hm
    ·have:=hab (j+1) (by simpa using hj);rw[xaa,List.length_singleton,show front.length+1+j=front.length+(j+1) by omega];exact this
 | [],_::_,_,_,h,_,_,_,_,_=>by simp at h
 |_::_,[],_,_,h,_,_,_,_,_=>by simp at h
 |_::_,_::_,[],_,_,h,_,_,_,_=>by simp at h
theorem zqR:∀(Vs:List (List Val)) (vs:List Val) (acc:List (List Val)) (q:List Val),Vs.length=vs.length→q∈acc→(∀j,j<Vs.length→nth vs j∈nth Vs j)→q++vs∈Vs.foldl (fun acc l=>acc.flatMap fun o=>l.map fun y=>o++[y]) acc
 | [],[],acc,q,_,h,_=>by simpa using h
 |l::r,v::s,acc,q,hl,h,hm=>by
  rw[List.foldl_cons,show q++v::s=q++[v]++s by simp];refine zqR r s _ (q++[v]) (by simpa using hl) ?_ (fun j hj=>hm (j+1) (by simpa using hj));exact List.mem_flatMap.2 ⟨q,h,List.mem_map.2 ⟨v,hm 0 (by simp),rfl⟩⟩
 | [],_::_,_,_,h,_,_=>by simp at h
 |_::_,[],_,_,h,_,_=>by simp at h
theorem zqQ:∀(Vs:List (List Val)) (acc:List (List Val)) (l:List Val),l∈Vs.foldl (fun acc l=>acc.flatMap fun o=>l.map fun y=>o++[y]) acc→∃q∈acc,∃vs,l=q++vs∧vs.length=Vs.length∧∀j,j<Vs.length→nth vs j∈nth Vs j
 | [],acc,l,h=>⟨l,h,[],by simp,rfl,fun j hj=>by simp at hj⟩
 |x::r,acc,l,h=>by
  rw[List.foldl_cons] at h;obtain⟨q,hq,vs,e,h1,h2⟩:=zqQ r _ l h;obtain⟨o,ho,hq⟩:=List.mem_flatMap.1 hq;obtain⟨y,hy,rfl⟩:=List.mem_map.1 hq;refine⟨o,ho,y::vs,by rw[e];simp,by simp[h1],fun j hj=>?_⟩;cases j with
  |zero=>exact hy
  |succ j=>exact h2 j (by simpa using hj)
def zhe (c:Int) (k:Nat) (Vs:Nat→List Val):List Val:=(zb1 ((List.range k).map Vs)).map (Val.mk c 0)
theorem zkC {α:Type} [Inhabited α]{k j:Nat} (f:Nat→α) (h:j<k):nth ((List.range k).map f) j=f j:=by
 rw[zaQ (by simpa using h)];simp
theorem zv5 (c:Int) (k:Nat) (Vs:Nat→List Val):(zhe c k Vs).length=zbg ((List.range k).map fun j=>(Vs j).length):=by
 unfold zhe;rw[xac,zfq,List.map_map];rfl
theorem zl0 {P:Nat→Nat→Prop} (hm:∀j m n,m≤n→P j m→P j n):∀(k:Nat),(∀j,j<k→∃m,P j m)→∃m,∀j,j<k→P j m
 |0,_=>⟨0,fun j hj=>by omega⟩
 |k+1,h=>by
  obtain⟨m1,h1⟩:=zl0 hm k (fun j hj=>h j (by omega));obtain⟨m2,h2⟩:=h k (by omega);refine⟨max m1 m2,fun j hj=>?_⟩;by_cases hk:j=k
  ·subst hk;exact hm _ _ _ (Nat.le_max_right _ _) h2
  ·exact hm _ _ _ (Nat.le_max_left _ _) (h1 j (by omega))
theorem zka {Q:Nat→Val→Prop}:∀(k:Nat),(∀j,j<k→∃v,Q j v)→∃l:List Val,l.length=k∧∀j,j<k→Q j (nth l j)
 |0,_=>⟨[],rfl,fun j hj=>by omega⟩
 |k+1,h=>by
  obtain⟨l,h1,h2⟩:=zka k (fun j hj=>h j (by omega));obtain⟨v,hv⟩:=h k (by omega);refine⟨l++[v],by simp[h1],fun j hj=>?_⟩;by_cases hk:j=k
  ·subst hk;have e:nth (l++[v]) j=v:=by
    simp only[nth,List.getD];rw[List.getElem?_append_right (by omega),h1,Nat.sub_self];all_goals rfl
   rw[e];exact hv
  ·have e:nth (l++[v]) j=nth l j:=by
    simp only[nth,List.getD];rw[List.getElem?_append_left (by omega)]
   rw[e];exact h2 j (by omega)
theorem zoV {c:Int}{Ss:Nat→Pat→Prop}{k n:Nat}{a b z:Pat} (hm:∀j,j<k→∀n a b z,Ss j a→Ss j b→zax n a b=some z→Ss j z) (ha:CSat Ss c k a) (hb:CSat Ss c k b) (h:zax n a b=some z):CSat Ss c k z:=by
 obtain⟨la,rfl,h1,h2⟩:=ha;obtain⟨lb,rfl,h3,h4⟩:=hb;cases n with
 |zero=>simp[zax] at h
 |succ n=>
  rw[zhK (a:=za8 c la) (b:=za8 c lb) rfl (by show ¬(4:Int)=1;decide) rfl] at h;cases hl:zbK (zax n) (za8 c la).kids (za8 c lb).kids [] with
  |none=>rw[hl] at h;cases h
  |some l=>
   rw[hl] at h;simp only[Option.map_some,Option.some.injEq] at h;subst h;have hll:(za8 c la).kids.length=(za8 c lb).kids.length:=by show la.length=lb.length;omega
   obtain⟨r,e,hr,hi⟩:=zfK hll hl;rw[List.nil_append] at e;subst e;have hk:(za8 c la).kids.length=k:=h1;refine⟨l,rfl,by omega,fun j hj=>hm j hj n _ _ _ (h2 j hj) (h4 j hj) (hi j (by omega))⟩
theorem zmT {w:List Data}{t:Ty}{c:Int}{Ss:Nat→Pat→Prop}{n:Nat}{a b x:Pat} (hm:∀j,j<(zaa w t c).length→∀n a b z,Ss j a→Ss j b→zax n a b=some z→Ss j z)
  (hn:∀j,j<(zaa w t c).length→∀n a b x,Ss j a→Ss j b→x∈zaq w n (nth (zaa w t c) j) a b→Ss j x) (ha:CSat Ss c (zaa w t c).length a) (hb:CSat Ss c (zaa w t c).length b) (h:x∈zbZ (zaq w n) w t a b):
  CSat Ss c (zaa w t c).length x:=by
 obtain⟨la,rfl,h1,h2⟩:=ha;obtain⟨lb,rfl,h3,h4⟩:=hb;unfold zbZ at h;rw[if_pos (show(za8 c la).ctor=(za8 c lb).ctor from rfl)] at h;have:=znn (f:=zaq w n) (c:=c) (Ss:=Ss) (us:=zaa w t c) (xs:=la) (bs:=lb) (front:=[]) (by omega) (by omega) (fun j hj=>by simp at hj) (fun j hj=>by
  rw[xah,Nat.zero_add];exact⟨h2 j (by omega),fun z hz=>hn j (by omega) n _ _ z (h2 j (by omega)) (h4 j (by omega)) hz,fun z hz=>hm j (by omega) 11 _ _ z (h2 j (by omega)) (h4 j (by omega)) hz⟩) x h
 rw[xah,Nat.zero_add,h1] at this;exact this
theorem zh9 {w:List Data}{t:Ty}{c:Int} (hc:c∈zah w t){Ss:Nat→Pat→Prop}{Vs:Nat→List Val} (hg:∀j,j<(zaa w t c).length→Grid w (nth (zaa w t c) j) (Ss j) (Vs j)):
  Grid w t (CSat Ss c (zaa w t c).length) (zhe c (zaa w t c).length Vs):=by
 have hdt:t.data≠ -1:=fun e=>by unfold zah at hc;rw[if_pos e] at hc;simp at hc
 refine⟨fun n a b z ha hb h=>zoV (fun j hj=>(hg j hj).meet) ha hb h,fun n a b x ha hb h=>?_,fun n p hp h1 h2=>?_, ?_⟩
 ·cases n with
  |zero=>simp[zaq] at h
  |succ n=>
   have ha4:a.op=4:=by obtain⟨l,rfl,_⟩:=ha;rfl
   have hb4:b.op=4:=by obtain⟨l,rfl,_⟩:=hb;rfl
   rw[zcW hb4 ha4] at h;exact zmT (fun j hj=>(hg j hj).meet) (fun j hj=>(hg j hj).minus) ha hb h
 ·obtain⟨l,rfl,h3,h4⟩:=hp;cases n with
  |zero=>simp[zae] at h1
  |succ n=>
   rw[ziG rfl] at h2;have ha:all2 (fun u q=> !zaX w (zai w) n u q) (zaa w t c) l=true:=(by simpa using h2:all2 (fun u q=> !zaX w (zai w) n u q) (zaa w t (za8 c l).ctor) (za8 c l).kids=true);obtain⟨vs,h5,h6⟩:=zka (Q:=fun j v=>v∈Vs j∧hitP (nth l j) v=true) (zaa w t c).length (fun j hj=>by
    have hk:=zaT h1 (i:=j) (by show j<l.length;omega);rw[za2 rfl] at hk;have h7:=zei h3.symm ha j hj;exact(hg j hj).hit n (nth l j) (h4 j hj) hk (by simpa using h7))
   refine⟨⟨c,0,vs⟩, ?_, ?_⟩
   ·unfold zhe;refine List.mem_map.2 ⟨vs, ?_,rfl⟩;have:=zqR ((List.range (zaa w t c).length).map Vs) vs [[]] [] (by simp[h5]) (by simp) (fun j hj=>by
     rw[xac,List.length_range] at hj;rw[zkC Vs hj];exact(h6 j hj).1)
    simpa [zb1] using this
   ·rw[zcI rfl,xad];refine⟨decide_eq_true rfl, ?_⟩;show hitL l vs=true
    rw[zjj (by omega)];exact fun j hj=>(h6 j (by omega)).2
 ·obtain⟨m,hm⟩:=zl0 (P:=fun j m=>∀v∈Vs j,zaH w m (nth (zaa w t c) j) v=true) (fun j m n hmn h v hv=>zhz hmn (h v hv)) (zaa w t c).length (fun j hj=>(hg j hj).fits);refine⟨m+1,fun v hv=>?_⟩;unfold zhe at hv;obtain⟨l,hl,rfl⟩:=List.mem_map.1 hv;obtain⟨q,hq,vs,e,h1,h2⟩:=zqQ _ _ l hl;rw[List.mem_singleton] at hq;rw[hq,List.nil_append] at e;subst e;unfold zaH;rw[if_neg hdt,if_pos ⟨rfl,zk3 hc⟩];rw[xac,List.length_range] at h1;refine zcg (by show(zaa w t c).length=l.length;omega) (fun j hj=>?_);have hj:j<(zaa w t c).length:=hj;have:=h2 j (by simpa using hj);rw[zkC Vs hj] at this;exact hm j hj _ this
section
variable {w:List Data} (hs:Spa w){t:Ty} (ht:InS (w.length*4) t)
include hs ht
theorem zo8 (hdt:t.data≠ -1){Ss:Int→Nat→Pat→Prop}{Vs:Int→Nat→List Val} (hg:∀c∈zah w t,∀j,j<(zaa w t c).length→Grid w (nth (zaa w t c) j) (Ss c j) (Vs c j)) (hany:∀c∈zah w t,∀j,Ss c j anyQ):
  Grid w t (fun p=>p.op=1∨∃c∈zah w t,CSat (Ss c) c (zaa w t c).length p) ((zah w t).flatMap fun c=>zhe c (zaa w t c).length (Vs c)):=by
 have hw:∀c∈zah w t,CSat (Ss c) c (zaa w t c).length (zbI w t c):=fun c hc=>by
  refine⟨_,rfl,by simp,fun j hj=>?_⟩;have e:nth ((zaa w t c).map fun _=>anyQ) j=anyQ:=by rw[zaQ (by simpa using hj)];simp
  rw[e];exact hany c hc j
 have h4:∀ {c:Int}{k:Nat}{S:Nat→Pat→Prop}{p:Pat},CSat S c k p→p.op=4∧p.ctor=c:=fun h=>by obtain⟨l,rfl,_⟩:=h;exact⟨rfl,rfl⟩
 refine⟨fun n a b z ha hb h=>?_,fun n a b x ha hb h=>?_,fun n p hp h1 h2=>?_, ?_⟩
 ·cases n with
  |zero=>simp[zax] at h
  |succ n=>
   rcases ha with ha|⟨c,hc,ha⟩
   ·rw[zhJ ha] at h;cases h;exact hb
   ·rcases hb with hb|⟨c',hc',hb⟩
    ·rw[ziL (by have:=(h4 ha).1;omega) hb] at h;cases h;exact .inr ⟨c,hc,ha⟩
    ·by_cases e:c=c'
     ·subst e;exact .inr ⟨c,hc,zoV (fun j hj=>(hg c hc j hj).meet) ha hb h⟩
     ·rw[zho (h4 ha).1 (by have:=(h4 hb).1;omega) (by rw[(h4 ha).2,(h4 hb).2];exact e)] at h;cases h
 ·cases n with
  |zero=>simp[zaq] at h
  |succ n=>
   rcases hb with hb|⟨c',hc',hb⟩
   ·rw[zfl hb] at h;simp at h
   ·have key:∀c∈zah w t,∀a,CSat (Ss c) c (zaa w t c).length a→x∈zbZ (zaq w n) w t a b→x.op=1∨∃c∈zah w t,CSat (Ss c) c (zaa w t c).length x:=fun c hc a ha h=>by
     by_cases e:c=c'
     ·subst e;exact .inr ⟨c,hc,zmT (fun j hj=>(hg c hc j hj).meet) (fun j hj=>(hg c hc j hj).minus) ha hb h⟩
     ·unfold zbZ at h;rw[if_neg (by rw[(h4 ha).2,(h4 hb).2];exact e),List.mem_singleton] at h;rw[h];exact .inr ⟨c,hc,ha⟩
    rcases ha with ha|⟨c,hc,ha⟩
    ·rw[zgc (h4 hb).1 ha] at h;obtain⟨c,hc,h⟩:=List.mem_flatMap.1 h;exact key c hc _ (hw c hc) h
    ·rw[zcW (h4 hb).1 (h4 ha).1] at h;exact key c hc a ha h
 ·rcases hp with hp|⟨c,hc,hp⟩
  ·cases n with
   |zero=>simp[zae] at h1
   |succ n=>
    rw[zfe hp] at h2;have h0:=of_decide_eq_false h2;obtain⟨m,v,hv⟩:=zss hs.dp ht (by omega);cases m with
    |zero=>simp[zaH] at hv
    |succ m=>
     obtain⟨f1,f2,f3⟩:=zdg hv hdt;have hh:hitP (zbI w t v.ctor) v=true:=by
      rw[zcI rfl];show(decide (v.ctor=v.ctor)&&hitL ((zaa w t v.ctor).map fun _=>anyQ) v.kids)=true
      rw[zl3,decide_eq_true rfl];rfl
     have hwp:zae w 2 t (zbI w t v.ctor)=true:=zcv f1;obtain⟨v',h5,_⟩:=(zh9 f1 (fun j hj=>hg v.ctor f1 j hj)).hit 2 _ (hw _ f1) hwp (zkn hs 2 (m+1) ht hwp hv hh);exact⟨v',List.mem_flatMap.2 ⟨_,f1,h5⟩,ze0 hp⟩
  ·obtain⟨v',h5,h6⟩:=(zh9 hc (fun j hj=>hg c hc j hj)).hit n p hp h1 h2;exact⟨v',List.mem_flatMap.2 ⟨c,hc,h5⟩,h6⟩
 ·obtain⟨m,hm⟩:=zl0 (P:=fun i m=>∀v∈zhe (nth (zah w t) i) (zaa w t (nth (zah w t) i)).length (Vs (nth (zah w t) i)),zaH w m t v=true) (fun j m n hmn h v hv=>zhz hmn (h v hv)) (zah w t).length
   (fun i hi=>(zh9 (zaf hi) (fun j hj=>hg _ (zaf hi) j hj)).fits)
  refine⟨m,fun v hv=>?_⟩;obtain⟨c,hc,hv⟩:=List.mem_flatMap.1 hv;obtain⟨i,hi,rfl⟩:=List.getElem_of_mem hc;rw[←zaQ hi] at hv;exact hm i hi v hv
end
theorem zus:∀(V:List Val) (l:List Pat),(∀x∈l,∃v∈V,hitP x v=true)→(∀v∈V,l.countP (fun x=>hitP x v)≤1)→l.length≤V.length
 | [],l,h,_=>by
  cases l with
  |nil=>simp
  |cons x r=>obtain⟨v,hv,_⟩:=h x (by simp);simp at hv
 |v::V,l,h,hc=>by
  have h1:=hc v (by simp);have h2:=zus V (l.filter fun x=> !hitP x v) (fun x hx=>by
   obtain⟨h3,h4⟩:=List.mem_filter.1 hx;obtain⟨u,hu,h5⟩:=h x h3;rcases List.mem_cons.1 hu with rfl|hu
   ·rw[h5] at h4;simp at h4
   ·exact⟨u,hu,h5⟩) (fun u hu=>Nat.le_trans (List.Sublist.countP_le List.filter_sublist) (hc u (by simp[hu])))
  have h3:l.length=l.countP (fun x=>hitP x v)+(l.filter fun x=> !hitP x v).length:=by
   rw[←List.countP_eq_length_filter];have:=List.length_eq_countP_add_countP (fun x=>hitP x v) (l:=l);rw[this];congr 1
   refine List.countP_congr (fun x _=>?_);simp
  simp only[xab];omega
def sepQ (w:List Data) (t:Ty):List Pat→List Pat→List Pat→Option (List Pat)
 |_,[],out=>some out
 |front,p::r,out=>match zaJ w t [p] front with
  |none=>none
  |some m=>sepQ w t (front++[p]) r (out++m)
theorem zsU {w:List Data}{t:Ty}{S:Pat→Prop} (hmin:∀a b x,S a→S b→x∈zaq w 10 t a b→S x):∀(away l r:List Pat),(∀b∈away,zae w 10 t b=true∧S b)→(∀a∈l,zae w 11 t a=true∧S a∧zbj w t a=true)→subL w t l away=some r→∀x∈r,zae w 11 t x=true∧S x∧zbj w t x=true
 | [],l,r,_,hl,h=>by rw[subL] at h;cases h;exact hl
 |b::away,l,r,hb,hl,h=>by
  rw[subL] at h;split at h
  ·refine zsU hmin away _ r (fun x hx=>hb x (by simp[hx])) (fun x hx=>?_) h;have h1:=zeH (fun a ha=>(hl a ha).1) (hb b (by simp)).1 x hx;unfold zbR at hx;obtain⟨h2,h3⟩:=List.mem_filter.1 hx;obtain⟨a,ha,h4⟩:=List.mem_flatMap.1 h2;exact⟨h1,hmin a b x (hl a ha).2.1 (hb b (by simp)).2 h4,h3⟩
  ·cases h
theorem zlR {w:List Data}{t:Ty}{S:Pat→Prop} (hmin:∀a b x,S a→S b→x∈zaq w 10 t a b→S x){away l r:List Pat} (hb:∀b∈away,zae w 10 t b=true∧S b) (hl:∀a∈l,zae w 11 t a=true∧S a) (h:zaJ w t l away=some r):∀x∈r,zae w 11 t x=true∧S x∧zbj w t x=true:=by
 unfold zaJ at h;exact zsU hmin away _ r hb (fun a ha=>⟨(hl a (List.mem_filter.1 ha).1).1,(hl a (List.mem_filter.1 ha).1).2,(List.mem_filter.1 ha).2⟩) h
theorem zou {w:List Data}{t:Ty}{S:Pat→Prop} (hmin:∀a b x,S a→S b→x∈zaq w 10 t a b→S x):∀(r front out:List Pat){res:List Pat},(∀b∈front,zae w 10 t b=true∧S b)→(∀b∈r,zae w 10 t b=true∧S b)→(∀x∈out,zae w 11 t x=true∧S x∧zbj w t x=true)→
  sepQ w t front r out=some res→∀x∈res,zae w 11 t x=true∧S x∧zbj w t x=true
 | [],front,out,res,_,_,ho,h=>by rw[sepQ] at h;cases h;exact ho
 |p::r,front,out,res,hf,hr,ho,h=>by
  rw[sepQ] at h;cases hw:zaJ w t [p] front with
  |none=>rw[hw] at h;cases h
  |some m=>
   rw[hw] at h;have hp:=hr p (by simp);have h1:=zlR hmin hf (fun a ha=>by rw[List.mem_singleton.1 ha];exact⟨zdc (by omega) hp.1,hp.2⟩) hw;refine zou hmin r (front++[p]) (out++m) (fun b hb=>?_) (fun b hb=>hr b (by simp[hb])) (fun x hx=>?_) h
   ·rcases List.mem_append.1 hb with hb|hb
    ·exact hf b hb
    ·rw[List.mem_singleton.1 hb];exact hp
   ·rcases List.mem_append.1 hx with hx|hx
    ·exact ho x hx
    ·exact h1 x hx
theorem zw2 (n:Nat):∀f p r:Bool,(n+if f=true then 0 else one p)+(if (f||p)=true then 0 else one r)=n+if f=true then 0 else one (p||r):=by
 intro f p r;cases f<;>cases p<;>cases r<;>simp[one]
theorem zye:∀b:Bool,one b≤1:=by decide
section
variable {w:List Data} (hs:Spa w){t:Ty} (ht:InS (w.length*4) t)
include hs ht
theorem zlj {v:Val}{k:Nat} (hv:zaH w k t v=true):∀(r front out:List Pat){res:List Pat},(∀b∈front,zae w 10 t b=true)→(∀b∈r,zae w 10 t b=true)→sepQ w t front r out=some res→
  res.countP (fun x=>hitP x v)=out.countP (fun x=>hitP x v)+if front.any (fun x=>hitP x v)=true then 0 else one (r.any fun x=>hitP x v)
 | [],front,out,res,_,_,h=>by
  rw[sepQ] at h;cases h;simp[one]
 |p::r,front,out,res,hf,hr,h=>by
  rw[sepQ] at h;cases hw:zaJ w t [p] front with
  |none=>rw[hw] at h;cases h
  |some m=>
   rw[hw] at h;have hp:=hr p (by simp);have h1:=zlQ hs ht hv hf (fun a ha=>by rw[List.mem_singleton.1 ha];exact zdc (by omega) hp) hw;have h2:=zlj hv r (front++[p]) (out++m) (fun b hb=>by
    rcases List.mem_append.1 hb with hb|hb
    ·exact hf b hb
    ·rw[List.mem_singleton.1 hb];exact hp) (fun b hb=>hr b (by simp[hb])) h
   rw[h2,List.countP_append,h1,List.any_append,List.any_cons,List.countP_singleton];simp only[List.any_cons,List.any_nil,Bool.or_false];exact zw2 _ _ _ _
theorem zsO {S:Pat→Prop}{V:List Val} (hg:Grid w t S V){l res:List Pat} (hl:∀b∈l,zae w 10 t b=true∧S b) (h:sepQ w t [] l []=some res):res.length≤V.length:=by
 obtain⟨m,hm⟩:=hg.fits;have h1:=zou (hg.minus 10) l [] [] (by simp) hl (by simp) h;refine zus V res (fun x hx=>?_) (fun v hv=>?_)
 ·obtain⟨h2,h3,h4⟩:=h1 x hx;exact hg.hit 11 x h3 h2 (by unfold zbj at h4;simpa using h4)
 ·have:=zlj hs ht (hm v hv) l [] [] (by simp) (fun b hb=>(hl b hb).1) h;rw[this];simp only[List.countP_nil,List.any_nil,Nat.zero_add];exact zye _
end
abbrev zh6 (o:List Pat):List D:=[.sl (Pat.cs o)]
abbrev zjd (ls:List (List Pat)):D:= .sl (ls.map zh6)
theorem ztG {N:Nat} (acc:List (List Pat)) (l:List Pat):(za7 (acc.take N) l).take N=(za7 acc l).take N:=by
 by_cases h:acc.length≤N
 ·rw[List.take_of_length_le h]
 have e0:∀a:List (List Pat),za7 a []=[]:=fun a=>by unfold za7;simp
 cases l with
 |nil=>rw[e0,e0]
 |cons c r=>
  have e:za7 acc (c::r)=za7 (acc.take N) (c::r)++za7 (acc.drop N) (c::r):=by
   unfold za7;rw[←List.flatMap_append,List.take_append_drop]
  rw[e,zeA];rw[zgK,List.length_take,Nat.min_eq_left (by omega),xab];exact Nat.le_mul_of_pos_right _ (by omega)
theorem ztH {N:Nat} (acc:List (List Pat)) (l:List Pat):(za7 acc (l.take N)).take N=(za7 acc l).take N:=by
 by_cases h:l.length≤N
 ·rw[List.take_of_length_le h]
 cases acc with
 |nil=>rfl
 |cons q r=>
  have e:∀l:List Pat,za7 (q::r) l=l.map (fun c=>q++[c])++za7 r l:=fun l=>by unfold za7;rw[List.flatMap_cons]
  rw[e,e,zeA (by rw[xac,List.length_take];omega),zeA (by rw[xac];omega),List.map_take,List.take_take,Nat.min_self]
def tupQ (m:Nat) (ls:List (List Pat)):List (List Pat):=ls.foldl (fun acc l=>(za7 acc l).take (m+1)) [[]]
theorem zkZ (m:Nat) (ls:List (List Pat)) (l:List Pat):tupQ m (ls++[l])=(za7 (tupQ m ls) l).take (m+1):=by
 unfold tupQ;rw[List.foldl_append];rfl
theorem zrL (m:Nat):∀(ls:List (List Pat)) (acc:List (List Pat)),(ls.map (List.take (m+1))).foldl (fun acc l=>(za7 acc l).take (m+1)) (acc.take (m+1))=(ls.foldl za7 acc).take (m+1)
 | [],acc=>rfl
 |l::r,acc=>by
  rw[xae,List.foldl_cons,List.foldl_cons,ztH,ztG];exact zrL m r (za7 acc l)
theorem zxd (m:Nat) (ls:List (List Pat)):tupQ m (ls.map (List.take (m+1)))=(zec ls).take (m+1):=by
 have h:=zrL m ls [[]];have e:([[]]:List (List Pat)).take (m+1)=[[]]:=by simp
 rw[e] at h;exact h
theorem zrJ (m:Nat) (ls:List (List Pat)):(tupQ m ls).length≤m+1:=by
 have key:∀(ls acc:List (List Pat)),acc.length≤m+1→(ls.foldl (fun acc l=>(za7 acc l).take (m+1)) acc).length≤m+1:=by
  intro ls;induction ls with
  |nil=>intro acc h;exact h
  |cons l r ih=>intro acc h;exact ih _ (by rw[List.length_take];omega)
 exact key ls [[]] (by simp)
theorem zrK (m:Nat){ls:List (List Pat)}{o:List Pat} (h:o∈tupQ m ls):o.length=ls.length:=by
 have key:∀(ls acc:List (List Pat)) (n:Nat),(∀o∈acc,o.length=n)→∀o∈ls.foldl (fun acc l=>(za7 acc l).take (m+1)) acc,o.length=n+ls.length:=by
  intro ls;induction ls with
  |nil=>intro acc n h o ho;exact h o ho
  |cons l r ih=>
   intro acc n h o ho;have:=ih _ (n+1) (fun o' ho'=>by
    have ho':=List.mem_of_mem_take ho';unfold za7 at ho';simp only[List.mem_flatMap,List.mem_map] at ho';obtain⟨p,hp,q,_,rfl⟩:=ho';simp[h p hp]) o ho
   simp only[xab];omega
 have:=key ls [[]] 0 (by simp) o h;simpa using this
def zlm (l:List Pat) (o:List Pat):List (List Pat):=l.map fun y=>o++[y]
theorem zoI (acc:List (List Pat)) (l:List Pat):za7 acc l=acc.flatMap (zlm l):=rfl
theorem zrH {X:List (List Pat)}{l:List Pat}{o:List Pat}{j m:Nat} (hc:¬j<l.length∨¬((X++(l.take j).map fun y=>o++[y]).take (m+1)).length≤m):
  (X++(l.take j).map fun y=>o++[y]).take (m+1)=(X++zlm l o).take (m+1):=zxb hc
theorem zv3 {α:Type}{N:Nat} (a b:List α):(a.take N++b.take N).take N=(a++b).take N:=by
 by_cases h:a.length≤N
 ·rw[List.take_of_length_le h,List.take_append,List.take_append,List.take_take,Nat.min_eq_left (by omega)]
 ·rw[zeA (by rw[List.length_take];omega),zeA (by omega),List.take_take,Nat.min_self]
def zaZ (p:Pat):List Pat:=(zas p).take 401
theorem zvY {p:Pat} (h:p.op=5) (hk:p.kids.length=2):zaZ p=(zaZ (nth p.kids 0)++zaZ (nth p.kids 1)).take 401:=by
 unfold zaZ;rw[zdw h hk,zv3]
theorem zvZ {p:Pat} (h:p.op≠5):zaZ p=(tupQ 400 (p.kids.map zaZ)).map fun l=> .mk p.op p.ctor p.n p.m p.var l:=by
 unfold zaZ;rw[zc4 h,←List.map_take];congr 1
 have:=zxd 400 (p.kids.map zas);rw[List.map_map] at this;exact this.symm
theorem zjA (p:Pat):(zaZ p).length≤401:=by unfold zaZ;rw[List.length_take];omega
theorem zc8:∀(n:Nat){p:Pat},p.size≤n→p.ok→FnD Tryz.prog 58 [.agg [.d (.i p.op),.d (.i p.ctor),.d (.i p.n),.d (.i p.m),.d (.i p.var),.d (zac p.kids)]] [] (.agg [.d (.i (zau p).op),.d (.i (zau p).ctor),.d (.i (zau p).n),.d (.i (zau p).m),.d (.i (zau p).var),.d (zac (zau p).kids)]) []
 |0,p,h,_=>by rw[Pat.size_eq] at h;omega
 |n+1,p,h,hok=>by
  rw[Pat.size_eq] at h;rw[Pat.ok_iff] at hok;have hok1:=hok.1;by_cases h2:p.op=2
  ·rw[zsa h2];refine bd Tryz.f58 42 [] [] fun w0 F0 own kept hk=>?_;refine bx 3001 ?_;refine ab 3002 tz28 ?_;refine tv ?_;refine sq ?_ ?_<;>intro h1 h1p h1s;try simp only[Q] at h1p
   refine bu [0] [_] st28 ?_;refine so ty28 ?_;refine tv ?_;refine rn0 (.cons (.cellA ty28 rfl rfl rfl) .nil) (.agg (.cons (.eqd ?_) (.cons (.eqd ?_) (.cons (.eqd ?_) (.cons (.eqd ?_) (.cons (.eqd ?_) (.cons (.nild ?_) .nil)))))));rotate_left 6;try simp only[Q] at h1p
   exfalso;omega;all_goals (rfl)
  by_cases h6:p.op=6∧0<p.kids.length
  ·rw[zsb h6.1 h6.2];refine bd Tryz.f58 42 [] [] fun w0 F0 own kept hk=>?_;refine bx 3001 ?_;refine ab 3002 tz28 ?_;refine tv ?_;refine sq ?_ ?_<;>intro h1 h1p h1s;try simp only[Q,Pat.cs_len] at h1p
   exfalso;omega;try simp only[Q,Pat.cs_len] at h1p
   refine sq ?_ ?_<;>intro h2 h2p h2s;try simp only[Q,Pat.cs_len] at h2p
   refine sq ?_ ?_<;>intro h3 h3p h3s;try simp only[Q,Pat.cs_len] at h3p
   refine xaT (i:=0) sl26 .none rfl rfl rfl rfl (zaE h6.2) rfl ?_;refine ev ?_;refine wc zp4 (zc8 n (p:=nth p.kids 0) (by have:=Pats.size_mem (zaf h6.2);omega) (Pats.ok_mem hok.2 _ (zaf h6.2))) rfl rfl ?_;refine so ty28 ?_;refine tv ?_;refine rn0 (.cons (.cellA ty28 rfl rfl rfl) .nil) (.agg (.cons (.eqd ?_) (.cons (.eqd ?_) (.cons (.eqd ?_) (.cons (.eqd ?_) (.cons (.eqd ?_) (.cons (.eqd ?_) .nil)))))));rotate_left 6;try simp only[Q,Pat.cs_len] at h3p
   exfalso;omega;try simp only[Q,Pat.cs_len] at h2p
   exfalso;omega;all_goals (rfl)
  ·rw[zsc h2 h6];refine bd Tryz.f58 42 [] [] fun w0 F0 own kept hk=>?_;refine bx 3001 ?_;refine ab 3002 tz28 ?_;refine tv ?_;refine sq ?_ ?_<;>intro h1 h1p h1s;try simp only[Q,Pat.cs_len] at h1p
   exfalso;omega;try simp only[Q,Pat.cs_len] at h1p
   refine sq ?_ ?_<;>intro h2 h2p h2s;try simp only[Q,Pat.cs_len] at h2p
   refine sq ?_ ?_<;>intro h3 h3p h3s;try simp only[Q,Pat.cs_len] at h3p
   exfalso;apply h6;exact⟨by omega,by omega⟩;try simp only[Q,Pat.cs_len] at h3p
   refine ab 3003 tz28 ?_;refine so ty28 ?_;refine tv ?_;refine so ty26 ?_;refine tv ?_;refine xam 3003 5 7 6 rfl rfl rfl rfl ?_;refine xaj (ι:=List (Pat)×List (Pat)) hk (fun x=>[(4,.d (.i (x.1.length:Int)))]) [23,24,25,26,27,28,29,30,31,32,33,34,35,36,37,38,39,40] (fun x=>[(3003,some (.box [.d (.i p.op),.d (.i p.ctor),.d (.i p.n),.d (.i p.m),.d (.i p.var),.gl 7 ((x.1.map zau).map Pat.cc)])),(7,some (.tok ((x.1.map zau).map Pat.cc).length 6))]) (fun x=>x.1++x.2=p.kids) (fun x=>x.2.length) ([],p.kids) (by simp) ⟨⟨_,rfl,xap ?_⟩,trivial⟩ ⟨?_,⟨zab ?_,trivial⟩⟩ (fun x=>rfl) (fun x hg1=>?_);focus ((simp;done))
   focus (first|rfl|(simp[getH];done))
   focus ((simp;done))
   obtain⟨pre,rest⟩:=x;dsimp only at hg1 ⊢;refine evc [] [] ?_;refine sq ?_ ?_<;>intro h4 h4p h4s;try simp only[Q,Pat.cs_len] at h4p
   rcases rest with _|⟨y,rest⟩
   ·exfalso;simp_all
   refine xaT sl26 .none rfl rfl rfl rfl (Pat.cs_at' hg1) rfl ?_;refine evd [] [] ?_;refine wc zp4 (zc8 n (p:=y) (by have:=Pats.size_mem (l:=p.kids) (v:=y) (by rw[←hg1];simp);omega) (Pats.ok_mem hok.2 y (by rw[←hg1];simp))) rfl rfl ?_;refine si [0] [_] sl26 tz28 ?_;refine ap sl26 zz28 rfl rfl rfl (by intro x hx;first|(simp at hx;subst hx;rfl)|exact zhr _ x hx) (by have:=congrArg List.length hg1;simp at this;simp;omega) ?_;refine evd [] [] ?_;refine so ty26 ?_;refine dr ?_;refine ar ?_;refine Exists.intro ((pre++[y],rest)) ⟨(by have hz:=hg1;rw[←hz];simp),(by simp),sx ⟨⟨_,rfl,xap ?_⟩,trivial⟩ ⟨?_,⟨zab ?_,trivial⟩⟩⟩;focus ((simp;done))
   focus (first|rfl|(simp[getH];done))
   focus ((simp;done))
   try simp only[Q,Pat.cs_len] at h4p
   have hrest:rest=[]:=by
    rcases rest with _|⟨a,b⟩
    ·rfl
    ·exfalso;have hz:=congrArg List.length (hg1);simp only[xaa,xab,xac] at hz;omega
   subst hrest;refine so ty28 ?_;refine tv ?_;refine rn0 (.cons (.cellA ty28 rfl rfl rfl) .nil) (.agg (.cons (.eqd ?_) (.cons (.eqd ?_) (.cons (.eqd ?_) (.cons (.eqd ?_) (.cons (.eqd ?_) (.cons (.gld ?_) .nil)))))));rotate_left 6;try simp only[Q,Pat.cs_len] at h2p
   refine ab 3003 tz28 ?_;refine so ty28 ?_;refine tv ?_;refine so ty26 ?_;refine tv ?_;refine xam 3003 5 7 6 rfl rfl rfl rfl ?_;refine xaj (ι:=List (Pat)×List (Pat)) hk (fun x=>[(4,.d (.i (x.1.length:Int)))]) [23,24,25,26,27,28,29,30,31,32,33,34,35,36,37,38,39,40] (fun x=>[(3003,some (.box [.d (.i p.op),.d (.i p.ctor),.d (.i p.n),.d (.i p.m),.d (.i p.var),.gl 7 ((x.1.map zau).map Pat.cc)])),(7,some (.tok ((x.1.map zau).map Pat.cc).length 6))]) (fun x=>x.1++x.2=p.kids) (fun x=>x.2.length) ([],p.kids) (by simp) ⟨⟨_,rfl,xap ?_⟩,trivial⟩ ⟨?_,⟨zab ?_,trivial⟩⟩ (fun x=>rfl) (fun x hg1=>?_);focus ((simp;done))
   focus (first|rfl|(simp[getH];done))
   focus ((simp;done))
   obtain⟨pre,rest⟩:=x;dsimp only at hg1 ⊢;refine evc [] [] ?_;refine sq ?_ ?_<;>intro h5 h5p h5s;try simp only[Q,Pat.cs_len] at h5p
   rcases rest with _|⟨y,rest⟩
   ·exfalso;simp_all
   refine xaT sl26 .none rfl rfl rfl rfl (Pat.cs_at' hg1) rfl ?_;refine evd [] [] ?_;refine wc zp4 (zc8 n (p:=y) (by have:=Pats.size_mem (l:=p.kids) (v:=y) (by rw[←hg1];simp);omega) (Pats.ok_mem hok.2 y (by rw[←hg1];simp))) rfl rfl ?_;refine si [0] [_] sl26 tz28 ?_;refine ap sl26 zz28 rfl rfl rfl (by intro x hx;first|(simp at hx;subst hx;rfl)|exact zhr _ x hx) (by have:=congrArg List.length hg1;simp at this;simp;omega) ?_;refine evd [] [] ?_;refine so ty26 ?_;refine dr ?_;refine ar ?_;refine Exists.intro ((pre++[y],rest)) ⟨(by have hz:=hg1;rw[←hz];simp),(by simp),sx ⟨⟨_,rfl,xap ?_⟩,trivial⟩ ⟨?_,⟨zab ?_,trivial⟩⟩⟩;focus ((simp;done))
   focus (first|rfl|(simp[getH];done))
   focus ((simp;done))
   try simp only[Q,Pat.cs_len] at h5p
   have hrest:rest=[]:=by
    rcases rest with _|⟨a,b⟩
    ·rfl
    ·exfalso;have hz:=congrArg List.length (hg1);simp only[xaa,xab,xac] at hz;omega
   subst hrest;refine so ty28 ?_;refine tv ?_;refine rn0 (.cons (.cellA ty28 rfl rfl rfl) .nil) (.agg (.cons (.eqd ?_) (.cons (.eqd ?_) (.cons (.eqd ?_) (.cons (.eqd ?_) (.cons (.eqd ?_) (.cons (.gld ?_) .nil)))))));rotate_left 6;all_goals (first|rfl|(rw[List.append_nil] at hg1;rw[←hg1,xat];done)|(rw[List.append_nil] at hg1;subst hg1;rw[←xat];all_goals rfl))
theorem zmq {ls:List (List Pat)} (hl:ls.length≤1000000000000) (hls:∀l∈ls,l.length≤1000000000000):FnD Tryz.prog 187 [.d (zjd ls)] [] (.d (zjd (tupQ 400 ls))) []:=by
 refine bd Tryz.f187 62 [] [] fun w0 F0 own kept hk=>?_;refine xbg sl26 .none rfl ?_;refine si [0] [_] zed tz26 ?_;refine ev ?_;refine xaj (ι:=List (List Pat)×List (List Pat)) hk (fun x=>[(4,.d (.i (x.1.length:Int))),(3,.d (.sl ((tupQ 400 x.1).map zh6)))]) [5,6,7,10,11,12,13,14,15,16,17,18,19,20,21,22,23,24,25,26,27,28,29,30,31,32,33,34,35,36,37,38,39,40,41,42,43,44,45,46,47,48,49,50,51,52,53,54,55,56,57,58,59,60] (fun x=>[]) (fun x=>x.1++x.2=ls) (fun x=>x.2.length) ([],ls) (by simp) ⟨⟨_,rfl,xap ?_⟩,⟨⟨_,rfl, ?_⟩,trivial⟩⟩ trivial (fun x=>rfl) (fun x hg1=>?_);focus (first|rfl|(simp;done))
 focus (first|exact LeA.refl _|((first|refine LeA.gld ?_|refine LeA.nild ?_);first|rfl|(simp;done)|(rw[zkZ,zoI,zoh (by omega)])))
 obtain⟨pre,rest⟩:=x;dsimp only at hg1 ⊢;refine evc [] [] ?_;refine sq ?_ ?_<;>intro h1 h1p h1s;try simp only[Q,Pat.cs_len,Int.ofNat_lt,Int.ofNat_le] at h1p
 rcases rest with _|⟨l,rest⟩
 ·exfalso;simp_all
 have hll:=hls l (by rw[←hg1];simp);have htl:=zrJ 400 pre;refine xbh 3 zed .none rfl rfl ?_;refine ev ?_;refine xaj (ι:=Nat) hk (fun k=>[(6,.d (.i (k:Int))),(5,.gl 3 (((((tupQ 400 pre).take k).flatMap (zlm l)).take (400+1)).map zh6))]) [7,17,18,19,20,21,22,23,24,25,26,27,28,29,30,31,32,33,34,35,36,37,38,39,40,41,42,43,44,45,46,47,48,49,50,51,52,53,54,55,56,57,58,59] (fun k=>[(3,some (.tok ((((((tupQ 400 pre).take k).flatMap (zlm l)).take (400+1)).map zh6)).length 1))]) (fun k=>k≤(tupQ 400 pre).length) (fun k=>(tupQ 400 pre).length-k) 0 (by simp) ⟨⟨_,rfl,xap ?_⟩,⟨⟨_,rfl,LeA.glg ?_⟩,trivial⟩⟩ ⟨zab ?_,trivial⟩ (fun x=>rfl) (fun k hg2=>?_);iterate 3 focus (first|rfl|(simp;done))
 refine evc [] [] ?_;refine sq ?_ ?_<;>intro h2 h2p h2s;try simp only[Q,Pat.cs_len,Int.ofNat_lt,Int.ofNat_le] at h2p
 refine sq ?_ ?_<;>intro h3 h3p h3s;try simp only[Q,Pat.cs_len,Int.ofNat_lt,Int.ofNat_le] at h3p
 refine xaj (ι:=Nat) hk (fun j=>[(7,.d (.i (j:Int))),(5,.gl 3 (((((tupQ 400 pre).take k).flatMap (zlm l)++(l.take j).map (fun y=>nth (tupQ 400 pre) k++[y])).take (400+1)).map zh6))]) [28,29,30,31,32,33,34,35,36,37,38,39,40,41,42,43,44,45,46,47,48,49,50,51,52,53,54,55,56,57,58,59] (fun j=>[(3,some (.tok ((((((tupQ 400 pre).take k).flatMap (zlm l)++(l.take j).map (fun y=>nth (tupQ 400 pre) k++[y])).take (400+1)).map zh6)).length 1))]) (fun j=>j≤l.length) (fun j=>l.length-j) 0 (by simp) ⟨⟨_,rfl,xap ?_⟩,⟨⟨_,rfl,LeA.glg ?_⟩,trivial⟩⟩ ⟨zab ?_,trivial⟩ (fun x=>rfl) (fun j hg3=>?_);iterate 3 focus (first|rfl|(simp;done))
 have hol:=zrK 400 (zaf (l:=tupQ 400 pre) (i:=k) (by omega));refine evc [] [] ?_;refine xaT zed .none rfl rfl rfl rfl (by first|exact zaL hg1|exact zat (by omega)) rfl ?_;refine ev ?_;refine sq ?_ ?_<;>intro h4 h4p h4s;try simp only[Q,Pat.cs_len,Int.ofNat_lt,Int.ofNat_le] at h4p
 refine sq ?_ ?_<;>intro h5 h5p h5s;try simp only[Q,Pat.cs_len,Int.ofNat_lt,Int.ofNat_le] at h5p
 refine xbh 5 sl26 .none rfl rfl ?_;refine evd [] [] ?_;refine xaT zed .none rfl rfl rfl rfl (by first|exact zaL hg1|exact zat (by omega)) rfl ?_;refine evd [] [] ?_;refine ap sl26 zz28 rfl rfl rfl (by intro z hz;first|(rw[xat] at hz;obtain⟨_,_,rfl⟩:=List.mem_map.1 hz;rfl)|(simp at hz;rw[hz];rfl)) (by first|(simp only[xac,xaa,xab,xah,Pat.cs_len] at *;omega)) ?_;refine evd [] [] ?_;refine xaT zed .none rfl rfl rfl rfl (by first|exact zaL hg1|exact zat (by omega)) rfl ?_;refine evd [] [] ?_;refine xaT sl26 .none rfl rfl rfl rfl (zaE (by omega)) rfl ?_;refine evd [] [] ?_;refine si [0] [_] sl26 tz28 ?_;refine ap sl26 zz28 rfl rfl rfl (by intro z hz;first|(rw[xat] at hz;obtain⟨_,_,rfl⟩:=List.mem_map.1 hz;rfl)|(simp at hz;rw[hz];rfl)) (by first|(simp only[xac,xaa,xab,xah,Pat.cs_len] at *;omega)) ?_;refine si [0] [_] zed tz26 ?_;refine ap zed zz26 rfl rfl rfl (by intro z hz;first|(rw[xat] at hz;obtain⟨_,_,rfl⟩:=List.mem_map.1 hz;rfl)|(simp at hz;rw[hz];rfl)) (by first|(simp only[xac,xaa,xab,xah,Pat.cs_len] at *;omega)) ?_;refine evd [] [] ?_;refine dr ?_;refine ar ?_;refine Exists.intro (j+1) ⟨?_, ?_,sx ⟨⟨_,rfl,xap ?_⟩,⟨⟨_,rfl,LeA.glg ?_⟩,trivial⟩⟩ ⟨zab ?_,trivial⟩⟩;iterate 2 focus (first|omega|(simp_all;done))
 iterate 3 focus (first|rfl|(simp;done)|(rw[zxc (by omega) (by omega),xaf];simp[xat];done))
 try simp only[Q,Pat.cs_len,Int.ofNat_lt,Int.ofNat_le] at h5p
 refine ar ?_;refine Exists.intro (k+1) ⟨?_, ?_,sx ⟨⟨_,rfl,xap ?_⟩,⟨⟨_,rfl,LeA.glg ?_⟩,trivial⟩⟩ ⟨zab ?_,trivial⟩⟩;iterate 2 focus (first|omega|(simp_all;done))
 iterate 3 focus (first|rfl|(simp;done)|(rw[zsw (by omega),zrH (by omega)]))
 try simp only[Q,Pat.cs_len,Int.ofNat_lt,Int.ofNat_le] at h4p
 refine sqF ?_;refine ar ?_;refine Exists.intro (k+1) ⟨?_, ?_,sx ⟨⟨_,rfl,xap ?_⟩,⟨⟨_,rfl,LeA.glg ?_⟩,trivial⟩⟩ ⟨zab ?_,trivial⟩⟩;iterate 2 focus (first|omega|(simp_all;done))
 iterate 3 focus (first|rfl|(simp;done)|(rw[zsw (by omega),zrH (by omega)]))
 try simp only[Q,Pat.cs_len,Int.ofNat_lt,Int.ofNat_le] at h3p
 refine ar ?_;refine Exists.intro ((pre++[l],rest)) ⟨(by have hz:=hg1;rw[←hz];simp),(by simp),sx ⟨⟨_,rfl,xap ?_⟩,⟨⟨_,rfl, ?_⟩,trivial⟩⟩ trivial⟩;focus (first|rfl|(simp;done))
 focus (first|exact LeA.refl _|((first|refine LeA.gld ?_|refine LeA.nild ?_);first|rfl|(simp;done)|(rw[zkZ,zoI,zoh (by omega)])))
 try simp only[Q,Pat.cs_len,Int.ofNat_lt,Int.ofNat_le] at h2p
 refine sqF ?_;refine ar ?_;refine Exists.intro ((pre++[l],rest)) ⟨(by have hz:=hg1;rw[←hz];simp),(by simp),sx ⟨⟨_,rfl,xap ?_⟩,⟨⟨_,rfl, ?_⟩,trivial⟩⟩ trivial⟩;focus (first|rfl|(simp;done))
 focus (first|exact LeA.refl _|((first|refine LeA.gld ?_|refine LeA.nild ?_);first|rfl|(simp;done)|(rw[zkZ,zoI,zoh (by omega)])))
 try simp only[Q,Pat.cs_len,Int.ofNat_lt,Int.ofNat_le] at h1p
 have hrest:rest=[]:=by
  rcases rest with _|⟨a,b⟩
  ·rfl
  ·exfalso;have hz:=congrArg List.length (hg1);simp only[xaa,xab,xac] at hz;omega
 subst hrest;refine rn0 (r1 rfl) (.eqd ?_);rotate_left;all_goals ((rw[List.append_nil] at hg1);subst hg1;rfl)
theorem zeh:∀(n:Nat){p:Pat},binP n p=true→p.ok→FnD Tryz.prog 142 [.agg [.d (.i p.op),.d (.i p.ctor),.d (.i p.n),.d (.i p.m),.d (.i p.var),.d (zac p.kids)]] [] (.gv 9 (Pat.cs (zaZ p))) [(9,some (.tok (Pat.cs (zaZ p)).length 6))]
 |0,p,h,_=>by simp[binP] at h
 |n+1,p,h,hok=>by
  have hok':=(Pat.ok_iff p).1 hok;have hok1:=hok'.1;by_cases h5:p.op=5
  ·have hl:=zk6 h h5;have e5:=zvY h5 hl;have l0:=zjA (nth p.kids 0);have l1:=zjA (nth p.kids 1);have c0:=zeh n (zd5 h (i:=0) (by omega)) (Pats.ok_mem hok'.2 _ (zaf (by omega)));have c1:=FnD.gvD (zeh n (zd5 h (i:=1) (by omega)) (Pats.ok_mem hok'.2 _ (zaf (by omega))));rw[e5];generalize zaZ (nth p.kids 0)=A at *;generalize zaZ (nth p.kids 1)=C at *;by_cases hlen:(A++C).length≤401
   ·rw[List.take_of_length_le hlen];rw[xaa] at hlen;refine bd Tryz.f142 67 [25] [] fun w0 F0 own kept hk=>?_;refine bx 3001 ?_;refine evs [25] [] ?_;refine sq ?_ ?_<;>intro h1 h1p h1s;try simp only[Q,Pat.cs_len,xaa] at h1p
    refine xaT (i:=0) sl26 .none rfl rfl rfl rfl (zaE (by omega)) rfl ?_;refine evd [25] [] ?_;refine Walk.call (cr:=[9]) ziC (c0) rfl .none rfl rfl (LeL.refl _) trivial rfl rfl rfl ?_;refine evd [25] [] ?_;refine xaT (i:=1) sl26 .none rfl rfl rfl rfl (zaE (by omega)) rfl ?_;refine evd [25] [] ?_;refine wc ziC (c1) rfl rfl ?_;refine xaA sl26 zz28 .none rfl rfl rfl rfl (zfD rfl (by(simp;done))) (by intro x hx;exact zbO _ x hx) (by simp[Pat.cs_len];omega) (by simp[Pat.cs_len];omega) ?_;refine evd [25] [] ?_;refine dr ?_;refine Walk.lenV sl26 .none rfl rfl ?_;refine evs [25] [] ?_;refine sq ?_ ?_<;>intro h2 h2p h2s;try simp only[Q,Pat.cs_len,xaa] at h2p
    exfalso;omega;try simp only[Q,Pat.cs_len,xaa] at h2p
    refine rn [(9,some (.tok (Pat.cs (A++C)).length 6))] (r1 rfl) (.gvg ?_) ⟨rfl,rfl⟩ (SubH.get ⟨?_,trivial⟩) (zaz rfl);rotate_left 2;try simp only[Q,Pat.cs_len,xaa] at h1p
    exfalso;omega;all_goals (first|((first|rfl|(simp[xat];done));done)|(first|rfl|(simp[xat];rfl)))
   ·have c8:=FnD.gvRen 8 c0;rw[xaa] at hlen;refine bd Tryz.f142 67 [25] [] fun w0 F0 own kept hk=>?_;refine bx 3001 ?_;refine evs [25] [] ?_;refine sq ?_ ?_<;>intro h1 h1p h1s;try simp only[Q,Pat.cs_len,xaa] at h1p
    refine xaT (i:=0) sl26 .none rfl rfl rfl rfl (zaE (by omega)) rfl ?_;refine evd [25] [] ?_;refine Walk.call (cr:=[8]) ziC (c8) rfl .none rfl rfl (LeL.refl _) trivial rfl rfl rfl ?_;refine evd [25] [] ?_;refine xaT (i:=1) sl26 .none rfl rfl rfl rfl (zaE (by omega)) rfl ?_;refine evd [25] [] ?_;refine wc ziC (c1) rfl rfl ?_;refine xaA sl26 zz28 .none rfl rfl rfl rfl (zfD rfl (by(simp;done))) (by intro x hx;exact zbO _ x hx) (by simp[Pat.cs_len];omega) (by simp[Pat.cs_len];omega) ?_;refine evd [25] [] ?_;refine dr ?_;refine Walk.lenV sl26 .none rfl rfl ?_;refine evs [25] [] ?_;refine sq ?_ ?_<;>intro h2 h2p h2s;try simp only[Q,Pat.cs_len,xaa] at h2p
    refine xaM 9 (b:=401) sl26 .none rfl rfl (zfD rfl (by(simp;done))) rfl rfl (by simp[Pat.cs_len];omega) (by simp[Pat.cs_len];omega) rfl ?_;refine evs [25] [] ?_;refine rn [(9,some (.tok (Pat.cs ((A++C).take 401)).length 6))] (r1 rfl) (.gvg ?_) ⟨rfl,rfl⟩ (SubH.get ⟨?_,trivial⟩) (zaz rfl);rotate_left 2;try simp only[Q,Pat.cs_len,xaa] at h2p
    exfalso;omega;try simp only[Q,Pat.cs_len,xaa] at h1p
    exfalso;omega;all_goals (first|((first|rfl|(simp[xat];done));done)|(first|rfl|(show some (Res.tok _ _)=some (Res.tok _ _);simp[Pat.cs_len];omega)))
  ·have hts:=zrJ 400 (p.kids.map zaZ);have htm:=fun(i:Nat) (hi:i<(tupQ 400 (p.kids.map zaZ)).length)=>zrK 400 (zaf hi);have ht3:=zmq (ls:=p.kids.map zaZ) (by rw[xac];omega) (fun l hl=>by obtain⟨x,_,rfl⟩:=List.mem_map.1 hl;have:=zjA x;omega);have hcal:=fun(i:Nat) (hi:i<p.kids.length)=>FnD.gvD (zeh n (zd5 h hi) (Pats.ok_mem hok'.2 _ (zaf hi)));have hpl:=fun(y:Pat) (pre rest:List Pat) (e:pre++y::rest=p.kids)=>(show pre.length<p.kids.length∧nth p.kids pre.length=y from⟨by have:=congrArg List.length e;simp at this;omega,zyd e⟩);have hcal2:=fun(y:Pat) (pre rest:List Pat) (e:pre++y::rest=p.kids)=>show FnD Tryz.prog 142 [.agg [.d (.i y.op),.d (.i y.ctor),.d (.i y.n),.d (.i y.m),.d (.i y.var),.d (zac y.kids)]] [] (.d (.sl (Pat.cs (zaZ y)))) [] from by
    have hq:=hcal pre.length (hpl y pre rest e).1;rw[(hpl y pre rest e).2] at hq;exact hq
   have ht3':=fun(pre:List Pat) (e:pre++[]=p.kids)=>show FnD Tryz.prog 187 [.d (zjd (pre.map zaZ))] [] (.d (zjd (tupQ 400 (p.kids.map zaZ)))) [] from by
    rw[List.append_nil] at e;rw[e];exact ht3
   rw[zvZ h5];refine bd Tryz.f142 67 [] [] fun w0 F0 own kept hk=>?_;refine bx 3001 ?_;refine ev ?_;refine sq ?_ ?_<;>intro h1 h1p h1s;try simp only[Q,Pat.cs_len] at h1p
   exfalso;omega;try simp only[Q,Pat.cs_len] at h1p
   refine xbh 4 zed .none rfl rfl ?_;refine ev ?_;refine xaj (ι:=List (Pat)×List (Pat)) hk (fun x=>[(5,.d (.i (x.1.length:Int))),(4,.gl 4 ((x.1.map zaZ).map zh6))]) [31,32,33,34,35,36,37,38,39,40,41,42,43,44,45,46] (fun x=>[(4,some (.tok (((x.1.map zaZ).map zh6)).length 1))]) (fun x=>x.1++x.2=p.kids) (fun x=>x.2.length) ([],p.kids) (by simp) ⟨⟨_,rfl,xap ?_⟩,⟨⟨_,rfl,LeA.glg ?_⟩,trivial⟩⟩ ⟨zab ?_,trivial⟩ (fun x=>rfl) (fun x hg1=>?_);iterate 3 focus ((simp;done))
   obtain⟨pre,rest⟩:=x;dsimp only at hg1 ⊢;refine evc [] [] ?_;refine sq ?_ ?_<;>intro h2 h2p h2s;try simp only[Q,Pat.cs_len] at h2p
   rcases rest with _|⟨y,rest⟩
   ·exfalso;simp_all
   refine xaT sl26 .none rfl rfl rfl rfl (Pat.cs_at' hg1) rfl ?_;refine ev ?_;refine wc ziC (hcal2 y pre rest hg1) rfl rfl ?_;refine si [0] [_] zed tz26 ?_;refine ap zed zz26 rfl rfl rfl (by intro x hx;first|(simp at hx;subst hx;rfl)|exact zhr _ x hx) (by first|(have:=congrArg List.length hg1;simp at this;simp;omega)|(simp;omega)) ?_;refine ev ?_;refine ar ?_;refine Exists.intro ((pre++[y],rest)) ⟨(by have hz:=hg1;rw[←hz];simp),(by simp),sx ⟨⟨_,rfl,xap ?_⟩,⟨⟨_,rfl,LeA.glg ?_⟩,trivial⟩⟩ ⟨zab ?_,trivial⟩⟩;iterate 3 focus ((simp;done))
   try simp only[Q,Pat.cs_len] at h2p
   have hrest:rest=[]:=by
    rcases rest with _|⟨a,b⟩
    ·rfl
    ·exfalso;have hz:=congrArg List.length (hg1);simp only[xaa,xab,xac] at hz;omega
   subst hrest;refine Walk.call (cr:=[]) zxL (ht3' pre hg1) rfl .none rfl rfl (.cons (.gl _ _) .nil) trivial rfl rfl rfl ?_;refine ev ?_;refine xbi 9 sl26 .none rfl rfl ?_;refine ev ?_;refine xaj (ι:=Nat) hk (fun k=>[(8,.d (.i (k:Int))),(7,.gv 9 ((((tupQ 400 (p.kids.map zaZ)).take k).map fun l=>Pat.mk p.op p.ctor p.n p.m p.var l).map Pat.cc))]) [9,50,51,52,53,54,55,56,57,58,59,60,61,62,63,64,65] (fun k=>[(9,some (.tok (((((tupQ 400 (p.kids.map zaZ)).take k).map fun l=>Pat.mk p.op p.ctor p.n p.m p.var l).map Pat.cc)).length 6))]) (fun k=>k≤(tupQ 400 (p.kids.map zaZ)).length) (fun k=>(tupQ 400 (p.kids.map zaZ)).length-k) 0 (by omega) ⟨⟨_,rfl,xap ?_⟩,⟨⟨_,rfl,LeA.gvg ?_⟩,trivial⟩⟩ ⟨zab ?_,trivial⟩ (fun x=>rfl) (fun k hg2=>?_);iterate 3 focus ((simp;done))
   refine evc [] [] ?_;refine sq ?_ ?_<;>intro h3 h3p h3s;try simp only[Q,Pat.cs_len] at h3p
   refine ab 3009 tz28 ?_;refine so ty28 ?_;refine tv ?_;refine xaT zed .none rfl rfl rfl rfl (zat (by omega)) rfl ?_;refine ev ?_;refine so ty26 ?_;refine tv ?_;refine si [0] [_] sl26 tz28 ?_;refine xaA sl26 zz28 .none rfl rfl rfl rfl (zfD rfl (by first|rfl|(simp;done))) (by intro x hx;first|(simp at hx;subst hx;rfl)|exact zhr _ x hx) (by first|(have:=congrArg List.length hg1;simp at this;simp;omega)|(simp;omega)) (by first|(have:=congrArg List.length hg1;simp at this;simp;omega)|(simp;omega)) ?_;refine ev ?_;refine ar ?_;refine Exists.intro (k+1) ⟨(by omega),(by omega),sx ⟨⟨_,rfl,xap ?_⟩,⟨⟨_,rfl,LeA.gvg ?_⟩,trivial⟩⟩ ⟨zab ?_,trivial⟩⟩;iterate 3 focus (first|(simp;done)|(rw[List.take_succ_eq_append_getElem (by omega),←zaQ (by omega)];simp[zca,zfm,mk_n,mk_m,zhL,za5];done))
   try simp only[Q,Pat.cs_len] at h3p
   refine rn [(9,some (.tok (Pat.cs ((tupQ 400 (p.kids.map zaZ)).map fun l=>Pat.mk p.op p.ctor p.n p.m p.var l)).length 6))] (r1 rfl) (.gvg ?_) ⟨rfl,rfl⟩ (SubH.get ⟨?_,trivial⟩) (zaz rfl);rotate_left 2;all_goals (first|((first|rfl|(obtain rfl:k=(tupQ 400 (p.kids.map zaZ)).length:=(by omega);rw[List.take_length,show Pat.cs ((tupQ 400 (p.kids.map zaZ)).map fun l=>Pat.mk p.op p.ctor p.n p.m p.var l)=((tupQ 400 (p.kids.map zaZ)).map fun l=>Pat.mk p.op p.ctor p.n p.m p.var l).map Pat.cc from xat _];done));done)|(first|rfl|(obtain rfl:k=(tupQ 400 (p.kids.map zaZ)).length:=(by omega);rw[List.take_length];simp[xat];rfl)|(obtain rfl:k=(tupQ 400 (p.kids.map zaZ)).length:=(by omega);rw[List.take_length,show Pat.cs ((tupQ 400 (p.kids.map zaZ)).map fun l=>Pat.mk p.op p.ctor p.n p.m p.var l)=((tupQ 400 (p.kids.map zaZ)).map fun l=>Pat.mk p.op p.ctor p.n p.m p.var l).map Pat.cc from xat _];rfl)))
theorem zim {w:List Data}{n:Nat}{t:Ty}{p:Pat} (h:zao w n t p=true) (hok:p.ok):FnD Tryz.prog 87 [.agg [.d (.i p.op),.d (.i p.ctor),.d (.i p.n),.d (.i p.m),.d (.i p.var),.d (zac p.kids)]] [] (.d (zac (zaZ (zau p)))) []:=by
 have hbp:=zc8 _ (Nat.le_refl _) hok;have hsp:=FnD.gvD (zeh n (zgH n h) (zk4 p hok));generalize zau p=b at *;refine bd Tryz.f87 6 [] [] fun w0 F0 own kept hk=>?_;refine bx 3001 ?_;refine ev ?_;refine wc zp4 (hbp) rfl rfl ?_;refine wc ziC (hsp) rfl rfl ?_;refine ev ?_;refine rn0 (r1 rfl) (.eqd ?_);rotate_left;all_goals (rfl)
theorem zhT {a b:Pat} (hn:0≤b.n∧b.n≤9) (hm:0≤b.m∧b.m≤9):FnD Tryz.prog 156 [.agg [.d (.i (a).op),.d (.i (a).ctor),.d (.i (a).n),.d (.i (a).m),.d (.i (a).var),.d (zac (a).kids)],.agg [.d (.i (b).op),.d (.i (b).ctor),.d (.i (b).n),.d (.i (b).m),.d (.i (b).var),.d (zac (b).kids)]] [] (.d (zac (zbP a.n (minQ a.m (b.n-1))++zbP (maxQ a.n (b.m+1)) a.m))) []:=by
 refine bd Tryz.f156 58 [] [] fun w0 F0 own kept hk=>?_;refine bx 3002 ?_;refine bx 3003 ?_;refine ev ?_;refine xbh 9 sl26 .none rfl rfl ?_;refine ev ?_;refine bu [0,2,3] [_,_,_] st28 ?_;refine ab 3006 tz28 ?_;refine so ty28 ?_;refine tv ?_;refine ar ?_;refine sq ?_ ?_<;>intro h1 h1p h1s;try simp only[Q] at h1p
 refine ar ?_;refine so ty3 ?_;refine tv ?_;refine sq ?_ ?_<;>intro h2 h2p h2s;try simp only[Q] at h2p
 refine si [0] [_] sl26 tz28 ?_;refine ap sl26 zz28 rfl rfl rfl (by intro x hx;simp at hx;subst hx;rfl) (by simp) ?_;refine ev ?_;refine bu [0,2,3] [_,_,_] st28 ?_;refine ab 3007 tz28 ?_;refine so ty28 ?_;refine tv ?_;refine ar ?_;refine sq ?_ ?_<;>intro h3 h3p h3s;try simp only[Q] at h3p
 refine ar ?_;refine so ty3 ?_;refine tv ?_;refine sq ?_ ?_<;>intro h4 h4p h4s;try simp only[Q] at h4p
 refine si [0] [_] sl26 tz28 ?_;refine ap sl26 zz28 rfl rfl rfl (by intro x hx;simp at hx;subst hx;rfl) (by simp) ?_;refine ev ?_;refine rn0 (r1 rfl) (.gld ?_);rotate_left;try simp only[Q] at h4p
 refine rn0 (r1 rfl) (.gld ?_);rotate_left;try simp only[Q] at h3p
 refine sq ?_ ?_<;>intro h5 h5p h5s;try simp only[Q] at h5p
 refine si [0] [_] sl26 tz28 ?_;refine ap sl26 zz28 rfl rfl rfl (by intro x hx;simp at hx;subst hx;rfl) (by simp) ?_;refine ev ?_;refine rn0 (r1 rfl) (.gld ?_);rotate_left;try simp only[Q] at h5p
 refine rn0 (r1 rfl) (.gld ?_);rotate_left;try simp only[Q] at h2p
 refine bu [0,2,3] [_,_,_] st28 ?_;refine ab 3007 tz28 ?_;refine so ty28 ?_;refine tv ?_;refine ar ?_;refine sq ?_ ?_<;>intro h6 h6p h6s;try simp only[Q] at h6p
 refine ar ?_;refine so ty3 ?_;refine tv ?_;refine sq ?_ ?_<;>intro h7 h7p h7s;try simp only[Q] at h7p
 refine si [0] [_] sl26 tz28 ?_;refine ap sl26 zz28 rfl rfl rfl (by intro x hx;simp at hx;subst hx;rfl) (by simp) ?_;refine ev ?_;refine rn0 (r1 rfl) (.gld ?_);rotate_left;try simp only[Q] at h7p
 refine rn0 (r1 rfl) (.gld ?_);rotate_left;try simp only[Q] at h6p
 refine sq ?_ ?_<;>intro h8 h8p h8s;try simp only[Q] at h8p
 refine si [0] [_] sl26 tz28 ?_;refine ap sl26 zz28 rfl rfl rfl (by intro x hx;simp at hx;subst hx;rfl) (by simp) ?_;refine ev ?_;refine rn0 (r1 rfl) (.gld ?_);rotate_left;try simp only[Q] at h8p
 refine rn0 (r1 rfl) (.gld ?_);rotate_left;try simp only[Q] at h1p
 refine sq ?_ ?_<;>intro h9 h9p h9s;try simp only[Q] at h9p
 refine si [0] [_] sl26 tz28 ?_;refine ap sl26 zz28 rfl rfl rfl (by intro x hx;simp at hx;subst hx;rfl) (by simp) ?_;refine ev ?_;refine bu [0,2,3] [_,_,_] st28 ?_;refine ab 3007 tz28 ?_;refine so ty28 ?_;refine tv ?_;refine ar ?_;refine sq ?_ ?_<;>intro h10 h10p h10s;try simp only[Q] at h10p
 refine ar ?_;refine so ty3 ?_;refine tv ?_;refine sq ?_ ?_<;>intro h11 h11p h11s;try simp only[Q] at h11p
 refine si [0] [_] sl26 tz28 ?_;refine ap sl26 zz28 rfl rfl rfl (by intro x hx;simp at hx;subst hx;rfl) (by simp) ?_;refine ev ?_;refine rn0 (r1 rfl) (.gld ?_);rotate_left;try simp only[Q] at h11p
 refine rn0 (r1 rfl) (.gld ?_);rotate_left;try simp only[Q] at h10p
 refine sq ?_ ?_<;>intro h12 h12p h12s;try simp only[Q] at h12p
 refine si [0] [_] sl26 tz28 ?_;refine ap sl26 zz28 rfl rfl rfl (by intro x hx;simp at hx;subst hx;rfl) (by simp) ?_;refine ev ?_;refine rn0 (r1 rfl) (.gld ?_);rotate_left;try simp only[Q] at h12p
 refine rn0 (r1 rfl) (.gld ?_);rotate_left;try simp only[Q] at h9p
 refine bu [0,2,3] [_,_,_] st28 ?_;refine ab 3007 tz28 ?_;refine so ty28 ?_;refine tv ?_;refine ar ?_;refine sq ?_ ?_<;>intro h13 h13p h13s;try simp only[Q] at h13p
 refine ar ?_;refine so ty3 ?_;refine tv ?_;refine sq ?_ ?_<;>intro h14 h14p h14s;try simp only[Q] at h14p
 refine si [0] [_] sl26 tz28 ?_;refine ap sl26 zz28 rfl rfl rfl (by intro x hx;simp at hx;subst hx;rfl) (by simp) ?_;refine ev ?_;refine rn0 (r1 rfl) (.gld ?_);rotate_left;try simp only[Q] at h14p
 refine rn0 (r1 rfl) (.gld ?_);rotate_left;try simp only[Q] at h13p
 refine sq ?_ ?_<;>intro h15 h15p h15s;try simp only[Q] at h15p
 refine si [0] [_] sl26 tz28 ?_;refine ap sl26 zz28 rfl rfl rfl (by intro x hx;simp at hx;subst hx;rfl) (by simp) ?_;refine ev ?_;refine rn0 (r1 rfl) (.gld ?_);rotate_left;try simp only[Q] at h15p
 refine rn0 (r1 rfl) (.gld ?_);rotate_left;all_goals (unfold minQ maxQ zbP;(repeat' split)<;>first|rfl|(exfalso;omega))
theorem zpW {w:List Data} (hw:WT w){a k c:Int} (ht:TyIn w.length ⟨a,k⟩) (hc:c∈zah w ⟨a,k⟩) (hl:(zaa w ⟨a,k⟩ c).length≤3):FnD Tryz.prog 158 [.d (zam w),.agg [.d (.i a),.d (.i k)],.d (.i c)] []
  (.agg [.d (.i 4),.d (.i c),.d (.i 0),.d (.i 0),.d (.i 0),.d (zac (zbI w ⟨a,k⟩ c).kids)]) []:=by
 refine bd Tryz.f158 29 [] [] fun w0 F0 own kept hk=>?_;refine bx 3004 ?_;refine ab 3006 tz28 ?_;refine tv ?_;refine bu [0,1] [_,_] st28 ?_;refine ab 3007 tz28 ?_;refine so ty28 ?_;refine tv ?_;refine wc zgy (zci hw ht hc) rfl rfl ?_;refine ev ?_;refine xam 3007 5 9 6 rfl rfl rfl rfl ?_;refine xaj (ι:=List (Ty)×List (Ty)) hk (fun x=>[(9,.d (.i (x.1.length:Int)))]) [16,17,18,19,20,21,22,23,24,25,26,27] (fun x=>[(3007,some (.box [.d (.i 4),.d (.i c),.d (.i 0),.d (.i 0),.d (.i 0),.gl 9 ((x.1.map fun _=>anyQ).map Pat.cc)])),(9,some (.tok ((x.1.map fun _=>anyQ).map Pat.cc).length 6))]) (fun x=>x.1++x.2=zaa w ⟨a,k⟩ c) (fun x=>x.2.length) ([],zaa w ⟨a,k⟩ c) (by simp) ⟨⟨_,rfl,xap ?_⟩,trivial⟩ ⟨?_,⟨zab ?_,trivial⟩⟩ (fun x=>rfl) (fun x hg1=>?_);focus (rfl)
 focus (rfl)
 focus (rfl)
 obtain⟨pre,rest⟩:=x;dsimp only at hg1 ⊢;refine evc [] [] ?_;refine sq ?_ ?_<;>intro h1 h1p h1s;try simp only[Q] at h1p
 rcases rest with _|⟨y,rest⟩
 ·exfalso;simp_all
 refine wc zxv (zpU) rfl rfl ?_;refine si [0] [_] sl26 tz28 ?_;refine ap sl26 zz28 rfl rfl rfl (by intro x hx;(simp at hx;subst hx;rfl)) (by have:=congrArg List.length hg1;simp at this;simp;omega) ?_;refine evd [] [] ?_;refine so ty26 ?_;refine dr ?_;refine ar ?_;refine Exists.intro ((pre++[y],rest)) ⟨(by have hz:=hg1;rw[←hz];simp),(by simp),sx ⟨⟨_,rfl,xap ?_⟩,trivial⟩ ⟨?_,⟨zab ?_,trivial⟩⟩⟩;focus ((simp;done))
 focus ((simp[getH];exact⟨rfl,rfl,rfl,rfl,rfl,rfl⟩))
 focus ((simp;done))
 try simp only[Q] at h1p
 have hrest:rest=[]:=by
  rcases rest with _|⟨a,b⟩
  ·rfl
  ·exfalso;have hz:=congrArg List.length (hg1);simp only[xaa,xab,xac] at hz;omega
 subst hrest;refine so ty28 ?_;refine tv ?_;refine rn0 (.cons (.cellA ty28 rfl rfl rfl) .nil) (.agg (.cons (.eqd ?_) (.cons (.eqd ?_) (.cons (.eqd ?_) (.cons (.eqd ?_) (.cons (.eqd ?_) (.cons (.gld ?_) .nil)))))));rotate_left 6;all_goals (first|rfl|(rw[List.append_nil] at hg1;subst hg1;rw[←xat];all_goals rfl))
def zdS (n:Nat) (a b:Pat):Pat:=if a.op=3∧b.op≠1 then intQ (maxQ a.n b.n) (minQ a.m b.m) else zcL n a b
theorem zop {n:Nat}{a b:Pat} (h:¬(a.op=3∧b.op≠1)):zdS n a b=zcL n a b:=if_neg h
theorem zq5 {n:Nat}{a b:Pat} (h:(zax n a b).isSome=true):zdS n a b=zcL n a b:=by
 unfold zdS;split
 ·rename_i h3;cases n with
  |zero=>simp[zax] at h
  |succ n=>
   have e:=ziM (n:=n) h3.1 h3.2;rw[e] at h;split at h
   ·rename_i hr;rw[if_pos hr] at e;exact(zcs e).symm
   ·cases h
 ·rfl
theorem ziZ {w:List Data} (hs:Spa w):∀(n m:Nat){t:Ty}{a b:Pat},m≤n→InS (w.length*4) t→zae w m t a=true→zae w m t b=true→
  FnD Tryz.prog 67 [.agg [.d (.i (a).op),.d (.i (a).ctor),.d (.i (a).n),.d (.i (a).m),.d (.i (a).var),.d (zac (a).kids)],.agg [.d (.i (b).op),.d (.i (b).ctor),.d (.i (b).n),.d (.i (b).m),.d (.i (b).var),.d (zac (b).kids)]] [] (.tup [.agg [.d (.i (zdS n a b).op),.d (.i (zdS n a b).ctor),.d (.i (zdS n a b).n),.d (.i (zdS n a b).m),.d (.i (zdS n a b).var),.d (zac (zdS n a b).kids)],.d (.bool (zax n a b).isSome)]) []
 |n,0,t,a,b,_,_,ha,_=>by simp[zae] at ha
 |0,m+1,t,a,b,h,_,_,_=>by omega
 |n+1,m+1,t,a,b,hnm,ht,ha,hb=>by
  by_cases h1:a.op=1
  ·have e:=zhJ (n:=n) (b:=b) h1;rw[zop (fun h=>by omega),zcs e,e];refine bd Tryz.f67 89 [] [] fun w0 F0 own kept hk=>?_;refine bx 3002 ?_;refine bx 3003 ?_;refine ab 3004 tz28 ?_;refine ev ?_;refine sq ?_ ?_<;>intro h1 h1p h1s;try simp only[Q] at h1p
   refine so ty28 ?_;refine ev ?_;refine rn0 (.cons (.cellA ty28 rfl rfl rfl) (.cons (.tmp rfl) .nil)) (.tup (.cons (.agg (.cons (.eqd ?_) (.cons (.eqd ?_) (.cons (.eqd ?_) (.cons (.eqd ?_) (.cons (.eqd ?_) (.cons (.eqd ?_) .nil))))))) (.cons (.eqd ?_) .nil)));rotate_left 7;try simp only[Q] at h1p
   exfalso;omega;all_goals (rfl)
  by_cases h2:b.op=1
  ·have e:=ziL (n:=n) h1 h2;rw[zop (fun h=>h.2 h2),zcs e,e];refine bd Tryz.f67 89 [] [] fun w0 F0 own kept hk=>?_;refine bx 3002 ?_;refine bx 3003 ?_;refine ab 3004 tz28 ?_;refine ev ?_;refine sq ?_ ?_<;>intro h1 h1p h1s;try simp only[Q] at h1p
   exfalso;omega;try simp only[Q] at h1p
   refine sq ?_ ?_<;>intro h2 h2p h2s;try simp only[Q] at h2p
   refine so ty28 ?_;refine ev ?_;refine rn0 (.cons (.cellA ty28 rfl rfl rfl) (.cons (.tmp rfl) .nil)) (.tup (.cons (.agg (.cons (.eqd ?_) (.cons (.eqd ?_) (.cons (.eqd ?_) (.cons (.eqd ?_) (.cons (.eqd ?_) (.cons (.eqd ?_) .nil))))))) (.cons (.eqd ?_) .nil)));rotate_left 7;try simp only[Q] at h2p
   exfalso;omega;all_goals (rfl)
  by_cases h3:a.op=3
  ·have e:=ziM (n:=n) h3 h2;have ez:zdS (n+1) a b=intQ (maxQ a.n b.n) (minQ a.m b.m):=if_pos ⟨h3,h2⟩;have eb:(zax (n+1) a b).isSome=decide (maxQ a.n b.n≤minQ a.m b.m):=by
    rw[e];by_cases hr:maxQ a.n b.n≤minQ a.m b.m
    ·rw[if_pos hr,decide_eq_true hr];rfl
    ·rw[if_neg hr,decide_eq_false hr];rfl
   rw[ez,eb];refine bd Tryz.f67 89 [] [] fun w0 F0 own kept hk=>?_;refine bx 3002 ?_;refine bx 3003 ?_;refine ab 3004 tz28 ?_;refine ev ?_;refine sq ?_ ?_<;>intro h1 h1p h1s;try simp only[Q] at h1p
   exfalso;omega;try simp only[Q] at h1p
   refine sq ?_ ?_<;>intro h2 h2p h2s;try simp only[Q] at h2p
   exfalso;omega;try simp only[Q] at h2p
   refine sq ?_ ?_<;>intro h3 h3p h3s;try simp only[Q] at h3p
   refine sq ?_ ?_<;>intro h4 h4p h4s;try simp only[Q] at h4p
   refine sq ?_ ?_<;>intro h5 h5p h5s;try simp only[Q] at h5p
   refine bu [0,2,3] [_,_,_] st28 ?_;refine ev ?_;refine so ty28 ?_;refine ev ?_;refine rn0 (.cons (.cellA ty28 rfl rfl rfl) (.cons (.tmp rfl) .nil)) (.tup (.cons (.agg (.cons (.eqd ?_) (.cons (.eqd ?_) (.cons (.eqd ?_) (.cons (.eqd ?_) (.cons (.eqd ?_) (.cons (.nild ?_) .nil))))))) (.cons (.eqd ?_) .nil)));rotate_left 7;try simp only[Q] at h5p
   refine bu [0,2,3] [_,_,_] st28 ?_;refine ev ?_;refine so ty28 ?_;refine ev ?_;refine rn0 (.cons (.cellA ty28 rfl rfl rfl) (.cons (.tmp rfl) .nil)) (.tup (.cons (.agg (.cons (.eqd ?_) (.cons (.eqd ?_) (.cons (.eqd ?_) (.cons (.eqd ?_) (.cons (.eqd ?_) (.cons (.nild ?_) .nil))))))) (.cons (.eqd ?_) .nil)));rotate_left 7;try simp only[Q] at h4p
   refine sq ?_ ?_<;>intro h6 h6p h6s;try simp only[Q] at h6p
   refine bu [0,2,3] [_,_,_] st28 ?_;refine ev ?_;refine so ty28 ?_;refine ev ?_;refine rn0 (.cons (.cellA ty28 rfl rfl rfl) (.cons (.tmp rfl) .nil)) (.tup (.cons (.agg (.cons (.eqd ?_) (.cons (.eqd ?_) (.cons (.eqd ?_) (.cons (.eqd ?_) (.cons (.eqd ?_) (.cons (.nild ?_) .nil))))))) (.cons (.eqd ?_) .nil)));rotate_left 7;try simp only[Q] at h6p
   refine bu [0,2,3] [_,_,_] st28 ?_;refine ev ?_;refine so ty28 ?_;refine ev ?_;refine rn0 (.cons (.cellA ty28 rfl rfl rfl) (.cons (.tmp rfl) .nil)) (.tup (.cons (.agg (.cons (.eqd ?_) (.cons (.eqd ?_) (.cons (.eqd ?_) (.cons (.eqd ?_) (.cons (.eqd ?_) (.cons (.nild ?_) .nil))))))) (.cons (.eqd ?_) .nil)));rotate_left 7;try simp only[Q] at h3p
   exfalso;omega;all_goals (first|rfl|((try simp only[zca,zfm,mk_n,mk_m,zhL,za5]);simp only[minQ,maxQ];(repeat' split)<;>first|rfl|(exfalso;omega)))
  have oa:=zbn ha;have h4:a.op=4:=by omega
  have h4b:b.op=4:=by have:=zdd ha hb h1 h2;omega
  have ez:zdS (n+1) a b=zcL (n+1) a b:=zop (fun h=>h3 h.1);by_cases hc:a.ctor=b.ctor
  ·obtain⟨c1,c2,c3,-⟩:=zaC ha h4;obtain⟨d1,d2,d3,-⟩:=zaC hb h4b;rw[←hc] at d3;have h3l:=hs.args t a.ctor ht c1;have ka:=fun i (hi:i<a.kids.length)=>zaT ha hi;have kb:=fun i (hi:i<b.kids.length)=>zaT hb hi;rw[za2 h4] at ka;rw[za2 h4b,←hc] at kb;have e:=zhK (n:=n) h4 h2 hc;have hlen:a.kids.length=b.kids.length:=by omega
   have ih:=fun i (hi:i<a.kids.length)=>ziZ hs n m (t:=nth (zaa w t a.ctor) i) (a:=nth a.kids i) (b:=nth b.kids i) (by omega) (zbo hs.dp ht c1 _ (zaf (by omega))) (ka i (by omega)) (kb i (by omega));have key:∀(i:Nat) (acc:List Pat),i<a.kids.length→(zax n (nth a.kids i) (nth b.kids i)).isSome=true→zbK (zax n) (a.kids.drop i) (b.kids.drop i) acc=zbK (zax n) (a.kids.drop (i+1)) (b.kids.drop (i+1)) (acc++[zdS n (nth a.kids i) (nth b.kids i)]):=fun i acc hi h=>by
    rw[zq5 h];exact zni hi (by omega) (zga h)
   rw[ez];refine bd Tryz.f67 89 [] [] fun w0 F0 own kept hk=>?_;refine bx 3002 ?_;refine bx 3003 ?_;refine ab 3004 tz28 ?_;refine ev ?_;refine sq ?_ ?_<;>intro h1 h1p h1s;try simp only[Q,Pat.cs_len] at h1p
   exfalso;omega;try simp only[Q,Pat.cs_len] at h1p
   refine sq ?_ ?_<;>intro h2 h2p h2s;try simp only[Q,Pat.cs_len] at h2p
   exfalso;omega;try simp only[Q,Pat.cs_len] at h2p
   refine sq ?_ ?_<;>intro h3 h3p h3s;try simp only[Q,Pat.cs_len] at h3p
   exfalso;omega;try simp only[Q,Pat.cs_len] at h3p
   refine sq ?_ ?_<;>intro h4 h4p h4s;try simp only[Q,Pat.cs_len] at h4p
   exfalso;omega;try simp only[Q,Pat.cs_len] at h4p
   refine bu [0,1] [_,_] st28 ?_;refine ab 3008 tz28 ?_;refine so ty28 ?_;refine tv ?_;refine xam 3008 5 9 6 rfl rfl rfl rfl ?_;refine xaj (ι:=Nat×List Pat) hk (fun x=>[(9,.d (.i (x.1:Int)))]) [5,10,11,58,59,60,61,62,63,64,65,66,67,68,69,70,71,72,73,74,75,76,77,78,79,80,81,82,83,84,85,86,87] (fun x=>[(3008,some (.box [.d (.i 4),.d (.i a.ctor),.d (.i 0),.d (.i 0),.d (.i 0),.gl 9 (x.2.map Pat.cc)])),(9,some (.tok (x.2.map Pat.cc).length 6))]) (fun x=>x.1≤a.kids.length∧x.2.length=x.1∧zbK (zax n) (a.kids.drop x.1) (b.kids.drop x.1) x.2=zbK (zax n) a.kids b.kids []) (fun x=>a.kids.length-x.1) (0,[]) ⟨by simp,rfl,rfl⟩ ⟨⟨_,rfl,xap ?_⟩,trivial⟩ ⟨?_,⟨zab ?_,trivial⟩⟩ (fun x=>rfl) (fun x hg1=>?_);focus (rfl)
   focus (first|rfl|(simp[getH];done))
   focus (rfl)
   refine evc [] [] ?_;refine sq ?_ ?_<;>intro h5 h5p h5s;try simp only[Q,Pat.cs_len] at h5p
   refine xaT sl26 .none rfl rfl rfl rfl (zaE (by omega)) rfl ?_;refine evd [] [] ?_;refine xaT sl26 .none rfl rfl rfl rfl (zaE (by omega)) rfl ?_;refine evd [] [] ?_;refine wc zwg (ih x.1 (by omega)) rfl rfl ?_;refine evd [] [] ?_;refine ab 3010 tz28 ?_;refine so ty28 ?_;refine evd [] [] ?_;refine dr ?_;refine sq ?_ ?_<;>intro h6 h6p h6s;try simp only[Q,Pat.cs_len] at h6p
   refine bu [] [] st28 ?_;refine so ty28 ?_;refine ev ?_;refine rn0 (.cons (.cellA ty28 rfl rfl rfl) (.cons (.tmp rfl) .nil)) (.tup (.cons (.agg (.cons (.eqd ?_) (.cons (.eqd ?_) (.cons (.eqd ?_) (.cons (.eqd ?_) (.cons (.eqd ?_) (.cons (.nild ?_) .nil))))))) (.cons (.eqd ?_) .nil)));rotate_left 7;try simp only[Q,Pat.cs_len] at h6p
   refine si [0] [_] sl26 tz28 ?_;refine ap sl26 zz28 rfl rfl rfl (by intro x hx;(simp at hx;subst hx;rfl)) (by simp;omega) ?_;refine ev ?_;refine so ty26 ?_;refine tv ?_;refine ar ?_;refine Exists.intro ((x.1+1,x.2++[zdS n (nth a.kids x.1) (nth b.kids x.1)])) ⟨⟨by dsimp only;omega,by dsimp only;rw[xaa,hg1.2.1];rfl,by dsimp only;rw[←key x.1 x.2 (by omega) (by assumption)];exact hg1.2.2⟩,(by dsimp only;omega),sx ⟨⟨_,rfl,xap ?_⟩,trivial⟩ ⟨?_,⟨zab ?_,trivial⟩⟩⟩;focus (rfl)
   focus (first|rfl|(simp[getH];done))
   focus ((simp;done))
   try simp only[Q,Pat.cs_len] at h5p
   refine so ty28 ?_;refine ev ?_;refine rn0 (.cons (.cellA ty28 rfl rfl rfl) (.cons (.tmp rfl) .nil)) (.tup (.cons (.agg (.cons (.eqd ?_) (.cons (.eqd ?_) (.cons (.eqd ?_) (.cons (.eqd ?_) (.cons (.eqd ?_) (.cons (.gld ?_) .nil))))))) (.cons (.eqd ?_) .nil)));rotate_left 7;all_goals (first|(have e2:zax (n+1) a b=none:=(by rw[e,←hg1.2.2,znh (by omega) (by omega) (ziN (by assumption))];rfl);(first|rw[zfL e2]|rw[e2]);all_goals rfl)|(have e2:zax (n+1) a b=some (za8 a.ctor x.2):=(by rw[e,←hg1.2.2,zfk (by omega)];rfl);rw[zcs e2,xat];all_goals rfl)|(have e2:zax (n+1) a b=some (za8 a.ctor x.2):=(by rw[e,←hg1.2.2,zfk (by omega)];rfl);rw[zcs e2];all_goals rfl)|(have e2:zax (n+1) a b=some (za8 a.ctor x.2):=(by rw[e,←hg1.2.2,zfk (by omega)];rfl);rw[e2];all_goals rfl))
  ·skip
   have e:=zho (n:=n) h4 h2 hc;rw[ez,zfL e,e];refine bd Tryz.f67 89 [] [] fun w0 F0 own kept hk=>?_;refine bx 3002 ?_;refine bx 3003 ?_;refine ab 3004 tz28 ?_;refine ev ?_;refine sq ?_ ?_<;>intro h1 h1p h1s;try simp only[Q] at h1p
   exfalso;omega;try simp only[Q] at h1p
   refine sq ?_ ?_<;>intro h2 h2p h2s;try simp only[Q] at h2p
   exfalso;omega;try simp only[Q] at h2p
   refine sq ?_ ?_<;>intro h3 h3p h3s;try simp only[Q] at h3p
   exfalso;omega;try simp only[Q] at h3p
   refine sq ?_ ?_<;>intro h4 h4p h4s;try simp only[Q] at h4p
   refine bu [] [] st28 ?_;refine so ty28 ?_;refine ev ?_;refine rn0 (.cons (.cellA ty28 rfl rfl rfl) (.cons (.tmp rfl) .nil)) (.tup (.cons (.agg (.cons (.eqd ?_) (.cons (.eqd ?_) (.cons (.eqd ?_) (.cons (.eqd ?_) (.cons (.eqd ?_) (.cons (.nild ?_) .nil))))))) (.cons (.eqd ?_) .nil)));rotate_left 7;try simp only[Q] at h4p
   exfalso;omega;all_goals (rfl)
theorem zrb {f:Ty→Pat→Pat→List Pat}{c:Int}{ts:List Ty}{xs bs front:List Pat}{i:Nat} (h1:i<ts.length) (h2:i<xs.length) (h3:i<bs.length) (h:(zax 11 (nth xs i) (nth bs i)).isSome=true):
  zaR f c (ts.drop i) (xs.drop i) (bs.drop i) front=(f (nth ts i) (nth xs i) (nth bs i)).map (fun z=>za8 c (front++[z]++xs.drop (i+1)))++zaR f c (ts.drop (i+1)) (xs.drop (i+1)) (bs.drop (i+1)) (front++[zdS 11 (nth xs i) (nth bs i)]):=by
 rw[zq5 h];exact zlL h1 h2 h3 h
theorem zvl (c:Int) (L:List Pat):Pat.cc (za8 c L)=[D.i 4,D.i c,D.i 0,D.i 0,D.i 0,D.sl (L.map Pat.cc)]:=by
 show [D.i 4,D.i c,D.i 0,D.i 0,D.i 0,D.sl (Pat.cs L)]=_
 rw[xat]
section
variable {w:List Data}
abbrev MinusSp (w:List Data) (n:Nat) (ta tk:Int) (a b:Pat):Prop:=
 FnD Tryz.prog 100 [.d (zam w),.agg [.d (.i ta),.d (.i tk)],.agg [.d (.i (a).op),.d (.i (a).ctor),.d (.i (a).n),.d (.i (a).m),.d (.i (a).var),.d (zac (a).kids)],.agg [.d (.i (b).op),.d (.i (b).ctor),.d (.i (b).n),.d (.i (b).m),.d (.i (b).var),.d (zac (b).kids)]] [] (.d (zac (zaq w n ⟨ta,tk⟩ a b))) []
theorem zoG (hs:Spa w){n m:Nat} (hn:n+1≤10) (hm:m+1≤11) (hnm:n<m)
  (ih:∀ {ta tk:Int}{a b:Pat},InS (w.length*4) ⟨ta,tk⟩→zae w m ⟨ta,tk⟩ a=true→zae w n ⟨ta,tk⟩ b=true→MinusSp w n ta tk a b)
  {ta tk:Int}{a b:Pat} (ht:InS (w.length*4) ⟨ta,tk⟩) (ha:zae w (m+1) ⟨ta,tk⟩ a=true) (hb:zae w (n+1) ⟨ta,tk⟩ b=true) (h4:a.op=4) (h4b:b.op=4) (hc:a.ctor=b.ctor):
  FnD Tryz.prog 157 [.d (zam w),.agg [.d (.i ta),.d (.i tk)],.agg [.d (.i (a).op),.d (.i (a).ctor),.d (.i (a).n),.d (.i (a).m),.d (.i (a).var),.d (zac (a).kids)],.agg [.d (.i (b).op),.d (.i (b).ctor),.d (.i (b).n),.d (.i (b).m),.d (.i (b).var),.d (zac (b).kids)]] [] (.d (zac (zaq w (n+1) ⟨ta,tk⟩ a b))) []:=by
 obtain⟨c1,c2,c3,-⟩:=zaC ha h4;obtain⟨d1,d2,d3,-⟩:=zaC hb h4b;rw[←hc] at d3;have h3l:=hs.args ⟨ta,tk⟩ a.ctor ht c1;have ka:=fun i (hi:i<a.kids.length)=>zaT ha hi;have kb:=fun i (hi:i<b.kids.length)=>zaT hb hi;rw[za2 h4] at ka;rw[za2 h4b,←hc] at kb;have hbd:=zgd hs (n:=n+1) (m:=m+1) (by omega) hn ht ha hb;have e:zaq w (n+1) ⟨ta,tk⟩ a b=zaR (zaq w n) a.ctor (zaa w ⟨ta,tk⟩ a.ctor) a.kids b.kids []:=by rw[zcW h4b h4];exact if_pos hc
 have hins:=fun i (hi:i<(zaa w ⟨ta,tk⟩ a.ctor).length)=>zbo hs.dp ht c1 _ (zaf hi);have hmi:∀i,i<(zaa w ⟨ta,tk⟩ a.ctor).length→FnD Tryz.prog 100 [.d (zam w),.agg [.d (.i (nth (zaa w ⟨ta,tk⟩ a.ctor) i).data),.d (.i (nth (zaa w ⟨ta,tk⟩ a.ctor) i).index)],.agg [.d (.i (nth a.kids i).op),.d (.i (nth a.kids i).ctor),.d (.i (nth a.kids i).n),.d (.i (nth a.kids i).m),.d (.i (nth a.kids i).var),.d (zac (nth a.kids i).kids)],.agg [.d (.i (nth b.kids i).op),.d (.i (nth b.kids i).ctor),.d (.i (nth b.kids i).n),.d (.i (nth b.kids i).m),.d (.i (nth b.kids i).var),.d (zac (nth b.kids i).kids)]] [] (.d (zac (zaq w n (nth (zaa w ⟨ta,tk⟩ a.ctor) i) (nth a.kids i) (nth b.kids i)))) []:=fun i hi=>ih (ta:=(nth (zaa w ⟨ta,tk⟩ a.ctor) i).data) (tk:=(nth (zaa w ⟨ta,tk⟩ a.ctor) i).index) (hins i hi) (ka i (by omega)) (kb i (by omega));have hme:=fun i (hi:i<(zaa w ⟨ta,tk⟩ a.ctor).length)=>ziZ hs 11 m (t:=nth (zaa w ⟨ta,tk⟩ a.ctor) i) (by omega) (hins i hi) (ka i (by omega)) (zdc (by omega) (kb i (by omega)));rw[e] at hbd ⊢;have hT:∀i out front,i<(zaa w ⟨ta,tk⟩ a.ctor).length→out++zaR (zaq w n) a.ctor ((zaa w ⟨ta,tk⟩ a.ctor).drop i) (a.kids.drop i) (b.kids.drop i) front=zaR (zaq w n) a.ctor (zaa w ⟨ta,tk⟩ a.ctor) a.kids b.kids []→
   out.length+(zaq w n (nth (zaa w ⟨ta,tk⟩ a.ctor) i) (nth a.kids i) (nth b.kids i)).length≤20000000:=fun i out front hi h=>by
  rw[zic hi (by omega) (by omega)] at h;have:=congrArg List.length h;simp only[xaa,xac] at this;omega
 refine bd Tryz.f157 100 [] [] fun w0 F0 own kept hk=>?_;refine bx 3005 ?_;refine bx 3006 ?_;refine bx 3007 ?_;refine ev ?_;refine xbh 9 sl26 .none rfl rfl ?_;refine ev ?_;refine wc zgy (zci hs.dp.wt (zb2 ht) c1) rfl rfl ?_;refine ev ?_;refine xbh 8 sl26 .none rfl rfl ?_;refine ev ?_;refine xaj (ι:=Nat×List Pat×List Pat) hk (fun s=>[(12,.d (.i (s.1:Int))),(9,.gl 9 (s.2.1.map Pat.cc)),(11,.gl 8 (s.2.2.map Pat.cc))]) [8,13,14,15,16,17,25,26,27,28,29,30,31,32,33,34,35,36,37,38,39,40,41,42,43,44,45,46,47,48,49,50,51,52,53,54,55,56,57,58,59,60,61,62,63,64,65,66,67,68,69,70,71,72,73,74,75,76,77,78,79,80,81,82,83,84,85,86,87,88,89,90,91,92,93,94,95,96,97,98] (fun s=>[(9,some (.tok ((s.2.1.map Pat.cc)).length 6)),(8,some (.tok ((s.2.2.map Pat.cc)).length 6))]) (fun s=>s.1≤a.kids.length∧s.2.2.length=s.1∧s.2.1++zaR (zaq w n) a.ctor ((zaa w ⟨ta,tk⟩ a.ctor).drop s.1) (a.kids.drop s.1) (b.kids.drop s.1) s.2.2=zaR (zaq w n) a.ctor (zaa w ⟨ta,tk⟩ a.ctor) a.kids b.kids []) (fun s=>a.kids.length-s.1) (0,[],[]) ⟨by simp,rfl,rfl⟩ ⟨⟨_,rfl,xap ?_⟩,⟨⟨_,rfl,LeA.glg ?_⟩,⟨⟨_,rfl,LeA.glg ?_⟩,trivial⟩⟩⟩ ⟨zab ?_,⟨zab ?_,trivial⟩⟩ (fun x=>rfl) (fun s hg1=>?_);iterate 5 focus (rfl)
 refine evc [] [] ?_;refine sq ?_ ?_<;>intro h1 h1p h1s;try simp only[Q,Pat.cs_len] at h1p
 refine xaT zaY .none rfl rfl rfl rfl (zat (by omega)) rfl ?_;refine evd [] [] ?_;refine xaT sl26 .none rfl rfl rfl rfl (zaE (by omega)) rfl ?_;refine evd [] [] ?_;refine xaT sl26 .none rfl rfl rfl rfl (zaE (by omega)) rfl ?_;refine evd [] [] ?_;refine wc zqq (hmi s.1 (by omega)) rfl rfl ?_;refine evd [] [] ?_;refine dr ?_;refine xaj (ι:=List (Pat)×List (Pat)) hk (fun x=>[(14,.d (.i (x.1.length:Int))),(9,.gl 9 ((s.2.1++x.1.map (fun z=>za8 a.ctor (s.2.2++[z]++a.kids.drop (s.1+1)))).map Pat.cc))]) [15,47,48,49,50,51,52,53,54,55,56,57,58,59,60,61,62,63,64,65,66,67,68,69,70,71,72,73,74,75,76,77] (fun x=>[(9,some (.tok (((s.2.1++x.1.map (fun z=>za8 a.ctor (s.2.2++[z]++a.kids.drop (s.1+1)))).map Pat.cc)).length 6))]) (fun x=>x.1++x.2=(zaq w n (nth (zaa w ⟨ta,tk⟩ a.ctor) s.1) (nth a.kids s.1) (nth b.kids s.1))) (fun x=>x.2.length) ([],(zaq w n (nth (zaa w ⟨ta,tk⟩ a.ctor) s.1) (nth a.kids s.1) (nth b.kids s.1))) (by simp) ⟨⟨_,rfl,xap ?_⟩,⟨⟨_,rfl,LeA.glg ?_⟩,trivial⟩⟩ ⟨zab ?_,trivial⟩ (fun x=>rfl) (fun x hg2=>?_);iterate 3 focus ((simp;done))
 obtain⟨pre,rest⟩:=x;dsimp only at hg2 ⊢;refine evc [] [] ?_;refine sq ?_ ?_<;>intro h2 h2p h2s;try simp only[Q,Pat.cs_len] at h2p
 rcases rest with _|⟨y,rest⟩
 ·exfalso;simp_all
 refine xbh 7 sl26 .none rfl rfl ?_;refine evd [] [] ?_;refine ap sl26 zz28 rfl rfl rfl (by intro x hx;exact zhr _ x hx) (by(simp[Pat.cs_len];omega)) ?_;refine evd [] [] ?_;refine xaT sl26 .none rfl rfl rfl rfl (Pat.cs_at' hg2) rfl ?_;refine evd [] [] ?_;refine si [0] [_] sl26 tz28 ?_;refine ap sl26 zz28 rfl rfl rfl (by intro x hx;(simp at hx;subst hx;rfl)) (by(have h9:=hT s.1 s.2.1 s.2.2 (by omega) hg1.2.2;have h8:=congrArg List.length hg2;simp[Pat.cs_len] at h8 ⊢;omega)) ?_;refine bu [0,1,5] [_,_,_] st28 ?_;refine ab 3015 tz28 ?_;refine so ty28 ?_;refine dr ?_;refine ar ?_ (by(constructor<;>omega));refine xaO (b:=s.1+1) sl26 .none rfl rfl rfl (by intro x hx;exact zbO _ x hx) rfl rfl (by simp only[Pat.cs_len];omega) ?_;refine ap sl26 zz28 rfl rfl rfl (by intro x hx;exact zbO _ x (List.mem_of_mem_drop hx)) (by(have h9:=hT s.1 s.2.1 s.2.2 (by omega) hg1.2.2;have h8:=congrArg List.length hg2;simp[Pat.cs_len] at h8 ⊢;omega)) ?_;refine evd [] [] ?_;refine so ty26 ?_;refine dr ?_;refine si [0] [_] sl26 tz28 ?_;refine ap sl26 zz28 rfl rfl rfl (by intro x hx;(simp at hx;subst hx;rfl)) (by(have h9:=hT s.1 s.2.1 s.2.2 (by omega) hg1.2.2;have h8:=congrArg List.length hg2;simp[Pat.cs_len] at h8 ⊢;omega)) ?_;refine ev ?_;refine ar ?_ (by(have h9:=hT s.1 s.2.1 s.2.2 (by omega) hg1.2.2;have h8:=congrArg List.length hg2;simp only[xaa,xab] at h8;constructor<;>omega));refine Exists.intro ((pre++[y],rest)) ⟨(by have hz:=hg2;rw[←hz];simp),(by simp),sx ⟨⟨_,rfl,xap ?_⟩,⟨⟨_,rfl,LeA.glg ?_⟩,trivial⟩⟩ ⟨zab ?_,trivial⟩⟩;iterate 3 focus (first|(simp;done)|(simp only[xaf,List.append_assoc,xae,List.map_nil,zvl,xat a.kids,List.map_drop,List.nil_append,xag];done)|(simp;omega))
 try simp only[Q,Pat.cs_len] at h2p
 have hrest:rest=[]:=by
  rcases rest with _|⟨a,b⟩
  ·rfl
  ·exfalso;have hz:=congrArg List.length (hg2);simp only[xaa,xab,xac] at hz;omega
 subst hrest;refine xaT sl26 .none rfl rfl rfl rfl (zaE (by omega)) rfl ?_;refine evd [] [] ?_;refine xaT sl26 .none rfl rfl rfl rfl (zaE (by omega)) rfl ?_;refine evd [] [] ?_;refine wc zwg (hme s.1 (by omega)) rfl rfl ?_;refine evd [] [] ?_;refine ab 3016 tz28 ?_;refine so ty28 ?_;refine evd [] [] ?_;refine dr ?_;refine sq ?_ ?_<;>intro h3 h3p h3s;try simp only[Q,Pat.cs_len] at h3p
 refine rn0 (r1 rfl) (.gld ?_);rotate_left;try simp only[Q,Pat.cs_len] at h3p
 refine si [0] [_] sl26 tz28 ?_;refine ap sl26 zz28 rfl rfl rfl (by intro x hx;(simp at hx;subst hx;rfl)) (by(have h9:=hT s.1 s.2.1 s.2.2 (by omega) hg1.2.2;have h8:=congrArg List.length hg2;simp[Pat.cs_len] at h8 ⊢;omega)) ?_;refine ev ?_;refine ar ?_ (by(constructor<;>omega));refine Exists.intro ((s.1+1,s.2.1++(zaq w n (nth (zaa w ⟨ta,tk⟩ a.ctor) s.1) (nth a.kids s.1) (nth b.kids s.1)).map (fun z=>za8 a.ctor (s.2.2++[z]++a.kids.drop (s.1+1))),s.2.2++[zdS 11 (nth a.kids s.1) (nth b.kids s.1)])) ⟨⟨by dsimp only;omega,by dsimp only;rw[xaa,hg1.2.1];rfl,by dsimp only;rw[List.append_assoc,←zrb (by omega) (by omega) (by omega) (by assumption)];exact hg1.2.2⟩,(by dsimp only;omega),sx ⟨⟨_,rfl,xap ?_⟩,⟨⟨_,rfl,LeA.glg ?_⟩,⟨⟨_,rfl,LeA.glg ?_⟩,trivial⟩⟩⟩ ⟨zab ?_,⟨zab ?_,trivial⟩⟩⟩;iterate 5 focus ((simp_all;done))
 try simp only[Q,Pat.cs_len] at h1p
 refine rn0 (r1 rfl) (.gld ?_);rotate_left;all_goals (first|(rw[←hg1.2.2,znl (by omega),List.append_nil,xat];done)|(rw[List.append_nil] at hg2;rw[←hg1.2.2,zlJ (by omega) (by omega) (by omega) (by assumption),←hg2,xat];all_goals rfl))
theorem zry {n:Nat}{ta tk:Int}{a b:Pat} (h:b.op=1):MinusSp w (n+1) ta tk a b:=by
 unfold MinusSp;rw[zfl h];refine bd Tryz.f100 82 [] [] fun w0 F0 own kept hk=>?_;refine bx 3005 ?_;refine bx 3006 ?_;refine bx 3007 ?_;refine ev ?_;refine sq ?_ ?_<;>intro h1 h1p h1s;try simp only[Q] at h1p
 refine xbg sl26 .none rfl ?_;refine ev ?_;refine rn0 (r1 rfl) (.eqd ?_);rotate_left;try simp only[Q] at h1p
 exfalso;omega;all_goals (rfl)
theorem zrz {n:Nat}{ta tk:Int}{a b:Pat} (h:b.op=3) (ha:a.op=1∨a.op=3) (hbn:0≤b.n∧b.n≤9) (hbm:0≤b.m∧b.m≤9):MinusSp w (n+1) ta tk a b:=by
 unfold MinusSp;rw[zhp h];by_cases h1:a.op=1
 ·have e:zd2 a b=zbP 0 (minQ 9 (b.n-1))++zbP (maxQ 0 (b.m+1)) 9:=by
   have e1:lowQ a=0:=if_pos h1;have e2:zck a=9:=if_pos h1;unfold zd2;rw[e1,e2]
  have hr:=zhT (a:=intQ 0 9) hbn hbm;rw[e];refine bd Tryz.f100 82 [] [] fun w0 F0 own kept hk=>?_;refine bx 3005 ?_;refine bx 3006 ?_;refine bx 3007 ?_;refine ev ?_;refine sq ?_ ?_<;>intro h1 h1p h1s;try simp only[Q] at h1p
  exfalso;omega;try simp only[Q] at h1p
  refine sq ?_ ?_<;>intro h2 h2p h2s;try simp only[Q] at h2p
  refine sq ?_ ?_<;>intro h3 h3p h3s;try simp only[Q] at h3p
  refine bu [0,3] [_,_] st28 ?_;refine ev ?_;refine Walk.call (cr:=[]) ztY (hr) rfl .none rfl rfl (.cons (.agg (.cons (.refl _) (.cons (.refl _) (.cons (.refl _) (.cons (.refl _) (.cons (.refl _) (.cons .nil .nil))))))) (.cons (.refl _) .nil)) trivial rfl rfl rfl ?_;refine ev ?_;focus (refine rn0 (r1 rfl) (.eqd ?_);all_goals (rfl))
  try simp only[Q] at h3p
  focus (exfalso;first|omega|(simp_all;done))
  try simp only[Q] at h2p
  exfalso;omega
 ·have e:zd2 a b=zbP a.n (minQ a.m (b.n-1))++zbP (maxQ a.n (b.m+1)) a.m:=by
   have e1:lowQ a=a.n:=if_neg h1;have e2:zck a=a.m:=if_neg h1;unfold zd2;rw[e1,e2]
  have hr:=zhT (a:=a) hbn hbm;rw[e];refine bd Tryz.f100 82 [] [] fun w0 F0 own kept hk=>?_;refine bx 3005 ?_;refine bx 3006 ?_;refine bx 3007 ?_;refine ev ?_;refine sq ?_ ?_<;>intro h1 h1p h1s;try simp only[Q] at h1p
  exfalso;omega;try simp only[Q] at h1p
  refine sq ?_ ?_<;>intro h2 h2p h2s;try simp only[Q] at h2p
  refine sq ?_ ?_<;>intro h3 h3p h3s;try simp only[Q] at h3p
  focus (exfalso;first|omega|(simp_all;done))
  try simp only[Q] at h3p
  refine sq ?_ ?_<;>intro h4 h4p h4s;try simp only[Q] at h4p
  refine wc ztY (hr) rfl rfl ?_;refine ev ?_;focus (refine rn0 (r1 rfl) (.eqd ?_);all_goals (rfl))
  try simp only[Q] at h4p
  exfalso;omega;try simp only[Q] at h2p
  exfalso;omega
theorem zrC {n:Nat}{ta tk:Int}{a b:Pat} (h4:a.op=4) (h4b:b.op=4) (hc:¬a.ctor=b.ctor):MinusSp w (n+1) ta tk a b:=by
 unfold MinusSp;have e:zaq w (n+1) ⟨ta,tk⟩ a b=[a]:=by rw[zcW h4b h4];exact if_neg hc
 rw[e];refine bd Tryz.f100 82 [] [] fun w0 F0 own kept hk=>?_;refine bx 3005 ?_;refine bx 3006 ?_;refine bx 3007 ?_;refine ev ?_;refine sq ?_ ?_<;>intro h1 h1p h1s;try simp only[Q] at h1p
 exfalso;omega;try simp only[Q] at h1p
 refine sq ?_ ?_<;>intro h2 h2p h2s;try simp only[Q] at h2p
 exfalso;omega;try simp only[Q] at h2p
 refine sqF ?_;refine sq ?_ ?_<;>intro h4 h4p h4s;try simp only[Q] at h4p
 exfalso;omega;try simp only[Q] at h4p
 refine sq ?_ ?_<;>intro h5 h5p h5s;try simp only[Q] at h5p
 refine sq ?_ ?_<;>intro h6 h6p h6s;try simp only[Q] at h6p
 refine si [0] [_] sl26 tz28 ?_;refine ev ?_;refine rn0 (r1 rfl) (.eqd ?_);rotate_left;try simp only[Q] at h6p
 focus (exfalso;first|omega|(simp_all;done))
 try simp only[Q] at h5p
 exfalso;omega;all_goals (first|rfl|(cases a;rfl))
theorem zrB (hs:Spa w){n m:Nat} (hn:n+1≤10) (hm:m+1≤11) (hnm:n<m)
  (ih:∀ {ta tk:Int}{a b:Pat},InS (w.length*4) ⟨ta,tk⟩→zae w m ⟨ta,tk⟩ a=true→zae w n ⟨ta,tk⟩ b=true→MinusSp w n ta tk a b)
  {ta tk:Int}{a b:Pat} (ht:InS (w.length*4) ⟨ta,tk⟩) (ha:zae w (m+1) ⟨ta,tk⟩ a=true) (hb:zae w (n+1) ⟨ta,tk⟩ b=true) (h4:a.op=4) (h4b:b.op=4) (hc:a.ctor=b.ctor):MinusSp w (n+1) ta tk a b:=by
 have hki:=zoG hs hn hm hnm ih ht ha hb h4 h4b hc;clear ih;unfold MinusSp;refine bd Tryz.f100 82 [] [] fun w0 F0 own kept hk=>?_;refine bx 3005 ?_;refine bx 3006 ?_;refine bx 3007 ?_;refine ev ?_;refine sq ?_ ?_<;>intro h1 h1p h1s;try simp only[Q] at h1p
 exfalso;omega;try simp only[Q] at h1p
 refine sq ?_ ?_<;>intro h2 h2p h2s;try simp only[Q] at h2p
 exfalso;omega;try simp only[Q] at h2p
 refine sqF ?_;refine sq ?_ ?_<;>intro h4 h4p h4s;try simp only[Q] at h4p
 exfalso;omega;try simp only[Q] at h4p
 refine sq ?_ ?_<;>intro h5 h5p h5s;try simp only[Q] at h5p
 refine sq ?_ ?_<;>intro h6 h6p h6s;try simp only[Q] at h6p
 focus (exfalso;first|omega|(simp_all;done))
 try simp only[Q] at h6p
 refine sq ?_ ?_<;>intro h7 h7p h7s;try simp only[Q] at h7p
 refine wc zxC (hki) rfl rfl ?_;refine ev ?_;focus (refine rn0 (r1 rfl) (.eqd ?_);all_goals (rfl))
 try simp only[Q] at h7p
 exfalso;omega;try simp only[Q] at h5p
 exfalso;omega
theorem zrA (hs:Spa w){n:Nat}{ta tk:Int}{a b:Pat} (ht:InS (w.length*4) ⟨ta,tk⟩) (h1:a.op=1) (h4b:b.op=4) (hbd:(zaq w (n+1) ⟨ta,tk⟩ a b).length≤20000000)
  (hC:∀c∈zah w ⟨ta,tk⟩,MinusSp w (n+1) ta tk (zbI w ⟨ta,tk⟩ c) b):MinusSp w (n+1) ta tk a b:=by
 have e:zaq w (n+1) ⟨ta,tk⟩ a b=(zah w ⟨ta,tk⟩).flatMap fun c=>zaq w (n+1) ⟨ta,tk⟩ (zbI w ⟨ta,tk⟩ c) b:=by
  rw[zgc h4b h1];exact congrArg (fun g=>(zah w ⟨ta,tk⟩).flatMap g) (funext fun c=>(zcW h4b rfl).symm)
 unfold MinusSp;rw[e] at hbd ⊢;have hcl:=(hs.ctors _ ht).1;have hpre:∀ {pre rest:List Int}{y:Int},pre++y::rest=zah w ⟨ta,tk⟩→(pre.flatMap fun c=>zaq w (n+1) ⟨ta,tk⟩ (zbI w ⟨ta,tk⟩ c) b).length+(zaq w (n+1) ⟨ta,tk⟩ (zbI w ⟨ta,tk⟩ y) b).length≤20000000:=fun h=>by
  rw[←h,List.flatMap_append,List.flatMap_cons] at hbd;simp only[xaa] at hbd;omega
 have hmem:∀ {pre rest:List Int}{y:Int},pre++y::rest=zah w ⟨ta,tk⟩→y∈zah w ⟨ta,tk⟩:=fun h=>by rw[←h];simp
 refine bd Tryz.f100 82 [] [] fun w0 F0 own kept hk=>?_;refine bx 3005 ?_;refine bx 3006 ?_;refine bx 3007 ?_;refine ev ?_;refine sq ?_ ?_<;>intro h1 h1p h1s;try simp only[Q,Pat.cs_len] at h1p
 exfalso;omega;try simp only[Q,Pat.cs_len] at h1p
 refine sq ?_ ?_<;>intro h2 h2p h2s;try simp only[Q,Pat.cs_len] at h2p
 exfalso;omega;try simp only[Q,Pat.cs_len] at h2p
 refine sqF ?_;refine sq ?_ ?_<;>intro h4 h4p h4s;try simp only[Q,Pat.cs_len] at h4p
 exfalso;omega;try simp only[Q,Pat.cs_len] at h4p
 refine sq ?_ ?_<;>intro h5 h5p h5s;try simp only[Q,Pat.cs_len] at h5p
 exfalso;omega;try simp only[Q,Pat.cs_len] at h5p
 refine sqF ?_;refine sq ?_ ?_<;>intro h7 h7p h7s;try simp only[Q,Pat.cs_len] at h7p
 exfalso;omega;try simp only[Q,Pat.cs_len] at h7p
 refine xbh 9 sl26 .none rfl rfl ?_;refine ev ?_;refine wc zh3 (zb7 hs.dp.wt (zb2 ht)) rfl rfl ?_;refine ev ?_;refine xaj (ι:=List (Int)×List (Int)) hk (fun x=>[(11,.d (.i (x.1.length:Int))),(9,.gl 9 (Pat.cs (x.1.flatMap fun c=>zaq w (n+1) ⟨ta,tk⟩ (zbI w ⟨ta,tk⟩ c) b)))]) [62,63,64,65,66,67,68,69,70,71,72,73,74,75,76,77,78,79,80] (fun x=>[(9,some (.tok ((Pat.cs (x.1.flatMap fun c=>zaq w (n+1) ⟨ta,tk⟩ (zbI w ⟨ta,tk⟩ c) b))).length 6))]) (fun x=>x.1++x.2=zah w ⟨ta,tk⟩) (fun x=>x.2.length) ([],zah w ⟨ta,tk⟩) (by simp) ⟨⟨_,rfl,xap ?_⟩,⟨⟨_,rfl,LeA.glg ?_⟩,trivial⟩⟩ ⟨zab ?_,trivial⟩ (fun x=>rfl) (fun x hg1=>?_);iterate 3 focus (rfl)
 obtain⟨pre,rest⟩:=x;dsimp only at hg1 ⊢;refine evc [] [] ?_;refine sq ?_ ?_<;>intro h8 h8p h8s;try simp only[Q,Pat.cs_len] at h8p
 rcases rest with _|⟨y,rest⟩
 ·exfalso;simp_all
 refine xaT sl62 .none rfl rfl rfl rfl (zaL hg1) rfl ?_;refine evd [] [] ?_;refine wc zxD (zpW hs.dp.wt (zb2 ht) (hmem hg1) (hs.args _ _ ht (hmem hg1))) rfl rfl ?_;refine evd [] [] ?_;refine wc zqq (hC y (hmem hg1)) rfl rfl ?_;refine ap sl26 zz28 rfl rfl rfl (by exact zbO _) (by have h9:=hpre hg1;simp only[Pat.cs_len];omega) ?_;refine evd [] [] ?_;refine dr ?_;refine ar ?_;refine Exists.intro ((pre++[y],rest)) ⟨(by have hz:=hg1;rw[←hz];simp),(by simp),sx ⟨⟨_,rfl,xap ?_⟩,⟨⟨_,rfl,LeA.glg ?_⟩,trivial⟩⟩ ⟨zab ?_,trivial⟩⟩;iterate 3 focus (first|(rw[List.flatMap_append,xat,xat,xat,xaf];simp;done)|(simp[Pat.cs_len];done))
 try simp only[Q,Pat.cs_len] at h8p
 have hrest:rest=[]:=by
  rcases rest with _|⟨a,b⟩
  ·rfl
  ·exfalso;have hz:=congrArg List.length (hg1);simp only[xaa,xab,xac] at hz;omega
 subst hrest;refine rn0 (r1 rfl) (.gld ?_);rotate_left;all_goals ((rw[List.append_nil] at hg1;rw[hg1];done))
theorem zil (hs:Spa w):∀(n m:Nat){ta tk:Int}{a b:Pat},n<m→n≤10→m≤11→InS (w.length*4) ⟨ta,tk⟩→zae w m ⟨ta,tk⟩ a=true→zae w n ⟨ta,tk⟩ b=true→MinusSp w n ta tk a b
 |0,m,ta,tk,a,b,_,_,_,_,_,hb=>by simp[zae] at hb
 |n+1,0,ta,tk,a,b,h,_,_,_,_,_=>by omega
 |n+1,m+1,ta,tk,a,b,h,hn,hm,ht,ha,hb=>by
  have hC:∀ {a:Pat},zae w (m+1) ⟨ta,tk⟩ a=true→a.op=4→b.op=4→MinusSp w (n+1) ta tk a b:=fun {a} ha h4 h4b=>by
   by_cases hc:a.ctor=b.ctor
   ·exact zrB hs hn hm (by omega) (fun h1 h2 h3=>zil hs n m (by omega) (by omega) (by omega) h1 h2 h3) ht ha hb h4 h4b hc
   ·exact zrC h4 h4b hc
  rcases zbn hb with h1|h3|h4b
  ·exact zry h1
  ·have:=zbB hb h3;refine zrz h3 ?_ ⟨by omega,by omega⟩ ⟨by omega,by omega⟩;by_cases h1:a.op=1
   ·exact .inl h1
   ·exact .inr (by have:=zdd ha hb h1 (by omega);omega)
  ·by_cases h1:a.op=1
   ·obtain⟨m',rfl⟩:∃m',m=m'+1:=⟨m-1,by omega⟩;exact zrA hs ht h1 h4b (zgd hs h hn ht ha hb) (fun c hc=>hC (zcv hc) rfl h4b)
   ·exact hC ha (by have:=zdd ha hb h1 (by omega);omega) h4b
end
def znc (w:List Data) (t:Ty) (b a:Pat):List Pat:=(zaq w 10 t a b).filter (zbj w t)
def zgt (w:List Data) (t:Ty) (l:List Pat) (b:Pat) (k:Nat):List Pat:=(l.take k).flatMap (znc w t b)
theorem znp {w:List Data}{t:Ty}{l:List Pat}{b:Pat}:zbR w t l b=l.flatMap (znc w t b):=by
 unfold zbR;induction l with
 |nil=>rfl
 |cons x r ih=>rw[List.flatMap_cons,List.filter_append,List.flatMap_cons,ih];rfl
theorem zfn {w:List Data}{t:Ty}{l:List Pat}{b:Pat}{k:Nat} (h:l.length≤k):zgt w t l b k=zbR w t l b:=by
 rw[znp,zgt,List.take_of_length_le h]
theorem znq {w:List Data}{t:Ty}{l:List Pat}{b:Pat}{k:Nat} (h:k<l.length):zgt w t l b (k+1)=zgt w t l b k++znc w t b (nth l k):=by
 unfold zgt;have e:l[k]?=some (nth l k):=by simpa using zat (f:=id) h
 rw[List.take_add_one,e,List.flatMap_append];simp
theorem zvH {w:List Data}{t:Ty}{l:List Pat}{b:Pat} (k:Nat):(zgt w t l b k).length≤(zbR w t l b).length:=by
 rw[znp,zgt];conv=>rhs;rw[←List.take_append_drop k l,List.flatMap_append]
 rw[xaa];omega
theorem zik {w:List Data} (hs:Spa w):∀(n:Nat){ta tk:Int}{p:Pat},InS (w.length*4) ⟨ta,tk⟩→zae w n ⟨ta,tk⟩ p=true→
  FnD Tryz.prog 155 [.d (zam w),.d (zeT (w.length*4) (zai w)),.agg [.d (.i ta),.d (.i tk)],.agg [.d (.i (p).op),.d (.i (p).ctor),.d (.i (p).n),.d (.i (p).m),.d (.i (p).var),.d (zac (p).kids)]] [] (.d (.bool (!zaX w (zai w) n ⟨ta,tk⟩ p))) []
 |0,ta,tk,p,_,h=>by simp[zae] at h
 |n+1,ta,tk,p,ht,h=>by
  have hdp:=zeg (f:=zai w) ht (by have:=hs.dp.four;omega);by_cases h1:p.op=1
  ·rw[zfe h1];refine bd Tryz.f155 45 [] [] fun w0 F0 own kept hk=>?_;refine bx 3006 ?_;refine bx 3007 ?_;refine ev ?_;refine sq ?_ ?_<;>intro h1 h1p h1s;try simp only[Q] at h1p
   refine wc zj4 (hdp) rfl rfl ?_;refine ev ?_;refine rn0 (r1 rfl) (.eqd ?_);rotate_left;try simp only[Q] at h1p
   exfalso;omega;all_goals (refine congrArg D.bool ?_;rw[Bool.eq_iff_iff];simp;omega)
  by_cases h3:p.op=3
  ·rw[zlb h h3];refine bd Tryz.f155 45 [] [] fun w0 F0 own kept hk=>?_;refine bx 3006 ?_;refine bx 3007 ?_;refine ev ?_;refine sq ?_ ?_<;>intro h1 h1p h1s;try simp only[Q] at h1p
   exfalso;omega;try simp only[Q] at h1p
   refine sq ?_ ?_<;>intro h2 h2p h2s;try simp only[Q] at h2p
   refine rn0 (r1 rfl) (.eqd ?_);rotate_left;try simp only[Q] at h2p
   exfalso;omega;all_goals (rfl)
  have h4:p.op=4:=by have:=zbn h;omega
  obtain⟨c1,c2,c3,-⟩:=zaC h h4;have h3l:=hs.args ⟨ta,tk⟩ p.ctor ht c1;have hk:=fun i (hi:i<p.kids.length)=>zaT h hi;rw[za2 h4] at hk;rw[ziG h4,Bool.not_not];have ih:=fun i (hi:i<p.kids.length)=>zik hs n (ta:=(nth (zaa w ⟨ta,tk⟩ p.ctor) i).data) (tk:=(nth (zaa w ⟨ta,tk⟩ p.ctor) i).index) (p:=nth p.kids i) (zbo hs.dp ht c1 _ (zaf (by omega))) (hk i hi);refine bd Tryz.f155 45 [] [] fun w0 F0 own kept hk=>?_;refine bx 3006 ?_;refine bx 3007 ?_;refine ev ?_;refine sq ?_ ?_<;>intro h1 h1p h1s;try simp only[Q,Pat.cs_len] at h1p
  exfalso;omega;try simp only[Q,Pat.cs_len] at h1p
  refine sq ?_ ?_<;>intro h2 h2p h2s;try simp only[Q,Pat.cs_len] at h2p
  exfalso;omega;try simp only[Q,Pat.cs_len] at h2p
  refine wc zgy (zci hs.dp.wt (zb2 ht) c1) rfl rfl ?_;refine ev ?_;refine xaj (ι:=Nat) hk (fun i=>[(10,.d (.i (i:Int)))]) [8,26,27,28,29,30,31,32,33,34,35,36,37,38,39,40,41,42,43,44] (fun i=>[]) (fun i=>i≤(zaa w ⟨ta,tk⟩ p.ctor).length∧∀i',i'<i→(!zaX w (zai w) n (nth (zaa w ⟨ta,tk⟩ p.ctor) i') (nth p.kids i'))=true) (fun i=>(zaa w ⟨ta,tk⟩ p.ctor).length-i) 0 ⟨by omega,fun _ h=>absurd h (by omega)⟩ ⟨⟨_,rfl,xap ?_⟩,trivial⟩ trivial (fun x=>rfl) (fun i hg1=>?_);focus (rfl)
  refine evc [] [] ?_;refine sq ?_ ?_<;>intro h3 h3p h3s;try simp only[Q,Pat.cs_len] at h3p
  refine xaT zaY .none rfl rfl rfl rfl (zat (by omega)) rfl ?_;refine evd [] [] ?_;refine xaT sl26 .none rfl rfl rfl rfl (zaE (by omega)) rfl ?_;refine evd [] [] ?_;refine wc ztX (ih i (by omega)) rfl rfl ?_;refine evd [] [] ?_;refine dr ?_;refine sq ?_ ?_<;>intro h4 h4p h4s;try simp only[Q,Pat.cs_len] at h4p
  refine rn0 (r1 rfl) (.eqd ?_);rotate_left;try simp only[Q,Pat.cs_len] at h4p
  refine ar ?_;refine Exists.intro (i+1) ⟨⟨by omega,zbe hg1.2 (by(simp;assumption))⟩,(by omega),sx ⟨⟨_,rfl,xap ?_⟩,trivial⟩ trivial⟩;focus (rfl)
  try simp only[Q,Pat.cs_len] at h3p
  refine rn0 (r1 rfl) (.eqd ?_);rotate_left;all_goals (refine congrArg D.bool ?_;first|(rw[zb3 (i:=i) (by omega) (by omega) (by first|assumption|(simp;assumption)|(simp_all;done))];done)|(rw[zcg (by omega) (fun x hx=>hg1.2 x (by omega))];done))
theorem ziY {w:List Data} (hs:Spa w){ta tk:Int} (ht:InS (w.length*4) ⟨ta,tk⟩){l:List Pat} (hl:∀a∈l,zae w 11 ⟨ta,tk⟩ a=true) (hb:l.length≤20000000):
  FnD Tryz.prog 99 [.d (zam w),.d (zeT (w.length*4) (zai w)),.agg [.d (.i ta),.d (.i tk)],.d (zac l)] [] (.d (zac (l.filter (zbj w ⟨ta,tk⟩)))) []:=by
 have hal:∀a∈l,FnD Tryz.prog 155 [.d (zam w),.d (zeT (w.length*4) (zai w)),.agg [.d (.i ta),.d (.i tk)],.agg [.d (.i (a).op),.d (.i (a).ctor),.d (.i (a).n),.d (.i (a).m),.d (.i (a).var),.d (zac (a).kids)]] [] (.d (.bool (zbj w ⟨ta,tk⟩ a))) []:=fun a ha=>zik hs 11 ht (hl a ha);have hle:∀ {pre rest:List Pat}{y:Pat},pre++y::rest=l→(pre.filter (zbj w ⟨ta,tk⟩)).length+1≤l.length:=fun {pre rest y} h=>by
  have h1:=List.length_filter_le (zbj w ⟨ta,tk⟩) pre;have h2:=congrArg List.length h;simp only[xaa,xab] at h2;omega
 refine bd Tryz.f99 34 [] [] fun w0 F0 own kept hk=>?_;refine bx 3006 ?_;refine ev ?_;refine xbh 9 sl26 .none rfl rfl ?_;refine ev ?_;refine xaj (ι:=List (Pat)×List (Pat)) hk (fun x=>[(10,.d (.i (x.1.length:Int))),(9,.gl 9 (Pat.cs (x.1.filter (zbj w ⟨ta,tk⟩))))]) [12,13,14,15,16,17,18,19,20,21,22,23,24,25,26,27,28,29,30,31,32] (fun x=>[(9,some (.tok ((Pat.cs (x.1.filter (zbj w ⟨ta,tk⟩)))).length 6))]) (fun x=>x.1++x.2=l) (fun x=>x.2.length) ([],l) (by simp) ⟨⟨_,rfl,xap ?_⟩,⟨⟨_,rfl,LeA.glg ?_⟩,trivial⟩⟩ ⟨zab ?_,trivial⟩ (fun x=>rfl) (fun x hg1=>?_);iterate 3 focus (rfl)
 obtain⟨pre,rest⟩:=x;dsimp only at hg1 ⊢;refine evc [] [] ?_;refine sq ?_ ?_<;>intro h1 h1p h1s;try simp only[Q,Pat.cs_len] at h1p
 rcases rest with _|⟨y,rest⟩
 ·exfalso;simp_all
 refine xaT sl26 .none rfl rfl rfl rfl (Pat.cs_at' hg1) rfl ?_;refine evd [] [] ?_;refine wc ztX (hal y (by rw[←hg1];simp)) rfl rfl ?_;refine dr ?_;refine sq ?_ ?_<;>intro h2 h2p h2s;try simp only[Q,Pat.cs_len] at h2p
 refine xaT sl26 .none rfl rfl rfl rfl (Pat.cs_at' hg1) rfl ?_;refine ev ?_;refine si [0] [_] sl26 tz28 ?_;refine ap sl26 zz28 rfl rfl rfl (by intro x hx;simp at hx;subst hx;rfl) (by have h9:=hle hg1;simp[Pat.cs_len];omega) ?_;refine ev ?_;refine ar ?_;refine Exists.intro ((pre++[y],rest)) ⟨(by have hz:=hg1;rw[←hz];simp),(by simp),sx ⟨⟨_,rfl,xap ?_⟩,⟨⟨_,rfl,LeA.glg ?_⟩,trivial⟩⟩ ⟨zab ?_,trivial⟩⟩;iterate 3 focus (first|(dsimp only;rw[List.filter_append,List.filter_cons_of_pos (by assumption),List.filter_nil,xat (List.filter _ _),xat (_++_),xaf];rfl)|(dsimp only;rw[List.filter_append,List.filter_cons_of_pos (by assumption),List.filter_nil];simp[Pat.cs_len];done)|(simp;done))
 try simp only[Q,Pat.cs_len] at h2p
 refine ar ?_;refine Exists.intro ((pre++[y],rest)) ⟨(by have hz:=hg1;rw[←hz];simp),(by simp),sx ⟨⟨_,rfl,xap ?_⟩,⟨⟨_,rfl,LeA.glg ?_⟩,trivial⟩⟩ ⟨zab ?_,trivial⟩⟩;iterate 3 focus (first|(dsimp only;rw[List.filter_append,List.filter_cons_of_neg (by simp_all),List.filter_nil,List.append_nil];done)|(simp;done))
 try simp only[Q,Pat.cs_len] at h1p
 have hrest:rest=[]:=by
  rcases rest with _|⟨a,b⟩
  ·rfl
  ·exfalso;have hz:=congrArg List.length (hg1);simp only[xaa,xab,xac] at hz;omega
 subst hrest;refine rn0 (r1 rfl) (.gld ?_);rotate_left;all_goals ((rw[List.append_nil] at hg1;rw[hg1];done))
theorem zgJ {w:List Data} (hs:Spa w){ta tk:Int} (ht:InS (w.length*4) ⟨ta,tk⟩){l away:List Pat} (hl:∀a∈l,zae w 11 ⟨ta,tk⟩ a=true) (hb:∀b∈away,zae w 10 ⟨ta,tk⟩ b=true) (hll:l.length≤400) (hal:away.length≤2000):
  FnD Tryz.prog 54 [.d (zam w),.d (zeT (w.length*4) (zai w)),.agg [.d (.i ta),.d (.i tk)],.d (zac l),.d (zac away)] [] (.tup [.d (zac ((zaJ w ⟨ta,tk⟩ l away).getD [])),.d (.bool (zaJ w ⟨ta,tk⟩ l away).isSome)]) []:=by
 have hke:=zu3 hs ht hl hb;have hmi:∀(c:List Pat) (i k:Nat),(∀a∈c,zae w 11 ⟨ta,tk⟩ a=true)→i<away.length→k<c.length→(zaq w 10 ⟨ta,tk⟩ (nth c k) (nth away i)).length≤20000000:=fun c i k hc hi hk=>zgd hs (by omega) (by omega) ht (hc _ (zaf hk)) (hb _ (zaf hi));have hkb:∀(c:List Pat) (i k:Nat),(∀a∈c,zae w 11 ⟨ta,tk⟩ a=true)→i<away.length→k<c.length→(znc w ⟨ta,tk⟩ (nth away i) (nth c k)).length≤20000000:=fun c i k hc hi hk=>Nat.le_trans (List.length_filter_le _ _) (hmi c i k hc hi hk);rw[←hke];have hno:∀(c:List Pat) (i k:Nat),i<away.length→400<(zgt w ⟨ta,tk⟩ c (nth away i) k).length→subL w ⟨ta,tk⟩ c (away.drop i)=none:=fun c i k hi h=>by
  have:=zvH (w:=w) (t:=⟨ta,tk⟩) (l:=c) (b:=nth away i) k;rw[zgL hi,if_neg (by omega)]
 refine bd Tryz.f54 60 [] [] fun w0 F0 own kept hk=>?_;refine bx 3007 ?_;refine ev ?_;refine xaj (ι:=Nat×List Pat) hk (fun s=>[(12,.d (.i (s.1:Int))),(3,.d (zac s.2))]) [10,11,13,14,15,16,17,18,19,20,21,22,23,24,25,26,27,28,29,30,31,32,33,34,35,36,37,38,39,40,41,42,43,44,45,46,47,48,49,50,51,52,53,54] (fun s=>[]) (fun s=>s.1≤away.length∧subL w ⟨ta,tk⟩ s.2 (away.drop s.1)=subL w ⟨ta,tk⟩ l away∧(∀a∈s.2,zae w 11 ⟨ta,tk⟩ a=true)∧s.2.length≤400) (fun s=>away.length-s.1) (0,l) ⟨by simp,rfl,hl,hll⟩ ⟨⟨_,rfl,xap ?_⟩,⟨⟨_,rfl, ?_⟩,trivial⟩⟩ trivial (fun x=>rfl) (fun s hg1=>?_);focus (rfl)
 focus (exact LeA.refl _)
 refine evc [] [] ?_;refine sq ?_ ?_<;>intro h1 h1p h1s;try simp only[Q,Pat.cs_len] at h1p
 refine xbh 9 sl26 .none rfl rfl ?_;refine ev ?_;refine xaj (ι:=Nat) hk (fun k=>[(14,.d (.i (k:Int))),(13,.gl 9 (Pat.cs (zgt w ⟨ta,tk⟩ s.2 (nth away s.1) k)))]) [22,23,24,25,26,27,28,29,30,31,32,33,34,35,36,37,38,39,40,41,42,43,44,45,46,47,48,49] (fun k=>[(9,some (.tok ((Pat.cs (zgt w ⟨ta,tk⟩ s.2 (nth away s.1) k))).length 6))]) (fun k=>k≤s.2.length) (fun k=>s.2.length-k) 0 (by omega) ⟨⟨_,rfl,xap ?_⟩,⟨⟨_,rfl,LeA.glg ?_⟩,trivial⟩⟩ ⟨zab ?_,trivial⟩ (fun x=>rfl) (fun k hg2=>?_);iterate 3 focus (rfl)
 refine evc [] [] ?_;refine sq ?_ ?_<;>intro h2 h2p h2s;try simp only[Q,Pat.cs_len] at h2p
 refine sq ?_ ?_<;>intro h3 h3p h3s;try simp only[Q,Pat.cs_len] at h3p
 refine xaT sl26 .none rfl rfl rfl rfl (zaE (by omega)) rfl ?_;refine evd [] [] ?_;refine xaT sl26 .none rfl rfl rfl rfl (zaE (by omega)) rfl ?_;refine evd [] [] ?_;refine wc zqq (zil hs 10 11 (by omega) (by omega) (by omega) ht (hg1.2.2.1 _ (zaf (by omega))) (hb _ (zaf (by omega)))) rfl rfl ?_;refine wc zwm (show FnD _ _ _ _ (.d (zac (znc w ⟨ta,tk⟩ (nth away s.1) (nth s.2 k)))) _ from ziY hs ht (zfM 10 11 (by omega) (hg1.2.2.1 _ (zaf (by omega))) (hb _ (zaf (by omega)))) (hmi s.2 s.1 k hg1.2.2.1 (by omega) (by omega))) rfl rfl ?_;refine ap sl26 zz28 rfl rfl rfl (by exact zbO _) (by have h9:=hkb s.2 s.1 k hg1.2.2.1 (by omega) (by omega);simp only[Pat.cs_len];omega) ?_;refine evd [] [] ?_;refine dr ?_;refine ar ?_;refine Exists.intro (k+1) ⟨(by omega),(by omega),sx ⟨⟨_,rfl,xap ?_⟩,⟨⟨_,rfl,LeA.glg ?_⟩,trivial⟩⟩ ⟨zab ?_,trivial⟩⟩;iterate 3 focus (first|rfl|(rw[znq (by omega),xat,xat,xat,xaf];done)|(rw[znq (by omega)];simp[Pat.cs_len];done))
 try simp only[Q,Pat.cs_len] at h3p
 refine sq ?_ ?_<;>intro h4 h4p h4s;try simp only[Q,Pat.cs_len] at h4p
 refine xbg sl26 .none rfl ?_;refine ev ?_;refine rn0 (r2 rfl rfl) (.tup (.cons (.eqd ?_) (.cons (.eqd ?_) .nil)));rotate_left 2;try simp only[Q,Pat.cs_len] at h4p
 refine ar ?_;refine Exists.intro ((s.1+1,zbR w ⟨ta,tk⟩ s.2 (nth away s.1))) ⟨(by
    have hk:s.2.length≤k:=by omega
    have h4:(zbR w ⟨ta,tk⟩ s.2 (nth away s.1)).length≤400:=by rw[←zfn hk];omega
    have e:=zgL (w:=w) (t:=⟨ta,tk⟩) (l:=s.2) (away:=away) (i:=s.1) (by omega);rw[if_pos h4] at e;refine⟨by dsimp only;omega, ?_,zeH hg1.2.2.1 (hb _ (zaf (by omega))),h4⟩;dsimp only;rw[←e];exact hg1.2.1),(by dsimp only;omega),sx ⟨⟨_,rfl,xap ?_⟩,⟨⟨_,rfl, ?_⟩,trivial⟩⟩ trivial⟩
 focus (rfl)
 focus (((first|refine LeA.gld ?_|refine LeA.nild ?_);first|rfl|(rw[zfn (by omega)];done)|(dsimp only;rw[zfn (by omega)];done)|(simp;done)|omega))
 try simp only[Q,Pat.cs_len] at h2p
 refine sqF ?_;refine sq ?_ ?_<;>intro h6 h6p h6s;try simp only[Q,Pat.cs_len] at h6p
 refine xbg sl26 .none rfl ?_;refine ev ?_;refine rn0 (r2 rfl rfl) (.tup (.cons (.eqd ?_) (.cons (.eqd ?_) .nil)));rotate_left 2;try simp only[Q,Pat.cs_len] at h6p
 refine ar ?_;refine Exists.intro ((s.1+1,zbR w ⟨ta,tk⟩ s.2 (nth away s.1))) ⟨(by
    have hk:s.2.length≤k:=by omega
    have h4:(zbR w ⟨ta,tk⟩ s.2 (nth away s.1)).length≤400:=by rw[←zfn hk];omega
    have e:=zgL (w:=w) (t:=⟨ta,tk⟩) (l:=s.2) (away:=away) (i:=s.1) (by omega);rw[if_pos h4] at e;refine⟨by dsimp only;omega, ?_,zeH hg1.2.2.1 (hb _ (zaf (by omega))),h4⟩;dsimp only;rw[←e];exact hg1.2.1),(by dsimp only;omega),sx ⟨⟨_,rfl,xap ?_⟩,⟨⟨_,rfl, ?_⟩,trivial⟩⟩ trivial⟩
 focus (rfl)
 focus (((first|refine LeA.gld ?_|refine LeA.nild ?_);first|rfl|(rw[zfn (by omega)];done)|(dsimp only;rw[zfn (by omega)];done)|(simp;done)|omega))
 try simp only[Q,Pat.cs_len] at h1p
 refine wc zwm (ziY hs ht hg1.2.2.1 (by omega)) rfl rfl ?_;refine ev ?_;refine rn0 (r2 rfl rfl) (.tup (.cons (.eqd ?_) (.cons (.eqd ?_) .nil)));rotate_left 2;all_goals (first|(rw[←hg1.2.1,hno s.2 s.1 k (by omega) (by omega)];rfl)|(rw[←hg1.2.1,zrD (by omega)];rfl))
theorem ziV:∀(n:Nat){p:Pat},p.size≤n→p.ok→FnD Tryz.prog 162 [.agg [.d (.i (p).op),.d (.i (p).ctor),.d (.i (p).n),.d (.i (p).m),.d (.i (p).var),.d (zac (p).kids)]] [] (.agg [.d (.i (p).op),.d (.i (p).ctor),.d (.i (p).n),.d (.i (p).m),.d (.i (p).var),.d (zac (p).kids)]) []
 |0,p,h,_=>by rw[Pat.size_eq] at h;omega
 |n+1,p,h,hok=>by
  rw[Pat.size_eq] at h;rw[Pat.ok_iff] at hok;have hok1:=hok.1;refine bd Tryz.f162 26 [] [] fun w0 F0 own kept hk=>?_;refine bx 3001 ?_;refine ab 3002 tz28 ?_;refine tv ?_;refine ab 3003 tz28 ?_;refine so ty28 ?_;refine tv ?_;refine so ty26 ?_;refine tv ?_;refine xam 3003 5 7 6 rfl rfl rfl rfl ?_;refine xaj (ι:=List (Pat)×List (Pat)) hk (fun x=>[(4,.d (.i (x.1.length:Int)))]) [7,8,9,10,11,12,13,14,15,16,17,18,19,20,21,22,23,24] (fun x=>[(3003,some (.box [.d (.i p.op),.d (.i p.ctor),.d (.i p.n),.d (.i p.m),.d (.i p.var),.gl 7 (x.1.map Pat.cc)])),(7,some (.tok (x.1.map Pat.cc).length 6))]) (fun x=>x.1++x.2=p.kids) (fun x=>x.2.length) ([],p.kids) (by simp) ⟨⟨_,rfl,xap ?_⟩,trivial⟩ ⟨?_,⟨zab ?_,trivial⟩⟩ (fun x=>rfl) (fun x hg1=>?_);focus (rfl)
  focus (first|rfl|(simp[getH];done))
  focus (rfl)
  obtain⟨pre,rest⟩:=x;dsimp only at hg1 ⊢;refine evc [] [] ?_;refine sq ?_ ?_<;>intro h1 h1p h1s;try simp only[Q,Pat.cs_len] at h1p
  rcases rest with _|⟨y,rest⟩
  ·exfalso;simp_all
  refine xaT sl26 .none rfl rfl rfl rfl (Pat.cs_at' hg1) rfl ?_;refine evd [] [] ?_;refine wc ztZ (ziV n (p:=y) (by have:=Pats.size_mem (l:=p.kids) (v:=y) (by rw[←hg1];simp);omega) (Pats.ok_mem hok.2 y (by rw[←hg1];simp))) rfl rfl ?_;refine si [0] [_] sl26 tz28 ?_;refine ap sl26 zz28 rfl rfl rfl (by intro x hx;(simp at hx;subst hx;rfl)) (by have:=congrArg List.length hg1;simp at this;simp;omega) ?_;refine evd [] [] ?_;refine so ty26 ?_;refine dr ?_;refine ar ?_;refine Exists.intro ((pre++[y],rest)) ⟨(by have hz:=hg1;rw[←hz];simp),(by simp),sx ⟨⟨_,rfl,xap ?_⟩,trivial⟩ ⟨?_,⟨zab ?_,trivial⟩⟩⟩;focus ((simp;done))
  focus (first|rfl|(simp[getH];done))
  focus ((simp;done))
  try simp only[Q,Pat.cs_len] at h1p
  have hrest:rest=[]:=by
   rcases rest with _|⟨a,b⟩
   ·rfl
   ·exfalso;have hz:=congrArg List.length (hg1);simp only[xaa,xab,xac] at hz;omega
  subst hrest;refine so ty28 ?_;refine tv ?_;refine rn0 (.cons (.cellA ty28 rfl rfl rfl) .nil) (.agg (.cons (.eqd ?_) (.cons (.eqd ?_) (.cons (.eqd ?_) (.cons (.eqd ?_) (.cons (.eqd ?_) (.cons (.gld ?_) .nil)))))));rotate_left 6;all_goals (first|rfl|(rw[List.append_nil] at hg1;rw[←hg1,xat];done))
theorem zpT {l:List Pat} (h:l.length≤1000000000000) (hok:∀p∈l,p.ok):FnD Tryz.prog 102 [.d (zac l)] [] (.d (zac l)) []:=by
 refine bd Tryz.f102 21 [] [] fun w0 F0 own kept hk=>?_;refine xbh 1 sl26 .none rfl rfl ?_;refine ev ?_;refine xaj (ι:=List (Pat)×List (Pat)) hk (fun x=>[(4,.d (.i (x.1.length:Int))),(3,.gl 1 (x.1.map Pat.cc))]) [6,7,8,9,10,11,12,13,14,15,16,17,18,19] (fun x=>[(1,some (.tok ((x.1.map Pat.cc)).length 6))]) (fun x=>x.1++x.2=l) (fun x=>x.2.length) ([],l) (by simp) ⟨⟨_,rfl,xap ?_⟩,⟨⟨_,rfl,LeA.glg ?_⟩,trivial⟩⟩ ⟨zab ?_,trivial⟩ (fun x=>rfl) (fun x hg1=>?_);iterate 3 focus (rfl)
 obtain⟨pre,rest⟩:=x;dsimp only at hg1 ⊢;refine evc [] [] ?_;refine sq ?_ ?_<;>intro h1 h1p h1s;try simp only[Q,Pat.cs_len] at h1p
 rcases rest with _|⟨y,rest⟩
 ·exfalso;simp_all
 refine xaT sl26 .none rfl rfl rfl rfl (Pat.cs_at' hg1) rfl ?_;refine ev ?_;refine wc ztZ (ziV _ (Nat.le_refl _) (hok y (by rw[←hg1];simp))) rfl rfl ?_;refine si [0] [_] sl26 tz28 ?_;refine ap sl26 zz28 rfl rfl rfl (by intro x hx;simp at hx;subst hx;rfl) (by have:=congrArg List.length hg1;simp at this;simp;omega) ?_;refine ev ?_;refine ar ?_;refine Exists.intro ((pre++[y],rest)) ⟨(by have hz:=hg1;rw[←hz];simp),(by simp),sx ⟨⟨_,rfl,xap ?_⟩,⟨⟨_,rfl,LeA.glg ?_⟩,trivial⟩⟩ ⟨zab ?_,trivial⟩⟩;iterate 3 focus ((simp;done))
 try simp only[Q,Pat.cs_len] at h1p
 have hrest:rest=[]:=by
  rcases rest with _|⟨a,b⟩
  ·rfl
  ·exfalso;have hz:=congrArg List.length (hg1);simp only[xaa,xab,xac] at hz;omega
 subst hrest;refine rn0 (r1 rfl) (.gld ?_);rotate_left;all_goals ((rw[List.append_nil] at hg1;rw[←hg1,xat];done))
theorem zpz {p:Pat} (h:zcX p=true):zaZ (zau p)=zaD p:=by
 unfold zcX at h;have h40:=of_decide_eq_true h;unfold zaZ zaD;rw[if_pos h40,List.take_of_length_le (by omega)]
theorem zu2 {p:Pat}:((40:Int)<((zaZ (zau p)).length:Int))↔zcX p=false:=by
 unfold zcX zaZ;rw[List.length_take,decide_eq_false_iff_not];omega
theorem zin {w:List Data} (hs:Spa w){ta tk:Int} (ht:InS (w.length*4) ⟨ta,tk⟩){l:List Pat}{ok:Bool} (hl:∀a∈l,a.ok∧a.size≤1000000000000) (hb:l.length≤1000000000000):
  FnD Tryz.prog 55 [.d (zam w),.agg [.d (.i ta),.d (.i tk)],.d (zac l),.d (.bool ok)] [] (.tup [.d (zac (if l.all (isP w ⟨ta,tk⟩)=true then l else [])),.d (.bool (l.all (isP w ⟨ta,tk⟩)&&ok))]) []:=by
 have hbad:∀i,i<l.length→isP w ⟨ta,tk⟩ (nth l i)=false→l.all (isP w ⟨ta,tk⟩)=false:=fun i hi h=>by
  cases hq:l.all (isP w ⟨ta,tk⟩) with
  |false=>rfl
  |true=>have:=List.all_eq_true.1 hq _ (zaf hi);rw[h] at this;cases this
 have hgood:(∀i,i<l.length→isP w ⟨ta,tk⟩ (nth l i)=true)→l.all (isP w ⟨ta,tk⟩)=true:=fun h=>List.all_eq_true.2 fun x hx=>by
  obtain⟨i,hi,rfl⟩:=List.getElem_of_mem hx;have:=h i hi;rwa [zaQ hi] at this
 refine bd Tryz.f55 29 [] [] fun w0 F0 own kept hk=>?_;refine bx 3005 ?_;refine ev ?_;refine xaj (ι:=Nat) hk (fun i=>[(10,.d (.i (i:Int)))]) [8,9,11,12,13,14,15,16,17,18,19,20,21,22,23,24,25] (fun i=>[]) (fun i=>i≤l.length∧∀i',i'<i→isP w ⟨ta,tk⟩ (nth l i')=true) (fun i=>l.length-i) 0 ⟨by omega,fun _ h=>absurd h (by omega)⟩ ⟨⟨_,rfl,xap ?_⟩,trivial⟩ trivial (fun x=>rfl) (fun i hg1=>?_);focus (rfl)
 refine evc [] [] ?_;refine sq ?_ ?_<;>intro h1 h1p h1s;try simp only[Q,Pat.cs_len] at h1p
 refine xaT sl26 .none rfl rfl rfl rfl (zaE (by omega)) rfl ?_;refine evd [] [] ?_;refine wc zqr (zhS hs.dp.wt (zb2 ht) (hl _ (zaf (i:=i) (by omega))).1 (hl _ (zaf (by omega))).2) rfl rfl ?_;refine evd [] [] ?_;refine dr ?_;refine sq ?_ ?_<;>intro h2 h2p h2s;try simp only[Q,Pat.cs_len] at h2p
 refine xbg sl26 .none rfl ?_;refine ev ?_;refine rn0 (r2 rfl rfl) (.tup (.cons (.eqd ?_) (.cons (.eqd ?_) .nil)));rotate_left 2;try simp only[Q,Pat.cs_len] at h2p
 refine ar ?_;refine Exists.intro (i+1) ⟨⟨by omega,zbe hg1.2 (by assumption)⟩,(by omega),sx ⟨⟨_,rfl,xap ?_⟩,trivial⟩ trivial⟩;focus (rfl)
 try simp only[Q,Pat.cs_len] at h1p
 refine wc zxj (zpT hb (fun p hp=>(hl p hp).1)) rfl rfl ?_;refine ev ?_;refine rn0 (r2 rfl rfl) (.tup (.cons (.eqd ?_) (.cons (.eqd ?_) .nil)));rotate_left 2;all_goals (first|(rw[hbad i (by omega) (by assumption)];rfl)|(rw[hgood (fun x hx=>hg1.2 x (by omega))];rfl))
end Go.Proofs.YtpgdedpljcedpaaGreat
namespace Go.Proofs.YtpgdedpljcedpaaGreat
open Go
set_option linter.unusedSimpArgs false
set_option linter.unusedVariables false
section
variable {c:Ctx}{all:Array Oper}{chk:List Rec→Prop}{os:List Oper}{recs:List Rec}{env:Env}{hp:Hp}{Q:St→Prop}
variable {d ty:Nat}{pos:String}{af:Array Edge}{g:Option (Nat×Bool)}{pg:List (Nat×AV)}{t yt:TypeId}{x y:Operand}
theorem Walk.cut_lh {e k yb:Nat}{xs:List (List D)}{vx:AV}{o o2:Operand}{kd kd2:IntKind}{n n2:Int}{a b:Nat} (ht:SlT c.P t e k yb) (hg:GH all env g pg) (hd:Nat.blt d c.n=true)
  (hx:opd env x=some vx) (hxd:vx.toD=some (.sl xs)) (hk:∀x,x∈xs→x.length=k) (ho:opd env o=some (.d (.int kd n))) (ho2:opd env o2=some (.d (.int kd2 n2))) (hi:n = ↑a) (hi2:n2 = ↑b) (hab:a≤b) (hb:b≤xs.length)
  (hn:Walk c all chk os (zan (pg++opFL [x,o,o2] [vx,.d (.int kd n),.d (.int kd2 n2)]) [] [] ⟨some (d,.d (.sl ((xs.drop a).take (b-a)))),[]⟩::recs) ⟨(d,.d (.sl ((xs.drop a).take (b-a))))::env,hp⟩ Q):
  Walk c all chk (⟨some d,.slice t x (some o) (some o2) none,ty,pos,af,g⟩::os) recs ⟨env,hp⟩ Q:=
 xbc hg hd (by simp[opdL,hx,ho,ho2]) (fun ac G T w h=>by
  have h0:=h.2 0 (by simp) (by simp);have h1:=h.2 1 (by simp) (by simp);have h2:=h.2 2 (by simp) (by simp);simp only[List.getElem_cons_zero,List.getElem_cons_succ] at h0 h1 h2;obtain⟨u,h3,h4⟩:=zjy (P:=c.P) (w:=w) ht (h0.toD hxd) hk (lo:=some (.int kd a)) (hi:=some (.int kd2 b)) (a:=a) (b:=b) (.inr ⟨kd,rfl⟩) (.inr ⟨kd2,rfl⟩) hab hb;exact⟨u,by simp only[execOp,h1.int_eq,h2.int_eq,hi,hi2,Option.map_none,Option.map_some,Sem.run_bind,h3,Result.andThen_ok,Sem.run_pure],.d h4⟩) hn
end
end Go.Proofs.YtpgdedpljcedpaaGreat
namespace Go.Proofs.YtpgdedpljcedpaaGreat
open Go
set_option linter.unusedSimpArgs false
set_option linter.unusedVariables false
set_option maxRecDepth 100000
set_option maxHeartbeats 2000000
abbrev sepV (w:List Data) (t:Ty) (l:List Pat):Option (List Pat):=sepQ w t [] l []
theorem zrv {w:List Data}{t:Ty}{l o:List Pat}{i:Nat} (h:i<l.length):sepQ w t (l.take i) (l.drop i) o=match zaJ w t [nth l i] (l.take i) with
  |none=>none
  |some m=>sepQ w t (l.take (i+1)) (l.drop (i+1)) (o++m):=by
 rw[zaO h,sepQ];have e:l.take i++[nth l i]=l.take (i+1):=by rw[List.take_succ_eq_append_getElem h,zaQ h]
 rw[e];all_goals (cases zaJ w t [nth l i] (l.take i)<;>rfl)
theorem zsN {w:List Data}{t:Ty}{l o:List Pat}{i:Nat} (h:l.length≤i):sepQ w t (l.take i) (l.drop i) o=some o:=by
 rw[List.drop_eq_nil_of_le h,sepQ]
theorem zru {w:List Data}{t:Ty}{l o m:List Pat}{i:Nat} (h:i<l.length) (hw:zaJ w t [nth l i] (l.take i)=some m):sepQ w t (l.take i) (l.drop i) o=sepQ w t (l.take (i+1)) (l.drop (i+1)) (o++m):=by
 rw[zrv h,hw]
theorem zsM {w:List Data}{t:Ty}{l o:List Pat}{i:Nat} (h:i<l.length) (hw:zaJ w t [nth l i] (l.take i)=none):sepQ w t (l.take i) (l.drop i) o=none:=by
 rw[zrv h,hw]
theorem zuV {w:List Data}{t:Ty}:∀(r front o:List Pat){res:List Pat},sepQ w t front r o=some res→o.length≤res.length
 | [],_,o,res,h=>by rw[sepQ] at h;cases h;exact Nat.le_refl _
 |p::r,front,o,res,h=>by
  rw[sepQ] at h;cases hw:zaJ w t [p] front with
  |none=>rw[hw] at h;cases h
  |some m=>
   rw[hw] at h;have:=zuV r _ _ h;rw[xaa] at this;omega
theorem zfr {w:List Data}{t:Ty}:∀(r front o:List Pat){res:List Pat},(∀b∈front,zae w 10 t b=true)→(∀b∈r,zae w 10 t b=true)→(∀b∈o,zae w 11 t b=true)→sepQ w t front r o=some res→∀x∈res,zae w 11 t x=true
 | [],_,o,res,_,_,ho,h=>by rw[sepQ] at h;cases h;exact ho
 |p::r,front,o,res,hf,hr,ho,h=>by
  rw[sepQ] at h;cases hw:zaJ w t [p] front with
  |none=>rw[hw] at h;cases h
  |some m=>
   rw[hw] at h;have hp:=hr p (by simp);have h1:=zd4 front _ m (fun a ha=>by rw[List.mem_singleton.1 (List.mem_filter.1 ha).1];exact zdc (by omega) hp) (Nat.le_trans (List.length_filter_le _ _) (by simp)) hf hw;refine zfr r _ _ (fun b hb=>?_) (fun b hb=>hr b (by simp[hb])) (fun b hb=>?_) h
   ·rcases List.mem_append.1 hb with hb|hb
    ·exact hf b hb
    ·rw[List.mem_singleton.1 hb];exact hp
   ·rcases List.mem_append.1 hb with hb|hb
    ·exact ho b hb
    ·exact h1.2 b hb
def FewQ (w:List Data) (t:Ty) (l:List Pat):Prop:=∀res,sepV w t l=some res→res.length≤400
theorem zpu {w:List Data}{ta tk:Int}{l:List Pat} (hl:∀a∈l,zae w 10 ⟨ta,tk⟩ a=true) (i:Nat):((zaJ w ⟨ta,tk⟩ [nth l i] (l.take i)).getD []).length≤400:=by
 cases hw:zaJ w ⟨ta,tk⟩ [nth l i] (l.take i) with
 |none=>simp
 |some m=>
  by_cases hi:i<l.length
  ·exact(zd4 (l.take i) _ m (fun a ha=>by rw[List.mem_singleton.1 (List.mem_filter.1 ha).1];exact zdc (by omega) (hl _ (zaf hi))) (Nat.le_trans (List.length_filter_le _ _) (by simp)) (fun b hb=>hl b (List.mem_of_mem_take hb)) hw).1
  ·rw[List.take_of_length_le (by omega)] at hw;have e:nth l i=default:=by simp[nth,List.getD,List.getElem?_eq_none (by omega:l.length≤i)]
   rw[e] at hw;unfold zaJ at hw;have hlen:∀(away c r:List Pat),c.length≤400→subL w ⟨ta,tk⟩ c away=some r→r.length≤400:=fun away=>by
    induction away with
    |nil=>intro c r hc h;rw[subL] at h;cases h;exact hc
    |cons b away ih=>
     intro c r hc h;rw[subL] at h;split at h
     ·rename_i h4;exact ih _ _ h4 h
     ·cases h
   exact hlen _ _ _ (Nat.le_trans (List.length_filter_le _ _) (by simp)) hw
theorem zst {l:List Pat} (i:Nat) (hi:i<l.length):zac [nth l i] = .sl [(nth l i).cc]∧zac (l.take i) = .sl ((Pat.cs l).take i)∧zac [nth l i] = .sl (((Pat.cs l).drop i).take (i+1-i)):=by
 have e1:zac [nth l i] = .sl [(nth l i).cc]:=by show D.sl (Pat.cs [nth l i])=_;rw[xat];rfl
 refine⟨e1, ?_, ?_⟩
 ·show D.sl (Pat.cs (l.take i))=_;rw[xat,xat,List.map_take]
 ·rw[e1,xat,←List.map_drop,zaO hi,show i+1-i=1 by omega];rfl
section
variable {w:List Data} (hs:Spa w){ta tk:Int} (ht:InS (w.length*4) ⟨ta,tk⟩){l:List Pat} (hl:∀a∈l,zae w 10 ⟨ta,tk⟩ a=true) (hb:l.length≤1600)
include hs ht hl hb
theorem zhF:FnD Tryz.prog 48 [.d (sPtr w (zai w)),.agg [.d (.i ta),.d (.i tk)],.d (zac l)] [] (.tup [.d (zac ((sepV w ⟨ta,tk⟩ l).getD [])),.d (.bool (sepV w ⟨ta,tk⟩ l).isSome)]) []:=by
 have hml:=zpu hl;have hc:∀i,i<l.length→FnD Tryz.prog 49 [.d (sPtr w (zai w)),.agg [.d (.i ta),.d (.i tk)],.d (.sl [(nth l i).cc]),.d (.sl ((Pat.cs l).take i))] [] (.tup [.d (zac ((zaJ w ⟨ta,tk⟩ [nth l i] (l.take i)).getD [])),.d (.bool (zaJ w ⟨ta,tk⟩ [nth l i] (l.take i)).isSome)]) []:=fun i hi=>by
  have h:=zia hs ht (l:=[nth l i]) (away:=l.take i) (fun a ha=>by rw[List.mem_singleton.1 ha];exact zdc (by omega) (hl _ (zaf hi))) (fun b hb=>hl b (List.mem_of_mem_take hb)) (by simp) (by rw[List.length_take];omega);obtain⟨e1,e2,_⟩:=zst i hi;rw[e1,e2] at h;exact h
 have hbad:∀i o,i<l.length→(zaJ w ⟨ta,tk⟩ [nth l i] (l.take i)).isSome=false→sepQ w ⟨ta,tk⟩ (l.take i) (l.drop i) o=none:=fun i o hi h=>zsM hi (by simpa using h);have hgood:∀i o,i<l.length→(zaJ w ⟨ta,tk⟩ [nth l i] (l.take i)).isSome=true→sepQ w ⟨ta,tk⟩ (l.take i) (l.drop i) o=sepQ w ⟨ta,tk⟩ (l.take (i+1)) (l.drop (i+1)) (o++(zaJ w ⟨ta,tk⟩ [nth l i] (l.take i)).getD []):=fun i o hi h=>by
  obtain⟨m,hm⟩:=Option.isSome_iff_exists.1 h;rw[zru hi hm,hm];rfl
 refine bd Tryz.f48 38 [8] [] fun w0 F0 own kept hk=>?_;refine bx 3004 ?_;refine evs [8] [] ?_;refine xaB 9 6 .none rfl rfl ?_;refine tv ?_;refine xaj (ι:=Nat×List Pat) hk (fun s=>[(15,.d (.i (s.1:Int))),(8,.gl 9 (Pat.cs s.2))]) [6,7,9,10,11,12,16,17,18,19,20,21,22,23,24,25,26,27,28,29,30,31,32,33,34,35,36] (fun s=>[(9,some (.tok ((Pat.cs s.2)).length 6))]) (fun s=>s.1≤l.length∧sepQ w ⟨ta,tk⟩ (l.take s.1) (l.drop s.1) s.2=sepV w ⟨ta,tk⟩ l∧s.2.length≤400*s.1) (fun s=>l.length-s.1) (0,[]) ⟨by simp,by simp,by simp⟩ ⟨⟨_,rfl,xap ?_⟩,⟨⟨_,rfl,LeA.glg ?_⟩,trivial⟩⟩ ⟨zab ?_,trivial⟩ (fun x=>rfl) (fun s hg1=>?_);iterate 3 focus (rfl)
 refine evc [8] [] ?_;refine sq ?_ ?_<;>intro h1 h1p h1s;try simp only[Q,Pat.cs_len] at h1p
 refine xaT sl26 .none rfl rfl rfl rfl (zaE (by omega)) rfl ?_;refine evs [8] [] ?_;refine ab 3010 tz28 ?_;refine evs [8] [] ?_;refine so ty28 ?_;refine tv ?_;refine si [0] [_] sl26 tz28 ?_;refine evd [8] [] ?_;refine xaN (b:=s.1) sl26 .none rfl rfl rfl (by exact zbO _) rfl rfl (by simp only[Pat.cs_len];omega) ?_;refine wc zs3 (hc s.1 (by omega)) rfl rfl ?_;refine evd [8] [] ?_;refine dr ?_;refine sq ?_ ?_<;>intro h2 h2p h2s;try simp only[Q,Pat.cs_len] at h2p
 refine rn0 (r2 rfl rfl) (.tup (.cons (.nild ?_) (.cons (.eqd ?_) .nil)));rotate_left 2;try simp only[Q,Pat.cs_len] at h2p
 refine ap sl26 zz28 rfl rfl rfl (by exact zbO _) (by have h9:=hml s.1;simp only[Pat.cs_len];omega) ?_;refine asg ?_;refine tv ?_;refine ar ?_;refine Exists.intro ((s.1+1,s.2++(zaJ w ⟨ta,tk⟩ [nth l s.1] (l.take s.1)).getD [])) ⟨(by
    refine⟨by dsimp only;omega, ?_, ?_⟩
    ·dsimp only;rw[←hgood s.1 s.2 (by omega) (by first|assumption|simpa using h2p)];exact hg1.2.1
    ·have:=hml s.1;dsimp only;rw[xaa];omega),(by dsimp only;omega),sx ⟨⟨_,rfl,xap ?_⟩,⟨⟨_,rfl,LeA.glg ?_⟩,trivial⟩⟩ ⟨zab ?_,trivial⟩⟩
 iterate 3 focus (first|(dsimp only;rw[xat,xat,xat,xaf];done)|(simp[Pat.cs_len];done))
 try simp only[Q,Pat.cs_len] at h1p
 refine rn0 (r2 rfl rfl) (.tup (.cons (.gld ?_) (.cons (.eqd ?_) .nil)));rotate_left 2;all_goals (first|(rw[show sepV w ⟨ta,tk⟩ l=none from by rw[←hg1.2.1];exact hbad s.1 s.2 (by omega) (by first|assumption|simpa using h2p)];rfl)|(rw[show sepV w ⟨ta,tk⟩ l=some s.2 from by rw[←hg1.2.1];exact zsN (by omega)];rfl))
theorem znU (hfew:FewQ w ⟨ta,tk⟩ l):FnD Tryz.prog 53 [.d (zam w),.d (zeT (w.length*4) (zai w)),.agg [.d (.i ta),.d (.i tk)],.d (zac l)] [] (.tup [.d (zac ((sepV w ⟨ta,tk⟩ l).getD [])),.d (.bool (sepV w ⟨ta,tk⟩ l).isSome)]) []:=by
 have hml:=zpu hl;have hc:∀i,i<l.length→FnD Tryz.prog 54 [.d (zam w),.d (zeT (w.length*4) (zai w)),.agg [.d (.i ta),.d (.i tk)],.d (.sl (((Pat.cs l).drop i).take (i+1-i))),.d (.sl ((Pat.cs l).take i))] [] (.tup [.d (zac ((zaJ w ⟨ta,tk⟩ [nth l i] (l.take i)).getD [])),.d (.bool (zaJ w ⟨ta,tk⟩ [nth l i] (l.take i)).isSome)]) []:=fun i hi=>by
  have h:=zgJ hs ht (l:=[nth l i]) (away:=l.take i) (fun a ha=>by rw[List.mem_singleton.1 ha];exact zdc (by omega) (hl _ (zaf hi))) (fun b hb=>hl b (List.mem_of_mem_take hb)) (by simp) (by rw[List.length_take];omega);obtain⟨_,e2,e3⟩:=zst i hi;rw[e3,e2] at h;exact h
 have hbad:∀i o,i<l.length→(zaJ w ⟨ta,tk⟩ [nth l i] (l.take i)).isSome=false→sepQ w ⟨ta,tk⟩ (l.take i) (l.drop i) o=none:=fun i o hi h=>zsM hi (by simpa using h);have hgood:∀i o,i<l.length→(zaJ w ⟨ta,tk⟩ [nth l i] (l.take i)).isSome=true→sepQ w ⟨ta,tk⟩ (l.take i) (l.drop i) o=sepQ w ⟨ta,tk⟩ (l.take (i+1)) (l.drop (i+1)) (o++(zaJ w ⟨ta,tk⟩ [nth l i] (l.take i)).getD []):=fun i o hi h=>by
  obtain⟨m,hm⟩:=Option.isSome_iff_exists.1 h;rw[zru hi hm,hm];rfl
 have hmany:∀i o,i<l.length→(zaJ w ⟨ta,tk⟩ [nth l i] (l.take i)).isSome=true→sepQ w ⟨ta,tk⟩ (l.take i) (l.drop i) o=sepV w ⟨ta,tk⟩ l→(400:Int)<(o.length:Int)+(((zaJ w ⟨ta,tk⟩ [nth l i] (l.take i)).getD []).length:Int)→sepV w ⟨ta,tk⟩ l=none:=fun i o hi h e h4=>by
  cases hv:sepV w ⟨ta,tk⟩ l with
  |none=>rfl
  |some res=>
   exfalso;have h1:=hfew res hv;rw[hv,hgood i o hi h] at e;have h2:=zuV _ _ _ e;rw[xaa] at h2;omega
 refine bd Tryz.f53 51 [] [] fun w0 F0 own kept hk=>?_;refine bx 3006 ?_;refine ev ?_;refine xbh 9 sl26 .none rfl rfl ?_;refine ev ?_;refine xaj (ι:=Nat×List Pat) hk (fun s=>[(11,.d (.i (s.1:Int))),(10,.gl 9 (Pat.cs s.2))]) [8,9,12,13,15,16,17,18,19,20,21,22,23,24,25,26,27,28,29,30,31,32,33,34,35,36,37,38,39,40,41,42,43,44,45,46,47,48,49] (fun s=>[(9,some (.tok ((Pat.cs s.2)).length 6))]) (fun s=>s.1≤l.length∧sepQ w ⟨ta,tk⟩ (l.take s.1) (l.drop s.1) s.2=sepV w ⟨ta,tk⟩ l∧s.2.length≤400*s.1) (fun s=>l.length-s.1) (0,[]) ⟨by simp,by simp,by simp⟩ ⟨⟨_,rfl,xap ?_⟩,⟨⟨_,rfl,LeA.glg ?_⟩,trivial⟩⟩ ⟨zab ?_,trivial⟩ (fun x=>rfl) (fun s hg1=>?_);iterate 3 focus (rfl)
 refine evc [] [] ?_;refine sq ?_ ?_<;>intro h1 h1p h1s;try simp only[Q,Pat.cs_len] at h1p
 refine ar ?_ (by(have h9:=hml s.1;(try simp only[Pat.cs_len]);constructor<;>omega));refine Walk.cut_lh (a:=s.1) (b:=(s.1+1)) sl26 .none rfl rfl rfl (by exact zbO _) rfl rfl rfl (by simp) (by omega) (by simp only[Pat.cs_len];omega) ?_;refine evd [] [] ?_;refine xaN (b:=s.1) sl26 .none rfl rfl rfl (by exact zbO _) rfl rfl (by(simp only[Pat.cs_len];omega)) ?_;refine wc zs5 (hc s.1 (by omega)) rfl rfl ?_;refine evd [] [] ?_;refine dr ?_;refine sq ?_ ?_<;>intro h2 h2p h2s;try simp only[Q,Pat.cs_len] at h2p
 refine sqT ?_;refine xbg sl26 .none rfl ?_;refine ev ?_;refine rn0 (r2 rfl rfl) (.tup (.cons (.eqd ?_) (.cons (.eqd ?_) .nil)));rotate_left 2;try simp only[Q,Pat.cs_len] at h2p
 refine ar ?_ (by(have h9:=hml s.1;(try simp only[Pat.cs_len]);constructor<;>omega));refine sq ?_ ?_<;>intro h4 h4p h4s;try simp only[Q,Pat.cs_len] at h4p
 refine xbg sl26 .none rfl ?_;refine ev ?_;refine rn0 (r2 rfl rfl) (.tup (.cons (.eqd ?_) (.cons (.eqd ?_) .nil)));rotate_left 2;try simp only[Q,Pat.cs_len] at h4p
 refine ap sl26 zz28 rfl rfl rfl (by exact zbO _) (by have h9:=hml s.1;simp only[Pat.cs_len];omega) ?_;refine ev ?_;refine ar ?_ (by(have h9:=hml s.1;(try simp only[Pat.cs_len]);constructor<;>omega));refine Exists.intro ((s.1+1,s.2++(zaJ w ⟨ta,tk⟩ [nth l s.1] (l.take s.1)).getD [])) ⟨(by
    refine⟨by dsimp only;omega, ?_, ?_⟩
    ·dsimp only;rw[←hgood s.1 s.2 (by omega) (by first|assumption|simpa using h2p)];exact hg1.2.1
    ·have:=hml s.1;dsimp only;rw[xaa];omega),(by dsimp only;omega),sx ⟨⟨_,rfl,xap ?_⟩,⟨⟨_,rfl,LeA.glg ?_⟩,trivial⟩⟩ ⟨zab ?_,trivial⟩⟩
 iterate 3 focus (first|(dsimp only;rw[xat,xat,xat,xaf];done)|(simp[Pat.cs_len];done))
 try simp only[Q,Pat.cs_len] at h1p
 refine rn0 (r2 rfl rfl) (.tup (.cons (.gld ?_) (.cons (.eqd ?_) .nil)));rotate_left 2;all_goals (first|(rw[show sepV w ⟨ta,tk⟩ l=none from by rw[←hg1.2.1];exact hbad s.1 s.2 (by omega) (by first|assumption|simpa using h2p)];rfl)|(rw[hmany s.1 s.2 (by omega) (by first|assumption|simpa using h2p) hg1.2.1 (by omega)];rfl)|(rw[show sepV w ⟨ta,tk⟩ l=some s.2 from by rw[←hg1.2.1];exact zsN (by omega)];rfl))
end
def zbD (w:List Data) (a k:Int) (p q:Pat):Bool:=(zaI w a k p&&isP w ⟨a,k⟩ q)&&(zcX p&&zcX q)
def minV (w:List Data) (a k:Int) (p q:Pat):Option (List Pat):=if zbD w a k p q=true then (match sepV w ⟨a,k⟩ (zaD p) with
  |none=>none
  |some r=>match zaJ w ⟨a,k⟩ r (zaD q) with
   |none=>none
   |some z=>if z.all (isP w ⟨a,k⟩)=true then some z else none) else none
theorem zcj {w:List Data} (hs:WSmall w){a k:Int}{p q:Pat} (h:zbD w a k p q=true):Spa w∧InS (w.length*4) ⟨a,k⟩∧(∀x∈zaD p,zae w 10 ⟨a,k⟩ x=true)∧(∀x∈zaD q,zae w 10 ⟨a,k⟩ x=true)∧zao w 10 ⟨a,k⟩ p=true∧zao w 10 ⟨a,k⟩ q=true∧
  zaD p=zas (zau p)∧zaD q=zas (zau q)∧zbu w ⟨a,k⟩=true∧isP w ⟨a,k⟩ p=true∧isP w ⟨a,k⟩ q=true:=by
 unfold zbD zaI zcX at h;simp only[xad,decide_eq_true_eq] at h;obtain⟨⟨⟨h1,h2⟩,h3⟩,h4,h5⟩:=h;have hp:=h2;have hq:=h3;unfold isP at h2 h3;rw[xad] at h2 h3;have hin:InS (w.length*4) ⟨a,k⟩:=by
  obtain⟨_,_,h6⟩:=zdY h1;by_cases ha:a = -1
  ·exact .inl ha
  ·obtain⟨h7,h8,h9,h10⟩:=h6 ha;have:=zx9 (n:=w.length) h8 (j:=k.toNat) (by omega);rwa [Int.toNat_of_nonneg h7,Int.toNat_of_nonneg h9] at this
 exact⟨zv7 hs (zdY h1).1,hin,zlN h2.1,zlN h3.1,h2.1,h3.1,by unfold zaD;rw[if_pos h4],by unfold zaD;rw[if_pos h5],h1,hp,hq⟩
theorem zgY {w:List Data} (hs:WSmall w){a k:Int}{p q:Pat} (hp:p.ok) (hq:q.ok):
  FnD Tryz.prog 46 [.d (zam w),.agg [.d (.i a),.d (.i k)],.agg [.d (.i p.op),.d (.i p.ctor),.d (.i p.n),.d (.i p.m),.d (.i p.var),.d (zac p.kids)],.agg [.d (.i q.op),.d (.i q.ctor),.d (.i q.n),.d (.i q.m),.d (.i q.var),.d (zac q.kids)]] []
   (.tup [.d (zac (if (zaI w a k p&&isP w ⟨a,k⟩ q)=true then zaD p else [])),.d (zac (if (zaI w a k p&&isP w ⟨a,k⟩ q)=true then zaD q else [])),.d (.bool (zbD w a k p q))]) []:=by
 have hpv:=zfE hs (a:=a) (k:=k) hp;have hshape:∀ {x:Pat},isP w ⟨a,k⟩ x=true→zao w 10 ⟨a,k⟩ x=true:=fun h=>by unfold isP at h;rw[xad] at h;exact h.1
 have hvp:zaI w a k p=true→zbu w ⟨a,k⟩=true∧isP w ⟨a,k⟩ p=true:=fun h=>by unfold zaI at h;rwa [xad] at h
 unfold zbD;by_cases h1:zaI w a k p=true
 ·obtain⟨h2,h3⟩:=hvp h1;have hok:=zeQ (zhW hs (zdY h2).1) (zdY h2).2.1 hq;have hpp:=zjK (hshape h3) hp;rw[h1] at hpv ⊢;by_cases h4:isP w ⟨a,k⟩ q=true
  ·have hpq:=zjK (hshape h4) hq;rw[h4] at hok ⊢;refine bd Tryz.f46 43 [] [] fun w0 F0 own kept hk=>?_;refine bx 3005 ?_;refine bx 3006 ?_;refine bx 3007 ?_;refine ev ?_;refine wc zp1 (hpv) rfl rfl ?_;refine ev ?_;refine sq ?_ ?_<;>intro h1 h1p h1s;try simp only[Q] at h1p
   refine sqT ?_;focus (exfalso;contradiction)
   try simp only[Q] at h1p
   refine Walk.call (cr:=[]) zp6 (hok) rfl (.some rfl rfl h1) rfl rfl (LeL.refl _) trivial rfl rfl rfl ?_;refine evs [] [(20,false)] ?_ ⟨⟨_,rfl,h1⟩,trivial⟩;refine sq ?_ ?_<;>intro h3 h3p h3s;try simp only[Q] at h3p
   focus (exfalso;contradiction)
   try simp only[Q] at h3p
   refine wc zwi (hpp) rfl rfl ?_;refine ev ?_;refine wc zwi (hpq) rfl rfl ?_;refine ev ?_;refine sq ?_ ?_<;>intro h4 h4p h4s;try simp only[Q] at h4p
   refine rn0 (.cons (.tmp rfl) (.cons (.tmp rfl) (.cons (.tmp rfl) .nil))) (.tup (.cons (.eqd ?_) (.cons (.eqd ?_) (.cons (.eqd ?_) .nil))));rotate_left 3;try simp only[Q] at h4p
   refine rn0 (.cons (.tmp rfl) (.cons (.tmp rfl) (.cons (.tmp rfl) .nil))) (.tup (.cons (.eqd ?_) (.cons (.eqd ?_) (.cons (.eqd ?_) .nil))));rotate_left 3;all_goals (first|rfl|(simp_all;done))
  ·have h4':isP w ⟨a,k⟩ q=false:=by simpa using h4
   rw[h4'] at hok ⊢;refine bd Tryz.f46 43 [] [] fun w0 F0 own kept hk=>?_;refine bx 3005 ?_;refine bx 3006 ?_;refine bx 3007 ?_;refine ev ?_;refine wc zp1 (hpv) rfl rfl ?_;refine ev ?_;refine sq ?_ ?_<;>intro h1 h1p h1s;try simp only[Q] at h1p
   refine sqT ?_;refine rn0 (.cons (.tmp rfl) (.cons (.tmp rfl) (.cons (.tmp rfl) .nil))) (.tup (.cons (.nild ?_) (.cons (.nild ?_) (.cons (.eqd ?_) .nil))));rotate_left 3;try simp only[Q] at h1p
   refine Walk.call (cr:=[]) zp6 (hok) rfl (.some rfl rfl h1) rfl rfl (LeL.refl _) trivial rfl rfl rfl ?_;refine evs [] [(20,false)] ?_ ⟨⟨_,rfl,h1⟩,trivial⟩;refine sq ?_ ?_<;>intro h3 h3p h3s;try simp only[Q] at h3p
   refine rn0 (.cons (.tmp rfl) (.cons (.tmp rfl) (.cons (.tmp rfl) .nil))) (.tup (.cons (.nild ?_) (.cons (.nild ?_) (.cons (.eqd ?_) .nil))));rotate_left 3;try simp only[Q] at h3p
   focus (exfalso;contradiction)
   all_goals (first|rfl|(simp_all;done))
 ·have h1':zaI w a k p=false:=by simpa using h1
  rw[h1'] at hpv ⊢;refine bd Tryz.f46 43 [] [] fun w0 F0 own kept hk=>?_;refine bx 3005 ?_;refine bx 3006 ?_;refine bx 3007 ?_;refine ev ?_;refine wc zp1 (hpv) rfl rfl ?_;refine ev ?_;refine sq ?_ ?_<;>intro h1 h1p h1s;try simp only[Q] at h1p
  refine sqT ?_;refine rn0 (.cons (.tmp rfl) (.cons (.tmp rfl) (.cons (.tmp rfl) .nil))) (.tup (.cons (.nild ?_) (.cons (.nild ?_) (.cons (.eqd ?_) .nil))));rotate_left 3;try simp only[Q] at h1p
  focus (exfalso;contradiction)
  all_goals (first|rfl|(simp_all;done))
theorem zpV {w:List Data} (hs:WSmall w){a k:Int}{p q:Pat} (hp:p.ok) (hq:q.ok) (hpz:p.size≤1000000000000) (hqz:q.size≤1000000000000):
  FnD Tryz.prog 51 [.d (zam w),.agg [.d (.i a),.d (.i k)],.agg [.d (.i p.op),.d (.i p.ctor),.d (.i p.n),.d (.i p.m),.d (.i p.var),.d (zac p.kids)],.agg [.d (.i q.op),.d (.i q.ctor),.d (.i q.n),.d (.i q.m),.d (.i q.var),.d (zac q.kids)]] []
   (.tup [.d (zac (if (zaI w a k p&&zaI w a k q)=true then zaZ (zau p) else [])),.d (zac (if (zaI w a k p&&zaI w a k q)=true then zaZ (zau q) else [])),.d (.bool (zbD w a k p q))]) []:=by
 have hpv:=zfS hs (a:=a) (k:=k) hp hpz;have hqv:=zfS hs (a:=a) (k:=k) hq hqz;have hshape:∀ {x:Pat},zaI w a k x=true→zao w 10 ⟨a,k⟩ x=true:=fun h=>by unfold zaI isP at h;simp only[xad] at h;exact h.2.1
 have hvq:zaI w a k p=true→zaI w a k q=isP w ⟨a,k⟩ q:=fun h=>by unfold zaI at h ⊢;rw[xad] at h;rw[h.1,Bool.true_and]
 have hge:=fun(x:Pat)=>zu2 (p:=x);unfold zbD;by_cases h1:zaI w a k p=true
 ·rw[←hvq h1];have hpp:=zim (hshape h1) hp;rw[h1] at hpv ⊢;by_cases h4:zaI w a k q=true
  ·have hpq:=zim (hshape h4) hq;rw[h4] at hqv ⊢;have e:∀x:Pat,zcX x=decide (((zaZ (zau x)).length:Int)≤40):=fun x=>by
    have:=hge x;cases hx:zcX x with
    |true=>
     rw[hx] at this;exact(decide_eq_true (Int.not_lt.1 fun h=>by have:=this.1 h;cases this)).symm
    |false=>
     rw[hx] at this;exact(decide_eq_false (Int.not_le.2 (this.2 rfl))).symm
   rw[e p,e q];refine bd Tryz.f51 39 [] [] fun w0 F0 own kept hk=>?_;refine bx 3005 ?_;refine bx 3006 ?_;refine bx 3007 ?_;refine ev ?_;refine wc zk7 (hpv) rfl rfl ?_;refine ev ?_;refine sq ?_ ?_<;>intro h1 h1p h1s;try simp only[Q,Pat.cs_len] at h1p
   refine sqT ?_;focus (exfalso;contradiction)
   try simp only[Q,Pat.cs_len] at h1p
   refine Walk.call (cr:=[]) zk7 (hqv) rfl (.some rfl rfl h1) rfl rfl (LeL.refl _) trivial rfl rfl rfl ?_;refine evs [] [(18,false)] ?_ ⟨⟨_,rfl,h1⟩,trivial⟩;refine sq ?_ ?_<;>intro h3 h3p h3s;try simp only[Q,Pat.cs_len] at h3p
   focus (exfalso;contradiction)
   try simp only[Q,Pat.cs_len] at h3p
   refine wc zwj (hpp) rfl rfl ?_;refine ev ?_;refine wc zwj (hpq) rfl rfl ?_;refine ev ?_;refine sq ?_ ?_<;>intro h4 h4p h4s;try simp only[Q,Pat.cs_len] at h4p
   refine rn0 (.cons (.tmp rfl) (.cons (.tmp rfl) (.cons (.tmp rfl) .nil))) (.tup (.cons (.eqd ?_) (.cons (.eqd ?_) (.cons (.eqd ?_) .nil))));rotate_left 3;try simp only[Q,Pat.cs_len] at h4p
   refine rn0 (.cons (.tmp rfl) (.cons (.tmp rfl) (.cons (.tmp rfl) .nil))) (.tup (.cons (.eqd ?_) (.cons (.eqd ?_) (.cons (.eqd ?_) .nil))));rotate_left 3;all_goals (first|(simp_all[Pat.cs_len];done)|(simp_all[Pat.cs_len];omega))
  ·have h4':zaI w a k q=false:=by simpa using h4
   rw[h4'] at hqv ⊢;refine bd Tryz.f51 39 [] [] fun w0 F0 own kept hk=>?_;refine bx 3005 ?_;refine bx 3006 ?_;refine bx 3007 ?_;refine ev ?_;refine wc zk7 (hpv) rfl rfl ?_;refine ev ?_;refine sq ?_ ?_<;>intro h1 h1p h1s;try simp only[Q] at h1p
   refine sqT ?_;refine rn0 (.cons (.tmp rfl) (.cons (.tmp rfl) (.cons (.tmp rfl) .nil))) (.tup (.cons (.nild ?_) (.cons (.nild ?_) (.cons (.eqd ?_) .nil))));rotate_left 3;try simp only[Q] at h1p
   refine Walk.call (cr:=[]) zk7 (hqv) rfl (.some rfl rfl h1) rfl rfl (LeL.refl _) trivial rfl rfl rfl ?_;refine evs [] [(18,false)] ?_ ⟨⟨_,rfl,h1⟩,trivial⟩;refine sq ?_ ?_<;>intro h3 h3p h3s;try simp only[Q] at h3p
   refine rn0 (.cons (.tmp rfl) (.cons (.tmp rfl) (.cons (.tmp rfl) .nil))) (.tup (.cons (.nild ?_) (.cons (.nild ?_) (.cons (.eqd ?_) .nil))));rotate_left 3;try simp only[Q] at h3p
   focus (exfalso;contradiction)
   all_goals (first|rfl|(simp_all;done))
 ·have h1':zaI w a k p=false:=by simpa using h1
  rw[h1'] at hpv ⊢;refine bd Tryz.f51 39 [] [] fun w0 F0 own kept hk=>?_;refine bx 3005 ?_;refine bx 3006 ?_;refine bx 3007 ?_;refine ev ?_;refine wc zk7 (hpv) rfl rfl ?_;refine ev ?_;refine sq ?_ ?_<;>intro h1 h1p h1s;try simp only[Q] at h1p
  refine sqT ?_;refine rn0 (.cons (.tmp rfl) (.cons (.tmp rfl) (.cons (.tmp rfl) .nil))) (.tup (.cons (.nild ?_) (.cons (.nild ?_) (.cons (.eqd ?_) .nil))));rotate_left 3;try simp only[Q] at h1p
  refine Walk.call (cr:=[]) zk7 (hqv) rfl (.some rfl rfl h1) rfl rfl (LeL.refl _) trivial rfl rfl rfl ?_;refine evs [] [(18,false)] ?_ ⟨⟨_,rfl,h1⟩,trivial⟩;refine sq ?_ ?_<;>intro h3 h3p h3s;try simp only[Q] at h3p
  refine rn0 (.cons (.tmp rfl) (.cons (.tmp rfl) (.cons (.tmp rfl) .nil))) (.tup (.cons (.nild ?_) (.cons (.nild ?_) (.cons (.eqd ?_) .nil))));rotate_left 3;try simp only[Q] at h3p
  focus (exfalso;contradiction)
  all_goals (first|rfl|(simp_all;done))
theorem zsT {w:List Data}{t:Ty}:∀(away l r:List Pat),l.length≤400→subL w t l away=some r→r.length≤400
 | [],l,r,hn,h=>by rw[subL] at h;cases h;exact hn
 |b::away,l,r,hn,h=>by
  rw[subL] at h;split at h
  ·rename_i h4;exact zsT away _ r h4 h
  ·cases h
theorem zoq {w:List Data}{a k:Int}{p q:Pat} (h:zbD w a k p q=false):minV w a k p q=none:=by unfold minV;rw[if_neg (by rw[h];simp)]
theorem zq8 {w:List Data}{a k:Int}{p q:Pat} (h:zbD w a k p q=true) (h2:sepV w ⟨a,k⟩ (zaD p)=none):minV w a k p q=none:=by unfold minV;rw[if_pos h,h2]
theorem zq9 {w:List Data}{a k:Int}{p q:Pat}{r:List Pat} (h:zbD w a k p q=true) (h2:sepV w ⟨a,k⟩ (zaD p)=some r) (h3:zaJ w ⟨a,k⟩ r (zaD q)=none):minV w a k p q=none:=by unfold minV;rw[if_pos h,h2];dsimp only;rw[h3]
theorem zra {w:List Data}{a k:Int}{p q:Pat}{r z:List Pat} (h:zbD w a k p q=true) (h2:sepV w ⟨a,k⟩ (zaD p)=some r) (h3:zaJ w ⟨a,k⟩ r (zaD q)=some z):minV w a k p q=if z.all (isP w ⟨a,k⟩)=true then some z else none:=by unfold minV;rw[if_pos h,h2];dsimp only;rw[h3]
theorem zr8 {z:List Pat}{b:Bool}:zac (if b=true then z else [])=zac ((if b=true then some z else none).getD [])∧b=(if b=true then some z else none:Option (List Pat)).isSome:=by cases b<;>exact⟨rfl,rfl⟩
theorem zfg {w:List Data} (hs:WSmall w){a k:Int}{p q:Pat} (hp:p.ok) (hq:q.ok) (hfew:zbD w a k p q=true→FewQ w ⟨a,k⟩ (zaD p)):
  FnD Tryz.prog 16 [.d (zam w),.agg [.d (.i a),.d (.i k)],.agg [.d (.i p.op),.d (.i p.ctor),.d (.i p.n),.d (.i p.m),.d (.i p.var),.d (zac p.kids)],.agg [.d (.i q.op),.d (.i q.ctor),.d (.i q.n),.d (.i q.m),.d (.i q.var),.d (zac q.kids)]] []
   (.tup [.d (zac ((minV w a k p q).getD [])),.d (.bool (minV w a k p q).isSome)]) []:=by
 have hbp:=zgY hs (a:=a) (k:=k) hp hq;cases h2:zbD w a k p q with
 |false=>
  rw[zoq h2];rw[h2] at hbp;generalize (if (zaI w a k p&&isP w ⟨a,k⟩ q)=true then zaD p else [])=z1 at hbp;generalize (if (zaI w a k p&&isP w ⟨a,k⟩ q)=true then zaD q else [])=z2 at hbp;refine bd Tryz.f16 51 [] [] fun w0 F0 own kept hk=>?_;refine bx 3005 ?_;refine bx 3006 ?_;refine bx 3007 ?_;refine ev ?_;refine wc zi4 (hbp) rfl rfl ?_;refine ev ?_;refine sq ?_ ?_<;>intro h1 h1p h1s;refine rn0 (r2 rfl rfl) (.tup (.cons (.nild ?_) (.cons (.eqd ?_) .nil)));rotate_left 2;focus (exfalso;contradiction)
  all_goals (rfl)
 |true=>
  obtain⟨hsp,hin,t1,t2,_⟩:=zcj hs h2;have hpq:(zaI w a k p&&isP w ⟨a,k⟩ q)=true:=by unfold zbD at h2;rw[xad] at h2;exact h2.1
  rw[h2,if_pos hpq,if_pos hpq] at hbp;have hn:=zgZ hsp.dp;have hse:=zhF hsp hin t1 (by have:=zdm p;omega);cases h3:sepV w ⟨a,k⟩ (zaD p) with
  |none=>
   rw[zq8 h2 h3];rw[h3] at hse;have hre:=zdG hsp (f:=zai w) hin (l:=[]) (ok:=false) (by simp) (by simp);refine bd Tryz.f16 51 [] [] fun w0 F0 own kept hk=>?_;refine bx 3005 ?_;refine bx 3006 ?_;refine bx 3007 ?_;refine ev ?_;refine wc zi4 (hbp) rfl rfl ?_;refine ev ?_;refine sq ?_ ?_<;>intro h1 h1p h1s;focus (exfalso;contradiction)
   refine wc zmL (hn) rfl rfl ?_;refine ev ?_;refine wc zmM (hse) rfl rfl ?_;refine ev ?_;refine sq ?_ ?_<;>intro h2 h2p h2s;focus (exfalso;contradiction)
   refine wc zmN (hre) rfl rfl ?_;refine ev ?_;refine rn0 (r2 rfl rfl) (.tup (.cons (.eqd ?_) (.cons (.eqd ?_) .nil)));rotate_left 2;all_goals (rfl)
  |some r=>
   rw[h3] at hse;have hr4:=hfew h2 r h3;have hrp:=zfr _ [] [] (by simp) t1 (by simp) h3;have hwo:=zia hsp hin hrp t2 hr4 (by have:=zdm q;omega);cases h4:zaJ w ⟨a,k⟩ r (zaD q) with
   |none=>
    rw[zq9 h2 h3 h4];rw[h4] at hwo;have hre:=zdG hsp (f:=zai w) hin (l:=[]) (ok:=false) (by simp) (by simp);refine bd Tryz.f16 51 [] [] fun w0 F0 own kept hk=>?_;refine bx 3005 ?_;refine bx 3006 ?_;refine bx 3007 ?_;refine ev ?_;refine wc zi4 (hbp) rfl rfl ?_;refine ev ?_;refine sq ?_ ?_<;>intro h1 h1p h1s;focus (exfalso;contradiction)
    refine wc zmL (hn) rfl rfl ?_;refine ev ?_;refine wc zmM (hse) rfl rfl ?_;refine ev ?_;refine sq ?_ ?_<;>intro h2 h2p h2s;refine wc zs3 (hwo) rfl rfl ?_;refine ev ?_;refine wc zmN (hre) rfl rfl ?_;refine ev ?_;refine rn0 (r2 rfl rfl) (.tup (.cons (.eqd ?_) (.cons (.eqd ?_) .nil)));rotate_left 2;focus (exfalso;contradiction)
    all_goals (rfl)
   |some z=>
    rw[zra h2 h3 h4];rw[h4] at hwo;have hz:=zd4 (zaD q) _ z (fun x hx=>hrp x (List.mem_filter.1 hx).1) (Nat.le_trans (List.length_filter_le _ _) hr4) t2 h4;have hre:=zdG hsp (f:=zai w) hin (l:=z) (ok:=true) (fun x hx=>(zeK hsp 11 hin (hz.2 x hx)).1) (by have:=hz.1;omega);rw[Bool.true_and] at hre;have ha:=fun b=>zr8 (z:=z) (b:=b);generalize z.all (isP w ⟨a,k⟩)=b at *;refine bd Tryz.f16 51 [] [] fun w0 F0 own kept hk=>?_;refine bx 3005 ?_;refine bx 3006 ?_;refine bx 3007 ?_;refine ev ?_;refine wc zi4 (hbp) rfl rfl ?_;refine ev ?_;refine sq ?_ ?_<;>intro h1 h1p h1s;focus (exfalso;contradiction)
    refine wc zmL (hn) rfl rfl ?_;refine ev ?_;refine wc zmM (hse) rfl rfl ?_;refine ev ?_;refine sq ?_ ?_<;>intro h2 h2p h2s;refine wc zs3 (hwo) rfl rfl ?_;refine ev ?_;refine wc zmN (hre) rfl rfl ?_;refine ev ?_;refine rn0 (r2 rfl rfl) (.tup (.cons (.eqd ?_) (.cons (.eqd ?_) .nil)));rotate_left 2;focus (exfalso;contradiction)
    all_goals (first|exact(ha b).1|exact congrArg D.bool (ha b).2)
theorem zfs {w:List Data} (hs:WSmall w){a k:Int}{p q:Pat} (hp:p.ok) (hq:q.ok) (hpz:p.size≤1000000000000) (hqz:q.size≤1000000000000) (hfew:zbD w a k p q=true→FewQ w ⟨a,k⟩ (zaD p)):
  FnD Tryz.prog 17 [.d (zam w),.agg [.d (.i a),.d (.i k)],.agg [.d (.i p.op),.d (.i p.ctor),.d (.i p.n),.d (.i p.m),.d (.i p.var),.d (zac p.kids)],.agg [.d (.i q.op),.d (.i q.ctor),.d (.i q.n),.d (.i q.m),.d (.i q.var),.d (zac q.kids)]] []
   (.tup [.d (zac ((minV w a k p q).getD [])),.d (.bool (minV w a k p q).isSome)]) []:=by
 have hbp:=zpV hs (a:=a) (k:=k) hp hq hpz hqz;cases h2:zbD w a k p q with
 |false=>
  rw[zoq h2];rw[h2] at hbp;generalize (if (zaI w a k p&&zaI w a k q)=true then zaZ (zau p) else [])=z1 at hbp;generalize (if (zaI w a k p&&zaI w a k q)=true then zaZ (zau q) else [])=z2 at hbp;refine bd Tryz.f17 59 [] [] fun w0 F0 own kept hk=>?_;refine bx 3005 ?_;refine bx 3006 ?_;refine bx 3007 ?_;refine ev ?_;refine wc zp2 (hbp) rfl rfl ?_;refine ev ?_;refine sq ?_ ?_<;>intro h1 h1p h1s;refine xbg sl26 .none rfl ?_;refine ev ?_;refine rn0 (r2 rfl rfl) (.tup (.cons (.eqd ?_) (.cons (.eqd ?_) .nil)));rotate_left 2;focus (exfalso;contradiction)
  all_goals (rfl)
 |true=>
  obtain⟨hsp,hin,t1,t2,_⟩:=zcj hs h2;have hpq:(zaI w a k p&&zaI w a k q)=true∧zcX p=true∧zcX q=true:=by
   unfold zbD at h2;simp only[xad] at h2;have h5:=h2.1.1;unfold zaI at h5 ⊢;rw[xad] at h5;exact⟨by rw[h5.1,h5.2,h2.1.2];rfl,h2.2⟩
  rw[h2,if_pos hpq.1,if_pos hpq.1,zpz hpq.2.1,zpz hpq.2.2] at hbp;have hn:=zij hsp.dp;have hse:=znU hsp hin t1 (by have:=zdm p;omega) (hfew h2);cases h3:sepV w ⟨a,k⟩ (zaD p) with
  |none=>
   rw[zq8 h2 h3];rw[h3] at hse;refine bd Tryz.f17 59 [] [] fun w0 F0 own kept hk=>?_;refine bx 3005 ?_;refine bx 3006 ?_;refine bx 3007 ?_;refine ev ?_;refine wc zp2 (hbp) rfl rfl ?_;refine ev ?_;refine sq ?_ ?_<;>intro h1 h1p h1s;focus (exfalso;contradiction)
   refine wc zp3 (hn) rfl rfl ?_;refine ev ?_;refine wc zs4 (hse) rfl rfl ?_;refine ev ?_;refine sq ?_ ?_<;>intro h2 h2p h2s;refine xbg sl26 .none rfl ?_;refine ev ?_;refine rn0 (r2 rfl rfl) (.tup (.cons (.eqd ?_) (.cons (.eqd ?_) .nil)));rotate_left 2;focus (exfalso;contradiction)
   all_goals (rfl)
  |some r=>
   rw[h3] at hse;have hr4:=hfew h2 r h3;have hrp:=zfr _ [] [] (by simp) t1 (by simp) h3;have hwo:=zgJ hsp hin hrp t2 hr4 (by have:=zdm q;omega);cases h4:zaJ w ⟨a,k⟩ r (zaD q) with
   |none=>
    rw[zq9 h2 h3 h4];rw[h4] at hwo;have hre:=zin hsp hin (l:=[]) (ok:=false) (by simp) (by simp);refine bd Tryz.f17 59 [] [] fun w0 F0 own kept hk=>?_;refine bx 3005 ?_;refine bx 3006 ?_;refine bx 3007 ?_;refine ev ?_;refine wc zp2 (hbp) rfl rfl ?_;refine ev ?_;refine sq ?_ ?_<;>intro h1 h1p h1s;focus (exfalso;contradiction)
    refine wc zp3 (hn) rfl rfl ?_;refine ev ?_;refine wc zs4 (hse) rfl rfl ?_;refine ev ?_;refine sq ?_ ?_<;>intro h2 h2p h2s;focus (exfalso;contradiction)
    refine wc zs5 (hwo) rfl rfl ?_;refine ev ?_;refine wc zwd (hre) rfl rfl ?_;refine ev ?_;refine rn0 (r2 rfl rfl) (.tup (.cons (.eqd ?_) (.cons (.eqd ?_) .nil)));rotate_left 2;all_goals (rfl)
   |some z=>
    rw[zra h2 h3 h4];rw[h4] at hwo;have hz:=zd4 (zaD q) _ z (fun x hx=>hrp x (List.mem_filter.1 hx).1) (Nat.le_trans (List.length_filter_le _ _) hr4) t2 h4;have hre:=zin hsp hin (l:=z) (ok:=true) (fun x hx=>⟨(zeK hsp 11 hin (hz.2 x hx)).1,by have:=(zeK hsp 11 hin (hz.2 x hx)).2;have:=zri (n:=11) (by omega);omega⟩) (by have:=hz.1;omega);rw[Bool.and_true] at hre;have ha:=fun b=>zr8 (z:=z) (b:=b);generalize z.all (isP w ⟨a,k⟩)=b at *;refine bd Tryz.f17 59 [] [] fun w0 F0 own kept hk=>?_;refine bx 3005 ?_;refine bx 3006 ?_;refine bx 3007 ?_;refine ev ?_;refine wc zp2 (hbp) rfl rfl ?_;refine ev ?_;refine sq ?_ ?_<;>intro h1 h1p h1s;focus (exfalso;contradiction)
    refine wc zp3 (hn) rfl rfl ?_;refine ev ?_;refine wc zs4 (hse) rfl rfl ?_;refine ev ?_;refine sq ?_ ?_<;>intro h2 h2p h2s;focus (exfalso;contradiction)
    refine wc zs5 (hwo) rfl rfl ?_;refine ev ?_;refine wc zwd (hre) rfl rfl ?_;refine ev ?_;refine rn0 (r2 rfl rfl) (.tup (.cons (.eqd ?_) (.cons (.eqd ?_) .nil)));rotate_left 2;all_goals (first|exact(ha b).1|exact congrArg D.bool (ha b).2)
end Go.Proofs.YtpgdedpljcedpaaGreat
namespace Go.Proofs.YtpgdedpljcedpaaGreat
open Go
set_option linter.unusedSimpArgs false
set_option linter.unusedVariables false
theorem zux (L:List Nat) (hp:Hp) (i:Nat):getH (L.map (fun j=>(j,(none:Option Res)))++hp) i=if i∈L then none else getH hp i:=by
 induction L with
 |nil=>simp
 |cons x r ih=>
  simp only[xae,xag,zal,List.mem_cons];by_cases h:i=x
  ·subst h;simp
  ·simp[h,ih]
section
variable {c:Ctx}
theorem R.drop {G:Gh}{s:St}{a:Act}{w:World} (hr:R c G s a w) (L:List Nat) (hk:∀i l,c.kept i=some l→i∉L):R c G ⟨s.env,L.map (fun j=>(j,none))++s.hp⟩ a w:=by
 have hg:=zux L s.hp;have hT:∀i p,tokf (L.map (fun j=>(j,(none:Option Res)))++s.hp) i=some p→tokf s.hp i=some p:=fun i p h=>by
  obtain⟨n,k⟩:=p;have:=zaw.1 h;rw[hg] at this;split at this
  ·cases this
  ·exact zaw.2 this
 have hm:∀ {x:AV}{v:Value},RelA G (tokf s.hp) w x v→RelA G (tokf (L.map (fun j=>(j,(none:Option Res)))++s.hp)) w x v:=fun hx=>
  hx.mono (fun _ _ ho=>⟨ho,rfl⟩) (fun _ _=> .inl rfl) (fun i _ p hp=>⟨hT i p hp,fun _ _=>⟨rfl,rfl⟩⟩)
 have hs:∀i r,getH (L.map (fun j=>(j,(none:Option Res)))++s.hp) i=some r→getH s.hp i=some r:=fun i r h=>by
  rw[hg] at h;split at h
  ·cases h
  ·exact h
 have hss:∀i,(getH (L.map (fun j=>(j,(none:Option Res)))++s.hp) i).isSome→(getH s.hp i).isSome:=fun i h=>by
  obtain⟨r,hr⟩:=Option.isSome_iff_exists.1 h;rw[hs i r hr];rfl
 refine⟨hr.size,hr.defers,fun i v h=>hm (hr.slots i v h),fun i r h=>?_,fun i j h1 h2=>hr.disj i j (hss i h1) (hss j h2),fun i h=>hr.new i (hss i h),hr.frm,hr.top,fun i l hl=>?_⟩
 ·have hh:=hr.heap i r (hs i r h);cases r with
  |box cs=>
   obtain⟨b,vs,e,h1,h2,h3,h4,h5⟩:=hh;exact⟨b,vs,e,h1,h2,h3,h4,fun j hj hv=>hm (h5 j hj hv)⟩
  |tok m k=>exact hh
  |map ks=>exact hh
  |tree cs=>exact zbt hh rfl (fun _ _=>⟨rfl,rfl⟩) (Nat.le_refl _) (fun _ _ _=>hm)
 ·obtain⟨k1,k2,k3⟩:=hr.kept i l hl;refine⟨k1, ?_, ?_⟩
  ·show(getH (L.map (fun j=>(j,(none:Option Res)))++s.hp) i).isSome
   rw[hg,if_neg (hk i l hl)];exact k2
  ·show tokf (L.map (fun j=>(j,(none:Option Res)))++s.hp) i=none
   cases h:tokf (L.map (fun j=>(j,(none:Option Res)))++s.hp) i with
   |none=>rfl
   |some p=>rw[hT i p h] at k3;cases k3
inductive RowT (hp:Hp):List AV→List D→List (Nat×Nat×Nat)→Prop
 |nil:RowT hp [] [] []
 |sc {x cs ds js} (hs:zli x=true) (h:RowT hp cs ds js):RowT hp (.d x::cs) (x::ds) js
 |ni {cs ds js} (h:RowT hp cs ds js):RowT hp (.nils::cs) (.sl []::ds) js
 |gt {j zs n k cs ds js} (hj:getH hp j=some (.tok n k)) (hn:n=zs.length) (h:RowT hp cs ds js):RowT hp (.gt j zs::cs) (.sl zs::ds) ((j,n,k)::js)
theorem RowT.move {hp hp':Hp}{cs:List AV}{ds:List D}{js:List (Nat×Nat×Nat)} (h:RowT hp cs ds js):(∀q,q∈js→getH hp' q.1=some (.tok q.2.1 q.2.2))→RowT hp' cs ds js:=by
 induction h with
 |nil=>intro _;exact .nil
 |sc hs _ ih=>intro h;exact .sc hs (ih h)
 |ni _ ih=>intro h;exact .ni (ih h)
 |gt hj hn _ ih=>intro h;exact .gt (h (_,_,_) List.mem_cons_self) hn (ih fun q hq=>h q (List.mem_cons_of_mem _ hq))
theorem RowT.len {hp:Hp}{cs:List AV}{ds:List D}{js:List (Nat×Nat×Nat)} (h:RowT hp cs ds js):ds.length=cs.length:=by
 induction h with
 |nil=>rfl
 |sc _ _ ih=>simp[ih]
 |ni _ ih=>simp[ih]
 |gt _ _ _ ih=>simp[ih]
end
end Go.Proofs.YtpgdedpljcedpaaGreat
namespace Go.Proofs.YtpgdedpljcedpaaGreat
open Go
set_option linter.unusedSimpArgs false
set_option linter.unusedVariables false
set_option maxRecDepth 100000
set_option maxHeartbeats 2000000
def smB (n:Nat) (w:List Data):Bool:=decide (w.length≤n)&&w.all fun d=>decide (d.name.length≤n)&&(decide (d.ctors.length≤n)&&d.ctors.all fun c=>decide (c.name.length≤n)&&decide (c.args.length≤n))
structure Sm (n:Nat) (w:List Data):Prop where
 len:w.length≤n
 data:∀d∈w,d.name.length≤n∧d.ctors.length≤n
 ctor:∀d∈w,∀c∈d.ctors,c.name.length≤n∧c.args.length≤n
theorem zuX {n:Nat}{w:List Data} (h:smB n w=true):Sm n w:=by
 simp only[smB,xad,decide_eq_true_eq,List.all_eq_true] at h;exact⟨h.1,fun d hd=>⟨(h.2 d hd).1,(h.2 d hd).2.1⟩,fun d hd c hc=>(h.2 d hd).2.2 c hc⟩
theorem Sm.small {n:Nat}{w:List Data} (h:Sm n w) (hn:n≤1000000000000):WSmall w:=
 ⟨Nat.le_trans h.len hn,fun d hd=>⟨Nat.le_trans (h.data d hd).1 hn,Nat.le_trans (h.data d hd).2 hn⟩,fun d hd c hc=>⟨Nat.le_trans (h.ctor d hd c hc).1 hn,Nat.le_trans (h.ctor d hd c hc).2 hn⟩⟩
theorem ztM:((List.range 7).all fun i=>smB 10 (zdl (nth zdH i)).1&&(za6 (zdl (nth zdH i)).1&&decide (1≤(zdl (nth zdH i)).1.length)))=true:=by kernel_rfl
structure WorldD (w:List Data):Prop where
 sm:Sm 10 w
 small:WSmall w
 valid:za6 w=true
 one:1≤w.length
theorem zgN (b:Str) (p:Nat):WorldD (za9 b p):=by
 have h:=List.all_eq_true.1 ztM (zay b p 7).toNat (List.mem_range.2 (zqb b p));simp only[xad,decide_eq_true_eq] at h;exact⟨zuX h.1,(zuX h.1).small (by omega),h.2.1,h.2.2⟩
theorem zoC {w:List Data} (hw:WT w){n:Nat}{f:Nat→Nat}{a k c:Int} (ht:TyIn w.length ⟨a,k⟩) (hc:c∈zah w ⟨a,k⟩) (hn:n≤100) (hb:∀s,f s≤100000) (hin:∀u∈zaa w ⟨a,k⟩ c,InS n u):
  FnD Tryz.prog 98 [.d (zam w),.d (zeT n f),.agg [.d (.i a),.d (.i k)],.d (.i c)] [] (.d (.i (most w f ⟨a,k⟩ c))) []:=by
 have hl:=zhu hw ht hc;have hd:=zp8 hb (by omega);refine bd Tryz.f98 37 [] [] fun w0 F0 own kept hk=>?_;refine bx 3006 ?_;refine ev ?_;refine wc zgy (zci hw ht hc) rfl rfl ?_;refine ev ?_;refine xaj (ι:=List (Ty)×List (Ty)×(Nat)) hk (fun x=>[(11,.d (.i (x.1.length:Int))),(10,.d (.i (x.2.2:Int)))]) [8,12,17,18,19,20,21,22,23,24,25,26,27,28,29,30,31,32,33,34] (fun x=>[]) (fun x=>x.1++x.2.1=zaa w ⟨a,k⟩ c∧x.2.2≤100000∧zby f x.2.2 x.2.1=zby f 0 (zaa w ⟨a,k⟩ c)) (fun x=>x.2.1.length) ([],zaa w ⟨a,k⟩ c,0) ⟨by simp,by simp,rfl⟩ ⟨⟨_,rfl,xap ?_⟩,⟨⟨_,rfl,xap ?_⟩,trivial⟩⟩ trivial (fun x=>rfl) (fun x hg1=>?_);iterate 2 focus (first|rfl|(simp;done)|omega|(dsimp only;omega))
 obtain⟨pre,rest,m⟩:=x;dsimp only at hg1 ⊢;refine evc [] [] ?_;refine sq ?_ ?_<;>intro h1 h1p h1s;try simp only[Q] at h1p
 rcases rest with _|⟨y,rest⟩
 ·exfalso;simp_all
 have hdy:=hd y;have hye:dv f ⟨y.data,y.index⟩=dv f y:=rfl;refine xaT zaY .none rfl rfl rfl rfl (zaL hg1.1) rfl ?_;refine ev ?_;refine wc zj4 (zeg (f:=f) (a:=y.data) (k:=y.index) (hin y (by rw[←hg1.1];simp)) hn) rfl rfl ?_;refine ev ?_;refine sq ?_ ?_<;>intro h2 h2p h2s;try simp only[Q] at h2p
 refine rn0 (r1 rfl) (.eqd ?_);rotate_left;try simp only[Q] at h2p
 refine sq ?_ ?_<;>intro h3 h3p h3s;try simp only[Q] at h3p
 refine ar ?_;refine Exists.intro ((pre++[y],rest,max m (dv f y))) ⟨⟨(by have hz:=hg1.1;rw[←hz];simp),⟨(by have:=hd y;dsimp only;omega),(by rw[←hg1.2.2];simp only[zby];rw[if_neg (by have:=hd y;omega)])⟩⟩,(by simp),sx ⟨⟨_,rfl,xap ?_⟩,⟨⟨_,rfl,xap ?_⟩,trivial⟩⟩ trivial⟩;iterate 2 focus (first|rfl|(simp;done)|omega|(dsimp only;omega))
 try simp only[Q] at h3p
 refine ar ?_;refine Exists.intro ((pre++[y],rest,max m (dv f y))) ⟨⟨(by have hz:=hg1.1;rw[←hz];simp),⟨(by have:=hd y;dsimp only;omega),(by rw[←hg1.2.2];simp only[zby];rw[if_neg (by have:=hd y;omega)])⟩⟩,(by simp),sx ⟨⟨_,rfl,xap ?_⟩,⟨⟨_,rfl,xap ?_⟩,trivial⟩⟩ trivial⟩;iterate 2 focus (first|rfl|(simp;done)|omega|(dsimp only;omega))
 try simp only[Q] at h1p
 have hrest:rest=[]:=by
  rcases rest with _|⟨a,b⟩
  ·rfl
  ·exfalso;have hz:=congrArg List.length (hg1.1);simp only[xaa,xab,xac] at hz;omega
 subst hrest;refine ar ?_;refine rn0 (r1 rfl) (.eqd ?_);rotate_left;all_goals (refine congrArg D.i ?_;unfold most;rw[←hg1.2.2];first|(simp only[zby];rw[if_pos (by omega)];rfl)|(simp only[zby];omega))
def hdB (w:List Data):Nat→Ty→Bool
 |0,_=>false
 |d+1,t=>decide (t.data = -1)||(zaP w t).any fun c=>decide (t.data≠ -1)&&(zaa w t c).all (hdB w d)
theorem zoj (w:List Data):∀(d:Nat) (t:Ty),hdB w d t=true↔Hd w d t
 |0,t=>by simp[hdB,Hd]
 |d+1,t=>by
  simp only[hdB,Hd,Bool.or_eq_true,decide_eq_true_eq,List.any_eq_true,xad,List.all_eq_true,zoj w d]
def Low (w:List Data):Prop:=∀s,zai w s≤3
theorem zya {w:List Data} (hd:Dp w) (h:(List.range (w.length*4)).all (fun s=> !hdB w 4 (tyS s)||hdB w 3 (tyS s))=true):Low w:=by
 intro s;by_cases hs:s<w.length*4
 ·obtain⟨h1,h2⟩:=zc0 hd.cl (w.length*4+1);by_cases h0:zai w s=0
  ·omega
  ·have hh:=h1 s hs (Nat.pos_of_ne_zero h0);have h3:=zkm hd.cl (d:=3) (by omega) (fun s hs hh=>by
    have:=List.all_eq_true.1 h s (List.mem_range.2 hs);rw[(zoj w 4 (tyS s)).2 hh] at this;exact(zoj w 3 _).1 (by simpa using this)) _ s hs hh
   by_cases h4:3≤w.length*4+1
   ·exact(h2 s hs 3 h4 h3).2
   ·omega
 ·have h0:=zjl (w:=w) (i:=s) (by omega) (w.length*4+1);show zbi w (w.length*4+1) s≤3
  omega
theorem ztN:((List.range 7).all fun i=>(List.range ((zdl (nth zdH i)).1.length*4)).all fun s=> !hdB (zdl (nth zdH i)).1 4 (tyS s)||hdB (zdl (nth zdH i)).1 3 (tyS s))=true:=by kernel_rfl
structure WorldL (w:List Data):Prop where
 dp:Dp w
 low:Low w
 few:Few w
theorem zdZ (b:Str) (p:Nat):WorldL (za9 b p):=by
 have ho:=zgN b p;have hd:=zmv ho.small ho.valid;exact⟨hd,zya hd (List.all_eq_true.1 ztN (zay b p 7).toNat (List.mem_range.2 (zqb b p))),zvd ho.small ho.valid⟩
theorem zuC {w:List Data} (hd:Dp w){t:Ty} (ht:InS (w.length*4) t) (hne:¬t.data = -1) (h:0<dv (zai w) t):∃c∈zah w t,0<most w (zai w) t c∧most w (zai w) t c=dv (zai w) t:=by
 obtain⟨h1,h2⟩:Snd w (zai w)∧Cmp w (w.length*4+1) (zai w):=zc0 hd.cl (w.length*4+1);have hcmp:∀k,Cmp w k (zai w):=fun k=>by
  have h3:=(zc0 hd.cl (max k (w.length*4+1))).2;rw[zlf hd.cl (Nat.le_max_right _ _)] at h3;exact fun s hs d hdk hh=>h3 s hs d (by omega) hh
 have hv:zah w t=zaP w t:=by unfold zah;rw[if_neg hne]
 have hh:Hd w (dv (zai w) t) t:=zmU h1 ht h;rcases hd0:dv (zai w) t with _|e
 ·omega
 rw[hd0] at hh;rcases hh with hh|⟨c,hc,_,hu⟩
 ·exact absurd hh hne
 have hin:=zbo hd ht (c:=c) (by rw[hv];exact hc);have hp:=zkz (f:=zai w) (l:=zaa w t c) (m:=0) (k:=e) (Nat.zero_le _) (fun u hu'=>zkh (hcmp e) (hin u hu') (hu u hu'));refine⟨c,by rw[hv];exact hc,hp.1, ?_⟩;have hle:most w (zai w) t c≤e+1:=hp.2;have hpos:0<most w (zai w) t c:=hp.1

 have hsn:=zid (f:=zai w) (l:=zaa w t c) (m:=0) hp.1;have hH:Hd w (most w (zai w) t c) t:=by
  obtain⟨q,hq⟩:∃q,most w (zai w) t c=q+1:=⟨most w (zai w) t c-1,by omega⟩;rw[hq];refine .inr ⟨c,hc,hne,fun u hu'=>?_⟩;have hx:=hsn.2 u hu';have hlt:dv (zai w) u<most w (zai w) t c:=hx.2;exact Hd_le (by omega) (zmU h1 (hin u hu') hx.1)
 have hge:=(zkh (hcmp _) ht hH).2;omega
def zeE (w:List Data) (f:Nat→Nat) (t:Ty) (m c:Int):Bool:=decide (0<most w f t c)&&decide ((most w f t c:Int)≤m∨most w f t c=dv f t)
def zb8 (w:List Data) (f:Nat→Nat) (t:Ty) (m:Int):List Int:=(zah w t).filter (zeE w f t m)
theorem zqO {P:Int→Bool}{pre:List Int}{y:Int} (h:P y=true):((pre++[y]).filter P).map (fun n=>[D.i n])=(pre.filter P).map (fun n=>[D.i n])++[[D.i y]]:=by simp[List.filter_append,h]
theorem zwS {P:Int→Bool}{pre:List Int}{y:Int} (h:P y=false):((pre++[y]).filter P).map (fun n=>[D.i n])=(pre.filter P).map (fun n=>[D.i n]):=by simp[List.filter_append,h]
def dV (f:Ty→Nat→Val×Nat):List Ty→Nat→List Val×Nat
 | [],q=>([],q)
 |t::r,q=>((f t q).1::(dV f r (f t q).2).1,(dV f r (f t q).2).2)
def zbU (b:Str) (w:List Data) (f:Nat→Nat):Nat→Ty→Int→Nat→Val×Nat
 |0,_,_,p=>(.mk 0 0 [],p)
 |n+1,t,m,p=>
  if t.data = -1 then (.mk (-1) (zay b p 10) [],p+1)
  else (.mk (nth (zb8 w f t m) (zay b p (zb8 w f t m).length).toNat) 0 (dV (fun u q=>zbU b w f n u (m-1) q) (zaa w t (nth (zb8 w f t m) (zay b p (zb8 w f t m).length).toNat)) (p+1)).1,
   (dV (fun u q=>zbU b w f n u (m-1) q) (zaa w t (nth (zb8 w f t m) (zay b p (zb8 w f t m).length).toNat)) (p+1)).2)
abbrev dW (b:Str) (w:List Data) (n:Nat) (m:Int):Ty→Nat→Val×Nat:=fun u x=>zbU b w (zai w) n u (m-1) x
def bdV:Nat→Nat
 |0=>0
 |d+1=>1+3*bdV d
def szV:Nat→Nat
 |0=>1
 |d+1=>1+3*szV d
theorem zwq {f:Ty→Nat→Val×Nat}{k:Nat}:∀(l:List Ty) (q:Nat),(∀t∈l,∀q,(f t q).2≤q+k)→(dV f l q).2≤q+l.length*k
 | [],q,_=>by simp[dV]
 |t::r,q,h=>by
  have h1:=h t (by simp) q;have h2:=zwq r (f t q).2 (fun x hx=>h x (by simp[hx]));simp only[dV,xab,Nat.add_mul];omega
theorem zum {f:Ty→Nat→Val×Nat}:∀(l:List Ty) (q:Nat),(dV f l q).1.length=l.length
 | [],q=>rfl
 |t::r,q=>by simp only[dV,xab,zum r]
theorem zwr {f:Ty→Nat→Val×Nat}{k:Nat}:∀(l:List Ty) (q:Nat),(∀t∈l,∀q,(f t q).1.size≤k∧(f t q).1.ok)→Vals.size (dV f l q).1≤l.length*k∧Vals.ok (dV f l q).1
 | [],q,_=>by simp[dV,Vals.size,Vals.ok]
 |t::r,q,h=>by
  have h1:=h t (by simp) q;have h2:=zwr r (f t q).2 (fun x hx=>h x (by simp[hx]));simp only[dV,xab,Nat.add_mul,Vals.size,Vals.ok];exact⟨by omega,h1.2,h2.2⟩
theorem zkk {w:List Data}{f:Nat→Nat}{t:Ty}{m c:Int} (h:c∈zb8 w f t m):c∈zah w t∧0<most w f t c∧((most w f t c:Int)≤m∨most w f t c=dv f t):=by
 have:=List.mem_filter.1 h;simpa [zeE] using this
structure Deep (w:List Data) (n:Nat) (t:Ty) (m:Int):Prop where
 ins:InS (w.length*4) t
 pos:0<dv (zai w) t
 le:dv (zai w) t≤n
 ml:m≤n
theorem zqN {w:List Data} (hd:Dp w){n:Nat}{t:Ty}{m:Int} (h:Deep w n t m) (hne:¬t.data = -1):1≤(zb8 w (zai w) t m).length:=by
 obtain⟨c,hc,h1,h2⟩:=zuC hd h.ins hne h.pos;exact List.length_pos_of_mem (a:=c) (List.mem_filter.2 ⟨hc,by have:=h.pos;simp[zeE,h2,this]⟩)
theorem zqH {w:List Data} (hd:Dp w){n:Nat}{t:Ty}{m c:Int} (h:Deep w (n+1) t m) (hc:c∈zb8 w (zai w) t m):∀u∈zaa w t c,Deep w n u (m-1):=by
 intro u hu;obtain⟨h1,h2,h3⟩:=zkk hc;have hin:=zbo hd h.ins h1 u hu;have hs:=(zid (f:=zai w) (l:=zaa w t c) (m:=0) h2).2 u hu;have hlt:dv (zai w) u<most w (zai w) t c:=hs.2;have:=h.le;have:=h.ml;exact⟨hin,hs.1,by rcases h3 with h3|h3<;>omega,by omega⟩
theorem zpt {w:List Data} (hd:Dp w){n:Nat}{t:Ty}{m:Int} (h:Deep w n t m) (hne:¬t.data = -1) (b:Str) (p:Nat):nth (zb8 w (zai w) t m) (zay b p (zb8 w (zai w) t m).length).toNat∈zb8 w (zai w) t m:=
 zjv (by have:=zqN hd h hne;omega)
theorem zjc {b:Str}{w:List Data} (hd:Dp w) (hf:Few w):∀(n:Nat) (t:Ty) (m:Int) (p:Nat),Deep w n t m→(zbU b w (zai w) n t m p).2≤p+bdV n∧(zbU b w (zai w) n t m p).1.size≤szV n∧(zbU b w (zai w) n t m p).1.ok
 |0,t,m,p,h=>by have:=h.pos;have:=h.le;omega
 |n+1,t,m,p,h=>by
  simp only[zbU,bdV,szV];split
  ·refine⟨by dsimp only;omega, ?_, ?_⟩
   ·simp only[Val.size,Vals.size];omega
   ·simp[Val.ok,Vals.ok]
  ·rename_i hne;have hm:=zpt hd h hne b p;generalize nth (zb8 w (zai w) t m) (zay b p (zb8 w (zai w) t m).length).toNat=c at *;have hk:=zqH hd h hm;have h3:=(hf t c (zkk hm).1 (zb2 h.ins)).1;have h1:=zwq (f:=fun u q=>zbU b w (zai w) n u (m-1) q) (k:=bdV n) (zaa w t c) (p+1) (fun u hu q=>(zjc hd hf n u (m-1) q (hk u hu)).1);have h2:=zwr (f:=fun u q=>zbU b w (zai w) n u (m-1) q) (k:=szV n) (zaa w t c) (p+1) (fun u hu q=>(zjc hd hf n u (m-1) q (hk u hu)).2);have h4:(zaa w t c).length*bdV n≤3*bdV n:=Nat.mul_le_mul_right _ h3;have h5:(zaa w t c).length*szV n≤3*szV n:=Nat.mul_le_mul_right _ h3;have h6:=zum (f:=fun u q=>zbU b w (zai w) n u (m-1) q) (zaa w t c) (p+1);refine⟨by dsimp only;omega, ?_, ?_⟩
   ·simp only[Val.size];omega
   ·simp only[Val.ok];exact⟨by omega,h2.2⟩
section
variable {b:Str}{w:List Data}{f:Nat→Nat}{n p:Nat}{t:Ty}{m:Int}
theorem zwQ (h:t.data = -1):zbU b w f (n+1) t m p=(.mk (-1) (zay b p 10) [],p+1):=by simp only[zbU];rw[if_pos h]
theorem zwR (h:¬t.data = -1){c:Int} (hc:nth (zb8 w f t m) (zay b p (zb8 w f t m).length).toNat=c):zbU b w f (n+1) t m p =
  (.mk c 0 (dV (fun u q=>zbU b w f n u (m-1) q) (zaa w t c) (p+1)).1,(dV (fun u q=>zbU b w f n u (m-1) q) (zaa w t c) (p+1)).2):=by
 simp only[zbU];rw[if_neg h,hc]
end
theorem ziU {b:Str}{w:List Data} (hb:b.length≤2000) (hd:Dp w) (hf:Few w):∀(n:Nat){a k m:Int}{p:Nat},Deep w n ⟨a,k⟩ m→(n:Int)-10≤m→n≤5→p+bdV n≤1000000→
  FnD Tryz.prog 189 [.ref 900 0,.d (zam w),.d (zeT (w.length*4) (zai w)),.agg [.d (.i a),.d (.i k)],.d (.i m)] [(900,some (rdB b p))]
   (.agg [.d (.i (zbU b w (zai w) n ⟨a,k⟩ m p).1.ctor),.d (.i (zbU b w (zai w) n ⟨a,k⟩ m p).1.num),.d (zbJ (zbU b w (zai w) n ⟨a,k⟩ m p).1.kids)]) [(900,some (rdB b (zbU b w (zai w) n ⟨a,k⟩ m p).2))]
 |0,a,k,m,p,h,_,_,_=>by have:=h.pos;have:=h.le;omega
 |n+1,a,k,m,p,h,hm,hn5,hp=>by
  have ht:=zb2 h.ins;have hml:=h.ml;have h4:=hd.four;have hbd:bdV (n+1)=1+3*bdV n:=rfl;have hfb:∀s,zai w s≤100000:=zos hd (k:=w.length*4+1) (s:=0) (by omega) (by omega) (pre:=[]) (by simp);have hcl:=zhj hd.wt ht;have hfl:(zb8 w (zai w) ⟨a,k⟩ m).length≤(zah w ⟨a,k⟩).length:=List.length_filter_le _ _;have hflm:((((zah w ⟨a,k⟩).filter (zeE w (zai w) ⟨a,k⟩ m)).map fun n=>[D.i n]).length:Int)=(zb8 w (zai w) ⟨a,k⟩ m).length:=by rw[xac];rfl
  have hfp:=fun hne=>zqN hd h hne;have v14:=fun hh=>zc2 (b:=b) (p:=p) (n:=((zb8 w (zai w) ⟨a,k⟩ m).length:Int)) hh;have hmem:=fun hne=>zpt hd h hne b p;have hdm:=zwQ (b:=b) (w:=w) (f:=zai w) (n:=n) (p:=p) (t:=⟨a,k⟩) (m:=m);have hdm2:=fun hne=>zwR (b:=b) (w:=w) (f:=zai w) (n:=n) (p:=p) (t:=⟨a,k⟩) (m:=m) hne rfl;generalize hcc:nth (zb8 w (zai w) ⟨a,k⟩ m) (zay b p (zb8 w (zai w) ⟨a,k⟩ m).length).toNat=cc at *;have hfm:=fun hne=>zkk (hmem hne);have hkid:=fun hne=>zqH hd h (hmem hne);have hfw:=fun hne=>(hf ⟨a,k⟩ cc (hfm hne).1 ht).1;have hok:=fun u q hu=>zjc (b:=b) hd hf n u (m-1) q hu;have hat:¬a = -1→(((zah w ⟨a,k⟩).filter (zeE w (zai w) ⟨a,k⟩ m)).map fun n=>[D.i n])[(zay b p (zb8 w (zai w) ⟨a,k⟩ m).length).toNat]?=some [D.i cc]:=fun hne=>by
   rw[←hcc];exact zat (l:=zb8 w (zai w) ⟨a,k⟩ m) (by have:=v14 (by have:=hfp hne;omega);omega)
  refine bd Tryz.f189 98 [] [9,11] fun w0 F0 own kept hk=>?_;refine bx 3008 ?_;refine ab 3010 tz44 ?_;refine tv ?_;refine sq ?_ ?_<;>intro h1 h1p h1s;try simp only[Q] at h1p
  refine wd zdy (zbl (p:=p) (n:=10) hb (by omega) (by omega)) rfl rfl ⟨rfl,trivial⟩ ?_;refine bu [0,1] [_,_] st44 ?_;refine so ty44 ?_;refine tv ?_;refine rn [(900,some (rdB b (zbU b w (zai w) (n+1) ⟨a,k⟩ m p).2))] (.cons (.cellA ty44 rfl rfl rfl) .nil) (.agg (.cons (.eqd ?_) (.cons (.eqd ?_) (.cons (.nild ?_) .nil)))) ⟨rfl,rfl⟩ (SubO.get ⟨.inr ?_,⟨.inl rfl,trivial⟩⟩) (zaz rfl);rotate_left 4;try simp only[Q] at h1p
  refine wc zh3 (zb7 hd.wt ht) rfl rfl ?_;refine ev ?_;refine xbh 5 sl62 .none rfl rfl ?_;refine ev ?_;refine xaj (ι:=List (Int)×List (Int)) hk (fun x=>[(13,.d (.i (x.1.length:Int))),(12,.gl 5 ((x.1.filter (zeE w (zai w) ⟨a,k⟩ m)).map fun n=>[D.i n]))]) [14,28,29,30,31,32,33,34,35,36,37,38,39,40,41,42,43,44,45,46,47,48,49,50,51,52,53,54,55,56,57,58,59,60,61,62] (fun x=>[(5,some (.tok (((x.1.filter (zeE w (zai w) ⟨a,k⟩ m)).map fun n=>[D.i n])).length 1))]) (fun x=>x.1++x.2=zah w ⟨a,k⟩) (fun x=>x.2.length) ([],zah w ⟨a,k⟩) (by simp) ⟨⟨_,rfl,xap ?_⟩,⟨⟨_,rfl,LeA.glg ?_⟩,trivial⟩⟩ ⟨zab ?_,trivial⟩ (fun x=>rfl) (fun x hg1=>?_);iterate 3 focus (rfl)
  obtain⟨pre,rest⟩:=x;dsimp only at hg1 ⊢;refine evc [] [9,11] ?_;refine sq ?_ ?_<;>intro h2 h2p h2s;try simp only[Q] at h2p
  rcases rest with _|⟨y,rest⟩
  ·exfalso;simp_all
  refine xaT sl62 .none rfl rfl rfl rfl (zaL hg1) rfl ?_;refine evd [] [] ?_;refine wc zwl (zoC hd.wt ht (c:=y) (by rw[←hg1];simp) (by omega) hfb (zbo hd h.ins (by rw[←hg1];simp))) rfl rfl ?_;refine evd [] [] ?_;refine dr ?_;refine xak ?_;refine xay 14 [(55,.d (.bool (zeE w (zai w) ⟨a,k⟩ m y)))] [42,43,44,45,46,47,48,49,50,51,52,53,54] ?_ ?_;refine ev ?_;refine sq ?_ ?_<;>intro h3 h3p h3s;try simp only[Q] at h3p
  refine sq ?_ ?_<;>intro h4 h4p h4s;try simp only[Q] at h4p
  focus (exact jn rfl (xao (by(unfold zeE;rw[Bool.eq_iff_iff];simp_all;done))))
  try simp only[Q] at h4p
  refine Walk.call (cr:=[]) zj4 (zeg h.ins (by omega)) rfl (.some rfl rfl h4) rfl rfl (LeL.refl _) trivial rfl rfl rfl ?_;refine evs [] [(44,true),(48,false)] ?_ ⟨⟨_,rfl,h3⟩,⟨_,rfl,h4⟩,trivial⟩;focus (exact jn rfl (xao (by(unfold zeE;rw[Bool.eq_iff_iff];simp_all;omega))))
  try simp only[Q] at h3p
  focus (exact jn rfl (xao (by(unfold zeE;rw[Bool.eq_iff_iff];simp_all;done))))
  refine xax ?_;refine tv ?_;refine sq ?_ ?_<;>intro h5 h5p h5s;try simp only[Q] at h5p
  refine xaT sl62 .none rfl rfl rfl rfl (zaL hg1) rfl ?_;refine ev ?_;refine si [0] [_] sl62 tz3 ?_;refine ap sl62 zz3 rfl rfl rfl (by simp) (by(have hz:=congrArg List.length hg1;have hq:=List.length_filter_le (zeE w (zai w) ⟨a,k⟩ m) pre;simp at hz ⊢;omega)) ?_;refine ev ?_;refine ar ?_;refine Exists.intro ((pre++[y],rest)) ⟨(by have hz:=hg1;rw[←hz];simp),(by simp),sx ⟨⟨_,rfl,xap ?_⟩,⟨⟨_,rfl,LeA.glg ?_⟩,trivial⟩⟩ ⟨zab ?_,trivial⟩⟩;iterate 3 focus (first|(simp;done)|(rw[zqO (by assumption)];all_goals rfl)|(rw[zqO (by assumption)];simp;done))
  try simp only[Q] at h5p
  refine ar ?_;refine Exists.intro ((pre++[y],rest)) ⟨(by have hz:=hg1;rw[←hz];simp),(by simp),sx ⟨⟨_,rfl,xap ?_⟩,⟨⟨_,rfl,LeA.glg ?_⟩,trivial⟩⟩ ⟨zab ?_,trivial⟩⟩;iterate 3 focus (first|(simp;done)|(rw[zwS (by assumption)];all_goals rfl))
  try simp only[Q] at h2p
  have hrest:rest=[]:=by
   rcases rest with _|⟨a,b⟩
   ·rfl
   ·exfalso;have hz:=congrArg List.length (hg1);simp only[xaa,xab,xac] at hz;omega
  subst hrest;rw[List.append_nil] at hg1;subst hg1;refine evc [] [] ?_;refine wd zdy (zbl (p:=p) (n:=((((zah w ⟨a,k⟩).filter (zeE w (zai w) ⟨a,k⟩ m)).map fun n=>[D.i n]).length:Int)) hb (by omega) (by omega)) rfl rfl ⟨rfl,trivial⟩ ?_;refine xaW (i:=(zay b p (zb8 w (zai w) ⟨a,k⟩ m).length).toNat) sl62 .none rfl rfl rfl (by rw[hflm];have:=v14 (by have:=hfp (by omega);omega);omega) (hat (by omega)) rfl ?_;refine ev ?_;refine bu [0] [_] st44 ?_;refine ab 3015 tz44 ?_;refine so ty44 ?_;refine tv ?_;refine wc zgy (zci hd.wt ht (hfm (by omega)).1) rfl rfl ?_;refine ev ?_;refine xam 3015 2 1 3 rfl rfl rfl rfl ?_;refine xaj (ι:=List (Ty)×List (Ty)×(Nat)×(List Val)) hk (fun x=>[(17,.d (.i (x.1.length:Int)))]) [76,77,78,79,80,81,82,83,84,85,86,87,88,89,90,91,92,93,94,95,96] (fun x=>[(900,some (.box [.d (zcF b),.d (.i (x.2.2.1:Int))])),(3015,some (.box [.d (.i cc),.d (.i 0),.gl 1 (x.2.2.2.map Val.cc)])),(1,some (.tok (x.2.2.2.map Val.cc).length 3))]) (fun x=>x.1++x.2.1=zaa w ⟨a,k⟩ cc∧x.2.2.1≤p+1+x.1.length*bdV n∧x.2.2.2.length=x.1.length∧(x.2.2.2++(dV (dW b w n m) x.2.1 x.2.2.1).1,(dV (dW b w n m) x.2.1 x.2.2.1).2)=dV (dW b w n m) (zaa w ⟨a,k⟩ cc) (p+1)) (fun x=>x.2.1.length) ([],zaa w ⟨a,k⟩ cc,p+1,[]) ⟨by simp,by simp,by simp,by simp⟩ ⟨⟨_,rfl,xap ?_⟩,trivial⟩ ⟨?_,⟨?_,⟨zab ?_,trivial⟩⟩⟩ (fun x=>rfl) (fun x hg2=>?_);focus (rfl)
  iterate 2 focus (first|rfl|(simp[getH];done))
  focus (rfl)
  obtain⟨pre,rest,q,ks⟩:=x;dsimp only at hg2 ⊢;refine evc [] [9,11] ?_;refine sq ?_ ?_<;>intro h6 h6p h6s;try simp only[Q] at h6p
  rcases rest with _|⟨y,rest⟩
  ·exfalso;simp_all
  have hfw3:=hfw (by omega);have hpm:pre.length*bdV n≤2*bdV n:=Nat.mul_le_mul_right _ (by have hz:=congrArg List.length hg2.1;have:=hfw (by omega);simp at hz;omega);refine xaT zaY .none rfl rfl rfl rfl (zaL hg2.1) rfl ?_;refine evd [] [] ?_;refine ar ?_;refine wd zqz (ziU hb hd hf n (a:=y.data) (k:=y.index) (m:=m-1) (p:=q) (hkid (by omega) y (by rw[←hg2.1];simp)) (by omega) (by omega) (by omega)) rfl rfl ⟨rfl,trivial⟩ ?_;refine si [0] [_] sl37 tz44 ?_;refine ap sl37 zz44 rfl rfl rfl (by simp) (by(have hz:=congrArg List.length hg2.1;have:=hfw (by omega);simp at hz ⊢;omega)) ?_;refine evd [] [] ?_;refine so ty37 ?_;refine dr ?_;refine ar ?_;refine Exists.intro ((pre++[y],rest,(zbU b w (zai w) n y (m-1) q).2,ks++[(zbU b w (zai w) n y (m-1) q).1])) ⟨⟨(by have hz:=hg2.1;rw[←hz];simp),⟨(by have:=(hok y q (hkid (by omega) y (by rw[←hg2.1];simp))).1;simp only[xaa,xab,xah,Nat.add_mul];omega),(by simp[hg2.2.2.1]),(by rw[←hg2.2.2.2];simp[dV])⟩⟩,(by simp),sx ⟨⟨_,rfl,xap ?_⟩,trivial⟩ ⟨?_,⟨?_,⟨zab ?_,trivial⟩⟩⟩⟩;focus ((simp;done))
  iterate 2 focus (first|rfl|(simp[getH];done))
  focus ((simp;done))
  try simp only[Q] at h6p
  have hrest:rest=[]:=by
   rcases rest with _|⟨a,b⟩
   ·rfl
   ·exfalso;have hz:=congrArg List.length (hg2.1);simp only[xaa,xab,xac] at hz;omega
  subst hrest;refine so ty44 ?_;refine tv ?_;refine rn [(900,some (rdB b (zbU b w (zai w) (n+1) ⟨a,k⟩ m p).2))] (.cons (.cellA ty44 rfl rfl rfl) .nil) (.agg (.cons (.eqd ?_) (.cons (.eqd ?_) (.cons (.gld ?_) .nil)))) ⟨rfl,rfl⟩ (SubO.get ⟨.inr ?_,⟨.inl rfl,trivial⟩⟩) (zaz rfl);rotate_left 4;all_goals (((first|(rw[hdm (by omega)];all_goals rfl)|(rw[hdm2 (by omega)];have hfin:=hg2.2.2.2;simp only[dV,List.append_nil] at hfin;rw[←hfin];all_goals first|rfl|(show _=D.sl (Val.cs _);rw[Val.cs_cc];all_goals rfl)|(show _=Val.cs _;rw[Val.cs_cc];all_goals rfl)));done))
def zfW (b:Str) (p:Nat):Ty:=⟨zay b (p+1) (za9 b p).length,numV b (p+2) [0,0,1,2]⟩
def typT (b:Str) (p:Nat):Ty:=if dv (zai (za9 b p)) (zfW b p)=0 then ⟨-1,0⟩ else zfW b p
def typV (b:Str) (p:Nat):Val×Nat:=zbU b (za9 b p) (zai (za9 b p)) 4 (typT b p) (numV b (p+3) [3,2,4,1]) (p+4)
theorem zx8 {n:Nat}{a k:Int} (h1:0≤a) (h2:a<n) (h3:0≤k) (h4:k≤3):InS (n*4) ⟨a,k⟩:=by
 refine .inr ⟨?_, ?_⟩
 ·simp only[zcu];omega
 ·obtain⟨i,rfl⟩:=Int.eq_ofNat_of_zero_le h1;obtain⟨m,rfl⟩:=Int.eq_ofNat_of_zero_le h3;simp only[zcu,Int.toNat_natCast];exact zhV (by omega)
theorem zw1 (b:Str) (p:Nat):0≤numV b p [0,0,1,2]∧numV b p [0,0,1,2]≤3:=by
 have:=zmg (b:=b) (p:=p) (l:=[0,0,1,2]) (by simp);simp only[List.mem_cons,List.not_mem_nil,or_false] at this;omega
theorem zrM (b:Str) (p:Nat):InS ((za9 b p).length*4) (zfW b p):=by
 have h1:=zc2 (b:=b) (p:=p+1) (n:=((za9 b p).length:Int)) (by have:=(zgN b p).one;omega);have h2:=zw1 b (p+2);exact zx8 h1.1 h1.2 h2.1 h2.2
theorem zk0 (b:Str) (p:Nat):Deep (za9 b p) 4 (typT b p) (numV b (p+3) [3,2,4,1]):=by
 have hl:=zdZ b p;have h4:=num4 b (p+3);unfold typT;split
 ·exact⟨.inl rfl,by simp[dv],by simp[dv],by omega⟩
 ·rename_i h;have:=zp8 (f:=zai (za9 b p)) (b:=3) hl.low (by omega) (zfW b p);exact⟨zrM b p,by omega,by omega,by omega⟩
theorem zsW (b:Str) (p:Nat):(typV b p).2≤p+44∧(typV b p).1.size≤121∧(typV b p).1.ok:=by
 have hl:=zdZ b p;have h:=zjc (b:=b) hl.dp hl.few 4 (typT b p) (numV b (p+3) [3,2,4,1]) (p+4) (zk0 b p);have e1:bdV 4=40:=by decide
 have e2:szV 4=121:=by decide
 unfold typV;exact⟨by omega,by omega,h.2.2⟩
theorem znP {b:Str}{p:Nat} (hb:b.length≤2000) (hp:p≤100000):
  FnD Tryz.prog 144 [.ref 900 0] [(900,some (rdB b p))] (.tup [.d (zam (za9 b p)),.agg [.d (.i (typT b p).data),.d (.i (typT b p).index)],.agg [.d (.i (typV b p).1.ctor),.d (.i (typV b p).1.num),.d (zbJ (typV b p).1.kids)]]) [(900,some (rdB b (typV b p).2))]:=by
 have ho:=zgN b p;have hl:=zdZ b p;have h4:=num4 b (p+3);have hin:=zrM b p;have hdeep:=zk0 b p;have hT:typT b p=if dv (zai (za9 b p)) (zfW b p)=0 then ⟨-1,0⟩ else zfW b p:=rfl
 have hV:typV b p=zbU b (za9 b p) (zai (za9 b p)) 4 (typT b p) (numV b (p+3) [3,2,4,1]) (p+4):=rfl;have e1:bdV 4=40:=by decide
 have hwd:=znO (p:=p) hb (by omega);have hpk:=zbl (b:=b) (p:=p+1) (n:=(((za9 b p).map Data.c).length:Int)) hb (by omega) (by have:=ho.small.len;simp;omega);rw[show zay b (p+1) (((za9 b p).map Data.c).length:Int)=(zfW b p).data by rw[xac];rfl] at hpk;have hnu:=zcS (b:=b) (p:=p+2) (l:=[0,0,1,2]) hb (by omega) (by simp) (by simp);rw[show numV b (p+2) [0,0,1,2]=(zfW b p).index from rfl] at hnu;have hdr:=fun(t:Ty) (h:Deep (za9 b p) 4 t (numV b (p+3) [3,2,4,1]))=>ziU hb hl.dp hl.few 4 (a:=t.data) (k:=t.index) (p:=p+4) h (by omega) (by omega) (by omega);have hdp:=zeg (f:=zai (za9 b p)) (a:=(zfW b p).data) (k:=(zfW b p).index) hin (by have:=hl.dp.four;omega);have htb:=zij hl.dp;generalize za9 b p=w at *;generalize zfW b p=t0 at *;obtain⟨a0,k0⟩:=t0;have hdr2:=hdr ⟨-1,0⟩;have hdr3:=hdr ⟨a0,k0⟩;clear hdr;dsimp only at hT hV hdr2 hdr3;refine bd Tryz.f144 35 [] [] fun w0 F0 own kept hk=>?_;refine ab 3003 tz25 ?_;refine ab 3004 tz44 ?_;refine tv ?_;refine wd zxM (hwd) rfl rfl ⟨rfl,trivial⟩ ?_;refine ev ?_;refine wc zp3 (htb) rfl rfl ?_;refine ev ?_;refine wd zdy (hpk) rfl rfl ⟨rfl,trivial⟩ ?_;refine ev ?_;refine si [0,1,2,3] [_,_,_,_] sl62 tz3 ?_;refine wd zh2 (hnu) rfl rfl ⟨rfl,trivial⟩ ?_;refine bu [0,1] [_,_] st25 ?_;refine ab 3007 tz25 ?_;refine so ty25 ?_;refine tv ?_;refine wc zj4 (hdp) rfl rfl ?_;refine ev ?_;refine sq ?_ ?_<;>intro h1 h1p h1s;try simp only[Q] at h1p
 have HDR:=hdr2 (by rw[if_pos (by omega)] at hT;rw[←hT];exact hdeep);refine bu [0] [_] st25 ?_;refine so ty25 ?_;refine tv ?_;refine si [0,1,2,3] [_,_,_,_] sl62 tz3 ?_;refine wd zh2 (zcS (b:=b) (p:=p+3) (l:=[3,2,4,1]) hb (by omega) (by simp) (by simp)) rfl rfl ⟨rfl,trivial⟩ ?_;refine wd zqz (HDR) rfl rfl ⟨rfl,trivial⟩ ?_;refine evd [] [] ?_;refine so ty25 ?_;refine so ty44 ?_;refine dr ?_;refine rn [(900,some (rdB b (typV b p).2))] (.cons (.tmp rfl) (.cons (.cellA ty25 rfl rfl rfl) (.cons (.cellA ty44 rfl rfl rfl) .nil))) (.tup (.cons (.eqd ?_) (.cons (.agg (.cons (.eqd ?_) (.cons (.eqd ?_) .nil))) (.cons (.agg (.cons (.eqd ?_) (.cons (.eqd ?_) (.cons (.eqd ?_) .nil)))) .nil)))) ⟨rfl,rfl⟩ (SubO.get ⟨.inr ?_,⟨.inl rfl,trivial⟩⟩) (zaz rfl);rotate_left 7;try simp only[Q] at h1p
 have HDR:=hdr3 (by rw[if_neg (by omega)] at hT;rw[←hT];exact hdeep);refine si [0,1,2,3] [_,_,_,_] sl62 tz3 ?_;refine wd zh2 (zcS (b:=b) (p:=p+3) (l:=[3,2,4,1]) hb (by omega) (by simp) (by simp)) rfl rfl ⟨rfl,trivial⟩ ?_;refine wd zqz (HDR) rfl rfl ⟨rfl,trivial⟩ ?_;refine evd [] [] ?_;refine so ty25 ?_;refine so ty44 ?_;refine dr ?_;refine rn [(900,some (rdB b (typV b p).2))] (.cons (.tmp rfl) (.cons (.cellA ty25 rfl rfl rfl) (.cons (.cellA ty44 rfl rfl rfl) .nil))) (.tup (.cons (.eqd ?_) (.cons (.agg (.cons (.eqd ?_) (.cons (.eqd ?_) .nil))) (.cons (.agg (.cons (.eqd ?_) (.cons (.eqd ?_) (.cons (.eqd ?_) .nil)))) .nil)))) ⟨rfl,rfl⟩ (SubO.get ⟨.inr ?_,⟨.inl rfl,trivial⟩⟩) (zaz rfl);rotate_left 7;all_goals (first|((first|(rw[if_pos (by omega)] at hT;rw[hV,hT];all_goals rfl)|(rw[if_neg (by omega)] at hT;rw[hV,hT];all_goals rfl)|(rw[if_pos (by omega)] at hT;rw[hT];all_goals rfl)|(rw[if_neg (by omega)] at hT;rw[hT];all_goals rfl)|rfl);done)|(first|(rw[if_pos (by omega)] at hT;rw[hV,hT];all_goals rfl)|(rw[if_neg (by omega)] at hT;rw[hV,hT];all_goals rfl)))
structure CaseW (w:List Data):Prop where
 small:WSmall w
 valid:za6 w=true
 one:1≤w.length
 ct:∀k:Int,k=0∨k=1∨k=2→1≤(zah w ⟨0,k⟩).length
theorem xau:∀l:List Pat,l.length≤Pats.size l
 | []=>Nat.zero_le _
 |v::r=>by
  have:=xau r;have h:=Pat.size_eq v;simp only[xab,Pats.size];omega
theorem zsP {x:Pat} (hx:x.ok):∀ {l:List Pat}{i:Nat},Pats.ok l→Pats.ok (l.set i x)
 | [],_,_=>by simp[Pats.ok]
 |y::r,0,h=>⟨hx,h.2⟩
 |y::r,i+1,h=>⟨h.1,zsP hx h.2⟩
theorem zr9 {x:Pat} (hx:x.ok):∀ {l:List Pat},Pats.ok l→Pats.ok (l++[x])
 | [],_=>⟨hx,trivial⟩
 |y::r,h=>⟨h.1,zr9 hx h.2⟩
theorem zsQ {x:Pat}:∀ {l:List Pat}{i:Nat},Pats.size (l.set i x)≤Pats.size l+x.size
 | [],_=>by simp[Pats.size]
 |y::r,0=>by simp only[List.set_cons_zero,Pats.size];omega
 |y::r,i+1=>by have:=zsQ (x:=x) (l:=r) (i:=i);simp only[List.set_cons_succ,Pats.size];omega
theorem zwZ {b:Str}{p:Pat}{q:Nat} (hs:p.size≤1000) (hok:p.ok):(mutP b p q).1.size≤2000∧(mutP b p q).1.ok:=by
 have hv:zcQ.size=1∧zcQ.ok:=⟨by rw[Pat.size_eq];rfl,by rw[Pat.ok_iff];exact⟨by simp[zcQ,Pat.kids],trivial⟩⟩;have h0:=Pat.size_eq p;rw[Pat.ok_iff] at hok;have same:∀a c n m v:Int,(Pat.mk a c n m v p.kids).size≤2000∧(Pat.mk a c n m v p.kids).ok:=fun a c n m v=>by
  refine⟨by rw[Pat.size_eq];show 1+Pats.size p.kids≤_;omega,by rw[Pat.ok_iff];exact hok⟩
 unfold mutP;split;exact same _ _ _ _ _
 split;exact same _ _ _ _ _
 split;exact same _ _ _ _ _
 split
 ·refine⟨?_, ?_⟩
  ·dsimp only;rw[Pat.size_eq];show 1+Pats.size (p.kids++[zcQ])≤_;rw[xav];omega
  ·dsimp only;rw[Pat.ok_iff];refine⟨?_,zr9 hv.2 hok.2⟩;show(p.kids++[zcQ]).length≤_
   have:=xau p.kids;simp only[xaa,List.length_singleton];omega
 split
 ·refine⟨?_, ?_⟩
  ·dsimp only;rw[Pat.size_eq];show 1+Pats.size (p.kids.set 0 zcQ)≤_;have:=zsQ (x:=zcQ) (l:=p.kids) (i:=0);omega
  ·dsimp only;rw[Pat.ok_iff];exact⟨by show(p.kids.set 0 zcQ).length≤_;rw[List.length_set];exact hok.1,zsP hv.2 hok.2⟩
 split;exact same _ _ _ _ _
 exact same _ _ _ _ _
def typP (b:Str) (p:Nat):Pat:=zb6 b (za9 b p) (typT b p) (typV b p).2
def typQ (b:Str) (p:Nat):Nat:=(zc3 b (za9 b p) (typT b p) (typV b p).2).2.2
theorem zi0 (b:Str) (p:Nat):TyIn (za9 b p).length (typT b p):=zb2 (zk0 b p).ins
theorem zoK (b:Str) (p:Nat):(typP b p).size≤242∧(typP b p).ok∧typQ b p≤p+600:=by
 have hl:=zdZ b p;have h1:=znD (b:=b) hl.few (zi0 b p) (typV b p).2;have h2:=zkJ (b:=b) hl.few (zi0 b p) (typV b p).2;have h3:=zsW b p;exact⟨h1.1,h1.2,by unfold typQ;omega⟩
theorem znT {b:Str}{p:Nat} (hb:b.length≤2000) (hp:p≤10000):
  FnD Tryz.prog 89 [.ref 900 0] [(900,some (rdB b p))] (.tup [.d (zam (za9 b p)),.agg [.d (.i (typT b p).data),.d (.i (typT b p).index)],
   .agg [.d (.i (typP b p).op),.d (.i (typP b p).ctor),.d (.i (typP b p).n),.d (.i (typP b p).m),.d (.i (typP b p).var),.d (zac (typP b p).kids)],
   .agg [.d (.i (typV b p).1.ctor),.d (.i (typV b p).1.num),.d (zbJ (typV b p).1.kids)]]) [(900,some (rdB b (typQ b p)))]:=by
 have hl:=zdZ b p;have hv:=zsW b p;have ht:=zi0 b p;have hty:=znP (p:=p) hb (by omega);have hsm:=ziX hb hl.dp.wt hl.few (a:=(typT b p).data) (k:=(typT b p).index) (p:=(typV b p).2) (by omega) ht;refine bd Tryz.f89 22 [] [] fun w0 F0 own kept hk=>?_;refine ab 3003 tz25 ?_;refine ab 3004 tz28 ?_;refine ab 3005 tz44 ?_;refine tv ?_;refine wd zxw (hty) rfl rfl ⟨rfl,trivial⟩ ?_;refine ev ?_;refine ab 3007 tz25 ?_;refine ab 3008 tz44 ?_;refine ev ?_;refine so ty25 ?_;refine so ty44 ?_;refine tv ?_;refine wd zwh (hsm) rfl rfl ⟨rfl,trivial⟩ ?_;refine evd [] [] ?_;refine so ty25 ?_;refine so ty28 ?_;refine so ty44 ?_;refine dr ?_;refine rn [(900,some (rdB b (typQ b p)))] (.cons (.tmp rfl) (.cons (.cellA ty25 rfl rfl rfl) (.cons (.cellA ty28 rfl rfl rfl) (.cons (.cellA ty44 rfl rfl rfl) .nil)))) (.tup (.cons (.eqd ?_) (.cons (.agg (.cons (.eqd ?_) (.cons (.eqd ?_) .nil))) (.cons (.agg (.cons (.eqd ?_) (.cons (.eqd ?_) (.cons (.eqd ?_) (.cons (.eqd ?_) (.cons (.eqd ?_) (.cons (.eqd ?_) .nil))))))) (.cons (.agg (.cons (.eqd ?_) (.cons (.eqd ?_) (.cons (.eqd ?_) .nil)))) .nil))))) ⟨rfl,rfl⟩ (SubO.get ⟨.inr ?_,⟨.inl rfl,trivial⟩⟩) (zaz rfl);rotate_left 13;all_goals (first|((rfl);done)|(rfl))
end Go.Proofs.YtpgdedpljcedpaaGreat
