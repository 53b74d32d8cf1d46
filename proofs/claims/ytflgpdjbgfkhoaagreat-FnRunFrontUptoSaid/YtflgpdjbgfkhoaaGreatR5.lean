/-
  THE ABSTRACT WALK AND THE WALKS, part 5 of 7: the parts F36, F37, F38, F39, Ta, F90, F91, F92, F93, F94, F97, F98, F99, F95, F96, F100, F101, F103, F104, F105, L23, L24, Wrap, Dec, L25.
-/
import Derived.Test.YtflgpdjbgfkhoaaGreatR4
namespace Go.Proofs.YtflgpdjbgfkhoaaGreat
open Go
set_option linter.unusedSimpArgs false
set_option linter.unusedVariables false
set_option maxRecDepth 100000
set_option maxHeartbeats 2000000
def namL (f:Pat→Int→Nat→Pat×Int×Nat):List Pat→Int→Nat→List Pat×Int×Nat
 | [],m,q=>([],m,q)
 |x::r,m,q=>((f x m q).1::(namL f r (f x m q).2.1 (f x m q).2.2).1,(namL f r (f x m q).2.1 (f x m q).2.2).2)
def namP (b:Str):Nat→Pat→Int→Nat→Pat×Int×Nat
 |0,p,m,q=>(p,m,q)
 |n+1,p,m,q=>
  if 5<m∨p.op=5∨p.op=3 then (p,m,q)
  else if p.op=1∧zad b q 2=0 then (⟨2,0,0,0,m,[]⟩,m+1,q+1)
  else if (namL (namP b n) p.kids m (if p.op=1 then q+1 else q)).2.1≤5 then
   (if zad b (namL (namP b n) p.kids m (if p.op=1 then q+1 else q)).2.2 6=0 then
    (⟨6,0,0,0,(namL (namP b n) p.kids m (if p.op=1 then q+1 else q)).2.1,[⟨p.op,p.ctor,p.n,p.m,p.var,(namL (namP b n) p.kids m (if p.op=1 then q+1 else q)).1⟩]⟩,
     (namL (namP b n) p.kids m (if p.op=1 then q+1 else q)).2.1+1,(namL (namP b n) p.kids m (if p.op=1 then q+1 else q)).2.2+1)
   else (⟨p.op,p.ctor,p.n,p.m,p.var,(namL (namP b n) p.kids m (if p.op=1 then q+1 else q)).1⟩,(namL (namP b n) p.kids m (if p.op=1 then q+1 else q)).2.1,(namL (namP b n) p.kids m (if p.op=1 then q+1 else q)).2.2+1))
  else (⟨p.op,p.ctor,p.n,p.m,p.var,(namL (namP b n) p.kids m (if p.op=1 then q+1 else q)).1⟩,(namL (namP b n) p.kids m (if p.op=1 then q+1 else q)).2.1,(namL (namP b n) p.kids m (if p.op=1 then q+1 else q)).2.2)
section
variable {b:Str}{n:Nat}{p:Pat}{m:Int}{q:Nat}{ks:List Pat}{zm:Int}{zq:Nat}
theorem zcu (h:5<m∨p.op=5∨p.op=3):namP b (n+1) p m q=(p,m,q):=by simp only[namP];rw[if_pos h]
theorem zdo (h:¬(5<m∨p.op=5∨p.op=3)) (h2:p.op=1∧zad b q 2=0):namP b (n+1) p m q=(⟨2,0,0,0,m,[]⟩,m+1,q+1):=by simp only[namP];rw[if_neg h,if_pos h2]
theorem zej (h:¬(5<m∨p.op=5∨p.op=3)) (h2:¬(p.op=1∧zad b q 2=0)) (hz:(ks,zm,zq)=namL (namP b n) p.kids m (if p.op=1 then q+1 else q)) (h3:zm≤5) (h4:zad b zq 6=0):
  namP b (n+1) p m q=(⟨6,0,0,0,zm,[⟨p.op,p.ctor,p.n,p.m,p.var,ks⟩]⟩,zm+1,zq+1):=by
 simp only[namP];rw[if_neg h,if_neg h2,←hz];dsimp only;rw[if_pos h3,if_pos h4]
theorem zek (h:¬(5<m∨p.op=5∨p.op=3)) (h2:¬(p.op=1∧zad b q 2=0)) (hz:(ks,zm,zq)=namL (namP b n) p.kids m (if p.op=1 then q+1 else q)) (h3:zm≤5) (h4:¬zad b zq 6=0):
  namP b (n+1) p m q=(⟨p.op,p.ctor,p.n,p.m,p.var,ks⟩,zm,zq+1):=by
 simp only[namP];rw[if_neg h,if_neg h2,←hz];dsimp only;rw[if_pos h3,if_neg h4]
theorem zel (h:¬(5<m∨p.op=5∨p.op=3)) (h2:¬(p.op=1∧zad b q 2=0)) (hz:(ks,zm,zq)=namL (namP b n) p.kids m (if p.op=1 then q+1 else q)) (h3:¬zm≤5):
  namP b (n+1) p m q=(⟨p.op,p.ctor,p.n,p.m,p.var,ks⟩,zm,zq):=by
 simp only[namP];rw[if_neg h,if_neg h2,←hz];dsimp only;rw[if_neg h3]
end
def NamOk (p:Pat) (m:Int) (q:Nat) (r:Pat×Int×Nat):Prop:=m≤r.2.1∧r.2.1≤6∧r.2.2≤q+2*p.size∧r.1.size≤2*p.size∧(p.ok→r.1.ok)
theorem zoj {f:Pat→Int→Nat→Pat×Int×Nat}:∀(l:List Pat) (m:Int) (q:Nat),(∀x∈l,∀m q,0≤m→m≤6→NamOk x m q (f x m q))→0≤m→m≤6→
  m≤(namL f l m q).2.1∧(namL f l m q).2.1≤6∧(namL f l m q).2.2≤q+2*Pats.size l∧Pats.size (namL f l m q).1≤2*Pats.size l∧(namL f l m q).1.length=l.length∧(Pats.ok l→Pats.ok (namL f l m q).1)
 | [],m,q,_,_,h6=>by simp[namL,Pats.size,h6]
 |x::r,m,q,h,h0,h6=>by
  obtain⟨a1,a2,a3,a4,a5⟩:=h x (by simp) m q h0 h6
  obtain⟨b1,b2,b3,b4,b5,b6⟩:=zoj r (f x m q).2.1 (f x m q).2.2 (fun y hy=>h y (by simp[hy])) (by omega) a2
  simp only[namL,Pats.size,List.length_cons]
  refine⟨by omega,by omega,by omega,by omega,by omega,fun ho=>?_⟩
  exact⟨a5 ho.1,b6 ho.2⟩
theorem zlJ {b:Str}:∀(n:Nat) (p:Pat) (m:Int) (q:Nat),0≤m→m≤6→NamOk p m q (namP b n p m q)
 |0,p,m,q,h0,h6=>⟨by simp[namP],by simp[namP,h6],by simp[namP],by simp[namP];omega,fun h=>h⟩
 |n+1,p,m,q,h0,h6=>by
  have hs:=Pat.size_eq p
  by_cases h:5<m∨p.op=5∨p.op=3
  ·rw[zcu h];exact⟨Int.le_refl _,h6,by dsimp only;omega,by dsimp only;omega,fun h=>h⟩
  ·by_cases h2:p.op=1∧zad b q 2=0
   ·rw[zdo h h2]
    refine⟨by dsimp only;omega,by dsimp only;omega,by dsimp only;omega, ?_,fun _=>?_⟩
    ·show(Pat.mk 2 0 0 0 m []).size≤_;rw[Pat.size_eq];simp only[Pat.kids,Pats.size];omega
    ·show(Pat.mk 2 0 0 0 m []).ok;rw[Pat.ok_iff];exact⟨by simp[Pat.kids],trivial⟩
   ·generalize hz:namL (namP b n) p.kids m (if p.op=1 then q+1 else q)=z
    obtain⟨ks,zm,zq⟩:=z
    have hq:(if p.op=1 then q+1 else q)≤q+1:=by split<;>omega
    obtain⟨b1,b2,b3,b4,b5,b6⟩:=zoj (f:=namP b n) p.kids m (if p.op=1 then q+1 else q) (fun x _ m q h0 h6=>zlJ n x m q h0 h6) h0 h6
    rw[hz] at b1 b2 b3 b4 b5 b6
    dsimp only at b1 b2 b3 b4 b5 b6
    have so:(Pat.mk p.op p.ctor p.n p.m p.var ks).size=1+Pats.size ks:=by rw[Pat.size_eq];rfl
    have ko:p.ok→(Pat.mk p.op p.ctor p.n p.m p.var ks).ok:=fun h=>by
     rw[Pat.ok_iff] at h ⊢
     exact⟨by show ks.length≤_;rw[b5];exact h.1,b6 h.2⟩
    by_cases h3:zm≤5
    ·by_cases h4:zad b zq 6=0
     ·rw[zej h h2 hz.symm h3 h4]
      refine⟨by dsimp only;omega,by dsimp only;omega,by dsimp only;omega, ?_,fun hk=>?_⟩
      ·dsimp only;rw[Pat.size_eq];simp only[Pat.kids,Pats.size];rw[so];omega
      ·dsimp only;rw[Pat.ok_iff];exact⟨by simp[Pat.kids],ko hk,trivial⟩
     ·rw[zek h h2 hz.symm h3 h4]
      exact⟨b1,b2,by dsimp only;omega,by dsimp only;rw[so];omega,ko⟩
    ·rw[zel h h2 hz.symm h3]
     exact⟨b1,b2,by dsimp only;omega,by dsimp only;rw[so];omega,ko⟩
theorem zaF {f:Pat→Int→Nat→Pat×Int×Nat}{ks:List Pat}{zm:Int}{zq:Nat}{z:List Pat×Int×Nat} (h:(ks++(namL f [] zm zq).1,(namL f [] zm zq).2)=z):(ks,zm,zq)=z:=by
 rw[←h];simp[namL]
theorem Pats.size_snoc {l:List Pat}{y:Pat}:Pats.size (l++[y])=Pats.size l+y.size:=by
 have:=Pats.size_split (pre:=l) (rest:=[]) (y:=y) rfl
 simpa [Pats.size] using this
theorem zfp {b:Str} (hb:b.length≤2000):∀(n:Nat){p:Pat}{m:Int}{q:Nat},p.size≤n→p.ok→0≤m→m≤6→q+2*p.size≤1000000→
  FnD Tryz.prog 118 [.ref 900 0,.agg [.d (.i p.op),.d (.i p.ctor),.d (.i p.n),.d (.i p.m),.d (.i p.var),.d (zaH p.kids)],.d (.i m)] [(900,some (rdB b q))] (.tup [.agg [.d (.i (namP b n p m q).1.op),.d (.i (namP b n p m q).1.ctor),.d (.i (namP b n p m q).1.n),.d (.i (namP b n p m q).1.m),.d (.i (namP b n p m q).1.var),.d (zaH (namP b n p m q).1.kids)],.d (.i (namP b n p m q).2.1)]) [(900,some (rdB b (namP b n p m q).2.2))]
 |0,p,m,q,h,_,_,_,_=>by rw[Pat.size_eq] at h;omega
 |n+1,p,m,q,kn,hok,k0,k6,hq=>by
  have hs:=Pat.size_eq p
  have hok':=hok
  rw[Pat.ok_iff] at hok'
  have ih:=fun(x:Pat) (m:Int) (q:Nat) (h0:0≤m) (h6:m≤6)=>zlJ (b:=b) n x m q h0 h6
  have hysz:∀ {pre rest:List Pat}{y:Pat},pre++y::rest=p.kids→y.size+Pats.size pre+Pats.size rest=Pats.size p.kids:=fun h=>by have:=Pats.size_split h;omega
  have hq1:(if p.op=1 then q+1 else q)≤q+1:=by split<;>omega
  generalize hqq:(if p.op=1 then q+1 else q)=q1 at hq1
  have hqa:p.op=1→q1=q+1:=fun h=>by rw[←hqq,if_pos h]
  have hqb:¬p.op=1→q1=q:=fun h=>by rw[←hqq,if_neg h]
  refine bd Tryz.f118 82 [] [] fun w0 F0 own kept hk=>?_
  refine Walk.box (id:=3004) .none rfl rfl rfl rfl rfl rfl rfl ?_
  refine Walk.alloc (id:=3006) tz37 rfl .none rfl rfl rfl rfl ?_
  refine ev ?_
  refine sq (fun h1 h1p h1s=>?_) fun h1 h1p h1s=>?_
  ·try simp only[Q,Pat.cs_len] at h1p
   refine sqT ?_
   refine sqT ?_
   refine Walk.store ty37 .none rfl rfl rfl rfl rfl rfl (by simp) rfl ?_
   refine ev ?_
   refine rn [(900,some (rdB b (namP b (n+1) p m q).2.2))] (.cons (.cellA ty37 rfl rfl rfl) (.cons (.tmp rfl) .nil)) (.tup (.cons (.agg (.cons (.eqd ?_) (.cons (.eqd ?_) (.cons (.eqd ?_) (.cons (.eqd ?_) (.cons (.eqd ?_) (.cons (.eqd ?_) .nil))))))) (.cons (.eqd ?_) .nil))) ⟨rfl,rfl⟩ (SubO.get ⟨.inr (by(rw[zcu (by omega)];all_goals first|rfl|(show _=D.sl (Pat.cs _);rw[Pat.cs_cc];all_goals rfl)|(show _=Pat.cs _;rw[Pat.cs_cc];all_goals rfl)|(show _=D.sl [[D.i _,D.i _,D.i _,D.i _,D.i _,D.sl (Pat.cs _)]];rw[Pat.cs_cc];all_goals rfl))),⟨.inl rfl,trivial⟩⟩) (zaq rfl)
   all_goals ((rw[zcu (by omega)];all_goals first|rfl|(show _=D.sl (Pat.cs _);rw[Pat.cs_cc];all_goals rfl)|(show _=Pat.cs _;rw[Pat.cs_cc];all_goals rfl)|(show _=D.sl [[D.i _,D.i _,D.i _,D.i _,D.i _,D.sl (Pat.cs _)]];rw[Pat.cs_cc];all_goals rfl)))
  ·try simp only[Q,Pat.cs_len] at h1p
   refine sq (fun h3 h3p h3s=>?_) fun h3 h3p h3s=>?_
   ·try simp only[Q,Pat.cs_len] at h3p
    refine sqT ?_
    refine Walk.store ty37 .none rfl rfl rfl rfl rfl rfl (by simp) rfl ?_
    refine ev ?_
    refine rn [(900,some (rdB b (namP b (n+1) p m q).2.2))] (.cons (.cellA ty37 rfl rfl rfl) (.cons (.tmp rfl) .nil)) (.tup (.cons (.agg (.cons (.eqd ?_) (.cons (.eqd ?_) (.cons (.eqd ?_) (.cons (.eqd ?_) (.cons (.eqd ?_) (.cons (.eqd ?_) .nil))))))) (.cons (.eqd ?_) .nil))) ⟨rfl,rfl⟩ (SubO.get ⟨.inr (by(rw[zcu (by omega)];all_goals first|rfl|(show _=D.sl (Pat.cs _);rw[Pat.cs_cc];all_goals rfl)|(show _=Pat.cs _;rw[Pat.cs_cc];all_goals rfl)|(show _=D.sl [[D.i _,D.i _,D.i _,D.i _,D.i _,D.sl (Pat.cs _)]];rw[Pat.cs_cc];all_goals rfl))),⟨.inl rfl,trivial⟩⟩) (zaq rfl)
    all_goals ((rw[zcu (by omega)];all_goals first|rfl|(show _=D.sl (Pat.cs _);rw[Pat.cs_cc];all_goals rfl)|(show _=Pat.cs _;rw[Pat.cs_cc];all_goals rfl)|(show _=D.sl [[D.i _,D.i _,D.i _,D.i _,D.i _,D.sl (Pat.cs _)]];rw[Pat.cs_cc];all_goals rfl)))
   ·try simp only[Q,Pat.cs_len] at h3p
    refine sq (fun h5 h5p h5s=>?_) fun h5 h5p h5s=>?_
    ·try simp only[Q,Pat.cs_len] at h5p
     refine Walk.store ty37 .none rfl rfl rfl rfl rfl rfl (by simp) rfl ?_
     refine ev ?_
     refine rn [(900,some (rdB b (namP b (n+1) p m q).2.2))] (.cons (.cellA ty37 rfl rfl rfl) (.cons (.tmp rfl) .nil)) (.tup (.cons (.agg (.cons (.eqd ?_) (.cons (.eqd ?_) (.cons (.eqd ?_) (.cons (.eqd ?_) (.cons (.eqd ?_) (.cons (.eqd ?_) .nil))))))) (.cons (.eqd ?_) .nil))) ⟨rfl,rfl⟩ (SubO.get ⟨.inr (by(rw[zcu (by omega)];all_goals first|rfl|(show _=D.sl (Pat.cs _);rw[Pat.cs_cc];all_goals rfl)|(show _=Pat.cs _;rw[Pat.cs_cc];all_goals rfl)|(show _=D.sl [[D.i _,D.i _,D.i _,D.i _,D.i _,D.sl (Pat.cs _)]];rw[Pat.cs_cc];all_goals rfl))),⟨.inl rfl,trivial⟩⟩) (zaq rfl)
     all_goals ((rw[zcu (by omega)];all_goals first|rfl|(show _=D.sl (Pat.cs _);rw[Pat.cs_cc];all_goals rfl)|(show _=Pat.cs _;rw[Pat.cs_cc];all_goals rfl)|(show _=D.sl [[D.i _,D.i _,D.i _,D.i _,D.i _,D.sl (Pat.cs _)]];rw[Pat.cs_cc];all_goals rfl)))
    ·try simp only[Q,Pat.cs_len] at h5p
     refine sq (fun h6 h6p h6s=>?_) fun h6 h6p h6s=>?_
     ·try simp only[Q,Pat.cs_len] at h6p
      refine Walk.call (cr:=[]) zbW (zaE (p:=q) (n:=2) hb (by omega) (by omega)) rfl (.some rfl rfl h6) rfl rfl (LeL.refl _) ⟨rfl,trivial⟩ rfl rfl rfl ?_
      refine evs [] [(30,true)] ?_ ⟨⟨_,rfl,h6⟩,trivial⟩
      refine sq (fun h7 h7p h7s=>?_) fun h7 h7p h7s=>?_
      ·try simp only[Q,Pat.cs_len] at h7p
       refine Walk.build st37 (ks:=[0,4]) (xs:=[_,_]) rfl rfl .none rfl rfl rfl ?_
       refine ev ?_
       refine ar ?_
       refine Walk.store ty37 .none rfl rfl rfl rfl rfl rfl (by simp) rfl ?_
       refine ev ?_
       refine rn [(900,some (rdB b (namP b (n+1) p m q).2.2))] (.cons (.cellA ty37 rfl rfl rfl) (.cons (.tmp rfl) .nil)) (.tup (.cons (.agg (.cons (.eqd ?_) (.cons (.eqd ?_) (.cons (.eqd ?_) (.cons (.eqd ?_) (.cons (.eqd ?_) (.cons (.nild ?_) .nil))))))) (.cons (.eqd ?_) .nil))) ⟨rfl,rfl⟩ (SubO.get ⟨.inr (by(rw[zdo (by omega) ⟨by omega,by omega⟩];all_goals first|rfl|(show _=D.sl (Pat.cs _);rw[Pat.cs_cc];all_goals rfl)|(show _=Pat.cs _;rw[Pat.cs_cc];all_goals rfl)|(show _=D.sl [[D.i _,D.i _,D.i _,D.i _,D.i _,D.sl (Pat.cs _)]];rw[Pat.cs_cc];all_goals rfl))),⟨.inl rfl,trivial⟩⟩) (zaq rfl)
       all_goals ((rw[zdo (by omega) ⟨by omega,by omega⟩];all_goals first|rfl|(show _=D.sl (Pat.cs _);rw[Pat.cs_cc];all_goals rfl)|(show _=Pat.cs _;rw[Pat.cs_cc];all_goals rfl)|(show _=D.sl [[D.i _,D.i _,D.i _,D.i _,D.i _,D.sl (Pat.cs _)]];rw[Pat.cs_cc];all_goals rfl)))
      ·try simp only[Q,Pat.cs_len] at h7p
       refine Walk.alloc (id:=3008) tz37 rfl .none rfl rfl rfl rfl ?_
       refine Walk.store ty37 .none rfl rfl rfl rfl rfl rfl (by simp) rfl ?_
       refine tv ?_
       refine Walk.store ty35 .none rfl rfl rfl rfl rfl rfl (by simp) rfl ?_
       refine tv ?_
       refine CWp.tokB 3008 5 1 6 rfl rfl rfl rfl ?_
       refine CWp.loopX (ι:=List (Pat)×List (Pat)×(Int)×(Nat)×(List Pat)) hk (fun x=>[(10,.d (.i (x.1.length:Int))),(9,.d (.i x.2.2.1))]) [11,12,42,43,44,45,46,47,48,49,50,51,52,53,54,55,56,57,58,59,60,61,62,63,64,65,66] (fun x=>[(900,some (.box [.d (zaQ b),.d (.i (x.2.2.2.1:Int))])),(3008,some (.box [.d (.i p.op),.d (.i p.ctor),.d (.i p.n),.d (.i p.m),.d (.i p.var),.gl 1 (x.2.2.2.2.map Pat.cc)])),(1,some (.tok (x.2.2.2.2.map Pat.cc).length 6))]) (fun x=>x.1++x.2.1=p.kids∧0≤x.2.2.1∧x.2.2.1≤6∧x.2.2.2.1≤q1+2*Pats.size x.1∧x.2.2.2.2.length=x.1.length∧(x.2.2.2.2++(namL (namP b n) x.2.1 x.2.2.1 x.2.2.2.1).1,(namL (namP b n) x.2.1 x.2.2.1 x.2.2.2.1).2)=namL (namP b n) p.kids m q1) (fun x=>x.2.1.length) ([],p.kids,m,q1,[]) ⟨by simp,by simpa using k0,by simpa using k6,by simp[Pats.size],by simp,by simp⟩ ⟨⟨_,rfl,(LeA.eqi (by first|rfl|(simp;done)|omega))⟩,⟨⟨_,rfl,(LeA.eqi (by first|rfl|(simp;done)|omega))⟩,trivial⟩⟩ ⟨(by(show some (Res.box _)=some (Res.box _);rw[hqa (by omega)];all_goals rfl)),⟨(by rfl),⟨zae (by rfl),trivial⟩⟩⟩ (fun x=>rfl) (fun x hg1=>?_)
       obtain⟨pre,rest,zm,zq,ks⟩:=x
       dsimp only at hg1 ⊢
       refine evc [] [] ?_
       refine sq (fun h8 h8p h8s=>?_) fun h8 h8p h8s=>?_
       ·try simp only[Q,Pat.cs_len] at h8p
        rcases rest with _|⟨y,rest⟩
        ·exfalso;simp_all
        have hni:=ih y zm zq hg1.2.1 hg1.2.2.1;have hn1:=hni.1;have hn2:=hni.2.1;have hn3:=hni.2.2.1
        refine Walk.idx sl35 .none rfl rfl rfl rfl (Pat.cs_at' hg1.1) rfl ?_
        refine ev ?_
        refine Walk.call (cr:=[]) zm0 (zfp hb n (p:=y) (m:=zm) (q:=zq) (by have:=hysz hg1.1;omega) (Pats.ok_mem hok'.2 y (by rw[←hg1.1];simp)) (by omega) (by omega) (by have:=hysz hg1.1;omega)) rfl .none rfl rfl (LeL.refl _) ⟨rfl,trivial⟩ rfl rfl rfl ?_
        refine ev ?_
        refine Walk.alloc (id:=3011) tz37 rfl .none rfl rfl rfl rfl ?_
        refine Walk.store ty37 .none rfl rfl rfl rfl rfl rfl (by simp) rfl ?_
        refine ev ?_
        refine Walk.sliceLit sl35 tz37 rfl (by decide) (ks:=[0]) (xs:=[_]) rfl rfl (by decide) (by decide) .none rfl rfl rfl rfl ?_
        refine Walk.append sl35 zz37 rfl .none rfl rfl rfl rfl (zaP rfl (by first|rfl|(simp;done)|(simp;omega))) (by simp) (by have hz:=congrArg List.length hg1.1;simp at hz ⊢;omega) (by have hz:=congrArg List.length hg1.1;simp at hz ⊢;omega) ?_
        refine ev ?_
        refine Walk.store ty35 .none rfl rfl rfl rfl rfl rfl (by simp) rfl ?_
        refine tv ?_
        refine ar ?_
        refine Exists.intro ((pre++[y],rest,(namP b n y zm zq).2.1,(namP b n y zm zq).2.2,ks++[(namP b n y zm zq).1])) ⟨⟨(by have hz:=hg1.1;rw[←hz];simp),⟨by dsimp only;omega,by dsimp only;omega,(by rw[Pats.size_snoc];dsimp only;omega),(by simp[hg1.2.2.2.2.1]),(by rw[←hg1.2.2.2.2.2];simp[namL])⟩⟩,(by simp),Sub.x (by kernel_rfl) (by kernel_rfl) ⟨⟨_,rfl,(LeA.eqi (by first|rfl|(simp;done)|omega))⟩,⟨⟨_,rfl,(LeA.eqi (by first|rfl|(simp;done)|omega))⟩,trivial⟩⟩ (by kernel_rfl) (by kernel_rfl) ⟨(by rfl),⟨(by(simp[getH];done)),⟨zae (by(simp;done)),trivial⟩⟩⟩⟩
       ·try simp only[Q,Pat.cs_len] at h8p
        have hrest:rest=[]:=by
         rcases rest with _|⟨a,b⟩
         ·rfl
         ·exfalso;have hz:=congrArg List.length (hg1.1);simp only[List.length_append,List.length_cons,List.length_map] at hz;omega
        subst hrest
        refine sq (fun h9 h9p h9s=>?_) fun h9 h9p h9s=>?_
        ·try simp only[Q,Pat.cs_len] at h9p
         refine Walk.call (cr:=[]) zbW (zaE (p:=zq) (n:=6) hb (by have e:=hg1.1;rw[List.append_nil] at e;rw[←e] at hs;omega) (by omega)) rfl (.some rfl rfl h9) rfl rfl (LeL.refl _) ⟨rfl,trivial⟩ rfl rfl rfl ?_
         refine evs [] [(69,true)] ?_ ⟨⟨_,rfl,h9⟩,trivial⟩
         refine sq (fun h10 h10p h10s=>?_) fun h10 h10p h10s=>?_
         ·try simp only[Q,Pat.cs_len] at h10p
          refine Walk.sliceLit sl35 tz37 rfl (by decide) (ks:=[0]) (xs:=[_]) rfl rfl (by decide) (by decide) .none rfl rfl rfl rfl ?_
          refine Walk.build st37 (ks:=[0,4,5]) (xs:=[_,_,_]) rfl rfl .none rfl rfl rfl ?_
          refine ev ?_
          refine ar ?_
          refine Walk.store ty37 .none rfl rfl rfl rfl rfl rfl (by simp) rfl ?_
          refine ev ?_
          refine rn [(900,some (rdB b (namP b (n+1) p m q).2.2))] (.cons (.cellA ty37 rfl rfl rfl) (.cons (.tmp rfl) .nil)) (.tup (.cons (.agg (.cons (.eqd ?_) (.cons (.eqd ?_) (.cons (.eqd ?_) (.cons (.eqd ?_) (.cons (.eqd ?_) (.cons (.eqd ?_) .nil))))))) (.cons (.eqd ?_) .nil))) ⟨rfl,rfl⟩ (SubO.get ⟨.inr (by first|(rw[zcu (by omega)];all_goals first|rfl|(show _=D.sl (Pat.cs _);rw[Pat.cs_cc];all_goals rfl)|(show _=Pat.cs _;rw[Pat.cs_cc];all_goals rfl)|(show _=D.sl [[D.i _,D.i _,D.i _,D.i _,D.i _,D.sl (Pat.cs _)]];rw[Pat.cs_cc];all_goals rfl))|(rw[zdo (by omega) ⟨by omega,by omega⟩];all_goals first|rfl|(show _=D.sl (Pat.cs _);rw[Pat.cs_cc];all_goals rfl)|(show _=Pat.cs _;rw[Pat.cs_cc];all_goals rfl)|(show _=D.sl [[D.i _,D.i _,D.i _,D.i _,D.i _,D.sl (Pat.cs _)]];rw[Pat.cs_cc];all_goals rfl))|(have hz:(ks,zm,zq)=namL (namP b n) p.kids m (if p.op=1 then q+1 else q):=(by rw[hqq];exact zaF hg1.2.2.2.2.2);rw[zej (by omega) (fun hh=>by omega) hz (by omega) (by omega)];all_goals first|rfl|(show _=D.sl (Pat.cs _);rw[Pat.cs_cc];all_goals rfl)|(show _=Pat.cs _;rw[Pat.cs_cc];all_goals rfl)|(show _=D.sl [[D.i _,D.i _,D.i _,D.i _,D.i _,D.sl (Pat.cs _)]];rw[Pat.cs_cc];all_goals rfl))|(have hz:(ks,zm,zq)=namL (namP b n) p.kids m (if p.op=1 then q+1 else q):=(by rw[hqq];exact zaF hg1.2.2.2.2.2);rw[zek (by omega) (fun hh=>by omega) hz (by omega) (by omega)];all_goals first|rfl|(show _=D.sl (Pat.cs _);rw[Pat.cs_cc];all_goals rfl)|(show _=Pat.cs _;rw[Pat.cs_cc];all_goals rfl)|(show _=D.sl [[D.i _,D.i _,D.i _,D.i _,D.i _,D.sl (Pat.cs _)]];rw[Pat.cs_cc];all_goals rfl))|(have hz:(ks,zm,zq)=namL (namP b n) p.kids m (if p.op=1 then q+1 else q):=(by rw[hqq];exact zaF hg1.2.2.2.2.2);rw[zel (by omega) (fun hh=>by omega) hz (by omega)];all_goals first|rfl|(show _=D.sl (Pat.cs _);rw[Pat.cs_cc];all_goals rfl)|(show _=Pat.cs _;rw[Pat.cs_cc];all_goals rfl)|(show _=D.sl [[D.i _,D.i _,D.i _,D.i _,D.i _,D.sl (Pat.cs _)]];rw[Pat.cs_cc];all_goals rfl))),⟨.inl rfl,trivial⟩⟩) (zaq rfl)
          all_goals (first|(rw[zcu (by omega)];all_goals first|rfl|(show _=D.sl (Pat.cs _);rw[Pat.cs_cc];all_goals rfl)|(show _=Pat.cs _;rw[Pat.cs_cc];all_goals rfl)|(show _=D.sl [[D.i _,D.i _,D.i _,D.i _,D.i _,D.sl (Pat.cs _)]];rw[Pat.cs_cc];all_goals rfl))|(rw[zdo (by omega) ⟨by omega,by omega⟩];all_goals first|rfl|(show _=D.sl (Pat.cs _);rw[Pat.cs_cc];all_goals rfl)|(show _=Pat.cs _;rw[Pat.cs_cc];all_goals rfl)|(show _=D.sl [[D.i _,D.i _,D.i _,D.i _,D.i _,D.sl (Pat.cs _)]];rw[Pat.cs_cc];all_goals rfl))|(have hz:(ks,zm,zq)=namL (namP b n) p.kids m (if p.op=1 then q+1 else q):=(by rw[hqq];exact zaF hg1.2.2.2.2.2);rw[zej (by omega) (fun hh=>by omega) hz (by omega) (by omega)];all_goals first|rfl|(show _=D.sl (Pat.cs _);rw[Pat.cs_cc];all_goals rfl)|(show _=Pat.cs _;rw[Pat.cs_cc];all_goals rfl)|(show _=D.sl [[D.i _,D.i _,D.i _,D.i _,D.i _,D.sl (Pat.cs _)]];rw[Pat.cs_cc];all_goals rfl))|(have hz:(ks,zm,zq)=namL (namP b n) p.kids m (if p.op=1 then q+1 else q):=(by rw[hqq];exact zaF hg1.2.2.2.2.2);rw[zek (by omega) (fun hh=>by omega) hz (by omega) (by omega)];all_goals first|rfl|(show _=D.sl (Pat.cs _);rw[Pat.cs_cc];all_goals rfl)|(show _=Pat.cs _;rw[Pat.cs_cc];all_goals rfl)|(show _=D.sl [[D.i _,D.i _,D.i _,D.i _,D.i _,D.sl (Pat.cs _)]];rw[Pat.cs_cc];all_goals rfl))|(have hz:(ks,zm,zq)=namL (namP b n) p.kids m (if p.op=1 then q+1 else q):=(by rw[hqq];exact zaF hg1.2.2.2.2.2);rw[zel (by omega) (fun hh=>by omega) hz (by omega)];all_goals first|rfl|(show _=D.sl (Pat.cs _);rw[Pat.cs_cc];all_goals rfl)|(show _=Pat.cs _;rw[Pat.cs_cc];all_goals rfl)|(show _=D.sl [[D.i _,D.i _,D.i _,D.i _,D.i _,D.sl (Pat.cs _)]];rw[Pat.cs_cc];all_goals rfl)))
         ·try simp only[Q,Pat.cs_len] at h10p
          refine Walk.store ty37 .none rfl rfl rfl rfl rfl rfl (by simp) rfl ?_
          refine ev ?_
          refine rn [(900,some (rdB b (namP b (n+1) p m q).2.2))] (.cons (.cellA ty37 rfl rfl rfl) (.cons (.tmp rfl) .nil)) (.tup (.cons (.agg (.cons (.eqd ?_) (.cons (.eqd ?_) (.cons (.eqd ?_) (.cons (.eqd ?_) (.cons (.eqd ?_) (.cons (.gld ?_) .nil))))))) (.cons (.eqd ?_) .nil))) ⟨rfl,rfl⟩ (SubO.get ⟨.inr (by first|(rw[zcu (by omega)];all_goals first|rfl|(show _=D.sl (Pat.cs _);rw[Pat.cs_cc];all_goals rfl)|(show _=Pat.cs _;rw[Pat.cs_cc];all_goals rfl)|(show _=D.sl [[D.i _,D.i _,D.i _,D.i _,D.i _,D.sl (Pat.cs _)]];rw[Pat.cs_cc];all_goals rfl))|(rw[zdo (by omega) ⟨by omega,by omega⟩];all_goals first|rfl|(show _=D.sl (Pat.cs _);rw[Pat.cs_cc];all_goals rfl)|(show _=Pat.cs _;rw[Pat.cs_cc];all_goals rfl)|(show _=D.sl [[D.i _,D.i _,D.i _,D.i _,D.i _,D.sl (Pat.cs _)]];rw[Pat.cs_cc];all_goals rfl))|(have hz:(ks,zm,zq)=namL (namP b n) p.kids m (if p.op=1 then q+1 else q):=(by rw[hqq];exact zaF hg1.2.2.2.2.2);rw[zej (by omega) (fun hh=>by omega) hz (by omega) (by omega)];all_goals first|rfl|(show _=D.sl (Pat.cs _);rw[Pat.cs_cc];all_goals rfl)|(show _=Pat.cs _;rw[Pat.cs_cc];all_goals rfl)|(show _=D.sl [[D.i _,D.i _,D.i _,D.i _,D.i _,D.sl (Pat.cs _)]];rw[Pat.cs_cc];all_goals rfl))|(have hz:(ks,zm,zq)=namL (namP b n) p.kids m (if p.op=1 then q+1 else q):=(by rw[hqq];exact zaF hg1.2.2.2.2.2);rw[zek (by omega) (fun hh=>by omega) hz (by omega) (by omega)];all_goals first|rfl|(show _=D.sl (Pat.cs _);rw[Pat.cs_cc];all_goals rfl)|(show _=Pat.cs _;rw[Pat.cs_cc];all_goals rfl)|(show _=D.sl [[D.i _,D.i _,D.i _,D.i _,D.i _,D.sl (Pat.cs _)]];rw[Pat.cs_cc];all_goals rfl))|(have hz:(ks,zm,zq)=namL (namP b n) p.kids m (if p.op=1 then q+1 else q):=(by rw[hqq];exact zaF hg1.2.2.2.2.2);rw[zel (by omega) (fun hh=>by omega) hz (by omega)];all_goals first|rfl|(show _=D.sl (Pat.cs _);rw[Pat.cs_cc];all_goals rfl)|(show _=Pat.cs _;rw[Pat.cs_cc];all_goals rfl)|(show _=D.sl [[D.i _,D.i _,D.i _,D.i _,D.i _,D.sl (Pat.cs _)]];rw[Pat.cs_cc];all_goals rfl))),⟨.inl rfl,trivial⟩⟩) (zaq rfl)
          all_goals (first|(rw[zcu (by omega)];all_goals first|rfl|(show _=D.sl (Pat.cs _);rw[Pat.cs_cc];all_goals rfl)|(show _=Pat.cs _;rw[Pat.cs_cc];all_goals rfl)|(show _=D.sl [[D.i _,D.i _,D.i _,D.i _,D.i _,D.sl (Pat.cs _)]];rw[Pat.cs_cc];all_goals rfl))|(rw[zdo (by omega) ⟨by omega,by omega⟩];all_goals first|rfl|(show _=D.sl (Pat.cs _);rw[Pat.cs_cc];all_goals rfl)|(show _=Pat.cs _;rw[Pat.cs_cc];all_goals rfl)|(show _=D.sl [[D.i _,D.i _,D.i _,D.i _,D.i _,D.sl (Pat.cs _)]];rw[Pat.cs_cc];all_goals rfl))|(have hz:(ks,zm,zq)=namL (namP b n) p.kids m (if p.op=1 then q+1 else q):=(by rw[hqq];exact zaF hg1.2.2.2.2.2);rw[zej (by omega) (fun hh=>by omega) hz (by omega) (by omega)];all_goals first|rfl|(show _=D.sl (Pat.cs _);rw[Pat.cs_cc];all_goals rfl)|(show _=Pat.cs _;rw[Pat.cs_cc];all_goals rfl)|(show _=D.sl [[D.i _,D.i _,D.i _,D.i _,D.i _,D.sl (Pat.cs _)]];rw[Pat.cs_cc];all_goals rfl))|(have hz:(ks,zm,zq)=namL (namP b n) p.kids m (if p.op=1 then q+1 else q):=(by rw[hqq];exact zaF hg1.2.2.2.2.2);rw[zek (by omega) (fun hh=>by omega) hz (by omega) (by omega)];all_goals first|rfl|(show _=D.sl (Pat.cs _);rw[Pat.cs_cc];all_goals rfl)|(show _=Pat.cs _;rw[Pat.cs_cc];all_goals rfl)|(show _=D.sl [[D.i _,D.i _,D.i _,D.i _,D.i _,D.sl (Pat.cs _)]];rw[Pat.cs_cc];all_goals rfl))|(have hz:(ks,zm,zq)=namL (namP b n) p.kids m (if p.op=1 then q+1 else q):=(by rw[hqq];exact zaF hg1.2.2.2.2.2);rw[zel (by omega) (fun hh=>by omega) hz (by omega)];all_goals first|rfl|(show _=D.sl (Pat.cs _);rw[Pat.cs_cc];all_goals rfl)|(show _=Pat.cs _;rw[Pat.cs_cc];all_goals rfl)|(show _=D.sl [[D.i _,D.i _,D.i _,D.i _,D.i _,D.sl (Pat.cs _)]];rw[Pat.cs_cc];all_goals rfl)))
        ·try simp only[Q,Pat.cs_len] at h9p
         refine sqF ?_
         refine Walk.store ty37 .none rfl rfl rfl rfl rfl rfl (by simp) rfl ?_
         refine ev ?_
         refine rn [(900,some (rdB b (namP b (n+1) p m q).2.2))] (.cons (.cellA ty37 rfl rfl rfl) (.cons (.tmp rfl) .nil)) (.tup (.cons (.agg (.cons (.eqd ?_) (.cons (.eqd ?_) (.cons (.eqd ?_) (.cons (.eqd ?_) (.cons (.eqd ?_) (.cons (.gld ?_) .nil))))))) (.cons (.eqd ?_) .nil))) ⟨rfl,rfl⟩ (SubO.get ⟨.inr (by first|(rw[zcu (by omega)];all_goals first|rfl|(show _=D.sl (Pat.cs _);rw[Pat.cs_cc];all_goals rfl)|(show _=Pat.cs _;rw[Pat.cs_cc];all_goals rfl)|(show _=D.sl [[D.i _,D.i _,D.i _,D.i _,D.i _,D.sl (Pat.cs _)]];rw[Pat.cs_cc];all_goals rfl))|(rw[zdo (by omega) ⟨by omega,by omega⟩];all_goals first|rfl|(show _=D.sl (Pat.cs _);rw[Pat.cs_cc];all_goals rfl)|(show _=Pat.cs _;rw[Pat.cs_cc];all_goals rfl)|(show _=D.sl [[D.i _,D.i _,D.i _,D.i _,D.i _,D.sl (Pat.cs _)]];rw[Pat.cs_cc];all_goals rfl))|(have hz:(ks,zm,zq)=namL (namP b n) p.kids m (if p.op=1 then q+1 else q):=(by rw[hqq];exact zaF hg1.2.2.2.2.2);rw[zej (by omega) (fun hh=>by omega) hz (by omega) (by omega)];all_goals first|rfl|(show _=D.sl (Pat.cs _);rw[Pat.cs_cc];all_goals rfl)|(show _=Pat.cs _;rw[Pat.cs_cc];all_goals rfl)|(show _=D.sl [[D.i _,D.i _,D.i _,D.i _,D.i _,D.sl (Pat.cs _)]];rw[Pat.cs_cc];all_goals rfl))|(have hz:(ks,zm,zq)=namL (namP b n) p.kids m (if p.op=1 then q+1 else q):=(by rw[hqq];exact zaF hg1.2.2.2.2.2);rw[zek (by omega) (fun hh=>by omega) hz (by omega) (by omega)];all_goals first|rfl|(show _=D.sl (Pat.cs _);rw[Pat.cs_cc];all_goals rfl)|(show _=Pat.cs _;rw[Pat.cs_cc];all_goals rfl)|(show _=D.sl [[D.i _,D.i _,D.i _,D.i _,D.i _,D.sl (Pat.cs _)]];rw[Pat.cs_cc];all_goals rfl))|(have hz:(ks,zm,zq)=namL (namP b n) p.kids m (if p.op=1 then q+1 else q):=(by rw[hqq];exact zaF hg1.2.2.2.2.2);rw[zel (by omega) (fun hh=>by omega) hz (by omega)];all_goals first|rfl|(show _=D.sl (Pat.cs _);rw[Pat.cs_cc];all_goals rfl)|(show _=Pat.cs _;rw[Pat.cs_cc];all_goals rfl)|(show _=D.sl [[D.i _,D.i _,D.i _,D.i _,D.i _,D.sl (Pat.cs _)]];rw[Pat.cs_cc];all_goals rfl))),⟨.inl rfl,trivial⟩⟩) (zaq rfl)
         all_goals (first|(rw[zcu (by omega)];all_goals first|rfl|(show _=D.sl (Pat.cs _);rw[Pat.cs_cc];all_goals rfl)|(show _=Pat.cs _;rw[Pat.cs_cc];all_goals rfl)|(show _=D.sl [[D.i _,D.i _,D.i _,D.i _,D.i _,D.sl (Pat.cs _)]];rw[Pat.cs_cc];all_goals rfl))|(rw[zdo (by omega) ⟨by omega,by omega⟩];all_goals first|rfl|(show _=D.sl (Pat.cs _);rw[Pat.cs_cc];all_goals rfl)|(show _=Pat.cs _;rw[Pat.cs_cc];all_goals rfl)|(show _=D.sl [[D.i _,D.i _,D.i _,D.i _,D.i _,D.sl (Pat.cs _)]];rw[Pat.cs_cc];all_goals rfl))|(have hz:(ks,zm,zq)=namL (namP b n) p.kids m (if p.op=1 then q+1 else q):=(by rw[hqq];exact zaF hg1.2.2.2.2.2);rw[zej (by omega) (fun hh=>by omega) hz (by omega) (by omega)];all_goals first|rfl|(show _=D.sl (Pat.cs _);rw[Pat.cs_cc];all_goals rfl)|(show _=Pat.cs _;rw[Pat.cs_cc];all_goals rfl)|(show _=D.sl [[D.i _,D.i _,D.i _,D.i _,D.i _,D.sl (Pat.cs _)]];rw[Pat.cs_cc];all_goals rfl))|(have hz:(ks,zm,zq)=namL (namP b n) p.kids m (if p.op=1 then q+1 else q):=(by rw[hqq];exact zaF hg1.2.2.2.2.2);rw[zek (by omega) (fun hh=>by omega) hz (by omega) (by omega)];all_goals first|rfl|(show _=D.sl (Pat.cs _);rw[Pat.cs_cc];all_goals rfl)|(show _=Pat.cs _;rw[Pat.cs_cc];all_goals rfl)|(show _=D.sl [[D.i _,D.i _,D.i _,D.i _,D.i _,D.sl (Pat.cs _)]];rw[Pat.cs_cc];all_goals rfl))|(have hz:(ks,zm,zq)=namL (namP b n) p.kids m (if p.op=1 then q+1 else q):=(by rw[hqq];exact zaF hg1.2.2.2.2.2);rw[zel (by omega) (fun hh=>by omega) hz (by omega)];all_goals first|rfl|(show _=D.sl (Pat.cs _);rw[Pat.cs_cc];all_goals rfl)|(show _=Pat.cs _;rw[Pat.cs_cc];all_goals rfl)|(show _=D.sl [[D.i _,D.i _,D.i _,D.i _,D.i _,D.sl (Pat.cs _)]];rw[Pat.cs_cc];all_goals rfl)))
     ·try simp only[Q,Pat.cs_len] at h6p
      refine sqF ?_
      refine Walk.alloc (id:=3008) tz37 rfl .none rfl rfl rfl rfl ?_
      refine Walk.store ty37 .none rfl rfl rfl rfl rfl rfl (by simp) rfl ?_
      refine tv ?_
      refine Walk.store ty35 .none rfl rfl rfl rfl rfl rfl (by simp) rfl ?_
      refine tv ?_
      refine CWp.tokB 3008 5 1 6 rfl rfl rfl rfl ?_
      refine CWp.loopX (ι:=List (Pat)×List (Pat)×(Int)×(Nat)×(List Pat)) hk (fun x=>[(10,.d (.i (x.1.length:Int))),(9,.d (.i x.2.2.1))]) [11,12,42,43,44,45,46,47,48,49,50,51,52,53,54,55,56,57,58,59,60,61,62,63,64,65,66] (fun x=>[(900,some (.box [.d (zaQ b),.d (.i (x.2.2.2.1:Int))])),(3008,some (.box [.d (.i p.op),.d (.i p.ctor),.d (.i p.n),.d (.i p.m),.d (.i p.var),.gl 1 (x.2.2.2.2.map Pat.cc)])),(1,some (.tok (x.2.2.2.2.map Pat.cc).length 6))]) (fun x=>x.1++x.2.1=p.kids∧0≤x.2.2.1∧x.2.2.1≤6∧x.2.2.2.1≤q1+2*Pats.size x.1∧x.2.2.2.2.length=x.1.length∧(x.2.2.2.2++(namL (namP b n) x.2.1 x.2.2.1 x.2.2.2.1).1,(namL (namP b n) x.2.1 x.2.2.1 x.2.2.2.1).2)=namL (namP b n) p.kids m q1) (fun x=>x.2.1.length) ([],p.kids,m,q1,[]) ⟨by simp,by simpa using k0,by simpa using k6,by simp[Pats.size],by simp,by simp⟩ ⟨⟨_,rfl,(LeA.eqi (by first|rfl|(simp;done)|omega))⟩,⟨⟨_,rfl,(LeA.eqi (by first|rfl|(simp;done)|omega))⟩,trivial⟩⟩ ⟨(by first|rfl|(simp[getH];done)|(show some (Res.box _)=some (Res.box _);rw[hqa (by omega)];all_goals rfl)|(show some (Res.box _)=some (Res.box _);rw[hqb (by omega)];all_goals rfl)),⟨(by first|rfl|(simp[getH];done)|(show some (Res.box _)=some (Res.box _);rw[hqa (by omega)];all_goals rfl)|(show some (Res.box _)=some (Res.box _);rw[hqb (by omega)];all_goals rfl)),⟨zae (by first|rfl|(simp;done)|(simp;omega)|(first|rfl|(simp;done)|omega)),trivial⟩⟩⟩ (fun x=>rfl) (fun x hg1=>?_)
      obtain⟨pre,rest,zm,zq,ks⟩:=x
      dsimp only at hg1 ⊢
      refine evc [] [] ?_
      refine sq (fun h13 h13p h13s=>?_) fun h13 h13p h13s=>?_
      ·try simp only[Q,Pat.cs_len] at h13p
       rcases rest with _|⟨y,rest⟩
       ·exfalso;simp_all
       have hni:=ih y zm zq hg1.2.1 hg1.2.2.1;have hn1:=hni.1;have hn2:=hni.2.1;have hn3:=hni.2.2.1
       refine Walk.idx sl35 .none rfl rfl rfl rfl (Pat.cs_at' hg1.1) rfl ?_
       refine ev ?_
       refine Walk.call (cr:=[]) zm0 (zfp hb n (p:=y) (m:=zm) (q:=zq) (by have:=hysz hg1.1;omega) (Pats.ok_mem hok'.2 y (by rw[←hg1.1];simp)) (by omega) (by omega) (by have:=hysz hg1.1;omega)) rfl .none rfl rfl (LeL.refl _) ⟨rfl,trivial⟩ rfl rfl rfl ?_
       refine ev ?_
       refine Walk.alloc (id:=3011) tz37 rfl .none rfl rfl rfl rfl ?_
       refine Walk.store ty37 .none rfl rfl rfl rfl rfl rfl (by simp) rfl ?_
       refine ev ?_
       refine Walk.sliceLit sl35 tz37 rfl (by decide) (ks:=[0]) (xs:=[_]) rfl rfl (by decide) (by decide) .none rfl rfl rfl rfl ?_
       refine Walk.append sl35 zz37 rfl .none rfl rfl rfl rfl (zaP rfl (by first|rfl|(simp;done)|(simp;omega))) (by simp) (by have hz:=congrArg List.length hg1.1;simp at hz ⊢;omega) (by have hz:=congrArg List.length hg1.1;simp at hz ⊢;omega) ?_
       refine ev ?_
       refine Walk.store ty35 .none rfl rfl rfl rfl rfl rfl (by simp) rfl ?_
       refine tv ?_
       refine ar ?_
       refine Exists.intro ((pre++[y],rest,(namP b n y zm zq).2.1,(namP b n y zm zq).2.2,ks++[(namP b n y zm zq).1])) ⟨⟨(by have hz:=hg1.1;rw[←hz];simp),⟨by dsimp only;omega,by dsimp only;omega,(by rw[Pats.size_snoc];dsimp only;omega),(by simp[hg1.2.2.2.2.1]),(by rw[←hg1.2.2.2.2.2];simp[namL])⟩⟩,(by simp),Sub.x (by kernel_rfl) (by kernel_rfl) ⟨⟨_,rfl,(LeA.eqi (by first|rfl|(simp;done)|omega))⟩,⟨⟨_,rfl,(LeA.eqi (by first|rfl|(simp;done)|omega))⟩,trivial⟩⟩ (by kernel_rfl) (by kernel_rfl) ⟨(by rfl),⟨(by(simp[getH];done)),⟨zae (by(simp;done)),trivial⟩⟩⟩⟩
      ·try simp only[Q,Pat.cs_len] at h13p
       have hrest:rest=[]:=by
        rcases rest with _|⟨a,b⟩
        ·rfl
        ·exfalso;have hz:=congrArg List.length (hg1.1);simp only[List.length_append,List.length_cons,List.length_map] at hz;omega
       subst hrest
       refine sq (fun h14 h14p h14s=>?_) fun h14 h14p h14s=>?_
       ·try simp only[Q,Pat.cs_len] at h14p
        refine Walk.call (cr:=[]) zbW (zaE (p:=zq) (n:=6) hb (by have e:=hg1.1;rw[List.append_nil] at e;rw[←e] at hs;omega) (by omega)) rfl (.some rfl rfl h14) rfl rfl (LeL.refl _) ⟨rfl,trivial⟩ rfl rfl rfl ?_
        refine evs [] [(69,true)] ?_ ⟨⟨_,rfl,h14⟩,trivial⟩
        refine sq (fun h15 h15p h15s=>?_) fun h15 h15p h15s=>?_
        ·try simp only[Q,Pat.cs_len] at h15p
         refine Walk.sliceLit sl35 tz37 rfl (by decide) (ks:=[0]) (xs:=[_]) rfl rfl (by decide) (by decide) .none rfl rfl rfl rfl ?_
         refine Walk.build st37 (ks:=[0,4,5]) (xs:=[_,_,_]) rfl rfl .none rfl rfl rfl ?_
         refine ev ?_
         refine ar ?_
         refine Walk.store ty37 .none rfl rfl rfl rfl rfl rfl (by simp) rfl ?_
         refine ev ?_
         refine rn [(900,some (rdB b (namP b (n+1) p m q).2.2))] (.cons (.cellA ty37 rfl rfl rfl) (.cons (.tmp rfl) .nil)) (.tup (.cons (.agg (.cons (.eqd ?_) (.cons (.eqd ?_) (.cons (.eqd ?_) (.cons (.eqd ?_) (.cons (.eqd ?_) (.cons (.eqd ?_) .nil))))))) (.cons (.eqd ?_) .nil))) ⟨rfl,rfl⟩ (SubO.get ⟨.inr (by first|(rw[zcu (by omega)];all_goals first|rfl|(show _=D.sl (Pat.cs _);rw[Pat.cs_cc];all_goals rfl)|(show _=Pat.cs _;rw[Pat.cs_cc];all_goals rfl)|(show _=D.sl [[D.i _,D.i _,D.i _,D.i _,D.i _,D.sl (Pat.cs _)]];rw[Pat.cs_cc];all_goals rfl))|(rw[zdo (by omega) ⟨by omega,by omega⟩];all_goals first|rfl|(show _=D.sl (Pat.cs _);rw[Pat.cs_cc];all_goals rfl)|(show _=Pat.cs _;rw[Pat.cs_cc];all_goals rfl)|(show _=D.sl [[D.i _,D.i _,D.i _,D.i _,D.i _,D.sl (Pat.cs _)]];rw[Pat.cs_cc];all_goals rfl))|(have hz:(ks,zm,zq)=namL (namP b n) p.kids m (if p.op=1 then q+1 else q):=(by rw[hqq];exact zaF hg1.2.2.2.2.2);rw[zej (by omega) (fun hh=>by omega) hz (by omega) (by omega)];all_goals first|rfl|(show _=D.sl (Pat.cs _);rw[Pat.cs_cc];all_goals rfl)|(show _=Pat.cs _;rw[Pat.cs_cc];all_goals rfl)|(show _=D.sl [[D.i _,D.i _,D.i _,D.i _,D.i _,D.sl (Pat.cs _)]];rw[Pat.cs_cc];all_goals rfl))|(have hz:(ks,zm,zq)=namL (namP b n) p.kids m (if p.op=1 then q+1 else q):=(by rw[hqq];exact zaF hg1.2.2.2.2.2);rw[zek (by omega) (fun hh=>by omega) hz (by omega) (by omega)];all_goals first|rfl|(show _=D.sl (Pat.cs _);rw[Pat.cs_cc];all_goals rfl)|(show _=Pat.cs _;rw[Pat.cs_cc];all_goals rfl)|(show _=D.sl [[D.i _,D.i _,D.i _,D.i _,D.i _,D.sl (Pat.cs _)]];rw[Pat.cs_cc];all_goals rfl))|(have hz:(ks,zm,zq)=namL (namP b n) p.kids m (if p.op=1 then q+1 else q):=(by rw[hqq];exact zaF hg1.2.2.2.2.2);rw[zel (by omega) (fun hh=>by omega) hz (by omega)];all_goals first|rfl|(show _=D.sl (Pat.cs _);rw[Pat.cs_cc];all_goals rfl)|(show _=Pat.cs _;rw[Pat.cs_cc];all_goals rfl)|(show _=D.sl [[D.i _,D.i _,D.i _,D.i _,D.i _,D.sl (Pat.cs _)]];rw[Pat.cs_cc];all_goals rfl))),⟨.inl rfl,trivial⟩⟩) (zaq rfl)
         all_goals (first|(rw[zcu (by omega)];all_goals first|rfl|(show _=D.sl (Pat.cs _);rw[Pat.cs_cc];all_goals rfl)|(show _=Pat.cs _;rw[Pat.cs_cc];all_goals rfl)|(show _=D.sl [[D.i _,D.i _,D.i _,D.i _,D.i _,D.sl (Pat.cs _)]];rw[Pat.cs_cc];all_goals rfl))|(rw[zdo (by omega) ⟨by omega,by omega⟩];all_goals first|rfl|(show _=D.sl (Pat.cs _);rw[Pat.cs_cc];all_goals rfl)|(show _=Pat.cs _;rw[Pat.cs_cc];all_goals rfl)|(show _=D.sl [[D.i _,D.i _,D.i _,D.i _,D.i _,D.sl (Pat.cs _)]];rw[Pat.cs_cc];all_goals rfl))|(have hz:(ks,zm,zq)=namL (namP b n) p.kids m (if p.op=1 then q+1 else q):=(by rw[hqq];exact zaF hg1.2.2.2.2.2);rw[zej (by omega) (fun hh=>by omega) hz (by omega) (by omega)];all_goals first|rfl|(show _=D.sl (Pat.cs _);rw[Pat.cs_cc];all_goals rfl)|(show _=Pat.cs _;rw[Pat.cs_cc];all_goals rfl)|(show _=D.sl [[D.i _,D.i _,D.i _,D.i _,D.i _,D.sl (Pat.cs _)]];rw[Pat.cs_cc];all_goals rfl))|(have hz:(ks,zm,zq)=namL (namP b n) p.kids m (if p.op=1 then q+1 else q):=(by rw[hqq];exact zaF hg1.2.2.2.2.2);rw[zek (by omega) (fun hh=>by omega) hz (by omega) (by omega)];all_goals first|rfl|(show _=D.sl (Pat.cs _);rw[Pat.cs_cc];all_goals rfl)|(show _=Pat.cs _;rw[Pat.cs_cc];all_goals rfl)|(show _=D.sl [[D.i _,D.i _,D.i _,D.i _,D.i _,D.sl (Pat.cs _)]];rw[Pat.cs_cc];all_goals rfl))|(have hz:(ks,zm,zq)=namL (namP b n) p.kids m (if p.op=1 then q+1 else q):=(by rw[hqq];exact zaF hg1.2.2.2.2.2);rw[zel (by omega) (fun hh=>by omega) hz (by omega)];all_goals first|rfl|(show _=D.sl (Pat.cs _);rw[Pat.cs_cc];all_goals rfl)|(show _=Pat.cs _;rw[Pat.cs_cc];all_goals rfl)|(show _=D.sl [[D.i _,D.i _,D.i _,D.i _,D.i _,D.sl (Pat.cs _)]];rw[Pat.cs_cc];all_goals rfl)))
        ·try simp only[Q,Pat.cs_len] at h15p
         refine Walk.store ty37 .none rfl rfl rfl rfl rfl rfl (by simp) rfl ?_
         refine ev ?_
         refine rn [(900,some (rdB b (namP b (n+1) p m q).2.2))] (.cons (.cellA ty37 rfl rfl rfl) (.cons (.tmp rfl) .nil)) (.tup (.cons (.agg (.cons (.eqd ?_) (.cons (.eqd ?_) (.cons (.eqd ?_) (.cons (.eqd ?_) (.cons (.eqd ?_) (.cons (.gld ?_) .nil))))))) (.cons (.eqd ?_) .nil))) ⟨rfl,rfl⟩ (SubO.get ⟨.inr (by first|(rw[zcu (by omega)];all_goals first|rfl|(show _=D.sl (Pat.cs _);rw[Pat.cs_cc];all_goals rfl)|(show _=Pat.cs _;rw[Pat.cs_cc];all_goals rfl)|(show _=D.sl [[D.i _,D.i _,D.i _,D.i _,D.i _,D.sl (Pat.cs _)]];rw[Pat.cs_cc];all_goals rfl))|(rw[zdo (by omega) ⟨by omega,by omega⟩];all_goals first|rfl|(show _=D.sl (Pat.cs _);rw[Pat.cs_cc];all_goals rfl)|(show _=Pat.cs _;rw[Pat.cs_cc];all_goals rfl)|(show _=D.sl [[D.i _,D.i _,D.i _,D.i _,D.i _,D.sl (Pat.cs _)]];rw[Pat.cs_cc];all_goals rfl))|(have hz:(ks,zm,zq)=namL (namP b n) p.kids m (if p.op=1 then q+1 else q):=(by rw[hqq];exact zaF hg1.2.2.2.2.2);rw[zej (by omega) (fun hh=>by omega) hz (by omega) (by omega)];all_goals first|rfl|(show _=D.sl (Pat.cs _);rw[Pat.cs_cc];all_goals rfl)|(show _=Pat.cs _;rw[Pat.cs_cc];all_goals rfl)|(show _=D.sl [[D.i _,D.i _,D.i _,D.i _,D.i _,D.sl (Pat.cs _)]];rw[Pat.cs_cc];all_goals rfl))|(have hz:(ks,zm,zq)=namL (namP b n) p.kids m (if p.op=1 then q+1 else q):=(by rw[hqq];exact zaF hg1.2.2.2.2.2);rw[zek (by omega) (fun hh=>by omega) hz (by omega) (by omega)];all_goals first|rfl|(show _=D.sl (Pat.cs _);rw[Pat.cs_cc];all_goals rfl)|(show _=Pat.cs _;rw[Pat.cs_cc];all_goals rfl)|(show _=D.sl [[D.i _,D.i _,D.i _,D.i _,D.i _,D.sl (Pat.cs _)]];rw[Pat.cs_cc];all_goals rfl))|(have hz:(ks,zm,zq)=namL (namP b n) p.kids m (if p.op=1 then q+1 else q):=(by rw[hqq];exact zaF hg1.2.2.2.2.2);rw[zel (by omega) (fun hh=>by omega) hz (by omega)];all_goals first|rfl|(show _=D.sl (Pat.cs _);rw[Pat.cs_cc];all_goals rfl)|(show _=Pat.cs _;rw[Pat.cs_cc];all_goals rfl)|(show _=D.sl [[D.i _,D.i _,D.i _,D.i _,D.i _,D.sl (Pat.cs _)]];rw[Pat.cs_cc];all_goals rfl))),⟨.inl rfl,trivial⟩⟩) (zaq rfl)
         all_goals (first|(rw[zcu (by omega)];all_goals first|rfl|(show _=D.sl (Pat.cs _);rw[Pat.cs_cc];all_goals rfl)|(show _=Pat.cs _;rw[Pat.cs_cc];all_goals rfl)|(show _=D.sl [[D.i _,D.i _,D.i _,D.i _,D.i _,D.sl (Pat.cs _)]];rw[Pat.cs_cc];all_goals rfl))|(rw[zdo (by omega) ⟨by omega,by omega⟩];all_goals first|rfl|(show _=D.sl (Pat.cs _);rw[Pat.cs_cc];all_goals rfl)|(show _=Pat.cs _;rw[Pat.cs_cc];all_goals rfl)|(show _=D.sl [[D.i _,D.i _,D.i _,D.i _,D.i _,D.sl (Pat.cs _)]];rw[Pat.cs_cc];all_goals rfl))|(have hz:(ks,zm,zq)=namL (namP b n) p.kids m (if p.op=1 then q+1 else q):=(by rw[hqq];exact zaF hg1.2.2.2.2.2);rw[zej (by omega) (fun hh=>by omega) hz (by omega) (by omega)];all_goals first|rfl|(show _=D.sl (Pat.cs _);rw[Pat.cs_cc];all_goals rfl)|(show _=Pat.cs _;rw[Pat.cs_cc];all_goals rfl)|(show _=D.sl [[D.i _,D.i _,D.i _,D.i _,D.i _,D.sl (Pat.cs _)]];rw[Pat.cs_cc];all_goals rfl))|(have hz:(ks,zm,zq)=namL (namP b n) p.kids m (if p.op=1 then q+1 else q):=(by rw[hqq];exact zaF hg1.2.2.2.2.2);rw[zek (by omega) (fun hh=>by omega) hz (by omega) (by omega)];all_goals first|rfl|(show _=D.sl (Pat.cs _);rw[Pat.cs_cc];all_goals rfl)|(show _=Pat.cs _;rw[Pat.cs_cc];all_goals rfl)|(show _=D.sl [[D.i _,D.i _,D.i _,D.i _,D.i _,D.sl (Pat.cs _)]];rw[Pat.cs_cc];all_goals rfl))|(have hz:(ks,zm,zq)=namL (namP b n) p.kids m (if p.op=1 then q+1 else q):=(by rw[hqq];exact zaF hg1.2.2.2.2.2);rw[zel (by omega) (fun hh=>by omega) hz (by omega)];all_goals first|rfl|(show _=D.sl (Pat.cs _);rw[Pat.cs_cc];all_goals rfl)|(show _=Pat.cs _;rw[Pat.cs_cc];all_goals rfl)|(show _=D.sl [[D.i _,D.i _,D.i _,D.i _,D.i _,D.sl (Pat.cs _)]];rw[Pat.cs_cc];all_goals rfl)))
       ·try simp only[Q,Pat.cs_len] at h14p
        refine sqF ?_
        refine Walk.store ty37 .none rfl rfl rfl rfl rfl rfl (by simp) rfl ?_
        refine ev ?_
        refine rn [(900,some (rdB b (namP b (n+1) p m q).2.2))] (.cons (.cellA ty37 rfl rfl rfl) (.cons (.tmp rfl) .nil)) (.tup (.cons (.agg (.cons (.eqd ?_) (.cons (.eqd ?_) (.cons (.eqd ?_) (.cons (.eqd ?_) (.cons (.eqd ?_) (.cons (.gld ?_) .nil))))))) (.cons (.eqd ?_) .nil))) ⟨rfl,rfl⟩ (SubO.get ⟨.inr (by first|(rw[zcu (by omega)];all_goals first|rfl|(show _=D.sl (Pat.cs _);rw[Pat.cs_cc];all_goals rfl)|(show _=Pat.cs _;rw[Pat.cs_cc];all_goals rfl)|(show _=D.sl [[D.i _,D.i _,D.i _,D.i _,D.i _,D.sl (Pat.cs _)]];rw[Pat.cs_cc];all_goals rfl))|(rw[zdo (by omega) ⟨by omega,by omega⟩];all_goals first|rfl|(show _=D.sl (Pat.cs _);rw[Pat.cs_cc];all_goals rfl)|(show _=Pat.cs _;rw[Pat.cs_cc];all_goals rfl)|(show _=D.sl [[D.i _,D.i _,D.i _,D.i _,D.i _,D.sl (Pat.cs _)]];rw[Pat.cs_cc];all_goals rfl))|(have hz:(ks,zm,zq)=namL (namP b n) p.kids m (if p.op=1 then q+1 else q):=(by rw[hqq];exact zaF hg1.2.2.2.2.2);rw[zej (by omega) (fun hh=>by omega) hz (by omega) (by omega)];all_goals first|rfl|(show _=D.sl (Pat.cs _);rw[Pat.cs_cc];all_goals rfl)|(show _=Pat.cs _;rw[Pat.cs_cc];all_goals rfl)|(show _=D.sl [[D.i _,D.i _,D.i _,D.i _,D.i _,D.sl (Pat.cs _)]];rw[Pat.cs_cc];all_goals rfl))|(have hz:(ks,zm,zq)=namL (namP b n) p.kids m (if p.op=1 then q+1 else q):=(by rw[hqq];exact zaF hg1.2.2.2.2.2);rw[zek (by omega) (fun hh=>by omega) hz (by omega) (by omega)];all_goals first|rfl|(show _=D.sl (Pat.cs _);rw[Pat.cs_cc];all_goals rfl)|(show _=Pat.cs _;rw[Pat.cs_cc];all_goals rfl)|(show _=D.sl [[D.i _,D.i _,D.i _,D.i _,D.i _,D.sl (Pat.cs _)]];rw[Pat.cs_cc];all_goals rfl))|(have hz:(ks,zm,zq)=namL (namP b n) p.kids m (if p.op=1 then q+1 else q):=(by rw[hqq];exact zaF hg1.2.2.2.2.2);rw[zel (by omega) (fun hh=>by omega) hz (by omega)];all_goals first|rfl|(show _=D.sl (Pat.cs _);rw[Pat.cs_cc];all_goals rfl)|(show _=Pat.cs _;rw[Pat.cs_cc];all_goals rfl)|(show _=D.sl [[D.i _,D.i _,D.i _,D.i _,D.i _,D.sl (Pat.cs _)]];rw[Pat.cs_cc];all_goals rfl))),⟨.inl rfl,trivial⟩⟩) (zaq rfl)
        all_goals (first|(rw[zcu (by omega)];all_goals first|rfl|(show _=D.sl (Pat.cs _);rw[Pat.cs_cc];all_goals rfl)|(show _=Pat.cs _;rw[Pat.cs_cc];all_goals rfl)|(show _=D.sl [[D.i _,D.i _,D.i _,D.i _,D.i _,D.sl (Pat.cs _)]];rw[Pat.cs_cc];all_goals rfl))|(rw[zdo (by omega) ⟨by omega,by omega⟩];all_goals first|rfl|(show _=D.sl (Pat.cs _);rw[Pat.cs_cc];all_goals rfl)|(show _=Pat.cs _;rw[Pat.cs_cc];all_goals rfl)|(show _=D.sl [[D.i _,D.i _,D.i _,D.i _,D.i _,D.sl (Pat.cs _)]];rw[Pat.cs_cc];all_goals rfl))|(have hz:(ks,zm,zq)=namL (namP b n) p.kids m (if p.op=1 then q+1 else q):=(by rw[hqq];exact zaF hg1.2.2.2.2.2);rw[zej (by omega) (fun hh=>by omega) hz (by omega) (by omega)];all_goals first|rfl|(show _=D.sl (Pat.cs _);rw[Pat.cs_cc];all_goals rfl)|(show _=Pat.cs _;rw[Pat.cs_cc];all_goals rfl)|(show _=D.sl [[D.i _,D.i _,D.i _,D.i _,D.i _,D.sl (Pat.cs _)]];rw[Pat.cs_cc];all_goals rfl))|(have hz:(ks,zm,zq)=namL (namP b n) p.kids m (if p.op=1 then q+1 else q):=(by rw[hqq];exact zaF hg1.2.2.2.2.2);rw[zek (by omega) (fun hh=>by omega) hz (by omega) (by omega)];all_goals first|rfl|(show _=D.sl (Pat.cs _);rw[Pat.cs_cc];all_goals rfl)|(show _=Pat.cs _;rw[Pat.cs_cc];all_goals rfl)|(show _=D.sl [[D.i _,D.i _,D.i _,D.i _,D.i _,D.sl (Pat.cs _)]];rw[Pat.cs_cc];all_goals rfl))|(have hz:(ks,zm,zq)=namL (namP b n) p.kids m (if p.op=1 then q+1 else q):=(by rw[hqq];exact zaF hg1.2.2.2.2.2);rw[zel (by omega) (fun hh=>by omega) hz (by omega)];all_goals first|rfl|(show _=D.sl (Pat.cs _);rw[Pat.cs_cc];all_goals rfl)|(show _=Pat.cs _;rw[Pat.cs_cc];all_goals rfl)|(show _=D.sl [[D.i _,D.i _,D.i _,D.i _,D.i _,D.sl (Pat.cs _)]];rw[Pat.cs_cc];all_goals rfl)))
def szP:Nat→Nat
 |0=>1
 |d+1=>1+3*szP d
theorem zrq (d:Nat):1≤szP d:=by cases d<;>simp only[szP]<;>omega
theorem zff:anyP.size=1∧anyP.ok:=⟨by rw[Pat.size_eq];rfl,by rw[Pat.ok_iff];exact⟨by simp[anyP,Pat.kids],trivial⟩⟩
theorem zqP {f:Ty→Nat→Pat×Nat}{k:Nat}:∀(l:List Ty) (q:Nat),(∀t∈l,∀q,(f t q).1.size≤k∧(f t q).1.ok)→Pats.size (dA f l q).1≤l.length*k∧Pats.ok (dA f l q).1
 | [],q,_=>by simp[dA,Pats.size,Pats.ok]
 |t::r,q,h=>by
  have h1:=h t (by simp) q
  have h2:=zqP r (f t q).2 (fun x hx=>h x (by simp[hx]))
  simp only[dA,List.length_cons,Nat.add_mul,Pats.size]
  exact⟨by omega,h1.2,h2.2⟩
theorem zj0 {b:Str}{w:List Data} (hf:Few w):∀(d:Nat) (t:Ty) (p:Nat),TyIn w.length t→(zay b w d t p).1.size≤szP d∧(zay b w d t p).1.ok
 |0,t,p,_=>by simp only[zay,szP];have:=zff;exact⟨by omega,this.2⟩
 |d+1,⟨a,k⟩,p,ht=>by
  have ih:=fun t p ht=>zj0 (b:=b) hf d t p ht
  have ha:=zff
  have hp:=zrq d
  simp only[szP]
  by_cases c1:d=0
  ·rw[zhd c1];exact⟨by dsimp only;omega,ha.2⟩
  by_cases c2:zad b p 4=0
  ·rw[zhe c1 c2];exact⟨by dsimp only;omega,ha.2⟩
  by_cases c3:zad b (p+1) 6=0
  ·rw[zhf c1 c2 c3]
   have h1:=ih ⟨a,k⟩ (p+2) ht
   have h2:=ih ⟨a,k⟩ (zay b w d ⟨a,k⟩ (p+2)).2 ht
   refine⟨?_, ?_⟩
   ·dsimp only;rw[Pat.size_eq];simp only[Pat.kids,Pats.size];omega
   ·dsimp only;rw[Pat.ok_iff];exact⟨by simp[Pat.kids],h1.2,h2.2,trivial⟩
  by_cases c4:a = -1
  ·rw[zhg c1 c2 c3 c4]
   refine⟨?_, ?_⟩
   ·dsimp only;rw[Pat.size_eq];simp only[Pat.kids,Pats.size];omega
   ·dsimp only;rw[Pat.ok_iff];exact⟨by simp[Pat.kids],trivial⟩
  by_cases c5:(zah w ⟨a,k⟩).length=0
  ·rw[zhh c1 c2 c3 c4 c5];exact⟨by dsimp only;omega,ha.2⟩
  ·rw[zlB c1 c2 c3 c4 c5 rfl]
   have hm:=zhT (b:=b) (p:=p+2) c5
   have h3:=hf ⟨a,k⟩ _ hm ht
   have h1:=zqP (f:=zay b w d) (k:=szP d) _ (p+3) (fun u hu q=>ih u q (h3.2 u hu))
   have h2:=zpg (f:=zay b w d) (zam w ⟨a,k⟩ (nth (zah w ⟨a,k⟩) (zad b (p+2) (zah w ⟨a,k⟩).length).toNat)) (p+3)
   have h4:(zam w ⟨a,k⟩ (nth (zah w ⟨a,k⟩) (zad b (p+2) (zah w ⟨a,k⟩).length).toNat)).length*szP d≤3*szP d:=Nat.mul_le_mul_right _ h3.1
   refine⟨?_, ?_⟩
   ·dsimp only;rw[Pat.size_eq];simp only[Pat.kids];omega
   ·dsimp only;rw[Pat.ok_iff];exact⟨by simp only[Pat.kids];omega,h1.2⟩
theorem zkg {b:Str}{p:Nat}{l:List Int} (h:1≤l.length):numV b p l∈l:=by
 have:=zco (b:=b) (p:=p) (n:=(l.length:Int)) (by omega)
 exact zai (by omega)
theorem num4 (b:Str) (p:Nat):1≤numV b p [3,2,4,1]∧numV b p [3,2,4,1]≤4:=by
 have:=zkg (b:=b) (p:=p) (l:=[3,2,4,1]) (by simp)
 simp only[List.mem_cons,List.not_mem_nil,or_false] at this
 omega
theorem znL {d:Nat} (h:d≤4):szP d≤121∧bdP d≤200:=by
 have:d=0∨d=1∨d=2∨d=3∨d=4:=by omega
 rcases this with rfl|rfl|rfl|rfl|rfl<;>decide
def zch (b:Str) (w:List Data) (t:Ty) (p:Nat):Pat×Int×Nat:=
 namP b (zay b w (numV b p [3,2,4,1]).toNat t (p+1)).1.size (zay b w (numV b p [3,2,4,1]).toNat t (p+1)).1 0 (zay b w (numV b p [3,2,4,1]).toNat t (p+1)).2
def zbx (b:Str) (w:List Data) (t:Ty) (p:Nat):Pat:=if isP w t (zch b w t p).1 then (zch b w t p).1 else anyP
theorem zgL {b:Str}{w:List Data} (hf:Few w){t:Ty} (ht:TyIn w.length t) (p:Nat):(zch b w t p).2.2≤p+500∧(zch b w t p).1.size≤242∧(zch b w t p).1.ok:=by
 have h4:=num4 b p
 have hs:=znL (d:=(numV b p [3,2,4,1]).toNat) (by omega)
 have h1:=zj0 (b:=b) hf (numV b p [3,2,4,1]).toNat t (p+1) ht
 have h2:=zhE (b:=b) hf (numV b p [3,2,4,1]).toNat t (p+1) ht
 have h3:=zlJ (b:=b) (zay b w (numV b p [3,2,4,1]).toNat t (p+1)).1.size (zay b w (numV b p [3,2,4,1]).toNat t (p+1)).1 0 (zay b w (numV b p [3,2,4,1]).toNat t (p+1)).2 (by omega) (by omega)
 obtain⟨_,_,n3,n4,n5⟩:=h3
 exact⟨by unfold zch;omega,by unfold zch;omega,n5 h1.2⟩
theorem zk6 {b:Str}{w:List Data} (hf:Few w){t:Ty} (ht:TyIn w.length t) (p:Nat):(zbx b w t p).size≤242∧(zbx b w t p).ok:=by
 have h:=zgL (b:=b) hf ht p
 have ha:=zff
 unfold zbx
 split
 ·exact⟨h.2.1,h.2.2⟩
 ·exact⟨by omega,ha.2⟩
theorem zlX {b:Str}{w:List Data} (hb:b.length≤2000) (hw:WT w) (hf:Few w){a k:Int}{p:Nat} (hp:p≤100000) (ht:TyIn w.length ⟨a,k⟩):
  FnD Tryz.prog 85 [.ref 900 0,.d (zag w),.agg [.d (.i a),.d (.i k)]] [(900,some (rdB b p))]
   (.agg [.d (.i (zbx b w ⟨a,k⟩ p).op),.d (.i (zbx b w ⟨a,k⟩ p).ctor),.d (.i (zbx b w ⟨a,k⟩ p).n),.d (.i (zbx b w ⟨a,k⟩ p).m),.d (.i (zbx b w ⟨a,k⟩ p).var),.d (zaH (zbx b w ⟨a,k⟩ p).kids)]) [(900,some (rdB b (zch b w ⟨a,k⟩ p).2.2))]:=by
 have h4:=num4 b p
 have hs:=znL (d:=(numV b p [3,2,4,1]).toNat) (by omega)
 have h1:=zj0 (b:=b) hf (numV b p [3,2,4,1]).toNat ⟨a,k⟩ (p+1) ht
 have h2:=zhE (b:=b) hf (numV b p [3,2,4,1]).toNat ⟨a,k⟩ (p+1) ht
 have hr:=zgL (b:=b) hf ht p
 have hnum:=zbo (b:=b) (p:=p) (l:=[3,2,4,1]) hb (by omega) (by simp) (by simp)
 have hdr:=zer hb hw hf (numV b p [3,2,4,1]).toNat (a:=a) (k:=k) (m:=numV b p [3,2,4,1]) (p:=p+1) (by omega) (by omega) (by omega) (by omega) ht
 have hnm:=zfp hb (zay b w (numV b p [3,2,4,1]).toNat ⟨a,k⟩ (p+1)).1.size (m:=0) (q:=(zay b w (numV b p [3,2,4,1]).toNat ⟨a,k⟩ (p+1)).2) (Nat.le_refl _) h1.2 (by omega) (by omega) (by omega)
 have hsp:zbx b w ⟨a,k⟩ p=if isP w ⟨a,k⟩ (zch b w ⟨a,k⟩ p).1 then (zch b w ⟨a,k⟩ p).1 else anyP:=rfl
 rw[show namP b (zay b w (numV b p [3,2,4,1]).toNat ⟨a,k⟩ (p+1)).1.size (zay b w (numV b p [3,2,4,1]).toNat ⟨a,k⟩ (p+1)).1 0 (zay b w (numV b p [3,2,4,1]).toNat ⟨a,k⟩ (p+1)).2=zch b w ⟨a,k⟩ p from rfl] at hnm
 generalize numV b p [3,2,4,1]=m at *
 refine bd Tryz.f85 28 [] [] fun w0 F0 own kept hk=>?_
 refine Walk.box (id:=3005) .none rfl rfl rfl rfl rfl rfl rfl ?_
 refine Walk.alloc (id:=3006) tz37 rfl .none rfl rfl rfl rfl ?_
 refine tv ?_
 refine Walk.sliceLit sl75 tz3 rfl (by decide) (ks:=[0,1,2,3]) (xs:=[_,_,_,_]) rfl rfl (by decide) (by decide) .none rfl rfl rfl rfl ?_
 refine Walk.call (cr:=[]) zdJ (hnum) rfl .none rfl rfl (LeL.refl _) ⟨rfl,trivial⟩ rfl rfl rfl ?_
 refine Walk.call (cr:=[]) zkv (hdr) rfl .none rfl rfl (LeL.refl _) ⟨rfl,trivial⟩ rfl rfl rfl ?_
 refine Walk.call (cr:=[]) zm0 (hnm) rfl .none rfl rfl (LeL.refl _) ⟨rfl,trivial⟩ rfl rfl rfl ?_
 refine evd [] [] ?_
 refine Walk.alloc (id:=3007) tz37 rfl .none rfl rfl rfl rfl ?_
 refine Walk.store ty37 .none rfl rfl rfl rfl rfl rfl (by simp) rfl ?_
 refine evd [] [] ?_
 refine dr ?_
 refine Walk.call (cr:=[]) zoy (zgy hw ht hr.2.2 (by omega)) rfl .none rfl rfl (LeL.refl _) trivial rfl rfl rfl ?_
 refine ev ?_
 refine sq (fun h1 h1p h1s=>?_) fun h1 h1p h1s=>?_
 ·try simp only[Q] at h1p
  refine Walk.build st37 (ks:=[0]) (xs:=[_]) rfl rfl .none rfl rfl rfl ?_
  refine Walk.store ty37 .none rfl rfl rfl rfl rfl rfl (by simp) rfl ?_
  refine tv ?_
  refine rn [(900,some (rdB b (zch b w ⟨a,k⟩ p).2.2))] (.cons (.cellA ty37 rfl rfl rfl) .nil) (.agg (.cons (.eqd ?_) (.cons (.eqd ?_) (.cons (.eqd ?_) (.cons (.eqd ?_) (.cons (.eqd ?_) (.cons (.nild ?_) .nil))))))) ⟨rfl,rfl⟩ (SubO.get ⟨.inr (by rfl),⟨.inl rfl,trivial⟩⟩) (zaq rfl)
  all_goals (first|(rw[hsp,if_neg (by rw[h1s];simp)];all_goals rfl)|(rw[hsp,if_pos h1s];all_goals rfl))
 ·try simp only[Q] at h1p
  refine Walk.store ty37 .none rfl rfl rfl rfl rfl rfl (by simp) rfl ?_
  refine tv ?_
  refine rn [(900,some (rdB b (zch b w ⟨a,k⟩ p).2.2))] (.cons (.cellA ty37 rfl rfl rfl) .nil) (.agg (.cons (.eqd ?_) (.cons (.eqd ?_) (.cons (.eqd ?_) (.cons (.eqd ?_) (.cons (.eqd ?_) (.cons (.eqd ?_) .nil))))))) ⟨rfl,rfl⟩ (SubO.get ⟨.inr (by rfl),⟨.inl rfl,trivial⟩⟩) (zaq rfl)
  all_goals (first|(rw[hsp,if_neg (by rw[h1s];simp)];all_goals rfl)|(rw[hsp,if_pos h1s];all_goals rfl))
section
variable {c:Ctx}{all:Array Oper}{chk:List Rec→Prop}{os:List Oper}{recs:List Rec}{env:Env}{hp:Hp}{Q:St→Prop}
variable {d ty:Nat}{pos:String}{af:Array Edge}{g:Option (Nat×Bool)}{pg:List (Nat×AV)}{t yt:TypeId}{x y:Operand}
theorem Walk.appendM {id k e yb:Nat}{xs ys:List (List D)}{vy:AV}{ids:List Nat} (hkp:KeptIn c.kept ids) (hid:zaO id ids=false) (hne:xs++ys≠[]) (ht:SlT c.P t e k yb) (hz:ZeroT c.P e k) (hg:GH all env g pg) (hd:Nat.blt d c.n=true)
  (hx:opd env x=some (.gv id xs)) (hy:opd env y=some vy) (hyd:vy.toD=some (.sl ys)) (htok:getH hp id=some (.tok xs.length k)) (hky:∀y,y∈ys→y.length=k)
  (hb:(xs.length+ys.length)*yb≤140737488355328) (hm:xs.length+ys.length≤9223372036854775807)
  (hn:Walk c all chk os (zal (pg++(opF x (.gv id xs)++opF y vy)) [(id,.tok xs.length k)] [] ⟨some (d,.ms id (xs++ys).length),[(id,some (.box ((xs++ys).flatten.map .d)))]⟩::recs)
   ⟨(d,.ms id (xs++ys).length)::env,(id,some (.box ((xs++ys).flatten.map .d)))::hp⟩ Q):
  Walk c all chk (⟨some d,.call ⟨.builtin .append,#[x,y],#[t,t]⟩,ty,pos,af,g⟩::os) recs ⟨env,hp⟩ Q:=by
 refine⟨pg++(opF x (.gv id xs)++opF y vy),[(id,.tok xs.length k)],[],_, ?_,zav hg.facts (zav (zbd hx) (zbd hy)),hh1 htok,by simp,hn⟩
 intro s a w hrel hp' hh _ K Q' hK
 obtain⟨G,hr⟩:=hrel
 have e1:=hr.opd (zbe hx (fun p hm=>hp' p (by simp[hm])))
 have e2:=hr.opd (zbe hy (fun p hm=>hp' p (by simp[hm])))
 obtain⟨i,z,z1,z2,z3⟩:=hz.out
 obtain⟨v',w',G',hrun,hR,hA⟩:=zim hr ht ⟨i,z1,z2,z3⟩ (hh1' hh) e1 (e2.toD hyd) hky hb hm ty
 unfold wpO
 rw[if_pos (hg.gf.wanted hr (fun p hm=>hp' p (by simp[hm])))]
 unfold Oper.wp
 have:(execOp a.eval ⟨some d,.call ⟨.builtin .append,#[x,y],#[t,t]⟩,ty,pos,af,g⟩).run c.P w = .ok (.value v') w':=by
  simp only[execOp,resolve,invoke,builtin,Sem.run_bind,Sem.run_pure,Result.andThen_ok,List.map_toArray,List.map_cons,List.map_nil,hrun]
 rw[this,Oper.upon_value]
 have hV:Rel c ⟨(d,.gv id (xs++ys))::s.env,(id,some (.tok (xs.length+ys.length) k))::s.hp⟩ (a.put (some d) v') w':=⟨G',hR.put hA hd⟩
 rcases Rel.fixV hkp d id k (xs:=xs++ys) (by simp[getE]) (by rw[zab,if_pos rfl,List.length_append]) hid hV with ⟨h,_⟩|⟨_,h⟩
 ·exact absurd h hne
 ·refine hK _ _ (h.congr (fun j=>?_) (fun j=>?_))
  ·show getE ((d,_)::s.env) j=getE ((d,_)::(d,_)::s.env) j
   simp only[getE]
   cases Nat.beq d j<;>rfl
  ·show getH ((id,_)::s.hp) j=getH ((id,_)::(id,_)::s.hp) j
   rw[zab,zab,zab]
   by_cases hj:j=id
   ·rw[if_pos hj,if_pos hj]
   ·rw[if_neg hj,if_neg hj,if_neg hj]
end
def zbs:Pat:=⟨2,0,0,0,0,[]⟩
def mutP (b:Str) (p:Pat) (q:Nat):Pat×Nat:=
 if zad b q 30=0 then (⟨numV b (q+1) [0,7,1,2,5],p.ctor,p.n,p.m,p.var,p.kids⟩,q+2)
 else if zad b q 30=1 then (⟨p.op,p.ctor,p.n,p.m,numV b (q+1) [6,-1,1],p.kids⟩,q+2)
 else if zad b q 30=2 then (⟨p.op,numV b (q+1) [9,-1,1],p.n,p.m,p.var,p.kids⟩,q+2)
 else if zad b q 30=3 then (⟨p.op,p.ctor,p.n,p.m,p.var,p.kids++[zbs]⟩,q+1)
 else if zad b q 30=4 then (⟨p.op,p.ctor,p.n,p.m,p.var,p.kids.set 0 zbs⟩,q+1)
 else if zad b q 30=5 then (⟨p.op,p.ctor,numV b (q+1) [10,-1,5],p.m,p.var,p.kids⟩,q+2)
 else (⟨p.op,p.ctor,p.n,p.m,p.var,p.kids⟩,q+1)
theorem put0 {l:List (List D)}{x:List D}{r:List (List D)}{v:List AV} (h:l=x::r) (hx:x.length=v.length):putC (l.flatten.map .d) 0 v=some (v++r.flatten.map .d):=by
 subst h
 rw[List.flatten_cons,List.map_append]
 have key:∀(a b:List AV),a.length=b.length→∀(c:List AV),putC (a++c) 0 b=some (b++c):=by
  intro a
  induction a with
  |nil=>intro b h c;cases b with
   |nil=>cases c<;>rfl
   |cons=>simp at h
  |cons y a ih=>intro b h c;cases b with
   |nil=>simp at h
   |cons z b=>
    have:=ih b (by simpa using h) c
    simp only[List.cons_append,putC,this]
 exact key _ _ (by simpa using hx) _
theorem zkD {k:Nat}{v:List AV}{vd:List D}{r:List (List D)} (hv:toDL v=some vd) (hk:v.length=k) (hr:∀x∈r,x.length=k):zbO (r.length+1) k (v++r.flatten.map .d)=some (vd::r):=by
 have h1:cutC (v++r.flatten.map .d) 0 k=some v:=ziu hk
 have h2:(v++r.flatten.map AV.d).drop k=r.flatten.map .d:=by rw[←hk];simp
 have h3:=zfu (f:=fun x:List D=>x) (k:=k) (l:=r) hr
 have h4:(r.flatMap fun x=>x.map AV.d)=r.flatten.map .d:=by rw[List.map_flatten];rfl
 rw[h4,List.map_id'] at h3
 simp only[zbO,h1,hv,h2,h3]
theorem Pat.cs_app (a b:List Pat):Pat.cs (a++b)=Pat.cs a++Pat.cs b:=by
 rw[Pat.cs_cc,Pat.cs_cc,Pat.cs_cc,List.map_append]
theorem zlj {b:Str} (hb:b.length≤2000){p:Pat}{q:Nat} (hq:q≤1000000) (hok:p.ok) (hc4:¬(zad b q 30=4∧p.kids≠[])):
  FnD Tryz.prog 36 [.ref 900 0,.agg [.d (.i p.op),.d (.i p.ctor),.d (.i p.n),.d (.i p.m),.d (.i p.var),.d (zaH p.kids)]] [(900,some (rdB b q))]
   (.agg [.d (.i (mutP b p q).1.op),.d (.i (mutP b p q).1.ctor),.d (.i (mutP b p q).1.n),.d (.i (mutP b p q).1.m),.d (.i (mutP b p q).1.var),.d (zaH (mutP b p q).1.kids)]) [(900,some (rdB b (mutP b p q).2))]:=by
 rw[Pat.ok_iff] at hok
 have hkl:=Pat.cs_len p.kids
 refine bd Tryz.f36 57 [] [] fun w0 F0 own kept hk=>?_
 refine Walk.box (id:=3003) .none rfl rfl rfl rfl rfl rfl rfl ?_
 refine Walk.alloc (id:=3004) tz37 rfl .none rfl rfl rfl rfl ?_
 refine tv ?_
 refine Walk.alloc (id:=3005) tz37 rfl .none rfl rfl rfl rfl ?_
 refine Walk.store ty37 .none rfl rfl rfl rfl rfl rfl (by simp) rfl ?_
 refine tv ?_
 refine Walk.sliceEmptyG 1 sl35 .none rfl rfl ?_
 refine ev ?_
 refine Walk.append sl35 zz37 rfl .none rfl rfl rfl rfl (zaP rfl (by first|rfl|(simp;done)|(simp;omega))) (by(intro x hx;exact Pat.cs_rows x hx)) (by simp[Pat.cs_len];omega) (by simp[Pat.cs_len];omega) ?_
 refine ev ?_
 refine Walk.store ty35 .none rfl rfl rfl rfl rfl rfl (by simp) rfl ?_
 refine tv ?_
 refine Walk.call (cr:=[]) zbW (zaE (p:=q) (n:=30) hb (by omega) (by omega)) rfl .none rfl rfl (LeL.refl _) ⟨rfl,trivial⟩ rfl rfl rfl ?_
 refine tv ?_
 refine sq (fun h1 h1p h1s=>?_) fun h1 h1p h1s=>?_
 ·try simp only[Q,Pat.cs_len] at h1p
  refine Walk.sliceLit sl75 tz3 rfl (by decide) (ks:=[0,1,2,3,4]) (xs:=[_,_,_,_,_]) rfl rfl (by decide) (by decide) .none rfl rfl rfl rfl ?_
  refine Walk.call (cr:=[]) zdJ (zbo (p:=q+1) (l:=[0,7,1,2,5]) hb (by omega) (by simp) (by simp)) rfl .none rfl rfl (LeL.refl _) ⟨rfl,trivial⟩ rfl rfl rfl ?_
  refine ev ?_
  refine Walk.store ty3 .none rfl rfl rfl rfl rfl rfl (by simp) rfl ?_
  refine tv ?_
  refine Walk.store ty37 .none rfl rfl rfl rfl rfl rfl (by simp) rfl ?_
  refine tv ?_
  refine rn [(900,some (rdB b (mutP b p q).2))] (.cons (.cellA ty37 rfl rfl rfl) .nil) (.agg (.cons (.eqd ?_) (.cons (.eqd ?_) (.cons (.eqd ?_) (.cons (.eqd ?_) (.cons (.eqd ?_) (.cons (.gld ?_) .nil))))))) ⟨rfl,rfl⟩ (SubO.get ⟨.inr (by unfold mutP;(rw[if_pos (by omega)];all_goals first|rfl|(show _=Pat.cs (p.kids++[zbs]);rw[Pat.cs_app];all_goals rfl))),⟨.inl rfl,trivial⟩⟩) (zaq rfl)
  all_goals (unfold mutP;(rw[if_pos (by omega)];all_goals first|rfl|(show _=Pat.cs (p.kids++[zbs]);rw[Pat.cs_app];all_goals rfl)))
 ·try simp only[Q,Pat.cs_len] at h1p
  refine sq (fun h2 h2p h2s=>?_) fun h2 h2p h2s=>?_
  ·try simp only[Q,Pat.cs_len] at h2p
   refine Walk.sliceLit sl75 tz3 rfl (by decide) (ks:=[0,1,2]) (xs:=[_,_,_]) rfl rfl (by decide) (by decide) .none rfl rfl rfl rfl ?_
   refine Walk.call (cr:=[]) zdJ (zbo (p:=q+1) (l:=[6,-1,1]) hb (by omega) (by simp) (by simp)) rfl .none rfl rfl (LeL.refl _) ⟨rfl,trivial⟩ rfl rfl rfl ?_
   refine ev ?_
   refine Walk.store ty3 .none rfl rfl rfl rfl rfl rfl (by simp) rfl ?_
   refine tv ?_
   refine Walk.store ty37 .none rfl rfl rfl rfl rfl rfl (by simp) rfl ?_
   refine tv ?_
   refine rn [(900,some (rdB b (mutP b p q).2))] (.cons (.cellA ty37 rfl rfl rfl) .nil) (.agg (.cons (.eqd ?_) (.cons (.eqd ?_) (.cons (.eqd ?_) (.cons (.eqd ?_) (.cons (.eqd ?_) (.cons (.gld ?_) .nil))))))) ⟨rfl,rfl⟩ (SubO.get ⟨.inr (by unfold mutP;(rw[if_neg (by omega),if_pos (by omega)];all_goals first|rfl|(show _=Pat.cs (p.kids++[zbs]);rw[Pat.cs_app];all_goals rfl))),⟨.inl rfl,trivial⟩⟩) (zaq rfl)
   all_goals (unfold mutP;(rw[if_neg (by omega),if_pos (by omega)];all_goals first|rfl|(show _=Pat.cs (p.kids++[zbs]);rw[Pat.cs_app];all_goals rfl)))
  ·try simp only[Q,Pat.cs_len] at h2p
   refine sq (fun h3 h3p h3s=>?_) fun h3 h3p h3s=>?_
   ·try simp only[Q,Pat.cs_len] at h3p
    refine Walk.sliceLit sl75 tz3 rfl (by decide) (ks:=[0,1,2]) (xs:=[_,_,_]) rfl rfl (by decide) (by decide) .none rfl rfl rfl rfl ?_
    refine Walk.call (cr:=[]) zdJ (zbo (p:=q+1) (l:=[9,-1,1]) hb (by omega) (by simp) (by simp)) rfl .none rfl rfl (LeL.refl _) ⟨rfl,trivial⟩ rfl rfl rfl ?_
    refine ev ?_
    refine Walk.store ty3 .none rfl rfl rfl rfl rfl rfl (by simp) rfl ?_
    refine tv ?_
    refine Walk.store ty37 .none rfl rfl rfl rfl rfl rfl (by simp) rfl ?_
    refine tv ?_
    refine rn [(900,some (rdB b (mutP b p q).2))] (.cons (.cellA ty37 rfl rfl rfl) .nil) (.agg (.cons (.eqd ?_) (.cons (.eqd ?_) (.cons (.eqd ?_) (.cons (.eqd ?_) (.cons (.eqd ?_) (.cons (.gld ?_) .nil))))))) ⟨rfl,rfl⟩ (SubO.get ⟨.inr (by unfold mutP;(rw[if_neg (by omega),if_neg (by omega),if_pos (by omega)];all_goals first|rfl|(show _=Pat.cs (p.kids++[zbs]);rw[Pat.cs_app];all_goals rfl))),⟨.inl rfl,trivial⟩⟩) (zaq rfl)
    all_goals (unfold mutP;(rw[if_neg (by omega),if_neg (by omega),if_pos (by omega)];all_goals first|rfl|(show _=Pat.cs (p.kids++[zbs]);rw[Pat.cs_app];all_goals rfl)))
   ·try simp only[Q,Pat.cs_len] at h3p
    refine sq (fun h4 h4p h4s=>?_) fun h4 h4p h4s=>?_
    ·try simp only[Q,Pat.cs_len] at h4p
     refine Walk.build st37 (ks:=[0]) (xs:=[_]) rfl rfl .none rfl rfl rfl ?_
     refine Walk.sliceLit sl35 tz37 rfl (by decide) (ks:=[0]) (xs:=[_]) rfl rfl (by decide) (by decide) .none rfl rfl rfl rfl ?_
     refine Walk.append sl35 zz37 rfl .none rfl rfl rfl rfl (zaP rfl (by first|rfl|(simp;done)|(simp;omega))) (by(intro x hx;simp only[List.mem_singleton] at hx;subst hx;rfl)) (by simp[Pat.cs_len];omega) (by simp[Pat.cs_len];omega) ?_
     refine ev ?_
     refine Walk.store ty35 .none rfl rfl rfl rfl rfl rfl (by simp) rfl ?_
     refine tv ?_
     refine Walk.store ty37 .none rfl rfl rfl rfl rfl rfl (by simp) rfl ?_
     refine tv ?_
     refine rn [(900,some (rdB b (mutP b p q).2))] (.cons (.cellA ty37 rfl rfl rfl) .nil) (.agg (.cons (.eqd ?_) (.cons (.eqd ?_) (.cons (.eqd ?_) (.cons (.eqd ?_) (.cons (.eqd ?_) (.cons (.gld ?_) .nil))))))) ⟨rfl,rfl⟩ (SubO.get ⟨.inr (by unfold mutP;(rw[if_neg (by omega),if_neg (by omega),if_neg (by omega),if_pos (by omega)];all_goals first|rfl|(show _=Pat.cs (p.kids++[zbs]);rw[Pat.cs_app];all_goals rfl))),⟨.inl rfl,trivial⟩⟩) (zaq rfl)
     all_goals (unfold mutP;(rw[if_neg (by omega),if_neg (by omega),if_neg (by omega),if_pos (by omega)];all_goals first|rfl|(show _=Pat.cs (p.kids++[zbs]);rw[Pat.cs_app];all_goals rfl)))
    ·try simp only[Q,Pat.cs_len] at h4p
     refine sq (fun h5 h5p h5s=>?_) fun h5 h5p h5s=>?_
     ·try simp only[Q,Pat.cs_len] at h5p
      refine sq (fun h6 h6p h6s=>?_) fun h6 h6p h6s=>?_
      ·try simp only[Q,Pat.cs_len] at h6p
       exfalso;apply hc4;refine⟨by omega,fun hh=>?_⟩;rw[hh] at h6p;exact absurd h6p (by decide)
      ·try simp only[Q,Pat.cs_len] at h6p
       refine Walk.store ty37 .none rfl rfl rfl rfl rfl rfl (by simp) rfl ?_
       refine tv ?_
       refine rn [(900,some (rdB b (mutP b p q).2))] (.cons (.cellA ty37 rfl rfl rfl) .nil) (.agg (.cons (.eqd ?_) (.cons (.eqd ?_) (.cons (.eqd ?_) (.cons (.eqd ?_) (.cons (.eqd ?_) (.cons (.gld ?_) .nil))))))) ⟨rfl,rfl⟩ (SubO.get ⟨.inr (by unfold mutP;(rw[if_neg (by omega),if_neg (by omega),if_neg (by omega),if_neg (by omega),if_pos (by omega)];all_goals first|rfl|(show _=Pat.cs (p.kids++[zbs]);rw[Pat.cs_app];all_goals rfl))),⟨.inl rfl,trivial⟩⟩) (zaq rfl)
       all_goals (unfold mutP;(have hnk:p.kids=[]:=(by rcases hke:p.kids with _|⟨y,r⟩;rfl;exact absurd ⟨by omega,by rw[hke];simp⟩ hc4);rw[if_neg (by omega),if_neg (by omega),if_neg (by omega),if_neg (by omega),if_pos (by omega),hnk];all_goals rfl))
     ·try simp only[Q,Pat.cs_len] at h5p
      refine sq (fun h7 h7p h7s=>?_) fun h7 h7p h7s=>?_
      ·try simp only[Q,Pat.cs_len] at h7p
       refine Walk.sliceLit sl75 tz3 rfl (by decide) (ks:=[0,1,2]) (xs:=[_,_,_]) rfl rfl (by decide) (by decide) .none rfl rfl rfl rfl ?_
       refine Walk.call (cr:=[]) zdJ (zbo (p:=q+1) (l:=[10,-1,5]) hb (by omega) (by simp) (by simp)) rfl .none rfl rfl (LeL.refl _) ⟨rfl,trivial⟩ rfl rfl rfl ?_
       refine ev ?_
       refine Walk.store ty3 .none rfl rfl rfl rfl rfl rfl (by simp) rfl ?_
       refine tv ?_
       refine Walk.store ty37 .none rfl rfl rfl rfl rfl rfl (by simp) rfl ?_
       refine tv ?_
       refine rn [(900,some (rdB b (mutP b p q).2))] (.cons (.cellA ty37 rfl rfl rfl) .nil) (.agg (.cons (.eqd ?_) (.cons (.eqd ?_) (.cons (.eqd ?_) (.cons (.eqd ?_) (.cons (.eqd ?_) (.cons (.gld ?_) .nil))))))) ⟨rfl,rfl⟩ (SubO.get ⟨.inr (by unfold mutP;(rw[if_neg (by omega),if_neg (by omega),if_neg (by omega),if_neg (by omega),if_neg (by omega),if_pos (by omega)];all_goals first|rfl|(show _=Pat.cs (p.kids++[zbs]);rw[Pat.cs_app];all_goals rfl))),⟨.inl rfl,trivial⟩⟩) (zaq rfl)
       all_goals (unfold mutP;(rw[if_neg (by omega),if_neg (by omega),if_neg (by omega),if_neg (by omega),if_neg (by omega),if_pos (by omega)];all_goals first|rfl|(show _=Pat.cs (p.kids++[zbs]);rw[Pat.cs_app];all_goals rfl)))
      ·try simp only[Q,Pat.cs_len] at h7p
       refine Walk.store ty37 .none rfl rfl rfl rfl rfl rfl (by simp) rfl ?_
       refine tv ?_
       refine rn [(900,some (rdB b (mutP b p q).2))] (.cons (.cellA ty37 rfl rfl rfl) .nil) (.agg (.cons (.eqd ?_) (.cons (.eqd ?_) (.cons (.eqd ?_) (.cons (.eqd ?_) (.cons (.eqd ?_) (.cons (.gld ?_) .nil))))))) ⟨rfl,rfl⟩ (SubO.get ⟨.inr (by unfold mutP;(rw[if_neg (by omega),if_neg (by omega),if_neg (by omega),if_neg (by omega),if_neg (by omega),if_neg (by omega)];all_goals first|rfl|(show _=Pat.cs (p.kids++[zbs]);rw[Pat.cs_app];all_goals rfl))),⟨.inl rfl,trivial⟩⟩) (zaq rfl)
       all_goals (unfold mutP;(rw[if_neg (by omega),if_neg (by omega),if_neg (by omega),if_neg (by omega),if_neg (by omega),if_neg (by omega)];all_goals first|rfl|(show _=Pat.cs (p.kids++[zbs]);rw[Pat.cs_app];all_goals rfl)))
theorem zlk {b:Str} (hb:b.length≤2000){p:Pat}{q:Nat} (hq:q≤1000000) (hok:p.ok) (hc4:zad b q 30=4){y:Pat}{r:List Pat} (hk4:p.kids=y::r):
  FnD Tryz.prog 36 [.ref 900 0,.agg [.d (.i p.op),.d (.i p.ctor),.d (.i p.n),.d (.i p.m),.d (.i p.var),.d (zaH p.kids)]] [(900,some (rdB b q))]
   (.agg [.d (.i (mutP b p q).1.op),.d (.i (mutP b p q).1.ctor),.d (.i (mutP b p q).1.n),.d (.i (mutP b p q).1.m),.d (.i (mutP b p q).1.var),.d (zaH (mutP b p q).1.kids)]) [(900,some (rdB b (mutP b p q).2))]:=by
 rw[Pat.ok_iff] at hok
 have hkl:=Pat.cs_len p.kids
 have hcs:Pat.cs p.kids=y.cc::Pat.cs r:=by rw[Pat.cs_cc,hk4,List.map_cons,←Pat.cs_cc]
 have hrl:(Pat.cs p.kids).length=(Pat.cs r).length+1:=by rw[hcs];rfl
 have hmu:mutP b p q=(⟨p.op,p.ctor,p.n,p.m,p.var,zbs::r⟩,q+1):=by
  unfold mutP;rw[if_neg (by omega),if_neg (by omega),if_neg (by omega),if_neg (by omega),if_pos hc4,hk4];rfl
 refine bd Tryz.f36 57 [] [17] fun w0 F0 own kept hk=>?_
 refine Walk.box (id:=3003) .none rfl rfl rfl rfl rfl rfl rfl ?_
 refine Walk.alloc (id:=3004) tz37 rfl .none rfl rfl rfl rfl ?_
 refine tv ?_
 refine Walk.alloc (id:=3005) tz37 rfl .none rfl rfl rfl rfl ?_
 refine Walk.store ty37 .none rfl rfl rfl rfl rfl rfl (by simp) rfl ?_
 refine tv ?_
 refine Walk.sliceEmptyGV 1 sl35 .none rfl rfl ?_
 refine ev ?_
 refine Walk.appendM hk rfl (by rw[hcs];simp) sl35 zz37 .none rfl rfl rfl rfl (zaP rfl (by first|rfl|(simp;done)|(simp;omega))) (by intro x hx;exact Pat.cs_rows x hx) (by simp[Pat.cs_len];omega) (by simp[Pat.cs_len];omega) ?_
 refine ev ?_
 refine Walk.store ty35 .none rfl rfl rfl rfl rfl rfl (by simp) rfl ?_
 refine tv ?_
 refine Walk.call (cr:=[]) zbW (zaE (p:=q) (n:=30) hb (by omega) (by omega)) rfl .none rfl rfl (LeL.refl _) ⟨rfl,trivial⟩ rfl rfl rfl ?_
 refine tv ?_
 refine sq (fun h1 h1p h1s=>?_) fun h1 h1p h1s=>?_
 ·try simp only[Q,Pat.cs_len] at h1p
  exfalso;omega
 ·try simp only[Q,Pat.cs_len] at h1p
  refine sq (fun h2 h2p h2s=>?_) fun h2 h2p h2s=>?_
  ·try simp only[Q,Pat.cs_len] at h2p
   exfalso;omega
  ·try simp only[Q,Pat.cs_len] at h2p
   refine sq (fun h3 h3p h3s=>?_) fun h3 h3p h3s=>?_
   ·try simp only[Q,Pat.cs_len] at h3p
    exfalso;omega
   ·try simp only[Q,Pat.cs_len] at h3p
    refine sq (fun h4 h4p h4s=>?_) fun h4 h4p h4s=>?_
    ·try simp only[Q,Pat.cs_len] at h4p
     exfalso;omega
    ·try simp only[Q,Pat.cs_len] at h4p
     refine sq (fun h5 h5p h5s=>?_) fun h5 h5p h5s=>?_
     ·try simp only[Q,Pat.cs_len] at h5p
      refine sq (fun h6 h6p h6s=>?_) fun h6 h6p h6s=>?_
      ·try simp only[Q,Pat.cs_len] at h6p
       refine Walk.build st37 (ks:=[0]) (xs:=[_]) rfl rfl .none rfl rfl rfl ?_
       refine Walk.idxM (i:=0) sl35 .none rfl rfl rfl rfl (by simp;omega) ?_
       refine Walk.store ty37 .none rfl rfl rfl rfl rfl rfl (by simp) ((put0 hcs rfl)) ?_
       refine tv ?_
       refine CWp.frzC hk 3005 5 1 _ 6 rfl rfl rfl rfl rfl (by rw[List.nil_append,hrl];exact zkD rfl rfl (fun x hx=>Pat.cs_rows x hx)) rfl ?_
       refine evc [] [] ?_
       refine Walk.store ty37 .none rfl rfl rfl rfl rfl rfl (by simp) rfl ?_
       refine tv ?_
       refine rn [(900,some (rdB b (mutP b p q).2))] (.cons (.cellA ty37 rfl rfl rfl) .nil) (.agg (.cons (.eqd ?_) (.cons (.eqd ?_) (.cons (.eqd ?_) (.cons (.eqd ?_) (.cons (.eqd ?_) (.cons (.eqd ?_) .nil))))))) ⟨rfl,rfl⟩ (SubO.get ⟨.inr (by rw[hmu];all_goals rfl),⟨.inl rfl,trivial⟩⟩) (zaq rfl)
       all_goals (rw[hmu];all_goals rfl)
      ·try simp only[Q,Pat.cs_len] at h6p
       exfalso;rw[List.nil_append,hrl] at h6p;omega
     ·try simp only[Q,Pat.cs_len] at h5p
      exfalso;omega
theorem zgz {b:Str} (hb:b.length≤2000){p:Pat}{q:Nat} (hq:q≤1000000) (hok:p.ok):
  FnD Tryz.prog 36 [.ref 900 0,.agg [.d (.i p.op),.d (.i p.ctor),.d (.i p.n),.d (.i p.m),.d (.i p.var),.d (zaH p.kids)]] [(900,some (rdB b q))]
   (.agg [.d (.i (mutP b p q).1.op),.d (.i (mutP b p q).1.ctor),.d (.i (mutP b p q).1.n),.d (.i (mutP b p q).1.m),.d (.i (mutP b p q).1.var),.d (zaH (mutP b p q).1.kids)]) [(900,some (rdB b (mutP b p q).2))]:=by
 by_cases h:zad b q 30=4∧p.kids≠[]
 ·cases hk:p.kids with
  |nil=>exact absurd hk h.2
  |cons y r=>rw[←hk];exact zlk hb hq hok h.1 hk
 ·exact zlj hb hq hok h
structure CaseW (w:List Data):Prop where
 small:WSmall w
 valid:zaA w=true
 one:1≤w.length
 ct:∀k:Int,k=0∨k=1∨k=2→1≤(zah w ⟨0,k⟩).length
theorem Pats.len_size:∀l:List Pat,l.length≤Pats.size l
 | []=>Nat.zero_le _
 |v::r=>by
  have:=Pats.len_size r
  have h:=Pat.size_eq v
  simp only[List.length_cons,Pats.size];omega
theorem zot {x:Pat} (hx:x.ok):∀ {l:List Pat}{i:Nat},Pats.ok l→Pats.ok (l.set i x)
 | [],_,_=>by simp[Pats.ok]
 |y::r,0,h=>⟨hx,h.2⟩
 |y::r,i+1,h=>⟨h.1,zot hx h.2⟩
theorem zn8 {x:Pat} (hx:x.ok):∀ {l:List Pat},Pats.ok l→Pats.ok (l++[x])
 | [],_=>⟨hx,trivial⟩
 |y::r,h=>⟨h.1,zn8 hx h.2⟩
theorem zlM {x:Pat}:∀ {l:List Pat}{i:Nat},Pats.size (l.set i x)≤Pats.size l+x.size
 | [],_=>by simp[Pats.size]
 |y::r,0=>by simp only[List.set_cons_zero,Pats.size];omega
 |y::r,i+1=>by have:=zlM (x:=x) (l:=r) (i:=i);simp only[List.set_cons_succ,Pats.size];omega
theorem zrh {b:Str}{p:Pat}{q:Nat} (hs:p.size≤1000) (hok:p.ok):(mutP b p q).1.size≤2000∧(mutP b p q).1.ok:=by
 have hv:zbs.size=1∧zbs.ok:=⟨by rw[Pat.size_eq];rfl,by rw[Pat.ok_iff];exact⟨by simp[zbs,Pat.kids],trivial⟩⟩
 have h0:=Pat.size_eq p
 rw[Pat.ok_iff] at hok
 have same:∀a c n m v:Int,(Pat.mk a c n m v p.kids).size≤2000∧(Pat.mk a c n m v p.kids).ok:=fun a c n m v=>by
  refine⟨by rw[Pat.size_eq];show 1+Pats.size p.kids≤_;omega,by rw[Pat.ok_iff];exact hok⟩
 unfold mutP
 split;exact same _ _ _ _ _
 split;exact same _ _ _ _ _
 split;exact same _ _ _ _ _
 split
 ·refine⟨?_, ?_⟩
  ·dsimp only;rw[Pat.size_eq];show 1+Pats.size (p.kids++[zbs])≤_;rw[Pats.size_snoc];omega
  ·dsimp only;rw[Pat.ok_iff];refine⟨?_,zn8 hv.2 hok.2⟩
   show(p.kids++[zbs]).length≤_
   have:=Pats.len_size p.kids
   simp only[List.length_append,List.length_singleton];omega
 split
 ·refine⟨?_, ?_⟩
  ·dsimp only;rw[Pat.size_eq];show 1+Pats.size (p.kids.set 0 zbs)≤_
   have:=zlM (x:=zbs) (l:=p.kids) (i:=0);omega
  ·dsimp only;rw[Pat.ok_iff];exact⟨by show(p.kids.set 0 zbs).length≤_;rw[List.length_set];exact hok.1,zot hv.2 hok.2⟩
 split;exact same _ _ _ _ _
 exact same _ _ _ _ _
end Go.Proofs.YtflgpdjbgfkhoaaGreat
namespace Go.Proofs.YtflgpdjbgfkhoaaGreat
open Go
set_option linter.unusedSimpArgs false
set_option linter.unusedVariables false
theorem zpq (L:List Nat) (hp:Hp) (i:Nat):getH (L.map (fun j=>(j,(none:Option Res)))++hp) i=if i∈L then none else getH hp i:=by
 induction L with
 |nil=>simp
 |cons x r ih=>
  simp only[List.map_cons,List.cons_append,zab,List.mem_cons]
  by_cases h:i=x
  ·subst h;simp
  ·simp[h,ih]
section
variable {c:Ctx}
theorem R.drop {G:Gh}{s:St}{a:Act}{w:World} (hr:R c G s a w) (L:List Nat) (hk:∀i l,c.kept i=some l→i∉L):R c G ⟨s.env,L.map (fun j=>(j,none))++s.hp⟩ a w:=by
 have hg:=zpq L s.hp
 have hT:∀i p,tokf (L.map (fun j=>(j,(none:Option Res)))++s.hp) i=some p→tokf s.hp i=some p:=fun i p h=>by
  obtain⟨n,k⟩:=p
  have:=zan.1 h
  rw[hg] at this
  split at this
  ·cases this
  ·exact zan.2 this
 have hm:∀ {x:AV}{v:Value},RelA G (tokf s.hp) w x v→RelA G (tokf (L.map (fun j=>(j,(none:Option Res)))++s.hp)) w x v:=fun hx=>
  hx.mono (fun _ _ ho=>⟨ho,rfl⟩) (fun _ _=> .inl rfl) (fun i _ p hp=>⟨hT i p hp,fun _ _=>⟨rfl,rfl⟩⟩)
 have hs:∀i r,getH (L.map (fun j=>(j,(none:Option Res)))++s.hp) i=some r→getH s.hp i=some r:=fun i r h=>by
  rw[hg] at h
  split at h
  ·cases h
  ·exact h
 have hss:∀i,(getH (L.map (fun j=>(j,(none:Option Res)))++s.hp) i).isSome→(getH s.hp i).isSome:=fun i h=>by
  obtain⟨r,hr⟩:=Option.isSome_iff_exists.1 h
  rw[hs i r hr];rfl
 refine⟨hr.size,hr.defers,fun i v h=>hm (hr.slots i v h),fun i r h=>?_,fun i j h1 h2=>hr.disj i j (hss i h1) (hss j h2),fun i h=>hr.new i (hss i h),hr.frm,hr.top,fun i l hl=>?_⟩
 ·have hh:=hr.heap i r (hs i r h)
  cases r with
  |box cs=>
   obtain⟨b,vs,e,h1,h2,h3,h4,h5⟩:=hh
   exact⟨b,vs,e,h1,h2,h3,h4,fun j hj hv=>hm (h5 j hj hv)⟩
  |tok m k=>exact hh
  |map ks=>exact hh
  |tree cs=>exact zbk hh rfl (fun _ _=>⟨rfl,rfl⟩) (Nat.le_refl _) (fun _ _ _=>hm)
 ·obtain⟨k1,k2,k3⟩:=hr.kept i l hl
  refine⟨k1, ?_, ?_⟩
  ·show(getH (L.map (fun j=>(j,(none:Option Res)))++s.hp) i).isSome
   rw[hg,if_neg (hk i l hl)];exact k2
  ·show tokf (L.map (fun j=>(j,(none:Option Res)))++s.hp) i=none
   cases h:tokf (L.map (fun j=>(j,(none:Option Res)))++s.hp) i with
   |none=>rfl
   |some p=>rw[hT i p h] at k3;cases k3
inductive RowT (hp:Hp):List AV→List D→List (Nat×Nat×Nat)→Prop
 |nil:RowT hp [] [] []
 |sc {x cs ds js} (hs:zjo x=true) (h:RowT hp cs ds js):RowT hp (.d x::cs) (x::ds) js
 |ni {cs ds js} (h:RowT hp cs ds js):RowT hp (.nils::cs) (.sl []::ds) js
 |gt {j zs n k cs ds js} (hj:getH hp j=some (.tok n k)) (hn:n=zs.length) (h:RowT hp cs ds js):RowT hp (.gt j zs::cs) (.sl zs::ds) ((j,n,k)::js)
theorem RowT.move {hp hp':Hp}{cs:List AV}{ds:List D}{js:List (Nat×Nat×Nat)} (h:RowT hp cs ds js):(∀q,q∈js→getH hp' q.1=some (.tok q.2.1 q.2.2))→RowT hp' cs ds js:=by
 induction h with
 |nil=>intro _;exact .nil
 |sc hs _ ih=>intro h;exact .sc hs (ih h)
 |ni _ ih=>intro h;exact .ni (ih h)
 |gt hj hn _ ih=>intro h;exact .gt (h (_,_,_) List.mem_cons_self) hn (ih fun q hq=>h q (List.mem_cons_of_mem _ hq))
theorem RowT.len {hp:Hp}{cs:List AV}{ds:List D}{js:List (Nat×Nat×Nat)} (h:RowT hp cs ds js):ds.length=cs.length:=by
 induction h with
 |nil=>rfl
 |sc _ _ ih=>simp[ih]
 |ni _ ih=>simp[ih]
 |gt _ _ _ ih=>simp[ih]
end
section
variable {c:Ctx}{env:Env}{hp:Hp}{K:Kt}{code:Code}{ids:List Nat}
theorem zrd {G:Gh}{w:World}{id n k:Nat}{xs:List (List D)}{v:Value} (hn:n=xs.length) (hk:∀x,x∈xs→x.length=k) (h:TipT G w id n k v xs):
  TreeD true w (.sl xs) v (G.loc id)∧(G.loc id).Nodup∧∀b,b∈G.loc id→G.F b=0:=by
 rcases h with ⟨e1,e2,e3⟩|⟨b,cap,us,e,Ss,e1,e2,e3,e4,e5,e6,e7,e8⟩
 ·have hz:xs=[]:=List.eq_nil_of_length_eq_zero (by omega)
  subst hz
  rw[e1,e3]
  exact⟨.nil,by simp,by simp⟩
 ·refine⟨?_,e6,e7⟩
  subst hn
  rw[e1,e2]
  exact TreeD.sl (m:=true) xs k b cap us e Ss hk e5 e3 e4 e8.1 (fun _ hz=>e8.2 (by rw[hz];rfl))
theorem R.gtGl {G:Gh}{a:Act}{w:World} (hr:R c G ⟨env,hp⟩ a w){id id2 n k:Nat}{xs:List (List D)}{v:Value} (hv:RelA G (tokf hp) w (.gt id xs) v) (hb:getH hp id=some (.tok n k)) (hn:n=xs.length) (hf:zaN env hp [id2]=true):
  ∃G',R c G' ⟨env,(id2,some (.tok n k))::(id,none)::hp⟩ a w∧RelA G' (tokf ((id2,some (.tok n k))::(id,none)::hp)) w (.gl id2 xs) v:=by
 obtain⟨h0,hocc⟩:=zbt hf id2 (by simp)
 have h0':getH hp id2=none:=h0
 have hne:id2≠id:=fun e=>by subst e;rw[h0'] at hb;cases hb
 obtain⟨⟨ad,cap0,hv0⟩,hcl⟩:=hv.gt_inv
 obtain⟨hkx,htip⟩:=(hcl _ _ (zan.2 hb)).2 hn
 have s1:(getH hp id).isSome:=by rw[hb];rfl
 have hbd:=(hr.heap id _ hb).bound
 let hd:List Nat:=(G.loc id).take 1
 let G':Gh:={ F:=fun x=>bif zaO x hd then n*k else bif zaO x (G.loc id) then szB w x else G.F x,loc:=fun i=>bif Nat.beq i id2 then hd else G.loc i }
 have hdsub:∀x,x∈hd→x∈G.loc id:=fun x hx=>List.mem_of_mem_take hx
 have l1:G'.loc id2=hd:=by simp[G']
 have l3:∀i,i≠id2→G'.loc i=G.loc i:=fun i h2=>by simp[G',zgl h2]
 have nel:∀ {x:Nat}{l:List Nat},x∉l→zaO x l=false:=fun {x l} hx=>by
  cases h:zaO x l with
  |true=>exact absurd (zaJ.1 h) hx
  |false=>rfl
 have hout:∀x,x∉G.loc id→G'.F x=G.F x:=fun x hx=>by simp[G',nel hx,nel (fun h=>hx (hdsub x h))]
 have hF0:∀x,x∈G.loc id→G.F x=0:=(zrd hn hkx htip).2.2
 have g1:getH ((id2,some (Res.tok n k))::(id,none)::hp) id2=some (.tok n k):=by rw[zab,if_pos rfl]
 have g2:getH ((id2,some (Res.tok n k))::(id,none)::hp) id=none:=by rw[zab,if_neg (Ne.symm hne),zab,if_pos rfl]
 have t2:tokf ((id2,some (Res.tok n k))::(id,none)::hp) id=none:=by unfold tokf;rw[g2]
 have t1:tokf ((id2,some (Res.tok n k))::(id,none)::hp) id2=some (n,k):=zan.2 g1
 have hturn:Turn c G ⟨env,hp⟩ w G' ((id2,some (.tok n k))::(id,none)::hp) [id,id2]:=by
  refine⟨fun i hi=>?_,fun i hi=>?_,fun x hx=>?_,fun x o ho=>?_,fun x hx=>?_,fun i hi=>?_,fun i hi hs x hx=>?_,fun i hi j hj hij h1 h2 x hx=>?_,fun i hi l hl=>?_⟩
  ·simp only[List.mem_cons,List.not_mem_nil,or_false,not_or] at hi
   rw[zab,if_neg hi.2,zab,if_neg hi.1]
  ·simp only[List.mem_cons,List.not_mem_nil,or_false,not_or] at hi
   exact l3 i hi.2
  ·exact hout x (hx id (by simp) s1)
  ·by_cases hx:x∈G.loc id
   ·rw[hF0 x hx] at ho;omega
   ·rw[hout x hx];exact ho
  ·by_cases hx':x∈G.loc id
   ·have:=hbd x hx';omega
   ·rw[hout x hx'];exact hr.top x hx
  ·simp only[List.mem_cons,List.not_mem_nil,or_false] at hi
   rcases hi with rfl|rfl
   ·exact .inr ⟨.inl (l3 i (Ne.symm hne)),fun p hp=>by rw[t2] at hp;cases hp⟩
   ·exact .inl hocc
  ·simp only[List.mem_cons,List.not_mem_nil,or_false] at hi
   rcases hi with rfl|rfl
   ·rw[g2] at hs;cases hs
   ·rw[l1] at hx;exact⟨id,by simp,s1,hdsub x hx⟩
  ·simp only[List.mem_cons,List.not_mem_nil,or_false] at hi hj
   rcases hi with rfl|rfl
   ·rw[g2] at h1;cases h1
   ·rcases hj with rfl|rfl
    ·rw[g2] at h2;cases h2
    ·exact absurd rfl hij
  ·simp only[List.mem_cons,List.not_mem_nil,or_false] at hi
   have hk0:=hr.kept i l hl
   rcases hi with rfl|rfl
   ·have:=hk0.2.2
    rw[show(⟨env,hp⟩:St).hp=hp from rfl,zan.2 hb] at this;cases this
   ·have:=hk0.2.1
    rw[show(⟨env,hp⟩:St).hp=hp from rfl,h0'] at this;cases this
 refine⟨G',hturn.fin hr (fun i hi r hri=>?_), ?_⟩
 ·simp only[List.mem_cons,List.not_mem_nil,or_false] at hi
  rcases hi with rfl|rfl
  ·rw[g2] at hri;cases hri
  ·rw[g1] at hri
   cases hri
   intro b hb;rw[l1] at hb;exact hbd b (hdsub b hb)
 ·rcases htip with ⟨e1,e2,e3⟩|⟨b,cap,us,e,Ss,e1,e2,e3,e4,e5,e6,e7,e8,e9⟩
  ·have hz:xs=[]:=List.eq_nil_of_length_eq_zero (by omega)
   subst hz
   rw[e3]
   refine .gl .nil (fun n' k' hT=>?_)
   rw[t1] at hT;cases hT
   exact⟨by simp,fun _=>⟨hkx,.inl ⟨by rw[l1];simp[hd,e1],e2,rfl⟩⟩⟩
  ·have hhd:hd=[b]:=by simp[hd,e1]
   have hFb:G'.F b=n*k:=by simp[G',hhd,zaO]
   have hbn:∀x,x∈(List.range (n*k)).flatMap Ss→G'.F x=szB w x:=fun x hx=>by
    have hxb:x≠b:=fun e=>by subst e;rw[e1] at e6;exact(List.nodup_cons.1 e6).1 hx
    have h1:zaO x hd=false:=nel (by rw[hhd];simp[hxb])
    have h2:zaO x (G.loc id)=true:=zaJ.2 (by rw[e1];exact List.mem_cons_of_mem _ hx)
    simp[G',h1,h2]
   rw[e2]
   have hle:n*k≤us.size:=Nat.le_trans (Nat.mul_le_mul_right _ e5) e4
   have hrd:RelD G'.F w (.sl xs) (.slice (some ⟨b,0,none⟩) n cap):=by
    subst hn
    refine .sl xs k b 0 cap (fun q=>us.getD q undef) hkx e5 (fun q hq=>⟨by rw[hFb];omega, ?_⟩) (fun i hi j hj=>(e8 i hi j hj).toD (fun x hx=>?_))
    ·have:q<us.size:=by omega
     simp[World.cell?,e3,this]
    ·rw[hbn x (List.mem_flatMap.2 ⟨_,List.mem_range.2 (zgd hi (by rw[←hkx _ (List.getElem_mem hi)];exact hj)),hx⟩)]
     exact Nat.le_refl _
   refine .gl hrd (fun n' k' hT=>?_)
   rw[t1] at hT;cases hT
   exact⟨by omega,fun _=>⟨hkx,.inr ⟨b,cap,us,e,by rw[l1,hhd],rfl,hFb,e3,e4,e5⟩⟩⟩
theorem CWp.gtGl (t id id2 k:Nat){n:Nat}{xs:List (List D)} (ht:getE env t=some (.gt id xs)) (hb:getH hp id=some (.tok n k)) (hn:n=xs.length) (hf:zaN env hp [id2]=true)
  (hx:CWp c code ⟨(t,.gl id2 xs)::env,(id2,some (.tok n k))::(id,none)::hp⟩ K):CWp c code ⟨env,hp⟩ K:=by
 rintro a w ⟨G,hr⟩
 obtain⟨G',h1,h2⟩:=hr.gtGl (hr.slots t _ ht) hb hn hf
 exact hx a w ⟨G',h1.slot h2⟩
end
end Go.Proofs.YtflgpdjbgfkhoaaGreat
namespace Go.Proofs.YtflgpdjbgfkhoaaGreat
open Go
set_option linter.unusedSimpArgs false
set_option linter.unusedVariables false
set_option maxRecDepth 100000
set_option maxHeartbeats 2000000
def smB (n:Nat) (w:List Data):Bool:=decide (w.length≤n)&&w.all fun d=>decide (d.name.length≤n)&&(decide (d.ctors.length≤n)&&d.ctors.all fun c=>decide (c.name.length≤n)&&decide (c.args.length≤n))
structure Sm (n:Nat) (w:List Data):Prop where
 len:w.length≤n
 data:∀d∈w,d.name.length≤n∧d.ctors.length≤n
 ctor:∀d∈w,∀c∈d.ctors,c.name.length≤n∧c.args.length≤n
theorem zpO {n:Nat}{w:List Data} (h:smB n w=true):Sm n w:=by
 simp only[smB,Bool.and_eq_true,decide_eq_true_eq,List.all_eq_true] at h
 exact⟨h.1,fun d hd=>⟨(h.2 d hd).1,(h.2 d hd).2.1⟩,fun d hd c hc=>(h.2 d hd).2.2 c hc⟩
theorem Sm.small {n:Nat}{w:List Data} (h:Sm n w) (hn:n≤1000000000000):WSmall w:=
 ⟨Nat.le_trans h.len hn,fun d hd=>⟨Nat.le_trans (h.data d hd).1 hn,Nat.le_trans (h.data d hd).2 hn⟩,fun d hd c hc=>⟨Nat.le_trans (h.ctor d hd c hc).1 hn,Nat.le_trans (h.ctor d hd c hc).2 hn⟩⟩
theorem zoY:((List.range 7).all fun i=>smB 10 (zdd (nth zdB i)).1&&(zaA (zdd (nth zdB i)).1&&decide (1≤(zdd (nth zdB i)).1.length)))=true:=by kernel_rfl
structure WorldD (w:List Data):Prop where
 sm:Sm 10 w
 small:WSmall w
 valid:zaA w=true
 one:1≤w.length
theorem zgY (b:Str) (p:Nat):WorldD (zbr b p):=by
 have h:=List.all_eq_true.1 zoY (zad b p 7).toNat (List.mem_range.2 (zoN b p))
 simp only[Bool.and_eq_true,decide_eq_true_eq] at h
 exact⟨zpO h.1,(zpO h.1).small (by omega),h.2.1,h.2.2⟩
theorem zlT {w:List Data} (hw:WT w){n:Nat}{f:Nat→Nat}{a k c:Int} (ht:TyIn w.length ⟨a,k⟩) (hc:c∈zah w ⟨a,k⟩) (hn:n≤100) (hb:∀s,f s≤100000) (hin:∀u∈zam w ⟨a,k⟩ c,InS n u):
  FnD Tryz.prog 83 [.d (zag w),.d (zkI n f),.agg [.d (.i a),.d (.i k)],.d (.i c)] [] (.d (.i (most w f ⟨a,k⟩ c))) []:=by
 have hl:=zio hw ht hc
 have hd:=zoF hb (by omega)
 refine bd Tryz.f83 37 [] [] fun w0 F0 own kept hk=>?_
 refine Walk.box (id:=3006) .none rfl rfl rfl rfl rfl rfl rfl ?_
 refine ev ?_
 refine Walk.call (cr:=[]) zje (zdA hw ht hc) rfl .none rfl rfl (LeL.refl _) trivial rfl rfl rfl ?_
 refine ev ?_
 refine CWp.loopX (ι:=List (Ty)×List (Ty)×(Nat)) hk (fun x=>[(11,.d (.i (x.1.length:Int))),(10,.d (.i (x.2.2:Int)))]) [8,12,17,18,19,20,21,22,23,24,25,26,27,28,29,30,31,32,33,34] (fun x=>[]) (fun x=>x.1++x.2.1=zam w ⟨a,k⟩ c∧x.2.2≤100000∧zbp f x.2.2 x.2.1=zbp f 0 (zam w ⟨a,k⟩ c)) (fun x=>x.2.1.length) ([],zam w ⟨a,k⟩ c,0) ⟨by simp,by simp,rfl⟩ ⟨⟨_,rfl,(LeA.eqi (by first|rfl|(simp;done)|omega|(dsimp only;omega)))⟩,⟨⟨_,rfl,(LeA.eqi (by first|rfl|(simp;done)|omega|(dsimp only;omega)))⟩,trivial⟩⟩ trivial (fun x=>rfl) (fun x hg1=>?_)
 obtain⟨pre,rest,m⟩:=x
 dsimp only at hg1 ⊢
 refine evc [] [] ?_
 refine sq (fun h1 h1p h1s=>?_) fun h1 h1p h1s=>?_
 ·try simp only[Q] at h1p
  rcases rest with _|⟨y,rest⟩
  ·exfalso;simp_all
  have hdy:=hd y;have hye:dv f ⟨y.data,y.index⟩=dv f y:=rfl
  refine Walk.idx zaY .none rfl rfl rfl rfl (zaL hg1.1) rfl ?_
  refine ev ?_
  refine Walk.call (cr:=[]) zmL (ze6 (f:=f) (a:=y.data) (k:=y.index) (hin y (by rw[←hg1.1];simp)) hn) rfl .none rfl rfl (LeL.refl _) trivial rfl rfl rfl ?_
  refine ev ?_
  refine sq (fun h2 h2p h2s=>?_) fun h2 h2p h2s=>?_
  ·try simp only[Q] at h2p
   refine rn0 (r1 rfl) (.eqd ?_)
   all_goals (refine congrArg D.i ?_;unfold most;rw[←hg1.2.2];first|(simp only[zbp];rw[if_pos (by omega)];rfl)|(simp only[zbp];omega))
  ·try simp only[Q] at h2p
   refine sq (fun h3 h3p h3s=>?_) fun h3 h3p h3s=>?_
   ·try simp only[Q] at h3p
    refine ar ?_
    refine Exists.intro ((pre++[y],rest,max m (dv f y))) ⟨⟨(by have hz:=hg1.1;rw[←hz];simp),⟨(by have:=hd y;dsimp only;omega),(by rw[←hg1.2.2];simp only[zbp];rw[if_neg (by have:=hd y;omega)])⟩⟩,(by simp),Sub.x (by kernel_rfl) (by kernel_rfl) ⟨⟨_,rfl,(LeA.eqi (by first|rfl|(simp;done)|omega|(dsimp only;omega)))⟩,⟨⟨_,rfl,(LeA.eqi (by first|rfl|(simp;done)|omega|(dsimp only;omega)))⟩,trivial⟩⟩ (by kernel_rfl) (by kernel_rfl) trivial⟩
   ·try simp only[Q] at h3p
    refine ar ?_
    refine Exists.intro ((pre++[y],rest,max m (dv f y))) ⟨⟨(by have hz:=hg1.1;rw[←hz];simp),⟨(by have:=hd y;dsimp only;omega),(by rw[←hg1.2.2];simp only[zbp];rw[if_neg (by have:=hd y;omega)])⟩⟩,(by simp),Sub.x (by kernel_rfl) (by kernel_rfl) ⟨⟨_,rfl,(LeA.eqi (by first|rfl|(simp;done)|omega|(dsimp only;omega)))⟩,⟨⟨_,rfl,(LeA.eqi (by first|rfl|(simp;done)|omega|(dsimp only;omega)))⟩,trivial⟩⟩ (by kernel_rfl) (by kernel_rfl) trivial⟩
 ·try simp only[Q] at h1p
  have hrest:rest=[]:=by
   rcases rest with _|⟨a,b⟩
   ·rfl
   ·exfalso;have hz:=congrArg List.length (hg1.1);simp only[List.length_append,List.length_cons,List.length_map] at hz;omega
  subst hrest
  refine ar ?_
  refine rn0 (r1 rfl) (.eqd ?_)
  all_goals (refine congrArg D.i ?_;unfold most;rw[←hg1.2.2];first|(simp only[zbp];rw[if_pos (by omega)];rfl)|(simp only[zbp];omega))
def hdB (w:List Data):Nat→Ty→Bool
 |0,_=>false
 |d+1,t=>decide (t.data = -1)||(zaX w t).any fun c=>decide (t.data≠ -1)&&(zam w t c).all (hdB w d)
theorem zlE (w:List Data):∀(d:Nat) (t:Ty),hdB w d t=true↔Hd w d t
 |0,t=>by simp[hdB,Hd]
 |d+1,t=>by
  simp only[hdB,Hd,Bool.or_eq_true,decide_eq_true_eq,List.any_eq_true,Bool.and_eq_true,List.all_eq_true,zlE w d]
def Low (w:List Data):Prop:=∀s,zao w s≤3
theorem zr0 {w:List Data} (hd:Dp w) (h:(List.range (w.length*4)).all (fun s=> !hdB w 4 (tyS s)||hdB w 3 (tyS s))=true):Low w:=by
 intro s
 by_cases hs:s<w.length*4
 ·obtain⟨h1,h2⟩:=zdV hd.cl (w.length*4+1)
  by_cases h0:zao w s=0
  ·omega
  ·have hh:=h1 s hs (Nat.pos_of_ne_zero h0)
   have h3:=ziz hd.cl (d:=3) (by omega) (fun s hs hh=>by
    have:=List.all_eq_true.1 h s (List.mem_range.2 hs)
    rw[(zlE w 4 (tyS s)).2 hh] at this
    exact(zlE w 3 _).1 (by simpa using this)) _ s hs hh
   by_cases h4:3≤w.length*4+1
   ·exact(h2 s hs 3 h4 h3).2
   ·omega
 ·have h0:=zhH (w:=w) (i:=s) (by omega) (w.length*4+1)
  show zbZ w (w.length*4+1) s≤3
  omega
theorem zoZ:((List.range 7).all fun i=>(List.range ((zdd (nth zdB i)).1.length*4)).all fun s=> !hdB (zdd (nth zdB i)).1 4 (tyS s)||hdB (zdd (nth zdB i)).1 3 (tyS s))=true:=by kernel_rfl
structure WorldL (w:List Data):Prop where
 dp:Dp w
 low:Low w
 few:Few w
theorem zfc (b:Str) (p:Nat):WorldL (zbr b p):=by
 have ho:=zgY b p
 have hd:=zqp ho.small ho.valid
 exact⟨hd,zr0 hd (List.all_eq_true.1 zoZ (zad b p 7).toNat (List.mem_range.2 (zoN b p))),zpY ho.small ho.valid⟩
theorem zpu {w:List Data} (hd:Dp w){t:Ty} (ht:InS (w.length*4) t) (hne:¬t.data = -1) (h:0<dv (zao w) t):∃c∈zah w t,0<most w (zao w) t c∧most w (zao w) t c=dv (zao w) t:=by
 obtain⟨h1,h2⟩:Snd w (zao w)∧Cmp w (w.length*4+1) (zao w):=zdV hd.cl (w.length*4+1)
 have hcmp:∀k,Cmp w k (zao w):=fun k=>by
  have h3:=(zdV hd.cl (max k (w.length*4+1))).2
  rw[zrf hd.cl (Nat.le_max_right _ _)] at h3
  exact fun s hs d hdk hh=>h3 s hs d (by omega) hh
 have hv:zah w t=zaX w t:=by unfold zah;rw[if_neg hne]
 have hh:Hd w (dv (zao w) t) t:=zoG h1 ht h
 rcases hd0:dv (zao w) t with _|e
 ·omega
 rw[hd0] at hh
 rcases hh with hh|⟨c,hc,_,hu⟩
 ·exact absurd hh hne
 have hin:=zjT hd ht (c:=c) (by rw[hv];exact hc)
 have hp:=ziM (f:=zao w) (l:=zam w t c) (m:=0) (k:=e) (Nat.zero_le _) (fun u hu'=>zna (hcmp e) (hin u hu') (hu u hu'))
 refine⟨c,by rw[hv];exact hc,hp.1, ?_⟩
 have hle:most w (zao w) t c≤e+1:=hp.2
 have hpos:0<most w (zao w) t c:=hp.1

 have hsn:=zgI (f:=zao w) (l:=zam w t c) (m:=0) hp.1
 have hH:Hd w (most w (zao w) t c) t:=by
  obtain⟨q,hq⟩:∃q,most w (zao w) t c=q+1:=⟨most w (zao w) t c-1,by omega⟩
  rw[hq]
  refine .inr ⟨c,hc,hne,fun u hu'=>?_⟩
  have hx:=hsn.2 u hu'
  have hlt:dv (zao w) u<most w (zao w) t c:=hx.2
  exact Hd_le (by omega) (zoG h1 (hin u hu') hx.1)
 have hge:=(zna (hcmp _) ht hH).2
 omega
def zcs (w:List Data) (f:Nat→Nat) (t:Ty) (m c:Int):Bool:=decide (0<most w f t c)&&decide ((most w f t c:Int)≤m∨most w f t c=dv f t)
def zbX (w:List Data) (f:Nat→Nat) (t:Ty) (m:Int):List Int:=(zah w t).filter (zcs w f t m)
theorem zbu {P:Int→Bool}{pre:List Int}{y:Int} (h:P y=true):((pre++[y]).filter P).map (fun n=>[D.i n])=(pre.filter P).map (fun n=>[D.i n])++[[D.i y]]:=by simp[List.filter_append,h]
theorem zea {P:Int→Bool}{pre:List Int}{y:Int} (h:P y=false):((pre++[y]).filter P).map (fun n=>[D.i n])=(pre.filter P).map (fun n=>[D.i n]):=by simp[List.filter_append,h]
def dV (f:Ty→Nat→Val×Nat):List Ty→Nat→List Val×Nat
 | [],q=>([],q)
 |t::r,q=>((f t q).1::(dV f r (f t q).2).1,(dV f r (f t q).2).2)
def zbK (b:Str) (w:List Data) (f:Nat→Nat):Nat→Ty→Int→Nat→Val×Nat
 |0,_,_,p=>(.mk 0 0 [],p)
 |n+1,t,m,p=>
  if t.data = -1 then (.mk (-1) (zad b p 10) [],p+1)
  else (.mk (nth (zbX w f t m) (zad b p (zbX w f t m).length).toNat) 0 (dV (fun u q=>zbK b w f n u (m-1) q) (zam w t (nth (zbX w f t m) (zad b p (zbX w f t m).length).toNat)) (p+1)).1,
   (dV (fun u q=>zbK b w f n u (m-1) q) (zam w t (nth (zbX w f t m) (zad b p (zbX w f t m).length).toNat)) (p+1)).2)
abbrev dW (b:Str) (w:List Data) (n:Nat) (m:Int):Ty→Nat→Val×Nat:=fun u x=>zbK b w (zao w) n u (m-1) x
def bdV:Nat→Nat
 |0=>0
 |d+1=>1+3*bdV d
def szV:Nat→Nat
 |0=>1
 |d+1=>1+3*szV d
theorem zqQ {f:Ty→Nat→Val×Nat}{k:Nat}:∀(l:List Ty) (q:Nat),(∀t∈l,∀q,(f t q).2≤q+k)→(dV f l q).2≤q+l.length*k
 | [],q,_=>by simp[dV]
 |t::r,q,h=>by
  have h1:=h t (by simp) q
  have h2:=zqQ r (f t q).2 (fun x hx=>h x (by simp[hx]))
  simp only[dV,List.length_cons,Nat.add_mul];omega
theorem zph {f:Ty→Nat→Val×Nat}:∀(l:List Ty) (q:Nat),(dV f l q).1.length=l.length
 | [],q=>rfl
 |t::r,q=>by simp only[dV,List.length_cons,zph r]
theorem zqR {f:Ty→Nat→Val×Nat}{k:Nat}:∀(l:List Ty) (q:Nat),(∀t∈l,∀q,(f t q).1.size≤k∧(f t q).1.ok)→Vals.size (dV f l q).1≤l.length*k∧Vals.ok (dV f l q).1
 | [],q,_=>by simp[dV,Vals.size,Vals.ok]
 |t::r,q,h=>by
  have h1:=h t (by simp) q
  have h2:=zqR r (f t q).2 (fun x hx=>h x (by simp[hx]))
  simp only[dV,List.length_cons,Nat.add_mul,Vals.size,Vals.ok]
  exact⟨by omega,h1.2,h2.2⟩
theorem zix {w:List Data}{f:Nat→Nat}{t:Ty}{m c:Int} (h:c∈zbX w f t m):c∈zah w t∧0<most w f t c∧((most w f t c:Int)≤m∨most w f t c=dv f t):=by
 have:=List.mem_filter.1 h
 simpa [zcs] using this
structure Deep (w:List Data) (n:Nat) (t:Ty) (m:Int):Prop where
 ins:InS (w.length*4) t
 pos:0<dv (zao w) t
 le:dv (zao w) t≤n
 ml:m≤n
theorem znd {w:List Data} (hd:Dp w){n:Nat}{t:Ty}{m:Int} (h:Deep w n t m) (hne:¬t.data = -1):1≤(zbX w (zao w) t m).length:=by
 obtain⟨c,hc,h1,h2⟩:=zpu hd h.ins hne h.pos
 exact List.length_pos_of_mem (a:=c) (List.mem_filter.2 ⟨hc,by have:=h.pos;simp[zcs,h2,this]⟩)
theorem zm8 {w:List Data} (hd:Dp w){n:Nat}{t:Ty}{m c:Int} (h:Deep w (n+1) t m) (hc:c∈zbX w (zao w) t m):∀u∈zam w t c,Deep w n u (m-1):=by
 intro u hu
 obtain⟨h1,h2,h3⟩:=zix hc
 have hin:=zjT hd h.ins h1 u hu
 have hs:=(zgI (f:=zao w) (l:=zam w t c) (m:=0) h2).2 u hu
 have hlt:dv (zao w) u<most w (zao w) t c:=hs.2
 have:=h.le;have:=h.ml
 exact⟨hin,hs.1,by rcases h3 with h3|h3<;>omega,by omega⟩
theorem zmm {w:List Data} (hd:Dp w){n:Nat}{t:Ty}{m:Int} (h:Deep w n t m) (hne:¬t.data = -1) (b:Str) (p:Nat):nth (zbX w (zao w) t m) (zad b p (zbX w (zao w) t m).length).toNat∈zbX w (zao w) t m:=
 zhT (by have:=znd hd h hne;omega)
theorem zhF {b:Str}{w:List Data} (hd:Dp w) (hf:Few w):∀(n:Nat) (t:Ty) (m:Int) (p:Nat),Deep w n t m→(zbK b w (zao w) n t m p).2≤p+bdV n∧(zbK b w (zao w) n t m p).1.size≤szV n∧(zbK b w (zao w) n t m p).1.ok
 |0,t,m,p,h=>by have:=h.pos;have:=h.le;omega
 |n+1,t,m,p,h=>by
  simp only[zbK,bdV,szV]
  split
  ·refine⟨by dsimp only;omega, ?_, ?_⟩
   ·simp only[Val.size,Vals.size];omega
   ·simp[Val.ok,Vals.ok]
  ·rename_i hne
   have hm:=zmm hd h hne b p
   generalize nth (zbX w (zao w) t m) (zad b p (zbX w (zao w) t m).length).toNat=c at *
   have hk:=zm8 hd h hm
   have h3:=(hf t c (zix hm).1 (zj9 h.ins)).1
   have h1:=zqQ (f:=fun u q=>zbK b w (zao w) n u (m-1) q) (k:=bdV n) (zam w t c) (p+1) (fun u hu q=>(zhF hd hf n u (m-1) q (hk u hu)).1)
   have h2:=zqR (f:=fun u q=>zbK b w (zao w) n u (m-1) q) (k:=szV n) (zam w t c) (p+1) (fun u hu q=>(zhF hd hf n u (m-1) q (hk u hu)).2)
   have h4:(zam w t c).length*bdV n≤3*bdV n:=Nat.mul_le_mul_right _ h3
   have h5:(zam w t c).length*szV n≤3*szV n:=Nat.mul_le_mul_right _ h3
   have h6:=zph (f:=fun u q=>zbK b w (zao w) n u (m-1) q) (zam w t c) (p+1)
   refine⟨by dsimp only;omega, ?_, ?_⟩
   ·simp only[Val.size];omega
   ·simp only[Val.ok];exact⟨by omega,h2.2⟩
section
variable {b:Str}{w:List Data}{f:Nat→Nat}{n p:Nat}{t:Ty}{m:Int}
theorem zrb (h:t.data = -1):zbK b w f (n+1) t m p=(.mk (-1) (zad b p 10) [],p+1):=by simp only[zbK];rw[if_pos h]
theorem zrc (h:¬t.data = -1){c:Int} (hc:nth (zbX w f t m) (zad b p (zbX w f t m).length).toNat=c):zbK b w f (n+1) t m p =
  (.mk c 0 (dV (fun u q=>zbK b w f n u (m-1) q) (zam w t c) (p+1)).1,(dV (fun u q=>zbK b w f n u (m-1) q) (zam w t c) (p+1)).2):=by
 simp only[zbK];rw[if_neg h,hc]
end
theorem zht {b:Str}{w:List Data} (hb:b.length≤2000) (hd:Dp w) (hf:Few w):∀(n:Nat){a k m:Int}{p:Nat},Deep w n ⟨a,k⟩ m→(n:Int)-10≤m→n≤5→p+bdV n≤1000000→
  FnD Tryz.prog 60 [.ref 900 0,.d (zag w),.d (zkI (w.length*4) (zao w)),.agg [.d (.i a),.d (.i k)],.d (.i m)] [(900,some (rdB b p))]
   (.agg [.d (.i (zbK b w (zao w) n ⟨a,k⟩ m p).1.ctor),.d (.i (zbK b w (zao w) n ⟨a,k⟩ m p).1.num),.d (zaw (zbK b w (zao w) n ⟨a,k⟩ m p).1.kids)]) [(900,some (rdB b (zbK b w (zao w) n ⟨a,k⟩ m p).2))]
 |0,a,k,m,p,h,_,_,_=>by have:=h.pos;have:=h.le;omega
 |n+1,a,k,m,p,h,hm,hn5,hp=>by
  have ht:=zj9 h.ins
  have hml:=h.ml
  have h4:=hd.four
  have hbd:bdV (n+1)=1+3*bdV n:=rfl
  have hfb:∀s,zao w s≤100000:=zon hd (k:=w.length*4+1) (s:=0) (by omega) (by omega) (pre:=[]) (by simp)
  have hcl:=zga hd.wt ht
  have hfl:(zbX w (zao w) ⟨a,k⟩ m).length≤(zah w ⟨a,k⟩).length:=List.length_filter_le _ _
  have hflm:((((zah w ⟨a,k⟩).filter (zcs w (zao w) ⟨a,k⟩ m)).map fun n=>[D.i n]).length:Int)=(zbX w (zao w) ⟨a,k⟩ m).length:=by rw[List.length_map];rfl
  have hfp:=fun hne=>znd hd h hne
  have v14:=fun hh=>zco (b:=b) (p:=p) (n:=((zbX w (zao w) ⟨a,k⟩ m).length:Int)) hh
  have hmem:=fun hne=>zmm hd h hne b p
  have hdm:=zrb (b:=b) (w:=w) (f:=zao w) (n:=n) (p:=p) (t:=⟨a,k⟩) (m:=m)
  have hdm2:=fun hne=>zrc (b:=b) (w:=w) (f:=zao w) (n:=n) (p:=p) (t:=⟨a,k⟩) (m:=m) hne rfl
  generalize hcc:nth (zbX w (zao w) ⟨a,k⟩ m) (zad b p (zbX w (zao w) ⟨a,k⟩ m).length).toNat=cc at *
  have hfm:=fun hne=>zix (hmem hne)
  have hkid:=fun hne=>zm8 hd h (hmem hne)
  have hfw:=fun hne=>(hf ⟨a,k⟩ cc (hfm hne).1 ht).1
  have hok:=fun u q hu=>zhF (b:=b) hd hf n u (m-1) q hu
  have hat:¬a = -1→(((zah w ⟨a,k⟩).filter (zcs w (zao w) ⟨a,k⟩ m)).map fun n=>[D.i n])[(zad b p (zbX w (zao w) ⟨a,k⟩ m).length).toNat]?=some [D.i cc]:=fun hne=>by
   rw[←hcc];exact zak (l:=zbX w (zao w) ⟨a,k⟩ m) (by have:=v14 (by have:=hfp hne;omega);omega)
  refine bd Tryz.f60 98 [] [9,11] fun w0 F0 own kept hk=>?_
  refine Walk.box (id:=3008) .none rfl rfl rfl rfl rfl rfl rfl ?_
  refine Walk.alloc (id:=3010) tz29 rfl .none rfl rfl rfl rfl ?_
  refine tv ?_
  refine sq (fun h1 h1p h1s=>?_) fun h1 h1p h1s=>?_
  ·try simp only[Q] at h1p
   refine Walk.call (cr:=[]) zbW (zaE (p:=p) (n:=10) hb (by omega) (by omega)) rfl .none rfl rfl (LeL.refl _) ⟨rfl,trivial⟩ rfl rfl rfl ?_
   refine Walk.build st29 (ks:=[0,1]) (xs:=[_,_]) rfl rfl .none rfl rfl rfl ?_
   refine Walk.store ty29 .none rfl rfl rfl rfl rfl rfl (by simp) rfl ?_
   refine tv ?_
   refine rn [(900,some (rdB b (zbK b w (zao w) (n+1) ⟨a,k⟩ m p).2))] (.cons (.cellA ty29 rfl rfl rfl) .nil) (.agg (.cons (.eqd ?_) (.cons (.eqd ?_) (.cons (.nild ?_) .nil)))) ⟨rfl,rfl⟩ (SubO.get ⟨.inr (by first|(rw[hdm (by omega)];all_goals rfl)|(rw[hdm2 (by omega)];have hfin:=hg2.2.2.2;simp only[dV,List.append_nil] at hfin;rw[←hfin];all_goals rfl)),⟨.inl rfl,trivial⟩⟩) (zaq rfl)
   all_goals (first|(rw[hdm (by omega)];all_goals rfl)|(rw[hdm2 (by omega)];have hfin:=hg2.2.2.2;simp only[dV,List.append_nil] at hfin;rw[←hfin];all_goals first|rfl|(show _=D.sl (Val.cs _);rw[Val.cs_cc];all_goals rfl)|(show _=Val.cs _;rw[Val.cs_cc];all_goals rfl)))
  ·try simp only[Q] at h1p
   refine Walk.call (cr:=[]) zfT (zce hd.wt ht) rfl .none rfl rfl (LeL.refl _) trivial rfl rfl rfl ?_
   refine ev ?_
   refine Walk.sliceEmptyG 5 sl75 .none rfl rfl ?_
   refine ev ?_
   refine CWp.loopX (ι:=List (Int)×List (Int)) hk (fun x=>[(13,.d (.i (x.1.length:Int))),(12,.gl 5 ((x.1.filter (zcs w (zao w) ⟨a,k⟩ m)).map fun n=>[D.i n]))]) [14,28,29,30,31,32,33,34,35,36,37,38,39,40,41,42,43,44,45,46,47,48,49,50,51,52,53,54,55,56,57,58,59,60,61,62] (fun x=>[(5,some (.tok (((x.1.filter (zcs w (zao w) ⟨a,k⟩ m)).map fun n=>[D.i n])).length 1))]) (fun x=>x.1++x.2=zah w ⟨a,k⟩) (fun x=>x.2.length) ([],zah w ⟨a,k⟩) (by simp) ⟨⟨_,rfl,(LeA.eqi (by first|rfl|(simp;done)|omega|(rw[zbu (by assumption)];all_goals rfl)|(rw[zea (by assumption)];all_goals rfl)|(rw[zbu (by assumption)];simp;done)))⟩,⟨⟨_,rfl,(LeA.glg (by first|rfl|(simp;done)|omega|(rw[zbu (by assumption)];all_goals rfl)|(rw[zea (by assumption)];all_goals rfl)|(rw[zbu (by assumption)];simp;done)))⟩,trivial⟩⟩ ⟨zae (by first|rfl|(simp;done)|(simp;omega)|(first|rfl|(simp;done)|omega|(rw[zbu (by assumption)];all_goals rfl)|(rw[zea (by assumption)];all_goals rfl)|(rw[zbu (by assumption)];simp;done))),trivial⟩ (fun x=>rfl) (fun x hg1=>?_)
   obtain⟨pre,rest⟩:=x
   dsimp only at hg1 ⊢
   refine evc [] [9,11] ?_
   refine sq (fun h2 h2p h2s=>?_) fun h2 h2p h2s=>?_
   ·try simp only[Q] at h2p
    rcases rest with _|⟨y,rest⟩
    ·exfalso;simp_all
    refine Walk.idx sl75 .none rfl rfl rfl rfl (zaL hg1) rfl ?_
    refine evd [] [] ?_
    refine Walk.call (cr:=[]) zqK (zlT hd.wt ht (c:=y) (by rw[←hg1];simp) (by omega) hfb (zjT hd h.ins (by rw[←hg1];simp))) rfl .none rfl rfl (LeL.refl _) trivial rfl rfl rfl ?_
    refine evd [] [] ?_
    refine dr ?_
    refine CWp.regionJ ?_
    refine WRest.join 14 [(55,.d (.bool (zcs w (zao w) ⟨a,k⟩ m y)))] [42,43,44,45,46,47,48,49,50,51,52,53,54] ?_ ?_
    ·
     refine ev ?_
     refine sq (fun h3 h3p h3s=>?_) fun h3 h3p h3s=>?_
     ·try simp only[Q] at h3p
      refine sq (fun h4 h4p h4s=>?_) fun h4 h4p h4s=>?_
      ·try simp only[Q] at h4p
       exact jn rfl (LeA.eqb (by first|rfl|(unfold zcs;rw[Bool.eq_iff_iff];simp_all;done)|(unfold zcs;rw[Bool.eq_iff_iff];simp_all;omega)))
      ·try simp only[Q] at h4p
       refine Walk.call (cr:=[]) zmL (ze6 h.ins (by omega)) rfl (.some rfl rfl h4) rfl rfl (LeL.refl _) trivial rfl rfl rfl ?_
       refine evs [] [(44,true),(48,false)] ?_ ⟨⟨_,rfl,h3⟩,⟨_,rfl,h4⟩,trivial⟩
       exact jn rfl (LeA.eqb (by first|rfl|(unfold zcs;rw[Bool.eq_iff_iff];simp_all;done)|(unfold zcs;rw[Bool.eq_iff_iff];simp_all;omega)))
     ·try simp only[Q] at h3p
      exact jn rfl (LeA.eqb (by first|rfl|(unfold zcs;rw[Bool.eq_iff_iff];simp_all;done)|(unfold zcs;rw[Bool.eq_iff_iff];simp_all;omega)))
    refine WRest.done ?_
    refine tv ?_
    refine sq (fun h5 h5p h5s=>?_) fun h5 h5p h5s=>?_
    ·try simp only[Q] at h5p
     refine Walk.idx sl75 .none rfl rfl rfl rfl (zaL hg1) rfl ?_
     refine ev ?_
     refine Walk.sliceLit sl75 tz3 rfl (by decide) (ks:=[0]) (xs:=[_]) rfl rfl (by decide) (by decide) .none rfl rfl rfl rfl ?_
     refine Walk.append sl75 zz3 rfl .none rfl rfl rfl rfl (zaP rfl (by first|rfl|(simp;done)|(simp;omega))) (by simp) (by first|(have hz:=congrArg List.length hg2.1;have:=hfw (by omega);simp at hz ⊢;omega)|(have hz:=congrArg List.length hg1;have hq:=List.length_filter_le (zcs w (zao w) ⟨a,k⟩ m) pre;simp at hz ⊢;omega)) (by first|(have hz:=congrArg List.length hg2.1;have:=hfw (by omega);simp at hz ⊢;omega)|(have hz:=congrArg List.length hg1;have hq:=List.length_filter_le (zcs w (zao w) ⟨a,k⟩ m) pre;simp at hz ⊢;omega)) ?_
     refine ev ?_
     refine ar ?_
     refine Exists.intro ((pre++[y],rest)) ⟨(by have hz:=hg1;rw[←hz];simp),(by simp),Sub.x (by kernel_rfl) (by kernel_rfl) ⟨⟨_,rfl,(LeA.eqi (by first|rfl|(simp;done)|omega|(rw[zbu (by assumption)];all_goals rfl)|(rw[zea (by assumption)];all_goals rfl)|(rw[zbu (by assumption)];simp;done)))⟩,⟨⟨_,rfl,(LeA.glg (by first|rfl|(simp;done)|omega|(rw[zbu (by assumption)];all_goals rfl)|(rw[zea (by assumption)];all_goals rfl)|(rw[zbu (by assumption)];simp;done)))⟩,trivial⟩⟩ (by kernel_rfl) (by kernel_rfl) ⟨zae (by first|rfl|(simp;done)|(simp;omega)|(first|rfl|(simp;done)|omega|(rw[zbu (by assumption)];all_goals rfl)|(rw[zea (by assumption)];all_goals rfl)|(rw[zbu (by assumption)];simp;done))),trivial⟩⟩
    ·try simp only[Q] at h5p
     refine ar ?_
     refine Exists.intro ((pre++[y],rest)) ⟨(by have hz:=hg1;rw[←hz];simp),(by simp),Sub.x (by kernel_rfl) (by kernel_rfl) ⟨⟨_,rfl,(LeA.eqi (by first|rfl|(simp;done)|omega|(rw[zbu (by assumption)];all_goals rfl)|(rw[zea (by assumption)];all_goals rfl)|(rw[zbu (by assumption)];simp;done)))⟩,⟨⟨_,rfl,(LeA.glg (by first|rfl|(simp;done)|omega|(rw[zbu (by assumption)];all_goals rfl)|(rw[zea (by assumption)];all_goals rfl)|(rw[zbu (by assumption)];simp;done)))⟩,trivial⟩⟩ (by kernel_rfl) (by kernel_rfl) ⟨zae (by first|rfl|(simp;done)|(simp;omega)|(first|rfl|(simp;done)|omega|(rw[zbu (by assumption)];all_goals rfl)|(rw[zea (by assumption)];all_goals rfl)|(rw[zbu (by assumption)];simp;done))),trivial⟩⟩
   ·try simp only[Q] at h2p
    have hrest:rest=[]:=by
     rcases rest with _|⟨a,b⟩
     ·rfl
     ·exfalso;have hz:=congrArg List.length (hg1);simp only[List.length_append,List.length_cons,List.length_map] at hz;omega
    subst hrest
    rw[List.append_nil] at hg1;subst hg1
    refine evc [] [] ?_
    refine Walk.call (cr:=[]) zbW (zaE (p:=p) (n:=((((zah w ⟨a,k⟩).filter (zcs w (zao w) ⟨a,k⟩ m)).map fun n=>[D.i n]).length:Int)) hb (by omega) (by omega)) rfl .none rfl rfl (LeL.refl _) ⟨rfl,trivial⟩ rfl rfl rfl ?_
    refine Walk.idxG (i:=(zad b p (zbX w (zao w) ⟨a,k⟩ m).length).toNat) sl75 .none rfl rfl rfl (by rw[hflm];have:=v14 (by have:=hfp (by omega);omega);omega) (hat (by omega)) rfl ?_
    refine ev ?_
    refine Walk.build st29 (ks:=[0]) (xs:=[_]) rfl rfl .none rfl rfl rfl ?_
    refine Walk.alloc (id:=3015) tz29 rfl .none rfl rfl rfl rfl ?_
    refine Walk.store ty29 .none rfl rfl rfl rfl rfl rfl (by simp) rfl ?_
    refine tv ?_
    refine Walk.call (cr:=[]) zje (zdA hd.wt ht (hfm (by omega)).1) rfl .none rfl rfl (LeL.refl _) trivial rfl rfl rfl ?_
    refine ev ?_
    refine CWp.tokB 3015 2 1 3 rfl rfl rfl rfl ?_
    refine CWp.loopX (ι:=List (Ty)×List (Ty)×(Nat)×(List Val)) hk (fun x=>[(17,.d (.i (x.1.length:Int)))]) [76,77,78,79,80,81,82,83,84,85,86,87,88,89,90,91,92,93,94,95,96] (fun x=>[(900,some (.box [.d (zaQ b),.d (.i (x.2.2.1:Int))])),(3015,some (.box [.d (.i cc),.d (.i 0),.gl 1 (x.2.2.2.map Val.cc)])),(1,some (.tok (x.2.2.2.map Val.cc).length 3))]) (fun x=>x.1++x.2.1=zam w ⟨a,k⟩ cc∧x.2.2.1≤p+1+x.1.length*bdV n∧x.2.2.2.length=x.1.length∧(x.2.2.2++(dV (dW b w n m) x.2.1 x.2.2.1).1,(dV (dW b w n m) x.2.1 x.2.2.1).2)=dV (dW b w n m) (zam w ⟨a,k⟩ cc) (p+1)) (fun x=>x.2.1.length) ([],zam w ⟨a,k⟩ cc,p+1,[]) ⟨by simp,by simp,by simp,by simp⟩ ⟨⟨_,rfl,(LeA.eqi (by first|rfl|(simp;done)|omega))⟩,trivial⟩ ⟨(by first|rfl|(simp[getH];done)),⟨(by first|rfl|(simp[getH];done)),⟨zae (by first|rfl|(simp;done)|(simp;omega)|(first|rfl|(simp;done)|omega)),trivial⟩⟩⟩ (fun x=>rfl) (fun x hg2=>?_)
    obtain⟨pre,rest,q,ks⟩:=x
    dsimp only at hg2 ⊢
    refine evc [] [9,11] ?_
    refine sq (fun h6 h6p h6s=>?_) fun h6 h6p h6s=>?_
    ·try simp only[Q] at h6p
     rcases rest with _|⟨y,rest⟩
     ·exfalso;simp_all
     have hfw3:=hfw (by omega);have hpm:pre.length*bdV n≤2*bdV n:=Nat.mul_le_mul_right _ (by have hz:=congrArg List.length hg2.1;have:=hfw (by omega);simp at hz;omega)
     refine Walk.idx zaY .none rfl rfl rfl rfl (zaL hg2.1) rfl ?_
     refine evd [] [] ?_
     refine ar ?_
     refine Walk.call (cr:=[]) zow (zht hb hd hf n (a:=y.data) (k:=y.index) (m:=m-1) (p:=q) (hkid (by omega) y (by rw[←hg2.1];simp)) (by omega) (by omega) (by omega)) rfl .none rfl rfl (LeL.refl _) ⟨rfl,trivial⟩ rfl rfl rfl ?_
     refine Walk.sliceLit sl27 tz29 rfl (by decide) (ks:=[0]) (xs:=[_]) rfl rfl (by decide) (by decide) .none rfl rfl rfl rfl ?_
     refine Walk.append sl27 zz29 rfl .none rfl rfl rfl rfl (zaP rfl (by first|rfl|(simp;done)|(simp;omega))) (by simp) (by first|(have hz:=congrArg List.length hg2.1;have:=hfw (by omega);simp at hz ⊢;omega)|(have hz:=congrArg List.length hg1;have hq:=List.length_filter_le (zcs w (zao w) ⟨a,k⟩ m) pre;simp at hz ⊢;omega)) (by first|(have hz:=congrArg List.length hg2.1;have:=hfw (by omega);simp at hz ⊢;omega)|(have hz:=congrArg List.length hg1;have hq:=List.length_filter_le (zcs w (zao w) ⟨a,k⟩ m) pre;simp at hz ⊢;omega)) ?_
     refine evd [] [] ?_
     refine Walk.store ty27 .none rfl rfl rfl rfl rfl rfl (by simp) rfl ?_
     refine dr ?_
     refine ar ?_
     refine Exists.intro ((pre++[y],rest,(zbK b w (zao w) n y (m-1) q).2,ks++[(zbK b w (zao w) n y (m-1) q).1])) ⟨⟨(by have hz:=hg2.1;rw[←hz];simp),⟨(by have:=(hok y q (hkid (by omega) y (by rw[←hg2.1];simp))).1;simp only[List.length_append,List.length_cons,List.length_nil,Nat.add_mul];omega),(by simp[hg2.2.2.1]),(by rw[←hg2.2.2.2];simp[dV])⟩⟩,(by simp),Sub.x (by kernel_rfl) (by kernel_rfl) ⟨⟨_,rfl,(LeA.eqi (by first|rfl|(simp;done)|omega))⟩,trivial⟩ (by kernel_rfl) (by kernel_rfl) ⟨(by first|rfl|(simp[getH];done)),⟨(by first|rfl|(simp[getH];done)),⟨zae (by first|rfl|(simp;done)|(simp;omega)|(first|rfl|(simp;done)|omega)),trivial⟩⟩⟩⟩
    ·try simp only[Q] at h6p
     have hrest:rest=[]:=by
      rcases rest with _|⟨a,b⟩
      ·rfl
      ·exfalso;have hz:=congrArg List.length (hg2.1);simp only[List.length_append,List.length_cons,List.length_map] at hz;omega
     subst hrest
     refine Walk.store ty29 .none rfl rfl rfl rfl rfl rfl (by simp) rfl ?_
     refine tv ?_
     refine rn [(900,some (rdB b (zbK b w (zao w) (n+1) ⟨a,k⟩ m p).2))] (.cons (.cellA ty29 rfl rfl rfl) .nil) (.agg (.cons (.eqd ?_) (.cons (.eqd ?_) (.cons (.gld ?_) .nil)))) ⟨rfl,rfl⟩ (SubO.get ⟨.inr (by first|(rw[hdm (by omega)];all_goals rfl)|(rw[hdm2 (by omega)];have hfin:=hg2.2.2.2;simp only[dV,List.append_nil] at hfin;rw[←hfin];all_goals rfl)),⟨.inl rfl,trivial⟩⟩) (zaq rfl)
     all_goals (first|(rw[hdm (by omega)];all_goals rfl)|(rw[hdm2 (by omega)];have hfin:=hg2.2.2.2;simp only[dV,List.append_nil] at hfin;rw[←hfin];all_goals first|rfl|(show _=D.sl (Val.cs _);rw[Val.cs_cc];all_goals rfl)|(show _=Val.cs _;rw[Val.cs_cc];all_goals rfl)))
end Go.Proofs.YtflgpdjbgfkhoaaGreat
namespace Go.Proofs.YtflgpdjbgfkhoaaGreat
open Go
set_option linter.unusedSimpArgs false
set_option linter.unusedVariables false
set_option maxRecDepth 1000000
def indT (m S r h:Nat):Nat:=bif (Nat.beq (Nat.mod (Nat.add (Nat.xor S r) h) 3) 0&&(Nat.beq m 3||Nat.beq (Nat.mod (Nat.xor S r) 2) 0)) then 1 else 0
def ind (m S q:Nat):Nat:=indT m S (q % 64) ((q ^^^ (q / 64)) % 3)
def cnt (m S e:Nat):Nat→Nat→Nat
 |0,_=>0
 |n+1,q=>ind m S q+cnt m S e n (q+e)
theorem zm6 (m S e:Nat):∀n q,cnt m S e (n+1) q=cnt m S e n q+ind m S (q+n*e)
 |0,q=>by simp only[cnt,Nat.zero_mul,Nat.add_zero,Nat.zero_add]
 |n+1,q=>by
  have:=zm6 m S e n (q+e)
  simp only[cnt] at this ⊢
  have h:q+e+n*e=q+(n+1)*e:=by rw[Nat.add_mul];omega
  rw[h] at this
  omega
theorem znj (m S q:Nat):ind m S q≤1:=by unfold ind indT;cases (Nat.beq _ _&&_)<;>simp
theorem zpd (m S e:Nat):∀n q,cnt m S e n q≤n
 |0,_=>Nat.le_refl _
 |n+1,q=>by have:=zpd m S e n (q+e);have:=znj m S q;simp only[cnt];omega
noncomputable def lan (f:Nat→Nat) (s n:Nat):Nat:=Nat.rec (motive:=fun _=>Nat→Nat) (fun _=>0) (fun _ ih s=>Nat.add (f s) (Nat.mul 65536 (ih (Nat.succ s)))) n s
theorem zhm (f g:Nat→Nat):∀n s,lan (fun S=>f S+g S) s n=lan f s n+lan g s n
 |0,s=>rfl
 |n+1,s=>by
  show f s+g s+65536*lan (fun S=>f S+g S) (s+1) n=f s+65536*lan f (s+1) n+(g s+65536*lan g (s+1) n)
  rw[zhm f g n (s+1)];omega
theorem zod {f:Nat→Nat} (h:∀s,f s<65536):∀n s,lan f s n &&& lan (fun _=>32768) s n=0→∀S,s≤S→S<s+n→f S<32768
 |0,s,_,S,h1,h2=>by omega
 |n+1,s,hz,S,h1,h2=>by
  have hz':(f s+65536*lan f (s+1) n) &&& (32768+65536*lan (fun _=>32768) (s+1) n)=0:=hz
  have hf:=h s
  by_cases hS:S=s
  ·subst hS
   have e:=congrArg (fun x=>x % 2 ^ 16 / 2 ^ 15) hz'
   simp only[Nat.and_mod_two_pow,Nat.and_div_two_pow] at e
   rw[show(f S+65536*lan f (S+1) n) % 2 ^ 16=f S by omega,show(32768+65536*lan (fun _=>32768) (S+1) n) % 2 ^ 16=32768 by omega] at e
   rcases Nat.lt_or_ge (f S) 32768 with hlt|hge
   ·exact hlt
   ·rw[show f S / 2 ^ 15=1 by omega] at e
    exact absurd e (by decide)
  ·have e:=congrArg (fun x=>x / 2 ^ 16) hz'
   simp only[Nat.and_div_two_pow] at e
   rw[show(f s+65536*lan f (s+1) n) / 2 ^ 16=lan f (s+1) n by omega,show(32768+65536*lan (fun _=>32768) (s+1) n) / 2 ^ 16=lan (fun _=>32768) (s+1) n by omega] at e
   exact zod h n (s+1) (by rw[e]) S (by omega) (by omega)
noncomputable def laneT (m r h:Nat):Nat:=lan (fun S=>indT m S r h) 0 64
noncomputable def tre (f:Nat→Nat) (d x base:Nat):Nat:=Nat.rec (motive:=fun _=>Nat→Nat) (fun base=>f base) (fun d ih base=>Bool.rec (ih base) (ih (Nat.add base (Nat.pow 2 d))) (Nat.beq (Nat.mod (Nat.div x (Nat.pow 2 d)) 2) 1)) d base
theorem zi8 (f:Nat→Nat) (x:Nat):∀d base,tre f d x base=f (base+x % 2 ^ d)
 |0,base=>by show f base=_;rw[Nat.pow_zero,Nat.mod_one,Nat.add_zero]
 |d+1,base=>by
  have h2:x / 2 ^ d % 2<2:=Nat.mod_lt _ (by omega)
  show(Bool.rec (tre f d x base) (tre f d x (base+2 ^ d)) (Nat.beq (x / 2 ^ d % 2) 1):Nat)=_
  rw[Nat.mod_pow_succ,zi8 f x d,zi8 f x d]
  rcases(show x / 2 ^ d % 2=0∨x / 2 ^ d % 2=1 by omega) with h|h
  ·rw[h];show f (base+x % 2 ^ d)=_;rw[Nat.mul_zero,Nat.add_zero]
  ·rw[h];show f (base+2 ^ d+x % 2 ^ d)=_;rw[Nat.mul_one,show base+2 ^ d+x % 2 ^ d=base+(x % 2 ^ d+2 ^ d) by omega]
noncomputable def lkH (m q h:Nat):Nat:=bif Nat.beq h 0 then tre (fun b=>laneT m b 0) 6 q 0 else bif Nat.beq h 1 then tre (fun b=>laneT m b 1) 6 q 0 else tre (fun b=>laneT m b 2) 6 q 0
noncomputable def lkq (m q:Nat):Nat:=lkH m q (Nat.mod (Nat.xor q (Nat.div q 64)) 3)
theorem znk (m q:Nat):lkq m q=lan (fun S=>ind m S q) 0 64:=by
 show lkH m q ((q ^^^ (q / 64)) % 3)=laneT m (q % 64) ((q ^^^ (q / 64)) % 3)
 have h2:(q ^^^ (q / 64)) % 3<3:=Nat.mod_lt _ (by omega)
 generalize (q ^^^ (q / 64)) % 3=h at *
 rcases(show h=0∨h=1∨h=2 by omega) with rfl|rfl|rfl
 ·show tre (fun b=>laneT m b 0) 6 q 0=_;rw[zi8,Nat.zero_add]
 ·show tre (fun b=>laneT m b 1) 6 q 0=_;rw[zi8,Nat.zero_add]
 ·show tre (fun b=>laneT m b 2) 6 q 0=_;rw[zi8,Nat.zero_add]
noncomputable def cwL (t e n q acc:Nat):Nat:=Nat.rec (motive:=fun _=>Nat→Nat→Nat) (fun _ acc=>acc) (fun _ ih q acc=>ih (Nat.add q e) (Nat.add acc (lkq t q))) n q acc
noncomputable def slide (t e w K M k q acc:Nat):Bool:=Nat.rec (motive:=fun _=>Nat→Nat→Bool) (fun _ acc=>Nat.beq (Nat.land (Nat.add acc K) M) 0) (fun _ ih q acc=>Bool.rec false (ih (Nat.add q e) (Nat.sub (Nat.add acc (lkq t (Nat.add q w))) (lkq t q))) (Nat.beq (Nat.land (Nat.add acc K) M) 0)) k q acc
theorem zoT (t e w K M k q acc:Nat):slide t e w K M (k+1) q acc=(Nat.beq (Nat.land (Nat.add acc K) M) 0&&slide t e w K M k (Nat.add q e) (Nat.sub (Nat.add acc (lkq t (Nat.add q w))) (lkq t q))):=by
 show(Bool.rec false (slide t e w K M k (Nat.add q e) (Nat.sub (Nat.add acc (lkq t (Nat.add q w))) (lkq t q))) (Nat.beq (Nat.land (Nat.add acc K) M) 0):Bool)=_
 cases Nat.beq (Nat.land (Nat.add acc K) M) 0<;>rfl
noncomputable def chains (t e n K M k r:Nat):Bool:=Nat.rec (motive:=fun _=>Bool) true (fun q ih=>Bool.rec false ih (slide t e (Nat.mul n e) K M k q (cwL t e n q 0))) r
theorem znY (t e n K M k q:Nat):chains t e n K M k (q+1)=(slide t e (Nat.mul n e) K M k q (cwL t e n q 0)&&chains t e n K M k q):=by
 show(Bool.rec false (chains t e n K M k q) (slide t e (Nat.mul n e) K M k q (cwL t e n q 0)):Bool)=_
 cases slide t e (Nat.mul n e) K M k q (cwL t e n q 0)<;>rfl
theorem zpf (m e:Nat):∀n q acc,cwL m e n q acc=acc+lan (fun S=>cnt m S e n q) 0 64
 |0,q,acc=>by
  have:∀n s,lan (fun S=>cnt m S e 0 q) s n=0:=by
   intro n
   induction n with
   |zero=>intro s;rfl
   |succ n ih=>intro s;show 0+65536*lan (fun S=>cnt m S e 0 q) (s+1) n=0;rw[ih]
  rw[this];rfl
 |n+1,q,acc=>by
  show cwL m e n (q+e) (acc+lkq m q)=_
  rw[zpf m e n (q+e),znk]
  have:=zhm (fun S=>ind m S q) (fun S=>cnt m S e n (q+e)) 64 0
  show _=acc+lan (fun S=>ind m S q+cnt m S e n (q+e)) 0 64
  omega
theorem zo7 {m e n c q:Nat} (hc:c≤32767) (hn:n≤32768) (h:Nat.beq (Nat.land (Nat.add (lan (fun S=>cnt m S e n q) 0 64) (lan (fun _=>32767-c) 0 64)) (lan (fun _=>32768) 0 64)) 0=true):∀S,S<64→cnt m S e n q≤c:=by
 intro S hS
 have h1:=Nat.eq_of_beq_eq_true h
 have h2:lan (fun S=>cnt m S e n q+(32767-c)) 0 64 &&& lan (fun _=>32768) 0 64=0:=by rw[zhm];exact h1
 have:=zod (fun s=>by have:=zpd m s e n q;omega) 64 0 h2 S (by omega) (by omega)
 have h3:cnt m S e n q+(32767-c)<32768:=this
 omega
theorem znF {m e n c:Nat} (hc:c≤32767) (hn:n≤32768):∀k q,slide m e (n*e) (lan (fun _=>32767-c) 0 64) (lan (fun _=>32768) 0 64) k q (lan (fun S=>cnt m S e n q) 0 64)=true→∀i,i≤k→∀S,S<64→cnt m S e n (q+i*e)≤c
 |0,q,h,i,hi=>by
  obtain rfl:i=0:=by omega
  rw[Nat.zero_mul,Nat.add_zero]
  exact zo7 hc hn h
 |k+1,q,h,i,hi=>by
  rw[zoT,Bool.and_eq_true] at h
  cases i with
  |zero=>rw[Nat.zero_mul,Nat.add_zero];exact zo7 hc hn h.1
  |succ i=>
   have e1:Nat.sub (Nat.add (lan (fun S=>cnt m S e n q) 0 64) (lkq m (Nat.add q (n*e)))) (lkq m q)=lan (fun S=>cnt m S e n (q+e)) 0 64:=by
    show lan (fun S=>cnt m S e n q) 0 64+lkq m (q+n*e)-lkq m q=_
    rw[znk,znk,←zhm]
    have h1:(fun S=>cnt m S e n q+ind m S (q+n*e))=fun S=>ind m S q+cnt m S e n (q+e):=by
     funext S;rw[←zm6];rfl
    rw[h1,zhm];omega
   have h3:=h.2
   rw[e1] at h3
   rw[show q+(i+1)*e=q+e+i*e by rw[Nat.add_mul];omega]
   exact znF hc hn k (q+e) h3 i (by omega)
theorem zdi {m e n c k:Nat} (he:0<e) (hc:c≤32767) (hn:n≤32768) (h:chains m e n (lan (fun _=>32767-c) 0 64) (lan (fun _=>32768) 0 64) k e=true){S q:Nat} (hS:S<64) (hq:q<e*(k+1)):cnt m S e n q≤c:=by
 have key:∀r,chains m e n (lan (fun _=>32767-c) 0 64) (lan (fun _=>32768) 0 64) k r=true→∀q,q<r→∀i,i≤k→∀S,S<64→cnt m S e n (q+i*e)≤c:=by
  intro r
  induction r with
  |zero=>intro _ q hq;omega
  |succ r ih=>
   intro h q hq i hi
   rw[znY,Bool.and_eq_true] at h
   by_cases hr:q=r
   ·subst hr
    have h1:=h.1
    rw[zpf,Nat.zero_add] at h1
    exact znF hc hn k q h1 i hi
   ·exact ih h.2 q (by omega) i hi
 have hd:q / e<k+1:=Nat.div_lt_of_lt_mul hq
 have:=key e h (q % e) (Nat.mod_lt _ he) (q / e) (by omega) S hS
 rwa [Nat.mul_comm (q / e) e,Nat.mod_add_div] at this
noncomputable def Mk:Nat:=lan (fun _=>32768) 0 64
noncomputable def K7:Nat:=lan (fun _=>32767-80) 0 64
theorem ck7:chains 6 1 192 K7 Mk 3200 1=true:=by kernel_rfl
theorem win7 {S q:Nat} (hS:S<64) (hq:q<3201):cnt 6 S 1 192 q≤80:=zdi (m:=6) (e:=1) (n:=192) (c:=80) (k:=3200) (by omega) (by omega) (by omega) ck7 hS hq
noncomputable def K263:Nat:=lan (fun _=>32767-94) 0 64
theorem zsU:chains 3 15 192 K263 Mk 107 15=true:=by kernel_rfl
theorem zr7 {S q:Nat} (hS:S<64) (hq:q<1620):cnt 3 S 15 192 q≤94:=zdi (m:=3) (e:=15) (n:=192) (c:=94) (k:=107) (by omega) (by omega) (by omega) zsU hS hq
noncomputable def K519:Nat:=lan (fun _=>32767-13) 0 64
theorem zsV:chains 6 59 32 K519 Mk 55 59=true:=by kernel_rfl
theorem zr8 {S q:Nat} (hS:S<64) (hq:q<3304):cnt 6 S 59 32 q≤13:=zdi (m:=6) (e:=59) (n:=32) (c:=13) (k:=55) (by omega) (by omega) (by omega) zsV hS hq
noncomputable def K775:Nat:=lan (fun _=>32767-63) 0 64
theorem zsW:chains 3 44 128 K775 Mk 37 44=true:=by kernel_rfl
theorem zr9 {S q:Nat} (hS:S<64) (hq:q<1672):cnt 3 S 44 128 q≤63:=zdi (m:=3) (e:=44) (n:=128) (c:=63) (k:=37) (by omega) (by omega) (by omega) zsW hS hq
noncomputable def K1031:Nat:=lan (fun _=>32767-13) 0 64
theorem zrO:chains 6 117 32 K1031 Mk 28 117=true:=by kernel_rfl
theorem zrs {S q:Nat} (hS:S<64) (hq:q<3393):cnt 6 S 117 32 q≤13:=zdi (m:=6) (e:=117) (n:=32) (c:=13) (k:=28) (by omega) (by omega) (by omega) zrO hS hq
noncomputable def K1287:Nat:=lan (fun _=>32767-126) 0 64
theorem zrP:chains 3 73 256 K1287 Mk 22 73=true:=by kernel_rfl
theorem zrt {S q:Nat} (hS:S<64) (hq:q<1679):cnt 3 S 73 256 q≤126:=zdi (m:=3) (e:=73) (n:=256) (c:=126) (k:=22) (by omega) (by omega) (by omega) zrP hS hq
noncomputable def K1543:Nat:=lan (fun _=>32767-14) 0 64
theorem zrQ:chains 6 175 32 K1543 Mk 19 175=true:=by kernel_rfl
theorem zru {S q:Nat} (hS:S<64) (hq:q<3500):cnt 6 S 175 32 q≤14:=zdi (m:=6) (e:=175) (n:=32) (c:=14) (k:=19) (by omega) (by omega) (by omega) zrQ hS hq
noncomputable def K1799:Nat:=lan (fun _=>32767-120) 0 64
theorem zrR:chains 3 102 256 K1799 Mk 16 102=true:=by kernel_rfl
theorem zrv {S q:Nat} (hS:S<64) (hq:q<1734):cnt 3 S 102 256 q≤120:=zdi (m:=3) (e:=102) (n:=256) (c:=120) (k:=16) (by omega) (by omega) (by omega) zrR hS hq
end Go.Proofs.YtflgpdjbgfkhoaaGreat
namespace Go.Proofs.YtflgpdjbgfkhoaaGreat
open Go
set_option linter.unusedSimpArgs false
set_option linter.unusedVariables false
set_option maxRecDepth 100000
def uv (x:Int):Int:=if x=3 then 1 else if x=0∨x=1 then 0 else -1
def sU (u:Nat→Int):Nat→Nat→Int
 |_,0=>0
 |p,n+1=>u p+sU u (p+1) n
theorem zho (u:Nat→Int):∀m n p,sU u p (m+n)=sU u p m+sU u (p+m) n
 |0,n,p=>by simp[sU]
 |m+1,n,p=>by
  rw[show m+1+n=(m+n)+1 by omega]
  simp only[sU]
  rw[zho u m n (p+1),show p+1+m=p+(m+1) by omega];omega
theorem zls (x:Int) : -1≤uv x∧uv x≤1:=by unfold uv;split<;>(try split)<;>omega
theorem zqY {u:Nat→Int} (h:∀k,u k≤1):∀n p,sU u p n≤n
 |0,p=>by simp[sU]
 |n+1,p=>by have:=zqY h n (p+1);have:=h p;simp only[sU];omega
def fN (y:Nat):Nat:=(y ^^^ (y / 64)) % 24
def uN (y:Nat):Int:=uv (fN y:Int)
def wS (D:Nat):Nat→Nat→Int
 |0,_=>0
 |n+1,y=>uN y+wS D n (y+D)
theorem zjc (D:Nat):∀m n y,wS D (m+n) y=wS D m y+wS D n (y+m*D)
 |0,n,y=>by simp[wS]
 |m+1,n,y=>by
  rw[show m+1+n=(m+n)+1 by omega]
  simp only[wS]
  rw[zjc D m n (y+D),show y+D+m*D=y+(m+1)*D by rw[Nat.add_mul];omega];omega
def g8 (r:Nat):Nat:=(r % 8) ^^^ (r / 64 % 8)
theorem zrW (y:Nat):fN y % 8=g8 (y % 512):=by
 unfold fN g8
 rw[Nat.mod_mod_of_dvd _ (by decide),show(8:Nat)=2 ^ 3 from rfl,Nat.xor_mod_two_pow]
 congr 1
 ·omega
 ·omega
def um (r:Nat):Int:=if r=3 then 1 else if r=0∨r=1 then 0 else -1
theorem zmV (y:Nat):uN y≤um (g8 (y % 512)):=by
 rw[←zrW]
 have h:fN y<24:=Nat.mod_lt _ (by omega)
 unfold uN
 generalize fN y=x at *
 have key:∀x:Nat,x<24→uv (x:Int)≤um (x % 8):=by decide
 exact key x h
def zs4:Bool:=(List.range 512).all fun r=>[128,384].all fun E=>decide (um (g8 r)+um (g8 ((r+E) % 512))+um (g8 ((r+2*E) % 512))+um (g8 ((r+3*E) % 512))≤ -1)
theorem zqd:zs4=true:=by kernel_rfl
theorem quad {E:Nat} (hE:E % 512=128∨E % 512=384) (y:Nat):uN y+uN (y+E)+uN (y+2*E)+uN (y+3*E)≤ -1:=by
 have h:=List.all_eq_true.1 zqd (y % 512) (List.mem_range.2 (Nat.mod_lt _ (by omega)))
 have h2:=List.all_eq_true.1 h (E % 512) (by rcases hE with e|e<;>rw[e]<;>simp)
 have h3:=of_decide_eq_true h2
 have a0:=zmV y
 have a1:=zmV (y+E)
 have a2:=zmV (y+2*E)
 have a3:=zmV (y+3*E)
 rw[show(y+E) % 512=(y % 512+E % 512) % 512 by omega] at a1
 rw[show(y+2*E) % 512=(y % 512+2*(E % 512)) % 512 by omega] at a2
 rw[show(y+3*E) % 512=(y % 512+3*(E % 512)) % 512 by omega] at a3
 omega
theorem zqX {D E:Nat} (hE:E % 512=128∨E % 512=384):∀n y,wS D n y+wS D n (y+E)+wS D n (y+2*E)+wS D n (y+3*E)≤ -n
 |0,y=>by simp[wS]
 |n+1,y=>by
  have h1:=quad hE y
  have h2:=zqX (D:=D) hE n (y+D)
  simp only[wS]
  rw[show y+E+D=y+D+E by omega,show y+2*E+D=y+D+2*E by omega,show y+3*E+D=y+D+3*E by omega]
  omega
theorem four {D h:Nat} (hE:h*D % 512=128∨h*D % 512=384) (y:Nat):wS D (h+(h+(h+h))) y≤ -h:=by
 have:=zqX (D:=D) hE h y
 rw[zjc,zjc,zjc,show y+h*D+h*D=y+2*(h*D) by omega,show y+2*(h*D)+h*D=y+3*(h*D) by omega]
 omega
theorem zq6 {S q:Nat} (hS:S<64):((S+64*q) ^^^ q) % 64=S ^^^ (q % 64)∧((S+64*q) ^^^ q) / 64=q ^^^ (q / 64):=by
 have e:(64:Nat)=2 ^ 6:=rfl
 constructor
 ·have:=Nat.xor_mod_two_pow (a:=S+64*q) (b:=q) (n:=6)
  rw[←e] at this
  rw[this];congr 1;omega
 ·have:=Nat.xor_div_two_pow (a:=S+64*q) (b:=q) (n:=6)
  rw[←e] at this
  rw[this];congr 1;omega
theorem ind3 {S q:Nat} (hS:S<64) (h:ind 3 S q=0):((S+64*q) ^^^ q) % 3≠0:=by
 obtain⟨h1,h2⟩:=zq6 (q:=q) hS
 intro h0
 unfold ind indT at h
 have e:Nat.beq (Nat.mod (Nat.add (Nat.xor S (q % 64)) ((q ^^^ q / 64) % 3)) 3) 0=true:=by
  have:((S ^^^ (q % 64))+(q ^^^ (q / 64)) % 3) % 3=0:=by rw[←h1,←h2];omega
  rw[show Nat.mod (Nat.add (Nat.xor S (q % 64)) ((q ^^^ q / 64) % 3)) 3=((S ^^^ (q % 64))+(q ^^^ (q / 64)) % 3) % 3 from rfl,this];rfl
 rw[e] at h
 have h3:(1:Nat)=0:=h
 omega
theorem ind6 {S q:Nat} (hS:S<64) (h:ind 6 S q=0):((S+64*q) ^^^ q) % 6≠0:=by
 obtain⟨h1,h2⟩:=zq6 (q:=q) hS
 intro h0
 unfold ind indT at h
 have e:Nat.beq (Nat.mod (Nat.add (Nat.xor S (q % 64)) ((q ^^^ q / 64) % 3)) 3) 0=true:=by
  have:((S ^^^ (q % 64))+(q ^^^ (q / 64)) % 3) % 3=0:=by rw[←h1,←h2];omega
  rw[show Nat.mod (Nat.add (Nat.xor S (q % 64)) ((q ^^^ q / 64) % 3)) 3=((S ^^^ (q % 64))+(q ^^^ (q / 64)) % 3) % 3 from rfl,this];rfl
 have e2:Nat.beq (Nat.mod (Nat.xor S (q % 64)) 2) 0=true:=by
  have:(S ^^^ (q % 64)) % 2=0:=by rw[←h1];omega
  rw[show Nat.mod (Nat.xor S (q % 64)) 2=(S ^^^ (q % 64)) % 2 from rfl,this];rfl
 rw[e,e2] at h
 exact absurd h (by decide)
theorem zr6 {s q:Nat} (hs:s<512):uN (s+512*q)≤2*(ind 3 (s / 8) q:Int)-1:=by
 have hi:=znj 3 (s / 8) q
 by_cases h:ind 3 (s / 8) q=0
 ·have hx:=ind3 (by omega) h
  rw[h]
  have hz:((s+512*q) ^^^ ((s+512*q) / 64)) / 8=(s / 8+64*q) ^^^ q:=by
   have:=Nat.xor_div_two_pow (a:=s+512*q) (b:=(s+512*q) / 64) (n:=3)
   rw[show(2:Nat) ^ 3=8 from rfl] at this
   rw[this];congr 1<;>omega
  rw[←hz] at hx
  unfold uN fN
  generalize (s+512*q) ^^^ ((s+512*q) / 64)=z at *
  have h24:z % 24≠0∧z % 24≠1∧z % 24≠3:=by omega
  unfold uv
  rw[if_neg (by omega),if_neg (by omega)];omega
 ·have:=(zls (fN (s+512*q):Int)).2
  unfold uN;omega
theorem zr5 {s q:Nat} (hs:s<256):uN (s+256*q)≤2*(ind 6 (s / 4) q:Int)-1:=by
 have hi:=znj 6 (s / 4) q
 by_cases h:ind 6 (s / 4) q=0
 ·have hx:=ind6 (by omega) h
  rw[h]
  have hz:((s+256*q) ^^^ ((s+256*q) / 64)) / 4=(s / 4+64*q) ^^^ q:=by
   have:=Nat.xor_div_two_pow (a:=s+256*q) (b:=(s+256*q) / 64) (n:=2)
   rw[show(2:Nat) ^ 2=4 from rfl] at this
   rw[this];congr 1<;>omega
  rw[←hz] at hx
  unfold uN fN
  generalize (s+256*q) ^^^ ((s+256*q) / 64)=z at *
  have h24:z % 24≠0∧z % 24≠1∧z % 24≠3:=by omega
  unfold uv
  rw[if_neg (by omega),if_neg (by omega)];omega
 ·have:=(zls (fN (s+256*q):Int)).2
  unfold uN;omega
theorem zp1 {s e:Nat} (hs:s<512):∀n q,wS (512*e) n (s+512*q)≤2*(cnt 3 (s / 8) e n q:Int)-n
 |0,q=>by simp[wS,cnt]
 |n+1,q=>by
  have h1:=zr6 (q:=q) hs
  have h2:=zp1 (e:=e) hs n (q+e)
  simp only[wS,cnt]
  rw[show s+512*q+512*e=s+512*(q+e) by omega]
  omega
theorem zp0 {s e:Nat} (hs:s<256):∀n q,wS (256*e) n (s+256*q)≤2*(cnt 6 (s / 4) e n q:Int)-n
 |0,q=>by simp[wS,cnt]
 |n+1,q=>by
  have h1:=zr5 (q:=q) hs
  have h2:=zp0 (e:=e) hs n (q+e)
  simp only[wS,cnt]
  rw[show s+256*q+256*e=s+256*(q+e) by omega]
  omega
def Less (L:Nat):Prop:=∃N,1≤N∧N≤1024∧∀A,A≤818000→wS (29*L+53) N A≤ -2
def zqS (L:Nat):Bool:=[1,2,4,8,16,32,64,128].any fun h=>decide (h*(29*L+53) % 512=128∨h*(29*L+53) % 512=384)
theorem zps {L:Nat} (h:zqS L=true):Less L:=by
 obtain⟨h,hm,hd⟩:=List.any_eq_true.1 h
 have hE:=of_decide_eq_true hd
 have hb:1≤h∧h≤128:=by
  simp only[List.mem_cons,List.not_mem_nil,or_false] at hm;omega
 refine⟨(h+(h+(h+h)))+(h+(h+(h+h))),by omega,by omega,fun A _=>?_⟩
 have h1:=four hE A
 have h2:=four hE (A+(h+(h+(h+h)))*(29*L+53))
 rw[zjc];omega
theorem zhO {L e N c K:Nat} (hL:29*L+53=512*e) (hN:1≤N∧N≤1024) (hc:2*c+2≤N) (hK:1598≤K) (h:∀ {S q:Nat},S<64→q<K→cnt 3 S e N q≤c):Less L:=by
 refine⟨N,hN.1,hN.2,fun A hA=>?_⟩
 have h1:=zp1 (s:=A % 512) (e:=e) (by omega) N (A / 512)
 have h2:=h (S:=A % 512 / 8) (q:=A / 512) (by omega) (by omega)
 rw[hL]
 rw[show A % 512+512*(A / 512)=A by omega] at h1
 omega
theorem zhN {L e N c K:Nat} (hL:29*L+53=256*e) (hN:1≤N∧N≤1024) (hc:2*c+2≤N) (hK:3196≤K) (h:∀ {S q:Nat},S<64→q<K→cnt 6 S e N q≤c):Less L:=by
 refine⟨N,hN.1,hN.2,fun A hA=>?_⟩
 have h1:=zp0 (s:=A % 256) (e:=e) (by omega) N (A / 256)
 have h2:=h (S:=A % 256 / 4) (q:=A / 256) (by omega) (by omega)
 rw[hL]
 rw[show A % 256+256*(A / 256)=A by omega] at h1
 omega
theorem zrg:((List.range 2001).all fun L=>zqS L||(decide (L=7)||decide (L=263)||decide (L=519)||decide (L=775)||decide (L=1031)||decide (L=1287)||decide (L=1543)||decide (L=1799)))=true:=by kernel_rfl
theorem zqa {L:Nat} (hL:L≤2000):Less L:=by
 have h:=List.all_eq_true.1 zrg L (List.mem_range.2 (by omega))
 simp only[Bool.or_eq_true,decide_eq_true_eq] at h
 rcases h with h|(((((((h|h)|h)|h)|h)|h)|h)|h)
 ·exact zps h
 ·subst h;exact zhN (e:=1) (N:=192) (c:=80) rfl (by omega) (by omega) (by omega) win7
 ·subst h;exact zhO (e:=15) (N:=192) (c:=94) rfl (by omega) (by omega) (by omega) zr7
 ·subst h;exact zhN (e:=59) (N:=32) (c:=13) rfl (by omega) (by omega) (by omega) zr8
 ·subst h;exact zhO (e:=44) (N:=128) (c:=63) rfl (by omega) (by omega) (by omega) zr9
 ·subst h;exact zhN (e:=117) (N:=32) (c:=13) rfl (by omega) (by omega) (by omega) zrs
 ·subst h;exact zhO (e:=73) (N:=256) (c:=126) rfl (by omega) (by omega) (by omega) zrt
 ·subst h;exact zhN (e:=175) (N:=32) (c:=14) rfl (by omega) (by omega) (by omega) zru
 ·subst h;exact zhO (e:=102) (N:=256) (c:=120) rfl (by omega) (by omega) (by omega) zrv
end Go.Proofs.YtflgpdjbgfkhoaaGreat
namespace Go.Proofs.YtflgpdjbgfkhoaaGreat
open Go
set_option linter.unusedSimpArgs false
set_option linter.unusedVariables false
set_option maxRecDepth 100000
set_option maxHeartbeats 2000000
theorem zqs {a b:Nat} (ha:a<2 ^ 62) (hb:b<2 ^ 62):xorV (a:Int) (b:Int)=((a ^^^ b:Nat):Int):=by
 have h1:(BitVec.ofInt 64 (a:Int) ^^^ BitVec.ofInt 64 (b:Int)).toNat=a ^^^ b:=by
  rw[BitVec.toNat_xor,BitVec.toNat_ofInt,BitVec.toNat_ofInt]
  have e1:((a:Int) % ((2 ^ 64:Nat):Int)).toNat=a:=by
   have:(a:Int) % ((2 ^ 64:Nat):Int)=a:=Int.emod_eq_of_lt (by omega) (by omega)
   rw[this];simp
  have e2:((b:Int) % ((2 ^ 64:Nat):Int)).toNat=b:=by
   have:(b:Int) % ((2 ^ 64:Nat):Int)=b:=Int.emod_eq_of_lt (by omega) (by omega)
   rw[this];simp
  rw[e1,e2]
 have h2:=Nat.xor_lt_two_pow (n:=62) ha hb
 unfold xorV
 rw[h1,zcp (by omega)]
def yN (b:Str) (k:Nat):Nat:=(nth b (k % b.length)).toNat*131+(nth b ((k*7+3) % b.length)).toNat*1117+k*29+k / b.length*53
theorem zpz (b:Str) (k:Nat):zfy b k=(yN b k:Int):=by
 have h1:(nth b (k % b.length)).toNat<256:=(nth b (k % b.length)).toNat_lt
 have h2:(nth b ((k*7+3) % b.length)).toNat<256:=(nth b ((k*7+3) % b.length)).toNat_lt
 unfold zfy yN
 rw[zcp (by omega),zcp (by omega),List.length_map,show(k:Int)+1-1=(k:Int) by omega]
 simp only[Int.natCast_add,Int.natCast_mul,Int.natCast_ediv]
 rfl
theorem zrk {b:Str}{k:Nat} (h0:1≤b.length) (hk:b.length≤k) (hb:k≤1000000000000):zad b k 24=(fN (yN b k):Int):=by
 have h1:(nth b (k % b.length)).toNat<256:=(nth b (k % b.length)).toNat_lt
 have h2:(nth b ((k*7+3) % b.length)).toNat<256:=(nth b ((k*7+3) % b.length)).toNat_lt
 have h3:k / b.length≤k:=Nat.div_le_self _ _
 have hy:yN b k<2 ^ 62:=by unfold yN;omega
 unfold zad
 rw[if_neg (by omega),if_neg (by omega),zpz]
 rw[show((yN b k:Nat):Int) / 64=((yN b k / 64:Nat):Int) by omega,zqs hy (by omega)]
 unfold fN
 omega
def aN (b:Str) (i:Nat):Nat:=(nth b i).toNat*131+(nth b ((7*i+3) % b.length)).toNat*1117+i*29
theorem zqt {b:Str}{j i:Nat} (hi:i<b.length):yN b (j*b.length+i)=aN b i+j*(29*b.length+53):=by
 have e1:(j*b.length+i) % b.length=i:=by rw[Nat.mul_add_mod_self_right];exact Nat.mod_eq_of_lt hi
 have e2:(j*b.length+i) / b.length=j:=by rw[Nat.mul_comm,Nat.mul_add_div (by omega),Nat.div_eq_of_lt hi,Nat.add_zero]
 have e3:((j*b.length+i)*7+3) % b.length=(7*i+3) % b.length:=by
  rw[show(j*b.length+i)*7+3=j*7*b.length+(7*i+3) by rw[Nat.add_mul,Nat.mul_right_comm];omega,Nat.mul_add_mod_self_right]
 unfold yN aN
 rw[e1,e2,e3,Nat.add_mul,Nat.mul_add,Nat.mul_assoc j b.length 29,Nat.mul_comm b.length 29]
 omega
theorem zsa (b:Str) (i:Nat) (hi:i≤2000):aN b i≤376240:=by
 have h1:(nth b i).toNat<256:=(nth b i).toNat_lt
 have h2:(nth b ((7*i+3) % b.length)).toNat<256:=(nth b ((7*i+3) % b.length)).toNat_lt
 unfold aN;omega
def rowS (f:Nat→Nat→Int) (j:Nat):Nat→Int
 |0=>0
 |l+1=>rowS f j l+f j l
def colS (f:Nat→Nat→Int) (l:Nat):Nat→Nat→Int
 |_,0=>0
 |j,n+1=>f j l+colS f l (j+1) n
def matS (f:Nat→Nat→Int) (l:Nat):Nat→Nat→Int
 |_,0=>0
 |j,n+1=>rowS f j l+matS f l (j+1) n
theorem zme (f:Nat→Nat→Int) (l:Nat):∀n j,matS f (l+1) j n=matS f l j n+colS f l j n
 |0,j=>rfl
 |n+1,j=>by simp only[matS,colS,rowS];rw[zme f l n (j+1)];omega
theorem zmf (f:Nat→Nat→Int):∀n j,matS f 0 j n=0
 |0,j=>rfl
 |n+1,j=>by simp only[matS,rowS];rw[zmf f n (j+1)];omega
theorem zoh {f:Nat→Nat→Int}{n j:Nat}{c:Int}:∀l,(∀i,i<l→colS f i j n≤c)→matS f l j n≤l*c
 |0,_=>by rw[zmf];simp
 |l+1,h=>by
  have h1:=zoh l (fun i hi=>h i (by omega))
  have h2:=h l (by omega)
  rw[zme,Int.natCast_add,Int.add_mul];omega
theorem zrn (u:Nat→Int) (p n:Nat):sU u p (n+1)=sU u p n+u (p+n):=by
 rw[zho];simp[sU]
theorem zpK (u:Nat→Int) (L j:Nat):∀l,sU u (j*L) l=rowS (fun j i=>u (j*L+i)) j l
 |0=>rfl
 |l+1=>by rw[zrn,zpK u L j l];rfl
theorem zpJ (u:Nat→Int) (L:Nat):∀n j,sU u (j*L) (n*L)=matS (fun j i=>u (j*L+i)) L j n
 |0,j=>by rw[Nat.zero_mul];rfl
 |n+1,j=>by
  rw[show(n+1)*L=L+n*L by rw[Nat.add_mul];omega,zho,zpK,show j*L+L=(j+1)*L by rw[Nat.add_mul];omega,zpJ u L n (j+1)]
  rfl
abbrev uP (b:Str) (k:Nat):Int:=uv (zad b k 24)
theorem zpe {b:Str} (h0:1≤b.length){i:Nat} (hi:i<b.length):∀n j,1≤j→(j+n)*b.length≤100000000→colS (fun j i=>uP b (j*b.length+i)) i j n=wS (29*b.length+53) n (aN b i+j*(29*b.length+53))
 |0,j,_,_=>rfl
 |n+1,j,hj,hb=>by
  have h1:=zpe h0 hi n (j+1) (by omega) (by rw[show j+1+n=j+(n+1) by omega];exact hb)
  have h2:b.length≤j*b.length:=Nat.le_mul_of_pos_left _ hj
  have h3:j*b.length≤(j+(n+1))*b.length:=Nat.mul_le_mul_right _ (by omega)
  simp only[colS,wS]
  rw[h1,show aN b i+j*(29*b.length+53)+(29*b.length+53)=aN b i+(j+1)*(29*b.length+53) by rw[Nat.add_mul];omega]
  congr 1
  show uv (zad b (j*b.length+i) 24)=uN _
  rw[zrk h0 (by omega) (by omega),zqt hi]
  rfl
theorem zrm {b:Str} (h0:1≤b.length) (hb:b.length≤2000){p:Nat} (hp:p≤4000):∃m,m≤3000000∧sU (uP b) p m≤ -1:=by
 obtain⟨N,n1,n2,hA⟩:=zqa hb
 obtain⟨j,j1,j2,j3⟩:∃j,1≤j∧p≤j*b.length∧j*b.length≤p+b.length:=by
  refine⟨p / b.length+1,Nat.le_add_left 1 _, ?_, ?_⟩
  ·have h1:=Nat.div_add_mod p b.length
   have h2:=Nat.mod_lt p (show 0<b.length by omega)
   rw[Nat.add_mul,Nat.mul_comm (p / b.length)];omega
  ·have h1:=Nat.div_mul_le_self p b.length
   rw[Nat.add_mul];omega
 have hNL:N*b.length≤1024*2000:=Nat.mul_le_mul n2 hb
 refine⟨(j*b.length-p)+N*b.length,by omega, ?_⟩
 rw[zho,show p+(j*b.length-p)=j*b.length by omega,zpJ]
 have h1:=zqY (u:=uP b) (fun k=>(zls _).2) (j*b.length-p) p
 have hj:j*(29*b.length+53)≤441000:=by
  have e:j*(29*b.length+53)=29*(j*b.length)+53*j:=by rw[Nat.mul_add,Nat.mul_left_comm,Nat.mul_comm j 53]
  by_cases hL:7≤b.length
  ·have:j*7≤j*b.length:=Nat.mul_le_mul_left _ hL
   omega
  ·have:j≤4007:=by
    have h2:j*1≤j*b.length:=Nat.mul_le_mul_left _ h0
    omega
   exact Nat.le_trans (Nat.le_of_eq e) (by omega)
 have h2:=zoh (f:=fun j i=>uP b (j*b.length+i)) (n:=N) (j:=j) (c:= -2) b.length (fun i hi=>by
  rw[zpe h0 hi N j j1 (by rw[Nat.add_mul];omega)]
  exact hA _ (by have:=zsa b i (by omega);omega))
 omega
def mutV (b:Str):Nat→Nat→Val→Option (Val×Nat)
 |0,_,_=>none
 |n+1,p,v=>
  if zad b p 24=0 then some (.mk (numV b (p+1) [0,1,-1,9,-2]) v.num v.kids,p+2)
  else if zad b p 24=1 then some (.mk v.ctor (numV b (p+1) [10,-1,1]) v.kids,p+2)
  else if zad b p 24=2 then some (.mk v.ctor v.num (v.kids++[.mk (-1) 0 []]),p+1)
  else if zad b p 24=3 then
   match v.kids with
   | []=>some (.mk v.ctor v.num v.kids,p+1)
   |k::r=>
    match mutV b n (p+1) k with
    |none=>none
    |some (k1,p1)=>
     match mutV b n p1 k1 with
     |none=>none
     |some (k2,p2)=>some (.mk v.ctor v.num (k2::r),p2)
  else some (.mk v.ctor v.num v.kids,p+1)
theorem Vals.size_app:∀a b:List Val,Vals.size (a++b)=Vals.size a+Vals.size b
 | [],b=>by simp[Vals.size]
 |x::r,b=>by simp only[List.cons_append,Vals.size,Vals.size_app r b];omega
theorem Val.size_mk (a n:Int) (k:List Val):(Val.mk a n k).size=1+Vals.size k:=rfl
theorem zpv {b:Str}{n p:Nat}{v:Val}{k:Val}{r:List Val} (h:zad b p 24=3) (hk:v.kids=k::r){k1 k2:Val}{p1 p2:Nat} (h1:mutV b n (p+1) k=some (k1,p1)) (h2:mutV b n p1 k1=some (k2,p2)):
  mutV b (n+1) p v=some (.mk v.ctor v.num (k2::r),p2):=by
 simp only[mutV]
 rw[if_neg (by omega),if_neg (by omega),if_neg (by omega),if_pos h,hk]
 simp only[h1,h2]
theorem zlI {b:Str}{n p:Nat}{v:Val}{k:Val}{r:List Val} (h:zad b p 24=3) (hk:v.kids=k::r){v':Val}{q:Nat} (hm:mutV b (n+1) p v=some (v',q)):
  ∃k1 p1 k2,mutV b n (p+1) k=some (k1,p1)∧mutV b n p1 k1=some (k2,q)∧v' = .mk v.ctor v.num (k2::r):=by
 simp only[mutV] at hm
 rw[if_neg (by omega),if_neg (by omega),if_neg (by omega),if_pos h,hk] at hm
 cases h1:mutV b n (p+1) k with
 |none=>simp[h1] at hm
 |some x=>
  obtain⟨k1,p1⟩:=x
  cases h2:mutV b n p1 k1 with
  |none=>simp[h1,h2] at hm
  |some y=>
   obtain⟨k2,p2⟩:=y
   simp only[h1,h2,Option.some.injEq,Prod.mk.injEq] at hm
   obtain⟨rfl,rfl⟩:=hm
   exact⟨k1,p1,k2,rfl,h2,rfl⟩
theorem zgJ {b:Str}:∀ {n:Nat}{p:Nat}{v:Val}{x:Val×Nat},mutV b n p v=some x→∀m,n≤m→mutV b m p v=some x
 |0,p,v,x,h,m,_=>by simp[mutV] at h
 |n+1,p,v,x,h,0,hm=>by omega
 |n+1,p,v,x,h,m+1,hm=>by
  by_cases h3:zad b p 24=3
  ·cases hk:v.kids with
   |nil=>simp only[mutV] at h ⊢;rw[if_neg (by omega),if_neg (by omega),if_neg (by omega),if_pos h3,hk] at h ⊢;exact h
   |cons k r=>
    obtain⟨v',q⟩:=x
    obtain⟨k1,p1,k2,h1,h2,rfl⟩:=zlI h3 hk h
    exact zpv h3 hk (zgJ h1 m (by omega)) (zgJ h2 m (by omega))
  ·simp only[mutV] at h ⊢
   split at h
   ·rename_i c;rw[if_pos c];exact h
   ·rename_i c;rw[if_neg c]
    split at h
    ·rename_i c;rw[if_pos c];exact h
    ·rename_i c;rw[if_neg c]
     split at h
     ·rename_i c;rw[if_pos c];exact h
     ·rename_i c;rw[if_neg c,if_neg h3];exact h
theorem zeJ {b:Str}:∀ {n:Nat}{p:Nat}{v v':Val}{q:Nat},mutV b n p v=some (v',q)→p<q∧v'.size≤v.size+(q-p)
 |0,p,v,v',q,h=>by simp[mutV] at h
 |n+1,p,v,v',q,h=>by
  have hv:=Val.size_eq v
  by_cases h3:zad b p 24=3
  ·cases hk:v.kids with
   |nil=>
    simp only[mutV] at h
    rw[if_neg (by omega),if_neg (by omega),if_neg (by omega),if_pos h3,hk] at h
    simp only[Option.some.injEq,Prod.mk.injEq] at h
    obtain⟨rfl,rfl⟩:=h
    rw[Val.size_mk];simp only[Vals.size];omega
   |cons k r=>
    obtain⟨k1,p1,k2,h1,h2,rfl⟩:=zlI h3 hk h
    have a1:=zeJ h1
    have a2:=zeJ h2
    rw[hk] at hv
    rw[Val.size_mk]
    simp only[Vals.size] at hv ⊢
    omega
  ·simp only[mutV] at h
   split at h
   ·simp only[Option.some.injEq,Prod.mk.injEq] at h;obtain⟨rfl,rfl⟩:=h;rw[Val.size_mk];omega
   split at h
   ·simp only[Option.some.injEq,Prod.mk.injEq] at h;obtain⟨rfl,rfl⟩:=h;rw[Val.size_mk];omega
   split at h
   ·simp only[Option.some.injEq,Prod.mk.injEq] at h;obtain⟨rfl,rfl⟩:=h;rw[Val.size_mk,Vals.size_app];simp only[Vals.size,Val.size];omega
   ·simp only[Option.some.injEq,Prod.mk.injEq] at h;obtain⟨rfl,rfl⟩:=h;rw[Val.size_mk];omega
theorem zpw {b:Str}:∀(m:Nat) (p:Nat) (v:Val),sU (uP b) p m≤ -1→∃n v' q,mutV b n p v=some (v',q)∧q≤p+m∧ -1≤sU (uP b) p (q-p):=by
 intro m
 induction m using Nat.strongRecOn with
 |_ m ih=>
  intro p v hm
  cases m with
  |zero=>simp[sU] at hm
  |succ m=>
   simp only[sU] at hm
   have hu:uP b p=uv (zad b p 24):=rfl
   have hub:=zls (zad b (p+1) 24)
   by_cases h0:zad b p 24=0∨zad b p 24=1
   ·have hu0:uP b p=0:=by rw[hu];unfold uv;rw[if_neg (by omega),if_pos h0]
    cases m with
    |zero=>simp only[sU] at hm;omega
    |succ m=>
     have hs : -1≤sU (uP b) p (p+2-p):=by
      rw[show p+2-p=2 by omega]
      show -1≤uP b p+(uP b (p+1)+0)
      have:uP b (p+1)=uv (zad b (p+1) 24):=rfl
      omega
     rcases h0 with h0|h0
     ·exact⟨1,_,p+2,by simp only[mutV];rw[if_pos h0],by omega,hs⟩
     ·exact⟨1,_,p+2,by simp only[mutV];rw[if_neg (by omega),if_pos h0],by omega,hs⟩
   ·rw[not_or] at h0
    by_cases h3:zad b p 24=3
    ·have hu3:uP b p=1:=by rw[hu];unfold uv;rw[if_pos h3]
     cases hk:v.kids with
     |nil=>
      refine⟨1,_,p+1,by simp only[mutV];rw[if_neg (by omega),if_neg (by omega),if_neg (by omega),if_pos h3,hk],by omega, ?_⟩
      rw[show p+1-p=1 by omega]
      show -1≤uP b p+0
      omega
     |cons k r=>
      obtain⟨n1,k1,p1,a1,a2,a3⟩:=ih m (by omega) (p+1) k (by omega)
      have a4:=(zeJ a1).1
      have e1:=zho (uP b) (p1-(p+1)) (p+1+m-p1) (p+1)
      rw[show p1-(p+1)+(p+1+m-p1)=m by omega,show p+1+(p1-(p+1))=p1 by omega] at e1
      obtain⟨n2,k2,p2,b1,b2,b3⟩:=ih (p+1+m-p1) (by omega) p1 k1 (by omega)
      have b4:=(zeJ b1).1
      refine⟨max n1 n2+1,_,p2,zpv h3 hk (zgJ a1 _ (Nat.le_max_left _ _)) (zgJ b1 _ (Nat.le_max_right _ _)),by omega, ?_⟩
      have e2:=zho (uP b) (p1-(p+1)) (p2-p1) (p+1)
      rw[show p+1+(p1-(p+1))=p1 by omega] at e2
      rw[show p2-p=(p1-(p+1)+(p2-p1))+1 by omega]
      simp only[sU]
      omega
    ·have hs : -1≤sU (uP b) p (p+1-p):=by
      rw[show p+1-p=1 by omega]
      show -1≤uP b p+0
      have:=(zls (zad b p 24)).1
      omega
     by_cases h2:zad b p 24=2
     ·exact⟨1,_,p+1,by simp only[mutV];rw[if_neg h0.1,if_neg h0.2,if_pos h2],by omega,hs⟩
     ·exact⟨1,_,p+1,by simp only[mutV];rw[if_neg h0.1,if_neg h0.2,if_neg h2,if_neg h3],by omega,hs⟩
theorem zpx {b:Str} (hb:b.length≤2000){p:Nat} (hp:p≤4000) (v:Val):∃n v' q,mutV b n p v=some (v',q)∧q≤3010000:=by
 by_cases h0:1≤b.length
 ·obtain⟨m,m1,m2⟩:=zrm h0 hb hp
  obtain⟨n,v',q,h1,h2,_⟩:=zpw m p v m2
  exact⟨n,v',q,h1,by omega⟩
 ·have hz:zad b p 24=0:=by unfold zad;rw[if_pos (.inr (by omega))]
  exact⟨1,_,p+2,by simp only[mutV];rw[if_pos hz],by omega⟩
def zfa (b:Str) (p:Nat):Ty:=⟨zad b (p+1) (zbr b p).length,numV b (p+2) [0,0,1,2]⟩
def typT (b:Str) (p:Nat):Ty:=if dv (zao (zbr b p)) (zfa b p)=0 then ⟨-1,0⟩ else zfa b p
def typV (b:Str) (p:Nat):Val×Nat:=zbK b (zbr b p) (zao (zbr b p)) 4 (typT b p) (numV b (p+3) [3,2,4,1]) (p+4)
theorem zrZ {n:Nat}{a k:Int} (h1:0≤a) (h2:a<n) (h3:0≤k) (h4:k≤3):InS (n*4) ⟨a,k⟩:=by
 refine .inr ⟨?_, ?_⟩
 ·simp only[zep];omega
 ·obtain⟨i,rfl⟩:=Int.eq_ofNat_of_zero_le h1
  obtain⟨m,rfl⟩:=Int.eq_ofNat_of_zero_le h3
  simp only[zep,Int.toNat_natCast]
  exact zpR (by omega)
theorem zrj (b:Str) (p:Nat):0≤numV b p [0,0,1,2]∧numV b p [0,0,1,2]≤3:=by
 have:=zkg (b:=b) (p:=p) (l:=[0,0,1,2]) (by simp)
 simp only[List.mem_cons,List.not_mem_nil,or_false] at this
 omega
theorem znQ (b:Str) (p:Nat):InS ((zbr b p).length*4) (zfa b p):=by
 have h1:=zco (b:=b) (p:=p+1) (n:=((zbr b p).length:Int)) (by have:=(zgY b p).one;omega)
 have h2:=zrj b (p+2)
 exact zrZ h1.1 h1.2 h2.1 h2.2
theorem zi9 (b:Str) (p:Nat):Deep (zbr b p) 4 (typT b p) (numV b (p+3) [3,2,4,1]):=by
 have hl:=zfc b p
 have h4:=num4 b (p+3)
 unfold typT
 split
 ·exact⟨.inl rfl,by simp[dv],by simp[dv],by omega⟩
 ·rename_i h
  have:=zoF (f:=zao (zbr b p)) (b:=3) hl.low (by omega) (zfa b p)
  exact⟨znQ b p,by omega,by omega,by omega⟩
theorem zjq (b:Str) (p:Nat):(typV b p).2≤p+44∧(typV b p).1.size≤121∧(typV b p).1.ok:=by
 have hl:=zfc b p
 have h:=zhF (b:=b) hl.dp hl.few 4 (typT b p) (numV b (p+3) [3,2,4,1]) (p+4) (zi9 b p)
 have e1:bdV 4=40:=by decide
 have e2:szV 4=121:=by decide
 unfold typV
 exact⟨by omega,by omega,h.2.2⟩
theorem zlh {b:Str}{p:Nat} (hb:b.length≤2000) (hp:p≤100000):
  FnD Tryz.prog 32 [.ref 900 0] [(900,some (rdB b p))] (.tup [.d (zag (zbr b p)),.agg [.d (.i (typT b p).data),.d (.i (typT b p).index)],.agg [.d (.i (typV b p).1.ctor),.d (.i (typV b p).1.num),.d (zaw (typV b p).1.kids)]]) [(900,some (rdB b (typV b p).2))]:=by
 have ho:=zgY b p
 have hl:=zfc b p
 have h4:=num4 b (p+3)
 have hin:=znQ b p
 have hdeep:=zi9 b p
 have hT:typT b p=if dv (zao (zbr b p)) (zfa b p)=0 then ⟨-1,0⟩ else zfa b p:=rfl
 have hV:typV b p=zbK b (zbr b p) (zao (zbr b p)) 4 (typT b p) (numV b (p+3) [3,2,4,1]) (p+4):=rfl
 have e1:bdV 4=40:=by decide
 have hwd:=zlg (p:=p) hb (by omega)
 have hpk:=zaE (b:=b) (p:=p+1) (n:=(((zbr b p).map Data.c).length:Int)) hb (by omega) (by have:=ho.small.len;simp;omega)
 rw[show zad b (p+1) (((zbr b p).map Data.c).length:Int)=(zfa b p).data by rw[List.length_map];rfl] at hpk
 have hnu:=zbo (b:=b) (p:=p+2) (l:=[0,0,1,2]) hb (by omega) (by simp) (by simp)
 rw[show numV b (p+2) [0,0,1,2]=(zfa b p).index from rfl] at hnu
 have hdr:=fun(t:Ty) (h:Deep (zbr b p) 4 t (numV b (p+3) [3,2,4,1]))=>zht hb hl.dp hl.few 4 (a:=t.data) (k:=t.index) (p:=p+4) h (by omega) (by omega) (by omega)
 have hdp:=ze6 (f:=zao (zbr b p)) (a:=(zfa b p).data) (k:=(zfa b p).index) hin (by have:=hl.dp.four;omega)
 have htb:=zld hl.dp
 generalize zbr b p=w at *
 generalize zfa b p=t0 at *
 obtain⟨a0,k0⟩:=t0
 have hdr2:=hdr ⟨-1,0⟩
 have hdr3:=hdr ⟨a0,k0⟩
 clear hdr
 dsimp only at hT hV hdr2 hdr3
 refine bd Tryz.f32 35 [] [] fun w0 F0 own kept hk=>?_
 refine Walk.alloc (id:=3003) tz25 rfl .none rfl rfl rfl rfl ?_
 refine Walk.alloc (id:=3004) tz29 rfl .none rfl rfl rfl rfl ?_
 refine tv ?_
 refine Walk.call (cr:=[]) zsD (hwd) rfl .none rfl rfl (LeL.refl _) ⟨rfl,trivial⟩ rfl rfl rfl ?_
 refine ev ?_
 refine Walk.call (cr:=[]) zsE (htb) rfl .none rfl rfl (LeL.refl _) trivial rfl rfl rfl ?_
 refine ev ?_
 refine Walk.call (cr:=[]) zbW (hpk) rfl .none rfl rfl (LeL.refl _) ⟨rfl,trivial⟩ rfl rfl rfl ?_
 refine ev ?_
 refine Walk.sliceLit sl75 tz3 rfl (by decide) (ks:=[0,1,2,3]) (xs:=[_,_,_,_]) rfl rfl (by decide) (by decide) .none rfl rfl rfl rfl ?_
 refine Walk.call (cr:=[]) zdJ (hnu) rfl .none rfl rfl (LeL.refl _) ⟨rfl,trivial⟩ rfl rfl rfl ?_
 refine Walk.build st25 (ks:=[0,1]) (xs:=[_,_]) rfl rfl .none rfl rfl rfl ?_
 refine Walk.alloc (id:=3007) tz25 rfl .none rfl rfl rfl rfl ?_
 refine Walk.store ty25 .none rfl rfl rfl rfl rfl rfl (by simp) rfl ?_
 refine tv ?_
 refine Walk.call (cr:=[]) zmL (hdp) rfl .none rfl rfl (LeL.refl _) trivial rfl rfl rfl ?_
 refine ev ?_
 refine sq (fun h1 h1p h1s=>?_) fun h1 h1p h1s=>?_
 ·try simp only[Q] at h1p
  have HDR:=hdr2 (by rw[if_pos (by omega)] at hT;rw[←hT];exact hdeep)
  refine Walk.build st25 (ks:=[0]) (xs:=[_]) rfl rfl .none rfl rfl rfl ?_
  refine Walk.store ty25 .none rfl rfl rfl rfl rfl rfl (by simp) rfl ?_
  refine tv ?_
  refine Walk.sliceLit sl75 tz3 rfl (by decide) (ks:=[0,1,2,3]) (xs:=[_,_,_,_]) rfl rfl (by decide) (by decide) .none rfl rfl rfl rfl ?_
  refine Walk.call (cr:=[]) zdJ (zbo (b:=b) (p:=p+3) (l:=[3,2,4,1]) hb (by omega) (by simp) (by simp)) rfl .none rfl rfl (LeL.refl _) ⟨rfl,trivial⟩ rfl rfl rfl ?_
  refine Walk.call (cr:=[]) zow (HDR) rfl .none rfl rfl (LeL.refl _) ⟨rfl,trivial⟩ rfl rfl rfl ?_
  refine evd [] [] ?_
  refine Walk.store ty25 .none rfl rfl rfl rfl rfl rfl (by simp) rfl ?_
  refine Walk.store ty29 .none rfl rfl rfl rfl rfl rfl (by simp) rfl ?_
  refine dr ?_
  refine rn [(900,some (rdB b (typV b p).2))] (.cons (.tmp rfl) (.cons (.cellA ty25 rfl rfl rfl) (.cons (.cellA ty29 rfl rfl rfl) .nil))) (.tup (.cons (.eqd ?_) (.cons (.agg (.cons (.eqd ?_) (.cons (.eqd ?_) .nil))) (.cons (.agg (.cons (.eqd ?_) (.cons (.eqd ?_) (.cons (.eqd ?_) .nil)))) .nil)))) ⟨rfl,rfl⟩ (SubO.get ⟨.inr (by first|(rw[if_pos (by omega)] at hT;rw[hV,hT];all_goals rfl)|(rw[if_neg (by omega)] at hT;rw[hV,hT];all_goals rfl)),⟨.inl rfl,trivial⟩⟩) (zaq rfl)
  all_goals (first|(rw[if_pos (by omega)] at hT;rw[hV,hT];all_goals rfl)|(rw[if_neg (by omega)] at hT;rw[hV,hT];all_goals rfl)|(rw[if_pos (by omega)] at hT;rw[hT];all_goals rfl)|(rw[if_neg (by omega)] at hT;rw[hT];all_goals rfl)|rfl)
 ·try simp only[Q] at h1p
  have HDR:=hdr3 (by rw[if_neg (by omega)] at hT;rw[←hT];exact hdeep)
  refine Walk.sliceLit sl75 tz3 rfl (by decide) (ks:=[0,1,2,3]) (xs:=[_,_,_,_]) rfl rfl (by decide) (by decide) .none rfl rfl rfl rfl ?_
  refine Walk.call (cr:=[]) zdJ (zbo (b:=b) (p:=p+3) (l:=[3,2,4,1]) hb (by omega) (by simp) (by simp)) rfl .none rfl rfl (LeL.refl _) ⟨rfl,trivial⟩ rfl rfl rfl ?_
  refine Walk.call (cr:=[]) zow (HDR) rfl .none rfl rfl (LeL.refl _) ⟨rfl,trivial⟩ rfl rfl rfl ?_
  refine evd [] [] ?_
  refine Walk.store ty25 .none rfl rfl rfl rfl rfl rfl (by simp) rfl ?_
  refine Walk.store ty29 .none rfl rfl rfl rfl rfl rfl (by simp) rfl ?_
  refine dr ?_
  refine rn [(900,some (rdB b (typV b p).2))] (.cons (.tmp rfl) (.cons (.cellA ty25 rfl rfl rfl) (.cons (.cellA ty29 rfl rfl rfl) .nil))) (.tup (.cons (.eqd ?_) (.cons (.agg (.cons (.eqd ?_) (.cons (.eqd ?_) .nil))) (.cons (.agg (.cons (.eqd ?_) (.cons (.eqd ?_) (.cons (.eqd ?_) .nil)))) .nil)))) ⟨rfl,rfl⟩ (SubO.get ⟨.inr (by first|(rw[if_pos (by omega)] at hT;rw[hV,hT];all_goals rfl)|(rw[if_neg (by omega)] at hT;rw[hV,hT];all_goals rfl)),⟨.inl rfl,trivial⟩⟩) (zaq rfl)
  all_goals (first|(rw[if_pos (by omega)] at hT;rw[hV,hT];all_goals rfl)|(rw[if_neg (by omega)] at hT;rw[hV,hT];all_goals rfl)|(rw[if_pos (by omega)] at hT;rw[hT];all_goals rfl)|(rw[if_neg (by omega)] at hT;rw[hT];all_goals rfl)|rfl)
section
variable {c:Ctx}{env:Env}{hp:Hp}{K:Kt}{code:Code}{ids:List Nat}
theorem CWp.fixVB (b off id k:Nat){n:Nat}{xs:List (List D)}{cs cs':List AV} (hb:getH hp b=some (.box cs)) (hc:cs[off]?=some (.gv id xs)) (hput:putC cs off [.ms id xs.length]=some cs') (ht:getH hp id=some (.tok n k)) (hn:n=xs.length) (hx0:xs≠[])
  (hnx:CWp c code ⟨env,(b,some (.box cs'))::(id,some (.box (xs.flatten.map .d)))::hp⟩ K):CWp c code ⟨env,hp⟩ K:=by
 rintro a w ⟨G,hr⟩
 subst hn
 have hne:b≠id:=fun e=>by subst e;rw[hb] at ht;cases ht
 obtain⟨bl,vs,e,e1,e2,e3,e4,e5⟩:=hr.heap b _ hb
 obtain⟨hlt,hcv⟩:=List.getElem?_eq_some_iff.1 hc
 have hlv:off<vs.size:=by omega
 have h0:=e5 off hlt hlv
 rw[hcv] at h0
 obtain⟨hv0,hcl⟩:=h0.gv_inv
 obtain⟨hkx,htip⟩:=(hcl _ _ (zan.2 ht)).2 rfl
 rcases htip with ⟨_,h2,_⟩|⟨b1,cap,us,et,h1,h2,h3,h4,h5,h6,h7⟩
 ·exact absurd (List.eq_nil_of_length_eq_zero h2) hx0
 obtain⟨p1,p2,p3⟩:=zcC hput
 have s1:(getH hp b).isSome:=by rw[hb];rfl
 have s2:(getH hp id).isSome:=by rw[ht];rfl
 have g1:getH ((b,some (Res.box cs'))::(id,some (.box (xs.flatten.map .d)))::hp) b=some (.box cs'):=by rw[zab,if_pos rfl]
 have g2:getH ((b,some (Res.box cs'))::(id,some (.box (xs.flatten.map .d)))::hp) id=some (.box (xs.flatten.map .d)):=by rw[zab,if_neg (Ne.symm hne),zab,if_pos rfl]
 have t1:tokf ((b,some (Res.box cs'))::(id,some (.box (xs.flatten.map .d)))::hp) b=none:=by unfold tokf;rw[g1]
 have t2:tokf ((b,some (Res.box cs'))::(id,some (.box (xs.flatten.map .d)))::hp) id=none:=by unfold tokf;rw[g2]
 have hturn:Turn c G ⟨env,hp⟩ w G ((b,some (.box cs'))::(id,some (.box (xs.flatten.map .d)))::hp) [b,id]:=by
  refine⟨fun i hi=>?_,fun _ _=>rfl,fun _ _=>rfl,fun _ _ h=>h,hr.top,fun i hi=> .inr ⟨.inl rfl, ?_⟩,fun i hi _ x hx=>?_,fun i hi j hj hij _ _ x hx=>?_,fun i hi l hl=>?_⟩
  ·simp only[List.mem_cons,List.not_mem_nil,or_false,not_or] at hi
   rw[zab,if_neg hi.1,zab,if_neg hi.2]
  ·simp only[List.mem_cons,List.not_mem_nil,or_false] at hi
   rcases hi with rfl|rfl
   ·intro p hp;rw[t1] at hp;cases hp
   ·intro p hp;rw[t2] at hp;cases hp
  ·simp only[List.mem_cons,List.not_mem_nil,or_false] at hi
   rcases hi with rfl|rfl
   ·exact⟨i,by simp,s1,hx⟩
   ·exact⟨i,by simp,s2,hx⟩
  ·simp only[List.mem_cons,List.not_mem_nil,or_false] at hi hj
   rcases hi with rfl|rfl<;>rcases hj with rfl|rfl
   ·exact absurd rfl hij
   ·exact hr.disj _ _ s1 s2 hij x hx
   ·exact hr.disj _ _ s2 s1 hij x hx
   ·exact absurd rfl hij
  ·simp only[List.mem_cons,List.not_mem_nil,or_false] at hi
   have hk0:=hr.kept i l hl
   rcases hi with rfl|rfl
   ·exact⟨hk0.1,by rw[g1];rfl,t1⟩
   ·have:=hk0.2.2
    rw[show(⟨env,hp⟩:St).hp=hp from rfl,zan.2 ht] at this;cases this
 refine hnx a w ⟨G,hturn.fin hr (fun i hi r hri=>?_)⟩
 simp only[List.mem_cons,List.not_mem_nil,or_false] at hi
 rcases hi with rfl|rfl
 ·rw[g1] at hri
  cases hri
  refine⟨bl,vs,e,e1,e2,by omega,e4,fun j hj hjv=>?_⟩
  have h8:=p3 j
  rw[List.getElem?_eq_getElem hj] at h8
  by_cases hjo:j=off
  ·subst hjo
   rw[if_pos (by simp)] at h8
   simp only[Nat.sub_self,List.getElem?_cons_zero,Option.some.injEq] at h8
   rw[h8,h2]
   exact .ms (by rw[h1];rfl) t2 h6
  ·rw[if_neg (by simp only[List.length_cons,List.length_nil];omega)] at h8
   have hjc:j<cs.length:=by omega
   rw[List.getElem?_eq_getElem hjc] at h8
   rw[Option.some.inj h8]
   exact hturn.cell hr hb (List.getElem_mem hjc) (e5 j hjc hjv)
 ·rw[g2] at hri
  cases hri
  have hfl:(xs.flatten.map AV.d).length=xs.length*k:=by rw[List.length_map,zgo hkx]
  refine⟨b1,us,et,h1,h4,by rw[hfl];exact Nat.le_trans (Nat.mul_le_mul_right _ h6) h5,h3,fun j hj hjv=>?_⟩
  rw[hfl] at hj
  obtain⟨d1,d2,d3⟩:=zl6 hj
  have h8:=ziy hkx d1 d2
  rw[d3,List.getElem?_eq_getElem (by rw[hfl];exact hj)] at h8
  rw[Option.some.inj h8]
  have h9:=h7 _ d1 (j % k) (by rw[hkx _ (List.getElem_mem d1)];exact d2)
  rw[d3,zji hjv] at h9
  exact .d h9
end
mutual
theorem Val.ok_sz:∀v:Val,v.size≤1000000000000→v.ok
 | .mk a n ks,h=>by
  have h1:1+Vals.size ks≤1000000000000:=h
  exact⟨by have:=Vals.len_sz ks;omega,Vals.ok_sz ks (by omega)⟩
theorem Vals.ok_sz:∀l:List Val,Vals.size l≤1000000000000→Vals.ok l
 | [],_=>trivial
 |v::r,h=>by
  have h1:v.size+Vals.size r≤1000000000000:=h
  exact⟨Val.ok_sz v (by omega),Vals.ok_sz r (by omega)⟩
theorem Vals.len_sz:∀l:List Val,l.length≤Vals.size l
 | []=>Nat.zero_le _
 |v::r=>by
  have h1:=Vals.len_sz r
  have h2:=Val.size_eq v
  show r.length+1≤v.size+Vals.size r
  omega
end
theorem Val.cs_app (a b:List Val):Val.cs (a++b)=Val.cs a++Val.cs b:=by rw[Val.cs_eq,Val.cs_eq,Val.cs_eq,List.map_append]
theorem cut0 {l:List (List D)}{x:List D}{r:List (List D)}{k:Nat} (h:l=x::r) (hx:x.length=k):cutC (l.flatten.map AV.d) 0 k=some (x.map .d):=by
 subst h
 rw[List.flatten_cons,List.map_append]
 exact ziu (by simpa using hx)
theorem zeB {b:Str} (hb:b.length≤2000):∀(n:Nat){p:Nat}{v v':Val}{q:Nat},mutV b n p v=some (v',q)→v.size+(q-p)≤1000000000→q≤1000000000→
  FnD Tryz.prog 17 [.ref 900 0,.agg [.d (.i v.ctor),.d (.i v.num),.d (zaw v.kids)]] [(900,some (rdB b p))] (.agg [.d (.i v'.ctor),.d (.i v'.num),.d (zaw v'.kids)]) [(900,some (rdB b q))]
 |0,p,v,v',q,h,_,_=>by simp[mutV] at h
 |n+1,p,v,v',q,hm,hsz,hq=>by
  have hpq:=zeJ hm
  have hvs:=Val.size_eq v
  have hkl:=Vals.len_sz v.kids
  have hcl:=Val.cs_len v.kids
  by_cases hn3:zad b p 24=3∧v.kids≠[]
  ·cases hk:v.kids with
   |nil=>exact absurd hk hn3.2
   |cons y r=>
    obtain⟨k1,p1,k2,h1,h2,rfl⟩:=zlI hn3.1 hk hm
    have a1:=zeJ h1
    have a2:=zeJ h2
    have hc3:=hn3.1
    rw[hk] at hvs hkl hcl
    simp only[Vals.size,List.length_cons] at hvs hkl hcl
    have i1:=zeB hb n h1 (by omega) (by omega)
    have i2:=zeB hb n h2 (by omega) (by omega)
    have hcs:Val.cs (y::r)=y.cc::Val.cs r:=by show y.c::Val.cs r=_;rw[Val.c_eq]
    have hrl:(Val.cs (y::r)).length=(Val.cs r).length+1:=by rw[hcs];rfl
    clear hm
    refine bd Tryz.f17 55 [50] [10,12] fun w0 F0 own kept hk=>?_
    refine Walk.box (id:=3003) .none rfl rfl rfl rfl rfl rfl rfl ?_
    refine Walk.alloc (id:=3004) tz29 rfl .none rfl rfl rfl rfl ?_
    refine tv ?_
    refine Walk.sliceEmptyGV 1 sl27 .none rfl rfl ?_
    refine evd [50] [] ?_
    refine Walk.appendV sl27 zz29 .none rfl rfl rfl rfl (zaP rfl (by first|rfl|(simp;done)|(simp;omega))) (by intro x hx;exact Val.cs_rows x hx) (by simp[Val.cs_len];omega) (by simp[Val.cs_len];omega) ?_
    refine Walk.build st29 (ks:=[0,1,2]) (xs:=[_,_,_]) rfl rfl .none rfl rfl rfl ?_
    refine Walk.alloc (id:=3005) tz29 rfl .none rfl rfl rfl rfl ?_
    refine Walk.store ty29 .none rfl rfl rfl rfl rfl rfl (by simp) rfl ?_
    refine dr ?_
    refine Walk.call (cr:=[]) zbW (zaE (p:=p) (n:=24) hb (by omega) (by omega)) rfl .none rfl rfl (LeL.refl _) ⟨rfl,trivial⟩ rfl rfl rfl ?_
    refine tv ?_
    refine sq (fun h1 h1p h1s=>?_) fun h1 h1p h1s=>?_
    ·try simp only[Q,Val.cs_len] at h1p
     exfalso;omega
    ·try simp only[Q,Val.cs_len] at h1p
     refine sq (fun h2 h2p h2s=>?_) fun h2 h2p h2s=>?_
     ·try simp only[Q,Val.cs_len] at h2p
      exfalso;omega
     ·try simp only[Q,Val.cs_len] at h2p
      refine sq (fun h3 h3p h3s=>?_) fun h3 h3p h3s=>?_
      ·try simp only[Q,Val.cs_len] at h3p
       exfalso;omega
      ·try simp only[Q,Val.cs_len] at h3p
       refine sq (fun h4 h4p h4s=>?_) fun h4 h4p h4s=>?_
       ·try simp only[Q,Val.cs_len] at h4p
        refine CWp.fixVB 3005 2 1 3 rfl rfl rfl rfl (by first|rfl|(simp;done)) (by rw[hcs];simp) ?_
        refine evc [50] [] ?_
        refine sq (fun h5 h5p h5s=>?_) fun h5 h5p h5s=>?_
        ·try simp only[Q,Val.cs_len] at h5p
         refine Walk.idxM (i:=0) sl27 .none rfl rfl rfl rfl (by simp;omega) ?_
         refine Walk.loadBA ty29 .none rfl rfl rfl ((cut0 hcs rfl)) ?_
         refine Walk.call (cr:=[]) zov (i1) rfl .none rfl rfl (LeL.refl _) ⟨rfl,trivial⟩ rfl rfl rfl ?_
         refine Walk.call (cr:=[]) zov (i2) rfl .none rfl rfl (LeL.refl _) ⟨rfl,trivial⟩ rfl rfl rfl ?_
         refine Walk.idxM (i:=0) sl27 .none rfl rfl rfl rfl (by simp;omega) ?_
         refine Walk.store ty29 .none rfl rfl rfl rfl rfl rfl (by simp) ((put0 hcs rfl)) ?_
         refine dr ?_
         refine CWp.frzC hk 3005 2 1 _ 3 rfl rfl rfl rfl rfl (by rw[List.nil_append,hrl];exact zkD rfl rfl (fun x hx=>Val.cs_rows x hx)) rfl ?_
         refine evc [50] [] ?_
         refine Walk.store ty29 .none rfl rfl rfl rfl rfl rfl (by simp) rfl ?_
         refine tv ?_
         refine rn [(900,some (rdB b q))] (.cons (.cellA ty29 rfl rfl rfl) .nil) (.agg (.cons (.eqd ?_) (.cons (.eqd ?_) (.cons (.eqd ?_) .nil)))) ⟨rfl,rfl⟩ (SubO.get ⟨.inr (by rfl),⟨.inl rfl,trivial⟩⟩) (zaq rfl)
         all_goals (first|rfl|(show D.sl _=D.sl (Val.cs (k2::r));rw[show Val.cs (k2::r)=k2.cc::Val.cs r by show k2.c::Val.cs r=_;rw[Val.c_eq]]))
        ·try simp only[Q,Val.cs_len] at h5p
         exfalso;rw[List.nil_append,hrl] at h5p;omega
       ·try simp only[Q,Val.cs_len] at h4p
        exfalso;omega
  ·simp only[mutV] at hm
   refine bd Tryz.f17 55 [] [] fun w0 F0 own kept hk=>?_
   refine Walk.box (id:=3003) .none rfl rfl rfl rfl rfl rfl rfl ?_
   refine Walk.alloc (id:=3004) tz29 rfl .none rfl rfl rfl rfl ?_
   refine tv ?_
   refine Walk.sliceEmptyG 1 sl27 .none rfl rfl ?_
   refine evd [] [] ?_
   refine Walk.append sl27 zz29 rfl .none rfl rfl rfl rfl (zaP rfl (by first|rfl|(simp;done)|(simp;omega))) (by first|(intro x hx;exact Val.cs_rows x hx)|(intro x hx;simp only[List.mem_singleton] at hx;subst hx;rfl)) (by simp[Val.cs_len];omega) (by simp[Val.cs_len];omega) ?_
   refine Walk.build st29 (ks:=[0,1,2]) (xs:=[_,_,_]) rfl rfl .none rfl rfl rfl ?_
   refine Walk.alloc (id:=3005) tz29 rfl .none rfl rfl rfl rfl ?_
   refine Walk.store ty29 .none rfl rfl rfl rfl rfl rfl (by simp) rfl ?_
   refine dr ?_
   refine Walk.call (cr:=[]) zbW (zaE (p:=p) (n:=24) hb (by omega) (by omega)) rfl .none rfl rfl (LeL.refl _) ⟨rfl,trivial⟩ rfl rfl rfl ?_
   refine tv ?_
   refine sq (fun h1 h1p h1s=>?_) fun h1 h1p h1s=>?_
   ·try simp only[Q,Val.cs_len] at h1p
    rw[if_pos (by omega)] at hm;simp only[Option.some.injEq,Prod.mk.injEq] at hm;obtain⟨hv',hq'⟩:=hm
    refine Walk.sliceLit sl75 tz3 rfl (by decide) (ks:=[0,1,2,3,4]) (xs:=[_,_,_,_,_]) rfl rfl (by decide) (by decide) .none rfl rfl rfl rfl ?_
    refine Walk.call (cr:=[]) zdJ (zbo (p:=p+1) (l:=[0,1,-1,9,-2]) hb (by omega) (by simp) (by simp)) rfl .none rfl rfl (LeL.refl _) ⟨rfl,trivial⟩ rfl rfl rfl ?_
    refine ev ?_
    refine Walk.store ty3 .none rfl rfl rfl rfl rfl rfl (by simp) rfl ?_
    refine tv ?_
    refine Walk.store ty29 .none rfl rfl rfl rfl rfl rfl (by simp) rfl ?_
    refine tv ?_
    refine rn [(900,some (rdB b q))] (.cons (.cellA ty29 rfl rfl rfl) .nil) (.agg (.cons (.eqd ?_) (.cons (.eqd ?_) (.cons (.gld ?_) .nil)))) ⟨rfl,rfl⟩ (SubO.get ⟨.inr (by subst hq';rfl),⟨.inl rfl,trivial⟩⟩) (zaq rfl)
    all_goals (subst hv';first|rfl|(show D.sl _=D.sl (Val.cs (v.kids++[.mk (-1) 0 []]));rw[Val.cs_app];rfl)|(show _=Val.cs (v.kids++[.mk (-1) 0 []]);rw[Val.cs_app];rfl)|(rw[hk0];rfl))
   ·try simp only[Q,Val.cs_len] at h1p
    refine sq (fun h2 h2p h2s=>?_) fun h2 h2p h2s=>?_
    ·try simp only[Q,Val.cs_len] at h2p
     rw[if_neg (by omega),if_pos (by omega)] at hm;simp only[Option.some.injEq,Prod.mk.injEq] at hm;obtain⟨hv',hq'⟩:=hm
     refine Walk.sliceLit sl75 tz3 rfl (by decide) (ks:=[0,1,2]) (xs:=[_,_,_]) rfl rfl (by decide) (by decide) .none rfl rfl rfl rfl ?_
     refine Walk.call (cr:=[]) zdJ (zbo (p:=p+1) (l:=[10,-1,1]) hb (by omega) (by simp) (by simp)) rfl .none rfl rfl (LeL.refl _) ⟨rfl,trivial⟩ rfl rfl rfl ?_
     refine ev ?_
     refine Walk.store ty3 .none rfl rfl rfl rfl rfl rfl (by simp) rfl ?_
     refine tv ?_
     refine Walk.store ty29 .none rfl rfl rfl rfl rfl rfl (by simp) rfl ?_
     refine tv ?_
     refine rn [(900,some (rdB b q))] (.cons (.cellA ty29 rfl rfl rfl) .nil) (.agg (.cons (.eqd ?_) (.cons (.eqd ?_) (.cons (.gld ?_) .nil)))) ⟨rfl,rfl⟩ (SubO.get ⟨.inr (by subst hq';rfl),⟨.inl rfl,trivial⟩⟩) (zaq rfl)
     all_goals (subst hv';first|rfl|(show D.sl _=D.sl (Val.cs (v.kids++[.mk (-1) 0 []]));rw[Val.cs_app];rfl)|(show _=Val.cs (v.kids++[.mk (-1) 0 []]);rw[Val.cs_app];rfl)|(rw[hk0];rfl))
    ·try simp only[Q,Val.cs_len] at h2p
     refine sq (fun h3 h3p h3s=>?_) fun h3 h3p h3s=>?_
     ·try simp only[Q,Val.cs_len] at h3p
      rw[if_neg (by omega),if_neg (by omega),if_pos (by omega)] at hm;simp only[Option.some.injEq,Prod.mk.injEq] at hm;obtain⟨hv',hq'⟩:=hm
      refine Walk.build st29 (ks:=[0]) (xs:=[_]) rfl rfl .none rfl rfl rfl ?_
      refine Walk.sliceLit sl27 tz29 rfl (by decide) (ks:=[0]) (xs:=[_]) rfl rfl (by decide) (by decide) .none rfl rfl rfl rfl ?_
      refine Walk.append sl27 zz29 rfl .none rfl rfl rfl rfl (zaP rfl (by first|rfl|(simp;done)|(simp;omega))) (by first|(intro x hx;exact Val.cs_rows x hx)|(intro x hx;simp only[List.mem_singleton] at hx;subst hx;rfl)) (by simp[Val.cs_len];omega) (by simp[Val.cs_len];omega) ?_
      refine ev ?_
      refine Walk.store ty27 .none rfl rfl rfl rfl rfl rfl (by simp) rfl ?_
      refine tv ?_
      refine Walk.store ty29 .none rfl rfl rfl rfl rfl rfl (by simp) rfl ?_
      refine tv ?_
      refine rn [(900,some (rdB b q))] (.cons (.cellA ty29 rfl rfl rfl) .nil) (.agg (.cons (.eqd ?_) (.cons (.eqd ?_) (.cons (.gld ?_) .nil)))) ⟨rfl,rfl⟩ (SubO.get ⟨.inr (by subst hq';rfl),⟨.inl rfl,trivial⟩⟩) (zaq rfl)
      all_goals (subst hv';first|rfl|(show D.sl _=D.sl (Val.cs (v.kids++[.mk (-1) 0 []]));rw[Val.cs_app];rfl)|(show _=Val.cs (v.kids++[.mk (-1) 0 []]);rw[Val.cs_app];rfl)|(rw[hk0];rfl))
     ·try simp only[Q,Val.cs_len] at h3p
      refine sq (fun h4 h4p h4s=>?_) fun h4 h4p h4s=>?_
      ·try simp only[Q,Val.cs_len] at h4p
       refine sq (fun h5 h5p h5s=>?_) fun h5 h5p h5s=>?_
       ·try simp only[Q,Val.cs_len] at h5p
        exfalso;apply hn3;refine⟨by omega,fun hh=>?_⟩;rw[hh] at h5p;exact absurd h5p (by decide)
       ·try simp only[Q,Val.cs_len] at h5p
        have hk0:v.kids=[]:=by cases hk:v.kids with|nil=>rfl|cons y r=>exact absurd ⟨by omega,by rw[hk];simp⟩ hn3
        rw[if_neg (by omega),if_neg (by omega),if_neg (by omega),if_pos (by omega),hk0] at hm;simp only[Option.some.injEq,Prod.mk.injEq] at hm;obtain⟨hv',hq'⟩:=hm
        refine Walk.store ty29 .none rfl rfl rfl rfl rfl rfl (by simp) rfl ?_
        refine tv ?_
        refine rn [(900,some (rdB b q))] (.cons (.cellA ty29 rfl rfl rfl) .nil) (.agg (.cons (.eqd ?_) (.cons (.eqd ?_) (.cons (.gld ?_) .nil)))) ⟨rfl,rfl⟩ (SubO.get ⟨.inr (by subst hq';rfl),⟨.inl rfl,trivial⟩⟩) (zaq rfl)
        all_goals (subst hv';first|rfl|(show D.sl _=D.sl (Val.cs (v.kids++[.mk (-1) 0 []]));rw[Val.cs_app];rfl)|(show _=Val.cs (v.kids++[.mk (-1) 0 []]);rw[Val.cs_app];rfl)|(rw[hk0];rfl))
      ·try simp only[Q,Val.cs_len] at h4p
       rw[if_neg (by omega),if_neg (by omega),if_neg (by omega),if_neg (by omega)] at hm;simp only[Option.some.injEq,Prod.mk.injEq] at hm;obtain⟨hv',hq'⟩:=hm
       refine Walk.store ty29 .none rfl rfl rfl rfl rfl rfl (by simp) rfl ?_
       refine tv ?_
       refine rn [(900,some (rdB b q))] (.cons (.cellA ty29 rfl rfl rfl) .nil) (.agg (.cons (.eqd ?_) (.cons (.eqd ?_) (.cons (.gld ?_) .nil)))) ⟨rfl,rfl⟩ (SubO.get ⟨.inr (by subst hq';rfl),⟨.inl rfl,trivial⟩⟩) (zaq rfl)
       all_goals (subst hv';first|rfl|(show D.sl _=D.sl (Val.cs (v.kids++[.mk (-1) 0 []]));rw[Val.cs_app];rfl)|(show _=Val.cs (v.kids++[.mk (-1) 0 []]);rw[Val.cs_app];rfl)|(rw[hk0];rfl))
structure MutOf (b:Str) (p:Nat) (v v':Val) (q:Nat):Prop where
 some_:∃n,mutV b n p v=some (v',q)
 q:q≤3010000
theorem znr {b:Str} (hb:b.length≤2000){p:Nat} (hp:p≤4000) (v:Val):∃v' q,MutOf b p v v' q:=by
 obtain⟨n,v',q,h1,h2⟩:=zpx hb hp v
 exact⟨v',q,⟨n,h1⟩,h2⟩
theorem MutOf.size {b:Str}{p:Nat}{v v':Val}{q:Nat} (h:MutOf b p v v' q):v'.size≤v.size+3010000:=by
 obtain⟨n,hn⟩:=h.some_
 have:=zeJ hn
 have:=h.q
 omega
theorem zkl {b:Str} (hb:b.length≤2000){p:Nat}{v v':Val}{q:Nat} (h:MutOf b p v v' q) (hs:v.size≤1000000):
  FnD Tryz.prog 17 [.ref 900 0,.agg [.d (.i v.ctor),.d (.i v.num),.d (zaw v.kids)]] [(900,some (rdB b p))] (.agg [.d (.i v'.ctor),.d (.i v'.num),.d (zaw v'.kids)]) [(900,some (rdB b q))]:=by
 obtain⟨n,hn⟩:=h.some_
 have:=h.q
 exact zeB hb n hn (by omega) (by omega)
def g0:Gd:=⟨0,0,0⟩
def zb1 (b:Str) (x:Vt) (g:Gd) (q:Nat):Gd×Nat:=if x.ty.data = -1 then (if zad b q 2=0 then (⟨1+zad b (q+1) 2,x.var,zad b (q+2) 10⟩,q+3) else (g,q+1)) else (g,q)
def gdL (b:Str):List Vt→Gd→Nat→Gd×Nat
 | [],g,q=>(g,q)
 |x::r,g,q=>gdL b r (zb1 b x g q).1 (zb1 b x g q).2
theorem zdQ {b:Str}{x:Vt}{g:Gd}{q:Nat} (h:x.ty.data = -1) (h2:zad b q 2=0):zb1 b x g q=(⟨1+zad b (q+1) 2,x.var,zad b (q+2) 10⟩,q+3):=by unfold zb1;rw[if_pos h,if_pos h2]
theorem zdR {b:Str}{x:Vt}{g:Gd}{q:Nat} (h:x.ty.data = -1) (h2:¬zad b q 2=0):zb1 b x g q=(g,q+1):=by unfold zb1;rw[if_pos h,if_neg h2]
theorem zdS {b:Str}{x:Vt}{g:Gd}{q:Nat} (h:¬x.ty.data = -1):zb1 b x g q=(g,q):=by unfold zb1;rw[if_neg h]
theorem zgG (b:Str) (x:Vt) (g:Gd) (q:Nat):q≤(zb1 b x g q).2∧(zb1 b x g q).2≤q+3:=by unfold zb1;split;split;all_goals (dsimp only;omega)
theorem zng (b:Str):∀(l:List Vt) (g:Gd) (q:Nat),(gdL b l g q).2≤q+3*l.length
 | [],g,q=>by simp[gdL]
 |x::r,g,q=>by
  unfold gdL
  have h1:=zgG b x g q
  have h2:=zng b r (zb1 b x g q).1 (zb1 b x g q).2
  simp only[List.length_cons];omega
def clD (b:Str) (w:List Data) (t:Ty) (q:Nat):Cl×Nat:=
 (⟨zbx b w t q,(gdL b (zd3 w t (zbx b w t q)) g0 (zch b w t q).2.2).1⟩,(gdL b (zd3 w t (zbx b w t q)) g0 (zch b w t q).2.2).2)
theorem zre {w:List Data}{t:Ty}:isP w t anyP=true:=by
 have e:zaa w t anyP=[]:=by unfold zaa;rw[if_neg (by decide),if_neg (by decide),if_neg (by decide)]
 have ho:ownP w t anyP=true:=by simp[ownP,anyP,Pat.op,Pat.n,Pat.m,Pat.var,Pat.ctor]
 have h:zap w 10 t anyP=true:=by
  show(ownP w t anyP&&all2 _ (zaa w t anyP) anyP.kids)=true
  rw[e,ho];rfl
 have h2:anyP.size=1:=zff.1
 have h3:linP w 10 t anyP=true:=by
  unfold linP;rw[e];rfl
 unfold isP;rw[h,h3,h2];rfl
theorem zn6 (b:Str) (w:List Data) (t:Ty) (q:Nat):isP w t (zbx b w t q)=true:=by
 unfold zbx
 split
 ·assumption
 ·exact zre
theorem zpa {b:Str}{w:List Data} (hf:Few w){t:Ty} (ht:TyIn w.length t) (q:Nat):(clD b w t q).2≤q+518∧(clD b w t q).1.pat.size≤242∧(clD b w t q).1.pat.ok:=by
 have h1:=zgL (b:=b) hf ht q
 have h2:=zk6 (b:=b) hf ht q
 have h3:=zh6 w t (zbx b w t q)
 have h4:=zng b (zd3 w t (zbx b w t q)) g0 (zch b w t q).2.2
 exact⟨by unfold clD;dsimp only;omega,h2⟩
theorem zkm {b:Str}{w:List Data} (hb:b.length≤2000) (hw:WT w) (hf:Few w){a k:Int}{p:Nat} (hp:p≤100000) (ht:TyIn w.length ⟨a,k⟩):
  FnD Tryz.prog 61 [.ref 900 0,.d (zag w),.agg [.d (.i a),.d (.i k)]] [(900,some (rdB b p))]
   (.agg [.d (.i (clD b w ⟨a,k⟩ p).1.pat.op),.d (.i (clD b w ⟨a,k⟩ p).1.pat.ctor),.d (.i (clD b w ⟨a,k⟩ p).1.pat.n),.d (.i (clD b w ⟨a,k⟩ p).1.pat.m),.d (.i (clD b w ⟨a,k⟩ p).1.pat.var),.d (zaH (clD b w ⟨a,k⟩ p).1.pat.kids),.d (.i (clD b w ⟨a,k⟩ p).1.g.op),.d (.i (clD b w ⟨a,k⟩ p).1.g.var),.d (.i (clD b w ⟨a,k⟩ p).1.g.n)])
   [(900,some (rdB b (clD b w ⟨a,k⟩ p).2))]:=by
 have h1:=zgL (b:=b) hf ht p
 have h2:=zk6 (b:=b) hf ht p
 have h3:=zh6 w ⟨a,k⟩ (zbx b w ⟨a,k⟩ p)
 have hip:=zn6 b w ⟨a,k⟩ p
 have hsh:zap w 10 ⟨a,k⟩ (zbx b w ⟨a,k⟩ p)=true:=by unfold isP at hip;simp only[Bool.and_eq_true] at hip;exact hip.1
 have hva:=zcY hw hsh (by omega) ht h2.2 (by omega)
 rw[←zmx hip] at hva
 have hso:=zlX hb hw hf hp ht
 have hgb:=zng b
 have hpb:=fun q=>zco (b:=b) (p:=q) (n:=2) (by omega)
 unfold clD
 dsimp only
 generalize zbx b w ⟨a,k⟩ p=pt at *
 generalize zd3 w ⟨a,k⟩ pt=L at *
 generalize (zch b w ⟨a,k⟩ p).2.2=q0 at *
 refine bd Tryz.f61 51 [] [] fun w0 F0 own kept hk=>?_
 refine Walk.box (id:=3005) .none rfl rfl rfl rfl rfl rfl rfl ?_
 refine Walk.alloc (id:=3006) tz41 rfl .none rfl rfl rfl rfl ?_
 refine tv ?_
 refine Walk.call (cr:=[]) zsL (hso) rfl .none rfl rfl (LeL.refl _) ⟨rfl,trivial⟩ rfl rfl rfl ?_
 refine Walk.build st41 (ks:=[0]) (xs:=[_]) rfl rfl .none rfl rfl rfl ?_
 refine Walk.alloc (id:=3007) tz41 rfl .none rfl rfl rfl rfl ?_
 refine Walk.store ty41 .none rfl rfl rfl rfl rfl rfl (by simp) rfl ?_
 refine tv ?_
 refine Walk.call (cr:=[]) zhy (hva) rfl .none rfl rfl (LeL.refl _) trivial rfl rfl rfl ?_
 refine ev ?_
 refine CWp.loopX (ι:=List (Vt)×List (Vt)×(Nat)×(Gd)) hk (fun x=>[(9,.d (.i (x.1.length:Int)))]) [20,21,22,23,24,25,26,27,28,29,30,31,32,33,34,35,36,37,38,39,40,41,42,43,44,45,46,47,48,49] (fun x=>[(900,some (.box [.d (zaQ b),.d (.i (x.2.2.1:Int))])),(3007,some (.box [.d (.i pt.op),.d (.i pt.ctor),.d (.i pt.n),.d (.i pt.m),.d (.i pt.var),.d (zaH pt.kids),.d (.i x.2.2.2.op),.d (.i x.2.2.2.var),.d (.i x.2.2.2.n)]))]) (fun x=>x.1++x.2.1=L∧x.2.2.1≤q0+3*x.1.length∧gdL b x.2.1 x.2.2.2 x.2.2.1=gdL b L g0 q0) (fun x=>x.2.1.length) ([],L,q0,g0) ⟨by simp,by simp,rfl⟩ ⟨⟨_,rfl,(LeA.eqi (by first|rfl|(simp;done)|omega))⟩,trivial⟩ ⟨(by first|rfl|(rw[zdQ (by omega) (by omega)];all_goals rfl)|(rw[zdR (by omega) (by omega)];all_goals rfl)|(rw[zdS (by omega)];all_goals rfl)),⟨(by first|rfl|(rw[zdQ (by omega) (by omega)];all_goals rfl)|(rw[zdR (by omega) (by omega)];all_goals rfl)|(rw[zdS (by omega)];all_goals rfl)),trivial⟩⟩ (fun x=>rfl) (fun x hg1=>?_)
 obtain⟨pre,rest,q,g⟩:=x
 dsimp only at hg1 ⊢
 refine evc [] [] ?_
 refine sq (fun h1 h1p h1s=>?_) fun h1 h1p h1s=>?_
 ·try simp only[Q] at h1p
  rcases rest with _|⟨y,rest⟩
  ·exfalso;simp_all
  have hpl:pre.length≤6:=(by have hz:=congrArg List.length hg1.1;simp at hz;omega)
  refine Walk.idx sl86 .none rfl rfl rfl rfl (zaL hg1.1) rfl ?_
  refine ev ?_
  refine sq (fun h2 h2p h2s=>?_) fun h2 h2p h2s=>?_
  ·try simp only[Q] at h2p
   refine Walk.call (cr:=[]) zbW (zaE (p:=q) (n:=2) hb (by omega) (by omega)) rfl (.some rfl rfl h2) rfl rfl (LeL.refl _) ⟨rfl,trivial⟩ rfl rfl rfl ?_
   refine evs [] [(33,true)] ?_ ⟨⟨_,rfl,h2⟩,trivial⟩
   refine sq (fun h3 h3p h3s=>?_) fun h3 h3p h3s=>?_
   ·try simp only[Q] at h3p
    refine Walk.call (cr:=[]) zbW (zaE (p:=q+1) (n:=2) hb (by omega) (by omega)) rfl .none rfl rfl (LeL.refl _) ⟨rfl,trivial⟩ rfl rfl rfl ?_
    refine evd [] [] ?_
    refine ar ?_ (by have:=hpb (q+1);constructor<;>omega)
    refine Walk.idx sl86 .none rfl rfl rfl rfl (zaL hg1.1) rfl ?_
    refine evd [] [] ?_
    refine Walk.call (cr:=[]) zbW (zaE (p:=q+2) (n:=10) hb (by omega) (by omega)) rfl .none rfl rfl (LeL.refl _) ⟨rfl,trivial⟩ rfl rfl rfl ?_
    refine Walk.build st39 (ks:=[0,1,2]) (xs:=[_,_,_]) rfl rfl .none rfl rfl rfl ?_
    refine evd [] [] ?_
    refine Walk.store ty39 .none rfl rfl rfl rfl rfl rfl (by simp) rfl ?_
    refine dr ?_
    refine ar ?_ (by have:=hpb (q+1);constructor<;>omega)
    refine Exists.intro ((pre++[y],rest,(zb1 b y g q).2,(zb1 b y g q).1)) ⟨⟨(by have hz:=hg1.1;rw[←hz];simp),⟨(by have:=zgG b y g q;simp only[List.length_append,List.length_cons,List.length_nil];omega),(by rw[←hg1.2.2];simp[gdL])⟩⟩,(by simp),Sub.x (by kernel_rfl) (by kernel_rfl) ⟨⟨_,rfl,(LeA.eqi (by first|rfl|(simp;done)|omega))⟩,trivial⟩ (by kernel_rfl) (by kernel_rfl) ⟨(by first|rfl|(rw[zdQ (by omega) (by omega)];all_goals rfl)|(rw[zdR (by omega) (by omega)];all_goals rfl)|(rw[zdS (by omega)];all_goals rfl)),⟨(by first|rfl|(rw[zdQ (by omega) (by omega)];all_goals rfl)|(rw[zdR (by omega) (by omega)];all_goals rfl)|(rw[zdS (by omega)];all_goals rfl)),trivial⟩⟩⟩
   ·try simp only[Q] at h3p
    refine ar ?_ (by have:=hpb (q+1);constructor<;>omega)
    refine Exists.intro ((pre++[y],rest,(zb1 b y g q).2,(zb1 b y g q).1)) ⟨⟨(by have hz:=hg1.1;rw[←hz];simp),⟨(by have:=zgG b y g q;simp only[List.length_append,List.length_cons,List.length_nil];omega),(by rw[←hg1.2.2];simp[gdL])⟩⟩,(by simp),Sub.x (by kernel_rfl) (by kernel_rfl) ⟨⟨_,rfl,(LeA.eqi (by first|rfl|(simp;done)|omega))⟩,trivial⟩ (by kernel_rfl) (by kernel_rfl) ⟨(by first|rfl|(rw[zdQ (by omega) (by omega)];all_goals rfl)|(rw[zdR (by omega) (by omega)];all_goals rfl)|(rw[zdS (by omega)];all_goals rfl)),⟨(by first|rfl|(rw[zdQ (by omega) (by omega)];all_goals rfl)|(rw[zdR (by omega) (by omega)];all_goals rfl)|(rw[zdS (by omega)];all_goals rfl)),trivial⟩⟩⟩
  ·try simp only[Q] at h2p
   refine sqF ?_
   refine ar ?_ (by have:=hpb (q+1);constructor<;>omega)
   refine Exists.intro ((pre++[y],rest,(zb1 b y g q).2,(zb1 b y g q).1)) ⟨⟨(by have hz:=hg1.1;rw[←hz];simp),⟨(by have:=zgG b y g q;simp only[List.length_append,List.length_cons,List.length_nil];omega),(by rw[←hg1.2.2];simp[gdL])⟩⟩,(by simp),Sub.x (by kernel_rfl) (by kernel_rfl) ⟨⟨_,rfl,(LeA.eqi (by first|rfl|(simp;done)|omega))⟩,trivial⟩ (by kernel_rfl) (by kernel_rfl) ⟨(by first|rfl|(rw[zdQ (by omega) (by omega)];all_goals rfl)|(rw[zdR (by omega) (by omega)];all_goals rfl)|(rw[zdS (by omega)];all_goals rfl)),⟨(by first|rfl|(rw[zdQ (by omega) (by omega)];all_goals rfl)|(rw[zdR (by omega) (by omega)];all_goals rfl)|(rw[zdS (by omega)];all_goals rfl)),trivial⟩⟩⟩
 ·try simp only[Q] at h1p
  have hrest:rest=[]:=by
   rcases rest with _|⟨a,b⟩
   ·rfl
   ·exfalso;have hz:=congrArg List.length (hg1.1);simp only[List.length_append,List.length_cons,List.length_map] at hz;omega
  subst hrest
  refine Walk.store ty41 .none rfl rfl rfl rfl rfl rfl (by simp) rfl ?_
  refine tv ?_
  refine rn [(900,some (rdB b (gdL b L g0 q0).2))] (.cons (.cellA ty41 rfl rfl rfl) .nil) (.agg (.cons (.eqd ?_) (.cons (.eqd ?_) (.cons (.eqd ?_) (.cons (.eqd ?_) (.cons (.eqd ?_) (.cons (.eqd ?_) (.cons (.eqd ?_) (.cons (.eqd ?_) (.cons (.eqd ?_) .nil)))))))))) ⟨rfl,rfl⟩ (SubO.get ⟨.inr (by first|(rw[←hg1.2.2,gdL];all_goals rfl)|rfl),⟨.inl rfl,trivial⟩⟩) (zaq rfl)
  all_goals (first|rfl|(rw[←hg1.2.2,gdL];all_goals rfl))
def clL (b:Str) (w:List Data) (t:Ty):Nat→Nat→List Cl×Nat
 |0,q=>([],q)
 |n+1,q=>((clD b w t q).1::(clL b w t n (clD b w t q).2).1,(clL b w t n (clD b w t q).2).2)
def CSm (l:List Cl):Prop:=∀c∈l,c.pat.size≤400∧c.pat.ok
theorem zpb {b:Str}{w:List Data} (hf:Few w){t:Ty} (ht:TyIn w.length t):∀(n q:Nat),(clL b w t n q).2≤q+518*n∧(clL b w t n q).1.length=n∧CSm (clL b w t n q).1
 |0,q=>⟨by simp[clL],rfl,fun c hc=>by simp[clL] at hc⟩
 |n+1,q=>by
  have h1:=zpa (b:=b) hf ht q
  have h2:=zpb (b:=b) hf ht n (clD b w t q).2
  unfold clL
  refine⟨by dsimp only;omega,by simp[h2.2.1],fun c hc=>?_⟩
  rcases List.mem_cons.1 hc with rfl|hc
  ·exact⟨by omega,h1.2.2⟩
  ·exact h2.2.2 c hc
theorem num6 (b:Str) (p:Nat):0≤numV b p [3,2,4,5,1,0]∧numV b p [3,2,4,5,1,0]≤5:=by
 have:=zkg (b:=b) (p:=p) (l:=[3,2,4,5,1,0]) (by simp)
 simp only[List.mem_cons,List.not_mem_nil,or_false] at this
 omega
def clS (b:Str) (w:List Data) (t:Ty) (q:Nat):List Cl×Nat:=clL b w t (numV b q [3,2,4,5,1,0]).toNat (q+1)
theorem zrS {b:Str}{w:List Data} (hf:Few w){t:Ty} (ht:TyIn w.length t) (q:Nat):(clS b w t q).2≤q+2591∧(clS b w t q).1.length≤5∧CSm (clS b w t q).1:=by
 have h:=zpb (b:=b) hf ht (numV b q [3,2,4,5,1,0]).toNat (q+1)
 have h2:=num6 b q
 unfold clS
 exact⟨by omega,by omega,h.2.2⟩
theorem zlZ {b:Str}{w:List Data} (hb:b.length≤2000) (hw:WT w) (hf:Few w){a k:Int}{p:Nat} (hp:p≤90000) (ht:TyIn w.length ⟨a,k⟩):
  FnD Tryz.prog 33 [.ref 900 0,.d (zag w),.agg [.d (.i a),.d (.i k)]] [(900,some (rdB b p))] (.d (zbc (clS b w ⟨a,k⟩ p).1)) [(900,some (rdB b (clS b w ⟨a,k⟩ p).2))]:=by
 have h6:=num6 b p
 have hnu:=zbo (b:=b) (p:=p) (l:=[3,2,4,5,1,0]) hb (by omega) (by simp) (by simp)
 have hok:=fun q=>zpa (b:=b) hf ht q
 unfold clS
 obtain⟨n0,hn0⟩:∃n:Nat,numV b p [3,2,4,5,1,0]=(n:Int):=⟨_,(Int.toNat_of_nonneg h6.1).symm⟩
 rw[hn0] at h6 hnu ⊢
 rw[Int.toNat_natCast]
 refine bd Tryz.f33 25 [] [] fun w0 F0 own kept hk=>?_
 refine Walk.box (id:=3005) .none rfl rfl rfl rfl rfl rfl rfl ?_
 refine ev ?_
 refine Walk.sliceEmptyG 1 sl26 .none rfl rfl ?_
 refine ev ?_
 refine Walk.sliceLit sl75 tz3 rfl (by decide) (ks:=[0,1,2,3,4,5]) (xs:=[_,_,_,_,_,_]) rfl rfl (by decide) (by decide) .none rfl rfl rfl rfl ?_
 refine Walk.call (cr:=[]) zdJ (hnu) rfl .none rfl rfl (LeL.refl _) ⟨rfl,trivial⟩ rfl rfl rfl ?_
 refine ev ?_
 refine CWp.loopX (ι:=Nat×List Cl×Nat) hk (fun x=>[(8,.d (.i (x.1:Int))),(7,.gl 1 (x.2.1.map Cl.c))]) [13,14,15,16,17,18,19,20,21,22,23] (fun x=>[(900,some (.box [.d (zaQ b),.d (.i (x.2.2:Int))])),(1,some (.tok ((x.2.1.map Cl.c)).length 9))]) (fun x=>x.1≤n0∧x.2.2+518*x.1≤p+1+518*n0∧x.2.1.length+x.1≤5∧(x.2.1++(clL b w ⟨a,k⟩ x.1 x.2.2).1,(clL b w ⟨a,k⟩ x.1 x.2.2).2)=clL b w ⟨a,k⟩ n0 (p+1)) (fun x=>x.1) (n0,[],p+1) ⟨by simp,by simp,by simp;omega,by simp⟩ ⟨⟨_,rfl,(LeA.eqi (by first|rfl|omega|(simp;done)|(dsimp only;omega)))⟩,⟨⟨_,rfl,(LeA.glg (by first|rfl|omega|(simp;done)|(dsimp only;omega)))⟩,trivial⟩⟩ ⟨(by first|rfl|(simp[getH];done)),⟨zae (by first|rfl|(simp;done)|(simp;omega)|(first|rfl|omega|(simp;done)|(dsimp only;omega))),trivial⟩⟩ (fun x=>rfl) (fun x hg1=>?_)
 refine evc [] [] ?_
 refine sq (fun h1 h1p h1s=>?_) fun h1 h1p h1s=>?_
 ·try simp only[Q,Int.natCast_inj] at h1p
  refine Walk.call (cr:=[]) zsF (zkm (p:=x.2.2) hb hw hf (by omega) ht) rfl .none rfl rfl (LeL.refl _) ⟨rfl,trivial⟩ rfl rfl rfl ?_
  refine Walk.sliceLit sl26 tz41 rfl (by decide) (ks:=[0]) (xs:=[_]) rfl rfl (by decide) (by decide) .none rfl rfl rfl rfl ?_
  refine Walk.append sl26 zz41 rfl .none rfl rfl rfl rfl (zaP rfl (by first|rfl|(simp;done)|(simp;omega))) (by intro y hy;simp at hy;subst hy;rfl) (by simp;omega) (by simp;omega) ?_
  refine ev ?_
  refine ar ?_
  refine Exists.intro ((x.1-1,x.2.1++[(clD b w ⟨a,k⟩ x.2.2).1],(clD b w ⟨a,k⟩ x.2.2).2)) ⟨⟨by dsimp only;omega,by have:=hok x.2.2;dsimp only;omega,by simp;omega,by rw[←hg1.2.2.2];obtain⟨m,hm⟩:∃m,x.1=m+1:=⟨x.1-1,by omega⟩;dsimp only;rw[hm];simp[clL]⟩,(by dsimp only;omega),Sub.x (by kernel_rfl) (by kernel_rfl) ⟨⟨_,rfl,(LeA.eqi (by first|rfl|omega|(simp;done)|(dsimp only;omega)))⟩,⟨⟨_,rfl,(LeA.glg (by first|rfl|omega|(simp;done)|(dsimp only;omega)))⟩,trivial⟩⟩ (by kernel_rfl) (by kernel_rfl) ⟨(by first|rfl|(simp[getH];done)),⟨zae (by first|rfl|(simp;done)|(simp;omega)|(first|rfl|omega|(simp;done)|(dsimp only;omega))),trivial⟩⟩⟩
 ·try simp only[Q,Int.natCast_inj] at h1p
  refine rn [(900,some (rdB b (clL b w ⟨a,k⟩ n0 (p+1)).2))] (r1 rfl) (.gld ?_) ⟨rfl,rfl⟩ (SubO.get ⟨.inr (by first|rfl|(rw[←hg1.2.2.2,show x.1=0 by omega];simp[clL];done)|(rw[←hg1.2.2.2,show x.1=0 by omega,clL];all_goals rfl)),⟨.inl rfl,trivial⟩⟩) (zaq rfl)
  all_goals (first|rfl|(rw[←hg1.2.2.2,show x.1=0 by omega];simp[clL];done)|(rw[←hg1.2.2.2,show x.1=0 by omega,clL];all_goals rfl))
theorem znR (b:Str) (p:Nat):TyIn (zbr b p).length (typT b p):=zj9 (zi9 b p).ins
def rnL (b:Str):List Cl×Nat:=clS b (zbr b 0) (typT b 0) (typV b 0).2
theorem zny (b:Str):(rnL b).2≤2700∧(rnL b).1.length≤5∧CSm (rnL b).1:=by
 have h1:=(zjq b 0).1
 have h2:=zrS (b:=b) (zfc b 0).few (znR b 0) (typV b 0).2
 unfold rnL
 exact⟨by omega,h2.2⟩
theorem zlo {b:Str} (hb:b.length≤2000):
  FnD Tryz.prog 15 [.ref 900 0] [(900,some (rdB b 0))] (.tup [.d (zag (zbr b 0)),.agg [.d (.i (typT b 0).data),.d (.i (typT b 0).index)],.d (zbc (rnL b).1),.agg [.d (.i (typV b 0).1.ctor),.d (.i (typV b 0).1.num),.d (zaw (typV b 0).1.kids)]]) [(900,some (rdB b (rnL b).2))]:=by
 have hl:=zfc b 0
 have hv:=(zjq b 0).1
 have hty:=zlh (p:=0) hb (by omega)
 have hcl:=zlZ (p:=(typV b 0).2) (a:=(typT b 0).data) (k:=(typT b 0).index) hb hl.dp.wt hl.few (by omega) (znR b 0)
 rw[show clS b (zbr b 0) ⟨(typT b 0).data,(typT b 0).index⟩ (typV b 0).2=rnL b from rfl] at hcl
 generalize rnL b=z at *
 refine bd Tryz.f15 22 [] [] fun w0 F0 own kept hk=>?_
 refine Walk.alloc (id:=3003) tz25 rfl .none rfl rfl rfl rfl ?_
 refine ev ?_
 refine Walk.alloc (id:=3005) tz29 rfl .none rfl rfl rfl rfl ?_
 refine tv ?_
 refine Walk.call (cr:=[]) zsp (hty) rfl .none rfl rfl (LeL.refl _) ⟨rfl,trivial⟩ rfl rfl rfl ?_
 refine ev ?_
 refine Walk.alloc (id:=3007) tz25 rfl .none rfl rfl rfl rfl ?_
 refine Walk.alloc (id:=3008) tz29 rfl .none rfl rfl rfl rfl ?_
 refine ev ?_
 refine Walk.store ty25 .none rfl rfl rfl rfl rfl rfl (by simp) rfl ?_
 refine Walk.store ty29 .none rfl rfl rfl rfl rfl rfl (by simp) rfl ?_
 refine tv ?_
 refine Walk.call (cr:=[]) zsq (hcl) rfl .none rfl rfl (LeL.refl _) ⟨rfl,trivial⟩ rfl rfl rfl ?_
 refine evd [] [] ?_
 refine Walk.store ty25 .none rfl rfl rfl rfl rfl rfl (by simp) rfl ?_
 refine evd [] [] ?_
 refine Walk.store ty29 .none rfl rfl rfl rfl rfl rfl (by simp) rfl ?_
 refine dr ?_
 refine rn [(900,some (rdB b z.2))] (.cons (.tmp rfl) (.cons (.cellA ty25 rfl rfl rfl) (.cons (.tmp rfl) (.cons (.cellA ty29 rfl rfl rfl) .nil)))) (.tup (.cons (.eqd ?_) (.cons (.agg (.cons (.eqd ?_) (.cons (.eqd ?_) .nil))) (.cons (.eqd ?_) (.cons (.agg (.cons (.eqd ?_) (.cons (.eqd ?_) (.cons (.eqd ?_) .nil)))) .nil))))) ⟨rfl,rfl⟩ (SubO.get ⟨.inr (by rfl),⟨.inl rfl,trivial⟩⟩) (zaq rfl)
 all_goals (first|rfl|(simp[];done)|(simp_all;done)|(simp_all;omega)|omega)
def anyC:Cl:=⟨⟨1,0,0,0,0,[]⟩,⟨0,0,0⟩⟩
def mutC (b:Str) (l:List Cl) (q:Nat):List Cl×Nat:=
 if zad b q 24=0 then (match l with
  | []=>([],q+1)
  |y::r=>(⟨y.pat,⟨numV b (q+1) [1,2,3,-1],numV b (q+2) [0,5,9],numV b (q+3) [3,10,-1]⟩⟩::r,q+4))
 else if zad b q 24=1 then (match l with
  | []=>([],q+1)
  |y::r=>(⟨(mutP b (mutP b y.pat (q+1)).1 (mutP b y.pat (q+1)).2).1,y.g⟩::r,(mutP b (mutP b y.pat (q+1)).1 (mutP b y.pat (q+1)).2).2))
 else if zad b q 24=2 then (l++List.replicate (9-l.length) anyC,q+1)
 else (l,q+1)
theorem znq (b:Str) (p:Pat) (q:Nat):(mutP b p q).2≤q+2:=by
 unfold mutP
 repeat' split
 all_goals (dsimp only;omega)
theorem zlH {b:Str}{p:Pat}{q m:Nat} (hs:p.size≤m) (hm:m≤1000) (hok:p.ok):(mutP b p q).1.size≤m+1∧(mutP b p q).1.ok:=by
 have hv:zbs.size=1∧zbs.ok:=⟨by rw[Pat.size_eq];rfl,by rw[Pat.ok_iff];exact⟨by simp[zbs,Pat.kids],trivial⟩⟩
 refine⟨?_,(zrh (by omega) hok).2⟩
 have h0:=Pat.size_eq p
 have same:∀a c n m' v:Int,(Pat.mk a c n m' v p.kids).size≤m+1:=fun a c n m' v=>by
  rw[Pat.size_eq];show 1+Pats.size p.kids≤_;omega
 unfold mutP
 split;exact same _ _ _ _ _
 split;exact same _ _ _ _ _
 split;exact same _ _ _ _ _
 split
 ·dsimp only;rw[Pat.size_eq];show 1+Pats.size (p.kids++[zbs])≤_;rw[Pats.size_snoc];omega
 split
 ·dsimp only;rw[Pat.size_eq];show 1+Pats.size (p.kids.set 0 zbs)≤_
  have:=zlM (x:=zbs) (l:=p.kids) (i:=0);omega
 split;exact same _ _ _ _ _
 exact same _ _ _ _ _
theorem zoi {b:Str}{l:List Cl}{q:Nat} (h:CSm l) (hl:l.length≤5):(mutC b l q).2≤q+5∧(mutC b l q).1.length≤9∧∀c∈(mutC b l q).1,c.pat.size≤4000∧c.pat.ok:=by
 have hs:∀c∈l,c.pat.size≤4000∧c.pat.ok:=fun c hc=>⟨by have:=(h c hc).1;omega,(h c hc).2⟩
 unfold mutC
 split
 ·cases l with
  |nil=>exact⟨by simp,by simp,by simp⟩
  |cons y r=>
   simp only[List.length_cons] at hl
   refine⟨by simp,by simp;omega,fun c hc=>?_⟩
   rcases List.mem_cons.1 hc with rfl|hc
   ·exact hs y (by simp)
   ·exact hs c (by simp[hc])
 split
 ·cases l with
  |nil=>exact⟨by simp,by simp,by simp⟩
  |cons y r=>
   have h1:=h y (by simp)
   have h2:=znq b y.pat (q+1)
   have h3:=znq b (mutP b y.pat (q+1)).1 (mutP b y.pat (q+1)).2
   simp only[List.length_cons] at hl
   refine⟨by dsimp only;omega,by simp;omega,fun c hc=>?_⟩
   rcases List.mem_cons.1 hc with rfl|hc
   ·have h4:=zlH (b:=b) (p:=y.pat) (q:=q+1) (m:=400) h1.1 (by omega) h1.2
    have h5:=zlH (b:=b) (p:=(mutP b y.pat (q+1)).1) (q:=(mutP b y.pat (q+1)).2) (m:=401) h4.1 (by omega) h4.2
    exact⟨by have:=h5.1;dsimp only;omega,h5.2⟩
   ·exact hs c (by simp[hc])
 split
 ·refine⟨by simp,by simp;omega,fun c hc=>?_⟩
  rcases List.mem_append.1 hc with hc|hc
  ·exact hs c hc
  ·rw[List.eq_of_mem_replicate hc]
   have ha:=zff
   exact⟨by show anyP.size≤_;omega,ha.2⟩
 ·exact⟨by simp,by dsimp only;omega,hs⟩
theorem zr1 {b:Str}{y:Cl}{r:List Cl}{q:Nat} (h:zad b q 24=0):mutC b (y::r) q=(⟨y.pat,⟨numV b (q+1) [1,2,3,-1],numV b (q+2) [0,5,9],numV b (q+3) [3,10,-1]⟩⟩::r,q+4):=by unfold mutC;rw[if_pos h]
theorem zr2 {b:Str}{y:Cl}{r:List Cl}{q:Nat} (h:zad b q 24=1):mutC b (y::r) q=(⟨(mutP b (mutP b y.pat (q+1)).1 (mutP b y.pat (q+1)).2).1,y.g⟩::r,(mutP b (mutP b y.pat (q+1)).1 (mutP b y.pat (q+1)).2).2):=by unfold mutC;rw[if_neg (by omega),if_pos h]
theorem zfC {b:Str}{l:List Cl}{q:Nat} (h:zad b q 24=2):mutC b l q=(l++List.replicate (9-l.length) anyC,q+1):=by unfold mutC;rw[if_neg (by omega),if_neg (by omega),if_pos h]
theorem zfD {b:Str}{l:List Cl}{q:Nat} (h0:¬zad b q 24=0) (h1:¬zad b q 24=1) (h2:¬zad b q 24=2):mutC b l q=(l,q+1):=by unfold mutC;rw[if_neg h0,if_neg h1,if_neg h2]
theorem zdY {b:Str}{l:List Cl}{q:Nat} (h0:zad b q 24=0∨zad b q 24=1) (h:l.length=0):mutC b l q=(l,q+1):=by
 obtain rfl:=List.eq_nil_of_length_eq_zero h
 unfold mutC
 rcases h0 with h0|h0
 ·rw[if_pos h0]
 ·rw[if_neg (by omega),if_pos h0]
theorem putG {y:Cl}{r:List Cl}{a b c:AV}:putC (((y::r).map Cl.c).flatten.map AV.d) 6 [a,b,c]=some ([.d (.i y.pat.op),.d (.i y.pat.ctor),.d (.i y.pat.n),.d (.i y.pat.m),.d (.i y.pat.var),.d (.sl (Pat.cs y.pat.kids)),a,b,c]++(r.map Cl.c).flatten.map .d):=by
 simp[putC]
theorem zs3 {y:Cl}{r:List Cl}{a b c d e f:AV}:putC (((y::r).map Cl.c).flatten.map AV.d) 0 [a,b,c,d,e,f]=some ([a,b,c,d,e,f,.d (.i y.g.op),.d (.i y.g.var),.d (.i y.g.n)]++(r.map Cl.c).flatten.map .d):=by
 simp[putC]
theorem zsY {y:Cl}{r:List Cl}:cutC (((y::r).map Cl.c).flatten.map AV.d) 0 6=some [.d (.i y.pat.op),.d (.i y.pat.ctor),.d (.i y.pat.n),.d (.i y.pat.m),.d (.i y.pat.var),.d (.sl (Pat.cs y.pat.kids))]:=by
 simp[cutC]
theorem zdb (l:List Cl):∀x∈l.map Cl.c,x.length=9:=by
 intro x hx;obtain⟨y,_,rfl⟩:=List.mem_map.1 hx;rfl
theorem zhw (l:List Cl) (i:Nat):(l++List.replicate i anyC).map Cl.c++[Cl.c anyC]=(l++List.replicate (i+1) anyC).map Cl.c:=by
 rw[List.replicate_succ',←List.append_assoc,List.map_append (l₁:=l++List.replicate i anyC)];rfl
theorem zgR {b:Str} (hb:b.length≤2000){l:List Cl}{q:Nat} (hq:q≤10000) (hl:l.length≤5) (hc:¬((zad b q 24=0∨zad b q 24=1)∧l≠[])):
  FnD Tryz.prog 16 [.ref 900 0,.d (zbc l)] [(900,some (rdB b q))] (.d (zbc (mutC b l q).1)) [(900,some (rdB b (mutC b l q).2))]:=by
 have hnil:l≠[]→zad b q 24≠0∧zad b q 24≠1:=fun h=>by
  constructor
  ·intro h2;exact hc ⟨.inl h2,h⟩
  ·intro h2;exact hc ⟨.inr h2,h⟩
 refine bd Tryz.f16 56 [] [] fun w0 F0 own kept hk=>?_
 refine Walk.sliceEmptyG 1 sl26 .none rfl rfl ?_
 refine ev ?_
 refine Walk.append sl26 zz41 rfl .none rfl rfl rfl rfl (zaP rfl (by first|rfl|(simp;done)|(simp;omega))) (by first|exact zdb _|(intro y hy;simp at hy;subst hy;rfl)) (by simp;omega) (by simp;omega) ?_
 refine ev ?_
 refine Walk.call (cr:=[]) zbW (zaE (p:=q) (n:=24) hb (by omega) (by omega)) rfl .none rfl rfl (LeL.refl _) ⟨rfl,trivial⟩ rfl rfl rfl ?_
 refine tv ?_
 refine sq (fun h1 h1p h1s=>?_) fun h1 h1p h1s=>?_
 ·try simp only[Q,Int.natCast_inj] at h1p
  refine sq (fun h2 h2p h2s=>?_) fun h2 h2p h2s=>?_
  ·try simp only[Q,Int.natCast_inj] at h2p
   exfalso;have hne:l≠[]:=(fun hh=>by rw[hh] at h2p;exact absurd h2p (by decide));exact(hnil hne).1 (by omega)
  ·try simp only[Q,Int.natCast_inj] at h2p
   have hz0:l.length=0:=(by have hq:=h2p;simp only[List.nil_append,List.length_map] at hq;omega)
   refine rn [(900,some (rdB b (mutC b l q).2))] (r1 rfl) (.gld ?_) ⟨rfl,rfl⟩ (SubO.get ⟨.inr (by first|(rw[zdY (by omega) (by omega)];all_goals rfl)|(rw[zfC (by omega)];all_goals rfl)|(rw[zfD (by omega) (by omega) (by omega)];all_goals rfl)),⟨.inl rfl,trivial⟩⟩) (zaq rfl)
   all_goals (first|(rw[zdY (by omega) (by omega)];all_goals rfl)|(rw[zfC (by omega),show 9-l.length=i by simp at *;omega];all_goals first|rfl|(simp;done))|(rw[zfD (by omega) (by omega) (by omega)];all_goals rfl))
 ·try simp only[Q,Int.natCast_inj] at h1p
  refine sq (fun h3 h3p h3s=>?_) fun h3 h3p h3s=>?_
  ·try simp only[Q,Int.natCast_inj] at h3p
   refine sq (fun h4 h4p h4s=>?_) fun h4 h4p h4s=>?_
   ·try simp only[Q,Int.natCast_inj] at h4p
    exfalso;have hne:l≠[]:=(fun hh=>by rw[hh] at h4p;exact absurd h4p (by decide));exact(hnil hne).2 (by omega)
   ·try simp only[Q,Int.natCast_inj] at h4p
    have hz0:l.length=0:=(by have hq:=h4p;simp only[List.nil_append,List.length_map] at hq;omega)
    refine rn [(900,some (rdB b (mutC b l q).2))] (r1 rfl) (.gld ?_) ⟨rfl,rfl⟩ (SubO.get ⟨.inr (by first|(rw[zdY (by omega) (by omega)];all_goals rfl)|(rw[zfC (by omega)];all_goals rfl)|(rw[zfD (by omega) (by omega) (by omega)];all_goals rfl)),⟨.inl rfl,trivial⟩⟩) (zaq rfl)
    all_goals (first|(rw[zdY (by omega) (by omega)];all_goals rfl)|(rw[zfC (by omega),show 9-l.length=i by simp at *;omega];all_goals first|rfl|(simp;done))|(rw[zfD (by omega) (by omega) (by omega)];all_goals rfl))
  ·try simp only[Q,Int.natCast_inj] at h3p
   refine sq (fun h5 h5p h5s=>?_) fun h5 h5p h5s=>?_
   ·try simp only[Q,Int.natCast_inj] at h5p
    refine CWp.loopX (ι:=Nat) hk (fun i=>[(5,.gl 1 ((l++List.replicate i anyC).map Cl.c))]) [47,48,49,50,51,52,53,54] (fun i=>[(1,some (.tok (((l++List.replicate i anyC).map Cl.c)).length 9))]) (fun i=>i≤9-l.length∧zad b q 24=2) (fun i=>9-l.length-i) 0 ⟨by omega,by omega⟩ ⟨⟨_,rfl,(LeA.glg (by first|rfl|omega|(simp;done)|exact zhw l i))⟩,trivial⟩ ⟨zae (by first|rfl|(simp;done)|(simp;omega)|(first|rfl|omega|(simp;done)|exact zhw l i)),trivial⟩ (fun x=>rfl) (fun i hg1=>?_)
    refine evc [] [] ?_
    refine sq (fun h6 h6p h6s=>?_) fun h6 h6p h6s=>?_
    ·try simp only[Q,Int.natCast_inj] at h6p
     refine Walk.build st37 (ks:=[0]) (xs:=[_]) rfl rfl .none rfl rfl rfl ?_
     refine Walk.build st41 (ks:=[0]) (xs:=[_]) rfl rfl .none rfl rfl rfl ?_
     refine Walk.sliceLit sl26 tz41 rfl (by decide) (ks:=[0]) (xs:=[_]) rfl rfl (by decide) (by decide) .none rfl rfl rfl rfl ?_
     refine Walk.append sl26 zz41 rfl .none rfl rfl rfl rfl (zaP rfl (by first|rfl|(simp;done)|(simp;omega))) (by first|exact zdb _|(intro y hy;simp at hy;subst hy;rfl)) (by simp;omega) (by simp;omega) ?_
     refine ev ?_
     refine Exists.intro (i+1) ⟨⟨by simp at *;omega,hg1.2⟩,(by simp at *;omega),Sub.x (by kernel_rfl) (by kernel_rfl) ⟨⟨_,rfl,(LeA.glg (by first|rfl|omega|(simp;done)|exact zhw l i))⟩,trivial⟩ (by kernel_rfl) (by kernel_rfl) ⟨zae (by first|rfl|(simp;done)|(simp;omega)|(first|rfl|omega|(simp;done)|exact zhw l i)),trivial⟩⟩
    ·try simp only[Q,Int.natCast_inj] at h6p
     refine rn [(900,some (rdB b (mutC b l q).2))] (r1 rfl) (.gld ?_) ⟨rfl,rfl⟩ (SubO.get ⟨.inr (by first|(rw[zdY (by omega) (by omega)];all_goals rfl)|(rw[zfC (by omega)];all_goals rfl)|(rw[zfD (by omega) (by omega) (by omega)];all_goals rfl)),⟨.inl rfl,trivial⟩⟩) (zaq rfl)
     all_goals (first|(rw[zdY (by omega) (by omega)];all_goals rfl)|(rw[zfC (by omega),show 9-l.length=i by simp at *;omega];all_goals first|rfl|(simp;done))|(rw[zfD (by omega) (by omega) (by omega)];all_goals rfl))
   ·try simp only[Q,Int.natCast_inj] at h5p
    refine rn [(900,some (rdB b (mutC b l q).2))] (r1 rfl) (.gld ?_) ⟨rfl,rfl⟩ (SubO.get ⟨.inr (by first|(rw[zdY (by omega) (by omega)];all_goals rfl)|(rw[zfC (by omega)];all_goals rfl)|(rw[zfD (by omega) (by omega) (by omega)];all_goals rfl)),⟨.inl rfl,trivial⟩⟩) (zaq rfl)
    all_goals (first|(rw[zdY (by omega) (by omega)];all_goals rfl)|(rw[zfC (by omega),show 9-l.length=i by simp at *;omega];all_goals first|rfl|(simp;done))|(rw[zfD (by omega) (by omega) (by omega)];all_goals rfl))
theorem zlm {b:Str} (hb:b.length≤2000){y:Cl}{r:List Cl}{q:Nat} (hq:q≤10000) (hl:(y::r).length≤5) (hc:zad b q 24=0):
  FnD Tryz.prog 16 [.ref 900 0,.d (zbc (y::r))] [(900,some (rdB b q))] (.d (zbc (mutC b (y::r) q).1)) [(900,some (rdB b (mutC b (y::r) q).2))]:=by
 have hrl:((y::r).map Cl.c).length=(r.map Cl.c).length+1:=rfl
 rw[zr1 hc]
 refine bd Tryz.f16 56 [] [999999] fun w0 F0 own kept hk=>?_
 refine Walk.sliceEmptyGV 1 sl26 .none rfl rfl ?_
 refine ev ?_
 refine Walk.appendM hk rfl (by simp) sl26 zz41 .none rfl rfl rfl rfl (zaP rfl (by first|rfl|(simp;done)|(simp;omega))) (by exact zdb _) (by simp at *;omega) (by simp at *;omega) ?_
 refine ev ?_
 refine Walk.call (cr:=[]) zbW (zaE (p:=q) (n:=24) hb (by omega) (by omega)) rfl .none rfl rfl (LeL.refl _) ⟨rfl,trivial⟩ rfl rfl rfl ?_
 refine tv ?_
 refine sq (fun h1 h1p h1s=>?_) fun h1 h1p h1s=>?_
 ·try simp only[Q,Int.natCast_inj] at h1p
  refine sq (fun h2 h2p h2s=>?_) fun h2 h2p h2s=>?_
  ·try simp only[Q,Int.natCast_inj] at h2p
   refine Walk.sliceLit sl75 tz3 rfl (by decide) (ks:=[0,1,2,3]) (xs:=[_,_,_,_]) rfl rfl (by decide) (by decide) .none rfl rfl rfl rfl ?_
   refine Walk.call (cr:=[]) zdJ (zbo (p:=q+1) (l:=[1,2,3,-1]) hb (by omega) (by simp) (by simp)) rfl .none rfl rfl (LeL.refl _) ⟨rfl,trivial⟩ rfl rfl rfl ?_
   refine ev ?_
   refine Walk.sliceLit sl75 tz3 rfl (by decide) (ks:=[0,1,2]) (xs:=[_,_,_]) rfl rfl (by decide) (by decide) .none rfl rfl rfl rfl ?_
   refine Walk.call (cr:=[]) zdJ (zbo (p:=q+2) (l:=[0,5,9]) hb (by omega) (by simp) (by simp)) rfl .none rfl rfl (LeL.refl _) ⟨rfl,trivial⟩ rfl rfl rfl ?_
   refine ev ?_
   refine Walk.sliceLit sl75 tz3 rfl (by decide) (ks:=[0,1,2]) (xs:=[_,_,_]) rfl rfl (by decide) (by decide) .none rfl rfl rfl rfl ?_
   refine Walk.call (cr:=[]) zdJ (zbo (p:=q+3) (l:=[3,10,-1]) hb (by omega) (by simp) (by simp)) rfl .none rfl rfl (LeL.refl _) ⟨rfl,trivial⟩ rfl rfl rfl ?_
   refine Walk.build st39 (ks:=[0,1,2]) (xs:=[_,_,_]) rfl rfl .none rfl rfl rfl ?_
   refine Walk.idxM (i:=0) sl26 .none rfl rfl rfl rfl (by first|(simp;done)|(simp;omega)) ?_
   refine ev ?_
   refine Walk.store ty39 .none rfl rfl rfl rfl rfl rfl (by simp) ((putG)) ?_
   refine tv ?_
   refine CWp.frz hk 4 1 _ _ rfl rfl (by rw[List.nil_append,hrl];exact zkD rfl rfl (zdb r)) rfl ?_
   refine CWp.ret ?_
   refine rn [(900,some (rdB b (q+4)))] (r1 rfl) (.eqd ?_) ⟨rfl,rfl⟩ (SubO.get ⟨.inr (by rfl),⟨.inl rfl,trivial⟩⟩) (zaq rfl)
   all_goals (rfl)
  ·try simp only[Q,Int.natCast_inj] at h2p
   exfalso;rw[List.nil_append,hrl] at h2p;omega
 ·try simp only[Q,Int.natCast_inj] at h1p
  exfalso;omega
theorem zln {b:Str} (hb:b.length≤2000){y:Cl}{r:List Cl}{q:Nat} (hq:q≤10000) (hl:(y::r).length≤5) (hsm:y.pat.size≤400∧y.pat.ok) (hc:zad b q 24=1):
  FnD Tryz.prog 16 [.ref 900 0,.d (zbc (y::r))] [(900,some (rdB b q))] (.d (zbc (mutC b (y::r) q).1)) [(900,some (rdB b (mutC b (y::r) q).2))]:=by
 have hrl:((y::r).map Cl.c).length=(r.map Cl.c).length+1:=rfl
 rw[zr2 hc]
 have h1:=zlH (b:=b) (p:=y.pat) (q:=q+1) (m:=400) hsm.1 (by omega) hsm.2
 have h2:=znq b y.pat (q+1)
 have i1:=zgz hb (p:=y.pat) (q:=q+1) (by omega) hsm.2
 have i2:=zgz hb (p:=(mutP b y.pat (q+1)).1) (q:=(mutP b y.pat (q+1)).2) (by omega) h1.2
 generalize mutP b y.pat (q+1)=z at *
 generalize mutP b z.1 z.2=z2 at *
 refine bd Tryz.f16 56 [40] [999999] fun w0 F0 own kept hk=>?_
 refine Walk.sliceEmptyGV 1 sl26 .none rfl rfl ?_
 refine evs [40] [] ?_
 refine Walk.appendM hk rfl (by simp) sl26 zz41 .none rfl rfl rfl rfl (zaP rfl (by first|rfl|(simp;done)|(simp;omega))) (by exact zdb _) (by simp at *;omega) (by simp at *;omega) ?_
 refine evs [40] [] ?_
 refine Walk.call (cr:=[]) zbW (zaE (p:=q) (n:=24) hb (by omega) (by omega)) rfl .none rfl rfl (LeL.refl _) ⟨rfl,trivial⟩ rfl rfl rfl ?_
 refine tv ?_
 refine sq (fun h1 h1p h1s=>?_) fun h1 h1p h1s=>?_
 ·try simp only[Q,Int.natCast_inj] at h1p
  exfalso;omega
 ·try simp only[Q,Int.natCast_inj] at h1p
  refine sq (fun h2 h2p h2s=>?_) fun h2 h2p h2s=>?_
  ·try simp only[Q,Int.natCast_inj] at h2p
   refine sq (fun h3 h3p h3s=>?_) fun h3 h3p h3s=>?_
   ·try simp only[Q,Int.natCast_inj] at h3p
    refine Walk.idxM (i:=0) sl26 .none rfl rfl rfl rfl (by first|(simp;done)|(simp;omega)) ?_
    refine evs [40] [] ?_
    refine Walk.loadBA ty37 .none rfl rfl rfl ((zsY)) ?_
    refine Walk.call (cr:=[]) zqy (i1) rfl .none rfl rfl (LeL.refl _) ⟨rfl,trivial⟩ rfl rfl rfl ?_
    refine Walk.call (cr:=[]) zqy (i2) rfl .none rfl rfl (LeL.refl _) ⟨rfl,trivial⟩ rfl rfl rfl ?_
    refine Walk.idxM (i:=0) sl26 .none rfl rfl rfl rfl (by first|(simp;done)|(simp;omega)) ?_
    refine evs [40] [] ?_
    refine Walk.store ty37 .none rfl rfl rfl rfl rfl rfl (by simp) ((zs3)) ?_
    refine tv ?_
    refine CWp.frz hk 4 1 _ _ rfl rfl (by rw[List.nil_append,hrl];exact zkD rfl rfl (zdb r)) rfl ?_
    refine CWp.ret ?_
    refine rn [(900,some (rdB b z2.2))] (r1 rfl) (.eqd ?_) ⟨rfl,rfl⟩ (SubO.get ⟨.inr (by rfl),⟨.inl rfl,trivial⟩⟩) (zaq rfl)
    all_goals (rfl)
   ·try simp only[Q,Int.natCast_inj] at h3p
    exfalso;rw[List.nil_append,hrl] at h3p;omega
  ·try simp only[Q,Int.natCast_inj] at h2p
   exfalso;omega
theorem zkn {b:Str} (hb:b.length≤2000){l:List Cl}{q:Nat} (hq:q≤10000) (hl:l.length≤5) (hs:CSm l):
  FnD Tryz.prog 16 [.ref 900 0,.d (zbc l)] [(900,some (rdB b q))] (.d (zbc (mutC b l q).1)) [(900,some (rdB b (mutC b l q).2))]:=by
 cases l with
 |nil=>exact zgR hb hq hl (fun h=>h.2 rfl)
 |cons y r=>
  by_cases h0:zad b q 24=0
  ·exact zlm hb hq hl h0
  ·by_cases h1:zad b q 24=1
   ·exact zln hb hq hl (hs y (by simp)) h1
   ·exact zgR hb hq hl (fun h=>by rcases h.1 with h|h;exact h0 h;exact h1 h)
def rcW (b:Str):List Data:=zbr b 0
def rcT (b:Str):Ty:=typT b 0
def rcL (b:Str):List Cl:=(mutC b (rnL b).1 (rnL b).2).1
theorem zr3 (b:Str):(rcL b).length≤9∧∀c∈rcL b,c.pat.size≤4000∧c.pat.ok:=by
 have h:=zny b
 exact(zoi h.2.2 h.2.1).2
theorem zc4 {b:Str} (hb:b.length≤1000000000000){v':Val}{q:Nat} (hm:MutOf (b.take 2000) (mutC (b.take 2000) (rnL (b.take 2000)).1 (rnL (b.take 2000)).2).2 (typV (b.take 2000) 0).1 v' q):
  FnD Tryz.prog 7 [.d (zaQ b)] [] (.tup [.d (zag (rcW (b.take 2000))),.agg [.d (.i (rcT (b.take 2000)).data),.d (.i (rcT (b.take 2000)).index)],.d (zbc (rcL (b.take 2000))),
   .agg [.d (.i v'.ctor),.d (.i v'.num),.d (zaw v'.kids)]]) []:=by
 have hop:=zk9 hb
 have hb2:(b.take 2000).length≤2000:=by rw[List.length_take];omega
 generalize b.take 2000=e at *
 have hvo:=zjq e 0
 have hr:=zny e
 have hty:=zlo hb2
 have hmu:=zkn hb2 (l:=(rnL e).1) (q:=(rnL e).2) (by omega) hr.2.1 hr.2.2
 have hmp:=zkl hb2 hm (by omega)
 rw[show(mutC e (rnL e).1 (rnL e).2).1=rcL e from rfl] at hmu
 generalize (mutC e (rnL e).1 (rnL e).2).2=q1 at *
 generalize rcL e=l1 at *
 generalize rnL e=z at *
 refine bd Tryz.f7 28 [] [] fun w0 F0 own kept hk=>?_
 refine Walk.alloc (id:=3003) tz25 rfl .none rfl rfl rfl rfl ?_
 refine ev ?_
 refine Walk.alloc (id:=3005) tz29 rfl .none rfl rfl rfl rfl ?_
 refine tv ?_
 refine Walk.call (cr:=[900]) zsc (hop) rfl .none rfl rfl (LeL.refl _) trivial rfl (by first|rfl|(simp only[zbB,List.all_cons,List.all_nil,zd9,zdx,AV.idsL,AV.ids,zas,zat,List.map_cons,List.map_nil];rfl)) (by first|rfl|(simp only[zaN,occH,occE,Res.ids,List.cons_append,List.nil_append,AV.idsL,AV.ids,zas,zat,zaR,zbD,List.map_cons,List.map_nil,upC];rfl)) ?_
 refine ev ?_
 refine Walk.call (cr:=[]) zsd (hty) rfl .none rfl rfl (LeL.refl _) ⟨rfl,trivial⟩ rfl rfl rfl ?_
 refine ev ?_
 refine Walk.alloc (id:=3008) tz25 rfl .none rfl rfl rfl rfl ?_
 refine Walk.alloc (id:=3010) tz29 rfl .none rfl rfl rfl rfl ?_
 refine ev ?_
 refine Walk.store ty25 .none rfl rfl rfl rfl rfl rfl (by simp) rfl ?_
 refine ev ?_
 refine Walk.store ty29 .none rfl rfl rfl rfl rfl rfl (by simp) rfl ?_
 refine tv ?_
 refine Walk.call (cr:=[]) zse (hmu) rfl .none rfl rfl (LeL.refl _) ⟨rfl,trivial⟩ rfl rfl rfl ?_
 refine evd [] [] ?_
 refine Walk.call (cr:=[]) zov (hmp) rfl .none rfl rfl (LeL.refl _) ⟨rfl,trivial⟩ rfl rfl rfl ?_
 refine evd [] [] ?_
 refine Walk.store ty25 .none rfl rfl rfl rfl rfl rfl (by simp) rfl ?_
 refine evd [] [] ?_
 refine Walk.store ty29 .none rfl rfl rfl rfl rfl rfl (by simp) rfl ?_
 refine dr ?_
 refine rn0 (.cons (.tmp rfl) (.cons (.cellA ty25 rfl rfl rfl) (.cons (.tmp rfl) (.cons (.cellA ty29 rfl rfl rfl) .nil)))) (.tup (.cons (.eqd ?_) (.cons (.agg (.cons (.eqd ?_) (.cons (.eqd ?_) .nil))) (.cons (.eqd ?_) (.cons (.agg (.cons (.eqd ?_) (.cons (.eqd ?_) (.cons (.eqd ?_) .nil)))) .nil)))))
 all_goals (first|rfl|(simp[];done)|(simp_all;done)|(simp_all;omega)|omega)
structure RunD (w:List Data) (l:List Cl) (v:Val):Prop where
 small:WSmall w
 ok:ClsOk l
 sz:ClsSz l
 vok:v.ok
 vsz:v.size≤1000000000000
 len:l.length≤9
theorem rcQ (b:Str):(mutC b (rnL b).1 (rnL b).2).2≤4000:=by
 have h:=zny b
 have h2:=(zoi (b:=b) (q:=(rnL b).2) h.2.2 h.2.1).1
 omega
theorem zlK {b:Str}{v':Val}{q:Nat} (hm:MutOf b (mutC b (rnL b).1 (rnL b).2).2 (typV b 0).1 v' q):RunD (rcW b) (rcL b) v':=by
 have h1:=zr3 b
 have h2:=hm.size
 have h3:=(zjq b 0).2.1
 exact⟨(zgY b 0).small,⟨by have:=h1.1;omega,fun c hc=>(h1.2 c hc).2⟩,fun c hc=>by have:=(h1.2 c hc).1;omega,Val.ok_sz _ (by omega),by omega,h1.1⟩
theorem zqf (l:List Cl) (v:Val):runV (anyC::l) v 0=(0,[]):=by
 have h:=zpG (v:=v)
 have h1:zcU anyC v=true:=h.1
 unfold runV
 rw[if_pos h1]
 show((0:Int),zc9 (zaj 10 ⟨1,0,0,0,0,[]⟩ v).1)=(0,[])
 rw[h.2];rfl
theorem zjV {l:List Cl} (c:Cl) (hl:ClsOk l) (h9:l.length≤9) (hc:c.pat.ok):ClsOk (c::l):=⟨by simp;omega,fun x hx=>by
 rcases List.mem_cons.1 hx with rfl|hx
 ·exact hc
 ·exact hl.2 x hx⟩
theorem zju {b:Str} (hb:b.length≤1000000000000){w:List Data}{a k:Int}{l:List Cl}{v:Val} (hd:RunD w l v)
  (hdr:FnD Tryz.prog 7 [.d (zaQ b)] [] (.tup [.d (zag w),.agg [.d (.i a),.d (.i k)],.d (zbc l),.agg [.d (.i v.ctor),.d (.i v.num),.d (zaw v.kids)]]) [])
  (hn:¬(zax w ⟨a,k⟩ l=true∧isV w ⟨a,k⟩ v=true)):FnD Tryz.prog 3 [.d (zaQ b)] [] (.d (.bool true)) []:=by
 have hi:=za4 hd.small (a:=a) (k:=k) hd.ok hd.vok
 have hsp:=zbV hd.small (a:=a) (k:=k) hd.ok hd.sz hd.vok hd.vsz
 rw[zfk hn] at hi hsp
 have hll:=hd.len
 have hcf:=zct hd.small (a:=a) (k:=k) (l:=anyC::l) (zjV anyC hd.ok hd.len zff.2)
 refine bd Tryz.f3 107 [56,81] [] fun w0 F0 own kept hk=>?_
 refine sq (fun h1 h1p h1s=>?_) fun h1 h1p h1s=>?_
 ·try simp only[Q] at h1p
  refine rn0 (r1 rfl) (.eqd ?_)
  all_goals (first|rfl|contradiction|(exfalso;simp at *;done))
 ·try simp only[Q] at h1p
  refine Walk.call (cr:=[]) cal7 (hdr) rfl .none rfl rfl (LeL.refl _) trivial rfl rfl rfl ?_
  refine evs [56,81] [] ?_
  refine Walk.alloc (id:=3004) tz25 rfl .none rfl rfl rfl rfl ?_
  refine Walk.alloc (id:=3006) tz29 rfl .none rfl rfl rfl rfl ?_
  refine evs [56,81] [] ?_
  refine Walk.store ty25 .none rfl rfl rfl rfl rfl rfl (by simp) rfl ?_
  refine evs [56,81] [] ?_
  refine Walk.store ty29 .none rfl rfl rfl rfl rfl rfl (by simp) rfl ?_
  refine tv ?_
  refine Walk.call (cr:=[]) cal8 (hi) rfl .none rfl rfl (LeL.refl _) trivial rfl rfl rfl ?_
  refine evs [56,81] [] ?_
  refine Walk.call (cr:=[]) cal9 (hsp) rfl .none rfl rfl (LeL.refl _) trivial rfl rfl rfl ?_
  refine evs [56,81] [] ?_
  refine Walk.build st37 (ks:=[0]) (xs:=[_]) rfl rfl .none rfl rfl rfl ?_
  refine Walk.build st41 (ks:=[0]) (xs:=[_]) rfl rfl .none rfl rfl rfl ?_
  refine Walk.sliceLitG 1 sl26 tz41 rfl (by decide) (ks:=[0]) (xs:=[_]) rfl rfl (by decide) (by decide) .none rfl rfl rfl rfl rfl ?_
  refine evs [56,81] [] ?_
  refine Walk.append sl26 zz41 rfl .none rfl rfl rfl rfl (zaP rfl (by first|rfl|(simp;done)|(simp;omega))) (by first|exact zdb _|(intro y hy;simp at hy;subst hy;rfl)) (by simp;omega) (by simp;omega) ?_
  refine evs [56,81] [] ?_
  refine sq (fun h2 h2p h2s=>?_) fun h2 h2p h2s=>?_
  ·try simp only[Q] at h2p
   refine sqT ?_
   refine sqT ?_
   refine sqT ?_
   refine sqT ?_
   refine sq (fun h4 h4p h4s=>?_) fun h4 h4p h4s=>?_
   ·try simp only[Q] at h4p
    refine Walk.eqB un4 (.some rfl rfl h4) rfl rfl rfl ?_
    refine evs [56,81] [(78,true)] ?_ ⟨⟨_,rfl,h4⟩,trivial⟩
    refine sq (fun h5 h5p h5s=>?_) fun h5 h5p h5s=>?_
    ·try simp only[Q] at h5p
     refine Walk.call (cr:=[]) za3 (zau (l:=[]) (by simp) (by simp)) rfl (.some rfl rfl h5) rfl rfl (LeL.refl _) trivial rfl rfl rfl ?_
     refine evs [56,81] [(83,true)] ?_ ⟨⟨_,rfl,h5⟩,trivial⟩
     refine rn0 (r1 rfl) (.eqd ?_)
     all_goals (first|rfl|contradiction|(exfalso;simp at *;done))
    ·try simp only[Q] at h5p
     refine rn0 (r1 rfl) (.eqd ?_)
     all_goals (first|rfl|contradiction|(exfalso;simp at *;done))
   ·try simp only[Q] at h4p
    refine sqF ?_
    refine rn0 (r1 rfl) (.eqd ?_)
    all_goals (first|rfl|contradiction|(exfalso;simp at *;done))
  ·try simp only[Q] at h2p
   refine Walk.neB un4 (.some rfl rfl h2) rfl rfl rfl ?_
   refine evs [56,81] [(53,false)] ?_ ⟨⟨_,rfl,h2⟩,trivial⟩
   refine sq (fun h6 h6p h6s=>?_) fun h6 h6p h6s=>?_
   ·try simp only[Q] at h6p
    refine sqT ?_
    refine sqT ?_
    refine sqT ?_
    refine sq (fun h8 h8p h8s=>?_) fun h8 h8p h8s=>?_
    ·try simp only[Q] at h8p
     refine Walk.eqB un4 (.some rfl rfl h8) rfl rfl rfl ?_
     refine evs [56,81] [(78,true)] ?_ ⟨⟨_,rfl,h8⟩,trivial⟩
     refine sq (fun h9 h9p h9s=>?_) fun h9 h9p h9s=>?_
     ·try simp only[Q] at h9p
      refine Walk.call (cr:=[]) za3 (zau (l:=[]) (by simp) (by simp)) rfl (.some rfl rfl h9) rfl rfl (LeL.refl _) trivial rfl rfl rfl ?_
      refine evs [56,81] [(83,true)] ?_ ⟨⟨_,rfl,h9⟩,trivial⟩
      refine rn0 (r1 rfl) (.eqd ?_)
      all_goals (first|rfl|contradiction|(exfalso;simp at *;done))
     ·try simp only[Q] at h9p
      refine rn0 (r1 rfl) (.eqd ?_)
      all_goals (first|rfl|contradiction|(exfalso;simp at *;done))
    ·try simp only[Q] at h8p
     refine sqF ?_
     refine rn0 (r1 rfl) (.eqd ?_)
     all_goals (first|rfl|contradiction|(exfalso;simp at *;done))
   ·try simp only[Q] at h6p
    refine Walk.call (cr:=[]) za3 (zau (l:=[]) (by simp) (by simp)) rfl (.some rfl rfl h6) rfl rfl (LeL.refl _) trivial rfl rfl rfl ?_
    refine evs [56,81] [(58,false)] ?_ ⟨⟨_,rfl,h6⟩,trivial⟩
    refine sq (fun h10 h10p h10s=>?_) fun h10 h10p h10s=>?_
    ·try simp only[Q] at h10p
     refine sqT ?_
     refine sqT ?_
     refine sq (fun h12 h12p h12s=>?_) fun h12 h12p h12s=>?_
     ·try simp only[Q] at h12p
      refine Walk.eqB un4 (.some rfl rfl h12) rfl rfl rfl ?_
      refine evs [56,81] [(78,true)] ?_ ⟨⟨_,rfl,h12⟩,trivial⟩
      refine sq (fun h13 h13p h13s=>?_) fun h13 h13p h13s=>?_
      ·try simp only[Q] at h13p
       refine Walk.call (cr:=[]) za3 (zau (l:=[]) (by simp) (by simp)) rfl (.some rfl rfl h13) rfl rfl (LeL.refl _) trivial rfl rfl rfl ?_
       refine evs [56,81] [(83,true)] ?_ ⟨⟨_,rfl,h13⟩,trivial⟩
       refine rn0 (r1 rfl) (.eqd ?_)
       all_goals (first|rfl|contradiction|(exfalso;simp at *;done))
      ·try simp only[Q] at h13p
       refine rn0 (r1 rfl) (.eqd ?_)
       all_goals (first|rfl|contradiction|(exfalso;simp at *;done))
     ·try simp only[Q] at h12p
      refine sqF ?_
      refine rn0 (r1 rfl) (.eqd ?_)
      all_goals (first|rfl|contradiction|(exfalso;simp at *;done))
    ·try simp only[Q] at h10p
     refine sq (fun h14 h14p h14s=>?_) fun h14 h14p h14s=>?_
     ·try simp only[Q] at h14p
      refine sqT ?_
      refine sq (fun h16 h16p h16s=>?_) fun h16 h16p h16s=>?_
      ·try simp only[Q] at h16p
       refine Walk.eqB un4 (.some rfl rfl h16) rfl rfl rfl ?_
       refine evs [56,81] [(78,true)] ?_ ⟨⟨_,rfl,h16⟩,trivial⟩
       refine sq (fun h17 h17p h17s=>?_) fun h17 h17p h17s=>?_
       ·try simp only[Q] at h17p
        refine Walk.call (cr:=[]) za3 (zau (l:=[]) (by simp) (by simp)) rfl (.some rfl rfl h17) rfl rfl (LeL.refl _) trivial rfl rfl rfl ?_
        refine evs [56,81] [(83,true)] ?_ ⟨⟨_,rfl,h17⟩,trivial⟩
        refine rn0 (r1 rfl) (.eqd ?_)
        all_goals (first|rfl|contradiction|(exfalso;simp at *;done))
       ·try simp only[Q] at h17p
        refine rn0 (r1 rfl) (.eqd ?_)
        all_goals (first|rfl|contradiction|(exfalso;simp at *;done))
      ·try simp only[Q] at h16p
       refine sqF ?_
       refine rn0 (r1 rfl) (.eqd ?_)
       all_goals (first|rfl|contradiction|(exfalso;simp at *;done))
     ·try simp only[Q] at h14p
      refine Walk.call (cr:=[]) zmK (hcf) rfl (.some rfl rfl h14) rfl rfl (.cons (.refl _) (.cons (.refl _) (.cons (.gl _ _) .nil))) trivial rfl rfl rfl ?_
      refine evs [56,81] [(68,false)] ?_ ⟨⟨_,rfl,h14⟩,trivial⟩
      refine sq (fun h18 h18p h18s=>?_) fun h18 h18p h18s=>?_
      ·try simp only[Q] at h18p
       refine sq (fun h19 h19p h19s=>?_) fun h19 h19p h19s=>?_
       ·try simp only[Q] at h19p
        refine Walk.eqB un4 (.some rfl rfl h19) rfl rfl rfl ?_
        refine evs [56,81] [(78,true)] ?_ ⟨⟨_,rfl,h19⟩,trivial⟩
        refine sq (fun h20 h20p h20s=>?_) fun h20 h20p h20s=>?_
        ·try simp only[Q] at h20p
         refine Walk.call (cr:=[]) za3 (zau (l:=[]) (by simp) (by simp)) rfl (.some rfl rfl h20) rfl rfl (LeL.refl _) trivial rfl rfl rfl ?_
         refine evs [56,81] [(83,true)] ?_ ⟨⟨_,rfl,h20⟩,trivial⟩
         refine rn0 (r1 rfl) (.eqd ?_)
         all_goals (first|rfl|contradiction|(exfalso;simp at *;done))
        ·try simp only[Q] at h20p
         refine rn0 (r1 rfl) (.eqd ?_)
         all_goals (first|rfl|contradiction|(exfalso;simp at *;done))
       ·try simp only[Q] at h19p
        refine sqF ?_
        refine rn0 (r1 rfl) (.eqd ?_)
        all_goals (first|rfl|contradiction|(exfalso;simp at *;done))
      ·try simp only[Q] at h18p
       exfalso;first|contradiction|(simp at *;done)
theorem ziI {b:Str} (hb:b.length≤1000000000000){w:List Data}{a k:Int}{l:List Cl}{v:Val} (hd:RunD w l v)
  (hdr:FnD Tryz.prog 7 [.d (zaQ b)] [] (.tup [.d (zag w),.agg [.d (.i a),.d (.i k)],.d (zbc l),.agg [.d (.i v.ctor),.d (.i v.num),.d (zaw v.kids)]]) [])
  (h1:zax w ⟨a,k⟩ l=true) (h2:isV w ⟨a,k⟩ v=true):FnD Tryz.prog 3 [.d (zaQ b)] [] (.d (.bool true)) []:=by
 have hi:=za4 hd.small (a:=a) (k:=k) hd.ok hd.vok
 have hsp:=zbV hd.small (a:=a) (k:=k) hd.ok hd.sz hd.vok hd.vsz
 rw[zdt h1 h2] at hi hsp
 have hll:=hd.len
 have hru:=zg9 h1 hd.ok hd.vok h2
 have hbi:=zhX hru 0
 have hps:=zau (l:=(runV l v 0).2) (by omega) hbi.2
 have hokf:=zjV anyC hd.ok hd.len zff.2
 have hcf:=zct hd.small (a:=a) (k:=k) (l:=anyC::l) hokf
 have hif:zax w ⟨a,k⟩ (anyC::l)=true→FnD Tryz.prog 8 [.d (zag w),.agg [.d (.i a),.d (.i k)],.d (zbc (anyC::l)),.agg [.d (.i v.ctor),.d (.i v.num),.d (zaw v.kids)]] [] (.tup [.d (.i 0),.d (za2 []),.d (.bool true)]) []:=fun h=>by
  have hh:=za4 hd.small (a:=a) (k:=k) (v:=v) hokf hd.vok
  rw[zdt h h2,zqf] at hh
  exact hh
 generalize zax w ⟨a,k⟩ (anyC::l)=cf at *
 generalize runV l v 0=z at *
 obtain⟨z1,z2⟩:=z
 dsimp only at *
 refine bd Tryz.f3 107 [56,81] [] fun w0 F0 own kept hk=>?_
 refine sq (fun h1 h1p h1s=>?_) fun h1 h1p h1s=>?_
 ·try simp only[Q] at h1p
  refine rn0 (r1 rfl) (.eqd ?_)
  all_goals (first|rfl|contradiction|(exfalso;simp at *;done))
 ·try simp only[Q] at h1p
  refine Walk.call (cr:=[]) cal7 (hdr) rfl .none rfl rfl (LeL.refl _) trivial rfl rfl rfl ?_
  refine evs [56,81] [] ?_
  refine Walk.alloc (id:=3004) tz25 rfl .none rfl rfl rfl rfl ?_
  refine Walk.alloc (id:=3006) tz29 rfl .none rfl rfl rfl rfl ?_
  refine evs [56,81] [] ?_
  refine Walk.store ty25 .none rfl rfl rfl rfl rfl rfl (by simp) rfl ?_
  refine evs [56,81] [] ?_
  refine Walk.store ty29 .none rfl rfl rfl rfl rfl rfl (by simp) rfl ?_
  refine tv ?_
  refine Walk.call (cr:=[]) cal8 (hi) rfl .none rfl rfl (LeL.refl _) trivial rfl rfl rfl ?_
  refine evs [56,81] [] ?_
  refine Walk.call (cr:=[]) cal9 (hsp) rfl .none rfl rfl (LeL.refl _) trivial rfl rfl rfl ?_
  refine evs [56,81] [] ?_
  refine Walk.build st37 (ks:=[0]) (xs:=[_]) rfl rfl .none rfl rfl rfl ?_
  refine Walk.build st41 (ks:=[0]) (xs:=[_]) rfl rfl .none rfl rfl rfl ?_
  refine Walk.sliceLitG 1 sl26 tz41 rfl (by decide) (ks:=[0]) (xs:=[_]) rfl rfl (by decide) (by decide) .none rfl rfl rfl rfl rfl ?_
  refine evs [56,81] [] ?_
  refine Walk.append sl26 zz41 rfl .none rfl rfl rfl rfl (zaP rfl (by first|rfl|(simp;done)|(simp;omega))) (by first|exact zdb _|(intro y hy;simp at hy;subst hy;rfl)) (by simp;omega) (by simp;omega) ?_
  refine evs [56,81] [] ?_
  refine sq (fun h2 h2p h2s=>?_) fun h2 h2p h2s=>?_
  ·try simp only[Q] at h2p
   refine sqT ?_
   refine sqT ?_
   refine sqT ?_
   refine sqT ?_
   refine sq (fun h4 h4p h4s=>?_) fun h4 h4p h4s=>?_
   ·try simp only[Q] at h4p
    refine Walk.eqB un4 (.some rfl rfl h4) rfl rfl rfl ?_
    refine evs [56,81] [(78,true)] ?_ ⟨⟨_,rfl,h4⟩,trivial⟩
    refine sq (fun h5 h5p h5s=>?_) fun h5 h5p h5s=>?_
    ·try simp only[Q] at h5p
     refine Walk.call (cr:=[]) za3 (hps) rfl (.some rfl rfl h5) rfl rfl (LeL.refl _) trivial rfl rfl rfl ?_
     refine evs [56,81] [(83,true)] ?_ ⟨⟨_,rfl,h5⟩,trivial⟩
     refine rn0 (r1 rfl) (.eqd ?_)
     all_goals (first|rfl|contradiction|(exfalso;simp at *;done))
    ·try simp only[Q] at h5p
     refine rn0 (r1 rfl) (.eqd ?_)
     all_goals (first|rfl|contradiction|(exfalso;simp at *;done))
   ·try simp only[Q] at h4p
    refine sqF ?_
    refine rn0 (r1 rfl) (.eqd ?_)
    all_goals (first|rfl|contradiction|(exfalso;simp at *;done))
  ·try simp only[Q] at h2p
   refine Walk.neB un4 (.some rfl rfl h2) rfl rfl rfl ?_
   refine evs [56,81] [(53,false)] ?_ ⟨⟨_,rfl,h2⟩,trivial⟩
   refine sq (fun h6 h6p h6s=>?_) fun h6 h6p h6s=>?_
   ·try simp only[Q] at h6p
    refine sqT ?_
    refine sqT ?_
    refine sqT ?_
    refine sq (fun h8 h8p h8s=>?_) fun h8 h8p h8s=>?_
    ·try simp only[Q] at h8p
     refine Walk.eqB un4 (.some rfl rfl h8) rfl rfl rfl ?_
     refine evs [56,81] [(78,true)] ?_ ⟨⟨_,rfl,h8⟩,trivial⟩
     refine sq (fun h9 h9p h9s=>?_) fun h9 h9p h9s=>?_
     ·try simp only[Q] at h9p
      refine Walk.call (cr:=[]) za3 (hps) rfl (.some rfl rfl h9) rfl rfl (LeL.refl _) trivial rfl rfl rfl ?_
      refine evs [56,81] [(83,true)] ?_ ⟨⟨_,rfl,h9⟩,trivial⟩
      refine rn0 (r1 rfl) (.eqd ?_)
      all_goals (first|rfl|contradiction|(exfalso;simp at *;done))
     ·try simp only[Q] at h9p
      refine rn0 (r1 rfl) (.eqd ?_)
      all_goals (first|rfl|contradiction|(exfalso;simp at *;done))
    ·try simp only[Q] at h8p
     refine sqF ?_
     refine rn0 (r1 rfl) (.eqd ?_)
     all_goals (first|rfl|contradiction|(exfalso;simp at *;done))
   ·try simp only[Q] at h6p
    refine Walk.call (cr:=[]) za3 (hps) rfl (.some rfl rfl h6) rfl rfl (LeL.refl _) trivial rfl rfl rfl ?_
    refine evs [56,81] [(58,false)] ?_ ⟨⟨_,rfl,h6⟩,trivial⟩
    refine sq (fun h10 h10p h10s=>?_) fun h10 h10p h10s=>?_
    ·try simp only[Q] at h10p
     refine sqT ?_
     refine sqT ?_
     refine sq (fun h12 h12p h12s=>?_) fun h12 h12p h12s=>?_
     ·try simp only[Q] at h12p
      refine Walk.eqB un4 (.some rfl rfl h12) rfl rfl rfl ?_
      refine evs [56,81] [(78,true)] ?_ ⟨⟨_,rfl,h12⟩,trivial⟩
      refine sq (fun h13 h13p h13s=>?_) fun h13 h13p h13s=>?_
      ·try simp only[Q] at h13p
       refine Walk.call (cr:=[]) za3 (hps) rfl (.some rfl rfl h13) rfl rfl (LeL.refl _) trivial rfl rfl rfl ?_
       refine evs [56,81] [(83,true)] ?_ ⟨⟨_,rfl,h13⟩,trivial⟩
       refine rn0 (r1 rfl) (.eqd ?_)
       all_goals (first|rfl|contradiction|(exfalso;simp at *;done))
      ·try simp only[Q] at h13p
       refine rn0 (r1 rfl) (.eqd ?_)
       all_goals (first|rfl|contradiction|(exfalso;simp at *;done))
     ·try simp only[Q] at h12p
      refine sqF ?_
      refine rn0 (r1 rfl) (.eqd ?_)
      all_goals (first|rfl|contradiction|(exfalso;simp at *;done))
    ·try simp only[Q] at h10p
     refine sq (fun h14 h14p h14s=>?_) fun h14 h14p h14s=>?_
     ·try simp only[Q] at h14p
      refine sqT ?_
      refine sq (fun h16 h16p h16s=>?_) fun h16 h16p h16s=>?_
      ·try simp only[Q] at h16p
       refine Walk.eqB un4 (.some rfl rfl h16) rfl rfl rfl ?_
       refine evs [56,81] [(78,true)] ?_ ⟨⟨_,rfl,h16⟩,trivial⟩
       refine sq (fun h17 h17p h17s=>?_) fun h17 h17p h17s=>?_
       ·try simp only[Q] at h17p
        refine Walk.call (cr:=[]) za3 (hps) rfl (.some rfl rfl h17) rfl rfl (LeL.refl _) trivial rfl rfl rfl ?_
        refine evs [56,81] [(83,true)] ?_ ⟨⟨_,rfl,h17⟩,trivial⟩
        refine rn0 (r1 rfl) (.eqd ?_)
        all_goals (first|rfl|contradiction|(exfalso;simp at *;done))
       ·try simp only[Q] at h17p
        refine rn0 (r1 rfl) (.eqd ?_)
        all_goals (first|rfl|contradiction|(exfalso;simp at *;done))
      ·try simp only[Q] at h16p
       refine sqF ?_
       refine rn0 (r1 rfl) (.eqd ?_)
       all_goals (first|rfl|contradiction|(exfalso;simp at *;done))
     ·try simp only[Q] at h14p
      refine Walk.call (cr:=[]) zmK (hcf) rfl (.some rfl rfl h14) rfl rfl (.cons (.refl _) (.cons (.refl _) (.cons (.gl _ _) .nil))) trivial rfl rfl rfl ?_
      refine evs [56,81] [(68,false)] ?_ ⟨⟨_,rfl,h14⟩,trivial⟩
      refine sq (fun h18 h18p h18s=>?_) fun h18 h18p h18s=>?_
      ·try simp only[Q] at h18p
       refine sq (fun h19 h19p h19s=>?_) fun h19 h19p h19s=>?_
       ·try simp only[Q] at h19p
        refine Walk.eqB un4 (.some rfl rfl h19) rfl rfl rfl ?_
        refine evs [56,81] [(78,true)] ?_ ⟨⟨_,rfl,h19⟩,trivial⟩
        refine sq (fun h20 h20p h20s=>?_) fun h20 h20p h20s=>?_
        ·try simp only[Q] at h20p
         refine Walk.call (cr:=[]) za3 (hps) rfl (.some rfl rfl h20) rfl rfl (LeL.refl _) trivial rfl rfl rfl ?_
         refine evs [56,81] [(83,true)] ?_ ⟨⟨_,rfl,h20⟩,trivial⟩
         refine rn0 (r1 rfl) (.eqd ?_)
         all_goals (first|rfl|contradiction|(exfalso;simp at *;done))
        ·try simp only[Q] at h20p
         refine rn0 (r1 rfl) (.eqd ?_)
         all_goals (first|rfl|contradiction|(exfalso;simp at *;done))
       ·try simp only[Q] at h19p
        refine sqF ?_
        refine rn0 (r1 rfl) (.eqd ?_)
        all_goals (first|rfl|contradiction|(exfalso;simp at *;done))
      ·try simp only[Q] at h18p
       refine Walk.call (cr:=[]) cal8 (hif (by assumption)) rfl .none rfl rfl (.cons (.refl _) (.cons (.refl _) (.cons (.gl _ _) (.cons (.refl _) .nil)))) trivial rfl rfl rfl ?_
       refine evs [56,81] [] ?_
       refine sq (fun h21 h21p h21s=>?_) fun h21 h21p h21s=>?_
       ·try simp only[Q] at h21p
        refine sq (fun h22 h22p h22s=>?_) fun h22 h22p h22s=>?_
        ·try simp only[Q] at h22p
         refine rn0 (r1 rfl) (.eqd ?_)
         all_goals (first|rfl|contradiction|(exfalso;simp at *;done))
        ·try simp only[Q] at h22p
         refine rn0 (r1 rfl) (.eqd ?_)
         all_goals (first|rfl|contradiction|(exfalso;simp at *;done))
       ·try simp only[Q] at h21p
        refine sqF ?_
        refine rn0 (r1 rfl) (.eqd ?_)
        all_goals (first|rfl|contradiction|(exfalso;simp at *;done))
theorem zkb {b:Str} (hb:b.length≤1000000000000):FnD Tryz.prog 3 [.d (zaQ b)] [] (.d (.bool true)) []:=by
 have hb2:(b.take 2000).length≤2000:=by rw[List.length_take];omega
 obtain⟨v,q,hm⟩:=znr hb2 (rcQ (b.take 2000)) (typV (b.take 2000) 0).1
 have hdr:=zc4 hb hm
 have hd:=zlK hm
 by_cases hn:zax (rcW (b.take 2000)) ⟨(rcT (b.take 2000)).data,(rcT (b.take 2000)).index⟩ (rcL (b.take 2000))=true∧isV (rcW (b.take 2000)) ⟨(rcT (b.take 2000)).data,(rcT (b.take 2000)).index⟩ v=true
 ·exact ziI hb hd hdr hn.1 hn.2
 ·exact zju hb hd hdr hn
end Go.Proofs.YtflgpdjbgfkhoaaGreat
namespace Go.Proofs.YtflgpdjbgfkhoaaGreat
open Go Go.ChangeShapes Go.WideShapes Go.ChangeAt Go.RowKit
set_option linter.unusedSimpArgs false
set_option linter.unusedVariables false
set_option linter.unusedVariables false
def FW (W:World) (b:Nat):Nat:=match W.heap[b]? with
 |some (.cells cs _ _)=>cs.size
 |_=>0
theorem FW_cell {W:World}{b o:Nat}{v:Value} (h:W.cell? ⟨b,o,none⟩=some v):o<FW W b:=by
 unfold World.cell? at h
 unfold FW
 simp only at h
 split at h
 ·rename_i c t fr hb
  simp only[hb]
  simp only[Option.isSome_none,Bool.false_eq_true,if_false] at h
  exact(Array.getElem?_eq_some_iff.1 h).1
 ·cases h
theorem FW_top {W:World}{b:Nat} (h:W.heap.size≤b):FW W b=0:=by
 unfold FW
 rw[Array.getElem?_eq_none h]
structure RelL (W:World) (xs:List D) (cs:List Value):Prop where
 len:xs.length=cs.length
 rel:∀i (h1:i<xs.length) (h2:i<cs.length),RelD (FW W) W xs[i] cs[i]
theorem RelL.append {W:World}{xs ys:List D}{cs ds:List Value} (h:RelL W xs cs) (k:RelL W ys ds):RelL W (xs++ys) (cs++ds):=by
 refine⟨by simp[h.len,k.len],fun i h1 h2=>?_⟩
 by_cases hi:i<xs.length
 ·rw[List.getElem_append_left hi,List.getElem_append_left (by rw[←h.len];exact hi)]
  exact h.rel i hi (by rw[←h.len];exact hi)
 ·have hl:=h.len
  rw[List.getElem_append_right (by omega),List.getElem_append_right (by omega)]
  have e:i-xs.length=i-cs.length:=by omega
  have h1':i-xs.length<ys.length:=by simp only[List.length_append] at h1;omega
  have h2':i-cs.length<ds.length:=by simp only[List.length_append] at h2;omega
  have:=k.rel (i-xs.length) h1' (by omega)
  simp only[e] at this ⊢
  exact this
def Dec (P:Program) (W:World) (n:Nat) (t:TypeId){α:Type} (f:α→List D) (m:α→Nat) (R:α→Prop):Prop:=
 ∀(H:Type) (enc:TypeId×Value→H) (cs:List Value) (x:DataW H×List MemPlace),DataW.trod enc P W 0 (fun _=>true) true n t cs=some x→
  ∃a,RelL W (f a) cs∧m a+1≤Rows.uptoBulk x.1∧R a
section
variable {P:Program}{W:World}{n:Nat}{t:TypeId}
theorem Dec.zero {α:Type}{f:α→List D}{m:α→Nat}{R:α→Prop}:Dec P W 0 t f m R:=fun H enc cs x h=>by simp[DataW.trod] at h
theorem Dec.map {α β:Type}{f:α→List D}{m:α→Nat}{R:α→Prop}{f':β→List D}{m':β→Nat}{R':β→Prop} (g:α→β) (h:Dec P W n t f m R)
  (h1:∀a,f' (g a)=f a) (h2:∀a,m' (g a)≤m a) (h3:∀a,R a→R' (g a)):Dec P W n t f' m' R':=fun H enc cs x hx=>by
 obtain⟨a,q1,q2,q3⟩:=h H enc cs x hx
 exact⟨g a,by rw[h1];exact q1,by have:=h2 a;omega,h3 a q3⟩
theorem RelL.one {x:D}{v:Value} (h:RelD (FW W) W x v):RelL W [x] [v]:=
 ⟨rfl,fun i h1 h2=>by
  have:i=0:=by simp at h1;omega
  subst this
  exact h⟩
theorem Dec.int {k:IntKind} (ht:P.underlying t=some (.int k)):Dec P W n t (fun z:Int=>[.int k z]) (fun _=>0) (fun z=>(Lit.int k z).wf=true):=fun H enc cs x h=>by
 obtain⟨z,rfl,rfl,hw⟩:=DataW.trod_int ht h
 exact⟨z,.one (.int k z),by simp[Rows.uptoBulk],hw⟩
theorem Dec.bool (ht:P.underlying t=some .bool):Dec P W n t (fun z:Bool=>[.bool z]) (fun _=>0) (fun _=>True):=fun H enc cs x h=>by
 obtain⟨z,rfl,rfl⟩:=DataW.trod_bool ht h
 exact⟨z,.one (.bool z),by simp[Rows.uptoBulk],trivial⟩
theorem Dec.str (ht:P.underlying t=some .string):Dec P W n t (fun s:Str=>[.str s]) (fun s=>s.length) (fun _=>True):=fun H enc cs x h=>by
 obtain⟨s,rfl,rfl,hw⟩:=DataW.trod_string ht h
 exact⟨s.data.toList,.one (by have:=RelD.str (F:=FW W) (w:=W) s.data.toList;simpa using this),by simp[Rows.uptoBulk],trivial⟩
def sumM {α:Type} (m:α→Nat):List α→Nat
 | []=>0
 |a::r=>m a+1+sumM m r
theorem zfr {α:Type} (m:α→Nat):∀l:List α,l.length≤sumM m l
 | []=>by simp[sumM]
 |a::r=>by have:=zfr m r;simp only[sumM,List.length_cons];omega
theorem zjB {α β:Type}{Q:Nat→α→β→Prop}:∀(l:List β) (o:Nat),(∀i (h:i<l.length),∃a,Q (o+i) a l[i])→∃zs:List α,zs.length=l.length∧∀i (h:i<l.length) (h':i<zs.length),Q (o+i) zs[i] l[i]
 | [],o,_=>⟨[],rfl,fun i h=>by simp at h⟩
 |b::r,o,h=>by
  obtain⟨a,ha⟩:=h 0 (by simp)
  obtain⟨zs,h1,h2⟩:=zjB (Q:=Q) r (o+1) (fun i hi=>by
   have:=h (i+1) (by simp;omega)
   rw[show o+1+i=o+(i+1) by omega]
   simpa using this)
  refine⟨a::zs,by simp[h1],fun i hi hi'=>?_⟩
  cases i with
  |zero=>exact ha
  |succ i=>
   have:=h2 i (by simpa using hi) (by simpa using hi')
   rw[show o+1+i=o+(i+1) by omega] at this
   simpa using this
theorem zmZ {H α:Type}{m:α→Nat}:∀ {zs:List α}{xs:List (DataW H)},zs.length=xs.length→(∀i (h:i<zs.length) (h':i<xs.length),m zs[i]+1≤Rows.uptoBulk xs[i])→sumM m zs≤Rows.uptoBulkAll xs
 | [],[],_,_=>by simp[sumM,Rows.uptoBulkAll]
 |a::zs,x::xs,hl,h=>by
  have h0:=h 0 (by simp) (by simp)
  have ih:=zmZ (m:=m) (zs:=zs) (xs:=xs) (by simpa using hl) (fun i h1 h2=>by
   have:=h (i+1) (by simp;omega) (by simp;omega)
   simpa using this)
  simp only[sumM,Rows.uptoBulkAll]
  simp only[List.getElem_cons_zero] at h0
  omega
 | [],_::_,hl,_=>by simp at hl
 |_::_,[],hl,_=>by simp at hl
theorem Dec.sl {α:Type}{f:α→List D}{m:α→Nat}{R:α→Prop}{e:TypeId}{k:Nat} (ht:P.underlying t=some (.slice e)) (hc:P.cellsOf e=k+1) (hk:∀a,(f a).length=k+1) (he:Dec P W n e f m R):
  Dec P W (n+1) t (fun l:List α=>[.sl (l.map f)]) (fun l=>sumM m l) (fun l=>∀a∈l,R a):=fun H enc cs x h=>by
 rcases DataW.trod_slice ht h with ⟨rfl,rfl⟩|⟨a,len,cap,elems,rest,n',hn,rfl,rfl,_,hcap,_,hlen,hel,_,_⟩
 ·exact⟨[],.one .nil,by simp[sumM,Rows.uptoBulk],fun a h=>by simp at h⟩
 obtain rfl:n=n':=by omega
 have each:∀i (hi:i<elems.length),∃y,(∃cs,W.cells? 0 (a.add (i*(k+1))) (k+1)=some cs∧RelL W (f y) cs)∧m y+1≤Rows.uptoBulk (elems[i]).1∧R y:=by
  intro i hi
  have:=hel i (by omega)
  rw[hc,List.getElem?_eq_getElem hi,Option.bind_eq_some_iff] at this
  obtain⟨cs,h1,h2⟩:=this
  obtain⟨y,h3,h4,h5⟩:=he H enc cs _ h2
  exact⟨y,⟨cs,h1,h3⟩,h4,h5⟩
 obtain⟨zs,hal,has⟩:=zjB (Q:=fun i y (el:DataW H×List MemPlace)=>(∃cs,W.cells? 0 (a.add (i*(k+1))) (k+1)=some cs∧RelL W (f y) cs)∧m y+1≤Rows.uptoBulk el.1∧R y) elems 0 (fun i hi=>by simpa using each i hi)
 refine⟨zs,.one ?_, ?_,fun y hy=>?_⟩
 ·by_cases h0:zs=[]
  ·subst h0
   have hz:len=0:=by simp at hal;omega
   subst hz
   obtain⟨b,o,s⟩:=a
   cases s with
   |none=>exact .sl [] 0 b o cap (fun _=>undef) (by simp) (by simp) (fun n hn=>by simp at hn) (fun i hi=>by simp at hi)
   |some s=>exact .emp b o s cap
  ·have hpos:0<zs.length:=List.length_pos_iff.2 h0
   obtain⟨⟨cs0,hc0,hr0⟩,_⟩:=has 0 (by omega) hpos
   have hspot:a.spot=none:=by
    have h1:=(World.cells?_some hc0).2.2 0 (by omega)
    have h2:0<cs0.length:=by have:=(World.cells?_some hc0).2.1;omega
    simp only[Nat.add_zero,Nat.zero_mul,Addr.add,if_true,List.getElem?_eq_getElem h2] at h1
    unfold World.cell? at h1
    split at h1
    ·cases hs:a.spot with
     |none=>rfl
     |some s=>simp[hs] at h1
    ·cases h1
   obtain⟨b,o,s⟩:=a
   simp only at hspot
   subst hspot
   have hlen':(zs.map f).length=len:=by simp;omega
   have hmulk:∀i j,i<zs.length→j<k+1→i*(k+1)+j<zs.length*(k+1):=fun i j hi hj=>by
    have:(i+1)*(k+1)≤zs.length*(k+1):=Nat.mul_le_mul_right _ (by omega)
    rw[Nat.add_mul,Nat.one_mul] at this
    omega
   have cellAt:∀i (hi:i<zs.length) j (hj:j<(f zs[i]).length),∃v,W.cell? ⟨b,o+(i*(k+1)+j),none⟩=some v∧RelD (FW W) W ((f zs[i])[j]) v:=fun i hi j hj=>by
    obtain⟨⟨cs,hc1,hr1⟩,_⟩:=has i (by omega) hi
    have hjk:j<k+1:=by have:=hk zs[i];omega
    obtain⟨_,q1,q2⟩:=World.cells?_some hc1
    have q3:=q2 j hjk
    rw[List.getElem?_eq_getElem (by omega)] at q3
    refine⟨cs[j], ?_,hr1.rel j hj (by omega)⟩
    rw[←q3]
    congr 1
    simp only[Nat.zero_add,Addr.add]
    split<;>split<;>simp_all<;>omega
   have hv:((zs.map f).length,cap)=(len,cap):=by rw[hlen']
   have goal:RelD (FW W) W (.sl (zs.map f)) (.slice (some ⟨b,o,none⟩) (zs.map f).length cap):=by
    refine .sl _ (k+1) b o cap (fun q=>(W.cell? ⟨b,o+q,none⟩).getD undef) (fun y hy=>?_) (by omega) (fun q hq=>?_) (fun i hi j hj=>?_)
    ·obtain⟨y',_,rfl⟩:=List.mem_map.1 hy;exact hk y'
    ·have hq':q<zs.length*(k+1):=by simpa using hq
     have hi:q / (k+1)<zs.length:=Nat.div_lt_of_lt_mul (by rw[Nat.mul_comm];exact hq')
     have hj:q % (k+1)<k+1:=Nat.mod_lt _ (by omega)
     obtain⟨v,h1,_⟩:=cellAt _ hi (q % (k+1)) (by rw[hk];exact hj)
     rw[Nat.div_add_mod'] at h1
     exact⟨FW_cell h1,by rw[h1];rfl⟩
    ·have hi':i<zs.length:=by simpa using hi
     simp only[List.getElem_map] at hj ⊢
     obtain⟨v,h1,h2⟩:=cellAt i hi' j hj
     show RelD (FW W) W _ ((W.cell? ⟨b,o+(i*(k+1)+j),none⟩).getD undef)
     rw[h1]
     exact h2
   rw[hlen'] at goal
   exact goal
 ·have:=zmZ (m:=m) (zs:=zs) (xs:=elems.map (·.1)) (by simp[hal]) (fun i h1 h2=>by
   have:=(has i (by simpa using h2) h1).2.1
   simpa using this)
  simp only[Rows.uptoBulk]
  omega
 ·obtain⟨i,hi,rfl⟩:=List.getElem_of_mem hy
  exact(has i (by omega) hi).2.2
def DecF (P:Program) (W:World) (n o K:Nat) (fs:List Field){α:Type} (f:α→List D) (m:α→Nat) (R:α→Prop):Prop:=
 ∀(H:Type) (enc:TypeId×Value→H) (cs:List Value) (xs:List (DataW H×List MemPlace)),cs.length=K→xs.length=fs.length→
  (∀(i:Nat) (fd:Field),fs[i]?=some fd→DataW.trod enc P W 0 (fun _=>true) true n fd.type ((cs.drop fd.offset).take (P.cellsOf fd.type))=xs[i]?)→
  ∃a,RelL W (f a) (cs.drop o)∧m a≤Rows.uptoBulkAll (xs.map (·.1))∧R a
theorem DecF.nil {K:Nat}:DecF P W n K K [] (fun _:Unit=>[]) (fun _=>0) (fun _=>True):=fun H enc cs xs h1 h2 _=>
 ⟨(),by rw[List.drop_of_length_le (by omega)];exact⟨rfl,fun i h=>by simp at h⟩,by simp,trivial⟩
theorem DecF.cons {α β:Type}{f:α→List D}{m:α→Nat}{R:α→Prop}{f2:β→List D}{m2:β→Nat}{R2:β→Prop}{o K k:Nat}{fd:Field}{fs:List Field}
  (h1:Dec P W n fd.type f m R) (ho:fd.offset=o) (hc:P.cellsOf fd.type=k) (h2:DecF P W n (o+k) K fs f2 m2 R2):
  DecF P W n o K (fd::fs) (fun p:α×β=>f p.1++f2 p.2) (fun p=>m p.1+1+m2 p.2) (fun p=>R p.1∧R2 p.2):=fun H enc cs xs hK hl hx=>by
 cases xs with
 |nil=>simp at hl
 |cons y ys=>
  have h0:=hx 0 fd (by simp)
  simp only[List.getElem?_cons_zero] at h0
  rw[ho,hc] at h0
  obtain⟨a,q1,q2,q3⟩:=h1 H enc _ _ h0
  obtain⟨b,r1,r2,r3⟩:=h2 H enc cs ys hK (by simpa using hl) (fun i fd' hi=>by
   have:=hx (i+1) fd' (by simpa using hi)
   simpa using this)
  refine⟨(a,b), ?_, ?_,q3,r3⟩
  ·have:cs.drop o=(cs.drop o).take k++cs.drop (o+k):=by
    rw[←List.drop_drop,List.take_append_drop]
   rw[this]
   exact q1.append r1
  ·simp only[List.map_cons,Rows.uptoBulkAll]
   omega
theorem Dec.struct {α:Type}{f:α→List D}{m:α→Nat}{R:α→Prop}{fs:Array Field} (ht:P.underlying t=some (.struct fs)){K:Nat} (hK:P.cellsOf t=K) (h:DecF P W n 0 K fs.toList f m R):
  Dec P W (n+1) t f m R:=fun H enc cs x hx=>by
 obtain⟨xs,n',hn,rfl,hl,hxl,hf⟩:=DataW.trod_struct ht hx
 obtain rfl:n=n':=by omega
 obtain⟨a,q1,q2,q3⟩:=h H enc cs xs (by omega) (by simpa using hxl) (fun i fd hi=>hf i fd (by simpa using hi))
 refine⟨a,by simpa using q1, ?_,q3⟩
 simp only[Rows.uptoBulk]
 omega
end
section
variable {P:Program}{W:World}{base:Nat}{t:TypeId}{v:Value}{H:Type}{enc:TypeId×Value→H}{d:DataW H}{ps:List MemPlace}
theorem zin {α:Type}{e:TypeId}{f:α→List D}{m:α→Nat}{R:α→Prop}{k:Nat} (ht:P.underlying t=some (.slice e)) (hc:P.cellsOf e=k+1) (hk:∀a,(f a).length=k+1) (hd:∀n,Dec P W n e f m R)
  (hval:Value.okWide P W .any base t v) (h:DataW.Trod enc P W 0 (fun _=>true) true t v d ps):
  ∃l:List α,(∀G T,G.F=FW W→RelA G T W (.d (.sl (l.map f))) v)∧sumM m l+1≤Rows.uptoBulk d∧∀a∈l,R a:=by
 obtain⟨n,hn⟩:=h
 cases n with
 |zero=>simp[DataW.trod] at hn
 |succ n=>
  obtain⟨l,h1,h2,h3⟩:=Dec.sl ht hc hk (hd n) H enc _ _ hn
  have hcells:v.cells.toList=[v]:=by
   cases v with
   |agg cs=>simp only[Value.okWide,ht,Cell.okWide,Cell.ok] at hval
   |_=>rfl
  rw[hcells] at h1
  exact⟨l,fun G T hG=> .d (by rw[hG];simpa using h1.rel 0 (by simp) (by simp)),h2,h3⟩
end
section
variable {P:Program}{H:Type}{enc:TypeId×Value→H}
theorem zid (hl:laidOutB P=true){W W':World} (hb:Below W.heap.size W W'):∀ {ts:List TypeId}{vs:List Value}{ds:List (DataW H)}{ps:List MemPlace},
  (∀t∈ts,P.readableRec t=true∧t<P.types.size)→DataW.TrodAll enc P W 0 (fun _=>true) true ts vs ds ps→(∀x∈ps,x.block<W.heap.size)→
  DataW.TrodAll enc P W' 0 (fun b=>decide (b<W.heap.size)) true ts vs ds ps
 | [],[],[],ps,_,h,_=>h
 |t::ts,v::vs,d::ds,ps,hr,h,hlt=>by
  obtain⟨p,q,h1,h2,rfl⟩:=h
  exact⟨p,q,Below.trod hl (hr t (by simp)).1 (hr t (by simp)).2 h1 hb (fun x hx=>hlt x (by simp[hx])),
   zid hl hb (fun t ht=>hr t (by simp[ht])) h2 (fun x hx=>hlt x (by simp[hx])),rfl⟩
theorem zka {f:Func}{s:ChangeSpec}{W W':World}{args:Array Value}{ds gs:List (DataW H)}{before:List MemPlace}{tb:TypeId}
  (hW:DataW.Whole enc P f.params.toList s.vars false W args.toList ds gs before) (hvars:s.vars=[]) (hrt:f.resultTypes = #[tb]) (htb:P.underlying tb=some .bool)
  (hs:s.fn H (ds++gs)={ results:=[.lit (.bool true)],args:=ds }) (hl:laidOutB P=true) (hr:∀t∈f.params.toList,P.readableRec t=true∧t<P.types.size)
  (hb:Below W.heap.size W W'):s.post enc P f false true false false W args (.bool true) W':=by
 have hlt:∀p∈before,p.block<W.heap.size:=fun p hp=>hW.lt p hp
 have hW0:=hW
 obtain⟨p,q,hA,hV,rfl,hfz,_⟩:=hW
 rw[hvars] at hV
 cases gs with
 |cons g gs=>exact hV.elim
 |nil=>
  have hq:q=[]:=hV
  subst hq
  simp only[List.append_nil] at *
  refine⟨ds,[],p,[],p,[],by simpa [hvars] using hW0, ?_, ?_, ?_,World.keptBut_mono (fun x hx=>⟨hx,.inr (.inl hx)⟩) (hb.frame (·∈p)),fun h=>by cases h⟩
  ·simp only[List.append_nil,hs,hrt]
   exact trodAll_cons_mk (shut_bool htb _) trodAll_mk0
  ·simp only[List.append_nil,hs]
   exact zid hl hb hr hA hlt
  ·simp only[hvars,List.append_nil,hs]
   rfl
theorem ziH {f:FuncId}{avs:List AV}{W:World}{args:Array Value}{r:AV} (hf:FnD P f avs [] r [])
  (hargs:∀G T,G.F=FW W→AllR G T W avs args):Calls P f args W fun e W'=>∃v G',e = .returned v∧RelA G' (fun _=>none) W' r v∧Below W.heap.size W W':=by
 let G:Gh:={ F:=FW W,loc:=fun _=>[] }
 refine(hf G W args ⟨hargs G _ rfl,fun id r h=>(by simp[getH] at h),fun id id' h=>(by simp[getH] at h),fun b hb=>FW_top hb⟩).mono ?_
 rintro e W' ⟨v,r',hp',G',rfl,⟨rfl,rfl⟩,h⟩
 exact⟨v,G',rfl,h.res,⟨h.frm.os,h.frm.tape,h.frm.output,h.frm.size,fun b hb=>(h.frm.block b hb (by simp[zdc])).1⟩⟩
theorem RelA.bool_true {G:Gh}{T:TokF}{w:World}{v:Value} (h:RelA G T w (.d (.bool true)) v):v = .bool true:=by
 cases h with|d h=>cases h;rfl
theorem zjU {H:Type}{l:List (DataW H)} (hk:Rows.uptoSmall H l=true):Rows.uptoBulkAll l≤1048576:=of_decide_eq_true hk
end
end Go.Proofs.YtflgpdjbgfkhoaaGreat
namespace Go.Proofs.YtflgpdjbgfkhoaaGreat
open Go Go.ChangeShapes Go.WideShapes Go.ChangeAt Go.RowKit
set_option linter.unusedSimpArgs false
set_option linter.unusedVariables false
set_option maxRecDepth 100000
theorem zhc (W:World) (n:Nat):Dec Tryz.prog W n 5 (fun x:UInt8=>[D.int .u8 (x.toNat:Int)]) (fun _=>0) (fun _=>True):=fun H enc cs x hx=>by
 obtain⟨z,q1,q2,q3⟩:=Dec.int (k:= .u8) Tryz.underlying5 H enc cs x hx
 have h:0≤z∧z≤255:=by
  simp[Lit.wf,IntKind.wrap,IntKind.signed,IntKind.bits,IntKind.min,IntKind.max] at q3
  omega
 refine⟨UInt8.ofNat z.toNat, ?_,q2,trivial⟩
 have e:(((UInt8.ofNat z.toNat).toNat:Nat):Int)=z:=by
  rw[UInt8.toNat_ofNat',Nat.mod_eq_of_lt (by omega)];omega
 show RelL W [D.int .u8 (((UInt8.ofNat z.toNat).toNat:Nat):Int)] cs
 rw[e];exact q1
end Go.Proofs.YtflgpdjbgfkhoaaGreat
namespace Go.Proofs.YtflgpdjbgfkhoaaGreat
open Go
set_option linter.unusedSimpArgs false
set_option linter.unusedVariables false
set_option maxRecDepth 100000
set_option maxHeartbeats 2000000
theorem zkf {α:Type} [Inhabited α]{l:List α}{m j:Nat} (h:j<m):nth (l.take m) j=nth l j:=by
 simp[nth,List.getD,List.getElem?_take,h]
theorem zpI {l:List Cl}{v:Val}{m:Nat} (hm:m≤l.length):((runV (l.take m) v 0).1 = -1∧((runV l v 0).1 = -1∨(m:Int)≤(runV l v 0).1))∨
  ((runV (l.take m) v 0).1=(runV l v 0).1∧¬(runV (l.take m) v 0).1 = -1∧(runV (l.take m) v 0).2=(runV l v 0).2):=by
 have hlen:(l.take m).length=m:=by simp;omega
 rcases zdk v (l.take m) 0 with ⟨h1,h2,h3⟩|⟨j,h1,h2,h3,h4,h5⟩
 ·rcases zdk v l 0 with ⟨k1,k2,k3⟩|⟨i,k1,k2,k3,k4,k5⟩
  ·exact .inl ⟨h1,.inl k1⟩
  ·refine .inl ⟨h1,.inr ?_⟩
   rw[k2]
   rcases Nat.lt_or_ge i m with h|h
   ·have:=h3 i (by omega)
    rw[zkf h,k4] at this;cases this
   ·omega
 ·rw[hlen] at h1
  rw[zkf h1] at h3 h4
  rcases zdk v l 0 with ⟨k1,k2,k3⟩|⟨i,k1,k2,k3,k4,k5⟩
  ·rw[k3 j (by omega)] at h4;cases h4
  ·have e:j=i:=by
    rcases Nat.lt_trichotomy j i with hl|hl|hl
    ·rw[k5 j hl] at h4;cases h4
    ·exact hl
    ·have:=h5 i hl
     rw[zkf (by omega),k4] at this;cases this
   subst e
   exact .inr ⟨by omega,by omega,by rw[h3,k3]⟩
theorem zhM {b c:Str} (hb:b.length≤1000000000000) (hc:c.length≤1000000000000){w:List Data}{a k:Int}{l:List Cl}{v:Val} (hd:RunD w l v)
  (hdr:FnD Tryz.prog 7 [.d (zaQ b)] [] (.tup [.d (zag w),.agg [.d (.i a),.d (.i k)],.d (zbc l),.agg [.d (.i v.ctor),.d (.i v.num),.d (zaw v.kids)]]) [])
  (hn:¬(zax w ⟨a,k⟩ l=true∧isV w ⟨a,k⟩ v=true)):FnD Tryz.prog 5 [.d (zaQ b),.d (zaQ c)] [] (.d (.bool true)) []:=by
 have hi:=za4 hd.small (a:=a) (k:=k) hd.ok hd.vok
 have hsp:=zbV hd.small (a:=a) (k:=k) hd.ok hd.sz hd.vok hd.vsz
 rw[zfk hn] at hi hsp
 have hll:=hd.len
 refine bd Tryz.f5 128 [58,81] [] fun w0 F0 own kept hk=>?_
 refine sq (fun h1 h1p h1s=>?_) fun h1 h1p h1s=>?_
 ·try simp only[Q] at h1p
  refine sqT ?_
  refine rn0 (r1 rfl) (.eqd ?_)
  all_goals (first|rfl|contradiction|(exfalso;simp at *;done))
 ·try simp only[Q] at h1p
  refine sq (fun h3 h3p h3s=>?_) fun h3 h3p h3s=>?_
  ·try simp only[Q] at h3p
   refine rn0 (r1 rfl) (.eqd ?_)
   all_goals (first|rfl|contradiction|(exfalso;simp at *;done))
  ·try simp only[Q] at h3p
   refine Walk.call (cr:=[]) cal7 (hdr) rfl .none rfl rfl (LeL.refl _) trivial rfl rfl rfl ?_
   refine evs [58,81] [] ?_
   refine Walk.alloc (id:=3006) tz25 rfl .none rfl rfl rfl rfl ?_
   refine Walk.alloc (id:=3008) tz29 rfl .none rfl rfl rfl rfl ?_
   refine evs [58,81] [] ?_
   refine Walk.store ty25 .none rfl rfl rfl rfl rfl rfl (by simp) rfl ?_
   refine evs [58,81] [] ?_
   refine Walk.store ty29 .none rfl rfl rfl rfl rfl rfl (by simp) rfl ?_
   refine tv ?_
   refine Walk.call (cr:=[]) cal8 (hi) rfl .none rfl rfl (LeL.refl _) trivial rfl rfl rfl ?_
   refine evs [58,81] [] ?_
   refine Walk.call (cr:=[]) cal9 (hsp) rfl .none rfl rfl (LeL.refl _) trivial rfl rfl rfl ?_
   refine evs [58,81] [] ?_
   refine sq (fun h4 h4p h4s=>?_) fun h4 h4p h4s=>?_
   ·try simp only[Q] at h4p
    refine sqT ?_
    refine sqT ?_
    refine sqT ?_
    refine sqT ?_
    refine sq (fun h6 h6p h6s=>?_) fun h6 h6p h6s=>?_
    ·try simp only[Q] at h6p
     refine Walk.eqB un4 (.some rfl rfl h6) rfl rfl rfl ?_
     refine evs [58,81] [(78,true)] ?_ ⟨⟨_,rfl,h6⟩,trivial⟩
     refine sq (fun h7 h7p h7s=>?_) fun h7 h7p h7s=>?_
     ·try simp only[Q] at h7p
      refine Walk.call (cr:=[]) za3 (zau (l:=[]) (by simp) (by simp)) rfl (.some rfl rfl h7) rfl rfl (LeL.refl _) trivial rfl rfl rfl ?_
      refine evs [58,81] [(83,true)] ?_ ⟨⟨_,rfl,h7⟩,trivial⟩
      refine rn0 (r1 rfl) (.eqd ?_)
      all_goals (first|rfl|contradiction|(exfalso;simp at *;done))
     ·try simp only[Q] at h7p
      refine rn0 (r1 rfl) (.eqd ?_)
      all_goals (first|rfl|contradiction|(exfalso;simp at *;done))
    ·try simp only[Q] at h6p
     refine sqF ?_
     refine rn0 (r1 rfl) (.eqd ?_)
     all_goals (first|rfl|contradiction|(exfalso;simp at *;done))
   ·try simp only[Q] at h4p
    refine Walk.neB un4 (.some rfl rfl h4) rfl rfl rfl ?_
    refine evs [58,81] [(55,false)] ?_ ⟨⟨_,rfl,h4⟩,trivial⟩
    refine sq (fun h8 h8p h8s=>?_) fun h8 h8p h8s=>?_
    ·try simp only[Q] at h8p
     refine sqT ?_
     refine sqT ?_
     refine sqT ?_
     refine sq (fun h10 h10p h10s=>?_) fun h10 h10p h10s=>?_
     ·try simp only[Q] at h10p
      refine Walk.eqB un4 (.some rfl rfl h10) rfl rfl rfl ?_
      refine evs [58,81] [(78,true)] ?_ ⟨⟨_,rfl,h10⟩,trivial⟩
      refine sq (fun h11 h11p h11s=>?_) fun h11 h11p h11s=>?_
      ·try simp only[Q] at h11p
       refine Walk.call (cr:=[]) za3 (zau (l:=[]) (by simp) (by simp)) rfl (.some rfl rfl h11) rfl rfl (LeL.refl _) trivial rfl rfl rfl ?_
       refine evs [58,81] [(83,true)] ?_ ⟨⟨_,rfl,h11⟩,trivial⟩
       refine rn0 (r1 rfl) (.eqd ?_)
       all_goals (first|rfl|contradiction|(exfalso;simp at *;done))
      ·try simp only[Q] at h11p
       refine rn0 (r1 rfl) (.eqd ?_)
       all_goals (first|rfl|contradiction|(exfalso;simp at *;done))
     ·try simp only[Q] at h10p
      refine sqF ?_
      refine rn0 (r1 rfl) (.eqd ?_)
      all_goals (first|rfl|contradiction|(exfalso;simp at *;done))
    ·try simp only[Q] at h8p
     refine Walk.call (cr:=[]) za3 (zau (l:=[]) (by simp) (by simp)) rfl (.some rfl rfl h8) rfl rfl (LeL.refl _) trivial rfl rfl rfl ?_
     refine evs [58,81] [(60,false)] ?_ ⟨⟨_,rfl,h8⟩,trivial⟩
     refine sq (fun h12 h12p h12s=>?_) fun h12 h12p h12s=>?_
     ·try simp only[Q] at h12p
      refine sqT ?_
      refine sqT ?_
      refine sq (fun h14 h14p h14s=>?_) fun h14 h14p h14s=>?_
      ·try simp only[Q] at h14p
       refine Walk.eqB un4 (.some rfl rfl h14) rfl rfl rfl ?_
       refine evs [58,81] [(78,true)] ?_ ⟨⟨_,rfl,h14⟩,trivial⟩
       refine sq (fun h15 h15p h15s=>?_) fun h15 h15p h15s=>?_
       ·try simp only[Q] at h15p
        refine Walk.call (cr:=[]) za3 (zau (l:=[]) (by simp) (by simp)) rfl (.some rfl rfl h15) rfl rfl (LeL.refl _) trivial rfl rfl rfl ?_
        refine evs [58,81] [(83,true)] ?_ ⟨⟨_,rfl,h15⟩,trivial⟩
        refine rn0 (r1 rfl) (.eqd ?_)
        all_goals (first|rfl|contradiction|(exfalso;simp at *;done))
       ·try simp only[Q] at h15p
        refine rn0 (r1 rfl) (.eqd ?_)
        all_goals (first|rfl|contradiction|(exfalso;simp at *;done))
      ·try simp only[Q] at h14p
       refine sqF ?_
       refine rn0 (r1 rfl) (.eqd ?_)
       all_goals (first|rfl|contradiction|(exfalso;simp at *;done))
     ·try simp only[Q] at h12p
      refine sq (fun h16 h16p h16s=>?_) fun h16 h16p h16s=>?_
      ·try simp only[Q] at h16p
       refine sqT ?_
       refine sq (fun h18 h18p h18s=>?_) fun h18 h18p h18s=>?_
       ·try simp only[Q] at h18p
        refine Walk.eqB un4 (.some rfl rfl h18) rfl rfl rfl ?_
        refine evs [58,81] [(78,true)] ?_ ⟨⟨_,rfl,h18⟩,trivial⟩
        refine sq (fun h19 h19p h19s=>?_) fun h19 h19p h19s=>?_
        ·try simp only[Q] at h19p
         refine Walk.call (cr:=[]) za3 (zau (l:=[]) (by simp) (by simp)) rfl (.some rfl rfl h19) rfl rfl (LeL.refl _) trivial rfl rfl rfl ?_
         refine evs [58,81] [(83,true)] ?_ ⟨⟨_,rfl,h19⟩,trivial⟩
         refine rn0 (r1 rfl) (.eqd ?_)
         all_goals (first|rfl|contradiction|(exfalso;simp at *;done))
        ·try simp only[Q] at h19p
         refine rn0 (r1 rfl) (.eqd ?_)
         all_goals (first|rfl|contradiction|(exfalso;simp at *;done))
       ·try simp only[Q] at h18p
        refine sqF ?_
        refine rn0 (r1 rfl) (.eqd ?_)
        all_goals (first|rfl|contradiction|(exfalso;simp at *;done))
      ·try simp only[Q] at h16p
       refine sq (fun h20 h20p h20s=>?_) fun h20 h20p h20s=>?_
       ·try simp only[Q] at h20p
        refine sq (fun h21 h21p h21s=>?_) fun h21 h21p h21s=>?_
        ·try simp only[Q] at h21p
         refine Walk.eqB un4 (.some rfl rfl h21) rfl rfl rfl ?_
         refine evs [58,81] [(78,true)] ?_ ⟨⟨_,rfl,h21⟩,trivial⟩
         refine sq (fun h22 h22p h22s=>?_) fun h22 h22p h22s=>?_
         ·try simp only[Q] at h22p
          refine Walk.call (cr:=[]) za3 (zau (l:=[]) (by simp) (by simp)) rfl (.some rfl rfl h22) rfl rfl (LeL.refl _) trivial rfl rfl rfl ?_
          refine evs [58,81] [(83,true)] ?_ ⟨⟨_,rfl,h22⟩,trivial⟩
          refine rn0 (r1 rfl) (.eqd ?_)
          all_goals (first|rfl|contradiction|(exfalso;simp at *;done))
         ·try simp only[Q] at h22p
          refine rn0 (r1 rfl) (.eqd ?_)
          all_goals (first|rfl|contradiction|(exfalso;simp at *;done))
        ·try simp only[Q] at h21p
         refine sqF ?_
         refine rn0 (r1 rfl) (.eqd ?_)
         all_goals (first|rfl|contradiction|(exfalso;simp at *;done))
       ·try simp only[Q] at h20p
        exfalso;first|contradiction|(simp at *;done)
theorem zhn {b c:Str} (hb:b.length≤1000000000000) (hc:c.length≤1000000000000){w:List Data}{a k:Int}{l:List Cl}{v:Val} (hd:RunD w l v)
  (hdr:FnD Tryz.prog 7 [.d (zaQ b)] [] (.tup [.d (zag w),.agg [.d (.i a),.d (.i k)],.d (zbc l),.agg [.d (.i v.ctor),.d (.i v.num),.d (zaw v.kids)]]) [])
  (h1:zax w ⟨a,k⟩ l=true) (h2:isV w ⟨a,k⟩ v=true):FnD Tryz.prog 5 [.d (zaQ b),.d (zaQ c)] [] (.d (.bool true)) []:=by
 have hi:=za4 hd.small (a:=a) (k:=k) hd.ok hd.vok
 have hsp:=zbV hd.small (a:=a) (k:=k) hd.ok hd.sz hd.vok hd.vsz
 rw[zdt h1 h2] at hi hsp
 have hll:=hd.len
 have hl8:=(zge h1).2
 have hru:=zg9 h1 hd.ok hd.vok h2
 have hbi:=zhX hru 0
 have hps:=zau (l:=(runV l v 0).2) (by omega) hbi.2
 obtain⟨m,hm0⟩:∃m:Nat,m=c.length % l.length:=⟨_,rfl⟩
 have hml:0<l.length→m≤l.length:=fun h=>by have:=Nat.mod_lt c.length h;omega
 have hmod1:(((c.map zhx).length:Int) % ((l.map Cl.c).length:Int))=(m:Int):=by rw[hm0];simp
 have hmod2:((c.length:Int) % (l.length:Int))=(m:Int):=by rw[hm0];simp
 have hlen2:((l.map Cl.c).length:Int)=l.length:=by simp
 have hokt:ClsOk (l.take m):=⟨by simp;omega,fun x hx=>hd.ok.2 x (List.mem_of_mem_take hx)⟩
 have hcvt:zax w ⟨a,k⟩ (l.take m)=true:=zjC h1 (fun x hx=>zn9 h1 x (List.mem_of_mem_take hx)) (by simp;omega)
 have hit:=za4 hd.small (a:=a) (k:=k) (v:=v) hokt hd.vok
 rw[zdt hcvt h2,show zbc (l.take m) = .sl ((l.map Cl.c).take m) by rw[←List.map_take]] at hit
 have hrt:=fun h=>zpI (l:=l) (v:=v) (hml h)
 have hf:0<l.length→((runV (l.take m) v 0).1 = -1∧((runV l v 0).1 = -1∨(m:Int)≤(runV l v 0).1))∨((runV (l.take m) v 0).1=(runV l v 0).1∧¬(runV (l.take m) v 0).1 = -1):=fun h=>by
  rcases hrt h with h|h
  ·exact .inl h
  ·exact .inr ⟨h.1,h.2.1⟩
 have hpb:0<l.length→¬(runV (l.take m) v 0).1 = -1→FnD Tryz.prog 10 [.d (za2 (runV l v 0).2),.d (za2 (runV (l.take m) v 0).2)] [] (.d (.bool true)) []:=fun h h3=>by
  rcases hrt h with h|h
  ·exact absurd h.1 h3
  ·rw[h.2.2];exact hps
 clear hrt
 generalize runV (l.take m) v 0=y at *
 generalize runV l v 0=z at *
 obtain⟨z1,z2⟩:=z
 obtain⟨y1,y2⟩:=y
 dsimp only at *
 refine bd Tryz.f5 128 [58,81,92] [] fun w0 F0 own kept hk=>?_
 refine sq (fun h1 h1p h1s=>?_) fun h1 h1p h1s=>?_
 ·try simp only[Q,hmod2] at h1p
  refine sqT ?_
  refine rn0 (r1 rfl) (.eqd ?_)
  all_goals (first|rfl|contradiction|(exfalso;have:=hf (by omega);omega)|(refine congrArg D.bool ?_;have:=hf (by omega);simp;omega)|(exfalso;simp at *;done))
 ·try simp only[Q,hmod2] at h1p
  refine sq (fun h3 h3p h3s=>?_) fun h3 h3p h3s=>?_
  ·try simp only[Q,hmod2] at h3p
   refine rn0 (r1 rfl) (.eqd ?_)
   all_goals (first|rfl|contradiction|(exfalso;have:=hf (by omega);omega)|(refine congrArg D.bool ?_;have:=hf (by omega);simp;omega)|(exfalso;simp at *;done))
  ·try simp only[Q,hmod2] at h3p
   refine Walk.call (cr:=[]) cal7 (hdr) rfl .none rfl rfl (LeL.refl _) trivial rfl rfl rfl ?_
   refine evs [58,81,92] [] ?_
   refine Walk.alloc (id:=3006) tz25 rfl .none rfl rfl rfl rfl ?_
   refine Walk.alloc (id:=3008) tz29 rfl .none rfl rfl rfl rfl ?_
   refine evs [58,81,92] [] ?_
   refine Walk.store ty25 .none rfl rfl rfl rfl rfl rfl (by simp) rfl ?_
   refine evs [58,81,92] [] ?_
   refine Walk.store ty29 .none rfl rfl rfl rfl rfl rfl (by simp) rfl ?_
   refine tv ?_
   refine Walk.call (cr:=[]) cal8 (hi) rfl .none rfl rfl (LeL.refl _) trivial rfl rfl rfl ?_
   refine evs [58,81,92] [] ?_
   refine Walk.call (cr:=[]) cal9 (hsp) rfl .none rfl rfl (LeL.refl _) trivial rfl rfl rfl ?_
   refine evs [58,81,92] [] ?_
   refine sq (fun h4 h4p h4s=>?_) fun h4 h4p h4s=>?_
   ·try simp only[Q,hmod2] at h4p
    refine sqT ?_
    refine sqT ?_
    refine sqT ?_
    refine sqT ?_
    refine sq (fun h6 h6p h6s=>?_) fun h6 h6p h6s=>?_
    ·try simp only[Q,hmod2] at h6p
     refine Walk.eqB un4 (.some rfl rfl h6) rfl rfl rfl ?_
     refine evs [58,81,92] [(78,true)] ?_ ⟨⟨_,rfl,h6⟩,trivial⟩
     refine sq (fun h7 h7p h7s=>?_) fun h7 h7p h7s=>?_
     ·try simp only[Q,hmod2] at h7p
      refine Walk.call (cr:=[]) za3 (hps) rfl (.some rfl rfl h7) rfl rfl (LeL.refl _) trivial rfl rfl rfl ?_
      refine evs [58,81,92] [(83,true)] ?_ ⟨⟨_,rfl,h7⟩,trivial⟩
      refine rn0 (r1 rfl) (.eqd ?_)
      all_goals (first|rfl|contradiction|(exfalso;have:=hf (by omega);omega)|(refine congrArg D.bool ?_;have:=hf (by omega);simp;omega)|(exfalso;simp at *;done))
     ·try simp only[Q,hmod2] at h7p
      refine rn0 (r1 rfl) (.eqd ?_)
      all_goals (first|rfl|contradiction|(exfalso;have:=hf (by omega);omega)|(refine congrArg D.bool ?_;have:=hf (by omega);simp;omega)|(exfalso;simp at *;done))
    ·try simp only[Q,hmod2] at h6p
     refine sqF ?_
     refine rn0 (r1 rfl) (.eqd ?_)
     all_goals (first|rfl|contradiction|(exfalso;have:=hf (by omega);omega)|(refine congrArg D.bool ?_;have:=hf (by omega);simp;omega)|(exfalso;simp at *;done))
   ·try simp only[Q,hmod2] at h4p
    refine Walk.neB un4 (.some rfl rfl h4) rfl rfl rfl ?_
    refine evs [58,81,92] [(55,false)] ?_ ⟨⟨_,rfl,h4⟩,trivial⟩
    refine sq (fun h8 h8p h8s=>?_) fun h8 h8p h8s=>?_
    ·try simp only[Q,hmod2] at h8p
     refine sqT ?_
     refine sqT ?_
     refine sqT ?_
     refine sq (fun h10 h10p h10s=>?_) fun h10 h10p h10s=>?_
     ·try simp only[Q,hmod2] at h10p
      refine Walk.eqB un4 (.some rfl rfl h10) rfl rfl rfl ?_
      refine evs [58,81,92] [(78,true)] ?_ ⟨⟨_,rfl,h10⟩,trivial⟩
      refine sq (fun h11 h11p h11s=>?_) fun h11 h11p h11s=>?_
      ·try simp only[Q,hmod2] at h11p
       refine Walk.call (cr:=[]) za3 (hps) rfl (.some rfl rfl h11) rfl rfl (LeL.refl _) trivial rfl rfl rfl ?_
       refine evs [58,81,92] [(83,true)] ?_ ⟨⟨_,rfl,h11⟩,trivial⟩
       refine rn0 (r1 rfl) (.eqd ?_)
       all_goals (first|rfl|contradiction|(exfalso;have:=hf (by omega);omega)|(refine congrArg D.bool ?_;have:=hf (by omega);simp;omega)|(exfalso;simp at *;done))
      ·try simp only[Q,hmod2] at h11p
       refine rn0 (r1 rfl) (.eqd ?_)
       all_goals (first|rfl|contradiction|(exfalso;have:=hf (by omega);omega)|(refine congrArg D.bool ?_;have:=hf (by omega);simp;omega)|(exfalso;simp at *;done))
     ·try simp only[Q,hmod2] at h10p
      refine sqF ?_
      refine rn0 (r1 rfl) (.eqd ?_)
      all_goals (first|rfl|contradiction|(exfalso;have:=hf (by omega);omega)|(refine congrArg D.bool ?_;have:=hf (by omega);simp;omega)|(exfalso;simp at *;done))
    ·try simp only[Q,hmod2] at h8p
     refine Walk.call (cr:=[]) za3 (hps) rfl (.some rfl rfl h8) rfl rfl (LeL.refl _) trivial rfl rfl rfl ?_
     refine evs [58,81,92] [(60,false)] ?_ ⟨⟨_,rfl,h8⟩,trivial⟩
     refine sq (fun h12 h12p h12s=>?_) fun h12 h12p h12s=>?_
     ·try simp only[Q,hmod2] at h12p
      refine sqT ?_
      refine sqT ?_
      refine sq (fun h14 h14p h14s=>?_) fun h14 h14p h14s=>?_
      ·try simp only[Q,hmod2] at h14p
       refine Walk.eqB un4 (.some rfl rfl h14) rfl rfl rfl ?_
       refine evs [58,81,92] [(78,true)] ?_ ⟨⟨_,rfl,h14⟩,trivial⟩
       refine sq (fun h15 h15p h15s=>?_) fun h15 h15p h15s=>?_
       ·try simp only[Q,hmod2] at h15p
        refine Walk.call (cr:=[]) za3 (hps) rfl (.some rfl rfl h15) rfl rfl (LeL.refl _) trivial rfl rfl rfl ?_
        refine evs [58,81,92] [(83,true)] ?_ ⟨⟨_,rfl,h15⟩,trivial⟩
        refine rn0 (r1 rfl) (.eqd ?_)
        all_goals (first|rfl|contradiction|(exfalso;have:=hf (by omega);omega)|(refine congrArg D.bool ?_;have:=hf (by omega);simp;omega)|(exfalso;simp at *;done))
       ·try simp only[Q,hmod2] at h15p
        refine rn0 (r1 rfl) (.eqd ?_)
        all_goals (first|rfl|contradiction|(exfalso;have:=hf (by omega);omega)|(refine congrArg D.bool ?_;have:=hf (by omega);simp;omega)|(exfalso;simp at *;done))
      ·try simp only[Q,hmod2] at h14p
       refine sqF ?_
       refine rn0 (r1 rfl) (.eqd ?_)
       all_goals (first|rfl|contradiction|(exfalso;have:=hf (by omega);omega)|(refine congrArg D.bool ?_;have:=hf (by omega);simp;omega)|(exfalso;simp at *;done))
     ·try simp only[Q,hmod2] at h12p
      refine sq (fun h16 h16p h16s=>?_) fun h16 h16p h16s=>?_
      ·try simp only[Q,hmod2] at h16p
       refine sqT ?_
       refine sq (fun h18 h18p h18s=>?_) fun h18 h18p h18s=>?_
       ·try simp only[Q,hmod2] at h18p
        refine Walk.eqB un4 (.some rfl rfl h18) rfl rfl rfl ?_
        refine evs [58,81,92] [(78,true)] ?_ ⟨⟨_,rfl,h18⟩,trivial⟩
        refine sq (fun h19 h19p h19s=>?_) fun h19 h19p h19s=>?_
        ·try simp only[Q,hmod2] at h19p
         refine Walk.call (cr:=[]) za3 (hps) rfl (.some rfl rfl h19) rfl rfl (LeL.refl _) trivial rfl rfl rfl ?_
         refine evs [58,81,92] [(83,true)] ?_ ⟨⟨_,rfl,h19⟩,trivial⟩
         refine rn0 (r1 rfl) (.eqd ?_)
         all_goals (first|rfl|contradiction|(exfalso;have:=hf (by omega);omega)|(refine congrArg D.bool ?_;have:=hf (by omega);simp;omega)|(exfalso;simp at *;done))
        ·try simp only[Q,hmod2] at h19p
         refine rn0 (r1 rfl) (.eqd ?_)
         all_goals (first|rfl|contradiction|(exfalso;have:=hf (by omega);omega)|(refine congrArg D.bool ?_;have:=hf (by omega);simp;omega)|(exfalso;simp at *;done))
       ·try simp only[Q,hmod2] at h18p
        refine sqF ?_
        refine rn0 (r1 rfl) (.eqd ?_)
        all_goals (first|rfl|contradiction|(exfalso;have:=hf (by omega);omega)|(refine congrArg D.bool ?_;have:=hf (by omega);simp;omega)|(exfalso;simp at *;done))
      ·try simp only[Q,hmod2] at h16p
       refine sq (fun h20 h20p h20s=>?_) fun h20 h20p h20s=>?_
       ·try simp only[Q,hmod2] at h20p
        refine sq (fun h21 h21p h21s=>?_) fun h21 h21p h21s=>?_
        ·try simp only[Q,hmod2] at h21p
         refine Walk.eqB un4 (.some rfl rfl h21) rfl rfl rfl ?_
         refine evs [58,81,92] [(78,true)] ?_ ⟨⟨_,rfl,h21⟩,trivial⟩
         refine sq (fun h22 h22p h22s=>?_) fun h22 h22p h22s=>?_
         ·try simp only[Q,hmod2] at h22p
          refine Walk.call (cr:=[]) za3 (hps) rfl (.some rfl rfl h22) rfl rfl (LeL.refl _) trivial rfl rfl rfl ?_
          refine evs [58,81,92] [(83,true)] ?_ ⟨⟨_,rfl,h22⟩,trivial⟩
          refine rn0 (r1 rfl) (.eqd ?_)
          all_goals (first|rfl|contradiction|(exfalso;have:=hf (by omega);omega)|(refine congrArg D.bool ?_;have:=hf (by omega);simp;omega)|(exfalso;simp at *;done))
         ·try simp only[Q,hmod2] at h22p
          refine rn0 (r1 rfl) (.eqd ?_)
          all_goals (first|rfl|contradiction|(exfalso;have:=hf (by omega);omega)|(refine congrArg D.bool ?_;have:=hf (by omega);simp;omega)|(exfalso;simp at *;done))
        ·try simp only[Q,hmod2] at h21p
         refine sqF ?_
         refine rn0 (r1 rfl) (.eqd ?_)
         all_goals (first|rfl|contradiction|(exfalso;have:=hf (by omega);omega)|(refine congrArg D.bool ?_;have:=hf (by omega);simp;omega)|(exfalso;simp at *;done))
       ·try simp only[Q,hmod2] at h20p
        refine Walk.remI .none rfl rfl rfl (by omega) ?_
        refine evs [58,81,92] [] ?_
        refine Walk.cut_h (b:=m) sl26 .none rfl rfl rfl (by exact zdb _) rfl (by first|exact hmod1|exact hmod2) (by rw[List.length_map];exact hml (by omega)) ?_
        refine evd [58,81,92] [] ?_
        refine Walk.call (cr:=[]) cal8 (hit) rfl .none rfl rfl (LeL.refl _) trivial rfl rfl rfl ?_
        refine evd [58,81,92] [] ?_
        refine dr ?_
        refine sq (fun h23 h23p h23s=>?_) fun h23 h23p h23s=>?_
        ·try simp only[Q,hmod2] at h23p
         refine sq (fun h24 h24p h24s=>?_) fun h24 h24p h24s=>?_
         ·try simp only[Q,hmod2] at h24p
          refine sq (fun h25 h25p h25s=>?_) fun h25 h25p h25s=>?_
          ·try simp only[Q,hmod2] at h25p
           refine sqT ?_
           refine rn0 (r1 rfl) (.eqd ?_)
           all_goals (first|rfl|contradiction|(exfalso;have:=hf (by omega);omega)|(refine congrArg D.bool ?_;have:=hf (by omega);simp;omega)|(exfalso;simp at *;done))
          ·try simp only[Q,hmod2] at h25p
           refine sq (fun h26 h26p h26s=>?_) fun h26 h26p h26s=>?_
           ·try simp only[Q,hmod2] at h26p
            refine rn0 (r1 rfl) (.eqd ?_)
            all_goals (first|rfl|contradiction|(exfalso;have:=hf (by omega);omega)|(refine congrArg D.bool ?_;have:=hf (by omega);simp;omega)|(exfalso;simp at *;done))
           ·try simp only[Q,hmod2] at h26p
            refine sq (fun h27 h27p h27s=>?_) fun h27 h27p h27s=>?_
            ·try simp only[Q,hmod2] at h27p
             refine Walk.call (cr:=[]) za3 (hpb (by omega) (by have:=hf (by omega);omega)) rfl (.some rfl rfl h27) rfl rfl (LeL.refl _) trivial rfl rfl rfl ?_
             refine evs [58,81,92] [(105,true),(117,false),(121,true)] ?_ ⟨⟨_,rfl,h23⟩,⟨_,rfl,h26⟩,⟨_,rfl,h27⟩,trivial⟩
             refine rn0 (r1 rfl) (.eqd ?_)
             all_goals (first|rfl|contradiction|(exfalso;have:=hf (by omega);omega)|(refine congrArg D.bool ?_;have:=hf (by omega);simp;omega)|(exfalso;simp at *;done))
            ·try simp only[Q,hmod2] at h27p
             refine rn0 (r1 rfl) (.eqd ?_)
             all_goals (first|rfl|contradiction|(exfalso;have:=hf (by omega);omega)|(refine congrArg D.bool ?_;have:=hf (by omega);simp;omega)|(exfalso;simp at *;done))
         ·try simp only[Q,hmod2] at h24p
          refine sqF ?_
          refine sq (fun h28 h28p h28s=>?_) fun h28 h28p h28s=>?_
          ·try simp only[Q,hmod2] at h28p
           refine Walk.call (cr:=[]) za3 (hpb (by omega) (by have:=hf (by omega);omega)) rfl (.some rfl rfl h28) rfl rfl (LeL.refl _) trivial rfl rfl rfl ?_
           refine evs [58,81,92] [(105,true),(117,false),(121,true)] ?_ ⟨⟨_,rfl,h23⟩,⟨_,rfl,rfl⟩,⟨_,rfl,h28⟩,trivial⟩
           refine rn0 (r1 rfl) (.eqd ?_)
           all_goals (first|rfl|contradiction|(exfalso;have:=hf (by omega);omega)|(refine congrArg D.bool ?_;have:=hf (by omega);simp;omega)|(exfalso;simp at *;done))
          ·try simp only[Q,hmod2] at h28p
           refine rn0 (r1 rfl) (.eqd ?_)
           all_goals (first|rfl|contradiction|(exfalso;have:=hf (by omega);omega)|(refine congrArg D.bool ?_;have:=hf (by omega);simp;omega)|(exfalso;simp at *;done))
        ·try simp only[Q,hmod2] at h23p
         refine rn0 (r1 rfl) (.eqd ?_)
         all_goals (first|rfl|contradiction|(exfalso;have:=hf (by omega);omega)|(refine congrArg D.bool ?_;have:=hf (by omega);simp;omega)|(exfalso;simp at *;done))
theorem zih {b c:Str} (hb:b.length≤1000000000000) (hc:c.length≤1000000000000):FnD Tryz.prog 5 [.d (zaQ b),.d (zaQ c)] [] (.d (.bool true)) []:=by
 have hb2:(b.take 2000).length≤2000:=by rw[List.length_take];omega
 obtain⟨v,q,hm⟩:=znr hb2 (rcQ (b.take 2000)) (typV (b.take 2000) 0).1
 have hdr:=zc4 hb hm
 have hd:=zlK hm
 by_cases hn:zax (rcW (b.take 2000)) ⟨(rcT (b.take 2000)).data,(rcT (b.take 2000)).index⟩ (rcL (b.take 2000))=true∧isV (rcW (b.take 2000)) ⟨(rcT (b.take 2000)).data,(rcT (b.take 2000)).index⟩ v=true
 ·exact zhn hb hc hd hdr hn.1 hn.2
 ·exact zhM hb hc hd hdr hn
end Go.Proofs.YtflgpdjbgfkhoaaGreat
