/-
  THE ABSTRACT WALK AND THE WALKS, part 5 of 6: the parts F36, F37, F82, F83, F38, F79, F59, F80, F60, F61, F30, F63, F81, F84, Ta, F86, F64, F87, F88, F89, F110, F113, F102, F39, F90, F91, F92, F93, F94, F97, F98, F99, F95, F96, F100, F101, F103, F104, F105.
-/
import Derived.Test.YtcnjkjdmbnhcaaaGreatU4
namespace Go.Proofs.YtcnjkjdmbnhcaaaGreat
open Go
set_option linter.unusedSimpArgs false
set_option linter.unusedVariables false
set_option maxRecDepth 100000
set_option maxHeartbeats 2000000
def namL (f:Pat→Int→Nat→Pat×Int×Nat):List Pat→Int→Nat→List Pat×Int×Nat
 | [],m,q=>([],m,q)
 |x::r,m,q=>((f x m q).1::(namL f r (f x m q).2.1 (f x m q).2.2).1,(namL f r (f x m q).2.1 (f x m q).2.2).2)
def namP (b:Str):Nat→Pat→Int→Nat→Pat×Int×Nat
 |0,p,m,q=>(p,m,q)
 |n+1,p,m,q=>
  if 5<m∨p.op=5∨p.op=3 then (p,m,q)
  else if p.op=1∧zan b q 2=0 then (⟨2,0,0,0,m,[]⟩,m+1,q+1)
  else if (namL (namP b n) p.kids m (if p.op=1 then q+1 else q)).2.1≤5 then
   (if zan b (namL (namP b n) p.kids m (if p.op=1 then q+1 else q)).2.2 6=0 then
    (⟨6,0,0,0,(namL (namP b n) p.kids m (if p.op=1 then q+1 else q)).2.1,[⟨p.op,p.ctor,p.n,p.m,p.var,(namL (namP b n) p.kids m (if p.op=1 then q+1 else q)).1⟩]⟩,
     (namL (namP b n) p.kids m (if p.op=1 then q+1 else q)).2.1+1,(namL (namP b n) p.kids m (if p.op=1 then q+1 else q)).2.2+1)
   else (⟨p.op,p.ctor,p.n,p.m,p.var,(namL (namP b n) p.kids m (if p.op=1 then q+1 else q)).1⟩,(namL (namP b n) p.kids m (if p.op=1 then q+1 else q)).2.1,(namL (namP b n) p.kids m (if p.op=1 then q+1 else q)).2.2+1))
  else (⟨p.op,p.ctor,p.n,p.m,p.var,(namL (namP b n) p.kids m (if p.op=1 then q+1 else q)).1⟩,(namL (namP b n) p.kids m (if p.op=1 then q+1 else q)).2.1,(namL (namP b n) p.kids m (if p.op=1 then q+1 else q)).2.2)
section
variable {b:Str}{n:Nat}{p:Pat}{m:Int}{q:Nat}{ks:List Pat}{zm:Int}{zq:Nat}
theorem zqy (h:5<m∨p.op=5∨p.op=3):namP b (n+1) p m q=(p,m,q):=by simp only[namP];rw[if_pos h]
theorem zqz (h:¬(5<m∨p.op=5∨p.op=3)) (h2:p.op=1∧zan b q 2=0):namP b (n+1) p m q=(⟨2,0,0,0,m,[]⟩,m+1,q+1):=by simp only[namP];rw[if_neg h,if_pos h2]
theorem zqA (h:¬(5<m∨p.op=5∨p.op=3)) (h2:¬(p.op=1∧zan b q 2=0)) (hz:(ks,zm,zq)=namL (namP b n) p.kids m (if p.op=1 then q+1 else q)) (h3:zm≤5) (h4:zan b zq 6=0):
  namP b (n+1) p m q=(⟨6,0,0,0,zm,[⟨p.op,p.ctor,p.n,p.m,p.var,ks⟩]⟩,zm+1,zq+1):=by
 simp only[namP];rw[if_neg h,if_neg h2,←hz];dsimp only;rw[if_pos h3,if_pos h4]
theorem zqB (h:¬(5<m∨p.op=5∨p.op=3)) (h2:¬(p.op=1∧zan b q 2=0)) (hz:(ks,zm,zq)=namL (namP b n) p.kids m (if p.op=1 then q+1 else q)) (h3:zm≤5) (h4:¬zan b zq 6=0):
  namP b (n+1) p m q=(⟨p.op,p.ctor,p.n,p.m,p.var,ks⟩,zm,zq+1):=by
 simp only[namP];rw[if_neg h,if_neg h2,←hz];dsimp only;rw[if_pos h3,if_neg h4]
theorem zqC (h:¬(5<m∨p.op=5∨p.op=3)) (h2:¬(p.op=1∧zan b q 2=0)) (hz:(ks,zm,zq)=namL (namP b n) p.kids m (if p.op=1 then q+1 else q)) (h3:¬zm≤5):
  namP b (n+1) p m q=(⟨p.op,p.ctor,p.n,p.m,p.var,ks⟩,zm,zq):=by
 simp only[namP];rw[if_neg h,if_neg h2,←hz];dsimp only;rw[if_neg h3]
end
def NamOk (p:Pat) (m:Int) (q:Nat) (r:Pat×Int×Nat):Prop:=m≤r.2.1∧r.2.1≤6∧r.2.2≤q+2*p.size∧r.1.size≤2*p.size∧(p.ok→r.1.ok)
theorem zp0 {f:Pat→Int→Nat→Pat×Int×Nat}:∀(l:List Pat) (m:Int) (q:Nat),(∀x∈l,∀m q,0≤m→m≤6→NamOk x m q (f x m q))→0≤m→m≤6→
  m≤(namL f l m q).2.1∧(namL f l m q).2.1≤6∧(namL f l m q).2.2≤q+2*Pats.size l∧Pats.size (namL f l m q).1≤2*Pats.size l∧(namL f l m q).1.length=l.length∧(Pats.ok l→Pats.ok (namL f l m q).1)
 | [],m,q,_,_,h6=>by simp[namL,Pats.size,h6]
 |x::r,m,q,h,h0,h6=>by
  obtain⟨a1,a2,a3,a4,a5⟩:=h x (by simp) m q h0 h6
  obtain⟨b1,b2,b3,b4,b5,b6⟩:=zp0 r (f x m q).2.1 (f x m q).2.2 (fun y hy=>h y (by simp[hy])) (by omega) a2
  simp only[namL,Pats.size,List.length_cons]
  refine⟨by omega,by omega,by omega,by omega,by omega,fun ho=>?_⟩
  exact⟨a5 ho.1,b6 ho.2⟩
theorem zmE {b:Str}:∀(n:Nat) (p:Pat) (m:Int) (q:Nat),0≤m→m≤6→NamOk p m q (namP b n p m q)
 |0,p,m,q,h0,h6=>⟨by simp[namP],by simp[namP,h6],by simp[namP],by simp[namP];omega,fun h=>h⟩
 |n+1,p,m,q,h0,h6=>by
  have hs:=Pat.size_eq p
  by_cases h:5<m∨p.op=5∨p.op=3
  ·rw[zqy h];exact⟨Int.le_refl _,h6,by dsimp only;omega,by dsimp only;omega,fun h=>h⟩
  ·by_cases h2:p.op=1∧zan b q 2=0
   ·rw[zqz h h2]
    refine⟨by dsimp only;omega,by dsimp only;omega,by dsimp only;omega, ?_,fun _=>?_⟩
    ·show(Pat.mk 2 0 0 0 m []).size≤_;rw[Pat.size_eq];simp only[Pat.kids,Pats.size];omega
    ·show(Pat.mk 2 0 0 0 m []).ok;rw[Pat.ok_iff];exact⟨by simp[Pat.kids],trivial⟩
   ·generalize hz:namL (namP b n) p.kids m (if p.op=1 then q+1 else q)=z
    obtain⟨ks,zm,zq⟩:=z
    have hq:(if p.op=1 then q+1 else q)≤q+1:=by split<;>omega
    obtain⟨b1,b2,b3,b4,b5,b6⟩:=zp0 (f:=namP b n) p.kids m (if p.op=1 then q+1 else q) (fun x _ m q h0 h6=>zmE n x m q h0 h6) h0 h6
    rw[hz] at b1 b2 b3 b4 b5 b6
    dsimp only at b1 b2 b3 b4 b5 b6
    have so:(Pat.mk p.op p.ctor p.n p.m p.var ks).size=1+Pats.size ks:=by rw[Pat.size_eq];rfl
    have ko:p.ok→(Pat.mk p.op p.ctor p.n p.m p.var ks).ok:=fun h=>by
     rw[Pat.ok_iff] at h ⊢
     exact⟨by show ks.length≤_;rw[b5];exact h.1,b6 h.2⟩
    by_cases h3:zm≤5
    ·by_cases h4:zan b zq 6=0
     ·rw[zqA h h2 hz.symm h3 h4]
      refine⟨by dsimp only;omega,by dsimp only;omega,by dsimp only;omega, ?_,fun hk=>?_⟩
      ·dsimp only;rw[Pat.size_eq];simp only[Pat.kids,Pats.size];rw[so];omega
      ·dsimp only;rw[Pat.ok_iff];exact⟨by simp[Pat.kids],ko hk,trivial⟩
     ·rw[zqB h h2 hz.symm h3 h4]
      exact⟨b1,b2,by dsimp only;omega,by dsimp only;rw[so];omega,ko⟩
    ·rw[zqC h h2 hz.symm h3]
     exact⟨b1,b2,by dsimp only;omega,by dsimp only;rw[so];omega,ko⟩
theorem zfo {f:Pat→Int→Nat→Pat×Int×Nat}{ks:List Pat}{zm:Int}{zq:Nat}{z:List Pat×Int×Nat} (h:(ks++(namL f [] zm zq).1,(namL f [] zm zq).2)=z):(ks,zm,zq)=z:=by
 rw[←h];simp[namL]
theorem Pats.size_snoc {l:List Pat}{y:Pat}:Pats.size (l++[y])=Pats.size l+y.size:=by
 have:=Pats.size_split (pre:=l) (rest:=[]) (y:=y) rfl
 simpa [Pats.size] using this
theorem zfu {b:Str} (hb:b.length≤2000):∀(n:Nat){p:Pat}{m:Int}{q:Nat},p.size≤n→p.ok→0≤m→m≤6→q+2*p.size≤1000000→
  FnD Tryz.prog 286 [.ref 900 0,.agg [.d (.i p.op),.d (.i p.ctor),.d (.i p.n),.d (.i p.m),.d (.i p.var),.d (zae p.kids)],.d (.i m)] [(900,some (rdB b q))] (.tup [.agg [.d (.i (namP b n p m q).1.op),.d (.i (namP b n p m q).1.ctor),.d (.i (namP b n p m q).1.n),.d (.i (namP b n p m q).1.m),.d (.i (namP b n p m q).1.var),.d (zae (namP b n p m q).1.kids)],.d (.i (namP b n p m q).2.1)]) [(900,some (rdB b (namP b n p m q).2.2))]
 |0,p,m,q,h,_,_,_,_=>by rw[Pat.size_eq] at h;omega
 |n+1,p,m,q,kn,hok,k0,k6,hq=>by
  have hs:=Pat.size_eq p
  have hok':=hok
  rw[Pat.ok_iff] at hok'
  have ih:=fun(x:Pat) (m:Int) (q:Nat) (h0:0≤m) (h6:m≤6)=>zmE (b:=b) n x m q h0 h6
  have hysz:∀ {pre rest:List Pat}{y:Pat},pre++y::rest=p.kids→y.size+Pats.size pre+Pats.size rest=Pats.size p.kids:=fun h=>by have:=Pats.size_split h;omega
  have hq1:(if p.op=1 then q+1 else q)≤q+1:=by split<;>omega
  generalize hqq:(if p.op=1 then q+1 else q)=q1 at hq1
  have hqa:p.op=1→q1=q+1:=fun h=>by rw[←hqq,if_pos h]
  have hqb:¬p.op=1→q1=q:=fun h=>by rw[←hqq,if_neg h]
  refine bd Tryz.f286 82 [] [] fun w0 F0 own kept hk=>?_
  refine Walk.box (id:=3004) .none rfl rfl rfl rfl rfl rfl rfl ?_
  refine Walk.alloc (id:=3006) tz56 rfl .none rfl rfl rfl rfl ?_
  refine ev ?_
  refine sq (fun h1 h1p h1s=>?_) fun h1 h1p h1s=>?_
  try simp only[Q,Pat.cs_len] at h1p
  refine sqT ?_
  refine sqT ?_
  refine Walk.store ty56 .none rfl rfl rfl rfl rfl rfl (by simp) rfl ?_
  refine ev ?_
  refine rn [(900,some (rdB b (namP b (n+1) p m q).2.2))] (.cons (.cellA ty56 rfl rfl rfl) (.cons (.tmp rfl) .nil)) (.tup (.cons (.agg (.cons (.eqd ?_) (.cons (.eqd ?_) (.cons (.eqd ?_) (.cons (.eqd ?_) (.cons (.eqd ?_) (.cons (.eqd ?_) .nil))))))) (.cons (.eqd ?_) .nil))) ⟨rfl,rfl⟩ (SubO.get ⟨.inr ?_,⟨.inl rfl,trivial⟩⟩) (zaB rfl)
  rotate_left 8
  try simp only[Q,Pat.cs_len] at h1p
  refine sq (fun h3 h3p h3s=>?_) fun h3 h3p h3s=>?_
  try simp only[Q,Pat.cs_len] at h3p
  refine sqT ?_
  refine Walk.store ty56 .none rfl rfl rfl rfl rfl rfl (by simp) rfl ?_
  refine ev ?_
  refine rn [(900,some (rdB b (namP b (n+1) p m q).2.2))] (.cons (.cellA ty56 rfl rfl rfl) (.cons (.tmp rfl) .nil)) (.tup (.cons (.agg (.cons (.eqd ?_) (.cons (.eqd ?_) (.cons (.eqd ?_) (.cons (.eqd ?_) (.cons (.eqd ?_) (.cons (.eqd ?_) .nil))))))) (.cons (.eqd ?_) .nil))) ⟨rfl,rfl⟩ (SubO.get ⟨.inr ?_,⟨.inl rfl,trivial⟩⟩) (zaB rfl)
  rotate_left 8
  try simp only[Q,Pat.cs_len] at h3p
  refine sq (fun h5 h5p h5s=>?_) fun h5 h5p h5s=>?_
  try simp only[Q,Pat.cs_len] at h5p
  refine Walk.store ty56 .none rfl rfl rfl rfl rfl rfl (by simp) rfl ?_
  refine ev ?_
  refine rn [(900,some (rdB b (namP b (n+1) p m q).2.2))] (.cons (.cellA ty56 rfl rfl rfl) (.cons (.tmp rfl) .nil)) (.tup (.cons (.agg (.cons (.eqd ?_) (.cons (.eqd ?_) (.cons (.eqd ?_) (.cons (.eqd ?_) (.cons (.eqd ?_) (.cons (.eqd ?_) .nil))))))) (.cons (.eqd ?_) .nil))) ⟨rfl,rfl⟩ (SubO.get ⟨.inr ?_,⟨.inl rfl,trivial⟩⟩) (zaB rfl)
  rotate_left 8
  try simp only[Q,Pat.cs_len] at h5p
  refine sq (fun h6 h6p h6s=>?_) fun h6 h6p h6s=>?_
  try simp only[Q,Pat.cs_len] at h6p
  refine Walk.call (cr:=[]) zcg (zaQ (p:=q) (n:=2) hb (by omega) (by omega)) rfl (.some rfl rfl h6) rfl rfl (LeL.refl _) ⟨rfl,trivial⟩ rfl rfl rfl ?_
  refine evs [] [(30,true)] ?_ ⟨⟨_,rfl,h6⟩,trivial⟩
  refine sq (fun h7 h7p h7s=>?_) fun h7 h7p h7s=>?_
  try simp only[Q,Pat.cs_len] at h7p
  refine Walk.build st56 (ks:=[0,4]) (xs:=[_,_]) rfl rfl .none rfl rfl rfl ?_
  refine ev ?_
  refine ar ?_
  refine Walk.store ty56 .none rfl rfl rfl rfl rfl rfl (by simp) rfl ?_
  refine ev ?_
  refine rn [(900,some (rdB b (namP b (n+1) p m q).2.2))] (.cons (.cellA ty56 rfl rfl rfl) (.cons (.tmp rfl) .nil)) (.tup (.cons (.agg (.cons (.eqd ?_) (.cons (.eqd ?_) (.cons (.eqd ?_) (.cons (.eqd ?_) (.cons (.eqd ?_) (.cons (.nild ?_) .nil))))))) (.cons (.eqd ?_) .nil))) ⟨rfl,rfl⟩ (SubO.get ⟨.inr ?_,⟨.inl rfl,trivial⟩⟩) (zaB rfl)
  rotate_left 8
  try simp only[Q,Pat.cs_len] at h7p
  refine Walk.alloc (id:=3008) tz56 rfl .none rfl rfl rfl rfl ?_
  refine Walk.store ty56 .none rfl rfl rfl rfl rfl rfl (by simp) rfl ?_
  refine tv ?_
  refine Walk.store ty45 .none rfl rfl rfl rfl rfl rfl (by simp) rfl ?_
  refine tv ?_
  refine CWp.tokB 3008 5 1 6 rfl rfl rfl rfl ?_
  refine CWp.loopX (ι:=List (Pat)×List (Pat)×(Int)×(Nat)×(List Pat)) hk (fun x=>[(10,.d (.i (x.1.length:Int))),(9,.d (.i x.2.2.1))]) [11,12,42,43,44,45,46,47,48,49,50,51,52,53,54,55,56,57,58,59,60,61,62,63,64,65,66] (fun x=>[(900,some (.box [.d (zcw b),.d (.i (x.2.2.2.1:Int))])),(3008,some (.box [.d (.i p.op),.d (.i p.ctor),.d (.i p.n),.d (.i p.m),.d (.i p.var),.gl 1 (x.2.2.2.2.map Pat.cc)])),(1,some (.tok (x.2.2.2.2.map Pat.cc).length 6))]) (fun x=>x.1++x.2.1=p.kids∧0≤x.2.2.1∧x.2.2.1≤6∧x.2.2.2.1≤q1+2*Pats.size x.1∧x.2.2.2.2.length=x.1.length∧(x.2.2.2.2++(namL (namP b n) x.2.1 x.2.2.1 x.2.2.2.1).1,(namL (namP b n) x.2.1 x.2.2.1 x.2.2.2.1).2)=namL (namP b n) p.kids m q1) (fun x=>x.2.1.length) ([],p.kids,m,q1,[]) ⟨by simp,by simpa using k0,by simpa using k6,by simp[Pats.size],by simp,by simp⟩ ⟨⟨_,rfl,LeA.eqi ?_⟩,⟨⟨_,rfl,LeA.eqi ?_⟩,trivial⟩⟩ ⟨?_,⟨?_,⟨zaa ?_,trivial⟩⟩⟩ (fun x=>rfl) (fun x hg1=>?_)
  iterate 2 focus (first|rfl|(simp;done)|omega|(simp;omega))
  iterate 2 focus (first|rfl|(simp[getH];done)|(show some (Res.box _)=some (Res.box _);rw[hqa (by omega)];all_goals rfl)|(show some (Res.box _)=some (Res.box _);rw[hqb (by omega)];all_goals rfl))
  focus (first|rfl|(simp;done)|omega|(simp;omega))
  obtain⟨pre,rest,zm,zq,ks⟩:=x
  dsimp only at hg1 ⊢
  refine evc [] [] ?_
  refine sq (fun h8 h8p h8s=>?_) fun h8 h8p h8s=>?_
  try simp only[Q,Pat.cs_len] at h8p
  rcases rest with _|⟨y,rest⟩
  ·exfalso;simp_all
  have hni:=ih y zm zq hg1.2.1 hg1.2.2.1;have hn1:=hni.1;have hn2:=hni.2.1;have hn3:=hni.2.2.1
  refine Walk.idx sl45 .none rfl rfl rfl rfl (Pat.cs_at' hg1.1) rfl ?_
  refine ev ?_
  refine Walk.call (cr:=[]) zoi (zfu hb n (p:=y) (m:=zm) (q:=zq) (by have:=hysz hg1.1;omega) (Pats.ok_mem hok'.2 y (by rw[←hg1.1];simp)) (by omega) (by omega) (by have:=hysz hg1.1;omega)) rfl .none rfl rfl (LeL.refl _) ⟨rfl,trivial⟩ rfl rfl rfl ?_
  refine ev ?_
  refine Walk.alloc (id:=3011) tz56 rfl .none rfl rfl rfl rfl ?_
  refine Walk.store ty56 .none rfl rfl rfl rfl rfl rfl (by simp) rfl ?_
  refine ev ?_
  refine Walk.sliceLit sl45 tz56 rfl (by decide) (ks:=[0]) (xs:=[_]) rfl rfl (by decide) (by decide) .none rfl rfl rfl rfl ?_
  refine Walk.append sl45 zz56 rfl .none rfl rfl rfl rfl (zaw rfl (by first|rfl|(simp;done)|(simp;omega))) (by simp) (by have hz:=congrArg List.length hg1.1;simp at hz ⊢;omega) (by have hz:=congrArg List.length hg1.1;simp at hz ⊢;omega) ?_
  refine ev ?_
  refine Walk.store ty45 .none rfl rfl rfl rfl rfl rfl (by simp) rfl ?_
  refine tv ?_
  refine ar ?_
  refine Exists.intro ((pre++[y],rest,(namP b n y zm zq).2.1,(namP b n y zm zq).2.2,ks++[(namP b n y zm zq).1])) ⟨⟨(by have hz:=hg1.1;rw[←hz];simp),⟨by dsimp only;omega,by dsimp only;omega,(by rw[Pats.size_snoc];dsimp only;omega),(by simp[hg1.2.2.2.2.1]),(by rw[←hg1.2.2.2.2.2];simp[namL])⟩⟩,(by simp),sx ⟨⟨_,rfl,LeA.eqi ?_⟩,⟨⟨_,rfl,LeA.eqi ?_⟩,trivial⟩⟩ ⟨?_,⟨?_,⟨zaa ?_,trivial⟩⟩⟩⟩
  iterate 2 focus (first|rfl|(simp;done)|omega|(simp;omega))
  iterate 2 focus (first|rfl|(simp[getH];done)|(show some (Res.box _)=some (Res.box _);rw[hqa (by omega)];all_goals rfl)|(show some (Res.box _)=some (Res.box _);rw[hqb (by omega)];all_goals rfl))
  focus (first|rfl|(simp;done)|omega|(simp;omega))
  try simp only[Q,Pat.cs_len] at h8p
  have hrest:rest=[]:=by
   rcases rest with _|⟨a,b⟩
   ·rfl
   ·exfalso;have hz:=congrArg List.length (hg1.1);simp only[List.length_append,List.length_cons,List.length_map] at hz;omega
  subst hrest
  refine sq (fun h9 h9p h9s=>?_) fun h9 h9p h9s=>?_
  try simp only[Q,Pat.cs_len] at h9p
  refine Walk.call (cr:=[]) zcg (zaQ (p:=zq) (n:=6) hb (by have e:=hg1.1;rw[List.append_nil] at e;rw[←e] at hs;omega) (by omega)) rfl (.some rfl rfl h9) rfl rfl (LeL.refl _) ⟨rfl,trivial⟩ rfl rfl rfl ?_
  refine evs [] [(69,true)] ?_ ⟨⟨_,rfl,h9⟩,trivial⟩
  refine sq (fun h10 h10p h10s=>?_) fun h10 h10p h10s=>?_
  try simp only[Q,Pat.cs_len] at h10p
  refine Walk.sliceLit sl45 tz56 rfl (by decide) (ks:=[0]) (xs:=[_]) rfl rfl (by decide) (by decide) .none rfl rfl rfl rfl ?_
  refine Walk.build st56 (ks:=[0,4,5]) (xs:=[_,_,_]) rfl rfl .none rfl rfl rfl ?_
  refine ev ?_
  refine ar ?_
  refine Walk.store ty56 .none rfl rfl rfl rfl rfl rfl (by simp) rfl ?_
  refine ev ?_
  refine rn [(900,some (rdB b (namP b (n+1) p m q).2.2))] (.cons (.cellA ty56 rfl rfl rfl) (.cons (.tmp rfl) .nil)) (.tup (.cons (.agg (.cons (.eqd ?_) (.cons (.eqd ?_) (.cons (.eqd ?_) (.cons (.eqd ?_) (.cons (.eqd ?_) (.cons (.eqd ?_) .nil))))))) (.cons (.eqd ?_) .nil))) ⟨rfl,rfl⟩ (SubO.get ⟨.inr ?_,⟨.inl rfl,trivial⟩⟩) (zaB rfl)
  rotate_left 8
  try simp only[Q,Pat.cs_len] at h10p
  refine Walk.store ty56 .none rfl rfl rfl rfl rfl rfl (by simp) rfl ?_
  refine ev ?_
  refine rn [(900,some (rdB b (namP b (n+1) p m q).2.2))] (.cons (.cellA ty56 rfl rfl rfl) (.cons (.tmp rfl) .nil)) (.tup (.cons (.agg (.cons (.eqd ?_) (.cons (.eqd ?_) (.cons (.eqd ?_) (.cons (.eqd ?_) (.cons (.eqd ?_) (.cons (.gld ?_) .nil))))))) (.cons (.eqd ?_) .nil))) ⟨rfl,rfl⟩ (SubO.get ⟨.inr ?_,⟨.inl rfl,trivial⟩⟩) (zaB rfl)
  rotate_left 8
  try simp only[Q,Pat.cs_len] at h9p
  refine sqF ?_
  refine Walk.store ty56 .none rfl rfl rfl rfl rfl rfl (by simp) rfl ?_
  refine ev ?_
  refine rn [(900,some (rdB b (namP b (n+1) p m q).2.2))] (.cons (.cellA ty56 rfl rfl rfl) (.cons (.tmp rfl) .nil)) (.tup (.cons (.agg (.cons (.eqd ?_) (.cons (.eqd ?_) (.cons (.eqd ?_) (.cons (.eqd ?_) (.cons (.eqd ?_) (.cons (.gld ?_) .nil))))))) (.cons (.eqd ?_) .nil))) ⟨rfl,rfl⟩ (SubO.get ⟨.inr ?_,⟨.inl rfl,trivial⟩⟩) (zaB rfl)
  rotate_left 8
  try simp only[Q,Pat.cs_len] at h6p
  refine sqF ?_
  refine Walk.alloc (id:=3008) tz56 rfl .none rfl rfl rfl rfl ?_
  refine Walk.store ty56 .none rfl rfl rfl rfl rfl rfl (by simp) rfl ?_
  refine tv ?_
  refine Walk.store ty45 .none rfl rfl rfl rfl rfl rfl (by simp) rfl ?_
  refine tv ?_
  refine CWp.tokB 3008 5 1 6 rfl rfl rfl rfl ?_
  refine CWp.loopX (ι:=List (Pat)×List (Pat)×(Int)×(Nat)×(List Pat)) hk (fun x=>[(10,.d (.i (x.1.length:Int))),(9,.d (.i x.2.2.1))]) [11,12,42,43,44,45,46,47,48,49,50,51,52,53,54,55,56,57,58,59,60,61,62,63,64,65,66] (fun x=>[(900,some (.box [.d (zcw b),.d (.i (x.2.2.2.1:Int))])),(3008,some (.box [.d (.i p.op),.d (.i p.ctor),.d (.i p.n),.d (.i p.m),.d (.i p.var),.gl 1 (x.2.2.2.2.map Pat.cc)])),(1,some (.tok (x.2.2.2.2.map Pat.cc).length 6))]) (fun x=>x.1++x.2.1=p.kids∧0≤x.2.2.1∧x.2.2.1≤6∧x.2.2.2.1≤q1+2*Pats.size x.1∧x.2.2.2.2.length=x.1.length∧(x.2.2.2.2++(namL (namP b n) x.2.1 x.2.2.1 x.2.2.2.1).1,(namL (namP b n) x.2.1 x.2.2.1 x.2.2.2.1).2)=namL (namP b n) p.kids m q1) (fun x=>x.2.1.length) ([],p.kids,m,q1,[]) ⟨by simp,by simpa using k0,by simpa using k6,by simp[Pats.size],by simp,by simp⟩ ⟨⟨_,rfl,LeA.eqi ?_⟩,⟨⟨_,rfl,LeA.eqi ?_⟩,trivial⟩⟩ ⟨?_,⟨?_,⟨zaa ?_,trivial⟩⟩⟩ (fun x=>rfl) (fun x hg1=>?_)
  iterate 2 focus (first|rfl|(simp;done)|omega|(simp;omega))
  iterate 2 focus (first|rfl|(simp[getH];done)|(show some (Res.box _)=some (Res.box _);rw[hqa (by omega)];all_goals rfl)|(show some (Res.box _)=some (Res.box _);rw[hqb (by omega)];all_goals rfl))
  focus (first|rfl|(simp;done)|omega|(simp;omega))
  obtain⟨pre,rest,zm,zq,ks⟩:=x
  dsimp only at hg1 ⊢
  refine evc [] [] ?_
  refine sq (fun h13 h13p h13s=>?_) fun h13 h13p h13s=>?_
  try simp only[Q,Pat.cs_len] at h13p
  rcases rest with _|⟨y,rest⟩
  ·exfalso;simp_all
  have hni:=ih y zm zq hg1.2.1 hg1.2.2.1;have hn1:=hni.1;have hn2:=hni.2.1;have hn3:=hni.2.2.1
  refine Walk.idx sl45 .none rfl rfl rfl rfl (Pat.cs_at' hg1.1) rfl ?_
  refine ev ?_
  refine Walk.call (cr:=[]) zoi (zfu hb n (p:=y) (m:=zm) (q:=zq) (by have:=hysz hg1.1;omega) (Pats.ok_mem hok'.2 y (by rw[←hg1.1];simp)) (by omega) (by omega) (by have:=hysz hg1.1;omega)) rfl .none rfl rfl (LeL.refl _) ⟨rfl,trivial⟩ rfl rfl rfl ?_
  refine ev ?_
  refine Walk.alloc (id:=3011) tz56 rfl .none rfl rfl rfl rfl ?_
  refine Walk.store ty56 .none rfl rfl rfl rfl rfl rfl (by simp) rfl ?_
  refine ev ?_
  refine Walk.sliceLit sl45 tz56 rfl (by decide) (ks:=[0]) (xs:=[_]) rfl rfl (by decide) (by decide) .none rfl rfl rfl rfl ?_
  refine Walk.append sl45 zz56 rfl .none rfl rfl rfl rfl (zaw rfl (by first|rfl|(simp;done)|(simp;omega))) (by simp) (by have hz:=congrArg List.length hg1.1;simp at hz ⊢;omega) (by have hz:=congrArg List.length hg1.1;simp at hz ⊢;omega) ?_
  refine ev ?_
  refine Walk.store ty45 .none rfl rfl rfl rfl rfl rfl (by simp) rfl ?_
  refine tv ?_
  refine ar ?_
  refine Exists.intro ((pre++[y],rest,(namP b n y zm zq).2.1,(namP b n y zm zq).2.2,ks++[(namP b n y zm zq).1])) ⟨⟨(by have hz:=hg1.1;rw[←hz];simp),⟨by dsimp only;omega,by dsimp only;omega,(by rw[Pats.size_snoc];dsimp only;omega),(by simp[hg1.2.2.2.2.1]),(by rw[←hg1.2.2.2.2.2];simp[namL])⟩⟩,(by simp),sx ⟨⟨_,rfl,LeA.eqi ?_⟩,⟨⟨_,rfl,LeA.eqi ?_⟩,trivial⟩⟩ ⟨?_,⟨?_,⟨zaa ?_,trivial⟩⟩⟩⟩
  iterate 2 focus (first|rfl|(simp;done)|omega|(simp;omega))
  iterate 2 focus (first|rfl|(simp[getH];done)|(show some (Res.box _)=some (Res.box _);rw[hqa (by omega)];all_goals rfl)|(show some (Res.box _)=some (Res.box _);rw[hqb (by omega)];all_goals rfl))
  focus (first|rfl|(simp;done)|omega|(simp;omega))
  try simp only[Q,Pat.cs_len] at h13p
  have hrest:rest=[]:=by
   rcases rest with _|⟨a,b⟩
   ·rfl
   ·exfalso;have hz:=congrArg List.length (hg1.1);simp only[List.length_append,List.length_cons,List.length_map] at hz;omega
  subst hrest
  refine sq (fun h14 h14p h14s=>?_) fun h14 h14p h14s=>?_
  try simp only[Q,Pat.cs_len] at h14p
  refine Walk.call (cr:=[]) zcg (zaQ (p:=zq) (n:=6) hb (by have e:=hg1.1;rw[List.append_nil] at e;rw[←e] at hs;omega) (by omega)) rfl (.some rfl rfl h14) rfl rfl (LeL.refl _) ⟨rfl,trivial⟩ rfl rfl rfl ?_
  refine evs [] [(69,true)] ?_ ⟨⟨_,rfl,h14⟩,trivial⟩
  refine sq (fun h15 h15p h15s=>?_) fun h15 h15p h15s=>?_
  try simp only[Q,Pat.cs_len] at h15p
  refine Walk.sliceLit sl45 tz56 rfl (by decide) (ks:=[0]) (xs:=[_]) rfl rfl (by decide) (by decide) .none rfl rfl rfl rfl ?_
  refine Walk.build st56 (ks:=[0,4,5]) (xs:=[_,_,_]) rfl rfl .none rfl rfl rfl ?_
  refine ev ?_
  refine ar ?_
  refine Walk.store ty56 .none rfl rfl rfl rfl rfl rfl (by simp) rfl ?_
  refine ev ?_
  refine rn [(900,some (rdB b (namP b (n+1) p m q).2.2))] (.cons (.cellA ty56 rfl rfl rfl) (.cons (.tmp rfl) .nil)) (.tup (.cons (.agg (.cons (.eqd ?_) (.cons (.eqd ?_) (.cons (.eqd ?_) (.cons (.eqd ?_) (.cons (.eqd ?_) (.cons (.eqd ?_) .nil))))))) (.cons (.eqd ?_) .nil))) ⟨rfl,rfl⟩ (SubO.get ⟨.inr ?_,⟨.inl rfl,trivial⟩⟩) (zaB rfl)
  rotate_left 8
  try simp only[Q,Pat.cs_len] at h15p
  refine Walk.store ty56 .none rfl rfl rfl rfl rfl rfl (by simp) rfl ?_
  refine ev ?_
  refine rn [(900,some (rdB b (namP b (n+1) p m q).2.2))] (.cons (.cellA ty56 rfl rfl rfl) (.cons (.tmp rfl) .nil)) (.tup (.cons (.agg (.cons (.eqd ?_) (.cons (.eqd ?_) (.cons (.eqd ?_) (.cons (.eqd ?_) (.cons (.eqd ?_) (.cons (.gld ?_) .nil))))))) (.cons (.eqd ?_) .nil))) ⟨rfl,rfl⟩ (SubO.get ⟨.inr ?_,⟨.inl rfl,trivial⟩⟩) (zaB rfl)
  rotate_left 8
  try simp only[Q,Pat.cs_len] at h14p
  refine sqF ?_
  refine Walk.store ty56 .none rfl rfl rfl rfl rfl rfl (by simp) rfl ?_
  refine ev ?_
  refine rn [(900,some (rdB b (namP b (n+1) p m q).2.2))] (.cons (.cellA ty56 rfl rfl rfl) (.cons (.tmp rfl) .nil)) (.tup (.cons (.agg (.cons (.eqd ?_) (.cons (.eqd ?_) (.cons (.eqd ?_) (.cons (.eqd ?_) (.cons (.eqd ?_) (.cons (.gld ?_) .nil))))))) (.cons (.eqd ?_) .nil))) ⟨rfl,rfl⟩ (SubO.get ⟨.inr ?_,⟨.inl rfl,trivial⟩⟩) (zaB rfl)
  rotate_left 8
  all_goals (first|((first|(rw[zqy (by omega)];all_goals first|rfl|(show _=D.sl (Pat.cs _);rw[Pat.cs_cc];all_goals rfl)|(show _=Pat.cs _;rw[Pat.cs_cc];all_goals rfl)|(show _=D.sl [[D.i _,D.i _,D.i _,D.i _,D.i _,D.sl (Pat.cs _)]];rw[Pat.cs_cc];all_goals rfl))|(rw[zqz (by omega) ⟨by omega,by omega⟩];all_goals first|rfl|(show _=D.sl (Pat.cs _);rw[Pat.cs_cc];all_goals rfl)|(show _=Pat.cs _;rw[Pat.cs_cc];all_goals rfl)|(show _=D.sl [[D.i _,D.i _,D.i _,D.i _,D.i _,D.sl (Pat.cs _)]];rw[Pat.cs_cc];all_goals rfl))|(have hz:(ks,zm,zq)=namL (namP b n) p.kids m (if p.op=1 then q+1 else q):=(by rw[hqq];exact zfo hg1.2.2.2.2.2);rw[zqA (by omega) (fun hh=>by omega) hz (by omega) (by omega)];all_goals first|rfl|(show _=D.sl (Pat.cs _);rw[Pat.cs_cc];all_goals rfl)|(show _=Pat.cs _;rw[Pat.cs_cc];all_goals rfl)|(show _=D.sl [[D.i _,D.i _,D.i _,D.i _,D.i _,D.sl (Pat.cs _)]];rw[Pat.cs_cc];all_goals rfl))|(have hz:(ks,zm,zq)=namL (namP b n) p.kids m (if p.op=1 then q+1 else q):=(by rw[hqq];exact zfo hg1.2.2.2.2.2);rw[zqB (by omega) (fun hh=>by omega) hz (by omega) (by omega)];all_goals first|rfl|(show _=D.sl (Pat.cs _);rw[Pat.cs_cc];all_goals rfl)|(show _=Pat.cs _;rw[Pat.cs_cc];all_goals rfl)|(show _=D.sl [[D.i _,D.i _,D.i _,D.i _,D.i _,D.sl (Pat.cs _)]];rw[Pat.cs_cc];all_goals rfl))|(have hz:(ks,zm,zq)=namL (namP b n) p.kids m (if p.op=1 then q+1 else q):=(by rw[hqq];exact zfo hg1.2.2.2.2.2);rw[zqC (by omega) (fun hh=>by omega) hz (by omega)];all_goals first|rfl|(show _=D.sl (Pat.cs _);rw[Pat.cs_cc];all_goals rfl)|(show _=Pat.cs _;rw[Pat.cs_cc];all_goals rfl)|(show _=D.sl [[D.i _,D.i _,D.i _,D.i _,D.i _,D.sl (Pat.cs _)]];rw[Pat.cs_cc];all_goals rfl)));done)|(first|(rw[zqy (by omega)];all_goals first|rfl|(show _=D.sl (Pat.cs _);rw[Pat.cs_cc];all_goals rfl)|(show _=Pat.cs _;rw[Pat.cs_cc];all_goals rfl)|(show _=D.sl [[D.i _,D.i _,D.i _,D.i _,D.i _,D.sl (Pat.cs _)]];rw[Pat.cs_cc];all_goals rfl))|(rw[zqz (by omega) ⟨by omega,by omega⟩];all_goals first|rfl|(show _=D.sl (Pat.cs _);rw[Pat.cs_cc];all_goals rfl)|(show _=Pat.cs _;rw[Pat.cs_cc];all_goals rfl)|(show _=D.sl [[D.i _,D.i _,D.i _,D.i _,D.i _,D.sl (Pat.cs _)]];rw[Pat.cs_cc];all_goals rfl))|(have hz:(ks,zm,zq)=namL (namP b n) p.kids m (if p.op=1 then q+1 else q):=(by rw[hqq];exact zfo hg1.2.2.2.2.2);rw[zqA (by omega) (fun hh=>by omega) hz (by omega) (by omega)];all_goals first|rfl|(show _=D.sl (Pat.cs _);rw[Pat.cs_cc];all_goals rfl)|(show _=Pat.cs _;rw[Pat.cs_cc];all_goals rfl)|(show _=D.sl [[D.i _,D.i _,D.i _,D.i _,D.i _,D.sl (Pat.cs _)]];rw[Pat.cs_cc];all_goals rfl))|(have hz:(ks,zm,zq)=namL (namP b n) p.kids m (if p.op=1 then q+1 else q):=(by rw[hqq];exact zfo hg1.2.2.2.2.2);rw[zqB (by omega) (fun hh=>by omega) hz (by omega) (by omega)];all_goals first|rfl|(show _=D.sl (Pat.cs _);rw[Pat.cs_cc];all_goals rfl)|(show _=Pat.cs _;rw[Pat.cs_cc];all_goals rfl)|(show _=D.sl [[D.i _,D.i _,D.i _,D.i _,D.i _,D.sl (Pat.cs _)]];rw[Pat.cs_cc];all_goals rfl))|(have hz:(ks,zm,zq)=namL (namP b n) p.kids m (if p.op=1 then q+1 else q):=(by rw[hqq];exact zfo hg1.2.2.2.2.2);rw[zqC (by omega) (fun hh=>by omega) hz (by omega)];all_goals first|rfl|(show _=D.sl (Pat.cs _);rw[Pat.cs_cc];all_goals rfl)|(show _=Pat.cs _;rw[Pat.cs_cc];all_goals rfl)|(show _=D.sl [[D.i _,D.i _,D.i _,D.i _,D.i _,D.sl (Pat.cs _)]];rw[Pat.cs_cc];all_goals rfl))))
def szP:Nat→Nat
 |0=>1
 |d+1=>1+3*szP d
theorem ztE (d:Nat):1≤szP d:=by cases d<;>simp only[szP]<;>omega
theorem zhC:anyP.size=1∧anyP.ok:=⟨by rw[Pat.size_eq];rfl,by rw[Pat.ok_iff];exact⟨by simp[anyP,Pat.kids],trivial⟩⟩
theorem zsU {f:Ty→Nat→Pat×Nat}{k:Nat}:∀(l:List Ty) (q:Nat),(∀t∈l,∀q,(f t q).1.size≤k∧(f t q).1.ok)→Pats.size (dA f l q).1≤l.length*k∧Pats.ok (dA f l q).1
 | [],q,_=>by simp[dA,Pats.size,Pats.ok]
 |t::r,q,h=>by
  have h1:=h t (by simp) q
  have h2:=zsU r (f t q).2 (fun x hx=>h x (by simp[hx]))
  simp only[dA,List.length_cons,Nat.add_mul,Pats.size]
  exact⟨by omega,h1.2,h2.2⟩
theorem zkg {b:Str}{w:List Data} (hf:Few w):∀(d:Nat) (t:Ty) (p:Nat),TyIn w.length t→(zaF b w d t p).1.size≤szP d∧(zaF b w d t p).1.ok
 |0,t,p,_=>by simp only[zaF,szP];have:=zhC;exact⟨by omega,this.2⟩
 |d+1,⟨a,k⟩,p,ht=>by
  have ih:=fun t p ht=>zkg (b:=b) hf d t p ht
  have ha:=zhC
  have hp:=ztE d
  simp only[szP]
  by_cases c1:d=0
  ·rw[zmh c1];exact⟨by dsimp only;omega,ha.2⟩
  by_cases c2:zan b p 4=0
  ·rw[zmi c1 c2];exact⟨by dsimp only;omega,ha.2⟩
  by_cases c3:zan b (p+1) 6=0
  ·rw[zmj c1 c2 c3]
   have h1:=ih ⟨a,k⟩ (p+2) ht
   have h2:=ih ⟨a,k⟩ (zaF b w d ⟨a,k⟩ (p+2)).2 ht
   refine⟨?_, ?_⟩
   ·dsimp only;rw[Pat.size_eq];simp only[Pat.kids,Pats.size];omega
   ·dsimp only;rw[Pat.ok_iff];exact⟨by simp[Pat.kids],h1.2,h2.2,trivial⟩
  by_cases c4:a = -1
  ·rw[zmk c1 c2 c3 c4]
   refine⟨?_, ?_⟩
   ·dsimp only;rw[Pat.size_eq];simp only[Pat.kids,Pats.size];omega
   ·dsimp only;rw[Pat.ok_iff];exact⟨by simp[Pat.kids],trivial⟩
  by_cases c5:(zam w ⟨a,k⟩).length=0
  ·rw[zml c1 c2 c3 c4 c5];exact⟨by dsimp only;omega,ha.2⟩
  ·rw[zmm c1 c2 c3 c4 c5 rfl]
   have hm:=zio (b:=b) (p:=p+2) c5
   have h3:=hf ⟨a,k⟩ _ hm ht
   have h1:=zsU (f:=zaF b w d) (k:=szP d) _ (p+3) (fun u hu q=>ih u q (h3.2 u hu))
   have h2:=zrq (f:=zaF b w d) (zab w ⟨a,k⟩ (nth (zam w ⟨a,k⟩) (zan b (p+2) (zam w ⟨a,k⟩).length).toNat)) (p+3)
   have h4:(zab w ⟨a,k⟩ (nth (zam w ⟨a,k⟩) (zan b (p+2) (zam w ⟨a,k⟩).length).toNat)).length*szP d≤3*szP d:=Nat.mul_le_mul_right _ h3.1
   refine⟨?_, ?_⟩
   ·dsimp only;rw[Pat.size_eq];simp only[Pat.kids];omega
   ·dsimp only;rw[Pat.ok_iff];exact⟨by simp only[Pat.kids];omega,h1.2⟩
theorem zkt {b:Str}{p:Nat}{l:List Int} (h:1≤l.length):numV b p l∈l:=by
 have:=zcP (b:=b) (p:=p) (n:=(l.length:Int)) (by omega)
 exact zaf (by omega)
theorem num4 (b:Str) (p:Nat):1≤numV b p [3,2,4,1]∧numV b p [3,2,4,1]≤4:=by
 have:=zkt (b:=b) (p:=p) (l:=[3,2,4,1]) (by simp)
 simp only[List.mem_cons,List.not_mem_nil,or_false] at this
 omega
theorem zpc {d:Nat} (h:d≤4):szP d≤121∧bdP d≤200:=by
 have:d=0∨d=1∨d=2∨d=3∨d=4:=by omega
 rcases this with rfl|rfl|rfl|rfl|rfl<;>decide
def zcJ (b:Str) (w:List Data) (t:Ty) (p:Nat):Pat×Int×Nat:=
 namP b (zaF b w (numV b p [3,2,4,1]).toNat t (p+1)).1.size (zaF b w (numV b p [3,2,4,1]).toNat t (p+1)).1 0 (zaF b w (numV b p [3,2,4,1]).toNat t (p+1)).2
def zbO (b:Str) (w:List Data) (t:Ty) (p:Nat):Pat:=if isP w t (zcJ b w t p).1 then (zcJ b w t p).1 else anyP
theorem zhg {b:Str}{w:List Data} (hf:Few w){t:Ty} (ht:TyIn w.length t) (p:Nat):(zcJ b w t p).2.2≤p+500∧(zcJ b w t p).1.size≤242∧(zcJ b w t p).1.ok:=by
 have h4:=num4 b p
 have hs:=zpc (d:=(numV b p [3,2,4,1]).toNat) (by omega)
 have h1:=zkg (b:=b) hf (numV b p [3,2,4,1]).toNat t (p+1) ht
 have h2:=zh7 (b:=b) hf (numV b p [3,2,4,1]).toNat t (p+1) ht
 have h3:=zmE (b:=b) (zaF b w (numV b p [3,2,4,1]).toNat t (p+1)).1.size (zaF b w (numV b p [3,2,4,1]).toNat t (p+1)).1 0 (zaF b w (numV b p [3,2,4,1]).toNat t (p+1)).2 (by omega) (by omega)
 obtain⟨_,_,n3,n4,n5⟩:=h3
 exact⟨by unfold zcJ;omega,by unfold zcJ;omega,n5 h1.2⟩
theorem zlI {b:Str}{w:List Data} (hf:Few w){t:Ty} (ht:TyIn w.length t) (p:Nat):(zbO b w t p).size≤242∧(zbO b w t p).ok:=by
 have h:=zhg (b:=b) hf ht p
 have ha:=zhC
 unfold zbO
 split
 ·exact⟨h.2.1,h.2.2⟩
 ·exact⟨by omega,ha.2⟩
theorem zmT {b:Str}{w:List Data} (hb:b.length≤2000) (hw:WT w) (hf:Few w){a k:Int}{p:Nat} (hp:p≤100000) (ht:TyIn w.length ⟨a,k⟩):
  FnD Tryz.prog 239 [.ref 900 0,.d (zal w),.agg [.d (.i a),.d (.i k)]] [(900,some (rdB b p))]
   (.agg [.d (.i (zbO b w ⟨a,k⟩ p).op),.d (.i (zbO b w ⟨a,k⟩ p).ctor),.d (.i (zbO b w ⟨a,k⟩ p).n),.d (.i (zbO b w ⟨a,k⟩ p).m),.d (.i (zbO b w ⟨a,k⟩ p).var),.d (zae (zbO b w ⟨a,k⟩ p).kids)]) [(900,some (rdB b (zcJ b w ⟨a,k⟩ p).2.2))]:=by
 have h4:=num4 b p
 have hs:=zpc (d:=(numV b p [3,2,4,1]).toNat) (by omega)
 have h1:=zkg (b:=b) hf (numV b p [3,2,4,1]).toNat ⟨a,k⟩ (p+1) ht
 have h2:=zh7 (b:=b) hf (numV b p [3,2,4,1]).toNat ⟨a,k⟩ (p+1) ht
 have hr:=zhg (b:=b) hf ht p
 have hnum:=zbQ (b:=b) (p:=p) (l:=[3,2,4,1]) hb (by omega) (by simp) (by simp)
 have hdr:=zeo hb hw hf (numV b p [3,2,4,1]).toNat (a:=a) (k:=k) (m:=numV b p [3,2,4,1]) (p:=p+1) (by omega) (by omega) (by omega) (by omega) ht
 have hnm:=zfu hb (zaF b w (numV b p [3,2,4,1]).toNat ⟨a,k⟩ (p+1)).1.size (m:=0) (q:=(zaF b w (numV b p [3,2,4,1]).toNat ⟨a,k⟩ (p+1)).2) (Nat.le_refl _) h1.2 (by omega) (by omega) (by omega)
 have hsp:zbO b w ⟨a,k⟩ p=if isP w ⟨a,k⟩ (zcJ b w ⟨a,k⟩ p).1 then (zcJ b w ⟨a,k⟩ p).1 else anyP:=rfl
 rw[show namP b (zaF b w (numV b p [3,2,4,1]).toNat ⟨a,k⟩ (p+1)).1.size (zaF b w (numV b p [3,2,4,1]).toNat ⟨a,k⟩ (p+1)).1 0 (zaF b w (numV b p [3,2,4,1]).toNat ⟨a,k⟩ (p+1)).2=zcJ b w ⟨a,k⟩ p from rfl] at hnm
 generalize numV b p [3,2,4,1]=m at *
 refine bd Tryz.f239 28 [] [] fun w0 F0 own kept hk=>?_
 refine Walk.box (id:=3005) .none rfl rfl rfl rfl rfl rfl rfl ?_
 refine Walk.alloc (id:=3006) tz56 rfl .none rfl rfl rfl rfl ?_
 refine tv ?_
 refine Walk.sliceLit za0 tz3 rfl (by decide) (ks:=[0,1,2,3]) (xs:=[_,_,_,_]) rfl rfl (by decide) (by decide) .none rfl rfl rfl rfl ?_
 refine Walk.call (cr:=[]) zdL (hnum) rfl .none rfl rfl (LeL.refl _) ⟨rfl,trivial⟩ rfl rfl rfl ?_
 refine Walk.call (cr:=[]) zkW (hdr) rfl .none rfl rfl (LeL.refl _) ⟨rfl,trivial⟩ rfl rfl rfl ?_
 refine Walk.call (cr:=[]) zoi (hnm) rfl .none rfl rfl (LeL.refl _) ⟨rfl,trivial⟩ rfl rfl rfl ?_
 refine evd [] [] ?_
 refine Walk.alloc (id:=3007) tz56 rfl .none rfl rfl rfl rfl ?_
 refine Walk.store ty56 .none rfl rfl rfl rfl rfl rfl (by simp) rfl ?_
 refine evd [] [] ?_
 refine dr ?_
 refine wc zkQ (ze8 hw ht hr.2.2 (by omega)) rfl rfl ?_
 refine ev ?_
 refine sq (fun h1 h1p h1s=>?_) fun h1 h1p h1s=>?_
 try simp only[Q] at h1p
 refine Walk.build st56 (ks:=[0]) (xs:=[_]) rfl rfl .none rfl rfl rfl ?_
 refine Walk.store ty56 .none rfl rfl rfl rfl rfl rfl (by simp) rfl ?_
 refine tv ?_
 refine rn [(900,some (rdB b (zcJ b w ⟨a,k⟩ p).2.2))] (.cons (.cellA ty56 rfl rfl rfl) .nil) (.agg (.cons (.eqd ?_) (.cons (.eqd ?_) (.cons (.eqd ?_) (.cons (.eqd ?_) (.cons (.eqd ?_) (.cons (.nild ?_) .nil))))))) ⟨rfl,rfl⟩ (SubO.get ⟨.inr ?_,⟨.inl rfl,trivial⟩⟩) (zaB rfl)
 rotate_left 7
 try simp only[Q] at h1p
 refine Walk.store ty56 .none rfl rfl rfl rfl rfl rfl (by simp) rfl ?_
 refine tv ?_
 refine rn [(900,some (rdB b (zcJ b w ⟨a,k⟩ p).2.2))] (.cons (.cellA ty56 rfl rfl rfl) .nil) (.agg (.cons (.eqd ?_) (.cons (.eqd ?_) (.cons (.eqd ?_) (.cons (.eqd ?_) (.cons (.eqd ?_) (.cons (.eqd ?_) .nil))))))) ⟨rfl,rfl⟩ (SubO.get ⟨.inr ?_,⟨.inl rfl,trivial⟩⟩) (zaB rfl)
 rotate_left 7
 all_goals (first|((first|(rw[hsp,if_neg (by rw[h1s];simp)];all_goals rfl)|(rw[hsp,if_pos h1s];all_goals rfl));done)|(rfl))
theorem zdM:FnD Tryz.prog 49 [] [] (.agg [.d (.i 1),.d (.i 0),.d (.i 0),.d (.i 0),.d (.i 0),.d (.sl [])]) []:=by
 refine bd Tryz.f49 2 [] [] fun w0 F0 own kept hk=>?_
 refine Walk.alloc (id:=3000) tz56 rfl .none rfl rfl rfl rfl ?_
 refine tv ?_
 refine Walk.build st56 (ks:=[0]) (xs:=[_]) rfl rfl .none rfl rfl rfl ?_
 refine Walk.store ty56 .none rfl rfl rfl rfl rfl rfl (by simp) rfl ?_
 refine tv ?_
 focus (refine rn0 (.cons (.cellA ty56 rfl rfl rfl) .nil) (.agg (.cons (.eqd ?_) (.cons (.eqd ?_) (.cons (.eqd ?_) (.cons (.eqd ?_) (.cons (.eqd ?_) (.cons (.nild ?_) .nil)))))));all_goals (first|rfl|(simp[];done)|(simp_all;done)|(simp_all;omega)|omega))
theorem zgY {a b:Pat} (hn:0≤b.n∧b.n≤9) (hm:0≤b.m∧b.m≤9):FnD Tryz.prog 251 [.agg [.d (.i (a).op),.d (.i (a).ctor),.d (.i (a).n),.d (.i (a).m),.d (.i (a).var),.d (zae (a).kids)],.agg [.d (.i (b).op),.d (.i (b).ctor),.d (.i (b).n),.d (.i (b).m),.d (.i (b).var),.d (zae (b).kids)]] [] (.d (zae (zcc a.n (minQ a.m (b.n-1))++zcc (maxQ a.n (b.m+1)) a.m))) []:=by
 refine bd Tryz.f251 58 [] [] fun w0 F0 own kept hk=>?_
 refine Walk.box (id:=3002) .none rfl rfl rfl rfl rfl rfl rfl ?_
 refine Walk.box (id:=3003) .none rfl rfl rfl rfl rfl rfl rfl ?_
 refine ev ?_
 refine Walk.sliceEmptyG 9 sl45 .none rfl rfl ?_
 refine ev ?_
 refine Walk.build st56 (ks:=[0,2,3]) (xs:=[_,_,_]) rfl rfl .none rfl rfl rfl ?_
 refine Walk.alloc (id:=3006) tz56 rfl .none rfl rfl rfl rfl ?_
 refine Walk.store ty56 .none rfl rfl rfl rfl rfl rfl (by simp) rfl ?_
 refine tv ?_
 refine ar ?_
 refine sq (fun h1 h1p h1s=>?_) fun h1 h1p h1s=>?_
 try simp only[Q] at h1p
 refine ar ?_
 refine Walk.store ty3 .none rfl rfl rfl rfl rfl rfl (by simp) rfl ?_
 refine tv ?_
 refine sq (fun h2 h2p h2s=>?_) fun h2 h2p h2s=>?_
 try simp only[Q] at h2p
 refine Walk.sliceLit sl45 tz56 rfl (by decide) (ks:=[0]) (xs:=[_]) rfl rfl (by decide) (by decide) .none rfl rfl rfl rfl ?_
 refine Walk.append sl45 zz56 rfl .none rfl rfl rfl rfl (zaw rfl (by first|rfl|(simp;done)|(simp;omega))) (by intro x hx;simp at hx;subst hx;rfl) (by simp) (by simp) ?_
 refine ev ?_
 refine Walk.build st56 (ks:=[0,2,3]) (xs:=[_,_,_]) rfl rfl .none rfl rfl rfl ?_
 refine Walk.alloc (id:=3007) tz56 rfl .none rfl rfl rfl rfl ?_
 refine Walk.store ty56 .none rfl rfl rfl rfl rfl rfl (by simp) rfl ?_
 refine tv ?_
 refine ar ?_
 refine sq (fun h3 h3p h3s=>?_) fun h3 h3p h3s=>?_
 try simp only[Q] at h3p
 refine ar ?_
 refine Walk.store ty3 .none rfl rfl rfl rfl rfl rfl (by simp) rfl ?_
 refine tv ?_
 refine sq (fun h4 h4p h4s=>?_) fun h4 h4p h4s=>?_
 try simp only[Q] at h4p
 refine Walk.sliceLit sl45 tz56 rfl (by decide) (ks:=[0]) (xs:=[_]) rfl rfl (by decide) (by decide) .none rfl rfl rfl rfl ?_
 refine Walk.append sl45 zz56 rfl .none rfl rfl rfl rfl (zaw rfl (by first|rfl|(simp;done)|(simp;omega))) (by intro x hx;simp at hx;subst hx;rfl) (by simp) (by simp) ?_
 refine ev ?_
 refine rn0 (r1 rfl) (.gld ?_)
 rotate_left
 try simp only[Q] at h4p
 refine rn0 (r1 rfl) (.gld ?_)
 rotate_left
 try simp only[Q] at h3p
 refine sq (fun h5 h5p h5s=>?_) fun h5 h5p h5s=>?_
 try simp only[Q] at h5p
 refine Walk.sliceLit sl45 tz56 rfl (by decide) (ks:=[0]) (xs:=[_]) rfl rfl (by decide) (by decide) .none rfl rfl rfl rfl ?_
 refine Walk.append sl45 zz56 rfl .none rfl rfl rfl rfl (zaw rfl (by first|rfl|(simp;done)|(simp;omega))) (by intro x hx;simp at hx;subst hx;rfl) (by simp) (by simp) ?_
 refine ev ?_
 refine rn0 (r1 rfl) (.gld ?_)
 rotate_left
 try simp only[Q] at h5p
 refine rn0 (r1 rfl) (.gld ?_)
 rotate_left
 try simp only[Q] at h2p
 refine Walk.build st56 (ks:=[0,2,3]) (xs:=[_,_,_]) rfl rfl .none rfl rfl rfl ?_
 refine Walk.alloc (id:=3007) tz56 rfl .none rfl rfl rfl rfl ?_
 refine Walk.store ty56 .none rfl rfl rfl rfl rfl rfl (by simp) rfl ?_
 refine tv ?_
 refine ar ?_
 refine sq (fun h6 h6p h6s=>?_) fun h6 h6p h6s=>?_
 try simp only[Q] at h6p
 refine ar ?_
 refine Walk.store ty3 .none rfl rfl rfl rfl rfl rfl (by simp) rfl ?_
 refine tv ?_
 refine sq (fun h7 h7p h7s=>?_) fun h7 h7p h7s=>?_
 try simp only[Q] at h7p
 refine Walk.sliceLit sl45 tz56 rfl (by decide) (ks:=[0]) (xs:=[_]) rfl rfl (by decide) (by decide) .none rfl rfl rfl rfl ?_
 refine Walk.append sl45 zz56 rfl .none rfl rfl rfl rfl (zaw rfl (by first|rfl|(simp;done)|(simp;omega))) (by intro x hx;simp at hx;subst hx;rfl) (by simp) (by simp) ?_
 refine ev ?_
 refine rn0 (r1 rfl) (.gld ?_)
 rotate_left
 try simp only[Q] at h7p
 refine rn0 (r1 rfl) (.gld ?_)
 rotate_left
 try simp only[Q] at h6p
 refine sq (fun h8 h8p h8s=>?_) fun h8 h8p h8s=>?_
 try simp only[Q] at h8p
 refine Walk.sliceLit sl45 tz56 rfl (by decide) (ks:=[0]) (xs:=[_]) rfl rfl (by decide) (by decide) .none rfl rfl rfl rfl ?_
 refine Walk.append sl45 zz56 rfl .none rfl rfl rfl rfl (zaw rfl (by first|rfl|(simp;done)|(simp;omega))) (by intro x hx;simp at hx;subst hx;rfl) (by simp) (by simp) ?_
 refine ev ?_
 refine rn0 (r1 rfl) (.gld ?_)
 rotate_left
 try simp only[Q] at h8p
 refine rn0 (r1 rfl) (.gld ?_)
 rotate_left
 try simp only[Q] at h1p
 refine sq (fun h9 h9p h9s=>?_) fun h9 h9p h9s=>?_
 try simp only[Q] at h9p
 refine Walk.sliceLit sl45 tz56 rfl (by decide) (ks:=[0]) (xs:=[_]) rfl rfl (by decide) (by decide) .none rfl rfl rfl rfl ?_
 refine Walk.append sl45 zz56 rfl .none rfl rfl rfl rfl (zaw rfl (by first|rfl|(simp;done)|(simp;omega))) (by intro x hx;simp at hx;subst hx;rfl) (by simp) (by simp) ?_
 refine ev ?_
 refine Walk.build st56 (ks:=[0,2,3]) (xs:=[_,_,_]) rfl rfl .none rfl rfl rfl ?_
 refine Walk.alloc (id:=3007) tz56 rfl .none rfl rfl rfl rfl ?_
 refine Walk.store ty56 .none rfl rfl rfl rfl rfl rfl (by simp) rfl ?_
 refine tv ?_
 refine ar ?_
 refine sq (fun h10 h10p h10s=>?_) fun h10 h10p h10s=>?_
 try simp only[Q] at h10p
 refine ar ?_
 refine Walk.store ty3 .none rfl rfl rfl rfl rfl rfl (by simp) rfl ?_
 refine tv ?_
 refine sq (fun h11 h11p h11s=>?_) fun h11 h11p h11s=>?_
 try simp only[Q] at h11p
 refine Walk.sliceLit sl45 tz56 rfl (by decide) (ks:=[0]) (xs:=[_]) rfl rfl (by decide) (by decide) .none rfl rfl rfl rfl ?_
 refine Walk.append sl45 zz56 rfl .none rfl rfl rfl rfl (zaw rfl (by first|rfl|(simp;done)|(simp;omega))) (by intro x hx;simp at hx;subst hx;rfl) (by simp) (by simp) ?_
 refine ev ?_
 refine rn0 (r1 rfl) (.gld ?_)
 rotate_left
 try simp only[Q] at h11p
 refine rn0 (r1 rfl) (.gld ?_)
 rotate_left
 try simp only[Q] at h10p
 refine sq (fun h12 h12p h12s=>?_) fun h12 h12p h12s=>?_
 try simp only[Q] at h12p
 refine Walk.sliceLit sl45 tz56 rfl (by decide) (ks:=[0]) (xs:=[_]) rfl rfl (by decide) (by decide) .none rfl rfl rfl rfl ?_
 refine Walk.append sl45 zz56 rfl .none rfl rfl rfl rfl (zaw rfl (by first|rfl|(simp;done)|(simp;omega))) (by intro x hx;simp at hx;subst hx;rfl) (by simp) (by simp) ?_
 refine ev ?_
 refine rn0 (r1 rfl) (.gld ?_)
 rotate_left
 try simp only[Q] at h12p
 refine rn0 (r1 rfl) (.gld ?_)
 rotate_left
 try simp only[Q] at h9p
 refine Walk.build st56 (ks:=[0,2,3]) (xs:=[_,_,_]) rfl rfl .none rfl rfl rfl ?_
 refine Walk.alloc (id:=3007) tz56 rfl .none rfl rfl rfl rfl ?_
 refine Walk.store ty56 .none rfl rfl rfl rfl rfl rfl (by simp) rfl ?_
 refine tv ?_
 refine ar ?_
 refine sq (fun h13 h13p h13s=>?_) fun h13 h13p h13s=>?_
 try simp only[Q] at h13p
 refine ar ?_
 refine Walk.store ty3 .none rfl rfl rfl rfl rfl rfl (by simp) rfl ?_
 refine tv ?_
 refine sq (fun h14 h14p h14s=>?_) fun h14 h14p h14s=>?_
 try simp only[Q] at h14p
 refine Walk.sliceLit sl45 tz56 rfl (by decide) (ks:=[0]) (xs:=[_]) rfl rfl (by decide) (by decide) .none rfl rfl rfl rfl ?_
 refine Walk.append sl45 zz56 rfl .none rfl rfl rfl rfl (zaw rfl (by first|rfl|(simp;done)|(simp;omega))) (by intro x hx;simp at hx;subst hx;rfl) (by simp) (by simp) ?_
 refine ev ?_
 refine rn0 (r1 rfl) (.gld ?_)
 rotate_left
 try simp only[Q] at h14p
 refine rn0 (r1 rfl) (.gld ?_)
 rotate_left
 try simp only[Q] at h13p
 refine sq (fun h15 h15p h15s=>?_) fun h15 h15p h15s=>?_
 try simp only[Q] at h15p
 refine Walk.sliceLit sl45 tz56 rfl (by decide) (ks:=[0]) (xs:=[_]) rfl rfl (by decide) (by decide) .none rfl rfl rfl rfl ?_
 refine Walk.append sl45 zz56 rfl .none rfl rfl rfl rfl (zaw rfl (by first|rfl|(simp;done)|(simp;omega))) (by intro x hx;simp at hx;subst hx;rfl) (by simp) (by simp) ?_
 refine ev ?_
 refine rn0 (r1 rfl) (.gld ?_)
 rotate_left
 try simp only[Q] at h15p
 refine rn0 (r1 rfl) (.gld ?_)
 rotate_left
 all_goals (unfold minQ maxQ zcc;(repeat' split)<;>first|rfl|(exfalso;omega))
theorem znN {w:List Data} (hw:WT w){a k c:Int} (ht:TyIn w.length ⟨a,k⟩) (hc:c∈zam w ⟨a,k⟩) (hl:(zab w ⟨a,k⟩ c).length≤3):FnD Tryz.prog 253 [.d (zal w),.agg [.d (.i a),.d (.i k)],.d (.i c)] []
  (.agg [.d (.i 4),.d (.i c),.d (.i 0),.d (.i 0),.d (.i 0),.d (zae (zce w ⟨a,k⟩ c).kids)]) []:=by
 refine bd Tryz.f253 29 [] [] fun w0 F0 own kept hk=>?_
 refine Walk.box (id:=3004) .none rfl rfl rfl rfl rfl rfl rfl ?_
 refine Walk.alloc (id:=3006) tz56 rfl .none rfl rfl rfl rfl ?_
 refine tv ?_
 refine Walk.build st56 (ks:=[0,1]) (xs:=[_,_]) rfl rfl .none rfl rfl rfl ?_
 refine Walk.alloc (id:=3007) tz56 rfl .none rfl rfl rfl rfl ?_
 refine Walk.store ty56 .none rfl rfl rfl rfl rfl rfl (by simp) rfl ?_
 refine tv ?_
 refine wc zfJ (zcq hw ht hc) rfl rfl ?_
 refine ev ?_
 refine CWp.tokB 3007 5 9 6 rfl rfl rfl rfl ?_
 refine CWp.loopX (ι:=List (Ty)×List (Ty)) hk (fun x=>[(9,.d (.i (x.1.length:Int)))]) [16,17,18,19,20,21,22,23,24,25,26,27] (fun x=>[(3007,some (.box [.d (.i 4),.d (.i c),.d (.i 0),.d (.i 0),.d (.i 0),.gl 9 ((x.1.map fun _=>anyQ).map Pat.cc)])),(9,some (.tok ((x.1.map fun _=>anyQ).map Pat.cc).length 6))]) (fun x=>x.1++x.2=zab w ⟨a,k⟩ c) (fun x=>x.2.length) ([],zab w ⟨a,k⟩ c) (by simp) ⟨⟨_,rfl,LeA.eqi ?_⟩,trivial⟩ ⟨?_,⟨zaa ?_,trivial⟩⟩ (fun x=>rfl) (fun x hg1=>?_)
 focus (first|rfl|(simp;done)|(simp;exact⟨rfl,rfl,rfl,rfl,rfl,rfl⟩)|omega|(simp;omega))
 focus (first|rfl|(simp[getH];done)|(simp[getH];exact⟨rfl,rfl,rfl,rfl,rfl,rfl⟩))
 focus (first|rfl|(simp;done)|(simp;exact⟨rfl,rfl,rfl,rfl,rfl,rfl⟩)|omega|(simp;omega))
 obtain⟨pre,rest⟩:=x
 dsimp only at hg1 ⊢
 refine evc [] [] ?_
 refine sq (fun h1 h1p h1s=>?_) fun h1 h1p h1s=>?_
 try simp only[Q] at h1p
 rcases rest with _|⟨y,rest⟩
 ·exfalso;simp_all
 refine wc zkX (zdM) rfl rfl ?_
 refine Walk.sliceLit sl45 tz56 rfl (by decide) (ks:=[0]) (xs:=[_]) rfl rfl (by decide) (by decide) .none rfl rfl rfl rfl ?_
 refine Walk.append sl45 zz56 rfl .none rfl rfl rfl rfl (zaw rfl (by first|rfl|(simp;done)|(simp;omega))) (by intro x hx;first|(simp at hx;subst hx;rfl)|exact zby _ x hx) (by have:=congrArg List.length hg1;simp at this;simp;omega) (by have:=congrArg List.length hg1;simp at this;simp;omega) ?_
 refine evd [] [] ?_
 refine Walk.store ty45 .none rfl rfl rfl rfl rfl rfl (by simp) rfl ?_
 refine dr ?_
 refine ar ?_
 refine Exists.intro ((pre++[y],rest)) ⟨(by have hz:=hg1;rw[←hz];simp),(by simp),sx ⟨⟨_,rfl,LeA.eqi ?_⟩,trivial⟩ ⟨?_,⟨zaa ?_,trivial⟩⟩⟩
 focus (first|rfl|(simp;done)|(simp;exact⟨rfl,rfl,rfl,rfl,rfl,rfl⟩)|omega|(simp;omega))
 focus (first|rfl|(simp[getH];done)|(simp[getH];exact⟨rfl,rfl,rfl,rfl,rfl,rfl⟩))
 focus (first|rfl|(simp;done)|(simp;exact⟨rfl,rfl,rfl,rfl,rfl,rfl⟩)|omega|(simp;omega))
 try simp only[Q] at h1p
 have hrest:rest=[]:=by
  rcases rest with _|⟨a,b⟩
  ·rfl
  ·exfalso;have hz:=congrArg List.length (hg1);simp only[List.length_append,List.length_cons,List.length_map] at hz;omega
 subst hrest
 refine Walk.store ty56 .none rfl rfl rfl rfl rfl rfl (by simp) rfl ?_
 refine tv ?_
 refine rn0 (.cons (.cellA ty56 rfl rfl rfl) .nil) (.agg (.cons (.eqd ?_) (.cons (.eqd ?_) (.cons (.eqd ?_) (.cons (.eqd ?_) (.cons (.eqd ?_) (.cons (.gld ?_) .nil)))))))
 rotate_left 6
 all_goals (first|rfl|(rw[List.append_nil] at hg1;subst hg1;rw[←Pat.cs_cd];all_goals rfl))
def zdI (n:Nat) (a b:Pat):Pat:=if a.op=3∧b.op≠1 then intQ (maxQ a.n b.n) (minQ a.m b.m) else zcW n a b
theorem zmz {n:Nat}{a b:Pat} (h:¬(a.op=3∧b.op≠1)):zdI n a b=zcW n a b:=if_neg h
theorem zoJ {n:Nat}{a b:Pat} (h:(zaP n a b).isSome=true):zdI n a b=zcW n a b:=by
 unfold zdI
 split
 ·rename_i h3
  cases n with
  |zero=>simp[zaP] at h
  |succ n=>
   have e:=zls (n:=n) h3.1 h3.2
   rw[e] at h
   split at h
   ·rename_i hr
    rw[if_pos hr] at e
    exact(zcC e).symm
   ·cases h
 ·rfl
theorem zhV {w:List Data} (hs:Spa w):∀(n m:Nat){t:Ty}{a b:Pat},m≤n→InS (w.length*4) t→zak w m t a=true→zak w m t b=true→
  FnD Tryz.prog 231 [.agg [.d (.i (a).op),.d (.i (a).ctor),.d (.i (a).n),.d (.i (a).m),.d (.i (a).var),.d (zae (a).kids)],.agg [.d (.i (b).op),.d (.i (b).ctor),.d (.i (b).n),.d (.i (b).m),.d (.i (b).var),.d (zae (b).kids)]] [] (.tup [.agg [.d (.i (zdI n a b).op),.d (.i (zdI n a b).ctor),.d (.i (zdI n a b).n),.d (.i (zdI n a b).m),.d (.i (zdI n a b).var),.d (zae (zdI n a b).kids)],.d (.bool (zaP n a b).isSome)]) []
 |n,0,t,a,b,_,_,ha,_=>by simp[zak] at ha
 |0,m+1,t,a,b,h,_,_,_=>by omega
 |n+1,m+1,t,a,b,hnm,ht,ha,hb=>by
  by_cases h1:a.op=1
  ·have e:=zlq (n:=n) (b:=b) h1
   rw[zmz (fun h=>by omega),zcC e,e]
   refine bd Tryz.f231 89 [] [] fun w0 F0 own kept hk=>?_
   refine Walk.box (id:=3002) .none rfl rfl rfl rfl rfl rfl rfl ?_
   refine Walk.box (id:=3003) .none rfl rfl rfl rfl rfl rfl rfl ?_
   refine Walk.alloc (id:=3004) tz56 rfl .none rfl rfl rfl rfl ?_
   refine ev ?_
   refine sq (fun h1 h1p h1s=>?_) fun h1 h1p h1s=>?_
   try simp only[Q] at h1p
   refine Walk.store ty56 .none rfl rfl rfl rfl rfl rfl (by simp) rfl ?_
   refine ev ?_
   refine rn0 (.cons (.cellA ty56 rfl rfl rfl) (.cons (.tmp rfl) .nil)) (.tup (.cons (.agg (.cons (.eqd ?_) (.cons (.eqd ?_) (.cons (.eqd ?_) (.cons (.eqd ?_) (.cons (.eqd ?_) (.cons (.eqd ?_) .nil))))))) (.cons (.eqd ?_) .nil)))
   rotate_left 7
   try simp only[Q] at h1p
   exfalso;omega
   all_goals (rfl)
  by_cases h2:b.op=1
  ·have e:=zlr (n:=n) h1 h2
   rw[zmz (fun h=>h.2 h2),zcC e,e]
   refine bd Tryz.f231 89 [] [] fun w0 F0 own kept hk=>?_
   refine Walk.box (id:=3002) .none rfl rfl rfl rfl rfl rfl rfl ?_
   refine Walk.box (id:=3003) .none rfl rfl rfl rfl rfl rfl rfl ?_
   refine Walk.alloc (id:=3004) tz56 rfl .none rfl rfl rfl rfl ?_
   refine ev ?_
   refine sq (fun h1 h1p h1s=>?_) fun h1 h1p h1s=>?_
   try simp only[Q] at h1p
   exfalso;omega
   try simp only[Q] at h1p
   refine sq (fun h2 h2p h2s=>?_) fun h2 h2p h2s=>?_
   try simp only[Q] at h2p
   refine Walk.store ty56 .none rfl rfl rfl rfl rfl rfl (by simp) rfl ?_
   refine ev ?_
   refine rn0 (.cons (.cellA ty56 rfl rfl rfl) (.cons (.tmp rfl) .nil)) (.tup (.cons (.agg (.cons (.eqd ?_) (.cons (.eqd ?_) (.cons (.eqd ?_) (.cons (.eqd ?_) (.cons (.eqd ?_) (.cons (.eqd ?_) .nil))))))) (.cons (.eqd ?_) .nil)))
   rotate_left 7
   try simp only[Q] at h2p
   exfalso;omega
   all_goals (rfl)
  by_cases h3:a.op=3
  ·have e:=zls (n:=n) h3 h2
   have ez:zdI (n+1) a b=intQ (maxQ a.n b.n) (minQ a.m b.m):=if_pos ⟨h3,h2⟩
   have eb:(zaP (n+1) a b).isSome=decide (maxQ a.n b.n≤minQ a.m b.m):=by
    rw[e]
    by_cases hr:maxQ a.n b.n≤minQ a.m b.m
    ·rw[if_pos hr,decide_eq_true hr];rfl
    ·rw[if_neg hr,decide_eq_false hr];rfl
   rw[ez,eb]
   refine bd Tryz.f231 89 [] [] fun w0 F0 own kept hk=>?_
   refine Walk.box (id:=3002) .none rfl rfl rfl rfl rfl rfl rfl ?_
   refine Walk.box (id:=3003) .none rfl rfl rfl rfl rfl rfl rfl ?_
   refine Walk.alloc (id:=3004) tz56 rfl .none rfl rfl rfl rfl ?_
   refine ev ?_
   refine sq (fun h1 h1p h1s=>?_) fun h1 h1p h1s=>?_
   try simp only[Q] at h1p
   exfalso;omega
   try simp only[Q] at h1p
   refine sq (fun h2 h2p h2s=>?_) fun h2 h2p h2s=>?_
   try simp only[Q] at h2p
   exfalso;omega
   try simp only[Q] at h2p
   refine sq (fun h3 h3p h3s=>?_) fun h3 h3p h3s=>?_
   try simp only[Q] at h3p
   refine sq (fun h4 h4p h4s=>?_) fun h4 h4p h4s=>?_
   try simp only[Q] at h4p
   refine sq (fun h5 h5p h5s=>?_) fun h5 h5p h5s=>?_
   try simp only[Q] at h5p
   refine Walk.build st56 (ks:=[0,2,3]) (xs:=[_,_,_]) rfl rfl .none rfl rfl rfl ?_
   refine ev ?_
   refine Walk.store ty56 .none rfl rfl rfl rfl rfl rfl (by simp) rfl ?_
   refine ev ?_
   refine rn0 (.cons (.cellA ty56 rfl rfl rfl) (.cons (.tmp rfl) .nil)) (.tup (.cons (.agg (.cons (.eqd ?_) (.cons (.eqd ?_) (.cons (.eqd ?_) (.cons (.eqd ?_) (.cons (.eqd ?_) (.cons (.nild ?_) .nil))))))) (.cons (.eqd ?_) .nil)))
   rotate_left 7
   try simp only[Q] at h5p
   refine Walk.build st56 (ks:=[0,2,3]) (xs:=[_,_,_]) rfl rfl .none rfl rfl rfl ?_
   refine ev ?_
   refine Walk.store ty56 .none rfl rfl rfl rfl rfl rfl (by simp) rfl ?_
   refine ev ?_
   refine rn0 (.cons (.cellA ty56 rfl rfl rfl) (.cons (.tmp rfl) .nil)) (.tup (.cons (.agg (.cons (.eqd ?_) (.cons (.eqd ?_) (.cons (.eqd ?_) (.cons (.eqd ?_) (.cons (.eqd ?_) (.cons (.nild ?_) .nil))))))) (.cons (.eqd ?_) .nil)))
   rotate_left 7
   try simp only[Q] at h4p
   refine sq (fun h6 h6p h6s=>?_) fun h6 h6p h6s=>?_
   try simp only[Q] at h6p
   refine Walk.build st56 (ks:=[0,2,3]) (xs:=[_,_,_]) rfl rfl .none rfl rfl rfl ?_
   refine ev ?_
   refine Walk.store ty56 .none rfl rfl rfl rfl rfl rfl (by simp) rfl ?_
   refine ev ?_
   refine rn0 (.cons (.cellA ty56 rfl rfl rfl) (.cons (.tmp rfl) .nil)) (.tup (.cons (.agg (.cons (.eqd ?_) (.cons (.eqd ?_) (.cons (.eqd ?_) (.cons (.eqd ?_) (.cons (.eqd ?_) (.cons (.nild ?_) .nil))))))) (.cons (.eqd ?_) .nil)))
   rotate_left 7
   try simp only[Q] at h6p
   refine Walk.build st56 (ks:=[0,2,3]) (xs:=[_,_,_]) rfl rfl .none rfl rfl rfl ?_
   refine ev ?_
   refine Walk.store ty56 .none rfl rfl rfl rfl rfl rfl (by simp) rfl ?_
   refine ev ?_
   refine rn0 (.cons (.cellA ty56 rfl rfl rfl) (.cons (.tmp rfl) .nil)) (.tup (.cons (.agg (.cons (.eqd ?_) (.cons (.eqd ?_) (.cons (.eqd ?_) (.cons (.eqd ?_) (.cons (.eqd ?_) (.cons (.nild ?_) .nil))))))) (.cons (.eqd ?_) .nil)))
   rotate_left 7
   try simp only[Q] at h3p
   exfalso;omega
   all_goals (first|rfl|((try simp only[zhc,zfn,mk_n,mk_m,zgO,zdy]);simp only[minQ,maxQ];(repeat' split)<;>first|rfl|(exfalso;omega)))
  have oa:=zca ha
  have h4:a.op=4:=by omega
  have h4b:b.op=4:=by have:=zdQ ha hb h1 h2;omega
  have ez:zdI (n+1) a b=zcW (n+1) a b:=zmz (fun h=>h3 h.1)
  by_cases hc:a.ctor=b.ctor
  ·obtain⟨c1,c2,c3,-⟩:=za4 ha h4
   obtain⟨d1,d2,d3,-⟩:=za4 hb h4b
   rw[←hc] at d3
   have h3l:=hs.args t a.ctor ht c1
   have ka:=fun i (hi:i<a.kids.length)=>zbr ha hi
   have kb:=fun i (hi:i<b.kids.length)=>zbr hb hi
   rw[zbD h4] at ka
   rw[zbD h4b,←hc] at kb
   have e:=zlt (n:=n) h4 h2 hc
   have hlen:a.kids.length=b.kids.length:=by omega
   have ih:=fun i (hi:i<a.kids.length)=>zhV hs n m (t:=nth (zab w t a.ctor) i) (a:=nth a.kids i) (b:=nth b.kids i) (by omega) (zbY hs.dp ht c1 _ (zaf (by omega))) (ka i (by omega)) (kb i (by omega))
   have key:∀(i:Nat) (acc:List Pat),i<a.kids.length→(zaP n (nth a.kids i) (nth b.kids i)).isSome=true→zcL (zaP n) (a.kids.drop i) (b.kids.drop i) acc=zcL (zaP n) (a.kids.drop (i+1)) (b.kids.drop (i+1)) (acc++[zdI n (nth a.kids i) (nth b.kids i)]):=fun i acc hi h=>by
    rw[zoJ h];exact zlp hi (by omega) (zmA h)
   rw[ez]
   refine bd Tryz.f231 89 [] [] fun w0 F0 own kept hk=>?_
   refine Walk.box (id:=3002) .none rfl rfl rfl rfl rfl rfl rfl ?_
   refine Walk.box (id:=3003) .none rfl rfl rfl rfl rfl rfl rfl ?_
   refine Walk.alloc (id:=3004) tz56 rfl .none rfl rfl rfl rfl ?_
   refine ev ?_
   refine sq (fun h1 h1p h1s=>?_) fun h1 h1p h1s=>?_
   try simp only[Q,Pat.cs_len] at h1p
   exfalso;omega
   try simp only[Q,Pat.cs_len] at h1p
   refine sq (fun h2 h2p h2s=>?_) fun h2 h2p h2s=>?_
   try simp only[Q,Pat.cs_len] at h2p
   exfalso;omega
   try simp only[Q,Pat.cs_len] at h2p
   refine sq (fun h3 h3p h3s=>?_) fun h3 h3p h3s=>?_
   try simp only[Q,Pat.cs_len] at h3p
   exfalso;omega
   try simp only[Q,Pat.cs_len] at h3p
   refine sq (fun h4 h4p h4s=>?_) fun h4 h4p h4s=>?_
   try simp only[Q,Pat.cs_len] at h4p
   exfalso;omega
   try simp only[Q,Pat.cs_len] at h4p
   refine Walk.build st56 (ks:=[0,1]) (xs:=[_,_]) rfl rfl .none rfl rfl rfl ?_
   refine Walk.alloc (id:=3008) tz56 rfl .none rfl rfl rfl rfl ?_
   refine Walk.store ty56 .none rfl rfl rfl rfl rfl rfl (by simp) rfl ?_
   refine tv ?_
   refine CWp.tokB 3008 5 9 6 rfl rfl rfl rfl ?_
   refine CWp.loopX (ι:=Nat×List Pat) hk (fun x=>[(9,.d (.i (x.1:Int)))]) [5,10,11,58,59,60,61,62,63,64,65,66,67,68,69,70,71,72,73,74,75,76,77,78,79,80,81,82,83,84,85,86,87] (fun x=>[(3008,some (.box [.d (.i 4),.d (.i a.ctor),.d (.i 0),.d (.i 0),.d (.i 0),.gl 9 (x.2.map Pat.cc)])),(9,some (.tok (x.2.map Pat.cc).length 6))]) (fun x=>x.1≤a.kids.length∧x.2.length=x.1∧zcL (zaP n) (a.kids.drop x.1) (b.kids.drop x.1) x.2=zcL (zaP n) a.kids b.kids []) (fun x=>a.kids.length-x.1) (0,[]) ⟨by simp,rfl,rfl⟩ ⟨⟨_,rfl,LeA.eqi ?_⟩,trivial⟩ ⟨?_,⟨zaa ?_,trivial⟩⟩ (fun x=>rfl) (fun x hg1=>?_)
   focus (first|rfl|(simp;done)|(simp_all;done)|omega|(simp;omega))
   focus (first|rfl|(simp[getH];done))
   focus (first|rfl|(simp;done)|(simp_all;done)|omega|(simp;omega))
   refine evc [] [] ?_
   refine sq (fun h5 h5p h5s=>?_) fun h5 h5p h5s=>?_
   try simp only[Q,Pat.cs_len] at h5p
   refine Walk.idx sl45 .none rfl rfl rfl rfl (zaH (by omega)) rfl ?_
   refine evd [] [] ?_
   refine Walk.idx sl45 .none rfl rfl rfl rfl (zaH (by omega)) rfl ?_
   refine evd [] [] ?_
   refine wc zq8 (ih x.1 (by omega)) rfl rfl ?_
   refine evd [] [] ?_
   refine Walk.alloc (id:=3010) tz56 rfl .none rfl rfl rfl rfl ?_
   refine Walk.store ty56 .none rfl rfl rfl rfl rfl rfl (by simp) rfl ?_
   refine evd [] [] ?_
   refine dr ?_
   refine sq (fun h6 h6p h6s=>?_) fun h6 h6p h6s=>?_
   try simp only[Q,Pat.cs_len] at h6p
   refine Walk.build st56 (ks:=[]) (xs:=[]) rfl rfl .none rfl rfl rfl ?_
   refine Walk.store ty56 .none rfl rfl rfl rfl rfl rfl (by simp) rfl ?_
   refine ev ?_
   refine rn0 (.cons (.cellA ty56 rfl rfl rfl) (.cons (.tmp rfl) .nil)) (.tup (.cons (.agg (.cons (.eqd ?_) (.cons (.eqd ?_) (.cons (.eqd ?_) (.cons (.eqd ?_) (.cons (.eqd ?_) (.cons (.nild ?_) .nil))))))) (.cons (.eqd ?_) .nil)))
   rotate_left 7
   try simp only[Q,Pat.cs_len] at h6p
   refine Walk.sliceLit sl45 tz56 rfl (by decide) (ks:=[0]) (xs:=[_]) rfl rfl (by decide) (by decide) .none rfl rfl rfl rfl ?_
   refine Walk.append sl45 zz56 rfl .none rfl rfl rfl rfl (zaw rfl (by first|rfl|(simp;done)|(simp;omega))) (by intro x hx;first|(simp at hx;subst hx;rfl)|exact zby _ x hx) (by simp;omega) (by simp;omega) ?_
   refine ev ?_
   refine Walk.store ty45 .none rfl rfl rfl rfl rfl rfl (by simp) rfl ?_
   refine tv ?_
   refine ar ?_
   refine Exists.intro ((x.1+1,x.2++[zdI n (nth a.kids x.1) (nth b.kids x.1)])) ⟨⟨by dsimp only;omega,by dsimp only;rw[List.length_append,hg1.2.1];rfl,by dsimp only;rw[←key x.1 x.2 (by omega) (by assumption)];exact hg1.2.2⟩,(by dsimp only;omega),sx ⟨⟨_,rfl,LeA.eqi ?_⟩,trivial⟩ ⟨?_,⟨zaa ?_,trivial⟩⟩⟩
   focus (first|rfl|(simp;done)|(simp_all;done)|omega|(simp;omega))
   focus (first|rfl|(simp[getH];done))
   focus (first|rfl|(simp;done)|(simp_all;done)|omega|(simp;omega))
   try simp only[Q,Pat.cs_len] at h5p
   refine Walk.store ty56 .none rfl rfl rfl rfl rfl rfl (by simp) rfl ?_
   refine ev ?_
   refine rn0 (.cons (.cellA ty56 rfl rfl rfl) (.cons (.tmp rfl) .nil)) (.tup (.cons (.agg (.cons (.eqd ?_) (.cons (.eqd ?_) (.cons (.eqd ?_) (.cons (.eqd ?_) (.cons (.eqd ?_) (.cons (.gld ?_) .nil))))))) (.cons (.eqd ?_) .nil)))
   rotate_left 7
   all_goals (first|(have e2:zaP (n+1) a b=none:=(by rw[e,←hg1.2.2,zlo (by omega) (by omega) (zmB (by assumption))];rfl);(first|rw[ze1 e2]|rw[e2]);all_goals rfl)|(have e2:zaP (n+1) a b=some (zb0 a.ctor x.2):=(by rw[e,←hg1.2.2,zeN (by omega)];rfl);rw[zcC e2,Pat.cs_cd];all_goals rfl)|(have e2:zaP (n+1) a b=some (zb0 a.ctor x.2):=(by rw[e,←hg1.2.2,zeN (by omega)];rfl);rw[zcC e2];all_goals rfl)|(have e2:zaP (n+1) a b=some (zb0 a.ctor x.2):=(by rw[e,←hg1.2.2,zeN (by omega)];rfl);rw[e2];all_goals rfl))
  ·skip
   have e:=zjJ (n:=n) h4 h2 hc
   rw[ez,ze1 e,e]
   refine bd Tryz.f231 89 [] [] fun w0 F0 own kept hk=>?_
   refine Walk.box (id:=3002) .none rfl rfl rfl rfl rfl rfl rfl ?_
   refine Walk.box (id:=3003) .none rfl rfl rfl rfl rfl rfl rfl ?_
   refine Walk.alloc (id:=3004) tz56 rfl .none rfl rfl rfl rfl ?_
   refine ev ?_
   refine sq (fun h1 h1p h1s=>?_) fun h1 h1p h1s=>?_
   try simp only[Q] at h1p
   exfalso;omega
   try simp only[Q] at h1p
   refine sq (fun h2 h2p h2s=>?_) fun h2 h2p h2s=>?_
   try simp only[Q] at h2p
   exfalso;omega
   try simp only[Q] at h2p
   refine sq (fun h3 h3p h3s=>?_) fun h3 h3p h3s=>?_
   try simp only[Q] at h3p
   exfalso;omega
   try simp only[Q] at h3p
   refine sq (fun h4 h4p h4s=>?_) fun h4 h4p h4s=>?_
   try simp only[Q] at h4p
   refine Walk.build st56 (ks:=[]) (xs:=[]) rfl rfl .none rfl rfl rfl ?_
   refine Walk.store ty56 .none rfl rfl rfl rfl rfl rfl (by simp) rfl ?_
   refine ev ?_
   refine rn0 (.cons (.cellA ty56 rfl rfl rfl) (.cons (.tmp rfl) .nil)) (.tup (.cons (.agg (.cons (.eqd ?_) (.cons (.eqd ?_) (.cons (.eqd ?_) (.cons (.eqd ?_) (.cons (.eqd ?_) (.cons (.nild ?_) .nil))))))) (.cons (.eqd ?_) .nil)))
   rotate_left 7
   try simp only[Q] at h4p
   exfalso;omega
   all_goals (rfl)
theorem zoM {f:Ty→Pat→Pat→List Pat}{c:Int}{ts:List Ty}{xs bs front:List Pat}{i:Nat} (h1:i<ts.length) (h2:i<xs.length) (h3:i<bs.length) (h:(zaP 11 (nth xs i) (nth bs i)).isSome=true):
  za8 f c (ts.drop i) (xs.drop i) (bs.drop i) front=(f (nth ts i) (nth xs i) (nth bs i)).map (fun z=>zb0 c (front++[z]++xs.drop (i+1)))++za8 f c (ts.drop (i+1)) (xs.drop (i+1)) (bs.drop (i+1)) (front++[zdI 11 (nth xs i) (nth bs i)]):=by
 rw[zoJ h];exact zj6 h1 h2 h3 h
theorem zh0 (c:Int) (L:List Pat):Pat.cc (zb0 c L)=[D.i 4,D.i c,D.i 0,D.i 0,D.i 0,D.sl (L.map Pat.cc)]:=by
 show [D.i 4,D.i c,D.i 0,D.i 0,D.i 0,D.sl (Pat.cs L)]=_
 rw[Pat.cs_cd]
section
variable {w:List Data}
abbrev MinusSp (w:List Data) (n:Nat) (ta tk:Int) (a b:Pat):Prop:=
 FnD Tryz.prog 198 [.d (zal w),.agg [.d (.i ta),.d (.i tk)],.agg [.d (.i (a).op),.d (.i (a).ctor),.d (.i (a).n),.d (.i (a).m),.d (.i (a).var),.d (zae (a).kids)],.agg [.d (.i (b).op),.d (.i (b).ctor),.d (.i (b).n),.d (.i (b).m),.d (.i (b).var),.d (zae (b).kids)]] [] (.d (zae (zav w n ⟨ta,tk⟩ a b))) []
theorem zmV (hs:Spa w){n m:Nat} (hn:n+1≤10) (hm:m+1≤11) (hnm:n<m)
  (ih:∀ {ta tk:Int}{a b:Pat},InS (w.length*4) ⟨ta,tk⟩→zak w m ⟨ta,tk⟩ a=true→zak w n ⟨ta,tk⟩ b=true→MinusSp w n ta tk a b)
  {ta tk:Int}{a b:Pat} (ht:InS (w.length*4) ⟨ta,tk⟩) (ha:zak w (m+1) ⟨ta,tk⟩ a=true) (hb:zak w (n+1) ⟨ta,tk⟩ b=true) (h4:a.op=4) (h4b:b.op=4) (hc:a.ctor=b.ctor):
  FnD Tryz.prog 252 [.d (zal w),.agg [.d (.i ta),.d (.i tk)],.agg [.d (.i (a).op),.d (.i (a).ctor),.d (.i (a).n),.d (.i (a).m),.d (.i (a).var),.d (zae (a).kids)],.agg [.d (.i (b).op),.d (.i (b).ctor),.d (.i (b).n),.d (.i (b).m),.d (.i (b).var),.d (zae (b).kids)]] [] (.d (zae (zav w (n+1) ⟨ta,tk⟩ a b))) []:=by
 obtain⟨c1,c2,c3,-⟩:=za4 ha h4
 obtain⟨d1,d2,d3,-⟩:=za4 hb h4b
 rw[←hc] at d3
 have h3l:=hs.args ⟨ta,tk⟩ a.ctor ht c1
 have ka:=fun i (hi:i<a.kids.length)=>zbr ha hi
 have kb:=fun i (hi:i<b.kids.length)=>zbr hb hi
 rw[zbD h4] at ka
 rw[zbD h4b,←hc] at kb
 have hbd:=zfm hs (n:=n+1) (m:=m+1) (by omega) hn ht ha hb
 have e:zav w (n+1) ⟨ta,tk⟩ a b=za8 (zav w n) a.ctor (zab w ⟨ta,tk⟩ a.ctor) a.kids b.kids []:=by rw[zej h4b h4];exact if_pos hc
 have hins:=fun i (hi:i<(zab w ⟨ta,tk⟩ a.ctor).length)=>zbY hs.dp ht c1 _ (zaf hi)
 have hmi:∀i,i<(zab w ⟨ta,tk⟩ a.ctor).length→FnD Tryz.prog 198 [.d (zal w),.agg [.d (.i (nth (zab w ⟨ta,tk⟩ a.ctor) i).data),.d (.i (nth (zab w ⟨ta,tk⟩ a.ctor) i).index)],.agg [.d (.i (nth a.kids i).op),.d (.i (nth a.kids i).ctor),.d (.i (nth a.kids i).n),.d (.i (nth a.kids i).m),.d (.i (nth a.kids i).var),.d (zae (nth a.kids i).kids)],.agg [.d (.i (nth b.kids i).op),.d (.i (nth b.kids i).ctor),.d (.i (nth b.kids i).n),.d (.i (nth b.kids i).m),.d (.i (nth b.kids i).var),.d (zae (nth b.kids i).kids)]] [] (.d (zae (zav w n (nth (zab w ⟨ta,tk⟩ a.ctor) i) (nth a.kids i) (nth b.kids i)))) []:=fun i hi=>ih (ta:=(nth (zab w ⟨ta,tk⟩ a.ctor) i).data) (tk:=(nth (zab w ⟨ta,tk⟩ a.ctor) i).index) (hins i hi) (ka i (by omega)) (kb i (by omega))
 have hme:=fun i (hi:i<(zab w ⟨ta,tk⟩ a.ctor).length)=>zhV hs 11 m (t:=nth (zab w ⟨ta,tk⟩ a.ctor) i) (by omega) (hins i hi) (ka i (by omega)) (zjL (by omega) (kb i (by omega)))
 rw[e] at hbd ⊢
 have hT:∀i out front,i<(zab w ⟨ta,tk⟩ a.ctor).length→out++za8 (zav w n) a.ctor ((zab w ⟨ta,tk⟩ a.ctor).drop i) (a.kids.drop i) (b.kids.drop i) front=za8 (zav w n) a.ctor (zab w ⟨ta,tk⟩ a.ctor) a.kids b.kids []→
   out.length+(zav w n (nth (zab w ⟨ta,tk⟩ a.ctor) i) (nth a.kids i) (nth b.kids i)).length≤20000000:=fun i out front hi h=>by
  rw[zhb hi (by omega) (by omega)] at h
  have:=congrArg List.length h
  simp only[List.length_append,List.length_map] at this
  omega
 refine bd Tryz.f252 100 [] [] fun w0 F0 own kept hk=>?_
 refine Walk.box (id:=3005) .none rfl rfl rfl rfl rfl rfl rfl ?_
 refine Walk.box (id:=3006) .none rfl rfl rfl rfl rfl rfl rfl ?_
 refine Walk.box (id:=3007) .none rfl rfl rfl rfl rfl rfl rfl ?_
 refine ev ?_
 refine Walk.sliceEmptyG 9 sl45 .none rfl rfl ?_
 refine ev ?_
 refine wc zfJ (zcq hs.dp.wt (zb6 ht) c1) rfl rfl ?_
 refine ev ?_
 refine Walk.sliceEmptyG 8 sl45 .none rfl rfl ?_
 refine ev ?_
 refine CWp.loopX (ι:=Nat×List Pat×List Pat) hk (fun s=>[(12,.d (.i (s.1:Int))),(9,.gl 9 (s.2.1.map Pat.cc)),(11,.gl 8 (s.2.2.map Pat.cc))]) [8,13,14,15,16,17,25,26,27,28,29,30,31,32,33,34,35,36,37,38,39,40,41,42,43,44,45,46,47,48,49,50,51,52,53,54,55,56,57,58,59,60,61,62,63,64,65,66,67,68,69,70,71,72,73,74,75,76,77,78,79,80,81,82,83,84,85,86,87,88,89,90,91,92,93,94,95,96,97,98] (fun s=>[(9,some (.tok ((s.2.1.map Pat.cc)).length 6)),(8,some (.tok ((s.2.2.map Pat.cc)).length 6))]) (fun s=>s.1≤a.kids.length∧s.2.2.length=s.1∧s.2.1++za8 (zav w n) a.ctor ((zab w ⟨ta,tk⟩ a.ctor).drop s.1) (a.kids.drop s.1) (b.kids.drop s.1) s.2.2=za8 (zav w n) a.ctor (zab w ⟨ta,tk⟩ a.ctor) a.kids b.kids []) (fun s=>a.kids.length-s.1) (0,[],[]) ⟨by simp,rfl,rfl⟩ ⟨⟨_,rfl,LeA.eqi ?_⟩,⟨⟨_,rfl,LeA.glg ?_⟩,⟨⟨_,rfl,LeA.glg ?_⟩,trivial⟩⟩⟩ ⟨zaa ?_,⟨zaa ?_,trivial⟩⟩ (fun x=>rfl) (fun s hg1=>?_)
 iterate 5 focus (first|rfl|(simp;done)|(simp_all;done)|omega|(simp;omega))
 refine evc [] [] ?_
 refine sq (fun h1 h1p h1s=>?_) fun h1 h1p h1s=>?_
 try simp only[Q,Pat.cs_len] at h1p
 refine Walk.idx zaZ .none rfl rfl rfl rfl (zaq (by omega)) rfl ?_
 refine evd [] [] ?_
 refine Walk.idx sl45 .none rfl rfl rfl rfl (zaH (by omega)) rfl ?_
 refine evd [] [] ?_
 refine Walk.idx sl45 .none rfl rfl rfl rfl (zaH (by omega)) rfl ?_
 refine evd [] [] ?_
 refine wc zoc (hmi s.1 (by omega)) rfl rfl ?_
 refine evd [] [] ?_
 refine dr ?_
 refine CWp.loopX (ι:=List (Pat)×List (Pat)) hk (fun x=>[(14,.d (.i (x.1.length:Int))),(9,.gl 9 ((s.2.1++x.1.map (fun z=>zb0 a.ctor (s.2.2++[z]++a.kids.drop (s.1+1)))).map Pat.cc))]) [15,47,48,49,50,51,52,53,54,55,56,57,58,59,60,61,62,63,64,65,66,67,68,69,70,71,72,73,74,75,76,77] (fun x=>[(9,some (.tok (((s.2.1++x.1.map (fun z=>zb0 a.ctor (s.2.2++[z]++a.kids.drop (s.1+1)))).map Pat.cc)).length 6))]) (fun x=>x.1++x.2=(zav w n (nth (zab w ⟨ta,tk⟩ a.ctor) s.1) (nth a.kids s.1) (nth b.kids s.1))) (fun x=>x.2.length) ([],(zav w n (nth (zab w ⟨ta,tk⟩ a.ctor) s.1) (nth a.kids s.1) (nth b.kids s.1))) (by simp) ⟨⟨_,rfl,LeA.eqi ?_⟩,⟨⟨_,rfl,LeA.glg ?_⟩,trivial⟩⟩ ⟨zaa ?_,trivial⟩ (fun x=>rfl) (fun x hg2=>?_)
 iterate 3 focus (first|rfl|(simp;done)|(simp only[List.map_append,List.append_assoc,List.map_cons,List.map_nil,zh0,Pat.cs_cd a.kids,List.map_drop,List.nil_append,List.cons_append];done)|(simp only[List.map_append,List.append_assoc,List.map_cons,List.map_nil,zh0,Pat.cs_cd a.kids,List.map_drop,List.nil_append,List.cons_append];rfl)|(rw[List.append_nil] at hg2;rw[hg2];done)|omega|(simp;omega))
 obtain⟨pre,rest⟩:=x
 dsimp only at hg2 ⊢
 refine evc [] [] ?_
 refine sq (fun h2 h2p h2s=>?_) fun h2 h2p h2s=>?_
 try simp only[Q,Pat.cs_len] at h2p
 rcases rest with _|⟨y,rest⟩
 ·exfalso;simp_all
 refine Walk.sliceEmptyG 7 sl45 .none rfl rfl ?_
 refine evd [] [] ?_
 refine Walk.append sl45 zz56 rfl .none rfl rfl rfl rfl (zaw rfl (by first|rfl|(simp;done)|(simp;omega))) (by intro x hx;first|(simp at hx;subst hx;rfl)|exact zby _ x hx|exact zbb _ x hx|exact zbb _ x (List.mem_of_mem_drop hx)) (by first|(have h9:=hT s.1 s.2.1 s.2.2 (by omega) hg1.2.2;have h8:=congrArg List.length hg2;simp[Pat.cs_len] at h8 ⊢;omega)|(simp[Pat.cs_len];omega)) (by first|(have h9:=hT s.1 s.2.1 s.2.2 (by omega) hg1.2.2;have h8:=congrArg List.length hg2;simp[Pat.cs_len] at h8 ⊢;omega)|(simp[Pat.cs_len];omega)) ?_
 refine evd [] [] ?_
 refine Walk.idx sl45 .none rfl rfl rfl rfl (Pat.cs_at' hg2) rfl ?_
 refine evd [] [] ?_
 refine Walk.sliceLit sl45 tz56 rfl (by decide) (ks:=[0]) (xs:=[_]) rfl rfl (by decide) (by decide) .none rfl rfl rfl rfl ?_
 refine Walk.append sl45 zz56 rfl .none rfl rfl rfl rfl (zaw rfl (by first|rfl|(simp;done)|(simp;omega))) (by intro x hx;first|(simp at hx;subst hx;rfl)|exact zby _ x hx|exact zbb _ x hx|exact zbb _ x (List.mem_of_mem_drop hx)) (by first|(have h9:=hT s.1 s.2.1 s.2.2 (by omega) hg1.2.2;have h8:=congrArg List.length hg2;simp[Pat.cs_len] at h8 ⊢;omega)|(simp[Pat.cs_len];omega)) (by first|(have h9:=hT s.1 s.2.1 s.2.2 (by omega) hg1.2.2;have h8:=congrArg List.length hg2;simp[Pat.cs_len] at h8 ⊢;omega)|(simp[Pat.cs_len];omega)) ?_
 refine Walk.build st56 (ks:=[0,1,5]) (xs:=[_,_,_]) rfl rfl .none rfl rfl rfl ?_
 refine Walk.alloc (id:=3015) tz56 rfl .none rfl rfl rfl rfl ?_
 refine Walk.store ty56 .none rfl rfl rfl rfl rfl rfl (by simp) rfl ?_
 refine dr ?_
 refine ar ?_ (by first|(constructor<;>omega)|(have h9:=hT s.1 s.2.1 s.2.2 (by omega) hg1.2.2;have h8:=congrArg List.length hg2;simp only[List.length_append,List.length_cons] at h8;constructor<;>omega))
 refine Walk.cut_l (b:=s.1+1) sl45 .none rfl rfl rfl (by intro x hx;first|(simp at hx;subst hx;rfl)|exact zby _ x hx|exact zbb _ x hx|exact zbb _ x (List.mem_of_mem_drop hx)) rfl rfl (by simp only[Pat.cs_len];omega) ?_
 refine Walk.append sl45 zz56 rfl .none rfl rfl rfl rfl (zaw rfl (by first|rfl|(simp;done)|(simp;omega))) (by intro x hx;first|(simp at hx;subst hx;rfl)|exact zby _ x hx|exact zbb _ x hx|exact zbb _ x (List.mem_of_mem_drop hx)) (by first|(have h9:=hT s.1 s.2.1 s.2.2 (by omega) hg1.2.2;have h8:=congrArg List.length hg2;simp[Pat.cs_len] at h8 ⊢;omega)|(simp[Pat.cs_len];omega)) (by first|(have h9:=hT s.1 s.2.1 s.2.2 (by omega) hg1.2.2;have h8:=congrArg List.length hg2;simp[Pat.cs_len] at h8 ⊢;omega)|(simp[Pat.cs_len];omega)) ?_
 refine evd [] [] ?_
 refine Walk.store ty45 .none rfl rfl rfl rfl rfl rfl (by simp) rfl ?_
 refine dr ?_
 refine Walk.sliceLit sl45 tz56 rfl (by decide) (ks:=[0]) (xs:=[_]) rfl rfl (by decide) (by decide) .none rfl rfl rfl rfl ?_
 refine Walk.append sl45 zz56 rfl .none rfl rfl rfl rfl (zaw rfl (by first|rfl|(simp;done)|(simp;omega))) (by intro x hx;first|(simp at hx;subst hx;rfl)|exact zby _ x hx|exact zbb _ x hx|exact zbb _ x (List.mem_of_mem_drop hx)) (by first|(have h9:=hT s.1 s.2.1 s.2.2 (by omega) hg1.2.2;have h8:=congrArg List.length hg2;simp[Pat.cs_len] at h8 ⊢;omega)|(simp[Pat.cs_len];omega)) (by first|(have h9:=hT s.1 s.2.1 s.2.2 (by omega) hg1.2.2;have h8:=congrArg List.length hg2;simp[Pat.cs_len] at h8 ⊢;omega)|(simp[Pat.cs_len];omega)) ?_
 refine ev ?_
 refine ar ?_ (by first|(constructor<;>omega)|(have h9:=hT s.1 s.2.1 s.2.2 (by omega) hg1.2.2;have h8:=congrArg List.length hg2;simp only[List.length_append,List.length_cons] at h8;constructor<;>omega))
 refine Exists.intro ((pre++[y],rest)) ⟨(by have hz:=hg2;rw[←hz];simp),(by simp),sx ⟨⟨_,rfl,LeA.eqi ?_⟩,⟨⟨_,rfl,LeA.glg ?_⟩,trivial⟩⟩ ⟨zaa ?_,trivial⟩⟩
 iterate 3 focus (first|rfl|(simp;done)|(simp only[List.map_append,List.append_assoc,List.map_cons,List.map_nil,zh0,Pat.cs_cd a.kids,List.map_drop,List.nil_append,List.cons_append];done)|(simp only[List.map_append,List.append_assoc,List.map_cons,List.map_nil,zh0,Pat.cs_cd a.kids,List.map_drop,List.nil_append,List.cons_append];rfl)|(rw[List.append_nil] at hg2;rw[hg2];done)|omega|(simp;omega))
 try simp only[Q,Pat.cs_len] at h2p
 have hrest:rest=[]:=by
  rcases rest with _|⟨a,b⟩
  ·rfl
  ·exfalso;have hz:=congrArg List.length (hg2);simp only[List.length_append,List.length_cons,List.length_map] at hz;omega
 subst hrest
 refine Walk.idx sl45 .none rfl rfl rfl rfl (zaH (by omega)) rfl ?_
 refine evd [] [] ?_
 refine Walk.idx sl45 .none rfl rfl rfl rfl (zaH (by omega)) rfl ?_
 refine evd [] [] ?_
 refine wc zq8 (hme s.1 (by omega)) rfl rfl ?_
 refine evd [] [] ?_
 refine Walk.alloc (id:=3016) tz56 rfl .none rfl rfl rfl rfl ?_
 refine Walk.store ty56 .none rfl rfl rfl rfl rfl rfl (by simp) rfl ?_
 refine evd [] [] ?_
 refine dr ?_
 refine sq (fun h3 h3p h3s=>?_) fun h3 h3p h3s=>?_
 try simp only[Q,Pat.cs_len] at h3p
 refine rn0 (r1 rfl) (.gld ?_)
 rotate_left
 try simp only[Q,Pat.cs_len] at h3p
 refine Walk.sliceLit sl45 tz56 rfl (by decide) (ks:=[0]) (xs:=[_]) rfl rfl (by decide) (by decide) .none rfl rfl rfl rfl ?_
 refine Walk.append sl45 zz56 rfl .none rfl rfl rfl rfl (zaw rfl (by first|rfl|(simp;done)|(simp;omega))) (by intro x hx;first|(simp at hx;subst hx;rfl)|exact zby _ x hx|exact zbb _ x hx|exact zbb _ x (List.mem_of_mem_drop hx)) (by first|(have h9:=hT s.1 s.2.1 s.2.2 (by omega) hg1.2.2;have h8:=congrArg List.length hg2;simp[Pat.cs_len] at h8 ⊢;omega)|(simp[Pat.cs_len];omega)) (by first|(have h9:=hT s.1 s.2.1 s.2.2 (by omega) hg1.2.2;have h8:=congrArg List.length hg2;simp[Pat.cs_len] at h8 ⊢;omega)|(simp[Pat.cs_len];omega)) ?_
 refine ev ?_
 refine ar ?_ (by first|(constructor<;>omega)|(have h9:=hT s.1 s.2.1 s.2.2 (by omega) hg1.2.2;have h8:=congrArg List.length hg2;simp only[List.length_append,List.length_cons] at h8;constructor<;>omega))
 refine Exists.intro ((s.1+1,s.2.1++(zav w n (nth (zab w ⟨ta,tk⟩ a.ctor) s.1) (nth a.kids s.1) (nth b.kids s.1)).map (fun z=>zb0 a.ctor (s.2.2++[z]++a.kids.drop (s.1+1))),s.2.2++[zdI 11 (nth a.kids s.1) (nth b.kids s.1)])) ⟨⟨by dsimp only;omega,by dsimp only;rw[List.length_append,hg1.2.1];rfl,by dsimp only;rw[List.append_assoc,←zoM (by omega) (by omega) (by omega) (by assumption)];exact hg1.2.2⟩,(by dsimp only;omega),sx ⟨⟨_,rfl,LeA.eqi ?_⟩,⟨⟨_,rfl,LeA.glg ?_⟩,⟨⟨_,rfl,LeA.glg ?_⟩,trivial⟩⟩⟩ ⟨zaa ?_,⟨zaa ?_,trivial⟩⟩⟩
 iterate 5 focus (first|rfl|(simp;done)|(simp_all;done)|omega|(simp;omega))
 try simp only[Q,Pat.cs_len] at h1p
 refine rn0 (r1 rfl) (.gld ?_)
 rotate_left
 all_goals (first|rfl|(rw[←hg1.2.2,zlu (by omega),List.append_nil,Pat.cs_cd];done)|(rw[List.append_nil] at hg2;rw[←hg1.2.2,zj5 (by omega) (by omega) (by omega) (by assumption),←hg2,Pat.cs_cd];all_goals rfl))
theorem zo4 {n:Nat}{ta tk:Int}{a b:Pat} (h:b.op=1):MinusSp w (n+1) ta tk a b:=by
 unfold MinusSp
 rw[zgz h]
 refine bd Tryz.f198 82 [] [] fun w0 F0 own kept hk=>?_
 refine Walk.box (id:=3005) .none rfl rfl rfl rfl rfl rfl rfl ?_
 refine Walk.box (id:=3006) .none rfl rfl rfl rfl rfl rfl rfl ?_
 refine Walk.box (id:=3007) .none rfl rfl rfl rfl rfl rfl rfl ?_
 refine ev ?_
 refine sq (fun h1 h1p h1s=>?_) fun h1 h1p h1s=>?_
 try simp only[Q] at h1p
 refine Walk.sliceEmpty sl45 .none rfl ?_
 refine ev ?_
 refine rn0 (r1 rfl) (.eqd ?_)
 rotate_left
 try simp only[Q] at h1p
 exfalso;omega
 all_goals (rfl)
theorem zo5 {n:Nat}{ta tk:Int}{a b:Pat} (h:b.op=3) (ha:a.op=1∨a.op=3) (hbn:0≤b.n∧b.n≤9) (hbm:0≤b.m∧b.m≤9):MinusSp w (n+1) ta tk a b:=by
 unfold MinusSp
 rw[zjK h]
 by_cases h1:a.op=1
 ·have e:zeu a b=zcc 0 (minQ 9 (b.n-1))++zcc (maxQ 0 (b.m+1)) 9:=by
   have e1:lowQ a=0:=if_pos h1
   have e2:zdf a=9:=if_pos h1
   unfold zeu;rw[e1,e2]
  have hr:=zgY (a:=intQ 0 9) hbn hbm
  rw[e]
  refine bd Tryz.f198 82 [] [] fun w0 F0 own kept hk=>?_
  refine Walk.box (id:=3005) .none rfl rfl rfl rfl rfl rfl rfl ?_
  refine Walk.box (id:=3006) .none rfl rfl rfl rfl rfl rfl rfl ?_
  refine Walk.box (id:=3007) .none rfl rfl rfl rfl rfl rfl rfl ?_
  refine ev ?_
  refine sq (fun h1 h1p h1s=>?_) fun h1 h1p h1s=>?_
  try simp only[Q] at h1p
  exfalso;omega
  try simp only[Q] at h1p
  refine sq (fun h2 h2p h2s=>?_) fun h2 h2p h2s=>?_
  try simp only[Q] at h2p
  refine sq (fun h3 h3p h3s=>?_) fun h3 h3p h3s=>?_
  try simp only[Q] at h3p
  refine Walk.build st56 (ks:=[0,3]) (xs:=[_,_]) rfl rfl .none rfl rfl rfl ?_
  refine ev ?_
  refine Walk.call (cr:=[]) zrd (hr) rfl .none rfl rfl (.cons (.agg (.cons (.refl _) (.cons (.refl _) (.cons (.refl _) (.cons (.refl _) (.cons (.refl _) (.cons .nil .nil))))))) (.cons (.refl _) .nil)) trivial rfl rfl rfl ?_
  refine ev ?_
  focus (refine rn0 (r1 rfl) (.eqd ?_);all_goals (first|rfl|(simp[h1s,h1p,h2s,h2p,h3s,h3p];done)|(simp_all;done)|(simp_all;omega)|omega))
  try simp only[Q] at h3p
  focus (exfalso;first|omega|(simp_all;done))
  try simp only[Q] at h2p
  exfalso;omega
 ·have e:zeu a b=zcc a.n (minQ a.m (b.n-1))++zcc (maxQ a.n (b.m+1)) a.m:=by
   have e1:lowQ a=a.n:=if_neg h1
   have e2:zdf a=a.m:=if_neg h1
   unfold zeu;rw[e1,e2]
  have hr:=zgY (a:=a) hbn hbm
  rw[e]
  refine bd Tryz.f198 82 [] [] fun w0 F0 own kept hk=>?_
  refine Walk.box (id:=3005) .none rfl rfl rfl rfl rfl rfl rfl ?_
  refine Walk.box (id:=3006) .none rfl rfl rfl rfl rfl rfl rfl ?_
  refine Walk.box (id:=3007) .none rfl rfl rfl rfl rfl rfl rfl ?_
  refine ev ?_
  refine sq (fun h1 h1p h1s=>?_) fun h1 h1p h1s=>?_
  try simp only[Q] at h1p
  exfalso;omega
  try simp only[Q] at h1p
  refine sq (fun h2 h2p h2s=>?_) fun h2 h2p h2s=>?_
  try simp only[Q] at h2p
  refine sq (fun h3 h3p h3s=>?_) fun h3 h3p h3s=>?_
  try simp only[Q] at h3p
  focus (exfalso;first|omega|(simp_all;done))
  try simp only[Q] at h3p
  refine sq (fun h4 h4p h4s=>?_) fun h4 h4p h4s=>?_
  try simp only[Q] at h4p
  refine wc zrd (hr) rfl rfl ?_
  refine ev ?_
  focus (refine rn0 (r1 rfl) (.eqd ?_);all_goals (first|rfl|(simp[h1s,h1p,h2s,h2p,h3s,h3p,h4s,h4p];done)|(simp_all;done)|(simp_all;omega)|omega))
  try simp only[Q] at h4p
  exfalso;omega
  try simp only[Q] at h2p
  exfalso;omega
theorem zo8 {n:Nat}{ta tk:Int}{a b:Pat} (h4:a.op=4) (h4b:b.op=4) (hc:¬a.ctor=b.ctor):MinusSp w (n+1) ta tk a b:=by
 unfold MinusSp
 have e:zav w (n+1) ⟨ta,tk⟩ a b=[a]:=by rw[zej h4b h4];exact if_neg hc
 rw[e]
 refine bd Tryz.f198 82 [] [] fun w0 F0 own kept hk=>?_
 refine Walk.box (id:=3005) .none rfl rfl rfl rfl rfl rfl rfl ?_
 refine Walk.box (id:=3006) .none rfl rfl rfl rfl rfl rfl rfl ?_
 refine Walk.box (id:=3007) .none rfl rfl rfl rfl rfl rfl rfl ?_
 refine ev ?_
 refine sq (fun h1 h1p h1s=>?_) fun h1 h1p h1s=>?_
 try simp only[Q] at h1p
 exfalso;omega
 try simp only[Q] at h1p
 refine sq (fun h2 h2p h2s=>?_) fun h2 h2p h2s=>?_
 try simp only[Q] at h2p
 exfalso;omega
 try simp only[Q] at h2p
 refine sqF ?_
 refine sq (fun h4 h4p h4s=>?_) fun h4 h4p h4s=>?_
 try simp only[Q] at h4p
 exfalso;omega
 try simp only[Q] at h4p
 refine sq (fun h5 h5p h5s=>?_) fun h5 h5p h5s=>?_
 try simp only[Q] at h5p
 refine sq (fun h6 h6p h6s=>?_) fun h6 h6p h6s=>?_
 try simp only[Q] at h6p
 refine Walk.sliceLit sl45 tz56 rfl (by decide) (ks:=[0]) (xs:=[_]) rfl rfl (by decide) (by decide) .none rfl rfl rfl rfl ?_
 refine ev ?_
 refine rn0 (r1 rfl) (.eqd ?_)
 rotate_left
 try simp only[Q] at h6p
 focus (exfalso;first|omega|(simp_all;done))
 try simp only[Q] at h5p
 exfalso;omega
 all_goals (first|rfl|(cases a;rfl))
theorem zo7 (hs:Spa w){n m:Nat} (hn:n+1≤10) (hm:m+1≤11) (hnm:n<m)
  (ih:∀ {ta tk:Int}{a b:Pat},InS (w.length*4) ⟨ta,tk⟩→zak w m ⟨ta,tk⟩ a=true→zak w n ⟨ta,tk⟩ b=true→MinusSp w n ta tk a b)
  {ta tk:Int}{a b:Pat} (ht:InS (w.length*4) ⟨ta,tk⟩) (ha:zak w (m+1) ⟨ta,tk⟩ a=true) (hb:zak w (n+1) ⟨ta,tk⟩ b=true) (h4:a.op=4) (h4b:b.op=4) (hc:a.ctor=b.ctor):MinusSp w (n+1) ta tk a b:=by
 have hki:=zmV hs hn hm hnm ih ht ha hb h4 h4b hc
 clear ih
 unfold MinusSp
 refine bd Tryz.f198 82 [] [] fun w0 F0 own kept hk=>?_
 refine Walk.box (id:=3005) .none rfl rfl rfl rfl rfl rfl rfl ?_
 refine Walk.box (id:=3006) .none rfl rfl rfl rfl rfl rfl rfl ?_
 refine Walk.box (id:=3007) .none rfl rfl rfl rfl rfl rfl rfl ?_
 refine ev ?_
 refine sq (fun h1 h1p h1s=>?_) fun h1 h1p h1s=>?_
 try simp only[Q] at h1p
 exfalso;omega
 try simp only[Q] at h1p
 refine sq (fun h2 h2p h2s=>?_) fun h2 h2p h2s=>?_
 try simp only[Q] at h2p
 exfalso;omega
 try simp only[Q] at h2p
 refine sqF ?_
 refine sq (fun h4 h4p h4s=>?_) fun h4 h4p h4s=>?_
 try simp only[Q] at h4p
 exfalso;omega
 try simp only[Q] at h4p
 refine sq (fun h5 h5p h5s=>?_) fun h5 h5p h5s=>?_
 try simp only[Q] at h5p
 refine sq (fun h6 h6p h6s=>?_) fun h6 h6p h6s=>?_
 try simp only[Q] at h6p
 focus (exfalso;first|omega|(simp_all;done))
 try simp only[Q] at h6p
 refine sq (fun h7 h7p h7s=>?_) fun h7 h7p h7s=>?_
 try simp only[Q] at h7p
 refine wc zuq (hki) rfl rfl ?_
 refine ev ?_
 focus (refine rn0 (r1 rfl) (.eqd ?_);all_goals (first|rfl|(simp[h1s,h1p,h2s,h2p,h4s,h4p,h5s,h5p,h6s,h6p,h7s,h7p];done)|(simp_all;done)|(simp_all;omega)|omega))
 try simp only[Q] at h7p
 exfalso;omega
 try simp only[Q] at h5p
 exfalso;omega
theorem zo6 (hs:Spa w){n:Nat}{ta tk:Int}{a b:Pat} (ht:InS (w.length*4) ⟨ta,tk⟩) (h1:a.op=1) (h4b:b.op=4) (hbd:(zav w (n+1) ⟨ta,tk⟩ a b).length≤20000000)
  (hC:∀c∈zam w ⟨ta,tk⟩,MinusSp w (n+1) ta tk (zce w ⟨ta,tk⟩ c) b):MinusSp w (n+1) ta tk a b:=by
 have e:zav w (n+1) ⟨ta,tk⟩ a b=(zam w ⟨ta,tk⟩).flatMap fun c=>zav w (n+1) ⟨ta,tk⟩ (zce w ⟨ta,tk⟩ c) b:=by
  rw[zhM h4b h1]
  exact congrArg (fun g=>(zam w ⟨ta,tk⟩).flatMap g) (funext fun c=>(zej h4b rfl).symm)
 unfold MinusSp
 rw[e] at hbd ⊢
 have hcl:=(hs.ctors _ ht).1
 have hpre:∀ {pre rest:List Int}{y:Int},pre++y::rest=zam w ⟨ta,tk⟩→(pre.flatMap fun c=>zav w (n+1) ⟨ta,tk⟩ (zce w ⟨ta,tk⟩ c) b).length+(zav w (n+1) ⟨ta,tk⟩ (zce w ⟨ta,tk⟩ y) b).length≤20000000:=fun h=>by
  rw[←h,List.flatMap_append,List.flatMap_cons] at hbd
  simp only[List.length_append] at hbd
  omega
 have hmem:∀ {pre rest:List Int}{y:Int},pre++y::rest=zam w ⟨ta,tk⟩→y∈zam w ⟨ta,tk⟩:=fun h=>by rw[←h];simp
 refine bd Tryz.f198 82 [] [] fun w0 F0 own kept hk=>?_
 refine Walk.box (id:=3005) .none rfl rfl rfl rfl rfl rfl rfl ?_
 refine Walk.box (id:=3006) .none rfl rfl rfl rfl rfl rfl rfl ?_
 refine Walk.box (id:=3007) .none rfl rfl rfl rfl rfl rfl rfl ?_
 refine ev ?_
 refine sq (fun h1 h1p h1s=>?_) fun h1 h1p h1s=>?_
 try simp only[Q,Pat.cs_len] at h1p
 exfalso;omega
 try simp only[Q,Pat.cs_len] at h1p
 refine sq (fun h2 h2p h2s=>?_) fun h2 h2p h2s=>?_
 try simp only[Q,Pat.cs_len] at h2p
 exfalso;omega
 try simp only[Q,Pat.cs_len] at h2p
 refine sqF ?_
 refine sq (fun h4 h4p h4s=>?_) fun h4 h4p h4s=>?_
 try simp only[Q,Pat.cs_len] at h4p
 exfalso;omega
 try simp only[Q,Pat.cs_len] at h4p
 refine sq (fun h5 h5p h5s=>?_) fun h5 h5p h5s=>?_
 try simp only[Q,Pat.cs_len] at h5p
 exfalso;omega
 try simp only[Q,Pat.cs_len] at h5p
 refine sqF ?_
 refine sq (fun h7 h7p h7s=>?_) fun h7 h7p h7s=>?_
 try simp only[Q,Pat.cs_len] at h7p
 exfalso;omega
 try simp only[Q,Pat.cs_len] at h7p
 refine Walk.sliceEmptyG 9 sl45 .none rfl rfl ?_
 refine ev ?_
 refine wc zfH (zcd hs.dp.wt (zb6 ht)) rfl rfl ?_
 refine ev ?_
 refine CWp.loopX (ι:=List (Int)×List (Int)) hk (fun x=>[(11,.d (.i (x.1.length:Int))),(9,.gl 9 (Pat.cs (x.1.flatMap fun c=>zav w (n+1) ⟨ta,tk⟩ (zce w ⟨ta,tk⟩ c) b)))]) [62,63,64,65,66,67,68,69,70,71,72,73,74,75,76,77,78,79,80] (fun x=>[(9,some (.tok ((Pat.cs (x.1.flatMap fun c=>zav w (n+1) ⟨ta,tk⟩ (zce w ⟨ta,tk⟩ c) b))).length 6))]) (fun x=>x.1++x.2=zam w ⟨ta,tk⟩) (fun x=>x.2.length) ([],zam w ⟨ta,tk⟩) (by simp) ⟨⟨_,rfl,LeA.eqi ?_⟩,⟨⟨_,rfl,LeA.glg ?_⟩,trivial⟩⟩ ⟨zaa ?_,trivial⟩ (fun x=>rfl) (fun x hg1=>?_)
 iterate 3 focus (first|rfl|(rw[List.flatMap_append,Pat.cs_cd,Pat.cs_cd,Pat.cs_cd,List.map_append];simp;done)|(simp[Pat.cs_len];done)|omega|(simp;omega))
 obtain⟨pre,rest⟩:=x
 dsimp only at hg1 ⊢
 refine evc [] [] ?_
 refine sq (fun h8 h8p h8s=>?_) fun h8 h8p h8s=>?_
 try simp only[Q,Pat.cs_len] at h8p
 rcases rest with _|⟨y,rest⟩
 ·exfalso;simp_all
 refine Walk.idx za0 .none rfl rfl rfl rfl (zaD hg1) rfl ?_
 refine evd [] [] ?_
 refine wc zur (znN hs.dp.wt (zb6 ht) (hmem hg1) (hs.args _ _ ht (hmem hg1))) rfl rfl ?_
 refine evd [] [] ?_
 refine wc zoc (hC y (hmem hg1)) rfl rfl ?_
 refine Walk.append sl45 zz56 rfl .none rfl rfl rfl rfl (zaw rfl (by first|rfl|(simp;done)|(simp;omega))) (by exact zbb _) (by have h9:=hpre hg1;simp only[Pat.cs_len];omega) (by have h9:=hpre hg1;simp only[Pat.cs_len];omega) ?_
 refine evd [] [] ?_
 refine dr ?_
 refine ar ?_
 refine Exists.intro ((pre++[y],rest)) ⟨(by have hz:=hg1;rw[←hz];simp),(by simp),sx ⟨⟨_,rfl,LeA.eqi ?_⟩,⟨⟨_,rfl,LeA.glg ?_⟩,trivial⟩⟩ ⟨zaa ?_,trivial⟩⟩
 iterate 3 focus (first|rfl|(rw[List.flatMap_append,Pat.cs_cd,Pat.cs_cd,Pat.cs_cd,List.map_append];simp;done)|(simp[Pat.cs_len];done)|omega|(simp;omega))
 try simp only[Q,Pat.cs_len] at h8p
 have hrest:rest=[]:=by
  rcases rest with _|⟨a,b⟩
  ·rfl
  ·exfalso;have hz:=congrArg List.length (hg1);simp only[List.length_append,List.length_cons,List.length_map] at hz;omega
 subst hrest
 refine rn0 (r1 rfl) (.gld ?_)
 rotate_left
 all_goals (first|rfl|(rw[List.append_nil] at hg1;rw[hg1];done))
theorem zhm (hs:Spa w):∀(n m:Nat){ta tk:Int}{a b:Pat},n<m→n≤10→m≤11→InS (w.length*4) ⟨ta,tk⟩→zak w m ⟨ta,tk⟩ a=true→zak w n ⟨ta,tk⟩ b=true→MinusSp w n ta tk a b
 |0,m,ta,tk,a,b,_,_,_,_,_,hb=>by simp[zak] at hb
 |n+1,0,ta,tk,a,b,h,_,_,_,_,_=>by omega
 |n+1,m+1,ta,tk,a,b,h,hn,hm,ht,ha,hb=>by
  have hC:∀ {a:Pat},zak w (m+1) ⟨ta,tk⟩ a=true→a.op=4→b.op=4→MinusSp w (n+1) ta tk a b:=fun {a} ha h4 h4b=>by
   by_cases hc:a.ctor=b.ctor
   ·exact zo7 hs hn hm (by omega) (fun h1 h2 h3=>zhm hs n m (by omega) (by omega) (by omega) h1 h2 h3) ht ha hb h4 h4b hc
   ·exact zo8 h4 h4b hc
  rcases zca hb with h1|h3|h4b
  ·exact zo4 h1
  ·have:=zcz hb h3
   refine zo5 h3 ?_ ⟨by omega,by omega⟩ ⟨by omega,by omega⟩
   by_cases h1:a.op=1
   ·exact .inl h1
   ·exact .inr (by have:=zdQ ha hb h1 (by omega);omega)
  ·by_cases h1:a.op=1
   ·obtain⟨m',rfl⟩:∃m',m=m'+1:=⟨m-1,by omega⟩
    exact zo6 hs ht h1 h4b (zfm hs h hn ht ha hb) (fun c hc=>hC (zdR hc) rfl h4b)
   ·exact hC ha (by have:=zdQ ha hb h1 (by omega);omega) h4b
end
section
variable {c:Ctx}{all:Array Oper}{chk:List Rec→Prop}{os:List Oper}{recs:List Rec}{env:Env}{hp:Hp}{Q:St→Prop}
variable {d ty:Nat}{pos:String}{af:Array Edge}{g:Option (Nat×Bool)}{pg:List (Nat×AV)}{t yt:TypeId}{x y:Operand}
theorem Walk.appendM {id k e yb:Nat}{xs ys:List (List D)}{vy:AV}{ids:List Nat} (hkp:KeptIn c.kept ids) (hid:zbf id ids=false) (hne:xs++ys≠[]) (ht:SlT c.P t e k yb) (hz:ZeroT c.P e k) (hg:GH all env g pg) (hd:Nat.blt d c.n=true)
  (hx:opd env x=some (.gv id xs)) (hy:opd env y=some vy) (hyd:vy.toD=some (.sl ys)) (htok:getH hp id=some (.tok xs.length k)) (hky:∀y,y∈ys→y.length=k)
  (hb:(xs.length+ys.length)*yb≤140737488355328) (hm:xs.length+ys.length≤9223372036854775807)
  (hn:Walk c all chk os (zao (pg++(opF x (.gv id xs)++opF y vy)) [(id,.tok xs.length k)] [] ⟨some (d,.ms id (xs++ys).length),[(id,some (.box ((xs++ys).flatten.map .d)))]⟩::recs)
   ⟨(d,.ms id (xs++ys).length)::env,(id,some (.box ((xs++ys).flatten.map .d)))::hp⟩ Q):
  Walk c all chk (⟨some d,.call ⟨.builtin .append,#[x,y],#[t,t]⟩,ty,pos,af,g⟩::os) recs ⟨env,hp⟩ Q:=by
 refine⟨pg++(opF x (.gv id xs)++opF y vy),[(id,.tok xs.length k)],[],_, ?_,zay hg.facts (zay (zbc hx) (zbc hy)),hh1 htok,by simp,hn⟩
 intro s a w hrel hp' hh _ K Q' hK
 obtain⟨G,hr⟩:=hrel
 have e1:=hr.opd (zbd hx (fun p hm=>hp' p (by simp[hm])))
 have e2:=hr.opd (zbd hy (fun p hm=>hp' p (by simp[hm])))
 obtain⟨i,z,z1,z2,z3⟩:=hz.out
 obtain⟨v',w',G',hrun,hR,hA⟩:=ziP hr ht ⟨i,z1,z2,z3⟩ (hh1' hh) e1 (e2.toD hyd) hky hb hm ty
 unfold wpO
 rw[if_pos (hg.gf.wanted hr (fun p hm=>hp' p (by simp[hm])))]
 unfold Oper.wp
 have:(execOp a.eval ⟨some d,.call ⟨.builtin .append,#[x,y],#[t,t]⟩,ty,pos,af,g⟩).run c.P w = .ok (.value v') w':=by
  simp only[execOp,resolve,invoke,builtin,Sem.run_bind,Sem.run_pure,Result.andThen_ok,List.map_toArray,List.map_cons,List.map_nil,hrun]
 rw[this,Oper.upon_value]
 have hV:Rel c ⟨(d,.gv id (xs++ys))::s.env,(id,some (.tok (xs.length+ys.length) k))::s.hp⟩ (a.put (some d) v') w':=⟨G',hR.put hA hd⟩
 rcases Rel.fixV hkp d id k (xs:=xs++ys) (by simp[getE]) (by rw[zai,if_pos rfl,List.length_append]) hid hV with ⟨h,_⟩|⟨_,h⟩
 ·exact absurd h hne
 ·refine hK _ _ (h.congr (fun j=>?_) (fun j=>?_))
  ·show getE ((d,_)::s.env) j=getE ((d,_)::(d,_)::s.env) j
   simp only[getE]
   cases Nat.beq d j<;>rfl
  ·show getH ((id,_)::s.hp) j=getH ((id,_)::(id,_)::s.hp) j
   rw[zai,zai,zai]
   by_cases hj:j=id
   ·rw[if_pos hj,if_pos hj]
   ·rw[if_neg hj,if_neg hj,if_neg hj]
end
def zbF:Pat:=⟨2,0,0,0,0,[]⟩
def mutP (b:Str) (p:Pat) (q:Nat):Pat×Nat:=
 if zan b q 30=0 then (⟨numV b (q+1) [0,7,1,2,5],p.ctor,p.n,p.m,p.var,p.kids⟩,q+2)
 else if zan b q 30=1 then (⟨p.op,p.ctor,p.n,p.m,numV b (q+1) [6,-1,1],p.kids⟩,q+2)
 else if zan b q 30=2 then (⟨p.op,numV b (q+1) [9,-1,1],p.n,p.m,p.var,p.kids⟩,q+2)
 else if zan b q 30=3 then (⟨p.op,p.ctor,p.n,p.m,p.var,p.kids++[zbF]⟩,q+1)
 else if zan b q 30=4 then (⟨p.op,p.ctor,p.n,p.m,p.var,p.kids.set 0 zbF⟩,q+1)
 else if zan b q 30=5 then (⟨p.op,p.ctor,numV b (q+1) [10,-1,5],p.m,p.var,p.kids⟩,q+2)
 else (⟨p.op,p.ctor,p.n,p.m,p.var,p.kids⟩,q+1)
theorem put0 {l:List (List D)}{x:List D}{r:List (List D)}{v:List AV} (h:l=x::r) (hx:x.length=v.length):putC (l.flatten.map .d) 0 v=some (v++r.flatten.map .d):=by
 subst h
 rw[List.flatten_cons,List.map_append]
 have key:∀(a b:List AV),a.length=b.length→∀(c:List AV),putC (a++c) 0 b=some (b++c):=by
  intro a
  induction a with
  |nil=>intro b h c;cases b with
   |nil=>cases c<;>rfl
   |cons=>simp at h
  |cons y a ih=>intro b h c;cases b with
   |nil=>simp at h
   |cons z b=>
    have:=ih b (by simpa using h) c
    simp only[List.cons_append,putC,this]
 exact key _ _ (by simpa using hx) _
theorem zol {k:Nat}{v:List AV}{vd:List D}{r:List (List D)} (hv:toDL v=some vd) (hk:v.length=k) (hr:∀x∈r,x.length=k):zck (r.length+1) k (v++r.flatten.map .d)=some (vd::r):=by
 have h1:cutC (v++r.flatten.map .d) 0 k=some v:=zm5 hk
 have h2:(v++r.flatten.map AV.d).drop k=r.flatten.map .d:=by rw[←hk];simp
 have h3:=zes (f:=fun x:List D=>x) (k:=k) (l:=r) hr
 have h4:(r.flatMap fun x=>x.map AV.d)=r.flatten.map .d:=by rw[List.map_flatten];rfl
 rw[h4,List.map_id'] at h3
 simp only[zck,h1,hv,h2,h3]
theorem Pat.cs_app (a b:List Pat):Pat.cs (a++b)=Pat.cs a++Pat.cs b:=by
 rw[Pat.cs_cc,Pat.cs_cc,Pat.cs_cc,List.map_append]
theorem zlT {b:Str} (hb:b.length≤2000){p:Pat}{q:Nat} (hq:q≤1000000) (hok:p.ok) (hc4:¬(zan b q 30=4∧p.kids≠[])):
  FnD Tryz.prog 109 [.ref 900 0,.agg [.d (.i p.op),.d (.i p.ctor),.d (.i p.n),.d (.i p.m),.d (.i p.var),.d (zae p.kids)]] [(900,some (rdB b q))]
   (.agg [.d (.i (mutP b p q).1.op),.d (.i (mutP b p q).1.ctor),.d (.i (mutP b p q).1.n),.d (.i (mutP b p q).1.m),.d (.i (mutP b p q).1.var),.d (zae (mutP b p q).1.kids)]) [(900,some (rdB b (mutP b p q).2))]:=by
 rw[Pat.ok_iff] at hok
 have hkl:=Pat.cs_len p.kids
 refine bd Tryz.f109 57 [] [] fun w0 F0 own kept hk=>?_
 refine Walk.box (id:=3003) .none rfl rfl rfl rfl rfl rfl rfl ?_
 refine Walk.alloc (id:=3004) tz56 rfl .none rfl rfl rfl rfl ?_
 refine tv ?_
 refine Walk.alloc (id:=3005) tz56 rfl .none rfl rfl rfl rfl ?_
 refine Walk.store ty56 .none rfl rfl rfl rfl rfl rfl (by simp) rfl ?_
 refine tv ?_
 refine Walk.sliceEmptyG 1 sl45 .none rfl rfl ?_
 refine ev ?_
 refine Walk.append sl45 zz56 rfl .none rfl rfl rfl rfl (zaw rfl (by first|rfl|(simp;done)|(simp;omega))) (by first|(intro x hx;exact Pat.cs_rows x hx)|(intro x hx;simp only[List.mem_singleton] at hx;subst hx;rfl)) (by simp[Pat.cs_len];omega) (by simp[Pat.cs_len];omega) ?_
 refine ev ?_
 refine Walk.store ty45 .none rfl rfl rfl rfl rfl rfl (by simp) rfl ?_
 refine tv ?_
 refine Walk.call (cr:=[]) zcg (zaQ (p:=q) (n:=30) hb (by omega) (by omega)) rfl .none rfl rfl (LeL.refl _) ⟨rfl,trivial⟩ rfl rfl rfl ?_
 refine tv ?_
 refine sq (fun h1 h1p h1s=>?_) fun h1 h1p h1s=>?_
 try simp only[Q,Pat.cs_len] at h1p
 refine Walk.sliceLit za0 tz3 rfl (by decide) (ks:=[0,1,2,3,4]) (xs:=[_,_,_,_,_]) rfl rfl (by decide) (by decide) .none rfl rfl rfl rfl ?_
 refine Walk.call (cr:=[]) zdL (zbQ (p:=q+1) (l:=[0,7,1,2,5]) hb (by omega) (by simp) (by simp)) rfl .none rfl rfl (LeL.refl _) ⟨rfl,trivial⟩ rfl rfl rfl ?_
 refine ev ?_
 refine Walk.store ty3 .none rfl rfl rfl rfl rfl rfl (by simp) rfl ?_
 refine tv ?_
 refine Walk.store ty56 .none rfl rfl rfl rfl rfl rfl (by simp) rfl ?_
 refine tv ?_
 refine rn [(900,some (rdB b (mutP b p q).2))] (.cons (.cellA ty56 rfl rfl rfl) .nil) (.agg (.cons (.eqd ?_) (.cons (.eqd ?_) (.cons (.eqd ?_) (.cons (.eqd ?_) (.cons (.eqd ?_) (.cons (.gld ?_) .nil))))))) ⟨rfl,rfl⟩ (SubO.get ⟨.inr ?_,⟨.inl rfl,trivial⟩⟩) (zaB rfl)
 rotate_left 7
 try simp only[Q,Pat.cs_len] at h1p
 refine sq (fun h2 h2p h2s=>?_) fun h2 h2p h2s=>?_
 try simp only[Q,Pat.cs_len] at h2p
 refine Walk.sliceLit za0 tz3 rfl (by decide) (ks:=[0,1,2]) (xs:=[_,_,_]) rfl rfl (by decide) (by decide) .none rfl rfl rfl rfl ?_
 refine Walk.call (cr:=[]) zdL (zbQ (p:=q+1) (l:=[6,-1,1]) hb (by omega) (by simp) (by simp)) rfl .none rfl rfl (LeL.refl _) ⟨rfl,trivial⟩ rfl rfl rfl ?_
 refine ev ?_
 refine Walk.store ty3 .none rfl rfl rfl rfl rfl rfl (by simp) rfl ?_
 refine tv ?_
 refine Walk.store ty56 .none rfl rfl rfl rfl rfl rfl (by simp) rfl ?_
 refine tv ?_
 refine rn [(900,some (rdB b (mutP b p q).2))] (.cons (.cellA ty56 rfl rfl rfl) .nil) (.agg (.cons (.eqd ?_) (.cons (.eqd ?_) (.cons (.eqd ?_) (.cons (.eqd ?_) (.cons (.eqd ?_) (.cons (.gld ?_) .nil))))))) ⟨rfl,rfl⟩ (SubO.get ⟨.inr ?_,⟨.inl rfl,trivial⟩⟩) (zaB rfl)
 rotate_left 7
 try simp only[Q,Pat.cs_len] at h2p
 refine sq (fun h3 h3p h3s=>?_) fun h3 h3p h3s=>?_
 try simp only[Q,Pat.cs_len] at h3p
 refine Walk.sliceLit za0 tz3 rfl (by decide) (ks:=[0,1,2]) (xs:=[_,_,_]) rfl rfl (by decide) (by decide) .none rfl rfl rfl rfl ?_
 refine Walk.call (cr:=[]) zdL (zbQ (p:=q+1) (l:=[9,-1,1]) hb (by omega) (by simp) (by simp)) rfl .none rfl rfl (LeL.refl _) ⟨rfl,trivial⟩ rfl rfl rfl ?_
 refine ev ?_
 refine Walk.store ty3 .none rfl rfl rfl rfl rfl rfl (by simp) rfl ?_
 refine tv ?_
 refine Walk.store ty56 .none rfl rfl rfl rfl rfl rfl (by simp) rfl ?_
 refine tv ?_
 refine rn [(900,some (rdB b (mutP b p q).2))] (.cons (.cellA ty56 rfl rfl rfl) .nil) (.agg (.cons (.eqd ?_) (.cons (.eqd ?_) (.cons (.eqd ?_) (.cons (.eqd ?_) (.cons (.eqd ?_) (.cons (.gld ?_) .nil))))))) ⟨rfl,rfl⟩ (SubO.get ⟨.inr ?_,⟨.inl rfl,trivial⟩⟩) (zaB rfl)
 rotate_left 7
 try simp only[Q,Pat.cs_len] at h3p
 refine sq (fun h4 h4p h4s=>?_) fun h4 h4p h4s=>?_
 try simp only[Q,Pat.cs_len] at h4p
 refine Walk.build st56 (ks:=[0]) (xs:=[_]) rfl rfl .none rfl rfl rfl ?_
 refine Walk.sliceLit sl45 tz56 rfl (by decide) (ks:=[0]) (xs:=[_]) rfl rfl (by decide) (by decide) .none rfl rfl rfl rfl ?_
 refine Walk.append sl45 zz56 rfl .none rfl rfl rfl rfl (zaw rfl (by first|rfl|(simp;done)|(simp;omega))) (by first|(intro x hx;exact Pat.cs_rows x hx)|(intro x hx;simp only[List.mem_singleton] at hx;subst hx;rfl)) (by simp[Pat.cs_len];omega) (by simp[Pat.cs_len];omega) ?_
 refine ev ?_
 refine Walk.store ty45 .none rfl rfl rfl rfl rfl rfl (by simp) rfl ?_
 refine tv ?_
 refine Walk.store ty56 .none rfl rfl rfl rfl rfl rfl (by simp) rfl ?_
 refine tv ?_
 refine rn [(900,some (rdB b (mutP b p q).2))] (.cons (.cellA ty56 rfl rfl rfl) .nil) (.agg (.cons (.eqd ?_) (.cons (.eqd ?_) (.cons (.eqd ?_) (.cons (.eqd ?_) (.cons (.eqd ?_) (.cons (.gld ?_) .nil))))))) ⟨rfl,rfl⟩ (SubO.get ⟨.inr ?_,⟨.inl rfl,trivial⟩⟩) (zaB rfl)
 rotate_left 7
 try simp only[Q,Pat.cs_len] at h4p
 refine sq (fun h5 h5p h5s=>?_) fun h5 h5p h5s=>?_
 try simp only[Q,Pat.cs_len] at h5p
 refine sq (fun h6 h6p h6s=>?_) fun h6 h6p h6s=>?_
 try simp only[Q,Pat.cs_len] at h6p
 exfalso;apply hc4;refine⟨by omega,fun hh=>?_⟩;rw[hh] at h6p;exact absurd h6p (by decide)
 try simp only[Q,Pat.cs_len] at h6p
 refine Walk.store ty56 .none rfl rfl rfl rfl rfl rfl (by simp) rfl ?_
 refine tv ?_
 refine rn [(900,some (rdB b (mutP b p q).2))] (.cons (.cellA ty56 rfl rfl rfl) .nil) (.agg (.cons (.eqd ?_) (.cons (.eqd ?_) (.cons (.eqd ?_) (.cons (.eqd ?_) (.cons (.eqd ?_) (.cons (.gld ?_) .nil))))))) ⟨rfl,rfl⟩ (SubO.get ⟨.inr ?_,⟨.inl rfl,trivial⟩⟩) (zaB rfl)
 rotate_left 7
 try simp only[Q,Pat.cs_len] at h5p
 refine sq (fun h7 h7p h7s=>?_) fun h7 h7p h7s=>?_
 try simp only[Q,Pat.cs_len] at h7p
 refine Walk.sliceLit za0 tz3 rfl (by decide) (ks:=[0,1,2]) (xs:=[_,_,_]) rfl rfl (by decide) (by decide) .none rfl rfl rfl rfl ?_
 refine Walk.call (cr:=[]) zdL (zbQ (p:=q+1) (l:=[10,-1,5]) hb (by omega) (by simp) (by simp)) rfl .none rfl rfl (LeL.refl _) ⟨rfl,trivial⟩ rfl rfl rfl ?_
 refine ev ?_
 refine Walk.store ty3 .none rfl rfl rfl rfl rfl rfl (by simp) rfl ?_
 refine tv ?_
 refine Walk.store ty56 .none rfl rfl rfl rfl rfl rfl (by simp) rfl ?_
 refine tv ?_
 refine rn [(900,some (rdB b (mutP b p q).2))] (.cons (.cellA ty56 rfl rfl rfl) .nil) (.agg (.cons (.eqd ?_) (.cons (.eqd ?_) (.cons (.eqd ?_) (.cons (.eqd ?_) (.cons (.eqd ?_) (.cons (.gld ?_) .nil))))))) ⟨rfl,rfl⟩ (SubO.get ⟨.inr ?_,⟨.inl rfl,trivial⟩⟩) (zaB rfl)
 rotate_left 7
 try simp only[Q,Pat.cs_len] at h7p
 refine Walk.store ty56 .none rfl rfl rfl rfl rfl rfl (by simp) rfl ?_
 refine tv ?_
 refine rn [(900,some (rdB b (mutP b p q).2))] (.cons (.cellA ty56 rfl rfl rfl) .nil) (.agg (.cons (.eqd ?_) (.cons (.eqd ?_) (.cons (.eqd ?_) (.cons (.eqd ?_) (.cons (.eqd ?_) (.cons (.gld ?_) .nil))))))) ⟨rfl,rfl⟩ (SubO.get ⟨.inr ?_,⟨.inl rfl,trivial⟩⟩) (zaB rfl)
 rotate_left 7
 all_goals (first|((unfold mutP;first|(rw[if_pos (by omega)];all_goals first|rfl|(show _=Pat.cs (p.kids++[zbF]);rw[Pat.cs_app];all_goals rfl))|(rw[if_neg (by omega),if_pos (by omega)];all_goals first|rfl|(show _=Pat.cs (p.kids++[zbF]);rw[Pat.cs_app];all_goals rfl))|(rw[if_neg (by omega),if_neg (by omega),if_pos (by omega)];all_goals first|rfl|(show _=Pat.cs (p.kids++[zbF]);rw[Pat.cs_app];all_goals rfl))|(rw[if_neg (by omega),if_neg (by omega),if_neg (by omega),if_pos (by omega)];all_goals first|rfl|(show _=Pat.cs (p.kids++[zbF]);rw[Pat.cs_app];all_goals rfl))|(have hnk:p.kids=[]:=(by rcases hke:p.kids with _|⟨y,r⟩;rfl;exact absurd ⟨by omega,by rw[hke];simp⟩ hc4);rw[if_neg (by omega),if_neg (by omega),if_neg (by omega),if_neg (by omega),if_pos (by omega),hnk];all_goals rfl)|(rw[if_neg (by omega),if_neg (by omega),if_neg (by omega),if_neg (by omega),if_pos (by omega)];all_goals first|rfl|(show _=Pat.cs (p.kids++[zbF]);rw[Pat.cs_app];all_goals rfl))|(rw[if_neg (by omega),if_neg (by omega),if_neg (by omega),if_neg (by omega),if_neg (by omega),if_pos (by omega)];all_goals first|rfl|(show _=Pat.cs (p.kids++[zbF]);rw[Pat.cs_app];all_goals rfl))|(rw[if_neg (by omega),if_neg (by omega),if_neg (by omega),if_neg (by omega),if_neg (by omega),if_neg (by omega)];all_goals first|rfl|(show _=Pat.cs (p.kids++[zbF]);rw[Pat.cs_app];all_goals rfl)));done)|(unfold mutP;first|(rw[if_pos (by omega)];all_goals first|rfl|(show _=Pat.cs (p.kids++[zbF]);rw[Pat.cs_app];all_goals rfl))|(rw[if_neg (by omega),if_pos (by omega)];all_goals first|rfl|(show _=Pat.cs (p.kids++[zbF]);rw[Pat.cs_app];all_goals rfl))|(rw[if_neg (by omega),if_neg (by omega),if_pos (by omega)];all_goals first|rfl|(show _=Pat.cs (p.kids++[zbF]);rw[Pat.cs_app];all_goals rfl))|(rw[if_neg (by omega),if_neg (by omega),if_neg (by omega),if_pos (by omega)];all_goals first|rfl|(show _=Pat.cs (p.kids++[zbF]);rw[Pat.cs_app];all_goals rfl))|(have hnk:p.kids=[]:=(by rcases hke:p.kids with _|⟨y,r⟩;rfl;exact absurd ⟨by omega,by rw[hke];simp⟩ hc4);rw[if_neg (by omega),if_neg (by omega),if_neg (by omega),if_neg (by omega),if_pos (by omega),hnk];all_goals rfl)|(rw[if_neg (by omega),if_neg (by omega),if_neg (by omega),if_neg (by omega),if_pos (by omega)];all_goals first|rfl|(show _=Pat.cs (p.kids++[zbF]);rw[Pat.cs_app];all_goals rfl))|(rw[if_neg (by omega),if_neg (by omega),if_neg (by omega),if_neg (by omega),if_neg (by omega),if_pos (by omega)];all_goals first|rfl|(show _=Pat.cs (p.kids++[zbF]);rw[Pat.cs_app];all_goals rfl))|(rw[if_neg (by omega),if_neg (by omega),if_neg (by omega),if_neg (by omega),if_neg (by omega),if_neg (by omega)];all_goals first|rfl|(show _=Pat.cs (p.kids++[zbF]);rw[Pat.cs_app];all_goals rfl))))
theorem zlU {b:Str} (hb:b.length≤2000){p:Pat}{q:Nat} (hq:q≤1000000) (hok:p.ok) (hc4:zan b q 30=4){y:Pat}{r:List Pat} (hk4:p.kids=y::r):
  FnD Tryz.prog 109 [.ref 900 0,.agg [.d (.i p.op),.d (.i p.ctor),.d (.i p.n),.d (.i p.m),.d (.i p.var),.d (zae p.kids)]] [(900,some (rdB b q))]
   (.agg [.d (.i (mutP b p q).1.op),.d (.i (mutP b p q).1.ctor),.d (.i (mutP b p q).1.n),.d (.i (mutP b p q).1.m),.d (.i (mutP b p q).1.var),.d (zae (mutP b p q).1.kids)]) [(900,some (rdB b (mutP b p q).2))]:=by
 rw[Pat.ok_iff] at hok
 have hkl:=Pat.cs_len p.kids
 have hcs:Pat.cs p.kids=y.cc::Pat.cs r:=by rw[Pat.cs_cc,hk4,List.map_cons,←Pat.cs_cc]
 have hrl:(Pat.cs p.kids).length=(Pat.cs r).length+1:=by rw[hcs];rfl
 have hmu:mutP b p q=(⟨p.op,p.ctor,p.n,p.m,p.var,zbF::r⟩,q+1):=by
  unfold mutP;rw[if_neg (by omega),if_neg (by omega),if_neg (by omega),if_neg (by omega),if_pos hc4,hk4];rfl
 refine bd Tryz.f109 57 [] [17] fun w0 F0 own kept hk=>?_
 refine Walk.box (id:=3003) .none rfl rfl rfl rfl rfl rfl rfl ?_
 refine Walk.alloc (id:=3004) tz56 rfl .none rfl rfl rfl rfl ?_
 refine tv ?_
 refine Walk.alloc (id:=3005) tz56 rfl .none rfl rfl rfl rfl ?_
 refine Walk.store ty56 .none rfl rfl rfl rfl rfl rfl (by simp) rfl ?_
 refine tv ?_
 refine Walk.sliceEmptyGV 1 sl45 .none rfl rfl ?_
 refine ev ?_
 refine Walk.appendM hk rfl (by rw[hcs];simp) sl45 zz56 .none rfl rfl rfl rfl (zaw rfl (by first|rfl|(simp;done)|(simp;omega))) (by intro x hx;exact Pat.cs_rows x hx) (by simp[Pat.cs_len];omega) (by simp[Pat.cs_len];omega) ?_
 refine ev ?_
 refine Walk.store ty45 .none rfl rfl rfl rfl rfl rfl (by simp) rfl ?_
 refine tv ?_
 refine Walk.call (cr:=[]) zcg (zaQ (p:=q) (n:=30) hb (by omega) (by omega)) rfl .none rfl rfl (LeL.refl _) ⟨rfl,trivial⟩ rfl rfl rfl ?_
 refine tv ?_
 refine sq (fun h1 h1p h1s=>?_) fun h1 h1p h1s=>?_
 try simp only[Q,Pat.cs_len] at h1p
 exfalso;omega
 try simp only[Q,Pat.cs_len] at h1p
 refine sq (fun h2 h2p h2s=>?_) fun h2 h2p h2s=>?_
 try simp only[Q,Pat.cs_len] at h2p
 exfalso;omega
 try simp only[Q,Pat.cs_len] at h2p
 refine sq (fun h3 h3p h3s=>?_) fun h3 h3p h3s=>?_
 try simp only[Q,Pat.cs_len] at h3p
 exfalso;omega
 try simp only[Q,Pat.cs_len] at h3p
 refine sq (fun h4 h4p h4s=>?_) fun h4 h4p h4s=>?_
 try simp only[Q,Pat.cs_len] at h4p
 exfalso;omega
 try simp only[Q,Pat.cs_len] at h4p
 refine sq (fun h5 h5p h5s=>?_) fun h5 h5p h5s=>?_
 try simp only[Q,Pat.cs_len] at h5p
 refine sq (fun h6 h6p h6s=>?_) fun h6 h6p h6s=>?_
 try simp only[Q,Pat.cs_len] at h6p
 refine Walk.build st56 (ks:=[0]) (xs:=[_]) rfl rfl .none rfl rfl rfl ?_
 refine Walk.idxM (i:=0) sl45 .none rfl rfl rfl rfl (by simp;omega) ?_
 refine Walk.store ty56 .none rfl rfl rfl rfl rfl rfl (by simp) ((put0 hcs rfl)) ?_
 refine tv ?_
 refine CWp.frzC hk 3005 5 1 _ 6 rfl rfl rfl rfl rfl (by rw[List.nil_append,hrl];exact zol rfl rfl (fun x hx=>Pat.cs_rows x hx)) rfl ?_
 refine evc [] [] ?_
 refine Walk.store ty56 .none rfl rfl rfl rfl rfl rfl (by simp) rfl ?_
 refine tv ?_
 refine rn [(900,some (rdB b (mutP b p q).2))] (.cons (.cellA ty56 rfl rfl rfl) .nil) (.agg (.cons (.eqd ?_) (.cons (.eqd ?_) (.cons (.eqd ?_) (.cons (.eqd ?_) (.cons (.eqd ?_) (.cons (.eqd ?_) .nil))))))) ⟨rfl,rfl⟩ (SubO.get ⟨.inr ?_,⟨.inl rfl,trivial⟩⟩) (zaB rfl)
 rotate_left 7
 try simp only[Q,Pat.cs_len] at h6p
 exfalso;rw[List.nil_append,hrl] at h6p;omega
 try simp only[Q,Pat.cs_len] at h5p
 exfalso;omega
 all_goals (first|((rw[hmu];all_goals rfl);done)|(rw[hmu];all_goals rfl))
theorem zgX {b:Str} (hb:b.length≤2000){p:Pat}{q:Nat} (hq:q≤1000000) (hok:p.ok):
  FnD Tryz.prog 109 [.ref 900 0,.agg [.d (.i p.op),.d (.i p.ctor),.d (.i p.n),.d (.i p.m),.d (.i p.var),.d (zae p.kids)]] [(900,some (rdB b q))]
   (.agg [.d (.i (mutP b p q).1.op),.d (.i (mutP b p q).1.ctor),.d (.i (mutP b p q).1.n),.d (.i (mutP b p q).1.m),.d (.i (mutP b p q).1.var),.d (zae (mutP b p q).1.kids)]) [(900,some (rdB b (mutP b p q).2))]:=by
 by_cases h:zan b q 30=4∧p.kids≠[]
 ·cases hk:p.kids with
  |nil=>exact absurd hk h.2
  |cons y r=>rw[←hk];exact zlU hb hq hok h.1 hk
 ·exact zlT hb hq hok h
theorem FnD.boxD {P:Program}{f:FuncId}{i n k:Nat}{args:List AV}{cs:List AV}{es:List (List D)} (hc:zck n k (cs.take (n*k))=some es) (h:FnD P f args [] (.ms i n) [(i,some (.box cs))]):FnD P f args [] (.d (.sl es)) []:=by
 intro G w vals hok
 refine(h G w vals hok).mono ?_
 rintro e w' ⟨v,r',hp',G',rfl,⟨rfl,rfl⟩,hret⟩
 have gi:getH ([(i,some (Res.box cs))]++[]) i=some (.box cs):=by simp[getH]
 obtain⟨b,us,et,q1,q2,q3,q4,q5⟩:=hret.heap i _ gi
 have hown:∀b,b∉zc4 G []:=fun b hb=>by simp[zc4] at hb
 have hnew:w.heap.size≤b:=(hret.new i (by rw[gi];rfl) b (by rw[q1];simp)).resolve_left (hown b)
 have hlt:b<w'.heap.size:=by
  rcases Nat.lt_or_ge b w'.heap.size with h|h
  ·exact h
  ·rw[Array.getElem?_eq_none h] at q2;cases q2
 let G2:Gh:={ G' with F:=fun x=>bif Nat.beq x b then us.size else G'.F x }
 have hin:G2.F b=us.size:=by simp[G2]
 have hout:∀x,x≠b→G2.F x=G'.F x:=fun x hx=>by
  have:Nat.beq x b=false:=by
   cases h:Nat.beq x b with
   |true=>exact absurd (Nat.eq_of_beq_eq_true h) hx
   |false=>rfl
  simp[G2,this]
 have hle:∀x o,o<G'.F x→o<G2.F x:=fun x o ho=>by
  by_cases hx:x=b
  ·subst hx;rw[q4] at ho;omega
  ·rw[hout x hx];exact ho
 refine⟨v,_,_,G2,rfl,⟨rfl,rfl⟩,zto hret.res q1 q2 q3 q5 hin (fun y o ho=>⟨hle y o ho,rfl⟩) hc,fun id x hx=>(by cases hx),fun id id' h1=>(by cases h1),fun id h1=>(by cases h1), ?_,fun x hx=>?_,fun id hi=>(by simp[zci,getH] at hi)⟩
 ·have hf:=hret.frm
  exact⟨hf.os,hf.tape,hf.output,hf.size,fun x hx hn=>⟨(hf.block x hx hn).1,by rw[hout x (by omega)];exact(hf.block x hx hn).2⟩,fun x o ho=>⟨hle x o (hf.cell x o ho).1,(hf.cell x o ho).2⟩⟩
 ·rw[hout x (by omega)];exact hret.top x hx
def pd (s:List Pat):List AV:=(s.map Pat.cc).flatten.map .d
theorem zeP (a b:List Pat):pd (a++b)=pd a++pd b:=by simp[pd]
theorem zlD (x:Pat):pd [x]=[.d (.i x.op),.d (.i x.ctor),.d (.i x.n),.d (.i x.m),.d (.i x.var),.d (zae x.kids)]:=rfl
theorem zhO (s:List Pat):(pd s).length=s.length*6:=by
 induction s with
 |nil=>rfl
 |cons x r ih=>rw[show x::r=[x]++r from rfl,zeP,List.length_append,ih,zlD];simp;omega
theorem zoT {s:List Pat}{i:Nat} (h:i<s.length):pd s=pd (s.take i)++(pd [nth s i]++pd (s.drop (i+1))):=by
 rw[←zeP,←zeP]
 congr 1
 rw[show [nth s i]++s.drop (i+1)=nth s i::s.drop (i+1) from rfl,←zaV h,List.take_append_drop]
theorem zhN (s:List Pat):AV.idsL (pd s)=[]:=by
 unfold pd
 induction (s.map Pat.cc).flatten with
 |nil=>rfl
 |cons x r ih=>rw[List.map_cons,AV.idsL,ih];rfl
theorem zrM {s:List Pat}{i:Nat} (h:i<s.length):cutC (pd s) (i*6) 6=some [.d (.i (nth s i).op),.d (.i (nth s i).ctor),.d (.i (nth s i).n),.d (.i (nth s i).m),.d (.i (nth s i).var),.d (zae (nth s i).kids)]:=by
 rw[zoT h,zrp (by rw[zhO,List.length_take];omega) (r:=pd [nth s i])]
 ·rfl
 ·rw[zlD];first|exact ztj|(simp[cutC];done)
theorem zuX {s:List Pat}{i:Nat} (h:i<s.length){t:Pat}:putC (pd s) (i*6) [.d (.i t.op),.d (.i t.ctor),.d (.i t.n),.d (.i t.m),.d (.i t.var),.d (zae t.kids)]=some (pd (s.set i t)):=by
 rw[zoT h,zrN (by rw[zhO,List.length_take];omega) (B':=pd [t]++pd (s.drop (i+1))) (by rw[zlD,zlD];simp[putC])]
 rw[List.set_eq_take_append_cons_drop,if_pos h,←zeP,←zeP]
 rfl
abbrev z6:List AV:=[.d (.i 0),.d (.i 0),.d (.i 0),.d (.i 0),.d (.i 0),.nils]
theorem ztA {s:List Pat}{i n:Nat} (hn:s.length=n) (h:i≤n):putC (pd s) (i*6) (zbh (n-i) z6)=some (pd (s.take i)++zbh (n-i) z6):=by
 subst hn
 have e:pd s=pd (s.take i)++(pd (s.drop i)++[]):=by
  rw[List.append_nil,←zeP,List.take_append_drop]
 have e2:putC (pd (s.take i)++(pd (s.drop i)++[])) (i*6) (zbh (s.length-i) z6)=some (pd (s.take i)++(zbh (s.length-i) z6++[])):=by
  rw[zsv (by rw[zhO,List.length_take];omega) ?_]
  rw[zhO,List.length_drop,zep];rfl
 rw[←e,List.append_nil] at e2
 exact e2
theorem zsu {s:List Pat}{tl:List AV}:zck s.length 6 ((pd s++tl).take (s.length*6))=some (s.map Pat.cc):=by
 rw[List.take_append_of_le_length (by rw[zhO];exact Nat.le_refl _),List.take_of_length_le (by rw[zhO];exact Nat.le_refl _)]
 have:=zes (f:=Pat.cc) (k:=6) (l:=s) (fun _ _=>rfl)
 rw[←this]
 congr 1
 unfold pd
 induction s with
 |nil=>rfl
 |cons x r ih=>
  simp only[List.map_cons,List.flatten_cons,List.map_append,List.flatMap_cons]
  exact congrArg (_++·) (ih (zes (fun _ _=>rfl)))
theorem Pat.cs_ccs (l:List Pat):Pat.cs l=l.map Pat.cc:=by
 rw[Pat.cs_eq];exact List.map_congr_left (fun v _=>Pat.c_eq v)
theorem Ex.cs_ccs (l:List Ex):Ex.cs l=l.map Ex.cc:=by
 rw[Ex.cs_eq];exact List.map_congr_left (fun v _=>Ex.c_eq v)
theorem zeq {xs:List Pat}{f:Nat}{caps:List AV}{hp:Hp}{p:Pat→Bool} (hs:xs.length≤1000000000000) (hcal:Callee Tryz.prog f)
  (hf:∀t∈xs,FnD Tryz.prog f ([.agg [.d (.i t.op),.d (.i t.ctor),.d (.i t.n),.d (.i t.m),.d (.i t.var),.d (zae t.kids)]]++caps) hp (.d (.bool (p t))) []) (k1:subH hp hp) (k2:zdW hp=true) (k3:zbe hp [] (.d .nilp) []=true):
  FnD Tryz.prog 191 [.d (zae xs),.fn f caps] hp (.d (.i (idxF p xs 0))) []:=by
 rw[show zae xs=D.sl (xs.map Pat.cc) by show D.sl (Pat.cs xs)=_;rw[Pat.cs_ccs]]
 refine bd Tryz.f191 19 [] [] fun w0 F0 own kept hk=>?_
 refine CWp.loopX (ι:=List (Pat)×List (Pat)) hk (fun x=>[(8,.d (.i (x.1.length:Int)))]) [4,5,9,10,11,12,13,14,15,16,17,18] (fun x=>[]) (fun x=>x.1++x.2=xs∧idxF p x.2 x.1.length=idxF p xs 0) (fun x=>x.2.length) ([],xs) ⟨by simp,rfl⟩ ⟨⟨_,rfl,LeA.eqi ?_⟩,trivial⟩ trivial (fun x=>zf5 hp) (fun x hg1=>?_)
 focus (first|rfl|(simp;done)|(simp_all;done)|omega)
 obtain⟨pre,rest⟩:=x
 dsimp only at hg1 ⊢
 refine evc [] [] ?_
 refine sq (fun h1 h1p h1s=>?_) fun h1 h1p h1s=>?_
 try simp only[Q] at h1p
 rcases rest with _|⟨y,rest⟩
 ·exfalso;simp_all
 refine Walk.idx sl45 .none rfl rfl rfl rfl (zaD hg1.1) rfl ?_
 refine ev ?_
 refine Walk.callV (cr:=[]) hcal (hf y (by rw[←hg1.1];simp)) rfl .none rfl rfl rfl (LeL.refl _) k1 k2 (zc3 k3 _) rfl ?_
 refine tv ?_
 refine sq (fun h2 h2p h2s=>?_) fun h2 h2p h2s=>?_
 try simp only[Q] at h2p
 focus (refine rn [] (r1 rfl) (.eqd ?_) ⟨rfl,rfl⟩ (fun _ _ h=>h) (fun _ h=>h);all_goals (rw[←hg1.2];simp[idxF,h1s,h1p,h2s,h2p]))
 try simp only[Q] at h2p
 refine ar ?_
 refine Exists.intro ((pre++[y],rest)) ⟨⟨(by have hz:=hg1.1;rw[←hz];simp),(by rw[←hg1.2];simp[idxF,h2s])⟩,(by simp),Sub.x (by kernel_rfl) (by kernel_rfl) ⟨⟨_,rfl,LeA.eqi ?_⟩,trivial⟩ (by simp) (by simp[zdx]) trivial⟩
 focus (first|rfl|(simp;done)|(simp_all;done)|omega)
 try simp only[Q] at h1p
 have hrest:rest=[]:=by
  rcases rest with _|⟨a,b⟩
  ·rfl
  ·exfalso;have hz:=congrArg List.length (hg1.1);simp only[List.length_append,List.length_cons,List.length_map] at hz;omega
 subst hrest
 focus (refine rn [] (r1 rfl) (.eqd ?_) ⟨rfl,rfl⟩ (fun _ _ h=>h) (fun _ h=>h);all_goals (rw[←hg1.2];simp[idxF,h1s,h1p]))
theorem zfZ {xs:List Pat}{f:Nat}{caps:List AV}{hp:Hp}{p:Pat→Bool} (hs:xs.length≤1000000000000) (hcal:Callee Tryz.prog f)
  (hf:∀t∈xs,FnD Tryz.prog f ([.agg [.d (.i t.op),.d (.i t.ctor),.d (.i t.n),.d (.i t.m),.d (.i t.var),.d (zae t.kids)]]++caps) hp (.d (.bool (p t))) []) (k1:subH hp hp) (k2:zdW hp=true) (k3:zbe hp [] (.d .nilp) []=true):
  FnD Tryz.prog 117 [.d (zae xs),.fn f caps] hp (.d (.bool (xs.any p))) []:=by
 refine bd Tryz.f117 9 [] [] fun w0 F0 own kept hk=>?_
 refine Walk.call (cr:=[]) zkP (zeq hs hcal hf k1 k2 k3) rfl .none rfl rfl (LeL.refl _) k1 k2 (zc3 k3 _) rfl ?_
 refine ev ?_
 refine rn [] (r1 rfl) (.eqd ?_) ⟨rfl,rfl⟩ (fun _ _ h=>h) (fun _ h=>h)
 rotate_left
 all_goals (exact congrArg D.bool (zeD p xs 0))
theorem zew {xs:List Pat}{f:Nat}{B2 B3:List AV}{p:Pat→Bool} (hs:xs.length≤1000000000000) (hcal:Callee Tryz.prog f) (hB2:AV.idsL B2=[]) (hB3:AV.idsL B3=[])
  (hf:∀t∈xs,FnD Tryz.prog f [.agg [.d (.i t.op),.d (.i t.ctor),.d (.i t.n),.d (.i t.m),.d (.i t.var),.d (zae t.kids)],.ref 3003 0,.ref 3004 0] [(3003,some (.box B2)),(3004,some (.box B3))] (.d (.bool (p t))) []):
  FnD Tryz.prog 191 [.ms 1 xs.length,.fn f [.ref 3003 0,.ref 3004 0]] [(1,some (.box (pd xs))),(3003,some (.box B2)),(3004,some (.box B3))] (.d (.i (idxF p xs 0))) []:=by
 refine bd Tryz.f191 19 [15] [] fun w0 F0 own kept hk=>?_
 refine CWp.loopX (ι:=Nat) hk (fun i=>[(8,.d (.i (i:Int)))]) [4,5,9,10,11,12,13,14,15,16,17,18] (fun i=>[]) (fun i=>i≤xs.length∧idxF p (xs.drop i) i=idxF p xs 0) (fun i=>xs.length-i) 0 ⟨by omega,rfl⟩ ⟨⟨_,rfl,LeA.eqi ?_⟩,trivial⟩ trivial (fun x=>rfl) (fun i hg1=>?_)
 focus (first|rfl|(simp;done)|(simp_all;done)|omega)
 refine evc [15] [] ?_
 refine sq (fun h1 h1p h1s=>?_) fun h1 h1p h1s=>?_
 try simp only[Q] at h1p
 refine Walk.idxM sl45 .none rfl rfl rfl rfl (by first|omega|(simp ;omega)) ?_
 refine Walk.loadBA ty56 .none rfl rfl rfl ((zrM (by omega))) ?_
 refine Walk.callV (cr:=[]) hcal (hf (nth xs i) (zaf (by omega))) rfl .none rfl rfl rfl (LeL.refl _) ⟨rfl,rfl,trivial⟩ rfl (by simp only[zbe,List.all_cons,List.all_nil,zcm,zbW,AV.idsL,AV.ids,hB2,hB3,List.map_cons,List.map_nil];rfl) rfl ?_
 refine tv ?_
 refine sq (fun h2 h2p h2s=>?_) fun h2 h2p h2s=>?_
 try simp only[Q] at h2p
 focus (refine rn [] (r1 rfl) (.eqd ?_) ⟨rfl,rfl⟩ (SubH.get ⟨rfl,⟨rfl,⟨rfl,trivial⟩⟩⟩) (fun _ h=>h);all_goals (first|(rw[←hg1.2,zaV (by omega)];simp[idxF,h1s,h1p,h2s,h2p];done)|(rw[←hg1.2,List.drop_eq_nil_of_le (by omega)];rfl)))
 try simp only[Q] at h2p
 refine ar ?_
 refine Exists.intro (i+1) ⟨⟨by omega,(by rw[←hg1.2,zaV (l:=xs) (i:=i) (by omega)];simp_all[idxF])⟩,(by omega),sx ⟨⟨_,rfl,LeA.eqi ?_⟩,trivial⟩ trivial⟩
 focus (first|rfl|(simp;done)|(simp_all;done)|omega)
 try simp only[Q] at h1p
 focus (refine rn [] (r1 rfl) (.eqd ?_) ⟨rfl,rfl⟩ (SubH.get ⟨rfl,⟨rfl,⟨rfl,trivial⟩⟩⟩) (fun _ h=>h);all_goals (first|(rw[←hg1.2,zaV (by omega)];simp[idxF,h1s,h1p];done)|(rw[←hg1.2,List.drop_eq_nil_of_le (by omega)];rfl)))
theorem zg3 {xs:List Pat}{f:Nat}{B2 B3:List AV}{p:Pat→Bool} (hs:xs.length≤1000000000000) (hcal:Callee Tryz.prog f) (hB2:AV.idsL B2=[]) (hB3:AV.idsL B3=[])
  (hf:∀t∈xs,FnD Tryz.prog f [.agg [.d (.i t.op),.d (.i t.ctor),.d (.i t.n),.d (.i t.m),.d (.i t.var),.d (zae t.kids)],.ref 3003 0,.ref 3004 0] [(3003,some (.box B2)),(3004,some (.box B3))] (.d (.bool (p t))) []):
  ∃tl:List AV,AV.idsL tl=[]∧FnD Tryz.prog 183 [.ms 1 xs.length,.fn f [.ref 3003 0,.ref 3004 0]] [(1,some (.box (pd xs))),(3003,some (.box B2)),(3004,some (.box B3))]
   (.ms 1 (xs.filter fun t=> !p t).length) [(1,some (.box (pd (xs.filter fun t=> !p t)++tl)))]:=by
 have hok3:zbe [(1,some (.box (pd xs))),(3003,some (.box B2)),(3004,some (.box B3))] [] (.d .nilp) []=true:=by
  simp only[zbe,List.all_cons,List.all_nil,zcm,zbW,AV.idsL,AV.ids,zhN,hB2,hB3,List.map_cons,List.map_nil];rfl
 rcases zne p xs 0 with ⟨hi,hall⟩|⟨k,hi,hk1,hk2⟩
 ·have hfil:(xs.filter fun t=> !p t)=xs:=List.filter_eq_self.2 (fun x hx=>by simp[hall x hx])
  refine⟨[],rfl, ?_⟩
  rw[hfil,List.append_nil]
  refine bd Tryz.f183 42 [] [] fun w0 F0 own kept hk=>?_
  refine Walk.call (cr:=[]) zkP (zew hs hcal hB2 hB3 hf) rfl .none rfl rfl (.cons (LeA.msn (by first|rfl|(simp;done))) (.cons (.refl _) .nil)) ⟨rfl,rfl,rfl,trivial⟩ rfl (zc3 hok3 _) rfl ?_
  refine ev ?_
  refine sq (fun h1 h1p h1s=>?_) fun h1 h1p h1s=>?_
  try simp only[Q] at h1p
  refine rn [(1,some (.box (pd xs)))] (r1 rfl) (.refl _) ⟨rfl,rfl⟩ (SubO.get ⟨.inr ?_,⟨.inl rfl,⟨.inr rfl,⟨.inr rfl,trivial⟩⟩⟩⟩) (zaB rfl)
  rotate_left
  try simp only[Q] at h1p
  exfalso;simp[hi] at h1
  all_goals (first|((first|rfl|(simp;done));done)|(rfl))
 ·skip
  have hlen:(xs.filter fun t=> !p t).length≤xs.length:=List.length_filter_le _ _
  refine⟨zbh (xs.length-(xs.filter fun t=> !p t).length) z6,zix rfl, ?_⟩
  refine bd Tryz.f183 42 [25] [] fun w0 F0 own kept hk=>?_
  refine Walk.call (cr:=[]) zkP (zew hs hcal hB2 hB3 hf) rfl .none rfl rfl (.cons (LeA.msn (by first|rfl|(simp;done))) (.cons (.refl _) .nil)) ⟨rfl,rfl,rfl,trivial⟩ rfl (zc3 hok3 _) rfl ?_
  refine evs [25] [] ?_
  refine sq (fun h1 h1p h1s=>?_) fun h1 h1p h1s=>?_
  try simp only[Q] at h1p
  exfalso;simp[hi] at h1<;>omega
  try simp only[Q] at h1p
  refine ar ?_
  refine CWp.loopX (ι:=List Pat×Nat×Nat) hk (fun x=>[(6,.d (.i (x.2.1:Int))),(5,.d (.i (x.2.2:Int)))]) [7,16,17,18,19,20,21,22,23,24,25,26,27,28,29,30,31,32,33,34,35] (fun x=>[(1,some (.box (pd x.1)))]) (fun x=>x.1.length=xs.length∧x.2.1≤xs.length∧x.2.2≤x.2.1∧x.1.take x.2.2=(xs.take x.2.1).filter (fun t=> !p t)∧x.1.drop x.2.1=xs.drop x.2.1) (fun x=>xs.length-x.2.1) (xs,k+1,k) ⟨rfl,by dsimp only;omega,by dsimp only;omega,hk2.symm,rfl⟩ ⟨⟨_,rfl,LeA.eqi ?_⟩,⟨⟨_,rfl,LeA.eqi ?_⟩,trivial⟩⟩ ⟨?_,trivial⟩ (fun x=>rfl) (fun x hg1=>?_)
  iterate 2 focus (first|rfl|(simp;done)|(dsimp only;simp[hi];omega)|(simp_all;done))
  focus (first|rfl|(show some (Res.box _)=some (Res.box _);dsimp only;split<;>first|rfl|(exfalso;simp_all;done)))
  refine evc [25] [] ?_
  refine sq (fun h2 h2p h2s=>?_) fun h2 h2p h2s=>?_
  try simp only[Q] at h2p
  refine Walk.idxM sl45 .none rfl rfl rfl rfl (by first|omega|(simp ;omega)) ?_
  refine Walk.loadBA ty56 .none rfl rfl rfl (((zrM (s:=x.1) (by omega)).trans (by rw[zpB hg1.2.2.2.2 hg1.1 (by omega)]))) ?_
  refine Walk.alloc (id:=3007) tz56 rfl .none rfl (by first|rfl|(simp only[zax,occH,occE,Res.ids,List.cons_append,List.nil_append,AV.idsL,AV.ids,zah,zag,zap,zaJ,List.map_cons,List.map_nil,upC,hB2,hB3,zhN];rfl)) (by first|rfl|(simp only[zax,occH,occE,Res.ids,List.cons_append,List.nil_append,AV.idsL,AV.ids,zah,zag,zap,zaJ,List.map_cons,List.map_nil,upC,hB2,hB3,zhN];rfl)) (by first|rfl|(simp only[zax,occH,occE,Res.ids,List.cons_append,List.nil_append,AV.idsL,AV.ids,zah,zag,zap,zaJ,List.map_cons,List.map_nil,upC,hB2,hB3,zhN];rfl)) ?_
  refine Walk.store ty56 .none rfl rfl rfl rfl rfl rfl (by simp) rfl ?_
  refine tv ?_
  refine Walk.callV (cr:=[]) hcal (hf (nth xs x.2.1) (zaf (by omega))) rfl .none rfl rfl rfl (LeL.refl _) ⟨rfl,rfl,trivial⟩ rfl (by simp only[zbe,List.all_cons,List.all_nil,zcm,zbW,AV.idsL,AV.ids,hB2,hB3,List.map_cons,List.map_nil];rfl) rfl ?_
  refine evs [25] [] ?_
  refine sq (fun h3 h3p h3s=>?_) fun h3 h3p h3s=>?_
  try simp only[Q] at h3p
  refine Walk.idxM sl45 .none rfl rfl rfl rfl (by first|omega|(simp ;omega)) ?_
  refine Walk.store ty56 .none rfl rfl rfl rfl rfl rfl (by simp) ((zuX (by omega))) ?_
  refine tv ?_
  refine ar ?_
  refine ar ?_
  refine Exists.intro ((if p (nth xs x.2.1) then x.1 else x.1.set x.2.2 (nth xs x.2.1),x.2.1+1,if p (nth xs x.2.1) then x.2.2 else x.2.2+1)) ⟨(by
      obtain⟨g1,g2,g3,g4,g5⟩:=hg1
      have hlt:x.2.1<xs.length:=by omega
      have h7:=zgI (p:=fun t=> !p t) hlt
      refine⟨by dsimp only;split<;>simp[g1],by dsimp only;omega,by dsimp only;split<;>omega, ?_, ?_⟩
      ·dsimp only
       rw[h7,←g4]
       cases hp:p (nth xs x.2.1) with
       |true=>simp
       |false=>simp only[Bool.false_eq_true,if_false,Bool.not_false,if_true];rw[ziG (by omega)]
      ·dsimp only
       split
       ·exact zeJ g5
       ·first|(rw[ziy g3];exact zeJ g5)|exact zeJ g5),(by dsimp only;omega),sx ⟨⟨_,rfl,LeA.eqi ?_⟩,⟨⟨_,rfl,LeA.eqi ?_⟩,trivial⟩⟩ ⟨?_,trivial⟩⟩
  iterate 2 focus (first|rfl|(simp;done)|(dsimp only;simp[hi];omega)|(simp_all;done))
  focus (first|rfl|(show some (Res.box _)=some (Res.box _);dsimp only;split<;>first|rfl|(exfalso;simp_all;done)))
  try simp only[Q] at h3p
  refine ar ?_
  refine Exists.intro ((if p (nth xs x.2.1) then x.1 else x.1.set x.2.2 (nth xs x.2.1),x.2.1+1,if p (nth xs x.2.1) then x.2.2 else x.2.2+1)) ⟨(by
      obtain⟨g1,g2,g3,g4,g5⟩:=hg1
      have hlt:x.2.1<xs.length:=by omega
      have h7:=zgI (p:=fun t=> !p t) hlt
      refine⟨by dsimp only;split<;>simp[g1],by dsimp only;omega,by dsimp only;split<;>omega, ?_, ?_⟩
      ·dsimp only
       rw[h7,←g4]
       cases hp:p (nth xs x.2.1) with
       |true=>simp
       |false=>simp only[Bool.false_eq_true,if_false,Bool.not_false,if_true];rw[ziG (by omega)]
      ·dsimp only
       split
       ·exact zeJ g5
       ·first|(rw[ziy g3];exact zeJ g5)|exact zeJ g5),(by dsimp only;omega),sx ⟨⟨_,rfl,LeA.eqi ?_⟩,⟨⟨_,rfl,LeA.eqi ?_⟩,trivial⟩⟩ ⟨?_,trivial⟩⟩
  iterate 2 focus (first|rfl|(simp;done)|(dsimp only;simp[hi];omega)|(simp_all;done))
  focus (first|rfl|(show some (Res.box _)=some (Res.box _);dsimp only;split<;>first|rfl|(exfalso;simp_all;done)))
  try simp only[Q] at h2p
  refine Walk.cutM_l sl45 .none rfl rfl rfl rfl (by omega) ?_
  refine Walk.clearB sl45 tz56 rfl (by decide) rfl .none rfl rfl (ztA hg1.1 (by omega)) ?_
  refine tv ?_
  refine Walk.cutM_h sl45 .none rfl rfl rfl rfl (by omega) ?_
  refine evs [25] [] ?_
  refine rn [(1,some (.box (pd (xs.filter fun t=> !p t)++zbh (xs.length-(xs.filter fun t=> !p t).length) z6)))] (r1 rfl) (LeA.msn ?_) ⟨rfl,rfl⟩ (SubO.get ⟨.inr ?_,⟨.inl rfl,⟨.inr rfl,⟨.inr rfl,trivial⟩⟩⟩⟩) (zaB rfl)
  rotate_left 2
  all_goals (first|((first|rfl|(obtain⟨g1,g2,g3,g4,g5⟩:=hg1;have e:x.2.1=xs.length:=(by omega);rw[e,List.take_length] at g4;rw[←g4,List.length_take];omega));done)|((obtain⟨g1,g2,g3,g4,g5⟩:=hg1;have e:x.2.1=xs.length:=(by omega);rw[e,List.take_length] at g4;have e2:(xs.filter fun t=> !p t).length=x.2.2:=(by rw[←g4,List.length_take];omega);rw[e2,←g4];rfl)))
theorem zgl {f:Nat}{caps:List AV}{hp:Hp} (hcal:Callee Tryz.prog f) (k1:subH hp hp) (k2:zdW hp=true) (k3:zbe hp [] (.d .nilp) []=true):
  FnD Tryz.prog 183 [.d (.sl []),.fn f caps] hp (.d (.sl [])) []:=by
 have hz:=zeq (xs:=[]) (p:=fun _=>false) (f:=f) (caps:=caps) (hp:=hp) (by simp) hcal (fun t ht=>by simp at ht) k1 k2 k3
 refine bd Tryz.f183 42 [] [] fun w0 F0 own kept hk=>?_
 refine Walk.call (cr:=[]) zkP (hz) rfl .none rfl rfl (LeL.refl _) k1 k2 (zc3 k3 _) rfl ?_
 refine ev ?_
 refine sq (fun h1 h1p h1s=>?_) fun h1 h1p h1s=>?_
 try simp only[Q] at h1p
 focus (refine rn [] (r1 rfl) (.eqd ?_) ⟨rfl,rfl⟩ (fun _ _ h=>h) (fun _ h=>h);all_goals (first|rfl|(simp[h1s,h1p];done)|(simp_all;done)|(simp_all;omega)|omega))
 try simp only[Q] at h1p
 exfalso;simp[idxF] at h1
theorem zjn {xs:List Pat} (hs:xs.length≤1000000000000) (hne:xs≠[]):FnD Tryz.prog 184 [.d (zae xs)] [] (.ms 1 xs.length) [(1,some (.box (pd xs)))]:=by
 have hcs:Pat.cs xs≠[]:=fun h=>hne ((Pat.cs_nil xs).1 h)
 refine Fn.body (fn:=Tryz.f184) (n:=8) rfl rfl rfl rfl rfl (fun w0 F0 own kept hk=>?_)
 refine CWp.splitNil 0 rfl (fun hx0=>?_) ?_
 refine evc [4] [] ?_
 refine Walk.eqNilT sl45 .none rfl rfl ?_
 refine tv ?_
 refine sqT ?_
 exfalso;exact hcs hx0
 refine evc [4] [] ?_
 refine Walk.eqNilF sl45 .none rfl rfl ?_
 refine tv ?_
 refine sqF ?_
 refine Walk.sliceEmptyGV 1 sl45 .none rfl rfl ?_
 refine evs [4] [] ?_
 refine Walk.appendM hk rfl (by simp[hcs]) sl45 zz56 .none rfl rfl rfl rfl (zaw rfl (by first|rfl|(simp;done)|(simp;omega))) (by intro y hy;rw[Pat.cs_cd] at hy;obtain⟨z,_,rfl⟩:=List.mem_map.1 hy;rfl) (by simp[Pat.cs_len];omega) (by simp[Pat.cs_len];omega) ?_
 refine evs [4] [] ?_
 refine rn [(1,some (.box (pd xs)))] (r1 rfl) (LeA.msn ?_) ⟨rfl,rfl⟩ (SubH.get ⟨?_,trivial⟩) (zaB rfl)
 rotate_left 2
 all_goals (first|((first|rfl|(simp[Pat.cs_len];done));done)|(first|rfl|(show some (Res.box _)=some (Res.box _);unfold pd;rw[←Pat.cs_cd];rfl)))
theorem zkn {w:List Data} (hs:Spa w){ta tk:Int} (ht:InS (w.length*4) ⟨ta,tk⟩){p:Pat} (hp:zak w 11 ⟨ta,tk⟩ p=true):
  FnD Tryz.prog 185 [.agg [.d (.i p.op),.d (.i p.ctor),.d (.i p.n),.d (.i p.m),.d (.i p.var),.d (zae p.kids)],.ref 3003 0,.ref 3004 0] [(3003,some (.box [.d (sPtr w (zaj w))])),(3004,some (.box [.d (.i ta),.d (.i tk)]))] (.d (.bool (za5 w (zaj w) 11 ⟨ta,tk⟩ p))) []:=by
 refine bd Tryz.f185 9 [] [] fun w0 F0 own kept hk=>?_
 refine Walk.box (id:=3001) .none rfl rfl rfl rfl rfl rfl rfl ?_
 refine ev ?_
 refine wc zgD (zcO hs.dp 11 (zgf _ hp) ht (zgA hs 11 ht hp).1) rfl rfl ?_
 refine ev ?_
 focus (refine rn [] (r1 rfl) (.eqd ?_) ⟨rfl,rfl⟩ (SubH.get ⟨rfl,⟨rfl,trivial⟩⟩) (fun _ h=>h);all_goals (first|rfl|(simp[];done)|(simp_all;done)|(simp_all;omega)|omega))
theorem zhK {w:List Data} (hs:Spa w){ta tk:Int} (ht:InS (w.length*4) ⟨ta,tk⟩){l:List Pat} (hl:∀a∈l,zak w 11 ⟨ta,tk⟩ a=true) (hb:l.length≤1000000000000):
  FnD Tryz.prog 115 [.d (sPtr w (zaj w)),.agg [.d (.i ta),.d (.i tk)],.d (zae l)] [] (.d (zae (l.filter (zbK w ⟨ta,tk⟩)))) []:=by
 by_cases hne:l=[]
 ·subst hne
  have hcl:FnD Tryz.prog 184 [.d (.sl [])] [] (.d (.sl [])) []:=(zfe (xs:=[]) (by simp)).glD
  refine bd Tryz.f115 11 [] [] fun w0 F0 own kept hk=>?_
  refine Walk.box (id:=3003) .none rfl rfl rfl rfl rfl rfl rfl ?_
  refine Walk.box (id:=3004) .none rfl rfl rfl rfl rfl rfl rfl ?_
  refine ev ?_
  refine wc zoa (hcl) rfl rfl ?_
  refine Walk.closure (xs:=[_,_]) rfl .none rfl rfl ?_
  refine Walk.call (cr:=[]) zq1 (zgl (hp:=[(3003,some (.box [.d (sPtr w (zaj w))])),(3004,some (.box [.d (.i ta),.d (.i tk)]))]) zq2 ⟨rfl,rfl,trivial⟩ rfl rfl) rfl .none rfl rfl (LeL.refl _) ⟨rfl,rfl,trivial⟩ rfl rfl rfl ?_
  refine ev ?_
  focus (refine rn0 (r1 rfl) (.eqd ?_);all_goals (first|rfl|(simp[];done)|(simp_all;done)|(simp_all;omega)|omega))
 ·obtain⟨tl,htl,hdel⟩:=zg3 (xs:=l) (p:=fun a=>za5 w (zaj w) 11 ⟨ta,tk⟩ a) hb zq2 (B2:=[.d (sPtr w (zaj w))]) (B3:=[.d (.i ta),.d (.i tk)]) rfl rfl (fun a ha=>zkn hs ht (hl a ha))
  have key:FnD Tryz.prog 115 [.d (sPtr w (zaj w)),.agg [.d (.i ta),.d (.i tk)],.d (zae l)] [] (.ms 1 (l.filter (zbK w ⟨ta,tk⟩)).length) [(1,some (.box (pd (l.filter (zbK w ⟨ta,tk⟩))++tl)))]:=by
   refine bd Tryz.f115 11 [] [] fun w0 F0 own kept hk=>?_
   refine Walk.box (id:=3003) .none rfl rfl rfl rfl rfl rfl rfl ?_
   refine Walk.box (id:=3004) .none rfl rfl rfl rfl rfl rfl rfl ?_
   refine ev ?_
   refine Walk.call (cr:=[1]) zoa (zjn hb hne) rfl .none rfl rfl (LeL.refl _) trivial rfl (by simp only[zbe,List.all_cons,List.all_nil,zcm,zbW,AV.idsL,AV.ids,zhN,zah,htl,List.map_cons,List.map_nil];rfl) rfl ?_
   refine Walk.closure (xs:=[_,_]) rfl .none rfl rfl ?_
   refine Walk.call (cr:=[]) zq1 (hdel) rfl .none rfl rfl (.cons (LeA.msn (by first|rfl|(simp;done))) (.cons (.refl _) .nil)) ⟨rfl,rfl,rfl,trivial⟩ rfl (by simp only[zbe,List.all_cons,List.all_nil,zcm,zbW,AV.idsL,AV.ids,zhN,zah,htl,List.map_cons,List.map_nil];rfl) rfl ?_
   refine ev ?_
   refine rn [(1,some (.box (pd (l.filter (zbK w ⟨ta,tk⟩))++tl)))] (r1 rfl) (LeA.msn ?_) ⟨rfl,rfl⟩ (SubH.get ⟨?_,trivial⟩) (zaB rfl)
   rotate_left 2
   all_goals (first|((rfl);done)|(rfl))
  have h2:=key.boxD (k:=6) zsu
  rw[←Pat.cs_cd] at h2
  exact h2
theorem zjD {w:List Data}{a k:Int}{l:List Cl} (h:zba w ⟨a,k⟩ l=true):zbw w ⟨a,k⟩=true∧l.length≤8:=by
 unfold zba at h
 simp only[Bool.and_eq_true,decide_eq_true_eq] at h
 exact⟨h.1,by omega⟩
theorem zmr {α β:Type}{g:α→List β}{K:Nat}:∀(l:List α),(∀x∈l,(g x).length≤K)→(l.flatMap g).length≤l.length*K
 | [],_=>by simp
 |x::r,h=>by
  have h1:=h x (by simp)
  have h2:=zmr r (fun y hy=>h y (by simp[hy]))
  rw[List.flatMap_cons,List.length_append,List.length_cons,Nat.add_mul];omega
theorem zeS {w:List Data}{t:Ty}{l away:List Pat}{i:Nat} (h:i<away.length):subL w t l (away.drop i)=if (zb3 w t l (nth away i)).length≤400 then subL w t (zb3 w t l (nth away i)) (away.drop (i+1)) else none:=by
 rw[zaV h,subL]
theorem zo9 {w:List Data}{t:Ty}{l away:List Pat}{i:Nat} (h:away.length≤i):subL w t l (away.drop i)=some l:=by
 rw[List.drop_eq_nil_of_le h,subL]
def zbj:List Cl→List Pat→Option (List Pat)
 | [],out=>some out
 |c::r,out=>if c.g.op=0 then (if zcb c.pat=true then zbj r (out++zcI c.pat) else none) else zbj r out
theorem zfA {l:List Cl}{out:List Pat}{i:Nat} (h:i<l.length) (hg:¬(nth l i).g.op=0):zbj (l.drop i) out=zbj (l.drop (i+1)) out:=by
 rw[zaV h,zbj,if_neg hg]
theorem zfy {l:List Cl}{out:List Pat}{i:Nat} (h:i<l.length) (hg:(nth l i).g.op=0) (hp:zcb (nth l i).pat=true):zbj (l.drop i) out=zbj (l.drop (i+1)) (out++zcI (nth l i).pat):=by
 rw[zaV h,zbj,if_pos hg,if_pos hp]
theorem zk4 {l:List Cl}{out:List Pat}{i:Nat} (h:i<l.length) (hg:(nth l i).g.op=0) (hp:zcb (nth l i).pat=false):zbj (l.drop i) out=none:=by
 rw[zaV h,zbj,if_pos hg,if_neg (by rw[hp];simp)]
theorem zk5 {l:List Cl}{out:List Pat}{i:Nat} (h:l.length≤i):zbj (l.drop i) out=some out:=by
 rw[List.drop_eq_nil_of_le h,zbj]
theorem zgg (p:Pat):(zcI p).length≤40:=by unfold zcI;split;assumption;simp
theorem zpD {w:List Data}{t:Ty}{p:Pat} (h:zau w 10 t p=true):∀x∈zcI p,zak w 10 t x=true:=fun x hx=>by
 unfold zcI at hx
 split at hx
 ·exact zgR 10 h x hx
 ·simp at hx
theorem zfz {w:List Data}{t:Ty}:∀(l:List Cl) (out r:List Pat),(∀c∈l,zau w 10 t c.pat=true)→(∀x∈out,zak w 10 t x=true)→zbj l out=some r→r.length≤out.length+40*l.length∧∀x∈r,zak w 10 t x=true
 | [],out,r,_,ho,h=>by rw[zbj] at h;cases h;exact⟨by simp,ho⟩
 |c::l,out,r,hc,ho,h=>by
  rw[zbj] at h
  split at h
  ·split at h
   ·have:=zfz l _ r (fun x hx=>hc x (by simp[hx])) (fun x hx=>by
     rcases List.mem_append.1 hx with hx|hx
     ·exact ho x hx
     ·exact zpD (hc c (by simp)) x hx) h
    have hl:=zgg c.pat
    rw[List.length_append] at this
    exact⟨by rw[List.length_cons];omega,this.2⟩
   ·cases h
  ·have:=zfz l _ r (fun x hx=>hc x (by simp[hx])) ho h
   exact⟨by rw[List.length_cons];omega,this.2⟩
def zds (w:List Data) (t:Ty) (l:List Cl):Option (List Pat):=match zbj l [] with
 |none=>none
 |some away=>match zaE w t [anyQ] away with
  |none=>none
  |some r=>if r.all (isP w t)=true then some r else none
def zbx (w:List Data) (t:Ty) (l:List Cl):Option (List Pat):=if zba w t l=true then zds w t l else none
theorem zf1 {w:List Data}{t:Ty}:∀(away l r:List Pat),(∀a∈l,zak w 11 t a=true)→l.length≤400→(∀b∈away,zak w 10 t b=true)→subL w t l away=some r→r.length≤400∧∀x∈r,zak w 11 t x=true
 | [],l,r,hl,hn,_,h=>by rw[subL] at h;cases h;exact⟨hn,hl⟩
 |b::away,l,r,hl,hn,hb,h=>by
  rw[subL] at h
  split at h
  ·rename_i h4
   exact zf1 away _ r (zgb hl (hb b (by simp))) h4 (fun x hx=>hb x (by simp[hx])) h
  ·cases h
theorem zlj {w:List Data} (hs:Spa w){ta tk:Int} (ht:InS (w.length*4) ⟨ta,tk⟩){l away:List Pat} (hl:∀a∈l,zak w 11 ⟨ta,tk⟩ a=true) (hb:∀b∈away,zak w 10 ⟨ta,tk⟩ b=true) (hll:l.length≤400) (hal:away.length≤1000):
  FnD Tryz.prog 70 [.d (sPtr w (zaj w)),.agg [.d (.i ta),.d (.i tk)],.d (zae l),.d (zae away)] [] (.tup [.d (zae ((zaE w ⟨ta,tk⟩ l away).getD [])),.d (.bool (zaE w ⟨ta,tk⟩ l away).isSome)]) []:=by
 have hlf:(l.filter (zbK w ⟨ta,tk⟩)).length≤l.length:=List.length_filter_le _ _
 have hmb:∀(c:List Pat) (i:Nat),(∀a∈c,zak w 11 ⟨ta,tk⟩ a=true)→i<away.length→∀x∈c,(zav w 10 ⟨ta,tk⟩ x (nth away i)).length≤20000000:=fun c i hc hi x hx=>zfm hs (by omega) (by omega) ht (hc x hx) (hb _ (zaf hi))
 have hnp:∀(c:List Pat) (i:Nat),(∀a∈c,zak w 11 ⟨ta,tk⟩ a=true)→i<away.length→∀x∈(c.flatMap fun a=>zav w 10 ⟨ta,tk⟩ a (nth away i)),zak w 11 ⟨ta,tk⟩ x=true:=fun c i hc hi x hx=>by
  obtain⟨a,ha,hx⟩:=List.mem_flatMap.1 hx
  exact zga 10 11 (by omega) (hc a ha) (hb _ (zaf hi)) x hx
 have hpre:∀ {pre rest c:List Pat}{y:Pat} (i:Nat),(∀a∈c,zak w 11 ⟨ta,tk⟩ a=true)→c.length≤400→i<away.length→pre++y::rest=c→(pre.flatMap fun a=>zav w 10 ⟨ta,tk⟩ a (nth away i)).length≤8000000000∧(zav w 10 ⟨ta,tk⟩ y (nth away i)).length≤20000000:=fun {pre rest c y} i hc h4 hi h=>by
  have h1:=zmr (g:=fun a=>zav w 10 ⟨ta,tk⟩ a (nth away i)) (K:=20000000) pre (fun x hx=>hmb c i hc hi x (by rw[←h];simp[hx]))
  have h2:=hmb c i hc hi y (by rw[←h];simp)
  have h3:=congrArg List.length h
  simp only[List.length_append,List.length_cons] at h3
  exact⟨by omega,h2⟩
 refine bd Tryz.f70 48 [12] [11] fun w0 F0 own kept hk=>?_
 refine Walk.box (id:=3005) .none rfl rfl rfl rfl rfl rfl rfl ?_
 refine evs [12] [] ?_
 refine wc zqW (zhK hs ht hl (by omega)) rfl rfl ?_
 refine evs [12] [] ?_
 refine CWp.loopX (ι:=Nat×List Pat) hk (fun s=>[(21,.d (.i (s.1:Int))),(2,.d (zae s.2))]) [8,9,11,12,14,22,23,24,25,26,27,28,29,30,31,32,33,34,35,36,37,38,39,40,41,42,43,44,45,46] (fun s=>[]) (fun s=>s.1≤away.length∧subL w ⟨ta,tk⟩ s.2 (away.drop s.1)=zaE w ⟨ta,tk⟩ l away∧(∀a∈s.2,zak w 11 ⟨ta,tk⟩ a=true)∧s.2.length≤400) (fun s=>away.length-s.1) (0,l.filter (zbK w ⟨ta,tk⟩)) ⟨by simp,rfl,fun a ha=>hl a (List.mem_filter.1 ha).1,by dsimp only;omega⟩ ⟨⟨_,rfl,LeA.eqi ?_⟩,⟨⟨_,rfl, ?_⟩,trivial⟩⟩ trivial (fun x=>rfl) (fun s hg1=>?_)
 focus (first|rfl|(simp;done)|(simp_all;done)|omega)
 focus (first|exact LeA.refl _|((first|refine LeA.gld ?_|refine LeA.nild ?_);first|rfl|(simp;done)|(simp_all;done)|omega)|(refine LeA.eqsl ?_;first|rfl|(simp;done)|(simp_all;done)|omega)|(refine LeA.eqd ?_;first|rfl|(simp;done)|(simp_all;done)|omega))
 refine evc [12] [11] ?_
 refine sq (fun h1 h1p h1s=>?_) fun h1 h1p h1s=>?_
 try simp only[Q,Pat.cs_len] at h1p
 refine Walk.idx sl45 .none rfl rfl rfl rfl (zaH (by omega)) rfl ?_
 refine evs [12] [] ?_
 refine Walk.alloc (id:=3011) tz56 rfl .none rfl rfl rfl rfl ?_
 refine Walk.store ty56 .none rfl rfl rfl rfl rfl rfl (by simp) rfl ?_
 refine tv ?_
 refine Walk.assignNil 9 6 .none rfl rfl ?_
 refine tv ?_
 refine CWp.loopX (ι:=List (Pat)×List (Pat)) hk (fun x=>[(27,.d (.i (x.1.length:Int))),(12,.gl 9 (Pat.cs (x.1.flatMap fun a=>zav w 10 ⟨ta,tk⟩ a (nth away s.1))))]) [14,28,29,30,31,32,33,34,35,36,37,38] (fun x=>[(9,some (.tok ((Pat.cs (x.1.flatMap fun a=>zav w 10 ⟨ta,tk⟩ a (nth away s.1)))).length 6))]) (fun x=>x.1++x.2=s.2) (fun x=>x.2.length) ([],s.2) (by simp) ⟨⟨_,rfl,LeA.eqi ?_⟩,⟨⟨_,rfl,LeA.glg ?_⟩,trivial⟩⟩ ⟨zaa ?_,trivial⟩ (fun x=>rfl) (fun x hg2=>?_)
 iterate 3 focus (first|rfl|(rw[List.flatMap_append,Pat.cs_cd,Pat.cs_cd,Pat.cs_cd,List.map_append];simp;done)|(simp[Pat.cs_len];done)|omega|(simp;omega))
 obtain⟨pre,rest⟩:=x
 dsimp only at hg2 ⊢
 refine evc [12] [11] ?_
 refine sq (fun h2 h2p h2s=>?_) fun h2 h2p h2s=>?_
 try simp only[Q,Pat.cs_len] at h2p
 rcases rest with _|⟨y,rest⟩
 ·exfalso;simp_all
 refine Walk.idx sl45 .none rfl rfl rfl rfl (Pat.cs_at' hg2) rfl ?_
 refine evs [12] [] ?_
 refine Walk.alloc (id:=3014) tz56 rfl .none rfl rfl rfl rfl ?_
 refine Walk.store ty56 .none rfl rfl rfl rfl rfl rfl (by simp) rfl ?_
 refine tv ?_
 refine wc zn8 (ziC hs 10 11 (by omega) (by omega) (by omega) ht (hg1.2.2.1 y (by rw[←hg2];simp)) (hb _ (zaf (by omega)))) rfl rfl ?_
 refine Walk.append sl45 zz56 rfl .none rfl rfl rfl rfl (zaw rfl (by first|rfl|(simp;done)|(simp;omega))) (by exact zbb _) (by have h9:=hpre s.1 hg1.2.2.1 hg1.2.2.2 (by omega) hg2;simp only[Pat.cs_len];omega) (by have h9:=hpre s.1 hg1.2.2.1 hg1.2.2.2 (by omega) hg2;simp only[Pat.cs_len];omega) ?_
 refine asg ?_
 refine tv ?_
 refine ar ?_
 refine Exists.intro ((pre++[y],rest)) ⟨(by have hz:=hg2;rw[←hz];simp),(by simp),sx ⟨⟨_,rfl,LeA.eqi ?_⟩,⟨⟨_,rfl,LeA.glg ?_⟩,trivial⟩⟩ ⟨zaa ?_,trivial⟩⟩
 iterate 3 focus (first|rfl|(rw[List.flatMap_append,Pat.cs_cd,Pat.cs_cd,Pat.cs_cd,List.map_append];simp;done)|(simp[Pat.cs_len];done)|omega|(simp;omega))
 try simp only[Q,Pat.cs_len] at h2p
 have hrest:rest=[]:=by
  rcases rest with _|⟨a,b⟩
  ·rfl
  ·exfalso;have hz:=congrArg List.length (hg2);simp only[List.length_append,List.length_cons,List.length_map] at hz;omega
 subst hrest
 obtain rfl:pre=s.2:=(by simpa using hg2)
 refine evc [12] [] ?_
 refine Walk.call (cr:=[]) zqW (zhK hs ht (l:=s.2.flatMap fun a=>zav w 10 ⟨ta,tk⟩ a (nth away s.1)) (hnp s.2 s.1 hg1.2.2.1 (by omega)) (by have:=zmr (g:=fun a=>zav w 10 ⟨ta,tk⟩ a (nth away s.1)) (K:=20000000) s.2 (hmb s.2 s.1 hg1.2.2.1 (by omega));omega)) rfl .none rfl rfl (.cons (.refl _) (.cons (.refl _) (.cons (.gl _ _) .nil))) trivial rfl rfl rfl ?_
 refine evs [12] [] ?_
 refine sq (fun h3 h3p h3s=>?_) fun h3 h3p h3s=>?_
 try simp only[Q,Pat.cs_len] at h3p
 refine rn0 (r2 rfl rfl) (.tup (.cons (.nild ?_) (.cons (.eqd ?_) .nil)))
 rotate_left 2
 try simp only[Q,Pat.cs_len] at h3p
 refine ar ?_
 refine Exists.intro ((s.1+1,zb3 w ⟨ta,tk⟩ s.2 (nth away s.1))) ⟨(by
    have h4:(zb3 w ⟨ta,tk⟩ s.2 (nth away s.1)).length≤400:=by unfold zb3;omega
    refine⟨by dsimp only;omega, ?_,zgb hg1.2.2.1 (hb _ (zaf (by omega))),h4⟩
    have e:=zeS (w:=w) (t:=⟨ta,tk⟩) (l:=s.2) (away:=away) (i:=s.1) (by omega)
    rw[if_pos h4] at e
    dsimp only
    rw[←e];exact hg1.2.1),(by dsimp only;omega),sx ⟨⟨_,rfl,LeA.eqi ?_⟩,⟨⟨_,rfl, ?_⟩,trivial⟩⟩ trivial⟩
 focus (first|rfl|(simp;done)|(simp_all;done)|omega)
 focus (first|exact LeA.refl _|((first|refine LeA.gld ?_|refine LeA.nild ?_);first|rfl|(simp;done)|(simp_all;done)|omega)|(refine LeA.eqsl ?_;first|rfl|(simp;done)|(simp_all;done)|omega)|(refine LeA.eqd ?_;first|rfl|(simp;done)|(simp_all;done)|omega))
 try simp only[Q,Pat.cs_len] at h1p
 refine rn0 (r2 rfl rfl) (.tup (.cons (.eqd ?_) (.cons (.eqd ?_) .nil)))
 rotate_left 2
 all_goals (first|rfl|(rw[←hg1.2.1,zeS (by omega),if_neg (by assumption)];rfl)|(rw[←hg1.2.1,zeS (by omega),if_neg (by unfold zb3;omega)];rfl)|(rw[←hg1.2.1,zo9 (by omega)];rfl))
theorem zkk {w:List Data}{t:Ty}{l:List Cl} (hl:l.length≤8) (hc:∀c∈l,zau w 10 t c.pat=true∧c.pat.ok):
  FnD Tryz.prog 68 [.d (zbg l)] [] (.tup [.d (zae ((zbj l []).getD [])),.d (.bool (zbj l []).isSome)]) []:=by
 have hpl:=fun(i:Nat)=>zgg (nth l i).pat
 refine bd Tryz.f68 32 [4] [] fun w0 F0 own kept hk=>?_
 refine Walk.assignNil 9 6 .none rfl rfl ?_
 refine tv ?_
 refine CWp.loopX (ι:=Nat×List Pat) hk (fun s=>[(11,.d (.i (s.1:Int))),(4,.gl 9 (Pat.cs s.2))]) [2,3,6,7,8,12,13,14,15,16,17,18,19,20,21,22,23,24,25,26,27,28,29,30] (fun s=>[(9,some (.tok ((Pat.cs s.2)).length 6))]) (fun s=>s.1≤l.length∧zbj (l.drop s.1) s.2=zbj l []∧s.2.length≤40*s.1) (fun s=>l.length-s.1) (0,[]) ⟨by simp,rfl,by simp⟩ ⟨⟨_,rfl,LeA.eqi ?_⟩,⟨⟨_,rfl,LeA.glg ?_⟩,trivial⟩⟩ ⟨zaa ?_,trivial⟩ (fun x=>rfl) (fun s hg1=>?_)
 iterate 3 focus (first|rfl|(rw[if_pos (by assumption),Pat.cs_cd,Pat.cs_cd,Pat.cs_cd,List.map_append];done)|(rw[if_neg (by assumption)];done)|(rw[if_pos (by assumption)];simp[Pat.cs_len];done)|(rw[if_neg (by assumption)];simp[Pat.cs_len];done)|(simp;done)|omega|(simp;omega))
 refine evc [4] [] ?_
 refine sq (fun h1 h1p h1s=>?_) fun h1 h1p h1s=>?_
 try simp only[Q,Pat.cs_len] at h1p
 refine Walk.idx sl28 .none rfl rfl rfl rfl (zaq (by omega)) rfl ?_
 refine evs [4] [] ?_
 refine Walk.alloc (id:=3006) tz60 rfl .none rfl rfl rfl rfl ?_
 refine Walk.store ty60 .none rfl rfl rfl rfl rfl rfl (by simp) rfl ?_
 refine tv ?_
 refine sq (fun h2 h2p h2s=>?_) fun h2 h2p h2s=>?_
 try simp only[Q,Pat.cs_len] at h2p
 refine ar ?_
 refine Exists.intro ((s.1+1,if (nth l s.1).g.op=0 then s.2++zcI (nth l s.1).pat else s.2)) ⟨(by
    have h9:=hpl s.1
    by_cases hz:(nth l s.1).g.op=0
    ·refine⟨by dsimp only;omega, ?_, ?_⟩
     ·dsimp only
      rw[if_pos hz,←zfy (out:=s.2) (by omega) hz (by simp_all)];exact hg1.2.1
     ·dsimp only
      rw[if_pos hz,List.length_append];omega
    ·refine⟨by dsimp only;omega, ?_, ?_⟩
     ·dsimp only
      rw[if_neg hz,←zfA (out:=s.2) (by omega) hz];exact hg1.2.1
     ·dsimp only
      rw[if_neg hz];omega),(by dsimp only;omega),sx ⟨⟨_,rfl,LeA.eqi ?_⟩,⟨⟨_,rfl,LeA.glg ?_⟩,trivial⟩⟩ ⟨zaa ?_,trivial⟩⟩
 iterate 3 focus (first|rfl|(rw[if_pos (by assumption),Pat.cs_cd,Pat.cs_cd,Pat.cs_cd,List.map_append];done)|(rw[if_neg (by assumption)];done)|(rw[if_pos (by assumption)];simp[Pat.cs_len];done)|(rw[if_neg (by assumption)];simp[Pat.cs_len];done)|(simp;done)|omega|(simp;omega))
 try simp only[Q,Pat.cs_len] at h2p
 refine wc ztQ (znH (hc _ (zaf (i:=s.1) (by omega))).1 (hc _ (zaf (by omega))).2) rfl rfl ?_
 refine evs [4] [] ?_
 refine sq (fun h3 h3p h3s=>?_) fun h3 h3p h3s=>?_
 try simp only[Q,Pat.cs_len] at h3p
 refine rn0 (r2 rfl rfl) (.tup (.cons (.nild ?_) (.cons (.eqd ?_) .nil)))
 rotate_left 2
 try simp only[Q,Pat.cs_len] at h3p
 refine Walk.append sl45 zz56 rfl .none rfl rfl rfl rfl (zaw rfl (by first|rfl|(simp;done)|(simp;omega))) (by exact zbb _) (by have:=hpl s.1;simp only[Pat.cs_len];omega) (by have:=hpl s.1;simp only[Pat.cs_len];omega) ?_
 refine asg ?_
 refine tv ?_
 refine ar ?_
 refine Exists.intro ((s.1+1,if (nth l s.1).g.op=0 then s.2++zcI (nth l s.1).pat else s.2)) ⟨(by
    have h9:=hpl s.1
    by_cases hz:(nth l s.1).g.op=0
    ·refine⟨by dsimp only;omega, ?_, ?_⟩
     ·dsimp only
      rw[if_pos hz,←zfy (out:=s.2) (by omega) hz (by simp_all)];exact hg1.2.1
     ·dsimp only
      rw[if_pos hz,List.length_append];omega
    ·refine⟨by dsimp only;omega, ?_, ?_⟩
     ·dsimp only
      rw[if_neg hz,←zfA (out:=s.2) (by omega) hz];exact hg1.2.1
     ·dsimp only
      rw[if_neg hz];omega),(by dsimp only;omega),sx ⟨⟨_,rfl,LeA.eqi ?_⟩,⟨⟨_,rfl,LeA.glg ?_⟩,trivial⟩⟩ ⟨zaa ?_,trivial⟩⟩
 iterate 3 focus (first|rfl|(rw[if_pos (by assumption),Pat.cs_cd,Pat.cs_cd,Pat.cs_cd,List.map_append];done)|(rw[if_neg (by assumption)];done)|(rw[if_pos (by assumption)];simp[Pat.cs_len];done)|(rw[if_neg (by assumption)];simp[Pat.cs_len];done)|(simp;done)|omega|(simp;omega))
 try simp only[Q,Pat.cs_len] at h1p
 refine rn0 (r2 rfl rfl) (.tup (.cons (.gld ?_) (.cons (.eqd ?_) .nil)))
 rotate_left 2
 all_goals (first|rfl|(rw[←hg1.2.1,zk4 (by omega) (by first|assumption|(simp_all;done)) (by assumption)];rfl)|(rw[←hg1.2.1,zk5 (by omega)];rfl))
theorem zkp {w:List Data} (hs:Spa w){f:Nat→Nat}{ta tk:Int} (ht:InS (w.length*4) ⟨ta,tk⟩){p:Pat} (hp:p.ok):
  FnD Tryz.prog 118 [.agg [.d (.i p.op),.d (.i p.ctor),.d (.i p.n),.d (.i p.m),.d (.i p.var),.d (zae p.kids)],.ref 3004 0,.ref 3005 0] [(3004,some (.box [.d (sPtr w f)])),(3005,some (.box [.d (.i ta),.d (.i tk)]))] (.d (.bool (!isP w ⟨ta,tk⟩ p))) []:=by
 refine bd Tryz.f118 13 [] [] fun w0 F0 own kept hk=>?_
 refine Walk.box (id:=3001) .none rfl rfl rfl rfl rfl rfl rfl ?_
 refine ev ?_
 refine wc ztU (zjU hs.dp.wt (zb6 ht) hp) rfl rfl ?_
 refine evd [] [] ?_
 refine dr ?_
 refine rn [] (r1 rfl) (.eqd ?_) ⟨rfl,rfl⟩ (SubH.get ⟨rfl,⟨rfl,trivial⟩⟩) (fun _ h=>h)
 rotate_left
 all_goals (rfl)
theorem zmx {w:List Data} (hs:Spa w){f:Nat→Nat}{ta tk:Int} (ht:InS (w.length*4) ⟨ta,tk⟩){l:List Pat}{ok:Bool} (hl:∀a∈l,a.ok) (hb:l.length≤1000000000000):
  FnD Tryz.prog 71 [.d (sPtr w f),.agg [.d (.i ta),.d (.i tk)],.d (zae l),.d (.bool ok)] [] (.tup [.d (zae (if (ok&&l.all (isP w ⟨ta,tk⟩))=true then l else [])),.d (.bool (ok&&l.all (isP w ⟨ta,tk⟩)))]) []:=by
 have hall:(l.any fun p=> !isP w ⟨ta,tk⟩ p) = !(l.all (isP w ⟨ta,tk⟩)):=by
  induction l with
  |nil=>rfl
  |cons x r ih=>rw[List.any_cons,List.all_cons,ih (fun a ha=>hl a (by simp[ha])) (by simp at hb;omega),Bool.not_and]
 have hcf:=zfZ (xs:=l) (p:=fun p=> !isP w ⟨ta,tk⟩ p) (caps:=[.ref 3004 0,.ref 3005 0]) (hp:=[(3004,some (.box [.d (sPtr w f)])),(3005,some (.box [.d (.i ta),.d (.i tk)]))]) hb ztT (fun q hq=>zkp hs ht (hl q hq)) ⟨rfl,rfl,trivial⟩ rfl rfl
 rw[hall] at hcf
 clear hall
 generalize l.all (isP w ⟨ta,tk⟩)=q at hcf ⊢
 refine bd Tryz.f71 19 [] [] fun w0 F0 own kept hk=>?_
 refine Walk.box (id:=3004) .none rfl rfl rfl rfl rfl rfl rfl ?_
 refine Walk.box (id:=3005) .none rfl rfl rfl rfl rfl rfl rfl ?_
 refine ev ?_
 refine sq (fun h1 h1p h1s=>?_) fun h1 h1p h1s=>?_
 try simp only[Q] at h1p
 refine sqT ?_
 refine rn0 (r2 rfl rfl) (.tup (.cons (.nild ?_) (.cons (.eqd ?_) .nil)))
 rotate_left 2
 try simp only[Q] at h1p
 refine Walk.closure (xs:=[_,_]) rfl (.some rfl rfl h1) rfl rfl ?_
 refine Walk.call (cr:=[]) ztS (hcf) rfl (.some rfl rfl h1) rfl rfl (LeL.refl _) ⟨rfl,rfl,trivial⟩ rfl rfl rfl ?_
 refine evs [] [(12,false)] ?_ ⟨⟨_,rfl,h1⟩,trivial⟩
 refine sq (fun h3 h3p h3s=>?_) fun h3 h3p h3s=>?_
 try simp only[Q] at h3p
 refine rn0 (r2 rfl rfl) (.tup (.cons (.nild ?_) (.cons (.eqd ?_) .nil)))
 rotate_left 2
 try simp only[Q] at h3p
 refine wc ztV (ziJ hb hl) rfl rfl ?_
 refine ev ?_
 refine rn0 (r2 rfl rfl) (.tup (.cons (.eqd ?_) (.cons (.eqd ?_) .nil)))
 rotate_left 2
 all_goals (first|rfl|(cases ok<;>cases q<;>first|rfl|(exfalso;simp_all;done)))
theorem zm0 {w:List Data}{t:Ty}{l:List Cl} (h:zba w t l=true) (hl:ClsOk l):∀c∈l,zau w 10 t c.pat=true∧c.pat.ok:=fun c hc=>by
 unfold zba at h
 simp only[Bool.and_eq_true,Bool.not_eq_true',List.any_eq_false,Bool.not_eq_true] at h
 have h4:clOk w t c=true:=by simpa using h.2.2 c hc
 unfold clOk isP at h4
 simp only[Bool.and_eq_true] at h4
 exact⟨h4.1.1,hl.2 c hc⟩
theorem zg5 {w:List Data}{t:Ty}:∀a∈[anyQ],zak w 11 t a=true:=fun a ha=>by
 rw[List.mem_singleton.1 ha];exact ziO
theorem zg2 {w:List Data} (hs:WSmall w){a k:Int}{l:List Cl} (hl:ClsOk l):
  FnD Tryz.prog 26 [.d (zal w),.agg [.d (.i a),.d (.i k)],.d (zbg l)] [] (.tup [.d (zae ((zbx w ⟨a,k⟩ l).getD [])),.d (.bool (zbx w ⟨a,k⟩ l).isSome)]) []:=by
 have hcv:=zii hs (a:=a) (k:=k) hl
 by_cases hv:zba w ⟨a,k⟩ l=true
 ·have hm:zbx w ⟨a,k⟩ l=zds w ⟨a,k⟩ l:=by unfold zbx;rw[if_pos hv]
  rw[hm]
  have htv:=zjD hv
  have hsp:=zpl hs (zea htv.1).1
  have hsh:=zm0 hv hl
  have hin:InS (w.length*4) ⟨a,k⟩:=by
   obtain⟨_,_,h3⟩:=zea htv.1
   by_cases ha:a = -1
   ·exact .inl ha
   ·obtain⟨h4,h5,h6,h7⟩:=h3 ha
    have:=zrC (n:=w.length) h5 (j:=k.toNat) (by omega)
    rwa [Int.toNat_of_nonneg h4,Int.toNat_of_nonneg h6] at this
  have hco:=zkk (w:=w) (t:=⟨a,k⟩) htv.2 hsh
  cases hq:zbj l [] with
  |none=>
   have e:zds w ⟨a,k⟩ l=none:=by unfold zds;rw[hq]
   rw[hq] at hco
   rw[e]
   refine bd Tryz.f26 42 [] [] fun w0 F0 own kept hk=>?_
   refine Walk.box (id:=3004) .none rfl rfl rfl rfl rfl rfl rfl ?_
   refine ev ?_
   refine wc zqi (hcv) rfl rfl ?_
   refine ev ?_
   refine sq (fun h1 h1p h1s=>?_) fun h1 h1p h1s=>?_
   try simp only[Q] at h1p
   exfalso;rw[hv] at h1;exact absurd h1 (by simp)
   try simp only[Q] at h1p
   refine wc zsQ (hco) rfl rfl ?_
   refine ev ?_
   refine sq (fun h2 h2p h2s=>?_) fun h2 h2p h2s=>?_
   try simp only[Q] at h2p
   refine rn0 (r2 rfl rfl) (.tup (.cons (.nild ?_) (.cons (.eqd ?_) .nil)))
   rotate_left 2
   try simp only[Q] at h2p
   exfalso;exact absurd h2 (by simp)
   all_goals (rfl)
  |some away=>
   rw[hq] at hco
   obtain⟨p1,p2⟩:=zfz l [] away (fun c hc=>(hsh c hc).1) (by simp) hq
   have hwo:=zlj hsp hin (l:=[anyQ]) (away:=away) zg5 p2 (by simp) (by simp at p1;omega)
   have hrl:(zaE w ⟨a,k⟩ [anyQ] away).isSome=true→((zaE w ⟨a,k⟩ [anyQ] away).getD []).length≤400∧∀x∈(zaE w ⟨a,k⟩ [anyQ] away).getD [],zak w 11 ⟨a,k⟩ x=true:=fun h=>by
    cases hw:zaE w ⟨a,k⟩ [anyQ] away with
    |none=>rw[hw] at h;cases h
    |some r=>exact zf1 away _ r (fun x hx=>zg5 x (List.mem_filter.1 hx).1) (Nat.le_trans (List.length_filter_le _ _) (by simp)) p2 hw
   have hrl2:((zaE w ⟨a,k⟩ [anyQ] away).getD []).length≤400∧∀x∈(zaE w ⟨a,k⟩ [anyQ] away).getD [],x.ok:=by
    cases hw:zaE w ⟨a,k⟩ [anyQ] away with
    |none=>exact⟨by simp,by simp⟩
    |some r=>
     have:=hrl (by rw[hw];rfl)
     rw[hw] at this
     exact⟨this.1,fun x hx=>(zgA hsp 11 hin (this.2 x hx)).1⟩
   have hre:=zmx hsp (f:=zaj w) hin (l:=(zaE w ⟨a,k⟩ [anyQ] away).getD []) (ok:=(zaE w ⟨a,k⟩ [anyQ] away).isSome) hrl2.2 (by omega)
   have e:zds w ⟨a,k⟩ l=if ((zaE w ⟨a,k⟩ [anyQ] away).isSome&&((zaE w ⟨a,k⟩ [anyQ] away).getD []).all (isP w ⟨a,k⟩))=true then some ((zaE w ⟨a,k⟩ [anyQ] away).getD []) else none:=by
    unfold zds
    rw[hq]
    cases hw:zaE w ⟨a,k⟩ [anyQ] away with
    |none=>simp[hw]
    |some r=>simp[hw]
   rw[e]
   generalize ((zaE w ⟨a,k⟩ [anyQ] away).isSome&&((zaE w ⟨a,k⟩ [anyQ] away).getD []).all (isP w ⟨a,k⟩))=q at hre ⊢
   refine bd Tryz.f26 42 [] [] fun w0 F0 own kept hk=>?_
   refine Walk.box (id:=3004) .none rfl rfl rfl rfl rfl rfl rfl ?_
   refine ev ?_
   refine wc zqi (hcv) rfl rfl ?_
   refine ev ?_
   refine sq (fun h1 h1p h1s=>?_) fun h1 h1p h1s=>?_
   try simp only[Q] at h1p
   exfalso;rw[hv] at h1;exact absurd h1 (by simp)
   try simp only[Q] at h1p
   refine wc zsQ (hco) rfl rfl ?_
   refine ev ?_
   refine sq (fun h2 h2p h2s=>?_) fun h2 h2p h2s=>?_
   try simp only[Q] at h2p
   exfalso;exact absurd h2 (by simp)
   try simp only[Q] at h2p
   refine wc zu6 (zjT hsp.dp) rfl rfl ?_
   refine ev ?_
   refine wc zkY (zcF) rfl rfl ?_
   refine Walk.sliceLit sl45 tz56 rfl (by decide) (ks:=[0]) (xs:=[_]) rfl rfl (by decide) (by decide) .none rfl rfl rfl rfl ?_
   refine evd [] [] ?_
   refine wc zu7 (hwo) rfl rfl ?_
   refine evd [] [] ?_
   refine dr ?_
   refine wc zu8 (hre) rfl rfl ?_
   refine ev ?_
   refine rn0 (r2 rfl rfl) (.tup (.cons (.eqd ?_) (.cons (.eqd ?_) .nil)))
   rotate_left 2
   all_goals (first|rfl|(cases q<;>rfl))
 ·have hv':zba w ⟨a,k⟩ l=false:=by simpa using hv
  have hm:zbx w ⟨a,k⟩ l=none:=by unfold zbx;rw[if_neg hv]
  rw[hm]
  rw[hv'] at hcv
  refine bd Tryz.f26 42 [] [] fun w0 F0 own kept hk=>?_
  refine Walk.box (id:=3004) .none rfl rfl rfl rfl rfl rfl rfl ?_
  refine ev ?_
  refine wc zqi (hcv) rfl rfl ?_
  refine ev ?_
  refine sq (fun h1 h1p h1s=>?_) fun h1 h1p h1s=>?_
  try simp only[Q] at h1p
  refine rn0 (r2 rfl rfl) (.tup (.cons (.nild ?_) (.cons (.eqd ?_) .nil)))
  rotate_left 2
  try simp only[Q] at h1p
  exfalso;exact absurd h1 (by simp)
  all_goals (rfl)
def exhQ (w:List Data) (t:Ty) (l:List Cl):Bool:=(zbx w t l).isSome&&decide (((zbx w t l).getD []).length=0)
theorem zi5 {w:List Data} (hs:WSmall w){a k:Int}{l:List Cl} (hl:ClsOk l):
  FnD Tryz.prog 35 [.d (zal w),.agg [.d (.i a),.d (.i k)],.d (zbg l)] [] (.tup [.d (.bool (exhQ w ⟨a,k⟩ l)),.d (.bool (zbx w ⟨a,k⟩ l).isSome)]) []:=by
 have hmp:=zg2 hs (a:=a) (k:=k) hl
 unfold exhQ
 generalize zbx w ⟨a,k⟩ l=m at *
 refine bd Tryz.f35 24 [] [] fun w0 F0 own kept hk=>?_
 refine Walk.box (id:=3004) .none rfl rfl rfl rfl rfl rfl rfl ?_
 refine ev ?_
 refine wc zu2 (hmp) rfl rfl ?_
 refine ev ?_
 refine sq (fun h1 h1p h1s=>?_) fun h1 h1p h1s=>?_
 try simp only[Q,Pat.cs_len,Int.natCast_inj] at h1p
 refine rn0 (r2 rfl rfl) (.tup (.cons (.eqd ?_) (.cons (.eqd ?_) .nil)))
 rotate_left 2
 try simp only[Q,Pat.cs_len,Int.natCast_inj] at h1p
 refine rn0 (r2 rfl rfl) (.tup (.cons (.eqd ?_) (.cons (.eqd ?_) .nil)))
 rotate_left 2
 all_goals (first|rfl|(simp_all[Pat.cs_len];done)|(cases m<;>simp_all[Pat.cs_len];done)|(cases m<;>simp[Pat.cs_len] at *;done))
def zll (w:List Data) (t:Ty) (b a:Pat):List Pat:=(zav w 10 t a b).filter (zbK w t)
def zez (w:List Data) (t:Ty) (l:List Pat) (b:Pat) (k:Nat):List Pat:=(l.take k).flatMap (zll w t b)
theorem zlx {w:List Data}{t:Ty}{l:List Pat}{b:Pat}:zb3 w t l b=l.flatMap (zll w t b):=by
 unfold zb3
 induction l with
 |nil=>rfl
 |cons x r ih=>rw[List.flatMap_cons,List.filter_append,List.flatMap_cons,ih];rfl
theorem za3 {w:List Data}{t:Ty}{l:List Pat}{b:Pat}{k:Nat} (h:l.length≤k):zez w t l b k=zb3 w t l b:=by
 rw[zlx,zez,List.take_of_length_le h]
theorem zgc {w:List Data}{t:Ty}{l:List Pat}{b:Pat}{k:Nat} (h:k<l.length):zez w t l b (k+1)=zez w t l b k++zll w t b (nth l k):=by
 unfold zez
 have e:l[k]?=some (nth l k):=by simpa using zaq (f:=id) h
 rw[List.take_add_one,e,List.flatMap_append]
 simp
theorem zsr {w:List Data}{t:Ty}{l:List Pat}{b:Pat} (k:Nat):(zez w t l b k).length≤(zb3 w t l b).length:=by
 rw[zlx,zez]
 conv=>rhs;rw[←List.take_append_drop k l,List.flatMap_append]
 rw[List.length_append];omega
theorem zhl {w:List Data} (hs:Spa w):∀(n:Nat){ta tk:Int}{p:Pat},InS (w.length*4) ⟨ta,tk⟩→zak w n ⟨ta,tk⟩ p=true→
  FnD Tryz.prog 250 [.d (zal w),.d (zfK (w.length*4) (zaj w)),.agg [.d (.i ta),.d (.i tk)],.agg [.d (.i (p).op),.d (.i (p).ctor),.d (.i (p).n),.d (.i (p).m),.d (.i (p).var),.d (zae (p).kids)]] [] (.d (.bool (!za5 w (zaj w) n ⟨ta,tk⟩ p))) []
 |0,ta,tk,p,_,h=>by simp[zak] at h
 |n+1,ta,tk,p,ht,h=>by
  have hdp:=zdY (f:=zaj w) ht (by have:=hs.dp.four;omega)
  by_cases h1:p.op=1
  ·rw[zhG h1]
   refine bd Tryz.f250 45 [] [] fun w0 F0 own kept hk=>?_
   refine Walk.box (id:=3006) .none rfl rfl rfl rfl rfl rfl rfl ?_
   refine Walk.box (id:=3007) .none rfl rfl rfl rfl rfl rfl rfl ?_
   refine ev ?_
   refine sq (fun h1 h1p h1s=>?_) fun h1 h1p h1s=>?_
   try simp only[Q] at h1p
   refine wc ziS (hdp) rfl rfl ?_
   refine ev ?_
   refine rn0 (r1 rfl) (.eqd ?_)
   rotate_left
   try simp only[Q] at h1p
   exfalso;omega
   all_goals (refine congrArg D.bool ?_;rw[Bool.eq_iff_iff];simp;omega)
  by_cases h3:p.op=3
  ·rw[zmn h h3]
   refine bd Tryz.f250 45 [] [] fun w0 F0 own kept hk=>?_
   refine Walk.box (id:=3006) .none rfl rfl rfl rfl rfl rfl rfl ?_
   refine Walk.box (id:=3007) .none rfl rfl rfl rfl rfl rfl rfl ?_
   refine ev ?_
   refine sq (fun h1 h1p h1s=>?_) fun h1 h1p h1s=>?_
   try simp only[Q] at h1p
   exfalso;omega
   try simp only[Q] at h1p
   refine sq (fun h2 h2p h2s=>?_) fun h2 h2p h2s=>?_
   try simp only[Q] at h2p
   refine rn0 (r1 rfl) (.eqd ?_)
   rotate_left
   try simp only[Q] at h2p
   exfalso;omega
   all_goals (rfl)
  have h4:p.op=4:=by have:=zca h;omega
  obtain⟨c1,c2,c3,-⟩:=za4 h h4
  have h3l:=hs.args ⟨ta,tk⟩ p.ctor ht c1
  have hk:=fun i (hi:i<p.kids.length)=>zbr h hi
  rw[zbD h4] at hk
  rw[zmo h4,Bool.not_not]
  have ih:=fun i (hi:i<p.kids.length)=>zhl hs n (ta:=(nth (zab w ⟨ta,tk⟩ p.ctor) i).data) (tk:=(nth (zab w ⟨ta,tk⟩ p.ctor) i).index) (p:=nth p.kids i) (zbY hs.dp ht c1 _ (zaf (by omega))) (hk i hi)
  refine bd Tryz.f250 45 [] [] fun w0 F0 own kept hk=>?_
  refine Walk.box (id:=3006) .none rfl rfl rfl rfl rfl rfl rfl ?_
  refine Walk.box (id:=3007) .none rfl rfl rfl rfl rfl rfl rfl ?_
  refine ev ?_
  refine sq (fun h1 h1p h1s=>?_) fun h1 h1p h1s=>?_
  try simp only[Q,Pat.cs_len] at h1p
  exfalso;omega
  try simp only[Q,Pat.cs_len] at h1p
  refine sq (fun h2 h2p h2s=>?_) fun h2 h2p h2s=>?_
  try simp only[Q,Pat.cs_len] at h2p
  exfalso;omega
  try simp only[Q,Pat.cs_len] at h2p
  refine wc zfJ (zcq hs.dp.wt (zb6 ht) c1) rfl rfl ?_
  refine ev ?_
  refine CWp.loopX (ι:=Nat) hk (fun i=>[(10,.d (.i (i:Int)))]) [8,26,27,28,29,30,31,32,33,34,35,36,37,38,39,40,41,42,43,44] (fun i=>[]) (fun i=>i≤(zab w ⟨ta,tk⟩ p.ctor).length∧∀i',i'<i→(!za5 w (zaj w) n (nth (zab w ⟨ta,tk⟩ p.ctor) i') (nth p.kids i'))=true) (fun i=>(zab w ⟨ta,tk⟩ p.ctor).length-i) 0 ⟨by omega,fun _ h=>absurd h (by omega)⟩ ⟨⟨_,rfl,LeA.eqi ?_⟩,trivial⟩ trivial (fun x=>rfl) (fun i hg1=>?_)
  focus (first|rfl|(simp;done)|(simp_all;done)|omega)
  refine evc [] [] ?_
  refine sq (fun h3 h3p h3s=>?_) fun h3 h3p h3s=>?_
  try simp only[Q,Pat.cs_len] at h3p
  refine Walk.idx zaZ .none rfl rfl rfl rfl (zaq (by omega)) rfl ?_
  refine evd [] [] ?_
  refine Walk.idx sl45 .none rfl rfl rfl rfl (zaH (by omega)) rfl ?_
  refine evd [] [] ?_
  refine wc zrc (ih i (by omega)) rfl rfl ?_
  refine evd [] [] ?_
  refine dr ?_
  refine sq (fun h4 h4p h4s=>?_) fun h4 h4p h4s=>?_
  try simp only[Q,Pat.cs_len] at h4p
  refine rn0 (r1 rfl) (.eqd ?_)
  rotate_left
  try simp only[Q,Pat.cs_len] at h4p
  refine ar ?_
  refine Exists.intro (i+1) ⟨⟨by omega,za9 hg1.2 (by first|assumption|(simp;assumption)|(simp_all;done))⟩,(by omega),sx ⟨⟨_,rfl,LeA.eqi ?_⟩,trivial⟩ trivial⟩
  focus (first|rfl|(simp;done)|(simp_all;done)|omega)
  try simp only[Q,Pat.cs_len] at h3p
  refine rn0 (r1 rfl) (.eqd ?_)
  rotate_left
  all_goals (refine congrArg D.bool ?_;first|(rw[zb7 (i:=i) (by omega) (by omega) (by first|assumption|(simp;assumption)|(simp_all;done))];done)|(rw[zcN (by omega) (fun x hx=>hg1.2 x (by omega))];done))
theorem zhU {w:List Data} (hs:Spa w){ta tk:Int} (ht:InS (w.length*4) ⟨ta,tk⟩){l:List Pat} (hl:∀a∈l,zak w 11 ⟨ta,tk⟩ a=true) (hb:l.length≤20000000):
  FnD Tryz.prog 197 [.d (zal w),.d (zfK (w.length*4) (zaj w)),.agg [.d (.i ta),.d (.i tk)],.d (zae l)] [] (.d (zae (l.filter (zbK w ⟨ta,tk⟩)))) []:=by
 have hal:∀a∈l,FnD Tryz.prog 250 [.d (zal w),.d (zfK (w.length*4) (zaj w)),.agg [.d (.i ta),.d (.i tk)],.agg [.d (.i (a).op),.d (.i (a).ctor),.d (.i (a).n),.d (.i (a).m),.d (.i (a).var),.d (zae (a).kids)]] [] (.d (.bool (zbK w ⟨ta,tk⟩ a))) []:=fun a ha=>zhl hs 11 ht (hl a ha)
 have hle:∀ {pre rest:List Pat}{y:Pat},pre++y::rest=l→(pre.filter (zbK w ⟨ta,tk⟩)).length+1≤l.length:=fun {pre rest y} h=>by
  have h1:=List.length_filter_le (zbK w ⟨ta,tk⟩) pre
  have h2:=congrArg List.length h
  simp only[List.length_append,List.length_cons] at h2
  omega
 refine bd Tryz.f197 34 [] [] fun w0 F0 own kept hk=>?_
 refine Walk.box (id:=3006) .none rfl rfl rfl rfl rfl rfl rfl ?_
 refine ev ?_
 refine Walk.sliceEmptyG 9 sl45 .none rfl rfl ?_
 refine ev ?_
 refine CWp.loopX (ι:=List (Pat)×List (Pat)) hk (fun x=>[(10,.d (.i (x.1.length:Int))),(9,.gl 9 (Pat.cs (x.1.filter (zbK w ⟨ta,tk⟩))))]) [12,13,14,15,16,17,18,19,20,21,22,23,24,25,26,27,28,29,30,31,32] (fun x=>[(9,some (.tok ((Pat.cs (x.1.filter (zbK w ⟨ta,tk⟩)))).length 6))]) (fun x=>x.1++x.2=l) (fun x=>x.2.length) ([],l) (by simp) ⟨⟨_,rfl,LeA.eqi ?_⟩,⟨⟨_,rfl,LeA.glg ?_⟩,trivial⟩⟩ ⟨zaa ?_,trivial⟩ (fun x=>rfl) (fun x hg1=>?_)
 iterate 3 focus (first|rfl|(dsimp only;rw[List.filter_append,List.filter_cons_of_pos (by assumption),List.filter_nil,Pat.cs_cd (List.filter _ _),Pat.cs_cd (_++_),List.map_append];rfl)|(dsimp only;rw[List.filter_append,List.filter_cons_of_neg (by simp_all),List.filter_nil,List.append_nil];done)|(dsimp only;rw[List.filter_append,List.filter_cons_of_pos (by assumption),List.filter_nil];simp[Pat.cs_len];done)|(simp;done)|omega|(simp;omega))
 obtain⟨pre,rest⟩:=x
 dsimp only at hg1 ⊢
 refine evc [] [] ?_
 refine sq (fun h1 h1p h1s=>?_) fun h1 h1p h1s=>?_
 try simp only[Q,Pat.cs_len] at h1p
 rcases rest with _|⟨y,rest⟩
 ·exfalso;simp_all
 refine Walk.idx sl45 .none rfl rfl rfl rfl (Pat.cs_at' hg1) rfl ?_
 refine evd [] [] ?_
 refine wc zrc (hal y (by rw[←hg1];simp)) rfl rfl ?_
 refine dr ?_
 refine sq (fun h2 h2p h2s=>?_) fun h2 h2p h2s=>?_
 try simp only[Q,Pat.cs_len] at h2p
 refine Walk.idx sl45 .none rfl rfl rfl rfl (Pat.cs_at' hg1) rfl ?_
 refine ev ?_
 refine Walk.sliceLit sl45 tz56 rfl (by decide) (ks:=[0]) (xs:=[_]) rfl rfl (by decide) (by decide) .none rfl rfl rfl rfl ?_
 refine Walk.append sl45 zz56 rfl .none rfl rfl rfl rfl (zaw rfl (by first|rfl|(simp;done)|(simp;omega))) (by intro x hx;simp at hx;subst hx;rfl) (by have h9:=hle hg1;simp[Pat.cs_len];omega) (by have h9:=hle hg1;simp[Pat.cs_len];omega) ?_
 refine ev ?_
 refine ar ?_
 refine Exists.intro ((pre++[y],rest)) ⟨(by have hz:=hg1;rw[←hz];simp),(by simp),sx ⟨⟨_,rfl,LeA.eqi ?_⟩,⟨⟨_,rfl,LeA.glg ?_⟩,trivial⟩⟩ ⟨zaa ?_,trivial⟩⟩
 iterate 3 focus (first|rfl|(dsimp only;rw[List.filter_append,List.filter_cons_of_pos (by assumption),List.filter_nil,Pat.cs_cd (List.filter _ _),Pat.cs_cd (_++_),List.map_append];rfl)|(dsimp only;rw[List.filter_append,List.filter_cons_of_neg (by simp_all),List.filter_nil,List.append_nil];done)|(dsimp only;rw[List.filter_append,List.filter_cons_of_pos (by assumption),List.filter_nil];simp[Pat.cs_len];done)|(simp;done)|omega|(simp;omega))
 try simp only[Q,Pat.cs_len] at h2p
 refine ar ?_
 refine Exists.intro ((pre++[y],rest)) ⟨(by have hz:=hg1;rw[←hz];simp),(by simp),sx ⟨⟨_,rfl,LeA.eqi ?_⟩,⟨⟨_,rfl,LeA.glg ?_⟩,trivial⟩⟩ ⟨zaa ?_,trivial⟩⟩
 iterate 3 focus (first|rfl|(dsimp only;rw[List.filter_append,List.filter_cons_of_pos (by assumption),List.filter_nil,Pat.cs_cd (List.filter _ _),Pat.cs_cd (_++_),List.map_append];rfl)|(dsimp only;rw[List.filter_append,List.filter_cons_of_neg (by simp_all),List.filter_nil,List.append_nil];done)|(dsimp only;rw[List.filter_append,List.filter_cons_of_pos (by assumption),List.filter_nil];simp[Pat.cs_len];done)|(simp;done)|omega|(simp;omega))
 try simp only[Q,Pat.cs_len] at h1p
 have hrest:rest=[]:=by
  rcases rest with _|⟨a,b⟩
  ·rfl
  ·exfalso;have hz:=congrArg List.length (hg1);simp only[List.length_append,List.length_cons,List.length_map] at hz;omega
 subst hrest
 refine rn0 (r1 rfl) (.gld ?_)
 rotate_left
 all_goals (first|rfl|(rw[List.append_nil] at hg1;rw[hg1];done))
theorem zjv {w:List Data} (hs:Spa w){ta tk:Int} (ht:InS (w.length*4) ⟨ta,tk⟩){l away:List Pat} (hl:∀a∈l,zak w 11 ⟨ta,tk⟩ a=true) (hb:∀b∈away,zak w 10 ⟨ta,tk⟩ b=true) (hll:l.length≤400) (hal:away.length≤1000):
  FnD Tryz.prog 124 [.d (zal w),.d (zfK (w.length*4) (zaj w)),.agg [.d (.i ta),.d (.i tk)],.d (zae l),.d (zae away)] [] (.tup [.d (zae ((zaE w ⟨ta,tk⟩ l away).getD [])),.d (.bool (zaE w ⟨ta,tk⟩ l away).isSome)]) []:=by
 have hke:=zr0 hs ht hl hb
 have hmi:∀(c:List Pat) (i k:Nat),(∀a∈c,zak w 11 ⟨ta,tk⟩ a=true)→i<away.length→k<c.length→(zav w 10 ⟨ta,tk⟩ (nth c k) (nth away i)).length≤20000000:=fun c i k hc hi hk=>zfm hs (by omega) (by omega) ht (hc _ (zaf hk)) (hb _ (zaf hi))
 have hkb:∀(c:List Pat) (i k:Nat),(∀a∈c,zak w 11 ⟨ta,tk⟩ a=true)→i<away.length→k<c.length→(zll w ⟨ta,tk⟩ (nth away i) (nth c k)).length≤20000000:=fun c i k hc hi hk=>Nat.le_trans (List.length_filter_le _ _) (hmi c i k hc hi hk)
 rw[←hke]
 have hno:∀(c:List Pat) (i k:Nat),i<away.length→400<(zez w ⟨ta,tk⟩ c (nth away i) k).length→subL w ⟨ta,tk⟩ c (away.drop i)=none:=fun c i k hi h=>by
  have:=zsr (w:=w) (t:=⟨ta,tk⟩) (l:=c) (b:=nth away i) k
  rw[zeS hi,if_neg (by omega)]
 refine bd Tryz.f124 60 [] [] fun w0 F0 own kept hk=>?_
 refine Walk.box (id:=3007) .none rfl rfl rfl rfl rfl rfl rfl ?_
 refine ev ?_
 refine CWp.loopX (ι:=Nat×List Pat) hk (fun s=>[(12,.d (.i (s.1:Int))),(3,.d (zae s.2))]) [10,11,13,14,15,16,17,18,19,20,21,22,23,24,25,26,27,28,29,30,31,32,33,34,35,36,37,38,39,40,41,42,43,44,45,46,47,48,49,50,51,52,53,54] (fun s=>[]) (fun s=>s.1≤away.length∧subL w ⟨ta,tk⟩ s.2 (away.drop s.1)=subL w ⟨ta,tk⟩ l away∧(∀a∈s.2,zak w 11 ⟨ta,tk⟩ a=true)∧s.2.length≤400) (fun s=>away.length-s.1) (0,l) ⟨by simp,rfl,hl,hll⟩ ⟨⟨_,rfl,LeA.eqi ?_⟩,⟨⟨_,rfl, ?_⟩,trivial⟩⟩ trivial (fun x=>rfl) (fun s hg1=>?_)
 focus (first|rfl|(rw[za3 (by omega)];done)|(dsimp only;rw[za3 (by omega)];done)|(simp;done)|omega)
 focus (first|exact LeA.refl _|((first|refine LeA.gld ?_|refine LeA.nild ?_);first|rfl|(rw[za3 (by omega)];done)|(dsimp only;rw[za3 (by omega)];done)|(simp;done)|omega)|(refine LeA.eqsl ?_;first|rfl|(rw[za3 (by omega)];done)|(dsimp only;rw[za3 (by omega)];done)|(simp;done)|omega)|(refine LeA.eqd ?_;first|rfl|(rw[za3 (by omega)];done)|(dsimp only;rw[za3 (by omega)];done)|(simp;done)|omega))
 refine evc [] [] ?_
 refine sq (fun h1 h1p h1s=>?_) fun h1 h1p h1s=>?_
 try simp only[Q,Pat.cs_len] at h1p
 refine Walk.sliceEmptyG 9 sl45 .none rfl rfl ?_
 refine ev ?_
 refine CWp.loopX (ι:=Nat) hk (fun k=>[(14,.d (.i (k:Int))),(13,.gl 9 (Pat.cs (zez w ⟨ta,tk⟩ s.2 (nth away s.1) k)))]) [22,23,24,25,26,27,28,29,30,31,32,33,34,35,36,37,38,39,40,41,42,43,44,45,46,47,48,49] (fun k=>[(9,some (.tok ((Pat.cs (zez w ⟨ta,tk⟩ s.2 (nth away s.1) k))).length 6))]) (fun k=>k≤s.2.length) (fun k=>s.2.length-k) 0 (by omega) ⟨⟨_,rfl,LeA.eqi ?_⟩,⟨⟨_,rfl,LeA.glg ?_⟩,trivial⟩⟩ ⟨zaa ?_,trivial⟩ (fun x=>rfl) (fun k hg2=>?_)
 iterate 3 focus (first|rfl|(simp[zez];done)|(rw[zgc (by omega),Pat.cs_cd,Pat.cs_cd,Pat.cs_cd,List.map_append];done)|(rw[zgc (by omega)];simp[Pat.cs_len];done)|omega|(simp;omega))
 refine evc [] [] ?_
 refine sq (fun h2 h2p h2s=>?_) fun h2 h2p h2s=>?_
 try simp only[Q,Pat.cs_len] at h2p
 refine sq (fun h3 h3p h3s=>?_) fun h3 h3p h3s=>?_
 try simp only[Q,Pat.cs_len] at h3p
 refine Walk.idx sl45 .none rfl rfl rfl rfl (zaH (by omega)) rfl ?_
 refine evd [] [] ?_
 refine Walk.idx sl45 .none rfl rfl rfl rfl (zaH (by omega)) rfl ?_
 refine evd [] [] ?_
 refine wc zoc (zhm hs 10 11 (by omega) (by omega) (by omega) ht (hg1.2.2.1 _ (zaf (by omega))) (hb _ (zaf (by omega)))) rfl rfl ?_
 refine wc zq4 (show FnD _ _ _ _ (.d (zae (zll w ⟨ta,tk⟩ (nth away s.1) (nth s.2 k)))) _ from zhU hs ht (zga 10 11 (by omega) (hg1.2.2.1 _ (zaf (by omega))) (hb _ (zaf (by omega)))) (hmi s.2 s.1 k hg1.2.2.1 (by omega) (by omega))) rfl rfl ?_
 refine Walk.append sl45 zz56 rfl .none rfl rfl rfl rfl (zaw rfl (by first|rfl|(simp;done)|(simp;omega))) (by exact zbb _) (by have h9:=hkb s.2 s.1 k hg1.2.2.1 (by omega) (by omega);simp only[Pat.cs_len];omega) (by have h9:=hkb s.2 s.1 k hg1.2.2.1 (by omega) (by omega);simp only[Pat.cs_len];omega) ?_
 refine evd [] [] ?_
 refine dr ?_
 refine ar ?_
 refine Exists.intro (k+1) ⟨(by omega),(by omega),sx ⟨⟨_,rfl,LeA.eqi ?_⟩,⟨⟨_,rfl,LeA.glg ?_⟩,trivial⟩⟩ ⟨zaa ?_,trivial⟩⟩
 iterate 3 focus (first|rfl|(simp[zez];done)|(rw[zgc (by omega),Pat.cs_cd,Pat.cs_cd,Pat.cs_cd,List.map_append];done)|(rw[zgc (by omega)];simp[Pat.cs_len];done)|omega|(simp;omega))
 try simp only[Q,Pat.cs_len] at h3p
 refine sq (fun h4 h4p h4s=>?_) fun h4 h4p h4s=>?_
 try simp only[Q,Pat.cs_len] at h4p
 refine Walk.sliceEmpty sl45 .none rfl ?_
 refine ev ?_
 refine rn0 (r2 rfl rfl) (.tup (.cons (.eqd ?_) (.cons (.eqd ?_) .nil)))
 rotate_left 2
 try simp only[Q,Pat.cs_len] at h4p
 refine ar ?_
 refine Exists.intro ((s.1+1,zb3 w ⟨ta,tk⟩ s.2 (nth away s.1))) ⟨(by
    have hk:s.2.length≤k:=by omega
    have h4:(zb3 w ⟨ta,tk⟩ s.2 (nth away s.1)).length≤400:=by rw[←za3 hk];omega
    have e:=zeS (w:=w) (t:=⟨ta,tk⟩) (l:=s.2) (away:=away) (i:=s.1) (by omega)
    rw[if_pos h4] at e
    refine⟨by dsimp only;omega, ?_,zgb hg1.2.2.1 (hb _ (zaf (by omega))),h4⟩
    dsimp only
    rw[←e];exact hg1.2.1),(by dsimp only;omega),sx ⟨⟨_,rfl,LeA.eqi ?_⟩,⟨⟨_,rfl, ?_⟩,trivial⟩⟩ trivial⟩
 focus (first|rfl|(rw[za3 (by omega)];done)|(dsimp only;rw[za3 (by omega)];done)|(simp;done)|omega)
 focus (first|exact LeA.refl _|((first|refine LeA.gld ?_|refine LeA.nild ?_);first|rfl|(rw[za3 (by omega)];done)|(dsimp only;rw[za3 (by omega)];done)|(simp;done)|omega)|(refine LeA.eqsl ?_;first|rfl|(rw[za3 (by omega)];done)|(dsimp only;rw[za3 (by omega)];done)|(simp;done)|omega)|(refine LeA.eqd ?_;first|rfl|(rw[za3 (by omega)];done)|(dsimp only;rw[za3 (by omega)];done)|(simp;done)|omega))
 try simp only[Q,Pat.cs_len] at h2p
 refine sqF ?_
 refine sq (fun h6 h6p h6s=>?_) fun h6 h6p h6s=>?_
 try simp only[Q,Pat.cs_len] at h6p
 refine Walk.sliceEmpty sl45 .none rfl ?_
 refine ev ?_
 refine rn0 (r2 rfl rfl) (.tup (.cons (.eqd ?_) (.cons (.eqd ?_) .nil)))
 rotate_left 2
 try simp only[Q,Pat.cs_len] at h6p
 refine ar ?_
 refine Exists.intro ((s.1+1,zb3 w ⟨ta,tk⟩ s.2 (nth away s.1))) ⟨(by
    have hk:s.2.length≤k:=by omega
    have h4:(zb3 w ⟨ta,tk⟩ s.2 (nth away s.1)).length≤400:=by rw[←za3 hk];omega
    have e:=zeS (w:=w) (t:=⟨ta,tk⟩) (l:=s.2) (away:=away) (i:=s.1) (by omega)
    rw[if_pos h4] at e
    refine⟨by dsimp only;omega, ?_,zgb hg1.2.2.1 (hb _ (zaf (by omega))),h4⟩
    dsimp only
    rw[←e];exact hg1.2.1),(by dsimp only;omega),sx ⟨⟨_,rfl,LeA.eqi ?_⟩,⟨⟨_,rfl, ?_⟩,trivial⟩⟩ trivial⟩
 focus (first|rfl|(rw[za3 (by omega)];done)|(dsimp only;rw[za3 (by omega)];done)|(simp;done)|omega)
 focus (first|exact LeA.refl _|((first|refine LeA.gld ?_|refine LeA.nild ?_);first|rfl|(rw[za3 (by omega)];done)|(dsimp only;rw[za3 (by omega)];done)|(simp;done)|omega)|(refine LeA.eqsl ?_;first|rfl|(rw[za3 (by omega)];done)|(dsimp only;rw[za3 (by omega)];done)|(simp;done)|omega)|(refine LeA.eqd ?_;first|rfl|(rw[za3 (by omega)];done)|(dsimp only;rw[za3 (by omega)];done)|(simp;done)|omega))
 try simp only[Q,Pat.cs_len] at h1p
 refine wc zq4 (zhU hs ht hg1.2.2.1 (by omega)) rfl rfl ?_
 refine ev ?_
 refine rn0 (r2 rfl rfl) (.tup (.cons (.eqd ?_) (.cons (.eqd ?_) .nil)))
 rotate_left 2
 all_goals (first|rfl|(rw[←hg1.2.1,hno s.2 s.1 k (by omega) (by omega)];rfl)|(rw[←hg1.2.1,zo9 (by omega)];rfl))
theorem zfs:∀(n:Nat){p:Pat},p.size≤n→p.ok→FnD Tryz.prog 96 [.agg [.d (.i (p).op),.d (.i (p).ctor),.d (.i (p).n),.d (.i (p).m),.d (.i (p).var),.d (zae (p).kids)]] [] (.agg [.d (.i (p).op),.d (.i (p).ctor),.d (.i (p).n),.d (.i (p).m),.d (.i (p).var),.d (zae (p).kids)]) []
 |0,p,h,_=>by rw[Pat.size_eq] at h;omega
 |n+1,p,h,hok=>by
  rw[Pat.size_eq] at h
  rw[Pat.ok_iff] at hok
  have hok1:=hok.1
  refine bd Tryz.f96 26 [] [] fun w0 F0 own kept hk=>?_
  refine Walk.box (id:=3001) .none rfl rfl rfl rfl rfl rfl rfl ?_
  refine Walk.alloc (id:=3002) tz56 rfl .none rfl rfl rfl rfl ?_
  refine tv ?_
  refine Walk.alloc (id:=3003) tz56 rfl .none rfl rfl rfl rfl ?_
  refine Walk.store ty56 .none rfl rfl rfl rfl rfl rfl (by simp) rfl ?_
  refine tv ?_
  refine Walk.store ty45 .none rfl rfl rfl rfl rfl rfl (by simp) rfl ?_
  refine tv ?_
  refine CWp.tokB 3003 5 7 6 rfl rfl rfl rfl ?_
  refine CWp.loopX (ι:=List (Pat)×List (Pat)) hk (fun x=>[(4,.d (.i (x.1.length:Int)))]) [7,8,9,10,11,12,13,14,15,16,17,18,19,20,21,22,23,24] (fun x=>[(3003,some (.box [.d (.i p.op),.d (.i p.ctor),.d (.i p.n),.d (.i p.m),.d (.i p.var),.gl 7 (x.1.map Pat.cc)])),(7,some (.tok (x.1.map Pat.cc).length 6))]) (fun x=>x.1++x.2=p.kids) (fun x=>x.2.length) ([],p.kids) (by simp) ⟨⟨_,rfl,LeA.eqi ?_⟩,trivial⟩ ⟨?_,⟨zaa ?_,trivial⟩⟩ (fun x=>rfl) (fun x hg1=>?_)
  focus (first|rfl|(simp;done)|(simp_all;done)|omega|(simp;omega))
  focus (first|rfl|(simp[getH];done))
  focus (first|rfl|(simp;done)|(simp_all;done)|omega|(simp;omega))
  obtain⟨pre,rest⟩:=x
  dsimp only at hg1 ⊢
  refine evc [] [] ?_
  refine sq (fun h1 h1p h1s=>?_) fun h1 h1p h1s=>?_
  try simp only[Q,Pat.cs_len] at h1p
  rcases rest with _|⟨y,rest⟩
  ·exfalso;simp_all
  refine Walk.idx sl45 .none rfl rfl rfl rfl (Pat.cs_at' hg1) rfl ?_
  refine evd [] [] ?_
  refine wc zqj (zfs n (p:=y) (by have:=Pats.size_mem (l:=p.kids) (v:=y) (by rw[←hg1];simp);omega) (Pats.ok_mem hok.2 y (by rw[←hg1];simp))) rfl rfl ?_
  refine Walk.sliceLit sl45 tz56 rfl (by decide) (ks:=[0]) (xs:=[_]) rfl rfl (by decide) (by decide) .none rfl rfl rfl rfl ?_
  refine Walk.append sl45 zz56 rfl .none rfl rfl rfl rfl (zaw rfl (by first|rfl|(simp;done)|(simp;omega))) (by intro x hx;first|(simp at hx;subst hx;rfl)|exact zby _ x hx) (by have:=congrArg List.length hg1;simp at this;simp;omega) (by have:=congrArg List.length hg1;simp at this;simp;omega) ?_
  refine evd [] [] ?_
  refine Walk.store ty45 .none rfl rfl rfl rfl rfl rfl (by simp) rfl ?_
  refine dr ?_
  refine ar ?_
  refine Exists.intro ((pre++[y],rest)) ⟨(by have hz:=hg1;rw[←hz];simp),(by simp),sx ⟨⟨_,rfl,LeA.eqi ?_⟩,trivial⟩ ⟨?_,⟨zaa ?_,trivial⟩⟩⟩
  focus (first|rfl|(simp;done)|(simp_all;done)|omega|(simp;omega))
  focus (first|rfl|(simp[getH];done))
  focus (first|rfl|(simp;done)|(simp_all;done)|omega|(simp;omega))
  try simp only[Q,Pat.cs_len] at h1p
  have hrest:rest=[]:=by
   rcases rest with _|⟨a,b⟩
   ·rfl
   ·exfalso;have hz:=congrArg List.length (hg1);simp only[List.length_append,List.length_cons,List.length_map] at hz;omega
  subst hrest
  refine Walk.store ty56 .none rfl rfl rfl rfl rfl rfl (by simp) rfl ?_
  refine tv ?_
  refine rn0 (.cons (.cellA ty56 rfl rfl rfl) .nil) (.agg (.cons (.eqd ?_) (.cons (.eqd ?_) (.cons (.eqd ?_) (.cons (.eqd ?_) (.cons (.eqd ?_) (.cons (.gld ?_) .nil)))))))
  rotate_left 6
  all_goals (first|rfl|(rw[List.append_nil] at hg1;rw[←hg1,Pat.cs_cd];done))
theorem znM {l:List Pat} (h:l.length≤1000000000000) (hok:∀p∈l,p.ok):FnD Tryz.prog 201 [.d (zae l)] [] (.d (zae l)) []:=by
 refine bd Tryz.f201 21 [] [] fun w0 F0 own kept hk=>?_
 refine Walk.sliceEmptyG 1 sl45 .none rfl rfl ?_
 refine ev ?_
 refine CWp.loopX (ι:=List (Pat)×List (Pat)) hk (fun x=>[(4,.d (.i (x.1.length:Int))),(3,.gl 1 (x.1.map Pat.cc))]) [6,7,8,9,10,11,12,13,14,15,16,17,18,19] (fun x=>[(1,some (.tok ((x.1.map Pat.cc)).length 6))]) (fun x=>x.1++x.2=l) (fun x=>x.2.length) ([],l) (by simp) ⟨⟨_,rfl,LeA.eqi ?_⟩,⟨⟨_,rfl,LeA.glg ?_⟩,trivial⟩⟩ ⟨zaa ?_,trivial⟩ (fun x=>rfl) (fun x hg1=>?_)
 iterate 3 focus (first|rfl|(simp;done)|(simp_all;done)|omega|(simp;omega))
 obtain⟨pre,rest⟩:=x
 dsimp only at hg1 ⊢
 refine evc [] [] ?_
 refine sq (fun h1 h1p h1s=>?_) fun h1 h1p h1s=>?_
 try simp only[Q,Pat.cs_len] at h1p
 rcases rest with _|⟨y,rest⟩
 ·exfalso;simp_all
 refine Walk.idx sl45 .none rfl rfl rfl rfl (Pat.cs_at' hg1) rfl ?_
 refine ev ?_
 refine wc zqj (zfs _ (Nat.le_refl _) (hok y (by rw[←hg1];simp))) rfl rfl ?_
 refine Walk.sliceLit sl45 tz56 rfl (by decide) (ks:=[0]) (xs:=[_]) rfl rfl (by decide) (by decide) .none rfl rfl rfl rfl ?_
 refine Walk.append sl45 zz56 rfl .none rfl rfl rfl rfl (zaw rfl (by first|rfl|(simp;done)|(simp;omega))) (by intro x hx;simp at hx;subst hx;rfl) (by have:=congrArg List.length hg1;simp at this;simp;omega) (by have:=congrArg List.length hg1;simp at this;simp;omega) ?_
 refine ev ?_
 refine ar ?_
 refine Exists.intro ((pre++[y],rest)) ⟨(by have hz:=hg1;rw[←hz];simp),(by simp),sx ⟨⟨_,rfl,LeA.eqi ?_⟩,⟨⟨_,rfl,LeA.glg ?_⟩,trivial⟩⟩ ⟨zaa ?_,trivial⟩⟩
 iterate 3 focus (first|rfl|(simp;done)|(simp_all;done)|omega|(simp;omega))
 try simp only[Q,Pat.cs_len] at h1p
 have hrest:rest=[]:=by
  rcases rest with _|⟨a,b⟩
  ·rfl
  ·exfalso;have hz:=congrArg List.length (hg1);simp only[List.length_append,List.length_cons,List.length_map] at hz;omega
 subst hrest
 refine rn0 (r1 rfl) (.gld ?_)
 rotate_left
 all_goals (first|rfl|(rw[List.append_nil] at hg1;rw[←hg1,Pat.cs_cd];done))
theorem zns {p:Pat} (h:zcb p=true):za2 (zaM p)=zcI p:=by
 unfold zcb at h
 have h40:=of_decide_eq_true h
 unfold za2 zcI
 rw[if_pos h40,List.take_of_length_le (by omega)]
theorem zrZ {p:Pat}:((40:Int)<((za2 (zaM p)).length:Int))↔zcb p=false:=by
 unfold zcb za2
 rw[List.length_take,decide_eq_false_iff_not]
 omega
theorem zl1 {w:List Data}{t:Ty}{l:List Cl} (hl:l.length≤8) (hc:∀c∈l,zau w 10 t c.pat=true∧c.pat.ok):
  FnD Tryz.prog 123 [.d (zbg l),.d (.i (l.length:Int))] [] (.tup [.d (zae ((zbj l []).getD [])),.d (.bool (zbj l []).isSome)]) []:=by
 have hpl:=fun(i:Nat)=>zgo (zaM (nth l i).pat)
 have hge:=fun(i:Nat)=>zrZ (p:=(nth l i).pat)
 refine bd Tryz.f123 35 [] [] fun w0 F0 own kept hk=>?_
 refine Walk.sliceEmptyG 9 sl45 .none rfl rfl ?_
 refine ev ?_
 refine CWp.loopX (ι:=Nat×List Pat) hk (fun s=>[(7,.d (.i (s.1:Int))),(6,.gl 9 (Pat.cs s.2))]) [4,5,8,10,11,12,13,14,15,16,17,18,19,20,21,22,23,24,25,26,27,28,29,30,31,32,33] (fun s=>[(9,some (.tok ((Pat.cs s.2)).length 6))]) (fun s=>s.1≤l.length∧zbj (l.drop s.1) s.2=zbj l []∧s.2.length≤40*s.1) (fun s=>l.length-s.1) (0,[]) ⟨by simp,rfl,by simp⟩ ⟨⟨_,rfl,LeA.eqi ?_⟩,⟨⟨_,rfl,LeA.glg ?_⟩,trivial⟩⟩ ⟨zaa ?_,trivial⟩ (fun x=>rfl) (fun s hg1=>?_)
 iterate 3 focus (first|rfl|(dsimp only;rw[if_pos (by assumption),Pat.cs_cd,Pat.cs_cd,Pat.cs_cd,List.map_append];done)|(dsimp only;rw[if_neg (by assumption)];done)|(dsimp only;rw[if_pos (by assumption)];simp[Pat.cs_len];done)|(dsimp only;rw[if_neg (by assumption)];simp[Pat.cs_len];done)|(simp;done)|omega|(simp;omega))
 refine evc [] [] ?_
 refine sq (fun h1 h1p h1s=>?_) fun h1 h1p h1s=>?_
 try simp only[Q,Pat.cs_len,Int.natCast_inj] at h1p
 refine Walk.idx sl28 .none rfl rfl rfl rfl (zaq (by omega)) rfl ?_
 refine ev ?_
 refine sq (fun h2 h2p h2s=>?_) fun h2 h2p h2s=>?_
 try simp only[Q,Pat.cs_len,Int.natCast_inj] at h2p
 refine ar ?_
 refine Exists.intro ((s.1+1,if (nth l s.1).g.op=0 then s.2++za2 (zaM (nth l s.1).pat) else s.2)) ⟨(by
    by_cases hz:(nth l s.1).g.op=0
    ·have hp:zcb (nth l s.1).pat=true:=by
      cases hp:zcb (nth l s.1).pat with
      |true=>rfl
      |false=>have:=(hge s.1).2 hp;exfalso;first|omega|contradiction
     have h9:=zgg (nth l s.1).pat
     have e:=zns hp
     refine⟨by dsimp only;omega, ?_, ?_⟩
     ·dsimp only
      rw[if_pos hz,e,←zfy (out:=s.2) (by omega) hz hp];exact hg1.2.1
     ·dsimp only
      rw[if_pos hz,e,List.length_append];omega
    ·refine⟨by dsimp only;omega, ?_, ?_⟩
     ·dsimp only
      rw[if_neg hz,←zfA (out:=s.2) (by omega) hz];exact hg1.2.1
     ·dsimp only
      rw[if_neg hz];omega),(by dsimp only;omega),sx ⟨⟨_,rfl,LeA.eqi ?_⟩,⟨⟨_,rfl,LeA.glg ?_⟩,trivial⟩⟩ ⟨zaa ?_,trivial⟩⟩
 iterate 3 focus (first|rfl|(dsimp only;rw[if_pos (by assumption),Pat.cs_cd,Pat.cs_cd,Pat.cs_cd,List.map_append];done)|(dsimp only;rw[if_neg (by assumption)];done)|(dsimp only;rw[if_pos (by assumption)];simp[Pat.cs_len];done)|(dsimp only;rw[if_neg (by assumption)];simp[Pat.cs_len];done)|(simp;done)|omega|(simp;omega))
 try simp only[Q,Pat.cs_len,Int.natCast_inj] at h2p
 refine Walk.idx sl28 .none rfl rfl rfl rfl (zaq (by omega)) rfl ?_
 refine ev ?_
 refine wc zuf (zlZ (hc _ (zaf (i:=s.1) (by omega))).1 (hc _ (zaf (by omega))).2) rfl rfl ?_
 refine ev ?_
 refine sq (fun h3 h3p h3s=>?_) fun h3 h3p h3s=>?_
 try simp only[Q,Pat.cs_len,Int.natCast_inj] at h3p
 refine rn0 (r2 rfl rfl) (.tup (.cons (.nild ?_) (.cons (.eqd ?_) .nil)))
 rotate_left 2
 try simp only[Q,Pat.cs_len,Int.natCast_inj] at h3p
 refine Walk.append sl45 zz56 rfl .none rfl rfl rfl rfl (zaw rfl (by first|rfl|(simp;done)|(simp;omega))) (by exact zbb _) (by have:=hpl s.1;simp only[Pat.cs_len];omega) (by have:=hpl s.1;simp only[Pat.cs_len];omega) ?_
 refine ev ?_
 refine ar ?_
 refine Exists.intro ((s.1+1,if (nth l s.1).g.op=0 then s.2++za2 (zaM (nth l s.1).pat) else s.2)) ⟨(by
    by_cases hz:(nth l s.1).g.op=0
    ·have hp:zcb (nth l s.1).pat=true:=by
      cases hp:zcb (nth l s.1).pat with
      |true=>rfl
      |false=>have:=(hge s.1).2 hp;exfalso;first|omega|contradiction
     have h9:=zgg (nth l s.1).pat
     have e:=zns hp
     refine⟨by dsimp only;omega, ?_, ?_⟩
     ·dsimp only
      rw[if_pos hz,e,←zfy (out:=s.2) (by omega) hz hp];exact hg1.2.1
     ·dsimp only
      rw[if_pos hz,e,List.length_append];omega
    ·refine⟨by dsimp only;omega, ?_, ?_⟩
     ·dsimp only
      rw[if_neg hz,←zfA (out:=s.2) (by omega) hz];exact hg1.2.1
     ·dsimp only
      rw[if_neg hz];omega),(by dsimp only;omega),sx ⟨⟨_,rfl,LeA.eqi ?_⟩,⟨⟨_,rfl,LeA.glg ?_⟩,trivial⟩⟩ ⟨zaa ?_,trivial⟩⟩
 iterate 3 focus (first|rfl|(dsimp only;rw[if_pos (by assumption),Pat.cs_cd,Pat.cs_cd,Pat.cs_cd,List.map_append];done)|(dsimp only;rw[if_neg (by assumption)];done)|(dsimp only;rw[if_pos (by assumption)];simp[Pat.cs_len];done)|(dsimp only;rw[if_neg (by assumption)];simp[Pat.cs_len];done)|(simp;done)|omega|(simp;omega))
 try simp only[Q,Pat.cs_len,Int.natCast_inj] at h1p
 refine rn0 (r2 rfl rfl) (.tup (.cons (.gld ?_) (.cons (.eqd ?_) .nil)))
 rotate_left 2
 all_goals (first|rfl|(rw[←hg1.2.1,zk4 (by omega) (by assumption) ((hge s.1).1 (by omega))];rfl)|(rw[←hg1.2.1,zk5 (by omega)];rfl))
theorem zl0 {w:List Data} (hs:Spa w){ta tk:Int} (ht:InS (w.length*4) ⟨ta,tk⟩){l:List Pat}{ok:Bool} (hl:∀a∈l,a.ok∧a.size≤1000000000000) (hb:l.length≤1000000000000):
  FnD Tryz.prog 126 [.d (zal w),.agg [.d (.i ta),.d (.i tk)],.d (zae l),.d (.bool ok)] [] (.tup [.d (zae (if l.all (isP w ⟨ta,tk⟩)=true then l else [])),.d (.bool (l.all (isP w ⟨ta,tk⟩)&&ok))]) []:=by
 have hbad:∀i,i<l.length→isP w ⟨ta,tk⟩ (nth l i)=false→l.all (isP w ⟨ta,tk⟩)=false:=fun i hi h=>by
  cases hq:l.all (isP w ⟨ta,tk⟩) with
  |false=>rfl
  |true=>have:=List.all_eq_true.1 hq _ (zaf hi);rw[h] at this;cases this
 have hgood:(∀i,i<l.length→isP w ⟨ta,tk⟩ (nth l i)=true)→l.all (isP w ⟨ta,tk⟩)=true:=fun h=>List.all_eq_true.2 fun x hx=>by
  obtain⟨i,hi,rfl⟩:=List.getElem_of_mem hx
  have:=h i hi
  rwa [za6 hi] at this
 refine bd Tryz.f126 29 [] [] fun w0 F0 own kept hk=>?_
 refine Walk.box (id:=3005) .none rfl rfl rfl rfl rfl rfl rfl ?_
 refine ev ?_
 refine CWp.loopX (ι:=Nat) hk (fun i=>[(10,.d (.i (i:Int)))]) [8,9,11,12,13,14,15,16,17,18,19,20,21,22,23,24,25] (fun i=>[]) (fun i=>i≤l.length∧∀i',i'<i→isP w ⟨ta,tk⟩ (nth l i')=true) (fun i=>l.length-i) 0 ⟨by omega,fun _ h=>absurd h (by omega)⟩ ⟨⟨_,rfl,LeA.eqi ?_⟩,trivial⟩ trivial (fun x=>rfl) (fun i hg1=>?_)
 focus (first|rfl|(simp;done)|(simp_all;done)|omega)
 refine evc [] [] ?_
 refine sq (fun h1 h1p h1s=>?_) fun h1 h1p h1s=>?_
 try simp only[Q,Pat.cs_len] at h1p
 refine Walk.idx sl45 .none rfl rfl rfl rfl (zaH (by omega)) rfl ?_
 refine evd [] [] ?_
 refine wc zkQ (ze8 hs.dp.wt (zb6 ht) (hl _ (zaf (i:=i) (by omega))).1 (hl _ (zaf (by omega))).2) rfl rfl ?_
 refine evd [] [] ?_
 refine dr ?_
 refine sq (fun h2 h2p h2s=>?_) fun h2 h2p h2s=>?_
 try simp only[Q,Pat.cs_len] at h2p
 refine Walk.sliceEmpty sl45 .none rfl ?_
 refine ev ?_
 refine rn0 (r2 rfl rfl) (.tup (.cons (.eqd ?_) (.cons (.eqd ?_) .nil)))
 rotate_left 2
 try simp only[Q,Pat.cs_len] at h2p
 refine ar ?_
 refine Exists.intro (i+1) ⟨⟨by omega,za9 hg1.2 (by assumption)⟩,(by omega),sx ⟨⟨_,rfl,LeA.eqi ?_⟩,trivial⟩ trivial⟩
 focus (first|rfl|(simp;done)|(simp_all;done)|omega)
 try simp only[Q,Pat.cs_len] at h1p
 refine wc zug (znM hb (fun p hp=>(hl p hp).1)) rfl rfl ?_
 refine ev ?_
 refine rn0 (r2 rfl rfl) (.tup (.cons (.eqd ?_) (.cons (.eqd ?_) .nil)))
 rotate_left 2
 all_goals (first|rfl|(rw[hbad i (by omega) (by assumption)];rfl)|(rw[hgood (fun x hx=>hg1.2 x (by omega))];rfl)|(rw[hgood (fun x hx=>hg1.2 x (by omega))];simp;done))
theorem zmW {w:List Data} (hsp:Spa w){a k:Int} (hin:InS (w.length*4) ⟨a,k⟩){l:List Cl} (h8:l.length≤8) (hsh:∀c∈l,zau w 10 ⟨a,k⟩ c.pat=true∧c.pat.ok):
  FnD Tryz.prog 73 [.d (zal w),.agg [.d (.i a),.d (.i k)],.d (zae [anyQ]),.d (zbg l),.d (.i (l.length:Int))] [] (.tup [.d (zae ((zds w ⟨a,k⟩ l).getD [])),.d (.bool (zds w ⟨a,k⟩ l).isSome)]) []:=by
 have hco:=zl1 (w:=w) (t:=⟨a,k⟩) h8 hsh
 cases hq:zbj l [] with
 |none=>
  have e:zds w ⟨a,k⟩ l=none:=by unfold zds;rw[hq]
  rw[hq] at hco
  rw[e]
  refine bd Tryz.f73 42 [] [] fun w0 F0 own kept hk=>?_
  refine Walk.box (id:=3006) .none rfl rfl rfl rfl rfl rfl rfl ?_
  refine ev ?_
  refine wc zqX (hco) rfl rfl ?_
  refine ev ?_
  refine sq (fun h1 h1p h1s=>?_) fun h1 h1p h1s=>?_
  try simp only[Q] at h1p
  refine Walk.sliceEmpty sl45 .none rfl ?_
  refine ev ?_
  refine rn0 (r2 rfl rfl) (.tup (.cons (.eqd ?_) (.cons (.eqd ?_) .nil)))
  rotate_left 2
  try simp only[Q] at h1p
  exfalso;exact absurd h1 (by simp)
  all_goals (rfl)
 |some away=>
  rw[hq] at hco
  obtain⟨p1,p2⟩:=zfz l [] away (fun c hc=>(hsh c hc).1) (by simp) hq
  have hwo:=zjv hsp hin (l:=[anyQ]) (away:=away) zg5 p2 (by simp) (by simp at p1;omega)
  have hrl2:((zaE w ⟨a,k⟩ [anyQ] away).getD []).length≤400∧∀x∈(zaE w ⟨a,k⟩ [anyQ] away).getD [],x.ok∧x.size≤1000000000000:=by
   cases hw:zaE w ⟨a,k⟩ [anyQ] away with
   |none=>exact⟨by simp,by simp⟩
   |some r=>
    have:=zf1 away _ r (fun x hx=>zg5 x (List.mem_filter.1 hx).1) (Nat.le_trans (List.length_filter_le _ _) (by simp)) p2 hw
    exact⟨this.1,fun x hx=>⟨(zgA hsp 11 hin (this.2 x hx)).1,by have:=(zgA hsp 11 hin (this.2 x hx)).2;have:=zoV (n:=11) (by omega);omega⟩⟩
  have hre:=zl0 hsp hin (l:=(zaE w ⟨a,k⟩ [anyQ] away).getD []) (ok:=(zaE w ⟨a,k⟩ [anyQ] away).isSome) hrl2.2 (by omega)
  have hem:(zaE w ⟨a,k⟩ [anyQ] away).isSome=false→(zaE w ⟨a,k⟩ [anyQ] away).getD []=[]:=fun h=>by
   cases hw:zaE w ⟨a,k⟩ [anyQ] away with
   |none=>rfl
   |some r=>rw[hw] at h;cases h
  have e:zds w ⟨a,k⟩ l=if (((zaE w ⟨a,k⟩ [anyQ] away).getD []).all (isP w ⟨a,k⟩)&&(zaE w ⟨a,k⟩ [anyQ] away).isSome)=true then some ((zaE w ⟨a,k⟩ [anyQ] away).getD []) else none:=by
   unfold zds
   rw[hq]
   cases hw:zaE w ⟨a,k⟩ [anyQ] away with
   |none=>simp[hw]
   |some r=>simp[hw]
  rw[e]
  generalize ((zaE w ⟨a,k⟩ [anyQ] away).getD []).all (isP w ⟨a,k⟩)=q at hre ⊢
  generalize (zaE w ⟨a,k⟩ [anyQ] away).isSome=q2 at hre hwo hem ⊢
  refine bd Tryz.f73 42 [] [] fun w0 F0 own kept hk=>?_
  refine Walk.box (id:=3006) .none rfl rfl rfl rfl rfl rfl rfl ?_
  refine ev ?_
  refine wc zqX (hco) rfl rfl ?_
  refine ev ?_
  refine sq (fun h1 h1p h1s=>?_) fun h1 h1p h1s=>?_
  try simp only[Q] at h1p
  exfalso;exact absurd h1 (by simp)
  try simp only[Q] at h1p
  refine wc zqY (zhj hsp.dp) rfl rfl ?_
  refine evd [] [] ?_
  refine wc ztY (hwo) rfl rfl ?_
  refine evd [] [] ?_
  refine dr ?_
  refine wc ztZ (hre) rfl rfl ?_
  refine ev ?_
  refine rn0 (r2 rfl rfl) (.tup (.cons (.eqd ?_) (.cons (.eqd ?_) .nil)))
  rotate_left 2
  all_goals (first|rfl|(cases q<;>cases q2<;>first|rfl|(rw[hem rfl];rfl)))
theorem zg4 {w:List Data} (hs:WSmall w){a k:Int}{l:List Cl} (hl:ClsOk l) (hz:ClsSz l):
  FnD Tryz.prog 27 [.d (zal w),.agg [.d (.i a),.d (.i k)],.d (zbg l)] [] (.tup [.d (zae ((zbx w ⟨a,k⟩ l).getD [])),.d (.bool (zbx w ⟨a,k⟩ l).isSome)]) []:=by
 have hcv:=zis hs (a:=a) (k:=k) hl hz
 by_cases hv:zba w ⟨a,k⟩ l=true
 ·have hm:zbx w ⟨a,k⟩ l=zds w ⟨a,k⟩ l:=by unfold zbx;rw[if_pos hv]
  rw[hm]
  have htv:=zjD hv
  have hsp:=zpl hs (zea htv.1).1
  have hin:InS (w.length*4) ⟨a,k⟩:=by
   obtain⟨_,_,h3⟩:=zea htv.1
   by_cases ha:a = -1
   ·exact .inl ha
   ·obtain⟨h4,h5,h6,h7⟩:=h3 ha
    have:=zrC (n:=w.length) h5 (j:=k.toNat) (by omega)
    rwa [Int.toNat_of_nonneg h4,Int.toNat_of_nonneg h6] at this
  have hre:=zmW hsp hin htv.2 (zm0 hv hl)
  have e1:zae [anyQ]=D.sl [[D.i 1,D.i 0,D.i 0,D.i 0,D.i 0,D.sl []]]:=rfl
  rw[e1] at hre
  rw[←List.length_map (f:=Cl.c)] at hre
  refine bd Tryz.f27 24 [] [] fun w0 F0 own kept hk=>?_
  refine Walk.box (id:=3004) .none rfl rfl rfl rfl rfl rfl rfl ?_
  refine ev ?_
  refine wc zsR (hcv) rfl rfl ?_
  refine ev ?_
  refine sq (fun h1 h1p h1s=>?_) fun h1 h1p h1s=>?_
  try simp only[Q] at h1p
  exfalso;rw[hv] at h1;exact absurd h1 (by simp)
  try simp only[Q] at h1p
  refine wc zkX (zdM) rfl rfl ?_
  refine Walk.sliceLit sl45 tz56 rfl (by decide) (ks:=[0]) (xs:=[_]) rfl rfl (by decide) (by decide) .none rfl rfl rfl rfl ?_
  refine evd [] [] ?_
  refine wc zu9 (hre) rfl rfl ?_
  refine evd [] [] ?_
  refine dr ?_
  refine rn0 (r2 rfl rfl) (.tup (.cons (.eqd ?_) (.cons (.eqd ?_) .nil)))
  rotate_left 2
  all_goals (rfl)
 ·have hv':zba w ⟨a,k⟩ l=false:=by simpa using hv
  have hm:zbx w ⟨a,k⟩ l=none:=by unfold zbx;rw[if_neg hv]
  rw[hm]
  rw[hv'] at hcv
  refine bd Tryz.f27 24 [] [] fun w0 F0 own kept hk=>?_
  refine Walk.box (id:=3004) .none rfl rfl rfl rfl rfl rfl rfl ?_
  refine ev ?_
  refine wc zsR (hcv) rfl rfl ?_
  refine ev ?_
  refine sq (fun h1 h1p h1s=>?_) fun h1 h1p h1s=>?_
  try simp only[Q] at h1p
  refine Walk.sliceEmpty sl45 .none rfl ?_
  refine ev ?_
  refine rn0 (r2 rfl rfl) (.tup (.cons (.eqd ?_) (.cons (.eqd ?_) .nil)))
  rotate_left 2
  try simp only[Q] at h1p
  exfalso;exact absurd h1 (by simp)
  all_goals (rfl)
theorem zjt {w:List Data} (hs:WSmall w){a k:Int}{l:List Cl} (hl:ClsOk l) (hz:ClsSz l):
  FnD Tryz.prog 47 [.d (zal w),.agg [.d (.i a),.d (.i k)],.d (zbg l)] [] (.tup [.d (.bool (exhQ w ⟨a,k⟩ l)),.d (.bool (zbx w ⟨a,k⟩ l).isSome)]) []:=by
 have hmp:=zg4 hs (a:=a) (k:=k) hl hz
 unfold exhQ
 generalize zbx w ⟨a,k⟩ l=m at *
 refine bd Tryz.f47 24 [] [] fun w0 F0 own kept hk=>?_
 refine Walk.box (id:=3004) .none rfl rfl rfl rfl rfl rfl rfl ?_
 refine ev ?_
 refine wc zu3 (hmp) rfl rfl ?_
 refine ev ?_
 refine sq (fun h1 h1p h1s=>?_) fun h1 h1p h1s=>?_
 try simp only[Q,Pat.cs_len,Int.natCast_inj] at h1p
 refine rn0 (r2 rfl rfl) (.tup (.cons (.eqd ?_) (.cons (.eqd ?_) .nil)))
 rotate_left 2
 try simp only[Q,Pat.cs_len,Int.natCast_inj] at h1p
 refine rn0 (r2 rfl rfl) (.tup (.cons (.eqd ?_) (.cons (.eqd ?_) .nil)))
 rotate_left 2
 all_goals (first|rfl|(simp_all[Pat.cs_len];done)|(cases m<;>simp_all[Pat.cs_len];done)|(cases m<;>simp[Pat.cs_len] at *;done))
end Go.Proofs.YtcnjkjdmbnhcaaaGreat
namespace Go.Proofs.YtcnjkjdmbnhcaaaGreat
open Go
set_option linter.unusedSimpArgs false
set_option linter.unusedVariables false
theorem zrB (L:List Nat) (hp:Hp) (i:Nat):getH (L.map (fun j=>(j,(none:Option Res)))++hp) i=if i∈L then none else getH hp i:=by
 induction L with
 |nil=>simp
 |cons x r ih=>
  simp only[List.map_cons,List.cons_append,zai,List.mem_cons]
  by_cases h:i=x
  ·subst h;simp
  ·simp[h,ih]
section
variable {c:Ctx}
theorem R.drop {G:Gh}{s:St}{a:Act}{w:World} (hr:R c G s a w) (L:List Nat) (hk:∀i l,c.kept i=some l→i∉L):R c G ⟨s.env,L.map (fun j=>(j,none))++s.hp⟩ a w:=by
 have hg:=zrB L s.hp
 have hT:∀i p,tokf (L.map (fun j=>(j,(none:Option Res)))++s.hp) i=some p→tokf s.hp i=some p:=fun i p h=>by
  obtain⟨n,k⟩:=p
  have:=zat.1 h
  rw[hg] at this
  split at this
  ·cases this
  ·exact zat.2 this
 have hm:∀ {x:AV}{v:Value},RelA G (tokf s.hp) w x v→RelA G (tokf (L.map (fun j=>(j,(none:Option Res)))++s.hp)) w x v:=fun hx=>
  hx.mono (fun _ _ ho=>⟨ho,rfl⟩) (fun _ _=> .inl rfl) (fun i _ p hp=>⟨hT i p hp,fun _ _=>⟨rfl,rfl⟩⟩)
 have hs:∀i r,getH (L.map (fun j=>(j,(none:Option Res)))++s.hp) i=some r→getH s.hp i=some r:=fun i r h=>by
  rw[hg] at h
  split at h
  ·cases h
  ·exact h
 have hss:∀i,(getH (L.map (fun j=>(j,(none:Option Res)))++s.hp) i).isSome→(getH s.hp i).isSome:=fun i h=>by
  obtain⟨r,hr⟩:=Option.isSome_iff_exists.1 h
  rw[hs i r hr];rfl
 refine⟨hr.size,hr.defers,fun i v h=>hm (hr.slots i v h),fun i r h=>?_,fun i j h1 h2=>hr.disj i j (hss i h1) (hss j h2),fun i h=>hr.new i (hss i h),hr.frm,hr.top,fun i l hl=>?_⟩
 ·have hh:=hr.heap i r (hs i r h)
  cases r with
  |box cs=>
   obtain⟨b,vs,e,h1,h2,h3,h4,h5⟩:=hh
   exact⟨b,vs,e,h1,h2,h3,h4,fun j hj hv=>hm (h5 j hj hv)⟩
  |tok m k=>exact hh
  |map ks=>exact hh
  |tree cs=>exact zbv hh rfl (fun _ _=>⟨rfl,rfl⟩) (Nat.le_refl _) (fun _ _ _=>hm)
 ·obtain⟨k1,k2,k3⟩:=hr.kept i l hl
  refine⟨k1, ?_, ?_⟩
  ·show(getH (L.map (fun j=>(j,(none:Option Res)))++s.hp) i).isSome
   rw[hg,if_neg (hk i l hl)];exact k2
  ·show tokf (L.map (fun j=>(j,(none:Option Res)))++s.hp) i=none
   cases h:tokf (L.map (fun j=>(j,(none:Option Res)))++s.hp) i with
   |none=>rfl
   |some p=>rw[hT i p h] at k3;cases k3
inductive RowT (hp:Hp):List AV→List D→List (Nat×Nat×Nat)→Prop
 |nil:RowT hp [] [] []
 |sc {x cs ds js} (hs:zjN x=true) (h:RowT hp cs ds js):RowT hp (.d x::cs) (x::ds) js
 |ni {cs ds js} (h:RowT hp cs ds js):RowT hp (.nils::cs) (.sl []::ds) js
 |gt {j zs n k cs ds js} (hj:getH hp j=some (.tok n k)) (hn:n=zs.length) (h:RowT hp cs ds js):RowT hp (.gt j zs::cs) (.sl zs::ds) ((j,n,k)::js)
theorem RowT.move {hp hp':Hp}{cs:List AV}{ds:List D}{js:List (Nat×Nat×Nat)} (h:RowT hp cs ds js):(∀q,q∈js→getH hp' q.1=some (.tok q.2.1 q.2.2))→RowT hp' cs ds js:=by
 induction h with
 |nil=>intro _;exact .nil
 |sc hs _ ih=>intro h;exact .sc hs (ih h)
 |ni _ ih=>intro h;exact .ni (ih h)
 |gt hj hn _ ih=>intro h;exact .gt (h (_,_,_) List.mem_cons_self) hn (ih fun q hq=>h q (List.mem_cons_of_mem _ hq))
theorem RowT.len {hp:Hp}{cs:List AV}{ds:List D}{js:List (Nat×Nat×Nat)} (h:RowT hp cs ds js):ds.length=cs.length:=by
 induction h with
 |nil=>rfl
 |sc _ _ ih=>simp[ih]
 |ni _ ih=>simp[ih]
 |gt _ _ _ ih=>simp[ih]
end
end Go.Proofs.YtcnjkjdmbnhcaaaGreat
namespace Go.Proofs.YtcnjkjdmbnhcaaaGreat
open Go
set_option linter.unusedSimpArgs false
set_option linter.unusedVariables false
set_option maxRecDepth 100000
set_option maxHeartbeats 2000000
theorem zrF {w:List Data}{a k:Int}{l:List Cl}{ps:List Pat} (hm:zbx w ⟨a,k⟩ l=some ps):zba w ⟨a,k⟩ l=true∧∃away,zbj l []=some away∧zaE w ⟨a,k⟩ [anyQ] away=some ps∧ps.all (isP w ⟨a,k⟩)=true:=by
 unfold zbx at hm
 split at hm
 ·rename_i hv
  refine⟨hv, ?_⟩
  unfold zds at hm
  cases hq:zbj l [] with
  |none=>rw[hq] at hm;simp at hm
  |some away=>
   rw[hq] at hm
   cases hw:zaE w ⟨a,k⟩ [anyQ] away with
   |none=>simp[hw] at hm
   |some r=>
    simp only[hw] at hm
    by_cases hr:r.all (isP w ⟨a,k⟩)=true
    ·refine⟨away,rfl, ?_⟩
     simp[hr] at hm
     subst hm
     exact⟨hw,hr⟩
    ·simp[hr] at hm
 ·cases hm
def Cl.szM (c:Cl):Int:=c.pat.szM+3
def Cl.one (k:Int) (c:Cl):Cl:=⟨c.pat.one k,⟨k+1+1+1+1+1+szL Pat.szM c.pat.kids,k+1+1+1+1+1+szL Pat.szM c.pat.kids+1,k+1+1+1+1+1+szL Pat.szM c.pat.kids+1+1⟩⟩
theorem Cl.szM_nn (c:Cl):0≤c.szM:=by have:=Pat.szM_nn c.pat;unfold Cl.szM;omega
theorem Cl.szM_le (c:Cl):c.szM≤8+5*(mCl c:Int):=by have:=Pat.szM_le c.pat;unfold Cl.szM mCl;omega
theorem Cls.szM_le:∀l:List Cl,szL Cl.szM l≤8*(mCls l:Int)
 | []=>by simp[szL,mCls]
 |c::r=>by
  have h1:=Cl.szM_le c
  have h2:=Cls.szM_le r
  simp only[szL,mCls,List.length_cons,List.map_cons,List.sum_cons] at *
  omega
def clA:Cl:=⟨⟨1,0,0,0,0,[]⟩,⟨0,0,0⟩⟩
def zbR (w:List Data) (t:Ty) (l:List Cl):Option (List Cl):=
 if (zbx w t l).isSome=true then (if exhQ w t l=true then some l else if l.length=8 then none else some (l++[clA])) else none
theorem zkr {w:List Data}{a k:Int}{l:List Cl} (h:(zbx w ⟨a,k⟩ l).isSome=true):l.length≤8:=by
 cases hm:zbx w ⟨a,k⟩ l with
 |none=>rw[hm] at h;cases h
 |some ps=>exact(zjD (zrF hm).1).2
theorem zd4 {l:List Cl} (hl:ClsOk l):FnD Tryz.prog 52 [.d (zbg l)] [] (.gl 1 (l.map Cl.c)) [(1,some (.tok (l.map Cl.c).length 9))]:=by
 have hll:=hl.1
 refine bd Tryz.f52 23 [3] [] fun w0 F0 own kept hk=>?_
 refine Walk.assignNil 1 9 .none rfl rfl ?_
 refine tv ?_
 refine CWp.loopX (ι:=List (Cl)×List (Cl)) hk (fun x=>[(8,.d (.i (x.1.length:Int))),(3,.gl 1 (x.1.map Cl.c))]) [5,9,10,11,12,13,14,15,16,17,18,19,20,21] (fun x=>[(1,some (.tok ((x.1.map Cl.c)).length 9))]) (fun x=>x.1++x.2=l) (fun x=>x.2.length) ([],l) (by simp) ⟨⟨_,rfl,LeA.eqi ?_⟩,⟨⟨_,rfl,LeA.glg ?_⟩,trivial⟩⟩ ⟨zaa ?_,trivial⟩ (fun x=>rfl) (fun x hg1=>?_)
 iterate 3 focus (first|rfl|(simp;done)|(simp;omega))
 obtain⟨pre,rest⟩:=x
 dsimp only at hg1 ⊢
 refine evc [3] [] ?_
 refine sq (fun h1 h1p h1s=>?_) fun h1 h1p h1s=>?_
 try simp only[Q] at h1p
 rcases rest with _|⟨y,rest⟩
 ·exfalso;simp_all
 refine Walk.idx sl28 .none rfl rfl rfl rfl (zaD hg1) rfl ?_
 refine evs [3] [] ?_
 refine Walk.alloc (id:=3005) tz60 rfl .none rfl rfl rfl rfl ?_
 refine Walk.store ty60 .none rfl rfl rfl rfl rfl rfl (by simp) rfl ?_
 refine tv ?_
 refine wc zn7 (zd5 _ (Nat.le_refl _) (hl.2 y (by rw[←hg1];simp))) rfl rfl ?_
 refine evd [3] [] ?_
 refine Walk.build st60 (ks:=[0,1]) (xs:=[_,_]) rfl rfl .none rfl rfl rfl ?_
 refine Walk.sliceLit sl28 tz60 rfl (by decide) (ks:=[0]) (xs:=[_]) rfl rfl (by decide) (by decide) .none rfl rfl rfl rfl ?_
 refine Walk.append sl28 zz60 rfl .none rfl rfl rfl rfl (zaw rfl (by first|rfl|(simp;done)|(simp;omega))) (by intro x hx;simp at hx;subst hx;rfl) (by have:=congrArg List.length hg1;simp at this;simp;omega) (by have:=congrArg List.length hg1;simp at this;simp;omega) ?_
 refine asg ?_
 refine dr ?_
 refine ar ?_
 refine Exists.intro ((pre++[y],rest)) ⟨(by have hz:=hg1;rw[←hz];simp),(by simp),sx ⟨⟨_,rfl,LeA.eqi ?_⟩,⟨⟨_,rfl,LeA.glg ?_⟩,trivial⟩⟩ ⟨zaa ?_,trivial⟩⟩
 iterate 3 focus (first|rfl|(simp;done)|(simp;omega))
 try simp only[Q] at h1p
 have hrest:rest=[]:=by
  rcases rest with _|⟨a,b⟩
  ·rfl
  ·exfalso;have hz:=congrArg List.length (hg1);simp only[List.length_append,List.length_cons,List.length_map] at hz;omega
 subst hrest
 refine rn [(1,some (.tok (l.map Cl.c).length 9))] (r1 rfl) (.glg ?_) ⟨rfl,rfl⟩ (SubH.get ⟨?_,trivial⟩) (zaB rfl)
 rotate_left 2
 all_goals (first|((first|rfl|(rw[List.append_nil] at hg1;subst hg1;rfl));done)|(first|rfl|(rw[List.append_nil] at hg1;subst hg1;rfl)))
theorem zeL {w:List Data} (hs:WSmall w){a k:Int}{l:List Cl} (hl:ClsOk l):
  FnD Tryz.prog 17 [.d (zal w),.agg [.d (.i a),.d (.i k)],.d (zbg l)] [] (.tup [.d (zbg ((zbR w ⟨a,k⟩ l).getD [])),.d (.bool (zbR w ⟨a,k⟩ l).isSome)]) []:=by
 have hex:=zi5 hs (a:=a) (k:=k) hl
 have hml:=zkr (w:=w) (a:=a) (k:=k) (l:=l)
 have hll:=hl.1
 by_cases hm:(zbx w ⟨a,k⟩ l).isSome=true
 ·have hml2:=hml hm
  rw[hm] at hex
  by_cases he:exhQ w ⟨a,k⟩ l=true
  ·have hc:zbR w ⟨a,k⟩ l=some l:=by unfold zbR;rw[if_pos hm,if_pos he]
   rw[he] at hex
   rw[hc]
   clear hml hm he hc
   refine bd Tryz.f17 33 [] [] fun w0 F0 own kept hk=>?_
   refine Walk.box (id:=3004) .none rfl rfl rfl rfl rfl rfl rfl ?_
   refine ev ?_
   refine wc znQ (hex) rfl rfl ?_
   refine ev ?_
   refine sq (fun h1 h1p h1s=>?_) fun h1 h1p h1s=>?_
   try simp only[Q,List.length_map] at h1p
   focus (exfalso;first|contradiction|(simp at *;done)|(simp at *;omega))
   try simp only[Q,List.length_map] at h1p
   refine Walk.call (cr:=[1]) zqe (zd4 hl) rfl .none rfl rfl (LeL.refl _) trivial rfl rfl rfl ?_
   refine ev ?_
   refine sq (fun h2 h2p h2s=>?_) fun h2 h2p h2s=>?_
   try simp only[Q,List.length_map] at h2p
   focus (exfalso;first|contradiction|(simp at *;done)|(simp at *;omega))
   try simp only[Q,List.length_map] at h2p
   refine sq (fun h3 h3p h3s=>?_) fun h3 h3p h3s=>?_
   try simp only[Q,List.length_map] at h3p
   focus (exfalso;first|contradiction|(simp at *;done)|(simp at *;omega))
   try simp only[Q,List.length_map] at h3p
   refine rn0 (r2 rfl rfl) (.tup (.cons (.gld ?_) (.cons (.eqd ?_) .nil)))
   rotate_left 2
   all_goals (first|rfl|(simp at *;done))
  ·have he':exhQ w ⟨a,k⟩ l=false:=by simpa using he
   rw[he'] at hex
   by_cases h8:l.length=8
   ·have hc:zbR w ⟨a,k⟩ l=none:=by unfold zbR;rw[if_pos hm,if_neg he,if_pos h8]
    rw[hc]
    clear hml hm he he' hc
    refine bd Tryz.f17 33 [] [] fun w0 F0 own kept hk=>?_
    refine Walk.box (id:=3004) .none rfl rfl rfl rfl rfl rfl rfl ?_
    refine ev ?_
    refine wc znQ (hex) rfl rfl ?_
    refine ev ?_
    refine sq (fun h1 h1p h1s=>?_) fun h1 h1p h1s=>?_
    try simp only[Q,List.length_map] at h1p
    focus (exfalso;first|contradiction|(simp at *;done)|(simp at *;omega))
    try simp only[Q,List.length_map] at h1p
    refine Walk.call (cr:=[1]) zqe (zd4 hl) rfl .none rfl rfl (LeL.refl _) trivial rfl rfl rfl ?_
    refine ev ?_
    refine sq (fun h2 h2p h2s=>?_) fun h2 h2p h2s=>?_
    try simp only[Q,List.length_map] at h2p
    refine wc zkY (zcF) rfl rfl ?_
    refine Walk.build st60 (ks:=[0]) (xs:=[_]) rfl rfl .none rfl rfl rfl ?_
    refine Walk.sliceLit sl28 tz60 rfl (by decide) (ks:=[0]) (xs:=[_]) rfl rfl (by decide) (by decide) .none rfl rfl rfl rfl ?_
    refine Walk.append sl28 zz60 rfl .none rfl rfl rfl rfl (zaw rfl (by first|rfl|(simp;done)|(simp;omega))) (by intro x hx;simp at hx;subst hx;rfl) (by simp;omega) (by simp;omega) ?_
    refine ev ?_
    refine sq (fun h3 h3p h3s=>?_) fun h3 h3p h3s=>?_
    try simp only[Q,List.length_map] at h3p
    refine rn0 (r2 rfl rfl) (.tup (.cons (.nild ?_) (.cons (.eqd ?_) .nil)))
    rotate_left 2
    try simp only[Q,List.length_map] at h3p
    focus (exfalso;first|contradiction|(simp at *;done)|(simp at *;omega))
    try simp only[Q,List.length_map] at h2p
    focus (exfalso;first|contradiction|(simp at *;done)|(simp at *;omega))
    all_goals (rfl)
   ·have hc:zbR w ⟨a,k⟩ l=some (l++[clA]):=by unfold zbR;rw[if_pos hm,if_neg he,if_neg h8]
    rw[hc]
    have e:zbg (l++[clA]) = .sl (l.map Cl.c++[[.i 1,.i 0,.i 0,.i 0,.i 0,.sl [],.i 0,.i 0,.i 0]]):=by show D.sl ((l++[clA]).map Cl.c)=_;rw[List.map_append];rfl
    dsimp only[Option.getD_some,Option.isSome_some]
    rw[e]
    clear hml hm he he' hc e
    refine bd Tryz.f17 33 [] [] fun w0 F0 own kept hk=>?_
    refine Walk.box (id:=3004) .none rfl rfl rfl rfl rfl rfl rfl ?_
    refine ev ?_
    refine wc znQ (hex) rfl rfl ?_
    refine ev ?_
    refine sq (fun h1 h1p h1s=>?_) fun h1 h1p h1s=>?_
    try simp only[Q,List.length_map] at h1p
    focus (exfalso;first|contradiction|(simp at *;done)|(simp at *;omega))
    try simp only[Q,List.length_map] at h1p
    refine Walk.call (cr:=[1]) zqe (zd4 hl) rfl .none rfl rfl (LeL.refl _) trivial rfl rfl rfl ?_
    refine ev ?_
    refine sq (fun h2 h2p h2s=>?_) fun h2 h2p h2s=>?_
    try simp only[Q,List.length_map] at h2p
    refine wc zkY (zcF) rfl rfl ?_
    refine Walk.build st60 (ks:=[0]) (xs:=[_]) rfl rfl .none rfl rfl rfl ?_
    refine Walk.sliceLit sl28 tz60 rfl (by decide) (ks:=[0]) (xs:=[_]) rfl rfl (by decide) (by decide) .none rfl rfl rfl rfl ?_
    refine Walk.append sl28 zz60 rfl .none rfl rfl rfl rfl (zaw rfl (by first|rfl|(simp;done)|(simp;omega))) (by intro x hx;simp at hx;subst hx;rfl) (by simp;omega) (by simp;omega) ?_
    refine ev ?_
    refine sq (fun h3 h3p h3s=>?_) fun h3 h3p h3s=>?_
    try simp only[Q,List.length_map] at h3p
    focus (exfalso;first|contradiction|(simp at *;done)|(simp at *;omega))
    try simp only[Q,List.length_map] at h3p
    refine rn0 (r2 rfl rfl) (.tup (.cons (.gld ?_) (.cons (.eqd ?_) .nil)))
    rotate_left 2
    try simp only[Q,List.length_map] at h2p
    focus (exfalso;first|contradiction|(simp at *;done)|(simp at *;omega))
    all_goals (first|rfl|(simp at *;done))
 ·have hm':(zbx w ⟨a,k⟩ l).isSome=false:=by simpa using hm
  have hc:zbR w ⟨a,k⟩ l=none:=by unfold zbR;rw[if_neg hm]
  rw[hm'] at hex
  rw[hc]
  clear hml hm hm' hc
  refine bd Tryz.f17 33 [] [] fun w0 F0 own kept hk=>?_
  refine Walk.box (id:=3004) .none rfl rfl rfl rfl rfl rfl rfl ?_
  refine ev ?_
  refine wc znQ (hex) rfl rfl ?_
  refine ev ?_
  refine sq (fun h1 h1p h1s=>?_) fun h1 h1p h1s=>?_
  try simp only[Q,List.length_map] at h1p
  refine rn0 (r2 rfl rfl) (.tup (.cons (.nild ?_) (.cons (.eqd ?_) .nil)))
  rotate_left 2
  try simp only[Q,List.length_map] at h1p
  focus (exfalso;first|contradiction|(simp at *;done)|(simp at *;omega))
  all_goals (rfl)
theorem zen {l:List Cl} (hl:ClsOk l):FnD Tryz.prog 48 [.d (zbg l)] [] (.gl 1 (l.map Cl.c)) [(1,some (.tok (l.map Cl.c).length 9))]:=by
 have hll:=hl.1
 refine bd Tryz.f48 28 [] [] fun w0 F0 own kept hk=>?_
 refine Walk.sliceEmptyG 1 sl28 .none rfl rfl ?_
 refine ev ?_
 refine CWp.loopX (ι:=List (Cl)×List (Cl)) hk (fun x=>[(4,.d (.i (x.1.length:Int))),(3,.gl 1 (x.1.map Cl.c))]) [6,7,8,9,10,11,12,13,14,15,16,17,18,19,20,21,22,23,24,25,26] (fun x=>[(1,some (.tok ((x.1.map Cl.c)).length 9))]) (fun x=>x.1++x.2=l) (fun x=>x.2.length) ([],l) (by simp) ⟨⟨_,rfl,LeA.eqi ?_⟩,⟨⟨_,rfl,LeA.glg ?_⟩,trivial⟩⟩ ⟨zaa ?_,trivial⟩ (fun x=>rfl) (fun x hg1=>?_)
 iterate 3 focus (first|rfl|(simp;done)|(simp;omega))
 obtain⟨pre,rest⟩:=x
 dsimp only at hg1 ⊢
 refine evc [] [] ?_
 refine sq (fun h1 h1p h1s=>?_) fun h1 h1p h1s=>?_
 try simp only[Q] at h1p
 rcases rest with _|⟨y,rest⟩
 ·exfalso;simp_all
 refine Walk.idx sl28 .none rfl rfl rfl rfl (zaD hg1) rfl ?_
 refine evd [] [] ?_
 refine wc zqj (zfs _ (Nat.le_refl _) (hl.2 y (by rw[←hg1];simp))) rfl rfl ?_
 refine evd [] [] ?_
 refine Walk.idx sl28 .none rfl rfl rfl rfl (zaD hg1) rfl ?_
 refine evd [] [] ?_
 refine Walk.build st60 (ks:=[0,1]) (xs:=[_,_]) rfl rfl .none rfl rfl rfl ?_
 refine Walk.sliceLit sl28 tz60 rfl (by decide) (ks:=[0]) (xs:=[_]) rfl rfl (by decide) (by decide) .none rfl rfl rfl rfl ?_
 refine Walk.append sl28 zz60 rfl .none rfl rfl rfl rfl (zaw rfl (by first|rfl|(simp;done)|(simp;omega))) (by intro x hx;simp at hx;subst hx;rfl) (by have:=congrArg List.length hg1;simp at this;simp;omega) (by have:=congrArg List.length hg1;simp at this;simp;omega) ?_
 refine evd [] [] ?_
 refine dr ?_
 refine ar ?_
 refine Exists.intro ((pre++[y],rest)) ⟨(by have hz:=hg1;rw[←hz];simp),(by simp),sx ⟨⟨_,rfl,LeA.eqi ?_⟩,⟨⟨_,rfl,LeA.glg ?_⟩,trivial⟩⟩ ⟨zaa ?_,trivial⟩⟩
 iterate 3 focus (first|rfl|(simp;done)|(simp;omega))
 try simp only[Q] at h1p
 have hrest:rest=[]:=by
  rcases rest with _|⟨a,b⟩
  ·rfl
  ·exfalso;have hz:=congrArg List.length (hg1);simp only[List.length_append,List.length_cons,List.length_map] at hz;omega
 subst hrest
 refine rn [(1,some (.tok (l.map Cl.c).length 9))] (r1 rfl) (.glg ?_) ⟨rfl,rfl⟩ (SubH.get ⟨?_,trivial⟩) (zaB rfl)
 rotate_left 2
 all_goals (first|((first|rfl|(rw[List.append_nil] at hg1;subst hg1;rfl));done)|(first|rfl|(rw[List.append_nil] at hg1;subst hg1;rfl)))
theorem zhQ {w:List Data} (hs:WSmall w){a k:Int}{l:List Cl} (hl:ClsOk l) (hz:ClsSz l):
  FnD Tryz.prog 13 [.d (zal w),.agg [.d (.i a),.d (.i k)],.d (zbg l)] [] (.tup [.d (zbg ((zbR w ⟨a,k⟩ l).getD [])),.d (.bool (zbR w ⟨a,k⟩ l).isSome)]) []:=by
 have hex:=zjt hs (a:=a) (k:=k) hl hz
 have hml:=zkr (w:=w) (a:=a) (k:=k) (l:=l)
 have hll:=hl.1
 by_cases hm:(zbx w ⟨a,k⟩ l).isSome=true
 ·have hml2:=hml hm
  rw[hm] at hex
  by_cases he:exhQ w ⟨a,k⟩ l=true
  ·have hc:zbR w ⟨a,k⟩ l=some l:=by unfold zbR;rw[if_pos hm,if_pos he]
   rw[he] at hex
   rw[hc]
   clear hml hm he hc
   refine bd Tryz.f13 40 [] [] fun w0 F0 own kept hk=>?_
   refine Walk.box (id:=3004) .none rfl rfl rfl rfl rfl rfl rfl ?_
   refine ev ?_
   refine wc znR (hex) rfl rfl ?_
   refine ev ?_
   refine sq (fun h1 h1p h1s=>?_) fun h1 h1p h1s=>?_
   try simp only[Q,List.length_map] at h1p
   refine sqT ?_
   focus (exfalso;first|contradiction|(simp at *;done)|(simp at *;omega))
   try simp only[Q,List.length_map] at h1p
   refine sq (fun h3 h3p h3s=>?_) fun h3 h3p h3s=>?_
   try simp only[Q,List.length_map] at h3p
   refine sq (fun h4 h4p h4s=>?_) fun h4 h4p h4s=>?_
   try simp only[Q,List.length_map] at h4p
   focus (exfalso;first|contradiction|(simp at *;done)|(simp at *;omega))
   try simp only[Q,List.length_map] at h4p
   refine Walk.call (cr:=[1]) znS (zen hl) rfl .none rfl rfl (LeL.refl _) trivial rfl rfl rfl ?_
   refine ev ?_
   refine sq (fun h5 h5p h5s=>?_) fun h5 h5p h5s=>?_
   try simp only[Q,List.length_map] at h5p
   focus (exfalso;first|contradiction|(simp at *;done)|(simp at *;omega))
   try simp only[Q,List.length_map] at h5p
   refine rn0 (r2 rfl rfl) (.tup (.cons (.gld ?_) (.cons (.eqd ?_) .nil)))
   rotate_left 2
   try simp only[Q,List.length_map] at h3p
   refine sqF ?_
   refine Walk.call (cr:=[1]) znS (zen hl) rfl .none rfl rfl (LeL.refl _) trivial rfl rfl rfl ?_
   refine ev ?_
   refine sq (fun h7 h7p h7s=>?_) fun h7 h7p h7s=>?_
   try simp only[Q,List.length_map] at h7p
   focus (exfalso;first|contradiction|(simp at *;done)|(simp at *;omega))
   try simp only[Q,List.length_map] at h7p
   refine rn0 (r2 rfl rfl) (.tup (.cons (.gld ?_) (.cons (.eqd ?_) .nil)))
   rotate_left 2
   all_goals (first|rfl|(simp at *;done))
  ·have he':exhQ w ⟨a,k⟩ l=false:=by simpa using he
   rw[he'] at hex
   by_cases h8:l.length=8
   ·have hc:zbR w ⟨a,k⟩ l=none:=by unfold zbR;rw[if_pos hm,if_neg he,if_pos h8]
    rw[hc]
    clear hml hm he he' hc
    refine bd Tryz.f13 40 [] [] fun w0 F0 own kept hk=>?_
    refine Walk.box (id:=3004) .none rfl rfl rfl rfl rfl rfl rfl ?_
    refine ev ?_
    refine wc znR (hex) rfl rfl ?_
    refine ev ?_
    refine sq (fun h1 h1p h1s=>?_) fun h1 h1p h1s=>?_
    try simp only[Q,List.length_map] at h1p
    refine sqT ?_
    refine Walk.sliceEmpty sl28 .none rfl ?_
    refine ev ?_
    refine rn0 (r2 rfl rfl) (.tup (.cons (.eqd ?_) (.cons (.eqd ?_) .nil)))
    rotate_left 2
    try simp only[Q,List.length_map] at h1p
    refine sq (fun h3 h3p h3s=>?_) fun h3 h3p h3s=>?_
    try simp only[Q,List.length_map] at h3p
    refine sq (fun h4 h4p h4s=>?_) fun h4 h4p h4s=>?_
    try simp only[Q,List.length_map] at h4p
    refine Walk.sliceEmpty sl28 .none rfl ?_
    refine ev ?_
    refine rn0 (r2 rfl rfl) (.tup (.cons (.eqd ?_) (.cons (.eqd ?_) .nil)))
    rotate_left 2
    try simp only[Q,List.length_map] at h4p
    focus (exfalso;first|contradiction|(simp at *;done)|(simp at *;omega))
    try simp only[Q,List.length_map] at h3p
    refine sqF ?_
    focus (exfalso;first|contradiction|(simp at *;done)|(simp at *;omega))
    all_goals (rfl)
   ·have hc:zbR w ⟨a,k⟩ l=some (l++[clA]):=by unfold zbR;rw[if_pos hm,if_neg he,if_neg h8]
    rw[hc]
    have e:zbg (l++[clA]) = .sl (l.map Cl.c++[[.i 1,.i 0,.i 0,.i 0,.i 0,.sl [],.i 0,.i 0,.i 0]]):=by show D.sl ((l++[clA]).map Cl.c)=_;rw[List.map_append];rfl
    dsimp only[Option.getD_some,Option.isSome_some]
    rw[e]
    clear hml hm he he' hc e
    refine bd Tryz.f13 40 [] [] fun w0 F0 own kept hk=>?_
    refine Walk.box (id:=3004) .none rfl rfl rfl rfl rfl rfl rfl ?_
    refine ev ?_
    refine wc znR (hex) rfl rfl ?_
    refine ev ?_
    refine sq (fun h1 h1p h1s=>?_) fun h1 h1p h1s=>?_
    try simp only[Q,List.length_map] at h1p
    refine sqT ?_
    focus (exfalso;first|contradiction|(simp at *;done)|(simp at *;omega))
    try simp only[Q,List.length_map] at h1p
    refine sq (fun h3 h3p h3s=>?_) fun h3 h3p h3s=>?_
    try simp only[Q,List.length_map] at h3p
    refine sq (fun h4 h4p h4s=>?_) fun h4 h4p h4s=>?_
    try simp only[Q,List.length_map] at h4p
    focus (exfalso;first|contradiction|(simp at *;done)|(simp at *;omega))
    try simp only[Q,List.length_map] at h4p
    refine Walk.call (cr:=[1]) znS (zen hl) rfl .none rfl rfl (LeL.refl _) trivial rfl rfl rfl ?_
    refine ev ?_
    refine sq (fun h5 h5p h5s=>?_) fun h5 h5p h5s=>?_
    try simp only[Q,List.length_map] at h5p
    refine wc zkX (zdM) rfl rfl ?_
    refine Walk.build st60 (ks:=[0]) (xs:=[_]) rfl rfl .none rfl rfl rfl ?_
    refine Walk.sliceLit sl28 tz60 rfl (by decide) (ks:=[0]) (xs:=[_]) rfl rfl (by decide) (by decide) .none rfl rfl rfl rfl ?_
    refine Walk.append sl28 zz60 rfl .none rfl rfl rfl rfl (zaw rfl (by first|rfl|(simp;done)|(simp;omega))) (by intro x hx;simp at hx;subst hx;rfl) (by simp;omega) (by simp;omega) ?_
    refine ev ?_
    refine rn0 (r2 rfl rfl) (.tup (.cons (.gld ?_) (.cons (.eqd ?_) .nil)))
    rotate_left 2
    try simp only[Q,List.length_map] at h5p
    focus (exfalso;first|contradiction|(simp at *;done)|(simp at *;omega))
    try simp only[Q,List.length_map] at h3p
    refine sqF ?_
    refine Walk.call (cr:=[1]) znS (zen hl) rfl .none rfl rfl (LeL.refl _) trivial rfl rfl rfl ?_
    refine ev ?_
    refine sq (fun h7 h7p h7s=>?_) fun h7 h7p h7s=>?_
    try simp only[Q,List.length_map] at h7p
    refine wc zkX (zdM) rfl rfl ?_
    refine Walk.build st60 (ks:=[0]) (xs:=[_]) rfl rfl .none rfl rfl rfl ?_
    refine Walk.sliceLit sl28 tz60 rfl (by decide) (ks:=[0]) (xs:=[_]) rfl rfl (by decide) (by decide) .none rfl rfl rfl rfl ?_
    refine Walk.append sl28 zz60 rfl .none rfl rfl rfl rfl (zaw rfl (by first|rfl|(simp;done)|(simp;omega))) (by intro x hx;simp at hx;subst hx;rfl) (by simp;omega) (by simp;omega) ?_
    refine ev ?_
    refine rn0 (r2 rfl rfl) (.tup (.cons (.gld ?_) (.cons (.eqd ?_) .nil)))
    rotate_left 2
    try simp only[Q,List.length_map] at h7p
    focus (exfalso;first|contradiction|(simp at *;done)|(simp at *;omega))
    all_goals (first|rfl|(simp at *;done))
 ·have hm':(zbx w ⟨a,k⟩ l).isSome=false:=by simpa using hm
  have hc:zbR w ⟨a,k⟩ l=none:=by unfold zbR;rw[if_neg hm]
  rw[hm'] at hex
  rw[hc]
  clear hml hm hm' hc
  refine bd Tryz.f13 40 [] [] fun w0 F0 own kept hk=>?_
  refine Walk.box (id:=3004) .none rfl rfl rfl rfl rfl rfl rfl ?_
  refine ev ?_
  refine wc znR (hex) rfl rfl ?_
  refine ev ?_
  refine sq (fun h1 h1p h1s=>?_) fun h1 h1p h1s=>?_
  try simp only[Q,List.length_map] at h1p
  refine sqT ?_
  refine Walk.sliceEmpty sl28 .none rfl ?_
  refine ev ?_
  refine rn0 (r2 rfl rfl) (.tup (.cons (.eqd ?_) (.cons (.eqd ?_) .nil)))
  rotate_left 2
  try simp only[Q,List.length_map] at h1p
  refine sq (fun h3 h3p h3s=>?_) fun h3 h3p h3s=>?_
  try simp only[Q,List.length_map] at h3p
  refine sq (fun h4 h4p h4s=>?_) fun h4 h4p h4s=>?_
  try simp only[Q,List.length_map] at h4p
  refine Walk.sliceEmpty sl28 .none rfl ?_
  refine ev ?_
  refine rn0 (r2 rfl rfl) (.tup (.cons (.eqd ?_) (.cons (.eqd ?_) .nil)))
  rotate_left 2
  try simp only[Q,List.length_map] at h4p
  focus (exfalso;first|contradiction|(simp at *;done)|(simp at *;omega))
  try simp only[Q,List.length_map] at h3p
  refine sqF ?_
  focus (exfalso;first|contradiction|(simp at *;done)|(simp at *;omega))
  all_goals (rfl)
mutual
def hitP:Pat→Val→Bool
 | .mk op c n m _ ks,v=>if op=3 then zar v.num n m else if op=4 then decide (c=v.ctor)&&hitL ks v.kids else true
def hitL:List Pat→List Val→Bool
 |p::r,v::s=>hitP p v&&hitL r s
 |_,_=>true
end
def one (b:Bool):Nat:=if b=true then 1 else 0
section
variable {w:List Data} (hs:Spa w)
include hs
end
theorem zpA {w:List Data}{t:Ty}{l:List Cl}{ps:List Pat} (hm:zbx w t l=some ps):zba w t l=true∧∃away,zbj l []=some away∧zaE w t [anyQ] away=some ps∧ps.all (isP w t)=true:=by
 unfold zbx at hm
 split at hm
 ·rename_i hv
  refine⟨hv, ?_⟩
  unfold zds at hm
  cases hq:zbj l [] with
  |none=>rw[hq] at hm;simp at hm
  |some away=>
   rw[hq] at hm
   cases hw:zaE w t [anyQ] away with
   |none=>simp[hw] at hm
   |some r=>
    simp only[hw] at hm
    by_cases hr:r.all (isP w t)=true
    ·refine⟨away,rfl, ?_⟩
     simp[hr] at hm
     subst hm
     exact⟨hw,hr⟩
    ·simp[hr] at hm
 ·cases hm
theorem Vals.size_of {m:Nat}:∀ {l:List Val},(∀k∈l,k.size≤m)→Vals.size l≤l.length*m
 | [],_=>by simp[Vals.size]
 |x::r,h=>by
  have h1:=h x (by simp)
  have h2:=Vals.size_of (l:=r) (fun y hy=>h y (by simp[hy]))
  simp only[Vals.size,List.length_cons,Nat.succ_mul];omega
theorem zpq {w:List Data}{a k:Int}{l m:List Cl} (h:zba w ⟨a,k⟩ l=true) (hm:∀c∈m,clOk w ⟨a,k⟩ c=true) (hlen:m.length≤8):zba w ⟨a,k⟩ m=true:=by
 unfold zba at h ⊢
 rw[Bool.and_eq_true] at h
 rw[h.1,Bool.true_and,Bool.and_eq_true]
 refine⟨by simp;omega, ?_⟩
 rw[Bool.not_eq_true',List.any_eq_false]
 intro c hc
 rw[hm c hc];simp
theorem ztg {w:List Data}{a k:Int}{l:List Cl} (h:zba w ⟨a,k⟩ l=true):∀c∈l,clOk w ⟨a,k⟩ c=true:=by
 unfold zba at h
 simp only[Bool.and_eq_true,Bool.not_eq_true',List.any_eq_false] at h
 intro c hc
 simpa using h.2.2 c hc
structure CaseW (w:List Data):Prop where
 small:WSmall w
 valid:zaG w=true
 one:1≤w.length
 ct:∀k:Int,k=0∨k=1∨k=2→1≤(zam w ⟨0,k⟩).length
theorem Pats.len_size:∀l:List Pat,l.length≤Pats.size l
 | []=>Nat.zero_le _
 |v::r=>by
  have:=Pats.len_size r
  have h:=Pat.size_eq v
  simp only[List.length_cons,Pats.size];omega
theorem zp6 {x:Pat} (hx:x.ok):∀ {l:List Pat}{i:Nat},Pats.ok l→Pats.ok (l.set i x)
 | [],_,_=>by simp[Pats.ok]
 |y::r,0,h=>⟨hx,h.2⟩
 |y::r,i+1,h=>⟨h.1,zp6 hx h.2⟩
theorem zpJ {x:Pat} (hx:x.ok):∀ {l:List Pat},Pats.ok l→Pats.ok (l++[x])
 | [],_=>⟨hx,trivial⟩
 |y::r,h=>⟨h.1,zpJ hx h.2⟩
theorem zmH {x:Pat}:∀ {l:List Pat}{i:Nat},Pats.size (l.set i x)≤Pats.size l+x.size
 | [],_=>by simp[Pats.size]
 |y::r,0=>by simp only[List.set_cons_zero,Pats.size];omega
 |y::r,i+1=>by have:=zmH (x:=x) (l:=r) (i:=i);simp only[List.set_cons_succ,Pats.size];omega
theorem ztv {b:Str}{p:Pat}{q:Nat} (hs:p.size≤1000) (hok:p.ok):(mutP b p q).1.size≤2000∧(mutP b p q).1.ok:=by
 have hv:zbF.size=1∧zbF.ok:=⟨by rw[Pat.size_eq];rfl,by rw[Pat.ok_iff];exact⟨by simp[zbF,Pat.kids],trivial⟩⟩
 have h0:=Pat.size_eq p
 rw[Pat.ok_iff] at hok
 have same:∀a c n m v:Int,(Pat.mk a c n m v p.kids).size≤2000∧(Pat.mk a c n m v p.kids).ok:=fun a c n m v=>by
  refine⟨by rw[Pat.size_eq];show 1+Pats.size p.kids≤_;omega,by rw[Pat.ok_iff];exact hok⟩
 unfold mutP
 split;exact same _ _ _ _ _
 split;exact same _ _ _ _ _
 split;exact same _ _ _ _ _
 split
 ·refine⟨?_, ?_⟩
  ·dsimp only;rw[Pat.size_eq];show 1+Pats.size (p.kids++[zbF])≤_;rw[Pats.size_snoc];omega
  ·dsimp only;rw[Pat.ok_iff];refine⟨?_,zpJ hv.2 hok.2⟩
   show(p.kids++[zbF]).length≤_
   have:=Pats.len_size p.kids
   simp only[List.length_append,List.length_singleton];omega
 split
 ·refine⟨?_, ?_⟩
  ·dsimp only;rw[Pat.size_eq];show 1+Pats.size (p.kids.set 0 zbF)≤_
   have:=zmH (x:=zbF) (l:=p.kids) (i:=0);omega
  ·dsimp only;rw[Pat.ok_iff];exact⟨by show(p.kids.set 0 zbF).length≤_;rw[List.length_set];exact hok.1,zp6 hv.2 hok.2⟩
 split;exact same _ _ _ _ _
 exact same _ _ _ _ _
def smB (n:Nat) (w:List Data):Bool:=decide (w.length≤n)&&w.all fun d=>decide (d.name.length≤n)&&(decide (d.ctors.length≤n)&&d.ctors.all fun c=>decide (c.name.length≤n)&&decide (c.args.length≤n))
structure Sm (n:Nat) (w:List Data):Prop where
 len:w.length≤n
 data:∀d∈w,d.name.length≤n∧d.ctors.length≤n
 ctor:∀d∈w,∀c∈d.ctors,c.name.length≤n∧c.args.length≤n
theorem zrX {n:Nat}{w:List Data} (h:smB n w=true):Sm n w:=by
 simp only[smB,Bool.and_eq_true,decide_eq_true_eq,List.all_eq_true] at h
 exact⟨h.1,fun d hd=>⟨(h.2 d hd).1,(h.2 d hd).2.1⟩,fun d hd c hc=>(h.2 d hd).2.2 c hc⟩
theorem Sm.small {n:Nat}{w:List Data} (h:Sm n w) (hn:n≤1000000000000):WSmall w:=
 ⟨Nat.le_trans h.len hn,fun d hd=>⟨Nat.le_trans (h.data d hd).1 hn,Nat.le_trans (h.data d hd).2 hn⟩,fun d hd c hc=>⟨Nat.le_trans (h.ctor d hd c hc).1 hn,Nat.le_trans (h.ctor d hd c hc).2 hn⟩⟩
theorem zqS:((List.range 7).all fun i=>smB 10 (zdz (nth zdN i)).1&&(zaG (zdz (nth zdN i)).1&&decide (1≤(zdz (nth zdN i)).1.length)))=true:=by kernel_rfl
structure WorldD (w:List Data):Prop where
 sm:Sm 10 w
 small:WSmall w
 valid:zaG w=true
 one:1≤w.length
theorem zht (b:Str) (p:Nat):WorldD (zbH b p):=by
 have h:=List.all_eq_true.1 zqS (zan b p 7).toNat (List.mem_range.2 (zqG b p))
 simp only[Bool.and_eq_true,decide_eq_true_eq] at h
 exact⟨zrX h.1,(zrX h.1).small (by omega),h.2.1,h.2.2⟩
theorem zmP {w:List Data} (hw:WT w){n:Nat}{f:Nat→Nat}{a k c:Int} (ht:TyIn w.length ⟨a,k⟩) (hc:c∈zam w ⟨a,k⟩) (hn:n≤100) (hb:∀s,f s≤100000) (hin:∀u∈zab w ⟨a,k⟩ c,InS n u):
  FnD Tryz.prog 200 [.d (zal w),.d (zfK n f),.agg [.d (.i a),.d (.i k)],.d (.i c)] [] (.d (.i (most w f ⟨a,k⟩ c))) []:=by
 have hl:=zgC hw ht hc
 have hd:=znU hb (by omega)
 refine bd Tryz.f200 37 [] [] fun w0 F0 own kept hk=>?_
 refine Walk.box (id:=3006) .none rfl rfl rfl rfl rfl rfl rfl ?_
 refine ev ?_
 refine wc zfJ (zcq hw ht hc) rfl rfl ?_
 refine ev ?_
 refine CWp.loopX (ι:=List (Ty)×List (Ty)×(Nat)) hk (fun x=>[(11,.d (.i (x.1.length:Int))),(10,.d (.i (x.2.2:Int)))]) [8,12,17,18,19,20,21,22,23,24,25,26,27,28,29,30,31,32,33,34] (fun x=>[]) (fun x=>x.1++x.2.1=zab w ⟨a,k⟩ c∧x.2.2≤100000∧zbB f x.2.2 x.2.1=zbB f 0 (zab w ⟨a,k⟩ c)) (fun x=>x.2.1.length) ([],zab w ⟨a,k⟩ c,0) ⟨by simp,by simp,rfl⟩ ⟨⟨_,rfl,LeA.eqi ?_⟩,⟨⟨_,rfl,LeA.eqi ?_⟩,trivial⟩⟩ trivial (fun x=>rfl) (fun x hg1=>?_)
 iterate 2 focus (first|rfl|(simp;done)|omega|(dsimp only;omega))
 obtain⟨pre,rest,m⟩:=x
 dsimp only at hg1 ⊢
 refine evc [] [] ?_
 refine sq (fun h1 h1p h1s=>?_) fun h1 h1p h1s=>?_
 try simp only[Q] at h1p
 rcases rest with _|⟨y,rest⟩
 ·exfalso;simp_all
 have hdy:=hd y;have hye:dv f ⟨y.data,y.index⟩=dv f y:=rfl
 refine Walk.idx zaZ .none rfl rfl rfl rfl (zaD hg1.1) rfl ?_
 refine ev ?_
 refine wc ziS (zdY (f:=f) (a:=y.data) (k:=y.index) (hin y (by rw[←hg1.1];simp)) hn) rfl rfl ?_
 refine ev ?_
 refine sq (fun h2 h2p h2s=>?_) fun h2 h2p h2s=>?_
 try simp only[Q] at h2p
 refine rn0 (r1 rfl) (.eqd ?_)
 rotate_left
 try simp only[Q] at h2p
 refine sq (fun h3 h3p h3s=>?_) fun h3 h3p h3s=>?_
 try simp only[Q] at h3p
 refine ar ?_
 refine Exists.intro ((pre++[y],rest,max m (dv f y))) ⟨⟨(by have hz:=hg1.1;rw[←hz];simp),⟨(by have:=hd y;dsimp only;omega),(by rw[←hg1.2.2];simp only[zbB];rw[if_neg (by have:=hd y;omega)])⟩⟩,(by simp),sx ⟨⟨_,rfl,LeA.eqi ?_⟩,⟨⟨_,rfl,LeA.eqi ?_⟩,trivial⟩⟩ trivial⟩
 iterate 2 focus (first|rfl|(simp;done)|omega|(dsimp only;omega))
 try simp only[Q] at h3p
 refine ar ?_
 refine Exists.intro ((pre++[y],rest,max m (dv f y))) ⟨⟨(by have hz:=hg1.1;rw[←hz];simp),⟨(by have:=hd y;dsimp only;omega),(by rw[←hg1.2.2];simp only[zbB];rw[if_neg (by have:=hd y;omega)])⟩⟩,(by simp),sx ⟨⟨_,rfl,LeA.eqi ?_⟩,⟨⟨_,rfl,LeA.eqi ?_⟩,trivial⟩⟩ trivial⟩
 iterate 2 focus (first|rfl|(simp;done)|omega|(dsimp only;omega))
 try simp only[Q] at h1p
 have hrest:rest=[]:=by
  rcases rest with _|⟨a,b⟩
  ·rfl
  ·exfalso;have hz:=congrArg List.length (hg1.1);simp only[List.length_append,List.length_cons,List.length_map] at hz;omega
 subst hrest
 refine ar ?_
 refine rn0 (r1 rfl) (.eqd ?_)
 rotate_left
 all_goals (refine congrArg D.i ?_;unfold most;rw[←hg1.2.2];first|(simp only[zbB];rw[if_pos (by omega)];rfl)|(simp only[zbB];omega))
def hdB (w:List Data):Nat→Ty→Bool
 |0,_=>false
 |d+1,t=>decide (t.data = -1)||(za7 w t).any fun c=>decide (t.data≠ -1)&&(zab w t c).all (hdB w d)
theorem zmu (w:List Data):∀(d:Nat) (t:Ty),hdB w d t=true↔Hd w d t
 |0,t=>by simp[hdB,Hd]
 |d+1,t=>by
  simp only[hdB,Hd,Bool.or_eq_true,decide_eq_true_eq,List.any_eq_true,Bool.and_eq_true,List.all_eq_true,zmu w d]
def Low (w:List Data):Prop:=∀s,zaj w s≤3
theorem zuS {w:List Data} (hd:Dp w) (h:(List.range (w.length*4)).all (fun s=> !hdB w 4 (tyS s)||hdB w 3 (tyS s))=true):Low w:=by
 intro s
 by_cases hs:s<w.length*4
 ·obtain⟨h1,h2⟩:=zdH hd.cl (w.length*4+1)
  by_cases h0:zaj w s=0
  ·omega
  ·have hh:=h1 s hs (Nat.pos_of_ne_zero h0)
   have h3:=zi3 hd.cl (d:=3) (by omega) (fun s hs hh=>by
    have:=List.all_eq_true.1 h s (List.mem_range.2 hs)
    rw[(zmu w 4 (tyS s)).2 hh] at this
    exact(zmu w 3 _).1 (by simpa using this)) _ s hs hh
   by_cases h4:3≤w.length*4+1
   ·exact(h2 s hs 3 h4 h3).2
   ·omega
 ·have h0:=zij (w:=w) (i:=s) (by omega) (w.length*4+1)
  show zbi w (w.length*4+1) s≤3
  omega
theorem zqT:((List.range 7).all fun i=>(List.range ((zdz (nth zdN i)).1.length*4)).all fun s=> !hdB (zdz (nth zdN i)).1 4 (tyS s)||hdB (zdz (nth zdN i)).1 3 (tyS s))=true:=by kernel_rfl
structure WorldL (w:List Data):Prop where
 dp:Dp w
 low:Low w
 few:Few w
theorem zfc (b:Str) (p:Nat):WorldL (zbH b p):=by
 have ho:=zht b p
 have hd:=zpk ho.small ho.valid
 exact⟨hd,zuS hd (List.all_eq_true.1 zqT (zan b p 7).toNat (List.mem_range.2 (zqG b p))),zr7 ho.small ho.valid⟩
theorem zrG {w:List Data} (hd:Dp w){t:Ty} (ht:InS (w.length*4) t) (hne:¬t.data = -1) (h:0<dv (zaj w) t):∃c∈zam w t,0<most w (zaj w) t c∧most w (zaj w) t c=dv (zaj w) t:=by
 obtain⟨h1,h2⟩:Snd w (zaj w)∧Cmp w (w.length*4+1) (zaj w):=zdH hd.cl (w.length*4+1)
 have hcmp:∀k,Cmp w k (zaj w):=fun k=>by
  have h3:=(zdH hd.cl (max k (w.length*4+1))).2
  rw[zjI hd.cl (Nat.le_max_right _ _)] at h3
  exact fun s hs d hdk hh=>h3 s hs d (by omega) hh
 have hv:zam w t=za7 w t:=by unfold zam;rw[if_neg hne]
 have hh:Hd w (dv (zaj w) t) t:=znV h1 ht h
 rcases hd0:dv (zaj w) t with _|e
 ·omega
 rw[hd0] at hh
 rcases hh with hh|⟨c,hc,_,hu⟩
 ·exact absurd hh hne
 have hin:=zbY hd ht (c:=c) (by rw[hv];exact hc)
 have hp:=zjd (f:=zaj w) (l:=zab w t c) (m:=0) (k:=e) (Nat.zero_le _) (fun u hu'=>zk6 (hcmp e) (hin u hu') (hu u hu'))
 refine⟨c,by rw[hv];exact hc,hp.1, ?_⟩
 have hle:most w (zaj w) t c≤e+1:=hp.2
 have hpos:0<most w (zaj w) t c:=hp.1

 have hsn:=zhd (f:=zaj w) (l:=zab w t c) (m:=0) hp.1
 have hH:Hd w (most w (zaj w) t c) t:=by
  obtain⟨q,hq⟩:∃q,most w (zaj w) t c=q+1:=⟨most w (zaj w) t c-1,by omega⟩
  rw[hq]
  refine .inr ⟨c,hc,hne,fun u hu'=>?_⟩
  have hx:=hsn.2 u hu'
  have hlt:dv (zaj w) u<most w (zaj w) t c:=hx.2
  exact Hd_le (by omega) (znV h1 (hin u hu') hx.1)
 have hge:=(zk6 (hcmp _) ht hH).2
 omega
def zcT (w:List Data) (f:Nat→Nat) (t:Ty) (m c:Int):Bool:=decide (0<most w f t c)&&decide ((most w f t c:Int)≤m∨most w f t c=dv f t)
def zch (w:List Data) (f:Nat→Nat) (t:Ty) (m:Int):List Int:=(zam w t).filter (zcT w f t m)
theorem zfh {P:Int→Bool}{pre:List Int}{y:Int} (h:P y=true):((pre++[y]).filter P).map (fun n=>[D.i n])=(pre.filter P).map (fun n=>[D.i n])++[[D.i y]]:=by simp[List.filter_append,h]
theorem zmq {P:Int→Bool}{pre:List Int}{y:Int} (h:P y=false):((pre++[y]).filter P).map (fun n=>[D.i n])=(pre.filter P).map (fun n=>[D.i n]):=by simp[List.filter_append,h]
def dV (f:Ty→Nat→Val×Nat):List Ty→Nat→List Val×Nat
 | [],q=>([],q)
 |t::r,q=>((f t q).1::(dV f r (f t q).2).1,(dV f r (f t q).2).2)
def zb1 (b:Str) (w:List Data) (f:Nat→Nat):Nat→Ty→Int→Nat→Val×Nat
 |0,_,_,p=>(.mk 0 0 [],p)
 |n+1,t,m,p=>
  if t.data = -1 then (.mk (-1) (zan b p 10) [],p+1)
  else (.mk (nth (zch w f t m) (zan b p (zch w f t m).length).toNat) 0 (dV (fun u q=>zb1 b w f n u (m-1) q) (zab w t (nth (zch w f t m) (zan b p (zch w f t m).length).toNat)) (p+1)).1,
   (dV (fun u q=>zb1 b w f n u (m-1) q) (zab w t (nth (zch w f t m) (zan b p (zch w f t m).length).toNat)) (p+1)).2)
abbrev dW (b:Str) (w:List Data) (n:Nat) (m:Int):Ty→Nat→Val×Nat:=fun u x=>zb1 b w (zaj w) n u (m-1) x
def bdV:Nat→Nat
 |0=>0
 |d+1=>1+3*bdV d
def szV:Nat→Nat
 |0=>1
 |d+1=>1+3*szV d
theorem zsV {f:Ty→Nat→Val×Nat}{k:Nat}:∀(l:List Ty) (q:Nat),(∀t∈l,∀q,(f t q).2≤q+k)→(dV f l q).2≤q+l.length*k
 | [],q,_=>by simp[dV]
 |t::r,q,h=>by
  have h1:=h t (by simp) q
  have h2:=zsV r (f t q).2 (fun x hx=>h x (by simp[hx]))
  simp only[dV,List.length_cons,Nat.add_mul];omega
theorem zrr {f:Ty→Nat→Val×Nat}:∀(l:List Ty) (q:Nat),(dV f l q).1.length=l.length
 | [],q=>rfl
 |t::r,q=>by simp only[dV,List.length_cons,zrr r]
theorem zsW {f:Ty→Nat→Val×Nat}{k:Nat}:∀(l:List Ty) (q:Nat),(∀t∈l,∀q,(f t q).1.size≤k∧(f t q).1.ok)→Vals.size (dV f l q).1≤l.length*k∧Vals.ok (dV f l q).1
 | [],q,_=>by simp[dV,Vals.size,Vals.ok]
 |t::r,q,h=>by
  have h1:=h t (by simp) q
  have h2:=zsW r (f t q).2 (fun x hx=>h x (by simp[hx]))
  simp only[dV,List.length_cons,Nat.add_mul,Vals.size,Vals.ok]
  exact⟨by omega,h1.2,h2.2⟩
theorem zi2 {w:List Data}{f:Nat→Nat}{t:Ty}{m c:Int} (h:c∈zch w f t m):c∈zam w t∧0<most w f t c∧((most w f t c:Int)≤m∨most w f t c=dv f t):=by
 have:=List.mem_filter.1 h
 simpa [zcT] using this
structure Deep (w:List Data) (n:Nat) (t:Ty) (m:Int):Prop where
 ins:InS (w.length*4) t
 pos:0<dv (zaj w) t
 le:dv (zaj w) t≤n
 ml:m≤n
theorem zov {w:List Data} (hd:Dp w){n:Nat}{t:Ty}{m:Int} (h:Deep w n t m) (hne:¬t.data = -1):1≤(zch w (zaj w) t m).length:=by
 obtain⟨c,hc,h1,h2⟩:=zrG hd h.ins hne h.pos
 exact List.length_pos_of_mem (a:=c) (List.mem_filter.2 ⟨hc,by have:=h.pos;simp[zcT,h2,this]⟩)
theorem zor {w:List Data} (hd:Dp w){n:Nat}{t:Ty}{m c:Int} (h:Deep w (n+1) t m) (hc:c∈zch w (zaj w) t m):∀u∈zab w t c,Deep w n u (m-1):=by
 intro u hu
 obtain⟨h1,h2,h3⟩:=zi2 hc
 have hin:=zbY hd h.ins h1 u hu
 have hs:=(zhd (f:=zaj w) (l:=zab w t c) (m:=0) h2).2 u hu
 have hlt:dv (zaj w) u<most w (zaj w) t c:=hs.2
 have:=h.le;have:=h.ml
 exact⟨hin,hs.1,by rcases h3 with h3|h3<;>omega,by omega⟩
theorem znq {w:List Data} (hd:Dp w){n:Nat}{t:Ty}{m:Int} (h:Deep w n t m) (hne:¬t.data = -1) (b:Str) (p:Nat):nth (zch w (zaj w) t m) (zan b p (zch w (zaj w) t m).length).toNat∈zch w (zaj w) t m:=
 zio (by have:=zov hd h hne;omega)
theorem zh8 {b:Str}{w:List Data} (hd:Dp w) (hf:Few w):∀(n:Nat) (t:Ty) (m:Int) (p:Nat),Deep w n t m→(zb1 b w (zaj w) n t m p).2≤p+bdV n∧(zb1 b w (zaj w) n t m p).1.size≤szV n∧(zb1 b w (zaj w) n t m p).1.ok
 |0,t,m,p,h=>by have:=h.pos;have:=h.le;omega
 |n+1,t,m,p,h=>by
  simp only[zb1,bdV,szV]
  split
  ·refine⟨by dsimp only;omega, ?_, ?_⟩
   ·simp only[Val.size,Vals.size];omega
   ·simp[Val.ok,Vals.ok]
  ·rename_i hne
   have hm:=znq hd h hne b p
   generalize nth (zch w (zaj w) t m) (zan b p (zch w (zaj w) t m).length).toNat=c at *
   have hk:=zor hd h hm
   have h3:=(hf t c (zi2 hm).1 (zb6 h.ins)).1
   have h1:=zsV (f:=fun u q=>zb1 b w (zaj w) n u (m-1) q) (k:=bdV n) (zab w t c) (p+1) (fun u hu q=>(zh8 hd hf n u (m-1) q (hk u hu)).1)
   have h2:=zsW (f:=fun u q=>zb1 b w (zaj w) n u (m-1) q) (k:=szV n) (zab w t c) (p+1) (fun u hu q=>(zh8 hd hf n u (m-1) q (hk u hu)).2)
   have h4:(zab w t c).length*bdV n≤3*bdV n:=Nat.mul_le_mul_right _ h3
   have h5:(zab w t c).length*szV n≤3*szV n:=Nat.mul_le_mul_right _ h3
   have h6:=zrr (f:=fun u q=>zb1 b w (zaj w) n u (m-1) q) (zab w t c) (p+1)
   refine⟨by dsimp only;omega, ?_, ?_⟩
   ·simp only[Val.size];omega
   ·simp only[Val.ok];exact⟨by omega,h2.2⟩
section
variable {b:Str}{w:List Data}{f:Nat→Nat}{n p:Nat}{t:Ty}{m:Int}
theorem ztm (h:t.data = -1):zb1 b w f (n+1) t m p=(.mk (-1) (zan b p 10) [],p+1):=by simp only[zb1];rw[if_pos h]
theorem ztn (h:¬t.data = -1){c:Int} (hc:nth (zch w f t m) (zan b p (zch w f t m).length).toNat=c):zb1 b w f (n+1) t m p =
  (.mk c 0 (dV (fun u q=>zb1 b w f n u (m-1) q) (zab w t c) (p+1)).1,(dV (fun u q=>zb1 b w f n u (m-1) q) (zab w t c) (p+1)).2):=by
 simp only[zb1];rw[if_neg h,hc]
end
theorem zhT {b:Str}{w:List Data} (hb:b.length≤2000) (hd:Dp w) (hf:Few w):∀(n:Nat){a k m:Int}{p:Nat},Deep w n ⟨a,k⟩ m→(n:Int)-10≤m→n≤5→p+bdV n≤1000000→
  FnD Tryz.prog 173 [.ref 900 0,.d (zal w),.d (zfK (w.length*4) (zaj w)),.agg [.d (.i a),.d (.i k)],.d (.i m)] [(900,some (rdB b p))]
   (.agg [.d (.i (zb1 b w (zaj w) n ⟨a,k⟩ m p).1.ctor),.d (.i (zb1 b w (zaj w) n ⟨a,k⟩ m p).1.num),.d (zjE (zb1 b w (zaj w) n ⟨a,k⟩ m p).1.kids)]) [(900,some (rdB b (zb1 b w (zaj w) n ⟨a,k⟩ m p).2))]
 |0,a,k,m,p,h,_,_,_=>by have:=h.pos;have:=h.le;omega
 |n+1,a,k,m,p,h,hm,hn5,hp=>by
  have ht:=zb6 h.ins
  have hml:=h.ml
  have h4:=hd.four
  have hbd:bdV (n+1)=1+3*bdV n:=rfl
  have hfb:∀s,zaj w s≤100000:=zmF hd (k:=w.length*4+1) (s:=0) (by omega) (by omega) (pre:=[]) (by simp)
  have hcl:=zgu hd.wt ht
  have hfl:(zch w (zaj w) ⟨a,k⟩ m).length≤(zam w ⟨a,k⟩).length:=List.length_filter_le _ _
  have hflm:((((zam w ⟨a,k⟩).filter (zcT w (zaj w) ⟨a,k⟩ m)).map fun n=>[D.i n]).length:Int)=(zch w (zaj w) ⟨a,k⟩ m).length:=by rw[List.length_map];rfl
  have hfp:=fun hne=>zov hd h hne
  have v14:=fun hh=>zcP (b:=b) (p:=p) (n:=((zch w (zaj w) ⟨a,k⟩ m).length:Int)) hh
  have hmem:=fun hne=>znq hd h hne b p
  have hdm:=ztm (b:=b) (w:=w) (f:=zaj w) (n:=n) (p:=p) (t:=⟨a,k⟩) (m:=m)
  have hdm2:=fun hne=>ztn (b:=b) (w:=w) (f:=zaj w) (n:=n) (p:=p) (t:=⟨a,k⟩) (m:=m) hne rfl
  generalize hcc:nth (zch w (zaj w) ⟨a,k⟩ m) (zan b p (zch w (zaj w) ⟨a,k⟩ m).length).toNat=cc at *
  have hfm:=fun hne=>zi2 (hmem hne)
  have hkid:=fun hne=>zor hd h (hmem hne)
  have hfw:=fun hne=>(hf ⟨a,k⟩ cc (hfm hne).1 ht).1
  have hok:=fun u q hu=>zh8 (b:=b) hd hf n u (m-1) q hu
  have hat:¬a = -1→(((zam w ⟨a,k⟩).filter (zcT w (zaj w) ⟨a,k⟩ m)).map fun n=>[D.i n])[(zan b p (zch w (zaj w) ⟨a,k⟩ m).length).toNat]?=some [D.i cc]:=fun hne=>by
   rw[←hcc];exact zaq (l:=zch w (zaj w) ⟨a,k⟩ m) (by have:=v14 (by have:=hfp hne;omega);omega)
  refine bd Tryz.f173 98 [] [9,11] fun w0 F0 own kept hk=>?_
  refine Walk.box (id:=3008) .none rfl rfl rfl rfl rfl rfl rfl ?_
  refine Walk.alloc (id:=3010) tz62 rfl .none rfl rfl rfl rfl ?_
  refine tv ?_
  refine sq (fun h1 h1p h1s=>?_) fun h1 h1p h1s=>?_
  try simp only[Q] at h1p
  refine Walk.call (cr:=[]) zcg (zaQ (p:=p) (n:=10) hb (by omega) (by omega)) rfl .none rfl rfl (LeL.refl _) ⟨rfl,trivial⟩ rfl rfl rfl ?_
  refine Walk.build st62 (ks:=[0,1]) (xs:=[_,_]) rfl rfl .none rfl rfl rfl ?_
  refine Walk.store ty62 .none rfl rfl rfl rfl rfl rfl (by simp) rfl ?_
  refine tv ?_
  refine rn [(900,some (rdB b (zb1 b w (zaj w) (n+1) ⟨a,k⟩ m p).2))] (.cons (.cellA ty62 rfl rfl rfl) .nil) (.agg (.cons (.eqd ?_) (.cons (.eqd ?_) (.cons (.nild ?_) .nil)))) ⟨rfl,rfl⟩ (SubO.get ⟨.inr ?_,⟨.inl rfl,trivial⟩⟩) (zaB rfl)
  rotate_left 4
  try simp only[Q] at h1p
  refine wc zfH (zcd hd.wt ht) rfl rfl ?_
  refine ev ?_
  refine Walk.sliceEmptyG 5 za0 .none rfl rfl ?_
  refine ev ?_
  refine CWp.loopX (ι:=List (Int)×List (Int)) hk (fun x=>[(13,.d (.i (x.1.length:Int))),(12,.gl 5 ((x.1.filter (zcT w (zaj w) ⟨a,k⟩ m)).map fun n=>[D.i n]))]) [14,28,29,30,31,32,33,34,35,36,37,38,39,40,41,42,43,44,45,46,47,48,49,50,51,52,53,54,55,56,57,58,59,60,61,62] (fun x=>[(5,some (.tok (((x.1.filter (zcT w (zaj w) ⟨a,k⟩ m)).map fun n=>[D.i n])).length 1))]) (fun x=>x.1++x.2=zam w ⟨a,k⟩) (fun x=>x.2.length) ([],zam w ⟨a,k⟩) (by simp) ⟨⟨_,rfl,LeA.eqi ?_⟩,⟨⟨_,rfl,LeA.glg ?_⟩,trivial⟩⟩ ⟨zaa ?_,trivial⟩ (fun x=>rfl) (fun x hg1=>?_)
  iterate 3 focus (first|rfl|(simp;done)|omega|(rw[zfh (by assumption)];all_goals rfl)|(rw[zmq (by assumption)];all_goals rfl)|(rw[zfh (by assumption)];simp;done)|(simp;omega))
  obtain⟨pre,rest⟩:=x
  dsimp only at hg1 ⊢
  refine evc [] [9,11] ?_
  refine sq (fun h2 h2p h2s=>?_) fun h2 h2p h2s=>?_
  try simp only[Q] at h2p
  rcases rest with _|⟨y,rest⟩
  ·exfalso;simp_all
  refine Walk.idx za0 .none rfl rfl rfl rfl (zaD hg1) rfl ?_
  refine evd [] [] ?_
  refine wc zq5 (zmP hd.wt ht (c:=y) (by rw[←hg1];simp) (by omega) hfb (zbY hd h.ins (by rw[←hg1];simp))) rfl rfl ?_
  refine evd [] [] ?_
  refine dr ?_
  refine CWp.regionJ ?_
  refine WRest.join 14 [(55,.d (.bool (zcT w (zaj w) ⟨a,k⟩ m y)))] [42,43,44,45,46,47,48,49,50,51,52,53,54] ?_ ?_
  refine ev ?_
  refine sq (fun h3 h3p h3s=>?_) fun h3 h3p h3s=>?_
  try simp only[Q] at h3p
  refine sq (fun h4 h4p h4s=>?_) fun h4 h4p h4s=>?_
  try simp only[Q] at h4p
  focus (exact jn rfl (LeA.eqb (by first|rfl|(unfold zcT;rw[Bool.eq_iff_iff];simp_all;done)|(unfold zcT;rw[Bool.eq_iff_iff];simp_all;omega))))
  try simp only[Q] at h4p
  refine Walk.call (cr:=[]) ziS (zdY h.ins (by omega)) rfl (.some rfl rfl h4) rfl rfl (LeL.refl _) trivial rfl rfl rfl ?_
  refine evs [] [(44,true),(48,false)] ?_ ⟨⟨_,rfl,h3⟩,⟨_,rfl,h4⟩,trivial⟩
  focus (exact jn rfl (LeA.eqb (by first|rfl|(unfold zcT;rw[Bool.eq_iff_iff];simp_all;done)|(unfold zcT;rw[Bool.eq_iff_iff];simp_all;omega))))
  try simp only[Q] at h3p
  focus (exact jn rfl (LeA.eqb (by first|rfl|(unfold zcT;rw[Bool.eq_iff_iff];simp_all;done)|(unfold zcT;rw[Bool.eq_iff_iff];simp_all;omega))))
  refine WRest.done ?_
  refine tv ?_
  refine sq (fun h5 h5p h5s=>?_) fun h5 h5p h5s=>?_
  try simp only[Q] at h5p
  refine Walk.idx za0 .none rfl rfl rfl rfl (zaD hg1) rfl ?_
  refine ev ?_
  refine Walk.sliceLit za0 tz3 rfl (by decide) (ks:=[0]) (xs:=[_]) rfl rfl (by decide) (by decide) .none rfl rfl rfl rfl ?_
  refine Walk.append za0 zz3 rfl .none rfl rfl rfl rfl (zaw rfl (by first|rfl|(simp;done)|(simp;omega))) (by simp) (by first|(have hz:=congrArg List.length hg2.1;have:=hfw (by omega);simp at hz ⊢;omega)|(have hz:=congrArg List.length hg1;have hq:=List.length_filter_le (zcT w (zaj w) ⟨a,k⟩ m) pre;simp at hz ⊢;omega)) (by first|(have hz:=congrArg List.length hg2.1;have:=hfw (by omega);simp at hz ⊢;omega)|(have hz:=congrArg List.length hg1;have hq:=List.length_filter_le (zcT w (zaj w) ⟨a,k⟩ m) pre;simp at hz ⊢;omega)) ?_
  refine ev ?_
  refine ar ?_
  refine Exists.intro ((pre++[y],rest)) ⟨(by have hz:=hg1;rw[←hz];simp),(by simp),sx ⟨⟨_,rfl,LeA.eqi ?_⟩,⟨⟨_,rfl,LeA.glg ?_⟩,trivial⟩⟩ ⟨zaa ?_,trivial⟩⟩
  iterate 3 focus (first|rfl|(simp;done)|omega|(rw[zfh (by assumption)];all_goals rfl)|(rw[zmq (by assumption)];all_goals rfl)|(rw[zfh (by assumption)];simp;done)|(simp;omega))
  try simp only[Q] at h5p
  refine ar ?_
  refine Exists.intro ((pre++[y],rest)) ⟨(by have hz:=hg1;rw[←hz];simp),(by simp),sx ⟨⟨_,rfl,LeA.eqi ?_⟩,⟨⟨_,rfl,LeA.glg ?_⟩,trivial⟩⟩ ⟨zaa ?_,trivial⟩⟩
  iterate 3 focus (first|rfl|(simp;done)|omega|(rw[zfh (by assumption)];all_goals rfl)|(rw[zmq (by assumption)];all_goals rfl)|(rw[zfh (by assumption)];simp;done)|(simp;omega))
  try simp only[Q] at h2p
  have hrest:rest=[]:=by
   rcases rest with _|⟨a,b⟩
   ·rfl
   ·exfalso;have hz:=congrArg List.length (hg1);simp only[List.length_append,List.length_cons,List.length_map] at hz;omega
  subst hrest
  rw[List.append_nil] at hg1;subst hg1
  refine evc [] [] ?_
  refine Walk.call (cr:=[]) zcg (zaQ (p:=p) (n:=((((zam w ⟨a,k⟩).filter (zcT w (zaj w) ⟨a,k⟩ m)).map fun n=>[D.i n]).length:Int)) hb (by omega) (by omega)) rfl .none rfl rfl (LeL.refl _) ⟨rfl,trivial⟩ rfl rfl rfl ?_
  refine Walk.idxG (i:=(zan b p (zch w (zaj w) ⟨a,k⟩ m).length).toNat) za0 .none rfl rfl rfl (by rw[hflm];have:=v14 (by have:=hfp (by omega);omega);omega) (hat (by omega)) rfl ?_
  refine ev ?_
  refine Walk.build st62 (ks:=[0]) (xs:=[_]) rfl rfl .none rfl rfl rfl ?_
  refine Walk.alloc (id:=3015) tz62 rfl .none rfl rfl rfl rfl ?_
  refine Walk.store ty62 .none rfl rfl rfl rfl rfl rfl (by simp) rfl ?_
  refine tv ?_
  refine wc zfJ (zcq hd.wt ht (hfm (by omega)).1) rfl rfl ?_
  refine ev ?_
  refine CWp.tokB 3015 2 1 3 rfl rfl rfl rfl ?_
  refine CWp.loopX (ι:=List (Ty)×List (Ty)×(Nat)×(List Val)) hk (fun x=>[(17,.d (.i (x.1.length:Int)))]) [76,77,78,79,80,81,82,83,84,85,86,87,88,89,90,91,92,93,94,95,96] (fun x=>[(900,some (.box [.d (zcw b),.d (.i (x.2.2.1:Int))])),(3015,some (.box [.d (.i cc),.d (.i 0),.gl 1 (x.2.2.2.map Val.cc)])),(1,some (.tok (x.2.2.2.map Val.cc).length 3))]) (fun x=>x.1++x.2.1=zab w ⟨a,k⟩ cc∧x.2.2.1≤p+1+x.1.length*bdV n∧x.2.2.2.length=x.1.length∧(x.2.2.2++(dV (dW b w n m) x.2.1 x.2.2.1).1,(dV (dW b w n m) x.2.1 x.2.2.1).2)=dV (dW b w n m) (zab w ⟨a,k⟩ cc) (p+1)) (fun x=>x.2.1.length) ([],zab w ⟨a,k⟩ cc,p+1,[]) ⟨by simp,by simp,by simp,by simp⟩ ⟨⟨_,rfl,LeA.eqi ?_⟩,trivial⟩ ⟨?_,⟨?_,⟨zaa ?_,trivial⟩⟩⟩ (fun x=>rfl) (fun x hg2=>?_)
  focus (first|rfl|(simp;done)|omega|(simp;omega))
  iterate 2 focus (first|rfl|(simp[getH];done))
  focus (first|rfl|(simp;done)|omega|(simp;omega))
  obtain⟨pre,rest,q,ks⟩:=x
  dsimp only at hg2 ⊢
  refine evc [] [9,11] ?_
  refine sq (fun h6 h6p h6s=>?_) fun h6 h6p h6s=>?_
  try simp only[Q] at h6p
  rcases rest with _|⟨y,rest⟩
  ·exfalso;simp_all
  have hfw3:=hfw (by omega);have hpm:pre.length*bdV n≤2*bdV n:=Nat.mul_le_mul_right _ (by have hz:=congrArg List.length hg2.1;have:=hfw (by omega);simp at hz;omega)
  refine Walk.idx zaZ .none rfl rfl rfl rfl (zaD hg2.1) rfl ?_
  refine evd [] [] ?_
  refine ar ?_
  refine Walk.call (cr:=[]) zn9 (zhT hb hd hf n (a:=y.data) (k:=y.index) (m:=m-1) (p:=q) (hkid (by omega) y (by rw[←hg2.1];simp)) (by omega) (by omega) (by omega)) rfl .none rfl rfl (LeL.refl _) ⟨rfl,trivial⟩ rfl rfl rfl ?_
  refine Walk.sliceLit sl49 tz62 rfl (by decide) (ks:=[0]) (xs:=[_]) rfl rfl (by decide) (by decide) .none rfl rfl rfl rfl ?_
  refine Walk.append sl49 zz62 rfl .none rfl rfl rfl rfl (zaw rfl (by first|rfl|(simp;done)|(simp;omega))) (by simp) (by first|(have hz:=congrArg List.length hg2.1;have:=hfw (by omega);simp at hz ⊢;omega)|(have hz:=congrArg List.length hg1;have hq:=List.length_filter_le (zcT w (zaj w) ⟨a,k⟩ m) pre;simp at hz ⊢;omega)) (by first|(have hz:=congrArg List.length hg2.1;have:=hfw (by omega);simp at hz ⊢;omega)|(have hz:=congrArg List.length hg1;have hq:=List.length_filter_le (zcT w (zaj w) ⟨a,k⟩ m) pre;simp at hz ⊢;omega)) ?_
  refine evd [] [] ?_
  refine Walk.store ty49 .none rfl rfl rfl rfl rfl rfl (by simp) rfl ?_
  refine dr ?_
  refine ar ?_
  refine Exists.intro ((pre++[y],rest,(zb1 b w (zaj w) n y (m-1) q).2,ks++[(zb1 b w (zaj w) n y (m-1) q).1])) ⟨⟨(by have hz:=hg2.1;rw[←hz];simp),⟨(by have:=(hok y q (hkid (by omega) y (by rw[←hg2.1];simp))).1;simp only[List.length_append,List.length_cons,List.length_nil,Nat.add_mul];omega),(by simp[hg2.2.2.1]),(by rw[←hg2.2.2.2];simp[dV])⟩⟩,(by simp),sx ⟨⟨_,rfl,LeA.eqi ?_⟩,trivial⟩ ⟨?_,⟨?_,⟨zaa ?_,trivial⟩⟩⟩⟩
  focus (first|rfl|(simp;done)|omega|(simp;omega))
  iterate 2 focus (first|rfl|(simp[getH];done))
  focus (first|rfl|(simp;done)|omega|(simp;omega))
  try simp only[Q] at h6p
  have hrest:rest=[]:=by
   rcases rest with _|⟨a,b⟩
   ·rfl
   ·exfalso;have hz:=congrArg List.length (hg2.1);simp only[List.length_append,List.length_cons,List.length_map] at hz;omega
  subst hrest
  refine Walk.store ty62 .none rfl rfl rfl rfl rfl rfl (by simp) rfl ?_
  refine tv ?_
  refine rn [(900,some (rdB b (zb1 b w (zaj w) (n+1) ⟨a,k⟩ m p).2))] (.cons (.cellA ty62 rfl rfl rfl) .nil) (.agg (.cons (.eqd ?_) (.cons (.eqd ?_) (.cons (.gld ?_) .nil)))) ⟨rfl,rfl⟩ (SubO.get ⟨.inr ?_,⟨.inl rfl,trivial⟩⟩) (zaB rfl)
  rotate_left 4
  all_goals (first|((first|(rw[hdm (by omega)];all_goals rfl)|(rw[hdm2 (by omega)];have hfin:=hg2.2.2.2;simp only[dV,List.append_nil] at hfin;rw[←hfin];all_goals first|rfl|(show _=D.sl (Val.cs _);rw[Val.cs_cc];all_goals rfl)|(show _=Val.cs _;rw[Val.cs_cc];all_goals rfl)));done)|(first|(rw[hdm (by omega)];all_goals rfl)|(rw[hdm2 (by omega)];have hfin:=hg2.2.2.2;simp only[dV,List.append_nil] at hfin;rw[←hfin];all_goals rfl)))
end Go.Proofs.YtcnjkjdmbnhcaaaGreat
namespace Go.Proofs.YtcnjkjdmbnhcaaaGreat
open Go
set_option linter.unusedSimpArgs false
set_option linter.unusedVariables false
set_option maxRecDepth 1000000
end Go.Proofs.YtcnjkjdmbnhcaaaGreat
namespace Go.Proofs.YtcnjkjdmbnhcaaaGreat
open Go
set_option linter.unusedSimpArgs false
set_option linter.unusedVariables false
set_option maxRecDepth 100000
def uv (x:Int):Int:=if x=3 then 1 else if x=0∨x=1 then 0 else -1
def fN (y:Nat):Nat:=(y ^^^ (y / 64)) % 24
def uN (y:Nat):Int:=uv (fN y:Int)
def wS (D:Nat):Nat→Nat→Int
 |0,_=>0
 |n+1,y=>uN y+wS D n (y+D)
theorem zma (D:Nat):∀m n y,wS D (m+n) y=wS D m y+wS D n (y+m*D)
 |0,n,y=>by simp[wS]
 |m+1,n,y=>by
  rw[show m+1+n=(m+n)+1 by omega]
  simp only[wS]
  rw[zma D m n (y+D),show y+D+m*D=y+(m+1)*D by rw[Nat.add_mul];omega];omega
def g8 (r:Nat):Nat:=(r % 8) ^^^ (r / 64 % 8)
theorem zuP (y:Nat):fN y % 8=g8 (y % 512):=by
 unfold fN g8
 rw[Nat.mod_mod_of_dvd _ (by decide),show(8:Nat)=2 ^ 3 from rfl,Nat.xor_mod_two_pow]
 congr 1
 ·omega
 ·omega
def um (r:Nat):Int:=if r=3 then 1 else if r=0∨r=1 then 0 else -1
theorem zn1 (y:Nat):uN y≤um (g8 (y % 512)):=by
 rw[←zuP]
 have h:fN y<24:=Nat.mod_lt _ (by omega)
 unfold uN
 generalize fN y=x at *
 have key:∀x:Nat,x<24→uv (x:Int)≤um (x % 8):=by decide
 exact key x h
def zvj:Bool:=(List.range 512).all fun r=>[128,384].all fun E=>decide (um (g8 r)+um (g8 ((r+E) % 512))+um (g8 ((r+2*E) % 512))+um (g8 ((r+3*E) % 512))≤ -1)
theorem zsx:zvj=true:=by kernel_rfl
theorem quad {E:Nat} (hE:E % 512=128∨E % 512=384) (y:Nat):uN y+uN (y+E)+uN (y+2*E)+uN (y+3*E)≤ -1:=by
 have h:=List.all_eq_true.1 zsx (y % 512) (List.mem_range.2 (Nat.mod_lt _ (by omega)))
 have h2:=List.all_eq_true.1 h (E % 512) (by rcases hE with e|e<;>rw[e]<;>simp)
 have h3:=of_decide_eq_true h2
 have a0:=zn1 y
 have a1:=zn1 (y+E)
 have a2:=zn1 (y+2*E)
 have a3:=zn1 (y+3*E)
 rw[show(y+E) % 512=(y % 512+E % 512) % 512 by omega] at a1
 rw[show(y+2*E) % 512=(y % 512+2*(E % 512)) % 512 by omega] at a2
 rw[show(y+3*E) % 512=(y % 512+3*(E % 512)) % 512 by omega] at a3
 omega
theorem zs1 {D E:Nat} (hE:E % 512=128∨E % 512=384):∀n y,wS D n y+wS D n (y+E)+wS D n (y+2*E)+wS D n (y+3*E)≤ -n
 |0,y=>by simp[wS]
 |n+1,y=>by
  have h1:=quad hE y
  have h2:=zs1 (D:=D) hE n (y+D)
  simp only[wS]
  rw[show y+E+D=y+D+E by omega,show y+2*E+D=y+D+2*E by omega,show y+3*E+D=y+D+3*E by omega]
  omega
theorem four {D h:Nat} (hE:h*D % 512=128∨h*D % 512=384) (y:Nat):wS D (h+(h+(h+h))) y≤ -h:=by
 have:=zs1 (D:=D) hE h y
 rw[zma,zma,zma,show y+h*D+h*D=y+2*(h*D) by omega,show y+2*(h*D)+h*D=y+3*(h*D) by omega]
 omega
end Go.Proofs.YtcnjkjdmbnhcaaaGreat
namespace Go.Proofs.YtcnjkjdmbnhcaaaGreat
open Go
set_option linter.unusedSimpArgs false
set_option linter.unusedVariables false
set_option maxRecDepth 100000
set_option maxHeartbeats 2000000
def mutV (b:Str):Nat→Nat→Val→Option (Val×Nat)
 |0,_,_=>none
 |n+1,p,v=>
  if zan b p 24=0 then some (.mk (numV b (p+1) [0,1,-1,9,-2]) v.num v.kids,p+2)
  else if zan b p 24=1 then some (.mk v.ctor (numV b (p+1) [10,-1,1]) v.kids,p+2)
  else if zan b p 24=2 then some (.mk v.ctor v.num (v.kids++[.mk (-1) 0 []]),p+1)
  else if zan b p 24=3 then
   match v.kids with
   | []=>some (.mk v.ctor v.num v.kids,p+1)
   |k::r=>
    match mutV b n (p+1) k with
    |none=>none
    |some (k1,p1)=>
     match mutV b n p1 k1 with
     |none=>none
     |some (k2,p2)=>some (.mk v.ctor v.num (k2::r),p2)
  else some (.mk v.ctor v.num v.kids,p+1)
theorem Vals.size_app:∀a b:List Val,Vals.size (a++b)=Vals.size a+Vals.size b
 | [],b=>by simp[Vals.size]
 |x::r,b=>by simp only[List.cons_append,Vals.size,Vals.size_app r b];omega
theorem Val.size_mk (a n:Int) (k:List Val):(Val.mk a n k).size=1+Vals.size k:=rfl
theorem ztw {b:Str}{n p:Nat}{v:Val}{k:Val}{r:List Val} (h:zan b p 24=3) (hk:v.kids=k::r){v':Val}{q:Nat} (hm:mutV b (n+1) p v=some (v',q)):
  ∃k1 p1 k2,mutV b n (p+1) k=some (k1,p1)∧mutV b n p1 k1=some (k2,q)∧v' = .mk v.ctor v.num (k2::r):=by
 simp only[mutV] at hm
 rw[if_neg (by omega),if_neg (by omega),if_neg (by omega),if_pos h,hk] at hm
 cases h1:mutV b n (p+1) k with
 |none=>simp[h1] at hm
 |some x=>
  obtain⟨k1,p1⟩:=x
  cases h2:mutV b n p1 k1 with
  |none=>simp[h1,h2] at hm
  |some y=>
   obtain⟨k2,p2⟩:=y
   simp only[h1,h2,Option.some.injEq,Prod.mk.injEq] at hm
   obtain⟨rfl,rfl⟩:=hm
   exact⟨k1,p1,k2,rfl,h2,rfl⟩
theorem zmD {b:Str}:∀ {n:Nat}{p:Nat}{v v':Val}{q:Nat},mutV b n p v=some (v',q)→p<q∧v'.size≤v.size+(q-p)
 |0,p,v,v',q,h=>by simp[mutV] at h
 |n+1,p,v,v',q,h=>by
  have hv:=Val.size_eq v
  by_cases h3:zan b p 24=3
  ·cases hk:v.kids with
   |nil=>
    simp only[mutV] at h
    rw[if_neg (by omega),if_neg (by omega),if_neg (by omega),if_pos h3,hk] at h
    simp only[Option.some.injEq,Prod.mk.injEq] at h
    obtain⟨rfl,rfl⟩:=h
    rw[Val.size_mk];simp only[Vals.size];omega
   |cons k r=>
    obtain⟨k1,p1,k2,h1,h2,rfl⟩:=ztw h3 hk h
    have a1:=zmD h1
    have a2:=zmD h2
    rw[hk] at hv
    rw[Val.size_mk]
    simp only[Vals.size] at hv ⊢
    omega
  ·simp only[mutV] at h
   split at h
   ·simp only[Option.some.injEq,Prod.mk.injEq] at h;obtain⟨rfl,rfl⟩:=h;rw[Val.size_mk];omega
   split at h
   ·simp only[Option.some.injEq,Prod.mk.injEq] at h;obtain⟨rfl,rfl⟩:=h;rw[Val.size_mk];omega
   split at h
   ·simp only[Option.some.injEq,Prod.mk.injEq] at h;obtain⟨rfl,rfl⟩:=h;rw[Val.size_mk,Vals.size_app];simp only[Vals.size,Val.size];omega
   ·simp only[Option.some.injEq,Prod.mk.injEq] at h;obtain⟨rfl,rfl⟩:=h;rw[Val.size_mk];omega
def zfa (b:Str) (p:Nat):Ty:=⟨zan b (p+1) (zbH b p).length,numV b (p+2) [0,0,1,2]⟩
def typT (b:Str) (p:Nat):Ty:=if dv (zaj (zbH b p)) (zfa b p)=0 then ⟨-1,0⟩ else zfa b p
def typV (b:Str) (p:Nat):Val×Nat:=zb1 b (zbH b p) (zaj (zbH b p)) 4 (typT b p) (numV b (p+3) [3,2,4,1]) (p+4)
theorem zuR {n:Nat}{a k:Int} (h1:0≤a) (h2:a<n) (h3:0≤k) (h4:k≤3):InS (n*4) ⟨a,k⟩:=by
 refine .inr ⟨?_, ?_⟩
 ·simp only[zcD];omega
 ·obtain⟨i,rfl⟩:=Int.eq_ofNat_of_zero_le h1
  obtain⟨m,rfl⟩:=Int.eq_ofNat_of_zero_le h3
  simp only[zcD,Int.toNat_natCast]
  exact zg1 (by omega)
theorem zty (b:Str) (p:Nat):0≤numV b p [0,0,1,2]∧numV b p [0,0,1,2]≤3:=by
 have:=zkt (b:=b) (p:=p) (l:=[0,0,1,2]) (by simp)
 simp only[List.mem_cons,List.not_mem_nil,or_false] at this
 omega
theorem zpi (b:Str) (p:Nat):InS ((zbH b p).length*4) (zfa b p):=by
 have h1:=zcP (b:=b) (p:=p+1) (n:=((zbH b p).length:Int)) (by have:=(zht b p).one;omega)
 have h2:=zty b (p+2)
 exact zuR h1.1 h1.2 h2.1 h2.2
theorem zjx (b:Str) (p:Nat):Deep (zbH b p) 4 (typT b p) (numV b (p+3) [3,2,4,1]):=by
 have hl:=zfc b p
 have h4:=num4 b (p+3)
 unfold typT
 split
 ·exact⟨.inl rfl,by simp[dv],by simp[dv],by omega⟩
 ·rename_i h
  have:=znU (f:=zaj (zbH b p)) (b:=3) hl.low (by omega) (zfa b p)
  exact⟨zpi b p,by omega,by omega,by omega⟩
theorem zp9 (b:Str) (p:Nat):(typV b p).2≤p+44∧(typV b p).1.size≤121∧(typV b p).1.ok:=by
 have hl:=zfc b p
 have h:=zh8 (b:=b) hl.dp hl.few 4 (typT b p) (numV b (p+3) [3,2,4,1]) (p+4) (zjx b p)
 have e1:bdV 4=40:=by decide
 have e2:szV 4=121:=by decide
 unfold typV
 exact⟨by omega,by omega,h.2.2⟩
theorem zlR {b:Str}{p:Nat} (hb:b.length≤2000) (hp:p≤100000):
  FnD Tryz.prog 106 [.ref 900 0] [(900,some (rdB b p))] (.tup [.d (zal (zbH b p)),.agg [.d (.i (typT b p).data),.d (.i (typT b p).index)],.agg [.d (.i (typV b p).1.ctor),.d (.i (typV b p).1.num),.d (zjE (typV b p).1.kids)]]) [(900,some (rdB b (typV b p).2))]:=by
 have ho:=zht b p
 have hl:=zfc b p
 have h4:=num4 b (p+3)
 have hin:=zpi b p
 have hdeep:=zjx b p
 have hT:typT b p=if dv (zaj (zbH b p)) (zfa b p)=0 then ⟨-1,0⟩ else zfa b p:=rfl
 have hV:typV b p=zb1 b (zbH b p) (zaj (zbH b p)) 4 (typT b p) (numV b (p+3) [3,2,4,1]) (p+4):=rfl
 have e1:bdV 4=40:=by decide
 have hwd:=zlQ (p:=p) hb (by omega)
 have hpk:=zaQ (b:=b) (p:=p+1) (n:=(((zbH b p).map Data.c).length:Int)) hb (by omega) (by have:=ho.small.len;simp;omega)
 rw[show zan b (p+1) (((zbH b p).map Data.c).length:Int)=(zfa b p).data by rw[List.length_map];rfl] at hpk
 have hnu:=zbQ (b:=b) (p:=p+2) (l:=[0,0,1,2]) hb (by omega) (by simp) (by simp)
 rw[show numV b (p+2) [0,0,1,2]=(zfa b p).index from rfl] at hnu
 have hdr:=fun(t:Ty) (h:Deep (zbH b p) 4 t (numV b (p+3) [3,2,4,1]))=>zhT hb hl.dp hl.few 4 (a:=t.data) (k:=t.index) (p:=p+4) h (by omega) (by omega) (by omega)
 have hdp:=zdY (f:=zaj (zbH b p)) (a:=(zfa b p).data) (k:=(zfa b p).index) hin (by have:=hl.dp.four;omega)
 have htb:=zhj hl.dp
 generalize zbH b p=w at *
 generalize zfa b p=t0 at *
 obtain⟨a0,k0⟩:=t0
 have hdr2:=hdr ⟨-1,0⟩
 have hdr3:=hdr ⟨a0,k0⟩
 clear hdr
 dsimp only at hT hV hdr2 hdr3
 refine bd Tryz.f106 35 [] [] fun w0 F0 own kept hk=>?_
 refine Walk.alloc (id:=3003) tz33 rfl .none rfl rfl rfl rfl ?_
 refine Walk.alloc (id:=3004) tz62 rfl .none rfl rfl rfl rfl ?_
 refine tv ?_
 refine Walk.call (cr:=[]) zt5 (hwd) rfl .none rfl rfl (LeL.refl _) ⟨rfl,trivial⟩ rfl rfl rfl ?_
 refine ev ?_
 refine wc zqY (htb) rfl rfl ?_
 refine ev ?_
 refine Walk.call (cr:=[]) zcg (hpk) rfl .none rfl rfl (LeL.refl _) ⟨rfl,trivial⟩ rfl rfl rfl ?_
 refine ev ?_
 refine Walk.sliceLit za0 tz3 rfl (by decide) (ks:=[0,1,2,3]) (xs:=[_,_,_,_]) rfl rfl (by decide) (by decide) .none rfl rfl rfl rfl ?_
 refine Walk.call (cr:=[]) zdL (hnu) rfl .none rfl rfl (LeL.refl _) ⟨rfl,trivial⟩ rfl rfl rfl ?_
 refine Walk.build st33 (ks:=[0,1]) (xs:=[_,_]) rfl rfl .none rfl rfl rfl ?_
 refine Walk.alloc (id:=3007) tz33 rfl .none rfl rfl rfl rfl ?_
 refine Walk.store ty33 .none rfl rfl rfl rfl rfl rfl (by simp) rfl ?_
 refine tv ?_
 refine wc ziS (hdp) rfl rfl ?_
 refine ev ?_
 refine sq (fun h1 h1p h1s=>?_) fun h1 h1p h1s=>?_
 try simp only[Q] at h1p
 have HDR:=hdr2 (by rw[if_pos (by omega)] at hT;rw[←hT];exact hdeep)
 refine Walk.build st33 (ks:=[0]) (xs:=[_]) rfl rfl .none rfl rfl rfl ?_
 refine Walk.store ty33 .none rfl rfl rfl rfl rfl rfl (by simp) rfl ?_
 refine tv ?_
 refine Walk.sliceLit za0 tz3 rfl (by decide) (ks:=[0,1,2,3]) (xs:=[_,_,_,_]) rfl rfl (by decide) (by decide) .none rfl rfl rfl rfl ?_
 refine Walk.call (cr:=[]) zdL (zbQ (b:=b) (p:=p+3) (l:=[3,2,4,1]) hb (by omega) (by simp) (by simp)) rfl .none rfl rfl (LeL.refl _) ⟨rfl,trivial⟩ rfl rfl rfl ?_
 refine Walk.call (cr:=[]) zn9 (HDR) rfl .none rfl rfl (LeL.refl _) ⟨rfl,trivial⟩ rfl rfl rfl ?_
 refine evd [] [] ?_
 refine Walk.store ty33 .none rfl rfl rfl rfl rfl rfl (by simp) rfl ?_
 refine Walk.store ty62 .none rfl rfl rfl rfl rfl rfl (by simp) rfl ?_
 refine dr ?_
 refine rn [(900,some (rdB b (typV b p).2))] (.cons (.tmp rfl) (.cons (.cellA ty33 rfl rfl rfl) (.cons (.cellA ty62 rfl rfl rfl) .nil))) (.tup (.cons (.eqd ?_) (.cons (.agg (.cons (.eqd ?_) (.cons (.eqd ?_) .nil))) (.cons (.agg (.cons (.eqd ?_) (.cons (.eqd ?_) (.cons (.eqd ?_) .nil)))) .nil)))) ⟨rfl,rfl⟩ (SubO.get ⟨.inr ?_,⟨.inl rfl,trivial⟩⟩) (zaB rfl)
 rotate_left 7
 try simp only[Q] at h1p
 have HDR:=hdr3 (by rw[if_neg (by omega)] at hT;rw[←hT];exact hdeep)
 refine Walk.sliceLit za0 tz3 rfl (by decide) (ks:=[0,1,2,3]) (xs:=[_,_,_,_]) rfl rfl (by decide) (by decide) .none rfl rfl rfl rfl ?_
 refine Walk.call (cr:=[]) zdL (zbQ (b:=b) (p:=p+3) (l:=[3,2,4,1]) hb (by omega) (by simp) (by simp)) rfl .none rfl rfl (LeL.refl _) ⟨rfl,trivial⟩ rfl rfl rfl ?_
 refine Walk.call (cr:=[]) zn9 (HDR) rfl .none rfl rfl (LeL.refl _) ⟨rfl,trivial⟩ rfl rfl rfl ?_
 refine evd [] [] ?_
 refine Walk.store ty33 .none rfl rfl rfl rfl rfl rfl (by simp) rfl ?_
 refine Walk.store ty62 .none rfl rfl rfl rfl rfl rfl (by simp) rfl ?_
 refine dr ?_
 refine rn [(900,some (rdB b (typV b p).2))] (.cons (.tmp rfl) (.cons (.cellA ty33 rfl rfl rfl) (.cons (.cellA ty62 rfl rfl rfl) .nil))) (.tup (.cons (.eqd ?_) (.cons (.agg (.cons (.eqd ?_) (.cons (.eqd ?_) .nil))) (.cons (.agg (.cons (.eqd ?_) (.cons (.eqd ?_) (.cons (.eqd ?_) .nil)))) .nil)))) ⟨rfl,rfl⟩ (SubO.get ⟨.inr ?_,⟨.inl rfl,trivial⟩⟩) (zaB rfl)
 rotate_left 7
 all_goals (first|((first|(rw[if_pos (by omega)] at hT;rw[hV,hT];all_goals rfl)|(rw[if_neg (by omega)] at hT;rw[hV,hT];all_goals rfl)|(rw[if_pos (by omega)] at hT;rw[hT];all_goals rfl)|(rw[if_neg (by omega)] at hT;rw[hT];all_goals rfl)|rfl);done)|(first|(rw[if_pos (by omega)] at hT;rw[hV,hT];all_goals rfl)|(rw[if_neg (by omega)] at hT;rw[hV,hT];all_goals rfl)))
mutual
theorem Val.ok_sz:∀v:Val,v.size≤1000000000000→v.ok
 | .mk a n ks,h=>by
  have h1:1+Vals.size ks≤1000000000000:=h
  exact⟨by have:=Vals.len_sz ks;omega,Vals.ok_sz ks (by omega)⟩
theorem Vals.ok_sz:∀l:List Val,Vals.size l≤1000000000000→Vals.ok l
 | [],_=>trivial
 |v::r,h=>by
  have h1:v.size+Vals.size r≤1000000000000:=h
  exact⟨Val.ok_sz v (by omega),Vals.ok_sz r (by omega)⟩
theorem Vals.len_sz:∀l:List Val,l.length≤Vals.size l
 | []=>Nat.zero_le _
 |v::r=>by
  have h1:=Vals.len_sz r
  have h2:=Val.size_eq v
  show r.length+1≤v.size+Vals.size r
  omega
end
theorem Val.cs_app (a b:List Val):Val.cs (a++b)=Val.cs a++Val.cs b:=by rw[Val.cs_eq,Val.cs_eq,Val.cs_eq,List.map_append]
structure MutOf (b:Str) (p:Nat) (v v':Val) (q:Nat):Prop where
 some_:∃n,mutV b n p v=some (v',q)
 q:q≤3010000
theorem MutOf.size {b:Str}{p:Nat}{v v':Val}{q:Nat} (h:MutOf b p v v' q):v'.size≤v.size+3010000:=by
 obtain⟨n,hn⟩:=h.some_
 have:=zmD hn
 have:=h.q
 omega
def g0:Gd:=⟨0,0,0⟩
def zcn (b:Str) (x:Vt) (g:Gd) (q:Nat):Gd×Nat:=if x.ty.data = -1 then (if zan b q 2=0 then (⟨1+zan b (q+1) 2,x.var,zan b (q+2) 10⟩,q+3) else (g,q+1)) else (g,q)
def gdL (b:Str):List Vt→Gd→Nat→Gd×Nat
 | [],g,q=>(g,q)
 |x::r,g,q=>gdL b r (zcn b x g q).1 (zcn b x g q).2
theorem zie {b:Str}{x:Vt}{g:Gd}{q:Nat} (h:x.ty.data = -1) (h2:zan b q 2=0):zcn b x g q=(⟨1+zan b (q+1) 2,x.var,zan b (q+2) 10⟩,q+3):=by unfold zcn;rw[if_pos h,if_pos h2]
theorem zif {b:Str}{x:Vt}{g:Gd}{q:Nat} (h:x.ty.data = -1) (h2:¬zan b q 2=0):zcn b x g q=(g,q+1):=by unfold zcn;rw[if_pos h,if_neg h2]
theorem zig {b:Str}{x:Vt}{g:Gd}{q:Nat} (h:¬x.ty.data = -1):zcn b x g q=(g,q):=by unfold zcn;rw[if_neg h]
theorem zg8 (b:Str) (x:Vt) (g:Gd) (q:Nat):q≤(zcn b x g q).2∧(zcn b x g q).2≤q+3:=by unfold zcn;split;split;all_goals (dsimp only;omega)
theorem zoz (b:Str):∀(l:List Vt) (g:Gd) (q:Nat),(gdL b l g q).2≤q+3*l.length
 | [],g,q=>by simp[gdL]
 |x::r,g,q=>by
  unfold gdL
  have h1:=zg8 b x g q
  have h2:=zoz b r (zcn b x g q).1 (zcn b x g q).2
  simp only[List.length_cons];omega
def clD (b:Str) (w:List Data) (t:Ty) (q:Nat):Cl×Nat:=
 (⟨zbO b w t q,(gdL b (zeb w t (zbO b w t q)) g0 (zcJ b w t q).2.2).1⟩,(gdL b (zeb w t (zbO b w t q)) g0 (zcJ b w t q).2.2).2)
theorem zpV {w:List Data}{t:Ty}:isP w t anyP=true:=by
 have e:zad w t anyP=[]:=by unfold zad;rw[if_neg (by decide),if_neg (by decide),if_neg (by decide)]
 have ho:ownP w t anyP=true:=by simp[ownP,anyP,Pat.op,Pat.n,Pat.m,Pat.var,Pat.ctor]
 have h:zau w 10 t anyP=true:=by
  show(ownP w t anyP&&all2 _ (zad w t anyP) anyP.kids)=true
  rw[e,ho];rfl
 have h2:anyP.size=1:=zhC.1
 have h3:linP w 10 t anyP=true:=by
  unfold linP;rw[e];rfl
 unfold isP;rw[h,h3,h2];rfl
theorem zpG (b:Str) (w:List Data) (t:Ty) (q:Nat):isP w t (zbO b w t q)=true:=by
 unfold zbO
 split
 ·assumption
 ·exact zpV
theorem zrj {b:Str}{w:List Data} (hf:Few w){t:Ty} (ht:TyIn w.length t) (q:Nat):(clD b w t q).2≤q+518∧(clD b w t q).1.pat.size≤242∧(clD b w t q).1.pat.ok:=by
 have h1:=zhg (b:=b) hf ht q
 have h2:=zlI (b:=b) hf ht q
 have h3:=ziv w t (zbO b w t q)
 have h4:=zoz b (zeb w t (zbO b w t q)) g0 (zcJ b w t q).2.2
 exact⟨by unfold clD;dsimp only;omega,h2⟩
theorem zkA {b:Str}{w:List Data} (hb:b.length≤2000) (hw:WT w) (hf:Few w){a k:Int}{p:Nat} (hp:p≤100000) (ht:TyIn w.length ⟨a,k⟩):
  FnD Tryz.prog 174 [.ref 900 0,.d (zal w),.agg [.d (.i a),.d (.i k)]] [(900,some (rdB b p))]
   (.agg [.d (.i (clD b w ⟨a,k⟩ p).1.pat.op),.d (.i (clD b w ⟨a,k⟩ p).1.pat.ctor),.d (.i (clD b w ⟨a,k⟩ p).1.pat.n),.d (.i (clD b w ⟨a,k⟩ p).1.pat.m),.d (.i (clD b w ⟨a,k⟩ p).1.pat.var),.d (zae (clD b w ⟨a,k⟩ p).1.pat.kids),.d (.i (clD b w ⟨a,k⟩ p).1.g.op),.d (.i (clD b w ⟨a,k⟩ p).1.g.var),.d (.i (clD b w ⟨a,k⟩ p).1.g.n)])
   [(900,some (rdB b (clD b w ⟨a,k⟩ p).2))]:=by
 have h1:=zhg (b:=b) hf ht p
 have h2:=zlI (b:=b) hf ht p
 have h3:=ziv w ⟨a,k⟩ (zbO b w ⟨a,k⟩ p)
 have hip:=zpG b w ⟨a,k⟩ p
 have hsh:zau w 10 ⟨a,k⟩ (zbO b w ⟨a,k⟩ p)=true:=by unfold isP at hip;simp only[Bool.and_eq_true] at hip;exact hip.1
 have hva:=zdm hw hsh (by omega) ht h2.2 (by omega)
 rw[←znA hip] at hva
 have hso:=zmT hb hw hf hp ht
 have hgb:=zoz b
 have hpb:=fun q=>zcP (b:=b) (p:=q) (n:=2) (by omega)
 unfold clD
 dsimp only
 generalize zbO b w ⟨a,k⟩ p=pt at *
 generalize zeb w ⟨a,k⟩ pt=L at *
 generalize (zcJ b w ⟨a,k⟩ p).2.2=q0 at *
 refine bd Tryz.f174 51 [] [] fun w0 F0 own kept hk=>?_
 refine Walk.box (id:=3005) .none rfl rfl rfl rfl rfl rfl rfl ?_
 refine Walk.alloc (id:=3006) tz60 rfl .none rfl rfl rfl rfl ?_
 refine tv ?_
 refine Walk.call (cr:=[]) zuo (hso) rfl .none rfl rfl (LeL.refl _) ⟨rfl,trivial⟩ rfl rfl rfl ?_
 refine Walk.build st60 (ks:=[0]) (xs:=[_]) rfl rfl .none rfl rfl rfl ?_
 refine Walk.alloc (id:=3007) tz60 rfl .none rfl rfl rfl rfl ?_
 refine Walk.store ty60 .none rfl rfl rfl rfl rfl rfl (by simp) rfl ?_
 refine tv ?_
 refine wc zgE (hva) rfl rfl ?_
 refine ev ?_
 refine CWp.loopX (ι:=List (Vt)×List (Vt)×(Nat)×(Gd)) hk (fun x=>[(9,.d (.i (x.1.length:Int)))]) [20,21,22,23,24,25,26,27,28,29,30,31,32,33,34,35,36,37,38,39,40,41,42,43,44,45,46,47,48,49] (fun x=>[(900,some (.box [.d (zcw b),.d (.i (x.2.2.1:Int))])),(3007,some (.box [.d (.i pt.op),.d (.i pt.ctor),.d (.i pt.n),.d (.i pt.m),.d (.i pt.var),.d (zae pt.kids),.d (.i x.2.2.2.op),.d (.i x.2.2.2.var),.d (.i x.2.2.2.n)]))]) (fun x=>x.1++x.2.1=L∧x.2.2.1≤q0+3*x.1.length∧gdL b x.2.1 x.2.2.2 x.2.2.1=gdL b L g0 q0) (fun x=>x.2.1.length) ([],L,q0,g0) ⟨by simp,by simp,rfl⟩ ⟨⟨_,rfl,LeA.eqi ?_⟩,trivial⟩ ⟨?_,⟨?_,trivial⟩⟩ (fun x=>rfl) (fun x hg1=>?_)
 focus (first|rfl|(simp;done)|omega)
 iterate 2 focus (first|rfl|(rw[zie (by omega) (by omega)];all_goals rfl)|(rw[zif (by omega) (by omega)];all_goals rfl)|(rw[zig (by omega)];all_goals rfl))
 obtain⟨pre,rest,q,g⟩:=x
 dsimp only at hg1 ⊢
 refine evc [] [] ?_
 refine sq (fun h1 h1p h1s=>?_) fun h1 h1p h1s=>?_
 try simp only[Q] at h1p
 rcases rest with _|⟨y,rest⟩
 ·exfalso;simp_all
 have hpl:pre.length≤6:=(by have hz:=congrArg List.length hg1.1;simp at hz;omega)
 refine Walk.idx zc7 .none rfl rfl rfl rfl (zaD hg1.1) rfl ?_
 refine ev ?_
 refine sq (fun h2 h2p h2s=>?_) fun h2 h2p h2s=>?_
 try simp only[Q] at h2p
 refine Walk.call (cr:=[]) zcg (zaQ (p:=q) (n:=2) hb (by omega) (by omega)) rfl (.some rfl rfl h2) rfl rfl (LeL.refl _) ⟨rfl,trivial⟩ rfl rfl rfl ?_
 refine evs [] [(33,true)] ?_ ⟨⟨_,rfl,h2⟩,trivial⟩
 refine sq (fun h3 h3p h3s=>?_) fun h3 h3p h3s=>?_
 try simp only[Q] at h3p
 refine Walk.call (cr:=[]) zcg (zaQ (p:=q+1) (n:=2) hb (by omega) (by omega)) rfl .none rfl rfl (LeL.refl _) ⟨rfl,trivial⟩ rfl rfl rfl ?_
 refine evd [] [] ?_
 refine ar ?_ (by have:=hpb (q+1);constructor<;>omega)
 refine Walk.idx zc7 .none rfl rfl rfl rfl (zaD hg1.1) rfl ?_
 refine evd [] [] ?_
 refine Walk.call (cr:=[]) zcg (zaQ (p:=q+2) (n:=10) hb (by omega) (by omega)) rfl .none rfl rfl (LeL.refl _) ⟨rfl,trivial⟩ rfl rfl rfl ?_
 refine Walk.build st58 (ks:=[0,1,2]) (xs:=[_,_,_]) rfl rfl .none rfl rfl rfl ?_
 refine evd [] [] ?_
 refine Walk.store ty58 .none rfl rfl rfl rfl rfl rfl (by simp) rfl ?_
 refine dr ?_
 refine ar ?_ (by have:=hpb (q+1);constructor<;>omega)
 refine Exists.intro ((pre++[y],rest,(zcn b y g q).2,(zcn b y g q).1)) ⟨⟨(by have hz:=hg1.1;rw[←hz];simp),⟨(by have:=zg8 b y g q;simp only[List.length_append,List.length_cons,List.length_nil];omega),(by rw[←hg1.2.2];simp[gdL])⟩⟩,(by simp),sx ⟨⟨_,rfl,LeA.eqi ?_⟩,trivial⟩ ⟨?_,⟨?_,trivial⟩⟩⟩
 focus (first|rfl|(simp;done)|omega)
 iterate 2 focus (first|rfl|(rw[zie (by omega) (by omega)];all_goals rfl)|(rw[zif (by omega) (by omega)];all_goals rfl)|(rw[zig (by omega)];all_goals rfl))
 try simp only[Q] at h3p
 refine ar ?_ (by have:=hpb (q+1);constructor<;>omega)
 refine Exists.intro ((pre++[y],rest,(zcn b y g q).2,(zcn b y g q).1)) ⟨⟨(by have hz:=hg1.1;rw[←hz];simp),⟨(by have:=zg8 b y g q;simp only[List.length_append,List.length_cons,List.length_nil];omega),(by rw[←hg1.2.2];simp[gdL])⟩⟩,(by simp),sx ⟨⟨_,rfl,LeA.eqi ?_⟩,trivial⟩ ⟨?_,⟨?_,trivial⟩⟩⟩
 focus (first|rfl|(simp;done)|omega)
 iterate 2 focus (first|rfl|(rw[zie (by omega) (by omega)];all_goals rfl)|(rw[zif (by omega) (by omega)];all_goals rfl)|(rw[zig (by omega)];all_goals rfl))
 try simp only[Q] at h2p
 refine sqF ?_
 refine ar ?_ (by have:=hpb (q+1);constructor<;>omega)
 refine Exists.intro ((pre++[y],rest,(zcn b y g q).2,(zcn b y g q).1)) ⟨⟨(by have hz:=hg1.1;rw[←hz];simp),⟨(by have:=zg8 b y g q;simp only[List.length_append,List.length_cons,List.length_nil];omega),(by rw[←hg1.2.2];simp[gdL])⟩⟩,(by simp),sx ⟨⟨_,rfl,LeA.eqi ?_⟩,trivial⟩ ⟨?_,⟨?_,trivial⟩⟩⟩
 focus (first|rfl|(simp;done)|omega)
 iterate 2 focus (first|rfl|(rw[zie (by omega) (by omega)];all_goals rfl)|(rw[zif (by omega) (by omega)];all_goals rfl)|(rw[zig (by omega)];all_goals rfl))
 try simp only[Q] at h1p
 have hrest:rest=[]:=by
  rcases rest with _|⟨a,b⟩
  ·rfl
  ·exfalso;have hz:=congrArg List.length (hg1.1);simp only[List.length_append,List.length_cons,List.length_map] at hz;omega
 subst hrest
 refine Walk.store ty60 .none rfl rfl rfl rfl rfl rfl (by simp) rfl ?_
 refine tv ?_
 refine rn [(900,some (rdB b (gdL b L g0 q0).2))] (.cons (.cellA ty60 rfl rfl rfl) .nil) (.agg (.cons (.eqd ?_) (.cons (.eqd ?_) (.cons (.eqd ?_) (.cons (.eqd ?_) (.cons (.eqd ?_) (.cons (.eqd ?_) (.cons (.eqd ?_) (.cons (.eqd ?_) (.cons (.eqd ?_) .nil)))))))))) ⟨rfl,rfl⟩ (SubO.get ⟨.inr ?_,⟨.inl rfl,trivial⟩⟩) (zaB rfl)
 rotate_left 10
 all_goals (first|((first|rfl|(rw[←hg1.2.2,gdL];all_goals rfl));done)|(first|(rw[←hg1.2.2,gdL];all_goals rfl)|rfl))
def clL (b:Str) (w:List Data) (t:Ty):Nat→Nat→List Cl×Nat
 |0,q=>([],q)
 |n+1,q=>((clD b w t q).1::(clL b w t n (clD b w t q).2).1,(clL b w t n (clD b w t q).2).2)
def CSm (l:List Cl):Prop:=∀c∈l,c.pat.size≤400∧c.pat.ok
theorem zrk {b:Str}{w:List Data} (hf:Few w){t:Ty} (ht:TyIn w.length t):∀(n q:Nat),(clL b w t n q).2≤q+518*n∧(clL b w t n q).1.length=n∧CSm (clL b w t n q).1
 |0,q=>⟨by simp[clL],rfl,fun c hc=>by simp[clL] at hc⟩
 |n+1,q=>by
  have h1:=zrj (b:=b) hf ht q
  have h2:=zrk (b:=b) hf ht n (clD b w t q).2
  unfold clL
  refine⟨by dsimp only;omega,by simp[h2.2.1],fun c hc=>?_⟩
  rcases List.mem_cons.1 hc with rfl|hc
  ·exact⟨by omega,h1.2.2⟩
  ·exact h2.2.2 c hc
theorem num6 (b:Str) (p:Nat):0≤numV b p [3,2,4,5,1,0]∧numV b p [3,2,4,5,1,0]≤5:=by
 have:=zkt (b:=b) (p:=p) (l:=[3,2,4,5,1,0]) (by simp)
 simp only[List.mem_cons,List.not_mem_nil,or_false] at this
 omega
def clS (b:Str) (w:List Data) (t:Ty) (q:Nat):List Cl×Nat:=clL b w t (numV b q [3,2,4,5,1,0]).toNat (q+1)
theorem zuI {b:Str}{w:List Data} (hf:Few w){t:Ty} (ht:TyIn w.length t) (q:Nat):(clS b w t q).2≤q+2591∧(clS b w t q).1.length≤5∧CSm (clS b w t q).1:=by
 have h:=zrk (b:=b) hf ht (numV b q [3,2,4,5,1,0]).toNat (q+1)
 have h2:=num6 b q
 unfold clS
 exact⟨by omega,by omega,h.2.2⟩
theorem zpj (b:Str) (p:Nat):TyIn (zbH b p).length (typT b p):=zb6 (zjx b p).ins
def rnL (b:Str):List Cl×Nat:=clS b (zbH b 0) (typT b 0) (typV b 0).2
theorem zrU (b:Str):(rnL b).2≤2700∧(rnL b).1.length≤5∧CSm (rnL b).1:=by
 have h1:=(zp9 b 0).1
 have h2:=zuI (b:=b) (zfc b 0).few (zpj b 0) (typV b 0).2
 unfold rnL
 exact⟨by omega,h2.2⟩
def anyC:Cl:=⟨⟨1,0,0,0,0,[]⟩,⟨0,0,0⟩⟩
def mutC (b:Str) (l:List Cl) (q:Nat):List Cl×Nat:=
 if zan b q 24=0 then (match l with
  | []=>([],q+1)
  |y::r=>(⟨y.pat,⟨numV b (q+1) [1,2,3,-1],numV b (q+2) [0,5,9],numV b (q+3) [3,10,-1]⟩⟩::r,q+4))
 else if zan b q 24=1 then (match l with
  | []=>([],q+1)
  |y::r=>(⟨(mutP b (mutP b y.pat (q+1)).1 (mutP b y.pat (q+1)).2).1,y.g⟩::r,(mutP b (mutP b y.pat (q+1)).1 (mutP b y.pat (q+1)).2).2))
 else if zan b q 24=2 then (l++List.replicate (9-l.length) anyC,q+1)
 else (l,q+1)
theorem zoP (b:Str) (p:Pat) (q:Nat):(mutP b p q).2≤q+2:=by
 unfold mutP
 repeat' split
 all_goals (dsimp only;omega)
theorem zmC {b:Str}{p:Pat}{q m:Nat} (hs:p.size≤m) (hm:m≤1000) (hok:p.ok):(mutP b p q).1.size≤m+1∧(mutP b p q).1.ok:=by
 have hv:zbF.size=1∧zbF.ok:=⟨by rw[Pat.size_eq];rfl,by rw[Pat.ok_iff];exact⟨by simp[zbF,Pat.kids],trivial⟩⟩
 refine⟨?_,(ztv (by omega) hok).2⟩
 have h0:=Pat.size_eq p
 have same:∀a c n m' v:Int,(Pat.mk a c n m' v p.kids).size≤m+1:=fun a c n m' v=>by
  rw[Pat.size_eq];show 1+Pats.size p.kids≤_;omega
 unfold mutP
 split;exact same _ _ _ _ _
 split;exact same _ _ _ _ _
 split;exact same _ _ _ _ _
 split
 ·dsimp only;rw[Pat.size_eq];show 1+Pats.size (p.kids++[zbF])≤_;rw[Pats.size_snoc];omega
 split
 ·dsimp only;rw[Pat.size_eq];show 1+Pats.size (p.kids.set 0 zbF)≤_
  have:=zmH (x:=zbF) (l:=p.kids) (i:=0);omega
 split;exact same _ _ _ _ _
 exact same _ _ _ _ _
theorem ztu {b:Str}{l:List Cl}{q:Nat} (h:CSm l) (hl:l.length≤6):(mutC b l q).2≤q+5∧(mutC b l q).1.length≤9∧∀c∈(mutC b l q).1,c.pat.size≤4000∧c.pat.ok:=by
 have hs:∀c∈l,c.pat.size≤4000∧c.pat.ok:=fun c hc=>⟨by have:=(h c hc).1;omega,(h c hc).2⟩
 unfold mutC
 split
 ·cases l with
  |nil=>exact⟨by simp,by simp,by simp⟩
  |cons y r=>
   simp only[List.length_cons] at hl
   refine⟨by simp,by simp;omega,fun c hc=>?_⟩
   rcases List.mem_cons.1 hc with rfl|hc
   ·exact hs y (by simp)
   ·exact hs c (by simp[hc])
 split
 ·cases l with
  |nil=>exact⟨by simp,by simp,by simp⟩
  |cons y r=>
   have h1:=h y (by simp)
   have h2:=zoP b y.pat (q+1)
   have h3:=zoP b (mutP b y.pat (q+1)).1 (mutP b y.pat (q+1)).2
   simp only[List.length_cons] at hl
   refine⟨by dsimp only;omega,by simp;omega,fun c hc=>?_⟩
   rcases List.mem_cons.1 hc with rfl|hc
   ·have h4:=zmC (b:=b) (p:=y.pat) (q:=q+1) (m:=400) h1.1 (by omega) h1.2
    have h5:=zmC (b:=b) (p:=(mutP b y.pat (q+1)).1) (q:=(mutP b y.pat (q+1)).2) (m:=401) h4.1 (by omega) h4.2
    exact⟨by have:=h5.1;dsimp only;omega,h5.2⟩
   ·exact hs c (by simp[hc])
 split
 ·refine⟨by simp,by simp;omega,fun c hc=>?_⟩
  rcases List.mem_append.1 hc with hc|hc
  ·exact hs c hc
  ·rw[List.eq_of_mem_replicate hc]
   have ha:=zhC
   exact⟨by show anyP.size≤_;omega,ha.2⟩
 ·exact⟨by simp,by dsimp only;omega,hs⟩
theorem zuT {b:Str}{y:Cl}{r:List Cl}{q:Nat} (h:zan b q 24=0):mutC b (y::r) q=(⟨y.pat,⟨numV b (q+1) [1,2,3,-1],numV b (q+2) [0,5,9],numV b (q+3) [3,10,-1]⟩⟩::r,q+4):=by unfold mutC;rw[if_pos h]
theorem zuU {b:Str}{y:Cl}{r:List Cl}{q:Nat} (h:zan b q 24=1):mutC b (y::r) q=(⟨(mutP b (mutP b y.pat (q+1)).1 (mutP b y.pat (q+1)).2).1,y.g⟩::r,(mutP b (mutP b y.pat (q+1)).1 (mutP b y.pat (q+1)).2).2):=by unfold mutC;rw[if_neg (by omega),if_pos h]
theorem zrH {b:Str}{l:List Cl}{q:Nat} (h:zan b q 24=2):mutC b l q=(l++List.replicate (9-l.length) anyC,q+1):=by unfold mutC;rw[if_neg (by omega),if_neg (by omega),if_pos h]
theorem zrI {b:Str}{l:List Cl}{q:Nat} (h0:¬zan b q 24=0) (h1:¬zan b q 24=1) (h2:¬zan b q 24=2):mutC b l q=(l,q+1):=by unfold mutC;rw[if_neg h0,if_neg h1,if_neg h2]
theorem zoO {b:Str}{l:List Cl}{q:Nat} (h0:zan b q 24=0∨zan b q 24=1) (h:l.length=0):mutC b l q=(l,q+1):=by
 obtain rfl:=List.eq_nil_of_length_eq_zero h
 unfold mutC
 rcases h0 with h0|h0
 ·rw[if_pos h0]
 ·rw[if_neg (by omega),if_pos h0]
theorem putG {y:Cl}{r:List Cl}{a b c:AV}:putC (((y::r).map Cl.c).flatten.map AV.d) 6 [a,b,c]=some ([.d (.i y.pat.op),.d (.i y.pat.ctor),.d (.i y.pat.n),.d (.i y.pat.m),.d (.i y.pat.var),.d (.sl (Pat.cs y.pat.kids)),a,b,c]++(r.map Cl.c).flatten.map .d):=by
 simp[putC]
theorem zvi {y:Cl}{r:List Cl}{a b c d e f:AV}:putC (((y::r).map Cl.c).flatten.map AV.d) 0 [a,b,c,d,e,f]=some ([a,b,c,d,e,f,.d (.i y.g.op),.d (.i y.g.var),.d (.i y.g.n)]++(r.map Cl.c).flatten.map .d):=by
 simp[putC]
theorem zvb {y:Cl}{r:List Cl}:cutC (((y::r).map Cl.c).flatten.map AV.d) 0 6=some [.d (.i y.pat.op),.d (.i y.pat.ctor),.d (.i y.pat.n),.d (.i y.pat.m),.d (.i y.pat.var),.d (.sl (Pat.cs y.pat.kids))]:=by
 simp[cutC]
theorem zgv (l:List Cl):∀x∈l.map Cl.c,x.length=9:=by
 intro x hx;obtain⟨y,_,rfl⟩:=List.mem_map.1 hx;rfl
theorem zn3 (l:List Cl) (i:Nat):(l++List.replicate i anyC).map Cl.c++[Cl.c anyC]=(l++List.replicate (i+1) anyC).map Cl.c:=by
 rw[List.replicate_succ',←List.append_assoc,List.map_append (l₁:=l++List.replicate i anyC)];rfl
theorem zhk {b:Str} (hb:b.length≤2000){l:List Cl}{q:Nat} (hq:q≤10000) (hl:l.length≤6) (hc:¬((zan b q 24=0∨zan b q 24=1)∧l≠[])):
  FnD Tryz.prog 66 [.ref 900 0,.d (zbg l)] [(900,some (rdB b q))] (.d (zbg (mutC b l q).1)) [(900,some (rdB b (mutC b l q).2))]:=by
 have hnil:l≠[]→zan b q 24≠0∧zan b q 24≠1:=fun h=>by
  constructor
  ·intro h2;exact hc ⟨.inl h2,h⟩
  ·intro h2;exact hc ⟨.inr h2,h⟩
 refine bd Tryz.f66 56 [] [] fun w0 F0 own kept hk=>?_
 refine Walk.sliceEmptyG 1 sl28 .none rfl rfl ?_
 refine ev ?_
 refine Walk.append sl28 zz60 rfl .none rfl rfl rfl rfl (zaw rfl (by first|rfl|(simp;done)|(simp;omega))) (by first|exact zgv _|(intro y hy;simp at hy;subst hy;rfl)) (by simp;omega) (by simp;omega) ?_
 refine ev ?_
 refine Walk.call (cr:=[]) zcg (zaQ (p:=q) (n:=24) hb (by omega) (by omega)) rfl .none rfl rfl (LeL.refl _) ⟨rfl,trivial⟩ rfl rfl rfl ?_
 refine tv ?_
 refine sq (fun h1 h1p h1s=>?_) fun h1 h1p h1s=>?_
 try simp only[Q,Int.natCast_inj] at h1p
 refine sq (fun h2 h2p h2s=>?_) fun h2 h2p h2s=>?_
 try simp only[Q,Int.natCast_inj] at h2p
 exfalso;have hne:l≠[]:=(fun hh=>by rw[hh] at h2p;exact absurd h2p (by decide));exact(hnil hne).1 (by omega)
 try simp only[Q,Int.natCast_inj] at h2p
 have hz0:l.length=0:=(by have hq:=h2p;simp only[List.nil_append,List.length_map] at hq;omega)
 refine rn [(900,some (rdB b (mutC b l q).2))] (r1 rfl) (.gld ?_) ⟨rfl,rfl⟩ (SubO.get ⟨.inr ?_,⟨.inl rfl,trivial⟩⟩) (zaB rfl)
 rotate_left 2
 try simp only[Q,Int.natCast_inj] at h1p
 refine sq (fun h3 h3p h3s=>?_) fun h3 h3p h3s=>?_
 try simp only[Q,Int.natCast_inj] at h3p
 refine sq (fun h4 h4p h4s=>?_) fun h4 h4p h4s=>?_
 try simp only[Q,Int.natCast_inj] at h4p
 exfalso;have hne:l≠[]:=(fun hh=>by rw[hh] at h4p;exact absurd h4p (by decide));exact(hnil hne).2 (by omega)
 try simp only[Q,Int.natCast_inj] at h4p
 have hz0:l.length=0:=(by have hq:=h4p;simp only[List.nil_append,List.length_map] at hq;omega)
 refine rn [(900,some (rdB b (mutC b l q).2))] (r1 rfl) (.gld ?_) ⟨rfl,rfl⟩ (SubO.get ⟨.inr ?_,⟨.inl rfl,trivial⟩⟩) (zaB rfl)
 rotate_left 2
 try simp only[Q,Int.natCast_inj] at h3p
 refine sq (fun h5 h5p h5s=>?_) fun h5 h5p h5s=>?_
 try simp only[Q,Int.natCast_inj] at h5p
 refine CWp.loopX (ι:=Nat) hk (fun i=>[(5,.gl 1 ((l++List.replicate i anyC).map Cl.c))]) [47,48,49,50,51,52,53,54] (fun i=>[(1,some (.tok (((l++List.replicate i anyC).map Cl.c)).length 9))]) (fun i=>i≤9-l.length∧zan b q 24=2) (fun i=>9-l.length-i) 0 ⟨by omega,by omega⟩ ⟨⟨_,rfl,LeA.glg ?_⟩,trivial⟩ ⟨zaa ?_,trivial⟩ (fun x=>rfl) (fun i hg1=>?_)
 iterate 2 focus (first|rfl|omega|(simp;done)|exact zn3 l i|(simp;omega))
 refine evc [] [] ?_
 refine sq (fun h6 h6p h6s=>?_) fun h6 h6p h6s=>?_
 try simp only[Q,Int.natCast_inj] at h6p
 refine Walk.build st56 (ks:=[0]) (xs:=[_]) rfl rfl .none rfl rfl rfl ?_
 refine Walk.build st60 (ks:=[0]) (xs:=[_]) rfl rfl .none rfl rfl rfl ?_
 refine Walk.sliceLit sl28 tz60 rfl (by decide) (ks:=[0]) (xs:=[_]) rfl rfl (by decide) (by decide) .none rfl rfl rfl rfl ?_
 refine Walk.append sl28 zz60 rfl .none rfl rfl rfl rfl (zaw rfl (by first|rfl|(simp;done)|(simp;omega))) (by first|exact zgv _|(intro y hy;simp at hy;subst hy;rfl)) (by simp;omega) (by simp;omega) ?_
 refine ev ?_
 refine Exists.intro (i+1) ⟨⟨by simp at *;omega,hg1.2⟩,(by simp at *;omega),sx ⟨⟨_,rfl,LeA.glg ?_⟩,trivial⟩ ⟨zaa ?_,trivial⟩⟩
 iterate 2 focus (first|rfl|omega|(simp;done)|exact zn3 l i|(simp;omega))
 try simp only[Q,Int.natCast_inj] at h6p
 refine rn [(900,some (rdB b (mutC b l q).2))] (r1 rfl) (.gld ?_) ⟨rfl,rfl⟩ (SubO.get ⟨.inr ?_,⟨.inl rfl,trivial⟩⟩) (zaB rfl)
 rotate_left 2
 try simp only[Q,Int.natCast_inj] at h5p
 refine rn [(900,some (rdB b (mutC b l q).2))] (r1 rfl) (.gld ?_) ⟨rfl,rfl⟩ (SubO.get ⟨.inr ?_,⟨.inl rfl,trivial⟩⟩) (zaB rfl)
 rotate_left 2
 all_goals (first|((first|(rw[zoO (by omega) (by omega)];all_goals rfl)|(rw[zrH (by omega),show 9-l.length=i by simp at *;omega];all_goals first|rfl|(simp;done))|(rw[zrI (by omega) (by omega) (by omega)];all_goals rfl));done)|(first|(rw[zoO (by omega) (by omega)];all_goals rfl)|(rw[zrH (by omega)];all_goals rfl)|(rw[zrI (by omega) (by omega) (by omega)];all_goals rfl)))
theorem zlW {b:Str} (hb:b.length≤2000){y:Cl}{r:List Cl}{q:Nat} (hq:q≤10000) (hl:(y::r).length≤6) (hc:zan b q 24=0):
  FnD Tryz.prog 66 [.ref 900 0,.d (zbg (y::r))] [(900,some (rdB b q))] (.d (zbg (mutC b (y::r) q).1)) [(900,some (rdB b (mutC b (y::r) q).2))]:=by
 have hrl:((y::r).map Cl.c).length=(r.map Cl.c).length+1:=rfl
 rw[zuT hc]
 refine bd Tryz.f66 56 [] [999999] fun w0 F0 own kept hk=>?_
 refine Walk.sliceEmptyGV 1 sl28 .none rfl rfl ?_
 refine ev ?_
 refine Walk.appendM hk rfl (by simp) sl28 zz60 .none rfl rfl rfl rfl (zaw rfl (by first|rfl|(simp;done)|(simp;omega))) (by exact zgv _) (by simp at *;omega) (by simp at *;omega) ?_
 refine ev ?_
 refine Walk.call (cr:=[]) zcg (zaQ (p:=q) (n:=24) hb (by omega) (by omega)) rfl .none rfl rfl (LeL.refl _) ⟨rfl,trivial⟩ rfl rfl rfl ?_
 refine tv ?_
 refine sq (fun h1 h1p h1s=>?_) fun h1 h1p h1s=>?_
 try simp only[Q,Int.natCast_inj] at h1p
 refine sq (fun h2 h2p h2s=>?_) fun h2 h2p h2s=>?_
 try simp only[Q,Int.natCast_inj] at h2p
 refine Walk.sliceLit za0 tz3 rfl (by decide) (ks:=[0,1,2,3]) (xs:=[_,_,_,_]) rfl rfl (by decide) (by decide) .none rfl rfl rfl rfl ?_
 refine Walk.call (cr:=[]) zdL (zbQ (p:=q+1) (l:=[1,2,3,-1]) hb (by omega) (by simp) (by simp)) rfl .none rfl rfl (LeL.refl _) ⟨rfl,trivial⟩ rfl rfl rfl ?_
 refine ev ?_
 refine Walk.sliceLit za0 tz3 rfl (by decide) (ks:=[0,1,2]) (xs:=[_,_,_]) rfl rfl (by decide) (by decide) .none rfl rfl rfl rfl ?_
 refine Walk.call (cr:=[]) zdL (zbQ (p:=q+2) (l:=[0,5,9]) hb (by omega) (by simp) (by simp)) rfl .none rfl rfl (LeL.refl _) ⟨rfl,trivial⟩ rfl rfl rfl ?_
 refine ev ?_
 refine Walk.sliceLit za0 tz3 rfl (by decide) (ks:=[0,1,2]) (xs:=[_,_,_]) rfl rfl (by decide) (by decide) .none rfl rfl rfl rfl ?_
 refine Walk.call (cr:=[]) zdL (zbQ (p:=q+3) (l:=[3,10,-1]) hb (by omega) (by simp) (by simp)) rfl .none rfl rfl (LeL.refl _) ⟨rfl,trivial⟩ rfl rfl rfl ?_
 refine Walk.build st58 (ks:=[0,1,2]) (xs:=[_,_,_]) rfl rfl .none rfl rfl rfl ?_
 refine Walk.idxM (i:=0) sl28 .none rfl rfl rfl rfl (by first|(simp;done)|(simp;omega)) ?_
 refine ev ?_
 refine Walk.store ty58 .none rfl rfl rfl rfl rfl rfl (by simp) ((putG)) ?_
 refine tv ?_
 refine CWp.frz hk 4 1 _ _ rfl rfl (by rw[List.nil_append,hrl];exact zol rfl rfl (zgv r)) rfl ?_
 refine CWp.ret ?_
 refine rn [(900,some (rdB b (q+4)))] (r1 rfl) (.eqd ?_) ⟨rfl,rfl⟩ (SubO.get ⟨.inr ?_,⟨.inl rfl,trivial⟩⟩) (zaB rfl)
 rotate_left 2
 try simp only[Q,Int.natCast_inj] at h2p
 exfalso;rw[List.nil_append,hrl] at h2p;omega
 try simp only[Q,Int.natCast_inj] at h1p
 exfalso;omega
 all_goals (first|((rfl);done)|(rfl))
theorem zlX {b:Str} (hb:b.length≤2000){y:Cl}{r:List Cl}{q:Nat} (hq:q≤10000) (hl:(y::r).length≤6) (hsm:y.pat.size≤400∧y.pat.ok) (hc:zan b q 24=1):
  FnD Tryz.prog 66 [.ref 900 0,.d (zbg (y::r))] [(900,some (rdB b q))] (.d (zbg (mutC b (y::r) q).1)) [(900,some (rdB b (mutC b (y::r) q).2))]:=by
 have hrl:((y::r).map Cl.c).length=(r.map Cl.c).length+1:=rfl
 rw[zuU hc]
 have h1:=zmC (b:=b) (p:=y.pat) (q:=q+1) (m:=400) hsm.1 (by omega) hsm.2
 have h2:=zoP b y.pat (q+1)
 have i1:=zgX hb (p:=y.pat) (q:=q+1) (by omega) hsm.2
 have i2:=zgX hb (p:=(mutP b y.pat (q+1)).1) (q:=(mutP b y.pat (q+1)).2) (by omega) h1.2
 generalize mutP b y.pat (q+1)=z at *
 generalize mutP b z.1 z.2=z2 at *
 refine bd Tryz.f66 56 [40] [999999] fun w0 F0 own kept hk=>?_
 refine Walk.sliceEmptyGV 1 sl28 .none rfl rfl ?_
 refine evs [40] [] ?_
 refine Walk.appendM hk rfl (by simp) sl28 zz60 .none rfl rfl rfl rfl (zaw rfl (by first|rfl|(simp;done)|(simp;omega))) (by exact zgv _) (by simp at *;omega) (by simp at *;omega) ?_
 refine evs [40] [] ?_
 refine Walk.call (cr:=[]) zcg (zaQ (p:=q) (n:=24) hb (by omega) (by omega)) rfl .none rfl rfl (LeL.refl _) ⟨rfl,trivial⟩ rfl rfl rfl ?_
 refine tv ?_
 refine sq (fun h1 h1p h1s=>?_) fun h1 h1p h1s=>?_
 try simp only[Q,Int.natCast_inj] at h1p
 exfalso;omega
 try simp only[Q,Int.natCast_inj] at h1p
 refine sq (fun h2 h2p h2s=>?_) fun h2 h2p h2s=>?_
 try simp only[Q,Int.natCast_inj] at h2p
 refine sq (fun h3 h3p h3s=>?_) fun h3 h3p h3s=>?_
 try simp only[Q,Int.natCast_inj] at h3p
 refine Walk.idxM (i:=0) sl28 .none rfl rfl rfl rfl (by first|(simp;done)|(simp;omega)) ?_
 refine evs [40] [] ?_
 refine Walk.loadBA ty56 .none rfl rfl rfl ((zvb)) ?_
 refine Walk.call (cr:=[]) zqV (i1) rfl .none rfl rfl (LeL.refl _) ⟨rfl,trivial⟩ rfl rfl rfl ?_
 refine Walk.call (cr:=[]) zqV (i2) rfl .none rfl rfl (LeL.refl _) ⟨rfl,trivial⟩ rfl rfl rfl ?_
 refine Walk.idxM (i:=0) sl28 .none rfl rfl rfl rfl (by first|(simp;done)|(simp;omega)) ?_
 refine evs [40] [] ?_
 refine Walk.store ty56 .none rfl rfl rfl rfl rfl rfl (by simp) ((zvi)) ?_
 refine tv ?_
 refine CWp.frz hk 4 1 _ _ rfl rfl (by rw[List.nil_append,hrl];exact zol rfl rfl (zgv r)) rfl ?_
 refine CWp.ret ?_
 refine rn [(900,some (rdB b z2.2))] (r1 rfl) (.eqd ?_) ⟨rfl,rfl⟩ (SubO.get ⟨.inr ?_,⟨.inl rfl,trivial⟩⟩) (zaB rfl)
 rotate_left 2
 try simp only[Q,Int.natCast_inj] at h3p
 exfalso;rw[List.nil_append,hrl] at h3p;omega
 try simp only[Q,Int.natCast_inj] at h2p
 exfalso;omega
 all_goals (first|((rfl);done)|(rfl))
theorem zkB {b:Str} (hb:b.length≤2000){l:List Cl}{q:Nat} (hq:q≤10000) (hl:l.length≤6) (hs:CSm l):
  FnD Tryz.prog 66 [.ref 900 0,.d (zbg l)] [(900,some (rdB b q))] (.d (zbg (mutC b l q).1)) [(900,some (rdB b (mutC b l q).2))]:=by
 cases l with
 |nil=>exact zhk hb hq hl (fun h=>h.2 rfl)
 |cons y r=>
  by_cases h0:zan b q 24=0
  ·exact zlW hb hq hl h0
  ·by_cases h1:zan b q 24=1
   ·exact zlX hb hq hl (hs y (by simp)) h1
   ·exact zhk hb hq hl (fun h=>by rcases h.1 with h|h;exact h0 h;exact h1 h)
def rcW (b:Str):List Data:=zbH b 0
def rcT (b:Str):Ty:=typT b 0
end Go.Proofs.YtcnjkjdmbnhcaaaGreat
