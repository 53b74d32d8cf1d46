/-
  THE ABSTRACT WALK AND THE WALKS, part 5 of 6: the parts F38, F79, F59, F80, F60, F61, F30, F63, F81, F110, F113, F120, F73, F82, F83, F84, G5, F122, F130, F131, F123, Ta, F90, F91, F92, F93, F94, F95, F39, F96, F121.
-/
import Derived.Test.YtpgdedpljcedpaaGreatT4h4
namespace Go.Proofs.YtpgdedpljcedpaaGreat
open Go
set_option linter.unusedSimpArgs false
set_option linter.unusedVariables false
set_option maxRecDepth 100000
set_option maxHeartbeats 2000000
section
variable {c:Ctx}{all:Array Oper}{chk:List Rec->Prop}{os:List Oper}{recs:List Rec}{env:Env}{hp:Hp}{Q:St->Prop}
variable {d ty:Nat}{pos:String}{af:Array Edge}{g:Option (Nat×Bool)}{pg:List (Nat×AV)}{t yt:TypeId}{x y:Operand}
theorem xaC {id k e yb:Nat}{xs ys:List (List D)}{vy:AV}{ids:List Nat} (hkp:KeptIn c.kept ids) (hid:zbd id ids=false) (hne:xs++ys≠[]) (ht:SlT c.P t e k yb) (hz:ZeroT c.P e k) (hg:GH all env g pg) (hd:Nat.blt d c.n=true)
  (hx:opd env x=some (.gv id xs)) (hy:opd env y=some vy) (hyd:vy.toD=some (.sl ys)) (htok:getH hp id=some (.tok xs.length k)) (hky:∀y,y∈ys->y.length=k)
  (hb:(xs.length+ys.length)*yb<=140737488355328) (hm:xs.length+ys.length<=9223372036854775807)
  (hn:Walk c all chk os (zap (pg++(opF x (.gv id xs)++opF y vy)) [(id,.tok xs.length k)] [] ⟨some (d,.ms id (xs++ys).length),[(id,some (.box ((xs++ys).flatten.map .d)))]⟩::recs)
   ⟨(d,.ms id (xs++ys).length)::env,(id,some (.box ((xs++ys).flatten.map .d)))::hp⟩ Q):
  Walk c all chk (⟨some d,.call ⟨.builtin .append,#[x,y],#[t,t]⟩,ty,pos,af,g⟩::os) recs ⟨env,hp⟩ Q:=by
 refine⟨pg++(opF x (.gv id xs)++opF y vy),[(id,.tok xs.length k)],[],_, ?_,zaB hg.facts (zaB (zbe hx) (zbe hy)),hh1 htok,by simp,hn⟩;intro s a w hrel hp' hh _ K Q' hK;obtain⟨G,hr⟩:=hrel;have e1:=hr.opd (zbf hx (fun p hm=>hp' p (by simp[hm])));have e2:=hr.opd (zbf hy (fun p hm=>hp' p (by simp[hm])));obtain⟨i,z,z1,z2,z3⟩:=hz.out;obtain⟨v',w',G',hrun,hR,hA⟩:=zkb hr ht ⟨i,z1,z2,z3⟩ (hh1' hh) e1 (e2.toD hyd) hky hb hm ty;unfold wpO;rw[if_pos (hg.gf.wanted hr (fun p hm=>hp' p (by simp[hm])))];unfold Oper.wp;have:(execOp a.eval ⟨some d,.call ⟨.builtin .append,#[x,y],#[t,t]⟩,ty,pos,af,g⟩).run c.P w = .ok (.value v') w':=by
  simp only[execOp,resolve,invoke,builtin,Sem.run_bind,Sem.run_pure,Result.andThen_ok,List.map_toArray,xae,List.map_nil,hrun]
 rw[this,Oper.upon_value];have hV:Rel c ⟨(d,.gv id (xs++ys))::s.env,(id,some (.tok (xs.length+ys.length) k))::s.hp⟩ (a.put (some d) v') w':=⟨G',hR.put hA hd⟩;rcases Rel.fixV hkp d id k (xs:=xs++ys) (by simp[getE]) (by rw[zam,if_pos rfl,xaa]) hid hV with ⟨h,_⟩|⟨_,h⟩
 ·exact absurd h hne
 ·refine hK _ _ (h.congr (fun j=>?_) (fun j=>?_))
  ·show getE ((d,_)::s.env) j=getE ((d,_)::(d,_)::s.env) j
   simp only[getE];cases Nat.beq d j<;>rfl
  ·show getH ((id,_)::s.hp) j=getH ((id,_)::(id,_)::s.hp) j
   rw[zam,zam,zam];by_cases hj:j=id
   ·rw[if_pos hj,if_pos hj]
   ·rw[if_neg hj,if_neg hj,if_neg hj]
end
def zbo:Pat:=⟨2,0,0,0,0,[]⟩
def mutP (b:Str) (p:Pat) (q:Nat):Pat×Nat:=
 if zan b q 30=0 then (⟨numV b (q+1) [0,7,1,2,5],p.ctor,p.n,p.m,p.var,p.kids⟩,q+2)
 else if zan b q 30=1 then (⟨p.op,p.ctor,p.n,p.m,numV b (q+1) [6,-1,1],p.kids⟩,q+2)
 else if zan b q 30=2 then (⟨p.op,numV b (q+1) [9,-1,1],p.n,p.m,p.var,p.kids⟩,q+2)
 else if zan b q 30=3 then (⟨p.op,p.ctor,p.n,p.m,p.var,p.kids++[zbo]⟩,q+1)
 else if zan b q 30=4 then (⟨p.op,p.ctor,p.n,p.m,p.var,p.kids.set 0 zbo⟩,q+1)
 else if zan b q 30=5 then (⟨p.op,p.ctor,numV b (q+1) [10,-1,5],p.m,p.var,p.kids⟩,q+2)
 else (⟨p.op,p.ctor,p.n,p.m,p.var,p.kids⟩,q+1)
theorem put0 {l:List (List D)}{x:List D}{r:List (List D)}{v:List AV} (h:l=x::r) (hx:x.length=v.length):putC (l.flatten.map .d) 0 v=some (v++r.flatten.map .d):=by
 subst h;rw[List.flatten_cons,xaf];have key:∀(a b:List AV),a.length=b.length->∀(c:List AV),putC (a++c) 0 b=some (b++c):=by
  intro a;induction a with
  |nil=>intro b h c;cases b with
   |nil=>cases c<;>rfl
   |cons=>simp at h
  |cons y a ih=>intro b h c;cases b with
   |nil=>simp at h
   |cons z b=>
    have:=ih b (by simpa using h) c;simp only[xag,putC,this]
 exact key _ _ (by simpa using hx) _
theorem zq8 {k:Nat}{v:List AV}{vd:List D}{r:List (List D)} (hv:toDL v=some vd) (hk:v.length=k) (hr:∀x∈r,x.length=k):zbT (r.length+1) k (v++r.flatten.map .d)=some (vd::r):=by
 have h1:cutC (v++r.flatten.map .d) 0 k=some v:=zps hk;have h2:(v++r.flatten.map AV.d).drop k=r.flatten.map .d:=by rw[<-hk];simp
 have h3:=zeb (f:=fun x:List D=>x) (k:=k) (l:=r) hr;have h4:(r.flatMap fun x=>x.map AV.d)=r.flatten.map .d:=by rw[List.map_flatten];rfl
 rw[h4,List.map_id'] at h3;simp only[zbT,h1,hv,h2,h3]
theorem Pat.cs_app (a b:List Pat):Pat.cs (a++b)=Pat.cs a++Pat.cs b:=by
 rw[Pat.cs_cc,Pat.cs_cc,Pat.cs_cc,xaf]
theorem zod {b:Str} (hb:b.length<=2000){p:Pat}{q:Nat} (hq:q<=1000000) (hok:p.ok) (hc4:¬(zan b q 30=4/\p.kids≠[])):
  FnD Tryz.prog 90 [.ref 900 0,.agg [.d (.i p.op),.d (.i p.ctor),.d (.i p.n),.d (.i p.m),.d (.i p.var),.d (zae p.kids)]] [(900,some (rdB b q))]
   (.agg [.d (.i (mutP b p q).1.op),.d (.i (mutP b p q).1.ctor),.d (.i (mutP b p q).1.n),.d (.i (mutP b p q).1.m),.d (.i (mutP b p q).1.var),.d (zae (mutP b p q).1.kids)]) [(900,some (rdB b (mutP b p q).2))]:=by
 rw[Pat.ok_iff] at hok;have hkl:=Pat.cs_len p.kids;refine bd Tryz.f90 57 [] [] fun w0 F0 own kept hk=>?_;refine bx 3003 ?_;refine ab 3004 tz28 ?_;refine tv ?_;refine ab 3005 tz28 ?_;refine so ty28 ?_;refine tv ?_;refine xbi 1 sl26 .none rfl rfl ?_;refine ev ?_;refine ap sl26 zz28 rfl rfl rfl (by(intro x hx;exact Pat.cs_rows x hx)) (by simp[Pat.cs_len];omega) ?_;refine ev ?_;refine so ty26 ?_;refine tv ?_;refine wd zce (zaU (p:=q) (n:=30) hb (by omega) (by omega)) rfl rfl ⟨rfl,trivial⟩ ?_;refine tv ?_;refine sq ?_ ?_<;>intro h1 h1p h1s<;>(try simp only[Q,Pat.cs_len] at h1p);refine si [0,1,2,3,4] [_,_,_,_,_] sl62 tz3 ?_;refine wd zeK (zbL (p:=q+1) (l:=[0,7,1,2,5]) hb (by omega) (by simp) (by simp)) rfl rfl ⟨rfl,trivial⟩ ?_;refine ev ?_;refine so ty3 ?_;refine tv ?_;refine so ty28 ?_;refine tv ?_;refine rn [(900,some (rdB b (mutP b p q).2))] (.cons (.cellA ty28 rfl rfl rfl) .nil) (.agg (.cons (.eqd ?_) (.cons (.eqd ?_) (.cons (.eqd ?_) (.cons (.eqd ?_) (.cons (.eqd ?_) (.cons (.gld ?_) .nil))))))) ⟨rfl,rfl⟩ (SubO.get ⟨.inr ?_,⟨.inl rfl,trivial⟩⟩) (zay rfl);rotate_left 7;refine sq ?_ ?_<;>intro h2 h2p h2s<;>(try simp only[Q,Pat.cs_len] at h2p);refine si [0,1,2] [_,_,_] sl62 tz3 ?_;refine wd zeK (zbL (p:=q+1) (l:=[6,-1,1]) hb (by omega) (by simp) (by simp)) rfl rfl ⟨rfl,trivial⟩ ?_;refine ev ?_;refine so ty3 ?_;refine tv ?_;refine so ty28 ?_;refine tv ?_;refine rn [(900,some (rdB b (mutP b p q).2))] (.cons (.cellA ty28 rfl rfl rfl) .nil) (.agg (.cons (.eqd ?_) (.cons (.eqd ?_) (.cons (.eqd ?_) (.cons (.eqd ?_) (.cons (.eqd ?_) (.cons (.gld ?_) .nil))))))) ⟨rfl,rfl⟩ (SubO.get ⟨.inr ?_,⟨.inl rfl,trivial⟩⟩) (zay rfl);rotate_left 7;refine sq ?_ ?_<;>intro h3 h3p h3s<;>(try simp only[Q,Pat.cs_len] at h3p);refine si [0,1,2] [_,_,_] sl62 tz3 ?_;refine wd zeK (zbL (p:=q+1) (l:=[9,-1,1]) hb (by omega) (by simp) (by simp)) rfl rfl ⟨rfl,trivial⟩ ?_;refine ev ?_;refine so ty3 ?_;refine tv ?_;refine so ty28 ?_;refine tv ?_;refine rn [(900,some (rdB b (mutP b p q).2))] (.cons (.cellA ty28 rfl rfl rfl) .nil) (.agg (.cons (.eqd ?_) (.cons (.eqd ?_) (.cons (.eqd ?_) (.cons (.eqd ?_) (.cons (.eqd ?_) (.cons (.gld ?_) .nil))))))) ⟨rfl,rfl⟩ (SubO.get ⟨.inr ?_,⟨.inl rfl,trivial⟩⟩) (zay rfl);rotate_left 7;refine sq ?_ ?_<;>intro h4 h4p h4s<;>(try simp only[Q,Pat.cs_len] at h4p);refine bu [0] [_] st28 ?_;refine si [0] [_] sl26 tz28 ?_;refine ap sl26 zz28 rfl rfl rfl (by(intro x hx;simp only[List.mem_singleton] at hx;subst hx;rfl)) (by simp[Pat.cs_len];omega) ?_;refine ev ?_;refine so ty26 ?_;refine tv ?_;refine so ty28 ?_;refine tv ?_;refine rn [(900,some (rdB b (mutP b p q).2))] (.cons (.cellA ty28 rfl rfl rfl) .nil) (.agg (.cons (.eqd ?_) (.cons (.eqd ?_) (.cons (.eqd ?_) (.cons (.eqd ?_) (.cons (.eqd ?_) (.cons (.gld ?_) .nil))))))) ⟨rfl,rfl⟩ (SubO.get ⟨.inr ?_,⟨.inl rfl,trivial⟩⟩) (zay rfl);rotate_left 7;refine sq ?_ ?_<;>intro h5 h5p h5s<;>(try simp only[Q,Pat.cs_len] at h5p);refine sq ?_ ?_<;>intro h6 h6p h6s<;>(try simp only[Q,Pat.cs_len] at h6p);exfalso;apply hc4;refine⟨by omega,fun hh=>?_⟩;rw[hh] at h6p;exact absurd h6p (by decide);refine so ty28 ?_;refine tv ?_;refine rn [(900,some (rdB b (mutP b p q).2))] (.cons (.cellA ty28 rfl rfl rfl) .nil) (.agg (.cons (.eqd ?_) (.cons (.eqd ?_) (.cons (.eqd ?_) (.cons (.eqd ?_) (.cons (.eqd ?_) (.cons (.gld ?_) .nil))))))) ⟨rfl,rfl⟩ (SubO.get ⟨.inr ?_,⟨.inl rfl,trivial⟩⟩) (zay rfl);rotate_left 7;refine sq ?_ ?_<;>intro h7 h7p h7s<;>(try simp only[Q,Pat.cs_len] at h7p);refine si [0,1,2] [_,_,_] sl62 tz3 ?_;refine wd zeK (zbL (p:=q+1) (l:=[10,-1,5]) hb (by omega) (by simp) (by simp)) rfl rfl ⟨rfl,trivial⟩ ?_;refine ev ?_;refine so ty3 ?_;refine tv ?_;refine so ty28 ?_;refine tv ?_;refine rn [(900,some (rdB b (mutP b p q).2))] (.cons (.cellA ty28 rfl rfl rfl) .nil) (.agg (.cons (.eqd ?_) (.cons (.eqd ?_) (.cons (.eqd ?_) (.cons (.eqd ?_) (.cons (.eqd ?_) (.cons (.gld ?_) .nil))))))) ⟨rfl,rfl⟩ (SubO.get ⟨.inr ?_,⟨.inl rfl,trivial⟩⟩) (zay rfl);rotate_left 7;refine so ty28 ?_;refine tv ?_;refine rn [(900,some (rdB b (mutP b p q).2))] (.cons (.cellA ty28 rfl rfl rfl) .nil) (.agg (.cons (.eqd ?_) (.cons (.eqd ?_) (.cons (.eqd ?_) (.cons (.eqd ?_) (.cons (.eqd ?_) (.cons (.gld ?_) .nil))))))) ⟨rfl,rfl⟩ (SubO.get ⟨.inr ?_,⟨.inl rfl,trivial⟩⟩) (zay rfl);rotate_left 7;all_goals (((unfold mutP;first|(rw[if_pos (by omega)];all_goals first|rfl|(show _=Pat.cs (p.kids++[zbo]);rw[Pat.cs_app];all_goals rfl))|(rw[if_neg (by omega),if_pos (by omega)];all_goals first|rfl|(show _=Pat.cs (p.kids++[zbo]);rw[Pat.cs_app];all_goals rfl))|(rw[if_neg (by omega),if_neg (by omega),if_pos (by omega)];all_goals first|rfl|(show _=Pat.cs (p.kids++[zbo]);rw[Pat.cs_app];all_goals rfl))|(rw[if_neg (by omega),if_neg (by omega),if_neg (by omega),if_pos (by omega)];all_goals first|rfl|(show _=Pat.cs (p.kids++[zbo]);rw[Pat.cs_app];all_goals rfl))|(have hnk:p.kids=[]:=(by rcases hke:p.kids with _|⟨y,r⟩;rfl;exact absurd ⟨by omega,by rw[hke];simp⟩ hc4);rw[if_neg (by omega),if_neg (by omega),if_neg (by omega),if_neg (by omega),if_pos (by omega),hnk];all_goals rfl)|(rw[if_neg (by omega),if_neg (by omega),if_neg (by omega),if_neg (by omega),if_pos (by omega)];all_goals first|rfl|(show _=Pat.cs (p.kids++[zbo]);rw[Pat.cs_app];all_goals rfl))|(rw[if_neg (by omega),if_neg (by omega),if_neg (by omega),if_neg (by omega),if_neg (by omega),if_pos (by omega)];all_goals first|rfl|(show _=Pat.cs (p.kids++[zbo]);rw[Pat.cs_app];all_goals rfl))|(rw[if_neg (by omega),if_neg (by omega),if_neg (by omega),if_neg (by omega),if_neg (by omega),if_neg (by omega)];all_goals first|rfl|(show _=Pat.cs (p.kids++[zbo]);rw[Pat.cs_app];all_goals rfl)));done))
theorem zoe {b:Str} (hb:b.length<=2000){p:Pat}{q:Nat} (hq:q<=1000000) (hok:p.ok) (hc4:zan b q 30=4){y:Pat}{r:List Pat} (hk4:p.kids=y::r):
  FnD Tryz.prog 90 [.ref 900 0,.agg [.d (.i p.op),.d (.i p.ctor),.d (.i p.n),.d (.i p.m),.d (.i p.var),.d (zae p.kids)]] [(900,some (rdB b q))]
   (.agg [.d (.i (mutP b p q).1.op),.d (.i (mutP b p q).1.ctor),.d (.i (mutP b p q).1.n),.d (.i (mutP b p q).1.m),.d (.i (mutP b p q).1.var),.d (zae (mutP b p q).1.kids)]) [(900,some (rdB b (mutP b p q).2))]:=by
 rw[Pat.ok_iff] at hok;have hkl:=Pat.cs_len p.kids;have hcs:Pat.cs p.kids=y.cc::Pat.cs r:=by rw[Pat.cs_cc,hk4,xae,<-Pat.cs_cc]
 have hrl:(Pat.cs p.kids).length=(Pat.cs r).length+1:=by rw[hcs];rfl
 have hmu:mutP b p q=(⟨p.op,p.ctor,p.n,p.m,p.var,zbo::r⟩,q+1):=by
  unfold mutP;rw[if_neg (by omega),if_neg (by omega),if_neg (by omega),if_neg (by omega),if_pos hc4,hk4];rfl
 refine bd Tryz.f90 57 [] [17] fun w0 F0 own kept hk=>?_;refine bx 3003 ?_;refine ab 3004 tz28 ?_;refine tv ?_;refine ab 3005 tz28 ?_;refine so ty28 ?_;refine tv ?_;refine xbj 1 sl26 .none rfl rfl ?_;refine ev ?_;refine xaC hk rfl (by rw[hcs];simp) sl26 zz28 .none rfl rfl rfl rfl (zdr rfl (by rfl)) (by intro x hx;exact Pat.cs_rows x hx) (by simp[Pat.cs_len];omega) (by simp[Pat.cs_len];omega) ?_;refine ev ?_;refine so ty26 ?_;refine tv ?_;refine wd zce (zaU (p:=q) (n:=30) hb (by omega) (by omega)) rfl rfl ⟨rfl,trivial⟩ ?_;refine tv ?_;refine sq ?_ ?_<;>intro h1 h1p h1s<;>(try simp only[Q,Pat.cs_len] at h1p);exfalso;omega;refine sq ?_ ?_<;>intro h2 h2p h2s<;>(try simp only[Q,Pat.cs_len] at h2p);exfalso;omega;refine sq ?_ ?_<;>intro h3 h3p h3s<;>(try simp only[Q,Pat.cs_len] at h3p);exfalso;omega;refine sq ?_ ?_<;>intro h4 h4p h4s<;>(try simp only[Q,Pat.cs_len] at h4p);exfalso;omega;refine sq ?_ ?_<;>intro h5 h5p h5s<;>(try simp only[Q,Pat.cs_len] at h5p);refine sq ?_ ?_<;>intro h6 h6p h6s<;>(try simp only[Q,Pat.cs_len] at h6p);refine bu [0] [_] st28 ?_;refine xaZ (i:=0) sl26 .none rfl rfl rfl rfl (by simp;omega) ?_;refine Walk.store ty28 .none rfl rfl rfl rfl rfl rfl (by simp) ((put0 hcs rfl)) ?_;refine tv ?_;refine CWp.frzC hk 3005 5 1 _ 6 rfl rfl rfl rfl rfl (by rw[List.nil_append,hrl];exact zq8 rfl rfl (fun x hx=>Pat.cs_rows x hx)) rfl ?_;refine evc [] [] ?_;refine so ty28 ?_;refine tv ?_;refine rn [(900,some (rdB b (mutP b p q).2))] (.cons (.cellA ty28 rfl rfl rfl) .nil) (.agg (.cons (.eqd ?_) (.cons (.eqd ?_) (.cons (.eqd ?_) (.cons (.eqd ?_) (.cons (.eqd ?_) (.cons (.eqd ?_) .nil))))))) ⟨rfl,rfl⟩ (SubO.get ⟨.inr ?_,⟨.inl rfl,trivial⟩⟩) (zay rfl);rotate_left 7;exfalso;rw[List.nil_append,hrl] at h6p;omega;exfalso;omega;all_goals (((rw[hmu];all_goals rfl);done))
theorem zhY {b:Str} (hb:b.length<=2000){p:Pat}{q:Nat} (hq:q<=1000000) (hok:p.ok):
  FnD Tryz.prog 90 [.ref 900 0,.agg [.d (.i p.op),.d (.i p.ctor),.d (.i p.n),.d (.i p.m),.d (.i p.var),.d (zae p.kids)]] [(900,some (rdB b q))]
   (.agg [.d (.i (mutP b p q).1.op),.d (.i (mutP b p q).1.ctor),.d (.i (mutP b p q).1.n),.d (.i (mutP b p q).1.m),.d (.i (mutP b p q).1.var),.d (zae (mutP b p q).1.kids)]) [(900,some (rdB b (mutP b p q).2))]:=by
 by_cases h:zan b q 30=4/\p.kids≠[]
 ·cases hk:p.kids with
  |nil=>exact absurd hk h.2
  |cons y r=>rw[<-hk];exact zoe hb hq hok h.1 hk
 ·exact zod hb hq hok h
theorem FnD.boxD {P:Program}{f:FuncId}{i n k:Nat}{args:List AV}{cs:List AV}{es:List (List D)} (hc:zbT n k (cs.take (n*k))=some es) (h:FnD P f args [] (.ms i n) [(i,some (.box cs))]):FnD P f args [] (.d (.sl es)) []:=by
 intro G w vals hok;refine(h G w vals hok).mono ?_;rintro e w' ⟨v,r',hp',G',rfl,⟨rfl,rfl⟩,hret⟩
 have gi:getH ([(i,some (Res.box cs))]++[]) i=some (.box cs):=by simp[getH]
 obtain⟨b,us,et,q1,q2,q3,q4,q5⟩:=hret.heap i _ gi;have hown:∀b,b∉zc9 G []:=fun b hb=>by simp[zc9] at hb
 have hnew:w.heap.size<=b:=(hret.new i (by rw[gi];rfl) b (by rw[q1];simp)).resolve_left (hown b);have hlt:b<w'.heap.size:=by
  rcases Nat.lt_or_ge b w'.heap.size with h|h
  ·exact h
  ·rw[Array.getElem?_eq_none h] at q2;cases q2
 let G2:Gh:={ G' with F:=fun x=>bif Nat.beq x b then us.size else G'.F x }
 have hin:G2.F b=us.size:=by simp[G2]
 have hout:∀x,x≠b->G2.F x=G'.F x:=fun x hx=>by
  have:Nat.beq x b=false:=by
   cases h:Nat.beq x b with
   |true=>exact absurd (Nat.eq_of_beq_eq_true h) hx
   |false=>rfl
  simp[G2,this]
 have hle:∀x o,o<G'.F x->o<G2.F x:=fun x o ho=>by
  by_cases hx:x=b
  ·subst hx;rw[q4] at ho;omega
  ·rw[hout x hx];exact ho
 refine⟨v,_,_,G2,rfl,⟨rfl,rfl⟩,zxQ hret.res q1 q2 q3 q5 hin (fun y o ho=>⟨hle y o ho,rfl⟩) hc,fun id x hx=>(by cases hx),fun id id' h1=>(by cases h1),fun id h1=>(by cases h1), ?_,fun x hx=>?_,fun id hi=>(by simp[zch,getH] at hi)⟩
 ·have hf:=hret.frm;exact⟨hf.os,hf.tape,hf.output,hf.size,fun x hx hn=>⟨(hf.block x hx hn).1,by rw[hout x (by omega)];exact(hf.block x hx hn).2⟩,fun x o ho=>⟨hle x o (hf.cell x o ho).1,(hf.cell x o ho).2⟩⟩
 ·rw[hout x (by omega)];exact hret.top x hx
def pd (s:List Pat):List AV:=(s.map Pat.cc).flatten.map .d
theorem zfx (a b:List Pat):pd (a++b)=pd a++pd b:=by simp[pd]
theorem znT (x:Pat):pd [x]=[.d (.i x.op),.d (.i x.ctor),.d (.i x.n),.d (.i x.m),.d (.i x.var),.d (zae x.kids)]:=rfl
theorem zi3 (s:List Pat):(pd s).length=s.length*6:=by
 induction s with
 |nil=>rfl
 |cons x r ih=>rw[show x::r=[x]++r from rfl,zfx,xaa,ih,znT];simp;omega
theorem zrP {s:List Pat}{i:Nat} (h:i<s.length):pd s=pd (s.take i)++(pd [nth s i]++pd (s.drop (i+1))):=by
 rw[<-zfx,<-zfx];congr 1
 rw[show [nth s i]++s.drop (i+1)=nth s i::s.drop (i+1) from rfl,<-zaK h,List.take_append_drop]
theorem zi2 (s:List Pat):AV.idsL (pd s)=[]:=by
 unfold pd;induction (s.map Pat.cc).flatten with
 |nil=>rfl
 |cons x r ih=>rw[xae,AV.idsL,ih];rfl
theorem zvj {s:List Pat}{i:Nat} (h:i<s.length):cutC (pd s) (i*6) 6=some [.d (.i (nth s i).op),.d (.i (nth s i).ctor),.d (.i (nth s i).n),.d (.i (nth s i).m),.d (.i (nth s i).var),.d (zae (nth s i).kids)]:=by
 rw[zrP h,zuV (by rw[zi3,List.length_take];omega) (r:=pd [nth s i])]
 ·rfl
 ·rw[znT];first|exact zxJ|(simp[cutC];done)
theorem zzu {s:List Pat}{i:Nat} (h:i<s.length){t:Pat}:putC (pd s) (i*6) [.d (.i t.op),.d (.i t.ctor),.d (.i t.n),.d (.i t.m),.d (.i t.var),.d (zae t.kids)]=some (pd (s.set i t)):=by
 rw[zrP h,zvl (by rw[zi3,List.length_take];omega) (B':=pd [t]++pd (s.drop (i+1))) (by rw[znT,znT];simp[putC])];rw[List.set_eq_take_append_cons_drop,if_pos h,<-zfx,<-zfx];rfl
abbrev z6:List AV:=[.d (.i 0),.d (.i 0),.d (.i 0),.d (.i 0),.d (.i 0),.nils]
theorem zx3 {s:List Pat}{i n:Nat} (hn:s.length=n) (h:i<=n):putC (pd s) (i*6) (zbc (n-i) z6)=some (pd (s.take i)++zbc (n-i) z6):=by
 subst hn;have e:pd s=pd (s.take i)++(pd (s.drop i)++[]):=by
  rw[List.append_nil,<-zfx,List.take_append_drop]
 have e2:putC (pd (s.take i)++(pd (s.drop i)++[])) (i*6) (zbc (s.length-i) z6)=some (pd (s.take i)++(zbc (s.length-i) z6++[])):=by
  rw[zww (by rw[zi3,List.length_take];omega) ?_];rw[zi3,List.length_drop,zeV];rfl
 rw[<-e,List.append_nil] at e2;exact e2
theorem zwt {s:List Pat}{tl:List AV}:zbT s.length 6 ((pd s++tl).take (s.length*6))=some (s.map Pat.cc):=by
 rw[List.take_append_of_le_length (by rw[zi3];exact Nat.le_refl _),List.take_of_length_le (by rw[zi3];exact Nat.le_refl _)];have:=zeb (f:=Pat.cc) (k:=6) (l:=s) (fun _ _=>rfl);rw[<-this];congr 1
 unfold pd;induction s with
 |nil=>rfl
 |cons x r ih=>
  simp only[xae,List.flatten_cons,xaf,List.flatMap_cons];exact congrArg (_++·) (ih (zeb (fun _ _=>rfl)))
theorem Pat.cs_ccs (l:List Pat):Pat.cs l=l.map Pat.cc:=by
 rw[Pat.cs_eq];exact List.map_congr_left (fun v _=>Pat.c_eq v)
theorem Ex.cs_ccs (l:List Ex):Ex.cs l=l.map Ex.cc:=by
 rw[Ex.cs_eq];exact List.map_congr_left (fun v _=>Ex.c_eq v)
theorem zeW {xs:List Pat}{f:Nat}{caps:List AV}{hp:Hp}{p:Pat->Bool} (hs:xs.length<=1000000000000) (hcal:Callee Tryz.prog f)
  (hf:∀t∈xs,FnD Tryz.prog f ([.agg [.d (.i t.op),.d (.i t.ctor),.d (.i t.n),.d (.i t.m),.d (.i t.var),.d (zae t.kids)]]++caps) hp (.d (.bool (p t))) []) (k1:subH hp hp) (k2:zd2 hp=true) (k3:za8 hp [] (.d .nilp) []=true):
  FnD Tryz.prog 152 [.d (zae xs),.fn f caps] hp (.d (.i (idxF p xs 0))) []:=by
 rw[show zae xs=D.sl (xs.map Pat.cc) by show D.sl (Pat.cs xs)=_;rw[Pat.cs_ccs]];refine bd Tryz.f152 19 [] [] fun w0 F0 own kept hk=>?_;refine xak (ι:=List (Pat)×List (Pat)) hk (fun x=>[(8,.d (.i (x.1.length:Int)))]) [4,5,9,10,11,12,13,14,15,16,17,18] (fun x=>[]) (fun x=>x.1++x.2=xs/\idxF p x.2 x.1.length=idxF p xs 0) (fun x=>x.2.length) ([],xs) ⟨by simp,rfl⟩ ⟨⟨_,rfl,xaq ?_⟩,trivial⟩ trivial (fun x=>zg6 hp) (fun x hg1=>?_);focus (first|rfl|(simp;done)|(simp_all;done)|omega)
 obtain⟨pre,rest⟩:=x;dsimp only at hg1 ⊢;refine evc [] [] ?_;refine sq ?_ ?_<;>intro h1 h1p h1s<;>(try simp only[Q] at h1p);rcases rest with _|⟨y,rest⟩
 ·exfalso;simp_all
 refine xaV sl26 .none rfl rfl rfl rfl (zaI hg1.1) rfl ?_;refine ev ?_;refine xaJ (cr:=[]) hcal (hf y (by rw[<-hg1.1];simp)) rfl .none rfl rfl rfl (LeL.refl _) k1 k2 (zc8 k3 _) rfl ?_;refine tv ?_;refine sq ?_ ?_<;>intro h2 h2p h2s<;>(try simp only[Q] at h2p);focus (refine rn [] (r1 rfl) (.eqd ?_) ⟨rfl,rfl⟩ (fun _ _ h=>h) (fun _ h=>h);all_goals (rw[<-hg1.2];simp[idxF,h1s,h1p,h2s,h2p]))
 refine ar ?_;refine xah ((pre++[y],rest)) ⟨⟨(by have hz:=hg1.1;rw[<-hz];simp),(by rw[<-hg1.2];simp[idxF,h2s])⟩,(by simp),Sub.x (by kernel_rfl) (by kernel_rfl) ⟨⟨_,rfl,xaq ?_⟩,trivial⟩ (by simp) (by simp[zdO]) trivial⟩;focus (first|rfl|(simp;done)|(simp_all;done)|omega)
 have hrest:rest=[]:=by
  rcases rest with _|⟨a,b⟩
  ·rfl
  ·exfalso;have hz:=congrArg List.length (hg1.1);simp only[xaa,xab,xac] at hz;omega
 subst hrest;focus (refine rn [] (r1 rfl) (.eqd ?_) ⟨rfl,rfl⟩ (fun _ _ h=>h) (fun _ h=>h);all_goals (rw[<-hg1.2];simp[idxF,h1s,h1p]))
theorem zgZ {xs:List Pat}{f:Nat}{caps:List AV}{hp:Hp}{p:Pat->Bool} (hs:xs.length<=1000000000000) (hcal:Callee Tryz.prog f)
  (hf:∀t∈xs,FnD Tryz.prog f ([.agg [.d (.i t.op),.d (.i t.ctor),.d (.i t.n),.d (.i t.m),.d (.i t.var),.d (zae t.kids)]]++caps) hp (.d (.bool (p t))) []) (k1:subH hp hp) (k2:zd2 hp=true) (k3:za8 hp [] (.d .nilp) []=true):
  FnD Tryz.prog 94 [.d (zae xs),.fn f caps] hp (.d (.bool (xs.any p))) []:=by
 refine bd Tryz.f94 9 [] [] fun w0 F0 own kept hk=>?_;refine Walk.call (cr:=[]) zmU (zeW hs hcal hf k1 k2 k3) rfl .none rfl rfl (LeL.refl _) k1 k2 (zc8 k3 _) rfl ?_;refine ev ?_;refine rn [] (r1 rfl) (.eqd ?_) ⟨rfl,rfl⟩ (fun _ _ h=>h) (fun _ h=>h);rotate_left;all_goals (exact congrArg D.bool (zfd p xs 0))
theorem ze2 {xs:List Pat}{f:Nat}{B2 B3:List AV}{p:Pat->Bool} (hs:xs.length<=1000000000000) (hcal:Callee Tryz.prog f) (hB2:AV.idsL B2=[]) (hB3:AV.idsL B3=[])
  (hf:∀t∈xs,FnD Tryz.prog f [.agg [.d (.i t.op),.d (.i t.ctor),.d (.i t.n),.d (.i t.m),.d (.i t.var),.d (zae t.kids)],.ref 3003 0,.ref 3004 0] [(3003,some (.box B2)),(3004,some (.box B3))] (.d (.bool (p t))) []):
  FnD Tryz.prog 152 [.ms 1 xs.length,.fn f [.ref 3003 0,.ref 3004 0]] [(1,some (.box (pd xs))),(3003,some (.box B2)),(3004,some (.box B3))] (.d (.i (idxF p xs 0))) []:=by
 refine bd Tryz.f152 19 [15] [] fun w0 F0 own kept hk=>?_;refine xak (ι:=Nat) hk (fun i=>[(8,.d (.i (i:Int)))]) [4,5,9,10,11,12,13,14,15,16,17,18] (fun i=>[]) (fun i=>i<=xs.length/\idxF p (xs.drop i) i=idxF p xs 0) (fun i=>xs.length-i) 0 ⟨by omega,rfl⟩ ⟨⟨_,rfl,xaq ?_⟩,trivial⟩ trivial (fun x=>rfl) (fun i hg1=>?_);focus (rfl)
 refine evc [15] [] ?_;refine sq ?_ ?_<;>intro h1 h1p h1s<;>(try simp only[Q] at h1p);refine xaZ sl26 .none rfl rfl rfl rfl (by first|omega|(simp ;omega)) ?_;refine xa2 ty28 .none rfl rfl rfl ((zvj (by omega))) ?_;refine xaJ (cr:=[]) hcal (hf (nth xs i) (zac (by omega))) rfl .none rfl rfl rfl (LeL.refl _) ⟨rfl,rfl,trivial⟩ rfl (by simp only[za8,List.all_cons,List.all_nil,zcf,zbU,AV.idsL,AV.ids,hB2,hB3,xae,List.map_nil];rfl) rfl ?_;refine tv ?_;refine sq ?_ ?_<;>intro h2 h2p h2s<;>(try simp only[Q] at h2p);focus (refine rn [] (r1 rfl) (.eqd ?_) ⟨rfl,rfl⟩ (SubH.get ⟨rfl,⟨rfl,⟨rfl,trivial⟩⟩⟩) (fun _ h=>h);all_goals ((rw[<-hg1.2,zaK (by omega)];simp[idxF,h1s,h1p,h2s,h2p];done)))
 refine ar ?_;refine xah (i+1) ⟨⟨by omega,(by rw[<-hg1.2,zaK (l:=xs) (i:=i) (by omega)];simp_all[idxF])⟩,(by omega),sx ⟨⟨_,rfl,xaq ?_⟩,trivial⟩ trivial⟩;focus (rfl)
 focus (refine rn [] (r1 rfl) (.eqd ?_) ⟨rfl,rfl⟩ (SubH.get ⟨rfl,⟨rfl,⟨rfl,trivial⟩⟩⟩) (fun _ h=>h);all_goals ((rw[<-hg1.2,List.drop_eq_nil_of_le (by omega)];rfl)))
theorem zh4 {xs:List Pat}{f:Nat}{B2 B3:List AV}{p:Pat->Bool} (hs:xs.length<=1000000000000) (hcal:Callee Tryz.prog f) (hB2:AV.idsL B2=[]) (hB3:AV.idsL B3=[])
  (hf:∀t∈xs,FnD Tryz.prog f [.agg [.d (.i t.op),.d (.i t.ctor),.d (.i t.n),.d (.i t.m),.d (.i t.var),.d (zae t.kids)],.ref 3003 0,.ref 3004 0] [(3003,some (.box B2)),(3004,some (.box B3))] (.d (.bool (p t))) []):
  ∃tl:List AV,AV.idsL tl=[]/\FnD Tryz.prog 146 [.ms 1 xs.length,.fn f [.ref 3003 0,.ref 3004 0]] [(1,some (.box (pd xs))),(3003,some (.box B2)),(3004,some (.box B3))]
   (.ms 1 (xs.filter fun t=> !p t).length) [(1,some (.box (pd (xs.filter fun t=> !p t)++tl)))]:=by
 have hok3:za8 [(1,some (.box (pd xs))),(3003,some (.box B2)),(3004,some (.box B3))] [] (.d .nilp) []=true:=by
  simp only[za8,List.all_cons,List.all_nil,zcf,zbU,AV.idsL,AV.ids,zi2,hB2,hB3,xae,List.map_nil];rfl
 rcases zpG p xs 0 with ⟨hi,hall⟩|⟨k,hi,hk1,hk2⟩
 ·have hfil:(xs.filter fun t=> !p t)=xs:=List.filter_eq_self.2 (fun x hx=>by simp[hall x hx]);refine⟨[],rfl, ?_⟩;rw[hfil,List.append_nil];refine bd Tryz.f146 42 [] [] fun w0 F0 own kept hk=>?_;refine Walk.call (cr:=[]) zmU (ze2 hs hcal hB2 hB3 hf) rfl .none rfl rfl (.cons (xas (by first|rfl|(simp;done))) (.cons (.refl _) .nil)) ⟨rfl,rfl,rfl,trivial⟩ rfl (zc8 hok3 _) rfl ?_;refine ev ?_;refine sq ?_ ?_<;>intro h1 h1p h1s<;>(try simp only[Q] at h1p);refine rn [(1,some (.box (pd xs)))] (r1 rfl) (.refl _) ⟨rfl,rfl⟩ (SubO.get ⟨.inr ?_,⟨.inl rfl,⟨.inr rfl,⟨.inr rfl,trivial⟩⟩⟩⟩) (zay rfl);rotate_left;exfalso;simp[hi] at h1;all_goals (((first|rfl|(simp;done));done))
 ·skip
  have hlen:(xs.filter fun t=> !p t).length<=xs.length:=List.length_filter_le _ _;refine⟨zbc (xs.length-(xs.filter fun t=> !p t).length) z6,zjP rfl, ?_⟩;refine bd Tryz.f146 42 [25] [] fun w0 F0 own kept hk=>?_;refine Walk.call (cr:=[]) zmU (ze2 hs hcal hB2 hB3 hf) rfl .none rfl rfl (.cons (xas (by first|rfl|(simp;done))) (.cons (.refl _) .nil)) ⟨rfl,rfl,rfl,trivial⟩ rfl (zc8 hok3 _) rfl ?_;refine evs [25] [] ?_;refine sq ?_ ?_<;>intro h1 h1p h1s<;>(try simp only[Q] at h1p);exfalso;simp[hi] at h1<;>omega;refine ar ?_;refine xak (ι:=List Pat×Nat×Nat) hk (fun x=>[(6,.d (.i (x.2.1:Int))),(5,.d (.i (x.2.2:Int)))]) [7,16,17,18,19,20,21,22,23,24,25,26,27,28,29,30,31,32,33,34,35] (fun x=>[(1,some (.box (pd x.1)))]) (fun x=>x.1.length=xs.length/\x.2.1<=xs.length/\x.2.2<=x.2.1/\x.1.take x.2.2=(xs.take x.2.1).filter (fun t=> !p t)/\x.1.drop x.2.1=xs.drop x.2.1) (fun x=>xs.length-x.2.1) (xs,k+1,k) ⟨rfl,by dsimp only;omega,by dsimp only;omega,hk2.symm,rfl⟩ ⟨⟨_,rfl,xaq ?_⟩,⟨⟨_,rfl,xaq ?_⟩,trivial⟩⟩ ⟨?_,trivial⟩ (fun x=>rfl) (fun x hg1=>?_);iterate 2 focus ((simp_all;done))
  focus (rfl)
  refine evc [25] [] ?_;refine sq ?_ ?_<;>intro h2 h2p h2s<;>(try simp only[Q] at h2p);refine xaZ sl26 .none rfl rfl rfl rfl (by first|omega|(simp ;omega)) ?_;refine xa2 ty28 .none rfl rfl rfl (((zvj (s:=x.1) (by omega)).trans (by rw[zsB hg1.2.2.2.2 hg1.1 (by omega)]))) ?_;refine Walk.alloc (id:=3007) tz28 rfl .none rfl (by(simp only[zaA,occH,occE,Res.ids,xag,List.nil_append,AV.idsL,AV.ids,zak,zaj,zas,zaQ,xae,List.map_nil,upC,hB2,hB3,zi2];rfl)) (by(simp only[zaA,occH,occE,Res.ids,xag,List.nil_append,AV.idsL,AV.ids,zak,zaj,zas,zaQ,xae,List.map_nil,upC,hB2,hB3,zi2];rfl)) (by(simp only[zaA,occH,occE,Res.ids,xag,List.nil_append,AV.idsL,AV.ids,zak,zaj,zas,zaQ,xae,List.map_nil,upC,hB2,hB3,zi2];rfl)) ?_;refine so ty28 ?_;refine tv ?_;refine xaJ (cr:=[]) hcal (hf (nth xs x.2.1) (zac (by omega))) rfl .none rfl rfl rfl (LeL.refl _) ⟨rfl,rfl,trivial⟩ rfl (by simp only[za8,List.all_cons,List.all_nil,zcf,zbU,AV.idsL,AV.ids,hB2,hB3,xae,List.map_nil];rfl) rfl ?_;refine evs [25] [] ?_;refine sq ?_ ?_<;>intro h3 h3p h3s<;>(try simp only[Q] at h3p);refine xaZ sl26 .none rfl rfl rfl rfl (by first|omega|(simp ;omega)) ?_;refine Walk.store ty28 .none rfl rfl rfl rfl rfl rfl (by simp) ((zzu (by omega))) ?_;refine tv ?_;refine ar ?_;refine ar ?_;refine xah ((if p (nth xs x.2.1) then x.1 else x.1.set x.2.2 (nth xs x.2.1),x.2.1+1,if p (nth xs x.2.1) then x.2.2 else x.2.2+1)) ⟨(by
      obtain⟨g1,g2,g3,g4,g5⟩:=hg1;have hlt:x.2.1<xs.length:=by omega
      have h7:=zhH (p:=fun t=> !p t) hlt;refine⟨by dsimp only;split<;>simp[g1],by dsimp only;omega,by dsimp only;split<;>omega, ?_, ?_⟩
      ·dsimp only;rw[h7,<-g4];cases hp:p (nth xs x.2.1) with
       |true=>simp
       |false=>simp only[Bool.false_eq_true,if_false,Bool.not_false,if_true];rw[zj0 (by omega)]
      ·dsimp only;split
       ·exact zia g5
       ·(rw[zqi g3];exact zia g5)),(by dsimp only;omega),sx ⟨⟨_,rfl,xaq ?_⟩,⟨⟨_,rfl,xaq ?_⟩,trivial⟩⟩ ⟨?_,trivial⟩⟩
  iterate 2 focus ((simp_all;done))
  focus ((show some (Res.box _)=some (Res.box _);dsimp only;split<;>first|rfl|(exfalso;simp_all;done)))
  refine ar ?_;refine xah ((if p (nth xs x.2.1) then x.1 else x.1.set x.2.2 (nth xs x.2.1),x.2.1+1,if p (nth xs x.2.1) then x.2.2 else x.2.2+1)) ⟨(by
      obtain⟨g1,g2,g3,g4,g5⟩:=hg1;have hlt:x.2.1<xs.length:=by omega
      have h7:=zhH (p:=fun t=> !p t) hlt;refine⟨by dsimp only;split<;>simp[g1],by dsimp only;omega,by dsimp only;split<;>omega, ?_, ?_⟩
      ·dsimp only;rw[h7,<-g4];cases hp:p (nth xs x.2.1) with
       |true=>simp
       |false=>simp only[Bool.false_eq_true,if_false,Bool.not_false,if_true];rw[zj0 (by omega)]
      ·dsimp only;split
       ·exact zia g5
       ·exact zia g5),(by dsimp only;omega),sx ⟨⟨_,rfl,xaq ?_⟩,⟨⟨_,rfl,xaq ?_⟩,trivial⟩⟩ ⟨?_,trivial⟩⟩
  iterate 2 focus ((simp_all;done))
  focus ((show some (Res.box _)=some (Res.box _);dsimp only;split<;>first|rfl|(exfalso;simp_all;done)))
  refine Walk.cutM_l sl26 .none rfl rfl rfl rfl (by omega) ?_;refine Walk.clearB sl26 tz28 rfl (by decide) rfl .none rfl rfl (zx3 hg1.1 (by omega)) ?_;refine tv ?_;refine Walk.cutM_h sl26 .none rfl rfl rfl rfl (by omega) ?_;refine evs [25] [] ?_;refine rn [(1,some (.box (pd (xs.filter fun t=> !p t)++zbc (xs.length-(xs.filter fun t=> !p t).length) z6)))] (r1 rfl) (xas ?_) ⟨rfl,rfl⟩ (SubO.get ⟨.inr ?_,⟨.inl rfl,⟨.inr rfl,⟨.inr rfl,trivial⟩⟩⟩⟩) (zay rfl);rotate_left 2;all_goals (first|((first|rfl|(obtain⟨g1,g2,g3,g4,g5⟩:=hg1;have e:x.2.1=xs.length:=(by omega);rw[e,List.take_length] at g4;rw[<-g4,List.length_take];omega));done)|((obtain⟨g1,g2,g3,g4,g5⟩:=hg1;have e:x.2.1=xs.length:=(by omega);rw[e,List.take_length] at g4;have e2:(xs.filter fun t=> !p t).length=x.2.2:=(by rw[<-g4,List.length_take];omega);rw[e2,<-g4];rfl)))
theorem zhh {f:Nat}{caps:List AV}{hp:Hp} (hcal:Callee Tryz.prog f) (k1:subH hp hp) (k2:zd2 hp=true) (k3:za8 hp [] (.d .nilp) []=true):
  FnD Tryz.prog 146 [.d (.sl []),.fn f caps] hp (.d (.sl [])) []:=by
 have hz:=zeW (xs:=[]) (p:=fun _=>false) (f:=f) (caps:=caps) (hp:=hp) (by simp) hcal (fun t ht=>by simp at ht) k1 k2 k3;refine bd Tryz.f146 42 [] [] fun w0 F0 own kept hk=>?_;refine Walk.call (cr:=[]) zmU (hz) rfl .none rfl rfl (LeL.refl _) k1 k2 (zc8 k3 _) rfl ?_;refine ev ?_;refine sq ?_ ?_<;>intro h1 h1p h1s<;>(try simp only[Q] at h1p);focus (refine rn [] (r1 rfl) (.eqd ?_) ⟨rfl,rfl⟩ (fun _ _ h=>h) (fun _ h=>h);all_goals (rfl))
 exfalso;simp[idxF] at h1
theorem zkZ {xs:List Pat} (hs:xs.length<=1000000000000) (hne:xs≠[]):FnD Tryz.prog 147 [.d (zae xs)] [] (.ms 1 xs.length) [(1,some (.box (pd xs)))]:=by
 have hcs:Pat.cs xs≠[]:=fun h=>hne ((Pat.cs_nil xs).1 h);refine Fn.body (fn:=Tryz.f147) (n:=8) rfl rfl rfl rfl rfl (fun w0 F0 own kept hk=>?_);refine xam 0 rfl (fun hx0=>?_) ?_;refine evc [4] [] ?_;refine xaT sl26 .none rfl rfl ?_;refine tv ?_;refine sqT ?_;exfalso;exact hcs hx0;refine evc [4] [] ?_;refine xaS sl26 .none rfl rfl ?_;refine tv ?_;refine sqF ?_;refine xbj 1 sl26 .none rfl rfl ?_;refine evs [4] [] ?_;refine xaC hk rfl (by simp[hcs]) sl26 zz28 .none rfl rfl rfl rfl (zdr rfl (by rfl)) (by intro y hy;rw[xat] at hy;obtain⟨z,_,rfl⟩:=List.mem_map.1 hy;rfl) (by simp[Pat.cs_len];omega) (by simp[Pat.cs_len];omega) ?_;refine evs [4] [] ?_;refine rn [(1,some (.box (pd xs)))] (r1 rfl) (xas ?_) ⟨rfl,rfl⟩ (SubH.get ⟨?_,trivial⟩) (zay rfl);rotate_left 2;all_goals (first|((first|rfl|(simp[Pat.cs_len];done));done)|(first|rfl|(show some (Res.box _)=some (Res.box _);unfold pd;rw[<-xat];rfl)))
theorem zml {w:List Data} (hs:Spa w){ta tk:Int} (ht:InS (w.length*4) ⟨ta,tk⟩){p:Pat} (hp:zaf w 11 ⟨ta,tk⟩ p=true):
  FnD Tryz.prog 148 [.agg [.d (.i p.op),.d (.i p.ctor),.d (.i p.n),.d (.i p.m),.d (.i p.var),.d (zae p.kids)],.ref 3003 0,.ref 3004 0] [(3003,some (.box [.d (sPtr w (zai w))])),(3004,some (.box [.d (.i ta),.d (.i tk)]))] (.d (.bool (zaV w (zai w) 11 ⟨ta,tk⟩ p))) []:=by
 refine bd Tryz.f148 9 [] [] fun w0 F0 own kept hk=>?_;refine bx 3001 ?_;refine ev ?_;refine wc zjd (zcP hs.dp 11 (zhd _ hp) ht (zhy hs 11 ht hp).1) rfl rfl ?_;refine ev ?_;focus (refine rn [] (r1 rfl) (.eqd ?_) ⟨rfl,rfl⟩ (SubH.get ⟨rfl,⟨rfl,trivial⟩⟩) (fun _ h=>h);all_goals (rfl))
theorem ziW {w:List Data} (hs:Spa w){ta tk:Int} (ht:InS (w.length*4) ⟨ta,tk⟩){l:List Pat} (hl:∀a∈l,zaf w 11 ⟨ta,tk⟩ a=true) (hb:l.length<=1000000000000):
  FnD Tryz.prog 92 [.d (sPtr w (zai w)),.agg [.d (.i ta),.d (.i tk)],.d (zae l)] [] (.d (zae (l.filter (zbl w ⟨ta,tk⟩)))) []:=by
 by_cases hne:l=[]
 ·subst hne;have hcl:FnD Tryz.prog 147 [.d (.sl [])] [] (.d (.sl [])) []:=(zf3 (xs:=[]) (by simp)).glD;refine bd Tryz.f92 11 [] [] fun w0 F0 own kept hk=>?_;refine bx 3003 ?_;refine bx 3004 ?_;refine ev ?_;refine wc zqZ (hcl) rfl rfl ?_;refine xaL (xs:=[_,_]) rfl .none rfl rfl ?_;refine Walk.call (cr:=[]) zus (zhh (hp:=[(3003,some (.box [.d (sPtr w (zai w))])),(3004,some (.box [.d (.i ta),.d (.i tk)]))]) zut ⟨rfl,rfl,trivial⟩ rfl rfl) rfl .none rfl rfl (LeL.refl _) ⟨rfl,rfl,trivial⟩ rfl rfl rfl ?_;refine ev ?_;focus (refine rq ?_;all_goals (rfl))
 ·obtain⟨tl,htl,hdel⟩:=zh4 (xs:=l) (p:=fun a=>zaV w (zai w) 11 ⟨ta,tk⟩ a) hb zut (B2:=[.d (sPtr w (zai w))]) (B3:=[.d (.i ta),.d (.i tk)]) rfl rfl (fun a ha=>zml hs ht (hl a ha));have key:FnD Tryz.prog 92 [.d (sPtr w (zai w)),.agg [.d (.i ta),.d (.i tk)],.d (zae l)] [] (.ms 1 (l.filter (zbl w ⟨ta,tk⟩)).length) [(1,some (.box (pd (l.filter (zbl w ⟨ta,tk⟩))++tl)))]:=by
   refine bd Tryz.f92 11 [] [] fun w0 F0 own kept hk=>?_;refine bx 3003 ?_;refine bx 3004 ?_;refine ev ?_;refine Walk.call (cr:=[1]) zqZ (zkZ hb hne) rfl .none rfl rfl (LeL.refl _) trivial rfl (by simp only[za8,List.all_cons,List.all_nil,zcf,zbU,AV.idsL,AV.ids,zi2,zak,htl,xae,List.map_nil];rfl) rfl ?_;refine xaL (xs:=[_,_]) rfl .none rfl rfl ?_;refine Walk.call (cr:=[]) zus (hdel) rfl .none rfl rfl (.cons (xas (by first|rfl|(simp;done))) (.cons (.refl _) .nil)) ⟨rfl,rfl,rfl,trivial⟩ rfl (by simp only[za8,List.all_cons,List.all_nil,zcf,zbU,AV.idsL,AV.ids,zi2,zak,htl,xae,List.map_nil];rfl) rfl ?_;refine ev ?_;refine rn [(1,some (.box (pd (l.filter (zbl w ⟨ta,tk⟩))++tl)))] (r1 rfl) (xas ?_) ⟨rfl,rfl⟩ (SubH.get ⟨?_,trivial⟩) (zay rfl);rotate_left 2;all_goals (first|((rfl);done)|(rfl))
  have h2:=key.boxD (k:=6) zwt;rw[<-xat] at h2;exact h2
theorem zxD {w:List Data}{a k:Int}{l:List Cl} (h:za4 w ⟨a,k⟩ l=true):za7 w ⟨a,k⟩=true/\l.length<=8:=by
 unfold za4 at h;simp only[xad,decide_eq_true_eq] at h;exact⟨h.1,by omega⟩
theorem zoH {α β:Type}{g:α->List β}{K:Nat}:∀(l:List α),(∀x∈l,(g x).length<=K)->(l.flatMap g).length<=l.length*K
 | [],_=>by simp
 |x::r,h=>by
  have h1:=h x (by simp);have h2:=zoH r (fun y hy=>h y (by simp[hy]));rw[List.flatMap_cons,xaa,xab,Nat.add_mul];omega
theorem zgP {w:List Data}{t:Ty}{l away:List Pat}{i:Nat} (h:i<away.length):subL w t l (away.drop i)=if (zbY w t l (nth away i)).length<=400 then subL w t (zbY w t l (nth away i)) (away.drop (i+1)) else none:=by
 rw[zaK h,subL]
theorem zsc {w:List Data}{t:Ty}{l away:List Pat}{i:Nat} (h:away.length<=i):subL w t l (away.drop i)=some l:=by
 rw[List.drop_eq_nil_of_le h,subL]
def za5:List Cl->List Pat->Option (List Pat)
 | [],out=>some out
 |c::r,out=>if c.g.op=0 then (if zbm c.pat=true then za5 r (out++zbp c.pat) else none) else za5 r out
theorem ziD {l:List Cl}{out:List Pat}{i:Nat} (h:i<l.length) (hg:¬(nth l i).g.op=0):za5 (l.drop i) out=za5 (l.drop (i+1)) out:=by
 rw[zaK h,za5,if_neg hg]
theorem ziC {l:List Cl}{out:List Pat}{i:Nat} (h:i<l.length) (hg:(nth l i).g.op=0) (hp:zbm (nth l i).pat=true):za5 (l.drop i) out=za5 (l.drop (i+1)) (out++zbp (nth l i).pat):=by
 rw[zaK h,za5,if_pos hg,if_pos hp]
theorem zm7 {l:List Cl}{out:List Pat}{i:Nat} (h:i<l.length) (hg:(nth l i).g.op=0) (hp:zbm (nth l i).pat=false):za5 (l.drop i) out=none:=by
 rw[zaK h,za5,if_pos hg,if_neg (by rw[hp];simp)]
theorem zm8 {l:List Cl}{out:List Pat}{i:Nat} (h:l.length<=i):za5 (l.drop i) out=some out:=by
 rw[List.drop_eq_nil_of_le h,za5]
theorem zeS (p:Pat):(zbp p).length<=40:=by unfold zbp;split;assumption;simp
theorem ze1 {w:List Data}{t:Ty}{p:Pat} (h:zaq w 10 t p=true):∀x∈zbp p,zaf w 10 t x=true:=fun x hx=>by
 unfold zbp at hx;split at hx
 ·exact zgh 10 h x hx
 ·simp at hx
theorem zeZ {w:List Data}{t:Ty}:∀(l:List Cl) (out r:List Pat),(∀c∈l,zaq w 10 t c.pat=true)->(∀x∈out,zaf w 10 t x=true)->za5 l out=some r->r.length<=out.length+40*l.length/\∀x∈r,zaf w 10 t x=true
 | [],out,r,_,ho,h=>by rw[za5] at h;cases h;exact⟨by simp,ho⟩
 |c::l,out,r,hc,ho,h=>by
  rw[za5] at h;split at h
  ·split at h
   ·have:=zeZ l _ r (fun x hx=>hc x (by simp[hx])) (fun x hx=>by
     rcases List.mem_append.1 hx with hx|hx
     ·exact ho x hx
     ·exact ze1 (hc c (by simp)) x hx) h
    have hl:=zeS c.pat;rw[xaa] at this;exact⟨by rw[xab];omega,this.2⟩
   ·cases h
  ·have:=zeZ l _ r (fun x hx=>hc x (by simp[hx])) ho h;exact⟨by rw[xab];omega,this.2⟩
theorem zfa {w:List Data}{t:Ty}:∀(away l r:List Pat),(∀a∈l,zaf w 11 t a=true)->l.length<=400->(∀b∈away,zaf w 10 t b=true)->subL w t l away=some r->r.length<=400/\∀x∈r,zaf w 11 t x=true
 | [],l,r,hl,hn,_,h=>by rw[subL] at h;cases h;exact⟨hn,hl⟩
 |b::away,l,r,hl,hn,hb,h=>by
  rw[subL] at h;split at h
  ·rename_i h4;exact zfa away _ r (zeQ hl (hb b (by simp))) h4 (fun x hx=>hb x (by simp[hx])) h
  ·cases h
theorem zif {w:List Data} (hs:Spa w){ta tk:Int} (ht:InS (w.length*4) ⟨ta,tk⟩){l away:List Pat} (hl:∀a∈l,zaf w 11 ⟨ta,tk⟩ a=true) (hb:∀b∈away,zaf w 10 ⟨ta,tk⟩ b=true) (hll:l.length<=400) (hal:away.length<=2000):
  FnD Tryz.prog 49 [.d (sPtr w (zai w)),.agg [.d (.i ta),.d (.i tk)],.d (zae l),.d (zae away)] [] (.tup [.d (zae ((zaz w ⟨ta,tk⟩ l away).getD [])),.d (.bool (zaz w ⟨ta,tk⟩ l away).isSome)]) []:=by
 have hlf:(l.filter (zbl w ⟨ta,tk⟩)).length<=l.length:=List.length_filter_le _ _;have hmb:∀(c:List Pat) (i:Nat),(∀a∈c,zaf w 11 ⟨ta,tk⟩ a=true)->i<away.length->∀x∈c,(zat w 10 ⟨ta,tk⟩ x (nth away i)).length<=20000000:=fun c i hc hi x hx=>zgf hs (by omega) (by omega) ht (hc x hx) (hb _ (zac hi));have hnp:∀(c:List Pat) (i:Nat),(∀a∈c,zaf w 11 ⟨ta,tk⟩ a=true)->i<away.length->∀x∈(c.flatMap fun a=>zat w 10 ⟨ta,tk⟩ a (nth away i)),zaf w 11 ⟨ta,tk⟩ x=true:=fun c i hc hi x hx=>by
  obtain⟨a,ha,hx⟩:=List.mem_flatMap.1 hx;exact zfQ 10 11 (by omega) (hc a ha) (hb _ (zac hi)) x hx
 have hpre:∀ {pre rest c:List Pat}{y:Pat} (i:Nat),(∀a∈c,zaf w 11 ⟨ta,tk⟩ a=true)->c.length<=400->i<away.length->pre++y::rest=c->(pre.flatMap fun a=>zat w 10 ⟨ta,tk⟩ a (nth away i)).length<=8000000000/\(zat w 10 ⟨ta,tk⟩ y (nth away i)).length<=20000000:=fun {pre rest c y} i hc h4 hi h=>by
  have h1:=zoH (g:=fun a=>zat w 10 ⟨ta,tk⟩ a (nth away i)) (K:=20000000) pre (fun x hx=>hmb c i hc hi x (by rw[<-h];simp[hx]));have h2:=hmb c i hc hi y (by rw[<-h];simp);have h3:=congrArg List.length h;simp only[xaa,xab] at h3;exact⟨by omega,h2⟩
 refine bd Tryz.f49 48 [12] [11] fun w0 F0 own kept hk=>?_;refine bx 3005 ?_;refine evs [12] [] ?_;refine wc zxb (ziW hs ht hl (by omega)) rfl rfl ?_;refine evs [12] [] ?_;refine xak (ι:=Nat×List Pat) hk (fun s=>[(21,.d (.i (s.1:Int))),(2,.d (zae s.2))]) [8,9,11,12,14,22,23,24,25,26,27,28,29,30,31,32,33,34,35,36,37,38,39,40,41,42,43,44,45,46] (fun s=>[]) (fun s=>s.1<=away.length/\subL w ⟨ta,tk⟩ s.2 (away.drop s.1)=zaz w ⟨ta,tk⟩ l away/\(∀a∈s.2,zaf w 11 ⟨ta,tk⟩ a=true)/\s.2.length<=400) (fun s=>away.length-s.1) (0,l.filter (zbl w ⟨ta,tk⟩)) ⟨by simp,rfl,fun a ha=>hl a (List.mem_filter.1 ha).1,by dsimp only;omega⟩ ⟨⟨_,rfl,xaq ?_⟩,⟨⟨_,rfl, ?_⟩,trivial⟩⟩ trivial (fun x=>rfl) (fun s hg1=>?_);focus (rfl)
 focus (exact LeA.refl _)
 refine evc [12] [11] ?_;refine sq ?_ ?_<;>intro h1 h1p h1s<;>(try simp only[Q,Pat.cs_len] at h1p);refine xaV sl26 .none rfl rfl rfl rfl (zaE (by omega)) rfl ?_;refine evs [12] [] ?_;refine ab 3011 tz28 ?_;refine so ty28 ?_;refine tv ?_;refine xaE 9 6 .none rfl rfl ?_;refine tv ?_;refine xak (ι:=List (Pat)×List (Pat)) hk (fun x=>[(27,.d (.i (x.1.length:Int))),(12,.gl 9 (Pat.cs (x.1.flatMap fun a=>zat w 10 ⟨ta,tk⟩ a (nth away s.1))))]) [14,28,29,30,31,32,33,34,35,36,37,38] (fun x=>[(9,some (.tok ((Pat.cs (x.1.flatMap fun a=>zat w 10 ⟨ta,tk⟩ a (nth away s.1)))).length 6))]) (fun x=>x.1++x.2=s.2) (fun x=>x.2.length) ([],s.2) (by simp) ⟨⟨_,rfl,xaq ?_⟩,⟨⟨_,rfl,LeA.glg ?_⟩,trivial⟩⟩ ⟨zab ?_,trivial⟩ (fun x=>rfl) (fun x hg2=>?_);iterate 3 focus (rfl)
 obtain⟨pre,rest⟩:=x;dsimp only at hg2 ⊢;refine evc [12] [11] ?_;refine sq ?_ ?_<;>intro h2 h2p h2s<;>(try simp only[Q,Pat.cs_len] at h2p);rcases rest with _|⟨y,rest⟩
 ·exfalso;simp_all
 refine xaV sl26 .none rfl rfl rfl rfl (Pat.cs_at' hg2) rfl ?_;refine evs [12] [] ?_;refine ab 3014 tz28 ?_;refine so ty28 ?_;refine tv ?_;refine wc ztF (zjT hs 10 11 (by omega) (by omega) (by omega) ht (hg1.2.2.1 y (by rw[<-hg2];simp)) (hb _ (zac (by omega)))) rfl rfl ?_;refine ap sl26 zz28 rfl rfl rfl (by exact zbH _) (by have h9:=hpre s.1 hg1.2.2.1 hg1.2.2.2 (by omega) hg2;simp only[Pat.cs_len];omega) ?_;refine asg ?_;refine tv ?_;refine ar ?_;refine xah ((pre++[y],rest)) ⟨(by have hz:=hg2;rw[<-hz];simp),(by simp),sx ⟨⟨_,rfl,xaq ?_⟩,⟨⟨_,rfl,LeA.glg ?_⟩,trivial⟩⟩ ⟨zab ?_,trivial⟩⟩;iterate 3 focus (first|(rw[List.flatMap_append,xat,xat,xat,xaf];simp;done)|(simp[Pat.cs_len];done))
 have hrest:rest=[]:=by
  rcases rest with _|⟨a,b⟩
  ·rfl
  ·exfalso;have hz:=congrArg List.length (hg2);simp only[xaa,xab,xac] at hz;omega
 subst hrest;obtain rfl:pre=s.2:=(by simpa using hg2);refine evc [12] [] ?_;refine Walk.call (cr:=[]) zxb (ziW hs ht (l:=s.2.flatMap fun a=>zat w 10 ⟨ta,tk⟩ a (nth away s.1)) (hnp s.2 s.1 hg1.2.2.1 (by omega)) (by have:=zoH (g:=fun a=>zat w 10 ⟨ta,tk⟩ a (nth away s.1)) (K:=20000000) s.2 (hmb s.2 s.1 hg1.2.2.1 (by omega));omega)) rfl .none rfl rfl (.cons (.refl _) (.cons (.refl _) (.cons (.gl _ _) .nil))) trivial rfl rfl rfl ?_;refine evs [12] [] ?_;refine sq ?_ ?_<;>intro h3 h3p h3s<;>(try simp only[Q,Pat.cs_len] at h3p);refine rn0 (r2 rfl rfl) (.tup (.cons (.nild ?_) (.cons (.eqd ?_) .nil)));rotate_left 2;refine ar ?_;refine xah ((s.1+1,zbY w ⟨ta,tk⟩ s.2 (nth away s.1))) ⟨(by
    have h4:(zbY w ⟨ta,tk⟩ s.2 (nth away s.1)).length<=400:=by unfold zbY;omega
    refine⟨by dsimp only;omega, ?_,zeQ hg1.2.2.1 (hb _ (zac (by omega))),h4⟩;have e:=zgP (w:=w) (t:=⟨ta,tk⟩) (l:=s.2) (away:=away) (i:=s.1) (by omega);rw[if_pos h4] at e;dsimp only;rw[<-e];exact hg1.2.1),(by dsimp only;omega),sx ⟨⟨_,rfl,xaq ?_⟩,⟨⟨_,rfl, ?_⟩,trivial⟩⟩ trivial⟩
 focus (rfl)
 focus (exact LeA.refl _)
 refine rn0 (r2 rfl rfl) (.tup (.cons (.eqd ?_) (.cons (.eqd ?_) .nil)));rotate_left 2;all_goals (first|(rw[<-hg1.2.1,zgP (by omega),if_neg (by unfold zbY;omega)];rfl)|(rw[<-hg1.2.1,zsc (by omega)];rfl))
theorem zmi {w:List Data}{t:Ty}{l:List Cl} (hl:l.length<=8) (hc:∀c∈l,zaq w 10 t c.pat=true/\c.pat.ok):
  FnD Tryz.prog 86 [.d (zbZ l)] [] (.tup [.d (zae ((za5 l []).getD [])),.d (.bool (za5 l []).isSome)]) []:=by
 have hpl:=fun(i:Nat)=>zeS (nth l i).pat;refine bd Tryz.f86 32 [4] [] fun w0 F0 own kept hk=>?_;refine xaE 9 6 .none rfl rfl ?_;refine tv ?_;refine xak (ι:=Nat×List Pat) hk (fun s=>[(11,.d (.i (s.1:Int))),(4,.gl 9 (Pat.cs s.2))]) [2,3,6,7,8,12,13,14,15,16,17,18,19,20,21,22,23,24,25,26,27,28,29,30] (fun s=>[(9,some (.tok ((Pat.cs s.2)).length 6))]) (fun s=>s.1<=l.length/\za5 (l.drop s.1) s.2=za5 l []/\s.2.length<=40*s.1) (fun s=>l.length-s.1) (0,[]) ⟨by simp,rfl,by simp⟩ ⟨⟨_,rfl,xaq ?_⟩,⟨⟨_,rfl,LeA.glg ?_⟩,trivial⟩⟩ ⟨zab ?_,trivial⟩ (fun x=>rfl) (fun s hg1=>?_);iterate 3 focus (rfl)
 refine evc [4] [] ?_;refine sq ?_ ?_<;>intro h1 h1p h1s<;>(try simp only[Q,Pat.cs_len] at h1p);refine xaV sl59 .none rfl rfl rfl rfl (zar (by omega)) rfl ?_;refine evs [4] [] ?_;refine ab 3006 tz50 ?_;refine so ty50 ?_;refine tv ?_;refine sq ?_ ?_<;>intro h2 h2p h2s<;>(try simp only[Q,Pat.cs_len] at h2p);refine ar ?_;refine xah ((s.1+1,if (nth l s.1).g.op=0 then s.2++zbp (nth l s.1).pat else s.2)) ⟨(by
    have h9:=hpl s.1;by_cases hz:(nth l s.1).g.op=0
    ·refine⟨by dsimp only;omega, ?_, ?_⟩
     ·dsimp only;rw[if_pos hz,<-ziC (out:=s.2) (by omega) hz (by simp_all)];exact hg1.2.1
     ·dsimp only;rw[if_pos hz,xaa];omega
    ·refine⟨by dsimp only;omega, ?_, ?_⟩
     ·dsimp only;rw[if_neg hz,<-ziD (out:=s.2) (by omega) hz];exact hg1.2.1
     ·dsimp only;rw[if_neg hz];omega),(by dsimp only;omega),sx ⟨⟨_,rfl,xaq ?_⟩,⟨⟨_,rfl,LeA.glg ?_⟩,trivial⟩⟩ ⟨zab ?_,trivial⟩⟩
 iterate 3 focus (first|rfl|(rw[if_neg (by assumption)];done))
 refine wc zm1 (zjU (hc _ (zac (i:=s.1) (by omega))).1 (hc _ (zac (by omega))).2) rfl rfl ?_;refine evs [4] [] ?_;refine sq ?_ ?_<;>intro h3 h3p h3s<;>(try simp only[Q,Pat.cs_len] at h3p);refine rn0 (r2 rfl rfl) (.tup (.cons (.nild ?_) (.cons (.eqd ?_) .nil)));rotate_left 2;refine ap sl26 zz28 rfl rfl rfl (by exact zbH _) (by have:=hpl s.1;simp only[Pat.cs_len];omega) ?_;refine asg ?_;refine tv ?_;refine ar ?_;refine xah ((s.1+1,if (nth l s.1).g.op=0 then s.2++zbp (nth l s.1).pat else s.2)) ⟨(by
    have h9:=hpl s.1;by_cases hz:(nth l s.1).g.op=0
    ·refine⟨by dsimp only;omega, ?_, ?_⟩
     ·dsimp only;rw[if_pos hz,<-ziC (out:=s.2) (by omega) hz (by simp_all)];exact hg1.2.1
     ·dsimp only;rw[if_pos hz,xaa];omega
    ·refine⟨by dsimp only;omega, ?_, ?_⟩
     ·dsimp only;rw[if_neg hz,<-ziD (out:=s.2) (by omega) hz];exact hg1.2.1
     ·dsimp only;rw[if_neg hz];omega),(by dsimp only;omega),sx ⟨⟨_,rfl,xaq ?_⟩,⟨⟨_,rfl,LeA.glg ?_⟩,trivial⟩⟩ ⟨zab ?_,trivial⟩⟩
 iterate 3 focus (first|(rw[if_pos (by assumption),xat,xat,xat,xaf];done)|(rw[if_pos (by assumption)];simp[Pat.cs_len];done))
 refine rn0 (r2 rfl rfl) (.tup (.cons (.gld ?_) (.cons (.eqd ?_) .nil)));rotate_left 2;all_goals (first|(rw[<-hg1.2.1,zm7 (by omega) (by first|assumption|(simp_all;done)) (by assumption)];rfl)|(rw[<-hg1.2.1,zm8 (by omega)];rfl))
theorem zmn {w:List Data} (hs:Spa w){f:Nat->Nat}{ta tk:Int} (ht:InS (w.length*4) ⟨ta,tk⟩){p:Pat} (hp:p.ok):
  FnD Tryz.prog 95 [.agg [.d (.i p.op),.d (.i p.ctor),.d (.i p.n),.d (.i p.m),.d (.i p.var),.d (zae p.kids)],.ref 3004 0,.ref 3005 0] [(3004,some (.box [.d (sPtr w f)])),(3005,some (.box [.d (.i ta),.d (.i tk)]))] (.d (.bool (!isP w ⟨ta,tk⟩ p))) []:=by
 refine bd Tryz.f95 13 [] [] fun w0 F0 own kept hk=>?_;refine bx 3001 ?_;refine ev ?_;refine wc zw9 (zg1 hs.dp.wt (zb7 ht) hp) rfl rfl ?_;refine evd [] [] ?_;refine dr ?_;refine rn [] (r1 rfl) (.eqd ?_) ⟨rfl,rfl⟩ (SubH.get ⟨rfl,⟨rfl,trivial⟩⟩) (fun _ h=>h);rotate_left;all_goals (rfl)
theorem ziX {w:List Data} (hs:Spa w){f:Nat->Nat}{ta tk:Int} (ht:InS (w.length*4) ⟨ta,tk⟩){l:List Pat}{ok:Bool} (hl:∀a∈l,a.ok) (hb:l.length<=1000000000000):
  FnD Tryz.prog 50 [.d (sPtr w f),.agg [.d (.i ta),.d (.i tk)],.d (zae l),.d (.bool ok)] [] (.tup [.d (zae (if (ok&&l.all (isP w ⟨ta,tk⟩))=true then l else [])),.d (.bool (ok&&l.all (isP w ⟨ta,tk⟩)))]) []:=by
 have hall:(l.any fun p=> !isP w ⟨ta,tk⟩ p) = !(l.all (isP w ⟨ta,tk⟩)):=by
  induction l with
  |nil=>rfl
  |cons x r ih=>rw[List.any_cons,List.all_cons,ih (fun a ha=>hl a (by simp[ha])) (by simp at hb;omega),Bool.not_and]
 have hcf:=zgZ (xs:=l) (p:=fun p=> !isP w ⟨ta,tk⟩ p) (caps:=[.ref 3004 0,.ref 3005 0]) (hp:=[(3004,some (.box [.d (sPtr w f)])),(3005,some (.box [.d (.i ta),.d (.i tk)]))]) hb zzM (fun q hq=>zmn hs ht (hl q hq)) ⟨rfl,rfl,trivial⟩ rfl rfl;rw[hall] at hcf;clear hall;generalize l.all (isP w ⟨ta,tk⟩)=q at hcf ⊢;refine bd Tryz.f50 19 [] [] fun w0 F0 own kept hk=>?_;refine bx 3004 ?_;refine bx 3005 ?_;refine ev ?_;refine sq ?_ ?_<;>intro h1 h1p h1s<;>(try simp only[Q] at h1p);refine sqT ?_;refine rn0 (r2 rfl rfl) (.tup (.cons (.nild ?_) (.cons (.eqd ?_) .nil)));rotate_left 2;refine xaL (xs:=[_,_]) rfl (.some rfl rfl h1) rfl rfl ?_;refine Walk.call (cr:=[]) zzL (hcf) rfl (.some rfl rfl h1) rfl rfl (LeL.refl _) ⟨rfl,rfl,trivial⟩ rfl rfl rfl ?_;refine evs [] [(12,false)] ?_ ⟨⟨_,rfl,h1⟩,trivial⟩;refine sq ?_ ?_<;>intro h3 h3p h3s<;>(try simp only[Q] at h3p);refine rn0 (r2 rfl rfl) (.tup (.cons (.nild ?_) (.cons (.eqd ?_) .nil)));rotate_left 2;refine wc zzN (zj3 hb hl) rfl rfl ?_;refine ev ?_;refine rn0 (r2 rfl rfl) (.tup (.cons (.eqd ?_) (.cons (.eqd ?_) .nil)));rotate_left 2;all_goals ((cases ok<;>cases q<;>first|rfl|(exfalso;simp_all;done)))
theorem zuO {w:List Data}{t:Ty}{l:List Cl} (h:za4 w t l=true) (hl:ClsOk l):∀c∈l,zaq w 10 t c.pat=true/\c.pat.ok:=fun c hc=>by
 unfold za4 at h;simp only[xad,Bool.not_eq_true',List.any_eq_false,Bool.not_eq_true] at h;have h4:clOk w t c=true:=by simpa using h.2.2 c hc
 unfold clOk isP at h4;simp only[xad] at h4;exact⟨h4.1.1,hl.2 c hc⟩
mutual
def hitP:Pat->Val->Bool
 | .mk op c n m _ ks,v=>if op=3 then zao v.num n m else if op=4 then decide (c=v.ctor)&&hitL ks v.kids else true
def hitL:List Pat->List Val->Bool
 |p::r,v::s=>hitP p v&&hitL r s
 |_,_=>true
end
theorem zoL (p:Pat) (v:Val):hitP p v=if p.op=3 then zao v.num p.n p.m else if p.op=4 then decide (p.ctor=v.ctor)&&hitL p.kids v.kids else true:=by
 cases p;unfold hitP;rfl
theorem ze6 {p:Pat}{v:Val} (h:p.op=1):hitP p v=true:=by rw[zoL,if_neg (by omega),if_neg (by omega)]
theorem zg7 {p:Pat}{v:Val} (h:p.op=3):hitP p v=zao v.num p.n p.m:=by rw[zoL,if_pos h]
theorem zcT {p:Pat}{v:Val} (h:p.op=4):hitP p v=(decide (p.ctor=v.ctor)&&hitL p.kids v.kids):=by rw[zoL,if_neg (by omega),if_pos h]
theorem zjt:∀ {l:List Pat}{s:List Val},l.length=s.length->(hitL l s=true↔∀i,i<l.length->hitP (nth l i) (nth s i)=true)
 | [],[],_=>by simp[hitL]
 |p::r,v::s,h=>by
  have ih:=zjt (l:=r) (s:=s) (by simpa using h);simp only[hitL,xad,ih];constructor
  ·rintro ⟨h1,h2⟩ i hi
   cases i with
   |zero=>exact h1
   |succ i=>exact h2 i (by simpa using hi)
  ·intro h1;exact⟨h1 0 (by simp),fun i hi=>h1 (i+1) (by simpa using hi)⟩
 | [],_::_,h=>by simp at h
 |_::_,[],h=>by simp at h
theorem zmf {α:Type}:∀(l:List α) (s:List Val),hitL (l.map fun _=>anyQ) s=true
 | [],_=>by simp[hitL]
 |_::_,[]=>by simp[hitL]
 |_::r,v::s=>by simp only[xae,hitL,zmf r s,Bool.and_true];exact ze6 rfl
theorem zgE:∀(l:List Pat) (s:List Val) (p:Pat) (v:Val),l.length=s.length->hitL (l++[p]) (s++[v])=(hitL l s&&hitP p v)
 | [],[],p,v,_=>by simp[hitL]
 |q::r,x::s,p,v,h=>by
  simp only[xag,hitL,zgE r s p v (by simpa using h),Bool.and_assoc]
 | [],_::_,_,_,h=>by simp at h
 |_::_,[],_,_,h=>by simp at h
theorem zrv:∀(l:List Pat) (s:List Val) (r:List Pat) (q:List Val),l.length=s.length->hitL (l++r) (s++q)=(hitL l s&&hitL r q)
 | [],[],r,q,_=>by simp[hitL]
 |p::l,x::s,r,q,h=>by
  simp only[xag,hitL,zrv l s r q (by simpa using h),Bool.and_assoc]
 | [],_::_,_,_,h=>by simp at h
 |_::_,[],_,_,h=>by simp at h
theorem zv9 {w:List Data}{m:Nat}{t:Ty}{v:Val} (h:zaJ w m t v=true) (ht:t.data = -1):0<=v.num/\v.num<=9:=by
 cases m with
 |zero=>simp[zaJ] at h
 |succ m=>
  unfold zaJ at h;rw[if_pos ht] at h;simp only[xad,decide_eq_true_eq] at h;omega
theorem zrT:∀(ls:List (List Pat)) (vs:List Val) (out:List (List Pat)) (v0:List Val),ls.length=vs.length->(∀q∈out,q.length=v0.length)->
  ((∃l∈ls.foldl za9 out,hitL l (v0++vs)=true)↔(∃q∈out,hitL q v0=true)/\∀i,i<ls.length->∃x∈nth ls i,hitP x (nth vs i)=true)
 | [],[],out,v0,_,_=>by simp
 |l::r,v::s,out,v0,h,ho=>by
  have ih:=zrT r s (za9 out l) (v0++[v]) (by simpa using h) (fun q hq=>by
   unfold za9 at hq;obtain⟨q0,h1,h2⟩:=List.mem_flatMap.1 hq;obtain⟨c,h3,rfl⟩:=List.mem_map.1 h2;simp[ho q0 h1])
  rw[List.append_assoc] at ih;rw[List.foldl_cons,show v0++v::s=v0++([v]++s) from rfl,ih];constructor
  ·rintro ⟨⟨q,hq,hh⟩,h2⟩
   unfold za9 at hq;obtain⟨q0,h3,h4⟩:=List.mem_flatMap.1 hq;obtain⟨c,h5,rfl⟩:=List.mem_map.1 h4;rw[zgE q0 v0 c v (ho q0 h3),xad] at hh;refine⟨⟨q0,h3,hh.1⟩,fun i hi=>?_⟩;cases i with
   |zero=>exact⟨c,h5,hh.2⟩
   |succ i=>exact h2 i (by simpa using hi)
  ·rintro ⟨⟨q,hq,hh⟩,h2⟩
   obtain⟨c,h5,h6⟩:=h2 0 (by simp);refine⟨⟨q++[c], ?_, ?_⟩,fun i hi=>h2 (i+1) (by simpa using hi)⟩
   ·unfold za9;exact List.mem_flatMap.2 ⟨q,hq,List.mem_map.2 ⟨c,h5,rfl⟩⟩
   ·rw[zgE q v0 c v (ho q hq),hh];exact h6
 | [],_::_,_,_,h,_=>by simp at h
 |_::_,[],_,_,h,_=>by simp at h
theorem zjA {f:Pat->Val->List Bd×Bool}:∀ {a:List Pat}{b:List Val}{acc:List Bd},a.length=b.length->((zbz f a b acc).2=true↔∀i,i<a.length->(f (nth a i) (nth b i)).2=true)
 | [],[],acc,_=>by simp[zbz]
 |p::r,v::s,acc,h=>by
  unfold zbz;by_cases hp:(f p v).2=true
  ·rw[if_pos hp,zjA (a:=r) (b:=s) (by simpa using h)];constructor
   ·intro h1 i hi;cases i with
    |zero=>exact hp
    |succ i=>exact h1 i (by simpa using hi)
   ·intro h1 i hi;exact h1 (i+1) (by simpa using hi)
  ·rw[if_neg hp];constructor
   ·intro h1;cases h1
   ·intro h1;exact absurd (h1 0 (by simp)) hp
 | [],_::_,_,h=>by simp at h
 |_::_,[],_,h=>by simp at h
theorem zdB {p:Pat} (h5:p.op≠5) (hk:p.kids=[]):zau p=[p]:=by
 rw[zdc h5,hk];cases p
 simp only[zaL] at hk;subst hk;simp[zei,zby,zfu,mk_n,mk_m,zhS]
theorem zed {w:List Data}:∀(n m:Nat){t:Ty}{p:Pat}{v:Val},zaq w n t p=true->zaJ w m t v=true->((zaw n p v).2=true↔∃x∈zau (zav p),hitP x v=true)
 |0,m,t,p,v,h,_=>by simp[zaq] at h
 |n+1,0,t,p,v,_,h=>by simp[zaJ] at h
 |n+1,m+1,t,p,v,h,hv=>by
  rcases zdb h with h1|h2|h3|h4|h5|h6
  ·have hk:=zd5 h (by omega) (by omega) (by omega);rw[zga h1,zbi,if_neg (by omega),if_neg (by omega),zdB (by rw[zby];omega) (by rw[zaL,hk];rfl)];simp only[List.mem_singleton,exists_eq_left,true_iff];exact ze6 h1
  ·rw[zht h2,zbi,if_pos h2,zci];simp only[List.mem_singleton,exists_eq_left,true_iff];exact ze6 rfl
  ·have hk:=zd5 h (by omega) (by omega) (by omega);rw[zfr h3,zbi,if_neg (by omega),if_neg (by omega),zdB (by rw[zby];omega) (by rw[zaL,hk];rfl)];simp only[List.mem_singleton,exists_eq_left];rw[zg7 (p:= .mk p.op p.ctor p.n p.m p.var (p.kids.map zav)) h3];exact Iff.rfl
  ·have hs:=h;unfold zaq at hs;rw[xad,za0 h4] at hs;have hl:=zgo hs.2;rw[zbi,if_neg (by omega),if_neg (by omega),zdc (by rw[zby];omega)];have hd:t.data≠ -1:=fun e=>by
    have:=zb8 hs.1 h4;unfold zah at this;rw[if_pos e] at this;simp at this
   obtain⟨f1,f2,f3⟩:=zdq hv hd;by_cases hc:p.ctor=v.ctor
   ·rw[zhu h4 hc];rw[hc] at hl hs;have hlen:p.kids.length=v.kids.length:=by omega
    rw[zjA hlen];have hp:=zrT ((p.kids.map zav).map zau) v.kids [[]] [] (by simp[hlen]) (by simp);simp only[List.nil_append,List.mem_singleton,exists_eq_left,hitL,true_and,xac] at hp;have hih:∀i,i<p.kids.length->((zaw n (nth p.kids i) (nth v.kids i)).2=true↔∃x∈nth ((p.kids.map zav).map zau) i,hitP x (nth v.kids i)=true):=fun i hi=>by
     rw[zed n m (zen hl hs.2 i (by omega)) (f3 i (by omega))];have e:nth ((p.kids.map zav).map zau) i=zau (zav (nth p.kids i)):=by
      rw[zaM (by simpa using hi),zaM hi];simp
     rw[e]
    constructor
    ·intro h1;obtain⟨l,hl2,hh⟩:=hp.2 (fun i hi=>(hih i hi).1 (h1 i hi));refine⟨_,List.mem_map.2 ⟨l,hl2,rfl⟩, ?_⟩;rw[zcT (by rw[zby];exact h4)];simp only[zfu,zaL,hc,hh,decide_true,Bool.and_self]
    ·rintro ⟨x,hx,hh⟩ i hi
     obtain⟨l,hl2,rfl⟩:=List.mem_map.1 hx;rw[zcT (by rw[zby];exact h4),xad] at hh;exact(hih i hi).2 (hp.1 ⟨l,hl2,hh.2⟩ i hi)
   ·rw[zgb h4 hc];constructor
    ·intro h1;cases h1
    ·rintro ⟨x,hx,hh⟩
     obtain⟨l,hl2,rfl⟩:=List.mem_map.1 hx;rw[zcT (by rw[zby];exact h4),xad] at hh;exact absurd (of_decide_eq_true hh.1) hc
  ·obtain⟨l2,s0,s1⟩:=zdV h h5;have ee:p.kids.map zav=[zav (nth p.kids 0),zav (nth p.kids 1)]:=by
    match hk:p.kids,l2 with
    | [a,b],_=>rfl
   rw[zbi,if_neg (by omega),if_neg (by omega),zdH (by rw[zby];exact h5) (by rw[zaL];simpa using l2),zaL,ee];have i0:=zed n (m+1) s0 hv;have i1:=zed n (m+1) s1 hv;have e0:nth [zav (nth p.kids 0),zav (nth p.kids 1)] 0=zav (nth p.kids 0):=rfl;have e1:nth [zav (nth p.kids 0),zav (nth p.kids 1)] 1=zav (nth p.kids 1):=rfl;rw[e0,e1];by_cases hm:(zaw n (nth p.kids 0) v).2=true
   ·rw[zhO h5 hm];obtain⟨x,hx,hh⟩:=i0.1 hm;simp only[true_iff];exact⟨x,List.mem_append_left _ hx,hh⟩
   ·rw[zhP h5 (by simpa using hm),i1];constructor
    ·rintro ⟨x,hx,hh⟩
     exact⟨x,List.mem_append_right _ hx,hh⟩
    ·rintro ⟨x,hx,hh⟩
     rcases List.mem_append.1 hx with hx|hx
     ·exact absurd (i0.2 ⟨x,hx,hh⟩) hm
     ·exact⟨x,hx,hh⟩
  ·obtain⟨l1,s0⟩:=zdx h h6;rw[zgc h6,zbi,if_neg (by omega),if_pos ⟨h6,fun e=>by rw[e] at l1;simp at l1⟩];exact zed n (m+1) s0 hv
theorem zpK {w:List Data}:∀(n k m:Nat){t:Ty}{p:Pat}{v:Val},zaq w n t p=true->zaf w k t p=true->zaJ w m t v=true->(zaw n p v).2=hitP p v
 |0,k,m,t,p,v,h,_,_=>by simp[zaq] at h
 |n+1,0,m,t,p,v,_,h,_=>by simp[zaf] at h
 |n+1,k+1,0,t,p,v,_,_,h=>by simp[zaJ] at h
 |n+1,k+1,m+1,t,p,v,h,hp,hv=>by
  rcases zbq hp with h1|h3|h4
  ·rw[zga h1,ze6 h1]
  ·rw[zfr h3,zg7 h3]
  ·have hs:=h;unfold zaq at hs;rw[xad,za0 h4] at hs;have hl:=zgo hs.2;obtain⟨m1,m2,m3,m4⟩:=zaD hp h4;obtain⟨f1,f2,f3⟩:=zdq hv m2;rw[zcT h4];by_cases hc:p.ctor=v.ctor
   ·rw[zhu h4 hc,decide_eq_true hc,Bool.true_and,Bool.eq_iff_iff];rw[hc] at hl hs m3;rw[zjA (by omega),zjt (by omega)];have hk:∀i,i<p.kids.length->(zaw n (nth p.kids i) (nth v.kids i)).2=hitP (nth p.kids i) (nth v.kids i):=fun i hi=>by
     have hpk:=zaS hp hi;rw[za0 h4,hc] at hpk;exact zpK n k m (zen hl hs.2 i (by omega)) hpk (f3 i (by omega))
    constructor
    ·intro h1 i hi;rw[<-hk i hi];exact h1 i hi
    ·intro h1 i hi;rw[hk i hi];exact h1 i hi
   ·rw[zgb h4 hc,decide_eq_false hc,Bool.false_and]
theorem zpL {f:Pat->Pat->Option Pat}:∀ {a b:List Pat}{acc:List Pat}{s q:List Val},a.length=b.length->a.length=s.length->acc.length=q.length->
  (∀i,i<a.length->match f (nth a i) (nth b i) with
   |none=>(hitP (nth a i) (nth s i)&&hitP (nth b i) (nth s i))=false
   |some x=>hitP x (nth s i)=(hitP (nth a i) (nth s i)&&hitP (nth b i) (nth s i)))->
  match zbS f a b acc with
   |none=>(hitL a s&&hitL b s)=false
   |some l=>hitL l (q++s)=(hitL acc q&&(hitL a s&&hitL b s))
 | [],[],acc,[],q,_,_,ha,_=>by simp[zbS,hitL]
 |p::r,p2::r2,acc,v::s,q,h1,h2,ha,hf=>by
  have h0:=hf 0 (by simp);have e1:nth (p::r) 0=p:=rfl;have e2:nth (p2::r2) 0=p2:=rfl;have e3:nth (v::s) 0=v:=rfl;rw[e1,e2,e3] at h0;unfold zbS;cases hx:f p p2 with
  |none=>
   rw[hx] at h0;simp only[hitL];dsimp only at h0;cases ha1:hitP p v<;>cases hb1:hitP p2 v<;>simp_all
  |some x=>
   rw[hx] at h0;dsimp only at h0 ⊢;have ih:=zpL (f:=f) (a:=r) (b:=r2) (acc:=acc++[x]) (s:=s) (q:=q++[v]) (by simpa using h1) (by simpa using h2) (by simp[ha]) (fun i hi=>hf (i+1) (by simpa using hi));cases hm:zbS f r r2 (acc++[x]) with
   |none=>
    rw[hm] at ih;dsimp only at ih ⊢;simp only[hitL];cases ha1:hitP p v<;>cases hb1:hitP p2 v<;>simp_all
   |some l=>
    rw[hm] at ih;dsimp only at ih ⊢;rw[show q++v::s=q++[v]++s by simp,ih,zgE acc q x v ha,h0];simp only[hitL];cases hitL acc q<;>cases hitP p v<;>cases hitP p2 v<;>cases hitL r s<;>cases hitL r2 s<;>rfl
 | [],_::_,_,_,_,h,_,_,_=>by simp at h
 |_::_,[],_,_,_,h,_,_,_=>by simp at h
 | [],[],_,_::_,_,_,h,_,_=>by simp at h
 |_::_,_::_,_,[],_,_,h,_,_=>by simp at h
theorem zsI {x a b c d:Int}:zao x (maxQ a c) (minQ b d)=(zao x a b&&zao x c d):=by
 unfold zao maxQ minQ;rw[Bool.eq_iff_iff];simp only[xad,decide_eq_true_eq];split<;>split<;>omega
theorem zrE {w:List Data}:∀(k m:Nat){t:Ty}{a b:Pat}{v:Val},zaf w k t a=true->zaf w k t b=true->zaJ w m t v=true->∀n,k<=n->match zaH n a b with
  |none=>(hitP a v&&hitP b v)=false
  |some x=>hitP x v=(hitP a v&&hitP b v)
 |0,m,t,a,b,v,ha,_,_,_,_=>by simp[zaf] at ha
 |k+1,0,t,a,b,v,_,_,hv,_,_=>by simp[zaJ] at hv
 |k+1,m+1,t,a,b,v,_,_,_,0,h=>by omega
 |k+1,m+1,t,a,b,v,ha,hb,hv,n+1,hn=>by
  by_cases h1:a.op=1
  ·rw[zhQ h1];dsimp only;rw[ze6 h1,Bool.true_and]
  by_cases h2:b.op=1
  ·rw[ziZ h1 h2];dsimp only;rw[ze6 h2,Bool.and_true]
  have hs:=zdm ha hb h1 h2;have oa:=zbq ha;by_cases h3:a.op=3
  ·rw[zi0 h3 h2,zg7 h3,zg7 (p:=b) (by omega),<-zsI];split
   ·rename_i x hx;split at hx
    ·cases hx
    ·unfold zao;simp only[Bool.and_eq_false_iff,decide_eq_false_iff_not];omega
   ·rename_i x hx;split at hx
    ·cases hx;rfl
    ·cases hx
  have h4:a.op=4:=by omega
  have hb4:b.op=4:=by omega
  rw[zcT h4,zcT hb4];obtain⟨m1,m2,m3,m4⟩:=zaD ha h4;obtain⟨n1,n2,n3,n4⟩:=zaD hb hb4;obtain⟨f1,f2,f3⟩:=zdq hv m2;by_cases hc:a.ctor=b.ctor
  ·rw[zhR h4 h2 hc];rw[<-hc] at n3 ⊢;by_cases hcv:a.ctor=v.ctor
   ·rw[decide_eq_true hcv];have hl:=zpL (f:=zaH n) (a:=a.kids) (b:=b.kids) (acc:=[]) (s:=v.kids) (q:=[]) (by omega) (by rw[hcv] at m3;omega) rfl (fun i hi=>by
     have ka:=zaS ha (i:=i) hi;have kb:=zaS hb (i:=i) (by omega);rw[za0 h4,hcv] at ka;rw[za0 hb4,<-hc,hcv] at kb;exact zrE k m ka kb (f3 i (by rw[hcv] at m3;omega)) n (by omega))
    cases hx:zbS (zaH n) a.kids b.kids [] with
    |none=>
     rw[hx] at hl;dsimp only[Option.map_none] at hl ⊢;rw[Bool.true_and,Bool.true_and];exact hl
    |some l=>
     rw[hx] at hl;dsimp only[Option.map_some] at hl ⊢;rw[zcT (by rfl)];show(decide (a.ctor=v.ctor)&&hitL l v.kids)=_
     rw[decide_eq_true hcv];simpa [hitL] using hl
   ·rw[decide_eq_false hcv];cases hx:zbS (zaH n) a.kids b.kids [] with
    |none=>rfl
    |some l=>
     dsimp only[Option.map_some];rw[zcT (by rfl)];show(decide (a.ctor=v.ctor)&&hitL l v.kids)=_
     rw[decide_eq_false hcv];rfl
  ·rw[zhv h4 h2 hc];dsimp only;by_cases hcv:a.ctor=v.ctor
   ·rw[decide_eq_false (p:=b.ctor=v.ctor) (by omega)];simp
   ·rw[decide_eq_false hcv];simp
def one (b:Bool):Nat:=if b=true then 1 else 0
theorem zpn {a b:Int}{v:Val}:(zbX a b).countP (fun x=>hitP x v)=one (zao v.num a b):=by
 unfold zbX one;split
 ·rw[List.countP_singleton,zg7 rfl];rfl
 ·rename_i h;have:zao v.num a b=false:=by unfold zao;simp only[Bool.and_eq_false_iff,decide_eq_false_iff_not];omega
  rw[this];rfl
theorem zuS {c:Int}{pre:List Pat}{s:List Pat}{v0:Val}{vf vs:List Val}{v:Val} (hv:v.kids=vf++v0::vs) (hl:pre.length=vf.length) (l:List Pat):
  (l.map (fun z=>zbb c (pre++[z]++s))).countP (fun x=>hitP x v)=one (decide (c=v.ctor)&&(hitL pre vf&&hitL s vs))*l.countP (fun z=>hitP z v0):=by
 rw[List.countP_map];have hz:∀z,hitP (zbb c (pre++[z]++s)) v=((decide (c=v.ctor)&&(hitL pre vf&&hitL s vs))&&hitP z v0):=fun z=>by
  rw[zcT rfl];show(decide (c=v.ctor)&&hitL (pre++[z]++s) v.kids)=_
  rw[hv,show vf++v0::vs=vf++([v0]++vs) by simp,List.append_assoc,zrv pre vf _ _ hl];show(decide (c=v.ctor)&&(hitL pre vf&&(hitP z v0&&hitL s vs)))=_
  cases decide (c=v.ctor)<;>cases hitL pre vf<;>cases hitP z v0<;>cases hitL s vs<;>rfl
 cases hb:(decide (c=v.ctor)&&(hitL pre vf&&hitL s vs)) with
 |true=>
  rw[show one true=1 from rfl,Nat.one_mul];congr 1
  funext z
  show hitP (zbb c (pre++[z]++s)) v=_
  rw[hz,hb,Bool.true_and]
 |false=>
  rw[show one false=0 from rfl,Nat.zero_mul];rw[List.countP_eq_zero];intro z _;show ¬hitP (zbb c (pre++[z]++s)) v=true
  rw[hz,hb];simp
theorem zwh:∀d f x y s b:Bool,one (d&&(f&&s))*one (x&& !y)+one (d&&((f&&(x&&y))&&(s&& !b)))=one (d&&(f&&((x&&s)&& !(y&&b)))):=by decide
theorem zwg:∀d f x y s b:Bool,(x&&y)=false->one (d&&(f&&s))*one (x&& !y)+0=one (d&&(f&&((x&&s)&& !(y&&b)))):=by decide
theorem zvh {x la ha bn bm:Int} (h:bn<=bm):one (zao x la (minQ ha (bn-1)))+one (zao x (maxQ la (bm+1)) ha)=one (zao x la ha&& !zao x bn bm):=by
 have e1:zao x la (minQ ha (bn-1))=(zao x la ha&&decide (x<bn)):=by
  unfold zao minQ;rw[Bool.eq_iff_iff];simp only[xad,decide_eq_true_eq];split<;>omega
 have e2:zao x (maxQ la (bm+1)) ha=(zao x la ha&&decide (bm<x)):=by
  unfold zao maxQ;rw[Bool.eq_iff_iff];simp only[xad,decide_eq_true_eq];split<;>omega
 have e3:zao x bn bm=(!decide (x<bn)&& !decide (bm<x)):=by
  unfold zao;rw[Bool.eq_iff_iff];simp only[xad,Bool.not_eq_true',decide_eq_true_eq,decide_eq_false_iff_not];omega
 have key:∀q u v:Bool,(u&&v)=false->one (q&&u)+one (q&&v)=one (q&& !(!u&& !v)):=by decide
 rw[e1,e2,e3];refine key _ _ _ ?_;rw[Bool.and_eq_false_iff,decide_eq_false_iff_not,decide_eq_false_iff_not];omega
theorem znC {w:List Data}{f:Ty->Pat->Pat->List Pat}{m:Nat}{c:Int}{v:Val}:
  ∀ {us:List Ty}{xs bs front:List Pat}{vf vs:List Val},v.kids=vf++vs->front.length=vf.length->us.length=xs.length->bs.length=xs.length->vs.length=xs.length->
   (∀j,j<xs.length->zaf w 11 (nth us j) (nth xs j)=true/\zaf w 11 (nth us j) (nth bs j)=true/\zaJ w m (nth us j) (nth vs j)=true/\(f (nth us j) (nth xs j) (nth bs j)).countP (fun x=>hitP x (nth vs j))=one (hitP (nth xs j) (nth vs j)&& !hitP (nth bs j) (nth vs j)))->
   (zaP f c us xs bs front).countP (fun x=>hitP x v)=one (decide (c=v.ctor)&&(hitL front vf&&(hitL xs vs&& !hitL bs vs)))
 | [],[],[],front,vf,[],_,_,_,_,_,_=>by
  simp only[zaP,List.countP_nil,hitL];cases decide (c=v.ctor)<;>cases hitL front vf<;>rfl
 |u::us,x::xs,y::bs,front,vf,v0::vs,hv,hfl,h1,h2,h3,hf=>by
  have h0:=hf 0 (by simp);have e0:nth (u::us) 0=u:=rfl;have e1:nth (x::xs) 0=x:=rfl;have e2:nth (y::bs) 0=y:=rfl;have e3:nth (v0::vs) 0=v0:=rfl;rw[e0,e1,e2,e3] at h0;unfold zaP;rw[List.countP_append,zuS hv hfl,h0.2.2.2];have hm:=zrE 11 m h0.1 h0.2.1 h0.2.2.1 11 (Nat.le_refl _);cases hq:zaH 11 x y with
  |none=>
   rw[hq] at hm;dsimp only at hm ⊢;simp only[List.countP_nil,hitL];exact zwg _ _ _ _ _ _ hm
  |some both=>
   rw[hq] at hm;dsimp only at hm ⊢;have ih:=znC (w:=w) (f:=f) (m:=m) (c:=c) (v:=v) (us:=us) (xs:=xs) (bs:=bs) (front:=front++[both]) (vf:=vf++[v0]) (vs:=vs) (by rw[hv];simp) (by simp[hfl]) (by simpa using h1) (by simpa using h2) (by simpa using h3) (fun j hj=>hf (j+1) (by simpa using hj));rw[ih,zgE front vf both v0 hfl,hm];simp only[hitL];exact zwh _ _ _ _ _ _
 | [],_::_,_,_,_,_,_,_,h,_,_,_=>by simp at h
 |_::_,[],_,_,_,_,_,_,h,_,_,_=>by simp at h
 |_,[],_::_,_,_,_,_,_,_,h,_,_=>by simp at h
 |_,_::_,[],_,_,_,_,_,_,h,_,_=>by simp at h
 |_,[],_,_,_,_::_,_,_,_,_,h,_=>by simp at h
 |_,_::_,_,_,_,[],_,_,_,_,h,_=>by simp at h
theorem zlT {f:Ty->Pat->Pat->List Pat}{c:Int}{x:Pat}:∀ {us:List Ty}{xs bs front:List Pat},x∈zaP f c us xs bs front->∃l,x=zbb c l
 |u::us,a::xs,y::bs,front,h=>by
  unfold zaP at h;rcases List.mem_append.1 h with h|h
  ·obtain⟨z,_,rfl⟩:=List.mem_map.1 h;exact⟨_,rfl⟩
  ·cases hq:zaH 11 a y with
   |none=>rw[hq] at h;simp at h
   |some b=>rw[hq] at h;exact zlT h
 | [],_,_,_,h=>by simp[zaP] at h
 |_::_,[],_,_,h=>by simp[zaP] at h
 |_::_,_::_,[],_,h=>by simp[zaP] at h
theorem zpm {c0:Int}{g:Int->List Pat}{v:Val}{k:Nat}:∀ {l:List Int},l.Nodup->c0∈l->(∀c∈l,c≠c0->(g c).countP (fun x=>hitP x v)=0)->(g c0).countP (fun x=>hitP x v)=k->(l.flatMap g).countP (fun x=>hitP x v)=k
 | [],_,h,_,_=>by simp at h
 |a::r,hn,hm,hz,hk=>by
  rw[List.flatMap_cons,List.countP_append];have hn':=List.nodup_cons.1 hn;by_cases ha:a=c0
  ·subst ha;have h0:(r.flatMap g).countP (fun x=>hitP x v)=0:=by
    rw[List.countP_eq_zero];intro x hx;obtain⟨c,hc,hx⟩:=List.mem_flatMap.1 hx;have:=hz c (by simp[hc]) (fun e=>hn'.1 (e ▸ hc));rw[List.countP_eq_zero] at this;exact this x hx
   omega
  ·have h1:=hz a (by simp) ha;have h2:=zpm (g:=g) (v:=v) (k:=k) hn'.2 (by simpa [Ne.symm ha] using hm) (fun c hc=>hz c (by simp[hc])) hk;omega
section
variable {w:List Data} (hs:Spa w)
include hs
theorem zpO:∀(n m k:Nat){t:Ty}{a b:Pat}{v:Val},n<m->m<=12->InS (w.length*4) t->zaf w m t a=true->zaf w n t b=true->zaJ w k t v=true->(zat w n t a b).countP (fun x=>hitP x v)=one (hitP a v&& !hitP b v)
 |0,m,k,t,a,b,v,_,_,_,_,hb,_=>by simp[zaf] at hb
 |n+1,0,k,t,a,b,v,hn,_,_,_,_,_=>by omega
 |n+1,m+1,0,t,a,b,v,_,_,_,_,_,hv=>by simp[zaJ] at hv
 |n+1,m+1,k+1,t,a,b,v,hn,h12,ht,ha,hb,hv=>by
  have hcc:∀a,zaf w (m+1) t a=true->a.op=4->b.op=4->(zb4 (zat w n) w t a b).countP (fun x=>hitP x v)=one (hitP a v&& !hitP b v):=fun a ha h4 h4b=>by
   obtain⟨m1,m2,m3,m4⟩:=zaD ha h4;obtain⟨n1,n2,n3,n4⟩:=zaD hb h4b;obtain⟨f1,f2,f3⟩:=zdq hv m2;rw[zcT h4,zcT h4b];unfold zb4;split
   ·rename_i hc;by_cases hcv:a.ctor=v.ctor
    ·have:=znC (w:=w) (f:=zat w n) (m:=k) (c:=a.ctor) (v:=v) (us:=zaa w t a.ctor) (xs:=a.kids) (bs:=b.kids) (front:=[]) (vf:=[]) (vs:=v.kids) rfl rfl m3.symm (by rw[<-hc] at n3;omega) (by rw[hcv] at m3;omega) (fun j hj=>by
      have ka:=zaS ha (i:=j) hj;have kb:=zaS hb (i:=j) (by rw[<-hc] at n3;omega);rw[za0 h4] at ka;rw[za0 h4b,<-hc] at kb;have kv:=f3 j (by rw[hcv] at m3;omega);rw[<-hcv] at kv;exact⟨zdl (by omega) ka,zdl (by omega) kb,kv,zpO n m k (by omega) (by omega) (zbr hs.dp ht m1 _ (zac (by omega))) ka kb kv⟩)
     rw[this,<-hc];simp only[hitL,one];cases decide (a.ctor=v.ctor)<;>cases hitL a.kids v.kids<;>cases hitL b.kids v.kids<;>rfl
    ·have hz:(zaP (zat w n) a.ctor (zaa w t a.ctor) a.kids b.kids []).countP (fun x=>hitP x v)=0:=by
      rw[List.countP_eq_zero];intro x hx;obtain⟨l,rfl⟩:=zlT hx;rw[zcT rfl];show ¬(decide (a.ctor=v.ctor)&&hitL l v.kids)=true
      rw[decide_eq_false hcv];simp
     rw[hz,decide_eq_false hcv];rfl
   ·rename_i hc;rw[List.countP_singleton,zcT h4];by_cases hcv:a.ctor=v.ctor
    ·rw[decide_eq_false (p:=b.ctor=v.ctor) (by omega)];simp only[Bool.false_and,Bool.not_false,Bool.and_true,one]
    ·rw[decide_eq_false hcv];rfl
  rcases zbq hb with h1|h3|h4
  ·rw[zft h1,ze6 h1];simp[one]
  ·have hd:=(zbG hb h3).1;have hl:=zmq ha hd;have ib:=zbG hb h3;have fn:=zv9 hv hd;rw[zhw h3,zd8,List.countP_append,zpn,zpn,zg7 h3];have hav:hitP a v=zao v.num (lowQ a) (zcs a):=by
    unfold lowQ zcs;rcases zbq ha with h|h|h
    ·rw[ze6 h,if_pos h,if_pos h];unfold zao;rw[decide_eq_true (p:=0<=v.num) (by omega),decide_eq_true (p:=v.num<=9) (by omega)];rfl
    ·rw[zg7 h,if_neg (by omega),if_neg (by omega)]
    ·exact absurd hd (zaD ha h).2.1
   rw[hav];exact zvh ib.2.2.1
  ·by_cases ha1:a.op=1
   ·rw[zge h4 ha1,ze6 ha1,Bool.true_and];have hdt:=(zaD hb h4).2.1;obtain⟨f1,f2,f3⟩:=zdq hv hdt;obtain⟨q,rfl⟩:∃q,m=q+1:=⟨m-1,by omega⟩;refine zpm (c0:=v.ctor) (hs.ctors t ht).2 f1 (fun c hc hne=>?_) ?_
    ·rw[hcc _ (zcG hc) rfl h4,zcT rfl];show one ((decide (c=v.ctor)&&_)&&_)=0
     rw[decide_eq_false hne];rfl
    ·rw[hcc _ (zcG f1) rfl h4,zcT (p:=zbP w t v.ctor) rfl];show one ((decide (v.ctor=v.ctor)&&hitL ((zaa w t v.ctor).map fun _=>anyQ) v.kids)&& !hitP b v)=_
     rw[zmf,decide_eq_true rfl];rfl
   ·have ha4:a.op=4:=by have:=zdm ha hb ha1 (by omega);omega
    rw[zc3 h4 ha4];exact hcc a ha ha4 h4
theorem zkx:∀(n m:Nat){t:Ty}{p:Pat}{v:Val},InS (w.length*4) t->zaf w n t p=true->zaJ w m t v=true->hitP p v=true->zaV w (zai w) n t p=false
 |0,m,t,p,v,_,h,_,_=>by simp[zaf] at h
 |n+1,0,t,p,v,_,_,h,_=>by simp[zaJ] at h
 |n+1,m+1,t,p,v,ht,hp,hv,hh=>by
  rcases zbq hp with h1|h3|h4
  ·rw[zfo h1];have:=zxP hs.dp ht hv;exact decide_eq_false (by omega)
  ·exact zlm hp h3
  ·cases he:zaV w (zai w) (n+1) t p with
   |false=>rfl
   |true=>
    exfalso;obtain⟨i,hi,hd⟩:=zl8 hp h4 he;obtain⟨m1,m2,m3,m4⟩:=zaD hp h4;obtain⟨f1,f2,f3⟩:=zdq hv m2;rw[zcT h4,xad] at hh;have hc:=of_decide_eq_true hh.1;rw[hc] at m3;have hk:=(zjt (by omega)).1 hh.2 i hi;have hpk:=zaS hp hi;rw[za0 h4] at hpk;have:=zkx n m (zbr hs.dp ht m1 _ (zac (by rw[hc];omega))) hpk (by rw[hc];exact f3 i (by omega)) hk;rw[this] at hd;cases hd
theorem zm5 {t:Ty}{v:Val}{m:Nat} (ht:InS (w.length*4) t) (hv:zaJ w m t v=true){l:List Pat} (hl:∀a∈l,zaf w 11 t a=true):(l.filter (zbl w t)).countP (fun x=>hitP x v)=l.countP (fun x=>hitP x v):=by
 rw[List.countP_filter];refine List.countP_congr (fun x hx=>?_);simp only[xad];constructor
 ·exact fun h=>h.1
 ·intro h;refine⟨h, ?_⟩;unfold zbl;rw[zkx hs 11 m ht (hl x hx) hv h];rfl
theorem zwp {t:Ty}{v:Val}{m:Nat} (ht:InS (w.length*4) t) (hv:zaJ w m t v=true){b:Pat} (hb:zaf w 10 t b=true){l:List Pat} (hl:∀a∈l,zaf w 11 t a=true):
  (zbY w t l b).countP (fun x=>hitP x v)=if hitP b v=true then 0 else l.countP (fun x=>hitP x v):=by
 unfold zbY;rw[zm5 hs ht hv (fun x hx=>by
  obtain⟨a,ha,hx⟩:=List.mem_flatMap.1 hx;exact zfQ 10 11 (by omega) (hl a ha) hb x hx)]
 induction l with
 |nil=>simp
 |cons a r ih=>
  rw[List.flatMap_cons,List.countP_append,ih (fun x hx=>hl x (by simp[hx])),zpO hs 10 11 m (by omega) (by omega) ht (hl a (by simp)) hb hv,List.countP_cons];unfold one;cases hitP b v<;>cases hitP a v<;>simp<;>omega
theorem ztu {t:Ty}{v:Val}{m:Nat} (ht:InS (w.length*4) t) (hv:zaJ w m t v=true):∀ {away l r:List Pat},(∀b∈away,zaf w 10 t b=true)->(∀a∈l,zaf w 11 t a=true)->subL w t l away=some r->
  r.countP (fun x=>hitP x v)=if away.any (fun b=>hitP b v)=true then 0 else l.countP (fun x=>hitP x v)
 | [],l,r,_,_,h=>by rw[subL] at h;cases h;simp
 |b::away,l,r,hb,hl,h=>by
  rw[subL] at h;split at h
  ·rw[ztu ht hv (fun x hx=>hb x (by simp[hx])) (zeQ hl (hb b (by simp))) h,zwp hs ht hv (hb b (by simp)) hl,List.any_cons];cases hitP b v<;>cases away.any (fun b=>hitP b v)<;>simp
  ·cases h
theorem zl1 {t:Ty}{v:Val}{m:Nat} (ht:InS (w.length*4) t) (hv:zaJ w m t v=true){away l r:List Pat} (hb:∀b∈away,zaf w 10 t b=true) (hl:∀a∈l,zaf w 11 t a=true) (h:zaz w t l away=some r):
  r.countP (fun x=>hitP x v)=if away.any (fun b=>hitP b v)=true then 0 else l.countP (fun x=>hitP x v):=by
 unfold zaz at h;rw[ztu hs ht hv hb (fun a ha=>hl a (List.mem_filter.1 ha).1) h,zm5 hs ht hv hl]
end
def zfm (l:List Cl) (v:Val):Bool:=l.any fun c=>decide (c.g.op=0)&&(zaw 10 c.pat v).2
theorem zkn {w:List Data}{t:Ty}{v:Val}{m:Nat} (hv:zaJ w m t v=true):∀(l:List Cl) (out r:List Pat),(∀c∈l,zaq w 10 t c.pat=true)->za5 l out=some r->(r.any fun b=>hitP b v)=(out.any (fun b=>hitP b v)||zfm l v)
 | [],out,r,_,h=>by rw[za5] at h;cases h;simp[zfm]
 |c::l,out,r,hc,h=>by
  rw[za5] at h;have hm:=zed 10 m (hc c (by simp)) hv;split at h
  ·rename_i hg;split at h
   ·rename_i hp;rw[zkn hv l _ r (fun x hx=>hc x (by simp[hx])) h,List.any_append];have e:(zbp c.pat).any (fun b=>hitP b v)=(zaw 10 c.pat v).2:=by
     have e1:zbp c.pat=zau (zav c.pat):=by unfold zbp;unfold zbm at hp;rw[if_pos (of_decide_eq_true hp)]
     rw[e1,Bool.eq_iff_iff,hm,List.any_eq_true]
    rw[e];unfold zfm;rw[List.any_cons,decide_eq_true hg,Bool.true_and,Bool.or_assoc]
   ·cases h
  ·rename_i hg;rw[zkn hv l _ r (fun x hx=>hc x (by simp[hx])) h];unfold zfm;rw[List.any_cons,decide_eq_false hg,Bool.false_and,Bool.false_or]
theorem ztW {w:List Data}{a k:Int}{x:Pat}{v:Val}{m:Nat} (h:isP w ⟨a,k⟩ x=true) (hp:zaf w 11 ⟨a,k⟩ x=true) (hv:zaJ w m ⟨a,k⟩ v=true):(zaw 10 x v).2=hitP x v:=by
 unfold isP at h;rw[xad] at h;exact zpK 10 11 m h.1 hp hv
theorem zng {w:List Data}{g:Ty->Val->Bool}{F:Ty->List Val} (hF:∀u x,x∈F u->g u x=true):∀(us:List Ty) (vs:List Ty) (acc:List (List Val)),(∀l∈acc,all2 g vs l=true)->
  ∀l∈(us.map F).foldl (fun acc l=>acc.flatMap fun o=>l.map fun y=>o++[y]) acc,all2 g (vs++us) l=true
 | [],vs,acc,h,l,hl=>by rw[List.append_nil];exact h l hl
 |u::us,vs,acc,h,l,hl=>by
  rw[show vs++u::us=vs++[u]++us by simp];refine zng (w:=w) hF us (vs++[u]) _ (fun q hq=>?_) l hl;obtain⟨o,h1,h2⟩:=List.mem_flatMap.1 hq;obtain⟨y,h3,rfl⟩:=List.mem_map.1 h2;have ho:=h o h1;have hy:=hF u y h3;clear hl hq h2 h1 h;induction vs generalizing o with
  |nil=>
   cases o with
   |nil=>simp[all2,hy]
   |cons a r=>simp[all2] at ho
  |cons b s ih=>
   cases o with
   |nil=>simp[all2] at ho
   |cons a r=>
    simp only[all2,xad,xag] at ho ⊢;exact⟨ho.1,ih r ho.2⟩
theorem zjo {w:List Data}:∀(n:Nat){t:Ty}{v:Val},v∈zaN w n t->zaJ w n t v=true
 |0,t,v,h=>by simp[zaN] at h
 |n+1,t,v,h=>by
  unfold zaN at h;unfold zaJ;by_cases ht:t.data = -1
  ·rw[if_pos ht] at h ⊢;unfold zeu at h;obtain⟨i,hi,rfl⟩:=List.mem_map.1 h;rw[List.mem_range] at hi;simp only[xad,decide_eq_true_eq];exact⟨rfl,by show(0:Int)<=(i:Int);omega,by show(i:Int)<=9;omega,rfl⟩
  ·rw[if_neg ht] at h ⊢;obtain⟨c,hc,h⟩:=List.mem_flatMap.1 h;obtain⟨l,hl,rfl⟩:=List.mem_map.1 h;rw[if_pos ⟨rfl,hc⟩];have:=zng (w:=w) (g:=zaJ w n) (F:=zaN w n) (fun u x hx=>zjo n hx) (zaa w t c) [] [[]] (by simp[all2]) l hl;exact(by simpa using this:all2 (zaJ w n) (zaa w t c) l=true)
theorem zne {w:List Data}:∀(n:Nat){t:Ty}{v:Val},zaJ w n t v=true->zaJ w (n+1) t v=true
 |0,t,v,h=>by simp[zaJ] at h
 |n+1,t,v,h=>by
  rw[zaJ] at h ⊢;split
  ·rename_i hd;rw[if_pos hd] at h;exact h
  ·rename_i hd;rw[if_neg hd] at h;split at h
   ·rename_i hc;rw[if_pos hc];exact zhA (fun x _ y _ hxy=>zne n hxy) h
   ·cases h
theorem zhI {w:List Data}{n m:Nat} (h:n<=m){t:Ty}{v:Val} (hv:zaJ w n t v=true):zaJ w m t v=true:=by
 induction h with
 |refl=>exact hv
 |step _ ih=>exact zne _ ih
def szN:Nat->Nat
 |0=>0
 |n+1=>1+3*szN n
theorem Vals.size_of {m:Nat}:∀ {l:List Val},(∀k∈l,k.size<=m)->Vals.size l<=l.length*m
 | [],_=>by simp[Vals.size]
 |x::r,h=>by
  have h1:=h x (by simp);have h2:=Vals.size_of (l:=r) (fun y hy=>h y (by simp[hy]));simp only[Vals.size,xab,Nat.succ_mul];omega
theorem zpu {w:List Data} (hs:Spa w):∀(n:Nat){t:Ty}{v:Val},InS (w.length*4) t->zaJ w n t v=true->v.size<=szN n
 |0,t,v,_,h=>by simp[zaJ] at h
 |n+1,t,v,ht,h=>by
  rw[Val.size_eq];by_cases hd:t.data = -1
  ·rw[zaJ,if_pos hd] at h;simp only[xad,decide_eq_true_eq] at h;rw[List.eq_nil_of_length_eq_zero h.2.2.2];simp[Vals.size,szN]
  ·obtain⟨f1,f2,f3⟩:=zdq h hd;have h3:=hs.args t _ ht f1;have hz:=Vals.size_of (m:=szN n) (l:=v.kids) (fun k hk=>by
    obtain⟨i,hi,rfl⟩:=List.getElem_of_mem hk;have:=zpu hs n (zbr hs.dp ht f1 _ (zac (i:=i) (by omega))) (f3 i hi);rwa [zaM hi] at this)
   have:v.kids.length*szN n<=3*szN n:=Nat.mul_le_mul_right _ (by omega);unfold szN;omega
theorem zyd {w:List Data} (hs:Spa w){t:Ty} (ht:InS (w.length*4) t){m:Int} (hm:m<=4){v:Val} (h:v∈(vut w t m).1):isV w t v=true/\zaJ w 10 t v=true:=by
 unfold vut at h;split at h
 ·have hf:=zjo m.toNat h;have h1:=zpu hs m.toNat ht hf;have h2:m.toNat<=4:=by omega
  have h3:szN m.toNat<=40:=by
   have:∀i:Nat,i<=4->szN i<=40:=by decide
   exact this _ h2
  have h4:=zhI (m:=10) (by omega) hf;refine⟨?_,h4⟩;unfold isV;rw[h4,Bool.true_and];exact decide_eq_true (by omega)
 ·simp at h
theorem zsK {α β:Type}{f:α->β->Bool}:∀ {l:List α},(∀u∈l,∃v,f u v=true)->∃r,all2 f l r=true
 | [],_=>⟨[],rfl⟩
 |u::s,h=>by
  obtain⟨v,hv⟩:=h u (by simp);obtain⟨r,hr⟩:=zsK (l:=s) (fun x hx=>h x (by simp[hx]));exact⟨v::r,by simp[all2,hv,hr]⟩
theorem zta {w:List Data}:∀(m:Nat){t:Ty},Hd w m t->∃v,zaJ w m t v=true
 |0,_,h=>h.elim
 |m+1,t,h=>by
  by_cases hd:t.data = -1
  ·exact⟨⟨-1,0,[]⟩,by unfold zaJ;rw[if_pos hd];rfl⟩
  ·rcases h with h|⟨c,hc,hn,hh⟩
   ·exact absurd h hd
   ·obtain⟨l,hl⟩:=zsK (f:=zaJ w m) (l:=zaa w t c) (fun u hu=>zta m (hh u hu));exact⟨⟨c,0,l⟩,by unfold zaJ;rw[if_neg hn,if_pos ⟨rfl,hc⟩];exact hl⟩
theorem zs5 {w:List Data} (hd:Dp w){t:Ty} (ht:InS (w.length*4) t) (h:0<dv (zai w) t):∃m v,zaJ w m t v=true:=by
 have a:Snd w (zai w)/\Cmp w (w.length*4+1) (zai w):=zc7 hd.cl (w.length*4+1);exact⟨_,zta _ (zna a.1 ht h)⟩
theorem zrC {w:List Data}:∀ {us:List Ty}{ps:List Pat},us.length=ps.length->(∀i,i<ps.length->∃m v,zaJ w m (nth us i) v=true/\hitP (nth ps i) v=true)->∃m l,all2 (zaJ w m) us l=true/\hitL ps l=true
 | [],[],_,_=>⟨0,[],rfl,rfl⟩
 |u::us,p::ps,hl,h=>by
  obtain⟨m1,v,h1,h2⟩:=h 0 (by simp);obtain⟨m2,l,h3,h4⟩:=zrC (us:=us) (ps:=ps) (by simpa using hl) (fun i hi=>h (i+1) (by simpa using hi));refine⟨max m1 m2,v::l, ?_, ?_⟩
  ·simp only[all2,xad];exact⟨zhI (Nat.le_max_left _ _) h1,zhA (fun x _ y _ hxy=>zhI (Nat.le_max_right _ _) hxy) h3⟩
  ·simp only[hitL,xad];exact⟨h2,h4⟩
 | [],_::_,h,_=>by simp at h
 |_::_,[],h,_=>by simp at h
theorem zj9 {w:List Data} (hs:Spa w):∀(n:Nat){t:Ty}{p:Pat},InS (w.length*4) t->zaf w n t p=true->zaV w (zai w) n t p=false->∃m v,zaJ w m t v=true/\hitP p v=true
 |0,t,p,_,h,_=>by simp[zaf] at h
 |n+1,t,p,ht,hp,he=>by
  rcases zbq hp with h1|h3|h4
  ·rw[zfo h1] at he;have:=of_decide_eq_false he;obtain⟨m,v,hv⟩:=zs5 hs.dp ht (by omega);exact⟨m,v,hv,ze6 h1⟩
  ·have hi:=zbG hp h3;refine⟨1,⟨-1,p.n,[]⟩, ?_, ?_⟩
   ·unfold zaJ;rw[if_pos hi.1];simp only[xad,decide_eq_true_eq];exact⟨rfl,hi.2.1,by show p.n<=9;omega,rfl⟩
   ·rw[zg7 h3];show zao p.n p.n p.m=true
    unfold zao;rw[xad,decide_eq_true_eq,decide_eq_true_eq];omega
  ·obtain⟨m1,m2,m3,m4⟩:=zaD hp h4;rw[ziT h4] at he;have ha:all2 (fun u q=> !zaV w (zai w) n u q) (zaa w t p.ctor) p.kids=true:=by simpa using he
   obtain⟨m,l,h5,h6⟩:=zrC (us:=zaa w t p.ctor) (ps:=p.kids) m3.symm (fun i hi=>by
    have hk:=zaS hp hi;rw[za0 h4] at hk;have h7:=zen m3.symm ha i (by omega);exact zj9 hs n (zbr hs.dp ht m1 _ (zac (by omega))) hk (by simpa using h7))
   refine⟨m+1,⟨p.ctor,0,l⟩, ?_, ?_⟩
   ·unfold zaJ;rw[if_neg m2,if_pos ⟨rfl,zlf m1⟩];exact h5
   ·rw[zcT h4,xad];exact⟨decide_eq_true rfl,h6⟩
theorem zzt {w:List Data}{n:Nat}{t:Ty}{p:Pat} (h:zaf w n t p=true) (h3:p.op=3):p=intQ p.n p.m:=by
 obtain⟨ho,hl⟩:=zgg h;have e:zag w t p=[]:=by unfold zag;rw[if_neg (by omega),if_neg (by omega),if_neg (by omega)]
 rw[e] at hl;have hk:=List.eq_nil_of_length_eq_zero hl;unfold ownP at ho;have hh:=of_decide_eq_true ho;have h1:=hh.2.1 (by omega);have h2:=hh.2.2.2.1 (by omega);obtain⟨op,c,m,k,v,ks⟩:=p;change op=3 at h3
 change v=0 at h1
 change c=0 at h2
 change ks=[] at hk
 rw[h3,h1,h2,hk];rfl
theorem zkH {w:List Data}:∀(k n:Nat){t:Ty}{x z:Pat},zaf w k t x=true->zaH n x x=some z->z=x
 |0,n,t,x,z,h,_=>by simp[zaf] at h
 |k+1,0,t,x,z,_,h=>by simp[zaH] at h
 |k+1,n+1,t,x,z,hp,h=>by
  rcases zbq hp with h1|h3|h4
  ·rw[zhQ h1] at h;cases h;rfl
  ·rw[zi0 h3 (by omega)] at h;split at h
   ·cases h
    have e1:maxQ x.n x.n=x.n:=by unfold maxQ;split<;>rfl
    have e2:minQ x.m x.m=x.m:=by unfold minQ;split<;>rfl
    rw[e1,e2];exact(zzt hp h3).symm
   ·cases h
  ·obtain⟨m1,m2,m3,m4⟩:=zaD hp h4;rw[zhR h4 (by omega) rfl] at h;cases hl:zbS (zaH n) x.kids x.kids [] with
   |none=>rw[hl] at h;cases h
   |some l=>
    rw[hl] at h;simp only[Option.map_some,Option.some.injEq] at h;subst h;obtain⟨r,e,hr,hm⟩:=zfO rfl hl;rw[List.nil_append] at e;subst e;have:l=x.kids:=zoG (by omega) (fun i hi=>by
     have hk:=zaS hp (i:=i) (by omega);rw[za0 h4] at hk;exact zkH k n hk (hm i (by omega)))
    rw[this];exact m4.symm
theorem zlV {f:Ty->Pat->Pat->List Pat}{c:Int}:∀ {us:List Ty}{xs front:List Pat},us.length=xs.length->(∀j,j<xs.length->f (nth us j) (nth xs j) (nth xs j)=[])->zaP f c us xs xs front=[]
 | [],[],_,_,_=>rfl
 |u::us,x::xs,front,hl,h=>by
  unfold zaP;have h0:=h 0 (by simp);rw[show f u x x=[] from h0,List.map_nil,List.nil_append];split
  ·rfl
  ·exact zlV (by simpa using hl) (fun j hj=>h (j+1) (by simpa using hj))
 | [],_::_,_,h,_=>by simp at h
 |_::_,[],_,h,_=>by simp at h
theorem zjB {w:List Data}:∀(k n:Nat){t:Ty}{x:Pat},zaf w k t x=true->zat w n t x x=[]
 |0,n,t,x,h=>by simp[zaf] at h
 |k+1,0,t,x,_=>rfl
 |k+1,n+1,t,x,hp=>by
  rcases zbq hp with h1|h3|h4
  ·exact zft h1
  ·rw[zhw h3];have e1:lowQ x=x.n:=by unfold lowQ;rw[if_neg (by omega)]
   have e2:zcs x=x.m:=by unfold zcs;rw[if_neg (by omega)]
   have q1:=ztg (zcs x) (x.n-1);have q2:=ztf (lowQ x) (x.m+1);unfold zd8 zbX;rw[if_neg (by omega),if_neg (by omega)];rfl
  ·obtain⟨m1,m2,m3,m4⟩:=zaD hp h4;rw[zc3 h4 h4];unfold zb4;rw[if_pos rfl];exact zlV m3.symm (fun j hj=>by
    have hk:=zaS hp (i:=j) hj;rw[za0 h4] at hk;exact zjB k n hk)
structure Grid (w:List Data) (t:Ty) (S:Pat->Prop) (V:List Val):Prop where
 meet:∀n a b z,S a->S b->zaH n a b=some z->S z
 minus:∀n a b x,S a->S b->x∈zat w n t a b->S x
 hit:∀n p,S p->zaf w n t p=true->zaV w (zai w) n t p=false->∃v∈V,hitP p v=true
 fits:∃m,∀v∈V,zaJ w m t v=true
theorem zpE {w:List Data} (hs:Spa w){t:Ty} (ht:InS (w.length*4) t){k:Nat}{x:Pat} (hx:zaf w k t x=true):∃V,V.length<=1/\Grid w t (fun p=>p=x) V:=by
 by_cases hex:∃m v,zaJ w m t v=true/\hitP x v=true
 ·obtain⟨m,v,h1,h2⟩:=hex;refine⟨[v],by simp,⟨fun n a b z ha hb h=>by subst ha;subst hb;exact zkH k n hx h,fun n a b z ha hb h=>by subst ha;subst hb;rw[zjB k n hx] at h;simp at h,fun n p hp _ _=>⟨v,by simp,by rw[hp];exact h2⟩,⟨m,fun y hy=>by rw[List.mem_singleton.1 hy];exact h1⟩⟩⟩
 ·refine⟨[],by simp,⟨fun n a b z ha hb h=>by subst ha;subst hb;exact zkH k n hx h,fun n a b z ha hb h=>by subst ha;subst hb;rw[zjB k n hx] at h;simp at h,fun n p hp h1 h2=>?_,⟨0,fun y hy=>by simp at hy⟩⟩⟩;subst hp;exact absurd (zj9 hs n ht h1 h2) hex
theorem zru {w:List Data}{t:Ty} (ht:t.data = -1):Grid w t (fun _=>True) zeu:=by
 refine⟨fun _ _ _ _ _ _ _=>trivial,fun _ _ _ _ _ _ _=>trivial,fun n p _ hp _=>?_,1,fun v hv=>zjo 1 (by unfold zaN;rw[if_pos ht];exact hv)⟩;have hd:∀i:Nat,i<10->(⟨-1,(i:Int),[]⟩:Val)∈zeu:=fun i hi=>by unfold zeu;exact List.mem_map.2 ⟨i,List.mem_range.2 hi,rfl⟩
 rcases zbq hp with h1|h3|h4
 ·exact⟨_,hd 0 (by omega),ze6 h1⟩
 ·have hi:=zbG hp h3;refine⟨_,hd p.n.toNat (by omega), ?_⟩;rw[zg7 h3];show zao ((p.n.toNat:Nat):Int) p.n p.m=true
  unfold zao;rw[xad,decide_eq_true_eq,decide_eq_true_eq];omega
 ·exact absurd ht (zaD hp h4).2.1
def CSat (Ss:Nat->Pat->Prop) (c:Int) (k:Nat) (p:Pat):Prop:=∃l,p=zbb c l/\l.length=k/\∀j,j<k->Ss j (nth l j)
theorem znF {f:Ty->Pat->Pat->List Pat}{c:Int}{Ss:Nat->Pat->Prop}:∀ {us:List Ty}{xs bs front:List Pat},us.length=xs.length->bs.length=xs.length->(∀j,j<front.length->Ss j (nth front j))->
  (∀j,j<xs.length->Ss (front.length+j) (nth xs j)/\(∀z∈f (nth us j) (nth xs j) (nth bs j),Ss (front.length+j) z)/\(∀z,zaH 11 (nth xs j) (nth bs j)=some z->Ss (front.length+j) z))->
  ∀x∈zaP f c us xs bs front,CSat Ss c (front.length+xs.length) x
 | [],[],_,front,_,_,_,_,x,hx=>by simp[zaP] at hx
 |u::us,a0::s,b0::q,front,h1,h2,hfr,hab,x,hx=>by
  have h0:=hab 0 (by simp);have e0:nth (a0::s) 0=a0:=rfl;have e1:nth (b0::q) 0=b0:=rfl;have e2:nth (u::us) 0=u:=rfl;rw[e0,e1,e2,Nat.add_zero] at h0;unfold zaP at hx;rcases List.mem_append.1 hx with hx|hx
  ·obtain⟨z,hz,rfl⟩:=List.mem_map.1 hx;refine⟨front++[z]++s,rfl,by simp only[xaa,xab,xai];omega,fun j hj=>?_⟩;simp only[xab] at hj;by_cases hj1:j<front.length
   ·have e:nth (front++[z]++s) j=nth front j:=by
     simp only[nth,List.getD,List.append_assoc];rw[List.getElem?_append_left (by omega)]
    rw[e];exact hfr j hj1
   ·by_cases hj2:j=front.length
    ·subst hj2;have e:nth (front++[z]++s) front.length=z:=by
      simp only[nth,List.getD,List.append_assoc];rw[List.getElem?_append_right (by omega),Nat.sub_self];all_goals rfl
     rw[e];exact h0.2.1 z hz
    ·obtain⟨i,rfl⟩:∃i,j=front.length+1+i:=⟨j-front.length-1,by omega⟩;have e:nth (front++[z]++s) (front.length+1+i)=nth (a0::s) (i+1):=by
      simp only[nth,List.getD,List.append_assoc];rw[List.getElem?_append_right (by omega),show front.length+1+i-front.length=i+1 by omega];all_goals rfl
     rw[e];have:=(hab (i+1) (by simp;omega)).1;rwa [show front.length+(i+1)=front.length+1+i by omega] at this
  ·cases hm:zaH 11 a0 b0 with
   |none=>rw[hm] at hx;simp at hx
   |some both=>
    rw[hm] at hx;have:=znF (f:=f) (c:=c) (Ss:=Ss) (us:=us) (xs:=s) (bs:=q) (front:=front++[both]) (by simpa using h1) (by simpa using h2) (fun j hj=>?_) (fun j hj=>?_) x hx
    ·rw[xaa,List.length_singleton,show front.length+1+s.length=front.length+(a0::s).length by simp;omega] at this;exact this
    ·by_cases hj1:j<front.length
     ·have e:nth (front++[both]) j=nth front j:=by
       simp only[nth,List.getD];rw[List.getElem?_append_left (by omega)]
      rw[e];exact hfr j hj1
     ·have hj2:j=front.length:=by simp at hj;omega
      subst hj2;have e:nth (front++[both]) front.length=both:=by
       simp only[nth,List.getD];rw[List.getElem?_append_right (by omega),Nat.sub_self];all_goals rfl
      rw[e];exact h0.2.2 both hm
    ·have:=hab (j+1) (by simpa using hj);rw[xaa,List.length_singleton,show front.length+1+j=front.length+(j+1) by omega];exact this
 | [],_::_,_,_,h,_,_,_,_,_=>by simp at h
 |_::_,[],_,_,h,_,_,_,_,_=>by simp at h
 |_::_,_::_,[],_,_,h,_,_,_,_=>by simp at h
theorem zro:∀(Vs:List (List Val)) (vs:List Val) (acc:List (List Val)) (q:List Val),Vs.length=vs.length->q∈acc->(∀j,j<Vs.length->nth vs j∈nth Vs j)->q++vs∈Vs.foldl (fun acc l=>acc.flatMap fun o=>l.map fun y=>o++[y]) acc
 | [],[],acc,q,_,h,_=>by simpa using h
 |l::r,v::s,acc,q,hl,h,hm=>by
  rw[List.foldl_cons,show q++v::s=q++[v]++s by simp];refine zro r s _ (q++[v]) (by simpa using hl) ?_ (fun j hj=>hm (j+1) (by simpa using hj));exact List.mem_flatMap.2 ⟨q,h,List.mem_map.2 ⟨v,hm 0 (by simp),rfl⟩⟩
 | [],_::_,_,_,h,_,_=>by simp at h
 |_::_,[],_,_,h,_,_=>by simp at h
theorem zrn:∀(Vs:List (List Val)) (acc:List (List Val)) (l:List Val),l∈Vs.foldl (fun acc l=>acc.flatMap fun o=>l.map fun y=>o++[y]) acc->∃q∈acc,∃vs,l=q++vs/\vs.length=Vs.length/\∀j,j<Vs.length->nth vs j∈nth Vs j
 | [],acc,l,h=>⟨l,h,[],by simp,rfl,fun j hj=>by simp at hj⟩
 |x::r,acc,l,h=>by
  rw[List.foldl_cons] at h;obtain⟨q,hq,vs,e,h1,h2⟩:=zrn r _ l h;obtain⟨o,ho,hq⟩:=List.mem_flatMap.1 hq;obtain⟨y,hy,rfl⟩:=List.mem_map.1 hq;refine⟨o,ho,y::vs,by rw[e];simp,by simp[h1],fun j hj=>?_⟩;cases j with
  |zero=>exact hy
  |succ j=>exact h2 j (by simpa using hj)
def zhl (c:Int) (k:Nat) (Vs:Nat->List Val):List Val:=(zb6 ((List.range k).map Vs)).map (Val.mk c 0)
theorem zkN {α:Type} [Inhabited α]{k j:Nat} (f:Nat->α) (h:j<k):nth ((List.range k).map f) j=f j:=by
 rw[zaM (by simpa using h)];simp
theorem zwP (c:Int) (k:Nat) (Vs:Nat->List Val):(zhl c k Vs).length=zbh ((List.range k).map fun j=>(Vs j).length):=by
 unfold zhl;rw[xac,zfy,List.map_map];rfl
theorem zmb {P:Nat->Nat->Prop} (hm:∀j m n,m<=n->P j m->P j n):∀(k:Nat),(∀j,j<k->∃m,P j m)->∃m,∀j,j<k->P j m
 |0,_=>⟨0,fun j hj=>by omega⟩
 |k+1,h=>by
  obtain⟨m1,h1⟩:=zmb hm k (fun j hj=>h j (by omega));obtain⟨m2,h2⟩:=h k (by omega);refine⟨max m1 m2,fun j hj=>?_⟩;by_cases hk:j=k
  ·subst hk;exact hm _ _ _ (Nat.le_max_right _ _) h2
  ·exact hm _ _ _ (Nat.le_max_left _ _) (h1 j (by omega))
theorem zkj {Q:Nat->Val->Prop}:∀(k:Nat),(∀j,j<k->∃v,Q j v)->∃l:List Val,l.length=k/\∀j,j<k->Q j (nth l j)
 |0,_=>⟨[],rfl,fun j hj=>by omega⟩
 |k+1,h=>by
  obtain⟨l,h1,h2⟩:=zkj k (fun j hj=>h j (by omega));obtain⟨v,hv⟩:=h k (by omega);refine⟨l++[v],by simp[h1],fun j hj=>?_⟩;by_cases hk:j=k
  ·subst hk;have e:nth (l++[v]) j=v:=by
    simp only[nth,List.getD];rw[List.getElem?_append_right (by omega),h1,Nat.sub_self];all_goals rfl
   rw[e];exact hv
  ·have e:nth (l++[v]) j=nth l j:=by
    simp only[nth,List.getD];rw[List.getElem?_append_left (by omega)]
   rw[e];exact h2 j (by omega)
theorem zpr {c:Int}{Ss:Nat->Pat->Prop}{k n:Nat}{a b z:Pat} (hm:∀j,j<k->∀n a b z,Ss j a->Ss j b->zaH n a b=some z->Ss j z) (ha:CSat Ss c k a) (hb:CSat Ss c k b) (h:zaH n a b=some z):CSat Ss c k z:=by
 obtain⟨la,rfl,h1,h2⟩:=ha;obtain⟨lb,rfl,h3,h4⟩:=hb;cases n with
 |zero=>simp[zaH] at h
 |succ n=>
  rw[zhR (a:=zbb c la) (b:=zbb c lb) rfl (by show ¬(4:Int)=1;decide) rfl] at h;cases hl:zbS (zaH n) (zbb c la).kids (zbb c lb).kids [] with
  |none=>rw[hl] at h;cases h
  |some l=>
   rw[hl] at h;simp only[Option.map_some,Option.some.injEq] at h;subst h;have hll:(zbb c la).kids.length=(zbb c lb).kids.length:=by show la.length=lb.length;omega
   obtain⟨r,e,hr,hi⟩:=zfO hll hl;rw[List.nil_append] at e;subst e;have hk:(zbb c la).kids.length=k:=h1;refine⟨l,rfl,by omega,fun j hj=>hm j hj n _ _ _ (h2 j hj) (h4 j hj) (hi j (by omega))⟩
theorem zm9 {w:List Data}{t:Ty}{c:Int}{Ss:Nat->Pat->Prop}{n:Nat}{a b x:Pat} (hm:∀j,j<(zaa w t c).length->∀n a b z,Ss j a->Ss j b->zaH n a b=some z->Ss j z)
  (hn:∀j,j<(zaa w t c).length->∀n a b x,Ss j a->Ss j b->x∈zat w n (nth (zaa w t c) j) a b->Ss j x) (ha:CSat Ss c (zaa w t c).length a) (hb:CSat Ss c (zaa w t c).length b) (h:x∈zb4 (zat w n) w t a b):
  CSat Ss c (zaa w t c).length x:=by
 obtain⟨la,rfl,h1,h2⟩:=ha;obtain⟨lb,rfl,h3,h4⟩:=hb;unfold zb4 at h;rw[if_pos (show(zbb c la).ctor=(zbb c lb).ctor from rfl)] at h;have:=znF (f:=zat w n) (c:=c) (Ss:=Ss) (us:=zaa w t c) (xs:=la) (bs:=lb) (front:=[]) (by omega) (by omega) (fun j hj=>by simp at hj) (fun j hj=>by
  rw[xai,Nat.zero_add];exact⟨h2 j (by omega),fun z hz=>hn j (by omega) n _ _ z (h2 j (by omega)) (h4 j (by omega)) hz,fun z hz=>hm j (by omega) 11 _ _ z (h2 j (by omega)) (h4 j (by omega)) hz⟩) x h
 rw[xai,Nat.zero_add,h1] at this;exact this
theorem zie {w:List Data}{t:Ty}{c:Int} (hc:c∈zah w t){Ss:Nat->Pat->Prop}{Vs:Nat->List Val} (hg:∀j,j<(zaa w t c).length->Grid w (nth (zaa w t c) j) (Ss j) (Vs j)):
  Grid w t (CSat Ss c (zaa w t c).length) (zhl c (zaa w t c).length Vs):=by
 have hdt:t.data≠ -1:=fun e=>by unfold zah at hc;rw[if_pos e] at hc;simp at hc
 refine⟨fun n a b z ha hb h=>zpr (fun j hj=>(hg j hj).meet) ha hb h,fun n a b x ha hb h=>?_,fun n p hp h1 h2=>?_, ?_⟩
 ·cases n with
  |zero=>simp[zat] at h
  |succ n=>
   have ha4:a.op=4:=by obtain⟨l,rfl,_⟩:=ha;rfl
   have hb4:b.op=4:=by obtain⟨l,rfl,_⟩:=hb;rfl
   rw[zc3 hb4 ha4] at h;exact zm9 (fun j hj=>(hg j hj).meet) (fun j hj=>(hg j hj).minus) ha hb h
 ·obtain⟨l,rfl,h3,h4⟩:=hp;cases n with
  |zero=>simp[zaf] at h1
  |succ n=>
   rw[ziT rfl] at h2;have ha:all2 (fun u q=> !zaV w (zai w) n u q) (zaa w t c) l=true:=(by simpa using h2:all2 (fun u q=> !zaV w (zai w) n u q) (zaa w t (zbb c l).ctor) (zbb c l).kids=true);obtain⟨vs,h5,h6⟩:=zkj (Q:=fun j v=>v∈Vs j/\hitP (nth l j) v=true) (zaa w t c).length (fun j hj=>by
    have hk:=zaS h1 (i:=j) (by show j<l.length;omega);rw[za0 rfl] at hk;have h7:=zen h3.symm ha j hj;exact(hg j hj).hit n (nth l j) (h4 j hj) hk (by simpa using h7))
   refine⟨⟨c,0,vs⟩, ?_, ?_⟩
   ·unfold zhl;refine List.mem_map.2 ⟨vs, ?_,rfl⟩;have:=zro ((List.range (zaa w t c).length).map Vs) vs [[]] [] (by simp[h5]) (by simp) (fun j hj=>by
     rw[xac,List.length_range] at hj;rw[zkN Vs hj];exact(h6 j hj).1)
    simpa [zb6] using this
   ·rw[zcT rfl,xad];refine⟨decide_eq_true rfl, ?_⟩;show hitL l vs=true
    rw[zjt (by omega)];exact fun j hj=>(h6 j (by omega)).2
 ·obtain⟨m,hm⟩:=zmb (P:=fun j m=>∀v∈Vs j,zaJ w m (nth (zaa w t c) j) v=true) (fun j m n hmn h v hv=>zhI hmn (h v hv)) (zaa w t c).length (fun j hj=>(hg j hj).fits);refine⟨m+1,fun v hv=>?_⟩;unfold zhl at hv;obtain⟨l,hl,rfl⟩:=List.mem_map.1 hv;obtain⟨q,hq,vs,e,h1,h2⟩:=zrn _ _ l hl;rw[List.mem_singleton] at hq;rw[hq,List.nil_append] at e;subst e;unfold zaJ;rw[if_neg hdt,if_pos ⟨rfl,zlf hc⟩];rw[xac,List.length_range] at h1;refine zcp (by show(zaa w t c).length=l.length;omega) (fun j hj=>?_);have hj:j<(zaa w t c).length:=hj;have:=h2 j (by simpa using hj);rw[zkN Vs hj] at this;exact hm j hj _ this
section
variable {w:List Data} (hs:Spa w){t:Ty} (ht:InS (w.length*4) t)
include hs ht
theorem zpF (hdt:t.data≠ -1){Ss:Int->Nat->Pat->Prop}{Vs:Int->Nat->List Val} (hg:∀c∈zah w t,∀j,j<(zaa w t c).length->Grid w (nth (zaa w t c) j) (Ss c j) (Vs c j)) (hany:∀c∈zah w t,∀j,Ss c j anyQ):
  Grid w t (fun p=>p.op=1\/∃c∈zah w t,CSat (Ss c) c (zaa w t c).length p) ((zah w t).flatMap fun c=>zhl c (zaa w t c).length (Vs c)):=by
 have hw:∀c∈zah w t,CSat (Ss c) c (zaa w t c).length (zbP w t c):=fun c hc=>by
  refine⟨_,rfl,by simp,fun j hj=>?_⟩;have e:nth ((zaa w t c).map fun _=>anyQ) j=anyQ:=by rw[zaM (by simpa using hj)];simp
  rw[e];exact hany c hc j
 have h4:∀ {c:Int}{k:Nat}{S:Nat->Pat->Prop}{p:Pat},CSat S c k p->p.op=4/\p.ctor=c:=fun h=>by obtain⟨l,rfl,_⟩:=h;exact⟨rfl,rfl⟩
 refine⟨fun n a b z ha hb h=>?_,fun n a b x ha hb h=>?_,fun n p hp h1 h2=>?_, ?_⟩
 ·cases n with
  |zero=>simp[zaH] at h
  |succ n=>
   rcases ha with ha|⟨c,hc,ha⟩
   ·rw[zhQ ha] at h;cases h;exact hb
   ·rcases hb with hb|⟨c',hc',hb⟩
    ·rw[ziZ (by have:=(h4 ha).1;omega) hb] at h;cases h;exact .inr ⟨c,hc,ha⟩
    ·by_cases e:c=c'
     ·subst e;exact .inr ⟨c,hc,zpr (fun j hj=>(hg c hc j hj).meet) ha hb h⟩
     ·rw[zhv (h4 ha).1 (by have:=(h4 hb).1;omega) (by rw[(h4 ha).2,(h4 hb).2];exact e)] at h;cases h
 ·cases n with
  |zero=>simp[zat] at h
  |succ n=>
   rcases hb with hb|⟨c',hc',hb⟩
   ·rw[zft hb] at h;simp at h
   ·have key:∀c∈zah w t,∀a,CSat (Ss c) c (zaa w t c).length a->x∈zb4 (zat w n) w t a b->x.op=1\/∃c∈zah w t,CSat (Ss c) c (zaa w t c).length x:=fun c hc a ha h=>by
     by_cases e:c=c'
     ·subst e;exact .inr ⟨c,hc,zm9 (fun j hj=>(hg c hc j hj).meet) (fun j hj=>(hg c hc j hj).minus) ha hb h⟩
     ·unfold zb4 at h;rw[if_neg (by rw[(h4 ha).2,(h4 hb).2];exact e),List.mem_singleton] at h;rw[h];exact .inr ⟨c,hc,ha⟩
    rcases ha with ha|⟨c,hc,ha⟩
    ·rw[zge (h4 hb).1 ha] at h;obtain⟨c,hc,h⟩:=List.mem_flatMap.1 h;exact key c hc _ (hw c hc) h
    ·rw[zc3 (h4 hb).1 (h4 ha).1] at h;exact key c hc a ha h
 ·rcases hp with hp|⟨c,hc,hp⟩
  ·cases n with
   |zero=>simp[zaf] at h1
   |succ n=>
    rw[zfo hp] at h2;have h0:=of_decide_eq_false h2;obtain⟨m,v,hv⟩:=zs5 hs.dp ht (by omega);cases m with
    |zero=>simp[zaJ] at hv
    |succ m=>
     obtain⟨f1,f2,f3⟩:=zdq hv hdt;have hh:hitP (zbP w t v.ctor) v=true:=by
      rw[zcT rfl];show(decide (v.ctor=v.ctor)&&hitL ((zaa w t v.ctor).map fun _=>anyQ) v.kids)=true
      rw[zmf,decide_eq_true rfl];rfl
     have hwp:zaf w 2 t (zbP w t v.ctor)=true:=zcG f1;obtain⟨v',h5,_⟩:=(zie f1 (fun j hj=>hg v.ctor f1 j hj)).hit 2 _ (hw _ f1) hwp (zkx hs 2 (m+1) ht hwp hv hh);exact⟨v',List.mem_flatMap.2 ⟨_,f1,h5⟩,ze6 hp⟩
  ·obtain⟨v',h5,h6⟩:=(zie hc (fun j hj=>hg c hc j hj)).hit n p hp h1 h2;exact⟨v',List.mem_flatMap.2 ⟨c,hc,h5⟩,h6⟩
 ·obtain⟨m,hm⟩:=zmb (P:=fun i m=>∀v∈zhl (nth (zah w t) i) (zaa w t (nth (zah w t) i)).length (Vs (nth (zah w t) i)),zaJ w m t v=true) (fun j m n hmn h v hv=>zhI hmn (h v hv)) (zah w t).length
   (fun i hi=>(zie (zac hi) (fun j hj=>hg _ (zac hi) j hj)).fits)
  refine⟨m,fun v hv=>?_⟩;obtain⟨c,hc,hv⟩:=List.mem_flatMap.1 hv;obtain⟨i,hi,rfl⟩:=List.getElem_of_mem hc;rw[<-zaM hi] at hv;exact hm i hi v hv
end
theorem zu5:∀(V:List Val) (l:List Pat),(∀x∈l,∃v∈V,hitP x v=true)->(∀v∈V,l.countP (fun x=>hitP x v)<=1)->l.length<=V.length
 | [],l,h,_=>by
  cases l with
  |nil=>simp
  |cons x r=>obtain⟨v,hv,_⟩:=h x (by simp);simp at hv
 |v::V,l,h,hc=>by
  have h1:=hc v (by simp);have h2:=zu5 V (l.filter fun x=> !hitP x v) (fun x hx=>by
   obtain⟨h3,h4⟩:=List.mem_filter.1 hx;obtain⟨u,hu,h5⟩:=h x h3;rcases List.mem_cons.1 hu with rfl|hu
   ·rw[h5] at h4;simp at h4
   ·exact⟨u,hu,h5⟩) (fun u hu=>Nat.le_trans (List.Sublist.countP_le List.filter_sublist) (hc u (by simp[hu])))
  have h3:l.length=l.countP (fun x=>hitP x v)+(l.filter fun x=> !hitP x v).length:=by
   rw[<-List.countP_eq_length_filter];have:=List.length_eq_countP_add_countP (fun x=>hitP x v) (l:=l);rw[this];congr 1
   refine List.countP_congr (fun x _=>?_);simp
  simp only[xab];omega
def sepQ (w:List Data) (t:Ty):List Pat->List Pat->List Pat->Option (List Pat)
 |_,[],out=>some out
 |front,p::r,out=>match zaz w t [p] front with
  |none=>none
  |some m=>sepQ w t (front++[p]) r (out++m)
theorem ztw {w:List Data}{t:Ty}{S:Pat->Prop} (hmin:∀a b x,S a->S b->x∈zat w 10 t a b->S x):∀(away l r:List Pat),(∀b∈away,zaf w 10 t b=true/\S b)->(∀a∈l,zaf w 11 t a=true/\S a/\zbl w t a=true)->subL w t l away=some r->∀x∈r,zaf w 11 t x=true/\S x/\zbl w t x=true
 | [],l,r,_,hl,h=>by rw[subL] at h;cases h;exact hl
 |b::away,l,r,hb,hl,h=>by
  rw[subL] at h;split at h
  ·refine ztw hmin away _ r (fun x hx=>hb x (by simp[hx])) (fun x hx=>?_) h;have h1:=zeQ (fun a ha=>(hl a ha).1) (hb b (by simp)).1 x hx;unfold zbY at hx;obtain⟨h2,h3⟩:=List.mem_filter.1 hx;obtain⟨a,ha,h4⟩:=List.mem_flatMap.1 h2;exact⟨h1,hmin a b x (hl a ha).2.1 (hb b (by simp)).2 h4,h3⟩
  ·cases h
theorem zl2 {w:List Data}{t:Ty}{S:Pat->Prop} (hmin:∀a b x,S a->S b->x∈zat w 10 t a b->S x){away l r:List Pat} (hb:∀b∈away,zaf w 10 t b=true/\S b) (hl:∀a∈l,zaf w 11 t a=true/\S a) (h:zaz w t l away=some r):∀x∈r,zaf w 11 t x=true/\S x/\zbl w t x=true:=by
 unfold zaz at h;exact ztw hmin away _ r hb (fun a ha=>⟨(hl a (List.mem_filter.1 ha).1).1,(hl a (List.mem_filter.1 ha).1).2,(List.mem_filter.1 ha).2⟩) h
theorem ztr {w:List Data}{t:Ty}{S:Pat->Prop} (hmin:∀a b x,S a->S b->x∈zat w 10 t a b->S x):∀(r front out:List Pat){res:List Pat},(∀b∈front,zaf w 10 t b=true/\S b)->(∀b∈r,zaf w 10 t b=true/\S b)->(∀x∈out,zaf w 11 t x=true/\S x/\zbl w t x=true)->
  sepQ w t front r out=some res->∀x∈res,zaf w 11 t x=true/\S x/\zbl w t x=true
 | [],front,out,res,_,_,ho,h=>by rw[sepQ] at h;cases h;exact ho
 |p::r,front,out,res,hf,hr,ho,h=>by
  rw[sepQ] at h;cases hw:zaz w t [p] front with
  |none=>rw[hw] at h;cases h
  |some m=>
   rw[hw] at h;have hp:=hr p (by simp);have h1:=zl2 hmin hf (fun a ha=>by rw[List.mem_singleton.1 ha];exact⟨zdl (by omega) hp.1,hp.2⟩) hw;refine ztr hmin r (front++[p]) (out++m) (fun b hb=>?_) (fun b hb=>hr b (by simp[hb])) (fun x hx=>?_) h
   ·rcases List.mem_append.1 hb with hb|hb
    ·exact hf b hb
    ·rw[List.mem_singleton.1 hb];exact hp
   ·rcases List.mem_append.1 hx with hx|hx
    ·exact ho x hx
    ·exact h1 x hx
theorem zx1 (n:Nat):∀f p r:Bool,(n+if f=true then 0 else one p)+(if (f||p)=true then 0 else one r)=n+if f=true then 0 else one (p||r):=by
 intro f p r;cases f<;>cases p<;>cases r<;>simp[one]
theorem zzs:∀b:Bool,one b<=1:=by decide
section
variable {w:List Data} (hs:Spa w){t:Ty} (ht:InS (w.length*4) t)
include hs ht
theorem zoX {v:Val}{k:Nat} (hv:zaJ w k t v=true):∀(r front out:List Pat){res:List Pat},(∀b∈front,zaf w 10 t b=true)->(∀b∈r,zaf w 10 t b=true)->sepQ w t front r out=some res->
  res.countP (fun x=>hitP x v)=out.countP (fun x=>hitP x v)+if front.any (fun x=>hitP x v)=true then 0 else one (r.any fun x=>hitP x v)
 | [],front,out,res,_,_,h=>by
  rw[sepQ] at h;cases h;simp[one]
 |p::r,front,out,res,hf,hr,h=>by
  rw[sepQ] at h;cases hw:zaz w t [p] front with
  |none=>rw[hw] at h;cases h
  |some m=>
   rw[hw] at h;have hp:=hr p (by simp);have h1:=zl1 hs ht hv hf (fun a ha=>by rw[List.mem_singleton.1 ha];exact zdl (by omega) hp) hw;have h2:=zoX hv r (front++[p]) (out++m) (fun b hb=>by
    rcases List.mem_append.1 hb with hb|hb
    ·exact hf b hb
    ·rw[List.mem_singleton.1 hb];exact hp) (fun b hb=>hr b (by simp[hb])) h
   rw[h2,List.countP_append,h1,List.any_append,List.any_cons,List.countP_singleton];simp only[List.any_cons,List.any_nil,Bool.or_false];exact zx1 _ _ _ _
theorem ztq {S:Pat->Prop}{V:List Val} (hg:Grid w t S V){l res:List Pat} (hl:∀b∈l,zaf w 10 t b=true/\S b) (h:sepQ w t [] l []=some res):res.length<=V.length:=by
 obtain⟨m,hm⟩:=hg.fits;have h1:=ztr (hg.minus 10) l [] [] (by simp) hl (by simp) h;refine zu5 V res (fun x hx=>?_) (fun v hv=>?_)
 ·obtain⟨h2,h3,h4⟩:=h1 x hx;exact hg.hit 11 x h3 h2 (by unfold zbl at h4;simpa using h4)
 ·have:=zoX hs ht (hm v hv) l [] [] (by simp) (fun b hb=>(hl b hb).1) h;rw[this];simp only[List.countP_nil,List.any_nil,Nat.zero_add];exact zzs _
end
abbrev zib (o:List Pat):List D:=[.sl (Pat.cs o)]
abbrev zjl (ls:List (List Pat)):D:= .sl (ls.map zib)
theorem zua {N:Nat} (acc:List (List Pat)) (l:List Pat):(za9 (acc.take N) l).take N=(za9 acc l).take N:=by
 by_cases h:acc.length<=N
 ·rw[List.take_of_length_le h]
 have e0:∀a:List (List Pat),za9 a []=[]:=fun a=>by unfold za9;simp
 cases l with
 |nil=>rw[e0,e0]
 |cons c r=>
  have e:za9 acc (c::r)=za9 (acc.take N) (c::r)++za9 (acc.drop N) (c::r):=by
   unfold za9;rw[<-List.flatMap_append,List.take_append_drop]
  rw[e,zeF];rw[zgO,List.length_take,Nat.min_eq_left (by omega),xab];exact Nat.le_mul_of_pos_right _ (by omega)
theorem zub {N:Nat} (acc:List (List Pat)) (l:List Pat):(za9 acc (l.take N)).take N=(za9 acc l).take N:=by
 by_cases h:l.length<=N
 ·rw[List.take_of_length_le h]
 cases acc with
 |nil=>rfl
 |cons q r=>
  have e:∀l:List Pat,za9 (q::r) l=l.map (fun c=>q++[c])++za9 r l:=fun l=>by unfold za9;rw[List.flatMap_cons]
  rw[e,e,zeF (by rw[xac,List.length_take];omega),zeF (by rw[xac];omega),List.map_take,List.take_take,Nat.min_self]
def tupQ (m:Nat) (ls:List (List Pat)):List (List Pat):=ls.foldl (fun acc l=>(za9 acc l).take (m+1)) [[]]
theorem zlb (m:Nat) (ls:List (List Pat)) (l:List Pat):tupQ m (ls++[l])=(za9 (tupQ m ls) l).take (m+1):=by
 unfold tupQ;rw[List.foldl_append];rfl
theorem zsk (m:Nat):∀(ls:List (List Pat)) (acc:List (List Pat)),(ls.map (List.take (m+1))).foldl (fun acc l=>(za9 acc l).take (m+1)) (acc.take (m+1))=(ls.foldl za9 acc).take (m+1)
 | [],acc=>rfl
 |l::r,acc=>by
  rw[xae,List.foldl_cons,List.foldl_cons,zub,zua];exact zsk m r (za9 acc l)
theorem zyc (m:Nat) (ls:List (List Pat)):tupQ m (ls.map (List.take (m+1)))=(zei ls).take (m+1):=by
 have h:=zsk m ls [[]];have e:([[]]:List (List Pat)).take (m+1)=[[]]:=by simp
 rw[e] at h;exact h
theorem zsi (m:Nat) (ls:List (List Pat)):(tupQ m ls).length<=m+1:=by
 have key:∀(ls acc:List (List Pat)),acc.length<=m+1->(ls.foldl (fun acc l=>(za9 acc l).take (m+1)) acc).length<=m+1:=by
  intro ls;induction ls with
  |nil=>intro acc h;exact h
  |cons l r ih=>intro acc h;exact ih _ (by rw[List.length_take];omega)
 exact key ls [[]] (by simp)
theorem zsj (m:Nat){ls:List (List Pat)}{o:List Pat} (h:o∈tupQ m ls):o.length=ls.length:=by
 have key:∀(ls acc:List (List Pat)) (n:Nat),(∀o∈acc,o.length=n)->∀o∈ls.foldl (fun acc l=>(za9 acc l).take (m+1)) acc,o.length=n+ls.length:=by
  intro ls;induction ls with
  |nil=>intro acc n h o ho;exact h o ho
  |cons l r ih=>
   intro acc n h o ho;have:=ih _ (n+1) (fun o' ho'=>by
    have ho':=List.mem_of_mem_take ho';unfold za9 at ho';simp only[List.mem_flatMap,List.mem_map] at ho';obtain⟨p,hp,q,_,rfl⟩:=ho';simp[h p hp]) o ho
   simp only[xab];omega
 have:=key ls [[]] 0 (by simp) o h;simpa using this
def zlv (l:List Pat) (o:List Pat):List (List Pat):=l.map fun y=>o++[y]
theorem zpe (acc:List (List Pat)) (l:List Pat):za9 acc l=acc.flatMap (zlv l):=rfl
theorem zsg {X:List (List Pat)}{l:List Pat}{o:List Pat}{j m:Nat} (hc:¬j<l.length\/¬((X++(l.take j).map fun y=>o++[y]).take (m+1)).length<=m):
  (X++(l.take j).map fun y=>o++[y]).take (m+1)=(X++zlv l o).take (m+1):=zya hc
theorem zwN {α:Type}{N:Nat} (a b:List α):(a.take N++b.take N).take N=(a++b).take N:=by
 by_cases h:a.length<=N
 ·rw[List.take_of_length_le h,List.take_append,List.take_append,List.take_take,Nat.min_eq_left (by omega)]
 ·rw[zeF (by rw[List.length_take];omega),zeF (by omega),List.take_take,Nat.min_self]
def za6 (p:Pat):List Pat:=(zau p).take 401
theorem zwI {p:Pat} (h:p.op=5) (hk:p.kids.length=2):za6 p=(za6 (nth p.kids 0)++za6 (nth p.kids 1)).take 401:=by
 unfold za6;rw[zdH h hk,zwN]
theorem zwJ {p:Pat} (h:p.op≠5):za6 p=(tupQ 400 (p.kids.map za6)).map fun l=> .mk p.op p.ctor p.n p.m p.var l:=by
 unfold za6;rw[zdc h,<-List.map_take];congr 1
 have:=zyc 400 (p.kids.map zau);rw[List.map_map] at this;exact this.symm
theorem zhj (p:Pat):(za6 p).length<=401:=by unfold za6;rw[List.length_take];omega
theorem zdh:∀(n:Nat){p:Pat},p.size<=n->p.ok->FnD Tryz.prog 58 [.agg [.d (.i p.op),.d (.i p.ctor),.d (.i p.n),.d (.i p.m),.d (.i p.var),.d (zae p.kids)]] [] (.agg [.d (.i (zav p).op),.d (.i (zav p).ctor),.d (.i (zav p).n),.d (.i (zav p).m),.d (.i (zav p).var),.d (zae (zav p).kids)]) []
 |0,p,h,_=>by rw[Pat.size_eq] at h;omega
 |n+1,p,h,hok=>by
  rw[Pat.size_eq] at h;rw[Pat.ok_iff] at hok;have hok1:=hok.1;by_cases h2:p.op=2
  ·rw[zsM h2];refine bd Tryz.f58 42 [] [] fun w0 F0 own kept hk=>?_;refine bx 3001 ?_;refine ab 3002 tz28 ?_;refine tv ?_;refine sq ?_ ?_<;>intro h1 h1p h1s<;>(try simp only[Q] at h1p);refine bu [0] [_] st28 ?_;refine so ty28 ?_;refine tv ?_;refine rn0 (.cons (.cellA ty28 rfl rfl rfl) .nil) (.agg (.cons (.eqd ?_) (.cons (.eqd ?_) (.cons (.eqd ?_) (.cons (.eqd ?_) (.cons (.eqd ?_) (.cons (.nild ?_) .nil)))))));rotate_left 6;exfalso;omega;all_goals (rfl)
  by_cases h6:p.op=6/\0<p.kids.length
  ·rw[zsN h6.1 h6.2];refine bd Tryz.f58 42 [] [] fun w0 F0 own kept hk=>?_;refine bx 3001 ?_;refine ab 3002 tz28 ?_;refine tv ?_;refine sq ?_ ?_<;>intro h1 h1p h1s<;>(try simp only[Q,Pat.cs_len] at h1p);exfalso;omega;refine sq ?_ ?_<;>intro h2 h2p h2s<;>(try simp only[Q,Pat.cs_len] at h2p);refine sq ?_ ?_<;>intro h3 h3p h3s<;>(try simp only[Q,Pat.cs_len] at h3p);refine xaV (i:=0) sl26 .none rfl rfl rfl rfl (zaE h6.2) rfl ?_;refine ev ?_;refine wc zqz (zdh n (p:=nth p.kids 0) (by have:=Pats.size_mem (zac h6.2);omega) (Pats.ok_mem hok.2 _ (zac h6.2))) rfl rfl ?_;refine so ty28 ?_;refine tv ?_;refine rn0 (.cons (.cellA ty28 rfl rfl rfl) .nil) (.agg (.cons (.eqd ?_) (.cons (.eqd ?_) (.cons (.eqd ?_) (.cons (.eqd ?_) (.cons (.eqd ?_) (.cons (.eqd ?_) .nil)))))));rotate_left 6;exfalso;omega;exfalso;omega;all_goals (rfl)
  ·rw[zsO h2 h6];refine bd Tryz.f58 42 [] [] fun w0 F0 own kept hk=>?_;refine bx 3001 ?_;refine ab 3002 tz28 ?_;refine tv ?_;refine sq ?_ ?_<;>intro h1 h1p h1s<;>(try simp only[Q,Pat.cs_len] at h1p);exfalso;omega;refine sq ?_ ?_<;>intro h2 h2p h2s<;>(try simp only[Q,Pat.cs_len] at h2p);refine sq ?_ ?_<;>intro h3 h3p h3s<;>(try simp only[Q,Pat.cs_len] at h3p);exfalso;apply h6;exact⟨by omega,by omega⟩;refine ab 3003 tz28 ?_;refine so ty28 ?_;refine tv ?_;refine so ty26 ?_;refine tv ?_;refine xan 3003 5 7 6 rfl rfl rfl rfl ?_;refine xak (ι:=List (Pat)×List (Pat)) hk (fun x=>[(4,.d (.i (x.1.length:Int)))]) [23,24,25,26,27,28,29,30,31,32,33,34,35,36,37,38,39,40] (fun x=>[(3003,some (.box [.d (.i p.op),.d (.i p.ctor),.d (.i p.n),.d (.i p.m),.d (.i p.var),.gl 7 ((x.1.map zav).map Pat.cc)])),(7,some (.tok ((x.1.map zav).map Pat.cc).length 6))]) (fun x=>x.1++x.2=p.kids) (fun x=>x.2.length) ([],p.kids) (by simp) ⟨⟨_,rfl,xaq ?_⟩,trivial⟩ ⟨?_,⟨zab ?_,trivial⟩⟩ (fun x=>rfl) (fun x hg1=>?_);focus ((simp;done))
   focus (first|rfl|(simp[getH];done))
   focus ((simp;done))
   obtain⟨pre,rest⟩:=x;dsimp only at hg1 ⊢;refine evc [] [] ?_;refine sq ?_ ?_<;>intro h4 h4p h4s<;>(try simp only[Q,Pat.cs_len] at h4p);rcases rest with _|⟨y,rest⟩
   ·exfalso;simp_all
   refine xaV sl26 .none rfl rfl rfl rfl (Pat.cs_at' hg1) rfl ?_;refine evd [] [] ?_;refine wc zqz (zdh n (p:=y) (by have:=Pats.size_mem (l:=p.kids) (v:=y) (by rw[<-hg1];simp);omega) (Pats.ok_mem hok.2 y (by rw[<-hg1];simp))) rfl rfl ?_;refine si [0] [_] sl26 tz28 ?_;refine ap sl26 zz28 rfl rfl rfl (by intro x hx;first|(simp at hx;subst hx;rfl)|exact zhz _ x hx) (by have:=congrArg List.length hg1;simp at this;simp;omega) ?_;refine evd [] [] ?_;refine so ty26 ?_;refine dr ?_;refine ar ?_;refine xah ((pre++[y],rest)) ⟨(by have hz:=hg1;rw[<-hz];simp),(by simp),sx ⟨⟨_,rfl,xaq ?_⟩,trivial⟩ ⟨?_,⟨zab ?_,trivial⟩⟩⟩;focus ((simp;done))
   focus (first|rfl|(simp[getH];done))
   focus ((simp;done))
   have hrest:rest=[]:=by
    rcases rest with _|⟨a,b⟩
    ·rfl
    ·exfalso;have hz:=congrArg List.length (hg1);simp only[xaa,xab,xac] at hz;omega
   subst hrest;refine so ty28 ?_;refine tv ?_;refine rn0 (.cons (.cellA ty28 rfl rfl rfl) .nil) (.agg (.cons (.eqd ?_) (.cons (.eqd ?_) (.cons (.eqd ?_) (.cons (.eqd ?_) (.cons (.eqd ?_) (.cons (.gld ?_) .nil)))))));rotate_left 6;refine ab 3003 tz28 ?_;refine so ty28 ?_;refine tv ?_;refine so ty26 ?_;refine tv ?_;refine xan 3003 5 7 6 rfl rfl rfl rfl ?_;refine xak (ι:=List (Pat)×List (Pat)) hk (fun x=>[(4,.d (.i (x.1.length:Int)))]) [23,24,25,26,27,28,29,30,31,32,33,34,35,36,37,38,39,40] (fun x=>[(3003,some (.box [.d (.i p.op),.d (.i p.ctor),.d (.i p.n),.d (.i p.m),.d (.i p.var),.gl 7 ((x.1.map zav).map Pat.cc)])),(7,some (.tok ((x.1.map zav).map Pat.cc).length 6))]) (fun x=>x.1++x.2=p.kids) (fun x=>x.2.length) ([],p.kids) (by simp) ⟨⟨_,rfl,xaq ?_⟩,trivial⟩ ⟨?_,⟨zab ?_,trivial⟩⟩ (fun x=>rfl) (fun x hg1=>?_);focus ((simp;done))
   focus (first|rfl|(simp[getH];done))
   focus ((simp;done))
   obtain⟨pre,rest⟩:=x;dsimp only at hg1 ⊢;refine evc [] [] ?_;refine sq ?_ ?_<;>intro h5 h5p h5s<;>(try simp only[Q,Pat.cs_len] at h5p);rcases rest with _|⟨y,rest⟩
   ·exfalso;simp_all
   refine xaV sl26 .none rfl rfl rfl rfl (Pat.cs_at' hg1) rfl ?_;refine evd [] [] ?_;refine wc zqz (zdh n (p:=y) (by have:=Pats.size_mem (l:=p.kids) (v:=y) (by rw[<-hg1];simp);omega) (Pats.ok_mem hok.2 y (by rw[<-hg1];simp))) rfl rfl ?_;refine si [0] [_] sl26 tz28 ?_;refine ap sl26 zz28 rfl rfl rfl (by intro x hx;first|(simp at hx;subst hx;rfl)|exact zhz _ x hx) (by have:=congrArg List.length hg1;simp at this;simp;omega) ?_;refine evd [] [] ?_;refine so ty26 ?_;refine dr ?_;refine ar ?_;refine xah ((pre++[y],rest)) ⟨(by have hz:=hg1;rw[<-hz];simp),(by simp),sx ⟨⟨_,rfl,xaq ?_⟩,trivial⟩ ⟨?_,⟨zab ?_,trivial⟩⟩⟩;focus ((simp;done))
   focus (first|rfl|(simp[getH];done))
   focus ((simp;done))
   have hrest:rest=[]:=by
    rcases rest with _|⟨a,b⟩
    ·rfl
    ·exfalso;have hz:=congrArg List.length (hg1);simp only[xaa,xab,xac] at hz;omega
   subst hrest;refine so ty28 ?_;refine tv ?_;refine rn0 (.cons (.cellA ty28 rfl rfl rfl) .nil) (.agg (.cons (.eqd ?_) (.cons (.eqd ?_) (.cons (.eqd ?_) (.cons (.eqd ?_) (.cons (.eqd ?_) (.cons (.gld ?_) .nil)))))));rotate_left 6;all_goals (first|rfl|(rw[List.append_nil] at hg1;rw[<-hg1,xat];done)|(rw[List.append_nil] at hg1;subst hg1;rw[<-xat];all_goals rfl))
theorem zmC {ls:List (List Pat)} (hl:ls.length<=1000000000000) (hls:∀l∈ls,l.length<=1000000000000):FnD Tryz.prog 187 [.d (zjl ls)] [] (.d (zjl (tupQ 400 ls))) []:=by
 refine bd Tryz.f187 62 [] [] fun w0 F0 own kept hk=>?_;refine xbh sl26 .none rfl ?_;refine si [0] [_] zej tz26 ?_;refine ev ?_;refine xak (ι:=List (List Pat)×List (List Pat)) hk (fun x=>[(4,.d (.i (x.1.length:Int))),(3,.d (.sl ((tupQ 400 x.1).map zib)))]) [5,6,7,10,11,12,13,14,15,16,17,18,19,20,21,22,23,24,25,26,27,28,29,30,31,32,33,34,35,36,37,38,39,40,41,42,43,44,45,46,47,48,49,50,51,52,53,54,55,56,57,58,59,60] (fun x=>[]) (fun x=>x.1++x.2=ls) (fun x=>x.2.length) ([],ls) (by simp) ⟨⟨_,rfl,xaq ?_⟩,⟨⟨_,rfl, ?_⟩,trivial⟩⟩ trivial (fun x=>rfl) (fun x hg1=>?_);focus (first|rfl|(simp;done))
 focus (first|exact LeA.refl _|((first|refine LeA.gld ?_|refine LeA.nild ?_);first|rfl|(simp;done)|(rw[zlb,zpe,zoI (by omega)])))
 obtain⟨pre,rest⟩:=x;dsimp only at hg1 ⊢;refine evc [] [] ?_;refine sq ?_ ?_<;>intro h1 h1p h1s<;>(try simp only[Q,Pat.cs_len,Int.ofNat_lt,Int.ofNat_le] at h1p);rcases rest with _|⟨l,rest⟩
 ·exfalso;simp_all
 have hll:=hls l (by rw[<-hg1];simp);have htl:=zsi 400 pre;refine xbi 3 zej .none rfl rfl ?_;refine ev ?_;refine xak (ι:=Nat) hk (fun k=>[(6,.d (.i (k:Int))),(5,.gl 3 (((((tupQ 400 pre).take k).flatMap (zlv l)).take (400+1)).map zib))]) [7,17,18,19,20,21,22,23,24,25,26,27,28,29,30,31,32,33,34,35,36,37,38,39,40,41,42,43,44,45,46,47,48,49,50,51,52,53,54,55,56,57,58,59] (fun k=>[(3,some (.tok ((((((tupQ 400 pre).take k).flatMap (zlv l)).take (400+1)).map zib)).length 1))]) (fun k=>k<=(tupQ 400 pre).length) (fun k=>(tupQ 400 pre).length-k) 0 (by simp) ⟨⟨_,rfl,xaq ?_⟩,⟨⟨_,rfl,LeA.glg ?_⟩,trivial⟩⟩ ⟨zab ?_,trivial⟩ (fun x=>rfl) (fun k hg2=>?_);iterate 3 focus (first|rfl|(simp;done))
 refine evc [] [] ?_;refine sq ?_ ?_<;>intro h2 h2p h2s<;>(try simp only[Q,Pat.cs_len,Int.ofNat_lt,Int.ofNat_le] at h2p);refine sq ?_ ?_<;>intro h3 h3p h3s<;>(try simp only[Q,Pat.cs_len,Int.ofNat_lt,Int.ofNat_le] at h3p);refine xak (ι:=Nat) hk (fun j=>[(7,.d (.i (j:Int))),(5,.gl 3 (((((tupQ 400 pre).take k).flatMap (zlv l)++(l.take j).map (fun y=>nth (tupQ 400 pre) k++[y])).take (400+1)).map zib))]) [28,29,30,31,32,33,34,35,36,37,38,39,40,41,42,43,44,45,46,47,48,49,50,51,52,53,54,55,56,57,58,59] (fun j=>[(3,some (.tok ((((((tupQ 400 pre).take k).flatMap (zlv l)++(l.take j).map (fun y=>nth (tupQ 400 pre) k++[y])).take (400+1)).map zib)).length 1))]) (fun j=>j<=l.length) (fun j=>l.length-j) 0 (by simp) ⟨⟨_,rfl,xaq ?_⟩,⟨⟨_,rfl,LeA.glg ?_⟩,trivial⟩⟩ ⟨zab ?_,trivial⟩ (fun x=>rfl) (fun j hg3=>?_);iterate 3 focus (first|rfl|(simp;done))
 have hol:=zsj 400 (zac (l:=tupQ 400 pre) (i:=k) (by omega));refine evc [] [] ?_;refine xaV zej .none rfl rfl rfl rfl (by first|exact zaI hg1|exact zar (by omega)) rfl ?_;refine ev ?_;refine sq ?_ ?_<;>intro h4 h4p h4s<;>(try simp only[Q,Pat.cs_len,Int.ofNat_lt,Int.ofNat_le] at h4p);refine sq ?_ ?_<;>intro h5 h5p h5s<;>(try simp only[Q,Pat.cs_len,Int.ofNat_lt,Int.ofNat_le] at h5p);refine xbi 5 sl26 .none rfl rfl ?_;refine evd [] [] ?_;refine xaV zej .none rfl rfl rfl rfl (by first|exact zaI hg1|exact zar (by omega)) rfl ?_;refine evd [] [] ?_;refine ap sl26 zz28 rfl rfl rfl (by intro z hz;first|(rw[xat] at hz;obtain⟨_,_,rfl⟩:=List.mem_map.1 hz;rfl)|(simp at hz;rw[hz];rfl)) (by first|(simp only[xac,xaa,xab,xai,Pat.cs_len] at *;omega)) ?_;refine evd [] [] ?_;refine xaV zej .none rfl rfl rfl rfl (by first|exact zaI hg1|exact zar (by omega)) rfl ?_;refine evd [] [] ?_;refine xaV sl26 .none rfl rfl rfl rfl (zaE (by omega)) rfl ?_;refine evd [] [] ?_;refine si [0] [_] sl26 tz28 ?_;refine ap sl26 zz28 rfl rfl rfl (by intro z hz;first|(rw[xat] at hz;obtain⟨_,_,rfl⟩:=List.mem_map.1 hz;rfl)|(simp at hz;rw[hz];rfl)) (by first|(simp only[xac,xaa,xab,xai,Pat.cs_len] at *;omega)) ?_;refine si [0] [_] zej tz26 ?_;refine ap zej zz26 rfl rfl rfl (by intro z hz;first|(rw[xat] at hz;obtain⟨_,_,rfl⟩:=List.mem_map.1 hz;rfl)|(simp at hz;rw[hz];rfl)) (by first|(simp only[xac,xaa,xab,xai,Pat.cs_len] at *;omega)) ?_;refine evd [] [] ?_;refine dr ?_;refine ar ?_;refine xah (j+1) ⟨?_, ?_,sx ⟨⟨_,rfl,xaq ?_⟩,⟨⟨_,rfl,LeA.glg ?_⟩,trivial⟩⟩ ⟨zab ?_,trivial⟩⟩;iterate 2 focus (first|omega|(simp_all;done))
 iterate 3 focus (first|rfl|(simp;done)|(rw[zyb (by omega) (by omega),xaf];simp[xat];done))
 refine ar ?_;refine xah (k+1) ⟨?_, ?_,sx ⟨⟨_,rfl,xaq ?_⟩,⟨⟨_,rfl,LeA.glg ?_⟩,trivial⟩⟩ ⟨zab ?_,trivial⟩⟩;iterate 2 focus (first|omega|(simp_all;done))
 iterate 3 focus (first|rfl|(simp;done)|(rw[zs8 (by omega),zsg (by omega)]))
 refine sqF ?_;refine ar ?_;refine xah (k+1) ⟨?_, ?_,sx ⟨⟨_,rfl,xaq ?_⟩,⟨⟨_,rfl,LeA.glg ?_⟩,trivial⟩⟩ ⟨zab ?_,trivial⟩⟩;iterate 2 focus (first|omega|(simp_all;done))
 iterate 3 focus (first|rfl|(simp;done)|(rw[zs8 (by omega),zsg (by omega)]))
 refine ar ?_;refine xah ((pre++[l],rest)) ⟨(by have hz:=hg1;rw[<-hz];simp),(by simp),sx ⟨⟨_,rfl,xaq ?_⟩,⟨⟨_,rfl, ?_⟩,trivial⟩⟩ trivial⟩;focus (first|rfl|(simp;done))
 focus (first|exact LeA.refl _|((first|refine LeA.gld ?_|refine LeA.nild ?_);first|rfl|(simp;done)|(rw[zlb,zpe,zoI (by omega)])))
 refine sqF ?_;refine ar ?_;refine xah ((pre++[l],rest)) ⟨(by have hz:=hg1;rw[<-hz];simp),(by simp),sx ⟨⟨_,rfl,xaq ?_⟩,⟨⟨_,rfl, ?_⟩,trivial⟩⟩ trivial⟩;focus (first|rfl|(simp;done))
 focus (first|exact LeA.refl _|((first|refine LeA.gld ?_|refine LeA.nild ?_);first|rfl|(simp;done)|(rw[zlb,zpe,zoI (by omega)])))
 have hrest:rest=[]:=by
  rcases rest with _|⟨a,b⟩
  ·rfl
  ·exfalso;have hz:=congrArg List.length (hg1);simp only[xaa,xab,xac] at hz;omega
 subst hrest;refine rq ?_;rotate_left;all_goals ((rw[List.append_nil] at hg1);subst hg1;rfl)
theorem zem:∀(n:Nat){p:Pat},binP n p=true->p.ok->FnD Tryz.prog 142 [.agg [.d (.i p.op),.d (.i p.ctor),.d (.i p.n),.d (.i p.m),.d (.i p.var),.d (zae p.kids)]] [] (.gv 9 (Pat.cs (za6 p))) [(9,some (.tok (Pat.cs (za6 p)).length 6))]
 |0,p,h,_=>by simp[binP] at h
 |n+1,p,h,hok=>by
  have hok':=(Pat.ok_iff p).1 hok;have hok1:=hok'.1;by_cases h5:p.op=5
  ·have hl:=zli h h5;have e5:=zwI h5 hl;have l0:=zhj (nth p.kids 0);have l1:=zhj (nth p.kids 1);have c0:=zem n (zea h (i:=0) (by omega)) (Pats.ok_mem hok'.2 _ (zac (by omega)));have c1:=FnD.gvD (zem n (zea h (i:=1) (by omega)) (Pats.ok_mem hok'.2 _ (zac (by omega))));rw[e5];generalize za6 (nth p.kids 0)=A at *;generalize za6 (nth p.kids 1)=C at *;by_cases hlen:(A++C).length<=401
   ·rw[List.take_of_length_le hlen];rw[xaa] at hlen;refine bd Tryz.f142 67 [25] [] fun w0 F0 own kept hk=>?_;refine bx 3001 ?_;refine evs [25] [] ?_;refine sq ?_ ?_<;>intro h1 h1p h1s<;>(try simp only[Q,Pat.cs_len,xaa] at h1p);refine xaV (i:=0) sl26 .none rfl rfl rfl rfl (zaE (by omega)) rfl ?_;refine evd [25] [] ?_;refine Walk.call (cr:=[9]) ziO (c0) rfl .none rfl rfl (LeL.refl _) trivial rfl rfl rfl ?_;refine evd [25] [] ?_;refine xaV (i:=1) sl26 .none rfl rfl rfl rfl (zaE (by omega)) rfl ?_;refine evd [25] [] ?_;refine wc ziO (c1) rfl rfl ?_;refine xaD sl26 zz28 .none rfl rfl rfl rfl (zdr rfl (by(simp;done))) (by intro x hx;exact zbH _ x hx) (by simp[Pat.cs_len];omega) (by simp[Pat.cs_len];omega) ?_;refine evd [25] [] ?_;refine dr ?_;refine Walk.lenV sl26 .none rfl rfl ?_;refine evs [25] [] ?_;refine sq ?_ ?_<;>intro h2 h2p h2s<;>(try simp only[Q,Pat.cs_len,xaa] at h2p);exfalso;omega;refine rn [(9,some (.tok (Pat.cs (A++C)).length 6))] (r1 rfl) (.gvg ?_) ⟨rfl,rfl⟩ (SubH.get ⟨?_,trivial⟩) (zay rfl);rotate_left 2;exfalso;omega;all_goals (first|((first|rfl|(simp[xat];done));done)|(first|rfl|(simp[xat];rfl)))
   ·have c8:=FnD.gvRen 8 c0;rw[xaa] at hlen;refine bd Tryz.f142 67 [25] [] fun w0 F0 own kept hk=>?_;refine bx 3001 ?_;refine evs [25] [] ?_;refine sq ?_ ?_<;>intro h1 h1p h1s<;>(try simp only[Q,Pat.cs_len,xaa] at h1p);refine xaV (i:=0) sl26 .none rfl rfl rfl rfl (zaE (by omega)) rfl ?_;refine evd [25] [] ?_;refine Walk.call (cr:=[8]) ziO (c8) rfl .none rfl rfl (LeL.refl _) trivial rfl rfl rfl ?_;refine evd [25] [] ?_;refine xaV (i:=1) sl26 .none rfl rfl rfl rfl (zaE (by omega)) rfl ?_;refine evd [25] [] ?_;refine wc ziO (c1) rfl rfl ?_;refine xaD sl26 zz28 .none rfl rfl rfl rfl (zdr rfl (by(simp;done))) (by intro x hx;exact zbH _ x hx) (by simp[Pat.cs_len];omega) (by simp[Pat.cs_len];omega) ?_;refine evd [25] [] ?_;refine dr ?_;refine Walk.lenV sl26 .none rfl rfl ?_;refine evs [25] [] ?_;refine sq ?_ ?_<;>intro h2 h2p h2s<;>(try simp only[Q,Pat.cs_len,xaa] at h2p);refine xaP 9 (b:=401) sl26 .none rfl rfl (zdr rfl (by(simp;done))) rfl rfl (by simp[Pat.cs_len];omega) (by simp[Pat.cs_len];omega) rfl ?_;refine evs [25] [] ?_;refine rn [(9,some (.tok (Pat.cs ((A++C).take 401)).length 6))] (r1 rfl) (.gvg ?_) ⟨rfl,rfl⟩ (SubH.get ⟨?_,trivial⟩) (zay rfl);rotate_left 2;exfalso;omega;exfalso;omega;all_goals (first|((first|rfl|(simp[xat];done));done)|(first|rfl|(show some (Res.tok _ _)=some (Res.tok _ _);simp[Pat.cs_len];omega)))
  ·have hts:=zsi 400 (p.kids.map za6);have htm:=fun(i:Nat) (hi:i<(tupQ 400 (p.kids.map za6)).length)=>zsj 400 (zac hi);have ht3:=zmC (ls:=p.kids.map za6) (by rw[xac];omega) (fun l hl=>by obtain⟨x,_,rfl⟩:=List.mem_map.1 hl;have:=zhj x;omega);have hcal:=fun(i:Nat) (hi:i<p.kids.length)=>FnD.gvD (zem n (zea h hi) (Pats.ok_mem hok'.2 _ (zac hi)));have hpl:=fun(y:Pat) (pre rest:List Pat) (e:pre++y::rest=p.kids)=>(show pre.length<p.kids.length/\nth p.kids pre.length=y from⟨by have:=congrArg List.length e;simp at this;omega,zzr e⟩);have hcal2:=fun(y:Pat) (pre rest:List Pat) (e:pre++y::rest=p.kids)=>show FnD Tryz.prog 142 [.agg [.d (.i y.op),.d (.i y.ctor),.d (.i y.n),.d (.i y.m),.d (.i y.var),.d (zae y.kids)]] [] (.d (.sl (Pat.cs (za6 y)))) [] from by
    have hq:=hcal pre.length (hpl y pre rest e).1;rw[(hpl y pre rest e).2] at hq;exact hq
   have ht3':=fun(pre:List Pat) (e:pre++[]=p.kids)=>show FnD Tryz.prog 187 [.d (zjl (pre.map za6))] [] (.d (zjl (tupQ 400 (p.kids.map za6)))) [] from by
    rw[List.append_nil] at e;rw[e];exact ht3
   rw[zwJ h5];refine bd Tryz.f142 67 [] [] fun w0 F0 own kept hk=>?_;refine bx 3001 ?_;refine ev ?_;refine sq ?_ ?_<;>intro h1 h1p h1s<;>(try simp only[Q,Pat.cs_len] at h1p);exfalso;omega;refine xbi 4 zej .none rfl rfl ?_;refine ev ?_;refine xak (ι:=List (Pat)×List (Pat)) hk (fun x=>[(5,.d (.i (x.1.length:Int))),(4,.gl 4 ((x.1.map za6).map zib))]) [31,32,33,34,35,36,37,38,39,40,41,42,43,44,45,46] (fun x=>[(4,some (.tok (((x.1.map za6).map zib)).length 1))]) (fun x=>x.1++x.2=p.kids) (fun x=>x.2.length) ([],p.kids) (by simp) ⟨⟨_,rfl,xaq ?_⟩,⟨⟨_,rfl,LeA.glg ?_⟩,trivial⟩⟩ ⟨zab ?_,trivial⟩ (fun x=>rfl) (fun x hg1=>?_);iterate 3 focus ((simp;done))
   obtain⟨pre,rest⟩:=x;dsimp only at hg1 ⊢;refine evc [] [] ?_;refine sq ?_ ?_<;>intro h2 h2p h2s<;>(try simp only[Q,Pat.cs_len] at h2p);rcases rest with _|⟨y,rest⟩
   ·exfalso;simp_all
   refine xaV sl26 .none rfl rfl rfl rfl (Pat.cs_at' hg1) rfl ?_;refine ev ?_;refine wc ziO (hcal2 y pre rest hg1) rfl rfl ?_;refine si [0] [_] zej tz26 ?_;refine ap zej zz26 rfl rfl rfl (by intro x hx;first|(simp at hx;subst hx;rfl)|exact zhz _ x hx) (by first|(have:=congrArg List.length hg1;simp at this;simp;omega)|(simp;omega)) ?_;refine ev ?_;refine ar ?_;refine xah ((pre++[y],rest)) ⟨(by have hz:=hg1;rw[<-hz];simp),(by simp),sx ⟨⟨_,rfl,xaq ?_⟩,⟨⟨_,rfl,LeA.glg ?_⟩,trivial⟩⟩ ⟨zab ?_,trivial⟩⟩;iterate 3 focus ((simp;done))
   have hrest:rest=[]:=by
    rcases rest with _|⟨a,b⟩
    ·rfl
    ·exfalso;have hz:=congrArg List.length (hg1);simp only[xaa,xab,xac] at hz;omega
   subst hrest;refine Walk.call (cr:=[]) zyS (ht3' pre hg1) rfl .none rfl rfl (.cons (.gl _ _) .nil) trivial rfl rfl rfl ?_;refine ev ?_;refine xbj 9 sl26 .none rfl rfl ?_;refine ev ?_;refine xak (ι:=Nat) hk (fun k=>[(8,.d (.i (k:Int))),(7,.gv 9 ((((tupQ 400 (p.kids.map za6)).take k).map fun l=>Pat.mk p.op p.ctor p.n p.m p.var l).map Pat.cc))]) [9,50,51,52,53,54,55,56,57,58,59,60,61,62,63,64,65] (fun k=>[(9,some (.tok (((((tupQ 400 (p.kids.map za6)).take k).map fun l=>Pat.mk p.op p.ctor p.n p.m p.var l).map Pat.cc)).length 6))]) (fun k=>k<=(tupQ 400 (p.kids.map za6)).length) (fun k=>(tupQ 400 (p.kids.map za6)).length-k) 0 (by omega) ⟨⟨_,rfl,xaq ?_⟩,⟨⟨_,rfl,LeA.gvg ?_⟩,trivial⟩⟩ ⟨zab ?_,trivial⟩ (fun x=>rfl) (fun k hg2=>?_);iterate 3 focus ((simp;done))
   refine evc [] [] ?_;refine sq ?_ ?_<;>intro h3 h3p h3s<;>(try simp only[Q,Pat.cs_len] at h3p);refine ab 3009 tz28 ?_;refine so ty28 ?_;refine tv ?_;refine xaV zej .none rfl rfl rfl rfl (zar (by omega)) rfl ?_;refine ev ?_;refine so ty26 ?_;refine tv ?_;refine si [0] [_] sl26 tz28 ?_;refine xaD sl26 zz28 .none rfl rfl rfl rfl (zdr rfl (by first|rfl|(simp;done))) (by intro x hx;first|(simp at hx;subst hx;rfl)|exact zhz _ x hx) (by first|(have:=congrArg List.length hg1;simp at this;simp;omega)|(simp;omega)) (by first|(have:=congrArg List.length hg1;simp at this;simp;omega)|(simp;omega)) ?_;refine ev ?_;refine ar ?_;refine xah (k+1) ⟨(by omega),(by omega),sx ⟨⟨_,rfl,xaq ?_⟩,⟨⟨_,rfl,LeA.gvg ?_⟩,trivial⟩⟩ ⟨zab ?_,trivial⟩⟩;iterate 3 focus (first|(simp;done)|(rw[List.take_succ_eq_append_getElem (by omega),<-zaM (by omega)];simp[zby,zfu,mk_n,mk_m,zhS,zaL];done))
   refine rn [(9,some (.tok (Pat.cs ((tupQ 400 (p.kids.map za6)).map fun l=>Pat.mk p.op p.ctor p.n p.m p.var l)).length 6))] (r1 rfl) (.gvg ?_) ⟨rfl,rfl⟩ (SubH.get ⟨?_,trivial⟩) (zay rfl);rotate_left 2;all_goals (first|((first|rfl|(obtain rfl:k=(tupQ 400 (p.kids.map za6)).length:=(by omega);rw[List.take_length,show Pat.cs ((tupQ 400 (p.kids.map za6)).map fun l=>Pat.mk p.op p.ctor p.n p.m p.var l)=((tupQ 400 (p.kids.map za6)).map fun l=>Pat.mk p.op p.ctor p.n p.m p.var l).map Pat.cc from xat _];done));done)|(first|rfl|(obtain rfl:k=(tupQ 400 (p.kids.map za6)).length:=(by omega);rw[List.take_length];simp[xat];rfl)|(obtain rfl:k=(tupQ 400 (p.kids.map za6)).length:=(by omega);rw[List.take_length,show Pat.cs ((tupQ 400 (p.kids.map za6)).map fun l=>Pat.mk p.op p.ctor p.n p.m p.var l)=((tupQ 400 (p.kids.map za6)).map fun l=>Pat.mk p.op p.ctor p.n p.m p.var l).map Pat.cc from xat _];rfl)))
theorem ziv {w:List Data}{n:Nat}{t:Ty}{p:Pat} (h:zaq w n t p=true) (hok:p.ok):FnD Tryz.prog 87 [.agg [.d (.i p.op),.d (.i p.ctor),.d (.i p.n),.d (.i p.m),.d (.i p.var),.d (zae p.kids)]] [] (.d (zae (za6 (zav p)))) []:=by
 have hbp:=zdh _ (Nat.le_refl _) hok;have hsp:=FnD.gvD (zem n (zgJ n h) (zlg p hok));generalize zav p=b at *;refine bd Tryz.f87 6 [] [] fun w0 F0 own kept hk=>?_;refine bx 3001 ?_;refine ev ?_;refine wc zqz (hbp) rfl rfl ?_;refine wc ziO (hsp) rfl rfl ?_;refine ev ?_;refine rq ?_;rotate_left;all_goals (rfl)
theorem zhZ {a b:Pat} (hn:0<=b.n/\b.n<=9) (hm:0<=b.m/\b.m<=9):FnD Tryz.prog 156 [.agg [.d (.i (a).op),.d (.i (a).ctor),.d (.i (a).n),.d (.i (a).m),.d (.i (a).var),.d (zae (a).kids)],.agg [.d (.i (b).op),.d (.i (b).ctor),.d (.i (b).n),.d (.i (b).m),.d (.i (b).var),.d (zae (b).kids)]] [] (.d (zae (zbX a.n (minQ a.m (b.n-1))++zbX (maxQ a.n (b.m+1)) a.m))) []:=by
 refine bd Tryz.f156 58 [] [] fun w0 F0 own kept hk=>?_;refine bx 3002 ?_;refine bx 3003 ?_;refine ev ?_;refine xbi 9 sl26 .none rfl rfl ?_;refine ev ?_;refine bu [0,2,3] [_,_,_] st28 ?_;refine ab 3006 tz28 ?_;refine so ty28 ?_;refine tv ?_;refine ar ?_;refine sq ?_ ?_<;>intro h1 h1p h1s<;>(try simp only[Q] at h1p);refine ar ?_;refine so ty3 ?_;refine tv ?_;refine sq ?_ ?_<;>intro h2 h2p h2s<;>(try simp only[Q] at h2p);refine si [0] [_] sl26 tz28 ?_;refine ap sl26 zz28 rfl rfl rfl (by intro x hx;simp at hx;subst hx;rfl) (by simp) ?_;refine ev ?_;refine bu [0,2,3] [_,_,_] st28 ?_;refine ab 3007 tz28 ?_;refine so ty28 ?_;refine tv ?_;refine ar ?_;refine sq ?_ ?_<;>intro h3 h3p h3s<;>(try simp only[Q] at h3p);refine ar ?_;refine so ty3 ?_;refine tv ?_;refine sq ?_ ?_<;>intro h4 h4p h4s<;>(try simp only[Q] at h4p);refine si [0] [_] sl26 tz28 ?_;refine ap sl26 zz28 rfl rfl rfl (by intro x hx;simp at hx;subst hx;rfl) (by simp) ?_;refine ev ?_;refine rn0 (r1 rfl) (.gld ?_);rotate_left;refine rn0 (r1 rfl) (.gld ?_);rotate_left;refine sq ?_ ?_<;>intro h5 h5p h5s<;>(try simp only[Q] at h5p);refine si [0] [_] sl26 tz28 ?_;refine ap sl26 zz28 rfl rfl rfl (by intro x hx;simp at hx;subst hx;rfl) (by simp) ?_;refine ev ?_;refine rn0 (r1 rfl) (.gld ?_);rotate_left;refine rn0 (r1 rfl) (.gld ?_);rotate_left;refine bu [0,2,3] [_,_,_] st28 ?_;refine ab 3007 tz28 ?_;refine so ty28 ?_;refine tv ?_;refine ar ?_;refine sq ?_ ?_<;>intro h6 h6p h6s<;>(try simp only[Q] at h6p);refine ar ?_;refine so ty3 ?_;refine tv ?_;refine sq ?_ ?_<;>intro h7 h7p h7s<;>(try simp only[Q] at h7p);refine si [0] [_] sl26 tz28 ?_;refine ap sl26 zz28 rfl rfl rfl (by intro x hx;simp at hx;subst hx;rfl) (by simp) ?_;refine ev ?_;refine rn0 (r1 rfl) (.gld ?_);rotate_left;refine rn0 (r1 rfl) (.gld ?_);rotate_left;refine sq ?_ ?_<;>intro h8 h8p h8s<;>(try simp only[Q] at h8p);refine si [0] [_] sl26 tz28 ?_;refine ap sl26 zz28 rfl rfl rfl (by intro x hx;simp at hx;subst hx;rfl) (by simp) ?_;refine ev ?_;refine rn0 (r1 rfl) (.gld ?_);rotate_left;refine rn0 (r1 rfl) (.gld ?_);rotate_left;refine sq ?_ ?_<;>intro h9 h9p h9s<;>(try simp only[Q] at h9p);refine si [0] [_] sl26 tz28 ?_;refine ap sl26 zz28 rfl rfl rfl (by intro x hx;simp at hx;subst hx;rfl) (by simp) ?_;refine ev ?_;refine bu [0,2,3] [_,_,_] st28 ?_;refine ab 3007 tz28 ?_;refine so ty28 ?_;refine tv ?_;refine ar ?_;refine sq ?_ ?_<;>intro h10 h10p h10s<;>(try simp only[Q] at h10p);refine ar ?_;refine so ty3 ?_;refine tv ?_;refine sq ?_ ?_<;>intro h11 h11p h11s<;>(try simp only[Q] at h11p);refine si [0] [_] sl26 tz28 ?_;refine ap sl26 zz28 rfl rfl rfl (by intro x hx;simp at hx;subst hx;rfl) (by simp) ?_;refine ev ?_;refine rn0 (r1 rfl) (.gld ?_);rotate_left;refine rn0 (r1 rfl) (.gld ?_);rotate_left;refine sq ?_ ?_<;>intro h12 h12p h12s<;>(try simp only[Q] at h12p);refine si [0] [_] sl26 tz28 ?_;refine ap sl26 zz28 rfl rfl rfl (by intro x hx;simp at hx;subst hx;rfl) (by simp) ?_;refine ev ?_;refine rn0 (r1 rfl) (.gld ?_);rotate_left;refine rn0 (r1 rfl) (.gld ?_);rotate_left;refine bu [0,2,3] [_,_,_] st28 ?_;refine ab 3007 tz28 ?_;refine so ty28 ?_;refine tv ?_;refine ar ?_;refine sq ?_ ?_<;>intro h13 h13p h13s<;>(try simp only[Q] at h13p);refine ar ?_;refine so ty3 ?_;refine tv ?_;refine sq ?_ ?_<;>intro h14 h14p h14s<;>(try simp only[Q] at h14p);refine si [0] [_] sl26 tz28 ?_;refine ap sl26 zz28 rfl rfl rfl (by intro x hx;simp at hx;subst hx;rfl) (by simp) ?_;refine ev ?_;refine rn0 (r1 rfl) (.gld ?_);rotate_left;refine rn0 (r1 rfl) (.gld ?_);rotate_left;refine sq ?_ ?_<;>intro h15 h15p h15s<;>(try simp only[Q] at h15p);refine si [0] [_] sl26 tz28 ?_;refine ap sl26 zz28 rfl rfl rfl (by intro x hx;simp at hx;subst hx;rfl) (by simp) ?_;refine ev ?_;refine rn0 (r1 rfl) (.gld ?_);rotate_left;refine rn0 (r1 rfl) (.gld ?_);rotate_left;all_goals (unfold minQ maxQ zbX;(repeat' split)<;>first|rfl|(exfalso;omega))
theorem zqr {w:List Data} (hw:WT w){a k c:Int} (ht:TyIn w.length ⟨a,k⟩) (hc:c∈zah w ⟨a,k⟩) (hl:(zaa w ⟨a,k⟩ c).length<=3):FnD Tryz.prog 158 [.d (zal w),.agg [.d (.i a),.d (.i k)],.d (.i c)] []
  (.agg [.d (.i 4),.d (.i c),.d (.i 0),.d (.i 0),.d (.i 0),.d (zae (zbP w ⟨a,k⟩ c).kids)]) []:=by
 refine bd Tryz.f158 29 [] [] fun w0 F0 own kept hk=>?_;refine bx 3004 ?_;refine ab 3006 tz28 ?_;refine tv ?_;refine bu [0,1] [_,_] st28 ?_;refine ab 3007 tz28 ?_;refine so ty28 ?_;refine tv ?_;refine wc zgB (zcr hw ht hc) rfl rfl ?_;refine ev ?_;refine xan 3007 5 9 6 rfl rfl rfl rfl ?_;refine xak (ι:=List (Ty)×List (Ty)) hk (fun x=>[(9,.d (.i (x.1.length:Int)))]) [16,17,18,19,20,21,22,23,24,25,26,27] (fun x=>[(3007,some (.box [.d (.i 4),.d (.i c),.d (.i 0),.d (.i 0),.d (.i 0),.gl 9 ((x.1.map fun _=>anyQ).map Pat.cc)])),(9,some (.tok ((x.1.map fun _=>anyQ).map Pat.cc).length 6))]) (fun x=>x.1++x.2=zaa w ⟨a,k⟩ c) (fun x=>x.2.length) ([],zaa w ⟨a,k⟩ c) (by simp) ⟨⟨_,rfl,xaq ?_⟩,trivial⟩ ⟨?_,⟨zab ?_,trivial⟩⟩ (fun x=>rfl) (fun x hg1=>?_);focus (rfl)
 focus (rfl)
 focus (rfl)
 obtain⟨pre,rest⟩:=x;dsimp only at hg1 ⊢;refine evc [] [] ?_;refine sq ?_ ?_<;>intro h1 h1p h1s<;>(try simp only[Q] at h1p);rcases rest with _|⟨y,rest⟩
 ·exfalso;simp_all
 refine wc zuq (zjZ) rfl rfl ?_;refine si [0] [_] sl26 tz28 ?_;refine ap sl26 zz28 rfl rfl rfl (by intro x hx;(simp at hx;subst hx;rfl)) (by have:=congrArg List.length hg1;simp at this;simp;omega) ?_;refine evd [] [] ?_;refine so ty26 ?_;refine dr ?_;refine ar ?_;refine xah ((pre++[y],rest)) ⟨(by have hz:=hg1;rw[<-hz];simp),(by simp),sx ⟨⟨_,rfl,xaq ?_⟩,trivial⟩ ⟨?_,⟨zab ?_,trivial⟩⟩⟩;focus ((simp;done))
 focus ((simp[getH];exact⟨rfl,rfl,rfl,rfl,rfl,rfl⟩))
 focus ((simp;done))
 have hrest:rest=[]:=by
  rcases rest with _|⟨a,b⟩
  ·rfl
  ·exfalso;have hz:=congrArg List.length (hg1);simp only[xaa,xab,xac] at hz;omega
 subst hrest;refine so ty28 ?_;refine tv ?_;refine rn0 (.cons (.cellA ty28 rfl rfl rfl) .nil) (.agg (.cons (.eqd ?_) (.cons (.eqd ?_) (.cons (.eqd ?_) (.cons (.eqd ?_) (.cons (.eqd ?_) (.cons (.gld ?_) .nil)))))));rotate_left 6;all_goals (first|rfl|(rw[List.append_nil] at hg1;subst hg1;rw[<-xat];all_goals rfl))
def zd1 (n:Nat) (a b:Pat):Pat:=if a.op=3/\b.op≠1 then intQ (maxQ a.n b.n) (minQ a.m b.m) else zcV n a b
theorem zoQ {n:Nat}{a b:Pat} (h:¬(a.op=3/\b.op≠1)):zd1 n a b=zcV n a b:=if_neg h
theorem zrD {n:Nat}{a b:Pat} (h:(zaH n a b).isSome=true):zd1 n a b=zcV n a b:=by
 unfold zd1;split
 ·rename_i h3;cases n with
  |zero=>simp[zaH] at h
  |succ n=>
   have e:=zi0 (n:=n) h3.1 h3.2;rw[e] at h;split at h
   ·rename_i hr;rw[if_pos hr] at e;exact(zcC e).symm
   ·cases h
 ·rfl
theorem zja {w:List Data} (hs:Spa w):∀(n m:Nat){t:Ty}{a b:Pat},m<=n->InS (w.length*4) t->zaf w m t a=true->zaf w m t b=true->
  FnD Tryz.prog 67 [.agg [.d (.i (a).op),.d (.i (a).ctor),.d (.i (a).n),.d (.i (a).m),.d (.i (a).var),.d (zae (a).kids)],.agg [.d (.i (b).op),.d (.i (b).ctor),.d (.i (b).n),.d (.i (b).m),.d (.i (b).var),.d (zae (b).kids)]] [] (.tup [.agg [.d (.i (zd1 n a b).op),.d (.i (zd1 n a b).ctor),.d (.i (zd1 n a b).n),.d (.i (zd1 n a b).m),.d (.i (zd1 n a b).var),.d (zae (zd1 n a b).kids)],.d (.bool (zaH n a b).isSome)]) []
 |n,0,t,a,b,_,_,ha,_=>by simp[zaf] at ha
 |0,m+1,t,a,b,h,_,_,_=>by omega
 |n+1,m+1,t,a,b,hnm,ht,ha,hb=>by
  by_cases h1:a.op=1
  ·have e:=zhQ (n:=n) (b:=b) h1;rw[zoQ (fun h=>by omega),zcC e,e];refine bd Tryz.f67 89 [] [] fun w0 F0 own kept hk=>?_;refine bx 3002 ?_;refine bx 3003 ?_;refine ab 3004 tz28 ?_;refine ev ?_;refine sq ?_ ?_<;>intro h1 h1p h1s<;>(try simp only[Q] at h1p);refine so ty28 ?_;refine ev ?_;refine rn0 (.cons (.cellA ty28 rfl rfl rfl) (.cons (.tmp rfl) .nil)) (.tup (.cons (.agg (.cons (.eqd ?_) (.cons (.eqd ?_) (.cons (.eqd ?_) (.cons (.eqd ?_) (.cons (.eqd ?_) (.cons (.eqd ?_) .nil))))))) (.cons (.eqd ?_) .nil)));rotate_left 7;exfalso;omega;all_goals (rfl)
  by_cases h2:b.op=1
  ·have e:=ziZ (n:=n) h1 h2;rw[zoQ (fun h=>h.2 h2),zcC e,e];refine bd Tryz.f67 89 [] [] fun w0 F0 own kept hk=>?_;refine bx 3002 ?_;refine bx 3003 ?_;refine ab 3004 tz28 ?_;refine ev ?_;refine sq ?_ ?_<;>intro h1 h1p h1s<;>(try simp only[Q] at h1p);exfalso;omega;refine sq ?_ ?_<;>intro h2 h2p h2s<;>(try simp only[Q] at h2p);refine so ty28 ?_;refine ev ?_;refine rn0 (.cons (.cellA ty28 rfl rfl rfl) (.cons (.tmp rfl) .nil)) (.tup (.cons (.agg (.cons (.eqd ?_) (.cons (.eqd ?_) (.cons (.eqd ?_) (.cons (.eqd ?_) (.cons (.eqd ?_) (.cons (.eqd ?_) .nil))))))) (.cons (.eqd ?_) .nil)));rotate_left 7;exfalso;omega;all_goals (rfl)
  by_cases h3:a.op=3
  ·have e:=zi0 (n:=n) h3 h2;have ez:zd1 (n+1) a b=intQ (maxQ a.n b.n) (minQ a.m b.m):=if_pos ⟨h3,h2⟩;have eb:(zaH (n+1) a b).isSome=decide (maxQ a.n b.n<=minQ a.m b.m):=by
    rw[e];by_cases hr:maxQ a.n b.n<=minQ a.m b.m
    ·rw[if_pos hr,decide_eq_true hr];rfl
    ·rw[if_neg hr,decide_eq_false hr];rfl
   rw[ez,eb];refine bd Tryz.f67 89 [] [] fun w0 F0 own kept hk=>?_;refine bx 3002 ?_;refine bx 3003 ?_;refine ab 3004 tz28 ?_;refine ev ?_;refine sq ?_ ?_<;>intro h1 h1p h1s<;>(try simp only[Q] at h1p);exfalso;omega;refine sq ?_ ?_<;>intro h2 h2p h2s<;>(try simp only[Q] at h2p);exfalso;omega;refine sq ?_ ?_<;>intro h3 h3p h3s<;>(try simp only[Q] at h3p);refine sq ?_ ?_<;>intro h4 h4p h4s<;>(try simp only[Q] at h4p);refine sq ?_ ?_<;>intro h5 h5p h5s<;>(try simp only[Q] at h5p);refine bu [0,2,3] [_,_,_] st28 ?_;refine ev ?_;refine so ty28 ?_;refine ev ?_;refine rn0 (.cons (.cellA ty28 rfl rfl rfl) (.cons (.tmp rfl) .nil)) (.tup (.cons (.agg (.cons (.eqd ?_) (.cons (.eqd ?_) (.cons (.eqd ?_) (.cons (.eqd ?_) (.cons (.eqd ?_) (.cons (.nild ?_) .nil))))))) (.cons (.eqd ?_) .nil)));rotate_left 7;refine bu [0,2,3] [_,_,_] st28 ?_;refine ev ?_;refine so ty28 ?_;refine ev ?_;refine rn0 (.cons (.cellA ty28 rfl rfl rfl) (.cons (.tmp rfl) .nil)) (.tup (.cons (.agg (.cons (.eqd ?_) (.cons (.eqd ?_) (.cons (.eqd ?_) (.cons (.eqd ?_) (.cons (.eqd ?_) (.cons (.nild ?_) .nil))))))) (.cons (.eqd ?_) .nil)));rotate_left 7;refine sq ?_ ?_<;>intro h6 h6p h6s<;>(try simp only[Q] at h6p);refine bu [0,2,3] [_,_,_] st28 ?_;refine ev ?_;refine so ty28 ?_;refine ev ?_;refine rn0 (.cons (.cellA ty28 rfl rfl rfl) (.cons (.tmp rfl) .nil)) (.tup (.cons (.agg (.cons (.eqd ?_) (.cons (.eqd ?_) (.cons (.eqd ?_) (.cons (.eqd ?_) (.cons (.eqd ?_) (.cons (.nild ?_) .nil))))))) (.cons (.eqd ?_) .nil)));rotate_left 7;refine bu [0,2,3] [_,_,_] st28 ?_;refine ev ?_;refine so ty28 ?_;refine ev ?_;refine rn0 (.cons (.cellA ty28 rfl rfl rfl) (.cons (.tmp rfl) .nil)) (.tup (.cons (.agg (.cons (.eqd ?_) (.cons (.eqd ?_) (.cons (.eqd ?_) (.cons (.eqd ?_) (.cons (.eqd ?_) (.cons (.nild ?_) .nil))))))) (.cons (.eqd ?_) .nil)));rotate_left 7;exfalso;omega;all_goals (first|rfl|((try simp only[zby,zfu,mk_n,mk_m,zhS,zaL]);simp only[minQ,maxQ];(repeat' split)<;>first|rfl|(exfalso;omega)))
  have oa:=zbq ha;have h4:a.op=4:=by omega
  have h4b:b.op=4:=by have:=zdm ha hb h1 h2;omega
  have ez:zd1 (n+1) a b=zcV (n+1) a b:=zoQ (fun h=>h3 h.1);by_cases hc:a.ctor=b.ctor
  ·obtain⟨c1,c2,c3,-⟩:=zaD ha h4;obtain⟨d1,d2,d3,-⟩:=zaD hb h4b;rw[<-hc] at d3;have h3l:=hs.args t a.ctor ht c1;have ka:=fun i (hi:i<a.kids.length)=>zaS ha hi;have kb:=fun i (hi:i<b.kids.length)=>zaS hb hi;rw[za0 h4] at ka;rw[za0 h4b,<-hc] at kb;have e:=zhR (n:=n) h4 h2 hc;have hlen:a.kids.length=b.kids.length:=by omega
   have ih:=fun i (hi:i<a.kids.length)=>zja hs n m (t:=nth (zaa w t a.ctor) i) (a:=nth a.kids i) (b:=nth b.kids i) (by omega) (zbr hs.dp ht c1 _ (zac (by omega))) (ka i (by omega)) (kb i (by omega));have key:∀(i:Nat) (acc:List Pat),i<a.kids.length->(zaH n (nth a.kids i) (nth b.kids i)).isSome=true->zbS (zaH n) (a.kids.drop i) (b.kids.drop i) acc=zbS (zaH n) (a.kids.drop (i+1)) (b.kids.drop (i+1)) (acc++[zd1 n (nth a.kids i) (nth b.kids i)]):=fun i acc hi h=>by
    rw[zrD h];exact znA hi (by omega) (zoR h)
   rw[ez];refine bd Tryz.f67 89 [] [] fun w0 F0 own kept hk=>?_;refine bx 3002 ?_;refine bx 3003 ?_;refine ab 3004 tz28 ?_;refine ev ?_;refine sq ?_ ?_<;>intro h1 h1p h1s<;>(try simp only[Q,Pat.cs_len] at h1p);exfalso;omega;refine sq ?_ ?_<;>intro h2 h2p h2s<;>(try simp only[Q,Pat.cs_len] at h2p);exfalso;omega;refine sq ?_ ?_<;>intro h3 h3p h3s<;>(try simp only[Q,Pat.cs_len] at h3p);exfalso;omega;refine sq ?_ ?_<;>intro h4 h4p h4s<;>(try simp only[Q,Pat.cs_len] at h4p);exfalso;omega;refine bu [0,1] [_,_] st28 ?_;refine ab 3008 tz28 ?_;refine so ty28 ?_;refine tv ?_;refine xan 3008 5 9 6 rfl rfl rfl rfl ?_;refine xak (ι:=Nat×List Pat) hk (fun x=>[(9,.d (.i (x.1:Int)))]) [5,10,11,58,59,60,61,62,63,64,65,66,67,68,69,70,71,72,73,74,75,76,77,78,79,80,81,82,83,84,85,86,87] (fun x=>[(3008,some (.box [.d (.i 4),.d (.i a.ctor),.d (.i 0),.d (.i 0),.d (.i 0),.gl 9 (x.2.map Pat.cc)])),(9,some (.tok (x.2.map Pat.cc).length 6))]) (fun x=>x.1<=a.kids.length/\x.2.length=x.1/\zbS (zaH n) (a.kids.drop x.1) (b.kids.drop x.1) x.2=zbS (zaH n) a.kids b.kids []) (fun x=>a.kids.length-x.1) (0,[]) ⟨by simp,rfl,rfl⟩ ⟨⟨_,rfl,xaq ?_⟩,trivial⟩ ⟨?_,⟨zab ?_,trivial⟩⟩ (fun x=>rfl) (fun x hg1=>?_);focus (rfl)
   focus (first|rfl|(simp[getH];done))
   focus (rfl)
   refine evc [] [] ?_;refine sq ?_ ?_<;>intro h5 h5p h5s<;>(try simp only[Q,Pat.cs_len] at h5p);refine xaV sl26 .none rfl rfl rfl rfl (zaE (by omega)) rfl ?_;refine evd [] [] ?_;refine xaV sl26 .none rfl rfl rfl rfl (zaE (by omega)) rfl ?_;refine evd [] [] ?_;refine wc zw8 (ih x.1 (by omega)) rfl rfl ?_;refine evd [] [] ?_;refine ab 3010 tz28 ?_;refine so ty28 ?_;refine evd [] [] ?_;refine dr ?_;refine sq ?_ ?_<;>intro h6 h6p h6s<;>(try simp only[Q,Pat.cs_len] at h6p);refine bu [] [] st28 ?_;refine so ty28 ?_;refine ev ?_;refine rn0 (.cons (.cellA ty28 rfl rfl rfl) (.cons (.tmp rfl) .nil)) (.tup (.cons (.agg (.cons (.eqd ?_) (.cons (.eqd ?_) (.cons (.eqd ?_) (.cons (.eqd ?_) (.cons (.eqd ?_) (.cons (.nild ?_) .nil))))))) (.cons (.eqd ?_) .nil)));rotate_left 7;refine si [0] [_] sl26 tz28 ?_;refine ap sl26 zz28 rfl rfl rfl (by intro x hx;(simp at hx;subst hx;rfl)) (by simp;omega) ?_;refine ev ?_;refine so ty26 ?_;refine tv ?_;refine ar ?_;refine xah ((x.1+1,x.2++[zd1 n (nth a.kids x.1) (nth b.kids x.1)])) ⟨⟨by dsimp only;omega,by dsimp only;rw[xaa,hg1.2.1];rfl,by dsimp only;rw[<-key x.1 x.2 (by omega) (by assumption)];exact hg1.2.2⟩,(by dsimp only;omega),sx ⟨⟨_,rfl,xaq ?_⟩,trivial⟩ ⟨?_,⟨zab ?_,trivial⟩⟩⟩;focus (rfl)
   focus (first|rfl|(simp[getH];done))
   focus ((simp;done))
   refine so ty28 ?_;refine ev ?_;refine rn0 (.cons (.cellA ty28 rfl rfl rfl) (.cons (.tmp rfl) .nil)) (.tup (.cons (.agg (.cons (.eqd ?_) (.cons (.eqd ?_) (.cons (.eqd ?_) (.cons (.eqd ?_) (.cons (.eqd ?_) (.cons (.gld ?_) .nil))))))) (.cons (.eqd ?_) .nil)));rotate_left 7;all_goals (first|(have e2:zaH (n+1) a b=none:=(by rw[e,<-hg1.2.2,znz (by omega) (by omega) (zoS (by assumption))];rfl);(first|rw[zfP e2]|rw[e2]);all_goals rfl)|(have e2:zaH (n+1) a b=some (zbb a.ctor x.2):=(by rw[e,<-hg1.2.2,zfs (by omega)];rfl);rw[zcC e2,xat];all_goals rfl)|(have e2:zaH (n+1) a b=some (zbb a.ctor x.2):=(by rw[e,<-hg1.2.2,zfs (by omega)];rfl);rw[zcC e2];all_goals rfl)|(have e2:zaH (n+1) a b=some (zbb a.ctor x.2):=(by rw[e,<-hg1.2.2,zfs (by omega)];rfl);rw[e2];all_goals rfl))
  ·skip
   have e:=zhv (n:=n) h4 h2 hc;rw[ez,zfP e,e];refine bd Tryz.f67 89 [] [] fun w0 F0 own kept hk=>?_;refine bx 3002 ?_;refine bx 3003 ?_;refine ab 3004 tz28 ?_;refine ev ?_;refine sq ?_ ?_<;>intro h1 h1p h1s<;>(try simp only[Q] at h1p);exfalso;omega;refine sq ?_ ?_<;>intro h2 h2p h2s<;>(try simp only[Q] at h2p);exfalso;omega;refine sq ?_ ?_<;>intro h3 h3p h3s<;>(try simp only[Q] at h3p);exfalso;omega;refine sq ?_ ?_<;>intro h4 h4p h4s<;>(try simp only[Q] at h4p);refine bu [] [] st28 ?_;refine so ty28 ?_;refine ev ?_;refine rn0 (.cons (.cellA ty28 rfl rfl rfl) (.cons (.tmp rfl) .nil)) (.tup (.cons (.agg (.cons (.eqd ?_) (.cons (.eqd ?_) (.cons (.eqd ?_) (.cons (.eqd ?_) (.cons (.eqd ?_) (.cons (.nild ?_) .nil))))))) (.cons (.eqd ?_) .nil)));rotate_left 7;exfalso;omega;all_goals (rfl)
theorem zrH {f:Ty->Pat->Pat->List Pat}{c:Int}{ts:List Ty}{xs bs front:List Pat}{i:Nat} (h1:i<ts.length) (h2:i<xs.length) (h3:i<bs.length) (h:(zaH 11 (nth xs i) (nth bs i)).isSome=true):
  zaP f c (ts.drop i) (xs.drop i) (bs.drop i) front=(f (nth ts i) (nth xs i) (nth bs i)).map (fun z=>zbb c (front++[z]++xs.drop (i+1)))++zaP f c (ts.drop (i+1)) (xs.drop (i+1)) (bs.drop (i+1)) (front++[zd1 11 (nth xs i) (nth bs i)]):=by
 rw[zrD h];exact zlW h1 h2 h3 h
theorem zv0 (c:Int) (L:List Pat):Pat.cc (zbb c L)=[D.i 4,D.i c,D.i 0,D.i 0,D.i 0,D.sl (L.map Pat.cc)]:=by
 show [D.i 4,D.i c,D.i 0,D.i 0,D.i 0,D.sl (Pat.cs L)]=_
 rw[xat]
section
variable {w:List Data}
abbrev MinusSp (w:List Data) (n:Nat) (ta tk:Int) (a b:Pat):Prop:=
 FnD Tryz.prog 100 [.d (zal w),.agg [.d (.i ta),.d (.i tk)],.agg [.d (.i (a).op),.d (.i (a).ctor),.d (.i (a).n),.d (.i (a).m),.d (.i (a).var),.d (zae (a).kids)],.agg [.d (.i (b).op),.d (.i (b).ctor),.d (.i (b).n),.d (.i (b).m),.d (.i (b).var),.d (zae (b).kids)]] [] (.d (zae (zat w n ⟨ta,tk⟩ a b))) []
theorem zpc (hs:Spa w){n m:Nat} (hn:n+1<=10) (hm:m+1<=11) (hnm:n<m)
  (ih:∀ {ta tk:Int}{a b:Pat},InS (w.length*4) ⟨ta,tk⟩->zaf w m ⟨ta,tk⟩ a=true->zaf w n ⟨ta,tk⟩ b=true->MinusSp w n ta tk a b)
  {ta tk:Int}{a b:Pat} (ht:InS (w.length*4) ⟨ta,tk⟩) (ha:zaf w (m+1) ⟨ta,tk⟩ a=true) (hb:zaf w (n+1) ⟨ta,tk⟩ b=true) (h4:a.op=4) (h4b:b.op=4) (hc:a.ctor=b.ctor):
  FnD Tryz.prog 157 [.d (zal w),.agg [.d (.i ta),.d (.i tk)],.agg [.d (.i (a).op),.d (.i (a).ctor),.d (.i (a).n),.d (.i (a).m),.d (.i (a).var),.d (zae (a).kids)],.agg [.d (.i (b).op),.d (.i (b).ctor),.d (.i (b).n),.d (.i (b).m),.d (.i (b).var),.d (zae (b).kids)]] [] (.d (zae (zat w (n+1) ⟨ta,tk⟩ a b))) []:=by
 obtain⟨c1,c2,c3,-⟩:=zaD ha h4;obtain⟨d1,d2,d3,-⟩:=zaD hb h4b;rw[<-hc] at d3;have h3l:=hs.args ⟨ta,tk⟩ a.ctor ht c1;have ka:=fun i (hi:i<a.kids.length)=>zaS ha hi;have kb:=fun i (hi:i<b.kids.length)=>zaS hb hi;rw[za0 h4] at ka;rw[za0 h4b,<-hc] at kb;have hbd:=zgf hs (n:=n+1) (m:=m+1) (by omega) hn ht ha hb;have e:zat w (n+1) ⟨ta,tk⟩ a b=zaP (zat w n) a.ctor (zaa w ⟨ta,tk⟩ a.ctor) a.kids b.kids []:=by rw[zc3 h4b h4];exact if_pos hc
 have hins:=fun i (hi:i<(zaa w ⟨ta,tk⟩ a.ctor).length)=>zbr hs.dp ht c1 _ (zac hi);have hmi:∀i,i<(zaa w ⟨ta,tk⟩ a.ctor).length->FnD Tryz.prog 100 [.d (zal w),.agg [.d (.i (nth (zaa w ⟨ta,tk⟩ a.ctor) i).data),.d (.i (nth (zaa w ⟨ta,tk⟩ a.ctor) i).index)],.agg [.d (.i (nth a.kids i).op),.d (.i (nth a.kids i).ctor),.d (.i (nth a.kids i).n),.d (.i (nth a.kids i).m),.d (.i (nth a.kids i).var),.d (zae (nth a.kids i).kids)],.agg [.d (.i (nth b.kids i).op),.d (.i (nth b.kids i).ctor),.d (.i (nth b.kids i).n),.d (.i (nth b.kids i).m),.d (.i (nth b.kids i).var),.d (zae (nth b.kids i).kids)]] [] (.d (zae (zat w n (nth (zaa w ⟨ta,tk⟩ a.ctor) i) (nth a.kids i) (nth b.kids i)))) []:=fun i hi=>ih (ta:=(nth (zaa w ⟨ta,tk⟩ a.ctor) i).data) (tk:=(nth (zaa w ⟨ta,tk⟩ a.ctor) i).index) (hins i hi) (ka i (by omega)) (kb i (by omega));have hme:=fun i (hi:i<(zaa w ⟨ta,tk⟩ a.ctor).length)=>zja hs 11 m (t:=nth (zaa w ⟨ta,tk⟩ a.ctor) i) (by omega) (hins i hi) (ka i (by omega)) (zdl (by omega) (kb i (by omega)));rw[e] at hbd ⊢;have hT:∀i out front,i<(zaa w ⟨ta,tk⟩ a.ctor).length->out++zaP (zat w n) a.ctor ((zaa w ⟨ta,tk⟩ a.ctor).drop i) (a.kids.drop i) (b.kids.drop i) front=zaP (zat w n) a.ctor (zaa w ⟨ta,tk⟩ a.ctor) a.kids b.kids []->
   out.length+(zat w n (nth (zaa w ⟨ta,tk⟩ a.ctor) i) (nth a.kids i) (nth b.kids i)).length<=20000000:=fun i out front hi h=>by
  rw[zih hi (by omega) (by omega)] at h;have:=congrArg List.length h;simp only[xaa,xac] at this;omega
 refine bd Tryz.f157 100 [] [] fun w0 F0 own kept hk=>?_;refine bx 3005 ?_;refine bx 3006 ?_;refine bx 3007 ?_;refine ev ?_;refine xbi 9 sl26 .none rfl rfl ?_;refine ev ?_;refine wc zgB (zcr hs.dp.wt (zb7 ht) c1) rfl rfl ?_;refine ev ?_;refine xbi 8 sl26 .none rfl rfl ?_;refine ev ?_;refine xak (ι:=Nat×List Pat×List Pat) hk (fun s=>[(12,.d (.i (s.1:Int))),(9,.gl 9 (s.2.1.map Pat.cc)),(11,.gl 8 (s.2.2.map Pat.cc))]) [8,13,14,15,16,17,25,26,27,28,29,30,31,32,33,34,35,36,37,38,39,40,41,42,43,44,45,46,47,48,49,50,51,52,53,54,55,56,57,58,59,60,61,62,63,64,65,66,67,68,69,70,71,72,73,74,75,76,77,78,79,80,81,82,83,84,85,86,87,88,89,90,91,92,93,94,95,96,97,98] (fun s=>[(9,some (.tok ((s.2.1.map Pat.cc)).length 6)),(8,some (.tok ((s.2.2.map Pat.cc)).length 6))]) (fun s=>s.1<=a.kids.length/\s.2.2.length=s.1/\s.2.1++zaP (zat w n) a.ctor ((zaa w ⟨ta,tk⟩ a.ctor).drop s.1) (a.kids.drop s.1) (b.kids.drop s.1) s.2.2=zaP (zat w n) a.ctor (zaa w ⟨ta,tk⟩ a.ctor) a.kids b.kids []) (fun s=>a.kids.length-s.1) (0,[],[]) ⟨by simp,rfl,rfl⟩ ⟨⟨_,rfl,xaq ?_⟩,⟨⟨_,rfl,LeA.glg ?_⟩,⟨⟨_,rfl,LeA.glg ?_⟩,trivial⟩⟩⟩ ⟨zab ?_,⟨zab ?_,trivial⟩⟩ (fun x=>rfl) (fun s hg1=>?_);iterate 5 focus (rfl)
 refine evc [] [] ?_;refine sq ?_ ?_<;>intro h1 h1p h1s<;>(try simp only[Q,Pat.cs_len] at h1p);refine xaV zaW .none rfl rfl rfl rfl (zar (by omega)) rfl ?_;refine evd [] [] ?_;refine xaV sl26 .none rfl rfl rfl rfl (zaE (by omega)) rfl ?_;refine evd [] [] ?_;refine xaV sl26 .none rfl rfl rfl rfl (zaE (by omega)) rfl ?_;refine evd [] [] ?_;refine wc zqU (hmi s.1 (by omega)) rfl rfl ?_;refine evd [] [] ?_;refine dr ?_;refine xak (ι:=List (Pat)×List (Pat)) hk (fun x=>[(14,.d (.i (x.1.length:Int))),(9,.gl 9 ((s.2.1++x.1.map (fun z=>zbb a.ctor (s.2.2++[z]++a.kids.drop (s.1+1)))).map Pat.cc))]) [15,47,48,49,50,51,52,53,54,55,56,57,58,59,60,61,62,63,64,65,66,67,68,69,70,71,72,73,74,75,76,77] (fun x=>[(9,some (.tok (((s.2.1++x.1.map (fun z=>zbb a.ctor (s.2.2++[z]++a.kids.drop (s.1+1)))).map Pat.cc)).length 6))]) (fun x=>x.1++x.2=(zat w n (nth (zaa w ⟨ta,tk⟩ a.ctor) s.1) (nth a.kids s.1) (nth b.kids s.1))) (fun x=>x.2.length) ([],(zat w n (nth (zaa w ⟨ta,tk⟩ a.ctor) s.1) (nth a.kids s.1) (nth b.kids s.1))) (by simp) ⟨⟨_,rfl,xaq ?_⟩,⟨⟨_,rfl,LeA.glg ?_⟩,trivial⟩⟩ ⟨zab ?_,trivial⟩ (fun x=>rfl) (fun x hg2=>?_);iterate 3 focus ((simp;done))
 obtain⟨pre,rest⟩:=x;dsimp only at hg2 ⊢;refine evc [] [] ?_;refine sq ?_ ?_<;>intro h2 h2p h2s<;>(try simp only[Q,Pat.cs_len] at h2p);rcases rest with _|⟨y,rest⟩
 ·exfalso;simp_all
 refine xbi 7 sl26 .none rfl rfl ?_;refine evd [] [] ?_;refine ap sl26 zz28 rfl rfl rfl (by intro x hx;exact zhz _ x hx) (by(simp[Pat.cs_len];omega)) ?_;refine evd [] [] ?_;refine xaV sl26 .none rfl rfl rfl rfl (Pat.cs_at' hg2) rfl ?_;refine evd [] [] ?_;refine si [0] [_] sl26 tz28 ?_;refine ap sl26 zz28 rfl rfl rfl (by intro x hx;(simp at hx;subst hx;rfl)) (by(have h9:=hT s.1 s.2.1 s.2.2 (by omega) hg1.2.2;have h8:=congrArg List.length hg2;simp[Pat.cs_len] at h8 ⊢;omega)) ?_;refine bu [0,1,5] [_,_,_] st28 ?_;refine ab 3015 tz28 ?_;refine so ty28 ?_;refine dr ?_;refine ar ?_ (by(constructor<;>omega));refine xaR (b:=s.1+1) sl26 .none rfl rfl rfl (by intro x hx;exact zbH _ x hx) rfl rfl (by simp only[Pat.cs_len];omega) ?_;refine ap sl26 zz28 rfl rfl rfl (by intro x hx;exact zbH _ x (List.mem_of_mem_drop hx)) (by(have h9:=hT s.1 s.2.1 s.2.2 (by omega) hg1.2.2;have h8:=congrArg List.length hg2;simp[Pat.cs_len] at h8 ⊢;omega)) ?_;refine evd [] [] ?_;refine so ty26 ?_;refine dr ?_;refine si [0] [_] sl26 tz28 ?_;refine ap sl26 zz28 rfl rfl rfl (by intro x hx;(simp at hx;subst hx;rfl)) (by(have h9:=hT s.1 s.2.1 s.2.2 (by omega) hg1.2.2;have h8:=congrArg List.length hg2;simp[Pat.cs_len] at h8 ⊢;omega)) ?_;refine ev ?_;refine ar ?_ (by(have h9:=hT s.1 s.2.1 s.2.2 (by omega) hg1.2.2;have h8:=congrArg List.length hg2;simp only[xaa,xab] at h8;constructor<;>omega));refine xah ((pre++[y],rest)) ⟨(by have hz:=hg2;rw[<-hz];simp),(by simp),sx ⟨⟨_,rfl,xaq ?_⟩,⟨⟨_,rfl,LeA.glg ?_⟩,trivial⟩⟩ ⟨zab ?_,trivial⟩⟩;iterate 3 focus (first|(simp;done)|(simp only[xaf,List.append_assoc,xae,List.map_nil,zv0,xat a.kids,List.map_drop,List.nil_append,xag];done)|(simp;omega))
 have hrest:rest=[]:=by
  rcases rest with _|⟨a,b⟩
  ·rfl
  ·exfalso;have hz:=congrArg List.length (hg2);simp only[xaa,xab,xac] at hz;omega
 subst hrest;refine xaV sl26 .none rfl rfl rfl rfl (zaE (by omega)) rfl ?_;refine evd [] [] ?_;refine xaV sl26 .none rfl rfl rfl rfl (zaE (by omega)) rfl ?_;refine evd [] [] ?_;refine wc zw8 (hme s.1 (by omega)) rfl rfl ?_;refine evd [] [] ?_;refine ab 3016 tz28 ?_;refine so ty28 ?_;refine evd [] [] ?_;refine dr ?_;refine sq ?_ ?_<;>intro h3 h3p h3s;refine rn0 (r1 rfl) (.gld ?_);rotate_left;try simp only[Q,Pat.cs_len] at h3p
 refine si [0] [_] sl26 tz28 ?_;refine ap sl26 zz28 rfl rfl rfl (by intro x hx;(simp at hx;subst hx;rfl)) (by(have h9:=hT s.1 s.2.1 s.2.2 (by omega) hg1.2.2;have h8:=congrArg List.length hg2;simp[Pat.cs_len] at h8 ⊢;omega)) ?_;refine ev ?_;refine ar ?_ (by(constructor<;>omega));refine xah ((s.1+1,s.2.1++(zat w n (nth (zaa w ⟨ta,tk⟩ a.ctor) s.1) (nth a.kids s.1) (nth b.kids s.1)).map (fun z=>zbb a.ctor (s.2.2++[z]++a.kids.drop (s.1+1))),s.2.2++[zd1 11 (nth a.kids s.1) (nth b.kids s.1)])) ⟨⟨by dsimp only;omega,by dsimp only;rw[xaa,hg1.2.1];rfl,by dsimp only;rw[List.append_assoc,<-zrH (by omega) (by omega) (by omega) (by assumption)];exact hg1.2.2⟩,(by dsimp only;omega),sx ⟨⟨_,rfl,xaq ?_⟩,⟨⟨_,rfl,LeA.glg ?_⟩,⟨⟨_,rfl,LeA.glg ?_⟩,trivial⟩⟩⟩ ⟨zab ?_,⟨zab ?_,trivial⟩⟩⟩;iterate 5 focus ((simp_all;done))
 refine rn0 (r1 rfl) (.gld ?_);rotate_left;all_goals (first|(rw[<-hg1.2.2,znD (by omega),List.append_nil,xat];done)|(rw[List.append_nil] at hg2;rw[<-hg1.2.2,zlU (by omega) (by omega) (by omega) (by assumption),<-hg2,xat];all_goals rfl))
theorem zr7 {n:Nat}{ta tk:Int}{a b:Pat} (h:b.op=1):MinusSp w (n+1) ta tk a b:=by
 unfold MinusSp;rw[zft h];refine bd Tryz.f100 82 [] [] fun w0 F0 own kept hk=>?_;refine bx 3005 ?_;refine bx 3006 ?_;refine bx 3007 ?_;refine ev ?_;refine sq ?_ ?_<;>intro h1 h1p h1s;refine xbh sl26 .none rfl ?_;refine ev ?_;refine rq ?_;rotate_left;try simp only[Q] at h1p
 exfalso;omega;all_goals (rfl)
theorem zr8 {n:Nat}{ta tk:Int}{a b:Pat} (h:b.op=3) (ha:a.op=1\/a.op=3) (hbn:0<=b.n/\b.n<=9) (hbm:0<=b.m/\b.m<=9):MinusSp w (n+1) ta tk a b:=by
 unfold MinusSp;rw[zhw h];by_cases h1:a.op=1
 ·have e:zd8 a b=zbX 0 (minQ 9 (b.n-1))++zbX (maxQ 0 (b.m+1)) 9:=by
   have e1:lowQ a=0:=if_pos h1;have e2:zcs a=9:=if_pos h1;unfold zd8;rw[e1,e2]
  have hr:=zhZ (a:=intQ 0 9) hbn hbm;rw[e];refine bd Tryz.f100 82 [] [] fun w0 F0 own kept hk=>?_;refine bx 3005 ?_;refine bx 3006 ?_;refine bx 3007 ?_;refine ev ?_;refine sq ?_ ?_<;>intro h1 h1p h1s;try simp only[Q] at h1p
  exfalso;omega;refine sq ?_ ?_<;>intro h2 h2p h2s;refine sq ?_ ?_<;>intro h3 h3p h3s;refine bu [0,3] [_,_] st28 ?_;refine ev ?_;refine Walk.call (cr:=[]) zuw (hr) rfl .none rfl rfl (.cons (.agg (.cons (.refl _) (.cons (.refl _) (.cons (.refl _) (.cons (.refl _) (.cons (.refl _) (.cons .nil .nil))))))) (.cons (.refl _) .nil)) trivial rfl rfl rfl ?_;refine ev ?_;focus (refine rq ?_;all_goals (rfl))
  focus (exfalso;first|omega|(simp_all;done))
  try simp only[Q] at h2p
  exfalso;omega
 ·have e:zd8 a b=zbX a.n (minQ a.m (b.n-1))++zbX (maxQ a.n (b.m+1)) a.m:=by
   have e1:lowQ a=a.n:=if_neg h1;have e2:zcs a=a.m:=if_neg h1;unfold zd8;rw[e1,e2]
  have hr:=zhZ (a:=a) hbn hbm;rw[e];refine bd Tryz.f100 82 [] [] fun w0 F0 own kept hk=>?_;refine bx 3005 ?_;refine bx 3006 ?_;refine bx 3007 ?_;refine ev ?_;refine sq ?_ ?_<;>intro h1 h1p h1s;try simp only[Q] at h1p
  exfalso;omega;refine sq ?_ ?_<;>intro h2 h2p h2s;refine sq ?_ ?_<;>intro h3 h3p h3s;focus (exfalso;first|omega|(simp_all;done))
  refine sq ?_ ?_<;>intro h4 h4p h4s;refine wc zuw (hr) rfl rfl ?_;refine ev ?_;focus (refine rq ?_;all_goals (rfl))
  try simp only[Q] at h4p
  exfalso;omega;try simp only[Q] at h2p
  exfalso;omega
theorem zsb {n:Nat}{ta tk:Int}{a b:Pat} (h4:a.op=4) (h4b:b.op=4) (hc:¬a.ctor=b.ctor):MinusSp w (n+1) ta tk a b:=by
 unfold MinusSp;have e:zat w (n+1) ⟨ta,tk⟩ a b=[a]:=by rw[zc3 h4b h4];exact if_neg hc
 rw[e];refine bd Tryz.f100 82 [] [] fun w0 F0 own kept hk=>?_;refine bx 3005 ?_;refine bx 3006 ?_;refine bx 3007 ?_;refine ev ?_;refine sq ?_ ?_<;>intro h1 h1p h1s;try simp only[Q] at h1p
 exfalso;omega;refine sq ?_ ?_<;>intro h2 h2p h2s;try simp only[Q] at h2p
 exfalso;omega;refine sqF ?_;refine sq ?_ ?_<;>intro h4 h4p h4s;try simp only[Q] at h4p
 exfalso;omega;refine sq ?_ ?_<;>intro h5 h5p h5s;refine sq ?_ ?_<;>intro h6 h6p h6s;refine si [0] [_] sl26 tz28 ?_;refine ev ?_;refine rq ?_;rotate_left;focus (exfalso;first|omega|(simp_all;done))
 try simp only[Q] at h5p
 exfalso;omega;all_goals (first|rfl|(cases a;rfl))
theorem zsa (hs:Spa w){n m:Nat} (hn:n+1<=10) (hm:m+1<=11) (hnm:n<m)
  (ih:∀ {ta tk:Int}{a b:Pat},InS (w.length*4) ⟨ta,tk⟩->zaf w m ⟨ta,tk⟩ a=true->zaf w n ⟨ta,tk⟩ b=true->MinusSp w n ta tk a b)
  {ta tk:Int}{a b:Pat} (ht:InS (w.length*4) ⟨ta,tk⟩) (ha:zaf w (m+1) ⟨ta,tk⟩ a=true) (hb:zaf w (n+1) ⟨ta,tk⟩ b=true) (h4:a.op=4) (h4b:b.op=4) (hc:a.ctor=b.ctor):MinusSp w (n+1) ta tk a b:=by
 have hki:=zpc hs hn hm hnm ih ht ha hb h4 h4b hc;clear ih;unfold MinusSp;refine bd Tryz.f100 82 [] [] fun w0 F0 own kept hk=>?_;refine bx 3005 ?_;refine bx 3006 ?_;refine bx 3007 ?_;refine ev ?_;refine sq ?_ ?_<;>intro h1 h1p h1s;try simp only[Q] at h1p
 exfalso;omega;refine sq ?_ ?_<;>intro h2 h2p h2s;try simp only[Q] at h2p
 exfalso;omega;refine sqF ?_;refine sq ?_ ?_<;>intro h4 h4p h4s;try simp only[Q] at h4p
 exfalso;omega;refine sq ?_ ?_<;>intro h5 h5p h5s;refine sq ?_ ?_<;>intro h6 h6p h6s;focus (exfalso;first|omega|(simp_all;done))
 refine sq ?_ ?_<;>intro h7 h7p h7s;refine wc zyF (hki) rfl rfl ?_;refine ev ?_;focus (refine rq ?_;all_goals (rfl))
 try simp only[Q] at h7p
 exfalso;omega;try simp only[Q] at h5p
 exfalso;omega
theorem zr9 (hs:Spa w){n:Nat}{ta tk:Int}{a b:Pat} (ht:InS (w.length*4) ⟨ta,tk⟩) (h1:a.op=1) (h4b:b.op=4) (hbd:(zat w (n+1) ⟨ta,tk⟩ a b).length<=20000000)
  (hC:∀c∈zah w ⟨ta,tk⟩,MinusSp w (n+1) ta tk (zbP w ⟨ta,tk⟩ c) b):MinusSp w (n+1) ta tk a b:=by
 have e:zat w (n+1) ⟨ta,tk⟩ a b=(zah w ⟨ta,tk⟩).flatMap fun c=>zat w (n+1) ⟨ta,tk⟩ (zbP w ⟨ta,tk⟩ c) b:=by
  rw[zge h4b h1];exact congrArg (fun g=>(zah w ⟨ta,tk⟩).flatMap g) (funext fun c=>(zc3 h4b rfl).symm)
 unfold MinusSp;rw[e] at hbd ⊢;have hcl:=(hs.ctors _ ht).1;have hpre:∀ {pre rest:List Int}{y:Int},pre++y::rest=zah w ⟨ta,tk⟩->(pre.flatMap fun c=>zat w (n+1) ⟨ta,tk⟩ (zbP w ⟨ta,tk⟩ c) b).length+(zat w (n+1) ⟨ta,tk⟩ (zbP w ⟨ta,tk⟩ y) b).length<=20000000:=fun h=>by
  rw[<-h,List.flatMap_append,List.flatMap_cons] at hbd;simp only[xaa] at hbd;omega
 have hmem:∀ {pre rest:List Int}{y:Int},pre++y::rest=zah w ⟨ta,tk⟩->y∈zah w ⟨ta,tk⟩:=fun h=>by rw[<-h];simp
 refine bd Tryz.f100 82 [] [] fun w0 F0 own kept hk=>?_;refine bx 3005 ?_;refine bx 3006 ?_;refine bx 3007 ?_;refine ev ?_;refine sq ?_ ?_<;>intro h1 h1p h1s;try simp only[Q,Pat.cs_len] at h1p
 exfalso;omega;refine sq ?_ ?_<;>intro h2 h2p h2s;try simp only[Q,Pat.cs_len] at h2p
 exfalso;omega;refine sqF ?_;refine sq ?_ ?_<;>intro h4 h4p h4s;try simp only[Q,Pat.cs_len] at h4p
 exfalso;omega;refine sq ?_ ?_<;>intro h5 h5p h5s;try simp only[Q,Pat.cs_len] at h5p
 exfalso;omega;refine sqF ?_;refine sq ?_ ?_<;>intro h7 h7p h7s;try simp only[Q,Pat.cs_len] at h7p
 exfalso;omega;refine xbi 9 sl26 .none rfl rfl ?_;refine ev ?_;refine wc zh8 (zcc hs.dp.wt (zb7 ht)) rfl rfl ?_;refine ev ?_;refine xak (ι:=List (Int)×List (Int)) hk (fun x=>[(11,.d (.i (x.1.length:Int))),(9,.gl 9 (Pat.cs (x.1.flatMap fun c=>zat w (n+1) ⟨ta,tk⟩ (zbP w ⟨ta,tk⟩ c) b)))]) [62,63,64,65,66,67,68,69,70,71,72,73,74,75,76,77,78,79,80] (fun x=>[(9,some (.tok ((Pat.cs (x.1.flatMap fun c=>zat w (n+1) ⟨ta,tk⟩ (zbP w ⟨ta,tk⟩ c) b))).length 6))]) (fun x=>x.1++x.2=zah w ⟨ta,tk⟩) (fun x=>x.2.length) ([],zah w ⟨ta,tk⟩) (by simp) ⟨⟨_,rfl,xaq ?_⟩,⟨⟨_,rfl,LeA.glg ?_⟩,trivial⟩⟩ ⟨zab ?_,trivial⟩ (fun x=>rfl) (fun x hg1=>?_);iterate 3 focus (rfl)
 obtain⟨pre,rest⟩:=x;dsimp only at hg1 ⊢;refine evc [] [] ?_;refine sq ?_ ?_<;>intro h8 h8p h8s<;>(try simp only[Q,Pat.cs_len] at h8p);rcases rest with _|⟨y,rest⟩
 ·exfalso;simp_all
 refine xaV sl62 .none rfl rfl rfl rfl (zaI hg1) rfl ?_;refine evd [] [] ?_;refine wc zyG (zqr hs.dp.wt (zb7 ht) (hmem hg1) (hs.args _ _ ht (hmem hg1))) rfl rfl ?_;refine evd [] [] ?_;refine wc zqU (hC y (hmem hg1)) rfl rfl ?_;refine ap sl26 zz28 rfl rfl rfl (by exact zbH _) (by have h9:=hpre hg1;simp only[Pat.cs_len];omega) ?_;refine evd [] [] ?_;refine dr ?_;refine ar ?_;refine xah ((pre++[y],rest)) ⟨(by have hz:=hg1;rw[<-hz];simp),(by simp),sx ⟨⟨_,rfl,xaq ?_⟩,⟨⟨_,rfl,LeA.glg ?_⟩,trivial⟩⟩ ⟨zab ?_,trivial⟩⟩;iterate 3 focus (first|(rw[List.flatMap_append,xat,xat,xat,xaf];simp;done)|(simp[Pat.cs_len];done))
 have hrest:rest=[]:=by
  rcases rest with _|⟨a,b⟩
  ·rfl
  ·exfalso;have hz:=congrArg List.length (hg1);simp only[xaa,xab,xac] at hz;omega
 subst hrest;refine rn0 (r1 rfl) (.gld ?_);rotate_left;all_goals ((rw[List.append_nil] at hg1;rw[hg1];done))
theorem ziu (hs:Spa w):∀(n m:Nat){ta tk:Int}{a b:Pat},n<m->n<=10->m<=11->InS (w.length*4) ⟨ta,tk⟩->zaf w m ⟨ta,tk⟩ a=true->zaf w n ⟨ta,tk⟩ b=true->MinusSp w n ta tk a b
 |0,m,ta,tk,a,b,_,_,_,_,_,hb=>by simp[zaf] at hb
 |n+1,0,ta,tk,a,b,h,_,_,_,_,_=>by omega
 |n+1,m+1,ta,tk,a,b,h,hn,hm,ht,ha,hb=>by
  have hC:∀ {a:Pat},zaf w (m+1) ⟨ta,tk⟩ a=true->a.op=4->b.op=4->MinusSp w (n+1) ta tk a b:=fun {a} ha h4 h4b=>by
   by_cases hc:a.ctor=b.ctor
   ·exact zsa hs hn hm (by omega) (fun h1 h2 h3=>ziu hs n m (by omega) (by omega) (by omega) h1 h2 h3) ht ha hb h4 h4b hc
   ·exact zsb h4 h4b hc
  rcases zbq hb with h1|h3|h4b
  ·exact zr7 h1
  ·have:=zbG hb h3;refine zr8 h3 ?_ ⟨by omega,by omega⟩ ⟨by omega,by omega⟩;by_cases h1:a.op=1
   ·exact .inl h1
   ·exact .inr (by have:=zdm ha hb h1 (by omega);omega)
  ·by_cases h1:a.op=1
   ·obtain⟨m',rfl⟩:∃m',m=m'+1:=⟨m-1,by omega⟩;exact zr9 hs ht h1 h4b (zgf hs h hn ht ha hb) (fun c hc=>hC (zcG hc) rfl h4b)
   ·exact hC ha (by have:=zdm ha hb h1 (by omega);omega) h4b
end
def znt (w:List Data) (t:Ty) (b a:Pat):List Pat:=(zat w 10 t a b).filter (zbl w t)
def zgv (w:List Data) (t:Ty) (l:List Pat) (b:Pat) (k:Nat):List Pat:=(l.take k).flatMap (znt w t b)
theorem znM {w:List Data}{t:Ty}{l:List Pat}{b:Pat}:zbY w t l b=l.flatMap (znt w t b):=by
 unfold zbY;induction l with
 |nil=>rfl
 |cons x r ih=>rw[List.flatMap_cons,List.filter_append,List.flatMap_cons,ih];rfl
theorem zfv {w:List Data}{t:Ty}{l:List Pat}{b:Pat}{k:Nat} (h:l.length<=k):zgv w t l b k=zbY w t l b:=by
 rw[znM,zgv,List.take_of_length_le h]
theorem znN {w:List Data}{t:Ty}{l:List Pat}{b:Pat}{k:Nat} (h:k<l.length):zgv w t l b (k+1)=zgv w t l b k++znt w t b (nth l k):=by
 unfold zgv;have e:l[k]?=some (nth l k):=by simpa using zar (f:=id) h
 rw[List.take_add_one,e,List.flatMap_append];simp
theorem zwo {w:List Data}{t:Ty}{l:List Pat}{b:Pat} (k:Nat):(zgv w t l b k).length<=(zbY w t l b).length:=by
 rw[znM,zgv];conv=>rhs;rw[<-List.take_append_drop k l,List.flatMap_append]
 rw[xaa];omega
theorem zit {w:List Data} (hs:Spa w):∀(n:Nat){ta tk:Int}{p:Pat},InS (w.length*4) ⟨ta,tk⟩->zaf w n ⟨ta,tk⟩ p=true->
  FnD Tryz.prog 155 [.d (zal w),.d (ze0 (w.length*4) (zai w)),.agg [.d (.i ta),.d (.i tk)],.agg [.d (.i (p).op),.d (.i (p).ctor),.d (.i (p).n),.d (.i (p).m),.d (.i (p).var),.d (zae (p).kids)]] [] (.d (.bool (!zaV w (zai w) n ⟨ta,tk⟩ p))) []
 |0,ta,tk,p,_,h=>by simp[zaf] at h
 |n+1,ta,tk,p,ht,h=>by
  have hdp:=zel (f:=zai w) ht (by have:=hs.dp.four;omega);by_cases h1:p.op=1
  ·rw[zfo h1];refine bd Tryz.f155 45 [] [] fun w0 F0 own kept hk=>?_;refine bx 3006 ?_;refine bx 3007 ?_;refine ev ?_;refine sq ?_ ?_<;>intro h1 h1p h1s;refine wc zke (hdp) rfl rfl ?_;refine ev ?_;refine rq ?_;rotate_left;try simp only[Q] at h1p
   exfalso;omega;all_goals (refine congrArg D.bool ?_;rw[Bool.eq_iff_iff];simp;omega)
  by_cases h3:p.op=3
  ·rw[zlm h h3];refine bd Tryz.f155 45 [] [] fun w0 F0 own kept hk=>?_;refine bx 3006 ?_;refine bx 3007 ?_;refine ev ?_;refine sq ?_ ?_<;>intro h1 h1p h1s;try simp only[Q] at h1p
   exfalso;omega;refine sq ?_ ?_<;>intro h2 h2p h2s;refine rq ?_;rotate_left;try simp only[Q] at h2p
   exfalso;omega;all_goals (rfl)
  have h4:p.op=4:=by have:=zbq h;omega
  obtain⟨c1,c2,c3,-⟩:=zaD h h4;have h3l:=hs.args ⟨ta,tk⟩ p.ctor ht c1;have hk:=fun i (hi:i<p.kids.length)=>zaS h hi;rw[za0 h4] at hk;rw[ziT h4,Bool.not_not];have ih:=fun i (hi:i<p.kids.length)=>zit hs n (ta:=(nth (zaa w ⟨ta,tk⟩ p.ctor) i).data) (tk:=(nth (zaa w ⟨ta,tk⟩ p.ctor) i).index) (p:=nth p.kids i) (zbr hs.dp ht c1 _ (zac (by omega))) (hk i hi);refine bd Tryz.f155 45 [] [] fun w0 F0 own kept hk=>?_;refine bx 3006 ?_;refine bx 3007 ?_;refine ev ?_;refine sq ?_ ?_<;>intro h1 h1p h1s;try simp only[Q,Pat.cs_len] at h1p
  exfalso;omega;refine sq ?_ ?_<;>intro h2 h2p h2s;try simp only[Q,Pat.cs_len] at h2p
  exfalso;omega;refine wc zgB (zcr hs.dp.wt (zb7 ht) c1) rfl rfl ?_;refine ev ?_;refine xak (ι:=Nat) hk (fun i=>[(10,.d (.i (i:Int)))]) [8,26,27,28,29,30,31,32,33,34,35,36,37,38,39,40,41,42,43,44] (fun i=>[]) (fun i=>i<=(zaa w ⟨ta,tk⟩ p.ctor).length/\∀i',i'<i->(!zaV w (zai w) n (nth (zaa w ⟨ta,tk⟩ p.ctor) i') (nth p.kids i'))=true) (fun i=>(zaa w ⟨ta,tk⟩ p.ctor).length-i) 0 ⟨by omega,fun _ h=>absurd h (by omega)⟩ ⟨⟨_,rfl,xaq ?_⟩,trivial⟩ trivial (fun x=>rfl) (fun i hg1=>?_);focus (rfl)
  refine evc [] [] ?_;refine sq ?_ ?_<;>intro h3 h3p h3s<;>(try simp only[Q,Pat.cs_len] at h3p);refine xaV zaW .none rfl rfl rfl rfl (zar (by omega)) rfl ?_;refine evd [] [] ?_;refine xaV sl26 .none rfl rfl rfl rfl (zaE (by omega)) rfl ?_;refine evd [] [] ?_;refine wc zuv (ih i (by omega)) rfl rfl ?_;refine evd [] [] ?_;refine dr ?_;refine sq ?_ ?_<;>intro h4 h4p h4s;refine rq ?_;rotate_left;try simp only[Q,Pat.cs_len] at h4p
  refine ar ?_;refine xah (i+1) ⟨⟨by omega,zba hg1.2 (by(simp;assumption))⟩,(by omega),sx ⟨⟨_,rfl,xaq ?_⟩,trivial⟩ trivial⟩;focus (rfl)
  refine rq ?_;rotate_left;all_goals (refine congrArg D.bool ?_;first|(rw[zb9 (i:=i) (by omega) (by omega) (by first|assumption|(simp;assumption)|(simp_all;done))];done)|(rw[zcp (by omega) (fun x hx=>hg1.2 x (by omega))];done))
theorem zi9 {w:List Data} (hs:Spa w){ta tk:Int} (ht:InS (w.length*4) ⟨ta,tk⟩){l:List Pat} (hl:∀a∈l,zaf w 11 ⟨ta,tk⟩ a=true) (hb:l.length<=20000000):
  FnD Tryz.prog 99 [.d (zal w),.d (ze0 (w.length*4) (zai w)),.agg [.d (.i ta),.d (.i tk)],.d (zae l)] [] (.d (zae (l.filter (zbl w ⟨ta,tk⟩)))) []:=by
 have hal:∀a∈l,FnD Tryz.prog 155 [.d (zal w),.d (ze0 (w.length*4) (zai w)),.agg [.d (.i ta),.d (.i tk)],.agg [.d (.i (a).op),.d (.i (a).ctor),.d (.i (a).n),.d (.i (a).m),.d (.i (a).var),.d (zae (a).kids)]] [] (.d (.bool (zbl w ⟨ta,tk⟩ a))) []:=fun a ha=>zit hs 11 ht (hl a ha);have hle:∀ {pre rest:List Pat}{y:Pat},pre++y::rest=l->(pre.filter (zbl w ⟨ta,tk⟩)).length+1<=l.length:=fun {pre rest y} h=>by
  have h1:=List.length_filter_le (zbl w ⟨ta,tk⟩) pre;have h2:=congrArg List.length h;simp only[xaa,xab] at h2;omega
 refine bd Tryz.f99 34 [] [] fun w0 F0 own kept hk=>?_;refine bx 3006 ?_;refine ev ?_;refine xbi 9 sl26 .none rfl rfl ?_;refine ev ?_;refine xak (ι:=List (Pat)×List (Pat)) hk (fun x=>[(10,.d (.i (x.1.length:Int))),(9,.gl 9 (Pat.cs (x.1.filter (zbl w ⟨ta,tk⟩))))]) [12,13,14,15,16,17,18,19,20,21,22,23,24,25,26,27,28,29,30,31,32] (fun x=>[(9,some (.tok ((Pat.cs (x.1.filter (zbl w ⟨ta,tk⟩)))).length 6))]) (fun x=>x.1++x.2=l) (fun x=>x.2.length) ([],l) (by simp) ⟨⟨_,rfl,xaq ?_⟩,⟨⟨_,rfl,LeA.glg ?_⟩,trivial⟩⟩ ⟨zab ?_,trivial⟩ (fun x=>rfl) (fun x hg1=>?_);iterate 3 focus (rfl)
 obtain⟨pre,rest⟩:=x;dsimp only at hg1 ⊢;refine evc [] [] ?_;refine sq ?_ ?_<;>intro h1 h1p h1s<;>(try simp only[Q,Pat.cs_len] at h1p);rcases rest with _|⟨y,rest⟩
 ·exfalso;simp_all
 refine xaV sl26 .none rfl rfl rfl rfl (Pat.cs_at' hg1) rfl ?_;refine evd [] [] ?_;refine wc zuv (hal y (by rw[<-hg1];simp)) rfl rfl ?_;refine dr ?_;refine sq ?_ ?_<;>intro h2 h2p h2s<;>(try simp only[Q,Pat.cs_len] at h2p);refine xaV sl26 .none rfl rfl rfl rfl (Pat.cs_at' hg1) rfl ?_;refine ev ?_;refine si [0] [_] sl26 tz28 ?_;refine ap sl26 zz28 rfl rfl rfl (by intro x hx;simp at hx;subst hx;rfl) (by have h9:=hle hg1;simp[Pat.cs_len];omega) ?_;refine ev ?_;refine ar ?_;refine xah ((pre++[y],rest)) ⟨(by have hz:=hg1;rw[<-hz];simp),(by simp),sx ⟨⟨_,rfl,xaq ?_⟩,⟨⟨_,rfl,LeA.glg ?_⟩,trivial⟩⟩ ⟨zab ?_,trivial⟩⟩;iterate 3 focus (first|(dsimp only;rw[List.filter_append,List.filter_cons_of_pos (by assumption),List.filter_nil,xat (List.filter _ _),xat (_++_),xaf];rfl)|(dsimp only;rw[List.filter_append,List.filter_cons_of_pos (by assumption),List.filter_nil];simp[Pat.cs_len];done)|(simp;done))
 refine ar ?_;refine xah ((pre++[y],rest)) ⟨(by have hz:=hg1;rw[<-hz];simp),(by simp),sx ⟨⟨_,rfl,xaq ?_⟩,⟨⟨_,rfl,LeA.glg ?_⟩,trivial⟩⟩ ⟨zab ?_,trivial⟩⟩;iterate 3 focus (first|(dsimp only;rw[List.filter_append,List.filter_cons_of_neg (by simp_all),List.filter_nil,List.append_nil];done)|(simp;done))
 have hrest:rest=[]:=by
  rcases rest with _|⟨a,b⟩
  ·rfl
  ·exfalso;have hz:=congrArg List.length (hg1);simp only[xaa,xab,xac] at hz;omega
 subst hrest;refine rn0 (r1 rfl) (.gld ?_);rotate_left;all_goals ((rw[List.append_nil] at hg1;rw[hg1];done))
theorem zgN {w:List Data} (hs:Spa w){ta tk:Int} (ht:InS (w.length*4) ⟨ta,tk⟩){l away:List Pat} (hl:∀a∈l,zaf w 11 ⟨ta,tk⟩ a=true) (hb:∀b∈away,zaf w 10 ⟨ta,tk⟩ b=true) (hll:l.length<=400) (hal:away.length<=2000):
  FnD Tryz.prog 54 [.d (zal w),.d (ze0 (w.length*4) (zai w)),.agg [.d (.i ta),.d (.i tk)],.d (zae l),.d (zae away)] [] (.tup [.d (zae ((zaz w ⟨ta,tk⟩ l away).getD [])),.d (.bool (zaz w ⟨ta,tk⟩ l away).isSome)]) []:=by
 have hke:=zvG hs ht hl hb;have hmi:∀(c:List Pat) (i k:Nat),(∀a∈c,zaf w 11 ⟨ta,tk⟩ a=true)->i<away.length->k<c.length->(zat w 10 ⟨ta,tk⟩ (nth c k) (nth away i)).length<=20000000:=fun c i k hc hi hk=>zgf hs (by omega) (by omega) ht (hc _ (zac hk)) (hb _ (zac hi));have hkb:∀(c:List Pat) (i k:Nat),(∀a∈c,zaf w 11 ⟨ta,tk⟩ a=true)->i<away.length->k<c.length->(znt w ⟨ta,tk⟩ (nth away i) (nth c k)).length<=20000000:=fun c i k hc hi hk=>Nat.le_trans (List.length_filter_le _ _) (hmi c i k hc hi hk);rw[<-hke];have hno:∀(c:List Pat) (i k:Nat),i<away.length->400<(zgv w ⟨ta,tk⟩ c (nth away i) k).length->subL w ⟨ta,tk⟩ c (away.drop i)=none:=fun c i k hi h=>by
  have:=zwo (w:=w) (t:=⟨ta,tk⟩) (l:=c) (b:=nth away i) k;rw[zgP hi,if_neg (by omega)]
 refine bd Tryz.f54 60 [] [] fun w0 F0 own kept hk=>?_;refine bx 3007 ?_;refine ev ?_;refine xak (ι:=Nat×List Pat) hk (fun s=>[(12,.d (.i (s.1:Int))),(3,.d (zae s.2))]) [10,11,13,14,15,16,17,18,19,20,21,22,23,24,25,26,27,28,29,30,31,32,33,34,35,36,37,38,39,40,41,42,43,44,45,46,47,48,49,50,51,52,53,54] (fun s=>[]) (fun s=>s.1<=away.length/\subL w ⟨ta,tk⟩ s.2 (away.drop s.1)=subL w ⟨ta,tk⟩ l away/\(∀a∈s.2,zaf w 11 ⟨ta,tk⟩ a=true)/\s.2.length<=400) (fun s=>away.length-s.1) (0,l) ⟨by simp,rfl,hl,hll⟩ ⟨⟨_,rfl,xaq ?_⟩,⟨⟨_,rfl, ?_⟩,trivial⟩⟩ trivial (fun x=>rfl) (fun s hg1=>?_);focus (rfl)
 focus (exact LeA.refl _)
 refine evc [] [] ?_;refine sq ?_ ?_<;>intro h1 h1p h1s<;>(try simp only[Q,Pat.cs_len] at h1p);refine xbi 9 sl26 .none rfl rfl ?_;refine ev ?_;refine xak (ι:=Nat) hk (fun k=>[(14,.d (.i (k:Int))),(13,.gl 9 (Pat.cs (zgv w ⟨ta,tk⟩ s.2 (nth away s.1) k)))]) [22,23,24,25,26,27,28,29,30,31,32,33,34,35,36,37,38,39,40,41,42,43,44,45,46,47,48,49] (fun k=>[(9,some (.tok ((Pat.cs (zgv w ⟨ta,tk⟩ s.2 (nth away s.1) k))).length 6))]) (fun k=>k<=s.2.length) (fun k=>s.2.length-k) 0 (by omega) ⟨⟨_,rfl,xaq ?_⟩,⟨⟨_,rfl,LeA.glg ?_⟩,trivial⟩⟩ ⟨zab ?_,trivial⟩ (fun x=>rfl) (fun k hg2=>?_);iterate 3 focus (rfl)
 refine evc [] [] ?_;refine sq ?_ ?_<;>intro h2 h2p h2s<;>(try simp only[Q,Pat.cs_len] at h2p);refine sq ?_ ?_<;>intro h3 h3p h3s<;>(try simp only[Q,Pat.cs_len] at h3p);refine xaV sl26 .none rfl rfl rfl rfl (zaE (by omega)) rfl ?_;refine evd [] [] ?_;refine xaV sl26 .none rfl rfl rfl rfl (zaE (by omega)) rfl ?_;refine evd [] [] ?_;refine wc zqU (ziu hs 10 11 (by omega) (by omega) (by omega) ht (hg1.2.2.1 _ (zac (by omega))) (hb _ (zac (by omega)))) rfl rfl ?_;refine wc zxd (show FnD _ _ _ _ (.d (zae (znt w ⟨ta,tk⟩ (nth away s.1) (nth s.2 k)))) _ from zi9 hs ht (zfQ 10 11 (by omega) (hg1.2.2.1 _ (zac (by omega))) (hb _ (zac (by omega)))) (hmi s.2 s.1 k hg1.2.2.1 (by omega) (by omega))) rfl rfl ?_;refine ap sl26 zz28 rfl rfl rfl (by exact zbH _) (by have h9:=hkb s.2 s.1 k hg1.2.2.1 (by omega) (by omega);simp only[Pat.cs_len];omega) ?_;refine evd [] [] ?_;refine dr ?_;refine ar ?_;refine xah (k+1) ⟨(by omega),(by omega),sx ⟨⟨_,rfl,xaq ?_⟩,⟨⟨_,rfl,LeA.glg ?_⟩,trivial⟩⟩ ⟨zab ?_,trivial⟩⟩;iterate 3 focus (first|rfl|(rw[znN (by omega),xat,xat,xat,xaf];done)|(rw[znN (by omega)];simp[Pat.cs_len];done))
 refine sq ?_ ?_<;>intro h4 h4p h4s<;>(try simp only[Q,Pat.cs_len] at h4p);refine xbh sl26 .none rfl ?_;refine ev ?_;refine rn0 (r2 rfl rfl) (.tup (.cons (.eqd ?_) (.cons (.eqd ?_) .nil)));rotate_left 2;refine ar ?_;refine xah ((s.1+1,zbY w ⟨ta,tk⟩ s.2 (nth away s.1))) ⟨(by
    have hk:s.2.length<=k:=by omega
    have h4:(zbY w ⟨ta,tk⟩ s.2 (nth away s.1)).length<=400:=by rw[<-zfv hk];omega
    have e:=zgP (w:=w) (t:=⟨ta,tk⟩) (l:=s.2) (away:=away) (i:=s.1) (by omega);rw[if_pos h4] at e;refine⟨by dsimp only;omega, ?_,zeQ hg1.2.2.1 (hb _ (zac (by omega))),h4⟩;dsimp only;rw[<-e];exact hg1.2.1),(by dsimp only;omega),sx ⟨⟨_,rfl,xaq ?_⟩,⟨⟨_,rfl, ?_⟩,trivial⟩⟩ trivial⟩
 focus (rfl)
 focus (((first|refine LeA.gld ?_|refine LeA.nild ?_);first|rfl|(rw[zfv (by omega)];done)|(dsimp only;rw[zfv (by omega)];done)|(simp;done)|omega))
 refine sqF ?_;refine sq ?_ ?_<;>intro h6 h6p h6s<;>(try simp only[Q,Pat.cs_len] at h6p);refine xbh sl26 .none rfl ?_;refine ev ?_;refine rn0 (r2 rfl rfl) (.tup (.cons (.eqd ?_) (.cons (.eqd ?_) .nil)));rotate_left 2;refine ar ?_;refine xah ((s.1+1,zbY w ⟨ta,tk⟩ s.2 (nth away s.1))) ⟨(by
    have hk:s.2.length<=k:=by omega
    have h4:(zbY w ⟨ta,tk⟩ s.2 (nth away s.1)).length<=400:=by rw[<-zfv hk];omega
    have e:=zgP (w:=w) (t:=⟨ta,tk⟩) (l:=s.2) (away:=away) (i:=s.1) (by omega);rw[if_pos h4] at e;refine⟨by dsimp only;omega, ?_,zeQ hg1.2.2.1 (hb _ (zac (by omega))),h4⟩;dsimp only;rw[<-e];exact hg1.2.1),(by dsimp only;omega),sx ⟨⟨_,rfl,xaq ?_⟩,⟨⟨_,rfl, ?_⟩,trivial⟩⟩ trivial⟩
 focus (rfl)
 focus (((first|refine LeA.gld ?_|refine LeA.nild ?_);first|rfl|(rw[zfv (by omega)];done)|(dsimp only;rw[zfv (by omega)];done)|(simp;done)|omega))
 refine wc zxd (zi9 hs ht hg1.2.2.1 (by omega)) rfl rfl ?_;refine ev ?_;refine rn0 (r2 rfl rfl) (.tup (.cons (.eqd ?_) (.cons (.eqd ?_) .nil)));rotate_left 2;all_goals (first|(rw[<-hg1.2.1,hno s.2 s.1 k (by omega) (by omega)];rfl)|(rw[<-hg1.2.1,zsc (by omega)];rfl))
theorem zi8:∀(n:Nat){p:Pat},p.size<=n->p.ok->FnD Tryz.prog 162 [.agg [.d (.i (p).op),.d (.i (p).ctor),.d (.i (p).n),.d (.i (p).m),.d (.i (p).var),.d (zae (p).kids)]] [] (.agg [.d (.i (p).op),.d (.i (p).ctor),.d (.i (p).n),.d (.i (p).m),.d (.i (p).var),.d (zae (p).kids)]) []
 |0,p,h,_=>by rw[Pat.size_eq] at h;omega
 |n+1,p,h,hok=>by
  rw[Pat.size_eq] at h;rw[Pat.ok_iff] at hok;have hok1:=hok.1;refine bd Tryz.f162 26 [] [] fun w0 F0 own kept hk=>?_;refine bx 3001 ?_;refine ab 3002 tz28 ?_;refine tv ?_;refine ab 3003 tz28 ?_;refine so ty28 ?_;refine tv ?_;refine so ty26 ?_;refine tv ?_;refine xan 3003 5 7 6 rfl rfl rfl rfl ?_;refine xak (ι:=List (Pat)×List (Pat)) hk (fun x=>[(4,.d (.i (x.1.length:Int)))]) [7,8,9,10,11,12,13,14,15,16,17,18,19,20,21,22,23,24] (fun x=>[(3003,some (.box [.d (.i p.op),.d (.i p.ctor),.d (.i p.n),.d (.i p.m),.d (.i p.var),.gl 7 (x.1.map Pat.cc)])),(7,some (.tok (x.1.map Pat.cc).length 6))]) (fun x=>x.1++x.2=p.kids) (fun x=>x.2.length) ([],p.kids) (by simp) ⟨⟨_,rfl,xaq ?_⟩,trivial⟩ ⟨?_,⟨zab ?_,trivial⟩⟩ (fun x=>rfl) (fun x hg1=>?_);focus (rfl)
  focus (first|rfl|(simp[getH];done))
  focus (rfl)
  obtain⟨pre,rest⟩:=x;dsimp only at hg1 ⊢;refine evc [] [] ?_;refine sq ?_ ?_<;>intro h1 h1p h1s<;>(try simp only[Q,Pat.cs_len] at h1p);rcases rest with _|⟨y,rest⟩
  ·exfalso;simp_all
  refine xaV sl26 .none rfl rfl rfl rfl (Pat.cs_at' hg1) rfl ?_;refine evd [] [] ?_;refine wc zux (zi8 n (p:=y) (by have:=Pats.size_mem (l:=p.kids) (v:=y) (by rw[<-hg1];simp);omega) (Pats.ok_mem hok.2 y (by rw[<-hg1];simp))) rfl rfl ?_;refine si [0] [_] sl26 tz28 ?_;refine ap sl26 zz28 rfl rfl rfl (by intro x hx;(simp at hx;subst hx;rfl)) (by have:=congrArg List.length hg1;simp at this;simp;omega) ?_;refine evd [] [] ?_;refine so ty26 ?_;refine dr ?_;refine ar ?_;refine xah ((pre++[y],rest)) ⟨(by have hz:=hg1;rw[<-hz];simp),(by simp),sx ⟨⟨_,rfl,xaq ?_⟩,trivial⟩ ⟨?_,⟨zab ?_,trivial⟩⟩⟩;focus ((simp;done))
  focus (first|rfl|(simp[getH];done))
  focus ((simp;done))
  have hrest:rest=[]:=by
   rcases rest with _|⟨a,b⟩
   ·rfl
   ·exfalso;have hz:=congrArg List.length (hg1);simp only[xaa,xab,xac] at hz;omega
  subst hrest;refine so ty28 ?_;refine tv ?_;refine rn0 (.cons (.cellA ty28 rfl rfl rfl) .nil) (.agg (.cons (.eqd ?_) (.cons (.eqd ?_) (.cons (.eqd ?_) (.cons (.eqd ?_) (.cons (.eqd ?_) (.cons (.gld ?_) .nil)))))));rotate_left 6;all_goals (first|rfl|(rw[List.append_nil] at hg1;rw[<-hg1,xat];done))
theorem zqq {l:List Pat} (h:l.length<=1000000000000) (hok:∀p∈l,p.ok):FnD Tryz.prog 102 [.d (zae l)] [] (.d (zae l)) []:=by
 refine bd Tryz.f102 21 [] [] fun w0 F0 own kept hk=>?_;refine xbi 1 sl26 .none rfl rfl ?_;refine ev ?_;refine xak (ι:=List (Pat)×List (Pat)) hk (fun x=>[(4,.d (.i (x.1.length:Int))),(3,.gl 1 (x.1.map Pat.cc))]) [6,7,8,9,10,11,12,13,14,15,16,17,18,19] (fun x=>[(1,some (.tok ((x.1.map Pat.cc)).length 6))]) (fun x=>x.1++x.2=l) (fun x=>x.2.length) ([],l) (by simp) ⟨⟨_,rfl,xaq ?_⟩,⟨⟨_,rfl,LeA.glg ?_⟩,trivial⟩⟩ ⟨zab ?_,trivial⟩ (fun x=>rfl) (fun x hg1=>?_);iterate 3 focus (rfl)
 obtain⟨pre,rest⟩:=x;dsimp only at hg1 ⊢;refine evc [] [] ?_;refine sq ?_ ?_<;>intro h1 h1p h1s<;>(try simp only[Q,Pat.cs_len] at h1p);rcases rest with _|⟨y,rest⟩
 ·exfalso;simp_all
 refine xaV sl26 .none rfl rfl rfl rfl (Pat.cs_at' hg1) rfl ?_;refine ev ?_;refine wc zux (zi8 _ (Nat.le_refl _) (hok y (by rw[<-hg1];simp))) rfl rfl ?_;refine si [0] [_] sl26 tz28 ?_;refine ap sl26 zz28 rfl rfl rfl (by intro x hx;simp at hx;subst hx;rfl) (by have:=congrArg List.length hg1;simp at this;simp;omega) ?_;refine ev ?_;refine ar ?_;refine xah ((pre++[y],rest)) ⟨(by have hz:=hg1;rw[<-hz];simp),(by simp),sx ⟨⟨_,rfl,xaq ?_⟩,⟨⟨_,rfl,LeA.glg ?_⟩,trivial⟩⟩ ⟨zab ?_,trivial⟩⟩;iterate 3 focus ((simp;done))
 have hrest:rest=[]:=by
  rcases rest with _|⟨a,b⟩
  ·rfl
  ·exfalso;have hz:=congrArg List.length (hg1);simp only[xaa,xab,xac] at hz;omega
 subst hrest;refine rn0 (r1 rfl) (.gld ?_);rotate_left;all_goals ((rw[List.append_nil] at hg1;rw[<-hg1,xat];done))
theorem zk8 {p:Pat} (h:zbm p=true):za6 (zav p)=zbp p:=by
 unfold zbm at h;have h40:=of_decide_eq_true h;unfold za6 zbp;rw[if_pos h40,List.take_of_length_le (by omega)]
theorem zp3 {p:Pat}:((40:Int)<((za6 (zav p)).length:Int))↔zbm p=false:=by
 unfold zbm za6;rw[List.length_take,decide_eq_false_iff_not];omega
theorem zok {w:List Data} (hs:Spa w){ta tk:Int} (ht:InS (w.length*4) ⟨ta,tk⟩){l:List Pat}{ok:Bool} (hl:∀a∈l,a.ok/\a.size<=1000000000000) (hb:l.length<=1000000000000):
  FnD Tryz.prog 55 [.d (zal w),.agg [.d (.i ta),.d (.i tk)],.d (zae l),.d (.bool ok)] [] (.tup [.d (zae (if l.all (isP w ⟨ta,tk⟩)=true then l else [])),.d (.bool (l.all (isP w ⟨ta,tk⟩)&&ok))]) []:=by
 have hbad:∀i,i<l.length->isP w ⟨ta,tk⟩ (nth l i)=false->l.all (isP w ⟨ta,tk⟩)=false:=fun i hi h=>by
  cases hq:l.all (isP w ⟨ta,tk⟩) with
  |false=>rfl
  |true=>have:=List.all_eq_true.1 hq _ (zac hi);rw[h] at this;cases this
 have hgood:(∀i,i<l.length->isP w ⟨ta,tk⟩ (nth l i)=true)->l.all (isP w ⟨ta,tk⟩)=true:=fun h=>List.all_eq_true.2 fun x hx=>by
  obtain⟨i,hi,rfl⟩:=List.getElem_of_mem hx;have:=h i hi;rwa [zaM hi] at this
 refine bd Tryz.f55 29 [] [] fun w0 F0 own kept hk=>?_;refine bx 3005 ?_;refine ev ?_;refine xak (ι:=Nat) hk (fun i=>[(10,.d (.i (i:Int)))]) [8,9,11,12,13,14,15,16,17,18,19,20,21,22,23,24,25] (fun i=>[]) (fun i=>i<=l.length/\∀i',i'<i->isP w ⟨ta,tk⟩ (nth l i')=true) (fun i=>l.length-i) 0 ⟨by omega,fun _ h=>absurd h (by omega)⟩ ⟨⟨_,rfl,xaq ?_⟩,trivial⟩ trivial (fun x=>rfl) (fun i hg1=>?_);focus (rfl)
 refine evc [] [] ?_;refine sq ?_ ?_<;>intro h1 h1p h1s<;>(try simp only[Q,Pat.cs_len] at h1p);refine xaV sl26 .none rfl rfl rfl rfl (zaE (by omega)) rfl ?_;refine evd [] [] ?_;refine wc zmQ (zfY hs.dp.wt (zb7 ht) (hl _ (zac (i:=i) (by omega))).1 (hl _ (zac (by omega))).2) rfl rfl ?_;refine evd [] [] ?_;refine dr ?_;refine sq ?_ ?_<;>intro h2 h2p h2s;refine xbh sl26 .none rfl ?_;refine ev ?_;refine rn0 (r2 rfl rfl) (.tup (.cons (.eqd ?_) (.cons (.eqd ?_) .nil)));rotate_left 2;try simp only[Q,Pat.cs_len] at h2p
 refine ar ?_;refine xah (i+1) ⟨⟨by omega,zba hg1.2 (by assumption)⟩,(by omega),sx ⟨⟨_,rfl,xaq ?_⟩,trivial⟩ trivial⟩;focus (rfl)
 refine wc zyk (zqq hb (fun p hp=>(hl p hp).1)) rfl rfl ?_;refine ev ?_;refine rn0 (r2 rfl rfl) (.tup (.cons (.eqd ?_) (.cons (.eqd ?_) .nil)));rotate_left 2;all_goals (first|(rw[hbad i (by omega) (by assumption)];rfl)|(rw[hgood (fun x hx=>hg1.2 x (by omega))];rfl))
end Go.Proofs.YtpgdedpljcedpaaGreat
namespace Go.Proofs.YtpgdedpljcedpaaGreat
open Go
set_option linter.unusedSimpArgs false
set_option linter.unusedVariables false
section
variable {c:Ctx}{all:Array Oper}{chk:List Rec->Prop}{os:List Oper}{recs:List Rec}{env:Env}{hp:Hp}{Q:St->Prop}
variable {d ty:Nat}{pos:String}{af:Array Edge}{g:Option (Nat×Bool)}{pg:List (Nat×AV)}{t yt:TypeId}{x y:Operand}
theorem Walk.cut_lh {e k yb:Nat}{xs:List (List D)}{vx:AV}{o o2:Operand}{kd kd2:IntKind}{n n2:Int}{a b:Nat} (ht:SlT c.P t e k yb) (hg:GH all env g pg) (hd:Nat.blt d c.n=true)
  (hx:opd env x=some vx) (hxd:vx.toD=some (.sl xs)) (hk:∀x,x∈xs->x.length=k) (ho:opd env o=some (.d (.int kd n))) (ho2:opd env o2=some (.d (.int kd2 n2))) (hi:n = ↑a) (hi2:n2 = ↑b) (hab:a<=b) (hb:b<=xs.length)
  (hn:Walk c all chk os (zap (pg++opFL [x,o,o2] [vx,.d (.int kd n),.d (.int kd2 n2)]) [] [] ⟨some (d,.d (.sl ((xs.drop a).take (b-a)))),[]⟩::recs) ⟨(d,.d (.sl ((xs.drop a).take (b-a))))::env,hp⟩ Q):
  Walk c all chk (⟨some d,.slice t x (some o) (some o2) none,ty,pos,af,g⟩::os) recs ⟨env,hp⟩ Q:=
 xbd hg hd (by simp[opdL,hx,ho,ho2]) (fun ac G T w h=>by
  have h0:=h.2 0 (by simp) (by simp);have h1:=h.2 1 (by simp) (by simp);have h2:=h.2 2 (by simp) (by simp);simp only[List.getElem_cons_zero,List.getElem_cons_succ] at h0 h1 h2;obtain⟨u,h3,h4⟩:=zjH (P:=c.P) (w:=w) ht (h0.toD hxd) hk (lo:=some (.int kd a)) (hi:=some (.int kd2 b)) (a:=a) (b:=b) (.inr ⟨kd,rfl⟩) (.inr ⟨kd2,rfl⟩) hab hb;exact⟨u,by simp only[execOp,h1.int_eq,h2.int_eq,hi,hi2,Option.map_none,Option.map_some,Sem.run_bind,h3,Result.andThen_ok,Sem.run_pure],.d h4⟩) hn
end
end Go.Proofs.YtpgdedpljcedpaaGreat
namespace Go.Proofs.YtpgdedpljcedpaaGreat
open Go
set_option linter.unusedSimpArgs false
set_option linter.unusedVariables false
set_option maxRecDepth 100000
set_option maxHeartbeats 2000000
abbrev sepV (w:List Data) (t:Ty) (l:List Pat):Option (List Pat):=sepQ w t [] l []
theorem zr3 {w:List Data}{t:Ty}{l o:List Pat}{i:Nat} (h:i<l.length):sepQ w t (l.take i) (l.drop i) o=match zaz w t [nth l i] (l.take i) with
  |none=>none
  |some m=>sepQ w t (l.take (i+1)) (l.drop (i+1)) (o++m):=by
 rw[zaK h,sepQ];have e:l.take i++[nth l i]=l.take (i+1):=by rw[List.take_succ_eq_append_getElem h,zaM h]
 rw[e];all_goals (cases zaz w t [nth l i] (l.take i)<;>rfl)
theorem ztp {w:List Data}{t:Ty}{l o:List Pat}{i:Nat} (h:l.length<=i):sepQ w t (l.take i) (l.drop i) o=some o:=by
 rw[List.drop_eq_nil_of_le h,sepQ]
theorem zr2 {w:List Data}{t:Ty}{l o m:List Pat}{i:Nat} (h:i<l.length) (hw:zaz w t [nth l i] (l.take i)=some m):sepQ w t (l.take i) (l.drop i) o=sepQ w t (l.take (i+1)) (l.drop (i+1)) (o++m):=by
 rw[zr3 h,hw]
theorem zto {w:List Data}{t:Ty}{l o:List Pat}{i:Nat} (h:i<l.length) (hw:zaz w t [nth l i] (l.take i)=none):sepQ w t (l.take i) (l.drop i) o=none:=by
 rw[zr3 h,hw]
theorem zvy {w:List Data}{t:Ty}:∀(r front o:List Pat){res:List Pat},sepQ w t front r o=some res->o.length<=res.length
 | [],_,o,res,h=>by rw[sepQ] at h;cases h;exact Nat.le_refl _
 |p::r,front,o,res,h=>by
  rw[sepQ] at h;cases hw:zaz w t [p] front with
  |none=>rw[hw] at h;cases h
  |some m=>
   rw[hw] at h;have:=zvy r _ _ h;rw[xaa] at this;omega
theorem zio {w:List Data}{t:Ty}:∀(r front o:List Pat){res:List Pat},(∀b∈front,zaf w 10 t b=true)->(∀b∈r,zaf w 10 t b=true)->(∀b∈o,zaf w 11 t b=true)->sepQ w t front r o=some res->∀x∈res,zaf w 11 t x=true
 | [],_,o,res,_,_,ho,h=>by rw[sepQ] at h;cases h;exact ho
 |p::r,front,o,res,hf,hr,ho,h=>by
  rw[sepQ] at h;cases hw:zaz w t [p] front with
  |none=>rw[hw] at h;cases h
  |some m=>
   rw[hw] at h;have hp:=hr p (by simp);have h1:=zfa front _ m (fun a ha=>by rw[List.mem_singleton.1 (List.mem_filter.1 ha).1];exact zdl (by omega) hp) (Nat.le_trans (List.length_filter_le _ _) (by simp)) hf hw;refine zio r _ _ (fun b hb=>?_) (fun b hb=>hr b (by simp[hb])) (fun b hb=>?_) h
   ·rcases List.mem_append.1 hb with hb|hb
    ·exact hf b hb
    ·rw[List.mem_singleton.1 hb];exact hp
   ·rcases List.mem_append.1 hb with hb|hb
    ·exact ho b hb
    ·exact h1.2 b hb
def FewQ (w:List Data) (t:Ty) (l:List Pat):Prop:=∀res,sepV w t l=some res->res.length<=400
theorem zpY {w:List Data}{ta tk:Int}{l:List Pat} (hl:∀a∈l,zaf w 10 ⟨ta,tk⟩ a=true) (i:Nat):((zaz w ⟨ta,tk⟩ [nth l i] (l.take i)).getD []).length<=400:=by
 cases hw:zaz w ⟨ta,tk⟩ [nth l i] (l.take i) with
 |none=>simp
 |some m=>
  by_cases hi:i<l.length
  ·exact(zfa (l.take i) _ m (fun a ha=>by rw[List.mem_singleton.1 (List.mem_filter.1 ha).1];exact zdl (by omega) (hl _ (zac hi))) (Nat.le_trans (List.length_filter_le _ _) (by simp)) (fun b hb=>hl b (List.mem_of_mem_take hb)) hw).1
  ·rw[List.take_of_length_le (by omega)] at hw;have e:nth l i=default:=by simp[nth,List.getD,List.getElem?_eq_none (by omega:l.length<=i)]
   rw[e] at hw;unfold zaz at hw;have hlen:∀(away c r:List Pat),c.length<=400->subL w ⟨ta,tk⟩ c away=some r->r.length<=400:=fun away=>by
    induction away with
    |nil=>intro c r hc h;rw[subL] at h;cases h;exact hc
    |cons b away ih=>
     intro c r hc h;rw[subL] at h;split at h
     ·rename_i h4;exact ih _ _ h4 h
     ·cases h
   exact hlen _ _ _ (Nat.le_trans (List.length_filter_le _ _) (by simp)) hw
theorem zs6 {l:List Pat} (i:Nat) (hi:i<l.length):zae [nth l i] = .sl [(nth l i).cc]/\zae (l.take i) = .sl ((Pat.cs l).take i)/\zae [nth l i] = .sl (((Pat.cs l).drop i).take (i+1-i)):=by
 have e1:zae [nth l i] = .sl [(nth l i).cc]:=by show D.sl (Pat.cs [nth l i])=_;rw[xat];rfl
 refine⟨e1, ?_, ?_⟩
 ·show D.sl (Pat.cs (l.take i))=_;rw[xat,xat,List.map_take]
 ·rw[e1,xat,<-List.map_drop,zaK hi,show i+1-i=1 by omega];rfl
section
variable {w:List Data} (hs:Spa w){ta tk:Int} (ht:InS (w.length*4) ⟨ta,tk⟩){l:List Pat} (hl:∀a∈l,zaf w 10 ⟨ta,tk⟩ a=true) (hb:l.length<=1600)
include hs ht hl hb
theorem zmo:FnD Tryz.prog 48 [.d (sPtr w (zai w)),.agg [.d (.i ta),.d (.i tk)],.d (zae l)] [] (.tup [.d (zae ((sepV w ⟨ta,tk⟩ l).getD [])),.d (.bool (sepV w ⟨ta,tk⟩ l).isSome)]) []:=by
 have hml:=zpY hl;have hc:∀i,i<l.length->FnD Tryz.prog 49 [.d (sPtr w (zai w)),.agg [.d (.i ta),.d (.i tk)],.d (.sl [(nth l i).cc]),.d (.sl ((Pat.cs l).take i))] [] (.tup [.d (zae ((zaz w ⟨ta,tk⟩ [nth l i] (l.take i)).getD [])),.d (.bool (zaz w ⟨ta,tk⟩ [nth l i] (l.take i)).isSome)]) []:=fun i hi=>by
  have h:=zif hs ht (l:=[nth l i]) (away:=l.take i) (fun a ha=>by rw[List.mem_singleton.1 ha];exact zdl (by omega) (hl _ (zac hi))) (fun b hb=>hl b (List.mem_of_mem_take hb)) (by simp) (by rw[List.length_take];omega);obtain⟨e1,e2,_⟩:=zs6 i hi;rw[e1,e2] at h;exact h
 have hbad:∀i o,i<l.length->(zaz w ⟨ta,tk⟩ [nth l i] (l.take i)).isSome=false->sepQ w ⟨ta,tk⟩ (l.take i) (l.drop i) o=none:=fun i o hi h=>zto hi (by simpa using h);have hgood:∀i o,i<l.length->(zaz w ⟨ta,tk⟩ [nth l i] (l.take i)).isSome=true->sepQ w ⟨ta,tk⟩ (l.take i) (l.drop i) o=sepQ w ⟨ta,tk⟩ (l.take (i+1)) (l.drop (i+1)) (o++(zaz w ⟨ta,tk⟩ [nth l i] (l.take i)).getD []):=fun i o hi h=>by
  obtain⟨m,hm⟩:=Option.isSome_iff_exists.1 h;rw[zr2 hi hm,hm];rfl
 refine bd Tryz.f48 38 [8] [] fun w0 F0 own kept hk=>?_;refine bx 3004 ?_;refine evs [8] [] ?_;refine xaE 9 6 .none rfl rfl ?_;refine tv ?_;refine xak (ι:=Nat×List Pat) hk (fun s=>[(15,.d (.i (s.1:Int))),(8,.gl 9 (Pat.cs s.2))]) [6,7,9,10,11,12,16,17,18,19,20,21,22,23,24,25,26,27,28,29,30,31,32,33,34,35,36] (fun s=>[(9,some (.tok ((Pat.cs s.2)).length 6))]) (fun s=>s.1<=l.length/\sepQ w ⟨ta,tk⟩ (l.take s.1) (l.drop s.1) s.2=sepV w ⟨ta,tk⟩ l/\s.2.length<=400*s.1) (fun s=>l.length-s.1) (0,[]) ⟨by simp,by simp,by simp⟩ ⟨⟨_,rfl,xaq ?_⟩,⟨⟨_,rfl,LeA.glg ?_⟩,trivial⟩⟩ ⟨zab ?_,trivial⟩ (fun x=>rfl) (fun s hg1=>?_);iterate 3 focus (rfl)
 refine evc [8] [] ?_;refine sq ?_ ?_<;>intro h1 h1p h1s<;>(try simp only[Q,Pat.cs_len] at h1p);refine xaV sl26 .none rfl rfl rfl rfl (zaE (by omega)) rfl ?_;refine evs [8] [] ?_;refine ab 3010 tz28 ?_;refine evs [8] [] ?_;refine so ty28 ?_;refine tv ?_;refine si [0] [_] sl26 tz28 ?_;refine evd [8] [] ?_;refine xaQ (b:=s.1) sl26 .none rfl rfl rfl (by exact zbH _) rfl rfl (by simp only[Pat.cs_len];omega) ?_;refine wc zw2 (hc s.1 (by omega)) rfl rfl ?_;refine evd [8] [] ?_;refine dr ?_;refine sq ?_ ?_<;>intro h2 h2p h2s<;>(try simp only[Q,Pat.cs_len] at h2p);refine rn0 (r2 rfl rfl) (.tup (.cons (.nild ?_) (.cons (.eqd ?_) .nil)));rotate_left 2;refine ap sl26 zz28 rfl rfl rfl (by exact zbH _) (by have h9:=hml s.1;simp only[Pat.cs_len];omega) ?_;refine asg ?_;refine tv ?_;refine ar ?_;refine xah ((s.1+1,s.2++(zaz w ⟨ta,tk⟩ [nth l s.1] (l.take s.1)).getD [])) ⟨(by
    refine⟨by dsimp only;omega, ?_, ?_⟩
    ·dsimp only;rw[<-hgood s.1 s.2 (by omega) (by first|assumption|simpa using h2p)];exact hg1.2.1
    ·have:=hml s.1;dsimp only;rw[xaa];omega),(by dsimp only;omega),sx ⟨⟨_,rfl,xaq ?_⟩,⟨⟨_,rfl,LeA.glg ?_⟩,trivial⟩⟩ ⟨zab ?_,trivial⟩⟩
 iterate 3 focus (first|(dsimp only;rw[xat,xat,xat,xaf];done)|(simp[Pat.cs_len];done))
 refine rn0 (r2 rfl rfl) (.tup (.cons (.gld ?_) (.cons (.eqd ?_) .nil)));rotate_left 2;all_goals (first|(rw[show sepV w ⟨ta,tk⟩ l=none from by rw[<-hg1.2.1];exact hbad s.1 s.2 (by omega) (by first|assumption|simpa using h2p)];rfl)|(rw[show sepV w ⟨ta,tk⟩ l=some s.2 from by rw[<-hg1.2.1];exact ztp (by omega)];rfl))
theorem zoj (hfew:FewQ w ⟨ta,tk⟩ l):FnD Tryz.prog 53 [.d (zal w),.d (ze0 (w.length*4) (zai w)),.agg [.d (.i ta),.d (.i tk)],.d (zae l)] [] (.tup [.d (zae ((sepV w ⟨ta,tk⟩ l).getD [])),.d (.bool (sepV w ⟨ta,tk⟩ l).isSome)]) []:=by
 have hml:=zpY hl;have hc:∀i,i<l.length->FnD Tryz.prog 54 [.d (zal w),.d (ze0 (w.length*4) (zai w)),.agg [.d (.i ta),.d (.i tk)],.d (.sl (((Pat.cs l).drop i).take (i+1-i))),.d (.sl ((Pat.cs l).take i))] [] (.tup [.d (zae ((zaz w ⟨ta,tk⟩ [nth l i] (l.take i)).getD [])),.d (.bool (zaz w ⟨ta,tk⟩ [nth l i] (l.take i)).isSome)]) []:=fun i hi=>by
  have h:=zgN hs ht (l:=[nth l i]) (away:=l.take i) (fun a ha=>by rw[List.mem_singleton.1 ha];exact zdl (by omega) (hl _ (zac hi))) (fun b hb=>hl b (List.mem_of_mem_take hb)) (by simp) (by rw[List.length_take];omega);obtain⟨_,e2,e3⟩:=zs6 i hi;rw[e3,e2] at h;exact h
 have hbad:∀i o,i<l.length->(zaz w ⟨ta,tk⟩ [nth l i] (l.take i)).isSome=false->sepQ w ⟨ta,tk⟩ (l.take i) (l.drop i) o=none:=fun i o hi h=>zto hi (by simpa using h);have hgood:∀i o,i<l.length->(zaz w ⟨ta,tk⟩ [nth l i] (l.take i)).isSome=true->sepQ w ⟨ta,tk⟩ (l.take i) (l.drop i) o=sepQ w ⟨ta,tk⟩ (l.take (i+1)) (l.drop (i+1)) (o++(zaz w ⟨ta,tk⟩ [nth l i] (l.take i)).getD []):=fun i o hi h=>by
  obtain⟨m,hm⟩:=Option.isSome_iff_exists.1 h;rw[zr2 hi hm,hm];rfl
 have hmany:∀i o,i<l.length->(zaz w ⟨ta,tk⟩ [nth l i] (l.take i)).isSome=true->sepQ w ⟨ta,tk⟩ (l.take i) (l.drop i) o=sepV w ⟨ta,tk⟩ l->(400:Int)<(o.length:Int)+(((zaz w ⟨ta,tk⟩ [nth l i] (l.take i)).getD []).length:Int)->sepV w ⟨ta,tk⟩ l=none:=fun i o hi h e h4=>by
  cases hv:sepV w ⟨ta,tk⟩ l with
  |none=>rfl
  |some res=>
   exfalso;have h1:=hfew res hv;rw[hv,hgood i o hi h] at e;have h2:=zvy _ _ _ e;rw[xaa] at h2;omega
 refine bd Tryz.f53 51 [] [] fun w0 F0 own kept hk=>?_;refine bx 3006 ?_;refine ev ?_;refine xbi 9 sl26 .none rfl rfl ?_;refine ev ?_;refine xak (ι:=Nat×List Pat) hk (fun s=>[(11,.d (.i (s.1:Int))),(10,.gl 9 (Pat.cs s.2))]) [8,9,12,13,15,16,17,18,19,20,21,22,23,24,25,26,27,28,29,30,31,32,33,34,35,36,37,38,39,40,41,42,43,44,45,46,47,48,49] (fun s=>[(9,some (.tok ((Pat.cs s.2)).length 6))]) (fun s=>s.1<=l.length/\sepQ w ⟨ta,tk⟩ (l.take s.1) (l.drop s.1) s.2=sepV w ⟨ta,tk⟩ l/\s.2.length<=400*s.1) (fun s=>l.length-s.1) (0,[]) ⟨by simp,by simp,by simp⟩ ⟨⟨_,rfl,xaq ?_⟩,⟨⟨_,rfl,LeA.glg ?_⟩,trivial⟩⟩ ⟨zab ?_,trivial⟩ (fun x=>rfl) (fun s hg1=>?_);iterate 3 focus (rfl)
 refine evc [] [] ?_;refine sq ?_ ?_<;>intro h1 h1p h1s<;>(try simp only[Q,Pat.cs_len] at h1p);refine ar ?_ (by(have h9:=hml s.1;(try simp only[Pat.cs_len]);constructor<;>omega));refine Walk.cut_lh (a:=s.1) (b:=(s.1+1)) sl26 .none rfl rfl rfl (by exact zbH _) rfl rfl rfl (by simp) (by omega) (by simp only[Pat.cs_len];omega) ?_;refine evd [] [] ?_;refine xaQ (b:=s.1) sl26 .none rfl rfl rfl (by exact zbH _) rfl rfl (by(simp only[Pat.cs_len];omega)) ?_;refine wc zw5 (hc s.1 (by omega)) rfl rfl ?_;refine evd [] [] ?_;refine dr ?_;refine sq ?_ ?_<;>intro h2 h2p h2s<;>(try simp only[Q,Pat.cs_len] at h2p);refine sqT ?_;refine xbh sl26 .none rfl ?_;refine ev ?_;refine rn0 (r2 rfl rfl) (.tup (.cons (.eqd ?_) (.cons (.eqd ?_) .nil)));rotate_left 2;refine ar ?_ (by(have h9:=hml s.1;(try simp only[Pat.cs_len]);constructor<;>omega));refine sq ?_ ?_<;>intro h4 h4p h4s<;>(try simp only[Q,Pat.cs_len] at h4p);refine xbh sl26 .none rfl ?_;refine ev ?_;refine rn0 (r2 rfl rfl) (.tup (.cons (.eqd ?_) (.cons (.eqd ?_) .nil)));rotate_left 2;refine ap sl26 zz28 rfl rfl rfl (by exact zbH _) (by have h9:=hml s.1;simp only[Pat.cs_len];omega) ?_;refine ev ?_;refine ar ?_ (by(have h9:=hml s.1;(try simp only[Pat.cs_len]);constructor<;>omega));refine xah ((s.1+1,s.2++(zaz w ⟨ta,tk⟩ [nth l s.1] (l.take s.1)).getD [])) ⟨(by
    refine⟨by dsimp only;omega, ?_, ?_⟩
    ·dsimp only;rw[<-hgood s.1 s.2 (by omega) (by first|assumption|simpa using h2p)];exact hg1.2.1
    ·have:=hml s.1;dsimp only;rw[xaa];omega),(by dsimp only;omega),sx ⟨⟨_,rfl,xaq ?_⟩,⟨⟨_,rfl,LeA.glg ?_⟩,trivial⟩⟩ ⟨zab ?_,trivial⟩⟩
 iterate 3 focus (first|(dsimp only;rw[xat,xat,xat,xaf];done)|(simp[Pat.cs_len];done))
 refine rn0 (r2 rfl rfl) (.tup (.cons (.gld ?_) (.cons (.eqd ?_) .nil)));rotate_left 2;all_goals (first|(rw[show sepV w ⟨ta,tk⟩ l=none from by rw[<-hg1.2.1];exact hbad s.1 s.2 (by omega) (by first|assumption|simpa using h2p)];rfl)|(rw[hmany s.1 s.2 (by omega) (by first|assumption|simpa using h2p) hg1.2.1 (by omega)];rfl)|(rw[show sepV w ⟨ta,tk⟩ l=some s.2 from by rw[<-hg1.2.1];exact ztp (by omega)];rfl))
end
def zhe (w:List Data) (t:Ty) (mine:List Pat) (l:List Cl):Option (List Pat):=match za5 l [] with
  |none=>none
  |some away=>match zaz w t mine away with
   |none=>none
   |some r=>if r.all (isP w t)=true then some r else none
def zeC (w:List Data) (t:Ty) (l:List Cl) (i:Nat):Option (List Pat):=if zbm (nth l i).pat=true then (match sepV w t (zbp (nth l i).pat) with
  |none=>none
  |some mine=>zhe w t mine (l.take i)) else none
def zcv (w:List Data) (a k:Int) (l:List Cl) (i:Int):Option (List Pat):=if za4 w ⟨a,k⟩ l=true/\0<=i/\i<(l.length:Int) then zeC w ⟨a,k⟩ l i.toNat else none
theorem zmu {w:List Data}{t:Ty}{l:List Cl}{i:Nat} (h:zbm (nth l i).pat=false):zeC w t l i=none:=by unfold zeC;rw[if_neg (by rw[h];simp)]
theorem zjE {w:List Data}{t:Ty}{l:List Cl}{i:Nat} (h:zbm (nth l i).pat=true) (h2:sepV w t (zbp (nth l i).pat)=none):zeC w t l i=none:=by unfold zeC;rw[if_pos h,h2]
theorem zjF {w:List Data}{t:Ty}{l:List Cl}{i:Nat}{mine:List Pat} (h:zbm (nth l i).pat=true) (h2:sepV w t (zbp (nth l i).pat)=some mine):zeC w t l i=zhe w t mine (l.take i):=by unfold zeC;rw[if_pos h,h2]
theorem ztk {w:List Data}{t:Ty}{l:List Cl}{m:List Pat} (h:za5 l []=none):zhe w t m l=none:=by unfold zhe;rw[h]
theorem zrY {w:List Data}{t:Ty}{l:List Cl}{m away:List Pat} (h:za5 l []=some away):zhe w t m l=if (((zaz w t m away).getD []).all (isP w t)&&(zaz w t m away).isSome)=true then some ((zaz w t m away).getD []) else none:=by
 unfold zhe;rw[h];cases hw:zaz w t m away with
 |none=>simp[hw]
 |some r=>simp[hw]
def FewC (w:List Data) (t:Ty) (l:List Cl):Prop:=∀c∈l,isP w t c.pat=true->FewQ w t (zbp c.pat)
theorem zgw {w:List Data} (hs:WSmall w){a k:Int}{l:List Cl} (hl:ClsOk l) (hv:za4 w ⟨a,k⟩ l=true):Spa w/\InS (w.length*4) ⟨a,k⟩/\(∀c∈l,zaq w 10 ⟨a,k⟩ c.pat=true/\c.pat.ok)/\l.length<=8/\(∀c∈l,isP w ⟨a,k⟩ c.pat=true)/\za7 w ⟨a,k⟩=true:=by
 have htv:=zxD hv;have hin:InS (w.length*4) ⟨a,k⟩:=by
  obtain⟨_,_,h3⟩:=zd6 htv.1;by_cases ha:a = -1
  ·exact .inl ha
  ·obtain⟨h4,h5,h6,h7⟩:=h3 ha;have:=zzk (n:=w.length) h5 (j:=k.toNat) (by omega);rwa [Int.toNat_of_nonneg h4,Int.toNat_of_nonneg h6] at this
 refine⟨zwS hs (zd6 htv.1).1,hin,zuO hv hl,htv.2,fun c hc=>?_,htv.1⟩;unfold za4 at hv;simp only[xad,Bool.not_eq_true',List.any_eq_false,Bool.not_eq_true] at hv;have h4:clOk w ⟨a,k⟩ c=true:=by simpa using hv.2.2 c hc
 unfold clOk at h4;rw[xad] at h4;exact h4.1
theorem zov {w:List Data} (hs:Spa w){t:Ty} (ht:InS (w.length*4) t){m away:List Pat} (hm:∀x∈m,zaf w 11 t x=true) (h4:m.length<=400) (ha:∀x∈away,zaf w 10 t x=true):((zaz w t m away).getD []).length<=400/\∀x∈(zaz w t m away).getD [],x.ok/\x.size<=1000000000000:=by
 cases hw:zaz w t m away with
 |none=>exact⟨by simp,by simp⟩
 |some r=>
  have:=zfa away _ r (fun x hx=>hm x (List.mem_filter.1 hx).1) (Nat.le_trans (List.length_filter_le _ _) h4) ha hw;exact⟨this.1,fun x hx=>⟨(zhy hs 11 ht (this.2 x hx)).1,by have:=(zhy hs 11 ht (this.2 x hx)).2;have:=zrQ (n:=11) (by omega);omega⟩⟩
theorem zsp {w:List Data}{t:Ty}{m away:List Pat} (h:(zaz w t m away).isSome=false):(zaz w t m away).getD []=[]:=by
 cases hw:zaz w t m away with
 |none=>rfl
 |some r=>rw[hw] at h;cases h
theorem zv2 {l:List Cl}{n:Nat}:zbZ (l.take n) = .sl ((l.map Cl.c).take n):=by show D.sl ((l.take n).map Cl.c)=_;rw[List.map_take]
theorem zh3 {w:List Data} (hs:WSmall w){a k:Int}{l:List Cl}{i:Int} (hl:ClsOk l) (hfew:za4 w ⟨a,k⟩ l=true->FewC w ⟨a,k⟩ l):
  FnD Tryz.prog 43 [.d (zal w),.agg [.d (.i a),.d (.i k)],.d (zbZ l),.d (.i i)] [] (.tup [.d (zae ((zcv w a k l i).getD [])),.d (.bool (zcv w a k l i).isSome)]) []:=by
 have hcv:=zju hs (a:=a) (k:=k) hl;have hwi:=zbg (n:=i) (lo:=0) (hi:=((l.map Cl.c).length:Int)-1);have hwt:zao i 0 (((l.map Cl.c).length:Int)-1)=true↔0<=i/\i<(l.length:Int):=by unfold zao;simp only[xac,xad,decide_eq_true_eq];omega
 have h8:=hl.1;by_cases hv:za4 w ⟨a,k⟩ l=true/\0<=i/\i<(l.length:Int)
 ·have hm:zcv w a k l i=zeC w ⟨a,k⟩ l i.toNat:=by unfold zcv;rw[if_pos hv]
  rw[hm];rw[hwt.2 hv.2] at hwi;obtain⟨hv,h0,h1⟩:=hv;obtain⟨n,rfl⟩:=Int.eq_ofNat_of_zero_le h0;clear hm h0 hwt;rw[show((n:Int)).toNat=n from rfl];have hn:n<l.length:=by omega
  obtain⟨hsp,hin,hsh,h8,hip,_⟩:=zgw hs hl hv;rw[hv] at hcv;have hpa:=zjU (hsh _ (zac hn)).1 (hsh _ (zac hn)).2;have hco:=zmi (w:=w) (t:=⟨a,k⟩) (l:=l.take n) (by rw[List.length_take];omega) (fun c hc=>hsh c (List.mem_of_mem_take hc));rw[zv2] at hco;have hns:=zlz hsp.dp;cases hp:zbm (nth l n).pat with
  |false=>
   rw[zmu hp];rw[hp] at hpa;generalize (za5 (l.take n) []).isSome=cb at hco;refine bd Tryz.f43 77 [] [] fun w0 F0 own kept hk=>?_;refine bx 3005 ?_;refine ev ?_;refine wc zm0 (hcv) rfl rfl ?_;refine ev ?_;refine sq ?_ ?_<;>intro h1 h1p h1s;refine sqT ?_;focus (exfalso;contradiction)
   refine ar ?_ (by simp only[xac];constructor<;>omega);refine Walk.call (cr:=[]) zcS (hwi) rfl (.some rfl rfl h1) rfl rfl (LeL.refl _) trivial rfl rfl rfl ?_;refine evs [] [(22,false)] ?_ ⟨⟨_,rfl,h1⟩,trivial⟩;refine sq ?_ ?_<;>intro h3 h3p h3s;focus (exfalso;contradiction)
   refine xaV (i:=n) sl59 .none rfl rfl rfl rfl (zar hn) rfl ?_;refine ev ?_;refine wc zm1 (hpa) rfl rfl ?_;refine ev ?_;refine xaQ (b:=n) sl59 .none rfl rfl rfl (by simp) rfl rfl (by simp only[xac];omega) ?_;refine wc zqB (hco) rfl rfl ?_;refine ev ?_;refine sq ?_ ?_<;>intro h4 h4p h4s;refine sqT ?_;refine rn0 (r2 rfl rfl) (.tup (.cons (.nild ?_) (.cons (.eqd ?_) .nil)));rotate_left 2;refine sq ?_ ?_<;>intro h6 h6p h6s;refine rn0 (r2 rfl rfl) (.tup (.cons (.nild ?_) (.cons (.eqd ?_) .nil)));rotate_left 2;focus (exfalso;contradiction)
   all_goals (rfl)
  |true=>
   rw[hp] at hpa;cases hq:za5 (l.take n) [] with
   |none=>
    rw[show zeC w ⟨a,k⟩ l n=none from by unfold zeC;rw[if_pos hp];split;rfl;exact ztk hq];rw[hq] at hco;refine bd Tryz.f43 77 [] [] fun w0 F0 own kept hk=>?_;refine bx 3005 ?_;refine ev ?_;refine wc zm0 (hcv) rfl rfl ?_;refine ev ?_;refine sq ?_ ?_<;>intro h1 h1p h1s;refine sqT ?_;focus (exfalso;contradiction)
    refine ar ?_ (by simp only[xac];constructor<;>omega);refine Walk.call (cr:=[]) zcS (hwi) rfl (.some rfl rfl h1) rfl rfl (LeL.refl _) trivial rfl rfl rfl ?_;refine evs [] [(22,false)] ?_ ⟨⟨_,rfl,h1⟩,trivial⟩;refine sq ?_ ?_<;>intro h3 h3p h3s;focus (exfalso;contradiction)
    refine xaV (i:=n) sl59 .none rfl rfl rfl rfl (zar hn) rfl ?_;refine ev ?_;refine wc zm1 (hpa) rfl rfl ?_;refine ev ?_;refine xaQ (b:=n) sl59 .none rfl rfl rfl (by simp) rfl rfl (by simp only[xac];omega) ?_;refine wc zqB (hco) rfl rfl ?_;refine ev ?_;refine sq ?_ ?_<;>intro h4 h4p h4s;refine sqT ?_;refine rn0 (r2 rfl rfl) (.tup (.cons (.nild ?_) (.cons (.eqd ?_) .nil)));rotate_left 2;refine sq ?_ ?_<;>intro h6 h6p h6s;refine rn0 (r2 rfl rfl) (.tup (.cons (.nild ?_) (.cons (.eqd ?_) .nil)));rotate_left 2;focus (exfalso;contradiction)
    all_goals (rfl)
   |some away=>
    rw[hq] at hco;obtain⟨p1,p2⟩:=zeZ (l.take n) [] away (fun c hc=>(hsh c (List.mem_of_mem_take hc)).1) (by simp) hq;have hpp:=ze1 (hsh _ (zac hn)).1;have hpl:=zeS (nth l n).pat;have hse:=zmo hsp hin hpp (by omega);cases hz:sepV w ⟨a,k⟩ (zbp (nth l n).pat) with
    |none=>
     rw[zjE hp hz];rw[hz] at hse;have hre:=ziX hsp (f:=zai w) hin (l:=[]) (ok:=false) (by simp) (by simp);refine bd Tryz.f43 77 [] [] fun w0 F0 own kept hk=>?_;refine bx 3005 ?_;refine ev ?_;refine wc zm0 (hcv) rfl rfl ?_;refine ev ?_;refine sq ?_ ?_<;>intro h1 h1p h1s;refine sqT ?_;focus (exfalso;contradiction)
     refine ar ?_ (by simp only[xac];constructor<;>omega);refine Walk.call (cr:=[]) zcS (hwi) rfl (.some rfl rfl h1) rfl rfl (LeL.refl _) trivial rfl rfl rfl ?_;refine evs [] [(22,false)] ?_ ⟨⟨_,rfl,h1⟩,trivial⟩;refine sq ?_ ?_<;>intro h3 h3p h3s;focus (exfalso;contradiction)
     refine xaV (i:=n) sl59 .none rfl rfl rfl rfl (zar hn) rfl ?_;refine ev ?_;refine wc zm1 (hpa) rfl rfl ?_;refine ev ?_;refine xaQ (b:=n) sl59 .none rfl rfl rfl (by simp) rfl rfl (by simp only[xac];omega) ?_;refine wc zqB (hco) rfl rfl ?_;refine ev ?_;refine sq ?_ ?_<;>intro h4 h4p h4s;refine sqT ?_;focus (exfalso;contradiction)
     refine sq ?_ ?_<;>intro h6 h6p h6s;focus (exfalso;contradiction)
     refine wc zw0 (hns) rfl rfl ?_;refine ev ?_;refine wc zw1 (hse) rfl rfl ?_;refine ev ?_;refine sq ?_ ?_<;>intro h7 h7p h7s;focus (exfalso;contradiction)
     refine wc zw3 (hre) rfl rfl ?_;refine ev ?_;refine rn0 (r2 rfl rfl) (.tup (.cons (.eqd ?_) (.cons (.eqd ?_) .nil)));rotate_left 2;all_goals (rfl)
    |some mine=>
     rw[zjF hp hz,zrY hq];rw[hz] at hse;have hmp:=zio _ [] [] (by simp) hpp (by simp) hz;have hm4:mine.length<=400:=hfew hv _ (zac hn) (hip _ (zac hn)) mine hz;have hwo:=zif hsp hin (l:=mine) (away:=away) hmp p2 hm4 (by rw[List.length_take] at p1;simp at p1;omega);have hok:=zov hsp hin hmp hm4 p2;have hre:=ziX hsp (f:=zai w) hin (l:=(zaz w ⟨a,k⟩ mine away).getD []) (ok:=(zaz w ⟨a,k⟩ mine away).isSome) (fun x hx=>(hok.2 x hx).1) (by omega);rw[Bool.and_comm] at hre;generalize (((zaz w ⟨a,k⟩ mine away).getD []).all (isP w ⟨a,k⟩)&&(zaz w ⟨a,k⟩ mine away).isSome)=q at hre ⊢;refine bd Tryz.f43 77 [] [] fun w0 F0 own kept hk=>?_;refine bx 3005 ?_;refine ev ?_;refine wc zm0 (hcv) rfl rfl ?_;refine ev ?_;refine sq ?_ ?_<;>intro h1 h1p h1s;refine sqT ?_;focus (exfalso;contradiction)
     refine ar ?_ (by simp only[xac];constructor<;>omega);refine Walk.call (cr:=[]) zcS (hwi) rfl (.some rfl rfl h1) rfl rfl (LeL.refl _) trivial rfl rfl rfl ?_;refine evs [] [(22,false)] ?_ ⟨⟨_,rfl,h1⟩,trivial⟩;refine sq ?_ ?_<;>intro h3 h3p h3s;focus (exfalso;contradiction)
     refine xaV (i:=n) sl59 .none rfl rfl rfl rfl (zar hn) rfl ?_;refine ev ?_;refine wc zm1 (hpa) rfl rfl ?_;refine ev ?_;refine xaQ (b:=n) sl59 .none rfl rfl rfl (by simp) rfl rfl (by simp only[xac];omega) ?_;refine wc zqB (hco) rfl rfl ?_;refine ev ?_;refine sq ?_ ?_<;>intro h4 h4p h4s;refine sqT ?_;focus (exfalso;contradiction)
     refine sq ?_ ?_<;>intro h6 h6p h6s;focus (exfalso;contradiction)
     refine wc zw0 (hns) rfl rfl ?_;refine ev ?_;refine wc zw1 (hse) rfl rfl ?_;refine ev ?_;refine sq ?_ ?_<;>intro h7 h7p h7s;refine wc zw2 (hwo) rfl rfl ?_;refine ev ?_;refine wc zw3 (hre) rfl rfl ?_;refine ev ?_;refine rn0 (r2 rfl rfl) (.tup (.cons (.eqd ?_) (.cons (.eqd ?_) .nil)));rotate_left 2;focus (exfalso;contradiction)
     all_goals (first|rfl|(cases q<;>rfl))
 ·have hm:zcv w a k l i=none:=by unfold zcv;rw[if_neg hv]
  rw[hm];have hno:za4 w ⟨a,k⟩ l=true->zao i 0 (((l.map Cl.c).length:Int)-1)=false:=fun h=>by
   cases hx:zao i 0 (((l.map Cl.c).length:Int)-1) with
   |false=>rfl
   |true=>exact absurd ⟨h,hwt.1 hx⟩ hv
  clear hwt hm hv;generalize zao i 0 (((l.map Cl.c).length:Int)-1)=b1 at *;generalize za4 w ⟨a,k⟩ l=b2 at *;refine bd Tryz.f43 77 [] [] fun w0 F0 own kept hk=>?_;refine bx 3005 ?_;refine ev ?_;refine wc zm0 (hcv) rfl rfl ?_;refine ev ?_;refine sq ?_ ?_<;>intro h1 h1p h1s;refine sqT ?_;refine rn0 (r2 rfl rfl) (.tup (.cons (.nild ?_) (.cons (.eqd ?_) .nil)));rotate_left 2;refine ar ?_ (by simp only[xac];constructor<;>omega);refine Walk.call (cr:=[]) zcS (hwi) rfl (.some rfl rfl h1) rfl rfl (LeL.refl _) trivial rfl rfl rfl ?_;refine evs [] [(22,false)] ?_ ⟨⟨_,rfl,h1⟩,trivial⟩;refine sq ?_ ?_<;>intro h3 h3p h3s;refine rn0 (r2 rfl rfl) (.tup (.cons (.nild ?_) (.cons (.eqd ?_) .nil)));rotate_left 2;focus (exfalso;cases b1<;>cases b2<;>contradiction)
  all_goals (rfl)
theorem zpd {w:List Data}{t:Ty}{l:List Cl}{n:Nat} (hl:l.length<=8) (hn:n<=l.length) (hc:∀c∈l,zaq w 10 t c.pat=true/\c.pat.ok):
  FnD Tryz.prog 143 [.d (zbZ l),.d (.i (n:Int))] [] (.tup [.d (zae ((za5 (l.take n) []).getD [])),.d (.bool (za5 (l.take n) []).isSome)]) []:=by
 have hpl:=fun(i:Nat)=>zhj (zav (nth l i).pat);have hge:=fun(i:Nat)=>zp3 (p:=(nth l i).pat);have htl:(l.take n).length=n:=by rw[List.length_take];omega
 have hnt:∀i,i<n->nth (l.take n) i=nth l i:=fun i hi=>by
  rw[zaM (l:=l.take n) (by omega),zaM (l:=l) (by omega),List.getElem_take]
 have hbad:∀i o,i<n->(nth l i).g.op=0->zbm (nth l i).pat=false->za5 ((l.take n).drop i) o=none:=fun i o hi h1 h2=>zm7 (by omega) (by rw[hnt i hi];exact h1) (by rw[hnt i hi];exact h2);have hmore:∀i o,i<n->(nth l i).g.op=0->zbm (nth l i).pat=true->za5 ((l.take n).drop i) o=za5 ((l.take n).drop (i+1)) (o++zbp (nth l i).pat):=fun i o hi h1 h2=>by
  have:=ziC (l:=l.take n) (out:=o) (i:=i) (by omega) (by rw[hnt i hi];exact h1) (by rw[hnt i hi];exact h2);rw[hnt i hi] at this;exact this
 have hskip:∀i o,i<n->¬(nth l i).g.op=0->za5 ((l.take n).drop i) o=za5 ((l.take n).drop (i+1)) o:=fun i o hi h1=>ziD (by omega) (by rw[hnt i hi];exact h1);have hend:∀i o,n<=i->za5 ((l.take n).drop i) o=some o:=fun i o hi=>zm8 (by omega);refine bd Tryz.f143 35 [] [] fun w0 F0 own kept hk=>?_;refine xbi 9 sl26 .none rfl rfl ?_;refine ev ?_;refine xak (ι:=Nat×List Pat) hk (fun s=>[(7,.d (.i (s.1:Int))),(6,.gl 9 (Pat.cs s.2))]) [4,5,8,10,11,12,13,14,15,16,17,18,19,20,21,22,23,24,25,26,27,28,29,30,31,32,33] (fun s=>[(9,some (.tok ((Pat.cs s.2)).length 6))]) (fun s=>s.1<=n/\za5 ((l.take n).drop s.1) s.2=za5 (l.take n) []/\s.2.length<=40*s.1) (fun s=>n-s.1) (0,[]) ⟨by simp,rfl,by simp⟩ ⟨⟨_,rfl,xaq ?_⟩,⟨⟨_,rfl,LeA.glg ?_⟩,trivial⟩⟩ ⟨zab ?_,trivial⟩ (fun x=>rfl) (fun s hg1=>?_);iterate 3 focus (rfl)
 refine evc [] [] ?_;refine sq ?_ ?_<;>intro h1 h1p h1s<;>(try simp only[Q,Pat.cs_len,Int.natCast_inj] at h1p);refine xaV sl59 .none rfl rfl rfl rfl (zar (by omega)) rfl ?_;refine ev ?_;refine sq ?_ ?_<;>intro h2 h2p h2s<;>(try simp only[Q,Pat.cs_len,Int.natCast_inj] at h2p);refine ar ?_;refine xah ((s.1+1,if (nth l s.1).g.op=0 then s.2++za6 (zav (nth l s.1).pat) else s.2)) ⟨(by
    by_cases hz:(nth l s.1).g.op=0
    ·have hp:zbm (nth l s.1).pat=true:=by
      cases hp:zbm (nth l s.1).pat with
      |true=>rfl
      |false=>have:=(hge s.1).2 hp;exfalso;first|omega|contradiction
     have h9:=zeS (nth l s.1).pat;have e:=zk8 hp;refine⟨by dsimp only;omega, ?_, ?_⟩
     ·dsimp only;rw[if_pos hz,e,<-hmore s.1 s.2 (by omega) hz hp];exact hg1.2.1
     ·dsimp only;rw[if_pos hz,e,xaa];omega
    ·refine⟨by dsimp only;omega, ?_, ?_⟩
     ·dsimp only;rw[if_neg hz,<-hskip s.1 s.2 (by omega) hz];exact hg1.2.1
     ·dsimp only;rw[if_neg hz];omega),(by dsimp only;omega),sx ⟨⟨_,rfl,xaq ?_⟩,⟨⟨_,rfl,LeA.glg ?_⟩,trivial⟩⟩ ⟨zab ?_,trivial⟩⟩
 iterate 3 focus (first|rfl|(dsimp only;rw[if_neg (by assumption)];done))
 refine xaV sl59 .none rfl rfl rfl rfl (zar (by omega)) rfl ?_;refine ev ?_;refine wc zqC (ziv (hc _ (zac (i:=s.1) (by omega))).1 (hc _ (zac (by omega))).2) rfl rfl ?_;refine ev ?_;refine sq ?_ ?_<;>intro h3 h3p h3s<;>(try simp only[Q,Pat.cs_len,Int.natCast_inj] at h3p);refine rn0 (r2 rfl rfl) (.tup (.cons (.nild ?_) (.cons (.eqd ?_) .nil)));rotate_left 2;refine ap sl26 zz28 rfl rfl rfl (by exact zbH _) (by have:=hpl s.1;simp only[Pat.cs_len];omega) ?_;refine ev ?_;refine ar ?_;refine xah ((s.1+1,if (nth l s.1).g.op=0 then s.2++za6 (zav (nth l s.1).pat) else s.2)) ⟨(by
    by_cases hz:(nth l s.1).g.op=0
    ·have hp:zbm (nth l s.1).pat=true:=by
      cases hp:zbm (nth l s.1).pat with
      |true=>rfl
      |false=>have:=(hge s.1).2 hp;exfalso;first|omega|contradiction
     have h9:=zeS (nth l s.1).pat;have e:=zk8 hp;refine⟨by dsimp only;omega, ?_, ?_⟩
     ·dsimp only;rw[if_pos hz,e,<-hmore s.1 s.2 (by omega) hz hp];exact hg1.2.1
     ·dsimp only;rw[if_pos hz,e,xaa];omega
    ·refine⟨by dsimp only;omega, ?_, ?_⟩
     ·dsimp only;rw[if_neg hz,<-hskip s.1 s.2 (by omega) hz];exact hg1.2.1
     ·dsimp only;rw[if_neg hz];omega),(by dsimp only;omega),sx ⟨⟨_,rfl,xaq ?_⟩,⟨⟨_,rfl,LeA.glg ?_⟩,trivial⟩⟩ ⟨zab ?_,trivial⟩⟩
 iterate 3 focus (first|rfl|(dsimp only;rw[if_pos (by assumption),xat,xat,xat,xaf];done)|(dsimp only;rw[if_pos (by assumption)];simp[Pat.cs_len];done))
 refine rn0 (r2 rfl rfl) (.tup (.cons (.gld ?_) (.cons (.eqd ?_) .nil)));rotate_left 2;all_goals (first|(rw[<-hg1.2.1,hbad s.1 s.2 (by omega) (by assumption) ((hge s.1).1 (by omega))];rfl)|(rw[<-hg1.2.1,hend s.1 s.2 (by omega)];rfl))
theorem zqs {w:List Data} (hsp:Spa w){a k:Int} (hin:InS (w.length*4) ⟨a,k⟩){l:List Cl}{n:Nat}{mine:List Pat} (h8:l.length<=8) (hn:n<=l.length) (hsh:∀c∈l,zaq w 10 ⟨a,k⟩ c.pat=true/\c.pat.ok)
  (hmp:∀x∈mine,zaf w 11 ⟨a,k⟩ x=true) (hm4:mine.length<=400):
  FnD Tryz.prog 88 [.d (zal w),.agg [.d (.i a),.d (.i k)],.d (zae mine),.d (zbZ l),.d (.i (n:Int))] [] (.tup [.d (zae ((zhe w ⟨a,k⟩ mine (l.take n)).getD [])),.d (.bool (zhe w ⟨a,k⟩ mine (l.take n)).isSome)]) []:=by
 have hco:=zpd (w:=w) (t:=⟨a,k⟩) h8 hn hsh;cases hq:za5 (l.take n) [] with
 |none=>
  rw[hq] at hco;rw[ztk hq];refine bd Tryz.f88 42 [] [] fun w0 F0 own kept hk=>?_;refine bx 3006 ?_;refine ev ?_;refine wc zur (hco) rfl rfl ?_;refine ev ?_;refine sq ?_ ?_<;>intro h1 h1p h1s;refine xbh sl26 .none rfl ?_;refine ev ?_;refine rn0 (r2 rfl rfl) (.tup (.cons (.eqd ?_) (.cons (.eqd ?_) .nil)));rotate_left 2;exfalso;exact absurd h1 (by simp);all_goals (rfl)
 |some away=>
  rw[hq] at hco;rw[zrY hq];obtain⟨p1,p2⟩:=zeZ (l.take n) [] away (fun c hc=>(hsh c (List.mem_of_mem_take hc)).1) (by simp) hq;have hwo:=zgN hsp hin (l:=mine) (away:=away) hmp p2 hm4 (by rw[List.length_take] at p1;simp at p1;omega);have hok:=zov hsp hin hmp hm4 p2;have hre:=zok hsp hin (l:=(zaz w ⟨a,k⟩ mine away).getD []) (ok:=(zaz w ⟨a,k⟩ mine away).isSome) hok.2 (by omega);have hem:=zsp (w:=w) (t:=⟨a,k⟩) (m:=mine) (away:=away);generalize ((zaz w ⟨a,k⟩ mine away).getD []).all (isP w ⟨a,k⟩)=q at hre ⊢;generalize (zaz w ⟨a,k⟩ mine away).isSome=q2 at hre hwo hem ⊢;refine bd Tryz.f88 42 [] [] fun w0 F0 own kept hk=>?_;refine bx 3006 ?_;refine ev ?_;refine wc zur (hco) rfl rfl ?_;refine ev ?_;refine sq ?_ ?_<;>intro h1 h1p h1s;exfalso;exact absurd h1 (by simp);refine wc zqx (zfW hsp.dp) rfl rfl ?_;refine evd [] [] ?_;refine wc zw5 (hwo) rfl rfl ?_;refine evd [] [] ?_;refine dr ?_;refine wc zzB (hre) rfl rfl ?_;refine ev ?_;refine rn0 (r2 rfl rfl) (.tup (.cons (.eqd ?_) (.cons (.eqd ?_) .nil)));rotate_left 2;all_goals ((cases q<;>cases q2<;>first|rfl|(rw[hem rfl];rfl)))
theorem zh6 {w:List Data} (hs:WSmall w){a k:Int}{l:List Cl}{i:Int} (hl:ClsOk l) (hz:ClsSz l) (hfew:za4 w ⟨a,k⟩ l=true->FewC w ⟨a,k⟩ l):
  FnD Tryz.prog 44 [.d (zal w),.agg [.d (.i a),.d (.i k)],.d (zbZ l),.d (.i i)] [] (.tup [.d (zae ((zcv w a k l i).getD [])),.d (.bool (zcv w a k l i).isSome)]) []:=by
 have hcv:=zjJ hs (a:=a) (k:=k) hl hz;by_cases hv:za4 w ⟨a,k⟩ l=true/\0<=i/\i<(l.length:Int)
 ·have hm:zcv w a k l i=zeC w ⟨a,k⟩ l i.toNat:=by unfold zcv;rw[if_pos hv]
  rw[hm];obtain⟨hv,h0,h1⟩:=hv;obtain⟨n,rfl⟩:=Int.eq_ofNat_of_zero_le h0;clear hm h0;rw[show((n:Int)).toNat=n from rfl];have hn:n<l.length:=by omega
  obtain⟨hsp,hin,hsh,h8,hip,_⟩:=zgw hs hl hv;rw[hv] at hcv;have hpa:=ziv (hsh _ (zac hn)).1 (hsh _ (zac hn)).2;have hta:=zfW hsp.dp;cases hp:zbm (nth l n).pat with
  |false=>
   rw[zmu hp];have hge:=zp3.2 hp;refine bd Tryz.f44 59 [] [] fun w0 F0 own kept hk=>?_;refine bx 3005 ?_;refine ev ?_;refine wc zqA (hcv) rfl rfl ?_;refine ev ?_;refine sq ?_ ?_<;>intro h1 h1p h1s;refine sqT ?_;refine sqT ?_;exfalso;contradiction;refine sq ?_ ?_<;>intro h3 h3p h3s;refine sqT ?_;exfalso;contradiction;refine sq ?_ ?_<;>intro h5 h5p h5s;try simp only[Q,xac,Pat.cs_len] at h5p
   exfalso;omega;refine xaV (i:=n) sl59 .none rfl rfl rfl rfl (zar hn) rfl ?_;refine ev ?_;refine wc zqC (hpa) rfl rfl ?_;refine ev ?_;refine sq ?_ ?_<;>intro h6 h6p h6s;refine xbh sl26 .none rfl ?_;refine ev ?_;refine rn0 (r2 rfl rfl) (.tup (.cons (.eqd ?_) (.cons (.eqd ?_) .nil)));rotate_left 2;try simp only[Q,xac,Pat.cs_len] at h6p
   exfalso;contradiction;all_goals (rfl)
  |true=>
   rw[zk8 hp] at hpa;have hpp:=ze1 (hsh _ (zac hn)).1;have hpl:=zeS (nth l n).pat;have hse:=zoj hsp hin hpp (by omega) (hfew hv _ (zac hn) (hip _ (zac hn)));cases hz2:sepV w ⟨a,k⟩ (zbp (nth l n).pat) with
   |none=>
    rw[zjE hp hz2];rw[hz2] at hse;refine bd Tryz.f44 59 [] [] fun w0 F0 own kept hk=>?_;refine bx 3005 ?_;refine ev ?_;refine wc zqA (hcv) rfl rfl ?_;refine ev ?_;refine sq ?_ ?_<;>intro h1 h1p h1s;refine sqT ?_;refine sqT ?_;exfalso;contradiction;refine sq ?_ ?_<;>intro h3 h3p h3s;refine sqT ?_;exfalso;contradiction;refine sq ?_ ?_<;>intro h5 h5p h5s;try simp only[Q,xac,Pat.cs_len] at h5p
    exfalso;omega;refine xaV (i:=n) sl59 .none rfl rfl rfl rfl (zar hn) rfl ?_;refine ev ?_;refine wc zqC (hpa) rfl rfl ?_;refine ev ?_;refine sq ?_ ?_<;>intro h6 h6p h6s;try simp only[Q,xac,Pat.cs_len] at h6p
    exfalso;omega;refine wc zqx (hta) rfl rfl ?_;refine evd [] [] ?_;refine wc zw4 (hse) rfl rfl ?_;refine evd [] [] ?_;refine dr ?_;refine sq ?_ ?_<;>intro h7 h7p h7s;refine xbh sl26 .none rfl ?_;refine ev ?_;refine rn0 (r2 rfl rfl) (.tup (.cons (.eqd ?_) (.cons (.eqd ?_) .nil)));rotate_left 2;focus (exfalso;contradiction)
    all_goals (rfl)
   |some mine=>
    rw[zjF hp hz2];rw[hz2] at hse;have hmp:=zio _ [] [] (by simp) hpp (by simp) hz2;have hm4:mine.length<=400:=hfew hv _ (zac hn) (hip _ (zac hn)) mine hz2;have hre:=zqs hsp hin (n:=n) h8 (by omega) hsh hmp hm4;refine bd Tryz.f44 59 [] [] fun w0 F0 own kept hk=>?_;refine bx 3005 ?_;refine ev ?_;refine wc zqA (hcv) rfl rfl ?_;refine ev ?_;refine sq ?_ ?_<;>intro h1 h1p h1s;refine sqT ?_;refine sqT ?_;exfalso;contradiction;refine sq ?_ ?_<;>intro h3 h3p h3s;refine sqT ?_;exfalso;contradiction;refine sq ?_ ?_<;>intro h5 h5p h5s;try simp only[Q,xac,Pat.cs_len] at h5p
    exfalso;omega;refine xaV (i:=n) sl59 .none rfl rfl rfl rfl (zar hn) rfl ?_;refine ev ?_;refine wc zqC (hpa) rfl rfl ?_;refine ev ?_;refine sq ?_ ?_<;>intro h6 h6p h6s;try simp only[Q,xac,Pat.cs_len] at h6p
    exfalso;omega;refine wc zqx (hta) rfl rfl ?_;refine evd [] [] ?_;refine wc zw4 (hse) rfl rfl ?_;refine evd [] [] ?_;refine dr ?_;refine sq ?_ ?_<;>intro h7 h7p h7s;focus (exfalso;contradiction)
    refine wc zzJ (hre) rfl rfl ?_;refine ev ?_;refine rn0 (r2 rfl rfl) (.tup (.cons (.eqd ?_) (.cons (.eqd ?_) .nil)));rotate_left 2;all_goals (rfl)
 ·have hm:zcv w a k l i=none:=by unfold zcv;rw[if_neg hv]
  rw[hm];generalize za4 w ⟨a,k⟩ l=b2 at *;refine bd Tryz.f44 59 [] [] fun w0 F0 own kept hk=>?_;refine bx 3005 ?_;refine ev ?_;refine wc zqA (hcv) rfl rfl ?_;refine ev ?_;refine sq ?_ ?_<;>intro h1 h1p h1s;refine sqT ?_;refine sqT ?_;refine xbh sl26 .none rfl ?_;refine ev ?_;refine rn0 (r2 rfl rfl) (.tup (.cons (.eqd ?_) (.cons (.eqd ?_) .nil)));rotate_left 2;refine sq ?_ ?_<;>intro h3 h3p h3s;refine sqT ?_;refine xbh sl26 .none rfl ?_;refine ev ?_;refine rn0 (r2 rfl rfl) (.tup (.cons (.eqd ?_) (.cons (.eqd ?_) .nil)));rotate_left 2;refine sq ?_ ?_<;>intro h5 h5p h5s;refine xbh sl26 .none rfl ?_;refine ev ?_;refine rn0 (r2 rfl rfl) (.tup (.cons (.eqd ?_) (.cons (.eqd ?_) .nil)));rotate_left 2;exfalso;cases b2<;>first|contradiction|(simp at *;omega)
  all_goals (rfl)
theorem ztv {w:List Data}{t:Ty}:∀(away l r:List Pat),l.length<=400->subL w t l away=some r->r.length<=400
 | [],l,r,hn,h=>by rw[subL] at h;cases h;exact hn
 |b::away,l,r,hn,h=>by
  rw[subL] at h;split at h
  ·rename_i h4;exact ztv away _ r h4 h
  ·cases h
end Go.Proofs.YtpgdedpljcedpaaGreat
namespace Go.Proofs.YtpgdedpljcedpaaGreat
open Go
set_option linter.unusedSimpArgs false
set_option linter.unusedVariables false
theorem zva (L:List Nat) (hp:Hp) (i:Nat):getH (L.map (fun j=>(j,(none:Option Res)))++hp) i=if i∈L then none else getH hp i:=by
 induction L with
 |nil=>simp
 |cons x r ih=>
  simp only[xae,xag,zam,List.mem_cons];by_cases h:i=x
  ·subst h;simp
  ·simp[h,ih]
section
variable {c:Ctx}
theorem R.drop {G:Gh}{s:St}{a:Act}{w:World} (hr:R c G s a w) (L:List Nat) (hk:∀i l,c.kept i=some l->i∉L):R c G ⟨s.env,L.map (fun j=>(j,none))++s.hp⟩ a w:=by
 have hg:=zva L s.hp;have hT:∀i p,tokf (L.map (fun j=>(j,(none:Option Res)))++s.hp) i=some p->tokf s.hp i=some p:=fun i p h=>by
  obtain⟨n,k⟩:=p;have:=zax.1 h;rw[hg] at this;split at this
  ·cases this
  ·exact zax.2 this
 have hm:∀ {x:AV}{v:Value},RelA G (tokf s.hp) w x v->RelA G (tokf (L.map (fun j=>(j,(none:Option Res)))++s.hp)) w x v:=fun hx=>
  hx.mono (fun _ _ ho=>⟨ho,rfl⟩) (fun _ _=> .inl rfl) (fun i _ p hp=>⟨hT i p hp,fun _ _=>⟨rfl,rfl⟩⟩)
 have hs:∀i r,getH (L.map (fun j=>(j,(none:Option Res)))++s.hp) i=some r->getH s.hp i=some r:=fun i r h=>by
  rw[hg] at h;split at h
  ·cases h
  ·exact h
 have hss:∀i,(getH (L.map (fun j=>(j,(none:Option Res)))++s.hp) i).isSome->(getH s.hp i).isSome:=fun i h=>by
  obtain⟨r,hr⟩:=Option.isSome_iff_exists.1 h;rw[hs i r hr];rfl
 refine⟨hr.size,hr.defers,fun i v h=>hm (hr.slots i v h),fun i r h=>?_,fun i j h1 h2=>hr.disj i j (hss i h1) (hss j h2),fun i h=>hr.new i (hss i h),hr.frm,hr.top,fun i l hl=>?_⟩
 ·have hh:=hr.heap i r (hs i r h);cases r with
  |box cs=>
   obtain⟨b,vs,e,h1,h2,h3,h4,h5⟩:=hh;exact⟨b,vs,e,h1,h2,h3,h4,fun j hj hv=>hm (h5 j hj hv)⟩
  |tok m k=>exact hh
  |map ks=>exact hh
  |tree cs=>exact zbx hh rfl (fun _ _=>⟨rfl,rfl⟩) (Nat.le_refl _) (fun _ _ _=>hm)
 ·obtain⟨k1,k2,k3⟩:=hr.kept i l hl;refine⟨k1, ?_, ?_⟩
  ·show(getH (L.map (fun j=>(j,(none:Option Res)))++s.hp) i).isSome
   rw[hg,if_neg (hk i l hl)];exact k2
  ·show tokf (L.map (fun j=>(j,(none:Option Res)))++s.hp) i=none
   cases h:tokf (L.map (fun j=>(j,(none:Option Res)))++s.hp) i with
   |none=>rfl
   |some p=>rw[hT i p h] at k3;cases k3
inductive RowT (hp:Hp):List AV->List D->List (Nat×Nat×Nat)->Prop
 |nil:RowT hp [] [] []
 |sc {x cs ds js} (hs:zls x=true) (h:RowT hp cs ds js):RowT hp (.d x::cs) (x::ds) js
 |ni {cs ds js} (h:RowT hp cs ds js):RowT hp (.nils::cs) (.sl []::ds) js
 |gt {j zs n k cs ds js} (hj:getH hp j=some (.tok n k)) (hn:n=zs.length) (h:RowT hp cs ds js):RowT hp (.gt j zs::cs) (.sl zs::ds) ((j,n,k)::js)
theorem RowT.move {hp hp':Hp}{cs:List AV}{ds:List D}{js:List (Nat×Nat×Nat)} (h:RowT hp cs ds js):(∀q,q∈js->getH hp' q.1=some (.tok q.2.1 q.2.2))->RowT hp' cs ds js:=by
 induction h with
 |nil=>intro _;exact .nil
 |sc hs _ ih=>intro h;exact .sc hs (ih h)
 |ni _ ih=>intro h;exact .ni (ih h)
 |gt hj hn _ ih=>intro h;exact .gt (h (_,_,_) List.mem_cons_self) hn (ih fun q hq=>h q (List.mem_cons_of_mem _ hq))
theorem RowT.len {hp:Hp}{cs:List AV}{ds:List D}{js:List (Nat×Nat×Nat)} (h:RowT hp cs ds js):ds.length=cs.length:=by
 induction h with
 |nil=>rfl
 |sc _ _ ih=>simp[ih]
 |ni _ ih=>simp[ih]
 |gt _ _ _ ih=>simp[ih]
end
end Go.Proofs.YtpgdedpljcedpaaGreat
namespace Go.Proofs.YtpgdedpljcedpaaGreat
open Go
set_option linter.unusedSimpArgs false
set_option linter.unusedVariables false
set_option maxRecDepth 100000
set_option maxHeartbeats 2000000
def smB (n:Nat) (w:List Data):Bool:=decide (w.length<=n)&&w.all fun d=>decide (d.name.length<=n)&&(decide (d.ctors.length<=n)&&d.ctors.all fun c=>decide (c.name.length<=n)&&decide (c.args.length<=n))
structure Sm (n:Nat) (w:List Data):Prop where
 len:w.length<=n
 data:∀d∈w,d.name.length<=n/\d.ctors.length<=n
 ctor:∀d∈w,∀c∈d.ctors,c.name.length<=n/\c.args.length<=n
theorem zvA {n:Nat}{w:List Data} (h:smB n w=true):Sm n w:=by
 simp only[smB,xad,decide_eq_true_eq,List.all_eq_true] at h;exact⟨h.1,fun d hd=>⟨(h.2 d hd).1,(h.2 d hd).2.1⟩,fun d hd c hc=>(h.2 d hd).2.2 c hc⟩
theorem Sm.small {n:Nat}{w:List Data} (h:Sm n w) (hn:n<=1000000000000):WSmall w:=
 ⟨Nat.le_trans h.len hn,fun d hd=>⟨Nat.le_trans (h.data d hd).1 hn,Nat.le_trans (h.data d hd).2 hn⟩,fun d hd c hc=>⟨Nat.le_trans (h.ctor d hd c hc).1 hn,Nat.le_trans (h.ctor d hd c hc).2 hn⟩⟩
theorem zug:((List.range 7).all fun i=>smB 10 (zdv (nth zdP i)).1&&(za3 (zdv (nth zdP i)).1&&decide (1<=(zdv (nth zdP i)).1.length)))=true:=by kernel_rfl
structure WorldD (w:List Data):Prop where
 sm:Sm 10 w
 small:WSmall w
 valid:za3 w=true
 one:1<=w.length
theorem ziB (b:Str) (p:Nat):WorldD (zbw b p):=by
 have h:=List.all_eq_true.1 zug (zan b p 7).toNat (List.mem_range.2 (zqH b p));simp only[xad,decide_eq_true_eq] at h;exact⟨zvA h.1,(zvA h.1).small (by omega),h.2.1,h.2.2⟩
theorem zo6 {w:List Data} (hw:WT w){n:Nat}{f:Nat->Nat}{a k c:Int} (ht:TyIn w.length ⟨a,k⟩) (hc:c∈zah w ⟨a,k⟩) (hn:n<=100) (hb:∀s,f s<=100000) (hin:∀u∈zaa w ⟨a,k⟩ c,InS n u):
  FnD Tryz.prog 98 [.d (zal w),.d (ze0 n f),.agg [.d (.i a),.d (.i k)],.d (.i c)] [] (.d (.i (most w f ⟨a,k⟩ c))) []:=by
 have hl:=zhC hw ht hc;have hd:=zqE hb (by omega);refine bd Tryz.f98 37 [] [] fun w0 F0 own kept hk=>?_;refine bx 3006 ?_;refine ev ?_;refine wc zgB (zcr hw ht hc) rfl rfl ?_;refine ev ?_;refine xak (ι:=List (Ty)×List (Ty)×(Nat)) hk (fun x=>[(11,.d (.i (x.1.length:Int))),(10,.d (.i (x.2.2:Int)))]) [8,12,17,18,19,20,21,22,23,24,25,26,27,28,29,30,31,32,33,34] (fun x=>[]) (fun x=>x.1++x.2.1=zaa w ⟨a,k⟩ c/\x.2.2<=100000/\zbC f x.2.2 x.2.1=zbC f 0 (zaa w ⟨a,k⟩ c)) (fun x=>x.2.1.length) ([],zaa w ⟨a,k⟩ c,0) ⟨by simp,by simp,rfl⟩ ⟨⟨_,rfl,xaq ?_⟩,⟨⟨_,rfl,xaq ?_⟩,trivial⟩⟩ trivial (fun x=>rfl) (fun x hg1=>?_);iterate 2 focus (first|rfl|(simp;done)|omega|(dsimp only;omega))
 obtain⟨pre,rest,m⟩:=x;dsimp only at hg1 ⊢;refine evc [] [] ?_;refine sq ?_ ?_<;>intro h1 h1p h1s<;>(try simp only[Q] at h1p);rcases rest with _|⟨y,rest⟩
 ·exfalso;simp_all
 have hdy:=hd y;have hye:dv f ⟨y.data,y.index⟩=dv f y:=rfl;refine xaV zaW .none rfl rfl rfl rfl (zaI hg1.1) rfl ?_;refine ev ?_;refine wc zke (zel (f:=f) (a:=y.data) (k:=y.index) (hin y (by rw[<-hg1.1];simp)) hn) rfl rfl ?_;refine ev ?_;refine sq ?_ ?_<;>intro h2 h2p h2s<;>(try simp only[Q] at h2p);refine rq ?_;rotate_left;refine sq ?_ ?_<;>intro h3 h3p h3s<;>(try simp only[Q] at h3p);refine ar ?_;refine xah ((pre++[y],rest,max m (dv f y))) ⟨⟨(by have hz:=hg1.1;rw[<-hz];simp),⟨(by have:=hd y;dsimp only;omega),(by rw[<-hg1.2.2];simp only[zbC];rw[if_neg (by have:=hd y;omega)])⟩⟩,(by simp),sx ⟨⟨_,rfl,xaq ?_⟩,⟨⟨_,rfl,xaq ?_⟩,trivial⟩⟩ trivial⟩;iterate 2 focus (first|rfl|(simp;done)|omega|(dsimp only;omega))
 refine ar ?_;refine xah ((pre++[y],rest,max m (dv f y))) ⟨⟨(by have hz:=hg1.1;rw[<-hz];simp),⟨(by have:=hd y;dsimp only;omega),(by rw[<-hg1.2.2];simp only[zbC];rw[if_neg (by have:=hd y;omega)])⟩⟩,(by simp),sx ⟨⟨_,rfl,xaq ?_⟩,⟨⟨_,rfl,xaq ?_⟩,trivial⟩⟩ trivial⟩;iterate 2 focus (first|rfl|(simp;done)|omega|(dsimp only;omega))
 have hrest:rest=[]:=by
  rcases rest with _|⟨a,b⟩
  ·rfl
  ·exfalso;have hz:=congrArg List.length (hg1.1);simp only[xaa,xab,xac] at hz;omega
 subst hrest;refine ar ?_;refine rq ?_;rotate_left;all_goals (refine congrArg D.i ?_;unfold most;rw[<-hg1.2.2];first|(simp only[zbC];rw[if_pos (by omega)];rfl)|(simp only[zbC];omega))
def hdB (w:List Data):Nat->Ty->Bool
 |0,_=>false
 |d+1,t=>decide (t.data = -1)||(zaO w t).any fun c=>decide (t.data≠ -1)&&(zaa w t c).all (hdB w d)
theorem zoK (w:List Data):∀(d:Nat) (t:Ty),hdB w d t=true↔Hd w d t
 |0,t=>by simp[hdB,Hd]
 |d+1,t=>by
  simp only[hdB,Hd,Bool.or_eq_true,decide_eq_true_eq,List.any_eq_true,xad,List.all_eq_true,zoK w d]
def Low (w:List Data):Prop:=∀s,zai w s<=3
theorem zzl {w:List Data} (hd:Dp w) (h:(List.range (w.length*4)).all (fun s=> !hdB w 4 (tyS s)||hdB w 3 (tyS s))=true):Low w:=by
 intro s;by_cases hs:s<w.length*4
 ·obtain⟨h1,h2⟩:=zc7 hd.cl (w.length*4+1);by_cases h0:zai w s=0
  ·omega
  ·have hh:=h1 s hs (Nat.pos_of_ne_zero h0);have h3:=zkw hd.cl (d:=3) (by omega) (fun s hs hh=>by
    have:=List.all_eq_true.1 h s (List.mem_range.2 hs);rw[(zoK w 4 (tyS s)).2 hh] at this;exact(zoK w 3 _).1 (by simpa using this)) _ s hs hh
   by_cases h4:3<=w.length*4+1
   ·exact(h2 s hs 3 h4 h3).2
   ·omega
 ·have h0:=zjw (w:=w) (i:=s) (by omega) (w.length*4+1);show zbj w (w.length*4+1) s<=3
  omega
theorem zuh:((List.range 7).all fun i=>(List.range ((zdv (nth zdP i)).1.length*4)).all fun s=> !hdB (zdv (nth zdP i)).1 4 (tyS s)||hdB (zdv (nth zdP i)).1 3 (tyS s))=true:=by kernel_rfl
structure WorldL (w:List Data):Prop where
 dp:Dp w
 low:Low w
 few:Few w
theorem zf1 (b:Str) (p:Nat):WorldL (zbw b p):=by
 have ho:=ziB b p;have hd:=zmL ho.small ho.valid;exact⟨hd,zzl hd (List.all_eq_true.1 zuh (zan b p 7).toNat (List.mem_range.2 (zqH b p))),zvQ ho.small ho.valid⟩
theorem zve {w:List Data} (hd:Dp w){t:Ty} (ht:InS (w.length*4) t) (hne:¬t.data = -1) (h:0<dv (zai w) t):∃c∈zah w t,0<most w (zai w) t c/\most w (zai w) t c=dv (zai w) t:=by
 obtain⟨h1,h2⟩:Snd w (zai w)/\Cmp w (w.length*4+1) (zai w):=zc7 hd.cl (w.length*4+1);have hcmp:∀k,Cmp w k (zai w):=fun k=>by
  have h3:=(zc7 hd.cl (max k (w.length*4+1))).2;rw[zlq hd.cl (Nat.le_max_right _ _)] at h3;exact fun s hs d hdk hh=>h3 s hs d (by omega) hh
 have hv:zah w t=zaO w t:=by unfold zah;rw[if_neg hne]
 have hh:Hd w (dv (zai w) t) t:=zna h1 ht h;rcases hd0:dv (zai w) t with _|e
 ·omega
 rw[hd0] at hh;rcases hh with hh|⟨c,hc,_,hu⟩
 ·exact absurd hh hne
 have hin:=zbr hd ht (c:=c) (by rw[hv];exact hc);have hp:=zkI (f:=zai w) (l:=zaa w t c) (m:=0) (k:=e) (Nat.zero_le _) (fun u hu'=>zkr (hcmp e) (hin u hu') (hu u hu'));refine⟨c,by rw[hv];exact hc,hp.1, ?_⟩;have hle:most w (zai w) t c<=e+1:=hp.2;have hpos:0<most w (zai w) t c:=hp.1

 have hsn:=zii (f:=zai w) (l:=zaa w t c) (m:=0) hp.1;have hH:Hd w (most w (zai w) t c) t:=by
  obtain⟨q,hq⟩:∃q,most w (zai w) t c=q+1:=⟨most w (zai w) t c-1,by omega⟩;rw[hq];refine .inr ⟨c,hc,hne,fun u hu'=>?_⟩;have hx:=hsn.2 u hu';have hlt:dv (zai w) u<most w (zai w) t c:=hx.2;exact Hd_le (by omega) (zna h1 (hin u hu') hx.1)
 have hge:=(zkr (hcmp _) ht hH).2;omega
def zeN (w:List Data) (f:Nat->Nat) (t:Ty) (m c:Int):Bool:=decide (0<most w f t c)&&decide ((most w f t c:Int)<=m\/most w f t c=dv f t)
def zcg (w:List Data) (f:Nat->Nat) (t:Ty) (m:Int):List Int:=(zah w t).filter (zeN w f t m)
theorem zrl {P:Int->Bool}{pre:List Int}{y:Int} (h:P y=true):((pre++[y]).filter P).map (fun n=>[D.i n])=(pre.filter P).map (fun n=>[D.i n])++[[D.i y]]:=by simp[List.filter_append,h]
theorem zxO {P:Int->Bool}{pre:List Int}{y:Int} (h:P y=false):((pre++[y]).filter P).map (fun n=>[D.i n])=(pre.filter P).map (fun n=>[D.i n]):=by simp[List.filter_append,h]
def dV (f:Ty->Nat->Val×Nat):List Ty->Nat->List Val×Nat
 | [],q=>([],q)
 |t::r,q=>((f t q).1::(dV f r (f t q).2).1,(dV f r (f t q).2).2)
def zb0 (b:Str) (w:List Data) (f:Nat->Nat):Nat->Ty->Int->Nat->Val×Nat
 |0,_,_,p=>(.mk 0 0 [],p)
 |n+1,t,m,p=>
  if t.data = -1 then (.mk (-1) (zan b p 10) [],p+1)
  else (.mk (nth (zcg w f t m) (zan b p (zcg w f t m).length).toNat) 0 (dV (fun u q=>zb0 b w f n u (m-1) q) (zaa w t (nth (zcg w f t m) (zan b p (zcg w f t m).length).toNat)) (p+1)).1,
   (dV (fun u q=>zb0 b w f n u (m-1) q) (zaa w t (nth (zcg w f t m) (zan b p (zcg w f t m).length).toNat)) (p+1)).2)
abbrev dW (b:Str) (w:List Data) (n:Nat) (m:Int):Ty->Nat->Val×Nat:=fun u x=>zb0 b w (zai w) n u (m-1) x
def bdV:Nat->Nat
 |0=>0
 |d+1=>1+3*bdV d
def szV:Nat->Nat
 |0=>1
 |d+1=>1+3*szV d
theorem zxh {f:Ty->Nat->Val×Nat}{k:Nat}:∀(l:List Ty) (q:Nat),(∀t∈l,∀q,(f t q).2<=q+k)->(dV f l q).2<=q+l.length*k
 | [],q,_=>by simp[dV]
 |t::r,q,h=>by
  have h1:=h t (by simp) q;have h2:=zxh r (f t q).2 (fun x hx=>h x (by simp[hx]));simp only[dV,xab,Nat.add_mul];omega
theorem zuY {f:Ty->Nat->Val×Nat}:∀(l:List Ty) (q:Nat),(dV f l q).1.length=l.length
 | [],q=>rfl
 |t::r,q=>by simp only[dV,xab,zuY r]
theorem zxi {f:Ty->Nat->Val×Nat}{k:Nat}:∀(l:List Ty) (q:Nat),(∀t∈l,∀q,(f t q).1.size<=k/\(f t q).1.ok)->Vals.size (dV f l q).1<=l.length*k/\Vals.ok (dV f l q).1
 | [],q,_=>by simp[dV,Vals.size,Vals.ok]
 |t::r,q,h=>by
  have h1:=h t (by simp) q;have h2:=zxi r (f t q).2 (fun x hx=>h x (by simp[hx]));simp only[dV,xab,Nat.add_mul,Vals.size,Vals.ok];exact⟨by omega,h1.2,h2.2⟩
theorem zku {w:List Data}{f:Nat->Nat}{t:Ty}{m c:Int} (h:c∈zcg w f t m):c∈zah w t/\0<most w f t c/\((most w f t c:Int)<=m\/most w f t c=dv f t):=by
 have:=List.mem_filter.1 h;simpa [zeN] using this
structure Deep (w:List Data) (n:Nat) (t:Ty) (m:Int):Prop where
 ins:InS (w.length*4) t
 pos:0<dv (zai w) t
 le:dv (zai w) t<=n
 ml:m<=n
theorem zrk {w:List Data} (hd:Dp w){n:Nat}{t:Ty}{m:Int} (h:Deep w n t m) (hne:¬t.data = -1):1<=(zcg w (zai w) t m).length:=by
 obtain⟨c,hc,h1,h2⟩:=zve hd h.ins hne h.pos;exact List.length_pos_of_mem (a:=c) (List.mem_filter.2 ⟨hc,by have:=h.pos;simp[zeN,h2,this]⟩)
theorem zrf {w:List Data} (hd:Dp w){n:Nat}{t:Ty}{m c:Int} (h:Deep w (n+1) t m) (hc:c∈zcg w (zai w) t m):∀u∈zaa w t c,Deep w n u (m-1):=by
 intro u hu;obtain⟨h1,h2,h3⟩:=zku hc;have hin:=zbr hd h.ins h1 u hu;have hs:=(zii (f:=zai w) (l:=zaa w t c) (m:=0) h2).2 u hu;have hlt:dv (zai w) u<most w (zai w) t c:=hs.2;have:=h.le;have:=h.ml;exact⟨hin,hs.1,by rcases h3 with h3|h3<;>omega,by omega⟩
theorem zpX {w:List Data} (hd:Dp w){n:Nat}{t:Ty}{m:Int} (h:Deep w n t m) (hne:¬t.data = -1) (b:Str) (p:Nat):nth (zcg w (zai w) t m) (zan b p (zcg w (zai w) t m).length).toNat∈zcg w (zai w) t m:=
 zjC (by have:=zrk hd h hne;omega)
theorem zjk {b:Str}{w:List Data} (hd:Dp w) (hf:Few w):∀(n:Nat) (t:Ty) (m:Int) (p:Nat),Deep w n t m->(zb0 b w (zai w) n t m p).2<=p+bdV n/\(zb0 b w (zai w) n t m p).1.size<=szV n/\(zb0 b w (zai w) n t m p).1.ok
 |0,t,m,p,h=>by have:=h.pos;have:=h.le;omega
 |n+1,t,m,p,h=>by
  simp only[zb0,bdV,szV];split
  ·refine⟨by dsimp only;omega, ?_, ?_⟩
   ·simp only[Val.size,Vals.size];omega
   ·simp[Val.ok,Vals.ok]
  ·rename_i hne;have hm:=zpX hd h hne b p;generalize nth (zcg w (zai w) t m) (zan b p (zcg w (zai w) t m).length).toNat=c at *;have hk:=zrf hd h hm;have h3:=(hf t c (zku hm).1 (zb7 h.ins)).1;have h1:=zxh (f:=fun u q=>zb0 b w (zai w) n u (m-1) q) (k:=bdV n) (zaa w t c) (p+1) (fun u hu q=>(zjk hd hf n u (m-1) q (hk u hu)).1);have h2:=zxi (f:=fun u q=>zb0 b w (zai w) n u (m-1) q) (k:=szV n) (zaa w t c) (p+1) (fun u hu q=>(zjk hd hf n u (m-1) q (hk u hu)).2);have h4:(zaa w t c).length*bdV n<=3*bdV n:=Nat.mul_le_mul_right _ h3;have h5:(zaa w t c).length*szV n<=3*szV n:=Nat.mul_le_mul_right _ h3;have h6:=zuY (f:=fun u q=>zb0 b w (zai w) n u (m-1) q) (zaa w t c) (p+1);refine⟨by dsimp only;omega, ?_, ?_⟩
   ·simp only[Val.size];omega
   ·simp only[Val.ok];exact⟨by omega,h2.2⟩
section
variable {b:Str}{w:List Data}{f:Nat->Nat}{n p:Nat}{t:Ty}{m:Int}
theorem zxL (h:t.data = -1):zb0 b w f (n+1) t m p=(.mk (-1) (zan b p 10) [],p+1):=by simp only[zb0];rw[if_pos h]
theorem zxM (h:¬t.data = -1){c:Int} (hc:nth (zcg w f t m) (zan b p (zcg w f t m).length).toNat=c):zb0 b w f (n+1) t m p =
  (.mk c 0 (dV (fun u q=>zb0 b w f n u (m-1) q) (zaa w t c) (p+1)).1,(dV (fun u q=>zb0 b w f n u (m-1) q) (zaa w t c) (p+1)).2):=by
 simp only[zb0];rw[if_neg h,hc]
end
theorem zi7 {b:Str}{w:List Data} (hb:b.length<=2000) (hd:Dp w) (hf:Few w):∀(n:Nat){a k m:Int}{p:Nat},Deep w n ⟨a,k⟩ m->(n:Int)-10<=m->n<=5->p+bdV n<=1000000->
  FnD Tryz.prog 189 [.ref 900 0,.d (zal w),.d (ze0 (w.length*4) (zai w)),.agg [.d (.i a),.d (.i k)],.d (.i m)] [(900,some (rdB b p))]
   (.agg [.d (.i (zb0 b w (zai w) n ⟨a,k⟩ m p).1.ctor),.d (.i (zb0 b w (zai w) n ⟨a,k⟩ m p).1.num),.d (zbQ (zb0 b w (zai w) n ⟨a,k⟩ m p).1.kids)]) [(900,some (rdB b (zb0 b w (zai w) n ⟨a,k⟩ m p).2))]
 |0,a,k,m,p,h,_,_,_=>by have:=h.pos;have:=h.le;omega
 |n+1,a,k,m,p,h,hm,hn5,hp=>by
  have ht:=zb7 h.ins;have hml:=h.ml;have h4:=hd.four;have hbd:bdV (n+1)=1+3*bdV n:=rfl;have hfb:∀s,zai w s<=100000:=zoV hd (k:=w.length*4+1) (s:=0) (by omega) (by omega) (pre:=[]) (by simp);have hcl:=zhq hd.wt ht;have hfl:(zcg w (zai w) ⟨a,k⟩ m).length<=(zah w ⟨a,k⟩).length:=List.length_filter_le _ _;have hflm:((((zah w ⟨a,k⟩).filter (zeN w (zai w) ⟨a,k⟩ m)).map fun n=>[D.i n]).length:Int)=(zcg w (zai w) ⟨a,k⟩ m).length:=by rw[xac];rfl
  have hfp:=fun hne=>zrk hd h hne;have v14:=fun hh=>zcQ (b:=b) (p:=p) (n:=((zcg w (zai w) ⟨a,k⟩ m).length:Int)) hh;have hmem:=fun hne=>zpX hd h hne b p;have hdm:=zxL (b:=b) (w:=w) (f:=zai w) (n:=n) (p:=p) (t:=⟨a,k⟩) (m:=m);have hdm2:=fun hne=>zxM (b:=b) (w:=w) (f:=zai w) (n:=n) (p:=p) (t:=⟨a,k⟩) (m:=m) hne rfl;generalize hcc:nth (zcg w (zai w) ⟨a,k⟩ m) (zan b p (zcg w (zai w) ⟨a,k⟩ m).length).toNat=cc at *;have hfm:=fun hne=>zku (hmem hne);have hkid:=fun hne=>zrf hd h (hmem hne);have hfw:=fun hne=>(hf ⟨a,k⟩ cc (hfm hne).1 ht).1;have hok:=fun u q hu=>zjk (b:=b) hd hf n u (m-1) q hu;have hat:¬a = -1->(((zah w ⟨a,k⟩).filter (zeN w (zai w) ⟨a,k⟩ m)).map fun n=>[D.i n])[(zan b p (zcg w (zai w) ⟨a,k⟩ m).length).toNat]?=some [D.i cc]:=fun hne=>by
   rw[<-hcc];exact zar (l:=zcg w (zai w) ⟨a,k⟩ m) (by have:=v14 (by have:=hfp hne;omega);omega)
  refine bd Tryz.f189 98 [] [9,11] fun w0 F0 own kept hk=>?_;refine bx 3008 ?_;refine ab 3010 tz44 ?_;refine tv ?_;refine sq ?_ ?_<;>intro h1 h1p h1s<;>(try simp only[Q] at h1p);refine wd zce (zaU (p:=p) (n:=10) hb (by omega) (by omega)) rfl rfl ⟨rfl,trivial⟩ ?_;refine bu [0,1] [_,_] st44 ?_;refine so ty44 ?_;refine tv ?_;refine rn [(900,some (rdB b (zb0 b w (zai w) (n+1) ⟨a,k⟩ m p).2))] (.cons (.cellA ty44 rfl rfl rfl) .nil) (.agg (.cons (.eqd ?_) (.cons (.eqd ?_) (.cons (.nild ?_) .nil)))) ⟨rfl,rfl⟩ (SubO.get ⟨.inr ?_,⟨.inl rfl,trivial⟩⟩) (zay rfl);rotate_left 4;refine wc zh8 (zcc hd.wt ht) rfl rfl ?_;refine ev ?_;refine xbi 5 sl62 .none rfl rfl ?_;refine ev ?_;refine xak (ι:=List (Int)×List (Int)) hk (fun x=>[(13,.d (.i (x.1.length:Int))),(12,.gl 5 ((x.1.filter (zeN w (zai w) ⟨a,k⟩ m)).map fun n=>[D.i n]))]) [14,28,29,30,31,32,33,34,35,36,37,38,39,40,41,42,43,44,45,46,47,48,49,50,51,52,53,54,55,56,57,58,59,60,61,62] (fun x=>[(5,some (.tok (((x.1.filter (zeN w (zai w) ⟨a,k⟩ m)).map fun n=>[D.i n])).length 1))]) (fun x=>x.1++x.2=zah w ⟨a,k⟩) (fun x=>x.2.length) ([],zah w ⟨a,k⟩) (by simp) ⟨⟨_,rfl,xaq ?_⟩,⟨⟨_,rfl,LeA.glg ?_⟩,trivial⟩⟩ ⟨zab ?_,trivial⟩ (fun x=>rfl) (fun x hg1=>?_);iterate 3 focus (rfl)
  obtain⟨pre,rest⟩:=x;dsimp only at hg1 ⊢;refine evc [] [9,11] ?_;refine sq ?_ ?_<;>intro h2 h2p h2s<;>(try simp only[Q] at h2p);rcases rest with _|⟨y,rest⟩
  ·exfalso;simp_all
  refine xaV sl62 .none rfl rfl rfl rfl (zaI hg1) rfl ?_;refine evd [] [] ?_;refine wc zxc (zo6 hd.wt ht (c:=y) (by rw[<-hg1];simp) (by omega) hfb (zbr hd h.ins (by rw[<-hg1];simp))) rfl rfl ?_;refine evd [] [] ?_;refine dr ?_;refine xal ?_;refine xaB 14 [(55,.d (.bool (zeN w (zai w) ⟨a,k⟩ m y)))] [42,43,44,45,46,47,48,49,50,51,52,53,54] ?_ ?_;refine ev ?_;refine sq ?_ ?_<;>intro h3 h3p h3s<;>(try simp only[Q] at h3p);refine sq ?_ ?_<;>intro h4 h4p h4s<;>(try simp only[Q] at h4p);focus (exact jn rfl (xap (by(unfold zeN;rw[Bool.eq_iff_iff];simp_all;done))))
  refine Walk.call (cr:=[]) zke (zel h.ins (by omega)) rfl (.some rfl rfl h4) rfl rfl (LeL.refl _) trivial rfl rfl rfl ?_;refine evs [] [(44,true),(48,false)] ?_ ⟨⟨_,rfl,h3⟩,⟨_,rfl,h4⟩,trivial⟩;focus (exact jn rfl (xap (by(unfold zeN;rw[Bool.eq_iff_iff];simp_all;omega))))
  focus (exact jn rfl (xap (by(unfold zeN;rw[Bool.eq_iff_iff];simp_all;done))))
  refine xaA ?_;refine tv ?_;refine sq ?_ ?_<;>intro h5 h5p h5s<;>(try simp only[Q] at h5p);refine xaV sl62 .none rfl rfl rfl rfl (zaI hg1) rfl ?_;refine ev ?_;refine si [0] [_] sl62 tz3 ?_;refine ap sl62 zz3 rfl rfl rfl (by simp) (by(have hz:=congrArg List.length hg1;have hq:=List.length_filter_le (zeN w (zai w) ⟨a,k⟩ m) pre;simp at hz ⊢;omega)) ?_;refine ev ?_;refine ar ?_;refine xah ((pre++[y],rest)) ⟨(by have hz:=hg1;rw[<-hz];simp),(by simp),sx ⟨⟨_,rfl,xaq ?_⟩,⟨⟨_,rfl,LeA.glg ?_⟩,trivial⟩⟩ ⟨zab ?_,trivial⟩⟩;iterate 3 focus (first|(simp;done)|(rw[zrl (by assumption)];all_goals rfl)|(rw[zrl (by assumption)];simp;done))
  refine ar ?_;refine xah ((pre++[y],rest)) ⟨(by have hz:=hg1;rw[<-hz];simp),(by simp),sx ⟨⟨_,rfl,xaq ?_⟩,⟨⟨_,rfl,LeA.glg ?_⟩,trivial⟩⟩ ⟨zab ?_,trivial⟩⟩;iterate 3 focus (first|(simp;done)|(rw[zxO (by assumption)];all_goals rfl))
  have hrest:rest=[]:=by
   rcases rest with _|⟨a,b⟩
   ·rfl
   ·exfalso;have hz:=congrArg List.length (hg1);simp only[xaa,xab,xac] at hz;omega
  subst hrest;rw[List.append_nil] at hg1;subst hg1;refine evc [] [] ?_;refine wd zce (zaU (p:=p) (n:=((((zah w ⟨a,k⟩).filter (zeN w (zai w) ⟨a,k⟩ m)).map fun n=>[D.i n]).length:Int)) hb (by omega) (by omega)) rfl rfl ⟨rfl,trivial⟩ ?_;refine xaY (i:=(zan b p (zcg w (zai w) ⟨a,k⟩ m).length).toNat) sl62 .none rfl rfl rfl (by rw[hflm];have:=v14 (by have:=hfp (by omega);omega);omega) (hat (by omega)) rfl ?_;refine ev ?_;refine bu [0] [_] st44 ?_;refine ab 3015 tz44 ?_;refine so ty44 ?_;refine tv ?_;refine wc zgB (zcr hd.wt ht (hfm (by omega)).1) rfl rfl ?_;refine ev ?_;refine xan 3015 2 1 3 rfl rfl rfl rfl ?_;refine xak (ι:=List (Ty)×List (Ty)×(Nat)×(List Val)) hk (fun x=>[(17,.d (.i (x.1.length:Int)))]) [76,77,78,79,80,81,82,83,84,85,86,87,88,89,90,91,92,93,94,95,96] (fun x=>[(900,some (.box [.d (zcx b),.d (.i (x.2.2.1:Int))])),(3015,some (.box [.d (.i cc),.d (.i 0),.gl 1 (x.2.2.2.map Val.cc)])),(1,some (.tok (x.2.2.2.map Val.cc).length 3))]) (fun x=>x.1++x.2.1=zaa w ⟨a,k⟩ cc/\x.2.2.1<=p+1+x.1.length*bdV n/\x.2.2.2.length=x.1.length/\(x.2.2.2++(dV (dW b w n m) x.2.1 x.2.2.1).1,(dV (dW b w n m) x.2.1 x.2.2.1).2)=dV (dW b w n m) (zaa w ⟨a,k⟩ cc) (p+1)) (fun x=>x.2.1.length) ([],zaa w ⟨a,k⟩ cc,p+1,[]) ⟨by simp,by simp,by simp,by simp⟩ ⟨⟨_,rfl,xaq ?_⟩,trivial⟩ ⟨?_,⟨?_,⟨zab ?_,trivial⟩⟩⟩ (fun x=>rfl) (fun x hg2=>?_);focus (rfl)
  iterate 2 focus (first|rfl|(simp[getH];done))
  focus (rfl)
  obtain⟨pre,rest,q,ks⟩:=x;dsimp only at hg2 ⊢;refine evc [] [9,11] ?_;refine sq ?_ ?_<;>intro h6 h6p h6s<;>(try simp only[Q] at h6p);rcases rest with _|⟨y,rest⟩
  ·exfalso;simp_all
  have hfw3:=hfw (by omega);have hpm:pre.length*bdV n<=2*bdV n:=Nat.mul_le_mul_right _ (by have hz:=congrArg List.length hg2.1;have:=hfw (by omega);simp at hz;omega);refine xaV zaW .none rfl rfl rfl rfl (zaI hg2.1) rfl ?_;refine evd [] [] ?_;refine ar ?_;refine wd zq4 (zi7 hb hd hf n (a:=y.data) (k:=y.index) (m:=m-1) (p:=q) (hkid (by omega) y (by rw[<-hg2.1];simp)) (by omega) (by omega) (by omega)) rfl rfl ⟨rfl,trivial⟩ ?_;refine si [0] [_] sl37 tz44 ?_;refine ap sl37 zz44 rfl rfl rfl (by simp) (by(have hz:=congrArg List.length hg2.1;have:=hfw (by omega);simp at hz ⊢;omega)) ?_;refine evd [] [] ?_;refine so ty37 ?_;refine dr ?_;refine ar ?_;refine xah ((pre++[y],rest,(zb0 b w (zai w) n y (m-1) q).2,ks++[(zb0 b w (zai w) n y (m-1) q).1])) ⟨⟨(by have hz:=hg2.1;rw[<-hz];simp),⟨(by have:=(hok y q (hkid (by omega) y (by rw[<-hg2.1];simp))).1;simp only[xaa,xab,xai,Nat.add_mul];omega),(by simp[hg2.2.2.1]),(by rw[<-hg2.2.2.2];simp[dV])⟩⟩,(by simp),sx ⟨⟨_,rfl,xaq ?_⟩,trivial⟩ ⟨?_,⟨?_,⟨zab ?_,trivial⟩⟩⟩⟩;focus ((simp;done))
  iterate 2 focus (first|rfl|(simp[getH];done))
  focus ((simp;done))
  have hrest:rest=[]:=by
   rcases rest with _|⟨a,b⟩
   ·rfl
   ·exfalso;have hz:=congrArg List.length (hg2.1);simp only[xaa,xab,xac] at hz;omega
  subst hrest;refine so ty44 ?_;refine tv ?_;refine rn [(900,some (rdB b (zb0 b w (zai w) (n+1) ⟨a,k⟩ m p).2))] (.cons (.cellA ty44 rfl rfl rfl) .nil) (.agg (.cons (.eqd ?_) (.cons (.eqd ?_) (.cons (.gld ?_) .nil)))) ⟨rfl,rfl⟩ (SubO.get ⟨.inr ?_,⟨.inl rfl,trivial⟩⟩) (zay rfl);rotate_left 4;all_goals (((first|(rw[hdm (by omega)];all_goals rfl)|(rw[hdm2 (by omega)];have hfin:=hg2.2.2.2;simp only[dV,List.append_nil] at hfin;rw[<-hfin];all_goals first|rfl|(show _=D.sl (Val.cs _);rw[Val.cs_cc];all_goals rfl)|(show _=Val.cs _;rw[Val.cs_cc];all_goals rfl)));done))
def zf0 (b:Str) (p:Nat):Ty:=⟨zan b (p+1) (zbw b p).length,numV b (p+2) [0,0,1,2]⟩
def typT (b:Str) (p:Nat):Ty:=if dv (zai (zbw b p)) (zf0 b p)=0 then ⟨-1,0⟩ else zf0 b p
def typV (b:Str) (p:Nat):Val×Nat:=zb0 b (zbw b p) (zai (zbw b p)) 4 (typT b p) (numV b (p+3) [3,2,4,1]) (p+4)
theorem zzj {n:Nat}{a k:Int} (h1:0<=a) (h2:a<n) (h3:0<=k) (h4:k<=3):InS (n*4) ⟨a,k⟩:=by
 refine .inr ⟨?_, ?_⟩
 ·simp only[zcE];omega
 ·obtain⟨i,rfl⟩:=Int.eq_ofNat_of_zero_le h1;obtain⟨m,rfl⟩:=Int.eq_ofNat_of_zero_le h3;simp only[zcE,Int.toNat_natCast];exact zh1 (by omega)
theorem zx0 (b:Str) (p:Nat):0<=numV b p [0,0,1,2]/\numV b p [0,0,1,2]<=3:=by
 have:=zfg (b:=b) (p:=p) (l:=[0,0,1,2]) (by simp);simp only[List.mem_cons,List.not_mem_nil,or_false] at this;omega
theorem zsl (b:Str) (p:Nat):InS ((zbw b p).length*4) (zf0 b p):=by
 have h1:=zcQ (b:=b) (p:=p+1) (n:=((zbw b p).length:Int)) (by have:=(ziB b p).one;omega);have h2:=zx0 b (p+2);exact zzj h1.1 h1.2 h2.1 h2.2
theorem zlc (b:Str) (p:Nat):Deep (zbw b p) 4 (typT b p) (numV b (p+3) [3,2,4,1]):=by
 have hl:=zf1 b p;have h4:=num4 b (p+3);unfold typT;split
 ·exact⟨.inl rfl,by simp[dv],by simp[dv],by omega⟩
 ·rename_i h;have:=zqE (f:=zai (zbw b p)) (b:=3) hl.low (by omega) (zf0 b p);exact⟨zsl b p,by omega,by omega,by omega⟩
theorem zty (b:Str) (p:Nat):(typV b p).2<=p+44/\(typV b p).1.size<=121/\(typV b p).1.ok:=by
 have hl:=zf1 b p;have h:=zjk (b:=b) hl.dp hl.few 4 (typT b p) (numV b (p+3) [3,2,4,1]) (p+4) (zlc b p);have e1:bdV 4=40:=by decide
 have e2:szV 4=121:=by decide
 unfold typV;exact⟨by omega,by omega,h.2.2⟩
theorem zob {b:Str}{p:Nat} (hb:b.length<=2000) (hp:p<=100000):
  FnD Tryz.prog 144 [.ref 900 0] [(900,some (rdB b p))] (.tup [.d (zal (zbw b p)),.agg [.d (.i (typT b p).data),.d (.i (typT b p).index)],.agg [.d (.i (typV b p).1.ctor),.d (.i (typV b p).1.num),.d (zbQ (typV b p).1.kids)]]) [(900,some (rdB b (typV b p).2))]:=by
 have ho:=ziB b p;have hl:=zf1 b p;have h4:=num4 b (p+3);have hin:=zsl b p;have hdeep:=zlc b p;have hT:typT b p=if dv (zai (zbw b p)) (zf0 b p)=0 then ⟨-1,0⟩ else zf0 b p:=rfl
 have hV:typV b p=zb0 b (zbw b p) (zai (zbw b p)) 4 (typT b p) (numV b (p+3) [3,2,4,1]) (p+4):=rfl;have e1:bdV 4=40:=by decide
 have hwd:=zoa (p:=p) hb (by omega);have hpk:=zaU (b:=b) (p:=p+1) (n:=(((zbw b p).map Data.c).length:Int)) hb (by omega) (by have:=ho.small.len;simp;omega);rw[show zan b (p+1) (((zbw b p).map Data.c).length:Int)=(zf0 b p).data by rw[xac];rfl] at hpk;have hnu:=zbL (b:=b) (p:=p+2) (l:=[0,0,1,2]) hb (by omega) (by simp) (by simp);rw[show numV b (p+2) [0,0,1,2]=(zf0 b p).index from rfl] at hnu;have hdr:=fun(t:Ty) (h:Deep (zbw b p) 4 t (numV b (p+3) [3,2,4,1]))=>zi7 hb hl.dp hl.few 4 (a:=t.data) (k:=t.index) (p:=p+4) h (by omega) (by omega) (by omega);have hdp:=zel (f:=zai (zbw b p)) (a:=(zf0 b p).data) (k:=(zf0 b p).index) hin (by have:=hl.dp.four;omega);have htb:=zfW hl.dp;generalize zbw b p=w at *;generalize zf0 b p=t0 at *;obtain⟨a0,k0⟩:=t0;have hdr2:=hdr ⟨-1,0⟩;have hdr3:=hdr ⟨a0,k0⟩;clear hdr;dsimp only at hT hV hdr2 hdr3;refine bd Tryz.f144 35 [] [] fun w0 F0 own kept hk=>?_;refine ab 3003 tz25 ?_;refine ab 3004 tz44 ?_;refine tv ?_;refine wd zyT (hwd) rfl rfl ⟨rfl,trivial⟩ ?_;refine ev ?_;refine wc zqx (htb) rfl rfl ?_;refine ev ?_;refine wd zce (hpk) rfl rfl ⟨rfl,trivial⟩ ?_;refine ev ?_;refine si [0,1,2,3] [_,_,_,_] sl62 tz3 ?_;refine wd zeK (hnu) rfl rfl ⟨rfl,trivial⟩ ?_;refine bu [0,1] [_,_] st25 ?_;refine ab 3007 tz25 ?_;refine so ty25 ?_;refine tv ?_;refine wc zke (hdp) rfl rfl ?_;refine ev ?_;refine sq ?_ ?_<;>intro h1 h1p h1s<;>(try simp only[Q] at h1p);have HDR:=hdr2 (by rw[if_pos (by omega)] at hT;rw[<-hT];exact hdeep);refine bu [0] [_] st25 ?_;refine so ty25 ?_;refine tv ?_;refine si [0,1,2,3] [_,_,_,_] sl62 tz3 ?_;refine wd zeK (zbL (b:=b) (p:=p+3) (l:=[3,2,4,1]) hb (by omega) (by simp) (by simp)) rfl rfl ⟨rfl,trivial⟩ ?_;refine wd zq4 (HDR) rfl rfl ⟨rfl,trivial⟩ ?_;refine evd [] [] ?_;refine so ty25 ?_;refine so ty44 ?_;refine dr ?_;refine rn [(900,some (rdB b (typV b p).2))] (.cons (.tmp rfl) (.cons (.cellA ty25 rfl rfl rfl) (.cons (.cellA ty44 rfl rfl rfl) .nil))) (.tup (.cons (.eqd ?_) (.cons (.agg (.cons (.eqd ?_) (.cons (.eqd ?_) .nil))) (.cons (.agg (.cons (.eqd ?_) (.cons (.eqd ?_) (.cons (.eqd ?_) .nil)))) .nil)))) ⟨rfl,rfl⟩ (SubO.get ⟨.inr ?_,⟨.inl rfl,trivial⟩⟩) (zay rfl);rotate_left 7;have HDR:=hdr3 (by rw[if_neg (by omega)] at hT;rw[<-hT];exact hdeep);refine si [0,1,2,3] [_,_,_,_] sl62 tz3 ?_;refine wd zeK (zbL (b:=b) (p:=p+3) (l:=[3,2,4,1]) hb (by omega) (by simp) (by simp)) rfl rfl ⟨rfl,trivial⟩ ?_;refine wd zq4 (HDR) rfl rfl ⟨rfl,trivial⟩ ?_;refine evd [] [] ?_;refine so ty25 ?_;refine so ty44 ?_;refine dr ?_;refine rn [(900,some (rdB b (typV b p).2))] (.cons (.tmp rfl) (.cons (.cellA ty25 rfl rfl rfl) (.cons (.cellA ty44 rfl rfl rfl) .nil))) (.tup (.cons (.eqd ?_) (.cons (.agg (.cons (.eqd ?_) (.cons (.eqd ?_) .nil))) (.cons (.agg (.cons (.eqd ?_) (.cons (.eqd ?_) (.cons (.eqd ?_) .nil)))) .nil)))) ⟨rfl,rfl⟩ (SubO.get ⟨.inr ?_,⟨.inl rfl,trivial⟩⟩) (zay rfl);rotate_left 7;all_goals (first|((first|(rw[if_pos (by omega)] at hT;rw[hV,hT];all_goals rfl)|(rw[if_neg (by omega)] at hT;rw[hV,hT];all_goals rfl)|(rw[if_pos (by omega)] at hT;rw[hT];all_goals rfl)|(rw[if_neg (by omega)] at hT;rw[hT];all_goals rfl)|rfl);done)|(first|(rw[if_pos (by omega)] at hT;rw[hV,hT];all_goals rfl)|(rw[if_neg (by omega)] at hT;rw[hV,hT];all_goals rfl)))
structure CaseW (w:List Data):Prop where
 small:WSmall w
 valid:za3 w=true
 one:1<=w.length
 ct:∀k:Int,k=0\/k=1\/k=2->1<=(zah w ⟨0,k⟩).length
theorem xau:∀l:List Pat,l.length<=Pats.size l
 | []=>Nat.zero_le _
 |v::r=>by
  have:=xau r;have h:=Pat.size_eq v;simp only[xab,Pats.size];omega
theorem zts {x:Pat} (hx:x.ok):∀ {l:List Pat}{i:Nat},Pats.ok l->Pats.ok (l.set i x)
 | [],_,_=>by simp[Pats.ok]
 |y::r,0,h=>⟨hx,h.2⟩
 |y::r,i+1,h=>⟨h.1,zts hx h.2⟩
theorem zsL {x:Pat} (hx:x.ok):∀ {l:List Pat},Pats.ok l->Pats.ok (l++[x])
 | [],_=>⟨hx,trivial⟩
 |y::r,h=>⟨h.1,zsL hx h.2⟩
theorem zoY {x:Pat}:∀ {l:List Pat}{i:Nat},Pats.size (l.set i x)<=Pats.size l+x.size
 | [],_=>by simp[Pats.size]
 |y::r,0=>by simp only[List.set_cons_zero,Pats.size];omega
 |y::r,i+1=>by have:=zoY (x:=x) (l:=r) (i:=i);simp only[List.set_cons_succ,Pats.size];omega
theorem zxW {b:Str}{p:Pat}{q:Nat} (hs:p.size<=1000) (hok:p.ok):(mutP b p q).1.size<=2000/\(mutP b p q).1.ok:=by
 have hv:zbo.size=1/\zbo.ok:=⟨by rw[Pat.size_eq];rfl,by rw[Pat.ok_iff];exact⟨by simp[zbo,Pat.kids],trivial⟩⟩;have h0:=Pat.size_eq p;rw[Pat.ok_iff] at hok;have same:∀a c n m v:Int,(Pat.mk a c n m v p.kids).size<=2000/\(Pat.mk a c n m v p.kids).ok:=fun a c n m v=>by
  refine⟨by rw[Pat.size_eq];show 1+Pats.size p.kids<=_;omega,by rw[Pat.ok_iff];exact hok⟩
 unfold mutP;split;exact same _ _ _ _ _
 split;exact same _ _ _ _ _
 split;exact same _ _ _ _ _
 split
 ·refine⟨?_, ?_⟩
  ·dsimp only;rw[Pat.size_eq];show 1+Pats.size (p.kids++[zbo])<=_;rw[xav];omega
  ·dsimp only;rw[Pat.ok_iff];refine⟨?_,zsL hv.2 hok.2⟩;show(p.kids++[zbo]).length<=_
   have:=xau p.kids;simp only[xaa,List.length_singleton];omega
 split
 ·refine⟨?_, ?_⟩
  ·dsimp only;rw[Pat.size_eq];show 1+Pats.size (p.kids.set 0 zbo)<=_;have:=zoY (x:=zbo) (l:=p.kids) (i:=0);omega
  ·dsimp only;rw[Pat.ok_iff];exact⟨by show(p.kids.set 0 zbo).length<=_;rw[List.length_set];exact hok.1,zts hv.2 hok.2⟩
 split;exact same _ _ _ _ _
 exact same _ _ _ _ _
def wid (w:List Data) (u:Ty):Nat:=if u.data = -1 then 10 else (zah w u).length
def zhx (w:List Data):Bool:=(List.range (w.length*4)).all fun s=>decide (((zah w (tyS s)).map fun c=>zbh ((zaa w (tyS s) c).map fun u=>max 1 (wid w u))).sum<=400)
theorem zqu:((List.range 7).all fun i=>zhx (zdv (nth zdP i)).1)=true:=by kernel_rfl
theorem zpS {w:List Data} (h:zhx w=true){t:Ty} (ht:InS (w.length*4) t) (hd:t.data≠ -1):((zah w t).map fun c=>zbh ((zaa w t c).map fun u=>max 1 (wid w u))).sum<=400:=by
 rcases ht with h1|⟨h1,h2⟩
 ·exact absurd h1 hd
 ·have:=List.all_eq_true.1 h _ (List.mem_range.2 h1);rw[h2] at this;exact of_decide_eq_true this
theorem zqt (b:Str) (p:Nat):zhx (zbw b p)=true:=List.all_eq_true.1 zqu (zan b p 7).toNat (List.mem_range.2 (zqH b p))
def shal (p:Pat):Prop:=p.op=1\/p.op=3\/∃c l,p=zbb c l/\∀k∈l,k=anyQ
def zjI (p:Pat):Prop:=p.op=1\/p.op=3\/∃c l,p=zbb c l/\∀k∈l,shal k
def PosP (K:Pat->Prop):Prop:=(∀k,K k->shal k)\/∃x,zjI x/\¬shal x/\∀k,K k->k=x
def FormA (L:List Pat):Prop:=∀p∈L,zjI p
def FormB (L:List Pat):Prop:=∃(c:Int) (m:Nat) (K:Nat->Pat->Prop),(∀j,j<m->PosP (K j))/\∀p∈L,CSat K c m p
def Form (L:List Pat):Prop:=FormA L\/FormB L
theorem zr4:shal anyQ:= .inl rfl
theorem zzv {p:Pat} (h:shal p):zjI p:=by
 rcases h with h|h|⟨c,l,h1,h2⟩
 ·exact .inl h
 ·exact .inr (.inl h)
 ·exact .inr (.inr ⟨c,l,h1,fun k hk=>by rw[h2 k hk];exact zr4⟩)
theorem PosP.two {K:Pat->Prop} (h:PosP K){k:Pat} (hk:K k):zjI k:=by
 rcases h with h|⟨x,h1,_,h2⟩
 ·exact zzv (h k hk)
 ·rw[h2 k hk];exact h1
theorem PosP.one {K:Pat->Prop} (h:∀k k',K k->K k'->k=k') (h2:∀k,K k->zjI k):PosP K:=by
 by_cases hx:∃k,K k/\¬shal k
 ·obtain⟨k,h3,h4⟩:=hx;exact .inr ⟨k,h2 k h3,h4,fun k' h5=>h k' k h5 h3⟩
 ·exact .inl fun k hk=>Classical.byContradiction fun h3=>hx ⟨k,hk,h3⟩
theorem zt0 {α:Type} [Inhabited α]{P:Int->Nat->Prop}{Q:Int->Nat->α->Prop} (h:∀c j,P c j->∃x,Q c j x):∃f:Int->Nat->α,∀c j,P c j->Q c j (f c j):=by
 classical
 exact⟨fun c j=>if hp:P c j then Classical.choose (h c j hp) else default,fun c j hp=>by simp only[dif_pos hp];exact Classical.choose_spec (h c j hp)⟩
theorem zrS:∀ {a b:List Nat},a.length=b.length->(∀i,i<a.length->nth a i<=nth b i)->zbh a<=zbh b
 | [],[],_,_=>Nat.le_refl _
 |x::a,y::b,h,hi=>Nat.mul_le_mul (hi 0 (by simp)) (zrS (a:=a) (b:=b) (by simpa using h) (fun i hi'=>hi (i+1) (by simpa using hi')))
 | [],_::_,h,_=>by simp at h
 |_::_,[],h,_=>by simp at h
theorem zpf {w:List Data}{c:Int}{us:List Ty}{Vs:Nat->List Val}{g:Ty->Nat} (h:∀j,j<us.length->(Vs j).length<=g (nth us j)):(zhl c us.length Vs).length<=zbh (us.map g):=by
 rw[zwP];refine zrS (by simp) (fun i hi=>?_);rw[xac,List.length_range] at hi;rw[zkN _ hi,zaM (by simpa using hi),List.getElem_map,<-zaM hi];exact h i hi
theorem zsd {α:Type}{f g:α->Nat}:∀ {l:List α},(∀x∈l,f x<=g x)->(l.map f).sum<=(l.map g).sum
 | [],_=>Nat.le_refl _
 |x::r,h=>by
  simp only[xae,List.sum_cons];exact Nat.add_le_add (h x (by simp)) (zsd (fun y hy=>h y (by simp[hy])))
theorem znB {x:Nat}:∀ {l:List Nat},x∈l->x<=l.sum
 |a::r,h=>by
  rw[List.sum_cons];rcases List.mem_cons.1 h with rfl|h
  ·omega
  ·have:=znB h;omega
theorem zmd {α β:Type}{f:α->List β}:∀ {l:List α},(l.flatMap f).length=(l.map fun x=>(f x).length).sum
 | []=>rfl
 |x::r=>by rw[List.flatMap_cons,xaa,xae,List.sum_cons,zmd]
section
variable {w:List Data} (hs:Spa w)
include hs
theorem ztt {t:Ty} (ht:InS (w.length*4) t):∃S V,V.length<=max 1 (wid w t)/\Grid w t S V/\(∀n p,zaf w n t p=true->shal p->S p)/\S anyQ:=by
 by_cases hd:t.data = -1
 ·refine⟨fun _=>True,zeu, ?_,zru hd,fun _ _ _ _=>trivial,trivial⟩;unfold wid;rw[if_pos hd];simp[zeu]
 ·obtain⟨Vs,hV⟩:=zt0 (P:=fun c j=>c∈zah w t/\j<(zaa w t c).length) (Q:=fun c j V=>V.length<=1/\Grid w (nth (zaa w t c) j) (fun p=>p=anyQ) V)
   (fun c j h=>zpE hs (zbr hs.dp ht h.1 _ (zac h.2)) (zka (n:=0)))
  refine⟨_,_, ?_,zpF hs ht hd (Ss:=fun _ _ p=>p=anyQ) (Vs:=Vs) (fun c hc j hj=>(hV c j ⟨hc,hj⟩).2) (fun _ _ _=>rfl),fun n p hp hsh=>?_,.inl rfl⟩
  ·rw[zmd];have h1:((zah w t).map fun c=>(zhl c (zaa w t c).length (Vs c)).length).sum<=((zah w t).map fun _=>1).sum:=zsd (fun c hc=>by
    have:=zpf (w:=w) (c:=c) (us:=zaa w t c) (Vs:=Vs c) (g:=fun _=>1) (fun j hj=>(hV c j ⟨hc,hj⟩).1);refine Nat.le_trans this ?_;generalize zaa w t c=us;induction us with
    |nil=>simp[zbh]
    |cons x r ih=>simp only[xae,zbh,Nat.one_mul];exact ih)
   have h2:((zah w t).map fun _=>1).sum=(zah w t).length:=by
    generalize zah w t=l;induction l with
    |nil=>rfl
    |cons x r ih=>rw[xae,List.sum_cons,ih,xab];omega
   unfold wid;rw[if_neg hd];omega
  ·rcases hsh with h|h|⟨c,l,rfl,h2⟩
   ·exact .inl h
   ·exact absurd (zbG hp h).1 hd
   ·obtain⟨m1,m2,m3,m4⟩:=zaD hp rfl;exact .inr ⟨c,m1,l,rfl,m3,fun j hj=>h2 _ (zac (by have e:l.length=(zaa w t c).length:=m3;omega))⟩
theorem zwG (hn:zhx w=true){t:Ty} (ht:InS (w.length*4) t):∃S V,V.length<=400/\Grid w t S V/\∀n p,zaf w n t p=true->zjI p->S p:=by
 by_cases hd:t.data = -1
 ·exact⟨fun _=>True,zeu,by simp[zeu],zru hd,fun _ _ _ _=>trivial⟩
 ·obtain⟨F,hF⟩:=zt0 (P:=fun c j=>c∈zah w t/\j<(zaa w t c).length) (Q:=fun c j (SV:(Pat->Prop)×List Val)=>SV.2.length<=max 1 (wid w (nth (zaa w t c) j))/\Grid w (nth (zaa w t c) j) SV.1 SV.2/\(∀n p,zaf w n (nth (zaa w t c) j) p=true->shal p->SV.1 p)/\SV.1 anyQ)
   (fun c j h=>by
    obtain⟨S,V,h1,h2,h3,h4⟩:=ztt hs (t:=nth (zaa w t c) j) (zbr hs.dp ht h.1 _ (zac h.2));exact⟨(S,V),h1,h2,h3,h4⟩)
  refine⟨_,_, ?_,zpF hs ht hd (Ss:=fun c j p=>(c∈zah w t/\j<(zaa w t c).length)->(F c j).1 p) (Vs:=fun c j=>(F c j).2) (fun c hc j hj=>?_) (fun c hc j h=>(hF c j h).2.2.2),fun n p hp hsh=>?_⟩
  ·rw[zmd];exact Nat.le_trans (zsd (fun c hc=>zpf (w:=w) (g:=fun u=>max 1 (wid w u)) (fun j hj=>(hF c j ⟨hc,hj⟩).1))) (zpS hn ht hd)
  ·have hg:=(hF c j ⟨hc,hj⟩).2.1;exact⟨fun n a b z ha hb h _=>hg.meet n a b z (ha ⟨hc,hj⟩) (hb ⟨hc,hj⟩) h,fun n a b x ha hb h _=>hg.minus n a b x (ha ⟨hc,hj⟩) (hb ⟨hc,hj⟩) h,fun n p hp=>hg.hit n p (hp ⟨hc,hj⟩),hg.fits⟩
  ·cases n with
   |zero=>simp[zaf] at hp
   |succ n=>
    rcases hsh with h|h|⟨c,l,rfl,h2⟩
    ·exact .inl h
    ·exact absurd (zbG hp h).1 hd
    ·obtain⟨m1,m2,m3,m4⟩:=zaD hp rfl;have e:l.length=(zaa w t c).length:=m3;refine .inr ⟨c,m1,l,rfl,m3,fun j hj h=>?_⟩;have hk:=zaS hp (i:=j) (by show j<l.length;omega);rw[za0 rfl] at hk;exact(hF c j h).2.2.1 n _ hk (h2 _ (zac (by omega)))
theorem zwu {t:Ty} (ht:InS (w.length*4) t){K:Pat->Prop} (hK:PosP K):∃S V,V.length<=max 1 (wid w t)/\Grid w t S V/\∀n p,zaf w n t p=true->K p->S p:=by
 by_cases hx:∃n x,zaf w n t x=true/\¬shal x/\∀k,K k->k=x
 ·obtain⟨n,x,h1,_,h2⟩:=hx;obtain⟨V,h3,h4⟩:=zpE hs ht h1;exact⟨_,V,by omega,h4,fun n p _ hp=>h2 p hp⟩
 ·obtain⟨S,V,h1,h2,h3,_⟩:=ztt hs ht;refine⟨S,V,h1,h2,fun n p hp hk=>?_⟩;rcases hK with h|⟨x,h4,h5,h6⟩
  ·exact h3 n p hp (h p hk)
  ·exact absurd ⟨n,x,by rw[<-h6 p hk];exact hp,h5,h6⟩ hx
theorem zwa (hn:zhx w=true){t:Ty} (ht:InS (w.length*4) t){l res:List Pat} (hf:Form l) (hl:∀b∈l,zaf w 10 t b=true) (h:sepQ w t [] l []=some res):res.length<=400:=by
 rcases hf with hf|⟨c,m,K,hK,hf⟩
 ·obtain⟨S,V,h1,h2,h3⟩:=zwG hs hn ht;exact Nat.le_trans (ztq hs ht h2 (fun b hb=>⟨hl b hb,h3 10 b (hl b hb) (hf b hb)⟩) h) h1
 ·cases l with
  |nil=>rw[sepQ] at h;cases h;simp
  |cons p0 r=>
   obtain⟨l0,e0,e1,_⟩:=hf p0 (by simp);have hp0:=hl p0 (by simp);have hc:=zaD hp0 (by rw[e0];rfl);rw[e0] at hc;have hcc:c∈zah w t:=hc.1;have hm:m=(zaa w t c).length:=by rw[<-e1];exact hc.2.2.1
   subst hm;obtain⟨F,hF⟩:=zt0 (P:=fun c' j=>c'=c/\j<(zaa w t c).length) (Q:=fun _ j (SV:(Pat->Prop)×List Val)=>SV.2.length<=max 1 (wid w (nth (zaa w t c) j))/\Grid w (nth (zaa w t c) j) SV.1 SV.2/\∀n p,zaf w n (nth (zaa w t c) j) p=true->K j p->SV.1 p)
    (fun c' j h=>by
     obtain⟨S,V,h1,h2,h3⟩:=zwu hs (t:=nth (zaa w t c) j) (zbr hs.dp ht hcc _ (zac h.2)) (hK j h.2);exact⟨(S,V),h1,h2,h3⟩)
   have hg:=zie hcc (Ss:=fun j=>(F c j).1) (Vs:=fun j=>(F c j).2) (fun j hj=>(hF c j ⟨rfl,hj⟩).2.1);refine Nat.le_trans (ztq hs ht hg (fun b hb=>⟨hl b hb, ?_⟩) h) ?_
   ·obtain⟨lb,rfl,h1,h2⟩:=hf b hb;refine⟨lb,rfl,h1,fun j hj=>?_⟩;have hk:=zaS (hl _ hb) (i:=j) (by show j<lb.length;omega);rw[za0 rfl] at hk;exact(hF c j ⟨rfl,hj⟩).2.2 9 _ hk (h2 j hj)
   ·have h1:=zpf (w:=w) (c:=c) (us:=zaa w t c) (Vs:=fun j=>(F c j).2) (g:=fun u=>max 1 (wid w u)) (fun j hj=>(hF c j ⟨rfl,hj⟩).1);have h2:=zpS hn ht hc.2.1;have h3:zbh ((zaa w t c).map fun u=>max 1 (wid w u))<=((zah w t).map fun c=>zbh ((zaa w t c).map fun u=>max 1 (wid w u))).sum:=znB (List.mem_map.2 ⟨c,hcc,rfl⟩);omega
end
def Dr:Nat->Pat->Prop
 |0,p=>p=anyQ
 |n+1,p=>p=anyQ\/(p.op=3/\p.kids=[])\/(p.op=5/\p.kids.length=2/\∀k∈p.kids,Dr n k)\/(p.op=4/\∀k∈p.kids,Dr n k)
theorem Dr.any (n:Nat):Dr n anyQ:=by cases n<;>simp[Dr]
theorem Dr.up:∀(n:Nat){p:Pat},Dr n p->Dr (n+1) p
 |0,p,h=> .inl h
 |n+1,p,h=>by
  rcases h with h|h|⟨h1,h2,h3⟩|⟨h1,h2⟩
  ·exact .inl h
  ·exact .inr (.inl h)
  ·exact .inr (.inr (.inl ⟨h1,h2,fun k hk=>Dr.up n (h3 k hk)⟩))
  ·exact .inr (.inr (.inr ⟨h1,fun k hk=>Dr.up n (h2 k hk)⟩))
theorem Dr.le {n m:Nat} (h:n<=m){p:Pat} (hp:Dr n p):Dr m p:=by
 induction h with
 |refl=>exact hp
 |step _ ih=>exact Dr.up _ ih
theorem zuX {f:Ty->Nat->Pat×Nat}{P:Pat->Prop} (h:∀t q,P (f t q).1):∀(l:List Ty) (q:Nat),∀k∈(dA f l q).1,P k
 | [],q,k,hk=>by simp[dA] at hk
 |t::r,q,k,hk=>by
  simp only[dA,List.mem_cons] at hk;rcases hk with rfl|hk
  ·exact h t q
  ·exact zuX h r _ k hk
theorem zoE {b:Str}{w:List Data}:∀(d:Nat) (t:Ty) (p:Nat),Dr d (zaF b w (d+1) t p).1/\Dr 0 (zaF b w 0 t p).1
 |0,t,p=>by
  refine⟨?_,rfl⟩;unfold zaF;rw[if_pos rfl];rfl
 |d+1,t,p=>by
  refine⟨?_,rfl⟩;have ih:=fun t p=>(zoE (b:=b) (w:=w) d t p).1;rw[zaF,if_neg (by omega)];split
  ·exact Dr.any _
  ·split
   ·refine .inr (.inr (.inl ⟨rfl,rfl,fun k hk=>?_⟩));simp only[Pat.kids,List.mem_cons,List.not_mem_nil,or_false] at hk;rcases hk with rfl|rfl
    ·exact ih _ _
    ·exact ih _ _
   ·split
    ·exact .inr (.inl ⟨rfl,rfl⟩)
    ·split
     ·exact Dr.any _
     ·refine .inr (.inr (.inr ⟨rfl,fun k hk=>?_⟩));exact zuX (P:=Dr d) ih _ _ k hk
theorem zfj:∀(n:Nat){p:Pat},Dr n p->zav p=p
 |0,p,h=>by
  rw[show p=anyQ from h,zbi,if_neg (by decide),if_neg (by decide)];rfl
 |n+1,p,h=>by
  have map_id:∀l:List Pat,(∀k∈l,zav k=k)->l.map zav=l:=fun l hl=>by
   induction l with
   |nil=>rfl
   |cons x r ih=>rw[xae,hl x (by simp),ih (fun k hk=>hl k (by simp[hk]))]
  have key:p.op≠2->p.op≠6->(∀k∈p.kids,zav k=k)->zav p=p:=fun h2 h6 hk=>by
   rw[zbi,if_neg h2,if_neg (fun hh=>h6 hh.1),map_id p.kids hk];cases p;rfl
  rcases h with h|⟨h1,h2⟩|⟨h1,h2,h3⟩|⟨h1,h2⟩
  ·exact zfj 0 h
  ·exact key (by omega) (by omega) (by rw[h2];simp)
  ·exact key (by omega) (by omega) (fun k hk=>zfj n (h3 k hk))
  ·exact key (by omega) (by omega) (fun k hk=>zfj n (h2 k hk))
theorem zpQ {f:Pat->Int->Nat->Pat×Int×Nat}:∀(l:List Pat) (m:Int) (q:Nat),(∀x∈l,∀m q,zav (f x m q).1=x)->(namL f l m q).1.map zav=l/\∀y∈(namL f l m q).1,zav y∈l
 | [],m,q,_=>by simp[namL]
 |x::r,m,q,h=>by
  have h1:=h x (by simp) m q;have h2:=zpQ r (f x m q).2.1 (f x m q).2.2 (fun y hy=>h y (by simp[hy]));simp only[namL];refine⟨by rw[xae,h1,h2.1],fun y hy=>?_⟩;rcases List.mem_cons.1 hy with rfl|hy
  ·rw[h1];simp
  ·exact List.mem_cons_of_mem _ (h2.2 y hy)
structure NamB (p r:Pat):Prop where
 bare:zav r=p
 kids:(∀k∈r.kids,zav k∈p.kids)\/(r.op=6/\r.kids.length=1)
theorem zrK {b:Str}:∀(n:Nat) (d:Nat){p:Pat} (m:Int) (q:Nat),Dr d p->NamB p (namP b n p m q).1
 |0,d,p,m,q,h=>⟨zfj d h,.inl fun k hk=>by
  have:zav k=k:=by
   cases d with
   |zero=>rw[show p=anyQ from h] at hk;simp[namP,zaL] at hk
   |succ d=>
    rcases h with h|⟨h1,h2⟩|⟨h1,h2,h3⟩|⟨h1,h2⟩
    ·subst h;simp[namP,zaL] at hk
    ·have hk':k∈p.kids:=hk;rw[h2] at hk';simp at hk'
    ·exact zfj d (h3 k hk)
    ·exact zfj d (h2 k hk)
  rw[this];exact hk⟩
 |n+1,d,p,m,q,h=>by
  have hkid:∀k∈p.kids,∃e,Dr e k:=fun k hk=>by
   cases d with
   |zero=>rw[show p=anyQ from h] at hk;simp[zaL] at hk
   |succ d=>
    rcases h with h|⟨h1,h2⟩|⟨h1,h2,h3⟩|⟨h1,h2⟩
    ·subst h;simp[zaL] at hk
    ·rw[h2] at hk;simp at hk
    ·exact⟨d,h3 k hk⟩
    ·exact⟨d,h2 k hk⟩
  have hb:=zfj d h;have hop:p.op≠2/\p.op≠6:=by
   cases d with
   |zero=>rw[show p=anyQ from h];exact⟨by decide,by decide⟩
   |succ d=>
    rcases h with h|⟨h1,h2⟩|⟨h1,h2,h3⟩|⟨h1,h2⟩
    ·rw[h];exact⟨by decide,by decide⟩
    ·omega
    ·omega
    ·omega
  by_cases c1:5<m\/p.op=5\/p.op=3
  ·rw[znH c1];exact⟨hb,.inl fun k hk=>by obtain⟨e,he⟩:=hkid k hk;rw[zfj e he];exact hk⟩
  by_cases c2:p.op=1/\zan b q 2=0
  ·rw[znI c1 c2];have hp:p=anyQ:=by
    cases d with
    |zero=>exact h
    |succ d=>
     rcases h with h|⟨h1,h2⟩|⟨h1,h2,h3⟩|⟨h1,h2⟩
     ·exact h
     ·omega
     ·omega
     ·omega
   exact⟨by rw[hp];exact(zbi _).trans (if_pos rfl),.inl fun k hk=>by simp[zaL] at hk⟩
  have hL:=zpQ (f:=namP b n) p.kids m (if p.op=1 then q+1 else q) (fun x hx m q=>by obtain⟨e,he⟩:=hkid x hx;exact(zrK n e m q he).bare);generalize hz:namL (namP b n) p.kids m (if p.op=1 then q+1 else q)=z at hL;obtain⟨ks,zm,zq⟩:=z;dsimp only at hL;have hmk:zav (.mk p.op p.ctor p.n p.m p.var ks)=p:=by
   rw[zbi,if_neg (by rw[zby];exact hop.1),if_neg (by rw[zby];exact fun hh=>hop.2 hh.1)];simp only[zby,zfu,mk_n,mk_m,zhS,zaL];rw[hL.1];cases p;rfl
  by_cases c3:zm<=5
  ·by_cases c4:zan b zq 6=0
   ·rw[znJ c1 c2 hz.symm c3 c4];refine⟨?_,.inr ⟨rfl,rfl⟩⟩;rw[zbi,if_neg (by rw[zby];decide),if_pos ⟨rfl,by rw[zaL];simp⟩];exact hmk
   ·rw[znK c1 c2 hz.symm c3 c4];exact⟨hmk,.inl fun k hk=>hL.2 k hk⟩
  ·rw[znL c1 c2 hz.symm c3];exact⟨hmk,.inl fun k hk=>hL.2 k hk⟩
theorem zdC {p:Pat} (h5:p.op≠5){y:Pat} (hy:y∈zau p):∃l,y = .mk p.op p.ctor p.n p.m p.var l/\l.length=p.kids.length/\∀i,i<p.kids.length->nth l i∈zau (nth p.kids i):=by
 rw[zdc h5] at hy;obtain⟨l,hl,rfl⟩:=List.mem_map.1 hy;obtain⟨q,hq,r,e,h1,h2⟩:=zil _ _ _ hl;rw[List.mem_singleton] at hq;rw[hq,List.nil_append] at e;subst e;rw[xac] at h1;refine⟨l,rfl,h1,fun i hi=>?_⟩;have:=h2 i (by simpa using hi);rwa [zaM (l:=p.kids.map zau) (by simpa using hi),List.getElem_map,<-zaM hi] at this
theorem dr_1 {p:Pat} (h:Dr 1 p):∃x,∀y∈zau p,y=x:=by
 rcases h with h|⟨h1,h2⟩|⟨h1,h2,h3⟩|⟨h1,h2⟩
 ·rw[h,zci];exact⟨anyQ,fun y hy=>List.mem_singleton.1 hy⟩
 ·rw[zdB (by omega) h2];exact⟨p,fun y hy=>List.mem_singleton.1 hy⟩
 ·rw[zdH h1 h2,show nth p.kids 0=anyQ from h3 _ (zac (by omega)),show nth p.kids 1=anyQ from h3 _ (zac (by omega)),zci];exact⟨anyQ,fun y hy=>by simpa using hy⟩
 ·refine⟨p,fun y hy=>?_⟩;obtain⟨l,rfl,h3,h4⟩:=zdC (by omega) hy;have:l=p.kids:=zoG h3 (fun i hi=>by
   have h5:=h4 i (by omega);have h6:nth p.kids i=anyQ:=h2 _ (zac (by omega));rw[h6,zci] at h5;rw[h6];exact List.mem_singleton.1 h5)
  rw[this];cases p;rfl
section
variable {w:List Data}{n:Nat}{t:Ty}
theorem ztK {p:Pat} (h:Dr 1 p) (hp:∀y∈zau p,zaf w n t y=true):∀y∈zau p,shal y:=by
 intro y hy;have hpy:=hp y hy;rcases zbq hpy with o|o|o
 ·exact .inl o
 ·exact .inr (.inl o)
 ·refine .inr (.inr ⟨y.ctor,y.kids,(zaD hpy o).2.2.2, ?_⟩);rcases h with h|⟨h1,h2⟩|⟨h1,h2,h3⟩|⟨h1,h2⟩
  ·rw[h,zci,List.mem_singleton] at hy;rw[hy];simp[zaL]
  ·rw[zdB (by omega) h2,List.mem_singleton] at hy;rw[hy,h2];simp
  ·rw[zdH h1 h2,show nth p.kids 0=anyQ from h3 _ (zac (by omega)),show nth p.kids 1=anyQ from h3 _ (zac (by omega)),zci] at hy;have:y=anyQ:=by simpa using hy
   rw[this];simp[zaL]
  ·obtain⟨l,rfl,h3,h4⟩:=zdC (by omega) hy;intro k hk;rw[zaL] at hk;obtain⟨i,hi,rfl⟩:=List.getElem_of_mem hk;have h5:=h4 i (by omega);rw[show nth p.kids i=anyQ from h2 _ (zac (by omega)),zci,List.mem_singleton,zaM hi] at h5;exact h5
theorem dr_2 {p:Pat} (h:Dr 2 p) (hp:∀y∈zau p,zaf w n t y=true):PosP (fun y=>y∈zau p):=by
 have leaf:∀y,y.op=4->y∈zau p->p.op≠5->p.op=4:=fun y o hy h5=>by
  obtain⟨l,rfl,_,_⟩:=zdC h5 hy;exact o
 rcases h with h|⟨h1,h2⟩|⟨h1,h2,h3⟩|⟨h1,h2⟩
 ·rw[h,zci];exact .inl fun k hk=>by rw[List.mem_singleton.1 hk];exact zr4
 ·rw[zdB (by omega) h2];exact .inl fun k hk=>by rw[List.mem_singleton.1 hk];exact .inr (.inl h1)
 ·refine .inl fun y hy=>?_;rw[zdH h1 h2] at hy hp;rcases List.mem_append.1 hy with hy|hy
  ·exact ztK (w:=w) (n:=n) (t:=t) (h3 _ (zac (by omega))) (fun z hz=>hp z (List.mem_append_left _ hz)) y hy
  ·exact ztK (w:=w) (n:=n) (t:=t) (h3 _ (zac (by omega))) (fun z hz=>hp z (List.mem_append_right _ hz)) y hy
 ·refine PosP.one (fun y y' hy hy'=>?_) (fun y hy=>?_)
  ·obtain⟨l,rfl,h3,h4⟩:=zdC (by omega) hy;obtain⟨l',rfl,h5,h6⟩:=zdC (by omega) hy';have:l=l':=zoG (by omega) (fun i hi=>by
    obtain⟨x,hx⟩:=dr_1 (h2 _ (zac (i:=i) (by omega)));rw[hx _ (h4 i (by omega)),hx _ (h6 i (by omega))])
   rw[this]
  ·have hpy:=hp y hy;have h4p:y.op=4:=by obtain⟨l,rfl,_,_⟩:=zdC (by omega) hy;exact h1
   refine .inr (.inr ⟨y.ctor,y.kids,(zaD hpy h4p).2.2.2,fun k hk=>?_⟩);obtain⟨l,e,h3,h4⟩:=zdC (by omega) hy;have hkl:y.kids=l:=by rw[e];rfl
   rw[hkl] at hk;obtain⟨i,hi,rfl⟩:=List.getElem_of_mem hk;have hmi:=h4 i (by omega);have hd1:=h2 _ (zac (l:=p.kids) (i:=i) (by omega));obtain⟨x,hx⟩:=dr_1 hd1;cases n with
   |zero=>simp[zaf] at hpy
   |succ n=>
    have hk2:=zaS hpy (i:=i) (by rw[hkl];omega);rw[hkl] at hk2;rw[<-zaM hi];exact ztK (w:=w) (n:=n) (t:=nth (zag w t y) i) hd1 (fun z hz=>by rw[hx z hz,<-hx _ hmi];exact hk2) _ hmi
theorem zxj {p:Pat} (h:Dr 2 p) (hp:∀y∈zau p,zaf w n t y=true):∀y∈zau p,zjI y:=fun y hy=>(dr_2 h hp).two hy
end
theorem zom {n:Nat}{p:Pat} (hb:binP (n+1) p=true) (h5:p.op≠5){i:Nat} (hi:i<p.kids.length){z:Pat} (hz:z∈zau (nth p.kids i)):∃y∈zau p,nth y.kids i=z/\y.op=p.op/\y.ctor=p.ctor/\y.kids.length=p.kids.length:=by
 have hne:∀j,j<p.kids.length->∃x,x∈zau (nth p.kids j):=fun j hj=>by
  have:=(zkm n (zea hb hj)).2;exact List.exists_mem_of_length_pos this
 have hch:∃l:List Pat,l.length=p.kids.length/\(∀j,j<p.kids.length->nth l j∈zau (nth p.kids j))/\nth l i=z:=by
  have:∀k,k<=p.kids.length->∃l:List Pat,l.length=k/\(∀j,j<k->nth l j∈zau (nth p.kids j))/\(i<k->nth l i=z):=fun k=>by
   induction k with
   |zero=>exact fun _=>⟨[],rfl,fun j hj=>by omega,fun h=>by omega⟩
   |succ k ih=>
    intro hk;obtain⟨l,h1,h2,h3⟩:=ih (by omega);have hx:∃x,x∈zau (nth p.kids k)/\(i=k->x=z):=by
     by_cases e:i=k
     ·exact⟨z,e ▸ hz,fun _=>rfl⟩
     ·obtain⟨x,hx⟩:=hne k (by omega);exact⟨x,hx,fun h=>absurd h e⟩
    obtain⟨x,hx,hxz⟩:=hx;have e1:nth (l++[x]) k=x:=by
     simp only[nth,List.getD];rw[List.getElem?_append_right (by omega),h1,Nat.sub_self];all_goals rfl
    have e2:∀j,j<k->nth (l++[x]) j=nth l j:=fun j hj=>by
     simp only[nth,List.getD];rw[List.getElem?_append_left (by omega)]
    refine⟨l++[x],by simp[h1],fun j hj=>?_,fun h=>?_⟩
    ·by_cases e:j=k
     ·subst e;rw[e1];exact hx
     ·rw[e2 j (by omega)];exact h2 j (by omega)
    ·by_cases e:i=k
     ·rw[e,e1];exact hxz e
     ·rw[e2 i (by omega)];exact h3 (by omega)
  obtain⟨l,h1,h2,h3⟩:=this p.kids.length (Nat.le_refl _);exact⟨l,h1,h2,h3 hi⟩
 obtain⟨l,h1,h2,h3⟩:=hch;refine⟨.mk p.op p.ctor p.n p.m p.var l, ?_,h3,rfl,rfl,h1⟩;rw[zdc h5];refine List.mem_map.2 ⟨l, ?_,rfl⟩;have key:∀(ls:List (List Pat)) (r:List Pat) (out:List (List Pat)) (q:List Pat),r.length=ls.length->q∈out->(∀j,j<ls.length->nth r j∈nth ls j)->q++r∈ls.foldl za9 out:=fun ls=>by
  induction ls with
  |nil=>intro r out q hr hq _;rw[List.eq_nil_of_length_eq_zero hr,List.append_nil];exact hq
  |cons a s ih=>
   intro r out q hr hq hm;cases r with
   |nil=>simp at hr
   |cons x r=>
    rw[List.foldl_cons,show q++x::r=q++[x]++r by simp];refine ih r _ (q++[x]) (by simpa using hr) ?_ (fun j hj=>hm (j+1) (by simpa using hj));unfold za9;exact List.mem_flatMap.2 ⟨q,hq,List.mem_map.2 ⟨x,hm 0 (by simp),rfl⟩⟩
 have:=key (p.kids.map zau) l [[]] [] (by simp[h1]) (by simp) (fun j hj=>by
  rw[xac] at hj;rw[zaM (l:=p.kids.map zau) (by simpa using hj),List.getElem_map,<-zaM hj];exact h2 j hj)
 simpa [zei] using this
section
variable {w:List Data}{n:Nat}{t:Ty}
theorem zpy {p:Pat} (hb:binP 20 p=true) (h4:p.op=4) (hk:∀k∈p.kids,Dr 2 k) (hp:∀y∈zau p,zaf w n t y=true):FormB (zau p):=by
 refine⟨p.ctor,p.kids.length,fun j y=>y∈zau (nth p.kids j),fun j hj=>?_,fun y hy=>?_⟩
 ·cases n with
  |zero=>
   refine .inl fun k hz=>?_;obtain⟨y,hy,_⟩:=zom hb (by omega) hj hz;have:=hp y hy;simp[zaf] at this
  |succ n=>
   refine dr_2 (w:=w) (n:=n) (t:=nth (zaa w t p.ctor) j) (hk _ (zac hj)) (fun z hz=>?_);obtain⟨y,hy,h1,h2,h3,h5⟩:=zom hb (by omega) hj hz;have:=zaS (hp y hy) (i:=j) (by omega);rw[za0 (by omega),h1,h3] at this;exact this
 ·obtain⟨l,e,h1,h2⟩:=zdC (by omega) hy;refine⟨l, ?_,h1,h2⟩;have hpy:=hp y hy;have:=(zaD hpy (by rw[e];exact h4)).2.2.2;rw[this,e];rfl
theorem zoD {p:Pat} (h:Dr 3 p) (hb:binP 20 p=true) (hp:∀y∈zau p,zaf w n t y=true):Form (zau p):=by
 rcases h with h|⟨h1,h2⟩|⟨h1,h2,h3⟩|⟨h1,h2⟩
 ·rw[h,zci];exact .inl fun k hk=>by rw[List.mem_singleton.1 hk];exact .inl rfl
 ·rw[zdB (by omega) h2];exact .inl fun k hk=>by rw[List.mem_singleton.1 hk];exact .inr (.inl h1)
 ·refine .inl fun y hy=>?_;rw[zdH h1 h2] at hy hp;rcases List.mem_append.1 hy with hy|hy
  ·exact zxj (w:=w) (n:=n) (t:=t) (h3 _ (zac (by omega))) (fun z hz=>hp z (List.mem_append_left _ hz)) y hy
  ·exact zxj (w:=w) (n:=n) (t:=t) (h3 _ (zac (by omega))) (fun z hz=>hp z (List.mem_append_right _ hz)) y hy
 ·exact .inr (zpy hb h1 h2 hp)
def RootOk (p:Pat):Prop:=(∀k∈p.kids,Dr 2 (zav k))\/(p.op=6/\p.kids.length=1/\Dr 3 (zav (nth p.kids 0)))
theorem zyj {m k:Nat} (h:m<=k){p:Pat} (hp:binP m p=true):binP k p=true:=by
 induction h with
 |refl=>exact hp
 |step _ ih=>exact zl4 _ ih
theorem zvv {p:Pat} (hr:RootOk p) (hs:zaq w 10 t p=true):Form (zau (zav p)):=by
 have hpt:=zgh 10 hs;have hb:=zyj (k:=20) (by omega) (zgJ 10 hs);rcases hr with hr|⟨h6,h1,h2⟩
 ·rcases zdb hs with o|o|o|o|o|o
  ·have hk:=zd5 hs (by omega) (by omega) (by omega);rw[zbi,if_neg (by omega),if_neg (by omega),zdB (by rw[zby];omega) (by rw[zaL,hk];rfl)];exact .inl fun k hk=>by rw[List.mem_singleton.1 hk];exact .inl o
  ·rw[zbi,if_pos o,zci];exact .inl fun k hk=>by rw[List.mem_singleton.1 hk];exact .inl rfl
  ·have hk:=zd5 hs (by omega) (by omega) (by omega);rw[zbi,if_neg (by omega),if_neg (by omega),zdB (by rw[zby];omega) (by rw[zaL,hk];rfl)];exact .inl fun k hk=>by rw[List.mem_singleton.1 hk];exact .inr (.inl o)
  ·have e:zav p = .mk p.op p.ctor p.n p.m p.var (p.kids.map zav):=by rw[zbi,if_neg (by omega),if_neg (by omega)]
   rw[e] at hpt hb ⊢;refine .inr (zpy hb (by rw[zby];exact o) (fun k hk=>?_) hpt);rw[zaL] at hk;obtain⟨k0,h3,rfl⟩:=List.mem_map.1 hk;exact hr k0 h3
  ·have e:zav p = .mk p.op p.ctor p.n p.m p.var (p.kids.map zav):=by rw[zbi,if_neg (by omega),if_neg (by omega)]
   rw[e] at hpt hb ⊢;obtain⟨l2,_,_⟩:=zdV hs o;refine zoD (w:=w) (n:=10) (t:=t) (.inr (.inr (.inl ⟨by rw[zby];exact o,by rw[zaL];simpa using l2,fun k hk=>?_⟩))) hb hpt;rw[zaL] at hk;obtain⟨k0,h3,rfl⟩:=List.mem_map.1 hk;exact hr k0 h3
  ·obtain⟨l1,_⟩:=zdx hs o;have e:zav p=zav (nth p.kids 0):=by rw[zbi,if_neg (by omega),if_pos ⟨o,fun e=>by rw[e] at l1;simp at l1⟩]
   rw[e] at hpt hb ⊢;exact zoD (Dr.up 2 (hr _ (zac (by omega)))) hb hpt
 ·have e:zav p=zav (nth p.kids 0):=by rw[zbi,if_neg (by omega),if_pos ⟨h6,fun e=>by rw[e] at h1;simp at h1⟩]
  rw[e] at hpt hb ⊢;exact zoD h2 hb hpt
theorem zvC (b:Str) (w:List Data) (t:Ty) (q:Nat):RootOk (zbk b w t q):=by
 unfold zbk;split
 ·have h4:=num4 b q;have hd:Dr 3 (zaF b w (numV b q [3,2,4,1]).toNat t (q+1)).1:=by
   rcases hn:(numV b q [3,2,4,1]).toNat with _|d
   ·exact Dr.any 3
   ·exact Dr.le (by omega) (zoE (b:=b) (w:=w) d t (q+1)).1
  unfold zco;have hnb:=zrK (b:=b) (zaF b w (numV b q [3,2,4,1]).toNat t (q+1)).1.size 3 0 (zaF b w (numV b q [3,2,4,1]).toNat t (q+1)).2 hd;rcases hnb.kids with h|⟨h1,h2⟩
  ·refine .inl fun k hk=>?_;have hm:=h k hk;generalize (zaF b w (numV b q [3,2,4,1]).toNat t (q+1)).1=p0 at *;rcases hd with h|⟨h1,h2⟩|⟨h1,h2,h3⟩|⟨h1,h2⟩
   ·rw[h] at hm;simp[zaL] at hm
   ·rw[h2] at hm;simp at hm
   ·exact h3 _ hm
   ·exact h2 _ hm
  ·refine .inr ⟨h1,h2, ?_⟩;have:=hnb.bare;rw[zbi,if_neg (by omega),if_pos ⟨h1,fun e=>by rw[e] at h2;simp at h2⟩] at this;rw[this];exact hd
 ·exact .inl fun k hk=>by simp[anyP,Pat.kids] at hk
theorem zwn {b:Str}{p:Pat}{q:Nat} (hr:RootOk p) (hs:zaq w 10 t (mutP b p q).1=true):RootOk (mutP b p q).1:=by
 have hv:zav zbo=anyQ:=(zbi _).trans (if_pos rfl);have two:∀ {x:Pat},zaq w 10 t x=true->(x.op=1\/x.op=2\/x.op=3)->x.kids=[]:=fun h ho=>zd5 h (by omega) (by omega) (by omega);rcases hr with hr|⟨h6,h1,h2⟩
 ·refine .inl ?_;unfold mutP;split;exact hr
  split;exact hr
  split;exact hr
  split
  ·intro k hk;rw[zaL] at hk;rcases List.mem_append.1 hk with hk|hk
   ·exact hr k hk
   ·rw[List.mem_singleton.1 hk,hv];exact Dr.any 2
  split
  ·intro k hk;rw[zaL] at hk;rcases List.mem_or_eq_of_mem_set hk with hk|rfl
   ·exact hr k hk
   ·rw[hv];exact Dr.any 2
  split;exact hr
  exact hr
 ·have keep:∀c n m v:Int,RootOk (.mk p.op c n m v p.kids):=fun c n m v=> .inr ⟨h6,h1,h2⟩;unfold mutP at hs ⊢;split
  ·rename_i e;rw[if_pos e] at hs;have hm:=zfg (b:=b) (p:=q+1) (l:=[0,7,1,2,5]) (by simp);simp only[List.mem_cons,List.not_mem_nil,or_false] at hm;exfalso;have hs:zaq w 10 t (.mk (numV b (q+1) [0,7,1,2,5]) p.ctor p.n p.m p.var p.kids)=true:=hs;have ho:=zdb hs;have hk:(Pat.mk (numV b (q+1) [0,7,1,2,5]) p.ctor p.n p.m p.var p.kids).kids.length=1:=h1;by_cases h5:(Pat.mk (numV b (q+1) [0,7,1,2,5]) p.ctor p.n p.m p.var p.kids).op=5
   ·have:=(zdV hs h5).1;omega
   ·rw[zby] at ho h5;have ho2:(Pat.mk (numV b (q+1) [0,7,1,2,5]) p.ctor p.n p.m p.var p.kids).op=numV b (q+1) [0,7,1,2,5]:=rfl;have:=two hs (by omega);rw[this] at hk;simp at hk
  rename_i e0;rw[if_neg e0] at hs;split;exact keep _ _ _ _
  rename_i e1;rw[if_neg e1] at hs;split;exact keep _ _ _ _
  rename_i e2;rw[if_neg e2] at hs;split
  ·rename_i e3;rw[if_pos e3] at hs;exfalso;have:=(zdx hs (by rw[zby];exact h6)).1;rw[zaL,xaa,List.length_singleton] at this;omega
  split
  ·refine .inl fun k hk=>?_;rw[zaL] at hk;match hkk:p.kids,h1 with
   | [a],_=>
    rw[hkk] at hk;simp at hk;rw[hk,hv];exact Dr.any 2
  split;exact keep _ _ _ _
  exact keep _ _ _ _
end
end Go.Proofs.YtpgdedpljcedpaaGreat
