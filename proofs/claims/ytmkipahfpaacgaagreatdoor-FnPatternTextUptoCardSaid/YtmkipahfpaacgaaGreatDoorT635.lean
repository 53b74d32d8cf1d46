/-
  THE LAW FnPatternText: whatever the arguments of bulk at most 1048576 are, the call returns true, and the arguments read as before.
  Conditions: the bulk alone.
-/
import Derived.Test.YtmkipahfpaacgaaGreatDoorT634
namespace Go.Proofs.YtmkipahfpaacgaaGreatDoor
open Go
set_option linter.unusedSimpArgs false
set_option linter.unusedVariables false
set_option maxRecDepth 100000
set_option maxHeartbeats 2000000
section
variable {c:Ctx}{all:Array Oper}{chk:List Rec->Prop}{os:List Oper}{recs:List Rec}{env:Env}{hp:Hp}{Q:St->Prop}
variable {d ty:Nat}{pos:String}{af:Array Edge}{g:Option (Nat×Bool)}{pg:List (Nat×AV)}{t yt:TypeId}{x y:Operand}
theorem Walk.appendM {id k e yb:Nat}{xs ys:List (List D)}{vy:AV}{ids:List Nat} (hkp:KeptIn c.kept ids) (hid:zaA id ids=false) (hne:xs++ys≠[]) (ht:SlT c.P t e k yb) (hz:ZeroT c.P e k) (hg:GH all env g pg) (hd:Nat.blt d c.n=true)
  (hx:opd env x=some (.gv id xs)) (hy:opd env y=some vy) (hyd:vy.toD=some (.sl ys)) (htok:getH hp id=some (.tok xs.length k)) (hky:∀y,y∈ys->y.length=k)
  (hb:(xs.length+ys.length)*yb<=140737488355328) (hm:xs.length+ys.length<=9223372036854775807)
  (hn:Walk c all chk os (zak (pg++(opF x (.gv id xs)++opF y vy)) [(id,.tok xs.length k)] [] ⟨some (d,.ms id (xs++ys).length),[(id,some (.box ((xs++ys).flatten.map .d)))]⟩::recs)
   ⟨(d,.ms id (xs++ys).length)::env,(id,some (.box ((xs++ys).flatten.map .d)))::hp⟩ Q):
  Walk c all chk (⟨some d,.call ⟨.builtin .append,#[x,y],#[t,t]⟩,ty,pos,af,g⟩::os) recs ⟨env,hp⟩ Q:=by
 refine⟨pg++(opF x (.gv id xs)++opF y vy),[(id,.tok xs.length k)],[],_, ?_,zap hg.facts (zap (zaL hx) (zaL hy)),hh1 htok,by simp,hn⟩;intro s a w hrel hp' hh _ K Q' hK;obtain⟨G,hr⟩:=hrel;have e1:=hr.opd (zaN hx (fun p hm=>hp' p (by simp[hm])));have e2:=hr.opd (zaN hy (fun p hm=>hp' p (by simp[hm])));obtain⟨i,z,z1,z2,z3⟩:=hz.out;obtain⟨v',w',G',hrun,hR,hA⟩:=zhO hr ht ⟨i,z1,z2,z3⟩ (hh1' hh) e1 (e2.toD hyd) hky hb hm ty;unfold wpO;rw[if_pos (hg.gf.wanted hr (fun p hm=>hp' p (by simp[hm])))];unfold Oper.wp;have:(execOp a.eval ⟨some d,.call ⟨.builtin .append,#[x,y],#[t,t]⟩,ty,pos,af,g⟩).run c.P w = .ok (.value v') w':=by
  simp only[execOp,resolve,invoke,builtin,Sem.run_bind,Sem.run_pure,Result.andThen_ok,List.map_toArray,xaf,List.map_nil,hrun]
 rw[this,Oper.upon_value];have hV:Rel c ⟨(d,.gv id (xs++ys))::s.env,(id,some (.tok (xs.length+ys.length) k))::s.hp⟩ (a.put (some d) v') w':=⟨G',hR.put hA hd⟩;rcases Rel.fixV hkp d id k (xs:=xs++ys) (by simp[getE]) (by rw[zaa,if_pos rfl,xaa]) hid hV with ⟨h,_⟩|⟨_,h⟩
 ·exact absurd h hne
 ·refine hK _ _ (h.congr (fun j=>?_) (fun j=>?_))
  ·show getE ((d,_)::s.env) j=getE ((d,_)::(d,_)::s.env) j
   simp only[getE];cases Nat.beq d j<;>rfl
  ·show getH ((id,_)::s.hp) j=getH ((id,_)::(id,_)::s.hp) j
   rw[zaa,zaa,zaa];by_cases hj:j=id
   ·rw[if_pos hj,if_pos hj]
   ·rw[if_neg hj,if_neg hj,if_neg hj]
end
def zcG:Pat:=⟨2,0,0,0,0,[]⟩
def mutP (b:Str) (p:Pat) (q:Nat):Pat×Nat:=
 if zaf b q 30=0 then (⟨numV b (q+1) [0,7,1,2,5],p.ctor,p.n,p.m,p.var,p.kids⟩,q+2)
 else if zaf b q 30=1 then (⟨p.op,p.ctor,p.n,p.m,numV b (q+1) [6,-1,1],p.kids⟩,q+2)
 else if zaf b q 30=2 then (⟨p.op,numV b (q+1) [9,-1,1],p.n,p.m,p.var,p.kids⟩,q+2)
 else if zaf b q 30=3 then (⟨p.op,p.ctor,p.n,p.m,p.var,p.kids++[zcG]⟩,q+1)
 else if zaf b q 30=4 then (⟨p.op,p.ctor,p.n,p.m,p.var,p.kids.set 0 zcG⟩,q+1)
 else if zaf b q 30=5 then (⟨p.op,p.ctor,numV b (q+1) [10,-1,5],p.m,p.var,p.kids⟩,q+2)
 else (⟨p.op,p.ctor,p.n,p.m,p.var,p.kids⟩,q+1)
theorem put0 {l:List (List D)}{x:List D}{r:List (List D)}{v:List AV} (h:l=x::r) (hx:x.length=v.length):putC (l.flatten.map .d) 0 v=some (v++r.flatten.map .d):=by
 subst h;rw[List.flatten_cons,xag];have key:∀(a b:List AV),a.length=b.length->∀(c:List AV),putC (a++c) 0 b=some (b++c):=by
  intro a;induction a with
  |nil=>intro b h c;cases b with
   |nil=>cases c<;>rfl
   |cons=>simp at h
  |cons y a ih=>intro b h c;cases b with
   |nil=>simp at h
   |cons z b=>
    have:=ih b (by simpa using h) c;simp only[xai,putC,this]
 exact key _ _ (by simpa using hx) _
theorem zsK {k:Nat}{v:List AV}{vd:List D}{r:List (List D)} (hv:toDL v=some vd) (hk:v.length=k) (hr:∀x∈r,x.length=k):zbP (r.length+1) k (v++r.flatten.map .d)=some (vd::r):=by
 have h1:cutC (v++r.flatten.map .d) 0 k=some v:=zld hk;have h2:(v++r.flatten.map AV.d).drop k=r.flatten.map .d:=by rw[<-hk];simp
 have h3:=zd6 (f:=fun x:List D=>x) (k:=k) (l:=r) hr;have h4:(r.flatMap fun x=>x.map AV.d)=r.flatten.map .d:=by rw[List.map_flatten];rfl
 rw[h4,List.map_id'] at h3;simp only[zbP,h1,hv,h2,h3]
theorem xaN (a b:List Pat):Pat.cs (a++b)=Pat.cs a++Pat.cs b:=by
 rw[xaP,xaP,xaP,xag]
theorem zkq {b:Str} (hb:b.length<=2000){p:Pat}{q:Nat} (hq:q<=1000000) (hok:p.ok) (hc4:¬(zaf b q 30=4/\p.kids≠[])):
  FnD Tryz.prog 182 [.ref 900 0,.agg [.d (.i p.op),.d (.i p.ctor),.d (.i p.n),.d (.i p.m),.d (.i p.var),.d (zax p.kids)]] [(900,some (rdB b q))]
   (.agg [.d (.i (mutP b p q).1.op),.d (.i (mutP b p q).1.ctor),.d (.i (mutP b p q).1.n),.d (.i (mutP b p q).1.m),.d (.i (mutP b p q).1.var),.d (zax (mutP b p q).1.kids)]) [(900,some (rdB b (mutP b p q).2))]:=by
 rw[xaU] at hok;have hkl:=xaS p.kids;refine bd Tryz.f182 57 [] [] fun _ _ _ _ hk=>?_;refine bx 3003 ?_;refine ab 3004 tz60 ?_;apply tv;refine ab 3005 tz60 ?_;refine so ty60 ?_;apply tv;refine xbR 1 sl58 .none I I (ev (ap sl58 zz60 I I I (by(intro x hx;exact xaT x hx)) (by simp[xaS];omega) ?_));refine ev (so ty58 ?_);apply tv;refine wd zbi (zaC (p:=q) (n:=30) hb od od) I I ⟨I,O⟩ ?_;apply tv;apply sq<;>intro h1 h1p h1s<;>(try simp only[Q,xaS] at h1p);refine si [0,1,2,3,4] [_,_,_,_,_] zaW tz3 ?_;refine wd zcM (zbp (p:=q+1) (l:=[0,7,1,2,5]) hb od oe oe) I I ⟨I,O⟩ ?_;refine ev (so ty3 ?_);apply tv;refine so ty60 ?_;apply tv;refine rn [(900,some (rdB b (mutP b p q).2))] (ra ty60) (.agg (qeeeeeg ?_ ?_ ?_ ?_ ?_ ?_)) ⟨I,I⟩ (SubO.get ⟨.inr ?_,⟨.inl I,O⟩⟩) (zai I);rotate_left 7;apply sq<;>intro h2 h2p h2s<;>(try simp only[Q,xaS] at h2p);refine si [0,1,2] [_,_,_] zaW tz3 ?_;refine wd zcM (zbp (p:=q+1) (l:=[6,-1,1]) hb od oe oe) I I ⟨I,O⟩ ?_;refine ev (so ty3 ?_);apply tv;refine so ty60 ?_;apply tv;refine rn [(900,some (rdB b (mutP b p q).2))] (ra ty60) (.agg (qeeeeeg ?_ ?_ ?_ ?_ ?_ ?_)) ⟨I,I⟩ (SubO.get ⟨.inr ?_,⟨.inl I,O⟩⟩) (zai I);rotate_left 7;apply sq<;>intro h3 h3p h3s<;>(try simp only[Q,xaS] at h3p);refine si [0,1,2] [_,_,_] zaW tz3 ?_;refine wd zcM (zbp (p:=q+1) (l:=[9,-1,1]) hb od oe oe) I I ⟨I,O⟩ ?_;refine ev (so ty3 ?_);apply tv;refine so ty60 ?_;apply tv;refine rn [(900,some (rdB b (mutP b p q).2))] (ra ty60) (.agg (qeeeeeg ?_ ?_ ?_ ?_ ?_ ?_)) ⟨I,I⟩ (SubO.get ⟨.inr ?_,⟨.inl I,O⟩⟩) (zai I);rotate_left 7;apply sq<;>intro h4 h4p h4s<;>(try simp only[Q,xaS] at h4p);refine bu [0] [_] st60 ?_;refine si [0] [_] sl58 tz60 ?_;refine ap sl58 zz60 I I I (by(intro x hx;simp only[List.mem_singleton] at hx;subst hx;rfl)) (by simp[xaS];omega) ?_;refine ev (so ty58 ?_);apply tv;refine so ty60 ?_;apply tv;refine rn [(900,some (rdB b (mutP b p q).2))] (ra ty60) (.agg (qeeeeeg ?_ ?_ ?_ ?_ ?_ ?_)) ⟨I,I⟩ (SubO.get ⟨.inr ?_,⟨.inl I,O⟩⟩) (zai I);rotate_left 7;apply sq<;>intro h5 h5p h5s<;>(try simp only[Q,xaS] at h5p);apply sq<;>intro h6 h6p h6s<;>(try simp only[Q,xaS] at h6p);exfalso;apply hc4;refine⟨by omega,fun hh=>?_⟩;rw[hh] at h6p;exact absurd h6p oh;refine so ty60 ?_;apply tv;refine rn [(900,some (rdB b (mutP b p q).2))] (ra ty60) (.agg (qeeeeeg ?_ ?_ ?_ ?_ ?_ ?_)) ⟨I,I⟩ (SubO.get ⟨.inr ?_,⟨.inl I,O⟩⟩) (zai I);rotate_left 7;apply sq<;>intro h7 h7p h7s<;>(try simp only[Q,xaS] at h7p);refine si [0,1,2] [_,_,_] zaW tz3 ?_;refine wd zcM (zbp (p:=q+1) (l:=[10,-1,5]) hb od oe oe) I I ⟨I,O⟩ ?_;refine ev (so ty3 ?_);apply tv;refine so ty60 ?_;apply tv;refine rn [(900,some (rdB b (mutP b p q).2))] (ra ty60) (.agg (qeeeeeg ?_ ?_ ?_ ?_ ?_ ?_)) ⟨I,I⟩ (SubO.get ⟨.inr ?_,⟨.inl I,O⟩⟩) (zai I);rotate_left 7;refine so ty60 ?_;apply tv;refine rn [(900,some (rdB b (mutP b p q).2))] (ra ty60) (.agg (qeeeeeg ?_ ?_ ?_ ?_ ?_ ?_)) ⟨I,I⟩ (SubO.get ⟨.inr ?_,⟨.inl I,O⟩⟩) (zai I);rotate_left 7;all_goals (((unfold mutP;first|(rw[if_pos od];all_goals first|rfl|(show _=Pat.cs (p.kids++[zcG]);rw[xaN];all_goals rfl))|(rw[if_neg od,if_pos od];all_goals first|rfl|(show _=Pat.cs (p.kids++[zcG]);rw[xaN];all_goals rfl))|(rw[if_neg od,if_neg od,if_pos od];all_goals first|rfl|(show _=Pat.cs (p.kids++[zcG]);rw[xaN];all_goals rfl))|(rw[if_neg od,if_neg od,if_neg od,if_pos od];all_goals first|rfl|(show _=Pat.cs (p.kids++[zcG]);rw[xaN];all_goals rfl))|(have hnk:p.kids=[]:=(by rcases hke:p.kids with _|⟨y,r⟩;rfl;exact absurd ⟨by omega,by rw[hke];simp⟩ hc4);rw[if_neg od,if_neg od,if_neg od,if_neg od,if_pos od,hnk];all_goals rfl)|(rw[if_neg od,if_neg od,if_neg od,if_neg od,if_pos od];all_goals first|rfl|(show _=Pat.cs (p.kids++[zcG]);rw[xaN];all_goals rfl))|(rw[if_neg od,if_neg od,if_neg od,if_neg od,if_neg od,if_pos od];all_goals first|rfl|(show _=Pat.cs (p.kids++[zcG]);rw[xaN];all_goals rfl))|(rw[if_neg od,if_neg od,if_neg od,if_neg od,if_neg od,if_neg od];all_goals first|rfl|(show _=Pat.cs (p.kids++[zcG]);rw[xaN];all_goals rfl)));done))
theorem zkr {b:Str} (hb:b.length<=2000){p:Pat}{q:Nat} (hq:q<=1000000) (hok:p.ok) (hc4:zaf b q 30=4){y:Pat}{r:List Pat} (hk4:p.kids=y::r):
  FnD Tryz.prog 182 [.ref 900 0,.agg [.d (.i p.op),.d (.i p.ctor),.d (.i p.n),.d (.i p.m),.d (.i p.var),.d (zax p.kids)]] [(900,some (rdB b q))]
   (.agg [.d (.i (mutP b p q).1.op),.d (.i (mutP b p q).1.ctor),.d (.i (mutP b p q).1.n),.d (.i (mutP b p q).1.m),.d (.i (mutP b p q).1.var),.d (zax (mutP b p q).1.kids)]) [(900,some (rdB b (mutP b p q).2))]:=by
 rw[xaU] at hok;have hkl:=xaS p.kids;have hcs:Pat.cs p.kids=y.cc::Pat.cs r:=by rw[xaP,hk4,xaf,<-xaP]
 have hrl:(Pat.cs p.kids).length=(Pat.cs r).length+1:=by rw[hcs];rfl
 have hmu:mutP b p q=(⟨p.op,p.ctor,p.n,p.m,p.var,zcG::r⟩,q+1):=by
  unfold mutP;rw[if_neg od,if_neg od,if_neg od,if_neg od,if_pos hc4,hk4];rfl
 refine bd Tryz.f182 57 [] [17] fun _ _ _ _ hk=>?_;refine bx 3003 ?_;refine ab 3004 tz60 ?_;apply tv;refine ab 3005 tz60 ?_;refine so ty60 ?_;apply tv;refine xbT 1 sl58 .none I I (ev (Walk.appendM hk I (by rw[hcs];simp) sl58 zz60 .none I I I I (zhg I o7) (by intro x hx;exact xaT x hx) (by simp[xaS];omega) (by simp[xaS];omega) ?_));refine ev (so ty58 ?_);apply tv;refine wd zbi (zaC (p:=q) (n:=30) hb od od) I I ⟨I,O⟩ ?_;apply tv;apply sq<;>intro h1 h1p h1s<;>(try simp only[Q,xaS] at h1p);exfalso;omega;apply sq<;>intro h2 h2p h2s<;>(try simp only[Q,xaS] at h2p);exfalso;omega;apply sq<;>intro h3 h3p h3s<;>(try simp only[Q,xaS] at h3p);exfalso;omega;apply sq<;>intro h4 h4p h4s<;>(try simp only[Q,xaS] at h4p);exfalso;omega;apply sq<;>intro h5 h5p h5s<;>(try simp only[Q,xaS] at h5p);apply sq<;>intro h6 h6p h6s<;>(try simp only[Q,xaS] at h6p);refine bu [0] [_] st60 ?_;refine xbC (i:=0) sl58 .none I I I I oo ?_;refine Walk.store ty60 .none I I I I I I oe ((put0 hcs I)) ?_;apply tv;refine CWp.frzC hk 3005 5 1 _ 6 I I I I I (by rw[List.nil_append,hrl];exact zsK rfl rfl (fun x hx=>xaT x hx)) I ?_;refine evc [] [] (so ty60 ?_);apply tv;refine rn [(900,some (rdB b (mutP b p q).2))] (ra ty60) (.agg (qeeeeee ?_ ?_ ?_ ?_ ?_ ?_)) ⟨I,I⟩ (SubO.get ⟨.inr ?_,⟨.inl I,O⟩⟩) (zai I);rotate_left 7;exfalso;rw[List.nil_append,hrl] at h6p;omega;exfalso;omega;all_goals (((rw[hmu];all_goals rfl);done))
theorem zjp {b:Str} (hb:b.length<=2000){p:Pat}{q:Nat} (hq:q<=1000000) (hok:p.ok):
  FnD Tryz.prog 182 [.ref 900 0,.agg [.d (.i p.op),.d (.i p.ctor),.d (.i p.n),.d (.i p.m),.d (.i p.var),.d (zax p.kids)]] [(900,some (rdB b q))]
   (.agg [.d (.i (mutP b p q).1.op),.d (.i (mutP b p q).1.ctor),.d (.i (mutP b p q).1.n),.d (.i (mutP b p q).1.m),.d (.i (mutP b p q).1.var),.d (zax (mutP b p q).1.kids)]) [(900,some (rdB b (mutP b p q).2))]:=by
 by_cases h:zaf b q 30=4/\p.kids≠[]
 ·cases hk:p.kids with
  |nil=>exact absurd hk h.2
  |cons y r=>rw[<-hk];exact zkr hb hq hok h.1 hk
 ·exact zkq hb hq hok h
structure CaseW (w:List Data):Prop where
 small:WSmall w
 valid:zaP w=true
 one:1<=w.length
 ct:∀k:Int,k=0\/k=1\/k=2->1<=(zan w ⟨0,k⟩).length
theorem xaW:∀l:List Pat,l.length<=Pats.size l
 | []=>Nat.zero_le _
 |v::r=>by
  have:=xaW r;have h:=xaV v;simp only[xab,Pats.size];omega
theorem zn3 {x:Pat} (hx:x.ok):∀ {l:List Pat}{i:Nat},Pats.ok l->Pats.ok (l.set i x)
 | [],_,_=>by simp[Pats.ok]
 |y::r,0,h=>⟨hx,h.2⟩
 |y::r,i+1,h=>⟨h.1,zn3 hx h.2⟩
theorem znn {x:Pat} (hx:x.ok):∀ {l:List Pat},Pats.ok l->Pats.ok (l++[x])
 | [],_=>⟨hx,trivial⟩
 |y::r,h=>⟨h.1,znn hx h.2⟩
theorem zn4 {x:Pat}:∀ {l:List Pat}{i:Nat},Pats.size (l.set i x)<=Pats.size l+x.size
 | [],_=>by simp[Pats.size]
 |y::r,0=>by simp only[List.set_cons_zero,Pats.size];omega
 |y::r,i+1=>by have:=zn4 (x:=x) (l:=r) (i:=i);simp only[List.set_cons_succ,Pats.size];omega
theorem zrJ {b:Str}{p:Pat}{q:Nat} (hs:p.size<=1000) (hok:p.ok):(mutP b p q).1.size<=2000/\(mutP b p q).1.ok:=by
 have hv:zcG.size=1/\zcG.ok:=⟨by rw[xaV];rfl,by rw[xaU];exact⟨by simp[zcG,Pat.kids],trivial⟩⟩;have h0:=xaV p;rw[xaU] at hok;have same:∀a c n m v:Int,(Pat.mk a c n m v p.kids).size<=2000/\(Pat.mk a c n m v p.kids).ok:=fun a c n m v=>by
  refine⟨by rw[xaV];show 1+Pats.size p.kids<=_;omega,by rw[xaU];exact hok⟩
 unfold mutP;split;exact same _ _ _ _ _
 split;exact same _ _ _ _ _
 split;exact same _ _ _ _ _
 split
 ·refine⟨?_, ?_⟩
  ·dsimp only;rw[xaV];show 1+Pats.size (p.kids++[zcG])<=_;rw[xaZ];omega
  ·dsimp only;rw[xaU];refine⟨?_,znn hv.2 hok.2⟩;show(p.kids++[zcG]).length<=_
   have:=xaW p.kids;simp only[xaa,List.length_singleton];omega
 split
 ·refine⟨?_, ?_⟩
  ·dsimp only;rw[xaV];show 1+Pats.size (p.kids.set 0 zcG)<=_;have:=zn4 (x:=zcG) (l:=p.kids) (i:=0);omega
  ·dsimp only;rw[xaU];exact⟨by show(p.kids.set 0 zcG).length<=_;rw[List.length_set];exact hok.1,zn3 hv.2 hok.2⟩
 split;exact same _ _ _ _ _
 exact same _ _ _ _ _
theorem zrC (l:List Ty):FlatR (l.map Ty.c):=by
 intro x hx y hy;obtain⟨t,_,rfl⟩:=List.mem_map.1 hx;simp only[Ty.c,List.mem_cons,xau,or_false] at hy;rcases hy with rfl|rfl<;>rfl
theorem zgX {w:List Data} (hs:WSmall w):FnD Tryz.prog 205 [.d (zah w)] [] (.gt 61 (w.map Data.c)) [(61,some (.tok (w.map Data.c).length 2))]:=by
 have hl:=hs.len;refine bd Tryz.f205 55 [] [12] fun _ _ _ _ hk=>?_;refine xbS 61 sl23 .none I I (ev (xaA (ι:=List (Data)×List (Data)) hk (fun x=>[(4,.d (.i (x.1.length:Int))),(3,.gt 61 (x.1.map Data.c))]) [5,6,7,9,10,11,12,13,14,15,16,17,18,19,20,21,22,23,24,25,26,27,28,29,30,31,32,33,34,35,36,37,38,39,40,41,42,43,44,45,46,47,48,49,50,51,52,53] (fun x=>[(61,some (.tok ((x.1.map Data.c)).length 2))]) (fun x=>x.1++x.2=w) (fun x=>x.2.length) ([],w) oe ⟨⟨_,I,xaK ?_⟩,⟨⟨_,I,LeA.gtg ?_⟩,O⟩⟩ ⟨zag ?_,O⟩ (fun x=>rfl) (fun x hg1=>?_)));iterate 3 focus (rfl)
 obtain⟨pre,rest⟩:=x;dsimp only at hg1 ⊢;refine evc [] [12] ?_;apply sq<;>intro h1 h1p h1s<;>(try simp only[Q] at h1p);rcases rest with _|⟨y,rest⟩
 ·exfalso;simp_all
 have hcl:=(hs.cs (d:=y) (by rw[<-hg1];simp)).len;have hyn:=(hs.data y (by rw[<-hg1];simp)).1;refine ixq sl23 I I I (zaI hg1) I (ev (bu [0] [_] zrj ?_));refine ab 3005 ziO ?_;refine so zoI ?_;apply tv;refine CWp.tokBT 3005 1 62 3 I I I I (xaA (ι:=List (Ctor)×List (Ctor)) hk (fun x=>[(6,.d (.i (x.1.length:Int)))]) [7,21,22,23,24,25,26,27,28,29,30,31,32,33,34,35,36,37,38,39,40,41,42,43,44,45,46,47,48,49] (fun x=>[(3005,some (.box [.d (.str y.name),.gt 62 (x.1.map Ctor.c)])),(62,some (.tok (x.1.map Ctor.c).length 3))]) (fun x=>x.1++x.2=y.ctors) (fun x=>x.2.length) ([],y.ctors) oe ⟨⟨_,I,xaK ?_⟩,O⟩ ⟨?_,⟨zag ?_,O⟩⟩ (fun x=>rfl) (fun x hg2=>?_));focus (rfl)
 focus (first|rfl|(simp[getH];done))
 focus (rfl)
 obtain⟨pre2,rest2⟩:=x;dsimp only at hg2 ⊢;refine evc [] [12] (ixq sl23 I I I (zaI hg1) I (ev ?_));apply sq<;>intro h2 h2p h2s<;>(try simp only[Q] at h2p);rcases rest2 with _|⟨z,rest2⟩
 ·exfalso;simp_all
 have hza:=((hs.cs (d:=y) (by rw[<-hg1];simp)).ctor z (by rw[<-hg2];simp)).2;refine ixq sl23 I I I (zaI hg1) I (ev (ixq zbo I I I (zaI hg2) I (ev (ab 3007 zeO ?_))));refine so zcs ?_;apply tv;refine xbS 63 zaJ .none I I (ev (xbj zaJ zz38 .none I I I I (zhg I o7) oe (zrC _) oo oo ?_));refine ev (so zkw ?_);apply tv;refine xbU (id:=3047) zbo zeO I oh (ks:=[0]) (xs:=[_]) I I oh oh .none I I I I I I I ?_;refine xbi hk I zbo zrs .none I I I I (zhg I o7) I (.sc I (.gt I (by first|rfl|(simp;done)) (.sc I .nil))) I I oo oo ?_;refine ev (so zgy ?_);apply tv;refine ar (xaj ((pre2++[z],rest2)) ⟨(by have hz:=hg2;rw[<-hz];simp),oe,sx ⟨⟨_,I,xaK ?_⟩,O⟩ ⟨?_,⟨zag ?_,O⟩⟩⟩);focus ((simp;done))
 focus (first|rfl|(simp[getH];done))
 focus ((simp;done))
 have hrest2:rest2=[]:=by
  rcases rest2 with _|⟨a,b⟩
  ·rfl
  ·exfalso;have hz:=xam List.length (hg2);simp only[xaa,xab,xac] at hz;omega
 subst hrest2;rw[xaq] at hg2;subst hg2;refine evc [] [] (xbU (id:=3052) sl23 ziO I oh (ks:=[0]) (xs:=[_]) I I oh oh .none I I I I I I I ?_);refine xbi hk I sl23 zoP .none I I I I (zhg I o7) I (.sc I (.gt I (by first|rfl|(simp;done)) .nil)) I I oo oo ?_;refine ev (ar (xaj ((pre++[y],rest)) ⟨(by have hz:=hg1;rw[<-hz];simp),oe,sx ⟨⟨_,I,xaK ?_⟩,⟨⟨_,I,LeA.gtg ?_⟩,O⟩⟩ ⟨zag ?_,O⟩⟩));iterate 3 focus ((simp;done))
 have hrest:rest=[]:=by
  rcases rest with _|⟨a,b⟩
  ·rfl
  ·exfalso;have hz:=xam List.length (hg1);simp only[xaa,xab,xac] at hz;omega
 subst hrest;refine rn [(61,some (.tok (w.map Data.c).length 2))] (r1 I) (.gtg ?_) ⟨I,I⟩ (SubH.get ⟨?_,O⟩) (zai I);rotate_left 2;all_goals (((rw[xaq] at hg1;subst hg1;rfl);done))
def nmsD:List Str:=[[73],[],[97],[76,76],[90]]
def nmsC:List Str:=[[],[110,105,108],[84,111,111,108,111,110,103],[88]]
def mutY (b:Str) (p:Nat) (c:Int) (nm:Str) (c0:Ctor) (cr:List Ctor):Data×Nat:=
 if c=0 then (⟨ofV b p nmsD,c0::cr⟩,p+1)
 else if c=1 then (⟨nm,[]⟩,p)
 else if c=2 then (⟨nm,⟨ofV b p nmsC,c0.args,c0.index⟩::cr⟩,p+1)
 else if c=3 then (⟨nm,⟨c0.name,c0.args++[⟨numV b p [9,-2,0,-1],numV b (p+1) [0,4,-1,-2]⟩],c0.index⟩::cr⟩,p+2)
 else if c=4 then (⟨nm,⟨c0.name,c0.args,numV b p [4,-1,1]⟩::cr⟩,p+1)
 else (⟨nm,c0::cr⟩,p)
def mutW (b:Str) (p:Nat) (w:List Data):List Data×Nat:=
 match (nth w (zaf b p w.length).toNat).ctors with
 | []=>(w,p+1)
 |c0::cr=>
  if zaf b (p+1) 30=5 then (w++[nth w (zaf b p w.length).toNat],p+2)
  else (w.set (zaf b p w.length).toNat (mutY b (p+2) (zaf b (p+1) 30) (nth w (zaf b p w.length).toNat).name c0 cr).1,(mutY b (p+2) (zaf b (p+1) 30) (nth w (zaf b p w.length).toNat).name c0 cr).2)
section
variable {b:Str}{p:Nat}{c:Int}{nm:Str}{c0:Ctor}{cr:List Ctor}
theorem zsU (h:c=0):mutY b p c nm c0 cr=(⟨ofV b p nmsD,c0::cr⟩,p+1):=by unfold mutY;rw[if_pos h]
theorem zsV (h0:¬c=0) (h:c=1):mutY b p c nm c0 cr=(⟨nm,[]⟩,p):=by unfold mutY;rw[if_neg h0,if_pos h]
theorem zsW (h0:¬c=0) (h1:¬c=1) (h:c=2):mutY b p c nm c0 cr=(⟨nm,⟨ofV b p nmsC,c0.args,c0.index⟩::cr⟩,p+1):=by unfold mutY;rw[if_neg h0,if_neg h1,if_pos h]
theorem zsX (h0:¬c=0) (h1:¬c=1) (h2:¬c=2) (h:c=3):mutY b p c nm c0 cr=(⟨nm,⟨c0.name,c0.args++[⟨numV b p [9,-2,0,-1],numV b (p+1) [0,4,-1,-2]⟩],c0.index⟩::cr⟩,p+2):=by unfold mutY;rw[if_neg h0,if_neg h1,if_neg h2,if_pos h]
theorem zsY (h0:¬c=0) (h1:¬c=1) (h2:¬c=2) (h3:¬c=3) (h:c=4):mutY b p c nm c0 cr=(⟨nm,⟨c0.name,c0.args,numV b p [4,-1,1]⟩::cr⟩,p+1):=by unfold mutY;rw[if_neg h0,if_neg h1,if_neg h2,if_neg h3,if_pos h]
theorem zsZ (h0:¬c=0) (h1:¬c=1) (h2:¬c=2) (h3:¬c=3) (h:¬c=4):mutY b p c nm c0 cr=(⟨nm,c0::cr⟩,p):=by unfold mutY;rw[if_neg h0,if_neg h1,if_neg h2,if_neg h3,if_neg h]
end
theorem zrL (b:Str) (p:Nat) (w:List Data):p+1<=(mutW b p w).2/\(mutW b p w).2<=p+4:=by
 unfold mutW;split
 ·dsimp only;omega
 ·split
  ·dsimp only;omega
  ·unfold mutY;repeat' split
   all_goals dsimp only;omega
theorem znR {α:Type} [Inhabited α]{pre rest:List α}{y:α}:nth (pre++y::rest) pre.length=y:=zs0 rfl
theorem zrU {α:Type}{pre rest:List α}{y z:α}:(pre++y::rest).set pre.length z=pre++z::rest:=by
 rw[List.set_append_right _ _ (Nat.le_refl _)];simp
theorem zqy {b:Str}{p:Nat}{pre rest:List Data}{nm:Str}{c0:Ctor}{cr:List Ctor} (h:zaf b p (pre++⟨nm,c0::cr⟩::rest).length=pre.length) (h5:¬zaf b (p+1) 30=5):
  mutW b p (pre++⟨nm,c0::cr⟩::rest)=(pre++(mutY b (p+2) (zaf b (p+1) 30) nm c0 cr).1::rest,(mutY b (p+2) (zaf b (p+1) 30) nm c0 cr).2):=by
 unfold mutW;rw[h,Int.toNat_natCast,znR];dsimp only;rw[if_neg h5,zrU]
theorem zjj {α:Type}{f:α->List D} (m:Bool):∀l:List α,(zay m (l.map f)).map zgT=l.flatMap fun x=>(f x).map .d
 | []=>rfl
 |x::r=>by
  rw[xaf,zb3,xag,zjj m r,List.flatMap_cons];congr 1
  rw[List.map_map];refine List.map_congr_left (fun y _=>?_);cases y<;>rfl
theorem zek {α:Type}{f:α->List D}{k:Nat}{m1 m2:Bool}{pre rest:List α}{z:α}{mid:List AV}{n:Nat} (hk:∀x,(f x).length=k) (hm:mid.map zgT=(f z).map .d) (hn:n=(pre++z::rest).length):
  zbP n k ((zay m1 (pre.map f)++(mid++zay m2 (rest.map f))).map zgT)=some ((pre++z::rest).map f):=by
 rw[xag,xag,zjj,zjj,hm,hn];have:=zd6 (f:=f) (k:=k) (l:=pre++z::rest) (fun x _=>hk x);rw[List.flatMap_append,List.flatMap_cons] at this;exact this
theorem zqD (m:Bool) (x:List D) (r:List (List D)){l:List AV} (h:x.map (ownD m)++zay m r=l):zay m (x::r)=l:=by rw[zb3];exact h
theorem zpM {α:Type}{f:α->List D} (m:Bool){pre rest:List α}{y:α}{l:List AV} (h:(f y).map (ownD m)++zay m (rest.map f)=l):zay m ((pre++y::rest).map f)=zay m (pre.map f)++l:=by
 rw[xag,zj7,xaf,zb3,h]
theorem zki {b:Str}{p:Nat}{pre rest:List Data}{y:Data} (hb:b.length<=2000) (hp:p<=1000000) (hs:WSmall (pre++y::rest)) (hd:zaf b p (pre++y::rest).length=pre.length) (h5:y.ctors=[]\/zaf b (p+1) 30=5):
  FnD Tryz.prog 121 [.ref 900 0,.d (zah (pre++y::rest))] [(900,some (rdB b p))] (.d (zah (if y.ctors=[] then pre++y::rest else (pre++y::rest)++[y]))) [(900,some (rdB b (if y.ctors=[] then p+1 else p+2)))]:=by
 have hl:=hs.len;have hpk:=zaC (p:=p) (n:=(((pre++y::rest).map Data.c).length:Int)) hb od (by simp at hl ⊢;omega);have hpk2:=zaC (p:=p+1) (n:=30) hb od od;have hpv:zaf b p (((pre++y::rest).map Data.c).length:Int)=pre.length:=by rw[xac];exact hd
 rw[hpv] at hpk;have hat:((pre++y::rest).map Data.c)[pre.length]?=some (Data.c y):=by simp
 generalize hw:pre++y::rest=w at *;generalize hc:zaf b (p+1) 30=c at *;have hlm:((w.map Data.c).length:Int)=w.length:=by simp
 refine bd Tryz.f121 99 [] [2] fun _ _ _ _ hk=>?_;refine Walk.call (cr:=[61]) zo2 (zgX hs) I .none I I (LeL.refl _) O I o7 o7 ?_;refine ev (CWp.gtGl 5 61 64 2 I I oe I ?_);refine evc [] [] (wd zbi hpk I I ⟨I,O⟩ ?_);refine ev (xbB sl23 .none I I I I hat I (ev ?_));apply sq<;>intro h1 h1p h1s<;>(try simp only[Q] at h1p);refine rn [(900,some (rdB b (if y.ctors=[] then p+1 else p+2)))] (r1 I) (.gld ?_) ⟨I,I⟩ (SubO.get ⟨.inr ?_,⟨.inl I,O⟩⟩) (zai I);rotate_left 2;have hc5:c=5:=h5.resolve_left (by simpa using h1p);refine wd zbi hpk2 I I ⟨I,O⟩ ?_;apply tv;apply sq<;>intro h2 h2p h2s<;>(try simp only[Q] at h2p);exfalso;omega;apply sq<;>intro h3 h3p h3s<;>(try simp only[Q] at h3p);exfalso;omega;apply sq<;>intro h4 h4p h4s<;>(try simp only[Q] at h4p);exfalso;omega;apply sq<;>intro h5 h5p h5s<;>(try simp only[Q] at h5p);exfalso;omega;apply sq<;>intro h6 h6p h6s<;>(try simp only[Q] at h6p);exfalso;omega;apply sq<;>intro h7 h7p h7s<;>(try simp only[Q] at h7p);refine xbB sl23 .none I I I I hat I (ev (si [0] [_] sl23 ziO ?_));refine ap sl23 zoP I I I (by intro x hx;simp only[List.mem_singleton] at hx;subst hx;rfl) (by simp at hl ⊢;omega) ?_;refine ev (rn [(900,some (rdB b (if y.ctors=[] then p+1 else p+2)))] (r1 I) (.gld ?_) ⟨I,I⟩ (SubO.get ⟨.inr ?_,⟨.inl I,O⟩⟩) (zai I));rotate_left 2;exfalso;omega;all_goals (((first|(rw[if_pos (by simpa using h1p)];all_goals rfl)|(rw[if_neg (by simpa using h1p)];all_goals first|rfl|(show _=(w++[y]).map Data.c;rw[xag];rfl)|(show D.sl _=D.sl ((w++[y]).map Data.c);rw[xag];rfl)));done))
theorem ov{p:Prop}(h:p:=by intro x _;rfl):p:=h
theorem zkj {b:Str}{p:Nat}{pre rest:List Data}{nm:Str}{c0:Ctor}{cr:List Ctor} (hb:b.length<=2000) (hp:p<=1000000) (hs:WSmall (pre++⟨nm,c0::cr⟩::rest)) (hd:zaf b p (pre++⟨nm,c0::cr⟩::rest).length=pre.length) (h5:¬zaf b (p+1) 30=5):
  FnD Tryz.prog 121 [.ref 900 0,.d (zah (pre++⟨nm,c0::cr⟩::rest))] [(900,some (rdB b p))] (.d (zah (pre++(mutY b (p+2) (zaf b (p+1) 30) nm c0 cr).1::rest))) [(900,some (rdB b (mutY b (p+2) (zaf b (p+1) 30) nm c0 cr).2))]:=by
 have hl:=hs.len;have hpk:=zaC (p:=p) (n:=(((pre++⟨nm,c0::cr⟩::rest).map Data.c).length:Int)) hb od (by simp at hl ⊢;omega);have hpk2:=zaC (p:=p+1) (n:=30) hb od od;have hpv:zaf b p (((pre++⟨nm,c0::cr⟩::rest).map Data.c).length:Int)=pre.length:=by rw[xac];exact hd
 rw[hpv] at hpk;have hal:c0.args.length<=1000000000000:=((hs.ctor ⟨nm,c0::cr⟩ oe) c0 oe).2;generalize hc:zaf b (p+1) 30=c at *;have hlw:pre.length<((pre++⟨nm,c0::cr⟩::rest).map Data.c).length:=by simp
 refine bd Tryz.f121 99 [17,45,57,62,65,83] [2,3,7,9,11,13,15,18] fun _ _ _ _ hk=>?_;refine Walk.call (cr:=[61]) zo2 (zgX hs) I .none I I (LeL.refl _) O I o7 o7 ?_;refine evs [17,45,57,62,65,83] [] (CWp.fixT hk 5 61 2 I I I (fun hx=>absurd hx oe) (fun hx=>?_));refine evc [17,45,57,62,65,83] [] (Walk.call (cr:=[]) zbi hpk I .none I I (LeL.refl _) ⟨I,O⟩ I o7 o7 ?_);refine evs [17,45,57,62,65,83] [] (xaB 61 (zay true (pre.map Data.c)++(.d (.str nm):: .own true (.sl ((c0::cr).map Ctor.c))::zay true (rest.map Data.c))) I (zpM true I) (CWp.split 61 (pre.length*2+1) 62 I (zcB (zbD (k:=2) true ov) I) oe (by(simp only[zaB,occH,occE,Res.ids,xai,List.nil_append,AV.idsL,AV.ids,zal,zaj,zaw,zaT,xaf,List.map_nil,upC];rfl)) (zdN (zbD (k:=2) true ov) zeo) ?_));refine xaB 62 (.d (.str c0.name):: .own true (.sl (c0.args.map Ty.c)):: .d (.i c0.index)::zay true (cr.map Ctor.c)) I (zqD true _ _ I) (evc [17,45,57,62,65,83] [] (xbC sl23 .none I I I I od ?_));refine evs [17,45,57,62,65,83] [] (xbG zgy .none I I I ((by rw[zcB (zbD (k:=2) true ov) rfl];rfl)) ?_);refine evs [17,45,57,62,65,83] [] ?_;apply sq<;>intro h1 h1p h1s<;>(try simp only[Q] at h1p);exfalso;simp at h1;omega;refine Walk.call (cr:=[]) zbi hpk2 I .none I I (LeL.refl _) ⟨I,O⟩ I o7 o7 ?_;apply tv;apply sq<;>intro h2 h2p h2s<;>(try simp only[Q] at h2p);try rfl
 refine evc [17,45,57,62,65,83] [] (si [0,1,2,3,4] [_,_,_,_,_] sl84 tz9 ?_);refine Walk.call (cr:=[]) zmc (zhw (p:=p+2) (l:=nmsD) hb od (by simp[nmsD]) (by simp[nmsD])) I .none I I (LeL.refl _) ⟨I,O⟩ I o7 o7 ?_;refine xbC sl23 .none I I I I od ?_;refine evs [17,45,57,62,65,83] [] (xbV ty9 .none I I I I I I oe ((zdN (zbD (k:=2) true ov) znV)) ?_);apply tv;try rfl
 refine xaB 62 (zay true ((c0::cr).map Ctor.c)) I (by rw[xaf,zb3];rfl) ?_;refine CWp.merge hk 61 (pre.length*2+1) 62 3 _ I (zcB (zbD (k:=2) true ov) I) oe I (by intro x hx;obtain⟨y,_,rfl⟩:=List.mem_map.1 hx;rfl) I I (zdN (zbD (k:=2) true ov) zeo) ?_;refine CWp.frzTree hk 5 61 _ 2 (es:=(pre++(⟨(ofV b (p+2) nmsD),c0::cr⟩:Data)::rest).map Data.c) I I (zek (z:=(⟨(ofV b (p+2) nmsD),c0::cr⟩:Data)) (mid:=[.d (.str (ofV b (p+2) nmsD)),.own false (.sl ((c0::cr).map Ctor.c))]) (fun _=>rfl) I oe) I ?_;refine evc [17,45,57,62,65,83] [] (rn [(900,some (rdB b (mutY b (p+2) c nm c0 cr).2))] (r1 I) (.eqd ?_) ⟨I,I⟩ (SubO.get ⟨.inr ?_,⟨.inl I,O⟩⟩) (zai I));rotate_left 2;apply sq<;>intro h3 h3p h3s<;>(try simp only[Q] at h3p);try rfl
 refine evc [17,45,57,62,65,83] [] (xbQ zbo .none I (xbC sl23 .none I I I I od ?_));refine evs [17,45,57,62,65,83] [] (xbV zgy .none I I I I I I oe ((zdN (zbD (k:=2) true ov) zeo)) ?_);apply tv;try rfl
 refine CWp.frzTree hk 5 61 _ 2 (es:=(pre++(⟨nm,[]⟩:Data)::rest).map Data.c) I I (zek (z:=(⟨nm,[]⟩:Data)) (mid:=[.d (.str nm),.d (.sl [])]) (fun _=>rfl) I oe) I ?_;refine evc [17,45,57,62,65,83] [] (rn [(900,some (rdB b (mutY b (p+2) c nm c0 cr).2))] (r1 I) (.eqd ?_) ⟨I,I⟩ (SubO.get ⟨.inr ?_,⟨.inl I,O⟩⟩) (zai I));rotate_left 2;apply sq<;>intro h4 h4p h4s<;>(try simp only[Q] at h4p);try rfl
 refine evc [17,45,57,62,65,83] [] (xbC sl23 .none I I I I od ?_);refine evd [17,45,57,62,65,83] [] (xbG zgy .none I I I ((by rw[zcB (zbD (k:=2) true ov) rfl];rfl)) ?_);refine evd [17,45,57,62,65,83] [] (si [0,1,2,3] [_,_,_,_] sl84 tz9 ?_);refine Walk.call (cr:=[]) zmc (zhw (p:=p+2) (l:=nmsC) hb od (by simp[nmsC]) (by simp[nmsC])) I .none I I (LeL.refl _) ⟨I,O⟩ I o7 o7 ?_;refine xbC (i:=0) zbo .none I I I I (by(simp;done)) (evd [17,45,57,62,65,83] [] (xbV ty9 .none I I I I I I oe ((znV)) ?_));refine dr ?_;try rfl
 refine xaB 62 (zay true (((⟨ofV b (p+2) nmsC,c0.args,c0.index⟩:Ctor)::cr).map Ctor.c)) I (by rw[xaf,zb3];rfl) ?_;refine CWp.merge hk 61 (pre.length*2+1) 62 3 _ I (zcB (zbD (k:=2) true ov) I) oe I (by intro x hx;obtain⟨y,_,rfl⟩:=List.mem_map.1 hx;rfl) I I (zdN (zbD (k:=2) true ov) zeo) ?_;refine CWp.frzTree hk 5 61 _ 2 (es:=(pre++(⟨nm,(⟨ofV b (p+2) nmsC,c0.args,c0.index⟩:Ctor)::cr⟩:Data)::rest).map Data.c) I I (zek (z:=(⟨nm,(⟨ofV b (p+2) nmsC,c0.args,c0.index⟩:Ctor)::cr⟩:Data)) (mid:=[.d (.str nm),.own false (.sl (((⟨ofV b (p+2) nmsC,c0.args,c0.index⟩:Ctor)::cr).map Ctor.c))]) (fun _=>rfl) I oe) I ?_;refine evc [17,45,57,62,65,83] [] (rn [(900,some (rdB b (mutY b (p+2) c nm c0 cr).2))] (r1 I) (.eqd ?_) ⟨I,I⟩ (SubO.get ⟨.inr ?_,⟨.inl I,O⟩⟩) (zai I));rotate_left 2;apply sq<;>intro h5 h5p h5s<;>(try simp only[Q] at h5p);refine CWp.splitT 62 1 63 2 I I (by intro x hx;obtain⟨y,_,rfl⟩:=List.mem_map.1 hx;rfl) (by(simp only[zaB,occH,occE,Res.ids,xai,List.nil_append,AV.idsL,AV.ids,zal,zaj,zaw,zaT,xaf,List.map_nil,upC];rfl)) I ?_;refine evc [17,45,57,62,65,83] [] (xbC sl23 .none I I I I od ?_);refine evd [17,45,57,62,65,83] [] (xbG zgy .none I I I ((by rw[zcB (zbD (k:=2) true ov) rfl];rfl)) ?_);refine evd [17,45,57,62,65,83] [] (xbC sl23 .none I I I I od ?_);refine evd [17,45,57,62,65,83] [] (xbG zgy .none I I I ((by rw[zcB (zbD (k:=2) true ov) rfl];rfl)) ?_);refine xbC (i:=0) zbo .none I I I I (by(simp;done)) (evd [17,45,57,62,65,83] [] (xbG zkw .none I I I ((I)) (evd [17,45,57,62,65,83] [] (si [0,1,2,3] [_,_,_,_] zaW tz3 ?_))));refine Walk.call (cr:=[]) zcM (zbp (p:=p+2) (l:=[9,-2,0,-1]) hb od oe oe) I .none I I (LeL.refl _) ⟨I,O⟩ I o7 o7 ?_;refine evd [17,45,57,62,65,83] [] (si [0,1,2,3] [_,_,_,_] zaW tz3 ?_);refine Walk.call (cr:=[]) zcM (zbp (p:=p+3) (l:=[0,4,-1,-2]) hb od oe oe) I .none I I (LeL.refl _) ⟨I,O⟩ I o7 o7 ?_;refine bu [0,1] [_,_] st38 ?_;refine si [0] [_] zaJ tz38 ?_;refine xbj zaJ zz38 .none I I I I (zhg I o7) (by intro x hx;simp only[List.mem_singleton] at hx;subst hx;rfl) (by intro x hx y hy;simp only[List.mem_singleton] at hx;subst hx;simp only[List.mem_cons,xau,or_false] at hy;rcases hy with rfl|rfl<;>rfl) oo oo ?_;refine xbC (i:=0) zbo .none I I I I (by(simp;done)) (evd [17,45,57,62,65,83] [] (xbV zkw .none I I I I I I oe ((zeo)) ?_));refine dr ?_;try rfl
 refine CWp.mergeT 62 1 63 2 I I I oe I ?_;refine xaB 62 (.d (.str c0.name):: .own true (.sl ((c0.args++[(⟨numV b (p+2) [9,-2,0,-1],numV b (p+3) [0,4,-1,-2]⟩:Ty)]).map Ty.c)):: .d (.i c0.index)::zay true (cr.map Ctor.c)) I (by rw[xag];rfl) ?_;refine xaB 62 (zay true (((⟨c0.name,c0.args++[(⟨numV b (p+2) [9,-2,0,-1],numV b (p+3) [0,4,-1,-2]⟩:Ty)],c0.index⟩:Ctor)::cr).map Ctor.c)) I (by rw[xaf,zb3];rfl) ?_;refine CWp.merge hk 61 (pre.length*2+1) 62 3 _ I (zcB (zbD (k:=2) true ov) I) oe I (by intro x hx;obtain⟨y,_,rfl⟩:=List.mem_map.1 hx;rfl) I I (zdN (zbD (k:=2) true ov) zeo) ?_;refine CWp.frzTree hk 5 61 _ 2 (es:=(pre++(⟨nm,(⟨c0.name,c0.args++[(⟨numV b (p+2) [9,-2,0,-1],numV b (p+3) [0,4,-1,-2]⟩:Ty)],c0.index⟩:Ctor)::cr⟩:Data)::rest).map Data.c) I I (zek (z:=(⟨nm,(⟨c0.name,c0.args++[(⟨numV b (p+2) [9,-2,0,-1],numV b (p+3) [0,4,-1,-2]⟩:Ty)],c0.index⟩:Ctor)::cr⟩:Data)) (mid:=[.d (.str nm),.own false (.sl (((⟨c0.name,c0.args++[(⟨numV b (p+2) [9,-2,0,-1],numV b (p+3) [0,4,-1,-2]⟩:Ty)],c0.index⟩:Ctor)::cr).map Ctor.c))]) (fun _=>rfl) I oe) I ?_;refine evc [17,45,57,62,65,83] [] (rn [(900,some (rdB b (mutY b (p+2) c nm c0 cr).2))] (r1 I) (.eqd ?_) ⟨I,I⟩ (SubO.get ⟨.inr ?_,⟨.inl I,O⟩⟩) (zai I));rotate_left 2;apply sq<;>intro h6 h6p h6s<;>(try simp only[Q] at h6p);try rfl
 refine evc [17,45,57,62,65,83] [] (xbC sl23 .none I I I I od ?_);refine evd [17,45,57,62,65,83] [] (xbG zgy .none I I I ((by rw[zcB (zbD (k:=2) true ov) rfl];rfl)) ?_);refine evd [17,45,57,62,65,83] [] (si [0,1,2] [_,_,_] zaW tz3 ?_);refine Walk.call (cr:=[]) zcM (zbp (p:=p+2) (l:=[4,-1,1]) hb od oe oe) I .none I I (LeL.refl _) ⟨I,O⟩ I o7 o7 ?_;refine xbC (i:=0) zbo .none I I I I (by(simp;done)) (evd [17,45,57,62,65,83] [] (xbV ty3 .none I I I I I I oe ((zrS)) ?_));refine dr ?_;try rfl
 refine xaB 62 (zay true (((⟨c0.name,c0.args,numV b (p+2) [4,-1,1]⟩:Ctor)::cr).map Ctor.c)) I (by rw[xaf,zb3];rfl) ?_;refine CWp.merge hk 61 (pre.length*2+1) 62 3 _ I (zcB (zbD (k:=2) true ov) I) oe I (by intro x hx;obtain⟨y,_,rfl⟩:=List.mem_map.1 hx;rfl) I I (zdN (zbD (k:=2) true ov) zeo) ?_;refine CWp.frzTree hk 5 61 _ 2 (es:=(pre++(⟨nm,(⟨c0.name,c0.args,numV b (p+2) [4,-1,1]⟩:Ctor)::cr⟩:Data)::rest).map Data.c) I I (zek (z:=(⟨nm,(⟨c0.name,c0.args,numV b (p+2) [4,-1,1]⟩:Ctor)::cr⟩:Data)) (mid:=[.d (.str nm),.own false (.sl (((⟨c0.name,c0.args,numV b (p+2) [4,-1,1]⟩:Ctor)::cr).map Ctor.c))]) (fun _=>rfl) I oe) I ?_;refine evc [17,45,57,62,65,83] [] (rn [(900,some (rdB b (mutY b (p+2) c nm c0 cr).2))] (r1 I) (.eqd ?_) ⟨I,I⟩ (SubO.get ⟨.inr ?_,⟨.inl I,O⟩⟩) (zai I));rotate_left 2;apply sq<;>intro h7 h7p h7s<;>(try simp only[Q] at h7p);exfalso;omega;try rfl
 refine xaB 62 (zay true ((c0::cr).map Ctor.c)) I (by rw[xaf,zb3];rfl) ?_;refine CWp.merge hk 61 (pre.length*2+1) 62 3 _ I (zcB (zbD (k:=2) true ov) I) oe I (by intro x hx;obtain⟨y,_,rfl⟩:=List.mem_map.1 hx;rfl) I I (zdN (zbD (k:=2) true ov) zeo) ?_;refine CWp.frzTree hk 5 61 _ 2 (es:=(pre++(⟨nm,c0::cr⟩:Data)::rest).map Data.c) I I (zek (z:=(⟨nm,c0::cr⟩:Data)) (mid:=[.d (.str nm),.own false (.sl ((c0::cr).map Ctor.c))]) (fun _=>rfl) I oe) I ?_;refine evc [17,45,57,62,65,83] [] (rn [(900,some (rdB b (mutY b (p+2) c nm c0 cr).2))] (r1 I) (.eqd ?_) ⟨I,I⟩ (SubO.get ⟨.inr ?_,⟨.inl I,O⟩⟩) (zai I));rotate_left 2;all_goals (((first|(rw[zsU od];all_goals rfl)|(rw[zsV od od];all_goals rfl)|(rw[zsW od od od];all_goals rfl)|(rw[zsX od od od od];all_goals rfl)|(rw[zsY od od od od od];all_goals rfl)|(rw[zsZ od od od od od];all_goals rfl));done))
def smB (n:Nat) (w:List Data):Bool:=decide (w.length<=n)&&w.all fun d=>decide (d.name.length<=n)&&(decide (d.ctors.length<=n)&&d.ctors.all fun c=>decide (c.name.length<=n)&&decide (c.args.length<=n))
structure Sm (n:Nat) (w:List Data):Prop where
 len:w.length<=n
 data:∀d∈w,d.name.length<=n/\d.ctors.length<=n
 ctor:∀d∈w,∀c∈d.ctors,c.name.length<=n/\c.args.length<=n
theorem zp2 {n:Nat}{w:List Data} (h:smB n w=true):Sm n w:=by
 simp only[smB,xad,xah,List.all_eq_true] at h;exact⟨h.1,fun d hd=>⟨(h.2 d hd).1,(h.2 d hd).2.1⟩,fun d hd c hc=>(h.2 d hd).2.2 c hc⟩
theorem Sm.small {n:Nat}{w:List Data} (h:Sm n w) (hn:n<=1000000000000):WSmall w:=
 ⟨Nat.le_trans h.len hn,fun d hd=>⟨Nat.le_trans (h.data d hd).1 hn,Nat.le_trans (h.data d hd).2 hn⟩,fun d hd c hc=>⟨Nat.le_trans (h.ctor d hd c hc).1 hn,Nat.le_trans (h.ctor d hd c hc).2 hn⟩⟩
theorem zmL {b:Str}{p:Nat}{l:List Str}{n:Nat} (h:∀s∈l,s.length<=n) (hl:1<=l.length):(ofV b p l).length<=n:=by
 have:=zbA (b:=b) (p:=p) (n:=(l.length:Int)) od;exact h _ (zao od)
theorem Sm.mut {n:Nat}{w:List Data} (h:Sm n w) (b:Str) (p:Nat):Sm (n+10) (mutW b p w).1:=by
 have up:Sm (n+10) w:=⟨by have:=h.len;omega,fun d hd=>by have:=h.data d hd;omega,fun d hd c hc=>by have:=h.ctor d hd c hc;omega⟩;unfold mutW;split
 ·exact up
 rename_i c0 cr hc;by_cases hi:(zaf b p w.length).toNat<w.length
 ·have hy:nth w (zaf b p w.length).toNat∈w:=zao hi;generalize nth w (zaf b p w.length).toNat=y at hc hy ⊢;have hyc:=h.ctor y hy;have hyd:=h.data y hy;rw[hc] at hyc hyd;have hy0:=hyc c0 oe;split
  ·refine⟨by simp only[xaa,xab,xak];have:=h.len;omega,fun d hd=>?_,fun d hd c hc'=>?_⟩
   ·rcases List.mem_append.1 hd with h1|h1
    ·exact up.data d h1
    ·simp only[List.mem_singleton] at h1;subst h1;exact up.data d hy
   ·rcases List.mem_append.1 hd with h1|h1
    ·exact up.ctor d h1 c hc'
    ·simp only[List.mem_singleton] at h1;subst h1;exact up.ctor d hy c hc'
  ·have hz:∀z:Data,z.name.length<=n+10->z.ctors.length<=n+10->(∀c∈z.ctors,c.name.length<=n+10/\c.args.length<=n+10)->Sm (n+10) (w.set (zaf b p w.length).toNat z):=fun z z1 z2 z3=>by
    refine⟨by rw[List.length_set];exact up.len,fun d hd=>?_,fun d hd c hc'=>?_⟩
    ·rcases List.mem_or_eq_of_mem_set hd with h1|rfl
     ·exact up.data d h1
     ·exact⟨z1,z2⟩
    ·rcases List.mem_or_eq_of_mem_set hd with h1|rfl
     ·exact up.ctor d h1 c hc'
     ·exact z3 c hc'
   have n1:(ofV b (p+2) nmsD).length<=10:=zmL oh oh;have n2:(ofV b (p+2) nmsC).length<=10:=zmL oh oh;have hl2:(c0::cr).length<=n+10:=by omega
   have hcr:∀c∈cr,c.name.length<=n+10/\c.args.length<=n+10:=fun c hc=>by have:=hyc c (by simp[hc]);omega
   have hc0:c0.name.length<=n+10/\c0.args.length<=n+10:=by omega
   have cons:∀c:Ctor,c.name.length<=n+10/\c.args.length<=n+10->∀x∈c::cr,x.name.length<=n+10/\x.args.length<=n+10:=fun c h1 x hx=>by
    rcases List.mem_cons.1 hx with rfl|hx
    ·exact h1
    ·exact hcr x hx
   unfold mutY;repeat' split
   ·exact hz _ o0 hl2 (cons _ hc0)
   ·exact hz _ o0 oe oe
   ·exact hz _ o0 (by simpa using hl2) (cons _ ⟨by dsimp only;omega,hc0.2⟩)
   ·exact hz _ o0 (by simpa using hl2) (cons _ ⟨hc0.1,by simp only[xaa,xab,xak];omega⟩)
   ·exact hz _ o0 (by simpa using hl2) (cons _ ⟨hc0.1,hc0.2⟩)
   ·exact hz _ o0 hl2 (cons _ hc0)
 ·have hn:nth w (zaf b p w.length).toNat=default:=by simp[nth,List.getD,List.getElem?_eq_none (Nat.le_of_not_lt hi)]
  rw[hn] at hc;cases hc
theorem zjn {b:Str}{p:Nat}{w:List Data} (hb:b.length<=2000) (hp:p<=1000000) (hs:WSmall w) (hne:1<=w.length):
  FnD Tryz.prog 121 [.ref 900 0,.d (zah w)] [(900,some (rdB b p))] (.d (zah (mutW b p w).1)) [(900,some (rdB b (mutW b p w).2))]:=by
 have hv:=zbA (b:=b) (p:=p) (n:=(w.length:Int)) od;have hlt:(zaf b p w.length).toNat<w.length:=by omega
 obtain⟨pre,y,rest,hw,hpl⟩:∃pre y rest,w=pre++y::rest/\pre.length=(zaf b p w.length).toNat:=
  ⟨w.take (zaf b p w.length).toNat,w[(zaf b p w.length).toNat],w.drop ((zaf b p w.length).toNat+1),by rw[List.getElem_cons_drop,List.take_append_drop],by rw[List.length_take];omega⟩
 have hd:zaf b p w.length=pre.length:=by omega
 subst hw;obtain⟨nm,cs⟩:=y;by_cases h5:cs=[]\/zaf b (p+1) 30=5
 ·have h:=zki (b:=b) (p:=p) hb hp hs hd h5;have hm:mutW b p (pre++⟨nm,cs⟩::rest)=(if cs=[] then pre++⟨nm,cs⟩::rest else (pre++⟨nm,cs⟩::rest)++[⟨nm,cs⟩],if cs=[] then p+1 else p+2):=by
   unfold mutW;rw[hd,Int.toNat_natCast,znR];dsimp only;cases cs with
   |nil=>rfl
   |cons c0 cr=>
    have:=h5.resolve_left oe;simp only;rw[if_pos this,if_neg oe,if_neg oe]
  rw[hm];exact h
 ·rw[not_or] at h5;cases cs with
  |nil=>exact absurd I h5.1
  |cons c0 cr=>
   rw[zqy hd h5.2];exact zkj hb hp hs hd h5.2
theorem zoM:((List.range 7).all fun i=>smB 10 (zdc (nth zdr i)).1&&(zaP (zdc (nth zdr i)).1&&decide (1<=(zdc (nth zdr i)).1.length)))=true:=by kernel_rfl
structure WorldD (w:List Data):Prop where
 sm:Sm 10 w
 small:WSmall w
 valid:zaP w=true
 one:1<=w.length
theorem zdh (b:Str) (p:Nat):WorldD (zaG b p):=by
 have h:=List.all_eq_true.1 zoM (zaf b p 7).toNat (List.mem_range.2 (zoB b p));simp only[xad,xah] at h;exact⟨zp2 h.1,(zp2 h.1).small od,h.2.1,h.2.2⟩
theorem zov (b:Str) (p q:Nat):WSmall (mutW b q (zaG b p)).1:=((zdh b p).sm.mut b q).small od
theorem zkZ {w:List Data} (hw:WT w){n:Nat}{f:Nat->Nat}{a k c:Int} (ht:TyIn w.length ⟨a,k⟩) (hc:c∈zan w ⟨a,k⟩) (hn:n<=100) (hb:∀s,f s<=100000) (hin:∀u∈zac w ⟨a,k⟩ c,InS n u):
  FnD Tryz.prog 244 [.d (zah w),.d (zjO n f),.agg [.d (.i a),.d (.i k)],.d (.i c)] [] (.d (.i (most w f ⟨a,k⟩ c))) []:=by
 have hl:=zhQ hw ht hc;have hd:=zol hb od;refine bd Tryz.f244 37 [] [] fun _ _ _ _ hk=>?_;refine bx 3006 ?_;refine ev (wc zb7 (zck hw ht hc) I I ?_);refine ev (xaA (ι:=List (Ty)×List (Ty)×(Nat)) hk (fun x=>[(11,.d (.i (x.1.length:Int))),(10,.d (.i (x.2.2:Int)))]) [8,12,17,18,19,20,21,22,23,24,25,26,27,28,29,30,31,32,33,34] (fun x=>[]) (fun x=>x.1++x.2.1=zac w ⟨a,k⟩ c/\x.2.2<=100000/\zbC f x.2.2 x.2.1=zbC f 0 (zac w ⟨a,k⟩ c)) (fun x=>x.2.1.length) ([],zac w ⟨a,k⟩ c,0) ⟨by simp,by simp,I⟩ ⟨⟨_,I,xaK ?_⟩,⟨⟨_,I,xaK ?_⟩,O⟩⟩ O (fun x=>rfl) (fun x hg1=>?_));iterate 2 focus (first|rfl|(simp;done)|omega|(dsimp only;omega))
 obtain⟨pre,rest,m⟩:=x;dsimp only at hg1 ⊢;refine evc [] [] ?_;apply sq<;>intro h1 h1p h1s<;>(try simp only[Q] at h1p);rcases rest with _|⟨y,rest⟩
 ·exfalso;simp_all
 have hdy:=hd y;have hye:dv f ⟨y.data,y.index⟩=dv f y:=rfl;refine ixq zaJ I I I (zaI hg1.1) I (ev (wc zjx (zeH (f:=f) (a:=y.data) (k:=y.index) (hin y (by rw[<-hg1.1];simp)) hn) I I ?_));refine ev ?_;apply sq<;>intro h2 h2p h2s<;>(try simp only[Q] at h2p);refine rq ?_;rotate_left;apply sq<;>intro h3 h3p h3s<;>(try simp only[Q] at h3p);refine ar (xaj ((pre++[y],rest,max m (dv f y))) ⟨⟨(by have hz:=hg1.1;rw[<-hz];simp),⟨(by have:=hd y;dsimp only;omega),(by rw[<-hg1.2.2];simp only[zbC];rw[if_neg (by have:=hd y;omega)])⟩⟩,oe,sx ⟨⟨_,I,xaK ?_⟩,⟨⟨_,I,xaK ?_⟩,O⟩⟩ O⟩);iterate 2 focus (first|rfl|(simp;done)|omega|(dsimp only;omega))
 refine ar (xaj ((pre++[y],rest,max m (dv f y))) ⟨⟨(by have hz:=hg1.1;rw[<-hz];simp),⟨(by have:=hd y;dsimp only;omega),(by rw[<-hg1.2.2];simp only[zbC];rw[if_neg (by have:=hd y;omega)])⟩⟩,oe,sx ⟨⟨_,I,xaK ?_⟩,⟨⟨_,I,xaK ?_⟩,O⟩⟩ O⟩);iterate 2 focus (first|rfl|(simp;done)|omega|(dsimp only;omega))
 have hrest:rest=[]:=by
  rcases rest with _|⟨a,b⟩
  ·rfl
  ·exfalso;have hz:=xam List.length (hg1.1);simp only[xaa,xab,xac] at hz;omega
 subst hrest;refine ar (rq ?_);rotate_left;all_goals (refine xam D.i ?_;unfold most;rw[<-hg1.2.2];first|(simp only[zbC];rw[if_pos od];rfl)|(simp only[zbC];omega))
def hdB (w:List Data):Nat->Ty->Bool
 |0,_=>false
 |d+1,t=>decide (t.data = -1)||(za2 w t).any fun c=>decide (t.data≠ -1)&&(zac w t c).all (hdB w d)
theorem zkI (w:List Data):∀(d:Nat) (t:Ty),hdB w d t=true↔Hd w d t
 |0,t=>by simp[hdB,Hd]
 |d+1,t=>by
  simp only[hdB,Hd,Bool.or_eq_true,xah,List.any_eq_true,xad,List.all_eq_true,zkI w d]
def Low (w:List Data):Prop:=∀s,zau w s<=3
theorem zsT {w:List Data} (hd:Dp w) (h:(List.range (w.length*4)).all (fun s=> !hdB w 4 (tyS s)||hdB w 3 (tyS s))=true):Low w:=by
 intro s;by_cases hs:s<w.length*4
 ·obtain⟨h1,h2⟩:=zdL hd.cl (w.length*4+1);by_cases h0:zau w s=0
  ·omega
  ·have hh:=h1 s hs (Nat.pos_of_ne_zero h0);have h3:=zh3 hd.cl (d:=3) od (fun s hs hh=>by
    have:=List.all_eq_true.1 h s (List.mem_range.2 hs);rw[(zkI w 4 (tyS s)).2 hh] at this;exact(zkI w 3 _).1 (by simpa using this)) _ s hs hh
   by_cases h4:3<=w.length*4+1
   ·exact(h2 s hs 3 h4 h3).2
   ·omega
 ·have h0:=zhh (w:=w) (i:=s) od (w.length*4+1);show zbW w (w.length*4+1) s<=3
  omega
theorem zoN:((List.range 7).all fun i=>(List.range ((zdc (nth zdr i)).1.length*4)).all fun s=> !hdB (zdc (nth zdr i)).1 4 (tyS s)||hdB (zdc (nth zdr i)).1 3 (tyS s))=true:=by kernel_rfl
structure WorldL (w:List Data):Prop where
 dp:Dp w
 low:Low w
 few:Few w
theorem zeP (b:Str) (p:Nat):WorldL (zaG b p):=by
 have ho:=zdh b p;have hd:=zqR ho.small ho.valid;exact⟨hd,zsT hd (List.all_eq_true.1 zoN (zaf b p 7).toNat (List.mem_range.2 (zoB b p))),zp9 ho.small ho.valid⟩
theorem zpD {w:List Data} (hd:Dp w){t:Ty} (ht:InS (w.length*4) t) (hne:¬t.data = -1) (h:0<dv (zau w) t):∃c∈zan w t,0<most w (zau w) t c/\most w (zau w) t c=dv (zau w) t:=by
 obtain⟨h1,h2⟩:Snd w (zau w)/\Cmp w (w.length*4+1) (zau w):=zdL hd.cl (w.length*4+1);have hcmp:∀k,Cmp w k (zau w):=fun k=>by
  have h3:=(zdL hd.cl (max k (w.length*4+1))).2;rw[zrF hd.cl (Nat.le_max_right _ _)] at h3;exact fun s hs d hdk hh=>h3 s hs d od hh
 have hv:zan w t=za2 w t:=by unfold zan;rw[if_neg hne]
 have hh:Hd w (dv (zau w) t) t:=zom h1 ht h;rcases hd0:dv (zau w) t with _|e
 ·omega
 rw[hd0] at hh;rcases hh with hh|⟨c,hc,_,hu⟩
 ·exact absurd hh hne
 have hin:=zi3 hd ht (c:=c) (by rw[hv];exact hc);have hp:=zif (f:=zau w) (l:=zac w t c) (m:=0) (k:=e) (Nat.zero_le _) (fun u hu'=>zmt (hcmp e) (hin u hu') (hu u hu'));refine⟨c,by rw[hv];exact hc,hp.1, ?_⟩;have hle:most w (zau w) t c<=e+1:=hp.2;have hpos:0<most w (zau w) t c:=hp.1

 have hsn:=zgm (f:=zau w) (l:=zac w t c) (m:=0) hp.1;have hH:Hd w (most w (zau w) t c) t:=by
  obtain⟨q,hq⟩:∃q,most w (zau w) t c=q+1:=⟨most w (zau w) t c-1,by omega⟩;rw[hq];refine .inr ⟨c,hc,hne,fun u hu'=>?_⟩;have hx:=hsn.2 u hu';have hlt:dv (zau w) u<most w (zau w) t c:=hx.2;exact Hd_le od (zom h1 (hin u hu') hx.1)
 have hge:=(zmt (hcmp _) ht hH).2;omega
def zdX (w:List Data) (f:Nat->Nat) (t:Ty) (m c:Int):Bool:=decide (0<most w f t c)&&decide ((most w f t c:Int)<=m\/most w f t c=dv f t)
def zbV (w:List Data) (f:Nat->Nat) (t:Ty) (m:Int):List Int:=(zan w t).filter (zdX w f t m)
theorem zmy {P:Int->Bool}{pre:List Int}{y:Int} (h:P y=true):((pre++[y]).filter P).map (fun n=>[D.i n])=(pre.filter P).map (fun n=>[D.i n])++[[D.i y]]:=by simp[List.filter_append,h]
theorem zrB {P:Int->Bool}{pre:List Int}{y:Int} (h:P y=false):((pre++[y]).filter P).map (fun n=>[D.i n])=(pre.filter P).map (fun n=>[D.i n]):=by simp[List.filter_append,h]
def dV (f:Ty->Nat->Val×Nat):List Ty->Nat->List Val×Nat
 | [],q=>([],q)
 |t::r,q=>((f t q).1::(dV f r (f t q).2).1,(dV f r (f t q).2).2)
def zbG (b:Str) (w:List Data) (f:Nat->Nat):Nat->Ty->Int->Nat->Val×Nat
 |0,_,_,p=>(.mk 0 0 [],p)
 |n+1,t,m,p=>
  if t.data = -1 then (.mk (-1) (zaf b p 10) [],p+1)
  else (.mk (nth (zbV w f t m) (zaf b p (zbV w f t m).length).toNat) 0 (dV (fun u q=>zbG b w f n u (m-1) q) (zac w t (nth (zbV w f t m) (zaf b p (zbV w f t m).length).toNat)) (p+1)).1,
   (dV (fun u q=>zbG b w f n u (m-1) q) (zac w t (nth (zbV w f t m) (zaf b p (zbV w f t m).length).toNat)) (p+1)).2)
abbrev dW (b:Str) (w:List Data) (n:Nat) (m:Int):Ty->Nat->Val×Nat:=fun u x=>zbG b w (zau w) n u (m-1) x
def bdV:Nat->Nat
 |0=>0
 |d+1=>1+3*bdV d
def szV:Nat->Nat
 |0=>1
 |d+1=>1+3*szV d
theorem zq2 {f:Ty->Nat->Val×Nat}{k:Nat}:∀(l:List Ty) (q:Nat),(∀t∈l,∀q,(f t q).2<=q+k)->(dV f l q).2<=q+l.length*k
 | [],q,_=>by simp[dV]
 |t::r,q,h=>by
  have h1:=h t oe q;have h2:=zq2 r (f t q).2 (fun x hx=>h x (by simp[hx]));simp only[dV,xab,Nat.add_mul];omega
theorem zpg {f:Ty->Nat->Val×Nat}:∀(l:List Ty) (q:Nat),(dV f l q).1.length=l.length
 | [],q=>rfl
 |t::r,q=>by simp only[dV,xab,zpg r]
theorem zq3 {f:Ty->Nat->Val×Nat}{k:Nat}:∀(l:List Ty) (q:Nat),(∀t∈l,∀q,(f t q).1.size<=k/\(f t q).1.ok)->Vals.size (dV f l q).1<=l.length*k/\Vals.ok (dV f l q).1
 | [],q,_=>by simp[dV,Vals.size,Vals.ok]
 |t::r,q,h=>by
  have h1:=h t oe q;have h2:=zq3 r (f t q).2 (fun x hx=>h x (by simp[hx]));simp only[dV,xab,Nat.add_mul,Vals.size,Vals.ok];exact⟨by omega,h1.2,h2.2⟩
theorem zh0 {w:List Data}{f:Nat->Nat}{t:Ty}{m c:Int} (h:c∈zbV w f t m):c∈zan w t/\0<most w f t c/\((most w f t c:Int)<=m\/most w f t c=dv f t):=by
 have:=List.mem_filter.1 h;simpa [zdX] using this
structure Deep (w:List Data) (n:Nat) (t:Ty) (m:Int):Prop where
 ins:InS (w.length*4) t
 pos:0<dv (zau w) t
 le:dv (zau w) t<=n
 ml:m<=n
theorem zmx {w:List Data} (hd:Dp w){n:Nat}{t:Ty}{m:Int} (h:Deep w n t m) (hne:¬t.data = -1):1<=(zbV w (zau w) t m).length:=by
 obtain⟨c,hc,h1,h2⟩:=zpD hd h.ins hne h.pos;exact List.length_pos_of_mem (a:=c) (List.mem_filter.2 ⟨hc,by have:=h.pos;simp[zdX,h2,this]⟩)
theorem zmr {w:List Data} (hd:Dp w){n:Nat}{t:Ty}{m c:Int} (h:Deep w (n+1) t m) (hc:c∈zbV w (zau w) t m):∀u∈zac w t c,Deep w n u (m-1):=by
 intro u hu;obtain⟨h1,h2,h3⟩:=zh0 hc;have hin:=zi3 hd h.ins h1 u hu;have hs:=(zgm (f:=zau w) (l:=zac w t c) (m:=0) h2).2 u hu;have hlt:dv (zau w) u<most w (zau w) t c:=hs.2;have:=h.le;have:=h.ml;exact⟨hin,hs.1,by rcases h3 with h3|h3<;>omega,by omega⟩
theorem zly {w:List Data} (hd:Dp w){n:Nat}{t:Ty}{m:Int} (h:Deep w n t m) (hne:¬t.data = -1) (b:Str) (p:Nat):nth (zbV w (zau w) t m) (zaf b p (zbV w (zau w) t m).length).toNat∈zbV w (zau w) t m:=
 zhq (by have:=zmx hd h hne;omega)
theorem zhc {b:Str}{w:List Data} (hd:Dp w) (hf:Few w):∀(n:Nat) (t:Ty) (m:Int) (p:Nat),Deep w n t m->(zbG b w (zau w) n t m p).2<=p+bdV n/\(zbG b w (zau w) n t m p).1.size<=szV n/\(zbG b w (zau w) n t m p).1.ok
 |0,t,m,p,h=>by have:=h.pos;have:=h.le;omega
 |n+1,t,m,p,h=>by
  simp only[zbG,bdV,szV];split
  ·refine⟨by dsimp only;omega, ?_, ?_⟩
   ·simp only[Val.size,Vals.size];omega
   ·simp[Val.ok,Vals.ok]
  ·rename_i hne;have hm:=zly hd h hne b p;generalize nth (zbV w (zau w) t m) (zaf b p (zbV w (zau w) t m).length).toNat=c at *;have hk:=zmr hd h hm;have h3:=(hf t c (zh0 hm).1 (zje h.ins)).1;have h1:=zq2 (f:=fun u q=>zbG b w (zau w) n u (m-1) q) (k:=bdV n) (zac w t c) (p+1) (fun u hu q=>(zhc hd hf n u (m-1) q (hk u hu)).1);have h2:=zq3 (f:=fun u q=>zbG b w (zau w) n u (m-1) q) (k:=szV n) (zac w t c) (p+1) (fun u hu q=>(zhc hd hf n u (m-1) q (hk u hu)).2);have h4:(zac w t c).length*bdV n<=3*bdV n:=xav _ h3;have h5:(zac w t c).length*szV n<=3*szV n:=xav _ h3;have h6:=zpg (f:=fun u q=>zbG b w (zau w) n u (m-1) q) (zac w t c) (p+1);refine⟨by dsimp only;omega, ?_, ?_⟩
   ·simp only[Val.size];omega
   ·simp only[Val.ok];exact⟨by omega,h2.2⟩
section
variable {b:Str}{w:List Data}{f:Nat->Nat}{n p:Nat}{t:Ty}{m:Int}
theorem zrz (h:t.data = -1):zbG b w f (n+1) t m p=(.mk (-1) (zaf b p 10) [],p+1):=by simp only[zbG];rw[if_pos h]
theorem zrA (h:¬t.data = -1){c:Int} (hc:nth (zbV w f t m) (zaf b p (zbV w f t m).length).toNat=c):zbG b w f (n+1) t m p =
  (.mk c 0 (dV (fun u q=>zbG b w f n u (m-1) q) (zac w t c) (p+1)).1,(dV (fun u q=>zbG b w f n u (m-1) q) (zac w t c) (p+1)).2):=by
 simp only[zbG];rw[if_neg h,hc]
end
theorem zg0 {b:Str}{w:List Data} (hb:b.length<=2000) (hd:Dp w) (hf:Few w):∀(n:Nat){a k m:Int}{p:Nat},Deep w n ⟨a,k⟩ m->(n:Int)-10<=m->n<=5->p+bdV n<=1000000->
  FnD Tryz.prog 168 [.ref 900 0,.d (zah w),.d (zjO (w.length*4) (zau w)),.agg [.d (.i a),.d (.i k)],.d (.i m)] [(900,some (rdB b p))]
   (.agg [.d (.i (zbG b w (zau w) n ⟨a,k⟩ m p).1.ctor),.d (.i (zbG b w (zau w) n ⟨a,k⟩ m p).1.num),.d (ziH (zbG b w (zau w) n ⟨a,k⟩ m p).1.kids)]) [(900,some (rdB b (zbG b w (zau w) n ⟨a,k⟩ m p).2))]
 |0,a,k,m,p,h,_,_,_=>by have:=h.pos;have:=h.le;omega
 |n+1,a,k,m,p,h,hm,hn5,hp=>by
  have ht:=zje h.ins;have hml:=h.ml;have h4:=hd.four;have hbd:bdV (n+1)=1+3*bdV n:=rfl;have hfb:∀s,zau w s<=100000:=znY hd (k:=w.length*4+1) (s:=0) od od (pre:=[]) oe;have hcl:=zd4 hd.wt ht;have hfl:(zbV w (zau w) ⟨a,k⟩ m).length<=(zan w ⟨a,k⟩).length:=List.length_filter_le _ _;have hflm:((((zan w ⟨a,k⟩).filter (zdX w (zau w) ⟨a,k⟩ m)).map fun n=>[D.i n]).length:Int)=(zbV w (zau w) ⟨a,k⟩ m).length:=by rw[xac];rfl
  have hfp:=fun hne=>zmx hd h hne;have v14:=fun hh=>zbA (b:=b) (p:=p) (n:=((zbV w (zau w) ⟨a,k⟩ m).length:Int)) hh;have hmem:=fun hne=>zly hd h hne b p;have hdm:=zrz (b:=b) (w:=w) (f:=zau w) (n:=n) (p:=p) (t:=⟨a,k⟩) (m:=m);have hdm2:=fun hne=>zrA (b:=b) (w:=w) (f:=zau w) (n:=n) (p:=p) (t:=⟨a,k⟩) (m:=m) hne rfl;generalize hcc:nth (zbV w (zau w) ⟨a,k⟩ m) (zaf b p (zbV w (zau w) ⟨a,k⟩ m).length).toNat=cc at *;have hfm:=fun hne=>zh0 (hmem hne);have hkid:=fun hne=>zmr hd h (hmem hne);have hfw:=fun hne=>(hf ⟨a,k⟩ cc (hfm hne).1 ht).1;have hok:=fun u q hu=>zhc (b:=b) hd hf n u (m-1) q hu;have hat:¬a = -1->(((zan w ⟨a,k⟩).filter (zdX w (zau w) ⟨a,k⟩ m)).map fun n=>[D.i n])[(zaf b p (zbV w (zau w) ⟨a,k⟩ m).length).toNat]?=some [D.i cc]:=fun hne=>by
   rw[<-hcc];exact zam (l:=zbV w (zau w) ⟨a,k⟩ m) (by have:=v14 (by have:=hfp hne;omega);omega)
  refine bd Tryz.f168 98 [] [9,11] fun _ _ _ _ hk=>?_;refine bx 3008 ?_;refine ab 3010 zgz ?_;apply tv;apply sq<;>intro h1 h1p h1s<;>(try simp only[Q] at h1p);refine wd zbi (zaC (p:=p) (n:=10) hb od od) I I ⟨I,O⟩ ?_;refine bu [0,1] [_,_] zrk ?_;refine so zdB ?_;apply tv;refine rn [(900,some (rdB b (zbG b w (zau w) (n+1) ⟨a,k⟩ m p).2))] (ra zdB) (.agg (qeen ?_ ?_ ?_)) ⟨I,I⟩ (SubO.get ⟨.inr ?_,⟨.inl I,O⟩⟩) (zai I);rotate_left 4;refine wc zfc (zbU hd.wt ht) I I ?_;refine ev (xbR 5 zaW .none I I (ev (xaA (ι:=List (Int)×List (Int)) hk (fun x=>[(13,.d (.i (x.1.length:Int))),(12,.gl 5 ((x.1.filter (zdX w (zau w) ⟨a,k⟩ m)).map fun n=>[D.i n]))]) [14,28,29,30,31,32,33,34,35,36,37,38,39,40,41,42,43,44,45,46,47,48,49,50,51,52,53,54,55,56,57,58,59,60,61,62] (fun x=>[(5,some (.tok (((x.1.filter (zdX w (zau w) ⟨a,k⟩ m)).map fun n=>[D.i n])).length 1))]) (fun x=>x.1++x.2=zan w ⟨a,k⟩) (fun x=>x.2.length) ([],zan w ⟨a,k⟩) oe ⟨⟨_,I,xaK ?_⟩,⟨⟨_,I,LeA.glg ?_⟩,O⟩⟩ ⟨zag ?_,O⟩ (fun x=>rfl) (fun x hg1=>?_))));iterate 3 focus (rfl)
  obtain⟨pre,rest⟩:=x;dsimp only at hg1 ⊢;refine evc [] [9,11] ?_;apply sq<;>intro h2 h2p h2s<;>(try simp only[Q] at h2p);rcases rest with _|⟨y,rest⟩
  ·exfalso;simp_all
  refine ixq zaW I I I (zaI hg1) I (evd [] [] (wc zo7 (zkZ hd.wt ht (c:=y) (by rw[<-hg1];simp) od hfb (zi3 hd h.ins (by rw[<-hg1];simp))) I I ?_));refine evd [] [] (dr (xaC (xbh 14 [(55,.d (.bool (zdX w (zau w) ⟨a,k⟩ m y)))] [42,43,44,45,46,47,48,49,50,51,52,53,54] ?_ ?_)));refine ev ?_;apply sq<;>intro h3 h3p h3s<;>(try simp only[Q] at h3p);apply sq<;>intro h4 h4p h4s<;>(try simp only[Q] at h4p);focus (exact jn I (xaJ (by(unfold zdX;rw[xat];simp_all;done))))
  refine Walk.call (cr:=[]) zjx (zeH h.ins od) I (.some I I h4) I I (LeL.refl _) O I I I ?_;refine evs [] [(44,true),(48,false)] ?_ ⟨⟨_,I,h3⟩,⟨_,I,h4⟩,O⟩;focus (exact jn I (xaJ (by(unfold zdX;rw[xat];simp_all;omega))))
  focus (exact jn I (xaJ (by(unfold zdX;rw[xat];simp_all;done))))
  refine xbg ?_;apply tv;apply sq<;>intro h5 h5p h5s<;>(try simp only[Q] at h5p);refine ixq zaW I I I (zaI hg1) I (ev (si [0] [_] zaW tz3 ?_));refine ap zaW zz3 I I I oe (by(have hz:=xam List.length hg1;have hq:=List.length_filter_le (zdX w (zau w) ⟨a,k⟩ m) pre;simp at hz ⊢;omega)) ?_;refine ev (ar (xaj ((pre++[y],rest)) ⟨(by have hz:=hg1;rw[<-hz];simp),oe,sx ⟨⟨_,I,xaK ?_⟩,⟨⟨_,I,LeA.glg ?_⟩,O⟩⟩ ⟨zag ?_,O⟩⟩));iterate 3 focus (first|(simp;done)|(rw[zmy ol];all_goals rfl)|(rw[zmy ol];simp;done))
  refine ar (xaj ((pre++[y],rest)) ⟨(by have hz:=hg1;rw[<-hz];simp),oe,sx ⟨⟨_,I,xaK ?_⟩,⟨⟨_,I,LeA.glg ?_⟩,O⟩⟩ ⟨zag ?_,O⟩⟩);iterate 3 focus (first|(simp;done)|(rw[zrB ol];all_goals rfl))
  have hrest:rest=[]:=by
   rcases rest with _|⟨a,b⟩
   ·rfl
   ·exfalso;have hz:=xam List.length (hg1);simp only[xaa,xab,xac] at hz;omega
  subst hrest;rw[xaq] at hg1;subst hg1;refine evc [] [] (wd zbi (zaC (p:=p) (n:=((((zan w ⟨a,k⟩).filter (zdX w (zau w) ⟨a,k⟩ m)).map fun n=>[D.i n]).length:Int)) hb od od) I I ⟨I,O⟩ ?_);refine xbB (i:=(zaf b p (zbV w (zau w) ⟨a,k⟩ m).length).toNat) zaW .none I I I (by rw[hflm];have:=v14 (by have:=hfp od;omega);omega) (hat od) I ?_;refine ev (bu [0] [_] zrk ?_);refine ab 3015 zgz ?_;refine so zdB ?_;apply tv;refine wc zb7 (zck hd.wt ht (hfm od).1) I I ?_;refine ev (xaD 3015 2 1 3 I I I I (xaA (ι:=List (Ty)×List (Ty)×(Nat)×(List Val)) hk (fun x=>[(17,.d (.i (x.1.length:Int)))]) [76,77,78,79,80,81,82,83,84,85,86,87,88,89,90,91,92,93,94,95,96] (fun x=>[(900,some (.box [.d (zbY b),.d (.i (x.2.2.1:Int))])),(3015,some (.box [.d (.i cc),.d (.i 0),.gl 1 (x.2.2.2.map Val.cc)])),(1,some (.tok (x.2.2.2.map Val.cc).length 3))]) (fun x=>x.1++x.2.1=zac w ⟨a,k⟩ cc/\x.2.2.1<=p+1+x.1.length*bdV n/\x.2.2.2.length=x.1.length/\(x.2.2.2++(dV (dW b w n m) x.2.1 x.2.2.1).1,(dV (dW b w n m) x.2.1 x.2.2.1).2)=dV (dW b w n m) (zac w ⟨a,k⟩ cc) (p+1)) (fun x=>x.2.1.length) ([],zac w ⟨a,k⟩ cc,p+1,[]) ⟨by simp,by simp,by simp,by simp⟩ ⟨⟨_,I,xaK ?_⟩,O⟩ ⟨?_,⟨?_,⟨zag ?_,O⟩⟩⟩ (fun x=>rfl) (fun x hg2=>?_)));focus (rfl)
  iterate 2 focus (first|rfl|(simp[getH];done))
  focus (rfl)
  obtain⟨pre,rest,q,ks⟩:=x;dsimp only at hg2 ⊢;refine evc [] [9,11] ?_;apply sq<;>intro h6 h6p h6s<;>(try simp only[Q] at h6p);rcases rest with _|⟨y,rest⟩
  ·exfalso;simp_all
  have hfw3:=hfw od;have hpm:pre.length*bdV n<=2*bdV n:=xav _ (by have hz:=xam List.length hg2.1;have:=hfw od;simp at hz;omega);refine ixq zaJ I I I (zaI hg2.1) I (evd [] [] (ar (wd zme (zg0 hb hd hf n (a:=y.data) (k:=y.index) (m:=m-1) (p:=q) (hkid od y (by rw[<-hg2.1];simp)) od od od) I I ⟨I,O⟩ ?_)));refine si [0] [_] zri zgz ?_;refine ap zri ztx I I I oe (by(have hz:=xam List.length hg2.1;have:=hfw od;simp at hz ⊢;omega)) ?_;refine evd [] [] (so ztv ?_);refine dr (ar (xaj ((pre++[y],rest,(zbG b w (zau w) n y (m-1) q).2,ks++[(zbG b w (zau w) n y (m-1) q).1])) ⟨⟨(by have hz:=hg2.1;rw[<-hz];simp),⟨(by have:=(hok y q (hkid od y (by rw[<-hg2.1];simp))).1;simp only[xaa,xab,xak,Nat.add_mul];omega),(by simp[hg2.2.2.1]),(by rw[<-hg2.2.2.2];simp[dV])⟩⟩,oe,sx ⟨⟨_,I,xaK ?_⟩,O⟩ ⟨?_,⟨?_,⟨zag ?_,O⟩⟩⟩⟩));focus ((simp;done))
  iterate 2 focus (first|rfl|(simp[getH];done))
  focus ((simp;done))
  have hrest:rest=[]:=by
   rcases rest with _|⟨a,b⟩
   ·rfl
   ·exfalso;have hz:=xam List.length (hg2.1);simp only[xaa,xab,xac] at hz;omega
  subst hrest;refine so zdB ?_;apply tv;refine rn [(900,some (rdB b (zbG b w (zau w) (n+1) ⟨a,k⟩ m p).2))] (ra zdB) (.agg (qeeg ?_ ?_ ?_)) ⟨I,I⟩ (SubO.get ⟨.inr ?_,⟨.inl I,O⟩⟩) (zai I);rotate_left 4;all_goals (((first|(rw[hdm od];all_goals rfl)|(rw[hdm2 od];have hfin:=hg2.2.2.2;simp only[dV,xaq] at hfin;rw[<-hfin];all_goals first|rfl|(show _=D.sl (Val.cs _);rw[Val.cs_cc];all_goals rfl)|(show _=Val.cs _;rw[Val.cs_cc];all_goals rfl)));done))
set_option maxRecDepth 1000000
set_option maxRecDepth 100000
def uv (x:Int):Int:=if x=3 then 1 else if x=0\/x=1 then 0 else -1
def fN (y:Nat):Nat:=(y ^^^ (y / 64)) % 24
def uN (y:Nat):Int:=uv (fN y:Int)
def wS (D:Nat):Nat->Nat->Int
 |0,_=>0
 |n+1,y=>uN y+wS D n (y+D)
theorem zkA (D:Nat):∀m n y,wS D (m+n) y=wS D m y+wS D n (y+m*D)
 |0,n,y=>by simp[wS]
 |m+1,n,y=>by
  rw[show m+1+n=(m+n)+1 by omega];simp only[wS];rw[zkA D m n (y+D),show y+D+m*D=y+(m+1)*D by rw[Nat.add_mul];omega];omega
def g8 (r:Nat):Nat:=(r % 8) ^^^ (r / 64 % 8)
theorem zsP (y:Nat):fN y % 8=g8 (y % 512):=by
 unfold fN g8;rw[Nat.mod_mod_of_dvd _ oh,show(8:Nat)=2 ^ 3 from rfl,Nat.xor_mod_two_pow];congr 1
 ·omega
 ·omega
def um (r:Nat):Int:=if r=3 then 1 else if r=0\/r=1 then 0 else -1
theorem zl4 (y:Nat):uN y<=um (g8 (y % 512)):=by
 rw[<-zsP];have h:fN y<24:=Nat.mod_lt _ od;unfold uN;generalize fN y=x at *;have key:∀x:Nat,x<24->uv (x:Int)<=um (x % 8):=by decide
 exact key x h
def ztr:Bool:=(List.range 512).all fun r=>[128,384].all fun E=>decide (um (g8 r)+um (g8 ((r+E) % 512))+um (g8 ((r+2*E) % 512))+um (g8 ((r+3*E) % 512))<= -1)
theorem zqG:ztr=true:=by kernel_rfl
theorem quad {E:Nat} (hE:E % 512=128\/E % 512=384) (y:Nat):uN y+uN (y+E)+uN (y+2*E)+uN (y+3*E)<= -1:=by
 have h:=List.all_eq_true.1 zqG (y % 512) (List.mem_range.2 (Nat.mod_lt _ od));have h2:=List.all_eq_true.1 h (E % 512) (by rcases hE with e|e<;>rw[e]<;>simp);have h3:=xas h2;have a0:=zl4 y;have a1:=zl4 (y+E);have a2:=zl4 (y+2*E);have a3:=zl4 (y+3*E);rw[show(y+E) % 512=(y % 512+E % 512) % 512 by omega] at a1;rw[show(y+2*E) % 512=(y % 512+2*(E % 512)) % 512 by omega] at a2;rw[show(y+3*E) % 512=(y % 512+3*(E % 512)) % 512 by omega] at a3;omega
theorem zrg {D E:Nat} (hE:E % 512=128\/E % 512=384):∀n y,wS D n y+wS D n (y+E)+wS D n (y+2*E)+wS D n (y+3*E)<= -n
 |0,y=>by simp[wS]
 |n+1,y=>by
  have h1:=quad hE y;have h2:=zrg (D:=D) hE n (y+D);simp only[wS];rw[show y+E+D=y+D+E by omega,show y+2*E+D=y+D+2*E by omega,show y+3*E+D=y+D+3*E by omega];omega
theorem four {D h:Nat} (hE:h*D % 512=128\/h*D % 512=384) (y:Nat):wS D (h+(h+(h+h))) y<= -h:=by
 have:=zrg (D:=D) hE h y;rw[zkA,zkA,zkA,show y+h*D+h*D=y+2*(h*D) by omega,show y+2*(h*D)+h*D=y+3*(h*D) by omega];omega
def mutV (b:Str):Nat->Nat->Val->Option (Val×Nat)
 |0,_,_=>none
 |n+1,p,v=>
  if zaf b p 24=0 then some (.mk (numV b (p+1) [0,1,-1,9,-2]) v.num v.kids,p+2)
  else if zaf b p 24=1 then some (.mk v.ctor (numV b (p+1) [10,-1,1]) v.kids,p+2)
  else if zaf b p 24=2 then some (.mk v.ctor v.num (v.kids++[.mk (-1) 0 []]),p+1)
  else if zaf b p 24=3 then
   match v.kids with
   | []=>some (.mk v.ctor v.num v.kids,p+1)
   |k::r=>
    match mutV b n (p+1) k with
    |none=>none
    |some (k1,p1)=>
     match mutV b n p1 k1 with
     |none=>none
     |some (k2,p2)=>some (.mk v.ctor v.num (k2::r),p2)
  else some (.mk v.ctor v.num v.kids,p+1)
theorem xbd:∀a b:List Val,Vals.size (a++b)=Vals.size a+Vals.size b
 | [],b=>by simp[Vals.size]
 |x::r,b=>by simp only[xai,Vals.size,xbd r b];omega
theorem xba (a n:Int) (k:List Val):(Val.mk a n k).size=1+Vals.size k:=rfl
theorem zrK {b:Str}{n p:Nat}{v:Val}{k:Val}{r:List Val} (h:zaf b p 24=3) (hk:v.kids=k::r){v':Val}{q:Nat} (hm:mutV b (n+1) p v=some (v',q)):
  ∃k1 p1 k2,mutV b n (p+1) k=some (k1,p1)/\mutV b n p1 k1=some (k2,q)/\v' = .mk v.ctor v.num (k2::r):=by
 simp only[mutV] at hm;rw[if_neg od,if_neg od,if_neg od,if_pos h,hk] at hm;cases h1:mutV b n (p+1) k with
 |none=>simp[h1] at hm
 |some x=>
  obtain⟨k1,p1⟩:=x;cases h2:mutV b n p1 k1 with
  |none=>simp[h1,h2] at hm
  |some y=>
   obtain⟨k2,p2⟩:=y;simp only[h1,h2,xae,Prod.mk.injEq] at hm;obtain⟨rfl,rfl⟩:=hm;exact⟨k1,p1,k2,rfl,h2,rfl⟩
theorem zkM {b:Str}:∀ {n:Nat}{p:Nat}{v v':Val}{q:Nat},mutV b n p v=some (v',q)->p<q/\v'.size<=v.size+(q-p)
 |0,p,v,v',q,h=>by simp[mutV] at h
 |n+1,p,v,v',q,h=>by
  have hv:=xa9 v;by_cases h3:zaf b p 24=3
  ·cases hk:v.kids with
   |nil=>
    simp only[mutV] at h;rw[if_neg od,if_neg od,if_neg od,if_pos h3,hk] at h;simp only[xae,Prod.mk.injEq] at h;obtain⟨rfl,rfl⟩:=h;rw[xba];simp only[Vals.size];omega
   |cons k r=>
    obtain⟨k1,p1,k2,h1,h2,rfl⟩:=zrK h3 hk h;have a1:=zkM h1;have a2:=zkM h2;rw[hk] at hv;rw[xba];simp only[Vals.size] at hv ⊢;omega
  ·simp only[mutV] at h;split at h
   ·simp only[xae,Prod.mk.injEq] at h;obtain⟨rfl,rfl⟩:=h;rw[xba];omega
   split at h
   ·simp only[xae,Prod.mk.injEq] at h;obtain⟨rfl,rfl⟩:=h;rw[xba];omega
   split at h
   ·simp only[xae,Prod.mk.injEq] at h;obtain⟨rfl,rfl⟩:=h;rw[xba,xbd];simp only[Vals.size,Val.size];omega
   ·simp only[xae,Prod.mk.injEq] at h;obtain⟨rfl,rfl⟩:=h;rw[xba];omega
def zeN (b:Str) (p:Nat):Ty:=⟨zaf b (p+1) (zaG b p).length,numV b (p+2) [0,0,1,2]⟩
def typT (b:Str) (p:Nat):Ty:=if dv (zau (zaG b p)) (zeN b p)=0 then ⟨-1,0⟩ else zeN b p
def typV (b:Str) (p:Nat):Val×Nat:=zbG b (zaG b p) (zau (zaG b p)) 4 (typT b p) (numV b (p+3) [3,2,4,1]) (p+4)
theorem zsR {n:Nat}{a k:Int} (h1:0<=a) (h2:a<n) (h3:0<=k) (h4:k<=3):InS (n*4) ⟨a,k⟩:=by
 refine .inr ⟨?_, ?_⟩
 ·simp only[zd1];omega
 ·obtain⟨i,rfl⟩:=Int.eq_ofNat_of_zero_le h1;obtain⟨m,rfl⟩:=Int.eq_ofNat_of_zero_le h3;simp only[zd1,Int.toNat_natCast];exact zp6 od
theorem zrN (b:Str) (p:Nat):0<=numV b p [0,0,1,2]/\numV b p [0,0,1,2]<=3:=by
 have:=zmK (b:=b) (p:=p) (l:=[0,0,1,2]) oe;simp only[List.mem_cons,xau,or_false] at this;omega
theorem zm8 (b:Str) (p:Nat):InS ((zaG b p).length*4) (zeN b p):=by
 have h1:=zbA (b:=b) (p:=p+1) (n:=((zaG b p).length:Int)) (by have:=(zdh b p).one;omega);have h2:=zrN b (p+2);exact zsR h1.1 h1.2 h2.1 h2.2
theorem zix (b:Str) (p:Nat):Deep (zaG b p) 4 (typT b p) (numV b (p+3) [3,2,4,1]):=by
 have hl:=zeP b p;have h4:=num4 b (p+3);unfold typT;split
 ·exact⟨.inl rfl,by simp[dv],by simp[dv],by omega⟩
 ·rename_i h;have:=zol (f:=zau (zaG b p)) (b:=3) hl.low od (zeN b p);exact⟨zm8 b p,by omega,by omega,by omega⟩
theorem zn9 (b:Str) (p:Nat):(typV b p).2<=p+44/\(typV b p).1.size<=121/\(typV b p).1.ok:=by
 have hl:=zeP b p;have h:=zhc (b:=b) hl.dp hl.few 4 (typT b p) (numV b (p+3) [3,2,4,1]) (p+4) (zix b p);have e1:bdV 4=40:=by decide
 have e2:szV 4=121:=by decide
 unfold typV;exact⟨by omega,by omega,h.2.2⟩
theorem zko {b:Str}{p:Nat} (hb:b.length<=2000) (hp:p<=100000):
  FnD Tryz.prog 163 [.ref 900 0] [(900,some (rdB b p))] (.tup [.d (zah (zaG b p)),.agg [.d (.i (typT b p).data),.d (.i (typT b p).index)],.agg [.d (.i (typV b p).1.ctor),.d (.i (typV b p).1.num),.d (ziH (typV b p).1.kids)]]) [(900,some (rdB b (typV b p).2))]:=by
 have ho:=zdh b p;have hl:=zeP b p;have h4:=num4 b (p+3);have hin:=zm8 b p;have hdeep:=zix b p;have hT:typT b p=if dv (zau (zaG b p)) (zeN b p)=0 then ⟨-1,0⟩ else zeN b p:=rfl
 have hV:typV b p=zbG b (zaG b p) (zau (zaG b p)) 4 (typT b p) (numV b (p+3) [3,2,4,1]) (p+4):=rfl;have e1:bdV 4=40:=by decide
 have hwd:=zkn (p:=p) hb od;have hpk:=zaC (b:=b) (p:=p+1) (n:=(((zaG b p).map Data.c).length:Int)) hb od (by have:=ho.small.len;simp;omega);rw[show zaf b (p+1) (((zaG b p).map Data.c).length:Int)=(zeN b p).data by rw[xac];rfl] at hpk;have hnu:=zbp (b:=b) (p:=p+2) (l:=[0,0,1,2]) hb od oe oe;rw[show numV b (p+2) [0,0,1,2]=(zeN b p).index from rfl] at hnu;have hdr:=fun(t:Ty) (h:Deep (zaG b p) 4 t (numV b (p+3) [3,2,4,1]))=>zg0 hb hl.dp hl.few 4 (a:=t.data) (k:=t.index) (p:=p+4) h od od od;have hdp:=zeH (f:=zau (zaG b p)) (a:=(zeN b p).data) (k:=(zeN b p).index) hin (by have:=hl.dp.four;omega);have htb:=zkk hl.dp;generalize zaG b p=w at *;generalize zeN b p=t0 at *;obtain⟨a0,k0⟩:=t0;have hdr2:=hdr ⟨-1,0⟩;have hdr3:=hdr ⟨a0,k0⟩;clear hdr;dsimp only at hT hV hdr2 hdr3;refine bd Tryz.f163 35 [] [] fun _ _ _ _ hk=>?_;refine ab 3003 tz38 ?_;refine ab 3004 zgz ?_;apply tv;refine wd zsw hwd I I ⟨I,O⟩ ?_;refine ev (wc zsi htb I I ?_);refine ev (wd zbi hpk I I ⟨I,O⟩ ?_);refine ev (si [0,1,2,3] [_,_,_,_] zaW tz3 ?_);refine wd zcM hnu I I ⟨I,O⟩ ?_;refine bu [0,1] [_,_] st38 ?_;refine ab 3007 tz38 ?_;refine so ty38 ?_;apply tv;refine wc zjx hdp I I ?_;refine ev ?_;apply sq<;>intro h1 h1p h1s<;>(try simp only[Q] at h1p);have HDR:=hdr2 (by rw[if_pos od] at hT;rw[<-hT];exact hdeep);refine bu [0] [_] st38 ?_;refine so ty38 ?_;apply tv;refine si [0,1,2,3] [_,_,_,_] zaW tz3 ?_;refine wd zcM (zbp (b:=b) (p:=p+3) (l:=[3,2,4,1]) hb od oe oe) I I ⟨I,O⟩ ?_;refine wd zme HDR I I ⟨I,O⟩ ?_;refine evd [] [] (so ty38 ?_);refine so zdB ?_;refine dr (rn [(900,some (rdB b (typV b p).2))] (.cons (.tmp I) (.cons (.cellA ty38 I I I) (ra zdB))) (.tup (.cons (.eqd ?_) (.cons (.agg (qee ?_ ?_)) (.cons (.agg (qeee ?_ ?_ ?_)) .nil)))) ⟨I,I⟩ (SubO.get ⟨.inr ?_,⟨.inl I,O⟩⟩) (zai I));rotate_left 7;have HDR:=hdr3 (by rw[if_neg od] at hT;rw[<-hT];exact hdeep);refine si [0,1,2,3] [_,_,_,_] zaW tz3 ?_;refine wd zcM (zbp (b:=b) (p:=p+3) (l:=[3,2,4,1]) hb od oe oe) I I ⟨I,O⟩ ?_;refine wd zme HDR I I ⟨I,O⟩ ?_;refine evd [] [] (so ty38 ?_);refine so zdB ?_;refine dr (rn [(900,some (rdB b (typV b p).2))] (.cons (.tmp I) (.cons (.cellA ty38 I I I) (ra zdB))) (.tup (.cons (.eqd ?_) (.cons (.agg (qee ?_ ?_)) (.cons (.agg (qeee ?_ ?_ ?_)) .nil)))) ⟨I,I⟩ (SubO.get ⟨.inr ?_,⟨.inl I,O⟩⟩) (zai I));rotate_left 7;all_goals (first|((first|(rw[if_pos od] at hT;rw[hV,hT];all_goals rfl)|(rw[if_neg od] at hT;rw[hV,hT];all_goals rfl)|(rw[if_pos od] at hT;rw[hT];all_goals rfl)|(rw[if_neg od] at hT;rw[hT];all_goals rfl)|rfl);done)|(first|(rw[if_pos od] at hT;rw[hV,hT];all_goals rfl)|(rw[if_neg od] at hT;rw[hV,hT];all_goals rfl)))
def typP (b:Str) (p:Nat):Pat:=zcy b (zaG b p) (typT b p) (typV b p).2
def typQ (b:Str) (p:Nat):Nat:=(zcS b (zaG b p) (typT b p) (typV b p).2).2.2
theorem zg2 (b:Str) (p:Nat):TyIn (zaG b p).length (typT b p):=zje (zix b p).ins
theorem ziN (b:Str) (p:Nat):(typP b p).size<=242/\(typP b p).ok/\typQ b p<=p+600:=by
 have hl:=zeP b p;have h1:=zoG (b:=b) hl.few (zg2 b p) (typV b p).2;have h2:=zij (b:=b) hl.few (zg2 b p) (typV b p).2;have h3:=zn9 b p;exact⟨h1.1,h1.2,by unfold typQ;omega⟩
theorem zgv {b:Str}{p:Nat} (hb:b.length<=2000) (hp:p<=10000):
  FnD Tryz.prog 105 [.ref 900 0] [(900,some (rdB b p))] (.tup [.d (zah (zaG b p)),.agg [.d (.i (typT b p).data),.d (.i (typT b p).index)],
   .agg [.d (.i (typP b p).op),.d (.i (typP b p).ctor),.d (.i (typP b p).n),.d (.i (typP b p).m),.d (.i (typP b p).var),.d (zax (typP b p).kids)],
   .agg [.d (.i (typV b p).1.ctor),.d (.i (typV b p).1.num),.d (ziH (typV b p).1.kids)]]) [(900,some (rdB b (typQ b p)))]:=by
 have hl:=zeP b p;have hv:=zn9 b p;have ht:=zg2 b p;have hty:=zko (p:=p) hb od;have hsm:=zk5 hb hl.dp.wt hl.few (a:=(typT b p).data) (k:=(typT b p).index) (p:=(typV b p).2) od ht;refine bd Tryz.f105 22 [] [] fun _ _ _ _ hk=>?_;refine ab 3003 tz38 ?_;refine ab 3004 tz60 ?_;refine ab 3005 zgz ?_;apply tv;refine wd zsh hty I I ⟨I,O⟩ ?_;refine ev (ab 3007 tz38 ?_);refine ab 3008 zgz ?_;refine ev (so ty38 ?_);refine so zdB ?_;apply tv;refine wd zsl hsm I I ⟨I,O⟩ ?_;refine evd [] [] (so ty38 ?_);refine so ty60 ?_;refine so zdB ?_;refine dr (rn [(900,some (rdB b (typQ b p)))] (.cons (.tmp I) (.cons (.cellA ty38 I I I) (.cons (.cellA ty60 I I I) (ra zdB)))) (.tup (.cons (.eqd ?_) (.cons (.agg (qee ?_ ?_)) (.cons (.agg (qeeeeee ?_ ?_ ?_ ?_ ?_ ?_)) (.cons (.agg (qeee ?_ ?_ ?_)) .nil))))) ⟨I,I⟩ (SubO.get ⟨.inr ?_,⟨.inl I,O⟩⟩) (zai I));rotate_left 13;all_goals (first|((rfl);done)|(rfl))
def pvQ (b:Str):Nat:=if zaf b (typQ b 0) 10=0 then (zdA b (typQ b 0+1) (zaG b 0).length).2 else typQ b 0+1
def pvT (b:Str):Ty:=if zaf b (typQ b 0) 10=0 then (zdA b (typQ b 0+1) (zaG b 0).length).1 else typT b 0
def pvW (b:Str):List Data:=(mutW b (pvQ b) (zaG b 0)).1
def pvP (b:Str):Pat:=(mutP b (typP b 0) (mutW b (pvQ b) (zaG b 0)).2).1
theorem zs7 (b:Str):pvQ b<=700:=by
 have h1:=(ziN b 0).2.2;have h2:=zqL b (typQ b 0+1) (zaG b 0).length;unfold pvQ;split<;>omega
theorem zpN (b:Str):WSmall (pvW b):=zov b 0 (pvQ b)
theorem zs6 (b:Str):(pvP b).size<=2000/\(pvP b).ok:=by
 have h:=ziN b 0;exact zrJ od h.2.1
theorem zgc {b:Str} (hb:b.length<=1000000000000):
  FnD Tryz.prog 97 [.d (zbY b)] [] (.tup [.d (zah (pvW (b.take 2000))),.agg [.d (.i (pvT (b.take 2000)).data),.d (.i (pvT (b.take 2000)).index)],
   .agg [.d (.i (pvP (b.take 2000)).op),.d (.i (pvP (b.take 2000)).ctor),.d (.i (pvP (b.take 2000)).n),.d (.i (pvP (b.take 2000)).m),.d (.i (pvP (b.take 2000)).var),.d (zax (pvP (b.take 2000)).kids)]]) []:=by
 have hop:=zgt hb;have hb2:(b.take 2000).length<=2000:=by rw[List.length_take];omega
 generalize b.take 2000=e at *;have ho:=zdh e 0;have hpo:=ziN e 0;have hbq:=zs7 e;have hmb:=zrL e (pvQ e) (zaG e 0);have hty:=zgv (p:=0) hb2 od;have hpk:=zaC (p:=typQ e 0) (n:=10) hb2 od od;have hso:=zk1 (p:=typQ e 0+1) (w:=zaG e 0) hb2 od ho.small.len;have hmu:=fun q (h:q=pvQ e)=>zjn (p:=q) hb2 od ho.small ho.one;have hmp:=zjp (q:=(mutW e (pvQ e) (zaG e 0)).2) hb2 od hpo.2.1;have hQ:pvQ e=if zaf e (typQ e 0) 10=0 then (zdA e (typQ e 0+1) (zaG e 0).length).2 else typQ e 0+1:=rfl
 have hT:pvT e=if zaf e (typQ e 0) 10=0 then (zdA e (typQ e 0+1) (zaG e 0).length).1 else typT e 0:=rfl
 have hW:pvW e=(mutW e (pvQ e) (zaG e 0)).1:=rfl;have hP:pvP e=(mutP e (typP e 0) (mutW e (pvQ e) (zaG e 0)).2).1:=rfl;generalize pvQ e=q0 at *;generalize pvT e=t0 at *;generalize pvW e=w1 at *;generalize pvP e=p1 at *;refine bd Tryz.f97 32 [] [] fun _ _ _ _ hk=>?_;refine ab 3003 tz38 ?_;refine ab 3004 tz60 ?_;apply tv;refine Walk.call (cr:=[900]) zqY hop I .none I I (LeL.refl _) O I o7 o7 ?_;refine ev (wd zoU hty I I ⟨I,O⟩ ?_);refine ev (ab 3007 tz38 ?_);refine ab 3008 tz60 ?_;refine ab 3009 zgz ?_;refine ev (so ty38 ?_);refine so ty60 ?_;refine so zdB ?_;apply tv;refine wd zbi hpk I I ⟨I,O⟩ ?_;refine ev ?_;apply sq<;>intro h1 h1p h1s<;>(try simp only[Q] at h1p);rw[if_pos od] at hQ hT;subst hQ;have HMU:=hmu _ rfl;refine wd zsj hso I I ⟨I,O⟩ ?_;refine so ty38 ?_;apply tv;refine wd zoW HMU I I ⟨I,O⟩ ?_;refine evd [] [] (wd zo0 hmp I I ⟨I,O⟩ ?_);refine evd [] [] (so ty38 ?_);refine so ty60 ?_;refine dr (rn0 (.cons (.tmp I) (.cons (.cellA ty38 I I I) (ra ty60))) (.tup (.cons (.eqd ?_) (.cons (.agg (qee ?_ ?_)) (.cons (.agg (qeeeeee ?_ ?_ ?_ ?_ ?_ ?_)) .nil)))));rotate_left 9;rw[if_neg od] at hQ hT;subst hQ;have HMU:=hmu _ rfl;refine wd zoW HMU I I ⟨I,O⟩ ?_;refine evd [] [] (wd zo0 hmp I I ⟨I,O⟩ ?_);refine evd [] [] (so ty38 ?_);refine so ty60 ?_;refine dr (rn0 (.cons (.tmp I) (.cons (.cellA ty38 I I I) (ra ty60))) (.tup (.cons (.eqd ?_) (.cons (.agg (qee ?_ ?_)) (.cons (.agg (qeeeeee ?_ ?_ ?_ ?_ ?_ ?_)) .nil)))));rotate_left 9;all_goals (first|(rw[hT];all_goals rfl)|(rw[hW];all_goals rfl)|(rw[hP];all_goals rfl))
mutual
theorem Val.ok_sz:∀v:Val,v.size<=1000000000000->v.ok
 | .mk a n ks,h=>by
  have h1:1+Vals.size ks<=1000000000000:=h;exact⟨by have:=xbb ks;omega,xbc ks od⟩
theorem xbc:∀l:List Val,Vals.size l<=1000000000000->Vals.ok l
 | [],_=>trivial
 |v::r,h=>by
  have h1:v.size+Vals.size r<=1000000000000:=h;exact⟨Val.ok_sz v od,xbc r od⟩
theorem xbb:∀l:List Val,l.length<=Vals.size l
 | []=>Nat.zero_le _
 |v::r=>by
  have h1:=xbb r;have h2:=xa9 v;show r.length+1<=v.size+Vals.size r
  omega
end
theorem Val.cs_app (a b:List Val):Val.cs (a++b)=Val.cs a++Val.cs b:=by rw[xa8,xa8,xa8,xag]
structure MutOf (b:Str) (p:Nat) (v v':Val) (q:Nat):Prop where
 some_:∃n,mutV b n p v=some (v',q)
 q:q<=3010000
theorem MutOf.size {b:Str}{p:Nat}{v v':Val}{q:Nat} (h:MutOf b p v v' q):v'.size<=v.size+3010000:=by
 obtain⟨n,hn⟩:=h.some_;have:=zkM hn;have:=h.q;omega
theorem zrE {w:List Data}{t:Ty}:isP w t anyP=true:=by
 have e:zab w t anyP=[]:=by unfold zab;rw[if_neg oh,if_neg oh,if_neg oh]
 have ho:ownP w t anyP=true:=by simp[ownP,anyP,Pat.op,Pat.n,Pat.m,Pat.var,Pat.ctor]
 have h:zat w 10 t anyP=true:=by
  show(ownP w t anyP&&all2 _ (zab w t anyP) anyP.kids)=true
  rw[e,ho];rfl
 have h2:anyP.size=1:=ziB.1;have h3:linP w 10 t anyP=true:=by
  unfold linP;rw[e];rfl
 unfold isP;rw[h,h3,h2];rfl
theorem znl (b:Str) (w:List Data) (t:Ty) (q:Nat):isP w t (zcy b w t q)=true:=by
 unfold zcy;split
 ·assumption
 ·exact zrE
def ppI (w:List Data) (t:Ty) (s:Str):Option Pat:=if zbs w t=true then (if rpOk w t s=true then some (rpR w t s).1 else none) else none
def ppV (w:List Data) (t:Ty) (s:Str):Option Pat:=
 if zbs w t=true then
  (if s=[]\/¬(zaq w s 10 t 0).2=(s.length:Int) then none
  else if isP w t (zaq w s 10 t 0).1=false then none
  else if zar w 10 t (zaq w s 10 t 0).1=s then some (zaq w s 10 t 0).1 else none)
 else none
theorem zmY {w:List Data}{t:Ty}{s:Str} (h:rpOk w t s=true):isP w t (rpR w t s).1=true:=by
 unfold rpOk at h;simp only[xad] at h;exact h.2.2
theorem znG {w:List Data}{t:Ty}{p:Pat} (h:isP w t p=true):zat w 10 t p=true:=by
 unfold isP at h;simp only[xad] at h;exact h.1
theorem znT {w:List Data} (hw:WT w) (hN:NmOk w){t:Ty} (ht:TyIn w.length t){p:Pat} (h:isP w t p=true):rpR w t (zar w 10 t p)=(p,⟨[],false⟩)/\rpOk w t (zar w 10 t p)=true:=by
 have h1:=zik hw hN 10 t p [] ht (znG h) zqO;rw[xaq] at h1;have h2:rpR w t (zar w 10 t p)=(p,⟨[],false⟩):=znS w 10 t _ _ _ h1;refine⟨h2, ?_⟩;unfold rpOk;rw[h2,h];rfl
theorem zre {w:List Data} (hs:WSmall w) (t:Ty) (s:Str):ppI w t s=ppV w t s:=by
 unfold ppI ppV;cases htv:zbs w t with
 |false=>rfl
 |true=>
  rw[if_pos rfl,if_pos rfl];obtain⟨wv,ht,_⟩:=zcc htv;have hw:=zbO hs wv;have hA:=zgh hs wv;by_cases h:rpOk w t s=true
  ·obtain⟨r1,r2,r3⟩:=zn1 hA ht h;rw[if_pos h,r3,if_neg (by
    rintro (h1|h1)
    ·exact zs9 r1 h1
    ·exact h1 I),if_neg (by show ¬isP w t (rpR w t s).1=false;rw[zmY h];simp),if_pos (show zar w 10 t (rpR w t s).1=s from r2)]
  ·rw[if_neg h];split
   ·rfl
   split
   ·rfl
   split
   ·rename_i h1 h2 h3;have h4:isP w t (zaq w s 10 t 0).1=true:=by simpa using h2
    have:=(znT hw (zm9 wv) ht h4).2;rw[h3] at this;exact absurd this h
   ·rfl
theorem zrO {w:List Data}{t:Ty} (hs:WSmall w):ppI w t []=none:=by
 rw[zre hs];unfold ppV;split
 ·rw[if_pos (.inl rfl)]
 ·rfl
theorem zqF {w:List Data} (hs:WSmall w){t:Ty} (htv:zbs w t=true){p:Pat} (h:isP w t p=true):ppI w t (zar w 10 t p)=some p:=by
 obtain⟨wv,ht,_⟩:=zcc htv;obtain⟨h1,h2⟩:=znT (zbO hs wv) (zm9 wv) ht h;unfold ppI;rw[if_pos htv,if_pos h2,h1]
theorem zqE {w:List Data} (hs:WSmall w){t:Ty}{s:Str}{p:Pat} (h:ppI w t s=some p):zbs w t=true/\isP w t p=true/\zar w 10 t p=s:=by
 unfold ppI at h;split at h
 ·rename_i htv;split at h
  ·rename_i hr;cases h
   obtain⟨wv,ht,_⟩:=zcc htv;exact⟨htv,zmY hr,(zn1 (zgh hs wv) ht hr).2.1⟩
  ·cases h
 ·cases h
set_option maxHeartbeats 4000000
def zev (b:Str) (p:Nat) (s:Str) (bits:List Str):Str×Nat:=
 if s.length=0 then (s,p) else if zaf b p 2=0 then (s,p+1)
 else (s.take (zaf b (p+1) s.length).toNat++ofV b (p+2) bits++s.drop ((zaf b (p+1) s.length).toNat+(zaf b (p+3) 2).toNat),p+4)
theorem zru {b:Str}{p:Nat}{s:Str}{bits:List Str} (h:s.length=0):zev b p s bits=(s,p):=if_pos h
theorem zrv {b:Str}{p:Nat}{s:Str}{bits:List Str} (h:¬s.length=0) (h2:zaf b p 2=0):zev b p s bits=(s,p+1):=by unfold zev;rw[if_neg h,if_pos h2]
theorem zrw {b:Str}{p:Nat}{s:Str}{bits:List Str} (h:¬s.length=0) (h2:¬zaf b p 2=0):zev b p s bits=(s.take (zaf b (p+1) s.length).toNat++ofV b (p+2) bits++s.drop ((zaf b (p+1) s.length).toNat+(zaf b (p+3) 2).toNat),p+4):=by unfold zev;rw[if_neg h,if_neg h2]
theorem zpJ {b:Str}{p:Nat}{l:List Str}{m:Nat} (h1:1<=l.length) (h:∀x∈l,x.length<=m):(ofV b p l).length<=m:=by
 have:=zbA (b:=b) (p:=p) (n:=(l.length:Int)) od;exact h _ (zao od)
theorem zoS {b:Str}{p:Nat}{s:Str}{bits:List Str} (h1:1<=bits.length) (h:∀x∈bits,x.length<=10):(zev b p s bits).1.length<=s.length+10:=by
 have h2:=zpJ (b:=b) (p:=p+2) h1 h;unfold zev;split
 ·dsimp only;omega
 split
 ·dsimp only;omega
 ·simp only[xaa,List.length_take,List.length_drop];omega
theorem zkT {b:Str}{p:Nat}{s:Str}{bits:List Str} (hb:b.length<=2000) (hp:p<=1000000) (hs:s.length<=1000000000) (h1:1<=bits.length) (h2:bits.length<=1000) (h3:∀x∈bits,x.length<=10):
  FnD Tryz.prog 73 [.ref 900 0,.d (.str s),.d (zcJ bits)] [(900,some (rdB b p))] (.d (.str (zev b p s bits).1)) [(900,some (rdB b (zev b p s bits).2))]:=by
 have h5:=zpJ (b:=b) (p:=p+2) h1 h3;have v1:=fun h=>zbA (b:=b) (p:=p+1) (n:=(s.length:Int)) h;have v3:=zbA (b:=b) (p:=p+3) (n:=2) od;have q0:=fun h=>zru (b:=b) (p:=p) (s:=s) (bits:=bits) h;have q1:=fun h h2=>zrv (b:=b) (p:=p) (s:=s) (bits:=bits) h h2;have q2:=fun h h2=>zrw (b:=b) (p:=p) (s:=s) (bits:=bits) h h2;generalize zev b p s bits=z at *;have hk1:=zaC (p:=p) (n:=2) hb od od;have hk2:=zaC (p:=p+1) (n:=(s.length:Int)) hb od od;have hk4:=zaC (p:=p+3) (n:=2) hb od od;have hof:=zhw (p:=p+2) (l:=bits) hb od h1 h2;generalize zaf b p 2=k1 at *;generalize zaf b (p+1) (s.length:Int)=k2 at *;generalize zaf b (p+3) 2=k4 at *;generalize ofV b (p+2) bits=o at *;refine bd Tryz.f73 35 [27,34] [] fun _ _ _ _ hk=>?_;apply sq<;>intro h1 h1p h1s<;>(try simp only[Q,xal] at h1p);refine sqT ?_;refine rn [(900,some (rdB b z.2))] (r1 I) (.eqd ?_) ⟨I,I⟩ (SubO.get ⟨.inr ?_,⟨.inl I,O⟩⟩) (zai I);rotate_left 2;refine Walk.call (cr:=[]) zbi hk1 I (.some I I h1) I I (LeL.refl _) ⟨I,O⟩ I I I (evs [27,34] [(11,false)] ?_ ⟨⟨_,I,h1⟩,O⟩);apply sq<;>intro h3 h3p h3s<;>(try simp only[Q,xal] at h3p);refine rn [(900,some (rdB b z.2))] (r1 I) (.eqd ?_) ⟨I,I⟩ (SubO.get ⟨.inr ?_,⟨.inl I,O⟩⟩) (zai I);rotate_left 2;refine wd zbi hk2 I I ⟨I,O⟩ ?_;refine evs [27,34] [] (xbv (b:=k2.toNat) un9 .none I I I (by have:=v1 od;omega) (by have:=v1 od;omega) ?_);refine evd [27,34] [] (wd zmc hof I I ⟨I,O⟩ ?_);refine xbs .none I I I oq ?_;refine evd [27,34] [] (wd zbi hk4 I I ⟨I,O⟩ ?_);refine evd [27,34] [] (ar ?_ (by have:=v1 od;constructor<;>omega));refine xbw (b:=k2.toNat+k4.toNat) un9 .none I I I (by have:=v1 od;omega) (by have:=v1 od;omega) ?_;refine xbs .none I I I oq ?_;refine evd [27,34] [] (dr (rn [(900,some (rdB b z.2))] (r1 I) (.eqd ?_) ⟨I,I⟩ (SubO.get ⟨.inr ?_,⟨.inl I,O⟩⟩) (zai I)));rotate_left 2;all_goals (first|((first|(rw[q0 od];all_goals rfl)|(rw[q1 od od];all_goals rfl)|(rw[q2 od od];all_goals rfl));done)|(first|(rw[q0 od];all_goals rfl)|(rw[q1 od od];all_goals rfl)|(rw[q2 od od];all_goals rfl)))
theorem zfQ {w:List Data}{a k:Int}{p:Pat} (h:isP w ⟨a,k⟩ p=true):zat w 10 ⟨a,k⟩ p=true/\p.size<=10000000:=by
 have h2:p.size<=60:=by
  unfold isP at h;simp only[xad,xah] at h;omega
 exact⟨znG h,by omega⟩
theorem zd9 {w:List Data}{a k:Int}{p:Pat}:zb2 w a k p=(zbs w ⟨a,k⟩&&isP w ⟨a,k⟩ p):=rfl
def fpV (w:List Data) (a k:Int) (p:Pat):Str:=if zb2 w a k p=true then zar w 10 ⟨a,k⟩ p else []
theorem zgQ {w:List Data}{a k:Int}{p:Pat} (h:zb2 w a k p=true):fpV w a k p=zar w 10 ⟨a,k⟩ p:=if_pos h
theorem zjS {w:List Data}{a k:Int}{p:Pat} (h:zb2 w a k p=false):fpV w a k p=[]:=if_neg (by rw[h];simp)
theorem zs1 {w:List Data} (hs:WSmall w){a k:Int}{p:Pat}:ppI w ⟨a,k⟩ (fpV w a k p)=if zb2 w a k p=true then some p else none:=by
 cases h:zb2 w a k p with
 |false=>rw[zjS h,zrO hs,if_neg oe]
 |true=>
  rw[zgQ h,if_pos rfl];rw[zd9,xad] at h;exact zqF hs h.1 h.2
theorem zs2 {w:List Data} (hs:WSmall w){t:Ty}{s:Str}{p:Pat} (h:ppI w t s=some p):p.ok:=by
 unfold ppI at h;split at h
 ·rename_i htv;split at h
  ·cases h
   obtain⟨wv,ht,_⟩:=zcc htv;exact(zkP (zgh hs wv) 10 (t:=t) ⟨s,false⟩ ht).1
  ·cases h
 ·cases h
theorem zqT:zbq.ok:=by rw[xaU];exact⟨by simp[zbq,Pat.kids],trivial⟩
theorem zni {w:List Data} (hs:WSmall w){t:Ty}{s:Str}:((ppI w t s).getD zbq).ok:=by
 cases h:ppI w t s with
 |none=>exact zqT
 |some p=>exact zs2 hs h
theorem zej {w:List Data} (hs:WSmall w){a k:Int}{p:Pat} (hok:p.ok):FnD Tryz.prog 35 [.d (zah w),.agg [.d (.i a),.d (.i k)],.agg [.d (.i p.op),.d (.i p.ctor),.d (.i p.n),.d (.i p.m),.d (.i p.var),.d (zax p.kids)]] [] (.d (.str (fpV w a k p))) []:=by
 have hv:=zeA hs (a:=a) (k:=k) hok;cases h:zb2 w a k p with
 |false=>
  rw[h] at hv;rw[zjS h];refine bd Tryz.f35 16 [] [] fun _ _ _ _ hk=>?_;refine bx 3004 ?_;refine bx 3005 ?_;refine ev (wc zlW hv I I ?_);refine ev ?_;apply sq<;>intro h1 h1p h1s<;>(try simp only[Q] at h1p);focus (refine rq ?_;all_goals (first|rfl|(simp[h1s,h1p];done)|(simp_all;done)|(simp_all;omega)|omega))
  exfalso;simp at *
 |true=>
  rw[h] at hv;rw[zgQ h];have h2:=h;rw[zd9,xad] at h2;obtain⟨wv,ht,_⟩:=zcc h2.1;obtain⟨p1,p2⟩:=zfQ h2.2;have htx:=zeR (zbO hs wv) (zdS wv) 10 p1 ht hok p2;refine bd Tryz.f35 16 [] [] fun _ _ _ _ hk=>?_;refine bx 3004 ?_;refine bx 3005 ?_;refine ev (wc zlW hv I I ?_);refine ev ?_;apply sq<;>intro h1 h1p h1s<;>(try simp only[Q] at h1p);exfalso;simp at *;refine wc zog htx I I ?_;refine ev ?_;focus (refine rq ?_;all_goals (first|rfl|(simp[h1s,h1p];done)|(simp_all;done)|(simp_all;omega)|omega))
theorem zgW {w:List Data} (hs:WSmall w){a k:Int}{p:Pat} (hok:p.ok) (hz:p.size<=1000000000000):FnD Tryz.prog 37 [.d (zah w),.agg [.d (.i a),.d (.i k)],.agg [.d (.i p.op),.d (.i p.ctor),.d (.i p.n),.d (.i p.m),.d (.i p.var),.d (zax p.kids)]] [] (.d (.str (fpV w a k p))) []:=by
 have hv:=zeG hs (a:=a) (k:=k) hok hz;cases h:zb2 w a k p with
 |false=>
  rw[h] at hv;rw[zjS h];refine bd Tryz.f37 16 [] [] fun _ _ _ _ hk=>?_;refine bx 3004 ?_;refine bx 3005 ?_;refine ev (wc ziC hv I I ?_);refine ev ?_;apply sq<;>intro h1 h1p h1s<;>(try simp only[Q] at h1p);focus (refine rq ?_;all_goals (first|rfl|(simp[h1s,h1p];done)|(simp_all;done)|(simp_all;omega)|omega))
  exfalso;simp at *
 |true=>
  rw[h] at hv;rw[zgQ h];have h2:=h;rw[zd9,xad] at h2;obtain⟨wv,ht,_⟩:=zcc h2.1;obtain⟨p1,p2⟩:=zfQ h2.2;have htx:=zd3 (zbO hs wv) (zdS wv) 10 p1 ht hok p2;refine bd Tryz.f37 16 [] [] fun _ _ _ _ hk=>?_;refine bx 3004 ?_;refine bx 3005 ?_;refine ev (wc ziC hv I I ?_);refine ev ?_;apply sq<;>intro h1 h1p h1s<;>(try simp only[Q] at h1p);exfalso;simp at *;refine wc zfa htx I I ?_;refine ev ?_;focus (refine rq ?_;all_goals (first|rfl|(simp[h1s,h1p];done)|(simp_all;done)|(simp_all;omega)|omega))
theorem zez {w:List Data} (hs:WSmall w){a k:Int}{s:Str} (hsl:s.length<=1000000000000):
  FnD Tryz.prog 36 [.d (zah w),.agg [.d (.i a),.d (.i k)],.d (.str s)] [] (.tup [.agg [.d (.i ((ppI w ⟨a,k⟩ s).getD zbq).op),.d (.i ((ppI w ⟨a,k⟩ s).getD zbq).ctor),.d (.i ((ppI w ⟨a,k⟩ s).getD zbq).n),.d (.i ((ppI w ⟨a,k⟩ s).getD zbq).m),.d (.i ((ppI w ⟨a,k⟩ s).getD zbq).var),.d (zax ((ppI w ⟨a,k⟩ s).getD zbq).kids)],.d (.bool (ppI w ⟨a,k⟩ s).isSome)]) []:=by
 have h0:=zfq hs (a:=a) (b:=k);cases htv:zbs w ⟨a,k⟩ with
 |false=>
  rw[htv] at h0;have e:ppI w ⟨a,k⟩ s=none:=by unfold ppI;rw[if_neg (by rw[htv];simp)]
  rw[e];refine bd Tryz.f36 26 [] [] fun _ _ _ _ hk=>?_;refine bx 3004 ?_;refine ab 3006 tz60 ?_;refine ev (wc zof h0 I I ?_);refine ev ?_;apply sq<;>intro h1 h1p h1s<;>(try simp only[Q] at h1p);refine bu [] [] st60 ?_;refine so ty60 ?_;refine ev (rn0 (rc ty60) (.tup (.cons (.agg (qeeeeen ?_ ?_ ?_ ?_ ?_ ?_)) (qe ?_))));rotate_left 7;exfalso;simp at *;all_goals (rfl)
 |true=>
  rw[htv] at h0;obtain⟨wv,ht,_⟩:=zcc htv;have hr:=zhG (zbO hs wv) (zgh hs wv) ht hsl;have e1:rpOk w ⟨a,k⟩ s=true->ppI w ⟨a,k⟩ s=some (rpR w ⟨a,k⟩ s).1:=fun h=>by unfold ppI;rw[if_pos htv,if_pos h]
  have e0:rpOk w ⟨a,k⟩ s=false->ppI w ⟨a,k⟩ s=none:=fun h=>by unfold ppI;rw[if_pos htv,if_neg (by rw[h];simp)]
  generalize ppI w ⟨a,k⟩ s=z at *;generalize (rpR w ⟨a,k⟩ s).1=q at *;generalize rpOk w ⟨a,k⟩ s=o at *;refine bd Tryz.f36 26 [] [] fun _ _ _ _ hk=>?_;refine bx 3004 ?_;refine ab 3006 tz60 ?_;refine ev (wc zof h0 I I ?_);refine ev ?_;apply sq<;>intro h1 h1p h1s<;>(try simp only[Q] at h1p);exfalso;simp at *;refine wc zti hr I I ?_;refine ev (ab 3008 tz60 ?_);refine so ty60 ?_;refine ev ?_;apply sq<;>intro h2 h2p h2s<;>(try simp only[Q] at h2p);refine bu [] [] st60 ?_;refine so ty60 ?_;refine ev (rn0 (rc ty60) (.tup (.cons (.agg (qeeeeen ?_ ?_ ?_ ?_ ?_ ?_)) (qe ?_))));rotate_left 7;refine so ty60 ?_;refine ev (rn0 (rc ty60) (.tup (.cons (.agg (qeeeeee ?_ ?_ ?_ ?_ ?_ ?_)) (qe ?_))));rotate_left 7;all_goals (first|(rw[e0 ol];all_goals rfl)|(rw[e1 ol];all_goals rfl))
theorem zhv {w:List Data} (hs:WSmall w){a k:Int}{s:Str} (hsl:s.length<=1048576):
  FnD Tryz.prog 42 [.d (zah w),.agg [.d (.i a),.d (.i k)],.d (.str s)] [] (.tup [.agg [.d (.i ((ppI w ⟨a,k⟩ s).getD zbq).op),.d (.i ((ppI w ⟨a,k⟩ s).getD zbq).ctor),.d (.i ((ppI w ⟨a,k⟩ s).getD zbq).n),.d (.i ((ppI w ⟨a,k⟩ s).getD zbq).m),.d (.i ((ppI w ⟨a,k⟩ s).getD zbq).var),.d (zax ((ppI w ⟨a,k⟩ s).getD zbq).kids)],.d (.bool (ppI w ⟨a,k⟩ s).isSome)]) []:=by
 have h0:=zgd hs (a:=a) (b:=k);rw[zre hs];cases htv:zbs w ⟨a,k⟩ with
 |false=>
  rw[htv] at h0;have e:ppV w ⟨a,k⟩ s=none:=by unfold ppV;rw[if_neg (by rw[htv];simp)]
  rw[e];refine bd Tryz.f42 47 [] [] fun _ _ _ _ hk=>?_;refine bx 3004 ?_;refine ab 3006 tz60 ?_;refine ev (wc zma h0 I I ?_);refine ev ?_;apply sq<;>intro h1 h1p h1s<;>(try simp only[Q] at h1p);refine bu [] [] st60 ?_;refine so ty60 ?_;refine ev (rn0 (rc ty60) (.tup (.cons (.agg (qeeeeen ?_ ?_ ?_ ?_ ?_ ?_)) (qe ?_))));rotate_left 7;exfalso;simp at *;all_goals (rfl)
 |true=>
  rw[htv] at h0;obtain⟨wv,ht,_⟩:=zcc htv;have hA:=zgh hs wv;have hps:=zgu (zbO hs wv) hA (s:=s) od 10 od ht (b:=0) ⟨by omega,by omega⟩;obtain⟨p1,p2⟩:=zlx (s:=s) hA 10 (t:=⟨a,k⟩) 0 ht;have p2':(zaq w s 10 ⟨a,k⟩ 0).1.size<=1000000000000:=Nat.le_trans p2 oh;have his:=zge (zbO hs wv) ht p1 p2';have htx:=fun(h:isP w ⟨a,k⟩ (zaq w s 10 ⟨a,k⟩ 0).1=true)=>zd3 (zbO hs wv) (zdS wv) 10 (zfQ h).1 ht p1 (zfQ h).2;have e0:(s=[]\/¬(zaq w s 10 ⟨a,k⟩ 0).2=(s.length:Int)\/isP w ⟨a,k⟩ (zaq w s 10 ⟨a,k⟩ 0).1=false\/¬zar w 10 ⟨a,k⟩ (zaq w s 10 ⟨a,k⟩ 0).1=s)->ppV w ⟨a,k⟩ s=none:=fun h=>by
   unfold ppV;rw[if_pos htv];by_cases c1:s=[]\/¬(zaq w s 10 ⟨a,k⟩ 0).2=(s.length:Int)
   ·rw[if_pos c1]
   rw[if_neg c1];by_cases c2:isP w ⟨a,k⟩ (zaq w s 10 ⟨a,k⟩ 0).1=false
   ·rw[if_pos c2]
   rw[if_neg c2];rcases h with h|h|h|h
   ·exact absurd (.inl h) c1
   ·exact absurd (.inr h) c1
   ·exact absurd h c2
   ·rw[if_neg h]
  have e1:¬s=[]->(zaq w s 10 ⟨a,k⟩ 0).2=(s.length:Int)->isP w ⟨a,k⟩ (zaq w s 10 ⟨a,k⟩ 0).1=true->zar w 10 ⟨a,k⟩ (zaq w s 10 ⟨a,k⟩ 0).1=s->ppV w ⟨a,k⟩ s=some (zaq w s 10 ⟨a,k⟩ 0).1:=fun h1 h2 h3 h4=>by
   unfold ppV;rw[if_pos htv,if_neg (by rintro (h|h);exact h1 h;exact h h2),if_neg (by rw[h3];simp),if_pos h4]
  generalize ppV w ⟨a,k⟩ s=z at *;generalize zaq w s 10 ⟨a,k⟩ 0=y at *;refine bd Tryz.f42 47 [] [] fun _ _ _ _ hk=>?_;refine bx 3004 ?_;refine ab 3006 tz60 ?_;refine ev (wc zma h0 I I ?_);refine ev ?_;apply sq<;>intro h1 h1p h1s<;>(try simp only[Q,xal] at h1p);exfalso;simp at *;refine wc zoV hps I I ?_;refine ev (ab 3008 tz60 ?_);refine so ty60 ?_;refine ev ?_;apply sq<;>intro h2 h2p h2s<;>(try simp only[Q,xal] at h2p);refine sqT ?_;refine sqT ?_;refine sqT ?_;refine bu [] [] st60 ?_;refine so ty60 ?_;refine ev (rn0 (rc ty60) (.tup (.cons (.agg (qeeeeen ?_ ?_ ?_ ?_ ?_ ?_)) (qe ?_))));rotate_left 7;apply sq<;>intro h4 h4p h4s<;>(try simp only[Q,xal] at h4p);refine sqT ?_;refine sqT ?_;refine bu [] [] st60 ?_;refine so ty60 ?_;refine ev (rn0 (rc ty60) (.tup (.cons (.agg (qeeeeen ?_ ?_ ?_ ?_ ?_ ?_)) (qe ?_))));rotate_left 7;refine Walk.call (cr:=[]) zmb his I (.some I I h4) I I (LeL.refl _) O I I I (evs [] [(30,false)] ?_ ⟨⟨_,I,h4⟩,O⟩);apply sq<;>intro h6 h6p h6s<;>(try simp only[Q,xal] at h6p);refine sqT ?_;refine bu [] [] st60 ?_;refine so ty60 ?_;refine ev (rn0 (rc ty60) (.tup (.cons (.agg (qeeeeen ?_ ?_ ?_ ?_ ?_ ?_)) (qe ?_))));rotate_left 7;refine Walk.call (cr:=[]) zfa (htx ol) I (.some I I h6) I I (LeL.refl _) O I I I ?_;refine evs [] [(37,false)] ?_ ⟨⟨_,I,h6⟩,O⟩;apply sq<;>intro h8 h8p h8s<;>(try simp only[Q,xal] at h8p);refine bu [] [] st60 ?_;refine so ty60 ?_;refine ev (rn0 (rc ty60) (.tup (.cons (.agg (qeeeeen ?_ ?_ ?_ ?_ ?_ ?_)) (qe ?_))));rotate_left 7;refine so ty60 ?_;refine ev (rn0 (rc ty60) (.tup (.cons (.agg (qeeeeee ?_ ?_ ?_ ?_ ?_ ?_)) (qe ?_))));rotate_left 7;all_goals (first|(rw[e0 (by first|exact .inl ol|exact .inr (.inl ol)|exact .inr (.inr (.inl ol))|exact .inr (.inr (.inr ol)))];all_goals rfl)|(rw[e1 ol ol ol ol];all_goals rfl))
theorem zfH {b:Str} (hb:b.length<=1000000000000):
  FnD Tryz.prog 34 [.d (zbY b)] [] (.tup [.d (zah (pvW (b.take 2000))),.agg [.d (.i (pvT (b.take 2000)).data),.d (.i (pvT (b.take 2000)).index)],
   .agg [.d (.i (pvP (b.take 2000)).op),.d (.i (pvP (b.take 2000)).ctor),.d (.i (pvP (b.take 2000)).n),.d (.i (pvP (b.take 2000)).m),.d (.i (pvP (b.take 2000)).var),.d (zax (pvP (b.take 2000)).kids)]]) []:=by
 have hd:=zgc hb;refine bd Tryz.f34 10 [] [] fun _ _ _ _ hk=>?_;refine ab 3003 tz38 ?_;refine ab 3004 tz60 ?_;apply tv;refine wc zth hd I I ?_;refine ev (so ty38 ?_);refine so ty60 ?_;apply tv;focus (refine rn0 (.cons (.tmp I) (.cons (.cellA ty38 I I I) (ra ty60))) (.tup (.cons (.eqd ?_) (.cons (.agg (qee ?_ ?_)) (.cons (.agg (qeeeeee ?_ ?_ ?_ ?_ ?_ ?_)) .nil))));all_goals (first|rfl|(simp[];done)|(simp_all;done)|(simp_all;omega)|omega))
theorem zqr (b:Str) (p:Nat):isP (zaG b p) (typT b p) (typP b p)=true:=znl _ _ _ _
theorem zqb (b:Str) (p:Nat):zaP (zaG b p)=true:=(zdh b p).valid
theorem zgb {b:Str} (hb:b.length<=1000000000000):∃s:Str,s.length<=100000/\
  FnD Tryz.prog 41 [.d (zbY b)] [] (.tup [.d (zah (zaG (b.take 2000) 0)),.agg [.d (.i (typT (b.take 2000) 0).data),.d (.i (typT (b.take 2000) 0).index)],.d (.str s)]) []:=by
 have hop:=zgt hb;have hb2:(b.take 2000).length<=2000:=by rw[List.length_take];omega
 generalize b.take 2000=e at *;have ho:=zdh e 0;have wv:=zqb e 0;have hpo:=ziN e 0;have hty:=zgv (p:=0) hb2 od;obtain⟨p1,p2⟩:=zfQ (zqr e 0);have hw:=zbO ho.small wv;have htx:=zd3 hw (zdS wv) 10 (a:=(typT e 0).data) (k:=(typT e 0).index) p1 (zg2 e 0) hpo.2.1 p2;have hlt:(zar (zaG e 0) 10 (typT e 0) (typP e 0)).length<=10*(typP e 0).size:=zeq hw (zdS wv) 10 (a:=(typT e 0).data) (k:=(typT e 0).index) p1 (zg2 e 0);have hbe:=zkT (b:=e) (p:=typQ e 0) (s:=zar (zaG e 0) 10 (typT e 0) (typP e 0)) (bits:=[[],[40],[41],[124],[95],[97],[64],[49,45],[78,105,108]]) hb2 od od oh oh oh;have hbl:=zoS (b:=e) (p:=typQ e 0) (s:=zar (zaG e 0) 10 (typT e 0) (typP e 0)) (bits:=[[],[40],[41],[124],[95],[97],[64],[49,45],[78,105,108]]) oh oh;refine⟨_,Nat.le_trans hbl od, ?_⟩;generalize zev e (typQ e 0) (zar (zaG e 0) 10 (typT e 0) (typP e 0)) [[],[40],[41],[124],[95],[97],[64],[49,45],[78,105,108]]=z at *;rw[show zar (zaG e 0) 10 (typT e 0) (typP e 0)=zar (zaG e 0) 10 ⟨(typT e 0).data,(typT e 0).index⟩ (typP e 0) from rfl] at *;generalize zar (zaG e 0) 10 ⟨(typT e 0).data,(typT e 0).index⟩ (typP e 0)=s0 at *;refine bd Tryz.f41 28 [] [] fun _ _ _ _ hk=>?_;refine ab 3003 tz38 ?_;refine ev (Walk.call (cr:=[900]) zqY hop I .none I I (LeL.refl _) O I om og ?_);refine ev (wd zoU hty I I ⟨I,O⟩ ?_);refine ev (ab 3007 tz38 ?_);refine ab 3008 tz60 ?_;refine ab 3009 zgz ?_;refine ev (so ty38 ?_);refine so ty60 ?_;refine so zdB ?_;apply tv;refine wc zfa htx I I ?_;refine si [0,1,2,3,4,5,6,7,8] [_,_,_,_,_,_,_,_,_] sl84 tz9 ?_;refine wd ztg hbe I I ⟨I,O⟩ ?_;refine evd [] [] (so ty38 ?_);refine evd [] [] (dr ?_);focus (refine rn0 (.cons (.tmp I) (rc ty38)) (.tup (.cons (.eqd ?_) (.cons (.agg (qee ?_ ?_)) (qe ?_))));all_goals (first|rfl|(simp[];done)|(simp_all;done)|(simp_all;omega)|omega))
set_option maxHeartbeats 2000000
theorem zfG {xs:List Pat}{f:Nat} (hs:xs.length<=1000000000000) (hcal:Callee Tryz.prog f)
  (hf:∀p∈xs,FnD Tryz.prog f [.agg [.d (.i p.op),.d (.i p.ctor),.d (.i p.n),.d (.i p.m),.d (.i p.var),.d (zax p.kids)],.agg [.d (.i p.op),.d (.i p.ctor),.d (.i p.n),.d (.i p.m),.d (.i p.var),.d (zax p.kids)]] [] (.d (.bool true)) []):
  FnD Tryz.prog 104 [.d (zax xs),.d (zax xs),.fn f []] [] (.d (.bool true)) []:=by
 refine bd Tryz.f104 32 [] [] fun _ _ _ _ hk=>?_;apply sq<;>intro h1 h1p h1s<;>(try simp only[Q,xaS] at h1p);exfalso;simp at h1;refine xaA (ι:=List (Pat)×List (Pat)) hk (fun x=>[(17,.d (.i (x.1.length:Int)))]) [6,7,8,9,18,19,20,21,22,23,24,25,26,27,28,29,30,31] (fun x=>[]) (fun x=>x.1++x.2=xs) (fun x=>x.2.length) ([],xs) oe ⟨⟨_,I,xaK ?_⟩,O⟩ O (fun x=>rfl) (fun x hg1=>?_);focus ((simp_all;done))
 obtain⟨pre,rest⟩:=x;dsimp only at hg1 ⊢;refine evc [] [] ?_;apply sq<;>intro h2 h2p h2s<;>(try simp only[Q,xaS] at h2p);rcases rest with _|⟨y,rest⟩
 ·exfalso;simp_all
 refine ixq sl58 I I I (xaO hg1) I (ev (ab 3008 tz60 ?_));refine ev (so ty60 ?_);apply tv;refine ixq sl58 I I I (xaO hg1) I (ev (ab 3009 tz60 ?_));refine so ty60 ?_;apply tv;refine xbq (cr:=[]) hcal (hf y (by rw[<-hg1];simp)) I .none I I I (LeL.refl _) O I I I ?_;refine ev ?_;apply sq<;>intro h3 h3p h3s<;>(try simp only[Q,xaS] at h3p);exfalso;simp at h3;refine ar (xaj ((pre++[y],rest)) ⟨(by have hz:=hg1;rw[<-hz];simp),oe,sx ⟨⟨_,I,xaK ?_⟩,O⟩ O⟩);focus ((simp_all;done))
 have hrest:rest=[]:=by
  rcases rest with _|⟨a,b⟩
  ·rfl
  ·exfalso;have hz:=xam List.length (hg1);simp only[xaa,xab,xac] at hz;omega
 subst hrest;refine rq ?_;rotate_left;all_goals (rfl)
theorem zc8:∀(n:Nat){p:Pat},p.size<=n->p.ok->FnD Tryz.prog 40 [.agg [.d (.i p.op),.d (.i p.ctor),.d (.i p.n),.d (.i p.m),.d (.i p.var),.d (zax p.kids)],.agg [.d (.i p.op),.d (.i p.ctor),.d (.i p.n),.d (.i p.m),.d (.i p.var),.d (zax p.kids)]] [] (.d (.bool true)) []
 |0,p,h,_=>by rw[xaV] at h;omega
 |n+1,p,h,hok=>by
  rw[xaV] at h;rw[xaU] at hok;refine bd Tryz.f40 45 [] [] fun _ _ _ _ hk=>?_;refine bx 3002 ?_;refine bx 3003 ?_;refine ev ?_;apply sq<;>intro h1 h1p h1s<;>(try simp only[Q] at h1p);apply sq<;>intro h2 h2p h2s<;>(try simp only[Q] at h2p);apply sq<;>intro h3 h3p h3s<;>(try simp only[Q] at h3p);apply sq<;>intro h4 h4p h4s<;>(try simp only[Q] at h4p);apply sq<;>intro h5 h5p h5s<;>(try simp only[Q] at h5p);refine Walk.call (cr:=[]) zr5 (zfG hok.1 zjH (fun x hx=>zc8 n (by have:=xaY hx;omega) (xaX hok.2 x hx))) I (.some I I h5) I I (LeL.refl _) O I I I ?_;refine evs [] [(38,true)] ?_ ⟨⟨_,I,h5⟩,O⟩;focus (refine rq ?_;all_goals ((simp_all;done)))
  focus (refine rq ?_;all_goals ((simp_all;done)))
  refine sqF ?_;focus (refine rq ?_;all_goals ((simp_all;done)))
  refine sqF ?_;refine sqF ?_;focus (refine rq ?_;all_goals ((simp_all;done)))
  refine sqF ?_;refine sqF ?_;refine sqF ?_;focus (refine rq ?_;all_goals ((simp_all;done)))
  refine sqF ?_;refine sqF ?_;refine sqF ?_;refine sqF ?_;focus (refine rq ?_;all_goals ((simp_all;done)))
set_option maxHeartbeats 4000000
theorem zgS {b c:Str} (hb:b.length<=1000000000000) (hc:c.length<=1000000000000):FnD Tryz.prog 6 [.d (zbY b),.d (zbY c)] [] (.d (.bool true)) []:=by
 have hd1:=zfH hb;obtain⟨tx,htl,hd2⟩:=zgb hc;have hw1:=zpN (b.take 2000);have hw2:=(zdh (c.take 2000) 0).small;have hp:=zs6 (b.take 2000);generalize pvW (b.take 2000)=w1 at *;generalize pvT (b.take 2000)=t1 at *;generalize pvP (b.take 2000)=p1 at *;generalize zaG (c.take 2000) 0=w2 at *;generalize typT (c.take 2000) 0=t2 at *;have f1:=zej hw1 (a:=t1.data) (k:=t1.index) hp.2;have f2:=zgW hw1 (a:=t1.data) (k:=t1.index) hp.2 od;have f3:=zeA hw1 (a:=t1.data) (k:=t1.index) hp.2;have f4:=zeG hw1 (a:=t1.data) (k:=t1.index) hp.2 od;have hfl:(fpV w1 t1.data t1.index p1).length<=1000000000000:=by
  cases h:zb2 w1 t1.data t1.index p1 with
  |false=>rw[zjS h];simp
  |true=>
   rw[zgQ h];rw[zd9,xad] at h;obtain⟨wv,ht,_⟩:=zcc h.1;obtain⟨q1,q2⟩:=zfQ h.2;have:=zeq (zbO hw1 wv) (zdS wv) 10 (a:=t1.data) (k:=t1.index) q1 ht;have h3:(zar w1 10 ⟨t1.data,t1.index⟩ p1).length<=10*p1.size:=this;omega
 have f5:=zez hw1 (a:=t1.data) (k:=t1.index) hfl;rw[zs1 hw1] at f5;have f6:=zc8 p1.size (Nat.le_refl _) hp.2;have g1:=zez hw2 (a:=t2.data) (k:=t2.index) (s:=tx) od;have g2:=zhv hw2 (a:=t2.data) (k:=t2.index) (s:=tx) od;have hqk:=zni hw2 (t:=⟨t2.data,t2.index⟩) (s:=tx);have g3:=zc8 _ (Nat.le_refl _) hqk;have g4:=zej hw2 (a:=t2.data) (k:=t2.index) hqk;have hfin:(ppI w2 ⟨t2.data,t2.index⟩ tx).isSome=true->fpV w2 t2.data t2.index ((ppI w2 ⟨t2.data,t2.index⟩ tx).getD zbq)=tx:=fun h=>by
  obtain⟨q,hq⟩:=Option.isSome_iff_exists.1 h;obtain⟨h1,h2,h3⟩:=zqE hw2 hq;rw[hq];show fpV w2 t2.data t2.index q=tx
  rw[zgQ (by rw[zd9,h1,h2];rfl),h3]
 generalize (ppI w2 ⟨t2.data,t2.index⟩ tx).getD zbq=q2 at *;generalize (ppI w2 ⟨t2.data,t2.index⟩ tx).isSome=o2 at *;generalize fpV w1 t1.data t1.index p1=s1 at *;have hbl:((b.map zg8).length:Int)=b.length:=by simp
 have hcl:((c.map zg8).length:Int)=c.length:=by simp
 cases hv:zb2 w1 t1.data t1.index p1 with
 |false=>
  rw[hv] at f3 f4;rw[hv,if_neg oe] at f5;refine bd Tryz.f6 117 [58,66,99] [] fun _ _ _ _ hk=>?_;apply sq<;>intro h1 h1p h1s<;>(try simp only[Q,xal] at h1p);refine sqT ?_;refine rq ?_;rotate_left;apply sq<;>intro h3 h3p h3s<;>(try simp only[Q,xal] at h3p);refine rq ?_;rotate_left;refine wc zqV hd1 I I ?_;refine evs [58,66,99] [] (ab 3006 tz38 ?_);refine ab 3007 tz60 ?_;refine evs [58,66,99] [] (so ty38 ?_);refine so ty60 ?_;apply tv;refine wc zjF f1 I I ?_;refine evs [58,66,99] [] (wc zjG f5 I I ?_);refine evs [58,66,99] [] (ab 3009 tz60 ?_);refine so ty60 ?_;refine evs [58,66,99] [] (wc zqW f2 I I ?_);refine evd [58,66,99] [] ?_;apply sq<;>intro h4 h4p h4s<;>(try simp only[Q,xal] at h4p);refine sqT ?_;refine sqT ?_;refine dr (sqT ?_);refine rq ?_;rotate_left;refine Walk.call (cr:=[]) zlW f3 I (.some I I h4) I I (LeL.refl _) O I I I (evd [58,66,99] [(49,false)] ?_ ⟨⟨_,I,h4⟩,O⟩);refine Walk.call (cr:=[]) ziC f4 I (.some I I h4) I I (LeL.refl _) O I I I (xbJ un4 (.some I I h4) I I I (evd [58,66,99] [(49,false)] ?_ ⟨⟨_,I,h4⟩,O⟩));apply sq<;>intro h6 h6p h6s<;>(try simp only[Q,xal] at h6p);refine sqT ?_;refine dr (sqT ?_);refine rq ?_;rotate_left;refine Walk.call (cr:=[]) ziC f4 I (.some I I h6) I I (LeL.refl _) O I I I (xbJ un4 (.some I I h6) I I I (evd [58,66,99] [(60,false)] ?_ ⟨⟨_,I,h6⟩,O⟩));apply sq<;>intro h8 h8p h8s<;>(try simp only[Q,xal] at h8p);refine dr (sqT ?_);refine rq ?_;rotate_left;apply sq<;>intro h10 h10p h10s<;>(try simp only[Q,xal] at h10p);exfalso;simp_all;refine dr (sqF ?_);refine wc zod hd2 I I ?_;refine evs [58,66,99] [] (ab 3012 tz38 ?_);refine evs [58,66,99] [] (so ty38 ?_);refine evs [58,66,99] [] (wc zjG g1 I I ?_);refine evs [58,66,99] [] (ab 3014 tz60 ?_);refine so ty60 ?_;refine evs [58,66,99] [] (wc zoe g2 I I ?_);refine evs [58,66,99] [] (ab 3016 tz60 ?_);refine so ty60 ?_;refine evs [58,66,99] [] (Walk.eqB un4 .none I I I (evs [58,66,99] [] ?_));apply sq<;>intro h12 h12p h12s<;>(try simp only[Q,xal] at h12p);refine Walk.call (cr:=[]) zjH g3 I (.some I I h12) I I (LeL.refl _) O I I I (evs [58,66,99] [(100,true)] ?_ ⟨⟨_,I,h12⟩,O⟩);apply sq<;>intro h13 h13p h13s<;>(try simp only[Q,xal] at h13p);apply sq<;>intro h14 h14p h14s<;>(try simp only[Q,xal] at h14p);refine rq ?_;rotate_left;refine Walk.call (cr:=[]) zjF g4 I (.some I I h14) I I (LeL.refl _) O I I I (evs [58,66,99] [(105,true),(108,false)] ?_ ⟨⟨_,I,h13⟩,⟨_,I,h14⟩,O⟩);refine rq ?_;rotate_left;refine rq ?_;rotate_left;refine sqF ?_;refine rq ?_;rotate_left;all_goals (first|rfl|(simp_all;done))
 |true=>
  rw[hv] at f3 f4;rw[hv,if_pos rfl] at f5;refine bd Tryz.f6 117 [58,66,99] [] fun _ _ _ _ hk=>?_;apply sq<;>intro h1 h1p h1s<;>(try simp only[Q,xal] at h1p);refine sqT ?_;refine rq ?_;rotate_left;apply sq<;>intro h3 h3p h3s<;>(try simp only[Q,xal] at h3p);refine rq ?_;rotate_left;refine wc zqV hd1 I I ?_;refine evs [58,66,99] [] (ab 3006 tz38 ?_);refine ab 3007 tz60 ?_;refine evs [58,66,99] [] (so ty38 ?_);refine so ty60 ?_;apply tv;refine wc zjF f1 I I ?_;refine evs [58,66,99] [] (wc zjG f5 I I ?_);refine evs [58,66,99] [] (ab 3009 tz60 ?_);refine so ty60 ?_;refine evs [58,66,99] [] (wc zqW f2 I I ?_);refine evd [58,66,99] [] ?_;apply sq<;>intro h4 h4p h4s<;>(try simp only[Q,xal] at h4p);refine sqT ?_;refine sqT ?_;refine dr (sqT ?_);refine rq ?_;rotate_left;refine Walk.call (cr:=[]) zlW f3 I (.some I I h4) I I (LeL.refl _) O I I I (evd [58,66,99] [(49,false)] ?_ ⟨⟨_,I,h4⟩,O⟩);refine Walk.call (cr:=[]) ziC f4 I (.some I I h4) I I (LeL.refl _) O I I I (xbJ un4 (.some I I h4) I I I (evd [58,66,99] [(49,false)] ?_ ⟨⟨_,I,h4⟩,O⟩));apply sq<;>intro h6 h6p h6s<;>(try simp only[Q,xal] at h6p);refine sqT ?_;refine dr (sqT ?_);refine rq ?_;rotate_left;refine Walk.call (cr:=[]) ziC f4 I (.some I I h6) I I (LeL.refl _) O I I I (xbJ un4 (.some I I h6) I I I (evd [58,66,99] [(60,false)] ?_ ⟨⟨_,I,h6⟩,O⟩));apply sq<;>intro h8 h8p h8s<;>(try simp only[Q,xal] at h8p);refine dr (sqT ?_);refine rq ?_;rotate_left;apply sq<;>intro h10 h10p h10s<;>(try simp only[Q,xal] at h10p);refine Walk.call (cr:=[]) zjH f6 I (.some I I h10) I I (LeL.refl _) O I I I (evd [58,66,99] [(68,false),(70,true)] ?_ ⟨⟨_,I,h8⟩,⟨_,I,h10⟩,O⟩);refine dr ?_;apply sq<;>intro h11 h11p h11s<;>(try simp only[Q,xal] at h11p);refine rq ?_;rotate_left;refine wc zod hd2 I I ?_;refine evs [58,66,99] [] (ab 3012 tz38 ?_);refine evs [58,66,99] [] (so ty38 ?_);refine evs [58,66,99] [] (wc zjG g1 I I ?_);refine evs [58,66,99] [] (ab 3014 tz60 ?_);refine so ty60 ?_;refine evs [58,66,99] [] (wc zoe g2 I I ?_);refine evs [58,66,99] [] (ab 3016 tz60 ?_);refine so ty60 ?_;refine evs [58,66,99] [] (Walk.eqB un4 .none I I I (evs [58,66,99] [] ?_));apply sq<;>intro h12 h12p h12s<;>(try simp only[Q,xal] at h12p);refine Walk.call (cr:=[]) zjH g3 I (.some I I h12) I I (LeL.refl _) O I I I (evs [58,66,99] [(100,true)] ?_ ⟨⟨_,I,h12⟩,O⟩);apply sq<;>intro h13 h13p h13s<;>(try simp only[Q,xal] at h13p);apply sq<;>intro h14 h14p h14s<;>(try simp only[Q,xal] at h14p);refine rq ?_;rotate_left;refine Walk.call (cr:=[]) zjF g4 I (.some I I h14) I I (LeL.refl _) O I I I (evs [58,66,99] [(105,true),(108,false)] ?_ ⟨⟨_,I,h13⟩,⟨_,I,h14⟩,O⟩);refine rq ?_;rotate_left;refine rq ?_;rotate_left;refine sqF ?_;refine rq ?_;rotate_left;refine dr (sqF ?_);refine wc zod hd2 I I ?_;refine evs [58,66,99] [] (ab 3012 tz38 ?_);refine evs [58,66,99] [] (so ty38 ?_);refine evs [58,66,99] [] (wc zjG g1 I I ?_);refine evs [58,66,99] [] (ab 3014 tz60 ?_);refine so ty60 ?_;refine evs [58,66,99] [] (wc zoe g2 I I ?_);refine evs [58,66,99] [] (ab 3016 tz60 ?_);refine so ty60 ?_;refine evs [58,66,99] [] (Walk.eqB un4 .none I I I (evs [58,66,99] [] ?_));apply sq<;>intro h16 h16p h16s<;>(try simp only[Q,xal] at h16p);refine Walk.call (cr:=[]) zjH g3 I (.some I I h16) I I (LeL.refl _) O I I I (evs [58,66,99] [(100,true)] ?_ ⟨⟨_,I,h16⟩,O⟩);apply sq<;>intro h17 h17p h17s<;>(try simp only[Q,xal] at h17p);apply sq<;>intro h18 h18p h18s<;>(try simp only[Q,xal] at h18p);refine rq ?_;rotate_left;refine Walk.call (cr:=[]) zjF g4 I (.some I I h18) I I (LeL.refl _) O I I I (evs [58,66,99] [(105,true),(108,false)] ?_ ⟨⟨_,I,h17⟩,⟨_,I,h18⟩,O⟩);refine rq ?_;rotate_left;refine rq ?_;rotate_left;refine sqF ?_;refine rq ?_;rotate_left;all_goals (first|rfl|(simp_all;done))
end Go.Proofs.YtmkipahfpaacgaaGreatDoor
namespace Go.Proofs.YtmkipahfpaacgaaGreatDoor
open Go Go.ChangeShapes Go.WideShapes Go.ChangeAt Go.RowKit
set_option linter.unusedSimpArgs false
set_option linter.unusedVariables false
set_option linter.unusedVariables false
def FW (W:World) (b:Nat):Nat:=match W.heap[b]? with
 |some (.cells cs _ _)=>cs.size
 |_=>0
theorem FW_cell {W:World}{b o:Nat}{v:Value} (h:W.cell? ⟨b,o,none⟩=some v):o<FW W b:=by
 unfold World.cell? at h;unfold FW;simp only at h;split at h
 ·rename_i c t fr hb;simp only[hb];simp only[Option.isSome_none,Bool.false_eq_true,if_false] at h;exact(Array.getElem?_eq_some_iff.1 h).1
 ·cases h
theorem FW_top {W:World}{b:Nat} (h:W.heap.size<=b):FW W b=0:=by
 unfold FW;rw[Array.getElem?_eq_none h]
structure RelL (W:World) (xs:List D) (cs:List Value):Prop where
 len:xs.length=cs.length
 rel:∀i (h1:i<xs.length) (h2:i<cs.length),RelD (FW W) W xs[i] cs[i]
theorem RelL.append {W:World}{xs ys:List D}{cs ds:List Value} (h:RelL W xs cs) (k:RelL W ys ds):RelL W (xs++ys) (cs++ds):=by
 refine⟨by simp[h.len,k.len],fun i h1 h2=>?_⟩;by_cases hi:i<xs.length
 ·rw[List.getElem_append_left hi,List.getElem_append_left (by rw[<-h.len];exact hi)];exact h.rel i hi (by rw[<-h.len];exact hi)
 ·have hl:=h.len;rw[List.getElem_append_right od,List.getElem_append_right od];have e:i-xs.length=i-cs.length:=by omega
  have h1':i-xs.length<ys.length:=by simp only[xaa] at h1;omega
  have h2':i-cs.length<ds.length:=by simp only[xaa] at h2;omega
  have:=k.rel (i-xs.length) h1' od;simp only[e] at this ⊢;exact this
def Dec (P:Program) (W:World) (n:Nat) (t:TypeId){α:Type} (f:α->List D) (m:α->Nat) (R:α->Prop):Prop:=
 ∀(H:Type) (enc:TypeId×Value->H) (cs:List Value) (x:DataW H×List MemPlace),DataW.trod enc P W 0 (fun _=>true) true n t cs=some x->
  ∃a,RelL W (f a) cs/\m a+1<=Rows.uptoBulk x.1/\R a
section
variable {P:Program}{W:World}{n:Nat}{t:TypeId}
theorem Dec.zero {α:Type}{f:α->List D}{m:α->Nat}{R:α->Prop}:Dec P W 0 t f m R:=fun H enc cs x h=>by simp[DataW.trod] at h
theorem Dec.map {α β:Type}{f:α->List D}{m:α->Nat}{R:α->Prop}{f':β->List D}{m':β->Nat}{R':β->Prop} (g:α->β) (h:Dec P W n t f m R)
  (h1:∀a,f' (g a)=f a) (h2:∀a,m' (g a)<=m a) (h3:∀a,R a->R' (g a)):Dec P W n t f' m' R':=fun H enc cs x hx=>by
 obtain⟨a,q1,q2,q3⟩:=h H enc cs x hx;exact⟨g a,by rw[h1];exact q1,by have:=h2 a;omega,h3 a q3⟩
theorem RelL.one {x:D}{v:Value} (h:RelD (FW W) W x v):RelL W [x] [v]:=
 ⟨rfl,fun i h1 h2=>by
  have:i=0:=by simp at h1;omega
  subst this;exact h⟩
theorem Dec.int {k:IntKind} (ht:P.underlying t=some (.int k)):Dec P W n t (fun z:Int=>[.int k z]) (fun _=>0) (fun z=>(Lit.int k z).wf=true):=fun H enc cs x h=>by
 obtain⟨z,rfl,rfl,hw⟩:=DataW.trod_int ht h;exact⟨z,.one (.int k z),by simp[Rows.uptoBulk],hw⟩
theorem Dec.bool (ht:P.underlying t=some .bool):Dec P W n t (fun z:Bool=>[.bool z]) (fun _=>0) (fun _=>True):=fun H enc cs x h=>by
 obtain⟨z,rfl,rfl⟩:=DataW.trod_bool ht h;exact⟨z,.one (.bool z),by simp[Rows.uptoBulk],trivial⟩
theorem Dec.str (ht:P.underlying t=some .string):Dec P W n t (fun s:Str=>[.str s]) (fun s=>s.length) (fun _=>True):=fun H enc cs x h=>by
 obtain⟨s,rfl,rfl,hw⟩:=DataW.trod_string ht h;exact⟨s.data.toList,.one (by have:=RelD.str (F:=FW W) (w:=W) s.data.toList;simpa using this),by simp[Rows.uptoBulk],trivial⟩
def sumM {α:Type} (m:α->Nat):List α->Nat
 | []=>0
 |a::r=>m a+1+sumM m r
theorem zjr {α:Type} (m:α->Nat):∀l:List α,l.length<=sumM m l
 | []=>by simp[sumM]
 |a::r=>by have:=zjr m r;simp only[sumM,xab];omega
theorem ziV {α β:Type}{Q:Nat->α->β->Prop}:∀(l:List β) (o:Nat),(∀i (h:i<l.length),∃a,Q (o+i) a l[i])->∃zs:List α,zs.length=l.length/\∀i (h:i<l.length) (h':i<zs.length),Q (o+i) zs[i] l[i]
 | [],o,_=>⟨[],rfl,fun i h=>by simp at h⟩
 |b::r,o,h=>by
  obtain⟨a,ha⟩:=h 0 oe;obtain⟨zs,h1,h2⟩:=ziV (Q:=Q) r (o+1) (fun i hi=>by
   have:=h (i+1) oo;rw[show o+1+i=o+(i+1) by omega];simpa using this)
  refine⟨a::zs,by simp[h1],fun i hi hi'=>?_⟩;cases i with
  |zero=>exact ha
  |succ i=>
   have:=h2 i (by simpa using hi) (by simpa using hi');rw[show o+1+i=o+(i+1) by omega] at this;simpa using this
theorem zl9 {H α:Type}{m:α->Nat}:∀ {zs:List α}{xs:List (DataW H)},zs.length=xs.length->(∀i (h:i<zs.length) (h':i<xs.length),m zs[i]+1<=Rows.uptoBulk xs[i])->sumM m zs<=Rows.uptoBulkAll xs
 | [],[],_,_=>by simp[sumM,Rows.uptoBulkAll]
 |a::zs,x::xs,hl,h=>by
  have h0:=h 0 oe oe;have ih:=zl9 (m:=m) (zs:=zs) (xs:=xs) (by simpa using hl) (fun i h1 h2=>by
   have:=h (i+1) oo oo;simpa using this)
  simp only[sumM,Rows.uptoBulkAll];simp only[List.getElem_cons_zero] at h0;omega
 | [],_::_,hl,_=>by simp at hl
 |_::_,[],hl,_=>by simp at hl
theorem Dec.sl {α:Type}{f:α->List D}{m:α->Nat}{R:α->Prop}{e:TypeId}{k:Nat} (ht:P.underlying t=some (.slice e)) (hc:P.cellsOf e=k+1) (hk:∀a,(f a).length=k+1) (he:Dec P W n e f m R):
  Dec P W (n+1) t (fun l:List α=>[.sl (l.map f)]) (fun l=>sumM m l) (fun l=>∀a∈l,R a):=fun H enc cs x h=>by
 rcases DataW.trod_slice ht h with ⟨rfl,rfl⟩|⟨a,len,cap,elems,rest,n',hn,rfl,rfl,_,hcap,_,hlen,hel,_,_⟩
 ·exact⟨[],.one .nil,by simp[sumM,Rows.uptoBulk],fun a h=>by simp at h⟩
 obtain rfl:n=n':=by omega
 have each:∀i (hi:i<elems.length),∃y,(∃cs,W.cells? 0 (a.add (i*(k+1))) (k+1)=some cs/\RelL W (f y) cs)/\m y+1<=Rows.uptoBulk (elems[i]).1/\R y:=by
  intro i hi;have:=hel i od;rw[hc,xan hi,Option.bind_eq_some_iff] at this;obtain⟨cs,h1,h2⟩:=this;obtain⟨y,h3,h4,h5⟩:=he H enc cs _ h2;exact⟨y,⟨cs,h1,h3⟩,h4,h5⟩
 obtain⟨zs,hal,has⟩:=ziV (Q:=fun i y (el:DataW H×List MemPlace)=>(∃cs,W.cells? 0 (a.add (i*(k+1))) (k+1)=some cs/\RelL W (f y) cs)/\m y+1<=Rows.uptoBulk el.1/\R y) elems 0 (fun i hi=>by simpa using each i hi);refine⟨zs,.one ?_, ?_,fun y hy=>?_⟩
 ·by_cases h0:zs=[]
  ·subst h0;have hz:len=0:=by simp at hal;omega
   subst hz;obtain⟨b,o,s⟩:=a;cases s with
   |none=>exact .sl [] 0 b o cap (fun _=>undef) oe oe (fun n hn=>by simp at hn) (fun i hi=>by simp at hi)
   |some s=>exact .emp b o s cap
  ·have hpos:0<zs.length:=List.length_pos_iff.2 h0;obtain⟨⟨cs0,hc0,hr0⟩,_⟩:=has 0 od hpos;have hspot:a.spot=none:=by
    have h1:=(World.cells?_some hc0).2.2 0 od;have h2:0<cs0.length:=by have:=(World.cells?_some hc0).2.1;omega
    simp only[Nat.add_zero,Nat.zero_mul,Addr.add,if_true,xan h2] at h1;unfold World.cell? at h1;split at h1
    ·cases hs:a.spot with
     |none=>rfl
     |some s=>simp[hs] at h1
    ·cases h1
   obtain⟨b,o,s⟩:=a;simp only at hspot;subst hspot;have hlen':(zs.map f).length=len:=by simp;omega
   have hmulk:∀i j,i<zs.length->j<k+1->i*(k+1)+j<zs.length*(k+1):=fun i j hi hj=>by
    have:(i+1)*(k+1)<=zs.length*(k+1):=xav _ od;rw[Nat.add_mul,Nat.one_mul] at this;omega
   have cellAt:∀i (hi:i<zs.length) j (hj:j<(f zs[i]).length),∃v,W.cell? ⟨b,o+(i*(k+1)+j),none⟩=some v/\RelD (FW W) W ((f zs[i])[j]) v:=fun i hi j hj=>by
    obtain⟨⟨cs,hc1,hr1⟩,_⟩:=has i od hi;have hjk:j<k+1:=by have:=hk zs[i];omega
    obtain⟨_,q1,q2⟩:=World.cells?_some hc1;have q3:=q2 j hjk;rw[xan od] at q3;refine⟨cs[j], ?_,hr1.rel j hj od⟩;rw[<-q3];congr 1
    simp only[Nat.zero_add,Addr.add];split<;>split<;>simp_all<;>omega
   have hv:((zs.map f).length,cap)=(len,cap):=by rw[hlen']
   have goal:RelD (FW W) W (.sl (zs.map f)) (.slice (some ⟨b,o,none⟩) (zs.map f).length cap):=by
    refine .sl _ (k+1) b o cap (fun q=>(W.cell? ⟨b,o+q,none⟩).getD undef) (fun y hy=>?_) od (fun q hq=>?_) (fun i hi j hj=>?_)
    ·obtain⟨y',_,rfl⟩:=List.mem_map.1 hy;exact hk y'
    ·have hq':q<zs.length*(k+1):=by simpa using hq
     have hi:q / (k+1)<zs.length:=Nat.div_lt_of_lt_mul (by rw[Nat.mul_comm];exact hq');have hj:q % (k+1)<k+1:=Nat.mod_lt _ od;obtain⟨v,h1,_⟩:=cellAt _ hi (q % (k+1)) (by rw[hk];exact hj);rw[Nat.div_add_mod'] at h1;exact⟨FW_cell h1,by rw[h1];rfl⟩
    ·have hi':i<zs.length:=by simpa using hi
     simp only[List.getElem_map] at hj ⊢;obtain⟨v,h1,h2⟩:=cellAt i hi' j hj;show RelD (FW W) W _ ((W.cell? ⟨b,o+(i*(k+1)+j),none⟩).getD undef)
     rw[h1];exact h2
   rw[hlen'] at goal;exact goal
 ·have:=zl9 (m:=m) (zs:=zs) (xs:=elems.map (·.1)) (by simp[hal]) (fun i h1 h2=>by
   have:=(has i (by simpa using h2) h1).2.1;simpa using this)
  simp only[Rows.uptoBulk];omega
 ·obtain⟨i,hi,rfl⟩:=List.getElem_of_mem hy;exact(has i od hi).2.2
def DecF (P:Program) (W:World) (n o K:Nat) (fs:List Field){α:Type} (f:α->List D) (m:α->Nat) (R:α->Prop):Prop:=
 ∀(H:Type) (enc:TypeId×Value->H) (cs:List Value) (xs:List (DataW H×List MemPlace)),cs.length=K->xs.length=fs.length->
  (∀(i:Nat) (fd:Field),fs[i]?=some fd->DataW.trod enc P W 0 (fun _=>true) true n fd.type ((cs.drop fd.offset).take (P.cellsOf fd.type))=xs[i]?)->
  ∃a,RelL W (f a) (cs.drop o)/\m a<=Rows.uptoBulkAll (xs.map (·.1))/\R a
theorem DecF.nil {K:Nat}:DecF P W n K K [] (fun _:Unit=>[]) (fun _=>0) (fun _=>True):=fun H enc cs xs h1 h2 _=>
 ⟨(),by rw[List.drop_of_length_le od];exact⟨rfl,fun i h=>by simp at h⟩,by simp,trivial⟩
theorem DecF.cons {α β:Type}{f:α->List D}{m:α->Nat}{R:α->Prop}{f2:β->List D}{m2:β->Nat}{R2:β->Prop}{o K k:Nat}{fd:Field}{fs:List Field}
  (h1:Dec P W n fd.type f m R) (ho:fd.offset=o) (hc:P.cellsOf fd.type=k) (h2:DecF P W n (o+k) K fs f2 m2 R2):
  DecF P W n o K (fd::fs) (fun p:α×β=>f p.1++f2 p.2) (fun p=>m p.1+1+m2 p.2) (fun p=>R p.1/\R2 p.2):=fun H enc cs xs hK hl hx=>by
 cases xs with
 |nil=>simp at hl
 |cons y ys=>
  have h0:=hx 0 fd oe;simp only[List.getElem?_cons_zero] at h0;rw[ho,hc] at h0;obtain⟨a,q1,q2,q3⟩:=h1 H enc _ _ h0;obtain⟨b,r1,r2,r3⟩:=h2 H enc cs ys hK (by simpa using hl) (fun i fd' hi=>by
   have:=hx (i+1) fd' (by simpa using hi);simpa using this)
  refine⟨(a,b), ?_, ?_,q3,r3⟩
  ·have:cs.drop o=(cs.drop o).take k++cs.drop (o+k):=by
    rw[<-List.drop_drop,List.take_append_drop]
   rw[this];exact q1.append r1
  ·simp only[xaf,Rows.uptoBulkAll];omega
theorem Dec.struct {α:Type}{f:α->List D}{m:α->Nat}{R:α->Prop}{fs:Array Field} (ht:P.underlying t=some (.struct fs)){K:Nat} (hK:P.cellsOf t=K) (h:DecF P W n 0 K fs.toList f m R):
  Dec P W (n+1) t f m R:=fun H enc cs x hx=>by
 obtain⟨xs,n',hn,rfl,hl,hxl,hf⟩:=DataW.trod_struct ht hx;obtain rfl:n=n':=by omega
 obtain⟨a,q1,q2,q3⟩:=h H enc cs xs od (by simpa using hxl) (fun i fd hi=>hf i fd (by simpa using hi));refine⟨a,by simpa using q1, ?_,q3⟩;simp only[Rows.uptoBulk];omega
end
section
variable {P:Program}{W:World}{base:Nat}{t:TypeId}{v:Value}{H:Type}{enc:TypeId×Value->H}{d:DataW H}{ps:List MemPlace}
theorem zoQ {α:Type}{e:TypeId}{f:α->List D}{m:α->Nat}{R:α->Prop}{k:Nat} (ht:P.underlying t=some (.slice e)) (hc:P.cellsOf e=k+1) (hk:∀a,(f a).length=k+1) (hd:∀n,Dec P W n e f m R)
  (hval:Value.okWide P W .any base t v) (h:DataW.Trod enc P W 0 (fun _=>true) true t v d ps):
  ∃l:List α,(∀G T,G.F=FW W->RelA G T W (.d (.sl (l.map f))) v)/\sumM m l+1<=Rows.uptoBulk d/\∀a∈l,R a:=by
 obtain⟨n,hn⟩:=h;cases n with
 |zero=>simp[DataW.trod] at hn
 |succ n=>
  obtain⟨l,h1,h2,h3⟩:=Dec.sl ht hc hk (hd n) H enc _ _ hn;have hcells:v.cells.toList=[v]:=by
   cases v with
   |agg cs=>simp only[Value.okWide,ht,Cell.okWide,Cell.ok] at hval
   |_=>rfl
  rw[hcells] at h1;exact⟨l,fun G T hG=> .d (by rw[hG];simpa using h1.rel 0 oe oe),h2,h3⟩
end
section
variable {P:Program}{H:Type}{enc:TypeId×Value->H}
theorem zhD (hl:laidOutB P=true){W W':World} (hb:Below W.heap.size W W'):∀ {ts:List TypeId}{vs:List Value}{ds:List (DataW H)}{ps:List MemPlace},
  (∀t∈ts,P.readableRec t=true/\t<P.types.size)->DataW.TrodAll enc P W 0 (fun _=>true) true ts vs ds ps->(∀x∈ps,x.block<W.heap.size)->
  DataW.TrodAll enc P W' 0 (fun b=>decide (b<W.heap.size)) true ts vs ds ps
 | [],[],[],ps,_,h,_=>h
 |t::ts,v::vs,d::ds,ps,hr,h,hlt=>by
  obtain⟨p,q,h1,h2,rfl⟩:=h;exact⟨p,q,Below.trod hl (hr t oe).1 (hr t oe).2 h1 hb (fun x hx=>hlt x (by simp[hx])),
   zhD hl hb (fun t ht=>hr t (by simp[ht])) h2 (fun x hx=>hlt x (by simp[hx])),rfl⟩
theorem zqv {f:Func}{s:ChangeSpec}{W W':World}{args:Array Value}{ds gs:List (DataW H)}{before:List MemPlace}{tb:TypeId}
  (hW:DataW.Whole enc P f.params.toList s.vars false W args.toList ds gs before) (hvars:s.vars=[]) (hrt:f.resultTypes = #[tb]) (htb:P.underlying tb=some .bool)
  (hs:s.fn H (ds++gs)={ results:=[.lit (.bool true)],args:=ds }) (hl:laidOutB P=true) (hr:∀t∈f.params.toList,P.readableRec t=true/\t<P.types.size)
  (hb:Below W.heap.size W W'):s.post enc P f false true false false W args (.bool true) W':=by
 have hlt:∀p∈before,p.block<W.heap.size:=fun p hp=>hW.lt p hp;have hW0:=hW;obtain⟨p,q,hA,hV,rfl,hfz,_⟩:=hW;rw[hvars] at hV;cases gs with
 |cons g gs=>exact hV.elim
 |nil=>
  have hq:q=[]:=hV;subst hq;simp only[xaq] at *;refine⟨ds,[],p,[],p,[],by simpa [hvars] using hW0, ?_, ?_, ?_,World.keptBut_mono (fun x hx=>⟨hx,.inr (.inl hx)⟩) (hb.frame (·∈p)),fun h=>by cases h⟩
  ·simp only[xaq,hs,hrt];exact trodAll_cons_mk (shut_bool htb _) trodAll_mk0
  ·simp only[xaq,hs];exact zhD hl hb hr hA hlt
  ·simp only[hvars,xaq,hs];rfl
theorem zpA {f:FuncId}{avs:List AV}{W:World}{args:Array Value}{r:AV} (hf:FnD P f avs [] r [])
  (hargs:∀G T,G.F=FW W->AllR G T W avs args):Calls P f args W fun e W'=>∃v G',e = .returned v/\RelA G' (fun _=>none) W' r v/\Below W.heap.size W W':=by
 let G:Gh:={ F:=FW W,loc:=fun _=>[] }
 refine(hf G W args ⟨hargs G _ rfl,fun id r h=>(by simp[getH] at h),fun id id' h=>(by simp[getH] at h),fun b hb=>FW_top hb⟩).mono ?_;rintro e W' ⟨v,r',hp',G',rfl,⟨rfl,rfl⟩,h⟩
 exact⟨v,G',rfl,h.res,⟨h.frm.os,h.frm.tape,h.frm.output,h.frm.size,fun b hb=>(h.frm.block b hb (by simp[zdb])).1⟩⟩
theorem RelA.bool_true {G:Gh}{T:TokF}{w:World}{v:Value} (h:RelA G T w (.d (.bool true)) v):v = .bool true:=by
 cases h with|d h=>cases h;rfl
theorem zqg {H:Type}{l:List (DataW H)} (hk:Rows.uptoSmall H l=true):Rows.uptoBulkAll l<=1048576:=xas hk
end
set_option maxRecDepth 100000
theorem znv (W:World) (n:Nat):Dec Tryz.prog W n 5 (fun x:UInt8=>[D.int .u8 (x.toNat:Int)]) (fun _=>0) (fun _=>True):=fun H enc cs x hx=>by
 obtain⟨z,q1,q2,q3⟩:=Dec.int (k:= .u8) Tryz.underlying5 H enc cs x hx;have h:0<=z/\z<=255:=by
  simp[Lit.wf,IntKind.wrap,IntKind.signed,IntKind.bits,IntKind.min,IntKind.max] at q3;omega
 refine⟨UInt8.ofNat z.toNat, ?_,q2,trivial⟩;have e:(((UInt8.ofNat z.toNat).toNat:Nat):Int)=z:=by
  rw[UInt8.toNat_ofNat',Nat.mod_eq_of_lt od];omega
 show RelL W [D.int .u8 (((UInt8.ofNat z.toNat).toNat:Nat):Int)] cs
 rw[e];exact q1
end Go.Proofs.YtmkipahfpaacgaaGreatDoor
