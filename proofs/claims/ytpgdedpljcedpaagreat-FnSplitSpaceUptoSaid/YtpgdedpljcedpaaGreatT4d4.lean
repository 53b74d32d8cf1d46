/-
  THE ABSTRACT WALK AND THE WALKS, part 4 of 7: the parts F45, F46, F112, G3, G4, F52, F53, F54, F55, F56, F57, F58, F70, F71, F72, F74, F75, F76, F77, F78, F18, F19, F31, F32, F33, F34, F35.
-/
import Derived.Test.YtpgdedpljcedpaaGreatT4d3
namespace Go.Proofs.YtpgdedpljcedpaaGreat
open Go
set_option linter.unusedSimpArgs false
set_option linter.unusedVariables false
set_option maxRecDepth 100000
set_option maxHeartbeats 2000000
structure VarsOk (l:List Bd) (vs:List Vt):Prop where
 len:l.length=vs.length
 nod:(l.map Bd.var).Nodup
 sub:∀x∈l.map Bd.var,x∈vs.map Vt.var
theorem zlH {f:Pat→Val→List Bd×Bool}{g:Ty→Pat→List Vt}:∀ {a:List Ty}{b:List Pat}{c:List Val}{acc:List Bd},a.length=b.length→b.length=c.length→
  (∀i,i<b.length→(f (nth b i) (nth c i)).2=true→zcx (g (nth a i) (nth b i))=true→VarsOk (f (nth b i) (nth c i)).1 (g (nth a i) (nth b i)))→((zbh g a b).map Vt.var).Nodup→
  (zbv f b c acc).2=true→∃X,(zbv f b c acc).1=acc++X∧VarsOk X (zbh g a b)
 | [],[],[],acc,_,_,_,_,_=>⟨[],by simp[zbv],⟨rfl,by simp,by simp⟩⟩
 |t::a,p::b,v::c,acc,h1,h2,h3,h4,h5=>by
  unfold zbv at h5 ⊢;split at h5
  ·rename_i hok;rw[if_pos hok];simp only[zbh,xaf] at h4 ⊢;obtain⟨n1,n2,n3⟩:=List.nodup_append.1 h4;have k0:=h3 0 (by simp) hok (decide_eq_true n1);obtain⟨X,e,k⟩:=zlH (f:=f) (g:=g) (a:=a) (b:=b) (c:=c) (acc:=acc++(f p v).1) (by simpa using h1) (by simpa using h2) (fun i hi=>h3 (i+1) (by simpa using hi)) n2 h5;refine⟨(f p v).1++X,by rw[e,List.append_assoc],⟨?_, ?_, ?_⟩⟩
   ·have:=k0.len;have e0:(f p v).1.length=(g t p).length:=this;rw[xaa,xaa,e0,k.len]
   ·rw[xaf];exact List.nodup_append.2 ⟨k0.nod,k.nod,fun x hx y hy=>n3 x (k0.sub x hx) y (k.sub y hy)⟩
   ·intro x hx;rw[xaf] at hx ⊢;rcases List.mem_append.1 hx with h|h
    ·exact List.mem_append_left _ (k0.sub x h)
    ·exact List.mem_append_right _ (k.sub x h)
  ·exact absurd h5 (by simp)
 | [],_::_,_,_,h,_,_,_,_=>by simp at h
 |_::_,[],_,_,h,_,_,_,_=>by simp at h
 | [],[],_::_,_,_,h,_,_,_=>by simp at h
 |_::_,_::_,[],_,_,h,_,_,_=>by simp at h
theorem ztO {a b:List Vt} (ha:zcx a=true) (hb:zcx b=true) (h:zdD a b=true):a.length=b.length∧∀x∈b.map Vt.var,x∈a.map Vt.var:=by
 rw[zmx hb] at h;unfold zd3 at h;simp only[xad,decide_eq_true_eq,Bool.not_eq_true',List.any_eq_false,Bool.not_eq_true,decide_eq_false_iff_not,Classical.not_not] at h;have na:=of_decide_eq_true ha;refine⟨h.1,fun x hx=>?_⟩;by_cases hm:x∈a.map Vt.var
 ·exact hm
 ·have:=zkB (a:=x::a.map Vt.var) (b:=b.map Vt.var) (List.nodup_cons.2 ⟨hm,na⟩) (fun y hy=>by
   rcases List.mem_cons.1 hy with rfl|hy
   ·exact hx
   ·obtain⟨z,hz,rfl⟩:=List.mem_map.1 hy;exact List.mem_map.2 ⟨z,h.2 z hz,rfl⟩)
  simp only[xab,xac] at this;omega
theorem zfJ {w:List Data}:∀(n m:Nat){t:Ty}{p:Pat}{v:Val},MatchOk w n m t p v→linP w n t p=true→(zav n p v).2=true→VarsOk (zav n p v).1 (zaK w n t p)
 |0,m,t,p,v,h,_,_=>by have:=h.shape;simp[zao] at this
 |n+1,m,t,p,v,h,hl,hm=>by
  have hop:=zex h.shape;have hnod:=of_decide_eq_true (zfi w (n+1) t p h.shape hl);by_cases h5:p.op=5
  ·obtain⟨hk,k0,k1⟩:=h.two h5;have e1:=zu9 (w:=w) (t:=t) h5;obtain⟨x,y,hxy⟩:∃x y,p.kids=[x,y]:=by
    match hp:p.kids,hk with
    | [x,y],_=>exact⟨x,y,rfl⟩
   have ex:nth p.kids 0=x:=by rw[hxy];rfl
   have ey:nth p.kids 1=y:=by rw[hxy];rfl
   simp only[linP,xad,if_pos h5,e1,hxy] at hl;rw[ex] at k0;rw[ey] at k1;have e2:zaK w (n+1) t p=zaK w n t x:=by
    simp only[zaK,zaU,zdK,e1,hxy,if_pos h5];rw[if_neg (by omega)];simp[zbh]
   simp only[all2,xad,and_true] at hl;rw[e2];cases hm0:(zav n (nth p.kids 0) v).2 with
   |true=>
    rw[zhH h5 hm0];rw[ex] at hm0 ⊢;exact zfJ n m k0 hl.1.1 hm0
   |false=>
    rw[zhI h5 hm0] at hm ⊢;rw[ey] at hm ⊢;have k:=zfJ n m k1 hl.1.2 hm;obtain⟨s1,s2⟩:=ztO (zfi w n t x k0.shape hl.1.1) (zfi w n t y k1.shape hl.1.2) hl.2;exact⟨by rw[k.len];exact s1.symm,k.nod,fun z hz=>s2 z (k.sub z hz)⟩
  have hv:zdK w t p=zag w t p:=by unfold zdK;rw[if_neg h5]
  by_cases h1:p.op=1
  ·rw[zf6 h1];have:zaK w (n+1) t p=[]:=by
    simp only[zaK,zaU,hv];rw[if_neg (by omega)];unfold zag;rw[if_neg (by omega),if_neg (by omega),if_neg (by omega)];simp[zbh]
   rw[this];exact⟨rfl,by simp,by simp⟩
  by_cases h2:p.op=2
  ·rw[zhm h2];have:zaK w (n+1) t p=[⟨p.var,t⟩]:=by
    simp only[zaK,zaU,hv];rw[if_pos (by omega)];unfold zag;rw[if_neg (by omega),if_neg (by omega),if_neg (by omega)];simp[zbh]
   rw[this];exact⟨rfl,by simp,by simp⟩
  by_cases h3:p.op=3
  ·rw[zfj h3];have:zaK w (n+1) t p=[]:=by
    simp only[zaK,zaU,hv];rw[if_neg (by omega)];unfold zag;rw[if_neg (by omega),if_neg (by omega),if_neg (by omega)];simp[zbh]
   rw[this];exact⟨rfl,by simp,by simp⟩
  simp only[linP,if_neg h5,xad] at hl;by_cases h6:p.op=6
  ·obtain⟨hk,k0⟩:=h.one h6;have e1:=zva (w:=w) (t:=t) h6;obtain⟨x,hx⟩:∃x,p.kids=[x]:=by
    match hp:p.kids,hk with
    | [x],_=>exact⟨x,rfl⟩
   have ex:nth p.kids 0=x:=by rw[hx];rfl
   have e2:zaK w (n+1) t p=⟨p.var,t⟩::zaK w n t x:=by
    simp only[zaK,zaU,hv,e1,hx];rw[if_pos (by omega)];simp[zbh]
   rw[zf8 h6] at hm ⊢;rw[e1,hx] at hl;simp only[all2,xad,and_true] at hl;rw[ex] at k0 hm ⊢;rw[e2] at hnod ⊢;have k:=zfJ n m k0 hl.1 hm;rw[xae] at hnod;have hnod':=List.nodup_cons.1 hnod;refine⟨by simp[k.len], ?_,fun z hz=>?_⟩
   ·rw[xae];exact List.nodup_cons.2 ⟨fun hh=>hnod'.1 (k.sub _ hh),k.nod⟩
   ·rw[xae] at hz ⊢;rcases List.mem_cons.1 hz with h|h
    ·rw[h];exact List.mem_cons_self
    ·exact List.mem_cons_of_mem _ (k.sub z h)
  have h4:p.op=4:=by omega
  by_cases hc:p.ctor=v.ctor
  ·obtain⟨hlen,k,hk⟩:=h.kid h4 hc;rw[zhn h4 hc] at hm ⊢;have e2:zaK w (n+1) t p=zbh (zaK w n) (zag w t p) p.kids:=by
    simp only[zaK,zaU,hv];rw[if_neg (by omega),List.nil_append]
   rw[e2] at hnod ⊢;have hl2:=(zbH h.shape).2;obtain⟨X,e,kx⟩:=zlH (f:=zav n) (g:=zaK w n) (a:=zag w t p) (acc:=[]) hl2.symm hlen (fun i hi hmi hni=>zfJ n k (hk i hi) (zei hl2.symm hl.1 i (by omega)) hmi) hnod hm;rw[e,List.nil_append];exact kx
  ·rw[zf7 h4 hc] at hm;exact absurd hm (by simp)
theorem zuz {w:List Data}{m:Nat}{t:Ty}{p:Pat}{v:Val} (h:MatchOk w 10 m t p v) (hp:isP w t p=true) (hm:(zav 10 p v).2=true):(zav 10 p v).1.length≤6:=by
 unfold isP at hp;simp only[xad] at hp;have k:=zfJ 10 m h hp.2.2 hm;rw[k.len];have e:=(zgh w 10 t p 0).1;have hw:zbS w 10 t p 0=true:=by
  unfold zbS;rw[hp.1,hp.2.2];have:=of_decide_eq_true hp.2.1;simp;omega
 rw[if_pos hw] at e;have:=zmj w 10 t p 0 _ e;exact zpp this.1 this.2
theorem zgT {w:List Data}:∀(n m:Nat){t:Ty}{p:Pat}{v:Val},MatchOk w n m t p v→(zav n p v).2=true→
  FnD Tryz.prog 112 [.agg [.d (.i p.op),.d (.i p.ctor),.d (.i p.n),.d (.i p.m),.d (.i p.var),.d (zac p.kids)],.agg [.d (.i v.ctor),.d (.i v.num),.d (zbJ v.kids)]] [] (.tup [.gv 9 ((zav n p v).1.map Bd.c),.d (.bool true)]) [(9,some (.tok ((zav n p v).1.map Bd.c).length 4))]
 |0,m,t,p,v,h,_=>by have:=h.shape;simp[zao] at this
 |n+1,m,t,p,v,h,hm=>by
  have hop:=zex h.shape;have k4:=h.kid;have k5:=h.two;have k6:=h.one;have hsz:=h.psz;have hps:=Pat.size_eq p;have hkl:=((Pat.ok_iff p).1 h.pok).1;have mok:=fun {t:Ty}{q:Pat}{u:Val} (hs:zao w n t q=true) (hu:u.ok)=>zet n hs hu;by_cases h4:p.op=4
  ·have hc:p.ctor=v.ctor:=by
    by_cases hc:p.ctor=v.ctor
    ·exact hc
    ·rw[zf7 h4 hc] at hm;exact absurd hm (by simp)
   obtain⟨hl,k,hkm⟩:=k4 h4 hc;have hm4:=zhn (n:=n) h4 hc;have hall:=fun(i:Nat) (hi:i<p.kids.length)=>znf (f:=zav n) (a:=p.kids) (b:=v.kids) (acc:=[]) (by rw[←hm4];exact hm) i hi (by omega);refine bd Tryz.f112 105 [10] [] fun w0 F0 own kept hk=>?_;refine bx 3002 ?_;refine bx 3003 ?_;refine evs [10] [] ?_;refine sq ?_ ?_<;>intro h1 h1p h1s;try simp only[Q,Pat.cs_len] at h1p
   exfalso;omega;try simp only[Q,Pat.cs_len] at h1p
   refine sq ?_ ?_<;>intro h2 h2p h2s;try simp only[Q,Pat.cs_len] at h2p
   exfalso;omega;try simp only[Q,Pat.cs_len] at h2p
   refine sq ?_ ?_<;>intro h3 h3p h3s;try simp only[Q,Pat.cs_len] at h3p
   exfalso;omega;try simp only[Q,Pat.cs_len] at h3p
   refine sq ?_ ?_<;>intro h4 h4p h4s;try simp only[Q,Pat.cs_len] at h4p
   exfalso;omega;try simp only[Q,Pat.cs_len] at h4p
   refine sq ?_ ?_<;>intro h5 h5p h5s;try simp only[Q,Pat.cs_len] at h5p
   exfalso;omega;try simp only[Q,Pat.cs_len] at h5p
   refine sq ?_ ?_<;>intro h6 h6p h6s;try simp only[Q,Pat.cs_len] at h6p
   exfalso;omega;try simp only[Q,Pat.cs_len] at h6p
   refine xaC 9 4 .none rfl rfl ?_;refine tv ?_;refine xaj (ι:=Nat×List Bd) hk (fun x=>[(83,.d (.i (x.1:Int))),(10,.gv 9 (x.2.map Bd.c))]) [4,5,11,12,13,14,84,85,86,87,88,89,90,91,92,93,94,95,96,97,98,99,100,101,102,103] (fun x=>[(9,some (.tok ((x.2.map Bd.c)).length 4))]) (fun x=>x.1≤p.kids.length∧zbv (zav n) (p.kids.drop x.1) (v.kids.drop x.1) x.2=zbv (zav n) p.kids v.kids []∧x.2.length+Pats.size (p.kids.drop x.1)≤Pats.size p.kids) (fun x=>p.kids.length-x.1) (0,[]) ⟨by simp,rfl,by simp⟩ ⟨⟨_,rfl,xap ?_⟩,⟨⟨_,rfl,LeA.gvg ?_⟩,trivial⟩⟩ ⟨zab ?_,trivial⟩ (fun x=>rfl) (fun x hg1=>?_);iterate 3 focus (rfl)
   refine evc [10] [] ?_;refine sq ?_ ?_<;>intro h7 h7p h7s;try simp only[Q,Pat.cs_len] at h7p
   refine xaT sl26 .none rfl rfl rfl rfl (zaE (by omega)) rfl ?_;refine evs [10] [] ?_;refine ab 3012 tz28 ?_;refine evs [10] [] ?_;refine so ty28 ?_;refine tv ?_;refine xaT sl37 .none rfl rfl rfl rfl (zoL (by omega)) rfl ?_;refine evd [10] [] ?_;refine wc zek (zch n k (hkm x.1 (by omega))) rfl rfl ?_;refine evd [10] [] ?_;refine dr ?_;refine sq ?_ ?_<;>intro h8 h8p h8s;try simp only[Q,Pat.cs_len] at h8p
   exfalso;have:=hall x.1 (by omega);simp_all;try simp only[Q,Pat.cs_len] at h8p
   refine xaA sl40 zqj .none rfl rfl rfl rfl (zfD rfl (by rfl)) (by intro x hx;exact zk5 _ x hx) (by have:=(mok (hkm x.1 (by omega)).shape (hkm x.1 (by omega)).vok).2;have:=zdV (l:=p.kids) (i:=x.1) (by omega);have:=hg1.2.2;simp;omega) (by have:=(mok (hkm x.1 (by omega)).shape (hkm x.1 (by omega)).vok).2;have:=zdV (l:=p.kids) (i:=x.1) (by omega);have:=hg1.2.2;simp;omega) ?_;refine asg ?_;refine tv ?_;refine ar ?_;refine Exists.intro ((x.1+1,x.2++(zav n (nth p.kids x.1) (nth v.kids x.1)).1)) ⟨⟨by dsimp only;omega,by dsimp only;rw[←zlG (by omega) (by omega) (hall x.1 (by omega))];exact hg1.2.1,by have:=(mok (hkm x.1 (by omega)).shape (hkm x.1 (by omega)).vok).2;have:=zdV (l:=p.kids) (i:=x.1) (by omega);have:=hg1.2.2;dsimp only;rw[xaa];omega⟩,(by dsimp only;omega),sx ⟨⟨_,rfl,xap ?_⟩,⟨⟨_,rfl,LeA.gvg ?_⟩,trivial⟩⟩ ⟨zab ?_,trivial⟩⟩;iterate 3 focus ((simp;done))
   try simp only[Q,Pat.cs_len] at h7p
   refine rn [(9,some (.tok ((zav (n+1) p v).1.map Bd.c).length 4))] (r2 rfl rfl) (.tup (.cons (.gvg ?_) (.cons (.eqd ?_) .nil))) ⟨rfl,rfl⟩ (SubH.get ⟨?_,trivial⟩) (zaz rfl);rotate_left 3;all_goals (((first|rfl|(rw[hm4,←hg1.2.1,zng (by omega)];all_goals rfl));done))
  by_cases h5:p.op=5
  ·obtain⟨hl,k0,k1⟩:=k5 h5;cases hm0:(zav n (nth p.kids 0) v).2 with
   |true=>
    have e:=zhH (n:=n) h5 hm0;rw[e];refine bd Tryz.f112 105 [] [] fun w0 F0 own kept hk=>?_;refine bx 3002 ?_;refine bx 3003 ?_;refine ev ?_;refine sq ?_ ?_<;>intro h1 h1p h1s;try simp only[Q,Pat.cs_len] at h1p
    exfalso;omega;try simp only[Q,Pat.cs_len] at h1p
    refine sq ?_ ?_<;>intro h2 h2p h2s;try simp only[Q,Pat.cs_len] at h2p
    exfalso;omega;try simp only[Q,Pat.cs_len] at h2p
    refine sq ?_ ?_<;>intro h3 h3p h3s;try simp only[Q,Pat.cs_len] at h3p
    exfalso;omega;try simp only[Q,Pat.cs_len] at h3p
    refine sq ?_ ?_<;>intro h4 h4p h4s;try simp only[Q,Pat.cs_len] at h4p
    refine xaT (i:=0) sl26 .none rfl rfl rfl rfl (zaE (by omega)) rfl ?_;refine evd [] [] ?_;refine Walk.call (cr:=[9]) zek (zgT n m k0 hm0) rfl .none rfl rfl (LeL.refl _) trivial rfl rfl rfl ?_;refine evd [] [] ?_;refine dr ?_;refine sq ?_ ?_<;>intro h5 h5p h5s;try simp only[Q,Pat.cs_len] at h5p
    refine rn [(9,some (.tok ((zav n (nth p.kids 0) v).1.map Bd.c).length 4))] (r2 rfl rfl) (.tup (.cons (.gvg ?_) (.cons (.eqd ?_) .nil))) ⟨rfl,rfl⟩ (SubH.get ⟨?_,trivial⟩) (zaz rfl);rotate_left 3;try simp only[Q,Pat.cs_len] at h5p
    exfalso;simp_all;try simp only[Q,Pat.cs_len] at h4p
    exfalso;omega;all_goals (first|((rfl);done)|(rfl))
   |false=>
    have e:=zhI (n:=n) h5 hm0;rw[e] at hm ⊢;have hf0:=zch n m k0;rw[hm0] at hf0;refine bd Tryz.f112 105 [] [] fun w0 F0 own kept hk=>?_;refine bx 3002 ?_;refine bx 3003 ?_;refine ev ?_;refine sq ?_ ?_<;>intro h1 h1p h1s;try simp only[Q,Pat.cs_len] at h1p
    exfalso;omega;try simp only[Q,Pat.cs_len] at h1p
    refine sq ?_ ?_<;>intro h2 h2p h2s;try simp only[Q,Pat.cs_len] at h2p
    exfalso;omega;try simp only[Q,Pat.cs_len] at h2p
    refine sq ?_ ?_<;>intro h3 h3p h3s;try simp only[Q,Pat.cs_len] at h3p
    exfalso;omega;try simp only[Q,Pat.cs_len] at h3p
    refine sq ?_ ?_<;>intro h4 h4p h4s;try simp only[Q,Pat.cs_len] at h4p
    refine xaT (i:=0) sl26 .none rfl rfl rfl rfl (zaE (by omega)) rfl ?_;refine evd [] [] ?_;refine wc zek (hf0) rfl rfl ?_;refine evd [] [] ?_;refine dr ?_;refine sq ?_ ?_<;>intro h5 h5p h5s;try simp only[Q,Pat.cs_len] at h5p
    exfalso;simp_all;try simp only[Q,Pat.cs_len] at h5p
    refine xaT (i:=1) sl26 .none rfl rfl rfl rfl (zaE (by omega)) rfl ?_;refine evd [] [] ?_;refine Walk.call (cr:=[9]) zek (zgT n m k1 hm) rfl .none rfl rfl (LeL.refl _) trivial rfl rfl rfl ?_;refine evd [] [] ?_;refine dr ?_;refine rn [(9,some (.tok ((zav n (nth p.kids 1) v).1.map Bd.c).length 4))] (r2 rfl rfl) (.tup (.cons (.gvg ?_) (.cons (.eqd ?_) .nil))) ⟨rfl,rfl⟩ (SubH.get ⟨?_,trivial⟩) (zaz rfl);rotate_left 3;try simp only[Q,Pat.cs_len] at h4p
    exfalso;omega;all_goals (first|((rfl);done)|(rfl))
  ·have hw:p.op=3→zap v.num p.n p.m=true:=fun h3=>by rw[zfj h3] at hm;exact hm
   have h6m:p.op=6→(zav n (nth p.kids 0) v).2=true:=fun h6=>by rw[zf8 h6] at hm;exact hm
   refine bd Tryz.f112 105 [4] [] fun w0 F0 own kept hk=>?_;refine bx 3002 ?_;refine bx 3003 ?_;refine asg ?_;refine evs [4] [] ?_;refine sq ?_ ?_<;>intro h1 h1p h1s;try simp only[Q,Pat.cs_len] at h1p
   refine xaC 9 4 .none rfl rfl ?_;refine evs [4] [] ?_;refine rn [(9,some (.tok ((zav (n+1) p v).1.map Bd.c).length 4))] (r2 rfl rfl) (.tup (.cons (.gvg ?_) (.cons (.eqd ?_) .nil))) ⟨rfl,rfl⟩ (SubH.get ⟨?_,trivial⟩) (zaz rfl);rotate_left 3;try simp only[Q,Pat.cs_len] at h1p
   refine sq ?_ ?_<;>intro h2 h2p h2s;try simp only[Q,Pat.cs_len] at h2p
   refine bu [0,1] [_,_] zqd ?_;refine xbk 9 sl40 zn0 rfl (by decide) (ks:=[0]) (xs:=[_]) rfl rfl (by decide) (by decide) .none rfl rfl rfl rfl rfl ?_;refine asg ?_;refine evs [4] [] ?_;refine rn [(9,some (.tok ((zav (n+1) p v).1.map Bd.c).length 4))] (r2 rfl rfl) (.tup (.cons (.gvg ?_) (.cons (.eqd ?_) .nil))) ⟨rfl,rfl⟩ (SubH.get ⟨?_,trivial⟩) (zaz rfl);rotate_left 3;try simp only[Q,Pat.cs_len] at h2p
   refine sq ?_ ?_<;>intro h3 h3p h3s;try simp only[Q,Pat.cs_len] at h3p
   refine wc zeX (zbr) rfl rfl ?_;refine xaC 9 4 .none rfl rfl ?_;refine evs [4] [] ?_;refine rn [(9,some (.tok ((zav (n+1) p v).1.map Bd.c).length 4))] (r2 rfl rfl) (.tup (.cons (.gvg ?_) (.cons (.eqd ?_) .nil))) ⟨rfl,rfl⟩ (SubH.get ⟨?_,trivial⟩) (zaz rfl);rotate_left 3;try simp only[Q,Pat.cs_len] at h3p
   refine sq ?_ ?_<;>intro h4 h4p h4s;try simp only[Q,Pat.cs_len] at h4p
   exfalso;omega;try simp only[Q,Pat.cs_len] at h4p
   refine sq ?_ ?_<;>intro h5 h5p h5s;try simp only[Q,Pat.cs_len] at h5p
   refine xaT (i:=0) sl26 .none rfl rfl rfl rfl (zaE (by have:=(k6 (by omega)).1;omega)) rfl ?_;refine evd [4] [] ?_;refine wc zek (zch n m (k6 (by omega)).2) rfl rfl ?_;refine evd [4] [] ?_;refine dr ?_;refine bu [0,1] [_,_] zqd ?_;refine xbk 9 sl40 zn0 rfl (by decide) (ks:=[0]) (xs:=[_]) rfl rfl (by decide) (by decide) .none rfl rfl rfl rfl rfl ?_;refine evs [4] [] ?_;refine xaA sl40 zqj .none rfl rfl rfl rfl (zfD rfl (by rfl)) (by intro x hx;exact zk5 _ x hx) (by have:=(mok (k6 (by omega)).2.shape h.vok).2;have:=zb5 (l:=p.kids) (i:=0) (by have:=(k6 (by omega)).1;omega);simp;omega) (by have:=(mok (k6 (by omega)).2.shape h.vok).2;have:=zb5 (l:=p.kids) (i:=0) (by have:=(k6 (by omega)).1;omega);simp;omega) ?_;refine evs [4] [] ?_;refine asg ?_;refine evs [4] [] ?_;refine rn [(9,some (.tok ((zav (n+1) p v).1.map Bd.c).length 4))] (r2 rfl rfl) (.tup (.cons (.gvg ?_) (.cons (.eqd ?_) .nil))) ⟨rfl,rfl⟩ (SubH.get ⟨?_,trivial⟩) (zaz rfl);rotate_left 3;try simp only[Q,Pat.cs_len] at h5p
   exfalso;omega;all_goals (first|((first|rfl|(rw[zf6 (by omega)];all_goals rfl)|(rw[zhm (by omega)];all_goals rfl)|(rw[zfj (by omega)];all_goals first|rfl|(rw[hw (by omega)];done))|(rw[zf8 (by omega)];all_goals first|rfl|(rw[h6m (by omega)];done))|(rw[hw (by omega)];done)|(rw[h6m (by omega)];done));done)|(first|(rw[zf6 (by omega)];all_goals rfl)|(rw[zhm (by omega)];all_goals rfl)|(rw[zfj (by omega)];all_goals rfl)|(rw[zf8 (by omega)];show some (Res.tok _ _)=some (Res.tok _ _);simp;omega)))
theorem zuc {n:Nat}{S:List Bd} (h:n=S.length):zbL n 4 (bdC S)=some (S.map Bd.c):=by
 rw[h,←xac (f:=Bd.c)];exact zvm S
theorem idsD (l:List D):AV.idsL (l.map AV.d)=[]:=by
 induction l with
 |nil=>rfl
 |cons x r ih=>simpa [AV.idsL,AV.ids] using ih
theorem zm5 {w:List Data}{m:Nat}{t:Ty}{p:Pat}{v:Val} (h:MatchOk w 10 m t p v) (hp:isP w t p=true):
  FnD Tryz.prog 65 [.agg [.d (.i p.op),.d (.i p.ctor),.d (.i p.n),.d (.i p.m),.d (.i p.var),.d (zac p.kids)],.agg [.d (.i v.ctor),.d (.i v.num),.d (zbJ v.kids)]] [] (.tup [.d (zqJ (zf9 10 p v).1),.d (.bool (zf9 10 p v).2)]) []:=by
 unfold zf9;cases hm:(zav 10 p v).2 with
 |false=>
  have hf:=zch 10 m h;rw[hm] at hf;rw[if_neg (by simp)];refine bd Tryz.f65 36 [] [] fun w0 F0 own kept hk=>?_;refine bx 3002 ?_;refine bx 3003 ?_;refine ev ?_;refine wc zek (hf) rfl rfl ?_;refine ev ?_;refine sq ?_ ?_<;>intro h1 h1p h1s;try simp only[Q] at h1p
  refine rn0 (r2 rfl rfl) (.tup (.cons (.nild ?_) (.cons (.eqd ?_) .nil)));rotate_left 2;try simp only[Q] at h1p
  exfalso;simp_all;all_goals (rfl)
 |true=>
  have hf:=zgT 10 m h hm;have h6:=zuz h hp hm;have hbo:=zvX (zet 10 h.shape h.vok).1;have hsl:=zu0 (zav 10 p v).1;have hvs:=h.vsz;rw[if_pos rfl];have hLm:∀L:List Bd,(L.map Bd.c).length=L.length:=fun L=>by simp
  have hLm:=hLm (zav 10 p v).1;have hso:zdB ((zav 10 p v).1.length-1) 1 (zav 10 p v).1=zlk (zav 10 p v).1:=rfl;generalize (zav 10 p v).1=L at *;generalize hS:zlk L=S at *;have hrow:∀ {i:Nat},i<L.length→(nth S i).val.ok∧(nth S i).val.size≤v.size:=fun hi=>hbo _ (zaf (by omega));refine bd Tryz.f65 36 [26] [4,999999] fun w0 F0 own kept hk=>?_;refine Walk.box (id:=3002) .none rfl rfl rfl (by rfl) (by rfl) (by rfl) (by rfl) ?_;refine Walk.box (id:=3003) .none rfl rfl rfl (by rfl) (by rfl) (by rfl) (by rfl) ?_;refine evs [26] [] ?_;refine Walk.call (cr:=[9]) zek (hf) rfl .none rfl rfl (LeL.refl _) trivial rfl rfl rfl ?_;refine evs [26] [] ?_;refine sq ?_ ?_<;>intro h1 h1p h1s;try simp only[Q,xac] at h1p
  exfalso;simp_all;try simp only[Q,xac] at h1p
  refine CWp.fixV hk 6 9 4 rfl rfl rfl (fun hx2=>?_) (fun hx2=>?_);refine evc [26] [] ?_;refine Walk.call (cr:=[]) ztR (zjX) rfl .none rfl rfl (LeL.refl _) trivial rfl (by rfl) (by rfl) ?_;refine tv ?_;refine xaj (ι:=Unit) hk (fun u=>[(22,.d (.i 0))]) [8,9,23,24,25,26,27,28,29,30,31,32,33,34] (fun u=>[]) (fun u=>True) (fun u=>0) () trivial ⟨⟨_,rfl,xap ?_⟩,trivial⟩ trivial (fun x=>rfl) (fun u hg1=>?_);focus (rfl)
  refine evc [26] [4,999999] ?_;refine sq ?_ ?_<;>intro h3 h3p h3s;try simp only[Q,xac] at h3p
  exfalso;simp at h3;try simp only[Q,xac] at h3p
  refine CWp.ret ?_;refine rn0 (r2 rfl rfl) (.tup (.cons (.eqd ?_) (.cons (.eqd ?_) .nil)));rotate_left 2;refine evc [26] [] ?_;refine Walk.call (cr:=[]) ztR (zkR (L:=L) (by omega) zxp (fun a b=>zlp)) rfl .none rfl rfl (.cons (xar (by(simp[xac];done))) (.cons (.refl _) .nil)) ⟨rfl,trivial⟩ rfl zkD rfl ?_;refine tv ?_;refine xaj (ι:=Nat) hk (fun i=>[(22,.d (.i (i:Int)))]) [8,9,23,24,25,26,27,28,29,30,31,32,33,34] (fun i=>[(9,some (.box (bdC S)))]) (fun i=>i≤L.length) (fun i=>L.length-i) 0 (by omega) ⟨⟨_,rfl,xap ?_⟩,trivial⟩ ⟨?_,trivial⟩ (fun x=>rfl) (fun i hg1=>?_);focus (rfl)
  focus ((show some (Res.box _)=some (Res.box _);rw[hso]))
  refine evc [26] [4,999999] ?_;refine sq ?_ ?_<;>intro h4 h4p h4s;try simp only[Q,xac] at h4p
  refine xaX sl40 .none rfl rfl rfl rfl (by omega) ?_;refine xa0 zis .none rfl rfl rfl ((ziE (by omega))) ?_;refine Walk.alloc (id:=3009) zn0 rfl .none rfl (by(simp only[zaA,occH,occE,Res.ids,xag,List.nil_append,AV.idsL,AV.ids,zaj,zak,zar,zaS,xae,List.map_nil,upC,idsD,zfb];rfl)) (by(simp only[zaA,occH,occE,Res.ids,xag,List.nil_append,AV.idsL,AV.ids,zaj,zak,zar,zaS,xae,List.map_nil,upC,idsD,zfb];rfl)) (by(simp only[zaA,occH,occE,Res.ids,xag,List.nil_append,AV.idsL,AV.ids,zaj,zak,zar,zaS,xae,List.map_nil,upC,idsD,zfb];rfl)) ?_;refine evs [26] [] ?_;refine so zis ?_;refine tv ?_;refine Walk.call (cr:=[]) zs7 (ze7 (nth S i).val.size (Nat.le_refl _) (hrow (by omega)).1) rfl .none rfl rfl (LeL.refl _) trivial rfl (by rfl) (by rfl) ?_;refine xaX sl40 .none rfl rfl rfl rfl (by omega) ?_;refine evs [26] [] ?_;refine Walk.store ty44 .none rfl rfl rfl rfl rfl rfl (by simp) ((zuL (by omega))) ?_;refine tv ?_;refine ar ?_;refine Exists.intro (i+1) ⟨(by omega),(by omega),sx ⟨⟨_,rfl,xap ?_⟩,trivial⟩ ⟨?_,trivial⟩⟩;focus (rfl)
  focus (rfl)
  try simp only[Q,xac] at h4p
  refine CWp.frz hk 4 9 _ _ rfl rfl (zuc (by simp;omega)) rfl ?_;refine CWp.ret ?_;refine rn0 (r2 rfl rfl) (.tup (.cons (.eqd ?_) (.cons (.eqd ?_) .nil)));rotate_left 2;all_goals (first|rfl|(rw[show S=[] from List.eq_nil_of_length_eq_zero (by have hz:L.map Bd.c=[]:=(by assumption);have hz2:=congrArg List.length hz;simp only[xah] at hz2;omega)];rfl))
def zaW (w:List Data) (a k:Int) (p:Pat) (v:Val):List Bd×Bool:=if zaI w a k p=true∧isV w ⟨a,k⟩ v=true then zf9 10 p v else ([],false)
theorem zvB {w:List Data}{a k:Int}{p:Pat}{v:Val} (h1:isP w ⟨a,k⟩ p=true) (h2:isV w ⟨a,k⟩ v=true) (hp:p.ok) (hv:v.ok):MatchOk w 10 10 ⟨a,k⟩ p v:=by
 unfold isP at h1;unfold isV at h2;simp only[xad,decide_eq_true_eq] at h1 h2;exact⟨h1.1,h2.1,hp,hv,by omega,by omega⟩
theorem zcJ {w:List Data} (hs:WSmall w){a k:Int}{p:Pat}{v:Val} (hp:p.ok) (hv:v.ok):
  FnD Tryz.prog 23 [.d (zam w),.agg [.d (.i a),.d (.i k)],.agg [.d (.i p.op),.d (.i p.ctor),.d (.i p.n),.d (.i p.m),.d (.i p.var),.d (zac p.kids)],.agg [.d (.i v.ctor),.d (.i v.num),.d (zbJ v.kids)]] [] (.tup [.d (zqJ (zaW w a k p v).1),.d (.bool (zaW w a k p v).2)]) []:=by
 have hpv:=zfE hs (a:=a) (k:=k) hp;have pv:=pval hs (a:=a) (k:=k) (p:=p);have hpi:zaI w a k p=true→isP w ⟨a,k⟩ p=true:=fun h=>by unfold zaI at h;rw[xad] at h;exact h.2
 refine bd Tryz.f23 27 [] [] fun w0 F0 own kept hk=>?_;refine bx 3005 ?_;refine bx 3006 ?_;refine bx 3007 ?_;refine ev ?_;refine wc zp1 (hpv) rfl rfl ?_;refine ev ?_;refine sq ?_ ?_<;>intro h1 h1p h1s;try simp only[Q] at h1p
 refine sqT ?_;refine rn0 (r2 rfl rfl) (.tup (.cons (.nild ?_) (.cons (.eqd ?_) .nil)));rotate_left 2;try simp only[Q] at h1p
 refine Walk.call (cr:=[]) zym (zna (pv (by assumption)).dp.wt (pv (by assumption)).tin hv) rfl (.some rfl rfl h1) rfl rfl (LeL.refl _) trivial rfl rfl rfl ?_;refine evs [] [(15,false)] ?_ ⟨⟨_,rfl,h1⟩,trivial⟩;refine sq ?_ ?_<;>intro h3 h3p h3s;try simp only[Q] at h3p
 refine rn0 (r2 rfl rfl) (.tup (.cons (.nild ?_) (.cons (.eqd ?_) .nil)));rotate_left 2;try simp only[Q] at h3p
 refine wc zyn (zm5 (zvB (hpi (by simp_all)) (by simp_all) hp hv) (hpi (by simp_all))) rfl rfl ?_;refine ev ?_;refine rn0 (r2 rfl rfl) (.tup (.cons (.eqd ?_) (.cons (.eqd ?_) .nil)));rotate_left 2;all_goals (unfold zaW;first|(rw[if_pos ⟨by simp_all,by simp_all⟩];all_goals rfl)|(rw[if_neg (by intro hh;simp_all)];all_goals rfl))
theorem zhc {xs:List Pat}{f:Nat} (hs:xs.length≤1000000000000) (hcal:Callee Tryz.prog f)
  (hf:∀p∈xs,FnD Tryz.prog f [.agg [.d (.i p.op),.d (.i p.ctor),.d (.i p.n),.d (.i p.m),.d (.i p.var),.d (zac p.kids)],.agg [.d (.i p.op),.d (.i p.ctor),.d (.i p.n),.d (.i p.m),.d (.i p.var),.d (zac p.kids)]] [] (.d (.bool true)) []):
  FnD Tryz.prog 83 [.d (zac xs),.d (zac xs),.fn f []] [] (.d (.bool true)) []:=by
 refine bd Tryz.f83 32 [] [] fun w0 F0 own kept hk=>?_;refine sq ?_ ?_<;>intro h1 h1p h1s;try simp only[Q,Pat.cs_len] at h1p
 exfalso;simp at h1;try simp only[Q,Pat.cs_len] at h1p
 refine xaj (ι:=List (Pat)×List (Pat)) hk (fun x=>[(17,.d (.i (x.1.length:Int)))]) [6,7,8,9,18,19,20,21,22,23,24,25,26,27,28,29,30,31] (fun x=>[]) (fun x=>x.1++x.2=xs) (fun x=>x.2.length) ([],xs) (by simp) ⟨⟨_,rfl,xap ?_⟩,trivial⟩ trivial (fun x=>rfl) (fun x hg1=>?_);focus ((simp_all;done))
 obtain⟨pre,rest⟩:=x;dsimp only at hg1 ⊢;refine evc [] [] ?_;refine sq ?_ ?_<;>intro h2 h2p h2s;try simp only[Q,Pat.cs_len] at h2p
 rcases rest with _|⟨y,rest⟩
 ·exfalso;simp_all
 refine xaT sl26 .none rfl rfl rfl rfl (Pat.cs_at' hg1) rfl ?_;refine ev ?_;refine ab 3008 tz28 ?_;refine ev ?_;refine so ty28 ?_;refine tv ?_;refine xaT sl26 .none rfl rfl rfl rfl (Pat.cs_at' hg1) rfl ?_;refine ev ?_;refine ab 3009 tz28 ?_;refine so ty28 ?_;refine tv ?_;refine xaG (cr:=[]) hcal (hf y (by rw[←hg1];simp)) rfl .none rfl rfl rfl (LeL.refl _) trivial rfl rfl rfl ?_;refine ev ?_;refine sq ?_ ?_<;>intro h3 h3p h3s;try simp only[Q,Pat.cs_len] at h3p
 exfalso;simp at h3;try simp only[Q,Pat.cs_len] at h3p
 refine ar ?_;refine Exists.intro ((pre++[y],rest)) ⟨(by have hz:=hg1;rw[←hz];simp),(by simp),sx ⟨⟨_,rfl,xap ?_⟩,trivial⟩ trivial⟩;focus ((simp_all;done))
 try simp only[Q,Pat.cs_len] at h2p
 have hrest:rest=[]:=by
  rcases rest with _|⟨a,b⟩
  ·rfl
  ·exfalso;have hz:=congrArg List.length (hg1);simp only[xaa,xab,xac] at hz;omega
 subst hrest;refine rn0 (r1 rfl) (.eqd ?_);rotate_left;all_goals (rfl)
theorem zfh:∀(n:Nat){p:Pat},p.size≤n→p.ok→FnD Tryz.prog 40 [.agg [.d (.i p.op),.d (.i p.ctor),.d (.i p.n),.d (.i p.m),.d (.i p.var),.d (zac p.kids)],.agg [.d (.i p.op),.d (.i p.ctor),.d (.i p.n),.d (.i p.m),.d (.i p.var),.d (zac p.kids)]] [] (.d (.bool true)) []
 |0,p,h,_=>by rw[Pat.size_eq] at h;omega
 |n+1,p,h,hok=>by
  rw[Pat.size_eq] at h;rw[Pat.ok_iff] at hok;refine bd Tryz.f40 45 [] [] fun w0 F0 own kept hk=>?_;refine bx 3002 ?_;refine bx 3003 ?_;refine ev ?_;refine sq ?_ ?_<;>intro h1 h1p h1s;try simp only[Q] at h1p
  refine sq ?_ ?_<;>intro h2 h2p h2s;try simp only[Q] at h2p
  refine sq ?_ ?_<;>intro h3 h3p h3s;try simp only[Q] at h3p
  refine sq ?_ ?_<;>intro h4 h4p h4s;try simp only[Q] at h4p
  refine sq ?_ ?_<;>intro h5 h5p h5s;try simp only[Q] at h5p
  refine Walk.call (cr:=[]) zyq (zhc hok.1 zwc (fun x hx=>zfh n (by have:=Pats.size_mem hx;omega) (Pats.ok_mem hok.2 x hx))) rfl (.some rfl rfl h5) rfl rfl (LeL.refl _) trivial rfl rfl rfl ?_;refine evs [] [(38,true)] ?_ ⟨⟨_,rfl,h5⟩,trivial⟩;focus (refine rn0 (r1 rfl) (.eqd ?_);all_goals ((simp_all;done)))
  try simp only[Q] at h5p
  focus (refine rn0 (r1 rfl) (.eqd ?_);all_goals ((simp_all;done)))
  try simp only[Q] at h4p
  refine sqF ?_;focus (refine rn0 (r1 rfl) (.eqd ?_);all_goals ((simp_all;done)))
  try simp only[Q] at h3p
  refine sqF ?_;refine sqF ?_;focus (refine rn0 (r1 rfl) (.eqd ?_);all_goals ((simp_all;done)))
  try simp only[Q] at h2p
  refine sqF ?_;refine sqF ?_;refine sqF ?_;focus (refine rn0 (r1 rfl) (.eqd ?_);all_goals ((simp_all;done)))
  try simp only[Q] at h1p
  refine sqF ?_;refine sqF ?_;refine sqF ?_;refine sqF ?_;focus (refine rn0 (r1 rfl) (.eqd ?_);all_goals ((simp_all;done)))
theorem zaN {l:List Pat} (hl:l.length≤1000000000000) (hok:∀p∈l,p.ok):FnD Tryz.prog 18 [.d (zac l),.d (zac l)] [] (.d (.bool true)) []:=by
 refine bd Tryz.f18 27 [] [] fun w0 F0 own kept hk=>?_;refine sq ?_ ?_<;>intro h1 h1p h1s;try simp only[Q,Pat.cs_len] at h1p
 exfalso;simp at h1;try simp only[Q,Pat.cs_len] at h1p
 refine xaj (ι:=List (Pat)×List (Pat)) hk (fun x=>[(5,.d (.i (x.1.length:Int)))]) [4,11,12,13,14,15,16,17,18,19,20,21,22,23,24,25,26] (fun x=>[]) (fun x=>x.1++x.2=l) (fun x=>x.2.length) ([],l) (by simp) ⟨⟨_,rfl,xap ?_⟩,trivial⟩ trivial (fun x=>rfl) (fun x hg1=>?_);focus ((simp_all;done))
 obtain⟨pre,rest⟩:=x;dsimp only at hg1 ⊢;refine evc [] [] ?_;refine sq ?_ ?_<;>intro h2 h2p h2s;try simp only[Q,Pat.cs_len] at h2p
 rcases rest with _|⟨y,rest⟩
 ·exfalso;simp_all
 refine xaT sl26 .none rfl rfl rfl rfl (Pat.cs_at' hg1) rfl ?_;refine evd [] [] ?_;refine xaT sl26 .none rfl rfl rfl rfl (Pat.cs_at' hg1) rfl ?_;refine evd [] [] ?_;refine wc zwc (zfh _ (Nat.le_refl _) (hok y (by rw[←hg1];simp))) rfl rfl ?_;refine evd [] [] ?_;refine dr ?_;refine sq ?_ ?_<;>intro h3 h3p h3s;try simp only[Q,Pat.cs_len] at h3p
 exfalso;simp at h3;try simp only[Q,Pat.cs_len] at h3p
 refine ar ?_;refine Exists.intro ((pre++[y],rest)) ⟨(by have hz:=hg1;rw[←hz];simp),(by simp),sx ⟨⟨_,rfl,xap ?_⟩,trivial⟩ trivial⟩;focus ((simp_all;done))
 try simp only[Q,Pat.cs_len] at h2p
 have hrest:rest=[]:=by
  rcases rest with _|⟨a,b⟩
  ·rfl
  ·exfalso;have hz:=congrArg List.length (hg1);simp only[xaa,xab,xac] at hz;omega
 subst hrest;refine rn0 (r1 rfl) (.eqd ?_);rotate_left;all_goals (rfl)
theorem zeR {w:List Data} (hs:WSmall w){a k:Int}{l:List Pat}{v:Val} (hl:l.length≤1000000000000) (hok:∀p∈l,p.ok) (hv:v.ok):
  FnD Tryz.prog 24 [.d (zam w),.agg [.d (.i a),.d (.i k)],.d (zac l),.agg [.d (.i v.ctor),.d (.i v.num),.d (zbJ v.kids)]] [] (.d (.i (l.countP (fun p=>(zaW w a k p v).2):Nat))) []:=by
 have hc:=fun(r:List Pat)=>List.countP_le_length (p:=fun p=>(zaW w a k p v).2) (l:=r);refine bd Tryz.f24 34 [] [] fun w0 F0 own kept hk=>?_;refine bx 3005 ?_;refine bx 3007 ?_;refine ev ?_;refine xaj (ι:=List (Pat)×List (Pat)) hk (fun x=>[(10,.d (.i (x.1.length:Int))),(9,.d (.i (x.1.countP (fun p=>(zaW w a k p v).2):Nat)))]) [11,12,13,14,15,16,17,18,19,20,21,22,23,24,25,26,27,28,29,30,31,32] (fun x=>[]) (fun x=>x.1++x.2=l) (fun x=>x.2.length) ([],l) (by simp) ⟨⟨_,rfl,xap ?_⟩,⟨⟨_,rfl,xap ?_⟩,trivial⟩⟩ trivial (fun x=>rfl) (fun x hg1=>?_);iterate 2 focus (first|rfl|(rw[List.countP_append,List.countP_singleton];simp_all;done))
 obtain⟨pre,rest⟩:=x;dsimp only at hg1 ⊢;refine evc [] [] ?_;refine sq ?_ ?_<;>intro h1 h1p h1s;try simp only[Q,Pat.cs_len] at h1p
 rcases rest with _|⟨y,rest⟩
 ·exfalso;simp_all
 refine xaT sl26 .none rfl rfl rfl rfl (Pat.cs_at' hg1) rfl ?_;refine evd [] [] ?_;refine wc zp0 (zcJ hs (hok y (by rw[←hg1];simp)) hv) rfl rfl ?_;refine evd [] [] ?_;refine dr ?_;refine sq ?_ ?_<;>intro h2 h2p h2s;try simp only[Q,Pat.cs_len] at h2p
 refine ar ?_ (by(have hcp:=hc pre;have hcl:=congrArg List.length hg1;simp only[xaa,xab] at hcl;constructor<;>omega));refine ar ?_ (by(have hcp:=hc pre;have hcl:=congrArg List.length hg1;simp only[xaa,xab] at hcl;constructor<;>omega));refine Exists.intro ((pre++[y],rest)) ⟨(by have hz:=hg1;rw[←hz];simp),(by simp),sx ⟨⟨_,rfl,xap ?_⟩,⟨⟨_,rfl,xap ?_⟩,trivial⟩⟩ trivial⟩;iterate 2 focus (first|(simp;done)|(rw[List.countP_append,List.countP_singleton];simp_all;done))
 try simp only[Q,Pat.cs_len] at h2p
 refine ar ?_ (by(have hcp:=hc pre;have hcl:=congrArg List.length hg1;simp only[xaa,xab] at hcl;constructor<;>omega));refine Exists.intro ((pre++[y],rest)) ⟨(by have hz:=hg1;rw[←hz];simp),(by simp),sx ⟨⟨_,rfl,xap ?_⟩,⟨⟨_,rfl,xap ?_⟩,trivial⟩⟩ trivial⟩;iterate 2 focus (first|(simp;done)|(rw[List.countP_append,List.countP_singleton];simp_all;done))
 try simp only[Q,Pat.cs_len] at h1p
 have hrest:rest=[]:=by
  rcases rest with _|⟨a,b⟩
  ·rfl
  ·exfalso;have hz:=congrArg List.length (hg1);simp only[xaa,xab,xac] at hz;omega
 subst hrest;refine rn0 (r1 rfl) (.eqd ?_);rotate_left;all_goals ((rw[List.append_nil] at hg1;subst hg1;rfl))
end Go.Proofs.YtpgdedpljcedpaaGreat
namespace Go.Proofs.YtpgdedpljcedpaaGreat
open Go
set_option linter.unusedSimpArgs false
set_option linter.unusedVariables false
section
variable {c:Ctx}{all:Array Oper}{chk:List Rec→Prop}{os:List Oper}{recs:List Rec}{env:Env}{hp:Hp}{Q:St→Prop}
variable {ty:Nat}{pos:String}{af:Array Edge}{g:Option (Nat×Bool)}{pg:List (Nat×AV)}{t:TypeId}{x:Operand}
theorem Walk.clearB {id off n k e yb:Nat}{cs cs' zs:List AV} (ht:SlT c.P t e k yb) (hz:TyZ c.P e k zs) (hzk:zs.length=k) (hk:0<k) (h1:ziB zs=true) (hg:GH all env g pg) (hx:opd env x=some (.mo id off n))
  (hb:getH hp id=some (.box cs)) (hput:putC cs off (zba n zs)=some cs')
  (hn:Walk c all chk os (zan (pg++opF x (.mo id off n)) [(id,.box cs)] [] ⟨none,[(id,some (.box cs'))]⟩::recs) ⟨env,(id,some (.box cs'))::hp⟩ Q):
  Walk c all chk (⟨none,.call ⟨.builtin .clear,#[x],#[t]⟩,ty,pos,af,g⟩::os) recs ⟨env,hp⟩ Q:=by
 refine⟨pg++opF x (.mo id off n),[(id,.box cs)],[],_, ?_,zaB hg.facts (zbc hx),hh1 hb,by simp,hn⟩;intro s a w hrel hp' hh _ K Q' hK;obtain⟨G,hr⟩:=hrel;have hbx:=hh1' hh;have e1:=hr.opd (zbd hx (fun p hm=>hp' p (by simp[hm])));obtain⟨bl,o,cap,hl,he,hcap,ho⟩:=e1.mo_eq;obtain⟨b',us,et,h2,h3,h4,h5,h6⟩:=hr.heap id _ hbx;obtain rfl:=zcY hl.1 h2;have hall:PreR G (tokf s.hp) w cs us:=⟨h4,h6⟩;unfold wpO;rw[if_pos (hg.gf.wanted hr (fun p hm=>hp' p (by simp[hm])))];unfold Oper.wp;rcases Nat.eq_zero_or_pos n with hn0|hn0
 ·subst hn0;have hcs:cs'=cs:=by
   simp only[zba] at hput;cases cs<;>simp only[putC,Option.some.injEq] at hput<;>exact hput.symm
  subst hcs;have hrun:(execOp a.eval ⟨none,.call ⟨.builtin .clear,#[x],#[t]⟩,ty,pos,af,g⟩).run c.P w = .ok (.value (.tuple #[])) w:=by
   simp[execOp,resolve,invoke,builtin,he,Builtin.clear_,run_underlying ht.und]
  rw[hrun,Oper.upon_value];refine hK _ _ ⟨G, ?_⟩;have hsame:∀i,getH ((id,some (Res.box cs'))::s.hp) i=getH s.hp i:=fun i=>by
   rw[zal];split
   ·rename_i e;subst e;exact hbx.symm
   ·rfl
  have htk:tokf ((id,some (Res.box cs'))::s.hp)=tokf s.hp:=by funext i;unfold tokf;rw[hsame]
  have:R c G ⟨s.env,(id,some (Res.box cs'))::s.hp⟩ a w:=
   ⟨hr.size,hr.defers,fun i v h=>by rw[htk];exact hr.slots i v h,fun i r h=>by rw[htk];exact hr.heap i r (by rw[←hsame];exact h),
   fun i j h1 h2=>hr.disj i j (by rw[←hsame];exact h1) (by rw[←hsame];exact h2),fun i h=>hr.new i (by rw[←hsame];exact h),hr.frm,hr.top,
   fun i l h'=>by
    show(G.loc i).head?=l.head?∧(getH ((id,some (Res.box cs'))::s.hp) i).isSome∧tokf ((id,some (Res.box cs'))::s.hp) i=none
    rw[hsame,htk];exact hr.kept i l h'⟩
  exact this.putNone
 ·obtain rfl:o=off:=ho.resolve_left (by omega);obtain⟨ie,z,z1,z2,z3,z4⟩:=hz.inf;have hz0:=zbX (G:=G) (T:=tokf s.hp) (w:=w) z4;have hzr:=zfv (by simpa using hz0) n (by omega);have hzs:z.cells.size=k:=by have:=hz0.size;simp at this;omega
  let vl:List Value:=(Builtin.zeroCells z.cells n).toList
  have hvl:vl.toArray=(Array.range (n*zs.length)).map (z.cells[· % z.cells.size]!):=by
   simp only[vl,Builtin.zeroCells,Array.toArray_toList];rw[hzs,hzk]
  have hvr:AllR G (tokf s.hp) w (zba n zs) vl.toArray:=by rw[hvl];exact hzr
  have hne:zba n zs≠[]:=fun h=>by
   have:=congrArg List.length h;rw[zeO] at this;have h2:0<n*zs.length:=Nat.mul_pos hn0 (by omega);simp only[xah] at this;omega
  obtain⟨p1,p2,p3⟩:=zdn hput;have p2':=p2.resolve_left hne;have hsz:=hvr.size;have hsv:vl.toArray.size=vl.length:=by simp only[List.size_toArray]
  simp only[List.size_toArray] at hsz;have hzone:∀i (hi:i<zs.length) (hv:i<z.cells.size),z.cells[i].oneCell'=true:=fun i hi hv=>by
   have:=hz0.rel i hi (by simpa using hv);simp only[List.getElem_toArray,Array.getElem_toList] at this;exact this.one (zi2 h1 _ (List.getElem_mem hi))
  have hst:=run_storeCells_at c.P bl o et vl 0 us w h3 (by omega) (fun u hu=>by
   simp only[vl,Builtin.zeroCells,Array.toList_map,List.mem_map] at hu;obtain⟨i,_,rfl⟩:=hu;have hm:i % z.cells.size<z.cells.size:=Nat.mod_lt _ (by omega);rw[getElem!_pos z.cells _ hm];exact hzone _ (by omega) hm)
  simp only[Nat.add_zero] at hst;have hrow:PreR G (tokf s.hp) w cs' (us.toList.take o++vl++us.toList.drop (o+vl.length)).toArray:=by
   refine hall.put hvr hput ?_ (fun i=>?_)
   ·simp only[List.size_toArray,xaa,List.length_take,List.length_drop,Array.length_toList];omega
   ·simp only[List.getElem?_toArray];rw[List.append_assoc,List.getElem?_append];simp only[List.length_take,Array.length_toList];by_cases hi:i<o
    ·rw[if_pos (by omega),if_neg (by omega)];simp[hi]
    ·rw[if_neg (by omega),List.getElem?_append];have hm:min o us.size=o:=by omega
     rw[hm];by_cases hi2:i<o+vl.length
     ·rw[if_pos (by omega),if_pos (by omega)]
     ·rw[if_neg (by omega),if_neg (by omega)];rw[List.getElem?_drop,show o+vl.length+(i-o-vl.length)=i by omega];simp
  have hrun:(execOp a.eval ⟨none,.call ⟨.builtin .clear,#[x],#[t]⟩,ty,pos,af,g⟩).run c.P w = .ok (.value (.tuple #[])) (w.setRow bl (us.toList.take o++vl++us.toList.drop (o+vl.length)).toArray):=by
   obtain⟨m,rfl⟩:∃m,n=m+1:=⟨n-1,by omega⟩;have hzv:(zeroValue e).run c.P w = .ok z w:=zmh z1 z3;simp only[vl] at hst;simp[execOp,resolve,invoke,builtin,he,Builtin.clear_,run_underlying ht.und,hzv,hst,vl]
  rw[hrun,Oper.upon_value];exact hK _ _ ⟨G,(hr.setBox hbx h2 h3 h5 hrow).putNone⟩
end
theorem zwU {G G':Gh}{T T':TokF}{w:World}{id n k b:Nat}{us:Array Value}{e:TypeId}{x:Value}{cs:List AV}{es:List (List D)} (hx:RelA G T w (.ms id n) x) (h1:G.loc id=[b]) (h2:w.heap[b]?=some (.cells us e (0,0))) (h3:cs.length≤us.size)
  (h5:∀i (hi:i<cs.length) (hv:i<us.size),RelA G T w cs[i] us[i]) (hFb:G'.F b=us.size) (hcell:∀y o,o<G.F y→o<G'.F y∧w.cell? ⟨y,o,none⟩=w.cell? ⟨y,o,none⟩) (hc:zbL n k (cs.take (n*k))=some es):RelA G' T' w (.d (.sl es)) x:=by
 obtain⟨c1,c2,c3,c4⟩:=zd7 hc;have c3':n*k≤cs.length:=by rw[List.length_take] at c3;omega
 obtain⟨b',cap,hl,he,hcap⟩:=hx.ms_eq;obtain rfl:=(zcY hl.1 h1).symm;rw[he];refine .d ?_;have hn':n=es.length:=c1.symm;rw[hn'];refine .sl es k b 0 cap (fun x=>us.getD x undef) c2 (by omega) (fun x hx=>?_) (fun i hi j hj=>?_)
 ·have h3':x<cs.length:=by rw[←c1] at c3';omega
  have hxs:x<us.size:=Nat.lt_of_lt_of_le h3' h3;refine⟨by rw[hFb];omega, ?_⟩;simp[World.cell?,h2,hxs]
 ·have hjk:j<k:=by rw[←c2 _ (List.getElem_mem hi)];exact hj
  have hltn:i*k+j<n*k:=by
   rw[←c1];have:(i+1)*k≤es.length*k:=Nat.mul_le_mul_right _ (by omega);rw[Nat.add_mul] at this;omega
  have hlt:i*k+j<cs.length:=by omega
  have hlu:i*k+j<us.size:=by omega
  have h8:=c4 i hi j hj (by rw[List.length_take];omega);rw[List.getElem_take] at h8;have h6:=(h5 _ hlt hlu).toD h8;have h7:us.getD (i*k+j) undef=us[i*k+j]:=by simp[Array.getD,hlu]
  rw[h7];exact h6.mono hcell
def zqT (env:Env) (hp:Hp) (j:Nat):Bool:=
 (match getH hp j with|none=>true|some _=>false)&&(env.all fun x=>match getE env x.1 with|some v=> !zbb j v.ids|none=>true)&&(hp.all fun x=>match getH hp x.1 with|some r=> !zbb j r.ids|none=>true)
theorem zqU:∀ {env:Env}{i:Nat}{v:AV},getE env i=some v→∃u,(i,u)∈env
 |(k,x)::r,i,v,h=>by
  simp only[getE] at h;cases hb:Nat.beq k i with
  |true=>obtain rfl:=Nat.eq_of_beq_eq_true hb;exact⟨x,by simp⟩
  |false=>
   simp only[hb,cond_false] at h;obtain⟨u,hu⟩:=zqU h;exact⟨u,List.mem_cons_of_mem _ hu⟩
theorem zrS {env:Env}{hp:Hp}{j:Nat} (h:zqT env hp j=true):getH hp j=none∧zdk j ⟨env,hp⟩:=by
 simp only[zqT,xad,List.all_eq_true] at h;obtain⟨⟨h1,h2⟩,h3⟩:=h;refine⟨?_,fun i v hv hm=>?_,fun i r hr hm=>?_⟩
 ·cases hg:getH hp j with
  |none=>rfl
  |some x=>simp[hg] at h1
 ·obtain⟨u,hu⟩:=zqU hv;have:=h2 _ hu;rw[show getE env (i,u).1=some v from hv] at this;change (!zbb j v.ids)=true at this
  rw[za4.2 hm] at this;cases this
 ·obtain⟨u,hu⟩:=zji hr;have:=h3 _ hu;rw[show getH hp (i,u).1=some r from hr] at this;change (!zbb j r.ids)=true at this
  rw[za4.2 hm] at this;cases this
theorem CWp.tokDrop {c:Ctx}{env:Env}{hp:Hp}{K:Kt}{code:Code} (t i:Nat){n k:Nat}{xs:List (List D)} (ht:getE env t=some (.gl i xs)) (hi:getH hp i=some (.tok n k))
  (hn:CWp c code ⟨(t,.d (.sl xs))::env,(i,none)::hp⟩ K):CWp c code ⟨env,hp⟩ K:=by
 rintro a w ⟨G,hr⟩
 have g1:∀x,x≠i→getH ((i,none)::hp) x=getH hp x:=fun x h1=>by rw[zal,if_neg h1]
 have gi:getH ((i,none)::hp) i=none:=by rw[zal,if_pos rfl]
 have Ti:tokf hp i=some (n,k):=zaw.2 hi;have Ti':tokf ((i,none)::hp) i=none:=by unfold tokf;rw[gi]
 have hT:Turn c G ⟨env,hp⟩ w G ((i,none)::hp) [i]:=by
  refine⟨fun x hx=>?_,fun x hx=>rfl,fun b _=>rfl,fun b o ho=>ho,hr.top,fun x hx=>?_,fun x hx hs b hb=>?_,fun x hx y hy hxy h1 h2 b hb=>?_,fun x hx l hl=>?_⟩
  ·simp only[List.mem_cons,List.not_mem_nil,or_false] at hx;exact g1 x hx
  ·simp only[List.mem_cons,List.not_mem_nil,or_false] at hx;subst hx;exact .inr ⟨.inl rfl,fun p hp'=>by rw[Ti'] at hp';cases hp'⟩
  ·simp only[List.mem_cons,List.not_mem_nil,or_false] at hx;subst hx;rw[gi] at hs;cases hs
  ·simp only[List.mem_cons,List.not_mem_nil,or_false] at hx hy;exact absurd (hx.trans hy.symm) hxy
  ·have hk:=hr.kept x l hl;simp only[List.mem_cons,List.not_mem_nil,or_false] at hx;subst hx;have:=hk.2.2;rw[show tokf (St.mk env hp).hp x=some (n,k) from Ti] at this;cases this
 have hR:=hT.fin hr (fun x hx r hxr=>by
  simp only[List.mem_cons,List.not_mem_nil,or_false] at hx;subst hx;rw[gi] at hxr;cases hxr)
 refine hn a w ⟨G,hR.slot ?_⟩;have hs:=hr.slots t _ ht;cases hs with
 |gl h h2=>exact .d h
theorem R.tokMove {c:Ctx}{G:Gh}{s:St}{a:Act}{w:World} (hr:R c G s a w) (i j:Nat){n k:Nat} (m:Nat) (hi:getH s.hp i=some (.tok n k)) (h0:getH s.hp j=none) (hocc:zdk j s):
  ∃G':Gh,R c G' ⟨s.env,(j,some (.tok m k))::(i,none)::s.hp⟩ a w∧G'.F=G.F∧G'.loc j=G.loc i∧tokf ((j,some (Res.tok m k))::(i,none)::s.hp) j=some (m,k):=by
 have hji:j≠i:=fun e=>by subst e;rw[h0] at hi;cases hi
 have g1:∀x,x≠j→x≠i→getH ((j,some (Res.tok m k))::(i,none)::s.hp) x=getH s.hp x:=fun x h1 h2=>by
  rw[zal,if_neg h1,zal,if_neg h2]
 have gj:getH ((j,some (Res.tok m k))::(i,none)::s.hp) j=some (.tok m k):=by rw[zal,if_pos rfl]
 have gi:getH ((j,some (Res.tok m k))::(i,none)::s.hp) i=none:=by rw[zal,if_neg (fun e=>hji e.symm),zal,if_pos rfl]
 have Ti:tokf s.hp i=some (n,k):=zaw.2 hi;have Tj:tokf ((j,some (Res.tok m k))::(i,none)::s.hp) j=some (m,k):=zaw.2 gj;have Ti':tokf ((j,some (Res.tok m k))::(i,none)::s.hp) i=none:=by unfold tokf;rw[gi]
 let G':Gh:={ G with loc:=fun x=>bif Nat.beq x j then G.loc i else G.loc x }
 have lj:G'.loc j=G.loc i:=by simp[G']
 have lo:∀x,x≠j→G'.loc x=G.loc x:=fun x h=>by simp[G',zgv h]
 have hsi:(getH s.hp i).isSome:=by rw[hi];rfl
 have hT:Turn c G s w G' ((j,some (Res.tok m k))::(i,none)::s.hp) [i,j]:=by
  refine⟨fun x hx=>?_,fun x hx=>?_,fun b _=>rfl,fun b o ho=>ho,hr.top,fun x hx=>?_,fun x hx hs b hb=>?_,fun x hx y hy hxy h1 h2 b hb=>?_,fun x hx l hl=>?_⟩
  ·simp only[List.mem_cons,List.not_mem_nil,or_false,not_or] at hx;exact g1 x hx.2 hx.1
  ·simp only[List.mem_cons,List.not_mem_nil,or_false,not_or] at hx;exact lo x hx.2
  ·simp only[List.mem_cons,List.not_mem_nil,or_false] at hx;rcases hx with rfl|rfl
   ·exact .inr ⟨.inl (lo _ (fun e=>hji e.symm)),fun p hp'=>by rw[Ti'] at hp';cases hp'⟩
   ·exact .inl hocc
  ·simp only[List.mem_cons,List.not_mem_nil,or_false] at hx;rcases hx with rfl|rfl
   ·rw[gi] at hs;cases hs
   ·exact⟨i,by simp,hsi,by rw[lj] at hb;exact hb⟩
  ·simp only[List.mem_cons,List.not_mem_nil,or_false] at hx hy;rcases hx with rfl|rfl
   ·rw[gi] at h1;cases h1
   ·rcases hy with rfl|rfl
    ·rw[gi] at h2;cases h2
    ·exact absurd rfl hxy
  ·have hk:=hr.kept x l hl;simp only[List.mem_cons,List.not_mem_nil,or_false] at hx;rcases hx with rfl|rfl
   ·have:=hk.2.2;rw[Ti] at this;cases this
   ·have:=hk.2.1;rw[h0] at this;cases this
 have hR:=hT.fin hr (fun x hx r hxr=>by
  simp only[List.mem_cons,List.not_mem_nil,or_false] at hx;rcases hx with rfl|rfl
  ·rw[gi] at hxr;cases hxr
  ·rw[gj] at hxr;cases hxr;intro b hb;rw[lj] at hb;exact hr.heap i _ hi b hb)
 exact⟨G',hR,rfl,lj,Tj⟩
theorem CWp.tokRen {c:Ctx}{env:Env}{hp:Hp}{K:Kt}{code:Code} (t i j:Nat){n k:Nat}{xs:List (List D)} (ht:getE env t=some (.gl i xs)) (hi:getH hp i=some (.tok n k)) (hf:zqT env hp j=true)
  (hn:CWp c code ⟨(t,.gl j xs)::env,(j,some (.tok n k))::(i,none)::hp⟩ K):CWp c code ⟨env,hp⟩ K:=by
 rintro a w ⟨G,hr⟩
 obtain⟨h0,hocc⟩:=zrS hf;have Ti:tokf hp i=some (n,k):=zaw.2 hi;obtain⟨G',hR,hF,lj,Tj⟩:=hr.tokMove i j n hi h0 hocc;refine hn a w ⟨G',hR.slot ?_⟩;have hs:=hr.slots t _ ht;cases hs with
 |gl h h2=>
  refine .gl (by rw[hF];exact h) (fun n' k' hT'=>?_);have hT2:tokf ((j,some (Res.tok n k))::(i,none)::hp) j=some (n',k'):=hT';rw[Tj] at hT2;cases hT2
  obtain⟨q1,q2⟩:=h2 n k Ti;refine⟨q1,fun hn'=>⟨(q2 hn').1, ?_⟩⟩;have:=(q2 hn').2;unfold Tip at this ⊢;rw[lj,hF];exact this
section
variable {c:Ctx}{all:Array Oper}{chk:List Rec→Prop}{os:List Oper}{recs:List Rec}{env:Env}{hp:Hp}{Q:St→Prop}
variable {d ty:Nat}{pos:String}{af:Array Edge}{g:Option (Nat×Bool)}{pg:List (Nat×AV)}{t:TypeId}{x:Operand}
theorem xaM {id e k yb:Nat} (j:Nat){xs:List (List D)}{o:Operand}{kd:IntKind}{n:Int}{b:Nat} (ht:SlT c.P t e k yb) (hg:GH all env g pg) (hd:Nat.blt d c.n=true)
  (hx:opd env x=some (.gv id xs)) (htok:getH hp id=some (.tok xs.length k)) (ho:opd env o=some (.d (.int kd n))) (hi:n = ↑b) (hb:b≤xs.length) (hpos:0<xs.length) (hf:zaA env hp [j]=true)
  (hn:Walk c all chk os (zan (pg++(opF x (.gv id xs)++opF o (.d (.int kd n)))) [(id,.tok xs.length k)] [j] ⟨some (d,.gv j (xs.take b)),[(j,some (.tok b k)),(id,none)]⟩::recs)
   ⟨(d,.gv j (xs.take b))::env,(j,some (.tok b k))::(id,none)::hp⟩ Q):
  Walk c all chk (⟨some d,.slice t x none (some o) none,ty,pos,af,g⟩::os) recs ⟨env,hp⟩ Q:=by
 refine⟨pg++(opF x (.gv id xs)++opF o (.d (.int kd n))),[(id,.tok xs.length k)],[j],_, ?_,zaB hg.facts (zaB (zbc hx) (zbc ho)),hh1 htok,zbx hf,hn⟩;intro s a w hrel hp' hh hcr K Q' hK;obtain⟨G,hr⟩:=hrel;have e1:=hr.opd (zbd hx (fun p hm=>hp' p (by simp[hm])));have e2:=hr.opd (zbd ho (fun p hm=>hp' p (by simp[hm])));have htk:=hh1' hh;obtain⟨h0,hocc⟩:=hcr j (by simp);obtain⟨⟨ad,cap0,hv0⟩,hcl⟩:=e1.gv_inv;have Ti:tokf s.hp id=some (xs.length,k):=zaw.2 htk;obtain⟨hkx,htip⟩:=(hcl _ _ Ti).2 rfl;rcases htip with ⟨_,q2,_⟩|⟨bl,cap,cs,et,q1,q2,q3,q4,q5,q6,q7⟩
 ·omega
 obtain⟨G',hR,hF,lj,Tj⟩:=hr.tokMove id j b htk h0 hocc;unfold wpO;rw[if_pos (hg.gf.wanted hr (fun p hm=>hp' p (by simp[hm])))];unfold Oper.wp;have hbd:=zeL (P:=c.P) (w:=w) true xs.length cap (lo:=none) (hi:=some (.int kd b)) (a:=0) (b:=b) (.inl ⟨rfl,rfl⟩) (.inr ⟨kd,rfl⟩) (Nat.zero_le _) (by omega);have hrun:(execOp a.eval ⟨some d,.slice t x none (some o) none,ty,pos,af,g⟩).run c.P w = .ok (.value (.slice (some ⟨bl,0,none⟩) b cap)) w:=by
  simp only[execOp,e2.int_eq,hi,q2,Option.map_none,Option.map_some,Instr.sliceAt,Sem.run_bind,run_underlying ht.und,Result.andThen_ok,Instr.slice,hbd,ht.run_size,Sem.run_pure,Nat.zero_mul,Nat.sub_zero,zcU,Nat.zero_add,ite_self]
 rw[hrun,Oper.upon_value];have hl:(xs.take b).length=b:=by rw[List.length_take];omega
 have hA:RelA G' (tokf ((j,some (Res.tok b k))::(id,none)::s.hp)) w (.gv j (xs.take b)) (.slice (some ⟨bl,0,none⟩) b cap):=by
  refine .gv ⟨some ⟨bl,0,none⟩,cap,by rw[hl]⟩ (fun n' k' hT'=>?_);rw[Tj] at hT';cases hT'
  refine⟨by omega,fun _=>⟨fun y hy=>hkx y (List.mem_of_mem_take hy),.inr ⟨bl,cap,cs,et,by rw[lj];exact q1,rfl,by rw[hF];exact q3,q4,q5,by omega,fun i hi' jj hj'=>?_⟩⟩⟩;have hix:i<xs.length:=by rw[hl] at hi';omega
  have h9:=q7 i hix jj (by simpa [List.getElem_take] using hj');rw[hF];simpa [List.getElem_take] using h9
 exact hK _ _ ⟨G',hR.put hA hd⟩
end
theorem FnD.glD {P:Program}{f:FuncId}{i n k:Nat}{args:List AV}{xs:List (List D)} (h:FnD P f args [] (.gl i xs) [(i,some (.tok n k))]):FnD P f args [] (.d (.sl xs)) []:=by
 intro G w vals hok;refine(h G w vals hok).mono ?_;rintro e w' ⟨v,r',hp',G',rfl,⟨rfl,rfl⟩,hret⟩
 refine⟨v,_,_,G',rfl,⟨rfl,rfl⟩, ?_,fun id x hx=>(by cases hx),fun id id' h1=>(by cases h1),fun id h1=>(by cases h1),hret.frm,hret.top,fun id hi=>(by simp[zb9,getH] at hi)⟩;have:=hret.res;cases this with
 |gl h1 h2=>exact .d h1
theorem FnD.gvRen {P:Program}{f:FuncId}{i k:Nat} (j:Nat){args:List AV}{xs:List (List D)} (h:FnD P f args [] (.gv i xs) [(i,some (.tok xs.length k))]):FnD P f args [] (.gv j xs) [(j,some (.tok xs.length k))]:=by
 intro G w vals hok;refine(h G w vals hok).mono ?_;rintro e w' ⟨v,r',hp',G',rfl,⟨rfl,rfl⟩,hret⟩
 have gi:getH ([(i,some (Res.tok xs.length k))]++[]) i=some (.tok xs.length k):=by simp[getH]
 have gj:∀x,(getH ([(j,some (Res.tok xs.length k))]++[]) x).isSome→x=j:=fun x hx=>by
  by_cases e:j=x
  ·exact e.symm
  ·simp[getH,zgv e] at hx
 have Ti:tokf ([(i,some (Res.tok xs.length k))]++[]) i=some (xs.length,k):=zaw.2 gi;let G2:Gh:={ G' with loc:=fun x=>G'.loc i }
 refine⟨v,_,_,G2,rfl,⟨rfl,rfl⟩, ?_,fun id x hx=>?_,fun id id' h1 h2 hne=>absurd ((gj id h1).trans (gj id' h2).symm) hne,fun id h1 b hb=>hret.new i (by rw[gi];rfl) b hb,hret.frm,hret.top,fun id hi=>(by simp[zb9,getH] at hi)⟩
 ·have:=hret.res;cases this with
  |gv hv h2=>
   refine .gv hv (fun n' k' hT'=>?_);have hT2:=zaw.1 hT';have e1:Res.tok xs.length k=Res.tok n' k':=by simp[getH] at hT2;rw[hT2.1,hT2.2]
   cases e1
   obtain⟨q1,q2⟩:=h2 _ _ Ti;refine⟨q1,fun hn'=>⟨(q2 hn').1, ?_⟩⟩;have:=(q2 hn').2;unfold TipV at this ⊢;exact this
 ·have e1:=gj id (by rw[hx];rfl);subst e1;have e2:x=Res.tok xs.length k:=by simp[getH] at hx;exact hx.symm
  subst e2;intro b hb;exact hret.heap i _ gi b hb
theorem FnD.gvD {P:Program}{f:FuncId}{i k:Nat}{args:List AV}{xs:List (List D)} (h:FnD P f args [] (.gv i xs) [(i,some (.tok xs.length k))]):FnD P f args [] (.d (.sl xs)) []:=by
 intro G w vals hok;refine(h G w vals hok).mono ?_;rintro e w' ⟨v,r',hp',G',rfl,⟨rfl,rfl⟩,hret⟩
 have gi:getH ([(i,some (Res.tok xs.length k))]++[]) i=some (.tok xs.length k):=by simp[getH]
 have Ti:tokf ([(i,some (Res.tok xs.length k))]++[]) i=some (xs.length,k):=zaw.2 gi;have hown:∀b,b∉zc1 G []:=fun b hb=>by simp[zc1] at hb
 have hnew:∀b,b∈G'.loc i→w.heap.size≤b:=fun b hb=>(hret.new i (by rw[gi];rfl) b hb).resolve_left (hown b);have hlt:∀b,b∈G'.loc i→b<w'.heap.size:=hret.heap i _ gi;have hres:=hret.res;obtain⟨hv,hcl⟩:=hres.gv_inv;obtain⟨hkx,htip⟩:=(hcl _ _ Ti).2 rfl;rcases htip with ⟨_,q2,q3⟩|⟨bl,cap,cs,et,q1,q2,q3,q4,q5,q6,q7⟩
 ·have hxs:xs=[]:=List.eq_nil_of_length_eq_zero q2;subst hxs;refine⟨v,_,_,G',rfl,⟨rfl,rfl⟩, ?_,fun id x hx=>(by cases hx),fun id id' h1=>(by cases h1),fun id h1=>(by cases h1),hret.frm,hret.top,fun id hi=>(by simp[zb9,getH] at hi)⟩;rw[q3];exact .d .nil
 ·let G2:Gh:={ G' with F:=fun x=>bif Nat.beq x bl then cs.size else G'.F x }
  have hin:G2.F bl=cs.size:=by simp[G2]
  have hout:∀x,x≠bl→G2.F x=G'.F x:=fun x hx=>by simp[G2,zgv hx]
  have hbl:bl∈G'.loc i:=by rw[q1];simp
  have hle:∀b o,o<G'.F b→o<G2.F b:=fun x o ho=>by
   by_cases hx:x=bl
   ·subst hx;rw[q3] at ho;omega
   ·rw[hout x hx];exact ho
  refine⟨v,_,_,G2,rfl,⟨rfl,rfl⟩, ?_,fun id x hx=>(by cases hx),fun id id' h1=>(by cases h1),fun id h1=>(by cases h1), ?_,fun x hx=>?_,fun id hi=>(by simp[zb9,getH] at hi)⟩
  ·rw[q2];have hsz:xs.length*k≤cs.size:=Nat.le_trans (Nat.mul_le_mul_right _ q6) q5;refine .d (.sl xs k bl 0 cap (fun n=>cs.getD n undef) hkx q6 (fun q hq=>⟨by rw[hin];omega, ?_⟩) (fun q hq jj hj=>?_))
   ·have:q<cs.size:=by omega
    simp[World.cell?,q4,this]
   ·exact(q7 q hq jj hj).mono (fun b o ho=>⟨hle b o ho,rfl⟩)
  ·have hf:=hret.frm;exact⟨hf.os,hf.tape,hf.output,hf.size,fun x hx hn=>⟨(hf.block x hx hn).1,by
    rw[hout x (fun e=>by subst e;have:=hnew x hbl;omega)];exact(hf.block x hx hn).2⟩,fun x o ho=>⟨hle x o (hf.cell x o ho).1,(hf.cell x o ho).2⟩⟩
  ·by_cases hx':x=bl
   ·subst hx';have:=hlt x hbl;omega
   ·rw[hout x hx'];exact hret.top x hx
theorem zpJ {zs:List AV}:∀ {n i j:Nat},i<n→j<zs.length→(zba n zs)[i*zs.length+j]?=zs[j]?
 |n+1,0,j,_,hj=>by
  simp only[zba,Nat.zero_mul,Nat.zero_add];rw[List.getElem?_append_left hj]
 |n+1,i+1,j,hi,hj=>by
  simp only[zba];rw[List.getElem?_append_right (by rw[Nat.add_mul];omega),show(i+1)*zs.length+j-zs.length=i*zs.length+j by rw[Nat.add_mul];omega];exact zpJ (by omega) hj
section
variable {c:Ctx}
theorem R.freshV {G:Gh}{s:St}{a:Act}{w:World} (hr:R c G s a w){id k nc:Nat}{es:List (List D)}{cells:Array Value}{e:TypeId} (htok:getH s.hp id=some (.tok 0 k)) (hpos:0<es.length)
  (hk:∀x,x∈es→x.length=k) (hcs:cells.size=nc*k) (hn:es.length≤nc)
  (hrow:∀i (hi:i<es.length) j (hj:j<es[i].length),RelD G.F w es[i][j] (cells.getD (i*k+j) undef)):
  ∃G',R c G' { s with hp:=(id,some (.tok es.length k))::s.hp } a (w.drew.alloc (.cells cells e))∧
   RelA G' (tokf ((id,some (.tok es.length k))::s.hp)) (w.drew.alloc (.cells cells e)) (.gv id es) (.slice (some ⟨w.heap.size,0,none⟩) es.length nc):=by
 let G':Gh:={ F:=G.F,loc:=fun j=>bif Nat.beq j id then [w.heap.size] else G.loc j }
 have hlt:∀b o,o<G.F b→b<w.heap.size:=fun b o ho=>by
  rcases Nat.lt_or_ge b w.heap.size with h|h
  ·exact h
  ·rw[hr.top b h] at ho;omega
 have hcell:∀b o,o<G.F b→o<G'.F b∧(w.drew.alloc (.cells cells e)).cell? ⟨b,o,none⟩=w.cell? ⟨b,o,none⟩:=fun b o ho=>by
  have hb:=hlt b o ho;exact⟨ho,by rw[World.cell?_alloc_lt w.drew _ _ hb];rfl⟩
 have hlocne:∀j,j≠id→G'.loc j=G.loc j:=fun j hj=>by
  have:Nat.beq j id=false:=by
   cases h:Nat.beq j id with
   |true=>exact absurd (Nat.eq_of_beq_eq_true h) hj
   |false=>rfl
  simp[G',this]
 have hlocid:G'.loc id=[w.heap.size]:=by simp[G']
 have hT':tokf ((id,some (.tok es.length k))::s.hp) id=some (es.length,k):=zaw.2 (by rw[zal,if_pos rfl]);refine⟨G',hr.retok (G':=G') htok hpos hcell hlocne (fun b hb _=>⟨zeS (w:=w.drew) hb,rfl⟩) (fun b hb=>by rw[hlocid] at hb;simp at hb;subst hb;simp)
  (fun b hb=>by rw[hlocid] at hb;simp at hb;exact .inr (by omega)) rfl rfl rfl (by simp) (fun b hb=>?_), ?_⟩
 ·have hb':w.heap.size+1≤b:=by simpa using hb
  exact hr.top b (by omega)
 refine .gv ⟨_,_,rfl⟩ (fun n' k' hm'=>?_);rw[hT'] at hm';cases hm'
 exact⟨Nat.le_refl _,fun _=>⟨hk,.inr ⟨w.heap.size,nc,cells,e,hlocid,rfl,hr.top _ (Nat.le_refl _),ze5 (w:=w.drew),by rw[hcs];exact Nat.le_refl _,hn,fun i hi j hj=>(hrow i hi j hj).mono hcell⟩⟩⟩
end
section
variable {c:Ctx}{all:Array Oper}{chk:List Rec→Prop}{os:List Oper}{recs:List Rec}{env:Env}{hp:Hp}{Q:St→Prop}
variable {d ty:Nat}{pos:String}{af:Array Edge}{g:Option (Nat×Bool)}{pg:List (Nat×AV)}{t:TypeId}{x y:Operand}
theorem RelA.nils_eq {G:Gh}{T:TokF}{w:World}{v:Value} (h:RelA G T w .nils v):v = .slice none 0 0:=by cases h;rfl
theorem Walk.capN {at_ e k yb:Nat} (ht:SlT c.P at_ e k yb) (hg:GH all env g pg) (hd:Nat.blt d c.n=true) (hx:opd env x=some .nils)
  (hn:Walk c all chk os (zan (pg++opF x .nils) [] [] ⟨some (d,.d (.i 0)),[]⟩::recs) ⟨(d,.d (.i 0))::env,hp⟩ Q):
  Walk c all chk (⟨some d,.call ⟨.builtin .cap,#[x],#[at_]⟩,ty,pos,af,g⟩::os) recs ⟨env,hp⟩ Q:=
 xba hg hd hx (fun a G T w h=>⟨.int .i64 (0:Nat),by
  simp[execOp,resolve,invoke,builtin,h.nils_eq,Builtin.cap_,run_underlying ht.und,goInt],.d (.int _ _)⟩) hn
theorem Walk.cutN_h {e k yb:Nat}{o:Operand}{kd:IntKind} (ht:SlT c.P t e k yb) (hg:GH all env g pg) (hd:Nat.blt d c.n=true)
  (hx:opd env x=some .nils) (ho:opd env o=some (.d (.int kd 0)))
  (hn:Walk c all chk os (zan (pg++(opF x .nils++opF o (.d (.int kd 0)))) [] [] ⟨some (d,.nils),[]⟩::recs) ⟨(d,.nils)::env,hp⟩ Q):
  Walk c all chk (⟨some d,.slice t x none (some o) none,ty,pos,af,g⟩::os) recs ⟨env,hp⟩ Q:=by
 refine xbb hg hd hx ho (fun a G T w h1 h2=>⟨.slice none 0 0, ?_,.nils⟩) hn;have hbd:=zeL (P:=c.P) (w:=w) true 0 0 (lo:=none) (hi:=some (.int kd (0:Nat))) (a:=0) (b:=0) (.inl ⟨rfl,rfl⟩) (.inr ⟨kd,rfl⟩) (Nat.le_refl _) (Nat.le_refl _);have e2:a.eval o = .int kd ((0:Nat):Int):=h2.int_eq;simp only[execOp,e2,h1.nils_eq,Option.map_none,Option.map_some,Instr.sliceAt,Sem.run_bind,run_underlying ht.und,Result.andThen_ok,Instr.slice,hbd,ht.run_size,Sem.run_pure,Nat.zero_mul,Nat.sub_zero,ite_self]
theorem Walk.growZ {e k yb n:Nat} (id:Nat){zs:List AV}{zr:List D}{tn:TypeId}{kn:IntKind}{m:Int} (ht:SlT c.P t e k yb) (htn:c.P.underlying tn=some (.int kn)) (hz:TyZ c.P e k zs) (hzk:zs.length=k) (hk:0<k) (hzr:toDL zs=some zr)
  (hg:GH all env g pg) (hd:Nat.blt d c.n=true) (hx:opd env x=some .nils) (hy:opd env y=some (.d (.i m))) (hm:m = ↑n) (hn0:0<n) (hb:n*yb≤281474976710656) (h63:(n:Int)≤9223372036854775807) (hf:zaA env hp [id]=true)
  (hn:Walk c all chk os (zan (pg++(opF x .nils++opF y (.d (.i m)))) [] [id] ⟨some (d,.gv id (List.replicate n zr)),[(id,some (.tok n k)),(id,some (.tok 0 k))]⟩::recs)
   ⟨(d,.gv id (List.replicate n zr))::env,(id,some (.tok n k))::(id,some (.tok 0 k))::hp⟩ Q):
  Walk c all chk (⟨some d,.call ⟨.builtin .append,#[x,y],#[t,tn]⟩,ty,pos,af,g⟩::os) recs ⟨env,hp⟩ Q:=by
 refine⟨pg++(opF x .nils++opF y (.d (.i m))),[],[id],_, ?_,zaB hg.facts (zaB (zbc hx) (zbc hy)),by simp,zbx hf,hn⟩;intro s a w hrel hp' hh hcr K Q' hK;obtain⟨G,hr⟩:=hrel;have e1:=(hr.opd (zbd hx (fun p hm=>hp' p (by simp[hm])))).nils_eq;have e2:=(hr.opd (zbd hy (fun p hm=>hp' p (by simp[hm])))).int_eq;obtain⟨h0,hocc⟩:=hcr id (by simp);obtain⟨G1,hr1,_⟩:=hr.mkTokV k h0 hocc;obtain⟨ie,hi1,hi2,hi3⟩:=ht.inf;obtain⟨i',z,z1,z2,z3,z4⟩:=hz.inf;rw[hi1] at z1;cases z1
 have hrun:=Go.Lib.run_append_nil_zeros (P:=c.P) w t tn ty e ie z .i64 kn ht.und htn hi1 z3 n hn0 (by omega) h63 (by rw[hi3];exact hb);have hz0:=zbX (G:=G1) (T:=tokf ((id,some (.tok 0 k))::s.hp)) (w:=w) z4;have hzz:=zfv (by simpa using hz0) n (by omega);obtain⟨c1,c2⟩:=ziq hzr;have hsz:z.cells.size=k:=by have:=hz0.1;simp at this;omega
 have hle:n≤grownCap w n 0 e:=by have:=grownCap_ge w n 0 e;omega
 have ez:Builtin.zeroCells z.cells n=(Array.range (n*zs.length)).map (z.cells[· % z.cells.size]!):=by
  unfold Builtin.zeroCells;rw[hsz,hzk]
 rw[←ez] at hzz;have hl:(List.replicate n zr).length=n:=List.length_replicate;have hcs:(Builtin.zeroCells z.cells n++Builtin.zeroCells z.cells (grownCap w n 0 e-n)).size=grownCap w n 0 e*k:=by
  simp only[Array.size_append,size_zeroCells,hsz,←Nat.add_mul];congr 1;omega
 have key:∀i (hi:i<(List.replicate n zr).length) j (hj:j<(List.replicate n zr)[i].length),RelD G1.F w (List.replicate n zr)[i][j] ((Builtin.zeroCells z.cells n++Builtin.zeroCells z.cells (grownCap w n 0 e-n)).getD (i*k+j) undef):=by
  intro i hi j hj;have hi2:i<n:=by simpa using hi
  have hj2:j<zr.length:=by simpa using hj
  have hj3:j<zs.length:=by omega
  have hlt:i*k+j<(Builtin.zeroCells z.cells n).size:=by
   rw[size_zeroCells,hsz];have:(i+1)*k≤n*k:=Nat.mul_le_mul_right _ (by omega);rw[Nat.add_mul] at this;omega
  have hlz:i*k+j<(zba n zs).length:=by have:=hzz.1;rw[←this];exact hlt
  have h5:=hzz.2 (i*k+j) hlz hlt;have h6:=zpJ (zs:=zs) hi2 hj3;rw[hzk,List.getElem?_eq_getElem hlz,List.getElem?_eq_getElem hj3] at h6;rw[Option.some.inj h6] at h5;have h7:=h5.toD (c2 j hj3 hj2);have e5:(Builtin.zeroCells z.cells n++Builtin.zeroCells z.cells (grownCap w n 0 e-n)).getD (i*k+j) undef=(Builtin.zeroCells z.cells n)[i*k+j]:=by
   rw[Array.getD_eq_getD_getElem?,Array.getElem?_append_left hlt,Array.getElem?_eq_getElem hlt];rfl
  rw[e5];simp only[List.getElem_replicate];exact h7
 obtain⟨G',hR,hA⟩:=hr1.freshV (nc:=grownCap w n 0 e) (e:=e) (es:=List.replicate n zr) (by rw[zal,if_pos rfl]) (by rw[hl];exact hn0) (fun y hy=>by obtain⟨_,rfl⟩:=List.mem_replicate.1 hy;omega) hcs (by rw[hl];exact hle) key;rw[hl] at hR hA;unfold wpO;rw[if_pos (hg.gf.wanted hr (fun p hm=>hp' p (by simp[hm])))];unfold Oper.wp;have:(execOp a.eval ⟨some d,.call ⟨.builtin .append,#[x,y],#[t,tn]⟩,ty,pos,af,g⟩).run c.P w = .ok (.value (.slice (some ⟨w.heap.size,0,none⟩) n (grownCap w n 0 e))) (w.drew.alloc (.cells (Builtin.zeroCells z.cells n++Builtin.zeroCells z.cells (grownCap w n 0 e-n)) e)):=by
  simp only[execOp,resolve,invoke,builtin,Sem.run_bind,Sem.run_pure,Result.andThen_ok,List.map_toArray,xae,List.map_nil,e1,e2,hm,hrun]
 rw[this,Oper.upon_value];exact hK _ _ ⟨G',hR.put hA hd⟩
end
end Go.Proofs.YtpgdedpljcedpaaGreat
namespace Go.Proofs.YtpgdedpljcedpaaGreat
open Go
set_option linter.unusedSimpArgs false
set_option linter.unusedVariables false
set_option maxRecDepth 100000
set_option maxHeartbeats 2000000
mutual
def cntE (m:Int):Ex→Int
 | .mk _ _ _ ks=>zeC m 1 ks
def zeC (m n:Int):List Ex→Int
 | []=>n
 |k::r=>if n≤m then zeC m (n+cntE (m-n) k) r else n
end
theorem zta {m n:Int}{l:List Ex} (h:¬n≤m):zeC m n l=n:=by cases l<;>simp[zeC,h]
mutual
theorem zsf:∀(v:Ex) (m:Int),1≤cntE m v∧cntE m v≤v.size
 | .mk _ _ _ ks,m=>by
  have:=zlU ks m 1 (by omega);simp only[cntE,Ex.size];push_cast;omega
theorem zlU:∀(l:List Ex) (m n:Int),1≤n→1≤zeC m n l∧zeC m n l≤n+Exs.size l
 | [],m,n,h=>by simp[zeC,Exs.size];omega
 |k::r,m,n,h=>by
  have h1:=zsf k (m-n);have h2:=zlU r m (n+cntE (m-n) k) (by omega);simp only[zeC,Exs.size];split
  ·push_cast;omega
  ·push_cast;omega
end
mutual
theorem zvn:∀(v:Ex) (m:Int),(cntE m v≤m↔(v.size:Int)≤m)∧(cntE m v≤m→cntE m v=v.size)
 | .mk _ _ _ ks,m=>by
  have:=zoO ks m 1;simp only[cntE,Ex.size];push_cast;exact this
theorem zoO:∀(l:List Ex) (m n:Int),(zeC m n l≤m↔n+(Exs.size l:Int)≤m)∧(zeC m n l≤m→zeC m n l=n+Exs.size l)
 | [],m,n=>by simp[zeC,Exs.size]
 |k::r,m,n=>by
  have h1:=zvn k (m-n);have h2:=zoO r m (n+cntE (m-n) k);have h3:=zlU r m (n+cntE (m-n) k);have h4:=zsf k (m-n);simp only[zeC,Exs.size];push_cast
  by_cases hn:n≤m
  ·rw[if_pos hn];by_cases h5:cntE (m-n) k≤m-n
   ·have h6:=h1.2 h5;rw[h6] at h2 ⊢;constructor
    ·rw[h2.1];constructor<;>intro h<;>omega
    ·intro h;rw[h2.2 h];omega
   ·have h7:¬(k.size:Int)≤m-n:=fun h=>h5 (h1.1.2 h);have h8:¬n+cntE (m-n) k≤m:=by omega
    rw[zta h8];constructor
    ·constructor<;>intro h<;>omega
    ·intro h;omega
  ·rw[if_neg hn];constructor
   ·constructor<;>intro h<;>omega
   ·intro h;omega
end
theorem zca {a b c d e:Int}{l:List Pat}:(Pat.mk a b c d e l).op=a:=rfl
theorem zfm {a b c d e:Int}{l:List Pat}:(Pat.mk a b c d e l).ctor=b:=rfl
theorem mk_n {a b c d e:Int}{l:List Pat}:(Pat.mk a b c d e l).n=c:=rfl
theorem mk_m {a b c d e:Int}{l:List Pat}:(Pat.mk a b c d e l).m=d:=rfl
theorem zhL {a b c d e:Int}{l:List Pat}:(Pat.mk a b c d e l).var=e:=rfl
theorem za5 {a b c d e:Int}{l:List Pat}:(Pat.mk a b c d e l).kids=l:=rfl
abbrev anyQ:Pat:= .mk 1 0 0 0 0 []
abbrev zwI:Pat:= .mk 0 0 0 0 0 []
mutual
def zau:Pat→Pat
 | .mk op c n m v ks=>if op=2 then anyQ else if op=6∧ks≠[] then zlc ks else .mk op c n m v (zh1 ks)
def zlc:List Pat→Pat
 | []=>anyQ
 |k::_=>zau k
def zh1:List Pat→List Pat
 | []=>[]
 |k::r=>zau k::zh1 r
end
theorem zlS:∀l:List Pat,zh1 l=l.map zau
 | []=>rfl
 |k::r=>by simp[zh1,zlS r]
theorem zbk (p:Pat):zau p=if p.op=2 then anyQ else if p.op=6∧p.kids≠[] then zau (nth p.kids 0) else .mk p.op p.ctor p.n p.m p.var (p.kids.map zau):=by
 cases p with|mk op c n m v ks=>
 have e:zau (.mk op c n m v ks)=if op=2 then anyQ else if op=6∧ks≠[] then zlc ks else .mk op c n m v (zh1 ks):=by conv=>lhs;unfold zau
 rw[e,zlS];by_cases h2:op=2
 ·rw[if_pos h2];exact(if_pos (c:=(Pat.mk op c n m v ks).op=2) h2).symm
 ·rw[if_neg h2];refine Eq.trans ?_ (if_neg (c:=(Pat.mk op c n m v ks).op=2) h2).symm;by_cases h6:op=6∧ks≠[]
  ·rw[if_pos h6];refine Eq.trans ?_ (if_pos (c:=(Pat.mk op c n m v ks).op=6∧(Pat.mk op c n m v ks).kids≠[]) h6).symm;cases ks with
   |nil=>exact absurd rfl h6.2
   |cons k r=>rfl
  ·rw[if_neg h6];exact(if_neg (c:=(Pat.mk op c n m v ks).op=6∧(Pat.mk op c n m v ks).kids≠[]) h6).symm
def za7 (out:List (List Pat)) (l:List Pat):List (List Pat):=out.flatMap fun q=>l.map fun c=>q++[c]
def zec (ls:List (List Pat)):List (List Pat):=ls.foldl za7 [[]]
mutual
def zas:Pat→List Pat
 | .mk op c n m v ks=>if op=5 then zyj ks else (zec (zll ks)).map fun l=> .mk op c n m v l
def zyj:List Pat→List Pat
 | []=>[]
 |a::r=>zas a++zw9 r
def zw9:List Pat→List Pat
 | []=>[]
 |b::_=>zas b
def zll:List Pat→List (List Pat)
 | []=>[]
 |k::r=>zas k::zll r
end
theorem znV:∀l:List Pat,zll l=l.map zas
 | []=>rfl
 |k::r=>by simp[zll,znV r]
theorem zc4 {p:Pat} (h:p.op≠5):zas p=(zec (p.kids.map zas)).map fun l=> .mk p.op p.ctor p.n p.m p.var l:=by
 cases p with|mk op c n m v ks=>
 have h':¬op=5:=h;conv=>lhs;unfold zas
 rw[if_neg h',znV];rfl
theorem zdw {p:Pat} (h:p.op=5) (hk:p.kids.length=2):zas p=zas (nth p.kids 0)++zas (nth p.kids 1):=by
 cases p with|mk op c n m v ks=>
 have h':op=5:=h;conv=>lhs;unfold zas
 rw[if_pos h'];have hk':ks.length=2:=hk;match ks,hk' with
 | [a,b],_=>rfl
mutual
def cntS:Pat→Int
 | .mk op _ _ _ _ ks=>if op=5 then cntO ks 0 else cntM ks 1
def cntO:List Pat→Int→Int
 | [],n=>n
 |k::r,n=>cntO r (cap (n+cntS k))
def cntM:List Pat→Int→Int
 | [],n=>n
 |k::r,n=>cntM r (cap (n*cntS k))
end
theorem zob (p:Pat):cntS p=if p.op=5 then cntO p.kids 0 else cntM p.kids 1:=by
 cases p with|mk op c n m v ks=>
 conv=>lhs;unfold cntS
 rfl
mutual
theorem zoa:∀p:Pat,0≤cntS p∧cntS p≤401
 | .mk op _ _ _ _ ks=>by
  unfold cntS;split
  ·exact zsi ks 0 (by omega) (by omega)
  ·exact zsg ks 1 (by omega) (by omega)
theorem zsi:∀(l:List Pat) (n:Int),0≤n→n≤401→0≤cntO l n∧cntO l n≤401
 | [],n,h1,h2=>⟨h1,h2⟩
 |k::r,n,h1,h2=>by
  unfold cntO;have h3:=zoa k;have h4:=zgz (x:=n+cntS k) (by omega);exact zsi r _ h4.1 h4.2
theorem zsg:∀(l:List Pat) (n:Int),0≤n→n≤401→0≤cntM l n∧cntM l n≤401
 | [],n,h1,h2=>⟨h1,h2⟩
 |k::r,n,h1,h2=>by
  unfold cntM;have h3:=zoa k;have h4:=zgz (x:=n*cntS k) (Int.mul_nonneg h1 h3.1);exact zsg r _ h4.1 h4.2
end
theorem zug {l:List Pat}{i:Nat}{n:Int} (h:i<l.length):cntO (l.drop i) n=cntO (l.drop (i+1)) (cap (n+cntS (nth l i))):=by
 rw[zaO h];rfl
theorem zuf {l:List Pat}{i:Nat}{n:Int} (h:i<l.length):cntM (l.drop i) n=cntM (l.drop (i+1)) (cap (n*cntS (nth l i))):=by
 rw[zaO h];rfl
def binP:Nat→Pat→Bool
 |0,_=>false
 |n+1,p=>decide (p.op=5→p.kids.length=2)&&p.kids.all (binP n)
theorem zd5 {n:Nat}{p:Pat} (h:binP (n+1) p=true){i:Nat} (hi:i<p.kids.length):binP n (nth p.kids i)=true:=by
 unfold binP at h;rw[xad,List.all_eq_true] at h;exact h.2 _ (zaf hi)
theorem zk6 {n:Nat}{p:Pat} (h:binP (n+1) p=true) (h5:p.op=5):p.kids.length=2:=by
 unfold binP at h;rw[xad] at h;exact(of_decide_eq_true h.1) h5
theorem zlT:∀(n:Nat){p:Pat},binP n p=true→binP (n+1) p=true
 |0,p,h=>by simp[binP] at h
 |n+1,p,h=>by
  have h':=h;unfold binP at h ⊢;rw[xad,List.all_eq_true] at h ⊢;exact⟨h.1,fun k hk=>zlT n (h.2 k hk)⟩
theorem zgH {w:List Data}:∀(n:Nat){t:Ty}{p:Pat},zao w n t p=true→binP n (zau p)=true
 |0,t,p,h=>by simp[zao] at h
 |n+1,t,p,h=>by
  obtain⟨ho,hlen⟩:=zbH h;have hany:binP (n+1) anyQ=true:=by simp[binP,anyQ,Pat.op,Pat.kids]
  rw[zbk];by_cases h2:p.op=2
  ·rw[if_pos h2];exact hany
  rw[if_neg h2];by_cases h6:p.op=6
  ·obtain⟨hl,s0⟩:=zew h h6;rw[if_pos ⟨h6,fun e=>by rw[e] at hl;simp at hl⟩];exact zlT n (zgH n s0)
  rw[if_neg (fun h=>h6 h.1)];unfold binP;rw[xad,List.all_eq_true];refine⟨decide_eq_true (fun h5=>?_),fun k hk=>?_⟩
  ·have:=(zey h h5).1;simpa [Pat.kids] using this
  ·simp only[Pat.kids,List.mem_map] at hk;obtain⟨x,hx,rfl⟩:=hk;obtain⟨i,hi,rfl⟩:=List.getElem_of_mem hx;have:=zgH n (zbG h hi);have e:nth p.kids i=p.kids[i]:=zaQ hi;rw[e] at this;exact this
theorem zgK (out:List (List Pat)) (l:List Pat):(za7 out l).length=out.length*l.length:=by
 unfold za7;induction out with
 |nil=>simp
 |cons q r ih=>rw[List.flatMap_cons,xaa,ih,xac,xab,Nat.succ_mul];omega
theorem ztA (ls:List (List Pat)) (l:List Pat):zec (ls++[l])=za7 (zec ls) l:=by unfold zec;rw[List.foldl_append];rfl
theorem zwM {a b:Nat}:cap (cap (a:Int)*cap (b:Int))=cap ((a*b:Nat):Int):=by
 unfold cap;rcases Nat.eq_zero_or_pos a with rfl|ha
 ·simp
 rcases Nat.eq_zero_or_pos b with rfl|hb
 ·simp
 have h1:a≤a*b:=Nat.le_mul_of_pos_right a hb;have h2:b≤a*b:=Nat.le_mul_of_pos_left b ha;have hab:((a*b:Nat):Int)=(a:Int)*(b:Int):=by push_cast;rfl
 by_cases ca:401<(a:Int)
 ·rw[if_pos ca];by_cases cb:401<(b:Int)
  ·rw[if_pos cb,if_pos (by omega),if_pos (by omega)]
  ·rw[if_neg cb];have h3:(401:Int)*1≤401*(b:Int):=Int.mul_le_mul_of_nonneg_left (by omega) (by omega);rw[if_pos (show 401<((a*b:Nat):Int) by omega)];split<;>omega
 ·rw[if_neg ca];by_cases cb:401<(b:Int)
  ·rw[if_pos cb];have h3:(1:Int)*401≤(a:Int)*401:=Int.mul_le_mul_of_nonneg_right (by omega) (by omega);rw[if_pos (show 401<((a*b:Nat):Int) by omega)];split<;>omega
  ·rw[if_neg cb,hab]
theorem zwK {a b:Nat}:cap (cap (a:Int)+cap (b:Int))=cap ((a+b:Nat):Int):=by
 unfold cap;push_cast
 split<;>split<;>split<;>(try split)<;>omega
theorem zwL {x:Int}:cap (cap x)=cap x:=by unfold cap;split<;>(try split)<;>omega
theorem zsh:∀(l:List Pat) (out:List (List Pat)),(∀k∈l,cntS k=cap ((zas k).length:Int)∧0<(zas k).length)→cntM l (cap (out.length:Int))=cap (((l.map zas).foldl za7 out).length:Int)∧(0<out.length→0<((l.map zas).foldl za7 out).length)
 | [],out,_=>⟨rfl,fun h=>h⟩
 |k::r,out,h=>by
  have hk:=h k (by simp);unfold cntM;rw[hk.1,zwM];have:=zsh r (za7 out (zas k)) (fun x hx=>h x (by simp[hx]));rw[zgK] at this;rw[xae,List.foldl_cons];exact⟨this.1,fun ho=>this.2 (Nat.mul_pos ho hk.2)⟩
theorem zkd:∀(n:Nat){p:Pat},binP n p=true→cntS p=cap ((zas p).length:Int)∧0<(zas p).length
 |0,p,h=>by simp[binP] at h
 |n+1,p,h=>by
  have ih:=fun i (hi:i<p.kids.length)=>zkd n (zd5 h hi);rw[zob];by_cases h5:p.op=5
  ·have hl:=zk6 h h5;rw[if_pos h5,zdw h5 hl,xaa];have k0:=ih 0 (by omega);have k1:=ih 1 (by omega);have e:p.kids=[nth p.kids 0,nth p.kids 1]:=by
    match hk:p.kids,hl with
    | [a,b],_=>rfl
   refine⟨?_,by omega⟩;rw[e];simp only[cntO];rw[Int.zero_add,k0.1,zwL,k1.1];show cap (cap ((zas (nth p.kids 0)).length:Int)+cap ((zas (nth p.kids 1)).length:Int))=_
   rw[zwK];rfl
  ·rw[if_neg h5,zc4 h5,xac];have:=zsh p.kids [[]] (fun k hk=>by
    obtain⟨i,hi,rfl⟩:=List.getElem_of_mem hk;have:=ih i hi;simpa [nth,List.getD,hi] using this)
   exact⟨this.1,this.2 (by simp)⟩
theorem zhA:∀(ls:List (List Pat)) (out:List (List Pat)),(∀l∈ls,0<l.length)→out.length≤(ls.foldl za7 out).length
 | [],out,_=>Nat.le_refl _
 |l::r,out,h=>by
  rw[List.foldl_cons];have h1:=zhA r (za7 out l) (fun x hx=>h x (by simp[hx]));rw[zgK] at h1;have h2:out.length≤out.length*l.length:=Nat.le_mul_of_pos_right _ (h l (by simp));omega
theorem zjI:∀(ls:List (List Pat)) (out:List (List Pat)),(∀l∈ls,0<l.length)→0<out.length→∀l∈ls,l.length≤(ls.foldl za7 out).length
 | [],out,_,_,l,hl=>by simp at hl
 |x::r,out,h,ho,l,hl=>by
  rw[List.foldl_cons];have hx:=h x (by simp);have hp:0<(za7 out x).length:=by rw[zgK];exact Nat.mul_pos ho hx
  rcases List.mem_cons.1 hl with rfl|hl
  ·have h1:=zhA r (za7 out l) (fun y hy=>h y (by simp[hy]));rw[zgK] at h1;have h2:l.length≤out.length*l.length:=Nat.le_mul_of_pos_left _ ho;omega
  ·exact zjI r (za7 out x) (fun y hy=>h y (by simp[hy])) hp l hl
theorem zio {n:Nat}{p:Pat} (h:binP (n+1) p=true){i:Nat} (hi:i<p.kids.length):(zas (nth p.kids i)).length≤(zas p).length:=by
 by_cases h5:p.op=5
 ·have hl:=zk6 h h5;rw[zdw h5 hl,xaa];have:i=0∨i=1:=by omega
  rcases this with rfl|rfl<;>omega
 ·rw[zc4 h5,xac];refine zjI _ [[]] (fun l hl=>?_) (by simp) _ (List.mem_map.2 ⟨_,zaf hi,rfl⟩);obtain⟨k,hk,rfl⟩:=List.mem_map.1 hl;obtain⟨j,hj,rfl⟩:=List.getElem_of_mem hk;have:=(zkd n (zd5 h hj)).2;simpa [nth,List.getD,hj] using this
theorem zr4 {n:Nat}{p:Pat} (h:binP (n+1) p=true) (h5:p.op≠5) (i:Nat):(zec ((p.kids.take i).map zas)).length≤(zas p).length:=by
 rw[zc4 h5,xac];have e:p.kids.map zas=(p.kids.take i).map zas++(p.kids.drop i).map zas:=by rw[←xaf,List.take_append_drop]
 unfold zec;rw[e,List.foldl_append];refine zhA _ _ (fun l hl=>?_);obtain⟨k,hk,rfl⟩:=List.mem_map.1 hl;obtain⟨j,hj,rfl⟩:=List.getElem_of_mem (List.mem_of_mem_drop hk);have:=(zkd n (zd5 h hj)).2;simpa [nth,List.getD,hj] using this
def zae (w:List Data):Nat→Ty→Pat→Bool
 |0,_,_=>false
 |n+1,t,p=>(ownP w t p&&decide (p.op=1∨p.op=3∨p.op=4))&&all2 (zae w n) (zag w t p) p.kids
theorem zhs {α β:Type}{f g:α→β→Bool}:∀ {a:List α}{b:List β},(∀x∈a,∀y∈b,f x y=true→g x y=true)→all2 f a b=true→all2 g a b=true
 | [],[],_,_=>rfl
 |x::r,y::s,h,h2=>by
  simp only[all2,xad] at h2 ⊢;exact⟨h x (by simp) y (by simp) h2.1,zhs (fun a ha b hb=>h a (by simp[ha]) b (by simp[hb])) h2.2⟩
 | [],_::_,_,h2=>by simp[all2] at h2
 |_::_,[],_,h2=>by simp[all2] at h2
theorem zg9 {w:List Data}:∀(n:Nat){t:Ty}{p:Pat},zae w n t p=true→zao w n t p=true
 |0,t,p,h=>by simp[zae] at h
 |n+1,t,p,h=>by
  unfold zae at h;unfold zao;simp only[xad] at h ⊢;exact⟨h.1.1,zhs (fun x _ y _ hh=>zg9 n hh) h.2⟩
theorem zgG {w:List Data}:∀(n:Nat){t:Ty}{p:Pat},zae w n t p=true→zae w (n+1) t p=true
 |0,t,p,h=>by simp[zae] at h
 |n+1,t,p,h=>by
  unfold zae at h ⊢;simp only[xad] at h ⊢;exact⟨h.1,zhs (fun x _ y _ hh=>zgG n hh) h.2⟩
theorem zbn {w:List Data}{n:Nat}{t:Ty}{p:Pat} (h:zae w n t p=true):p.op=1∨p.op=3∨p.op=4:=by
 cases n with
 |zero=>simp[zae] at h
 |succ n=>unfold zae at h;simp only[xad] at h;exact of_decide_eq_true h.1.2
theorem zge {w:List Data}{n:Nat}{t:Ty}{p:Pat} (h:zae w n t p=true):ownP w t p=true∧p.kids.length=(zag w t p).length:=by
 cases n with
 |zero=>simp[zae] at h
 |succ n=>exact zbH (zg9 _ h)
theorem zaT {w:List Data}{n:Nat}{t:Ty}{p:Pat} (h:zae w (n+1) t p=true){i:Nat} (hi:i<p.kids.length):zae w n (nth (zag w t p) i) (nth p.kids i)=true:=by
 have hl:=(zge h).2;unfold zae at h;simp only[xad] at h;exact zei hl.symm h.2 i (by omega)
theorem zw3 {w:List Data}{t:Ty}{p:Pat}{l:List Pat}:ownP w t (.mk p.op p.ctor p.n p.m p.var l)=ownP w t p:=rfl
theorem zvb {w:List Data}{t:Ty}{p:Pat}{l:List Pat}:zag w t (.mk p.op p.ctor p.n p.m p.var l)=zag w t p:=rfl
theorem zig:∀(ls:List (List Pat)) (out:List (List Pat)) (l:List Pat),l∈ls.foldl za7 out→∃q∈out,∃r:List Pat,l=q++r∧r.length=ls.length∧∀i,i<ls.length→nth r i∈nth ls i
 | [],out,l,h=>⟨l,h,[],by simp,rfl,fun i hi=>by simp at hi⟩
 |x::rs,out,l,h=>by
  rw[List.foldl_cons] at h;obtain⟨q,hq,r,e,hl,hm⟩:=zig rs (za7 out x) l h;unfold za7 at hq;simp only[List.mem_flatMap,List.mem_map] at hq;obtain⟨q0,hq0,c,hc,rfl⟩:=hq;refine⟨q0,hq0,c::r,by rw[e];simp,by simp[hl],fun i hi=>?_⟩;cases i with
  |zero=>exact hc
  |succ i=>exact hm i (by simpa using hi)
theorem zj0 {w:List Data}{n:Nat}{t:Ty}:zae w (n+1) t anyQ=true:=by
 unfold zae;have h1:zag w t anyQ=[]:=by unfold zag;rw[if_neg (by decide),if_neg (by decide),if_neg (by decide)]
 rw[h1];have h2:ownP w t anyQ=true:=by unfold ownP;exact decide_eq_true (by simp[anyQ,Pat.op,Pat.var,Pat.n,Pat.m,Pat.ctor])
 rw[h2];rfl
theorem zcb:zas anyQ=[anyQ]:=by
 rw[zc4 (by decide)];rfl
theorem zeM {w:List Data}{n:Nat}{t:Ty}{p:Pat} (h:zao w (n+1) t p=true) (h4:p.op≠4) (h5:p.op≠5) (h6:p.op≠6):p.kids=[]:=by
 have hl:=(zbH h).2;unfold zag at hl;rw[if_neg h4,if_neg h5,if_neg h6] at hl;exact List.eq_nil_of_length_eq_zero hl
theorem zgf {w:List Data}:∀(n:Nat){t:Ty}{p:Pat},zao w n t p=true→∀x∈zas (zau p),zae w n t x=true
 |0,t,p,h=>by simp[zao] at h
 |n+1,t,p,h=>by
  obtain⟨ho,hlen⟩:=zbH h;have hop:=zex h;intro x hx;rw[zbk] at hx;by_cases h2:p.op=2
  ·rw[if_pos h2,zcb,List.mem_singleton] at hx;rw[hx];exact zj0
  rw[if_neg h2] at hx;by_cases h6:p.op=6
  ·obtain⟨hl,s0⟩:=zew h h6;rw[if_pos ⟨h6,fun e=>by rw[e] at hl;simp at hl⟩] at hx;exact zgG n (zgf n s0 x hx)
  rw[if_neg (fun h=>h6 h.1)] at hx;by_cases h5:p.op=5
  ·obtain⟨hl,s0,s1⟩:=zey h h5;have hl2:(p.kids.map zau).length=2:=by rw[xac];exact hl
   rw[zdw (p:= .mk p.op p.ctor p.n p.m p.var (p.kids.map zau)) h5 hl2] at hx;have e0:nth (p.kids.map zau) 0=zau (nth p.kids 0):=by
    match hk:p.kids,hl with
    | [a,b],_=>rfl
   have e1:nth (p.kids.map zau) 1=zau (nth p.kids 1):=by
    match hk:p.kids,hl with
    | [a,b],_=>rfl
   simp only[za5] at hx;rw[e0,e1] at hx;rcases List.mem_append.1 hx with hx|hx
   ·exact zgG n (zgf n s0 x hx)
   ·exact zgG n (zgf n s1 x hx)
  rw[zc4 (p:= .mk p.op p.ctor p.n p.m p.var (p.kids.map zau)) h5] at hx;simp only[za5,zca,zfm,mk_n,mk_m,zhL,List.mem_map] at hx;obtain⟨l,hl,rfl⟩:=hx;obtain⟨q,hq,r,e,hlr,hm⟩:=zig _ _ _ hl;rw[List.mem_singleton] at hq;rw[hq,List.nil_append] at e;subst e;simp only[List.map_map,xac] at hlr hm;unfold zae;rw[zw3,zvb,ho,decide_eq_true (show _∨_∨_ from by rw[zca];omega),Bool.true_and,Bool.true_and];refine zcg (by rw[za5];omega) (fun i hi=>?_);have hm':=hm i (by omega);have e2:nth (p.kids.map (zas ∘ zau)) i=zas (zau (nth p.kids i)):=by
   rw[zaQ (by simp;omega)];simp[nth,List.getD,show i<p.kids.length by omega]
  rw[e2] at hm';exact zgf n (zbG h (by omega)) _ hm'
theorem Pats.ok_of:∀ {l:List Pat},(∀k∈l,k.ok)→Pats.ok l
 | [],_=>trivial
 |k::r,h=>⟨h k (by simp),Pats.ok_of (fun x hx=>h x (by simp[hx]))⟩
theorem Pats.size_of {m:Nat}:∀ {l:List Pat},(∀k∈l,k.size≤m)→Pats.size l≤l.length*m
 | [],_=>by simp[Pats.size]
 |k::r,h=>by
  have h1:=h k (by simp);have h2:=Pats.size_of (l:=r) (fun x hx=>h x (by simp[hx]));simp only[Pats.size,xab,Nat.succ_mul];omega
mutual
theorem zk4:∀p:Pat,p.ok→(zau p).ok
 | .mk op c n m v ks,h=>by
  unfold zau;split
  ·exact⟨by simp,trivial⟩
  ·split
   ·exact zvw ks h.2
   ·exact⟨by rw[zlS,xac];exact h.1,zqn ks h.2⟩
theorem zvw:∀l:List Pat,Pats.ok l→(zlc l).ok
 | [],_=>⟨by simp,trivial⟩
 |k::r,h=>zk4 k h.1
theorem zqn:∀l:List Pat,Pats.ok l→Pats.ok (zh1 l)
 | [],_=>trivial
 |k::r,h=>⟨zk4 k h.1,zqn r h.2⟩
end
mutual
theorem zoM:∀p:Pat,(zau p).size≤p.size
 | .mk op c n m v ks=>by
  unfold zau;split
  ·simp[anyQ,Pat.size,Pats.size]
  ·split
   ·have:=ztj ks;simp only[Pat.size];omega
   ·have:=zmz ks;simp only[Pat.size];omega
theorem ztj:∀l:List Pat,(zlc l).size≤1+Pats.size l
 | []=>by simp[zlc,anyQ,Pat.size,Pats.size]
 |k::r=>by have:=zoM k;simp only[zlc,Pats.size];omega
theorem zmz:∀l:List Pat,Pats.size (zh1 l)≤Pats.size l
 | []=>Nat.le_refl _
 |k::r=>by have:=zoM k;have:=zmz r;simp only[zh1,Pats.size];omega
end
theorem xat (l:List Pat):Pat.cs l=l.map Pat.cc:=by
 rw[Pat.cs_eq];exact List.map_congr_left (fun v _=>Pat.c_eq v)
theorem zbO (l:List Pat):∀x∈Pat.cs l,x.length=6:=Pat.cs_rows
theorem zhr (l:List Pat):∀x∈l.map Pat.cc,x.length=6:=fun x hx=>by
 obtain⟨y,_,rfl⟩:=List.mem_map.1 hx;rfl
theorem zsa {p:Pat} (h:p.op=2):zau p=anyQ:=by rw[zbk,if_pos h]
theorem zsb {p:Pat} (h:p.op=6) (h2:0<p.kids.length):zau p=zau (nth p.kids 0):=by
 rw[zbk,if_neg (by omega),if_pos ⟨h,fun e=>by rw[e] at h2;simp at h2⟩]
theorem zsc {p:Pat} (h:p.op≠2) (h2:¬(p.op=6∧0<p.kids.length)):zau p = .mk p.op p.ctor p.n p.m p.var (p.kids.map zau):=by
 rw[zbk,if_neg h,if_neg (fun hh=>h2 ⟨hh.1,List.length_pos_iff.2 hh.2⟩)]
theorem zgE:∀(n:Nat){p:Pat},p.size≤n→p.ok→FnD Tryz.prog 153 [.agg [.d (.i p.op),.d (.i p.ctor),.d (.i p.n),.d (.i p.m),.d (.i p.var),.d (zac p.kids)]] [] (.agg [.d (.i p.op),.d (.i p.ctor),.d (.i p.n),.d (.i p.m),.d (.i p.var),.d (zac p.kids)]) []
 |0,p,h,_=>by rw[Pat.size_eq] at h;omega
 |n+1,p,h,hok=>by
  rw[Pat.size_eq] at h;rw[Pat.ok_iff] at hok;have hok1:=hok.1;refine bd Tryz.f153 24 [] [] fun w0 F0 own kept hk=>?_;refine bx 3001 ?_;refine ab 3002 tz28 ?_;refine tv ?_;refine so ty26 ?_;refine tv ?_;refine xam 3001 5 7 6 rfl rfl rfl rfl ?_;refine xaj (ι:=List (Pat)×List (Pat)) hk (fun x=>[(11,.d (.i (x.1.length:Int)))]) [5,12,13,14,15,16,17,18,19,20,21,22] (fun x=>[(3001,some (.box [.d (.i p.op),.d (.i p.ctor),.d (.i p.n),.d (.i p.m),.d (.i p.var),.gl 7 (x.1.map Pat.cc)])),(7,some (.tok (x.1.map Pat.cc).length 6))]) (fun x=>x.1++x.2=p.kids) (fun x=>x.2.length) ([],p.kids) (by simp) ⟨⟨_,rfl,xap ?_⟩,trivial⟩ ⟨?_,⟨zab ?_,trivial⟩⟩ (fun x=>rfl) (fun x hg1=>?_);focus (rfl)
  focus (first|rfl|(simp[getH];done))
  focus (rfl)
  obtain⟨pre,rest⟩:=x;dsimp only at hg1 ⊢;refine evc [] [] ?_;refine sq ?_ ?_<;>intro h1 h1p h1s;try simp only[Q,Pat.cs_len] at h1p
  rcases rest with _|⟨y,rest⟩
  ·exfalso;simp_all
  refine xaT sl26 .none rfl rfl rfl rfl (Pat.cs_at' hg1) rfl ?_;refine ev ?_;refine ab 3005 tz28 ?_;refine so ty28 ?_;refine tv ?_;refine wc ztW (zgE n (p:=y) (by have:=Pats.size_mem (l:=p.kids) (v:=y) (by rw[←hg1];simp);omega) (Pats.ok_mem hok.2 y (by rw[←hg1];simp))) rfl rfl ?_;refine si [0] [_] sl26 tz28 ?_;refine ap sl26 zz28 rfl rfl rfl (by intro x hx;(simp at hx;subst hx;rfl)) (by have:=congrArg List.length hg1;simp at this;simp;omega) ?_;refine evd [] [] ?_;refine so ty26 ?_;refine dr ?_;refine ar ?_;refine Exists.intro ((pre++[y],rest)) ⟨(by have hz:=hg1;rw[←hz];simp),(by simp),sx ⟨⟨_,rfl,xap ?_⟩,trivial⟩ ⟨?_,⟨zab ?_,trivial⟩⟩⟩;focus ((simp;done))
  focus (first|rfl|(simp[getH];done))
  focus ((simp;done))
  try simp only[Q,Pat.cs_len] at h1p
  have hrest:rest=[]:=by
   rcases rest with _|⟨a,b⟩
   ·rfl
   ·exfalso;have hz:=congrArg List.length (hg1);simp only[xaa,xab,xac] at hz;omega
  subst hrest;refine so ty28 ?_;refine tv ?_;refine rn0 (.cons (.cellA ty28 rfl rfl rfl) .nil) (.agg (.cons (.eqd ?_) (.cons (.eqd ?_) (.cons (.eqd ?_) (.cons (.eqd ?_) (.cons (.eqd ?_) (.cons (.gld ?_) .nil)))))));rotate_left 6;all_goals (first|rfl|(rw[List.append_nil] at hg1;rw[←hg1,xat];done))
theorem zjT {l:List Pat} (h:l.length≤1000000000000) (hok:∀p∈l,p.ok):FnD Tryz.prog 96 [.d (zac l)] [] (.d (zac l)) []:=by
 refine bd Tryz.f96 19 [3] [] fun w0 F0 own kept hk=>?_;refine xaB 1 6 .none rfl rfl ?_;refine tv ?_;refine xaj (ι:=List (Pat)×List (Pat)) hk (fun x=>[(8,.d (.i (x.1.length:Int))),(3,.gl 1 (x.1.map Pat.cc))]) [5,9,10,11,12,13,14,15,16,17] (fun x=>[(1,some (.tok ((x.1.map Pat.cc)).length 6))]) (fun x=>x.1++x.2=l) (fun x=>x.2.length) ([],l) (by simp) ⟨⟨_,rfl,xap ?_⟩,⟨⟨_,rfl,LeA.glg ?_⟩,trivial⟩⟩ ⟨zab ?_,trivial⟩ (fun x=>rfl) (fun x hg1=>?_);iterate 3 focus (rfl)
 obtain⟨pre,rest⟩:=x;dsimp only at hg1 ⊢;refine evc [3] [] ?_;refine sq ?_ ?_<;>intro h1 h1p h1s;try simp only[Q,Pat.cs_len] at h1p
 rcases rest with _|⟨y,rest⟩
 ·exfalso;simp_all
 refine xaT sl26 .none rfl rfl rfl rfl (Pat.cs_at' hg1) rfl ?_;refine evs [3] [] ?_;refine ab 3005 tz28 ?_;refine so ty28 ?_;refine tv ?_;refine wc ztW (zgE _ (Nat.le_refl _) (hok y (by rw[←hg1];simp))) rfl rfl ?_;refine si [0] [_] sl26 tz28 ?_;refine ap sl26 zz28 rfl rfl rfl (by intro x hx;simp at hx;subst hx;rfl) (by have:=congrArg List.length hg1;simp at this;simp;omega) ?_;refine asg ?_;refine tv ?_;refine ar ?_;refine Exists.intro ((pre++[y],rest)) ⟨(by have hz:=hg1;rw[←hz];simp),(by simp),sx ⟨⟨_,rfl,xap ?_⟩,⟨⟨_,rfl,LeA.glg ?_⟩,trivial⟩⟩ ⟨zab ?_,trivial⟩⟩;iterate 3 focus ((simp;done))
 try simp only[Q,Pat.cs_len] at h1p
 have hrest:rest=[]:=by
  rcases rest with _|⟨a,b⟩
  ·rfl
  ·exfalso;have hz:=congrArg List.length (hg1);simp only[xaa,xab,xac] at hz;omega
 subst hrest;refine rn0 (r1 rfl) (.gld ?_);rotate_left;all_goals ((rw[List.append_nil] at hg1;rw[←hg1,xat];done))
theorem zgD:FnD Tryz.prog 186 [] [] (.agg [.d (.i 1),.d (.i 0),.d (.i 0),.d (.i 0),.d (.i 0),.d (.sl [])]) []:=by
 refine bd Tryz.f186 2 [] [] fun w0 F0 own kept hk=>?_;refine ab 3000 tz28 ?_;refine tv ?_;refine bu [0] [_] st28 ?_;refine so ty28 ?_;refine tv ?_;focus (refine rn0 (.cons (.cellA ty28 rfl rfl rfl) .nil) (.agg (.cons (.eqd ?_) (.cons (.eqd ?_) (.cons (.eqd ?_) (.cons (.eqd ?_) (.cons (.eqd ?_) (.cons (.nild ?_) .nil)))))));all_goals (rfl))
theorem zc5:∀(n:Nat){p:Pat},p.size≤n→p.ok→FnD Tryz.prog 139 [.agg [.d (.i p.op),.d (.i p.ctor),.d (.i p.n),.d (.i p.m),.d (.i p.var),.d (zac p.kids)]] [] (.agg [.d (.i (zau p).op),.d (.i (zau p).ctor),.d (.i (zau p).n),.d (.i (zau p).m),.d (.i (zau p).var),.d (zac (zau p).kids)]) []
 |0,p,h,_=>by rw[Pat.size_eq] at h;omega
 |n+1,p,h,hok=>by
  rw[Pat.size_eq] at h;rw[Pat.ok_iff] at hok;have hok1:=hok.1;by_cases h2:p.op=2
  ·rw[zsa h2];refine bd Tryz.f139 44 [] [] fun w0 F0 own kept hk=>?_;refine bx 3001 ?_;refine ab 3002 tz28 ?_;refine tv ?_;refine sq ?_ ?_<;>intro h1 h1p h1s;try simp only[Q] at h1p
   refine wc zt5 (zgD) rfl rfl ?_;refine so ty28 ?_;refine tv ?_;refine rn0 (.cons (.cellA ty28 rfl rfl rfl) .nil) (.agg (.cons (.eqd ?_) (.cons (.eqd ?_) (.cons (.eqd ?_) (.cons (.eqd ?_) (.cons (.eqd ?_) (.cons (.eqd ?_) .nil)))))));rotate_left 6;try simp only[Q] at h1p
   exfalso;omega;all_goals (rfl)
  by_cases h6:p.op=6∧0<p.kids.length
  ·rw[zsb h6.1 h6.2];refine bd Tryz.f139 44 [] [] fun w0 F0 own kept hk=>?_;refine bx 3001 ?_;refine ab 3002 tz28 ?_;refine tv ?_;refine sq ?_ ?_<;>intro h1 h1p h1s;try simp only[Q,Pat.cs_len] at h1p
   exfalso;omega;try simp only[Q,Pat.cs_len] at h1p
   refine sq ?_ ?_<;>intro h2 h2p h2s;try simp only[Q,Pat.cs_len] at h2p
   refine sq ?_ ?_<;>intro h3 h3p h3s;try simp only[Q,Pat.cs_len] at h3p
   refine xaT (i:=0) sl26 .none rfl rfl rfl rfl (zaE h6.2) rfl ?_;refine ev ?_;refine wc zj5 (zc5 n (p:=nth p.kids 0) (by have:=Pats.size_mem (zaf h6.2);omega) (Pats.ok_mem hok.2 _ (zaf h6.2))) rfl rfl ?_;refine so ty28 ?_;refine tv ?_;refine rn0 (.cons (.cellA ty28 rfl rfl rfl) .nil) (.agg (.cons (.eqd ?_) (.cons (.eqd ?_) (.cons (.eqd ?_) (.cons (.eqd ?_) (.cons (.eqd ?_) (.cons (.eqd ?_) .nil)))))));rotate_left 6;try simp only[Q,Pat.cs_len] at h3p
   focus (exfalso;first|omega|(simp_all;done))
   try simp only[Q,Pat.cs_len] at h2p
   exfalso;omega;all_goals (rfl)
  ·rw[zsc h2 h6];refine bd Tryz.f139 44 [] [] fun w0 F0 own kept hk=>?_;refine bx 3001 ?_;refine ab 3002 tz28 ?_;refine tv ?_;refine sq ?_ ?_<;>intro h1 h1p h1s;try simp only[Q,Pat.cs_len] at h1p
   exfalso;omega;try simp only[Q,Pat.cs_len] at h1p
   refine sq ?_ ?_<;>intro h2 h2p h2s;try simp only[Q,Pat.cs_len] at h2p
   refine sq ?_ ?_<;>intro h3 h3p h3s;try simp only[Q,Pat.cs_len] at h3p
   focus (exfalso;apply h6;first|omega|(simp_all;done))
   try simp only[Q,Pat.cs_len] at h3p
   refine so ty26 ?_;refine tv ?_;refine xam 3001 5 7 6 rfl rfl rfl rfl ?_;refine xaj (ι:=List (Pat)×List (Pat)) hk (fun x=>[(31,.d (.i (x.1.length:Int)))]) [5,32,33,34,35,36,37,38,39,40,41,42] (fun x=>[(3001,some (.box [.d (.i p.op),.d (.i p.ctor),.d (.i p.n),.d (.i p.m),.d (.i p.var),.gl 7 ((x.1.map zau).map Pat.cc)])),(7,some (.tok ((x.1.map zau).map Pat.cc).length 6))]) (fun x=>x.1++x.2=p.kids) (fun x=>x.2.length) ([],p.kids) (by simp) ⟨⟨_,rfl,xap ?_⟩,trivial⟩ ⟨?_,⟨zab ?_,trivial⟩⟩ (fun x=>rfl) (fun x hg1=>?_);focus (rfl)
   focus (first|rfl|(simp[getH];done))
   focus (rfl)
   obtain⟨pre,rest⟩:=x;dsimp only at hg1 ⊢;refine evc [] [] ?_;refine sq ?_ ?_<;>intro h4 h4p h4s;try simp only[Q,Pat.cs_len] at h4p
   rcases rest with _|⟨y,rest⟩
   ·exfalso;simp_all
   refine xaT sl26 .none rfl rfl rfl rfl (Pat.cs_at' hg1) rfl ?_;refine ev ?_;refine ab 3005 tz28 ?_;refine so ty28 ?_;refine tv ?_;refine wc zj5 (zc5 n (p:=y) (by have:=Pats.size_mem (l:=p.kids) (v:=y) (by rw[←hg1];simp);omega) (Pats.ok_mem hok.2 y (by rw[←hg1];simp))) rfl rfl ?_;refine si [0] [_] sl26 tz28 ?_;refine ap sl26 zz28 rfl rfl rfl (by intro x hx;(simp at hx;subst hx;rfl)) (by have:=congrArg List.length hg1;simp at this;simp;omega) ?_;refine evd [] [] ?_;refine so ty26 ?_;refine dr ?_;refine ar ?_;refine Exists.intro ((pre++[y],rest)) ⟨(by have hz:=hg1;rw[←hz];simp),(by simp),sx ⟨⟨_,rfl,xap ?_⟩,trivial⟩ ⟨?_,⟨zab ?_,trivial⟩⟩⟩;focus ((simp;done))
   focus (first|rfl|(simp[getH];done))
   focus ((simp;done))
   try simp only[Q,Pat.cs_len] at h4p
   have hrest:rest=[]:=by
    rcases rest with _|⟨a,b⟩
    ·rfl
    ·exfalso;have hz:=congrArg List.length (hg1);simp only[xaa,xab,xac] at hz;omega
   subst hrest;refine so ty28 ?_;refine tv ?_;refine rn0 (.cons (.cellA ty28 rfl rfl rfl) .nil) (.agg (.cons (.eqd ?_) (.cons (.eqd ?_) (.cons (.eqd ?_) (.cons (.eqd ?_) (.cons (.eqd ?_) (.cons (.gld ?_) .nil)))))));rotate_left 6;try simp only[Q,Pat.cs_len] at h2p
   refine sqF ?_;refine so ty26 ?_;refine tv ?_;refine xam 3001 5 7 6 rfl rfl rfl rfl ?_;refine xaj (ι:=List (Pat)×List (Pat)) hk (fun x=>[(31,.d (.i (x.1.length:Int)))]) [5,32,33,34,35,36,37,38,39,40,41,42] (fun x=>[(3001,some (.box [.d (.i p.op),.d (.i p.ctor),.d (.i p.n),.d (.i p.m),.d (.i p.var),.gl 7 ((x.1.map zau).map Pat.cc)])),(7,some (.tok ((x.1.map zau).map Pat.cc).length 6))]) (fun x=>x.1++x.2=p.kids) (fun x=>x.2.length) ([],p.kids) (by simp) ⟨⟨_,rfl,xap ?_⟩,trivial⟩ ⟨?_,⟨zab ?_,trivial⟩⟩ (fun x=>rfl) (fun x hg1=>?_);focus (rfl)
   focus (first|rfl|(simp[getH];done))
   focus (rfl)
   obtain⟨pre,rest⟩:=x;dsimp only at hg1 ⊢;refine evc [] [] ?_;refine sq ?_ ?_<;>intro h6 h6p h6s;try simp only[Q,Pat.cs_len] at h6p
   rcases rest with _|⟨y,rest⟩
   ·exfalso;simp_all
   refine xaT sl26 .none rfl rfl rfl rfl (Pat.cs_at' hg1) rfl ?_;refine ev ?_;refine ab 3005 tz28 ?_;refine so ty28 ?_;refine tv ?_;refine wc zj5 (zc5 n (p:=y) (by have:=Pats.size_mem (l:=p.kids) (v:=y) (by rw[←hg1];simp);omega) (Pats.ok_mem hok.2 y (by rw[←hg1];simp))) rfl rfl ?_;refine si [0] [_] sl26 tz28 ?_;refine ap sl26 zz28 rfl rfl rfl (by intro x hx;(simp at hx;subst hx;rfl)) (by have:=congrArg List.length hg1;simp at this;simp;omega) ?_;refine evd [] [] ?_;refine so ty26 ?_;refine dr ?_;refine ar ?_;refine Exists.intro ((pre++[y],rest)) ⟨(by have hz:=hg1;rw[←hz];simp),(by simp),sx ⟨⟨_,rfl,xap ?_⟩,trivial⟩ ⟨?_,⟨zab ?_,trivial⟩⟩⟩;focus ((simp;done))
   focus (first|rfl|(simp[getH];done))
   focus ((simp;done))
   try simp only[Q,Pat.cs_len] at h6p
   have hrest:rest=[]:=by
    rcases rest with _|⟨a,b⟩
    ·rfl
    ·exfalso;have hz:=congrArg List.length (hg1);simp only[xaa,xab,xac] at hz;omega
   subst hrest;refine so ty28 ?_;refine tv ?_;refine rn0 (.cons (.cellA ty28 rfl rfl rfl) .nil) (.agg (.cons (.eqd ?_) (.cons (.eqd ?_) (.cons (.eqd ?_) (.cons (.eqd ?_) (.cons (.eqd ?_) (.cons (.gld ?_) .nil)))))));rotate_left 6;all_goals (first|rfl|(rw[List.append_nil] at hg1;subst hg1;rw[←xat];all_goals rfl))
theorem zeq:∀(n:Nat){p:Pat},p.size≤n→p.ok→FnD Tryz.prog 140 [.agg [.d (.i p.op),.d (.i p.ctor),.d (.i p.n),.d (.i p.m),.d (.i p.var),.d (zac p.kids)]] [] (.d (.i (cntS p))) []
 |0,p,h,_=>by rw[Pat.size_eq] at h;omega
 |n+1,p,h,hok=>by
  rw[Pat.size_eq] at h;rw[Pat.ok_iff] at hok;have hok1:=hok.1;have hbd:=fun i=>zoa (nth p.kids i);by_cases h5:p.op=5
  ·rw[zob,if_pos h5];refine bd Tryz.f140 31 [] [] fun w0 F0 own kept hk=>?_;refine bx 3001 ?_;refine ev ?_;refine sq ?_ ?_<;>intro h1 h1p h1s;try simp only[Q,Pat.cs_len] at h1p
   refine xaj (ι:=Nat×Int) hk (fun x=>[(12,.d (.i (x.1:Int))),(3,.d (.i x.2))]) [5,13,14,15,16,17,18,19,20,21,22,23,24,25,26,27,28,29] (fun x=>[]) (fun x=>x.1≤p.kids.length∧cntO (p.kids.drop x.1) x.2=cntO p.kids 0∧0≤x.2∧x.2≤401) (fun x=>p.kids.length-x.1) (0,0) ⟨by simp,rfl,by simp,by simp⟩ ⟨⟨_,rfl,xap ?_⟩,⟨⟨_,rfl,xap ?_⟩,trivial⟩⟩ trivial (fun x=>rfl) (fun x hg1=>?_);iterate 2 focus (rfl)
   refine evc [] [] ?_;refine sq ?_ ?_<;>intro h2 h2p h2s;try simp only[Q,Pat.cs_len] at h2p
   refine xaT sl26 .none rfl rfl rfl rfl (zaE (by omega)) rfl ?_;refine ev ?_;refine ab 3005 tz28 ?_;refine so ty28 ?_;refine tv ?_;refine sq ?_ ?_<;>intro h3 h3p h3s;try simp only[Q,Pat.cs_len] at h3p
   refine wc zmB (zeq n (p:=nth p.kids x.1) (by have:=Pats.size_mem (zaf (l:=p.kids) (i:=x.1) (by omega));omega) (Pats.ok_mem hok.2 _ (zaf (by omega)))) rfl rfl ?_;refine ev ?_;refine ar ?_ (by(have hb:=hbd x.1;constructor<;>omega));refine xa3 .none rfl rfl rfl ?_;refine ev ?_;refine ar ?_ (by(constructor<;>omega));refine Exists.intro ((x.1+1,cap (x.2+cntS (nth p.kids x.1)))) ⟨(by
        have hb:=hbd x.1;have hc:=zgz (x:=x.2+cntS (nth p.kids x.1)) (by omega);exact⟨by dsimp only;omega,by dsimp only;rw[←zug (by omega)];exact hg1.2.1,hc.1,hc.2⟩),(by dsimp only;omega),sx ⟨⟨_,rfl,xap ?_⟩,⟨⟨_,rfl,xap ?_⟩,trivial⟩⟩ trivial⟩
   iterate 2 focus (rfl)
   try simp only[Q,Pat.cs_len] at h3p
   exfalso;omega;try simp only[Q,Pat.cs_len] at h2p
   refine rn0 (r1 rfl) (.eqd ?_);rotate_left;try simp only[Q,Pat.cs_len] at h1p
   exfalso;omega;all_goals (refine congrArg D.i ?_;rw[←hg1.2.1,List.drop_eq_nil_of_le (by omega)];rfl)
  ·rw[zob,if_neg h5];refine bd Tryz.f140 31 [] [] fun w0 F0 own kept hk=>?_;refine bx 3001 ?_;refine ev ?_;refine sq ?_ ?_<;>intro h1 h1p h1s;try simp only[Q,Pat.cs_len] at h1p
   exfalso;omega;try simp only[Q,Pat.cs_len] at h1p
   refine xaj (ι:=Nat×Int) hk (fun x=>[(12,.d (.i (x.1:Int))),(3,.d (.i x.2))]) [5,13,14,15,16,17,18,19,20,21,22,23,24,25,26,27,28,29] (fun x=>[]) (fun x=>x.1≤p.kids.length∧cntM (p.kids.drop x.1) x.2=cntM p.kids 1∧0≤x.2∧x.2≤401) (fun x=>p.kids.length-x.1) (0,1) ⟨by simp,rfl,by simp,by simp⟩ ⟨⟨_,rfl,xap ?_⟩,⟨⟨_,rfl,xap ?_⟩,trivial⟩⟩ trivial (fun x=>rfl) (fun x hg1=>?_);iterate 2 focus (rfl)
   refine evc [] [] ?_;refine sq ?_ ?_<;>intro h2 h2p h2s;try simp only[Q,Pat.cs_len] at h2p
   refine xaT sl26 .none rfl rfl rfl rfl (zaE (by omega)) rfl ?_;refine ev ?_;refine ab 3005 tz28 ?_;refine so ty28 ?_;refine tv ?_;refine sq ?_ ?_<;>intro h3 h3p h3s;try simp only[Q,Pat.cs_len] at h3p
   exfalso;omega;try simp only[Q,Pat.cs_len] at h3p
   refine wc zmB (zeq n (p:=nth p.kids x.1) (by have:=Pats.size_mem (zaf (l:=p.kids) (i:=x.1) (by omega));omega) (Pats.ok_mem hok.2 _ (zaf (by omega)))) rfl rfl ?_;refine ev ?_;refine ar ?_ (by(have hb:=hbd x.1;have h3:=Int.mul_le_mul hg1.2.2.2 hb.2 hb.1 (by omega);have h4:=Int.mul_nonneg hg1.2.2.1 hb.1;constructor<;>omega));refine xa3 .none rfl rfl rfl ?_;refine ev ?_;refine ar ?_ (by(constructor<;>omega));refine Exists.intro ((x.1+1,cap (x.2*cntS (nth p.kids x.1)))) ⟨(by
        have hb:=hbd x.1;have hc:=zgz (x:=x.2*cntS (nth p.kids x.1)) (Int.mul_nonneg hg1.2.2.1 hb.1);exact⟨by dsimp only;omega,by dsimp only;rw[←zuf (by omega)];exact hg1.2.1,hc.1,hc.2⟩),(by dsimp only;omega),sx ⟨⟨_,rfl,xap ?_⟩,⟨⟨_,rfl,xap ?_⟩,trivial⟩⟩ trivial⟩
   iterate 2 focus (rfl)
   try simp only[Q,Pat.cs_len] at h2p
   refine rn0 (r1 rfl) (.eqd ?_);rotate_left;all_goals (refine congrArg D.i ?_;rw[←hg1.2.1,List.drop_eq_nil_of_le (by omega)];rfl)
theorem zfY {xs:List Pat} (hs:xs.length≤1000000000000):FnD Tryz.prog 147 [.d (zac xs)] [] (.gl 77 (Pat.cs xs)) [(77,some (.tok (Pat.cs xs).length 6))]:=by
 refine Fn.body (fn:=Tryz.f147) (n:=8) rfl rfl rfl rfl rfl (fun w0 F0 own kept hk=>?_);refine xal 0 rfl (fun hx0=>?_) ?_;refine evc [2,4] [] ?_;refine asg ?_;refine tv ?_;refine xaR sl26 .none rfl rfl ?_;refine tv ?_;refine sqT ?_;refine xaB 77 6 .none rfl rfl ?_;refine tv ?_;refine rn [(77,some (.tok (Pat.cs xs).length 6))] (r1 rfl) (.glg ?_) ⟨rfl,rfl⟩ (SubH.get ⟨?_,trivial⟩) (zaz rfl);rotate_left 2;refine evc [2,4] [] ?_;refine asg ?_;refine tv ?_;refine xaQ sl26 .none rfl rfl ?_;refine tv ?_;refine sqF ?_;refine xbh 77 sl26 .none rfl rfl ?_;refine evs [2,4] [] ?_;refine ap sl26 zz28 rfl rfl rfl (by intro y hy;rw[xat] at hy;obtain⟨z,_,rfl⟩:=List.mem_map.1 hy;rfl) (by simp[Pat.cs_len];omega) ?_;refine asg ?_;refine tv ?_;refine rn [(77,some (.tok (Pat.cs xs).length 6))] (r1 rfl) (.glg ?_) ⟨rfl,rfl⟩ (SubH.get ⟨?_,trivial⟩) (zaz rfl);rotate_left 2;all_goals (first|((first|rfl|exact hx0.symm|(simp;done));done)|(first|rfl|(simp[hx0];rfl)|(simp;rfl)))
def zdR (C:List Pat) (q:Pat):List Pat:=C.map fun c=> .mk q.op q.ctor q.n q.m q.var (q.kids++[c])
theorem zti {ls:List (List Pat)}{C:List Pat}{a b c d e:Int}:((zec ls).map (fun l=>Pat.mk a b c d e l)).flatMap (zdR C)=(zec (ls++[C])).map (fun l=>Pat.mk a b c d e l):=by
 rw[ztA];unfold za7 zdR;rw[List.flatMap_map,List.map_flatMap];congr 1
 funext q
 simp[zca,zfm,mk_n,mk_m,zhL,za5]
def zcm (p:Pat) (i:Nat):List Pat:=(zec ((p.kids.take i).map zas)).map fun l=>Pat.mk p.op p.ctor p.n p.m p.var l
theorem zvt (p:Pat):zcm p 0=[.mk p.op p.ctor p.n p.m p.var []]:=by unfold zcm;simp[zec]
theorem zrU {p:Pat}{i:Nat} (h:i<p.kids.length):(zcm p i).flatMap (zdR (zas (nth p.kids i)))=zcm p (i+1):=by
 unfold zcm;rw[zti,List.take_succ_eq_append_getElem h,xaf,←zaQ h];rfl
theorem ztg {p:Pat}{i:Nat} (h5:p.op≠5) (h:p.kids.length≤i):zcm p i=zas p:=by
 unfold zcm;rw[zc4 h5,List.take_of_length_le h]
theorem zth {n:Nat}{p:Pat} (h:binP (n+1) p=true) (h5:p.op≠5) (i:Nat):(zcm p i).length≤(zas p).length:=by
 unfold zcm;rw[xac];exact zr4 h h5 i
theorem zrT {p:Pat}{i:Nat}{q:Pat} (h:q∈zcm p i):q.kids.length≤p.kids.length:=by
 unfold zcm at h;obtain⟨l,hl,rfl⟩:=List.mem_map.1 h;obtain⟨q0,hq,r,e,hlr,_⟩:=zig _ _ _ hl;rw[List.mem_singleton] at hq;rw[hq,List.nil_append] at e;rw[za5,e,hlr];simp;omega
theorem zh7 {α β:Type}{f:α→List β}{k:Nat} (hf:∀x,(f x).length≤k):∀l:List α,(l.flatMap f).length≤l.length*k
 | []=>by simp
 |x::r=>by
  rw[List.flatMap_cons,xaa,xab,Nat.succ_mul];have:=hf x;have:=zh7 hf r;omega
theorem ze2:∀(n:Nat){p:Pat},binP n p=true→p.ok→(zas p).length≤40→FnD Tryz.prog 141 [.agg [.d (.i p.op),.d (.i p.ctor),.d (.i p.n),.d (.i p.m),.d (.i p.var),.d (zac p.kids)]] [] (.gl 9 (Pat.cs (zas p))) [(9,some (.tok (Pat.cs (zas p)).length 6))]
 |0,p,h,_,_=>by simp[binP] at h
 |n+1,p,h,hok,hlen=>by
  have hok':=(Pat.ok_iff p).1 hok;have hok1:=hok'.1;by_cases h5:p.op=5
  ·have hl:=zk6 h h5;have e5:=zdw h5 hl;have l0:=zio h (i:=0) (by omega);have l1:=zio h (i:=1) (by omega);have c0:=ze2 n (zd5 h (i:=0) (by omega)) (Pats.ok_mem hok'.2 _ (zaf (by omega))) (by omega);have c1:=FnD.glD (ze2 n (zd5 h (i:=1) (by omega)) (Pats.ok_mem hok'.2 _ (zaf (by omega))) (by omega));rw[e5];refine bd Tryz.f141 70 [] [] fun w0 F0 own kept hk=>?_;refine bx 3001 ?_;refine ev ?_;refine sq ?_ ?_<;>intro h1 h1p h1s;try simp only[Q,Pat.cs_len] at h1p
   refine xaT (i:=0) sl26 .none rfl rfl rfl rfl (zaE (by omega)) rfl ?_;refine evd [] [] ?_;refine Walk.call (cr:=[9]) zmC (c0) rfl .none rfl rfl (LeL.refl _) trivial rfl rfl rfl ?_;refine evd [] [] ?_;refine xaT (i:=1) sl26 .none rfl rfl rfl rfl (zaE (by omega)) rfl ?_;refine evd [] [] ?_;refine wc zmC (c1) rfl rfl ?_;refine ap sl26 zz28 rfl rfl rfl (by intro x hx;exact zbO _ x hx) (by simp[Pat.cs_len];omega) ?_;refine evd [] [] ?_;refine dr ?_;refine rn [(9,some (.tok (Pat.cs (zas (nth p.kids 0)++zas (nth p.kids 1))).length 6))] (r1 rfl) (.glg ?_) ⟨rfl,rfl⟩ (SubH.get ⟨?_,trivial⟩) (zaz rfl);rotate_left 2;try simp only[Q,Pat.cs_len] at h1p
   exfalso;omega;all_goals (first|((first|rfl|(simp[xat];done));done)|(first|rfl|(simp[xat];rfl)))
  ·have hfl:=zth h h5;have hfk:=fun(i:Nat) (q:Pat) (hq:q∈zcm p i)=>zrT hq;have hf0:=zvt p;have hfe:=fun(i:Nat) (hi:p.kids.length≤i)=>ztg h5 hi;have hfn:=fun(i:Nat) (hi:i<p.kids.length)=>zrU hi;have hcal:=fun(i:Nat) (hi:i<p.kids.length)=>FnD.glD (ze2 n (zd5 h hi) (Pats.ok_mem hok'.2 _ (zaf hi)) (by have:=zio h hi;omega));have hcl:=fun(i:Nat) (hi:i<p.kids.length)=>zio h hi;have hgl:=fun(C:List Pat) (q:Pat)=>show(zdR C q).length≤C.length from by unfold zdR;simp
   generalize zas p=SP at *;refine bd Tryz.f141 70 [8] [10,23] fun w0 F0 own kept hk=>?_;refine bx 3001 ?_;refine evs [8] [] ?_;refine sq ?_ ?_<;>intro h1 h1p h1s;try simp only[Q,Pat.cs_len] at h1p
   exfalso;omega;try simp only[Q,Pat.cs_len] at h1p
   refine so ty26 ?_;refine tv ?_;refine xbj 9 sl26 tz28 rfl (by decide) (ks:=[0]) (xs:=[_]) rfl rfl (by decide) (by decide) .none rfl rfl rfl rfl rfl ?_;refine evs [8] [] ?_;refine xaj (ι:=Nat) hk (fun i=>[(35,.d (.i (i:Int))),(4,.gl 9 ((zcm p i).map Pat.cc)),(32,.any)]) [6,7,8,10,12,13,36,37,38,39,40,41,42,43,44,45,46,47,48,49,50,51,52,53,54,55,56,57,58,59,60,61,62,63,64,65,66,67,68] (fun i=>[(9,some (.tok (((zcm p i).map Pat.cc)).length 6))]) (fun i=>i≤p.kids.length) (fun i=>p.kids.length-i) 0 (by omega) ⟨⟨_,rfl,xap ?_⟩,⟨⟨_,rfl,LeA.glg ?_⟩,⟨⟨_,rfl,.any _⟩,trivial⟩⟩⟩ ⟨zab ?_,trivial⟩ (fun x=>rfl) (fun i hg1=>?_);iterate 3 focus (rfl)
   refine evc [8] [10,23] ?_;refine sq ?_ ?_<;>intro h2 h2p h2s;try simp only[Q,Pat.cs_len] at h2p
   refine xaT sl26 .none rfl rfl rfl rfl (zaE (by omega)) rfl ?_;refine evs [8] [] ?_;refine ab 3006 tz28 ?_;refine so ty28 ?_;refine tv ?_;refine wc zmC (hcal i (by omega)) rfl rfl ?_;refine evs [8] [] ?_;refine CWp.tokDrop 4 9 rfl rfl ?_;refine evc [8] [] ?_;refine xaB 3 6 .none rfl rfl ?_;refine tv ?_;refine xaj (ι:=List (Pat)×List (Pat)) hk (fun x=>[(43,.d (.i (x.1.length:Int))),(8,.gl 3 ((x.1.flatMap (zdR (zas (nth p.kids i)))).map Pat.cc))]) [10,12,13,44,45,46,47,48,49,50,51,52,53,54,55,56,57,58,59,60,61,62,63,64,65,66] (fun x=>[(3,some (.tok (((x.1.flatMap (zdR (zas (nth p.kids i)))).map Pat.cc)).length 6))]) (fun x=>x.1++x.2=zcm p i) (fun x=>x.2.length) ([],zcm p i) (by simp) ⟨⟨_,rfl,xap ?_⟩,⟨⟨_,rfl,LeA.glg ?_⟩,trivial⟩⟩ ⟨zab ?_,trivial⟩ (fun x=>rfl) (fun x hg2=>?_);iterate 3 focus (rfl)
   obtain⟨pre2,rest2⟩:=x;dsimp only at hg2 ⊢;refine evc [8] [10,23] ?_;refine sq ?_ ?_<;>intro h3 h3p h3s;try simp only[Q,Pat.cs_len] at h3p
   rcases rest2 with _|⟨q,rest2⟩
   ·exfalso;simp_all
   have hqk:=hfk i q (by rw[←hg2];simp);have hl2:=congrArg List.length hg2;simp only[xaa,xab] at hl2;have hl2b:=hfl i;refine xaT sl26 .none rfl rfl rfl rfl (zaL hg2) rfl ?_;refine evs [8] [] ?_;refine ab 3010 tz28 ?_;refine so ty28 ?_;refine tv ?_;refine xaj (ι:=List (Pat)×List (Pat)) hk (fun x=>[(49,.d (.i (x.1.length:Int))),(8,.gl 3 ((pre2.flatMap (zdR (zas (nth p.kids i)))++zdR x.1 q).map Pat.cc))]) [12,13,50,51,52,53,54,55,56,57,58,59,60,61,62,63,64,65] (fun x=>[(3,some (.tok (((pre2.flatMap (zdR (zas (nth p.kids i)))++zdR x.1 q).map Pat.cc)).length 6))]) (fun x=>x.1++x.2=zas (nth p.kids i)) (fun x=>x.2.length) ([],zas (nth p.kids i)) (by simp) ⟨⟨_,rfl,xap ?_⟩,⟨⟨_,rfl,LeA.glg ?_⟩,trivial⟩⟩ ⟨zab ?_,trivial⟩ (fun x=>rfl) (fun x hg3=>?_);iterate 3 focus ((simp[zdR];done))
   obtain⟨pre3,rest3⟩:=x;dsimp only at hg3 ⊢;refine evc [8] [10,23] ?_;refine sq ?_ ?_<;>intro h4 h4p h4s;try simp only[Q,Pat.cs_len] at h4p
   rcases rest3 with _|⟨y,rest3⟩
   ·exfalso;simp_all
   have hl3:=congrArg List.length hg3;simp only[xaa,xab] at hl3;have hl3b:=hcl i (by omega);refine xaT sl26 .none rfl rfl rfl rfl (Pat.cs_at' hg3) rfl ?_;refine evs [8] [] ?_;refine ab 3012 tz28 ?_;refine so ty28 ?_;refine tv ?_;refine ab 3013 tz28 ?_;refine so ty28 ?_;refine tv ?_;refine Walk.call (cr:=[77]) zqu (zfY (xs:=q.kids) (by omega)) rfl .none rfl rfl (LeL.refl _) trivial rfl rfl rfl ?_;refine evd [8] [] ?_;refine si [0] [_] sl26 tz28 ?_;refine ap sl26 zz28 rfl rfl rfl (by intro x hx;first|(simp at hx;subst hx;rfl)|exact zhr _ x hx) (by first|(simp;omega)|(simp only[Pat.cs_len,xaa,xab,xah];omega)) ?_;refine evd [8] [] ?_;refine so ty26 ?_;refine dr ?_;refine si [0] [_] sl26 tz28 ?_;refine ap sl26 zz28 rfl rfl rfl (by intro x hx;first|(simp at hx;subst hx;rfl)|exact zbO _ x hx) (by first|(simp;omega)|(have h10:=hgl pre3 q;have h8:=congrArg List.length hg2;have h9:=congrArg List.length hg3;have h7:=zh7 (hgl (zas (nth p.kids i))) pre2;have h6:=hfl i;have h5:=hcl i (by omega);simp only[xaa,xab,xac,xah] at *;have h4:pre2.length*(zas (nth p.kids i)).length≤40*40:=Nat.mul_le_mul (by omega) (by omega);omega)) ?_;refine asg ?_;refine tv ?_;refine ar ?_;refine Exists.intro ((pre3++[y],rest3)) ⟨(by have hz:=hg3;rw[←hz];simp),(by simp),sx ⟨⟨_,rfl,xap ?_⟩,⟨⟨_,rfl,LeA.glg ?_⟩,trivial⟩⟩ ⟨zab ?_,trivial⟩⟩;iterate 3 focus (first|(simp[zdR];omega)|(simp[zdR,zca,zfm,mk_n,mk_m,zhL,za5,xat];done))
   try simp only[Q,Pat.cs_len] at h4p
   have hrest3:rest3=[]:=by
    rcases rest3 with _|⟨a,b⟩
    ·rfl
    ·exfalso;have hz:=congrArg List.length (hg3);simp only[xaa,xab,xac] at hz;omega
   subst hrest3;refine ar ?_;refine Exists.intro ((pre2++[q],rest2)) ⟨(by have hz:=hg2;rw[←hz];simp),(by simp),sx ⟨⟨_,rfl,xap ?_⟩,⟨⟨_,rfl,LeA.glg ?_⟩,trivial⟩⟩ ⟨zab ?_,trivial⟩⟩;iterate 3 focus (first|(simp;done)|(rw[List.append_nil] at hg3;rw[List.flatMap_append,xaf];simp[zdR,←hg3];done))
   try simp only[Q,Pat.cs_len] at h3p
   have hrest2:rest2=[]:=by
    rcases rest2 with _|⟨a,b⟩
    ·rfl
    ·exfalso;have hz:=congrArg List.length (hg2);simp only[xaa,xab,xac] at hz;omega
   subst hrest2;refine CWp.tokRen 4 3 9 rfl rfl (by kernel_rfl) ?_;refine evc [8] [] ?_;refine ar ?_;rw[List.append_nil] at hg2;refine Exists.intro (i+1) ⟨(by omega),(by omega),sx ⟨⟨_,rfl,xap ?_⟩,⟨⟨_,rfl,LeA.glg ?_⟩,⟨⟨_,rfl,.any _⟩,trivial⟩⟩⟩ ⟨zab ?_,trivial⟩⟩;iterate 3 focus (first|rfl|(rw[←hfn i (by omega),←hg2];done))
   try simp only[Q,Pat.cs_len] at h2p
   refine rn [(9,some (.tok (Pat.cs SP).length 6))] (r1 rfl) (.glg ?_) ⟨rfl,rfl⟩ (SubH.get ⟨?_,trivial⟩) (zaz rfl);rotate_left 2;all_goals ((((rw[←hfe i (by omega),show Pat.cs (zcm p i)=(zcm p i).map Pat.cc from xat _];all_goals rfl));done))
def zaD (p:Pat):List Pat:=if (zas (zau p)).length≤40 then zas (zau p) else []
def zcX (p:Pat):Bool:=decide ((zas (zau p)).length≤40)
theorem zjK {w:List Data}{n:Nat}{t:Ty}{p:Pat} (h:zao w n t p=true) (hok:p.ok):FnD Tryz.prog 85 [.agg [.d (.i p.op),.d (.i p.ctor),.d (.i p.n),.d (.i p.m),.d (.i p.var),.d (zac p.kids)]] [] (.tup [.d (zac (zaD p)),.d (.bool (zcX p))]) []:=by
 have hb:=zgH n h;have hbo:=zk4 p hok;have hce:=(zkd n hb).1;have hbp:=zc5 _ (Nat.le_refl _) hok;have hcs:=zeq _ (Nat.le_refl _) hbo;have hsp:=fun h40=>FnD.glD (ze2 n hb hbo h40);rw[hce] at hcs;unfold zaD zcX;generalize zau p=b at *;by_cases h40:(zas b).length≤40
 ·rw[if_pos h40,decide_eq_true h40];have hc40:cap ((zas b).length:Int)≤40:=by unfold cap;split<;>omega
  refine bd Tryz.f85 12 [] [] fun w0 F0 own kept hk=>?_;refine bx 3001 ?_;refine ev ?_;refine wc zj5 (hbp) rfl rfl ?_;refine ab 3004 tz28 ?_;refine so ty28 ?_;refine tv ?_;refine wc zmB (hcs) rfl rfl ?_;refine ev ?_;refine sq ?_ ?_<;>intro h1 h1p h1s;try simp only[Q] at h1p
  exfalso;omega;try simp only[Q] at h1p
  refine wc zmC (hsp h40) rfl rfl ?_;refine ev ?_;refine rn0 (r2 rfl rfl) (.tup (.cons (.eqd ?_) (.cons (.eqd ?_) .nil)));rotate_left 2;all_goals (rfl)
 ·rw[if_neg h40,decide_eq_false h40];have hc40:¬cap ((zas b).length:Int)≤40:=by unfold cap;split<;>omega
  refine bd Tryz.f85 12 [] [] fun w0 F0 own kept hk=>?_;refine bx 3001 ?_;refine ev ?_;refine wc zj5 (hbp) rfl rfl ?_;refine ab 3004 tz28 ?_;refine so ty28 ?_;refine tv ?_;refine wc zmB (hcs) rfl rfl ?_;refine ev ?_;refine sq ?_ ?_<;>intro h1 h1p h1s;try simp only[Q] at h1p
  refine rn0 (r2 rfl rfl) (.tup (.cons (.nild ?_) (.cons (.eqd ?_) .nil)));rotate_left 2;try simp only[Q] at h1p
  exfalso;omega;all_goals (rfl)
structure Spa (w:List Data):Prop where
 dp:Dp w
 ctors:∀t,InS (w.length*4) t→(zah w t).length≤4∧(zah w t).Nodup
 args:∀t c,InS (w.length*4) t→c∈zah w t→(zaa w t c).length≤3
theorem zkf (k:Int):∀(l:List Ctor) (i:Nat),(za0 k i l).Pairwise (· < ·)
 | [],_=>by simp[za0]
 |x::r,i=>by
  unfold za0;have ih:=zkf k r (i+1);split
  ·refine List.pairwise_cons.2 ⟨fun y hy=>?_,ih⟩;obtain⟨j,rfl,h1,_⟩:=zgR k r (i+1) y hy;omega
  ·exact ih
theorem zv7 {w:List Data} (hs:WSmall w) (hv:za6 w=true):Spa w:=by
 have hd:=zmv hs hv;have hW:=(zcr w).1 hv;refine⟨hd,fun t ht=>?_,fun t c ht hc=>?_⟩
 ·unfold zah;split
  ·simp
  ·rename_i he;refine⟨?_,(zkf _ _ _).imp (fun h=>by omega)⟩;rcases ht with h|⟨h1,h2⟩
   ·exact absurd h he
   ·have:=hd.ct _ h1;rw[h2] at this;exact this
 ·have hti:=zb2 ht;obtain⟨d,h1,h2,j,h3,h4⟩:=zcT (a:=t.data) (k:=t.index) hti hc;have hco:=hW.ctor _ (zaf h2) _ (zaf h4);simp only[zbC,xad,decide_eq_true_eq] at hco;unfold zaa;rw[h1,h3];simp only[Int.toNat_natCast,xac];omega
abbrev intQ (n m:Int):Pat:= .mk 3 0 n m 0 []
abbrev za8 (c:Int) (l:List Pat):Pat:= .mk 4 c 0 0 0 l
def zbI (w:List Data) (t:Ty) (c:Int):Pat:=za8 c ((zaa w t c).map fun _=>anyQ)
def lowQ (p:Pat):Int:=if p.op=1 then 0 else p.n
def zck (p:Pat):Int:=if p.op=1 then 9 else p.m
def minQ (a b:Int):Int:=if b<a then b else a
def maxQ (a b:Int):Int:=if a<b then b else a
def zbP (n m:Int):List Pat:=if n≤m then [intQ n m] else []
def zbK (f:Pat→Pat→Option Pat):List Pat→List Pat→List Pat→Option (List Pat)
 |p::r,q::s,acc=>match f p q with
  |none=>none
  |some x=>zbK f r s (acc++[x])
 |_,_,acc=>some acc
def zax:Nat→Pat→Pat→Option Pat
 |0,_,_=>none
 |n+1,a,b=>if a.op=1 then some b else if b.op=1 then some a else if a.op=3 then (if maxQ a.n b.n≤minQ a.m b.m then some (intQ (maxQ a.n b.n) (minQ a.m b.m)) else none)
  else if a.ctor=b.ctor then (zbK (zax n) a.kids b.kids []).map (za8 a.ctor) else none
def zaR (f:Ty→Pat→Pat→List Pat) (c:Int):List Ty→List Pat→List Pat→List Pat→List Pat
 |u::r,x::s,y::q,front=>(f u x y).map (fun z=>za8 c (front++[z]++s))++(match zax 11 x y with
  |none=>[]
  |some both=>zaR f c r s q (front++[both]))
 |_,_,_,_=>[]
def zbZ (f:Ty→Pat→Pat→List Pat) (w:List Data) (t:Ty) (a b:Pat):List Pat:=if a.ctor=b.ctor then zaR f a.ctor (zaa w t a.ctor) a.kids b.kids [] else [a]
def zd2 (a b:Pat):List Pat:=zbP (lowQ a) (minQ (zck a) (b.n-1))++zbP (maxQ (lowQ a) (b.m+1)) (zck a)
def zaq (w:List Data):Nat→Ty→Pat→Pat→List Pat
 |0,_,_,_=>[]
 |n+1,t,a,b=>if b.op=1 then [] else if b.op=3 then zd2 a b else if a.op=1 then (zah w t).flatMap fun c=>zbZ (zaq w n) w t (zbI w t c) b else zbZ (zaq w n) w t a b
section
variable {w:List Data}{n:Nat}{t:Ty}{a b:Pat}
theorem zfl (h:b.op=1):zaq w (n+1) t a b=[]:=by unfold zaq;rw[if_pos h]
theorem zhp (h:b.op=3):zaq w (n+1) t a b=zd2 a b:=by unfold zaq;rw[if_neg (by omega),if_pos h]
theorem zgc (h:b.op=4) (h2:a.op=1):zaq w (n+1) t a b=(zah w t).flatMap fun c=>zbZ (zaq w n) w t (zbI w t c) b:=by
 conv=>lhs;unfold zaq
 rw[if_neg (by omega),if_neg (by omega),if_pos h2]
theorem zcW (h:b.op=4) (h2:a.op=4):zaq w (n+1) t a b=zbZ (zaq w n) w t a b:=by
 conv=>lhs;unfold zaq
 rw[if_neg (by omega),if_neg (by omega),if_neg (by omega)]
theorem zhJ (h:a.op=1):zax (n+1) a b=some b:=by unfold zax;rw[if_pos h]
theorem ziL (h:a.op≠1) (h2:b.op=1):zax (n+1) a b=some a:=by unfold zax;rw[if_neg h,if_pos h2]
theorem ziM (h:a.op=3) (h2:b.op≠1):zax (n+1) a b=if maxQ a.n b.n≤minQ a.m b.m then some (intQ (maxQ a.n b.n) (minQ a.m b.m)) else none:=by
 conv=>lhs;unfold zax
 rw[if_neg (by omega),if_neg h2,if_pos h]
theorem zhK (h:a.op=4) (h2:b.op≠1) (hc:a.ctor=b.ctor):zax (n+1) a b=(zbK (zax n) a.kids b.kids []).map (za8 a.ctor):=by
 conv=>lhs;unfold zax
 rw[if_neg (by omega),if_neg h2,if_neg (by omega),if_pos hc]
theorem zho (h:a.op=4) (h2:b.op≠1) (hc:¬a.ctor=b.ctor):zax (n+1) a b=none:=by
 conv=>lhs;unfold zax
 rw[if_neg (by omega),if_neg h2,if_neg (by omega),if_neg hc]
end
theorem zbB {w:List Data}{n:Nat}{t:Ty}{p:Pat} (h:zae w n t p=true) (h3:p.op=3):t.data = -1∧0≤p.n∧p.n≤p.m∧p.m≤9:=by
 have ho:=(zge h).1;unfold ownP at ho;have:=(of_decide_eq_true ho).2.2.2.2;omega
theorem zaC {w:List Data}{n:Nat}{t:Ty}{p:Pat} (h:zae w n t p=true) (h4:p.op=4):p.ctor∈zah w t∧t.data≠ -1∧p.kids.length=(zaa w t p.ctor).length∧p=za8 p.ctor p.kids:=by
 obtain⟨ho,hl⟩:=zge h;have hm:=zce ho h4;refine⟨hm,fun e=>by unfold zah at hm;rw[if_pos e] at hm;simp at hm,by rw[za2 h4] at hl;exact hl, ?_⟩;unfold ownP at ho;have hh:=of_decide_eq_true ho;have h1:=hh.2.1 (by omega);have h2:=hh.2.2.1 (by omega);obtain⟨op,c,m,k,v,ks⟩:=p;change op=4 at h4
 change v=0 at h1
 change m=0∧k=0 at h2
 rw[h4,h1,h2.1,h2.2];rfl
theorem zpa {w:List Data}{n:Nat}{t:Ty}{a b:Int} (ht:t.data = -1) (h0:0≤a) (h1:a≤b) (h2:b≤9):zae w (n+1) t (intQ a b)=true:=by
 unfold zae;have e:zag w t (intQ a b)=[]:=rfl;rw[e];have ho:ownP w t (intQ a b)=true:=by
  unfold ownP;refine decide_eq_true ⟨fun h=>?_,fun _=>rfl,fun h=>absurd rfl h,fun _=>rfl,.inr (.inr (.inr (.inr (.inl ⟨rfl,ht,h0,h1,h2⟩))))⟩;exfalso;change (3:Int)=2∨(3:Int)=6 at h;omega
 rw[ho];rfl
theorem zi8 {w:List Data}{n:Nat}{t:Ty}{c:Int}{l:List Pat} (hc:c∈zah w t) (hl:l.length=(zaa w t c).length) (hk:∀i,i<l.length→zae w n (nth (zaa w t c) i) (nth l i)=true):zae w (n+1) t (za8 c l)=true:=by
 unfold zae;have e:zag w t (za8 c l)=zaa w t c:=za2 rfl;have ho:ownP w t (za8 c l)=true:=by
  unfold ownP;refine decide_eq_true ⟨fun h=>?_,fun _=>rfl,fun _=>⟨rfl,rfl⟩,fun h=>absurd rfl h,.inr (.inr (.inr (.inr (.inr ⟨rfl,hc⟩))))⟩;exfalso;change (4:Int)=2∨(4:Int)=6 at h;omega
 rw[ho,e,za5];exact zcg hl.symm (fun i hi=>hk i (by omega))
theorem zdc {w:List Data}{n m:Nat} (h:n≤m){t:Ty}{p:Pat} (hp:zae w n t p=true):zae w m t p=true:=by
 induction h with
 |refl=>exact hp
 |step _ ih=>exact zgG _ ih
theorem zcv {w:List Data}{n:Nat}{t:Ty}{c:Int} (hc:c∈zah w t):zae w (n+2) t (zbI w t c)=true:=by
 unfold zbI;refine zi8 hc (by simp) (fun i hi=>?_);have e:nth ((zaa w t c).map fun _=>anyQ) i=anyQ:=by
  rw[zaQ hi];simp
 rw[e];exact zj0
theorem znh {f:Pat→Pat→Option Pat}{a b:List Pat}{i:Nat}{acc:List Pat} (h1:i<a.length) (h2:i<b.length) (h:f (nth a i) (nth b i)=none):zbK f (a.drop i) (b.drop i) acc=none:=by
 rw[zaO h1,zaO h2,zbK,h]
theorem zni {f:Pat→Pat→Option Pat}{a b:List Pat}{i:Nat}{acc:List Pat}{x:Pat} (h1:i<a.length) (h2:i<b.length) (h:f (nth a i) (nth b i)=some x):zbK f (a.drop i) (b.drop i) acc=zbK f (a.drop (i+1)) (b.drop (i+1)) (acc++[x]):=by
 rw[zaO h1,zaO h2,zbK,h]
theorem zfk {f:Pat→Pat→Option Pat}{a b:List Pat}{i:Nat}{acc:List Pat} (h1:a.length≤i):zbK f (a.drop i) (b.drop i) acc=some acc:=by
 rw[List.drop_eq_nil_of_le h1];cases b.drop i<;>rfl
theorem zfK {f:Pat→Pat→Option Pat}:∀ {a b acc l:List Pat},a.length=b.length→zbK f a b acc=some l→∃r,l=acc++r∧r.length=a.length∧∀i,i<a.length→f (nth a i) (nth b i)=some (nth r i)
 | [],[],acc,l,_,h=>by
  simp only[zbK,Option.some.injEq] at h;exact⟨[],by simp[h],rfl,fun i hi=>by simp at hi⟩
 |p::r,q::s,acc,l,hl,h=>by
  unfold zbK at h;cases hf:f p q with
  |none=>rw[hf] at h;cases h
  |some x=>
   rw[hf] at h;obtain⟨z,e,hz,hm⟩:=zfK (a:=r) (b:=s) (by simpa using hl) h;refine⟨x::z,by rw[e];simp,by simp[hz],fun i hi=>?_⟩;cases i with
   |zero=>exact hf
   |succ i=>exact hm i (by simpa using hi)
 | [],_::_,_,_,hl,_=>by simp at hl
 |_::_,[],_,_,hl,_=>by simp at hl
theorem zdd {w:List Data}{n m:Nat}{t:Ty}{a b:Pat} (ha:zae w n t a=true) (hb:zae w m t b=true) (h1:a.op≠1) (h2:b.op≠1):a.op=b.op:=by
 have oa:=zbn ha;have ob:=zbn hb;rcases oa with h|h|h
 ·exact absurd h h1
 ·rcases ob with h' | h' | h'
  ·exact absurd h' h2
  ·omega
  ·exact absurd (zbB ha h).1 (zaC hb h').2.1
 ·rcases ob with h' | h' | h'
  ·exact absurd h' h2
  ·exact absurd (zbB hb h').1 (zaC ha h).2.1
  ·omega
theorem zsE (a b:Int):minQ a b≤a∧minQ a b≤b:=by unfold minQ;split<;>omega
theorem zsD (a b:Int):a≤maxQ a b∧b≤maxQ a b:=by unfold maxQ;split<;>omega
theorem zwY (a b:Int):minQ a b=a∨minQ a b=b:=by unfold minQ;split<;>omega
theorem zwW (a b:Int):maxQ a b=a∨maxQ a b=b:=by unfold maxQ;split<;>omega
theorem zkw {w:List Data}:∀(n m:Nat){t:Ty}{a b x:Pat},zae w m t a=true→zae w m t b=true→zax n a b=some x→zae w m t x=true
 |0,m,t,a,b,x,_,_,h=>by simp[zax] at h
 |n+1,0,t,a,b,x,ha,_,_=>by simp[zae] at ha
 |n+1,m+1,t,a,b,x,ha,hb,h=>by
  by_cases h1:a.op=1
  ·rw[zhJ h1] at h;cases h;exact hb
  by_cases h2:b.op=1
  ·rw[ziL h1 h2] at h;cases h;exact ha
  have hs:=zdd ha hb h1 h2;have oa:=zbn ha;by_cases h3:a.op=3
  ·rw[ziM h3 h2] at h;split at h
   ·cases h
    have ia:=zbB ha h3;have ib:=zbB hb (by omega);have q1:=zwY a.m b.m;have q2:=zwW a.n b.n;refine zpa ia.1 (by omega) (by assumption) (by omega)
   ·cases h
  have h4:a.op=4:=by omega
  by_cases hc:a.ctor=b.ctor
  ·rw[zhK h4 h2 hc] at h;obtain⟨m1,m2,m3,m4⟩:=zaC ha h4;obtain⟨n1,n2,n3,n4⟩:=zaC hb (by omega);rw[←hc] at n3;cases hl:zbK (zax n) a.kids b.kids [] with
   |none=>rw[hl] at h;cases h
   |some l=>
    rw[hl] at h;simp only[Option.map_some,Option.some.injEq] at h;subst h;obtain⟨r,e,hr,hm⟩:=zfK (by omega) hl;rw[List.nil_append] at e;subst e;refine zi8 m1 (by omega) (fun i hi=>?_);have ka:=zaT ha (i:=i) (by omega);have kb:=zaT hb (i:=i) (by omega);rw[za2 h4] at ka;rw[za2 (by omega),←hc] at kb;exact zkw n m ka kb (hm i (by omega))
  ·rw[zho h4 h2 hc] at h;cases h
theorem zny {w:List Data}{n:Nat}{t:Ty}{a b:Int} (ht:t.data = -1) (h0:0≤a) (h2:b≤9):∀x∈zbP a b,zae w (n+1) t x=true:=by
 intro x hx;unfold zbP at hx;split at hx
 ·rename_i h1;rw[List.mem_singleton] at hx;rw[hx];exact zpa ht h0 h1 h2
 ·simp at hx
theorem zmc {w:List Data}{n:Nat}{t:Ty}{a:Pat} (ha:zae w n t a=true) (ht:t.data = -1):0≤lowQ a∧zck a≤9∧lowQ a≤zck a:=by
 have oa:=zbn ha;unfold lowQ zck;by_cases h1:a.op=1
 ·rw[if_pos h1,if_pos h1];omega
 ·rw[if_neg h1,if_neg h1];by_cases h3:a.op=3
  ·have:=zbB ha h3;omega
  ·exact absurd ht (zaC ha (by omega)).2.1
theorem zto (a b:Pat):(zd2 a b).length≤2:=by
 have h:∀x y,(zbP x y).length≤1:=fun x y=>by unfold zbP;split<;>simp
 unfold zd2;rw[xaa];have:=h (lowQ a) (minQ (zck a) (b.n-1));have:=h (maxQ (lowQ a) (b.m+1)) (zck a);omega
theorem zrY {w:List Data}{f:Ty→Pat→Pat→List Pat}{m:Nat}{t:Ty}{c:Int} (hc:c∈zah w t) (hf:∀u x y,zae w m u x=true→zae w m u y=true→∀z∈f u x y,zae w m u z=true):
  ∀(i:Nat){xs bs front:List Pat},front.length=i→xs.length+i=(zaa w t c).length→bs.length=xs.length→(∀j,j<i→zae w m (nth (zaa w t c) j) (nth front j)=true)→
   (∀j,j<xs.length→zae w m (nth (zaa w t c) (i+j)) (nth xs j)=true∧zae w m (nth (zaa w t c) (i+j)) (nth bs j)=true)→
   ∀x∈zaR f c ((zaa w t c).drop i) xs bs front,zae w (m+1) t x=true:=by
 intro i xs;induction xs generalizing i with
 |nil=>
  intro bs front _ _ _ _ _ x hx;cases hT:(zaa w t c).drop i<;>(rw[hT] at hx;simp[zaR] at hx)
 |cons a0 s ih=>
  intro bs front hfl hal hbl hfr hab x hx;cases bs with
  |nil=>simp at hbl
  |cons b0 q=>
   have hi:i<(zaa w t c).length:=by simp at hal;omega
   rw[zaO hi] at hx;have h0:=hab 0 (by simp);simp only[Nat.add_zero] at h0;have e0:nth (a0::s) 0=a0:=rfl;have e1:nth (b0::q) 0=b0:=rfl;rw[e0,e1] at h0;unfold zaR at hx;have hpiece:∀z,zae w m (nth (zaa w t c) i) z=true→∀j,j<(front++[z]++s).length→zae w m (nth (zaa w t c) j) (nth (front++[z]++s) j)=true:=fun z hz j hj=>by
    by_cases hj1:j<i
    ·have e:nth (front++[z]++s) j=nth front j:=by
      simp only[nth,List.getD,List.append_assoc];rw[List.getElem?_append_left (by omega)]
     rw[e];exact hfr j hj1
    ·by_cases hj2:j=i
     ·have e:nth (front++[z]++s) j=z:=by
       simp only[nth,List.getD,List.append_assoc];rw[List.getElem?_append_right (by omega),show j-front.length=0 by omega];rfl
      rw[e,hj2];exact hz
     ·obtain⟨k,rfl⟩:∃k,j=i+1+k:=⟨j-(i+1),by omega⟩;have e:nth (front++[z]++s) (i+1+k)=nth (a0::s) (k+1):=by
       simp only[nth,List.getD,List.append_assoc];rw[List.getElem?_append_right (by omega),show i+1+k-front.length=k+1 by omega];rfl
      rw[e];have:=(hab (k+1) (by simp at hj ⊢;omega)).1;rwa [show i+(k+1)=i+1+k by omega] at this
   rcases List.mem_append.1 hx with hx|hx
   ·obtain⟨z,hz,rfl⟩:=List.mem_map.1 hx;refine zi8 hc (by simp at hal ⊢;omega) (hpiece z (hf _ _ _ h0.1 h0.2 z hz))
   ·cases hm:zax 11 a0 b0 with
    |none=>rw[hm] at hx;simp at hx
    |some both=>
     rw[hm] at hx;have hbp:=zkw 11 m h0.1 h0.2 hm;refine ih (i+1) (bs:=q) (front:=front++[both]) (by simp[hfl]) (by simp at hal ⊢;omega) (by simpa using hbl) (fun j hj=>?_) (fun j hj=>?_) x hx
     ·have:=hpiece both hbp j (by simp;omega);have e:nth (front++[both]++s) j=nth (front++[both]) j:=by
       simp only[nth,List.getD];rw[List.getElem?_append_left (by simp;omega)]
      rwa [e] at this
     ·have:=hab (j+1) (by simpa using hj);rwa [show i+(j+1)=i+1+j by omega] at this
theorem zfM {w:List Data}:∀(n m:Nat){t:Ty}{a b:Pat},n<m→zae w m t a=true→zae w n t b=true→∀x∈zaq w n t a b,zae w m t x=true
 |0,m,t,a,b,_,_,hb=>by simp[zae] at hb
 |n+1,0,t,a,b,hn,_,_=>by omega
 |n+1,m+1,t,a,b,hn,ha,hb=>by
  have ob:=zbn hb;have oa:=zbn ha;have hf:∀u x y,zae w m u x=true→zae w n u y=true→∀z∈zaq w n u x y,zae w m u z=true:=fun u x y hx hy=>zfM n m (by omega) hx hy;have hcc:∀a,zae w (m+1) t a=true→a.op=4→b.op=4→∀x∈zbZ (zaq w n) w t a b,zae w (m+1) t x=true:=fun a ha h4 h4b=>by
   obtain⟨m1,m2,m3,m4⟩:=zaC ha h4;obtain⟨n1,n2,n3,n4⟩:=zaC hb h4b;intro x hx;unfold zbZ at hx;split at hx
   ·rename_i hc;have key:=zrY (w:=w) (f:=fun u x y=>if zae w m u x=true∧zae w n u y=true then zaq w n u x y else []) (m:=m) (t:=t) (c:=a.ctor) m1 (fun u x y hx hy z hz=>by
     split at hz
     ·rename_i hh;exact hf u x y hh.1 hh.2 z hz
     ·simp at hz) 0 (xs:=a.kids) (bs:=b.kids) (front:=[]) rfl (by omega) (by rw[hc] at m3;omega) (fun j hj=>by omega) (fun j hj=>by
      have ka:=zaT ha (i:=j) hj;have kb:=zaT hb (i:=j) (by rw[hc] at m3;omega);rw[za2 h4] at ka;rw[za2 h4b,←hc] at kb;rw[Nat.zero_add];exact⟨ka,zdc (by omega) kb⟩) x
    refine key ?_;have e:∀(ts:List Ty) (xs bs front:List Pat),(∀j,j<ts.length→j<xs.length→j<bs.length→zae w m (nth ts j) (nth xs j)=true∧zae w n (nth ts j) (nth bs j)=true)→
      zaR (fun u x y=>if zae w m u x=true∧zae w n u y=true then zaq w n u x y else []) a.ctor ts xs bs front=zaR (zaq w n) a.ctor ts xs bs front:=by
     intro ts;induction ts with
     |nil=>intro xs bs front _;simp[zaR]
     |cons u r ih=>
      intro xs bs front h;cases xs with
      |nil=>simp[zaR]
      |cons x s=>
       cases bs with
       |nil=>simp[zaR]
       |cons y q=>
        have h0:=h 0 (by simp) (by simp) (by simp);change zae w m u x=true∧zae w n u y=true at h0
        unfold zaR;rw[if_pos h0];congr 1
        cases hmm:zax 11 x y with
        |none=>rfl
        |some both=>exact ih s q (front++[both]) (fun j h1 h2 h3=>h (j+1) (by simpa using h1) (by simpa using h2) (by simpa using h3))
    rw[List.drop_zero,e _ _ _ _ (fun j h1 h2 h3=>?_)]
    ·exact hx
    ·have ka:=zaT ha (i:=j) h2;have kb:=zaT hb (i:=j) h3;rw[za2 h4] at ka;rw[za2 h4b,←hc] at kb;exact⟨ka,kb⟩
   ·rw[List.mem_singleton] at hx;rw[hx];exact ha
  rcases ob with h1|h3|h4
  ·rw[zfl h1];simp
  ·rw[zhp h3];intro x hx;have hl:=zmc ha (zbB hb h3).1;have ib:=zbB hb h3;have q1:=zsE (zck a) (b.n-1);have q2:=zsD (lowQ a) (b.m+1);unfold zd2 at hx;rcases List.mem_append.1 hx with h|h
   ·exact zny ib.1 (by omega) (by omega) x h
   ·exact zny ib.1 (by omega) (by omega) x h
  ·by_cases ha1:a.op=1
   ·rw[zgc h4 ha1];intro x hx;obtain⟨c,hc,hx⟩:=List.mem_flatMap.1 hx;refine hcc _ ?_ rfl h4 x hx;obtain⟨k,rfl⟩:∃k,m=k+1:=⟨m-1,by omega⟩;exact zcv hc
   ·have ha4:a.op=4:=by
     have:=zdd ha hb ha1 (by omega);omega
    rw[zcW h4 ha4];exact hcc a ha ha4 h4
theorem zeK {w:List Data} (hs:Spa w):∀(n:Nat){t:Ty}{p:Pat},InS (w.length*4) t→zae w n t p=true→p.ok∧p.size≤4 ^ n
 |0,t,p,_,h=>by simp[zae] at h
 |n+1,t,p,ht,h=>by
  have hk:=fun i (hi:i<p.kids.length)=>zaT h hi;have hl:=(zge h).2;have op:=zbn h;have hpow:4 ^ (n+1)=4 ^ n*4:=rfl;have hpos:0<4 ^ n:=Nat.pow_pos (by omega);by_cases h4:p.op=4
  ·obtain⟨m1,m2,m3,m4⟩:=zaC h h4;have h3:=hs.args t p.ctor ht m1;rw[za2 h4] at hk;have ih:∀k∈p.kids,k.ok∧k.size≤4 ^ n:=fun k hkm=>by
    obtain⟨i,hi,rfl⟩:=List.getElem_of_mem hkm;have e:nth p.kids i=p.kids[i]:=zaQ hi;have:=zeK hs n (zbo hs.dp ht m1 _ (zaf (i:=i) (by omega))) (hk i hi);rwa [e] at this
   have hz:=Pats.size_of (m:=4 ^ n) (fun k hk=>(ih k hk).2);rw[Pat.ok_iff,Pat.size_eq];refine⟨⟨by omega,Pats.ok_of (fun k hk=>(ih k hk).1)⟩, ?_⟩;have:p.kids.length*4 ^ n≤3*4 ^ n:=Nat.mul_le_mul_right _ (by omega);omega
  ·have hk0:p.kids=[]:=zeM (zg9 _ h) h4 (by omega) (by omega);rw[Pat.ok_iff,Pat.size_eq,hk0];exact⟨⟨by simp,trivial⟩,by simp only[Pats.size];omega⟩
theorem zo0 {α:Type}{g:Int→List α}{c0:Int}{X:Nat}:∀ {cs:List Int},cs.Nodup→(∀c∈cs,c≠c0→(g c).length≤1)→(g c0).length≤X→(cs.flatMap g).length≤cs.length+X
 | [],_,_,_=>by simp
 |c::r,hn,h1,h2=>by
  obtain⟨n1,n2⟩:=List.nodup_cons.1 hn;rw[List.flatMap_cons,xaa,xab];by_cases hc:c=c0
  ·have key:∀l:List Int,c0∉l→(∀x∈l,x≠c0→(g x).length≤1)→(l.flatMap g).length≤l.length:=by
    intro l;induction l with
    |nil=>intro _ _;simp
    |cons y s ih=>
     intro hm hh;rw[List.flatMap_cons,xaa,xab];have a1:=hh y (by simp) (fun e=>hm (by rw[e];simp));have a2:=ih (fun e=>hm (by simp[e])) (fun x hx=>hh x (by simp[hx]));omega
   have:=key r (by rw[←hc];exact n1) (fun x hx=>h1 x (by simp[hx]));rw[hc];omega
  ·have a1:=h1 c (by simp) hc;have a2:=zo0 (X:=X) n2 (fun x hx=>h1 x (by simp[hx])) h2;omega
theorem znm {f:Ty→Pat→Pat→List Pat}{c:Int} (L:Pat→Nat):∀(ts:List Ty) (xs bs front:List Pat),(∀i,i<ts.length→i<xs.length→i<bs.length→(f (nth ts i) (nth xs i) (nth bs i)).length≤L (nth bs i))→(zaR f c ts xs bs front).length≤(bs.map L).sum
 | [],xs,bs,front,_=>by simp[zaR]
 |_::_,[],bs,front,_=>by simp[zaR]
 |_::_,_::_,[],front,_=>by simp[zaR]
 |u::r,x::s,y::q,front,h=>by
  have h0:=h 0 (by simp) (by simp) (by simp);change (f u x y).length≤L y at h0
  unfold zaR;rw[xaa,xac,xae,List.sum_cons];cases hm:zax 11 x y with
  |none=>simp;omega
  |some both=>
   have:=znm (c:=c) L r s q (front++[both]) (fun i h1 h2 h3=>h (i+1) (by simpa using h1) (by simpa using h2) (by simpa using h3));dsimp only;omega
theorem ztn {w:List Data}{f:Ty→Pat→Pat→List Pat}{t:Ty}{a b:Pat}{L:Pat→Nat} (h:∀i,i<(zaa w t a.ctor).length→i<a.kids.length→i<b.kids.length→(f (nth (zaa w t a.ctor) i) (nth a.kids i) (nth b.kids i)).length≤L (nth b.kids i)):
  (zbZ f w t a b).length≤if a.ctor=b.ctor then (b.kids.map L).sum else 1:=by
 unfold zbZ;split
 ·exact znm L _ _ _ _ h
 ·simp
theorem sum4:∀l:List Pat,(l.map fun b=>4*b.size).sum=4*Pats.size l
 | []=>rfl
 |k::r=>by simp only[xae,List.sum_cons,Pats.size,sum4 r];omega
theorem zpk {w:List Data} (hs:Spa w):∀(n m:Nat){t:Ty}{a b:Pat},n<m→InS (w.length*4) t→zae w m t a=true→zae w n t b=true→(zaq w n t a b).length≤4*b.size
 |0,m,t,a,b,_,_,_,hb=>by simp[zae] at hb
 |n+1,0,t,a,b,hn,_,_,_=>by omega
 |n+1,m+1,t,a,b,hn,ht,ha,hb=>by
  have ob:=zbn hb;have hz:=Pat.size_eq b;rcases ob with h1|h3|h4
  ·rw[zfl h1];simp
  ·rw[zhp h3];have:=zto a b;omega
  ·obtain⟨n1,n2,n3,n4⟩:=zaC hb h4;have hcc:∀a,zae w (m+1) t a=true→a.op=4→(zbZ (zaq w n) w t a b).length≤if a.ctor=b.ctor then 4*Pats.size b.kids else 1:=fun a ha h4a=>by
    obtain⟨m1,m2,m3,m4⟩:=zaC ha h4a;rw[←sum4];by_cases hc:a.ctor=b.ctor
    ·have:=ztn (w:=w) (f:=zaq w n) (t:=t) (a:=a) (b:=b) (L:=fun b=>4*b.size) (fun i h1 h2 h3=>by
      have ka:=zaT ha (i:=i) h2;have kb:=zaT hb (i:=i) h3;rw[za2 h4a] at ka;rw[za2 h4,←hc] at kb;exact zpk hs n m (by omega) (zbo hs.dp ht m1 _ (zaf h1)) ka kb)
     exact this
    ·unfold zbZ;rw[if_neg hc,if_neg hc];simp
   by_cases ha1:a.op=1
   ·rw[zgc h4 ha1];obtain⟨c1,c2⟩:=hs.ctors t ht;have hw:∀c,c∈zah w t→(zbZ (zaq w n) w t (zbI w t c) b).length≤if c=b.ctor then 4*Pats.size b.kids else 1:=fun c hc=>by
     obtain⟨k,rfl⟩:∃k,m=k+1:=⟨m-1,by omega⟩;exact hcc _ (zcv hc) rfl
    have:=zo0 (g:=fun c=>zbZ (zaq w n) w t (zbI w t c) b) (c0:=b.ctor) (X:=4*Pats.size b.kids) c2 (fun c hc hne=>by have:=hw c hc;rwa [if_neg hne] at this) (by have:=hw _ n1;rwa [if_pos rfl] at this);omega
   ·have ha4:a.op=4:=by have:=zdd ha hb ha1 (by omega);omega
    rw[zcW h4 ha4];have:=hcc a ha ha4;split at this<;>omega
theorem zmy {α β:Type} [Inhabited α] [Inhabited β]{f:α→β→Bool}:∀ {a:List α}{b:List β},a.length=b.length→all2 f a b=false→∃i,i<a.length∧f (nth a i) (nth b i)=false
 | [],[],_,h=>by simp[all2] at h
 |x::r,y::s,hl,h=>by
  simp only[all2,Bool.and_eq_false_iff] at h;rcases h with h|h
  ·exact⟨0,by simp,h⟩
  ·obtain⟨i,h1,h2⟩:=zmy (by simpa using hl) h;exact⟨i+1,by simpa using h1,h2⟩
 | [],_::_,hl,_=>by simp at hl
 |_::_,[],hl,_=>by simp at hl
theorem zfe {w:List Data}{f:Nat→Nat}{n:Nat}{t:Ty}{p:Pat} (h:p.op=1):zaX w f (n+1) t p=decide (dv f t=0):=by rw[zgn,if_pos (.inl h)]
theorem zlb {w:List Data}{f:Nat→Nat}{n m:Nat}{t:Ty}{p:Pat} (hp:zae w m t p=true) (h:p.op=3):zaX w f (n+1) t p=false:=by
 rw[zgn,if_neg (by omega),if_neg (by omega)];have e:zag w t p=[]:=by unfold zag;rw[if_neg (by omega),if_neg (by omega),if_neg (by omega)]
 have hl:=(zge hp).2;rw[e] at hl ⊢;rw[List.eq_nil_of_length_eq_zero hl];rfl
theorem ziG {w:List Data}{f:Nat→Nat}{n:Nat}{t:Ty}{p:Pat} (h:p.op=4):zaX w f (n+1) t p = !(all2 (fun u q=> !zaX w f n u q) (zaa w t p.ctor) p.kids):=by
 rw[zgn,if_neg (by omega),if_neg (by omega),za2 h]
theorem zlX {w:List Data}{f:Nat→Nat}{n m:Nat}{t:Ty}{p:Pat} (hp:zae w m t p=true) (h:p.op=4) (hd:zaX w f (n+1) t p=true):∃i,i<p.kids.length∧zaX w f n (nth (zaa w t p.ctor) i) (nth p.kids i)=true:=by
 rw[ziG h] at hd;have hl:=(zaC hp h).2.2.1;obtain⟨i,h1,h2⟩:=zmy (a:=zaa w t p.ctor) (b:=p.kids) (f:=fun u q=> !zaX w f n u q) hl.symm (by simpa using hd);exact⟨i,by omega,by simpa using h2⟩
theorem zhG {w:List Data}{f:Nat→Nat}{n:Nat}{t:Ty}{c:Int}{l:List Pat}{i:Nat} (hi:i<l.length) (hl:l.length=(zaa w t c).length) (hd:zaX w f n (nth (zaa w t c) i) (nth l i)=true):zaX w f (n+1) t (za8 c l)=true:=by
 rw[ziG rfl];have:=zb3 (f:=fun u q=> !zaX w f n u q) (a:=zaa w t c) (b:=l) (i:=i) (by omega) hl.symm (by rw[hd];rfl);show(!all2 (fun u q=> !zaX w f n u q) (zaa w t c) l)=true
 rw[this];rfl
theorem zyc {w:List Data} (hd:Dp w){t:Ty}{c:Int} (ht:InS (w.length*4) t) (hc:c∈zah w t) (h0:dv (zai w) t=0):∃i,i<(zaa w t c).length∧dv (zai w) (nth (zaa w t c) i)=0:=by
 by_cases hx:∃i,i<(zaa w t c).length∧dv (zai w) (nth (zaa w t c) i)=0
 ·exact hx
 ·exfalso;have a:Snd w (zai w)∧Cmp w (w.length*4+1) (zai w):=zc0 hd.cl (w.length*4+1);have hdt:t.data≠ -1:=fun e=>by unfold zah at hc;rw[if_pos e] at hc;simp at hc
  have hb:∀u∈zaa w t c,Hd w (w.length*4+1) u:=fun u hu=>by
   obtain⟨i,hi,rfl⟩:=List.getElem_of_mem hu;have hpos:0<dv (zai w) (zaa w t c)[i]:=by
    have e:nth (zaa w t c) i=(zaa w t c)[i]:=zaQ hi;rcases Nat.eq_zero_or_pos (dv (zai w) (zaa w t c)[i]) with h|h
    ·exact absurd ⟨i,hi,by rw[e];exact h⟩ hx
    ·exact h
   have hin:=zbo hd ht hc _ hu;have h1:=zmU a.1 hin hpos;rcases hin with h2|⟨h2,h3⟩
   ·exact .inl h2
   ·rw[←h3] at h1 ⊢;exact zm2 hd.cl h2 h1
  have h2:Hd w (w.length*4+2) t:= .inr ⟨c,zk3 hc,hdt,hb⟩;rcases ht with h3|⟨h3,h4⟩
  ·exact hdt h3
  ·rw[←h4] at h2;have h5:=zm2 hd.cl h3 h2;rw[h4] at h5;have:=(zkh a.2 (.inr ⟨h3,h4⟩) h5).1;omega
section
variable {w:List Data} (hs:Spa w)
include hs
theorem zkg:∀(n:Nat){t:Ty}{p:Pat},InS (w.length*4) t→zae w n t p=true→dv (zai w) t=0→zaX w (zai w) n t p=true
 |0,t,p,_,h,_=>by simp[zae] at h
 |n+1,t,p,ht,h,h0=>by
  rcases zbn h with h1|h3|h4
  ·rw[zfe h1];exact decide_eq_true h0
  ·have:=(zbB h h3).1;unfold dv at h0;rw[if_pos this] at h0;omega
  ·obtain⟨m1,m2,m3,m4⟩:=zaC h h4;obtain⟨i,h5,h6⟩:=zyc hs.dp ht m1 h0;rw[m4];have hk:=zaT h (i:=i) (by omega);rw[za2 h4] at hk;exact zhG (by omega) m3 (zkg n (zbo hs.dp ht m1 _ (zaf h5)) hk h6)
theorem zpg:∀(n k:Nat){t:Ty}{a b x:Pat},InS (w.length*4) t→zae w n t a=true→zae w n t b=true→zaX w (zai w) n t a=true→zax k a b=some x→zaX w (zai w) n t x=true
 |0,k,t,a,b,x,_,h,_,_,_=>by simp[zae] at h
 |n+1,0,t,a,b,x,_,_,_,_,h=>by simp[zax] at h
 |n+1,k+1,t,a,b,x,ht,ha,hb,hd,h=>by
  by_cases h1:a.op=1
  ·rw[zhJ h1] at h;cases h;rw[zfe h1] at hd;exact zkg hs (n+1) ht hb (of_decide_eq_true hd)
  by_cases h2:b.op=1
  ·rw[ziL h1 h2] at h;cases h;exact hd
  by_cases h3:a.op=3
  ·rw[zlb ha h3] at hd;cases hd
  have h4:a.op=4:=by have:=zbn ha;omega
  have hso:=zdd ha hb h1 h2;by_cases hc:a.ctor=b.ctor
  ·rw[zhK h4 h2 hc] at h;obtain⟨m1,m2,m3,m4⟩:=zaC ha h4;obtain⟨n1,n2,n3,n4⟩:=zaC hb (by omega);rw[←hc] at n3;cases hl:zbK (zax k) a.kids b.kids [] with
   |none=>rw[hl] at h;cases h
   |some l=>
    rw[hl] at h;simp only[Option.map_some,Option.some.injEq] at h;subst h;obtain⟨r,e,hr,hm⟩:=zfK (by omega) hl;rw[List.nil_append] at e;subst e;obtain⟨i,hi,hde⟩:=zlX ha h4 hd;have ka:=zaT ha (i:=i) hi;have kb:=zaT hb (i:=i) (by omega);rw[za2 h4] at ka;rw[za2 (by omega),←hc] at kb;exact zhG (i:=i) (by omega) (by omega) (zpg n k (zbo hs.dp ht m1 _ (zaf (by omega))) ka kb hde (hm i hi))
  ·rw[zho h4 h2 hc] at h;cases h
theorem zrX {f:Ty→Pat→Pat→List Pat}{m:Nat}{t:Ty}{c:Int} (ht:InS (w.length*4) t) (hc:c∈zah w t):
  ∀(i:Nat){xs bs front:List Pat},front.length=i→xs.length+i=(zaa w t c).length→bs.length=xs.length→
   (∀j,j<xs.length→zae w m (nth (zaa w t c) (i+j)) (nth xs j)=true∧zae w m (nth (zaa w t c) (i+j)) (nth bs j)=true∧(zaX w (zai w) m (nth (zaa w t c) (i+j)) (nth xs j)=true→∀z∈f (nth (zaa w t c) (i+j)) (nth xs j) (nth bs j),zaX w (zai w) m (nth (zaa w t c) (i+j)) z=true))→
   ((∃j,j<i∧zaX w (zai w) m (nth (zaa w t c) j) (nth front j)=true)∨∃j,j<xs.length∧zaX w (zai w) m (nth (zaa w t c) (i+j)) (nth xs j)=true)→
   ∀x∈zaR f c ((zaa w t c).drop i) xs bs front,zaX w (zai w) (m+1) t x=true:=by
 intro i xs;induction xs generalizing i with
 |nil=>
  intro bs front _ _ _ _ _ x hx;cases hT:(zaa w t c).drop i<;>(rw[hT] at hx;simp[zaR] at hx)
 |cons a0 s ih=>
  intro bs front hfl hal hbl hab hde x hx;cases bs with
  |nil=>simp at hbl
  |cons b0 q=>
   have hi:i<(zaa w t c).length:=by simp at hal;omega
   rw[zaO hi] at hx;have h0:=hab 0 (by simp);simp only[Nat.add_zero] at h0;have e0:nth (a0::s) 0=a0:=rfl;have e1:nth (b0::q) 0=b0:=rfl;rw[e0,e1] at h0;unfold zaR at hx;have f1:∀z j,j<i→nth (front++[z]++s) j=nth front j:=fun z j hj=>by
    simp only[nth,List.getD,List.append_assoc];rw[List.getElem?_append_left (by omega)]
   have f2:∀z,nth (front++[z]++s) i=z:=fun z=>by
    simp only[nth,List.getD,List.append_assoc];rw[List.getElem?_append_right (by omega),show i-front.length=0 by omega];rfl
   have f3:∀z k,nth (front++[z]++s) (i+1+k)=nth (a0::s) (k+1):=fun z k=>by
    simp only[nth,List.getD,List.append_assoc];rw[List.getElem?_append_right (by omega),show i+1+k-front.length=k+1 by omega];rfl
   have hfl2:∀z,(front++[z]++s).length=(zaa w t c).length:=fun z=>by simp at hal ⊢;omega
   rcases List.mem_append.1 hx with hx|hx
   ·obtain⟨z,hz,rfl⟩:=List.mem_map.1 hx;rcases hde with ⟨j,hj,hd⟩|⟨j,hj,hd⟩
    ·exact zhG (i:=j) (by rw[hfl2];omega) (hfl2 z) (by rw[f1 z j hj];exact hd)
    ·cases j with
     |zero=>exact zhG (i:=i) (by rw[hfl2];omega) (hfl2 z) (by rw[f2 z];exact h0.2.2 hd z hz)
     |succ k=>exact zhG (i:=i+1+k) (by rw[hfl2];simp at hj;simp at hal;omega) (hfl2 z) (by rw[f3 z k,show i+1+k=i+(k+1) by omega];exact hd)
   ·cases hm:zax 11 a0 b0 with
    |none=>rw[hm] at hx;simp at hx
    |some both=>
     rw[hm] at hx;refine ih (i+1) (bs:=q) (front:=front++[both]) (by simp[hfl]) (by simp at hal ⊢;omega) (by simpa using hbl) (fun j hj=>?_) ?_ x hx
     ·have:=hab (j+1) (by simpa using hj);rwa [show i+(j+1)=i+1+j by omega] at this
     ·rcases hde with ⟨j,hj,hd⟩|⟨j,hj,hd⟩
      ·refine .inl ⟨j,by omega, ?_⟩;have e:nth (front++[both]) j=nth front j:=by
        simp only[nth,List.getD];rw[List.getElem?_append_left (by omega)]
       rw[e];exact hd
      ·cases j with
       |zero=>
        refine .inl ⟨i,by omega, ?_⟩;have e:nth (front++[both]) i=both:=by
         simp only[nth,List.getD];rw[List.getElem?_append_right (by omega),show i-front.length=0 by omega];rfl
        rw[e];exact zpg hs m 11 (zbo hs.dp ht hc _ (zaf hi)) h0.1 h0.2.1 hd hm
       |succ k=>
        refine .inr ⟨k,by simpa using hj, ?_⟩;rw[show i+1+k=i+(k+1) by omega];exact hd
theorem zno:∀(n m:Nat){t:Ty}{a b:Pat},n<m→InS (w.length*4) t→zae w m t a=true→zae w n t b=true→zaX w (zai w) m t a=true→∀x∈zaq w n t a b,zaX w (zai w) m t x=true
 |0,m,t,a,b,_,_,_,hb,_=>by simp[zae] at hb
 |n+1,0,t,a,b,hn,_,_,_,_=>by omega
 |n+1,m+1,t,a,b,hn,ht,ha,hb,hd=>by
  have hcc:∀a,zae w (m+1) t a=true→a.op=4→b.op=4→zaX w (zai w) (m+1) t a=true→∀x∈zbZ (zaq w n) w t a b,zaX w (zai w) (m+1) t x=true:=fun a ha h4 h4b hd=>by
   obtain⟨m1,m2,m3,m4⟩:=zaC ha h4;obtain⟨n1,n2,n3,n4⟩:=zaC hb h4b;intro x hx;unfold zbZ at hx;split at hx
   ·rename_i hc;obtain⟨j,hj,hdj⟩:=zlX ha h4 hd;refine zrX hs ht m1 0 (xs:=a.kids) (bs:=b.kids) (front:=[]) rfl (by omega) (by rw[hc] at m3;omega) (fun j hj=>?_) (.inr ⟨j,hj,by rw[Nat.zero_add];exact hdj⟩) x hx;have ka:=zaT ha (i:=j) hj;have kb:=zaT hb (i:=j) (by rw[hc] at m3;omega);rw[za2 h4] at ka;rw[za2 h4b,←hc] at kb;rw[Nat.zero_add];exact⟨ka,zdc (by omega) kb,fun hdk z hz=>zno n m (by omega) (zbo hs.dp ht m1 _ (zaf (by omega))) ka kb hdk z hz⟩
   ·rw[List.mem_singleton] at hx;rw[hx];exact hd
  rcases zbn hb with h1|h3|h4
  ·rw[zfl h1];simp
  ·have hl:=zmc ha (zbB hb h3).1;rcases zbn ha with h|h|h
   ·rw[zfe h] at hd;have:=of_decide_eq_true hd;unfold dv at this;rw[if_pos (zbB hb h3).1] at this;omega
   ·rw[zlb ha h] at hd;cases hd
   ·exact absurd (zbB hb h3).1 (zaC ha h).2.1
  ·by_cases ha1:a.op=1
   ·rw[zgc h4 ha1];rw[zfe ha1] at hd;intro x hx;obtain⟨c,hc,hx⟩:=List.mem_flatMap.1 hx;obtain⟨k,rfl⟩:∃k,m=k+1:=⟨m-1,by omega⟩;exact hcc _ (zcv hc) rfl h4 (zkg hs _ ht (zcv hc) (of_decide_eq_true hd)) x hx
   ·have ha4:a.op=4:=by have:=zdd ha hb ha1 (by omega);omega
    rw[zcW h4 ha4];exact hcc a ha ha4 h4 hd
end
def zbj (w:List Data) (t:Ty) (p:Pat):Bool:= !zaX w (zai w) 11 t p
def zbR (w:List Data) (t:Ty) (l:List Pat) (b:Pat):List Pat:=(l.flatMap fun a=>zaq w 10 t a b).filter (zbj w t)
def subL (w:List Data) (t:Ty):List Pat→List Pat→Option (List Pat)
 |l,[]=>some l
 |l,b::r=>if (zbR w t l b).length≤400 then subL w t (zbR w t l b) r else none
def zaJ (w:List Data) (t:Ty) (l away:List Pat):Option (List Pat):=subL w t (l.filter (zbj w t)) away
theorem zre {w:List Data} (hs:Spa w){t:Ty} (ht:InS (w.length*4) t){l:List Pat}{b:Pat} (hl:∀a∈l,zae w 11 t a=true) (hb:zae w 10 t b=true):zbR w t (l.filter (zbj w t)) b=zbR w t l b:=by
 unfold zbR;induction l with
 |nil=>rfl
 |cons a r ih=>
  have ih':=ih (fun x hx=>hl x (by simp[hx]));rw[List.flatMap_cons,List.filter_append];by_cases h:zbj w t a=true
  ·rw[List.filter_cons_of_pos h,List.flatMap_cons,List.filter_append,ih']
  ·rw[List.filter_cons_of_neg h,ih'];have hd:zaX w (zai w) 11 t a=true:=by unfold zbj at h;simpa using h
   have:(zaq w 10 t a b).filter (zbj w t)=[]:=by
    rw[List.filter_eq_nil_iff];intro x hx;have:=zno hs 10 11 (by omega) ht (hl a (by simp)) hb hd x hx;unfold zbj;rw[this];simp
   rw[this,List.nil_append]
theorem zlM {w:List Data}{t:Ty}{l:List Pat}{b:Pat}:(zbR w t l b).filter (zbj w t)=zbR w t l b:=by
 unfold zbR;rw[List.filter_filter];simp
theorem znX {w:List Data}{t:Ty}:∀(away:List Pat){l:List Pat},l.filter (zbj w t)=l→(subL w t l away).map (List.filter (zbj w t))=subL w t l away
 | [],l,h=>by simp only[subL,Option.map_some,h]
 |b::r,l,h=>by
  unfold subL;split
  ·exact znX r zlM
  ·rfl
theorem zu3 {w:List Data} (hs:Spa w){t:Ty} (ht:InS (w.length*4) t){l away:List Pat} (hl:∀a∈l,zae w 11 t a=true) (hb:∀b∈away,zae w 10 t b=true):(subL w t l away).map (List.filter (zbj w t))=zaJ w t l away:=by
 unfold zaJ;cases away with
 |nil=>rfl
 |cons b r=>
  unfold subL;rw[zre hs ht hl (hb b (by simp))];split
  ·exact znX r zlM
  ·rfl
theorem zeH {w:List Data}{t:Ty}{l:List Pat}{b:Pat} (hl:∀a∈l,zae w 11 t a=true) (hb:zae w 10 t b=true):∀x∈zbR w t l b,zae w 11 t x=true:=fun x hx=>by
 unfold zbR at hx;obtain⟨a,ha,hx⟩:=List.mem_flatMap.1 (List.mem_filter.1 hx).1;exact zfM 10 11 (by omega) (hl a ha) hb x hx
theorem zmm {n:Nat} (h0:0<n) (hb:n≤1000000):FnD Tryz.prog 190 [.nils,.d (.i (n:Int))] [] (.gv 9 []) [(9,some (.tok 0 6))]:=by
 refine bd Tryz.f190 27 [12,24] [] fun w0 F0 own kept hk=>?_;refine sq ?_ ?_<;>intro h1 h1p h1s;try simp only[Q] at h1p
 exfalso;omega;try simp only[Q] at h1p
 refine Walk.capN sl26 .none rfl rfl ?_;refine evs [12,24] [] ?_;refine Walk.lenN sl26 .none rfl rfl ?_;refine evs [12,24] [] ?_;refine ar ?_;refine ar ?_;refine sq ?_ ?_<;>intro h2 h2p h2s;try simp only[Q] at h2p
 refine Walk.capN sl26 .none rfl rfl ?_;refine Walk.cutN_h sl26 .none rfl rfl rfl ?_;refine evs [12,24] [] ?_;refine Walk.growZ (n:=n) 8 sl26 Tryz.underlying3 tz28 rfl (by decide) rfl .none rfl rfl rfl (by simp) h0 (by omega) (by omega) rfl ?_;refine evs [12,24] [] ?_;refine Walk.lenN sl26 .none rfl rfl ?_;refine xaM 9 (b:=0) sl26 .none rfl rfl (zfD rfl (by(simp;done))) rfl rfl (Nat.zero_le _) (by rw[List.length_replicate];exact h0) rfl ?_;refine evs [12,24] [] ?_;focus (refine rn [(9,some (.tok 0 6))] (r1 rfl) (.gvg ?_) ⟨rfl,rfl⟩ (SubH.get ⟨rfl,trivial⟩) (zaz rfl);all_goals (rfl))
 try simp only[Q] at h2p
 focus (exfalso;simp at h2;all_goals omega)
abbrev zwt (ls:List (List Pat)):D:= .sl (ls.map fun l=>[zac l])
theorem zkP {ls:List (List Pat)} (hl:ls.length≤1000) (h0:0<ls.flatten.length) (hb:ls.flatten.length≤1000000):FnD Tryz.prog 151 [.d (zwt ls)] [] (.d (zac ls.flatten)) []:=by
 have key:∀ {pre rest:List (List Pat)}{y:List Pat},pre++y::rest=ls→pre.flatten.length+y.length≤ls.flatten.length:=fun h=>by
  rw[←h];simp
 refine FnD.gvD (i:=9) (k:=6) ?_;refine bd Tryz.f151 36 [] [] fun w0 F0 own kept hk=>?_;refine xaj (ι:=List (List Pat)×List (List Pat)) hk (fun x=>[(11,.d (.i (x.1.length:Int))),(3,.d (.i (x.1.flatten.length:Int)))]) [5,12,13,14,15,16,17,18,19,20,21,22] (fun x=>[]) (fun x=>x.1++x.2=ls) (fun x=>x.2.length) ([],ls) (by simp) ⟨⟨_,rfl,xap ?_⟩,⟨⟨_,rfl,xap ?_⟩,trivial⟩⟩ trivial (fun x=>rfl) (fun x hg1=>?_);iterate 2 focus (rfl)
 obtain⟨pre,rest⟩:=x;dsimp only at hg1 ⊢;refine evc [] [] ?_;refine sq ?_ ?_<;>intro h1 h1p h1s;try simp only[Q,Pat.cs_len] at h1p
 rcases rest with _|⟨y,rest⟩
 ·exfalso;simp_all
 refine xaT zed .none rfl rfl rfl rfl (zaL hg1) rfl ?_;refine ev ?_;refine ar ?_ (by(have h9:=key hg1;constructor<;>first|omega|(simp only[Pat.cs_len];omega)));refine sq ?_ ?_<;>intro h2 h2p h2s;try simp only[Q,Pat.cs_len] at h2p
 exfalso;have:=key hg1;omega;try simp only[Q,Pat.cs_len] at h2p
 refine ar ?_ (by(have h9:=key hg1;constructor<;>first|omega|(simp only[Pat.cs_len];omega)));refine Exists.intro ((pre++[y],rest)) ⟨(by have hz:=hg1;rw[←hz];simp),(by simp),sx ⟨⟨_,rfl,xap ?_⟩,⟨⟨_,rfl,xap ?_⟩,trivial⟩⟩ trivial⟩;iterate 2 focus ((simp[Pat.cs_len];done))
 try simp only[Q,Pat.cs_len] at h1p
 have hrest:rest=[]:=by
  rcases rest with _|⟨a,b⟩
  ·rfl
  ·exfalso;have hz:=congrArg List.length (hg1);simp only[xaa,xab,xac] at hz;omega
 subst hrest;refine Walk.call (cr:=[9]) zxN (zmm (n:=pre.flatten.length) (by rw[List.append_nil] at hg1;rw[hg1];exact h0) (by rw[List.append_nil] at hg1;rw[hg1];exact hb)) rfl .none rfl rfl (LeL.refl _) trivial rfl rfl rfl ?_;refine ev ?_;refine xaj (ι:=List (List Pat)×List (List Pat)) hk (fun x=>[(27,.d (.i (x.1.length:Int))),(6,.gv 9 (Pat.cs x.1.flatten))]) [8,28,29,30,31,32,33,34] (fun x=>[(9,some (.tok (Pat.cs x.1.flatten).length 6))]) (fun x=>x.1++x.2=ls) (fun x=>x.2.length) ([],ls) (by simp) ⟨⟨_,rfl,xap ?_⟩,⟨⟨_,rfl,LeA.gvg ?_⟩,trivial⟩⟩ ⟨zab ?_,trivial⟩ (fun x=>rfl) (fun x hg2=>?_);iterate 3 focus (rfl)
 obtain⟨pre,rest⟩:=x;dsimp only at hg2 ⊢;refine evc [] [] ?_;refine sq ?_ ?_<;>intro h3 h3p h3s;try simp only[Q,Pat.cs_len] at h3p
 rcases rest with _|⟨y,rest⟩
 ·exfalso;simp_all
 refine xaT zed .none rfl rfl rfl rfl (zaL hg2) rfl ?_;refine ev ?_;refine xaA sl26 zz28 .none rfl rfl rfl rfl (zfD rfl (by rfl)) (by exact zbO _) (by have:=key hg2;simp only[Pat.cs_len];omega) (by have:=key hg2;simp only[Pat.cs_len];omega) ?_;refine ev ?_;refine ar ?_ (by(constructor<;>omega));refine Exists.intro ((pre++[y],rest)) ⟨(by have hz:=hg2;rw[←hz];simp),(by simp),sx ⟨⟨_,rfl,xap ?_⟩,⟨⟨_,rfl,LeA.gvg ?_⟩,trivial⟩⟩ ⟨zab ?_,trivial⟩⟩;iterate 3 focus ((simp[xat];done))
 try simp only[Q,Pat.cs_len] at h3p
 have hrest:rest=[]:=by
  rcases rest with _|⟨a,b⟩
  ·rfl
  ·exfalso;have hz:=congrArg List.length (hg2);simp only[xaa,xab,xac] at hz;omega
 subst hrest;refine rn [(9,some (.tok (Pat.cs ls.flatten).length 6))] (r1 rfl) (.gvg ?_) ⟨rfl,rfl⟩ (SubH.get ⟨?_,trivial⟩) (zaz rfl);rotate_left 2;all_goals ((rw[List.append_nil] at hg2;subst hg2;rfl))
def zbw (l:List Int):Nat→List Pat
 |0=>[]
 |n+1=>zbw l n++zbP (nth l (2*n)) (nth l (2*n+1))
theorem zkH (l:List Int):∀n,(zbw l n).length≤n
 |0=>by simp[zbw]
 |n+1=>by
  have:=zkH l n;simp only[zbw,zbP,xaa];split<;>simp<;>omega
theorem zkI {l:List Int}{n:Nat} (h:nth l (2*n)≤nth l (2*n+1)):zbw l (n+1)=zbw l n++[intQ (nth l (2*n)) (nth l (2*n+1))]:=by simp[zbw,zbP,h]
theorem zr1 {l:List Int}{n:Nat} (h:¬nth l (2*n)≤nth l (2*n+1)):zbw l (n+1)=zbw l n:=by simp only[zbw,zbP,if_neg h,List.append_nil]
theorem zrq (a b:Int):zbw [a,b] 1=zbP a b:=by simp[zbw,nth]
theorem zvR (a b c d:Int):zbw [a,b,c,d] 2=zbP a b++zbP c d:=by simp[zbw,nth]
theorem zm6 {p:Pat}:FnD Tryz.prog 149 [.agg [.d (.i p.op),.d (.i p.ctor),.d (.i p.n),.d (.i p.m),.d (.i p.var),.d (zac p.kids)]] [] (.tup [.d (.i (lowQ p)),.d (.i (zck p))]) []:=by
 by_cases h:p.op=1
 ·have e1:lowQ p=0:=if_pos h;have e2:zck p=9:=if_pos h;rw[e1,e2];refine bd Tryz.f149 11 [] [] fun w0 F0 own kept hk=>?_;refine bx 3001 ?_;refine ev ?_;refine sq ?_ ?_<;>intro h1 h1p h1s;try simp only[Q] at h1p
  focus (refine rn0 (r2 rfl rfl) (.tup (.cons (.eqd ?_) (.cons (.eqd ?_) .nil)));all_goals (rfl))
  try simp only[Q] at h1p
  exfalso;omega
 ·skip
  have e1:lowQ p=p.n:=if_neg h;have e2:zck p=p.m:=if_neg h;rw[e1,e2];refine bd Tryz.f149 11 [] [] fun w0 F0 own kept hk=>?_;refine bx 3001 ?_;refine ev ?_;refine sq ?_ ?_<;>intro h1 h1p h1s;try simp only[Q] at h1p
  exfalso;omega;try simp only[Q] at h1p
  refine dr ?_;focus (refine rn0 (r2 rfl rfl) (.tup (.cons (.eqd ?_) (.cons (.eqd ?_) .nil)));all_goals (rfl))
theorem zf5 {l:List Int}{n:Nat} (hl:l.length=2*n) (hb:n≤1000):FnD Tryz.prog 116 [.d (zco l)] [] (.d (zac (zbw l n))) []:=by
 refine bd Tryz.f116 35 [3] [] fun w0 F0 own kept hk=>?_;refine xaB 9 6 .none rfl rfl ?_;refine tv ?_;refine xaj (ι:=Nat) hk (fun i=>[(4,.d (.i ((2*i:Nat):Int))),(3,.gl 9 (Pat.cs (zbw l i)))]) [5,6,7,8,9,10,11,12,13,14,15,16,17,18,19,20,21,22,23,24,25,26,27,28,29,30,31,32,33] (fun i=>[(9,some (.tok ((Pat.cs (zbw l i))).length 6))]) (fun i=>i≤n) (fun i=>n-i) 0 (by omega) ⟨⟨_,rfl,xap ?_⟩,⟨⟨_,rfl,LeA.glg ?_⟩,trivial⟩⟩ ⟨zab ?_,trivial⟩ (fun x=>rfl) (fun i hg1=>?_);iterate 3 focus (rfl)
 refine evc [3] [] ?_;refine sq ?_ ?_<;>intro h1 h1p h1s;try simp only[Q] at h1p
 refine xaT (i:=2*i) sl62 .none rfl rfl rfl rfl (zat (by omega)) rfl ?_;refine evd [3] [] ?_;refine ar ?_;refine xaT (i:=2*i+1) sl62 .none rfl rfl rfl rfl (zat (by omega)) rfl ?_;refine evd [3] [] ?_;refine dr ?_;refine sq ?_ ?_<;>intro h2 h2p h2s;try simp only[Q] at h2p
 refine xaT (i:=2*i) sl62 .none rfl rfl rfl rfl (zat (by omega)) rfl ?_;refine evd [3] [] ?_;refine ar ?_;refine xaT (i:=2*i+1) sl62 .none rfl rfl rfl rfl (zat (by omega)) rfl ?_;refine evd [3] [] ?_;refine bu [0,2,3] [_,_,_] st28 ?_;refine si [0] [_] sl26 tz28 ?_;refine ap sl26 zz28 rfl rfl rfl (by(intro x hx;simp at hx;subst hx;rfl)) (by have:=zkH l i;simp[Pat.cs_len];omega) ?_;refine asg ?_;refine dr ?_;refine ar ?_;refine Exists.intro (i+1) ⟨(by omega),(by omega),sx ⟨⟨_,rfl,xap ?_⟩,⟨⟨_,rfl,LeA.glg ?_⟩,trivial⟩⟩ ⟨zab ?_,trivial⟩⟩;iterate 3 focus (first|rfl|(rw[zkI (by assumption),xat,xat,xaf];rfl)|(rw[zkI (by assumption)];simp[Pat.cs_len];done))
 try simp only[Q] at h2p
 refine ar ?_;refine Exists.intro (i+1) ⟨(by omega),(by omega),sx ⟨⟨_,rfl,xap ?_⟩,⟨⟨_,rfl,LeA.glg ?_⟩,trivial⟩⟩ ⟨zab ?_,trivial⟩⟩;iterate 3 focus (first|rfl|(rw[zr1 (by assumption)];done))
 try simp only[Q] at h1p
 refine rn0 (r1 rfl) (.gld ?_);rotate_left;all_goals ((have e:i=n:=(by omega);rw[e]))
theorem zpP {w:List Data} (hw:WT w){f:Nat→Nat}{a k c:Int} (ht:TyIn w.length ⟨a,k⟩) (hc:c∈zah w ⟨a,k⟩) (hl:(zaa w ⟨a,k⟩ c).length≤3):FnD Tryz.prog 150 [.d (sPtr w f),.agg [.d (.i a),.d (.i k)],.d (.i c)] []
  (.agg [.d (.i 4),.d (.i c),.d (.i 0),.d (.i 0),.d (.i 0),.d (zac (zbI w ⟨a,k⟩ c).kids)]) []:=by
 refine bd Tryz.f150 28 [] [] fun w0 F0 own kept hk=>?_;refine bx 3004 ?_;refine ab 3006 tz28 ?_;refine tv ?_;refine bu [0,1] [_,_] st28 ?_;refine ab 3007 tz28 ?_;refine so ty28 ?_;refine tv ?_;refine wc zfy (zdh hw ht hc) rfl rfl ?_;refine evd [] [] ?_;refine dr ?_;refine xam 3007 5 9 6 rfl rfl rfl rfl ?_;refine xaj (ι:=List (Ty)×List (Ty)) hk (fun x=>[(18,.d (.i (x.1.length:Int)))]) [19,20,21,22,23,24,25,26] (fun x=>[(3007,some (.box [.d (.i 4),.d (.i c),.d (.i 0),.d (.i 0),.d (.i 0),.gl 9 ((x.1.map fun _=>anyQ).map Pat.cc)])),(9,some (.tok ((x.1.map fun _=>anyQ).map Pat.cc).length 6))]) (fun x=>x.1++x.2=zaa w ⟨a,k⟩ c) (fun x=>x.2.length) ([],zaa w ⟨a,k⟩ c) (by simp) ⟨⟨_,rfl,xap ?_⟩,trivial⟩ ⟨?_,⟨zab ?_,trivial⟩⟩ (fun x=>rfl) (fun x hg1=>?_);focus (rfl)
 focus (rfl)
 focus (rfl)
 obtain⟨pre,rest⟩:=x;dsimp only at hg1 ⊢;refine evc [] [] ?_;refine sq ?_ ?_<;>intro h1 h1p h1s;try simp only[Q] at h1p
 rcases rest with _|⟨y,rest⟩
 ·exfalso;simp_all
 refine wc zt5 (zgD) rfl rfl ?_;refine si [0] [_] sl26 tz28 ?_;refine ap sl26 zz28 rfl rfl rfl (by intro x hx;(simp at hx;subst hx;rfl)) (by have:=congrArg List.length hg1;simp at this;simp;omega) ?_;refine evd [] [] ?_;refine so ty26 ?_;refine dr ?_;refine ar ?_;refine Exists.intro ((pre++[y],rest)) ⟨(by have hz:=hg1;rw[←hz];simp),(by simp),sx ⟨⟨_,rfl,xap ?_⟩,trivial⟩ ⟨?_,⟨zab ?_,trivial⟩⟩⟩;focus ((simp;done))
 focus ((simp[getH];exact⟨rfl,rfl,rfl,rfl,rfl,rfl⟩))
 focus ((simp;done))
 try simp only[Q] at h1p
 have hrest:rest=[]:=by
  rcases rest with _|⟨a,b⟩
  ·rfl
  ·exfalso;have hz:=congrArg List.length (hg1);simp only[xaa,xab,xac] at hz;omega
 subst hrest;refine so ty28 ?_;refine tv ?_;refine rn0 (.cons (.cellA ty28 rfl rfl rfl) .nil) (.agg (.cons (.eqd ?_) (.cons (.eqd ?_) (.cons (.eqd ?_) (.cons (.eqd ?_) (.cons (.eqd ?_) (.cons (.gld ?_) .nil)))))));rotate_left 6;all_goals (first|rfl|(rw[List.append_nil] at hg1;subst hg1;rw[←xat];all_goals rfl))
def zcL (n:Nat) (a b:Pat):Pat:=(zax n a b).getD zwI
theorem zcs {n:Nat}{a b x:Pat} (h:zax n a b=some x):zcL n a b=x:=by unfold zcL;rw[h];rfl
theorem zfL {n:Nat}{a b:Pat} (h:zax n a b=none):zcL n a b=zwI:=by unfold zcL;rw[h];rfl
theorem zga {n:Nat}{a b:Pat} (h:(zax n a b).isSome=true):zax n a b=some (zcL n a b):=by
 unfold zcL;cases e:zax n a b with
 |none=>rw[e] at h;cases h
 |some x=>rfl
theorem ziN {n:Nat}{a b:Pat} (h:(zax n a b).isSome=false):zax n a b=none:=by
 cases e:zax n a b with
 |none=>rfl
 |some x=>rw[e] at h;cases h
theorem zhD {w:List Data} (hs:Spa w){f:Nat→Nat}:∀(n m:Nat){ta tk:Int}{a b:Pat},m≤n→InS (w.length*4) ⟨ta,tk⟩→zae w m ⟨ta,tk⟩ a=true→zae w m ⟨ta,tk⟩ b=true→
  FnD Tryz.prog 66 [.d (sPtr w f),.agg [.d (.i ta),.d (.i tk)],.agg [.d (.i a.op),.d (.i a.ctor),.d (.i a.n),.d (.i a.m),.d (.i a.var),.d (zac a.kids)],.agg [.d (.i b.op),.d (.i b.ctor),.d (.i b.n),.d (.i b.m),.d (.i b.var),.d (zac b.kids)]] []
   (.tup [.agg [.d (.i (zcL n a b).op),.d (.i (zcL n a b).ctor),.d (.i (zcL n a b).n),.d (.i (zcL n a b).m),.d (.i (zcL n a b).var),.d (zac (zcL n a b).kids)],.d (.bool (zax n a b).isSome)]) []
 |n,0,ta,tk,a,b,_,_,ha,_=>by simp[zae] at ha
 |0,m+1,ta,tk,a,b,h,_,_,_=>by omega
 |n+1,m+1,ta,tk,a,b,hnm,ht,ha,hb=>by
  by_cases h1:a.op=1
  ·have e:=zhJ (n:=n) (b:=b) h1;rw[zcs e,e];refine bd Tryz.f66 100 [] [] fun w0 F0 own kept hk=>?_;refine bx 3005 ?_;refine bx 3006 ?_;refine bx 3007 ?_;refine ab 3008 tz28 ?_;refine ev ?_;refine sq ?_ ?_<;>intro h1 h1p h1s;try simp only[Q] at h1p
   refine so ty28 ?_;refine ev ?_;refine rn0 (.cons (.cellA ty28 rfl rfl rfl) (.cons (.tmp rfl) .nil)) (.tup (.cons (.agg (.cons (.eqd ?_) (.cons (.eqd ?_) (.cons (.eqd ?_) (.cons (.eqd ?_) (.cons (.eqd ?_) (.cons (.eqd ?_) .nil))))))) (.cons (.eqd ?_) .nil)));rotate_left 7;try simp only[Q] at h1p
   exfalso;omega;all_goals (rfl)
  by_cases h2:b.op=1
  ·have e:=ziL (n:=n) h1 h2;rw[zcs e,e];refine bd Tryz.f66 100 [] [] fun w0 F0 own kept hk=>?_;refine bx 3005 ?_;refine bx 3006 ?_;refine bx 3007 ?_;refine ab 3008 tz28 ?_;refine ev ?_;refine sq ?_ ?_<;>intro h1 h1p h1s;try simp only[Q] at h1p
   exfalso;omega;try simp only[Q] at h1p
   refine sq ?_ ?_<;>intro h2 h2p h2s;try simp only[Q] at h2p
   refine so ty28 ?_;refine ev ?_;refine rn0 (.cons (.cellA ty28 rfl rfl rfl) (.cons (.tmp rfl) .nil)) (.tup (.cons (.agg (.cons (.eqd ?_) (.cons (.eqd ?_) (.cons (.eqd ?_) (.cons (.eqd ?_) (.cons (.eqd ?_) (.cons (.eqd ?_) .nil))))))) (.cons (.eqd ?_) .nil)));rotate_left 7;try simp only[Q] at h2p
   exfalso;omega;all_goals (rfl)
  by_cases h3:a.op=3
  ·have e:=ziM (n:=n) h3 h2;by_cases hr:maxQ a.n b.n≤minQ a.m b.m
   ·rw[if_pos hr] at e;have er:zbw [maxQ a.n b.n,minQ a.m b.m] 1=[intQ (maxQ a.n b.n) (minQ a.m b.m)]:=by rw[zrq];exact if_pos hr
    have hrg:=zf5 (l:=[maxQ a.n b.n,minQ a.m b.m]) (n:=1) rfl (by omega);rw[er] at hrg;rw[zcs e,e];refine bd Tryz.f66 100 [] [] fun w0 F0 own kept hk=>?_;refine bx 3005 ?_;refine bx 3006 ?_;refine bx 3007 ?_;refine ab 3008 tz28 ?_;refine ev ?_;refine sq ?_ ?_<;>intro h1 h1p h1s;try simp only[Q,Pat.cs_len] at h1p
    exfalso;omega;try simp only[Q,Pat.cs_len] at h1p
    refine sq ?_ ?_<;>intro h2 h2p h2s;try simp only[Q,Pat.cs_len] at h2p
    exfalso;omega;try simp only[Q,Pat.cs_len] at h2p
    refine sq ?_ ?_<;>intro h3 h3p h3s;try simp only[Q,Pat.cs_len] at h3p
    refine xa2 .none rfl rfl rfl ?_;refine ev ?_;refine xa3 .none rfl rfl rfl ?_;refine si [0,1] [_,_] sl62 tz3 ?_;refine wc zqs (hrg) rfl rfl ?_;refine ev ?_;refine sq ?_ ?_<;>intro h4 h4p h4s;try simp only[Q,Pat.cs_len] at h4p
    exfalso;simp[Pat.cs_len] at h4;try simp only[Q,Pat.cs_len] at h4p
    refine xaT (i:=0) sl26 .none rfl rfl rfl rfl (rfl) rfl ?_;refine ev ?_;refine so ty28 ?_;refine ev ?_;refine rn0 (.cons (.cellA ty28 rfl rfl rfl) (.cons (.tmp rfl) .nil)) (.tup (.cons (.agg (.cons (.eqd ?_) (.cons (.eqd ?_) (.cons (.eqd ?_) (.cons (.eqd ?_) (.cons (.eqd ?_) (.cons (.eqd ?_) .nil))))))) (.cons (.eqd ?_) .nil)));rotate_left 7;try simp only[Q,Pat.cs_len] at h3p
    exfalso;omega;all_goals (rfl)
   ·skip
    rw[if_neg hr] at e;have er:zbw [maxQ a.n b.n,minQ a.m b.m] 1=[]:=by rw[zrq];exact if_neg hr
    have hrg:=zf5 (l:=[maxQ a.n b.n,minQ a.m b.m]) (n:=1) rfl (by omega);rw[er] at hrg;rw[zfL e,e];refine bd Tryz.f66 100 [] [] fun w0 F0 own kept hk=>?_;refine bx 3005 ?_;refine bx 3006 ?_;refine bx 3007 ?_;refine ab 3008 tz28 ?_;refine ev ?_;refine sq ?_ ?_<;>intro h1 h1p h1s;try simp only[Q,Pat.cs_len] at h1p
    exfalso;omega;try simp only[Q,Pat.cs_len] at h1p
    refine sq ?_ ?_<;>intro h2 h2p h2s;try simp only[Q,Pat.cs_len] at h2p
    exfalso;omega;try simp only[Q,Pat.cs_len] at h2p
    refine sq ?_ ?_<;>intro h3 h3p h3s;try simp only[Q,Pat.cs_len] at h3p
    refine xa2 .none rfl rfl rfl ?_;refine ev ?_;refine xa3 .none rfl rfl rfl ?_;refine si [0,1] [_,_] sl62 tz3 ?_;refine wc zqs (hrg) rfl rfl ?_;refine ev ?_;refine sq ?_ ?_<;>intro h4 h4p h4s;try simp only[Q,Pat.cs_len] at h4p
    refine bu [] [] st28 ?_;refine so ty28 ?_;refine ev ?_;refine rn0 (.cons (.cellA ty28 rfl rfl rfl) (.cons (.tmp rfl) .nil)) (.tup (.cons (.agg (.cons (.eqd ?_) (.cons (.eqd ?_) (.cons (.eqd ?_) (.cons (.eqd ?_) (.cons (.eqd ?_) (.cons (.nild ?_) .nil))))))) (.cons (.eqd ?_) .nil)));rotate_left 7;try simp only[Q,Pat.cs_len] at h4p
    exfalso;simp[Pat.cs] at h4;try simp only[Q,Pat.cs_len] at h3p
    exfalso;omega;all_goals (rfl)
  have oa:=zbn ha;have h4:a.op=4:=by omega
  have h4b:b.op=4:=by have:=zdd ha hb h1 h2;omega
  by_cases hc:a.ctor=b.ctor
  ·obtain⟨c1,c2,c3,c4⟩:=zaC ha h4;obtain⟨d1,d2,d3,d4⟩:=zaC hb h4b;rw[←hc] at d3;have h3l:=hs.args ⟨ta,tk⟩ a.ctor ht c1;have ka:=fun i (hi:i<a.kids.length)=>zaT ha hi;have kb:=fun i (hi:i<b.kids.length)=>zaT hb hi;rw[za2 h4] at ka;rw[za2 h4b,←hc] at kb;have e:=zhK (n:=n) h4 h2 hc;have hlen:a.kids.length=b.kids.length:=by omega
   have ih:=fun i (hi:i<(zaa w ⟨ta,tk⟩ a.ctor).length)=>zhD hs n m (f:=f) (ta:=(nth (zaa w ⟨ta,tk⟩ a.ctor) i).data) (tk:=(nth (zaa w ⟨ta,tk⟩ a.ctor) i).index) (a:=nth a.kids i) (b:=nth b.kids i) (by omega) (zbo hs.dp ht c1 _ (zaf hi)) (ka i (by omega)) (kb i (by omega));refine bd Tryz.f66 100 [] [] fun w0 F0 own kept hk=>?_;refine bx 3005 ?_;refine bx 3006 ?_;refine bx 3007 ?_;refine ab 3008 tz28 ?_;refine ev ?_;refine sq ?_ ?_<;>intro h1 h1p h1s;try simp only[Q,Pat.cs_len] at h1p
   exfalso;omega;try simp only[Q,Pat.cs_len] at h1p
   refine sq ?_ ?_<;>intro h2 h2p h2s;try simp only[Q,Pat.cs_len] at h2p
   exfalso;omega;try simp only[Q,Pat.cs_len] at h2p
   refine sq ?_ ?_<;>intro h3 h3p h3s;try simp only[Q,Pat.cs_len] at h3p
   exfalso;omega;try simp only[Q,Pat.cs_len] at h3p
   refine sq ?_ ?_<;>intro h4 h4p h4s;try simp only[Q,Pat.cs_len] at h4p
   exfalso;omega;try simp only[Q,Pat.cs_len] at h4p
   refine bu [0,1] [_,_] st28 ?_;refine ab 3011 tz28 ?_;refine so ty28 ?_;refine tv ?_;refine wc zfy (zdh hs.dp.wt (zb2 ht) c1) rfl rfl ?_;refine evd [] [] ?_;refine dr ?_;refine xam 3011 5 9 6 rfl rfl rfl rfl ?_;refine xaj (ι:=Nat×List Pat) hk (fun x=>[(68,.d (.i (x.1:Int)))]) [9,12,13,14,15,69,70,71,72,73,74,75,76,77,78,79,80,81,82,83,84,85,86,87,88,89,90,91,92,93,94,95,96,97,98] (fun x=>[(3011,some (.box [.d (.i 4),.d (.i a.ctor),.d (.i 0),.d (.i 0),.d (.i 0),.gl 9 (x.2.map Pat.cc)])),(9,some (.tok (x.2.map Pat.cc).length 6))]) (fun x=>x.1≤a.kids.length∧x.2.length=x.1∧zbK (zax n) (a.kids.drop x.1) (b.kids.drop x.1) x.2=zbK (zax n) a.kids b.kids []) (fun x=>a.kids.length-x.1) (0,[]) ⟨by simp,rfl,rfl⟩ ⟨⟨_,rfl,xap ?_⟩,trivial⟩ ⟨?_,⟨zab ?_,trivial⟩⟩ (fun x=>rfl) (fun x hg1=>?_);focus (rfl)
   focus (first|rfl|(simp[getH];done))
   focus (rfl)
   refine evc [] [] ?_;refine sq ?_ ?_<;>intro h5 h5p h5s;try simp only[Q,Pat.cs_len] at h5p
   refine xaT zaY .none rfl rfl rfl rfl (zat (by omega)) rfl ?_;refine ev ?_;refine ab 3013 tz25 ?_;refine ev ?_;refine so ty25 ?_;refine tv ?_;refine xaT sl26 .none rfl rfl rfl rfl (zaE (by omega)) rfl ?_;refine evd [] [] ?_;refine xaT sl26 .none rfl rfl rfl rfl (zaE (by omega)) rfl ?_;refine evd [] [] ?_;refine wc zp5 (ih x.1 (by omega)) rfl rfl ?_;refine evd [] [] ?_;refine ab 3014 tz28 ?_;refine so ty28 ?_;refine evd [] [] ?_;refine dr ?_;refine sq ?_ ?_<;>intro h6 h6p h6s;try simp only[Q,Pat.cs_len] at h6p
   refine bu [] [] st28 ?_;refine so ty28 ?_;refine ev ?_;refine rn0 (.cons (.cellA ty28 rfl rfl rfl) (.cons (.tmp rfl) .nil)) (.tup (.cons (.agg (.cons (.eqd ?_) (.cons (.eqd ?_) (.cons (.eqd ?_) (.cons (.eqd ?_) (.cons (.eqd ?_) (.cons (.nild ?_) .nil))))))) (.cons (.eqd ?_) .nil)));rotate_left 7;try simp only[Q,Pat.cs_len] at h6p
   refine si [0] [_] sl26 tz28 ?_;refine ap sl26 zz28 rfl rfl rfl (by intro x hx;(simp at hx;subst hx;rfl)) (by simp;omega) ?_;refine ev ?_;refine so ty26 ?_;refine tv ?_;refine ar ?_;refine Exists.intro ((x.1+1,x.2++[zcL n (nth a.kids x.1) (nth b.kids x.1)])) ⟨⟨by dsimp only;omega,by dsimp only;rw[xaa,hg1.2.1];rfl,by dsimp only;rw[←zni (by omega) (by omega) (zga (by assumption))];exact hg1.2.2⟩,(by dsimp only;omega),sx ⟨⟨_,rfl,xap ?_⟩,trivial⟩ ⟨?_,⟨zab ?_,trivial⟩⟩⟩;focus (rfl)
   focus (first|rfl|(simp[getH];done))
   focus ((simp;done))
   try simp only[Q,Pat.cs_len] at h5p
   refine so ty28 ?_;refine ev ?_;refine rn0 (.cons (.cellA ty28 rfl rfl rfl) (.cons (.tmp rfl) .nil)) (.tup (.cons (.agg (.cons (.eqd ?_) (.cons (.eqd ?_) (.cons (.eqd ?_) (.cons (.eqd ?_) (.cons (.eqd ?_) (.cons (.gld ?_) .nil))))))) (.cons (.eqd ?_) .nil)));rotate_left 7;all_goals (first|(have e2:zax (n+1) a b=none:=(by rw[e,←hg1.2.2,znh (by omega) (by omega) (ziN (by assumption))];rfl);(first|rw[zfL e2]|rw[e2]);all_goals rfl)|(have e2:zax (n+1) a b=some (za8 a.ctor x.2):=(by rw[e,←hg1.2.2,zfk (by omega)];rfl);rw[zcs e2,xat];all_goals rfl)|(have e2:zax (n+1) a b=some (za8 a.ctor x.2):=(by rw[e,←hg1.2.2,zfk (by omega)];rfl);rw[zcs e2];all_goals rfl)|(have e2:zax (n+1) a b=some (za8 a.ctor x.2):=(by rw[e,←hg1.2.2,zfk (by omega)];rfl);rw[e2];all_goals rfl))
  ·skip
   have e:=zho (n:=n) h4 h2 hc;rw[zfL e,e];refine bd Tryz.f66 100 [] [] fun w0 F0 own kept hk=>?_;refine bx 3005 ?_;refine bx 3006 ?_;refine bx 3007 ?_;refine ab 3008 tz28 ?_;refine ev ?_;refine sq ?_ ?_<;>intro h1 h1p h1s;try simp only[Q] at h1p
   exfalso;omega;try simp only[Q] at h1p
   refine sq ?_ ?_<;>intro h2 h2p h2s;try simp only[Q] at h2p
   exfalso;omega;try simp only[Q] at h2p
   refine sq ?_ ?_<;>intro h3 h3p h3s;try simp only[Q] at h3p
   exfalso;omega;try simp only[Q] at h3p
   refine sq ?_ ?_<;>intro h4 h4p h4s;try simp only[Q] at h4p
   refine bu [] [] st28 ?_;refine so ty28 ?_;refine ev ?_;refine rn0 (.cons (.cellA ty28 rfl rfl rfl) (.cons (.tmp rfl) .nil)) (.tup (.cons (.agg (.cons (.eqd ?_) (.cons (.eqd ?_) (.cons (.eqd ?_) (.cons (.eqd ?_) (.cons (.eqd ?_) (.cons (.nild ?_) .nil))))))) (.cons (.eqd ?_) .nil)));rotate_left 7;try simp only[Q] at h4p
   exfalso;omega;all_goals (rfl)
theorem zic {f:Ty→Pat→Pat→List Pat}{c:Int}{ts:List Ty}{xs bs front:List Pat}{i:Nat} (h1:i<ts.length) (h2:i<xs.length) (h3:i<bs.length):
  zaR f c (ts.drop i) (xs.drop i) (bs.drop i) front=(f (nth ts i) (nth xs i) (nth bs i)).map (fun z=>za8 c (front++[z]++xs.drop (i+1)))++(match zax 11 (nth xs i) (nth bs i) with
   |none=>[]
   |some both=>zaR f c (ts.drop (i+1)) (xs.drop (i+1)) (bs.drop (i+1)) (front++[both])):=by
 rw[zaO h1,zaO h2,zaO h3,zaR];all_goals (cases zax 11 (nth xs i) (nth bs i)<;>rfl)
theorem zlL {f:Ty→Pat→Pat→List Pat}{c:Int}{ts:List Ty}{xs bs front:List Pat}{i:Nat} (h1:i<ts.length) (h2:i<xs.length) (h3:i<bs.length) (h:(zax 11 (nth xs i) (nth bs i)).isSome=true):
  zaR f c (ts.drop i) (xs.drop i) (bs.drop i) front=(f (nth ts i) (nth xs i) (nth bs i)).map (fun z=>za8 c (front++[z]++xs.drop (i+1)))++zaR f c (ts.drop (i+1)) (xs.drop (i+1)) (bs.drop (i+1)) (front++[zcL 11 (nth xs i) (nth bs i)]):=by
 rw[zic h1 h2 h3,zga h]
theorem zlJ {f:Ty→Pat→Pat→List Pat}{c:Int}{ts:List Ty}{xs bs front:List Pat}{i:Nat} (h1:i<ts.length) (h2:i<xs.length) (h3:i<bs.length) (h:(zax 11 (nth xs i) (nth bs i)).isSome=false):
  zaR f c (ts.drop i) (xs.drop i) (bs.drop i) front=(f (nth ts i) (nth xs i) (nth bs i)).map (fun z=>za8 c (front++[z]++xs.drop (i+1))):=by
 rw[zic h1 h2 h3,ziN h,List.append_nil]
theorem znl {f:Ty→Pat→Pat→List Pat}{c:Int}{ts:List Ty}{xs bs front:List Pat}{i:Nat} (h1:ts.length≤i):zaR f c (ts.drop i) (xs.drop i) (bs.drop i) front=[]:=by
 rw[List.drop_eq_nil_of_le h1];rfl
theorem zri {n:Nat} (h:n≤11):4 ^ n≤4194304:=Nat.le_trans (Nat.pow_le_pow_right (by omega) h) (by decide)
theorem zgd {w:List Data} (hs:Spa w){n m:Nat}{t:Ty}{a b:Pat} (h:n<m) (h10:n≤10) (ht:InS (w.length*4) t) (ha:zae w m t a=true) (hb:zae w n t b=true):(zaq w n t a b).length≤20000000:=by
 have h1:=zpk hs n m h ht ha hb;have h2:=(zeK hs n ht hb).2;have h3:=zri (n:=n) (by omega);omega
theorem zwO {A B:List Pat}{y:Pat}{xs:List (List D)} (hx:xs=Pat.cs B) (hb:A.length+1+B.length≤1000):
  FnD Tryz.prog 151 [.d (.sl [[.sl (A.map Pat.cc)],[.sl [Pat.cc y]],[.sl xs]])] [] (.d (zac (A++[y]++B))) []:=by
 have h:=zkP (ls:=[A,[y],B]) (by simp) (by simp;omega) (by simp;omega);have e:[A,[y],B].flatten=A++[y]++B:=by simp
 rw[e] at h;subst hx;have e2:zwt [A,[y],B] = .sl [[.sl (A.map Pat.cc)],[.sl [Pat.cc y]],[.sl (Pat.cs B)]]:=by
  show D.sl [[.sl (Pat.cs A)],[.sl (Pat.cs [y])],[.sl (Pat.cs B)]]=_
  rw[xat A,xat [y]];rfl
 rw[e2] at h;exact h
section
variable {w:List Data}{f:Nat→Nat}
abbrev MinusFn (w:List Data) (f:Nat→Nat) (n:Nat) (ta tk:Int) (a b:Pat):Prop:=
 FnD Tryz.prog 93 [.d (sPtr w f),.agg [.d (.i ta),.d (.i tk)],.agg [.d (.i a.op),.d (.i a.ctor),.d (.i a.n),.d (.i a.m),.d (.i a.var),.d (zac a.kids)],.agg [.d (.i b.op),.d (.i b.ctor),.d (.i b.n),.d (.i b.m),.d (.i b.var),.d (zac b.kids)]] [] (.d (zac (zaq w n ⟨ta,tk⟩ a b))) []
theorem zqY {n:Nat}{ta tk:Int}{a b:Pat} (h:b.op=1):MinusFn w f (n+1) ta tk a b:=by
 unfold MinusFn;rw[zfl h];refine bd Tryz.f93 159 [] [] fun w0 F0 own kept hk=>?_;refine bx 3005 ?_;refine bx 3006 ?_;refine bx 3007 ?_;refine ev ?_;refine sq ?_ ?_<;>intro h1 h1p h1s;try simp only[Q] at h1p
 refine rn0 (r1 rfl) (.nild ?_);rotate_left;try simp only[Q] at h1p
 exfalso;omega;all_goals (rfl)
theorem zqZ {n:Nat}{ta tk:Int}{a b:Pat} (h:b.op=3) (hbn:0≤b.n∧b.n≤9) (hbm:0≤b.m∧b.m≤9):MinusFn w f (n+1) ta tk a b:=by
 unfold MinusFn;rw[zhp h];have er:zbw [lowQ a,minQ (zck a) (b.n-1),maxQ (lowQ a) (b.m+1),zck a] 2=zd2 a b:=zvR _ _ _ _;have hrg:=zf5 (l:=[lowQ a,minQ (zck a) (b.n-1),maxQ (lowQ a) (b.m+1),zck a]) (n:=2) rfl (by omega);rw[er] at hrg;refine bd Tryz.f93 159 [] [] fun w0 F0 own kept hk=>?_;refine bx 3005 ?_;refine bx 3006 ?_;refine bx 3007 ?_;refine ev ?_;refine sq ?_ ?_<;>intro h1 h1p h1s;try simp only[Q] at h1p
 exfalso;omega;try simp only[Q] at h1p
 refine sq ?_ ?_<;>intro h2 h2p h2s;try simp only[Q] at h2p
 refine wc zxy (zm6) rfl rfl ?_;refine ev ?_;refine ar ?_;refine xa3 .none rfl rfl rfl ?_;refine ev ?_;refine ar ?_;refine xa2 .none rfl rfl rfl ?_;refine ev ?_;refine si [0,1,2,3] [_,_,_,_] sl62 tz3 ?_;refine wc zqs (hrg) rfl rfl ?_;refine ev ?_;focus (refine rn0 (r1 rfl) (.eqd ?_);all_goals (rfl))
 try simp only[Q] at h2p
 exfalso;omega
theorem zq2 {n:Nat}{ta tk:Int}{a b:Pat} (h4:a.op=4) (h4b:b.op=4) (hc:¬a.ctor=b.ctor):MinusFn w f (n+1) ta tk a b:=by
 unfold MinusFn;have e:zaq w (n+1) ⟨ta,tk⟩ a b=[a]:=by rw[zcW h4b h4];exact if_neg hc
 rw[e];refine bd Tryz.f93 159 [] [] fun w0 F0 own kept hk=>?_;refine bx 3005 ?_;refine bx 3006 ?_;refine bx 3007 ?_;refine ev ?_;refine sq ?_ ?_<;>intro h1 h1p h1s;try simp only[Q] at h1p
 exfalso;omega;try simp only[Q] at h1p
 refine sq ?_ ?_<;>intro h2 h2p h2s;try simp only[Q] at h2p
 exfalso;omega;try simp only[Q] at h2p
 refine sq ?_ ?_<;>intro h3 h3p h3s;try simp only[Q] at h3p
 exfalso;omega;try simp only[Q] at h3p
 refine sq ?_ ?_<;>intro h4 h4p h4s;try simp only[Q] at h4p
 refine si [0] [_] sl26 tz28 ?_;refine ev ?_;refine rn0 (r1 rfl) (.eqd ?_);rotate_left;try simp only[Q] at h4p
 exfalso;omega;all_goals (first|rfl|(cases a;rfl))
theorem zq1 (hs:Spa w){n m:Nat} (hn:n+1≤10) (hm:m+1≤11) (hnm:n<m)
  (ih:∀ {ta tk:Int}{a b:Pat},InS (w.length*4) ⟨ta,tk⟩→zae w m ⟨ta,tk⟩ a=true→zae w n ⟨ta,tk⟩ b=true→MinusFn w f n ta tk a b)
  {ta tk:Int}{a b:Pat} (ht:InS (w.length*4) ⟨ta,tk⟩) (ha:zae w (m+1) ⟨ta,tk⟩ a=true) (hb:zae w (n+1) ⟨ta,tk⟩ b=true) (h4:a.op=4) (h4b:b.op=4) (hc:a.ctor=b.ctor):MinusFn w f (n+1) ta tk a b:=by
 obtain⟨c1,c2,c3,-⟩:=zaC ha h4;obtain⟨d1,d2,d3,-⟩:=zaC hb h4b;rw[←hc] at d3;have h3l:=hs.args ⟨ta,tk⟩ a.ctor ht c1;have ka:=fun i (hi:i<a.kids.length)=>zaT ha hi;have kb:=fun i (hi:i<b.kids.length)=>zaT hb hi;rw[za2 h4] at ka;rw[za2 h4b,←hc] at kb;have hbd:=zgd hs (n:=n+1) (m:=m+1) (by omega) hn ht ha hb;have e:zaq w (n+1) ⟨ta,tk⟩ a b=zaR (zaq w n) a.ctor (zaa w ⟨ta,tk⟩ a.ctor) a.kids b.kids []:=by rw[zcW h4b h4];exact if_pos hc
 have hins:=fun i (hi:i<(zaa w ⟨ta,tk⟩ a.ctor).length)=>zbo hs.dp ht c1 _ (zaf hi);have hmi:∀i,i<(zaa w ⟨ta,tk⟩ a.ctor).length→FnD Tryz.prog 93 [.d (sPtr w f),.agg [.d (.i (nth (zaa w ⟨ta,tk⟩ a.ctor) i).data),.d (.i (nth (zaa w ⟨ta,tk⟩ a.ctor) i).index)],.agg [.d (.i (nth a.kids i).op),.d (.i (nth a.kids i).ctor),.d (.i (nth a.kids i).n),.d (.i (nth a.kids i).m),.d (.i (nth a.kids i).var),.d (zac (nth a.kids i).kids)],.agg [.d (.i (nth b.kids i).op),.d (.i (nth b.kids i).ctor),.d (.i (nth b.kids i).n),.d (.i (nth b.kids i).m),.d (.i (nth b.kids i).var),.d (zac (nth b.kids i).kids)]] [] (.d (zac (zaq w n (nth (zaa w ⟨ta,tk⟩ a.ctor) i) (nth a.kids i) (nth b.kids i)))) []:=fun i hi=>ih (ta:=(nth (zaa w ⟨ta,tk⟩ a.ctor) i).data) (tk:=(nth (zaa w ⟨ta,tk⟩ a.ctor) i).index) (hins i hi) (ka i (by omega)) (kb i (by omega));have hme:=fun i (hi:i<(zaa w ⟨ta,tk⟩ a.ctor).length)=>zhD hs 11 m (f:=f) (ta:=(nth (zaa w ⟨ta,tk⟩ a.ctor) i).data) (tk:=(nth (zaa w ⟨ta,tk⟩ a.ctor) i).index) (by omega) (hins i hi) (ka i (by omega)) (zdc (by omega) (kb i (by omega)));unfold MinusFn;rw[e] at hbd ⊢;have hT:∀i out front,i<(zaa w ⟨ta,tk⟩ a.ctor).length→out++zaR (zaq w n) a.ctor ((zaa w ⟨ta,tk⟩ a.ctor).drop i) (a.kids.drop i) (b.kids.drop i) front=zaR (zaq w n) a.ctor (zaa w ⟨ta,tk⟩ a.ctor) a.kids b.kids []→
   out.length+(zaq w n (nth (zaa w ⟨ta,tk⟩ a.ctor) i) (nth a.kids i) (nth b.kids i)).length≤20000000:=fun i out front hi h=>by
  rw[zic hi (by omega) (by omega)] at h;have:=congrArg List.length h;simp only[xaa,xac] at this;omega
 refine bd Tryz.f93 159 [14,15] [] fun w0 F0 own kept hk=>?_;refine bx 3005 ?_;refine bx 3006 ?_;refine bx 3007 ?_;refine evs [14,15] [] ?_;refine sq ?_ ?_<;>intro h1 h1p h1s;try simp only[Q,Pat.cs_len] at h1p
 exfalso;omega;try simp only[Q,Pat.cs_len] at h1p
 refine sq ?_ ?_<;>intro h2 h2p h2s;try simp only[Q,Pat.cs_len] at h2p
 exfalso;omega;try simp only[Q,Pat.cs_len] at h2p
 refine sq ?_ ?_<;>intro h3 h3p h3s;try simp only[Q,Pat.cs_len] at h3p
 exfalso;omega;try simp only[Q,Pat.cs_len] at h3p
 refine sq ?_ ?_<;>intro h4 h4p h4s;try simp only[Q,Pat.cs_len] at h4p
 exfalso;omega;try simp only[Q,Pat.cs_len] at h4p
 refine xaB 9 6 .none rfl rfl ?_;refine xaB 8 6 .none rfl rfl ?_;refine tv ?_;refine wc zfy (zdh hs.dp.wt (zb2 ht) c1) rfl rfl ?_;refine evd [14,15] [] ?_;refine dr ?_;refine xaj (ι:=Nat×List Pat×List Pat) hk (fun s=>[(94,.d (.i (s.1:Int))),(14,.gl 9 (s.2.1.map Pat.cc)),(15,.gl 8 (s.2.2.map Pat.cc))]) [16,17,19,20,21,22,95,96,97,98,99,100,101,102,103,104,105,106,107,108,109,110,111,112,113,114,115,116,117,118,119,120,121,122,123,124,125,126,127,128,129,130,131,132,133,134,135,136,137,138,139,140,141,142,143,144,145,146,147,148,149,150,151,152,153,154,155,156,157] (fun s=>[(9,some (.tok ((s.2.1.map Pat.cc)).length 6)),(8,some (.tok ((s.2.2.map Pat.cc)).length 6))]) (fun s=>s.1≤a.kids.length∧s.2.2.length=s.1∧s.2.1++zaR (zaq w n) a.ctor ((zaa w ⟨ta,tk⟩ a.ctor).drop s.1) (a.kids.drop s.1) (b.kids.drop s.1) s.2.2=zaR (zaq w n) a.ctor (zaa w ⟨ta,tk⟩ a.ctor) a.kids b.kids []) (fun s=>a.kids.length-s.1) (0,[],[]) ⟨by simp,rfl,rfl⟩ ⟨⟨_,rfl,xap ?_⟩,⟨⟨_,rfl,LeA.glg ?_⟩,⟨⟨_,rfl,LeA.glg ?_⟩,trivial⟩⟩⟩ ⟨zab ?_,⟨zab ?_,trivial⟩⟩ (fun x=>rfl) (fun s hg2=>?_);iterate 5 focus (rfl)
 refine evc [14,15] [] ?_;refine sq ?_ ?_<;>intro h5 h5p h5s;try simp only[Q,Pat.cs_len] at h5p
 refine xaT zaY .none rfl rfl rfl rfl (zat (by omega)) rfl ?_;refine evs [14,15] [] ?_;refine ab 3017 tz25 ?_;refine evs [14,15] [] ?_;refine so ty25 ?_;refine tv ?_;refine xaT sl26 .none rfl rfl rfl rfl (zaE (by omega)) rfl ?_;refine evd [14,15] [] ?_;refine xaT sl26 .none rfl rfl rfl rfl (zaE (by omega)) rfl ?_;refine evd [14,15] [] ?_;refine wc zs8 (hmi s.1 (by omega)) rfl rfl ?_;refine evd [14,15] [] ?_;refine dr ?_;refine xaj (ι:=List (Pat)×List (Pat)) hk (fun x=>[(113,.d (.i (x.1.length:Int))),(14,.gl 9 ((s.2.1++x.1.map (fun z=>za8 a.ctor (s.2.2++[z]++a.kids.drop (s.1+1)))).map Pat.cc))]) [19,20,114,115,116,117,118,119,120,121,122,123,124,125,126,127,128,129,130,131,132,133,134] (fun x=>[(9,some (.tok (((s.2.1++x.1.map (fun z=>za8 a.ctor (s.2.2++[z]++a.kids.drop (s.1+1)))).map Pat.cc)).length 6))]) (fun x=>x.1++x.2=(zaq w n (nth (zaa w ⟨ta,tk⟩ a.ctor) s.1) (nth a.kids s.1) (nth b.kids s.1))) (fun x=>x.2.length) ([],(zaq w n (nth (zaa w ⟨ta,tk⟩ a.ctor) s.1) (nth a.kids s.1) (nth b.kids s.1))) (by simp) ⟨⟨_,rfl,xap ?_⟩,⟨⟨_,rfl,LeA.glg ?_⟩,trivial⟩⟩ ⟨zab ?_,trivial⟩ (fun x=>rfl) (fun x hg3=>?_);iterate 3 focus ((simp;done))
 obtain⟨pre,rest⟩:=x;dsimp only at hg3 ⊢;refine evc [14,15] [] ?_;refine sq ?_ ?_<;>intro h6 h6p h6s;try simp only[Q,Pat.cs_len] at h6p
 rcases rest with _|⟨y,rest⟩
 ·exfalso;simp_all
 refine xaT sl26 .none rfl rfl rfl rfl (Pat.cs_at' hg3) rfl ?_;refine evs [14,15] [] ?_;refine ab 3019 tz28 ?_;refine so ty28 ?_;refine tv ?_;refine si [0] [_] sl26 tz28 ?_;refine evd [14,15] [] ?_;refine ar ?_ (by(constructor<;>omega));refine xaO (b:=s.1+1) sl26 .none rfl rfl rfl (by intro x hx;exact zbO _ x hx) rfl rfl (by simp only[Pat.cs_len];omega) ?_;refine si [0,1,2] [_,_,_] zed tz26 ?_;refine wc zxA (zwO (A:=s.2.2) (y:=y) (xs:=(Pat.cs a.kids).drop (s.1+1)) (B:=a.kids.drop (s.1+1)) (by rw[xat,xat,List.map_drop]) (by rw[List.length_drop];omega)) rfl rfl ?_;refine evd [14,15] [] ?_;refine dr ?_;refine bu [0,1,5] [_,_,_] st28 ?_;refine si [0] [_] sl26 tz28 ?_;refine ap sl26 zz28 rfl rfl rfl (by intro x hx;(simp at hx;subst hx;rfl)) (by(have h9:=hT s.1 s.2.1 s.2.2 (by omega) hg2.2.2;have h8:=congrArg List.length hg3;simp at h8 ⊢;omega)) ?_;refine asg ?_;refine tv ?_;refine ar ?_ (by(have h9:=hT s.1 s.2.1 s.2.2 (by omega) hg2.2.2;have h8:=congrArg List.length hg3;simp only[xaa,xab] at h8;constructor<;>omega));refine Exists.intro ((pre++[y],rest)) ⟨(by have hz:=hg3;rw[←hz];simp),(by simp),sx ⟨⟨_,rfl,xap ?_⟩,⟨⟨_,rfl,LeA.glg ?_⟩,trivial⟩⟩ ⟨zab ?_,trivial⟩⟩;iterate 3 focus (first|(simp;done)|(simp only[xaf,List.append_assoc,xae,List.map_nil];rfl)|(simp;omega))
 try simp only[Q,Pat.cs_len] at h6p
 have hrest:rest=[]:=by
  rcases rest with _|⟨a,b⟩
  ·rfl
  ·exfalso;have hz:=congrArg List.length (hg3);simp only[xaa,xab,xac] at hz;omega
 subst hrest;refine xaT sl26 .none rfl rfl rfl rfl (zaE (by omega)) rfl ?_;refine evd [14,15] [] ?_;refine xaT sl26 .none rfl rfl rfl rfl (zaE (by omega)) rfl ?_;refine evd [14,15] [] ?_;refine wc zp5 (hme s.1 (by omega)) rfl rfl ?_;refine evd [14,15] [] ?_;refine ab 3021 tz28 ?_;refine so ty28 ?_;refine evd [14,15] [] ?_;refine dr ?_;refine sq ?_ ?_<;>intro h7 h7p h7s;try simp only[Q,Pat.cs_len] at h7p
 refine rn0 (r1 rfl) (.gld ?_);rotate_left;try simp only[Q,Pat.cs_len] at h7p
 refine si [0] [_] sl26 tz28 ?_;refine ap sl26 zz28 rfl rfl rfl (by intro x hx;(simp at hx;subst hx;rfl)) (by(have h9:=hT s.1 s.2.1 s.2.2 (by omega) hg2.2.2;have h8:=congrArg List.length hg3;simp at h8 ⊢;omega)) ?_;refine asg ?_;refine tv ?_;refine ar ?_ (by(constructor<;>omega));refine Exists.intro ((s.1+1,s.2.1++(zaq w n (nth (zaa w ⟨ta,tk⟩ a.ctor) s.1) (nth a.kids s.1) (nth b.kids s.1)).map (fun z=>za8 a.ctor (s.2.2++[z]++a.kids.drop (s.1+1))),s.2.2++[zcL 11 (nth a.kids s.1) (nth b.kids s.1)])) ⟨⟨by dsimp only;omega,by dsimp only;rw[xaa,hg2.2.1];rfl,by dsimp only;rw[List.append_assoc,←zlL (by omega) (by omega) (by omega) (by assumption)];exact hg2.2.2⟩,(by dsimp only;omega),sx ⟨⟨_,rfl,xap ?_⟩,⟨⟨_,rfl,LeA.glg ?_⟩,⟨⟨_,rfl,LeA.glg ?_⟩,trivial⟩⟩⟩ ⟨zab ?_,⟨zab ?_,trivial⟩⟩⟩;iterate 5 focus ((simp_all;done))
 try simp only[Q,Pat.cs_len] at h5p
 refine rn0 (r1 rfl) (.gld ?_);rotate_left;all_goals (first|(rw[←hg2.2.2,znl (by omega),List.append_nil,xat];done)|(rw[List.append_nil] at hg3;rw[←hg2.2.2,zlJ (by omega) (by omega) (by omega) (by assumption),←hg3,xat];all_goals rfl))
theorem zq0 (hs:Spa w){n:Nat}{ta tk:Int}{a b:Pat} (ht:InS (w.length*4) ⟨ta,tk⟩) (h1:a.op=1) (h4b:b.op=4) (hbd:(zaq w (n+1) ⟨ta,tk⟩ a b).length≤20000000)
  (hC:∀c∈zah w ⟨ta,tk⟩,MinusFn w f (n+1) ta tk (zbI w ⟨ta,tk⟩ c) b):MinusFn w f (n+1) ta tk a b:=by
 have e:zaq w (n+1) ⟨ta,tk⟩ a b=(zah w ⟨ta,tk⟩).flatMap fun c=>zaq w (n+1) ⟨ta,tk⟩ (zbI w ⟨ta,tk⟩ c) b:=by
  rw[zgc h4b h1];exact congrArg (fun g=>(zah w ⟨ta,tk⟩).flatMap g) (funext fun c=>(zcW h4b rfl).symm)
 unfold MinusFn;rw[e] at hbd ⊢;have hcl:=(hs.ctors _ ht).1;have hpre:∀ {pre rest:List Int}{y:Int},pre++y::rest=zah w ⟨ta,tk⟩→(pre.flatMap fun c=>zaq w (n+1) ⟨ta,tk⟩ (zbI w ⟨ta,tk⟩ c) b).length+(zaq w (n+1) ⟨ta,tk⟩ (zbI w ⟨ta,tk⟩ y) b).length≤20000000:=fun h=>by
  rw[←h,List.flatMap_append,List.flatMap_cons] at hbd;simp only[xaa] at hbd;omega
 have hmem:∀ {pre rest:List Int}{y:Int},pre++y::rest=zah w ⟨ta,tk⟩→y∈zah w ⟨ta,tk⟩:=fun h=>by rw[←h];simp
 refine bd Tryz.f93 159 [11] [] fun w0 F0 own kept hk=>?_;refine bx 3005 ?_;refine bx 3006 ?_;refine bx 3007 ?_;refine evs [11] [] ?_;refine sq ?_ ?_<;>intro h1 h1p h1s;try simp only[Q,Pat.cs_len] at h1p
 exfalso;omega;try simp only[Q,Pat.cs_len] at h1p
 refine sq ?_ ?_<;>intro h2 h2p h2s;try simp only[Q,Pat.cs_len] at h2p
 exfalso;omega;try simp only[Q,Pat.cs_len] at h2p
 refine sq ?_ ?_<;>intro h3 h3p h3s;try simp only[Q,Pat.cs_len] at h3p
 refine xaB 9 6 .none rfl rfl ?_;refine tv ?_;refine wc zfx (zeF hs.dp.wt (zb2 ht)) rfl rfl ?_;refine evd [11] [] ?_;refine dr ?_;refine xaj (ι:=List (Int)×List (Int)) hk (fun x=>[(61,.d (.i (x.1.length:Int))),(11,.gl 9 (Pat.cs (x.1.flatMap fun c=>zaq w (n+1) ⟨ta,tk⟩ (zbI w ⟨ta,tk⟩ c) b)))]) [13,62,63,64,65,66,67,68,69,70,71,72,73,74,75] (fun x=>[(9,some (.tok ((Pat.cs (x.1.flatMap fun c=>zaq w (n+1) ⟨ta,tk⟩ (zbI w ⟨ta,tk⟩ c) b))).length 6))]) (fun x=>x.1++x.2=zah w ⟨ta,tk⟩) (fun x=>x.2.length) ([],zah w ⟨ta,tk⟩) (by simp) ⟨⟨_,rfl,xap ?_⟩,⟨⟨_,rfl,LeA.glg ?_⟩,trivial⟩⟩ ⟨zab ?_,trivial⟩ (fun x=>rfl) (fun x hg1=>?_);iterate 3 focus (rfl)
 obtain⟨pre,rest⟩:=x;dsimp only at hg1 ⊢;refine evc [11] [] ?_;refine sq ?_ ?_<;>intro h4 h4p h4s;try simp only[Q,Pat.cs_len] at h4p
 rcases rest with _|⟨y,rest⟩
 ·exfalso;simp_all
 refine xaT sl62 .none rfl rfl rfl rfl (zaL hg1) rfl ?_;refine evs [11] [] ?_;refine wc zxz (zpP hs.dp.wt (f:=f) (zb2 ht) (hmem hg1) (hs.args _ _ ht (hmem hg1))) rfl rfl ?_;refine evd [11] [] ?_;refine wc zs8 (hC y (hmem hg1)) rfl rfl ?_;refine ap sl26 zz28 rfl rfl rfl (by exact zbO _) (by have h9:=hpre hg1;simp only[Pat.cs_len];omega) ?_;refine asg ?_;refine dr ?_;refine ar ?_;refine Exists.intro ((pre++[y],rest)) ⟨(by have hz:=hg1;rw[←hz];simp),(by simp),sx ⟨⟨_,rfl,xap ?_⟩,⟨⟨_,rfl,LeA.glg ?_⟩,trivial⟩⟩ ⟨zab ?_,trivial⟩⟩;iterate 3 focus (first|(rw[List.flatMap_append,xat,xat,xat,xaf];simp;done)|(simp[Pat.cs_len];done))
 try simp only[Q,Pat.cs_len] at h4p
 have hrest:rest=[]:=by
  rcases rest with _|⟨a,b⟩
  ·rfl
  ·exfalso;have hz:=congrArg List.length (hg1);simp only[xaa,xab,xac] at hz;omega
 subst hrest;refine rn0 (r1 rfl) (.gld ?_);rotate_left;try simp only[Q,Pat.cs_len] at h3p
 exfalso;omega;all_goals ((rw[List.append_nil] at hg1;rw[hg1];done))
theorem zjJ (hs:Spa w):∀(n m:Nat){ta tk:Int}{a b:Pat},n<m→n≤10→m≤11→InS (w.length*4) ⟨ta,tk⟩→zae w m ⟨ta,tk⟩ a=true→zae w n ⟨ta,tk⟩ b=true→MinusFn w f n ta tk a b
 |0,m,ta,tk,a,b,_,_,_,_,_,hb=>by simp[zae] at hb
 |n+1,0,ta,tk,a,b,h,_,_,_,_,_=>by omega
 |n+1,m+1,ta,tk,a,b,h,hn,hm,ht,ha,hb=>by
  have hC:∀ {a:Pat},zae w (m+1) ⟨ta,tk⟩ a=true→a.op=4→b.op=4→MinusFn w f (n+1) ta tk a b:=fun {a} ha h4 h4b=>by
   by_cases hc:a.ctor=b.ctor
   ·exact zq1 hs hn hm (by omega) (fun h1 h2 h3=>zjJ hs n m (by omega) (by omega) (by omega) h1 h2 h3) ht ha hb h4 h4b hc
   ·exact zq2 h4 h4b hc
  rcases zbn hb with h1|h3|h4b
  ·exact zqY h1
  ·have:=zbB hb h3;exact zqZ h3 ⟨by omega,by omega⟩ ⟨by omega,by omega⟩
  ·by_cases h1:a.op=1
   ·obtain⟨m',rfl⟩:∃m',m=m'+1:=⟨m-1,by omega⟩;exact zq0 hs ht h1 h4b (zgd hs h hn ht ha hb) (fun c hc=>hC (zcv hc) rfl h4b)
   ·exact hC ha (by have:=zdd ha hb h1 (by omega);omega) h4b
end
abbrev zeW (x:UInt8):List D:=[.int .u8 (x.toNat:Int)]
abbrev zcF (b:Str):D:= .sl (b.map zeW)
abbrev rdB (b:Str) (p:Nat):Res:= .box [.d (zcF b),.d (.i p)]
theorem zn6 (u:UInt8):0≤IntKind.i64.wrap (u.toNat:Int)∧IntKind.i64.wrap (u.toNat:Int)≤255:=by
 have h:u.toNat<256:=u.toNat_lt;rw[zd0 (by omega)];omega
def zif (b:Str) (p:Nat):Int:=
 IntKind.i64.wrap ((nth b (p % b.length)).toNat:Int)*131+IntKind.i64.wrap ((nth b ((p*7+3) % b.length)).toNat:Int)*1117+((p:Int)+1-1)*29+((p:Int)+1-1) / ((b.map zeW).length:Int)*53
def zay (b:Str) (p:Nat) (n:Int):Int:=
 if n<1∨b.length=0 then 0
 else if p<b.length then IntKind.i64.wrap ((nth b p).toNat:Int) % n
 else xorV (zif b p) (zif b p / 64) % n
theorem zc2 {b:Str}{p:Nat}{n:Int} (h:1≤n):0≤zay b p n∧zay b p n<n:=by
 unfold zay;split
 ·omega
 ·split
  ·exact⟨Int.emod_nonneg _ (by omega),Int.emod_lt_of_pos _ (by omega)⟩
  ·exact⟨Int.emod_nonneg _ (by omega),Int.emod_lt_of_pos _ (by omega)⟩
theorem zbl {b:Str}{p:Nat}{n:Int} (hb:b.length≤2000) (hp:p≤1000000000000) (hn:n≤1000000000000):
  FnD Tryz.prog 57 [.ref 900 0,.d (.i n)] [(900,some (rdB b p))] (.d (.i (zay b p n))) [(900,some (rdB b (p+1)))]:=by
 have w1:=zn6 (nth b (p % b.length));have w2:=zn6 (nth b ((p*7+3) % b.length));have w3:=zn6 (nth b p);have hlen:((b.map zeW).length:Int)=b.length:=by simp
 have d1:0≤((p:Int)+1-1) / ((b.map zeW).length:Int):=Int.ediv_nonneg (by omega) (by omega);have d2:((p:Int)+1-1) / ((b.map zeW).length:Int)≤(p:Int)+1-1:=Int.ediv_le_self _ (by omega);have hx:0≤zif b p∧zif b p≤100*1000000000000:=by unfold zif;omega
 have hx2:=zxh (m:=zif b p) (n:=zif b p / 64) (by omega) (by omega);have k1:(p:Int)+1-1=(p:Int):=by omega
 have hx3:=hx2;have hx4:=hx;unfold zif at hx3 hx4;refine bd Tryz.f57 99 [46,57,74,89,94,95,98] [] fun w0 F0 own kept hk=>?_;refine ar ?_;refine so ty3 ?_;refine tv ?_;refine sq ?_ ?_<;>intro h1 h1p h1s;try simp only[Q] at h1p
 refine sqT ?_;refine rn [(900,some (rdB b (p+1)))] (r1 rfl) (.eqd ?_) ⟨rfl,rfl⟩ (SubO.get ⟨.inr ?_,⟨.inl rfl,trivial⟩⟩) (zaz rfl);rotate_left 2;try simp only[Q] at h1p
 refine sq ?_ ?_<;>intro h3 h3p h3s;try simp only[Q] at h3p
 refine rn [(900,some (rdB b (p+1)))] (r1 rfl) (.eqd ?_) ⟨rfl,rfl⟩ (SubO.get ⟨.inr ?_,⟨.inl rfl,trivial⟩⟩) (zaz rfl);rotate_left 2;try simp only[Q] at h3p
 refine ar ?_;refine sq ?_ ?_<;>intro h4 h4p h4s;try simp only[Q] at h4p
 refine xaT (i:=p) sl22 .none rfl rfl rfl (by omega) (zat (by omega)) rfl ?_;refine evs [46,57,74,89,94,95,98] [] ?_;refine xaJ (by rw[un5];rfl) un3 .none rfl rfl ?_;refine evs [46,57,74,89,94,95,98] [] ?_;refine xbf .none rfl rfl rfl (by omega) ?_;refine evs [46,57,74,89,94,95,98] [] ?_;refine rn [(900,some (rdB b (p+1)))] (r1 rfl) (.eqd ?_) ⟨rfl,rfl⟩ (SubO.get ⟨.inr ?_,⟨.inl rfl,trivial⟩⟩) (zaz rfl);rotate_left 2;try simp only[Q] at h4p
 refine xbf .none rfl rfl rfl (by omega) ?_;refine xaT (i:=p % b.length) sl22 .none rfl rfl rfl (by rw[k1,hlen];rfl) (zat (Nat.mod_lt _ (by omega))) rfl ?_;refine evd [46,57,74,89,94,95,98] [] ?_;refine xaJ (by rw[un5];rfl) un3 .none rfl rfl ?_;refine evd [46,57,74,89,94,95,98] [] ?_;refine ar ?_;refine ar ?_;refine ar ?_;refine xbf .none rfl rfl rfl (by omega) ?_;refine xaT (i:=(p*7+3) % b.length) sl22 .none rfl rfl rfl (by rw[k1,hlen];rfl) (zat (Nat.mod_lt _ (by omega))) rfl ?_;refine evd [46,57,74,89,94,95,98] [] ?_;refine xaJ (by rw[un5];rfl) un3 .none rfl rfl ?_;refine evd [46,57,74,89,94,95,98] [] ?_;refine ar ?_;refine ar ?_;refine ar ?_;refine ar ?_;refine xbd .none rfl rfl rfl (by omega) ?_;refine evd [46,57,74,89,94,95,98] [] ?_;refine ar ?_;refine ar ?_;refine dr ?_;refine xbd .none rfl rfl rfl (by omega) ?_;refine Walk.xorI .none rfl rfl rfl ?_;refine evs [46,57,74,89,94,95,98] [] ?_;refine xbf .none rfl rfl rfl (by omega) ?_;refine evs [46,57,74,89,94,95,98] [] ?_;refine rn [(900,some (rdB b (p+1)))] (r1 rfl) (.eqd ?_) ⟨rfl,rfl⟩ (SubO.get ⟨.inr ?_,⟨.inl rfl,trivial⟩⟩) (zaz rfl);rotate_left 2;all_goals (first|((refine congrArg D.i ?_;unfold zay;first|(rw[if_pos (by omega)];done)|(rw[if_neg (by omega),if_pos (by omega)];done)|(rw[if_neg (by omega),if_neg (by omega)];rfl));done)|(rfl))
def numV (b:Str) (p:Nat) (l:List Int):Int:=nth l (zay b p l.length).toNat
theorem zcS {b:Str}{p:Nat}{l:List Int} (hb:b.length≤2000) (hp:p≤1000000000000) (hl:1≤l.length) (hl2:l.length≤1000):
  FnD Tryz.prog 84 [.ref 900 0,.d (zco l)] [(900,some (rdB b p))] (.d (.i (numV b p l))) [(900,some (rdB b (p+1)))]:=by
 have hv:=zc2 (b:=b) (p:=p) (n:=((l.map fun n=>[D.i n]).length:Int)) (by simp;omega);have hlen:((l.map fun n=>[D.i n]).length:Int)=l.length:=by simp
 refine bd Tryz.f84 12 [] [] fun w0 F0 own kept hk=>?_;refine wc zdy (zbl hb hp (by simp;omega)) rfl rfl ?_;refine xaT (i:=(zay b p ((l.map fun n=>[D.i n]).length:Int)).toNat) sl62 .none rfl rfl rfl (by omega) (zat (by omega)) rfl ?_;refine ev ?_;refine rn [(900,some (rdB b (p+1)))] (r1 rfl) (.eqd ?_) ⟨rfl,rfl⟩ (SubO.get ⟨.inr ?_,⟨.inl rfl,trivial⟩⟩) (zaz rfl);rotate_left 2;all_goals (first|((refine congrArg D.i ?_;unfold numV;rw[hlen]);done)|(rfl))
theorem znH {b:Str} (hb:b.length≤1000000000000):FnD Tryz.prog 56 [.d (zcF b)] [] (.ref 900 0) [(900,some (rdB (b.take 2000) 0))]:=by
 refine bd Tryz.f56 11 [] [] fun w0 F0 own kept hk=>?_;refine sq ?_ ?_<;>intro h1 h1p h1s;try simp only[Q] at h1p
 refine xaN (b:=2000) sl22 .none rfl rfl rfl (by intro x hx;obtain⟨y,_,rfl⟩:=List.mem_map.1 hx;rfl) rfl rfl (by simp at *;omega) ?_;refine ev ?_;refine bu [0] [_] zwz ?_;refine bx 900 ?_;refine ev ?_;focus (refine rn [(900,some (rdB (b.take 2000) 0))] (r1 rfl) (.refl _) ⟨rfl,rfl⟩ (SubH.get ⟨(by(simp[getH,rdB,zcF,List.map_take];done)),trivial⟩) (zaz rfl);all_goals (rfl))
 try simp only[Q] at h1p
 refine bu [0] [_] zwz ?_;refine bx 900 ?_;refine ev ?_;focus (refine rn [(900,some (rdB (b.take 2000) 0))] (r1 rfl) (.refl _) ⟨rfl,rfl⟩ (SubH.get ⟨(by(show some (Res.box _)=some (Res.box _);rw[List.take_of_length_le (by simp at *;omega)];rfl)),trivial⟩) (zaz rfl);all_goals ((simp[h1s,h1p];done)))
def cutL (c:UInt8):Str→Str→List Str
 |cur,[]=>[cur]
 |cur,x::r=>if x=c then cur::cutL c [] r else cutL c (cur++[x]) r
theorem zen (c:UInt8):∀(s cur:Str),(cutL c cur s).length≤s.length+1
 | [],cur=>by simp[cutL]
 |x::r,cur=>by
  simp only[cutL];split
  ·have:=zen c r [];simp only[xab];omega
  ·have:=zen c r (cur++[x]);simp only[xab];omega
theorem zja (c:UInt8):∀(s cur:Str),1≤(cutL c cur s).length
 | [],cur=>by simp[cutL]
 |x::r,cur=>by
  simp only[cutL];split
  ·simp
  ·exact zja c r (cur++[x])
theorem zi9 (c:UInt8):∀(s cur:Str) (t:Str),t∈cutL c cur s→t.length≤cur.length+s.length
 | [],cur,t,h=>by simp only[cutL,List.mem_singleton] at h;subst h;simp
 |x::r,cur,t,h=>by
  simp only[cutL] at h;split at h
  ·rcases List.mem_cons.1 h with rfl|h
   ·simp
   ·have:=zi9 c r [] t h;simp only[xab,xah] at this ⊢;omega
  ·have:=zi9 c r (cur++[x]) t h;simp only[xaa,xab,xah] at this ⊢;omega
theorem zhU {s:Str}{i:Nat} (h:i<s.length):s[i]?=some (nth s i):=by rw[zaQ h];exact List.getElem?_eq_getElem h
theorem zlW {s:Str}{f i:Nat} (hf:f≤i) (h:i<s.length):(s.take (i+1)).drop f=(s.take i).drop f++[nth s i]:=by
 rw[List.take_add_one,List.getElem?_eq_getElem h,List.drop_append_of_le_length (by simp;omega),zaQ h];rfl
theorem zqG {s:Str}{f i:Nat}:(s.drop f).take (i-f)=(s.take i).drop f:=by rw[List.drop_take]
theorem zcq {s:Str}{c:UInt8} (hs:s.length≤1000000000000):FnD Tryz.prog 120 [.d (.str s),.d (.int .u8 (c.toNat:Int))] [] (.d (zff (cutL c [] s))) []:=by
 have hu:∀a:UInt8,((a.toNat:Int)=(c.toNat:Int))↔a=c:=fun a=>by rw[Int.natCast_inj];exact UInt8.toNat_inj
 refine bd Tryz.f120 36 [] [] fun w0 F0 own kept hk=>?_;refine xbh 1 sl99 .none rfl rfl ?_;refine ev ?_;refine xaj (ι:=Nat×Nat×List Str) hk (fun x=>[(7,.d (.i (x.1:Int))),(6,.d (.i (x.2.1:Int))),(5,.gl 1 (x.2.2.map fun n=>[D.str n]))]) [9,10,11,12,13,14,15,16,17,18,19,20,21,22,23,24,25,26,27,28,29,30,31,32,33,34] (fun x=>[(1,some (.tok ((x.2.2.map fun n=>[D.str n])).length 1))]) (fun x=>x.1≤s.length+1∧x.2.2.length≤x.1∧if x.1=s.length+1 then x.2.2=cutL c [] s else x.2.1≤x.1∧x.2.2++cutL c ((s.take x.1).drop x.2.1) (s.drop x.1)=cutL c [] s) (fun x=>s.length+1-x.1) (0,0,[]) ⟨by simp,by simp,by rw[if_neg (by simp)];simp⟩ ⟨⟨_,rfl,xap ?_⟩,⟨⟨_,rfl,xap ?_⟩,⟨⟨_,rfl,LeA.glg ?_⟩,trivial⟩⟩⟩ ⟨zab ?_,trivial⟩ (fun x=>rfl) (fun x hg1=>?_);iterate 4 focus (rfl)
 refine evc [] [] ?_;refine sq ?_ ?_<;>intro h1 h1p h1s;try simp only[Q,hu] at h1p
 have hne:¬x.1=s.length+1:=(by omega);have hcond:=hg1.2.2;rw[if_neg hne] at hcond;have hle:=hcond.1;refine sq ?_ ?_<;>intro h2 h2p h2s;try simp only[Q,hu] at h2p
 refine sqT ?_;refine xaL un9 .none rfl rfl rfl rfl rfl rfl (by omega) (by omega) ?_;refine si [0] [_] sl99 tz9 ?_;refine ap sl99 zz9 rfl rfl rfl (by simp) (by simp;omega) ?_;refine ev ?_;refine ar ?_;refine ar ?_;refine Exists.intro (if x.1=s.length∨nth s x.1=c then (x.1+1,x.1+1,x.2.2++[(s.take x.1).drop x.2.1]) else (x.1+1,x.2.1,x.2.2)) ⟨(by
    have hne:¬x.1=s.length+1:=by omega
    rw[if_neg hne] at hg1;obtain⟨g1,g2,g3,g4⟩:=hg1;by_cases he:x.1=s.length
    ·rw[if_pos (.inl he)];refine⟨by dsimp only;omega,by simp;omega, ?_⟩;dsimp only;rw[if_pos (by omega),←g4,he,List.drop_length];rfl
    ·have hlt:x.1<s.length:=by omega
     rw[zaO hlt] at g4;by_cases hc:nth s x.1=c
     ·rw[if_pos (.inr hc)];refine⟨by dsimp only;omega,by simp;omega, ?_⟩;dsimp only;rw[if_neg (by omega)];refine⟨by omega, ?_⟩;rw[←g4,cutL,if_pos hc,List.append_assoc];simp
     ·rw[if_neg (by simp[he,hc])];refine⟨by dsimp only;omega,by dsimp only;omega, ?_⟩;dsimp only;rw[if_neg (by omega)];refine⟨by omega, ?_⟩;rw[←g4,cutL,if_neg hc,zlW g3 hlt]),(by split<;>(dsimp only;omega)),sx ⟨⟨_,rfl,xap ?_⟩,⟨⟨_,rfl,xap ?_⟩,⟨⟨_,rfl,LeA.glg ?_⟩,trivial⟩⟩⟩ ⟨zab ?_,trivial⟩⟩
 iterate 4 focus ((split<;>first|(simp[zqG];done)|(simp;done)|(exfalso;simp_all;done)|(exfalso;simp_all;omega)))
 try simp only[Q,hu] at h2p
 refine xaY un9 (.some rfl rfl h2) rfl rfl rfl rfl (zhU (by omega)) ?_;refine evs [] [(19,false)] ?_ ⟨⟨_,rfl,h2⟩,trivial⟩;refine sq ?_ ?_<;>intro h4 h4p h4s;try simp only[Q,hu] at h4p
 refine xaL un9 .none rfl rfl rfl rfl rfl rfl (by omega) (by omega) ?_;refine si [0] [_] sl99 tz9 ?_;refine ap sl99 zz9 rfl rfl rfl (by simp) (by simp;omega) ?_;refine ev ?_;refine ar ?_;refine ar ?_;refine Exists.intro (if x.1=s.length∨nth s x.1=c then (x.1+1,x.1+1,x.2.2++[(s.take x.1).drop x.2.1]) else (x.1+1,x.2.1,x.2.2)) ⟨(by
    have hne:¬x.1=s.length+1:=by omega
    rw[if_neg hne] at hg1;obtain⟨g1,g2,g3,g4⟩:=hg1;by_cases he:x.1=s.length
    ·rw[if_pos (.inl he)];refine⟨by dsimp only;omega,by simp;omega, ?_⟩;dsimp only;rw[if_pos (by omega),←g4,he,List.drop_length];rfl
    ·have hlt:x.1<s.length:=by omega
     rw[zaO hlt] at g4;by_cases hc:nth s x.1=c
     ·rw[if_pos (.inr hc)];refine⟨by dsimp only;omega,by simp;omega, ?_⟩;dsimp only;rw[if_neg (by omega)];refine⟨by omega, ?_⟩;rw[←g4,cutL,if_pos hc,List.append_assoc];simp
     ·rw[if_neg (by simp[he,hc])];refine⟨by dsimp only;omega,by dsimp only;omega, ?_⟩;dsimp only;rw[if_neg (by omega)];refine⟨by omega, ?_⟩;rw[←g4,cutL,if_neg hc,zlW g3 hlt]),(by split<;>(dsimp only;omega)),sx ⟨⟨_,rfl,xap ?_⟩,⟨⟨_,rfl,xap ?_⟩,⟨⟨_,rfl,LeA.glg ?_⟩,trivial⟩⟩⟩ ⟨zab ?_,trivial⟩⟩
 iterate 4 focus ((split<;>first|(simp[zqG];done)|(simp;done)|(exfalso;simp_all;done)|(exfalso;simp_all;omega)))
 try simp only[Q,hu] at h4p
 refine ar ?_;refine Exists.intro (if x.1=s.length∨nth s x.1=c then (x.1+1,x.1+1,x.2.2++[(s.take x.1).drop x.2.1]) else (x.1+1,x.2.1,x.2.2)) ⟨(by
    have hne:¬x.1=s.length+1:=by omega
    rw[if_neg hne] at hg1;obtain⟨g1,g2,g3,g4⟩:=hg1;by_cases he:x.1=s.length
    ·rw[if_pos (.inl he)];refine⟨by dsimp only;omega,by simp;omega, ?_⟩;dsimp only;rw[if_pos (by omega),←g4,he,List.drop_length];rfl
    ·have hlt:x.1<s.length:=by omega
     rw[zaO hlt] at g4;by_cases hc:nth s x.1=c
     ·rw[if_pos (.inr hc)];refine⟨by dsimp only;omega,by simp;omega, ?_⟩;dsimp only;rw[if_neg (by omega)];refine⟨by omega, ?_⟩;rw[←g4,cutL,if_pos hc,List.append_assoc];simp
     ·rw[if_neg (by simp[he,hc])];refine⟨by dsimp only;omega,by dsimp only;omega, ?_⟩;dsimp only;rw[if_neg (by omega)];refine⟨by omega, ?_⟩;rw[←g4,cutL,if_neg hc,zlW g3 hlt]),(by split<;>(dsimp only;omega)),sx ⟨⟨_,rfl,xap ?_⟩,⟨⟨_,rfl,xap ?_⟩,⟨⟨_,rfl,LeA.glg ?_⟩,trivial⟩⟩⟩ ⟨zab ?_,trivial⟩⟩
 iterate 4 focus ((split<;>first|rfl|(exfalso;simp_all;done)|(exfalso;simp_all;omega)))
 try simp only[Q,hu] at h1p
 refine rn0 (r1 rfl) (.gld ?_);rotate_left;all_goals (have e:x.1=s.length+1:=(by omega);rw[if_pos e] at hg1;rw[hg1.2.2])
def ztf (names:List Str) (s:Str):Int:=if s=[73] then -1 else if s∈names then idxF (fun n=>decide (n=s)) names 0 else -2
theorem zoA {names:List Str}{s:Str} (hn:names.length≤1000000000000):FnD Tryz.prog 211 [.d (zff names),.d (.str s)] [] (.d (.i (ztf names s))) []:=by
 refine bd Tryz.f211 21 [] [] fun w0 F0 own kept hk=>?_;refine sq ?_ ?_<;>intro h1 h1p h1s;try simp only[Q] at h1p
 refine rn0 (r1 rfl) (.eqd ?_);rotate_left;try simp only[Q] at h1p
 refine xaj (ι:=List (Str)×List (Str)) hk (fun x=>[(5,.d (.i (x.1.length:Int)))]) [4,8,9,10,11,12,13,14,15,16,17,18,19,20] (fun x=>[]) (fun x=>x.1++x.2=names∧s∉x.1∧idxF (fun n=>decide (n=s)) x.2 x.1.length=idxF (fun n=>decide (n=s)) names 0) (fun x=>x.2.length) ([],names) ⟨by simp,by simp,rfl⟩ ⟨⟨_,rfl,xap ?_⟩,trivial⟩ trivial (fun x=>rfl) (fun x hg1=>?_);focus (rfl)
 obtain⟨pre,rest⟩:=x;dsimp only at hg1 ⊢;refine evc [] [] ?_;refine sq ?_ ?_<;>intro h2 h2p h2s;try simp only[Q] at h2p
 rcases rest with _|⟨y,rest⟩
 ·exfalso;simp_all
 refine xaT sl99 .none rfl rfl rfl rfl (zaL hg1.1) rfl ?_;refine ev ?_;refine sq ?_ ?_<;>intro h3 h3p h3s;try simp only[Q] at h3p
 refine rn0 (r1 rfl) (.eqd ?_);rotate_left;try simp only[Q] at h3p
 refine ar ?_;refine Exists.intro ((pre++[y],rest)) ⟨⟨(by have hz:=hg1.1;rw[←hz];simp),⟨(by have h1:=hg1.2.1;simp_all[eq_comm]),(by rw[←hg1.2.2];simp_all[idxF])⟩⟩,(by simp),sx ⟨⟨_,rfl,xap ?_⟩,trivial⟩ trivial⟩;focus ((simp;done))
 try simp only[Q] at h2p
 have hrest:rest=[]:=by
  rcases rest with _|⟨a,b⟩
  ·rfl
  ·exfalso;have hz:=congrArg List.length (hg1.1);simp only[xaa,xab,xac] at hz;omega
 subst hrest;refine rn0 (r1 rfl) (.eqd ?_);rotate_left;all_goals (refine congrArg D.i ?_;unfold ztf;by_cases hz:s=[73]<;>by_cases hm:s∈names<;>simp only[hz,hm,if_true,if_false];all_goals first|(exfalso;simp_all;done)|(exfalso;apply hm;subst h3p;rw[←hg1.1];simp;done)|(exfalso;apply hg1.2.1;rw[←hg1.1,List.append_nil] at hm;exact hm)|(rw[←hg1.2.2];simp_all[idxF];done))
def zfo (names:List Str) (s:Str):Ty:=
 if s=[] then ⟨-2,0⟩
 else ⟨ztf names (s.take 1),if s.drop 1=[42] then -1 else if s.length=2∧48≤(nth s 1).toNat∧(nth s 1).toNat≤57 then ((nth s 1).toNat:Int)-48 else 0⟩
theorem ztc {b:UInt8} (h1:48≤b.toNat) (h2:b.toNat≤57):IntKind.i64.wrap (IntKind.u8.wrap ((b.toNat:Int)-48))=(b.toNat:Int)-48:=by
 rw[zxe,zd0 (by omega)];omega
theorem zfZ {names:List Str}{s:Str} (hn:names.length≤1000000000000) (hs:s.length≤1000000000000):
  FnD Tryz.prog 173 [.d (zff names),.d (.str s)] [] (.agg [.d (.i (zfo names s).data),.d (.i (zfo names s).index)]) []:=by
 have hlen:s≠[]→1≤s.length:=fun h=>by rcases s with _|⟨a,r⟩;exact absurd rfl h;simp
 refine bd Tryz.f173 39 [35] [] fun w0 F0 own kept hk=>?_;refine ab 3004 tz25 ?_;refine tv ?_;refine sq ?_ ?_<;>intro h1 h1p h1s;try simp only[Q] at h1p
 refine bu [0] [_] st25 ?_;refine so ty25 ?_;refine tv ?_;refine rn0 (.cons (.cellA ty25 rfl rfl rfl) .nil) (.agg (.cons (.eqd ?_) (.cons (.eqd ?_) .nil)));rotate_left 2;try simp only[Q] at h1p
 refine xaK (b:=1) un9 .none rfl rfl rfl rfl (by have:=hlen (by simp_all);omega) ?_;refine wc zxV (zoA (names:=names) (s:=s.take 1) hn) rfl rfl ?_;refine bu [0] [_] st25 ?_;refine ab 3005 tz25 ?_;refine so ty25 ?_;refine tv ?_;refine Walk.cutS_l (b:=1) un9 .none rfl rfl rfl rfl (by have:=hlen (by simp_all);omega) ?_;refine evs [35] [] ?_;refine sq ?_ ?_<;>intro h2 h2p h2s;try simp only[Q] at h2p
 refine so ty3 ?_;refine tv ?_;refine so ty25 ?_;refine tv ?_;refine rn0 (.cons (.cellA ty25 rfl rfl rfl) .nil) (.agg (.cons (.eqd ?_) (.cons (.eqd ?_) .nil)));rotate_left 2;try simp only[Q] at h2p
 refine sq ?_ ?_<;>intro h3 h3p h3s;try simp only[Q] at h3p
 refine xaY (i:=1) un9 (.some rfl rfl h3) rfl rfl rfl rfl (zhU (by simp_all;omega)) ?_;refine evs [35] [(23,true)] ?_ ⟨⟨_,rfl,h3⟩,trivial⟩;refine sq ?_ ?_<;>intro h4 h4p h4s;try simp only[Q] at h4p
 refine xaY (i:=1) un9 (.some rfl rfl h4) rfl rfl rfl rfl (zhU (by simp_all;omega)) ?_;refine evs [35] [(28,true)] ?_ ⟨⟨_,rfl,h4⟩,trivial⟩;refine sq ?_ ?_<;>intro h5 h5p h5s;try simp only[Q] at h5p
 refine xaY (i:=1) un9 .none rfl rfl rfl rfl (zhU (by simp_all;omega)) ?_;refine Walk.subW .none rfl rfl rfl ?_;refine xaJ (by rw[un5];rfl) un3 .none rfl rfl ?_;refine evs [35] [] ?_;refine so ty3 ?_;refine tv ?_;refine so ty25 ?_;refine tv ?_;refine rn0 (.cons (.cellA ty25 rfl rfl rfl) .nil) (.agg (.cons (.eqd ?_) (.cons (.eqd ?_) .nil)));rotate_left 2;try simp only[Q] at h5p
 refine so ty25 ?_;refine tv ?_;refine rn0 (.cons (.cellA ty25 rfl rfl rfl) .nil) (.agg (.cons (.eqd ?_) (.cons (.eqd ?_) .nil)));rotate_left 2;try simp only[Q] at h4p
 refine sqF ?_;refine so ty25 ?_;refine tv ?_;refine rn0 (.cons (.cellA ty25 rfl rfl rfl) .nil) (.agg (.cons (.eqd ?_) (.cons (.eqd ?_) .nil)));rotate_left 2;try simp only[Q] at h3p
 refine sqF ?_;refine sqF ?_;refine so ty25 ?_;refine tv ?_;refine rn0 (.cons (.cellA ty25 rfl rfl rfl) .nil) (.agg (.cons (.eqd ?_) (.cons (.eqd ?_) .nil)));rotate_left 2;all_goals (unfold zfo;first|(rw[ztc (b:=nth s 1) (by omega) (by omega),if_neg h1p];dsimp only;rw[if_neg h2p,if_pos ⟨by omega,by omega,by omega⟩];done)|(rw[if_pos h1p];done)|(rw[if_neg h1p];done)|(rw[if_neg h1p];dsimp only;rw[if_pos h2p];done)|(rw[if_neg h1p];dsimp only;rw[if_neg h2p,if_neg (fun hh=>by omega)];done))
def zqK (s:Str):Prop:=2<s.length∧nth s (s.length-2)=58
instance (s:Str):Decidable (zqK s):=inferInstanceAs (Decidable (_∧_))
def zhw (names:List Str) (ix:Int) (s:Str):Ctor:=
 let parts:=cutL 40 [] s
 ⟨nth parts 0,if parts.length<2∨(nth parts 1).length=0 then [] else ((cutL 44 [] ((nth parts 1).take ((nth parts 1).length-1))).take 4).map (zfo names),ix⟩
def zcy (names:List Str) (s:Str):Ctor:=
 if zqK s then zhw names (((nth s (s.length-1)).toNat:Int)-48) (s.take (s.length-2)) else zhw names 0 s
theorem zgU {α β:Type} [Inhabited α]{f:α→β}{l:List α}{i:Nat} (h:i<l.length):(l.map f).take (i+1)=(l.map f).take i++[f (nth l i)]:=by
 rw[List.take_add_one,List.getElem?_map,List.getElem?_eq_getElem h];simp[nth,List.getD,h]
theorem zpD {α:Type}{l:List α}{i:Nat} (h:i=4∨(i≤4∧l.length≤i)):l.take i=l.take 4:=by
 rcases h with rfl|⟨h1,h2⟩
 ·rfl
 ·rw[List.take_of_length_le h2,List.take_of_length_le (by omega)]
theorem zyI {a b:UInt8}:((a.toNat:Int)=(b.toNat:Int))↔a=b:=by rw[Int.natCast_inj];exact UInt8.toNat_inj
theorem zvg (a:UInt8):IntKind.i64.wrap (a.toNat:Int)=(a.toNat:Int):=by have:=a.toNat_lt;exact zd0 (by omega)
theorem zeo {c:UInt8}{s:Str}{i:Nat} (h:i<(cutL c [] s).length):(nth (cutL c [] s) i).length≤s.length:=by
 have:=zi9 c s [] _ (zaf h);simpa using this
theorem zjZ {names:List Str}{s:Str} (hn:names.length≤1000000000000) (hs:s.length≤1000000):
  FnD Tryz.prog 121 [.d (zff names),.d (.str s)] [] (.agg [.d (.str (zcy names s).name),.d (zcl (zcy names s).args),.d (.i (zcy names s).index)]) []:=by
 have hwb:=zvg (nth s (s.length-1));have hwl:=(nth s (s.length-1)).toNat_lt;by_cases hc:zqK s
 ·have hc1:=hc.1;have hct:(s.take (s.length-2)).length=s.length-2:=by rw[List.length_take];omega
  have hcl:=zen 40 (s.take (s.length-2)) [];have hcp:=zja 40 (s.take (s.length-2)) [];have hn1:=fun h=>zeo (c:=40) (s:=s.take (s.length-2)) (i:=1) h;have hal:=zen 44 ((nth (cutL 40 [] (s.take (s.length-2))) 1).take ((nth (cutL 40 [] (s.take (s.length-2))) 1).length-1)) [];refine bd Tryz.f121 83 [] [2,7] fun w0 F0 own kept hk=>?_;refine ab 3004 zhh ?_;refine tv ?_;refine bu [] [] zwA ?_;refine ab 3005 zhh ?_;refine so zc9 ?_;refine tv ?_;refine xak ?_;refine xay 11 [(20,.d (.bool (true)))] [10,11,12,13,14,15,16,17,18,19] ?_ ?_;refine ev ?_;refine sq ?_ ?_<;>intro h1 h1p h1s;try simp only[Q,List.length_take] at h1p
  refine ar ?_;refine xaY (i:=s.length-2) un9 (.some rfl rfl h1) rfl rfl rfl (by omega) (zhU (by omega)) ?_;refine evs [] [(13,true)] ?_ ⟨⟨_,rfl,h1⟩,trivial⟩;exact jn rfl (xao (by(exact decide_eq_true (congrArg (fun z:UInt8=>(z.toNat:Int)) hc.2))));try simp only[Q,List.length_take] at h1p
  exact jn rfl (xao (by(exfalso;omega)));refine xax ?_;refine tv ?_;refine sq ?_ ?_<;>intro h2 h2p h2s;try simp only[Q,List.length_take] at h2p
  refine ar ?_;refine xaY (i:=s.length-1) un9 .none rfl rfl rfl (by omega) (zhU (by omega)) ?_;refine xaJ (by rw[un5];rfl) un3 .none rfl rfl ?_;refine ev ?_;refine ar ?_;refine so ty3 ?_;refine tv ?_;refine ar ?_;refine xaK (b:=s.length-2) un9 .none rfl rfl rfl (by omega) (by omega) ?_;refine ev ?_;refine wc zgx (zcq (s:=s.take (s.length-2)) (c:=40) (by first|omega|(simp;omega))) rfl rfl ?_;refine ev ?_;refine xaT (i:=0) sl99 .none rfl rfl rfl rfl (zat (by omega)) rfl ?_;refine ev ?_;refine so ty9 ?_;refine tv ?_;refine xak ?_;refine xay 10 [(49,.d (.bool (decide ((cutL 40 [] (s.take (s.length-2))).length<2∨(nth (cutL 40 [] (s.take (s.length-2))) 1).length=0))))] [40,41,42,43,44,45,46,47,48] ?_ ?_;refine ev ?_;refine sq ?_ ?_<;>intro h3 h3p h3s;try simp only[Q,List.length_take] at h3p
  exact jn rfl (xao (by(refine(decide_eq_true ?_).symm;omega)));try simp only[Q,List.length_take] at h3p
  refine xaT (i:=1) sl99 (.some rfl rfl h3) rfl rfl rfl rfl (zat (by omega)) rfl ?_;refine evs [] [(43,false)] ?_ ⟨⟨_,rfl,h3⟩,trivial⟩;exact jn rfl (xao (by(refine decide_eq_decide.2 ?_;omega)));refine xax ?_;refine tv ?_;refine sq ?_ ?_<;>intro h4 h4p h4s;try simp only[Q,List.length_take] at h4p
  refine so zc9 ?_;refine tv ?_;refine rn0 (.cons (.cellA zc9 rfl rfl rfl) .nil) (.agg (.cons (.eqd ?_) (.cons (.nild ?_) (.cons (.eqd ?_) .nil))));rotate_left 3;try simp only[Q,List.length_take] at h4p
  refine xaT (i:=1) sl99 .none rfl rfl rfl rfl (zat (by omega)) rfl ?_;refine evd [] [] ?_;refine xaT (i:=1) sl99 .none rfl rfl rfl rfl (zat (by omega)) rfl ?_;refine evd [] [] ?_;refine ar ?_;refine xaK (b:=(nth (cutL 40 [] (s.take (s.length-2))) 1).length-1) un9 .none rfl rfl rfl (by omega) (by omega) ?_;refine wc zgx (zcq (s:=(nth (cutL 40 [] (s.take (s.length-2))) 1).take ((nth (cutL 40 [] (s.take (s.length-2))) 1).length-1)) (c:=44) (by simp;omega)) rfl rfl ?_;refine evd [] [] ?_;refine dr ?_;refine xam 3005 1 1 2 rfl rfl rfl rfl ?_;refine xaj (ι:=Nat) hk (fun i=>[(8,.d (.i (i:Int)))]) [61,62,63,64,65,66,67,68,69,70,71,72,73,74,75,76,77,78,79,80,81] (fun i=>[(3005,some (.box [.d (.str (nth (cutL 40 [] (s.take (s.length-2))) 0)),.gl 1 (((((cutL 44 [] ((nth (cutL 40 [] (s.take (s.length-2))) 1).take ((nth (cutL 40 [] (s.take (s.length-2))) 1).length-1))).map (zfo names)).take i)).map Ty.c),.d (.i (((nth s (s.length-1)).toNat:Int)-48))])),(1,some (.tok (((((cutL 44 [] ((nth (cutL 40 [] (s.take (s.length-2))) 1).take ((nth (cutL 40 [] (s.take (s.length-2))) 1).length-1))).map (zfo names)).take i)).map Ty.c).length 2))]) (fun i=>i≤4∧i≤(cutL 44 [] ((nth (cutL 40 [] (s.take (s.length-2))) 1).take ((nth (cutL 40 [] (s.take (s.length-2))) 1).length-1))).length) (fun i=>4-i) 0 ⟨by omega,by omega⟩ ⟨⟨_,rfl,xap ?_⟩,trivial⟩ ⟨?_,⟨zab ?_,trivial⟩⟩ (fun x=>rfl) (fun i hg1=>?_);focus (rfl)
  focus ((show some (Res.box _)=some (Res.box _);rw[hwb];rfl))
  focus (rfl)
  refine evc [] [2,7] ?_;refine sq ?_ ?_<;>intro h5 h5p h5s;try simp only[Q,List.length_take] at h5p
  refine sq ?_ ?_<;>intro h6 h6p h6s;try simp only[Q,List.length_take] at h6p
  refine xaT sl99 .none rfl rfl rfl rfl (zat (by omega)) rfl ?_;refine evd [] [] ?_;refine wc zt3 (zfZ (names:=names) (s:=nth (cutL 44 [] ((nth (cutL 40 [] (s.take (s.length-2))) 1).take ((nth (cutL 40 [] (s.take (s.length-2))) 1).length-1))) i) hn (by have:=zeo (c:=44) (s:=(nth (cutL 40 [] (s.take (s.length-2))) 1).take ((nth (cutL 40 [] (s.take (s.length-2))) 1).length-1)) (i:=i) (by omega);simp at this;omega)) rfl rfl ?_;refine si [0] [_] zaY tz25 ?_;refine ap zaY zz25 rfl rfl rfl (by simp) (by simp;omega) ?_;refine evd [] [] ?_;refine so zwD ?_;refine dr ?_;refine ar ?_;refine Exists.intro (i+1) ⟨⟨by omega,by omega⟩,(by omega),sx ⟨⟨_,rfl,xap ?_⟩,trivial⟩ ⟨?_,⟨zab ?_,trivial⟩⟩⟩;focus (rfl)
  focus ((show some (Res.box _)=some (Res.box _);rw[zgU (by omega)];simp;done))
  focus ((simp;omega))
  try simp only[Q,List.length_take] at h6p
  refine so zc9 ?_;refine tv ?_;refine rn0 (.cons (.cellA zc9 rfl rfl rfl) .nil) (.agg (.cons (.eqd ?_) (.cons (.gld ?_) (.cons (.eqd ?_) .nil))));rotate_left 3;try simp only[Q,List.length_take] at h5p
  refine sqF ?_;refine so zc9 ?_;refine tv ?_;refine rn0 (.cons (.cellA zc9 rfl rfl rfl) .nil) (.agg (.cons (.eqd ?_) (.cons (.gld ?_) (.cons (.eqd ?_) .nil))));rotate_left 3;try simp only[Q,List.length_take] at h2p
  exact absurd h2 (by simp);all_goals (unfold zcy;rw[if_pos hc];first|rfl|(rw[hwb];rfl)|(unfold zhw;dsimp only;by_cases hq:(cutL 40 [] (s.take (s.length-2))).length<2∨(nth (cutL 40 [] (s.take (s.length-2))) 1).length=0;all_goals first|(exfalso;exact(of_decide_eq_false h4) hq)|(exfalso;exact hq (of_decide_eq_true h4))|(rw[if_pos hq];done)|(rw[if_pos hq];rfl)|(rw[if_neg hq,←List.map_take,zpD (by omega)];done)))
 ·skip
  have hcl:=zen 40 (s) [];have hcp:=zja 40 (s) [];have hn1:=fun h=>zeo (c:=40) (s:=s) (i:=1) h;have hal:=zen 44 ((nth (cutL 40 [] (s)) 1).take ((nth (cutL 40 [] (s)) 1).length-1)) [];refine bd Tryz.f121 83 [] [2,7] fun w0 F0 own kept hk=>?_;refine ab 3004 zhh ?_;refine tv ?_;refine bu [] [] zwA ?_;refine ab 3005 zhh ?_;refine so zc9 ?_;refine tv ?_;refine xak ?_;refine xay 11 [(20,.d (.bool (false)))] [10,11,12,13,14,15,16,17,18,19] ?_ ?_;refine ev ?_;refine sq ?_ ?_<;>intro h1 h1p h1s;try simp only[Q,List.length_take] at h1p
  refine ar ?_;refine xaY (i:=s.length-2) un9 (.some rfl rfl h1) rfl rfl rfl (by omega) (zhU (by omega)) ?_;refine evs [] [(13,true)] ?_ ⟨⟨_,rfl,h1⟩,trivial⟩;exact jn rfl (xao (by(exact decide_eq_false (fun hh=>hc ⟨by omega,(zyI (b:=58)).1 hh⟩))));try simp only[Q,List.length_take] at h1p
  exact jn rfl (xao (by rfl));refine xax ?_;refine tv ?_;refine sq ?_ ?_<;>intro h2 h2p h2s;try simp only[Q,List.length_take] at h2p
  exact absurd h2 (by simp);try simp only[Q,List.length_take] at h2p
  refine wc zgx (zcq (s:=s) (c:=40) (by first|omega|(simp;omega))) rfl rfl ?_;refine ev ?_;refine xaT (i:=0) sl99 .none rfl rfl rfl rfl (zat (by omega)) rfl ?_;refine ev ?_;refine so ty9 ?_;refine tv ?_;refine xak ?_;refine xay 10 [(49,.d (.bool (decide ((cutL 40 [] (s)).length<2∨(nth (cutL 40 [] (s)) 1).length=0))))] [40,41,42,43,44,45,46,47,48] ?_ ?_;refine ev ?_;refine sq ?_ ?_<;>intro h3 h3p h3s;try simp only[Q,List.length_take] at h3p
  exact jn rfl (xao (by(refine(decide_eq_true ?_).symm;omega)));try simp only[Q,List.length_take] at h3p
  refine xaT (i:=1) sl99 (.some rfl rfl h3) rfl rfl rfl rfl (zat (by omega)) rfl ?_;refine evs [] [(43,false)] ?_ ⟨⟨_,rfl,h3⟩,trivial⟩;exact jn rfl (xao (by(refine decide_eq_decide.2 ?_;omega)));refine xax ?_;refine tv ?_;refine sq ?_ ?_<;>intro h4 h4p h4s;try simp only[Q,List.length_take] at h4p
  refine so zc9 ?_;refine tv ?_;refine rn0 (.cons (.cellA zc9 rfl rfl rfl) .nil) (.agg (.cons (.eqd ?_) (.cons (.nild ?_) (.cons (.eqd ?_) .nil))));rotate_left 3;try simp only[Q,List.length_take] at h4p
  refine xaT (i:=1) sl99 .none rfl rfl rfl rfl (zat (by omega)) rfl ?_;refine evd [] [] ?_;refine xaT (i:=1) sl99 .none rfl rfl rfl rfl (zat (by omega)) rfl ?_;refine evd [] [] ?_;refine ar ?_;refine xaK (b:=(nth (cutL 40 [] (s)) 1).length-1) un9 .none rfl rfl rfl (by omega) (by omega) ?_;refine wc zgx (zcq (s:=(nth (cutL 40 [] (s)) 1).take ((nth (cutL 40 [] (s)) 1).length-1)) (c:=44) (by simp;omega)) rfl rfl ?_;refine evd [] [] ?_;refine dr ?_;refine xam 3005 1 1 2 rfl rfl rfl rfl ?_;refine xaj (ι:=Nat) hk (fun i=>[(8,.d (.i (i:Int)))]) [61,62,63,64,65,66,67,68,69,70,71,72,73,74,75,76,77,78,79,80,81] (fun i=>[(3005,some (.box [.d (.str (nth (cutL 40 [] (s)) 0)),.gl 1 (((((cutL 44 [] ((nth (cutL 40 [] (s)) 1).take ((nth (cutL 40 [] (s)) 1).length-1))).map (zfo names)).take i)).map Ty.c),.d (.i (0))])),(1,some (.tok (((((cutL 44 [] ((nth (cutL 40 [] (s)) 1).take ((nth (cutL 40 [] (s)) 1).length-1))).map (zfo names)).take i)).map Ty.c).length 2))]) (fun i=>i≤4∧i≤(cutL 44 [] ((nth (cutL 40 [] (s)) 1).take ((nth (cutL 40 [] (s)) 1).length-1))).length) (fun i=>4-i) 0 ⟨by omega,by omega⟩ ⟨⟨_,rfl,xap ?_⟩,trivial⟩ ⟨?_,⟨zab ?_,trivial⟩⟩ (fun x=>rfl) (fun i hg1=>?_);focus (rfl)
  focus (rfl)
  focus (rfl)
  refine evc [] [2,7] ?_;refine sq ?_ ?_<;>intro h5 h5p h5s;try simp only[Q,List.length_take] at h5p
  refine sq ?_ ?_<;>intro h6 h6p h6s;try simp only[Q,List.length_take] at h6p
  refine xaT sl99 .none rfl rfl rfl rfl (zat (by omega)) rfl ?_;refine evd [] [] ?_;refine wc zt3 (zfZ (names:=names) (s:=nth (cutL 44 [] ((nth (cutL 40 [] (s)) 1).take ((nth (cutL 40 [] (s)) 1).length-1))) i) hn (by have:=zeo (c:=44) (s:=(nth (cutL 40 [] (s)) 1).take ((nth (cutL 40 [] (s)) 1).length-1)) (i:=i) (by omega);simp at this;omega)) rfl rfl ?_;refine si [0] [_] zaY tz25 ?_;refine ap zaY zz25 rfl rfl rfl (by simp) (by simp;omega) ?_;refine evd [] [] ?_;refine so zwD ?_;refine dr ?_;refine ar ?_;refine Exists.intro (i+1) ⟨⟨by omega,by omega⟩,(by omega),sx ⟨⟨_,rfl,xap ?_⟩,trivial⟩ ⟨?_,⟨zab ?_,trivial⟩⟩⟩;focus (rfl)
  focus ((show some (Res.box _)=some (Res.box _);rw[zgU (by omega)];simp;done))
  focus ((simp;omega))
  try simp only[Q,List.length_take] at h6p
  refine so zc9 ?_;refine tv ?_;refine rn0 (.cons (.cellA zc9 rfl rfl rfl) .nil) (.agg (.cons (.eqd ?_) (.cons (.gld ?_) (.cons (.eqd ?_) .nil))));rotate_left 3;try simp only[Q,List.length_take] at h5p
  refine sqF ?_;refine so zc9 ?_;refine tv ?_;refine rn0 (.cons (.cellA zc9 rfl rfl rfl) .nil) (.agg (.cons (.eqd ?_) (.cons (.gld ?_) (.cons (.eqd ?_) .nil))));rotate_left 3;all_goals (unfold zcy;rw[if_neg hc];first|rfl|(unfold zhw;dsimp only;by_cases hq:(cutL 40 [] (s)).length<2∨(nth (cutL 40 [] (s)) 1).length=0;all_goals first|(exfalso;exact(of_decide_eq_false h4) hq)|(exfalso;exact hq (of_decide_eq_true h4))|(rw[if_pos hq];done)|(rw[if_pos hq];rfl)|(rw[if_neg hq,←List.map_take,zpD (by omega)];done)))
def decV (n:Int):Str:=strN [IntKind.u8.wrap (48+n)]
theorem zlY (n:Int):(decV n).length=1:=rfl
def zkr (n:Int):Str:=if n=0 then [] else if n = -1 then [42] else decV n
theorem znb (n:Int):(zkr n).length≤1:=by unfold zkr;split;simp;split;simp;rw[zlY];omega
def zgM (w:List Data) (t:Ty):Str:=if t.data = -1 then [73] else (nth w t.data.toNat).name++zkr t.index
def zds (w:List Data):Bool→List Ty→Str
 |_,[]=>[]
 |b,t::r=>((if b then [40] else [44])++zgM w t)++zds w false r
def zcn (w:List Data) (c:Ctor):Str:=
 let o:=c.name++zds w true c.args
 let p:=if 0<c.args.length then o++[41] else o
 if 0<c.index then (p++[58])++decV c.index else p
def zb4 (w:List Data):Bool→List Ctor→Str
 |_,[]=>[]
 |b,c::r=>((if b then [] else [124])++zcn w c)++zb4 w false r
def ziF (w:List Data):Bool→List Data→Str
 |_,[]=>[]
 |b,d::r=>((if b then [] else [59])++(d.name++[61])++zb4 w true d.ctors)++ziF w false r
def zfu (w:List Data):Str:=ziF w true w
structure TB (w:List Data):Prop where
 len:w.length≤4
 dn:∀d∈w,d.name.length≤1∧d.ctors.length≤4
 cn:∀d∈w,∀c∈d.ctors,c.name.length≤5∧c.args.length≤3∧0≤c.index∧c.index≤3
 ar:∀d∈w,∀c∈d.ctors,∀t∈c.args,(t.data = -1∨(0≤t.data∧t.data.toNat<w.length))∧ -1≤t.index∧t.index≤3
theorem zv8 {w:List Data} (hv:za6 w=true):TB w:=by
 have hW:=(zcr w).1 hv;refine⟨hW.len,fun d hd=>?_,fun d hd c hc=>?_,fun d hd c hc t ht=>?_⟩
 ·have h:=hW.data d hd;have h1:=h.1;simp only[zbp,xad,decide_eq_true_eq] at h1;omega
 ·have h:=hW.ctor d hd c hc;simp only[zbC,zdj,zap,xad,decide_eq_true_eq] at h;omega
 ·have h:=hW.ctor d hd c hc;simp only[zbC,xad,Bool.not_eq_true',List.any_eq_false] at h;have hax:zbQ w.length t=true:=by
   have:=h.2.2.2 t ht;cases h:zbQ w.length t with
   |true=>rfl
   |false=>rw[h] at this;exact absurd rfl this
  simp only[zbQ,zap,Bool.or_eq_true,xad,decide_eq_true_eq,and_true] at hax;omega
theorem zhf {w:List Data} (hb:TB w){t:Ty} (ht:t.data = -1∨(0≤t.data∧t.data.toNat<w.length)):(zgM w t).length≤2:=by
 unfold zgM;split
 ·simp
 ·rename_i h;have h1:=(hb.dn _ (zaf (l:=w) (i:=t.data.toNat) (by omega))).1;have h2:=znb t.index;simp only[xaa];omega
theorem zht {w:List Data} (hb:TB w):∀(l:List Ty) (b:Bool),(∀t∈l,t.data = -1∨(0≤t.data∧t.data.toNat<w.length))→(zds w b l).length≤3*l.length
 | [],_,_=>by simp[zds]
 |t::r,b,h=>by
  have h1:=zhf hb (h t (by simp));have h2:=zht hb r false (fun x hx=>h x (by simp[hx]));simp only[zds,xaa,xab];have h3:(if b=true then [(40:UInt8)] else [44]).length=1:=by split<;>rfl
  omega
theorem zqF {w:List Data} (hb:TB w){c:Ctor} (h1:c.name.length≤5∧c.args.length≤3) (h2:∀t∈c.args,t.data = -1∨(0≤t.data∧t.data.toNat<w.length)):(zcn w c).length≤20:=by
 have h3:=zht hb c.args true h2;unfold zcn;dsimp only;have h4:=zlY c.index;split<;>split<;>simp only[xaa,xab,xah]<;>omega
theorem zlA {w:List Data}:∀(l:List Ctor) (b:Bool),(∀c∈l,(zcn w c).length≤20)→(zb4 w b l).length≤21*l.length
 | [],_,_=>by simp[zb4]
 |c::r,b,h=>by
  have h1:=h c (by simp);have h2:=zlA r false (fun x hx=>h x (by simp[hx]));simp only[zb4,xaa,xab];have h3:(if b=true then ([]:Str) else [124]).length≤1:=by split<;>simp
  omega
theorem zgi {n:Int} (h0:0≤n) (h9:n≤9):FnD Tryz.prog 215 [.d (.i n)] [] (.d (.str (decV n))) []:=by
 refine bd Tryz.f215 31 [30] [] fun w0 F0 own kept hk=>?_;refine sq ?_ ?_<;>intro h1 h1p h1s;try simp only[Q] at h1p
 exfalso;omega;try simp only[Q] at h1p
 refine sq ?_ ?_<;>intro h2 h2p h2s;try simp only[Q] at h2p
 exfalso;omega;try simp only[Q] at h2p
 refine xaj (ι:=Unit) hk (fun x=>[(0,.d (.i n)),(3,.d (.str []))]) [12,13,14,15,16,17,18,19,20,21,22,23] (fun x=>[]) (fun x=>True) (fun x=>0) () trivial ⟨⟨_,rfl,xap ?_⟩,⟨⟨_,rfl,xaq ?_⟩,trivial⟩⟩ trivial (fun x=>rfl) (fun x hg1=>?_);iterate 2 focus (first|rfl|omega)
 refine evc [30] [] ?_;refine sq ?_ ?_<;>intro h3 h3p h3s;try simp only[Q] at h3p
 exfalso;omega;try simp only[Q] at h3p
 refine ar ?_;refine xaJ (by rw[un3];rfl) un5 .none rfl rfl ?_;refine si [0] [_] sl22 tz5 ?_;refine Walk.bytesStr sl22 un9 (by kernel_rfl) .none rfl rfl rfl (by first|rfl|exact zps _) ?_;refine evs [30] [] ?_;refine xaH .none rfl rfl rfl (by simp[strN]) ?_;refine evs [30] [] ?_;refine rn0 (r1 rfl) (.eqd ?_);rotate_left;all_goals (rfl)
theorem znL {n:Int} (h0 : -1≤n) (h9:n≤9):FnD Tryz.prog 228 [.d (.i n)] [] (.d (.str (zkr n))) []:=by
 refine bd Tryz.f228 10 [] [] fun w0 F0 own kept hk=>?_;refine sq ?_ ?_<;>intro h1 h1p h1s;try simp only[Q] at h1p
 refine rn0 (r1 rfl) (.eqd ?_);rotate_left;try simp only[Q] at h1p
 refine sq ?_ ?_<;>intro h2 h2p h2s;try simp only[Q] at h2p
 refine rn0 (r1 rfl) (.eqd ?_);rotate_left;try simp only[Q] at h2p
 refine wc zqB (zgi (by omega) (by omega)) rfl rfl ?_;refine ev ?_;refine rn0 (r1 rfl) (.eqd ?_);rotate_left;all_goals (refine congrArg D.str ?_;unfold zkr;first|(rw[if_pos (by omega)];done)|(rw[if_neg (by omega),if_pos (by omega)];done)|(rw[if_neg (by omega),if_neg (by omega)];done)|(rw[if_pos (by omega)];rfl))
theorem ziT {w:List Data} (hb:TB w){a k:Int} (ha:a = -1∨(0≤a∧a.toNat<w.length)) (hk : -1≤k∧k≤3):FnD Tryz.prog 214 [.d (zam w),.agg [.d (.i a),.d (.i k)]] [] (.d (.str (zgM w ⟨a,k⟩))) []:=by
 have hl:=znb k;have hdn:a≠ -1→(nth w a.toNat).name.length≤1:=fun h=>(hb.dn _ (zaf (l:=w) (i:=a.toNat) (by omega))).1;refine bd Tryz.f214 18 [17] [] fun w0 F0 own kept hk=>?_;refine bx 3003 ?_;refine evs [17] [] ?_;refine sq ?_ ?_<;>intro h1 h1p h1s;try simp only[Q] at h1p
 refine rn0 (r1 rfl) (.eqd ?_);rotate_left;try simp only[Q] at h1p
 refine xaT (i:=a.toNat) sl23 .none rfl rfl rfl (by omega) (zat (by omega)) rfl ?_;refine evd [17] [] ?_;refine wc zxZ (znL (by omega) (by omega)) rfl rfl ?_;refine xaH .none rfl rfl rfl (by have:=hdn h1p;omega) ?_;refine evd [17] [] ?_;refine dr ?_;refine rn0 (r1 rfl) (.eqd ?_);rotate_left;all_goals (refine congrArg D.str ?_;unfold zgM;first|(rw[if_pos (by assumption)];done)|(rw[if_neg (by assumption)];done))
theorem zdo {w:List Data} (hb:TB w){s:Str}{l:List Ty}{k:Int} (hs:s.length≤5) (hl:l.length≤3) (hk:0≤k∧k≤3)
  (hl2:∀t∈l,(t.data = -1∨(0≤t.data∧t.data.toNat<w.length))∧ -1≤t.index∧t.index≤3):
  FnD Tryz.prog 177 [.d (zam w),.agg [.d (.str s),.d (zcl l),.d (.i k)]] [] (.d (.str (zcn w ⟨s,l,k⟩))) []:=by
 have hall:=zht hb l true (fun t ht=>(hl2 t ht).1);have hdl:=zlY k;refine bd Tryz.f177 47 [19,21,30,36,41,45] [] fun w0 F0 own kept hk=>?_;refine bx 3003 ?_;refine evs [19,21,30,36,41,45] [] ?_;refine xaj (ι:=List (Ty)×List (Ty)×(Str)) hk (fun x=>[(6,.d (.i (x.1.length:Int))),(5,.d (.str x.2.2))]) [9,10,11,12,13,14,15,16,17,18,19,20,21,22,23,24,25,26,27,28,29,30] (fun x=>[]) (fun x=>x.1++x.2.1=l∧x.2.2.length≤5+3*x.1.length∧x.2.2++zds w (decide (x.1.length=0)) x.2.1=s++zds w true l) (fun x=>x.2.1.length) ([],l,s) ⟨by simp,by simp;omega,by simp⟩ ⟨⟨_,rfl,xap ?_⟩,⟨⟨_,rfl,xaq ?_⟩,trivial⟩⟩ trivial (fun x=>rfl) (fun x hg1=>?_);iterate 2 focus (first|rfl|(dsimp only;rw[if_pos (by omega),List.append_assoc];done))
 obtain⟨pre,rest,o⟩:=x;dsimp only at hg1 ⊢;refine evc [19,21,30,36,41,45] [] ?_;refine sq ?_ ?_<;>intro h1 h1p h1s;try simp only[Q] at h1p
 rcases rest with _|⟨y,rest⟩
 ·exfalso;simp_all
 have hq:(zgM w ⟨y.data,y.index⟩).length≤2:=zhf hb (hl2 y (by rw[←hg1.1];simp)).1;refine sq ?_ ?_<;>intro h2 h2p h2s;try simp only[Q] at h2p
 refine xaH .none rfl rfl rfl (by have hz:=congrArg List.length hg1.1;simp only[xaa,xab,xah] at hz ⊢;omega) ?_;refine evs [19,21,30,36,41,45] [] ?_;refine xaT zaY .none rfl rfl rfl rfl (zaL hg1.1) rfl ?_;refine evs [19,21,30,36,41,45] [] ?_;refine wc zua (ziT hb (a:=y.data) (k:=y.index) (hl2 y (by rw[←hg1.1];simp)).1 (hl2 y (by rw[←hg1.1];simp)).2) rfl rfl ?_;refine xaH .none rfl rfl rfl (by have hz:=congrArg List.length hg1.1;simp only[xaa,xab,xah] at hz ⊢;omega) ?_;refine evs [19,21,30,36,41,45] [] ?_;refine ar ?_;refine Exists.intro ((pre++[y],rest,o++((if pre.length=0 then [40] else [44])++zgM w y))) ⟨⟨(by have hz:=hg1.1;rw[←hz];simp),⟨(by have hq:=zhf hb (hl2 y (by rw[←hg1.1];simp)).1;have h3:(if pre.length=0 then [(40:UInt8)] else [44]).length=1:=(by split<;>rfl);simp only[xaa,xab,xah];omega),(by rw[←hg1.2.2];simp[zds])⟩⟩,(by simp),sx ⟨⟨_,rfl,xap ?_⟩,⟨⟨_,rfl,xaq ?_⟩,trivial⟩⟩ trivial⟩;iterate 2 focus (first|(simp;done)|(dsimp only;rw[if_pos (by omega),List.append_assoc];done))
 try simp only[Q] at h2p
 refine xaH .none rfl rfl rfl (by have hz:=congrArg List.length hg1.1;simp only[xaa,xab,xah] at hz ⊢;omega) ?_;refine evs [19,21,30,36,41,45] [] ?_;refine xaT zaY .none rfl rfl rfl rfl (zaL hg1.1) rfl ?_;refine evs [19,21,30,36,41,45] [] ?_;refine wc zua (ziT hb (a:=y.data) (k:=y.index) (hl2 y (by rw[←hg1.1];simp)).1 (hl2 y (by rw[←hg1.1];simp)).2) rfl rfl ?_;refine xaH .none rfl rfl rfl (by have hz:=congrArg List.length hg1.1;simp only[xaa,xab,xah] at hz ⊢;omega) ?_;refine evs [19,21,30,36,41,45] [] ?_;refine ar ?_;refine Exists.intro ((pre++[y],rest,o++((if pre.length=0 then [40] else [44])++zgM w y))) ⟨⟨(by have hz:=hg1.1;rw[←hz];simp),⟨(by have hq:=zhf hb (hl2 y (by rw[←hg1.1];simp)).1;have h3:(if pre.length=0 then [(40:UInt8)] else [44]).length=1:=(by split<;>rfl);simp only[xaa,xab,xah];omega),(by rw[←hg1.2.2];simp[zds])⟩⟩,(by simp),sx ⟨⟨_,rfl,xap ?_⟩,⟨⟨_,rfl,xaq ?_⟩,trivial⟩⟩ trivial⟩;iterate 2 focus (first|(simp;done)|(dsimp only;rw[if_pos (by omega),List.append_assoc];done)|(dsimp only;rw[if_neg (by omega),List.append_assoc];done))
 try simp only[Q] at h1p
 have hrest:rest=[]:=by
  rcases rest with _|⟨a,b⟩
  ·rfl
  ·exfalso;have hz:=congrArg List.length (hg1.1);simp only[xaa,xab,xac] at hz;omega
 subst hrest;refine sq ?_ ?_<;>intro h3 h3p h3s;try simp only[Q] at h3p
 refine xaH .none rfl rfl rfl (by have hz:=congrArg List.length hg1.1;simp only[xaa,xab,xah] at hz ⊢;omega) ?_;refine evs [19,21,30,36,41,45] [] ?_;refine sq ?_ ?_<;>intro h4 h4p h4s;try simp only[Q] at h4p
 refine xaH .none rfl rfl rfl (by have hz:=congrArg List.length hg1.1;simp only[xaa,xab,xah] at hz ⊢;omega) ?_;refine evs [19,21,30,36,41,45] [] ?_;refine wc zqB (zgi (by omega) (by omega)) rfl rfl ?_;refine xaH .none rfl rfl rfl (by have hz:=congrArg List.length hg1.1;simp only[xaa,xab,xah] at hz ⊢;omega) ?_;refine evs [19,21,30,36,41,45] [] ?_;refine rn0 (r1 rfl) (.eqd ?_);rotate_left;try simp only[Q] at h4p
 refine rn0 (r1 rfl) (.eqd ?_);rotate_left;try simp only[Q] at h3p
 refine sq ?_ ?_<;>intro h5 h5p h5s;try simp only[Q] at h5p
 refine xaH .none rfl rfl rfl (by have hz:=congrArg List.length hg1.1;simp only[xaa,xab,xah] at hz ⊢;omega) ?_;refine evs [19,21,30,36,41,45] [] ?_;refine wc zqB (zgi (by omega) (by omega)) rfl rfl ?_;refine xaH .none rfl rfl rfl (by have hz:=congrArg List.length hg1.1;simp only[xaa,xab,xah] at hz ⊢;omega) ?_;refine evs [19,21,30,36,41,45] [] ?_;refine rn0 (r1 rfl) (.eqd ?_);rotate_left;try simp only[Q] at h5p
 refine rn0 (r1 rfl) (.eqd ?_);rotate_left;all_goals (refine congrArg D.str ?_;have hfin:=hg1.2.2;simp only[zds,List.append_nil] at hfin;unfold zcn;dsimp only;rw[←hfin];first|(rw[if_pos (by omega),if_pos (by simp at *;omega)];done)|(rw[if_pos (by omega),if_neg (by simp at *;omega)];done)|(rw[if_neg (by omega),if_pos (by simp at *;omega)];done)|(rw[if_neg (by omega),if_neg (by simp at *;omega)];done))
theorem zoE {w:List Data} (hb:TB w):FnD Tryz.prog 123 [.d (zam w)] [] (.d (.str (zfu w))) []:=by
 have hwl:=hb.len;have hct:∀d∈w,∀c∈d.ctors,(zcn w c).length≤20:=fun d hd c hc=>zqF hb ⟨(hb.cn d hd c hc).1,(hb.cn d hd c hc).2.1⟩ (fun t ht=>(hb.ar d hd c hc t ht).1);refine bd Tryz.f123 51 [15,22,23,37,49] [] fun w0 F0 own kept hk=>?_;refine xaj (ι:=List (Data)×List (Data)×(Str)) hk (fun x=>[(4,.d (.i (x.1.length:Int))),(3,.d (.str x.2.2))]) [5,6,7,8,9,10,11,12,13,14,15,16,17,18,19,20,21,22,23,24,25,26,27,28,29,30,31,32,33,34,35,36,37,38,39,40,41,42,43,44,45,46,47,48,49] (fun x=>[]) (fun x=>x.1++x.2.1=w∧x.2.2.length≤100*x.1.length∧x.2.2++ziF w (decide (x.1.length=0)) x.2.1=zfu w) (fun x=>x.2.1.length) ([],w,[]) ⟨by simp,by simp,by simp[zfu]⟩ ⟨⟨_,rfl,xap ?_⟩,⟨⟨_,rfl,xaq ?_⟩,trivial⟩⟩ trivial (fun x=>rfl) (fun x hg1=>?_);iterate 2 focus (first|rfl|(rw[hfin];simp;done))
 obtain⟨pre,rest,o⟩:=x;dsimp only at hg1 ⊢;refine evc [15,22,23,37,49] [] ?_;refine sq ?_ ?_<;>intro h1 h1p h1s;try simp only[Q] at h1p
 rcases rest with _|⟨y,rest⟩
 ·exfalso;simp_all
 have hym:y∈w:=(by rw[←hg1.1];simp);have hyd:=hb.dn y hym;have hpl:pre.length<4:=(by omega);have hcl:=zlA (w:=w) y.ctors true (hct y hym);refine sq ?_ ?_<;>intro h2 h2p h2s;try simp only[Q] at h2p
 refine xaH .none rfl rfl rfl (by(try simp only[xaa,xab,xah]);omega) ?_;refine evs [15,22,23,37,49] [] ?_;refine xaT sl23 .none rfl rfl rfl rfl (zaL hg1.1) rfl ?_;refine evs [15,22,23,37,49] [] ?_;refine xaH .none rfl rfl rfl (by(try simp only[xaa,xab,xah]);omega) ?_;refine xaH .none rfl rfl rfl (by(try simp only[xaa,xab,xah]);omega) ?_;refine evs [15,22,23,37,49] [] ?_;refine xaj (ι:=List (Ctor)×List (Ctor)×(Str)) hk (fun x=>[(5,.d (.i (x.1.length:Int))),(3,.d (.str x.2.2))]) [24,25,26,27,28,29,30,31,32,33,34,35,36,37,38,39,40,41,42,43,44,45,46,47,48,49] (fun x=>[]) (fun x=>x.1++x.2.1=y.ctors∧x.2.2.length≤100*pre.length+4+21*x.1.length∧x.2.2++zb4 w (decide (x.1.length=0)) x.2.1=(o++((if pre.length=0 then [] else [59])++(y.name++[61])))++zb4 w true y.ctors) (fun x=>x.2.1.length) ([],y.ctors,o++((if pre.length=0 then [] else [59])++(y.name++[61]))) ⟨by simp,(by have h3:(if pre.length=0 then ([]:Str) else [59]).length≤1:=(by split<;>simp);simp only[xaa,xab,xah];omega),by simp⟩ ⟨⟨_,rfl,xap ?_⟩,⟨⟨_,rfl,xaq ?_⟩,trivial⟩⟩ trivial (fun x=>rfl) (fun x hg2=>?_);iterate 2 focus (first|rfl|(rw[if_neg (by omega)];simp;done))
 obtain⟨pre2,rest2,q⟩:=x;dsimp only at hg2 ⊢;refine evc [15,22,23,37,49] [] ?_;refine xaT sl23 .none rfl rfl rfl rfl (zaL hg1.1) rfl ?_;refine evs [15,22,23,37,49] [] ?_;refine sq ?_ ?_<;>intro h3 h3p h3s;try simp only[Q] at h3p
 rcases rest2 with _|⟨c,rest2⟩
 ·exfalso;simp_all
 have hcm:=hct y hym c (by rw[←hg2.1];simp);have hce:(zcn w ⟨c.name,c.args,c.index⟩).length≤20:=hcm;have hp2:=congrArg List.length hg2.1;simp only[xaa,xab] at hp2;refine sq ?_ ?_<;>intro h4 h4p h4s;try simp only[Q] at h4p
 refine xaH .none rfl rfl rfl (by(try simp only[xaa,xab,xah]);omega) ?_;refine evs [15,22,23,37,49] [] ?_;refine xaT sl23 .none rfl rfl rfl rfl (zaL hg1.1) rfl ?_;refine evs [15,22,23,37,49] [] ?_;refine xaT zcE .none rfl rfl rfl rfl (zaL hg2.1) rfl ?_;refine evs [15,22,23,37,49] [] ?_;refine wc zmI (zdo hb (s:=c.name) (l:=c.args) (k:=c.index) (hb.cn y hym c (by rw[←hg2.1];simp)).1 (hb.cn y hym c (by rw[←hg2.1];simp)).2.1 (hb.cn y hym c (by rw[←hg2.1];simp)).2.2 (hb.ar y hym c (by rw[←hg2.1];simp))) rfl rfl ?_;refine xaH .none rfl rfl rfl (by(try simp only[xaa,xab,xah]);omega) ?_;refine evs [15,22,23,37,49] [] ?_;refine ar ?_;refine Exists.intro ((pre2++[c],rest2,q++((if pre2.length=0 then [] else [124])++zcn w c))) ⟨⟨(by have hz:=hg2.1;rw[←hz];simp),⟨(by have h3:(if pre2.length=0 then ([]:Str) else [124]).length≤1:=(by split<;>simp);simp only[xaa,xab,xah];omega),(by rw[←hg2.2.2];simp[zb4])⟩⟩,(by simp),sx ⟨⟨_,rfl,xap ?_⟩,⟨⟨_,rfl,xaq ?_⟩,trivial⟩⟩ trivial⟩;iterate 2 focus (first|rfl|(rw[if_neg (by omega)];simp;done))
 try simp only[Q] at h4p
 refine xaT sl23 .none rfl rfl rfl rfl (zaL hg1.1) rfl ?_;refine evs [15,22,23,37,49] [] ?_;refine xaT zcE .none rfl rfl rfl rfl (zaL hg2.1) rfl ?_;refine evs [15,22,23,37,49] [] ?_;refine wc zmI (zdo hb (s:=c.name) (l:=c.args) (k:=c.index) (hb.cn y hym c (by rw[←hg2.1];simp)).1 (hb.cn y hym c (by rw[←hg2.1];simp)).2.1 (hb.cn y hym c (by rw[←hg2.1];simp)).2.2 (hb.ar y hym c (by rw[←hg2.1];simp))) rfl rfl ?_;refine xaH .none rfl rfl rfl (by(try simp only[xaa,xab,xah]);omega) ?_;refine evs [15,22,23,37,49] [] ?_;refine ar ?_;refine Exists.intro ((pre2++[c],rest2,q++((if pre2.length=0 then [] else [124])++zcn w c))) ⟨⟨(by have hz:=hg2.1;rw[←hz];simp),⟨(by have h3:(if pre2.length=0 then ([]:Str) else [124]).length≤1:=(by split<;>simp);simp only[xaa,xab,xah];omega),(by rw[←hg2.2.2];simp[zb4])⟩⟩,(by simp),sx ⟨⟨_,rfl,xap ?_⟩,⟨⟨_,rfl,xaq ?_⟩,trivial⟩⟩ trivial⟩;iterate 2 focus (first|rfl|(rw[if_neg (by omega)];simp;done)|(rw[if_pos (by omega)];simp;done))
 try simp only[Q] at h3p
 have hrest2:rest2=[]:=by
  rcases rest2 with _|⟨a,b⟩
  ·rfl
  ·exfalso;have hz:=congrArg List.length (hg2.1);simp only[xaa,xab,xac] at hz;omega
 subst hrest2;refine ar ?_;have hfin:=hg2.2.2;simp only[zb4,List.append_nil] at hfin;refine Exists.intro ((pre++[y],rest,o++((if pre.length=0 then [] else [59])++(y.name++[61])++zb4 w true y.ctors))) ⟨⟨(by have hz:=hg1.1;rw[←hz];simp),⟨(by have h3:(if pre.length=0 then ([]:Str) else [59]).length≤1:=(by split<;>simp);simp only[xaa,xab,xah];omega),(by rw[←hg1.2.2];simp[ziF])⟩⟩,(by simp),sx ⟨⟨_,rfl,xap ?_⟩,⟨⟨_,rfl,xaq ?_⟩,trivial⟩⟩ trivial⟩;iterate 2 focus (first|rfl|(simp;done)|(rw[hfin];simp;done))
 try simp only[Q] at h2p
 refine xaT sl23 .none rfl rfl rfl rfl (zaL hg1.1) rfl ?_;refine evs [15,22,23,37,49] [] ?_;refine xaH .none rfl rfl rfl (by(try simp only[xaa,xab,xah]);omega) ?_;refine xaH .none rfl rfl rfl (by(try simp only[xaa,xab,xah]);omega) ?_;refine evs [15,22,23,37,49] [] ?_;refine xaj (ι:=List (Ctor)×List (Ctor)×(Str)) hk (fun x=>[(5,.d (.i (x.1.length:Int))),(3,.d (.str x.2.2))]) [24,25,26,27,28,29,30,31,32,33,34,35,36,37,38,39,40,41,42,43,44,45,46,47,48,49] (fun x=>[]) (fun x=>x.1++x.2.1=y.ctors∧x.2.2.length≤100*pre.length+4+21*x.1.length∧x.2.2++zb4 w (decide (x.1.length=0)) x.2.1=(o++((if pre.length=0 then [] else [59])++(y.name++[61])))++zb4 w true y.ctors) (fun x=>x.2.1.length) ([],y.ctors,o++((if pre.length=0 then [] else [59])++(y.name++[61]))) ⟨by simp,(by have h3:(if pre.length=0 then ([]:Str) else [59]).length≤1:=(by split<;>simp);simp only[xaa,xab,xah];omega),by simp⟩ ⟨⟨_,rfl,xap ?_⟩,⟨⟨_,rfl,xaq ?_⟩,trivial⟩⟩ trivial (fun x=>rfl) (fun x hg2=>?_);iterate 2 focus (first|rfl|(rw[if_neg (by omega)];simp;done)|(rw[if_pos (by omega)];simp;done))
 obtain⟨pre2,rest2,q⟩:=x;dsimp only at hg2 ⊢;refine evc [15,22,23,37,49] [] ?_;refine xaT sl23 .none rfl rfl rfl rfl (zaL hg1.1) rfl ?_;refine evs [15,22,23,37,49] [] ?_;refine sq ?_ ?_<;>intro h5 h5p h5s;try simp only[Q] at h5p
 rcases rest2 with _|⟨c,rest2⟩
 ·exfalso;simp_all
 have hcm:=hct y hym c (by rw[←hg2.1];simp);have hce:(zcn w ⟨c.name,c.args,c.index⟩).length≤20:=hcm;have hp2:=congrArg List.length hg2.1;simp only[xaa,xab] at hp2;refine sq ?_ ?_<;>intro h6 h6p h6s;try simp only[Q] at h6p
 refine xaH .none rfl rfl rfl (by(try simp only[xaa,xab,xah]);omega) ?_;refine evs [15,22,23,37,49] [] ?_;refine xaT sl23 .none rfl rfl rfl rfl (zaL hg1.1) rfl ?_;refine evs [15,22,23,37,49] [] ?_;refine xaT zcE .none rfl rfl rfl rfl (zaL hg2.1) rfl ?_;refine evs [15,22,23,37,49] [] ?_;refine wc zmI (zdo hb (s:=c.name) (l:=c.args) (k:=c.index) (hb.cn y hym c (by rw[←hg2.1];simp)).1 (hb.cn y hym c (by rw[←hg2.1];simp)).2.1 (hb.cn y hym c (by rw[←hg2.1];simp)).2.2 (hb.ar y hym c (by rw[←hg2.1];simp))) rfl rfl ?_;refine xaH .none rfl rfl rfl (by(try simp only[xaa,xab,xah]);omega) ?_;refine evs [15,22,23,37,49] [] ?_;refine ar ?_;refine Exists.intro ((pre2++[c],rest2,q++((if pre2.length=0 then [] else [124])++zcn w c))) ⟨⟨(by have hz:=hg2.1;rw[←hz];simp),⟨(by have h3:(if pre2.length=0 then ([]:Str) else [124]).length≤1:=(by split<;>simp);simp only[xaa,xab,xah];omega),(by rw[←hg2.2.2];simp[zb4])⟩⟩,(by simp),sx ⟨⟨_,rfl,xap ?_⟩,⟨⟨_,rfl,xaq ?_⟩,trivial⟩⟩ trivial⟩;iterate 2 focus (first|rfl|(rw[if_neg (by omega)];simp;done))
 try simp only[Q] at h6p
 refine xaT sl23 .none rfl rfl rfl rfl (zaL hg1.1) rfl ?_;refine evs [15,22,23,37,49] [] ?_;refine xaT zcE .none rfl rfl rfl rfl (zaL hg2.1) rfl ?_;refine evs [15,22,23,37,49] [] ?_;refine wc zmI (zdo hb (s:=c.name) (l:=c.args) (k:=c.index) (hb.cn y hym c (by rw[←hg2.1];simp)).1 (hb.cn y hym c (by rw[←hg2.1];simp)).2.1 (hb.cn y hym c (by rw[←hg2.1];simp)).2.2 (hb.ar y hym c (by rw[←hg2.1];simp))) rfl rfl ?_;refine xaH .none rfl rfl rfl (by(try simp only[xaa,xab,xah]);omega) ?_;refine evs [15,22,23,37,49] [] ?_;refine ar ?_;refine Exists.intro ((pre2++[c],rest2,q++((if pre2.length=0 then [] else [124])++zcn w c))) ⟨⟨(by have hz:=hg2.1;rw[←hz];simp),⟨(by have h3:(if pre2.length=0 then ([]:Str) else [124]).length≤1:=(by split<;>simp);simp only[xaa,xab,xah];omega),(by rw[←hg2.2.2];simp[zb4])⟩⟩,(by simp),sx ⟨⟨_,rfl,xap ?_⟩,⟨⟨_,rfl,xaq ?_⟩,trivial⟩⟩ trivial⟩;iterate 2 focus (first|rfl|(rw[if_neg (by omega)];simp;done)|(rw[if_pos (by omega)];simp;done))
 try simp only[Q] at h5p
 have hrest2:rest2=[]:=by
  rcases rest2 with _|⟨a,b⟩
  ·rfl
  ·exfalso;have hz:=congrArg List.length (hg2.1);simp only[xaa,xab,xac] at hz;omega
 subst hrest2;refine ar ?_;have hfin:=hg2.2.2;simp only[zb4,List.append_nil] at hfin;refine Exists.intro ((pre++[y],rest,o++((if pre.length=0 then [] else [59])++(y.name++[61])++zb4 w true y.ctors))) ⟨⟨(by have hz:=hg1.1;rw[←hz];simp),⟨(by have h3:(if pre.length=0 then ([]:Str) else [59]).length≤1:=(by split<;>simp);simp only[xaa,xab,xah];omega),(by rw[←hg1.2.2];simp[ziF])⟩⟩,(by simp),sx ⟨⟨_,rfl,xap ?_⟩,⟨⟨_,rfl,xaq ?_⟩,trivial⟩⟩ trivial⟩;iterate 2 focus (first|rfl|(simp;done)|(rw[hfin];simp;done))
 try simp only[Q] at h1p
 have hrest:rest=[]:=by
  rcases rest with _|⟨a,b⟩
  ·rfl
  ·exfalso;have hz:=congrArg List.length (hg1.1);simp only[xaa,xab,xac] at hz;omega
 subst hrest;refine rn0 (r1 rfl) (.eqd ?_);rotate_left;all_goals (refine congrArg D.str ?_;have hfin:=hg1.2.2;simp only[ziF,List.append_nil] at hfin;exact hfin)
def pwL (s:Str):List Str:=cutL 59 [] s
def pwP (s:Str) (i:Nat):List Str:=cutL 61 [] (nth (pwL s) i)
def pwC (s:Str) (i:Nat):List Str:=cutL 124 [] (nth (pwP s i) 1)
def zbz (s:Str):Nat:=if s=[] then 0 else min (pwL s).length 5
def zcC (s:Str) (n:Nat):List Str:=(List.range n).map fun i=>nth (pwP s i) 0
def zkG (s:Str) (i:Nat):Data:=⟨nth (pwP s i) 0,((pwC s i).take 5).map (zcy (zcC s (zbz s)))⟩
def zcO (s:Str) (n:Nat):List Data:=(List.range n).map (zkG s)
def zhN (s:Str):Bool:=(List.range (zbz s)).all (fun i=>decide ((pwP s i).length=2))&&(za6 (zcO s (zbz s))&&decide (zfu (zcO s (zbz s))=s))
def zdl (s:Str):List Data×Bool:=if zhN s then (zcO s (zbz s),true) else ([],false)
theorem zro (s:Str):zbz s≤(pwL s).length∧zbz s≤5:=by unfold zbz;split<;>omega
theorem zeu {s:Str}{i:Nat}:i<zbz s↔(i<(pwL s).length∧i≤4)∧s≠[]:=by
 unfold zbz;split
 ·rename_i h;simp[h]
 ·rename_i h;simp only[h,ne_eq,not_false_eq_true,and_true];omega
theorem za3 (s:Str) (n:Nat):(zcC s n).length=n:=by simp[zcC]
theorem zrp (s:Str) (n:Nat):zcC s (n+1)=zcC s n++[nth (pwP s n) 0]:=by unfold zcC;rw[List.range_succ,xaf];rfl
theorem znx (s:Str) (n:Nat):zcO s (n+1)=zcO s n++[zkG s n]:=by unfold zcO;rw[List.range_succ,xaf];rfl
theorem zw0 {s:Str}{n m:Nat} (h:m<n):((zcC s n).map fun n=>[D.str n])[m]?=some [D.str (nth (pwP s m) 0)]:=by
 simp[zcC,h]
theorem zsI {s:Str}{i:Nat} (h:i<(pwL s).length):(nth (pwL s) i).length≤s.length:=zeo h
theorem zlh {s:Str}{i j:Nat} (h:i<(pwL s).length) (hj:j<(pwP s i).length):(nth (pwP s i) j).length≤s.length:=Nat.le_trans (zeo hj) (zsI h)
theorem zw6 {s:Str}{i k:Nat} (h:k<(pwC s i).length):(nth (pwC s i) k).length≤(nth (pwP s i) 1).length:=zeo h
theorem zu5 {α:Type}{l:List α}{i:Nat} (h:i=5∨(i≤5∧l.length≤i)):l.take i=l.take 5:=by
 rcases h with rfl|⟨h1,h2⟩
 ·rfl
 ·rw[List.take_of_length_le h2,List.take_of_length_le (by omega)]
theorem ztv {c:UInt8}{s:Str}:(nth (cutL c [] s) 0).length≤s.length:=zeo (zja c s [])
theorem zrg {names:List Str}{s:Str}:(zcy names s).name.length≤s.length∧(zcy names s).args.length≤4:=by
 have key:∀(ix:Int) (t:Str),(zhw names ix t).name.length≤t.length∧(zhw names ix t).args.length≤4:=by
  intro ix t;refine⟨ztv, ?_⟩;unfold zhw;dsimp only;split
  ·simp
  ·simp only[xac,List.length_take];omega
 unfold zcy;split
 ·have:=key (((nth s (s.length-1)).toNat:Int)-48) (s.take (s.length-2));rw[List.length_take] at this;omega
 ·exact key 0 s
theorem zuN {s:Str} (hs:s.length≤1000000) (h2:∀j,j<zbz s→(pwP s j).length=2):WSmall (zcO s (zbz s)):=by
 have hl:=zro s;have hd:∀d∈zcO s (zbz s),∃i,i<zbz s∧d=zkG s i:=fun d hd=>by
  obtain⟨i,hi,rfl⟩:=List.mem_map.1 hd;exact⟨i,List.mem_range.1 hi,rfl⟩
 refine⟨by simp only[zcO,xac,List.length_range];omega,fun d hd'=>?_,fun d hd' c hc=>?_⟩
 ·obtain⟨i,hi,rfl⟩:=hd d hd';have:=zlh (s:=s) (i:=i) (j:=0) (by omega) (by rw[h2 i hi];omega);refine⟨?_, ?_⟩
  ·show(nth (pwP s i) 0).length≤_;omega
  ·simp only[zkG,xac,List.length_take];omega
 ·obtain⟨i,hi,rfl⟩:=hd d hd';obtain⟨t,ht,rfl⟩:=List.mem_map.1 hc;have h3:=zlh (s:=s) (i:=i) (j:=1) (by omega) (by rw[h2 i hi];omega);have h4:t.length≤(nth (pwP s i) 1).length:=by simpa using zi9 124 (nth (pwP s i) 1) [] t (List.mem_of_mem_take ht)
  have h5:=zrg (names:=zcC s (zbz s)) (s:=t);omega
theorem zyz {s:Str} (hs:s.length≤1000000):FnD Tryz.prog 120 [.d (.str s),.d (.int .u8 59)] [] (.d (zff (pwL s))) []:=zcq (s:=s) (c:=59) (by omega)
theorem zwn {s:Str}{i:Nat} (hs:s.length≤1000000) (h:i<(pwL s).length):FnD Tryz.prog 120 [.d (.str (nth (pwL s) i)),.d (.int .u8 61)] [] (.d (zff (pwP s i))) []:=zcq (s:=nth (pwL s) i) (c:=61) (by have:=zsI h;omega)
theorem zyy {s:Str}{i:Nat} (hs:s.length≤1000000) (h:i<(pwL s).length) (h2:(pwP s i).length=2):FnD Tryz.prog 120 [.d (.str (nth (pwP s i) 1)),.d (.int .u8 124)] [] (.d (zff (pwC s i))) []:=
 zcq (s:=nth (pwP s i) 1) (c:=124) (by have:=zlh (j:=1) h (by omega);omega)
theorem zlt {w:List Data} (hs:WSmall w):FnD Tryz.prog 122 [.d (zam w)] [] (.d (.bool (za6 w))) []:=by
 rw[←zg3];exact zgI hs
theorem zsx {s:Str} (h:zhN s=false):zdl s=([],false):=by unfold zdl;rw[if_neg (by rw[h];simp)]
theorem zvv {s:Str} (h:zhN s=true):zdl s=(zcO s (zbz s),true):=by unfold zdl;rw[if_pos h]
theorem zvu {s:Str}{i:Nat} (h:i<zbz s) (h2:¬(pwP s i).length=2):zhN s=false:=by
 unfold zhN;rw[zde h (by simpa using h2),Bool.false_and]
theorem zo6 {s:Str} (h:∀j,j<zbz s→(pwP s j).length=2):zhN s=(za6 (zcO s (zbz s))&&decide (zfu (zcO s (zbz s))=s)):=by
 unfold zhN;rw[zdE (fun i hi=>by simpa using h i hi),Bool.true_and]
theorem zkW {s:Str} (hs:s.length≤100000):FnD Tryz.prog 70 [.d (.str s)] [] (.tup [.d (zam (zdl s).1),.d (.bool (zdl s).2)]) []:=by
 have hl:=zro s;have hcl:(pwL s).length≤s.length+1:=zen 59 s [];have hccl:∀i,(pwC s i).length≤(nth (pwP s i) 1).length+1:=fun i=>zen 124 _ [];have hnl:=za3 s;refine bd Tryz.f70 101 [] [5,17,21] fun w0 F0 own kept hk=>?_;refine xbh 1 sl23 .none rfl rfl ?_;refine ev ?_;refine xbh 2 sl99 .none rfl rfl ?_;refine ev ?_;refine wc zgx (zyz (s:=s) (by omega)) rfl rfl ?_;refine ev ?_;refine xaj (ι:=Nat) hk (fun i=>[(7,.d (.i (i:Int))),(5,.gl 2 ((zcC s i).map fun n=>[D.str n]))]) [2,3,8,17,18,19,20,21,22,23,24,25,26,27,28,29,30,31,32,33,34,35,36,37,38,39,40,41,42,43,44,45] (fun i=>[(2,some (.tok (((zcC s i).map fun n=>[D.str n])).length 1))]) (fun i=>i≤zbz s∧∀j,j<i→(pwP s j).length=2) (fun i=>zbz s-i) 0 ⟨by omega,fun j h=>absurd h (by omega)⟩ ⟨⟨_,rfl,xap ?_⟩,⟨⟨_,rfl,LeA.glg ?_⟩,trivial⟩⟩ ⟨zab ?_,trivial⟩ (fun x=>rfl) (fun i hg1=>?_);iterate 3 focus (rfl)
 refine evc [] [5,17,21] ?_;refine xak ?_;refine xay 12 [(28,.d (.bool (decide (i<zbz s))))] [17,18,19,20,21,22,23,24,25,26,27] ?_ ?_;refine ev ?_;refine sq ?_ ?_<;>intro h1 h1p h1s;try simp only[Q,za3] at h1p
 refine sq ?_ ?_<;>intro h2 h2p h2s;try simp only[Q,za3] at h2p
 focus (exact jn rfl (xao (by(rw[Bool.eq_iff_iff];simp_all[zeu];omega))))
 try simp only[Q,za3] at h2p
 focus (exact jn rfl (xao (by(rw[Bool.eq_iff_iff];simp_all[zeu];omega))))
 try simp only[Q,za3] at h1p
 refine sqF ?_;focus (exact jn rfl (xao (by(rw[Bool.eq_iff_iff];simp_all[zeu];omega))))
 refine xax ?_;refine tv ?_;refine sq ?_ ?_<;>intro h3 h3p h3s;try simp only[Q,za3] at h3p
 refine xaT sl99 .none rfl rfl rfl rfl (zat (by omega)) rfl ?_;refine ev ?_;refine wc zgx (zwn (s:=s) (i:=i) (by omega) (by omega)) rfl rfl ?_;refine ev ?_;refine sq ?_ ?_<;>intro h4 h4p h4s;try simp only[Q,za3] at h4p
 refine xbg sl23 .none rfl ?_;refine ev ?_;refine rn0 (r2 rfl rfl) (.tup (.cons (.eqd ?_) (.cons (.eqd ?_) .nil)));rotate_left 2;try simp only[Q,za3] at h4p
 refine xaT (i:=0) sl99 .none rfl rfl rfl rfl (zat (by omega)) rfl ?_;refine ev ?_;refine si [0] [_] sl99 tz9 ?_;refine ap sl99 zz9 rfl rfl rfl (by simp) (by simp[za3,zcO];omega) ?_;refine ev ?_;refine ar ?_;refine Exists.intro (i+1) ⟨⟨by omega,zbe hg1.2 (by omega)⟩,(by omega),sx ⟨⟨_,rfl,xap ?_⟩,⟨⟨_,rfl,LeA.glg ?_⟩,trivial⟩⟩ ⟨zab ?_,trivial⟩⟩;iterate 3 focus (first|rfl|(rw[zrp];simp;done))
 try simp only[Q,za3] at h3p
 obtain rfl:i=zbz s:=(by omega);refine xaj (ι:=Nat) hk (fun m=>[(9,.d (.i (m:Int))),(4,.gl 1 ((zcO s m).map Data.c))]) [10,11,12,46,47,48,49,50,51,52,53,54,55,56,57,58,59,60,61,62,63,64,65,66,67,68,69,70,71,72,73,74,75,76,77,78,79,80,81,82,83,84,85,86,87,88,89] (fun m=>[(1,some (.tok (((zcO s m).map Data.c)).length 2))]) (fun m=>m≤zbz s) (fun m=>zbz s-m) 0 (by omega) ⟨⟨_,rfl,xap ?_⟩,⟨⟨_,rfl,LeA.glg ?_⟩,trivial⟩⟩ ⟨zab ?_,trivial⟩ (fun x=>rfl) (fun m hg2=>?_);iterate 3 focus (rfl)
 refine evc [] [5,17,21] ?_;refine sq ?_ ?_<;>intro h5 h5p h5s;try simp only[Q,za3] at h5p
 refine xaT sl99 .none rfl rfl rfl rfl (zat (by omega)) rfl ?_;refine ev ?_;refine wc zgx (zwn (s:=s) (i:=m) (by omega) (by omega)) rfl rfl ?_;refine xaT (i:=1) sl99 .none rfl rfl rfl rfl (zat (by(rw[hg1.2 m (by omega)];omega))) rfl ?_;refine ev ?_;refine wc zgx (zyy (s:=s) (i:=m) (by omega) (by omega) (hg1.2 m (by omega))) rfl rfl ?_;refine ev ?_;refine xaW sl99 .none rfl rfl rfl rfl (zw0 (by omega)) rfl ?_;refine ev ?_;refine bu [0] [_] zyF ?_;refine ab 3011 ztJ ?_;refine so zwE ?_;refine tv ?_;refine xam 3011 1 3 3 rfl rfl rfl rfl ?_;refine xaj (ι:=Nat) hk (fun k=>[(12,.d (.i (k:Int)))]) [65,66,67,68,69,70,71,72,73,74,75,76,77,78,79,80,81,82,83,84,85] (fun k=>[(3011,some (.box [.d (.str (nth (pwP s m) 0)),.gl 3 ((((pwC s m).map (zcy (zcC s (zbz s)))).take k).map Ctor.c)])),(3,some (.tok ((((pwC s m).map (zcy (zcC s (zbz s)))).take k).map Ctor.c).length 3))]) (fun k=>k≤5∧k≤(pwC s m).length) (fun k=>5-k) 0 ⟨by omega,by omega⟩ ⟨⟨_,rfl,xap ?_⟩,trivial⟩ ⟨?_,⟨zab ?_,trivial⟩⟩ (fun x=>rfl) (fun k hg3=>?_);focus (rfl)
 focus (rfl)
 focus (rfl)
 refine evc [] [5,17,21] ?_;refine xak ?_;refine xay 8 [(72,.d (.bool (decide (k<(pwC s m).length∧k≤4))))] [65,66,67,68,69,70,71] ?_ ?_;refine ev ?_;refine sq ?_ ?_<;>intro h6 h6p h6s;try simp only[Q,za3] at h6p
 focus (exact jn rfl (xao (by(rw[Bool.eq_iff_iff];simp_all[zeu];omega))))
 try simp only[Q,za3] at h6p
 focus (exact jn rfl (xao (by(rw[Bool.eq_iff_iff];simp_all[zeu];omega))))
 refine xax ?_;refine tv ?_;refine sq ?_ ?_<;>intro h7 h7p h7s;try simp only[Q,za3] at h7p
 refine xaT sl99 .none rfl rfl rfl rfl (zat (by omega)) rfl ?_;refine evd [] [] ?_;refine Walk.call (cr:=[]) zxs (zjZ (names:=zcC s (zbz s)) (s:=nth (pwC s m) k) (by rw[hnl];omega) (by have h1:=zlh (s:=s) (i:=m) (j:=1) (by omega) (by rw[hg1.2 m (by omega)];omega);have h2:=zw6 (s:=s) (i:=m) (k:=k) (by omega);omega)) rfl .none rfl rfl (.cons (.gl _ _) (.cons (.refl _) .nil)) trivial rfl rfl rfl ?_;refine si [0] [_] zcE zhh ?_;refine ap zcE zyK rfl rfl rfl (by simp) (by simp[za3,zcO];omega) ?_;refine evd [] [] ?_;refine so zyG ?_;refine dr ?_;refine ar ?_;refine Exists.intro (k+1) ⟨⟨by omega,by omega⟩,(by omega),sx ⟨⟨_,rfl,xap ?_⟩,trivial⟩ ⟨?_,⟨zab ?_,trivial⟩⟩⟩;focus (rfl)
 focus ((show some (Res.box _)=some (Res.box _);rw[zgU (by omega)];simp;done))
 focus ((simp;omega))
 try simp only[Q,za3] at h7p
 refine si [0] [_] sl23 ztJ ?_;refine ap sl23 zyJ rfl rfl rfl (by simp) (by simp[za3,zcO];omega) ?_;refine ev ?_;refine ar ?_;refine Exists.intro (m+1) ⟨(by omega),(by omega),sx ⟨⟨_,rfl,xap ?_⟩,⟨⟨_,rfl,LeA.glg ?_⟩,trivial⟩⟩ ⟨zab ?_,trivial⟩⟩;iterate 3 focus (first|rfl|(rw[znx];simp;done)|(rw[znx,xaf];simp only[xae,List.map_nil,zkG,Data.c];rw[←List.map_take,zu5 (by omega)];done))
 try simp only[Q,za3] at h5p
 obtain rfl:m=zbz s:=(by omega);refine xak ?_;refine xay 9 [(98,.d (.bool (!(za6 (zcO s (zbz s))&&decide (zfu (zcO s (zbz s))=s)))))] [90,91,92,93,94,95,96,97] ?_ ?_;refine ev ?_;refine Walk.call (cr:=[]) ztS (zlt (zuN (by omega) hg1.2)) rfl .none rfl rfl (.cons (.gl _ _) .nil) trivial rfl rfl rfl ?_;refine ev ?_;refine sq ?_ ?_<;>intro h8 h8p h8s;try simp only[Q,za3] at h8p
 focus (exact jn rfl (xao (by(rw[Bool.eq_iff_iff];simp_all[zeu];done))))
 try simp only[Q,za3] at h8p
 refine Walk.call (cr:=[]) zxt (zoE (zv8 (by assumption))) rfl (.some rfl rfl h8) rfl rfl (.cons (.gl _ _) .nil) trivial rfl rfl rfl ?_;refine evs [] [(93,false)] ?_ ⟨⟨_,rfl,h8⟩,trivial⟩;focus (exact jn rfl (xao (by(rw[Bool.eq_iff_iff];simp_all[zeu];done))))
 refine xax ?_;refine tv ?_;refine sq ?_ ?_<;>intro h9 h9p h9s;try simp only[Q,za3] at h9p
 refine xbg sl23 .none rfl ?_;refine ev ?_;refine rn0 (r2 rfl rfl) (.tup (.cons (.eqd ?_) (.cons (.eqd ?_) .nil)));rotate_left 2;try simp only[Q,za3] at h9p
 refine rn0 (r2 rfl rfl) (.tup (.cons (.gld ?_) (.cons (.eqd ?_) .nil)));rotate_left 2;all_goals (first|(have hq:=zvu (s:=s) (i:=i) h3p (fun h=>h4p (by omega));rw[zsx hq];all_goals rfl)|(have hr:=zo6 hg1.2;rw[h9s] at hr;rw[zsx hr];all_goals rfl)|(have hr:=zo6 hg1.2;rw[h9s] at hr;rw[zvv hr];all_goals rfl))
def zdH:List Str:=[[76,61,78,105,108,124,67,111,110,115,40,73,44,76,41],
 [66,61,84,114,117,124,70,108,115,59,84,61,76,101,97,102,124,78,111,100,101,40,84,44,66,44,84,41],
 [69,61,78,117,109,40,73,41,58,49,124,66,111,108,40,66,41,58,50,124,65,100,100,40,69,49,44,69,49,41,58,49,124,73,102,40,69,50,44,69,42,44,69,42,41,59,66,61,84,114,117,124,70,108,115],
 [79,61,78,111,110,124,83,111,109,40,73,41,59,80,61,80,97,105,114,40,79,44,79,41],
 [86,61,69,110,100,58,49,124,83,111,109,101,40,73,44,86,49,41,58,50,124,84,119,111,40,86,42,41],
 [78,61,78,101,118,101,114,40,78,41,59,66,61,84,114,117,124,70,108,115,124,77,97,121,40,78,41],
 [83,61,82,101,100,124,71,114,101,101,110,124,66,108,117,101,124,77,105,120,40,83,44,83,41],
 []]
theorem znY:zdH.length=8:=rfl
theorem zrG:∀t∈zdH,t.length≤100:=by decide
theorem ztI {i:Nat} (h:i<8):(nth zdH i).length≤100:=zrG _ (zaf h)
def za9 (b:Str) (p:Nat):List Data:=(zdl (nth zdH (zay b p 7).toNat)).1
theorem zqb (b:Str) (p:Nat):(zay b p 7).toNat<7:=by have:=zc2 (b:=b) (p:=p) (n:=7) (by omega);omega
theorem znM:FnD Tryz.prog 71 [] [] (.d (zff zdH)) []:=by
 refine bd Tryz.f71 2 [] [] fun w0 F0 own kept hk=>?_;refine si [0,1,2,3,4,5,6,7] [_,_,_,_,_,_,_,_] sl99 tz9 ?_;refine ev ?_;refine rn0 (r1 rfl) (.eqd ?_);rotate_left;all_goals (rfl)
theorem znO {b:Str}{p:Nat} (hb:b.length≤2000) (hp:p≤1000000):
  FnD Tryz.prog 188 [.ref 900 0] [(900,some (rdB b p))] (.d (zam (za9 b p))) [(900,some (rdB b (p+1)))]:=by
 have h7:=zqb b p;have ht8:=znY;have hv:=zc2 (b:=b) (p:=p) (n:=7) (by omega);have hts:=ztI (i:=(zay b p 7).toNat) (by omega);refine bd Tryz.f188 20 [] [] fun w0 F0 own kept hk=>?_;refine wc zyp (znM) rfl rfl ?_;refine ev ?_;refine ar ?_;refine wd zdy (zbl (n:=7) hb (by omega) (by omega)) rfl rfl ⟨rfl,trivial⟩ ?_;refine xaT (i:=(zay b p 7).toNat) sl99 .none rfl rfl rfl (by omega) (zat (by rw[znY];omega)) rfl ?_;refine ev ?_;refine wc zyo (zkW (s:=nth zdH (zay b p 7).toNat) (by omega)) rfl rfl ?_;refine ev ?_;refine rn [(900,some (rdB b (p+1)))] (r1 rfl) (.eqd ?_) ⟨rfl,rfl⟩ (SubO.get ⟨.inr ?_,⟨.inl rfl,trivial⟩⟩) (zaz rfl);rotate_left 2;all_goals (first|((rfl);done)|(rfl))
def anyP:Pat:=⟨1,0,0,0,0,[]⟩
def dA (f:Ty→Nat→Pat×Nat):List Ty→Nat→List Pat×Nat
 | [],q=>([],q)
 |t::r,q=>((f t q).1::(dA f r (f t q).2).1,(dA f r (f t q).2).2)
def zaG (b:Str) (w:List Data):Nat→Ty→Nat→Pat×Nat
 |0,_,p=>(anyP,p)
 |d+1,t,p=>
  if d=0 then (anyP,p)
  else if zay b p 4=0 then (anyP,p+1)
  else if zay b (p+1) 6=0 then (⟨5,0,0,0,0,[(zaG b w d t (p+2)).1,(zaG b w d t (zaG b w d t (p+2)).2).1]⟩,(zaG b w d t (zaG b w d t (p+2)).2).2)
  else if t.data = -1 then (⟨3,0,zay b (p+2) 10,zay b (p+2) 10+zay b (p+3) (10-zay b (p+2) 10)*zay b (p+4) 2,0,[]⟩,p+5)
  else if (zah w t).length=0 then (anyP,p+2)
  else (⟨4,nth (zah w t) (zay b (p+2) (zah w t).length).toNat,0,0,0,(dA (zaG b w d) (zaa w t (nth (zah w t) (zay b (p+2) (zah w t).length).toNat)) (p+3)).1⟩,
   (dA (zaG b w d) (zaa w t (nth (zah w t) (zay b (p+2) (zah w t).length).toNat)) (p+3)).2)
def bdP:Nat→Nat
 |0=>0
 |d+1=>5+3*bdP d
def Few (w:List Data):Prop:=∀t c,c∈zah w t→TyIn w.length t→(zaa w t c).length≤3∧∀u∈zaa w t c,TyIn w.length u
theorem zwo {f:Ty→Nat→Pat×Nat}{k:Nat}:∀(l:List Ty) (q:Nat),(∀t∈l,∀q,(f t q).2≤q+k)→(dA f l q).2≤q+l.length*k
 | [],q,_=>by simp[dA]
 |t::r,q,h=>by
  have h1:=h t (by simp) q;have h2:=zwo r (f t q).2 (fun x hx=>h x (by simp[hx]));simp only[dA,xab,Nat.add_mul];omega
theorem zuk {f:Ty→Nat→Pat×Nat}:∀(l:List Ty) (q:Nat),(dA f l q).1.length=l.length
 | [],q=>rfl
 |t::r,q=>by simp only[dA,xab,zuk r]
theorem zjv {l:List Int}{b:Str}{p:Nat} (h:¬l.length=0):nth l (zay b p l.length).toNat∈l:=by
 have:=zc2 (b:=b) (p:=p) (n:=(l.length:Int)) (by omega);exact zaf (by omega)
theorem zjb {b:Str}{w:List Data} (hf:Few w):∀(d:Nat) (t:Ty) (p:Nat),TyIn w.length t→(zaG b w d t p).2≤p+bdP d
 |0,t,p,_=>by simp[zaG,bdP]
 |d+1,t,p,ht=>by
  have ih:=fun t p ht=>zjb (b:=b) hf d t p ht;unfold zaG bdP;split
  ·dsimp only;omega
  ·split
   ·dsimp only;omega
   ·split
    ·dsimp only;have h1:=ih t (p+2) ht;have h2:=ih t (zaG b w d t (p+2)).2 ht;omega
    ·split
     ·dsimp only;omega
     ·split
      ·dsimp only;omega
      ·rename_i h5;dsimp only;have hm:=zjv (b:=b) (p:=p+2) h5;have h3:=hf t _ hm ht;have h1:=zwo (f:=zaG b w d) (k:=bdP d) (zaa w t (nth (zah w t) (zay b (p+2) (zah w t).length).toNat)) (p+3) (fun u hu q=>ih u q (h3.2 u hu));have h4:(zaa w t (nth (zah w t) (zay b (p+2) (zah w t).length).toNat)).length*bdP d≤3*bdP d:=Nat.mul_le_mul_right _ h3.1;omega
theorem zvd {w:List Data} (hs:WSmall w) (hv:za6 w=true):Few w:=by
 have hw:=zhW hs hv;have hW:=(zcr w).1 hv;rintro ⟨a,k⟩ c hc ht
 obtain⟨d,rfl,h1,j,rfl,h3⟩:=zcT ht hc;refine⟨?_,fun u hu=>zej hw h1 ⟨j,rfl,h3⟩ hu⟩;have hco:=hW.ctor _ (zaf h1) _ (zaf h3);simp only[zbC,xad,decide_eq_true_eq] at hco;simp only[zaa,Int.toNat_natCast,xac];omega
theorem Pat.cs_cc (l:List Pat):Pat.cs l=l.map Pat.cc:=by
 rw[Pat.cs_eq];exact List.map_congr_left (fun v _=>Pat.c_eq v)
section
variable {b:Str}{w:List Data}{d p:Nat}{a k:Int}
theorem zsl (h:d=0):zaG b w (d+1) ⟨a,k⟩ p=(anyP,p):=by simp only[zaG];rw[if_pos h]
theorem zsm (h:¬d=0) (h2:zay b p 4=0):zaG b w (d+1) ⟨a,k⟩ p=(anyP,p+1):=by simp only[zaG];rw[if_neg h,if_pos h2]
theorem zsn (h:¬d=0) (h2:¬zay b p 4=0) (h3:zay b (p+1) 6=0):zaG b w (d+1) ⟨a,k⟩ p =
  (⟨5,0,0,0,0,[(zaG b w d ⟨a,k⟩ (p+2)).1,(zaG b w d ⟨a,k⟩ (zaG b w d ⟨a,k⟩ (p+2)).2).1]⟩,(zaG b w d ⟨a,k⟩ (zaG b w d ⟨a,k⟩ (p+2)).2).2):=by
 simp only[zaG];rw[if_neg h,if_neg h2,if_pos h3]
theorem zso (h:¬d=0) (h2:¬zay b p 4=0) (h3:¬zay b (p+1) 6=0) (h4:a = -1):zaG b w (d+1) ⟨a,k⟩ p =
  (⟨3,0,zay b (p+2) 10,zay b (p+2) 10+zay b (p+3) (10-zay b (p+2) 10)*zay b (p+4) 2,0,[]⟩,p+5):=by
 simp only[zaG];rw[if_neg h,if_neg h2,if_neg h3,if_pos h4]
theorem zsp (h:¬d=0) (h2:¬zay b p 4=0) (h3:¬zay b (p+1) 6=0) (h4:¬a = -1) (h5:(zah w ⟨a,k⟩).length=0):zaG b w (d+1) ⟨a,k⟩ p=(anyP,p+2):=by
 simp only[zaG];rw[if_neg h,if_neg h2,if_neg h3,if_neg h4,if_pos h5]
theorem zsq (h:¬d=0) (h2:¬zay b p 4=0) (h3:¬zay b (p+1) 6=0) (h4:¬a = -1) (h5:¬(zah w ⟨a,k⟩).length=0){cc:Int} (hc:nth (zah w ⟨a,k⟩) (zay b (p+2) (zah w ⟨a,k⟩).length).toNat=cc):zaG b w (d+1) ⟨a,k⟩ p =
  (⟨4,cc,0,0,0,(dA (zaG b w d) (zaa w ⟨a,k⟩ cc) (p+3)).1⟩,(dA (zaG b w d) (zaa w ⟨a,k⟩ cc) (p+3)).2):=by
 simp only[zaG];rw[if_neg h,if_neg h2,if_neg h3,if_neg h4,if_neg h5,hc]
end
theorem zeN {b:Str}{w:List Data} (hb:b.length≤2000) (hw:WT w) (hf:Few w):∀(d:Nat){a k m:Int}{p:Nat},m=d→d≤4→1≤d→p+bdP d≤1000000→TyIn w.length ⟨a,k⟩→
  FnD Tryz.prog 125 [.ref 900 0,.d (zam w),.agg [.d (.i a),.d (.i k)],.d (.i m)] [(900,some (rdB b p))]
   (.agg [.d (.i (zaG b w d ⟨a,k⟩ p).1.op),.d (.i (zaG b w d ⟨a,k⟩ p).1.ctor),.d (.i (zaG b w d ⟨a,k⟩ p).1.n),.d (.i (zaG b w d ⟨a,k⟩ p).1.m),.d (.i (zaG b w d ⟨a,k⟩ p).1.var),.d (zac (zaG b w d ⟨a,k⟩ p).1.kids)]) [(900,some (rdB b (zaG b w d ⟨a,k⟩ p).2))]
 |0,a,k,m,p,_,_,h1,_,_=>by omega
 |d+1,a,k,m,p,hm,hd4,_,hp,ht=>by
  have hcl:=zhj hw ht;have hbd:bdP (d+1)=5+3*bdP d:=rfl;have ih:=fun(t:Ty) (q:Nat) (ht:TyIn w.length t)=>zjb (b:=b) hf d t q ht;have v10:=zc2 (b:=b) (p:=p+2) (n:=10) (by omega);have v11:=zc2 (b:=b) (p:=p+3) (n:=10-zay b (p+2) 10) (by omega);have v12:=zc2 (b:=b) (p:=p+4) (n:=2) (by omega);have v13:0≤zay b (p+3) (10-zay b (p+2) 10)*zay b (p+4) 2∧zay b (p+3) (10-zay b (p+2) 10)*zay b (p+4) 2≤10:=by
   have h:zay b (p+4) 2=0∨zay b (p+4) 2=1:=by omega
   rcases h with h|h<;>rw[h]<;>omega
  have hvl:((((zah w ⟨a,k⟩).map fun n=>[D.i n]).length:Nat):Int)=(zah w ⟨a,k⟩).length:=by simp
  have v14:=fun h=>zc2 (b:=b) (p:=p+2) (n:=((zah w ⟨a,k⟩).length:Int)) h;have hmem:=fun h=>zjv (l:=zah w ⟨a,k⟩) (b:=b) (p:=p+2) h;generalize hcc:nth (zah w ⟨a,k⟩) (zay b (p+2) (zah w ⟨a,k⟩).length).toNat=cc at *;have hfw:=fun h=>hf ⟨a,k⟩ cc (hmem h) ht;have hat:¬(zah w ⟨a,k⟩).length=0→((zah w ⟨a,k⟩).map fun n=>[D.i n])[(zay b (p+2) (zah w ⟨a,k⟩).length).toNat]?=some [D.i cc]:=fun h=>by
   rw[←hcc];exact zat (by have:=v14 (by omega);omega)
  refine bd Tryz.f125 96 [] [] fun w0 F0 own kept hk=>?_;refine bx 3006 ?_;refine ab 3008 tz28 ?_;refine tv ?_;refine sq ?_ ?_<;>intro h1 h1p h1s;try simp only[Q] at h1p
  refine sqT ?_;refine bu [0] [_] st28 ?_;refine so ty28 ?_;refine tv ?_;refine rn [(900,some (rdB b (zaG b w (d+1) ⟨a,k⟩ p).2))] (.cons (.cellA ty28 rfl rfl rfl) .nil) (.agg (.cons (.eqd ?_) (.cons (.eqd ?_) (.cons (.eqd ?_) (.cons (.eqd ?_) (.cons (.eqd ?_) (.cons (.nild ?_) .nil))))))) ⟨rfl,rfl⟩ (SubO.get ⟨.inr ?_,⟨.inl rfl,trivial⟩⟩) (zaz rfl);rotate_left 7;try simp only[Q] at h1p
  refine Walk.call (cr:=[]) zdy (zbl (p:=p) (n:=4) hb (by omega) (by omega)) rfl (.some rfl rfl h1) rfl rfl (LeL.refl _) ⟨rfl,trivial⟩ rfl rfl rfl ?_;refine evs [] [(16,false)] ?_ ⟨⟨_,rfl,h1⟩,trivial⟩;refine sq ?_ ?_<;>intro h3 h3p h3s;try simp only[Q] at h3p
  refine bu [0] [_] st28 ?_;refine so ty28 ?_;refine tv ?_;refine rn [(900,some (rdB b (zaG b w (d+1) ⟨a,k⟩ p).2))] (.cons (.cellA ty28 rfl rfl rfl) .nil) (.agg (.cons (.eqd ?_) (.cons (.eqd ?_) (.cons (.eqd ?_) (.cons (.eqd ?_) (.cons (.eqd ?_) (.cons (.nild ?_) .nil))))))) ⟨rfl,rfl⟩ (SubO.get ⟨.inr ?_,⟨.inl rfl,trivial⟩⟩) (zaz rfl);rotate_left 7;try simp only[Q] at h3p
  refine wd zdy (zbl (p:=p+1) (n:=6) hb (by omega) (by omega)) rfl rfl ⟨rfl,trivial⟩ ?_;refine ev ?_;refine sq ?_ ?_<;>intro h4 h4p h4s;try simp only[Q] at h4p
  refine ar ?_;refine wd zmA (zeN hb hw hf d (p:=p+2) (by omega) (by omega) (by omega) (by omega) ht) rfl rfl ⟨rfl,trivial⟩ ?_;refine evd [] [] ?_;refine ar ?_;refine wd zmA (zeN hb hw hf d (p:=(zaG b w d ⟨a,k⟩ (p+2)).2) (by omega) (by omega) (by omega) (by have:=ih ⟨a,k⟩ (p+2) ht;omega) ht) rfl rfl ⟨rfl,trivial⟩ ?_;refine si [0,1] [_,_] sl26 tz28 ?_;refine bu [0,5] [_,_] st28 ?_;refine so ty28 ?_;refine dr ?_;refine rn [(900,some (rdB b (zaG b w (d+1) ⟨a,k⟩ p).2))] (.cons (.cellA ty28 rfl rfl rfl) .nil) (.agg (.cons (.eqd ?_) (.cons (.eqd ?_) (.cons (.eqd ?_) (.cons (.eqd ?_) (.cons (.eqd ?_) (.cons (.eqd ?_) .nil))))))) ⟨rfl,rfl⟩ (SubO.get ⟨.inr ?_,⟨.inl rfl,trivial⟩⟩) (zaz rfl);rotate_left 7;try simp only[Q] at h4p
  refine sq ?_ ?_<;>intro h5 h5p h5s;try simp only[Q] at h5p
  refine wd zdy (zbl (p:=p+2) (n:=10) hb (by omega) (by omega)) rfl rfl ⟨rfl,trivial⟩ ?_;refine ev ?_;refine ar ?_;refine wd zdy (zbl (p:=p+3) (n:=10-zay b (p+2) 10) hb (by omega) (by omega)) rfl rfl ⟨rfl,trivial⟩ ?_;refine ev ?_;refine wd zdy (zbl (p:=p+4) (n:=2) hb (by omega) (by omega)) rfl rfl ⟨rfl,trivial⟩ ?_;refine ev ?_;refine ar ?_;refine ar ?_;refine bu [0,2,3] [_,_,_] st28 ?_;refine so ty28 ?_;refine tv ?_;refine rn [(900,some (rdB b (zaG b w (d+1) ⟨a,k⟩ p).2))] (.cons (.cellA ty28 rfl rfl rfl) .nil) (.agg (.cons (.eqd ?_) (.cons (.eqd ?_) (.cons (.eqd ?_) (.cons (.eqd ?_) (.cons (.eqd ?_) (.cons (.nild ?_) .nil))))))) ⟨rfl,rfl⟩ (SubO.get ⟨.inr ?_,⟨.inl rfl,trivial⟩⟩) (zaz rfl);rotate_left 7;try simp only[Q] at h5p
  refine wc zh3 (zb7 hw ht) rfl rfl ?_;refine ev ?_;refine sq ?_ ?_<;>intro h6 h6p h6s;try simp only[Q] at h6p
  refine bu [0] [_] st28 ?_;refine so ty28 ?_;refine tv ?_;refine rn [(900,some (rdB b (zaG b w (d+1) ⟨a,k⟩ p).2))] (.cons (.cellA ty28 rfl rfl rfl) .nil) (.agg (.cons (.eqd ?_) (.cons (.eqd ?_) (.cons (.eqd ?_) (.cons (.eqd ?_) (.cons (.eqd ?_) (.cons (.nild ?_) .nil))))))) ⟨rfl,rfl⟩ (SubO.get ⟨.inr ?_,⟨.inl rfl,trivial⟩⟩) (zaz rfl);rotate_left 7;try simp only[Q] at h6p
  refine wd zdy (zbl (p:=p+2) (n:=((((zah w ⟨a,k⟩).map fun n=>[D.i n]).length:Nat):Int)) hb (by omega) (by omega)) rfl rfl ⟨rfl,trivial⟩ ?_;refine xaT (i:=(zay b (p+2) (zah w ⟨a,k⟩).length).toNat) sl62 .none rfl rfl rfl (by rw[hvl];have:=v14 (by omega);omega) (hat (by omega)) rfl ?_;refine ev ?_;refine bu [0,1] [_,_] st28 ?_;refine ab 3011 tz28 ?_;refine so ty28 ?_;refine tv ?_;refine wc zgy (zci hw ht (hmem (by omega))) rfl rfl ?_;refine ev ?_;refine xam 3011 5 1 6 rfl rfl rfl rfl ?_;refine xaj (ι:=List (Ty)×List (Ty)×(Nat)×(List Pat)) hk (fun x=>[(13,.d (.i (x.1.length:Int)))]) [75,76,77,78,79,80,81,82,83,84,85,86,87,88,89,90,91,92,93,94] (fun x=>[(900,some (.box [.d (zcF b),.d (.i (x.2.2.1:Int))])),(3011,some (.box [.d (.i 4),.d (.i cc),.d (.i 0),.d (.i 0),.d (.i 0),.gl 1 (x.2.2.2.map Pat.cc)])),(1,some (.tok (x.2.2.2.map Pat.cc).length 6))]) (fun x=>x.1++x.2.1=zaa w ⟨a,k⟩ cc∧x.2.2.1≤p+3+x.1.length*bdP d∧x.2.2.2.length=x.1.length∧(x.2.2.2++(dA (zaG b w d) x.2.1 x.2.2.1).1,(dA (zaG b w d) x.2.1 x.2.2.1).2)=dA (zaG b w d) (zaa w ⟨a,k⟩ cc) (p+3)) (fun x=>x.2.1.length) ([],zaa w ⟨a,k⟩ cc,p+3,[]) ⟨by simp,by simp,by simp,by simp⟩ ⟨⟨_,rfl,xap ?_⟩,trivial⟩ ⟨?_,⟨?_,⟨zab ?_,trivial⟩⟩⟩ (fun x=>rfl) (fun x hg1=>?_);focus (rfl)
  iterate 2 focus (first|rfl|(simp[getH];done))
  focus (rfl)
  obtain⟨pre,rest,q,ks⟩:=x;dsimp only at hg1 ⊢;refine evc [] [] ?_;refine sq ?_ ?_<;>intro h7 h7p h7s;try simp only[Q] at h7p
  rcases rest with _|⟨y,rest⟩
  ·exfalso;simp_all
  have hpm:pre.length*bdP d≤2*bdP d:=Nat.mul_le_mul_right _ (by have:=(hfw (by omega)).1;omega);refine xaT zaY .none rfl rfl rfl rfl (zaL hg1.1) rfl ?_;refine evd [] [] ?_;refine ar ?_;refine wd zmA (zeN hb hw hf d (a:=y.data) (k:=y.index) (p:=q) (by omega) (by omega) (by omega) (by omega) ((hfw (by omega)).2 y (by rw[←hg1.1];simp))) rfl rfl ⟨rfl,trivial⟩ ?_;refine si [0] [_] sl26 tz28 ?_;refine ap sl26 zz28 rfl rfl rfl (by simp) (by have hz:=congrArg List.length hg1.1;have:=(hfw (by omega)).1;simp at hz ⊢;omega) ?_;refine evd [] [] ?_;refine so ty26 ?_;refine dr ?_;refine ar ?_;refine Exists.intro ((pre++[y],rest,(zaG b w d y q).2,ks++[(zaG b w d y q).1])) ⟨⟨(by have hz:=hg1.1;rw[←hz];simp),⟨(by have:=ih y q ((hfw (by omega)).2 y (by rw[←hg1.1];simp));simp only[xaa,xab,xah,Nat.add_mul];omega),(by simp[hg1.2.2.1]),(by rw[←hg1.2.2.2];simp[dA])⟩⟩,(by simp),sx ⟨⟨_,rfl,xap ?_⟩,trivial⟩ ⟨?_,⟨?_,⟨zab ?_,trivial⟩⟩⟩⟩;focus ((simp;done))
  iterate 2 focus (first|rfl|(simp[getH];done))
  focus ((simp;done))
  try simp only[Q] at h7p
  have hrest:rest=[]:=by
   rcases rest with _|⟨a,b⟩
   ·rfl
   ·exfalso;have hz:=congrArg List.length (hg1.1);simp only[xaa,xab,xac] at hz;omega
  subst hrest;refine so ty28 ?_;refine tv ?_;refine rn [(900,some (rdB b (zaG b w (d+1) ⟨a,k⟩ p).2))] (.cons (.cellA ty28 rfl rfl rfl) .nil) (.agg (.cons (.eqd ?_) (.cons (.eqd ?_) (.cons (.eqd ?_) (.cons (.eqd ?_) (.cons (.eqd ?_) (.cons (.gld ?_) .nil))))))) ⟨rfl,rfl⟩ (SubO.get ⟨.inr ?_,⟨.inl rfl,trivial⟩⟩) (zaz rfl);rotate_left 7;all_goals (((first|(rw[zsl (by omega)];all_goals first|rfl|(show _=D.sl (Pat.cs _);rw[Pat.cs_cc];all_goals rfl)|(show _=Pat.cs _;rw[Pat.cs_cc];all_goals rfl))|(rw[zsm (by omega) (by omega)];all_goals first|rfl|(show _=D.sl (Pat.cs _);rw[Pat.cs_cc];all_goals rfl)|(show _=Pat.cs _;rw[Pat.cs_cc];all_goals rfl))|(rw[zsn (by omega) (by omega) (by omega)];all_goals first|rfl|(show _=D.sl (Pat.cs _);rw[Pat.cs_cc];all_goals rfl)|(show _=Pat.cs _;rw[Pat.cs_cc];all_goals rfl))|(rw[zso (by omega) (by omega) (by omega) (by omega)];all_goals first|rfl|(show _=D.sl (Pat.cs _);rw[Pat.cs_cc];all_goals rfl)|(show _=Pat.cs _;rw[Pat.cs_cc];all_goals rfl))|(rw[zsp (by omega) (by omega) (by omega) (by omega) (by omega)];all_goals first|rfl|(show _=D.sl (Pat.cs _);rw[Pat.cs_cc];all_goals rfl)|(show _=Pat.cs _;rw[Pat.cs_cc];all_goals rfl))|(rw[zsq (by omega) (by omega) (by omega) (by omega) (by omega) hcc];have hfin:=hg1.2.2.2;simp only[dA,List.append_nil] at hfin;rw[←hfin];all_goals first|rfl|(show _=D.sl (Pat.cs _);rw[Pat.cs_cc];all_goals rfl)|(show _=Pat.cs _;rw[Pat.cs_cc];all_goals rfl)));done))
end Go.Proofs.YtpgdedpljcedpaaGreat
