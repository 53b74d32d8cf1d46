/-
  THE LAW FnEmptyPattern: whatever the arguments of bulk at most 1048576 are, the call returns true, and the arguments read as before.
  Conditions: the bulk alone.
-/
import Derived.Test.YtpgdedpljcedpaaGreatT504
namespace Go.Proofs.YtpgdedpljcedpaaGreat
open Go
set_option linter.unusedSimpArgs false
set_option linter.unusedVariables false
set_option maxRecDepth 100000
set_option maxHeartbeats 2000000
theorem zrW {L:List Bd}{j:Nat} (h:j+1<L.length):(zf1 L j).Perm L:=by
 have e:L=L.take j++nth L j::nth L (j+1)::L.drop (j+2):=by
  have h1:L.drop j=nth L j::L.drop (j+1):=zaN (by omega);have h2:L.drop (j+1)=nth L (j+1)::L.drop (j+2):=zaN (by omega);conv=>lhs;rw[<-List.take_append_drop j L,h1,h2]
 have hl:(L.take j).length=j:=by rw[List.length_take];omega
 generalize nth L j=x at e;generalize nth L (j+1)=y at e;generalize L.take j=A at *;generalize L.drop (j+2)=B at *;subst e;have n1:nth (A++x::y::B) j=x:=by rw[<-hl];simp[nth,List.getD]
 have n2:nth (A++x::y::B) (j+1)=y:=by rw[<-hl];simp[nth,List.getD]
 unfold zf1;rw[n1,n2];have s1:((A++x::y::B).set (j+1) x).set j y=A++y::x::B:=by
  rw[<-hl];simp
 rw[s1];exact(List.Perm.swap x y B).append_left A
theorem zmx:∀(j:Nat) (L:List Bd),j<L.length->(zcX j L).Perm L
 |0,L,_=>List.Perm.refl _
 |j+1,L,h=>by
  unfold zcX;split
  ·exact(zmx j (zf1 L j) (by rw[zkb];omega)).trans (zrW h)
  ·exact List.Perm.refl _
theorem zmC:∀(k i:Nat) (L:List Bd),i+k<=L.length->(zdq k i L).Perm L
 |0,_,_,_=>List.Perm.refl _
 |k+1,i,L,h=>by
  unfold zdq;exact(zmC k (i+1) (zcX i L) (by rw[zhE];omega)).trans (zmx i L (by omega))
def zkv (L:List Bd):List Bd:=zdq (L.length-1) 1 L
theorem zmA (L:List Bd):(zkv L).Perm L:=by
 cases L with
 |nil=>exact List.Perm.refl _
 |cons x r=>exact zmC _ _ _ (by simp;omega)
theorem ztf (L:List Bd):(zkv L).length=L.length:=(zmA L).length_eq
theorem zt8 {m:Nat}{L:List Bd} (h:BdOk m L):BdOk m (zkv L):=fun x hx=>h x ((zmA L).mem_iff.1 hx)
def zfO (n:Nat) (p:Pat) (v:Val):List Bd×Bool:=if (zav n p v).2=true then (zkv (zav n p v).1,true) else ([],false)
theorem zqo (n:Nat) (p:Pat) (v:Val):(zfO n p v).2=(zav n p v).2:=by
 unfold zfO;split<;>simp_all
structure MatchOk (w:List Data) (n m:Nat) (t:Ty) (p:Pat) (v:Val):Prop where
 shape:zas w n t p=true
 fits:zaC w m t v=true
 pok:p.ok
 vok:v.ok
 psz:p.size<=100
 vsz:v.size<=100
theorem MatchOk.kid {w:List Data}{n m:Nat}{t:Ty}{p:Pat}{v:Val} (h:MatchOk w (n+1) m t p v) (h4:p.op=4) (hc:p.ctor=v.ctor):
  p.kids.length=v.kids.length/\∃k,∀i,i<p.kids.length->MatchOk w n k (nth (zad w t p) i) (nth p.kids i) (nth v.kids i):=by
 obtain⟨ho,hlen⟩:=zbo h.shape;have hct:=zbK ho h4;have hdt:t.data≠ -1:=fun e=>by unfold zap at hct;rw[if_pos e] at hct;simp at hct
 have hk:=fun i (hi:i<p.kids.length)=>zbw h.shape hi;have hpk:=(Pat.ok_iff p).1 h.pok;have hvk:=(Val.ok_iff v).1 h.vok;have hps:=Pat.size_eq p;have hvs:=Val.size_eq v;cases m with
 |zero=>have:=h.fits;simp[zaC] at this
 |succ m=>
  obtain⟨f1,f2,f3⟩:=zdB h.fits hdt;have ht4:=zbh (w:=w) (t:=t) h4;rw[ht4] at hlen;rw[<-hc] at f2 f3;refine⟨by omega,m,fun i hi=>?_⟩;have z1:=zbU (l:=p.kids) hi;have z2:=ztS (l:=v.kids) (i:=i) (by omega);refine⟨hk i hi,by rw[ht4];exact f3 i (by omega),Pats.ok_mem hpk.2 _ (zah hi),Vals.ok_mem hvk.2 _ (zah (by omega)), ?_, ?_⟩
  ·have:=h.psz;omega
  ·have:=h.vsz;omega
theorem MatchOk.two {w:List Data}{n m:Nat}{t:Ty}{p:Pat}{v:Val} (h:MatchOk w (n+1) m t p v) (h5:p.op=5):
  p.kids.length=2/\MatchOk w n m t (nth p.kids 0) v/\MatchOk w n m t (nth p.kids 1) v:=by
 obtain⟨hl,s0,s1⟩:=zei h.shape h5;have hpk:=(Pat.ok_iff p).1 h.pok;have hps:=Pat.size_eq p;have z0:=zbU (l:=p.kids) (i:=0) (by omega);have z1:=zbU (l:=p.kids) (i:=1) (by omega);have hs:=h.psz;exact⟨hl,⟨s0,h.fits,Pats.ok_mem hpk.2 _ (zah (by omega)),h.vok,by omega,h.vsz⟩,⟨s1,h.fits,Pats.ok_mem hpk.2 _ (zah (by omega)),h.vok,by omega,h.vsz⟩⟩
theorem MatchOk.one {w:List Data}{n m:Nat}{t:Ty}{p:Pat}{v:Val} (h:MatchOk w (n+1) m t p v) (h6:p.op=6):
  p.kids.length=1/\MatchOk w n m t (nth p.kids 0) v:=by
 obtain⟨hl,s0⟩:=zc9 h.shape h6;have hpk:=(Pat.ok_iff p).1 h.pok;have hps:=Pat.size_eq p;have z0:=zbU (l:=p.kids) (i:=0) (by omega);have hs:=h.psz;exact⟨hl,⟨s0,h.fits,Pats.ok_mem hpk.2 _ (zah (by omega)),h.vok,by omega,h.vsz⟩⟩
theorem zkg (l:List Bd):∀x∈l.map Bd.c,x.length=4:=fun x hx=>by
 obtain⟨y,_,rfl⟩:=List.mem_map.1 hx;rfl
theorem zb6 {w:List Data}:∀(n m:Nat){t:Ty}{p:Pat}{v:Val},MatchOk w n m t p v->
  FnD Tryz.prog 112 [.agg [.d (.i p.op),.d (.i p.ctor),.d (.i p.n),.d (.i p.m),.d (.i p.var),.d (zaj p.kids)],.agg [.d (.i v.ctor),.d (.i v.num),.d (zbG v.kids)]] [] (.tup [.d (zpq (zav n p v).1),.d (.bool (zav n p v).2)]) []
 |0,m,t,p,v,h=>by have:=h.shape;simp[zas] at this
 |n+1,m,t,p,v,h=>by
  have hop:=zeh h.shape;have k4:=h.kid;have k5:=h.two;have k6:=h.one;have hsz:=h.psz;have hps:=Pat.size_eq p;have hkl:=((Pat.ok_iff p).1 h.pok).1;have mok:=fun {t:Ty}{q:Pat}{u:Val} (hs:zas w n t q=true) (hu:u.ok)=>zed n hs hu;by_cases c4:p.op=4/\p.ctor=v.ctor
  ·obtain⟨hl,k,hkm⟩:=k4 c4.1 c4.2;have hm4:=zfM (n:=n) c4.1 c4.2;refine bd Tryz.f112 105 [10] [] fun w0 F0 own kept hk=>?_;refine bx 3002 ?_;refine bx 3003 ?_;refine evs [10] [] ?_;refine sq ?_ ?_<;>intro h1 h1p h1s<;>(try simp only[Q,Pat.cs_len] at h1p);exfalso;omega;refine sq ?_ ?_<;>intro h2 h2p h2s<;>(try simp only[Q,Pat.cs_len] at h2p);exfalso;omega;refine sq ?_ ?_<;>intro h3 h3p h3s<;>(try simp only[Q,Pat.cs_len] at h3p);exfalso;omega;refine sq ?_ ?_<;>intro h4 h4p h4s<;>(try simp only[Q,Pat.cs_len] at h4p);exfalso;omega;refine sq ?_ ?_<;>intro h5 h5p h5s<;>(try simp only[Q,Pat.cs_len] at h5p);exfalso;omega;refine sq ?_ ?_<;>intro h6 h6p h6s<;>(try simp only[Q,Pat.cs_len] at h6p);exfalso;omega;refine xaF 1 4 .none rfl rfl ?_;refine tv ?_;refine xak (ι:=Nat×List Bd) hk (fun x=>[(83,.d (.i (x.1:Int))),(10,.gl 1 (x.2.map Bd.c))]) [4,5,11,12,13,14,84,85,86,87,88,89,90,91,92,93,94,95,96,97,98,99,100,101,102,103] (fun x=>[(1,some (.tok ((x.2.map Bd.c)).length 4))]) (fun x=>x.1<=p.kids.length/\zbl (zav n) (p.kids.drop x.1) (v.kids.drop x.1) x.2=zbl (zav n) p.kids v.kids []/\x.2.length+Pats.size (p.kids.drop x.1)<=Pats.size p.kids) (fun x=>p.kids.length-x.1) (0,[]) ⟨by simp,rfl,by simp⟩ ⟨⟨_,rfl,xar ?_⟩,⟨⟨_,rfl,LeA.glg ?_⟩,trivial⟩⟩ ⟨zaa ?_,trivial⟩ (fun x=>rfl) (fun x hg1=>?_);iterate 3 focus (first|rfl|omega|(simp;done)|(simp;omega))
   refine evc [10] [] ?_;refine sq ?_ ?_<;>intro h7 h7p h7s<;>(try simp only[Q,Pat.cs_len] at h7p);refine xaU sl26 .none rfl rfl rfl rfl (zaH (by omega)) rfl ?_;refine evs [10] [] ?_;refine ab 3012 tz28 ?_;refine evs [10] [] ?_;refine so ty28 ?_;refine tv ?_;refine xaU sl37 .none rfl rfl rfl rfl (znG (by omega)) rfl ?_;refine evd [10] [] ?_;refine wc zd5 (zb6 n k (hkm x.1 (by omega))) rfl rfl ?_;refine evd [10] [] ?_;refine dr ?_;refine sq ?_ ?_<;>intro h8 h8p h8s<;>(try simp only[Q,Pat.cs_len] at h8p);refine rn0 (r2 rfl rfl) (.tup (.cons (.nild ?_) (.cons (.eqd ?_) .nil)));rotate_left 2;refine ap sl40 zo1 rfl rfl rfl (by intro x hx;exact zkg _ x hx) (by have:=(mok (hkm x.1 (by omega)).shape (hkm x.1 (by omega)).vok).2;have:=zdN (l:=p.kids) (i:=x.1) (by omega);have:=hg1.2.2;simp;omega) ?_;refine asg ?_;refine tv ?_;refine ar ?_;refine xah ((x.1+1,x.2++(zav n (nth p.kids x.1) (nth v.kids x.1)).1)) ⟨⟨by dsimp only;omega,by dsimp only;rw[<-zkS (by omega) (by omega) (by simp_all)];exact hg1.2.1,by have:=(mok (hkm x.1 (by omega)).shape (hkm x.1 (by omega)).vok).2;have:=zdN (l:=p.kids) (i:=x.1) (by omega);have:=hg1.2.2;dsimp only;rw[xaa];omega⟩,(by dsimp only;omega),sx ⟨⟨_,rfl,xar ?_⟩,⟨⟨_,rfl,LeA.glg ?_⟩,trivial⟩⟩ ⟨zaa ?_,trivial⟩⟩;iterate 3 focus (first|rfl|omega|(simp;done)|(simp;omega))
   refine rn0 (r2 rfl rfl) (.tup (.cons (.gld ?_) (.cons (.eqd ?_) .nil)));rotate_left 2;all_goals (first|(rw[hm4,<-hg1.2.1,zmf (by omega)];all_goals rfl)|(rw[hm4,<-hg1.2.1,zrD (by omega) (by omega) (by simp_all)];all_goals rfl))
  ·have hn4:p.op=4->zav (n+1) p v=([],false):=fun h4=>zfN h4 (fun hc=>c4 ⟨h4,hc⟩);refine bd Tryz.f112 105 [] [] fun w0 F0 own kept hk=>?_;refine bx 3002 ?_;refine bx 3003 ?_;refine ev ?_;refine sq ?_ ?_<;>intro h1 h1p h1s<;>(try simp only[Q,Pat.cs_len] at h1p);refine rn0 (r2 rfl rfl) (.tup (.cons (.nild ?_) (.cons (.eqd ?_) .nil)));rotate_left 2;refine sq ?_ ?_<;>intro h2 h2p h2s<;>(try simp only[Q,Pat.cs_len] at h2p);refine bu [0,1] [_,_] zoV ?_;refine si [0] [_] sl40 zmW ?_;refine ev ?_;refine rn0 (r2 rfl rfl) (.tup (.cons (.eqd ?_) (.cons (.eqd ?_) .nil)));rotate_left 2;refine sq ?_ ?_<;>intro h3 h3p h3s<;>(try simp only[Q,Pat.cs_len] at h3p);refine wc zeM (zbj) rfl rfl ?_;refine ev ?_;refine rn0 (r2 rfl rfl) (.tup (.cons (.nild ?_) (.cons (.eqd ?_) .nil)));rotate_left 2;refine sq ?_ ?_<;>intro h4 h4p h4s<;>(try simp only[Q,Pat.cs_len] at h4p);refine xaU (i:=0) sl26 .none rfl rfl rfl rfl (zaH (by first|(have:=(k5 (by omega)).1;omega)|(have:=(k6 (by omega)).1;omega))) rfl ?_;refine evd [] [] ?_;refine wc zd5 (zb6 n m (k5 (by omega)).2.1) rfl rfl ?_;refine evd [] [] ?_;refine dr ?_;refine sq ?_ ?_<;>intro h5 h5p h5s<;>(try simp only[Q,Pat.cs_len] at h5p);refine rn0 (r2 rfl rfl) (.tup (.cons (.eqd ?_) (.cons (.eqd ?_) .nil)));rotate_left 2;refine xaU (i:=1) sl26 .none rfl rfl rfl rfl (zaH (by first|(have:=(k5 (by omega)).1;omega)|(have:=(k6 (by omega)).1;omega))) rfl ?_;refine evd [] [] ?_;refine wc zd5 (zb6 n m (k5 (by omega)).2.2) rfl rfl ?_;refine evd [] [] ?_;refine dr ?_;refine rn0 (r2 rfl rfl) (.tup (.cons (.eqd ?_) (.cons (.eqd ?_) .nil)));rotate_left 2;refine sq ?_ ?_<;>intro h6 h6p h6s<;>(try simp only[Q,Pat.cs_len] at h6p);refine xaU (i:=0) sl26 .none rfl rfl rfl rfl (zaH (by first|(have:=(k5 (by omega)).1;omega)|(have:=(k6 (by omega)).1;omega))) rfl ?_;refine evd [] [] ?_;refine wc zd5 (zb6 n m (k6 (by omega)).2) rfl rfl ?_;refine evd [] [] ?_;refine dr ?_;refine bu [0,1] [_,_] zoV ?_;refine xbm 2 sl40 zmW rfl (by decide) (ks:=[0]) (xs:=[_]) rfl rfl (by decide) (by decide) .none rfl rfl rfl rfl rfl ?_;refine ev ?_;refine ap sl40 zo1 rfl rfl rfl (by intro x hx;exact zkg _ x hx) (by have:=(mok (k6 (by omega)).2.shape h.vok).2;have:=zbU (l:=p.kids) (i:=0) (by have:=(k6 (by omega)).1;omega);simp;omega) ?_;refine ev ?_;refine rn0 (r2 rfl rfl) (.tup (.cons (.gld ?_) (.cons (.eqd ?_) .nil)));rotate_left 2;refine sq ?_ ?_<;>intro h7 h7p h7s<;>(try simp only[Q,Pat.cs_len] at h7p);refine rn0 (r2 rfl rfl) (.tup (.cons (.nild ?_) (.cons (.eqd ?_) .nil)));rotate_left 2;exfalso;apply c4;omega;all_goals (first|(rw[zfK (by omega)];all_goals rfl)|(rw[zfL (by omega)];all_goals rfl)|(rw[ze6 (by omega)];all_goals rfl)|(rw[zeY (by omega) (by assumption)];all_goals rfl)|(rw[zeZ (by omega) (by simp_all)];all_goals rfl)|(rw[zev (by omega)];all_goals rfl)|(rw[hn4 (by omega)];all_goals rfl))
structure VarsOk (l:List Bd) (vs:List Vt):Prop where
 len:l.length=vs.length
 nod:(l.map Bd.var).Nodup
 sub:∀x∈l.map Bd.var,x∈vs.map Vt.var
theorem zkT {f:Pat->Val->List Bd×Bool}{g:Ty->Pat->List Vt}:∀ {a:List Ty}{b:List Pat}{c:List Val}{acc:List Bd},a.length=b.length->b.length=c.length->
  (∀i,i<b.length->(f (nth b i) (nth c i)).2=true->zcp (g (nth a i) (nth b i))=true->VarsOk (f (nth b i) (nth c i)).1 (g (nth a i) (nth b i)))->((za8 g a b).map Vt.var).Nodup->
  (zbl f b c acc).2=true->∃X,(zbl f b c acc).1=acc++X/\VarsOk X (za8 g a b)
 | [],[],[],acc,_,_,_,_,_=>⟨[],by simp[zbl],⟨rfl,by simp,by simp⟩⟩
 |t::a,p::b,v::c,acc,h1,h2,h3,h4,h5=>by
  unfold zbl at h5 ⊢;split at h5
  ·rename_i hok;rw[if_pos hok];simp only[za8,xaf] at h4 ⊢;obtain⟨n1,n2,n3⟩:=List.nodup_append.1 h4;have k0:=h3 0 (by simp) hok (decide_eq_true n1);obtain⟨X,e,k⟩:=zkT (f:=f) (g:=g) (a:=a) (b:=b) (c:=c) (acc:=acc++(f p v).1) (by simpa using h1) (by simpa using h2) (fun i hi=>h3 (i+1) (by simpa using hi)) n2 h5;refine⟨(f p v).1++X,by rw[e,List.append_assoc],⟨?_, ?_, ?_⟩⟩
   ·have:=k0.len;have e0:(f p v).1.length=(g t p).length:=this;rw[xaa,xaa,e0,k.len]
   ·rw[xaf];exact List.nodup_append.2 ⟨k0.nod,k.nod,fun x hx y hy=>n3 x (k0.sub x hx) y (k.sub y hy)⟩
   ·intro x hx;rw[xaf] at hx ⊢;rcases List.mem_append.1 hx with h|h
    ·exact List.mem_append_left _ (k0.sub x h)
    ·exact List.mem_append_right _ (k.sub x h)
  ·exact absurd h5 (by simp)
 | [],_::_,_,_,h,_,_,_,_=>by simp at h
 |_::_,[],_,_,h,_,_,_,_=>by simp at h
 | [],[],_::_,_,_,h,_,_,_=>by simp at h
 |_::_,_::_,[],_,_,h,_,_,_=>by simp at h
theorem zr2 {a b:List Vt} (ha:zcp a=true) (hb:zcp b=true) (h:zds a b=true):a.length=b.length/\∀x∈b.map Vt.var,x∈a.map Vt.var:=by
 rw[zly hb] at h;unfold zdT at h;simp only[xad,decide_eq_true_eq,Bool.not_eq_true',List.any_eq_false,Bool.not_eq_true,decide_eq_false_iff_not,Classical.not_not] at h;have na:=of_decide_eq_true ha;refine⟨h.1,fun x hx=>?_⟩;by_cases hm:x∈a.map Vt.var
 ·exact hm
 ·have:=zjN (a:=x::a.map Vt.var) (b:=b.map Vt.var) (List.nodup_cons.2 ⟨hm,na⟩) (fun y hy=>by
   rcases List.mem_cons.1 hy with rfl|hy
   ·exact hx
   ·obtain⟨z,hz,rfl⟩:=List.mem_map.1 hy;exact List.mem_map.2 ⟨z,h.2 z hz,rfl⟩)
  simp only[xab,xac] at this;omega
theorem zfo {w:List Data}:∀(n m:Nat){t:Ty}{p:Pat}{v:Val},MatchOk w n m t p v->linP w n t p=true->(zav n p v).2=true->VarsOk (zav n p v).1 (zaD w n t p)
 |0,m,t,p,v,h,_,_=>by have:=h.shape;simp[zas] at this
 |n+1,m,t,p,v,h,hl,hm=>by
  have hop:=zeh h.shape;have hnod:=of_decide_eq_true (ze5 w (n+1) t p h.shape hl);by_cases h5:p.op=5
  ·obtain⟨hk,k0,k1⟩:=h.two h5;have e1:=ztm (w:=w) (t:=t) h5;obtain⟨x,y,hxy⟩:∃x y,p.kids=[x,y]:=by
    match hp:p.kids,hk with
    | [x,y],_=>exact⟨x,y,rfl⟩
   have ex:nth p.kids 0=x:=by rw[hxy];rfl
   have ey:nth p.kids 1=y:=by rw[hxy];rfl
   simp only[linP,xad,if_pos h5,e1,hxy] at hl;rw[ex] at k0;rw[ey] at k1;have e2:zaD w (n+1) t p=zaD w n t x:=by
    simp only[zaD,zaR,zdz,e1,hxy,if_pos h5];rw[if_neg (by omega)];simp[za8]
   simp only[all2,xad,and_true] at hl;rw[e2];cases hm0:(zav n (nth p.kids 0) v).2 with
   |true=>
    rw[zeY h5 hm0];rw[ex] at hm0 ⊢;exact zfo n m k0 hl.1.1 hm0
   |false=>
    rw[zeZ h5 hm0] at hm ⊢;rw[ey] at hm ⊢;have k:=zfo n m k1 hl.1.2 hm;obtain⟨s1,s2⟩:=zr2 (ze5 w n t x k0.shape hl.1.1) (ze5 w n t y k1.shape hl.1.2) hl.2;exact⟨by rw[k.len];exact s1.symm,k.nod,fun z hz=>s2 z (k.sub z hz)⟩
  have hv:zdz w t p=zad w t p:=by unfold zdz;rw[if_neg h5]
  by_cases h1:p.op=1
  ·rw[zfK h1];have:zaD w (n+1) t p=[]:=by
    simp only[zaD,zaR,hv];rw[if_neg (by omega)];unfold zad;rw[if_neg (by omega),if_neg (by omega),if_neg (by omega)];simp[za8]
   rw[this];exact⟨rfl,by simp,by simp⟩
  by_cases h2:p.op=2
  ·rw[zfL h2];have:zaD w (n+1) t p=[⟨p.var,t⟩]:=by
    simp only[zaD,zaR,hv];rw[if_pos (by omega)];unfold zad;rw[if_neg (by omega),if_neg (by omega),if_neg (by omega)];simp[za8]
   rw[this];exact⟨rfl,by simp,by simp⟩
  by_cases h3:p.op=3
  ·rw[ze6 h3];have:zaD w (n+1) t p=[]:=by
    simp only[zaD,zaR,hv];rw[if_neg (by omega)];unfold zad;rw[if_neg (by omega),if_neg (by omega),if_neg (by omega)];simp[za8]
   rw[this];exact⟨rfl,by simp,by simp⟩
  simp only[linP,if_neg h5,xad] at hl;by_cases h6:p.op=6
  ·obtain⟨hk,k0⟩:=h.one h6;have e1:=ztn (w:=w) (t:=t) h6;obtain⟨x,hx⟩:∃x,p.kids=[x]:=by
    match hp:p.kids,hk with
    | [x],_=>exact⟨x,rfl⟩
   have ex:nth p.kids 0=x:=by rw[hx];rfl
   have e2:zaD w (n+1) t p=⟨p.var,t⟩::zaD w n t x:=by
    simp only[zaD,zaR,hv,e1,hx];rw[if_pos (by omega)];simp[za8]
   rw[zev h6] at hm ⊢;rw[e1,hx] at hl;simp only[all2,xad,and_true] at hl;rw[ex] at k0 hm ⊢;rw[e2] at hnod ⊢;have k:=zfo n m k0 hl.1 hm;rw[xae] at hnod;have hnod':=List.nodup_cons.1 hnod;refine⟨by simp[k.len], ?_,fun z hz=>?_⟩
   ·rw[xae];exact List.nodup_cons.2 ⟨fun hh=>hnod'.1 (k.sub _ hh),k.nod⟩
   ·rw[xae] at hz ⊢;rcases List.mem_cons.1 hz with h|h
    ·rw[h];exact List.mem_cons_self
    ·exact List.mem_cons_of_mem _ (k.sub z h)
  have h4:p.op=4:=by omega
  by_cases hc:p.ctor=v.ctor
  ·obtain⟨hlen,k,hk⟩:=h.kid h4 hc;rw[zfM h4 hc] at hm ⊢;have e2:zaD w (n+1) t p=za8 (zaD w n) (zad w t p) p.kids:=by
    simp only[zaD,zaR,hv];rw[if_neg (by omega),List.nil_append]
   rw[e2] at hnod ⊢;have hl2:=(zbo h.shape).2;obtain⟨X,e,kx⟩:=zkT (f:=zav n) (g:=zaD w n) (a:=zad w t p) (acc:=[]) hl2.symm hlen (fun i hi hmi hni=>zfo n k (hk i hi) (zdE hl2.symm hl.1 i (by omega)) hmi) hnod hm;rw[e,List.nil_append];exact kx
  ·rw[zfN h4 hc] at hm;exact absurd hm (by simp)
theorem zsP {w:List Data}{m:Nat}{t:Ty}{p:Pat}{v:Val} (h:MatchOk w 10 m t p v) (hp:isP w t p=true) (hm:(zav 10 p v).2=true):(zav 10 p v).1.length<=6:=by
 unfold isP at hp;simp only[xad] at hp;have k:=zfo 10 m h hp.2.2 hm;rw[k.len];have e:=(zfS w 10 t p 0).1;have hw:zbI w 10 t p 0=true:=by
  unfold zbI;rw[hp.1,hp.2.2];have:=of_decide_eq_true hp.2.1;simp;omega
 rw[if_pos hw] at e;have:=zlm w 10 t p 0 _ e;exact zod this.1 this.2
theorem zgn {w:List Data}:∀(n m:Nat){t:Ty}{p:Pat}{v:Val},MatchOk w n m t p v->(zav n p v).2=true->
  FnD Tryz.prog 112 [.agg [.d (.i p.op),.d (.i p.ctor),.d (.i p.n),.d (.i p.m),.d (.i p.var),.d (zaj p.kids)],.agg [.d (.i v.ctor),.d (.i v.num),.d (zbG v.kids)]] [] (.tup [.gv 9 ((zav n p v).1.map Bd.c),.d (.bool true)]) [(9,some (.tok ((zav n p v).1.map Bd.c).length 4))]
 |0,m,t,p,v,h,_=>by have:=h.shape;simp[zas] at this
 |n+1,m,t,p,v,h,hm=>by
  have hop:=zeh h.shape;have k4:=h.kid;have k5:=h.two;have k6:=h.one;have hsz:=h.psz;have hps:=Pat.size_eq p;have hkl:=((Pat.ok_iff p).1 h.pok).1;have mok:=fun {t:Ty}{q:Pat}{u:Val} (hs:zas w n t q=true) (hu:u.ok)=>zed n hs hu;by_cases h4:p.op=4
  ·have hc:p.ctor=v.ctor:=by
    by_cases hc:p.ctor=v.ctor
    ·exact hc
    ·rw[zfN h4 hc] at hm;exact absurd hm (by simp)
   obtain⟨hl,k,hkm⟩:=k4 h4 hc;have hm4:=zfM (n:=n) h4 hc;have hall:=fun(i:Nat) (hi:i<p.kids.length)=>zme (f:=zav n) (a:=p.kids) (b:=v.kids) (acc:=[]) (by rw[<-hm4];exact hm) i hi (by omega);refine bd Tryz.f112 105 [10] [] fun w0 F0 own kept hk=>?_;refine bx 3002 ?_;refine bx 3003 ?_;refine evs [10] [] ?_;refine sq ?_ ?_<;>intro h1 h1p h1s<;>(try simp only[Q,Pat.cs_len] at h1p);exfalso;omega;refine sq ?_ ?_<;>intro h2 h2p h2s<;>(try simp only[Q,Pat.cs_len] at h2p);exfalso;omega;refine sq ?_ ?_<;>intro h3 h3p h3s<;>(try simp only[Q,Pat.cs_len] at h3p);exfalso;omega;refine sq ?_ ?_<;>intro h4 h4p h4s<;>(try simp only[Q,Pat.cs_len] at h4p);exfalso;omega;refine sq ?_ ?_<;>intro h5 h5p h5s<;>(try simp only[Q,Pat.cs_len] at h5p);exfalso;omega;refine sq ?_ ?_<;>intro h6 h6p h6s<;>(try simp only[Q,Pat.cs_len] at h6p);exfalso;omega;refine xaG 9 4 .none rfl rfl ?_;refine tv ?_;refine xak (ι:=Nat×List Bd) hk (fun x=>[(83,.d (.i (x.1:Int))),(10,.gv 9 (x.2.map Bd.c))]) [4,5,11,12,13,14,84,85,86,87,88,89,90,91,92,93,94,95,96,97,98,99,100,101,102,103] (fun x=>[(9,some (.tok ((x.2.map Bd.c)).length 4))]) (fun x=>x.1<=p.kids.length/\zbl (zav n) (p.kids.drop x.1) (v.kids.drop x.1) x.2=zbl (zav n) p.kids v.kids []/\x.2.length+Pats.size (p.kids.drop x.1)<=Pats.size p.kids) (fun x=>p.kids.length-x.1) (0,[]) ⟨by simp,rfl,by simp⟩ ⟨⟨_,rfl,xar ?_⟩,⟨⟨_,rfl,LeA.gvg ?_⟩,trivial⟩⟩ ⟨zaa ?_,trivial⟩ (fun x=>rfl) (fun x hg1=>?_);iterate 3 focus (rfl)
   refine evc [10] [] ?_;refine sq ?_ ?_<;>intro h7 h7p h7s<;>(try simp only[Q,Pat.cs_len] at h7p);refine xaU sl26 .none rfl rfl rfl rfl (zaH (by omega)) rfl ?_;refine evs [10] [] ?_;refine ab 3012 tz28 ?_;refine evs [10] [] ?_;refine so ty28 ?_;refine tv ?_;refine xaU sl37 .none rfl rfl rfl rfl (znG (by omega)) rfl ?_;refine evd [10] [] ?_;refine wc zd5 (zb6 n k (hkm x.1 (by omega))) rfl rfl ?_;refine evd [10] [] ?_;refine dr ?_;refine sq ?_ ?_<;>intro h8 h8p h8s<;>(try simp only[Q,Pat.cs_len] at h8p);exfalso;have:=hall x.1 (by omega);simp_all;refine xaE sl40 zo1 .none rfl rfl rfl rfl (zfk rfl (by rfl)) (by intro x hx;exact zkg _ x hx) (by have:=(mok (hkm x.1 (by omega)).shape (hkm x.1 (by omega)).vok).2;have:=zdN (l:=p.kids) (i:=x.1) (by omega);have:=hg1.2.2;simp;omega) (by have:=(mok (hkm x.1 (by omega)).shape (hkm x.1 (by omega)).vok).2;have:=zdN (l:=p.kids) (i:=x.1) (by omega);have:=hg1.2.2;simp;omega) ?_;refine asg ?_;refine tv ?_;refine ar ?_;refine xah ((x.1+1,x.2++(zav n (nth p.kids x.1) (nth v.kids x.1)).1)) ⟨⟨by dsimp only;omega,by dsimp only;rw[<-zkS (by omega) (by omega) (hall x.1 (by omega))];exact hg1.2.1,by have:=(mok (hkm x.1 (by omega)).shape (hkm x.1 (by omega)).vok).2;have:=zdN (l:=p.kids) (i:=x.1) (by omega);have:=hg1.2.2;dsimp only;rw[xaa];omega⟩,(by dsimp only;omega),sx ⟨⟨_,rfl,xar ?_⟩,⟨⟨_,rfl,LeA.gvg ?_⟩,trivial⟩⟩ ⟨zaa ?_,trivial⟩⟩;iterate 3 focus ((simp;done))
   refine rn [(9,some (.tok ((zav (n+1) p v).1.map Bd.c).length 4))] (r2 rfl rfl) (.tup (.cons (.gvg ?_) (.cons (.eqd ?_) .nil))) ⟨rfl,rfl⟩ (SubH.get ⟨?_,trivial⟩) (zax rfl);rotate_left 3;all_goals (((first|rfl|(rw[hm4,<-hg1.2.1,zmf (by omega)];all_goals rfl));done))
  by_cases h5:p.op=5
  ·obtain⟨hl,k0,k1⟩:=k5 h5;cases hm0:(zav n (nth p.kids 0) v).2 with
   |true=>
    have e:=zeY (n:=n) h5 hm0;rw[e];refine bd Tryz.f112 105 [] [] fun w0 F0 own kept hk=>?_;refine bx 3002 ?_;refine bx 3003 ?_;refine ev ?_;refine sq ?_ ?_<;>intro h1 h1p h1s<;>(try simp only[Q,Pat.cs_len] at h1p);exfalso;omega;refine sq ?_ ?_<;>intro h2 h2p h2s<;>(try simp only[Q,Pat.cs_len] at h2p);exfalso;omega;refine sq ?_ ?_<;>intro h3 h3p h3s<;>(try simp only[Q,Pat.cs_len] at h3p);exfalso;omega;refine sq ?_ ?_<;>intro h4 h4p h4s<;>(try simp only[Q,Pat.cs_len] at h4p);refine xaU (i:=0) sl26 .none rfl rfl rfl rfl (zaH (by omega)) rfl ?_;refine evd [] [] ?_;refine Walk.call (cr:=[9]) zd5 (zgn n m k0 hm0) rfl .none rfl rfl (LeL.refl _) trivial rfl rfl rfl ?_;refine evd [] [] ?_;refine dr ?_;refine sq ?_ ?_<;>intro h5 h5p h5s<;>(try simp only[Q,Pat.cs_len] at h5p);refine rn [(9,some (.tok ((zav n (nth p.kids 0) v).1.map Bd.c).length 4))] (r2 rfl rfl) (.tup (.cons (.gvg ?_) (.cons (.eqd ?_) .nil))) ⟨rfl,rfl⟩ (SubH.get ⟨?_,trivial⟩) (zax rfl);rotate_left 3;exfalso;simp_all;exfalso;omega;all_goals (first|((rfl);done)|(rfl))
   |false=>
    have e:=zeZ (n:=n) h5 hm0;rw[e] at hm ⊢;have hf0:=zb6 n m k0;rw[hm0] at hf0;refine bd Tryz.f112 105 [] [] fun w0 F0 own kept hk=>?_;refine bx 3002 ?_;refine bx 3003 ?_;refine ev ?_;refine sq ?_ ?_<;>intro h1 h1p h1s<;>(try simp only[Q,Pat.cs_len] at h1p);exfalso;omega;refine sq ?_ ?_<;>intro h2 h2p h2s<;>(try simp only[Q,Pat.cs_len] at h2p);exfalso;omega;refine sq ?_ ?_<;>intro h3 h3p h3s<;>(try simp only[Q,Pat.cs_len] at h3p);exfalso;omega;refine sq ?_ ?_<;>intro h4 h4p h4s<;>(try simp only[Q,Pat.cs_len] at h4p);refine xaU (i:=0) sl26 .none rfl rfl rfl rfl (zaH (by omega)) rfl ?_;refine evd [] [] ?_;refine wc zd5 (hf0) rfl rfl ?_;refine evd [] [] ?_;refine dr ?_;refine sq ?_ ?_<;>intro h5 h5p h5s<;>(try simp only[Q,Pat.cs_len] at h5p);exfalso;simp_all;refine xaU (i:=1) sl26 .none rfl rfl rfl rfl (zaH (by omega)) rfl ?_;refine evd [] [] ?_;refine Walk.call (cr:=[9]) zd5 (zgn n m k1 hm) rfl .none rfl rfl (LeL.refl _) trivial rfl rfl rfl ?_;refine evd [] [] ?_;refine dr ?_;refine rn [(9,some (.tok ((zav n (nth p.kids 1) v).1.map Bd.c).length 4))] (r2 rfl rfl) (.tup (.cons (.gvg ?_) (.cons (.eqd ?_) .nil))) ⟨rfl,rfl⟩ (SubH.get ⟨?_,trivial⟩) (zax rfl);rotate_left 3;exfalso;omega;all_goals (first|((rfl);done)|(rfl))
  ·have hw:p.op=3->zar v.num p.n p.m=true:=fun h3=>by rw[ze6 h3] at hm;exact hm
   have h6m:p.op=6->(zav n (nth p.kids 0) v).2=true:=fun h6=>by rw[zev h6] at hm;exact hm
   refine bd Tryz.f112 105 [4] [] fun w0 F0 own kept hk=>?_;refine bx 3002 ?_;refine bx 3003 ?_;refine asg ?_;refine evs [4] [] ?_;refine sq ?_ ?_<;>intro h1 h1p h1s<;>(try simp only[Q,Pat.cs_len] at h1p);refine xaG 9 4 .none rfl rfl ?_;refine evs [4] [] ?_;refine rn [(9,some (.tok ((zav (n+1) p v).1.map Bd.c).length 4))] (r2 rfl rfl) (.tup (.cons (.gvg ?_) (.cons (.eqd ?_) .nil))) ⟨rfl,rfl⟩ (SubH.get ⟨?_,trivial⟩) (zax rfl);rotate_left 3;refine sq ?_ ?_<;>intro h2 h2p h2s<;>(try simp only[Q,Pat.cs_len] at h2p);refine bu [0,1] [_,_] zoV ?_;refine xbn 9 sl40 zmW rfl (by decide) (ks:=[0]) (xs:=[_]) rfl rfl (by decide) (by decide) .none rfl rfl rfl rfl rfl ?_;refine asg ?_;refine evs [4] [] ?_;refine rn [(9,some (.tok ((zav (n+1) p v).1.map Bd.c).length 4))] (r2 rfl rfl) (.tup (.cons (.gvg ?_) (.cons (.eqd ?_) .nil))) ⟨rfl,rfl⟩ (SubH.get ⟨?_,trivial⟩) (zax rfl);rotate_left 3;refine sq ?_ ?_<;>intro h3 h3p h3s<;>(try simp only[Q,Pat.cs_len] at h3p);refine wc zeM (zbj) rfl rfl ?_;refine xaG 9 4 .none rfl rfl ?_;refine evs [4] [] ?_;refine rn [(9,some (.tok ((zav (n+1) p v).1.map Bd.c).length 4))] (r2 rfl rfl) (.tup (.cons (.gvg ?_) (.cons (.eqd ?_) .nil))) ⟨rfl,rfl⟩ (SubH.get ⟨?_,trivial⟩) (zax rfl);rotate_left 3;refine sq ?_ ?_<;>intro h4 h4p h4s<;>(try simp only[Q,Pat.cs_len] at h4p);exfalso;omega;refine sq ?_ ?_<;>intro h5 h5p h5s<;>(try simp only[Q,Pat.cs_len] at h5p);refine xaU (i:=0) sl26 .none rfl rfl rfl rfl (zaH (by have:=(k6 (by omega)).1;omega)) rfl ?_;refine evd [4] [] ?_;refine wc zd5 (zb6 n m (k6 (by omega)).2) rfl rfl ?_;refine evd [4] [] ?_;refine dr ?_;refine bu [0,1] [_,_] zoV ?_;refine xbn 9 sl40 zmW rfl (by decide) (ks:=[0]) (xs:=[_]) rfl rfl (by decide) (by decide) .none rfl rfl rfl rfl rfl ?_;refine evs [4] [] ?_;refine xaE sl40 zo1 .none rfl rfl rfl rfl (zfk rfl (by rfl)) (by intro x hx;exact zkg _ x hx) (by have:=(mok (k6 (by omega)).2.shape h.vok).2;have:=zbU (l:=p.kids) (i:=0) (by have:=(k6 (by omega)).1;omega);simp;omega) (by have:=(mok (k6 (by omega)).2.shape h.vok).2;have:=zbU (l:=p.kids) (i:=0) (by have:=(k6 (by omega)).1;omega);simp;omega) ?_;refine evs [4] [] ?_;refine asg ?_;refine evs [4] [] ?_;refine rn [(9,some (.tok ((zav (n+1) p v).1.map Bd.c).length 4))] (r2 rfl rfl) (.tup (.cons (.gvg ?_) (.cons (.eqd ?_) .nil))) ⟨rfl,rfl⟩ (SubH.get ⟨?_,trivial⟩) (zax rfl);rotate_left 3;exfalso;omega;all_goals (first|((first|rfl|(rw[zfK (by omega)];all_goals rfl)|(rw[zfL (by omega)];all_goals rfl)|(rw[ze6 (by omega)];all_goals first|rfl|(rw[hw (by omega)];done))|(rw[zev (by omega)];all_goals first|rfl|(rw[h6m (by omega)];done))|(rw[hw (by omega)];done)|(rw[h6m (by omega)];done));done)|(first|(rw[zfK (by omega)];all_goals rfl)|(rw[zfL (by omega)];all_goals rfl)|(rw[ze6 (by omega)];all_goals rfl)|(rw[zev (by omega)];show some (Res.tok _ _)=some (Res.tok _ _);simp;omega)))
theorem zsr {n:Nat}{S:List Bd} (h:n=S.length):zbt n 4 (bdC S)=some (S.map Bd.c):=by
 rw[h,<-xac (f:=Bd.c)];exact ztx S
theorem idsD (l:List D):AV.idsL (l.map AV.d)=[]:=by
 induction l with
 |nil=>rfl
 |cons x r ih=>simpa [AV.idsL,AV.ids] using ih
theorem zl3 {w:List Data}{m:Nat}{t:Ty}{p:Pat}{v:Val} (h:MatchOk w 10 m t p v) (hp:isP w t p=true):
  FnD Tryz.prog 65 [.agg [.d (.i p.op),.d (.i p.ctor),.d (.i p.n),.d (.i p.m),.d (.i p.var),.d (zaj p.kids)],.agg [.d (.i v.ctor),.d (.i v.num),.d (zbG v.kids)]] [] (.tup [.d (zpq (zfO 10 p v).1),.d (.bool (zfO 10 p v).2)]) []:=by
 unfold zfO;cases hm:(zav 10 p v).2 with
 |false=>
  have hf:=zb6 10 m h;rw[hm] at hf;rw[if_neg (by simp)];refine bd Tryz.f65 36 [] [] fun w0 F0 own kept hk=>?_;refine bx 3002 ?_;refine bx 3003 ?_;refine ev ?_;refine wc zd5 (hf) rfl rfl ?_;refine ev ?_;refine sq ?_ ?_<;>intro h1 h1p h1s<;>(try simp only[Q] at h1p);refine rn0 (r2 rfl rfl) (.tup (.cons (.nild ?_) (.cons (.eqd ?_) .nil)));rotate_left 2;exfalso;simp_all;all_goals (rfl)
 |true=>
  have hf:=zgn 10 m h hm;have h6:=zsP h hp hm;have hbo:=zt8 (zed 10 h.shape h.vok).1;have hsl:=ztf (zav 10 p v).1;have hvs:=h.vsz;rw[if_pos rfl];have hLm:∀L:List Bd,(L.map Bd.c).length=L.length:=fun L=>by simp
  have hLm:=hLm (zav 10 p v).1;have hso:zdq ((zav 10 p v).1.length-1) 1 (zav 10 p v).1=zkv (zav 10 p v).1:=rfl;generalize (zav 10 p v).1=L at *;generalize hS:zkv L=S at *;have hrow:∀ {i:Nat},i<L.length->(nth S i).val.ok/\(nth S i).val.size<=v.size:=fun hi=>hbo _ (zah (by omega));refine bd Tryz.f65 36 [26] [4,999999] fun w0 F0 own kept hk=>?_;refine Walk.box (id:=3002) .none rfl rfl rfl (by rfl) (by rfl) (by rfl) (by rfl) ?_;refine Walk.box (id:=3003) .none rfl rfl rfl (by rfl) (by rfl) (by rfl) (by rfl) ?_;refine evs [26] [] ?_;refine Walk.call (cr:=[9]) zd5 (hf) rfl .none rfl rfl (LeL.refl _) trivial rfl rfl rfl ?_;refine evs [26] [] ?_;refine sq ?_ ?_<;>intro h1 h1p h1s<;>(try simp only[Q,xac] at h1p);exfalso;simp_all;refine CWp.fixV hk 6 9 4 rfl rfl rfl (fun hx2=>?_) (fun hx2=>?_);refine evc [26] [] ?_;refine Walk.call (cr:=[]) zr6 (zjc) rfl .none rfl rfl (LeL.refl _) trivial rfl (by rfl) (by rfl) ?_;refine tv ?_;refine xak (ι:=Unit) hk (fun u=>[(22,.d (.i 0))]) [8,9,23,24,25,26,27,28,29,30,31,32,33,34] (fun u=>[]) (fun u=>True) (fun u=>0) () trivial ⟨⟨_,rfl,xar ?_⟩,trivial⟩ trivial (fun x=>rfl) (fun u hg1=>?_);focus (rfl)
  refine evc [26] [4,999999] ?_;refine sq ?_ ?_<;>intro h3 h3p h3s<;>(try simp only[Q,xac] at h3p);exfalso;simp at h3;refine CWp.ret ?_;refine rn0 (r2 rfl rfl) (.tup (.cons (.eqd ?_) (.cons (.eqd ?_) .nil)));rotate_left 2;refine evc [26] [] ?_;refine Walk.call (cr:=[]) zr6 (zj4 (L:=L) (by omega) zvN (fun a b=>zkB)) rfl .none rfl rfl (.cons (xat (by(simp[xac];done))) (.cons (.refl _) .nil)) ⟨rfl,trivial⟩ rfl zjO rfl ?_;refine tv ?_;refine xak (ι:=Nat) hk (fun i=>[(22,.d (.i (i:Int)))]) [8,9,23,24,25,26,27,28,29,30,31,32,33,34] (fun i=>[(9,some (.box (bdC S)))]) (fun i=>i<=L.length) (fun i=>L.length-i) 0 (by omega) ⟨⟨_,rfl,xar ?_⟩,trivial⟩ ⟨?_,trivial⟩ (fun x=>rfl) (fun i hg1=>?_);focus (rfl)
  focus ((show some (Res.box _)=some (Res.box _);rw[hso]))
  refine evc [26] [4,999999] ?_;refine sq ?_ ?_<;>intro h4 h4p h4s<;>(try simp only[Q,xac] at h4p);refine xaY sl40 .none rfl rfl rfl rfl (by omega) ?_;refine xa1 zhM .none rfl rfl rfl ((zhZ (by omega))) ?_;refine Walk.alloc (id:=3009) zmW rfl .none rfl (by(simp only[zaw,occH,occE,Res.ids,xag,List.nil_append,AV.idsL,AV.ids,zag,zaf,zaq,zaF,xae,List.map_nil,upC,idsD,ze2];rfl)) (by(simp only[zaw,occH,occE,Res.ids,xag,List.nil_append,AV.idsL,AV.ids,zag,zaf,zaq,zaF,xae,List.map_nil,upC,idsD,ze2];rfl)) (by(simp only[zaw,occH,occE,Res.ids,xag,List.nil_append,AV.idsL,AV.ids,zag,zaf,zaq,zaF,xae,List.map_nil,upC,idsD,ze2];rfl)) ?_;refine evs [26] [] ?_;refine so zhM ?_;refine tv ?_;refine Walk.call (cr:=[]) zrp (zeW (nth S i).val.size (Nat.le_refl _) (hrow (by omega)).1) rfl .none rfl rfl (LeL.refl _) trivial rfl (by rfl) (by rfl) ?_;refine xaY sl40 .none rfl rfl rfl rfl (by omega) ?_;refine evs [26] [] ?_;refine Walk.store ty44 .none rfl rfl rfl rfl rfl rfl (by simp) ((zs3 (by omega))) ?_;refine tv ?_;refine ar ?_;refine xah (i+1) ⟨(by omega),(by omega),sx ⟨⟨_,rfl,xar ?_⟩,trivial⟩ ⟨?_,trivial⟩⟩;focus (rfl)
  focus (rfl)
  refine CWp.frz hk 4 9 _ _ rfl rfl (zsr (by simp;omega)) rfl ?_;refine CWp.ret ?_;refine rn0 (r2 rfl rfl) (.tup (.cons (.eqd ?_) (.cons (.eqd ?_) .nil)));rotate_left 2;all_goals (first|rfl|(rw[show S=[] from List.eq_nil_of_length_eq_zero (by have hz:L.map Bd.c=[]:=(by assumption);have hz2:=congrArg List.length hz;simp only[xai] at hz2;omega)];rfl))
def zfJ (w:List Data) (a k:Int) (p:Pat) (v:Val):List Bd×Bool:=if zaW w a k p=true/\isV w ⟨a,k⟩ v=true then zfO 10 p v else ([],false)
theorem ztO {w:List Data}{a k:Int}{p:Pat}{v:Val} (h1:isP w ⟨a,k⟩ p=true) (h2:isV w ⟨a,k⟩ v=true) (hp:p.ok) (hv:v.ok):MatchOk w 10 10 ⟨a,k⟩ p v:=by
 unfold isP at h1;unfold isV at h2;simp only[xad,decide_eq_true_eq] at h1 h2;exact⟨h1.1,h2.1,hp,hv,by omega,by omega⟩
theorem ziA {w:List Data} (hs:WSmall w){a k:Int}{p:Pat}{v:Val} (hp:p.ok) (hv:v.ok):
  FnD Tryz.prog 23 [.d (zan w),.agg [.d (.i a),.d (.i k)],.agg [.d (.i p.op),.d (.i p.ctor),.d (.i p.n),.d (.i p.m),.d (.i p.var),.d (zaj p.kids)],.agg [.d (.i v.ctor),.d (.i v.num),.d (zbG v.kids)]] [] (.tup [.d (zpq (zfJ w a k p v).1),.d (.bool (zfJ w a k p v).2)]) []:=by
 have hpv:=zcB hs (a:=a) (k:=k) hp;have pv:=pval hs (a:=a) (k:=k) (p:=p);have hpi:zaW w a k p=true->isP w ⟨a,k⟩ p=true:=fun h=>by unfold zaW at h;rw[xad] at h;exact h.2
 refine bd Tryz.f23 27 [] [] fun w0 F0 own kept hk=>?_;refine bx 3005 ?_;refine bx 3006 ?_;refine bx 3007 ?_;refine ev ?_;refine wc zil (hpv) rfl rfl ?_;refine ev ?_;refine sq ?_ ?_<;>intro h1 h1p h1s<;>(try simp only[Q] at h1p);refine sqT ?_;refine rn0 (r2 rfl rfl) (.tup (.cons (.nild ?_) (.cons (.eqd ?_) .nil)));rotate_left 2;refine Walk.call (cr:=[]) zwO (zl8 (pv (by assumption)).dp.wt (pv (by assumption)).tin hv) rfl (.some rfl rfl h1) rfl rfl (LeL.refl _) trivial rfl rfl rfl ?_;refine evs [] [(15,false)] ?_ ⟨⟨_,rfl,h1⟩,trivial⟩;refine sq ?_ ?_<;>intro h3 h3p h3s<;>(try simp only[Q] at h3p);refine rn0 (r2 rfl rfl) (.tup (.cons (.nild ?_) (.cons (.eqd ?_) .nil)));rotate_left 2;refine wc zwP (zl3 (ztO (hpi (by simp_all)) (by simp_all) hp hv) (hpi (by simp_all))) rfl rfl ?_;refine ev ?_;refine rn0 (r2 rfl rfl) (.tup (.cons (.eqd ?_) (.cons (.eqd ?_) .nil)));rotate_left 2;all_goals (unfold zfJ;first|(rw[if_pos ⟨by simp_all,by simp_all⟩];all_goals rfl)|(rw[if_neg (by intro hh;simp_all)];all_goals rfl))
theorem zne {α β:Type}{g:α->List β}{K:Nat}:∀(l:List α),(∀x∈l,(g x).length<=K)->(l.flatMap g).length<=l.length*K
 | [],_=>by simp
 |x::r,h=>by
  have h1:=h x (by simp);have h2:=zne r (fun y hy=>h y (by simp[hy]));rw[List.flatMap_cons,xaa,xab,Nat.add_mul];omega
theorem zoq {w:List Data}{t:Ty}{l away:List Pat}{i:Nat} (h:i<away.length):subL w t l (away.drop i)=if (zew w t l (nth away i)).length<=400 then subL w t (zew w t l (nth away i)) (away.drop (i+1)) else none:=by
 rw[zaN h,subL]
theorem zub {w:List Data}{t:Ty}{l away:List Pat}{i:Nat} (h:away.length<=i):subL w t l (away.drop i)=some l:=by
 rw[List.drop_eq_nil_of_le h,subL]
theorem zmp (p:Pat):(za0 p).length<=40:=by unfold za0;split;assumption;simp
theorem zkW {w:List Data}{t:Ty}{p:Pat} (h:zas w 10 t p=true):∀x∈za0 p,zak w 10 t x=true:=fun x hx=>by
 unfold za0 at hx;split at hx
 ·exact zhe 10 h x hx
 ·simp at hx
theorem zgr {w:List Data}{t:Ty}:∀(away l r:List Pat),(∀a∈l,zak w 11 t a=true)->l.length<=400->(∀b∈away,zak w 10 t b=true)->subL w t l away=some r->r.length<=400/\∀x∈r,zak w 11 t x=true
 | [],l,r,hl,hn,_,h=>by rw[subL] at h;cases h;exact⟨hn,hl⟩
 |b::away,l,r,hl,hn,hb,h=>by
  rw[subL] at h;split at h
  ·rename_i h4;exact zgr away _ r (zgF hl (hb b (by simp))) h4 (fun x hx=>hb x (by simp[hx])) h
  ·cases h
theorem zl9 {w:List Data} (hs:Spa w){ta tk:Int} (ht:InS (w.length*4) ⟨ta,tk⟩){l away:List Pat} (hl:∀a∈l,zak w 11 ⟨ta,tk⟩ a=true) (hb:∀b∈away,zak w 10 ⟨ta,tk⟩ b=true) (hll:l.length<=400) (hal:away.length<=2000):
  FnD Tryz.prog 49 [.d (sPtr w (zai w)),.agg [.d (.i ta),.d (.i tk)],.d (zaj l),.d (zaj away)] [] (.tup [.d (zaj ((zbc w ⟨ta,tk⟩ l away).getD [])),.d (.bool (zbc w ⟨ta,tk⟩ l away).isSome)]) []:=by
 have hlf:(l.filter (zcz w ⟨ta,tk⟩)).length<=l.length:=List.length_filter_le _ _;have hmb:∀(c:List Pat) (i:Nat),(∀a∈c,zak w 11 ⟨ta,tk⟩ a=true)->i<away.length->∀x∈c,(zaB w 10 ⟨ta,tk⟩ x (nth away i)).length<=20000000:=fun c i hc hi x hx=>zlg hs (by omega) (by omega) ht (hc x hx) (hb _ (zah hi));have hnp:∀(c:List Pat) (i:Nat),(∀a∈c,zak w 11 ⟨ta,tk⟩ a=true)->i<away.length->∀x∈(c.flatMap fun a=>zaB w 10 ⟨ta,tk⟩ a (nth away i)),zak w 11 ⟨ta,tk⟩ x=true:=fun c i hc hi x hx=>by
  obtain⟨a,ha,hx⟩:=List.mem_flatMap.1 hx;exact zgE 10 11 (by omega) (hc a ha) (hb _ (zah hi)) x hx
 have hpre:∀ {pre rest c:List Pat}{y:Pat} (i:Nat),(∀a∈c,zak w 11 ⟨ta,tk⟩ a=true)->c.length<=400->i<away.length->pre++y::rest=c->(pre.flatMap fun a=>zaB w 10 ⟨ta,tk⟩ a (nth away i)).length<=8000000000/\(zaB w 10 ⟨ta,tk⟩ y (nth away i)).length<=20000000:=fun {pre rest c y} i hc h4 hi h=>by
  have h1:=zne (g:=fun a=>zaB w 10 ⟨ta,tk⟩ a (nth away i)) (K:=20000000) pre (fun x hx=>hmb c i hc hi x (by rw[<-h];simp[hx]));have h2:=hmb c i hc hi y (by rw[<-h];simp);have h3:=congrArg List.length h;simp only[xaa,xab] at h3;exact⟨by omega,h2⟩
 refine bd Tryz.f49 48 [12] [11] fun w0 F0 own kept hk=>?_;refine bx 3005 ?_;refine evs [12] [] ?_;refine wc zuu (zh3 hs ht hl (by omega)) rfl rfl ?_;refine evs [12] [] ?_;refine xak (ι:=Nat×List Pat) hk (fun s=>[(21,.d (.i (s.1:Int))),(2,.d (zaj s.2))]) [8,9,11,12,14,22,23,24,25,26,27,28,29,30,31,32,33,34,35,36,37,38,39,40,41,42,43,44,45,46] (fun s=>[]) (fun s=>s.1<=away.length/\subL w ⟨ta,tk⟩ s.2 (away.drop s.1)=zbc w ⟨ta,tk⟩ l away/\(∀a∈s.2,zak w 11 ⟨ta,tk⟩ a=true)/\s.2.length<=400) (fun s=>away.length-s.1) (0,l.filter (zcz w ⟨ta,tk⟩)) ⟨by simp,rfl,fun a ha=>hl a (List.mem_filter.1 ha).1,by dsimp only;omega⟩ ⟨⟨_,rfl,xar ?_⟩,⟨⟨_,rfl, ?_⟩,trivial⟩⟩ trivial (fun x=>rfl) (fun s hg1=>?_);focus (rfl)
 focus (exact LeA.refl _)
 refine evc [12] [11] ?_;refine sq ?_ ?_<;>intro h1 h1p h1s<;>(try simp only[Q,Pat.cs_len] at h1p);refine xaU sl26 .none rfl rfl rfl rfl (zaH (by omega)) rfl ?_;refine evs [12] [] ?_;refine ab 3011 tz28 ?_;refine so ty28 ?_;refine tv ?_;refine xaF 9 6 .none rfl rfl ?_;refine tv ?_;refine xak (ι:=List (Pat)×List (Pat)) hk (fun x=>[(27,.d (.i (x.1.length:Int))),(12,.gl 9 (Pat.cs (x.1.flatMap fun a=>zaB w 10 ⟨ta,tk⟩ a (nth away s.1))))]) [14,28,29,30,31,32,33,34,35,36,37,38] (fun x=>[(9,some (.tok ((Pat.cs (x.1.flatMap fun a=>zaB w 10 ⟨ta,tk⟩ a (nth away s.1)))).length 6))]) (fun x=>x.1++x.2=s.2) (fun x=>x.2.length) ([],s.2) (by simp) ⟨⟨_,rfl,xar ?_⟩,⟨⟨_,rfl,LeA.glg ?_⟩,trivial⟩⟩ ⟨zaa ?_,trivial⟩ (fun x=>rfl) (fun x hg2=>?_);iterate 3 focus (rfl)
 obtain⟨pre,rest⟩:=x;dsimp only at hg2 ⊢;refine evc [12] [11] ?_;refine sq ?_ ?_<;>intro h2 h2p h2s<;>(try simp only[Q,Pat.cs_len] at h2p);rcases rest with _|⟨y,rest⟩
 ·exfalso;simp_all
 refine xaU sl26 .none rfl rfl rfl rfl (Pat.cs_at' hg2) rfl ?_;refine evs [12] [] ?_;refine ab 3014 tz28 ?_;refine so ty28 ?_;refine tv ?_;refine wc zrq (ziY hs 10 11 (by omega) (by omega) (by omega) ht (hg1.2.2.1 y (by rw[<-hg2];simp)) (hb _ (zah (by omega)))) rfl rfl ?_;refine ap sl26 zz28 rfl rfl rfl (by exact zee _) (by have h9:=hpre s.1 hg1.2.2.1 hg1.2.2.2 (by omega) hg2;simp only[Pat.cs_len];omega) ?_;refine asg ?_;refine tv ?_;refine ar ?_;refine xah ((pre++[y],rest)) ⟨(by have hz:=hg2;rw[<-hz];simp),(by simp),sx ⟨⟨_,rfl,xar ?_⟩,⟨⟨_,rfl,LeA.glg ?_⟩,trivial⟩⟩ ⟨zaa ?_,trivial⟩⟩;iterate 3 focus (first|(rw[List.flatMap_append,xav,xav,xav,xaf];simp;done)|(simp[Pat.cs_len];done))
 have hrest:rest=[]:=by
  rcases rest with _|⟨a,b⟩
  ·rfl
  ·exfalso;have hz:=congrArg List.length (hg2);simp only[xaa,xab,xac] at hz;omega
 subst hrest;obtain rfl:pre=s.2:=(by simpa using hg2);refine evc [12] [] ?_;refine Walk.call (cr:=[]) zuu (zh3 hs ht (l:=s.2.flatMap fun a=>zaB w 10 ⟨ta,tk⟩ a (nth away s.1)) (hnp s.2 s.1 hg1.2.2.1 (by omega)) (by have:=zne (g:=fun a=>zaB w 10 ⟨ta,tk⟩ a (nth away s.1)) (K:=20000000) s.2 (hmb s.2 s.1 hg1.2.2.1 (by omega));omega)) rfl .none rfl rfl (.cons (.refl _) (.cons (.refl _) (.cons (.gl _ _) .nil))) trivial rfl rfl rfl ?_;refine evs [12] [] ?_;refine sq ?_ ?_<;>intro h3 h3p h3s<;>(try simp only[Q,Pat.cs_len] at h3p);refine rn0 (r2 rfl rfl) (.tup (.cons (.nild ?_) (.cons (.eqd ?_) .nil)));rotate_left 2;refine ar ?_;refine xah ((s.1+1,zew w ⟨ta,tk⟩ s.2 (nth away s.1))) ⟨(by
    have h4:(zew w ⟨ta,tk⟩ s.2 (nth away s.1)).length<=400:=by unfold zew;omega
    refine⟨by dsimp only;omega, ?_,zgF hg1.2.2.1 (hb _ (zah (by omega))),h4⟩;have e:=zoq (w:=w) (t:=⟨ta,tk⟩) (l:=s.2) (away:=away) (i:=s.1) (by omega);rw[if_pos h4] at e;dsimp only;rw[<-e];exact hg1.2.1),(by dsimp only;omega),sx ⟨⟨_,rfl,xar ?_⟩,⟨⟨_,rfl, ?_⟩,trivial⟩⟩ trivial⟩
 focus (rfl)
 focus (exact LeA.refl _)
 refine rn0 (r2 rfl rfl) (.tup (.cons (.eqd ?_) (.cons (.eqd ?_) .nil)));rotate_left 2;all_goals (first|(rw[<-hg1.2.1,zoq (by omega),if_neg (by unfold zew;omega)];rfl)|(rw[<-hg1.2.1,zub (by omega)];rfl))
theorem zlc {w:List Data} (hs:Spa w){f:Nat->Nat}{ta tk:Int} (ht:InS (w.length*4) ⟨ta,tk⟩){p:Pat} (hp:p.ok):
  FnD Tryz.prog 95 [.agg [.d (.i p.op),.d (.i p.ctor),.d (.i p.n),.d (.i p.m),.d (.i p.var),.d (zaj p.kids)],.ref 3004 0,.ref 3005 0] [(3004,some (.box [.d (sPtr w f)])),(3005,some (.box [.d (.i ta),.d (.i tk)]))] (.d (.bool (!isP w ⟨ta,tk⟩ p))) []:=by
 refine bd Tryz.f95 13 [] [] fun w0 F0 own kept hk=>?_;refine bx 3001 ?_;refine ev ?_;refine wc zoN (zeF hs.dp.wt (zcO ht) hp) rfl rfl ?_;refine evd [] [] ?_;refine dr ?_;refine rn [] (r1 rfl) (.eqd ?_) ⟨rfl,rfl⟩ (SubH.get ⟨rfl,⟨rfl,trivial⟩⟩) (fun _ h=>h);rotate_left;all_goals (rfl)
theorem zh4 {w:List Data} (hs:Spa w){f:Nat->Nat}{ta tk:Int} (ht:InS (w.length*4) ⟨ta,tk⟩){l:List Pat}{ok:Bool} (hl:∀a∈l,a.ok) (hb:l.length<=1000000000000):
  FnD Tryz.prog 50 [.d (sPtr w f),.agg [.d (.i ta),.d (.i tk)],.d (zaj l),.d (.bool ok)] [] (.tup [.d (zaj (if (ok&&l.all (isP w ⟨ta,tk⟩))=true then l else [])),.d (.bool (ok&&l.all (isP w ⟨ta,tk⟩)))]) []:=by
 have hall:(l.any fun p=> !isP w ⟨ta,tk⟩ p) = !(l.all (isP w ⟨ta,tk⟩)):=by
  induction l with
  |nil=>rfl
  |cons x r ih=>rw[List.any_cons,List.all_cons,ih (fun a ha=>hl a (by simp[ha])) (by simp at hb;omega),Bool.not_and]
 have hcf:=zgp (xs:=l) (p:=fun p=> !isP w ⟨ta,tk⟩ p) (caps:=[.ref 3004 0,.ref 3005 0]) (hp:=[(3004,some (.box [.d (sPtr w f)])),(3005,some (.box [.d (.i ta),.d (.i tk)]))]) hb zwV (fun q hq=>zlc hs ht (hl q hq)) ⟨rfl,rfl,trivial⟩ rfl rfl;rw[hall] at hcf;clear hall;generalize l.all (isP w ⟨ta,tk⟩)=q at hcf ⊢;refine bd Tryz.f50 19 [] [] fun w0 F0 own kept hk=>?_;refine bx 3004 ?_;refine bx 3005 ?_;refine ev ?_;refine sq ?_ ?_<;>intro h1 h1p h1s<;>(try simp only[Q] at h1p);refine sqT ?_;refine rn0 (r2 rfl rfl) (.tup (.cons (.nild ?_) (.cons (.eqd ?_) .nil)));rotate_left 2;refine xaM (xs:=[_,_]) rfl (.some rfl rfl h1) rfl rfl ?_;refine Walk.call (cr:=[]) zwU (hcf) rfl (.some rfl rfl h1) rfl rfl (LeL.refl _) ⟨rfl,rfl,trivial⟩ rfl rfl rfl ?_;refine evs [] [(12,false)] ?_ ⟨⟨_,rfl,h1⟩,trivial⟩;refine sq ?_ ?_<;>intro h3 h3p h3s<;>(try simp only[Q] at h3p);refine rn0 (r2 rfl rfl) (.tup (.cons (.nild ?_) (.cons (.eqd ?_) .nil)));rotate_left 2;refine wc zwW (zi8 hb hl) rfl rfl ?_;refine ev ?_;refine rn0 (r2 rfl rfl) (.tup (.cons (.eqd ?_) (.cons (.eqd ?_) .nil)));rotate_left 2;all_goals ((cases ok<;>cases q<;>first|rfl|(exfalso;simp_all;done)))
theorem zpp {w:List Data}{f:Nat->Nat}{n:Nat}{t:Ty}{p:Pat} (h:p.op=3) (hk:p.kids=[]):zaQ w f (n+1) t p=false:=by
 have e:zad w t p=[]:=by unfold zad;rw[if_neg (by omega),if_neg (by omega),if_neg (by omega)]
 rw[zbe,if_neg (by omega),if_neg (by omega),e,hk];rfl
theorem zk5 {w:List Data}{f:Nat->Nat}{n:Nat}{t:Ty}{p:Pat} (h:p.op=6) (hk:p.kids.length=1):zaQ w f (n+1) t p=zaQ w f n t (nth p.kids 0):=by
 have e:zad w t p=[t]:=by unfold zad;rw[if_neg (by omega),if_neg (by omega),if_pos (by omega)]
 rw[zbe,if_neg (by omega),if_neg (by omega),e];match hkk:p.kids,hk with
 | [x],_=>
  show(!((!zaQ w f n t x)&&true))=zaQ w f n t x
  cases zaQ w f n t x<;>rfl
theorem zbV {w:List Data} (hs:Spa w):∀(n:Nat){a k:Int}{p:Pat},zas w n ⟨a,k⟩ p=true->InS (w.length*4) ⟨a,k⟩->p.ok->
  FnD Tryz.prog 76 [.d (zan w),.d (zjs (w.length*4) (zai w)),.agg [.d (.i a),.d (.i k)],.agg [.d (.i p.op),.d (.i p.ctor),.d (.i p.n),.d (.i p.m),.d (.i p.var),.d (zaj p.kids)]] [] (.d (.bool (!zaQ w (zai w) n ⟨a,k⟩ p))) []
 |0,a,k,p,h,_,_=>by simp[zas] at h
 |n+1,a,k,p,h,hi,hok=>by
  rw[Pat.ok_iff] at hok;have hd:=hs.dp;have hw:=hd.wt;have hw4:=hd.four;have hdp:=zd3 (f:=zai w) hi (by omega);have ht:=zcO hi;have pk:=zuM (k:=k) h;obtain⟨ho,hlen⟩:=zbo h;have hkid:=fun i (hi:i<p.kids.length)=>zbw h hi;have hops:=pk.ops;have hk1:=pk.one;have hk2:=pk.two;have l5:=pk.len5;by_cases h4:p.op=4
  ·rw[zbh h4] at hlen hkid;have c1:=pk.mem h4;have ih:=fun i (hi2:i<p.kids.length)=>zbV hs n (a:=(nth (zab w ⟨a,k⟩ p.ctor) i).data) (k:=(nth (zab w ⟨a,k⟩ p.ctor) i).index) (p:=nth p.kids i) (hkid i hi2) (zbR hd hi c1 _ (zah (by omega))) (Pats.ok_mem hok.2 _ (zah hi2));have hlb:(zab w ⟨a,k⟩ p.ctor).length<=1000000000000:=by have:=hok.1;omega
   rw[zbe,if_neg (by omega),if_neg (by omega),zbh h4,Bool.not_not];refine bd Tryz.f76 76 [] [] fun w0 F0 own kept hk=>?_;refine bx 3006 ?_;refine bx 3007 ?_;refine ev ?_;refine sq ?_ ?_<;>intro h1 h1p h1s<;>(try simp only[Q,Pat.cs_len] at h1p);refine sq ?_ ?_<;>intro h2 h2p h2s<;>(try simp only[Q,Pat.cs_len] at h2p);exfalso;omega;refine sq ?_ ?_<;>intro h3 h3p h3s<;>(try simp only[Q,Pat.cs_len] at h3p);exfalso;omega;refine sq ?_ ?_<;>intro h4 h4p h4s<;>(try simp only[Q,Pat.cs_len] at h4p);exfalso;omega;refine sq ?_ ?_<;>intro h5 h5p h5s<;>(try simp only[Q,Pat.cs_len] at h5p);exfalso;omega;refine wc zg1 (zcy hw ht c1) rfl rfl ?_;refine ev ?_;refine xak (ι:=Nat) hk (fun i=>[(10,.d (.i (i:Int)))]) [8,57,58,59,60,61,62,63,64,65,66,67,68,69,70,71,72,73,74,75] (fun i=>[]) (fun i=>i<=(zab w ⟨a,k⟩ p.ctor).length/\∀i',i'<i->(!zaQ w (zai w) n (nth (zab w ⟨a,k⟩ p.ctor) i') (nth p.kids i'))=true) (fun i=>(zab w ⟨a,k⟩ p.ctor).length-i) 0 ⟨by omega,fun _ h=>absurd h (by omega)⟩ ⟨⟨_,rfl,xar ?_⟩,trivial⟩ trivial (fun x=>rfl) (fun i hg1=>?_);focus (first|rfl|(simp;done)|(simp_all;done)|omega)
   refine evc [] [] ?_;refine sq ?_ ?_<;>intro h6 h6p h6s<;>(try simp only[Q,Pat.cs_len] at h6p);refine xaU zaT .none rfl rfl rfl rfl (zat (by omega)) rfl ?_;refine evd [] [] ?_;refine xaU sl26 .none rfl rfl rfl rfl (zaH (by omega)) rfl ?_;refine evd [] [] ?_;refine wc zgy (ih i (by omega)) rfl rfl ?_;refine evd [] [] ?_;refine dr ?_;refine sq ?_ ?_<;>intro h7 h7p h7s<;>(try simp only[Q,Pat.cs_len] at h7p);refine rq ?_;rotate_left;refine ar ?_;refine xah (i+1) ⟨⟨by omega,za7 hg1.2 (by first|assumption|(simp;assumption)|(simp_all;done))⟩,(by omega),sx ⟨⟨_,rfl,xar ?_⟩,trivial⟩ trivial⟩;focus (first|rfl|(simp;done)|(simp_all;done)|omega)
   refine rq ?_;rotate_left;refine sq ?_ ?_<;>intro h8 h8p h8s<;>(try simp only[Q,Pat.cs_len] at h8p);exfalso;omega;refine sq ?_ ?_<;>intro h9 h9p h9s<;>(try simp only[Q,Pat.cs_len] at h9p);exfalso;omega;refine sq ?_ ?_<;>intro h10 h10p h10s<;>(try simp only[Q,Pat.cs_len] at h10p);exfalso;omega;refine sq ?_ ?_<;>intro h11 h11p h11s<;>(try simp only[Q,Pat.cs_len] at h11p);exfalso;omega;refine wc zg1 (zcy hw ht c1) rfl rfl ?_;refine ev ?_;refine xak (ι:=Nat) hk (fun i=>[(10,.d (.i (i:Int)))]) [8,57,58,59,60,61,62,63,64,65,66,67,68,69,70,71,72,73,74,75] (fun i=>[]) (fun i=>i<=(zab w ⟨a,k⟩ p.ctor).length/\∀i',i'<i->(!zaQ w (zai w) n (nth (zab w ⟨a,k⟩ p.ctor) i') (nth p.kids i'))=true) (fun i=>(zab w ⟨a,k⟩ p.ctor).length-i) 0 ⟨by omega,fun _ h=>absurd h (by omega)⟩ ⟨⟨_,rfl,xar ?_⟩,trivial⟩ trivial (fun x=>rfl) (fun i hg1=>?_);focus (first|rfl|(simp;done)|(simp_all;done)|omega)
   refine evc [] [] ?_;refine sq ?_ ?_<;>intro h12 h12p h12s<;>(try simp only[Q,Pat.cs_len] at h12p);refine xaU zaT .none rfl rfl rfl rfl (zat (by omega)) rfl ?_;refine evd [] [] ?_;refine xaU sl26 .none rfl rfl rfl rfl (zaH (by omega)) rfl ?_;refine evd [] [] ?_;refine wc zgy (ih i (by omega)) rfl rfl ?_;refine evd [] [] ?_;refine dr ?_;refine sq ?_ ?_<;>intro h13 h13p h13s<;>(try simp only[Q,Pat.cs_len] at h13p);refine rq ?_;rotate_left;refine ar ?_;refine xah (i+1) ⟨⟨by omega,za7 hg1.2 (by first|assumption|(simp;assumption)|(simp_all;done))⟩,(by omega),sx ⟨⟨_,rfl,xar ?_⟩,trivial⟩ trivial⟩;focus (first|rfl|(simp;done)|(simp_all;done)|omega)
   refine rq ?_;rotate_left;all_goals (refine congrArg D.bool ?_;first|(rw[zcb (i:=i) (by omega) (by omega) (by first|assumption|(simp;assumption)|(simp_all;done))];done)|(rw[zb4 (by omega) (fun x hx=>hg1.2 x (by omega))];done))
  ·have hT3:p.op=3->zaQ w (zai w) (n+1) ⟨a,k⟩ p=false:=fun h3=>zpp h3 (zfr h (by omega) (by omega) (by omega));have hT6:p.op=6->zaQ w (zai w) (n+1) ⟨a,k⟩ p=zaQ w (zai w) n ⟨a,k⟩ (nth p.kids 0):=fun h6=>zk5 h6 (zc9 h h6).1;have hT1:p.op=1\/p.op=2->zaQ w (zai w) (n+1) ⟨a,k⟩ p=decide (dv (zai w) ⟨a,k⟩=0):=fun h1=>by rw[zbe,if_pos h1]
   have hT5:p.op=5->zaQ w (zai w) (n+1) ⟨a,k⟩ p=(zaQ w (zai w) n ⟨a,k⟩ (nth p.kids 0)&&zaQ w (zai w) n ⟨a,k⟩ (nth p.kids 1)):=fun h5=>by rw[zbe,if_neg (by omega),if_pos h5]
   have hl6:p.op=6->p.kids.length=1:=fun h6=>(zc9 h h6).1;have hlb:=hok.1;refine bd Tryz.f76 76 [] [] fun w0 F0 own kept hk=>?_;refine bx 3006 ?_;refine bx 3007 ?_;refine ev ?_;refine sq ?_ ?_<;>intro h1 h1p h1s<;>(try simp only[Q,Pat.cs_len] at h1p);refine sq ?_ ?_<;>intro h2 h2p h2s<;>(try simp only[Q,Pat.cs_len] at h2p);refine wc zhX (hdp) rfl rfl ?_;refine ev ?_;refine rq ?_;rotate_left;refine sq ?_ ?_<;>intro h3 h3p h3s<;>(try simp only[Q,Pat.cs_len] at h3p);refine rq ?_;rotate_left;refine sq ?_ ?_<;>intro h4 h4p h4s<;>(try simp only[Q,Pat.cs_len] at h4p);refine xaU (i:=0) sl26 .none rfl rfl rfl rfl (zaH (by omega)) rfl ?_;refine evd [] [] ?_;refine wc zgy (zbV hs n (hk1 (by omega)) hi (Pats.ok_mem hok.2 _ (zah (i:=0) (by omega)))) rfl rfl ?_;refine evd [] [] ?_;refine sq ?_ ?_<;>intro h5 h5p h5s<;>(try simp only[Q,Pat.cs_len] at h5p);refine dr ?_;refine rq ?_;rotate_left;refine xaU (i:=1) sl26 (.some rfl rfl h5) rfl rfl rfl rfl (zaH (by omega)) rfl ?_;refine evd [] [(32,false)] ?_ ⟨⟨_,rfl,h5⟩,trivial⟩;refine Walk.call (cr:=[]) zgy (zbV hs n (hk2 (by omega)) hi (Pats.ok_mem hok.2 _ (zah (i:=1) (by omega)))) rfl (.some rfl rfl h5) rfl rfl (LeL.refl _) trivial rfl rfl rfl ?_;refine evd [] [(32,false)] ?_ ⟨⟨_,rfl,h5⟩,trivial⟩;refine dr ?_;refine rq ?_;rotate_left;refine sq ?_ ?_<;>intro h6 h6p h6s<;>(try simp only[Q,Pat.cs_len] at h6p);refine xaU (i:=0) sl26 .none rfl rfl rfl rfl (zaH (by omega)) rfl ?_;refine evd [] [] ?_;refine wc zgy (zbV hs n (hk1 (by omega)) hi (Pats.ok_mem hok.2 _ (zah (i:=0) (by omega)))) rfl rfl ?_;refine evd [] [] ?_;refine dr ?_;refine rq ?_;rotate_left;exfalso;omega;refine sq ?_ ?_<;>intro h7 h7p h7s<;>(try simp only[Q,Pat.cs_len] at h7p);refine wc zhX (hdp) rfl rfl ?_;refine ev ?_;refine rq ?_;rotate_left;refine sq ?_ ?_<;>intro h8 h8p h8s<;>(try simp only[Q,Pat.cs_len] at h8p);refine rq ?_;rotate_left;refine sq ?_ ?_<;>intro h9 h9p h9s<;>(try simp only[Q,Pat.cs_len] at h9p);refine xaU (i:=0) sl26 .none rfl rfl rfl rfl (zaH (by omega)) rfl ?_;refine evd [] [] ?_;refine wc zgy (zbV hs n (hk1 (by omega)) hi (Pats.ok_mem hok.2 _ (zah (i:=0) (by omega)))) rfl rfl ?_;refine evd [] [] ?_;refine sq ?_ ?_<;>intro h10 h10p h10s<;>(try simp only[Q,Pat.cs_len] at h10p);refine dr ?_;refine rq ?_;rotate_left;refine xaU (i:=1) sl26 (.some rfl rfl h10) rfl rfl rfl rfl (zaH (by omega)) rfl ?_;refine evd [] [(32,false)] ?_ ⟨⟨_,rfl,h10⟩,trivial⟩;refine Walk.call (cr:=[]) zgy (zbV hs n (hk2 (by omega)) hi (Pats.ok_mem hok.2 _ (zah (i:=1) (by omega)))) rfl (.some rfl rfl h10) rfl rfl (LeL.refl _) trivial rfl rfl rfl ?_;refine evd [] [(32,false)] ?_ ⟨⟨_,rfl,h10⟩,trivial⟩;refine dr ?_;refine rq ?_;rotate_left;refine sq ?_ ?_<;>intro h11 h11p h11s<;>(try simp only[Q,Pat.cs_len] at h11p);refine xaU (i:=0) sl26 .none rfl rfl rfl rfl (zaH (by omega)) rfl ?_;refine evd [] [] ?_;refine wc zgy (zbV hs n (hk1 (by omega)) hi (Pats.ok_mem hok.2 _ (zah (i:=0) (by omega)))) rfl rfl ?_;refine evd [] [] ?_;refine dr ?_;refine rq ?_;rotate_left;exfalso;omega;all_goals (refine congrArg D.bool ?_;first|(rw[hT3 (by omega)];done)|(rw[hT3 (by omega)];rfl)|(rw[hT6 (by omega)];done)|(rw[hT1 (by omega),Bool.eq_iff_iff];simp;omega)|(rw[hT5 (by omega)];simp_all;done)|(rw[hT5 (by omega)];cases zaQ w (zai w) n ⟨a,k⟩ (nth p.kids 0)<;>cases zaQ w (zai w) n ⟨a,k⟩ (nth p.kids 1)<;>simp_all))
theorem ziO {w:List Data} (hs:WSmall w){a k:Int}{p:Pat} (hok:p.ok) (hsz:p.size<=1000000000000):
  FnD Tryz.prog 33 [.d (zan w),.agg [.d (.i a),.d (.i k)],.agg [.d (.i p.op),.d (.i p.ctor),.d (.i p.n),.d (.i p.m),.d (.i p.var),.d (zaj p.kids)]] [] (.d (.bool (zdu w a k p))) []:=by
 have hpv:=ziP hs (a:=a) (k:=k) hok hsz;have pv:=pval hs (a:=a) (k:=k) (p:=p);have hin:zaW w a k p=true->InS (w.length*4) ⟨a,k⟩/\Spa w:=fun hv=>by
  have hv2:zbm w ⟨a,k⟩=true:=by unfold zaW at hv;rw[xad] at hv;exact hv.1
  refine⟨?_,ziS hs (zb2 hv2).1⟩;by_cases ha:a = -1
  ·exact .inl ha
  ·obtain⟨r1,r2,r3,r4⟩:=(pv hv).rng ha;obtain⟨d,rfl⟩:=Int.eq_ofNat_of_zero_le r1;obtain⟨q,rfl⟩:=Int.eq_ofNat_of_zero_le r3;exact zjC (by omega) (by omega)
 unfold zdu;refine bd Tryz.f33 19 [] [] fun w0 F0 own kept hk=>?_;refine bx 3004 ?_;refine bx 3005 ?_;refine ev ?_;refine wc zwR (hpv) rfl rfl ?_;refine ev ?_;refine sq ?_ ?_<;>intro h1 h1p h1s<;>(try simp only[Q] at h1p);refine rq ?_;rotate_left;refine wc zum (zhG (pv (by assumption)).dp) rfl rfl ?_;refine evd [] [] ?_;refine wc zgy (zbV (hin (by assumption)).2 10 (pv (by assumption)).shape (hin (by assumption)).1 hok) rfl rfl ?_;refine evd [] [] ?_;refine dr ?_;refine rq ?_;rotate_left;all_goals (refine congrArg D.bool ?_;simp_all;done)
mutual
def hitP:Pat->Val->Bool
 | .mk op c n m _ ks,v=>if op=3 then zar v.num n m else if op=4 then decide (c=v.ctor)&&hitL ks v.kids else true
def hitL:List Pat->List Val->Bool
 |p::r,v::s=>hitP p v&&hitL r s
 |_,_=>true
end
theorem zni (p:Pat) (v:Val):hitP p v=if p.op=3 then zar v.num p.n p.m else if p.op=4 then decide (p.ctor=v.ctor)&&hitL p.kids v.kids else true:=by
 cases p;unfold hitP;rfl
theorem zgA {p:Pat}{v:Val} (h:p.op=1):hitP p v=true:=by rw[zni,if_neg (by omega),if_neg (by omega)]
theorem ziy {p:Pat}{v:Val} (h:p.op=3):hitP p v=zar v.num p.n p.m:=by rw[zni,if_pos h]
theorem zdn {p:Pat}{v:Val} (h:p.op=4):hitP p v=(decide (p.ctor=v.ctor)&&hitL p.kids v.kids):=by rw[zni,if_neg (by omega),if_pos h]
theorem zpD:∀ {l:List Pat}{s:List Val},l.length=s.length->(hitL l s=true↔∀i,i<l.length->hitP (nth l i) (nth s i)=true)
 | [],[],_=>by simp[hitL]
 |p::r,v::s,h=>by
  have ih:=zpD (l:=r) (s:=s) (by simpa using h);simp only[hitL,xad,ih];constructor
  ·rintro ⟨h1,h2⟩ i hi
   cases i with
   |zero=>exact h1
   |succ i=>exact h2 i (by simpa using hi)
  ·intro h1;exact⟨h1 0 (by simp),fun i hi=>h1 (i+1) (by simpa using hi)⟩
 | [],_::_,h=>by simp at h
 |_::_,[],h=>by simp at h
theorem zpB {α:Type}:∀(l:List α) (s:List Val),hitL (l.map fun _=>anyQ) s=true
 | [],_=>by simp[hitL]
 |_::_,[]=>by simp[hitL]
 |_::r,v::s=>by simp only[xae,hitL,zpB r s,Bool.and_true];exact zgA rfl
theorem zf6:∀(l:List Pat) (s:List Val) (p:Pat) (v:Val),l.length=s.length->hitL (l++[p]) (s++[v])=(hitL l s&&hitP p v)
 | [],[],p,v,_=>by simp[hitL]
 |q::r,x::s,p,v,h=>by
  simp only[xag,hitL,zf6 r s p v (by simpa using h),Bool.and_assoc]
 | [],_::_,_,_,h=>by simp at h
 |_::_,[],_,_,h=>by simp at h
theorem zpC:∀(l:List Pat) (s:List Val) (r:List Pat) (q:List Val),l.length=s.length->hitL (l++r) (s++q)=(hitL l s&&hitL r q)
 | [],[],r,q,_=>by simp[hitL]
 |p::l,x::s,r,q,h=>by
  simp only[xag,hitL,zpC l s r q (by simpa using h),Bool.and_assoc]
 | [],_::_,_,_,h=>by simp at h
 |_::_,[],_,_,h=>by simp at h
theorem ztD {w:List Data}{m:Nat}{t:Ty}{v:Val} (h:zaC w m t v=true) (ht:t.data = -1):0<=v.num/\v.num<=9:=by
 cases m with
 |zero=>simp[zaC] at h
 |succ m=>
  unfold zaC at h;rw[if_pos ht] at h;simp only[xad,decide_eq_true_eq] at h;omega
theorem zpY:∀(ls:List (List Pat)) (vs:List Val) (out:List (List Pat)) (v0:List Val),ls.length=vs.length->(∀q∈out,q.length=v0.length)->
  ((∃l∈ls.foldl zb8 out,hitL l (v0++vs)=true)↔(∃q∈out,hitL q v0=true)/\∀i,i<ls.length->∃x∈nth ls i,hitP x (nth vs i)=true)
 | [],[],out,v0,_,_=>by simp
 |l::r,v::s,out,v0,h,ho=>by
  have ih:=zpY r s (zb8 out l) (v0++[v]) (by simpa using h) (fun q hq=>by
   unfold zb8 at hq;obtain⟨q0,h1,h2⟩:=List.mem_flatMap.1 hq;obtain⟨c,h3,rfl⟩:=List.mem_map.1 h2;simp[ho q0 h1])
  rw[List.append_assoc] at ih;rw[List.foldl_cons,show v0++v::s=v0++([v]++s) from rfl,ih];constructor
  ·rintro ⟨⟨q,hq,hh⟩,h2⟩
   unfold zb8 at hq;obtain⟨q0,h3,h4⟩:=List.mem_flatMap.1 hq;obtain⟨c,h5,rfl⟩:=List.mem_map.1 h4;rw[zf6 q0 v0 c v (ho q0 h3),xad] at hh;refine⟨⟨q0,h3,hh.1⟩,fun i hi=>?_⟩;cases i with
   |zero=>exact⟨c,h5,hh.2⟩
   |succ i=>exact h2 i (by simpa using hi)
  ·rintro ⟨⟨q,hq,hh⟩,h2⟩
   obtain⟨c,h5,h6⟩:=h2 0 (by simp);refine⟨⟨q++[c], ?_, ?_⟩,fun i hi=>h2 (i+1) (by simpa using hi)⟩
   ·unfold zb8;exact List.mem_flatMap.2 ⟨q,hq,List.mem_map.2 ⟨c,h5,rfl⟩⟩
   ·rw[zf6 q v0 c v (ho q hq),hh];exact h6
 | [],_::_,_,_,h,_=>by simp at h
 |_::_,[],_,_,h,_=>by simp at h
theorem zgD {f:Pat->Val->List Bd×Bool}:∀ {a:List Pat}{b:List Val}{acc:List Bd},a.length=b.length->((zbl f a b acc).2=true↔∀i,i<a.length->(f (nth a i) (nth b i)).2=true)
 | [],[],acc,_=>by simp[zbl]
 |p::r,v::s,acc,h=>by
  unfold zbl;by_cases hp:(f p v).2=true
  ·rw[if_pos hp,zgD (a:=r) (b:=s) (by simpa using h)];constructor
   ·intro h1 i hi;cases i with
    |zero=>exact hp
    |succ i=>exact h1 i (by simpa using hi)
   ·intro h1 i hi;exact h1 (i+1) (by simpa using hi)
  ·rw[if_neg hp];constructor
   ·intro h1;cases h1
   ·intro h1;exact absurd (h1 0 (by simp)) hp
 | [],_::_,_,h=>by simp at h
 |_::_,[],_,h=>by simp at h
theorem zmS {p:Pat} (h5:p.op≠5) (hk:p.kids=[]):zaz p=[p]:=by
 rw[zek h5,hk];cases p
 simp only[zcK] at hk;subst hk;simp[zeS,zeR,zh6,mk_n,mk_m,zmj]
theorem zeI {w:List Data}:∀(n m:Nat){t:Ty}{p:Pat}{v:Val},zas w n t p=true->zaC w m t v=true->((zav n p v).2=true↔∃x∈zaz (zaO p),hitP x v=true)
 |0,m,t,p,v,h,_=>by simp[zas] at h
 |n+1,0,t,p,v,_,h=>by simp[zaC] at h
 |n+1,m+1,t,p,v,h,hv=>by
  rcases zeh h with h1|h2|h3|h4|h5|h6
  ·have hk:=zfr h (by omega) (by omega) (by omega);rw[zfK h1,zcL,if_neg (by omega),if_neg (by omega),zmS (by rw[zeR];omega) (by rw[zcK,hk];rfl)];simp only[List.mem_singleton,exists_eq_left,true_iff];exact zgA h1
  ·rw[zfL h2,zcL,if_pos h2,zlA];simp only[List.mem_singleton,exists_eq_left,true_iff];exact zgA rfl
  ·have hk:=zfr h (by omega) (by omega) (by omega);rw[ze6 h3,zcL,if_neg (by omega),if_neg (by omega),zmS (by rw[zeR];omega) (by rw[zcK,hk];rfl)];simp only[List.mem_singleton,exists_eq_left];rw[ziy (p:= .mk p.op p.ctor p.n p.m p.var (p.kids.map zaO)) h3];exact Iff.rfl
  ·have hs:=h;unfold zas at hs;rw[xad,zbh h4] at hs;have hl:=zeH hs.2;rw[zcL,if_neg (by omega),if_neg (by omega),zek (by rw[zeR];omega)];have hd:t.data≠ -1:=fun e=>by
    have:=zbK hs.1 h4;unfold zap at this;rw[if_pos e] at this;simp at this
   obtain⟨f1,f2,f3⟩:=zdB hv hd;by_cases hc:p.ctor=v.ctor
   ·rw[zfM h4 hc];rw[hc] at hl hs;have hlen:p.kids.length=v.kids.length:=by omega
    rw[zgD hlen];have hp:=zpY ((p.kids.map zaO).map zaz) v.kids [[]] [] (by simp[hlen]) (by simp);simp only[List.nil_append,List.mem_singleton,exists_eq_left,hitL,true_and,xac] at hp;have hih:∀i,i<p.kids.length->((zav n (nth p.kids i) (nth v.kids i)).2=true↔∃x∈nth ((p.kids.map zaO).map zaz) i,hitP x (nth v.kids i)=true):=fun i hi=>by
     rw[zeI n m (zdE hl hs.2 i (by omega)) (f3 i (by omega))];have e:nth ((p.kids.map zaO).map zaz) i=zaz (zaO (nth p.kids i)):=by
      rw[za5 (by simpa using hi),za5 hi];simp
     rw[e]
    constructor
    ·intro h1;obtain⟨l,hl2,hh⟩:=hp.2 (fun i hi=>(hih i hi).1 (h1 i hi));refine⟨_,List.mem_map.2 ⟨l,hl2,rfl⟩, ?_⟩;rw[zdn (by rw[zeR];exact h4)];simp only[zh6,zcK,hc,hh,decide_true,Bool.and_self]
    ·rintro ⟨x,hx,hh⟩ i hi
     obtain⟨l,hl2,rfl⟩:=List.mem_map.1 hx;rw[zdn (by rw[zeR];exact h4),xad] at hh;exact(hih i hi).2 (hp.1 ⟨l,hl2,hh.2⟩ i hi)
   ·rw[zfN h4 hc];constructor
    ·intro h1;cases h1
    ·rintro ⟨x,hx,hh⟩
     obtain⟨l,hl2,rfl⟩:=List.mem_map.1 hx;rw[zdn (by rw[zeR];exact h4),xad] at hh;exact absurd (of_decide_eq_true hh.1) hc
  ·obtain⟨l2,s0,s1⟩:=zei h h5;have ee:p.kids.map zaO=[zaO (nth p.kids 0),zaO (nth p.kids 1)]:=by
    match hk:p.kids,l2 with
    | [a,b],_=>rfl
   rw[zcL,if_neg (by omega),if_neg (by omega),zhm (by rw[zeR];exact h5) (by rw[zcK];simpa using l2),zcK,ee];have i0:=zeI n (m+1) s0 hv;have i1:=zeI n (m+1) s1 hv;have e0:nth [zaO (nth p.kids 0),zaO (nth p.kids 1)] 0=zaO (nth p.kids 0):=rfl;have e1:nth [zaO (nth p.kids 0),zaO (nth p.kids 1)] 1=zaO (nth p.kids 1):=rfl;rw[e0,e1];by_cases hm:(zav n (nth p.kids 0) v).2=true
   ·rw[zeY h5 hm];obtain⟨x,hx,hh⟩:=i0.1 hm;simp only[true_iff];exact⟨x,List.mem_append_left _ hx,hh⟩
   ·rw[zeZ h5 (by simpa using hm),i1];constructor
    ·rintro ⟨x,hx,hh⟩
     exact⟨x,List.mem_append_right _ hx,hh⟩
    ·rintro ⟨x,hx,hh⟩
     rcases List.mem_append.1 hx with hx|hx
     ·exact absurd (i0.2 ⟨x,hx,hh⟩) hm
     ·exact⟨x,hx,hh⟩
  ·obtain⟨l1,s0⟩:=zc9 h h6;rw[zev h6,zcL,if_neg (by omega),if_pos ⟨h6,fun e=>by rw[e] at l1;simp at l1⟩];exact zeI n (m+1) s0 hv
theorem zn7 {f:Pat->Pat->Option Pat}:∀ {a b:List Pat}{acc:List Pat}{s q:List Val},a.length=b.length->a.length=s.length->acc.length=q.length->
  (∀i,i<a.length->match f (nth a i) (nth b i) with
   |none=>(hitP (nth a i) (nth s i)&&hitP (nth b i) (nth s i))=false
   |some x=>hitP x (nth s i)=(hitP (nth a i) (nth s i)&&hitP (nth b i) (nth s i)))->
  match zcj f a b acc with
   |none=>(hitL a s&&hitL b s)=false
   |some l=>hitL l (q++s)=(hitL acc q&&(hitL a s&&hitL b s))
 | [],[],acc,[],q,_,_,ha,_=>by simp[zcj,hitL]
 |p::r,p2::r2,acc,v::s,q,h1,h2,ha,hf=>by
  have h0:=hf 0 (by simp);have e1:nth (p::r) 0=p:=rfl;have e2:nth (p2::r2) 0=p2:=rfl;have e3:nth (v::s) 0=v:=rfl;rw[e1,e2,e3] at h0;unfold zcj;cases hx:f p p2 with
  |none=>
   rw[hx] at h0;simp only[hitL];dsimp only at h0;cases ha1:hitP p v<;>cases hb1:hitP p2 v<;>simp_all
  |some x=>
   rw[hx] at h0;dsimp only at h0 ⊢;have ih:=zn7 (f:=f) (a:=r) (b:=r2) (acc:=acc++[x]) (s:=s) (q:=q++[v]) (by simpa using h1) (by simpa using h2) (by simp[ha]) (fun i hi=>hf (i+1) (by simpa using hi));cases hm:zcj f r r2 (acc++[x]) with
   |none=>
    rw[hm] at ih;dsimp only at ih ⊢;simp only[hitL];cases ha1:hitP p v<;>cases hb1:hitP p2 v<;>simp_all
   |some l=>
    rw[hm] at ih;dsimp only at ih ⊢;rw[show q++v::s=q++[v]++s by simp,ih,zf6 acc q x v ha,h0];simp only[hitL];cases hitL acc q<;>cases hitP p v<;>cases hitP p2 v<;>cases hitL r s<;>cases hitL r2 s<;>rfl
 | [],_::_,_,_,_,h,_,_,_=>by simp at h
 |_::_,[],_,_,_,h,_,_,_=>by simp at h
 | [],[],_,_::_,_,_,h,_,_=>by simp at h
 |_::_,_::_,_,[],_,_,h,_,_=>by simp at h
theorem zqx {x a b c d:Int}:zar x (maxQ a c) (minQ b d)=(zar x a b&&zar x c d):=by
 unfold zar maxQ minQ;rw[Bool.eq_iff_iff];simp only[xad,decide_eq_true_eq];split<;>split<;>omega
theorem ziH {w:List Data}:∀(k m:Nat){t:Ty}{a b:Pat}{v:Val},zak w k t a=true->zak w k t b=true->zaC w m t v=true->∀n,k<=n->match zaK n a b with
  |none=>(hitP a v&&hitP b v)=false
  |some x=>hitP x v=(hitP a v&&hitP b v)
 |0,m,t,a,b,v,ha,_,_,_,_=>by simp[zak] at ha
 |k+1,0,t,a,b,v,_,_,hv,_,_=>by simp[zaC] at hv
 |k+1,m+1,t,a,b,v,_,_,_,0,h=>by omega
 |k+1,m+1,t,a,b,v,ha,hb,hv,n+1,hn=>by
  by_cases h1:a.op=1
  ·rw[zpL h1];dsimp only;rw[zgA h1,Bool.true_and]
  by_cases h2:b.op=1
  ·rw[zpM h1 h2];dsimp only;rw[zgA h2,Bool.and_true]
  have hs:=zfR ha hb h1 h2;have oa:=zce ha;by_cases h3:a.op=3
  ·rw[zpN h3 h2,ziy h3,ziy (p:=b) (by omega),<-zqx];split
   ·rename_i x hx;split at hx
    ·cases hx
    ·unfold zar;simp only[Bool.and_eq_false_iff,decide_eq_false_iff_not];omega
   ·rename_i x hx;split at hx
    ·cases hx;rfl
    ·cases hx
  have h4:a.op=4:=by omega
  have hb4:b.op=4:=by omega
  rw[zdn h4,zdn hb4];obtain⟨m1,m2,m3,m4⟩:=za9 ha h4;obtain⟨n1,n2,n3,n4⟩:=za9 hb hb4;obtain⟨f1,f2,f3⟩:=zdB hv m2;by_cases hc:a.ctor=b.ctor
  ·rw[zpO h4 h2 hc];rw[<-hc] at n3 ⊢;by_cases hcv:a.ctor=v.ctor
   ·rw[decide_eq_true hcv];have hl:=zn7 (f:=zaK n) (a:=a.kids) (b:=b.kids) (acc:=[]) (s:=v.kids) (q:=[]) (by omega) (by rw[hcv] at m3;omega) rfl (fun i hi=>by
     have ka:=zbv ha (i:=i) hi;have kb:=zbv hb (i:=i) (by omega);rw[zbh h4,hcv] at ka;rw[zbh hb4,<-hc,hcv] at kb;exact ziH k m ka kb (f3 i (by rw[hcv] at m3;omega)) n (by omega))
    cases hx:zcj (zaK n) a.kids b.kids [] with
    |none=>
     rw[hx] at hl;dsimp only[Option.map_none] at hl ⊢;rw[Bool.true_and,Bool.true_and];exact hl
    |some l=>
     rw[hx] at hl;dsimp only[Option.map_some] at hl ⊢;rw[zdn (by rfl)];show(decide (a.ctor=v.ctor)&&hitL l v.kids)=_
     rw[decide_eq_true hcv];simpa [hitL] using hl
   ·rw[decide_eq_false hcv];cases hx:zcj (zaK n) a.kids b.kids [] with
    |none=>rfl
    |some l=>
     dsimp only[Option.map_some];rw[zdn (by rfl)];show(decide (a.ctor=v.ctor)&&hitL l v.kids)=_
     rw[decide_eq_false hcv];rfl
  ·rw[zno h4 h2 hc];dsimp only;by_cases hcv:a.ctor=v.ctor
   ·rw[decide_eq_false (p:=b.ctor=v.ctor) (by omega)];simp
   ·rw[decide_eq_false hcv];simp
def one (b:Bool):Nat:=if b=true then 1 else 0
theorem znO {a b:Int}{v:Val}:(zcS a b).countP (fun x=>hitP x v)=one (zar v.num a b):=by
 unfold zcS one;split
 ·rw[List.countP_singleton,ziy rfl];rfl
 ·rename_i h;have:zar v.num a b=false:=by unfold zar;simp only[Bool.and_eq_false_iff,decide_eq_false_iff_not];omega
  rw[this];rfl
theorem zsw {c:Int}{pre:List Pat}{s:List Pat}{v0:Val}{vf vs:List Val}{v:Val} (hv:v.kids=vf++v0::vs) (hl:pre.length=vf.length) (l:List Pat):
  (l.map (fun z=>zbW c (pre++[z]++s))).countP (fun x=>hitP x v)=one (decide (c=v.ctor)&&(hitL pre vf&&hitL s vs))*l.countP (fun z=>hitP z v0):=by
 rw[List.countP_map];have hz:∀z,hitP (zbW c (pre++[z]++s)) v=((decide (c=v.ctor)&&(hitL pre vf&&hitL s vs))&&hitP z v0):=fun z=>by
  rw[zdn rfl];show(decide (c=v.ctor)&&hitL (pre++[z]++s) v.kids)=_
  rw[hv,show vf++v0::vs=vf++([v0]++vs) by simp,List.append_assoc,zpC pre vf _ _ hl];show(decide (c=v.ctor)&&(hitL pre vf&&(hitP z v0&&hitL s vs)))=_
  cases decide (c=v.ctor)<;>cases hitL pre vf<;>cases hitP z v0<;>cases hitL s vs<;>rfl
 cases hb:(decide (c=v.ctor)&&(hitL pre vf&&hitL s vs)) with
 |true=>
  rw[show one true=1 from rfl,Nat.one_mul];congr 1
  funext z
  show hitP (zbW c (pre++[z]++s)) v=_
  rw[hz,hb,Bool.true_and]
 |false=>
  rw[show one false=0 from rfl,Nat.zero_mul];rw[List.countP_eq_zero];intro z _;show ¬hitP (zbW c (pre++[z]++s)) v=true
  rw[hz,hb];simp
theorem ztL:∀d f x y s b:Bool,one (d&&(f&&s))*one (x&& !y)+one (d&&((f&&(x&&y))&&(s&& !b)))=one (d&&(f&&((x&&s)&& !(y&&b)))):=by decide
theorem ztK:∀d f x y s b:Bool,(x&&y)=false->one (d&&(f&&s))*one (x&& !y)+0=one (d&&(f&&((x&&s)&& !(y&&b)))):=by decide
theorem zsX {x la ha bn bm:Int} (h:bn<=bm):one (zar x la (minQ ha (bn-1)))+one (zar x (maxQ la (bm+1)) ha)=one (zar x la ha&& !zar x bn bm):=by
 have e1:zar x la (minQ ha (bn-1))=(zar x la ha&&decide (x<bn)):=by
  unfold zar minQ;rw[Bool.eq_iff_iff];simp only[xad,decide_eq_true_eq];split<;>omega
 have e2:zar x (maxQ la (bm+1)) ha=(zar x la ha&&decide (bm<x)):=by
  unfold zar maxQ;rw[Bool.eq_iff_iff];simp only[xad,decide_eq_true_eq];split<;>omega
 have e3:zar x bn bm=(!decide (x<bn)&& !decide (bm<x)):=by
  unfold zar;rw[Bool.eq_iff_iff];simp only[xad,Bool.not_eq_true',decide_eq_true_eq,decide_eq_false_iff_not];omega
 have key:∀q u v:Bool,(u&&v)=false->one (q&&u)+one (q&&v)=one (q&& !(!u&& !v)):=by decide
 rw[e1,e2,e3];refine key _ _ _ ?_;rw[Bool.and_eq_false_iff,decide_eq_false_iff_not,decide_eq_false_iff_not];omega
theorem zmh {w:List Data}{f:Ty->Pat->Pat->List Pat}{m:Nat}{c:Int}{v:Val}:
  ∀ {us:List Ty}{xs bs front:List Pat}{vf vs:List Val},v.kids=vf++vs->front.length=vf.length->us.length=xs.length->bs.length=xs.length->vs.length=xs.length->
   (∀j,j<xs.length->zak w 11 (nth us j) (nth xs j)=true/\zak w 11 (nth us j) (nth bs j)=true/\zaC w m (nth us j) (nth vs j)=true/\(f (nth us j) (nth xs j) (nth bs j)).countP (fun x=>hitP x (nth vs j))=one (hitP (nth xs j) (nth vs j)&& !hitP (nth bs j) (nth vs j)))->
   (za4 f c us xs bs front).countP (fun x=>hitP x v)=one (decide (c=v.ctor)&&(hitL front vf&&(hitL xs vs&& !hitL bs vs)))
 | [],[],[],front,vf,[],_,_,_,_,_,_=>by
  simp only[za4,List.countP_nil,hitL];cases decide (c=v.ctor)<;>cases hitL front vf<;>rfl
 |u::us,x::xs,y::bs,front,vf,v0::vs,hv,hfl,h1,h2,h3,hf=>by
  have h0:=hf 0 (by simp);have e0:nth (u::us) 0=u:=rfl;have e1:nth (x::xs) 0=x:=rfl;have e2:nth (y::bs) 0=y:=rfl;have e3:nth (v0::vs) 0=v0:=rfl;rw[e0,e1,e2,e3] at h0;unfold za4;rw[List.countP_append,zsw hv hfl,h0.2.2.2];have hm:=ziH 11 m h0.1 h0.2.1 h0.2.2.1 11 (Nat.le_refl _);cases hq:zaK 11 x y with
  |none=>
   rw[hq] at hm;dsimp only at hm ⊢;simp only[List.countP_nil,hitL];exact ztK _ _ _ _ _ _ hm
  |some both=>
   rw[hq] at hm;dsimp only at hm ⊢;have ih:=zmh (w:=w) (f:=f) (m:=m) (c:=c) (v:=v) (us:=us) (xs:=xs) (bs:=bs) (front:=front++[both]) (vf:=vf++[v0]) (vs:=vs) (by rw[hv];simp) (by simp[hfl]) (by simpa using h1) (by simpa using h2) (by simpa using h3) (fun j hj=>hf (j+1) (by simpa using hj));rw[ih,zf6 front vf both v0 hfl,hm];simp only[hitL];exact ztL _ _ _ _ _ _
 | [],_::_,_,_,_,_,_,_,h,_,_,_=>by simp at h
 |_::_,[],_,_,_,_,_,_,h,_,_,_=>by simp at h
 |_,[],_::_,_,_,_,_,_,_,h,_,_=>by simp at h
 |_,_::_,[],_,_,_,_,_,_,h,_,_=>by simp at h
 |_,[],_,_,_,_::_,_,_,_,_,h,_=>by simp at h
 |_,_::_,_,_,_,[],_,_,_,_,h,_=>by simp at h
theorem zkU {f:Ty->Pat->Pat->List Pat}{c:Int}{x:Pat}:∀ {us:List Ty}{xs bs front:List Pat},x∈za4 f c us xs bs front->∃l,x=zbW c l
 |u::us,a::xs,y::bs,front,h=>by
  unfold za4 at h;rcases List.mem_append.1 h with h|h
  ·obtain⟨z,_,rfl⟩:=List.mem_map.1 h;exact⟨_,rfl⟩
  ·cases hq:zaK 11 a y with
   |none=>rw[hq] at h;simp at h
   |some b=>rw[hq] at h;exact zkU h
 | [],_,_,_,h=>by simp[za4] at h
 |_::_,[],_,_,h=>by simp[za4] at h
 |_::_,_::_,[],_,h=>by simp[za4] at h
theorem znN {c0:Int}{g:Int->List Pat}{v:Val}{k:Nat}:∀ {l:List Int},l.Nodup->c0∈l->(∀c∈l,c≠c0->(g c).countP (fun x=>hitP x v)=0)->(g c0).countP (fun x=>hitP x v)=k->(l.flatMap g).countP (fun x=>hitP x v)=k
 | [],_,h,_,_=>by simp at h
 |a::r,hn,hm,hz,hk=>by
  rw[List.flatMap_cons,List.countP_append];have hn':=List.nodup_cons.1 hn;by_cases ha:a=c0
  ·subst ha;have h0:(r.flatMap g).countP (fun x=>hitP x v)=0:=by
    rw[List.countP_eq_zero];intro x hx;obtain⟨c,hc,hx⟩:=List.mem_flatMap.1 hx;have:=hz c (by simp[hc]) (fun e=>hn'.1 (e ▸ hc));rw[List.countP_eq_zero] at this;exact this x hx
   omega
  ·have h1:=hz a (by simp) ha;have h2:=znN (g:=g) (v:=v) (k:=k) hn'.2 (by simpa [Ne.symm ha] using hm) (fun c hc=>hz c (by simp[hc])) hk;omega
section
variable {w:List Data} (hs:Spa w)
include hs
theorem zn8:∀(n m k:Nat){t:Ty}{a b:Pat}{v:Val},n<m->m<=12->InS (w.length*4) t->zak w m t a=true->zak w n t b=true->zaC w k t v=true->(zaB w n t a b).countP (fun x=>hitP x v)=one (hitP a v&& !hitP b v)
 |0,m,k,t,a,b,v,_,_,_,_,hb,_=>by simp[zak] at hb
 |n+1,0,k,t,a,b,v,hn,_,_,_,_,_=>by omega
 |n+1,m+1,0,t,a,b,v,_,_,_,_,_,hv=>by simp[zaC] at hv
 |n+1,m+1,k+1,t,a,b,v,hn,h12,ht,ha,hb,hv=>by
  have hcc:∀a,zak w (m+1) t a=true->a.op=4->b.op=4->(zc6 (zaB w n) w t a b).countP (fun x=>hitP x v)=one (hitP a v&& !hitP b v):=fun a ha h4 h4b=>by
   obtain⟨m1,m2,m3,m4⟩:=za9 ha h4;obtain⟨n1,n2,n3,n4⟩:=za9 hb h4b;obtain⟨f1,f2,f3⟩:=zdB hv m2;rw[zdn h4,zdn h4b];unfold zc6;split
   ·rename_i hc;by_cases hcv:a.ctor=v.ctor
    ·have:=zmh (w:=w) (f:=zaB w n) (m:=k) (c:=a.ctor) (v:=v) (us:=zab w t a.ctor) (xs:=a.kids) (bs:=b.kids) (front:=[]) (vf:=[]) (vs:=v.kids) rfl rfl m3.symm (by rw[<-hc] at n3;omega) (by rw[hcv] at m3;omega) (fun j hj=>by
      have ka:=zbv ha (i:=j) hj;have kb:=zbv hb (i:=j) (by rw[<-hc] at n3;omega);rw[zbh h4] at ka;rw[zbh h4b,<-hc] at kb;have kv:=f3 j (by rw[hcv] at m3;omega);rw[<-hcv] at kv;exact⟨zez (by omega) ka,zez (by omega) kb,kv,zn8 n m k (by omega) (by omega) (zbR hs.dp ht m1 _ (zah (by omega))) ka kb kv⟩)
     rw[this,<-hc];simp only[hitL,one];cases decide (a.ctor=v.ctor)<;>cases hitL a.kids v.kids<;>cases hitL b.kids v.kids<;>rfl
    ·have hz:(za4 (zaB w n) a.ctor (zab w t a.ctor) a.kids b.kids []).countP (fun x=>hitP x v)=0:=by
      rw[List.countP_eq_zero];intro x hx;obtain⟨l,rfl⟩:=zkU hx;rw[zdn rfl];show ¬(decide (a.ctor=v.ctor)&&hitL l v.kids)=true
      rw[decide_eq_false hcv];simp
     rw[hz,decide_eq_false hcv];rfl
   ·rename_i hc;rw[List.countP_singleton,zdn h4];by_cases hcv:a.ctor=v.ctor
    ·rw[decide_eq_false (p:=b.ctor=v.ctor) (by omega)];simp only[Bool.false_and,Bool.not_false,Bool.and_true,one]
    ·rw[decide_eq_false hcv];rfl
  rcases zce hb with h1|h3|h4
  ·rw[zkp h1,zgA h1];simp[one]
  ·have hd:=(zcR hb h3).1;have hl:=zpK ha hd;have ib:=zcR hb h3;have fn:=ztD hv hd;rw[zkq h3,zhc,List.countP_append,znO,znO,ziy h3];have hav:hitP a v=zar v.num (lowQ a) (zc3 a):=by
    unfold lowQ zc3;rcases zce ha with h|h|h
    ·rw[zgA h,if_pos h,if_pos h];unfold zar;rw[decide_eq_true (p:=0<=v.num) (by omega),decide_eq_true (p:=v.num<=9) (by omega)];rfl
    ·rw[ziy h,if_neg (by omega),if_neg (by omega)]
    ·exact absurd hd (za9 ha h).2.1
   rw[hav];exact zsX ib.2.2.1
  ·by_cases ha1:a.op=1
   ·rw[zkr h4 ha1,zgA ha1,Bool.true_and];have hdt:=(za9 hb h4).2.1;obtain⟨f1,f2,f3⟩:=zdB hv hdt;obtain⟨q,rfl⟩:∃q,m=q+1:=⟨m-1,by omega⟩;refine znN (c0:=v.ctor) (hs.ctors t ht).2 f1 (fun c hc hne=>?_) ?_
    ·rw[hcc _ (zeL hc) rfl h4,zdn rfl];show one ((decide (c=v.ctor)&&_)&&_)=0
     rw[decide_eq_false hne];rfl
    ·rw[hcc _ (zeL f1) rfl h4,zdn (p:=zdc w t v.ctor) rfl];show one ((decide (v.ctor=v.ctor)&&hitL ((zab w t v.ctor).map fun _=>anyQ) v.kids)&& !hitP b v)=_
     rw[zpB,decide_eq_true rfl];rfl
   ·have ha4:a.op=4:=by have:=zfR ha hb ha1 (by omega);omega
    rw[zgX h4 ha4];exact hcc a ha ha4 h4
theorem zn2:∀(n m:Nat){t:Ty}{p:Pat}{v:Val},InS (w.length*4) t->zak w n t p=true->zaC w m t v=true->hitP p v=true->zaQ w (zai w) n t p=false
 |0,m,t,p,v,_,h,_,_=>by simp[zak] at h
 |n+1,0,t,p,v,_,_,h,_=>by simp[zaC] at h
 |n+1,m+1,t,p,v,ht,hp,hv,hh=>by
  rcases zce hp with h1|h3|h4
  ·rw[zqS h1];have:=znd hs.dp ht hv;exact decide_eq_false (by omega)
  ·exact zva hp h3
  ·cases he:zaQ w (zai w) (n+1) t p with
   |false=>rfl
   |true=>
    exfalso;obtain⟨i,hi,hd⟩:=ztB hp h4 he;obtain⟨m1,m2,m3,m4⟩:=za9 hp h4;obtain⟨f1,f2,f3⟩:=zdB hv m2;rw[zdn h4,xad] at hh;have hc:=of_decide_eq_true hh.1;rw[hc] at m3;have hk:=(zpD (by omega)).1 hh.2 i hi;have hpk:=zbv hp hi;rw[zbh h4] at hpk;have:=zn2 n m (zbR hs.dp ht m1 _ (zah (by rw[hc];omega))) hpk (by rw[hc];exact f3 i (by omega)) hk;rw[this] at hd;cases hd
theorem zlP {t:Ty}{v:Val}{m:Nat} (ht:InS (w.length*4) t) (hv:zaC w m t v=true){l:List Pat} (hl:∀a∈l,zak w 11 t a=true):(l.filter (zcz w t)).countP (fun x=>hitP x v)=l.countP (fun x=>hitP x v):=by
 rw[List.countP_filter];refine List.countP_congr (fun x hx=>?_);simp only[xad];constructor
 ·exact fun h=>h.1
 ·intro h;refine⟨h, ?_⟩;unfold zcz;rw[zn2 hs 11 m ht (hl x hx) hv h];rfl
theorem ztR {t:Ty}{v:Val}{m:Nat} (ht:InS (w.length*4) t) (hv:zaC w m t v=true){b:Pat} (hb:zak w 10 t b=true){l:List Pat} (hl:∀a∈l,zak w 11 t a=true):
  (zew w t l b).countP (fun x=>hitP x v)=if hitP b v=true then 0 else l.countP (fun x=>hitP x v):=by
 unfold zew;rw[zlP hs ht hv (fun x hx=>by
  obtain⟨a,ha,hx⟩:=List.mem_flatMap.1 hx;exact zgE 10 11 (by omega) (hl a ha) hb x hx)]
 induction l with
 |nil=>simp
 |cons a r ih=>
  rw[List.flatMap_cons,List.countP_append,ih (fun x hx=>hl x (by simp[hx])),zn8 hs 10 11 m (by omega) (by omega) ht (hl a (by simp)) hb hv,List.countP_cons];unfold one;cases hitP b v<;>cases hitP a v<;>simp<;>omega
theorem zrf {t:Ty}{v:Val}{m:Nat} (ht:InS (w.length*4) t) (hv:zaC w m t v=true):∀ {away l r:List Pat},(∀b∈away,zak w 10 t b=true)->(∀a∈l,zak w 11 t a=true)->subL w t l away=some r->
  r.countP (fun x=>hitP x v)=if away.any (fun b=>hitP b v)=true then 0 else l.countP (fun x=>hitP x v)
 | [],l,r,_,_,h=>by rw[subL] at h;cases h;simp
 |b::away,l,r,hb,hl,h=>by
  rw[subL] at h;split at h
  ·rw[zrf ht hv (fun x hx=>hb x (by simp[hx])) (zgF hl (hb b (by simp))) h,ztR hs ht hv (hb b (by simp)) hl,List.any_cons];cases hitP b v<;>cases away.any (fun b=>hitP b v)<;>simp
  ·cases h
theorem zqy {t:Ty}{v:Val}{m:Nat} (ht:InS (w.length*4) t) (hv:zaC w m t v=true){away l r:List Pat} (hb:∀b∈away,zak w 10 t b=true) (hl:∀a∈l,zak w 11 t a=true) (h:zbc w t l away=some r):
  r.countP (fun x=>hitP x v)=if away.any (fun b=>hitP b v)=true then 0 else l.countP (fun x=>hitP x v):=by
 unfold zbc at h;rw[zrf hs ht hv hb (fun a ha=>hl a (List.mem_filter.1 ha).1) h,zlP hs ht hv hl]
end
theorem zlY {w:List Data}{g:Ty->Val->Bool}{F:Ty->List Val} (hF:∀u x,x∈F u->g u x=true):∀(us:List Ty) (vs:List Ty) (acc:List (List Val)),(∀l∈acc,all2 g vs l=true)->
  ∀l∈(us.map F).foldl (fun acc l=>acc.flatMap fun o=>l.map fun y=>o++[y]) acc,all2 g (vs++us) l=true
 | [],vs,acc,h,l,hl=>by rw[List.append_nil];exact h l hl
 |u::us,vs,acc,h,l,hl=>by
  rw[show vs++u::us=vs++[u]++us by simp];refine zlY (w:=w) hF us (vs++[u]) _ (fun q hq=>?_) l hl;obtain⟨o,h1,h2⟩:=List.mem_flatMap.1 hq;obtain⟨y,h3,rfl⟩:=List.mem_map.1 h2;have ho:=h o h1;have hy:=hF u y h3;clear hl hq h2 h1 h;induction vs generalizing o with
  |nil=>
   cases o with
   |nil=>simp[all2,hy]
   |cons a r=>simp[all2] at ho
  |cons b s ih=>
   cases o with
   |nil=>simp[all2] at ho
   |cons a r=>
    simp only[all2,xad,xag] at ho ⊢;exact⟨ho.1,ih r ho.2⟩
theorem zlZ {w:List Data}:∀(n:Nat){t:Ty}{v:Val},v∈zaJ w n t->zaC w n t v=true
 |0,t,v,h=>by simp[zaJ] at h
 |n+1,t,v,h=>by
  unfold zaJ at h;unfold zaC;by_cases ht:t.data = -1
  ·rw[if_pos ht] at h ⊢;unfold zlR at h;obtain⟨i,hi,rfl⟩:=List.mem_map.1 h;rw[List.mem_range] at hi;simp only[xad,decide_eq_true_eq];exact⟨rfl,by show(0:Int)<=(i:Int);omega,by show(i:Int)<=9;omega,rfl⟩
  ·rw[if_neg ht] at h ⊢;obtain⟨c,hc,h⟩:=List.mem_flatMap.1 h;obtain⟨l,hl,rfl⟩:=List.mem_map.1 h;rw[if_pos ⟨rfl,hc⟩];have:=zlY (w:=w) (g:=zaC w n) (F:=zaJ w n) (fun u x hx=>zlZ n hx) (zab w t c) [] [[]] (by simp[all2]) l hl;exact(by simpa using this:all2 (zaC w n) (zab w t c) l=true)
theorem zlW {w:List Data}:∀(n:Nat){t:Ty}{v:Val},zaC w n t v=true->zaC w (n+1) t v=true
 |0,t,v,h=>by simp[zaC] at h
 |n+1,t,v,h=>by
  rw[zaC] at h ⊢;split
  ·rename_i hd;rw[if_pos hd] at h;exact h
  ·rename_i hd;rw[if_neg hd] at h;split at h
   ·rename_i hc;rw[if_pos hc];exact zfC (fun x _ y _ hxy=>zlW n hxy) h
   ·cases h
theorem zg6 {w:List Data}{n m:Nat} (h:n<=m){t:Ty}{v:Val} (hv:zaC w n t v=true):zaC w m t v=true:=by
 induction h with
 |refl=>exact hv
 |step _ ih=>exact zlW _ ih
def szN:Nat->Nat
 |0=>0
 |n+1=>1+3*szN n
theorem Vals.size_of {m:Nat}:∀ {l:List Val},(∀k∈l,k.size<=m)->Vals.size l<=l.length*m
 | [],_=>by simp[Vals.size]
 |x::r,h=>by
  have h1:=h x (by simp);have h2:=Vals.size_of (l:=r) (fun y hy=>h y (by simp[hy]));simp only[Vals.size,xab,Nat.succ_mul];omega
theorem znT {w:List Data} (hs:Spa w):∀(n:Nat){t:Ty}{v:Val},InS (w.length*4) t->zaC w n t v=true->v.size<=szN n
 |0,t,v,_,h=>by simp[zaC] at h
 |n+1,t,v,ht,h=>by
  rw[Val.size_eq];by_cases hd:t.data = -1
  ·rw[zaC,if_pos hd] at h;simp only[xad,decide_eq_true_eq] at h;rw[List.eq_nil_of_length_eq_zero h.2.2.2];simp[Vals.size,szN]
  ·obtain⟨f1,f2,f3⟩:=zdB h hd;have h3:=hs.args t _ ht f1;have hz:=Vals.size_of (m:=szN n) (l:=v.kids) (fun k hk=>by
    obtain⟨i,hi,rfl⟩:=List.getElem_of_mem hk;have:=znT hs n (zbR hs.dp ht f1 _ (zah (i:=i) (by omega))) (f3 i hi);rwa [za5 hi] at this)
   have:v.kids.length*szN n<=3*szN n:=Nat.mul_le_mul_right _ (by omega);unfold szN;omega
theorem zvB {w:List Data} (hs:Spa w){t:Ty} (ht:InS (w.length*4) t){m:Int} (hm:m<=4){v:Val} (h:v∈(vut w t m).1):isV w t v=true/\zaC w 10 t v=true:=by
 unfold vut at h;split at h
 ·have hf:=zlZ m.toNat h;have h1:=znT hs m.toNat ht hf;have h2:m.toNat<=4:=by omega
  have h3:szN m.toNat<=40:=by
   have:∀i:Nat,i<=4->szN i<=40:=by decide
   exact this _ h2
  have h4:=zg6 (m:=10) (by omega) hf;refine⟨?_,h4⟩;unfold isV;rw[h4,Bool.true_and];exact decide_eq_true (by omega)
 ·simp at h
theorem zqB {α β:Type}{f:α->β->Bool}:∀ {l:List α},(∀u∈l,∃v,f u v=true)->∃r,all2 f l r=true
 | [],_=>⟨[],rfl⟩
 |u::s,h=>by
  obtain⟨v,hv⟩:=h u (by simp);obtain⟨r,hr⟩:=zqB (l:=s) (fun x hx=>h x (by simp[hx]));exact⟨v::r,by simp[all2,hv,hr]⟩
theorem zqX {w:List Data}:∀(m:Nat){t:Ty},Hd w m t->∃v,zaC w m t v=true
 |0,_,h=>h.elim
 |m+1,t,h=>by
  by_cases hd:t.data = -1
  ·exact⟨⟨-1,0,[]⟩,by unfold zaC;rw[if_pos hd];rfl⟩
  ·rcases h with h|⟨c,hc,hn,hh⟩
   ·exact absurd h hd
   ·obtain⟨l,hl⟩:=zqB (f:=zaC w m) (l:=zab w t c) (fun u hu=>zqX m (hh u hu));exact⟨⟨c,0,l⟩,by unfold zaC;rw[if_neg hn,if_pos ⟨rfl,hc⟩];exact hl⟩
theorem znb {w:List Data} (hd:Dp w){t:Ty} (ht:InS (w.length*4) t) (h:0<dv (zai w) t):∃m v,zaC w m t v=true:=by
 have a:Snd w (zai w)/\Cmp w (w.length*4+1) (zai w):=zdj hd.cl (w.length*4+1);exact⟨_,zqX _ (zoQ a.1 ht h)⟩
theorem zpJ {w:List Data}:∀ {us:List Ty}{ps:List Pat},us.length=ps.length->(∀i,i<ps.length->∃m v,zaC w m (nth us i) v=true/\hitP (nth ps i) v=true)->∃m l,all2 (zaC w m) us l=true/\hitL ps l=true
 | [],[],_,_=>⟨0,[],rfl,rfl⟩
 |u::us,p::ps,hl,h=>by
  obtain⟨m1,v,h1,h2⟩:=h 0 (by simp);obtain⟨m2,l,h3,h4⟩:=zpJ (us:=us) (ps:=ps) (by simpa using hl) (fun i hi=>h (i+1) (by simpa using hi));refine⟨max m1 m2,v::l, ?_, ?_⟩
  ·simp only[all2,xad];exact⟨zg6 (Nat.le_max_left _ _) h1,zfC (fun x _ y _ hxy=>zg6 (Nat.le_max_right _ _) hxy) h3⟩
  ·simp only[hitL,xad];exact⟨h2,h4⟩
 | [],_::_,h,_=>by simp at h
 |_::_,[],h,_=>by simp at h
theorem znH {w:List Data} (hs:Spa w):∀(n:Nat){t:Ty}{p:Pat},InS (w.length*4) t->zak w n t p=true->zaQ w (zai w) n t p=false->∃m v,zaC w m t v=true/\hitP p v=true
 |0,t,p,_,h,_=>by simp[zak] at h
 |n+1,t,p,ht,hp,he=>by
  rcases zce hp with h1|h3|h4
  ·rw[zqS h1] at he;have:=of_decide_eq_false he;obtain⟨m,v,hv⟩:=znb hs.dp ht (by omega);exact⟨m,v,hv,zgA h1⟩
  ·have hi:=zcR hp h3;refine⟨1,⟨-1,p.n,[]⟩, ?_, ?_⟩
   ·unfold zaC;rw[if_pos hi.1];simp only[xad,decide_eq_true_eq];exact⟨rfl,hi.2.1,by show p.n<=9;omega,rfl⟩
   ·rw[ziy h3];show zar p.n p.n p.m=true
    unfold zar;rw[xad,decide_eq_true_eq,decide_eq_true_eq];omega
  ·obtain⟨m1,m2,m3,m4⟩:=za9 hp h4;rw[zqT h4] at he;have ha:all2 (fun u q=> !zaQ w (zai w) n u q) (zab w t p.ctor) p.kids=true:=by simpa using he
   obtain⟨m,l,h5,h6⟩:=zpJ (us:=zab w t p.ctor) (ps:=p.kids) m3.symm (fun i hi=>by
    have hk:=zbv hp hi;rw[zbh h4] at hk;have h7:=zdE m3.symm ha i (by omega);exact znH hs n (zbR hs.dp ht m1 _ (zah (by omega))) hk (by simpa using h7))
   refine⟨m+1,⟨p.ctor,0,l⟩, ?_, ?_⟩
   ·unfold zaC;rw[if_neg m2,if_pos ⟨rfl,zov m1⟩];exact h5
   ·rw[zdn h4,xad];exact⟨decide_eq_true rfl,h6⟩
structure Grid (w:List Data) (t:Ty) (S:Pat->Prop) (V:List Val):Prop where
 meet:∀n a b z,S a->S b->zaK n a b=some z->S z
 minus:∀n a b x,S a->S b->x∈zaB w n t a b->S x
 hit:∀n p,S p->zak w n t p=true->zaQ w (zai w) n t p=false->∃v∈V,hitP p v=true
 fits:∃m,∀v∈V,zaC w m t v=true
section
variable {w:List Data} (hs:Spa w){t:Ty} (ht:InS (w.length*4) t)
include hs ht
end
def sepQ (w:List Data) (t:Ty):List Pat->List Pat->List Pat->Option (List Pat)
 |_,[],out=>some out
 |front,p::r,out=>match zbc w t [p] front with
  |none=>none
  |some m=>sepQ w t (front++[p]) r (out++m)
theorem zrg {w:List Data}{t:Ty}{S:Pat->Prop} (hmin:∀a b x,S a->S b->x∈zaB w 10 t a b->S x):∀(away l r:List Pat),(∀b∈away,zak w 10 t b=true/\S b)->(∀a∈l,zak w 11 t a=true/\S a/\zcz w t a=true)->subL w t l away=some r->∀x∈r,zak w 11 t x=true/\S x/\zcz w t x=true
 | [],l,r,_,hl,h=>by rw[subL] at h;cases h;exact hl
 |b::away,l,r,hb,hl,h=>by
  rw[subL] at h;split at h
  ·refine zrg hmin away _ r (fun x hx=>hb x (by simp[hx])) (fun x hx=>?_) h;have h1:=zgF (fun a ha=>(hl a ha).1) (hb b (by simp)).1 x hx;unfold zew at hx;obtain⟨h2,h3⟩:=List.mem_filter.1 hx;obtain⟨a,ha,h4⟩:=List.mem_flatMap.1 h2;exact⟨h1,hmin a b x (hl a ha).2.1 (hb b (by simp)).2 h4,h3⟩
  ·cases h
theorem zqz {w:List Data}{t:Ty}{S:Pat->Prop} (hmin:∀a b x,S a->S b->x∈zaB w 10 t a b->S x){away l r:List Pat} (hb:∀b∈away,zak w 10 t b=true/\S b) (hl:∀a∈l,zak w 11 t a=true/\S a) (h:zbc w t l away=some r):∀x∈r,zak w 11 t x=true/\S x/\zcz w t x=true:=by
 unfold zbc at h;exact zrg hmin away _ r hb (fun a ha=>⟨(hl a (List.mem_filter.1 ha).1).1,(hl a (List.mem_filter.1 ha).1).2,(List.mem_filter.1 ha).2⟩) h
theorem zrc {w:List Data}{t:Ty}{S:Pat->Prop} (hmin:∀a b x,S a->S b->x∈zaB w 10 t a b->S x):∀(r front out:List Pat){res:List Pat},(∀b∈front,zak w 10 t b=true/\S b)->(∀b∈r,zak w 10 t b=true/\S b)->(∀x∈out,zak w 11 t x=true/\S x/\zcz w t x=true)->
  sepQ w t front r out=some res->∀x∈res,zak w 11 t x=true/\S x/\zcz w t x=true
 | [],front,out,res,_,_,ho,h=>by rw[sepQ] at h;cases h;exact ho
 |p::r,front,out,res,hf,hr,ho,h=>by
  rw[sepQ] at h;cases hw:zbc w t [p] front with
  |none=>rw[hw] at h;cases h
  |some m=>
   rw[hw] at h;have hp:=hr p (by simp);have h1:=zqz hmin hf (fun a ha=>by rw[List.mem_singleton.1 ha];exact⟨zez (by omega) hp.1,hp.2⟩) hw;refine zrc hmin r (front++[p]) (out++m) (fun b hb=>?_) (fun b hb=>hr b (by simp[hb])) (fun x hx=>?_) h
   ·rcases List.mem_append.1 hb with hb|hb
    ·exact hf b hb
    ·rw[List.mem_singleton.1 hb];exact hp
   ·rcases List.mem_append.1 hx with hx|hx
    ·exact ho x hx
    ·exact h1 x hx
theorem zvn (n:Nat):∀f p r:Bool,(n+if f=true then 0 else one p)+(if (f||p)=true then 0 else one r)=n+if f=true then 0 else one (p||r):=by
 intro f p r;cases f<;>cases p<;>cases r<;>simp[one]
section
variable {w:List Data} (hs:Spa w){t:Ty} (ht:InS (w.length*4) t)
include hs ht
theorem zrb {v:Val}{k:Nat} (hv:zaC w k t v=true):∀(r front out:List Pat){res:List Pat},(∀b∈front,zak w 10 t b=true)->(∀b∈r,zak w 10 t b=true)->sepQ w t front r out=some res->
  res.countP (fun x=>hitP x v)=out.countP (fun x=>hitP x v)+if front.any (fun x=>hitP x v)=true then 0 else one (r.any fun x=>hitP x v)
 | [],front,out,res,_,_,h=>by
  rw[sepQ] at h;cases h;simp[one]
 |p::r,front,out,res,hf,hr,h=>by
  rw[sepQ] at h;cases hw:zbc w t [p] front with
  |none=>rw[hw] at h;cases h
  |some m=>
   rw[hw] at h;have hp:=hr p (by simp);have h1:=zqy hs ht hv hf (fun a ha=>by rw[List.mem_singleton.1 ha];exact zez (by omega) hp) hw;have h2:=zrb hv r (front++[p]) (out++m) (fun b hb=>by
    rcases List.mem_append.1 hb with hb|hb
    ·exact hf b hb
    ·rw[List.mem_singleton.1 hb];exact hp) (fun b hb=>hr b (by simp[hb])) h
   rw[h2,List.countP_append,h1,List.any_append,List.any_cons,List.countP_singleton];simp only[List.any_cons,List.any_nil,Bool.or_false];exact zvn _ _ _ _
end
end Go.Proofs.YtpgdedpljcedpaaGreat
namespace Go.Proofs.YtpgdedpljcedpaaGreat
open Go
set_option linter.unusedSimpArgs false
set_option linter.unusedVariables false
end Go.Proofs.YtpgdedpljcedpaaGreat
namespace Go.Proofs.YtpgdedpljcedpaaGreat
open Go
set_option linter.unusedSimpArgs false
set_option linter.unusedVariables false
set_option maxRecDepth 100000
set_option maxHeartbeats 2000000
abbrev sepV (w:List Data) (t:Ty) (l:List Pat):Option (List Pat):=sepQ w t [] l []
theorem zp7 {w:List Data}{t:Ty}{l o:List Pat}{i:Nat} (h:i<l.length):sepQ w t (l.take i) (l.drop i) o=match zbc w t [nth l i] (l.take i) with
  |none=>none
  |some m=>sepQ w t (l.take (i+1)) (l.drop (i+1)) (o++m):=by
 rw[zaN h,sepQ];have e:l.take i++[nth l i]=l.take (i+1):=by rw[List.take_succ_eq_append_getElem h,za5 h]
 rw[e];all_goals (cases zbc w t [nth l i] (l.take i)<;>rfl)
theorem zvv {w:List Data}{t:Ty}{l o:List Pat}{i:Nat} (h:l.length<=i):sepQ w t (l.take i) (l.drop i) o=some o:=by
 rw[List.drop_eq_nil_of_le h,sepQ]
theorem zt5 {w:List Data}{t:Ty}{l o m:List Pat}{i:Nat} (h:i<l.length) (hw:zbc w t [nth l i] (l.take i)=some m):sepQ w t (l.take i) (l.drop i) o=sepQ w t (l.take (i+1)) (l.drop (i+1)) (o++m):=by
 rw[zp7 h,hw]
theorem zvu {w:List Data}{t:Ty}{l o:List Pat}{i:Nat} (h:i<l.length) (hw:zbc w t [nth l i] (l.take i)=none):sepQ w t (l.take i) (l.drop i) o=none:=by
 rw[zp7 h,hw]
theorem zom {w:List Data}{t:Ty}:∀(r front o:List Pat){res:List Pat},(∀b∈front,zak w 10 t b=true)->(∀b∈r,zak w 10 t b=true)->(∀b∈o,zak w 11 t b=true)->sepQ w t front r o=some res->∀x∈res,zak w 11 t x=true
 | [],_,o,res,_,_,ho,h=>by rw[sepQ] at h;cases h;exact ho
 |p::r,front,o,res,hf,hr,ho,h=>by
  rw[sepQ] at h;cases hw:zbc w t [p] front with
  |none=>rw[hw] at h;cases h
  |some m=>
   rw[hw] at h;have hp:=hr p (by simp);have h1:=zgr front _ m (fun a ha=>by rw[List.mem_singleton.1 (List.mem_filter.1 ha).1];exact zez (by omega) hp) (Nat.le_trans (List.length_filter_le _ _) (by simp)) hf hw;refine zom r _ _ (fun b hb=>?_) (fun b hb=>hr b (by simp[hb])) (fun b hb=>?_) h
   ·rcases List.mem_append.1 hb with hb|hb
    ·exact hf b hb
    ·rw[List.mem_singleton.1 hb];exact hp
   ·rcases List.mem_append.1 hb with hb|hb
    ·exact ho b hb
    ·exact h1.2 b hb
theorem zs0 {w:List Data}{ta tk:Int}{l:List Pat} (hl:∀a∈l,zak w 10 ⟨ta,tk⟩ a=true) (i:Nat):((zbc w ⟨ta,tk⟩ [nth l i] (l.take i)).getD []).length<=400:=by
 cases hw:zbc w ⟨ta,tk⟩ [nth l i] (l.take i) with
 |none=>simp
 |some m=>
  by_cases hi:i<l.length
  ·exact(zgr (l.take i) _ m (fun a ha=>by rw[List.mem_singleton.1 (List.mem_filter.1 ha).1];exact zez (by omega) (hl _ (zah hi))) (Nat.le_trans (List.length_filter_le _ _) (by simp)) (fun b hb=>hl b (List.mem_of_mem_take hb)) hw).1
  ·rw[List.take_of_length_le (by omega)] at hw;have e:nth l i=default:=by simp[nth,List.getD,List.getElem?_eq_none (by omega:l.length<=i)]
   rw[e] at hw;unfold zbc at hw;have hlen:∀(away c r:List Pat),c.length<=400->subL w ⟨ta,tk⟩ c away=some r->r.length<=400:=fun away=>by
    induction away with
    |nil=>intro c r hc h;rw[subL] at h;cases h;exact hc
    |cons b away ih=>
     intro c r hc h;rw[subL] at h;split at h
     ·rename_i h4;exact ih _ _ h4 h
     ·cases h
   exact hlen _ _ _ (Nat.le_trans (List.length_filter_le _ _) (by simp)) hw
theorem zvb {l:List Pat} (i:Nat) (hi:i<l.length):zaj [nth l i] = .sl [(nth l i).cc]/\zaj (l.take i) = .sl ((Pat.cs l).take i)/\zaj [nth l i] = .sl (((Pat.cs l).drop i).take (i+1-i)):=by
 have e1:zaj [nth l i] = .sl [(nth l i).cc]:=by show D.sl (Pat.cs [nth l i])=_;rw[xav];rfl
 refine⟨e1, ?_, ?_⟩
 ·show D.sl (Pat.cs (l.take i))=_;rw[xav,xav,List.map_take]
 ·rw[e1,xav,<-List.map_drop,zaN hi,show i+1-i=1 by omega];rfl
section
variable {w:List Data} (hs:Spa w){ta tk:Int} (ht:InS (w.length*4) ⟨ta,tk⟩){l:List Pat} (hl:∀a∈l,zak w 10 ⟨ta,tk⟩ a=true) (hb:l.length<=1600)
include hs ht hl hb
theorem zld:FnD Tryz.prog 48 [.d (sPtr w (zai w)),.agg [.d (.i ta),.d (.i tk)],.d (zaj l)] [] (.tup [.d (zaj ((sepV w ⟨ta,tk⟩ l).getD [])),.d (.bool (sepV w ⟨ta,tk⟩ l).isSome)]) []:=by
 have hml:=zs0 hl;have hc:∀i,i<l.length->FnD Tryz.prog 49 [.d (sPtr w (zai w)),.agg [.d (.i ta),.d (.i tk)],.d (.sl [(nth l i).cc]),.d (.sl ((Pat.cs l).take i))] [] (.tup [.d (zaj ((zbc w ⟨ta,tk⟩ [nth l i] (l.take i)).getD [])),.d (.bool (zbc w ⟨ta,tk⟩ [nth l i] (l.take i)).isSome)]) []:=fun i hi=>by
  have h:=zl9 hs ht (l:=[nth l i]) (away:=l.take i) (fun a ha=>by rw[List.mem_singleton.1 ha];exact zez (by omega) (hl _ (zah hi))) (fun b hb=>hl b (List.mem_of_mem_take hb)) (by simp) (by rw[List.length_take];omega);obtain⟨e1,e2,_⟩:=zvb i hi;rw[e1,e2] at h;exact h
 have hbad:∀i o,i<l.length->(zbc w ⟨ta,tk⟩ [nth l i] (l.take i)).isSome=false->sepQ w ⟨ta,tk⟩ (l.take i) (l.drop i) o=none:=fun i o hi h=>zvu hi (by simpa using h);have hgood:∀i o,i<l.length->(zbc w ⟨ta,tk⟩ [nth l i] (l.take i)).isSome=true->sepQ w ⟨ta,tk⟩ (l.take i) (l.drop i) o=sepQ w ⟨ta,tk⟩ (l.take (i+1)) (l.drop (i+1)) (o++(zbc w ⟨ta,tk⟩ [nth l i] (l.take i)).getD []):=fun i o hi h=>by
  obtain⟨m,hm⟩:=Option.isSome_iff_exists.1 h;rw[zt5 hi hm,hm];rfl
 refine bd Tryz.f48 38 [8] [] fun w0 F0 own kept hk=>?_;refine bx 3004 ?_;refine evs [8] [] ?_;refine xaF 9 6 .none rfl rfl ?_;refine tv ?_;refine xak (ι:=Nat×List Pat) hk (fun s=>[(15,.d (.i (s.1:Int))),(8,.gl 9 (Pat.cs s.2))]) [6,7,9,10,11,12,16,17,18,19,20,21,22,23,24,25,26,27,28,29,30,31,32,33,34,35,36] (fun s=>[(9,some (.tok ((Pat.cs s.2)).length 6))]) (fun s=>s.1<=l.length/\sepQ w ⟨ta,tk⟩ (l.take s.1) (l.drop s.1) s.2=sepV w ⟨ta,tk⟩ l/\s.2.length<=400*s.1) (fun s=>l.length-s.1) (0,[]) ⟨by simp,by simp,by simp⟩ ⟨⟨_,rfl,xar ?_⟩,⟨⟨_,rfl,LeA.glg ?_⟩,trivial⟩⟩ ⟨zaa ?_,trivial⟩ (fun x=>rfl) (fun s hg1=>?_);iterate 3 focus (rfl)
 refine evc [8] [] ?_;refine sq ?_ ?_<;>intro h1 h1p h1s<;>(try simp only[Q,Pat.cs_len] at h1p);refine xaU sl26 .none rfl rfl rfl rfl (zaH (by omega)) rfl ?_;refine evs [8] [] ?_;refine ab 3010 tz28 ?_;refine evs [8] [] ?_;refine so ty28 ?_;refine tv ?_;refine si [0] [_] sl26 tz28 ?_;refine evd [8] [] ?_;refine xaQ (b:=s.1) sl26 .none rfl rfl rfl (by exact zee _) rfl rfl (by simp only[Pat.cs_len];omega) ?_;refine wc zwN (hc s.1 (by omega)) rfl rfl ?_;refine evd [8] [] ?_;refine dr ?_;refine sq ?_ ?_<;>intro h2 h2p h2s<;>(try simp only[Q,Pat.cs_len] at h2p);refine rn0 (r2 rfl rfl) (.tup (.cons (.nild ?_) (.cons (.eqd ?_) .nil)));rotate_left 2;refine ap sl26 zz28 rfl rfl rfl (by exact zee _) (by have h9:=hml s.1;simp only[Pat.cs_len];omega) ?_;refine asg ?_;refine tv ?_;refine ar ?_;refine xah ((s.1+1,s.2++(zbc w ⟨ta,tk⟩ [nth l s.1] (l.take s.1)).getD [])) ⟨(by
    refine⟨by dsimp only;omega, ?_, ?_⟩
    ·dsimp only;rw[<-hgood s.1 s.2 (by omega) (by first|assumption|simpa using h2p)];exact hg1.2.1
    ·have:=hml s.1;dsimp only;rw[xaa];omega),(by dsimp only;omega),sx ⟨⟨_,rfl,xar ?_⟩,⟨⟨_,rfl,LeA.glg ?_⟩,trivial⟩⟩ ⟨zaa ?_,trivial⟩⟩
 iterate 3 focus (first|(dsimp only;rw[xav,xav,xav,xaf];done)|(simp[Pat.cs_len];done))
 refine rn0 (r2 rfl rfl) (.tup (.cons (.gld ?_) (.cons (.eqd ?_) .nil)));rotate_left 2;all_goals (first|(rw[show sepV w ⟨ta,tk⟩ l=none from by rw[<-hg1.2.1];exact hbad s.1 s.2 (by omega) (by first|assumption|simpa using h2p)];rfl)|(rw[show sepV w ⟨ta,tk⟩ l=some s.2 from by rw[<-hg1.2.1];exact zvv (by omega)];rfl))
end
def zeU (w:List Data) (a k:Int) (p q:Pat):Bool:=(zaW w a k p&&isP w ⟨a,k⟩ q)&&(zh8 p&&zh8 q)
theorem zhL {w:List Data} (hs:WSmall w){a k:Int}{p q:Pat} (h:zeU w a k p q=true):Spa w/\InS (w.length*4) ⟨a,k⟩/\(∀x∈za0 p,zak w 10 ⟨a,k⟩ x=true)/\(∀x∈za0 q,zak w 10 ⟨a,k⟩ x=true)/\zas w 10 ⟨a,k⟩ p=true/\zas w 10 ⟨a,k⟩ q=true/\
  za0 p=zaz (zaO p)/\za0 q=zaz (zaO q)/\zbm w ⟨a,k⟩=true/\isP w ⟨a,k⟩ p=true/\isP w ⟨a,k⟩ q=true:=by
 unfold zeU zaW zh8 at h;simp only[xad,decide_eq_true_eq] at h;obtain⟨⟨⟨h1,h2⟩,h3⟩,h4,h5⟩:=h;have hp:=h2;have hq:=h3;unfold isP at h2 h3;rw[xad] at h2 h3;have hin:InS (w.length*4) ⟨a,k⟩:=by
  obtain⟨_,_,h6⟩:=zb2 h1;by_cases ha:a = -1
  ·exact .inl ha
  ·obtain⟨h7,h8,h9,h10⟩:=h6 ha;have:=zjC (n:=w.length) h8 (j:=k.toNat) (by omega);rwa [Int.toNat_of_nonneg h7,Int.toNat_of_nonneg h9] at this
 exact⟨ziS hs (zb2 h1).1,hin,zkW h2.1,zkW h3.1,h2.1,h3.1,by unfold za0;rw[if_pos h4],by unfold za0;rw[if_pos h5],h1,hp,hq⟩
theorem zkA {w:List Data} (hs:WSmall w){a k:Int}{p q:Pat} (hp:p.ok) (hq:q.ok):
  FnD Tryz.prog 46 [.d (zan w),.agg [.d (.i a),.d (.i k)],.agg [.d (.i p.op),.d (.i p.ctor),.d (.i p.n),.d (.i p.m),.d (.i p.var),.d (zaj p.kids)],.agg [.d (.i q.op),.d (.i q.ctor),.d (.i q.n),.d (.i q.m),.d (.i q.var),.d (zaj q.kids)]] []
   (.tup [.d (zaj (if (zaW w a k p&&isP w ⟨a,k⟩ q)=true then za0 p else [])),.d (zaj (if (zaW w a k p&&isP w ⟨a,k⟩ q)=true then za0 q else [])),.d (.bool (zeU w a k p q))]) []:=by
 have hpv:=zcB hs (a:=a) (k:=k) hp;have hshape:∀ {x:Pat},isP w ⟨a,k⟩ x=true->zas w 10 ⟨a,k⟩ x=true:=fun h=>by unfold isP at h;rw[xad] at h;exact h.1
 have hvp:zaW w a k p=true->zbm w ⟨a,k⟩=true/\isP w ⟨a,k⟩ p=true:=fun h=>by unfold zaW at h;rwa [xad] at h
 unfold zeU;by_cases h1:zaW w a k p=true
 ·obtain⟨h2,h3⟩:=hvp h1;have hok:=zeF (zhp hs (zb2 h2).1) (zb2 h2).2.1 hq;have hpp:=ziZ (hshape h3) hp;rw[h1] at hpv ⊢;by_cases h4:isP w ⟨a,k⟩ q=true
  ·have hpq:=ziZ (hshape h4) hq;rw[h4] at hok ⊢;refine bd Tryz.f46 43 [] [] fun w0 F0 own kept hk=>?_;refine bx 3005 ?_;refine bx 3006 ?_;refine bx 3007 ?_;refine ev ?_;refine wc zil (hpv) rfl rfl ?_;refine ev ?_;refine sq ?_ ?_<;>intro h1 h1p h1s<;>(try simp only[Q] at h1p);refine sqT ?_;focus (exfalso;contradiction)
   refine Walk.call (cr:=[]) zoN (hok) rfl (.some rfl rfl h1) rfl rfl (LeL.refl _) trivial rfl rfl rfl ?_;refine evs [] [(20,false)] ?_ ⟨⟨_,rfl,h1⟩,trivial⟩;refine sq ?_ ?_<;>intro h3 h3p h3s<;>(try simp only[Q] at h3p);focus (exfalso;contradiction)
   refine wc zus (hpp) rfl rfl ?_;refine ev ?_;refine wc zus (hpq) rfl rfl ?_;refine ev ?_;refine sq ?_ ?_<;>intro h4 h4p h4s<;>(try simp only[Q] at h4p);refine rn0 (.cons (.tmp rfl) (.cons (.tmp rfl) (.cons (.tmp rfl) .nil))) (.tup (.cons (.eqd ?_) (.cons (.eqd ?_) (.cons (.eqd ?_) .nil))));rotate_left 3;refine rn0 (.cons (.tmp rfl) (.cons (.tmp rfl) (.cons (.tmp rfl) .nil))) (.tup (.cons (.eqd ?_) (.cons (.eqd ?_) (.cons (.eqd ?_) .nil))));rotate_left 3;all_goals (first|rfl|(simp_all;done))
  ·have h4':isP w ⟨a,k⟩ q=false:=by simpa using h4
   rw[h4'] at hok ⊢;refine bd Tryz.f46 43 [] [] fun w0 F0 own kept hk=>?_;refine bx 3005 ?_;refine bx 3006 ?_;refine bx 3007 ?_;refine ev ?_;refine wc zil (hpv) rfl rfl ?_;refine ev ?_;refine sq ?_ ?_<;>intro h1 h1p h1s<;>(try simp only[Q] at h1p);refine sqT ?_;refine rn0 (.cons (.tmp rfl) (.cons (.tmp rfl) (.cons (.tmp rfl) .nil))) (.tup (.cons (.nild ?_) (.cons (.nild ?_) (.cons (.eqd ?_) .nil))));rotate_left 3;refine Walk.call (cr:=[]) zoN (hok) rfl (.some rfl rfl h1) rfl rfl (LeL.refl _) trivial rfl rfl rfl ?_;refine evs [] [(20,false)] ?_ ⟨⟨_,rfl,h1⟩,trivial⟩;refine sq ?_ ?_<;>intro h3 h3p h3s<;>(try simp only[Q] at h3p);refine rn0 (.cons (.tmp rfl) (.cons (.tmp rfl) (.cons (.tmp rfl) .nil))) (.tup (.cons (.nild ?_) (.cons (.nild ?_) (.cons (.eqd ?_) .nil))));rotate_left 3;focus (exfalso;contradiction)
   all_goals (first|rfl|(simp_all;done))
 ·have h1':zaW w a k p=false:=by simpa using h1
  rw[h1'] at hpv ⊢;refine bd Tryz.f46 43 [] [] fun w0 F0 own kept hk=>?_;refine bx 3005 ?_;refine bx 3006 ?_;refine bx 3007 ?_;refine ev ?_;refine wc zil (hpv) rfl rfl ?_;refine ev ?_;refine sq ?_ ?_<;>intro h1 h1p h1s<;>(try simp only[Q] at h1p);refine sqT ?_;refine rn0 (.cons (.tmp rfl) (.cons (.tmp rfl) (.cons (.tmp rfl) .nil))) (.tup (.cons (.nild ?_) (.cons (.nild ?_) (.cons (.eqd ?_) .nil))));rotate_left 3;focus (exfalso;contradiction)
  all_goals (first|rfl|(simp_all;done))
def zc5 (xs ys:List Pat):List Pat:=xs.flatMap fun x=>ys.filterMap (zaK 10 x)
theorem zjJ {xs ys:List Pat}{z:Pat}:z∈zc5 xs ys↔∃x∈xs,∃y∈ys,zaK 10 x y=some z:=by
 unfold zc5;simp only[List.mem_flatMap,List.mem_filterMap]
theorem zsT {xs ys:List Pat} (h1:xs.length<=40) (h2:ys.length<=40):(zc5 xs ys).length<=1600:=by
 have h:=zhw (f:=fun x=>ys.filterMap (zaK 10 x)) (k:=40) (fun x=>Nat.le_trans (List.length_filterMap_le _ _) h2) xs;unfold zc5;omega
theorem zfX {f:Pat->Option Pat}{pre:List Pat}{y z:Pat} (h:f y=some z):(pre++[y]).filterMap f=pre.filterMap f++[z]:=by
 rw[List.filterMap_append,List.filterMap_cons_some h,List.filterMap_nil]
theorem zkN {f:Pat->Option Pat}{pre:List Pat}{y:Pat} (h:f y=none):(pre++[y]).filterMap f=pre.filterMap f:=by
 rw[List.filterMap_append,List.filterMap_cons_none h,List.filterMap_nil,List.append_nil]
theorem zp6 {w:List Data}{t:Ty}:∀(r front o:List Pat){res:List Pat},sepQ w t front r o=some res->res.length<=o.length+400*r.length
 | [],_,o,res,h=>by rw[sepQ] at h;cases h;omega
 |p::r,front,o,res,h=>by
  rw[sepQ] at h;cases hw:zbc w t [p] front with
  |none=>rw[hw] at h;cases h
  |some m=>
   rw[hw] at h;have h1:=zp6 r _ _ h;have hsub:∀(away c r:List Pat),c.length<=400->subL w t c away=some r->r.length<=400:=fun away=>by
    induction away with
    |nil=>intro c r hc h;rw[subL] at h;cases h;exact hc
    |cons b away ih=>
     intro c r hc h;rw[subL] at h;split at h
     ·rename_i h4;exact ih _ _ h4 h
     ·cases h
   have h2:=hsub _ _ _ (Nat.le_trans (List.length_filter_le _ _) (by simp)) hw;rw[xaa] at h1;simp only[xab];omega
def meV (w:List Data) (a k:Int) (p q:Pat):Option (List Pat):=if zeU w a k p q=true then (match sepV w ⟨a,k⟩ (zc5 (za0 p) (za0 q)) with
  |none=>none
  |some z=>if z.all (isP w ⟨a,k⟩)=true then some z else none) else none
theorem zsR {w:List Data}{a k:Int}{p q:Pat} (h:zeU w a k p q=false):meV w a k p q=none:=by unfold meV;rw[if_neg (by rw[h];simp)]
theorem zuC {w:List Data}{a k:Int}{p q:Pat} (h:zeU w a k p q=true) (h2:sepV w ⟨a,k⟩ (zc5 (za0 p) (za0 q))=none):meV w a k p q=none:=by unfold meV;rw[if_pos h,h2]
theorem zuD {w:List Data}{a k:Int}{p q:Pat}{z:List Pat} (h:zeU w a k p q=true) (h2:sepV w ⟨a,k⟩ (zc5 (za0 p) (za0 q))=some z):meV w a k p q=if z.all (isP w ⟨a,k⟩)=true then some z else none:=by unfold meV;rw[if_pos h,h2]
theorem ziI {w:List Data}{t:Ty}{xs ys:List Pat} (hx:∀x∈xs,zak w 10 t x=true) (hy:∀y∈ys,zak w 10 t y=true):∀z∈zc5 xs ys,zak w 10 t z=true:=fun z hz=>by
 obtain⟨x,h1,y,h2,h3⟩:=zjJ.1 hz;exact zjI 10 10 (hx x h1) (hy y h2) h3
theorem zo3 {z:List Pat}{b:Bool}:zaj (if b=true then z else [])=zaj ((if b=true then some z else none).getD [])/\b=(if b=true then some z else none:Option (List Pat)).isSome:=by cases b<;>exact⟨rfl,rfl⟩
theorem ziB {w:List Data} (hs:WSmall w){a k:Int}{p q:Pat} (hp:p.ok) (hq:q.ok):
  FnD Tryz.prog 25 [.d (zan w),.agg [.d (.i a),.d (.i k)],.agg [.d (.i p.op),.d (.i p.ctor),.d (.i p.n),.d (.i p.m),.d (.i p.var),.d (zaj p.kids)],.agg [.d (.i q.op),.d (.i q.ctor),.d (.i q.n),.d (.i q.m),.d (.i q.var),.d (zaj q.kids)]] []
   (.tup [.d (zaj ((meV w a k p q).getD [])),.d (.bool (meV w a k p q).isSome)]) []:=by
 have hbp:=zkA hs (a:=a) (k:=k) hp hq;cases h2:zeU w a k p q with
 |false=>
  rw[zsR h2];rw[h2] at hbp;generalize (if (zaW w a k p&&isP w ⟨a,k⟩ q)=true then za0 p else [])=z1 at hbp;generalize (if (zaW w a k p&&isP w ⟨a,k⟩ q)=true then za0 q else [])=z2 at hbp;refine bd Tryz.f25 75 [] [] fun w0 F0 own kept hk=>?_;refine bx 3005 ?_;refine bx 3006 ?_;refine bx 3007 ?_;refine ev ?_;refine wc zrl (hbp) rfl rfl ?_;refine ev ?_;refine sq ?_ ?_<;>intro h1 h1p h1s;refine rn0 (r2 rfl rfl) (.tup (.cons (.nild ?_) (.cons (.eqd ?_) .nil)));rotate_left 2;focus (exfalso;contradiction)
  all_goals (rfl)
 |true=>
  obtain⟨hsp,hin,t1,t2,_⟩:=zhL hs h2;have hpq:(zaW w a k p&&isP w ⟨a,k⟩ q)=true:=by unfold zeU at h2;rw[xad] at h2;exact h2.1
  rw[h2,if_pos hpq,if_pos hpq] at hbp;have hn:=zgt hsp.dp;have hxl:=zmp p;have hyl:=zmp q;have hme:=fun(x y:Pat) (hx:x∈za0 p) (hy:y∈za0 q)=>zha hsp (f:=zai w) 10 10 (Nat.le_refl _) hin (t1 x hx) (t2 y hy);have hml:=zsT hxl hyl;have hmp:=ziI t1 t2;have hse:=zld hsp hin hmp hml;have hfl:∀pre x rest,pre++x::rest=za0 p->(pre.flatMap fun x=>(za0 q).filterMap (zaK 10 x)).length<=1600:=fun pre x rest h=>by
   have h3:=zhw (f:=fun x=>(za0 q).filterMap (zaK 10 x)) (k:=40) (fun x=>Nat.le_trans (List.length_filterMap_le _ _) hyl) pre;have h4:=congrArg List.length h;simp only[xaa,xab] at h4;omega
  cases h3:sepV w ⟨a,k⟩ (zc5 (za0 p) (za0 q)) with
  |none=>
   rw[zuC h2 h3];rw[h3] at hse;have hre:=zh4 hsp (f:=zai w) hin (l:=[]) (ok:=false) (by simp) (by simp);unfold zc5 at hse;generalize za0 p=X at *;generalize za0 q=Y at *;refine bd Tryz.f25 75 [14] [17] fun w0 F0 own kept hk=>?_;refine bx 3005 ?_;refine bx 3006 ?_;refine bx 3007 ?_;refine evs [14] [] ?_;refine wc zrl (hbp) rfl rfl ?_;refine evs [14] [] ?_;refine sq ?_ ?_<;>intro h1 h1p h1s;focus (exfalso;contradiction)
   refine wc zrm (hn) rfl rfl ?_;refine evs [14] [] ?_;refine xaF 9 6 .none rfl rfl ?_;refine tv ?_;refine xak (ι:=List (Pat)×List (Pat)) hk (fun x=>[(36,.d (.i (x.1.length:Int))),(14,.gl 9 (Pat.cs (x.1.flatMap fun x=>Y.filterMap (zaK 10 x))))]) [16,18,19,20,37,38,39,40,41,42,43,44,45,46,47,48,49,50,51,52,53,54,55,56,57,58,59,60] (fun x=>[(9,some (.tok ((Pat.cs (x.1.flatMap fun x=>Y.filterMap (zaK 10 x)))).length 6))]) (fun x=>x.1++x.2=X) (fun x=>x.2.length) ([],X) (by simp) ⟨⟨_,rfl,xar ?_⟩,⟨⟨_,rfl,LeA.glg ?_⟩,trivial⟩⟩ ⟨zaa ?_,trivial⟩ (fun x=>rfl) (fun x hg1=>?_);iterate 3 focus (rfl)
   obtain⟨pre,rest⟩:=x;dsimp only at hg1 ⊢;refine evc [14] [17] ?_;refine sq ?_ ?_<;>intro h2 h2p h2s<;>(try simp only[Q,Pat.cs_len] at h2p);rcases rest with _|⟨e,rest⟩
   ·exfalso;simp_all
   refine xaU sl26 .none rfl rfl rfl rfl (Pat.cs_at' hg1) rfl ?_;refine evs [14] [] ?_;refine ab 3016 tz28 ?_;refine so ty28 ?_;refine tv ?_;refine xak (ι:=List (Pat)×List (Pat)) hk (fun x=>[(42,.d (.i (x.1.length:Int))),(14,.gl 9 (Pat.cs ((pre.flatMap fun x=>Y.filterMap (zaK 10 x))++x.1.filterMap (zaK 10 e))))]) [18,19,20,43,44,45,46,47,48,49,50,51,52,53,54,55,56,57,58,59] (fun x=>[(9,some (.tok ((Pat.cs ((pre.flatMap fun x=>Y.filterMap (zaK 10 x))++x.1.filterMap (zaK 10 e)))).length 6))]) (fun x=>x.1++x.2=Y) (fun x=>x.2.length) ([],Y) (by simp) ⟨⟨_,rfl,xar ?_⟩,⟨⟨_,rfl,LeA.glg ?_⟩,trivial⟩⟩ ⟨zaa ?_,trivial⟩ (fun x=>rfl) (fun x hg2=>?_);iterate 3 focus ((simp;done))
   obtain⟨pre2,rest2⟩:=x;dsimp only at hg2 ⊢;refine evc [14] [17] ?_;refine sq ?_ ?_<;>intro h3 h3p h3s<;>(try simp only[Q,Pat.cs_len] at h3p);rcases rest2 with _|⟨y,rest2⟩
   ·exfalso;simp_all
   refine xaU sl26 .none rfl rfl rfl rfl (Pat.cs_at' hg2) rfl ?_;refine evs [14] [] ?_;refine ab 3018 tz28 ?_;refine so ty28 ?_;refine tv ?_;refine wc zoM (hme e y (by rw[<-hg1];simp) (by rw[<-hg2];simp)) rfl rfl ?_;refine evs [14] [] ?_;refine ab 3019 tz28 ?_;refine so ty28 ?_;refine evs [14] [] ?_;refine sq ?_ ?_<;>intro h4 h4p h4s;refine si [0] [_] sl26 tz28 ?_;refine ap sl26 zz28 rfl rfl rfl (by intro x hx;simp at hx;subst hx;rfl) (by have h9:=hfl pre e rest hg1;have h8:=List.length_filterMap_le (zaK 10 e) pre2;have h7:=congrArg List.length hg2;simp only[xaa,xab] at h7;simp only[Pat.cs_len,xaa,xab,xai];omega) ?_;refine asg ?_;refine tv ?_;refine ar ?_;refine xah ((pre2++[y],rest2)) ⟨(by have hz:=hg2;rw[<-hz];simp),(by simp),sx ⟨⟨_,rfl,xar ?_⟩,⟨⟨_,rfl,LeA.glg ?_⟩,trivial⟩⟩ ⟨zaa ?_,trivial⟩⟩;iterate 3 focus (first|(dsimp only;rw[zfX (zgW (by assumption)),xav,xav];simp only[xaf,List.append_assoc];rfl)|(dsimp only;rw[zfX (zgW (by assumption))];simp only[Pat.cs_len,xaa,xab,xai];omega)|(simp;done))
   refine ar ?_;refine xah ((pre2++[y],rest2)) ⟨(by have hz:=hg2;rw[<-hz];simp),(by simp),sx ⟨⟨_,rfl,xar ?_⟩,⟨⟨_,rfl,LeA.glg ?_⟩,trivial⟩⟩ ⟨zaa ?_,trivial⟩⟩;iterate 3 focus (first|(dsimp only;rw[zkN (zko (by first|assumption|(simp_all;done)))];done)|(simp;done))
   have hrest2:rest2=[]:=by
    rcases rest2 with _|⟨a,b⟩
    ·rfl
    ·exfalso;have hz:=congrArg List.length (hg2);simp only[xaa,xab,xac] at hz;omega
   subst hrest2;refine ar ?_;refine xah ((pre++[e],rest)) ⟨(by have hz:=hg1;rw[<-hz];simp),(by simp),sx ⟨⟨_,rfl,xar ?_⟩,⟨⟨_,rfl,LeA.glg ?_⟩,trivial⟩⟩ ⟨zaa ?_,trivial⟩⟩;iterate 3 focus (first|(dsimp only;rw[List.append_nil] at hg2;subst hg2;rw[List.flatMap_append];simp;done)|(simp;done))
   have hrest:rest=[]:=by
    rcases rest with _|⟨a,b⟩
    ·rfl
    ·exfalso;have hz:=congrArg List.length (hg1);simp only[xaa,xab,xac] at hz;omega
   subst hrest;obtain rfl:pre=X:=(by simpa using hg1);refine evc [14] [] ?_;refine Walk.call (cr:=[]) zuk (hse) rfl .none rfl rfl (.cons (.refl _) (.cons (.refl _) (.cons (.gl _ _) .nil))) trivial rfl rfl rfl ?_;refine evs [14] [] ?_;refine asg ?_;refine evs [14] [] ?_;refine wc zul (hre) rfl rfl ?_;refine evs [14] [] ?_;refine rn0 (r2 rfl rfl) (.tup (.cons (.eqd ?_) (.cons (.eqd ?_) .nil)));rotate_left 2;all_goals (rfl)
  |some z=>
   rw[zuD h2 h3];rw[h3] at hse;have hzp:=zom _ [] [] (by simp) hmp (by simp) h3;have hzl:=zp6 _ _ _ h3;have hre:=zh4 hsp (f:=zai w) hin (l:=z) (ok:=true) (fun x hx=>(zks hsp 11 hin (hzp x hx)).1) (by simp at hzl;omega);rw[Bool.true_and] at hre;generalize z.all (isP w ⟨a,k⟩)=b at *;unfold zc5 at hse;clear hmp hml hzl h3;generalize za0 p=X at *;generalize za0 q=Y at *;refine bd Tryz.f25 75 [14] [17] fun w0 F0 own kept hk=>?_;refine bx 3005 ?_;refine bx 3006 ?_;refine bx 3007 ?_;refine evs [14] [] ?_;refine wc zrl (hbp) rfl rfl ?_;refine evs [14] [] ?_;refine sq ?_ ?_<;>intro h1 h1p h1s;focus (exfalso;contradiction)
   refine wc zrm (hn) rfl rfl ?_;refine evs [14] [] ?_;refine xaF 9 6 .none rfl rfl ?_;refine tv ?_;refine xak (ι:=List (Pat)×List (Pat)) hk (fun x=>[(36,.d (.i (x.1.length:Int))),(14,.gl 9 (Pat.cs (x.1.flatMap fun x=>Y.filterMap (zaK 10 x))))]) [16,18,19,20,37,38,39,40,41,42,43,44,45,46,47,48,49,50,51,52,53,54,55,56,57,58,59,60] (fun x=>[(9,some (.tok ((Pat.cs (x.1.flatMap fun x=>Y.filterMap (zaK 10 x)))).length 6))]) (fun x=>x.1++x.2=X) (fun x=>x.2.length) ([],X) (by simp) ⟨⟨_,rfl,xar ?_⟩,⟨⟨_,rfl,LeA.glg ?_⟩,trivial⟩⟩ ⟨zaa ?_,trivial⟩ (fun x=>rfl) (fun x hg1=>?_);iterate 3 focus (rfl)
   obtain⟨pre,rest⟩:=x;dsimp only at hg1 ⊢;refine evc [14] [17] ?_;refine sq ?_ ?_<;>intro h2 h2p h2s<;>(try simp only[Q,Pat.cs_len] at h2p);rcases rest with _|⟨e,rest⟩
   ·exfalso;simp_all
   refine xaU sl26 .none rfl rfl rfl rfl (Pat.cs_at' hg1) rfl ?_;refine evs [14] [] ?_;refine ab 3016 tz28 ?_;refine so ty28 ?_;refine tv ?_;refine xak (ι:=List (Pat)×List (Pat)) hk (fun x=>[(42,.d (.i (x.1.length:Int))),(14,.gl 9 (Pat.cs ((pre.flatMap fun x=>Y.filterMap (zaK 10 x))++x.1.filterMap (zaK 10 e))))]) [18,19,20,43,44,45,46,47,48,49,50,51,52,53,54,55,56,57,58,59] (fun x=>[(9,some (.tok ((Pat.cs ((pre.flatMap fun x=>Y.filterMap (zaK 10 x))++x.1.filterMap (zaK 10 e)))).length 6))]) (fun x=>x.1++x.2=Y) (fun x=>x.2.length) ([],Y) (by simp) ⟨⟨_,rfl,xar ?_⟩,⟨⟨_,rfl,LeA.glg ?_⟩,trivial⟩⟩ ⟨zaa ?_,trivial⟩ (fun x=>rfl) (fun x hg2=>?_);iterate 3 focus ((simp;done))
   obtain⟨pre2,rest2⟩:=x;dsimp only at hg2 ⊢;refine evc [14] [17] ?_;refine sq ?_ ?_<;>intro h3 h3p h3s<;>(try simp only[Q,Pat.cs_len] at h3p);rcases rest2 with _|⟨y,rest2⟩
   ·exfalso;simp_all
   refine xaU sl26 .none rfl rfl rfl rfl (Pat.cs_at' hg2) rfl ?_;refine evs [14] [] ?_;refine ab 3018 tz28 ?_;refine so ty28 ?_;refine tv ?_;refine wc zoM (hme e y (by rw[<-hg1];simp) (by rw[<-hg2];simp)) rfl rfl ?_;refine evs [14] [] ?_;refine ab 3019 tz28 ?_;refine so ty28 ?_;refine evs [14] [] ?_;refine sq ?_ ?_<;>intro h4 h4p h4s;refine si [0] [_] sl26 tz28 ?_;refine ap sl26 zz28 rfl rfl rfl (by intro x hx;simp at hx;subst hx;rfl) (by have h9:=hfl pre e rest hg1;have h8:=List.length_filterMap_le (zaK 10 e) pre2;have h7:=congrArg List.length hg2;simp only[xaa,xab] at h7;simp only[Pat.cs_len,xaa,xab,xai];omega) ?_;refine asg ?_;refine tv ?_;refine ar ?_;refine xah ((pre2++[y],rest2)) ⟨(by have hz:=hg2;rw[<-hz];simp),(by simp),sx ⟨⟨_,rfl,xar ?_⟩,⟨⟨_,rfl,LeA.glg ?_⟩,trivial⟩⟩ ⟨zaa ?_,trivial⟩⟩;iterate 3 focus (first|(dsimp only;rw[zfX (zgW (by assumption)),xav,xav];simp only[xaf,List.append_assoc];rfl)|(dsimp only;rw[zfX (zgW (by assumption))];simp only[Pat.cs_len,xaa,xab,xai];omega)|(simp;done))
   refine ar ?_;refine xah ((pre2++[y],rest2)) ⟨(by have hz:=hg2;rw[<-hz];simp),(by simp),sx ⟨⟨_,rfl,xar ?_⟩,⟨⟨_,rfl,LeA.glg ?_⟩,trivial⟩⟩ ⟨zaa ?_,trivial⟩⟩;iterate 3 focus (first|(dsimp only;rw[zkN (zko (by first|assumption|(simp_all;done)))];done)|(simp;done))
   have hrest2:rest2=[]:=by
    rcases rest2 with _|⟨a,b⟩
    ·rfl
    ·exfalso;have hz:=congrArg List.length (hg2);simp only[xaa,xab,xac] at hz;omega
   subst hrest2;refine ar ?_;refine xah ((pre++[e],rest)) ⟨(by have hz:=hg1;rw[<-hz];simp),(by simp),sx ⟨⟨_,rfl,xar ?_⟩,⟨⟨_,rfl,LeA.glg ?_⟩,trivial⟩⟩ ⟨zaa ?_,trivial⟩⟩;iterate 3 focus (first|(dsimp only;rw[List.append_nil] at hg2;subst hg2;rw[List.flatMap_append];simp;done)|(simp;done))
   have hrest:rest=[]:=by
    rcases rest with _|⟨a,b⟩
    ·rfl
    ·exfalso;have hz:=congrArg List.length (hg1);simp only[xaa,xab,xac] at hz;omega
   subst hrest;obtain rfl:pre=X:=(by simpa using hg1);refine evc [14] [] ?_;refine Walk.call (cr:=[]) zuk (hse) rfl .none rfl rfl (.cons (.refl _) (.cons (.refl _) (.cons (.gl _ _) .nil))) trivial rfl rfl rfl ?_;refine evs [14] [] ?_;refine asg ?_;refine evs [14] [] ?_;refine wc zul (hre) rfl rfl ?_;refine evs [14] [] ?_;refine rn0 (r2 rfl rfl) (.tup (.cons (.eqd ?_) (.cons (.eqd ?_) .nil)));rotate_left 2;all_goals (first|exact(zo3 (z:=z) (b:=b)).1|exact congrArg D.bool (zo3 (z:=z) (b:=b)).2)
end Go.Proofs.YtpgdedpljcedpaaGreat
namespace Go.Proofs.YtpgdedpljcedpaaGreat
open Go
set_option linter.unusedSimpArgs false
set_option linter.unusedVariables false
theorem znZ (L:List Nat) (hp:Hp) (i:Nat):getH (L.map (fun j=>(j,(none:Option Res)))++hp) i=if i∈L then none else getH hp i:=by
 induction L with
 |nil=>simp
 |cons x r ih=>
  simp only[xae,xag,zac,List.mem_cons];by_cases h:i=x
  ·subst h;simp
  ·simp[h,ih]
section
variable {c:Ctx}
theorem R.drop {G:Gh}{s:St}{a:Act}{w:World} (hr:R c G s a w) (L:List Nat) (hk:∀i l,c.kept i=some l->i∉L):R c G ⟨s.env,L.map (fun j=>(j,none))++s.hp⟩ a w:=by
 have hg:=znZ L s.hp;have hT:∀i p,tokf (L.map (fun j=>(j,(none:Option Res)))++s.hp) i=some p->tokf s.hp i=some p:=fun i p h=>by
  obtain⟨n,k⟩:=p;have:=zao.1 h;rw[hg] at this;split at this
  ·cases this
  ·exact zao.2 this
 have hm:∀ {x:AV}{v:Value},RelA G (tokf s.hp) w x v->RelA G (tokf (L.map (fun j=>(j,(none:Option Res)))++s.hp)) w x v:=fun hx=>
  hx.mono (fun _ _ ho=>⟨ho,rfl⟩) (fun _ _=> .inl rfl) (fun i _ p hp=>⟨hT i p hp,fun _ _=>⟨rfl,rfl⟩⟩)
 have hs:∀i r,getH (L.map (fun j=>(j,(none:Option Res)))++s.hp) i=some r->getH s.hp i=some r:=fun i r h=>by
  rw[hg] at h;split at h
  ·cases h
  ·exact h
 have hss:∀i,(getH (L.map (fun j=>(j,(none:Option Res)))++s.hp) i).isSome->(getH s.hp i).isSome:=fun i h=>by
  obtain⟨r,hr⟩:=Option.isSome_iff_exists.1 h;rw[hs i r hr];rfl
 refine⟨hr.size,hr.defers,fun i v h=>hm (hr.slots i v h),fun i r h=>?_,fun i j h1 h2=>hr.disj i j (hss i h1) (hss j h2),fun i h=>hr.new i (hss i h),hr.frm,hr.top,fun i l hl=>?_⟩
 ·have hh:=hr.heap i r (hs i r h);cases r with
  |box cs=>
   obtain⟨b,vs,e,h1,h2,h3,h4,h5⟩:=hh;exact⟨b,vs,e,h1,h2,h3,h4,fun j hj hv=>hm (h5 j hj hv)⟩
  |tok m k=>exact hh
  |map ks=>exact hh
  |tree cs=>exact zbg hh rfl (fun _ _=>⟨rfl,rfl⟩) (Nat.le_refl _) (fun _ _ _=>hm)
 ·obtain⟨k1,k2,k3⟩:=hr.kept i l hl;refine⟨k1, ?_, ?_⟩
  ·show(getH (L.map (fun j=>(j,(none:Option Res)))++s.hp) i).isSome
   rw[hg,if_neg (hk i l hl)];exact k2
  ·show tokf (L.map (fun j=>(j,(none:Option Res)))++s.hp) i=none
   cases h:tokf (L.map (fun j=>(j,(none:Option Res)))++s.hp) i with
   |none=>rfl
   |some p=>rw[hT i p h] at k3;cases k3
theorem R.retokG {G G':Gh}{s:St}{a:Act}{w w':World} (hr:R c G s a w){id n n' k:Nat} (htok:getH s.hp id=some (.tok n k)) (hlt:n<n')
  (hF:∀b o,o<G.F b->o<G'.F b/\w'.cell? ⟨b,o,none⟩=w.cell? ⟨b,o,none⟩) (hloc:∀i,i≠id->G'.loc i=G.loc i)
  (hoth:∀b,b<w.heap.size->b∉G.loc id->w'.heap[b]?=w.heap[b]?/\G'.F b=G.F b)
  (hid:∀b,b∈G'.loc id->b<w'.heap.size) (hnew:∀b,b∈G'.loc id->b∈G.loc id\/w.heap.size<=b\/((b∈c.own\/c.w0.heap.size<=b)/\∀i,i≠id->(getH s.hp i).isSome->b∉G.loc i))
  (hos:w'.os=w.os) (htp:w'.tape=w.tape) (hou:w'.output=w.output) (hsz:w.heap.size<=w'.heap.size) (htop:∀b,w'.heap.size<=b->G'.F b=0):
  R c G' { s with hp:=(id,some (.tok n' k))::s.hp } a w':=by
 have hT:tokf s.hp id=some (n,k):=zao.2 htok;have hT1:tokf ((id,some (.tok n' k))::s.hp) id=some (n',k):=zao.2 (by rw[zac,if_pos rfl]);have hT2:∀i,i≠id->tokf ((id,some (.tok n' k))::s.hp) i=tokf s.hp i:=fun i hi=>by
  unfold tokf;rw[zac,if_neg hi]
 have bound:∀i r,getH s.hp i=some r->∀b,b∈G.loc i->b<w.heap.size:=fun i r h=>(hr.heap i r h).bound;have apart:∀i r,i≠id->getH s.hp i=some r->∀b,b∈G.loc i->b∉G.loc id:=fun i r hi h b hb=>hr.disj i id (by rw[h];rfl) (by rw[htok];rfl) hi b hb;have hm:∀ {x:AV}{v:Value},RelA G (tokf s.hp) w x v->RelA G' (tokf ((id,some (.tok n' k))::s.hp)) w' x v:=fun hx=>
  hx.retok hF hT hlt hT1 hT2 hloc (fun i p hi hp b hb=>by
   obtain⟨m,k'⟩:=p;have h1:=zao.1 hp;exact hoth b (bound i _ h1 b hb) (apart i _ hi h1 b hb))
 have hsome:∀i,(getH ((id,some (.tok n' k))::s.hp) i).isSome->(getH s.hp i).isSome:=fun i h=>by
  rw[zac] at h;split at h
  ·rename_i e;subst e;rw[htok];rfl
  ·exact h
 have hidnew:=hr.new id (by rw[htok];rfl);have far:∀b,b∈G'.loc id->∀i r,i≠id->getH s.hp i=some r->b∉G.loc i:=fun b hb i r hi h hbj=>by
  rcases hnew b hb with h1|h1|h1
  ·exact apart i r hi h b hbj h1
  ·have:=bound i r h b hbj;omega
  ·exact h1.2 i hi (by rw[h];rfl) hbj
 refine⟨hr.size,hr.defers,fun i v h=>hm (hr.slots i v h),fun i r h=>?_,fun i j h1 h2 h3 b hb=>?_,fun i h b hb=>?_,
  hr.frm.trans (own1:=G.loc id) ⟨hos,htp,hou,hsz,hoth,hF⟩ hidnew,htop,fun i l hl=>?_⟩
 ·rw[zac] at h;by_cases hi:i=id
  ·subst hi;rw[if_pos rfl] at h;cases h
   exact hid
  ·rw[if_neg hi] at h;have hh:=hr.heap i r h;have ho:∀b,b∈G.loc i->w'.heap[b]?=w.heap[b]?/\G'.F b=G.F b:=fun b hb=>hoth b (bound i r h b hb) (apart i r hi h b hb);cases r with
   |box cs=>
    obtain⟨b,vs,e,h1,h2,h3,h4,h5⟩:=hh;obtain⟨o1,o2⟩:=ho b (by simp[h1]);exact⟨b,vs,e,(hloc i hi).trans h1,o1.trans h2,h3,o2.trans h4,fun j hj hv=>hm (h5 j hj hv)⟩
   |tok m k'=>exact fun b h1=>Nat.lt_of_lt_of_le (hh b (by rw[hloc i hi] at h1;exact h1)) (by omega)
   |map ks=>
    obtain⟨b,es,cl,h1,h2,h3,h4⟩:=hh;obtain⟨o1,o2⟩:=ho b (by simp[h1]);exact⟨b,es,cl,(hloc i hi).trans h1,o1.trans h2,o2.trans h3,h4⟩
   |tree cs=>exact zbg hh (hloc i hi) ho (by omega) (fun _ _ _=>hm)
 ·have s1:=hsome i h1;have s2:=hsome j h2;obtain⟨r1,hr1⟩:=Option.isSome_iff_exists.1 s1;obtain⟨r2,hr2⟩:=Option.isSome_iff_exists.1 s2;by_cases hi:i=id
  ·subst hi;rw[hloc j (Ne.symm h3)];exact far b hb j r2 (Ne.symm h3) hr2
  ·rw[hloc i hi] at hb;by_cases hj:j=id
   ·subst hj;exact fun hbj=>far b hbj i r1 hi hr1 hb
   ·rw[hloc j hj];exact hr.disj i j s1 s2 h3 b hb
 ·have s1:=hsome i h;by_cases hi:i=id
  ·subst hi;rcases hnew b hb with h' | h' | h'
   ·exact hidnew b h'
   ·right;have:=hr.frm.size;omega
   ·exact h'.1
  ·rw[hloc i hi] at hb;exact hr.new i s1 b hb
 ·have hk:=hr.kept i l hl;have hi:i≠id:=fun e=>by subst e;rw[hT] at hk;simp at hk
  refine⟨(congrArg List.head? (hloc i hi)).trans hk.1, ?_,(hT2 i hi).trans hk.2.2⟩;show(getH ((id,some (.tok n' k))::s.hp) i).isSome
  rw[zac,if_neg hi];exact hk.2.1
inductive RowT (hp:Hp):List AV->List D->List (Nat×Nat×Nat)->Prop
 |nil:RowT hp [] [] []
 |sc {x cs ds js} (hs:zku x=true) (h:RowT hp cs ds js):RowT hp (.d x::cs) (x::ds) js
 |ni {cs ds js} (h:RowT hp cs ds js):RowT hp (.nils::cs) (.sl []::ds) js
 |gt {j zs n k cs ds js} (hj:getH hp j=some (.tok n k)) (hn:n=zs.length) (h:RowT hp cs ds js):RowT hp (.gt j zs::cs) (.sl zs::ds) ((j,n,k)::js)
theorem RowT.toks {hp:Hp}{cs:List AV}{ds:List D}{js:List (Nat×Nat×Nat)} (h:RowT hp cs ds js):∀q,q∈js->getH hp q.1=some (.tok q.2.1 q.2.2):=by
 induction h with
 |nil=>intro q hq;simp at hq
 |sc _ _ ih=>exact ih
 |ni _ ih=>exact ih
 |gt hj _ _ ih=>
  intro q hq;rcases List.mem_cons.1 hq with rfl|hq
  ·exact hj
  ·exact ih q hq
theorem RowT.move {hp hp':Hp}{cs:List AV}{ds:List D}{js:List (Nat×Nat×Nat)} (h:RowT hp cs ds js):(∀q,q∈js->getH hp' q.1=some (.tok q.2.1 q.2.2))->RowT hp' cs ds js:=by
 induction h with
 |nil=>intro _;exact .nil
 |sc hs _ ih=>intro h;exact .sc hs (ih h)
 |ni _ ih=>intro h;exact .ni (ih h)
 |gt hj hn _ ih=>intro h;exact .gt (h (_,_,_) List.mem_cons_self) hn (ih fun q hq=>h q (List.mem_cons_of_mem _ hq))
theorem RowT.len {hp:Hp}{cs:List AV}{ds:List D}{js:List (Nat×Nat×Nat)} (h:RowT hp cs ds js):ds.length=cs.length:=by
 induction h with
 |nil=>rfl
 |sc _ _ ih=>simp[ih]
 |ni _ ih=>simp[ih]
 |gt _ _ _ ih=>simp[ih]
theorem RowT.trees {G:Gh}{hp:Hp}{w:World}{cs:List AV}{ds:List D}{js:List (Nat×Nat×Nat)} (h:RowT hp cs ds js):∀ {vs:List Value},vs.length=cs.length->
  (∀i (hi:i<cs.length) (hv:i<vs.length),RelA G (tokf hp) w cs[i] vs[i])->
  ∃Sl:List (List Nat),Sl.length=cs.length/\(∀i (hi:i<ds.length) (hv:i<vs.length) (hs:i<Sl.length),TreeD true w ds[i] vs[i] Sl[i])/\Sl.flatten=js.flatMap (fun q=>G.loc q.1)/\
   (∀u,u∈vs->u.oneCell'=true)/\∀q,q∈js->(G.loc q.1).Nodup/\∀b,b∈G.loc q.1->G.F b=0:=by
 induction h with
 |nil=>
  intro vs hl _;have:vs=[]:=List.eq_nil_of_length_eq_zero hl;subst this;exact⟨[],rfl,fun i hi=>by simp at hi,rfl,by simp,by simp⟩
 | @sc x cs ds js hs h ih=>
  intro vs hl hrel;match vs,hl with
  |v::vs,hl=>
   obtain⟨Sl,h1,h2,h3,h4,h5⟩:=ih (vs:=vs) (by simpa using hl) (fun i hi hv=>hrel (i+1) (by simpa using hi) (by simpa using hv));have h0:=(hrel 0 (by simp) (by simp)).d_inv;simp only[List.getElem_cons_zero] at h0;obtain⟨f1,f2⟩:=zgK hs;refine⟨[]::Sl,by simp[h1],fun i hi hv hs'=>?_,by simpa using h3,fun u hu=>?_,h5⟩
   ·cases i with
    |zero=>exact TreeD.ofFlat f1 (.inr f2) h0
    |succ i=>exact h2 i (by simpa using hi) (by simpa using hv) (by simpa using hs')
   ·rcases List.mem_cons.1 hu with rfl|hu
    ·exact h0.one
    ·exact h4 u hu
 | @ni cs ds js h ih=>
  intro vs hl hrel;match vs,hl with
  |v::vs,hl=>
   obtain⟨Sl,h1,h2,h3,h4,h5⟩:=ih (vs:=vs) (by simpa using hl) (fun i hi hv=>hrel (i+1) (by simpa using hi) (by simpa using hv));have h0:=hrel 0 (by simp) (by simp);simp only[List.getElem_cons_zero] at h0;have hv:v = .slice none 0 0:=by cases h0;rfl
   subst hv;refine⟨[]::Sl,by simp[h1],fun i hi hv hs'=>?_,by simpa using h3,fun u hu=>?_,h5⟩
   ·cases i with
    |zero=>exact .nil
    |succ i=>exact h2 i (by simpa using hi) (by simpa using hv) (by simpa using hs')
   ·rcases List.mem_cons.1 hu with rfl|hu
    ·rfl
    ·exact h4 u hu
 | @gt j zs n k cs ds js hj hn h ih=>
  intro vs hl hrel;match vs,hl with
  |v::vs,hl=>
   obtain⟨Sl,h1,h2,h3,h4,h5⟩:=ih (vs:=vs) (by simpa using hl) (fun i hi hv=>hrel (i+1) (by simpa using hi) (by simpa using hv));have h0:=hrel 0 (by simp) (by simp);simp only[List.getElem_cons_zero] at h0;obtain⟨⟨ad,cap0,hv0⟩,hcl⟩:=h0.gt_inv;obtain⟨hkx,htip⟩:=(hcl n k (zao.2 hj)).2 hn;have key:TreeD true w (.sl zs) v (G.loc j)/\(G.loc j).Nodup/\∀b,b∈G.loc j->G.F b=0:=by
    rcases htip with ⟨e1,e2,e3⟩|⟨b,cap,us,e,Ss,e1,e2,e3,e4,e5,e6,e7,e8⟩
    ·have hz:zs=[]:=List.eq_nil_of_length_eq_zero (by omega);subst hz;rw[e1,e3];exact⟨.nil,by simp,by simp⟩
    ·refine⟨?_,e6,e7⟩;subst hn;rw[e1,e2];exact TreeD.sl (m:=true) zs k b cap us e Ss hkx e5 e3 e4 e8.1 (fun _ hz=>e8.2 (by rw[hz];rfl))
   refine⟨G.loc j::Sl,by simp[h1],fun i hi hv hs'=>?_,by simp[h3],fun u hu=>?_,fun q hq=>?_⟩
   ·cases i with
    |zero=>exact key.1
    |succ i=>exact h2 i (by simpa using hi) (by simpa using hv) (by simpa using hs')
   ·rcases List.mem_cons.1 hu with rfl|hu
    ·rw[hv0];rfl
    ·exact h4 u hu
   ·rcases List.mem_cons.1 hq with rfl|hq
    ·exact key.2
    ·exact h5 q hq
def ndB:List Nat->Bool
 | []=>true
 |x::r=> !zaP x r&&ndB r
theorem zob:∀ {l:List Nat},ndB l=true->l.Nodup
 | [],_=> .nil
 |x::r,h=>by
  simp only[ndB,xad,Bool.not_eq_true'] at h;refine List.nodup_cons.2 ⟨fun hm=>?_,zob h.2⟩;rw[zaL.2 hm] at h;cases h.1
theorem zmk {loc:Nat->List Nat}:∀ {l:List Nat},l.Nodup->(∀j,j∈l->(loc j).Nodup)->(∀i j,i∈l->j∈l->i≠j->∀b,b∈loc i->b∉loc j)->(l.flatMap loc).Nodup
 | [],_,_,_=>by simp
 |x::r,h,h1,h2=>by
  have hn:=List.nodup_cons.1 h;simp only[List.flatMap_cons,List.nodup_append,List.mem_flatMap];refine⟨h1 x (by simp),zmk hn.2 (fun j hj=>h1 j (by simp[hj])) (fun i j hi hj=>h2 i j (by simp[hi]) (by simp[hj])),fun b hb b' hb' e=>?_⟩;obtain⟨j,hj,hbj⟩:=hb';subst e;exact h2 x j (by simp) (by simp[hj]) (fun e=>by subst e;exact hn.1 hj) b hb hbj
theorem zeA {α:Type}{f:Nat->List α} (n m:Nat):(List.range (n+m)).flatMap f=(List.range n).flatMap f++(List.range m).flatMap (fun i=>f (n+i)):=by
 rw[List.range_add,List.flatMap_append];congr 1
 simp[List.flatMap_map]
theorem zhC {α:Type}:∀(l:List (List α)),(List.range l.length).flatMap (fun i=>l.getD i [])=l.flatten
 | []=>rfl
 |x::r=>by
  rw[xab,show r.length+1=1+r.length by omega,zeA];simp only[List.flatten_cons,<-zhC r];congr 1
  ·simp[List.range_succ]
  ·congr 1;funext i;rw[show 1+i=i+1 by omega];rfl
theorem zfz {α:Type}{f g:Nat->List α} (n:Nat) (h:∀i,i<n->f i=g i):(List.range n).flatMap f=(List.range n).flatMap g:=by
 induction n with
 |zero=>rfl
 |succ n ih=>rw[zeA,zeA,ih (fun i hi=>h i (by omega))];simp[h n (by omega)]
theorem zjf {t:TypeId}{G:Gh}{s:St}{a:Act}{w:World}{hp1:Hp} (hr:R c G ⟨s.env,hp1⟩ a w){id m k e yb cap2:Nat}{xs ys:List (List D)}{v:Value}{a0:Addr}{news:List Value}{Sl:List (List Nat)} (ht:SlT c.P t e k yb){z:Value} (hz:∃i,c.P.info? e=some i/\i.zero=some z/\z.cells.size=k)
  (htok1:getH hp1 id=some (.tok xs.length k)) (hkx:∀x,x∈xs->x.length=k) (htip:TipT G w id xs.length k v xs) (hky:∀y,y∈ys->y.length=k) (hym:ys.length=m) (hmpos:0<m)
  (hnl:news.length=m*k) (hnews:∀j u,news[j]?=some u->w.cell? (a0.add j)=some u) (hone:∀u,u∈news->u.oneCell'=true) (hSl:Sl.length=m*k)
  (htr:∀i (hi:i<ys.length) j (hj:j<ys[i].length) (hv:i*k+j<news.length),TreeD true w ys[i][j] news[i*k+j] (Sl.getD (i*k+j) []))
  (newNodup:Sl.flatten.Nodup) (newF:∀b,b∈Sl.flatten->G.F b=0) (newLt:∀b,b∈Sl.flatten->b<w.heap.size) (newOwn:∀b,b∈Sl.flatten->b∈c.own\/c.w0.heap.size<=b)
  (newApart1:∀b,b∈Sl.flatten->∀i,i≠id->(getH hp1 i).isSome->b∉G.loc i) (newNe:∀x,x∈Sl.flatten->x∉G.loc id)
  (hb:(xs.length+m)*yb<=140737488355328) (hm:xs.length+m<=9223372036854775807) (opt:TypeId):
  ∃v' w' G',(Builtin.append_ #[t,t] opt #[v,.slice (some a0) m cap2]).run c.P w = .ok v' w'/\
   R c G' ⟨s.env,(id,some (.tok (xs.length+m) k))::hp1⟩ a w'/\
   RelA G' (tokf ((id,some (.tok (xs.length+m) k))::hp1)) w' (.gt id (xs++ys)) v':=by
 obtain⟨i,hi1,hi2,hi3⟩:=ht.inf;obtain⟨i',z1,z2,z3⟩:=hz;rw[hi1] at z1;cases z1
 have hT':tokf ((id,some (.tok (xs.length+m) k))::hp1) id=some (xs.length+m,k):=zao.2 (by rw[zac,if_pos rfl]);have hlt:∀b o,o<G.F b->b<w.heap.size:=fun b o ho=>by
  rcases Nat.lt_or_ge b w.heap.size with h|h
  ·exact h
  ·rw[hr.top b h] at ho;omega
 have hkx':∀x,x∈xs++ys->x.length=k:=fun x hx=>by
  rcases List.mem_append.1 hx with h|h
  ·exact hkx x h
  ·exact hky x h
 have hmul1:(xs.length+m)*k=xs.length*k+m*k:=by rw[Nat.add_mul]
 have hlen':(xs++ys).length=xs.length+m:=by rw[xaa,hym]
 let Sn:(Nat->List Nat)->Nat->List Nat:=fun Ss q=>if q<xs.length*k then Ss q else Sl.getD (q-xs.length*k) []
 have hSn:∀Ss,(List.range ((xs.length+m)*k)).flatMap (Sn Ss)=(List.range (xs.length*k)).flatMap Ss++Sl.flatten:=fun Ss=>by
  rw[hmul1,zeA];congr 1
  ·exact zfz _ (fun i hi=>by simp[Sn,hi])
  ·rw[<-zhC Sl,hSl];refine zfz _ (fun i hi=>?_);simp only[Sn];rw[if_neg (by omega),show xs.length*k+i-xs.length*k=i by omega]

 have trees:∀(Ss:Nat->List Nat) (olds:List Value) (tail:List Value) (w':World),olds.length=xs.length*k->(∀b,b∈(List.range (xs.length*k)).flatMap Ss++Sl.flatten->w'.heap[b]?=w.heap[b]?)->
   (∀i (hi:i<xs.length) j (hj:j<xs[i].length),TreeD true w xs[i][j] (olds.getD (i*k+j) undef) (Ss (i*k+j)))->
   ∀i (hi:i<(xs++ys).length) j (hj:j<(xs++ys)[i].length),TreeD true w' (xs++ys)[i][j] ((olds++news++tail).toArray.getD (i*k+j) undef) (Sn Ss (i*k+j)):=by
  intro Ss olds tail w' hol hw hold i hi j hj;by_cases hix:i<xs.length
  ·have e0:(xs++ys)[i]=xs[i]:=List.getElem_append_left hix;have hj':j<xs[i].length:=by rw[<-e0];exact hj
   have h1:xs[i].length=k:=hkx _ (List.getElem_mem hix);have hlt':i*k+j<xs.length*k:=zen hix (by omega);have e1:(olds++news++tail).toArray.getD (i*k+j) undef=olds.getD (i*k+j) undef:=by
    simp[List.getD,List.append_assoc,List.getElem?_append_left (show i*k+j<olds.length by omega)]
   have e2:Sn Ss (i*k+j)=Ss (i*k+j):=by simp[Sn,hlt']
   rw[e1,e2];have e3:(xs++ys)[i][j]=xs[i][j]:=by congr 1
   rw[e3];refine(hold i hix j hj').mono (fun b hb=>hw b ?_);exact List.mem_append_left _ (List.mem_flatMap.2 ⟨i*k+j,List.mem_range.2 hlt',hb⟩)
  ·have hiy:i-xs.length<ys.length:=by omega
   have e0:(xs++ys)[i]=ys[i-xs.length]:=List.getElem_append_right (by omega);have hj':j<ys[i-xs.length].length:=by rw[<-e0];exact hj
   have e3:(xs++ys)[i][j]=ys[i-xs.length][j]:=by congr 1
   have hjk:j<k:=by rw[<-hky _ (List.getElem_mem hiy)];exact hj'
   have hq:(i-xs.length)*k+j<m*k:=zen (by omega) hjk;have hpos:i*k+j=xs.length*k+((i-xs.length)*k+j):=by
    rw[show i*k=xs.length*k+(i-xs.length)*k by rw[<-Nat.add_mul];congr 1;omega];omega
   have hjn:(i-xs.length)*k+j<news.length:=by omega
   have e1:(olds++news++tail).toArray.getD (i*k+j) undef=news[(i-xs.length)*k+j]:=by
    rw[hpos,<-hol];simp[List.getD,List.append_assoc,List.getElem?_append_right,List.getElem?_append_left hjn,hjn]
   have hjs:(i-xs.length)*k+j<Sl.length:=by omega
   have e2:Sn Ss (i*k+j)=Sl.getD ((i-xs.length)*k+j) []:=by
    simp only[Sn];rw[hpos,if_neg (by omega),show xs.length*k+((i-xs.length)*k+j)-xs.length*k=(i-xs.length)*k+j by omega]
   rw[e1,e2,e3];refine(htr _ hiy j hj' hjn).mono (fun b hb=>hw b ?_);have e4:Sl.getD ((i-xs.length)*k+j) []=Sl[(i-xs.length)*k+j]:=by simp[List.getD,hjs]
   rw[e4] at hb;exact List.mem_append_right _ (List.mem_flatten.2 ⟨_,List.getElem_mem hjs,hb⟩)
 have hidlt:∀b,b∈G.loc id->b<w.heap.size:=(hr.heap id _ htok1).bound

 have fresh:∀(Ss:Nat->List Nat) (olds:List Value) (nc:Nat),olds.length=xs.length*k->xs.length+m<=nc->
   ((List.range (xs.length*k)).flatMap Ss).Nodup->(∀b,b∈(List.range (xs.length*k)).flatMap Ss->b∈G.loc id/\G.F b=0)->
   (∀i (hi:i<xs.length) j (hj:j<xs[i].length),TreeD true w xs[i][j] (olds.getD (i*k+j) undef) (Ss (i*k+j)))->
   ∃G',R c G' ⟨s.env,(id,some (.tok (xs.length+m) k))::hp1⟩ a (w.drew.alloc (.cells (olds.toArray++news.toArray++Builtin.zeroCells z.cells (nc-(xs.length+m))) e))/\
    RelA G' (tokf ((id,some (.tok (xs.length+m) k))::hp1)) (w.drew.alloc (.cells (olds.toArray++news.toArray++Builtin.zeroCells z.cells (nc-(xs.length+m))) e))
     (.gt id (xs++ys)) (.slice (some ⟨w.heap.size,0,none⟩) (xs.length+m) nc):=by
  intro Ss olds nc hol hnc' hndS hSin hold;let cs':Array Value:=olds.toArray++news.toArray++Builtin.zeroCells z.cells (nc-(xs.length+m))
  let G':Gh:={ F:=G.F,loc:=fun j=>bif Nat.beq j id then w.heap.size::(List.range ((xs.length+m)*k)).flatMap (Sn Ss) else G.loc j }
  have hcs:cs'.size=nc*k:=by
   simp only[cs',Array.size_append,List.size_toArray,size_zeroCells,z3,hol,hnl];rw[<-hmul1,<-Nat.add_mul];congr 1;omega
  have hcell:∀b o,o<G.F b->o<G'.F b/\(w.drew.alloc (.cells cs' e)).cell? ⟨b,o,none⟩=w.cell? ⟨b,o,none⟩:=fun b o ho=>by
   have hb:=hlt b o ho;exact⟨ho,by rw[World.cell?_alloc_lt w.drew _ _ hb];rfl⟩
  have hlocne:∀j,j≠id->G'.loc j=G.loc j:=fun j hj=>by simp[G',zcn hj]
  have hlocid:G'.loc id=w.heap.size::(List.range ((xs.length+m)*k)).flatMap (Sn Ss):=by simp[G']
  have hlocid':G'.loc id=w.heap.size::((List.range (xs.length*k)).flatMap Ss++Sl.flatten):=by rw[hlocid,hSn]
  have hmem:∀b,b∈(List.range (xs.length*k)).flatMap Ss++Sl.flatten->b<w.heap.size:=fun b hb=>by
   rcases List.mem_append.1 hb with h|h
   ·exact hidlt b (hSin b h).1
   ·exact newLt b h
  refine⟨G',hr.retokG (G':=G') htok1 (by omega) hcell hlocne (fun b hb _=>⟨zdd (w:=w.drew) hb,rfl⟩) (fun b hb=>?_) (fun b hb=>?_) rfl rfl rfl (by simp) (fun b hb=>?_), ?_⟩
  ·rw[hlocid'] at hb;have hsz1:(w.drew.alloc (.cells cs' e)).heap.size=w.heap.size+1:=by simp
   show b<(w.drew.alloc (.cells cs' e)).heap.size
   rw[hsz1];rcases List.mem_cons.1 hb with rfl|hb
   ·exact Nat.lt_succ_self _
   ·exact Nat.lt_succ_of_lt (hmem b hb)
  ·rw[hlocid'] at hb;rcases List.mem_cons.1 hb with rfl|hb
   ·exact .inr (.inl (Nat.le_refl _))
   ·rcases List.mem_append.1 hb with h|h
    ·exact .inl (hSin b h).1
    ·exact .inr (.inr ⟨newOwn b h,newApart1 b h⟩)
  ·have hb':w.heap.size+1<=b:=by simpa using hb
   exact hr.top b (by omega)
  refine .gt ⟨_,_,by rw[hlen']⟩ (fun n' k' hm'=>?_);rw[hT'] at hm';cases hm'
  have hnodup:(G'.loc id).Nodup:=by
   rw[hlocid'];refine List.nodup_cons.2 ⟨fun h=>absurd (hmem _ h) (Nat.lt_irrefl _),List.nodup_append.2 ⟨hndS,newNodup,fun b hb b' hb' e=>?_⟩⟩;subst e;exact newNe b hb' (hSin b hb).1
  refine⟨by rw[hlen'];exact Nat.le_refl _,fun _=>⟨hkx',.inr ⟨w.heap.size,nc,cs',e,Sn Ss,hlocid,rfl,zdF (w:=w.drew),by rw[hcs];exact Nat.le_refl _,hnc',hnodup,fun b hb=>?_, ?_,fun h=>by omega⟩⟩⟩
  ·rw[hlocid'] at hb;rcases List.mem_cons.1 hb with rfl|hb
   ·exact hr.top _ (Nat.le_refl _)
   ·rcases List.mem_append.1 hb with h|h
    ·exact(hSin b h).2
    ·exact newF b h
  ·have:=trees Ss olds (Builtin.zeroCells z.cells (nc-(xs.length+m))).toList (w.drew.alloc (.cells cs' e)) hol (fun b hb=>zdd (w:=w.drew) (hmem b hb)) hold;have ec:cs'=(olds++news++(Builtin.zeroCells z.cells (nc-(xs.length+m))).toList).toArray:=by
    apply Array.ext';simp[cs']
   intro i hi j hj;rw[ec];exact this i hi j hj
 rcases htip with ⟨h1,h2,h3⟩|⟨b,cap,cs,et,Ss,h1,h2,h3,h4,h5,h6,h7,h8,_⟩
 ·
  have hx0:xs=[]:=List.eq_nil_of_length_eq_zero h2;subst hx0;subst h3;have hm':m<=9223372036854775807:=by simpa using hm
  have hb':m*yb<=140737488355328:=by simpa using hb
  have hrun:=run_append_nil (P:=c.P) w t opt e i z ht.und hi1 z2 a0 m cap2 news (by rw[hi2,hnl]) hnews hmpos (by omega) (by rw[hi3];omega);obtain⟨G',hR,hA⟩:=fresh (fun _=>[]) [] (grownCap w m 0 e) (by simp) (by
   have:=grownCap_ge w m 0 e;simpa using this) (by simp) (fun b hb=>by simp at hb) (fun i hi=>by simp at hi)
  simp only[List.nil_append,xai,Nat.zero_add,Array.empty_append] at hR hA hrun ⊢;exact⟨_,_,G',hrun,hR,hA⟩
 ·subst h2;have hmul:xs.length*k<=cs.size:=Nat.le_trans (Nat.mul_le_mul_right _ h5) h4;have hold:∀i (hi:i<xs.length) j (hj:j<xs[i].length),TreeD true w xs[i][j] ((cs.toList.take (xs.length*k)).getD (i*k+j) undef) (Ss (i*k+j)):=fun i hi j hj=>by
   have h9:xs[i].length=k:=hkx _ (List.getElem_mem hi);have hlt':i*k+j<xs.length*k:=zen hi (by omega);have e1:(cs.toList.take (xs.length*k)).getD (i*k+j) undef=cs.getD (i*k+j) undef:=by
    have hs:i*k+j<cs.size:=by omega
    simp[List.getD,List.getElem?_take,hlt',Array.getD,hs]
   rw[e1];exact h8 i hi j hj
  have hbl:b∈G.loc id:=by rw[h1];simp
  have hbs:b<w.heap.size:=hidlt b hbl;have h1n:(b::(List.range (xs.length*k)).flatMap Ss).Nodup:=by rw[<-h1];exact h6
  have hin:∀x,x∈(List.range (xs.length*k)).flatMap Ss->x∈G.loc id/\G.F x=0:=fun x hx=>by
   have:x∈G.loc id:=by rw[h1];exact List.mem_cons_of_mem _ hx
   exact⟨this,h7 x this⟩
  by_cases hroom:xs.length+m<=cap
  ·
   have hfit:xs.length*i.size+news.length<=cs.size:=by
    rw[hi2,hnl,<-hmul1];exact Nat.le_trans (Nat.mul_le_mul_right _ hroom) h4
   have hrun:=ze0 (P:=c.P) t opt e i ht.und hi1 b xs.length cap cs et h3 a0 m cap2 news (by rw[hi2,hnl]) hnews hone hroom hfit;rw[hi2] at hrun hfit;let rw':Array Value:=(cs.toList.take (xs.length*k)++news++cs.toList.drop (xs.length*k+news.length)).toArray
   have hrs:rw'.size=cs.size:=by
    simp only[rw',List.size_toArray,xaa,List.length_take,List.length_drop,Array.length_toList];omega
   let G':Gh:={ F:=G.F,loc:=fun j=>bif Nat.beq j id then b::(List.range ((xs.length+m)*k)).flatMap (Sn Ss) else G.loc j }
   have hlocne:∀j,j≠id->G'.loc j=G.loc j:=fun j hj=>by simp[G',zcn hj]
   have hlocid:G'.loc id=b::(List.range ((xs.length+m)*k)).flatMap (Sn Ss):=by simp[G']
   have hlocid':G'.loc id=b::((List.range (xs.length*k)).flatMap Ss++Sl.flatten):=by rw[hlocid,hSn]
   have hFb:G.F b=0:=h7 b hbl;have hcell:∀b' o,o<G.F b'->o<G'.F b'/\(w.setRow b rw').cell? ⟨b',o,none⟩=w.cell? ⟨b',o,none⟩:=fun b' o ho=>by
    have hbb:b'≠b:=fun e=>by subst e;omega
    exact⟨ho,cell_setRow_other w b rw' _ hbb⟩
   have hmem:∀x,x∈(List.range (xs.length*k)).flatMap Ss++Sl.flatten->x<w.heap.size/\x≠b:=fun x hx=>by
    rcases List.mem_append.1 hx with h|h
    ·exact⟨hidlt x (hin x h).1,fun e=>by subst e;exact(List.nodup_cons.1 h1n).1 h⟩
    ·exact⟨newLt x h,fun e=>by subst e;exact newNe x h hbl⟩
   refine⟨_,_,G',hrun,hr.retokG (G':=G') htok1 (by omega) hcell hlocne (fun b' hb' hn=>?_) (fun x hx=>?_) (fun x hx=>?_) rfl rfl rfl (by simp) (fun b' hb'=>?_), ?_⟩
   ·have hne:b'≠b:=fun e=>hn (by rw[e];exact hbl);exact⟨setRow_other w b b' rw' hne,rfl⟩
   ·rw[hlocid'] at hx;have:(w.setRow b rw').heap.size=w.heap.size:=by simp
    rw[this];rcases List.mem_cons.1 hx with rfl|hx
    ·exact hbs
    ·exact(hmem x hx).1
   ·rw[hlocid'] at hx;rcases List.mem_cons.1 hx with rfl|hx
    ·exact .inl hbl
    ·rcases List.mem_append.1 hx with h|h
     ·exact .inl (hin x h).1
     ·exact .inr (.inr ⟨newOwn x h,newApart1 x h⟩)
   ·have hb2':w.heap.size<=b':=by simpa using hb'
    exact hr.top b' hb2'
   ·refine .gt ⟨_,_,by rw[hlen']⟩ (fun n' k' hm'=>?_);rw[hT'] at hm';cases hm'
    have hnodup:(G'.loc id).Nodup:=by
     rw[hlocid'];refine List.nodup_cons.2 ⟨fun h=>absurd rfl (hmem _ h).2,List.nodup_append.2 ⟨(List.nodup_cons.1 h1n).2,newNodup,fun x hx x' hx' e=>?_⟩⟩;subst e;exact newNe x hx' (hin x hx).1
    refine⟨by rw[hlen'];exact Nat.le_refl _,fun _=>⟨hkx',.inr ⟨b,cap,rw',et,Sn Ss,hlocid,rfl,setRow_heap w b cs rw' et _ h3,by rw[hrs];exact h4,hroom,hnodup,fun x hx=>?_, ?_,fun h=>by omega⟩⟩⟩
    ·rw[hlocid'] at hx;rcases List.mem_cons.1 hx with rfl|hx
     ·exact hFb
     ·rcases List.mem_append.1 hx with h|h
      ·exact(hin x h).2
      ·exact newF x h
    ·exact trees Ss (cs.toList.take (xs.length*k)) _ (w.setRow b rw') (by simp;omega) (fun x hx=>setRow_other w b x rw' (hmem x hx).2) hold
  ·
   have hrun:=run_append_grow (P:=c.P) w t opt e i z ht.und hi1 z2 ⟨b,0,none⟩ xs.length cap (cs.toList.take (xs.length*k)) (by rw[hi2];simp;omega)
    (fun j u hj=>by
     rw[zb3];obtain⟨hj1,hj2⟩:=List.getElem?_eq_some_iff.1 hj;simp only[List.getElem_take] at hj2;have hjs:j<cs.size:=by simp at hj1;omega
     simp only[World.cell?,h3,Option.isSome_none,Bool.false_eq_true,if_false,Nat.zero_add];rw[Array.getElem?_eq_getElem hjs,<-hj2];simp) a0 m cap2 news (by rw[hi2,hnl]) hnews (by omega) (by omega) (by rw[hi3];exact growslice_fits (by omega) hb)
   obtain⟨G',hR,hA⟩:=fresh Ss (cs.toList.take (xs.length*k)) (grownCap w (xs.length+m) cap e) (by simp;omega) (by have:=grownCap_ge w (xs.length+m) cap e;omega) (List.nodup_cons.1 h1n).2 hin hold;exact⟨_,_,G',hrun,hR,hA⟩
theorem zo4 {t:TypeId}{G:Gh}{s:St}{a:Act}{w:World} (hr:R c G s a w){id b0 m k e yb:Nat}{xs:List (List D)}{cells:List AV}{row:List D}{js:List (Nat×Nat×Nat)}{v u:Value} (ht:SlT c.P t e k yb){z:Value} (hz:∃i,c.P.info? e=some i/\i.zero=some z/\z.cells.size=k)
  (hkb:∀l,c.kept b0≠some l) (htok:getH s.hp id=some (.tok xs.length k)) (hbox:getH s.hp b0=some (.box cells)) (hrow:RowT s.hp cells row js) (hck:cells.length=k) (hnd:ndB (id::js.map (·.1))=true)
  (hv:RelA G (tokf s.hp) w (.gt id xs) v) (hu:RelA G (tokf s.hp) w (.ms b0 m) u) (hm1:m=1)
  (hb:(xs.length+1)*yb<=140737488355328) (hm:xs.length+1<=9223372036854775807) (opt:TypeId):
  ∃v' w' G',(Builtin.append_ #[t,t] opt #[v,u]).run c.P w = .ok v' w'/\
   R c G' ⟨s.env,(id,some (.tok (xs.length+1) k))::((b0::js.map (·.1)).map (fun j=>(j,none))++s.hp)⟩ a w'/\
   RelA G' (tokf ((id,some (.tok (xs.length+1) k))::((b0::js.map (·.1)).map (fun j=>(j,none))++s.hp))) w' (.gt id (xs++[row])) v':=by
 subst hm1;obtain⟨⟨base,cap0,hv0⟩,hcl⟩:=hv.gt_inv;have hT:tokf s.hp id=some (xs.length,k):=zao.2 htok;obtain⟨hkx,htip⟩:=(hcl _ _ hT).2 rfl

 obtain⟨bb,us,eb,hl0,hat0,hlen0,hF0,hcell0⟩:=hr.heap b0 _ hbox;have hu':∃cap2,u = .slice (some ⟨bb,0,none⟩) 1 cap2/\1<=cap2:=by
  cases hu with
  | @ms _ _ b cap h hT hcap=>
   have:b=bb:=zcx h hl0;subst this;exact⟨cap,rfl,hcap⟩
 obtain⟨cap2,rfl,hcap2⟩:=hu';let news:List Value:=us.toList.take k
 have hks:k<=us.size:=by omega
 have hnl:news.length=k:=by simp[news];omega
 have hnews:∀j u,news[j]?=some u->w.cell? ((⟨bb,0,none⟩:Addr).add j)=some u:=fun j u hj=>by
  obtain⟨hj1,hj2⟩:=List.getElem?_eq_some_iff.1 hj;simp only[news,List.getElem_take] at hj2;have hjs:j<us.size:=by omega
  rw[zb3];simp only[World.cell?,hat0,Option.isSome_none,Bool.false_eq_true,if_false,Nat.zero_add];rw[Array.getElem?_eq_getElem hjs,<-hj2];simp
 have hrel:∀i (hi:i<cells.length) (hv:i<news.length),RelA G (tokf s.hp) w cells[i] news[i]:=fun i hi hv=>by
  have:=hcell0 i hi (by omega);have e1:news[i]=us[i]'(by omega):=by simp[news]
  rw[e1];exact this
 obtain⟨Sl,hSl,htr,hfl,hone,hjn⟩:=hrow.trees (by rw[hnl,hck]) hrel;have hrl:row.length=k:=by rw[hrow.len,hck]
 have hnd':=zob hnd;have hnd2:=List.nodup_cons.1 hnd';have htoks:=hrow.toks;have tokJ:∀j,j∈js.map (·.1)->∃n q,getH s.hp j=some (.tok n q):=fun j hj=>by
  obtain⟨q,hq,rfl⟩:=List.mem_map.1 hj;exact⟨_,_,htoks q hq⟩
 have hflm:js.flatMap (fun q=>G.loc q.1)=(js.map (·.1)).flatMap G.loc:=by rw[List.flatMap_map]
 rw[hflm] at hfl;have newIn:∀b,b∈Sl.flatten->∃j,j∈js.map (·.1)/\b∈G.loc j:=fun b hb=>by rw[hfl] at hb;exact List.mem_flatMap.1 hb
 have hdr:=hr.drop (b0::js.map (·.1)) (fun i l hk hm=>by
  rcases List.mem_cons.1 hm with rfl|hm
  ·exact hkb l hk
  ·obtain⟨n,q,h⟩:=tokJ i hm;have:=(hr.kept i l hk).2.2;rw[zao.2 h] at this;cases this)
 have hidb:id∉b0::js.map (·.1):=fun hm=>by
  rcases List.mem_cons.1 hm with rfl|hm
  ·rw[htok] at hbox;cases hbox
  ·exact hnd2.1 hm
 have hg1:∀i,getH ((b0::js.map (·.1)).map (fun j=>(j,(none:Option Res)))++s.hp) i=if i∈b0::js.map (·.1) then none else getH s.hp i:=fun i=>znZ _ _ _
 exact zjf (s:=s) hdr (m:=1) (ys:=[row]) (Sl:=Sl) (news:=news) ht hz (by rw[hg1,if_neg hidb];exact htok) hkx htip (fun y hy=>by simp only[List.mem_singleton] at hy;rw[hy];exact hrl) rfl (by omega)
  (by omega) hnews hone (by rw[hSl,hck];omega)
  (fun i hi j hj hvn=>by
   have:i=0:=by simpa using hi
   subst this;simp only[Nat.zero_mul,Nat.zero_add] at hvn ⊢;have hj':j<row.length:=hj;have hjs:j<Sl.length:=by omega
   have e4:Sl.getD j []=Sl[j]:=by simp[List.getD,hjs]
   rw[e4];exact htr j hj' hvn hjs)
  (by
   rw[hfl];refine zmk hnd2.2 (fun j hj=>?_) (fun i j hi hj hne=>?_)
   ·obtain⟨q,hq,rfl⟩:=List.mem_map.1 hj;exact(hjn q hq).1
   ·obtain⟨n1,q1,h1⟩:=tokJ i hi;obtain⟨n2,q2,h2⟩:=tokJ j hj;exact hr.disj i j (by rw[h1];rfl) (by rw[h2];rfl) hne)
  (fun b hb=>by
   obtain⟨j,hj,hbj⟩:=newIn b hb;obtain⟨q,hq,rfl⟩:=List.mem_map.1 hj;exact(hjn q hq).2 b hbj)
  (fun b hb=>by
   obtain⟨j,hj,hbj⟩:=newIn b hb;obtain⟨n1,q1,h1⟩:=tokJ j hj;exact(hr.heap j _ h1).bound b hbj)
  (fun b hb=>by
   obtain⟨j,hj,hbj⟩:=newIn b hb;obtain⟨n1,q1,h1⟩:=tokJ j hj;exact hr.new j (by rw[h1];rfl) b hbj)
  (fun b hb i _ hs=>by
   rw[hg1] at hs;split at hs
   ·cases hs
   ·rename_i hni;intro hbi;obtain⟨j,hj,hbj⟩:=newIn b hb;obtain⟨n1,q1,h1⟩:=tokJ j hj;exact hr.disj j i (by rw[h1];rfl) hs (fun e=>by subst e;exact hni (List.mem_cons_of_mem _ hj)) b hbj hbi)
  (fun b hb hbi=>by
   obtain⟨j,hj,hbj⟩:=newIn b hb;obtain⟨n1,q1,h1⟩:=tokJ j hj;exact hr.disj j id (by rw[h1];rfl) (by rw[htok];rfl) (fun e=>by subst e;exact hnd2.1 hj) b hbj hbi) hb hm opt
theorem zoA {t:TypeId}{G:Gh}{s:St}{a:Act}{w:World} (hr:R c G s a w){id k e yb:Nat}{xs ys:List (List D)}{v u:Value} (ht:SlT c.P t e k yb){z:Value} (hz:∃i,c.P.info? e=some i/\i.zero=some z/\z.cells.size=k)
  (htok:getH s.hp id=some (.tok xs.length k)) (hv:RelA G (tokf s.hp) w (.gt id xs) v) (hu:RelD G.F w (.sl ys) u) (hky:∀y,y∈ys->y.length=k) (hf:FlatR ys)
  (hb:(xs.length+ys.length)*yb<=140737488355328) (hm:xs.length+ys.length<=9223372036854775807) (opt:TypeId):
  ∃v' w' G',(Builtin.append_ #[t,t] opt #[v,u]).run c.P w = .ok v' w'/\
   R c G' ⟨s.env,(id,some (.tok (xs.length+ys.length) k))::s.hp⟩ a w'/\
   RelA G' (tokf ((id,some (.tok (xs.length+ys.length) k))::s.hp)) w' (.gt id (xs++ys)) v':=by
 obtain⟨⟨base,cap0,hv0⟩,hcl⟩:=hv.gt_inv;have hT:tokf s.hp id=some (xs.length,k):=zao.2 htok;obtain⟨hkx,htip⟩:=(hcl _ _ hT).2 rfl;by_cases hm0:ys=[]
 ·subst hm0;obtain⟨i,hi1,hi2,hi3⟩:=ht.inf;have hle:∃base cap,v = .slice base xs.length cap/\xs.length<=cap:=by
   rcases htip with ⟨h1,h2,h3⟩|⟨b,cap,cs,et,Ss,h1,h2,h3,h4,h5,_⟩
   ·exact⟨none,0,by rw[h2];exact h3,by omega⟩
   ·exact⟨_,cap,h2,h5⟩
  obtain⟨base,cap,rfl,hle⟩:=hle;obtain⟨oa,oc,rfl⟩:∃oa oc,u = .slice oa 0 oc:=by obtain⟨oa,oc,h⟩:=hu.sl_len;exact⟨oa,oc,h⟩
  refine⟨_,w,G,zdZ t opt e i ht.und hi1 base xs.length cap hle oa oc,hr.same htok, ?_⟩;show RelA G (tokf ((id,some (.tok xs.length k))::s.hp)) w (.gt id (xs++[])) _
  rw[zge htok,List.append_nil];exact hv
 obtain⟨oa0,cap0',_,h0,_⟩|⟨b2,off2,cap2,news,rfl,hcap2,hnl,hnc,hn1,hnr⟩:=hu.sl_cells hky
 ·exact absurd h0 hm0
 have hfl:∀n:Nat,(List.replicate n ([]:List Nat)).flatten=[]:=zaF;exact zjf (s:=s) hr (m:=ys.length) (ys:=ys) (Sl:=List.replicate (ys.length*k) []) (news:=news) ht hz htok hkx htip hky rfl (List.length_pos_iff.2 hm0)
  hnl (fun j u hj=>by rw[zb3];exact(hnc j u hj).2) hn1 (by simp)
  (fun i hi j hj hvn=>by
   have e4:(List.replicate (ys.length*k) ([]:List Nat)).getD (i*k+j) []=[]:=by
    simp only[List.getD,List.getElem?_replicate];split<;>rfl
   rw[e4];have hs:=zgK (hf _ (List.getElem_mem hi) _ (List.getElem_mem hj));exact TreeD.ofFlat hs.1 (.inr hs.2) (hnr i hi j hj hvn))
  (by rw[hfl];exact .nil) (fun b hb=>by rw[hfl] at hb;cases hb) (fun b hb=>by rw[hfl] at hb;cases hb) (fun b hb=>by rw[hfl] at hb;cases hb) (fun b hb=>by rw[hfl] at hb;cases hb) (fun b hb=>by rw[hfl] at hb;cases hb) hb hm opt
theorem R.mkTokT {G:Gh}{s:St}{a:Act}{w:World} (hr:R c G s a w){id:Nat} (k:Nat) (h0:getH s.hp id=none) (hocc:zcW id s):
  ∃G',R c G' { s with hp:=(id,some (.tok 0 k))::s.hp } a w/\RelA G' (tokf ((id,some (.tok 0 k))::s.hp)) w (.gt id []) (.slice none 0 0):=by
 have h1:=hr.rename h0 hocc [];have hl:(fun i=>bif Nat.beq i id then ([]:List Nat) else G.loc i) id=[]:=by simp
 refine⟨_,h1.name h0 hocc (fun b hb=>by simp at hb) (fun i _ b _ hb=>by simp at hb) (fun b hb=>by simp at hb), ?_⟩;refine .gt ⟨none,0,rfl⟩ (fun n k' hT=>?_);have:=zao.1 hT;rw[zac,if_pos rfl] at this;cases this
 exact⟨Nat.le_refl _,fun _=>⟨by simp,.inl ⟨hl,rfl,rfl⟩⟩⟩
end
section
variable {c:Ctx}{all:Array Oper}{chk:List Rec->Prop}{os:List Oper}{recs:List Rec}{env:Env}{hp:Hp}{Q:St->Prop}
variable {d ty:Nat}{pos:String}{af:Array Edge}{g:Option (Nat×Bool)}{pg:List (Nat×AV)}
variable {t yt:TypeId}{x y:Operand}
theorem xaC {ids:List Nat}{id b0 m k e yb:Nat}{xs:List (List D)}{cells:List AV}{row:List D}{js:List (Nat×Nat×Nat)} (hkp:KeptIn c.kept ids) (hkb:zaP b0 ids=false) (ht:SlT c.P t e k yb) (hz:ZeroT c.P e k) (hg:GH all env g pg) (hd:Nat.blt d c.n=true)
  (hx:opd env x=some (.gt id xs)) (hy:opd env y=some (.ms b0 m)) (hm1:m=1) (htok:getH hp id=some (.tok xs.length k)) (hbox:getH hp b0=some (.box cells)) (hrow:RowT hp cells row js) (hck:cells.length=k) (hnd:ndB (id::js.map (·.1))=true)
  (hb:(xs.length+1)*yb<=140737488355328) (hm:xs.length+1<=9223372036854775807)
  (hn:Walk c all chk os (zam (pg++(opF x (.gt id xs)++opF y (.ms b0 m))) ((id,.tok xs.length k)::(b0,.box cells)::js.map (fun q=>(q.1,.tok q.2.1 q.2.2))) [] ⟨some (d,.gt id (xs++[row])),(id,some (.tok (xs.length+1) k))::(b0::js.map (·.1)).map (fun j=>(j,none))⟩::recs)
   ⟨(d,.gt id (xs++[row]))::env,(id,some (.tok (xs.length+1) k))::((b0::js.map (·.1)).map (fun j=>(j,none))++hp)⟩ Q):
  Walk c all chk (⟨some d,.call ⟨.builtin .append,#[x,y],#[t,t]⟩,ty,pos,af,g⟩::os) recs ⟨env,hp⟩ Q:=by
 refine⟨pg++(opF x (.gt id xs)++opF y (.ms b0 m)),(id,.tok xs.length k)::(b0,.box cells)::js.map (fun q=>(q.1,.tok q.2.1 q.2.2)),[],_, ?_,zau hg.facts (zau (zaU hx) (zaU hy)),fun p hm=>?_,by simp,hn⟩
 ·intro s a w hrel hp' hh _ K Q' hK;obtain⟨G,hr⟩:=hrel;have e1:=hr.opd (zaV hx (fun p hm=>hp' p (by simp[hm])));have e2:=hr.opd (zaV hy (fun p hm=>hp' p (by simp[hm])));obtain⟨i,z,z1,z2,z3⟩:=hz.out;obtain⟨v',w',G',hrun,hR,hA⟩:=zo4 hr ht ⟨i,z1,z2,z3⟩ (fun l hl=>by have:=zaL.2 (hkp.mem _ l hl);rw[this] at hkb;cases hkb) (hh (id,_) (by simp)) (hh (b0,_) (by simp))
   (hrow.move (fun q hq=>hh (q.1,.tok q.2.1 q.2.2) (by simp only[List.mem_cons,List.mem_map];exact .inr (.inr ⟨q,hq,rfl⟩)))) hck hnd e1 e2 hm1 hb hm ty
  unfold wpO;rw[if_pos (hg.gf.wanted hr (fun p hm=>hp' p (by simp[hm])))];unfold Oper.wp;have:(execOp a.eval ⟨some d,.call ⟨.builtin .append,#[x,y],#[t,t]⟩,ty,pos,af,g⟩).run c.P w = .ok (.value v') w':=by
   simp only[execOp,resolve,invoke,builtin,Sem.run_bind,Sem.run_pure,Result.andThen_ok,List.map_toArray,xae,List.map_nil,hrun]
  rw[this,Oper.upon_value];exact hK _ _ ⟨G',hR.put hA hd⟩
 ·rcases List.mem_cons.1 hm with rfl|hm
  ·exact htok
  rcases List.mem_cons.1 hm with rfl|hm
  ·exact hbox
  ·obtain⟨q,hq,rfl⟩:=List.mem_map.1 hm;exact hrow.toks q hq
end
section
variable {c:Ctx}{env:Env}{hp:Hp}{K:Kt}{code:Code}{ids:List Nat}
theorem zqW {G:Gh}{w:World}{id n k:Nat}{xs:List (List D)}{v:Value} (hn:n=xs.length) (hk:∀x,x∈xs->x.length=k) (h:TipT G w id n k v xs):
  TreeD true w (.sl xs) v (G.loc id)/\(G.loc id).Nodup/\∀b,b∈G.loc id->G.F b=0:=by
 rcases h with ⟨e1,e2,e3⟩|⟨b,cap,us,e,Ss,e1,e2,e3,e4,e5,e6,e7,e8⟩
 ·have hz:xs=[]:=List.eq_nil_of_length_eq_zero (by omega);subst hz;rw[e1,e3];exact⟨.nil,by simp,by simp⟩
 ·refine⟨?_,e6,e7⟩;subst hn;rw[e1,e2];exact TreeD.sl (m:=true) xs k b cap us e Ss hk e5 e3 e4 e8.1 (fun _ hz=>e8.2 (by rw[hz];rfl))
theorem CWp.tokBT (b off id k:Nat){cs cs':List AV} (hb:getH hp b=some (.box cs)) (h:cs[off]?=some .nils) (hput:putC cs off [.gt id []]=some cs') (hf:zaw env hp [id]=true)
  (hn:CWp c code ⟨env,(b,some (.box cs'))::(id,some (.tok 0 k))::hp⟩ K):CWp c code ⟨env,hp⟩ K:=by
 intro a w hrel;obtain⟨G,hr⟩:=hrel;obtain⟨h0,hocc⟩:=zbb hf id (by simp);obtain⟨G',h1,h2⟩:=hr.mkTokT k h0 hocc;have hne:b≠id:=fun e=>by subst e;have h0':getH hp b=none:=h0;rw[h0'] at hb;cases hb
 have hb':getH ((id,some (Res.tok 0 k))::hp) b=some (.box cs):=by rw[zac,if_neg hne];exact hb
 obtain⟨bl,vs,e,e1,e2,e3,e4,e5⟩:=h1.heap b _ hb';obtain⟨hlt,hv⟩:=List.getElem?_eq_some_iff.1 h;have hlv:off<vs.size:=by omega
 have hval:vs[off] = .slice none 0 0:=by
  have:=e5 off hlt hlv;rw[hv] at this;generalize vs[off]=v at *;cases this;rfl
 have hall:PreR G' (tokf ((id,some (.tok 0 k))::hp)) w cs' vs:=by
  obtain⟨p1,p2,p3⟩:=zbN hput;refine⟨by omega,fun i hi hvi=>?_⟩;have:=p3 i;rw[List.getElem?_eq_getElem hi] at this;by_cases hio:i=off
  ·subst hio;rw[if_pos (by simp)] at this;simp only[Nat.sub_self,List.getElem?_cons_zero,Option.some.injEq] at this;rw[this,hval];exact h2
  ·rw[if_neg (by simp only[xab,xai];omega)] at this;have hic:i<cs.length:=by omega
   rw[List.getElem?_eq_getElem hic] at this;rw[Option.some.inj this];exact e5 i hic hvi
 have:=h1.setBox (vs':=vs) hb' e1 e2 e4 hall;have hw:w.setRow bl vs=w:=setRow_self w bl vs e _ e2;rw[hw] at this;exact hn a w ⟨G',this⟩
theorem R.gtGl {G:Gh}{a:Act}{w:World} (hr:R c G ⟨env,hp⟩ a w){id id2 n k:Nat}{xs:List (List D)}{v:Value} (hv:RelA G (tokf hp) w (.gt id xs) v) (hb:getH hp id=some (.tok n k)) (hn:n=xs.length) (hf:zaw env hp [id2]=true):
  ∃G',R c G' ⟨env,(id2,some (.tok n k))::(id,none)::hp⟩ a w/\RelA G' (tokf ((id2,some (.tok n k))::(id,none)::hp)) w (.gl id2 xs) v:=by
 obtain⟨h0,hocc⟩:=zbb hf id2 (by simp);have h0':getH hp id2=none:=h0;have hne:id2≠id:=fun e=>by subst e;rw[h0'] at hb;cases hb
 obtain⟨⟨ad,cap0,hv0⟩,hcl⟩:=hv.gt_inv;obtain⟨hkx,htip⟩:=(hcl _ _ (zao.2 hb)).2 hn;have s1:(getH hp id).isSome:=by rw[hb];rfl
 have hbd:=(hr.heap id _ hb).bound;let hd:List Nat:=(G.loc id).take 1
 let G':Gh:={ F:=fun x=>bif zaP x hd then n*k else bif zaP x (G.loc id) then szB w x else G.F x,loc:=fun i=>bif Nat.beq i id2 then hd else G.loc i }
 have hdsub:∀x,x∈hd->x∈G.loc id:=fun x hx=>List.mem_of_mem_take hx;have l1:G'.loc id2=hd:=by simp[G']
 have l3:∀i,i≠id2->G'.loc i=G.loc i:=fun i h2=>by simp[G',zcn h2]
 have nel:∀ {x:Nat}{l:List Nat},x∉l->zaP x l=false:=fun {x l} hx=>by
  cases h:zaP x l with
  |true=>exact absurd (zaL.1 h) hx
  |false=>rfl
 have hout:∀x,x∉G.loc id->G'.F x=G.F x:=fun x hx=>by simp[G',nel hx,nel (fun h=>hx (hdsub x h))]
 have hF0:∀x,x∈G.loc id->G.F x=0:=(zqW hn hkx htip).2.2;have g1:getH ((id2,some (Res.tok n k))::(id,none)::hp) id2=some (.tok n k):=by rw[zac,if_pos rfl]
 have g2:getH ((id2,some (Res.tok n k))::(id,none)::hp) id=none:=by rw[zac,if_neg (Ne.symm hne),zac,if_pos rfl]
 have t2:tokf ((id2,some (Res.tok n k))::(id,none)::hp) id=none:=by unfold tokf;rw[g2]
 have t1:tokf ((id2,some (Res.tok n k))::(id,none)::hp) id2=some (n,k):=zao.2 g1;have hturn:Turn c G ⟨env,hp⟩ w G' ((id2,some (.tok n k))::(id,none)::hp) [id,id2]:=by
  refine⟨fun i hi=>?_,fun i hi=>?_,fun x hx=>?_,fun x o ho=>?_,fun x hx=>?_,fun i hi=>?_,fun i hi hs x hx=>?_,fun i hi j hj hij h1 h2 x hx=>?_,fun i hi l hl=>?_⟩
  ·simp only[List.mem_cons,List.not_mem_nil,or_false,not_or] at hi;rw[zac,if_neg hi.2,zac,if_neg hi.1]
  ·simp only[List.mem_cons,List.not_mem_nil,or_false,not_or] at hi;exact l3 i hi.2
  ·exact hout x (hx id (by simp) s1)
  ·by_cases hx:x∈G.loc id
   ·rw[hF0 x hx] at ho;omega
   ·rw[hout x hx];exact ho
  ·by_cases hx':x∈G.loc id
   ·have:=hbd x hx';omega
   ·rw[hout x hx'];exact hr.top x hx
  ·simp only[List.mem_cons,List.not_mem_nil,or_false] at hi;rcases hi with rfl|rfl
   ·exact .inr ⟨.inl (l3 i (Ne.symm hne)),fun p hp=>by rw[t2] at hp;cases hp⟩
   ·exact .inl hocc
  ·simp only[List.mem_cons,List.not_mem_nil,or_false] at hi;rcases hi with rfl|rfl
   ·rw[g2] at hs;cases hs
   ·rw[l1] at hx;exact⟨id,by simp,s1,hdsub x hx⟩
  ·simp only[List.mem_cons,List.not_mem_nil,or_false] at hi hj;rcases hi with rfl|rfl
   ·rw[g2] at h1;cases h1
   ·rcases hj with rfl|rfl
    ·rw[g2] at h2;cases h2
    ·exact absurd rfl hij
  ·simp only[List.mem_cons,List.not_mem_nil,or_false] at hi;have hk0:=hr.kept i l hl;rcases hi with rfl|rfl
   ·have:=hk0.2.2;rw[show(⟨env,hp⟩:St).hp=hp from rfl,zao.2 hb] at this;cases this
   ·have:=hk0.2.1;rw[show(⟨env,hp⟩:St).hp=hp from rfl,h0'] at this;cases this
 refine⟨G',hturn.fin hr (fun i hi r hri=>?_), ?_⟩
 ·simp only[List.mem_cons,List.not_mem_nil,or_false] at hi;rcases hi with rfl|rfl
  ·rw[g2] at hri;cases hri
  ·rw[g1] at hri;cases hri
   intro b hb;rw[l1] at hb;exact hbd b (hdsub b hb)
 ·rcases htip with ⟨e1,e2,e3⟩|⟨b,cap,us,e,Ss,e1,e2,e3,e4,e5,e6,e7,e8,e9⟩
  ·have hz:xs=[]:=List.eq_nil_of_length_eq_zero (by omega);subst hz;rw[e3];refine .gl .nil (fun n' k' hT=>?_);rw[t1] at hT;cases hT;exact⟨by simp,fun _=>⟨hkx,.inl ⟨by rw[l1];simp[hd,e1],e2,rfl⟩⟩⟩
  ·have hhd:hd=[b]:=by simp[hd,e1]
   have hFb:G'.F b=n*k:=by simp[G',hhd,zaP]
   have hbn:∀x,x∈(List.range (n*k)).flatMap Ss->G'.F x=szB w x:=fun x hx=>by
    have hxb:x≠b:=fun e=>by subst e;rw[e1] at e6;exact(List.nodup_cons.1 e6).1 hx
    have h1:zaP x hd=false:=nel (by rw[hhd];simp[hxb]);have h2:zaP x (G.loc id)=true:=zaL.2 (by rw[e1];exact List.mem_cons_of_mem _ hx);simp[G',h1,h2]
   rw[e2];have hle:n*k<=us.size:=Nat.le_trans (Nat.mul_le_mul_right _ e5) e4;have hrd:RelD G'.F w (.sl xs) (.slice (some ⟨b,0,none⟩) n cap):=by
    subst hn;refine .sl xs k b 0 cap (fun q=>us.getD q undef) hkx e5 (fun q hq=>⟨by rw[hFb];omega, ?_⟩) (fun i hi j hj=>(e8 i hi j hj).toD (fun x hx=>?_))
    ·have:q<us.size:=by omega
     simp[World.cell?,e3,this]
    ·rw[hbn x (List.mem_flatMap.2 ⟨_,List.mem_range.2 (zen hi (by rw[<-hkx _ (List.getElem_mem hi)];exact hj)),hx⟩)];exact Nat.le_refl _
   refine .gl hrd (fun n' k' hT=>?_);rw[t1] at hT;cases hT;exact⟨by omega,fun _=>⟨hkx,.inr ⟨b,cap,us,e,by rw[l1,hhd],rfl,hFb,e3,e4,e5⟩⟩⟩
theorem CWp.gtGl (t id id2 k:Nat){n:Nat}{xs:List (List D)} (ht:getE env t=some (.gt id xs)) (hb:getH hp id=some (.tok n k)) (hn:n=xs.length) (hf:zaw env hp [id2]=true)
  (hx:CWp c code ⟨(t,.gl id2 xs)::env,(id2,some (.tok n k))::(id,none)::hp⟩ K):CWp c code ⟨env,hp⟩ K:=by
 rintro a w ⟨G,hr⟩
 obtain⟨G',h1,h2⟩:=hr.gtGl (hr.slots t _ ht) hb hn hf;exact hx a w ⟨G',h1.slot h2⟩
theorem CWp.splitT (id off id' k:Nat){xs:List (List D)}{cs cs':List AV} (hb:getH hp id=some (.tree cs)) (hc:cs[off]?=some (.own true (.sl xs))) (hk:∀x,x∈xs->x.length=k)
  (hf:zaw env hp [id']=true) (hput:putC cs off [.gt id' xs]=some cs')
  (hn:CWp c code ⟨env,(id',some (.tok xs.length k))::(id,some (.tree cs'))::hp⟩ K):CWp c code ⟨env,hp⟩ K:=by
 rintro a w ⟨G,hr⟩
 obtain⟨h0,hocc⟩:=zbb hf id' (by simp);obtain⟨b,vs,e,Ss,hT⟩:=hr.heap id _ hb;obtain⟨hoff,hcv⟩:=List.getElem?_eq_some_iff.1 hc;have hov:off<vs.size:=by have:=hT.len;omega
 have hcell:=hT.cell off hoff hov;rw[hcv] at hcell;have hne:id≠id':=fun e=>by subst e;have h0':getH hp id=none:=h0;rw[h0'] at hb;cases hb
 obtain⟨p1,p2,p3⟩:=zbN hput;have hTD:TreeD true w (.sl xs) vs[off] (Ss off):=hcell;generalize hv:vs[off]=v at hTD;let Ss':Nat->List Nat:=fun i=>if i=off then [] else Ss i
 let G':Gh:={ G with loc:=fun i=>bif Nat.beq i id' then Ss off else bif Nat.beq i id then b::(List.range cs'.length).flatMap Ss' else G.loc i }
 have l1:G'.loc id'=Ss off:=by simp[G']
 have l2:G'.loc id=b::(List.range cs'.length).flatMap Ss':=by simp[G',zcn hne]
 have l3:∀i,i≠id'->i≠id->G'.loc i=G.loc i:=fun i h1 h2=>by simp[G',zcn h1,zcn h2]
 have hnd:=hT.nodup;rw[hT.loc] at hnd;have hnd':=List.nodup_cons.1 hnd;have hsubS:∀x,x∈Ss off->x∈G.loc id:=fun x hx=>by
  rw[hT.loc];exact List.mem_cons_of_mem _ (List.mem_flatMap.2 ⟨off,List.mem_range.2 hoff,hx⟩)
 have hsubl:((List.range cs'.length).flatMap Ss').Sublist ((List.range cs.length).flatMap Ss):=by
  rw[p1];refine zdo hnd'.2 (fun i hi=>?_);simp only[Ss'];split
  ·exact List.nil_sublist _
  ·exact List.Sublist.refl _
 have hsub2:∀x,x∈G'.loc id->x∈G.loc id:=fun x hx=>by
  rw[l2] at hx;rw[hT.loc];rcases List.mem_cons.1 hx with h|h
  ·simp[h]
  ·exact List.mem_cons_of_mem _ (hsubl.subset h)
 have g1:getH ((id',some (Res.tok xs.length k))::(id,some (.tree cs'))::hp) id'=some (.tok xs.length k):=by rw[zac,if_pos rfl]
 have g2:getH ((id',some (Res.tok xs.length k))::(id,some (.tree cs'))::hp) id=some (.tree cs'):=by rw[zac,if_neg hne,zac,if_pos rfl]
 have hturn:Turn c G ⟨env,hp⟩ w G' ((id',some (.tok xs.length k))::(id,some (.tree cs'))::hp) [id,id']:=by
  refine⟨fun i hi=>?_,fun i hi=>?_,fun _ _=>rfl,fun _ _ h=>h,hr.top,fun i hi=>?_,fun i hi hs x hx=>?_,fun i hi j hj hij _ _ x hx=>?_,fun i hi l hl=>?_⟩
  ·simp only[List.mem_cons,List.not_mem_nil,or_false,not_or] at hi;rw[zac,if_neg hi.2,zac,if_neg hi.1]
  ·simp only[List.mem_cons,List.not_mem_nil,or_false,not_or] at hi;exact l3 i hi.2 hi.1
  ·simp only[List.mem_cons,List.not_mem_nil,or_false] at hi;rcases hi with rfl|rfl
   ·right
    have ht:tokf ((id',some (Res.tok xs.length k))::(i,some (.tree cs'))::hp) i=none:=by unfold tokf;rw[g2]
    refine⟨.inr ⟨ht,by rw[l2,hT.loc];rfl⟩,fun p hp=>by rw[ht] at hp;cases hp⟩
   ·exact .inl hocc
  ·simp only[List.mem_cons,List.not_mem_nil,or_false] at hi;have hs':(getH hp id).isSome:=by rw[hb];rfl
   rcases hi with rfl|rfl
   ·exact⟨i,by simp,hs',hsub2 x hx⟩
   ·rw[l1] at hx;exact⟨id,by simp,hs',hsubS x hx⟩
  ·simp only[List.mem_cons,List.not_mem_nil,or_false] at hi hj;have key:∀x,x∈Ss off->x∉G'.loc id:=by
    intro x hx hx2;rw[l2] at hx2;rcases List.mem_cons.1 hx2 with h|h
    ·exact hnd'.1 (List.mem_flatMap.2 ⟨off,List.mem_range.2 hoff,h ▸ hx⟩)
    ·obtain⟨j,hj,hxj⟩:=List.mem_flatMap.1 h;simp only[Ss'] at hxj;split at hxj
     ·simp at hxj
     ·rename_i hjo;exact zgm List.nodup_range hnd'.2 off j (List.mem_range.2 hoff) (by rw[p1] at hj;exact hj) (Ne.symm hjo) x hx hxj
   rcases hi with rfl|rfl<;>rcases hj with rfl|rfl
   ·exact absurd rfl hij
   ·rw[l1];exact fun h=>key x h hx
   ·rw[l1] at hx;exact key x hx
   ·exact absurd rfl hij
  ·simp only[List.mem_cons,List.not_mem_nil,or_false] at hi;have hk0:=hr.kept i l hl;rcases hi with rfl|rfl
   ·refine⟨?_,by rw[g2];rfl,by unfold tokf;rw[g2]⟩;rw[l2,<-hk0.1,hT.loc];rfl
   ·have h0':getH hp i=none:=h0;have:=hk0.2.1;rw[show(⟨env,hp⟩:St).hp=hp from rfl,h0'] at this;cases this
 have hgt:RelA G' (tokf ((id',some (.tok xs.length k))::(id,some (.tree cs'))::hp)) w (.gt id' xs) v:=by
  refine .gt (by
   have hTD2:=hTD;generalize Ss off=So at hTD2;cases hTD2 with
   |nil=>exact⟨_,_,rfl⟩
   |emp _ _ _ _ h=>cases h
   |em0 _ _ _ h=>cases h
   |sl _ _ _ _ _ _ _ _ _ _ _ _ _=>exact⟨_,_,rfl⟩) (fun n' k' hm'=>?_)
  have:=zao.1 hm';rw[g1] at this;cases this
  refine⟨Nat.le_refl _,fun _=>⟨hk, ?_⟩⟩;have hndS:=ziJ hnd'.2 off (List.mem_range.2 hoff);have hF:∀x,x∈Ss off->G.F x=0:=fun x hx=>(hT.mine x (hsubS x hx)).1;unfold TipT;rw[l1];generalize Ss off=So at hTD hndS hF;cases hTD with
  |nil=>exact .inl ⟨rfl,rfl,rfl⟩
  |emp _ _ _ _ h=>cases h
  |em0 _ _ _ h=>cases h
  |sl _ k1 b1 cap cs1 e1 Ss1 hk1 hcap hb1 hc1 hr1 hz1=>
   by_cases hx:xs=[]
   ·subst hx;have hc0:=hz1 rfl rfl;subst hc0;refine .inr ⟨b1,0,cs1,e1,Ss1,by simp,rfl,hb1,by simp,Nat.le_refl _,hndS,hF,fun i hi=>by simp at hi,fun _=>rfl⟩
   ·have hkk:k1=k:=by
     obtain⟨x,hx'⟩:=List.exists_mem_of_ne_nil _ hx;rw[<-hk1 x hx',hk x hx']
    subst hkk;exact .inr ⟨b1,cap,cs1,e1,Ss1,rfl,rfl,hb1,hc1,hcap,hndS,hF,hr1,fun h=>absurd (List.eq_nil_of_length_eq_zero h) hx⟩
 refine hn a w ⟨G',hturn.fin hr (fun i hi r hri=>?_)⟩;simp only[List.mem_cons,List.not_mem_nil,or_false] at hi;rcases hi with rfl|rfl
 ·rw[g2] at hri;cases hri
  refine⟨b,vs,e,Ss',l2,hT.at_,by rw[p1];exact hT.len, ?_,fun x hx=>hT.mine x (hsub2 x hx),fun j hj hjv=>?_⟩
  ·rw[l2];exact List.nodup_cons.2 ⟨fun h=>hnd'.1 (hsubl.subset h),hsubl.nodup hnd'.2⟩
  ·have h3:=p3 j;rw[List.getElem?_eq_getElem hj] at h3;by_cases hjo:j=off
   ·subst hjo;rw[if_pos (by simp)] at h3;simp only[Nat.sub_self,List.getElem?_cons_zero,Option.some.injEq] at h3;rw[h3,hv];exact⟨by simp[Ss'],hgt⟩
   ·rw[if_neg (by simp only[xab,xai];omega)] at h3;have hjc:j<cs.length:=by omega
    rw[List.getElem?_eq_getElem hjc] at h3;rw[Option.some.inj h3];have h4:=hT.cell j hjc hjv;have h5:Ss' j=Ss j:=by simp[Ss',hjo]
    rw[h5];exact h4.map (hturn.cell hr hb (List.getElem_mem hjc)) (fun _ _=>rfl)
 ·rw[g1] at hri;cases hri
  intro x hx;rw[l1] at hx;exact(hT.mine x (hsubS x hx)).2
theorem CWp.mergeT (id off id' k:Nat){n:Nat}{xs:List (List D)}{cs cs':List AV} (hb:getH hp id=some (.tree cs)) (hc:cs[off]?=some (.gt id' xs)) (hb':getH hp id'=some (.tok n k)) (hnl:n=xs.length)
  (hput:putC cs off [.own true (.sl xs)]=some cs')
  (hn:CWp c code ⟨env,(id',none)::(id,some (.tree cs'))::hp⟩ K):CWp c code ⟨env,hp⟩ K:=by
 rintro a w ⟨G,hr⟩
 have hne:id≠id':=fun e=>by subst e;rw[hb] at hb';cases hb'
 obtain⟨b,vs,e,Ss,hT⟩:=hr.heap id _ hb;obtain⟨hoff,hcv⟩:=List.getElem?_eq_some_iff.1 hc;have hov:off<vs.size:=by have:=hT.len;omega
 have hcell:=hT.cell off hoff hov;rw[hcv] at hcell;obtain⟨hS0,hgt⟩:=hcell;obtain⟨_,hcl⟩:=hgt.gt_inv;obtain⟨hkx,htip⟩:=(hcl _ _ (zao.2 hb')).2 hnl;obtain⟨hTr,hnd1,hF1⟩:=zqW hnl hkx htip;have hbd1:=(hr.heap id' _ hb').bound;obtain⟨p1,p2,p3⟩:=zbN hput;let Ss':Nat->List Nat:=fun i=>if i=off then G.loc id' else Ss i
 let G':Gh:={ G with loc:=fun i=>bif Nat.beq i id then b::(List.range cs'.length).flatMap Ss' else G.loc i }
 have l1:G'.loc id=b::(List.range cs'.length).flatMap Ss':=by simp[G']
 have l3:∀i,i≠id->G'.loc i=G.loc i:=fun i h2=>by simp[G',zcn h2]
 have hnd:=hT.nodup;rw[hT.loc] at hnd;have hnd':=List.nodup_cons.1 hnd;have s1:(getH hp id).isSome:=by rw[hb];rfl
 have s2:(getH hp id').isSome:=by rw[hb'];rfl
 have hapart:∀x,x∈G.loc id->x∉G.loc id':=hr.disj id id' s1 s2 hne;have hmem:∀x,x∈G'.loc id->x∈G.loc id\/x∈G.loc id':=fun x hx=>by
  rw[l1] at hx;rcases List.mem_cons.1 hx with h|h
  ·left;rw[hT.loc,h];simp
  ·obtain⟨j,hj,hxj⟩:=List.mem_flatMap.1 h;simp only[Ss'] at hxj;split at hxj
   ·exact .inr hxj
   ·left
    rw[hT.loc];rw[p1] at hj;exact List.mem_cons_of_mem _ (List.mem_flatMap.2 ⟨j,hj,hxj⟩)
 have g1:getH ((id',none)::(id,some (Res.tree cs'))::hp) id'=none:=by rw[zac,if_pos rfl]
 have g2:getH ((id',none)::(id,some (Res.tree cs'))::hp) id=some (.tree cs'):=by rw[zac,if_neg hne,zac,if_pos rfl]
 have t1:tokf ((id',none)::(id,some (Res.tree cs'))::hp) id'=none:=by unfold tokf;rw[g1]
 have t2:tokf ((id',none)::(id,some (Res.tree cs'))::hp) id=none:=by unfold tokf;rw[g2]
 have hturn:Turn c G ⟨env,hp⟩ w G' ((id',none)::(id,some (.tree cs'))::hp) [id,id']:=by
  refine⟨fun i hi=>?_,fun i hi=>?_,fun _ _=>rfl,fun _ _ h=>h,hr.top,fun i hi=>?_,fun i hi hs x hx=>?_,fun i hi j hj hij h1 h2 x hx=>?_,fun i hi l hl=>?_⟩
  ·simp only[List.mem_cons,List.not_mem_nil,or_false,not_or] at hi;rw[zac,if_neg hi.2,zac,if_neg hi.1]
  ·simp only[List.mem_cons,List.not_mem_nil,or_false,not_or] at hi;exact l3 i hi.1
  ·simp only[List.mem_cons,List.not_mem_nil,or_false] at hi;right
   rcases hi with rfl|rfl
   ·exact⟨.inr ⟨t2,by rw[l1,hT.loc];rfl⟩,fun p hp=>by rw[t2] at hp;cases hp⟩
   ·exact⟨.inl (l3 i (Ne.symm hne)),fun p hp=>by rw[t1] at hp;cases hp⟩
  ·simp only[List.mem_cons,List.not_mem_nil,or_false] at hi;rcases hi with rfl|rfl
   ·rcases hmem x hx with h|h
    ·exact⟨i,by simp,s1,h⟩
    ·exact⟨id',by simp,s2,h⟩
   ·rw[g1] at hs;cases hs
  ·simp only[List.mem_cons,List.not_mem_nil,or_false] at hi hj;rcases hi with rfl|rfl
   ·rcases hj with rfl|rfl
    ·exact absurd rfl hij
    ·rw[g1] at h2;cases h2
   ·rw[g1] at h1;cases h1
  ·simp only[List.mem_cons,List.not_mem_nil,or_false] at hi;have hk0:=hr.kept i l hl;rcases hi with rfl|rfl
   ·refine⟨?_,by rw[g2];rfl,t2⟩;rw[l1,<-hk0.1,hT.loc];rfl
   ·have:=hk0.2.2;rw[show(⟨env,hp⟩:St).hp=hp from rfl,zao.2 hb'] at this;cases this
 refine hn a w ⟨G',hturn.fin hr (fun i hi r hri=>?_)⟩;simp only[List.mem_cons,List.not_mem_nil,or_false] at hi;rcases hi with rfl|rfl
 ·rw[g2] at hri;cases hri
  refine⟨b,vs,e,Ss',l1,hT.at_,by rw[p1];exact hT.len, ?_,fun x hx=>?_,fun j hj hjv=>?_⟩
  ·rw[l1,List.nodup_cons];constructor
   ·intro h;obtain⟨j,hj,hxj⟩:=List.mem_flatMap.1 h;rw[p1] at hj;simp only[Ss'] at hxj;split at hxj
    ·exact hapart b (by rw[hT.loc];simp) hxj
    ·exact hnd'.1 (List.mem_flatMap.2 ⟨j,hj,hxj⟩)
   ·rw[p1];refine zeG List.nodup_range hnd'.2 hnd1 (fun x hx j hj _ hxj=>?_);exact hapart x (by rw[hT.loc];exact List.mem_cons_of_mem _ (List.mem_flatMap.2 ⟨j,hj,hxj⟩)) hx
  ·rcases hmem x hx with h|h
   ·exact hT.mine x h
   ·exact⟨hF1 x h,hbd1 x h⟩
  ·have h3:=p3 j;rw[List.getElem?_eq_getElem hj] at h3;by_cases hjo:j=off
   ·subst hjo;rw[if_pos (by simp)] at h3;simp only[Nat.sub_self,List.getElem?_cons_zero,Option.some.injEq] at h3;rw[h3];have h5:Ss' j=G.loc id':=by simp[Ss']
    rw[h5];exact hTr
   ·rw[if_neg (by simp only[xab,xai];omega)] at h3;have hjc:j<cs.length:=by omega
    rw[List.getElem?_eq_getElem hjc] at h3;rw[Option.some.inj h3];have h4:=hT.cell j hjc hjv;have h5:Ss' j=Ss j:=by simp[Ss',hjo]
    rw[h5];exact h4.map (hturn.cell hr hb (List.getElem_mem hjc)) (fun _ _=>rfl)
 ·rw[g1] at hri;cases hri
end
section
variable {c:Ctx}{all:Array Oper}{chk:List Rec->Prop}{os:List Oper}{recs:List Rec}{env:Env}{hp:Hp}{Q:St->Prop}
variable {d ty:Nat}{pos:String}{af:Array Edge}{g:Option (Nat×Bool)}{pg:List (Nat×AV)}
variable {t yt:TypeId}{x y:Operand}
theorem xaD {id k e yb:Nat}{xs ys:List (List D)}{vy:AV} (ht:SlT c.P t e k yb) (hz:ZeroT c.P e k) (hg:GH all env g pg) (hd:Nat.blt d c.n=true)
  (hx:opd env x=some (.gt id xs)) (hy:opd env y=some vy) (hyd:vy.toD=some (.sl ys)) (htok:getH hp id=some (.tok xs.length k)) (hky:∀y,y∈ys->y.length=k) (hf:FlatR ys)
  (hb:(xs.length+ys.length)*yb<=140737488355328) (hm:xs.length+ys.length<=9223372036854775807)
  (hn:Walk c all chk os (zam (pg++(opF x (.gt id xs)++opF y vy)) [(id,.tok xs.length k)] [] ⟨some (d,.gt id (xs++ys)),[(id,some (.tok (xs.length+ys.length) k))]⟩::recs)
   ⟨(d,.gt id (xs++ys))::env,(id,some (.tok (xs.length+ys.length) k))::hp⟩ Q):
  Walk c all chk (⟨some d,.call ⟨.builtin .append,#[x,y],#[t,t]⟩,ty,pos,af,g⟩::os) recs ⟨env,hp⟩ Q:=by
 refine⟨pg++(opF x (.gt id xs)++opF y vy),[(id,.tok xs.length k)],[],_, ?_,zau hg.facts (zau (zaU hx) (zaU hy)),hh1 htok,by simp,hn⟩;intro s a w hrel hp' hh _ K Q' hK;obtain⟨G,hr⟩:=hrel;have e1:=hr.opd (zaV hx (fun p hm=>hp' p (by simp[hm])));have e2:=hr.opd (zaV hy (fun p hm=>hp' p (by simp[hm])));obtain⟨i,z,z1,z2,z3⟩:=hz.out;obtain⟨v',w',G',hrun,hR,hA⟩:=zoA hr ht ⟨i,z1,z2,z3⟩ (hh1' hh) e1 (e2.toD hyd) hky hf hb hm ty;unfold wpO;rw[if_pos (hg.gf.wanted hr (fun p hm=>hp' p (by simp[hm])))];unfold Oper.wp;have:(execOp a.eval ⟨some d,.call ⟨.builtin .append,#[x,y],#[t,t]⟩,ty,pos,af,g⟩).run c.P w = .ok (.value v') w':=by
  simp only[execOp,resolve,invoke,builtin,Sem.run_bind,Sem.run_pure,Result.andThen_ok,List.map_toArray,xae,List.map_nil,hrun]
 rw[this,Oper.upon_value];exact hK _ _ ⟨G',hR.put hA hd⟩
theorem xbl {parts:Array (Nat×Operand)}{n:Nat}{ks:List Nat}{xs:List Operand}{vs zs r:List AV}{e k yb id:Nat} (ht:SlT c.P t e k yb) (hz:TyZ c.P e k zs) (hzk:zs.length=k) (hk:0<k)
  (hparts:parts=(ks.zip xs).toArray) (hlen:ks.length=xs.length) (hsmall:n*k<=16777216) (hpos:0<n) (hg:GH all env g pg) (hd:Nat.blt d c.n=true) (hx:opdL env xs=some vs)
  (hf:zfh (fun i=>some (i*k,k)) (za3 n zs) (ks.zip vs)=some r) (hid:zaP id (AV.idsL r)=false) (h0:getH hp id=none) (ho1:occE id env=false) (ho2:occH id hp=false)
  (hn:Walk c all chk os (zam (pg++opFL xs vs) [] [id] ⟨some (d,.ms id n),[(id,some (.box r))]⟩::recs) ⟨(d,.ms id n)::env,(id,some (.box r))::hp⟩ Q):
  Walk c all chk (⟨some d,.buildSlice t n parts,ty,pos,af,g⟩::os) recs ⟨env,hp⟩ Q:=by
 subst hparts;refine xa6 hg hd hx h0 ho1 ho2 hid (fun a G T w h=>?_) hn;obtain⟨ie,hi1,hi2,hi3⟩:=ht.inf;obtain⟨i',z,z1,z2,z3,z4⟩:=hz.inf;rw[hi1] at z1;cases z1
 have hz0:=zbD (G:=G) (T:=T) (w:=w) z4;have hzr:=zem (by simpa using hz0) n (by omega);obtain⟨lv,hlv,hal⟩:=zer (ks.zip vs) (ks.zip (xs.map a.eval)) _ r _ hf hzr (by simp[h.1]) (zm2 h hlen);have hpos':¬n*ie.size=0:=by rw[hi2];exact Nat.ne_of_gt (Nat.mul_pos hpos hk)
 have hrun:=run_buildSlice (P:=c.P) w t e n ((ks.zip xs).toArray.map fun(i,x)=>(i,a.eval x)) lv ie z ht.und hi1 z3 (by rw[hi2];omega) hpos' (by
  rw[hi2,<-hlv];congr 1
  ·rw[hzk]
  ·simp[List.zip_map_right,Prod.map])
 refine⟨_,lv,e, ?_,hal,fun G' T' w' hl hT=> .ms (by rw[hl];rfl) hT (Nat.le_refl _)⟩;simp only[execOp,Sem.run_bind,hrun,Result.andThen_ok,Sem.run_pure]
theorem xbj {t:TypeId}{e k yb:Nat} (id:Nat) (ht:SlT c.P t e k yb) (hg:GH all env g pg) (hd:Nat.blt d c.n=true) (hfr:zaw env hp [id]=true)
  (hn:Walk c all chk os (zam (pg++opFL [] []) [] [id] ⟨some (d,.gt id []),[(id,some (.tok 0 k))]⟩::recs) ⟨(d,.gt id [])::env,(id,some (.tok 0 k))::hp⟩ Q):
  Walk c all chk (⟨some d,.buildSlice t 0 #[],ty,pos,af,g⟩::os) recs ⟨env,hp⟩ Q:=by
 refine⟨pg++opFL [] [],[],[id],_, ?_,zau hg.facts (zcl rfl),by simp,zbb hfr,hn⟩;intro s a w hrel hp' hh hcr K Q' hK;obtain⟨G,hr⟩:=hrel;obtain⟨h0,hocc⟩:=hcr id (by simp);obtain⟨ie,hi1,hi2,hi3⟩:=ht.inf;have e1:(execOp a.eval ⟨some d,.buildSlice t 0 #[],ty,pos,af,g⟩).run c.P w = .ok (.value (.slice (some ⟨w.heap.size,0,none⟩) 0 0)) (w.alloc (.cells #[] e)):=by
  simp[execOp,Instr.buildSlice,run_underlying ht.und,sizeOf,zeJ hi1,Instr.fill,newRow,Array.range_zero']
 have hr':=(hr.alloc (.cells #[] e) 0).rename h0 hocc [w.heap.size];have hloc:∀i,i≠id->(bif Nat.beq i id then [w.heap.size] else G.loc i)=G.loc i:=fun i h=>by rw[zcn h];rfl
 have hR:=hr'.name (r:= .tok 0 k) h0 hocc (fun b hb=>by simp at hb;subst hb;simp) (fun i hi b hb=>by
  have hi':i≠id:=fun e=>by subst e;rw[h0] at hi;cases hi
  have hb':b∈G.loc i:=by have:=hloc i hi';simp only[this] at hb;exact hb
  obtain⟨r,hrr⟩:=Option.isSome_iff_exists.1 hi;have hlt:b<w.heap.size:=(hr.heap i r hrr).bound b hb';simp;omega) (fun b hb=>by
  simp at hb;subst hb;exact .inr hr.frm.size)
 unfold wpO;rw[if_pos (hg.gf.wanted hr (fun p hm=>hp' p (by simp[hm])))];unfold Oper.wp;rw[e1,Oper.upon_value];refine hK _ _ ⟨_,hR.put (v:= .gt id []) (.gt ⟨_,_,rfl⟩ (fun n k' hT=>?_)) hd⟩;have:=zao.1 hT;have h2:getH ((id,some (Res.tok 0 k))::s.hp) id=some (.tok n k'):=this;rw[zac,if_pos rfl] at h2;cases h2
 refine⟨Nat.le_refl _,fun _=>⟨by simp,.inr ⟨w.heap.size,0,#[],e,fun _=>[],by simp,rfl,zdF,by simp,Nat.le_refl _,by simp,fun b hb=>?_,fun i hi=>by simp at hi,fun _=>rfl⟩⟩⟩;simp at hb;subst hb;simp
end
end Go.Proofs.YtpgdedpljcedpaaGreat
namespace Go.Proofs.YtpgdedpljcedpaaGreat
open Go
set_option linter.unusedSimpArgs false
set_option linter.unusedVariables false
set_option maxRecDepth 100000
set_option maxHeartbeats 2000000
theorem zvd (l:List Ty):FlatR (l.map Ty.c):=by
 intro x hx y hy;obtain⟨t,_,rfl⟩:=List.mem_map.1 hx;simp only[Ty.c,List.mem_cons,List.not_mem_nil,or_false] at hy;rcases hy with rfl|rfl<;>rfl
theorem zid {w:List Data} (hs:WSmall w):FnD Tryz.prog 178 [.d (zan w)] [] (.gt 61 (w.map Data.c)) [(61,some (.tok (w.map Data.c).length 2))]:=by
 have hl:=hs.len;refine bd Tryz.f178 55 [] [12] fun w0 F0 own kept hk=>?_;refine xbj 61 sl23 .none rfl rfl ?_;refine ev ?_;refine xak (ι:=List (Data)×List (Data)) hk (fun x=>[(4,.d (.i (x.1.length:Int))),(3,.gt 61 (x.1.map Data.c))]) [5,6,7,9,10,11,12,13,14,15,16,17,18,19,20,21,22,23,24,25,26,27,28,29,30,31,32,33,34,35,36,37,38,39,40,41,42,43,44,45,46,47,48,49,50,51,52,53] (fun x=>[(61,some (.tok ((x.1.map Data.c)).length 2))]) (fun x=>x.1++x.2=w) (fun x=>x.2.length) ([],w) (by simp) ⟨⟨_,rfl,xar ?_⟩,⟨⟨_,rfl,LeA.gtg ?_⟩,trivial⟩⟩ ⟨zaa ?_,trivial⟩ (fun x=>rfl) (fun x hg1=>?_);iterate 3 focus (rfl)
 obtain⟨pre,rest⟩:=x;dsimp only at hg1 ⊢;refine evc [] [12] ?_;refine sq ?_ ?_<;>intro h1 h1p h1s<;>(try simp only[Q] at h1p);rcases rest with _|⟨y,rest⟩
 ·exfalso;simp_all
 have hcl:=(hs.cs (d:=y) (by rw[<-hg1];simp)).len;have hyn:=(hs.data y (by rw[<-hg1];simp)).1;refine xaU sl23 .none rfl rfl rfl rfl (zaE hg1) rfl ?_;refine ev ?_;refine bu [0] [_] zuO ?_;refine ab 3005 zky ?_;refine so zrX ?_;refine tv ?_;refine CWp.tokBT 3005 1 62 3 rfl rfl rfl rfl ?_;refine xak (ι:=List (Ctor)×List (Ctor)) hk (fun x=>[(6,.d (.i (x.1.length:Int)))]) [7,21,22,23,24,25,26,27,28,29,30,31,32,33,34,35,36,37,38,39,40,41,42,43,44,45,46,47,48,49] (fun x=>[(3005,some (.box [.d (.str y.name),.gt 62 (x.1.map Ctor.c)])),(62,some (.tok (x.1.map Ctor.c).length 3))]) (fun x=>x.1++x.2=y.ctors) (fun x=>x.2.length) ([],y.ctors) (by simp) ⟨⟨_,rfl,xar ?_⟩,trivial⟩ ⟨?_,⟨zaa ?_,trivial⟩⟩ (fun x=>rfl) (fun x hg2=>?_);focus (rfl)
 focus (first|rfl|(simp[getH];done))
 focus (rfl)
 obtain⟨pre2,rest2⟩:=x;dsimp only at hg2 ⊢;refine evc [] [12] ?_;refine xaU sl23 .none rfl rfl rfl rfl (zaE hg1) rfl ?_;refine ev ?_;refine sq ?_ ?_<;>intro h2 h2p h2s<;>(try simp only[Q] at h2p);rcases rest2 with _|⟨z,rest2⟩
 ·exfalso;simp_all
 have hza:=((hs.cs (d:=y) (by rw[<-hg1];simp)).ctor z (by rw[<-hg2];simp)).2;refine xaU sl23 .none rfl rfl rfl rfl (zaE hg1) rfl ?_;refine ev ?_;refine xaU zbC .none rfl rfl rfl rfl (zaE hg2) rfl ?_;refine ev ?_;refine ab 3007 zfx ?_;refine so zcG ?_;refine tv ?_;refine xbj 63 zaT .none rfl rfl ?_;refine ev ?_;refine xaD zaT zz25 .none rfl rfl rfl rfl (zfk rfl (by rfl)) (by simp) (zvd _) (by simp;omega) (by simp;omega) ?_;refine ev ?_;refine so zmV ?_;refine tv ?_;refine xbl (id:=3047) zbC zfx rfl (by decide) (ks:=[0]) (xs:=[_]) rfl rfl (by decide) (by decide) .none rfl rfl rfl rfl rfl rfl rfl ?_;refine xaC hk rfl zbC zuW .none rfl rfl rfl rfl (zfk rfl (by rfl)) rfl (.sc rfl (.gt rfl (by first|rfl|(simp;done)) (.sc rfl .nil))) rfl rfl (by simp;omega) (by simp;omega) ?_;refine ev ?_;refine so zhN ?_;refine tv ?_;refine ar ?_;refine xah ((pre2++[z],rest2)) ⟨(by have hz:=hg2;rw[<-hz];simp),(by simp),sx ⟨⟨_,rfl,xar ?_⟩,trivial⟩ ⟨?_,⟨zaa ?_,trivial⟩⟩⟩;focus ((simp;done))
 focus (first|rfl|(simp[getH];done))
 focus ((simp;done))
 have hrest2:rest2=[]:=by
  rcases rest2 with _|⟨a,b⟩
  ·rfl
  ·exfalso;have hz:=congrArg List.length (hg2);simp only[xaa,xab,xac] at hz;omega
 subst hrest2;rw[List.append_nil] at hg2;subst hg2;refine evc [] [] ?_;refine xbl (id:=3052) sl23 zky rfl (by decide) (ks:=[0]) (xs:=[_]) rfl rfl (by decide) (by decide) .none rfl rfl rfl rfl rfl rfl rfl ?_;refine xaC hk rfl sl23 zr1 .none rfl rfl rfl rfl (zfk rfl (by rfl)) rfl (.sc rfl (.gt rfl (by first|rfl|(simp;done)) .nil)) rfl rfl (by simp;omega) (by simp;omega) ?_;refine ev ?_;refine ar ?_;refine xah ((pre++[y],rest)) ⟨(by have hz:=hg1;rw[<-hz];simp),(by simp),sx ⟨⟨_,rfl,xar ?_⟩,⟨⟨_,rfl,LeA.gtg ?_⟩,trivial⟩⟩ ⟨zaa ?_,trivial⟩⟩;iterate 3 focus ((simp;done))
 have hrest:rest=[]:=by
  rcases rest with _|⟨a,b⟩
  ·rfl
  ·exfalso;have hz:=congrArg List.length (hg1);simp only[xaa,xab,xac] at hz;omega
 subst hrest;refine rn [(61,some (.tok (w.map Data.c).length 2))] (r1 rfl) (.gtg ?_) ⟨rfl,rfl⟩ (SubH.get ⟨?_,trivial⟩) (zax rfl);rotate_left 2;all_goals (((rw[List.append_nil] at hg1;subst hg1;rfl);done))
def nmsD:List Str:=[[73],[],[97],[76,76],[90]]
def nmsC:List Str:=[[],[110,105,108],[84,111,111,108,111,110,103],[88]]
def mutY (b:Str) (p:Nat) (c:Int) (nm:Str) (c0:Ctor) (cr:List Ctor):Data×Nat:=
 if c=0 then (⟨ofV b p nmsD,c0::cr⟩,p+1)
 else if c=1 then (⟨nm,[]⟩,p)
 else if c=2 then (⟨nm,⟨ofV b p nmsC,c0.args,c0.index⟩::cr⟩,p+1)
 else if c=3 then (⟨nm,⟨c0.name,c0.args++[⟨numV b p [9,-2,0,-1],numV b (p+1) [0,4,-1,-2]⟩],c0.index⟩::cr⟩,p+2)
 else if c=4 then (⟨nm,⟨c0.name,c0.args,numV b p [4,-1,1]⟩::cr⟩,p+1)
 else (⟨nm,c0::cr⟩,p)
def mutW (b:Str) (p:Nat) (w:List Data):List Data×Nat:=
 match (nth w (zal b p w.length).toNat).ctors with
 | []=>(w,p+1)
 |c0::cr=>
  if zal b (p+1) 30=5 then (w++[nth w (zal b p w.length).toNat],p+2)
  else (w.set (zal b p w.length).toNat (mutY b (p+2) (zal b (p+1) 30) (nth w (zal b p w.length).toNat).name c0 cr).1,(mutY b (p+2) (zal b (p+1) 30) (nth w (zal b p w.length).toNat).name c0 cr).2)
section
variable {b:Str}{p:Nat}{c:Int}{nm:Str}{c0:Ctor}{cr:List Ctor}
theorem zww (h:c=0):mutY b p c nm c0 cr=(⟨ofV b p nmsD,c0::cr⟩,p+1):=by unfold mutY;rw[if_pos h]
theorem zwx (h0:¬c=0) (h:c=1):mutY b p c nm c0 cr=(⟨nm,[]⟩,p):=by unfold mutY;rw[if_neg h0,if_pos h]
theorem zwy (h0:¬c=0) (h1:¬c=1) (h:c=2):mutY b p c nm c0 cr=(⟨nm,⟨ofV b p nmsC,c0.args,c0.index⟩::cr⟩,p+1):=by unfold mutY;rw[if_neg h0,if_neg h1,if_pos h]
theorem zwz (h0:¬c=0) (h1:¬c=1) (h2:¬c=2) (h:c=3):mutY b p c nm c0 cr=(⟨nm,⟨c0.name,c0.args++[⟨numV b p [9,-2,0,-1],numV b (p+1) [0,4,-1,-2]⟩],c0.index⟩::cr⟩,p+2):=by unfold mutY;rw[if_neg h0,if_neg h1,if_neg h2,if_pos h]
theorem zwA (h0:¬c=0) (h1:¬c=1) (h2:¬c=2) (h3:¬c=3) (h:c=4):mutY b p c nm c0 cr=(⟨nm,⟨c0.name,c0.args,numV b p [4,-1,1]⟩::cr⟩,p+1):=by unfold mutY;rw[if_neg h0,if_neg h1,if_neg h2,if_neg h3,if_pos h]
theorem zwB (h0:¬c=0) (h1:¬c=1) (h2:¬c=2) (h3:¬c=3) (h:¬c=4):mutY b p c nm c0 cr=(⟨nm,c0::cr⟩,p):=by unfold mutY;rw[if_neg h0,if_neg h1,if_neg h2,if_neg h3,if_neg h]
end
theorem zvk (b:Str) (p:Nat) (w:List Data):p+1<=(mutW b p w).2/\(mutW b p w).2<=p+4:=by
 unfold mutW;split
 ·dsimp only;omega
 ·split
  ·dsimp only;omega
  ·unfold mutY;repeat' split
   all_goals dsimp only;omega
theorem zq4 {α:Type} [Inhabited α]{pre rest:List α}{y:α}:nth (pre++y::rest) pre.length=y:=zwC rfl
theorem zvw {α:Type}{pre rest:List α}{y z:α}:(pre++y::rest).set pre.length z=pre++z::rest:=by
 rw[List.set_append_right _ _ (Nat.le_refl _)];simp
theorem ztQ {b:Str}{p:Nat}{pre rest:List Data}{nm:Str}{c0:Ctor}{cr:List Ctor} (h:zal b p (pre++⟨nm,c0::cr⟩::rest).length=pre.length) (h5:¬zal b (p+1) 30=5):
  mutW b p (pre++⟨nm,c0::cr⟩::rest)=(pre++(mutY b (p+2) (zal b (p+1) 30) nm c0 cr).1::rest,(mutY b (p+2) (zal b (p+1) 30) nm c0 cr).2):=by
 unfold mutW;rw[h,Int.toNat_natCast,zq4];dsimp only;rw[if_neg h5,zvw]
theorem zlj {α:Type}{f:α->List D} (m:Bool):∀l:List α,(zay m (l.map f)).map zh7=l.flatMap fun x=>(f x).map .d
 | []=>rfl
 |x::r=>by
  rw[xae,zb7,xaf,zlj m r,List.flatMap_cons];congr 1
  rw[List.map_map];refine List.map_congr_left (fun y _=>?_);cases y<;>rfl
theorem ze7 {α:Type}{f:α->List D}{k:Nat}{m1 m2:Bool}{pre rest:List α}{z:α}{mid:List AV}{n:Nat} (hk:∀x,(f x).length=k) (hm:mid.map zh7=(f z).map .d) (hn:n=(pre++z::rest).length):
  zbt n k ((zay m1 (pre.map f)++(mid++zay m2 (rest.map f))).map zh7)=some ((pre++z::rest).map f):=by
 rw[xaf,xaf,zlj,zlj,hm,hn];have:=zdf (f:=f) (k:=k) (l:=pre++z::rest) (fun x _=>hk x);rw[List.flatMap_append,List.flatMap_cons] at this;exact this
theorem ztU (m:Bool) (x:List D) (r:List (List D)){l:List AV} (h:x.map (ownD m)++zay m r=l):zay m (x::r)=l:=by rw[zb7];exact h
theorem zsY {α:Type}{f:α->List D} (m:Bool){pre rest:List α}{y:α}{l:List AV} (h:(f y).map (ownD m)++zay m (rest.map f)=l):zay m ((pre++y::rest).map f)=zay m (pre.map f)++l:=by
 rw[xaf,zmo,xae,zb7,h]
theorem zmH {b:Str}{p:Nat}{pre rest:List Data}{y:Data} (hb:b.length<=2000) (hp:p<=1000000) (hs:WSmall (pre++y::rest)) (hd:zal b p (pre++y::rest).length=pre.length) (h5:y.ctors=[]\/zal b (p+1) 30=5):
  FnD Tryz.prog 127 [.ref 900 0,.d (zan (pre++y::rest))] [(900,some (rdB b p))] (.d (zan (if y.ctors=[] then pre++y::rest else (pre++y::rest)++[y]))) [(900,some (rdB b (if y.ctors=[] then p+1 else p+2)))]:=by
 have hl:=hs.len;have hpk:=zaI (p:=p) (n:=(((pre++y::rest).map Data.c).length:Int)) hb (by omega) (by simp at hl ⊢;omega);have hpk2:=zaI (p:=p+1) (n:=30) hb (by omega) (by omega);have hpv:zal b p (((pre++y::rest).map Data.c).length:Int)=pre.length:=by rw[xac];exact hd
 rw[hpv] at hpk;have hat:((pre++y::rest).map Data.c)[pre.length]?=some (Data.c y):=by simp
 generalize hw:pre++y::rest=w at *;generalize hc:zal b (p+1) 30=c at *;have hlm:((w.map Data.c).length:Int)=w.length:=by simp
 refine bd Tryz.f127 99 [] [2] fun w0 F0 own kept hk=>?_;refine Walk.call (cr:=[61]) zsh (zid hs) rfl .none rfl rfl (LeL.refl _) trivial rfl (by rfl) (by rfl) ?_;refine ev ?_;refine CWp.gtGl 5 61 64 2 rfl rfl (by simp) rfl ?_;refine evc [] [] ?_;refine wd zbB (hpk) rfl rfl ⟨rfl,trivial⟩ ?_;refine ev ?_;refine xaX sl23 .none rfl rfl rfl rfl (hat) rfl ?_;refine ev ?_;refine sq ?_ ?_<;>intro h1 h1p h1s<;>(try simp only[Q] at h1p);refine rn [(900,some (rdB b (if y.ctors=[] then p+1 else p+2)))] (r1 rfl) (.gld ?_) ⟨rfl,rfl⟩ (SubO.get ⟨.inr ?_,⟨.inl rfl,trivial⟩⟩) (zax rfl);rotate_left 2;have hc5:c=5:=h5.resolve_left (by simpa using h1p);refine wd zbB (hpk2) rfl rfl ⟨rfl,trivial⟩ ?_;refine tv ?_;refine sq ?_ ?_<;>intro h2 h2p h2s<;>(try simp only[Q] at h2p);exfalso;omega;refine sq ?_ ?_<;>intro h3 h3p h3s<;>(try simp only[Q] at h3p);exfalso;omega;refine sq ?_ ?_<;>intro h4 h4p h4s<;>(try simp only[Q] at h4p);exfalso;omega;refine sq ?_ ?_<;>intro h5 h5p h5s<;>(try simp only[Q] at h5p);exfalso;omega;refine sq ?_ ?_<;>intro h6 h6p h6s<;>(try simp only[Q] at h6p);exfalso;omega;refine sq ?_ ?_<;>intro h7 h7p h7s<;>(try simp only[Q] at h7p);refine xaX sl23 .none rfl rfl rfl rfl (hat) rfl ?_;refine ev ?_;refine si [0] [_] sl23 zky ?_;refine ap sl23 zr1 rfl rfl rfl (by intro x hx;simp only[List.mem_singleton] at hx;subst hx;rfl) (by simp at hl ⊢;omega) ?_;refine ev ?_;refine rn [(900,some (rdB b (if y.ctors=[] then p+1 else p+2)))] (r1 rfl) (.gld ?_) ⟨rfl,rfl⟩ (SubO.get ⟨.inr ?_,⟨.inl rfl,trivial⟩⟩) (zax rfl);rotate_left 2;exfalso;omega;all_goals (((first|(rw[if_pos (by simpa using h1p)];all_goals rfl)|(rw[if_neg (by simpa using h1p)];all_goals first|rfl|(show _=(w++[y]).map Data.c;rw[xaf];rfl)|(show D.sl _=D.sl ((w++[y]).map Data.c);rw[xaf];rfl)));done))
theorem zmI {b:Str}{p:Nat}{pre rest:List Data}{nm:Str}{c0:Ctor}{cr:List Ctor} (hb:b.length<=2000) (hp:p<=1000000) (hs:WSmall (pre++⟨nm,c0::cr⟩::rest)) (hd:zal b p (pre++⟨nm,c0::cr⟩::rest).length=pre.length) (h5:¬zal b (p+1) 30=5):
  FnD Tryz.prog 127 [.ref 900 0,.d (zan (pre++⟨nm,c0::cr⟩::rest))] [(900,some (rdB b p))] (.d (zan (pre++(mutY b (p+2) (zal b (p+1) 30) nm c0 cr).1::rest))) [(900,some (rdB b (mutY b (p+2) (zal b (p+1) 30) nm c0 cr).2))]:=by
 have hl:=hs.len;have hpk:=zaI (p:=p) (n:=(((pre++⟨nm,c0::cr⟩::rest).map Data.c).length:Int)) hb (by omega) (by simp at hl ⊢;omega);have hpk2:=zaI (p:=p+1) (n:=30) hb (by omega) (by omega);have hpv:zal b p (((pre++⟨nm,c0::cr⟩::rest).map Data.c).length:Int)=pre.length:=by rw[xac];exact hd
 rw[hpv] at hpk;have hal:c0.args.length<=1000000000000:=((hs.ctor ⟨nm,c0::cr⟩ (by simp)) c0 (by simp)).2;generalize hc:zal b (p+1) 30=c at *;have hlw:pre.length<((pre++⟨nm,c0::cr⟩::rest).map Data.c).length:=by simp
 refine bd Tryz.f127 99 [17,45,57,62,65,83] [2,3,7,9,11,13,15,18] fun w0 F0 own kept hk=>?_;refine Walk.call (cr:=[61]) zsh (zid hs) rfl .none rfl rfl (LeL.refl _) trivial rfl (by rfl) (by rfl) ?_;refine evs [17,45,57,62,65,83] [] ?_;refine CWp.fixT hk 5 61 2 rfl rfl rfl (fun hx=>absurd hx (by simp)) (fun hx=>?_);refine evc [17,45,57,62,65,83] [] ?_;refine Walk.call (cr:=[]) zbB (hpk) rfl .none rfl rfl (LeL.refl _) ⟨rfl,trivial⟩ rfl (by rfl) (by rfl) ?_;refine evs [17,45,57,62,65,83] [] ?_;refine xal 61 (zay true (pre.map Data.c)++(.d (.str nm):: .own true (.sl ((c0::cr).map Ctor.c))::zay true (rest.map Data.c))) rfl (zsY true rfl) ?_;refine CWp.split 61 (pre.length*2+1) 62 rfl (zcM (zbH (k:=2) true (by intro x _;rfl)) rfl) (by simp) (by(simp only[zaw,occH,occE,Res.ids,xag,List.nil_append,AV.idsL,AV.ids,zag,zaf,zaq,zaF,xae,List.map_nil,upC];rfl)) (zdO (zbH (k:=2) true (by intro x _;rfl)) zfa) ?_;refine xal 62 (.d (.str c0.name):: .own true (.sl (c0.args.map Ty.c)):: .d (.i c0.index)::zay true (cr.map Ctor.c)) rfl (ztU true _ _ rfl) ?_;refine evc [17,45,57,62,65,83] [] ?_;refine xaY sl23 .none rfl rfl rfl rfl (by omega) ?_;refine evs [17,45,57,62,65,83] [] ?_;refine xa3 zhN .none rfl rfl rfl ((by rw[zcM (zbH (k:=2) true (by intro x _;rfl)) rfl];rfl)) ?_;refine evs [17,45,57,62,65,83] [] ?_;refine sq ?_ ?_<;>intro h1 h1p h1s<;>(try simp only[Q] at h1p);exfalso;simp at h1;omega;refine Walk.call (cr:=[]) zbB (hpk2) rfl .none rfl rfl (LeL.refl _) ⟨rfl,trivial⟩ rfl (by rfl) (by rfl) ?_;refine tv ?_;refine sq ?_ ?_<;>intro h2 h2p h2s<;>(try simp only[Q] at h2p);try rfl
 refine evc [17,45,57,62,65,83] [] ?_;refine si [0,1,2,3,4] [_,_,_,_,_] sl99 tz9 ?_;refine Walk.call (cr:=[]) zsi (zmQ (p:=p+2) (l:=nmsD) hb (by omega) (by simp[nmsD]) (by simp[nmsD])) rfl .none rfl rfl (LeL.refl _) ⟨rfl,trivial⟩ rfl (by rfl) (by rfl) ?_;refine xaY sl23 .none rfl rfl rfl rfl (by omega) ?_;refine evs [17,45,57,62,65,83] [] ?_;refine xbo ty9 .none rfl rfl rfl rfl rfl rfl (by simp) ((zdO (zbH (k:=2) true (by intro x _;rfl)) zq6)) ?_;refine tv ?_;try rfl
 refine xal 62 (zay true ((c0::cr).map Ctor.c)) rfl (by rw[xae,zb7];rfl) ?_;refine CWp.merge hk 61 (pre.length*2+1) 62 3 _ rfl (zcM (zbH (k:=2) true (by intro x _;rfl)) rfl) (by simp) rfl (by intro x hx;obtain⟨y,_,rfl⟩:=List.mem_map.1 hx;rfl) rfl rfl (zdO (zbH (k:=2) true (by intro x _;rfl)) zfa) ?_;refine CWp.frzTree hk 5 61 _ 2 (es:=(pre++(⟨(ofV b (p+2) nmsD),c0::cr⟩:Data)::rest).map Data.c) rfl rfl (ze7 (z:=(⟨(ofV b (p+2) nmsD),c0::cr⟩:Data)) (mid:=[.d (.str (ofV b (p+2) nmsD)),.own false (.sl ((c0::cr).map Ctor.c))]) (fun _=>rfl) rfl (by simp)) rfl ?_;refine evc [17,45,57,62,65,83] [] ?_;refine rn [(900,some (rdB b (mutY b (p+2) c nm c0 cr).2))] (r1 rfl) (.eqd ?_) ⟨rfl,rfl⟩ (SubO.get ⟨.inr ?_,⟨.inl rfl,trivial⟩⟩) (zax rfl);rotate_left 2;refine sq ?_ ?_<;>intro h3 h3p h3s<;>(try simp only[Q] at h3p);try rfl
 refine evc [17,45,57,62,65,83] [] ?_;refine xbh zbC .none rfl ?_;refine xaY sl23 .none rfl rfl rfl rfl (by omega) ?_;refine evs [17,45,57,62,65,83] [] ?_;refine xbo zhN .none rfl rfl rfl rfl rfl rfl (by simp) ((zdO (zbH (k:=2) true (by intro x _;rfl)) zfa)) ?_;refine tv ?_;try rfl
 refine CWp.frzTree hk 5 61 _ 2 (es:=(pre++(⟨nm,[]⟩:Data)::rest).map Data.c) rfl rfl (ze7 (z:=(⟨nm,[]⟩:Data)) (mid:=[.d (.str nm),.d (.sl [])]) (fun _=>rfl) rfl (by simp)) rfl ?_;refine evc [17,45,57,62,65,83] [] ?_;refine rn [(900,some (rdB b (mutY b (p+2) c nm c0 cr).2))] (r1 rfl) (.eqd ?_) ⟨rfl,rfl⟩ (SubO.get ⟨.inr ?_,⟨.inl rfl,trivial⟩⟩) (zax rfl);rotate_left 2;refine sq ?_ ?_<;>intro h4 h4p h4s<;>(try simp only[Q] at h4p);try rfl
 refine evc [17,45,57,62,65,83] [] ?_;refine xaY sl23 .none rfl rfl rfl rfl (by omega) ?_;refine evd [17,45,57,62,65,83] [] ?_;refine xa3 zhN .none rfl rfl rfl ((by rw[zcM (zbH (k:=2) true (by intro x _;rfl)) rfl];rfl)) ?_;refine evd [17,45,57,62,65,83] [] ?_;refine si [0,1,2,3] [_,_,_,_] sl99 tz9 ?_;refine Walk.call (cr:=[]) zsi (zmQ (p:=p+2) (l:=nmsC) hb (by omega) (by simp[nmsC]) (by simp[nmsC])) rfl .none rfl rfl (LeL.refl _) ⟨rfl,trivial⟩ rfl (by rfl) (by rfl) ?_;refine xaY (i:=0) zbC .none rfl rfl rfl rfl (by(simp;done)) ?_;refine evd [17,45,57,62,65,83] [] ?_;refine xbo ty9 .none rfl rfl rfl rfl rfl rfl (by simp) ((zq6)) ?_;refine dr ?_;try rfl
 refine xal 62 (zay true (((⟨ofV b (p+2) nmsC,c0.args,c0.index⟩:Ctor)::cr).map Ctor.c)) rfl (by rw[xae,zb7];rfl) ?_;refine CWp.merge hk 61 (pre.length*2+1) 62 3 _ rfl (zcM (zbH (k:=2) true (by intro x _;rfl)) rfl) (by simp) rfl (by intro x hx;obtain⟨y,_,rfl⟩:=List.mem_map.1 hx;rfl) rfl rfl (zdO (zbH (k:=2) true (by intro x _;rfl)) zfa) ?_;refine CWp.frzTree hk 5 61 _ 2 (es:=(pre++(⟨nm,(⟨ofV b (p+2) nmsC,c0.args,c0.index⟩:Ctor)::cr⟩:Data)::rest).map Data.c) rfl rfl (ze7 (z:=(⟨nm,(⟨ofV b (p+2) nmsC,c0.args,c0.index⟩:Ctor)::cr⟩:Data)) (mid:=[.d (.str nm),.own false (.sl (((⟨ofV b (p+2) nmsC,c0.args,c0.index⟩:Ctor)::cr).map Ctor.c))]) (fun _=>rfl) rfl (by simp)) rfl ?_;refine evc [17,45,57,62,65,83] [] ?_;refine rn [(900,some (rdB b (mutY b (p+2) c nm c0 cr).2))] (r1 rfl) (.eqd ?_) ⟨rfl,rfl⟩ (SubO.get ⟨.inr ?_,⟨.inl rfl,trivial⟩⟩) (zax rfl);rotate_left 2;refine sq ?_ ?_<;>intro h5 h5p h5s<;>(try simp only[Q] at h5p);refine CWp.splitT 62 1 63 2 rfl rfl (by intro x hx;obtain⟨y,_,rfl⟩:=List.mem_map.1 hx;rfl) (by(simp only[zaw,occH,occE,Res.ids,xag,List.nil_append,AV.idsL,AV.ids,zag,zaf,zaq,zaF,xae,List.map_nil,upC];rfl)) rfl ?_;refine evc [17,45,57,62,65,83] [] ?_;refine xaY sl23 .none rfl rfl rfl rfl (by omega) ?_;refine evd [17,45,57,62,65,83] [] ?_;refine xa3 zhN .none rfl rfl rfl ((by rw[zcM (zbH (k:=2) true (by intro x _;rfl)) rfl];rfl)) ?_;refine evd [17,45,57,62,65,83] [] ?_;refine xaY sl23 .none rfl rfl rfl rfl (by omega) ?_;refine evd [17,45,57,62,65,83] [] ?_;refine xa3 zhN .none rfl rfl rfl ((by rw[zcM (zbH (k:=2) true (by intro x _;rfl)) rfl];rfl)) ?_;refine xaY (i:=0) zbC .none rfl rfl rfl rfl (by(simp;done)) ?_;refine evd [17,45,57,62,65,83] [] ?_;refine xa3 zmV .none rfl rfl rfl ((rfl)) ?_;refine evd [17,45,57,62,65,83] [] ?_;refine si [0,1,2,3] [_,_,_,_] sl62 tz3 ?_;refine Walk.call (cr:=[]) zdX (zbs (p:=p+2) (l:=[9,-2,0,-1]) hb (by omega) (by simp) (by simp)) rfl .none rfl rfl (LeL.refl _) ⟨rfl,trivial⟩ rfl (by rfl) (by rfl) ?_;refine evd [17,45,57,62,65,83] [] ?_;refine si [0,1,2,3] [_,_,_,_] sl62 tz3 ?_;refine Walk.call (cr:=[]) zdX (zbs (p:=p+3) (l:=[0,4,-1,-2]) hb (by omega) (by simp) (by simp)) rfl .none rfl rfl (LeL.refl _) ⟨rfl,trivial⟩ rfl (by rfl) (by rfl) ?_;refine bu [0,1] [_,_] st25 ?_;refine si [0] [_] zaT tz25 ?_;refine xaD zaT zz25 .none rfl rfl rfl rfl (zfk rfl (by rfl)) (by intro x hx;simp only[List.mem_singleton] at hx;subst hx;rfl) (by intro x hx y hy;simp only[List.mem_singleton] at hx;subst hx;simp only[List.mem_cons,List.not_mem_nil,or_false] at hy;rcases hy with rfl|rfl<;>rfl) (by simp;omega) (by simp;omega) ?_;refine xaY (i:=0) zbC .none rfl rfl rfl rfl (by(simp;done)) ?_;refine evd [17,45,57,62,65,83] [] ?_;refine xbo zmV .none rfl rfl rfl rfl rfl rfl (by simp) ((zfa)) ?_;refine dr ?_;try rfl
 refine CWp.mergeT 62 1 63 2 rfl rfl rfl (by simp) rfl ?_;refine xal 62 (.d (.str c0.name):: .own true (.sl ((c0.args++[(⟨numV b (p+2) [9,-2,0,-1],numV b (p+3) [0,4,-1,-2]⟩:Ty)]).map Ty.c)):: .d (.i c0.index)::zay true (cr.map Ctor.c)) rfl (by rw[xaf];rfl) ?_;refine xal 62 (zay true (((⟨c0.name,c0.args++[(⟨numV b (p+2) [9,-2,0,-1],numV b (p+3) [0,4,-1,-2]⟩:Ty)],c0.index⟩:Ctor)::cr).map Ctor.c)) rfl (by rw[xae,zb7];rfl) ?_;refine CWp.merge hk 61 (pre.length*2+1) 62 3 _ rfl (zcM (zbH (k:=2) true (by intro x _;rfl)) rfl) (by simp) rfl (by intro x hx;obtain⟨y,_,rfl⟩:=List.mem_map.1 hx;rfl) rfl rfl (zdO (zbH (k:=2) true (by intro x _;rfl)) zfa) ?_;refine CWp.frzTree hk 5 61 _ 2 (es:=(pre++(⟨nm,(⟨c0.name,c0.args++[(⟨numV b (p+2) [9,-2,0,-1],numV b (p+3) [0,4,-1,-2]⟩:Ty)],c0.index⟩:Ctor)::cr⟩:Data)::rest).map Data.c) rfl rfl (ze7 (z:=(⟨nm,(⟨c0.name,c0.args++[(⟨numV b (p+2) [9,-2,0,-1],numV b (p+3) [0,4,-1,-2]⟩:Ty)],c0.index⟩:Ctor)::cr⟩:Data)) (mid:=[.d (.str nm),.own false (.sl (((⟨c0.name,c0.args++[(⟨numV b (p+2) [9,-2,0,-1],numV b (p+3) [0,4,-1,-2]⟩:Ty)],c0.index⟩:Ctor)::cr).map Ctor.c))]) (fun _=>rfl) rfl (by simp)) rfl ?_;refine evc [17,45,57,62,65,83] [] ?_;refine rn [(900,some (rdB b (mutY b (p+2) c nm c0 cr).2))] (r1 rfl) (.eqd ?_) ⟨rfl,rfl⟩ (SubO.get ⟨.inr ?_,⟨.inl rfl,trivial⟩⟩) (zax rfl);rotate_left 2;refine sq ?_ ?_<;>intro h6 h6p h6s<;>(try simp only[Q] at h6p);try rfl
 refine evc [17,45,57,62,65,83] [] ?_;refine xaY sl23 .none rfl rfl rfl rfl (by omega) ?_;refine evd [17,45,57,62,65,83] [] ?_;refine xa3 zhN .none rfl rfl rfl ((by rw[zcM (zbH (k:=2) true (by intro x _;rfl)) rfl];rfl)) ?_;refine evd [17,45,57,62,65,83] [] ?_;refine si [0,1,2] [_,_,_] sl62 tz3 ?_;refine Walk.call (cr:=[]) zdX (zbs (p:=p+2) (l:=[4,-1,1]) hb (by omega) (by simp) (by simp)) rfl .none rfl rfl (LeL.refl _) ⟨rfl,trivial⟩ rfl (by rfl) (by rfl) ?_;refine xaY (i:=0) zbC .none rfl rfl rfl rfl (by(simp;done)) ?_;refine evd [17,45,57,62,65,83] [] ?_;refine xbo ty3 .none rfl rfl rfl rfl rfl rfl (by simp) ((zvs)) ?_;refine dr ?_;try rfl
 refine xal 62 (zay true (((⟨c0.name,c0.args,numV b (p+2) [4,-1,1]⟩:Ctor)::cr).map Ctor.c)) rfl (by rw[xae,zb7];rfl) ?_;refine CWp.merge hk 61 (pre.length*2+1) 62 3 _ rfl (zcM (zbH (k:=2) true (by intro x _;rfl)) rfl) (by simp) rfl (by intro x hx;obtain⟨y,_,rfl⟩:=List.mem_map.1 hx;rfl) rfl rfl (zdO (zbH (k:=2) true (by intro x _;rfl)) zfa) ?_;refine CWp.frzTree hk 5 61 _ 2 (es:=(pre++(⟨nm,(⟨c0.name,c0.args,numV b (p+2) [4,-1,1]⟩:Ctor)::cr⟩:Data)::rest).map Data.c) rfl rfl (ze7 (z:=(⟨nm,(⟨c0.name,c0.args,numV b (p+2) [4,-1,1]⟩:Ctor)::cr⟩:Data)) (mid:=[.d (.str nm),.own false (.sl (((⟨c0.name,c0.args,numV b (p+2) [4,-1,1]⟩:Ctor)::cr).map Ctor.c))]) (fun _=>rfl) rfl (by simp)) rfl ?_;refine evc [17,45,57,62,65,83] [] ?_;refine rn [(900,some (rdB b (mutY b (p+2) c nm c0 cr).2))] (r1 rfl) (.eqd ?_) ⟨rfl,rfl⟩ (SubO.get ⟨.inr ?_,⟨.inl rfl,trivial⟩⟩) (zax rfl);rotate_left 2;refine sq ?_ ?_<;>intro h7 h7p h7s<;>(try simp only[Q] at h7p);exfalso;omega;try rfl
 refine xal 62 (zay true ((c0::cr).map Ctor.c)) rfl (by rw[xae,zb7];rfl) ?_;refine CWp.merge hk 61 (pre.length*2+1) 62 3 _ rfl (zcM (zbH (k:=2) true (by intro x _;rfl)) rfl) (by simp) rfl (by intro x hx;obtain⟨y,_,rfl⟩:=List.mem_map.1 hx;rfl) rfl rfl (zdO (zbH (k:=2) true (by intro x _;rfl)) zfa) ?_;refine CWp.frzTree hk 5 61 _ 2 (es:=(pre++(⟨nm,c0::cr⟩:Data)::rest).map Data.c) rfl rfl (ze7 (z:=(⟨nm,c0::cr⟩:Data)) (mid:=[.d (.str nm),.own false (.sl ((c0::cr).map Ctor.c))]) (fun _=>rfl) rfl (by simp)) rfl ?_;refine evc [17,45,57,62,65,83] [] ?_;refine rn [(900,some (rdB b (mutY b (p+2) c nm c0 cr).2))] (r1 rfl) (.eqd ?_) ⟨rfl,rfl⟩ (SubO.get ⟨.inr ?_,⟨.inl rfl,trivial⟩⟩) (zax rfl);rotate_left 2;all_goals (((first|(rw[zww (by omega)];all_goals rfl)|(rw[zwx (by omega) (by omega)];all_goals rfl)|(rw[zwy (by omega) (by omega) (by omega)];all_goals rfl)|(rw[zwz (by omega) (by omega) (by omega) (by omega)];all_goals rfl)|(rw[zwA (by omega) (by omega) (by omega) (by omega) (by omega)];all_goals rfl)|(rw[zwB (by omega) (by omega) (by omega) (by omega) (by omega)];all_goals rfl));done))
def smB (n:Nat) (w:List Data):Bool:=decide (w.length<=n)&&w.all fun d=>decide (d.name.length<=n)&&(decide (d.ctors.length<=n)&&d.ctors.all fun c=>decide (c.name.length<=n)&&decide (c.args.length<=n))
structure Sm (n:Nat) (w:List Data):Prop where
 len:w.length<=n
 data:∀d∈w,d.name.length<=n/\d.ctors.length<=n
 ctor:∀d∈w,∀c∈d.ctors,c.name.length<=n/\c.args.length<=n
theorem zmy {n:Nat}{w:List Data} (h:smB n w=true):Sm n w:=by
 simp only[smB,xad,decide_eq_true_eq,List.all_eq_true] at h;exact⟨h.1,fun d hd=>⟨(h.2 d hd).1,(h.2 d hd).2.1⟩,fun d hd c hc=>(h.2 d hd).2.2 c hc⟩
theorem Sm.small {n:Nat}{w:List Data} (h:Sm n w) (hn:n<=1000000000000):WSmall w:=
 ⟨Nat.le_trans h.len hn,fun d hd=>⟨Nat.le_trans (h.data d hd).1 hn,Nat.le_trans (h.data d hd).2 hn⟩,fun d hd c hc=>⟨Nat.le_trans (h.ctor d hd c hc).1 hn,Nat.le_trans (h.ctor d hd c hc).2 hn⟩⟩
theorem zpT {b:Str}{p:Nat}{l:List Str}{n:Nat} (h:∀s∈l,s.length<=n) (hl:1<=l.length):(ofV b p l).length<=n:=by
 have:=zbS (b:=b) (p:=p) (n:=(l.length:Int)) (by omega);exact h _ (zah (by omega))
theorem Sm.mut {n:Nat}{w:List Data} (h:Sm n w) (b:Str) (p:Nat):Sm (n+10) (mutW b p w).1:=by
 have up:Sm (n+10) w:=⟨by have:=h.len;omega,fun d hd=>by have:=h.data d hd;omega,fun d hd c hc=>by have:=h.ctor d hd c hc;omega⟩;unfold mutW;split
 ·exact up
 rename_i c0 cr hc;by_cases hi:(zal b p w.length).toNat<w.length
 ·have hy:nth w (zal b p w.length).toNat∈w:=zah hi;generalize nth w (zal b p w.length).toNat=y at hc hy ⊢;have hyc:=h.ctor y hy;have hyd:=h.data y hy;rw[hc] at hyc hyd;have hy0:=hyc c0 (by simp);split
  ·refine⟨by simp only[xaa,xab,xai];have:=h.len;omega,fun d hd=>?_,fun d hd c hc'=>?_⟩
   ·rcases List.mem_append.1 hd with h1|h1
    ·exact up.data d h1
    ·simp only[List.mem_singleton] at h1;subst h1;exact up.data d hy
   ·rcases List.mem_append.1 hd with h1|h1
    ·exact up.ctor d h1 c hc'
    ·simp only[List.mem_singleton] at h1;subst h1;exact up.ctor d hy c hc'
  ·have hz:∀z:Data,z.name.length<=n+10->z.ctors.length<=n+10->(∀c∈z.ctors,c.name.length<=n+10/\c.args.length<=n+10)->Sm (n+10) (w.set (zal b p w.length).toNat z):=fun z z1 z2 z3=>by
    refine⟨by rw[List.length_set];exact up.len,fun d hd=>?_,fun d hd c hc'=>?_⟩
    ·rcases List.mem_or_eq_of_mem_set hd with h1|rfl
     ·exact up.data d h1
     ·exact⟨z1,z2⟩
    ·rcases List.mem_or_eq_of_mem_set hd with h1|rfl
     ·exact up.ctor d h1 c hc'
     ·exact z3 c hc'
   have n1:(ofV b (p+2) nmsD).length<=10:=zpT (by decide) (by decide);have n2:(ofV b (p+2) nmsC).length<=10:=zpT (by decide) (by decide);have hl2:(c0::cr).length<=n+10:=by omega
   have hcr:∀c∈cr,c.name.length<=n+10/\c.args.length<=n+10:=fun c hc=>by have:=hyc c (by simp[hc]);omega
   have hc0:c0.name.length<=n+10/\c0.args.length<=n+10:=by omega
   have cons:∀c:Ctor,c.name.length<=n+10/\c.args.length<=n+10->∀x∈c::cr,x.name.length<=n+10/\x.args.length<=n+10:=fun c h1 x hx=>by
    rcases List.mem_cons.1 hx with rfl|hx
    ·exact h1
    ·exact hcr x hx
   unfold mutY;repeat' split
   ·exact hz _ (by dsimp only;omega) hl2 (cons _ hc0)
   ·exact hz _ (by dsimp only;omega) (by simp) (by simp)
   ·exact hz _ (by dsimp only;omega) (by simpa using hl2) (cons _ ⟨by dsimp only;omega,hc0.2⟩)
   ·exact hz _ (by dsimp only;omega) (by simpa using hl2) (cons _ ⟨hc0.1,by simp only[xaa,xab,xai];omega⟩)
   ·exact hz _ (by dsimp only;omega) (by simpa using hl2) (cons _ ⟨hc0.1,hc0.2⟩)
   ·exact hz _ (by dsimp only;omega) hl2 (cons _ hc0)
 ·have hn:nth w (zal b p w.length).toNat=default:=by simp[nth,List.getD,List.getElem?_eq_none (Nat.le_of_not_lt hi)]
  rw[hn] at hc;cases hc
theorem zlq {b:Str}{p:Nat}{w:List Data} (hb:b.length<=2000) (hp:p<=1000000) (hs:WSmall w) (hne:1<=w.length):
  FnD Tryz.prog 127 [.ref 900 0,.d (zan w)] [(900,some (rdB b p))] (.d (zan (mutW b p w).1)) [(900,some (rdB b (mutW b p w).2))]:=by
 have hv:=zbS (b:=b) (p:=p) (n:=(w.length:Int)) (by omega);have hlt:(zal b p w.length).toNat<w.length:=by omega
 obtain⟨pre,y,rest,hw,hpl⟩:∃pre y rest,w=pre++y::rest/\pre.length=(zal b p w.length).toNat:=
  ⟨w.take (zal b p w.length).toNat,w[(zal b p w.length).toNat],w.drop ((zal b p w.length).toNat+1),by rw[List.getElem_cons_drop,List.take_append_drop],by rw[List.length_take];omega⟩
 have hd:zal b p w.length=pre.length:=by omega
 subst hw;obtain⟨nm,cs⟩:=y;by_cases h5:cs=[]\/zal b (p+1) 30=5
 ·have h:=zmH (b:=b) (p:=p) hb hp hs hd h5;have hm:mutW b p (pre++⟨nm,cs⟩::rest)=(if cs=[] then pre++⟨nm,cs⟩::rest else (pre++⟨nm,cs⟩::rest)++[⟨nm,cs⟩],if cs=[] then p+1 else p+2):=by
   unfold mutW;rw[hd,Int.toNat_natCast,zq4];dsimp only;cases cs with
   |nil=>rfl
   |cons c0 cr=>
    have:=h5.resolve_left (by simp);simp only;rw[if_pos this,if_neg (by simp),if_neg (by simp)]
  rw[hm];exact h
 ·rw[not_or] at h5;cases cs with
  |nil=>exact absurd rfl h5.1
  |cons c0 cr=>
   rw[ztQ hd h5.2];exact zmI hb hp hs hd h5.2
theorem zm0:((List.range 7).all fun i=>smB 10 (zcQ (nth zcT i)).1&&(za1 (zcQ (nth zcT i)).1&&decide (1<=(zcQ (nth zcT i)).1.length)))=true:=by kernel_rfl
structure WorldD (w:List Data):Prop where
 sm:Sm 10 w
 small:WSmall w
 valid:za1 w=true
 one:1<=w.length
theorem zgg (b:Str) (p:Nat):WorldD (za6 b p):=by
 have h:=List.all_eq_true.1 zm0 (zal b p 7).toNat (List.mem_range.2 (zrO b p));simp only[xad,decide_eq_true_eq] at h;exact⟨zmy h.1,(zmy h.1).small (by omega),h.2.1,h.2.2⟩
theorem zrK (b:Str) (p q:Nat):WSmall (mutW b q (za6 b p)).1:=((zgg b p).sm.mut b q).small (by omega)
theorem znz {w:List Data} (hw:WT w){n:Nat}{f:Nat->Nat}{a k c:Int} (ht:TyIn w.length ⟨a,k⟩) (hc:c∈zap w ⟨a,k⟩) (hn:n<=100) (hb:∀s,f s<=100000) (hin:∀u∈zab w ⟨a,k⟩ c,InS n u):
  FnD Tryz.prog 98 [.d (zan w),.d (zjs n f),.agg [.d (.i a),.d (.i k)],.d (.i c)] [] (.d (.i (most w f ⟨a,k⟩ c))) []:=by
 have hl:=zg0 hw ht hc;have hd:=zoP hb (by omega);refine bd Tryz.f98 37 [] [] fun w0 F0 own kept hk=>?_;refine bx 3006 ?_;refine ev ?_;refine wc zg1 (zcy hw ht hc) rfl rfl ?_;refine ev ?_;refine xak (ι:=List (Ty)×List (Ty)×(Nat)) hk (fun x=>[(11,.d (.i (x.1.length:Int))),(10,.d (.i (x.2.2:Int)))]) [8,12,17,18,19,20,21,22,23,24,25,26,27,28,29,30,31,32,33,34] (fun x=>[]) (fun x=>x.1++x.2.1=zab w ⟨a,k⟩ c/\x.2.2<=100000/\zbq f x.2.2 x.2.1=zbq f 0 (zab w ⟨a,k⟩ c)) (fun x=>x.2.1.length) ([],zab w ⟨a,k⟩ c,0) ⟨by simp,by simp,rfl⟩ ⟨⟨_,rfl,xar ?_⟩,⟨⟨_,rfl,xar ?_⟩,trivial⟩⟩ trivial (fun x=>rfl) (fun x hg1=>?_);iterate 2 focus (first|rfl|(simp;done)|omega|(dsimp only;omega))
 obtain⟨pre,rest,m⟩:=x;dsimp only at hg1 ⊢;refine evc [] [] ?_;refine sq ?_ ?_<;>intro h1 h1p h1s<;>(try simp only[Q] at h1p);rcases rest with _|⟨y,rest⟩
 ·exfalso;simp_all
 have hdy:=hd y;have hye:dv f ⟨y.data,y.index⟩=dv f y:=rfl;refine xaU zaT .none rfl rfl rfl rfl (zaE hg1.1) rfl ?_;refine ev ?_;refine wc zhX (zd3 (f:=f) (a:=y.data) (k:=y.index) (hin y (by rw[<-hg1.1];simp)) hn) rfl rfl ?_;refine ev ?_;refine sq ?_ ?_<;>intro h2 h2p h2s<;>(try simp only[Q] at h2p);refine rq ?_;rotate_left;refine sq ?_ ?_<;>intro h3 h3p h3s<;>(try simp only[Q] at h3p);refine ar ?_;refine xah ((pre++[y],rest,max m (dv f y))) ⟨⟨(by have hz:=hg1.1;rw[<-hz];simp),⟨(by have:=hd y;dsimp only;omega),(by rw[<-hg1.2.2];simp only[zbq];rw[if_neg (by have:=hd y;omega)])⟩⟩,(by simp),sx ⟨⟨_,rfl,xar ?_⟩,⟨⟨_,rfl,xar ?_⟩,trivial⟩⟩ trivial⟩;iterate 2 focus (first|rfl|(simp;done)|omega|(dsimp only;omega))
 refine ar ?_;refine xah ((pre++[y],rest,max m (dv f y))) ⟨⟨(by have hz:=hg1.1;rw[<-hz];simp),⟨(by have:=hd y;dsimp only;omega),(by rw[<-hg1.2.2];simp only[zbq];rw[if_neg (by have:=hd y;omega)])⟩⟩,(by simp),sx ⟨⟨_,rfl,xar ?_⟩,⟨⟨_,rfl,xar ?_⟩,trivial⟩⟩ trivial⟩;iterate 2 focus (first|rfl|(simp;done)|omega|(dsimp only;omega))
 have hrest:rest=[]:=by
  rcases rest with _|⟨a,b⟩
  ·rfl
  ·exfalso;have hz:=congrArg List.length (hg1.1);simp only[xaa,xab,xac] at hz;omega
 subst hrest;refine ar ?_;refine rq ?_;rotate_left;all_goals (refine congrArg D.i ?_;unfold most;rw[<-hg1.2.2];first|(simp only[zbq];rw[if_pos (by omega)];rfl)|(simp only[zbq];omega))
def hdB (w:List Data):Nat->Ty->Bool
 |0,_=>false
 |d+1,t=>decide (t.data = -1)||(zaM w t).any fun c=>decide (t.data≠ -1)&&(zab w t c).all (hdB w d)
theorem znh (w:List Data):∀(d:Nat) (t:Ty),hdB w d t=true↔Hd w d t
 |0,t=>by simp[hdB,Hd]
 |d+1,t=>by
  simp only[hdB,Hd,Bool.or_eq_true,decide_eq_true_eq,List.any_eq_true,xad,List.all_eq_true,znh w d]
def Low (w:List Data):Prop:=∀s,zai w s<=3
theorem zwv {w:List Data} (hd:Dp w) (h:(List.range (w.length*4)).all (fun s=> !hdB w 4 (tyS s)||hdB w 3 (tyS s))=true):Low w:=by
 intro s;by_cases hs:s<w.length*4
 ·obtain⟨h1,h2⟩:=zdj hd.cl (w.length*4+1);by_cases h0:zai w s=0
  ·omega
  ·have hh:=h1 s hs (Nat.pos_of_ne_zero h0);have h3:=zjx hd.cl (d:=3) (by omega) (fun s hs hh=>by
    have:=List.all_eq_true.1 h s (List.mem_range.2 hs);rw[(znh w 4 (tyS s)).2 hh] at this;exact(znh w 3 _).1 (by simpa using this)) _ s hs hh
   by_cases h4:3<=w.length*4+1
   ·exact(h2 s hs 3 h4 h3).2
   ·omega
 ·have h0:=ziC (w:=w) (i:=s) (by omega) (w.length*4+1);show zba w (w.length*4+1) s<=3
  omega
theorem zr0:((List.range 7).all fun i=>(List.range ((zcQ (nth zcT i)).1.length*4)).all fun s=> !hdB (zcQ (nth zcT i)).1 4 (tyS s)||hdB (zcQ (nth zcT i)).1 3 (tyS s))=true:=by kernel_rfl
structure WorldL (w:List Data):Prop where
 dp:Dp w
 low:Low w
 few:Few w
theorem zfy (b:Str) (p:Nat):WorldL (za6 b p):=by
 have ho:=zgg b p;have hd:=ziR ho.small ho.valid;exact⟨hd,zwv hd (List.all_eq_true.1 zr0 (zal b p 7).toNat (List.mem_range.2 (zrO b p))),zkd ho.small ho.valid⟩
theorem zsU {w:List Data} (hd:Dp w){t:Ty} (ht:InS (w.length*4) t) (hne:¬t.data = -1) (h:0<dv (zai w) t):∃c∈zap w t,0<most w (zai w) t c/\most w (zai w) t c=dv (zai w) t:=by
 obtain⟨h1,h2⟩:Snd w (zai w)/\Cmp w (w.length*4+1) (zai w):=zdj hd.cl (w.length*4+1);have hcmp:∀k,Cmp w k (zai w):=fun k=>by
  have h3:=(zdj hd.cl (max k (w.length*4+1))).2;rw[zkn hd.cl (Nat.le_max_right _ _)] at h3;exact fun s hs d hdk hh=>h3 s hs d (by omega) hh
 have hv:zap w t=zaM w t:=by unfold zap;rw[if_neg hne]
 have hh:Hd w (dv (zai w) t) t:=zoQ h1 ht h;rcases hd0:dv (zai w) t with _|e
 ·omega
 rw[hd0] at hh;rcases hh with hh|⟨c,hc,_,hu⟩
 ·exact absurd hh hne
 have hin:=zbR hd ht (c:=c) (by rw[hv];exact hc);have hp:=zjL (f:=zai w) (l:=zab w t c) (m:=0) (k:=e) (Nat.zero_le _) (fun u hu'=>zlS (hcmp e) (hin u hu') (hu u hu'));refine⟨c,by rw[hv];exact hc,hp.1, ?_⟩;have hle:most w (zai w) t c<=e+1:=hp.2;have hpos:0<most w (zai w) t c:=hp.1

 have hsn:=zhz (f:=zai w) (l:=zab w t c) (m:=0) hp.1;have hH:Hd w (most w (zai w) t c) t:=by
  obtain⟨q,hq⟩:∃q,most w (zai w) t c=q+1:=⟨most w (zai w) t c-1,by omega⟩;rw[hq];refine .inr ⟨c,hc,hne,fun u hu'=>?_⟩;have hx:=hsn.2 u hu';have hlt:dv (zai w) u<most w (zai w) t c:=hx.2;exact Hd_le (by omega) (zoQ h1 (hin u hu') hx.1)
 have hge:=(zlS (hcmp _) ht hH).2;omega
def zes (w:List Data) (f:Nat->Nat) (t:Ty) (m c:Int):Bool:=decide (0<most w f t c)&&decide ((most w f t c:Int)<=m\/most w f t c=dv f t)
def zbX (w:List Data) (f:Nat->Nat) (t:Ty) (m:Int):List Int:=(zap w t).filter (zes w f t m)
theorem zpv {P:Int->Bool}{pre:List Int}{y:Int} (h:P y=true):((pre++[y]).filter P).map (fun n=>[D.i n])=(pre.filter P).map (fun n=>[D.i n])++[[D.i y]]:=by simp[List.filter_append,h]
theorem zvc {P:Int->Bool}{pre:List Int}{y:Int} (h:P y=false):((pre++[y]).filter P).map (fun n=>[D.i n])=(pre.filter P).map (fun n=>[D.i n]):=by simp[List.filter_append,h]
def dV (f:Ty->Nat->Val×Nat):List Ty->Nat->List Val×Nat
 | [],q=>([],q)
 |t::r,q=>((f t q).1::(dV f r (f t q).2).1,(dV f r (f t q).2).2)
def zbL (b:Str) (w:List Data) (f:Nat->Nat):Nat->Ty->Int->Nat->Val×Nat
 |0,_,_,p=>(.mk 0 0 [],p)
 |n+1,t,m,p=>
  if t.data = -1 then (.mk (-1) (zal b p 10) [],p+1)
  else (.mk (nth (zbX w f t m) (zal b p (zbX w f t m).length).toNat) 0 (dV (fun u q=>zbL b w f n u (m-1) q) (zab w t (nth (zbX w f t m) (zal b p (zbX w f t m).length).toNat)) (p+1)).1,
   (dV (fun u q=>zbL b w f n u (m-1) q) (zab w t (nth (zbX w f t m) (zal b p (zbX w f t m).length).toNat)) (p+1)).2)
abbrev dW (b:Str) (w:List Data) (n:Nat) (m:Int):Ty->Nat->Val×Nat:=fun u x=>zbL b w (zai w) n u (m-1) x
def bdV:Nat->Nat
 |0=>0
 |d+1=>1+3*bdV d
def szV:Nat->Nat
 |0=>1
 |d+1=>1+3*szV d
theorem zuz {f:Ty->Nat->Val×Nat}{k:Nat}:∀(l:List Ty) (q:Nat),(∀t∈l,∀q,(f t q).2<=q+k)->(dV f l q).2<=q+l.length*k
 | [],q,_=>by simp[dV]
 |t::r,q,h=>by
  have h1:=h t (by simp) q;have h2:=zuz r (f t q).2 (fun x hx=>h x (by simp[hx]));simp only[dV,xab,Nat.add_mul];omega
theorem zsA {f:Ty->Nat->Val×Nat}:∀(l:List Ty) (q:Nat),(dV f l q).1.length=l.length
 | [],q=>rfl
 |t::r,q=>by simp only[dV,xab,zsA r]
theorem zuA {f:Ty->Nat->Val×Nat}{k:Nat}:∀(l:List Ty) (q:Nat),(∀t∈l,∀q,(f t q).1.size<=k/\(f t q).1.ok)->Vals.size (dV f l q).1<=l.length*k/\Vals.ok (dV f l q).1
 | [],q,_=>by simp[dV,Vals.size,Vals.ok]
 |t::r,q,h=>by
  have h1:=h t (by simp) q;have h2:=zuA r (f t q).2 (fun x hx=>h x (by simp[hx]));simp only[dV,xab,Nat.add_mul,Vals.size,Vals.ok];exact⟨by omega,h1.2,h2.2⟩
theorem zjv {w:List Data}{f:Nat->Nat}{t:Ty}{m c:Int} (h:c∈zbX w f t m):c∈zap w t/\0<most w f t c/\((most w f t c:Int)<=m\/most w f t c=dv f t):=by
 have:=List.mem_filter.1 h;simpa [zes] using this
structure Deep (w:List Data) (n:Nat) (t:Ty) (m:Int):Prop where
 ins:InS (w.length*4) t
 pos:0<dv (zai w) t
 le:dv (zai w) t<=n
 ml:m<=n
theorem zpu {w:List Data} (hd:Dp w){n:Nat}{t:Ty}{m:Int} (h:Deep w n t m) (hne:¬t.data = -1):1<=(zbX w (zai w) t m).length:=by
 obtain⟨c,hc,h1,h2⟩:=zsU hd h.ins hne h.pos;exact List.length_pos_of_mem (a:=c) (List.mem_filter.2 ⟨hc,by have:=h.pos;simp[zes,h2,this]⟩)
theorem zpn {w:List Data} (hd:Dp w){n:Nat}{t:Ty}{m c:Int} (h:Deep w (n+1) t m) (hc:c∈zbX w (zai w) t m):∀u∈zab w t c,Deep w n u (m-1):=by
 intro u hu;obtain⟨h1,h2,h3⟩:=zjv hc;have hin:=zbR hd h.ins h1 u hu;have hs:=(zhz (f:=zai w) (l:=zab w t c) (m:=0) h2).2 u hu;have hlt:dv (zai w) u<most w (zai w) t c:=hs.2;have:=h.le;have:=h.ml;exact⟨hin,hs.1,by rcases h3 with h3|h3<;>omega,by omega⟩
theorem zoh {w:List Data} (hd:Dp w){n:Nat}{t:Ty}{m:Int} (h:Deep w n t m) (hne:¬t.data = -1) (b:Str) (p:Nat):nth (zbX w (zai w) t m) (zal b p (zbX w (zai w) t m).length).toNat∈zbX w (zai w) t m:=
 ziK (by have:=zpu hd h hne;omega)
theorem zit {b:Str}{w:List Data} (hd:Dp w) (hf:Few w):∀(n:Nat) (t:Ty) (m:Int) (p:Nat),Deep w n t m->(zbL b w (zai w) n t m p).2<=p+bdV n/\(zbL b w (zai w) n t m p).1.size<=szV n/\(zbL b w (zai w) n t m p).1.ok
 |0,t,m,p,h=>by have:=h.pos;have:=h.le;omega
 |n+1,t,m,p,h=>by
  simp only[zbL,bdV,szV];split
  ·refine⟨by dsimp only;omega, ?_, ?_⟩
   ·simp only[Val.size,Vals.size];omega
   ·simp[Val.ok,Vals.ok]
  ·rename_i hne;have hm:=zoh hd h hne b p;generalize nth (zbX w (zai w) t m) (zal b p (zbX w (zai w) t m).length).toNat=c at *;have hk:=zpn hd h hm;have h3:=(hf t c (zjv hm).1 (zcO h.ins)).1;have h1:=zuz (f:=fun u q=>zbL b w (zai w) n u (m-1) q) (k:=bdV n) (zab w t c) (p+1) (fun u hu q=>(zit hd hf n u (m-1) q (hk u hu)).1);have h2:=zuA (f:=fun u q=>zbL b w (zai w) n u (m-1) q) (k:=szV n) (zab w t c) (p+1) (fun u hu q=>(zit hd hf n u (m-1) q (hk u hu)).2);have h4:(zab w t c).length*bdV n<=3*bdV n:=Nat.mul_le_mul_right _ h3;have h5:(zab w t c).length*szV n<=3*szV n:=Nat.mul_le_mul_right _ h3;have h6:=zsA (f:=fun u q=>zbL b w (zai w) n u (m-1) q) (zab w t c) (p+1);refine⟨by dsimp only;omega, ?_, ?_⟩
   ·simp only[Val.size];omega
   ·simp only[Val.ok];exact⟨by omega,h2.2⟩
section
variable {b:Str}{w:List Data}{f:Nat->Nat}{n p:Nat}{t:Ty}{m:Int}
theorem zu8 (h:t.data = -1):zbL b w f (n+1) t m p=(.mk (-1) (zal b p 10) [],p+1):=by simp only[zbL];rw[if_pos h]
theorem zu9 (h:¬t.data = -1){c:Int} (hc:nth (zbX w f t m) (zal b p (zbX w f t m).length).toNat=c):zbL b w f (n+1) t m p =
  (.mk c 0 (dV (fun u q=>zbL b w f n u (m-1) q) (zab w t c) (p+1)).1,(dV (fun u q=>zbL b w f n u (m-1) q) (zab w t c) (p+1)).2):=by
 simp only[zbL];rw[if_neg h,hc]
end
theorem zig {b:Str}{w:List Data} (hb:b.length<=2000) (hd:Dp w) (hf:Few w):∀(n:Nat){a k m:Int}{p:Nat},Deep w n ⟨a,k⟩ m->(n:Int)-10<=m->n<=5->p+bdV n<=1000000->
  FnD Tryz.prog 189 [.ref 900 0,.d (zan w),.d (zjs (w.length*4) (zai w)),.agg [.d (.i a),.d (.i k)],.d (.i m)] [(900,some (rdB b p))]
   (.agg [.d (.i (zbL b w (zai w) n ⟨a,k⟩ m p).1.ctor),.d (.i (zbL b w (zai w) n ⟨a,k⟩ m p).1.num),.d (zbG (zbL b w (zai w) n ⟨a,k⟩ m p).1.kids)]) [(900,some (rdB b (zbL b w (zai w) n ⟨a,k⟩ m p).2))]
 |0,a,k,m,p,h,_,_,_=>by have:=h.pos;have:=h.le;omega
 |n+1,a,k,m,p,h,hm,hn5,hp=>by
  have ht:=zcO h.ins;have hml:=h.ml;have h4:=hd.four;have hbd:bdV (n+1)=1+3*bdV n:=rfl;have hfb:∀s,zai w s<=100000:=znq hd (k:=w.length*4+1) (s:=0) (by omega) (by omega) (pre:=[]) (by simp);have hcl:=zgS hd.wt ht;have hfl:(zbX w (zai w) ⟨a,k⟩ m).length<=(zap w ⟨a,k⟩).length:=List.length_filter_le _ _;have hflm:((((zap w ⟨a,k⟩).filter (zes w (zai w) ⟨a,k⟩ m)).map fun n=>[D.i n]).length:Int)=(zbX w (zai w) ⟨a,k⟩ m).length:=by rw[xac];rfl
  have hfp:=fun hne=>zpu hd h hne;have v14:=fun hh=>zbS (b:=b) (p:=p) (n:=((zbX w (zai w) ⟨a,k⟩ m).length:Int)) hh;have hmem:=fun hne=>zoh hd h hne b p;have hdm:=zu8 (b:=b) (w:=w) (f:=zai w) (n:=n) (p:=p) (t:=⟨a,k⟩) (m:=m);have hdm2:=fun hne=>zu9 (b:=b) (w:=w) (f:=zai w) (n:=n) (p:=p) (t:=⟨a,k⟩) (m:=m) hne rfl;generalize hcc:nth (zbX w (zai w) ⟨a,k⟩ m) (zal b p (zbX w (zai w) ⟨a,k⟩ m).length).toNat=cc at *;have hfm:=fun hne=>zjv (hmem hne);have hkid:=fun hne=>zpn hd h (hmem hne);have hfw:=fun hne=>(hf ⟨a,k⟩ cc (hfm hne).1 ht).1;have hok:=fun u q hu=>zit (b:=b) hd hf n u (m-1) q hu;have hat:¬a = -1->(((zap w ⟨a,k⟩).filter (zes w (zai w) ⟨a,k⟩ m)).map fun n=>[D.i n])[(zal b p (zbX w (zai w) ⟨a,k⟩ m).length).toNat]?=some [D.i cc]:=fun hne=>by
   rw[<-hcc];exact zat (l:=zbX w (zai w) ⟨a,k⟩ m) (by have:=v14 (by have:=hfp hne;omega);omega)
  refine bd Tryz.f189 98 [] [9,11] fun w0 F0 own kept hk=>?_;refine bx 3008 ?_;refine ab 3010 tz44 ?_;refine tv ?_;refine sq ?_ ?_<;>intro h1 h1p h1s<;>(try simp only[Q] at h1p);refine wd zbB (zaI (p:=p) (n:=10) hb (by omega) (by omega)) rfl rfl ⟨rfl,trivial⟩ ?_;refine bu [0,1] [_,_] st44 ?_;refine so ty44 ?_;refine tv ?_;refine rn [(900,some (rdB b (zbL b w (zai w) (n+1) ⟨a,k⟩ m p).2))] (.cons (.cellA ty44 rfl rfl rfl) .nil) (.agg (.cons (.eqd ?_) (.cons (.eqd ?_) (.cons (.nild ?_) .nil)))) ⟨rfl,rfl⟩ (SubO.get ⟨.inr ?_,⟨.inl rfl,trivial⟩⟩) (zax rfl);rotate_left 4;refine wc zim (zch hd.wt ht) rfl rfl ?_;refine ev ?_;refine xbi 5 sl62 .none rfl rfl ?_;refine ev ?_;refine xak (ι:=List (Int)×List (Int)) hk (fun x=>[(13,.d (.i (x.1.length:Int))),(12,.gl 5 ((x.1.filter (zes w (zai w) ⟨a,k⟩ m)).map fun n=>[D.i n]))]) [14,28,29,30,31,32,33,34,35,36,37,38,39,40,41,42,43,44,45,46,47,48,49,50,51,52,53,54,55,56,57,58,59,60,61,62] (fun x=>[(5,some (.tok (((x.1.filter (zes w (zai w) ⟨a,k⟩ m)).map fun n=>[D.i n])).length 1))]) (fun x=>x.1++x.2=zap w ⟨a,k⟩) (fun x=>x.2.length) ([],zap w ⟨a,k⟩) (by simp) ⟨⟨_,rfl,xar ?_⟩,⟨⟨_,rfl,LeA.glg ?_⟩,trivial⟩⟩ ⟨zaa ?_,trivial⟩ (fun x=>rfl) (fun x hg1=>?_);iterate 3 focus (rfl)
  obtain⟨pre,rest⟩:=x;dsimp only at hg1 ⊢;refine evc [] [9,11] ?_;refine sq ?_ ?_<;>intro h2 h2p h2s<;>(try simp only[Q] at h2p);rcases rest with _|⟨y,rest⟩
  ·exfalso;simp_all
  refine xaU sl62 .none rfl rfl rfl rfl (zaE hg1) rfl ?_;refine evd [] [] ?_;refine wc zuv (znz hd.wt ht (c:=y) (by rw[<-hg1];simp) (by omega) hfb (zbR hd h.ins (by rw[<-hg1];simp))) rfl rfl ?_;refine evd [] [] ?_;refine dr ?_;refine xam ?_;refine xaA 14 [(55,.d (.bool (zes w (zai w) ⟨a,k⟩ m y)))] [42,43,44,45,46,47,48,49,50,51,52,53,54] ?_ ?_;refine ev ?_;refine sq ?_ ?_<;>intro h3 h3p h3s<;>(try simp only[Q] at h3p);refine sq ?_ ?_<;>intro h4 h4p h4s<;>(try simp only[Q] at h4p);focus (exact jn rfl (xaq (by(unfold zes;rw[Bool.eq_iff_iff];simp_all;done))))
  refine Walk.call (cr:=[]) zhX (zd3 h.ins (by omega)) rfl (.some rfl rfl h4) rfl rfl (LeL.refl _) trivial rfl rfl rfl ?_;refine evs [] [(44,true),(48,false)] ?_ ⟨⟨_,rfl,h3⟩,⟨_,rfl,h4⟩,trivial⟩;focus (exact jn rfl (xaq (by(unfold zes;rw[Bool.eq_iff_iff];simp_all;omega))))
  focus (exact jn rfl (xaq (by(unfold zes;rw[Bool.eq_iff_iff];simp_all;done))))
  refine xaz ?_;refine tv ?_;refine sq ?_ ?_<;>intro h5 h5p h5s<;>(try simp only[Q] at h5p);refine xaU sl62 .none rfl rfl rfl rfl (zaE hg1) rfl ?_;refine ev ?_;refine si [0] [_] sl62 tz3 ?_;refine ap sl62 zz3 rfl rfl rfl (by simp) (by(have hz:=congrArg List.length hg1;have hq:=List.length_filter_le (zes w (zai w) ⟨a,k⟩ m) pre;simp at hz ⊢;omega)) ?_;refine ev ?_;refine ar ?_;refine xah ((pre++[y],rest)) ⟨(by have hz:=hg1;rw[<-hz];simp),(by simp),sx ⟨⟨_,rfl,xar ?_⟩,⟨⟨_,rfl,LeA.glg ?_⟩,trivial⟩⟩ ⟨zaa ?_,trivial⟩⟩;iterate 3 focus (first|(simp;done)|(rw[zpv (by assumption)];all_goals rfl)|(rw[zpv (by assumption)];simp;done))
  refine ar ?_;refine xah ((pre++[y],rest)) ⟨(by have hz:=hg1;rw[<-hz];simp),(by simp),sx ⟨⟨_,rfl,xar ?_⟩,⟨⟨_,rfl,LeA.glg ?_⟩,trivial⟩⟩ ⟨zaa ?_,trivial⟩⟩;iterate 3 focus (first|(simp;done)|(rw[zvc (by assumption)];all_goals rfl))
  have hrest:rest=[]:=by
   rcases rest with _|⟨a,b⟩
   ·rfl
   ·exfalso;have hz:=congrArg List.length (hg1);simp only[xaa,xab,xac] at hz;omega
  subst hrest;rw[List.append_nil] at hg1;subst hg1;refine evc [] [] ?_;refine wd zbB (zaI (p:=p) (n:=((((zap w ⟨a,k⟩).filter (zes w (zai w) ⟨a,k⟩ m)).map fun n=>[D.i n]).length:Int)) hb (by omega) (by omega)) rfl rfl ⟨rfl,trivial⟩ ?_;refine xaX (i:=(zal b p (zbX w (zai w) ⟨a,k⟩ m).length).toNat) sl62 .none rfl rfl rfl (by rw[hflm];have:=v14 (by have:=hfp (by omega);omega);omega) (hat (by omega)) rfl ?_;refine ev ?_;refine bu [0] [_] st44 ?_;refine ab 3015 tz44 ?_;refine so ty44 ?_;refine tv ?_;refine wc zg1 (zcy hd.wt ht (hfm (by omega)).1) rfl rfl ?_;refine ev ?_;refine xao 3015 2 1 3 rfl rfl rfl rfl ?_;refine xak (ι:=List (Ty)×List (Ty)×(Nat)×(List Val)) hk (fun x=>[(17,.d (.i (x.1.length:Int)))]) [76,77,78,79,80,81,82,83,84,85,86,87,88,89,90,91,92,93,94,95,96] (fun x=>[(900,some (.box [.d (zdi b),.d (.i (x.2.2.1:Int))])),(3015,some (.box [.d (.i cc),.d (.i 0),.gl 1 (x.2.2.2.map Val.cc)])),(1,some (.tok (x.2.2.2.map Val.cc).length 3))]) (fun x=>x.1++x.2.1=zab w ⟨a,k⟩ cc/\x.2.2.1<=p+1+x.1.length*bdV n/\x.2.2.2.length=x.1.length/\(x.2.2.2++(dV (dW b w n m) x.2.1 x.2.2.1).1,(dV (dW b w n m) x.2.1 x.2.2.1).2)=dV (dW b w n m) (zab w ⟨a,k⟩ cc) (p+1)) (fun x=>x.2.1.length) ([],zab w ⟨a,k⟩ cc,p+1,[]) ⟨by simp,by simp,by simp,by simp⟩ ⟨⟨_,rfl,xar ?_⟩,trivial⟩ ⟨?_,⟨?_,⟨zaa ?_,trivial⟩⟩⟩ (fun x=>rfl) (fun x hg2=>?_);focus (rfl)
  iterate 2 focus (first|rfl|(simp[getH];done))
  focus (rfl)
  obtain⟨pre,rest,q,ks⟩:=x;dsimp only at hg2 ⊢;refine evc [] [9,11] ?_;refine sq ?_ ?_<;>intro h6 h6p h6s<;>(try simp only[Q] at h6p);rcases rest with _|⟨y,rest⟩
  ·exfalso;simp_all
  have hfw3:=hfw (by omega);have hpm:pre.length*bdV n<=2*bdV n:=Nat.mul_le_mul_right _ (by have hz:=congrArg List.length hg2.1;have:=hfw (by omega);simp at hz;omega);refine xaU zaT .none rfl rfl rfl rfl (zaE hg2.1) rfl ?_;refine evd [] [] ?_;refine ar ?_;refine wd zpf (zig hb hd hf n (a:=y.data) (k:=y.index) (m:=m-1) (p:=q) (hkid (by omega) y (by rw[<-hg2.1];simp)) (by omega) (by omega) (by omega)) rfl rfl ⟨rfl,trivial⟩ ?_;refine si [0] [_] sl37 tz44 ?_;refine ap sl37 zz44 rfl rfl rfl (by simp) (by(have hz:=congrArg List.length hg2.1;have:=hfw (by omega);simp at hz ⊢;omega)) ?_;refine evd [] [] ?_;refine so ty37 ?_;refine dr ?_;refine ar ?_;refine xah ((pre++[y],rest,(zbL b w (zai w) n y (m-1) q).2,ks++[(zbL b w (zai w) n y (m-1) q).1])) ⟨⟨(by have hz:=hg2.1;rw[<-hz];simp),⟨(by have:=(hok y q (hkid (by omega) y (by rw[<-hg2.1];simp))).1;simp only[xaa,xab,xai,Nat.add_mul];omega),(by simp[hg2.2.2.1]),(by rw[<-hg2.2.2.2];simp[dV])⟩⟩,(by simp),sx ⟨⟨_,rfl,xar ?_⟩,trivial⟩ ⟨?_,⟨?_,⟨zaa ?_,trivial⟩⟩⟩⟩;focus ((simp;done))
  iterate 2 focus (first|rfl|(simp[getH];done))
  focus ((simp;done))
  have hrest:rest=[]:=by
   rcases rest with _|⟨a,b⟩
   ·rfl
   ·exfalso;have hz:=congrArg List.length (hg2.1);simp only[xaa,xab,xac] at hz;omega
  subst hrest;refine so ty44 ?_;refine tv ?_;refine rn [(900,some (rdB b (zbL b w (zai w) (n+1) ⟨a,k⟩ m p).2))] (.cons (.cellA ty44 rfl rfl rfl) .nil) (.agg (.cons (.eqd ?_) (.cons (.eqd ?_) (.cons (.gld ?_) .nil)))) ⟨rfl,rfl⟩ (SubO.get ⟨.inr ?_,⟨.inl rfl,trivial⟩⟩) (zax rfl);rotate_left 4;all_goals (((first|(rw[hdm (by omega)];all_goals rfl)|(rw[hdm2 (by omega)];have hfin:=hg2.2.2.2;simp only[dV,List.append_nil] at hfin;rw[<-hfin];all_goals first|rfl|(show _=D.sl (Val.cs _);rw[Val.cs_cc];all_goals rfl)|(show _=Val.cs _;rw[Val.cs_cc];all_goals rfl)));done))
def zfv (b:Str) (p:Nat):Ty:=⟨zal b (p+1) (za6 b p).length,numV b (p+2) [0,0,1,2]⟩
def typT (b:Str) (p:Nat):Ty:=if dv (zai (za6 b p)) (zfv b p)=0 then ⟨-1,0⟩ else zfv b p
def typV (b:Str) (p:Nat):Val×Nat:=zbL b (za6 b p) (zai (za6 b p)) 4 (typT b p) (numV b (p+3) [3,2,4,1]) (p+4)
theorem zwu {n:Nat}{a k:Int} (h1:0<=a) (h2:a<n) (h3:0<=k) (h4:k<=3):InS (n*4) ⟨a,k⟩:=by
 refine .inr ⟨?_, ?_⟩
 ·simp only[zcm];omega
 ·obtain⟨i,rfl⟩:=Int.eq_ofNat_of_zero_le h1;obtain⟨m,rfl⟩:=Int.eq_ofNat_of_zero_le h3;simp only[zcm,Int.toNat_natCast];exact zho (by omega)
theorem zvm (b:Str) (p:Nat):0<=numV b p [0,0,1,2]/\numV b p [0,0,1,2]<=3:=by
 have:=zpS (b:=b) (p:=p) (l:=[0,0,1,2]) (by simp);simp only[List.mem_cons,List.not_mem_nil,or_false] at this;omega
theorem zqd (b:Str) (p:Nat):InS ((za6 b p).length*4) (zfv b p):=by
 have h1:=zbS (b:=b) (p:=p+1) (n:=((za6 b p).length:Int)) (by have:=(zgg b p).one;omega);have h2:=zvm b (p+2);exact zwu h1.1 h1.2 h2.1 h2.2
theorem zkc (b:Str) (p:Nat):Deep (za6 b p) 4 (typT b p) (numV b (p+3) [3,2,4,1]):=by
 have hl:=zfy b p;have h4:=num4 b (p+3);unfold typT;split
 ·exact⟨.inl rfl,by simp[dv],by simp[dv],by omega⟩
 ·rename_i h;have:=zoP (f:=zai (za6 b p)) (b:=3) hl.low (by omega) (zfv b p);exact⟨zqd b p,by omega,by omega,by omega⟩
theorem zri (b:Str) (p:Nat):(typV b p).2<=p+44/\(typV b p).1.size<=121/\(typV b p).1.ok:=by
 have hl:=zfy b p;have h:=zit (b:=b) hl.dp hl.few 4 (typT b p) (numV b (p+3) [3,2,4,1]) (p+4) (zkc b p);have e1:bdV 4=40:=by decide
 have e2:szV 4=121:=by decide
 unfold typV;exact⟨by omega,by omega,h.2.2⟩
theorem zmL {b:Str}{p:Nat} (hb:b.length<=2000) (hp:p<=100000):
  FnD Tryz.prog 144 [.ref 900 0] [(900,some (rdB b p))] (.tup [.d (zan (za6 b p)),.agg [.d (.i (typT b p).data),.d (.i (typT b p).index)],.agg [.d (.i (typV b p).1.ctor),.d (.i (typV b p).1.num),.d (zbG (typV b p).1.kids)]]) [(900,some (rdB b (typV b p).2))]:=by
 have ho:=zgg b p;have hl:=zfy b p;have h4:=num4 b (p+3);have hin:=zqd b p;have hdeep:=zkc b p;have hT:typT b p=if dv (zai (za6 b p)) (zfv b p)=0 then ⟨-1,0⟩ else zfv b p:=rfl
 have hV:typV b p=zbL b (za6 b p) (zai (za6 b p)) 4 (typT b p) (numV b (p+3) [3,2,4,1]) (p+4):=rfl;have e1:bdV 4=40:=by decide
 have hwd:=zmK (p:=p) hb (by omega);have hpk:=zaI (b:=b) (p:=p+1) (n:=(((za6 b p).map Data.c).length:Int)) hb (by omega) (by have:=ho.small.len;simp;omega);rw[show zal b (p+1) (((za6 b p).map Data.c).length:Int)=(zfv b p).data by rw[xac];rfl] at hpk;have hnu:=zbs (b:=b) (p:=p+2) (l:=[0,0,1,2]) hb (by omega) (by simp) (by simp);rw[show numV b (p+2) [0,0,1,2]=(zfv b p).index from rfl] at hnu;have hdr:=fun(t:Ty) (h:Deep (za6 b p) 4 t (numV b (p+3) [3,2,4,1]))=>zig hb hl.dp hl.few 4 (a:=t.data) (k:=t.index) (p:=p+4) h (by omega) (by omega) (by omega);have hdp:=zd3 (f:=zai (za6 b p)) (a:=(zfv b p).data) (k:=(zfv b p).index) hin (by have:=hl.dp.four;omega);have htb:=zhG hl.dp;generalize za6 b p=w at *;generalize zfv b p=t0 at *;obtain⟨a0,k0⟩:=t0;have hdr2:=hdr ⟨-1,0⟩;have hdr3:=hdr ⟨a0,k0⟩;clear hdr;dsimp only at hT hV hdr2 hdr3;refine bd Tryz.f144 35 [] [] fun w0 F0 own kept hk=>?_;refine ab 3003 tz25 ?_;refine ab 3004 tz44 ?_;refine tv ?_;refine wd zv7 (hwd) rfl rfl ⟨rfl,trivial⟩ ?_;refine ev ?_;refine wc zum (htb) rfl rfl ?_;refine ev ?_;refine wd zbB (hpk) rfl rfl ⟨rfl,trivial⟩ ?_;refine ev ?_;refine si [0,1,2,3] [_,_,_,_] sl62 tz3 ?_;refine wd zdX (hnu) rfl rfl ⟨rfl,trivial⟩ ?_;refine bu [0,1] [_,_] st25 ?_;refine ab 3007 tz25 ?_;refine so ty25 ?_;refine tv ?_;refine wc zhX (hdp) rfl rfl ?_;refine ev ?_;refine sq ?_ ?_<;>intro h1 h1p h1s<;>(try simp only[Q] at h1p);have HDR:=hdr2 (by rw[if_pos (by omega)] at hT;rw[<-hT];exact hdeep);refine bu [0] [_] st25 ?_;refine so ty25 ?_;refine tv ?_;refine si [0,1,2,3] [_,_,_,_] sl62 tz3 ?_;refine wd zdX (zbs (b:=b) (p:=p+3) (l:=[3,2,4,1]) hb (by omega) (by simp) (by simp)) rfl rfl ⟨rfl,trivial⟩ ?_;refine wd zpf (HDR) rfl rfl ⟨rfl,trivial⟩ ?_;refine evd [] [] ?_;refine so ty25 ?_;refine so ty44 ?_;refine dr ?_;refine rn [(900,some (rdB b (typV b p).2))] (.cons (.tmp rfl) (.cons (.cellA ty25 rfl rfl rfl) (.cons (.cellA ty44 rfl rfl rfl) .nil))) (.tup (.cons (.eqd ?_) (.cons (.agg (.cons (.eqd ?_) (.cons (.eqd ?_) .nil))) (.cons (.agg (.cons (.eqd ?_) (.cons (.eqd ?_) (.cons (.eqd ?_) .nil)))) .nil)))) ⟨rfl,rfl⟩ (SubO.get ⟨.inr ?_,⟨.inl rfl,trivial⟩⟩) (zax rfl);rotate_left 7;have HDR:=hdr3 (by rw[if_neg (by omega)] at hT;rw[<-hT];exact hdeep);refine si [0,1,2,3] [_,_,_,_] sl62 tz3 ?_;refine wd zdX (zbs (b:=b) (p:=p+3) (l:=[3,2,4,1]) hb (by omega) (by simp) (by simp)) rfl rfl ⟨rfl,trivial⟩ ?_;refine wd zpf (HDR) rfl rfl ⟨rfl,trivial⟩ ?_;refine evd [] [] ?_;refine so ty25 ?_;refine so ty44 ?_;refine dr ?_;refine rn [(900,some (rdB b (typV b p).2))] (.cons (.tmp rfl) (.cons (.cellA ty25 rfl rfl rfl) (.cons (.cellA ty44 rfl rfl rfl) .nil))) (.tup (.cons (.eqd ?_) (.cons (.agg (.cons (.eqd ?_) (.cons (.eqd ?_) .nil))) (.cons (.agg (.cons (.eqd ?_) (.cons (.eqd ?_) (.cons (.eqd ?_) .nil)))) .nil)))) ⟨rfl,rfl⟩ (SubO.get ⟨.inr ?_,⟨.inl rfl,trivial⟩⟩) (zax rfl);rotate_left 7;all_goals (first|((first|(rw[if_pos (by omega)] at hT;rw[hV,hT];all_goals rfl)|(rw[if_neg (by omega)] at hT;rw[hV,hT];all_goals rfl)|(rw[if_pos (by omega)] at hT;rw[hT];all_goals rfl)|(rw[if_neg (by omega)] at hT;rw[hT];all_goals rfl)|rfl);done)|(first|(rw[if_pos (by omega)] at hT;rw[hV,hT];all_goals rfl)|(rw[if_neg (by omega)] at hT;rw[hV,hT];all_goals rfl)))
structure CaseW (w:List Data):Prop where
 small:WSmall w
 valid:za1 w=true
 one:1<=w.length
 ct:∀k:Int,k=0\/k=1\/k=2->1<=(zap w ⟨0,k⟩).length
theorem xaw:∀l:List Pat,l.length<=Pats.size l
 | []=>Nat.zero_le _
 |v::r=>by
  have:=xaw r;have h:=Pat.size_eq v;simp only[xab,Pats.size];omega
theorem zrd {x:Pat} (hx:x.ok):∀ {l:List Pat}{i:Nat},Pats.ok l->Pats.ok (l.set i x)
 | [],_,_=>by simp[Pats.ok]
 |y::r,0,h=>⟨hx,h.2⟩
 |y::r,i+1,h=>⟨h.1,zrd hx h.2⟩
theorem zqC {x:Pat} (hx:x.ok):∀ {l:List Pat},Pats.ok l->Pats.ok (l++[x])
 | [],_=>⟨hx,trivial⟩
 |y::r,h=>⟨h.1,zqC hx h.2⟩
theorem zre {x:Pat}:∀ {l:List Pat}{i:Nat},Pats.size (l.set i x)<=Pats.size l+x.size
 | [],_=>by simp[Pats.size]
 |y::r,0=>by simp only[List.set_cons_zero,Pats.size];omega
 |y::r,i+1=>by have:=zre (x:=x) (l:=r) (i:=i);simp only[List.set_cons_succ,Pats.size];omega
theorem zvj {b:Str}{p:Pat}{q:Nat} (hs:p.size<=1000) (hok:p.ok):(mutP b p q).1.size<=2000/\(mutP b p q).1.ok:=by
 have hv:zcY.size=1/\zcY.ok:=⟨by rw[Pat.size_eq];rfl,by rw[Pat.ok_iff];exact⟨by simp[zcY,Pat.kids],trivial⟩⟩;have h0:=Pat.size_eq p;rw[Pat.ok_iff] at hok;have same:∀a c n m v:Int,(Pat.mk a c n m v p.kids).size<=2000/\(Pat.mk a c n m v p.kids).ok:=fun a c n m v=>by
  refine⟨by rw[Pat.size_eq];show 1+Pats.size p.kids<=_;omega,by rw[Pat.ok_iff];exact hok⟩
 unfold mutP;split;exact same _ _ _ _ _
 split;exact same _ _ _ _ _
 split;exact same _ _ _ _ _
 split
 ·refine⟨?_, ?_⟩
  ·dsimp only;rw[Pat.size_eq];show 1+Pats.size (p.kids++[zcY])<=_;rw[xax];omega
  ·dsimp only;rw[Pat.ok_iff];refine⟨?_,zqC hv.2 hok.2⟩;show(p.kids++[zcY]).length<=_
   have:=xaw p.kids;simp only[xaa,List.length_singleton];omega
 split
 ·refine⟨?_, ?_⟩
  ·dsimp only;rw[Pat.size_eq];show 1+Pats.size (p.kids.set 0 zcY)<=_;have:=zre (x:=zcY) (l:=p.kids) (i:=0);omega
  ·dsimp only;rw[Pat.ok_iff];exact⟨by show(p.kids.set 0 zcY).length<=_;rw[List.length_set];exact hok.1,zrd hv.2 hok.2⟩
 split;exact same _ _ _ _ _
 exact same _ _ _ _ _
def typP (b:Str) (p:Nat):Pat:=zcw b (za6 b p) (typT b p) (typV b p).2
def typQ (b:Str) (p:Nat):Nat:=(zc8 b (za6 b p) (typT b p) (typV b p).2).2.2
theorem znF (b:Str) (p:Nat):TyIn (za6 b p).length (typT b p):=zcO (zkc b p).ins
theorem znE (b:Str) (p:Nat):(typP b p).size<=242/\(typP b p).ok/\typQ b p<=p+600:=by
 have hl:=zfy b p;have h1:=zmz (b:=b) hl.few (znF b p) (typV b p).2;have h2:=zjV (b:=b) hl.few (znF b p) (typV b p).2;have h3:=zri b p;exact⟨h1.1,h1.2,by unfold typQ;omega⟩
theorem zmP {b:Str}{p:Nat} (hb:b.length<=2000) (hp:p<=10000):
  FnD Tryz.prog 89 [.ref 900 0] [(900,some (rdB b p))] (.tup [.d (zan (za6 b p)),.agg [.d (.i (typT b p).data),.d (.i (typT b p).index)],
   .agg [.d (.i (typP b p).op),.d (.i (typP b p).ctor),.d (.i (typP b p).n),.d (.i (typP b p).m),.d (.i (typP b p).var),.d (zaj (typP b p).kids)],
   .agg [.d (.i (typV b p).1.ctor),.d (.i (typV b p).1.num),.d (zbG (typV b p).1.kids)]]) [(900,some (rdB b (typQ b p)))]:=by
 have hl:=zfy b p;have hv:=zri b p;have ht:=znF b p;have hty:=zmL (p:=p) hb (by omega);have hsm:=zii hb hl.dp.wt hl.few (a:=(typT b p).data) (k:=(typT b p).index) (p:=(typV b p).2) (by omega) ht;refine bd Tryz.f89 22 [] [] fun w0 F0 own kept hk=>?_;refine ab 3003 tz25 ?_;refine ab 3004 tz28 ?_;refine ab 3005 tz44 ?_;refine tv ?_;refine wd zvU (hty) rfl rfl ⟨rfl,trivial⟩ ?_;refine ev ?_;refine ab 3007 tz25 ?_;refine ab 3008 tz44 ?_;refine ev ?_;refine so ty25 ?_;refine so ty44 ?_;refine tv ?_;refine wd zur (hsm) rfl rfl ⟨rfl,trivial⟩ ?_;refine evd [] [] ?_;refine so ty25 ?_;refine so ty28 ?_;refine so ty44 ?_;refine dr ?_;refine rn [(900,some (rdB b (typQ b p)))] (.cons (.tmp rfl) (.cons (.cellA ty25 rfl rfl rfl) (.cons (.cellA ty28 rfl rfl rfl) (.cons (.cellA ty44 rfl rfl rfl) .nil)))) (.tup (.cons (.eqd ?_) (.cons (.agg (.cons (.eqd ?_) (.cons (.eqd ?_) .nil))) (.cons (.agg (.cons (.eqd ?_) (.cons (.eqd ?_) (.cons (.eqd ?_) (.cons (.eqd ?_) (.cons (.eqd ?_) (.cons (.eqd ?_) .nil))))))) (.cons (.agg (.cons (.eqd ?_) (.cons (.eqd ?_) (.cons (.eqd ?_) .nil)))) .nil))))) ⟨rfl,rfl⟩ (SubO.get ⟨.inr ?_,⟨.inl rfl,trivial⟩⟩) (zax rfl);rotate_left 13;all_goals (first|((rfl);done)|(rfl))
def pvQ (b:Str):Nat:=if zal b (typQ b 0) 10=0 then (zd2 b (typQ b 0+1) (za6 b 0).length).2 else typQ b 0+1
def pvT (b:Str):Ty:=if zal b (typQ b 0) 10=0 then (zd2 b (typQ b 0+1) (za6 b 0).length).1 else typT b 0
def pvW (b:Str):List Data:=(mutW b (pvQ b) (za6 b 0)).1
def pvP (b:Str):Pat:=(mutP b (typP b 0) (mutW b (pvQ b) (za6 b 0)).2).1
theorem zwF (b:Str):pvQ b<=700:=by
 have h1:=(znE b 0).2.2;have h2:=zt7 b (typQ b 0+1) (za6 b 0).length;unfold pvQ;split<;>omega
theorem zs4 (b:Str):WSmall (pvW b):=zrK b 0 (pvQ b)
theorem zwE (b:Str):(pvP b).size<=2000/\(pvP b).ok:=by
 have h:=znE b 0;exact zvj (by omega) h.2.1
theorem zhl {b:Str} (hb:b.length<=1000000000000):
  FnD Tryz.prog 73 [.d (zdi b)] [] (.tup [.d (zan (pvW (b.take 2000))),.agg [.d (.i (pvT (b.take 2000)).data),.d (.i (pvT (b.take 2000)).index)],
   .agg [.d (.i (pvP (b.take 2000)).op),.d (.i (pvP (b.take 2000)).ctor),.d (.i (pvP (b.take 2000)).n),.d (.i (pvP (b.take 2000)).m),.d (.i (pvP (b.take 2000)).var),.d (zaj (pvP (b.take 2000)).kids)]]) []:=by
 have hop:=zhF hb;have hb2:(b.take 2000).length<=2000:=by rw[List.length_take];omega
 generalize b.take 2000=e at *;have ho:=zgg e 0;have hpo:=znE e 0;have hbq:=zwF e;have hmb:=zvk e (pvQ e) (za6 e 0);have hty:=zmP (p:=0) hb2 (by omega);have hpk:=zaI (p:=typQ e 0) (n:=10) hb2 (by omega) (by omega);have hso:=znB (p:=typQ e 0+1) (w:=za6 e 0) hb2 (by omega) ho.small.len;have hmu:=fun q (h:q=pvQ e)=>zlq (p:=q) hb2 (by omega) ho.small ho.one;have hmp:=zls (q:=(mutW e (pvQ e) (za6 e 0)).2) hb2 (by omega) hpo.2.1;have hQ:pvQ e=if zal e (typQ e 0) 10=0 then (zd2 e (typQ e 0+1) (za6 e 0).length).2 else typQ e 0+1:=rfl
 have hT:pvT e=if zal e (typQ e 0) 10=0 then (zd2 e (typQ e 0+1) (za6 e 0).length).1 else typT e 0:=rfl
 have hW:pvW e=(mutW e (pvQ e) (za6 e 0)).1:=rfl;have hP:pvP e=(mutP e (typP e 0) (mutW e (pvQ e) (za6 e 0)).2).1:=rfl;generalize pvQ e=q0 at *;generalize pvT e=t0 at *;generalize pvW e=w1 at *;generalize pvP e=p1 at *;refine bd Tryz.f73 32 [] [] fun w0 F0 own kept hk=>?_;refine ab 3003 tz25 ?_;refine ab 3004 tz28 ?_;refine tv ?_;refine Walk.call (cr:=[900]) zrn (hop) rfl .none rfl rfl (LeL.refl _) trivial rfl (by rfl) (by rfl) ?_;refine ev ?_;refine wd zwS (hty) rfl rfl ⟨rfl,trivial⟩ ?_;refine ev ?_;refine ab 3007 tz25 ?_;refine ab 3008 tz28 ?_;refine ab 3009 tz44 ?_;refine ev ?_;refine so ty25 ?_;refine so ty28 ?_;refine so ty44 ?_;refine tv ?_;refine wd zbB (hpk) rfl rfl ⟨rfl,trivial⟩ ?_;refine ev ?_;refine sq ?_ ?_<;>intro h1 h1p h1s<;>(try simp only[Q] at h1p);rw[if_pos (by omega)] at hQ hT;subst hQ;have HMU:=hmu _ rfl;refine wd zvS (hso) rfl rfl ⟨rfl,trivial⟩ ?_;refine so ty25 ?_;refine tv ?_;refine wd zr8 (HMU) rfl rfl ⟨rfl,trivial⟩ ?_;refine evd [] [] ?_;refine wd zut (hmp) rfl rfl ⟨rfl,trivial⟩ ?_;refine evd [] [] ?_;refine so ty25 ?_;refine so ty28 ?_;refine dr ?_;refine rn0 (.cons (.tmp rfl) (.cons (.cellA ty25 rfl rfl rfl) (.cons (.cellA ty28 rfl rfl rfl) .nil))) (.tup (.cons (.eqd ?_) (.cons (.agg (.cons (.eqd ?_) (.cons (.eqd ?_) .nil))) (.cons (.agg (.cons (.eqd ?_) (.cons (.eqd ?_) (.cons (.eqd ?_) (.cons (.eqd ?_) (.cons (.eqd ?_) (.cons (.eqd ?_) .nil))))))) .nil))));rotate_left 9;rw[if_neg (by omega)] at hQ hT;subst hQ;have HMU:=hmu _ rfl;refine wd zr8 (HMU) rfl rfl ⟨rfl,trivial⟩ ?_;refine evd [] [] ?_;refine wd zut (hmp) rfl rfl ⟨rfl,trivial⟩ ?_;refine evd [] [] ?_;refine so ty25 ?_;refine so ty28 ?_;refine dr ?_;refine rn0 (.cons (.tmp rfl) (.cons (.cellA ty25 rfl rfl rfl) (.cons (.cellA ty28 rfl rfl rfl) .nil))) (.tup (.cons (.eqd ?_) (.cons (.agg (.cons (.eqd ?_) (.cons (.eqd ?_) .nil))) (.cons (.agg (.cons (.eqd ?_) (.cons (.eqd ?_) (.cons (.eqd ?_) (.cons (.eqd ?_) (.cons (.eqd ?_) (.cons (.eqd ?_) .nil))))))) .nil))));rotate_left 9;all_goals (first|(rw[hT];all_goals rfl)|(rw[hW];all_goals rfl)|(rw[hP];all_goals rfl))
def shal (p:Pat):Prop:=p.op=1\/p.op=3\/∃c l,p=zbW c l/\∀k∈l,k=anyQ
def zoT (p:Pat):Prop:=p.op=1\/p.op=3\/∃c l,p=zbW c l/\∀k∈l,shal k
def PosP (K:Pat->Prop):Prop:=(∀k,K k->shal k)\/∃x,zoT x/\¬shal x/\∀k,K k->k=x
theorem zt6:shal anyQ:= .inl rfl
theorem zwG {p:Pat} (h:shal p):zoT p:=by
 rcases h with h|h|⟨c,l,h1,h2⟩
 ·exact .inl h
 ·exact .inr (.inl h)
 ·exact .inr (.inr ⟨c,l,h1,fun k hk=>by rw[h2 k hk];exact zt6⟩)
theorem PosP.two {K:Pat->Prop} (h:PosP K){k:Pat} (hk:K k):zoT k:=by
 rcases h with h|⟨x,h1,_,h2⟩
 ·exact zwG (h k hk)
 ·rw[h2 k hk];exact h1
theorem PosP.one {K:Pat->Prop} (h:∀k k',K k->K k'->k=k') (h2:∀k,K k->zoT k):PosP K:=by
 by_cases hx:∃k,K k/\¬shal k
 ·obtain⟨k,h3,h4⟩:=hx;exact .inr ⟨k,h2 k h3,h4,fun k' h5=>h k' k h5 h3⟩
 ·exact .inl fun k hk=>Classical.byContradiction fun h3=>hx ⟨k,hk,h3⟩
section
variable {w:List Data} (hs:Spa w)
include hs
end
def Dr:Nat->Pat->Prop
 |0,p=>p=anyQ
 |n+1,p=>p=anyQ\/(p.op=3/\p.kids=[])\/(p.op=5/\p.kids.length=2/\∀k∈p.kids,Dr n k)\/(p.op=4/\∀k∈p.kids,Dr n k)
theorem Dr.any (n:Nat):Dr n anyQ:=by cases n<;>simp[Dr]
theorem Dr.up:∀(n:Nat){p:Pat},Dr n p->Dr (n+1) p
 |0,p,h=> .inl h
 |n+1,p,h=>by
  rcases h with h|h|⟨h1,h2,h3⟩|⟨h1,h2⟩
  ·exact .inl h
  ·exact .inr (.inl h)
  ·exact .inr (.inr (.inl ⟨h1,h2,fun k hk=>Dr.up n (h3 k hk)⟩))
  ·exact .inr (.inr (.inr ⟨h1,fun k hk=>Dr.up n (h2 k hk)⟩))
theorem Dr.le {n m:Nat} (h:n<=m){p:Pat} (hp:Dr n p):Dr m p:=by
 induction h with
 |refl=>exact hp
 |step _ ih=>exact Dr.up _ ih
structure NamB (p r:Pat):Prop where
 bare:zaO r=p
 kids:(∀k∈r.kids,zaO k∈p.kids)\/(r.op=6/\r.kids.length=1)
theorem zi2 {w:List Data}{t:Ty}{p:Pat}{v:Val}{m:Nat} (h:zas w 10 t p=true) (hv:zaC w m t v=true) (e:za0 p=zaz (zaO p)):(za0 p).any (fun x=>hitP x v)=(zav 10 p v).2:=by
 rw[e,Bool.eq_iff_iff,zeI 10 m h hv,List.any_eq_true]
theorem zrE {w:List Data}{a k:Int}{p:Pat}{v:Val} (h1:zbm w ⟨a,k⟩=true) (h2:isP w ⟨a,k⟩ p=true) (hv:isV w ⟨a,k⟩ v=true):(zfJ w a k p v).2=(zav 10 p v).2:=by
 have hp:zaW w a k p=true:=by unfold zaW;rw[h1,h2];rfl
 unfold zfJ;rw[if_pos ⟨hp,hv⟩,zqo]
theorem ztI {w:List Data}{t:Ty}{v:Val} (hv:isV w t v=true):zaC w 10 t v=true:=by unfold isV at hv;rw[xad] at hv;exact hv.1
theorem znn {w:List Data}{a k:Int}{p q:Pat}{z:List Pat} (h:meV w a k p q=some z):zeU w a k p q=true/\sepV w ⟨a,k⟩ (zc5 (za0 p) (za0 q))=some z/\z.all (isP w ⟨a,k⟩)=true:=by
 cases h2:zeU w a k p q with
 |false=>rw[zsR h2] at h;cases h
 |true=>
  cases h3:sepV w ⟨a,k⟩ (zc5 (za0 p) (za0 q)) with
  |none=>rw[zuC h2 h3] at h;cases h
  |some r=>
   rw[zuD h2 h3] at h;split at h
   ·cases h;exact⟨rfl,rfl,by assumption⟩
   ·cases h
theorem zsS {w:List Data}{t:Ty}{xs ys:List Pat}{v:Val}{m:Nat} (hx:∀x∈xs,zak w 10 t x=true) (hy:∀y∈ys,zak w 10 t y=true) (hv:zaC w m t v=true):(zc5 xs ys).any (fun x=>hitP x v)=(xs.any (fun x=>hitP x v)&&ys.any (fun x=>hitP x v)):=by
 rw[Bool.eq_iff_iff,xad,List.any_eq_true,List.any_eq_true,List.any_eq_true];constructor
 ·rintro ⟨z,hz,hh⟩
  obtain⟨x,h1,y,h2,h3⟩:=zjJ.1 hz;have:=ziH 10 m (hx x h1) (hy y h2) hv 10 (Nat.le_refl _);rw[h3] at this;dsimp only at this;rw[this,xad] at hh;exact⟨⟨x,h1,hh.1⟩,⟨y,h2,hh.2⟩⟩
 ·rintro ⟨⟨x,h1,h2⟩,⟨y,h3,h4⟩⟩
  have:=ziH 10 m (hx x h1) (hy y h3) hv 10 (Nat.le_refl _);cases hm:zaK 10 x y with
  |none=>rw[hm] at this;dsimp only at this;rw[h2,h4] at this;cases this
  |some z=>
   rw[hm] at this;dsimp only at this;exact⟨z,zjJ.2 ⟨x,h1,y,h3,hm⟩,by rw[this,h2,h4];rfl⟩
theorem zq2 {w:List Data} (hs:WSmall w){a k:Int}{p q:Pat}{z:List Pat}{v:Val}{m:Nat} (h:meV w a k p q=some z) (hv:zaC w m ⟨a,k⟩ v=true):z.countP (fun x=>hitP x v)=one ((zav 10 p v).2&&(zav 10 q v).2):=by
 obtain⟨h2,h3,h5⟩:=znn h;obtain⟨hsp,hin,t1,t2,s1,s2,e1,e2,_⟩:=zhL hs h2;rw[zrb hsp hin hv _ [] [] (by simp) (ziI t1 t2) h3,zsS t1 t2 hv,zi2 s2 hv e2,zi2 s1 hv e1];simp only[List.countP_nil,List.any_nil,Nat.zero_add];rfl
theorem zsQ {w:List Data} (hs:WSmall w){a k:Int}{p q:Pat}{z:List Pat} (h:meV w a k p q=some z):∀x∈z,zak w 11 ⟨a,k⟩ x=true/\isP w ⟨a,k⟩ x=true/\∃m v,zaC w m ⟨a,k⟩ v=true/\hitP x v=true:=by
 obtain⟨h2,h3,h5⟩:=znn h;obtain⟨hsp,hin,t1,t2,s1,s2,e1,e2,_⟩:=zhL hs h2;intro x hx;obtain⟨p1,_,p2⟩:=zrc (S:=fun _=>True) (fun _ _ _ _ _ _=>trivial) _ [] [] (by simp) (fun b hb=>⟨ziI t1 t2 b hb,trivial⟩) (by simp) h3 x hx;obtain⟨m,v,h6,h7⟩:=znH hsp 11 hin p1 (by unfold zcz at p2;simpa using p2);exact⟨p1,List.all_eq_true.1 h5 x hx,m,v,h6,h7⟩
theorem zfP {w:List Data} (hd:Dp w):∀(n m:Nat){t:Ty}{p:Pat}{v:Val},zas w n t p=true->InS (w.length*4) t->zaQ w (zai w) n t p=true->zaC w m t v=true->(zav n p v).2=false
 |0,m,t,p,v,h,_,_,_=>by simp[zas] at h
 |n+1,0,t,p,v,_,_,_,h=>by simp[zaC] at h
 |n+1,m+1,t,p,v,h,ht,he,hv=>by
  rcases zeh h with h1|h1|h3|h4|h5|h6
  ·rw[zbe,if_pos (.inl h1)] at he;have:=of_decide_eq_true he;have:=znd hd ht hv;omega
  ·rw[zbe,if_pos (.inr h1)] at he;have:=of_decide_eq_true he;have:=znd hd ht hv;omega
  ·rw[zpp h3 (zfr h (by omega) (by omega) (by omega))] at he;cases he
  ·have hs:=h;unfold zas at hs;rw[xad,zbh h4] at hs;have hl:=zeH hs.2;have hm:=zbK hs.1 h4;have hdt:t.data≠ -1:=fun e=>by unfold zap at hm;rw[if_pos e] at hm;simp at hm
   obtain⟨f1,f2,f3⟩:=zdB hv hdt;by_cases hc:p.ctor=v.ctor
   ·rw[zfM h4 hc];cases hx:(zbl (zav n) p.kids v.kids []).2 with
    |false=>rfl
    |true=>
     exfalso;have hlen:p.kids.length=v.kids.length:=by rw[hc] at hl;omega
     have hall:=(zgD hlen).1 hx;rw[zbe,if_neg (by omega),if_neg (by omega),zbh h4] at he;have ha:all2 (fun u q=> !zaQ w (zai w) n u q) (zab w t p.ctor) p.kids=true:=zb4 hl (fun i hi=>by
      cases hq:zaQ w (zai w) n (nth (zab w t p.ctor) i) (nth p.kids i) with
      |false=>rfl
      |true=>
       have h8:=zfP hd n m (zdE hl hs.2 i hi) (zbR hd ht hm _ (zah hi)) hq (by rw[hc];exact f3 i (by omega));rw[hall i (by omega)] at h8;cases h8)
     rw[ha] at he;cases he
   ·rw[zfN h4 hc]
  ·obtain⟨k1,k2,k3⟩:=zei h h5;rw[zbe,if_neg (by omega),if_pos h5,xad] at he;have e1:=zfP hd n (m+1) k2 ht he.1 hv;rw[zeZ h5 e1];exact zfP hd n (m+1) k3 ht he.2 hv
  ·obtain⟨k1,k2⟩:=zc9 h h6;rw[zk5 h6 k1] at he;rw[zev h6];exact zfP hd n (m+1) k2 ht he hv
theorem zmb {w:List Data}{n:Nat}:∀ {us:List Ty}{ps:List Pat},us.length=ps.length->(∀i,i<ps.length->∃m v,zaC w m (nth us i) v=true/\(zav n (nth ps i) v).2=true)->∃m l,all2 (zaC w m) us l=true/\l.length=ps.length/\∀i,i<ps.length->(zav n (nth ps i) (nth l i)).2=true
 | [],[],_,_=>⟨0,[],rfl,rfl,fun i hi=>absurd hi (by simp)⟩
 |u::us,p::ps,hl,h=>by
  obtain⟨m1,v,h1,h2⟩:=h 0 (by simp);obtain⟨m2,l,h3,h4,h5⟩:=zmb (us:=us) (ps:=ps) (by simpa using hl) (fun i hi=>h (i+1) (by simpa using hi));refine⟨max m1 m2,v::l, ?_,by simp[h4],fun i hi=>?_⟩
  ·simp only[all2,xad];exact⟨zg6 (Nat.le_max_left _ _) h1,zfC (fun x _ y _ hxy=>zg6 (Nat.le_max_right _ _) hxy) h3⟩
  ·cases i with
   |zero=>exact h2
   |succ i=>exact h5 i (by simpa using hi)
 | [],_::_,h,_=>by simp at h
 |_::_,[],h,_=>by simp at h
theorem zhj {w:List Data} (hd:Dp w):∀(n:Nat){t:Ty}{p:Pat},zas w n t p=true->InS (w.length*4) t->zaQ w (zai w) n t p=false->∃m v,zaC w m t v=true/\(zav n p v).2=true
 |0,t,p,h,_,_=>by simp[zas] at h
 |n+1,t,p,h,ht,he=>by
  rcases zeh h with h1|h1|h3|h4|h5|h6
  ·rw[zbe,if_pos (.inl h1)] at he;have:=of_decide_eq_false he;obtain⟨m,v,hv⟩:=znb hd ht (by omega);exact⟨m,v,hv,by rw[zfK h1]⟩
  ·rw[zbe,if_pos (.inr h1)] at he;have:=of_decide_eq_false he;obtain⟨m,v,hv⟩:=znb hd ht (by omega);exact⟨m,v,hv,by rw[zfL h1]⟩
  ·have ho:=(zbo h).1;unfold ownP at ho;have hi:=(of_decide_eq_true ho).2.2.2.2;refine⟨1,⟨-1,p.n,[]⟩, ?_, ?_⟩
   ·unfold zaC;rw[if_pos (by omega)];simp only[xad,decide_eq_true_eq];exact⟨rfl,by show 0<=p.n;omega,by show p.n<=9;omega,rfl⟩
   ·rw[ze6 h3];show zar p.n p.n p.m=true
    unfold zar;rw[xad,decide_eq_true_eq,decide_eq_true_eq];omega
  ·have hs:=h;unfold zas at hs;rw[xad,zbh h4] at hs;have hl:=zeH hs.2;have hm:=zbK hs.1 h4;have hdt:t.data≠ -1:=fun e=>by unfold zap at hm;rw[if_pos e] at hm;simp at hm
   rw[zbe,if_neg (by omega),if_neg (by omega),zbh h4] at he;have ha:all2 (fun u q=> !zaQ w (zai w) n u q) (zab w t p.ctor) p.kids=true:=by simpa using he
   obtain⟨m,l,h5,h6,h7⟩:=zmb (n:=n) (us:=zab w t p.ctor) (ps:=p.kids) hl (fun i hi=>by
    have h8:=zdE hl ha i (by omega);exact zhj hd n (zdE hl hs.2 i (by omega)) (zbR hd ht hm _ (zah (by omega))) (by simpa using h8))
   refine⟨m+1,⟨p.ctor,0,l⟩, ?_, ?_⟩
   ·unfold zaC;rw[if_neg hdt,if_pos ⟨rfl,zov hm⟩];exact h5
   ·rw[zfM h4 rfl];exact(zgD h6.symm).2 h7
  ·obtain⟨k1,k2,k3⟩:=zei h h5;rw[zbe,if_neg (by omega),if_pos h5] at he;cases e0:zaQ w (zai w) n t (nth p.kids 0) with
   |false=>
    obtain⟨m,v,h7,h8⟩:=zhj hd n k2 ht e0;exact⟨m,v,h7,by rw[zeY h5 h8]⟩
   |true=>
    rw[e0,Bool.true_and] at he;obtain⟨m,v,h7,h8⟩:=zhj hd n k3 ht he;refine⟨m,v,h7, ?_⟩;cases e2:(zav n (nth p.kids 0) v).2 with
    |true=>rw[zeY h5 e2]
    |false=>rw[zeZ h5 e2];exact h8
  ·obtain⟨k1,k2⟩:=zc9 h h6;rw[zk5 h6 k1] at he;obtain⟨m,v,h7,h8⟩:=zhj hd n k2 ht he;exact⟨m,v,h7,by rw[zev h6];exact h8⟩
theorem zsE {w:List Data} (hs:WSmall w){a k:Int}{p:Pat}{z:List Pat} (h:meV w a k p p=some z):zdu w a k p=decide (z.length=0):=by
 obtain⟨h2,h3,h5⟩:=znn h;obtain⟨hsp,hin,t1,t2,s1,s2,e1,e2,tv,i1,i2⟩:=zhL hs h2;have hp:zaW w a k p=true:=by unfold zaW;rw[tv,i1];rfl
 unfold zdu;rw[hp,Bool.true_and];cases he:zaQ w (zai w) 10 ⟨a,k⟩ p with
 |true=>
  cases z with
  |nil=>rfl
  |cons x r=>
   exfalso;obtain⟨_,_,m,v,h6,h7⟩:=zsQ hs h x (by simp);have h8:=zq2 hs h h6;have h9:0<(x::r).countP (fun y=>hitP y v):=List.countP_pos_iff.2 ⟨x,by simp,h7⟩;rw[h8,zfP hsp.dp 10 m s1 hin he h6] at h9;simp[one] at h9
 |false=>
  obtain⟨m,v,h6,h7⟩:=zhj hsp.dp 10 s1 hin he;have h8:=zq2 hs h h6;rw[h7] at h8;cases z with
  |nil=>simp[one] at h8
  |cons x r=>rfl
theorem zqj {w:List Data} (hs:WSmall w){a k:Int}{p:Pat}{v:Val} (he:zdu w a k p=true) (hv:isV w ⟨a,k⟩ v=true):(zfJ w a k p v).2=false:=by
 unfold zdu at he;rw[xad] at he;have hpv:=he.1;unfold zaW at hpv;rw[xad] at hpv;have hshape:zas w 10 ⟨a,k⟩ p=true:=by have:=hpv.2;unfold isP at this;rw[xad] at this;exact this.1
 have hin:InS (w.length*4) ⟨a,k⟩:=by
  obtain⟨_,_,h3⟩:=zb2 hpv.1;by_cases ha:a = -1
  ·exact .inl ha
  ·obtain⟨h4,h5,h6,h7⟩:=h3 ha;have:=zjC (n:=w.length) h5 (j:=k.toNat) (by omega);rwa [Int.toNat_of_nonneg h4,Int.toNat_of_nonneg h6] at this
 rw[zrE hpv.1 hpv.2 hv];exact zfP (ziS hs (zb2 hpv.1).1).dp 10 10 hshape hin he.2 (ztI hv)
def w5:List Data:=(zcQ (nth zcT 5)).1
theorem zo0:WorldD w5:=by
 have h:=List.all_eq_true.1 zm0 5 (List.mem_range.2 (by decide));simp only[xad,decide_eq_true_eq] at h;exact⟨zmy h.1,(zmy h.1).small (by omega),h.2.1,h.2.2⟩
theorem zwJ:w5.length=2:=by
 have h:Nat.beq w5.length 2=true:=by kernel_rfl
 exact Nat.eq_of_beq_eq_true h
def emT5 (b:Str):Ty:=⟨zal b 1 2,0⟩
def emW (b:Str):List Data:=if zal b 0 3=0 then w5 else pvW b
def emT (b:Str):Ty:=if zal b 0 3=0 then emT5 b else pvT b
def emP (b:Str):Pat:=if zal b 0 3=0 then zcw b w5 (emT5 b) 2 else pvP b
theorem zqR (b:Str):TyIn w5.length (emT5 b):=by
 have h:=zbS (b:=b) (p:=1) (n:=2) (by omega);refine .inr ⟨(zal b 1 2).toNat, ?_, ?_⟩
 ·show zal b 1 2=_;omega
 ·rw[zwJ];omega
theorem zsD (b:Str):WSmall (emW b):=by
 unfold emW;split
 ·exact zo0.small
 ·exact zs4 b
theorem zwq (b:Str):(emP b).size<=2000/\(emP b).ok:=by
 unfold emP;split
 ·have h:=zmz (b:=b) (zkd zo0.small zo0.valid) (zqR b) 2;exact⟨by omega,h.2⟩
 ·exact zwE b
theorem zhk {b:Str} (hb:b.length<=1000000000000):
  FnD Tryz.prog 31 [.d (zdi b)] [] (.tup [.d (zan (emW (b.take 2000))),.agg [.d (.i (emT (b.take 2000)).data),.d (.i (emT (b.take 2000)).index)],
   .agg [.d (.i (emP (b.take 2000)).op),.d (.i (emP (b.take 2000)).ctor),.d (.i (emP (b.take 2000)).n),.d (.i (emP (b.take 2000)).m),.d (.i (emP (b.take 2000)).var),.d (zaj (emP (b.take 2000)).kids)]]) []:=by
 have hop:=zhF hb;have hdp:=zhl hb;have hb2:(b.take 2000).length<=2000:=by rw[List.length_take];omega
 generalize b.take 2000=e at *;have hp0:=zaI (b:=e) (p:=0) (n:=3) hb2 (by omega) (by omega);by_cases h0:zal e 0 3=0
 ·have e1:emW e=w5:=if_pos h0;have e2:emT e=emT5 e:=if_pos h0;have e3:emP e=zcw e w5 (emT5 e) 2:=if_pos h0;rw[e1,e2,e3];have hp1:=zaI (b:=e) (p:=1) (n:=2) hb2 (by omega) (by omega);have ho:=zo0;have hso:=zii hb2 (ziR ho.small ho.valid).wt (zkd ho.small ho.valid) (a:=zal e 1 2) (k:=0) (p:=2) (by omega) (zqR e);have ht8:=zgO;have hts:=zmT (i:=5) (by omega);have hpw:=zgc (s:=nth zcT 5) (by omega);rw[show(zcQ (nth zcT 5)).1=w5 from rfl] at hpw;rw[show(⟨zal e 1 2,0⟩:Ty)=emT5 e from rfl] at hso;rw[show(emT5 e).data=zal e 1 2 from rfl,show(emT5 e).index=0 from rfl];generalize zcw e w5 (emT5 e) 2=p1 at *;generalize w5=w at *;clear e1 e2 e3 hdp;refine bd Tryz.f31 35 [] [] fun w0 F0 own kept hk=>?_;refine ab 3003 tz25 ?_;refine ab 3004 tz28 ?_;refine tv ?_;refine Walk.call (cr:=[900]) zrn (hop) rfl .none rfl rfl (LeL.refl _) trivial rfl (by first|rfl|(simp only[za2,List.all_cons,List.all_nil,zbQ,zbz,AV.idsL,AV.ids,zag,zaf,xae,List.map_nil];rfl)) (by first|rfl|(simp only[zaw,occH,occE,Res.ids,xag,List.nil_append,AV.idsL,AV.ids,zag,zaf,zaq,zaF,xae,List.map_nil,upC];rfl)) ?_;refine ev ?_;refine wd zbB (hp0) rfl rfl ⟨rfl,trivial⟩ ?_;refine ev ?_;refine sq ?_ ?_<;>intro h1 h1p h1s<;>(try simp only[Q] at h1p);refine wc zuq (zhH) rfl rfl ?_;refine xaU (i:=5) sl99 .none rfl rfl rfl rfl (zat (by rw[zgO];omega)) rfl ?_;refine ev ?_;refine wc zup (hpw) rfl rfl ?_;refine ev ?_;refine wd zbB (hp1) rfl rfl ⟨rfl,trivial⟩ ?_;refine bu [0] [_] st25 ?_;refine ab 3008 tz25 ?_;refine so ty25 ?_;refine tv ?_;refine wd zur (hso) rfl rfl ⟨rfl,trivial⟩ ?_;refine evd [] [] ?_;refine so ty25 ?_;refine so ty28 ?_;refine dr ?_;refine rn0 (.cons (.tmp rfl) (.cons (.cellA ty25 rfl rfl rfl) (.cons (.cellA ty28 rfl rfl rfl) .nil))) (.tup (.cons (.eqd ?_) (.cons (.agg (.cons (.eqd ?_) (.cons (.eqd ?_) .nil))) (.cons (.agg (.cons (.eqd ?_) (.cons (.eqd ?_) (.cons (.eqd ?_) (.cons (.eqd ?_) (.cons (.eqd ?_) (.cons (.eqd ?_) .nil))))))) .nil))));rotate_left 9;exfalso;first|contradiction|omega
  all_goals (rfl)
 ·have e1:emW e=pvW e:=if_neg h0;have e2:emT e=pvT e:=if_neg h0;have e3:emP e=pvP e:=if_neg h0;rw[e1,e2,e3];clear e1 e2 e3;generalize pvW e=w at *;generalize pvP e=p1 at *;generalize pvT e=t1 at *;refine bd Tryz.f31 35 [] [] fun w0 F0 own kept hk=>?_;refine ab 3003 tz25 ?_;refine ab 3004 tz28 ?_;refine tv ?_;refine Walk.call (cr:=[900]) zrn (hop) rfl .none rfl rfl (LeL.refl _) trivial rfl (by first|rfl|(simp only[za2,List.all_cons,List.all_nil,zbQ,zbz,AV.idsL,AV.ids,zag,zaf,xae,List.map_nil];rfl)) (by first|rfl|(simp only[zaw,occH,occE,Res.ids,xag,List.nil_append,AV.idsL,AV.ids,zag,zaf,zaq,zaF,xae,List.map_nil,upC];rfl)) ?_;refine ev ?_;refine wd zbB (hp0) rfl rfl ⟨rfl,trivial⟩ ?_;refine ev ?_;refine sq ?_ ?_<;>intro h1 h1p h1s<;>(try simp only[Q] at h1p);exfalso;first|contradiction|omega
  refine wc zwQ (hdp) rfl rfl ?_;refine ev ?_;refine so ty25 ?_;refine so ty28 ?_;refine tv ?_;refine rn0 (.cons (.tmp rfl) (.cons (.cellA ty25 rfl rfl rfl) (.cons (.cellA ty28 rfl rfl rfl) .nil))) (.tup (.cons (.eqd ?_) (.cons (.agg (.cons (.eqd ?_) (.cons (.eqd ?_) .nil))) (.cons (.agg (.cons (.eqd ?_) (.cons (.eqd ?_) (.cons (.eqd ?_) (.cons (.eqd ?_) (.cons (.eqd ?_) (.cons (.eqd ?_) .nil))))))) .nil))));rotate_left 9;all_goals (rfl)
theorem zhT {b:Str} (hb:b.length<=1000000000000):FnD Tryz.prog 10 [.d (zdi b)] [] (.d (.bool true)) []:=by
 have hdr:=zhk hb;have hs:=zsD (b.take 2000);have hp:=zwq (b.take 2000);generalize emW (b.take 2000)=w at *;generalize (emT (b.take 2000)).data=a at *;generalize (emT (b.take 2000)).index=k at *;generalize emP (b.take 2000)=p at *;have hie:=ziz hs (a:=a) (k:=k) hp.2;have hse:=ziO hs (a:=a) (k:=k) hp.2 (by omega);have hpv:=zcB hs (a:=a) (k:=k) hp.2;by_cases hv:zaW w a k p=true
 ·have hi:=ziB hs (a:=a) (k:=k) hp.2 hp.2;have hvu:=zjz hs (a:=a) (k:=k) (m:=3);have hvl:=zvC w ⟨a,k⟩ 3;have hvok:=zwI hs ⟨a,k⟩ 3;have hlaw:zdu w a k p=true->∀v∈(vut w ⟨a,k⟩ 3).1,(zfJ w a k p v).2=false:=fun he v hvm=>by
   have hpv:=hv;unfold zaW at hpv;rw[xad] at hpv;have hin:InS (w.length*4) ⟨a,k⟩:=by
    obtain⟨_,_,h3⟩:=zb2 hpv.1;by_cases ha:a = -1
    ·exact .inl ha
    ·obtain⟨h4,h5,h6,h7⟩:=h3 ha;have:=zjC (n:=w.length) h5 (j:=k.toNat) (by omega);rwa [Int.toNat_of_nonneg h4,Int.toNat_of_nonneg h6] at this
   exact zqj hs he (zvB (ziS hs (zb2 hpv.1).1) hin (by omega) hvm).1
  rw[hv] at hpv;have hfin:∀z,meV w a k p p=some z->zdu w a k p=decide (z.length=0):=fun z h=>zsE hs h;generalize (vut w ⟨a,k⟩ 3).1=vs at *;generalize zdu w a k p=e at *;generalize meV w a k p p=m at *;have hnil:(!m.isSome||(e == decide (((m.getD []).length:Int)=0)))=true:=by
   cases m with
   |none=>rfl
   |some z=>rw[hfin z rfl];simp
  clear hfin;generalize m.getD []=z at *;generalize m.isSome=o at *;refine bd Tryz.f10 94 [32,92] [] fun w0 F0 own kept hk=>?_;refine sq ?_ ?_<;>intro h1 h1p h1s<;>(try simp only[Q,Val.cs_len,Pat.cs_len] at h1p);refine rq ?_;rotate_left;refine wc zui (hdr) rfl rfl ?_;refine evs [32,92] [] ?_;refine ab 3004 tz25 ?_;refine ab 3005 tz28 ?_;refine evs [32,92] [] ?_;refine so ty25 ?_;refine so ty28 ?_;refine tv ?_;refine wc zuj (hie) rfl rfl ?_;refine evs [32,92] [] ?_;refine wc zoL (hse) rfl rfl ?_;refine Walk.neB un4 .none rfl rfl rfl ?_;refine evs [32,92] [] ?_;refine sq ?_ ?_<;>intro h2 h2p h2s<;>(try simp only[Q,Val.cs_len,Pat.cs_len] at h2p);refine sqT ?_;focus (exfalso;first|contradiction|(simp at *;done))
  refine Walk.call (cr:=[]) zil (hpv) rfl (.some rfl rfl h2) rfl rfl (LeL.refl _) trivial rfl rfl rfl ?_;refine evs [32,92] [(33,false)] ?_ ⟨⟨_,rfl,h2⟩,trivial⟩;refine sq ?_ ?_<;>intro h4 h4p h4s<;>(try simp only[Q,Val.cs_len,Pat.cs_len] at h4p);focus (exfalso;first|contradiction|(simp at *;done))
  refine wc zwM (hi) rfl rfl ?_;refine evs [32,92] [] ?_;refine wc zwK (hvu) rfl rfl ?_;refine evs [32,92] [] ?_;refine xak (ι:=List (Val)×List (Val)) hk (fun x=>[(11,.d (.i (x.1.length:Int)))]) [2,12,13,64,65,66,67,68,69,70,71,72,73,74,75,76,77,78,79,80,81,82,83,84] (fun x=>[]) (fun x=>x.1++x.2=vs) (fun x=>x.2.length) ([],vs) (by simp) ⟨⟨_,rfl,xar ?_⟩,trivial⟩ trivial (fun x=>rfl) (fun x hg1=>?_);focus (first|rfl|(simp;done)|(simp_all;done)|omega)
  obtain⟨pre,rest⟩:=x;dsimp only at hg1 ⊢;refine evc [32,92] [] ?_;refine sq ?_ ?_<;>intro h5 h5p h5s<;>(try simp only[Q,Val.cs_len,Pat.cs_len] at h5p);rcases rest with _|⟨v,rest⟩
  ·exfalso;simp_all
  refine xaU sl37 .none rfl rfl rfl rfl (Val.cs_at hg1) rfl ?_;refine evd [32,92] [] ?_;refine wc zwL (ziA hs hp.2 (hvok v (by rw[<-hg1];simp))) rfl rfl ?_;refine evd [32,92] [] ?_;refine dr ?_;refine sq ?_ ?_<;>intro h6 h6p h6s<;>(try simp only[Q,Val.cs_len,Pat.cs_len] at h6p);refine sq ?_ ?_<;>intro h7 h7p h7s<;>(try simp only[Q,Val.cs_len,Pat.cs_len] at h7p);focus (exfalso;have hlw:=hlaw (by first|assumption|(simp_all;done)) v (by rw[<-hg1];simp);first|contradiction|(simp_all;done))
  refine ar ?_;refine xah ((pre++[v],rest)) ⟨(by have hz:=hg1;rw[<-hz];simp),(by simp),sx ⟨⟨_,rfl,xar ?_⟩,trivial⟩ trivial⟩;focus (first|rfl|(simp;done)|(simp_all;done)|omega)
  refine sqF ?_;refine ar ?_;refine xah ((pre++[v],rest)) ⟨(by have hz:=hg1;rw[<-hz];simp),(by simp),sx ⟨⟨_,rfl,xar ?_⟩,trivial⟩ trivial⟩;focus (first|rfl|(simp;done)|(simp_all;done)|omega)
  have hrest:rest=[]:=by
   rcases rest with _|⟨a,b⟩
   ·rfl
   ·exfalso;have hz:=congrArg List.length (hg1);simp only[xaa,xab,xac] at hz;omega
  subst hrest;refine sq ?_ ?_<;>intro h9 h9p h9s<;>(try simp only[Q,Val.cs_len,Pat.cs_len] at h9p);refine rq ?_;rotate_left;refine Walk.eqB un4 (.some rfl rfl h9) rfl rfl rfl ?_;refine evs [32,92] [(87,false)] ?_ ⟨⟨_,rfl,h9⟩,trivial⟩;refine rq ?_;rotate_left;all_goals (first|rfl|contradiction|(refine congrArg D.bool ?_;simp[Pat.cs_len] at *;simp_all;done)|(refine congrArg D.bool ?_;simp_all[Pat.cs_len];done))
 ·have hv':zaW w a k p=false:=by simpa using hv
  have he:zdu w a k p=false:=by unfold zdu;rw[hv'];rfl
  rw[hv'] at hpv;rw[he] at hie hse;refine bd Tryz.f10 94 [32,45] [] fun w0 F0 own kept hk=>?_;refine sq ?_ ?_<;>intro h1 h1p h1s<;>(try simp only[Q] at h1p);refine rq ?_;rotate_left;refine wc zui (hdr) rfl rfl ?_;refine evs [32,45] [] ?_;refine ab 3004 tz25 ?_;refine ab 3005 tz28 ?_;refine evs [32,45] [] ?_;refine so ty25 ?_;refine so ty28 ?_;refine tv ?_;refine wc zuj (hie) rfl rfl ?_;refine evs [32,45] [] ?_;refine wc zoL (hse) rfl rfl ?_;refine Walk.neB un4 .none rfl rfl rfl ?_;refine evs [32,45] [] ?_;refine sq ?_ ?_<;>intro h2 h2p h2s<;>(try simp only[Q] at h2p);refine sqT ?_;refine wc zoL (hse) rfl rfl ?_;refine Walk.eqB un4 .none rfl rfl rfl ?_;refine evs [32,45] [] ?_;refine sq ?_ ?_<;>intro h4 h4p h4s<;>(try simp only[Q] at h4p);refine rq ?_;rotate_left;refine rq ?_;rotate_left;refine Walk.call (cr:=[]) zil (hpv) rfl (.some rfl rfl h2) rfl rfl (LeL.refl _) trivial rfl rfl rfl ?_;refine evs [32,45] [(33,false)] ?_ ⟨⟨_,rfl,h2⟩,trivial⟩;refine sq ?_ ?_<;>intro h5 h5p h5s<;>(try simp only[Q] at h5p);refine wc zoL (hse) rfl rfl ?_;refine Walk.eqB un4 .none rfl rfl rfl ?_;refine evs [32,45] [] ?_;refine sq ?_ ?_<;>intro h6 h6p h6s<;>(try simp only[Q] at h6p);refine rq ?_;rotate_left;refine rq ?_;rotate_left;focus (exfalso;first|contradiction|(simp at *;done))
  all_goals (first|rfl|contradiction|(exfalso;simp at *;done))
end Go.Proofs.YtpgdedpljcedpaaGreat
namespace Go.Proofs.YtpgdedpljcedpaaGreat
open Go Go.ChangeShapes Go.WideShapes Go.ChangeAt Go.RowKit
set_option linter.unusedSimpArgs false
set_option linter.unusedVariables false
set_option linter.unusedVariables false
def FW (W:World) (b:Nat):Nat:=match W.heap[b]? with
 |some (.cells cs _ _)=>cs.size
 |_=>0
theorem FW_cell {W:World}{b o:Nat}{v:Value} (h:W.cell? ⟨b,o,none⟩=some v):o<FW W b:=by
 unfold World.cell? at h;unfold FW;simp only at h;split at h
 ·rename_i c t fr hb;simp only[hb];simp only[Option.isSome_none,Bool.false_eq_true,if_false] at h;exact(Array.getElem?_eq_some_iff.1 h).1
 ·cases h
theorem FW_top {W:World}{b:Nat} (h:W.heap.size<=b):FW W b=0:=by
 unfold FW;rw[Array.getElem?_eq_none h]
structure RelL (W:World) (xs:List D) (cs:List Value):Prop where
 len:xs.length=cs.length
 rel:∀i (h1:i<xs.length) (h2:i<cs.length),RelD (FW W) W xs[i] cs[i]
theorem RelL.append {W:World}{xs ys:List D}{cs ds:List Value} (h:RelL W xs cs) (k:RelL W ys ds):RelL W (xs++ys) (cs++ds):=by
 refine⟨by simp[h.len,k.len],fun i h1 h2=>?_⟩;by_cases hi:i<xs.length
 ·rw[List.getElem_append_left hi,List.getElem_append_left (by rw[<-h.len];exact hi)];exact h.rel i hi (by rw[<-h.len];exact hi)
 ·have hl:=h.len;rw[List.getElem_append_right (by omega),List.getElem_append_right (by omega)];have e:i-xs.length=i-cs.length:=by omega
  have h1':i-xs.length<ys.length:=by simp only[xaa] at h1;omega
  have h2':i-cs.length<ds.length:=by simp only[xaa] at h2;omega
  have:=k.rel (i-xs.length) h1' (by omega);simp only[e] at this ⊢;exact this
def Dec (P:Program) (W:World) (n:Nat) (t:TypeId){α:Type} (f:α->List D) (m:α->Nat) (R:α->Prop):Prop:=
 ∀(H:Type) (enc:TypeId×Value->H) (cs:List Value) (x:DataW H×List MemPlace),DataW.trod enc P W 0 (fun _=>true) true n t cs=some x->
  ∃a,RelL W (f a) cs/\m a+1<=Rows.uptoBulk x.1/\R a
section
variable {P:Program}{W:World}{n:Nat}{t:TypeId}
theorem Dec.zero {α:Type}{f:α->List D}{m:α->Nat}{R:α->Prop}:Dec P W 0 t f m R:=fun H enc cs x h=>by simp[DataW.trod] at h
theorem Dec.map {α β:Type}{f:α->List D}{m:α->Nat}{R:α->Prop}{f':β->List D}{m':β->Nat}{R':β->Prop} (g:α->β) (h:Dec P W n t f m R)
  (h1:∀a,f' (g a)=f a) (h2:∀a,m' (g a)<=m a) (h3:∀a,R a->R' (g a)):Dec P W n t f' m' R':=fun H enc cs x hx=>by
 obtain⟨a,q1,q2,q3⟩:=h H enc cs x hx;exact⟨g a,by rw[h1];exact q1,by have:=h2 a;omega,h3 a q3⟩
theorem RelL.one {x:D}{v:Value} (h:RelD (FW W) W x v):RelL W [x] [v]:=
 ⟨rfl,fun i h1 h2=>by
  have:i=0:=by simp at h1;omega
  subst this;exact h⟩
theorem Dec.int {k:IntKind} (ht:P.underlying t=some (.int k)):Dec P W n t (fun z:Int=>[.int k z]) (fun _=>0) (fun z=>(Lit.int k z).wf=true):=fun H enc cs x h=>by
 obtain⟨z,rfl,rfl,hw⟩:=DataW.trod_int ht h;exact⟨z,.one (.int k z),by simp[Rows.uptoBulk],hw⟩
theorem Dec.bool (ht:P.underlying t=some .bool):Dec P W n t (fun z:Bool=>[.bool z]) (fun _=>0) (fun _=>True):=fun H enc cs x h=>by
 obtain⟨z,rfl,rfl⟩:=DataW.trod_bool ht h;exact⟨z,.one (.bool z),by simp[Rows.uptoBulk],trivial⟩
theorem Dec.str (ht:P.underlying t=some .string):Dec P W n t (fun s:Str=>[.str s]) (fun s=>s.length) (fun _=>True):=fun H enc cs x h=>by
 obtain⟨s,rfl,rfl,hw⟩:=DataW.trod_string ht h;exact⟨s.data.toList,.one (by have:=RelD.str (F:=FW W) (w:=W) s.data.toList;simpa using this),by simp[Rows.uptoBulk],trivial⟩
def sumM {α:Type} (m:α->Nat):List α->Nat
 | []=>0
 |a::r=>m a+1+sumM m r
theorem zp9 {α:Type} (m:α->Nat):∀l:List α,l.length<=sumM m l
 | []=>by simp[sumM]
 |a::r=>by have:=zp9 m r;simp only[sumM,xab];omega
theorem zkH {α β:Type}{Q:Nat->α->β->Prop}:∀(l:List β) (o:Nat),(∀i (h:i<l.length),∃a,Q (o+i) a l[i])->∃zs:List α,zs.length=l.length/\∀i (h:i<l.length) (h':i<zs.length),Q (o+i) zs[i] l[i]
 | [],o,_=>⟨[],rfl,fun i h=>by simp at h⟩
 |b::r,o,h=>by
  obtain⟨a,ha⟩:=h 0 (by simp);obtain⟨zs,h1,h2⟩:=zkH (Q:=Q) r (o+1) (fun i hi=>by
   have:=h (i+1) (by simp;omega);rw[show o+1+i=o+(i+1) by omega];simpa using this)
  refine⟨a::zs,by simp[h1],fun i hi hi'=>?_⟩;cases i with
  |zero=>exact ha
  |succ i=>
   have:=h2 i (by simpa using hi) (by simpa using hi');rw[show o+1+i=o+(i+1) by omega] at this;simpa using this
theorem zo7 {H α:Type}{m:α->Nat}:∀ {zs:List α}{xs:List (DataW H)},zs.length=xs.length->(∀i (h:i<zs.length) (h':i<xs.length),m zs[i]+1<=Rows.uptoBulk xs[i])->sumM m zs<=Rows.uptoBulkAll xs
 | [],[],_,_=>by simp[sumM,Rows.uptoBulkAll]
 |a::zs,x::xs,hl,h=>by
  have h0:=h 0 (by simp) (by simp);have ih:=zo7 (m:=m) (zs:=zs) (xs:=xs) (by simpa using hl) (fun i h1 h2=>by
   have:=h (i+1) (by simp;omega) (by simp;omega);simpa using this)
  simp only[sumM,Rows.uptoBulkAll];simp only[List.getElem_cons_zero] at h0;omega
 | [],_::_,hl,_=>by simp at hl
 |_::_,[],hl,_=>by simp at hl
theorem Dec.sl {α:Type}{f:α->List D}{m:α->Nat}{R:α->Prop}{e:TypeId}{k:Nat} (ht:P.underlying t=some (.slice e)) (hc:P.cellsOf e=k+1) (hk:∀a,(f a).length=k+1) (he:Dec P W n e f m R):
  Dec P W (n+1) t (fun l:List α=>[.sl (l.map f)]) (fun l=>sumM m l) (fun l=>∀a∈l,R a):=fun H enc cs x h=>by
 rcases DataW.trod_slice ht h with ⟨rfl,rfl⟩|⟨a,len,cap,elems,rest,n',hn,rfl,rfl,_,hcap,_,hlen,hel,_,_⟩
 ·exact⟨[],.one .nil,by simp[sumM,Rows.uptoBulk],fun a h=>by simp at h⟩
 obtain rfl:n=n':=by omega
 have each:∀i (hi:i<elems.length),∃y,(∃cs,W.cells? 0 (a.add (i*(k+1))) (k+1)=some cs/\RelL W (f y) cs)/\m y+1<=Rows.uptoBulk (elems[i]).1/\R y:=by
  intro i hi;have:=hel i (by omega);rw[hc,List.getElem?_eq_getElem hi,Option.bind_eq_some_iff] at this;obtain⟨cs,h1,h2⟩:=this;obtain⟨y,h3,h4,h5⟩:=he H enc cs _ h2;exact⟨y,⟨cs,h1,h3⟩,h4,h5⟩
 obtain⟨zs,hal,has⟩:=zkH (Q:=fun i y (el:DataW H×List MemPlace)=>(∃cs,W.cells? 0 (a.add (i*(k+1))) (k+1)=some cs/\RelL W (f y) cs)/\m y+1<=Rows.uptoBulk el.1/\R y) elems 0 (fun i hi=>by simpa using each i hi);refine⟨zs,.one ?_, ?_,fun y hy=>?_⟩
 ·by_cases h0:zs=[]
  ·subst h0;have hz:len=0:=by simp at hal;omega
   subst hz;obtain⟨b,o,s⟩:=a;cases s with
   |none=>exact .sl [] 0 b o cap (fun _=>undef) (by simp) (by simp) (fun n hn=>by simp at hn) (fun i hi=>by simp at hi)
   |some s=>exact .emp b o s cap
  ·have hpos:0<zs.length:=List.length_pos_iff.2 h0;obtain⟨⟨cs0,hc0,hr0⟩,_⟩:=has 0 (by omega) hpos;have hspot:a.spot=none:=by
    have h1:=(World.cells?_some hc0).2.2 0 (by omega);have h2:0<cs0.length:=by have:=(World.cells?_some hc0).2.1;omega
    simp only[Nat.add_zero,Nat.zero_mul,Addr.add,if_true,List.getElem?_eq_getElem h2] at h1;unfold World.cell? at h1;split at h1
    ·cases hs:a.spot with
     |none=>rfl
     |some s=>simp[hs] at h1
    ·cases h1
   obtain⟨b,o,s⟩:=a;simp only at hspot;subst hspot;have hlen':(zs.map f).length=len:=by simp;omega
   have hmulk:∀i j,i<zs.length->j<k+1->i*(k+1)+j<zs.length*(k+1):=fun i j hi hj=>by
    have:(i+1)*(k+1)<=zs.length*(k+1):=Nat.mul_le_mul_right _ (by omega);rw[Nat.add_mul,Nat.one_mul] at this;omega
   have cellAt:∀i (hi:i<zs.length) j (hj:j<(f zs[i]).length),∃v,W.cell? ⟨b,o+(i*(k+1)+j),none⟩=some v/\RelD (FW W) W ((f zs[i])[j]) v:=fun i hi j hj=>by
    obtain⟨⟨cs,hc1,hr1⟩,_⟩:=has i (by omega) hi;have hjk:j<k+1:=by have:=hk zs[i];omega
    obtain⟨_,q1,q2⟩:=World.cells?_some hc1;have q3:=q2 j hjk;rw[List.getElem?_eq_getElem (by omega)] at q3;refine⟨cs[j], ?_,hr1.rel j hj (by omega)⟩;rw[<-q3];congr 1
    simp only[Nat.zero_add,Addr.add];split<;>split<;>simp_all<;>omega
   have hv:((zs.map f).length,cap)=(len,cap):=by rw[hlen']
   have goal:RelD (FW W) W (.sl (zs.map f)) (.slice (some ⟨b,o,none⟩) (zs.map f).length cap):=by
    refine .sl _ (k+1) b o cap (fun q=>(W.cell? ⟨b,o+q,none⟩).getD undef) (fun y hy=>?_) (by omega) (fun q hq=>?_) (fun i hi j hj=>?_)
    ·obtain⟨y',_,rfl⟩:=List.mem_map.1 hy;exact hk y'
    ·have hq':q<zs.length*(k+1):=by simpa using hq
     have hi:q / (k+1)<zs.length:=Nat.div_lt_of_lt_mul (by rw[Nat.mul_comm];exact hq');have hj:q % (k+1)<k+1:=Nat.mod_lt _ (by omega);obtain⟨v,h1,_⟩:=cellAt _ hi (q % (k+1)) (by rw[hk];exact hj);rw[Nat.div_add_mod'] at h1;exact⟨FW_cell h1,by rw[h1];rfl⟩
    ·have hi':i<zs.length:=by simpa using hi
     simp only[List.getElem_map] at hj ⊢;obtain⟨v,h1,h2⟩:=cellAt i hi' j hj;show RelD (FW W) W _ ((W.cell? ⟨b,o+(i*(k+1)+j),none⟩).getD undef)
     rw[h1];exact h2
   rw[hlen'] at goal;exact goal
 ·have:=zo7 (m:=m) (zs:=zs) (xs:=elems.map (·.1)) (by simp[hal]) (fun i h1 h2=>by
   have:=(has i (by simpa using h2) h1).2.1;simpa using this)
  simp only[Rows.uptoBulk];omega
 ·obtain⟨i,hi,rfl⟩:=List.getElem_of_mem hy;exact(has i (by omega) hi).2.2
def DecF (P:Program) (W:World) (n o K:Nat) (fs:List Field){α:Type} (f:α->List D) (m:α->Nat) (R:α->Prop):Prop:=
 ∀(H:Type) (enc:TypeId×Value->H) (cs:List Value) (xs:List (DataW H×List MemPlace)),cs.length=K->xs.length=fs.length->
  (∀(i:Nat) (fd:Field),fs[i]?=some fd->DataW.trod enc P W 0 (fun _=>true) true n fd.type ((cs.drop fd.offset).take (P.cellsOf fd.type))=xs[i]?)->
  ∃a,RelL W (f a) (cs.drop o)/\m a<=Rows.uptoBulkAll (xs.map (·.1))/\R a
theorem DecF.nil {K:Nat}:DecF P W n K K [] (fun _:Unit=>[]) (fun _=>0) (fun _=>True):=fun H enc cs xs h1 h2 _=>
 ⟨(),by rw[List.drop_of_length_le (by omega)];exact⟨rfl,fun i h=>by simp at h⟩,by simp,trivial⟩
theorem DecF.cons {α β:Type}{f:α->List D}{m:α->Nat}{R:α->Prop}{f2:β->List D}{m2:β->Nat}{R2:β->Prop}{o K k:Nat}{fd:Field}{fs:List Field}
  (h1:Dec P W n fd.type f m R) (ho:fd.offset=o) (hc:P.cellsOf fd.type=k) (h2:DecF P W n (o+k) K fs f2 m2 R2):
  DecF P W n o K (fd::fs) (fun p:α×β=>f p.1++f2 p.2) (fun p=>m p.1+1+m2 p.2) (fun p=>R p.1/\R2 p.2):=fun H enc cs xs hK hl hx=>by
 cases xs with
 |nil=>simp at hl
 |cons y ys=>
  have h0:=hx 0 fd (by simp);simp only[List.getElem?_cons_zero] at h0;rw[ho,hc] at h0;obtain⟨a,q1,q2,q3⟩:=h1 H enc _ _ h0;obtain⟨b,r1,r2,r3⟩:=h2 H enc cs ys hK (by simpa using hl) (fun i fd' hi=>by
   have:=hx (i+1) fd' (by simpa using hi);simpa using this)
  refine⟨(a,b), ?_, ?_,q3,r3⟩
  ·have:cs.drop o=(cs.drop o).take k++cs.drop (o+k):=by
    rw[<-List.drop_drop,List.take_append_drop]
   rw[this];exact q1.append r1
  ·simp only[xae,Rows.uptoBulkAll];omega
theorem Dec.struct {α:Type}{f:α->List D}{m:α->Nat}{R:α->Prop}{fs:Array Field} (ht:P.underlying t=some (.struct fs)){K:Nat} (hK:P.cellsOf t=K) (h:DecF P W n 0 K fs.toList f m R):
  Dec P W (n+1) t f m R:=fun H enc cs x hx=>by
 obtain⟨xs,n',hn,rfl,hl,hxl,hf⟩:=DataW.trod_struct ht hx;obtain rfl:n=n':=by omega
 obtain⟨a,q1,q2,q3⟩:=h H enc cs xs (by omega) (by simpa using hxl) (fun i fd hi=>hf i fd (by simpa using hi));refine⟨a,by simpa using q1, ?_,q3⟩;simp only[Rows.uptoBulk];omega
end
section
variable {P:Program}{W:World}{base:Nat}{t:TypeId}{v:Value}{H:Type}{enc:TypeId×Value->H}{d:DataW H}{ps:List MemPlace}
theorem zvH {α:Type}{e:TypeId}{f:α->List D}{m:α->Nat}{R:α->Prop}{k:Nat} (ht:P.underlying t=some (.slice e)) (hc:P.cellsOf e=k+1) (hk:∀a,(f a).length=k+1) (hd:∀n,Dec P W n e f m R)
  (hval:Value.okWide P W .any base t v) (h:DataW.Trod enc P W 0 (fun _=>true) true t v d ps):
  ∃l:List α,(∀G T,G.F=FW W->RelA G T W (.d (.sl (l.map f))) v)/\sumM m l+1<=Rows.uptoBulk d/\∀a∈l,R a:=by
 obtain⟨n,hn⟩:=h;cases n with
 |zero=>simp[DataW.trod] at hn
 |succ n=>
  obtain⟨l,h1,h2,h3⟩:=Dec.sl ht hc hk (hd n) H enc _ _ hn;have hcells:v.cells.toList=[v]:=by
   cases v with
   |agg cs=>simp only[Value.okWide,ht,Cell.okWide,Cell.ok] at hval
   |_=>rfl
  rw[hcells] at h1;exact⟨l,fun G T hG=> .d (by rw[hG];simpa using h1.rel 0 (by simp) (by simp)),h2,h3⟩
end
section
variable {P:Program}{H:Type}{enc:TypeId×Value->H}
theorem zi6 (hl:laidOutB P=true){W W':World} (hb:Below W.heap.size W W'):∀ {ts:List TypeId}{vs:List Value}{ds:List (DataW H)}{ps:List MemPlace},
  (∀t∈ts,P.readableRec t=true/\t<P.types.size)->DataW.TrodAll enc P W 0 (fun _=>true) true ts vs ds ps->(∀x∈ps,x.block<W.heap.size)->
  DataW.TrodAll enc P W' 0 (fun b=>decide (b<W.heap.size)) true ts vs ds ps
 | [],[],[],ps,_,h,_=>h
 |t::ts,v::vs,d::ds,ps,hr,h,hlt=>by
  obtain⟨p,q,h1,h2,rfl⟩:=h;exact⟨p,q,Below.trod hl (hr t (by simp)).1 (hr t (by simp)).2 h1 hb (fun x hx=>hlt x (by simp[hx])),
   zi6 hl hb (fun t ht=>hr t (by simp[ht])) h2 (fun x hx=>hlt x (by simp[hx])),rfl⟩
theorem ztN {f:Func}{s:ChangeSpec}{W W':World}{args:Array Value}{ds gs:List (DataW H)}{before:List MemPlace}{tb:TypeId}
  (hW:DataW.Whole enc P f.params.toList s.vars false W args.toList ds gs before) (hvars:s.vars=[]) (hrt:f.resultTypes = #[tb]) (htb:P.underlying tb=some .bool)
  (hs:s.fn H (ds++gs)={ results:=[.lit (.bool true)],args:=ds }) (hl:laidOutB P=true) (hr:∀t∈f.params.toList,P.readableRec t=true/\t<P.types.size)
  (hb:Below W.heap.size W W'):s.post enc P f false true false false W args (.bool true) W':=by
 have hlt:∀p∈before,p.block<W.heap.size:=fun p hp=>hW.lt p hp;have hW0:=hW;obtain⟨p,q,hA,hV,rfl,hfz,_⟩:=hW;rw[hvars] at hV;cases gs with
 |cons g gs=>exact hV.elim
 |nil=>
  have hq:q=[]:=hV;subst hq;simp only[List.append_nil] at *;refine⟨ds,[],p,[],p,[],by simpa [hvars] using hW0, ?_, ?_, ?_,World.keptBut_mono (fun x hx=>⟨hx,.inr (.inl hx)⟩) (hb.frame (·∈p)),fun h=>by cases h⟩
  ·simp only[List.append_nil,hs,hrt];exact trodAll_cons_mk (shut_bool htb _) trodAll_mk0
  ·simp only[List.append_nil,hs];exact zi6 hl hb hr hA hlt
  ·simp only[hvars,List.append_nil,hs];rfl
theorem zsN {f:FuncId}{avs:List AV}{W:World}{args:Array Value}{r:AV} (hf:FnD P f avs [] r [])
  (hargs:∀G T,G.F=FW W->AllR G T W avs args):Calls P f args W fun e W'=>∃v G',e = .returned v/\RelA G' (fun _=>none) W' r v/\Below W.heap.size W W':=by
 let G:Gh:={ F:=FW W,loc:=fun _=>[] }
 refine(hf G W args ⟨hargs G _ rfl,fun id r h=>(by simp[getH] at h),fun id id' h=>(by simp[getH] at h),fun b hb=>FW_top hb⟩).mono ?_;rintro e W' ⟨v,r',hp',G',rfl,⟨rfl,rfl⟩,h⟩
 exact⟨v,G',rfl,h.res,⟨h.frm.os,h.frm.tape,h.frm.output,h.frm.size,fun b hb=>(h.frm.block b hb (by simp[zcP])).1⟩⟩
theorem RelA.bool_true {G:Gh}{T:TokF}{w:World}{v:Value} (h:RelA G T w (.d (.bool true)) v):v = .bool true:=by
 cases h with|d h=>cases h;rfl
theorem ztu {H:Type}{l:List (DataW H)} (hk:Rows.uptoSmall H l=true):Rows.uptoBulkAll l<=1048576:=of_decide_eq_true hk
end
end Go.Proofs.YtpgdedpljcedpaaGreat
namespace Go.Proofs.YtpgdedpljcedpaaGreat
open Go Go.ChangeShapes Go.WideShapes Go.ChangeAt Go.RowKit
set_option linter.unusedSimpArgs false
set_option linter.unusedVariables false
set_option maxRecDepth 100000
theorem zu7 (W:World) (n:Nat):Dec Tryz.prog W n 5 (fun x:UInt8=>[D.int .u8 (x.toNat:Int)]) (fun _=>0) (fun _=>True):=fun H enc cs x hx=>by
 obtain⟨z,q1,q2,q3⟩:=Dec.int (k:= .u8) Tryz.underlying5 H enc cs x hx;have h:0<=z/\z<=255:=by
  simp[Lit.wf,IntKind.wrap,IntKind.signed,IntKind.bits,IntKind.min,IntKind.max] at q3;omega
 refine⟨UInt8.ofNat z.toNat, ?_,q2,trivial⟩;have e:(((UInt8.ofNat z.toNat).toNat:Nat):Int)=z:=by
  rw[UInt8.toNat_ofNat',Nat.mod_eq_of_lt (by omega)];omega
 show RelL W [D.int .u8 (((UInt8.ofNat z.toNat).toNat:Nat):Int)] cs
 rw[e];exact q1
end Go.Proofs.YtpgdedpljcedpaaGreat
namespace Go.Proofs.YtpgdedpljcedpaaGreat.fnEmptyPattern
open Go Go.ChangeShapes Go.WideShapes Go.ChangeAt Go.RowKit
set_option linter.unusedSimpArgs false
set_option linter.unusedVariables false
theorem own:ownKnob Tryz.prog.godebug=none:=by kernel_rfl
theorem laidOut:laidOutB Tryz.prog=true:=by kernel_rfl
set_option maxRecDepth 100000 in
theorem contract (H:Type) (enc:TypeId×Value→H) (W:World) (base:Nat) (args:Array Value) (ds gs:List (DataW H)) (before:List MemPlace)
  (hval:∀(j:Nat) t v,Tryz.f10.params[j]?=some t→args[j]?=some v→Value.okWide Tryz.prog W .any base t v)
  (hW:DataW.Whole enc Tryz.prog Tryz.f10.params.toList Rows.fnEmptyPatternSpec.vars false W args.toList ds gs before) (hk:Rows.uptoSmall H (ds++gs)=true):
  Calls Tryz.prog 10 args W fun e W'=>∃v,e = .returned v∧Rows.fnEmptyPatternSpec.post enc Tryz.prog Tryz.f10 false true false false W args v W':=by
 have hb:=ztu hk
 have hW':=hW
 obtain⟨p,q,hA0,hV,rfl,hfz,hnd⟩:=hW
 have hA:DataW.TrodAll enc Tryz.prog W 0 (fun _=>true) true Tryz.f10.params.toList args.toList ds p:=hA0
 rw[Tryz.params10] at hA hval
 obtain⟨v0,vs0,d0,ds0,p0,q0,hargs,rfl,rfl,h0,r0⟩:=trodAll_cons hA
 obtain⟨rfl,rfl,rfl⟩:=trodAll_nil r0
 obtain rfl:args = #[v0]:=by cases args;simp_all
 obtain⟨rfl,rfl⟩:=trodVars_none hV
 simp only[List.append_nil,Rows.uptoBulkAll] at hb
 obtain⟨code,a0,b0,_⟩:=zvH (k:=0) Tryz.underlying22 (by kernel_rfl) (fun _=>rfl) (zu7 W) (hval 0 _ v0 rfl rfl) h0
 have ln_code:code.length≤1000000000000:=by have:=zp9 (fun _:UInt8=>0) code;omega
 refine(zsN ((zhT ln_code)) (W:=W) (args:=#[v0]) (fun G T hG=>⟨rfl,fun i hi hv=>?_⟩)).mono ?_
 ·match i,hi with
  |0,_=>exact a0 G T hG
 ·rintro e W' ⟨v,G',rfl,hr,hbelow⟩
  obtain rfl:=hr.bool_true
  exact⟨_,rfl,ztN hW' rfl rfl Tryz.underlying4 rfl laidOut (fun t ht=>by
   simp only[Tryz.params10,List.mem_cons,List.not_mem_nil,or_false] at ht
   rcases ht with rfl<;>exact⟨by kernel_rfl,of_decide_eq_true (by kernel_rfl)⟩) hbelow⟩
set_option maxRecDepth 100000 in
theorem lifted (os:Os) (started:os.Started) (H:Type) (enc:TypeId×Value→H) (F:Stop.Interp):
  ReturnsInHanded {} Tryz.checked os 10 .any ((Rows.OpenSpec.upto Rows.fnEmptyPatternSpec).pre6 enc Tryz.prog Tryz.f10 Rows.fnEmptyPatternUptoRow.domain false) (((Rows.OpenSpec.upto Rows.fnEmptyPatternSpec).at F).post enc Tryz.prog Tryz.f10 false true false false):=by
 refine returnsInHanded_of_cond (C:=Tryz.checked) (s:=Rows.OpenSpec.upto Rows.fnEmptyPatternSpec) (k:=Rows.uptoSmall) rfl own started (by kernel_rfl) Tryz.func10
  (OpenSpec.witness (enc:=enc) (C:=Tryz.checked) (s:=Rows.OpenSpec.upto Rows.fnEmptyPatternSpec) (k:=Rows.uptoSmall) rfl false ⟨#[],#[.slice none 0 0],[]⟩ 8 (by kernel_rfl) (by kernel_rfl) (by kernel_rfl)
   (x:=([.nil],[],[])) (by kernel_rfl) rfl (by kernel_rfl)) ?_
 intro W base args ds gs before hval hW _ hk _
 exact contract H enc W base args ds gs before hval hW hk
theorem kf1:(Rows.fnEmptyPatternUptoRow.inPlace == Tryz.pinned.checked.prog.inPlace 10)=true:=by kernel_rfl
theorem kf2:(Rows.fnEmptyPatternUptoRow.unfollowed == Tryz.pinned.checked.prog.unfollowed 10)=true:=by kernel_rfl
theorem kf3:(Rows.fnEmptyPatternUptoRow.recurses == Tryz.pinned.checked.prog.recurses 10)=true:=by kernel_rfl
theorem kf4:(Rows.fnEmptyPatternUptoRow.named == Tryz.pinned.checked.prog.varsNamed 10)=true:=by kernel_rfl
theorem kf5:laidOutB Tryz.pinned.checked.prog=true:=by kernel_rfl
theorem kf6:mapsRowed Tryz.pinned.checked.prog=true:=by kernel_rfl
theorem kf7:Tryz.pinned.checked.prog.stopsHeard=true:=by kernel_rfl
theorem kf8:Tryz.pinned.checked.prog.mayEnter=true:=by kernel_rfl
theorem kf9:(Rows.fnEmptyPatternUptoRow.lifted == Tryz.pinned.checked.prog.liftsFinal)=true:=by kernel_rfl
theorem kf0:(Rows.fnEmptyPatternUptoRow.plainKeys == Tryz.pinned.checked.prog.plainKeys)=true:=by kernel_rfl
theorem facts:joinedFacts Tryz.pinned.checked.prog 10 Tryz.f10 (Rows.OpenSpec.upto Rows.fnEmptyPatternSpec).bare Rows.fnEmptyPatternUptoRow=true:=by
 unfold joinedFacts
 rw[kf1,kf2,kf3,kf4,kf5,kf6,kf7,kf8,kf9,kf0]
 kernel_rfl
theorem named:Tryz.pinned.checked.prog.funcNamed Rows.fnEmptyPatternUptoRow.func=some 10:=by kernel_rfl
theorem over:Rows.fnEmptyPatternUptoRow.holds Tryz.pinned (Rows.OpenSpec.upto Rows.fnEmptyPatternSpec):=
 OpenClaim.holds_of_cond 10 Tryz.f10 rfl rfl rfl rfl rfl rfl rfl ⟨rfl,rfl,rfl,rfl,rfl⟩ rfl rfl rfl rfl rfl named Tryz.func10 facts
  (of_decide_eq_true (by as_aux_lemma=>kernel_rfl)) (by as_aux_lemma=>unfold Func.isWrapper;first|(rw[if_pos (by decide +kernel)];kernel_rfl)|(rw[if_neg (by decide +kernel)];exact⟨rfl,rfl⟩))
  (fun os started H enc _ F=>lifted os started H enc F)
theorem proved:Rows.FnEmptyPatternUptoSaid:=over
end Go.Proofs.YtpgdedpljcedpaaGreat.fnEmptyPattern
